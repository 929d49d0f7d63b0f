/- Part G of the proof: ZwOrd1, ZwOrd2, ZwOrd3, ZwOrd4, ZwOrd5, ZwOrd6, ZwOrd7, ZwOrd8, ZwOrd9, ZwOrd10, ZwOrd11, ZwOrd12, ZwOrd13, ZwRefE, ZwRefF, ZwPart, ZwRefK, ZwDesk, ZwSrc, ZwDraw, ZwSearch, ZwFirst, ZwDraw4, ZwMap1, ZwDraw5, ZwLift1, ZwMap2, ZwMap3, ZwMap4. Conditions: none. -/
import Derived.Sort.AssemblyPlain
import Derived.Sort.LotA
import Derived.Sort.LotC
import Derived.Sort.LotD3
import Derived.Test.YtbdlmjnpglfkoaaDoorZpD
import Derived.Test.YtbdlmjnpglfkoaaDoorZpE
import Derived.Test.YtbdlmjnpglfkoaaDoorZpF
set_option linter.unusedSimpArgs false
set_option linter.unusedVariables false
set_option linter.unusedSectionVars false
namespace Go.Proofs.YtbdlmjnpglfkoaaDoor.Zv
/- Sorting of numbers, as the library does it: what is sorted, told once. -/
section
open Go Go.Sort
structure SO (nro : Nat) (S : Value) (P : Int → Value) (ag : Nat → Value) (cm : Nat → Nat → Int) (N : Nat) (H : Array Nat → VH) : Prop where
 len : ∀ d d', (H d).length = (H d').length
 nr : ∀ d, nro ≤ (H d).length
 oS : ∀ n, (H #[]).length ≤ n → Old n S
 idx : ∀ (d : Array Nat) (x : Int), d.size = N → 0 ≤ x → x < N → vidx 1 (H d) S (.int .i64 x) = some (P x, H d)
 load : ∀ (d : Array Nat) (x : Int), d.size = N → 0 ≤ x → x < N → vload false 1 (H d) (P x) = some (ag (getI d x))
 store : ∀ (d : Array Nat) (x : Int) (v : Nat), d.size = N → 0 ≤ x → x < N → vstore nro 1 (H d) (P x) (ag v) = some (H (setI d x v))
 cmp : ∀ (d : Array Nat) (x y : Nat), vcall F nro k_zz53 [ag x, ag y] (H d) = some (.bool (decide (cm x y < 0)), H d)
 upd : ∀ (d d' : Array Nat), Upd (H d) (H d')
 vln : ∀ d, d.size = N → vlen (H d) S = some (.int .i64 N, H d)
 hN : N ≤ 1000
section
variable {nro : Nat} {S : Value} {P : Int → Value} {ag : Nat → Value} {cm : Nat → Nat → Int} {N : Nat} {H : Array Nat → VH}
theorem SO.clean (E : SO nro S P ag cm N H) (d d' : Array Nat) (L : VH) (vs : List Value) (hv : ∀ v ∈ vs, Old (H #[]).length v) : kclean (H d) vs (H d' ++ L) = (vs, H d') :=
 cleanup_upd (E.upd d d') (by rw [E.len d #[]]; exact hv)
theorem SO.clean0 (E : SO nro S P ag cm N H) (d d' : Array Nat) (vs : List Value) (hv : ∀ v ∈ vs, Old (H #[]).length v) : kclean (H d) vs (H d') = (vs, H d') := by
 have := E.clean d d' [] vs hv
 rwa [List.append_nil] at this
theorem SO.ln (E : SO nro S P ag cm N H) (d : Array Nat) : (H d).length = (H #[]).length := E.len d #[]
end
structure SXO (nro : Nat) (S : Value) (P : Int → Value) (ag : Nat → Value) (cm : Nat → Nat → Int) (N : Nat) (H : Array Nat → VH) : Prop where
 base : SO nro S P ag cm N H
 ext : ∀ o, SO nro S P ag cm N (fun d => H d ++ [o])
section
variable {nro : Nat} {S : Value} {P : Int → Value} {ag : Nat → Value} {cm : Nat → Nat → Int} {N : Nat} {H : Array Nat → VH} (E : SXO nro S P ag cm N H)
include E
theorem SXO.clean (d d' : Array Nat) (o o' : VO) (hf : ∀ n, flatO n o') (L : VH) (vs : List Value) (hv : ∀ v ∈ vs, Old ((H #[]).length + 1) v) : kclean (H d ++ [o]) vs (H d' ++ o' :: L) = (vs, H d' ++ [o']) := by
 have := cleanup_upd (L := L) ((E.base.upd d d').snoc o o' (hf _)) (vs := vs) (by rw [List.length_append, List.length_singleton, E.base.len d #[]]; exact hv)
 rwa [List.append_assoc] at this
theorem SXO.idx (o : VO) (d : Array Nat) (x : Int) (h1 : d.size = N) (h2 : 0 ≤ x) (h3 : x < N) : vidx 1 (H d ++ [o]) S (.int .i64 x) = some (P x, H d ++ [o]) := (E.ext o).idx d x h1 h2 h3
theorem SXO.load (o : VO) (d : Array Nat) (x : Int) (h1 : d.size = N) (h2 : 0 ≤ x) (h3 : x < N) : vload false 1 (H d ++ [o]) (P x) = some (ag (getI d x)) := (E.ext o).load d x h1 h2 h3
theorem SXO.store (o : VO) (d : Array Nat) (x : Int) (v : Nat) (h1 : d.size = N) (h2 : 0 ≤ x) (h3 : x < N) : vstore nro 1 (H d ++ [o]) (P x) (ag v) = some (H (setI d x v) ++ [o]) := (E.ext o).store d x v h1 h2 h3
theorem SXO.cmp (o : VO) (d : Array Nat) (x y : Nat) : vcall F nro k_zz53 [ag x, ag y] (H d ++ [o]) = some (.bool (decide (cm x y < 0)), H d ++ [o]) := (E.ext o).cmp d x y
theorem SXO.nr (d : Array Nat) : nro ≤ (H #[]).length := E.base.nr #[]
end
end

/- Sorting: insertion. -/
section
open Go Go.Sort
variable {nro : Nat} {S : Value} {P : Int → Value} {ag : Nat → Value} {cm : Nat → Nat → Int} {N : Nat} {H : Array Nat → VH}
section
variable (E : SO nro S P ag cm N H)
include E
theorem l_ord_ins_1 (a b i : Nat) (d0 : Array Nat) : ∀ (j : Nat) (d : Array Nat), d.size = N → j < N →
  floop (vcall F nro) nro [0, 1, 2, 6, 7] i_zz12_B1 (H d0) [S, .int .i64 a, .int .i64 b, .int .i64 i, .int .i64 j] (H d) =
   some (.exit 2, fl [(0, S), (1, .int .i64 a), (2, .int .i64 b), (6, .int .i64 i)], H (insInner (ltC cm) a j d))
 | 0, d, hd, hj => by
  have hc := E.clean0 d0 d
  have hl := E.ln
  have oS := E.oS
  have h0 : ¬ (a : Int) < 0 := by omega
  rw [floop_at i_zz12_B1.eq_1]
  unfold insInner
  simp (disch := first | assumption | omega | (simp [*] <;> omega) | fail) [-getElem?_pos, List.getElem?_cons_zero, List.getElem?_cons_succ, hc, hl, oS, h0]
 | j + 1, d, hd, hj => by
  have hc := fun q => E.clean0 d0 q
  have hl := E.ln
  have oS := E.oS
  have hN := E.hN
  have hi := E.idx
  have hld := E.load
  have hst := E.store
  have hcm := E.cmp
  have w1 : IntKind.i64.wrap ((j : Int) + 1 - 1) = j := by rw [show (j : Int) + 1 - 1 = j by omega]; exact wrap64 (by omega) (by omega)
  have w2 : IntKind.i64.wrap (j : Int) = j := wrap64 (by omega) (by omega)
  have g1 := getI_nat d ((j : Int) + 1) (j + 1) (by omega)
  have g2 := getI_nat d (j : Int) j rfl
  have k1 : (0 : Int) ≤ (j : Int) + 1 := by omega
  have k2 : (j : Int) + 1 < N := by omega
  have k3 : (j : Int) < N := by omega
  rw [floop_at i_zz12_B1.eq_1]
  unfold insInner
  rw [← g1, ← g2]
  by_cases c1 : a < j + 1
  ·have c1' : (a : Int) < (j : Int) + 1 := by omega
   by_cases c2 : cm (getI d ((j : Int) + 1)) (getI d (j : Int)) < 0
   ·have e2 : ltC cm (getI d ((j : Int) + 1)) (getI d (j : Int)) = true := decide_eq_true c2
    have ih := l_ord_ins_1 a b i d0 j (Go.Sort.swp d (j + 1) j) (by simpa using hd) (by omega)
    have e3 : swI d ((j : Int) + 1) j = Go.Sort.swp d (j + 1) j := swI_swp _ _ _ _ _ (by omega) rfl
    unfold swI at e3
    rw [if_pos (by simp [e2, c1]), ← ih]
    clear ih g1 g2
    simp (disch := first | assumption | omega | (simp [*] <;> omega) | fail) [-getElem?_pos, List.getElem?_cons_zero, List.getElem?_cons_succ, hc, hl, oS, hi, hld, hst, hcm, hd, w1, w2, k1, k2, k3, c1', c2, e3]
   ·have e2 : ltC cm (getI d ((j : Int) + 1)) (getI d (j : Int)) = false := decide_eq_false c2
    rw [if_neg (by simp [e2])]
    clear g1 g2
    simp (disch := first | assumption | omega | (simp [*] <;> omega) | fail) [-getElem?_pos, List.getElem?_cons_zero, List.getElem?_cons_succ, hc, hl, oS, hi, hld, hst, hcm, hd, w1, w2, k1, k2, k3, c1', c2]
  ·have c1' : ¬ (a : Int) < (j : Int) + 1 := by omega
   rw [if_neg (by simp [c1])]
   simp (disch := first | assumption | omega | (simp [*] <;> omega) | fail) [-getElem?_pos, List.getElem?_cons_zero, List.getElem?_cons_succ, hc, hl, oS, c1']
theorem c_ord_ins (a b : Nat) (d : Array Nat) (hd : d.size = N) (hb : b ≤ N) (ha : a ≤ N) :
  vcall F nro k_zz12 [S, .int .i64 a, .int .i64 b] (H d) = some (.tuple #[], H (insertionSort (ltC cm) d a b)) := by
 have hl := E.ln
 have oS := E.oS
 have hN := E.hN
 have hc0 := fun q vs => E.clean0 d q vs
 have lp : ∀ (k i : Nat) (q : Array Nat), q.size = N → b ≤ i + k → i ≤ N + 1 →
   floop (vcall F nro) nro [0, 1, 2, 6] i_zz12_B2 (H d) [S, .int .i64 a, .int .i64 b, .int .i64 i] (H q) = some (.exit 0, fl [], H (insOuter (ltC cm) a b i q)) := by
  intro k
  induction k with
  | zero =>
   intro i q hq hk hi
   have h1 : ¬ i < b := by omega
   have h2 : ¬ (i : Int) < b := by omega
   rw [insOuter, if_neg h1, floop_at i_zz12_B2.eq_1]
   simp (disch := first | assumption | omega | (simp [*] <;> omega) | fail) [-getElem?_pos, List.getElem?_cons_zero, List.getElem?_cons_succ, hc0, hl, oS, h2, h1]
  | succ k ih =>
   intro i q hq hk hi
   by_cases h1 : i < b
   ·have h2 : (i : Int) < b := by omega
    have l1 := l_ord_ins_1 E a b i q i q hq (by omega)
    have w1 : IntKind.i64.wrap ((i : Int) + 1) = (i : Int) + 1 := wrap64 (by omega) (by omega)
    have ih2 := ih (i + 1) (insInner (ltC cm) a i q) (by simpa using hq) (by omega) (by omega)
    rw [insOuter, if_pos h1, ← ih2]
    clear ih ih2
    rw [floop_at i_zz12_B2.eq_1]
    simp (disch := first | assumption | omega | (simp [*] <;> omega) | fail) [-getElem?_pos, List.getElem?_cons_zero, List.getElem?_cons_succ, hc0, hl, oS, h2, h1, l1, w1]
   ·have h2 : ¬ (i : Int) < b := by omega
    rw [insOuter, if_neg h1, floop_at i_zz12_B2.eq_1]
    simp (disch := first | assumption | omega | (simp [*] <;> omega) | fail) [-getElem?_pos, List.getElem?_cons_zero, List.getElem?_cons_succ, hc0, hl, oS, h2, h1]
 have l1 := lp b (a + 1) d hd (by omega) (by omega)
 have w1 : IntKind.i64.wrap ((a : Int) + 1) = (a : Int) + 1 := wrap64 (by omega) (by omega)
 refine v_zz12 (by simp [i_zz12]) ?_
 rw [fbody_eq]
 unfold insertionSort
 simp only [Int.natCast_add, Int.natCast_one] at l1
 simp (disch := first | assumption | omega | (simp [*] <;> omega) | fail) [-getElem?_pos, List.getElem?_cons_zero, List.getElem?_cons_succ, i_zz12, w1, l1, hc0, fresults, fresL]
end
end

/- Sorting: heaps. -/
section
open Go Go.Sort
variable {nro : Nat} {S : Value} {P : Int → Value} {ag : Nat → Value} {cm : Nat → Nat → Int} {N : Nat} {H : Array Nat → VH}
section
variable (E : SO nro S P ag cm N H)
include E
set_option maxHeartbeats 2000000 in
theorem l_ord_sift (hi first : Nat) (hf : first + hi ≤ N) (d0 : Array Nat) (root : Nat) (d : Array Nat) (hd : d.size = N) (hr : root ≤ N) :
    ∃ x, (x = .exit 0 ∨ x = .ret) ∧ floop (vcall F nro) nro [0, 2, 3, 8] i_zz24_B1 (H d0) [S, .int .i64 hi, .int .i64 first, .int .i64 root] (H d) =
      some (x, fl [], H (siftDown (ltC cm) hi first root d)) := by
  have hc := fun q => E.clean0 d0 q
  have hl := E.ln
  have oS := E.oS
  have hN := E.hN
  have hix := E.idx
  have hld := E.load
  have hst := E.store
  have hcm := E.cmp
  rw [siftDown]
  by_cases c0 : 2 * root + 1 ≥ hi
  · have c0' : (hi : Int) ≤ 2 * (root : Int) + 1 := by omega
    rw [dif_pos c0]
    refine ⟨.exit 0, .inl rfl, ?_⟩
    rw [floop_at i_zz24_B1.eq_1]
    simp (disch := first | assumption | omega | (simp [*] <;> omega) | fail) [-getElem?_pos, List.getElem?_cons_zero, List.getElem?_cons_succ, hc, hl, oS, wrap64, c0']
  · have c0' : ¬ (hi : Int) ≤ 2 * (root : Int) + 1 := by omega
    rw [dif_neg c0]
    have g0 := getI_nat d ((first : Int) + root) (first + root) (by omega)
    have g1 := getI_nat d ((first : Int) + (2 * (root : Int) + 1)) (first + (2 * root + 1)) (by omega)
    have g2 := getI_nat d ((first : Int) + (2 * (root : Int) + 1) + 1) (first + (2 * root + 1) + 1) (by omega)
    have g3 := getI_nat d ((first : Int) + (2 * (root : Int) + 1 + 1)) (first + (2 * root + 2)) (by omega)
    have g4 : getI d ((first : Int) + (2 * (root : Int) + 1) + 1) = getI d ((first : Int) + (2 * (root : Int) + 1 + 1)) := by rw [Int.add_assoc]
    rw [← g0, ← g1, ← g2, ← g3]
    by_cases c1 : 2 * root + 1 + 1 < hi
    · have c1' : 2 * (root : Int) + 1 + 1 < hi := by omega
      by_cases c2 : cm (getI d ((first : Int) + (2 * (root : Int) + 1))) (getI d ((first : Int) + (2 * (root : Int) + 1) + 1)) < 0
      · have e2 : ltC cm (getI d ((first : Int) + (2 * (root : Int) + 1))) (getI d ((first : Int) + (2 * (root : Int) + 1) + 1)) = true := decide_eq_true c2
        rw [if_pos (by simp [e2, c1])]
        by_cases c3 : cm (getI d ((first : Int) + root)) (getI d ((first : Int) + (2 * (root : Int) + 1 + 1))) < 0
        · have e3 : ltC cm (getI d ((first : Int) + root)) (getI d ((first : Int) + (2 * (root : Int) + 1 + 1))) = true := decide_eq_true c3
          rw [if_neg (by simp [e3]), dif_pos (by omega)]
          obtain ⟨x, hx, ih⟩ := l_ord_sift hi first hf d0 (2 * root + 2) (Go.Sort.swp d (first + root) (first + (2 * root + 2))) (by simpa using hd) (by omega)
          refine ⟨x, hx, ?_⟩
          have e4 : swI d ((first : Int) + root) ((first : Int) + (2 * (root : Int) + 1 + 1)) = Go.Sort.swp d (first + root) (first + (2 * root + 2)) := swI_swp _ _ _ _ _ (by omega) (by omega)
          unfold swI at e4
          rw [← ih, show ((2 * root + 2 : Nat) : Int) = 2 * (root : Int) + 1 + 1 by omega]
          clear ih g0 g1 g2 g3 e2 e3
          rw [floop_at i_zz24_B1.eq_1]
          simp (disch := first | assumption | omega | (simp [*] <;> omega) | fail) [-getElem?_pos, List.getElem?_cons_zero, List.getElem?_cons_succ, hc, hl, oS, hix, hld, hst, hcm, hd, wrap64, c0', c1', c2, c3, e4]
        · have e3 : ltC cm (getI d ((first : Int) + root)) (getI d ((first : Int) + (2 * (root : Int) + 1 + 1))) = false := decide_eq_false c3
          rw [if_pos (by simp [e3])]
          refine ⟨.ret, .inr rfl, ?_⟩
          clear g0 g1 g2 g3 e2 e3
          rw [floop_at i_zz24_B1.eq_1]
          simp (disch := first | assumption | omega | (simp [*] <;> omega) | fail) [-getElem?_pos, List.getElem?_cons_zero, List.getElem?_cons_succ, hc, hl, oS, hix, hld, hst, hcm, hd, wrap64, c0', c1', c2, c3]
      · have e2 : ltC cm (getI d ((first : Int) + (2 * (root : Int) + 1))) (getI d ((first : Int) + (2 * (root : Int) + 1) + 1)) = false := decide_eq_false c2
        rw [if_neg (by simp [e2])]
        by_cases c3 : cm (getI d ((first : Int) + root)) (getI d ((first : Int) + (2 * (root : Int) + 1))) < 0
        · have e3 : ltC cm (getI d ((first : Int) + root)) (getI d ((first : Int) + (2 * (root : Int) + 1))) = true := decide_eq_true c3
          rw [if_neg (by simp [e3])]
          obtain ⟨x, hx, ih⟩ := l_ord_sift hi first hf d0 (2 * root + 1) (Go.Sort.swp d (first + root) (first + (2 * root + 1))) (by simpa using hd) (by omega)
          refine ⟨x, hx, ?_⟩
          have e4 : swI d ((first : Int) + root) ((first : Int) + (2 * (root : Int) + 1)) = Go.Sort.swp d (first + root) (first + (2 * root + 1)) := swI_swp _ _ _ _ _ (by omega) (by omega)
          unfold swI at e4
          rw [← ih, show ((2 * root + 1 : Nat) : Int) = 2 * (root : Int) + 1 by omega]
          clear ih g0 g1 g2 g3 e2 e3
          rw [floop_at i_zz24_B1.eq_1]
          simp (disch := first | assumption | omega | (simp [*] <;> omega) | fail) [-getElem?_pos, List.getElem?_cons_zero, List.getElem?_cons_succ, hc, hl, oS, hix, hld, hst, hcm, hd, wrap64, c0', c1', c2, c3, e4]
        · have e3 : ltC cm (getI d ((first : Int) + root)) (getI d ((first : Int) + (2 * (root : Int) + 1))) = false := decide_eq_false c3
          rw [if_pos (by simp [e3])]
          refine ⟨.ret, .inr rfl, ?_⟩
          clear g0 g1 g2 g3 e2 e3
          rw [floop_at i_zz24_B1.eq_1]
          simp (disch := first | assumption | omega | (simp [*] <;> omega) | fail) [-getElem?_pos, List.getElem?_cons_zero, List.getElem?_cons_succ, hc, hl, oS, hix, hld, hst, hcm, hd, wrap64, c0', c1', c2, c3]
    · have c1' : ¬ 2 * (root : Int) + 1 + 1 < hi := by omega
      rw [if_neg (by simp [c1])]
      by_cases c3 : cm (getI d ((first : Int) + root)) (getI d ((first : Int) + (2 * (root : Int) + 1))) < 0
      · have e3 : ltC cm (getI d ((first : Int) + root)) (getI d ((first : Int) + (2 * (root : Int) + 1))) = true := decide_eq_true c3
        rw [if_neg (by simp [e3])]
        obtain ⟨x, hx, ih⟩ := l_ord_sift hi first hf d0 (2 * root + 1) (Go.Sort.swp d (first + root) (first + (2 * root + 1))) (by simpa using hd) (by omega)
        refine ⟨x, hx, ?_⟩
        have e4 : swI d ((first : Int) + root) ((first : Int) + (2 * (root : Int) + 1)) = Go.Sort.swp d (first + root) (first + (2 * root + 1)) := swI_swp _ _ _ _ _ (by omega) (by omega)
        unfold swI at e4
        rw [← ih, show ((2 * root + 1 : Nat) : Int) = 2 * (root : Int) + 1 by omega]
        clear ih g0 g1 g2 g3 e3
        rw [floop_at i_zz24_B1.eq_1]
        simp (disch := first | assumption | omega | (simp [*] <;> omega) | fail) [-getElem?_pos, List.getElem?_cons_zero, List.getElem?_cons_succ, hc, hl, oS, hix, hld, hst, hcm, hd, wrap64, c0', c1', c3, e4]
      · have e3 : ltC cm (getI d ((first : Int) + root)) (getI d ((first : Int) + (2 * (root : Int) + 1))) = false := decide_eq_false c3
        rw [if_pos (by simp [e3])]
        refine ⟨.ret, .inr rfl, ?_⟩
        clear g0 g1 g2 g3 e3
        rw [floop_at i_zz24_B1.eq_1]
        simp (disch := first | assumption | omega | (simp [*] <;> omega) | fail) [-getElem?_pos, List.getElem?_cons_zero, List.getElem?_cons_succ, hc, hl, oS, hix, hld, hst, hcm, hd, wrap64, c0', c1', c3]
 termination_by hi - root
theorem c_ord_sift (hi first root : Nat) (hf : first + hi ≤ N) (d : Array Nat) (hd : d.size = N) (hr : root ≤ N) :
  vcall F nro k_zz24 [S, .int .i64 root, .int .i64 hi, .int .i64 first] (H d) = some (.tuple #[], H (siftDown (ltC cm) hi first root d)) := by
 have hc0 := fun q vs => E.clean0 d q vs
 obtain ⟨x, hx, lp⟩ := l_ord_sift E hi first hf d root d hd hr
 refine v_zz24 (by simp [i_zz24]) ?_
 rw [fbody_eq]
 rcases hx with rfl | rfl
 ·simp (disch := first | assumption | omega | (simp [*] <;> omega) | fail) [-getElem?_pos, List.getElem?_cons_zero, List.getElem?_cons_succ, i_zz24, lp, hc0, fresults, fresL]
 ·simp (disch := first | assumption | omega | (simp [*] <;> omega) | fail) [-getElem?_pos, List.getElem?_cons_zero, List.getElem?_cons_succ, i_zz24, lp, hc0, fresults, fresL]
theorem c_ord_heap (a b : Nat) (d : Array Nat) (hd : d.size = N) (hab : a ≤ b) (hb : b ≤ N) :
  vcall F nro k_zz23 [S, .int .i64 a, .int .i64 b] (H d) = some (.tuple #[], H (heapSort (ltC cm) d a b)) := by
 have hc0 := fun q vs => E.clean0 d q vs
 have hl := E.ln
 have oS := E.oS
 have hN := E.hN
 have hix := E.idx
 have hld := E.load
 have hst := E.store
 obtain ⟨hi, hhi⟩ : ∃ hi, hi = b - a := ⟨_, rfl⟩
 have lp1 : ∀ (k : Nat) (q : Array Nat), q.size = N → k ≤ N + 1 →
   floop (vcall F nro) nro [0, 6, 7, 8, 9] i_zz23_B1 (H d) [S, .int .i64 a, .int .i64 0, .int .i64 hi, .int .i64 ((k : Int) - 1)] (H q) = some (.exit 0, fl [(0, S), (6, .int .i64 a), (7, .int .i64 0), (8, .int .i64 hi)], H (heapBuild (ltC cm) hi a k q)) := by
  intro k
  induction k with
  | zero =>
   intro q hq hk
   rw [floop_at i_zz23_B1.eq_1]
   simp (disch := first | assumption | omega | (simp [*] <;> omega) | fail) [-getElem?_pos, List.getElem?_cons_zero, List.getElem?_cons_succ, heapBuild, hc0, hl, oS]
  | succ k ih =>
   intro q hq hk
   have hcall := c_ord_sift E hi a k (by omega) q hq (by omega)
   have ih2 := ih (siftDown (ltC cm) hi a k q) (by rw [siftDown_size]; exact hq) (by omega)
   rw [heapBuild, ← ih2]
   have e1 : ((k + 1 : Nat) : Int) - 1 = k := by omega
   rw [e1]
   clear ih ih2
   rw [floop_at i_zz23_B1.eq_1]
   simp (disch := first | assumption | omega | (simp [*] <;> omega) | fail) [-getElem?_pos, List.getElem?_cons_zero, List.getElem?_cons_succ, hc0, hl, oS, hcall, wrap64]
 have hc1 := fun q' q vs => E.clean0 q' q vs
 have lp2 : ∀ (d1 : Array Nat) (k : Nat) (q : Array Nat), q.size = N → k ≤ hi →
   floop (vcall F nro) nro [0, 6, 7, 10] i_zz23_B2 (H d1) [S, .int .i64 a, .int .i64 0, .int .i64 ((k : Int) - 1)] (H q) = some (.exit 2, fl [], H (heapPop (ltC cm) a k q)) := by
  intro d1 k
  induction k with
  | zero =>
   intro q hq hk
   rw [floop_at i_zz23_B2.eq_1]
   simp (disch := first | assumption | omega | (simp [*] <;> omega) | fail) [-getElem?_pos, List.getElem?_cons_zero, List.getElem?_cons_succ, heapPop, hc1, hl, oS]
  | succ k ih =>
   intro q hq hk
   have e4 : swI q (a : Int) ((a : Int) + k) = Go.Sort.swp q a (a + k) := swI_swp _ _ _ _ _ rfl (by omega)
   unfold swI at e4
   have hcall := c_ord_sift E k a 0 (by omega) (Go.Sort.swp q a (a + k)) (by simpa using hq) (by omega)
   have ih2 := ih (siftDown (ltC cm) k a 0 (Go.Sort.swp q a (a + k))) (by rw [siftDown_size]; simpa using hq) (by omega)
   rw [heapPop, ← ih2]
   have e1 : ((k + 1 : Nat) : Int) - 1 = k := by omega
   rw [e1]
   simp only [Int.natCast_zero] at hcall
   clear ih ih2
   rw [floop_at i_zz23_B2.eq_1]
   simp (disch := first | assumption | omega | (simp [*] <;> omega) | fail) [-getElem?_pos, List.getElem?_cons_zero, List.getElem?_cons_succ, hc1, hl, oS, hix, hld, hst, hq, e4, hcall, wrap64]
 have e1 : (((hi - 1) / 2 + 1 : Nat) : Int) - 1 = ((hi : Int) - 1).tdiv 2 := by
  by_cases c : hi = 0
  ·subst c; rfl
  ·rw [Int.tdiv_eq_ediv_of_nonneg (by omega)]; omega
 have l1 := lp1 ((hi - 1) / 2 + 1) d hd (by omega)
 rw [e1] at l1
 have l2 := lp2 (heapBuild (ltC cm) hi a ((hi - 1) / 2 + 1) d) hi (heapBuild (ltC cm) hi a ((hi - 1) / 2 + 1) d) (by rw [heapBuild_size]; exact hd) (Nat.le_refl _)
 have w1 : IntKind.i64.wrap ((b : Int) - a) = hi := by rw [show (b : Int) - a = hi by omega]; exact wrap64 (by omega) (by omega)
 have w2 : IntKind.i64.wrap ((hi : Int) - 1) = (hi : Int) - 1 := wrap64 (by omega) (by omega)
 have w3 : IntKind.i64.wrap (((hi : Int) - 1).tdiv 2) = ((hi : Int) - 1).tdiv 2 := by rw [← e1]; exact wrap64 (by omega) (by omega)
 refine v_zz23 (by simp [i_zz23]) ?_
 rw [fbody_eq]
 unfold heapSort
 rw [← hhi]
 clear lp1 lp2
 simp (disch := first | assumption | omega | (simp [*] <;> omega) | fail) [-getElem?_pos, List.getElem?_cons_zero, List.getElem?_cons_succ, i_zz23, w1, w2, w3, l1, l2, hc0, fresults, fresL]
end
end

/- Sorting: reversing, breaking patterns, choosing a pivot. -/
section
open Go Go.Sort
variable {nro : Nat} {S : Value} {P : Int → Value} {ag : Nat → Value} {cm : Nat → Nat → Int} {N : Nat} {H : Array Nat → VH}
section
variable (E : SO nro S P ag cm N H)
include E
theorem l_ord_rev (d0 : Array Nat) (i : Nat) (j : Int) (hj0 : -1 ≤ j) (hjN : j < N) (hi : i ≤ N + 1) (d : Array Nat) (hd : d.size = N) :
    floop (vcall F nro) nro [0, 6, 7] i_zz15_B1 (H d0) [S, .int .i64 i, .int .i64 j] (H d) = some (.exit 0, fl [], H (reverseLoop i j.toNat d)) := by
  have hc := fun q => E.clean0 d0 q
  have hl := E.ln
  have oS := E.oS
  have hN := E.hN
  have hix := E.idx
  have hld := E.load
  have hst := E.store
  rw [reverseLoop]
  by_cases c : (i : Int) < j
  · rw [if_pos (by omega)]
    have ih := l_ord_rev d0 (i + 1) (j - 1) (by omega) (by omega) (by omega) (Go.Sort.swp d i j.toNat) (by simpa using hd)
    have e1 : (j - 1).toNat = j.toNat - 1 := by omega
    rw [e1] at ih
    have e4 : swI d (i : Int) j = Go.Sort.swp d i j.toNat := swI_swp _ _ _ _ _ rfl (by omega)
    unfold swI at e4
    rw [← ih]
    clear ih
    rw [floop_at i_zz15_B1.eq_1]
    simp (disch := first | assumption | omega | (simp [*] <;> omega) | fail) [-getElem?_pos, List.getElem?_cons_zero, List.getElem?_cons_succ, hc, hl, oS, hix, hld, hst, hd, wrap64, c, e4]
  · rw [if_neg (by omega)]
    rw [floop_at i_zz15_B1.eq_1]
    simp (disch := first | assumption | omega | (simp [*] <;> omega) | fail) [-getElem?_pos, List.getElem?_cons_zero, List.getElem?_cons_succ, hc, hl, oS, c]
 termination_by (j - i).toNat
theorem c_ord_rev (a b : Nat) (d : Array Nat) (hd : d.size = N) (hab : a < b) (hb : b ≤ N) :
  vcall F nro k_zz15 [S, .int .i64 a, .int .i64 b] (H d) = some (.tuple #[], H (reverseRange d a b)) := by
 have hc0 := fun q vs => E.clean0 d q vs
 have hN := E.hN
 have l1 := l_ord_rev E d a ((b : Int) - 1) (by omega) (by omega) (by omega) d hd
 rw [show ((b : Int) - 1).toNat = b - 1 by omega] at l1
 refine v_zz15 (by simp [i_zz15]) ?_
 rw [fbody_eq]
 unfold reverseRange
 simp (disch := first | assumption | omega | (simp [*] <;> omega) | fail) [-getElem?_pos, List.getElem?_cons_zero, List.getElem?_cons_succ, i_zz15, wrap64, l1, hc0, fresults, fresL]
end
end

/- Sorting: patterns are broken. -/
section
open Go Go.Sort
variable {nro : Nat} {S : Value} {P : Int → Value} {ag : Nat → Value} {cm : Nat → Nat → Int} {N : Nat} {H : Array Nat → VH}
theorem SXO.get (E : SXO nro S P ag cm N H) (d : Array Nat) (o : VO) : (H d ++ [o])[(H #[]).length]? = some o := by
 rw [← E.base.ln d]; simp
section
variable (E : SXO nro S P ag cm N H)
include E
theorem l_ord_break (a b m : Nat) (w : Nat) (hm : m = 2 * w) (h8 : 8 ≤ b - a) (hb : b ≤ N) (hN : N ≤ 255) (hm2 : b - a < m) (hm3 : m ≤ 2 * (b - a) + 1) (d0 : Array Nat) (r0 : Int) : ∀ (k i : Nat) (r : Int) (d : Array Nat), d.size = N → i + k = a + (b - a) / 4 * 2 + 2 → a + 1 ≤ i →
  ∃ d' r', d'.size = N ∧ PermIn a b d d' ∧ floop (vcall F nro) nro [0, 1, 6, 7, 8, 9] i_zz11_B1 (H d0 ++ [⟨0, [.int .u64 r0]⟩]) [S, .int .i64 a, .int .i64 ((b - a : Nat) : Int), .pointer (some ⟨(H #[]).length, 0, some 1⟩), .int .u64 m, .int .i64 i] (H d ++ [⟨0, [.int .u64 r]⟩]) =
   some (.exit 0, fl [], H d' ++ [⟨0, [.int .u64 r']⟩])
 | 0, i, r, d, hd, hk, hi => by
  refine ⟨d, r, hd, permIn_refl d a b, ?_⟩
  have hcl := fun vs => E.clean d0 d ⟨0, [.int .u64 r0]⟩ ⟨0, [.int .u64 r]⟩ (fun n => by intro q hq; simp [orefs, trefs, vrefs, crefs, arefs] at hq) [] vs
  have hl := E.base.ln
  have oS := E.base.oS
  obtain ⟨len, hlen⟩ : ∃ len, len = b - a := ⟨_, rfl⟩
  rw [← hlen]
  obtain ⟨q, hq⟩ : ∃ q : Nat, q = len / 4 := ⟨_, rfl⟩
  have t1 : ((len : Nat) : Int).tdiv 4 = q := by rw [Int.tdiv_eq_ediv_of_nonneg (by omega)]; omega
  have hq2 : q ≤ 255 := by omega
  have w1 : IntKind.i64.wrap (q : Int) = q := wrap64 (by omega) (by omega)
  have w2 : IntKind.i64.wrap ((q : Int) * 2) = (q : Int) * 2 := wrap64 (by omega) (by omega)
  have w3 : IntKind.i64.wrap ((a : Int) + (q : Int) * 2) = (a : Int) + (q : Int) * 2 := wrap64 (by omega) (by omega)
  have w4 : IntKind.i64.wrap ((a : Int) + (q : Int) * 2 + 1) = (a : Int) + (q : Int) * 2 + 1 := wrap64 (by omega) (by omega)
  have c1 : ¬ (i : Int) ≤ (a : Int) + (q : Int) * 2 + 1 := by omega
  rw [floop_at i_zz11_B1.eq_1]
  simp (disch := first | assumption | omega | (simp [*] <;> omega) | fail) [-getElem?_pos, List.getElem?_cons_zero, List.getElem?_cons_succ, hcl, hl, oS, t1, w1, w2, w3, w4, c1]
 | k + 1, i, r, d, hd, hk, hi => by
  have hcl := fun r' d' vs => E.clean d0 d' ⟨0, [.int .u64 r0]⟩ ⟨0, [.int .u64 r']⟩ (fun n => by intro q hq; simp [orefs, trefs, vrefs, crefs, arefs] at hq) [] vs
  have hl := E.base.ln
  have oS := E.base.oS
  have hnr := E.base.nr #[]
  have hix := E.idx
  have hld := E.load
  have hst := E.store
  obtain ⟨r', hr', ex⟩ := c_xorshift (nro := nro) (H d) (E.base.nr d) r
  rw [hl d] at ex
  obtain ⟨len, hlen⟩ : ∃ len, len = b - a := ⟨_, rfl⟩
  rw [← hlen]
  obtain ⟨q, hq⟩ : ∃ q : Nat, q = len / 4 := ⟨_, rfl⟩
  have t1 : ((len : Nat) : Int).tdiv 4 = q := by rw [Int.tdiv_eq_ediv_of_nonneg (by omega)]; omega
  have hq2 : q ≤ 255 := by omega
  have w1 : IntKind.i64.wrap (q : Int) = q := wrap64 (by omega) (by omega)
  have w2 : IntKind.i64.wrap ((q : Int) * 2) = (q : Int) * 2 := wrap64 (by omega) (by omega)
  have w3 : IntKind.i64.wrap ((a : Int) + (q : Int) * 2) = (a : Int) + (q : Int) * 2 := wrap64 (by omega) (by omega)
  have w4 : IntKind.i64.wrap ((a : Int) + (q : Int) * 2 + 1) = (a : Int) + (q : Int) * 2 + 1 := wrap64 (by omega) (by omega)
  have c1 : (i : Int) ≤ (a : Int) + (q : Int) * 2 + 1 := by omega
  have w5 : IntKind.u64.wrap ((m : Int) - 1) = ((m - 1 : Nat) : Int) := by rw [show (m : Int) - 1 = ((m - 1 : Nat) : Int) by omega]; exact wrapu64 (by omega) (by omega)
  obtain ⟨a1, a2⟩ := iand_u64 (r' : Int) (m - 1) (by omega)
  obtain ⟨x, hx⟩ : ∃ x, iand .u64 (r' : Int) ((m - 1 : Nat) : Int) = x := ⟨_, rfl⟩
  rw [hx] at a1 a2
  have w6 : IntKind.i64.wrap x = x := wrap64 (by omega) (by omega)
  have w9 : IntKind.i64.wrap ((i : Int) + 1) = (i : Int) + 1 := wrap64 (by omega) (by omega)
  have i0 : (0 : Int) ≤ i := by omega
  have i1 : (i : Int) < N := by omega
  by_cases c2 : (len : Int) ≤ x
  ·have w7 : IntKind.i64.wrap (x - len) = x - len := wrap64 (by omega) (by omega)
   have w8 : IntKind.i64.wrap ((a : Int) + (x - len)) = (a : Int) + (x - len) := wrap64 (by omega) (by omega)
   have j0 : (0 : Int) ≤ (a : Int) + (x - len) := by omega
   have j1 : (a : Int) + (x - len) < N := by omega
   have e4 : swI d (i : Int) ((a : Int) + (x - len)) = Go.Sort.swp d i (a + (x.toNat - len)) := swI_swp _ _ _ _ _ rfl (by omega)
   unfold swI at e4
   have hp := swp_permI (d := d) (a := a) (b := b) (i := i) (j := a + (x.toNat - len)) (by omega) (by omega) (by omega) (by omega) (by omega)
   obtain ⟨d', r2, p1, p2, ih⟩ := l_ord_break a b m w hm (by omega) hb hN (by omega) (by omega) d0 r0 k (i + 1) r' (Go.Sort.swp d i (a + (x.toNat - len))) (by simpa using hd) (by omega) (by omega)
   refine ⟨d', r2, p1, permIn_trans _ _ _ a b hp p2, ?_⟩
   rw [← hlen] at ih
   rw [← ih]
   clear ih p1 p2 hp hk hm hm2 hm3
   rw [floop_at i_zz11_B1.eq_1]
   simp (disch := first | assumption | omega | (simp [*] <;> omega) | fail) [-getElem?_pos, List.getElem?_cons_zero, List.getElem?_cons_succ, hcl, hl, oS, hix, hld, hst, hd, t1, w1, w2, w3, w4, c1, ex, w5, hx, w6, c2, w7, w8, w9, i0, i1, j0, j1, e4]
  ·have w8 : IntKind.i64.wrap ((a : Int) + x) = (a : Int) + x := wrap64 (by omega) (by omega)
   have j0 : (0 : Int) ≤ (a : Int) + x := by omega
   have j1 : (a : Int) + x < N := by omega
   have e4 : swI d (i : Int) ((a : Int) + x) = Go.Sort.swp d i (a + x.toNat) := swI_swp _ _ _ _ _ rfl (by omega)
   unfold swI at e4
   have hp := swp_permI (d := d) (a := a) (b := b) (i := i) (j := a + x.toNat) (by omega) (by omega) (by omega) (by omega) (by omega)
   obtain ⟨d', r2, p1, p2, ih⟩ := l_ord_break a b m w hm (by omega) hb hN (by omega) (by omega) d0 r0 k (i + 1) r' (Go.Sort.swp d i (a + x.toNat)) (by simpa using hd) (by omega) (by omega)
   refine ⟨d', r2, p1, permIn_trans _ _ _ a b hp p2, ?_⟩
   rw [← hlen] at ih
   rw [← ih]
   clear ih p1 p2 hp hk hm hm2 hm3
   rw [floop_at i_zz11_B1.eq_1]
   simp (disch := first | assumption | omega | (simp [*] <;> omega) | fail) [-getElem?_pos, List.getElem?_cons_zero, List.getElem?_cons_succ, hcl, hl, oS, hix, hld, hst, hd, t1, w1, w2, w3, w4, c1, ex, w5, hx, w6, c2, w8, w9, i0, i1, j0, j1, e4]
theorem c_ord_break (a b : Nat) (d : Array Nat) (hd : d.size = N) (hab : a ≤ b) (hb : b ≤ N) (hN : N ≤ 255) :
  ∃ d', d'.size = N ∧ PermIn a b d d' ∧ vcall F nro k_zz11 [S, .int .i64 a, .int .i64 b] (H d) = some (.tuple #[], H d') := by
 have hc0 := fun q L vs => E.base.clean d q L vs
 have hc1 := fun q vs => E.base.clean0 d q vs
 have hl := E.base.ln
 have hnr := E.base.nr #[]
 have hgt := E.get
 obtain ⟨len, hlen⟩ : ∃ len, len = b - a := ⟨_, rfl⟩
 have w0 : IntKind.i64.wrap ((b : Int) - a) = len := by rw [show (b : Int) - a = len by omega]; exact wrap64 (by omega) (by omega)
 by_cases c : (8 : Int) ≤ len
 ·obtain ⟨y, y1, y2, y3, ep⟩ := c_pow2 (nro := nro) len (by omega) (H d ++ [⟨0, [.int .u64 len]⟩])
  obtain ⟨w, hw⟩ : ∃ w, 2 ^ y = 2 * w := by
   cases y with
   | zero => simp at y2; omega
   | succ y => exact ⟨2 ^ y, by rw [Nat.pow_succ, Nat.mul_comm]⟩
  obtain ⟨q, hq⟩ : ∃ q : Nat, q = len / 4 := ⟨_, rfl⟩
  obtain ⟨d', r', p1, p2, lp⟩ := l_ord_break E a b (2 ^ y) w hw (by omega) hb hN (by omega) (by omega) d len 3 (a + q * 2 - 1) len d hd (by omega) (by omega)
  refine ⟨d', p1, p2, ?_⟩
  have t1 : ((len : Nat) : Int).tdiv 4 = q := by rw [Int.tdiv_eq_ediv_of_nonneg (by omega)]; omega
  have w1 : IntKind.i64.wrap (q : Int) = q := wrap64 (by omega) (by omega)
  have w2 : IntKind.i64.wrap ((q : Int) * 2) = (q : Int) * 2 := wrap64 (by omega) (by omega)
  have w3 : IntKind.i64.wrap ((a : Int) + (q : Int) * 2) = (a : Int) + (q : Int) * 2 := wrap64 (by omega) (by omega)
  have w4 : IntKind.i64.wrap ((a : Int) + (q : Int) * 2 - 1) = ((a + q * 2 - 1 : Nat) : Int) := by rw [show (a : Int) + (q : Int) * 2 - 1 = ((a + q * 2 - 1 : Nat) : Int) by omega]; exact wrap64 (by omega) (by omega)
  have w5 : IntKind.u64.wrap (len : Int) = len := wrapu64 (by omega) (by omega)
  rw [← hlen] at lp
  obtain ⟨z, hz⟩ : ∃ z, z = 2 ^ y := ⟨_, rfl⟩
  rw [← hz] at lp ep
  obtain ⟨i0, hi0⟩ : ∃ i0, i0 = a + q * 2 - 1 := ⟨_, rfl⟩
  rw [← hi0] at lp w4
  clear p1 p2 hw hq y1 y2 y3 hz hi0
  refine v_zz11 (by simp [i_zz11]) ?_
  rw [fbody_eq]
  simp (disch := first | assumption | omega | (simp [*] <;> omega) | fail) [-getElem?_pos, List.getElem?_cons_zero, List.getElem?_cons_succ, i_zz11, w0, c, w5, hl, hnr, hgt, ep, t1, w1, w2, w3, w4, lp, hc0, fresults, fresL]
 ·refine ⟨d, hd, permIn_refl d a b, ?_⟩
  refine v_zz11 (by simp [i_zz11]) ?_
  rw [fbody_eq]
  simp (disch := first | assumption | omega | (simp [*] <;> omega) | fail) [-getElem?_pos, List.getElem?_cons_zero, List.getElem?_cons_succ, i_zz11, w0, c, hc1, fresults, fresL]
end
end

/- Sorting: a pivot is chosen. -/
section
open Go Go.Sort
variable {nro : Nat} {S : Value} {P : Int → Value} {ag : Nat → Value} {cm : Nat → Nat → Int} {N : Nat} {H : Array Nat → VH}
section
variable (E : SXO nro S P ag cm N H)
include E
theorem SXO.cl (d : Array Nat) (s s' : Int) (L : VH) (vs : List Value) (hv : ∀ v ∈ vs, Old ((H #[]).length + 1) v) : kclean (H d ++ [⟨0, [.int .i64 s]⟩]) vs (H d ++ ⟨0, [.int .i64 s']⟩ :: L) = (vs, H d ++ [⟨0, [.int .i64 s']⟩]) :=
 E.clean d d _ _ (fun n => by intro q hq; simp [orefs, trefs, vrefs, crefs, arefs] at hq) L vs hv
theorem c_ord_order2 (d : Array Nat) (hd : d.size = N) (a b : Nat) (ha : a < N) (hb : b < N) (s : Nat) (hs : s ≤ 100) :
  ∃ a' b' s' : Nat, s' ≤ s + 1 ∧ ((a' = a ∧ b' = b) ∨ (a' = b ∧ b' = a)) ∧ vcall F nro k_zz29 [S, .int .i64 a, .int .i64 b, .pointer (some ⟨(H #[]).length, 0, some 1⟩)] (H d ++ [⟨0, [.int .i64 s]⟩]) = some (.tuple #[.int .i64 a', .int .i64 b'], H d ++ [⟨0, [.int .i64 s']⟩]) := by
 have hcl := fun s' vs => E.cl d s s' [] vs
 have hl := E.base.ln
 have hnr := E.base.nr #[]
 have hgt := E.get
 have hix := E.idx
 have hld := E.load
 have hcm := E.cmp
 have w1 : IntKind.i64.wrap ((s : Int) + 1) = (s : Int) + 1 := wrap64 (by omega) (by omega)
 have a0 : (0 : Int) ≤ a := by omega
 have b0 : (0 : Int) ≤ b := by omega
 have a1 : (a : Int) < N := by omega
 have b1 : (b : Int) < N := by omega
 by_cases c : cm (getI d (b : Int)) (getI d (a : Int)) < 0
 ·refine ⟨b, a, s + 1, by omega, .inr ⟨rfl, rfl⟩, ?_⟩
  refine v_zz29 (by simp [i_zz29]) ?_
  rw [fbody_eq]
  simp (disch := first | assumption | omega | (simp [*] <;> omega) | fail) [-getElem?_pos, List.getElem?_cons_zero, List.getElem?_cons_succ, i_zz29, hix, hld, hcm, hd, a0, b0, a1, b1, c, hl, hnr, hgt, w1, hcl, fresults, fresL, fres1]
 ·refine ⟨a, b, s, by omega, .inl ⟨rfl, rfl⟩, ?_⟩
  refine v_zz29 (by simp [i_zz29]) ?_
  rw [fbody_eq]
  simp (disch := first | assumption | omega | (simp [*] <;> omega) | fail) [-getElem?_pos, List.getElem?_cons_zero, List.getElem?_cons_succ, i_zz29, hix, hld, hcm, hd, a0, b0, a1, b1, c, hl, hnr, hgt, w1, hcl, fresults, fresL, fres1]
theorem c_ord_median (d : Array Nat) (hd : d.size = N) (a b c : Nat) (ha : a < N) (hb : b < N) (hc : c < N) (s : Nat) (hs : s ≤ 50) :
  ∃ m s' : Nat, s' ≤ s + 3 ∧ (m = a ∨ m = b ∨ m = c) ∧ vcall F nro k_zz28 [S, .int .i64 a, .int .i64 b, .int .i64 c, .pointer (some ⟨(H #[]).length, 0, some 1⟩)] (H d ++ [⟨0, [.int .i64 s]⟩]) = some (.int .i64 m, H d ++ [⟨0, [.int .i64 s']⟩]) := by
 have hcl := fun s' vs => E.cl d s s' [] vs
 obtain ⟨a1, b1, s1, q1, p1, e1⟩ := c_ord_order2 E d hd a b ha hb s (by omega)
 obtain ⟨b2, c2, s2, q2, p2, e2⟩ := c_ord_order2 E d hd b1 c (by omega) hc s1 (by omega)
 obtain ⟨a3, b3, s3, q3, p3, e3⟩ := c_ord_order2 E d hd a1 b2 (by omega) (by omega) s2 (by omega)
 refine ⟨b3, s3, by omega, by omega, ?_⟩
 clear p1 p2 p3 q1 q2 q3
 refine v_zz28 (by simp [i_zz28]) ?_
 rw [fbody_eq]
 simp (disch := first | assumption | omega | (simp [*] <;> omega) | fail) [-getElem?_pos, List.getElem?_cons_zero, List.getElem?_cons_succ, i_zz28, e1, e2, e3, hcl, fresults, fresL, fres1]
theorem c_ord_medianA (d : Array Nat) (hd : d.size = N) (a : Nat) (ha : a + 1 < N) (h1 : 1 ≤ a) (s : Nat) (hs : s ≤ 50) :
  ∃ m s' : Nat, s' ≤ s + 3 ∧ (m = a - 1 ∨ m = a ∨ m = a + 1) ∧ vcall F nro k_zz9 [S, .int .i64 a, .pointer (some ⟨(H #[]).length, 0, some 1⟩)] (H d ++ [⟨0, [.int .i64 s]⟩]) = some (.int .i64 m, H d ++ [⟨0, [.int .i64 s']⟩]) := by
 have hcl := fun s' vs => E.cl d s s' [] vs
 have hN := E.base.hN
 obtain ⟨m, s1, q1, p1, e1⟩ := c_ord_median E d hd (a - 1) a (a + 1) (by omega) (by omega) (by omega) s hs
 refine ⟨m, s1, q1, p1, ?_⟩
 have w1 : IntKind.i64.wrap ((a : Int) - 1) = ((a - 1 : Nat) : Int) := by rw [show (a : Int) - 1 = ((a - 1 : Nat) : Int) by omega]; exact wrap64 (by omega) (by omega)
 have w2 : IntKind.i64.wrap ((a : Int) + 1) = ((a + 1 : Nat) : Int) := by rw [show (a : Int) + 1 = ((a + 1 : Nat) : Int) by omega]; exact wrap64 (by omega) (by omega)
 obtain ⟨x, hx⟩ : ∃ x, x = a - 1 := ⟨_, rfl⟩
 obtain ⟨y, hy⟩ : ∃ y, y = a + 1 := ⟨_, rfl⟩
 rw [← hx, ← hy] at e1
 rw [← hx] at w1
 rw [← hy] at w2
 clear p1 q1 hx hy
 refine v_zz9 (by simp [i_zz9]) ?_
 rw [fbody_eq]
 simp (disch := first | assumption | omega | (simp [*] <;> omega) | fail) [-getElem?_pos, List.getElem?_cons_zero, List.getElem?_cons_succ, i_zz9, w1, w2, e1, hcl, fresults, fresL, fres1]
set_option maxHeartbeats 2000000 in
theorem c_ord_pivot (d : Array Nat) (hd : d.size = N) (a b : Nat) (hab : a < b) (hb : b ≤ N) :
  ∃ m t : Nat, (a ≤ m ∧ m < b) ∧ t ≤ 2 ∧ vcall F nro k_zz17 [S, .int .i64 a, .int .i64 b] (H d) = some (.tuple #[.int .i64 m, .int .i64 t], H d) := by
 have hc0 := fun L vs => E.base.clean d d L vs
 have hl := E.base.ln
 have hnr := E.base.nr #[]
 have hgt := E.get
 have hN := E.base.hN
 obtain ⟨len, hlen⟩ : ∃ len, len = b - a := ⟨_, rfl⟩
 have w0 : IntKind.i64.wrap ((b : Int) - a) = len := by rw [show (b : Int) - a = len by omega]; exact wrap64 (by omega) (by omega)
 obtain ⟨q, hq⟩ : ∃ q : Nat, q = len / 4 := ⟨_, rfl⟩
 have t1 : ((len : Nat) : Int).tdiv 4 = q := by rw [Int.tdiv_eq_ediv_of_nonneg (by omega)]; omega
 have hq2 : q ≤ 1000 := by omega
 have w1 : IntKind.i64.wrap (q : Int) = q := wrap64 (by omega) (by omega)
 obtain ⟨i, hi⟩ : ∃ i, i = a + q := ⟨_, rfl⟩
 obtain ⟨j, hj⟩ : ∃ j, j = a + q * 2 := ⟨_, rfl⟩
 obtain ⟨k, hk⟩ : ∃ k, k = a + q * 3 := ⟨_, rfl⟩
 have w2 : IntKind.i64.wrap ((q : Int) * 2) = (q : Int) * 2 := wrap64 (by omega) (by omega)
 have w3 : IntKind.i64.wrap ((q : Int) * 3) = (q : Int) * 3 := wrap64 (by omega) (by omega)
 have w4 : IntKind.i64.wrap ((a : Int) + q) = i := by rw [show (a : Int) + q = i by omega]; exact wrap64 (by omega) (by omega)
 have w5 : IntKind.i64.wrap ((a : Int) + (q : Int) * 2) = j := by rw [show (a : Int) + (q : Int) * 2 = j by omega]; exact wrap64 (by omega) (by omega)
 have w6 : IntKind.i64.wrap ((a : Int) + (q : Int) * 3) = k := by rw [show (a : Int) + (q : Int) * 3 = k by omega]; exact wrap64 (by omega) (by omega)
 by_cases c8 : (8 : Int) ≤ len
 ·by_cases c50 : (50 : Int) ≤ len
  ·obtain ⟨m1, s1, q1, p1, e1⟩ := c_ord_medianA E d hd i (by omega) (by omega) 0 (by omega)
   have r1 : a ≤ m1 ∧ m1 < b := by rcases p1 with h | h | h <;> omega
   clear p1
   obtain ⟨m2, s2, q2, p2, e2⟩ := c_ord_medianA E d hd j (by omega) (by omega) s1 (by omega)
   have r2 : a ≤ m2 ∧ m2 < b := by rcases p2 with h | h | h <;> omega
   clear p2
   obtain ⟨m3, s3, q3, p3, e3⟩ := c_ord_medianA E d hd k (by omega) (by omega) s2 (by omega)
   have r3 : a ≤ m3 ∧ m3 < b := by rcases p3 with h | h | h <;> omega
   clear p3
   obtain ⟨m4, s4, q4, p4, e4⟩ := c_ord_median E d hd m1 m2 m3 (by omega) (by omega) (by omega) s3 (by omega)
   have hr : a ≤ m4 ∧ m4 < b := by rcases p4 with h | h | h <;> rw [h] <;> assumption
   clear p4 r1 r2 r3 q1 q2 q3 q4 hi hj hk hq hlen
   simp only [Int.natCast_zero] at e1
   by_cases z0 : s4 = 0
   ·refine ⟨m4, 1, hr, by omega, ?_⟩
    subst z0
    clear hr
    refine v_zz17 (by simp [i_zz17]) ?_
    rw [fbody_eq]
    simp (disch := first | assumption | omega | (simp [*] <;> omega) | fail) [-getElem?_pos, List.getElem?_cons_zero, List.getElem?_cons_succ, i_zz17, w0, t1, w1, w2, w3, w4, w5, w6, c8, c50, hl, hnr, hgt, e1, e2, e3, e4, hc0, fresults, fresL, fres1]
   ·by_cases z1 : s4 = 12
    ·refine ⟨m4, 2, hr, by omega, ?_⟩
     subst z1
     clear hr
     refine v_zz17 (by simp [i_zz17]) ?_
     rw [fbody_eq]
     simp (disch := first | assumption | omega | (simp [*] <;> omega) | fail) [-getElem?_pos, List.getElem?_cons_zero, List.getElem?_cons_succ, i_zz17, w0, t1, w1, w2, w3, w4, w5, w6, c8, c50, hl, hnr, hgt, e1, e2, e3, e4, hc0, fresults, fresL, fres1]
    ·have z0' : ¬ (s4 : Int) = 0 := by omega
     have z1' : ¬ (s4 : Int) = 12 := by omega
     refine ⟨m4, 0, hr, by omega, ?_⟩
     clear hr
     refine v_zz17 (by simp [i_zz17]) ?_
     rw [fbody_eq]
     simp (disch := first | assumption | omega | (simp [*] <;> omega) | fail) [-getElem?_pos, List.getElem?_cons_zero, List.getElem?_cons_succ, i_zz17, w0, t1, w1, w2, w3, w4, w5, w6, c8, c50, hl, hnr, hgt, e1, e2, e3, e4, z0, z1, z0', z1', hc0, fresults, fresL, fres1]
  ·obtain ⟨m4, s4, q4, p4, e4⟩ := c_ord_median E d hd i j k (by omega) (by omega) (by omega) 0 (by omega)
   have hr : a ≤ m4 ∧ m4 < b := by rcases p4 with h | h | h <;> omega
   have z1 : ¬ s4 = 12 := by omega
   have z1' : ¬ (s4 : Int) = 12 := by omega
   simp only [Int.natCast_zero] at e4
   by_cases z0 : s4 = 0
   ·refine ⟨m4, 1, hr, by omega, ?_⟩
    subst z0
    clear p4 q4 hi hj hk hq hlen hr
    refine v_zz17 (by simp [i_zz17]) ?_
    rw [fbody_eq]
    simp (disch := first | assumption | omega | (simp [*] <;> omega) | fail) [-getElem?_pos, List.getElem?_cons_zero, List.getElem?_cons_succ, i_zz17, w0, t1, w1, w2, w3, w4, w5, w6, c8, c50, hl, hnr, hgt, e4, hc0, fresults, fresL, fres1]
   ·have z0' : ¬ (s4 : Int) = 0 := by omega
    refine ⟨m4, 0, hr, by omega, ?_⟩
    clear p4 q4 hi hj hk hq hlen hr
    refine v_zz17 (by simp [i_zz17]) ?_
    rw [fbody_eq]
    simp (disch := first | assumption | omega | (simp [*] <;> omega) | fail) [-getElem?_pos, List.getElem?_cons_zero, List.getElem?_cons_succ, i_zz17, w0, t1, w1, w2, w3, w4, w5, w6, c8, c50, hl, hnr, hgt, e4, z0, z0', z1, z1', hc0, fresults, fresL, fres1]
 ·refine ⟨j, 1, by omega, by omega, ?_⟩
  clear hi hj hk hq hlen
  refine v_zz17 (by simp [i_zz17]) ?_
  rw [fbody_eq]
  simp (disch := first | assumption | omega | (simp [*] <;> omega) | fail) [-getElem?_pos, List.getElem?_cons_zero, List.getElem?_cons_succ, i_zz17, w0, t1, w1, w2, w3, w4, w5, w6, c8, hl, hnr, hgt, hc0, fresults, fresL, fres1]
end
end

/- Sorting: partitions. -/
section
open Go Go.Sort
variable {nro : Nat} {S : Value} {P : Int → Value} {ag : Nat → Value} {cm : Nat → Nat → Int} {N : Nat} {H : Array Nat → VH}
section
variable (E : SO nro S P ag cm N H)
include E
theorem l_ord_up1 (a j : Nat) (haN : a < N) (hjN : j < N) (d0 d : Array Nat) (hd : d.size = N) (v : Nat) (hv : getI d (a : Int) = v) : ∀ (k i : Nat), j + 1 ≤ i + k → i ≤ N →
  floop (vcall F nro) nro [0, 1, 10, 11] i_zz21_B1 (H d0) [S, .int .i64 a, .int .i64 i, .int .i64 j] (H d) = some (.exit 0, fl [(0, S), (1, .int .i64 a), (10, .int .i64 ((scanUp (fun x => ltC cm x v) d j i : Nat))), (11, .int .i64 (j))], H d) := by
 have hc := fun q => E.clean0 d0 q
 have hl := E.ln
 have oS := E.oS
 have hN := E.hN
 have hix := E.idx
 have hld := E.load
 have hcm := E.cmp
 have a0 : (0 : Int) ≤ a := by omega
 have a1 : (a : Int) < N := by omega
 intro k
 induction k with
 | zero =>
  intro i hk hi
  have c1 : ¬ (i : Int) ≤ j := by omega
  have c2 : ¬ i ≤ j := by omega
  rw [scanUp, if_neg (by simp [c2]), floop_at i_zz21_B1.eq_1]
  simp (disch := first | assumption | omega | (simp [*] <;> omega) | fail) [-getElem?_pos, List.getElem?_cons_zero, List.getElem?_cons_succ, hc, hl, oS, c1, c2]
 | succ k ih =>
  intro i hk hi
  have gi := getI_nat d (i : Int) i rfl
  by_cases c1 : i ≤ j
  ·have c1' : (i : Int) ≤ j := by omega
   have i0 : (0 : Int) ≤ i := by omega
   have i1 : (i : Int) < N := by omega
   have w1 : IntKind.i64.wrap ((i : Int) + 1) = (i : Int) + 1 := wrap64 (by omega) (by omega)
   rw [scanUp, ← gi, ← hv]
   by_cases c2 : cm (getI d (i : Int)) (getI d (a : Int)) < 0
   ·have e2 : ltC cm (getI d (i : Int)) (getI d (a : Int)) = true := decide_eq_true c2
    rw [if_pos (by simp [c1, e2])]
    rw [hv]
    have ih2 := ih (i + 1) (by omega) (by omega)
    rw [← ih2]
    clear ih ih2 gi e2 hv
    rw [floop_at i_zz21_B1.eq_1]
    simp (disch := first | assumption | omega | (simp [*] <;> omega) | fail) [-getElem?_pos, List.getElem?_cons_zero, List.getElem?_cons_succ, hc, hl, oS, hix, hld, hcm, hd, c1', c1, c2, i0, i1, a0, a1, w1]
   ·have e2 : ltC cm (getI d (i : Int)) (getI d (a : Int)) = false := decide_eq_false c2
    rw [if_neg (by simp [e2])]
    clear ih gi e2 hv
    rw [floop_at i_zz21_B1.eq_1]
    simp (disch := first | assumption | omega | (simp [*] <;> omega) | fail) [-getElem?_pos, List.getElem?_cons_zero, List.getElem?_cons_succ, hc, hl, oS, hix, hld, hcm, hd, c1', c1, c2, i0, i1, a0, a1, w1]
  ·have c1' : ¬ (i : Int) ≤ j := by omega
   rw [scanUp, if_neg (by simp [c1]), floop_at i_zz21_B1.eq_1]
   simp (disch := first | assumption | omega | (simp [*] <;> omega) | fail) [-getElem?_pos, List.getElem?_cons_zero, List.getElem?_cons_succ, hc, hl, oS, c1', c1]
theorem l_ord_dn1 (a i : Nat) (haN : a < N) (hi1 : 1 ≤ i) (d0 d : Array Nat) (hd : d.size = N) (v : Nat) (hv : getI d (a : Int) = v) : ∀ (j : Nat), j < N →
  floop (vcall F nro) nro [0, 1, 10, 11] i_zz21_B2 (H d0) [S, .int .i64 a, .int .i64 i, .int .i64 j] (H d) = some (.exit 2, fl [(0, S), (1, .int .i64 a), (10, .int .i64 (i)), (11, .int .i64 ((scanDown (fun x => !ltC cm x v) d i j : Nat)))], H d) := by
 have hc := fun q => E.clean0 d0 q
 have hl := E.ln
 have oS := E.oS
 have hN := E.hN
 have hix := E.idx
 have hld := E.load
 have hcm := E.cmp
 have a0 : (0 : Int) ≤ a := by omega
 have a1 : (a : Int) < N := by omega
 intro j
 induction j with
 | zero =>
  intro hj
  have c1 : ¬ (i : Int) ≤ 0 := by omega
  have c2 : ¬ i = 0 := by omega
  rw [scanDown, floop_at i_zz21_B2.eq_1]
  simp (disch := first | assumption | omega | (simp [*] <;> omega) | fail) [-getElem?_pos, List.getElem?_cons_zero, List.getElem?_cons_succ, hc, hl, oS, c1, c2]
 | succ j ih =>
  intro hj
  have gi := getI_nat d ((j : Int) + 1) (j + 1) (by omega)
  by_cases c1 : i ≤ j + 1
  ·have c1' : (i : Int) ≤ (j : Int) + 1 := by omega
   have i0 : (0 : Int) ≤ (j : Int) + 1 := by omega
   have i1 : (j : Int) + 1 < N := by omega
   have w1 : IntKind.i64.wrap (j : Int) = j := wrap64 (by omega) (by omega)
   rw [scanDown, ← gi, ← hv]
   by_cases c2 : cm (getI d ((j : Int) + 1)) (getI d (a : Int)) < 0
   ·have e2 : ltC cm (getI d ((j : Int) + 1)) (getI d (a : Int)) = true := decide_eq_true c2
    rw [if_neg (by simp [e2])]
    clear ih gi e2 hv
    rw [floop_at i_zz21_B2.eq_1]
    simp (disch := first | assumption | omega | (simp [*] <;> omega) | fail) [-getElem?_pos, List.getElem?_cons_zero, List.getElem?_cons_succ, hc, hl, oS, hix, hld, hcm, hd, c1', c1, c2, i0, i1, a0, a1, w1]
   ·have e2 : ltC cm (getI d ((j : Int) + 1)) (getI d (a : Int)) = false := decide_eq_false c2
    rw [if_pos (by simp [c1, e2])]
    rw [hv]
    have ih2 := ih (by omega)
    rw [← ih2]
    clear ih ih2 gi e2 hv
    rw [floop_at i_zz21_B2.eq_1]
    simp (disch := first | assumption | omega | (simp [*] <;> omega) | fail) [-getElem?_pos, List.getElem?_cons_zero, List.getElem?_cons_succ, hc, hl, oS, hix, hld, hcm, hd, c1', c1, c2, i0, i1, a0, a1, w1]
  ·have c1' : ¬ (i : Int) ≤ (j : Int) + 1 := by omega
   rw [scanDown, if_neg (by simp [c1]), floop_at i_zz21_B2.eq_1]
   simp (disch := first | assumption | omega | (simp [*] <;> omega) | fail) [-getElem?_pos, List.getElem?_cons_zero, List.getElem?_cons_succ, hc, hl, oS, c1', c1]
theorem l_ord_up2 (a j : Nat) (haN : a < N) (hjN : j < N) (d0 d : Array Nat) (hd : d.size = N) (v : Nat) (hv : getI d (a : Int) = v) : ∀ (k i : Nat), j + 1 ≤ i + k → i ≤ N →
  floop (vcall F nro) nro [0, 1, 10, 11] i_zz21_B3 (H d0) [S, .int .i64 a, .int .i64 i, .int .i64 j] (H d) = some (.exit 6, fl [(0, S), (1, .int .i64 a), (10, .int .i64 ((scanUp (fun x => ltC cm x v) d j i : Nat))), (11, .int .i64 (j))], H d) := by
 have hc := fun q => E.clean0 d0 q
 have hl := E.ln
 have oS := E.oS
 have hN := E.hN
 have hix := E.idx
 have hld := E.load
 have hcm := E.cmp
 have a0 : (0 : Int) ≤ a := by omega
 have a1 : (a : Int) < N := by omega
 intro k
 induction k with
 | zero =>
  intro i hk hi
  have c1 : ¬ (i : Int) ≤ j := by omega
  have c2 : ¬ i ≤ j := by omega
  rw [scanUp, if_neg (by simp [c2]), floop_at i_zz21_B3.eq_1]
  simp (disch := first | assumption | omega | (simp [*] <;> omega) | fail) [-getElem?_pos, List.getElem?_cons_zero, List.getElem?_cons_succ, hc, hl, oS, c1, c2]
 | succ k ih =>
  intro i hk hi
  have gi := getI_nat d (i : Int) i rfl
  by_cases c1 : i ≤ j
  ·have c1' : (i : Int) ≤ j := by omega
   have i0 : (0 : Int) ≤ i := by omega
   have i1 : (i : Int) < N := by omega
   have w1 : IntKind.i64.wrap ((i : Int) + 1) = (i : Int) + 1 := wrap64 (by omega) (by omega)
   rw [scanUp, ← gi, ← hv]
   by_cases c2 : cm (getI d (i : Int)) (getI d (a : Int)) < 0
   ·have e2 : ltC cm (getI d (i : Int)) (getI d (a : Int)) = true := decide_eq_true c2
    rw [if_pos (by simp [c1, e2])]
    rw [hv]
    have ih2 := ih (i + 1) (by omega) (by omega)
    rw [← ih2]
    clear ih ih2 gi e2 hv
    rw [floop_at i_zz21_B3.eq_1]
    simp (disch := first | assumption | omega | (simp [*] <;> omega) | fail) [-getElem?_pos, List.getElem?_cons_zero, List.getElem?_cons_succ, hc, hl, oS, hix, hld, hcm, hd, c1', c1, c2, i0, i1, a0, a1, w1]
   ·have e2 : ltC cm (getI d (i : Int)) (getI d (a : Int)) = false := decide_eq_false c2
    rw [if_neg (by simp [e2])]
    clear ih gi e2 hv
    rw [floop_at i_zz21_B3.eq_1]
    simp (disch := first | assumption | omega | (simp [*] <;> omega) | fail) [-getElem?_pos, List.getElem?_cons_zero, List.getElem?_cons_succ, hc, hl, oS, hix, hld, hcm, hd, c1', c1, c2, i0, i1, a0, a1, w1]
  ·have c1' : ¬ (i : Int) ≤ j := by omega
   rw [scanUp, if_neg (by simp [c1]), floop_at i_zz21_B3.eq_1]
   simp (disch := first | assumption | omega | (simp [*] <;> omega) | fail) [-getElem?_pos, List.getElem?_cons_zero, List.getElem?_cons_succ, hc, hl, oS, c1', c1]
theorem l_ord_dn2 (a i : Nat) (haN : a < N) (hi1 : 1 ≤ i) (d0 d : Array Nat) (hd : d.size = N) (v : Nat) (hv : getI d (a : Int) = v) : ∀ (j : Nat), j < N →
  floop (vcall F nro) nro [0, 1, 10, 11] i_zz21_B4 (H d0) [S, .int .i64 a, .int .i64 i, .int .i64 j] (H d) = some (.exit 8, fl [(0, S), (1, .int .i64 a), (10, .int .i64 (i)), (11, .int .i64 ((scanDown (fun x => !ltC cm x v) d i j : Nat)))], H d) := by
 have hc := fun q => E.clean0 d0 q
 have hl := E.ln
 have oS := E.oS
 have hN := E.hN
 have hix := E.idx
 have hld := E.load
 have hcm := E.cmp
 have a0 : (0 : Int) ≤ a := by omega
 have a1 : (a : Int) < N := by omega
 intro j
 induction j with
 | zero =>
  intro hj
  have c1 : ¬ (i : Int) ≤ 0 := by omega
  have c2 : ¬ i = 0 := by omega
  rw [scanDown, floop_at i_zz21_B4.eq_1]
  simp (disch := first | assumption | omega | (simp [*] <;> omega) | fail) [-getElem?_pos, List.getElem?_cons_zero, List.getElem?_cons_succ, hc, hl, oS, c1, c2]
 | succ j ih =>
  intro hj
  have gi := getI_nat d ((j : Int) + 1) (j + 1) (by omega)
  by_cases c1 : i ≤ j + 1
  ·have c1' : (i : Int) ≤ (j : Int) + 1 := by omega
   have i0 : (0 : Int) ≤ (j : Int) + 1 := by omega
   have i1 : (j : Int) + 1 < N := by omega
   have w1 : IntKind.i64.wrap (j : Int) = j := wrap64 (by omega) (by omega)
   rw [scanDown, ← gi, ← hv]
   by_cases c2 : cm (getI d ((j : Int) + 1)) (getI d (a : Int)) < 0
   ·have e2 : ltC cm (getI d ((j : Int) + 1)) (getI d (a : Int)) = true := decide_eq_true c2
    rw [if_neg (by simp [e2])]
    clear ih gi e2 hv
    rw [floop_at i_zz21_B4.eq_1]
    simp (disch := first | assumption | omega | (simp [*] <;> omega) | fail) [-getElem?_pos, List.getElem?_cons_zero, List.getElem?_cons_succ, hc, hl, oS, hix, hld, hcm, hd, c1', c1, c2, i0, i1, a0, a1, w1]
   ·have e2 : ltC cm (getI d ((j : Int) + 1)) (getI d (a : Int)) = false := decide_eq_false c2
    rw [if_pos (by simp [c1, e2])]
    rw [hv]
    have ih2 := ih (by omega)
    rw [← ih2]
    clear ih ih2 gi e2 hv
    rw [floop_at i_zz21_B4.eq_1]
    simp (disch := first | assumption | omega | (simp [*] <;> omega) | fail) [-getElem?_pos, List.getElem?_cons_zero, List.getElem?_cons_succ, hc, hl, oS, hix, hld, hcm, hd, c1', c1, c2, i0, i1, a0, a1, w1]
  ·have c1' : ¬ (i : Int) ≤ (j : Int) + 1 := by omega
   rw [scanDown, if_neg (by simp [c1]), floop_at i_zz21_B4.eq_1]
   simp (disch := first | assumption | omega | (simp [*] <;> omega) | fail) [-getElem?_pos, List.getElem?_cons_zero, List.getElem?_cons_succ, hc, hl, oS, c1', c1]
theorem l_ord_up3 (a j : Nat) (haN : a < N) (hjN : j < N) (d0 d : Array Nat) (hd : d.size = N) (v : Nat) (hv : getI d (a : Int) = v) : ∀ (k i : Nat), j + 1 ≤ i + k → i ≤ N →
  floop (vcall F nro) nro [0, 1, 9, 10] i_zz10_B1 (H d0) [S, .int .i64 a, .int .i64 i, .int .i64 j] (H d) = some (.exit 2, fl [(0, S), (1, .int .i64 a), (9, .int .i64 ((scanUp (fun x => !ltC cm v x) d j i : Nat))), (10, .int .i64 (j))], H d) := by
 have hc := fun q => E.clean0 d0 q
 have hl := E.ln
 have oS := E.oS
 have hN := E.hN
 have hix := E.idx
 have hld := E.load
 have hcm := E.cmp
 have a0 : (0 : Int) ≤ a := by omega
 have a1 : (a : Int) < N := by omega
 intro k
 induction k with
 | zero =>
  intro i hk hi
  have c1 : ¬ (i : Int) ≤ j := by omega
  have c2 : ¬ i ≤ j := by omega
  rw [scanUp, if_neg (by simp [c2]), floop_at i_zz10_B1.eq_1]
  simp (disch := first | assumption | omega | (simp [*] <;> omega) | fail) [-getElem?_pos, List.getElem?_cons_zero, List.getElem?_cons_succ, hc, hl, oS, c1, c2]
 | succ k ih =>
  intro i hk hi
  have gi := getI_nat d (i : Int) i rfl
  by_cases c1 : i ≤ j
  ·have c1' : (i : Int) ≤ j := by omega
   have i0 : (0 : Int) ≤ i := by omega
   have i1 : (i : Int) < N := by omega
   have w1 : IntKind.i64.wrap ((i : Int) + 1) = (i : Int) + 1 := wrap64 (by omega) (by omega)
   rw [scanUp, ← gi, ← hv]
   by_cases c2 : cm (getI d (a : Int)) (getI d (i : Int)) < 0
   ·have e2 : ltC cm (getI d (a : Int)) (getI d (i : Int)) = true := decide_eq_true c2
    rw [if_neg (by simp [e2])]
    clear ih gi e2 hv
    rw [floop_at i_zz10_B1.eq_1]
    simp (disch := first | assumption | omega | (simp [*] <;> omega) | fail) [-getElem?_pos, List.getElem?_cons_zero, List.getElem?_cons_succ, hc, hl, oS, hix, hld, hcm, hd, c1', c1, c2, i0, i1, a0, a1, w1]
   ·have e2 : ltC cm (getI d (a : Int)) (getI d (i : Int)) = false := decide_eq_false c2
    rw [if_pos (by simp [c1, e2])]
    rw [hv]
    have ih2 := ih (i + 1) (by omega) (by omega)
    rw [← ih2]
    clear ih ih2 gi e2 hv
    rw [floop_at i_zz10_B1.eq_1]
    simp (disch := first | assumption | omega | (simp [*] <;> omega) | fail) [-getElem?_pos, List.getElem?_cons_zero, List.getElem?_cons_succ, hc, hl, oS, hix, hld, hcm, hd, c1', c1, c2, i0, i1, a0, a1, w1]
  ·have c1' : ¬ (i : Int) ≤ j := by omega
   rw [scanUp, if_neg (by simp [c1]), floop_at i_zz10_B1.eq_1]
   simp (disch := first | assumption | omega | (simp [*] <;> omega) | fail) [-getElem?_pos, List.getElem?_cons_zero, List.getElem?_cons_succ, hc, hl, oS, c1', c1]
theorem l_ord_dn3 (a i : Nat) (haN : a < N) (hi1 : 1 ≤ i) (d0 d : Array Nat) (hd : d.size = N) (v : Nat) (hv : getI d (a : Int) = v) : ∀ (j : Nat), j < N →
  floop (vcall F nro) nro [0, 1, 9, 10] i_zz10_B2 (H d0) [S, .int .i64 a, .int .i64 i, .int .i64 j] (H d) = some (.exit 4, fl [(0, S), (1, .int .i64 a), (9, .int .i64 (i)), (10, .int .i64 ((scanDown (fun x => ltC cm v x) d i j : Nat)))], H d) := by
 have hc := fun q => E.clean0 d0 q
 have hl := E.ln
 have oS := E.oS
 have hN := E.hN
 have hix := E.idx
 have hld := E.load
 have hcm := E.cmp
 have a0 : (0 : Int) ≤ a := by omega
 have a1 : (a : Int) < N := by omega
 intro j
 induction j with
 | zero =>
  intro hj
  have c1 : ¬ (i : Int) ≤ 0 := by omega
  have c2 : ¬ i = 0 := by omega
  rw [scanDown, floop_at i_zz10_B2.eq_1]
  simp (disch := first | assumption | omega | (simp [*] <;> omega) | fail) [-getElem?_pos, List.getElem?_cons_zero, List.getElem?_cons_succ, hc, hl, oS, c1, c2]
 | succ j ih =>
  intro hj
  have gi := getI_nat d ((j : Int) + 1) (j + 1) (by omega)
  by_cases c1 : i ≤ j + 1
  ·have c1' : (i : Int) ≤ (j : Int) + 1 := by omega
   have i0 : (0 : Int) ≤ (j : Int) + 1 := by omega
   have i1 : (j : Int) + 1 < N := by omega
   have w1 : IntKind.i64.wrap (j : Int) = j := wrap64 (by omega) (by omega)
   rw [scanDown, ← gi, ← hv]
   by_cases c2 : cm (getI d (a : Int)) (getI d ((j : Int) + 1)) < 0
   ·have e2 : ltC cm (getI d (a : Int)) (getI d ((j : Int) + 1)) = true := decide_eq_true c2
    rw [if_pos (by simp [c1, e2])]
    rw [hv]
    have ih2 := ih (by omega)
    rw [← ih2]
    clear ih ih2 gi e2 hv
    rw [floop_at i_zz10_B2.eq_1]
    simp (disch := first | assumption | omega | (simp [*] <;> omega) | fail) [-getElem?_pos, List.getElem?_cons_zero, List.getElem?_cons_succ, hc, hl, oS, hix, hld, hcm, hd, c1', c1, c2, i0, i1, a0, a1, w1]
   ·have e2 : ltC cm (getI d (a : Int)) (getI d ((j : Int) + 1)) = false := decide_eq_false c2
    rw [if_neg (by simp [e2])]
    clear ih gi e2 hv
    rw [floop_at i_zz10_B2.eq_1]
    simp (disch := first | assumption | omega | (simp [*] <;> omega) | fail) [-getElem?_pos, List.getElem?_cons_zero, List.getElem?_cons_succ, hc, hl, oS, hix, hld, hcm, hd, c1', c1, c2, i0, i1, a0, a1, w1]
  ·have c1' : ¬ (i : Int) ≤ (j : Int) + 1 := by omega
   rw [scanDown, if_neg (by simp [c1]), floop_at i_zz10_B2.eq_1]
   simp (disch := first | assumption | omega | (simp [*] <;> omega) | fail) [-getElem?_pos, List.getElem?_cons_zero, List.getElem?_cons_succ, hc, hl, oS, c1', c1]
end
end

/- Sorting: partitions, whole. -/
section
open Go Go.Sort
variable {nro : Nat} {S : Value} {P : Int → Value} {ag : Nat → Value} {cm : Nat → Nat → Int} {N : Nat} {H : Array Nat → VH}
section
variable (E : SO nro S P ag cm N H)
include E
set_option maxHeartbeats 1000000 in
theorem l_ord_part (a : Nat) (haN : a < N) (d0 : Array Nat) : ∀ (n i j : Nat) (d : Array Nat), d.size = N → j + 1 - i ≤ n → 1 ≤ i → i ≤ N → j < N →
  floop (vcall F nro) nro [0, 1, 10, 11] i_zz21_B5 (H d0) [S, .int .i64 a, .int .i64 i, .int .i64 j] (H d) = some (.exit 4, fl [(0, S), (1, .int .i64 a), (11, .int .i64 ((partLoop (ltC cm) a i j d).1 : Nat))], H (partLoop (ltC cm) a i j d).2) := by
 intro n
 induction n with
 | zero =>
  intro i j d hd hn hi hiN hj
  have hc := fun q => E.clean0 d0 q
  have hl := E.ln
  have oS := E.oS
  have u := l_ord_up2 E a j haN hj d d hd d[a]! (getI_nat d a a rfl) (j + 1) i (by omega) hiN
  have h1 := scanUp_ge (fun x => ltC cm x d[a]!) d j i
  have dn := l_ord_dn2 E a (scanUp (fun x => ltC cm x d[a]!) d j i) haN (by omega) d d hd d[a]! (getI_nat d a a rfl) j hj
  have h2 := scanDown_le (fun x => !ltC cm x d[a]!) d (scanUp (fun x => ltC cm x d[a]!) d j i) j
  rw [partLoop_eq]
  obtain ⟨x, hx⟩ : ∃ x, x = scanUp (fun x => ltC cm x d[a]!) d j i := ⟨_, rfl⟩
  rw [← hx] at u dn h1 h2 ⊢
  obtain ⟨y, hy⟩ : ∃ y, y = scanDown (fun x => !ltC cm x d[a]!) d x j := ⟨_, rfl⟩
  rw [← hy] at dn h2 ⊢
  have c : x > y := by omega
  have c' : (y : Int) < x := by omega
  rw [if_pos c]
  clear hx hy
  rw [floop_at i_zz21_B5.eq_1]
  simp (disch := first | assumption | omega | (simp [*] <;> omega) | fail) [-getElem?_pos, List.getElem?_cons_zero, List.getElem?_cons_succ, hc, hl, oS, u, dn, c']
 | succ n ih =>
  intro i j d hd hn hi hiN hj
  have hc := fun q => E.clean0 d0 q
  have hl := E.ln
  have oS := E.oS
  have hN := E.hN
  have hix := E.idx
  have hld := E.load
  have hst := E.store
  have u := l_ord_up2 E a j haN hj d d hd d[a]! (getI_nat d a a rfl) (j + 1) i (by omega) hiN
  have h1 := scanUp_ge (fun x => ltC cm x d[a]!) d j i
  have dn := l_ord_dn2 E a (scanUp (fun x => ltC cm x d[a]!) d j i) haN (by omega) d d hd d[a]! (getI_nat d a a rfl) j hj
  have h2 := scanDown_le (fun x => !ltC cm x d[a]!) d (scanUp (fun x => ltC cm x d[a]!) d j i) j
  rw [partLoop_eq]
  obtain ⟨x, hx⟩ : ∃ x, x = scanUp (fun x => ltC cm x d[a]!) d j i := ⟨_, rfl⟩
  rw [← hx] at u dn h1 h2 ⊢
  obtain ⟨y, hy⟩ : ∃ y, y = scanDown (fun x => !ltC cm x d[a]!) d x j := ⟨_, rfl⟩
  rw [← hy] at dn h2 ⊢
  by_cases c : x > y
  ·have c' : (y : Int) < x := by omega
   rw [if_pos c]
   clear hx hy ih
   rw [floop_at i_zz21_B5.eq_1]
   simp (disch := first | assumption | omega | (simp [*] <;> omega) | fail) [-getElem?_pos, List.getElem?_cons_zero, List.getElem?_cons_succ, hc, hl, oS, u, dn, c']
  ·have c' : ¬ (y : Int) < x := by omega
   rw [if_neg c]
   have ih2 := ih (x + 1) (y - 1) (Go.Sort.swp d x y) (by simpa using hd) (by omega) (by omega) (by omega) (by omega)
   rw [← ih2]
   have e4 : swI d (x : Int) (y : Int) = Go.Sort.swp d x y := swI_swp _ _ _ _ _ rfl rfl
   unfold swI at e4
   have w1 : IntKind.i64.wrap ((x : Int) + 1) = (x : Int) + 1 := wrap64 (by omega) (by omega)
   have w2 : IntKind.i64.wrap ((y : Int) - 1) = ((y - 1 : Nat) : Int) := by rw [show (y : Int) - 1 = ((y - 1 : Nat) : Int) by omega]; exact wrap64 (by omega) (by omega)
   have x0 : (0 : Int) ≤ x := by omega
   have y0 : (0 : Int) ≤ y := by omega
   have x1 : (x : Int) < N := by omega
   have y1 : (y : Int) < N := by omega
   obtain ⟨z, hz⟩ : ∃ z, z = y - 1 := ⟨_, rfl⟩
   rw [← hz] at w2 ⊢
   clear hx hy ih ih2 hz
   rw [floop_at i_zz21_B5.eq_1]
   simp (disch := first | assumption | omega | (simp [*] <;> omega) | fail) [-getElem?_pos, List.getElem?_cons_zero, List.getElem?_cons_succ, hc, hl, oS, u, dn, c', hix, hld, hst, hd, e4, w1, w2, x0, y0, x1, y1]
set_option maxHeartbeats 1000000 in
theorem c_ord_part (d : Array Nat) (hd : d.size = N) (a b p : Nat) (hap : a ≤ p) (hpb : p < b) (hb : b ≤ N) :
  vcall F nro k_zz21 [S, .int .i64 a, .int .i64 b, .int .i64 p] (H d) = some (.tuple #[.int .i64 ((partition (ltC cm) d a b p).1 : Nat), .bool (partition (ltC cm) d a b p).2.1], H (partition (ltC cm) d a b p).2.2) := by
 have hc0 := fun q vs => E.clean0 d q vs
 have hl := E.ln
 have hN := E.hN
 have hix := E.idx
 have hld := E.load
 have hst := E.store
 obtain ⟨d1, hd1⟩ : ∃ d1, d1 = Go.Sort.swp d a p := ⟨_, rfl⟩
 have hs1 : d1.size = N := by rw [hd1]; simpa using hd
 have e0 : swI d (a : Int) (p : Int) = d1 := by rw [hd1]; exact swI_swp _ _ _ _ _ rfl rfl
 unfold swI at e0
 have u := l_ord_up1 E a (b - 1) (by omega) (by omega) d1 d1 hs1 d1[a]! (getI_nat d1 a a rfl) b (a + 1) (by omega) (by omega)
 have h1 := scanUp_ge (fun x => ltC cm x d1[a]!) d1 (b - 1) (a + 1)
 have dn := l_ord_dn1 E a (scanUp (fun x => ltC cm x d1[a]!) d1 (b - 1) (a + 1)) (by omega) (by omega) d1 d1 hs1 d1[a]! (getI_nat d1 a a rfl) (b - 1) (by omega)
 have h2 := scanDown_le (fun x => !ltC cm x d1[a]!) d1 (scanUp (fun x => ltC cm x d1[a]!) d1 (b - 1) (a + 1)) (b - 1)
 have hdef : partition (ltC cm) d a b p = if scanUp (fun x => ltC cm x d1[a]!) d1 (b - 1) (a + 1) > scanDown (fun x => !ltC cm x d1[a]!) d1 (scanUp (fun x => ltC cm x d1[a]!) d1 (b - 1) (a + 1)) (b - 1) then (scanDown (fun x => !ltC cm x d1[a]!) d1 (scanUp (fun x => ltC cm x d1[a]!) d1 (b - 1) (a + 1)) (b - 1), true, Go.Sort.swp d1 (scanDown (fun x => !ltC cm x d1[a]!) d1 (scanUp (fun x => ltC cm x d1[a]!) d1 (b - 1) (a + 1)) (b - 1)) a) else ((partLoop (ltC cm) a (scanUp (fun x => ltC cm x d1[a]!) d1 (b - 1) (a + 1) + 1) (scanDown (fun x => !ltC cm x d1[a]!) d1 (scanUp (fun x => ltC cm x d1[a]!) d1 (b - 1) (a + 1)) (b - 1) - 1) (Go.Sort.swp d1 (scanUp (fun x => ltC cm x d1[a]!) d1 (b - 1) (a + 1)) (scanDown (fun x => !ltC cm x d1[a]!) d1 (scanUp (fun x => ltC cm x d1[a]!) d1 (b - 1) (a + 1)) (b - 1)))).1, false, Go.Sort.swp (partLoop (ltC cm) a (scanUp (fun x => ltC cm x d1[a]!) d1 (b - 1) (a + 1) + 1) (scanDown (fun x => !ltC cm x d1[a]!) d1 (scanUp (fun x => ltC cm x d1[a]!) d1 (b - 1) (a + 1)) (b - 1) - 1) (Go.Sort.swp d1 (scanUp (fun x => ltC cm x d1[a]!) d1 (b - 1) (a + 1)) (scanDown (fun x => !ltC cm x d1[a]!) d1 (scanUp (fun x => ltC cm x d1[a]!) d1 (b - 1) (a + 1)) (b - 1)))).2 (partLoop (ltC cm) a (scanUp (fun x => ltC cm x d1[a]!) d1 (b - 1) (a + 1) + 1) (scanDown (fun x => !ltC cm x d1[a]!) d1 (scanUp (fun x => ltC cm x d1[a]!) d1 (b - 1) (a + 1)) (b - 1) - 1) (Go.Sort.swp d1 (scanUp (fun x => ltC cm x d1[a]!) d1 (b - 1) (a + 1)) (scanDown (fun x => !ltC cm x d1[a]!) d1 (scanUp (fun x => ltC cm x d1[a]!) d1 (b - 1) (a + 1)) (b - 1)))).1 a) := by
  rw [hd1]; rfl
 rw [hdef]
 obtain ⟨x, hx⟩ : ∃ x, x = scanUp (fun x => ltC cm x d1[a]!) d1 (b - 1) (a + 1) := ⟨_, rfl⟩
 rw [← hx] at u dn h1 h2 ⊢
 obtain ⟨y, hy⟩ : ∃ y, y = scanDown (fun x => !ltC cm x d1[a]!) d1 x (b - 1) := ⟨_, rfl⟩
 rw [← hy] at dn h2 ⊢
 have w1 : IntKind.i64.wrap ((a : Int) + 1) = ((a + 1 : Nat) : Int) := by rw [show (a : Int) + 1 = ((a + 1 : Nat) : Int) by omega]; exact wrap64 (by omega) (by omega)
 have w2 : IntKind.i64.wrap ((b : Int) - 1) = ((b - 1 : Nat) : Int) := by rw [show (b : Int) - 1 = ((b - 1 : Nat) : Int) by omega]; exact wrap64 (by omega) (by omega)
 have a0 : (0 : Int) ≤ a := by omega
 have a1 : (a : Int) < N := by omega
 have p0 : (0 : Int) ≤ p := by omega
 have p1 : (p : Int) < N := by omega
 have y0 : (0 : Int) ≤ y := by omega
 have y1 : (y : Int) < N := by omega
 obtain ⟨i1, hi1⟩ : ∃ i1, i1 = a + 1 := ⟨_, rfl⟩
 obtain ⟨j1, hj1⟩ : ∃ j1, j1 = b - 1 := ⟨_, rfl⟩
 rw [← hi1] at w1 u
 rw [← hj1] at w2 u dn
 by_cases c : x > y
 ·have c' : (y : Int) < x := by omega
  rw [if_pos c]
  have e1 : swI d1 (y : Int) (a : Int) = Go.Sort.swp d1 y a := swI_swp _ _ _ _ _ rfl rfl
  unfold swI at e1
  clear hx hy hdef hd1 hi1 hj1
  refine v_zz21 (by simp [i_zz21]) ?_
  rw [fbody_eq]
  simp (disch := first | assumption | omega | (simp [*] <;> omega) | fail) [-getElem?_pos, List.getElem?_cons_zero, List.getElem?_cons_succ, i_zz21, hc0, hl, hix, hld, hst, hd, hs1, e0, u, dn, c', e1, w1, w2, a0, a1, p0, p1, y0, y1, fresults, fresL, fres1]
 ·have c' : ¬ (y : Int) < x := by omega
  rw [if_neg c]
  obtain ⟨d2, hd2⟩ : ∃ d2, d2 = Go.Sort.swp d1 x y := ⟨_, rfl⟩
  have hs2 : d2.size = N := by rw [hd2]; simpa using hs1
  have e2 : swI d1 (x : Int) (y : Int) = d2 := by rw [hd2]; exact swI_swp _ _ _ _ _ rfl rfl
  unfold swI at e2
  rw [← hd2]
  have lp := l_ord_part E a (by omega) d2 (y - 1 + 1 - (x + 1)) (x + 1) (y - 1) d2 hs2 (Nat.le_refl _) (by omega) (by omega) (by omega)
  obtain ⟨z1, z2⟩ := partLoop_size (ltC cm) a _ (x + 1) (y - 1) d2 (Nat.le_refl _)
  obtain ⟨r, hr⟩ : ∃ r, r = partLoop (ltC cm) a (x + 1) (y - 1) d2 := ⟨_, rfl⟩
  rw [← hr] at lp z1 z2 ⊢
  obtain ⟨r1, d3⟩ := r
  simp only at lp z1 z2 ⊢
  have hs3 : d3.size = N := by rw [z1]; exact hs2
  have e3 : swI d3 (r1 : Int) (a : Int) = Go.Sort.swp d3 r1 a := swI_swp _ _ _ _ _ rfl rfl
  unfold swI at e3
  have x0 : (0 : Int) ≤ x := by omega
  have x1 : (x : Int) < N := by omega
  have r0 : (0 : Int) ≤ r1 := by omega
  have r2 : (r1 : Int) < N := by omega
  have w3 : IntKind.i64.wrap ((x : Int) + 1) = ((x + 1 : Nat) : Int) := by rw [show (x : Int) + 1 = ((x + 1 : Nat) : Int) by omega]; exact wrap64 (by omega) (by omega)
  have w4 : IntKind.i64.wrap ((y : Int) - 1) = ((y - 1 : Nat) : Int) := by rw [show (y : Int) - 1 = ((y - 1 : Nat) : Int) by omega]; exact wrap64 (by omega) (by omega)
  obtain ⟨i2, hi2⟩ : ∃ i2, i2 = x + 1 := ⟨_, rfl⟩
  obtain ⟨j2, hj2⟩ : ∃ j2, j2 = y - 1 := ⟨_, rfl⟩
  rw [← hi2] at w3 lp
  rw [← hj2] at w4 lp
  clear hx hy hdef hd1 hi1 hj1 hi2 hj2 hr z1 z2 hd2
  refine v_zz21 (by simp [i_zz21]) ?_
  rw [fbody_eq]
  simp (disch := first | assumption | omega | (simp [*] <;> omega) | fail) [-getElem?_pos, List.getElem?_cons_zero, List.getElem?_cons_succ, i_zz21, hc0, hl, hix, hld, hst, hd, hs1, hs2, hs3, e0, u, dn, c', e2, e3, lp, w1, w2, w3, w4, a0, a1, p0, p1, x0, x1, y0, y1, r0, r2, fresults, fresL, fres1]
end
end

/- Sorting: partitions into equal and greater. -/
section
open Go Go.Sort
variable {nro : Nat} {S : Value} {P : Int → Value} {ag : Nat → Value} {cm : Nat → Nat → Int} {N : Nat} {H : Array Nat → VH}
section
variable (E : SO nro S P ag cm N H)
include E
set_option maxHeartbeats 1000000 in
theorem l_ord_partE (a : Nat) (haN : a < N) (d0 : Array Nat) : ∀ (n i j : Nat) (d : Array Nat), d.size = N → j + 1 - i ≤ n → 1 ≤ i → i ≤ N → j < N →
  floop (vcall F nro) nro [0, 1, 9, 10] i_zz10_B3 (H d0) [S, .int .i64 a, .int .i64 i, .int .i64 j] (H d) = some (.exit 0, fl [(9, .int .i64 ((partEqLoop (ltC cm) a i j d).1 : Nat))], H (partEqLoop (ltC cm) a i j d).2) := by
 intro n
 induction n with
 | zero =>
  intro i j d hd hn hi hiN hj
  have hc := fun q => E.clean0 d0 q
  have hl := E.ln
  have oS := E.oS
  have u := l_ord_up3 E a j haN hj d d hd d[a]! (getI_nat d a a rfl) (j + 1) i (by omega) hiN
  have h1 := scanUp_ge (fun x => !ltC cm d[a]! x) d j i
  have dn := l_ord_dn3 E a (scanUp (fun x => !ltC cm d[a]! x) d j i) haN (by omega) d d hd d[a]! (getI_nat d a a rfl) j hj
  have h2 := scanDown_le (fun x => ltC cm d[a]! x) d (scanUp (fun x => !ltC cm d[a]! x) d j i) j
  rw [partEqLoop_eq]
  obtain ⟨x, hx⟩ : ∃ x, x = scanUp (fun x => !ltC cm d[a]! x) d j i := ⟨_, rfl⟩
  rw [← hx] at u dn h1 h2 ⊢
  obtain ⟨y, hy⟩ : ∃ y, y = scanDown (fun x => ltC cm d[a]! x) d x j := ⟨_, rfl⟩
  rw [← hy] at dn h2 ⊢
  have c : x > y := by omega
  have c' : (y : Int) < x := by omega
  rw [if_pos c]
  clear hx hy
  rw [floop_at i_zz10_B3.eq_1]
  simp (disch := first | assumption | omega | (simp [*] <;> omega) | fail) [-getElem?_pos, List.getElem?_cons_zero, List.getElem?_cons_succ, hc, hl, oS, u, dn, c']
 | succ n ih =>
  intro i j d hd hn hi hiN hj
  have hc := fun q => E.clean0 d0 q
  have hl := E.ln
  have oS := E.oS
  have hN := E.hN
  have hix := E.idx
  have hld := E.load
  have hst := E.store
  have u := l_ord_up3 E a j haN hj d d hd d[a]! (getI_nat d a a rfl) (j + 1) i (by omega) hiN
  have h1 := scanUp_ge (fun x => !ltC cm d[a]! x) d j i
  have dn := l_ord_dn3 E a (scanUp (fun x => !ltC cm d[a]! x) d j i) haN (by omega) d d hd d[a]! (getI_nat d a a rfl) j hj
  have h2 := scanDown_le (fun x => ltC cm d[a]! x) d (scanUp (fun x => !ltC cm d[a]! x) d j i) j
  rw [partEqLoop_eq]
  obtain ⟨x, hx⟩ : ∃ x, x = scanUp (fun x => !ltC cm d[a]! x) d j i := ⟨_, rfl⟩
  rw [← hx] at u dn h1 h2 ⊢
  obtain ⟨y, hy⟩ : ∃ y, y = scanDown (fun x => ltC cm d[a]! x) d x j := ⟨_, rfl⟩
  rw [← hy] at dn h2 ⊢
  by_cases c : x > y
  ·have c' : (y : Int) < x := by omega
   rw [if_pos c]
   clear hx hy ih
   rw [floop_at i_zz10_B3.eq_1]
   simp (disch := first | assumption | omega | (simp [*] <;> omega) | fail) [-getElem?_pos, List.getElem?_cons_zero, List.getElem?_cons_succ, hc, hl, oS, u, dn, c']
  ·have c' : ¬ (y : Int) < x := by omega
   rw [if_neg c]
   have ih2 := ih (x + 1) (y - 1) (Go.Sort.swp d x y) (by simpa using hd) (by omega) (by omega) (by omega) (by omega)
   rw [← ih2]
   have e4 : swI d (x : Int) (y : Int) = Go.Sort.swp d x y := swI_swp _ _ _ _ _ rfl rfl
   unfold swI at e4
   have w1 : IntKind.i64.wrap ((x : Int) + 1) = (x : Int) + 1 := wrap64 (by omega) (by omega)
   have w2 : IntKind.i64.wrap ((y : Int) - 1) = ((y - 1 : Nat) : Int) := by rw [show (y : Int) - 1 = ((y - 1 : Nat) : Int) by omega]; exact wrap64 (by omega) (by omega)
   have x0 : (0 : Int) ≤ x := by omega
   have y0 : (0 : Int) ≤ y := by omega
   have x1 : (x : Int) < N := by omega
   have y1 : (y : Int) < N := by omega
   obtain ⟨z, hz⟩ : ∃ z, z = y - 1 := ⟨_, rfl⟩
   rw [← hz] at w2 ⊢
   clear hx hy ih ih2 hz
   rw [floop_at i_zz10_B3.eq_1]
   simp (disch := first | assumption | omega | (simp [*] <;> omega) | fail) [-getElem?_pos, List.getElem?_cons_zero, List.getElem?_cons_succ, hc, hl, oS, u, dn, c', hix, hld, hst, hd, e4, w1, w2, x0, y0, x1, y1]
theorem c_ord_partE (d : Array Nat) (hd : d.size = N) (a b p : Nat) (hap : a ≤ p) (hpb : p < b) (hb : b ≤ N) :
  vcall F nro k_zz10 [S, .int .i64 a, .int .i64 b, .int .i64 p] (H d) = some (.int .i64 ((partitionEqual (ltC cm) d a b p).1 : Nat), H (partitionEqual (ltC cm) d a b p).2) := by
 have hc0 := fun q vs => E.clean0 d q vs
 have hl := E.ln
 have hN := E.hN
 have hix := E.idx
 have hld := E.load
 have hst := E.store
 unfold partitionEqual
 obtain ⟨d1, hd1⟩ : ∃ d1, d1 = Go.Sort.swp d a p := ⟨_, rfl⟩
 have hs1 : d1.size = N := by rw [hd1]; simpa using hd
 have e0 : swI d (a : Int) (p : Int) = d1 := by rw [hd1]; exact swI_swp _ _ _ _ _ rfl rfl
 unfold swI at e0
 rw [← hd1]
 have lp := l_ord_partE E a (by omega) d1 (b - 1 + 1 - (a + 1)) (a + 1) (b - 1) d1 hs1 (Nat.le_refl _) (by omega) (by omega) (by omega)
 obtain ⟨r, hr⟩ : ∃ r, r = partEqLoop (ltC cm) a (a + 1) (b - 1) d1 := ⟨_, rfl⟩
 rw [← hr] at lp ⊢
 have w1 : IntKind.i64.wrap ((a : Int) + 1) = ((a + 1 : Nat) : Int) := by rw [show (a : Int) + 1 = ((a + 1 : Nat) : Int) by omega]; exact wrap64 (by omega) (by omega)
 have w2 : IntKind.i64.wrap ((b : Int) - 1) = ((b - 1 : Nat) : Int) := by rw [show (b : Int) - 1 = ((b - 1 : Nat) : Int) by omega]; exact wrap64 (by omega) (by omega)
 have a0 : (0 : Int) ≤ a := by omega
 have a1 : (a : Int) < N := by omega
 have p0 : (0 : Int) ≤ p := by omega
 have p1 : (p : Int) < N := by omega
 obtain ⟨i1, hi1⟩ : ∃ i1, i1 = a + 1 := ⟨_, rfl⟩
 obtain ⟨j1, hj1⟩ : ∃ j1, j1 = b - 1 := ⟨_, rfl⟩
 rw [← hi1] at w1 lp
 rw [← hj1] at w2 lp
 clear hr hi1 hj1 hd1
 refine v_zz10 (by simp [i_zz10]) ?_
 rw [fbody_eq]
 simp (disch := first | assumption | omega | (simp [*] <;> omega) | fail) [-getElem?_pos, List.getElem?_cons_zero, List.getElem?_cons_succ, i_zz10, hc0, hl, hix, hld, hst, hd, hs1, e0, lp, w1, w2, a0, a1, p0, p1, fresults, fresL, fres1]
theorem l_ord_sorted (a b s : Nat) (hb : b ≤ N) (d0 d : Array Nat) (hd : d.size = N) : ∀ (k i : Nat), b ≤ i + k → 1 ≤ i → i ≤ N →
  floop (vcall F nro) nro [0, 1, 2, 7, 8] i_zz1_B1 (H d0) [S, .int .i64 a, .int .i64 b, .int .i64 i, .int .i64 s] (H d) = some (.exit 2, fl [(0, S), (1, .int .i64 a), (2, .int .i64 b), (7, .int .i64 ((scanSorted (ltC cm) d b i : Nat) : Int)), (8, .int .i64 s)], H d) := by
 have hc := fun q => E.clean0 d0 q
 have hl := E.ln
 have oS := E.oS
 have hN := E.hN
 have hix := E.idx
 have hld := E.load
 have hcm := E.cmp
 intro k
 induction k with
 | zero =>
  intro i hk hi hiN
  have c1 : ¬ (i : Int) < b := by omega
  have c2 : ¬ i < b := by omega
  rw [scanSorted, if_neg (by simp [c2]), floop_at i_zz1_B1.eq_1]
  simp (disch := first | assumption | omega | (simp [*] <;> omega) | fail) [-getElem?_pos, List.getElem?_cons_zero, List.getElem?_cons_succ, hc, hl, oS, c1, c2]
 | succ k ih =>
  intro i hk hi hiN
  by_cases c1 : i < b
  ·have c1' : (i : Int) < b := by omega
   have gi := getI_nat d (i : Int) i rfl
   have gj := getI_nat d ((i : Int) - 1) (i - 1) (by omega)
   have i0 : (0 : Int) ≤ i := by omega
   have i1 : (i : Int) < N := by omega
   have j0 : (0 : Int) ≤ (i : Int) - 1 := by omega
   have j1 : (i : Int) - 1 < N := by omega
   have w1 : IntKind.i64.wrap ((i : Int) + 1) = (i : Int) + 1 := wrap64 (by omega) (by omega)
   have w2 : IntKind.i64.wrap ((i : Int) - 1) = (i : Int) - 1 := wrap64 (by omega) (by omega)
   rw [scanSorted, ← gi, ← gj]
   by_cases c2 : cm (getI d (i : Int)) (getI d ((i : Int) - 1)) < 0
   ·have e2 : ltC cm (getI d (i : Int)) (getI d ((i : Int) - 1)) = true := decide_eq_true c2
    rw [if_neg (by simp [e2])]
    clear ih gi gj e2
    rw [floop_at i_zz1_B1.eq_1]
    simp (disch := first | assumption | omega | (simp [*] <;> omega) | fail) [-getElem?_pos, List.getElem?_cons_zero, List.getElem?_cons_succ, hc, hl, oS, hix, hld, hcm, hd, c1', c1, c2, i0, i1, j0, j1, w1, w2]
   ·have e2 : ltC cm (getI d (i : Int)) (getI d ((i : Int) - 1)) = false := decide_eq_false c2
    rw [if_pos (by simp [c1, e2])]
    have ih2 := ih (i + 1) (by omega) (by omega) (by omega)
    rw [← ih2]
    clear ih ih2 gi gj e2
    rw [floop_at i_zz1_B1.eq_1]
    simp (disch := first | assumption | omega | (simp [*] <;> omega) | fail) [-getElem?_pos, List.getElem?_cons_zero, List.getElem?_cons_succ, hc, hl, oS, hix, hld, hcm, hd, c1', c1, c2, i0, i1, j0, j1, w1, w2]
  ·have c1' : ¬ (i : Int) < b := by omega
   rw [scanSorted, if_neg (by simp [c1]), floop_at i_zz1_B1.eq_1]
   simp (disch := first | assumption | omega | (simp [*] <;> omega) | fail) [-getElem?_pos, List.getElem?_cons_zero, List.getElem?_cons_succ, hc, hl, oS, c1', c1]
theorem l_ord_shd (a b i s : Nat) (d0 : Array Nat) : ∀ (j : Nat) (d : Array Nat), d.size = N → j < N →
  floop (vcall F nro) nro [0, 1, 2, 7, 8, 9] i_zz1_B2 (H d0) [S, .int .i64 a, .int .i64 b, .int .i64 i, .int .i64 s, .int .i64 j] (H d) = some (.exit 4, fl [(0, S), (1, .int .i64 a), (2, .int .i64 b), (7, .int .i64 i), (8, .int .i64 s)], H (shiftDown (ltC cm) j d))
 | 0, d, hd, hj => by
  have hc := E.clean0 d0 d
  have hl := E.ln
  have oS := E.oS
  rw [floop_at i_zz1_B2.eq_1]
  unfold shiftDown
  simp (disch := first | assumption | omega | (simp [*] <;> omega) | fail) [-getElem?_pos, List.getElem?_cons_zero, List.getElem?_cons_succ, hc, hl, oS]
 | j + 1, d, hd, hj => by
  have hc := fun q => E.clean0 d0 q
  have hl := E.ln
  have oS := E.oS
  have hN := E.hN
  have hi := E.idx
  have hld := E.load
  have hst := E.store
  have hcm := E.cmp
  have w2 : IntKind.i64.wrap (j : Int) = j := wrap64 (by omega) (by omega)
  have g1 := getI_nat d ((j : Int) + 1) (j + 1) (by omega)
  have g2 := getI_nat d (j : Int) j rfl
  have k1 : (0 : Int) ≤ (j : Int) + 1 := by omega
  have k2 : (j : Int) + 1 < N := by omega
  have k3 : (j : Int) < N := by omega
  have k4 : (1 : Int) ≤ (j : Int) + 1 := by omega
  unfold shiftDown
  rw [← g1, ← g2]
  by_cases c2 : cm (getI d ((j : Int) + 1)) (getI d (j : Int)) < 0
  ·have e2 : ltC cm (getI d ((j : Int) + 1)) (getI d (j : Int)) = true := decide_eq_true c2
   have ih := l_ord_shd a b i s d0 j (Go.Sort.swp d (j + 1) j) (by simpa using hd) (by omega)
   have e3 : swI d ((j : Int) + 1) j = Go.Sort.swp d (j + 1) j := swI_swp _ _ _ _ _ (by omega) rfl
   unfold swI at e3
   rw [if_neg (by simp [e2]), ← ih]
   clear ih g1 g2
   rw [floop_at i_zz1_B2.eq_1]
   simp (disch := first | assumption | omega | (simp [*] <;> omega) | fail) [-getElem?_pos, List.getElem?_cons_zero, List.getElem?_cons_succ, hc, hl, oS, hi, hld, hst, hcm, hd, w2, k1, k2, k3, k4, c2, e3]
  ·have e2 : ltC cm (getI d ((j : Int) + 1)) (getI d (j : Int)) = false := decide_eq_false c2
   rw [if_pos (by simp [e2])]
   clear g1 g2
   rw [floop_at i_zz1_B2.eq_1]
   simp (disch := first | assumption | omega | (simp [*] <;> omega) | fail) [-getElem?_pos, List.getElem?_cons_zero, List.getElem?_cons_succ, hc, hl, oS, hi, hld, hst, hcm, hd, w2, k1, k2, k3, k4, c2]
theorem l_ord_shu (a b i s : Nat) (hb : b ≤ N) (d0 : Array Nat) : ∀ (k j : Nat) (d : Array Nat), d.size = N → b ≤ j + k → 1 ≤ j → j ≤ N + 1 →
  floop (vcall F nro) nro [0, 1, 2, 7, 8, 10] i_zz1_B3 (H d0) [S, .int .i64 a, .int .i64 b, .int .i64 i, .int .i64 s, .int .i64 j] (H d) = some (.exit 6, fl [(0, S), (1, .int .i64 a), (2, .int .i64 b), (7, .int .i64 i), (8, .int .i64 s)], H (shiftUp (ltC cm) b j d)) := by
 have hc := fun q => E.clean0 d0 q
 have hl := E.ln
 have oS := E.oS
 have hN := E.hN
 have hi := E.idx
 have hld := E.load
 have hst := E.store
 have hcm := E.cmp
 intro k
 induction k with
 | zero =>
  intro j d hd hk hj hjN
  have c1 : ¬ (j : Int) < b := by omega
  rw [shiftUp, if_neg (by omega), floop_at i_zz1_B3.eq_1]
  simp (disch := first | assumption | omega | (simp [*] <;> omega) | fail) [-getElem?_pos, List.getElem?_cons_zero, List.getElem?_cons_succ, hc, hl, oS, c1]
 | succ k ih =>
  intro j d hd hk hj hjN
  by_cases c1 : j < b
  ·have c1' : (j : Int) < b := by omega
   have g1 := getI_nat d (j : Int) j rfl
   have g2 := getI_nat d ((j : Int) - 1) (j - 1) (by omega)
   have k1 : (0 : Int) ≤ j := by omega
   have k2 : (j : Int) < N := by omega
   have k3 : (0 : Int) ≤ (j : Int) - 1 := by omega
   have k4 : (j : Int) - 1 < N := by omega
   have w1 : IntKind.i64.wrap ((j : Int) - 1) = (j : Int) - 1 := wrap64 (by omega) (by omega)
   have w2 : IntKind.i64.wrap ((j : Int) + 1) = (j : Int) + 1 := wrap64 (by omega) (by omega)
   rw [shiftUp, if_pos c1, ← g1, ← g2]
   by_cases c2 : cm (getI d (j : Int)) (getI d ((j : Int) - 1)) < 0
   ·have e2 : ltC cm (getI d (j : Int)) (getI d ((j : Int) - 1)) = true := decide_eq_true c2
    have ih2 := ih (j + 1) (Go.Sort.swp d j (j - 1)) (by simpa using hd) (by omega) (by omega) (by omega)
    have e3 : swI d (j : Int) ((j : Int) - 1) = Go.Sort.swp d j (j - 1) := swI_swp _ _ _ _ _ rfl (by omega)
    unfold swI at e3
    rw [if_neg (by simp [e2]), ← ih2]
    clear ih ih2 g1 g2
    rw [floop_at i_zz1_B3.eq_1]
    simp (disch := first | assumption | omega | (simp [*] <;> omega) | fail) [-getElem?_pos, List.getElem?_cons_zero, List.getElem?_cons_succ, hc, hl, oS, hi, hld, hst, hcm, hd, w1, w2, k1, k2, k3, k4, c1', c2, e3]
   ·have e2 : ltC cm (getI d (j : Int)) (getI d ((j : Int) - 1)) = false := decide_eq_false c2
    rw [if_pos (by simp [e2])]
    clear ih g1 g2
    rw [floop_at i_zz1_B3.eq_1]
    simp (disch := first | assumption | omega | (simp [*] <;> omega) | fail) [-getElem?_pos, List.getElem?_cons_zero, List.getElem?_cons_succ, hc, hl, oS, hi, hld, hst, hcm, hd, w1, w2, k1, k2, k3, k4, c1', c2]
  ·have c1' : ¬ (j : Int) < b := by omega
   rw [shiftUp, if_neg c1, floop_at i_zz1_B3.eq_1]
   simp (disch := first | assumption | omega | (simp [*] <;> omega) | fail) [-getElem?_pos, List.getElem?_cons_zero, List.getElem?_cons_succ, hc, hl, oS, c1']
end
end

/- Sorting: partial insertion. -/
section
open Go Go.Sort
variable {nro : Nat} {S : Value} {P : Int → Value} {ag : Nat → Value} {cm : Nat → Nat → Int} {N : Nat} {H : Array Nat → VH}
section
variable (E : SO nro S P ag cm N H)
include E
set_option maxHeartbeats 2000000 in
theorem l_ord_pis (a b : Nat) (hab : a < b) (hb : b ≤ N) (d0 : Array Nat) : ∀ (s j i : Nat) (d : Array Nat), j + s = 5 → d.size = N → a + 1 ≤ i → i ≤ b →
  ∃ x e, ((x = .ret ∧ e = fl [(6, .bool (partialIns (ltC cm) a b s i d).2)]) ∨ (x = .exit 0 ∧ e = fl [] ∧ (partialIns (ltC cm) a b s i d).2 = false)) ∧ floop (vcall F nro) nro [0, 1, 2, 7, 8] i_zz1_B4 (H d0) [S, .int .i64 a, .int .i64 b, .int .i64 i, .int .i64 j] (H d) = some (x, e, H (partialIns (ltC cm) a b s i d).1) ∧ (partialIns (ltC cm) a b s i d).1.size = N := by
 intro s
 induction s with
 | zero =>
  intro j i d hj hd hi hib
  have hc := fun q => E.clean0 d0 q
  have hl := E.ln
  have oS := E.oS
  refine ⟨.exit 0, fl [], .inr ⟨rfl, rfl, rfl⟩, ?_, hd⟩
  have c : ¬ (j : Int) < 5 := by omega
  rw [floop_at i_zz1_B4.eq_1]
  unfold partialIns
  simp (disch := first | assumption | omega | (simp [*] <;> omega) | fail) [-getElem?_pos, List.getElem?_cons_zero, List.getElem?_cons_succ, hc, hl, oS, c]
 | succ s ih =>
  intro j i d hj hd hi hib
  have hc := fun q => E.clean0 d0 q
  have hl := E.ln
  have oS := E.oS
  have hN := E.hN
  have hix := E.idx
  have hld := E.load
  have hst := E.store
  have c5 : (j : Int) < 5 := by omega
  have lp := l_ord_sorted E a b j hb d d hd b i (by omega) (by omega) (by omega)
  have hr := scanSorted_rng (ltC cm) d b i
  rw [partialIns_succ]
  obtain ⟨x, hx⟩ : ∃ x, x = scanSorted (ltC cm) d b i := ⟨_, rfl⟩
  rw [← hx] at lp hr ⊢
  obtain ⟨r1, r2⟩ := hr
  have r3 := r2 hib
  clear r2 hx
  by_cases c1 : x = b
  ·rw [if_pos c1]
   refine ⟨.ret, fl [(6, .bool true)], .inl ⟨rfl, rfl⟩, ?_, hd⟩
   have c1' : (x : Int) = b := by omega
   clear ih
   rw [floop_at i_zz1_B4.eq_1]
   simp (disch := first | assumption | omega | (simp [*] <;> omega) | fail) [-getElem?_pos, List.getElem?_cons_zero, List.getElem?_cons_succ, hc, hl, oS, c5, lp, c1', c1]
  ·have c1' : ¬ (x : Int) = b := by omega
   rw [if_neg c1]
   obtain ⟨len, hlen⟩ : ∃ len, len = b - a := ⟨_, rfl⟩
   have w0 : IntKind.i64.wrap ((b : Int) - a) = len := by rw [show (b : Int) - a = len by omega]; exact wrap64 (by omega) (by omega)
   rw [← hlen]
   by_cases c2 : len < 50
   ·rw [if_pos c2]
    refine ⟨.ret, fl [(6, .bool false)], .inl ⟨rfl, rfl⟩, ?_, hd⟩
    have c2' : (len : Int) < 50 := by omega
    clear ih
    rw [floop_at i_zz1_B4.eq_1]
    simp (disch := first | assumption | omega | (simp [*] <;> omega) | fail) [-getElem?_pos, List.getElem?_cons_zero, List.getElem?_cons_succ, hc, hl, oS, c5, lp, c1', c1, w0, c2']
   ·rw [if_neg c2]
    have c2' : ¬ (len : Int) < 50 := by omega
    obtain ⟨d1, hd1⟩ : ∃ d1, d1 = Go.Sort.swp d x (x - 1) := ⟨_, rfl⟩
    have hs1 : d1.size = N := by rw [hd1]; simpa using hd
    have e1 : swI d (x : Int) ((x : Int) - 1) = d1 := by rw [hd1]; exact swI_swp _ _ _ _ _ rfl (by omega)
    unfold swI at e1
    have w1 : IntKind.i64.wrap ((x : Int) - 1) = (x : Int) - 1 := wrap64 (by omega) (by omega)
    have w2 : IntKind.i64.wrap ((x : Int) - a) = (x : Int) - a := wrap64 (by omega) (by omega)
    have w3 : IntKind.i64.wrap ((b : Int) - x) = (b : Int) - x := wrap64 (by omega) (by omega)
    have w4 : IntKind.i64.wrap ((x : Int) + 1) = (x : Int) + 1 := wrap64 (by omega) (by omega)
    have w5 : IntKind.i64.wrap ((j : Int) + 1) = (j : Int) + 1 := wrap64 (by omega) (by omega)
    have x0 : (0 : Int) ≤ x := by omega
    have x1 : (x : Int) < N := by omega
    have y0 : (0 : Int) ≤ (x : Int) - 1 := by omega
    have y1 : (x : Int) - 1 < N := by omega
    rw [← hd1]
    have sd := l_ord_shd E a b x j d1 (x - 1) d1 hs1 (by omega)
    rw [show ((x - 1 : Nat) : Int) = (x : Int) - 1 by omega] at sd
    unfold fixUp fixDown
    by_cases c3 : x - a ≥ 2
    ·have c3' : (2 : Int) ≤ (x : Int) - a := by omega
     rw [if_pos c3]
     obtain ⟨d2, hd2⟩ : ∃ d2, d2 = shiftDown (ltC cm) (x - 1) d1 := ⟨_, rfl⟩
     have hs2 : d2.size = N := by rw [hd2, shiftDown_size]; exact hs1
     rw [← hd2] at sd ⊢
     by_cases c4 : b - x ≥ 2
     ·have c4' : (2 : Int) ≤ (b : Int) - x := by omega
      rw [if_pos c4]
      have su := l_ord_shu E a b x j hb d2 b (x + 1) d2 hs2 (by omega) (by omega) (by omega)
      rw [show ((x + 1 : Nat) : Int) = (x : Int) + 1 by omega] at su
      obtain ⟨d3, hd3⟩ : ∃ d3, d3 = shiftUp (ltC cm) b (x + 1) d2 := ⟨_, rfl⟩
      have hs3 : d3.size = N := by rw [hd3, shiftUp_size]; exact hs2
      rw [← hd3] at su ⊢
      obtain ⟨X, e, q1, q2, q3⟩ := ih (j + 1) x d3 (by omega) hs3 (by omega) (by omega)
      refine ⟨X, e, q1, ?_, q3⟩
      rw [← q2]
      clear ih q1 q2 q3 hd1 hd2 hd3
      rw [floop_at i_zz1_B4.eq_1]
      simp (disch := first | assumption | omega | (simp [*] <;> omega) | fail) [-getElem?_pos, List.getElem?_cons_zero, List.getElem?_cons_succ, hc, hl, oS, hix, hld, hst, hd, hs1, c5, lp, c1', c1, w0, c2', e1, w1, w2, w3, w4, w5, x0, x1, y0, y1, c3', sd, c4', su]
     ·have c4' : ¬ (2 : Int) ≤ (b : Int) - x := by omega
      rw [if_neg c4]
      obtain ⟨X, e, q1, q2, q3⟩ := ih (j + 1) x d2 (by omega) hs2 (by omega) (by omega)
      refine ⟨X, e, q1, ?_, q3⟩
      rw [← q2]
      clear ih q1 q2 q3 hd1 hd2
      rw [floop_at i_zz1_B4.eq_1]
      simp (disch := first | assumption | omega | (simp [*] <;> omega) | fail) [-getElem?_pos, List.getElem?_cons_zero, List.getElem?_cons_succ, hc, hl, oS, hix, hld, hst, hd, hs1, c5, lp, c1', c1, w0, c2', e1, w1, w2, w3, w4, w5, x0, x1, y0, y1, c3', sd, c4']
    ·have c3' : ¬ (2 : Int) ≤ (x : Int) - a := by omega
     rw [if_neg c3]
     by_cases c4 : b - x ≥ 2
     ·have c4' : (2 : Int) ≤ (b : Int) - x := by omega
      rw [if_pos c4]
      have su := l_ord_shu E a b x j hb d1 b (x + 1) d1 hs1 (by omega) (by omega) (by omega)
      rw [show ((x + 1 : Nat) : Int) = (x : Int) + 1 by omega] at su
      obtain ⟨d3, hd3⟩ : ∃ d3, d3 = shiftUp (ltC cm) b (x + 1) d1 := ⟨_, rfl⟩
      have hs3 : d3.size = N := by rw [hd3, shiftUp_size]; exact hs1
      rw [← hd3] at su ⊢
      obtain ⟨X, e, q1, q2, q3⟩ := ih (j + 1) x d3 (by omega) hs3 (by omega) (by omega)
      refine ⟨X, e, q1, ?_, q3⟩
      rw [← q2]
      clear ih q1 q2 q3 hd1 hd3 sd
      rw [floop_at i_zz1_B4.eq_1]
      simp (disch := first | assumption | omega | (simp [*] <;> omega) | fail) [-getElem?_pos, List.getElem?_cons_zero, List.getElem?_cons_succ, hc, hl, oS, hix, hld, hst, hd, hs1, c5, lp, c1', c1, w0, c2', e1, w1, w2, w3, w4, w5, x0, x1, y0, y1, c3', c4', su]
     ·exfalso; omega
theorem c_ord_pis (a b : Nat) (hab : a < b) (hb : b ≤ N) (d : Array Nat) (hd : d.size = N) :
  vcall F nro k_zz1 [S, .int .i64 a, .int .i64 b] (H d) = some (.bool (partialInsertionSort (ltC cm) d a b).2, H (partialInsertionSort (ltC cm) d a b).1) ∧ (partialInsertionSort (ltC cm) d a b).1.size = N := by
 have hc0 := fun q vs => E.clean0 d q vs
 have hN := E.hN
 obtain ⟨x, e, q1, lp, q3⟩ := l_ord_pis E a b hab hb d 5 0 (a + 1) d rfl hd (Nat.le_refl _) (by omega)
 refine ⟨?_, q3⟩
 unfold partialInsertionSort
 obtain ⟨r, hr⟩ : ∃ r, r = partialIns (ltC cm) a b 5 (a + 1) d := ⟨_, rfl⟩
 rw [← hr] at lp q1 ⊢
 obtain ⟨r1, r2⟩ := r
 simp only [Int.natCast_add, Int.natCast_one, Int.natCast_zero] at lp q1 ⊢
 have w1 : IntKind.i64.wrap ((a : Int) + 1) = (a : Int) + 1 := wrap64 (by omega) (by omega)
 clear hr q3
 refine v_zz1 (by simp [i_zz1]) ?_
 rw [fbody_eq]
 rcases q1 with ⟨rfl, rfl⟩ | ⟨rfl, rfl, rfl⟩
 ·simp (disch := first | assumption | omega | (simp [*] <;> omega) | fail) [-getElem?_pos, List.getElem?_cons_zero, List.getElem?_cons_succ, i_zz1, w1, lp, hc0, fresults, fresL, fres1]
 ·simp (disch := first | assumption | omega | (simp [*] <;> omega) | fail) [-getElem?_pos, List.getElem?_cons_zero, List.getElem?_cons_succ, i_zz1, w1, lp, hc0, fresults, fresL, fres1]
end
end

/- Sorting: the whole. -/
section
open Go Go.Sort
variable {nro : Nat} {S : Value} {P : Int → Value} {ag : Nat → Value} {cm : Nat → Nat → Int} {N : Nat} {H : Array Nat → VH}
abbrev pdBO : FC := unblock i_zz25_B1
structure PO (S : Value) (e : FE) (a b : Nat) (lim : Int) (wb wp : Bool) : Prop where
 e0 : e 0 = S
 e1 : e 1 = .int .i64 a
 e2 : e 2 = .int .i64 b
 e3 : e 3 = .int .i64 lim
 e8 : e 8 = .bool wb
 e9 : e 9 = .bool wp
section
variable (E : SXO nro S P ag cm N H) (hS : SWO (ltC cm)) (hN255 : N ≤ 255)
include E hS
theorem pdqO_A (a b : Nat) (hab : a ≤ b) (hb : b ≤ N) (d : Array Nat) (hd : d.size = N) (lim : Int) (wb wp : Bool) (e : FE) (p : PO S e a b lim wb wp) :
  (∃ d', d'.size = N ∧ PermIn a b d d' ∧ SortedIn (ltC cm) a b d' ∧ fcode (vcall F nro) nro (takeS 2 pdBO) e (H d) = some (.ret, fl [], H d')) ∨
  (12 < b - a ∧ lim ≠ 0 ∧ ∃ e', fcode (vcall F nro) nro (takeS 2 pdBO) e (H d) = some (.normal, e', H d) ∧ PO S e' a b lim wb wp ∧ e' 10 = .int .i64 ((b - a : Nat) : Int)) := by
 have hN := E.base.hN
 have w0 : IntKind.i64.wrap ((b : Int) - a) = ((b - a : Nat) : Int) := by rw [show (b : Int) - a = ((b - a : Nat) : Int) by omega]; exact wrap64 (by omega) (by omega)
 have p0 := p.e0
 have p1 := p.e1
 have p2 := p.e2
 have p3 := p.e3
 by_cases c1 : b - a ≤ 12
 ·left
  have hc := c_ord_ins E.base a b d hd hb (by omega)
  obtain ⟨q1, q2⟩ := insertionSort_holds (lt := ltC cm) hS d a b hab (by omega)
  refine ⟨_, by rw [q1.1]; exact hd, q1, q2, ?_⟩
  have c1' : ((b - a : Nat) : Int) ≤ 12 := by omega
  obtain ⟨r, hr⟩ : ∃ r, r = insertionSort (ltC cm) d a b := ⟨_, rfl⟩
  rw [← hr] at hc ⊢
  clear hr q1 q2
  simp (disch := first | assumption | omega | (simp [*] <;> omega) | fail) [-getElem?_pos, List.getElem?_cons_zero, List.getElem?_cons_succ, pdBO, unblock, i_zz25_B1, takeS, p0, p1, p2, p3, w0, c1', hc]
 ·have c1' : ¬ ((b - a : Nat) : Int) ≤ 12 := by omega
  by_cases c2 : lim = 0
  ·left
   have hc := c_ord_heap E.base a b d hd hab hb
   obtain ⟨q1, q2⟩ := heapSort_holds (lt := ltC cm) hS d a b hab (by omega)
   refine ⟨_, by rw [q1.1]; exact hd, q1, q2, ?_⟩
   obtain ⟨r, hr⟩ : ∃ r, r = heapSort (ltC cm) d a b := ⟨_, rfl⟩
   rw [← hr] at hc ⊢
   clear hr q1 q2
   simp (disch := first | assumption | omega | (simp [*] <;> omega) | fail) [-getElem?_pos, List.getElem?_cons_zero, List.getElem?_cons_succ, pdBO, unblock, i_zz25_B1, takeS, p0, p1, p2, p3, w0, c1', c2, hc]
  ·right
   refine ⟨by omega, c2, ?_⟩
   have p10 := p.e8
   have p11 := p.e9
   have hgoal : ∃ e', fcode (vcall F nro) nro (takeS 2 pdBO) e (H d) = some (.normal, e', H d) ∧ ((e' 0 = S ∧ e' 1 = .int .i64 a ∧ e' 2 = .int .i64 b ∧ e' 3 = .int .i64 lim ∧ e' 8 = .bool wb ∧ e' 9 = .bool wp) ∧ e' 10 = .int .i64 ((b - a : Nat) : Int)) := by
    simp (disch := first | assumption | omega | (simp [*] <;> omega) | fail) [-getElem?_pos, List.getElem?_cons_zero, List.getElem?_cons_succ, pdBO, unblock, i_zz25_B1, takeS, p0, p1, p2, p3, p10, p11, w0, c1', c2]
   obtain ⟨e', h1, ⟨q0, q1, q2, q3, q4, q5⟩, h2⟩ := hgoal
   exact ⟨e', h1, ⟨q0, q1, q2, q3, q4, q5⟩, h2⟩
omit hS in
theorem pdqO_B (hN255 : N ≤ 255) (a b : Nat) (hab : a ≤ b) (hb : b ≤ N) (d : Array Nat) (hd : d.size = N) (lim : Int) (hl0 : 1 ≤ lim) (hl1 : lim ≤ 255) (wb wp : Bool) (e : FE) (x : Value) (p : PO S e a b lim wb wp) (p12 : e 10 = x) :
  ∃ e' d1 lim', fcode (vcall F nro) nro (takeS 0 (dropS 3 pdBO)) e (H d) = some (.normal, e', H d1) ∧ d1.size = N ∧ PermIn a b d d1 ∧ (0 ≤ lim' ∧ lim' ≤ 255) ∧ PO S e' a b lim' wb wp ∧ e' 10 = x := by
 have p0 := p.e0
 have p1 := p.e1
 have p2 := p.e2
 have p3 := p.e3
 have p10 := p.e8
 have p11 := p.e9
 cases wb with
 | true =>
  have hgoal : ∃ e', fcode (vcall F nro) nro (takeS 0 (dropS 3 pdBO)) e (H d) = some (.normal, e', H d) ∧ ((e' 0 = S ∧ e' 1 = .int .i64 a ∧ e' 2 = .int .i64 b ∧ e' 3 = .int .i64 lim ∧ e' 8 = .bool true ∧ e' 9 = .bool wp) ∧ e' 10 = x) := by
   simp (disch := first | assumption | omega | (simp [*] <;> omega) | fail) [-getElem?_pos, List.getElem?_cons_zero, List.getElem?_cons_succ, pdBO, unblock, i_zz25_B1, takeS, dropS, p0, p1, p2, p3, p10, p11, p12]
  obtain ⟨e', h1, ⟨r0, r1, r2, r3, r4, r5⟩, h2⟩ := hgoal
  exact ⟨e', d, lim, h1, hd, permIn_refl d a b, by omega, ⟨r0, r1, r2, r3, r4, r5⟩, h2⟩
 | false =>
  obtain ⟨d1, q1, q2, q3⟩ := c_ord_break E a b d hd hab hb hN255
  have w1 : IntKind.i64.wrap (lim - 1) = lim - 1 := wrap64 (by omega) (by omega)
  have hgoal : ∃ e', fcode (vcall F nro) nro (takeS 0 (dropS 3 pdBO)) e (H d) = some (.normal, e', H d1) ∧ ((e' 0 = S ∧ e' 1 = .int .i64 a ∧ e' 2 = .int .i64 b ∧ e' 3 = .int .i64 (lim - 1) ∧ e' 8 = .bool false ∧ e' 9 = .bool wp) ∧ e' 10 = x) := by
   simp (disch := first | assumption | omega | (simp [*] <;> omega) | fail) [-getElem?_pos, List.getElem?_cons_zero, List.getElem?_cons_succ, pdBO, unblock, i_zz25_B1, takeS, dropS, p0, p1, p2, p3, p10, p11, p12, q3, w1]
  obtain ⟨e', h1, ⟨r0, r1, r2, r3, r4, r5⟩, h2⟩ := hgoal
  exact ⟨e', d1, lim - 1, h1, q1, q2, by omega, ⟨r0, r1, r2, r3, r4, r5⟩, h2⟩
omit hS in
theorem pdqO_C (a b : Nat) (hab : a < b) (hb : b ≤ N) (d : Array Nat) (hd : d.size = N) (lim : Int) (wb wp : Bool) (e : FE) (x : Value) (p : PO S e a b lim wb wp) (p12 : e 10 = x) :
  ∃ e' d1 m t, fcode (vcall F nro) nro (takeS 1 (dropS 4 pdBO)) e (H d) = some (.normal, e', H d1) ∧ d1.size = N ∧ PermIn a b d d1 ∧ (a ≤ m ∧ m < b) ∧ PO S e' a b lim wb wp ∧ e' 10 = x ∧ e' 11 = .int .i64 ((m : Nat) : Int) ∧ e' 12 = .int .i64 t := by
 have hN := E.base.hN
 have p0 := p.e0
 have p1 := p.e1
 have p2 := p.e2
 have p3 := p.e3
 have p10 := p.e8
 have p11 := p.e9
 obtain ⟨m, t, hm, ht, hc⟩ := c_ord_pivot E d hd a b hab hb
 by_cases c : t = 2
 ·have hr := c_ord_rev E.base a b d hd hab hb
  have hp := reverseRange_holds (α := Nat) d a b (by omega) (by omega)
  subst c
  obtain ⟨m', hm'⟩ : ∃ m' : Nat, m' = b - 1 - (m - a) := ⟨_, rfl⟩
  have w1 : IntKind.i64.wrap ((b : Int) - 1) = (b : Int) - 1 := wrap64 (by omega) (by omega)
  have w2 : IntKind.i64.wrap ((m : Int) - a) = (m : Int) - a := wrap64 (by omega) (by omega)
  have w3 : IntKind.i64.wrap ((b : Int) - 1 - ((m : Int) - a)) = m' := by rw [show (b : Int) - 1 - ((m : Int) - a) = m' by omega]; exact wrap64 (by omega) (by omega)
  have hgoal : ∃ e', fcode (vcall F nro) nro (takeS 1 (dropS 4 pdBO)) e (H d) = some (.normal, e', H (reverseRange d a b)) ∧ ((e' 0 = S ∧ e' 1 = .int .i64 a ∧ e' 2 = .int .i64 b ∧ e' 3 = .int .i64 lim ∧ e' 8 = .bool wb ∧ e' 9 = .bool wp) ∧ e' 10 = x ∧ e' 11 = .int .i64 ((m' : Nat) : Int) ∧ e' 12 = .int .i64 1) := by
   obtain ⟨r, hr2⟩ : ∃ r, r = reverseRange d a b := ⟨_, rfl⟩
   rw [← hr2] at hr ⊢
   clear hp hm hr2 hm'
   simp (disch := first | assumption | omega | (simp [*] <;> omega) | fail) [-getElem?_pos, List.getElem?_cons_zero, List.getElem?_cons_succ, pdBO, unblock, i_zz25_B1, takeS, dropS, p0, p1, p2, p3, p10, p11, p12, hc, hr, w1, w2, w3]
  obtain ⟨e', h1, ⟨r0, r1, r2, r3, r4, r5⟩, h2, h3, h4⟩ := hgoal
  exact ⟨e', _, m', 1, h1, by rw [hp.1]; exact hd, hp, by omega, ⟨r0, r1, r2, r3, r4, r5⟩, h2, h3, h4⟩
 ·have c' : ¬ (t : Int) = 2 := by omega
  have hgoal : ∃ e', fcode (vcall F nro) nro (takeS 1 (dropS 4 pdBO)) e (H d) = some (.normal, e', H d) ∧ ((e' 0 = S ∧ e' 1 = .int .i64 a ∧ e' 2 = .int .i64 b ∧ e' 3 = .int .i64 lim ∧ e' 8 = .bool wb ∧ e' 9 = .bool wp) ∧ e' 10 = x ∧ e' 11 = .int .i64 ((m : Nat) : Int) ∧ e' 12 = .int .i64 t) := by
   clear hm ht
   simp (disch := first | assumption | omega | (simp [*] <;> omega) | fail) [-getElem?_pos, List.getElem?_cons_zero, List.getElem?_cons_succ, pdBO, unblock, i_zz25_B1, takeS, dropS, p0, p1, p2, p3, p10, p11, p12, hc, c', c]
  obtain ⟨e', h1, ⟨r0, r1, r2, r3, r4, r5⟩, h2, h3, h4⟩ := hgoal
  exact ⟨e', d, m, t, h1, hd, permIn_refl d a b, hm, ⟨r0, r1, r2, r3, r4, r5⟩, h2, h3, h4⟩
theorem pdqO_D (a b : Nat) (hab : a < b) (hb : b ≤ N) (d : Array Nat) (hd : d.size = N) (hB : Below (ltC cm) a b d) (lim : Int) (wb wp : Bool) (e : FE) (x y : Value) (t : Int) (p : PO S e a b lim wb wp) (p12 : e 10 = x) (p13 : e 11 = y) (p14 : e 12 = .int .i64 t) :
  (∃ d', d'.size = N ∧ PermIn a b d d' ∧ SortedIn (ltC cm) a b d' ∧ fcode (vcall F nro) nro (takeS 0 (dropS 6 pdBO)) e (H d) = some (.ret, fl [], H d')) ∨
  ∃ e' d1, fcode (vcall F nro) nro (takeS 0 (dropS 6 pdBO)) e (H d) = some (.normal, e', H d1) ∧ d1.size = N ∧ PermIn a b d d1 ∧ PO S e' a b lim wb wp ∧ e' 10 = x ∧ e' 11 = y := by
 have p0 := p.e0
 have p1 := p.e1
 have p2 := p.e2
 have p3 := p.e3
 have p10 := p.e8
 have p11 := p.e9
 by_cases c : wb = true ∧ wp = true ∧ t = 1
 ·obtain ⟨rfl, rfl, rfl⟩ := c
  obtain ⟨hc, hs⟩ := c_ord_pis E.base a b hab hb d hd
  obtain ⟨q1, q2⟩ := partialInsertionSort_holds (lt := ltC cm) hS d a b hab (by omega) hB
  obtain ⟨r, hr⟩ : ∃ r, r = partialInsertionSort (ltC cm) d a b := ⟨_, rfl⟩
  rw [← hr] at hc hs q1 q2
  obtain ⟨r1, r2⟩ := r
  simp only at hc hs q1 q2
  cases r2 with
  | true =>
   left
   refine ⟨r1, hs, q1, q2 rfl, ?_⟩
   clear q1 q2 hr
   simp (disch := first | assumption | omega | (simp [*] <;> omega) | fail) [-getElem?_pos, List.getElem?_cons_zero, List.getElem?_cons_succ, pdBO, unblock, i_zz25_B1, takeS, dropS, p0, p1, p2, p3, p10, p11, p12, p13, p14, hc]
  | false =>
   right
   have hgoal : ∃ e', fcode (vcall F nro) nro (takeS 0 (dropS 6 pdBO)) e (H d) = some (.normal, e', H r1) ∧ ((e' 0 = S ∧ e' 1 = .int .i64 a ∧ e' 2 = .int .i64 b ∧ e' 3 = .int .i64 lim ∧ e' 8 = .bool true ∧ e' 9 = .bool true) ∧ e' 10 = x ∧ e' 11 = y) := by
    clear q1 q2 hr
    simp (disch := first | assumption | omega | (simp [*] <;> omega) | fail) [-getElem?_pos, List.getElem?_cons_zero, List.getElem?_cons_succ, pdBO, unblock, i_zz25_B1, takeS, dropS, p0, p1, p2, p3, p10, p11, p12, p13, p14, hc]
   obtain ⟨e', h1, ⟨s0, s1, s2, s3, s4, s5⟩, h2, h3⟩ := hgoal
   exact ⟨e', r1, h1, hs, q1, ⟨s0, s1, s2, s3, s4, s5⟩, h2, h3⟩
 ·right
  have hgoal : ∃ e', fcode (vcall F nro) nro (takeS 0 (dropS 6 pdBO)) e (H d) = some (.normal, e', H d) ∧ ((e' 0 = S ∧ e' 1 = .int .i64 a ∧ e' 2 = .int .i64 b ∧ e' 3 = .int .i64 lim ∧ e' 8 = .bool wb ∧ e' 9 = .bool wp) ∧ e' 10 = x ∧ e' 11 = y) := by
   cases wb with
   | false => simp (disch := first | assumption | omega | (simp [*] <;> omega) | fail) [-getElem?_pos, List.getElem?_cons_zero, List.getElem?_cons_succ, pdBO, unblock, i_zz25_B1, takeS, dropS, p0, p1, p2, p3, p10, p11, p12, p13, p14]
   | true =>
    cases wp with
    | false => simp (disch := first | assumption | omega | (simp [*] <;> omega) | fail) [-getElem?_pos, List.getElem?_cons_zero, List.getElem?_cons_succ, pdBO, unblock, i_zz25_B1, takeS, dropS, p0, p1, p2, p3, p10, p11, p12, p13, p14]
    | true =>
     have c2 : ¬ t = 1 := fun h => c ⟨rfl, rfl, h⟩
     simp (disch := first | assumption | omega | (simp [*] <;> omega) | fail) [-getElem?_pos, List.getElem?_cons_zero, List.getElem?_cons_succ, pdBO, unblock, i_zz25_B1, takeS, dropS, p0, p1, p2, p3, p10, p11, p12, p13, p14, c2]
  obtain ⟨e', h1, ⟨s0, s1, s2, s3, s4, s5⟩, h2, h3⟩ := hgoal
  exact ⟨e', d, h1, hd, permIn_refl d a b, ⟨s0, s1, s2, s3, s4, s5⟩, h2, h3⟩
end
end

/- Sorting: the recursion. -/
section
open Go Go.Sort
variable {nro : Nat} {S : Value} {P : Int → Value} {ag : Nat → Value} {cm : Nat → Nat → Int} {N : Nat} {H : Array Nat → VH}
section
variable (E : SXO nro S P ag cm N H)
include E
theorem pdqO_E (a b m : Nat) (ham : a ≤ m) (hmb : m < b) (hb : b ≤ N) (d : Array Nat) (hd : d.size = N) (lim : Int) (wb wp : Bool) (e : FE) (x : Value) (p : PO S e a b lim wb wp) (p12 : e 10 = x) (p13 : e 11 = .int .i64 ((m : Nat) : Int)) :
  (0 < a ∧ ltC cm d[a - 1]! d[m]! = false ∧ ∃ e', fcode (vcall F nro) nro (takeS 0 (dropS 7 pdBO)) e (H d) = some (.exit 1, e', H (partitionEqual (ltC cm) d a b m).2) ∧ PO S e' (partitionEqual (ltC cm) d a b m).1 b lim wb wp) ∨
  ∃ e', fcode (vcall F nro) nro (takeS 0 (dropS 7 pdBO)) e (H d) = some (.normal, e', H d) ∧ PO S e' a b lim wb wp ∧ e' 10 = x ∧ e' 11 = .int .i64 ((m : Nat) : Int) := by
 have hN := E.base.hN
 have p0 := p.e0
 have p1 := p.e1
 have p2 := p.e2
 have p3 := p.e3
 have p10 := p.e8
 have p11 := p.e9
 have hix := E.base.idx
 have hld := E.base.load
 have hcm := E.base.cmp
 by_cases c0 : 0 < a
 ·have c0' : (0 : Int) < a := by omega
  have w1 : IntKind.i64.wrap ((a : Int) - 1) = (a : Int) - 1 := wrap64 (by omega) (by omega)
  have g1 := getI_nat d ((a : Int) - 1) (a - 1) (by omega)
  have g2 := getI_nat d (m : Int) m rfl
  have k1 : (0 : Int) ≤ (a : Int) - 1 := by omega
  have k2 : (a : Int) - 1 < N := by omega
  have k3 : (0 : Int) ≤ m := by omega
  have k4 : (m : Int) < N := by omega
  rw [← g1, ← g2]
  by_cases c1 : cm (getI d ((a : Int) - 1)) (getI d (m : Int)) < 0
  ·right
   have hgoal : ∃ e', fcode (vcall F nro) nro (takeS 0 (dropS 7 pdBO)) e (H d) = some (.normal, e', H d) ∧ ((e' 0 = S ∧ e' 1 = .int .i64 a ∧ e' 2 = .int .i64 b ∧ e' 3 = .int .i64 lim ∧ e' 8 = .bool wb ∧ e' 9 = .bool wp) ∧ e' 10 = x ∧ e' 11 = .int .i64 ((m : Nat) : Int)) := by
    clear g1 g2
    simp (disch := first | assumption | omega | (simp [*] <;> omega) | fail) [-getElem?_pos, List.getElem?_cons_zero, List.getElem?_cons_succ, pdBO, unblock, i_zz25_B1, takeS, dropS, p0, p1, p2, p3, p10, p11, p12, p13, c0', c0, w1, hix, hld, hcm, hd, k1, k2, k3, k4, c1]
   obtain ⟨e', h1, ⟨s0, s1, s2, s3, s4, s5⟩, h2, h3⟩ := hgoal
   exact ⟨e', h1, ⟨s0, s1, s2, s3, s4, s5⟩, h2, h3⟩
  ·left
   refine ⟨c0, decide_eq_false c1, ?_⟩
   have hc := c_ord_partE E.base d hd a b m ham hmb hb
   obtain ⟨r, hr⟩ : ∃ r, r = partitionEqual (ltC cm) d a b m := ⟨_, rfl⟩
   rw [← hr] at hc ⊢
   have hgoal : ∃ e', fcode (vcall F nro) nro (takeS 0 (dropS 7 pdBO)) e (H d) = some (.exit 1, e', H r.2) ∧ (e' 0 = S ∧ e' 1 = .int .i64 ((r.1 : Nat) : Int) ∧ e' 2 = .int .i64 b ∧ e' 3 = .int .i64 lim ∧ e' 8 = .bool wb ∧ e' 9 = .bool wp) := by
    clear g1 g2 hr
    simp (disch := first | assumption | omega | (simp [*] <;> omega) | fail) [-getElem?_pos, List.getElem?_cons_zero, List.getElem?_cons_succ, pdBO, unblock, i_zz25_B1, takeS, dropS, p0, p1, p2, p3, p10, p11, p12, p13, c0', c0, w1, hix, hld, hcm, hd, k1, k2, k3, k4, c1, hc]
   obtain ⟨e', h1, s0, s1, s2, s3, s4, s5⟩ := hgoal
   exact ⟨e', h1, ⟨s0, s1, s2, s3, s4, s5⟩⟩
 ·right
  have c0' : ¬ (0 : Int) < a := by omega
  have hgoal : ∃ e', fcode (vcall F nro) nro (takeS 0 (dropS 7 pdBO)) e (H d) = some (.normal, e', H d) ∧ ((e' 0 = S ∧ e' 1 = .int .i64 a ∧ e' 2 = .int .i64 b ∧ e' 3 = .int .i64 lim ∧ e' 8 = .bool wb ∧ e' 9 = .bool wp) ∧ e' 10 = x ∧ e' 11 = .int .i64 ((m : Nat) : Int)) := by
   simp (disch := first | assumption | omega | (simp [*] <;> omega) | fail) [-getElem?_pos, List.getElem?_cons_zero, List.getElem?_cons_succ, pdBO, unblock, i_zz25_B1, takeS, dropS, p0, p1, p2, p3, p10, p11, p12, p13, c0', c0]
  obtain ⟨e', h1, ⟨s0, s1, s2, s3, s4, s5⟩, h2, h3⟩ := hgoal
  exact ⟨e', h1, ⟨s0, s1, s2, s3, s4, s5⟩, h2, h3⟩
theorem pdqO_F (a b m mid : Nat) (ap : Bool) (d d4 L : Array Nat) (lim : Int) (wb wp : Bool) (e : FE) (len : Nat) (hlen : len ≤ 1000) (hmid : a ≤ mid ∧ mid < b ∧ b ≤ N) (p : PO S e a b lim wb wp) (p12 : e 10 = .int .i64 ((len : Nat) : Int)) (p13 : e 11 = .int .i64 ((m : Nat) : Int))
  (hc : vcall F nro k_zz21 [S, .int .i64 a, .int .i64 b, .int .i64 m] (H d) = some (.tuple #[.int .i64 ((mid : Nat) : Int), .bool ap], H d4))
  (hcall : if mid - a < b - mid then vcall F nro k_zz25 [S, .int .i64 a, .int .i64 mid, .int .i64 lim] (H d4) = some (.tuple #[], H L) else vcall F nro k_zz25 [S, .int .i64 ((mid + 1 : Nat) : Int), .int .i64 b, .int .i64 lim] (H d4) = some (.tuple #[], H L)) :
  ∃ e' wb', fcode (vcall F nro) nro (dropS 8 pdBO) e (H d) = some (.normal, e', H L) ∧ (if mid - a < b - mid then PO S e' (mid + 1) b lim wb' ap else PO S e' a mid lim wb' ap) := by
 have hN := E.base.hN
 have p0 := p.e0
 have p1 := p.e1
 have p2 := p.e2
 have p3 := p.e3
 have p10 := p.e8
 have p11 := p.e9
 obtain ⟨q, hq⟩ : ∃ q : Nat, q = len / 8 := ⟨_, rfl⟩
 have t1 : ((len : Nat) : Int).tdiv 8 = q := by rw [Int.tdiv_eq_ediv_of_nonneg (by omega)]; omega
 have w1 : IntKind.i64.wrap ((mid : Int) - a) = (mid : Int) - a := wrap64 (by omega) (by omega)
 have w2 : IntKind.i64.wrap ((b : Int) - mid) = (b : Int) - mid := wrap64 (by omega) (by omega)
 have w3 : IntKind.i64.wrap (q : Int) = q := wrap64 (by omega) (by omega)
 have w4 : IntKind.i64.wrap ((mid : Int) + 1) = (mid : Int) + 1 := wrap64 (by omega) (by omega)
 by_cases c : mid - a < b - mid
 ·have c' : (mid : Int) - a < (b : Int) - mid := by omega
  rw [if_pos c] at hcall
  have hgoal : ∃ e', fcode (vcall F nro) nro (dropS 8 pdBO) e (H d) = some (.normal, e', H L) ∧ (e' 0 = S ∧ e' 1 = .int .i64 ((mid : Int) + 1) ∧ e' 2 = .int .i64 b ∧ e' 3 = .int .i64 lim ∧ e' 8 = .bool (decide ((q : Int) ≤ (mid : Int) - a)) ∧ e' 9 = .bool ap) := by
   clear hq hmid hlen
   simp (disch := first | assumption | omega | (simp [*] <;> omega) | fail) [-getElem?_pos, List.getElem?_cons_zero, List.getElem?_cons_succ, pdBO, unblock, i_zz25_B1, dropS, p0, p1, p2, p3, p10, p11, p12, p13, hc, t1, w1, w2, w3, w4, c', hcall]
  obtain ⟨e', h1, s0, s1, s2, s3, s4, s5⟩ := hgoal
  refine ⟨e', decide ((q : Int) ≤ (mid : Int) - a), h1, ?_⟩
  rw [if_pos c]
  exact ⟨s0, s1, s2, s3, s4, s5⟩
 ·have c' : ¬ (mid : Int) - a < (b : Int) - mid := by omega
  rw [if_neg c] at hcall
  rw [show ((mid + 1 : Nat) : Int) = (mid : Int) + 1 by omega] at hcall
  have hgoal : ∃ e', fcode (vcall F nro) nro (dropS 8 pdBO) e (H d) = some (.normal, e', H L) ∧ (e' 0 = S ∧ e' 1 = .int .i64 a ∧ e' 2 = .int .i64 mid ∧ e' 3 = .int .i64 lim ∧ e' 8 = .bool (decide ((q : Int) ≤ (b : Int) - mid)) ∧ e' 9 = .bool ap) := by
   clear hq hmid hlen
   simp (disch := first | assumption | omega | (simp [*] <;> omega) | fail) [-getElem?_pos, List.getElem?_cons_zero, List.getElem?_cons_succ, pdBO, unblock, i_zz25_B1, dropS, p0, p1, p2, p3, p10, p11, p12, p13, hc, t1, w1, w2, w3, w4, c', hcall]
  obtain ⟨e', h1, s0, s1, s2, s3, s4, s5⟩ := hgoal
  refine ⟨e', decide ((q : Int) ≤ (b : Int) - mid), h1, ?_⟩
  rw [if_neg c]
  exact ⟨s0, s1, s2, s3, s4, s5⟩
end
theorem pdBO_eq : i_zz25_B1 = .block 1 pdBO := rfl
theorem floop_po (e : FE) (a b : Nat) (lim : Int) (wb wp : Bool) (p : PO S e a b lim wb wp) : [0, 1, 2, 3, 8, 9].map e = [S, .int .i64 a, .int .i64 b, .int .i64 lim, .bool wb, .bool wp] := by
 simp [p.e0, p.e1, p.e2, p.e3, p.e8, p.e9]
def PdqLO (nro : Nat) (S : Value) (cm : Nat → Nat → Int) (N : Nat) (H : Array Nat → VH) (a b : Nat) : Prop :=
 ∀ (d : Array Nat), d.size = N → Below (ltC cm) a b d → ∀ (lim : Int), 0 ≤ lim → lim ≤ 255 → ∀ (wb wp : Bool) (d0 : Array Nat), ∃ d', d'.size = N ∧ PermIn a b d d' ∧ SortedIn (ltC cm) a b d' ∧ floop (vcall F nro) nro [0, 1, 2, 3, 8, 9] i_zz25_B1 (H d0) [S, .int .i64 a, .int .i64 b, .int .i64 lim, .bool wb, .bool wp] (H d) = some (.ret, fl [], H d')
theorem PdqLO.call (E : SXO nro S P ag cm N H) {a b : Nat} (h : PdqLO nro S cm N H a b) (d : Array Nat) (hd : d.size = N) (hB : Below (ltC cm) a b d) (lim : Int) (hl : 0 ≤ lim) (hl2 : lim ≤ 255) :
  ∃ d', d'.size = N ∧ PermIn a b d d' ∧ SortedIn (ltC cm) a b d' ∧ vcall F nro k_zz25 [S, .int .i64 a, .int .i64 b, .int .i64 lim] (H d) = some (.tuple #[], H d') := by
 obtain ⟨d', h1, h2, h3, lp⟩ := h d hd hB lim hl hl2 true true d
 refine ⟨d', h1, h2, h3, ?_⟩
 have hc0 := fun q vs => E.base.clean0 d q vs
 clear h2 h3
 refine v_zz25 (by simp [i_zz25]) ?_
 rw [fbody_eq]
 simp (disch := first | assumption | omega | (simp [*] <;> omega) | fail) [-getElem?_pos, List.getElem?_cons_zero, List.getElem?_cons_succ, i_zz25, lp, hc0, fresults, fresL]
set_option maxHeartbeats 1000000 in
theorem pdqO_all (E : SXO nro S P ag cm N H) (hS : SWO (ltC cm)) (hN255 : N ≤ 255) : ∀ (n a b : Nat), b - a ≤ n → a ≤ b → b ≤ N → PdqLO nro S cm N H a b := by
 intro n
 induction n with
 | zero =>
  intro a b hn hab hb d hd hB lim hl hl2 wb wp d0
  have pe : PO S (fl ([0, 1, 2, 3, 8, 9].zip [S, .int .i64 a, .int .i64 b, .int .i64 lim, .bool wb, .bool wp])) a b lim wb wp := ⟨rfl, rfl, rfl, rfl, rfl, rfl⟩
  rcases pdqO_A E hS a b hab hb d hd lim wb wp _ pe with ⟨d', h1, h2, h3, h4⟩ | ⟨h1, _⟩
  ·refine ⟨d', h1, h2, h3, ?_⟩
   rw [floop_at pdBO_eq, fcode_block, fcode_parts (vcall F nro) nro 2 pdBO _ _ (by decide), h4]
   rfl
  ·omega
 | succ n ih =>
  intro a b hn hab hb d hd hB lim hl hl2 wb wp d0
  have pe : PO S (fl ([0, 1, 2, 3, 8, 9].zip [S, .int .i64 a, .int .i64 b, .int .i64 lim, .bool wb, .bool wp])) a b lim wb wp := ⟨rfl, rfl, rfl, rfl, rfl, rfl⟩
  obtain ⟨env, henv⟩ : ∃ env, env = fl ([0, 1, 2, 3, 8, 9].zip [S, .int .i64 a, .int .i64 b, .int .i64 lim, .bool wb, .bool wp]) := ⟨_, rfl⟩
  rw [floop_at pdBO_eq, fcode_block, ← henv]
  rw [← henv] at pe
  rw [fcode_parts (vcall F nro) nro 2 pdBO _ _ (by decide)]
  rcases pdqO_A E hS a b hab hb d hd lim wb wp _ pe with ⟨d', h1, h2, h3, h4⟩ | ⟨h12, hl3, eA, fA, peA, pA12⟩
  ·refine ⟨d', h1, h2, h3, ?_⟩
   rw [h4]
   rfl
  rw [← fcode_parts (vcall F nro) nro 2 pdBO _ _ (by decide), seq_step 2 (by decide) fA]
  obtain ⟨eB, d1, limB, fB, s1, q1, hlB, peB, pB12⟩ := pdqO_B E hN255 a b hab hb d hd lim (by omega) hl2 wb wp eA _ peA pA12
  rw [seq_step 0 (by decide) fB]
  have B1 := hB.perm (by omega) q1
  obtain ⟨eC, d2, m, t, fC, s2, q2, hm, peC, pC12, pC13, pC14⟩ := pdqO_C E a b (by omega) hb d1 s1 limB wb wp eB _ peB pB12
  have t1 : dropS (0 + 1) (dropS (2 + 1) pdBO) = dropS 4 pdBO := rfl
  rw [t1, seq_step 1 (by decide) fC]
  have B2 := B1.perm (by omega) q2
  have t2 : dropS (1 + 1) (dropS 4 pdBO) = dropS 6 pdBO := rfl
  rw [t2]
  have Q2 := permIn_trans _ _ _ a b q1 q2
  rcases pdqO_D E hS a b (by omega) hb d2 s2 B2 limB wb wp eC _ _ t peC pC12 pC13 pC14 with ⟨d', h1, h2, h3, h4⟩ | ⟨eD, d3, fD, s3, q3, peD, pD12, pD13⟩
  ·refine ⟨d', h1, permIn_trans _ _ _ a b Q2 h2, h3, ?_⟩
   rw [seq_ret 0 (by decide) (by simp) h4]
   rfl
  rw [seq_step 0 (by decide) fD]
  have t3 : dropS (0 + 1) (dropS 6 pdBO) = dropS 7 pdBO := rfl
  rw [t3]
  have B3 := B2.perm (by omega) q3
  have Q3 := permIn_trans _ _ _ a b Q2 q3
  rcases pdqO_E E a b m hm.1 hm.2 hb d3 s3 limB wb wp eD _ peD pD12 pD13 with ⟨ha0, hlt, eE, fE, peE⟩ | ⟨eE, fE, peE, pE12, pE13⟩
  ·-- equal elements to the left
   obtain ⟨g1, g2, g3, g4, g5⟩ := round_eq hS (partitionEqual_holds (ltC cm)) (d3 := d3) (d4 := (partitionEqual (ltC cm) d3 a b m).2) (mid := (partitionEqual (ltC cm) d3 a b m).1) ha0 hm.1 hm.2 (by omega) B3 hlt rfl
   obtain ⟨r, hr⟩ : ∃ r, r = partitionEqual (ltC cm) d3 a b m := ⟨_, rfl⟩
   rw [← hr] at g1 g2 g3 g4 g5 fE peE
   rw [seq_ret 0 (by decide) (by simp) fE]
   obtain ⟨d', i1, i2, i3, i4⟩ := ih r.1 b (by omega) g2 hb r.2 (by omega) g4 limB hlB.1 hlB.2 wb wp d0
   obtain ⟨z1, z2⟩ := g5 d' i2 i3
   refine ⟨d', i1, permIn_trans _ _ _ a b Q3 z1, z2, ?_⟩
   rw [← i4]
   show kloop (vcall F nro) nro [0, 1, 2, 3, 8, 9] i_zz25_B1 (H d0) (kclean (H d0) ([0, 1, 2, 3, 8, 9].map eE) (H r.2)) = _
   rw [floop_po eE r.1 b limB wb wp peE]
   have hc := E.base.clean0 d0 r.2
   have oS := E.base.oS
   clear g1 g2 g3 g4 g5 i1 i2 i3 i4 z1 z2 hr
   simp (disch := first | assumption | omega | (simp [*] <;> omega) | fail) [-getElem?_pos, List.getElem?_cons_zero, List.getElem?_cons_succ, hc, oS]
  ·rw [seq_step 0 (by decide) fE]
   have t4 : dropS (0 + 1) (dropS 7 pdBO) = dropS 8 pdBO := rfl
   rw [t4]
   have hpt := c_ord_part E.base d3 s3 a b m hm.1 hm.2 hb
   obtain ⟨r, hr⟩ : ∃ r, r = partition (ltC cm) d3 a b m := ⟨_, rfl⟩
   rw [← hr] at hpt
   obtain ⟨mid, ap, d4⟩ := r
   simp only at hpt
   obtain ⟨g1, g2, g3, g4, g5, g6, g7⟩ := round_part hS (partition_holds (ltC cm)) hm.1 hm.2 (show b ≤ d3.size by omega) B3 hr.symm
   by_cases c : mid - a < b - mid
   ·obtain ⟨L, l1, l2, l3, l4⟩ := (ih a mid (by omega) g1 (by omega)).call E d4 (by omega) g4 limB hlB.1 hlB.2
    obtain ⟨g8, g9⟩ := g6 L l2 l3
    obtain ⟨eF, wbF, fF, peF⟩ := pdqO_F E a b m mid ap d3 d4 L limB wb wp eE (b - a) (by have := E.base.hN; omega) ⟨g1, g2, hb⟩ peE pE12 pE13 hpt (by rw [if_pos c]; exact l4)
    rw [if_pos c] at peF
    rw [fF]
    obtain ⟨d', i1, i2, i3, i4⟩ := ih (mid + 1) b (by omega) (by omega) hb L l1 g8 limB hlB.1 hlB.2 wbF ap d0
    obtain ⟨z1, z2⟩ := g9 d' i2 i3
    refine ⟨d', i1, permIn_trans _ _ _ a b Q3 z1, z2, ?_⟩
    rw [← i4]
    show kloop (vcall F nro) nro [0, 1, 2, 3, 8, 9] i_zz25_B1 (H d0) (kclean (H d0) ([0, 1, 2, 3, 8, 9].map eF) (H L)) = _
    rw [floop_po eF (mid + 1) b limB wbF ap peF]
    have hc := E.base.clean0 d0 L
    have oS := E.base.oS
    clear g1 g2 g3 g4 g5 g6 g7 g8 g9 i1 i2 i3 i4 z1 z2 hr
    simp (disch := first | assumption | omega | (simp [*] <;> omega) | fail) [-getElem?_pos, List.getElem?_cons_zero, List.getElem?_cons_succ, hc, oS]
   ·obtain ⟨L, l1, l2, l3, l4⟩ := (ih (mid + 1) b (by omega) (by omega) hb).call E d4 (by omega) g5 limB hlB.1 hlB.2
    obtain ⟨g8, g9⟩ := g7 L l2 l3
    obtain ⟨eF, wbF, fF, peF⟩ := pdqO_F E a b m mid ap d3 d4 L limB wb wp eE (b - a) (by have := E.base.hN; omega) ⟨g1, g2, hb⟩ peE pE12 pE13 hpt (by rw [if_neg c]; exact l4)
    rw [if_neg c] at peF
    rw [fF]
    obtain ⟨d', i1, i2, i3, i4⟩ := ih a mid (by omega) g1 (by omega) L l1 g8 limB hlB.1 hlB.2 wbF ap d0
    obtain ⟨z1, z2⟩ := g9 d' i2 i3
    refine ⟨d', i1, permIn_trans _ _ _ a b Q3 z1, z2, ?_⟩
    rw [← i4]
    show kloop (vcall F nro) nro [0, 1, 2, 3, 8, 9] i_zz25_B1 (H d0) (kclean (H d0) ([0, 1, 2, 3, 8, 9].map eF) (H L)) = _
    rw [floop_po eF a mid limB wbF ap peF]
    have hc := E.base.clean0 d0 L
    have oS := E.base.oS
    clear g1 g2 g3 g4 g5 g6 g7 g8 g9 i1 i2 i3 i4 z1 z2 hr
    simp (disch := first | assumption | omega | (simp [*] <;> omega) | fail) [-getElem?_pos, List.getElem?_cons_zero, List.getElem?_cons_succ, hc, oS]
end

/- slices.Sort of numbers, up to 255 of them. -/
section
open Go Go.Sort
section
variable {nro : Nat} {S : Value} {P : Int → Value} {ag : Nat → Value} {cm : Nat → Nat → Int} {N : Nat} {H : Array Nat → VH}
theorem c_ord_Sort (E : SXO nro S P ag cm N H) (hS : SWO (ltC cm)) (hN255 : N ≤ 255) (d : Array Nat) (hd : d.size = N) :
  ∃ d', d'.size = N ∧ PermIn 0 N d d' ∧ SortedIn (ltC cm) 0 N d' ∧ vcall F nro k_zz36 [S] (H d) = some (.tuple #[], H d') := by
 obtain ⟨y, y1, _, _, e1⟩ := c_bits_Len64x (nro := nro) N hN255 (H d)
 have e2 : vcall F nro k_zz60 [.int .u64 N] (H d) = some (.int .i64 y, H d) := by
  refine v_zz60 (by simp [i_zz60]) ?_
  rw [fbody_eq]
  simp (disch := first | assumption | omega | (simp [*] <;> omega) | fail) [i_zz60, e1]
 obtain ⟨d', h1, h2, h3, h4⟩ := (pdqO_all E hS hN255 N 0 N (by omega) (by omega) (Nat.le_refl _)).call E d hd (.inl rfl) y (by omega) (by omega)
 refine ⟨d', h1, h2, h3, ?_⟩
 have vl := E.base.vln d hd
 have hc0 := fun q vs => E.base.clean0 d q vs
 have w1 : IntKind.u64.wrap (N : Int) = N := wrapu64 (by omega) (by omega)
 simp only [Int.natCast_zero] at h4
 clear h2 h3
 refine v_zz36 (by simp [i_zz36]) ?_
 rw [fbody_eq]
 simp (disch := first | assumption | omega | (simp [*] <;> omega) | fail) [-getElem?_pos, List.getElem?_cons_zero, List.getElem?_cons_succ, i_zz36, vl, w1, e2, h4, hc0, fresults, fresL]
end
section
variable {nro : Nat}
def hpI (G : VH) (blk : Nat) (f : Nat → Int) (d : Array Nat) : VH := G.set blk ⟨1, ints (d.toList.map f)⟩
theorem se_ints {G : VH} {blk : Nat} (hb : blk < G.length) (hnb : nro ≤ blk) (f : Nat → Int) {N : Nat} (hN : N ≤ 1000) :
  SO nro (.slice (some ⟨blk, 0, none⟩) N N) (fun x => .pointer (some ⟨blk, x.toNat, some N⟩)) (fun j => .int .i64 (f j)) (fun x y => f x - f y) N (hpI G blk f) := by
 have hlen : ∀ d, (hpI G blk f d).length = G.length := fun d => by simp [hpI]
 have hat : ∀ d, (hpI G blk f d)[blk]? = some ⟨1, ints (d.toList.map f)⟩ := fun d => by unfold hpI; rw [List.getElem?_set, if_pos rfl, if_pos hb]
 refine ⟨fun d d' => by rw [hlen, hlen], fun d => by rw [hlen]; omega, ?_, ?_, ?_, ?_, ?_, ?_, ?_, hN⟩
 ·intro n hln
  rw [hlen] at hln
  intro r hr
  simp [trefs, vrefs, crefs, arefs] at hr
  omega
 ·intro d x hd h1 h2
  unfold vidx
  simp only [hat]
  simp [ints, hd, h1, h2]
 ·intro d x hd h1 h2
  have hx : x.toNat < d.toList.length := by rw [Array.length_toList (xs := d)]; omega
  have hx' : x.toNat < d.size := by omega
  unfold vload vget
  simp only [hat]
  rw [if_pos ⟨by simp [ints, hd], by simp [ints]; omega⟩]
  have : (List.take 1 (List.drop x.toNat (ints (d.toList.map f)))) = [.int .i64 (f (getI d x))] := by
   rw [List.drop_eq_getElem_cons (by simp [ints]; omega)]
   simp [ints, getI, hx']
  simp only [this]
  rfl
 ·intro d x v hd h1 h2
  have hx' : x.toNat < d.size := by omega
  unfold vstore
  simp only [hat]
  rw [if_pos ⟨hnb, by simp [ints, hd], by simp [ints]; omega, rfl, rfl⟩]
  congr 1
  unfold hpI setI
  rw [Array.toList_setIfInBounds, List.set_set]
  congr 2
  unfold splice
  simp only [vcells_int, List.length_singleton]
  rw [List.map_set, ints, ints, List.map_set, List.set_eq_take_append_cons_drop, if_pos (by simp; omega)]
  simp
 ·intro d x y
  rw [c_cmp_Less]
  congr 4
  simp only [eq_iff_iff]
  omega
 ·intro d d'
  refine ⟨by rw [hlen, hlen], fun i p hp => ?_⟩
  by_cases hi : i = blk
  ·subst hi
   rw [hat] at hp
   cases hp
   right
   exact flatO_ints _ 1 _
  ·left
   rw [← hp]
   unfold hpI
   rw [List.getElem?_set, if_neg (Ne.symm hi), List.getElem?_set, if_neg (Ne.symm hi)]
 ·intro d hd
  unfold vlen
  simp only [hat]
  simp [ints, hd]
theorem swo_sub (f : Nat → Int) : SWO (ltC fun x y => f x - f y) := by
 refine ⟨fun x => ?_, fun x y z h1 h2 => ?_, fun x y z h1 h2 => ?_⟩
 ·simp [ltC]
 ·simp only [ltC, decide_eq_true_eq] at h1 h2 ⊢; omega
 ·simp only [ltC, decide_eq_false_iff_not] at h1 h2 ⊢; omega
theorem perm_sorted_eq : ∀ (xs ys : List Int), xs.Perm ys → xs.Pairwise (· ≤ ·) → ys.Pairwise (· ≤ ·) → xs = ys := fun xs ys h h1 h2 => h.eq_of_pairwise (fun a b _ _ h3 h4 => by omega) h1 h2
theorem srtB_pw {xs : List Int} : SrtB 0 xs.length xs ↔ xs.Pairwise (· ≤ ·) := by
 rw [List.pairwise_iff_getElem]
 constructor
 ·intro h i j hi hj hij
  have := h i j (by omega) hij hj
  rwa [getD_at xs hi, getD_at xs hj] at this
 ·intro h p q _ hpq hq
  rw [getD_at xs hq, getD_at xs (show p < xs.length by omega)]
  exact h p q _ _ hpq
theorem c_Sort {G : VH} {blk : Nat} {xs : List Int} (hb : G[blk]? = some ⟨1, ints xs⟩) (hnb : nro ≤ blk) (h255 : xs.length ≤ 255) :
  vcall F nro k_zz36 [.slice (some ⟨blk, 0, none⟩) xs.length xs.length] G = some (.tuple #[], G.set blk ⟨1, ints (insS 0 xs.length xs)⟩) := by
 have hlt := (List.getElem?_eq_some_iff.mp hb).1
 obtain ⟨f, hf⟩ : ∃ f : Nat → Int, f = fun i => xs.getD i 0 := ⟨_, rfl⟩
 have X : SXO nro _ _ _ _ xs.length (hpI G blk f) := ⟨se_ints hlt hnb f (by omega), fun o => by
  have : (fun d => hpI G blk f d ++ [o]) = hpI (G ++ [o]) blk f := by
   funext d
   unfold hpI
   rw [List.set_append_left _ _ hlt]
  rw [this]
  exact se_ints (by simp; omega) hnb f (by omega)⟩
 obtain ⟨d', s1, s2, s3, s4⟩ := c_ord_Sort X (swo_sub f) h255 (Array.range xs.length) (by simp)
 have hx : (List.range xs.length).map f = xs := by
  rw [hf]
  apply List.ext_getElem (by simp)
  intro i p1 p2
  simp [List.getD_eq_getElem?_getD, p2]
 have h0 : hpI G blk f (Array.range xs.length) = G := by
  unfold hpI
  rw [Array.toList_range, hx]
  apply List.ext_getElem? fun i => ?_
  rw [List.getElem?_set]
  by_cases e : blk = i
  ·subst e; rw [if_pos rfl, if_pos hlt, hb]
  ·rw [if_neg e]
 have hperm : d'.toList.Perm (List.range xs.length) := by
  have := s2.2.2
  rw [Array.extract_eq_self_of_le (by omega), Array.extract_eq_self_of_le (by simp)] at this
  simpa using this
 have hp := hperm.map f
 rw [hx] at hp
 have hs : (d'.toList.map f).Pairwise (· ≤ ·) := by
  rw [List.pairwise_map, List.pairwise_iff_getElem]
  intro i j hi hj hij
  have hs := s3 i j (by omega) hij (by rw [← s1]; simpa using hj)
  have hi' : i < d'.size := by simpa using hi
  have hj' : j < d'.size := by simpa using hj
  have gi : d'[i]! = d'.toList[i] := by simp [hi']
  have gj : d'[j]! = d'.toList[j] := by simp [hj']
  rw [gi, gj] at hs
  unfold ltC at hs
  simp at hs
  simp only [Array.getElem_toList]
  omega
 have e : d'.toList.map f = insS 0 xs.length xs := by
  have q := insS_perm (a := 0) (b := xs.length) (xs := xs) (Nat.le_refl _)
  have q2 := insS_sorted (a := 0) (b := xs.length) (xs := xs) (Nat.le_refl _)
  refine perm_sorted_eq _ _ (hp.trans q.symm) hs ?_
  rw [← q.length_eq] at q2
  rw [q.length_eq] at q2
  exact srtB_pw.mp (by rw [q.length_eq]; exact q2)
 rw [h0] at s4
 unfold hpI at s4
 rw [e] at s4
 exact s4
end
end

/- The reference's steps of a refinement: counts, equal lists. -/
section
open Go
variable {nro : Nat}
noncomputable def cnts (rows cl : List Int) (n v : Nat) : List Int := (List.range n).map fun x : Nat => cntC rows cl n v x
end

/- Equal lists, the first place of a number. -/
section
open Go
variable {nro : Nat}
theorem ne_iff_ex (xs ys : List Int) (hl : xs.length = ys.length) : (∃ j, 0 ≤ j ∧ j < xs.length ∧ xs.getD j 0 ≠ ys.getD j 0) ↔ xs ≠ ys := by
 constructor
 ·rintro ⟨j, _, _, h⟩ e
  exact h (by rw [e])
 ·intro hne
  apply Classical.byContradiction
  intro hno
  apply hne
  apply List.ext_getElem hl
  intro k h1 h2
  apply Classical.byContradiction
  intro hk
  exact hno ⟨k, by omega, h1, by simpa [List.getD_eq_getElem?_getD, h1, h2] using hk⟩
open Classical in
theorem c_slices_Equal (s t : Value) (xs ys : List Int) (h : VH) (hs : Sli h s xs) (ht : Sli h t ys) (hx : xs.length ≤ 1000) :
  vcall F nro k_zz33 [s, t] h = some (.bool (decide (xs = ys)), h) := by
 refine v_zz33 (by simp [i_zz33]) ?_
 rw [fbody_eq]
 have hso := hs.old
 have hto := ht.old
 have vl := hs.vlen
 have vl2 := ht.vlen
 by_cases hl : xs.length = ys.length
 ·have lp := for_find (call := vcall F nro) (nro := nro) (live := [0, 1, 12, 13]) (c := i_zz33_B1) (h0 := h) (n := xs.length) (fun i => [s, t, .int .i64 xs.length, .int .i64 i]) h (fun i => xs.getD i 0 ≠ ys.getD i 0) (some (.ret, fl [(4, .bool false)], h)) (some (.exit 0, fl [], h)) (fun i hi hi2 => ?_) ?_ 0 (by omega)
  ·simp only [Int.natCast_zero, ne_iff_ex xs ys hl] at lp
   have hl' : (xs.length : Int) = ys.length := by omega
   by_cases e : xs = ys
   ·rw [if_neg (by simp [e])] at lp
    rw [decide_eq_true e]
    clear hs ht e hl
    rw [hl'] at lp vl
    simp (disch := first | assumption | omega | (simp [*] <;> omega) | fail) [i_zz33, vl, vl2, lp, fresults, fresL, fres1]
   ·rw [if_pos e] at lp
    rw [decide_eq_false e]
    clear hs ht hl
    rw [hl'] at lp vl
    simp (disch := first | assumption | omega | (simp [*] <;> omega) | fail) [i_zz33, vl, vl2, lp, fresults, fresL, fres1]
  ·have hi3 : i < ys.length := by omega
   have x1 := hs.vidx (k := .i64) (j := (i : Int)) (by omega) (by omega)
   have x2 := hs.vload hi
   have y1 := ht.vidx (k := .i64) (j := (i : Int)) (by omega) (by omega)
   have y2 := ht.vload hi3
   have g1 : xs.getD i 0 = xs[i] := getD_at xs hi
   have g2 : ys.getD i 0 = ys[i] := getD_at ys hi3
   rw [g1, g2]
   have w1 : IntKind.i64.wrap ((i : Int) + 1) = (i : Int) + 1 := wrap64 (by omega) (by omega)
   obtain ⟨a, ha⟩ : ∃ a, a = xs[i] := ⟨_, rfl⟩
   obtain ⟨b, hb⟩ : ∃ b, b = ys[i] := ⟨_, rfl⟩
   rw [← ha] at x2 ⊢
   rw [← hb] at y2 ⊢
   rw [floop_at i_zz33_B1.eq_1]
   clear hs ht g1 g2 ha hb hl vl vl2
   constructor <;> intro hq <;> simp (disch := first | assumption | omega | (simp [*] <;> omega) | fail) [x1, x2, y1, y2, w1, hi2, hq]
  ·rw [floop_at i_zz33_B1.eq_1]
   simp (disch := first | assumption | omega | (simp [*] <;> omega) | fail) []
 ·have e : xs ≠ ys := fun e => hl (by rw [e])
  have hl' : ¬ (xs.length : Int) = ys.length := by omega
  rw [decide_eq_false e]
  clear hs ht hl
  simp (disch := first | assumption | omega | (simp [*] <;> omega) | fail) [i_zz33, vl, vl2, hl', fresults, fresL, fres1]
def idxF (xs : List Int) (x : Int) (i : Nat) : Int := if i < xs.length then (if xs.getD i 0 = x then (i : Int) else idxF xs x (i + 1)) else -1
 termination_by xs.length - i
theorem l_slices_Index (s : Value) (xs : List Int) (x : Int) (h : VH) (hs : Sli h s xs) (hx : xs.length ≤ 1000) (k : Nat) : ∀ i, k = xs.length - i → i ≤ xs.length →
  (idxF xs x i < 0 → floop (vcall F nro) nro [0, 1, 7, 8] i_zz34_B1 h [s, .int .i64 x, .int .i64 xs.length, .int .i64 i] h = some (.exit 0, fl [], h)) ∧
  (¬ idxF xs x i < 0 → floop (vcall F nro) nro [0, 1, 7, 8] i_zz34_B1 h [s, .int .i64 x, .int .i64 xs.length, .int .i64 i] h = some (.ret, fl [(4, .int .i64 (idxF xs x i))], h)) := by
 have hso := hs.old
 induction k with
 | zero =>
  intro i hk hi
  have h1 : ¬ i < xs.length := by omega
  have h2 : ¬ (i : Int) < xs.length := by omega
  rw [idxF, if_neg h1, floop_at i_zz34_B1.eq_1]
  refine ⟨fun _ => ?_, fun h => absurd (by omega) h⟩
  simp (disch := first | assumption | omega | (simp [*] <;> omega) | fail) [h2]
 | succ k ih =>
  intro i hk hi
  have h1 : i < xs.length := by omega
  have h2 : (i : Int) < xs.length := by omega
  have x1 := hs.vidx (k := .i64) (j := (i : Int)) (by omega) (by omega)
  have x2 := hs.vload h1
  have g1 : xs.getD i 0 = xs[i] := getD_at xs h1
  have w1 : IntKind.i64.wrap ((i : Int) + 1) = (i : Int) + 1 := wrap64 (by omega) (by omega)
  have ih := ih (i + 1) (by omega) (by omega)
  rw [idxF, if_pos h1, g1, floop_at i_zz34_B1.eq_1]
  obtain ⟨a, ha⟩ : ∃ a, a = xs[i] := ⟨_, rfl⟩
  rw [← ha] at x2 ⊢
  obtain ⟨r, hr⟩ : ∃ r, r = idxF xs x (i + 1) := ⟨_, rfl⟩
  rw [← hr] at ih ⊢
  rw [show ((i + 1 : Nat) : Int) = (i : Int) + 1 by omega] at ih
  clear hs g1 ha hr
  by_cases c1 : a = x
  ·rw [if_pos c1]
   have c1' : x = a := c1.symm
   refine ⟨fun h => absurd h (by omega), fun _ => ?_⟩
   simp (disch := first | assumption | omega | (simp [*] <;> omega) | fail) [x1, x2, w1, h2, c1']
  ·rw [if_neg c1]
   have c1' : ¬ x = a := fun e => c1 e.symm
   obtain ⟨i1, i2⟩ := ih
   refine ⟨fun h => ?_, fun h => ?_⟩
   ·have i1 := i1 h
    simp (disch := first | assumption | omega | (simp [*] <;> omega) | fail) [x1, x2, w1, h2, c1', i1]
   ·have i2 := i2 h
    simp (disch := first | assumption | omega | (simp [*] <;> omega) | fail) [x1, x2, w1, h2, c1', i2]
theorem c_slices_Index (s : Value) (xs : List Int) (x : Int) (h : VH) (hs : Sli h s xs) (hx : xs.length ≤ 1000) :
  vcall F nro k_zz34 [s, .int .i64 x] h = some (.int .i64 (idxF xs x 0), h) := by
 obtain ⟨i1, i2⟩ := l_slices_Index (nro := nro) s xs x h hs hx xs.length 0 (by omega) (by omega)
 refine v_zz34 (by simp [i_zz34]) ?_
 rw [fbody_eq]
 have vl := hs.vlen
 have hneg : idxF xs x 0 < 0 → idxF xs x 0 = -1 := by
  have : ∀ k i, k = xs.length - i → idxF xs x i < 0 → idxF xs x i = -1 := by
   intro k
   induction k with
   | zero => intro i hk h; rw [idxF, if_neg (by omega)]
   | succ k ih =>
    intro i hk h
    rw [idxF, if_pos (by omega)] at h ⊢
    split
    ·rename_i c; rw [if_pos c] at h; omega
    ·rename_i c; rw [if_neg c] at h; exact ih (i + 1) (by omega) h
  exact this _ 0 rfl
 simp only [Int.natCast_zero] at i1 i2
 by_cases c : idxF xs x 0 < 0
 ·have i1 := i1 c
  rw [hneg c]
  clear hs i2
  simp (disch := first | assumption | omega | (simp [*] <;> omega) | fail) [i_zz34, vl, i1, fresults, fresL, fres1]
 ·have i2 := i2 c
  obtain ⟨r, hr⟩ : ∃ r, r = idxF xs x 0 := ⟨_, rfl⟩
  rw [← hr] at i2 ⊢
  clear hs i1
  simp (disch := first | assumption | omega | (simp [*] <;> omega) | fail) [i_zz34, vl, i2, fresults, fresL, fres1]
end

/- Partitions; the law of IsPartition. -/
section
open Go
variable {nro : Nat}
def PartOK : List Int → Int → Prop
 | [], _ => True
 | x :: r, m => 0 ≤ x ∧ x ≤ m ∧ PartOK r (if x = m then m + 1 else m)
end

/- Lists of colours in the order in which they are met. -/
section
open Go
theorem idxF_neg (xs : List Int) (x : Int) (k : Nat) : ∀ i, k = xs.length - i → (idxF xs x i < 0 → ∀ j, i ≤ j → j < xs.length → xs.getD j 0 ≠ x) ∧ (¬ idxF xs x i < 0 → idxF xs x i < xs.length ∧ xs.getD (idxF xs x i).toNat 0 = x) := by
 induction k with
 | zero =>
  intro i hk
  rw [idxF, if_neg (by omega)]
  exact ⟨fun _ j h1 h2 => by omega, fun h => absurd (by omega) h⟩
 | succ k ih =>
  intro i hk
  rw [idxF, if_pos (by omega)]
  by_cases c : xs.getD i 0 = x
  ·rw [if_pos c]
   refine ⟨fun h => by omega, fun _ => ⟨by omega, by rw [Int.toNat_natCast]; exact c⟩⟩
  ·rw [if_neg c]
   obtain ⟨h1, h2⟩ := ih (i + 1) (by omega)
   refine ⟨fun h j hj hj2 => ?_, h2⟩
   by_cases e : j = i
   ·subst e; exact c
   ·exact h1 h j (by omega) hj2
end

/- Digraphs and desks; the law of IsDesk. -/
section
open Go
variable {nro : Nat}
open Classical in
theorem l_slices_IndexFunc (s fv : Value) (kf : Nat) (caps : List Value) (xs : List Int) (p : Int → Prop) (h : VH) (hs : Sli h s xs) (hl : xs.length ≤ 9223372036854775806) (hfv : fv = .func (.func kf) #[] caps.toArray) (hfo : Old h.length fv) (hf : ∀ x ∈ xs, vcall F nro kf (.int .i64 x :: caps) h = some (.bool (decide (p x)), h)) (i : Int) (hi : 0 ≤ i) (hin : i ≤ xs.length) :
    ∃ e, floop (vcall F nro) nro [0, 1, 7, 8] i_zz22_B1 h [s, fv, .int .i64 xs.length, .int .i64 i] h =
      some (if ∃ j : Nat, (i ≤ j ∧ j < xs.length ∧ p (xs.getD j 0)) then (.ret, fl [(4, .int .i64 e)], h) else (.exit 0, fl [], h)) ∧ ((∃ j : Nat, (i ≤ j ∧ j < xs.length ∧ p (xs.getD j 0))) → 0 ≤ e ∧ e < xs.length ∧ p (xs.getD e.toNat 0) ∧ ∀ j : Nat, i ≤ j → (j : Int) < e → ¬ p (xs.getD j 0)) := by
  have hso := hs.old
  rw [floop_at i_zz22_B1.eq_1]
  by_cases hlt : i < xs.length
  · have e1 : xs.getD i.toNat 0 = xs[i.toNat]'(by omega) := getD_at _ (by omega)
    have hfx := hf (xs[i.toNat]'(by omega)) (List.getElem_mem _)
    by_cases hb : p (xs[i.toNat]'(by omega))
    · refine ⟨i, ?_, fun _ => ⟨hi, hlt, by rw [e1]; exact hb, fun j h1 h2 => by omega⟩⟩
      have hex : ∃ j : Nat, (i ≤ j ∧ j < xs.length ∧ p (xs.getD j 0)) := ⟨i.toNat, by omega, by omega, by rw [e1]; exact hb⟩
      rw [if_pos hex]
      simp (disch := first | assumption | omega | (simp [*] <;> omega) | fail) [hs.vlen, hs.vidx, hs.vload, wrap64, hlt, hfv, hfx, hb]
    · obtain ⟨e, ih1, ih2⟩ := l_slices_IndexFunc s fv kf caps xs p h hs hl hfv hfo hf (i + 1) (by omega) (by omega)
      have hiff : (∃ j : Nat, (i + 1 ≤ j ∧ j < xs.length ∧ p (xs.getD j 0))) ↔ ∃ j : Nat, (i ≤ j ∧ j < xs.length ∧ p (xs.getD j 0)) := by
        constructor
        · rintro ⟨j, h1, h2, h3⟩; exact ⟨j, by omega, h2, h3⟩
        · rintro ⟨j, h1, h2, h3⟩
          refine ⟨j, ?_, h2, h3⟩
          have : (j : Int) ≠ i := fun e => by
            apply hb
            rw [← e1, show i.toNat = j by omega]
            exact h3
          omega
      refine ⟨e, ?_, fun hex => ?_⟩
      · simp only [hiff] at ih1
        subst hfv
        simp (disch := first | assumption | omega | (simp [*] <;> omega) | fail) [hs.vlen, hs.vidx, hs.vload, wrap64, hlt, hfx, hb, ih1]
      · obtain ⟨g1, g2, g3, g4⟩ := ih2 (hiff.mpr hex)
        refine ⟨g1, g2, g3, fun j h1 h2 => ?_⟩
        by_cases e : (j : Int) = i
        · rw [show j = i.toNat by omega, e1]; exact hb
        · exact g4 j (by omega) h2
  · refine ⟨0, ?_, fun hex => ?_⟩
    · rw [if_neg (by rintro ⟨j, h1, h2, _⟩; omega)]
      simp (disch := first | assumption | omega | (simp [*] <;> omega) | fail) [hlt]
    · obtain ⟨j, h1, h2, _⟩ := hex
      omega
 termination_by (xs.length - i).toNat
open Classical in
theorem c_slices_IndexFunc (s fv : Value) (kf : Nat) (caps : List Value) (xs : List Int) (p : Int → Prop) (h : VH) (hs : Sli h s xs) (hl : xs.length ≤ 9223372036854775806) (hfv : fv = .func (.func kf) #[] caps.toArray) (hfo : Old h.length fv) (hf : ∀ x ∈ xs, vcall F nro kf (.int .i64 x :: caps) h = some (.bool (decide (p x)), h)) :
  ∃ e : Int, vcall F nro k_zz22 [s, fv] h = some (.int .i64 e, h) ∧ ((e = -1 ∧ ∀ j : Nat, j < xs.length → ¬ p (xs.getD j 0)) ∨ (0 ≤ e ∧ e < xs.length ∧ p (xs.getD e.toNat 0) ∧ ∀ j : Nat, (j : Int) < e → ¬ p (xs.getD j 0))) := by
 obtain ⟨e, h1, h2⟩ := l_slices_IndexFunc (nro := nro) s fv kf caps xs p h hs hl hfv hfo hf 0 (by omega) (by omega)
 by_cases hex : ∃ j : Nat, ((0 : Int) ≤ j ∧ j < xs.length ∧ p (xs.getD j 0))
 ·rw [if_pos hex] at h1
  obtain ⟨g1, g2, g3, g4⟩ := h2 hex
  refine ⟨e, ?_, .inr ⟨g1, g2, g3, fun j hj => g4 j (by omega) hj⟩⟩
  refine v_zz22 (by simp [i_zz22]) ?_
  rw [fbody_eq]
  simp (disch := first | assumption | omega | (simp [*] <;> omega) | fail) [i_zz22, hs.vlen, h1]
 ·rw [if_neg hex] at h1
  refine ⟨-1, ?_, .inl ⟨rfl, fun j hj hp => hex ⟨j, by omega, hj, hp⟩⟩⟩
  refine v_zz22 (by simp [i_zz22]) ?_
  rw [fbody_eq]
  simp (disch := first | assumption | omega | (simp [*] <;> omega) | fail) [i_zz22, hs.vlen, h1]
end

/- Numbers that follow from a code. -/
section
open Go
variable {nro : Nat}
def bys (xs : List Int) : List Value := xs.map (.int .u8)
@[simp] theorem bys_length (xs : List Int) : (bys xs).length = xs.length := by simp [bys]
end

/- Draws: the source of a code, picks, the numbers of a cage. -/
section
open Go
variable {nro : Nat}
theorem Sl.cells {h : VH} {cd : Value} {cs : List Value} (hs : Sl h cd cs) : vcells cd = [cd] := by
 rcases hs.inv with ⟨rfl, _⟩ | ⟨rfl, _⟩ | ⟨a, n, t, o, rfl, _⟩ <;> rfl
theorem Sl.junk {h : VH} {cd : Value} {cs : List Value} (hs : Sl h cd cs) : isJunk cd = false := by
 rcases hs.inv with ⟨rfl, _⟩ | ⟨rfl, _⟩ | ⟨a, n, t, o, rfl, _⟩ <;> rfl
end

/- The search for regular graphs: both searches are one. -/
section
open Go
variable {nro : Nat}
theorem GV.put2 {n : Nat} {r : List Int} (g : GV n r) {v w : Nat} (hv : v < n) (hw : w < n) (hne : v ≠ w) : GV n (put2 r v w) := by
 have hlo := g.lo
 have R := g.rok
 have h := R.isAdj.put2 (a := (v : Int)) (b := (w : Int)) (by omega) (by omega) (by omega) (by omega) R.le
 simp only [Int.toNat_natCast] at h
 have R2 := R.put2 hv hw
 refine ⟨by omega, g.hi, by rw [h.1], fun x hx => ?_, fun x y hx hy => ?_⟩
 ·rw [h.1] at hx
  obtain ⟨r1, r2⟩ := R2.row x hx
  refine ⟨r1, ?_, ?_⟩
  ·have e : ((2 ^ n : Nat) : Int) = (2 : Int) ^ ((n : Int).toNat) := by simp
   rw [← e]; omega
  ·have := (h.2 x hx).2.2 x
   cases hb : rbit (Zv.put2 r v w) x x
   ·rfl
   ·rcases this.mp hb with h1 | ⟨h1, h2⟩ | ⟨h1, h2⟩
    ·exact absurd rfl (g.ne h1)
    ·omega
    ·omega
 ·rw [h.1] at hx hy
  have a := (h.2 x hx).2.2 y
  have b := (h.2 y hy).2.2 x
  rw [Bool.eq_iff_iff, a, b]
  constructor
  ·rintro (h1 | ⟨h1, h2⟩ | ⟨h1, h2⟩)
   ·exact .inl (g.sym' h1)
   ·exact .inr (.inr ⟨h2, h1⟩)
   ·exact .inr (.inl ⟨h2, h1⟩)
  ·rintro (h1 | ⟨h1, h2⟩ | ⟨h1, h2⟩)
   ·exact .inl (g.sym' h1)
   ·exact .inr (.inr ⟨h2, h1⟩)
   ·exact .inr (.inl ⟨h2, h1⟩)
def lefto (r : List Int) (o : Option (List Int)) : List Int := o.getD r
@[simp] theorem lefto_some (r r' : List Int) : lefto r (some r') = r' := rfl
@[simp] theorem lefto_none (r : List Int) : lefto r none = r := rfl
end

/- The first cage graph: the program's and the reference's answers. -/
section
open Go
variable {nro : Nat}
theorem GV.zero {n : Nat} (h1 : 1 ≤ n) (h2 : n ≤ 62) : GV n (List.replicate n 0) := by
 have hr : ∀ v w, rbit (List.replicate n 0) v w = false := fun v w => by
  unfold rbit
  rw [List.getD_eq_getElem?_getD, List.getElem?_replicate]
  split <;> simp
 refine ⟨by omega, by omega, by simp, fun v hv => ⟨?_, ?_, hr v v⟩, fun v w _ _ => by rw [hr, hr]⟩
 ·rw [List.getD_eq_getElem?_getD, List.getElem?_replicate]; split <;> simp
 ·rw [List.getD_eq_getElem?_getD, List.getElem?_replicate]
  have : (0 : Int) < 2 ^ n := Int.pow_pos (by omega)
  split <;> simpa using this
def prS (n : Nat) (k c : Int) : Prop := (n * k) % 2 ≠ 0 ∨ n ≤ k ∨ (1 < k ∧ n < c)
def prI (n : Nat) (k c : Int) : Prop := (n * k) % 2 ≠ 0 ∨ n ≤ k ∨ (2 ≤ k ∧ n < gB k c.toNat)
instance (n : Nat) (k c : Int) : Decidable (prS n k c) := by unfold prS; infer_instance
instance (n : Nat) (k c : Int) : Decidable (prI n k c) := by unfold prI; infer_instance
end

/- Draws of graphs: graphs of so many vertices. -/
section
open Go
variable {nro : Nat}
theorem cleanup_one_upd {h h' L : VH} {v : Value} {k : Nat} {o : VO} (hu : Upd h h') (hv : trefs v = [h.length + k]) (hk : L[k]? = some o) (hf : flatO h.length o) :
  kclean h [v] (h' ++ L) = ([tren (renOf h.length [h.length + k]) v], h' ++ [o]) := by
 have e : keepL h.length [v] = [h.length + k] := by
  unfold keepL
  simp [hv, dedup]
 have hl : h'.length = h.length := hu.1
 have hg : (h' ++ L)[h.length + k]? = some o := by rw [← hl, hgetk]; exact hk
 have htake : (h' ++ L).take h.length = h' := by rw [← hl]; simp
 have hc : okT h.length h ((h' ++ L).take h.length) ∧ flatL h.length [h.length + k] (h' ++ L) := by
  refine ⟨by rw [htake]; exact hu.2, fun i hi => ⟨o, ?_, hf⟩⟩
  simp only [List.mem_singleton] at hi
  rw [hi]; exact hg
 unfold kclean cleanup
 rw [e, if_pos hc, htake]
 simp [hg]
end

/- Coloured graphs: last places, whether two graphs are alike. -/
section
open Go
open Classical
theorem RG.app {nro K n a bg bc : Nat} {q : Nat → Nat} {rs : Nat → Value} {rows : Nat → List Int} {gcs : List Value} {Hc : (Nat → List Int) → VH} (E : RG nro K n a bg bc q rs rows gcs Hc) (L : VH) : RG nro K n a bg bc q rs rows gcs (fun c => Hc c ++ L) where
 nr c := Nat.le_trans (E.nr c) (by simp)
 nq := E.nq
 len c c' := by simp [E.len c c']
 upd c c' := (E.upd c c').appR L
 ax c := E.lt c (E.ax c) L
 ag c := E.lt c (E.ag c) L
 gl := E.gl
 ga := E.ga
 ac c := E.lt c (E.ac c) L
 aq c i hi := E.lt c (E.aq c i hi) L
 st c i l hi := E.setA c L i l hi
 rr c i hi := (E.rr c i hi).app L
 rok := E.rok
 n1 := E.n1
 K1 := E.K1
 K2 := E.K2
def lastX (xs : List Int) (x : Int) : Nat → Int
 | 0 => -1
 | k + 1 => if xs.getD k 0 = x then (k : Int) else lastX xs x k
theorem lastX_spec (xs : List Int) (x : Int) : ∀ k, (lastX xs x k = -1 ∧ ∀ j, j < k → xs.getD j 0 ≠ x) ∨ (∃ e : Nat, lastX xs x k = e ∧ e < k ∧ xs.getD e 0 = x ∧ ∀ j, e < j → j < k → xs.getD j 0 ≠ x)
 | 0 => .inl ⟨rfl, fun j hj => by omega⟩
 | k + 1 => by
  unfold lastX
  by_cases h : xs.getD k 0 = x
  ·rw [if_pos h]
   exact .inr ⟨k, rfl, by omega, h, fun j h1 h2 => by omega⟩
  ·rw [if_neg h]
   rcases lastX_spec xs x k with ⟨h1, h2⟩ | ⟨e, h1, h2, h3, h4⟩
   ·refine .inl ⟨h1, fun j hj => ?_⟩
    by_cases hjk : j = k
    ·subst hjk; exact h
    ·exact h2 j (by omega)
   ·refine .inr ⟨e, h1, by omega, h3, fun j h5 h6 => ?_⟩
    by_cases hjk : j = k
    ·subst hjk; exact h
    ·exact h4 j h5 (by omega)
variable {nro : Nat}
theorem l_zz56 (s : Value) (xs : List Int) (x : Int) (h : VH) (hs : Sli h s xs) (hx : xs.length ≤ 1000) : ∀ k, k ≤ xs.length →
  floop (vcall F nro) nro [0, 1, 5] i_zz56_B1 h [s, .int .i64 x, .int .i64 ((k : Int) - 1)] h = if lastX xs x k = -1 then some (.exit 0, fl [], h) else some (.ret, fl [(4, .int .i64 (lastX xs x k))], h)
 | 0, _ => by
  rw [floop_at i_zz56_B1.eq_1]
  have e : ((0 : Nat) : Int) - 1 = -1 := rfl
  rw [e]
  unfold lastX
  simp (disch := first | assumption | omega | (simp [*] <;> omega) | fail) [-getElem?_pos, List.getElem?_cons_zero, List.getElem?_cons_succ, ]
 | k + 1, hk => by
  have ih := l_zz56 s xs x h hs hx k (by omega)
  have so := hs.old
  have e : ((k + 1 : Nat) : Int) - 1 = (k : Int) := by omega
  have vx := hs.vidx (k := .i64) (j := (k : Int)) (by omega) (by omega)
  have vl := hs.vload (j := k) (by omega)
  have g0 := getD_at xs (show k < xs.length by omega)
  have w1 : IntKind.i64.wrap ((k : Int) - 1) = (k : Int) - 1 := wrap64 (by omega) (by omega)
  simp only [Int.toNat_natCast] at vx
  rw [floop_at i_zz56_B1.eq_1, e]
  unfold lastX
  rw [g0]
  have hk0 : ¬ (k : Int) = -1 := by omega
  by_cases c : xs[k] = x
  ·rw [if_pos c, if_neg hk0]
   rw [c] at vl
   clear hs ih
   simp (disch := first | assumption | omega | (simp [*] <;> omega) | fail) [-getElem?_pos, List.getElem?_cons_zero, List.getElem?_cons_succ, vx, vl, so]
  ·rw [if_neg c]
   rw [← ih]
   clear hs ih
   simp (disch := first | assumption | omega | (simp [*] <;> omega) | fail) [-getElem?_pos, List.getElem?_cons_zero, List.getElem?_cons_succ, vx, vl, so, c, w1]
theorem c_zz56 (s : Value) (xs : List Int) (x : Int) (h : VH) (hs : Sli h s xs) (hx : xs.length ≤ 1000) :
  vcall F nro k_zz56 [s, .int .i64 x] h = some (.int .i64 (lastX xs x xs.length), h) := by
 have l := l_zz56 (nro := nro) s xs x h hs hx xs.length (Nat.le_refl _)
 have vl := hs.vlen
 have so := hs.old
 have w1 : IntKind.i64.wrap ((xs.length : Int) - 1) = (xs.length : Int) - 1 := wrap64 (by omega) (by omega)
 refine v_zz56 (by simp [i_zz56]) ?_
 rw [fbody_eq]
 by_cases c : lastX xs x xs.length = -1
 ·rw [if_pos c] at l
  rw [c]
  clear hs
  simp (disch := first | assumption | omega | (simp [*] <;> omega) | fail) [-getElem?_pos, List.getElem?_cons_zero, List.getElem?_cons_succ, i_zz56, vl, w1, l, so, fresults, fresL, fres1]
 ·rw [if_neg c] at l
  clear hs
  simp (disch := first | assumption | omega | (simp [*] <;> omega) | fail) [-getElem?_pos, List.getElem?_cons_zero, List.getElem?_cons_succ, i_zz56, vl, w1, l, so, fresults, fresL, fres1]
theorem idxF_first (xs : List Int) (x : Int) : ∀ k i, k = xs.length - i → ∀ j, i ≤ j → (j : Int) < idxF xs x i → xs.getD j 0 ≠ x := by
 intro k
 induction k with
 | zero =>
  intro i hi j h1 h2
  rw [idxF, if_neg (by omega)] at h2
  omega
 | succ k ih =>
  intro i hi j h1 h2
  rw [idxF, if_pos (by omega)] at h2
  by_cases c : xs.getD i 0 = x
  ·rw [if_pos c] at h2; omega
  ·rw [if_neg c] at h2
   by_cases e : j = i
   ·subst e; exact c
   ·exact ih (i + 1) (by omega) j (by omega) h2
theorem twice_iff {xs : List Int} {x : Int} : idxF xs x 0 ≠ lastX xs x xs.length ↔ ∃ u v, u < xs.length ∧ v < xs.length ∧ u ≠ v ∧ xs.getD u 0 = x ∧ xs.getD v 0 = x := by
 obtain ⟨i1, i2⟩ := idxF_neg xs x xs.length 0 (by omega)
 rcases lastX_spec xs x xs.length with ⟨h1, h2⟩ | ⟨e, h1, h2, h3, h4⟩
 ·have hi : idxF xs x 0 < 0 := by
   apply Classical.byContradiction
   intro hn
   obtain ⟨a1, a2⟩ := i2 hn
   exact h2 (idxF xs x 0).toNat (by omega) (by simpa using a2)
  have hi2 : idxF xs x 0 = -1 := by
   have : ∀ k i, k = xs.length - i → idxF xs x i < 0 → idxF xs x i = -1 := by
    intro k
    induction k with
    | zero => intro i hi _; unfold idxF; rw [if_neg (by omega)]
    | succ k ih =>
     intro i hi hlt
     unfold idxF at hlt ⊢
     rw [if_pos (by omega)] at hlt ⊢
     split
     ·rename_i c; rw [if_pos c] at hlt; omega
     ·rename_i c; rw [if_neg c] at hlt; exact ih (i + 1) (by omega) hlt
   exact this xs.length 0 (by omega) hi
  rw [h1, hi2]
  constructor
  ·intro h; exact absurd rfl h
  ·rintro ⟨u, v, hu, _, _, e1, _⟩
   exact absurd e1 (h2 u hu)
 ·have hi : ¬ idxF xs x 0 < 0 := fun hn => i1 hn e (by omega) h2 h3
  obtain ⟨a1, a2⟩ := i2 hi
  have a3 := idxF_first xs x xs.length 0 (by omega)
  obtain ⟨f, hf⟩ : ∃ f : Nat, idxF xs x 0 = f := ⟨_, (Int.toNat_of_nonneg (by omega)).symm⟩
  rw [hf] at a1 a2 a3 ⊢
  rw [h1]
  rw [Int.toNat_natCast] at a2
  constructor
  ·intro h
   exact ⟨f, e, by omega, h2, by omega, a2, h3⟩
  ·rintro ⟨u, v, hu, hv, huv, e1, e2⟩ hfe
   have hfe : f = e := by omega
   subst hfe
   have b1 : ∀ w, w < xs.length → xs.getD w 0 = x → w = f := fun w hw hx => by
    rcases Nat.lt_trichotomy w f with c | c | c
    ·exact absurd hx (a3 w (Nat.zero_le _) (by omega))
    ·exact c
    ·exact absurd hx (h4 w c hw)
   exact huv ((b1 u hu e1).trans (b1 v hv e2).symm)
section
variable {n a bg bc : Nat} {q : Nat → Nat} {rs : Nat → Value} {rows : Nat → List Int} {gcs : List Value} {Hc : (Nat → List Int) → VH} (E : RG nro 2 n a bg bc q rs rows gcs Hc)
include E
theorem c_zz45 (c : Nat → List Int) (C : CL 2 n c) (h62 : n ≤ 62) : vcall F nro k_zz45 [.pointer (some ⟨a, 0, some 2⟩)] (Hc c) = some (.bool (decide ((c 0).Perm (c 1))), Hc c) := by
 have hn1 := E.n1
 have l0 := C.len 0 (by omega)
 have l1 := C.len 1 (by omega)
 have q1 := E.ax c
 have q2 := E.ac c
 have lax := E.lax c
 have lbc := E.lbc c
 have z0 := E.ccell 0 (by omega)
 have z1 := E.ccell 1 (by omega)
 have hnr := E.nr c
 have s0 : Sli (Hc c) (.slice (some ⟨q 0, 0, none⟩) n n) (c 0) := by
  have := sli_at (E.aq c 0 (by omega)); rwa [l0] at this
 have s1 : Sli (Hc c) (.slice (some ⟨q 1, 0, none⟩) n n) (c 1) := by
  have := sli_at (E.aq c 1 (by omega)); rwa [l1] at this
 have k0 := c_slices_Clone (nro := nro) _ (c 0) (Hc c) s0 (C.ne hn1 0 (by omega)) (by omega) hnr
 have k1 := c_slices_Clone (nro := nro) _ (c 1) (Hc c ++ [⟨1, ints (c 0)⟩]) (s1.app _) (C.ne hn1 1 (by omega)) (by omega) (by simp; omega)
 have k2 := c_Sort (nro := nro) (G := Hc c ++ [⟨1, ints (c 0)⟩, ⟨1, ints (c 1)⟩]) (blk := (Hc c).length) (xs := c 0) (by simp) hnr (by omega)
 have k3 := c_Sort (nro := nro) (G := Hc c ++ [⟨1, ints (insS 0 n (c 0))⟩, ⟨1, ints (c 1)⟩]) (blk := (Hc c).length + 1) (xs := c 1) (by simp) (by omega) (by omega)
 have t0 := sli_at (h := Hc c ++ [⟨1, ints (insS 0 n (c 0))⟩, ⟨1, ints (insS 0 n (c 1))⟩]) (b := (Hc c).length) (xs := insS 0 n (c 0)) (by simp)
 have t1 := sli_at (h := Hc c ++ [⟨1, ints (insS 0 n (c 0))⟩, ⟨1, ints (insS 0 n (c 1))⟩]) (b := (Hc c).length + 1) (xs := insS 0 n (c 1)) (by simp)
 have k4 := c_slices_Equal (nro := nro) _ _ _ _ _ t0 t1 (by rw [insS_length]; omega)
 have hd : decide (insS 0 n (c 0) = insS 0 n (c 1)) = decide ((c 0).Perm (c 1)) := by
  have p0 := insS_perm (a := 0) (b := n) (xs := c 0) (by omega)
  have p1 := insS_perm (a := 0) (b := n) (xs := c 1) (by omega)
  refine decide_eq_decide.mpr ⟨fun h => p0.symm.trans (h ▸ p1), fun h => ?_⟩
  have o0 := insS_sorted (a := 0) (b := n) (xs := c 0) (by omega)
  have o1 := insS_sorted (a := 0) (b := n) (xs := c 1) (by omega)
  refine perm_sorted_eq _ _ (p0.trans (h.trans p1.symm)) (srtB_pw.mp ?_) (srtB_pw.mp ?_)
  ·rw [insS_length, l0]; exact o0
  ·rw [insS_length, l1]; exact o1
 rw [hd] at k4
 rw [insS_length, insS_length] at k4
 rw [l0] at k0 k2 k4
 rw [l1] at k1 k3 k4
 generalize insS 0 n (c 0) = u0 at *
 generalize insS 0 n (c 1) = u1 at *
 generalize decide ((c 0).Perm (c 1)) = fb at *
 have hn' := fun k => Nat.le_trans hnr (Nat.le_add_right (Hc c).length k)
 obtain ⟨H, hH⟩ : ∃ H, H = Hc c := ⟨_, rfl⟩
 obtain ⟨cl, hcl⟩ : ∃ cl, cl = (List.range 2).map fun i => (Value.slice (some ⟨q i, 0, none⟩) n n) := ⟨_, rfl⟩
 have hcll : cl.length = 2 := by rw [hcl]; simp
 rw [← hcl] at q2 z0 z1
 rw [List.drop_zero] at z0
 rw [List.drop_one] at z1
 have q1' : ∀ L : VH, (Hc c ++ L)[a]? = _ := fun L => E.lt c q1 L
 have q2' : ∀ L : VH, (Hc c ++ L)[bc]? = _ := fun L => E.lt c q2 L
 rw [← hH] at hn' hnr q1 q2 q1' q2' lax lbc k0 k1 k2 k3 k4 ⊢
 simp at k0 k1 k2 k3
 generalize c 0 = c0 at *
 generalize c 1 = c1 at *
 refine v_zz45 (by simp [i_zz45]) ?_
 rw [fbody_eq]
 clear C E hH s0 s1 t0 t1 hd hcl
 simp (disch := first | assumption | omega | (simp [*] <;> omega) | fail) [-getElem?_pos, List.getElem?_cons_zero, List.getElem?_cons_succ, i_zz45, q1, q2, q1', q2', z0, z1, hcll, k0, k1, k2, k3, k4, hn', hnr, lax, lbc, fresults, fresL, fres1]
end
end

/- Graphs made edge by edge: jump graphs, renumbered graphs. -/
section
open Go
variable {nro : Nat}
theorem mk_upd (P C : VH) (r0 r1 : List Int) : Upd (P ++ ⟨1, ints r0⟩ :: C) (P ++ ⟨1, ints r1⟩ :: C) := by
 have h1 := (Upd.rfl' (P ++ ⟨1, ints r0⟩ :: C)).set' (b := P.length) (o := ⟨1, ints r1⟩) (flatO_ints _ _ _)
 rwa [hset0] at h1
theorem mk_clean {P C : VH} {r0 r1 : List Int} {vs : List Value} (hv : ∀ v ∈ vs, Old (P ++ ⟨1, ints r0⟩ :: C).length v) : kclean (P ++ ⟨1, ints r0⟩ :: C) vs (P ++ ⟨1, ints r1⟩ :: C) = (vs, P ++ ⟨1, ints r1⟩ :: C) := by
 have := cleanup_upd (L := []) (mk_upd P C r0 r1) (vs := vs) hv
 rwa [List.append_nil] at this
end

/- Bases: lists of arcs in the heap, what a base is, steps. -/
section
open Go
open Classical in
theorem for_findQ {call : VCall} {nro : Nat} {live : List Nat} {c : FC} {h0 : VH} {n : Nat} (V : Nat → List Value) (h : VH) (bad : Nat → Prop) (P : Option (VX × FE × VH) → Prop) (d : Option (VX × FE × VH))
    (step : ∀ i, i < n → (i : Int) < n → (bad i → P (floop call nro live c h0 (V i) h)) ∧ (¬ bad i → floop call nro live c h0 (V i) h = floop call nro live c h0 (V (i + 1)) h))
    (stop : floop call nro live c h0 (V n) h = d) (i : Nat) (hi : i ≤ n) :
    ((∃ j, i ≤ j ∧ j < n ∧ bad j) ∧ P (floop call nro live c h0 (V i) h)) ∨ ((¬ ∃ j, i ≤ j ∧ j < n ∧ bad j) ∧ floop call nro live c h0 (V i) h = d) := by
  by_cases hlt : i < n
  · obtain ⟨h1, h2⟩ := step i hlt (by omega)
    by_cases hb : bad i
    · exact .inl ⟨⟨i, Nat.le_refl _, hlt, hb⟩, h1 hb⟩
    · rw [h2 hb]
      rcases for_findQ V h bad P d step stop (i + 1) hlt with ⟨⟨j, a1, a2, a3⟩, h3⟩ | ⟨h3, h4⟩
      · exact .inl ⟨⟨j, by omega, a2, a3⟩, h3⟩
      · refine .inr ⟨?_, h4⟩
        rintro ⟨j, a1, a2, a3⟩
        by_cases e : j = i
        · subst e; exact hb a3
        · exact h3 ⟨j, by omega, a2, a3⟩
  · have : i = n := by omega
    subst this
    refine .inr ⟨?_, stop⟩
    rintro ⟨j, h1, h2, _⟩
    omega
 termination_by n - i
structure Ar where
 f : Int
 t : Int
 v : Int
abbrev avc (a : Ar) : List Value := [.int .i64 a.f, .int .i64 a.t, .int .i64 a.v]
def arcs : List Ar → List Value
 | [] => []
 | a :: A => avc a ++ arcs A
@[simp] theorem arcs_nil : arcs [] = [] := rfl
@[simp] theorem arcs_len : ∀ A : List Ar, (arcs A).length = 3 * A.length
 | [] => rfl
 | a :: A => by
  show (avc a ++ arcs A).length = _
  rw [List.length_append, arcs_len A, List.length_cons]
  show 3 + 3 * A.length = 3 * (A.length + 1)
  omega
@[simp] theorem arcs_all : ∀ A : List Ar, (arcs A).all (fun v => !isJunk v) = true
 | [] => rfl
 | a :: A => by
  show (avc a ++ arcs A).all _ = true
  rw [List.all_append, arcs_all A]
  rfl
@[simp] theorem arcs_flat (n k : Nat) (A : List Ar) : flatO n ⟨k, arcs A⟩ := by
 intro r hr
 exfalso
 induction A with
 | nil => simp [orefs] at hr
 | cons a A ih =>
  have : orefs ⟨k, arcs (a :: A)⟩ = orefs ⟨k, arcs A⟩ := by
   show (avc a ++ arcs A).flatMap crefs = (arcs A).flatMap crefs
   rw [List.flatMap_append]
   simp [crefs, arefs]
  rw [this] at hr
  exact ih hr
def okA (n m : Int) (a : Ar) : Prop := 0 ≤ a.f ∧ a.f < n ∧ 0 ≤ a.t ∧ a.t < n ∧ 0 ≤ a.v ∧ a.v < m
instance (n m : Int) (a : Ar) : Decidable (okA n m a) := by unfold okA; infer_instance
variable {nro : Nat}
end

/- Renumberings that are told by colours: the loops. -/
section
open Go
open Classical
variable {nro : Nat}
structure MV (nro : Nat) (H : VH) (b1 a bg bc n : Nat) (u0 u1 v0 v1 : Value) (c0 c1 r0 r1 : List Int) : Prop where
 nr : nro ≤ H.length
 box : H[b1]? = some ⟨0, [.pointer (some ⟨a, 0, some 2⟩)]⟩
 ax : H[a]? = some ⟨0, [.slice (some ⟨bg, 0, none⟩) 2 4, .slice (some ⟨bc, 0, none⟩) 2 2]⟩
 ac : H[bc]? = some ⟨1, [u0, u1]⟩
 ag : H[bg]? = some ⟨2, [.int .i64 n, v0, .int .i64 n, v1]⟩
 s0 : Sli H u0 c0
 s1 : Sli H u1 c1
 t0 : Sli H v0 r0
 t1 : Sli H v1 r1
 l0 : c0.length = n
 l1 : c1.length = n
 R0 : Rok n r0
 R1 : Rok n r1
 n1 : 1 ≤ n
theorem MV.app {nro : Nat} {H : VH} {b1 a bg bc n : Nat} {u0 u1 v0 v1 : Value} {c0 c1 r0 r1 : List Int} (m : MV nro H b1 a bg bc n u0 u1 v0 v1 c0 c1 r0 r1) (L : VH) : MV nro (H ++ L) b1 a bg bc n u0 u1 v0 v1 c0 c1 r0 r1 where
 nr := Nat.le_trans m.nr (by simp)
 box := by rw [List.getElem?_append_left (List.getElem?_eq_some_iff.mp m.box).1]; exact m.box
 ax := by rw [List.getElem?_append_left (List.getElem?_eq_some_iff.mp m.ax).1]; exact m.ax
 ac := by rw [List.getElem?_append_left (List.getElem?_eq_some_iff.mp m.ac).1]; exact m.ac
 ag := by rw [List.getElem?_append_left (List.getElem?_eq_some_iff.mp m.ag).1]; exact m.ag
 s0 := m.s0.app L
 s1 := m.s1.app L
 t0 := m.t0.app L
 t1 := m.t1.app L
 l0 := m.l0
 l1 := m.l1
 R0 := m.R0
 R1 := m.R1
 n1 := m.n1
section
variable {H : VH} {b1 a bg bc n : Nat} {u0 u1 v0 v1 : Value} {c0 c1 r0 r1 : List Int} (m : MV nro H b1 a bg bc n u0 u1 v0 v1 c0 c1 r0 r1)
include m
theorem MV.le : n ≤ 62 := m.R0.le
theorem c_zz35 (x : Int) : vcall F nro k_zz35 [.int .i64 x, .pointer (some ⟨b1, 0, some 1⟩)] H = some (.bool (decide (idxF c0 x 0 ≠ lastX c0 x c0.length)), H) := by
 have hl := m.l0
 have h62 := m.le
 have hb := m.box
 have hax := m.ax
 have hac := m.ac
 have k1 := c_slices_Index (nro := nro) u0 c0 x H m.s0 (by omega)
 have k2 := c_zz56 (nro := nro) u0 c0 x H m.s0 (by omega)
 refine v_zz35 (by simp [i_zz35]) ?_
 rw [fbody_eq]
 generalize idxF c0 x 0 = i1 at *
 generalize lastX c0 x c0.length = i2 at *
 clear m
 simp (disch := first | assumption | omega | (simp [*] <;> omega) | fail) [-getElem?_pos, List.getElem?_cons_zero, List.getElem?_cons_succ, i_zz35, hb, hax, hac, k1, k2, fresults, fresL, fres1]
theorem l_mapping_B1 : ∃ p : List Int, p.length = n ∧ (∀ v, v < n → p.getD v 0 = idxF c1 (c0.getD v 0) 0) ∧
  floop (vcall F nro) nro [1, 4, 39, 40, 41] i_zz40_B1 (H ++ [⟨1, ints (List.replicate n 0)⟩]) [.pointer (some ⟨b1, 0, some 1⟩), .slice (some ⟨H.length, 0, none⟩) n n, u0, .int .i64 n, .int .i64 0] (H ++ [⟨1, ints (List.replicate n 0)⟩]) =
   some (.exit 0, fl [(1, .pointer (some ⟨b1, 0, some 1⟩)), (4, .slice (some ⟨H.length, 0, none⟩) n n)], H ++ [⟨1, ints p⟩]) := by
 have hl := m.l0
 have hl1 := m.l1
 have h62 := m.le
 have hnr := m.nr
 have lb := (List.getElem?_eq_some_iff.mp m.box).1
 have m' := fun L => m.app L
 have hb := fun L => (m' L).box
 have hax := fun L => (m' L).ax
 have hac := fun L => (m' L).ac
 have hn' := fun k => Nat.le_trans hnr (Nat.le_add_right H.length k)
 refine Exists.elim (for_upR (call := vcall F nro) (nro := nro) (live := [1, 4, 39, 40, 41]) (c := i_zz40_B1) (h0 := H ++ [⟨1, ints (List.replicate n 0)⟩]) (n := n)
  (fun i (_ : List Int) => [.pointer (some ⟨b1, 0, some 1⟩), .slice (some ⟨H.length, 0, none⟩) n n, u0, .int .i64 n, .int .i64 i])
  (fun _ p => H ++ [⟨1, ints p⟩]) (fun i p => p.length = n ∧ ∀ v, v < i → p.getD v 0 = idxF c1 (c0.getD v 0) 0)
  (fun p => some (.exit 0, fl [(1, .pointer (some ⟨b1, 0, some 1⟩)), (4, .slice (some ⟨H.length, 0, none⟩) n n)], H ++ [⟨1, ints p⟩])) ?_ ?_ 0 (List.replicate n 0) (Nat.zero_le _) ⟨by simp, fun v hv => by omega⟩) ?_
 ·rintro i p hi hi2 ⟨hp, hI⟩
  refine ⟨p.set i (idxF c1 (c0.getD i 0) 0), ⟨by rw [List.length_set, hp], fun v hv => ?_⟩, ?_⟩
  ·rw [set_getD (by omega)]
   by_cases e : v = i
   ·rw [if_pos e, e]
   ·rw [if_neg e]; exact hI v (by omega)
  ·have s0 := m.s0
   have vx := fun L => (s0.app L).vidx (k := .i64) (j := (i : Int)) (by omega) (by omega)
   have vl := fun L => (s0.app L).vload (j := i) (by omega)
   simp only [Int.toNat_natCast] at vx
   rw [getD_at c0 (by omega)]
   have k1 := fun L => c_slices_Index (nro := nro) u1 c1 (c0[i]'(by omega)) (H ++ L) (m' L).s1 (by omega)
   have so := fun k => s0.oldk (k := k)
   have hcl := fun (r : List Int) (vs : List Value) => mk_clean (P := H) (C := []) (r0 := List.replicate n 0) (r1 := r) (vs := vs)
   have w1 : IntKind.i64.wrap ((i : Int) + 1) = (i : Int) + 1 := wrap64 (by omega) (by omega)
   have hip : i < p.length := by omega
   have tk := take1_ints hip
   have sp := splice_ints (v := idxF c1 (c0[i]'(by omega)) 0) hip
   generalize idxF c1 (c0[i]'(by omega)) 0 = y at *
   have hsl : (ints p).length = n := by rw [ints_length, hp]
   generalize (c0[i]'(by omega)) = x at *
   obtain ⟨r0, hr0⟩ : ∃ r0, r0 = List.replicate n (0 : Int) := ⟨_, rfl⟩
   rw [← hr0] at hcl ⊢
   clear hI hr0 m m' s0
   rw [floop_at i_zz40_B1.eq_1]
   simp (disch := first | assumption | omega | (simp [*] <;> omega) | fail) [-getElem?_pos, List.getElem?_cons_zero, List.getElem?_cons_succ, hi, hi2, hb, hax, hac, vx, vl, k1, so, hcl, w1, tk, sp, hsl, hn', hnr, lb]
 ·rintro p _
  rw [floop_at i_zz40_B1.eq_1]
  simp (disch := first | assumption | omega | (simp [*] <;> omega) | fail) [-getElem?_pos, List.getElem?_cons_zero, List.getElem?_cons_succ, lb]
 ·rintro p ⟨⟨h1, h2⟩, hf⟩
  exact ⟨p, h1, h2, hf⟩
end
end

/- Renumberings that are told by colours: is it one? -/
section
open Go
open Classical
variable {nro : Nat}
section
variable {H : VH} {b1 a bg bc n : Nat} {u0 u1 v0 v1 : Value} {c0 c1 r0 r1 : List Int} (m : MV nro H b1 a bg bc n u0 u1 v0 v1 c0 c1 r0 r1) {pv : Value} {p : List Int} (sp : Sli H pv p) (hp : p.length = n) (hpl : ∀ v, v < n → 0 ≤ p.getD v 0 ∧ p.getD v 0 < n)
include m sp hp hpl
theorem l_mapping_B2 (v : Nat) (hv : v < n) (lv : Value) (hq : Sli H lv (nbL r0 v)) :
  floop (vcall F nro) nro [1, 4, 7, 64, 65, 66, 72, 73, 74] i_zz40_B2 H [.pointer (some ⟨b1, 0, some 1⟩), pv, .int .i64 v, v0, .int .i64 n, .int .i64 v, lv, .int .i64 (nbL r0 v).length, .int .i64 0] H =
   if ∃ j, 0 ≤ j ∧ j < (nbL r0 v).length ∧ rbit r1 (p.getD v 0).toNat (p.getD ((nbL r0 v).getD j 0).toNat 0).toNat = false then some (.ret, fl [(2, .slice none 0 0)], H)
   else some (.exit 4, fl [(1, .pointer (some ⟨b1, 0, some 1⟩)), (4, pv), (64, v0), (65, .int .i64 n), (66, .int .i64 v)], H) := by
 have h62 := m.le
 have hnr := m.nr
 have hb := m.box
 have hax := m.ax
 have hag := m.ag
 have R1 := m.R1
 have lb := (List.getElem?_eq_some_iff.mp m.box).1
 have hqo := hq.old
 have hpo := sp.old
 have hto := m.t0.old
 have hl : (nbL r0 v).length ≤ 62 := bitL_len _
 refine for_find (call := vcall F nro) (nro := nro) (live := [1, 4, 7, 64, 65, 66, 72, 73, 74]) (c := i_zz40_B2) (h0 := H) (n := (nbL r0 v).length)
  (fun j => [.pointer (some ⟨b1, 0, some 1⟩), pv, .int .i64 v, v0, .int .i64 n, .int .i64 v, lv, .int .i64 (nbL r0 v).length, .int .i64 j]) H (fun j => rbit r1 (p.getD v 0).toNat (p.getD ((nbL r0 v).getD j 0).toNat 0).toNat = false) _ _ ?_ ?_ 0 (Nat.zero_le _)
 ·intro j hj hj2
  have hw := nbL_mem r0 v (nbL r0 v)[j] |>.mp (List.getElem_mem hj)
  obtain ⟨w, hw2⟩ : ∃ w : Nat, (nbL r0 v)[j] = w := ⟨_, (Int.toNat_of_nonneg hw.1).symm⟩
  have hwn : w < n := by
   have := (rbit_lt m.R0 (show rbit r0 v w = true by rw [hw2, Int.toNat_natCast] at hw; exact hw.2.2)).2
   exact this
  have vx := hq.vidx (k := .i64) (j := (j : Int)) (by omega) (by omega)
  have vl := hq.vload hj
  rw [hw2] at vl
  rw [getD_at _ hj, hw2, Int.toNat_natCast]
  simp only [Int.toNat_natCast] at vx
  have p1 := sp.vidx (k := .i64) (j := (v : Int)) (by omega) (by omega)
  have p2 := sp.vload (j := v) (by omega)
  have p3 := sp.vidx (k := .i64) (j := (w : Int)) (by omega) (by omega)
  have p4 := sp.vload (j := w) (by omega)
  rw [← getD_at] at p2 p4
  simp only [Int.toNat_natCast] at p1 p3
  obtain ⟨x, hx⟩ : ∃ x : Nat, p.getD v 0 = x := ⟨_, (Int.toNat_of_nonneg (hpl v hv).1).symm⟩
  obtain ⟨y, hy⟩ : ∃ y : Nat, p.getD w 0 = y := ⟨_, (Int.toNat_of_nonneg (hpl w hwn).1).symm⟩
  have hxn := (hpl v hv).2
  have hyn := (hpl w hwn).2
  rw [hx] at p2 hxn ⊢
  rw [hy] at p4 hyn ⊢
  rw [Int.toNat_natCast, Int.toNat_natCast]
  obtain ⟨g1, g2⟩ := R1.row x (by omega)
  have hlen := R1.len
  have hle62 : (2 : Nat) ^ n ≤ 2 ^ 62 := Nat.pow_le_pow_right (by omega) h62
  have k1 := c_zz54 (nro := nro) n x y v1 r1 H m.t1 (by omega) (by omega) (by omega) (by omega) (by rw [Int.toNat_natCast]; exact g1) (by rw [Int.toNat_natCast]; omega)
  rw [Int.toNat_natCast, Int.toNat_natCast] at k1
  have w1 : IntKind.i64.wrap ((j : Int) + 1) = (j : Int) + 1 := wrap64 (by omega) (by omega)
  refine ⟨fun hbad => ?_, fun hok => ?_⟩
  ·rw [hbad] at k1
   rw [floop_at i_zz40_B2.eq_1]
   clear m sp hq hw hpl R1 hx hy hbad
   simp (disch := first | assumption | omega | (simp [*] <;> omega) | fail) [-getElem?_pos, List.getElem?_cons_zero, List.getElem?_cons_succ, hj, hj2, vx, vl, hb, hax, hag, p1, p2, p3, p4, k1, hqo, hpo, hto, lb]
  ·rw [Bool.not_eq_false] at hok
   rw [hok] at k1
   rw [floop_at i_zz40_B2.eq_1]
   clear m sp hq hw hpl R1 hx hy hok
   simp (disch := first | assumption | omega | (simp [*] <;> omega) | fail) [-getElem?_pos, List.getElem?_cons_zero, List.getElem?_cons_succ, hj, hj2, vx, vl, hb, hax, hag, p1, p2, p3, p4, k1, w1, hqo, hpo, hto, lb]
 ·rw [floop_at i_zz40_B2.eq_1]
  clear m sp hq hpl R1
  simp (disch := first | assumption | omega | (simp [*] <;> omega) | fail) [-getElem?_pos, List.getElem?_cons_zero, List.getElem?_cons_succ, hqo, hpo, hto, lb]
theorem l_mapping_B3 :
  ((∃ v, 0 ≤ v ∧ v < n ∧ ∃ w, w < n ∧ rbit r0 v w = true ∧ rbit r1 (p.getD v 0).toNat (p.getD w 0).toNat = false) ∧ ∃ L, floop (vcall F nro) nro [1, 4, 64, 65, 66] i_zz40_B3 H [.pointer (some ⟨b1, 0, some 1⟩), pv, v0, .int .i64 n, .int .i64 0] H = some (.ret, fl [(2, .slice none 0 0)], H ++ L)) ∨
  ((¬ ∃ v, 0 ≤ v ∧ v < n ∧ ∃ w, w < n ∧ rbit r0 v w = true ∧ rbit r1 (p.getD v 0).toNat (p.getD w 0).toNat = false) ∧ floop (vcall F nro) nro [1, 4, 64, 65, 66] i_zz40_B3 H [.pointer (some ⟨b1, 0, some 1⟩), pv, v0, .int .i64 n, .int .i64 0] H = some (.exit 2, fl [(4, pv)], H)) := by
 have h62 := m.le
 have hnr := m.nr
 have R0 := m.R0
 have lb := (List.getElem?_eq_some_iff.mp m.box).1
 have hpo := sp.old
 have hto := m.t0.old
 have hn' := fun k => Nat.le_trans hnr (Nat.le_add_right H.length k)
 refine for_findQ (call := vcall F nro) (nro := nro) (live := [1, 4, 64, 65, 66]) (c := i_zz40_B3) (h0 := H) (n := n)
  (fun v => [.pointer (some ⟨b1, 0, some 1⟩), pv, v0, .int .i64 n, .int .i64 v]) H (fun v => ∃ w, w < n ∧ rbit r0 v w = true ∧ rbit r1 (p.getD v 0).toNat (p.getD w 0).toNat = false) (fun r => ∃ L, r = some (.ret, fl [(2, .slice none 0 0)], H ++ L)) _ ?_ ?_ 0 (Nat.zero_le _)
 ·intro v hv hv2
  have vx := m.t0.vidx (k := .i64) (j := (v : Int)) (by omega) (by have := R0.len; omega)
  have vl := m.t0.vload (j := v) (by have := R0.len; omega)
  simp only [Int.toNat_natCast] at vx
  have k1 := c_impl_listRow (nro := nro) n v r0 R0 hv H hnr
  have hq := sli_at (h := H ++ [⟨1, ints (nbL r0 v)⟩]) (b := H.length) (xs := nbL r0 v) (by simp)
  have l2 := l_mapping_B2 (nro := nro) (m.app [⟨1, ints (nbL r0 v)⟩]) (sp.app _) hp hpl v hv _ hq
  have w1 : IntKind.i64.wrap ((v : Int) + 1) = (v : Int) + 1 := wrap64 (by omega) (by omega)
  have hiff : (∃ j, 0 ≤ j ∧ j < (nbL r0 v).length ∧ rbit r1 (p.getD v 0).toNat (p.getD ((nbL r0 v).getD j 0).toNat 0).toNat = false) ↔ ∃ w, w < n ∧ rbit r0 v w = true ∧ rbit r1 (p.getD v 0).toNat (p.getD w 0).toNat = false := by
   constructor
   ·rintro ⟨j, _, hj, h⟩
    have hw := nbL_mem r0 v (nbL r0 v)[j] |>.mp (List.getElem_mem hj)
    rw [getD_at _ hj] at h
    exact ⟨_, (rbit_lt R0 hw.2.2).2, hw.2.2, h⟩
   ·rintro ⟨w, hw, hb, h⟩
    have hm : (w : Int) ∈ nbL r0 v := (nbL_mem r0 v w).mpr ⟨by omega, by omega, by rw [Int.toNat_natCast]; exact hb⟩
    obtain ⟨j, hj, he⟩ := List.getElem_of_mem hm
    exact ⟨j, Nat.zero_le _, hj, by rw [getD_at _ hj, he, Int.toNat_natCast]; exact h⟩
  rw [propext hiff] at l2
  obtain ⟨X, hX⟩ : ∃ X, X = nbL r0 v := ⟨_, rfl⟩
  rw [← hX] at k1 l2
  have hXl : (ints X).length = X.length := ints_length X
  generalize r0[v]'(by have := R0.len; omega) = row at *
  refine ⟨fun hbad => ?_, fun hok => ?_⟩
  ·rw [if_pos hbad] at l2
   refine ⟨[⟨1, ints X⟩], ?_⟩
   rw [floop_at i_zz40_B3.eq_1]
   clear m sp hq hpl R0 hbad hiff hX
   simp (disch := first | assumption | omega | (simp [*] <;> omega) | fail) [-getElem?_pos, List.getElem?_cons_zero, List.getElem?_cons_succ, hv, hv2, vx, vl, k1, l2, hpo, hto, lb, hn', hnr]
  ·rw [if_neg hok] at l2
   rw [floop_at i_zz40_B3.eq_1]
   clear m sp hq hpl R0 hok hiff hX
   simp (disch := first | assumption | omega | (simp [*] <;> omega) | fail) [-getElem?_pos, List.getElem?_cons_zero, List.getElem?_cons_succ, hv, hv2, vx, vl, k1, l2, w1, hpo, hto, lb, hn', hnr]
 ·rw [floop_at i_zz40_B3.eq_1]
  clear m sp hpl R0
  simp (disch := first | assumption | omega | (simp [*] <;> omega) | fail) [-getElem?_pos, List.getElem?_cons_zero, List.getElem?_cons_succ, hpo, hto, lb]
end
end

/- Renumberings that are looked for: one vertex told apart. -/
section
open Go
open Classical
variable {nro : Nat}
def MapRes (rows : Nat → List Int) (n : Nat) (c : Nat → List Int) (b : Nat) (pv : Value) (L : VH) : Prop :=
 (pv = .slice none 0 0 ∧ L = [] ∧ ¬ HasIso rows n c) ∨
 (∃ p : List Int, pv = .slice (some ⟨b, 0, none⟩) n n ∧ L = [⟨1, ints p⟩] ∧ p.length = n ∧ (∀ v, v < n → 0 ≤ p.getD v 0 ∧ p.getD v 0 < n) ∧ Iso rows n c (fun v => (p.getD v 0).toNat))
def MapOK (nro n : Nat) (rows : Nat → List Int) (k : Nat) : Prop := ∀ {a bg bc : Nat} {q : Nat → Nat} {rs : Nat → Value} {gcs : List Value} {Hc : (Nat → List Int) → VH}, RG nro 2 n a bg bc q rs rows gcs Hc → ∀ (c : Nat → List Int), CL 2 n c → SurC 2 n c → n - manyN 2 c ≤ k →
 ∃ c' pv L, vcall F nro k_zz40 [.pointer (some ⟨a, 0, some 2⟩)] (Hc c) = some (pv, Hc c' ++ L) ∧ MapRes rows n c (Hc c).length pv L
abbrev h2C (H : VH) (bg n : Nat) (d : Nat → List Int) : VH := H ++ [⟨1, ints (d 0)⟩, ⟨1, ints (d 1)⟩, ⟨1, [.slice (some ⟨H.length, 0, none⟩) n n, .slice (some ⟨H.length + 1, 0, none⟩) n n]⟩, ⟨0, [.slice (some ⟨bg, 0, none⟩) 2 4, .slice (some ⟨H.length + 2, 0, none⟩) 2 2]⟩]
theorem rg_two {H : VH} {bg n : Nat} {gcs : List Value} {rs : Nat → Value} {rows : Nat → List Int} (hn : nro ≤ H.length) (hg : H[bg]? = some ⟨2, gcs⟩) (gl : gcs.length = 2 * 2) (ga : ∀ i, i < 2 → gcs[2 * i]? = some (.int .i64 n) ∧ gcs[2 * i + 1]? = some (rs i)) (hr : ∀ i, i < 2 → Sli H (rs i) (rows i)) (R : ∀ i, i < 2 → Rok n (rows i)) (hn1 : 1 ≤ n) :
  RG nro 2 n (H.length + 3) bg (H.length + 2) (fun i => H.length + i) rs rows gcs (h2C H bg n) where
 nr c := by unfold h2C; simp; omega
 nq i hi := by omega
 len c c' := by simp [h2C]
 upd c c' := by
  have e : h2C H bg n c' = ((h2C H bg n c).set (H.length + 0) ⟨1, ints (c' 0)⟩).set (H.length + 1) ⟨1, ints (c' 1)⟩ := by unfold h2C; rw [hsetk, hsetk]; rfl
  rw [e]
  exact ((Upd.rfl' _).set' (flatO_ints _ _ _)).set' (flatO_ints _ _ _)
 ax c := by unfold h2C; rw [hgetk]; rfl
 ag c := by unfold h2C; rw [List.getElem?_append_left (List.getElem?_eq_some_iff.mp hg).1]; exact hg
 gl := gl
 ga := ga
 ac c := by unfold h2C; rw [hgetk]; rfl
 aq c i hi := by
  rcases (show i = 0 ∨ i = 1 by omega) with rfl | rfl <;> (unfold h2C; rw [hgetk]; rfl)
 st c i l hi := by
  rcases (show i = 0 ∨ i = 1 by omega) with rfl | rfl <;> (unfold h2C; rw [hsetk]; rfl)
 rr c i hi := (hr i hi).app _
 rok := R
 n1 := hn1
 K1 := by omega
 K2 := by omega
section
variable {n a bg bc b1 : Nat} {q : Nat → Nat} {rs : Nat → Value} {rows : Nat → List Int} {gcs : List Value} {Hc : (Nat → List Int) → VH} (E : RG nro 2 n a bg bc q rs rows gcs Hc) (hbx : ∀ c, (Hc c)[b1]? = some ⟨0, [.pointer (some ⟨a, 0, some 2⟩)]⟩)
include E
theorem RG.gcs4 : gcs = [.int .i64 n, rs 0, .int .i64 n, rs 1] := by
 have h1 := E.gl
 obtain ⟨g0, g1⟩ := E.ga 0 (by omega)
 obtain ⟨g2, g3⟩ := E.ga 1 (by omega)
 match gcs, h1, g0, g1, g2, g3 with
 | [x, y, z, w], _, g0, g1, g2, g3 => simp at g0 g1 g2 g3; rw [g0, g1, g2, g3]
include hbx
theorem RG.mv (c : Nat → List Int) (C : CL 2 n c) : MV nro (Hc c) b1 a bg bc n (.slice (some ⟨q 0, 0, none⟩) n n) (.slice (some ⟨q 1, 0, none⟩) n n) (rs 0) (rs 1) (c 0) (c 1) (rows 0) (rows 1) where
 nr := E.nr c
 box := hbx c
 ax := E.ax c
 ac := E.ac c
 ag := by rw [← E.gcs4]; exact E.ag c
 s0 := by have := sli_at (E.aq c 0 (by omega)); rwa [C.len 0 (by omega)] at this
 s1 := by have := sli_at (E.aq c 1 (by omega)); rwa [C.len 1 (by omega)] at this
 t0 := E.rr c 0 (by omega)
 t1 := E.rr c 1 (by omega)
 l0 := C.len 0 (by omega)
 l1 := C.len 1 (by omega)
 R0 := E.rok 0 (by omega)
 R1 := E.rok 1 (by omega)
 n1 := E.n1
set_option maxHeartbeats 4000000 in
theorem l_mapping_B4 {k : Nat} (ih : MapOK nro n rows k) (c : Nat → List Int) (C : CL 2 n c) (S : SurC 2 n c) (hm : manyN 2 c < n) (hk : n - manyN 2 c ≤ k + 1) {v u : Nat} (hv : v < n) (hu : u < n) (huv : u ≠ v) (hcu : (c 0).getD u 0 = (c 0).getD v 0) :
  ((∃ w, 0 ≤ w ∧ w < n ∧ (c 1).getD w 0 = (c 0).getD v 0 ∧ HasIso rows n (apartC c (manyN 2 c) v w)) ∧ ∃ L p e, floop (vcall F nro) nro [1, 3, 11, 110, 111, 112] i_zz40_B4 (Hc c) [.pointer (some ⟨b1, 0, some 1⟩), .int .i64 (manyN 2 c : Nat), .int .i64 v, .slice (some ⟨q 1, 0, none⟩) n n, .int .i64 n, .int .i64 0] (Hc c) = some (.ret, fl [(2, .slice (some ⟨(Hc c).length + e, 0, none⟩) n n)], Hc c ++ L) ∧ L[e]? = some ⟨1, ints p⟩ ∧ p.length = n ∧ (∀ v, v < n → 0 ≤ p.getD v 0 ∧ p.getD v 0 < n) ∧ ∃ w, (c 1).getD w 0 = (c 0).getD v 0 ∧ w < n ∧ Iso rows n (apartC c (manyN 2 c) v w) (fun v => (p.getD v 0).toNat)) ∨
  ((¬ ∃ w, 0 ≤ w ∧ w < n ∧ (c 1).getD w 0 = (c 0).getD v 0 ∧ HasIso rows n (apartC c (manyN 2 c) v w)) ∧ floop (vcall F nro) nro [1, 3, 11, 110, 111, 112] i_zz40_B4 (Hc c) [.pointer (some ⟨b1, 0, some 1⟩), .int .i64 (manyN 2 c : Nat), .int .i64 v, .slice (some ⟨q 1, 0, none⟩) n n, .int .i64 n, .int .i64 0] (Hc c) = some (.exit 6, fl [], Hc c)) := by
 have mv := E.mv hbx c C
 have h62 := mv.le
 have hnr := mv.nr
 have hn1 := mv.n1
 have lb := (List.getElem?_eq_some_iff.mp mv.box).1
 have l0 := mv.l0
 have l1 := mv.l1
 have lq1 := E.lq c (i := 1) (by omega)
 have E2 := rg_two (nro := nro) (n := n) hnr (E.ag c) E.gl E.ga (fun i hi => E.rr c i hi) E.rok hn1
 have s0x := mv.s0.vidx (k := .i64) (j := (v : Int)) (by omega) (by omega)
 have s0l := mv.s0.vload (j := v) (by omega)
 rw [← getD_at] at s0l
 simp only [Int.toNat_natCast] at s0x
 obtain ⟨m, hmm⟩ : ∃ m, m = manyN 2 c := ⟨_, rfl⟩
 have hapart := fun w (hw : w < n) (hcw : (c 1).getD w 0 = (c 0).getD v 0) => apart_ok C S hn1 (by omega) hv hw hu huv hcu hcw
 rw [← hmm] at hm hk hapart ⊢
 have ec := for_findQ (call := vcall F nro) (nro := nro) (live := [1, 3, 11, 110, 111, 112]) (c := i_zz40_B4) (h0 := Hc c) (n := n)
  (fun w => [.pointer (some ⟨b1, 0, some 1⟩), .int .i64 m, .int .i64 v, .slice (some ⟨q 1, 0, none⟩) n n, .int .i64 n, .int .i64 w]) (Hc c) (fun w => (c 1).getD w 0 = (c 0).getD v 0 ∧ HasIso rows n (apartC c m v w))
  (fun r => ∃ L p e, r = some (.ret, fl [(2, .slice (some ⟨(Hc c).length + e, 0, none⟩) n n)], Hc c ++ L) ∧ L[e]? = some ⟨1, ints p⟩ ∧ p.length = n ∧ (∀ v, v < n → 0 ≤ p.getD v 0 ∧ p.getD v 0 < n) ∧ ∃ w, (c 1).getD w 0 = (c 0).getD v 0 ∧ w < n ∧ Iso rows n (apartC c m v w) (fun v => (p.getD v 0).toNat)) (some (.exit 6, fl [], Hc c)) ?_ ?_ 0 (Nat.zero_le _)
 ·exact ec
 ·intro w hw hw2
  have w1 : IntKind.i64.wrap ((w : Int) + 1) = (w : Int) + 1 := wrap64 (by omega) (by omega)
  have s1x := mv.s1.vidx (k := .i64) (j := (w : Int)) (by omega) (by omega)
  have s1l := mv.s1.vload (j := w) (by omega)
  rw [← getD_at] at s1l
  simp only [Int.toNat_natCast] at s1x
  have hbox := mv.box
  have hax := mv.ax
  have hac := mv.ac
  by_cases hcw : (c 1).getD w 0 = (c 0).getD v 0
  ·obtain ⟨C2, S2, hM⟩ := hapart w hw hcw
   obtain ⟨c2, pv, L, r1, r2⟩ := ih E2 (apartC c m v w) C2 S2 (by omega)
   have k0 := c_slices_Clone (nro := nro) _ (c 0) (Hc c) mv.s0 (C.ne hn1 0 (by omega)) (by omega) hnr
   have k1 := c_slices_Clone (nro := nro) _ (c 1) (Hc c ++ [⟨1, ints (c 0)⟩]) (mv.s1.app _) (C.ne hn1 1 (by omega)) (by omega) (by simp; omega)
   rw [l0] at k0
   rw [l1] at k1
   have m' := fun L => mv.app L
   have hbox' := fun L => (m' L).box
   have hax' := fun L => (m' L).ax
   have hac' := fun L => (m' L).ac
   have sp0 := splice_ints (xs := c 0) (j := v) (v := (m : Int)) (by omega)
   have sp1 := splice_ints (xs := c 1) (j := w) (v := (m : Int)) (by omega)
   have hil0 : (ints (c 0)).length = n := by rw [ints_length, l0]
   have hil1 : (ints (c 1)).length = n := by rw [ints_length, l1]
   have e0 : (apartC c m v w) 0 = (c 0).set v m := apartC_0 _ _ _ _
   have e1 : (apartC c m v w) 1 = (c 1).set w m := apartC_1 _ _ _ _
   have hlen2 : (h2C (Hc c) bg n (apartC c m v w)).length = (Hc c).length + 4 := by simp [h2C]
   rw [hlen2] at r2
   simp only [h2C] at r1
   rw [e0, e1] at r1
   have hn' := fun k => Nat.le_trans hnr (Nat.le_add_right (Hc c).length k)
   generalize (c 0).getD v 0 = x at *
   have hil2 : (ints ((c 0).set v m)).length = n := by rw [ints_length, List.length_set, l0]
   have hil3 : (ints ((c 1).set w m)).length = n := by rw [ints_length, List.length_set, l1]
   rcases r2 with ⟨rfl, rfl, hno⟩ | ⟨p, rfl, rfl, p1, p2, p3⟩
   ·refine ⟨fun hbad => absurd hbad.2 hno, fun _ => ?_⟩
    generalize c 0 = d0 at *
    generalize c 1 = d1 at *
    generalize c2 0 = d2 at *
    generalize c2 1 = d3 at *
    rw [hcw] at s1l
    simp at k1 r1
    obtain ⟨H, hH⟩ : ∃ H, H = Hc c := ⟨_, rfl⟩
    rw [← hH] at k0 k1 r1 s0x s0l s1x s1l hbox hax hac hbox' hax' hac' hn' hnr lb lq1 ⊢
    rw [floop_at i_zz40_B4.eq_1]
    clear mv m' E E2 C C2 S S2 hapart ih hno hbx hM hcw hcu hH e0 e1
    simp (disch := first | assumption | omega | (simp [*] <;> omega) | fail) [-getElem?_pos, List.getElem?_cons_zero, List.getElem?_cons_succ, hv, hw, hw2, s0x, s0l, s1x, s1l, hbox, hax, hac, hbox', hax', hac', k0, k1, sp0, sp1, hil0, hil1, hil2, hil3, r1, w1, hn', hnr, lb, lq1]
   ·refine ⟨fun _ => ⟨[⟨1, ints (c2 0)⟩, ⟨1, ints (c2 1)⟩, ⟨1, [.slice (some ⟨(Hc c).length, 0, none⟩) n n, .slice (some ⟨(Hc c).length + 1, 0, none⟩) n n]⟩, ⟨0, [.slice (some ⟨bg, 0, none⟩) 2 4, .slice (some ⟨(Hc c).length + 2, 0, none⟩) 2 2]⟩, ⟨1, ints p⟩], p, 4, ?_, rfl, p1, p2, w, hcw, hw, p3⟩, fun hok => absurd ⟨hcw, _, p3⟩ hok⟩
    generalize c 0 = d0 at *
    generalize c 1 = d1 at *
    generalize c2 0 = d2 at *
    generalize c2 1 = d3 at *
    rw [hcw] at s1l
    simp at k1 r1
    obtain ⟨H, hH⟩ : ∃ H, H = Hc c := ⟨_, rfl⟩
    rw [← hH] at k0 k1 r1 s0x s0l s1x s1l hbox hax hac hbox' hax' hac' hn' hnr lb lq1 ⊢
    rw [floop_at i_zz40_B4.eq_1]
    clear mv m' E E2 C C2 S S2 hapart ih hbx hM hcw hcu hH e0 e1 p2 p3
    simp (disch := first | assumption | omega | (simp [*] <;> omega) | fail) [-getElem?_pos, List.getElem?_cons_zero, List.getElem?_cons_succ, hv, hw, hw2, s0x, s0l, s1x, s1l, hbox, hax, hac, hbox', hax', hac', k0, k1, sp0, sp1, hil0, hil1, hil2, hil3, r1, w1, hn', hnr, lb, lq1, p1]
  ·refine ⟨fun hbad => absurd hbad.1 hcw, fun _ => ?_⟩
   generalize (c 0).getD v 0 = x at *
   generalize (c 1).getD w 0 = y at *
   obtain ⟨H, hH⟩ : ∃ H, H = Hc c := ⟨_, rfl⟩
   rw [← hH] at s0x s0l s1x s1l hbox hax hac hnr lb lq1 ⊢
   rw [floop_at i_zz40_B4.eq_1]
   clear mv E E2 C S hapart ih hbx hcu hH
   simp (disch := first | assumption | omega | (simp [*] <;> omega) | fail) [-getElem?_pos, List.getElem?_cons_zero, List.getElem?_cons_succ, hw, hw2, s0x, s0l, s1x, s1l, hbox, hax, hac, hcw, w1, hnr, lb, lq1]
 ·rw [floop_at i_zz40_B4.eq_1]
  clear mv E E2 C S hapart ih hbx hcu
  simp (disch := first | assumption | omega | (simp [*] <;> omega) | fail) [-getElem?_pos, List.getElem?_cons_zero, List.getElem?_cons_succ, lb, lq1]
end
end

end Go.Proofs.YtbdlmjnpglfkoaaDoor.Zv

