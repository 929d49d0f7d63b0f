/- Part H of the proof: ZwOrd12, ZwOrd13, ZwRef5, ZwRefC, ZwRefF, ZwRenum, ZwLawHalf, ZwLawHalf2, ZwTup, ZwReg, ZwGreedy2, ZwGp1, ZwProdLaw, ZwCone2, ZwPow, ZwPow2, ZwProdLaw2, ZwGp3, ZwGp5, ZwGp7, ZwGp8, ZwGp9, ZwNamed, ZwNamed2, ZwDraw6, ZwDraw7, ZwDraw8, ZwDraw9. Conditions: none. -/
import Derived.Sort.Statements
import Derived.Test.YtbilmoahcnllmaaGreatDoorZpD
import Derived.Test.YtbilmoahcnllmaaGreatDoorZpE
import Derived.Test.YtbilmoahcnllmaaGreatDoorZpF
import Derived.Test.YtbilmoahcnllmaaGreatDoorZpG
set_option linter.unusedSimpArgs false
set_option linter.unusedVariables false
set_option linter.unusedSectionVars false
namespace Go.Proofs.YtbilmoahcnllmaaGreatDoor.Zv
/- Sorting: the recursion. -/
section
open Go Go.Sort
variable {nro : Nat} {S : Value} {P : Int → Value} {ag : Nat → Value} {cm : Nat → Nat → Int} {N : Nat} {H : Array Nat → VH}
section
variable (E : SXO nro S P ag cm N H)
include E
theorem pdqO_E (a b m : Nat) (ham : a ≤ m) (hmb : m < b) (hb : b ≤ N) (d : Array Nat) (hd : d.size = N) (lim : Int) (wb wp : Bool) (e : FE) (x : Value) (p : PO S e a b lim wb wp) (p12 : e 10 = x) (p13 : e 11 = .int .i64 ((m : Nat) : Int)) :
  (0 < a ∧ ltC cm d[a - 1]! d[m]! = false ∧ ∃ e', fcode (vcall F nro) nro (takeS 0 (dropS 7 pdBO)) e (H d) = some (.exit 1, e', H (partitionEqual (ltC cm) d a b m).2) ∧ PO S e' (partitionEqual (ltC cm) d a b m).1 b lim wb wp) ∨
  ∃ e', fcode (vcall F nro) nro (takeS 0 (dropS 7 pdBO)) e (H d) = some (.normal, e', H d) ∧ PO S e' a b lim wb wp ∧ e' 10 = x ∧ e' 11 = .int .i64 ((m : Nat) : Int) := by
 have hN := E.base.hN
 have p0 := p.e0
 have p1 := p.e1
 have p2 := p.e2
 have p3 := p.e3
 have p10 := p.e8
 have p11 := p.e9
 have hix := E.base.idx
 have hld := E.base.load
 have hcm := E.base.cmp
 by_cases c0 : 0 < a
 ·have c0' : (0 : Int) < a := by omega
  have w1 : IntKind.i64.wrap ((a : Int) - 1) = (a : Int) - 1 := wrap64 (by omega) (by omega)
  have g1 := getI_nat d ((a : Int) - 1) (a - 1) (by omega)
  have g2 := getI_nat d (m : Int) m rfl
  have k1 : (0 : Int) ≤ (a : Int) - 1 := by omega
  have k2 : (a : Int) - 1 < N := by omega
  have k3 : (0 : Int) ≤ m := by omega
  have k4 : (m : Int) < N := by omega
  rw [← g1, ← g2]
  by_cases c1 : cm (getI d ((a : Int) - 1)) (getI d (m : Int)) < 0
  ·right
   have hgoal : ∃ e', fcode (vcall F nro) nro (takeS 0 (dropS 7 pdBO)) e (H d) = some (.normal, e', H d) ∧ ((e' 0 = S ∧ e' 1 = .int .i64 a ∧ e' 2 = .int .i64 b ∧ e' 3 = .int .i64 lim ∧ e' 8 = .bool wb ∧ e' 9 = .bool wp) ∧ e' 10 = x ∧ e' 11 = .int .i64 ((m : Nat) : Int)) := by
    clear g1 g2
    simp (disch := first | assumption | omega | (simp [*] <;> omega) | fail) [-getElem?_pos, List.getElem?_cons_zero, List.getElem?_cons_succ, pdBO, unblock, i_zz12_B1, takeS, dropS, p0, p1, p2, p3, p10, p11, p12, p13, c0', c0, w1, hix, hld, hcm, hd, k1, k2, k3, k4, c1]
   obtain ⟨e', h1, ⟨s0, s1, s2, s3, s4, s5⟩, h2, h3⟩ := hgoal
   exact ⟨e', h1, ⟨s0, s1, s2, s3, s4, s5⟩, h2, h3⟩
  ·left
   refine ⟨c0, decide_eq_false c1, ?_⟩
   have hc := c_ord_partE E.base d hd a b m ham hmb hb
   obtain ⟨r, hr⟩ : ∃ r, r = partitionEqual (ltC cm) d a b m := ⟨_, rfl⟩
   rw [← hr] at hc ⊢
   have hgoal : ∃ e', fcode (vcall F nro) nro (takeS 0 (dropS 7 pdBO)) e (H d) = some (.exit 1, e', H r.2) ∧ (e' 0 = S ∧ e' 1 = .int .i64 ((r.1 : Nat) : Int) ∧ e' 2 = .int .i64 b ∧ e' 3 = .int .i64 lim ∧ e' 8 = .bool wb ∧ e' 9 = .bool wp) := by
    clear g1 g2 hr
    simp (disch := first | assumption | omega | (simp [*] <;> omega) | fail) [-getElem?_pos, List.getElem?_cons_zero, List.getElem?_cons_succ, pdBO, unblock, i_zz12_B1, takeS, dropS, p0, p1, p2, p3, p10, p11, p12, p13, c0', c0, w1, hix, hld, hcm, hd, k1, k2, k3, k4, c1, hc]
   obtain ⟨e', h1, s0, s1, s2, s3, s4, s5⟩ := hgoal
   exact ⟨e', h1, ⟨s0, s1, s2, s3, s4, s5⟩⟩
 ·right
  have c0' : ¬ (0 : Int) < a := by omega
  have hgoal : ∃ e', fcode (vcall F nro) nro (takeS 0 (dropS 7 pdBO)) e (H d) = some (.normal, e', H d) ∧ ((e' 0 = S ∧ e' 1 = .int .i64 a ∧ e' 2 = .int .i64 b ∧ e' 3 = .int .i64 lim ∧ e' 8 = .bool wb ∧ e' 9 = .bool wp) ∧ e' 10 = x ∧ e' 11 = .int .i64 ((m : Nat) : Int)) := by
   simp (disch := first | assumption | omega | (simp [*] <;> omega) | fail) [-getElem?_pos, List.getElem?_cons_zero, List.getElem?_cons_succ, pdBO, unblock, i_zz12_B1, takeS, dropS, p0, p1, p2, p3, p10, p11, p12, p13, c0', c0]
  obtain ⟨e', h1, ⟨s0, s1, s2, s3, s4, s5⟩, h2, h3⟩ := hgoal
  exact ⟨e', h1, ⟨s0, s1, s2, s3, s4, s5⟩, h2, h3⟩
theorem pdqO_F (a b m mid : Nat) (ap : Bool) (d d4 L : Array Nat) (lim : Int) (wb wp : Bool) (e : FE) (len : Nat) (hlen : len ≤ 1000) (hmid : a ≤ mid ∧ mid < b ∧ b ≤ N) (p : PO S e a b lim wb wp) (p12 : e 10 = .int .i64 ((len : Nat) : Int)) (p13 : e 11 = .int .i64 ((m : Nat) : Int))
  (hc : vcall F nro k_zz8 [S, .int .i64 a, .int .i64 b, .int .i64 m] (H d) = some (.tuple #[.int .i64 ((mid : Nat) : Int), .bool ap], H d4))
  (hcall : if mid - a < b - mid then vcall F nro k_zz12 [S, .int .i64 a, .int .i64 mid, .int .i64 lim] (H d4) = some (.tuple #[], H L) else vcall F nro k_zz12 [S, .int .i64 ((mid + 1 : Nat) : Int), .int .i64 b, .int .i64 lim] (H d4) = some (.tuple #[], H L)) :
  ∃ e' wb', fcode (vcall F nro) nro (dropS 8 pdBO) e (H d) = some (.normal, e', H L) ∧ (if mid - a < b - mid then PO S e' (mid + 1) b lim wb' ap else PO S e' a mid lim wb' ap) := by
 have hN := E.base.hN
 have p0 := p.e0
 have p1 := p.e1
 have p2 := p.e2
 have p3 := p.e3
 have p10 := p.e8
 have p11 := p.e9
 obtain ⟨q, hq⟩ : ∃ q : Nat, q = len / 8 := ⟨_, rfl⟩
 have t1 : ((len : Nat) : Int).tdiv 8 = q := by rw [Int.tdiv_eq_ediv_of_nonneg (by omega)]; omega
 have w1 : IntKind.i64.wrap ((mid : Int) - a) = (mid : Int) - a := wrap64 (by omega) (by omega)
 have w2 : IntKind.i64.wrap ((b : Int) - mid) = (b : Int) - mid := wrap64 (by omega) (by omega)
 have w3 : IntKind.i64.wrap (q : Int) = q := wrap64 (by omega) (by omega)
 have w4 : IntKind.i64.wrap ((mid : Int) + 1) = (mid : Int) + 1 := wrap64 (by omega) (by omega)
 by_cases c : mid - a < b - mid
 ·have c' : (mid : Int) - a < (b : Int) - mid := by omega
  rw [if_pos c] at hcall
  have hgoal : ∃ e', fcode (vcall F nro) nro (dropS 8 pdBO) e (H d) = some (.normal, e', H L) ∧ (e' 0 = S ∧ e' 1 = .int .i64 ((mid : Int) + 1) ∧ e' 2 = .int .i64 b ∧ e' 3 = .int .i64 lim ∧ e' 8 = .bool (decide ((q : Int) ≤ (mid : Int) - a)) ∧ e' 9 = .bool ap) := by
   clear hq hmid hlen
   simp (disch := first | assumption | omega | (simp [*] <;> omega) | fail) [-getElem?_pos, List.getElem?_cons_zero, List.getElem?_cons_succ, pdBO, unblock, i_zz12_B1, dropS, p0, p1, p2, p3, p10, p11, p12, p13, hc, t1, w1, w2, w3, w4, c', hcall]
  obtain ⟨e', h1, s0, s1, s2, s3, s4, s5⟩ := hgoal
  refine ⟨e', decide ((q : Int) ≤ (mid : Int) - a), h1, ?_⟩
  rw [if_pos c]
  exact ⟨s0, s1, s2, s3, s4, s5⟩
 ·have c' : ¬ (mid : Int) - a < (b : Int) - mid := by omega
  rw [if_neg c] at hcall
  rw [show ((mid + 1 : Nat) : Int) = (mid : Int) + 1 by omega] at hcall
  have hgoal : ∃ e', fcode (vcall F nro) nro (dropS 8 pdBO) e (H d) = some (.normal, e', H L) ∧ (e' 0 = S ∧ e' 1 = .int .i64 a ∧ e' 2 = .int .i64 mid ∧ e' 3 = .int .i64 lim ∧ e' 8 = .bool (decide ((q : Int) ≤ (b : Int) - mid)) ∧ e' 9 = .bool ap) := by
   clear hq hmid hlen
   simp (disch := first | assumption | omega | (simp [*] <;> omega) | fail) [-getElem?_pos, List.getElem?_cons_zero, List.getElem?_cons_succ, pdBO, unblock, i_zz12_B1, dropS, p0, p1, p2, p3, p10, p11, p12, p13, hc, t1, w1, w2, w3, w4, c', hcall]
  obtain ⟨e', h1, s0, s1, s2, s3, s4, s5⟩ := hgoal
  refine ⟨e', decide ((q : Int) ≤ (b : Int) - mid), h1, ?_⟩
  rw [if_neg c]
  exact ⟨s0, s1, s2, s3, s4, s5⟩
end
theorem pdBO_eq : i_zz12_B1 = .block 1 pdBO := rfl
theorem floop_po (e : FE) (a b : Nat) (lim : Int) (wb wp : Bool) (p : PO S e a b lim wb wp) : [0, 1, 2, 3, 8, 9].map e = [S, .int .i64 a, .int .i64 b, .int .i64 lim, .bool wb, .bool wp] := by
 simp [p.e0, p.e1, p.e2, p.e3, p.e8, p.e9]
def PdqLO (nro : Nat) (S : Value) (cm : Nat → Nat → Int) (N : Nat) (H : Array Nat → VH) (a b : Nat) : Prop :=
 ∀ (d : Array Nat), d.size = N → Below (ltC cm) a b d → ∀ (lim : Int), 0 ≤ lim → lim ≤ 255 → ∀ (wb wp : Bool) (d0 : Array Nat), ∃ d', d'.size = N ∧ PermIn a b d d' ∧ SortedIn (ltC cm) a b d' ∧ floop (vcall F nro) nro [0, 1, 2, 3, 8, 9] i_zz12_B1 (H d0) [S, .int .i64 a, .int .i64 b, .int .i64 lim, .bool wb, .bool wp] (H d) = some (.ret, fl [], H d')
theorem PdqLO.call (E : SXO nro S P ag cm N H) {a b : Nat} (h : PdqLO nro S cm N H a b) (d : Array Nat) (hd : d.size = N) (hB : Below (ltC cm) a b d) (lim : Int) (hl : 0 ≤ lim) (hl2 : lim ≤ 255) :
  ∃ d', d'.size = N ∧ PermIn a b d d' ∧ SortedIn (ltC cm) a b d' ∧ vcall F nro k_zz12 [S, .int .i64 a, .int .i64 b, .int .i64 lim] (H d) = some (.tuple #[], H d') := by
 obtain ⟨d', h1, h2, h3, lp⟩ := h d hd hB lim hl hl2 true true d
 refine ⟨d', h1, h2, h3, ?_⟩
 have hc0 := fun q vs => E.base.clean0 d q vs
 clear h2 h3
 refine v_zz12 (by simp [i_zz12]) ?_
 rw [fbody_eq]
 simp (disch := first | assumption | omega | (simp [*] <;> omega) | fail) [-getElem?_pos, List.getElem?_cons_zero, List.getElem?_cons_succ, i_zz12, lp, hc0, fresults, fresL]
set_option maxHeartbeats 1000000 in
theorem pdqO_all (E : SXO nro S P ag cm N H) (hS : SWO (ltC cm)) (hN255 : N ≤ 255) : ∀ (n a b : Nat), b - a ≤ n → a ≤ b → b ≤ N → PdqLO nro S cm N H a b := by
 intro n
 induction n with
 | zero =>
  intro a b hn hab hb d hd hB lim hl hl2 wb wp d0
  have pe : PO S (fl ([0, 1, 2, 3, 8, 9].zip [S, .int .i64 a, .int .i64 b, .int .i64 lim, .bool wb, .bool wp])) a b lim wb wp := ⟨rfl, rfl, rfl, rfl, rfl, rfl⟩
  rcases pdqO_A E hS a b hab hb d hd lim wb wp _ pe with ⟨d', h1, h2, h3, h4⟩ | ⟨h1, _⟩
  ·refine ⟨d', h1, h2, h3, ?_⟩
   rw [floop_at pdBO_eq, fcode_block, fcode_parts (vcall F nro) nro 2 pdBO _ _ (by decide), h4]
   rfl
  ·omega
 | succ n ih =>
  intro a b hn hab hb d hd hB lim hl hl2 wb wp d0
  have pe : PO S (fl ([0, 1, 2, 3, 8, 9].zip [S, .int .i64 a, .int .i64 b, .int .i64 lim, .bool wb, .bool wp])) a b lim wb wp := ⟨rfl, rfl, rfl, rfl, rfl, rfl⟩
  obtain ⟨env, henv⟩ : ∃ env, env = fl ([0, 1, 2, 3, 8, 9].zip [S, .int .i64 a, .int .i64 b, .int .i64 lim, .bool wb, .bool wp]) := ⟨_, rfl⟩
  rw [floop_at pdBO_eq, fcode_block, ← henv]
  rw [← henv] at pe
  rw [fcode_parts (vcall F nro) nro 2 pdBO _ _ (by decide)]
  rcases pdqO_A E hS a b hab hb d hd lim wb wp _ pe with ⟨d', h1, h2, h3, h4⟩ | ⟨h12, hl3, eA, fA, peA, pA12⟩
  ·refine ⟨d', h1, h2, h3, ?_⟩
   rw [h4]
   rfl
  rw [← fcode_parts (vcall F nro) nro 2 pdBO _ _ (by decide), seq_step 2 (by decide) fA]
  obtain ⟨eB, d1, limB, fB, s1, q1, hlB, peB, pB12⟩ := pdqO_B E hN255 a b hab hb d hd lim (by omega) hl2 wb wp eA _ peA pA12
  rw [seq_step 0 (by decide) fB]
  have B1 := hB.perm (by omega) q1
  obtain ⟨eC, d2, m, t, fC, s2, q2, hm, peC, pC12, pC13, pC14⟩ := pdqO_C E a b (by omega) hb d1 s1 limB wb wp eB _ peB pB12
  have t1 : dropS (0 + 1) (dropS (2 + 1) pdBO) = dropS 4 pdBO := rfl
  rw [t1, seq_step 1 (by decide) fC]
  have B2 := B1.perm (by omega) q2
  have t2 : dropS (1 + 1) (dropS 4 pdBO) = dropS 6 pdBO := rfl
  rw [t2]
  have Q2 := permIn_trans _ _ _ a b q1 q2
  rcases pdqO_D E hS a b (by omega) hb d2 s2 B2 limB wb wp eC _ _ t peC pC12 pC13 pC14 with ⟨d', h1, h2, h3, h4⟩ | ⟨eD, d3, fD, s3, q3, peD, pD12, pD13⟩
  ·refine ⟨d', h1, permIn_trans _ _ _ a b Q2 h2, h3, ?_⟩
   rw [seq_ret 0 (by decide) (by simp) h4]
   rfl
  rw [seq_step 0 (by decide) fD]
  have t3 : dropS (0 + 1) (dropS 6 pdBO) = dropS 7 pdBO := rfl
  rw [t3]
  have B3 := B2.perm (by omega) q3
  have Q3 := permIn_trans _ _ _ a b Q2 q3
  rcases pdqO_E E a b m hm.1 hm.2 hb d3 s3 limB wb wp eD _ peD pD12 pD13 with ⟨ha0, hlt, eE, fE, peE⟩ | ⟨eE, fE, peE, pE12, pE13⟩
  ·-- equal elements to the left
   obtain ⟨g1, g2, g3, g4, g5⟩ := round_eq hS (partitionEqual_holds (ltC cm)) (d3 := d3) (d4 := (partitionEqual (ltC cm) d3 a b m).2) (mid := (partitionEqual (ltC cm) d3 a b m).1) ha0 hm.1 hm.2 (by omega) B3 hlt rfl
   obtain ⟨r, hr⟩ : ∃ r, r = partitionEqual (ltC cm) d3 a b m := ⟨_, rfl⟩
   rw [← hr] at g1 g2 g3 g4 g5 fE peE
   rw [seq_ret 0 (by decide) (by simp) fE]
   obtain ⟨d', i1, i2, i3, i4⟩ := ih r.1 b (by omega) g2 hb r.2 (by omega) g4 limB hlB.1 hlB.2 wb wp d0
   obtain ⟨z1, z2⟩ := g5 d' i2 i3
   refine ⟨d', i1, permIn_trans _ _ _ a b Q3 z1, z2, ?_⟩
   rw [← i4]
   show kloop (vcall F nro) nro [0, 1, 2, 3, 8, 9] i_zz12_B1 (H d0) (kclean (H d0) ([0, 1, 2, 3, 8, 9].map eE) (H r.2)) = _
   rw [floop_po eE r.1 b limB wb wp peE]
   have hc := E.base.clean0 d0 r.2
   have oS := E.base.oS
   clear g1 g2 g3 g4 g5 i1 i2 i3 i4 z1 z2 hr
   simp (disch := first | assumption | omega | (simp [*] <;> omega) | fail) [-getElem?_pos, List.getElem?_cons_zero, List.getElem?_cons_succ, hc, oS]
  ·rw [seq_step 0 (by decide) fE]
   have t4 : dropS (0 + 1) (dropS 7 pdBO) = dropS 8 pdBO := rfl
   rw [t4]
   have hpt := c_ord_part E.base d3 s3 a b m hm.1 hm.2 hb
   obtain ⟨r, hr⟩ : ∃ r, r = partition (ltC cm) d3 a b m := ⟨_, rfl⟩
   rw [← hr] at hpt
   obtain ⟨mid, ap, d4⟩ := r
   simp only at hpt
   obtain ⟨g1, g2, g3, g4, g5, g6, g7⟩ := round_part hS (partition_holds (ltC cm)) hm.1 hm.2 (show b ≤ d3.size by omega) B3 hr.symm
   by_cases c : mid - a < b - mid
   ·obtain ⟨L, l1, l2, l3, l4⟩ := (ih a mid (by omega) g1 (by omega)).call E d4 (by omega) g4 limB hlB.1 hlB.2
    obtain ⟨g8, g9⟩ := g6 L l2 l3
    obtain ⟨eF, wbF, fF, peF⟩ := pdqO_F E a b m mid ap d3 d4 L limB wb wp eE (b - a) (by have := E.base.hN; omega) ⟨g1, g2, hb⟩ peE pE12 pE13 hpt (by rw [if_pos c]; exact l4)
    rw [if_pos c] at peF
    rw [fF]
    obtain ⟨d', i1, i2, i3, i4⟩ := ih (mid + 1) b (by omega) (by omega) hb L l1 g8 limB hlB.1 hlB.2 wbF ap d0
    obtain ⟨z1, z2⟩ := g9 d' i2 i3
    refine ⟨d', i1, permIn_trans _ _ _ a b Q3 z1, z2, ?_⟩
    rw [← i4]
    show kloop (vcall F nro) nro [0, 1, 2, 3, 8, 9] i_zz12_B1 (H d0) (kclean (H d0) ([0, 1, 2, 3, 8, 9].map eF) (H L)) = _
    rw [floop_po eF (mid + 1) b limB wbF ap peF]
    have hc := E.base.clean0 d0 L
    have oS := E.base.oS
    clear g1 g2 g3 g4 g5 g6 g7 g8 g9 i1 i2 i3 i4 z1 z2 hr
    simp (disch := first | assumption | omega | (simp [*] <;> omega) | fail) [-getElem?_pos, List.getElem?_cons_zero, List.getElem?_cons_succ, hc, oS]
   ·obtain ⟨L, l1, l2, l3, l4⟩ := (ih (mid + 1) b (by omega) (by omega) hb).call E d4 (by omega) g5 limB hlB.1 hlB.2
    obtain ⟨g8, g9⟩ := g7 L l2 l3
    obtain ⟨eF, wbF, fF, peF⟩ := pdqO_F E a b m mid ap d3 d4 L limB wb wp eE (b - a) (by have := E.base.hN; omega) ⟨g1, g2, hb⟩ peE pE12 pE13 hpt (by rw [if_neg c]; exact l4)
    rw [if_neg c] at peF
    rw [fF]
    obtain ⟨d', i1, i2, i3, i4⟩ := ih a mid (by omega) g1 (by omega) L l1 g8 limB hlB.1 hlB.2 wbF ap d0
    obtain ⟨z1, z2⟩ := g9 d' i2 i3
    refine ⟨d', i1, permIn_trans _ _ _ a b Q3 z1, z2, ?_⟩
    rw [← i4]
    show kloop (vcall F nro) nro [0, 1, 2, 3, 8, 9] i_zz12_B1 (H d0) (kclean (H d0) ([0, 1, 2, 3, 8, 9].map eF) (H L)) = _
    rw [floop_po eF a mid limB wbF ap peF]
    have hc := E.base.clean0 d0 L
    have oS := E.base.oS
    clear g1 g2 g3 g4 g5 g6 g7 g8 g9 i1 i2 i3 i4 z1 z2 hr
    simp (disch := first | assumption | omega | (simp [*] <;> omega) | fail) [-getElem?_pos, List.getElem?_cons_zero, List.getElem?_cons_succ, hc, oS]
end

/- slices.Sort of numbers, up to 255 of them. -/
section
open Go Go.Sort
section
variable {nro : Nat} {S : Value} {P : Int → Value} {ag : Nat → Value} {cm : Nat → Nat → Int} {N : Nat} {H : Array Nat → VH}
theorem c_ord_Sort (E : SXO nro S P ag cm N H) (hS : SWO (ltC cm)) (hN255 : N ≤ 255) (d : Array Nat) (hd : d.size = N) :
  ∃ d', d'.size = N ∧ PermIn 0 N d d' ∧ SortedIn (ltC cm) 0 N d' ∧ vcall F nro k_zz18 [S] (H d) = some (.tuple #[], H d') := by
 obtain ⟨y, y1, _, _, e1⟩ := c_bits_Len64x (nro := nro) N hN255 (H d)
 have e2 : vcall F nro k_zz64 [.int .u64 N] (H d) = some (.int .i64 y, H d) := by
  refine v_zz64 (by simp [i_zz64]) ?_
  rw [fbody_eq]
  simp (disch := first | assumption | omega | (simp [*] <;> omega) | fail) [i_zz64, e1]
 obtain ⟨d', h1, h2, h3, h4⟩ := (pdqO_all E hS hN255 N 0 N (by omega) (by omega) (Nat.le_refl _)).call E d hd (.inl rfl) y (by omega) (by omega)
 refine ⟨d', h1, h2, h3, ?_⟩
 have vl := E.base.vln d hd
 have hc0 := fun q vs => E.base.clean0 d q vs
 have w1 : IntKind.u64.wrap (N : Int) = N := wrapu64 (by omega) (by omega)
 simp only [Int.natCast_zero] at h4
 clear h2 h3
 refine v_zz18 (by simp [i_zz18]) ?_
 rw [fbody_eq]
 simp (disch := first | assumption | omega | (simp [*] <;> omega) | fail) [-getElem?_pos, List.getElem?_cons_zero, List.getElem?_cons_succ, i_zz18, vl, w1, e2, h4, hc0, fresults, fresL]
end
section
variable {nro : Nat}
def hpI (G : VH) (blk : Nat) (f : Nat → Int) (d : Array Nat) : VH := G.set blk ⟨1, ints (d.toList.map f)⟩
theorem se_ints {G : VH} {blk : Nat} (hb : blk < G.length) (hnb : nro ≤ blk) (f : Nat → Int) {N : Nat} (hN : N ≤ 1000) :
  SO nro (.slice (some ⟨blk, 0, none⟩) N N) (fun x => .pointer (some ⟨blk, x.toNat, some N⟩)) (fun j => .int .i64 (f j)) (fun x y => f x - f y) N (hpI G blk f) := by
 have hlen : ∀ d, (hpI G blk f d).length = G.length := fun d => by simp [hpI]
 have hat : ∀ d, (hpI G blk f d)[blk]? = some ⟨1, ints (d.toList.map f)⟩ := fun d => by unfold hpI; rw [List.getElem?_set, if_pos rfl, if_pos hb]
 refine ⟨fun d d' => by rw [hlen, hlen], fun d => by rw [hlen]; omega, ?_, ?_, ?_, ?_, ?_, ?_, ?_, hN⟩
 ·intro n hln
  rw [hlen] at hln
  intro r hr
  simp [trefs, vrefs, crefs, arefs] at hr
  omega
 ·intro d x hd h1 h2
  unfold vidx
  simp only [hat]
  simp [ints, hd, h1, h2]
 ·intro d x hd h1 h2
  have hx : x.toNat < d.toList.length := by rw [Array.length_toList (xs := d)]; omega
  have hx' : x.toNat < d.size := by omega
  unfold vload vget
  simp only [hat]
  rw [if_pos ⟨by simp [ints, hd], by simp [ints]; omega⟩]
  have : (List.take 1 (List.drop x.toNat (ints (d.toList.map f)))) = [.int .i64 (f (getI d x))] := by
   rw [List.drop_eq_getElem_cons (by simp [ints]; omega)]
   simp [ints, getI, hx']
  simp only [this]
  rfl
 ·intro d x v hd h1 h2
  have hx' : x.toNat < d.size := by omega
  unfold vstore
  simp only [hat]
  rw [if_pos ⟨hnb, by simp [ints, hd], by simp [ints]; omega, rfl, rfl⟩]
  congr 1
  unfold hpI setI
  rw [Array.toList_setIfInBounds, List.set_set]
  congr 2
  unfold splice
  simp only [vcells_int, List.length_singleton]
  rw [List.map_set, ints, ints, List.map_set, List.set_eq_take_append_cons_drop, if_pos (by simp; omega)]
  simp
 ·intro d x y
  rw [c_cmp_Less]
  congr 4
  simp only [eq_iff_iff]
  omega
 ·intro d d'
  refine ⟨by rw [hlen, hlen], fun i p hp => ?_⟩
  by_cases hi : i = blk
  ·subst hi
   rw [hat] at hp
   cases hp
   right
   exact flatO_ints _ 1 _
  ·left
   rw [← hp]
   unfold hpI
   rw [List.getElem?_set, if_neg (Ne.symm hi), List.getElem?_set, if_neg (Ne.symm hi)]
 ·intro d hd
  unfold vlen
  simp only [hat]
  simp [ints, hd]
theorem swo_sub (f : Nat → Int) : SWO (ltC fun x y => f x - f y) := by
 refine ⟨fun x => ?_, fun x y z h1 h2 => ?_, fun x y z h1 h2 => ?_⟩
 ·simp [ltC]
 ·simp only [ltC, decide_eq_true_eq] at h1 h2 ⊢; omega
 ·simp only [ltC, decide_eq_false_iff_not] at h1 h2 ⊢; omega
theorem perm_sorted_eq : ∀ (xs ys : List Int), xs.Perm ys → xs.Pairwise (· ≤ ·) → ys.Pairwise (· ≤ ·) → xs = ys := fun xs ys h h1 h2 => h.eq_of_pairwise (fun a b _ _ h3 h4 => by omega) h1 h2
theorem srtB_pw {xs : List Int} : SrtB 0 xs.length xs ↔ xs.Pairwise (· ≤ ·) := by
 rw [List.pairwise_iff_getElem]
 constructor
 ·intro h i j hi hj hij
  have := h i j (by omega) hij hj
  rwa [getD_at xs hi, getD_at xs hj] at this
 ·intro h p q _ hpq hq
  rw [getD_at xs hq, getD_at xs (show p < xs.length by omega)]
  exact h p q _ _ hpq
theorem c_Sort {G : VH} {blk : Nat} {xs : List Int} (hb : G[blk]? = some ⟨1, ints xs⟩) (hnb : nro ≤ blk) (h255 : xs.length ≤ 255) :
  vcall F nro k_zz18 [.slice (some ⟨blk, 0, none⟩) xs.length xs.length] G = some (.tuple #[], G.set blk ⟨1, ints (insS 0 xs.length xs)⟩) := by
 have hlt := (List.getElem?_eq_some_iff.mp hb).1
 obtain ⟨f, hf⟩ : ∃ f : Nat → Int, f = fun i => xs.getD i 0 := ⟨_, rfl⟩
 have X : SXO nro _ _ _ _ xs.length (hpI G blk f) := ⟨se_ints hlt hnb f (by omega), fun o => by
  have : (fun d => hpI G blk f d ++ [o]) = hpI (G ++ [o]) blk f := by
   funext d
   unfold hpI
   rw [List.set_append_left _ _ hlt]
  rw [this]
  exact se_ints (by simp; omega) hnb f (by omega)⟩
 obtain ⟨d', s1, s2, s3, s4⟩ := c_ord_Sort X (swo_sub f) h255 (Array.range xs.length) (by simp)
 have hx : (List.range xs.length).map f = xs := by
  rw [hf]
  apply List.ext_getElem (by simp)
  intro i p1 p2
  simp [List.getD_eq_getElem?_getD, p2]
 have h0 : hpI G blk f (Array.range xs.length) = G := by
  unfold hpI
  rw [Array.toList_range, hx]
  apply List.ext_getElem? fun i => ?_
  rw [List.getElem?_set]
  by_cases e : blk = i
  ·subst e; rw [if_pos rfl, if_pos hlt, hb]
  ·rw [if_neg e]
 have hperm : d'.toList.Perm (List.range xs.length) := by
  have := s2.2.2
  rw [Array.extract_eq_self_of_le (by omega), Array.extract_eq_self_of_le (by simp)] at this
  simpa using this
 have hp := hperm.map f
 rw [hx] at hp
 have hs : (d'.toList.map f).Pairwise (· ≤ ·) := by
  rw [List.pairwise_map, List.pairwise_iff_getElem]
  intro i j hi hj hij
  have hs := s3 i j (by omega) hij (by rw [← s1]; simpa using hj)
  have hi' : i < d'.size := by simpa using hi
  have hj' : j < d'.size := by simpa using hj
  have gi : d'[i]! = d'.toList[i] := by simp [hi']
  have gj : d'[j]! = d'.toList[j] := by simp [hj']
  rw [gi, gj] at hs
  unfold ltC at hs
  simp at hs
  simp only [Array.getElem_toList]
  omega
 have e : d'.toList.map f = insS 0 xs.length xs := by
  have q := insS_perm (a := 0) (b := xs.length) (xs := xs) (Nat.le_refl _)
  have q2 := insS_sorted (a := 0) (b := xs.length) (xs := xs) (Nat.le_refl _)
  refine perm_sorted_eq _ _ (hp.trans q.symm) hs ?_
  rw [← q.length_eq] at q2
  rw [q.length_eq] at q2
  exact srtB_pw.mp (by rw [q.length_eq]; exact q2)
 rw [h0] at s4
 unfold hpI at s4
 rw [e] at s4
 exact s4
end
end

/- Refining: the numbers of all vertices of all graphs. -/
section
open Go
theorem Sl.nj {h : VH} {v : Value} {cs : List Value} (hs : Sl h v cs) : isJunk v = false := by
 rcases hs.inv with ⟨rfl, _⟩ | ⟨rfl, _⟩ | ⟨a, n, tot, o, rfl, _⟩ <;> rfl
end

/- Refining, in plain terms: how many colours after a round. -/
section
open Go Go.Sort
theorem inj_sum (m p : Nat) (f : Nat → Nat) (hf : ∀ x, x < m → f x < p) : (m : Int) = sumF (fun y => sumF (fun x => oneIf (f x = y)) m) p := by
 rw [← sumF_swap (fun x y => oneIf (f x = y)) p m]
 have : ∀ x, x < m → sumF (fun y => oneIf (f x = y)) p = 1 := fun x hx => by
  rw [sumF_one (k := f x) (hf x hx) (fun i _ hi => one_neg fun h => hi h.symm)]
  exact one_pos rfl
 rw [sumF_congr (g := fun _ => 1 * 1) this]
 clear this hf
 induction m with
 | zero => rfl
 | succ m ih => rw [sumF, ← ih]; omega
theorem sumF_const (c : Int) : ∀ n : Nat, sumF (fun _ => c) n = n * c
 | 0 => by simp [sumF]
 | n + 1 => by rw [sumF, sumF_const c n]; simp [Int.add_mul]
theorem inj_le (m p : Nat) (f : Nat → Nat) (hf : ∀ x, x < m → f x < p) (hi : ∀ x y, x < m → y < m → f x = f y → x = y) : m ≤ p := by
 have h1 := inj_sum m p f hf
 have h2 : sumF (fun y => sumF (fun x => oneIf (f x = y)) m) p ≤ sumF (fun _ => 1) p := sumF_le fun y _ => sumF_most fun i j hi' hj h3 h4 => hi i j hi' hj (h3.trans h4.symm)
 rw [sumF_const] at h2
 omega
theorem inj_sur (m : Nat) (f : Nat → Nat) (hf : ∀ x, x < m → f x < m) (hi : ∀ x y, x < m → y < m → f x = f y → x = y) (y : Nat) (hy : y < m) : ∃ x, x < m ∧ f x = y := by
 apply Classical.byContradiction
 intro hno
 have h1 := inj_le m (m - 1) (fun x => if f x < y then f x else f x - 1) (fun x hx => by
  have := hf x hx
  have : f x ≠ y := fun h => hno ⟨x, hx, h⟩
  try simp only
  split <;> omega) (fun x z hx hz h => by
  have h2 : f x ≠ y := fun h => hno ⟨x, hx, h⟩
  have h3 : f z ≠ y := fun h => hno ⟨z, hz, h⟩
  refine hi x z hx hz ?_
  try simp only at h
  split at h <;> split at h <;> omega)
 omega
end

/- Equal lists, the first place of a number. -/
section
open Go
variable {nro : Nat}
theorem ne_iff_ex (xs ys : List Int) (hl : xs.length = ys.length) : (∃ j, 0 ≤ j ∧ j < xs.length ∧ xs.getD j 0 ≠ ys.getD j 0) ↔ xs ≠ ys := by
 constructor
 ·rintro ⟨j, _, _, h⟩ e
  exact h (by rw [e])
 ·intro hne
  apply Classical.byContradiction
  intro hno
  apply hne
  apply List.ext_getElem hl
  intro k h1 h2
  apply Classical.byContradiction
  intro hk
  exact hno ⟨k, by omega, h1, by simpa [List.getD_eq_getElem?_getD, h1, h2] using hk⟩
open Classical in
theorem c_slices_Equal (s t : Value) (xs ys : List Int) (h : VH) (hs : Sli h s xs) (ht : Sli h t ys) (hx : xs.length ≤ 1000) :
  vcall F nro k_zz17 [s, t] h = some (.bool (decide (xs = ys)), h) := by
 refine v_zz17 (by simp [i_zz17]) ?_
 rw [fbody_eq]
 have hso := hs.old
 have hto := ht.old
 have vl := hs.vlen
 have vl2 := ht.vlen
 by_cases hl : xs.length = ys.length
 ·have lp := for_find (call := vcall F nro) (nro := nro) (live := [0, 1, 12, 13]) (c := i_zz17_B1) (h0 := h) (n := xs.length) (fun i => [s, t, .int .i64 xs.length, .int .i64 i]) h (fun i => xs.getD i 0 ≠ ys.getD i 0) (some (.ret, fl [(4, .bool false)], h)) (some (.exit 0, fl [], h)) (fun i hi hi2 => ?_) ?_ 0 (by omega)
  ·simp only [Int.natCast_zero, ne_iff_ex xs ys hl] at lp
   have hl' : (xs.length : Int) = ys.length := by omega
   by_cases e : xs = ys
   ·rw [if_neg (by simp [e])] at lp
    rw [decide_eq_true e]
    clear hs ht e hl
    rw [hl'] at lp vl
    simp (disch := first | assumption | omega | (simp [*] <;> omega) | fail) [i_zz17, vl, vl2, lp, fresults, fresL, fres1]
   ·rw [if_pos e] at lp
    rw [decide_eq_false e]
    clear hs ht hl
    rw [hl'] at lp vl
    simp (disch := first | assumption | omega | (simp [*] <;> omega) | fail) [i_zz17, vl, vl2, lp, fresults, fresL, fres1]
  ·have hi3 : i < ys.length := by omega
   have x1 := hs.vidx (k := .i64) (j := (i : Int)) (by omega) (by omega)
   have x2 := hs.vload hi
   have y1 := ht.vidx (k := .i64) (j := (i : Int)) (by omega) (by omega)
   have y2 := ht.vload hi3
   have g1 : xs.getD i 0 = xs[i] := getD_at xs hi
   have g2 : ys.getD i 0 = ys[i] := getD_at ys hi3
   rw [g1, g2]
   have w1 : IntKind.i64.wrap ((i : Int) + 1) = (i : Int) + 1 := wrap64 (by omega) (by omega)
   obtain ⟨a, ha⟩ : ∃ a, a = xs[i] := ⟨_, rfl⟩
   obtain ⟨b, hb⟩ : ∃ b, b = ys[i] := ⟨_, rfl⟩
   rw [← ha] at x2 ⊢
   rw [← hb] at y2 ⊢
   rw [floop_at i_zz17_B1.eq_1]
   clear hs ht g1 g2 ha hb hl vl vl2
   constructor <;> intro hq <;> simp (disch := first | assumption | omega | (simp [*] <;> omega) | fail) [x1, x2, y1, y2, w1, hi2, hq]
  ·rw [floop_at i_zz17_B1.eq_1]
   simp (disch := first | assumption | omega | (simp [*] <;> omega) | fail) []
 ·have e : xs ≠ ys := fun e => hl (by rw [e])
  have hl' : ¬ (xs.length : Int) = ys.length := by omega
  rw [decide_eq_false e]
  clear hs ht hl
  simp (disch := first | assumption | omega | (simp [*] <;> omega) | fail) [i_zz17, vl, vl2, hl', fresults, fresL, fres1]
end

/- Renumbered graphs, by the program. -/
section
open Go
variable {nro : Nat}
def renAdj (rows ps : List Int) (n : Nat) (x y : Nat) : Prop := ∃ a b, a < n ∧ b < n ∧ rbit rows a b = true ∧ (ps.getD a 0).toNat = x ∧ (ps.getD b 0).toNat = y
structure Perm0 (n : Nat) (ps : List Int) : Prop where
 len : ps.length = n
 bd : ∀ v, v < n → 0 ≤ ps.getD v 0 ∧ ps.getD v 0 < n
 inj : ∀ v w, v < n → w < n → ps.getD v 0 = ps.getD w 0 → v = w
theorem Perm0.nodup {n : Nat} {ps : List Int} (P : Perm0 n ps) : ps.Nodup := by
 rw [List.nodup_iff_pairwise_ne, List.pairwise_iff_getElem]
 intro i j hi hj hij e
 have := P.inj i j (by have := P.len; omega) (by have := P.len; omega) (by rw [getD_at ps hi, getD_at ps hj]; exact e)
 omega
theorem Perm0.perm {n : Nat} {ps : List Int} (P : Perm0 n ps) : ps.Perm (rng n) := by
 have hrl : (rng n).Nodup := by
  unfold rng
  rw [List.nodup_iff_pairwise_ne, List.pairwise_map]
  exact List.pairwise_lt_range.imp fun h => by omega
 refine (List.perm_ext_iff_of_nodup P.nodup hrl).mpr fun x => ?_
 have hm : x ∈ rng n ↔ 0 ≤ x ∧ x < n := by
  unfold rng
  rw [List.mem_map]
  constructor
  ·rintro ⟨a, ha, rfl⟩
   have := List.mem_range.mp ha
   omega
  ·rintro ⟨h1, h2⟩
   exact ⟨x.toNat, List.mem_range.mpr (by omega), by omega⟩
 rw [hm]
 constructor
 ·intro hx
  obtain ⟨i, hi, rfl⟩ := List.mem_iff_getElem.mp hx
  have := P.bd i (by have := P.len; omega)
  rwa [getD_at ps hi] at this
 ·rintro ⟨h1, h2⟩
  obtain ⟨v, hv, e⟩ := inj_sur n (fun v => (ps.getD v 0).toNat) (fun v hv => by have := P.bd v hv; omega) (fun v w hv hw e => by
   have a := P.bd v hv
   have b := P.bd w hw
   exact P.inj v w hv hw (by omega)) x.toNat (by omega)
  have a := P.bd v hv
  have hvl : v < ps.length := by have := P.len; omega
  rw [getD_at ps hvl] at e a
  have : x = ps[v] := by omega
  rw [this]
  exact List.getElem_mem hvl
theorem rng_srt (n : Nat) : (rng n).Pairwise (· ≤ ·) := by
 unfold rng
 rw [List.pairwise_map]
 exact List.pairwise_lt_range.imp fun h => by omega
theorem Perm0.sorted {n : Nat} {ps : List Int} (P : Perm0 n ps) : insS 0 ps.length ps = rng n := by
 have q := insS_perm (a := 0) (b := ps.length) (xs := ps) (Nat.le_refl _)
 have q2 := insS_sorted (a := 0) (b := ps.length) (xs := ps) (Nat.le_refl _)
 rw [← q.length_eq] at q2
 rw [q.length_eq] at q2
 exact perm_sorted_eq _ _ (q.trans P.perm) (srtB_pw.mp (by rw [q.length_eq]; exact q2)) (rng_srt n)
structure RF (H : VH) (b0 N i7 : Nat) (t : Value) (ps : List Int) : Prop where
 b : ∃ q0, H[b0]? = some ⟨1, ints q0⟩
 h7 : H[i7]? = some ⟨0, [.int .i64 N, .slice (some ⟨b0, 0, none⟩) N N]⟩
 n7 : i7 ≠ b0
 t : ∀ r, Sli (H.set b0 ⟨1, ints r⟩) t ps
def rnE (ps : List Int) (e : List Int) (x y : Nat) : Prop := ∃ u w : Nat, e = [(u : Int), (w : Int)] ∧ joins (ps.getD u 0).toNat (ps.getD w 0).toNat x y
set_option maxHeartbeats 1000000 in
theorem l_impl_Renumber (H : VH) (b0 N i7 : Nat) (t p4 q : Value) (es : List (List Int)) (vs : List Value) (ps : List Int) (hP : RF H b0 N i7 t ps) (P : Perm0 N ps) (l1 : LLq H b0 q es vs) (hes : ∀ e ∈ es, ∃ u w : Nat, u < N ∧ w < N ∧ u ≠ w ∧ e = [(u : Int), (w : Int)]) (h4 : Old H.length p4) (hn : nro ≤ b0) (hN2 : N ≤ 62) (hl : es.length ≤ 100000)
  (r0 : List Int) (A : Nat → Nat → Prop) (hA : IsAdj N r0 A) :
  ∃ r, IsAdj N r (fun x y => A x y ∨ ∃ e ∈ es, rnE ps e x y) ∧ floop (vcall F nro) nro [1, 4, 7, 29, 30, 31] i_zz29_B1 H [t, p4, .pointer (some ⟨i7, 0, some 2⟩), q, .int .i64 es.length, .int .i64 0] (H.set b0 ⟨1, ints r0⟩) =
   some (.exit 0, fl [(4, p4), (7, .pointer (some ⟨i7, 0, some 2⟩))], H.set b0 ⟨1, ints r⟩) := by
 obtain ⟨q0, hb⟩ := hP.b
 have hbl := (List.getElem?_eq_some_iff.mp hb).1
 have o7 : i7 < H.length := (List.getElem?_eq_some_iff.mp hP.h7).1
 have po7 : Old H.length (.pointer (some ⟨i7, 0, some 2⟩)) := fun r hr => by simp [trefs, vrefs, crefs, arefs] at hr; omega
 have oq : Old H.length q := by have := (l1.out r0).old; simpa using this
 have ot : Old H.length t := by have := (hP.t r0).old; simpa using this
 refine Exists.elim (for_upR (call := vcall F nro) (nro := nro) (live := [1, 4, 7, 29, 30, 31]) (c := i_zz29_B1) (h0 := H) (n := es.length) (fun k (_ : List Int) => [t, p4, .pointer (some ⟨i7, 0, some 2⟩), q, .int .i64 es.length, .int .i64 k]) (fun _ r => H.set b0 ⟨1, ints r⟩)
  (fun k r => IsAdj N r (fun x y => A x y ∨ ∃ e ∈ es.take k, rnE ps e x y)) (fun r => some (.exit 0, fl [(4, p4), (7, .pointer (some ⟨i7, 0, some 2⟩))], H.set b0 ⟨1, ints r⟩)) ?_ ?_ 0 r0 (Nat.zero_le _) (hA.congr fun x y _ => by simp)) ?_
 ·intro k r hk hk2 hI
  obtain ⟨u, w, hu, hw, hne, he⟩ := hes _ (List.getElem_mem hk)
  have hge : es.getD k [] = es[k] := by rw [List.getD_eq_getElem?_getD, List.getElem?_eq_getElem hk]; rfl
  have hkv : k < vs.length := by rw [l1.len]; exact hk
  have s6 := l1.out r
  have f6 := l1.inn k hkv r
  rw [hge, he] at f6
  have st := hP.t r
  have hpl := P.len
  have hul : u < ps.length := by omega
  have hwl : w < ps.length := by omega
  have ru := P.bd u hu
  have rw' := P.bd w hw
  have hpn : ps.getD u 0 ≠ ps.getD w 0 := fun e => hne (P.inj u w hu hw e)
  have hput := c_zz53 (nro := nro) N b0 N (ps.getD u 0) (ps.getD w 0) r (H.set b0 ⟨1, ints r⟩) (hget_set0 hb _) hI.1 hn ru.1 (by omega) rw'.1 (by omega) hN2
  rw [if_neg hpn, List.set_set] at hput
  have hI2 := hI.put2 (a := ps.getD u 0) (b := ps.getD w 0) ru.1 (by omega) rw'.1 (by omega) hN2
  refine ⟨put2 r (ps.getD u 0) (ps.getD w 0), hI2.congr fun x y _ => ?_, ?_⟩
  ·rw [List.take_succ_eq_append_getElem hk]
   constructor
   ·rintro ((h | ⟨e, h1, h2⟩) | h)
    ·exact .inl h
    ·exact .inr ⟨e, List.mem_append_left _ h1, h2⟩
    ·exact .inr ⟨es[k], List.mem_append_right _ (List.mem_singleton.mpr rfl), u, w, he, h⟩
   ·rintro (h | ⟨e, h1, h2⟩)
    ·exact .inl (.inl h)
    ·rcases List.mem_append.mp h1 with h1 | h1
     ·exact .inl (.inr ⟨e, h1, h2⟩)
     ·rw [List.mem_singleton] at h1
      obtain ⟨u', w', e1, e2⟩ := h2
      rw [h1, he] at e1
      simp at e1
      obtain ⟨e3, e4⟩ := e1
      have : u' = u := by omega
      have : w' = w := by omega
      subst u' w'
      exact .inr e2
  have x1 := s6.vidx (k := .i64) (j := (k : Int)) (by omega) (by rw [l1.len]; omega)
  have x2 := s6.vload hkv
  have y1 := f6.vidx (k := .i64) (j := 0) (by omega) (by simp)
  have y2 := f6.vload (j := 0) (by simp)
  have y3 := f6.vidx (k := .i64) (j := 1) (by omega) (by simp)
  have y4 := f6.vload (j := 1) (by simp)
  have z1 := st.vidx (k := .i64) (j := (u : Int)) (by omega) (by omega)
  have z2 := st.vload hul
  have z3 := st.vidx (k := .i64) (j := (w : Int)) (by omega) (by omega)
  have z4 := st.vload hwl
  rw [← getD_at ps hul] at z2
  rw [← getD_at ps hwl] at z4
  have h7 : (H.set b0 ⟨1, ints r⟩)[i7]? = some ⟨0, [.int .i64 N, .slice (some ⟨b0, 0, none⟩) N N]⟩ := by
   rw [List.getElem?_set_ne (fun e => hP.n7 e.symm)]; exact hP.h7
  have w3 : IntKind.i64.wrap ((k : Int) + 1) = (k : Int) + 1 := wrap64 (by omega) (by omega)
  obtain ⟨r', hr'⟩ : ∃ r', r' = put2 r (ps.getD u 0) (ps.getD w 0) := ⟨_, rfl⟩
  rw [← hr'] at hput ⊢
  have hcl := fun (vs : List Value) => cleanup_upd (L := []) ((Upd.rfl' H).set' (b := b0) (o := ⟨1, ints r'⟩) (flatO_ints _ _ _)) (vs := vs)
  simp only [List.append_nil] at hcl
  simp only [Int.toNat_natCast, Int.toNat_zero, Int.toNat_one, List.getElem_cons_zero, List.getElem_cons_succ] at x1 y1 y2 y3 y4 z1 z3
  generalize ps.getD u 0 = a at z2 hput
  generalize ps.getD w 0 = b at z4 hput
  generalize vs[k] = vk at x2 y1 y2 y3 y4
  rw [floop_at i_zz29_B1.eq_1]
  clear hI hI2 hr' s6 f6 st hP P l1 hes hA he hge ru rw' hpn hb
  simp (disch := first | assumption | omega | (simp [*] <;> omega) | fail) [-getElem?_pos, List.getElem?_cons_zero, List.getElem?_cons_succ, hk, hk2, x1, x2, y1, y2, y3, y4, z1, z2, z3, z4, h7, hput, w3, hcl, po7, oq, ot, h4]
 ·intro r _
  rw [floop_at i_zz29_B1.eq_1]
  simp (disch := first | assumption | omega | (simp [*] <;> omega) | fail) [-getElem?_pos, List.getElem?_cons_zero, List.getElem?_cons_succ, ]
 ·rintro r ⟨h1, h2⟩
  rw [List.take_length] at h1
  exact ⟨r, h1, h2⟩
theorem ren_done {n : Nat} {rows ps r : List Int} (g : GV n rows) (h : IsAdj n r (fun x y => False ∨ ∃ e ∈ edgesF rows n 0, rnE ps e x y)) : IsAdj n r (renAdj rows ps n) := h.congr fun x y _ => by
 unfold renAdj rnE joins
 constructor
 ·rintro (h | ⟨e, he, u, w, rfl, h⟩)
  ·exact h.elim
  ·obtain ⟨u', w', _, h2, h3, h4, h5⟩ := (edgesF_mem rows n 0 _).mp he
   simp at h5
   have e1 : u = u' := by omega
   have e2 : w = w' := by omega
   subst e1 e2
   rcases h with ⟨rfl, rfl⟩ | ⟨rfl, rfl⟩
   ·exact ⟨u, w, by omega, h3, h4, rfl, rfl⟩
   ·exact ⟨w, u, h3, by omega, g.sym' h4, rfl, rfl⟩
 ·rintro ⟨a, b, ha, hb, hab, rfl, rfl⟩
  rcases Nat.lt_trichotomy a b with c | c | c
  ·exact .inr ⟨_, (edgesF_mem rows n 0 _).mpr ⟨a, b, Nat.zero_le _, c, hb, hab, rfl⟩, a, b, rfl, .inl ⟨rfl, rfl⟩⟩
  ·subst c
   have := (g.row a (by have := g.rok.len; omega)).2.2
   rw [this] at hab; cases hab
  ·exact .inr ⟨_, (edgesF_mem rows n 0 _).mpr ⟨b, a, Nat.zero_le _, c, ha, g.sym' hab, rfl⟩, b, a, rfl, .inr ⟨rfl, rfl⟩⟩
abbrev rnX (h : VH) (N : Nat) (s : Value) (r : List Int) : VH := [⟨0, [.int .i64 N, s]⟩, ⟨0, [.int .i64 0, .slice none 0 0]⟩, ⟨1, ints (rng N)⟩, ⟨1, ints (rng N)⟩, ⟨1, ints r⟩, ⟨0, [.int .i64 N, .slice (some ⟨h.length + 4, 0, none⟩) N N]⟩]
open Classical in
set_option maxHeartbeats 1000000 in
theorem c_zz29 (N : Nat) (s t : Value) (rows ps : List Int) (h : VH) (hs : Sli h s rows) (ht : Sli h t ps) (g : GV N rows) (P : Perm0 N ps) (hn : nro ≤ h.length) :
  vcall F nro k_zz29 [gv N s, t] h = some (gres h (.inl (N, adjRows N (renAdj rows ps N)))) := by
 have hn' := fun k => Nat.le_trans hn (Nat.le_add_right h.length k)
 have R := g.rok
 have hle := R.le
 have glo := g.lo
 have hpl := P.len
 have hg := c_zz73 (nro := nro) N s rows (h ++ [⟨0, [.int .i64 N, s]⟩, ⟨0, [.int .i64 0, .slice none 0 0]⟩]) (hs.app _)
 rw [decide_eq_true g] at hg
 have hcl := c_slices_Clone (nro := nro) t ps (h ++ [⟨0, [.int .i64 N, s]⟩, ⟨0, [.int .i64 0, .slice none 0 0]⟩]) (ht.app _) (fun e => by rw [e] at hpl; simp at hpl; omega) (by omega) (by simp; omega)
 have hso := c_Sort (nro := nro) (G := h ++ [⟨0, [.int .i64 N, s]⟩, ⟨0, [.int .i64 0, .slice none 0 0]⟩, ⟨1, ints ps⟩]) (blk := h.length + 2) (xs := ps) (by simp) (hn' 2) (by omega)
 rw [P.sorted] at hso
 have hct := c_zz62 (nro := nro) N (h ++ [⟨0, [.int .i64 N, s]⟩, ⟨0, [.int .i64 0, .slice none 0 0]⟩, ⟨1, ints (rng N)⟩]) (by simp; omega) hle
 have hrl : (rng N).length = N := by simp [rng]
 have s1 := sli_at (h := h ++ [⟨0, [.int .i64 N, s]⟩, ⟨0, [.int .i64 0, .slice none 0 0]⟩, ⟨1, ints (rng N)⟩, ⟨1, ints (rng N)⟩]) (b := h.length + 2) (xs := rng N) (by simp)
 have s2 := sli_at (h := h ++ [⟨0, [.int .i64 N, s]⟩, ⟨0, [.int .i64 0, .slice none 0 0]⟩, ⟨1, ints (rng N)⟩, ⟨1, ints (rng N)⟩]) (b := h.length + 3) (xs := rng N) (by simp)
 have heq := c_slices_Equal (nro := nro) _ _ (rng N) (rng N) _ s1 s2 (by omega)
 rw [decide_eq_true rfl] at heq
 rw [hrl] at heq
 rw [hpl] at hcl hso
 have hE := c_zz93 (nro := nro) N (h ++ [⟨0, [.int .i64 N, s]⟩, ⟨0, [.int .i64 0, .slice none 0 0]⟩, ⟨1, ints (rng N)⟩, ⟨1, ints (rng N)⟩]) (by omega) (by omega) (by simp; omega)
 rw [Int.toNat_natCast] at hE
 obtain ⟨q, M, e1, e2⟩ := c_zz36 (nro := nro) N s rows (h ++ rnX h N s (List.replicate N 0)) (hs.app _) (by simp; omega) R
 obtain ⟨vs, l1⟩ := LLq.of (L := []) e2 (b0 := h.length + 4) (by simp)
 rw [List.append_nil] at l1
 have hps : ∀ r, Sli ((h ++ rnX h N s (List.replicate N 0) ++ M).set (h.length + 4) ⟨1, ints r⟩) t ps := fun r => by
  rw [List.append_assoc, hsetk]
  exact ht.app _
 have hel : (edgesF rows N 0).length ≤ 100000 := by
  have := edges_len rows N 0 hle
  omega
 obtain ⟨r, a1, lp⟩ := l_impl_Renumber (nro := nro) _ (h.length + 4) N (h.length + 5) t (cp1 h) q (edgesF rows N 0) vs ps ⟨⟨List.replicate N 0, by rw [List.append_assoc, hgetk]; rfl⟩, by rw [List.append_assoc, hgetk]; rfl, by omega, hps⟩ P l1
  (fun e he => by
   obtain ⟨u, k, _, h2, h3, _, rfl⟩ := (edgesF_mem rows N 0 e).mp he
   exact ⟨u, k, by omega, h3, by omega, rfl⟩) (by simp) (hn' 4) hle hel (List.replicate N 0) _ (IsAdj.zero N)
 have hset : (h ++ rnX h N s (List.replicate N 0) ++ M).set (h.length + 4) ⟨1, ints (List.replicate N 0)⟩ = h ++ (rnX h N s (List.replicate N 0) ++ M) := by
  rw [List.append_assoc, hsetk]; rfl
 have hset2 : (h ++ rnX h N s (List.replicate N 0) ++ M).set (h.length + 4) ⟨1, ints r⟩ = h ++ (rnX h N s r ++ M) := by
  rw [List.append_assoc, hsetk]; rfl
 rw [hset, hset2, List.append_assoc] at lp
 have a3 := ren_done g a1
 have e : adjRows N (renAdj rows ps N) = r := a3.eq
 rw [e]
 have hrl2 := a1.1
 obtain ⟨qa, qm, rfl⟩ := e2.shape
 have hln : qm = (edgesF rows N 0).length := by
  obtain ⟨b, vs', e5, _⟩ := e2
  cases e5; rfl
 have hql : vlen (h ++ (rnX h N s (List.replicate N 0) ++ M)) (.slice (some qa) qm qm) = some (.int .i64 (edgesF rows N 0).length, h ++ (rnX h N s (List.replicate N 0) ++ M)) := by
  have := (l1.out (List.replicate N 0)).vlen
  rw [hset] at this
  rw [this, l1.len]
 simp only [gres, hrl2]
 generalize (edgesF rows N 0).length = E at lp hql hln hel
 unfold rnX at *
 generalize rng N = G at hso hct heq hE e1 lp hql hrl
 rw [List.append_assoc] at e1
 have hoh : ∀ k, Old (h.length + k) s := fun k => hs.oldk
 have hot : ∀ k, Old (h.length + k) t := fun k => ht.oldk
 simp at hcl hso hct heq hE e1 lp hql
 clear a1 a3 e g P hs ht R hps l1 e2 hset hset2 s1 s2
 refine v_zz29 (by simp [i_zz29]) ?_
 rw [fbody_eq]
 simp (disch := first | assumption | omega | (simp [*] <;> omega) | fail) [i_zz29, hg, hcl, hso, hct, heq, hE, e1, hql, lp, hrl2, hrl, hn', hn, splice, fresults, fresL, fres1]
end

/- The law of HalfOf. -/
section
open Go
variable {nro : Nat}
abbrev hh (h : VH) (n : Int) (s : Value) (D L : List Int) : VH := h ++ [⟨0, [.int .i64 n, s]⟩, ⟨0, [.int .i64 0, .slice none 0 0]⟩, ⟨1, ints D⟩, ⟨1, ints L⟩]
end

/- The law of HalfOf: the program's side. -/
section
open Go
variable {nro : Nat}
theorem GV.of {n : Nat} {r : List Int} {adj : Nat → Nat → Prop} (h : IsAdj n r adj) (h1 : 1 ≤ n) (h2 : n ≤ 62) (hlt : ∀ v w, v < n → adj v w → w < n) (hirr : ∀ v, ¬ adj v v) (hsym : ∀ v w, adj v w → adj w v) : GV n r := by
 have R := Rok.of h h2 hlt
 refine ⟨by omega, by omega, by rw [h.1], fun v hv => ?_, fun v w hv hw => ?_⟩
 ·rw [h.1] at hv
  obtain ⟨r1, r2⟩ := R.row v hv
  refine ⟨r1, ?_, ?_⟩
  ·have e : ((2 ^ n : Nat) : Int) = (2 : Int) ^ ((n : Int).toNat) := by simp
   rw [← e]; omega
  ·have := (h.2 v hv).2.2 v
   cases hb : rbit r v v
   ·rfl
   ·exact absurd (this.mp hb) (hirr v)
 ·rw [h.1] at hv hw
  have a := (h.2 v hv).2.2 w
  have b := (h.2 w hw).2.2 v
  rw [Bool.eq_iff_iff, a, b]
  exact ⟨hsym v w, hsym w v⟩
theorem far_step {n : Nat} {rows : List Int} (R : Rok n rows) {a x w : Nat} (ha : a < n) (h : rbit rows x w = true) (h0 : 0 ≤ far rows a x) : 0 ≤ far rows a w ∧ far rows a w ≤ far rows a x + 1 := by
 obtain ⟨d, hd⟩ : ∃ d : Nat, far rows a x = d := ⟨(far rows a x).toNat, by omega⟩
 have h1 := dist_far R ha hd
 obtain ⟨e, he, h2⟩ := Wk.dst (d + 1) (⟨x, h1.1, h⟩ : Wk rows (d + 1) a w)
 have := far_of R ha h2
 omega
end

/- Counting tuples: closed walks are counted by where they begin. -/
section
open Go
open Classical
def tup (n : Nat) : Nat → List (List Nat)
 | 0 => [[]]
 | k + 1 => (List.range n).flatMap fun v => (tup n k).map (v :: ·)
end

/- Regular graphs: degrees' least and greatest; lists alike; a cage graph fits. -/
section
open Go
variable {nro : Nat}
theorem l_zz63 (s t : Value) (xs ys : List Int) (h : VH) (hs : Sli h s xs) (ht : Sli h t ys) (h3 : xs.length ≤ 9223372036854775806) (hl : xs.length = ys.length) :
  floop (vcall F nro) nro [0, 1, 5] i_zz63_B1 h [s, t, .int .i64 0] h = if xs = ys then some (.exit 0, fl [], h) else some (.ret, fl [(4, .bool false)], h) := by
 have key := search (fun i => floop (vcall F nro) nro [0, 1, 5] i_zz63_B1 h [s, t, .int .i64 i] h) (fun i => xs.getD i.toNat 0 ≠ ys.getD i.toNat 0) (some (.ret, fl [(4, .bool false)], h)) (some (.exit 0, fl [], h)) xs.length 0 ?_ ?_ 0 (by omega)
 ·rw [key]
  by_cases e : xs = ys
  ·rw [if_pos e, if_neg]
   rintro ⟨j, _, _, hj⟩
   exact hj (by rw [e])
  ·rw [if_neg e, if_pos]
   apply Classical.byContradiction
   intro hno
   apply e
   apply List.ext_getElem hl
   intro k h1 h2
   apply Classical.byContradiction
   intro hne
   exact hno ⟨k, by omega, by omega, by simpa [h1, h2] using hne⟩
 ·intro i h0 hi
  have hso := hs.old
  have hto := ht.old
  have e1 : xs.getD i.toNat 0 = xs[i.toNat]'(by omega) := getD_at _ (by omega)
  have e2 : ys.getD i.toNat 0 = ys[i.toNat]'(by omega) := getD_at _ (by omega)
  rw [e1, e2, floop_at i_zz63_B1.eq_1]
  constructor <;> intro hb <;> simp (disch := first | assumption | omega | (simp [*] <;> omega) | fail) [hs.vlen, hs.vidx, hs.vload, ht.vlen, ht.vidx, ht.vload, wrap64, hi, hb]
 ·intro i h0 hi
  rw [floop_at i_zz63_B1.eq_1]
  simp (disch := first | assumption | omega | (simp [*] <;> omega) | fail) [hs.vlen, hi]
theorem c_zz63 (s t : Value) (xs ys : List Int) (h : VH) (hs : Sli h s xs) (ht : Sli h t ys) (h3 : xs.length ≤ 9223372036854775806) :
  vcall F nro k_zz63 [s, t] h = some (.bool (decide (xs = ys)), h) := by
 refine v_zz63 (by simp [i_zz63]) ?_
 rw [fbody_eq]
 by_cases hl : xs.length = ys.length
 ·simp (disch := first | assumption | omega | (simp [*] <;> omega) | fail) [i_zz63, hs.vlen, ht.vlen, hl, l_zz63 s t xs ys h hs ht h3 hl]
  by_cases e : xs = ys <;> simp [e]
 ·have hl' : ¬ (xs.length : Int) = ys.length := by omega
  have : xs ≠ ys := fun e => hl (by rw [e])
  simp (disch := first | assumption | omega | (simp [*] <;> omega) | fail) [i_zz63, hs.vlen, ht.vlen, hl', this]
theorem c_zz76 (n m : Int) (s t : Value) (xs ys : List Int) (h : VH) (hs : Sli h s xs) (ht : Sli h t ys) (h3 : xs.length ≤ 9223372036854775806) :
  vcall F nro k_zz76 [gv n s, gv m t] h = some (.bool (decide (n = m ∧ xs = ys)), h) := by
 refine v_zz76 (by simp [i_zz76]) ?_
 rw [fbody_eq]
 have hc := c_zz63 (nro := nro) s t xs ys (h ++ [⟨0, [.int .i64 n, s]⟩, ⟨0, [.int .i64 m, t]⟩]) (hs.app _) (ht.app _) h3
 by_cases e1 : n = m
 ·subst e1
  simp (disch := first | assumption | omega | (simp [*] <;> omega) | fail) [i_zz76, hc]
 ·simp (disch := first | assumption | omega | (simp [*] <;> omega) | fail) [i_zz76, hc, e1]
end

/- FitsBoth, EdgesLeft, rows5, l07May at one vertex. -/
section
open Go
open Classical
variable {nro : Nat}
theorem deg_le62 {n : Nat} {rows : List Int} (R : Rok n rows) {v : Nat} (hv : v < n) : (deg rows v : Int) ≤ 62 := by
 have hle := R.le
 rw [deg_sum R hv]
 have : sumF (fun w => oneIf (rbit rows v w = true)) n ≤ sumF (fun _ => 1) n := sumF_le (fun i _ => one_le _)
 have e : ∀ k : Nat, sumF (fun _ => (1 : Int)) k = k := by
  intro k; induction k with
  | zero => rfl
  | succ k ih => rw [sumF, ih]; omega
 rw [e] at this
 omega
theorem degF_get {rows : List Int} {n : Nat} : ∀ (j v : Nat), v + j < n → (degF rows n v).getD j 0 = (deg rows (v + j) : Int)
 | 0, v, h => by rw [degF_step (by omega)]; simp
 | j + 1, v, h => by
  rw [degF_step (by omega), List.getD_cons_succ, degF_get j (v + 1) (by omega)]
  congr 2; omega
end

/- Groups as the program has them: sums, turns with mirrors, lines. What their products obey, in plain numbers. -/
section
open Go
def gord (k n : Nat) : Nat := if k = 0 then n else if k = 1 then 2 * n else n * (n - 1)
theorem gl_pair {n e i : Nat} (hi : i < n) : (e * n + i) / n = e ∧ (e * n + i) % n = i := by
 have : 0 < n := by omega
 refine ⟨?_, ?_⟩
 ·rw [Nat.mul_comm, Nat.mul_add_div this, Nat.div_eq_of_lt hi, Nat.add_zero]
 ·rw [Nat.mul_comm, Nat.mul_add_mod, Nat.mod_eq_of_lt hi]
theorem gl_split (n x : Nat) : x = x / n * n + x % n := by
 have := Nat.div_add_mod x n
 rw [Nat.mul_comm] at this; exact this.symm
end

/- Products: plain laws. -/
section
open Go
theorem adjRows_ok {N : Nat} {adj : Nat → Nat → Prop} (h : ∀ v w, v < N → adj v w → w < 62) : IsAdj N (adjRows N adj) adj := by
 have := IsAdj.exist N adj h
 rw [this.eq]
 exact this
def tabAdj (N m : Nat) (P : Nat → Nat → Nat → Nat → Prop) (X Y : Nat) : Prop := X < N ∧ Y < N ∧ P (X / m) (X % m) (Y / m) (Y % m)
theorem made_tab {N m : Nat} {P : Nat → Nat → Nat → Nat → Prop} (hs : ∀ a b c d, P a b c d → P c d a b) (hi : ∀ a b, ¬ P a b a b) (X Y : Nat) : madeAdj N (prodTest m P) X Y ↔ tabAdj N m P X Y := by
 unfold madeAdj prodTest tabAdj
 constructor
 ·rintro ⟨u, k, h1, h2, h3, ⟨rfl, rfl⟩ | ⟨rfl, rfl⟩⟩
  ·exact ⟨by omega, h2, h3⟩
  ·exact ⟨h2, by omega, hs _ _ _ _ h3⟩
 ·rintro ⟨h1, h2, h3⟩
  rcases Nat.lt_trichotomy X Y with c | c | c
  ·exact ⟨X, Y, c, h2, h3, .inl ⟨rfl, rfl⟩⟩
  ·subst c; exact absurd h3 (hi _ _)
  ·exact ⟨Y, X, c, h1, hs _ _ _ _ h3, .inr ⟨rfl, rfl⟩⟩
theorem irr_of {n : Nat} {rows : List Int} (g : GV n rows) (a : Nat) : rbit rows a a ≠ true := by
 intro h
 by_cases c : a < rows.length
 ·have := (g.row a c).2.2
  rw [this] at h; cases h
 ·have := (rbit_lt g.rok h).1
  have := g.rok.len
  omega
section
variable {n m : Nat} {rows hr : List Int} (g : GV n rows) (gm : GV m hr)
include g gm
theorem prP_sym (a b c d : Nat) (h : prP rows hr a b c d) : prP rows hr c d a b := by
 rcases h with ⟨h1, h2⟩ | ⟨h1, h2⟩
 ·exact .inl ⟨h1.symm, gm.sym' h2⟩
 ·exact .inr ⟨h1.symm, g.sym' h2⟩
theorem prP_irr (a b : Nat) : ¬ prP rows hr a b a b := by
 rintro (⟨_, h⟩ | ⟨_, h⟩)
 ·exact irr_of gm b h
 ·exact irr_of g a h
theorem dirP_sym (a b c d : Nat) (h : dirP rows hr a b c d) : dirP rows hr c d a b := ⟨g.sym' h.1, gm.sym' h.2⟩
theorem dirP_irr (a b : Nat) : ¬ dirP rows hr a b a b := fun h => irr_of g a h.1
theorem pr_tab (h62 : n * m ≤ 62) : IsAdj (n * m) (adjRows (n * m) (prAdj n m rows hr)) (tabAdj (n * m) m (prP rows hr)) := by
 have h : ∀ X Y, tabAdj (n * m) m (prP rows hr) X Y ↔ prAdj n m rows hr X Y := fun X Y => (made_tab (prP_sym g gm) (prP_irr g gm) X Y).symm.trans (pr_eq g gm X Y)
 refine (adjRows_ok fun v w _ hw => ?_).congr fun X Y _ => (h X Y).symm
 have := ((h v w).mpr hw).2.1
 omega
theorem dir_tab (h62 : n * m ≤ 62) : IsAdj (n * m) (adjRows (n * m) (dirAdj n m rows hr)) (tabAdj (n * m) m (dirP rows hr)) := by
 have h : ∀ X Y, tabAdj (n * m) m (dirP rows hr) X Y ↔ dirAdj n m rows hr X Y := fun X Y => (made_tab (dirP_sym g gm) (dirP_irr g gm) X Y).symm.trans (dir_eq g gm X Y)
 refine (adjRows_ok fun v w _ hw => ?_).congr fun X Y _ => (h X Y).symm
 have := ((h v w).mpr hw).2.1
 omega
theorem pos_nm : 1 ≤ n * m := by
 have h1 := g.lo
 have h2 := gm.lo
 exact Nat.mul_pos (by omega) (by omega)
theorem pr_gv (h62 : n * m ≤ 62) : GV ((n * m : Nat) : Int) (adjRows (n * m) (prAdj n m rows hr)) :=
 GV.of (pr_tab g gm h62) (pos_nm g gm) h62 (fun _ _ _ h => h.2.1) (fun v h => prP_irr g gm _ _ h.2.2) (fun _ _ h => ⟨h.2.1, h.1, prP_sym g gm _ _ _ _ h.2.2⟩)
theorem dir_gv (h62 : n * m ≤ 62) : GV ((n * m : Nat) : Int) (adjRows (n * m) (dirAdj n m rows hr)) :=
 GV.of (dir_tab g gm h62) (pos_nm g gm) h62 (fun _ _ _ h => h.2.1) (fun v h => dirP_irr g gm _ _ h.2.2) (fun _ _ h => ⟨h.2.1, h.1, dirP_sym g gm _ _ _ _ h.2.2⟩)
end
def trnL (n m : Nat) : List Int := tbl (n * m) fun a => ((a % m * n + a / m : Nat) : Int)
theorem trn_lt {n m a : Nat} (h : a < n * m) : a % m * n + a / m < n * m ∧ (a % m * n + a / m) / n = a % m ∧ (a % m * n + a / m) % n = a / m := by
 have hm : 0 < m := Nat.pos_of_ne_zero fun e => by rw [e, Nat.mul_zero] at h; omega
 have h1 : a / m < n := Nat.div_lt_of_lt_mul (by rwa [Nat.mul_comm])
 have h2 : a % m < m := Nat.mod_lt _ hm
 refine ⟨?_, (gl_pair h1).1, (gl_pair h1).2⟩
 have h3 : (a % m + 1) * n ≤ m * n := Nat.mul_le_mul_right _ h2
 rw [Nat.add_mul, Nat.one_mul, Nat.mul_comm m n] at h3
 omega
theorem trn_back {n m a : Nat} (h : a < n * m) : (a % m * n + a / m) % n * m + (a % m * n + a / m) / n = a := by
 obtain ⟨_, h2, h3⟩ := trn_lt h
 rw [h2, h3]
 exact (gl_split m a).symm
theorem trn_perm (n m : Nat) : Perm0 (n * m) (trnL n m) where
 len := by simp [trnL]
 bd v hv := by
  have := (trn_lt hv).1
  unfold trnL
  rw [tbl_getD hv]
  exact ⟨Int.natCast_nonneg _, Int.ofNat_lt.mpr this⟩
 inj v w hv hw e := by
  unfold trnL at e
  rw [tbl_getD hv, tbl_getD hw] at e
  have e2 : v % m * n + v / m = w % m * n + w / m := by omega
  have h1 := trn_back hv
  have h2 := trn_back hw
  rw [e2] at h1
  omega
theorem turned_eq {n m : Nat} {rows hr : List Int} (g : GV n rows) (gm : GV m hr) (h62 : n * m ≤ 62) : adjRows (n * m) (renAdj (adjRows (n * m) (prAdj n m rows hr)) (trnL n m) (n * m)) = adjRows (m * n) (prAdj m n hr rows) := by
 have h1 := pr_tab g gm h62
 have h2 := pr_tab gm g (by rw [Nat.mul_comm]; exact h62)
 rw [Nat.mul_comm m n] at h2 ⊢
 refine IsAdj.eq (h2.congr fun X Y hX => ?_)
 unfold renAdj
 constructor
 ·rintro ⟨_, hY, hp⟩
  have bx := trn_lt (n := m) (m := n) (a := X) (by rw [Nat.mul_comm]; exact hX)
  have by' := trn_lt (n := m) (m := n) (a := Y) (by rw [Nat.mul_comm]; exact hY)
  have tx := trn_back (n := m) (m := n) (a := X) (by rw [Nat.mul_comm]; exact hX)
  have ty := trn_back (n := m) (m := n) (a := Y) (by rw [Nat.mul_comm]; exact hY)
  rw [Nat.mul_comm m n] at bx by'
  refine ⟨X % n * m + X / n, Y % n * m + Y / n, bx.1, by'.1, ?_, ?_, ?_⟩
  ·rw [(h1.2 _ bx.1).2.2]
   refine ⟨bx.1, by'.1, ?_⟩
   rw [bx.2.1, bx.2.2, by'.2.1, by'.2.2]
   rcases hp with ⟨e1, e2⟩ | ⟨e1, e2⟩
   ·exact .inr ⟨e1, e2⟩
   ·exact .inl ⟨e1, e2⟩
  ·unfold trnL
   rw [tbl_getD bx.1, Int.toNat_natCast]
   exact tx
  ·unfold trnL
   rw [tbl_getD by'.1, Int.toNat_natCast]
   exact ty
 ·rintro ⟨a, b, ha, hb, hab, rfl, rfl⟩
  have ba := trn_lt ha
  have bb := trn_lt hb
  obtain ⟨_, _, hp⟩ := ((h1.2 a ha).2.2 b).mp hab
  unfold trnL
  rw [tbl_getD ha, tbl_getD hb, Int.toNat_natCast, Int.toNat_natCast]
  refine ⟨ba.1, bb.1, ?_⟩
  rw [ba.2.1, ba.2.2, bb.2.1, bb.2.2]
  rcases hp with ⟨e1, e2⟩ | ⟨e1, e2⟩
  ·exact .inr ⟨e1, e2⟩
  ·exact .inl ⟨e1, e2⟩
theorem sumF_tab (f : Nat → Int) (m : Nat) : ∀ n, sumF f (n * m) = sumF (fun c => sumF (fun d => f (c * m + d)) m) n
 | 0 => by simp [sumF]
 | n + 1 => by
  have h : ∀ k, sumF f (n * m + k) = sumF f (n * m) + sumF (fun d => f (n * m + d)) k := by
   intro k
   induction k with
   | zero => simp [sumF]
   | succ k ih => rw [← Nat.add_assoc, sumF, ih, sumF]; omega
  rw [Nat.add_mul, Nat.one_mul, h, sumF_tab f m n, sumF]
section
variable {n m : Nat} {rows hr : List Int} (g : GV n rows) (gm : GV m hr)
include g gm
theorem pr_deg (h62 : n * m ≤ 62) {v w : Nat} (hv : v < n) (hw : w < m) : (deg (adjRows (n * m) (prAdj n m rows hr)) (v * m + w) : Int) = deg rows v + deg hr w := by
 have A := pr_tab g gm h62
 have G := pr_gv g gm h62
 have hvw : v * m + w < n * m := by
  have h3 : (v + 1) * m ≤ n * m := Nat.mul_le_mul_right _ hv
  rw [Nat.add_mul, Nat.one_mul] at h3
  omega
 rw [deg_sum G.rok hvw, sumF_tab, deg_sum g.rok hv, deg_sum gm.rok hw]
 have e : ∀ c, c < n → sumF (fun d => oneIf (rbit (adjRows (n * m) (prAdj n m rows hr)) (v * m + w) (c * m + d) = true)) m = oneIf (rbit rows v c = true) + oneIf (v = c) * sumF (fun d => oneIf (rbit hr w d = true)) m := by
  intro c hc
  have e2 : ∀ d, d < m → oneIf (rbit (adjRows (n * m) (prAdj n m rows hr)) (v * m + w) (c * m + d) = true) = oneIf (rbit rows v c = true) * oneIf (w = d) + oneIf (v = c) * oneIf (rbit hr w d = true) := by
   intro d hd
   have hcd : c * m + d < n * m := by
    have h3 : (c + 1) * m ≤ n * m := Nat.mul_le_mul_right _ hc
    rw [Nat.add_mul, Nat.one_mul] at h3
    omega
   have hk : rbit (adjRows (n * m) (prAdj n m rows hr)) (v * m + w) (c * m + d) = true ↔ (v = c ∧ rbit hr w d = true) ∨ (w = d ∧ rbit rows v c = true) := by
    rw [(A.2 _ hvw).2.2]
    unfold tabAdj prP
    rw [(gl_pair hw).1, (gl_pair hw).2, (gl_pair hd).1, (gl_pair hd).2]
    exact ⟨fun h => h.2.2, fun h => ⟨hvw, hcd, h⟩⟩
   by_cases c1 : v = c
   ·subst c1
    have z : rbit rows v v ≠ true := irr_of g v
    rw [one_neg z, one_pos (rfl : v = v)]
    by_cases c2 : rbit hr w d = true
    ·rw [one_pos c2, one_pos (hk.mpr (.inl ⟨rfl, c2⟩))]; omega
    ·rw [one_neg c2, one_neg (fun h => (hk.mp h).elim (fun h => c2 h.2) (fun h => z h.2))]; omega
   ·rw [one_neg c1]
    by_cases c2 : w = d
    ·rw [one_pos c2]
     by_cases c3 : rbit rows v c = true
     ·rw [one_pos c3, one_pos (hk.mpr (.inr ⟨c2, c3⟩))]; omega
     ·rw [one_neg c3, one_neg (fun h => (hk.mp h).elim (fun h => c1 h.1) (fun h => c3 h.2))]; omega
    ·rw [one_neg c2, one_neg (fun h => (hk.mp h).elim (fun h => c1 h.1) (fun h => c2 h.1))]; omega
  rw [sumF_congr (g := fun d => oneIf (rbit rows v c = true) * oneIf (w = d) + oneIf (v = c) * oneIf (rbit hr w d = true)) e2, sumF_add, sumF_mul, sumF_mul]
  rw [sumF_one (f := fun d => oneIf (w = d)) hw (fun i _ hi => one_neg fun h => hi h.symm), one_pos rfl]
  omega
 rw [sumF_congr (g := fun c => oneIf (rbit rows v c = true) + oneIf (v = c) * sumF (fun d => oneIf (rbit hr w d = true)) m) e, sumF_add]
 congr 1
 rw [sumF_one (k := v) hv (fun i _ hi => by rw [one_neg fun h => hi h.symm]; omega), one_pos rfl]
 omega
theorem dir_deg (h62 : n * m ≤ 62) {v w : Nat} (hv : v < n) (hw : w < m) : (deg (adjRows (n * m) (dirAdj n m rows hr)) (v * m + w) : Int) = deg rows v * deg hr w := by
 have A := dir_tab g gm h62
 have G := dir_gv g gm h62
 have hvw : v * m + w < n * m := by
  have h3 : (v + 1) * m ≤ n * m := Nat.mul_le_mul_right _ hv
  rw [Nat.add_mul, Nat.one_mul] at h3
  omega
 rw [deg_sum G.rok hvw, sumF_tab, deg_sum g.rok hv, deg_sum gm.rok hw]
 have e : ∀ c, c < n → sumF (fun d => oneIf (rbit (adjRows (n * m) (dirAdj n m rows hr)) (v * m + w) (c * m + d) = true)) m = sumF (fun d => oneIf (rbit hr w d = true)) m * oneIf (rbit rows v c = true) := by
  intro c hc
  have e2 : ∀ d, d < m → oneIf (rbit (adjRows (n * m) (dirAdj n m rows hr)) (v * m + w) (c * m + d) = true) = oneIf (rbit rows v c = true) * oneIf (rbit hr w d = true) := by
   intro d hd
   have hcd : c * m + d < n * m := by
    have h3 : (c + 1) * m ≤ n * m := Nat.mul_le_mul_right _ hc
    rw [Nat.add_mul, Nat.one_mul] at h3
    omega
   have hk : rbit (adjRows (n * m) (dirAdj n m rows hr)) (v * m + w) (c * m + d) = true ↔ (rbit rows v c = true ∧ rbit hr w d = true) := by
    rw [(A.2 _ hvw).2.2]
    unfold tabAdj dirP
    rw [(gl_pair hw).1, (gl_pair hw).2, (gl_pair hd).1, (gl_pair hd).2]
    exact ⟨fun h => h.2.2, fun h => ⟨hvw, hcd, h⟩⟩
   by_cases c1 : rbit rows v c = true
   ·by_cases c2 : rbit hr w d = true
    ·rw [one_pos c1, one_pos c2, one_pos (hk.mpr ⟨c1, c2⟩)]; rfl
    ·rw [one_neg c2, one_neg (fun h => c2 (hk.mp h).2)]; omega
   ·rw [one_neg c1, one_neg (fun h => c1 (hk.mp h).1)]; omega
  rw [sumF_congr (g := fun d => oneIf (rbit rows v c = true) * oneIf (rbit hr w d = true)) e2, sumF_mul, Int.mul_comm]
 rw [sumF_congr (g := fun c => sumF (fun d => oneIf (rbit hr w d = true)) m * oneIf (rbit rows v c = true)) e, sumF_mul, Int.mul_comm]
end
end

/- Cones of graphs, by the reference. -/
section
open Go
variable {nro : Nat}
open Classical in
theorem c_spec_l09Code1 (n : Int) (s : Value) (rows : List Int) (b : Nat) (h : VH) (hs : Sli h s rows) (hb : h[b]? = some ⟨2, [.int .i64 n, s]⟩) (hn : nro ≤ h.length) :
  vcall F nro k_zz83 [.slice (some ⟨b, 0, none⟩) 1 2] h = some (.int .i64 (if GV n rows then 0 else 1), h) := by
 refine v_zz83 (by simp [i_zz83]) ?_
 rw [fbody_eq]
 have hbl := (List.getElem?_eq_some_iff.mp hb).1
 have ho : Old h.length (.slice (some ⟨b, 0, none⟩) 1 2) := fun r hr => by simp [trefs, vrefs, crefs, arefs] at hr; omega
 clear hbl
 have hc1 := c_zz95 (nro := nro) n s rows h hs
 have l2 : floop (vcall F nro) nro [0, 3] i_zz83_B1 h [.slice (some ⟨b, 0, none⟩) 1 2, .int .i64 1] h = some (.exit 0, fl [], h) := by
  rw [floop_at i_zz83_B1.eq_1]
  simp (disch := first | assumption | omega | (simp [*] <;> omega) | fail) [hb]
 by_cases g : GV n rows
 ·have l0 : floop (vcall F nro) nro [0, 3] i_zz83_B1 h [.slice (some ⟨b, 0, none⟩) 1 2, .int .i64 0] h = some (.exit 0, fl [], h) := by
   rw [floop_at i_zz83_B1.eq_1]
   simp (disch := first | assumption | omega | (simp [*] <;> omega) | fail) [hb, hc1, g, wrap64, l2]
  rw [if_pos g]
  simp (disch := first | assumption | omega | (simp [*] <;> omega) | fail) [i_zz83, hb, l0]
 ·have l0 : floop (vcall F nro) nro [0, 3] i_zz83_B1 h [.slice (some ⟨b, 0, none⟩) 1 2, .int .i64 0] h = some (.ret, fl [(2, .int .i64 1)], h) := by
   rw [floop_at i_zz83_B1.eq_1]
   simp (disch := first | assumption | omega | (simp [*] <;> omega) | fail) [hb, hc1, g, wrap64]
  rw [if_neg g]
  simp (disch := first | assumption | omega | (simp [*] <;> omega) | fail) [i_zz83, hb, l0]
abbrev ch2 (h : VH) (n : Int) (s : Value) (N : Nat) (r : List Int) : VH := h ++ [⟨0, [.int .i64 n, s]⟩, ⟨0, [.int .i64 0, .slice none 0 0]⟩, ⟨2, [.int .i64 n, s]⟩, ⟨1, [.int .i64 0]⟩, ⟨1, ints r⟩, ⟨0, [.int .i64 ((n : Int) + 1), .slice (some ⟨h.length + 4, 0, none⟩) N N]⟩]
open Classical in
set_option maxHeartbeats 1000000 in
theorem c_zz86 (n : Int) (s : Value) (rows : List Int) (h : VH) (hs : Sli h s rows) (hn : nro ≤ h.length) :
  vcall F nro k_zz86 [gv n s] h = some (gres h (coneAns n rows)) := by
 have hn' := fun k => Nat.le_trans hn (Nat.le_add_right h.length k)
 have hso := fun k => hs.oldCk (k := k)
 have hg := c_spec_l09Code1 (nro := nro) n s rows (h.length + 2) (h ++ [⟨0, [.int .i64 n, s]⟩, ⟨0, [.int .i64 0, .slice none 0 0]⟩, ⟨2, [.int .i64 n, s]⟩]) (hs.app _) (by simp) (by simp; omega)
 have hlc := fun L => c_zz84 (nro := nro) (n + 1) (h ++ L)
 have hnj := hs.nj
 unfold isJunk at hnj
 refine v_zz86 (by simp [i_zz86]) ?_
 rw [fbody_eq]
 by_cases g : GV n rows
 ·rw [if_pos g] at hg
  obtain ⟨N, rfl⟩ : ∃ N : Nat, n = N := ⟨n.toNat, by have := g.lo; omega⟩
  have glo := g.lo
  have ghi := g.hi
  have R := g.rok
  have hrl := R.len
  have w1 : IntKind.i64.wrap ((N : Int) + 1) = (N : Int) + 1 := wrap64 (by omega) (by omega)
  by_cases c1 : N = 62
  ·have ea : coneAns N rows = .inr 3 := by unfold coneAns; rw [if_neg (not_not_intro g), if_pos (by omega)]
   rw [ea]
   rw [if_neg (by omega)] at hlc
   simp only [gres]
   clear hs g ea R
   simp (disch := first | assumption | omega | (simp [*] <;> omega) | fail) [i_zz86, hg, hlc, w1, hn', hn, hnj, splice, fresults, fresL, fres1]
  ·have ea : coneAns N rows = .inl ((N : Int) + 1, adjRows (N + 1) (coneAdj rows N)) := by
    unfold coneAns; rw [if_neg (not_not_intro g), if_neg (by omega), Int.toNat_natCast]
   rw [ea]
   rw [if_pos (by omega)] at hlc
   have h0 := app0_adj R
   have lp : ∃ r, IsAdj (N + 1) r (fun x y => (x < N ∧ rbit rows x y = true) ∨ ∃ v, v < N ∧ joins v N x y) ∧ floop (vcall F nro) nro [1, 2, 6, 7] i_zz86_B1 (ch2 h N s (N + 1) (rows ++ [0])) [bp h, cp1 h, .pointer (some ⟨h.length + 5, 0, some 2⟩), .int .i64 0] (ch2 h N s (N + 1) (rows ++ [0])) =
     some (.exit 0, fl [(2, cp1 h), (6, .pointer (some ⟨h.length + 5, 0, some 2⟩))], ch2 h N s (N + 1) r) := by
    refine Exists.elim (for_upR (call := vcall F nro) (nro := nro) (live := [1, 2, 6, 7]) (c := i_zz86_B1) (h0 := ch2 h N s (N + 1) (rows ++ [0])) (n := N) (fun v (_ : List Int) => [bp h, cp1 h, .pointer (some ⟨h.length + 5, 0, some 2⟩), .int .i64 v]) (fun _ r => ch2 h N s (N + 1) r)
     (fun v r => IsAdj (N + 1) r (fun x y => (x < N ∧ rbit rows x y = true) ∨ ∃ v', v' < v ∧ joins v' N x y)) (fun r => some (.exit 0, fl [(2, cp1 h), (6, .pointer (some ⟨h.length + 5, 0, some 2⟩))], ch2 h N s (N + 1) r)) ?_ ?_ 0 (rows ++ [0]) (Nat.zero_le _) (h0.congr fun x y _ => ⟨fun h => .inl h, fun h => h.elim id fun ⟨v, hv, _⟩ => by omega⟩)) ?_
    ·intro v r hv hv2 hI
     have hIl := hI.1
     have hput := c_zz90 (nro := nro) ((N : Int) + 1) (h.length + 4) (N + 1) v N r (ch2 h N s (N + 1) r) (by simp) hIl (by omega) (by omega) (by omega) (by omega) (by omega) (by omega)
     have hI2 := hI.put2 (a := (v : Int)) (b := (N : Int)) (by omega) (by omega) (by omega) (by omega) (by omega)
     simp only [Int.toNat_natCast] at hI2
     refine ⟨put2 r v N, hI2.congr fun x y _ => ?_, ?_⟩
     ·constructor
      ·rintro ((h | ⟨w', h1, h2⟩) | h)
       ·exact .inl h
       ·exact .inr ⟨w', by omega, h2⟩
       ·exact .inr ⟨v, by omega, h⟩
      ·rintro (h | ⟨w', h1, h2⟩)
       ·exact .inl (.inl h)
       ·by_cases e : w' = v
        ·subst e; exact .inr h2
        ·exact .inl (.inr ⟨w', by omega, h2⟩)
     have w3 : IntKind.i64.wrap ((v : Int) + 1) = (v : Int) + 1 := wrap64 (by omega) (by omega)
     have hpl : (put2 r (v : Int) (N : Int)).length = N + 1 := by rw [put2_length]; exact hIl
     obtain ⟨q, hq⟩ : ∃ q, q = put2 r (v : Int) (N : Int) := ⟨_, rfl⟩
     rw [← hq] at hput hpl ⊢
     rw [floop_at i_zz86_B1.eq_1]
     simp at hput
     clear hI hI2 hq h0 R g hs
     simp (disch := first | assumption | omega | (simp [*] <;> omega) | fail) [hv, hv2, hput, hn', hso, w3]
    ·intro r _
     rw [floop_at i_zz86_B1.eq_1]
     simp (disch := first | assumption | omega | (simp [*] <;> omega) | fail) [hn', hso]
    ·rintro r ⟨h1, h2⟩
     exact ⟨r, h1, h2⟩
   obtain ⟨r, a1, a2⟩ := lp
   have a3 := cone_done a1
   have e : adjRows (N + 1) (coneAdj rows N) = r := a3.eq
   rw [e]
   have hE := c_zz67 (nro := nro) 1 (h ++ [⟨0, [.int .i64 N, s]⟩, ⟨0, [.int .i64 0, .slice none 0 0]⟩, ⟨2, [.int .i64 N, s]⟩]) (by omega) (by omega) (by simp; omega)
   have e1 : ints (List.replicate (Int.toNat 1) 0) = [.int .i64 0] := rfl
   rw [e1] at hE
   have s0 := sli_at (h := h ++ [⟨0, [.int .i64 N, s]⟩, ⟨0, [.int .i64 0, .slice none 0 0]⟩, ⟨2, [.int .i64 N, s]⟩, ⟨1, [.int .i64 0]⟩]) (b := h.length + 3) (xs := [0]) (by simp [ints])
   have hB := c_zz59 (nro := nro) (h ++ [⟨0, [.int .i64 N, s]⟩, ⟨0, [.int .i64 0, .slice none 0 0]⟩, ⟨2, [.int .i64 N, s]⟩, ⟨1, [.int .i64 0]⟩]) N 1 s _ rows [0] (hs.app _) s0 g (GV.zero (n := 1) (by omega) (by omega)) (by omega) (by simp; omega)
   have e2 : bsR rows [0] N 1 = rows ++ [0] := by unfold bsR tbl; simp
   rw [e2] at hB
   have hrl2 := a1.1
   simp only [gres, hrl2]
   have hrla : (rows ++ [0]).length = N + 1 := by simp [hrl]
   obtain ⟨Q, hQ⟩ : ∃ Q, Q = rows ++ [0] := ⟨_, rfl⟩
   rw [← hQ] at hB a2 hrla
   simp at hE hB a2
   clear a1 a3 e ea g hs R h0 hQ s0 e1 e2
   simp (disch := first | assumption | omega | (simp [*] <;> omega) | fail) [i_zz86, hg, hlc, w1, hE, hB, a2, hrl2, hrla, hn', hso, hn, hnj, splice, fresults, fresL, fres1]
 ·rw [if_neg g] at hg
  have ea : coneAns n rows = .inr 1 := by unfold coneAns; rw [if_pos g]
  rw [ea]
  simp only [gres]
  clear hs g ea
  simp (disch := first | assumption | omega | (simp [*] <;> omega) | fail) [i_zz86, hg, hn', hn, hnj, splice, fresults, fresL, fres1]
end

/- Powers of graphs, by both. -/
section
open Go
variable {nro : Nat}
def pwc (rows : List Int) (k : Int) (v w : Nat) : Prop := 0 < far rows v w ∧ far rows v w ≤ k
theorem l_zz74_1 (h : VH) (n v : Nat) (i : Int) (s : Value) (rows : List Int) (hs : Sli h s rows) (R : Rok n rows) (hv : v < n) (hn : nro ≤ h.length) (r0 : List Int) (A : Nat → Nat → Prop) (hA : IsAdj n r0 A) :
  ∃ r, IsAdj n r (fun x y => A x y ∨ ∃ w, w < n ∧ pwc rows i v w ∧ joins v w x y) ∧ floop (vcall F nro) nro [1, 2, 4, 6, 7, 27, 28, 33, 34, 35] i_zz74_B1 (ah h n s n r0 ++ [⟨1, ints (dists rows n v)⟩]) [.int .i64 i, bp h, cp1 h, cp3 h, .int .i64 v, .int .i64 n, .int .i64 v, .slice (some ⟨h.length + 4, 0, none⟩) n n, .int .i64 n, .int .i64 0] (ah h n s n r0 ++ [⟨1, ints (dists rows n v)⟩]) =
   some (.exit 3, fl [(1, .int .i64 i), (2, bp h), (4, cp1 h), (6, cp3 h), (27, .int .i64 n), (28, .int .i64 v)], ah h n s n r ++ [⟨1, ints (dists rows n v)⟩]) := by
 have hn' := fun k => Nat.le_trans hn (Nat.le_add_right h.length k)
 have hso := fun k => hs.oldCk (k := k)
 have hle := R.le
 have hdl := dists_len rows n v
 have hdg : ∀ w, w < n → (dists rows n v).getD w 0 = far rows v w := fun w hw => dists_get R hv hw
 obtain ⟨D, hD⟩ : ∃ D, D = dists rows n v := ⟨_, rfl⟩
 rw [← hD] at hdl hdg ⊢
 refine Exists.elim (for_upR (call := vcall F nro) (nro := nro) (live := [1, 2, 4, 6, 7, 27, 28, 33, 34, 35]) (c := i_zz74_B1) (h0 := ah h n s n r0 ++ [⟨1, ints D⟩]) (n := n) (fun w (_ : List Int) => [.int .i64 i, bp h, cp1 h, cp3 h, .int .i64 v, .int .i64 n, .int .i64 v, .slice (some ⟨h.length + 4, 0, none⟩) n n, .int .i64 n, .int .i64 w]) (fun _ r => ah h n s n r ++ [⟨1, ints D⟩])
  (fun w r => IsAdj n r (fun x y => A x y ∨ ∃ w', w' < w ∧ pwc rows i v w' ∧ joins v w' x y)) (fun r => some (.exit 3, fl [(1, .int .i64 i), (2, bp h), (4, cp1 h), (6, cp3 h), (27, .int .i64 n), (28, .int .i64 v)], ah h n s n r ++ [⟨1, ints D⟩])) ?_ ?_ 0 r0 (Nat.zero_le _) (hA.congr fun x y _ => ⟨fun h => .inl h, fun h => h.elim id fun ⟨w, hw, _⟩ => by omega⟩)) ?_
 ·intro w r hw hw2 hI
  have hwD : w < D.length := by omega
  have t1 := take1_ints hwD
  rw [← getD_at D hwD, hdg w hw] at t1
  have hrl := hI.1
  have hput := c_zz53 (nro := nro) n (h.length + 2) n v w r (ah h n s n r ++ [⟨1, ints D⟩]) (by simp) hrl (by omega) (by omega) (by omega) (by omega) (by omega) hle
  have w3 : IntKind.i64.wrap ((w : Int) + 1) = (w : Int) + 1 := wrap64 (by omega) (by omega)
  by_cases c : pwc rows i v w
  ·have c2 : ¬ v = w := fun e => by
    have := c.1
    rw [e, far_self R hw] at this
    omega
   have hI2 := hI.put2 (a := (v : Int)) (b := (w : Int)) (by omega) (by omega) (by omega) (by omega) hle
   simp only [Int.toNat_natCast] at hI2
   refine ⟨put2 r v w, hI2.congr fun x y _ => ?_, ?_⟩
   ·constructor
    ·rintro ((h | ⟨w', h1, h2⟩) | h)
     ·exact .inl h
     ·exact .inr ⟨w', by omega, h2⟩
     ·exact .inr ⟨w, by omega, c, h⟩
    ·rintro (h | ⟨w', h1, h2, h4⟩)
     ·exact .inl (.inl h)
     ·by_cases e : w' = w
      ·subst e; exact .inr h4
      ·exact .inl (.inr ⟨w', by omega, h2, h4⟩)
   rw [if_neg (by omega)] at hput
   have hpl : (put2 r (v : Int) (w : Int)).length = n := by rw [put2_length]; exact hrl
   obtain ⟨q, hq⟩ : ∃ q, q = put2 r (v : Int) (w : Int) := ⟨_, rfl⟩
   rw [← hq] at hput hpl ⊢
   obtain ⟨d1, d2⟩ := c
   generalize far rows v w = z at t1 d1 d2
   rw [floop_at i_zz74_B1.eq_1]
   simp at hput
   clear hD hdg hI hA hI2 hq
   simp (disch := first | assumption | omega | (simp [*] <;> omega) | fail) [hw, hw2, t1, d1, d2, hput, hdl, hn', hso, w3]
  ·refine ⟨r, hI.congr fun x y _ => ⟨fun h => h.imp id fun ⟨w', h1, h2⟩ => ⟨w', by omega, h2⟩, fun h => h.imp id fun ⟨w', h1, h2, h3⟩ => ⟨w', by
    have : w' ≠ w := by rintro rfl; exact c h2
    omega, h2, h3⟩⟩, ?_⟩
   rw [floop_at i_zz74_B1.eq_1]
   unfold pwc at c
   obtain ⟨z, hz⟩ : ∃ z, z = far rows v w := ⟨_, rfl⟩
   rw [← hz] at t1 c
   clear hD hdg hI hA hz hput
   by_cases d1 : 0 < z
   ·have d2 : ¬ z ≤ i := fun h => c ⟨d1, h⟩
    clear c
    simp (disch := first | assumption | omega | (simp [*] <;> omega) | fail) [hw, hw2, t1, d1, d2, hdl, hn', hso, w3]
   ·clear c
    simp (disch := first | assumption | omega | (simp [*] <;> omega) | fail) [hw, hw2, t1, d1, hdl, hn', hso, w3]
 ·intro r _
  rw [floop_at i_zz74_B1.eq_1]
  simp (disch := first | assumption | omega | (simp [*] <;> omega) | fail) [hn', hso]
 ·rintro r ⟨h1, h2⟩
  exact ⟨r, h1, h2⟩
def pwAdj (rows : List Int) (n : Nat) (k : Int) (x y : Nat) : Prop := x < n ∧ y < n ∧ pwc rows k x y
noncomputable def powAns (n : Int) (rows : List Int) (k : Int) : GAns := by
 classical exact if ¬ GV n rows then .inr 1 else if ¬ (1 ≤ k ∧ k ≤ 61) then .inr 2 else .inl (n, adjRows n.toNat (pwAdj rows n.toNat k))
open Classical in
theorem c_zz74 (n i : Int) (s : Value) (rows : List Int) (h : VH) (hs : Sli h s rows) (hn : nro ≤ h.length) :
  vcall F nro k_zz74 [gv n s, .int .i64 i] h = some (gres h (powAns n rows i)) := by
 have hn' := fun k => Nat.le_trans hn (Nat.le_add_right h.length k)
 have hso := fun k => hs.oldCk (k := k)
 have hg := c_zz73 (nro := nro) n s rows (h ++ [⟨0, [.int .i64 n, s]⟩, ⟨0, [.int .i64 0, .slice none 0 0]⟩]) (hs.app _)
 refine v_zz74 (by simp [i_zz74]) ?_
 rw [fbody_eq]
 by_cases g : GV n rows
 ·rw [decide_eq_true g] at hg
  by_cases c1 : 1 ≤ i
  ·by_cases c2 : i ≤ 61
   ·have ea : powAns n rows i = .inl (n, adjRows n.toNat (pwAdj rows n.toNat i)) := by
     unfold powAns; rw [if_neg (not_not_intro g), if_neg (not_not_intro ⟨c1, c2⟩)]
    rw [ea]
    obtain ⟨N, rfl⟩ : ∃ N : Nat, n = N := ⟨n.toNat, by have := g.lo; omega⟩
    rw [Int.toNat_natCast]
    have R := g.rok
    have hle := R.le
    have l2 : ∃ r, IsAdj N r (fun x y => ∃ v, v < N ∧ ∃ w, w < N ∧ pwc rows i v w ∧ joins v w x y) ∧ floop (vcall F nro) nro [1, 2, 4, 6, 27, 28] i_zz74_B2 (ah h N s N (List.replicate N 0)) [.int .i64 i, bp h, cp1 h, cp3 h, .int .i64 N, .int .i64 0] (ah h N s N (List.replicate N 0)) =
      some (.exit 1, fl [(4, cp1 h), (6, cp3 h)], ah h N s N r) := by
     refine Exists.elim (for_upR (call := vcall F nro) (nro := nro) (live := [1, 2, 4, 6, 27, 28]) (c := i_zz74_B2) (h0 := ah h N s N (List.replicate N 0)) (n := N) (fun v (_ : List Int) => [.int .i64 i, bp h, cp1 h, cp3 h, .int .i64 N, .int .i64 v]) (fun _ r => ah h N s N r)
      (fun v r => IsAdj N r (fun x y => ∃ v', v' < v ∧ ∃ w, w < N ∧ pwc rows i v' w ∧ joins v' w x y)) (fun r => some (.exit 1, fl [(4, cp1 h), (6, cp3 h)], ah h N s N r)) ?_ ?_ 0 (List.replicate N 0) (Nat.zero_le _) ((IsAdj.zero N).congr fun x y _ => ⟨False.elim, fun ⟨v, hv, _⟩ => by omega⟩)) ?_
     ·intro v r hv hv2 hI
      obtain ⟨r', a1, a2⟩ := l_zz74_1 (nro := nro) h N v i s rows hs R hv hn r _ hI
      refine ⟨r', a1.congr fun x y _ => ?_, ?_⟩
      ·constructor
       ·rintro (⟨v', h1, h2⟩ | h)
        ·exact ⟨v', by omega, h2⟩
        ·exact ⟨v, by omega, h⟩
       ·rintro ⟨v', h1, h2⟩
        by_cases e : v' = v
        ·subst e; exact .inr h2
        ·exact .inl ⟨v', by omega, h2⟩
      have cd := c_zz22 (nro := nro) N v s rows (ah h N s N r) (hs.app _) R hv (by simp; omega)
      obtain ⟨D, hD⟩ : ∃ D, D = dists rows N v := ⟨_, rfl⟩
      have hdl := dists_len rows N v
      rw [← hD] at a2 cd hdl
      have e1 := hI.1
      have e2 := a1.1
      rw [floop_at i_zz74_B2.eq_1]
      simp at cd a2
      clear hD hI a1
      simp (disch := first | assumption | omega | (simp [*] <;> omega) | fail) [hv, hv2, cd, a2, hdl, e1, e2, hn', hso, wrap64]
     ·intro r _
      rw [floop_at i_zz74_B2.eq_1]
      simp (disch := first | assumption | omega | (simp [*] <;> omega) | fail) [hn', hso]
     ·rintro r ⟨h1, h2⟩
      exact ⟨r, h1, h2⟩
    obtain ⟨r, a1, a2⟩ := l2
    have a3 : IsAdj N r (pwAdj rows N i) := a1.congr fun x y hx => by
     constructor
     ·rintro ⟨v, hv, w, hw, h1, (⟨rfl, rfl⟩ | ⟨rfl, rfl⟩)⟩
      ·exact ⟨hv, hw, h1⟩
      ·refine ⟨hw, hv, ?_⟩
       unfold pwc at h1 ⊢
       rw [far_symm g hw hv]; exact h1
     ·rintro ⟨h1, h2, h4⟩
      exact ⟨x, h1, y, h2, h4, .inl ⟨rfl, rfl⟩⟩
    have e : adjRows N (pwAdj rows N i) = r := a3.eq
    rw [e]
    have hE := c_zz93 (nro := nro) N (h ++ [⟨0, [.int .i64 N, s]⟩, ⟨0, [.int .i64 0, .slice none 0 0]⟩]) (by omega) (by omega) (by simp; omega)
    have hrl := a1.1
    have c1' : ¬ i < 1 := by omega
    have c2' : ¬ 61 < i := by omega
    rw [Int.toNat_natCast] at hE
    simp at hE a2
    simp only [gres, hrl]
    clear a1 a3 e ea g hs R c1 c2
    simp (disch := first | assumption | omega | (simp [*] <;> omega) | fail) [i_zz74, hg, c1', c2', hE, a2, hrl, hn', hso, hn, splice, fresults, fresL, fres1]
   ·have ea : powAns n rows i = .inr 2 := by
     unfold powAns; rw [if_neg (not_not_intro g), if_pos (fun h => c2 h.2)]
    have c1' : ¬ i < 1 := by omega
    have c2' : 61 < i := by omega
    rw [ea]
    simp only [gres]
    clear hs g ea c1 c2
    simp (disch := first | assumption | omega | (simp [*] <;> omega) | fail) [i_zz74, hg, c1', c2', hn', hn, splice, fresults, fresL, fres1]
  ·have ea : powAns n rows i = .inr 2 := by
    unfold powAns; rw [if_neg (not_not_intro g), if_pos (fun h => c1 h.1)]
   have c1' : i < 1 := by omega
   rw [ea]
   simp only [gres]
   clear hs g ea c1
   simp (disch := first | assumption | omega | (simp [*] <;> omega) | fail) [i_zz74, hg, c1', hn', hn, splice, fresults, fresL, fres1]
 ·rw [decide_eq_false g] at hg
  have ea : powAns n rows i = .inr 1 := by unfold powAns; rw [if_pos g]
  rw [ea]
  simp only [gres]
  clear hs g ea
  simp (disch := first | assumption | omega | (simp [*] <;> omega) | fail) [i_zz74, hg, hn', hn, splice, fresults, fresL, fres1]
end

/- Powers of graphs, by the reference. -/
section
open Go
variable {nro : Nat}
theorem far_pos {n : Nat} {rows : List Int} (R : Rok n rows) {a b : Nat} (ha : a < n) (hab : a ≠ b) (h : 0 ≤ far rows a b) : 0 < far rows a b := by
 apply Classical.byContradiction
 intro hn
 have h0 : far rows a b = 0 := by omega
 have hd := far_dist R ha b
 rw [h0] at hd
 rcases hd with ⟨h1, _⟩ | ⟨d, h1, h2⟩
 ·omega
 ·have hd0 : d = 0 := by omega
  subst hd0
  have : a = b := h2.1
  exact hab this
theorem l_zz77_1 (h : VH) (n v : Nat) (i : Int) (s : Value) (rows : List Int) (hs : Sli h s rows) (R : Rok n rows) (hv : v < n) (hn : nro ≤ h.length) (r0 : List Int) (A : Nat → Nat → Prop) (hA : IsAdj n r0 A) :
  ∃ r, IsAdj n r (fun x y => A x y ∨ ∃ w, w < v ∧ pwc rows i v w ∧ joins v w x y) ∧ floop (vcall F nro) nro [1, 2, 4, 6, 7, 8] i_zz77_B1 (ah h n s n r0) [.int .i64 i, bp h, cp1 h, cp3 h, .int .i64 v, .int .i64 0] (ah h n s n r0) =
   some (.exit 3, fl [(1, .int .i64 i), (2, bp h), (4, cp1 h), (6, cp3 h), (7, .int .i64 v)], ah h n s n r) := by
 have hn' := fun k => Nat.le_trans hn (Nat.le_add_right h.length k)
 have hso := fun k => hs.oldCk (k := k)
 have hle := R.le
 refine Exists.elim (for_upR (call := vcall F nro) (nro := nro) (live := [1, 2, 4, 6, 7, 8]) (c := i_zz77_B1) (h0 := ah h n s n r0) (n := v) (fun w (_ : List Int) => [.int .i64 i, bp h, cp1 h, cp3 h, .int .i64 v, .int .i64 w]) (fun _ r => ah h n s n r)
  (fun w r => IsAdj n r (fun x y => A x y ∨ ∃ w', w' < w ∧ pwc rows i v w' ∧ joins v w' x y)) (fun r => some (.exit 3, fl [(1, .int .i64 i), (2, bp h), (4, cp1 h), (6, cp3 h), (7, .int .i64 v)], ah h n s n r)) ?_ ?_ 0 r0 (Nat.zero_le _) (hA.congr fun x y _ => ⟨fun h => .inl h, fun h => h.elim id fun ⟨w, hw, _⟩ => by omega⟩)) ?_
 ·intro w r hw hw2 hI
  have hrl := hI.1
  have hput := c_zz90 (nro := nro) n (h.length + 2) n v w r (ah h n s n r) (by simp) hrl (by omega) (by omega) (by omega) (by omega) (by omega) hle
  have w3 : IntKind.i64.wrap ((w : Int) + 1) = (w : Int) + 1 := wrap64 (by omega) (by omega)
  have hfar := c_zz91 (nro := nro) n v w s rows (ah h n s n r) (hs.app _) R hv (by omega)
  have hfp : 0 ≤ far rows v w → 0 < far rows v w := far_pos R hv (by omega)
  by_cases c : pwc rows i v w
  ·have hI2 := hI.put2 (a := (v : Int)) (b := (w : Int)) (by omega) (by omega) (by omega) (by omega) hle
   simp only [Int.toNat_natCast] at hI2
   refine ⟨put2 r v w, hI2.congr fun x y _ => ?_, ?_⟩
   ·constructor
    ·rintro ((h | ⟨w', h1, h2⟩) | h)
     ·exact .inl h
     ·exact .inr ⟨w', by omega, h2⟩
     ·exact .inr ⟨w, by omega, c, h⟩
    ·rintro (h | ⟨w', h1, h2, h4⟩)
     ·exact .inl (.inl h)
     ·by_cases e : w' = w
      ·subst e; exact .inr h4
      ·exact .inl (.inr ⟨w', by omega, h2, h4⟩)
   have hpl : (put2 r (v : Int) (w : Int)).length = n := by rw [put2_length]; exact hrl
   obtain ⟨q, hq⟩ : ∃ q, q = put2 r (v : Int) (w : Int) := ⟨_, rfl⟩
   rw [← hq] at hput hpl ⊢
   obtain ⟨d1, d2⟩ := c
   have d3 : 0 ≤ far rows v w := by omega
   generalize far rows v w = z at hfar d1 d2 d3
   rw [floop_at i_zz77_B1.eq_1]
   simp at hput
   clear hI hA hI2 hq hfp
   simp (disch := first | assumption | omega | (simp [*] <;> omega) | fail) [hw, hw2, hfar, d2, d3, hput, hn', hso, w3]
  ·refine ⟨r, hI.congr fun x y _ => ⟨fun h => h.imp id fun ⟨w', h1, h2⟩ => ⟨w', by omega, h2⟩, fun h => h.imp id fun ⟨w', h1, h2, h3⟩ => ⟨w', by
    have : w' ≠ w := by rintro rfl; exact c h2
    omega, h2, h3⟩⟩, ?_⟩
   rw [floop_at i_zz77_B1.eq_1]
   unfold pwc at c
   obtain ⟨z, hz⟩ : ∃ z, z = far rows v w := ⟨_, rfl⟩
   rw [← hz] at hfar c hfp
   clear hI hA hz hput
   by_cases d1 : 0 ≤ z
   ·have d2 : ¬ z ≤ i := fun h => c ⟨hfp d1, h⟩
    clear c hfp
    simp (disch := first | assumption | omega | (simp [*] <;> omega) | fail) [hw, hw2, hfar, d1, d2, hn', hso, w3]
   ·clear c hfp
    simp (disch := first | assumption | omega | (simp [*] <;> omega) | fail) [hw, hw2, hfar, d1, hn', hso, w3]
 ·intro r _
  rw [floop_at i_zz77_B1.eq_1]
  simp (disch := first | assumption | omega | (simp [*] <;> omega) | fail) [hn', hso]
 ·rintro r ⟨h1, h2⟩
  exact ⟨r, h1, h2⟩
open Classical in
theorem c_zz77 (n i : Int) (s : Value) (rows : List Int) (h : VH) (hs : Sli h s rows) (hn : nro ≤ h.length) :
  vcall F nro k_zz77 [gv n s, .int .i64 i] h = some (gres h (powAns n rows i)) := by
 have hn' := fun k => Nat.le_trans hn (Nat.le_add_right h.length k)
 have hso := fun k => hs.oldCk (k := k)
 have hg := c_zz95 (nro := nro) n s rows (h ++ [⟨0, [.int .i64 n, s]⟩, ⟨0, [.int .i64 0, .slice none 0 0]⟩]) (hs.app _)
 have hin := fun L => c_zz94 (nro := nro) i 1 61 (h ++ L)
 refine v_zz77 (by simp [i_zz77]) ?_
 rw [fbody_eq]
 by_cases g : GV n rows
 ·rw [decide_eq_true g] at hg
  by_cases c1 : 1 ≤ i ∧ i ≤ 61
  ·have ea : powAns n rows i = .inl (n, adjRows n.toNat (pwAdj rows n.toNat i)) := by
    unfold powAns; rw [if_neg (not_not_intro g), if_neg (not_not_intro c1)]
   rw [ea]
   obtain ⟨N, rfl⟩ : ∃ N : Nat, n = N := ⟨n.toNat, by have := g.lo; omega⟩
   rw [Int.toNat_natCast]
   have R := g.rok
   have hle := R.le
   have l2 : ∃ r, IsAdj N r (fun x y => ∃ v, v < N ∧ ∃ w, w < v ∧ pwc rows i v w ∧ joins v w x y) ∧ floop (vcall F nro) nro [1, 2, 4, 6, 7] i_zz77_B2 (ah h N s N (List.replicate N 0)) [.int .i64 i, bp h, cp1 h, cp3 h, .int .i64 0] (ah h N s N (List.replicate N 0)) =
     some (.exit 1, fl [(4, cp1 h), (6, cp3 h)], ah h N s N r) := by
    refine Exists.elim (for_upR (call := vcall F nro) (nro := nro) (live := [1, 2, 4, 6, 7]) (c := i_zz77_B2) (h0 := ah h N s N (List.replicate N 0)) (n := N) (fun v (_ : List Int) => [.int .i64 i, bp h, cp1 h, cp3 h, .int .i64 v]) (fun _ r => ah h N s N r)
     (fun v r => IsAdj N r (fun x y => ∃ v', v' < v ∧ ∃ w, w < v' ∧ pwc rows i v' w ∧ joins v' w x y)) (fun r => some (.exit 1, fl [(4, cp1 h), (6, cp3 h)], ah h N s N r)) ?_ ?_ 0 (List.replicate N 0) (Nat.zero_le _) ((IsAdj.zero N).congr fun x y _ => ⟨False.elim, fun ⟨v, hv, _⟩ => by omega⟩)) ?_
    ·intro v r hv hv2 hI
     obtain ⟨r', a1, a2⟩ := l_zz77_1 (nro := nro) h N v i s rows hs R hv hn r _ hI
     refine ⟨r', a1.congr fun x y _ => ?_, ?_⟩
     ·constructor
      ·rintro (⟨v', h1, h2⟩ | h)
       ·exact ⟨v', by omega, h2⟩
       ·exact ⟨v, by omega, h⟩
      ·rintro ⟨v', h1, h2⟩
       by_cases e : v' = v
       ·subst e; exact .inr h2
       ·exact .inl ⟨v', by omega, h2⟩
     have e1 := hI.1
     have e2 := a1.1
     rw [floop_at i_zz77_B2.eq_1]
     clear hI a1
     simp (disch := first | assumption | omega | (simp [*] <;> omega) | fail) [hv, hv2, a2, e1, e2, hn', hso, wrap64]
    ·intro r _
     rw [floop_at i_zz77_B2.eq_1]
     simp (disch := first | assumption | omega | (simp [*] <;> omega) | fail) [hn', hso]
    ·rintro r ⟨h1, h2⟩
     exact ⟨r, h1, h2⟩
   obtain ⟨r, a1, a2⟩ := l2
   have a3 : IsAdj N r (pwAdj rows N i) := a1.congr fun x y hx => by
    constructor
    ·rintro ⟨v, hv, w, hw, h1, (⟨rfl, rfl⟩ | ⟨rfl, rfl⟩)⟩
     ·exact ⟨hv, by omega, h1⟩
     ·refine ⟨by omega, hv, ?_⟩
      unfold pwc at h1 ⊢
      rw [far_symm g (by omega) hv]; exact h1
    ·rintro ⟨h1, h2, h4⟩
     rcases Nat.lt_trichotomy x y with c | c | c
     ·refine ⟨y, h2, x, c, ?_, .inr ⟨rfl, rfl⟩⟩
      unfold pwc at h4 ⊢
      rw [far_symm g h2 h1]; exact h4
     ·subst c
      have := h4.1
      rw [far_self R h1] at this
      omega
     ·exact ⟨x, h1, y, c, h4, .inl ⟨rfl, rfl⟩⟩
   have e : adjRows N (pwAdj rows N i) = r := a3.eq
   rw [e]
   have hE := c_zz67 (nro := nro) N (h ++ [⟨0, [.int .i64 N, s]⟩, ⟨0, [.int .i64 0, .slice none 0 0]⟩]) (by omega) (by omega) (by simp; omega)
   have hrl := a1.1
   rw [Int.toNat_natCast] at hE
   simp at hE a2
   simp only [gres, hrl]
   clear a1 a3 e ea g hs R
   simp (disch := first | assumption | omega | (simp [*] <;> omega) | fail) [i_zz77, hg, hin, c1, hE, a2, hrl, hn', hso, hn, splice, fresults, fresL, fres1]
  ·have ea : powAns n rows i = .inr 2 := by
    unfold powAns; rw [if_neg (not_not_intro g), if_pos c1]
   rw [ea]
   simp only [gres]
   clear hs g ea
   simp (disch := first | assumption | omega | (simp [*] <;> omega) | fail) [i_zz77, hg, hin, c1, hn', hn, splice, fresults, fresL, fres1]
 ·rw [decide_eq_false g] at hg
  have ea : powAns n rows i = .inr 1 := by unfold powAns; rw [if_pos g]
  rw [ea]
  simp only [gres]
  clear hs g ea
  simp (disch := first | assumption | omega | (simp [*] <;> omega) | fail) [i_zz77, hg, hn', hn, splice, fresults, fresL, fres1]
end

/- Cones and powers: plain laws. -/
section
open Go
theorem wo_top {n : Nat} : wo (n : Int) (n + 1) = rng n := by
 rw [wo_succ, if_neg (by simp), List.append_nil]
 unfold wo
 rw [List.filter_eq_self]
 intro x hx
 unfold rng at hx
 obtain ⟨a, ha, rfl⟩ := List.mem_map.mp hx
 have := List.mem_range.mp ha
 simp; omega
theorem rng_getD {n : Nat} {x : Nat} (hx : x < n) : (rng n).getD x 0 = x := by
 unfold rng
 rw [List.getD_eq_getElem?_getD, List.getElem?_map, List.getElem?_range hx]; rfl
section
variable {n : Nat} {rows : List Int} (g : GV n rows)
include g
theorem irr1 (a : Nat) : rbit rows a a ≠ true := irr_of g a
theorem cone_ok (h62 : n + 1 ≤ 62) : IsAdj (n + 1) (adjRows (n + 1) (coneAdj rows n)) (coneAdj rows n) := adjRows_ok fun v w _ h => by
 rcases h with ⟨h1, h2⟩ | ⟨h1, h2⟩ | ⟨h1, h2⟩
 ·have := (rbit_lt g.rok h2).2; omega
 ·omega
 ·omega
theorem cone_gv (h62 : n + 1 ≤ 62) : GV ((n + 1 : Nat) : Int) (adjRows (n + 1) (coneAdj rows n)) :=
 GV.of (cone_ok g h62) (by omega) h62 (fun v w _ h => by
  rcases h with ⟨h1, h2⟩ | ⟨h1, h2⟩ | ⟨h1, h2⟩
  ·have := (rbit_lt g.rok h2).2; omega
  ·omega
  ·omega) (fun v h => by
  rcases h with ⟨h1, h2⟩ | ⟨h1, h2⟩ | ⟨h1, h2⟩
  ·exact irr1 g v h2
  ·omega
  ·omega) (fun v w h => by
  rcases h with ⟨h1, h2⟩ | ⟨h1, h2⟩ | ⟨h1, h2⟩
  ·exact .inl ⟨(rbit_lt g.rok h2).2, g.sym' h2⟩
  ·exact .inr (.inr ⟨h2, h1⟩)
  ·exact .inr (.inl ⟨h2, h1⟩))
theorem cone_back (h62 : n + 1 ≤ 62) : takeVAns ((n : Int) + 1) (adjRows (n + 1) (coneAdj rows n)) n = .inl ((n : Int), rows) := by
 have G := cone_gv g h62
 have A := cone_ok g h62
 have hc : ((n + 1 : Nat) : Int) = (n : Int) + 1 := by omega
 rw [hc] at G
 have lo := g.lo
 have hv : vtxCode ((n : Int) + 1) (adjRows (n + 1) (coneAdj rows n)) [(n : Int)] = 0 := by
  unfold vtxCode
  rw [if_pos G, if_neg]
  rintro ⟨j, h1, h2, h3⟩
  simp at h2
  have hj : j = 0 := by omega
  subst hj
  apply h3
  simp
  omega
 have hr : (rng n).length = n := by simp [rng]
 unfold takeVAns
 rw [hv, if_neg (by simp), if_neg (by omega), show ((n : Int) + 1).toNat = n + 1 by omega, wo_top, hr]
 have e : onRows (adjRows (n + 1) (coneAdj rows n)) (rng n) = rows := by
  unfold onRows
  rw [hr]
  refine IsAdj.eq (g.rok.isAdj.congr fun x y hx => ?_)
  unfold onAdj
  rw [hr]
  constructor
  ·intro h
   have hy := (rbit_lt g.rok h).2
   refine ⟨⟨hx, hy, ?_⟩, fun e => irr1 g x (by rw [← e] at h; exact h)⟩
   rw [rng_getD hx, rng_getD hy, Int.toNat_natCast, Int.toNat_natCast, (A.2 x (by omega)).2.2]
   exact .inl ⟨hx, h⟩
  ·rintro ⟨⟨_, hy, h⟩, _⟩
   rw [rng_getD hx, rng_getD hy, Int.toNat_natCast, Int.toNat_natCast, (A.2 x (by omega)).2.2] at h
   rcases h with ⟨_, h⟩ | ⟨_, h⟩ | ⟨h, _⟩
   ·exact h
   ·omega
   ·omega
 rw [e]
theorem far_next {v w : Nat} (hv : v < n) (h : rbit rows v w = true) : far rows v w = 1 := by
 have h1 := far_self g.rok hv
 obtain ⟨h2, h3⟩ := far_step g.rok hv h (by omega)
 have h4 := far_pos g.rok hv (fun e => irr1 g v (by rw [← e] at h; exact h)) h2
 omega
theorem pow_ok (k : Int) : IsAdj n (adjRows n (pwAdj rows n k)) (pwAdj rows n k) := adjRows_ok fun v w _ h => by
 have := h.2.1
 have := g.hi
 omega
theorem pow_sub {k : Int} (hk : 1 ≤ k) {v : Nat} (hv : v < n) : iand .i64 ((adjRows n (pwAdj rows n k)).getD v 0) (rows.getD v 0) = rows.getD v 0 := by
 have A := pow_ok g k
 obtain ⟨a1, a2, a3⟩ := A.2 v hv
 obtain ⟨r1, r2, _⟩ := g.rok.isAdj.2 v hv
 obtain ⟨a, ha⟩ : ∃ a : Nat, (adjRows n (pwAdj rows n k)).getD v 0 = a := ⟨_, (Int.toNat_of_nonneg a1).symm⟩
 obtain ⟨b, hb⟩ : ∃ b : Nat, rows.getD v 0 = b := ⟨_, (Int.toNat_of_nonneg r1).symm⟩
 rw [ha] at a2
 rw [hb] at r2
 rw [ha, hb]
 rw [iand_nat (by omega) (by omega)]
 congr 1
 apply Nat.eq_of_testBit_eq
 intro w
 rw [Nat.testBit_and]
 cases hw : b.testBit w with
 | false => simp
 | true =>
  have hr : rbit rows v w = true := by unfold rbit; rw [hb, Int.toNat_natCast]; exact hw
  have h1 : pwAdj rows n k v w := ⟨hv, (rbit_lt g.rok hr).2, by
   unfold pwc
   rw [far_next g hv hr]
   omega⟩
  have h2 := (a3 w).mpr h1
  unfold rbit at h2
  rw [ha, Int.toNat_natCast] at h2
  rw [h2]; rfl
end
end

/- Groups: what tells them, their numbers of elements, their products. -/
section
open Go
variable {nro : Nat}
def gpB (K P : Int) : Prop := (K = 0 ∧ 1 ≤ P ∧ P ≤ 62) ∨ (K = 1 ∧ 1 ≤ P ∧ P ≤ 31) ∨ (K = 2 ∧ (P = 2 ∨ P = 3 ∨ P = 5 ∨ P = 7))
instance (K P : Int) : Decidable (gpB K P) := by unfold gpB; infer_instance
theorem wrN {a : Int} {r : Nat} (h : a = r) (h2 : r ≤ 100000) : IntKind.i64.wrap a = r := by rw [h]; exact wrap64 (by omega) (by omega)
end

/- Groups: inverses, codes, products, orders, as the two programs reckon them. -/
section
open Go
variable {nro : Nat}
def gin (K P x : Int) : Prop := 0 ≤ x ∧ x < (gord K.toNat P.toNat : Nat)
instance (K P x : Int) : Decidable (gin K P x) := by unfold gin; infer_instance
end

/- What is generated: plain. -/
section
open Go
inductive Gen (m : Nat → Nat → Nat) (ss : List Nat) : Nat → Prop
 | zero : Gen m ss 0
 | step (x s : Nat) : Gen m ss x → s ∈ ss → Gen m ss (m x s)
end

/- What is generated, by the program. -/
section
open Go
variable {nro : Nat}
def ires (h : VH) : List Int ⊕ Int → Value × VH
 | .inl xs => (.tuple #[.slice (some ⟨h.length, 0, none⟩) xs.length xs.length, .int .i64 0], h ++ [⟨1, ints xs⟩])
 | .inr c => (.tuple #[.slice none 0 0, .int .i64 c], h)
end

/- What is generated, by the reference. -/
section
open Go
variable {nro : Nat}
def btb (N : Nat) (p : Nat → Bool) : List Value := (List.range N).map fun x => .bool (p x)
@[simp] theorem btb_length (N : Nat) (p : Nat → Bool) : (btb N p).length = N := by simp [btb]
end

/- Graphs with names: each of the fifteen is a graph. -/
section
open Go
variable {nro : Nat}
theorem GV.put2I {n : Int} {r : List Int} (g : GV n r) {a b : Int} (ha : 0 ≤ a) (ha2 : a < n) (hb : 0 ≤ b) (hb2 : b < n) (hne : a ≠ b) : GV n (Zv.put2 r a b) := by
 obtain ⟨v, rfl⟩ : ∃ v : Nat, a = v := ⟨a.toNat, by omega⟩
 obtain ⟨w, rfl⟩ : ∃ w : Nat, b = w := ⟨b.toNat, by omega⟩
 obtain ⟨N, rfl⟩ : ∃ N : Nat, n = N := ⟨n.toNat, by omega⟩
 exact g.put2 (by omega) (by omega) (by omega)
def nmH (h : VH) (N : Nat) (r : List Int) : VH := h ++ [⟨0, [.int .i64 0, .slice none 0 0]⟩, ⟨1, ints r⟩, ⟨0, [.int .i64 N, .slice (some ⟨h.length + 1, 0, none⟩) N N]⟩]
theorem nm_put {h : VH} {N : Nat} {r : List Int} (hn : nro ≤ h.length) (hN : N ≤ 62) (v w : Int) (hl : r.length = N) (hv0 : 0 ≤ v) (hv : v < N) (hw0 : 0 ≤ w) (hw : w < N) :
  vcall F nro k_zz90 [gv N (.slice (some ⟨h.length + 1, 0, none⟩) N N), .int .i64 v, .int .i64 w] (nmH h N r) = some (.tuple #[], nmH h N (put2 r v w)) := by
 obtain ⟨a, rfl⟩ : ∃ a : Nat, v = a := ⟨v.toNat, by omega⟩
 obtain ⟨b, rfl⟩ : ∃ b : Nat, w = b := ⟨w.toNat, by omega⟩
 have e := mk_put (nro := nro) (P := h ++ [⟨0, [.int .i64 0, .slice none 0 0]⟩]) (C := [⟨0, [.int .i64 N, .slice (some ⟨h.length + 1, 0, none⟩) N N]⟩]) (by simp; omega) hl hN a b (by omega) (by omega)
 unfold nmH
 simpa using e
theorem nm_clean {h : VH} {N : Nat} {r0 r1 : List Int} {vs : List Value} (hv : ∀ v ∈ vs, Old (h.length + 3) v) : kclean (nmH h N r0) vs (nmH h N r1) = (vs, nmH h N r1) := by
 have e := mk_clean (P := h ++ [⟨0, [.int .i64 0, .slice none 0 0]⟩]) (C := [⟨0, [.int .i64 N, .slice (some ⟨h.length + 1, 0, none⟩) N N]⟩]) (r0 := r0) (r1 := r1) (vs := vs) (by simpa using hv)
 unfold nmH
 simpa using e
theorem nm_get0 (h : VH) (N : Nat) (r : List Int) : (nmH h N r)[h.length]? = some ⟨0, [.int .i64 0, .slice none 0 0]⟩ := by simp [nmH]
theorem nm_get2 (h : VH) (N : Nat) (r : List Int) : (nmH h N r)[h.length + 2]? = some ⟨0, [.int .i64 N, .slice (some ⟨h.length + 1, 0, none⟩) N N]⟩ := by simp [nmH]
theorem nm_len (h : VH) (N : Nat) (r : List Int) : (nmH h N r).length = h.length + 3 := by simp [nmH]
noncomputable def f3 (i : Nat) (r : List Int) : List Int := put2 (put2 (put2 r i ((i + 1) % 5 : Nat)) i (i + 5 : Nat)) (i + 5 : Nat) ((i + 2) % 5 + 5 : Nat)
theorem l_l01Named_3 (h : VH) (hn : nro ≤ h.length) (r0 : List Int) (g0 : GV 10 r0) :
  ∃ r1, GV 10 r1 ∧ floop (vcall F nro) nro [2, 8, 9] i_zz69_B3 (nmH h 10 r0) [.pointer (some ⟨h.length, 0, some 2⟩), .pointer (some ⟨h.length + 2, 0, some 2⟩), .int .i64 0] (nmH h 10 r0) =
   some (.exit 5, fl [(2, .pointer (some ⟨h.length, 0, some 2⟩)), (8, .pointer (some ⟨h.length + 2, 0, some 2⟩))], nmH h 10 r1) := by
 have hp := fun r v w => nm_put (nro := nro) (h := h) (N := 10) (r := r) hn (by omega) v w
 simp only [gv, Int.cast_ofNat_Int] at hp
 refine Exists.elim (for_upR (call := vcall F nro) (nro := nro) (live := [2, 8, 9]) (c := i_zz69_B3) (h0 := nmH h 10 r0) (n := 5) (fun i (_ : List Int) => [.pointer (some ⟨h.length, 0, some 2⟩), .pointer (some ⟨h.length + 2, 0, some 2⟩), .int .i64 i]) (fun _ r => nmH h 10 r)
  (fun _ r => GV 10 r) (fun r => some (.exit 5, fl [(2, .pointer (some ⟨h.length, 0, some 2⟩)), (8, .pointer (some ⟨h.length + 2, 0, some 2⟩))], nmH h 10 r)) ?_ ?_ 0 r0 (Nat.zero_le _) g0) ?_
 ·intro i r1 hi hi2 g1
  have hl := g1.rok.len
  clear hi2 g0
  have g2 : GV 10 (f3 i r1) := by
   unfold f3
   have : i = 0 ∨ i = 1 ∨ i = 2 ∨ i = 3 ∨ i = 4 := by omega
   rcases this with rfl | rfl | rfl | rfl | rfl <;> exact ((g1.put2I (by decide) (by decide) (by decide) (by decide) (by decide)).put2I (by decide) (by decide) (by decide) (by decide) (by decide)).put2I (by decide) (by decide) (by decide) (by decide) (by decide)
  refine ⟨f3 i r1, g2, ?_⟩
  clear g1 g2
  unfold f3
  have : i = 0 ∨ i = 1 ∨ i = 2 ∨ i = 3 ∨ i = 4 := by omega
  clear hi
  rw [floop_at i_zz69_B3.eq_1]
  rcases this with rfl | rfl | rfl | rfl | rfl <;> simp (disch := first | assumption | omega | (simp [*] <;> omega) | fail) [-getElem?_pos, List.getElem?_cons_zero, List.getElem?_cons_succ, hp, hl, nm_get0, nm_get2, nm_clean, nm_len, wrap64]
 ·intro r1 _
  rw [floop_at i_zz69_B3.eq_1]
  simp (disch := first | assumption | omega | (simp [*] <;> omega) | fail) [-getElem?_pos, List.getElem?_cons_zero, List.getElem?_cons_succ, nm_clean, nm_len]
 ·rintro r1 ⟨g1, hf⟩
  exact ⟨r1, g1, hf⟩
noncomputable def f4 (i : Nat) (r : List Int) : List Int :=
 put2 (put2 (put2 (put2 (put2 (put2 r 0 (1 + i : Nat)) 11 (6 + i : Nat)) (1 + i : Nat) (1 + (i + 1) % 5 : Nat)) (6 + i : Nat) (6 + (i + 1) % 5 : Nat)) (1 + i : Nat) (6 + i : Nat)) (1 + i : Nat) (6 + (i + 1) % 5 : Nat)
theorem l_l01Named_4 (h : VH) (hn : nro ≤ h.length) (r0 : List Int) (g0 : GV 12 r0) :
  ∃ r1, GV 12 r1 ∧ floop (vcall F nro) nro [2, 10, 11] i_zz69_B4 (nmH h 12 r0) [.pointer (some ⟨h.length, 0, some 2⟩), .pointer (some ⟨h.length + 2, 0, some 2⟩), .int .i64 0] (nmH h 12 r0) =
   some (.exit 7, fl [(2, .pointer (some ⟨h.length, 0, some 2⟩)), (10, .pointer (some ⟨h.length + 2, 0, some 2⟩))], nmH h 12 r1) := by
 have hp := fun r v w => nm_put (nro := nro) (h := h) (N := 12) (r := r) hn (by omega) v w
 simp only [gv, Int.cast_ofNat_Int] at hp
 refine Exists.elim (for_upR (call := vcall F nro) (nro := nro) (live := [2, 10, 11]) (c := i_zz69_B4) (h0 := nmH h 12 r0) (n := 5) (fun i (_ : List Int) => [.pointer (some ⟨h.length, 0, some 2⟩), .pointer (some ⟨h.length + 2, 0, some 2⟩), .int .i64 i]) (fun _ r => nmH h 12 r)
  (fun _ r => GV 12 r) (fun r => some (.exit 7, fl [(2, .pointer (some ⟨h.length, 0, some 2⟩)), (10, .pointer (some ⟨h.length + 2, 0, some 2⟩))], nmH h 12 r)) ?_ ?_ 0 r0 (Nat.zero_le _) g0) ?_
 ·intro i r1 hi hi2 g1
  have hl := g1.rok.len
  clear hi2 g0
  have g2 : GV 12 (f4 i r1) := by
   unfold f4
   have : i = 0 ∨ i = 1 ∨ i = 2 ∨ i = 3 ∨ i = 4 := by omega
   rcases this with rfl | rfl | rfl | rfl | rfl <;> exact (((((g1.put2I (by decide) (by decide) (by decide) (by decide) (by decide)).put2I (by decide) (by decide) (by decide) (by decide) (by decide)).put2I (by decide) (by decide) (by decide) (by decide) (by decide)).put2I (by decide) (by decide) (by decide) (by decide) (by decide)).put2I (by decide) (by decide) (by decide) (by decide) (by decide)).put2I (by decide) (by decide) (by decide) (by decide) (by decide)
  refine ⟨f4 i r1, g2, ?_⟩
  clear g1 g2
  unfold f4
  have : i = 0 ∨ i = 1 ∨ i = 2 ∨ i = 3 ∨ i = 4 := by omega
  clear hi
  rw [floop_at i_zz69_B4.eq_1]
  rcases this with rfl | rfl | rfl | rfl | rfl <;> simp (disch := first | assumption | omega | (simp [*] <;> omega) | fail) [-getElem?_pos, List.getElem?_cons_zero, List.getElem?_cons_succ, hp, hl, nm_get0, nm_get2, nm_clean, nm_len, wrap64]
 ·intro r1 _
  rw [floop_at i_zz69_B4.eq_1]
  simp (disch := first | assumption | omega | (simp [*] <;> omega) | fail) [-getElem?_pos, List.getElem?_cons_zero, List.getElem?_cons_succ, nm_clean, nm_len]
 ·rintro r1 ⟨g1, hf⟩
  exact ⟨r1, g1, hf⟩
theorem l_l01Named_1 (h : VH) (hn : nro ≤ h.length) (n : Nat) (hn2 : n = 8 ∨ n = 16) (v : Nat) (hv : v < n) (r0 : List Int) (g0 : GV n r0) :
  ∃ r1, GV n r1 ∧ floop (vcall F nro) nro [2, 4, 5, 6, 7] i_zz69_B1 (nmH h n r0) [.pointer (some ⟨h.length, 0, some 2⟩), .int .i64 n, .pointer (some ⟨h.length + 2, 0, some 2⟩), .int .i64 v, .int .i64 1] (nmH h n r0) =
   some (.exit 3, fl [(2, .pointer (some ⟨h.length, 0, some 2⟩)), (4, .int .i64 n), (5, .pointer (some ⟨h.length + 2, 0, some 2⟩)), (6, .int .i64 v)], nmH h n r1) := by
 have hp := fun r v w => nm_put (nro := nro) (h := h) (N := n) (r := r) hn (by omega) v w
 have step : ∀ (k : Nat) (r : List Int), 1 ≤ k → k < n → GV n r → ∃ r1, GV n r1 ∧ floop (vcall F nro) nro [2, 4, 5, 6, 7] i_zz69_B1 (nmH h n r0) [.pointer (some ⟨h.length, 0, some 2⟩), .int .i64 n, .pointer (some ⟨h.length + 2, 0, some 2⟩), .int .i64 v, .int .i64 k] (nmH h n r) =
   floop (vcall F nro) nro [2, 4, 5, 6, 7] i_zz69_B1 (nmH h n r0) [.pointer (some ⟨h.length, 0, some 2⟩), .int .i64 n, .pointer (some ⟨h.length + 2, 0, some 2⟩), .int .i64 v, .int .i64 (2 * k : Nat)] (nmH h n r1) := by
  intro k r hk1 hk g
  have hx : v ^^^ k < n := by
   rcases hn2 with rfl | rfl
   ·exact Nat.xor_lt_two_pow (n := 3) hv hk
   ·exact Nat.xor_lt_two_pow (n := 4) hv hk
  have hne : v ≠ v ^^^ k := by
   intro e
   have : v ^^^ (v ^^^ k) = 0 := by rw [← e, Nat.xor_self]
   rw [← Nat.xor_assoc, Nat.xor_self, Nat.zero_xor] at this
   omega
  have e1 := ixor_nat (a := v) (b := k) (by omega) (by omega)
  have hl := g.rok.len
  have g2 := g.put2 hv hx hne
  obtain ⟨x, hx2⟩ : ∃ x, x = v ^^^ k := ⟨_, rfl⟩
  rw [← hx2] at e1 hx g2
  refine ⟨put2 r v x, g2, ?_⟩
  have w1 : IntKind.i64.wrap (2 * (k : Int)) = 2 * (k : Int) := wrap64 (by omega) (by omega)
  clear g g2 hne hx2 g0
  rw [floop_at i_zz69_B1.eq_1]
  simp (disch := first | assumption | omega | (simp [*] <;> omega) | fail) [-getElem?_pos, List.getElem?_cons_zero, List.getElem?_cons_succ, hp, hl, hk, nm_get0, nm_get2, nm_clean, nm_len, e1, w1]
 have stop : ∀ r, floop (vcall F nro) nro [2, 4, 5, 6, 7] i_zz69_B1 (nmH h n r0) [.pointer (some ⟨h.length, 0, some 2⟩), .int .i64 n, .pointer (some ⟨h.length + 2, 0, some 2⟩), .int .i64 v, .int .i64 n] (nmH h n r) =
   some (.exit 3, fl [(2, .pointer (some ⟨h.length, 0, some 2⟩)), (4, .int .i64 n), (5, .pointer (some ⟨h.length + 2, 0, some 2⟩)), (6, .int .i64 v)], nmH h n r) := by
  intro r
  rw [floop_at i_zz69_B1.eq_1]
  simp (disch := first | assumption | omega | (simp [*] <;> omega) | fail) [-getElem?_pos, List.getElem?_cons_zero, List.getElem?_cons_succ, nm_clean, nm_len]
 obtain ⟨r1, g1, e1⟩ := step 1 r0 (by omega) (by omega) g0
 obtain ⟨r2, g2, e2⟩ := step 2 r1 (by omega) (by omega) g1
 obtain ⟨r3, g3, e3⟩ := step 4 r2 (by omega) (by omega) g2
 have f1 : floop (vcall F nro) nro [2, 4, 5, 6, 7] i_zz69_B1 (nmH h n r0) [.pointer (some ⟨h.length, 0, some 2⟩), .int .i64 n, .pointer (some ⟨h.length + 2, 0, some 2⟩), .int .i64 v, .int .i64 1] (nmH h n r0) = floop (vcall F nro) nro [2, 4, 5, 6, 7] i_zz69_B1 (nmH h n r0) [.pointer (some ⟨h.length, 0, some 2⟩), .int .i64 n, .pointer (some ⟨h.length + 2, 0, some 2⟩), .int .i64 v, .int .i64 (8 : Nat)] (nmH h n r3) := e1.trans (e2.trans e3)
 by_cases c : n = 8
 ·subst c
  exact ⟨r3, g3, f1.trans (stop r3)⟩
 ·have c2 : n = 16 := by omega
  subst c2
  obtain ⟨r4, g4, e4⟩ := step 8 r3 (by omega) (by omega) g3
  exact ⟨r4, g4, f1.trans (e4.trans (stop r4))⟩
theorem l_l01Named_2 (h : VH) (hn : nro ≤ h.length) (n : Nat) (hn2 : n = 8 ∨ n = 16) (r0 : List Int) (g0 : GV n r0) :
  ∃ r1, GV n r1 ∧ floop (vcall F nro) nro [2, 4, 5, 6] i_zz69_B2 (nmH h n r0) [.pointer (some ⟨h.length, 0, some 2⟩), .int .i64 n, .pointer (some ⟨h.length + 2, 0, some 2⟩), .int .i64 0] (nmH h n r0) =
   some (.exit 1, fl [(2, .pointer (some ⟨h.length, 0, some 2⟩)), (5, .pointer (some ⟨h.length + 2, 0, some 2⟩))], nmH h n r1) := by
 have hp := fun r v w => nm_put (nro := nro) (h := h) (N := n) (r := r) hn (by omega) v w
 refine Exists.elim (for_upR (call := vcall F nro) (nro := nro) (live := [2, 4, 5, 6]) (c := i_zz69_B2) (h0 := nmH h n r0) (n := n) (fun i (_ : List Int) => [.pointer (some ⟨h.length, 0, some 2⟩), .int .i64 n, .pointer (some ⟨h.length + 2, 0, some 2⟩), .int .i64 i]) (fun _ r => nmH h n r)
  (fun _ r => GV n r) (fun r => some (.exit 1, fl [(2, .pointer (some ⟨h.length, 0, some 2⟩)), (5, .pointer (some ⟨h.length + 2, 0, some 2⟩))], nmH h n r)) ?_ ?_ 0 r0 (Nat.zero_le _) g0) ?_
 ·intro v r1 hv hv2 g1
  obtain ⟨r2, g2, e2⟩ := l_l01Named_1 (nro := nro) h hn n hn2 v hv r1 g1
  have hl := g2.rok.len
  have w1 : IntKind.i64.wrap ((v : Int) + 1) = (v : Int) + 1 := wrap64 (by omega) (by omega)
  by_cases c : n = 16
  ·subst c
   have g3 := g2.put2I (a := v) (b := 15 - (v : Int)) (by omega) (by omega) (by omega) (by omega) (by omega)
   refine ⟨put2 r2 v (15 - (v : Int)), g3, ?_⟩
   have hv3 : (v : Int) < 16 := by omega
   have w2 : IntKind.i64.wrap (15 - (v : Int)) = 15 - (v : Int) := wrap64 (by omega) (by omega)
   have k1 : 0 ≤ 15 - (v : Int) := by omega
   have k2 : 15 - (v : Int) < 16 := by omega
   simp only [gv, Int.cast_ofNat_Int] at hp e2
   clear g1 g2 g3 g0 hn2
   rw [floop_at i_zz69_B2.eq_1]
   simp (disch := first | assumption | omega | (simp [*] <;> omega) | fail) [-getElem?_pos, List.getElem?_cons_zero, List.getElem?_cons_succ, hp, hl, hv, hv3, nm_get0, nm_get2, nm_clean, nm_len, e2, w1, w2, k1, k2]
  ·have c2 : ¬ (n : Int) = 16 := by omega
   refine ⟨r2, g2, ?_⟩
   clear g1 g2 g0 hn2
   rw [floop_at i_zz69_B2.eq_1]
   simp (disch := first | assumption | omega | (simp [*] <;> omega) | fail) [-getElem?_pos, List.getElem?_cons_zero, List.getElem?_cons_succ, hl, hv, nm_get0, nm_get2, nm_clean, nm_len, e2, w1, c2, c]
 ·intro r1 _
  rw [floop_at i_zz69_B2.eq_1]
  simp (disch := first | assumption | omega | (simp [*] <;> omega) | fail) [-getElem?_pos, List.getElem?_cons_zero, List.getElem?_cons_succ, nm_clean, nm_len]
 ·rintro r1 ⟨g1, hf⟩
  exact ⟨r1, g1, hf⟩
theorem l_l01Named_5 (h : VH) (hn : nro ≤ h.length) (u j : Nat) (hu : u < 5) (hj : j < 5) (r0 : List Int) (g0 : GV 50 r0) :
  ∃ r1, GV 50 r1 ∧ floop (vcall F nro) nro [2, 13, 14, 15, 16] i_zz69_B5 (nmH h 50 r0) [.pointer (some ⟨h.length, 0, some 2⟩), .pointer (some ⟨h.length + 2, 0, some 2⟩), .int .i64 u, .int .i64 j, .int .i64 0] (nmH h 50 r0) =
   some (.exit 13, fl [(2, .pointer (some ⟨h.length, 0, some 2⟩)), (13, .pointer (some ⟨h.length + 2, 0, some 2⟩)), (14, .int .i64 u), (15, .int .i64 j)], nmH h 50 r1) := by
 have hp := fun r v w => nm_put (nro := nro) (h := h) (N := 50) (r := r) hn (by omega) v w
 simp only [gv, Int.cast_ofNat_Int] at hp
 refine Exists.elim (for_upR (call := vcall F nro) (nro := nro) (live := [2, 13, 14, 15, 16]) (c := i_zz69_B5) (h0 := nmH h 50 r0) (n := 5) (fun i (_ : List Int) => [.pointer (some ⟨h.length, 0, some 2⟩), .pointer (some ⟨h.length + 2, 0, some 2⟩), .int .i64 u, .int .i64 j, .int .i64 i]) (fun _ r => nmH h 50 r)
  (fun _ r => GV 50 r) (fun r => some (.exit 13, fl [(2, .pointer (some ⟨h.length, 0, some 2⟩)), (13, .pointer (some ⟨h.length + 2, 0, some 2⟩)), (14, .int .i64 u), (15, .int .i64 j)], nmH h 50 r)) ?_ ?_ 0 r0 (Nat.zero_le _) g0) ?_
 ·intro i r1 hi hi2 g1
  have hl := g1.rok.len
  have hm : u * i ≤ 16 := Nat.le_trans (Nat.mul_le_mul (show u ≤ 4 by omega) (show i ≤ 4 by omega)) (by omega)
  obtain ⟨m, hm2⟩ : ∃ m, m = u * i := ⟨_, rfl⟩
  have e0 : (u : Int) * (i : Int) = m := by rw [hm2, Int.natCast_mul]
  have k1 : m ≤ 16 := by omega
  have w1 : IntKind.i64.wrap (5 * (u : Int)) = 5 * (u : Int) := wrap64 (by omega) (by omega)
  have w2 : IntKind.i64.wrap (5 * (u : Int) + j) = 5 * (u : Int) + j := wrap64 (by omega) (by omega)
  have w3 : IntKind.i64.wrap (5 * (i : Int)) = 5 * (i : Int) := wrap64 (by omega) (by omega)
  have w4 : IntKind.i64.wrap (25 + 5 * (i : Int)) = 25 + 5 * (i : Int) := wrap64 (by omega) (by omega)
  have w5 : IntKind.i64.wrap (m : Int) = m := wrap64 (by omega) (by omega)
  have w6 : IntKind.i64.wrap ((m : Int) + j) = (m : Int) + j := wrap64 (by omega) (by omega)
  obtain ⟨q, hq⟩ : ∃ q : Nat, q = (m + j) % 5 := ⟨_, rfl⟩
  have hq5 : q < 5 := by rw [hq]; omega
  have t1 : ((m : Int) + j).tmod 5 = q := by
   clear e0 hm2
   rw [Int.tmod_eq_emod_of_nonneg (by omega), hq]; omega
  have w7 : IntKind.i64.wrap (q : Int) = q := wrap64 (by omega) (by omega)
  have w8 : IntKind.i64.wrap (25 + 5 * (i : Int) + q) = 25 + 5 * (i : Int) + q := wrap64 (by omega) (by omega)
  have w9 : IntKind.i64.wrap ((i : Int) + 1) = (i : Int) + 1 := wrap64 (by omega) (by omega)
  have g2 := g1.put2I (a := 5 * (u : Int) + j) (b := 25 + 5 * (i : Int) + q) (by omega) (by omega) (by omega) (by omega) (by omega)
  have a1 : 0 ≤ 5 * (u : Int) + j := by omega
  have a2 : 5 * (u : Int) + j < 50 := by omega
  have a3 : 0 ≤ 25 + 5 * (i : Int) + q := by omega
  have a4 : 25 + 5 * (i : Int) + q < 50 := by omega
  refine ⟨put2 r1 (5 * (u : Int) + j) (25 + 5 * (i : Int) + q), g2, ?_⟩
  clear g1 g2 g0 hq hm2 hm
  have hi3 : (i : Int) < 5 := by omega
  rw [floop_at i_zz69_B5.eq_1]
  simp (disch := first | assumption | omega | (simp [*] <;> omega) | fail) [-getElem?_pos, List.getElem?_cons_zero, List.getElem?_cons_succ, hp, hl, hi3, nm_get0, nm_get2, nm_clean, nm_len, e0, w1, w2, w3, w4, w5, w6, w7, w8, w9, t1, a1, a2, a3, a4]
 ·intro r1 _
  rw [floop_at i_zz69_B5.eq_1]
  simp (disch := first | assumption | omega | (simp [*] <;> omega) | fail) [-getElem?_pos, List.getElem?_cons_zero, List.getElem?_cons_succ, nm_clean, nm_len]
 ·rintro r1 ⟨g1, hf⟩
  exact ⟨r1, g1, hf⟩
set_option maxHeartbeats 4000000 in
theorem l_l01Named_6 (h : VH) (hn : nro ≤ h.length) (u : Nat) (hu : u < 5) (r0 : List Int) (g0 : GV 50 r0) :
  ∃ r1, GV 50 r1 ∧ floop (vcall F nro) nro [2, 13, 14, 15] i_zz69_B6 (nmH h 50 r0) [.pointer (some ⟨h.length, 0, some 2⟩), .pointer (some ⟨h.length + 2, 0, some 2⟩), .int .i64 u, .int .i64 0] (nmH h 50 r0) =
   some (.exit 11, fl [(2, .pointer (some ⟨h.length, 0, some 2⟩)), (13, .pointer (some ⟨h.length + 2, 0, some 2⟩)), (14, .int .i64 u)], nmH h 50 r1) := by
 have hp := fun r v w => nm_put (nro := nro) (h := h) (N := 50) (r := r) hn (by omega) v w
 simp only [gv, Int.cast_ofNat_Int] at hp
 refine Exists.elim (for_upR (call := vcall F nro) (nro := nro) (live := [2, 13, 14, 15]) (c := i_zz69_B6) (h0 := nmH h 50 r0) (n := 5) (fun i (_ : List Int) => [.pointer (some ⟨h.length, 0, some 2⟩), .pointer (some ⟨h.length + 2, 0, some 2⟩), .int .i64 u, .int .i64 i]) (fun _ r => nmH h 50 r)
  (fun _ r => GV 50 r) (fun r => some (.exit 11, fl [(2, .pointer (some ⟨h.length, 0, some 2⟩)), (13, .pointer (some ⟨h.length + 2, 0, some 2⟩)), (14, .int .i64 u)], nmH h 50 r)) ?_ ?_ 0 r0 (Nat.zero_le _) g0) ?_
 ·intro j r1 hj hj2 g1
  have hl := g1.rok.len
  have w1 : IntKind.i64.wrap (5 * (u : Int)) = 5 * (u : Int) := wrap64 (by omega) (by omega)
  have w2 : IntKind.i64.wrap (5 * (u : Int) + j) = 5 * (u : Int) + j := wrap64 (by omega) (by omega)
  have w3 : IntKind.i64.wrap ((j : Int) + 1) = (j : Int) + 1 := wrap64 (by omega) (by omega)
  have w4 : IntKind.i64.wrap ((j : Int) + 2) = (j : Int) + 2 := wrap64 (by omega) (by omega)
  have w5 : IntKind.i64.wrap (25 + 5 * (u : Int)) = 25 + 5 * (u : Int) := wrap64 (by omega) (by omega)
  have w6 : IntKind.i64.wrap (25 + 5 * (u : Int) + j) = 25 + 5 * (u : Int) + j := wrap64 (by omega) (by omega)
  obtain ⟨p, hp1⟩ : ∃ p : Nat, p = (j + 1) % 5 := ⟨_, rfl⟩
  obtain ⟨q, hq1⟩ : ∃ q : Nat, q = (j + 2) % 5 := ⟨_, rfl⟩
  have hp5 : p < 5 ∧ p ≠ j := by omega
  have hq5 : q < 5 ∧ q ≠ j := by omega
  have t1 : ((j : Int) + 1).tmod 5 = p := by rw [Int.tmod_eq_emod_of_nonneg (by omega)]; omega
  have t2 : ((j : Int) + 2).tmod 5 = q := by rw [Int.tmod_eq_emod_of_nonneg (by omega)]; omega
  have w7 : IntKind.i64.wrap (p : Int) = p := wrap64 (by omega) (by omega)
  have w8 : IntKind.i64.wrap (q : Int) = q := wrap64 (by omega) (by omega)
  have w9 : IntKind.i64.wrap (5 * (u : Int) + p) = 5 * (u : Int) + p := wrap64 (by omega) (by omega)
  have w10 : IntKind.i64.wrap (25 + 5 * (u : Int) + q) = 25 + 5 * (u : Int) + q := wrap64 (by omega) (by omega)
  have a1 : 0 ≤ 5 * (u : Int) + j := by omega
  have a2 : 5 * (u : Int) + j < 50 := by omega
  have a3 : 0 ≤ 5 * (u : Int) + p := by omega
  have a4 : 5 * (u : Int) + p < 50 := by omega
  have a5 : 0 ≤ 25 + 5 * (u : Int) + j := by omega
  have a6 : 25 + 5 * (u : Int) + j < 50 := by omega
  have a7 : 0 ≤ 25 + 5 * (u : Int) + q := by omega
  have a8 : 25 + 5 * (u : Int) + q < 50 := by omega
  have g2 := (g1.put2I (a := 5 * (u : Int) + j) (b := 5 * (u : Int) + p) (by omega) (by omega) (by omega) (by omega) (by omega)).put2I (a := 25 + 5 * (u : Int) + j) (b := 25 + 5 * (u : Int) + q) (by omega) (by omega) (by omega) (by omega) (by omega)
  obtain ⟨r3, g3, e3⟩ := l_l01Named_5 (nro := nro) h hn u j hu hj _ g2
  refine ⟨r3, g3, ?_⟩
  clear g1 g2 g3 g0 hp1 hq1 hp5 hq5
  have hj3 : (j : Int) < 5 := by omega
  rw [floop_at i_zz69_B6.eq_1]
  simp (disch := first | assumption | omega | (simp [*] <;> omega) | fail) [-getElem?_pos, List.getElem?_cons_zero, List.getElem?_cons_succ, hp, hl, hj3, nm_get0, nm_get2, nm_clean, nm_len, w1, w2, w3, w4, w5, w6, w7, w8, w9, w10, t1, t2, a1, a2, a3, a4, a5, a6, a7, a8, e3]
 ·intro r1 _
  rw [floop_at i_zz69_B6.eq_1]
  simp (disch := first | assumption | omega | (simp [*] <;> omega) | fail) [-getElem?_pos, List.getElem?_cons_zero, List.getElem?_cons_succ, nm_clean, nm_len]
 ·rintro r1 ⟨g1, hf⟩
  exact ⟨r1, g1, hf⟩
theorem l_l01Named_7 (h : VH) (hn : nro ≤ h.length) (r0 : List Int) (g0 : GV 50 r0) :
  ∃ r1, GV 50 r1 ∧ floop (vcall F nro) nro [2, 13, 14] i_zz69_B7 (nmH h 50 r0) [.pointer (some ⟨h.length, 0, some 2⟩), .pointer (some ⟨h.length + 2, 0, some 2⟩), .int .i64 0] (nmH h 50 r0) =
   some (.exit 9, fl [(2, .pointer (some ⟨h.length, 0, some 2⟩)), (13, .pointer (some ⟨h.length + 2, 0, some 2⟩))], nmH h 50 r1) := by
 refine Exists.elim (for_upR (call := vcall F nro) (nro := nro) (live := [2, 13, 14]) (c := i_zz69_B7) (h0 := nmH h 50 r0) (n := 5) (fun i (_ : List Int) => [.pointer (some ⟨h.length, 0, some 2⟩), .pointer (some ⟨h.length + 2, 0, some 2⟩), .int .i64 i]) (fun _ r => nmH h 50 r)
  (fun _ r => GV 50 r) (fun r => some (.exit 9, fl [(2, .pointer (some ⟨h.length, 0, some 2⟩)), (13, .pointer (some ⟨h.length + 2, 0, some 2⟩))], nmH h 50 r)) ?_ ?_ 0 r0 (Nat.zero_le _) g0) ?_
 ·intro u r1 hu hu2 g1
  obtain ⟨r3, g3, e3⟩ := l_l01Named_6 (nro := nro) h hn u hu _ g1
  have w3 : IntKind.i64.wrap ((u : Int) + 1) = (u : Int) + 1 := wrap64 (by omega) (by omega)
  refine ⟨r3, g3, ?_⟩
  clear g1 g3 g0
  have hu3 : (u : Int) < 5 := by omega
  rw [floop_at i_zz69_B7.eq_1]
  simp (disch := first | assumption | omega | (simp [*] <;> omega) | fail) [-getElem?_pos, List.getElem?_cons_zero, List.getElem?_cons_succ, hu3, nm_get0, nm_get2, nm_clean, nm_len, w3, e3]
 ·intro r1 _
  rw [floop_at i_zz69_B7.eq_1]
  simp (disch := first | assumption | omega | (simp [*] <;> omega) | fail) [-getElem?_pos, List.getElem?_cons_zero, List.getElem?_cons_succ, nm_clean, nm_len]
 ·rintro r1 ⟨g1, hf⟩
  exact ⟨r1, g1, hf⟩
end

/- Graphs with names, by their names. -/
section
open Go
variable {nro : Nat}
theorem vbin_streq (a b : Array UInt8) : vbin .eql (.string ⟨a⟩) (.string ⟨b⟩) = some (.bool (decide (a = b))) := by
 have e : ((ByteArray.mk a).toList == (ByteArray.mk b).toList) = decide (a = b) := by
  rw [ByteArray.toList_eq, ByteArray.toList_eq]
  by_cases c : a = b
  ·subst c; simp
  ·simp [c]
 show some (Value.bool ((ByteArray.mk a).toList == (ByteArray.mk b).toList)) = _
 rw [e]
def NmOK (nro : Nat) (nm : Value) : Prop := ∀ h : VH, nro ≤ h.length → ∃ (N : Nat) (rows : List Int), GV N rows ∧ vcall F nro k_zz69 [nm] h = some (.tuple #[gv N (.slice (some ⟨h.length, 0, none⟩) N N), .bool true], h ++ [⟨1, ints rows⟩])
theorem nm_jumps (h : VH) (hn : nro ≤ h.length) (N : Nat) (js : List Int) (h3 : 3 ≤ N) (h62 : N ≤ 62) (hj : ∀ x ∈ js, 1 ≤ x ∧ x < N) (hjl : js.length ≤ 100) :
  ∃ rows, GV N rows ∧ vcall F nro k_zz68 [.int .i64 N, .slice (some ⟨h.length + 1, 0, none⟩) js.length js.length] (h ++ [⟨0, [.int .i64 0, .slice none 0 0]⟩, ⟨1, ints js⟩]) = some (gv N (.slice (some ⟨h.length + 2, 0, none⟩) N N), h ++ [⟨0, [.int .i64 0, .slice none 0 0]⟩, ⟨1, ints js⟩, ⟨1, ints rows⟩]) := by
 obtain ⟨rows, g, e⟩ := c_zz68 (nro := nro) (h ++ [⟨0, [.int .i64 0, .slice none 0 0]⟩, ⟨1, ints js⟩]) (.slice (some ⟨h.length + 1, 0, none⟩) js.length js.length) js (sli_at (h := h ++ [⟨0, [.int .i64 0, .slice none 0 0]⟩, ⟨1, ints js⟩]) (b := h.length + 1) (xs := js) (by simp)) (by simp; omega) N h3 h62 hj hjl
 refine ⟨rows, g, ?_⟩
 simpa using e
theorem nm_heawood : NmOK nro (.string ⟨#[104, 101, 97, 119, 111, 111, 100]⟩) := by
 intro h hn
 obtain ⟨rows, g, e⟩ := nm_jumps (nro := nro) h hn 14 [5, 9] (by omega) (by omega) (by decide) (by decide)
 refine ⟨14, rows, g, ?_⟩
 have hl := g.rok.len
 simp at e
 refine v_zz69 (by simp [i_zz69]) ?_
 rw [fbody_eq]
 clear g
 simp (disch := first | assumption | omega | (simp [*] <;> omega) | fail) [i_zz69, vbin_streq, e, hl, fresults, fresL, fres1, hn]
theorem nm_moebiuskantor : NmOK nro (.string ⟨#[109, 111, 101, 98, 105, 117, 115, 107, 97, 110, 116, 111, 114]⟩) := by
 intro h hn
 obtain ⟨rows, g, e⟩ := nm_jumps (nro := nro) h hn 16 [5, 11] (by omega) (by omega) (by decide) (by decide)
 refine ⟨16, rows, g, ?_⟩
 have hl := g.rok.len
 simp at e
 refine v_zz69 (by simp [i_zz69]) ?_
 rw [fbody_eq]
 clear g
 simp (disch := first | assumption | omega | (simp [*] <;> omega) | fail) [i_zz69, vbin_streq, e, hl, fresults, fresL, fres1, hn]
theorem nm_pappus : NmOK nro (.string ⟨#[112, 97, 112, 112, 117, 115]⟩) := by
 intro h hn
 obtain ⟨rows, g, e⟩ := nm_jumps (nro := nro) h hn 18 [5, 7, 11, 7, 11, 13] (by omega) (by omega) (by decide) (by decide)
 refine ⟨18, rows, g, ?_⟩
 have hl := g.rok.len
 simp at e
 refine v_zz69 (by simp [i_zz69]) ?_
 rw [fbody_eq]
 clear g
 simp (disch := first | assumption | omega | (simp [*] <;> omega) | fail) [i_zz69, vbin_streq, e, hl, fresults, fresL, fres1, hn]
theorem nm_desargues : NmOK nro (.string ⟨#[100, 101, 115, 97, 114, 103, 117, 101, 115]⟩) := by
 intro h hn
 obtain ⟨rows, g, e⟩ := nm_jumps (nro := nro) h hn 20 [5, 15, 9, 11] (by omega) (by omega) (by decide) (by decide)
 refine ⟨20, rows, g, ?_⟩
 have hl := g.rok.len
 simp at e
 refine v_zz69 (by simp [i_zz69]) ?_
 rw [fbody_eq]
 clear g
 simp (disch := first | assumption | omega | (simp [*] <;> omega) | fail) [i_zz69, vbin_streq, e, hl, fresults, fresL, fres1, hn]
theorem nm_dodecahedron : NmOK nro (.string ⟨#[100, 111, 100, 101, 99, 97, 104, 101, 100, 114, 111, 110]⟩) := by
 intro h hn
 obtain ⟨rows, g, e⟩ := nm_jumps (nro := nro) h hn 20 [10, 7, 4, 16, 13, 10, 16, 7, 13, 4] (by omega) (by omega) (by decide) (by decide)
 refine ⟨20, rows, g, ?_⟩
 have hl := g.rok.len
 simp at e
 refine v_zz69 (by simp [i_zz69]) ?_
 rw [fbody_eq]
 clear g
 simp (disch := first | assumption | omega | (simp [*] <;> omega) | fail) [i_zz69, vbin_streq, e, hl, fresults, fresL, fres1, hn]
theorem nm_mcgee : NmOK nro (.string ⟨#[109, 99, 103, 101, 101]⟩) := by
 intro h hn
 obtain ⟨rows, g, e⟩ := nm_jumps (nro := nro) h hn 24 [12, 7, 17] (by omega) (by omega) (by decide) (by decide)
 refine ⟨24, rows, g, ?_⟩
 have hl := g.rok.len
 simp at e
 refine v_zz69 (by simp [i_zz69]) ?_
 rw [fbody_eq]
 clear g
 simp (disch := first | assumption | omega | (simp [*] <;> omega) | fail) [i_zz69, vbin_streq, e, hl, fresults, fresL, fres1, hn]
theorem nm_tuttecoxeter : NmOK nro (.string ⟨#[116, 117, 116, 116, 101, 99, 111, 120, 101, 116, 101, 114]⟩) := by
 intro h hn
 obtain ⟨rows, g, e⟩ := nm_jumps (nro := nro) h hn 30 [17, 21, 7, 23, 9, 13] (by omega) (by omega) (by decide) (by decide)
 refine ⟨30, rows, g, ?_⟩
 have hl := g.rok.len
 simp at e
 refine v_zz69 (by simp [i_zz69]) ?_
 rw [fbody_eq]
 clear g
 simp (disch := first | assumption | omega | (simp [*] <;> omega) | fail) [i_zz69, vbin_streq, e, hl, fresults, fresL, fres1, hn]
theorem nm_full (h L : VH) (hn : nro ≤ h.length) (N : Nat) (h1 : 1 ≤ N) (h62 : N ≤ 62) : ∃ z rows, GV N rows ∧ vcall F nro k_zz67 [.int .i64 N] (h ++ L) = some (gv N (.slice (some ⟨(h ++ L).length, 0, none⟩) N N), (h ++ L) ++ [⟨1, ints z⟩]) ∧
  vcall F nro k_zz32 [gv N (.slice (some ⟨(h ++ L).length, 0, none⟩) N N)] ((h ++ L) ++ [⟨1, ints z⟩]) = some (gv N (.slice (some ⟨(h ++ L).length + 1, 0, none⟩) N N), (h ++ L) ++ [⟨1, ints z⟩, ⟨1, ints rows⟩]) := by
 have g0 := GV.zero h1 h62
 refine ⟨List.replicate N 0, _, g0.compl, ?_, ?_⟩
 ·have := c_zz67 (nro := nro) N (h ++ L) (by omega) (by omega) (by simp; omega)
  rwa [Int.toNat_natCast] at this
 ·have hs := sli_at (h := (h ++ L) ++ [⟨1, ints (List.replicate N 0)⟩]) (b := (h ++ L).length) (xs := List.replicate N 0) (by simp)
  rw [List.length_replicate] at hs
  have := c_zz32 (nro := nro) ((h ++ L) ++ [⟨1, ints (List.replicate N 0)⟩]) N _ _ hs g0 (by simp; omega)
  have e : ((h ++ L) ++ [(⟨1, ints (List.replicate N 0)⟩ : VO)]).length = (h ++ L).length + 1 := by simp; omega
  rw [e] at this
  rw [this]
  simp
theorem nm_k4 : NmOK nro (.string ⟨#[107, 52]⟩) := by
 intro h hn
 have hn' := fun k => Nat.le_trans hn (Nat.le_add_right h.length k)
 obtain ⟨z, rows, g, e1, e2⟩ := nm_full (nro := nro) h [⟨0, [.int .i64 0, .slice none 0 0]⟩] hn 4 (by omega) (by omega)
 refine ⟨4, rows, g, ?_⟩
 have hl := g.rok.len
 simp [-List.reduceReplicate, Nat.add_assoc] at e1 e2
 refine v_zz69 (by simp [i_zz69]) ?_
 rw [fbody_eq]
 clear g
 simp (disch := first | assumption | omega | (simp [*] <;> omega) | fail) [i_zz69, vbin_streq, e1, e2, hl, fresults, fresL, fres1, hn, hn']
theorem nm_k5 : NmOK nro (.string ⟨#[107, 53]⟩) := by
 intro h hn
 have hn' := fun k => Nat.le_trans hn (Nat.le_add_right h.length k)
 obtain ⟨z, rows, g, e1, e2⟩ := nm_full (nro := nro) h [⟨0, [.int .i64 0, .slice none 0 0]⟩] hn 5 (by omega) (by omega)
 refine ⟨5, rows, g, ?_⟩
 have hl := g.rok.len
 simp [-List.reduceReplicate, Nat.add_assoc] at e1 e2
 refine v_zz69 (by simp [i_zz69]) ?_
 rw [fbody_eq]
 clear g
 simp (disch := first | assumption | omega | (simp [*] <;> omega) | fail) [i_zz69, vbin_streq, e1, e2, hl, fresults, fresL, fres1, hn, hn']
theorem nm_k33 : NmOK nro (.string ⟨#[107, 51, 51]⟩) := by
 intro h hn
 obtain ⟨z1, r1, g1, a1, a2⟩ := nm_full (nro := nro) h [⟨0, [.int .i64 0, .slice none 0 0]⟩] hn 3 (by omega) (by omega)
 obtain ⟨z2, r2, g2, b1, b2⟩ := nm_full (nro := nro) h [⟨0, [.int .i64 0, .slice none 0 0]⟩, ⟨1, ints z1⟩, ⟨1, ints r1⟩] hn 3 (by omega) (by omega)
 have l1 := g1.rok.len
 have l2 := g2.rok.len
 have s1 := sli_at (h := h ++ [⟨0, [.int .i64 0, .slice none 0 0]⟩, ⟨1, ints z1⟩, ⟨1, ints r1⟩, ⟨1, ints z2⟩, ⟨1, ints r2⟩]) (b := h.length + 2) (xs := r1) (by simp)
 have s2 := sli_at (h := h ++ [⟨0, [.int .i64 0, .slice none 0 0]⟩, ⟨1, ints z1⟩, ⟨1, ints r1⟩, ⟨1, ints z2⟩, ⟨1, ints r2⟩]) (b := h.length + 4) (xs := r2) (by simp)
 rw [l1] at s1
 rw [l2] at s2
 have c1 := c_zz59 (nro := nro) _ 3 3 _ _ _ _ s1 s2 g1 g2 (by omega) (by simp; omega)
 have g3 := g1.beside g2 (by omega)
 obtain ⟨r3, hr3⟩ : ∃ r, r = bsR r1 r2 3 3 := ⟨_, rfl⟩
 rw [← hr3] at c1 g3
 have l3 := g3.rok.len
 have s3 := sli_at (h := h ++ [⟨0, [.int .i64 0, .slice none 0 0]⟩, ⟨1, ints z1⟩, ⟨1, ints r1⟩, ⟨1, ints z2⟩, ⟨1, ints r2⟩, ⟨1, ints r3⟩]) (b := h.length + 5) (xs := r3) (by simp)
 rw [l3] at s3
 have d1 := c_zz32 (nro := nro) _ 6 _ _ s3 g3 (by simp; omega)
 have g4 := g3.compl
 obtain ⟨r4, hr4⟩ : ∃ r, r = tbl (3 + 3) (cmpG r3 (3 + 3)) := ⟨_, rfl⟩
 have hr4' : tbl 6 (cmpG r3 6) = r4 := hr4.symm
 rw [hr4'] at d1
 rw [← hr4] at g4
 refine ⟨6, r4, g4, ?_⟩
 have l4 := g4.rok.len
 simp [-List.reduceReplicate, Nat.add_assoc] at a1 a2 b1 b2 c1 d1
 refine v_zz69 (by simp [i_zz69]) ?_
 rw [fbody_eq]
 clear g1 g2 g3 g4 hr3 hr4 hr4' s1 s2 s3
 simp (disch := first | assumption | omega | (simp [*] <;> omega) | fail) [i_zz69, vbin_streq, a1, a2, b1, b2, c1, d1, l4, fresults, fresL, fres1, hn]
theorem nm_cube : NmOK nro (.string ⟨#[99, 117, 98, 101]⟩) := by
 intro h hn
 have hn' := fun k => Nat.le_trans hn (Nat.le_add_right h.length k)
 have e1 := c_zz67 (nro := nro) 8 (h ++ [⟨0, [.int .i64 0, .slice none 0 0]⟩]) (by omega) (by omega) (by simp; omega)
 obtain ⟨z, hz⟩ : ∃ z : List Int, z = List.replicate 8 0 := ⟨_, rfl⟩
 have gz : GV 8 z := by rw [hz]; exact GV.zero (n := 8) (by omega) (by omega)
 rw [show Int.toNat 8 = 8 from rfl, ← hz] at e1
 obtain ⟨r1, g1, e2⟩ := l_l01Named_2 (nro := nro) h hn 8 (.inl rfl) z gz
 refine ⟨8, r1, g1, ?_⟩
 have hl := g1.rok.len
 unfold nmH at e2
 simp [-List.reduceReplicate, Nat.add_assoc] at e1 e2
 refine v_zz69 (by simp [i_zz69]) ?_
 rw [fbody_eq]
 clear g1 gz hz
 simp (disch := first | assumption | omega | (simp [*] <;> omega) | fail) [i_zz69, vbin_streq, e1, e2, hl, fresults, fresL, fres1, hn, hn']
theorem nm_clebsch : NmOK nro (.string ⟨#[99, 108, 101, 98, 115, 99, 104]⟩) := by
 intro h hn
 have hn' := fun k => Nat.le_trans hn (Nat.le_add_right h.length k)
 have e1 := c_zz67 (nro := nro) 16 (h ++ [⟨0, [.int .i64 0, .slice none 0 0]⟩]) (by omega) (by omega) (by simp; omega)
 obtain ⟨z, hz⟩ : ∃ z : List Int, z = List.replicate 16 0 := ⟨_, rfl⟩
 have gz : GV 16 z := by rw [hz]; exact GV.zero (n := 16) (by omega) (by omega)
 rw [show Int.toNat 16 = 16 from rfl, ← hz] at e1
 obtain ⟨r1, g1, e2⟩ := l_l01Named_2 (nro := nro) h hn 16 (.inr rfl) z gz
 refine ⟨16, r1, g1, ?_⟩
 have hl := g1.rok.len
 unfold nmH at e2
 simp [-List.reduceReplicate, Nat.add_assoc] at e1 e2
 refine v_zz69 (by simp [i_zz69]) ?_
 rw [fbody_eq]
 clear g1 gz hz
 simp (disch := first | assumption | omega | (simp [*] <;> omega) | fail) [i_zz69, vbin_streq, e1, e2, hl, fresults, fresL, fres1, hn, hn']
theorem nm_petersen : NmOK nro (.string ⟨#[112, 101, 116, 101, 114, 115, 101, 110]⟩) := by
 intro h hn
 have hn' := fun k => Nat.le_trans hn (Nat.le_add_right h.length k)
 have e1 := c_zz67 (nro := nro) 10 (h ++ [⟨0, [.int .i64 0, .slice none 0 0]⟩]) (by omega) (by omega) (by simp; omega)
 obtain ⟨z, hz⟩ : ∃ z : List Int, z = List.replicate 10 0 := ⟨_, rfl⟩
 have gz : GV 10 z := by rw [hz]; exact GV.zero (n := 10) (by omega) (by omega)
 rw [show Int.toNat 10 = 10 from rfl, ← hz] at e1
 obtain ⟨r1, g1, e2⟩ := l_l01Named_3 (nro := nro) h hn z gz
 refine ⟨10, r1, g1, ?_⟩
 have hl := g1.rok.len
 unfold nmH at e2
 simp [-List.reduceReplicate, Nat.add_assoc] at e1 e2
 refine v_zz69 (by simp [i_zz69]) ?_
 rw [fbody_eq]
 clear g1 gz hz
 simp (disch := first | assumption | omega | (simp [*] <;> omega) | fail) [i_zz69, vbin_streq, e1, e2, hl, fresults, fresL, fres1, hn, hn']
theorem nm_icosahedron : NmOK nro (.string ⟨#[105, 99, 111, 115, 97, 104, 101, 100, 114, 111, 110]⟩) := by
 intro h hn
 have hn' := fun k => Nat.le_trans hn (Nat.le_add_right h.length k)
 have e1 := c_zz67 (nro := nro) 12 (h ++ [⟨0, [.int .i64 0, .slice none 0 0]⟩]) (by omega) (by omega) (by simp; omega)
 obtain ⟨z, hz⟩ : ∃ z : List Int, z = List.replicate 12 0 := ⟨_, rfl⟩
 have gz : GV 12 z := by rw [hz]; exact GV.zero (n := 12) (by omega) (by omega)
 rw [show Int.toNat 12 = 12 from rfl, ← hz] at e1
 obtain ⟨r1, g1, e2⟩ := l_l01Named_4 (nro := nro) h hn z gz
 refine ⟨12, r1, g1, ?_⟩
 have hl := g1.rok.len
 unfold nmH at e2
 simp [-List.reduceReplicate, Nat.add_assoc] at e1 e2
 refine v_zz69 (by simp [i_zz69]) ?_
 rw [fbody_eq]
 clear g1 gz hz
 simp (disch := first | assumption | omega | (simp [*] <;> omega) | fail) [i_zz69, vbin_streq, e1, e2, hl, fresults, fresL, fres1, hn, hn']
theorem nm_hoffmansingleton : NmOK nro (.string ⟨#[104, 111, 102, 102, 109, 97, 110, 115, 105, 110, 103, 108, 101, 116, 111, 110]⟩) := by
 intro h hn
 have hn' := fun k => Nat.le_trans hn (Nat.le_add_right h.length k)
 have e1 := c_zz67 (nro := nro) 50 (h ++ [⟨0, [.int .i64 0, .slice none 0 0]⟩]) (by omega) (by omega) (by simp; omega)
 obtain ⟨z, hz⟩ : ∃ z : List Int, z = List.replicate 50 0 := ⟨_, rfl⟩
 have gz : GV 50 z := by rw [hz]; exact GV.zero (n := 50) (by omega) (by omega)
 rw [show Int.toNat 50 = 50 from rfl, ← hz] at e1
 obtain ⟨r1, g1, e2⟩ := l_l01Named_7 (nro := nro) h hn z gz
 refine ⟨50, r1, g1, ?_⟩
 have hl := g1.rok.len
 unfold nmH at e2
 simp [-List.reduceReplicate, Nat.add_assoc] at e1 e2
 refine v_zz69 (by simp [i_zz69]) ?_
 rw [fbody_eq]
 clear g1 gz hz
 simp (disch := first | assumption | omega | (simp [*] <;> omega) | fail) [i_zz69, vbin_streq, e1, e2, hl, fresults, fresL, fres1, hn, hn']
def nmV : List Value := [.string ⟨#[107, 52]⟩, .string ⟨#[107, 53]⟩, .string ⟨#[107, 51, 51]⟩, .string ⟨#[99, 117, 98, 101]⟩, .string ⟨#[112, 101, 116, 101, 114, 115, 101, 110]⟩, .string ⟨#[104, 101, 97, 119, 111, 111, 100]⟩, .string ⟨#[105, 99, 111, 115, 97, 104, 101, 100, 114, 111, 110]⟩, .string ⟨#[99, 108, 101, 98, 115, 99, 104]⟩, .string ⟨#[109, 111, 101, 98, 105, 117, 115, 107, 97, 110, 116, 111, 114]⟩, .string ⟨#[112, 97, 112, 112, 117, 115]⟩, .string ⟨#[100, 101, 115, 97, 114, 103, 117, 101, 115]⟩, .string ⟨#[100, 111, 100, 101, 99, 97, 104, 101, 100, 114, 111, 110]⟩, .string ⟨#[109, 99, 103, 101, 101]⟩, .string ⟨#[116, 117, 116, 116, 101, 99, 111, 120, 101, 116, 101, 114]⟩, .string ⟨#[104, 111, 102, 102, 109, 97, 110, 115, 105, 110, 103, 108, 101, 116, 111, 110]⟩]
theorem nm_all : ∀ v ∈ nmV, NmOK nro v := by
 intro v hv
 simp only [nmV, List.mem_cons, List.not_mem_nil, or_false] at hv
 rcases hv with rfl | rfl | rfl | rfl | rfl | rfl | rfl | rfl | rfl | rfl | rfl | rfl | rfl | rfl | rfl
 ·exact nm_k4
 ·exact nm_k5
 ·exact nm_k33
 ·exact nm_cube
 ·exact nm_petersen
 ·exact nm_heawood
 ·exact nm_icosahedron
 ·exact nm_clebsch
 ·exact nm_moebiuskantor
 ·exact nm_pappus
 ·exact nm_desargues
 ·exact nm_dodecahedron
 ·exact nm_mcgee
 ·exact nm_tuttecoxeter
 ·exact nm_hoffmansingleton
end

/- Renumbered graphs. -/
section
open Go
variable {nro : Nat}
def rnH (h : VH) (N : Nat) (s : Value) (r : List Int) : VH := (h ++ [⟨0, [.int .i64 N, s]⟩, ⟨0, [.int .i64 0, .slice none 0 0]⟩]) ++ [⟨1, ints r⟩, ⟨0, [.int .i64 N, .slice (some ⟨h.length + 2, 0, none⟩) N N]⟩]
structure NewNo (N : Nat) (ps : List Int) : Prop where
 len : ps.length = N
 lo : ∀ x ∈ ps, 0 ≤ x ∧ x < N
 nd : ps.Nodup
theorem l_l01Renamed_1 (h : VH) (N : Nat) (s t : Value) (rows ps : List Int) (hs : Sli h s rows) (ht : Sli h t ps) (g : GV N rows) (hp : NewNo N ps) (hn : nro ≤ h.length) (r0 : List Int) (g0 : GV N r0) (v : Nat) (hv : v < N) :
  ∃ r1, GV N r1 ∧ floop (vcall F nro) nro [1, 2, 4, 5, 6, 7] i_zz48_B1 (rnH h N s r0) [t, .pointer (some ⟨h.length, 0, some 2⟩), .pointer (some ⟨h.length + 1, 0, some 2⟩), .pointer (some ⟨h.length + 3, 0, some 2⟩), .int .i64 v, .int .i64 0] (rnH h N s r0) =
   some (.exit 2, fl [(1, t), (2, .pointer (some ⟨h.length, 0, some 2⟩)), (4, .pointer (some ⟨h.length + 1, 0, some 2⟩)), (5, .pointer (some ⟨h.length + 3, 0, some 2⟩)), (6, .int .i64 v)], rnH h N s r1) := by
 have hle := g.rok.le
 have hto : ∀ k, Old (h.length + k) t := fun k => ht.oldk (k := k)
 have hso := fun k => hs.oldCk (k := k)
 refine Exists.elim (for_upR (call := vcall F nro) (nro := nro) (live := [1, 2, 4, 5, 6, 7]) (c := i_zz48_B1) (h0 := rnH h N s r0) (n := v) (fun w (_ : List Int) => [t, .pointer (some ⟨h.length, 0, some 2⟩), .pointer (some ⟨h.length + 1, 0, some 2⟩), .pointer (some ⟨h.length + 3, 0, some 2⟩), .int .i64 v, .int .i64 w]) (fun _ r => rnH h N s r)
  (fun _ r => GV N r) (fun r => some (.exit 2, fl [(1, t), (2, .pointer (some ⟨h.length, 0, some 2⟩)), (4, .pointer (some ⟨h.length + 1, 0, some 2⟩)), (5, .pointer (some ⟨h.length + 3, 0, some 2⟩)), (6, .int .i64 v)], rnH h N s r)) ?_ ?_ 0 r0 (Nat.zero_le _) g0) ?_
 ·intro w r1 hw hw2 g1
  have hwN : w < N := by omega
  have hlp := hp.len
  have w1 : IntKind.i64.wrap ((w : Int) + 1) = (w : Int) + 1 := wrap64 (by omega) (by omega)
  have hh := has_spec (nro := nro) N v w s rows (rnH h N s r1) ((hs.app _).app _) g.rok hv hwN
  have e1 := fun L => ht.vidx' (L := L) (k := .i64) (j := (v : Int)) (by omega) (by omega)
  have e2 := fun L => ht.vidx' (L := L) (k := .i64) (j := (w : Int)) (by omega) (by omega)
  have e3 := fun L => ht.vload' (L := L) (j := v) (by omega)
  have e4 := fun L => ht.vload' (L := L) (j := w) (by omega)
  obtain ⟨a1, a2⟩ := hp.lo ps[v] (List.getElem_mem _)
  obtain ⟨b1, b2⟩ := hp.lo ps[w] (List.getElem_mem _)
  obtain ⟨a, ha⟩ : ∃ a : Nat, ps[v] = a := ⟨ps[v].toNat, by omega⟩
  obtain ⟨c, hc⟩ : ∃ a : Nat, ps[w] = a := ⟨ps[w].toNat, by omega⟩
  have hne : a ≠ c := by
   intro e
   have h1 : ps[v] = ps[w] := by rw [ha, hc, e]
   have := (List.nodup_iff_pairwise_ne.mp hp.nd)
   rw [List.pairwise_iff_getElem] at this
   exact this w v (by omega) (by omega) hw h1.symm
  rw [ha] at a1 a2
  rw [hc] at b1 b2
  simp only [ha] at e3
  simp only [hc] at e4
  have e5 := mk_put (nro := nro) (P := h ++ [⟨0, [.int .i64 N, s]⟩, ⟨0, [.int .i64 0, .slice none 0 0]⟩]) (C := [⟨0, [.int .i64 N, .slice (some ⟨h.length + 2, 0, none⟩) N N]⟩]) (by simp; omega) g1.rok.len hle a c (by omega) (by omega)
  have g2 := g1.put2 (show a < N by omega) (show c < N by omega) hne
  obtain ⟨r2, hr2⟩ : ∃ r, r = put2 r1 a c := ⟨_, rfl⟩
  rw [← hr2] at e5 g2
  have hcl := fun (r : List Int) (vs : List Value) => mk_clean (P := h ++ [⟨0, [.int .i64 N, s]⟩, ⟨0, [.int .i64 0, .slice none 0 0]⟩]) (C := [⟨0, [.int .i64 N, .slice (some ⟨h.length + 2, 0, none⟩) N N]⟩]) (r0 := r0) (r1 := r) (vs := vs)
  unfold rnH at hh ⊢
  simp only [List.append_assoc, List.cons_append, List.nil_append, List.length_append, List.length_cons, List.length_nil] at hcl hh e5 ⊢
  by_cases hb : rbit rows v w = true
  ·rw [hb] at hh
   refine ⟨r2, g2, ?_⟩
   clear hr2 g1 g2 g0 g hp ha hc a1 a2 b1 b2
   rw [floop_at i_zz48_B1.eq_1]
   simp (disch := first | assumption | omega | (simp [*] <;> omega) | fail) [hw, hw2, hh, e1, e2, e3, e4, e5, w1, hcl, hto, hso]
  ·rw [rbit_of_not hb] at hh
   refine ⟨r1, g1, ?_⟩
   clear hr2 g1 g2 g0 g hp ha hc a1 a2 b1 b2 e5
   rw [floop_at i_zz48_B1.eq_1]
   simp (disch := first | assumption | omega | (simp [*] <;> omega) | fail) [hw, hw2, hh, w1, hcl, hto, hso]
 ·intro r1 _
  unfold rnH
  rw [floop_at i_zz48_B1.eq_1]
  simp (disch := first | assumption | omega | (simp [*] <;> omega) | fail) [hto, hso]
 ·rintro r1 ⟨g1, hf⟩
  exact ⟨r1, g1, hf⟩
theorem l_l01Renamed_2 (h : VH) (N : Nat) (s t : Value) (rows ps : List Int) (hs : Sli h s rows) (ht : Sli h t ps) (g : GV N rows) (hp : NewNo N ps) (hn : nro ≤ h.length) (r0 : List Int) (g0 : GV N r0) :
  ∃ r1, GV N r1 ∧ floop (vcall F nro) nro [1, 2, 4, 5, 6] i_zz48_B2 (rnH h N s r0) [t, .pointer (some ⟨h.length, 0, some 2⟩), .pointer (some ⟨h.length + 1, 0, some 2⟩), .pointer (some ⟨h.length + 3, 0, some 2⟩), .int .i64 0] (rnH h N s r0) =
   some (.exit 0, fl [(4, .pointer (some ⟨h.length + 1, 0, some 2⟩)), (5, .pointer (some ⟨h.length + 3, 0, some 2⟩))], rnH h N s r1) := by
 have hle := g.rok.le
 have hto : ∀ k, Old (h.length + k) t := fun k => ht.oldk (k := k)
 have hso := fun k => hs.oldCk (k := k)
 refine Exists.elim (for_upR (call := vcall F nro) (nro := nro) (live := [1, 2, 4, 5, 6]) (c := i_zz48_B2) (h0 := rnH h N s r0) (n := N) (fun v (_ : List Int) => [t, .pointer (some ⟨h.length, 0, some 2⟩), .pointer (some ⟨h.length + 1, 0, some 2⟩), .pointer (some ⟨h.length + 3, 0, some 2⟩), .int .i64 v]) (fun _ r => rnH h N s r)
  (fun _ r => GV N r) (fun r => some (.exit 0, fl [(4, .pointer (some ⟨h.length + 1, 0, some 2⟩)), (5, .pointer (some ⟨h.length + 3, 0, some 2⟩))], rnH h N s r)) ?_ ?_ 0 r0 (Nat.zero_le _) g0) ?_
 ·intro v r1 hv hv2 g1
  have w1 : IntKind.i64.wrap ((v : Int) + 1) = (v : Int) + 1 := wrap64 (by omega) (by omega)
  obtain ⟨r2, g2, lp⟩ := l_l01Renamed_1 (nro := nro) h N s t rows ps hs ht g hp hn r1 g1 v hv
  have hcl := fun (r : List Int) (vs : List Value) => mk_clean (P := h ++ [⟨0, [.int .i64 N, s]⟩, ⟨0, [.int .i64 0, .slice none 0 0]⟩]) (C := [⟨0, [.int .i64 N, .slice (some ⟨h.length + 2, 0, none⟩) N N]⟩]) (r0 := r0) (r1 := r) (vs := vs)
  unfold rnH at lp ⊢
  simp only [List.append_assoc, List.cons_append, List.nil_append, List.length_append, List.length_cons, List.length_nil] at hcl lp ⊢
  refine ⟨r2, g2, ?_⟩
  clear g1 g2 g0 g hp
  rw [floop_at i_zz48_B2.eq_1]
  simp (disch := first | assumption | omega | (simp [*] <;> omega) | fail) [hv, hv2, lp, w1, hcl, hto, hso]
 ·intro r1 _
  unfold rnH
  rw [floop_at i_zz48_B2.eq_1]
  simp (disch := first | assumption | omega | (simp [*] <;> omega) | fail) [hto, hso]
 ·rintro r1 ⟨g1, hf⟩
  exact ⟨r1, g1, hf⟩
theorem c_zz48 (h : VH) (N : Nat) (s t : Value) (rows ps : List Int) (hs : Sli h s rows) (ht : Sli h t ps) (g : GV N rows) (hp : NewNo N ps) (hn : nro ≤ h.length) :
  ∃ rows', GV N rows' ∧ vcall F nro k_zz48 [gv N s, t] h = some (gv N (.slice (some ⟨h.length, 0, none⟩) N N), h ++ [⟨1, ints rows'⟩]) := by
 have hn' := fun k => Nat.le_trans hn (Nat.le_add_right h.length k)
 have hle := g.rok.le
 have hlo := g.lo
 have hso := fun k => hs.oldCk (k := k)
 have he := c_zz67 (nro := nro) N (h ++ [⟨0, [.int .i64 N, s]⟩, ⟨0, [.int .i64 0, .slice none 0 0]⟩]) (by omega) (by omega) (by simp; omega)
 rw [Int.toNat_natCast] at he
 obtain ⟨r1, g1, lp⟩ := l_l01Renamed_2 (nro := nro) h N s t rows ps hs ht g hp hn (List.replicate N 0) (GV.zero (by omega) hle)
 have hl := g1.rok.len
 refine ⟨r1, g1, ?_⟩
 refine v_zz48 (by simp [i_zz48]) ?_
 rw [fbody_eq]
 simp [-List.reduceReplicate] at he
 unfold rnH at lp
 simp only [List.append_assoc, List.cons_append, List.nil_append] at lp
 clear g1 g hp
 simp (disch := first | assumption | omega | (simp [*] <;> omega) | fail) [i_zz48, he, lp, hl, hso, fresults, fresL, fres1, hn', hn]
end

/- Orders that are drawn. -/
section
open Go
variable {nro : Nat}
theorem clean_mid_upd {h h' L : VH} {A B : List Value} {k off n t : Nat} {o : VO} (hu : Upd h h') (hA : ∀ v ∈ A, Old h.length v) (hB : ∀ v ∈ B, Old h.length v) (hk : L[k]? = some o) (hf : flatO h.length o) :
  kclean h (A ++ .slice (some ⟨h.length + k, off, none⟩) n t :: B) (h' ++ L) = (A ++ .slice (some ⟨h.length, off, none⟩) n t :: B, h' ++ [o]) := by
 have fil : ∀ (C : List Value), (∀ v ∈ C, Old h.length v) → (C.flatMap trefs).filter (fun i => decide (h.length ≤ i)) = [] := fun C hC => by
  rw [List.filter_eq_nil_iff]
  intro r hr
  have := (old_all h.length C).mpr hC r hr
  simp; omega
 have e : keepL h.length (A ++ .slice (some ⟨h.length + k, off, none⟩) n t :: B) = [h.length + k] := by
  unfold keepL
  rw [List.flatMap_append, List.filter_append, fil A hA, List.nil_append, List.flatMap_cons, List.filter_append, fil B hB]
  simp [trefs, vrefs, crefs, arefs, dedup]
 have hl : h'.length = h.length := hu.1
 have hg : (h' ++ L)[h.length + k]? = some o := by rw [← hl, hgetk]; exact hk
 have htake : (h' ++ L).take h.length = h' := by rw [← hl]; simp
 have hc : okT h.length h ((h' ++ L).take h.length) ∧ flatL h.length [h.length + k] (h' ++ L) := by
  refine ⟨by rw [htake]; exact hu.2, fun i hi => ⟨o, ?_, hf⟩⟩
  simp only [List.mem_singleton] at hi
  rw [hi]; exact hg
 unfold kclean cleanup
 rw [e, if_pos hc, htake]
 have keep : ∀ (C : List Value), (∀ v ∈ C, Old h.length v) → C.map (tren (renOf h.length [h.length + k])) = C := fun C hC => by
  have : ∀ v ∈ C, tren (renOf h.length [h.length + k]) v = v := fun v hv => tren_old (hC v hv) fun i hi => by simp only [renOf, if_pos hi]
  exact (List.map_congr_left this).trans (by simp)
 rw [List.map_append, List.map_cons, keep A hA, keep B hB]
 simp [hg, tren, vren, cren, aren, renOf_one]
theorem ord_put {i : Nat} {ys : List Int} (h : NewNo i ys) {m : Nat} : NewNo (i + 1) (ys.take m ++ (i : Int) :: ys.drop m) := by
 have hp : List.Perm (ys.take m ++ (i : Int) :: ys.drop m) ((i : Int) :: ys) := by
  have := List.perm_middle (a := (i : Int)) (l₁ := ys.take m) (l₂ := ys.drop m)
  rwa [List.take_append_drop] at this
 refine ⟨by rw [hp.length_eq, List.length_cons, h.len], fun x hx => ?_, ?_⟩
 ·rcases List.mem_cons.mp (hp.mem_iff.mp hx) with rfl | hx
  ·omega
  ·have := h.lo x hx; omega
 ·rw [hp.nodup_iff, List.nodup_cons]
  exact ⟨fun e => by have := h.lo _ e; omega, h.nd⟩
section
variable {H : VH} {b : Nat} {cd : Value} {xs : List Int} {s : SS} (S : Srce nro H b cd xs s)
include S
theorem l_l01DrawOrder_step (h0 : VH) (n i ob : Nat) (hin : i < n) (hn62 : n ≤ 62) (ys : List Int) (hy : NewNo i ys) (L X : VH) (s1 : SS) (o1 : SOK xs s1) (hu : ∀ s2, Upd h0 (H.set b (srcO cd s2) ++ L)) (hob : ∀ s2, (H.set b (srcO cd s2) ++ L ++ X)[ob]? = some ⟨1, ints ys⟩) (hLl : H.length + L.length = h0.length) :
  ∃ s2 ys', SOK xs s2 ∧ NewNo (i + 1) ys' ∧ floop (vcall F nro) nro [0, 1, 5, 6] i_zz35_B1 h0 [.pointer (some ⟨b, 0, some 3⟩), .int .i64 n, .slice (some ⟨ob, 0, none⟩) i i, .int .i64 i] (H.set b (srcO cd s1) ++ L ++ X) =
   floop (vcall F nro) nro [0, 1, 5, 6] i_zz35_B1 h0 [.pointer (some ⟨b, 0, some 3⟩), .int .i64 n, .slice (some ⟨h0.length, 0, none⟩) (i + 1) (i + 1), .int .i64 ((i : Int) + 1)] (H.set b (srcO cd s2) ++ L ++ [⟨1, ints ys'⟩]) := by
 have hlt := S.lt
 have hnb := S.nr
 have e1 := S.nextA (nro := nro) o1 (L ++ X) ((i : Int) + 1) (by omega)
 rw [← List.append_assoc, ← List.append_assoc] at e1
 obtain ⟨a1, a2, _⟩ := srcN_ok S.code s1 ((i : Int) + 1)
 have a3 := a2 (by omega)
 have o2 := srcS_ok o1 ((i : Int) + 1)
 obtain ⟨m, hm⟩ : ∃ m : Nat, srcN xs s1 ((i : Int) + 1) = m := ⟨(srcN xs s1 ((i : Int) + 1)).toNat, by omega⟩
 obtain ⟨s2, hs2⟩ : ∃ q, q = srcS xs s1 ((i : Int) + 1) := ⟨_, rfl⟩
 rw [hm] at e1 a3
 rw [← hs2] at e1 o2
 have hmi : m ≤ i := by omega
 have hyl := hy.len
 obtain ⟨G1, hG1⟩ : ∃ G, G = H.set b (srcO cd s1) ++ L ++ X := ⟨_, rfl⟩
 obtain ⟨G, hG⟩ : ∃ G, G = H.set b (srcO cd s2) ++ L ++ X := ⟨_, rfl⟩
 have hgo := hob s2
 rw [← hG] at hgo e1
 rw [← hG1] at e1
 have hGn : nro ≤ G.length := by rw [hG]; simp; omega
 have hGn' := fun k => Nat.le_trans hGn (Nat.le_add_right G.length k)
 have hgo' := fun K => hget_old hgo K
 have hS : Sli G (.slice (some ⟨ob, 0, none⟩) m i) (ys.take m) := by
  have : (ints ys).take m = ints (ys.take m) := by simp [ints]
  simp [Sli, Sl, hgo, hyl, hmi, this]
 have e2 := c_zz89 (nro := nro) _ (ys.take m) G hS (by simp; omega) hGn
 have htl : (ys.take m).length = m := by simp; omega
 rw [htl] at e2
 have w1 : IntKind.i64.wrap ((i : Int) + 1) = (i : Int) + 1 := wrap64 (by omega) (by omega)
 obtain ⟨T, hT⟩ : ∃ T, T = ys.take m := ⟨_, rfl⟩
 obtain ⟨D, hD⟩ : ∃ D, D = ys.drop m := ⟨_, rfl⟩
 have f1 : ∀ (K : VH), K[ob]? = some ⟨1, ints ys⟩ → vslice 1 K (.slice (some ⟨ob, 0, none⟩) i i) none (some (.int .i64 m)) = some (.slice (some ⟨ob, 0, none⟩) m i) := fun K hK => by simp [vslice, hK, hyl]; omega
 have f2 : ∀ (K : VH), K[ob]? = some ⟨1, ints ys⟩ → vslice 1 K (.slice (some ⟨ob, 0, none⟩) i i) (some (.int .i64 m)) none = some (.slice (some ⟨ob, m, none⟩) (i - m) i) := fun K hK => by simp [vslice, hK, hyl]; omega
 have f3 : ∀ (K : VH), K[ob]? = some ⟨1, ints ys⟩ → vsrc 1 K (.slice (some ⟨ob, m, none⟩) (i - m) i) = some (ints D, i - m) := fun K hK => by
  have e : ((ints ys).drop m).take (i - m) = ints D := by
   rw [hD, List.take_of_length_le (by simp; omega)]
   simp [ints]
  simp [vsrc, hK, hyl, e]; omega
 have hfin : ints T ++ [.int .i64 (i : Int)] ++ ints D = ints (T ++ (i : Int) :: D) := by simp [ints]
 rw [← hT] at e2 htl
 have hDl : D.length = i - m := by rw [hD]; simp; omega
 have hTD := ord_put hy (m := m)
 rw [← hT, ← hD] at hTD
 refine ⟨s2, T ++ (i : Int) :: D, o2, hTD, ?_⟩
 have hcl : ∀ L2, kclean h0 [.pointer (some ⟨b, 0, some 3⟩), .int .i64 n, .slice (some ⟨G.length, 0, none⟩) (i + 1) (i + 1), .int .i64 ((i : Int) + 1)] (G ++ ⟨1, ints (T ++ (i : Int) :: D)⟩ :: L2) = ([.pointer (some ⟨b, 0, some 3⟩), .int .i64 n, .slice (some ⟨h0.length, 0, none⟩) (i + 1) (i + 1), .int .i64 ((i : Int) + 1)], H.set b (srcO cd s2) ++ L ++ [⟨1, ints (T ++ (i : Int) :: D)⟩]) := fun L2 => by
  have := clean_mid_upd (hu s2) (A := [.pointer (some ⟨b, 0, some 3⟩), .int .i64 n]) (B := [.int .i64 ((i : Int) + 1)]) (L := X ++ ⟨1, ints (T ++ (i : Int) :: D)⟩ :: L2) (k := X.length) (off := 0) (n := i + 1) (t := i + 1) (o := ⟨1, ints (T ++ (i : Int) :: D)⟩)
   (by intro v hv; simp at hv; rcases hv with rfl | rfl <;> simp; omega) (by simp) (by rw [hget0]; rfl) (flatO_ints _ _ _)
  rw [hG]
  have hl : (H.set b (srcO cd s2) ++ L ++ X).length = h0.length + X.length := by simp; omega
  rw [hl]
  simpa using this
 have hin2 : (i : Int) < n := by omega
 rw [← hG1]
 have c1 : ((m + 1) * 8 ≤ 1099511627776) = True := by simp; omega
 have c2 : (m < 1099511627776) = True := by simp; omega
 have c3 : (i = ys.length) = True := by simp [hyl]
 have c4 : (m ≤ i) = True := by simp [hmi]
 have c6 : m + 1 + (i - m) = i + 1 := by omega
 have c7 : ((i + 1) * 8 ≤ 1099511627776) = True := by simp; omega
 have c8 : (i < 1099511627776) = True := by simp; omega
 clear hTD hS hG hG1 hs2 hT hD hy hob hu S a1 a2 a3 hm o1 o2 hn62 hmi hnb hlt hLl hyl
 rw [floop_at i_zz35_B1.eq_1]
 simp (disch := first | assumption | omega | (simp [*] <;> omega) | fail) [-getElem?_pos, List.getElem?_cons_zero, List.getElem?_cons_succ, hin, hin2, e1, e2, w1, f1, f2, f3, hgo, hgo', hGn, hGn', htl, hfin, hcl, c1, c2, c3, c4, c6, c7, c8, hDl]
 intro x hx hj
 obtain ⟨z, _, rfl⟩ := List.mem_map.mp hx
 cases hj
theorem l_l01DrawOrder (n : Nat) (hn62 : n ≤ 62) : ∀ (k i : Nat), n = i + k → 1 ≤ i → ∀ (ys : List Int) (s1 : SS), NewNo i ys → SOK xs s1 → ∃ s2 ys', SOK xs s2 ∧ NewNo n ys' ∧
  floop (vcall F nro) nro [0, 1, 5, 6] i_zz35_B1 (H ++ [⟨1, []⟩]) [.pointer (some ⟨b, 0, some 3⟩), .int .i64 n, .slice (some ⟨H.length + 1, 0, none⟩) i i, .int .i64 i] (H.set b (srcO cd s1) ++ [⟨1, []⟩] ++ [⟨1, ints ys⟩]) =
   some (.exit 0, fl [(5, .slice (some ⟨H.length + 1, 0, none⟩) n n)], H.set b (srcO cd s2) ++ [⟨1, []⟩] ++ [⟨1, ints ys'⟩]) := by
 have hself : H.set b (srcO cd s) = H := hset_self S.at'
 have ho : Old H.length cd := by
  have := (S.sl (srcO cd s)).old
  rwa [hself] at this
 have hlt := S.lt
 have hu : ∀ s2, Upd (H ++ [⟨1, []⟩]) (H.set b (srcO cd s2) ++ [⟨1, []⟩]) := fun s2 => by
  have := (Upd.rfl' (H ++ [⟨1, []⟩])).set' (b := b) (o := srcO cd s2) (flatO_src (ho.le (by simp)) _)
  rwa [List.set_append_left _ _ hlt] at this
 intro k
 induction k with
 | zero =>
  intro i hi h1 ys s1 hy o1
  have : i = n := by omega
  subst this
  refine ⟨s1, ys, o1, hy, ?_⟩
  rw [floop_at i_zz35_B1.eq_1]
  simp (disch := first | assumption | omega | (simp [*] <;> omega) | fail) [-getElem?_pos, List.getElem?_cons_zero, List.getElem?_cons_succ, ]
 | succ k ih =>
  intro i hi h1 ys s1 hy o1
  obtain ⟨s2, ys', o2, hy', e⟩ := l_l01DrawOrder_step (nro := nro) S (H ++ [⟨1, []⟩]) n i (H.length + 1) (by omega) hn62 ys hy [⟨1, []⟩] [⟨1, ints ys⟩] s1 o1 hu (fun s2 => by rw [List.append_assoc, hgetS]; rfl) (by simp)
  obtain ⟨s3, ys'', o3, hy'', e2⟩ := ih (i + 1) (by omega) (by omega) ys' s2 hy' o2
  refine ⟨s3, ys'', o3, hy'', ?_⟩
  rw [e]
  rw [show (H ++ [(⟨1, []⟩ : VO)]).length = H.length + 1 by simp]
  rw [show ((i + 1 : Nat) : Int) = (i : Int) + 1 by omega] at e2
  exact e2
theorem c_zz35 (n : Nat) (h1 : 1 ≤ n) (hn62 : n ≤ 62) : ∃ s' ys, SOK xs s' ∧ NewNo n ys ∧
  vcall F nro k_zz35 [.pointer (some ⟨b, 0, some 3⟩), .int .i64 n] H = some (.slice (some ⟨H.length, 0, none⟩) n n, H.set b (srcO cd s') ++ [⟨1, ints ys⟩]) := by
 have hself : H.set b (srcO cd s) = H := hset_self S.at'
 have ho : Old H.length cd := by
  have := (S.sl (srcO cd s)).old
  rwa [hself] at this
 have hlt := S.lt
 have hnb := S.nr
 have hn : nro ≤ H.length := by omega
 have hn' := fun k => Nat.le_trans hn (Nat.le_add_right H.length k)
 have hu : ∀ s2, Upd (H ++ [⟨1, []⟩]) (H.set b (srcO cd s2) ++ [⟨1, []⟩]) := fun s2 => by
  have := (Upd.rfl' (H ++ [⟨1, []⟩])).set' (b := b) (o := srcO cd s2) (flatO_src (ho.le (by simp)) _)
  rwa [List.set_append_left _ _ hlt] at this
 obtain ⟨s2, ys', o2, hy', e⟩ := l_l01DrawOrder_step (nro := nro) S (H ++ [⟨1, []⟩]) n 0 H.length (by omega) hn62 [] ⟨rfl, by simp, by simp⟩ [⟨1, []⟩] [] s S.ok hu (fun s2 => by rw [List.append_nil, hgetS0]; rfl) (by simp)
 obtain ⟨s3, ys, o3, hy, e2⟩ := l_l01DrawOrder (nro := nro) S n hn62 (n - 1) 1 (by omega) (Nat.le_refl _) ys' s2 hy' o2
 rw [hself, List.append_nil] at e
 rw [show (H ++ [(⟨1, []⟩ : VO)]).length = H.length + 1 by simp] at e
 simp only [Nat.zero_add, Int.natCast_zero, Int.zero_add, Int.natCast_one] at e e2
 rw [e2] at e
 refine ⟨s3, ys, o3, hy, ?_⟩
 have hcl : kclean H [.slice (some ⟨H.length + 1, 0, none⟩) n n] (H.set b (srcO cd s3) ++ [⟨1, []⟩] ++ [⟨1, ints ys⟩]) = ([.slice (some ⟨H.length, 0, none⟩) n n], H.set b (srcO cd s3) ++ [⟨1, ints ys⟩]) := by
  rw [List.append_assoc, cleanup_one_upd (k := 1) (o := ⟨1, ints ys⟩) ((Upd.rfl' H).set' (b := b) (flatO_src ho s3)) (by simp [trefs, vrefs, crefs, arefs]) rfl (flatO_ints _ _ _)]
  simp [tren, vren, cren, aren, renOf_one]
 clear e2 hy hy' hu S
 refine v_zz35 (by simp [i_zz35]) ?_
 rw [fbody_eq]
 simp only [List.append_assoc, List.cons_append, List.nil_append] at e hcl
 simp (disch := first | assumption | omega | (simp [*] <;> omega) | fail) [-getElem?_pos, List.getElem?_cons_zero, List.getElem?_cons_succ, i_zz35, e, hcl, hn, hn']
end
end

/- Draws of regular graphs. -/
section
open Go
variable {nro : Nat}
theorem c_zz70 (h : VH) (hn : nro ≤ h.length) : vcall F nro k_zz70 [] h = some (.slice (some ⟨h.length, 0, none⟩) 15 15, h ++ [⟨1, nmV⟩]) := by
 refine v_zz70 (by simp [i_zz70]) ?_
 rw [fbody_eq]
 simp (disch := first | assumption | omega | (simp [*] <;> omega) | fail) [i_zz70, nmV, hn]
section
variable {H : VH} {b : Nat} {cd : Value} {xs : List Int} {s : SS} (S : Srce nro H b cd xs s)
include S
theorem Srce.nextE {s' : SS} (h : SOK xs s') (L : VH) (n : Int) (h1 : n ≤ 9223372036854775807) : ∃ x s2, SOK xs s2 ∧ 0 ≤ x ∧ (1 ≤ n → x < n) ∧ (n < 1 → x = 0) ∧
  vcall F nro k_zz81 [.pointer (some ⟨b, 0, some 3⟩), .int .i64 n] (H.set b (srcO cd s') ++ L) = some (.int .i64 x, H.set b (srcO cd s2) ++ L) := by
 obtain ⟨a1, a2, a3⟩ := srcN_ok S.code s' n
 exact ⟨_, _, srcS_ok h n, a1, a2, a3, S.nextA h L n h1⟩
theorem Srce.pickE {s' : SS} (h : SOK xs s') (L : VH) (k m : Nat) (ys : List Int) (hk : L[k]? = some ⟨1, ints ys⟩) (hm : ys.length = m) (h0 : 1 ≤ m) (h1 : m ≤ 100) : ∃ x s2, SOK xs s2 ∧ x ∈ ys ∧
  vcall F nro k_zz82 [.pointer (some ⟨b, 0, some 3⟩), .slice (some ⟨H.length + k, 0, none⟩) m m] (H.set b (srcO cd s') ++ L) = some (.int .i64 x, H.set b (srcO cd s2) ++ L) := by
 obtain ⟨a1, a2, _⟩ := srcN_ok S.code s' m
 refine ⟨_, _, srcS_ok h m, ?_, S.pickA h L k m ys hk hm h0 h1⟩
 have := a2 (by omega)
 rw [List.getD_eq_getElem?_getD, List.getElem?_eq_getElem (by omega)]
 exact List.getElem_mem _
theorem Srce.setL (L : VH) (s' s2 : SS) : (H.set b (srcO cd s') ++ L).set b (srcO cd s2) = H.set b (srcO cd s2) ++ L := by
 rw [List.set_append_left _ _ (by simpa using S.lt), List.set_set]
theorem Srce.drawOfE {s' : SS} (h : SOK xs s') (L : VH) (N : Nat) (h1 : 1 ≤ N) (h62 : N ≤ 62) : ∃ rows s2, SOK xs s2 ∧ GV N rows ∧
  vcall F nro k_zz60 [.pointer (some ⟨b, 0, some 3⟩), .int .i64 N] (H.set b (srcO cd s') ++ L) = some (gv N (.slice (some ⟨H.length + L.length, 0, none⟩) N N), H.set b (srcO cd s2) ++ (L ++ [⟨1, ints rows⟩])) := by
 obtain ⟨rows, s2, o2, g, e⟩ := c_zz60 (nro := nro) (S.set h L) N h1 h62
 refine ⟨rows, s2, o2, g, ?_⟩
 rw [e, S.setL, List.append_assoc]
 simp
theorem Srce.orderE {s' : SS} (h : SOK xs s') (L : VH) (N : Nat) (h1 : 1 ≤ N) (h62 : N ≤ 62) : ∃ ys s2, SOK xs s2 ∧ NewNo N ys ∧
  vcall F nro k_zz35 [.pointer (some ⟨b, 0, some 3⟩), .int .i64 N] (H.set b (srcO cd s') ++ L) = some (.slice (some ⟨H.length + L.length, 0, none⟩) N N, H.set b (srcO cd s2) ++ (L ++ [⟨1, ints ys⟩])) := by
 obtain ⟨s2, ys, o2, g, e⟩ := c_zz35 (nro := nro) (S.set h L) N h1 h62
 refine ⟨ys, s2, o2, g, ?_⟩
 rw [e, S.setL, List.append_assoc]
 simp
theorem Srce.cleanG {s' : SS} (L : VH) (k N : Nat) (w : Int) (rows : List Int) (hk : L[k]? = some ⟨1, ints rows⟩) : kclean H [.agg #[.int .i64 w, .slice (some ⟨H.length + k, 0, none⟩) N N]] (H.set b (srcO cd s') ++ L) = ([.agg #[.int .i64 w, .slice (some ⟨H.length, 0, none⟩) N N]], H.set b (srcO cd s') ++ [⟨1, ints rows⟩]) := by
 have hself : H.set b (srcO cd s) = H := hset_self S.at'
 have ho : Old H.length cd := by
  have := (S.sl (srcO cd s)).old
  rwa [hself] at this
 rw [cleanup_one_upd (k := k) (o := ⟨1, ints rows⟩) ((Upd.rfl' H).set' (b := b) (flatO_src ho s')) (by simp [trefs, vrefs, crefs, arefs]) hk (flatO_ints _ _ _)]
 simp [tren, vren, cren, aren, renOf_one]
theorem Srce.namedE {s' : SS} (L : VH) (v : Value) (hv : v ∈ nmV) : ∃ (N : Nat) (rows : List Int), GV N rows ∧ vcall F nro k_zz69 [v] (H.set b (srcO cd s') ++ L) = some (.tuple #[gv N (.slice (some ⟨H.length + L.length, 0, none⟩) N N), .bool true], H.set b (srcO cd s') ++ (L ++ [⟨1, ints rows⟩])) := by
 have hlt := S.lt
 have hnb := S.nr
 obtain ⟨N, rows, g, e⟩ := nm_all (nro := nro) v hv (H.set b (srcO cd s') ++ L) (by simp; omega)
 refine ⟨N, rows, g, ?_⟩
 rw [e, List.append_assoc]
 simp
theorem Srce.jumpsE {s' : SS} (L : VH) (t : Value) (js : List Int) (ht : Sli (H.set b (srcO cd s') ++ L) t js) (N : Nat) (h3 : 3 ≤ N) (h62 : N ≤ 62) (hj : ∀ x ∈ js, 1 ≤ x ∧ x < N) (hjl : js.length ≤ 100) :
  ∃ rows, GV N rows ∧ vcall F nro k_zz68 [.int .i64 N, t] (H.set b (srcO cd s') ++ L) = some (gv N (.slice (some ⟨H.length + L.length, 0, none⟩) N N), H.set b (srcO cd s') ++ (L ++ [⟨1, ints rows⟩])) := by
 have hlt := S.lt
 have hnb := S.nr
 obtain ⟨rows, g, e⟩ := c_zz68 (nro := nro) (H.set b (srcO cd s') ++ L) t js ht (by simp; omega) N h3 h62 hj hjl
 refine ⟨rows, g, ?_⟩
 rw [e, List.append_assoc]
 simp
theorem Srce.renamedE {s' : SS} (L : VH) (k j N : Nat) (rows ps : List Int) (hk : L[k]? = some ⟨1, ints rows⟩) (hj : L[j]? = some ⟨1, ints ps⟩) (g : GV N rows) (hp : NewNo N ps) :
  ∃ rows', GV N rows' ∧ vcall F nro k_zz48 [gv N (.slice (some ⟨H.length + k, 0, none⟩) N N), .slice (some ⟨H.length + j, 0, none⟩) N N] (H.set b (srcO cd s') ++ L) = some (gv N (.slice (some ⟨H.length + L.length, 0, none⟩) N N), H.set b (srcO cd s') ++ (L ++ [⟨1, ints rows'⟩])) := by
 have hlt := S.lt
 have hnb := S.nr
 have l1 := g.rok.len
 have l2 := hp.1
 have s1 := sli_at (h := H.set b (srcO cd s') ++ L) (b := H.length + k) (xs := rows) (by rw [hgetS]; exact hk)
 have s2 := sli_at (h := H.set b (srcO cd s') ++ L) (b := H.length + j) (xs := ps) (by rw [hgetS]; exact hj)
 rw [l1] at s1
 rw [l2] at s2
 obtain ⟨rows', g', e⟩ := c_zz48 (nro := nro) (H.set b (srcO cd s') ++ L) N _ _ rows ps s1 s2 g hp (by simp; omega)
 refine ⟨rows', g', ?_⟩
 rw [e, List.append_assoc]
 simp
end
end

/- Draws of regular graphs, of graphs, of what may be none. -/
section
open Go
variable {nro : Nat}
section
variable {H : VH} {b : Nat} {cd : Value} {xs : List Int} {s : SS} (S : Srce nro H b cd xs s)
include S
set_option maxHeartbeats 4000000 in
theorem c_zz25 : ∃ (N : Nat) (rows : List Int) (s' : SS), SOK xs s' ∧ GV N rows ∧
  vcall F nro k_zz25 [.pointer (some ⟨b, 0, some 3⟩)] H = some (gv N (.slice (some ⟨H.length, 0, none⟩) N N), H.set b (srcO cd s') ++ [⟨1, ints rows⟩]) := by
 have hlt := S.lt
 have hnb := S.nr
 have hn : nro ≤ H.length := by omega
 have hn' := fun k => Nat.le_trans hn (Nat.le_add_right H.length k)
 have hself : H.set b (srcO cd s) = H := hset_self S.at'
 have e0 := c_zz70 (nro := nro) (H ++ [⟨0, [.int .i64 0, .slice none 0 0]⟩]) (by simp; omega)
 obtain ⟨x1, s1, o1, m1, e1⟩ := S.pickE S.ok [⟨0, [.int .i64 0, .slice none 0 0]⟩, ⟨1, nmV⟩, ⟨1, ints [6, 13, 15]⟩] 2 3 [6, 13, 15] rfl rfl (by omega) (by omega)
 rw [hself] at e1
 have hx1 : 1 ≤ x1 ∧ x1 ≤ 15 := by
  simp only [List.mem_cons, List.not_mem_nil, or_false] at m1
  omega
 obtain ⟨x2, s2, o2, a2, b2, _, e2⟩ := S.nextE o1 [⟨0, [.int .i64 0, .slice none 0 0]⟩, ⟨1, nmV⟩, ⟨1, ints [6, 13, 15]⟩] x1 (by omega)
 have c2 := b2 hx1.1
 have c3 : x2 < 15 := by omega
 have hln : nmV.length = 15 := rfl
 obtain ⟨nm, hnm⟩ : ∃ v, v = nmV[x2.toNat]'(by omega) := ⟨_, rfl⟩
 have i2 : List.take 1 (List.drop x2.toNat nmV) = [nm] := by
  have hq : x2.toNat < nmV.length := by omega
  rw [List.drop_eq_getElem_cons hq, hnm]
  rfl
 have hmem : nm ∈ nmV := by rw [hnm]; exact List.getElem_mem _
 obtain ⟨N1, r1, g1, e3⟩ := S.namedE (s' := s2) [⟨0, [.int .i64 0, .slice none 0 0]⟩, ⟨1, nmV⟩, ⟨1, ints [6, 13, 15]⟩] nm hmem
 have l1 := g1.rok.len
 have k1 := g1.rok.le
 have k2 := g1.lo
 obtain ⟨nv, hnv⟩ : ∃ v, v = nmV := ⟨_, rfl⟩
 rw [← hnv] at e0 e1 e2 e3 i2 hln
 obtain ⟨x4, s4, o4, a4, b4, _, e4⟩ := S.nextE o2 [⟨0, [.int .i64 0, .slice none 0 0]⟩, ⟨1, nv⟩, ⟨1, ints [6, 13, 15]⟩, ⟨1, ints r1⟩, ⟨0, [.int .i64 N1, .slice (some ⟨H.length + 3, 0, none⟩) N1 N1]⟩] 3 (by omega)
 simp [-List.reduceReplicate] at e0 e1 e2 e3 e4
 clear hmem hnm m1 hx1 c2 b2 b4 a4 hnv
 by_cases z : x4 = 0
 ·obtain ⟨x5, s5, o5, a5, b5, _, e5⟩ := S.nextE o4 [⟨0, [.int .i64 0, .slice none 0 0]⟩, ⟨1, nv⟩, ⟨1, ints [6, 13, 15]⟩, ⟨1, ints r1⟩, ⟨0, [.int .i64 N1, .slice (some ⟨H.length + 3, 0, none⟩) N1 N1]⟩] 14 (by omega)
  have c5 := b5 (by omega)
  have w5 : IntKind.i64.wrap (3 + x5) = 3 + x5 := wrap64 (by omega) (by omega)
  obtain ⟨N2, hN2⟩ : ∃ N2 : Nat, 3 + x5 = N2 := ⟨(3 + x5).toNat, by omega⟩
  obtain ⟨r2, g2, e6⟩ := S.jumpsE (s' := s5) [⟨0, [.int .i64 0, .slice none 0 0]⟩, ⟨1, nv⟩, ⟨1, ints [6, 13, 15]⟩, ⟨1, ints r1⟩, ⟨0, [.int .i64 N1, .slice (some ⟨H.length + 3, 0, none⟩) N1 N1]⟩] (.slice none 0 0) [] (by simp [Sli, Sl]) N2 (by omega) (by omega) (by simp) (by simp)
  have l2 := g2.rok.len
  obtain ⟨x7, s7, o7, a7, b7, _, e7⟩ := S.nextE o5 [⟨0, [.int .i64 0, .slice none 0 0]⟩, ⟨1, nv⟩, ⟨1, ints [6, 13, 15]⟩, ⟨1, ints r1⟩, ⟨0, [.int .i64 N2, .slice (some ⟨H.length + 5, 0, none⟩) N2 N2]⟩, ⟨1, ints r2⟩] 2 (by omega)
  have q2 : 3 ≤ N2 ∧ N2 ≤ 62 := by omega
  simp [-List.reduceReplicate] at e5 e6 e7
  rw [hN2] at w5
  clear b5 c5 a5 b7 a7
  by_cases z2 : x7 = 0
  ·obtain ⟨x8, s8, o8, a8, b8, _, e8⟩ := S.nextE o7 [⟨0, [.int .i64 0, .slice none 0 0]⟩, ⟨1, nv⟩, ⟨1, ints [6, 13, 15]⟩, ⟨1, ints r1⟩, ⟨0, [.int .i64 N2, .slice (some ⟨H.length + 5, 0, none⟩) N2 N2]⟩, ⟨1, ints r2⟩] ((N2 : Int) - 1) (by omega)
   have c8 := b8 (by omega)
   have w8 : IntKind.i64.wrap ((N2 : Int) - 1) = (N2 : Int) - 1 := wrap64 (by omega) (by omega)
   have w9 : IntKind.i64.wrap (1 + x8) = 1 + x8 := wrap64 (by omega) (by omega)
   obtain ⟨y, hy⟩ : ∃ y, 1 + x8 = y := ⟨_, rfl⟩
   obtain ⟨r3, g3, e9⟩ := S.jumpsE (s' := s8) [⟨0, [.int .i64 0, .slice none 0 0]⟩, ⟨1, nv⟩, ⟨1, ints [6, 13, 15]⟩, ⟨1, ints r1⟩, ⟨0, [.int .i64 N2, .slice (some ⟨H.length + 5, 0, none⟩) N2 N2]⟩, ⟨1, ints r2⟩, ⟨1, ints [y]⟩] (.slice (some ⟨H.length + 6, 0, none⟩) 1 1) [y] (by simp [Sli, Sl, hgetS]) N2 q2.1 q2.2 (by intro q hq; simp at hq; omega) (by simp)
   have l3 := g3.rok.len
   obtain ⟨x10, s10, o10, a10, b10, _, e10⟩ := S.nextE o8 [⟨0, [.int .i64 0, .slice none 0 0]⟩, ⟨1, nv⟩, ⟨1, ints [6, 13, 15]⟩, ⟨1, ints r1⟩, ⟨0, [.int .i64 N2, .slice (some ⟨H.length + 7, 0, none⟩) N2 N2]⟩, ⟨1, ints r2⟩, ⟨1, ints [y]⟩, ⟨1, ints r3⟩] 2 (by omega)
   simp [-List.reduceReplicate] at e8 e9 e10
   rw [hy] at w9
   clear b8 c8 a8 b10 a10
   by_cases z3 : x10 = 0
   ·obtain ⟨ps, s11, o11, hp, e11⟩ := S.orderE o10 [⟨0, [.int .i64 0, .slice none 0 0]⟩, ⟨1, nv⟩, ⟨1, ints [6, 13, 15]⟩, ⟨1, ints r1⟩, ⟨0, [.int .i64 N2, .slice (some ⟨H.length + 7, 0, none⟩) N2 N2]⟩, ⟨1, ints r2⟩, ⟨1, ints [y]⟩, ⟨1, ints r3⟩] N2 (by omega) q2.2
    obtain ⟨r4, g4, e12⟩ := S.renamedE (s' := s11) [⟨0, [.int .i64 0, .slice none 0 0]⟩, ⟨1, nv⟩, ⟨1, ints [6, 13, 15]⟩, ⟨1, ints r1⟩, ⟨0, [.int .i64 N2, .slice (some ⟨H.length + 7, 0, none⟩) N2 N2]⟩, ⟨1, ints r2⟩, ⟨1, ints [y]⟩, ⟨1, ints r3⟩, ⟨1, ints ps⟩] 7 8 N2 r3 ps rfl rfl g3 hp
    refine ⟨N2, r4, s11, o11, g4, ?_⟩
    have hc := S.cleanG (s' := s11) [⟨0, [.int .i64 N2, .slice (some ⟨H.length + 9, 0, none⟩) N2 N2]⟩, ⟨1, nv⟩, ⟨1, ints [6, 13, 15]⟩, ⟨1, ints r1⟩, ⟨0, [.int .i64 N2, .slice (some ⟨H.length + 7, 0, none⟩) N2 N2]⟩, ⟨1, ints r2⟩, ⟨1, ints [y]⟩, ⟨1, ints r3⟩, ⟨1, ints ps⟩, ⟨1, ints r4⟩] 9 N2 N2 r4 rfl
    simp at e11 e12 hc
    clear S o1 o2 o4 o5 o7 o8 o10 o11 hp g1 g2 g3 g4 q2 l1 l2 l3 k1 k2 hself
    refine v_zz25 (by simp [i_zz25]) ?_
    rw [fbody_eq]
    simp (disch := first | assumption | omega | (simp [*] <;> omega) | fail) [-getElem?_pos, List.getElem?_cons_zero, List.getElem?_cons_succ, i_zz25, e0, e1, e2, hln, a2, c3, i2, e3, e4, z, e5, w5, hN2, e6, e7, z2, e8, w8, w9, hy, e9, e10, z3, e11, e12, hc, hn, hn', fresults, fresL, fres1, hgetS, hsetS, hgetS0, hsetS0]
   ·refine ⟨N2, r3, s10, o10, g3, ?_⟩
    have hc := S.cleanG (s' := s10) [⟨0, [.int .i64 N2, .slice (some ⟨H.length + 7, 0, none⟩) N2 N2]⟩, ⟨1, nv⟩, ⟨1, ints [6, 13, 15]⟩, ⟨1, ints r1⟩, ⟨0, [.int .i64 N2, .slice (some ⟨H.length + 7, 0, none⟩) N2 N2]⟩, ⟨1, ints r2⟩, ⟨1, ints [y]⟩, ⟨1, ints r3⟩] 7 N2 N2 r3 rfl
    simp at hc
    clear S o1 o2 o4 o5 o7 o8 o10 g1 g2 g3 q2 l1 l2 l3 k1 k2 hself
    refine v_zz25 (by simp [i_zz25]) ?_
    rw [fbody_eq]
    simp (disch := first | assumption | omega | (simp [*] <;> omega) | fail) [-getElem?_pos, List.getElem?_cons_zero, List.getElem?_cons_succ, i_zz25, e0, e1, e2, hln, a2, c3, i2, e3, e4, z, e5, w5, hN2, e6, e7, z2, e8, w8, w9, hy, e9, e10, z3, hc, hn, hn', fresults, fresL, fres1, hgetS, hsetS, hgetS0, hsetS0]
  ·obtain ⟨x10, s10, o10, a10, b10, _, e10⟩ := S.nextE o7 [⟨0, [.int .i64 0, .slice none 0 0]⟩, ⟨1, nv⟩, ⟨1, ints [6, 13, 15]⟩, ⟨1, ints r1⟩, ⟨0, [.int .i64 N2, .slice (some ⟨H.length + 5, 0, none⟩) N2 N2]⟩, ⟨1, ints r2⟩] 2 (by omega)
   simp [-List.reduceReplicate] at e10
   clear b10 a10
   by_cases z3 : x10 = 0
   ·obtain ⟨ps, s11, o11, hp, e11⟩ := S.orderE o10 [⟨0, [.int .i64 0, .slice none 0 0]⟩, ⟨1, nv⟩, ⟨1, ints [6, 13, 15]⟩, ⟨1, ints r1⟩, ⟨0, [.int .i64 N2, .slice (some ⟨H.length + 5, 0, none⟩) N2 N2]⟩, ⟨1, ints r2⟩] N2 (by omega) q2.2
    obtain ⟨r4, g4, e12⟩ := S.renamedE (s' := s11) [⟨0, [.int .i64 0, .slice none 0 0]⟩, ⟨1, nv⟩, ⟨1, ints [6, 13, 15]⟩, ⟨1, ints r1⟩, ⟨0, [.int .i64 N2, .slice (some ⟨H.length + 5, 0, none⟩) N2 N2]⟩, ⟨1, ints r2⟩, ⟨1, ints ps⟩] 5 6 N2 r2 ps rfl rfl g2 hp
    refine ⟨N2, r4, s11, o11, g4, ?_⟩
    have hc := S.cleanG (s' := s11) [⟨0, [.int .i64 N2, .slice (some ⟨H.length + 7, 0, none⟩) N2 N2]⟩, ⟨1, nv⟩, ⟨1, ints [6, 13, 15]⟩, ⟨1, ints r1⟩, ⟨0, [.int .i64 N2, .slice (some ⟨H.length + 5, 0, none⟩) N2 N2]⟩, ⟨1, ints r2⟩, ⟨1, ints ps⟩, ⟨1, ints r4⟩] 7 N2 N2 r4 rfl
    simp at e11 e12 hc
    clear S o1 o2 o4 o5 o7 o10 o11 hp g1 g2 g4 q2 l1 l2 k1 k2 hself
    refine v_zz25 (by simp [i_zz25]) ?_
    rw [fbody_eq]
    simp (disch := first | assumption | omega | (simp [*] <;> omega) | fail) [-getElem?_pos, List.getElem?_cons_zero, List.getElem?_cons_succ, i_zz25, e0, e1, e2, hln, a2, c3, i2, e3, e4, z, e5, w5, hN2, e6, e7, z2, e10, z3, e11, e12, hc, hn, hn', fresults, fresL, fres1, hgetS, hsetS, hgetS0, hsetS0]
   ·refine ⟨N2, r2, s10, o10, g2, ?_⟩
    have hc := S.cleanG (s' := s10) [⟨0, [.int .i64 N2, .slice (some ⟨H.length + 5, 0, none⟩) N2 N2]⟩, ⟨1, nv⟩, ⟨1, ints [6, 13, 15]⟩, ⟨1, ints r1⟩, ⟨0, [.int .i64 N2, .slice (some ⟨H.length + 5, 0, none⟩) N2 N2]⟩, ⟨1, ints r2⟩] 5 N2 N2 r2 rfl
    simp at hc
    clear S o1 o2 o4 o5 o7 o10 g1 g2 q2 l1 l2 k1 k2 hself
    refine v_zz25 (by simp [i_zz25]) ?_
    rw [fbody_eq]
    simp (disch := first | assumption | omega | (simp [*] <;> omega) | fail) [-getElem?_pos, List.getElem?_cons_zero, List.getElem?_cons_succ, i_zz25, e0, e1, e2, hln, a2, c3, i2, e3, e4, z, e5, w5, hN2, e6, e7, z2, e10, z3, hc, hn, hn', fresults, fresL, fres1, hgetS, hsetS, hgetS0, hsetS0]
 ·obtain ⟨x10, s10, o10, a10, b10, _, e10⟩ := S.nextE o4 [⟨0, [.int .i64 0, .slice none 0 0]⟩, ⟨1, nv⟩, ⟨1, ints [6, 13, 15]⟩, ⟨1, ints r1⟩, ⟨0, [.int .i64 N1, .slice (some ⟨H.length + 3, 0, none⟩) N1 N1]⟩] 2 (by omega)
  simp [-List.reduceReplicate] at e10
  clear b10 a10
  by_cases z3 : x10 = 0
  ·obtain ⟨ps, s11, o11, hp, e11⟩ := S.orderE o10 [⟨0, [.int .i64 0, .slice none 0 0]⟩, ⟨1, nv⟩, ⟨1, ints [6, 13, 15]⟩, ⟨1, ints r1⟩, ⟨0, [.int .i64 N1, .slice (some ⟨H.length + 3, 0, none⟩) N1 N1]⟩] N1 (by omega) k1
   obtain ⟨r4, g4, e12⟩ := S.renamedE (s' := s11) [⟨0, [.int .i64 0, .slice none 0 0]⟩, ⟨1, nv⟩, ⟨1, ints [6, 13, 15]⟩, ⟨1, ints r1⟩, ⟨0, [.int .i64 N1, .slice (some ⟨H.length + 3, 0, none⟩) N1 N1]⟩, ⟨1, ints ps⟩] 3 5 N1 r1 ps rfl rfl g1 hp
   refine ⟨N1, r4, s11, o11, g4, ?_⟩
   have hc := S.cleanG (s' := s11) [⟨0, [.int .i64 N1, .slice (some ⟨H.length + 6, 0, none⟩) N1 N1]⟩, ⟨1, nv⟩, ⟨1, ints [6, 13, 15]⟩, ⟨1, ints r1⟩, ⟨0, [.int .i64 N1, .slice (some ⟨H.length + 3, 0, none⟩) N1 N1]⟩, ⟨1, ints ps⟩, ⟨1, ints r4⟩] 6 N1 N1 r4 rfl
   simp at e11 e12 hc
   clear S o1 o2 o4 o10 o11 hp g1 g4 l1 k1 k2 hself
   refine v_zz25 (by simp [i_zz25]) ?_
   rw [fbody_eq]
   simp (disch := first | assumption | omega | (simp [*] <;> omega) | fail) [-getElem?_pos, List.getElem?_cons_zero, List.getElem?_cons_succ, i_zz25, e0, e1, e2, hln, a2, c3, i2, e3, e4, z, e10, z3, e11, e12, hc, hn, hn', fresults, fresL, fres1, hgetS, hsetS, hgetS0, hsetS0]
  ·refine ⟨N1, r1, s10, o10, g1, ?_⟩
   have hc := S.cleanG (s' := s10) [⟨0, [.int .i64 N1, .slice (some ⟨H.length + 3, 0, none⟩) N1 N1]⟩, ⟨1, nv⟩, ⟨1, ints [6, 13, 15]⟩, ⟨1, ints r1⟩, ⟨0, [.int .i64 N1, .slice (some ⟨H.length + 3, 0, none⟩) N1 N1]⟩] 3 N1 N1 r1 rfl
   simp at hc
   clear S o1 o2 o4 o10 g1 l1 k1 k2 hself
   refine v_zz25 (by simp [i_zz25]) ?_
   rw [fbody_eq]
   simp (disch := first | assumption | omega | (simp [*] <;> omega) | fail) [-getElem?_pos, List.getElem?_cons_zero, List.getElem?_cons_succ, i_zz25, e0, e1, e2, hln, a2, c3, i2, e3, e4, z, e10, z3, hc, hn, hn', fresults, fresL, fres1, hgetS, hsetS, hgetS0, hsetS0]
end
end

end Go.Proofs.YtbilmoahcnllmaaGreatDoor.Zv

