/- Part E of the proof: ZwSearch, ZwFound, ZwSearch2, ZwFirst, ZwFirst2, ZwLawFirst. Conditions: none. -/
import Derived.Test.YthpgiimaadohcaaDoorZpD
set_option linter.unusedSimpArgs false
set_option linter.unusedVariables false
/- The search for regular graphs: both searches are one. -/
namespace Go.Proofs.YthpgiimaadohcaaDoor.Zv
open Go
variable {nro : Nat}

def ms (n v w : Nat) : Nat := (n - v) * (n + 2) + (n - w)
theorem ms_step {n v w : Nat} (h : w < n) : ms n v (w + 1) < ms n v w := by unfold ms; omega
theorem ms_next {n v : Nat} (h : v + 1 < n) : ms n (v + 1) (v + 2) < ms n v n := by
  unfold ms
  have : n - v = (n - (v + 1)) + 1 := by omega
  rw [this, Nat.add_mul]
  omega
/-- The search: the first graph that completes the rows from the pair v, w on. -/
noncomputable def srch (n : Nat) (k c : Int) (r : List Int) (v w : Nat) : Option (List Int) :=
  if hw : w < n then
    if (deg r v : Int) + n - w < k then none
    else if mayB r k c v w = true then (match srch n k c (put2 r v w) v (w + 1) with
      | some r' => some r'
      | none => srch n k c r v (w + 1))
    else srch n k c r v (w + 1)
  else if (deg r v : Int) ≠ k then none else if h : v + 1 < n ∧ w = n then srch n k c r (v + 1) (v + 2) else some r
 termination_by ms n v w
 decreasing_by
  · exact ms_step hw
  · exact ms_step hw
  · exact ms_step hw
  · rw [h.2]; exact ms_next h.1
theorem srch_end {n : Nat} {k c : Int} {r : List Int} {v : Nat} : srch n k c r v n = if (deg r v : Int) ≠ k then none else if v + 1 < n then srch n k c r (v + 1) (v + 2) else some r := by
  conv => lhs; rw [srch]
  rw [dif_neg (Nat.lt_irrefl n)]
  simp
theorem srch_few {n : Nat} {k c : Int} {r : List Int} {v w : Nat} (hw : w < n) (h : (deg r v : Int) + n - w < k) : srch n k c r v w = none := by
  rw [srch, dif_pos hw, if_pos h]
theorem srch_not {n : Nat} {k c : Int} {r : List Int} {v w : Nat} (hw : w < n) (h : ¬ (deg r v : Int) + n - w < k) (hm : ¬ mayB r k c v w = true) : srch n k c r v w = srch n k c r v (w + 1) := by
  conv => lhs; rw [srch]
  rw [dif_pos hw, if_neg h, if_neg hm]
theorem srch_may {n : Nat} {k c : Int} {r : List Int} {v w : Nat} (hw : w < n) (h : ¬ (deg r v : Int) + n - w < k) (hm : mayB r k c v w = true) : srch n k c r v w = match srch n k c (put2 r v w) v (w + 1) with
      | some r' => some r'
      | none => srch n k c r v (w + 1) := by
  conv => lhs; rw [srch]
  rw [dif_pos hw, if_neg h, if_pos hm]

theorem GV.put2 {n : Nat} {r : List Int} (g : GV n r) {v w : Nat} (hv : v < n) (hw : w < n) (hne : v ≠ w) : GV n (put2 r v w) := by
  have hlo := g.lo
  have R := g.rok
  have h := R.isAdj.put2 (a := (v : Int)) (b := (w : Int)) (by omega) (by omega) (by omega) (by omega) R.le
  simp only [Int.toNat_natCast] at h
  have R2 := R.put2 hv hw
  refine ⟨by omega, g.hi, by rw [h.1], fun x hx => ?_, fun x y hx hy => ?_⟩
  · rw [h.1] at hx
    obtain ⟨r1, r2⟩ := R2.row x hx
    refine ⟨r1, ?_, ?_⟩
    · have e : ((2 ^ n : Nat) : Int) = (2 : Int) ^ ((n : Int).toNat) := by simp
      rw [← e]; omega
    · have := (h.2 x hx).2.2 x
      cases hb : rbit (Zv.put2 r v w) x x
      · rfl
      · rcases this.mp hb with h1 | ⟨h1, h2⟩ | ⟨h1, h2⟩
        · exact absurd rfl (g.ne h1)
        · omega
        · omega
  · rw [h.1] at hx hy
    have a := (h.2 x hx).2.2 y
    have b := (h.2 y hy).2.2 x
    rw [Bool.eq_iff_iff, a, b]
    constructor
    · rintro (h1 | ⟨h1, h2⟩ | ⟨h1, h2⟩)
      · exact .inl (g.sym' h1)
      · exact .inr (.inr ⟨h2, h1⟩)
      · exact .inr (.inl ⟨h2, h1⟩)
    · rintro (h1 | ⟨h1, h2⟩ | ⟨h1, h2⟩)
      · exact .inl (g.sym' h1)
      · exact .inr (.inr ⟨h2, h1⟩)
      · exact .inr (.inl ⟨h2, h1⟩)
/-- An edge put in and taken out again. -/
theorem cut_put {n : Nat} {r : List Int} (g : GV n r) {v w : Nat} (hv : v < n) (hw : w < n) (hne : v ≠ w) (hb : rbit r v w = false) : cut2 (put2 r v w) v w = r ∧ rbit (put2 r v w) v w = true ∧ rbit (put2 r v w) w v = true := by
  have R := g.rok
  have h := R.isAdj.put2 (a := (v : Int)) (b := (w : Int)) (by omega) (by omega) (by omega) (by omega) R.le
  simp only [Int.toNat_natCast] at h
  have b1 : rbit (put2 r v w) v w = true := ((h.2 v hv).2.2 w).mpr (.inr (.inl ⟨rfl, rfl⟩))
  have b2 : rbit (put2 r v w) w v = true := ((h.2 w hw).2.2 v).mpr (.inr (.inr ⟨rfl, rfl⟩))
  refine ⟨?_, b1, b2⟩
  have h2 := h.cut2 (a := (v : Int)) (b := (w : Int)) (by omega) (by omega) (by omega) (by omega) (by omega) (.inr (.inl (by simp))) (.inr (.inr (by simp)))
  simp only [Int.toNat_natCast] at h2
  refine (h2.congr fun x y hx => ?_).unique R.isAdj
  constructor
  · rintro ⟨h3 | h3, h4⟩
    · exact h3
    · exact absurd h3 h4
  · intro h3
    refine ⟨.inl h3, ?_⟩
    rintro (⟨rfl, rfl⟩ | ⟨rfl, rfl⟩)
    · rw [hb] at h3; cases h3
    · rw [g.sym' h3] at hb; cases hb
theorem mayB_not {r : List Int} {k c : Int} {v w : Nat} (h : mayB r k c v w = true) : rbit r v w = false := by
  unfold mayB at h
  cases hb : rbit r v w
  · rfl
  · rw [hb] at h; simp at h

/-- What the search leaves behind. -/
def lefto (r : List Int) (o : Option (List Int)) : List Int := o.getD r
@[simp] theorem lefto_some (r r' : List Int) : lefto r (some r') = r' := rfl
@[simp] theorem lefto_none (r : List Int) : lefto r none = r := rfl

theorem sub_pow {n : Nat} {r : List Int} (g : GV n r) {v w : Nat} (hb : rbit r v w = true) : IntKind.i64.wrap (r.getD v 0 - ((2 ^ w : Nat) : Int)) = r.getD v 0 - ((2 ^ w : Nat) : Int) := by
  obtain ⟨hv, hw⟩ := rbit_lt g.rok hb
  obtain ⟨r1, r2⟩ := g.rok.row v hv
  have r3 := le62 g.rok.le r2
  have h1 := (sub_bit hb).1
  obtain ⟨p, hp⟩ : ∃ p, p = 2 ^ w := ⟨_, rfl⟩
  rw [← hp] at h1 ⊢
  exact wrap64 (by omega) (by omega)

set_option maxHeartbeats 4000000 in
theorem c_spec_l07Search (n : Nat) (k c : Int) (b : Nat) (hn10 : n ≤ 10) (hnb : nro ≤ b) (r : List Int) (v w : Nat) (h : VH) (g : GV n r) (hv : v < n) (hvw : v < w) (hw : w ≤ n) (hb : h[b]? = some ⟨1, ints r⟩) :
    vcall F nro k_spec_l07Search [gv n (.slice (some ⟨b, 0, none⟩) n n), .int .i64 k, .int .i64 c, .int .i64 v, .int .i64 w] h = some (.bool (srch n k c r v w).isSome, h.set b ⟨1, ints (lefto r (srch n k c r v w))⟩) := by
  have R := g.rok
  have hrl := R.len
  have hbl := (List.getElem?_eq_some_iff.mp hb).1
  have hn' : ∀ k, nro ≤ h.length + k := fun k => by omega
  have ho : ∀ k, b < h.length + k := fun k => by omega
  have hS : Sli h (.slice (some ⟨b, 0, none⟩) n n) r := by
    have := sli_at (h := h) (b := b) (xs := r) hb
    rwa [hrl] at this
  have dle : ∀ u, u < n → deg r u ≤ 62 := fun u hu => by
    obtain ⟨r1, r2⟩ := R.row u hu
    exact pc_le _ 62 (le62 R.le r2)
  have hd : ∀ u, u < n → vcall F nro k_spec_l01Degree [gv n (.slice (some ⟨b, 0, none⟩) n n), .int .i64 u] (bx h n (.slice (some ⟨b, 0, none⟩) n n)) = some (.int .i64 (deg r u), bx h n (.slice (some ⟨b, 0, none⟩) n n)) := fun u hu => c_spec_l01Degree n u _ r _ (hS.app _) R hu
  -- what follows from a pair on
  have main : ∀ (v' w' : Nat), v' < n → v' < w' → w' < n → ms n v' w' ≤ ms n v w →
      (((deg r v' : Int) + n - w' < k ∧ srch n k c r v' w' = none) ∨
      (¬ (deg r v' : Int) + n - w' < k ∧ vcall F nro k_spec_l07May [gv n (.slice (some ⟨b, 0, none⟩) n n), .int .i64 k, .int .i64 c, .int .i64 v', .int .i64 w'] (bx h n (.slice (some ⟨b, 0, none⟩) n n)) = some (.bool false, bx h n (.slice (some ⟨b, 0, none⟩) n n)) ∧
        ∃ s, srch n k c r v' w' = s ∧ vcall F nro k_spec_l07Search [gv n (.slice (some ⟨b, 0, none⟩) n n), .int .i64 k, .int .i64 c, .int .i64 v', .int .i64 ((w' : Int) + 1)] (bx h n (.slice (some ⟨b, 0, none⟩) n n)) = some (.bool s.isSome, h.set b ⟨1, ints (lefto r s)⟩ ++ [⟨0, [.int .i64 n, .slice (some ⟨b, 0, none⟩) n n]⟩])) ∨
      (¬ (deg r v' : Int) + n - w' < k ∧ vcall F nro k_spec_l07May [gv n (.slice (some ⟨b, 0, none⟩) n n), .int .i64 k, .int .i64 c, .int .i64 v', .int .i64 w'] (bx h n (.slice (some ⟨b, 0, none⟩) n n)) = some (.bool true, bx h n (.slice (some ⟨b, 0, none⟩) n n)) ∧
        ∃ q, vcall F nro k_spec_l01Put [gv n (.slice (some ⟨b, 0, none⟩) n n), .int .i64 v', .int .i64 w'] (bx h n (.slice (some ⟨b, 0, none⟩) n n)) = some (.tuple #[], h.set b ⟨1, ints q⟩ ++ [⟨0, [.int .i64 n, .slice (some ⟨b, 0, none⟩) n n]⟩]) ∧
        ((∃ r', srch n k c r v' w' = some r' ∧ vcall F nro k_spec_l07Search [gv n (.slice (some ⟨b, 0, none⟩) n n), .int .i64 k, .int .i64 c, .int .i64 v', .int .i64 ((w' : Int) + 1)] (h.set b ⟨1, ints q⟩ ++ [⟨0, [.int .i64 n, .slice (some ⟨b, 0, none⟩) n n]⟩]) = some (.bool true, h.set b ⟨1, ints r'⟩ ++ [⟨0, [.int .i64 n, .slice (some ⟨b, 0, none⟩) n n]⟩])) ∨
         (∃ s, srch n k c r v' w' = s ∧ vcall F nro k_spec_l07Search [gv n (.slice (some ⟨b, 0, none⟩) n n), .int .i64 k, .int .i64 c, .int .i64 v', .int .i64 ((w' : Int) + 1)] (h.set b ⟨1, ints q⟩ ++ [⟨0, [.int .i64 n, .slice (some ⟨b, 0, none⟩) n n]⟩]) = some (.bool false, h.set b ⟨1, ints q⟩ ++ [⟨0, [.int .i64 n, .slice (some ⟨b, 0, none⟩) n n]⟩]) ∧
           vcall F nro k_spec_l07Search [gv n (.slice (some ⟨b, 0, none⟩) n n), .int .i64 k, .int .i64 c, .int .i64 v', .int .i64 ((w' : Int) + 1)] (bx h n (.slice (some ⟨b, 0, none⟩) n n)) = some (.bool s.isSome, h.set b ⟨1, ints (lefto r s)⟩ ++ [⟨0, [.int .i64 n, .slice (some ⟨b, 0, none⟩) n n]⟩]) ∧
           ∃ x y : Int, q.length = n ∧ List.take 1 (List.drop v' (ints q)) = [.int .i64 x] ∧ IntKind.i64.wrap (x - 2 ^ w') = x - 2 ^ w' ∧ List.take 1 (List.drop w' (ints (q.set v' (x - 2 ^ w')))) = [.int .i64 y] ∧ IntKind.i64.wrap (y - 2 ^ v') = y - 2 ^ v' ∧ (q.set v' (x - 2 ^ w')).set w' (y - 2 ^ v') = r)))) := by
    intro v' w' h1 h2 h3 hms
    by_cases c1 : (deg r v' : Int) + n - w' < k
    · exact .inl ⟨c1, srch_few h3 c1⟩
    · have hm := c_spec_l07May (nro := nro) n v' w' k c (.slice (some ⟨b, 0, none⟩) n n) r (bx h n (.slice (some ⟨b, 0, none⟩) n n)) (hS.app _) R h1 h3 (by omega)
      have hb1 : (bx h n (.slice (some ⟨b, 0, none⟩) n n))[b]? = some ⟨1, ints r⟩ := hget_old hb _
      have hlt := ms_step (v := v') h3
      have r2 := c_spec_l07Search n k c b hn10 hnb r v' (w' + 1) (bx h n (.slice (some ⟨b, 0, none⟩) n n)) g h1 (by omega) h3 hb1
      rw [show ((w' + 1 : Nat) : Int) = (w' : Int) + 1 by omega, hset_old hb] at r2
      by_cases c2 : mayB r k c v' w' = true
      · rw [c2] at hm
        have hp := c_spec_l01Put (nro := nro) n b n v' w' r (bx h n (.slice (some ⟨b, 0, none⟩) n n)) hb1 hrl hnb (by omega) (by omega) (by omega) (by omega) (by omega)
        rw [hset_old hb] at hp
        have gq := g.put2 h1 h3 (by omega)
        obtain ⟨cp1, cp2, cp3⟩ := cut_put g h1 h3 (by omega) (mayB_not c2)
        have hql := gq.rok.len
        have r1 := c_spec_l07Search n k c b hn10 hnb (put2 r v' w') v' (w' + 1) (h.set b ⟨1, ints (put2 r v' w')⟩ ++ [⟨0, [.int .i64 n, .slice (some ⟨b, 0, none⟩) n n]⟩]) gq h1 (by omega) h3 (hget_set hb _ _)
        rw [show ((w' + 1 : Nat) : Int) = (w' : Int) + 1 by omega, hset_set hb] at r1
        refine .inr (.inr ⟨c1, hm, put2 r v' w', hp, ?_⟩)
        have hs := srch_may h3 c1 c2
        cases ho1 : srch n k c (put2 r v' w') v' (w' + 1) with
        | some r' =>
          rw [ho1] at r1 hs
          exact .inl ⟨r', hs, r1⟩
        | none =>
          rw [ho1] at r1 hs
          refine .inr ⟨_, hs, r1, r2, ?_⟩
          obtain ⟨q, hq⟩ : ∃ q, q = put2 r (v' : Int) (w' : Int) := ⟨_, rfl⟩
          rw [← hq] at hql gq cp1 cp2 cp3 ⊢
          have e1 := sub_pow gq cp2
          have e2 := sub_pow gq cp3
          have hvq : v' < q.length := by omega
          have hwq : w' < q.length := by omega
          rw [getD_at q hvq] at e1
          rw [getD_at q hwq] at e2
          have p1 : ((2 ^ w' : Nat) : Int) = 2 ^ w' := by simp
          have p2 : ((2 ^ v' : Nat) : Int) = 2 ^ v' := by simp
          rw [p1] at e1
          rw [p2] at e2
          have hne : v' ≠ w' := by omega
          have e3 : (q.set v' (q[v'] - 2 ^ w'))[w']'(by simpa using hwq) = q[w'] := by rw [List.getElem_set_ne hne]
          refine ⟨q[v'], q[w'], hql, take1_ints hvq, e1, ?_, e2, ?_⟩
          · rw [take1_ints (by simpa using hwq), e3]
          · have := cut2_at (r := q) (a := (v' : Int)) (b := (w' : Int)) (by simpa using hvq) (by simpa using hwq)
            simp only [Int.toNat_natCast, e3] at this
            rw [← this]; exact cp1
      · have c2' : mayB r k c v' w' = false := by simpa using c2
        rw [c2'] at hm
        exact .inr (.inl ⟨c1, hm, _, srch_not h3 c1 c2, r2⟩)
  have hgb : ∀ q L, (h.set b ⟨1, ints q⟩ ++ L)[b]? = some ⟨1, ints q⟩ := fun q L => hget_set hb L _
  have hsb : ∀ q q' L, (h.set b ⟨1, ints q⟩ ++ L).set b ⟨1, ints q'⟩ = h.set b ⟨1, ints q'⟩ ++ L := fun q q' L => hset_set hb L _ _
  have hself : h.set b ⟨1, ints r⟩ = h := hset_self hb
  refine v_spec_l07Search (by simp [i_spec_l07Search]) ?_
  rw [fbody_eq]
  have dv := hd v hv
  have dvl := dle v hv
  by_cases c0 : w = n
  · subst c0
    rw [srch_end]
    obtain ⟨d, hdd⟩ : ∃ d, d = deg r v := ⟨_, rfl⟩
    rw [← hdd] at dv dvl ⊢
    by_cases c1 : (d : Int) = k
    · rw [if_neg (fun h => h c1)]
      subst c1
      by_cases c2 : v + 1 < w
      · rw [if_pos c2]
        have c2n : ¬ (v : Int) + 1 = w := by omega
        have dv2 := hd (v + 1) c2
        have dv2l := dle (v + 1) c2
        rw [show ((v + 1 : Nat) : Int) = (v : Int) + 1 by omega] at dv2
        by_cases c3 : v + 2 = w
        · have c3' : (v : Int) + 1 + 1 = w := by omega
          have es : srch w d c r (v + 1) (v + 2) = if (deg r (v + 1) : Int) ≠ d then none else some r := by
            rw [c3, srch_end]
            simp only [show ¬ (v + 1 + 1 < w) by omega, if_false]
          rw [es]
          obtain ⟨d2, hd2⟩ : ∃ d2, d2 = deg r (v + 1) := ⟨_, rfl⟩
          rw [← hd2] at dv2 ⊢
          clear main hd2 es hd dle hdd
          by_cases c4 : (d2 : Int) = d
          · have c4' : d2 = d := by omega
            subst c4'
            simp (disch := first | assumption | omega | (simp [*] <;> omega) | fail) [i_spec_l07Search, dv, dv2, c2n, c3', hself, hn', ho, wrap64]
          · have c4' : ¬ d2 = d := by omega
            simp (disch := first | assumption | omega | (simp [*] <;> omega) | fail) [i_spec_l07Search, dv, dv2, c2n, c3', c4, c4', hself, hn', ho, wrap64]
        · obtain ⟨V, hV⟩ : ∃ V, V = v + 1 := ⟨_, rfl⟩
          obtain ⟨W, hW⟩ : ∃ W, W = v + 2 := ⟨_, rfl⟩
          have hmm := main V W (by omega) (by omega) (by omega) (by rw [hV, hW]; exact Nat.le_of_lt (ms_next c2))
          have iV : (v : Int) + 1 = V := by omega
          have iW : (V : Int) + 1 = W := by omega
          rw [iV] at dv2 c2n
          rw [← hV] at dv2 dv2l ⊢
          rw [← hW]
          obtain ⟨d2, hd2⟩ : ∃ d2, d2 = deg r V := ⟨_, rfl⟩
          rw [← hd2] at dv2 dv2l hmm
          have c3' : ¬ (W : Int) = w := by omega
          have c3n : ¬ W = w := by omega
          have c2m : ¬ V = w := by omega
          have q1 : IntKind.i64.wrap ((d2 : Int) + w) = d2 + w := wrap64 (by omega) (by omega)
          have q2 : IntKind.i64.wrap ((d2 : Int) + w - W) = d2 + w - W := wrap64 (by omega) (by omega)
          have q3 : IntKind.i64.wrap (V : Int) = V := wrap64 (by omega) (by omega)
          have q4 : IntKind.i64.wrap (W : Int) = W := wrap64 (by omega) (by omega)
          have q5 : IntKind.i64.wrap ((W : Int) + 1) = (W : Int) + 1 := wrap64 (by omega) (by omega)
          have k1 : (V : Int) < w := by omega
          have k2 : (W : Int) < w := by omega
          have k3 : V < w := by omega
          have k4 : W < w := by omega
          have kV : V ≤ 10 := by omega
          have kW : W ≤ 10 := by omega
          clear main hd2 hd dle hdd hV hW c2 c3 hvw hv
          rcases hmm with ⟨f1, f2⟩ | ⟨f1, f2, s, f3, f4⟩ | ⟨f1, f2, q, f3, ⟨r', f4, f5⟩ | ⟨s, f4, f5, f6, x, y, f7, f8, f9, f10, f11, f12⟩⟩
          · rw [f2]
            simp (disch := first | assumption | omega | (simp [*] <;> omega) | fail) [i_spec_l07Search, dv, dv2, iV, iW, c2n, c2m, c3', c3n, q1, q2, q3, q4, f1, hself, hn', ho]
          · rw [f3]
            clear f3
            simp (disch := first | assumption | omega | (simp [*] <;> omega) | fail) [i_spec_l07Search, dv, dv2, iV, iW, c2n, c2m, c3', c3n, q1, q2, q3, q4, q5, f1, f2, f4, hself, hn', ho]
          · rw [f4]
            clear f4
            simp (disch := first | assumption | omega | (simp [*] <;> omega) | fail) [i_spec_l07Search, dv, dv2, iV, iW, c2n, c2m, c3', c3n, q1, q2, q3, q4, q5, f1, f2, f3, f5, hself, hn', ho]
          · rw [f4]
            clear f4
            have f12' : h.set b ⟨1, ints ((q.set V (x - 2 ^ W)).set W (y - 2 ^ V))⟩ = h := by rw [f12]; exact hself
            have e1 : splice V [.int .i64 (x - 2 ^ W)] (ints q) = ints (q.set V (x - 2 ^ W)) := splice_ints (by omega)
            have e2 : splice W [.int .i64 (y - 2 ^ V)] (ints (q.set V (x - 2 ^ W))) = ints ((q.set V (x - 2 ^ W)).set W (y - 2 ^ V)) := splice_ints (by simp; omega)
            have g1 : ishl .i64 1 (W : Int) = 2 ^ W := by rw [ishl_one' (by omega) (by omega), Int.toNat_natCast]
            have g2 : ishl .i64 1 (V : Int) = 2 ^ V := by rw [ishl_one' (by omega) (by omega), Int.toNat_natCast]
            have g3 : IntKind.u64.wrap (W : Int) = W := wrapu64 (by omega) (by omega)
            have g4 : IntKind.u64.wrap (V : Int) = V := wrapu64 (by omega) (by omega)
            clear f12
            simp (disch := first | assumption | omega | (simp [*] <;> omega) | fail) [i_spec_l07Search, dv, dv2, iV, iW, c2n, c2m, c3', c3n, q1, q2, q3, q4, q5, f1, f2, f3, f5, f6, f7, f8, f9, f10, f11, f12', e1, e2, g1, g2, g3, g4, k1, k2, k3, k4, hgb, hsb, hself, hn', ho, hnb]
      · rw [if_neg c2]
        have c3 : (v : Int) + 1 = w := by omega
        clear main hd dle hdd
        simp (disch := first | assumption | omega | (simp [*] <;> omega) | fail) [i_spec_l07Search, dv, c3, hself, hn', ho, wrap64]
    · rw [if_pos c1]
      clear main hd dle hdd
      simp (disch := first | assumption | omega | (simp [*] <;> omega) | fail) [i_spec_l07Search, dv, c1, hself, hn', ho]
  · have c0' : ¬ (w : Int) = n := by omega
    have c1 : ¬ (v : Int) = n := by omega
    have hwn : w < n := by omega
    have hmm := main v w hv hvw hwn (Nat.le_refl _)
    obtain ⟨d2, hd2⟩ : ∃ d2, d2 = deg r v := ⟨_, rfl⟩
    rw [← hd2] at dv dvl hmm
    have q1 : IntKind.i64.wrap ((d2 : Int) + n) = d2 + n := wrap64 (by omega) (by omega)
    have q2 : IntKind.i64.wrap ((d2 : Int) + n - w) = d2 + n - w := wrap64 (by omega) (by omega)
    have q5 : IntKind.i64.wrap ((w : Int) + 1) = (w : Int) + 1 := wrap64 (by omega) (by omega)
    have k1 : (v : Int) < n := by omega
    have k2 : (w : Int) < n := by omega
    clear main hd2 hd dle
    rcases hmm with ⟨f1, f2⟩ | ⟨f1, f2, s, f3, f4⟩ | ⟨f1, f2, q, f3, ⟨r', f4, f5⟩ | ⟨s, f4, f5, f6, x, y, f7, f8, f9, f10, f11, f12⟩⟩
    · rw [f2]
      simp (disch := first | assumption | omega | (simp [*] <;> omega) | fail) [i_spec_l07Search, dv, c0, c0', c1, q1, q2, f1, hself, hn', ho]
    · rw [f3]
      clear f3
      simp (disch := first | assumption | omega | (simp [*] <;> omega) | fail) [i_spec_l07Search, dv, c0, c0', c1, q1, q2, q5, f1, f2, f4, hself, hn', ho]
    · rw [f4]
      clear f4
      simp (disch := first | assumption | omega | (simp [*] <;> omega) | fail) [i_spec_l07Search, dv, c0, c0', c1, q1, q2, q5, f1, f2, f3, f5, hself, hn', ho]
    · rw [f4]
      clear f4
      have f12' : h.set b ⟨1, ints ((q.set v (x - 2 ^ w)).set w (y - 2 ^ v))⟩ = h := by rw [f12]; exact hself
      have e1 : splice v [.int .i64 (x - 2 ^ w)] (ints q) = ints (q.set v (x - 2 ^ w)) := splice_ints (by omega)
      have e2 : splice w [.int .i64 (y - 2 ^ v)] (ints (q.set v (x - 2 ^ w))) = ints ((q.set v (x - 2 ^ w)).set w (y - 2 ^ v)) := splice_ints (by simp; omega)
      have g1 : ishl .i64 1 (w : Int) = 2 ^ w := by rw [ishl_one' (by omega) (by omega), Int.toNat_natCast]
      have g2 : ishl .i64 1 (v : Int) = 2 ^ v := by rw [ishl_one' (by omega) (by omega), Int.toNat_natCast]
      have g3 : IntKind.u64.wrap (w : Int) = w := wrapu64 (by omega) (by omega)
      have g4 : IntKind.u64.wrap (v : Int) = v := wrapu64 (by omega) (by omega)
      clear f12
      simp (disch := first | assumption | omega | (simp [*] <;> omega) | fail) [i_spec_l07Search, dv, c0, c0', c1, q1, q2, q5, f1, f2, f3, f5, f6, f7, f8, f9, f10, f11, f12', e1, e2, g1, g2, g3, g4, k1, k2, hv, hwn, hgb, hsb, hself, hn', ho, hnb]
 termination_by ms n v w
 decreasing_by all_goals omega
end Go.Proofs.YthpgiimaadohcaaDoor.Zv

/- What the search finds is regular and has no short cycle. -/
namespace Go.Proofs.YthpgiimaadohcaaDoor.Zv
open Go

section
variable {n : Nat} {r : List Int} (g : GV n r)
include g
theorem put_iff {v w : Nat} (hv : v < n) (hw : w < n) (x y : Nat) : rbit (put2 r v w) x y = true ↔ rbit r x y = true ∨ (x = v ∧ y = w) ∨ (x = w ∧ y = v) := by
  have R := g.rok
  have h := R.isAdj.put2 (a := (v : Int)) (b := (w : Int)) (by omega) (by omega) (by omega) (by omega) R.le
  simp only [Int.toNat_natCast] at h
  by_cases hx : x < n
  · rw [(h.2 x hx).2.2 y]
  · constructor
    · intro e; exact absurd (rbit_lt (R.put2 hv hw) e).1 hx
    · rintro (e | ⟨rfl, _⟩ | ⟨rfl, _⟩)
      · exact absurd (rbit_lt R e).1 hx
      · exact absurd hv hx
      · exact absurd hw hx
theorem deg_put {v w u : Nat} (hv : v < n) (hw : w < n) (h1 : u ≠ v) (h2 : u ≠ w) (hu : u < n) : deg (put2 r v w) u = deg r u := by
  have R2 := g.rok.put2 hv hw
  have e : (deg (put2 r v w) u : Int) = deg r u := by
    rw [deg_sum R2 hu, deg_sum g.rok hu]
    refine sumF_congr fun y _ => ?_
    have := put_iff g hv hw u y
    have e : rbit (put2 r v w) u y = rbit r u y := by
      rw [Bool.eq_iff_iff, this]
      constructor
      · rintro (h | ⟨h, _⟩ | ⟨h, _⟩)
        · exact h
        · exact absurd h h1
        · exact absurd h h2
      · exact .inl
    rw [e]
  omega
theorem deg_put1 {v w : Nat} (hv : v < n) (hw : w < n) (hne : v ≠ w) (hb : rbit r v w = false) : deg (put2 r v w) v = deg r v + 1 ∧ deg (put2 r v w) w = deg r w + 1 := by
  have R2 := g.rok.put2 hv hw
  have one : ∀ a b, a < n → b < n → rbit r a b = false → (∀ y, rbit (put2 r v w) a y = true ↔ rbit r a y = true ∨ y = b) → (deg (put2 r v w) a : Int) = deg r a + 1 := by
    intro a b ha hbn hab e
    rw [deg_sum R2 ha, deg_sum g.rok ha]
    have h1 : sumF (fun y => oneIf (rbit (put2 r v w) a y = true)) n = sumF (fun y => oneIf (rbit r a y = true) + oneIf (y = b)) n := sumF_congr fun y _ => by
      have ey := e y
      by_cases h1 : rbit r a y = true
      · have h2 : ¬ y = b := by rintro rfl; rw [hab] at h1; cases h1
        rw [one_pos h1, one_neg h2, one_pos (ey.mpr (.inl h1))]; omega
      · by_cases h2 : y = b
        · rw [one_neg h1, one_pos h2, one_pos (ey.mpr (.inr h2))]; omega
        · rw [one_neg h1, one_neg h2, one_neg (fun e => (ey.mp e).elim h1 h2)]; omega
    rw [h1, sumF_add, sumF_one (f := fun y => oneIf (y = b)) hbn fun i _ hne => one_neg hne, one_pos rfl]
  have a1 := one v w hv hw hb fun y => by
    rw [put_iff g hv hw]
    constructor
    · rintro (h | ⟨_, h⟩ | ⟨h, _⟩)
      · exact .inl h
      · exact .inr h
      · exact absurd h hne
    · rintro (h | h)
      · exact .inl h
      · exact .inr (.inl ⟨rfl, h⟩)
  have hb2 : rbit r w v = false := by
    cases h : rbit r w v
    · rfl
    · rw [g.sym' h] at hb; cases hb
  have a2 := one w v hw hv hb2 fun y => by
    rw [put_iff g hv hw]
    constructor
    · rintro (h | ⟨h, _⟩ | ⟨_, h⟩)
      · exact .inl h
      · exact absurd h.symm hne
      · exact .inr h
    · rintro (h | h)
      · exact .inl h
      · exact .inr (.inr ⟨rfl, h⟩)
  omega

omit g in
theorem mayB_iff {k c : Int} {v w : Nat} : mayB r k c v w = true ↔ rbit r v w = false ∧ (deg r v : Int) < k ∧ (deg r w : Int) < k ∧ (far r v w < 0 ∨ c ≤ far r v w + 1) := by
  unfold mayB
  cases h : rbit r v w <;> simp <;> omega

/-- Walks with one more edge. -/
theorem walk_put {v w : Nat} (hv : v < n) (hw : w < n) {a b : Nat} (hab : rbit r a b = true) (gq : GV n (put2 r v w)) : ∀ (k x : Nat), Wk (cut2 (put2 r v w) a b) k a x →
    (∃ e, e ≤ k ∧ Wk (cut2 r a b) e a x) ∨ ∃ i j, i + j + 1 ≤ k ∧ ((Wk (cut2 r a b) i a v ∧ Wk (cut2 r a b) j w x) ∨ (Wk (cut2 r a b) i a w ∧ Wk (cut2 r a b) j v x))
  | 0, x, h => .inl ⟨0, Nat.le_refl _, h⟩
  | k + 1, y, h => by
    obtain ⟨x, h1, h2⟩ := h
    have hab' : rbit (put2 r v w) a b = true := (put_iff g hv hw a b).mpr (.inl hab)
    rw [cut_iff gq hab', put_iff g hv hw] at h2
    have ih := walk_put hv hw hab gq k x h1
    obtain ⟨h3 | ⟨rfl, rfl⟩ | ⟨rfl, rfl⟩, h4⟩ := h2
    · have h5 : rbit (cut2 r a b) x y = true := (cut_iff g hab x y).mpr ⟨h3, h4⟩
      rcases ih with ⟨e, i1, i2⟩ | ⟨i, j, i1, ⟨i2, i3⟩ | ⟨i2, i3⟩⟩
      · exact .inl ⟨e + 1, by omega, x, i2, h5⟩
      · exact .inr ⟨i, j + 1, by omega, .inl ⟨i2, x, i3, h5⟩⟩
      · exact .inr ⟨i, j + 1, by omega, .inr ⟨i2, x, i3, h5⟩⟩
    · rcases ih with ⟨e, i1, i2⟩ | ⟨i, j, i1, ⟨i2, i3⟩ | ⟨i2, i3⟩⟩
      · exact .inr ⟨e, 0, by omega, .inl ⟨i2, rfl⟩⟩
      · exact .inr ⟨i, 0, by omega, .inl ⟨i2, rfl⟩⟩
      · exact .inl ⟨i, by omega, i2⟩
    · rcases ih with ⟨e, i1, i2⟩ | ⟨i, j, i1, ⟨i2, i3⟩ | ⟨i2, i3⟩⟩
      · exact .inr ⟨e, 0, by omega, .inr ⟨i2, rfl⟩⟩
      · exact .inl ⟨i, by omega, i2⟩
      · exact .inr ⟨i, 0, by omega, .inr ⟨i2, rfl⟩⟩

omit g in
theorem Wk.mono {rows rows' : List Int} (h : ∀ x y, rbit rows x y = true → rbit rows' x y = true) : ∀ {k a b : Nat}, Wk rows k a b → Wk rows' k a b
  | 0, _, _, e => e
  | _ + 1, _, _, ⟨c, h1, h2⟩ => ⟨c, Wk.mono h h1, h _ _ h2⟩

/-- An edge that may be put in leaves the graph without short cycles. -/
theorem fits_put {k c : Int} {v w : Nat} (hv : v < n) (hw : w < n) (hne : v ≠ w) (hm : mayB r k c v w = true) (hf : FitsP r n k c) : FitsP (put2 r v w) n k c := by
  obtain ⟨m1, m2, m3, m4⟩ := mayB_iff.mp hm
  have gq := g.put2 hv hw hne
  obtain ⟨d1, d2⟩ := deg_put1 g hv hw hne m1
  refine ⟨fun u hu => ?_, fun a b hab => ?_⟩
  · by_cases h1 : u = v
    · subst h1; omega
    · by_cases h2 : u = w
      · subst h2; omega
      · rw [deg_put g hv hw h1 h2 hu]; exact hf.1 u hu
  · obtain ⟨c1, c2, c3⟩ := cut_put g hv hw hne m1
    have key : arF (put2 r v w) v w ≤ 0 ∨ c ≤ arF (put2 r v w) v w := by
      unfold arF
      rw [c1]; omega
    rcases (put_iff g hv hw a b).mp hab with h | ⟨rfl, rfl⟩ | ⟨rfl, rfl⟩
    · obtain ⟨ha, hb⟩ := rbit_lt g.rok h
      have hRq := (cut_rok gq ha hb hab).1
      have hR := (cut_rok g ha hb h).1
      unfold arF
      rcases far_dist hRq ha b with ⟨e, _⟩ | ⟨d, e, hd⟩
      · omega
      · right
        rw [e]
        have sub : ∀ x y, rbit (cut2 r a b) x y = true → rbit r x y = true := fun x y h2 => ((cut_iff g h x y).mp h2).1
        have fin : ∀ k', Wk r k' v w → c ≤ k' + 1 := by
          intro k' hw2
          obtain ⟨d', h1, h2⟩ := Wk.dst k' hw2
          have := far_of g.rok hv h2
          omega
        rcases walk_put g hv hw h gq d b hd.1 with ⟨e2, i1, i2⟩ | ⟨i, j, i1, ⟨i2, i3⟩ | ⟨i2, i3⟩⟩
        · obtain ⟨d', h1, h2⟩ := Wk.dst e2 i2
          have h3 := far_of hR ha h2
          have h4 := hf.2 a b h
          unfold arF at h4
          omega
        · have s2 := Wk.symm (fun _ _ => g.sym') _ _ _ (i2.mono sub)
          have s3 : Wk r 1 a b := ⟨a, rfl, h⟩
          have s4 := (s2.comp 1 b s3).comp j w (Wk.symm (fun _ _ => g.sym') _ _ _ (i3.mono sub))
          have := fin _ s4
          omega
        · have s2 := i3.mono sub
          have s3 : Wk r 1 b a := ⟨b, rfl, g.sym' h⟩
          have s4 := (s2.comp 1 a s3).comp i w (i2.mono sub)
          have := fin _ s4
          omega
    · exact key
    · rw [arF_symm gq hab]; exact key
end

/-- What the search finds. -/
theorem srch_ok (n : Nat) (k c : Int) (r : List Int) (v w : Nat) (g : GV n r) (hv : v < n) (hvw : v < w) (hw : w ≤ n) (hf : FitsP r n k c) (hd : ∀ u, u < v → (deg r u : Int) = k) :
    ∀ r', srch n k c r v w = some r' → GV n r' ∧ FitsP r' n k c ∧ ∀ u, u < n → (deg r' u : Int) = k := by
  intro r' h
  by_cases c0 : w = n
  · rw [c0, srch_end] at h
    by_cases c1 : (deg r v : Int) = k
    · rw [if_neg (fun e => e c1)] at h
      by_cases c2 : v + 1 < n
      · rw [if_pos c2] at h
        have hlt : ms n (v + 1) (v + 2) < ms n v w := by rw [c0]; exact ms_next c2
        refine srch_ok n k c r (v + 1) (v + 2) g c2 (by omega) (by omega) hf (fun u hu => ?_) r' h
        by_cases e : u = v
        · rw [e]; exact c1
        · exact hd u (by omega)
      · rw [if_neg c2] at h
        cases h
        refine ⟨g, hf, fun u hu => ?_⟩
        by_cases e : u = v
        · rw [e]; exact c1
        · exact hd u (by omega)
    · rw [if_pos c1] at h; cases h
  · have hwn : w < n := by omega
    have hlt := ms_step (v := v) hwn
    by_cases c1 : (deg r v : Int) + n - w < k
    · rw [srch_few hwn c1] at h; cases h
    · by_cases c2 : mayB r k c v w = true
      · rw [srch_may hwn c1 c2] at h
        have gq := g.put2 hv hwn (by omega)
        have hq := srch_ok n k c (put2 r v w) v (w + 1) gq hv (by omega) hwn (fits_put g hv hwn (by omega) c2 hf) (fun u hu => by
          rw [deg_put g hv hwn (by omega) (by omega) (by omega)]; exact hd u hu)
        cases ho : srch n k c (put2 r v w) v (w + 1) with
        | some q => rw [ho] at h; cases h; exact hq _ ho
        | none =>
          rw [ho] at h
          exact srch_ok n k c r v (w + 1) g hv (by omega) hwn hf hd r' h
      · rw [srch_not hwn c1 c2] at h
        exact srch_ok n k c r v (w + 1) g hv (by omega) hwn hf hd r' h
 termination_by ms n v w
 decreasing_by all_goals omega
end Go.Proofs.YthpgiimaadohcaaDoor.Zv

/- The program's search. -/
namespace Go.Proofs.YthpgiimaadohcaaDoor.Zv
open Go
variable {nro : Nat}

/-- The search itself, as a value. -/
def fvS (i1 i2 i3 i4 i5 : Nat) : Value := .func (.func k_impl_firstRegular_1) #[] #[.pointer (some ⟨i1, 0, some 1⟩), .pointer (some ⟨i2, 0, some 2⟩), .pointer (some ⟨i3, 0, some 1⟩), .pointer (some ⟨i4, 0, some 1⟩), .pointer (some ⟨i5, 0, some 1⟩)]
/-- What the search reads. -/
structure FH (h : VH) (n b : Nat) (k c : Int) (i1 i2 i3 i4 i5 : Nat) : Prop where
  f1 : h[i1]? = some ⟨0, [.int .i64 n]⟩
  f2 : h[i2]? = some ⟨0, [.int .i64 n, .slice (some ⟨b, 0, none⟩) n n]⟩
  f3 : h[i3]? = some ⟨0, [.int .i64 k]⟩
  f4 : h[i4]? = some ⟨0, [fvS i1 i2 i3 i4 i5]⟩
  f5 : h[i5]? = some ⟨0, [.int .i64 c]⟩
theorem get_set_ne {h : VH} {i b : Nat} {o o' p : VO} (hi : h[i]? = some o) (hb : h[b]? = some o') (hne : o.sz ≠ o'.sz) : (h.set b p)[i]? = some o := by
  have : b ≠ i := by
    rintro rfl
    rw [hi] at hb
    cases hb
    exact hne rfl
  rw [List.getElem?_set, if_neg this]
  exact hi
theorem FH.set {h : VH} {n b : Nat} {k c : Int} {i1 i2 i3 i4 i5 : Nat} (f : FH h n b k c i1 i2 i3 i4 i5) {r : List Int} (hb : h[b]? = some ⟨1, ints r⟩) (o : VO) : FH (h.set b o) n b k c i1 i2 i3 i4 i5 :=
  ⟨get_set_ne f.f1 hb (by simp), get_set_ne f.f2 hb (by simp), get_set_ne f.f3 hb (by simp), get_set_ne f.f4 hb (by simp), get_set_ne f.f5 hb (by simp)⟩

set_option maxHeartbeats 4000000 in
theorem c_impl_firstRegular_1 (n : Nat) (k c : Int) (b i1 i2 i3 i4 i5 : Nat) (hn10 : n ≤ 10) (hnb : nro ≤ b) (r : List Int) (v w : Nat) (h : VH) (fh : FH h n b k c i1 i2 i3 i4 i5) (g : GV n r) (hv : v < n) (hvw : v < w) (hw : w ≤ n) (hb : h[b]? = some ⟨1, ints r⟩) :
    vcall F nro k_impl_firstRegular_1 [.int .i64 v, .int .i64 w, .pointer (some ⟨i1, 0, some 1⟩), .pointer (some ⟨i2, 0, some 2⟩), .pointer (some ⟨i3, 0, some 1⟩), .pointer (some ⟨i4, 0, some 1⟩), .pointer (some ⟨i5, 0, some 1⟩)] h = some (.bool (srch n k c r v w).isSome, h.set b ⟨1, ints (lefto r (srch n k c r v w))⟩) := by
  have R := g.rok
  have hrl := R.len
  have hbl := (List.getElem?_eq_some_iff.mp hb).1
  have hn' : ∀ k, nro ≤ h.length + k := fun k => by omega
  have hS : Sli h (.slice (some ⟨b, 0, none⟩) n n) r := by
    have := sli_at (h := h) (b := b) (xs := r) hb
    rwa [hrl] at this
  have dle : ∀ u, u < n → deg r u ≤ 62 := fun u hu => by
    obtain ⟨r1, r2⟩ := R.row u hu
    exact pc_le _ 62 (le62 R.le r2)
  have hd : ∀ u, u < n → vcall F nro k_impl_Graph_degree [gv n (.slice (some ⟨b, 0, none⟩) n n), .int .i64 u] h = some (.int .i64 (deg r u), h) := fun u hu => c_impl_degree n u _ r _ hS R hu
  obtain ⟨f1, f2, f3, f4, f5⟩ := fh
  have fh : FH h n b k c i1 i2 i3 i4 i5 := ⟨f1, f2, f3, f4, f5⟩
  have fhs := fun q : List Int => fh.set hb ⟨1, ints q⟩
  have hself : h.set b ⟨1, ints r⟩ = h := hset_self hb
  have hgb : ∀ q : List Int, (h.set b ⟨1, ints q⟩)[b]? = some ⟨1, ints q⟩ := fun q => hget_set0 hb _
  have hsb : ∀ q q' : List Int, (h.set b ⟨1, ints q⟩).set b ⟨1, ints q'⟩ = h.set b ⟨1, ints q'⟩ := fun q q' => by rw [List.set_set]
  refine v_impl_firstRegular_1 (by simp [i_impl_firstRegular_1]) ?_
  rw [fbody_eq]
  have dv := hd v hv
  have dvl := dle v hv
  by_cases c0 : w = n
  · have hrec : v + 1 < n → _ := fun c2 => by
      have hlt : ms n (v + 1) (v + 2) < ms n v w := by rw [c0]; exact ms_next c2
      exact c_impl_firstRegular_1 n k c b i1 i2 i3 i4 i5 hn10 hnb r (v + 1) (v + 2) h fh g c2 (by omega) (by omega) hb
    subst c0
    rw [srch_end]
    obtain ⟨d, hdd⟩ : ∃ d, d = deg r v := ⟨_, rfl⟩
    rw [← hdd] at dv dvl ⊢
    by_cases c1 : (d : Int) = k
    · rw [if_neg (fun h => h c1)]
      by_cases c2 : v + 1 < w
      · rw [if_pos c2]
        have c2n : ¬ (v : Int) + 1 = w := by omega
        have rc := hrec c2
        rw [show ((v + 1 : Nat) : Int) = (v : Int) + 1 by omega, show ((v + 2 : Nat) : Int) = (v : Int) + 1 + 1 by omega] at rc
        obtain ⟨s, hs⟩ : ∃ s, s = srch w k c r (v + 1) (v + 2) := ⟨_, rfl⟩
        rw [← hs] at rc ⊢
        unfold fvS at f4
        clear hs hd dle hdd fh fhs
        simp (disch := first | assumption | omega | (simp [*] <;> omega) | fail) [i_impl_firstRegular_1, f1, f2, f3, f4, f5, dv, c1, c2n, rc, hn', wrap64]
      · rw [if_neg c2]
        have c3 : (v : Int) + 1 = w := by omega
        clear hd dle hdd fh fhs
        simp (disch := first | assumption | omega | (simp [*] <;> omega) | fail) [i_impl_firstRegular_1, f1, f2, f3, f4, f5, dv, c1, c3, hself, hn', wrap64]
    · rw [if_pos c1]
      clear hd dle hdd fh fhs
      simp (disch := first | assumption | omega | (simp [*] <;> omega) | fail) [i_impl_firstRegular_1, f1, f2, f3, f4, f5, dv, c1, hself, hn']
  · have c0' : ¬ (w : Int) = n := by omega
    have hwn : w < n := by omega
    have hlt := ms_step (v := v) hwn
    by_cases c1 : (deg r v : Int) + n - w < k
    · rw [srch_few hwn c1]
      obtain ⟨d, hdd⟩ : ∃ d, d = deg r v := ⟨_, rfl⟩
      rw [← hdd] at dv dvl c1
      have q1 : IntKind.i64.wrap ((d : Int) + n) = d + n := wrap64 (by omega) (by omega)
      have q2 : IntKind.i64.wrap ((d : Int) + n - w) = d + n - w := wrap64 (by omega) (by omega)
      clear hd dle hdd fh fhs
      simp (disch := first | assumption | omega | (simp [*] <;> omega) | fail) [i_impl_firstRegular_1, f1, f2, f3, f4, f5, dv, c0, c0', q1, q2, c1, hself, hn']
    · have hm := c_impl_Graph_mayJoin (nro := nro) n v w k c (.slice (some ⟨b, 0, none⟩) n n) r h hS R hv hwn (by omega)
      have r2 := c_impl_firstRegular_1 n k c b i1 i2 i3 i4 i5 hn10 hnb r v (w + 1) h fh g hv (by omega) hwn hb
      rw [show ((w + 1 : Nat) : Int) = (w : Int) + 1 by omega] at r2
      have q5 : IntKind.i64.wrap ((w : Int) + 1) = (w : Int) + 1 := wrap64 (by omega) (by omega)
      by_cases c2 : mayB r k c v w = true
      · rw [c2] at hm
        have hp := c_impl_Graph_put (nro := nro) n b n v w r h hb hrl hnb (by omega) (by omega) (by omega) (by omega) (by omega)
        rw [if_neg (by omega)] at hp
        have gq := g.put2 hv hwn (by omega)
        obtain ⟨cp1, cp2, cp3⟩ := cut_put g hv hwn (by omega) (mayB_not c2)
        have hql := gq.rok.len
        have r1 := c_impl_firstRegular_1 n k c b i1 i2 i3 i4 i5 hn10 hnb (put2 r v w) v (w + 1) (h.set b ⟨1, ints (put2 r v w)⟩) (fhs _) gq hv (by omega) hwn (hgb _)
        rw [show ((w + 1 : Nat) : Int) = (w : Int) + 1 by omega, hsb] at r1
        obtain ⟨s1, s2⟩ := gq.rok.row v hv
        obtain ⟨t1, t2⟩ := gq.rok.row w hwn
        have s3 := le62 gq.rok.le s2
        have t3 := le62 gq.rok.le t2
        have ht := c_impl_Graph_take (nro := nro) n b n v w (put2 r v w) (h.set b ⟨1, ints (put2 r v w)⟩) (hgb _) hql hnb (by omega) (by omega) (by omega) (by omega) (by omega) (by omega)
          (by rw [Int.toNat_natCast]; exact s1) (by rw [Int.toNat_natCast]; omega) (by rw [Int.toNat_natCast, Int.toNat_natCast]; exact cp2) (by rw [Int.toNat_natCast]; exact t1) (by rw [Int.toNat_natCast]; omega) (by rw [Int.toNat_natCast, Int.toNat_natCast]; exact cp3)
        rw [cp1, hsb, hself] at ht
        have hs := srch_may hwn c1 c2
        have fq := fhs (put2 r v w)
        cases ho1 : srch n k c (put2 r v w) v (w + 1) with
        | some r' =>
          rw [ho1] at r1 hs
          dsimp only at hs
          rw [hs]
          obtain ⟨d, hdd⟩ : ∃ d, d = deg r v := ⟨_, rfl⟩
          rw [← hdd] at dv dvl c1
          have q1 : IntKind.i64.wrap ((d : Int) + n) = d + n := wrap64 (by omega) (by omega)
          have q2 : IntKind.i64.wrap ((d : Int) + n - w) = d + n - w := wrap64 (by omega) (by omega)
          obtain ⟨q, hq⟩ : ∃ q, q = put2 r (v : Int) (w : Int) := ⟨_, rfl⟩
          rw [← hq] at hp r1 fq
          obtain ⟨e1, e2, e3, e4, e5⟩ := fq
          unfold fvS at e4
          clear hd dle hdd fh fhs hs ho1 ht r2 gq cp1 cp2 cp3 hql s1 s2 s3 t1 t2 t3 hq f4
          simp (disch := first | assumption | omega | (simp [*] <;> omega) | fail) [i_impl_firstRegular_1, f1, f2, f3, f5, e1, e2, e3, e4, e5, dv, c0, c0', q1, q2, q5, c1, hm, hp, r1, hself, hn']
        | none =>
          rw [ho1] at r1 hs
          dsimp only at hs
          rw [hs]
          obtain ⟨s, hs2⟩ : ∃ s, s = srch n k c r v (w + 1) := ⟨_, rfl⟩
          rw [← hs2] at r2 ⊢
          obtain ⟨d, hdd⟩ : ∃ d, d = deg r v := ⟨_, rfl⟩
          rw [← hdd] at dv dvl c1
          have q1 : IntKind.i64.wrap ((d : Int) + n) = d + n := wrap64 (by omega) (by omega)
          have q2 : IntKind.i64.wrap ((d : Int) + n - w) = d + n - w := wrap64 (by omega) (by omega)
          obtain ⟨q, hq⟩ : ∃ q, q = put2 r (v : Int) (w : Int) := ⟨_, rfl⟩
          rw [← hq] at hp r1 fq ht
          obtain ⟨e1, e2, e3, e4, e5⟩ := fq
          unfold fvS at e4 f4
          clear hd dle hdd fh fhs hs hs2 ho1 gq cp1 cp2 cp3 hql s1 s2 s3 t1 t2 t3 hq
          simp (disch := first | assumption | omega | (simp [*] <;> omega) | fail) [i_impl_firstRegular_1, f1, f2, f3, f4, f5, e1, e2, e3, e4, e5, dv, c0, c0', q1, q2, q5, c1, hm, hp, r1, r2, ht, hself, hn']
      · have c2' : mayB r k c v w = false := by simpa using c2
        rw [c2'] at hm
        rw [srch_not hwn c1 c2]
        obtain ⟨s, hs2⟩ : ∃ s, s = srch n k c r v (w + 1) := ⟨_, rfl⟩
        rw [← hs2] at r2 ⊢
        obtain ⟨d, hdd⟩ : ∃ d, d = deg r v := ⟨_, rfl⟩
        rw [← hdd] at dv dvl c1
        have q1 : IntKind.i64.wrap ((d : Int) + n) = d + n := wrap64 (by omega) (by omega)
        have q2 : IntKind.i64.wrap ((d : Int) + n - w) = d + n - w := wrap64 (by omega) (by omega)
        unfold fvS at f4
        clear hd dle hdd fh fhs hs2
        simp (disch := first | assumption | omega | (simp [*] <;> omega) | fail) [i_impl_firstRegular_1, f1, f2, f3, f4, f5, dv, c0, c0', q1, q2, q5, c1, hm, r2, hself, hn']
 termination_by ms n v w
 decreasing_by all_goals omega
end Go.Proofs.YthpgiimaadohcaaDoor.Zv

/- The first cage graph: the program's and the reference's answers. -/
namespace Go.Proofs.YthpgiimaadohcaaDoor.Zv
open Go
variable {nro : Nat}

theorem GV.zero {n : Nat} (h1 : 1 ≤ n) (h2 : n ≤ 62) : GV n (List.replicate n 0) := by
  have hr : ∀ v w, rbit (List.replicate n 0) v w = false := fun v w => by
    unfold rbit
    rw [List.getD_eq_getElem?_getD, List.getElem?_replicate]
    split <;> simp
  refine ⟨by omega, by omega, by simp, fun v hv => ⟨?_, ?_, hr v v⟩, fun v w _ _ => by rw [hr, hr]⟩
  · rw [List.getD_eq_getElem?_getD, List.getElem?_replicate]; split <;> simp
  · rw [List.getD_eq_getElem?_getD, List.getElem?_replicate]
    have : (0 : Int) < 2 ^ n := Int.pow_pos (by omega)
    split <;> simpa using this
theorem fits_zero {n : Nat} (h1 : 1 ≤ n) (h2 : n ≤ 62) {k c : Int} (hk : 0 ≤ k) : FitsP (List.replicate n 0) n k c := by
  have hr : ∀ v w, rbit (List.replicate n 0) v w = false := fun v w => by
    unfold rbit
    rw [List.getD_eq_getElem?_getD, List.getElem?_replicate]
    split <;> simp
  refine ⟨fun v hv => ?_, fun u w h => ?_⟩
  · unfold deg
    rw [List.getD_eq_getElem?_getD, List.getElem?_replicate, if_pos hv]
    simp [pc_zero]; exact hk
  · rw [hr] at h; cases h

/-- Why there is none: the reference's reasons, the program's. -/
def prS (n : Nat) (k c : Int) : Prop := (n * k) % 2 ≠ 0 ∨ n ≤ k ∨ (1 < k ∧ n < c)
def prI (n : Nat) (k c : Int) : Prop := (n * k) % 2 ≠ 0 ∨ n ≤ k ∨ (2 ≤ k ∧ n < gB k c.toNat)
instance (n : Nat) (k c : Int) : Decidable (prS n k c) := by unfold prS; infer_instance
instance (n : Nat) (k c : Int) : Decidable (prI n k c) := by unfold prI; infer_instance

theorem gB_ge {k c : Int} (hk : kcB k c = true) (h2 : 2 ≤ k) : c ≤ gB k c.toNat := by
  have : (1 ≤ k ∧ k ≤ 6) ∧ 3 ≤ c ∧ c ≤ 12 := by simpa [kcB] using hk
  obtain ⟨⟨_, a⟩, b, d⟩ := this
  have e1 : k = 2 ∨ k = 3 ∨ k = 4 ∨ k = 5 ∨ k = 6 := by omega
  have e2 : c = 3 ∨ c = 4 ∨ c = 5 ∨ c = 6 ∨ c = 7 ∨ c = 8 ∨ c = 9 ∨ c = 10 ∨ c = 11 ∨ c = 12 := by omega
  rcases e1 with rfl | rfl | rfl | rfl | rfl <;> rcases e2 with rfl | rfl | rfl | rfl | rfl | rfl | rfl | rfl | rfl | rfl <;> decide

theorem prune_none {n : Nat} {k c : Int} (hk : kcB k c = true) (hn : 1 ≤ n) (hn2 : n ≤ 10) (hp : 2 ≤ k ∧ n < gB k c.toNat) : srch n k c (List.replicate n 0) 0 1 = none := by
  have hkc : (1 ≤ k ∧ k ≤ 6) ∧ 3 ≤ c ∧ c ≤ 12 := by simpa [kcB] using hk
  cases h : srch n k c (List.replicate n 0) 0 1 with
  | none => rfl
  | some r =>
    obtain ⟨g, hf, hd⟩ := srch_ok n k c _ 0 1 (GV.zero hn (by omega)) (by omega) (by omega) (by omega) (fits_zero hn (by omega) (by omega)) (fun u hu => by omega) r h
    have := moore g (noSh g hf.2) hd (by omega) (by omega)
    omega

/-- The first cage graph. -/
noncomputable def fR (n : Nat) (k c : Int) : Option (List Int) := if prS n k c then none else srch n k c (List.replicate n 0) 0 1
theorem fR_impl {n : Nat} {k c : Int} (hk : kcB k c = true) (hn : 1 ≤ n) (hn2 : n ≤ 10) : fR n k c = if prI n k c then none else srch n k c (List.replicate n 0) 0 1 := by
  unfold fR
  by_cases h1 : prS n k c
  · rw [if_pos h1, if_pos]
    rcases h1 with h | h | ⟨h2, h3⟩
    · exact .inl h
    · exact .inr (.inl h)
    · exact .inr (.inr ⟨by omega, by have := gB_ge hk (by omega); omega⟩)
  · rw [if_neg h1]
    by_cases h2 : prI n k c
    · rw [if_pos h2]
      rcases h2 with h | h | h
      · exact absurd (.inl h) h1
      · exact absurd (.inr (.inl h)) h1
      · exact prune_none hk hn hn2 h
    · rw [if_neg h2]
theorem c_spec_l07First (n : Nat) (k c : Int) (h : VH) (hk : kcB k c = true) (h1 : 1 ≤ n) (h2 : n ≤ 10) (hn : nro ≤ h.length) :
    vcall F nro k_spec_l07First [.int .i64 n, .int .i64 k, .int .i64 c] h = some (.tuple #[gv n (.slice (some ⟨h.length, 0, none⟩) n n), .bool (fR n k c).isSome], h ++ [⟨1, ints (lefto (List.replicate n 0) (fR n k c))⟩]) := by
  have hkc : (1 ≤ k ∧ k ≤ 6) ∧ 3 ≤ c ∧ c ≤ 12 := by simpa [kcB] using hk
  have hn' := fun k => Nat.le_trans hn (Nat.le_add_right h.length k)
  refine v_spec_l07First (by simp [i_spec_l07First]) ?_
  rw [fbody_eq]
  have he := c_spec_l01Empty (nro := nro) n (h ++ [⟨0, [.int .i64 0, .slice none 0 0]⟩]) (by omega) (by omega) (by simp; omega)
  rw [Int.toNat_natCast] at he
  simp only [List.length_append, List.length_singleton, List.append_assoc, List.cons_append, List.nil_append] at he
  have b1 : 0 ≤ (n : Int) * k := Int.mul_nonneg (by omega) (by omega)
  have b2 : (n : Int) * k ≤ 10 * 6 := Int.mul_le_mul (by omega) (by omega) (by omega) (by omega)
  have w1 : IntKind.i64.wrap ((n : Int) * k) = n * k := wrap64 (by omega) (by omega)
  have t1 : ((n : Int) * k).tmod 2 = (n * k) % 2 := Int.tmod_eq_emod_of_nonneg b1
  have w2 : IntKind.i64.wrap ((n : Int) * k % 2) = (n : Int) * k % 2 := wrap64 (by omega) (by omega)
  unfold fR
  by_cases hp : prS n k c
  · rw [if_pos hp]
    rcases hp with hp | hp | hp
    · obtain ⟨m, hm⟩ : ∃ m, m = (n : Int) * k := ⟨_, rfl⟩
      rw [← hm] at *
      clear hm
      simp (disch := first | assumption | omega | (simp [*] <;> omega) | fail) [i_spec_l07First, he, w1, w2, t1, hp, fresults, fresL, fres1, hn', hn]
    · by_cases hq : (n : Int) * k % 2 = 0
      · obtain ⟨m, hm⟩ : ∃ m, m = (n : Int) * k := ⟨_, rfl⟩
        rw [← hm] at *
        clear hm
        simp (disch := first | assumption | omega | (simp [*] <;> omega) | fail) [i_spec_l07First, he, w1, w2, t1, hp, hq, fresults, fresL, fres1, hn', hn]
      · obtain ⟨m, hm⟩ : ∃ m, m = (n : Int) * k := ⟨_, rfl⟩
        rw [← hm] at *
        clear hm
        simp (disch := first | assumption | omega | (simp [*] <;> omega) | fail) [i_spec_l07First, he, w1, w2, t1, hp, hq, fresults, fresL, fres1, hn', hn]
    · by_cases hq : (n : Int) * k % 2 = 0
      · by_cases hr : (n : Int) ≤ k
        · obtain ⟨m, hm⟩ : ∃ m, m = (n : Int) * k := ⟨_, rfl⟩
          rw [← hm] at *
          clear hm
          simp (disch := first | assumption | omega | (simp [*] <;> omega) | fail) [i_spec_l07First, he, w1, w2, t1, hr, hq, fresults, fresL, fres1, hn', hn]
        · obtain ⟨m, hm⟩ : ∃ m, m = (n : Int) * k := ⟨_, rfl⟩
          rw [← hm] at *
          clear hm
          simp (disch := first | assumption | omega | (simp [*] <;> omega) | fail) [i_spec_l07First, he, w1, w2, t1, hp, hr, hq, fresults, fresL, fres1, hn', hn]
      · obtain ⟨m, hm⟩ : ∃ m, m = (n : Int) * k := ⟨_, rfl⟩
        rw [← hm] at *
        clear hm
        simp (disch := first | assumption | omega | (simp [*] <;> omega) | fail) [i_spec_l07First, he, w1, w2, t1, hq, fresults, fresL, fres1, hn', hn]
  · rw [if_neg hp]
    have hq : (n : Int) * k % 2 = 0 := Classical.byContradiction fun e => hp (.inl e)
    have hr : ¬ (n : Int) ≤ k := fun e => hp (.inr (.inl e))
    have hs : 1 < k → ¬ (n : Int) < c := fun e1 e2 => hp (.inr (.inr ⟨e1, e2⟩))
    have hsr := c_spec_l07Search (nro := nro) n k c (h.length + 1) h2 (by omega) (List.replicate n 0) 0 1 (h ++ [⟨0, [.int .i64 0, .slice none 0 0]⟩, ⟨1, ints (List.replicate n 0)⟩, ⟨0, [.int .i64 n, .slice (some ⟨h.length + 1, 0, none⟩) n n]⟩]) (GV.zero h1 (by omega)) (by omega) (by omega) (by omega) (by simp)
    have hln : (lefto (List.replicate n 0) (srch n k c (List.replicate n 0) 0 1)).length = n := by
      cases ho : srch n k c (List.replicate n 0) 0 1 with
      | none => simp
      | some r => exact (srch_ok n k c _ 0 1 (GV.zero h1 (by omega)) (by omega) (by omega) (by omega) (fits_zero h1 (by omega) (by omega)) (fun u hu => by omega) r ho).1.rok.len
    obtain ⟨o, ho⟩ : ∃ o, o = srch n k c (List.replicate n 0) 0 1 := ⟨_, rfl⟩
    rw [← ho] at hsr hln ⊢
    obtain ⟨m, hm⟩ : ∃ m, m = (n : Int) * k := ⟨_, rfl⟩
    rw [← hm] at *
    obtain ⟨q, hq2⟩ : ∃ q, q = lefto (List.replicate n 0) o := ⟨_, rfl⟩
    rw [← hq2] at hsr hln ⊢
    clear hm ho hp hq2
    simp [-List.reduceReplicate] at hsr
    by_cases hk1 : 1 < k
    · have hs' := hs hk1
      simp (disch := first | assumption | omega | (simp [*] <;> omega) | fail) [i_spec_l07First, he, w1, w2, t1, hq, hr, hk1, hs', hsr, hln, fresults, fresL, fres1, hn', hn]
    · clear hs
      simp (disch := first | assumption | omega | (simp [*] <;> omega) | fail) [i_spec_l07First, he, w1, w2, t1, hq, hr, hk1, hsr, hln, fresults, fresL, fres1, hn', hn]
end Go.Proofs.YthpgiimaadohcaaDoor.Zv

/- The first cage graph: the program. -/
namespace Go.Proofs.YthpgiimaadohcaaDoor.Zv
open Go
variable {nro : Nat}

attribute [simp] isAtom
@[simp] theorem vcells_func (f : Fn) (a b : Array Value) : vcells (.func f a b) = [.func f a b] := rfl
@[simp] theorem vcells_nilFunc : vcells .nilFunc = [.nilFunc] := rfl

set_option maxHeartbeats 4000000 in
theorem c_impl_firstRegular (n : Nat) (k c : Int) (h : VH) (hk : kcB k c = true) (h1 : 1 ≤ n) (h2 : n ≤ 10) (hn : nro ≤ h.length) :
    vcall F nro k_impl_firstRegular [.int .i64 n, .int .i64 k, .int .i64 c] h = some (if prI n k c then (.tuple #[gv 0 (.slice none 0 0), .bool false], h) else (.tuple #[gv n (.slice (some ⟨h.length, 0, none⟩) n n), .bool (fR n k c).isSome], h ++ [⟨1, ints (lefto (List.replicate n 0) (fR n k c))⟩])) := by
  have hkc : (1 ≤ k ∧ k ≤ 6) ∧ 3 ≤ c ∧ c ≤ 12 := by simpa [kcB] using hk
  have hn' := fun k => Nat.le_trans hn (Nat.le_add_right h.length k)
  refine v_impl_firstRegular (by simp [i_impl_firstRegular]) ?_
  rw [fbody_eq]
  have b1 : 0 ≤ (n : Int) * k := Int.mul_nonneg (by omega) (by omega)
  have b2 : (n : Int) * k ≤ 10 * 6 := Int.mul_le_mul (by omega) (by omega) (by omega) (by omega)
  obtain ⟨m, hm⟩ : ∃ m, m = (n : Int) * k := ⟨_, rfl⟩
  have w1 : IntKind.i64.wrap ((n : Int) * k) = m := by rw [wrap64 (by omega) (by omega), hm]
  have t1 : m.tmod 2 = m % 2 := Int.tmod_eq_emod_of_nonneg (by omega)
  have w2 : IntKind.i64.wrap (m % 2) = m % 2 := wrap64 (by omega) (by omega)
  have hB := fun L => c_impl_girthBound (nro := nro) k c.toNat (h ++ L) (by omega) (by omega) (by omega) (by omega)
  rw [show ((c.toNat : Nat) : Int) = c by omega] at hB
  rw [fR_impl hk h1 h2]
  by_cases hp : prI n k c
  · rw [if_pos hp]
    unfold prI at hp
    obtain ⟨G, hG⟩ : ∃ G, G = gB k c.toNat := ⟨_, rfl⟩
    rw [← hG] at hB hp
    rw [← hm] at hp
    clear hm hG b1 b2
    by_cases hq : m % 2 = 0
    · by_cases hr : (n : Int) ≤ k
      · clear hp
        simp (disch := first | assumption | omega | (simp [*] <;> omega) | fail) [i_impl_firstRegular, w1, w2, t1, hr, hq, hB, fresults, fresL, fres1, hn', hn]
      · obtain ⟨hp1, hp2⟩ : 2 ≤ k ∧ n < G := by
          rcases hp with h | h | h
          · exact absurd hq h
          · exact absurd h hr
          · exact h
        simp (disch := first | assumption | omega | (simp [*] <;> omega) | fail) [i_impl_firstRegular, w1, w2, t1, hp1, hp2, hr, hq, hB, fresults, fresL, fres1, hn', hn]
    · clear hp
      simp (disch := first | assumption | omega | (simp [*] <;> omega) | fail) [i_impl_firstRegular, w1, w2, t1, hq, fresults, fresL, fres1, hn', hn]
  · rw [if_neg hp, if_neg hp]
    have hq : (n : Int) * k % 2 = 0 := Classical.byContradiction fun e => hp (.inl e)
    have hr : ¬ (n : Int) ≤ k := fun e => hp (.inr (.inl e))
    have hs : 2 ≤ k → ¬ (n : Int) < gB k c.toNat := fun e1 e2 => hp (.inr (.inr ⟨e1, e2⟩))
    obtain ⟨G, hG⟩ : ∃ G, G = gB k c.toNat := ⟨_, rfl⟩
    rw [← hG] at hB hs
    have he := c_impl_empty (nro := nro) n (h ++ [⟨0, [.int .i64 n]⟩, ⟨0, [.int .i64 k]⟩, ⟨0, [.int .i64 c]⟩, ⟨0, [.int .i64 0, .slice none 0 0]⟩]) (by omega) (by omega) (by simp; omega)
    rw [Int.toNat_natCast] at he
    have hsr := c_impl_firstRegular_1 (nro := nro) n k c (h.length + 4) h.length (h.length + 5) (h.length + 1) (h.length + 6) (h.length + 2) h2 (by omega) (List.replicate n 0) 0 1 (h ++ [⟨0, [.int .i64 n]⟩, ⟨0, [.int .i64 k]⟩, ⟨0, [.int .i64 c]⟩, ⟨0, [.int .i64 0, .slice none 0 0]⟩, ⟨1, ints (List.replicate n 0)⟩, ⟨0, [.int .i64 n, .slice (some ⟨h.length + 4, 0, none⟩) n n]⟩, ⟨0, [fvS h.length (h.length + 5) (h.length + 1) (h.length + 6) (h.length + 2)]⟩])
      ⟨by simp, by simp, by simp, by simp, by simp⟩ (GV.zero h1 (by omega)) (by omega) (by omega) (by omega) (by simp)
    have hln : (lefto (List.replicate n 0) (srch n k c (List.replicate n 0) 0 1)).length = n := by
      cases ho : srch n k c (List.replicate n 0) 0 1 with
      | none => simp
      | some r => exact (srch_ok n k c _ 0 1 (GV.zero h1 (by omega)) (by omega) (by omega) (by omega) (fits_zero h1 (by omega) (by omega)) (fun u hu => by omega) r ho).1.rok.len
    obtain ⟨o, ho⟩ : ∃ o, o = srch n k c (List.replicate n 0) 0 1 := ⟨_, rfl⟩
    rw [← ho] at hsr hln ⊢
    rw [← hm] at hq
    clear b1 b2
    obtain ⟨q, hq2⟩ : ∃ q, q = lefto (List.replicate n 0) o := ⟨_, rfl⟩
    rw [← hq2] at hsr hln ⊢
    clear hm ho hp hq2 hG
    unfold fvS at hsr
    simp [-List.reduceReplicate] at hsr he
    by_cases hk1 : 2 ≤ k
    · have hs' := hs hk1
      simp (disch := first | assumption | omega | (simp [*] <;> omega) | fail) [i_impl_firstRegular, he, w1, w2, t1, hq, hr, hk1, hs', hB, hsr, hln, fresults, fresL, fres1, hn', hn]
    · clear hs
      simp (disch := first | assumption | omega | (simp [*] <;> omega) | fail) [i_impl_firstRegular, he, w1, w2, t1, hq, hr, hk1, hB, hsr, hln, fresults, fresL, fres1, hn', hn]
end Go.Proofs.YthpgiimaadohcaaDoor.Zv

/- The laws of FirstRegular and LeastVertices. -/
namespace Go.Proofs.YthpgiimaadohcaaDoor.Zv
open Go
variable {nro : Nat}

/-! ### LeastVertices -/
noncomputable def leastF (k c : Int) (i : Nat) (_ : Unit) : Unit ⊕ (Nat × List Int) := match fR i k c with
  | some r => .inr (i, r)
  | none => .inl ()
noncomputable def leastR (k c : Int) : Unit ⊕ (Nat × List Int) := upE (leastF k c) 11 1 ()
def leastV : Unit ⊕ (Nat × List Int) → Int × Int
  | .inl _ => (0, 4)
  | .inr p => (p.1, 0)
noncomputable def leastAns (k c : Int) : Int × Int := if kcB k c = true then leastV (leastR k c) else (0, 2)
def leastX (h : VH) : Unit ⊕ (Nat × List Int) → Option (VX × FE × VH)
  | .inl _ => some (.exit 0, fl [], h)
  | .inr p => some (.ret, fl [(4, .int .i64 p.1), (5, .int .i64 0)], h ++ [⟨1, ints p.2⟩, ⟨0, [.int .i64 p.1, .slice (some ⟨h.length, 0, none⟩) p.1 p.1]⟩])
@[simp] theorem leastV_inl (x : Unit) : leastV (.inl x) = (0, 4) := rfl
@[simp] theorem leastV_inr (i : Nat) (r : List Int) : leastV (.inr (i, r)) = ((i : Int), 0) := rfl
@[simp] theorem leastX_inl (h : VH) (x : Unit) : leastX h (.inl x) = some (.exit 0, fl [], h) := rfl
@[simp] theorem leastX_inr (h : VH) (i : Nat) (r : List Int) : leastX h (.inr (i, r)) = some (.ret, fl [(4, .int .i64 i), (5, .int .i64 0)], h ++ [⟨1, ints r⟩, ⟨0, [.int .i64 i, .slice (some ⟨h.length, 0, none⟩) i i]⟩]) := rfl

theorem c_spec_LeastVertices (k c : Int) (h : VH) (hn : nro ≤ h.length) : vcall F nro k_spec_LeastVertices [.int .i64 k, .int .i64 c] h = some (.tuple #[.int .i64 (leastAns k c).1, .int .i64 (leastAns k c).2], h) := by
  have hn' := fun k => Nat.le_trans hn (Nat.le_add_right h.length k)
  refine v_spec_LeastVertices (by simp [i_spec_LeastVertices]) ?_
  rw [fbody_eq]
  have h2 := c_spec_l07Numbers (nro := nro) k c h
  unfold leastAns
  by_cases g2 : kcB k c = true
  · rw [if_pos g2]
    have lp : floop (vcall F nro) nro [0, 1, 6] i_spec_LeastVertices_B1 h [.int .i64 k, .int .i64 c, .int .i64 1] h = leastX h (leastR k c) := by
      refine (for_upE (call := vcall F nro) (nro := nro) (live := [0, 1, 6]) (c := i_spec_LeastVertices_B1) (h0 := h) (n := 11) (fun i (_ : Unit) => [.int .i64 k, .int .i64 c, .int .i64 i]) (fun _ _ => h) (leastF k c) (fun i _ => 1 ≤ i) (leastX h) ?_ ?_ 1 () (by omega) (by omega)).1
      · intro i _ hi _ hi1
        have hi10 : (i : Int) ≤ 10 := by omega
        have w1 : IntKind.i64.wrap ((i : Int) + 1) = (i : Int) + 1 := wrap64 (by omega) (by omega)
        have h3 := c_spec_l07First (nro := nro) i k c h g2 hi1 (by omega) hn
        unfold leastF
        cases hf : fR i k c with
        | none =>
          rw [hf] at h3
          simp [-List.reduceReplicate] at h3
          refine .inl ⟨(), by simp, by omega, ?_⟩
          rw [floop_at i_spec_LeastVertices_B1.eq_1]
          simp (disch := first | assumption | omega | (simp [*] <;> omega) | fail) [hi10, h3, w1, hn', hn]
        | some r =>
          rw [hf] at h3
          simp [-List.reduceReplicate] at h3
          refine .inr ⟨(i, r), by simp, ?_⟩
          rw [floop_at i_spec_LeastVertices_B1.eq_1]
          simp (disch := first | assumption | omega | (simp [*] <;> omega) | fail) [hi10, h3, hn', hn]
      · intro _ _
        rw [floop_at i_spec_LeastVertices_B1.eq_1]
        simp (disch := first | assumption | omega | (simp [*] <;> omega) | fail) [hn', hn]
    rw [g2] at h2
    cases hr : leastR k c with
    | inl x =>
      rw [hr] at lp
      simp (disch := first | assumption | omega | (simp [*] <;> omega) | fail) [i_spec_LeastVertices, h2, lp, fresults, fresL, fres1, hn', hn]
    | inr q =>
      obtain ⟨i, r⟩ := q
      rw [hr] at lp
      simp (disch := first | assumption | omega | (simp [*] <;> omega) | fail) [i_spec_LeastVertices, h2, lp, fresults, fresL, fres1, hn', hn]
  · rw [if_neg g2]
    have g3 : kcB k c = false := by simpa using g2
    rw [g3] at h2
    simp (disch := first | assumption | omega | (simp [*] <;> omega) | fail) [i_spec_LeastVertices, h2, fresults, fresL, fres1, hn', hn]

theorem c_impl_LeastVertices (k c : Int) (h : VH) (hn : nro ≤ h.length) : vcall F nro k_impl_LeastVertices [.int .i64 k, .int .i64 c] h = some (.tuple #[.int .i64 (leastAns k c).1, .int .i64 (leastAns k c).2], h) := by
  have hn' := fun k => Nat.le_trans hn (Nat.le_add_right h.length k)
  refine v_impl_LeastVertices (by simp [i_impl_LeastVertices]) ?_
  rw [fbody_eq]
  have h2 := c_impl_isBoth (nro := nro) k c h
  unfold leastAns
  by_cases g2 : kcB k c = true
  · rw [if_pos g2]
    have lp : floop (vcall F nro) nro [0, 1, 6] i_impl_LeastVertices_B1 h [.int .i64 k, .int .i64 c, .int .i64 1] h = leastX h (leastR k c) := by
      refine (for_upE (call := vcall F nro) (nro := nro) (live := [0, 1, 6]) (c := i_impl_LeastVertices_B1) (h0 := h) (n := 11) (fun i (_ : Unit) => [.int .i64 k, .int .i64 c, .int .i64 i]) (fun _ _ => h) (leastF k c) (fun i _ => 1 ≤ i) (leastX h) ?_ ?_ 1 () (by omega) (by omega)).1
      · intro i _ hi _ hi1
        have hi10 : (i : Int) ≤ 10 := by omega
        have w1 : IntKind.i64.wrap ((i : Int) + 1) = (i : Int) + 1 := wrap64 (by omega) (by omega)
        have h3 := c_impl_firstRegular (nro := nro) i k c h g2 hi1 (by omega) hn
        have e := fR_impl g2 (n := i) (by omega) (by omega)
        unfold leastF
        by_cases hp : prI i k c
        · rw [if_pos hp] at h3 e
          rw [e]
          refine .inl ⟨(), by simp, by omega, ?_⟩
          rw [floop_at i_impl_LeastVertices_B1.eq_1]
          simp (disch := first | assumption | omega | (simp [*] <;> omega) | fail) [hi10, h3, w1, hn', hn]
        · rw [if_neg hp] at h3
          clear e
          cases hf : fR i k c with
          | none =>
            rw [hf] at h3
            simp [-List.reduceReplicate] at h3
            refine .inl ⟨(), by simp, by omega, ?_⟩
            rw [floop_at i_impl_LeastVertices_B1.eq_1]
            simp (disch := first | assumption | omega | (simp [*] <;> omega) | fail) [hi10, h3, w1, hn', hn]
          | some r =>
            rw [hf] at h3
            simp [-List.reduceReplicate] at h3
            refine .inr ⟨(i, r), by simp, ?_⟩
            rw [floop_at i_impl_LeastVertices_B1.eq_1]
            simp (disch := first | assumption | omega | (simp [*] <;> omega) | fail) [hi10, h3, hn', hn]
      · intro _ _
        rw [floop_at i_impl_LeastVertices_B1.eq_1]
        simp (disch := first | assumption | omega | (simp [*] <;> omega) | fail) [hn', hn]
    rw [g2] at h2
    cases hr : leastR k c with
    | inl x =>
      rw [hr] at lp
      simp (disch := first | assumption | omega | (simp [*] <;> omega) | fail) [i_impl_LeastVertices, h2, lp, fresults, fresL, fres1, hn', hn]
    | inr q =>
      obtain ⟨i, r⟩ := q
      rw [hr] at lp
      simp (disch := first | assumption | omega | (simp [*] <;> omega) | fail) [i_impl_LeastVertices, h2, lp, fresults, fresL, fres1, hn', hn]
  · rw [if_neg g2]
    have g3 : kcB k c = false := by simpa using g2
    rw [g3] at h2
    simp (disch := first | assumption | omega | (simp [*] <;> omega) | fail) [i_impl_LeastVertices, h2, fresults, fresL, fres1, hn', hn]

theorem law_LeastVertices (k c : Int) (h : VH) (hk1 : -9223372036854775808 ≤ k) (hk2 : k ≤ 9223372036854775807) (hc1 : -9223372036854775808 ≤ c) (hc2 : c ≤ 9223372036854775807) (hn : nro ≤ h.length) :
    vcall F nro k_laws_FnExactLeastVertices [.int .i64 k, .int .i64 c] h = some (.bool true, h) := by
  refine v_laws_FnExactLeastVertices (by simp [i_laws_FnExactLeastVertices]) ?_
  rw [fbody_eq]
  have hc1 := c_spec_LeastVertices (nro := nro) k c h hn
  have hc2 := c_impl_LeastVertices (nro := nro) k c h hn
  obtain ⟨⟨a, b⟩, hp⟩ : ∃ q, q = leastAns k c := ⟨_, rfl⟩
  rw [← hp] at hc1 hc2
  simp (disch := first | assumption | omega | (simp [*] <;> omega) | fail) [i_laws_FnExactLeastVertices, hc1, hc2, fresults, fresL, fres1, hn]
end Go.Proofs.YthpgiimaadohcaaDoor.Zv

