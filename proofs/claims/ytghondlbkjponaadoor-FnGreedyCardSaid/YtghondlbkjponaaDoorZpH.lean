/- Part H of the proof: ZwLawEdge, ZwLawGreedyA, ZwLawGreedyB, ZwLawGreedyC, ZwLawGreedyD. Conditions: none. -/
import Derived.Test.YtghondlbkjponaaDoorZpE
import Derived.Test.YtghondlbkjponaaDoorZpG
set_option linter.unusedSimpArgs false
set_option linter.unusedVariables false
/- The laws of PutEdge and TakeEdge. -/
namespace Go.Proofs.YtghondlbkjponaaDoor.Zv
open Go
variable {nro : Nat}

open Classical in
noncomputable def putAns (n : Int) (rows : List Int) (a b : Int) : GAns := if pairC n rows a b ≠ 0 then .inr (pairC n rows a b) else if rbit rows a.toNat b.toNat = true then .inr 5 else .inl (n, put2 rows a b)
theorem pairC_zero {n : Int} {rows : List Int} {a b : Int} (h : pairC n rows a b = 0) : GV n rows ∧ (0 ≤ a ∧ a < n) ∧ (0 ≤ b ∧ b < n) ∧ a ≠ b := by
  unfold pairC at h
  split at h
  · rename_i g
    split at h
    · rename_i h1; exact ⟨g, h1⟩
    · cases h
  · cases h

theorem c_impl_PutEdge (n a b : Int) (s : Value) (rows : List Int) (h : VH) (hs : Sli h s rows) (hn : nro ≤ h.length) :
    vcall F nro k_impl_PutEdge [gv n s, .int .i64 a, .int .i64 b] h = some (gres h (putAns n rows a b)) := by
  refine v_impl_PutEdge (by simp [i_impl_PutEdge]) ?_
  rw [fbody_eq]
  have hn' := fun k => Nat.le_trans hn (Nat.le_add_right h.length k)
  have hc := c_impl_pairCode (nro := nro) n a b s rows (h ++ [⟨0, [.int .i64 n, s]⟩, ⟨0, [.int .i64 0, .slice none 0 0]⟩]) (hs.app _) (by simp; omega)
  by_cases hz : pairC n rows a b = 0
  · obtain ⟨g, ⟨a1, a2⟩, ⟨b1, b2⟩, hne⟩ := pairC_zero hz
    have hl := g.len
    have hlo := g.lo
    have hN := g.hi
    have hp := pow_le62 hN
    obtain ⟨r1, r2, _⟩ := g.row a.toNat (by omega)
    have hh := c_impl_Graph_has (nro := nro) n a b s rows (h ++ [⟨0, [.int .i64 n, s]⟩, ⟨0, [.int .i64 0, .slice none 0 0]⟩]) (hs.app _) a1 (by omega) b1 (by omega) r1 (by omega)
    rw [hz] at hc
    by_cases hb : rbit rows a.toNat b.toNat = true
    · have e : putAns n rows a b = .inr 5 := by simp [putAns, hz, hb]
      simp (disch := first | assumption | omega | (simp [*] <;> omega) | fail) [i_impl_PutEdge, hc, hh, hb, e, fresults, fresL, fres1, hn']
    · have e : putAns n rows a b = .inl (n, put2 rows a b) := by simp [putAns, hz, hb]
      have hj := c_impl_own (nro := nro) n s rows (h ++ [⟨0, [.int .i64 n, s]⟩, ⟨0, [.int .i64 0, .slice none 0 0]⟩]) (hs.app _) (by intro e; simp [e] at hl; omega) (by omega) (by simp; omega)
      have hp := c_impl_Graph_put (nro := nro) n (h.length + 2) rows.length a b rows (h ++ [⟨0, [.int .i64 n, s]⟩, ⟨0, [.int .i64 0, .slice none 0 0]⟩, ⟨1, ints rows⟩, ⟨0, [.int .i64 n, .slice (some ⟨h.length + 2, 0, none⟩) rows.length rows.length]⟩]) (by simp) rfl (by omega) a1 (by omega) b1 (by omega) (by omega)
      rw [if_neg hne] at hp
      simp at hj hp
      simp (disch := first | assumption | omega | (simp [*] <;> omega) | fail) [i_impl_PutEdge, hc, hh, hb, hj, hp, e, fresults, fresL, fres1, hn']
  · have e : putAns n rows a b = .inr (pairC n rows a b) := by simp [putAns, hz]
    simp (disch := first | assumption | omega | (simp [*] <;> omega) | fail) [i_impl_PutEdge, hc, hz, e, fresults, fresL, fres1, hn']

end Go.Proofs.YtghondlbkjponaaDoor.Zv

/- FnGreedy, in parts: greedy graphs. -/
namespace Go.Proofs.YtghondlbkjponaaDoor.Zv
open Go
open Classical
variable {nro : Nat}

theorem fullA_fill {n : Nat} {rows : List Int} {k c : Int} (g : GV n rows) (hf : FitsP rows n k c) (hk : kcB k c = true) : fullA n (fillA k c n rows 0) k c = true ∧ fitC n (fillA k c n rows 0) k c = 0 ∧ fbA n (fillA k c n rows 0) k c = (true, 0) := by
  obtain ⟨a1, a2, _, _⟩ := fillA_ok (k := k) (c := c) 0 rows g hf
  have h0 : fitC n (fillA k c n rows 0) k c = 0 := by
    unfold fitC
    rw [if_pos a1, if_pos hk, Int.toNat_natCast, if_pos a2]
  refine ⟨?_, h0, ?_⟩
  · unfold fullA
    rw [Int.toNat_natCast]
    exact decide_eq_true ⟨h0, fillA_full rows g hf⟩
  · unfold fbA
    have z : ¬ ¬ GV n (fillA k c n rows 0) := fun h => h a1
    have z2 : ¬ ¬ kcB k c = true := fun h => h hk
    rw [if_neg z, if_neg z2, Int.toNat_natCast, decide_eq_true a2]

section
variable {cd : Value} {xs : List Int} {K : VH} (hs : Sl K cd (bys xs)) (hx : Code' xs) (hn : nro ≤ K.length)
include hs hx hn
set_option maxHeartbeats 4000000 in
theorem greedy_A (e : FE) (he : e 0 = cd) : ∃ e' L, fcode (vcall F nro) nro (takeS 4 (dropS 2 i_laws_FnGreedy.body)) e K = some (.normal, e', K ++ L) ∧ e' 0 = cd := by
  have hn' := fun k => Nat.le_trans hn (Nat.le_add_right K.length k)
  obtain ⟨n, k, c, d1⟩ := c_spec_DrawGreedyGraph (nro := nro) hs hx hn
  have hc1 := c_impl_GreedyGraph (nro := nro) n k c K hn
  have hc2 := fun L => c_spec_GreedyGraph (nro := nro) n k c (K ++ L) (by simp; omega)
  cases hp : greedyAns n k c with
  | inl q =>
    obtain ⟨m, r⟩ := q
    have hq : ∃ N : Nat, n = N ∧ m = N ∧ 1 ≤ N ∧ N ≤ 62 ∧ kcB k c = true ∧ r = fillA k c N (List.replicate N 0) 0 := by
      unfold greedyAns at hp
      split at hp
      · rename_i g
        cases hp
        exact ⟨n.toNat, by omega, by omega, by omega, by omega, g.2, rfl⟩
      · cases hp
    obtain ⟨N, rfl, rfl, n1, n2, hkc, hr⟩ := hq
    have g0 := GV.zero n1 n2
    have hz := zero_fits (n := N) (k := k) (c := c) (kcB_rng hkc).1.1
    obtain ⟨f1, f2, f3⟩ := fullA_fill g0 hz hkc
    obtain ⟨a1, a2, _, _⟩ := fillA_ok (k := k) (c := c) 0 _ g0 hz
    rw [← hr] at f1 f2 f3 a1 a2
    have hgi := fits_girth a1 a2 (by have := kcB_rng hkc; omega)
    have hl := a1.rok.len
    rw [hp] at hc1 hc2
    obtain ⟨H, hH⟩ : ∃ H : VH, H = K ++ [⟨1, ints r⟩, ⟨0, [.int .i64 N, .slice (some ⟨K.length, 0, none⟩) N N]⟩, ⟨1, ints r⟩, ⟨0, [.int .i64 N, .slice (some ⟨K.length + 2, 0, none⟩) N N]⟩] := ⟨_, rfl⟩
    have s1 := sli_at (h := H) (b := K.length) (xs := r) (by rw [hH]; simp)
    have s2 := sli_at (h := H) (b := K.length + 2) (xs := r) (by rw [hH]; simp)
    rw [hl] at s1 s2
    have hnH : nro ≤ H.length := by rw [hH]; simp; omega
    have e5 := c_laws_graphs5 (nro := nro) N N _ _ r r H s1 s2 (by omega)
    have e6 := c_impl_IsFull (nro := nro) N k c _ r H s1 hnH
    have e7 := c_impl_FitsBoth (nro := nro) N k c _ r H s1 hnH
    have e8 := c_impl_GirthOf (nro := nro) N _ r H s1 hnH
    rw [f1, f2] at e6
    rw [f3] at e7
    obtain ⟨q, hq⟩ : ∃ q, q = giA N r := ⟨_, rfl⟩
    rw [← hq] at e8 hgi
    obtain ⟨q1, q2⟩ := q
    simp only [gres, hl] at hc1 hc2 e5 e7 e8 hgi
    rw [hH] at e5 e6 e7 e8
    clear hH s1 s2 hnH f1 f2 f3 a1 a2 g0 hz hr hq hs hx hp hkc hl
    by_cases c1 : q2 = 0
    · have c2 := hgi c1
      simp (disch := first | assumption | omega | (simp [*] <;> omega) | fail) [i_laws_FnGreedy, takeS, dropS, he, d1, hc1, hc2, e5, e6, e7, e8, c1, c2, hn, hn']
    · simp (disch := first | assumption | omega | (simp [*] <;> omega) | fail) [i_laws_FnGreedy, takeS, dropS, he, d1, hc1, hc2, e5, e6, e7, e8, c1, hn, hn']
  | inr x =>
    have hx0 : ¬ x = 0 := by
      unfold greedyAns at hp
      split at hp
      · cases hp
      · cases hp; omega
    rw [hp] at hc1 hc2
    have e5 := c_laws_graphs5 (nro := nro) 0 0 (.slice none 0 0) (.slice none 0 0) [] [] (K ++ [⟨0, [.int .i64 0, .slice none 0 0]⟩, ⟨0, [.int .i64 0, .slice none 0 0]⟩]) (by simp [Sli, Sl]) (by simp [Sli, Sl]) (by simp)
    simp only [gres] at hc1 hc2
    clear hp hs hx
    simp (disch := first | assumption | omega | (simp [*] <;> omega) | fail) [i_laws_FnGreedy, takeS, dropS, he, d1, hc1, hc2, e5, hx0, hn, hn']
end
end Go.Proofs.YtghondlbkjponaaDoor.Zv

/- FnGreedy, in parts: filled graphs. -/
namespace Go.Proofs.YtghondlbkjponaaDoor.Zv
open Go
open Classical
variable {nro : Nat}

theorem l_laws_FnGreedy_1 (H : VH) (p q N : Nat) (cd sg sf : Value) (rows r1 : List Int) (n1 n2 : Int) (hg : H[p]? = some ⟨0, [.int .i64 n1, sg]⟩) (hf : H[q]? = some ⟨0, [.int .i64 n2, sf]⟩) (sg' : Sli H sg rows) (sf' : Sli H sf r1) (l0 : rows.length = N) (l1 : r1.length = N) (hN : N ≤ 62)
    (hr : ∀ v, v < N → iand .i64 (r1.getD v 0) (rows.getD v 0) = rows.getD v 0) (ocd : Old H.length cd) :
    floop (vcall F nro) nro [0, 16, 19, 29] i_laws_FnGreedy_B1 H [cd, .pointer (some ⟨p, 0, some 2⟩), .pointer (some ⟨q, 0, some 2⟩), .int .i64 0] H = some (.exit 0, fl [(0, cd)], H) := by
  have hp : p < H.length := (List.getElem?_eq_some_iff.mp hg).1
  have hq : q < H.length := (List.getElem?_eq_some_iff.mp hf).1
  have hpk : ∀ k, p < H.length + k := fun k => by omega
  have hqk : ∀ k, q < H.length + k := fun k => by omega
  have a1 := sg'.vlen
  rw [l0] at a1
  refine (for_up (call := vcall F nro) (nro := nro) (live := [0, 16, 19, 29]) (c := i_laws_FnGreedy_B1) (h0 := H) (n := N) (fun i (_ : Unit) => [cd, .pointer (some ⟨p, 0, some 2⟩), .pointer (some ⟨q, 0, some 2⟩), .int .i64 i]) (fun _ _ => H) (fun _ u => u) (fun _ _ => True) (fun _ => some (.exit 0, fl [(0, cd)], H)) ?_ ?_ 0 () (Nat.zero_le _) trivial).1
  · intro i _ hi hi2 _
    refine ⟨trivial, ?_⟩
    have b1 := sg'.vidx (k := .i64) (j := (i : Int)) (by omega) (by omega)
    have b2 := sg'.vload (j := i) (by omega)
    have b3 := sf'.vidx (k := .i64) (j := (i : Int)) (by omega) (by omega)
    have b4 := sf'.vload (j := i) (by omega)
    have hri := hr i hi
    rw [getD_at _ (by omega), getD_at _ (by omega)] at hri
    have wj : IntKind.i64.wrap ((i : Int) + 1) = (i : Int) + 1 := wrap64 (by omega) (by omega)
    obtain ⟨x, hx⟩ : ∃ x, x = rows[i]'(by omega) := ⟨_, rfl⟩
    obtain ⟨y, hy⟩ : ∃ y, y = r1[i]'(by omega) := ⟨_, rfl⟩
    rw [← hx] at b2 hri
    rw [← hy] at b4 hri
    clear hx hy hr l0 l1 sg' sf'
    rw [floop_at i_laws_FnGreedy_B1.eq_1]
    simp (disch := first | assumption | omega | (simp [*] <;> omega) | fail) [-getElem?_pos, List.getElem?_cons_zero, List.getElem?_cons_succ, hg, hf, a1, hi, hi2, b1, b2, b3, b4, hri, wj, ocd, hp, hq, hpk, hqk]
  · intro _ _
    rw [floop_at i_laws_FnGreedy_B1.eq_1]
    simp (disch := first | assumption | omega | (simp [*] <;> omega) | fail) [-getElem?_pos, List.getElem?_cons_zero, List.getElem?_cons_succ, hg, hf, a1, ocd, hp, hq, hpk, hqk]

section
variable {cd : Value} {xs : List Int} {K : VH} (hs : Sl K cd (bys xs)) (hx : Code' xs) (hn : nro ≤ K.length)
include hs hx hn
set_option maxHeartbeats 4000000 in
theorem greedy_B (e : FE) (he : e 0 = cd) : ∃ e' L, fcode (vcall F nro) nro (takeS 4 (dropS 7 i_laws_FnGreedy.body)) e K = some (.normal, e', K ++ L) ∧ e' 0 = cd := by
  have hn' := fun k => Nat.le_trans hn (Nat.le_add_right K.length k)
  obtain ⟨n, k, c, rows, hlr, d1⟩ := c_spec_DrawFillGraph (nro := nro) hs hx hn
  obtain ⟨m0, hm0⟩ : ∃ m, m = rows.length := ⟨_, rfl⟩
  rw [← hm0] at d1
  have s0 : ∀ L, Sli (K ++ ⟨1, ints rows⟩ :: L) (.slice (some ⟨K.length, 0, none⟩) m0 m0) rows := fun L => by
    have := sli_at (h := K ++ ⟨1, ints rows⟩ :: L) (b := K.length) (xs := rows) (by simp)
    rwa [← hm0] at this
  have hc1 := fun L => c_impl_FillGraph (nro := nro) n k c _ rows (K ++ ⟨1, ints rows⟩ :: L) (s0 L) (by simp; omega)
  have hc2 := fun L => c_spec_FillGraph (nro := nro) n k c _ rows (K ++ ⟨1, ints rows⟩ :: L) (s0 L) (by simp; omega)
  unfold fillAns at hc1 hc2
  by_cases hz : fitC n rows k c = 0
  · have hg := fitC_gv hz
    have hlo := hg.lo
    obtain ⟨N, rfl⟩ : ∃ N : Nat, n = N := ⟨n.toNat, by omega⟩
    rw [Int.toNat_natCast] at hc1 hc2
    have hkf : kcB k c = true ∧ FitsP rows N k c := by
      unfold fitC at hz
      rw [if_pos hg] at hz
      by_cases c1 : kcB k c = true
      · rw [if_pos c1, Int.toNat_natCast] at hz
        by_cases c2 : FitsP rows N k c
        · exact ⟨c1, c2⟩
        · rw [if_neg c2] at hz; omega
      · rw [if_neg c1] at hz; omega
    obtain ⟨hkc, hf⟩ := hkf
    obtain ⟨f1, f2, _⟩ := fullA_fill hg hf hkc
    obtain ⟨a1, a2, a3, _⟩ := fillA_ok (k := k) (c := c) 0 rows hg hf
    obtain ⟨y1, y2, y3⟩ := elA_fill hg hf (kcB_rng hkc).1
    have hrs := fun v hv => row_sub hg.rok a1.rok a3 (v := v) hv
    have l0 := hg.rok.len
    have hm : m0 = N := by omega
    subst hm
    obtain ⟨r1, hr1⟩ : ∃ r, r = fillA k c m0 rows 0 := ⟨_, rfl⟩
    rw [← hr1] at hc1 hc2 f1 f2 a1 y2 y3 hrs
    have l1 := a1.rok.len
    obtain ⟨H, hH⟩ : ∃ H : VH, H = K ++ [⟨1, ints rows⟩, ⟨0, [.int .i64 m0, .slice (some ⟨K.length, 0, none⟩) m0 m0]⟩, ⟨1, ints r1⟩, ⟨0, [.int .i64 m0, .slice (some ⟨K.length + 2, 0, none⟩) m0 m0]⟩, ⟨1, ints r1⟩, ⟨0, [.int .i64 m0, .slice (some ⟨K.length + 4, 0, none⟩) m0 m0]⟩] := ⟨_, rfl⟩
    have s1 : Sli H (.slice (some ⟨K.length, 0, none⟩) m0 m0) rows := by rw [hH]; exact s0 _
    have s2 := sli_at (h := H) (b := K.length + 2) (xs := r1) (by rw [hH]; simp)
    have s3 := sli_at (h := H) (b := K.length + 4) (xs := r1) (by rw [hH]; simp)
    rw [l1] at s2 s3
    have hnH : nro ≤ H.length := by rw [hH]; simp; omega
    have e5 := c_laws_graphs5 (nro := nro) m0 m0 _ _ r1 r1 H s2 s3 (by omega)
    have e6 := c_impl_IsFull (nro := nro) m0 k c _ r1 H s2 hnH
    have e7 := c_impl_EdgesLeft (nro := nro) m0 k _ r1 H s2 hnH
    have e8 := c_impl_EdgesLeft (nro := nro) m0 k _ rows H s1 hnH
    have lp := l_laws_FnGreedy_1 (nro := nro) H (K.length + 1) (K.length + 3) m0 cd _ _ rows r1 m0 m0 (by rw [hH]; simp) (by rw [hH]; simp) s1 s2 l0 l1 hg.rok.le hrs (by rw [hH]; exact (hs.app _).old)
    rw [f1, f2] at e6
    obtain ⟨q, hq⟩ : ∃ q, q = elA m0 r1 k := ⟨_, rfl⟩
    obtain ⟨q', hq'⟩ : ∃ q, q = elA m0 rows k := ⟨_, rfl⟩
    rw [← hq] at e7 y2 y3
    rw [← hq'] at e8 y1 y3
    obtain ⟨q1, q2⟩ := q
    obtain ⟨q3, q4⟩ := q'
    simp only at e7 e8 y1 y2 y3
    subst y1
    subst y2
    have y4 : ¬ q3 < q1 := by omega
    simp only [if_pos hz, gres, l1] at hc1 hc2
    rw [hH] at e5 e6 e7 e8 lp
    simp at e5
    clear hH s0 s1 s2 s3 hnH f1 f2 a1 a2 a3 hq hq' hs hx hkc hf hg hlr hm0 hr1 hrs hz l0 l1 y3 hlo
    have g1 := hc1 [⟨0, [.int .i64 m0, .slice (some ⟨K.length, 0, none⟩) m0 m0]⟩]
    have g2 := hc2 [⟨0, [.int .i64 m0, .slice (some ⟨K.length, 0, none⟩) m0 m0]⟩, ⟨1, ints r1⟩, ⟨0, [.int .i64 m0, .slice (some ⟨K.length + 2, 0, none⟩) m0 m0]⟩]
    clear hc1 hc2
    simp at g1 g2
    simp (disch := first | assumption | omega | (simp [*] <;> omega) | fail) [i_laws_FnGreedy, takeS, dropS, he, d1, g1, g2, e5, e6, e7, e8, y4, lp, hn, hn']
  · obtain ⟨x, hx0⟩ : ∃ x, x = fitC n rows k c := ⟨_, rfl⟩
    rw [← hx0] at hc1 hc2 hz
    simp only [if_neg hz, gres] at hc1 hc2
    have e5 := c_laws_graphs5 (nro := nro) 0 0 (.slice none 0 0) (.slice none 0 0) [] [] (K ++ [⟨1, ints rows⟩, ⟨0, [.int .i64 n, .slice (some ⟨K.length, 0, none⟩) m0 m0]⟩, ⟨0, [.int .i64 0, .slice none 0 0]⟩, ⟨0, [.int .i64 0, .slice none 0 0]⟩]) (by simp [Sli, Sl]) (by simp [Sli, Sl]) (by simp)
    clear hx0 hs hx hm0 hlr s0
    simp (disch := first | assumption | omega | (simp [*] <;> omega) | fail) [i_laws_FnGreedy, takeS, dropS, he, d1, hc1, hc2, e5, hz, hn, hn']
end
end Go.Proofs.YtghondlbkjponaaDoor.Zv

/- FnGreedy, in parts: pairs to join. -/
namespace Go.Proofs.YtghondlbkjponaaDoor.Zv
open Go
open Classical
variable {nro : Nat}

theorem putAns_may {n : Nat} {rows : List Int} {k c : Int} (g : GV n rows) {v w : Nat} (hv : v < w) (hw : w < n) (hm : mayB rows k c v w = true) : putAns n rows v w = .inl ((n : Int), put2 rows v w) := by
  have h0 : pairC n rows v w = 0 := by
    unfold pairC
    rw [if_pos g, if_pos ⟨⟨by omega, by omega⟩, ⟨by omega, by omega⟩, by omega⟩]
  have hb := (mayB_iff.mp hm).1
  unfold putAns
  have z : ¬ (pairC n rows v w ≠ 0) := fun h => h h0
  rw [if_neg z, Int.toNat_natCast, Int.toNat_natCast, if_neg (by rw [hb]; simp)]

theorem l_laws_FnGreedy_2 (H : VH) (p n : Nat) (cd s q : Value) (rows : List Int) (k c : Int) (hs : Sli H s rows) (g : GV n rows) (hkc : kcB k c = true) (hf : FitsP rows n k c) (hp : H[p]? = some ⟨0, [.int .i64 n, s]⟩) (hq : LL H q (pairsF k c rows n 0)) (hn : nro ≤ H.length) (ocd : Old H.length cd) :
    floop (vcall F nro) nro [0, 30, 31, 32, 33, 39] i_laws_FnGreedy_B2 H [cd, .pointer (some ⟨p, 0, some 2⟩), .int .i64 k, .int .i64 c, q, .int .i64 0] H = some (.exit 2, fl [(0, cd)], H) := by
  obtain ⟨vs, v1, v2, v3⟩ := hq
  have hle := g.rok.le
  have hel := pairsF_len k c rows n 0 hle
  have hpl0 : p < H.length := (List.getElem?_eq_some_iff.mp hp).1
  have hpl : ∀ k, p < H.length + k := fun k => by omega
  have oq := v2.old
  have oqk : ∀ k, Old (H.length + k) q := fun k => oq.le (by omega)
  have ock : ∀ k, Old (H.length + k) cd := fun k => ocd.le (by omega)
  have vn := v2.vlen
  rw [v1] at vn
  obtain ⟨E, hE⟩ : ∃ E, E = (pairsF k c rows n 0).length := ⟨_, rfl⟩
  rw [← hE] at vn
  have hn' := fun k => Nat.le_trans hn (Nat.le_add_right H.length k)
  refine (for_up (call := vcall F nro) (nro := nro) (live := [0, 30, 31, 32, 33, 39]) (c := i_laws_FnGreedy_B2) (h0 := H) (n := min E 8) (fun i (_ : Unit) => [cd, .pointer (some ⟨p, 0, some 2⟩), .int .i64 k, .int .i64 c, q, .int .i64 i]) (fun _ _ => H) (fun _ u => u) (fun _ _ => True) (fun _ => some (.exit 2, fl [(0, cd)], H)) ?_ ?_ 0 () (Nat.zero_le _) trivial).1
  · intro j _ hj hj2 _
    refine ⟨trivial, ?_⟩
    have hjE : j < E := by omega
    have hj8 : (j : Int) < 8 := by omega
    have hjl : j < (pairsF k c rows n 0).length := by omega
    have I := v3 j (by omega)
    rw [getD_list hjl] at I
    obtain ⟨v, w, hvw, hwn, hm, he⟩ := pairsF_mem k c rows n 0 _ (List.getElem_mem hjl)
    rw [he] at I
    have vx := v2.vidx (k := .i64) (j := (j : Int)) (by omega) (by omega)
    have vl := v2.vload (j := j) (by omega)
    have i0 := I.vidx (k := .i64) (j := 0) (by omega) (by simp)
    have i1 := I.vidx (k := .i64) (j := 1) (by omega) (by simp)
    have j0 := I.vload (j := 0) (by simp)
    have j1 := I.vload (j := 1) (by simp)
    simp at i0 i1 j0 j1
    have cp := c_impl_PutEdge (nro := nro) n v w s rows H hs hn
    rw [putAns_may g hvw hwn hm] at cp
    have g2 := g.put2 (show v < n by omega) hwn (by omega)
    have f2 := fits_put g (show v < n by omega) hwn (by omega) hm hf
    obtain ⟨r2, hr2⟩ : ∃ r, r = put2 rows v w := ⟨_, rfl⟩
    rw [← hr2] at cp g2 f2
    have l2 := g2.rok.len
    simp only [gres, l2] at cp
    have sl2 := sli_at (h := H ++ [⟨1, ints r2⟩, ⟨0, [.int .i64 n, .slice (some ⟨H.length, 0, none⟩) n n]⟩]) (b := H.length) (xs := r2) (by simp)
    rw [l2] at sl2
    have cf := c_impl_FitsBoth (nro := nro) n k c _ r2 _ sl2 (by simp; omega)
    have hfb : fbA n r2 k c = (true, 0) := by
      unfold fbA
      have z : ¬ ¬ GV n r2 := fun h => h g2
      have z2 : ¬ ¬ kcB k c = true := fun h => h hkc
      rw [if_neg z, if_neg z2, Int.toNat_natCast, decide_eq_true f2]
    rw [hfb] at cf
    have wj : IntKind.i64.wrap ((j : Int) + 1) = (j : Int) + 1 := wrap64 (by omega) (by omega)
    have hk : ∀ (L : VH) (x y : Value), Old H.length x → Old H.length y → kclean H [x, .pointer (some ⟨p, 0, some 2⟩), .int .i64 k, .int .i64 c, y, .int .i64 ((j : Int) + 1)] (H ++ L) = ([x, .pointer (some ⟨p, 0, some 2⟩), .int .i64 k, .int .i64 c, y, .int .i64 ((j : Int) + 1)], H) := fun L x y hx hy => kclean_take (by simp) (by
      intro z hz
      simp only [List.mem_cons, List.not_mem_nil, or_false] at hz
      rcases hz with rfl | rfl | rfl | rfl | rfl | rfl
      · exact hx
      · intro r hr; simp [trefs, vrefs, crefs, arefs] at hr; omega
      · simp
      · simp
      · exact hy
      · simp)
    have hk2 := fun L => hk L cd q ocd oq
    clear hk hfb hr2 sl2 g2 f2 he I v3 hs g hf hm
    rw [floop_at i_laws_FnGreedy_B2.eq_1]
    have hjE2 : (j : Int) < E := by omega
    simp (disch := first | assumption | omega | (simp [*] <;> omega) | fail) [-getElem?_pos, List.getElem?_cons_zero, List.getElem?_cons_succ, hjE, hjE2, hj8, vn, vx, vl, i0, i1, j0, j1, hp, cp, cf, hn, hn', hpl, hpl0, wj, ocd, oq, oqk, ock, hk2]
  · intro _ _
    rw [floop_at i_laws_FnGreedy_B2.eq_1]
    by_cases c8 : E < 8
    · have e1 : min E 8 = E := by omega
      rw [e1]
      simp (disch := first | assumption | omega | (simp [*] <;> omega) | fail) [-getElem?_pos, List.getElem?_cons_zero, List.getElem?_cons_succ, vn, ocd, oq, hpl, hpl0]
    · have e1 : min E 8 = 8 := by omega
      rw [e1]
      simp (disch := first | assumption | omega | (simp [*] <;> omega) | fail) [-getElem?_pos, List.getElem?_cons_zero, List.getElem?_cons_succ, vn, ocd, oq, hpl, hpl0]

section
variable {cd : Value} {xs : List Int} {K : VH} (hs : Sl K cd (bys xs)) (hx : Code' xs) (hn : nro ≤ K.length)
include hs hx hn
set_option maxHeartbeats 4000000 in
theorem greedy_C (e : FE) (he : e 0 = cd) : ∃ e' L, fcode (vcall F nro) nro (takeS 4 (dropS 12 i_laws_FnGreedy.body)) e K = some (.normal, e', K ++ L) ∧ e' 0 = cd := by
  have hn' := fun k => Nat.le_trans hn (Nat.le_add_right K.length k)
  obtain ⟨n, k, c, rows, hlr, d1⟩ := c_spec_DrawPairsToJoin (nro := nro) hs hx hn
  obtain ⟨m0, hm0⟩ : ∃ m, m = rows.length := ⟨_, rfl⟩
  rw [← hm0] at d1
  obtain ⟨B, hB⟩ : ∃ B : VH, B = K ++ [⟨1, ints rows⟩, ⟨0, [.int .i64 n, .slice (some ⟨K.length, 0, none⟩) m0 m0]⟩] := ⟨_, rfl⟩
  have lB : B.length = K.length + 2 := by rw [hB]; simp
  have s0 : Sli B (.slice (some ⟨K.length, 0, none⟩) m0 m0) rows := by
    have := sli_at (h := B) (b := K.length) (xs := rows) (by rw [hB]; simp)
    rwa [← hm0] at this
  have gB : B[K.length + 1]? = some ⟨0, [.int .i64 n, .slice (some ⟨K.length, 0, none⟩) m0 m0]⟩ := by rw [hB]; simp
  have hnB : nro ≤ B.length := by omega
  have pB : K.length + 1 < B.length := by omega
  by_cases hz : fitC n rows k c = 0
  · have hg := fitC_gv hz
    have hlo := hg.lo
    obtain ⟨N, rfl⟩ : ∃ N : Nat, n = N := ⟨n.toNat, by omega⟩
    have hkf : kcB k c = true ∧ FitsP rows N k c := by
      unfold fitC at hz
      rw [if_pos hg] at hz
      by_cases c1 : kcB k c = true
      · rw [if_pos c1, Int.toNat_natCast] at hz
        by_cases c2 : FitsP rows N k c
        · exact ⟨c1, c2⟩
        · rw [if_neg c2] at hz; omega
      · rw [if_neg c1] at hz; omega
    obtain ⟨hkc, hf⟩ := hkf
    obtain ⟨q1, M1, e1, t1⟩ := c_impl_PairsToJoin (nro := nro) N k c _ rows B s0 hnB hz
    rw [Int.toNat_natCast] at t1
    obtain ⟨C, hC⟩ : ∃ C : VH, C = B ++ M1 := ⟨_, rfl⟩
    rw [← hC] at e1
    have hnC : nro ≤ C.length := by rw [hC]; simp; omega
    obtain ⟨q2, M2, e2, t2⟩ := c_spec_PairsToJoin (nro := nro) N k c _ rows C (by rw [hC]; exact s0.app _) hnC hz
    rw [Int.toNat_natCast] at t2
    obtain ⟨H, hH⟩ : ∃ H : VH, H = C ++ M2 := ⟨_, rfl⟩
    rw [← hH] at e2
    have hnH : nro ≤ H.length := by rw [hH]; simp; omega
    have ll1 : LL H q1 (pairsF k c rows N 0) := by
      have := t1.ll
      rw [hH, hC]; exact this.app M2
    have ll2 : LL H q2 (pairsF k c rows N 0) := by rw [hH]; exact t2.ll
    have hel := pairsF_len k c rows N 0 hg.rok.le
    have hle := hg.rok.le
    have e5 := c_laws_rows5 (nro := nro) q1 q2 _ H ll1 ll2 (by omega) (fun e he => by have := pairsF_el k c rows N 0 e he; omega)
    have sH : Sli H (.slice (some ⟨K.length, 0, none⟩) m0 m0) rows := by rw [hH, hC]; exact (s0.app _).app _
    have gH : H[K.length + 1]? = some ⟨0, [.int .i64 N, .slice (some ⟨K.length, 0, none⟩) m0 m0]⟩ := by
      rw [hH, hC, List.append_assoc, List.getElem?_append_left pB]; exact gB
    have gC : C[K.length + 1]? = some ⟨0, [.int .i64 N, .slice (some ⟨K.length, 0, none⟩) m0 m0]⟩ := by
      rw [hC, List.getElem?_append_left pB]; exact gB
    have e6 := c_impl_IsFull (nro := nro) N k c _ rows H sH hnH
    rw [hz] at e6
    have lp := l_laws_FnGreedy_2 (nro := nro) H (K.length + 1) N cd _ q1 rows k c sH hg hkc hf gH ll1 hnH (by rw [hH, hC, hB]; exact (((hs.app _).app _).app _).old)
    obtain ⟨vs, v1, v2, _⟩ := ll1
    have vn := v2.vlen
    rw [v1] at vn
    obtain ⟨a1, n1, rfl⟩ := t1.shape
    obtain ⟨a2, n2, rfl⟩ := t2.shape
    obtain ⟨M, hM⟩ : ∃ M : VH, H = K ++ M := ⟨[⟨1, ints rows⟩, ⟨0, [.int .i64 N, .slice (some ⟨K.length, 0, none⟩) m0 m0]⟩] ++ M1 ++ M2, by rw [hH, hC, hB]; simp⟩
    have hfull : fullA N rows k c = decide (pairsF k c rows N 0 = []) := by
      unfold fullA
      rw [Int.toNat_natCast]
      by_cases c1 : pairsF k c rows N 0 = []
      · rw [decide_eq_true c1, decide_eq_true ⟨hz, c1⟩]
      · rw [decide_eq_false c1, decide_eq_false (fun h => c1 h.2)]
    rw [hfull] at e6
    have aB : K ++ [(⟨1, ints rows⟩ : VO), ⟨0, [.int .i64 N, .slice (some ⟨K.length, 0, none⟩) m0 m0]⟩] = B := hB.symm
    by_cases c1 : pairsF k c rows N 0 = []
    · rw [decide_eq_true c1] at e6
      rw [c1] at vn
      clear hs hx hlr hm0 hB s0 hg hkc hf hH hC ll2 sH v1 v2 t1 t2 hfull c1 hz hel hle hlo
      simp at vn
      simp (disch := first | assumption | omega | (simp [*] <;> omega) | fail) [-getElem?_pos, List.getElem?_cons_zero, List.getElem?_cons_succ, i_laws_FnGreedy, takeS, dropS, he, d1, aB, lB, gB, gC, gH, e1, e2, e5, e6, vn, lp, hn, hn', hnB, hnC, hnH]
      exact ⟨_, ⟨rfl, M, hM⟩, rfl⟩
    · have hne : ¬ (pairsF k c rows N 0).length = 0 := fun h => c1 (List.eq_nil_of_length_eq_zero h)
      rw [decide_eq_false c1] at e6
      obtain ⟨E, hE⟩ : ∃ E, E = (pairsF k c rows N 0).length := ⟨_, rfl⟩
      rw [← hE] at vn hne
      clear hs hx hlr hm0 hB s0 hg hkc hf hH hC ll2 sH v1 v2 t1 t2 hfull c1 hz hel hle hlo hE
      simp (disch := first | assumption | omega | (simp [*] <;> omega) | fail) [-getElem?_pos, List.getElem?_cons_zero, List.getElem?_cons_succ, i_laws_FnGreedy, takeS, dropS, he, d1, aB, lB, gB, gC, gH, e1, e2, e5, e6, vn, lp, hne, hn, hn', hnB, hnC, hnH]
      exact ⟨_, ⟨rfl, M, hM⟩, rfl⟩
  · have e1 := c_impl_PairsToJoin_bad (nro := nro) n k c _ rows B s0 hnB hz
    have e2 := c_spec_PairsToJoin_bad (nro := nro) n k c _ rows B s0 hnB hz
    have e5 := c_laws_rows5 (nro := nro) (.slice none 0 0) (.slice none 0 0) [] B (LL.nil B) (LL.nil B) (by simp) (by simp)
    obtain ⟨x, hx0⟩ : ∃ x, x = fitC n rows k c := ⟨_, rfl⟩
    rw [← hx0] at e1 e2 hz
    rw [hB] at e1 e2 e5
    clear hx0 hs hx hm0 hlr s0 gB lB hnB pB hB
    simp (disch := first | assumption | omega | (simp [*] <;> omega) | fail) [i_laws_FnGreedy, takeS, dropS, he, d1, e1, e2, e5, hz, hn, hn']
end
end Go.Proofs.YtghondlbkjponaaDoor.Zv

/- FnGreedy: the law. -/
namespace Go.Proofs.YtghondlbkjponaaDoor.Zv
open Go
open Classical
variable {nro : Nat}
section
variable {cd : Value} {xs : List Int} {K : VH} (hs : Sl K cd (bys xs)) (hx : Code' xs) (hn : nro ≤ K.length)
include hs hx hn
set_option maxHeartbeats 4000000 in
theorem greedy_D (h : VH) (hK : K.take h.length = h) (e : FE) (he : e 0 = cd) : kret [.tmp 2] h (fcode (vcall F nro) nro (dropS 17 i_laws_FnGreedy.body) e K) = some (.bool true, h) := by
  have hn' := fun k => Nat.le_trans hn (Nat.le_add_right K.length k)
  have hlK : h.length ≤ K.length := by
    have := congrArg List.length hK
    simp at this
    omega
  have tK : ∀ L, (K ++ L).take h.length = h := by intro L; rw [List.take_append_of_le_length hlK]; exact hK
  have kC : ∀ (L : VH) (x : Bool), kclean h [.bool x] (K ++ L) = ([.bool x], h) := fun L x => kclean_take (tK L) (by simp)
  obtain ⟨n1, k1, c1, r1, _, d1⟩ := c_spec_DrawFitsBoth (nro := nro) hs hx hn
  obtain ⟨m1, hm1⟩ : ∃ m, m = r1.length := ⟨_, rfl⟩
  rw [← hm1] at d1
  have s1 : Sli (K ++ [⟨1, ints r1⟩, ⟨0, [.int .i64 n1, .slice (some ⟨K.length, 0, none⟩) m1 m1]⟩]) (.slice (some ⟨K.length, 0, none⟩) m1 m1) r1 := by
    have := sli_at (h := K ++ [⟨1, ints r1⟩, ⟨0, [.int .i64 n1, .slice (some ⟨K.length, 0, none⟩) m1 m1]⟩]) (b := K.length) (xs := r1) (by simp)
    rwa [← hm1] at this
  have a1 := c_impl_FitsBoth (nro := nro) n1 k1 c1 _ r1 _ s1 (by simp; omega)
  have a2 := c_spec_FitsBoth (nro := nro) n1 k1 c1 _ r1 _ s1 (by simp; omega)
  obtain ⟨n2, k2, c2, r2, _, d2⟩ := c_spec_DrawIsFull (nro := nro) (hs.app [⟨1, ints r1⟩, ⟨0, [.int .i64 n1, .slice (some ⟨K.length, 0, none⟩) m1 m1]⟩]) hx (by simp; omega)
  obtain ⟨m2, hm2⟩ : ∃ m, m = r2.length := ⟨_, rfl⟩
  rw [← hm2] at d2
  have s2 : Sli (K ++ [⟨1, ints r1⟩, ⟨0, [.int .i64 n1, .slice (some ⟨K.length, 0, none⟩) m1 m1]⟩, ⟨1, ints r2⟩, ⟨0, [.int .i64 n2, .slice (some ⟨K.length + 2, 0, none⟩) m2 m2]⟩]) (.slice (some ⟨K.length + 2, 0, none⟩) m2 m2) r2 := by
    have := sli_at (h := K ++ [⟨1, ints r1⟩, ⟨0, [.int .i64 n1, .slice (some ⟨K.length, 0, none⟩) m1 m1]⟩, ⟨1, ints r2⟩, ⟨0, [.int .i64 n2, .slice (some ⟨K.length + 2, 0, none⟩) m2 m2]⟩]) (b := K.length + 2) (xs := r2) (by simp)
    rwa [← hm2] at this
  have b1 := c_impl_IsFull (nro := nro) n2 k2 c2 _ r2 _ s2 (by simp; omega)
  have b2 := c_spec_IsFull (nro := nro) n2 k2 c2 _ r2 _ s2 (by simp; omega)
  obtain ⟨n3, k3, r3, _, d3⟩ := c_spec_DrawEdgesLeft (nro := nro) (hs.app [⟨1, ints r1⟩, ⟨0, [.int .i64 n1, .slice (some ⟨K.length, 0, none⟩) m1 m1]⟩, ⟨1, ints r2⟩, ⟨0, [.int .i64 n2, .slice (some ⟨K.length + 2, 0, none⟩) m2 m2]⟩]) hx (by simp; omega)
  obtain ⟨m3, hm3⟩ : ∃ m, m = r3.length := ⟨_, rfl⟩
  rw [← hm3] at d3
  have s3 : Sli (K ++ [⟨1, ints r1⟩, ⟨0, [.int .i64 n1, .slice (some ⟨K.length, 0, none⟩) m1 m1]⟩, ⟨1, ints r2⟩, ⟨0, [.int .i64 n2, .slice (some ⟨K.length + 2, 0, none⟩) m2 m2]⟩, ⟨1, ints r3⟩, ⟨0, [.int .i64 n3, .slice (some ⟨K.length + 4, 0, none⟩) m3 m3]⟩]) (.slice (some ⟨K.length + 4, 0, none⟩) m3 m3) r3 := by
    have := sli_at (h := K ++ [⟨1, ints r1⟩, ⟨0, [.int .i64 n1, .slice (some ⟨K.length, 0, none⟩) m1 m1]⟩, ⟨1, ints r2⟩, ⟨0, [.int .i64 n2, .slice (some ⟨K.length + 2, 0, none⟩) m2 m2]⟩, ⟨1, ints r3⟩, ⟨0, [.int .i64 n3, .slice (some ⟨K.length + 4, 0, none⟩) m3 m3]⟩]) (b := K.length + 4) (xs := r3) (by simp)
    rwa [← hm3] at this
  have g1 := c_impl_EdgesLeft (nro := nro) n3 k3 _ r3 _ s3 (by simp; omega)
  have g2 := c_spec_EdgesLeft (nro := nro) n3 k3 _ r3 _ s3 (by simp; omega)
  obtain ⟨p, hp⟩ : ∃ p, p = fbA n1 r1 k1 c1 := ⟨_, rfl⟩
  obtain ⟨q1, hq1⟩ : ∃ q, q = fullA n2 r2 k2 c2 := ⟨_, rfl⟩
  obtain ⟨q2, hq2⟩ : ∃ q, q = fitC n2 r2 k2 c2 := ⟨_, rfl⟩
  obtain ⟨w, hw⟩ : ∃ w, w = elA n3 r3 k3 := ⟨_, rfl⟩
  rw [← hp] at a1 a2
  rw [← hq1, ← hq2] at b1 b2
  rw [← hw] at g1 g2
  obtain ⟨p1, p2⟩ := p
  obtain ⟨w1, w2⟩ := w
  simp at d2 d3
  simp only at a1 a2 b1 b2 g1 g2
  clear hp hq1 hq2 hw hm1 hm2 hm3 s1 s2 s3 hs hx hK tK hlK
  cases p1 <;> cases q1 <;> simp (disch := first | assumption | omega | (simp [*] <;> omega) | fail) [i_laws_FnGreedy, takeS, dropS, he, d1, a1, a2, d2, b1, b2, d3, g1, g2, kC, hn, hn', fresults, fresL, fres1]
end
theorem law_FnGreedy (cd : Value) (xs : List Int) (h : VH) (hs : Sl h cd (bys xs)) (hx : Code' xs) (hn : nro ≤ h.length) :
    vcall F nro k_laws_FnGreedy [cd] h = some (.bool true, h) := by
  have hn' := fun k => Nat.le_trans hn (Nat.le_add_right h.length k)
  have hl := hx.len
  have hb : vcall F nro k_laws_big [cd] h = some (.bool (decide (4096 < xs.length)), h) := by
    refine v_laws_big (by simp [i_laws_big]) ?_
    rw [fbody_eq]
    have e0 := hs.vlen
    simp only [bys_length] at e0
    simp (disch := first | assumption | omega | (simp [*] <;> omega) | fail) [i_laws_big, e0]
    omega
  by_cases hbig : 4096 < xs.length
  · refine v_laws_FnGreedy (by simp [i_laws_FnGreedy]) ?_
    rw [fbody_eq]
    rw [decide_eq_true hbig] at hb
    simp (disch := first | assumption | omega | (simp [*] <;> omega) | fail) [i_laws_FnGreedy, hb, hn, hn']
  · rw [decide_eq_false hbig] at hb
    refine v_laws_FnGreedy (by simp [i_laws_FnGreedy]) ?_
    rw [fbody_eq]
    rw [fcode_parts (vcall F nro) nro 1 i_laws_FnGreedy.body _ _ (by decide)]
    have p0 : ∃ e', fcode (vcall F nro) nro (takeS 1 i_laws_FnGreedy.body) (fargs [cd]) h = some (.normal, e', h) ∧ e' 0 = cd := by
      simp (disch := first | assumption | omega | (simp [*] <;> omega) | fail) [i_laws_FnGreedy, takeS, hb, hn, hn']
    obtain ⟨e0, p0, he0⟩ := p0
    rw [p0, kseq_normal, fcode_parts (vcall F nro) nro 4 (dropS 2 i_laws_FnGreedy.body) _ _ (by decide)]
    obtain ⟨e1, L1, p1, he1⟩ := greedy_A (nro := nro) hs hx hn e0 he0
    rw [p1, kseq_normal]
    have t1 : dropS (4 + 1) (dropS 2 i_laws_FnGreedy.body) = dropS 7 i_laws_FnGreedy.body := rfl
    rw [t1, fcode_parts (vcall F nro) nro 4 (dropS 7 i_laws_FnGreedy.body) _ _ (by decide)]
    obtain ⟨e2, L2, p2, he2⟩ := greedy_B (nro := nro) (hs.app L1) hx (by simp; omega) e1 he1
    rw [p2, kseq_normal]
    have t2 : dropS (4 + 1) (dropS 7 i_laws_FnGreedy.body) = dropS 12 i_laws_FnGreedy.body := rfl
    rw [t2, fcode_parts (vcall F nro) nro 4 (dropS 12 i_laws_FnGreedy.body) _ _ (by decide)]
    obtain ⟨e3, L3, p3, he3⟩ := greedy_C (nro := nro) ((hs.app L1).app L2) hx (by simp; omega) e2 he2
    rw [p3, kseq_normal]
    have t3 : dropS (4 + 1) (dropS 12 i_laws_FnGreedy.body) = dropS 17 i_laws_FnGreedy.body := rfl
    rw [t3]
    exact greedy_D (nro := nro) (((hs.app L1).app L2).app L3) hx (by simp; omega) h (by simp) e3 he3
end Go.Proofs.YtghondlbkjponaaDoor.Zv

