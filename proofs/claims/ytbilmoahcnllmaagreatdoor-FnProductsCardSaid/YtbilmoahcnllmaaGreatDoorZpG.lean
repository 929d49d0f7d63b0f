/- Part G of the proof: ZwDraw4, ZwDraw5, ZwCompl, ZwBeside, ZwCone, ZwSeqs, ZwSort, ZwSort2, ZwPdq1, ZwOrd1, ZwPdq2, ZwOrd2, ZwPdq3, ZwOrd3, ZwPdq4, ZwOrd4, ZwPdq5, ZwOrd5, ZwOrd6, ZwOrd7, ZwPdq8, ZwOrd8, ZwPdq9, ZwOrd9, ZwPdq10, ZwOrd10, ZwPdq11, ZwOrd11, ZwPdq12. Conditions: none. -/
import Derived.Sort.AssemblyPlain
import Derived.Sort.Defs
import Derived.Sort.LotA
import Derived.Sort.LotC
import Derived.Sort.LotD3
import Derived.Test.YtbilmoahcnllmaaGreatDoorZpD
import Derived.Test.YtbilmoahcnllmaaGreatDoorZpE
import Derived.Test.YtbilmoahcnllmaaGreatDoorZpF
set_option linter.unusedSimpArgs false
set_option linter.unusedVariables false
set_option linter.unusedSectionVars false
namespace Go.Proofs.YtbilmoahcnllmaaGreatDoor.Zv
/- Draws of graphs: graphs of so many vertices. -/
section
open Go
variable {nro : Nat}
theorem cleanup_one_upd {h h' L : VH} {v : Value} {k : Nat} {o : VO} (hu : Upd h h') (hv : trefs v = [h.length + k]) (hk : L[k]? = some o) (hf : flatO h.length o) :
  kclean h [v] (h' ++ L) = ([tren (renOf h.length [h.length + k]) v], h' ++ [o]) := by
 have e : keepL h.length [v] = [h.length + k] := by
  unfold keepL
  simp [hv, dedup]
 have hl : h'.length = h.length := hu.1
 have hg : (h' ++ L)[h.length + k]? = some o := by rw [← hl, hgetk]; exact hk
 have htake : (h' ++ L).take h.length = h' := by rw [← hl]; simp
 have hc : okT h.length h ((h' ++ L).take h.length) ∧ flatL h.length [h.length + k] (h' ++ L) := by
  refine ⟨by rw [htake]; exact hu.2, fun i hi => ⟨o, ?_, hf⟩⟩
  simp only [List.mem_singleton] at hi
  rw [hi]; exact hg
 unfold kclean cleanup
 rw [e, if_pos hc, htake]
 simp [hg]
theorem hgetS (H L : VH) (b : Nat) (o : VO) (k : Nat) : (H.set b o ++ L)[H.length + k]? = L[k]? := by
 rw [show H.length = (H.set b o).length by simp, hgetk]
theorem hsetS (H L : VH) (b : Nat) (o : VO) (k : Nat) (p : VO) : (H.set b o ++ L).set (H.length + k) p = H.set b o ++ L.set k p := by
 rw [show H.length = (H.set b o).length by simp, hsetk]
theorem hgetS0 (H L : VH) (b : Nat) (o : VO) : (H.set b o ++ L)[H.length]? = L[0]? := hgetS H L b o 0
theorem hsetS0 (H L : VH) (b : Nat) (o : VO) (p : VO) : (H.set b o ++ L).set H.length p = H.set b o ++ L.set 0 p := hsetS H L b o 0 p
section
variable {H : VH} {b : Nat} {cd : Value} {xs : List Int} {s : SS} (S : Srce nro H b cd xs s)
include S
def dgH (H : VH) (b : Nat) (cd : Value) (A B C : VO) (s : SS) (r : List Int) : VH := H.set b (srcO cd s) ++ [A, ⟨1, ints r⟩, B, C]
theorem dg_upd (A B C : VO) (s0 s1 : SS) (r0 r1 : List Int) : Upd (dgH H b cd A B C s0 r0) (dgH H b cd A B C s1 r1) := by
 have hlt := S.lt
 have hself : H.set b (srcO cd s) = H := hset_self S.at'
 have ho : Old H.length cd := by
  have := (S.sl (srcO cd s)).old
  rwa [hself] at this
 have h1 := ((Upd.rfl' (dgH H b cd A B C s0 r0)).set' (b := b) (o := srcO cd s1) (flatO_src (ho.le (by simp [dgH])) _)).set' (b := H.length + 1) (o := ⟨1, ints r1⟩) (flatO_ints _ _ _)
 have e : ((dgH H b cd A B C s0 r0).set b (srcO cd s1)).set (H.length + 1) ⟨1, ints r1⟩ = dgH H b cd A B C s1 r1 := by
  unfold dgH
  rw [List.set_append_left _ _ (by simpa using hlt), List.set_set, show H.length + 1 = (H.set b (srcO cd s1)).length + 1 by simp, hsetk]
  rfl
 rwa [e] at h1
theorem dg_clean {A B C : VO} {s0 s1 : SS} {r0 r1 : List Int} {vs : List Value} (hv : ∀ v ∈ vs, Old (H.length + 4) v) : kclean (dgH H b cd A B C s0 r0) vs (dgH H b cd A B C s1 r1) = (vs, dgH H b cd A B C s1 r1) := by
 have := cleanup_upd (L := []) (dg_upd S A B C s0 s1 r0 r1) (vs := vs) (fun v h => by simpa [dgH] using hv v h)
 rwa [List.append_nil] at this
theorem dg_next {A B C : VO} {s1 : SS} (h : SOK xs s1) (r : List Int) (n : Int) (h1 : n ≤ 9223372036854775807) : vcall F nro k_zz81 [.pointer (some ⟨b, 0, some 3⟩), .int .i64 n] (dgH H b cd A B C s1 r) = some (.int .i64 (srcN xs s1 n), dgH H b cd A B C (srcS xs s1 n) r) := S.nextA h _ n h1
theorem dg_put {A B C : VO} {s1 : SS} {N : Nat} {r : List Int} (hl : r.length = N) (hN : N ≤ 62) (v w : Nat) (hv : v < N) (hw : w < N) :
  vcall F nro k_zz90 [gv N (.slice (some ⟨H.length + 1, 0, none⟩) N N), .int .i64 v, .int .i64 w] (dgH H b cd A B C s1 r) = some (.tuple #[], dgH H b cd A B C s1 (put2 r v w)) := by
 have hn := S.nr
 have hlt := S.lt
 have hg : (dgH H b cd A B C s1 r)[H.length + 1]? = some ⟨1, ints r⟩ := by
  unfold dgH
  rw [show H.length + 1 = (H.set b (srcO cd s1)).length + 1 by simp, hgetk]; rfl
 rw [c_zz90 (nro := nro) N (H.length + 1) N v w r _ hg hl (by omega) (by omega) (by omega) (by omega) (by omega) hN]
 unfold dgH
 rw [show H.length + 1 = (H.set b (srcO cd s1)).length + 1 by simp, hsetk]; rfl
theorem l_l01DrawOf_1 {A B : VO} (s0 : SS) (o0 : SOK xs s0) (N : Nat) (h62 : N ≤ 62) (r0 : List Int) (g0 : GV N r0) (few : Int) (v : Nat) (hv : v < N) :
  ∃ s1 r1, SOK xs s1 ∧ GV N r1 ∧ floop (vcall F nro) nro [0, 1, 4, 5, 6, 7, 8] i_zz60_B1 (dgH H b cd A B ⟨0, [.int .i64 N, .slice (some ⟨H.length + 1, 0, none⟩) N N]⟩ s0 r0) [.pointer (some ⟨b, 0, some 3⟩), .int .i64 N, .pointer (some ⟨H.length, 0, some 2⟩), .pointer (some ⟨H.length + 3, 0, some 2⟩), .int .i64 few, .int .i64 v, .int .i64 0] (dgH H b cd A B ⟨0, [.int .i64 N, .slice (some ⟨H.length + 1, 0, none⟩) N N]⟩ s0 r0) =
   some (.exit 2, fl [(0, .pointer (some ⟨b, 0, some 3⟩)), (1, .int .i64 N), (4, .pointer (some ⟨H.length, 0, some 2⟩)), (5, .pointer (some ⟨H.length + 3, 0, some 2⟩)), (6, .int .i64 few), (7, .int .i64 v)], dgH H b cd A B ⟨0, [.int .i64 N, .slice (some ⟨H.length + 1, 0, none⟩) N N]⟩ s1 r1) := by
 have hlt := S.lt
 refine Exists.elim (for_upR (call := vcall F nro) (nro := nro) (live := [0, 1, 4, 5, 6, 7, 8]) (c := i_zz60_B1) (h0 := dgH H b cd A B ⟨0, [.int .i64 N, .slice (some ⟨H.length + 1, 0, none⟩) N N]⟩ s0 r0) (n := v) (fun w (_ : SS × List Int) => [.pointer (some ⟨b, 0, some 3⟩), .int .i64 N, .pointer (some ⟨H.length, 0, some 2⟩), .pointer (some ⟨H.length + 3, 0, some 2⟩), .int .i64 few, .int .i64 v, .int .i64 w]) (fun _ p => dgH H b cd A B ⟨0, [.int .i64 N, .slice (some ⟨H.length + 1, 0, none⟩) N N]⟩ p.1 p.2)
  (fun _ p => SOK xs p.1 ∧ GV N p.2) (fun p => some (.exit 2, fl [(0, .pointer (some ⟨b, 0, some 3⟩)), (1, .int .i64 N), (4, .pointer (some ⟨H.length, 0, some 2⟩)), (5, .pointer (some ⟨H.length + 3, 0, some 2⟩)), (6, .int .i64 few), (7, .int .i64 v)], dgH H b cd A B ⟨0, [.int .i64 N, .slice (some ⟨H.length + 1, 0, none⟩) N N]⟩ p.1 p.2)) ?_ ?_ 0 (s0, r0) (Nat.zero_le _) ⟨o0, g0⟩) ?_
 ·rintro w ⟨s1, r1⟩ hw hw2 ⟨o1, g1⟩
  dsimp only at o1 g1 ⊢
  have e1 := dg_next (nro := nro) S (A := A) (B := B) (C := ⟨0, [.int .i64 N, .slice (some ⟨H.length + 1, 0, none⟩) N N]⟩) o1 r1 N (by omega)
  have o2 := srcS_ok o1 (N : Int)
  obtain ⟨x, hx⟩ : ∃ x, x = srcN xs s1 N := ⟨_, rfl⟩
  obtain ⟨s2, hs2⟩ : ∃ q, q = srcS xs s1 N := ⟨_, rfl⟩
  rw [← hx, ← hs2] at e1
  rw [← hs2] at o2
  have w1 : IntKind.i64.wrap ((w : Int) + 1) = (w : Int) + 1 := wrap64 (by omega) (by omega)
  have hcl := fun (r : List Int) (vs : List Value) => dg_clean S (A := A) (B := B) (C := ⟨0, [.int .i64 N, .slice (some ⟨H.length + 1, 0, none⟩) N N]⟩) (s0 := s0) (s1 := s2) (r0 := r0) (r1 := r) (vs := vs)
  have hg5 : ∀ (s1 : SS) (r : List Int), (dgH H b cd A B ⟨0, [.int .i64 N, .slice (some ⟨H.length + 1, 0, none⟩) N N]⟩ s1 r)[H.length + 3]? = some ⟨0, [.int .i64 N, .slice (some ⟨H.length + 1, 0, none⟩) N N]⟩ := fun s1 r => by
   unfold dgH
   rw [show H.length + 3 = (H.set b (srcO cd s1)).length + 3 by simp, hgetk]; rfl
  have hlen : (dgH H b cd A B ⟨0, [.int .i64 N, .slice (some ⟨H.length + 1, 0, none⟩) N N]⟩ s0 r0).length = H.length + 4 := by simp [dgH]
  have hb4 : b < H.length + 4 := by omega
  by_cases c : x < few
  ·have e2 := dg_put (nro := nro) S (A := A) (B := B) (C := ⟨0, [.int .i64 N, .slice (some ⟨H.length + 1, 0, none⟩) N N]⟩) (s1 := s2) g1.rok.len h62 v w hv (by omega)
   have g2 := g1.put2 hv (show w < N by omega) (by omega)
   refine ⟨(s2, put2 r1 v w), ⟨o2, g2⟩, ?_⟩
   obtain ⟨r2, hr2⟩ : ∃ r, r = put2 r1 v w := ⟨_, rfl⟩
   rw [← hr2] at e2 ⊢
   clear hx hs2 hr2 g1 g2 g0 S
   rw [floop_at i_zz60_B1.eq_1]
   simp (disch := first | assumption | omega | (simp [*] <;> omega) | fail) [-getElem?_pos, List.getElem?_cons_zero, List.getElem?_cons_succ, hw, hw2, e1, e2, c, w1, hcl, hg5, hlen, hb4]
  ·refine ⟨(s2, r1), ⟨o2, g1⟩, ?_⟩
   clear hx hs2 g1 g0 S
   rw [floop_at i_zz60_B1.eq_1]
   simp (disch := first | assumption | omega | (simp [*] <;> omega) | fail) [-getElem?_pos, List.getElem?_cons_zero, List.getElem?_cons_succ, hw, hw2, e1, c, w1, hcl, hg5, hlen, hb4]
 ·rintro ⟨s1, r1⟩ _
  have hlen : (dgH H b cd A B ⟨0, [.int .i64 N, .slice (some ⟨H.length + 1, 0, none⟩) N N]⟩ s0 r0).length = H.length + 4 := by simp [dgH]
  rw [floop_at i_zz60_B1.eq_1]
  simp (disch := first | assumption | omega | (simp [*] <;> omega) | fail) [-getElem?_pos, List.getElem?_cons_zero, List.getElem?_cons_succ, hlen]
 ·rintro ⟨s1, r1⟩ ⟨⟨o1, g1⟩, hf⟩
  exact ⟨s1, r1, o1, g1, hf⟩
theorem l_l01DrawOf_2 {A B : VO} (s0 : SS) (o0 : SOK xs s0) (N : Nat) (h62 : N ≤ 62) (r0 : List Int) (g0 : GV N r0) (few : Int) :
  ∃ s1 r1, SOK xs s1 ∧ GV N r1 ∧ floop (vcall F nro) nro [0, 1, 4, 5, 6, 7] i_zz60_B2 (dgH H b cd A B ⟨0, [.int .i64 N, .slice (some ⟨H.length + 1, 0, none⟩) N N]⟩ s0 r0) [.pointer (some ⟨b, 0, some 3⟩), .int .i64 N, .pointer (some ⟨H.length, 0, some 2⟩), .pointer (some ⟨H.length + 3, 0, some 2⟩), .int .i64 few, .int .i64 0] (dgH H b cd A B ⟨0, [.int .i64 N, .slice (some ⟨H.length + 1, 0, none⟩) N N]⟩ s0 r0) =
   some (.exit 0, fl [(4, .pointer (some ⟨H.length, 0, some 2⟩)), (5, .pointer (some ⟨H.length + 3, 0, some 2⟩))], dgH H b cd A B ⟨0, [.int .i64 N, .slice (some ⟨H.length + 1, 0, none⟩) N N]⟩ s1 r1) := by
 have hlt := S.lt
 refine Exists.elim (for_upR (call := vcall F nro) (nro := nro) (live := [0, 1, 4, 5, 6, 7]) (c := i_zz60_B2) (h0 := dgH H b cd A B ⟨0, [.int .i64 N, .slice (some ⟨H.length + 1, 0, none⟩) N N]⟩ s0 r0) (n := N) (fun v (_ : SS × List Int) => [.pointer (some ⟨b, 0, some 3⟩), .int .i64 N, .pointer (some ⟨H.length, 0, some 2⟩), .pointer (some ⟨H.length + 3, 0, some 2⟩), .int .i64 few, .int .i64 v]) (fun _ p => dgH H b cd A B ⟨0, [.int .i64 N, .slice (some ⟨H.length + 1, 0, none⟩) N N]⟩ p.1 p.2)
  (fun _ p => SOK xs p.1 ∧ GV N p.2) (fun p => some (.exit 0, fl [(4, .pointer (some ⟨H.length, 0, some 2⟩)), (5, .pointer (some ⟨H.length + 3, 0, some 2⟩))], dgH H b cd A B ⟨0, [.int .i64 N, .slice (some ⟨H.length + 1, 0, none⟩) N N]⟩ p.1 p.2)) ?_ ?_ 0 (s0, r0) (Nat.zero_le _) ⟨o0, g0⟩) ?_
 ·rintro v ⟨s1, r1⟩ hv hv2 ⟨o1, g1⟩
  dsimp only at o1 g1 ⊢
  obtain ⟨s2, r2, o2, g2, lp⟩ := l_l01DrawOf_1 (nro := nro) S (A := A) (B := B) s1 o1 N h62 r1 g1 few v hv
  have w1 : IntKind.i64.wrap ((v : Int) + 1) = (v : Int) + 1 := wrap64 (by omega) (by omega)
  have hcl := fun (vs : List Value) => dg_clean S (A := A) (B := B) (C := ⟨0, [.int .i64 N, .slice (some ⟨H.length + 1, 0, none⟩) N N]⟩) (s0 := s0) (s1 := s2) (r0 := r0) (r1 := r2) (vs := vs)
  have hlen : ∀ s r, (dgH H b cd A B ⟨0, [.int .i64 N, .slice (some ⟨H.length + 1, 0, none⟩) N N]⟩ s r).length = H.length + 4 := fun s r => by simp [dgH]
  have hb4 : b < H.length + 4 := by omega
  refine ⟨(s2, r2), ⟨o2, g2⟩, ?_⟩
  clear g1 g2 g0 S
  rw [floop_at i_zz60_B2.eq_1]
  simp (disch := first | assumption | omega | (simp [*] <;> omega) | fail) [-getElem?_pos, List.getElem?_cons_zero, List.getElem?_cons_succ, hv, hv2, lp, w1, hcl, hlen, hb4]
 ·rintro ⟨s1, r1⟩ _
  have hlen : (dgH H b cd A B ⟨0, [.int .i64 N, .slice (some ⟨H.length + 1, 0, none⟩) N N]⟩ s0 r0).length = H.length + 4 := by simp [dgH]
  rw [floop_at i_zz60_B2.eq_1]
  simp (disch := first | assumption | omega | (simp [*] <;> omega) | fail) [-getElem?_pos, List.getElem?_cons_zero, List.getElem?_cons_succ, hlen]
 ·rintro ⟨s1, r1⟩ ⟨⟨o1, g1⟩, hf⟩
  exact ⟨s1, r1, o1, g1, hf⟩
theorem c_zz60 (N : Nat) (h1 : 1 ≤ N) (h62 : N ≤ 62) : ∃ rows s', SOK xs s' ∧ GV N rows ∧
  vcall F nro k_zz60 [.pointer (some ⟨b, 0, some 3⟩), .int .i64 N] H = some (gv N (.slice (some ⟨H.length, 0, none⟩) N N), H.set b (srcO cd s') ++ [⟨1, ints rows⟩]) := by
 have hlt := S.lt
 have hnb := S.nr
 have hn : nro ≤ H.length := by omega
 have hn' := fun k => Nat.le_trans hn (Nat.le_add_right H.length k)
 have hself : H.set b (srcO cd s) = H := hset_self S.at'
 have he := c_zz67 (nro := nro) N (H ++ [⟨0, [.int .i64 0, .slice none 0 0]⟩]) (by omega) (by omega) (by simp; omega)
 rw [Int.toNat_natCast] at he
 have o1 := srcS_ok S.ok ((5 : Nat) : Int)
 have e2 := S.pickA S.ok [⟨0, [.int .i64 0, .slice none 0 0]⟩, ⟨1, ints (List.replicate N 0)⟩, ⟨1, ints [1, 2, 3, 4, (N : Int)]⟩] 2 5 [1, 2, 3, 4, (N : Int)] rfl rfl (by omega) (by omega)
 obtain ⟨few, hfew⟩ : ∃ x, x = [1, 2, 3, 4, (N : Int)].getD (srcN xs s ((5 : Nat) : Int)).toNat 0 := ⟨_, rfl⟩
 obtain ⟨s1, hs1⟩ : ∃ q, q = srcS xs s ((5 : Nat) : Int) := ⟨_, rfl⟩
 rw [← hfew, ← hs1, hself] at e2
 rw [← hs1] at o1
 obtain ⟨s2, r2, o2, g2, lp⟩ := l_l01DrawOf_2 (nro := nro) S (A := ⟨0, [.int .i64 0, .slice none 0 0]⟩) (B := ⟨1, ints [1, 2, 3, 4, (N : Int)]⟩) s1 o1 N h62 (List.replicate N 0) (GV.zero h1 h62) few
 refine ⟨r2, s2, o2, g2, ?_⟩
 have hl2 := g2.rok.len
 have ho : Old H.length cd := by
  have := (S.sl (srcO cd s)).old
  rwa [hself] at this
 have hcl : ∀ (L : VH), L[1]? = some ⟨1, ints r2⟩ → kclean H [.agg #[.int .i64 N, .slice (some ⟨H.length + 1, 0, none⟩) N N]] (H.set b (srcO cd s2) ++ L) = ([.agg #[.int .i64 N, .slice (some ⟨H.length, 0, none⟩) N N]], H.set b (srcO cd s2) ++ [⟨1, ints r2⟩]) := fun L hL => by
  rw [cleanup_one_upd (k := 1) (o := ⟨1, ints r2⟩) ((Upd.rfl' H).set' (b := b) (flatO_src ho s2)) (by simp [trefs, vrefs, crefs, arefs]) hL (flatO_ints _ _ _)]
  simp [tren, vren, cren, aren, renOf_one]
 refine v_zz60 (by simp [i_zz60]) ?_
 rw [fbody_eq]
 unfold dgH at lp
 have hi5 : ints [1, 2, 3, 4, (N : Int)] = [.int .i64 1, .int .i64 2, .int .i64 3, .int .i64 4, .int .i64 N] := rfl
 rw [hi5] at e2 lp
 simp [-List.reduceReplicate] at he lp
 clear hfew hs1 g2 hi5 hself o1 o2 hl2 hnb
 simp (disch := first | assumption | omega | (simp [*] <;> omega) | fail) [-getElem?_pos, List.getElem?_cons_zero, List.getElem?_cons_succ, i_zz60, fresults, fresL, fres1, he, e2, lp, hgetS, hsetS, hgetS0, hsetS0, hcl, hn, hn']
end
end

/- Graphs made edge by edge: jump graphs, renumbered graphs. -/
section
open Go
variable {nro : Nat}
theorem mk_put {P C : VH} {N : Nat} {r : List Int} (hn : nro ≤ P.length) (hl : r.length = N) (hN : N ≤ 62) (v w : Nat) (hv : v < N) (hw : w < N) :
  vcall F nro k_zz90 [gv N (.slice (some ⟨P.length, 0, none⟩) N N), .int .i64 v, .int .i64 w] (P ++ ⟨1, ints r⟩ :: C) = some (.tuple #[], P ++ ⟨1, ints (put2 r v w)⟩ :: C) := by
 rw [c_zz90 (nro := nro) N P.length N v w r _ (by rw [hget0]; rfl) hl hn (by omega) (by omega) (by omega) (by omega) hN, hset0]
 rfl
theorem mk_upd (P C : VH) (r0 r1 : List Int) : Upd (P ++ ⟨1, ints r0⟩ :: C) (P ++ ⟨1, ints r1⟩ :: C) := by
 have h1 := (Upd.rfl' (P ++ ⟨1, ints r0⟩ :: C)).set' (b := P.length) (o := ⟨1, ints r1⟩) (flatO_ints _ _ _)
 rwa [hset0] at h1
theorem mk_clean {P C : VH} {r0 r1 : List Int} {vs : List Value} (hv : ∀ v ∈ vs, Old (P ++ ⟨1, ints r0⟩ :: C).length v) : kclean (P ++ ⟨1, ints r0⟩ :: C) vs (P ++ ⟨1, ints r1⟩ :: C) = (vs, P ++ ⟨1, ints r1⟩ :: C) := by
 have := cleanup_upd (L := []) (mk_upd P C r0 r1) (vs := vs) hv
 rwa [List.append_nil] at this
theorem l_l01Jumps (h : VH) (t : Value) (js : List Int) (ht : Sli h t js) (hn : nro ≤ h.length) (N : Nat) (h3 : 3 ≤ N) (h62 : N ≤ 62) (hj : ∀ x ∈ js, 1 ≤ x ∧ x < N) (hjl : js.length ≤ 100) (r0 : List Int) (g0 : GV N r0) :
  ∃ r1, GV N r1 ∧ floop (vcall F nro) nro [0, 1, 4, 5, 6] i_zz68_B1 (h ++ [⟨0, [.int .i64 0, .slice none 0 0]⟩, ⟨1, ints r0⟩, ⟨0, [.int .i64 N, .slice (some ⟨h.length + 1, 0, none⟩) N N]⟩]) [.int .i64 N, t, .pointer (some ⟨h.length, 0, some 2⟩), .pointer (some ⟨h.length + 2, 0, some 2⟩), .int .i64 0] (h ++ [⟨0, [.int .i64 0, .slice none 0 0]⟩, ⟨1, ints r0⟩, ⟨0, [.int .i64 N, .slice (some ⟨h.length + 1, 0, none⟩) N N]⟩]) =
   some (.exit 0, fl [(4, .pointer (some ⟨h.length, 0, some 2⟩)), (5, .pointer (some ⟨h.length + 2, 0, some 2⟩))], h ++ [⟨0, [.int .i64 0, .slice none 0 0]⟩, ⟨1, ints r1⟩, ⟨0, [.int .i64 N, .slice (some ⟨h.length + 1, 0, none⟩) N N]⟩]) := by
 have hto : ∀ k, Old (h.length + k) t := fun k => ht.oldk (k := k)
 have e0 := fun L => ht.vlen' (L := L)
 refine Exists.elim (for_upR (call := vcall F nro) (nro := nro) (live := [0, 1, 4, 5, 6]) (c := i_zz68_B1) (h0 := h ++ [⟨0, [.int .i64 0, .slice none 0 0]⟩, ⟨1, ints r0⟩, ⟨0, [.int .i64 N, .slice (some ⟨h.length + 1, 0, none⟩) N N]⟩]) (n := N) (fun i (_ : List Int) => [.int .i64 N, t, .pointer (some ⟨h.length, 0, some 2⟩), .pointer (some ⟨h.length + 2, 0, some 2⟩), .int .i64 i]) (fun _ r => h ++ [⟨0, [.int .i64 0, .slice none 0 0]⟩, ⟨1, ints r⟩, ⟨0, [.int .i64 N, .slice (some ⟨h.length + 1, 0, none⟩) N N]⟩])
  (fun _ r => GV N r) (fun r => some (.exit 0, fl [(4, .pointer (some ⟨h.length, 0, some 2⟩)), (5, .pointer (some ⟨h.length + 2, 0, some 2⟩))], h ++ [⟨0, [.int .i64 0, .slice none 0 0]⟩, ⟨1, ints r⟩, ⟨0, [.int .i64 N, .slice (some ⟨h.length + 1, 0, none⟩) N N]⟩])) ?_ ?_ 0 r0 (Nat.zero_le _) g0) ?_
 ·intro i r1 hi hi2 g1
  have w1 : IntKind.i64.wrap ((i : Int) + 1) = (i : Int) + 1 := wrap64 (by omega) (by omega)
  obtain ⟨k, hk⟩ : ∃ k : Nat, k = (i + 1) % N := ⟨_, rfl⟩
  have hkN : k < N := by rw [hk]; exact Nat.mod_lt _ (by omega)
  have hki : i ≠ k := by
   rw [hk]
   by_cases c : i + 1 = N
   ·rw [c, Nat.mod_self]; omega
   ·rw [Nat.mod_eq_of_lt (by omega)]; omega
  have q1 : IntKind.i64.wrap (((i : Int) + 1) % N) = k := by
   have : ((i : Int) + 1) % N = k := by rw [hk]; simp
   rw [this]; exact wrap64 (by omega) (by omega)
  have t1 : ((i : Int) + 1).tmod N = k := by rw [Int.tmod_eq_emod_of_nonneg (by omega), hk]; simp
  have e1 := mk_put (nro := nro) (P := h ++ [⟨0, [.int .i64 0, .slice none 0 0]⟩]) (C := [⟨0, [.int .i64 N, .slice (some ⟨h.length + 1, 0, none⟩) N N]⟩]) (by simp; omega) g1.rok.len h62 i k hi hkN
  have g2 := g1.put2 hi hkN hki
  obtain ⟨r2, hr2⟩ : ∃ r, r = put2 r1 i k := ⟨_, rfl⟩
  rw [← hr2] at e1 g2
  simp at e1
  have hN0 : ¬ (N : Int) = 0 := by omega
  have hcl := fun (r : List Int) (vs : List Value) => mk_clean (P := h ++ [⟨0, [.int .i64 0, .slice none 0 0]⟩]) (C := [⟨0, [.int .i64 N, .slice (some ⟨h.length + 1, 0, none⟩) N N]⟩]) (r0 := r0) (r1 := r) (vs := vs)
  simp only [List.append_assoc, List.cons_append, List.nil_append, List.length_append, List.length_cons, List.length_nil] at hcl
  by_cases c : js.length = 0
  ·have c' : ¬ 0 < js.length := by omega
   refine ⟨r2, g2, ?_⟩
   clear hk hr2 g1 g2 g0
   rw [floop_at i_zz68_B1.eq_1]
   simp (disch := first | assumption | omega | (simp [*] <;> omega) | fail) [hi, hi2, e0, e1, c', w1, q1, t1, hN0, hcl, hto]
  ·have c' : 0 < js.length := by omega
   obtain ⟨m, hm⟩ : ∃ m : Nat, m = i % js.length := ⟨_, rfl⟩
   have hml : m < js.length := by rw [hm]; exact Nat.mod_lt _ (by omega)
   have q2 : IntKind.i64.wrap ((i : Int) % js.length) = m := by
    have : ((i : Int)) % js.length = m := by rw [hm]; simp
    rw [this]; exact wrap64 (by omega) (by omega)
   have t2 : (i : Int).tmod js.length = m := by rw [Int.tmod_eq_emod_of_nonneg (by omega), hm]; simp
   have w4 : IntKind.i64.wrap (m : Int) = m := wrap64 (by omega) (by omega)
   have e2 := fun L => ht.vidx' (L := L) (k := .i64) (j := (m : Int)) (by omega) (by omega)
   have e3 := fun L => ht.vload' (L := L) (j := m) hml
   obtain ⟨y1, y2⟩ := hj js[m] (List.getElem_mem hml)
   obtain ⟨y, hy⟩ : ∃ y : Nat, js[m] = y := ⟨js[m].toNat, by omega⟩
   rw [hy] at y1 y2
   simp only [hy] at e3
   obtain ⟨z, hz⟩ : ∃ z : Nat, z = (i + y) % N := ⟨_, rfl⟩
   have hzN : z < N := by rw [hz]; exact Nat.mod_lt _ (by omega)
   have hzi : i ≠ z := by
    rw [hz]
    by_cases c : i + y < N
    ·rw [Nat.mod_eq_of_lt c]; omega
    ·rw [Nat.mod_eq_sub_mod (by omega), Nat.mod_eq_of_lt (by omega)]; omega
   have w2 : IntKind.i64.wrap ((i : Int) + y) = (i : Int) + y := wrap64 (by omega) (by omega)
   have q3 : IntKind.i64.wrap (((i : Int) + y) % N) = z := by
    have : ((i : Int) + y) % N = z := by rw [hz]; simp
    rw [this]; exact wrap64 (by omega) (by omega)
   have t3 : ((i : Int) + y).tmod N = z := by rw [Int.tmod_eq_emod_of_nonneg (by omega), hz]; simp
   have e4 := mk_put (nro := nro) (P := h ++ [⟨0, [.int .i64 0, .slice none 0 0]⟩]) (C := [⟨0, [.int .i64 N, .slice (some ⟨h.length + 1, 0, none⟩) N N]⟩]) (by simp; omega) g2.rok.len h62 i z hi hzN
   have g3 := g2.put2 hi hzN hzi
   obtain ⟨r3, hr3⟩ : ∃ r, r = put2 r2 i z := ⟨_, rfl⟩
   rw [← hr3] at e4 g3
   simp at e4
   have hj0 : ¬ (js.length : Int) = 0 := by omega
   refine ⟨r3, g3, ?_⟩
   clear hk hr2 hr3 g1 g2 g3 g0 hm hz hj hy
   rw [floop_at i_zz68_B1.eq_1]
   simp (disch := first | assumption | omega | (simp [*] <;> omega) | fail) [hi, hi2, e0, e1, e2, e3, e4, c', w1, w2, q1, q2, q3, t1, t2, t3, w4, hN0, hj0, hcl, hto]
 ·intro r1 _
  rw [floop_at i_zz68_B1.eq_1]
  simp (disch := first | assumption | omega | (simp [*] <;> omega) | fail) [hto]
 ·rintro r1 ⟨g1, hf⟩
  exact ⟨r1, g1, hf⟩
theorem c_zz68 (h : VH) (t : Value) (js : List Int) (ht : Sli h t js) (hn : nro ≤ h.length) (N : Nat) (h3 : 3 ≤ N) (h62 : N ≤ 62) (hj : ∀ x ∈ js, 1 ≤ x ∧ x < N) (hjl : js.length ≤ 100) :
  ∃ rows, GV N rows ∧ vcall F nro k_zz68 [.int .i64 N, t] h = some (gv N (.slice (some ⟨h.length, 0, none⟩) N N), h ++ [⟨1, ints rows⟩]) := by
 have hn' := fun k => Nat.le_trans hn (Nat.le_add_right h.length k)
 have he := c_zz67 (nro := nro) N (h ++ [⟨0, [.int .i64 0, .slice none 0 0]⟩]) (by omega) (by omega) (by simp; omega)
 rw [Int.toNat_natCast] at he
 obtain ⟨r1, g1, lp⟩ := l_l01Jumps (nro := nro) h t js ht hn N h3 h62 hj hjl (List.replicate N 0) (GV.zero (by omega) h62)
 have hl := g1.rok.len
 refine ⟨r1, g1, ?_⟩
 refine v_zz68 (by simp [i_zz68]) ?_
 rw [fbody_eq]
 simp [-List.reduceReplicate] at he
 clear g1
 simp (disch := first | assumption | omega | (simp [*] <;> omega) | fail) [i_zz68, he, lp, hl, fresults, fresL, fres1, hn', hn]
end

/- Complements of graphs. -/
section
open Go
variable {nro : Nat}
def cmpR (N : Nat) (x v : Nat) : Nat := 2 ^ N - 1 - x - 2 ^ v
theorem cmpR_bit {N x v : Nat} (hx : x < 2 ^ N) (hv : v < N) (hb : x.testBit v = false) (w : Nat) : (cmpR N x v).testBit w = (decide (w < N) && !x.testBit w && decide (w ≠ v)) := by
 have e : 2 ^ N - 1 - x = 2 ^ N - (x + 1) := by omega
 have h1 : ∀ w, (2 ^ N - 1 - x).testBit w = (decide (w < N) && !x.testBit w) := fun w => by rw [e, Nat.testBit_two_pow_sub_succ hx]
 have h2 : (2 ^ N - 1 - x).testBit v = true := by rw [h1, hb]; simp [hv]
 unfold cmpR
 rw [(sub_bit h2).2, h1]
theorem cmpR_le {N x v : Nat} (hx : x < 2 ^ N) (hv : v < N) (hb : x.testBit v = false) : 2 ^ v ≤ 2 ^ N - 1 - x ∧ cmpR N x v < 2 ^ N := by
 have e : 2 ^ N - 1 - x = 2 ^ N - (x + 1) := by omega
 have h2 : (2 ^ N - 1 - x).testBit v = true := by rw [e, Nat.testBit_two_pow_sub_succ hx, hb]; simp [hv]
 refine ⟨(sub_bit h2).1, ?_⟩
 unfold cmpR
 have h3 := Nat.two_pow_pos N
 refine Nat.lt_of_le_of_lt (Nat.sub_le _ _) ?_
 obtain ⟨q, hq⟩ : ∃ q, q = 2 ^ N := ⟨_, rfl⟩
 rw [← hq] at h3 ⊢
 omega
def cmpG (rows : List Int) (N v : Nat) : Int := cmpR N (rows.getD v 0).toNat v
theorem GV.compl {N : Nat} {rows : List Int} (g : GV N rows) : GV N (tbl N (cmpG rows N)) := by
 have R := g.rok
 have hlo := g.lo
 have hl := g.len
 have nob : ∀ v, v < N → (rows.getD v 0).toNat.testBit v = false := fun v hv => (g.row v (by omega)).2.2
 have bit : ∀ v w, v < N → rbit (tbl N (cmpG rows N)) v w = (decide (w < N) && !rbit rows v w && decide (w ≠ v)) := fun v w hv => by
  unfold rbit
  rw [tbl_getD hv]
  unfold cmpG
  rw [Int.toNat_natCast]
  exact cmpR_bit (R.row v hv).2 hv (nob v hv) w
 refine ⟨by omega, g.hi, by simp, fun v hv => ?_, fun v w hv hw => ?_⟩
 ·rw [tbl_length] at hv
  refine ⟨?_, ?_, ?_⟩
  ·rw [tbl_getD hv]; unfold cmpG; omega
  ·rw [tbl_getD hv]
   unfold cmpG
   have := (cmpR_le (R.row v hv).2 hv (nob v hv)).2
   have e : ((2 ^ N : Nat) : Int) = (2 : Int) ^ ((N : Int).toNat) := by simp
   rw [← e]; omega
  ·rw [bit v v hv]; simp
 ·rw [tbl_length] at hv hw
  rw [bit v w hv, bit w v hw, g.sym v w (by omega) (by omega)]
  simp [hv, hw, eq_comm]
def cpH (h : VH) (N : Nat) (s : Value) (f : Nat → Int) : VH := (h ++ [⟨0, [.int .i64 N, s]⟩, ⟨0, [.int .i64 0, .slice none 0 0]⟩]) ++ [⟨1, ints (tbl N f)⟩, ⟨0, [.int .i64 N, .slice (some ⟨h.length + 2, 0, none⟩) N N]⟩]
theorem l_l01Complement (h : VH) (N : Nat) (s : Value) (rows : List Int) (hs : Sli h s rows) (g : GV N rows) (hn : nro ≤ h.length) :
  floop (vcall F nro) nro [1, 2, 3, 4] i_zz32_B1 (cpH h N s (fun _ => 0)) [.pointer (some ⟨h.length, 0, some 2⟩), .pointer (some ⟨h.length + 1, 0, some 2⟩), .pointer (some ⟨h.length + 3, 0, some 2⟩), .int .i64 0] (cpH h N s (fun _ => 0)) =
   some (.exit 0, fl [(2, .pointer (some ⟨h.length + 1, 0, some 2⟩)), (3, .pointer (some ⟨h.length + 3, 0, some 2⟩))], cpH h N s (cmpG rows N)) := by
 have hle := g.rok.le
 have R := g.rok
 have hlen := R.len
 have hgl := g.len
 have hso := fun k => hs.oldCk (k := k)
 have hn' := fun k => Nat.le_trans hn (Nat.le_add_right h.length k)
 refine Exists.elim (for_upR (call := vcall F nro) (nro := nro) (live := [1, 2, 3, 4]) (c := i_zz32_B1) (h0 := cpH h N s (fun _ => 0)) (n := N) (fun v (_ : Nat → Int) => [.pointer (some ⟨h.length, 0, some 2⟩), .pointer (some ⟨h.length + 1, 0, some 2⟩), .pointer (some ⟨h.length + 3, 0, some 2⟩), .int .i64 v]) (fun _ f => cpH h N s f)
  (fun v f => ∀ w, w < v → f w = cmpG rows N w) (fun f => some (.exit 0, fl [(2, .pointer (some ⟨h.length + 1, 0, some 2⟩)), (3, .pointer (some ⟨h.length + 3, 0, some 2⟩))], cpH h N s f)) ?_ ?_ 0 (fun _ => 0) (Nat.zero_le _) (fun w hw => by omega)) ?_
 ·intro v f hv hv2 hf
  have hb : (rows.getD v 0).toNat.testBit v = false := (g.row v (by omega)).2.2
  obtain ⟨r1, r2⟩ := R.row v hv
  obtain ⟨c1, c2⟩ := cmpR_le r2 hv hb
  have w1 : IntKind.i64.wrap ((v : Int) + 1) = (v : Int) + 1 := wrap64 (by omega) (by omega)
  have e1 := fun L => hs.vidx' (L := L) (k := .i64) (j := (v : Int)) (by omega) (by omega)
  have e2 := fun L => hs.vload' (L := L) (j := v) (by omega)
  have ex : rows[v]'(by omega) = rows.getD v 0 := (getD_at rows (by omega)).symm
  simp only [ex] at e2
  obtain ⟨x, hx⟩ : ∃ x : Nat, rows.getD v 0 = x := ⟨(rows.getD v 0).toNat, by omega⟩
  have hg : cmpG rows N v = cmpR N x v := by unfold cmpG; rw [hx, Int.toNat_natCast]
  rw [hx] at e2 r2 hb
  rw [hx, Int.toNat_natCast] at c1 c2
  rw [Int.toNat_natCast] at r2
  have p62 : 2 ^ N ≤ 4611686018427387904 := by
   have := Nat.pow_le_pow_right (show 0 < 2 by omega) hle
   exact Nat.le_trans this (by decide)
  have s1 : ishl .i64 1 (N : Int) = ((2 ^ N : Nat) : Int) := by rw [ishl_one' (by omega) (by omega), Int.toNat_natCast]; simp
  have s2 : ishl .i64 1 (v : Int) = ((2 ^ v : Nat) : Int) := by rw [ishl_one' (by omega) (by omega), Int.toNat_natCast]; simp
  have u1 : IntKind.u64.wrap (N : Int) = N := wrapu64 (by omega) (by omega)
  have u2 : IntKind.u64.wrap (v : Int) = v := wrapu64 (by omega) (by omega)
  unfold cmpR at hg c2
  obtain ⟨A, hA⟩ : ∃ A, A = 2 ^ N := ⟨_, rfl⟩
  obtain ⟨B, hB⟩ : ∃ B, B = 2 ^ v := ⟨_, rfl⟩
  rw [← hA] at s1 r2 c1 c2 p62 hg
  rw [← hB] at s2 c1 c2 hg
  have t1 : IntKind.i64.wrap ((A : Int) - 1) = (A : Int) - 1 := wrap64 (by omega) (by omega)
  have t2 : IntKind.i64.wrap ((A : Int) - 1 - x) = (A : Int) - 1 - x := wrap64 (by omega) (by omega)
  have t3 : IntKind.i64.wrap ((A : Int) - 1 - x - B) = cmpG rows N v := by rw [hg, wrap64 (by omega) (by omega)]; omega
  obtain ⟨y, hy⟩ : ∃ y, y = cmpG rows N v := ⟨_, rfl⟩
  rw [← hy] at t3
  have hsp : splice v [.int .i64 y] (ints (tbl N f)) = ints (tbl N (upd f v y)) := tbl_splice hv
  have hcl := fun (r : List Int) (vs : List Value) => mk_clean (P := h ++ [⟨0, [.int .i64 N, s]⟩, ⟨0, [.int .i64 0, .slice none 0 0]⟩]) (C := [⟨0, [.int .i64 N, .slice (some ⟨h.length + 2, 0, none⟩) N N]⟩]) (r0 := tbl N fun _ => 0) (r1 := r) (vs := vs)
  refine ⟨upd f v y, fun w hw => ?_, ?_⟩
  ·by_cases e : w = v
   ·rw [e, upd_same, hy]
   ·rw [upd_ne e]; exact hf w (by omega)
  ·unfold cpH
   simp only [List.append_assoc, List.cons_append, List.nil_append, List.length_append, List.length_cons, List.length_nil] at hcl ⊢
   clear hg hA hB hy hx g R hf hb r1 r2 c1 c2 p62 ex hlen hgl
   rw [floop_at i_zz32_B1.eq_1]
   simp (disch := first | assumption | omega | (simp [*] <;> omega) | fail) [hv, hv2, e1, e2, s1, s2, u1, u2, t1, t2, t3, w1, hsp, hcl, hso, hn', hn]
 ·intro f _
  unfold cpH
  rw [floop_at i_zz32_B1.eq_1]
  simp (disch := first | assumption | omega | (simp [*] <;> omega) | fail) [hso]
 ·rintro f ⟨hf, e⟩
  refine Eq.trans e ?_
  have : tbl N f = tbl N (cmpG rows N) := tbl_congr hf
  unfold cpH
  rw [this]
theorem c_zz32 (h : VH) (N : Nat) (s : Value) (rows : List Int) (hs : Sli h s rows) (g : GV N rows) (hn : nro ≤ h.length) :
  vcall F nro k_zz32 [gv N s] h = some (gv N (.slice (some ⟨h.length, 0, none⟩) N N), h ++ [⟨1, ints (tbl N (cmpG rows N))⟩]) := by
 have hn' := fun k => Nat.le_trans hn (Nat.le_add_right h.length k)
 have hle := g.rok.le
 have hlo := g.lo
 have hso := fun k => hs.oldCk (k := k)
 have he := c_zz67 (nro := nro) N (h ++ [⟨0, [.int .i64 N, s]⟩, ⟨0, [.int .i64 0, .slice none 0 0]⟩]) (by omega) (by omega) (by simp; omega)
 rw [Int.toNat_natCast, ← tbl_const] at he
 have lp := l_l01Complement (nro := nro) h N s rows hs g hn
 refine v_zz32 (by simp [i_zz32]) ?_
 rw [fbody_eq]
 simp only [List.append_assoc, List.cons_append, List.nil_append, List.length_append, List.length_cons, List.length_nil] at he
 unfold cpH at lp
 simp only [List.append_assoc, List.cons_append, List.nil_append] at lp
 clear g
 simp (disch := first | assumption | omega | (simp [*] <;> omega) | fail) [i_zz32, he, lp, hso, fresults, fresL, fres1, hn', hn]
end

/- Two graphs beside each other. -/
section
open Go
variable {nro : Nat}
def bsR (r1 r2 : List Int) (n : Nat) (v : Nat) : List Int := r1 ++ tbl v (fun w => ((r2.getD w 0).toNat * 2 ^ n : Nat))
theorem bsR_len (r1 r2 : List Int) (n v : Nat) : (bsR r1 r2 n v).length = r1.length + v := by simp [bsR]
theorem bsR_next (r1 r2 : List Int) (n v : Nat) : ints (bsR r1 r2 n v) ++ [.int .i64 (((r2.getD v 0).toNat * 2 ^ n : Nat) : Int)] = ints (bsR r1 r2 n (v + 1)) := by
 unfold bsR
 rw [← tbl_snoc, ← List.append_assoc]
 simp [ints]
theorem GV.beside {n m : Nat} {r1 r2 : List Int} (g1 : GV n r1) (g2 : GV m r2) (h : n + m ≤ 62) : GV (n + m : Nat) (bsR r1 r2 n m) := by
 have R1 := g1.rok
 have R2 := g2.rok
 have l1 := R1.len
 have l2 := R2.len
 have lo := g1.lo
 have at1 : ∀ v, v < n → (bsR r1 r2 n m).getD v 0 = r1.getD v 0 := fun v hv => by
  unfold bsR
  rw [List.getD_eq_getElem?_getD, List.getElem?_append_left (by omega), List.getD_eq_getElem?_getD]
 have at2 : ∀ v, v < m → (bsR r1 r2 n m).getD (n + v) 0 = (((r2.getD v 0).toNat * 2 ^ n : Nat) : Int) := fun v hv => by
  unfold bsR
  rw [List.getD_eq_getElem?_getD, List.getElem?_append_right (by omega), l1, Nat.add_sub_cancel_left, ← List.getD_eq_getElem?_getD, tbl_getD hv]
 have b1 : ∀ v w, v < n → rbit (bsR r1 r2 n m) v w = rbit r1 v w := fun v w hv => by unfold rbit; rw [at1 v hv]
 have b2 : ∀ v w, v < m → rbit (bsR r1 r2 n m) (n + v) w = (decide (n ≤ w) && rbit r2 v (w - n)) := fun v w hv => by
  unfold rbit
  rw [at2 v hv, Int.toNat_natCast, Nat.testBit_mul_two_pow]
 have z1 : ∀ v w, n ≤ w → rbit r1 v w = false := fun v w hw => by
  cases hb : rbit r1 v w
  ·rfl
  ·have := (rbit_lt R1 hb).2; omega
 have p : ∀ k : Nat, ((2 ^ k : Nat) : Int) = (2 : Int) ^ ((k : Int).toNat) := fun k => by simp
 refine ⟨by omega, by omega, by rw [bsR_len, l1], fun v hv => ?_, fun v w hv hw => ?_⟩
 ·rw [bsR_len, l1] at hv
  by_cases c : v < n
  ·obtain ⟨a1, a2, a3⟩ := g1.row v (by omega)
   refine ⟨by rw [at1 v c]; exact a1, ?_, by rw [b1 v v c]; exact a3⟩
   rw [at1 v c]
   have := (R1.row v c).2
   have h3 := Nat.pow_le_pow_right (show 0 < 2 by omega) (show n ≤ n + m by omega)
   rw [← p]; omega
  ·obtain ⟨u, rfl⟩ : ∃ u, v = n + u := ⟨v - n, by omega⟩
   have hu : u < m := by omega
   refine ⟨by rw [at2 u hu]; omega, ?_, ?_⟩
   ·rw [at2 u hu, ← p]
    have := (R2.row u hu).2
    have h3 : (r2.getD u 0).toNat * 2 ^ n < 2 ^ m * 2 ^ n := Nat.mul_lt_mul_of_pos_right this (Nat.two_pow_pos n)
    rw [← Nat.pow_add, Nat.add_comm m n] at h3
    omega
   ·rw [b2 u _ hu, Nat.add_sub_cancel_left, (g2.row u (by omega)).2.2, Bool.and_false]
 ·rw [bsR_len, l1] at hv hw
  by_cases c : v < n <;> by_cases e : w < n
  ·rw [b1 v w c, b1 w v e, g1.sym v w (by omega) (by omega)]
  ·obtain ⟨u, rfl⟩ : ∃ u, w = n + u := ⟨w - n, by omega⟩
   rw [b1 v _ c, b2 u v (by omega), z1 v _ (by omega)]
   simp; omega
  ·obtain ⟨u, rfl⟩ : ∃ u, v = n + u := ⟨v - n, by omega⟩
   rw [b1 w _ e, b2 u w (by omega), z1 w _ (by omega)]
   simp; omega
  ·obtain ⟨u, rfl⟩ : ∃ u, v = n + u := ⟨v - n, by omega⟩
   obtain ⟨u', rfl⟩ : ∃ u, w = n + u := ⟨w - n, by omega⟩
   rw [b2 u _ (by omega), b2 u' _ (by omega), Nat.add_sub_cancel_left, Nat.add_sub_cancel_left, g2.sym u u' (by omega) (by omega)]
   simp
def bsH (h : VH) (n m : Nat) (s1 s2 : Value) (r1 r2 : List Int) (v : Nat) : VH := h ++ [⟨0, [.int .i64 n, s1]⟩, ⟨0, [.int .i64 m, s2]⟩, ⟨0, [.int .i64 0, .slice none 0 0]⟩, ⟨1, ints (bsR r1 r2 n v)⟩, ⟨0, [.int .i64 ((n : Int) + m), .slice (some ⟨h.length + 3, 0, none⟩) (n + v) (n + v)]⟩]
theorem bs_upd (h : VH) (n m : Nat) (s1 s2 : Value) (r1 r2 : List Int) (v w : Nat) : Upd (bsH h n m s1 s2 r1 r2 v) (bsH h n m s1 s2 r1 r2 w) := by
 have h1 := ((Upd.rfl' (bsH h n m s1 s2 r1 r2 v)).set' (b := h.length + 3) (o := ⟨1, ints (bsR r1 r2 n w)⟩) (flatO_ints _ _ _)).set' (b := h.length + 4) (o := ⟨0, [.int .i64 ((n : Int) + m), .slice (some ⟨h.length + 3, 0, none⟩) (n + w) (n + w)]⟩) (by
  intro r hr
  simp [orefs, crefs, arefs] at hr
  simp [bsH]; omega)
 unfold bsH at *
 rw [hsetk, hsetk] at h1
 exact h1
theorem l_l01Beside (h : VH) (n m : Nat) (s1 s2 : Value) (r1 r2 : List Int) (hs1 : Sli h s1 r1) (hs2 : Sli h s2 r2) (g1 : GV n r1) (g2 : GV m r2) (h62 : n + m ≤ 62) (hn : nro ≤ h.length) :
  floop (vcall F nro) nro [2, 3, 4, 5, 6] i_zz59_B1 (bsH h n m s1 s2 r1 r2 0) [.pointer (some ⟨h.length, 0, some 2⟩), .pointer (some ⟨h.length + 1, 0, some 2⟩), .pointer (some ⟨h.length + 2, 0, some 2⟩), .pointer (some ⟨h.length + 4, 0, some 2⟩), .int .i64 0] (bsH h n m s1 s2 r1 r2 0) =
   some (.exit 0, fl [(4, .pointer (some ⟨h.length + 2, 0, some 2⟩)), (5, .pointer (some ⟨h.length + 4, 0, some 2⟩))], bsH h n m s1 s2 r1 r2 m) := by
 have R1 := g1.rok
 have R2 := g2.rok
 have l1 := R1.len
 have l2 := R2.len
 have hso1 := fun k => hs1.oldCk (k := k)
 have hso2 := fun k => hs2.oldCk (k := k)
 have hn' := fun k => Nat.le_trans hn (Nat.le_add_right h.length k)
 refine (for_up (call := vcall F nro) (nro := nro) (live := [2, 3, 4, 5, 6]) (c := i_zz59_B1) (h0 := bsH h n m s1 s2 r1 r2 0) (n := m) (fun v (_ : Unit) => [.pointer (some ⟨h.length, 0, some 2⟩), .pointer (some ⟨h.length + 1, 0, some 2⟩), .pointer (some ⟨h.length + 2, 0, some 2⟩), .pointer (some ⟨h.length + 4, 0, some 2⟩), .int .i64 v]) (fun v _ => bsH h n m s1 s2 r1 r2 v) (fun _ u => u)
  (fun _ _ => True) (fun _ => some (.exit 0, fl [(4, .pointer (some ⟨h.length + 2, 0, some 2⟩)), (5, .pointer (some ⟨h.length + 4, 0, some 2⟩))], bsH h n m s1 s2 r1 r2 m)) ?_ ?_ 0 () (Nat.zero_le _) trivial).1
 ·intro v _ hv hv2 _
  refine ⟨trivial, ?_⟩
  have w1 : IntKind.i64.wrap ((v : Int) + 1) = (v : Int) + 1 := wrap64 (by omega) (by omega)
  have e1 := fun L => hs2.vidx' (L := L) (k := .i64) (j := (v : Int)) (by omega) (by omega)
  have e2 := fun L => hs2.vload' (L := L) (j := v) (by omega)
  have ex : r2[v]'(by omega) = r2.getD v 0 := (getD_at r2 (by omega)).symm
  simp only [ex] at e2
  obtain ⟨q1, q2⟩ := R2.row v hv
  obtain ⟨x, hx⟩ : ∃ x : Nat, r2.getD v 0 = x := ⟨(r2.getD v 0).toNat, by omega⟩
  have hnx := bsR_next r1 r2 n v
  rw [hx, Int.toNat_natCast] at hnx q2
  rw [hx] at e2
  have hlt : x * 2 ^ n < 4611686018427387904 := by
   have h3 : x * 2 ^ n < 2 ^ m * 2 ^ n := Nat.mul_lt_mul_of_pos_right q2 (Nat.two_pow_pos n)
   rw [← Nat.pow_add] at h3
   have h4 := Nat.pow_le_pow_right (show 0 < 2 by omega) (show m + n ≤ 62 by omega)
   exact Nat.lt_of_lt_of_le h3 (Nat.le_trans h4 (by decide))
  have sh : ishl .i64 (x : Int) (n : Int) = ((x * 2 ^ n : Nat) : Int) := by
   rw [ishl_eq]
   have e : min ((n : Int).toNat) IntKind.i64.bits = n := by
    have : IntKind.i64.bits = 64 := rfl
    rw [this]; omega
   rw [e]
   have e2 : (x : Int) * 2 ^ n = ((x * 2 ^ n : Nat) : Int) := by simp
   rw [e2]
   exact wrap64 (by omega) (by omega)
  have u1 : IntKind.u64.wrap (n : Int) = n := wrapu64 (by omega) (by omega)
  have hbl := bsR_len r1 r2 n v
  have hbl2 := bsR_len r1 r2 n (v + 1)
  rw [l1] at hbl hbl2
  obtain ⟨y, hy⟩ : ∃ y, y = x * 2 ^ n := ⟨_, rfl⟩
  rw [← hy] at sh hnx
  have hcl := fun (L : VH) (vs : List Value) => cleanup_upd (bs_upd h n m s1 s2 r1 r2 0 (v + 1)) (L := L) (vs := vs)
  have ea : n + (v + 1) = n + v + 1 := rfl
  have c1 : ((n + v + 1) * 8 ≤ 1099511627776) = True := by simp; omega
  have c2 : (n + v < 1099511627776) = True := by simp; omega
  unfold bsH at hcl ⊢
  obtain ⟨Q, hQ⟩ : ∃ Q, Q = bsR r1 r2 n v := ⟨_, rfl⟩
  obtain ⟨Q2, hQ2⟩ : ∃ Q, Q = bsR r1 r2 n (v + 1) := ⟨_, rfl⟩
  rw [← hQ] at hnx hbl ⊢
  rw [← hQ2] at hnx hcl hbl2 ⊢
  clear hQ hQ2 hx hy hlt ex R1 R2 g1 g2 q1 q2 l1 l2
  rw [floop_at i_zz59_B1.eq_1]
  simp (disch := first | assumption | omega | (simp [*] <;> omega) | fail) [hv, hv2, e1, e2, sh, u1, w1, hnx, hbl, hbl2, hcl, c1, c2, hso1, hso2, hn', hn, ea]
 ·intro _ _
  unfold bsH
  rw [floop_at i_zz59_B1.eq_1]
  simp (disch := first | assumption | omega | (simp [*] <;> omega) | fail) [hso1, hso2]
theorem c_zz59 (h : VH) (n m : Nat) (s1 s2 : Value) (r1 r2 : List Int) (hs1 : Sli h s1 r1) (hs2 : Sli h s2 r2) (g1 : GV n r1) (g2 : GV m r2) (h62 : n + m ≤ 62) (hn : nro ≤ h.length) :
  vcall F nro k_zz59 [gv n s1, gv m s2] h = some (gv ((n : Int) + m) (.slice (some ⟨h.length, 0, none⟩) (n + m) (n + m)), h ++ [⟨1, ints (bsR r1 r2 n m)⟩]) := by
 have hn' := fun k => Nat.le_trans hn (Nat.le_add_right h.length k)
 have l1 := g1.rok.len
 have hso1 := fun k => hs1.oldCk (k := k)
 have hso2 := fun k => hs2.oldCk (k := k)
 have he := c_zz89 (nro := nro) s1 r1 (h ++ [⟨0, [.int .i64 n, s1]⟩, ⟨0, [.int .i64 m, s2]⟩, ⟨0, [.int .i64 0, .slice none 0 0]⟩]) (hs1.app _) (by omega) (by simp; omega)
 have lp := l_l01Beside (nro := nro) h n m s1 s2 r1 r2 hs1 hs2 g1 g2 h62 hn
 have e0 : bsR r1 r2 n 0 = r1 := by simp [bsR, tbl]
 have hl := bsR_len r1 r2 n m
 have w1 : IntKind.i64.wrap ((n : Int) + m) = (n : Int) + m := wrap64 (by omega) (by omega)
 refine v_zz59 (by simp [i_zz59]) ?_
 rw [fbody_eq]
 rw [l1] at he hl
 simp only [List.append_assoc, List.cons_append, List.nil_append, List.length_append, List.length_cons, List.length_nil] at he
 unfold bsH at lp
 rw [e0] at lp
 simp only [Nat.add_zero] at lp
 obtain ⟨Q, hQ⟩ : ∃ Q, Q = bsR r1 r2 n m := ⟨_, rfl⟩
 rw [← hQ] at lp hl ⊢
 clear hQ g1 g2 e0 l1
 simp (disch := first | assumption | omega | (simp [*] <;> omega) | fail) [i_zz59, he, lp, hl, w1, hso1, hso2, fresults, fresL, fres1, hn', hn]
end

/- Cones of graphs, by both. -/
section
open Go
variable {nro : Nat}
def coneAdj (rows : List Int) (n : Nat) (x y : Nat) : Prop := (x < n ∧ rbit rows x y = true) ∨ (x < n ∧ y = n) ∨ (x = n ∧ y < n)
noncomputable def coneAns (n : Int) (rows : List Int) : GAns := by
 classical exact if ¬ GV n rows then .inr 1 else if 62 < n + 1 then .inr 3 else .inl (n + 1, adjRows (n.toNat + 1) (coneAdj rows n.toNat))
theorem app0_adj {n : Nat} {rows : List Int} (R : Rok n rows) : IsAdj (n + 1) (rows ++ [0]) (fun x y => x < n ∧ rbit rows x y = true) := by
 have hl := R.len
 have A := R.isAdj
 refine ⟨by simp [hl], fun v hv => ?_⟩
 by_cases c : v < n
 ·have e : (rows ++ [0]).getD v 0 = rows.getD v 0 := by
   rw [List.getD_eq_getElem?_getD, List.getElem?_append_left (by omega), List.getD_eq_getElem?_getD]
  obtain ⟨a1, a2, a3⟩ := A.2 v c
  rw [e]
  refine ⟨a1, a2, fun w => ?_⟩
  unfold rbit at a3 ⊢
  rw [e]
  exact ⟨fun h => ⟨c, h⟩, fun h => h.2⟩
 ·have hv2 : v = n := by omega
  subst hv2
  have e : (rows ++ [0]).getD v 0 = 0 := by
   rw [List.getD_eq_getElem?_getD, List.getElem?_append_right (by omega), hl, Nat.sub_self]; rfl
  rw [e]
  refine ⟨by omega, by omega, fun w => ?_⟩
  unfold rbit
  rw [e]
  simp
theorem cone_done {n : Nat} {rows r : List Int} (h : IsAdj (n + 1) r (fun x y => (x < n ∧ rbit rows x y = true) ∨ ∃ v, v < n ∧ joins v n x y)) : IsAdj (n + 1) r (coneAdj rows n) := h.congr fun x y _ => by
 unfold coneAdj joins
 constructor
 ·rintro (h | ⟨v, hv, ⟨rfl, rfl⟩ | ⟨rfl, rfl⟩⟩)
  ·exact .inl h
  ·exact .inr (.inl ⟨hv, rfl⟩)
  ·exact .inr (.inr ⟨rfl, hv⟩)
 ·rintro (h | ⟨h, rfl⟩ | ⟨rfl, h⟩)
  ·exact .inl h
  ·exact .inr ⟨x, h, .inl ⟨rfl, rfl⟩⟩
  ·exact .inr ⟨y, h, .inr ⟨rfl, rfl⟩⟩
open Classical in
theorem c_zz85 (n : Int) (s : Value) (rows : List Int) (h : VH) (hs : Sli h s rows) (hn : nro ≤ h.length) :
  vcall F nro k_zz85 [gv n s] h = some (gres h (coneAns n rows)) := by
 have hn' := fun k => Nat.le_trans hn (Nat.le_add_right h.length k)
 have hso := fun k => hs.oldCk (k := k)
 have hg := c_zz73 (nro := nro) n s rows (h ++ [⟨0, [.int .i64 n, s]⟩, ⟨0, [.int .i64 0, .slice none 0 0]⟩]) (hs.app _)
 have hlc := fun L => c_zz38 (nro := nro) (n + 1) (h ++ L)
 refine v_zz85 (by simp [i_zz85]) ?_
 rw [fbody_eq]
 by_cases g : GV n rows
 ·rw [decide_eq_true g] at hg
  obtain ⟨N, rfl⟩ : ∃ N : Nat, n = N := ⟨n.toNat, by have := g.lo; omega⟩
  have glo := g.lo
  have ghi := g.hi
  have R := g.rok
  have hrl := R.len
  have w1 : IntKind.i64.wrap ((N : Int) + 1) = (N : Int) + 1 := wrap64 (by omega) (by omega)
  by_cases c1 : N = 62
  ·have ea : coneAns N rows = .inr 3 := by unfold coneAns; rw [if_neg (not_not_intro g), if_pos (by omega)]
   rw [ea]
   rw [if_neg (by omega)] at hlc
   simp only [gres]
   clear hs g ea R
   simp (disch := first | assumption | omega | (simp [*] <;> omega) | fail) [i_zz85, hg, hlc, w1, hn', hn, splice, fresults, fresL, fres1]
  ·have ea : coneAns N rows = .inl ((N : Int) + 1, adjRows (N + 1) (coneAdj rows N)) := by
    unfold coneAns; rw [if_neg (not_not_intro g), if_neg (by omega), Int.toNat_natCast]
   rw [ea]
   rw [if_pos (by omega)] at hlc
   have h0 := app0_adj R
   have hnb : ∀ v : Nat, v < N → v ≠ N := fun v hv => by omega
   have lp : ∃ r, IsAdj (N + 1) r (fun x y => (x < N ∧ rbit rows x y = true) ∨ ∃ v, v < N ∧ joins v N x y) ∧ floop (vcall F nro) nro [1, 2, 5, 29, 30] i_zz85_B1 (h ++ [⟨0, [.int .i64 N, s]⟩, ⟨0, [.int .i64 0, .slice none 0 0]⟩, ⟨1, ints (rows ++ [0])⟩, ⟨0, [.int .i64 ((N + 1 : Nat) : Int), .slice (some ⟨h.length + 2, 0, none⟩) (N + 1) (N + 1)]⟩]) [bp h, cp1 h, cp3 h, .int .i64 N, .int .i64 0] (h ++ [⟨0, [.int .i64 N, s]⟩, ⟨0, [.int .i64 0, .slice none 0 0]⟩, ⟨1, ints (rows ++ [0])⟩, ⟨0, [.int .i64 ((N + 1 : Nat) : Int), .slice (some ⟨h.length + 2, 0, none⟩) (N + 1) (N + 1)]⟩]) =
     some (.exit 0, fl [(2, cp1 h), (5, cp3 h)], h ++ [⟨0, [.int .i64 N, s]⟩, ⟨0, [.int .i64 0, .slice none 0 0]⟩, ⟨1, ints r⟩, ⟨0, [.int .i64 ((N + 1 : Nat) : Int), .slice (some ⟨h.length + 2, 0, none⟩) (N + 1) (N + 1)]⟩]) := by
    refine Exists.elim (for_upR (call := vcall F nro) (nro := nro) (live := [1, 2, 5, 29, 30]) (c := i_zz85_B1) (h0 := h ++ [⟨0, [.int .i64 N, s]⟩, ⟨0, [.int .i64 0, .slice none 0 0]⟩, ⟨1, ints (rows ++ [0])⟩, ⟨0, [.int .i64 ((N + 1 : Nat) : Int), .slice (some ⟨h.length + 2, 0, none⟩) (N + 1) (N + 1)]⟩]) (n := N) (fun v (_ : List Int) => [bp h, cp1 h, cp3 h, .int .i64 N, .int .i64 v]) (fun _ r => h ++ [⟨0, [.int .i64 N, s]⟩, ⟨0, [.int .i64 0, .slice none 0 0]⟩, ⟨1, ints r⟩, ⟨0, [.int .i64 ((N + 1 : Nat) : Int), .slice (some ⟨h.length + 2, 0, none⟩) (N + 1) (N + 1)]⟩])
     (fun v r => IsAdj (N + 1) r (fun x y => (x < N ∧ rbit rows x y = true) ∨ ∃ v', v' < v ∧ joins v' N x y)) (fun r => some (.exit 0, fl [(2, cp1 h), (5, cp3 h)], h ++ [⟨0, [.int .i64 N, s]⟩, ⟨0, [.int .i64 0, .slice none 0 0]⟩, ⟨1, ints r⟩, ⟨0, [.int .i64 ((N + 1 : Nat) : Int), .slice (some ⟨h.length + 2, 0, none⟩) (N + 1) (N + 1)]⟩])) ?_ ?_ 0 (rows ++ [0]) (Nat.zero_le _) (h0.congr fun x y _ => ⟨fun h => .inl h, fun h => h.elim id fun ⟨v, hv, _⟩ => by omega⟩)) ?_
    ·intro v r hv hv2 hI
     have hIl := hI.1
     have hput := c_zz53 (nro := nro) ((N + 1 : Nat) : Int) (h.length + 2) (N + 1) v N r (h ++ [⟨0, [.int .i64 N, s]⟩, ⟨0, [.int .i64 0, .slice none 0 0]⟩, ⟨1, ints r⟩, ⟨0, [.int .i64 ((N + 1 : Nat) : Int), .slice (some ⟨h.length + 2, 0, none⟩) (N + 1) (N + 1)]⟩]) (by simp) hIl (by omega) (by omega) (by omega) (by omega) (by omega) (by omega)
     rw [if_neg (by omega)] at hput
     have hI2 := hI.put2 (a := (v : Int)) (b := (N : Int)) (by omega) (by omega) (by omega) (by omega) (by omega)
     simp only [Int.toNat_natCast] at hI2
     refine ⟨put2 r v N, hI2.congr fun x y _ => ?_, ?_⟩
     ·constructor
      ·rintro ((h | ⟨w', h1, h2⟩) | h)
       ·exact .inl h
       ·exact .inr ⟨w', by omega, h2⟩
       ·exact .inr ⟨v, by omega, h⟩
      ·rintro (h | ⟨w', h1, h2⟩)
       ·exact .inl (.inl h)
       ·by_cases e : w' = v
        ·subst e; exact .inr h2
        ·exact .inl (.inr ⟨w', by omega, h2⟩)
     have w3 : IntKind.i64.wrap ((v : Int) + 1) = (v : Int) + 1 := wrap64 (by omega) (by omega)
     have hpl : (put2 r (v : Int) (N : Int)).length = N + 1 := by rw [put2_length]; exact hIl
     obtain ⟨q, hq⟩ : ∃ q, q = put2 r (v : Int) (N : Int) := ⟨_, rfl⟩
     rw [← hq] at hput hpl ⊢
     rw [floop_at i_zz85_B1.eq_1]
     simp at hput
     clear hI hI2 hq h0 R g hs
     simp (disch := first | assumption | omega | (simp [*] <;> omega) | fail) [hv, hv2, hput, hn', hso, w3]
    ·intro r _
     rw [floop_at i_zz85_B1.eq_1]
     simp (disch := first | assumption | omega | (simp [*] <;> omega) | fail) [hn', hso]
    ·rintro r ⟨h1, h2⟩
     exact ⟨r, h1, h2⟩
   obtain ⟨r, a1, a2⟩ := lp
   have a3 := cone_done a1
   have e : adjRows (N + 1) (coneAdj rows N) = r := a3.eq
   rw [e]
   have hE := c_zz93 (nro := nro) ((N : Int) + 1) (h ++ [⟨0, [.int .i64 N, s]⟩, ⟨0, [.int .i64 0, .slice none 0 0]⟩]) (by omega) (by omega) (by simp; omega)
   have hnn : ((N : Int) + 1).toNat = N + 1 := by omega
   rw [hnn] at hE
   have hsr : ∀ L, vsrc 1 (h ++ L) s = some (ints rows, N) := fun L => by
    have := hs.app L
    unfold Sli Sl at this
    rw [this, ints_length, hrl]
   have hil : (ints rows).length = N := by rw [ints_length, hrl]
   have hsp : splice 0 (ints rows) (List.replicate (N + 1) (.int .i64 0)) = ints (rows ++ [0]) := by
    unfold splice
    rw [List.take_zero, List.nil_append, Nat.zero_add, hil, List.drop_replicate, show N + 1 - N = 1 by omega]
    unfold ints; rw [List.map_append]; rfl
   have hez : ints (List.replicate (N + 1) 0) = List.replicate (N + 1) (.int .i64 0) := by unfold ints; rw [List.map_replicate]
   rw [hez] at hE
   have hjk : (ints rows).all (fun v => !isJunk v) = true := by simp [ints, isJunk]
   have htk : List.take N (ints rows) = ints rows := List.take_of_length_le (by omega)
   have hN0 : ¬ N = 0 := by omega
   have hmin : min N (N + 1) = N := by omega
   have hrl2 := a1.1
   simp only [gres, hrl2]
   obtain ⟨Z, hZ⟩ : ∃ Z, Z = List.replicate (N + 1) (Value.int .i64 0) := ⟨_, rfl⟩
   have hZl : Z.length = N + 1 := by rw [hZ]; simp
   rw [← hZ] at hE hsp
   obtain ⟨Q, hQ⟩ : ∃ Q, Q = ints rows := ⟨_, rfl⟩
   rw [← hQ] at hsr hil hsp hjk htk
   simp at hE a2
   clear a1 a3 e ea g hs R h0 hQ hZ hez
   have hcp : ∀ L : VH, ∀ o : VO, o = ⟨1, Z⟩ → (h ++ L)[h.length + 2]? = some o → vcopy nro 1 (h ++ L) (.slice (some ⟨h.length + 2, 0, none⟩) (N + 1) (N + 1)) s = some (.int .i64 N, (h ++ L).set (h.length + 2) ⟨1, ints (rows ++ [0])⟩) := fun L o ho hL => by
    subst ho
    unfold vcopy
    rw [hsr]
    simp only [hL]
    rw [if_pos ⟨trivial, by omega, by omega⟩, hmin, if_neg hN0, if_pos ⟨hn' 2, by omega, by omega, hjk⟩, Nat.mul_one, htk, hsp]
   have hcp2 := fun L => hcp (⟨0, [.int .i64 N, s]⟩ :: ⟨0, [.int .i64 0, .slice none 0 0]⟩ :: ⟨1, Z⟩ :: L) ⟨1, Z⟩ rfl (by simp)
   simp at hcp2
   clear hcp hsr hjk htk hsp
   simp (disch := first | assumption | omega | (simp [*] <;> omega) | fail) [i_zz85, hg, hlc, w1, hE, hZl, hcp2, a2, hrl2, hn', hso, hn, splice, fresults, fresL, fres1]
 ·rw [decide_eq_false g] at hg
  have ea : coneAns n rows = .inr 1 := by unfold coneAns; rw [if_pos g]
  rw [ea]
  simp only [gres]
  clear hs g ea
  simp (disch := first | assumption | omega | (simp [*] <;> omega) | fail) [i_zz85, hg, hn', hn, splice, fresults, fresL, fres1]
end

/- A function in parts, one after the other. -/
section
open Go
def takeS : Nat → FC → FC
 | 0, .seq a _ => a
 | k + 1, .seq a b => .seq a (takeS k b)
 | _, c => c
def dropS : Nat → FC → FC
 | 0, c => c
 | k + 1, .seq _ b => dropS k b
 | _ + 1, c => c
def nseq : FC → Nat
 | .seq _ b => nseq b + 1
 | _ => 0
theorem kseq_kseq (call : VCall) (nro : Nat) (a b : FC) (r : Option (VX × FE × VH)) : kseq call nro (.seq a b) r = kseq call nro b (kseq call nro a r) := by
 match r with
 | none => rfl
 | some (.normal, e, h) => rw [kseq_normal, fcode_seq, kseq_normal]
 | some (.ret, e, h) => rfl
 | some (.exit i, e, h) => rfl
theorem kseq_parts (call : VCall) (nro : Nat) : ∀ (k : Nat) (c : FC) (r : Option (VX × FE × VH)), k + 1 ≤ nseq c → kseq call nro c r = kseq call nro (dropS (k + 1) c) (kseq call nro (takeS k c) r)
 | 0, .seq a b, r, _ => kseq_kseq call nro a b r
 | k + 1, .seq a b, r, h => by
  have h2 : k + 1 ≤ nseq b := by simp [nseq] at h; omega
  rw [kseq_kseq, kseq_parts call nro k b _ h2]
  show _ = kseq call nro (dropS (k + 1) b) (kseq call nro (.seq a (takeS k b)) r)
  rw [kseq_kseq]
theorem fcode_parts (call : VCall) (nro : Nat) (k : Nat) (c : FC) (e : FE) (h : VH) (hk : k + 1 ≤ nseq c) : fcode call nro c e h = kseq call nro (dropS (k + 1) c) (fcode call nro (takeS k c) e h) := by
 have := kseq_parts call nro k c (some (.normal, e, h)) hk
 rwa [kseq_normal, kseq_normal] at this
end

/- Sorting: by insertion. -/
section
open Go
variable {nro : Nat}
theorem c_cmp_Less (x y : Int) (h : VH) : vcall F nro k_zz50 [.int .i64 x, .int .i64 y] h = some (.bool (decide (x < y)), h) := by
 have e : ∀ z : Int, vcall F nro k_zz40 [.int .i64 z] h = some (.bool false, h) := fun z => by
  refine v_zz40 (by simp [i_zz40]) ?_
  rw [fbody_eq]
  simp (disch := first | assumption | omega | (simp [*] <;> omega) | fail) [i_zz40]
 refine v_zz50 (by simp [i_zz50]) ?_
 rw [fbody_eq]
 simp (disch := first | assumption | omega | (simp [*] <;> omega) | fail) [i_zz50, e]
def swp (xs : List Int) (i j : Nat) : List Int := (xs.set i (xs.getD j 0)).set j (xs.getD i 0)
@[simp] theorem swp_length (xs : List Int) (i j : Nat) : (swp xs i j).length = xs.length := by simp [swp]
def insD (a : Nat) : Nat → List Int → List Int
 | 0, xs => xs
 | j + 1, xs => if a < j + 1 ∧ xs.getD (j + 1) 0 < xs.getD j 0 then insD a j (swp xs (j + 1) j) else xs
@[simp] theorem insD_length (a : Nat) : ∀ (j : Nat) (xs : List Int), (insD a j xs).length = xs.length
 | 0, _ => rfl
 | j + 1, xs => by
  rw [insD]
  split
  ·rw [insD_length a j, swp_length]
  ·rfl
def insS (a b : Nat) (xs : List Int) : List Int := upF (fun i xs => insD a i xs) b (a + 1) xs
theorem upF_len {f : Nat → List Int → List Int} (hf : ∀ i xs, (f i xs).length = xs.length) (n i : Nat) (xs : List Int) : (upF f n i xs).length = xs.length := by
  by_cases h : i < n
  · rw [upF_step h, upF_len hf n (i + 1), hf]
  · rw [upF_end h]
 termination_by n - i
@[simp] theorem insS_length (a b : Nat) (xs : List Int) : (insS a b xs).length = xs.length := upF_len (fun i xs => insD_length a i xs) b (a + 1) xs
def ws (blk N : Nat) : Value := .slice (some ⟨blk, 0, none⟩) N N
end

/- Sorting short lists; what sorted lists are. -/
section
open Go
variable {nro : Nat}
theorem swp_perm {xs : List Int} {i j : Nat} (hi : i < xs.length) (hj : j < xs.length) : List.Perm (swp xs i j) xs := by
 unfold swp
 rw [getD_at xs hi, getD_at xs hj]
 exact List.set_set_perm hi hj
theorem swp_get {xs : List Int} {i j : Nat} (hi : i < xs.length) (hj : j < xs.length) (p : Nat) : (swp xs i j).getD p 0 = if p = j then xs.getD i 0 else if p = i then xs.getD j 0 else xs.getD p 0 := by
 unfold swp
 rw [List.getD_eq_getElem?_getD, List.getElem?_set]
 by_cases h1 : p = j
 ·rw [if_pos h1.symm, if_pos (by simpa [h1] using hj), if_pos h1]; rfl
 ·rw [if_neg (fun e => h1 e.symm), if_neg h1, List.getElem?_set]
  by_cases h2 : p = i
  ·rw [if_pos h2.symm, if_pos hi, if_pos h2]; rfl
  ·rw [if_neg (fun e => h2 e.symm), if_neg h2, List.getD_eq_getElem?_getD]
theorem insD_perm (a : Nat) : ∀ (j : Nat) (xs : List Int), j < xs.length → List.Perm (insD a j xs) xs
 | 0, _, _ => List.Perm.refl _
 | j + 1, xs, h => by
  rw [insD]
  split
  ·exact (insD_perm a j (swp xs (j + 1) j) (by simp; omega)).trans (swp_perm h (by omega))
  ·exact List.Perm.refl _
def SrtB (a b : Nat) (xs : List Int) : Prop := ∀ p q, a ≤ p → p < q → q < b → xs.getD p 0 ≤ xs.getD q 0
theorem insD_sorted (a i : Nat) : ∀ (j : Nat) (xs : List Int), a ≤ j → j ≤ i → i < xs.length → (∀ p q, a ≤ p → p < q → q ≤ i → p ≠ j → q ≠ j → xs.getD p 0 ≤ xs.getD q 0) → (∀ q, j < q → q ≤ i → xs.getD j 0 ≤ xs.getD q 0) → SrtB a (i + 1) (insD a j xs)
 | 0, xs, ha, hj, hi, h1, h2 => by
  intro p q hp hpq hq
  show xs.getD p 0 ≤ xs.getD q 0
  by_cases e : p = 0
  ·rw [e]; exact h2 q (by omega) (by omega)
  ·exact h1 p q hp hpq (by omega) e (by omega)
 | j + 1, xs, ha, hj, hi, h1, h2 => by
  rw [insD]
  by_cases c : a < j + 1 ∧ xs.getD (j + 1) 0 < xs.getD j 0
  ·rw [if_pos c]
   have g := swp_get (xs := xs) (i := j + 1) (j := j) (by omega) (by omega)
   refine insD_sorted a i j (swp xs (j + 1) j) (by omega) (by omega) (by simpa using hi) (fun p q hp hpq hq n1 n2 => ?_) (fun q h3 h4 => ?_)
   ·rw [g, g, if_neg n1, if_neg n2]
    by_cases e1 : p = j + 1
    ·rw [if_pos e1, if_neg (by omega)]
     exact h1 j q (by omega) (by omega) hq (by omega) (by omega)
    ·rw [if_neg e1]
     by_cases e2 : q = j + 1
     ·rw [if_pos e2]
      exact h1 p j hp (by omega) (by omega) e1 (by omega)
     ·rw [if_neg e2]
      exact h1 p q hp hpq hq e1 e2
   ·rw [g, g, if_pos rfl, if_neg (by omega)]
    by_cases e2 : q = j + 1
    ·rw [if_pos e2]; omega
    ·rw [if_neg e2]
     exact h2 q (by omega) h4
  ·rw [if_neg c]
   intro p q hp hpq hq
   by_cases e1 : p = j + 1
   ·rw [e1]; exact h2 q (by omega) (by omega)
   ·by_cases e2 : q = j + 1
    ·rw [e2]
     have h3 : xs.getD j 0 ≤ xs.getD (j + 1) 0 := by omega
     by_cases e3 : p = j
     ·rw [e3]; exact h3
     ·exact Int.le_trans (h1 p j hp (by omega) (by omega) e1 (by omega)) h3
    ·exact h1 p q hp hpq (by omega) e1 e2
theorem insS_ok (a b : Nat) : ∀ (i : Nat) (xs : List Int), b ≤ xs.length → a < i → SrtB a i xs → List.Perm (upF (fun i xs => insD a i xs) b i xs) xs ∧ (i ≤ b → SrtB a b (upF (fun i xs => insD a i xs) b i xs)) := by
  intro i xs hb hi hs
  by_cases c : i < b
  · rw [upF_step c]
    have h1 : SrtB a (i + 1) (insD a i xs) := insD_sorted a i i xs (by omega) (Nat.le_refl _) (by omega) (fun p q hp hpq hq _ n2 => hs p q hp hpq (by omega)) (fun q h1 h2 => by omega)
    obtain ⟨h2, h3⟩ := insS_ok a b (i + 1) (insD a i xs) (by simpa using hb) (by omega) h1
    exact ⟨h2.trans (insD_perm a i xs (by omega)), fun _ => h3 (by omega)⟩
  · rw [upF_end c]
    exact ⟨List.Perm.refl _, fun h => by have : i = b := by omega
                                         rw [← this]; exact hs⟩
 termination_by i => b - i
theorem insS_perm {a b : Nat} {xs : List Int} (hb : b ≤ xs.length) : List.Perm (insS a b xs) xs := (insS_ok a b (a + 1) xs hb (by omega) (fun p q h1 h2 h3 => by omega)).1
theorem insS_sorted {a b : Nat} {xs : List Int} (hb : b ≤ xs.length) : SrtB a b (insS a b xs) := by
 by_cases h : a + 1 ≤ b
 ·exact (insS_ok a b (a + 1) xs hb (by omega) (fun p q h1 h2 h3 => by omega)).2 h
 ·intro p q h1 h2 h3; omega
end

/- Sorting, as the library does it: what is sorted, told once. -/
section
open Go Go.Sort
def getI (d : Array Nat) (x : Int) : Nat := d[x.toNat]!
def setI (d : Array Nat) (x : Int) (v : Nat) : Array Nat := d.setIfInBounds x.toNat v
@[simp] theorem setI_size (d : Array Nat) (x : Int) (v : Nat) : (setI d x v).size = d.size := by simp [setI]
def swI (d : Array Nat) (x y : Int) : Array Nat := setI (setI d x (getI d y)) y (getI d x)
@[simp] theorem swI_size (d : Array Nat) (x y : Int) : (swI d x y).size = d.size := by simp [swI]
theorem swI_swp (d : Array Nat) (x y : Int) (i j : Nat) (hx : x = i) (hy : y = j) : swI d x y = Go.Sort.swp d i j := by
 subst hx; subst hy; rfl
@[simp] theorem swp_size (d : Array Nat) (i j : Nat) : (Go.Sort.swp d i j).size = d.size := by simp [Go.Sort.swp]
structure SE (nro : Nat) (ld : Bool) (sz : Nat) (S C : Value) (P : Int → Value) (ag : Nat → Value) (cm : Nat → Nat → Int) (N : Nat) (H : Array Nat → VH) : Prop where
 len : ∀ d d', (H d).length = (H d').length
 nr : ∀ d, nro ≤ (H d).length
 oS : ∀ n, (H #[]).length ≤ n → Old n S
 oC : ∀ n, (H #[]).length ≤ n → Old n C
 idx : ∀ (d : Array Nat) (x : Int), d.size = N → 0 ≤ x → x < N → vidx sz (H d) S (.int .i64 x) = some (P x, H d)
 load : ∀ (d : Array Nat) (x : Int), d.size = N → 0 ≤ x → x < N → vload ld sz (H d) (P x) = some (ag (getI d x))
 store : ∀ (d : Array Nat) (x : Int) (v : Nat), d.size = N → 0 ≤ x → x < N → vstore nro sz (H d) (P x) (ag v) = some (H (setI d x v))
 cmp : ∀ (d : Array Nat) (x y : Nat), vcallv (vcall F nro) (H d) C [ag x, ag y] = some (.int .i64 (cm x y), H d)
 upd : ∀ (d d' : Array Nat), Upd (H d) (H d')
 vln : ∀ d, d.size = N → vlen (H d) S = some (.int .i64 N, H d)
 hN : N ≤ 1000
section
variable {nro : Nat} {ld : Bool} {sz : Nat} {S C : Value} {P : Int → Value} {ag : Nat → Value} {cm : Nat → Nat → Int} {N : Nat} {H : Array Nat → VH}
theorem SE.clean (E : SE nro ld sz S C P ag cm N H) (d d' : Array Nat) (L : VH) (vs : List Value) (hv : ∀ v ∈ vs, Old (H #[]).length v) : kclean (H d) vs (H d' ++ L) = (vs, H d') :=
 cleanup_upd (E.upd d d') (by rw [E.len d #[]]; exact hv)
theorem SE.clean0 (E : SE nro ld sz S C P ag cm N H) (d d' : Array Nat) (vs : List Value) (hv : ∀ v ∈ vs, Old (H #[]).length v) : kclean (H d) vs (H d') = (vs, H d') := by
 have := E.clean d d' [] vs hv
 rwa [List.append_nil] at this
theorem SE.ln (E : SE nro ld sz S C P ag cm N H) (d : Array Nat) : (H d).length = (H #[]).length := E.len d #[]
end
theorem Upd.snoc {h h' : VH} (hu : Upd h h') (o o' : VO) (hf : flatO (h.length + 1) o') : Upd (h ++ [o]) (h' ++ [o']) := by
 refine ⟨by simp [hu.1], fun i p hp => ?_⟩
 have hl : (h ++ [o]).length = h.length + 1 := by simp
 by_cases hi : i < h'.length
 ·rw [List.getElem?_append_left hi] at hp
  rcases hu.2 i p hp with h1 | h1
  ·left
   have : i < h.length := (List.getElem?_eq_some_iff.mp h1).1
   rw [List.getElem?_append_left this]; exact h1
  ·right
   intro r hr
   have := h1 r hr
   omega
 ·rw [List.getElem?_append_right (by omega)] at hp
  by_cases hi2 : i - h'.length = 0
  ·rw [hi2] at hp
   simp at hp
   subst hp
   right
   intro r hr
   have := hf r hr
   omega
  ·have : i - h'.length = (i - h'.length - 1) + 1 := by omega
   rw [this] at hp
   simp at hp
def ltC (cm : Nat → Nat → Int) (x y : Nat) : Bool := decide (cm x y < 0)
theorem getI_nat (d : Array Nat) (x : Int) (i : Nat) (h : x = i) : getI d x = d[i]! := by subst h; rfl
end

/- Sorting of numbers, as the library does it: what is sorted, told once. -/
section
open Go Go.Sort
structure SO (nro : Nat) (S : Value) (P : Int → Value) (ag : Nat → Value) (cm : Nat → Nat → Int) (N : Nat) (H : Array Nat → VH) : Prop where
 len : ∀ d d', (H d).length = (H d').length
 nr : ∀ d, nro ≤ (H d).length
 oS : ∀ n, (H #[]).length ≤ n → Old n S
 idx : ∀ (d : Array Nat) (x : Int), d.size = N → 0 ≤ x → x < N → vidx 1 (H d) S (.int .i64 x) = some (P x, H d)
 load : ∀ (d : Array Nat) (x : Int), d.size = N → 0 ≤ x → x < N → vload false 1 (H d) (P x) = some (ag (getI d x))
 store : ∀ (d : Array Nat) (x : Int) (v : Nat), d.size = N → 0 ≤ x → x < N → vstore nro 1 (H d) (P x) (ag v) = some (H (setI d x v))
 cmp : ∀ (d : Array Nat) (x y : Nat), vcall F nro k_zz50 [ag x, ag y] (H d) = some (.bool (decide (cm x y < 0)), H d)
 upd : ∀ (d d' : Array Nat), Upd (H d) (H d')
 vln : ∀ d, d.size = N → vlen (H d) S = some (.int .i64 N, H d)
 hN : N ≤ 1000
section
variable {nro : Nat} {S : Value} {P : Int → Value} {ag : Nat → Value} {cm : Nat → Nat → Int} {N : Nat} {H : Array Nat → VH}
theorem SO.clean (E : SO nro S P ag cm N H) (d d' : Array Nat) (L : VH) (vs : List Value) (hv : ∀ v ∈ vs, Old (H #[]).length v) : kclean (H d) vs (H d' ++ L) = (vs, H d') :=
 cleanup_upd (E.upd d d') (by rw [E.len d #[]]; exact hv)
theorem SO.clean0 (E : SO nro S P ag cm N H) (d d' : Array Nat) (vs : List Value) (hv : ∀ v ∈ vs, Old (H #[]).length v) : kclean (H d) vs (H d') = (vs, H d') := by
 have := E.clean d d' [] vs hv
 rwa [List.append_nil] at this
theorem SO.ln (E : SO nro S P ag cm N H) (d : Array Nat) : (H d).length = (H #[]).length := E.len d #[]
end
structure SXO (nro : Nat) (S : Value) (P : Int → Value) (ag : Nat → Value) (cm : Nat → Nat → Int) (N : Nat) (H : Array Nat → VH) : Prop where
 base : SO nro S P ag cm N H
 ext : ∀ o, SO nro S P ag cm N (fun d => H d ++ [o])
section
variable {nro : Nat} {S : Value} {P : Int → Value} {ag : Nat → Value} {cm : Nat → Nat → Int} {N : Nat} {H : Array Nat → VH} (E : SXO nro S P ag cm N H)
include E
theorem SXO.clean (d d' : Array Nat) (o o' : VO) (hf : ∀ n, flatO n o') (L : VH) (vs : List Value) (hv : ∀ v ∈ vs, Old ((H #[]).length + 1) v) : kclean (H d ++ [o]) vs (H d' ++ o' :: L) = (vs, H d' ++ [o']) := by
 have := cleanup_upd (L := L) ((E.base.upd d d').snoc o o' (hf _)) (vs := vs) (by rw [List.length_append, List.length_singleton, E.base.len d #[]]; exact hv)
 rwa [List.append_assoc] at this
theorem SXO.idx (o : VO) (d : Array Nat) (x : Int) (h1 : d.size = N) (h2 : 0 ≤ x) (h3 : x < N) : vidx 1 (H d ++ [o]) S (.int .i64 x) = some (P x, H d ++ [o]) := (E.ext o).idx d x h1 h2 h3
theorem SXO.load (o : VO) (d : Array Nat) (x : Int) (h1 : d.size = N) (h2 : 0 ≤ x) (h3 : x < N) : vload false 1 (H d ++ [o]) (P x) = some (ag (getI d x)) := (E.ext o).load d x h1 h2 h3
theorem SXO.store (o : VO) (d : Array Nat) (x : Int) (v : Nat) (h1 : d.size = N) (h2 : 0 ≤ x) (h3 : x < N) : vstore nro 1 (H d ++ [o]) (P x) (ag v) = some (H (setI d x v) ++ [o]) := (E.ext o).store d x v h1 h2 h3
theorem SXO.cmp (o : VO) (d : Array Nat) (x y : Nat) : vcall F nro k_zz50 [ag x, ag y] (H d ++ [o]) = some (.bool (decide (cm x y < 0)), H d ++ [o]) := (E.ext o).cmp d x y
theorem SXO.nr (d : Array Nat) : nro ≤ (H #[]).length := E.base.nr #[]
end
end

/- Sorting: insertion. -/
section
open Go Go.Sort
variable {nro : Nat} {S C : Value} {P : Int → Value} {ag : Nat → Value} {cm : Nat → Nat → Int} {N : Nat} {H : Array Nat → VH}
@[simp] theorem insInner_size (lt : Nat → Nat → Bool) (a : Nat) : ∀ (j : Nat) (d : Array Nat), (insInner lt a j d).size = d.size
 | 0, d => rfl
 | j + 1, d => by
  unfold insInner
  split
  ·rw [insInner_size lt a j]; simp
  ·rfl
end

/- Sorting: insertion. -/
section
open Go Go.Sort
variable {nro : Nat} {S : Value} {P : Int → Value} {ag : Nat → Value} {cm : Nat → Nat → Int} {N : Nat} {H : Array Nat → VH}
section
variable (E : SO nro S P ag cm N H)
include E
theorem l_ord_ins_1 (a b i : Nat) (d0 : Array Nat) : ∀ (j : Nat) (d : Array Nat), d.size = N → j < N →
  floop (vcall F nro) nro [0, 1, 2, 6, 7] i_zz4_B1 (H d0) [S, .int .i64 a, .int .i64 b, .int .i64 i, .int .i64 j] (H d) =
   some (.exit 2, fl [(0, S), (1, .int .i64 a), (2, .int .i64 b), (6, .int .i64 i)], H (insInner (ltC cm) a j d))
 | 0, d, hd, hj => by
  have hc := E.clean0 d0 d
  have hl := E.ln
  have oS := E.oS
  have h0 : ¬ (a : Int) < 0 := by omega
  rw [floop_at i_zz4_B1.eq_1]
  unfold insInner
  simp (disch := first | assumption | omega | (simp [*] <;> omega) | fail) [-getElem?_pos, List.getElem?_cons_zero, List.getElem?_cons_succ, hc, hl, oS, h0]
 | j + 1, d, hd, hj => by
  have hc := fun q => E.clean0 d0 q
  have hl := E.ln
  have oS := E.oS
  have hN := E.hN
  have hi := E.idx
  have hld := E.load
  have hst := E.store
  have hcm := E.cmp
  have w1 : IntKind.i64.wrap ((j : Int) + 1 - 1) = j := by rw [show (j : Int) + 1 - 1 = j by omega]; exact wrap64 (by omega) (by omega)
  have w2 : IntKind.i64.wrap (j : Int) = j := wrap64 (by omega) (by omega)
  have g1 := getI_nat d ((j : Int) + 1) (j + 1) (by omega)
  have g2 := getI_nat d (j : Int) j rfl
  have k1 : (0 : Int) ≤ (j : Int) + 1 := by omega
  have k2 : (j : Int) + 1 < N := by omega
  have k3 : (j : Int) < N := by omega
  rw [floop_at i_zz4_B1.eq_1]
  unfold insInner
  rw [← g1, ← g2]
  by_cases c1 : a < j + 1
  ·have c1' : (a : Int) < (j : Int) + 1 := by omega
   by_cases c2 : cm (getI d ((j : Int) + 1)) (getI d (j : Int)) < 0
   ·have e2 : ltC cm (getI d ((j : Int) + 1)) (getI d (j : Int)) = true := decide_eq_true c2
    have ih := l_ord_ins_1 a b i d0 j (Go.Sort.swp d (j + 1) j) (by simpa using hd) (by omega)
    have e3 : swI d ((j : Int) + 1) j = Go.Sort.swp d (j + 1) j := swI_swp _ _ _ _ _ (by omega) rfl
    unfold swI at e3
    rw [if_pos (by simp [e2, c1]), ← ih]
    clear ih g1 g2
    simp (disch := first | assumption | omega | (simp [*] <;> omega) | fail) [-getElem?_pos, List.getElem?_cons_zero, List.getElem?_cons_succ, hc, hl, oS, hi, hld, hst, hcm, hd, w1, w2, k1, k2, k3, c1', c2, e3]
   ·have e2 : ltC cm (getI d ((j : Int) + 1)) (getI d (j : Int)) = false := decide_eq_false c2
    rw [if_neg (by simp [e2])]
    clear g1 g2
    simp (disch := first | assumption | omega | (simp [*] <;> omega) | fail) [-getElem?_pos, List.getElem?_cons_zero, List.getElem?_cons_succ, hc, hl, oS, hi, hld, hst, hcm, hd, w1, w2, k1, k2, k3, c1', c2]
  ·have c1' : ¬ (a : Int) < (j : Int) + 1 := by omega
   rw [if_neg (by simp [c1])]
   simp (disch := first | assumption | omega | (simp [*] <;> omega) | fail) [-getElem?_pos, List.getElem?_cons_zero, List.getElem?_cons_succ, hc, hl, oS, c1']
theorem c_ord_ins (a b : Nat) (d : Array Nat) (hd : d.size = N) (hb : b ≤ N) (ha : a ≤ N) :
  vcall F nro k_zz4 [S, .int .i64 a, .int .i64 b] (H d) = some (.tuple #[], H (insertionSort (ltC cm) d a b)) := by
 have hl := E.ln
 have oS := E.oS
 have hN := E.hN
 have hc0 := fun q vs => E.clean0 d q vs
 have lp : ∀ (k i : Nat) (q : Array Nat), q.size = N → b ≤ i + k → i ≤ N + 1 →
   floop (vcall F nro) nro [0, 1, 2, 6] i_zz4_B2 (H d) [S, .int .i64 a, .int .i64 b, .int .i64 i] (H q) = some (.exit 0, fl [], H (insOuter (ltC cm) a b i q)) := by
  intro k
  induction k with
  | zero =>
   intro i q hq hk hi
   have h1 : ¬ i < b := by omega
   have h2 : ¬ (i : Int) < b := by omega
   rw [insOuter, if_neg h1, floop_at i_zz4_B2.eq_1]
   simp (disch := first | assumption | omega | (simp [*] <;> omega) | fail) [-getElem?_pos, List.getElem?_cons_zero, List.getElem?_cons_succ, hc0, hl, oS, h2, h1]
  | succ k ih =>
   intro i q hq hk hi
   by_cases h1 : i < b
   ·have h2 : (i : Int) < b := by omega
    have l1 := l_ord_ins_1 E a b i q i q hq (by omega)
    have w1 : IntKind.i64.wrap ((i : Int) + 1) = (i : Int) + 1 := wrap64 (by omega) (by omega)
    have ih2 := ih (i + 1) (insInner (ltC cm) a i q) (by simpa using hq) (by omega) (by omega)
    rw [insOuter, if_pos h1, ← ih2]
    clear ih ih2
    rw [floop_at i_zz4_B2.eq_1]
    simp (disch := first | assumption | omega | (simp [*] <;> omega) | fail) [-getElem?_pos, List.getElem?_cons_zero, List.getElem?_cons_succ, hc0, hl, oS, h2, h1, l1, w1]
   ·have h2 : ¬ (i : Int) < b := by omega
    rw [insOuter, if_neg h1, floop_at i_zz4_B2.eq_1]
    simp (disch := first | assumption | omega | (simp [*] <;> omega) | fail) [-getElem?_pos, List.getElem?_cons_zero, List.getElem?_cons_succ, hc0, hl, oS, h2, h1]
 have l1 := lp b (a + 1) d hd (by omega) (by omega)
 have w1 : IntKind.i64.wrap ((a : Int) + 1) = (a : Int) + 1 := wrap64 (by omega) (by omega)
 refine v_zz4 (by simp [i_zz4]) ?_
 rw [fbody_eq]
 unfold insertionSort
 simp only [Int.natCast_add, Int.natCast_one] at l1
 simp (disch := first | assumption | omega | (simp [*] <;> omega) | fail) [-getElem?_pos, List.getElem?_cons_zero, List.getElem?_cons_succ, i_zz4, w1, l1, hc0, fresults, fresL]
end
end

/- Sorting: heaps. -/
section
open Go Go.Sort
variable {nro : Nat} {S C : Value} {P : Int → Value} {ag : Nat → Value} {cm : Nat → Nat → Int} {N : Nat} {H : Array Nat → VH}
theorem siftDown_size (lt : Nat → Nat → Bool) (hi first : Nat) (root : Nat) (d : Array Nat) : (siftDown lt hi first root d).size = d.size := by
  rw [siftDown]
  split
  · rfl
  · split
    · split
      · rfl
      · split
        · rw [siftDown_size lt hi first (2 * root + 2)]; simp
        · rfl
    · split
      · rfl
      · rw [siftDown_size lt hi first (2 * root + 1)]; simp
 termination_by hi - root
section
variable (E : SE nro true 3 S C P ag cm N H)
include E
omit E in
theorem heapBuild_size (lt : Nat → Nat → Bool) (hi first : Nat) : ∀ (k : Nat) (d : Array Nat), (heapBuild lt hi first k d).size = d.size
 | 0, d => rfl
 | k + 1, d => by rw [heapBuild, heapBuild_size lt hi first k, siftDown_size]
end
end

/- Sorting: heaps. -/
section
open Go Go.Sort
variable {nro : Nat} {S : Value} {P : Int → Value} {ag : Nat → Value} {cm : Nat → Nat → Int} {N : Nat} {H : Array Nat → VH}
section
variable (E : SO nro S P ag cm N H)
include E
set_option maxHeartbeats 2000000 in
theorem l_ord_sift (hi first : Nat) (hf : first + hi ≤ N) (d0 : Array Nat) (root : Nat) (d : Array Nat) (hd : d.size = N) (hr : root ≤ N) :
    ∃ x, (x = .exit 0 ∨ x = .ret) ∧ floop (vcall F nro) nro [0, 2, 3, 8] i_zz11_B1 (H d0) [S, .int .i64 hi, .int .i64 first, .int .i64 root] (H d) =
      some (x, fl [], H (siftDown (ltC cm) hi first root d)) := by
  have hc := fun q => E.clean0 d0 q
  have hl := E.ln
  have oS := E.oS
  have hN := E.hN
  have hix := E.idx
  have hld := E.load
  have hst := E.store
  have hcm := E.cmp
  rw [siftDown]
  by_cases c0 : 2 * root + 1 ≥ hi
  · have c0' : (hi : Int) ≤ 2 * (root : Int) + 1 := by omega
    rw [dif_pos c0]
    refine ⟨.exit 0, .inl rfl, ?_⟩
    rw [floop_at i_zz11_B1.eq_1]
    simp (disch := first | assumption | omega | (simp [*] <;> omega) | fail) [-getElem?_pos, List.getElem?_cons_zero, List.getElem?_cons_succ, hc, hl, oS, wrap64, c0']
  · have c0' : ¬ (hi : Int) ≤ 2 * (root : Int) + 1 := by omega
    rw [dif_neg c0]
    have g0 := getI_nat d ((first : Int) + root) (first + root) (by omega)
    have g1 := getI_nat d ((first : Int) + (2 * (root : Int) + 1)) (first + (2 * root + 1)) (by omega)
    have g2 := getI_nat d ((first : Int) + (2 * (root : Int) + 1) + 1) (first + (2 * root + 1) + 1) (by omega)
    have g3 := getI_nat d ((first : Int) + (2 * (root : Int) + 1 + 1)) (first + (2 * root + 2)) (by omega)
    have g4 : getI d ((first : Int) + (2 * (root : Int) + 1) + 1) = getI d ((first : Int) + (2 * (root : Int) + 1 + 1)) := by rw [Int.add_assoc]
    rw [← g0, ← g1, ← g2, ← g3]
    by_cases c1 : 2 * root + 1 + 1 < hi
    · have c1' : 2 * (root : Int) + 1 + 1 < hi := by omega
      by_cases c2 : cm (getI d ((first : Int) + (2 * (root : Int) + 1))) (getI d ((first : Int) + (2 * (root : Int) + 1) + 1)) < 0
      · have e2 : ltC cm (getI d ((first : Int) + (2 * (root : Int) + 1))) (getI d ((first : Int) + (2 * (root : Int) + 1) + 1)) = true := decide_eq_true c2
        rw [if_pos (by simp [e2, c1])]
        by_cases c3 : cm (getI d ((first : Int) + root)) (getI d ((first : Int) + (2 * (root : Int) + 1 + 1))) < 0
        · have e3 : ltC cm (getI d ((first : Int) + root)) (getI d ((first : Int) + (2 * (root : Int) + 1 + 1))) = true := decide_eq_true c3
          rw [if_neg (by simp [e3]), dif_pos (by omega)]
          obtain ⟨x, hx, ih⟩ := l_ord_sift hi first hf d0 (2 * root + 2) (Go.Sort.swp d (first + root) (first + (2 * root + 2))) (by simpa using hd) (by omega)
          refine ⟨x, hx, ?_⟩
          have e4 : swI d ((first : Int) + root) ((first : Int) + (2 * (root : Int) + 1 + 1)) = Go.Sort.swp d (first + root) (first + (2 * root + 2)) := swI_swp _ _ _ _ _ (by omega) (by omega)
          unfold swI at e4
          rw [← ih, show ((2 * root + 2 : Nat) : Int) = 2 * (root : Int) + 1 + 1 by omega]
          clear ih g0 g1 g2 g3 e2 e3
          rw [floop_at i_zz11_B1.eq_1]
          simp (disch := first | assumption | omega | (simp [*] <;> omega) | fail) [-getElem?_pos, List.getElem?_cons_zero, List.getElem?_cons_succ, hc, hl, oS, hix, hld, hst, hcm, hd, wrap64, c0', c1', c2, c3, e4]
        · have e3 : ltC cm (getI d ((first : Int) + root)) (getI d ((first : Int) + (2 * (root : Int) + 1 + 1))) = false := decide_eq_false c3
          rw [if_pos (by simp [e3])]
          refine ⟨.ret, .inr rfl, ?_⟩
          clear g0 g1 g2 g3 e2 e3
          rw [floop_at i_zz11_B1.eq_1]
          simp (disch := first | assumption | omega | (simp [*] <;> omega) | fail) [-getElem?_pos, List.getElem?_cons_zero, List.getElem?_cons_succ, hc, hl, oS, hix, hld, hst, hcm, hd, wrap64, c0', c1', c2, c3]
      · have e2 : ltC cm (getI d ((first : Int) + (2 * (root : Int) + 1))) (getI d ((first : Int) + (2 * (root : Int) + 1) + 1)) = false := decide_eq_false c2
        rw [if_neg (by simp [e2])]
        by_cases c3 : cm (getI d ((first : Int) + root)) (getI d ((first : Int) + (2 * (root : Int) + 1))) < 0
        · have e3 : ltC cm (getI d ((first : Int) + root)) (getI d ((first : Int) + (2 * (root : Int) + 1))) = true := decide_eq_true c3
          rw [if_neg (by simp [e3])]
          obtain ⟨x, hx, ih⟩ := l_ord_sift hi first hf d0 (2 * root + 1) (Go.Sort.swp d (first + root) (first + (2 * root + 1))) (by simpa using hd) (by omega)
          refine ⟨x, hx, ?_⟩
          have e4 : swI d ((first : Int) + root) ((first : Int) + (2 * (root : Int) + 1)) = Go.Sort.swp d (first + root) (first + (2 * root + 1)) := swI_swp _ _ _ _ _ (by omega) (by omega)
          unfold swI at e4
          rw [← ih, show ((2 * root + 1 : Nat) : Int) = 2 * (root : Int) + 1 by omega]
          clear ih g0 g1 g2 g3 e2 e3
          rw [floop_at i_zz11_B1.eq_1]
          simp (disch := first | assumption | omega | (simp [*] <;> omega) | fail) [-getElem?_pos, List.getElem?_cons_zero, List.getElem?_cons_succ, hc, hl, oS, hix, hld, hst, hcm, hd, wrap64, c0', c1', c2, c3, e4]
        · have e3 : ltC cm (getI d ((first : Int) + root)) (getI d ((first : Int) + (2 * (root : Int) + 1))) = false := decide_eq_false c3
          rw [if_pos (by simp [e3])]
          refine ⟨.ret, .inr rfl, ?_⟩
          clear g0 g1 g2 g3 e2 e3
          rw [floop_at i_zz11_B1.eq_1]
          simp (disch := first | assumption | omega | (simp [*] <;> omega) | fail) [-getElem?_pos, List.getElem?_cons_zero, List.getElem?_cons_succ, hc, hl, oS, hix, hld, hst, hcm, hd, wrap64, c0', c1', c2, c3]
    · have c1' : ¬ 2 * (root : Int) + 1 + 1 < hi := by omega
      rw [if_neg (by simp [c1])]
      by_cases c3 : cm (getI d ((first : Int) + root)) (getI d ((first : Int) + (2 * (root : Int) + 1))) < 0
      · have e3 : ltC cm (getI d ((first : Int) + root)) (getI d ((first : Int) + (2 * (root : Int) + 1))) = true := decide_eq_true c3
        rw [if_neg (by simp [e3])]
        obtain ⟨x, hx, ih⟩ := l_ord_sift hi first hf d0 (2 * root + 1) (Go.Sort.swp d (first + root) (first + (2 * root + 1))) (by simpa using hd) (by omega)
        refine ⟨x, hx, ?_⟩
        have e4 : swI d ((first : Int) + root) ((first : Int) + (2 * (root : Int) + 1)) = Go.Sort.swp d (first + root) (first + (2 * root + 1)) := swI_swp _ _ _ _ _ (by omega) (by omega)
        unfold swI at e4
        rw [← ih, show ((2 * root + 1 : Nat) : Int) = 2 * (root : Int) + 1 by omega]
        clear ih g0 g1 g2 g3 e3
        rw [floop_at i_zz11_B1.eq_1]
        simp (disch := first | assumption | omega | (simp [*] <;> omega) | fail) [-getElem?_pos, List.getElem?_cons_zero, List.getElem?_cons_succ, hc, hl, oS, hix, hld, hst, hcm, hd, wrap64, c0', c1', c3, e4]
      · have e3 : ltC cm (getI d ((first : Int) + root)) (getI d ((first : Int) + (2 * (root : Int) + 1))) = false := decide_eq_false c3
        rw [if_pos (by simp [e3])]
        refine ⟨.ret, .inr rfl, ?_⟩
        clear g0 g1 g2 g3 e3
        rw [floop_at i_zz11_B1.eq_1]
        simp (disch := first | assumption | omega | (simp [*] <;> omega) | fail) [-getElem?_pos, List.getElem?_cons_zero, List.getElem?_cons_succ, hc, hl, oS, hix, hld, hst, hcm, hd, wrap64, c0', c1', c3]
 termination_by hi - root
theorem c_ord_sift (hi first root : Nat) (hf : first + hi ≤ N) (d : Array Nat) (hd : d.size = N) (hr : root ≤ N) :
  vcall F nro k_zz11 [S, .int .i64 root, .int .i64 hi, .int .i64 first] (H d) = some (.tuple #[], H (siftDown (ltC cm) hi first root d)) := by
 have hc0 := fun q vs => E.clean0 d q vs
 obtain ⟨x, hx, lp⟩ := l_ord_sift E hi first hf d root d hd hr
 refine v_zz11 (by simp [i_zz11]) ?_
 rw [fbody_eq]
 rcases hx with rfl | rfl
 ·simp (disch := first | assumption | omega | (simp [*] <;> omega) | fail) [-getElem?_pos, List.getElem?_cons_zero, List.getElem?_cons_succ, i_zz11, lp, hc0, fresults, fresL]
 ·simp (disch := first | assumption | omega | (simp [*] <;> omega) | fail) [-getElem?_pos, List.getElem?_cons_zero, List.getElem?_cons_succ, i_zz11, lp, hc0, fresults, fresL]
theorem c_ord_heap (a b : Nat) (d : Array Nat) (hd : d.size = N) (hab : a ≤ b) (hb : b ≤ N) :
  vcall F nro k_zz10 [S, .int .i64 a, .int .i64 b] (H d) = some (.tuple #[], H (heapSort (ltC cm) d a b)) := by
 have hc0 := fun q vs => E.clean0 d q vs
 have hl := E.ln
 have oS := E.oS
 have hN := E.hN
 have hix := E.idx
 have hld := E.load
 have hst := E.store
 obtain ⟨hi, hhi⟩ : ∃ hi, hi = b - a := ⟨_, rfl⟩
 have lp1 : ∀ (k : Nat) (q : Array Nat), q.size = N → k ≤ N + 1 →
   floop (vcall F nro) nro [0, 6, 7, 8, 9] i_zz10_B1 (H d) [S, .int .i64 a, .int .i64 0, .int .i64 hi, .int .i64 ((k : Int) - 1)] (H q) = some (.exit 0, fl [(0, S), (6, .int .i64 a), (7, .int .i64 0), (8, .int .i64 hi)], H (heapBuild (ltC cm) hi a k q)) := by
  intro k
  induction k with
  | zero =>
   intro q hq hk
   rw [floop_at i_zz10_B1.eq_1]
   simp (disch := first | assumption | omega | (simp [*] <;> omega) | fail) [-getElem?_pos, List.getElem?_cons_zero, List.getElem?_cons_succ, heapBuild, hc0, hl, oS]
  | succ k ih =>
   intro q hq hk
   have hcall := c_ord_sift E hi a k (by omega) q hq (by omega)
   have ih2 := ih (siftDown (ltC cm) hi a k q) (by rw [siftDown_size]; exact hq) (by omega)
   rw [heapBuild, ← ih2]
   have e1 : ((k + 1 : Nat) : Int) - 1 = k := by omega
   rw [e1]
   clear ih ih2
   rw [floop_at i_zz10_B1.eq_1]
   simp (disch := first | assumption | omega | (simp [*] <;> omega) | fail) [-getElem?_pos, List.getElem?_cons_zero, List.getElem?_cons_succ, hc0, hl, oS, hcall, wrap64]
 have hc1 := fun q' q vs => E.clean0 q' q vs
 have lp2 : ∀ (d1 : Array Nat) (k : Nat) (q : Array Nat), q.size = N → k ≤ hi →
   floop (vcall F nro) nro [0, 6, 7, 10] i_zz10_B2 (H d1) [S, .int .i64 a, .int .i64 0, .int .i64 ((k : Int) - 1)] (H q) = some (.exit 2, fl [], H (heapPop (ltC cm) a k q)) := by
  intro d1 k
  induction k with
  | zero =>
   intro q hq hk
   rw [floop_at i_zz10_B2.eq_1]
   simp (disch := first | assumption | omega | (simp [*] <;> omega) | fail) [-getElem?_pos, List.getElem?_cons_zero, List.getElem?_cons_succ, heapPop, hc1, hl, oS]
  | succ k ih =>
   intro q hq hk
   have e4 : swI q (a : Int) ((a : Int) + k) = Go.Sort.swp q a (a + k) := swI_swp _ _ _ _ _ rfl (by omega)
   unfold swI at e4
   have hcall := c_ord_sift E k a 0 (by omega) (Go.Sort.swp q a (a + k)) (by simpa using hq) (by omega)
   have ih2 := ih (siftDown (ltC cm) k a 0 (Go.Sort.swp q a (a + k))) (by rw [siftDown_size]; simpa using hq) (by omega)
   rw [heapPop, ← ih2]
   have e1 : ((k + 1 : Nat) : Int) - 1 = k := by omega
   rw [e1]
   simp only [Int.natCast_zero] at hcall
   clear ih ih2
   rw [floop_at i_zz10_B2.eq_1]
   simp (disch := first | assumption | omega | (simp [*] <;> omega) | fail) [-getElem?_pos, List.getElem?_cons_zero, List.getElem?_cons_succ, hc1, hl, oS, hix, hld, hst, hq, e4, hcall, wrap64]
 have e1 : (((hi - 1) / 2 + 1 : Nat) : Int) - 1 = ((hi : Int) - 1).tdiv 2 := by
  by_cases c : hi = 0
  ·subst c; rfl
  ·rw [Int.tdiv_eq_ediv_of_nonneg (by omega)]; omega
 have l1 := lp1 ((hi - 1) / 2 + 1) d hd (by omega)
 rw [e1] at l1
 have l2 := lp2 (heapBuild (ltC cm) hi a ((hi - 1) / 2 + 1) d) hi (heapBuild (ltC cm) hi a ((hi - 1) / 2 + 1) d) (by rw [heapBuild_size]; exact hd) (Nat.le_refl _)
 have w1 : IntKind.i64.wrap ((b : Int) - a) = hi := by rw [show (b : Int) - a = hi by omega]; exact wrap64 (by omega) (by omega)
 have w2 : IntKind.i64.wrap ((hi : Int) - 1) = (hi : Int) - 1 := wrap64 (by omega) (by omega)
 have w3 : IntKind.i64.wrap (((hi : Int) - 1).tdiv 2) = ((hi : Int) - 1).tdiv 2 := by rw [← e1]; exact wrap64 (by omega) (by omega)
 refine v_zz10 (by simp [i_zz10]) ?_
 rw [fbody_eq]
 unfold heapSort
 rw [← hhi]
 clear lp1 lp2
 simp (disch := first | assumption | omega | (simp [*] <;> omega) | fail) [-getElem?_pos, List.getElem?_cons_zero, List.getElem?_cons_succ, i_zz10, w1, w2, w3, l1, l2, hc0, fresults, fresL]
end
end

/- Sorting: reversing, breaking patterns, choosing a pivot. -/
section
open Go Go.Sort
variable {nro : Nat} {S C : Value} {P : Int → Value} {ag : Nat → Value} {cm : Nat → Nat → Int} {N : Nat} {H : Array Nat → VH}
theorem c_xorshift (K : VH) (hn : nro ≤ K.length) (r : Int) : ∃ r' : Nat, r' < 18446744073709551616 ∧ vcall F nro k_zz24 [.pointer (some ⟨K.length, 0, some 1⟩)] (K ++ [⟨0, [.int .u64 r]⟩]) = some (.int .u64 r', K ++ [⟨0, [.int .u64 r']⟩]) := by
 obtain ⟨r1, h1⟩ : ∃ x, x = ixor .u64 r (ishl .u64 r 13) := ⟨_, rfl⟩
 obtain ⟨r2, h2⟩ : ∃ x, x = ixor .u64 r1 (ishr .u64 r1 7) := ⟨_, rfl⟩
 obtain ⟨r3, h3⟩ : ∃ x, x = ixor .u64 r2 (ishl .u64 r2 17) := ⟨_, rfl⟩
 have h4 : 0 ≤ r3 ∧ r3 < 18446744073709551616 := by
  rw [h3, ixor_eq]
  have := IntKind.wrap_u64 ((BitVec.ofInt IntKind.u64.bits r2 ^^^ BitVec.ofInt IntKind.u64.bits (ishl .u64 r2 17)).toNat : Int)
  rw [this]
  omega
 refine ⟨r3.toNat, by omega, ?_⟩
 rw [show ((r3.toNat : Nat) : Int) = r3 by omega]
 have hn' := fun k => Nat.le_trans hn (Nat.le_add_right K.length k)
 refine v_zz24 (by simp [i_zz24]) ?_
 rw [fbody_eq]
 simp (disch := first | assumption | omega | (simp [*] <;> omega) | fail) [i_zz24, h1.symm, h2.symm, h3.symm, hn, hn']
set_option maxRecDepth 20000 in
theorem c_bits_Len64x (x : Nat) (hx : x ≤ 255) (h : VH) : ∃ y : Nat, y ≤ 8 ∧ x < 2 ^ y ∧ 2 ^ y ≤ 2 * x + 1 ∧ vcall F nro k_zz44 [.int .u64 x] h = some (.int .i64 y, h) := by
 have c1 : ¬ (4294967296 : Int) ≤ x := by omega
 have c2 : ¬ (65536 : Int) ≤ x := by omega
 have c3 : ¬ (256 : Int) ≤ x := by omega
 have w : IntKind.u8.wrap (x : Int) = x := wrapu8 (by omega) (by omega)
 obtain ⟨i, hi⟩ : ∃ i, i = i_zz44 := ⟨_, rfl⟩
 have hr : ∃ y : Nat, y ≤ 8 ∧ x < 2 ^ y ∧ 2 ^ y ≤ 2 * x + 1 ∧ fbody (vcall F nro) nro i [.int .u64 x] h = some (.int .i64 y, h) := by
  unfold i_zz44 at hi
  generalize hS : (ByteArray.mk _) = S at hi
  have hsz : S.size = 256 := by rw [← hS]; rfl
  have hT : ∀ x, x < 256 → (match S.data[x]? with | some b => decide (b.toNat ≤ 8) && decide (x < 2 ^ b.toNat) && decide (2 ^ b.toNat ≤ 2 * x + 1) | none => false) = true := by
   rw [← hS]; decide +kernel
  have hx2 : x < S.size := by omega
  obtain ⟨b, hb⟩ : ∃ b : UInt8, S[x]? = some b := ⟨S[x], by simp [getElem?_pos, hx2]⟩
  have hb3 : S.data[x]? = some b := by
   rw [← hb]
   rw [getElem?_pos S x hx2, getElem?_pos S.data x hx2]
   rfl
  have hTx := hT x (by omega)
  rw [hb3] at hTx
  simp only [Bool.and_eq_true, decide_eq_true_eq] at hTx
  obtain ⟨⟨t1, t2⟩, t3⟩ := hTx
  clear hS hT
  refine ⟨b.toNat, t1, t2, t3, ?_⟩
  rw [fbody_eq, hi]
  have hb2 : b.toNat < 256 := b.toNat_lt
  have w2 : IntKind.i64.wrap ((b.toNat : Nat) : Int) = b.toNat := wrap64 (by omega) (by omega)
  clear hi t1 t2 t3 hb3
  simp (disch := first | assumption | omega | (simp [*] <;> omega) | fail) [-getElem?_pos, vop, c1, c2, c3, w, hb, w2]
 obtain ⟨y, h1, h2, h3, hr⟩ := hr
 refine ⟨y, h1, h2, h3, v_zz44 (by show 1 ≤ 25; omega) ?_⟩
 rw [← hi]
 exact hr
theorem c_pow2 (x : Nat) (hx : x ≤ 255) (h : VH) : ∃ y : Nat, y ≤ 8 ∧ x < 2 ^ y ∧ 2 ^ y ≤ 2 * x + 1 ∧ vcall F nro k_zz20 [.int .i64 x] h = some (.int .u64 (2 ^ y : Nat), h) := by
 obtain ⟨y, h1, h2, h3, e⟩ := c_bits_Len64x (nro := nro) x hx h
 have e2 : vcall F nro k_zz64 [.int .u64 x] h = some (.int .i64 y, h) := by
  refine v_zz64 (by simp [i_zz64]) ?_
  rw [fbody_eq]
  simp (disch := first | assumption | omega | (simp [*] <;> omega) | fail) [i_zz64, e]
 refine ⟨y, h1, h2, h3, v_zz20 (by simp [i_zz20]) ?_⟩
 rw [fbody_eq]
 have w1 : IntKind.u64.wrap (x : Int) = x := wrapu64 (by omega) (by omega)
 have hs : ishl .u64 1 (y : Int) = ((2 ^ y : Nat) : Int) := by
  rw [ishl_eq]
  have hm : min (y : Int).toNat IntKind.u64.bits = y := by
   rw [Int.toNat_natCast]
   show min y 64 = y
   omega
  rw [hm, Int.one_mul]
  have : (2 : Nat) ^ y ≤ 511 := by omega
  have e3 : ((2 : Int) ^ y) = ((2 ^ y : Nat) : Int) := by simp
  rw [e3]
  exact wrapu64 (by omega) (by omega)
 obtain ⟨z, hz⟩ : ∃ z, z = 2 ^ y := ⟨_, rfl⟩
 rw [← hz] at hs ⊢
 clear h2 h3 hz
 have hy0 : ¬ (y : Int) < 0 := by omega
 simp (disch := first | assumption | omega | (simp [*] <;> omega) | fail) [i_zz20, w1, e2, hs, hy0]
end

/- Sorting: reversing, breaking patterns, choosing a pivot. -/
section
open Go Go.Sort
variable {nro : Nat} {S : Value} {P : Int → Value} {ag : Nat → Value} {cm : Nat → Nat → Int} {N : Nat} {H : Array Nat → VH}
section
variable (E : SO nro S P ag cm N H)
include E
theorem l_ord_rev (d0 : Array Nat) (i : Nat) (j : Int) (hj0 : -1 ≤ j) (hjN : j < N) (hi : i ≤ N + 1) (d : Array Nat) (hd : d.size = N) :
    floop (vcall F nro) nro [0, 6, 7] i_zz5_B1 (H d0) [S, .int .i64 i, .int .i64 j] (H d) = some (.exit 0, fl [], H (reverseLoop i j.toNat d)) := by
  have hc := fun q => E.clean0 d0 q
  have hl := E.ln
  have oS := E.oS
  have hN := E.hN
  have hix := E.idx
  have hld := E.load
  have hst := E.store
  rw [reverseLoop]
  by_cases c : (i : Int) < j
  · rw [if_pos (by omega)]
    have ih := l_ord_rev d0 (i + 1) (j - 1) (by omega) (by omega) (by omega) (Go.Sort.swp d i j.toNat) (by simpa using hd)
    have e1 : (j - 1).toNat = j.toNat - 1 := by omega
    rw [e1] at ih
    have e4 : swI d (i : Int) j = Go.Sort.swp d i j.toNat := swI_swp _ _ _ _ _ rfl (by omega)
    unfold swI at e4
    rw [← ih]
    clear ih
    rw [floop_at i_zz5_B1.eq_1]
    simp (disch := first | assumption | omega | (simp [*] <;> omega) | fail) [-getElem?_pos, List.getElem?_cons_zero, List.getElem?_cons_succ, hc, hl, oS, hix, hld, hst, hd, wrap64, c, e4]
  · rw [if_neg (by omega)]
    rw [floop_at i_zz5_B1.eq_1]
    simp (disch := first | assumption | omega | (simp [*] <;> omega) | fail) [-getElem?_pos, List.getElem?_cons_zero, List.getElem?_cons_succ, hc, hl, oS, c]
 termination_by (j - i).toNat
theorem c_ord_rev (a b : Nat) (d : Array Nat) (hd : d.size = N) (hab : a < b) (hb : b ≤ N) :
  vcall F nro k_zz5 [S, .int .i64 a, .int .i64 b] (H d) = some (.tuple #[], H (reverseRange d a b)) := by
 have hc0 := fun q vs => E.clean0 d q vs
 have hN := E.hN
 have l1 := l_ord_rev E d a ((b : Int) - 1) (by omega) (by omega) (by omega) d hd
 rw [show ((b : Int) - 1).toNat = b - 1 by omega] at l1
 refine v_zz5 (by simp [i_zz5]) ?_
 rw [fbody_eq]
 unfold reverseRange
 simp (disch := first | assumption | omega | (simp [*] <;> omega) | fail) [-getElem?_pos, List.getElem?_cons_zero, List.getElem?_cons_succ, i_zz5, wrap64, l1, hc0, fresults, fresL]
end
end

/- Sorting: patterns are broken. -/
section
open Go Go.Sort
variable {nro : Nat} {S C : Value} {P : Int → Value} {ag : Nat → Value} {cm : Nat → Nat → Int} {N : Nat} {H : Array Nat → VH}
theorem iand_u64 (a : Int) (m : Nat) (hm : m < 18446744073709551616) : 0 ≤ iand .u64 a m ∧ iand .u64 a m ≤ m := by
 rw [iand_eq]
 have h1 : (BitVec.ofInt IntKind.u64.bits a &&& BitVec.ofInt IntKind.u64.bits (m : Int)).toNat ≤ m := by
  rw [BitVec.toNat_and]
  refine Nat.le_trans Nat.and_le_right ?_
  show (BitVec.ofInt 64 (m : Int)).toNat ≤ m
  rw [BitVec.toNat_ofInt]
  omega
 obtain ⟨t, ht⟩ : ∃ t, t = (BitVec.ofInt IntKind.u64.bits a &&& BitVec.ofInt IntKind.u64.bits (m : Int)).toNat := ⟨_, rfl⟩
 rw [← ht] at h1 ⊢
 clear ht
 have h2 : IntKind.u64.wrap (t : Int) = t := wrapu64 (by omega) (by omega)
 rw [h2]
 omega
theorem swp_permI {d : Array Nat} {a b i j : Nat} (h1 : a ≤ i) (h2 : i < b) (h3 : a ≤ j) (h4 : j < b) (h5 : b ≤ d.size) : PermIn a b d (Go.Sort.swp d i j) := swp_permIn d a b i j h1 h2 h3 h4 h5
end

/- Sorting: patterns are broken. -/
section
open Go Go.Sort
variable {nro : Nat} {S : Value} {P : Int → Value} {ag : Nat → Value} {cm : Nat → Nat → Int} {N : Nat} {H : Array Nat → VH}
theorem SXO.get (E : SXO nro S P ag cm N H) (d : Array Nat) (o : VO) : (H d ++ [o])[(H #[]).length]? = some o := by
 rw [← E.base.ln d]; simp
section
variable (E : SXO nro S P ag cm N H)
include E
theorem l_ord_break (a b m : Nat) (w : Nat) (hm : m = 2 * w) (h8 : 8 ≤ b - a) (hb : b ≤ N) (hN : N ≤ 255) (hm2 : b - a < m) (hm3 : m ≤ 2 * (b - a) + 1) (d0 : Array Nat) (r0 : Int) : ∀ (k i : Nat) (r : Int) (d : Array Nat), d.size = N → i + k = a + (b - a) / 4 * 2 + 2 → a + 1 ≤ i →
  ∃ d' r', d'.size = N ∧ PermIn a b d d' ∧ floop (vcall F nro) nro [0, 1, 6, 7, 8, 9] i_zz3_B1 (H d0 ++ [⟨0, [.int .u64 r0]⟩]) [S, .int .i64 a, .int .i64 ((b - a : Nat) : Int), .pointer (some ⟨(H #[]).length, 0, some 1⟩), .int .u64 m, .int .i64 i] (H d ++ [⟨0, [.int .u64 r]⟩]) =
   some (.exit 0, fl [], H d' ++ [⟨0, [.int .u64 r']⟩])
 | 0, i, r, d, hd, hk, hi => by
  refine ⟨d, r, hd, permIn_refl d a b, ?_⟩
  have hcl := fun vs => E.clean d0 d ⟨0, [.int .u64 r0]⟩ ⟨0, [.int .u64 r]⟩ (fun n => by intro q hq; simp [orefs, trefs, vrefs, crefs, arefs] at hq) [] vs
  have hl := E.base.ln
  have oS := E.base.oS
  obtain ⟨len, hlen⟩ : ∃ len, len = b - a := ⟨_, rfl⟩
  rw [← hlen]
  obtain ⟨q, hq⟩ : ∃ q : Nat, q = len / 4 := ⟨_, rfl⟩
  have t1 : ((len : Nat) : Int).tdiv 4 = q := by rw [Int.tdiv_eq_ediv_of_nonneg (by omega)]; omega
  have hq2 : q ≤ 255 := by omega
  have w1 : IntKind.i64.wrap (q : Int) = q := wrap64 (by omega) (by omega)
  have w2 : IntKind.i64.wrap ((q : Int) * 2) = (q : Int) * 2 := wrap64 (by omega) (by omega)
  have w3 : IntKind.i64.wrap ((a : Int) + (q : Int) * 2) = (a : Int) + (q : Int) * 2 := wrap64 (by omega) (by omega)
  have w4 : IntKind.i64.wrap ((a : Int) + (q : Int) * 2 + 1) = (a : Int) + (q : Int) * 2 + 1 := wrap64 (by omega) (by omega)
  have c1 : ¬ (i : Int) ≤ (a : Int) + (q : Int) * 2 + 1 := by omega
  rw [floop_at i_zz3_B1.eq_1]
  simp (disch := first | assumption | omega | (simp [*] <;> omega) | fail) [-getElem?_pos, List.getElem?_cons_zero, List.getElem?_cons_succ, hcl, hl, oS, t1, w1, w2, w3, w4, c1]
 | k + 1, i, r, d, hd, hk, hi => by
  have hcl := fun r' d' vs => E.clean d0 d' ⟨0, [.int .u64 r0]⟩ ⟨0, [.int .u64 r']⟩ (fun n => by intro q hq; simp [orefs, trefs, vrefs, crefs, arefs] at hq) [] vs
  have hl := E.base.ln
  have oS := E.base.oS
  have hnr := E.base.nr #[]
  have hix := E.idx
  have hld := E.load
  have hst := E.store
  obtain ⟨r', hr', ex⟩ := c_xorshift (nro := nro) (H d) (E.base.nr d) r
  rw [hl d] at ex
  obtain ⟨len, hlen⟩ : ∃ len, len = b - a := ⟨_, rfl⟩
  rw [← hlen]
  obtain ⟨q, hq⟩ : ∃ q : Nat, q = len / 4 := ⟨_, rfl⟩
  have t1 : ((len : Nat) : Int).tdiv 4 = q := by rw [Int.tdiv_eq_ediv_of_nonneg (by omega)]; omega
  have hq2 : q ≤ 255 := by omega
  have w1 : IntKind.i64.wrap (q : Int) = q := wrap64 (by omega) (by omega)
  have w2 : IntKind.i64.wrap ((q : Int) * 2) = (q : Int) * 2 := wrap64 (by omega) (by omega)
  have w3 : IntKind.i64.wrap ((a : Int) + (q : Int) * 2) = (a : Int) + (q : Int) * 2 := wrap64 (by omega) (by omega)
  have w4 : IntKind.i64.wrap ((a : Int) + (q : Int) * 2 + 1) = (a : Int) + (q : Int) * 2 + 1 := wrap64 (by omega) (by omega)
  have c1 : (i : Int) ≤ (a : Int) + (q : Int) * 2 + 1 := by omega
  have w5 : IntKind.u64.wrap ((m : Int) - 1) = ((m - 1 : Nat) : Int) := by rw [show (m : Int) - 1 = ((m - 1 : Nat) : Int) by omega]; exact wrapu64 (by omega) (by omega)
  obtain ⟨a1, a2⟩ := iand_u64 (r' : Int) (m - 1) (by omega)
  obtain ⟨x, hx⟩ : ∃ x, iand .u64 (r' : Int) ((m - 1 : Nat) : Int) = x := ⟨_, rfl⟩
  rw [hx] at a1 a2
  have w6 : IntKind.i64.wrap x = x := wrap64 (by omega) (by omega)
  have w9 : IntKind.i64.wrap ((i : Int) + 1) = (i : Int) + 1 := wrap64 (by omega) (by omega)
  have i0 : (0 : Int) ≤ i := by omega
  have i1 : (i : Int) < N := by omega
  by_cases c2 : (len : Int) ≤ x
  ·have w7 : IntKind.i64.wrap (x - len) = x - len := wrap64 (by omega) (by omega)
   have w8 : IntKind.i64.wrap ((a : Int) + (x - len)) = (a : Int) + (x - len) := wrap64 (by omega) (by omega)
   have j0 : (0 : Int) ≤ (a : Int) + (x - len) := by omega
   have j1 : (a : Int) + (x - len) < N := by omega
   have e4 : swI d (i : Int) ((a : Int) + (x - len)) = Go.Sort.swp d i (a + (x.toNat - len)) := swI_swp _ _ _ _ _ rfl (by omega)
   unfold swI at e4
   have hp := swp_permI (d := d) (a := a) (b := b) (i := i) (j := a + (x.toNat - len)) (by omega) (by omega) (by omega) (by omega) (by omega)
   obtain ⟨d', r2, p1, p2, ih⟩ := l_ord_break a b m w hm (by omega) hb hN (by omega) (by omega) d0 r0 k (i + 1) r' (Go.Sort.swp d i (a + (x.toNat - len))) (by simpa using hd) (by omega) (by omega)
   refine ⟨d', r2, p1, permIn_trans _ _ _ a b hp p2, ?_⟩
   rw [← hlen] at ih
   rw [← ih]
   clear ih p1 p2 hp hk hm hm2 hm3
   rw [floop_at i_zz3_B1.eq_1]
   simp (disch := first | assumption | omega | (simp [*] <;> omega) | fail) [-getElem?_pos, List.getElem?_cons_zero, List.getElem?_cons_succ, hcl, hl, oS, hix, hld, hst, hd, t1, w1, w2, w3, w4, c1, ex, w5, hx, w6, c2, w7, w8, w9, i0, i1, j0, j1, e4]
  ·have w8 : IntKind.i64.wrap ((a : Int) + x) = (a : Int) + x := wrap64 (by omega) (by omega)
   have j0 : (0 : Int) ≤ (a : Int) + x := by omega
   have j1 : (a : Int) + x < N := by omega
   have e4 : swI d (i : Int) ((a : Int) + x) = Go.Sort.swp d i (a + x.toNat) := swI_swp _ _ _ _ _ rfl (by omega)
   unfold swI at e4
   have hp := swp_permI (d := d) (a := a) (b := b) (i := i) (j := a + x.toNat) (by omega) (by omega) (by omega) (by omega) (by omega)
   obtain ⟨d', r2, p1, p2, ih⟩ := l_ord_break a b m w hm (by omega) hb hN (by omega) (by omega) d0 r0 k (i + 1) r' (Go.Sort.swp d i (a + x.toNat)) (by simpa using hd) (by omega) (by omega)
   refine ⟨d', r2, p1, permIn_trans _ _ _ a b hp p2, ?_⟩
   rw [← hlen] at ih
   rw [← ih]
   clear ih p1 p2 hp hk hm hm2 hm3
   rw [floop_at i_zz3_B1.eq_1]
   simp (disch := first | assumption | omega | (simp [*] <;> omega) | fail) [-getElem?_pos, List.getElem?_cons_zero, List.getElem?_cons_succ, hcl, hl, oS, hix, hld, hst, hd, t1, w1, w2, w3, w4, c1, ex, w5, hx, w6, c2, w8, w9, i0, i1, j0, j1, e4]
theorem c_ord_break (a b : Nat) (d : Array Nat) (hd : d.size = N) (hab : a ≤ b) (hb : b ≤ N) (hN : N ≤ 255) :
  ∃ d', d'.size = N ∧ PermIn a b d d' ∧ vcall F nro k_zz3 [S, .int .i64 a, .int .i64 b] (H d) = some (.tuple #[], H d') := by
 have hc0 := fun q L vs => E.base.clean d q L vs
 have hc1 := fun q vs => E.base.clean0 d q vs
 have hl := E.base.ln
 have hnr := E.base.nr #[]
 have hgt := E.get
 obtain ⟨len, hlen⟩ : ∃ len, len = b - a := ⟨_, rfl⟩
 have w0 : IntKind.i64.wrap ((b : Int) - a) = len := by rw [show (b : Int) - a = len by omega]; exact wrap64 (by omega) (by omega)
 by_cases c : (8 : Int) ≤ len
 ·obtain ⟨y, y1, y2, y3, ep⟩ := c_pow2 (nro := nro) len (by omega) (H d ++ [⟨0, [.int .u64 len]⟩])
  obtain ⟨w, hw⟩ : ∃ w, 2 ^ y = 2 * w := by
   cases y with
   | zero => simp at y2; omega
   | succ y => exact ⟨2 ^ y, by rw [Nat.pow_succ, Nat.mul_comm]⟩
  obtain ⟨q, hq⟩ : ∃ q : Nat, q = len / 4 := ⟨_, rfl⟩
  obtain ⟨d', r', p1, p2, lp⟩ := l_ord_break E a b (2 ^ y) w hw (by omega) hb hN (by omega) (by omega) d len 3 (a + q * 2 - 1) len d hd (by omega) (by omega)
  refine ⟨d', p1, p2, ?_⟩
  have t1 : ((len : Nat) : Int).tdiv 4 = q := by rw [Int.tdiv_eq_ediv_of_nonneg (by omega)]; omega
  have w1 : IntKind.i64.wrap (q : Int) = q := wrap64 (by omega) (by omega)
  have w2 : IntKind.i64.wrap ((q : Int) * 2) = (q : Int) * 2 := wrap64 (by omega) (by omega)
  have w3 : IntKind.i64.wrap ((a : Int) + (q : Int) * 2) = (a : Int) + (q : Int) * 2 := wrap64 (by omega) (by omega)
  have w4 : IntKind.i64.wrap ((a : Int) + (q : Int) * 2 - 1) = ((a + q * 2 - 1 : Nat) : Int) := by rw [show (a : Int) + (q : Int) * 2 - 1 = ((a + q * 2 - 1 : Nat) : Int) by omega]; exact wrap64 (by omega) (by omega)
  have w5 : IntKind.u64.wrap (len : Int) = len := wrapu64 (by omega) (by omega)
  rw [← hlen] at lp
  obtain ⟨z, hz⟩ : ∃ z, z = 2 ^ y := ⟨_, rfl⟩
  rw [← hz] at lp ep
  obtain ⟨i0, hi0⟩ : ∃ i0, i0 = a + q * 2 - 1 := ⟨_, rfl⟩
  rw [← hi0] at lp w4
  clear p1 p2 hw hq y1 y2 y3 hz hi0
  refine v_zz3 (by simp [i_zz3]) ?_
  rw [fbody_eq]
  simp (disch := first | assumption | omega | (simp [*] <;> omega) | fail) [-getElem?_pos, List.getElem?_cons_zero, List.getElem?_cons_succ, i_zz3, w0, c, w5, hl, hnr, hgt, ep, t1, w1, w2, w3, w4, lp, hc0, fresults, fresL]
 ·refine ⟨d, hd, permIn_refl d a b, ?_⟩
  refine v_zz3 (by simp [i_zz3]) ?_
  rw [fbody_eq]
  simp (disch := first | assumption | omega | (simp [*] <;> omega) | fail) [-getElem?_pos, List.getElem?_cons_zero, List.getElem?_cons_succ, i_zz3, w0, c, hc1, fresults, fresL]
end
end

/- Sorting: a pivot is chosen. -/
section
open Go Go.Sort
variable {nro : Nat} {S : Value} {P : Int → Value} {ag : Nat → Value} {cm : Nat → Nat → Int} {N : Nat} {H : Array Nat → VH}
section
variable (E : SXO nro S P ag cm N H)
include E
theorem SXO.cl (d : Array Nat) (s s' : Int) (L : VH) (vs : List Value) (hv : ∀ v ∈ vs, Old ((H #[]).length + 1) v) : kclean (H d ++ [⟨0, [.int .i64 s]⟩]) vs (H d ++ ⟨0, [.int .i64 s']⟩ :: L) = (vs, H d ++ [⟨0, [.int .i64 s']⟩]) :=
 E.clean d d _ _ (fun n => by intro q hq; simp [orefs, trefs, vrefs, crefs, arefs] at hq) L vs hv
theorem c_ord_order2 (d : Array Nat) (hd : d.size = N) (a b : Nat) (ha : a < N) (hb : b < N) (s : Nat) (hs : s ≤ 100) :
  ∃ a' b' s' : Nat, s' ≤ s + 1 ∧ ((a' = a ∧ b' = b) ∨ (a' = b ∧ b' = a)) ∧ vcall F nro k_zz14 [S, .int .i64 a, .int .i64 b, .pointer (some ⟨(H #[]).length, 0, some 1⟩)] (H d ++ [⟨0, [.int .i64 s]⟩]) = some (.tuple #[.int .i64 a', .int .i64 b'], H d ++ [⟨0, [.int .i64 s']⟩]) := by
 have hcl := fun s' vs => E.cl d s s' [] vs
 have hl := E.base.ln
 have hnr := E.base.nr #[]
 have hgt := E.get
 have hix := E.idx
 have hld := E.load
 have hcm := E.cmp
 have w1 : IntKind.i64.wrap ((s : Int) + 1) = (s : Int) + 1 := wrap64 (by omega) (by omega)
 have a0 : (0 : Int) ≤ a := by omega
 have b0 : (0 : Int) ≤ b := by omega
 have a1 : (a : Int) < N := by omega
 have b1 : (b : Int) < N := by omega
 by_cases c : cm (getI d (b : Int)) (getI d (a : Int)) < 0
 ·refine ⟨b, a, s + 1, by omega, .inr ⟨rfl, rfl⟩, ?_⟩
  refine v_zz14 (by simp [i_zz14]) ?_
  rw [fbody_eq]
  simp (disch := first | assumption | omega | (simp [*] <;> omega) | fail) [-getElem?_pos, List.getElem?_cons_zero, List.getElem?_cons_succ, i_zz14, hix, hld, hcm, hd, a0, b0, a1, b1, c, hl, hnr, hgt, w1, hcl, fresults, fresL, fres1]
 ·refine ⟨a, b, s, by omega, .inl ⟨rfl, rfl⟩, ?_⟩
  refine v_zz14 (by simp [i_zz14]) ?_
  rw [fbody_eq]
  simp (disch := first | assumption | omega | (simp [*] <;> omega) | fail) [-getElem?_pos, List.getElem?_cons_zero, List.getElem?_cons_succ, i_zz14, hix, hld, hcm, hd, a0, b0, a1, b1, c, hl, hnr, hgt, w1, hcl, fresults, fresL, fres1]
theorem c_ord_median (d : Array Nat) (hd : d.size = N) (a b c : Nat) (ha : a < N) (hb : b < N) (hc : c < N) (s : Nat) (hs : s ≤ 50) :
  ∃ m s' : Nat, s' ≤ s + 3 ∧ (m = a ∨ m = b ∨ m = c) ∧ vcall F nro k_zz13 [S, .int .i64 a, .int .i64 b, .int .i64 c, .pointer (some ⟨(H #[]).length, 0, some 1⟩)] (H d ++ [⟨0, [.int .i64 s]⟩]) = some (.int .i64 m, H d ++ [⟨0, [.int .i64 s']⟩]) := by
 have hcl := fun s' vs => E.cl d s s' [] vs
 obtain ⟨a1, b1, s1, q1, p1, e1⟩ := c_ord_order2 E d hd a b ha hb s (by omega)
 obtain ⟨b2, c2, s2, q2, p2, e2⟩ := c_ord_order2 E d hd b1 c (by omega) hc s1 (by omega)
 obtain ⟨a3, b3, s3, q3, p3, e3⟩ := c_ord_order2 E d hd a1 b2 (by omega) (by omega) s2 (by omega)
 refine ⟨b3, s3, by omega, by omega, ?_⟩
 clear p1 p2 p3 q1 q2 q3
 refine v_zz13 (by simp [i_zz13]) ?_
 rw [fbody_eq]
 simp (disch := first | assumption | omega | (simp [*] <;> omega) | fail) [-getElem?_pos, List.getElem?_cons_zero, List.getElem?_cons_succ, i_zz13, e1, e2, e3, hcl, fresults, fresL, fres1]
theorem c_ord_medianA (d : Array Nat) (hd : d.size = N) (a : Nat) (ha : a + 1 < N) (h1 : 1 ≤ a) (s : Nat) (hs : s ≤ 50) :
  ∃ m s' : Nat, s' ≤ s + 3 ∧ (m = a - 1 ∨ m = a ∨ m = a + 1) ∧ vcall F nro k_zz1 [S, .int .i64 a, .pointer (some ⟨(H #[]).length, 0, some 1⟩)] (H d ++ [⟨0, [.int .i64 s]⟩]) = some (.int .i64 m, H d ++ [⟨0, [.int .i64 s']⟩]) := by
 have hcl := fun s' vs => E.cl d s s' [] vs
 have hN := E.base.hN
 obtain ⟨m, s1, q1, p1, e1⟩ := c_ord_median E d hd (a - 1) a (a + 1) (by omega) (by omega) (by omega) s hs
 refine ⟨m, s1, q1, p1, ?_⟩
 have w1 : IntKind.i64.wrap ((a : Int) - 1) = ((a - 1 : Nat) : Int) := by rw [show (a : Int) - 1 = ((a - 1 : Nat) : Int) by omega]; exact wrap64 (by omega) (by omega)
 have w2 : IntKind.i64.wrap ((a : Int) + 1) = ((a + 1 : Nat) : Int) := by rw [show (a : Int) + 1 = ((a + 1 : Nat) : Int) by omega]; exact wrap64 (by omega) (by omega)
 obtain ⟨x, hx⟩ : ∃ x, x = a - 1 := ⟨_, rfl⟩
 obtain ⟨y, hy⟩ : ∃ y, y = a + 1 := ⟨_, rfl⟩
 rw [← hx, ← hy] at e1
 rw [← hx] at w1
 rw [← hy] at w2
 clear p1 q1 hx hy
 refine v_zz1 (by simp [i_zz1]) ?_
 rw [fbody_eq]
 simp (disch := first | assumption | omega | (simp [*] <;> omega) | fail) [-getElem?_pos, List.getElem?_cons_zero, List.getElem?_cons_succ, i_zz1, w1, w2, e1, hcl, fresults, fresL, fres1]
set_option maxHeartbeats 2000000 in
theorem c_ord_pivot (d : Array Nat) (hd : d.size = N) (a b : Nat) (hab : a < b) (hb : b ≤ N) :
  ∃ m t : Nat, (a ≤ m ∧ m < b) ∧ t ≤ 2 ∧ vcall F nro k_zz6 [S, .int .i64 a, .int .i64 b] (H d) = some (.tuple #[.int .i64 m, .int .i64 t], H d) := by
 have hc0 := fun L vs => E.base.clean d d L vs
 have hl := E.base.ln
 have hnr := E.base.nr #[]
 have hgt := E.get
 have hN := E.base.hN
 obtain ⟨len, hlen⟩ : ∃ len, len = b - a := ⟨_, rfl⟩
 have w0 : IntKind.i64.wrap ((b : Int) - a) = len := by rw [show (b : Int) - a = len by omega]; exact wrap64 (by omega) (by omega)
 obtain ⟨q, hq⟩ : ∃ q : Nat, q = len / 4 := ⟨_, rfl⟩
 have t1 : ((len : Nat) : Int).tdiv 4 = q := by rw [Int.tdiv_eq_ediv_of_nonneg (by omega)]; omega
 have hq2 : q ≤ 1000 := by omega
 have w1 : IntKind.i64.wrap (q : Int) = q := wrap64 (by omega) (by omega)
 obtain ⟨i, hi⟩ : ∃ i, i = a + q := ⟨_, rfl⟩
 obtain ⟨j, hj⟩ : ∃ j, j = a + q * 2 := ⟨_, rfl⟩
 obtain ⟨k, hk⟩ : ∃ k, k = a + q * 3 := ⟨_, rfl⟩
 have w2 : IntKind.i64.wrap ((q : Int) * 2) = (q : Int) * 2 := wrap64 (by omega) (by omega)
 have w3 : IntKind.i64.wrap ((q : Int) * 3) = (q : Int) * 3 := wrap64 (by omega) (by omega)
 have w4 : IntKind.i64.wrap ((a : Int) + q) = i := by rw [show (a : Int) + q = i by omega]; exact wrap64 (by omega) (by omega)
 have w5 : IntKind.i64.wrap ((a : Int) + (q : Int) * 2) = j := by rw [show (a : Int) + (q : Int) * 2 = j by omega]; exact wrap64 (by omega) (by omega)
 have w6 : IntKind.i64.wrap ((a : Int) + (q : Int) * 3) = k := by rw [show (a : Int) + (q : Int) * 3 = k by omega]; exact wrap64 (by omega) (by omega)
 by_cases c8 : (8 : Int) ≤ len
 ·by_cases c50 : (50 : Int) ≤ len
  ·obtain ⟨m1, s1, q1, p1, e1⟩ := c_ord_medianA E d hd i (by omega) (by omega) 0 (by omega)
   have r1 : a ≤ m1 ∧ m1 < b := by rcases p1 with h | h | h <;> omega
   clear p1
   obtain ⟨m2, s2, q2, p2, e2⟩ := c_ord_medianA E d hd j (by omega) (by omega) s1 (by omega)
   have r2 : a ≤ m2 ∧ m2 < b := by rcases p2 with h | h | h <;> omega
   clear p2
   obtain ⟨m3, s3, q3, p3, e3⟩ := c_ord_medianA E d hd k (by omega) (by omega) s2 (by omega)
   have r3 : a ≤ m3 ∧ m3 < b := by rcases p3 with h | h | h <;> omega
   clear p3
   obtain ⟨m4, s4, q4, p4, e4⟩ := c_ord_median E d hd m1 m2 m3 (by omega) (by omega) (by omega) s3 (by omega)
   have hr : a ≤ m4 ∧ m4 < b := by rcases p4 with h | h | h <;> rw [h] <;> assumption
   clear p4 r1 r2 r3 q1 q2 q3 q4 hi hj hk hq hlen
   simp only [Int.natCast_zero] at e1
   by_cases z0 : s4 = 0
   ·refine ⟨m4, 1, hr, by omega, ?_⟩
    subst z0
    clear hr
    refine v_zz6 (by simp [i_zz6]) ?_
    rw [fbody_eq]
    simp (disch := first | assumption | omega | (simp [*] <;> omega) | fail) [-getElem?_pos, List.getElem?_cons_zero, List.getElem?_cons_succ, i_zz6, w0, t1, w1, w2, w3, w4, w5, w6, c8, c50, hl, hnr, hgt, e1, e2, e3, e4, hc0, fresults, fresL, fres1]
   ·by_cases z1 : s4 = 12
    ·refine ⟨m4, 2, hr, by omega, ?_⟩
     subst z1
     clear hr
     refine v_zz6 (by simp [i_zz6]) ?_
     rw [fbody_eq]
     simp (disch := first | assumption | omega | (simp [*] <;> omega) | fail) [-getElem?_pos, List.getElem?_cons_zero, List.getElem?_cons_succ, i_zz6, w0, t1, w1, w2, w3, w4, w5, w6, c8, c50, hl, hnr, hgt, e1, e2, e3, e4, hc0, fresults, fresL, fres1]
    ·have z0' : ¬ (s4 : Int) = 0 := by omega
     have z1' : ¬ (s4 : Int) = 12 := by omega
     refine ⟨m4, 0, hr, by omega, ?_⟩
     clear hr
     refine v_zz6 (by simp [i_zz6]) ?_
     rw [fbody_eq]
     simp (disch := first | assumption | omega | (simp [*] <;> omega) | fail) [-getElem?_pos, List.getElem?_cons_zero, List.getElem?_cons_succ, i_zz6, w0, t1, w1, w2, w3, w4, w5, w6, c8, c50, hl, hnr, hgt, e1, e2, e3, e4, z0, z1, z0', z1', hc0, fresults, fresL, fres1]
  ·obtain ⟨m4, s4, q4, p4, e4⟩ := c_ord_median E d hd i j k (by omega) (by omega) (by omega) 0 (by omega)
   have hr : a ≤ m4 ∧ m4 < b := by rcases p4 with h | h | h <;> omega
   have z1 : ¬ s4 = 12 := by omega
   have z1' : ¬ (s4 : Int) = 12 := by omega
   simp only [Int.natCast_zero] at e4
   by_cases z0 : s4 = 0
   ·refine ⟨m4, 1, hr, by omega, ?_⟩
    subst z0
    clear p4 q4 hi hj hk hq hlen hr
    refine v_zz6 (by simp [i_zz6]) ?_
    rw [fbody_eq]
    simp (disch := first | assumption | omega | (simp [*] <;> omega) | fail) [-getElem?_pos, List.getElem?_cons_zero, List.getElem?_cons_succ, i_zz6, w0, t1, w1, w2, w3, w4, w5, w6, c8, c50, hl, hnr, hgt, e4, hc0, fresults, fresL, fres1]
   ·have z0' : ¬ (s4 : Int) = 0 := by omega
    refine ⟨m4, 0, hr, by omega, ?_⟩
    clear p4 q4 hi hj hk hq hlen hr
    refine v_zz6 (by simp [i_zz6]) ?_
    rw [fbody_eq]
    simp (disch := first | assumption | omega | (simp [*] <;> omega) | fail) [-getElem?_pos, List.getElem?_cons_zero, List.getElem?_cons_succ, i_zz6, w0, t1, w1, w2, w3, w4, w5, w6, c8, c50, hl, hnr, hgt, e4, z0, z0', z1, z1', hc0, fresults, fresL, fres1]
 ·refine ⟨j, 1, by omega, by omega, ?_⟩
  clear hi hj hk hq hlen
  refine v_zz6 (by simp [i_zz6]) ?_
  rw [fbody_eq]
  simp (disch := first | assumption | omega | (simp [*] <;> omega) | fail) [-getElem?_pos, List.getElem?_cons_zero, List.getElem?_cons_succ, i_zz6, w0, t1, w1, w2, w3, w4, w5, w6, c8, hl, hnr, hgt, hc0, fresults, fresL, fres1]
end
end

/- Sorting: partitions. -/
section
open Go Go.Sort
variable {nro : Nat} {S : Value} {P : Int → Value} {ag : Nat → Value} {cm : Nat → Nat → Int} {N : Nat} {H : Array Nat → VH}
section
variable (E : SO nro S P ag cm N H)
include E
theorem l_ord_up1 (a j : Nat) (haN : a < N) (hjN : j < N) (d0 d : Array Nat) (hd : d.size = N) (v : Nat) (hv : getI d (a : Int) = v) : ∀ (k i : Nat), j + 1 ≤ i + k → i ≤ N →
  floop (vcall F nro) nro [0, 1, 10, 11] i_zz8_B1 (H d0) [S, .int .i64 a, .int .i64 i, .int .i64 j] (H d) = some (.exit 0, fl [(0, S), (1, .int .i64 a), (10, .int .i64 ((scanUp (fun x => ltC cm x v) d j i : Nat))), (11, .int .i64 (j))], H d) := by
 have hc := fun q => E.clean0 d0 q
 have hl := E.ln
 have oS := E.oS
 have hN := E.hN
 have hix := E.idx
 have hld := E.load
 have hcm := E.cmp
 have a0 : (0 : Int) ≤ a := by omega
 have a1 : (a : Int) < N := by omega
 intro k
 induction k with
 | zero =>
  intro i hk hi
  have c1 : ¬ (i : Int) ≤ j := by omega
  have c2 : ¬ i ≤ j := by omega
  rw [scanUp, if_neg (by simp [c2]), floop_at i_zz8_B1.eq_1]
  simp (disch := first | assumption | omega | (simp [*] <;> omega) | fail) [-getElem?_pos, List.getElem?_cons_zero, List.getElem?_cons_succ, hc, hl, oS, c1, c2]
 | succ k ih =>
  intro i hk hi
  have gi := getI_nat d (i : Int) i rfl
  by_cases c1 : i ≤ j
  ·have c1' : (i : Int) ≤ j := by omega
   have i0 : (0 : Int) ≤ i := by omega
   have i1 : (i : Int) < N := by omega
   have w1 : IntKind.i64.wrap ((i : Int) + 1) = (i : Int) + 1 := wrap64 (by omega) (by omega)
   rw [scanUp, ← gi, ← hv]
   by_cases c2 : cm (getI d (i : Int)) (getI d (a : Int)) < 0
   ·have e2 : ltC cm (getI d (i : Int)) (getI d (a : Int)) = true := decide_eq_true c2
    rw [if_pos (by simp [c1, e2])]
    rw [hv]
    have ih2 := ih (i + 1) (by omega) (by omega)
    rw [← ih2]
    clear ih ih2 gi e2 hv
    rw [floop_at i_zz8_B1.eq_1]
    simp (disch := first | assumption | omega | (simp [*] <;> omega) | fail) [-getElem?_pos, List.getElem?_cons_zero, List.getElem?_cons_succ, hc, hl, oS, hix, hld, hcm, hd, c1', c1, c2, i0, i1, a0, a1, w1]
   ·have e2 : ltC cm (getI d (i : Int)) (getI d (a : Int)) = false := decide_eq_false c2
    rw [if_neg (by simp [e2])]
    clear ih gi e2 hv
    rw [floop_at i_zz8_B1.eq_1]
    simp (disch := first | assumption | omega | (simp [*] <;> omega) | fail) [-getElem?_pos, List.getElem?_cons_zero, List.getElem?_cons_succ, hc, hl, oS, hix, hld, hcm, hd, c1', c1, c2, i0, i1, a0, a1, w1]
  ·have c1' : ¬ (i : Int) ≤ j := by omega
   rw [scanUp, if_neg (by simp [c1]), floop_at i_zz8_B1.eq_1]
   simp (disch := first | assumption | omega | (simp [*] <;> omega) | fail) [-getElem?_pos, List.getElem?_cons_zero, List.getElem?_cons_succ, hc, hl, oS, c1', c1]
theorem l_ord_dn1 (a i : Nat) (haN : a < N) (hi1 : 1 ≤ i) (d0 d : Array Nat) (hd : d.size = N) (v : Nat) (hv : getI d (a : Int) = v) : ∀ (j : Nat), j < N →
  floop (vcall F nro) nro [0, 1, 10, 11] i_zz8_B2 (H d0) [S, .int .i64 a, .int .i64 i, .int .i64 j] (H d) = some (.exit 2, fl [(0, S), (1, .int .i64 a), (10, .int .i64 (i)), (11, .int .i64 ((scanDown (fun x => !ltC cm x v) d i j : Nat)))], H d) := by
 have hc := fun q => E.clean0 d0 q
 have hl := E.ln
 have oS := E.oS
 have hN := E.hN
 have hix := E.idx
 have hld := E.load
 have hcm := E.cmp
 have a0 : (0 : Int) ≤ a := by omega
 have a1 : (a : Int) < N := by omega
 intro j
 induction j with
 | zero =>
  intro hj
  have c1 : ¬ (i : Int) ≤ 0 := by omega
  have c2 : ¬ i = 0 := by omega
  rw [scanDown, floop_at i_zz8_B2.eq_1]
  simp (disch := first | assumption | omega | (simp [*] <;> omega) | fail) [-getElem?_pos, List.getElem?_cons_zero, List.getElem?_cons_succ, hc, hl, oS, c1, c2]
 | succ j ih =>
  intro hj
  have gi := getI_nat d ((j : Int) + 1) (j + 1) (by omega)
  by_cases c1 : i ≤ j + 1
  ·have c1' : (i : Int) ≤ (j : Int) + 1 := by omega
   have i0 : (0 : Int) ≤ (j : Int) + 1 := by omega
   have i1 : (j : Int) + 1 < N := by omega
   have w1 : IntKind.i64.wrap (j : Int) = j := wrap64 (by omega) (by omega)
   rw [scanDown, ← gi, ← hv]
   by_cases c2 : cm (getI d ((j : Int) + 1)) (getI d (a : Int)) < 0
   ·have e2 : ltC cm (getI d ((j : Int) + 1)) (getI d (a : Int)) = true := decide_eq_true c2
    rw [if_neg (by simp [e2])]
    clear ih gi e2 hv
    rw [floop_at i_zz8_B2.eq_1]
    simp (disch := first | assumption | omega | (simp [*] <;> omega) | fail) [-getElem?_pos, List.getElem?_cons_zero, List.getElem?_cons_succ, hc, hl, oS, hix, hld, hcm, hd, c1', c1, c2, i0, i1, a0, a1, w1]
   ·have e2 : ltC cm (getI d ((j : Int) + 1)) (getI d (a : Int)) = false := decide_eq_false c2
    rw [if_pos (by simp [c1, e2])]
    rw [hv]
    have ih2 := ih (by omega)
    rw [← ih2]
    clear ih ih2 gi e2 hv
    rw [floop_at i_zz8_B2.eq_1]
    simp (disch := first | assumption | omega | (simp [*] <;> omega) | fail) [-getElem?_pos, List.getElem?_cons_zero, List.getElem?_cons_succ, hc, hl, oS, hix, hld, hcm, hd, c1', c1, c2, i0, i1, a0, a1, w1]
  ·have c1' : ¬ (i : Int) ≤ (j : Int) + 1 := by omega
   rw [scanDown, if_neg (by simp [c1]), floop_at i_zz8_B2.eq_1]
   simp (disch := first | assumption | omega | (simp [*] <;> omega) | fail) [-getElem?_pos, List.getElem?_cons_zero, List.getElem?_cons_succ, hc, hl, oS, c1', c1]
theorem l_ord_up2 (a j : Nat) (haN : a < N) (hjN : j < N) (d0 d : Array Nat) (hd : d.size = N) (v : Nat) (hv : getI d (a : Int) = v) : ∀ (k i : Nat), j + 1 ≤ i + k → i ≤ N →
  floop (vcall F nro) nro [0, 1, 10, 11] i_zz8_B3 (H d0) [S, .int .i64 a, .int .i64 i, .int .i64 j] (H d) = some (.exit 6, fl [(0, S), (1, .int .i64 a), (10, .int .i64 ((scanUp (fun x => ltC cm x v) d j i : Nat))), (11, .int .i64 (j))], H d) := by
 have hc := fun q => E.clean0 d0 q
 have hl := E.ln
 have oS := E.oS
 have hN := E.hN
 have hix := E.idx
 have hld := E.load
 have hcm := E.cmp
 have a0 : (0 : Int) ≤ a := by omega
 have a1 : (a : Int) < N := by omega
 intro k
 induction k with
 | zero =>
  intro i hk hi
  have c1 : ¬ (i : Int) ≤ j := by omega
  have c2 : ¬ i ≤ j := by omega
  rw [scanUp, if_neg (by simp [c2]), floop_at i_zz8_B3.eq_1]
  simp (disch := first | assumption | omega | (simp [*] <;> omega) | fail) [-getElem?_pos, List.getElem?_cons_zero, List.getElem?_cons_succ, hc, hl, oS, c1, c2]
 | succ k ih =>
  intro i hk hi
  have gi := getI_nat d (i : Int) i rfl
  by_cases c1 : i ≤ j
  ·have c1' : (i : Int) ≤ j := by omega
   have i0 : (0 : Int) ≤ i := by omega
   have i1 : (i : Int) < N := by omega
   have w1 : IntKind.i64.wrap ((i : Int) + 1) = (i : Int) + 1 := wrap64 (by omega) (by omega)
   rw [scanUp, ← gi, ← hv]
   by_cases c2 : cm (getI d (i : Int)) (getI d (a : Int)) < 0
   ·have e2 : ltC cm (getI d (i : Int)) (getI d (a : Int)) = true := decide_eq_true c2
    rw [if_pos (by simp [c1, e2])]
    rw [hv]
    have ih2 := ih (i + 1) (by omega) (by omega)
    rw [← ih2]
    clear ih ih2 gi e2 hv
    rw [floop_at i_zz8_B3.eq_1]
    simp (disch := first | assumption | omega | (simp [*] <;> omega) | fail) [-getElem?_pos, List.getElem?_cons_zero, List.getElem?_cons_succ, hc, hl, oS, hix, hld, hcm, hd, c1', c1, c2, i0, i1, a0, a1, w1]
   ·have e2 : ltC cm (getI d (i : Int)) (getI d (a : Int)) = false := decide_eq_false c2
    rw [if_neg (by simp [e2])]
    clear ih gi e2 hv
    rw [floop_at i_zz8_B3.eq_1]
    simp (disch := first | assumption | omega | (simp [*] <;> omega) | fail) [-getElem?_pos, List.getElem?_cons_zero, List.getElem?_cons_succ, hc, hl, oS, hix, hld, hcm, hd, c1', c1, c2, i0, i1, a0, a1, w1]
  ·have c1' : ¬ (i : Int) ≤ j := by omega
   rw [scanUp, if_neg (by simp [c1]), floop_at i_zz8_B3.eq_1]
   simp (disch := first | assumption | omega | (simp [*] <;> omega) | fail) [-getElem?_pos, List.getElem?_cons_zero, List.getElem?_cons_succ, hc, hl, oS, c1', c1]
theorem l_ord_dn2 (a i : Nat) (haN : a < N) (hi1 : 1 ≤ i) (d0 d : Array Nat) (hd : d.size = N) (v : Nat) (hv : getI d (a : Int) = v) : ∀ (j : Nat), j < N →
  floop (vcall F nro) nro [0, 1, 10, 11] i_zz8_B4 (H d0) [S, .int .i64 a, .int .i64 i, .int .i64 j] (H d) = some (.exit 8, fl [(0, S), (1, .int .i64 a), (10, .int .i64 (i)), (11, .int .i64 ((scanDown (fun x => !ltC cm x v) d i j : Nat)))], H d) := by
 have hc := fun q => E.clean0 d0 q
 have hl := E.ln
 have oS := E.oS
 have hN := E.hN
 have hix := E.idx
 have hld := E.load
 have hcm := E.cmp
 have a0 : (0 : Int) ≤ a := by omega
 have a1 : (a : Int) < N := by omega
 intro j
 induction j with
 | zero =>
  intro hj
  have c1 : ¬ (i : Int) ≤ 0 := by omega
  have c2 : ¬ i = 0 := by omega
  rw [scanDown, floop_at i_zz8_B4.eq_1]
  simp (disch := first | assumption | omega | (simp [*] <;> omega) | fail) [-getElem?_pos, List.getElem?_cons_zero, List.getElem?_cons_succ, hc, hl, oS, c1, c2]
 | succ j ih =>
  intro hj
  have gi := getI_nat d ((j : Int) + 1) (j + 1) (by omega)
  by_cases c1 : i ≤ j + 1
  ·have c1' : (i : Int) ≤ (j : Int) + 1 := by omega
   have i0 : (0 : Int) ≤ (j : Int) + 1 := by omega
   have i1 : (j : Int) + 1 < N := by omega
   have w1 : IntKind.i64.wrap (j : Int) = j := wrap64 (by omega) (by omega)
   rw [scanDown, ← gi, ← hv]
   by_cases c2 : cm (getI d ((j : Int) + 1)) (getI d (a : Int)) < 0
   ·have e2 : ltC cm (getI d ((j : Int) + 1)) (getI d (a : Int)) = true := decide_eq_true c2
    rw [if_neg (by simp [e2])]
    clear ih gi e2 hv
    rw [floop_at i_zz8_B4.eq_1]
    simp (disch := first | assumption | omega | (simp [*] <;> omega) | fail) [-getElem?_pos, List.getElem?_cons_zero, List.getElem?_cons_succ, hc, hl, oS, hix, hld, hcm, hd, c1', c1, c2, i0, i1, a0, a1, w1]
   ·have e2 : ltC cm (getI d ((j : Int) + 1)) (getI d (a : Int)) = false := decide_eq_false c2
    rw [if_pos (by simp [c1, e2])]
    rw [hv]
    have ih2 := ih (by omega)
    rw [← ih2]
    clear ih ih2 gi e2 hv
    rw [floop_at i_zz8_B4.eq_1]
    simp (disch := first | assumption | omega | (simp [*] <;> omega) | fail) [-getElem?_pos, List.getElem?_cons_zero, List.getElem?_cons_succ, hc, hl, oS, hix, hld, hcm, hd, c1', c1, c2, i0, i1, a0, a1, w1]
  ·have c1' : ¬ (i : Int) ≤ (j : Int) + 1 := by omega
   rw [scanDown, if_neg (by simp [c1]), floop_at i_zz8_B4.eq_1]
   simp (disch := first | assumption | omega | (simp [*] <;> omega) | fail) [-getElem?_pos, List.getElem?_cons_zero, List.getElem?_cons_succ, hc, hl, oS, c1', c1]
theorem l_ord_up3 (a j : Nat) (haN : a < N) (hjN : j < N) (d0 d : Array Nat) (hd : d.size = N) (v : Nat) (hv : getI d (a : Int) = v) : ∀ (k i : Nat), j + 1 ≤ i + k → i ≤ N →
  floop (vcall F nro) nro [0, 1, 9, 10] i_zz2_B1 (H d0) [S, .int .i64 a, .int .i64 i, .int .i64 j] (H d) = some (.exit 2, fl [(0, S), (1, .int .i64 a), (9, .int .i64 ((scanUp (fun x => !ltC cm v x) d j i : Nat))), (10, .int .i64 (j))], H d) := by
 have hc := fun q => E.clean0 d0 q
 have hl := E.ln
 have oS := E.oS
 have hN := E.hN
 have hix := E.idx
 have hld := E.load
 have hcm := E.cmp
 have a0 : (0 : Int) ≤ a := by omega
 have a1 : (a : Int) < N := by omega
 intro k
 induction k with
 | zero =>
  intro i hk hi
  have c1 : ¬ (i : Int) ≤ j := by omega
  have c2 : ¬ i ≤ j := by omega
  rw [scanUp, if_neg (by simp [c2]), floop_at i_zz2_B1.eq_1]
  simp (disch := first | assumption | omega | (simp [*] <;> omega) | fail) [-getElem?_pos, List.getElem?_cons_zero, List.getElem?_cons_succ, hc, hl, oS, c1, c2]
 | succ k ih =>
  intro i hk hi
  have gi := getI_nat d (i : Int) i rfl
  by_cases c1 : i ≤ j
  ·have c1' : (i : Int) ≤ j := by omega
   have i0 : (0 : Int) ≤ i := by omega
   have i1 : (i : Int) < N := by omega
   have w1 : IntKind.i64.wrap ((i : Int) + 1) = (i : Int) + 1 := wrap64 (by omega) (by omega)
   rw [scanUp, ← gi, ← hv]
   by_cases c2 : cm (getI d (a : Int)) (getI d (i : Int)) < 0
   ·have e2 : ltC cm (getI d (a : Int)) (getI d (i : Int)) = true := decide_eq_true c2
    rw [if_neg (by simp [e2])]
    clear ih gi e2 hv
    rw [floop_at i_zz2_B1.eq_1]
    simp (disch := first | assumption | omega | (simp [*] <;> omega) | fail) [-getElem?_pos, List.getElem?_cons_zero, List.getElem?_cons_succ, hc, hl, oS, hix, hld, hcm, hd, c1', c1, c2, i0, i1, a0, a1, w1]
   ·have e2 : ltC cm (getI d (a : Int)) (getI d (i : Int)) = false := decide_eq_false c2
    rw [if_pos (by simp [c1, e2])]
    rw [hv]
    have ih2 := ih (i + 1) (by omega) (by omega)
    rw [← ih2]
    clear ih ih2 gi e2 hv
    rw [floop_at i_zz2_B1.eq_1]
    simp (disch := first | assumption | omega | (simp [*] <;> omega) | fail) [-getElem?_pos, List.getElem?_cons_zero, List.getElem?_cons_succ, hc, hl, oS, hix, hld, hcm, hd, c1', c1, c2, i0, i1, a0, a1, w1]
  ·have c1' : ¬ (i : Int) ≤ j := by omega
   rw [scanUp, if_neg (by simp [c1]), floop_at i_zz2_B1.eq_1]
   simp (disch := first | assumption | omega | (simp [*] <;> omega) | fail) [-getElem?_pos, List.getElem?_cons_zero, List.getElem?_cons_succ, hc, hl, oS, c1', c1]
theorem l_ord_dn3 (a i : Nat) (haN : a < N) (hi1 : 1 ≤ i) (d0 d : Array Nat) (hd : d.size = N) (v : Nat) (hv : getI d (a : Int) = v) : ∀ (j : Nat), j < N →
  floop (vcall F nro) nro [0, 1, 9, 10] i_zz2_B2 (H d0) [S, .int .i64 a, .int .i64 i, .int .i64 j] (H d) = some (.exit 4, fl [(0, S), (1, .int .i64 a), (9, .int .i64 (i)), (10, .int .i64 ((scanDown (fun x => ltC cm v x) d i j : Nat)))], H d) := by
 have hc := fun q => E.clean0 d0 q
 have hl := E.ln
 have oS := E.oS
 have hN := E.hN
 have hix := E.idx
 have hld := E.load
 have hcm := E.cmp
 have a0 : (0 : Int) ≤ a := by omega
 have a1 : (a : Int) < N := by omega
 intro j
 induction j with
 | zero =>
  intro hj
  have c1 : ¬ (i : Int) ≤ 0 := by omega
  have c2 : ¬ i = 0 := by omega
  rw [scanDown, floop_at i_zz2_B2.eq_1]
  simp (disch := first | assumption | omega | (simp [*] <;> omega) | fail) [-getElem?_pos, List.getElem?_cons_zero, List.getElem?_cons_succ, hc, hl, oS, c1, c2]
 | succ j ih =>
  intro hj
  have gi := getI_nat d ((j : Int) + 1) (j + 1) (by omega)
  by_cases c1 : i ≤ j + 1
  ·have c1' : (i : Int) ≤ (j : Int) + 1 := by omega
   have i0 : (0 : Int) ≤ (j : Int) + 1 := by omega
   have i1 : (j : Int) + 1 < N := by omega
   have w1 : IntKind.i64.wrap (j : Int) = j := wrap64 (by omega) (by omega)
   rw [scanDown, ← gi, ← hv]
   by_cases c2 : cm (getI d (a : Int)) (getI d ((j : Int) + 1)) < 0
   ·have e2 : ltC cm (getI d (a : Int)) (getI d ((j : Int) + 1)) = true := decide_eq_true c2
    rw [if_pos (by simp [c1, e2])]
    rw [hv]
    have ih2 := ih (by omega)
    rw [← ih2]
    clear ih ih2 gi e2 hv
    rw [floop_at i_zz2_B2.eq_1]
    simp (disch := first | assumption | omega | (simp [*] <;> omega) | fail) [-getElem?_pos, List.getElem?_cons_zero, List.getElem?_cons_succ, hc, hl, oS, hix, hld, hcm, hd, c1', c1, c2, i0, i1, a0, a1, w1]
   ·have e2 : ltC cm (getI d (a : Int)) (getI d ((j : Int) + 1)) = false := decide_eq_false c2
    rw [if_neg (by simp [e2])]
    clear ih gi e2 hv
    rw [floop_at i_zz2_B2.eq_1]
    simp (disch := first | assumption | omega | (simp [*] <;> omega) | fail) [-getElem?_pos, List.getElem?_cons_zero, List.getElem?_cons_succ, hc, hl, oS, hix, hld, hcm, hd, c1', c1, c2, i0, i1, a0, a1, w1]
  ·have c1' : ¬ (i : Int) ≤ (j : Int) + 1 := by omega
   rw [scanDown, if_neg (by simp [c1]), floop_at i_zz2_B2.eq_1]
   simp (disch := first | assumption | omega | (simp [*] <;> omega) | fail) [-getElem?_pos, List.getElem?_cons_zero, List.getElem?_cons_succ, hc, hl, oS, c1', c1]
end
end

/- Sorting: partitions, whole. -/
section
open Go Go.Sort
variable {nro : Nat} {S C : Value} {P : Int → Value} {ag : Nat → Value} {cm : Nat → Nat → Int} {N : Nat} {H : Array Nat → VH}
theorem partLoop_size (lt : Nat → Nat → Bool) (a : Nat) : ∀ (n i j : Nat) (d : Array Nat), j + 1 - i ≤ n → (partLoop lt a i j d).2.size = d.size ∧ (partLoop lt a i j d).1 ≤ j
  | n, i, j, d, hn => by
    rw [partLoop_eq]
    have h1 := scanUp_ge (fun x => lt x d[a]!) d j i
    have h2 := scanDown_le (fun x => !lt x d[a]!) d (scanUp (fun x => lt x d[a]!) d j i) j
    by_cases c : scanUp (fun x => lt x d[a]!) d j i > scanDown (fun x => !lt x d[a]!) d (scanUp (fun x => lt x d[a]!) d j i) j
    · rw [if_pos c]; exact ⟨rfl, h2⟩
    · rw [if_neg c]
      have ih := partLoop_size lt a (n - 1) (scanUp (fun x => lt x d[a]!) d j i + 1) (scanDown (fun x => !lt x d[a]!) d (scanUp (fun x => lt x d[a]!) d j i) j - 1) (Go.Sort.swp d (scanUp (fun x => lt x d[a]!) d j i) (scanDown (fun x => !lt x d[a]!) d (scanUp (fun x => lt x d[a]!) d j i) j)) (by omega)
      exact ⟨by rw [ih.1]; simp, by omega⟩
 termination_by _ i j _ _ => j + 1 - i
 decreasing_by
  simp_wf
  omega
end

/- Sorting: partitions, whole. -/
section
open Go Go.Sort
variable {nro : Nat} {S : Value} {P : Int → Value} {ag : Nat → Value} {cm : Nat → Nat → Int} {N : Nat} {H : Array Nat → VH}
section
variable (E : SO nro S P ag cm N H)
include E
set_option maxHeartbeats 1000000 in
theorem l_ord_part (a : Nat) (haN : a < N) (d0 : Array Nat) : ∀ (n i j : Nat) (d : Array Nat), d.size = N → j + 1 - i ≤ n → 1 ≤ i → i ≤ N → j < N →
  floop (vcall F nro) nro [0, 1, 10, 11] i_zz8_B5 (H d0) [S, .int .i64 a, .int .i64 i, .int .i64 j] (H d) = some (.exit 4, fl [(0, S), (1, .int .i64 a), (11, .int .i64 ((partLoop (ltC cm) a i j d).1 : Nat))], H (partLoop (ltC cm) a i j d).2) := by
 intro n
 induction n with
 | zero =>
  intro i j d hd hn hi hiN hj
  have hc := fun q => E.clean0 d0 q
  have hl := E.ln
  have oS := E.oS
  have u := l_ord_up2 E a j haN hj d d hd d[a]! (getI_nat d a a rfl) (j + 1) i (by omega) hiN
  have h1 := scanUp_ge (fun x => ltC cm x d[a]!) d j i
  have dn := l_ord_dn2 E a (scanUp (fun x => ltC cm x d[a]!) d j i) haN (by omega) d d hd d[a]! (getI_nat d a a rfl) j hj
  have h2 := scanDown_le (fun x => !ltC cm x d[a]!) d (scanUp (fun x => ltC cm x d[a]!) d j i) j
  rw [partLoop_eq]
  obtain ⟨x, hx⟩ : ∃ x, x = scanUp (fun x => ltC cm x d[a]!) d j i := ⟨_, rfl⟩
  rw [← hx] at u dn h1 h2 ⊢
  obtain ⟨y, hy⟩ : ∃ y, y = scanDown (fun x => !ltC cm x d[a]!) d x j := ⟨_, rfl⟩
  rw [← hy] at dn h2 ⊢
  have c : x > y := by omega
  have c' : (y : Int) < x := by omega
  rw [if_pos c]
  clear hx hy
  rw [floop_at i_zz8_B5.eq_1]
  simp (disch := first | assumption | omega | (simp [*] <;> omega) | fail) [-getElem?_pos, List.getElem?_cons_zero, List.getElem?_cons_succ, hc, hl, oS, u, dn, c']
 | succ n ih =>
  intro i j d hd hn hi hiN hj
  have hc := fun q => E.clean0 d0 q
  have hl := E.ln
  have oS := E.oS
  have hN := E.hN
  have hix := E.idx
  have hld := E.load
  have hst := E.store
  have u := l_ord_up2 E a j haN hj d d hd d[a]! (getI_nat d a a rfl) (j + 1) i (by omega) hiN
  have h1 := scanUp_ge (fun x => ltC cm x d[a]!) d j i
  have dn := l_ord_dn2 E a (scanUp (fun x => ltC cm x d[a]!) d j i) haN (by omega) d d hd d[a]! (getI_nat d a a rfl) j hj
  have h2 := scanDown_le (fun x => !ltC cm x d[a]!) d (scanUp (fun x => ltC cm x d[a]!) d j i) j
  rw [partLoop_eq]
  obtain ⟨x, hx⟩ : ∃ x, x = scanUp (fun x => ltC cm x d[a]!) d j i := ⟨_, rfl⟩
  rw [← hx] at u dn h1 h2 ⊢
  obtain ⟨y, hy⟩ : ∃ y, y = scanDown (fun x => !ltC cm x d[a]!) d x j := ⟨_, rfl⟩
  rw [← hy] at dn h2 ⊢
  by_cases c : x > y
  ·have c' : (y : Int) < x := by omega
   rw [if_pos c]
   clear hx hy ih
   rw [floop_at i_zz8_B5.eq_1]
   simp (disch := first | assumption | omega | (simp [*] <;> omega) | fail) [-getElem?_pos, List.getElem?_cons_zero, List.getElem?_cons_succ, hc, hl, oS, u, dn, c']
  ·have c' : ¬ (y : Int) < x := by omega
   rw [if_neg c]
   have ih2 := ih (x + 1) (y - 1) (Go.Sort.swp d x y) (by simpa using hd) (by omega) (by omega) (by omega) (by omega)
   rw [← ih2]
   have e4 : swI d (x : Int) (y : Int) = Go.Sort.swp d x y := swI_swp _ _ _ _ _ rfl rfl
   unfold swI at e4
   have w1 : IntKind.i64.wrap ((x : Int) + 1) = (x : Int) + 1 := wrap64 (by omega) (by omega)
   have w2 : IntKind.i64.wrap ((y : Int) - 1) = ((y - 1 : Nat) : Int) := by rw [show (y : Int) - 1 = ((y - 1 : Nat) : Int) by omega]; exact wrap64 (by omega) (by omega)
   have x0 : (0 : Int) ≤ x := by omega
   have y0 : (0 : Int) ≤ y := by omega
   have x1 : (x : Int) < N := by omega
   have y1 : (y : Int) < N := by omega
   obtain ⟨z, hz⟩ : ∃ z, z = y - 1 := ⟨_, rfl⟩
   rw [← hz] at w2 ⊢
   clear hx hy ih ih2 hz
   rw [floop_at i_zz8_B5.eq_1]
   simp (disch := first | assumption | omega | (simp [*] <;> omega) | fail) [-getElem?_pos, List.getElem?_cons_zero, List.getElem?_cons_succ, hc, hl, oS, u, dn, c', hix, hld, hst, hd, e4, w1, w2, x0, y0, x1, y1]
set_option maxHeartbeats 1000000 in
theorem c_ord_part (d : Array Nat) (hd : d.size = N) (a b p : Nat) (hap : a ≤ p) (hpb : p < b) (hb : b ≤ N) :
  vcall F nro k_zz8 [S, .int .i64 a, .int .i64 b, .int .i64 p] (H d) = some (.tuple #[.int .i64 ((partition (ltC cm) d a b p).1 : Nat), .bool (partition (ltC cm) d a b p).2.1], H (partition (ltC cm) d a b p).2.2) := by
 have hc0 := fun q vs => E.clean0 d q vs
 have hl := E.ln
 have hN := E.hN
 have hix := E.idx
 have hld := E.load
 have hst := E.store
 obtain ⟨d1, hd1⟩ : ∃ d1, d1 = Go.Sort.swp d a p := ⟨_, rfl⟩
 have hs1 : d1.size = N := by rw [hd1]; simpa using hd
 have e0 : swI d (a : Int) (p : Int) = d1 := by rw [hd1]; exact swI_swp _ _ _ _ _ rfl rfl
 unfold swI at e0
 have u := l_ord_up1 E a (b - 1) (by omega) (by omega) d1 d1 hs1 d1[a]! (getI_nat d1 a a rfl) b (a + 1) (by omega) (by omega)
 have h1 := scanUp_ge (fun x => ltC cm x d1[a]!) d1 (b - 1) (a + 1)
 have dn := l_ord_dn1 E a (scanUp (fun x => ltC cm x d1[a]!) d1 (b - 1) (a + 1)) (by omega) (by omega) d1 d1 hs1 d1[a]! (getI_nat d1 a a rfl) (b - 1) (by omega)
 have h2 := scanDown_le (fun x => !ltC cm x d1[a]!) d1 (scanUp (fun x => ltC cm x d1[a]!) d1 (b - 1) (a + 1)) (b - 1)
 have hdef : partition (ltC cm) d a b p = if scanUp (fun x => ltC cm x d1[a]!) d1 (b - 1) (a + 1) > scanDown (fun x => !ltC cm x d1[a]!) d1 (scanUp (fun x => ltC cm x d1[a]!) d1 (b - 1) (a + 1)) (b - 1) then (scanDown (fun x => !ltC cm x d1[a]!) d1 (scanUp (fun x => ltC cm x d1[a]!) d1 (b - 1) (a + 1)) (b - 1), true, Go.Sort.swp d1 (scanDown (fun x => !ltC cm x d1[a]!) d1 (scanUp (fun x => ltC cm x d1[a]!) d1 (b - 1) (a + 1)) (b - 1)) a) else ((partLoop (ltC cm) a (scanUp (fun x => ltC cm x d1[a]!) d1 (b - 1) (a + 1) + 1) (scanDown (fun x => !ltC cm x d1[a]!) d1 (scanUp (fun x => ltC cm x d1[a]!) d1 (b - 1) (a + 1)) (b - 1) - 1) (Go.Sort.swp d1 (scanUp (fun x => ltC cm x d1[a]!) d1 (b - 1) (a + 1)) (scanDown (fun x => !ltC cm x d1[a]!) d1 (scanUp (fun x => ltC cm x d1[a]!) d1 (b - 1) (a + 1)) (b - 1)))).1, false, Go.Sort.swp (partLoop (ltC cm) a (scanUp (fun x => ltC cm x d1[a]!) d1 (b - 1) (a + 1) + 1) (scanDown (fun x => !ltC cm x d1[a]!) d1 (scanUp (fun x => ltC cm x d1[a]!) d1 (b - 1) (a + 1)) (b - 1) - 1) (Go.Sort.swp d1 (scanUp (fun x => ltC cm x d1[a]!) d1 (b - 1) (a + 1)) (scanDown (fun x => !ltC cm x d1[a]!) d1 (scanUp (fun x => ltC cm x d1[a]!) d1 (b - 1) (a + 1)) (b - 1)))).2 (partLoop (ltC cm) a (scanUp (fun x => ltC cm x d1[a]!) d1 (b - 1) (a + 1) + 1) (scanDown (fun x => !ltC cm x d1[a]!) d1 (scanUp (fun x => ltC cm x d1[a]!) d1 (b - 1) (a + 1)) (b - 1) - 1) (Go.Sort.swp d1 (scanUp (fun x => ltC cm x d1[a]!) d1 (b - 1) (a + 1)) (scanDown (fun x => !ltC cm x d1[a]!) d1 (scanUp (fun x => ltC cm x d1[a]!) d1 (b - 1) (a + 1)) (b - 1)))).1 a) := by
  rw [hd1]; rfl
 rw [hdef]
 obtain ⟨x, hx⟩ : ∃ x, x = scanUp (fun x => ltC cm x d1[a]!) d1 (b - 1) (a + 1) := ⟨_, rfl⟩
 rw [← hx] at u dn h1 h2 ⊢
 obtain ⟨y, hy⟩ : ∃ y, y = scanDown (fun x => !ltC cm x d1[a]!) d1 x (b - 1) := ⟨_, rfl⟩
 rw [← hy] at dn h2 ⊢
 have w1 : IntKind.i64.wrap ((a : Int) + 1) = ((a + 1 : Nat) : Int) := by rw [show (a : Int) + 1 = ((a + 1 : Nat) : Int) by omega]; exact wrap64 (by omega) (by omega)
 have w2 : IntKind.i64.wrap ((b : Int) - 1) = ((b - 1 : Nat) : Int) := by rw [show (b : Int) - 1 = ((b - 1 : Nat) : Int) by omega]; exact wrap64 (by omega) (by omega)
 have a0 : (0 : Int) ≤ a := by omega
 have a1 : (a : Int) < N := by omega
 have p0 : (0 : Int) ≤ p := by omega
 have p1 : (p : Int) < N := by omega
 have y0 : (0 : Int) ≤ y := by omega
 have y1 : (y : Int) < N := by omega
 obtain ⟨i1, hi1⟩ : ∃ i1, i1 = a + 1 := ⟨_, rfl⟩
 obtain ⟨j1, hj1⟩ : ∃ j1, j1 = b - 1 := ⟨_, rfl⟩
 rw [← hi1] at w1 u
 rw [← hj1] at w2 u dn
 by_cases c : x > y
 ·have c' : (y : Int) < x := by omega
  rw [if_pos c]
  have e1 : swI d1 (y : Int) (a : Int) = Go.Sort.swp d1 y a := swI_swp _ _ _ _ _ rfl rfl
  unfold swI at e1
  clear hx hy hdef hd1 hi1 hj1
  refine v_zz8 (by simp [i_zz8]) ?_
  rw [fbody_eq]
  simp (disch := first | assumption | omega | (simp [*] <;> omega) | fail) [-getElem?_pos, List.getElem?_cons_zero, List.getElem?_cons_succ, i_zz8, hc0, hl, hix, hld, hst, hd, hs1, e0, u, dn, c', e1, w1, w2, a0, a1, p0, p1, y0, y1, fresults, fresL, fres1]
 ·have c' : ¬ (y : Int) < x := by omega
  rw [if_neg c]
  obtain ⟨d2, hd2⟩ : ∃ d2, d2 = Go.Sort.swp d1 x y := ⟨_, rfl⟩
  have hs2 : d2.size = N := by rw [hd2]; simpa using hs1
  have e2 : swI d1 (x : Int) (y : Int) = d2 := by rw [hd2]; exact swI_swp _ _ _ _ _ rfl rfl
  unfold swI at e2
  rw [← hd2]
  have lp := l_ord_part E a (by omega) d2 (y - 1 + 1 - (x + 1)) (x + 1) (y - 1) d2 hs2 (Nat.le_refl _) (by omega) (by omega) (by omega)
  obtain ⟨z1, z2⟩ := partLoop_size (ltC cm) a _ (x + 1) (y - 1) d2 (Nat.le_refl _)
  obtain ⟨r, hr⟩ : ∃ r, r = partLoop (ltC cm) a (x + 1) (y - 1) d2 := ⟨_, rfl⟩
  rw [← hr] at lp z1 z2 ⊢
  obtain ⟨r1, d3⟩ := r
  simp only at lp z1 z2 ⊢
  have hs3 : d3.size = N := by rw [z1]; exact hs2
  have e3 : swI d3 (r1 : Int) (a : Int) = Go.Sort.swp d3 r1 a := swI_swp _ _ _ _ _ rfl rfl
  unfold swI at e3
  have x0 : (0 : Int) ≤ x := by omega
  have x1 : (x : Int) < N := by omega
  have r0 : (0 : Int) ≤ r1 := by omega
  have r2 : (r1 : Int) < N := by omega
  have w3 : IntKind.i64.wrap ((x : Int) + 1) = ((x + 1 : Nat) : Int) := by rw [show (x : Int) + 1 = ((x + 1 : Nat) : Int) by omega]; exact wrap64 (by omega) (by omega)
  have w4 : IntKind.i64.wrap ((y : Int) - 1) = ((y - 1 : Nat) : Int) := by rw [show (y : Int) - 1 = ((y - 1 : Nat) : Int) by omega]; exact wrap64 (by omega) (by omega)
  obtain ⟨i2, hi2⟩ : ∃ i2, i2 = x + 1 := ⟨_, rfl⟩
  obtain ⟨j2, hj2⟩ : ∃ j2, j2 = y - 1 := ⟨_, rfl⟩
  rw [← hi2] at w3 lp
  rw [← hj2] at w4 lp
  clear hx hy hdef hd1 hi1 hj1 hi2 hj2 hr z1 z2 hd2
  refine v_zz8 (by simp [i_zz8]) ?_
  rw [fbody_eq]
  simp (disch := first | assumption | omega | (simp [*] <;> omega) | fail) [-getElem?_pos, List.getElem?_cons_zero, List.getElem?_cons_succ, i_zz8, hc0, hl, hix, hld, hst, hd, hs1, hs2, hs3, e0, u, dn, c', e2, e3, lp, w1, w2, w3, w4, a0, a1, p0, p1, x0, x1, y0, y1, r0, r2, fresults, fresL, fres1]
end
end

/- Sorting: partitions into equal and greater. -/
section
open Go Go.Sort
variable {nro : Nat} {S C : Value} {P : Int → Value} {ag : Nat → Value} {cm : Nat → Nat → Int} {N : Nat} {H : Array Nat → VH}
section
variable (E : SE nro true 3 S C P ag cm N H)
include E
omit E in
theorem shiftDown_size (lt : Nat → Nat → Bool) : ∀ (j : Nat) (d : Array Nat), (shiftDown lt j d).size = d.size
 | 0, d => rfl
 | j + 1, d => by
  unfold shiftDown
  split
  ·rfl
  ·rw [shiftDown_size lt j]; simp
omit E in
theorem shiftUp_size (lt : Nat → Nat → Bool) (b : Nat) (j : Nat) (d : Array Nat) : (shiftUp lt b j d).size = d.size := by
  rw [shiftUp]
  split
  · split
    · rfl
    · rw [shiftUp_size lt b (j + 1)]; simp
  · rfl
 termination_by b - j
end
end

/- Sorting: partitions into equal and greater. -/
section
open Go Go.Sort
variable {nro : Nat} {S : Value} {P : Int → Value} {ag : Nat → Value} {cm : Nat → Nat → Int} {N : Nat} {H : Array Nat → VH}
section
variable (E : SO nro S P ag cm N H)
include E
set_option maxHeartbeats 1000000 in
theorem l_ord_partE (a : Nat) (haN : a < N) (d0 : Array Nat) : ∀ (n i j : Nat) (d : Array Nat), d.size = N → j + 1 - i ≤ n → 1 ≤ i → i ≤ N → j < N →
  floop (vcall F nro) nro [0, 1, 9, 10] i_zz2_B3 (H d0) [S, .int .i64 a, .int .i64 i, .int .i64 j] (H d) = some (.exit 0, fl [(9, .int .i64 ((partEqLoop (ltC cm) a i j d).1 : Nat))], H (partEqLoop (ltC cm) a i j d).2) := by
 intro n
 induction n with
 | zero =>
  intro i j d hd hn hi hiN hj
  have hc := fun q => E.clean0 d0 q
  have hl := E.ln
  have oS := E.oS
  have u := l_ord_up3 E a j haN hj d d hd d[a]! (getI_nat d a a rfl) (j + 1) i (by omega) hiN
  have h1 := scanUp_ge (fun x => !ltC cm d[a]! x) d j i
  have dn := l_ord_dn3 E a (scanUp (fun x => !ltC cm d[a]! x) d j i) haN (by omega) d d hd d[a]! (getI_nat d a a rfl) j hj
  have h2 := scanDown_le (fun x => ltC cm d[a]! x) d (scanUp (fun x => !ltC cm d[a]! x) d j i) j
  rw [partEqLoop_eq]
  obtain ⟨x, hx⟩ : ∃ x, x = scanUp (fun x => !ltC cm d[a]! x) d j i := ⟨_, rfl⟩
  rw [← hx] at u dn h1 h2 ⊢
  obtain ⟨y, hy⟩ : ∃ y, y = scanDown (fun x => ltC cm d[a]! x) d x j := ⟨_, rfl⟩
  rw [← hy] at dn h2 ⊢
  have c : x > y := by omega
  have c' : (y : Int) < x := by omega
  rw [if_pos c]
  clear hx hy
  rw [floop_at i_zz2_B3.eq_1]
  simp (disch := first | assumption | omega | (simp [*] <;> omega) | fail) [-getElem?_pos, List.getElem?_cons_zero, List.getElem?_cons_succ, hc, hl, oS, u, dn, c']
 | succ n ih =>
  intro i j d hd hn hi hiN hj
  have hc := fun q => E.clean0 d0 q
  have hl := E.ln
  have oS := E.oS
  have hN := E.hN
  have hix := E.idx
  have hld := E.load
  have hst := E.store
  have u := l_ord_up3 E a j haN hj d d hd d[a]! (getI_nat d a a rfl) (j + 1) i (by omega) hiN
  have h1 := scanUp_ge (fun x => !ltC cm d[a]! x) d j i
  have dn := l_ord_dn3 E a (scanUp (fun x => !ltC cm d[a]! x) d j i) haN (by omega) d d hd d[a]! (getI_nat d a a rfl) j hj
  have h2 := scanDown_le (fun x => ltC cm d[a]! x) d (scanUp (fun x => !ltC cm d[a]! x) d j i) j
  rw [partEqLoop_eq]
  obtain ⟨x, hx⟩ : ∃ x, x = scanUp (fun x => !ltC cm d[a]! x) d j i := ⟨_, rfl⟩
  rw [← hx] at u dn h1 h2 ⊢
  obtain ⟨y, hy⟩ : ∃ y, y = scanDown (fun x => ltC cm d[a]! x) d x j := ⟨_, rfl⟩
  rw [← hy] at dn h2 ⊢
  by_cases c : x > y
  ·have c' : (y : Int) < x := by omega
   rw [if_pos c]
   clear hx hy ih
   rw [floop_at i_zz2_B3.eq_1]
   simp (disch := first | assumption | omega | (simp [*] <;> omega) | fail) [-getElem?_pos, List.getElem?_cons_zero, List.getElem?_cons_succ, hc, hl, oS, u, dn, c']
  ·have c' : ¬ (y : Int) < x := by omega
   rw [if_neg c]
   have ih2 := ih (x + 1) (y - 1) (Go.Sort.swp d x y) (by simpa using hd) (by omega) (by omega) (by omega) (by omega)
   rw [← ih2]
   have e4 : swI d (x : Int) (y : Int) = Go.Sort.swp d x y := swI_swp _ _ _ _ _ rfl rfl
   unfold swI at e4
   have w1 : IntKind.i64.wrap ((x : Int) + 1) = (x : Int) + 1 := wrap64 (by omega) (by omega)
   have w2 : IntKind.i64.wrap ((y : Int) - 1) = ((y - 1 : Nat) : Int) := by rw [show (y : Int) - 1 = ((y - 1 : Nat) : Int) by omega]; exact wrap64 (by omega) (by omega)
   have x0 : (0 : Int) ≤ x := by omega
   have y0 : (0 : Int) ≤ y := by omega
   have x1 : (x : Int) < N := by omega
   have y1 : (y : Int) < N := by omega
   obtain ⟨z, hz⟩ : ∃ z, z = y - 1 := ⟨_, rfl⟩
   rw [← hz] at w2 ⊢
   clear hx hy ih ih2 hz
   rw [floop_at i_zz2_B3.eq_1]
   simp (disch := first | assumption | omega | (simp [*] <;> omega) | fail) [-getElem?_pos, List.getElem?_cons_zero, List.getElem?_cons_succ, hc, hl, oS, u, dn, c', hix, hld, hst, hd, e4, w1, w2, x0, y0, x1, y1]
theorem c_ord_partE (d : Array Nat) (hd : d.size = N) (a b p : Nat) (hap : a ≤ p) (hpb : p < b) (hb : b ≤ N) :
  vcall F nro k_zz2 [S, .int .i64 a, .int .i64 b, .int .i64 p] (H d) = some (.int .i64 ((partitionEqual (ltC cm) d a b p).1 : Nat), H (partitionEqual (ltC cm) d a b p).2) := by
 have hc0 := fun q vs => E.clean0 d q vs
 have hl := E.ln
 have hN := E.hN
 have hix := E.idx
 have hld := E.load
 have hst := E.store
 unfold partitionEqual
 obtain ⟨d1, hd1⟩ : ∃ d1, d1 = Go.Sort.swp d a p := ⟨_, rfl⟩
 have hs1 : d1.size = N := by rw [hd1]; simpa using hd
 have e0 : swI d (a : Int) (p : Int) = d1 := by rw [hd1]; exact swI_swp _ _ _ _ _ rfl rfl
 unfold swI at e0
 rw [← hd1]
 have lp := l_ord_partE E a (by omega) d1 (b - 1 + 1 - (a + 1)) (a + 1) (b - 1) d1 hs1 (Nat.le_refl _) (by omega) (by omega) (by omega)
 obtain ⟨r, hr⟩ : ∃ r, r = partEqLoop (ltC cm) a (a + 1) (b - 1) d1 := ⟨_, rfl⟩
 rw [← hr] at lp ⊢
 have w1 : IntKind.i64.wrap ((a : Int) + 1) = ((a + 1 : Nat) : Int) := by rw [show (a : Int) + 1 = ((a + 1 : Nat) : Int) by omega]; exact wrap64 (by omega) (by omega)
 have w2 : IntKind.i64.wrap ((b : Int) - 1) = ((b - 1 : Nat) : Int) := by rw [show (b : Int) - 1 = ((b - 1 : Nat) : Int) by omega]; exact wrap64 (by omega) (by omega)
 have a0 : (0 : Int) ≤ a := by omega
 have a1 : (a : Int) < N := by omega
 have p0 : (0 : Int) ≤ p := by omega
 have p1 : (p : Int) < N := by omega
 obtain ⟨i1, hi1⟩ : ∃ i1, i1 = a + 1 := ⟨_, rfl⟩
 obtain ⟨j1, hj1⟩ : ∃ j1, j1 = b - 1 := ⟨_, rfl⟩
 rw [← hi1] at w1 lp
 rw [← hj1] at w2 lp
 clear hr hi1 hj1 hd1
 refine v_zz2 (by simp [i_zz2]) ?_
 rw [fbody_eq]
 simp (disch := first | assumption | omega | (simp [*] <;> omega) | fail) [-getElem?_pos, List.getElem?_cons_zero, List.getElem?_cons_succ, i_zz2, hc0, hl, hix, hld, hst, hd, hs1, e0, lp, w1, w2, a0, a1, p0, p1, fresults, fresL, fres1]
theorem l_ord_sorted (a b s : Nat) (hb : b ≤ N) (d0 d : Array Nat) (hd : d.size = N) : ∀ (k i : Nat), b ≤ i + k → 1 ≤ i → i ≤ N →
  floop (vcall F nro) nro [0, 1, 2, 7, 8] i_zz0_B1 (H d0) [S, .int .i64 a, .int .i64 b, .int .i64 i, .int .i64 s] (H d) = some (.exit 2, fl [(0, S), (1, .int .i64 a), (2, .int .i64 b), (7, .int .i64 ((scanSorted (ltC cm) d b i : Nat) : Int)), (8, .int .i64 s)], H d) := by
 have hc := fun q => E.clean0 d0 q
 have hl := E.ln
 have oS := E.oS
 have hN := E.hN
 have hix := E.idx
 have hld := E.load
 have hcm := E.cmp
 intro k
 induction k with
 | zero =>
  intro i hk hi hiN
  have c1 : ¬ (i : Int) < b := by omega
  have c2 : ¬ i < b := by omega
  rw [scanSorted, if_neg (by simp [c2]), floop_at i_zz0_B1.eq_1]
  simp (disch := first | assumption | omega | (simp [*] <;> omega) | fail) [-getElem?_pos, List.getElem?_cons_zero, List.getElem?_cons_succ, hc, hl, oS, c1, c2]
 | succ k ih =>
  intro i hk hi hiN
  by_cases c1 : i < b
  ·have c1' : (i : Int) < b := by omega
   have gi := getI_nat d (i : Int) i rfl
   have gj := getI_nat d ((i : Int) - 1) (i - 1) (by omega)
   have i0 : (0 : Int) ≤ i := by omega
   have i1 : (i : Int) < N := by omega
   have j0 : (0 : Int) ≤ (i : Int) - 1 := by omega
   have j1 : (i : Int) - 1 < N := by omega
   have w1 : IntKind.i64.wrap ((i : Int) + 1) = (i : Int) + 1 := wrap64 (by omega) (by omega)
   have w2 : IntKind.i64.wrap ((i : Int) - 1) = (i : Int) - 1 := wrap64 (by omega) (by omega)
   rw [scanSorted, ← gi, ← gj]
   by_cases c2 : cm (getI d (i : Int)) (getI d ((i : Int) - 1)) < 0
   ·have e2 : ltC cm (getI d (i : Int)) (getI d ((i : Int) - 1)) = true := decide_eq_true c2
    rw [if_neg (by simp [e2])]
    clear ih gi gj e2
    rw [floop_at i_zz0_B1.eq_1]
    simp (disch := first | assumption | omega | (simp [*] <;> omega) | fail) [-getElem?_pos, List.getElem?_cons_zero, List.getElem?_cons_succ, hc, hl, oS, hix, hld, hcm, hd, c1', c1, c2, i0, i1, j0, j1, w1, w2]
   ·have e2 : ltC cm (getI d (i : Int)) (getI d ((i : Int) - 1)) = false := decide_eq_false c2
    rw [if_pos (by simp [c1, e2])]
    have ih2 := ih (i + 1) (by omega) (by omega) (by omega)
    rw [← ih2]
    clear ih ih2 gi gj e2
    rw [floop_at i_zz0_B1.eq_1]
    simp (disch := first | assumption | omega | (simp [*] <;> omega) | fail) [-getElem?_pos, List.getElem?_cons_zero, List.getElem?_cons_succ, hc, hl, oS, hix, hld, hcm, hd, c1', c1, c2, i0, i1, j0, j1, w1, w2]
  ·have c1' : ¬ (i : Int) < b := by omega
   rw [scanSorted, if_neg (by simp [c1]), floop_at i_zz0_B1.eq_1]
   simp (disch := first | assumption | omega | (simp [*] <;> omega) | fail) [-getElem?_pos, List.getElem?_cons_zero, List.getElem?_cons_succ, hc, hl, oS, c1', c1]
theorem l_ord_shd (a b i s : Nat) (d0 : Array Nat) : ∀ (j : Nat) (d : Array Nat), d.size = N → j < N →
  floop (vcall F nro) nro [0, 1, 2, 7, 8, 9] i_zz0_B2 (H d0) [S, .int .i64 a, .int .i64 b, .int .i64 i, .int .i64 s, .int .i64 j] (H d) = some (.exit 4, fl [(0, S), (1, .int .i64 a), (2, .int .i64 b), (7, .int .i64 i), (8, .int .i64 s)], H (shiftDown (ltC cm) j d))
 | 0, d, hd, hj => by
  have hc := E.clean0 d0 d
  have hl := E.ln
  have oS := E.oS
  rw [floop_at i_zz0_B2.eq_1]
  unfold shiftDown
  simp (disch := first | assumption | omega | (simp [*] <;> omega) | fail) [-getElem?_pos, List.getElem?_cons_zero, List.getElem?_cons_succ, hc, hl, oS]
 | j + 1, d, hd, hj => by
  have hc := fun q => E.clean0 d0 q
  have hl := E.ln
  have oS := E.oS
  have hN := E.hN
  have hi := E.idx
  have hld := E.load
  have hst := E.store
  have hcm := E.cmp
  have w2 : IntKind.i64.wrap (j : Int) = j := wrap64 (by omega) (by omega)
  have g1 := getI_nat d ((j : Int) + 1) (j + 1) (by omega)
  have g2 := getI_nat d (j : Int) j rfl
  have k1 : (0 : Int) ≤ (j : Int) + 1 := by omega
  have k2 : (j : Int) + 1 < N := by omega
  have k3 : (j : Int) < N := by omega
  have k4 : (1 : Int) ≤ (j : Int) + 1 := by omega
  unfold shiftDown
  rw [← g1, ← g2]
  by_cases c2 : cm (getI d ((j : Int) + 1)) (getI d (j : Int)) < 0
  ·have e2 : ltC cm (getI d ((j : Int) + 1)) (getI d (j : Int)) = true := decide_eq_true c2
   have ih := l_ord_shd a b i s d0 j (Go.Sort.swp d (j + 1) j) (by simpa using hd) (by omega)
   have e3 : swI d ((j : Int) + 1) j = Go.Sort.swp d (j + 1) j := swI_swp _ _ _ _ _ (by omega) rfl
   unfold swI at e3
   rw [if_neg (by simp [e2]), ← ih]
   clear ih g1 g2
   rw [floop_at i_zz0_B2.eq_1]
   simp (disch := first | assumption | omega | (simp [*] <;> omega) | fail) [-getElem?_pos, List.getElem?_cons_zero, List.getElem?_cons_succ, hc, hl, oS, hi, hld, hst, hcm, hd, w2, k1, k2, k3, k4, c2, e3]
  ·have e2 : ltC cm (getI d ((j : Int) + 1)) (getI d (j : Int)) = false := decide_eq_false c2
   rw [if_pos (by simp [e2])]
   clear g1 g2
   rw [floop_at i_zz0_B2.eq_1]
   simp (disch := first | assumption | omega | (simp [*] <;> omega) | fail) [-getElem?_pos, List.getElem?_cons_zero, List.getElem?_cons_succ, hc, hl, oS, hi, hld, hst, hcm, hd, w2, k1, k2, k3, k4, c2]
theorem l_ord_shu (a b i s : Nat) (hb : b ≤ N) (d0 : Array Nat) : ∀ (k j : Nat) (d : Array Nat), d.size = N → b ≤ j + k → 1 ≤ j → j ≤ N + 1 →
  floop (vcall F nro) nro [0, 1, 2, 7, 8, 10] i_zz0_B3 (H d0) [S, .int .i64 a, .int .i64 b, .int .i64 i, .int .i64 s, .int .i64 j] (H d) = some (.exit 6, fl [(0, S), (1, .int .i64 a), (2, .int .i64 b), (7, .int .i64 i), (8, .int .i64 s)], H (shiftUp (ltC cm) b j d)) := by
 have hc := fun q => E.clean0 d0 q
 have hl := E.ln
 have oS := E.oS
 have hN := E.hN
 have hi := E.idx
 have hld := E.load
 have hst := E.store
 have hcm := E.cmp
 intro k
 induction k with
 | zero =>
  intro j d hd hk hj hjN
  have c1 : ¬ (j : Int) < b := by omega
  rw [shiftUp, if_neg (by omega), floop_at i_zz0_B3.eq_1]
  simp (disch := first | assumption | omega | (simp [*] <;> omega) | fail) [-getElem?_pos, List.getElem?_cons_zero, List.getElem?_cons_succ, hc, hl, oS, c1]
 | succ k ih =>
  intro j d hd hk hj hjN
  by_cases c1 : j < b
  ·have c1' : (j : Int) < b := by omega
   have g1 := getI_nat d (j : Int) j rfl
   have g2 := getI_nat d ((j : Int) - 1) (j - 1) (by omega)
   have k1 : (0 : Int) ≤ j := by omega
   have k2 : (j : Int) < N := by omega
   have k3 : (0 : Int) ≤ (j : Int) - 1 := by omega
   have k4 : (j : Int) - 1 < N := by omega
   have w1 : IntKind.i64.wrap ((j : Int) - 1) = (j : Int) - 1 := wrap64 (by omega) (by omega)
   have w2 : IntKind.i64.wrap ((j : Int) + 1) = (j : Int) + 1 := wrap64 (by omega) (by omega)
   rw [shiftUp, if_pos c1, ← g1, ← g2]
   by_cases c2 : cm (getI d (j : Int)) (getI d ((j : Int) - 1)) < 0
   ·have e2 : ltC cm (getI d (j : Int)) (getI d ((j : Int) - 1)) = true := decide_eq_true c2
    have ih2 := ih (j + 1) (Go.Sort.swp d j (j - 1)) (by simpa using hd) (by omega) (by omega) (by omega)
    have e3 : swI d (j : Int) ((j : Int) - 1) = Go.Sort.swp d j (j - 1) := swI_swp _ _ _ _ _ rfl (by omega)
    unfold swI at e3
    rw [if_neg (by simp [e2]), ← ih2]
    clear ih ih2 g1 g2
    rw [floop_at i_zz0_B3.eq_1]
    simp (disch := first | assumption | omega | (simp [*] <;> omega) | fail) [-getElem?_pos, List.getElem?_cons_zero, List.getElem?_cons_succ, hc, hl, oS, hi, hld, hst, hcm, hd, w1, w2, k1, k2, k3, k4, c1', c2, e3]
   ·have e2 : ltC cm (getI d (j : Int)) (getI d ((j : Int) - 1)) = false := decide_eq_false c2
    rw [if_pos (by simp [e2])]
    clear ih g1 g2
    rw [floop_at i_zz0_B3.eq_1]
    simp (disch := first | assumption | omega | (simp [*] <;> omega) | fail) [-getElem?_pos, List.getElem?_cons_zero, List.getElem?_cons_succ, hc, hl, oS, hi, hld, hst, hcm, hd, w1, w2, k1, k2, k3, k4, c1', c2]
  ·have c1' : ¬ (j : Int) < b := by omega
   rw [shiftUp, if_neg c1, floop_at i_zz0_B3.eq_1]
   simp (disch := first | assumption | omega | (simp [*] <;> omega) | fail) [-getElem?_pos, List.getElem?_cons_zero, List.getElem?_cons_succ, hc, hl, oS, c1']
end
end

/- Sorting: partial insertion. -/
section
open Go Go.Sort
variable {nro : Nat} {S C : Value} {P : Int → Value} {ag : Nat → Value} {cm : Nat → Nat → Int} {N : Nat} {H : Array Nat → VH}
theorem scanSorted_rng (lt : Nat → Nat → Bool) (d : Array Nat) (b : Nat) (i : Nat) : i ≤ scanSorted lt d b i ∧ (i ≤ b → scanSorted lt d b i ≤ b) := by
  by_cases c : (decide (i < b) && !lt d[i]! d[i - 1]!) = true
  · rw [scanSorted, if_pos c]
    have hlt : i < b := by simp at c; exact c.1
    have := scanSorted_rng lt d b (i + 1)
    omega
  · rw [scanSorted, if_neg c]
    omega
 termination_by b - i
 decreasing_by omega
end

/- Sorting: partial insertion. -/
section
open Go Go.Sort
variable {nro : Nat} {S : Value} {P : Int → Value} {ag : Nat → Value} {cm : Nat → Nat → Int} {N : Nat} {H : Array Nat → VH}
section
variable (E : SO nro S P ag cm N H)
include E
set_option maxHeartbeats 2000000 in
theorem l_ord_pis (a b : Nat) (hab : a < b) (hb : b ≤ N) (d0 : Array Nat) : ∀ (s j i : Nat) (d : Array Nat), j + s = 5 → d.size = N → a + 1 ≤ i → i ≤ b →
  ∃ x e, ((x = .ret ∧ e = fl [(6, .bool (partialIns (ltC cm) a b s i d).2)]) ∨ (x = .exit 0 ∧ e = fl [] ∧ (partialIns (ltC cm) a b s i d).2 = false)) ∧ floop (vcall F nro) nro [0, 1, 2, 7, 8] i_zz0_B4 (H d0) [S, .int .i64 a, .int .i64 b, .int .i64 i, .int .i64 j] (H d) = some (x, e, H (partialIns (ltC cm) a b s i d).1) ∧ (partialIns (ltC cm) a b s i d).1.size = N := by
 intro s
 induction s with
 | zero =>
  intro j i d hj hd hi hib
  have hc := fun q => E.clean0 d0 q
  have hl := E.ln
  have oS := E.oS
  refine ⟨.exit 0, fl [], .inr ⟨rfl, rfl, rfl⟩, ?_, hd⟩
  have c : ¬ (j : Int) < 5 := by omega
  rw [floop_at i_zz0_B4.eq_1]
  unfold partialIns
  simp (disch := first | assumption | omega | (simp [*] <;> omega) | fail) [-getElem?_pos, List.getElem?_cons_zero, List.getElem?_cons_succ, hc, hl, oS, c]
 | succ s ih =>
  intro j i d hj hd hi hib
  have hc := fun q => E.clean0 d0 q
  have hl := E.ln
  have oS := E.oS
  have hN := E.hN
  have hix := E.idx
  have hld := E.load
  have hst := E.store
  have c5 : (j : Int) < 5 := by omega
  have lp := l_ord_sorted E a b j hb d d hd b i (by omega) (by omega) (by omega)
  have hr := scanSorted_rng (ltC cm) d b i
  rw [partialIns_succ]
  obtain ⟨x, hx⟩ : ∃ x, x = scanSorted (ltC cm) d b i := ⟨_, rfl⟩
  rw [← hx] at lp hr ⊢
  obtain ⟨r1, r2⟩ := hr
  have r3 := r2 hib
  clear r2 hx
  by_cases c1 : x = b
  ·rw [if_pos c1]
   refine ⟨.ret, fl [(6, .bool true)], .inl ⟨rfl, rfl⟩, ?_, hd⟩
   have c1' : (x : Int) = b := by omega
   clear ih
   rw [floop_at i_zz0_B4.eq_1]
   simp (disch := first | assumption | omega | (simp [*] <;> omega) | fail) [-getElem?_pos, List.getElem?_cons_zero, List.getElem?_cons_succ, hc, hl, oS, c5, lp, c1', c1]
  ·have c1' : ¬ (x : Int) = b := by omega
   rw [if_neg c1]
   obtain ⟨len, hlen⟩ : ∃ len, len = b - a := ⟨_, rfl⟩
   have w0 : IntKind.i64.wrap ((b : Int) - a) = len := by rw [show (b : Int) - a = len by omega]; exact wrap64 (by omega) (by omega)
   rw [← hlen]
   by_cases c2 : len < 50
   ·rw [if_pos c2]
    refine ⟨.ret, fl [(6, .bool false)], .inl ⟨rfl, rfl⟩, ?_, hd⟩
    have c2' : (len : Int) < 50 := by omega
    clear ih
    rw [floop_at i_zz0_B4.eq_1]
    simp (disch := first | assumption | omega | (simp [*] <;> omega) | fail) [-getElem?_pos, List.getElem?_cons_zero, List.getElem?_cons_succ, hc, hl, oS, c5, lp, c1', c1, w0, c2']
   ·rw [if_neg c2]
    have c2' : ¬ (len : Int) < 50 := by omega
    obtain ⟨d1, hd1⟩ : ∃ d1, d1 = Go.Sort.swp d x (x - 1) := ⟨_, rfl⟩
    have hs1 : d1.size = N := by rw [hd1]; simpa using hd
    have e1 : swI d (x : Int) ((x : Int) - 1) = d1 := by rw [hd1]; exact swI_swp _ _ _ _ _ rfl (by omega)
    unfold swI at e1
    have w1 : IntKind.i64.wrap ((x : Int) - 1) = (x : Int) - 1 := wrap64 (by omega) (by omega)
    have w2 : IntKind.i64.wrap ((x : Int) - a) = (x : Int) - a := wrap64 (by omega) (by omega)
    have w3 : IntKind.i64.wrap ((b : Int) - x) = (b : Int) - x := wrap64 (by omega) (by omega)
    have w4 : IntKind.i64.wrap ((x : Int) + 1) = (x : Int) + 1 := wrap64 (by omega) (by omega)
    have w5 : IntKind.i64.wrap ((j : Int) + 1) = (j : Int) + 1 := wrap64 (by omega) (by omega)
    have x0 : (0 : Int) ≤ x := by omega
    have x1 : (x : Int) < N := by omega
    have y0 : (0 : Int) ≤ (x : Int) - 1 := by omega
    have y1 : (x : Int) - 1 < N := by omega
    rw [← hd1]
    have sd := l_ord_shd E a b x j d1 (x - 1) d1 hs1 (by omega)
    rw [show ((x - 1 : Nat) : Int) = (x : Int) - 1 by omega] at sd
    unfold fixUp fixDown
    by_cases c3 : x - a ≥ 2
    ·have c3' : (2 : Int) ≤ (x : Int) - a := by omega
     rw [if_pos c3]
     obtain ⟨d2, hd2⟩ : ∃ d2, d2 = shiftDown (ltC cm) (x - 1) d1 := ⟨_, rfl⟩
     have hs2 : d2.size = N := by rw [hd2, shiftDown_size]; exact hs1
     rw [← hd2] at sd ⊢
     by_cases c4 : b - x ≥ 2
     ·have c4' : (2 : Int) ≤ (b : Int) - x := by omega
      rw [if_pos c4]
      have su := l_ord_shu E a b x j hb d2 b (x + 1) d2 hs2 (by omega) (by omega) (by omega)
      rw [show ((x + 1 : Nat) : Int) = (x : Int) + 1 by omega] at su
      obtain ⟨d3, hd3⟩ : ∃ d3, d3 = shiftUp (ltC cm) b (x + 1) d2 := ⟨_, rfl⟩
      have hs3 : d3.size = N := by rw [hd3, shiftUp_size]; exact hs2
      rw [← hd3] at su ⊢
      obtain ⟨X, e, q1, q2, q3⟩ := ih (j + 1) x d3 (by omega) hs3 (by omega) (by omega)
      refine ⟨X, e, q1, ?_, q3⟩
      rw [← q2]
      clear ih q1 q2 q3 hd1 hd2 hd3
      rw [floop_at i_zz0_B4.eq_1]
      simp (disch := first | assumption | omega | (simp [*] <;> omega) | fail) [-getElem?_pos, List.getElem?_cons_zero, List.getElem?_cons_succ, hc, hl, oS, hix, hld, hst, hd, hs1, c5, lp, c1', c1, w0, c2', e1, w1, w2, w3, w4, w5, x0, x1, y0, y1, c3', sd, c4', su]
     ·have c4' : ¬ (2 : Int) ≤ (b : Int) - x := by omega
      rw [if_neg c4]
      obtain ⟨X, e, q1, q2, q3⟩ := ih (j + 1) x d2 (by omega) hs2 (by omega) (by omega)
      refine ⟨X, e, q1, ?_, q3⟩
      rw [← q2]
      clear ih q1 q2 q3 hd1 hd2
      rw [floop_at i_zz0_B4.eq_1]
      simp (disch := first | assumption | omega | (simp [*] <;> omega) | fail) [-getElem?_pos, List.getElem?_cons_zero, List.getElem?_cons_succ, hc, hl, oS, hix, hld, hst, hd, hs1, c5, lp, c1', c1, w0, c2', e1, w1, w2, w3, w4, w5, x0, x1, y0, y1, c3', sd, c4']
    ·have c3' : ¬ (2 : Int) ≤ (x : Int) - a := by omega
     rw [if_neg c3]
     by_cases c4 : b - x ≥ 2
     ·have c4' : (2 : Int) ≤ (b : Int) - x := by omega
      rw [if_pos c4]
      have su := l_ord_shu E a b x j hb d1 b (x + 1) d1 hs1 (by omega) (by omega) (by omega)
      rw [show ((x + 1 : Nat) : Int) = (x : Int) + 1 by omega] at su
      obtain ⟨d3, hd3⟩ : ∃ d3, d3 = shiftUp (ltC cm) b (x + 1) d1 := ⟨_, rfl⟩
      have hs3 : d3.size = N := by rw [hd3, shiftUp_size]; exact hs1
      rw [← hd3] at su ⊢
      obtain ⟨X, e, q1, q2, q3⟩ := ih (j + 1) x d3 (by omega) hs3 (by omega) (by omega)
      refine ⟨X, e, q1, ?_, q3⟩
      rw [← q2]
      clear ih q1 q2 q3 hd1 hd3 sd
      rw [floop_at i_zz0_B4.eq_1]
      simp (disch := first | assumption | omega | (simp [*] <;> omega) | fail) [-getElem?_pos, List.getElem?_cons_zero, List.getElem?_cons_succ, hc, hl, oS, hix, hld, hst, hd, hs1, c5, lp, c1', c1, w0, c2', e1, w1, w2, w3, w4, w5, x0, x1, y0, y1, c3', c4', su]
     ·exfalso; omega
theorem c_ord_pis (a b : Nat) (hab : a < b) (hb : b ≤ N) (d : Array Nat) (hd : d.size = N) :
  vcall F nro k_zz0 [S, .int .i64 a, .int .i64 b] (H d) = some (.bool (partialInsertionSort (ltC cm) d a b).2, H (partialInsertionSort (ltC cm) d a b).1) ∧ (partialInsertionSort (ltC cm) d a b).1.size = N := by
 have hc0 := fun q vs => E.clean0 d q vs
 have hN := E.hN
 obtain ⟨x, e, q1, lp, q3⟩ := l_ord_pis E a b hab hb d 5 0 (a + 1) d rfl hd (Nat.le_refl _) (by omega)
 refine ⟨?_, q3⟩
 unfold partialInsertionSort
 obtain ⟨r, hr⟩ : ∃ r, r = partialIns (ltC cm) a b 5 (a + 1) d := ⟨_, rfl⟩
 rw [← hr] at lp q1 ⊢
 obtain ⟨r1, r2⟩ := r
 simp only [Int.natCast_add, Int.natCast_one, Int.natCast_zero] at lp q1 ⊢
 have w1 : IntKind.i64.wrap ((a : Int) + 1) = (a : Int) + 1 := wrap64 (by omega) (by omega)
 clear hr q3
 refine v_zz0 (by simp [i_zz0]) ?_
 rw [fbody_eq]
 rcases q1 with ⟨rfl, rfl⟩ | ⟨rfl, rfl, rfl⟩
 ·simp (disch := first | assumption | omega | (simp [*] <;> omega) | fail) [-getElem?_pos, List.getElem?_cons_zero, List.getElem?_cons_succ, i_zz0, w1, lp, hc0, fresults, fresL, fres1]
 ·simp (disch := first | assumption | omega | (simp [*] <;> omega) | fail) [-getElem?_pos, List.getElem?_cons_zero, List.getElem?_cons_succ, i_zz0, w1, lp, hc0, fresults, fresL, fres1]
end
end

/- Sorting: the whole. -/
section
open Go Go.Sort
variable {nro : Nat} {S C : Value} {P : Int → Value} {ag : Nat → Value} {cm : Nat → Nat → Int} {N : Nat} {H : Array Nat → VH}
def unblock : FC → FC
 | .block _ c => c
 | c => c
end

/- Sorting: the whole. -/
section
open Go Go.Sort
variable {nro : Nat} {S : Value} {P : Int → Value} {ag : Nat → Value} {cm : Nat → Nat → Int} {N : Nat} {H : Array Nat → VH}
abbrev pdBO : FC := unblock i_zz12_B1
structure PO (S : Value) (e : FE) (a b : Nat) (lim : Int) (wb wp : Bool) : Prop where
 e0 : e 0 = S
 e1 : e 1 = .int .i64 a
 e2 : e 2 = .int .i64 b
 e3 : e 3 = .int .i64 lim
 e8 : e 8 = .bool wb
 e9 : e 9 = .bool wp
section
variable (E : SXO nro S P ag cm N H) (hS : SWO (ltC cm)) (hN255 : N ≤ 255)
include E hS
theorem pdqO_A (a b : Nat) (hab : a ≤ b) (hb : b ≤ N) (d : Array Nat) (hd : d.size = N) (lim : Int) (wb wp : Bool) (e : FE) (p : PO S e a b lim wb wp) :
  (∃ d', d'.size = N ∧ PermIn a b d d' ∧ SortedIn (ltC cm) a b d' ∧ fcode (vcall F nro) nro (takeS 2 pdBO) e (H d) = some (.ret, fl [], H d')) ∨
  (12 < b - a ∧ lim ≠ 0 ∧ ∃ e', fcode (vcall F nro) nro (takeS 2 pdBO) e (H d) = some (.normal, e', H d) ∧ PO S e' a b lim wb wp ∧ e' 10 = .int .i64 ((b - a : Nat) : Int)) := by
 have hN := E.base.hN
 have w0 : IntKind.i64.wrap ((b : Int) - a) = ((b - a : Nat) : Int) := by rw [show (b : Int) - a = ((b - a : Nat) : Int) by omega]; exact wrap64 (by omega) (by omega)
 have p0 := p.e0
 have p1 := p.e1
 have p2 := p.e2
 have p3 := p.e3
 by_cases c1 : b - a ≤ 12
 ·left
  have hc := c_ord_ins E.base a b d hd hb (by omega)
  obtain ⟨q1, q2⟩ := insertionSort_holds (lt := ltC cm) hS d a b hab (by omega)
  refine ⟨_, by rw [q1.1]; exact hd, q1, q2, ?_⟩
  have c1' : ((b - a : Nat) : Int) ≤ 12 := by omega
  obtain ⟨r, hr⟩ : ∃ r, r = insertionSort (ltC cm) d a b := ⟨_, rfl⟩
  rw [← hr] at hc ⊢
  clear hr q1 q2
  simp (disch := first | assumption | omega | (simp [*] <;> omega) | fail) [-getElem?_pos, List.getElem?_cons_zero, List.getElem?_cons_succ, pdBO, unblock, i_zz12_B1, takeS, p0, p1, p2, p3, w0, c1', hc]
 ·have c1' : ¬ ((b - a : Nat) : Int) ≤ 12 := by omega
  by_cases c2 : lim = 0
  ·left
   have hc := c_ord_heap E.base a b d hd hab hb
   obtain ⟨q1, q2⟩ := heapSort_holds (lt := ltC cm) hS d a b hab (by omega)
   refine ⟨_, by rw [q1.1]; exact hd, q1, q2, ?_⟩
   obtain ⟨r, hr⟩ : ∃ r, r = heapSort (ltC cm) d a b := ⟨_, rfl⟩
   rw [← hr] at hc ⊢
   clear hr q1 q2
   simp (disch := first | assumption | omega | (simp [*] <;> omega) | fail) [-getElem?_pos, List.getElem?_cons_zero, List.getElem?_cons_succ, pdBO, unblock, i_zz12_B1, takeS, p0, p1, p2, p3, w0, c1', c2, hc]
  ·right
   refine ⟨by omega, c2, ?_⟩
   have p10 := p.e8
   have p11 := p.e9
   have hgoal : ∃ e', fcode (vcall F nro) nro (takeS 2 pdBO) e (H d) = some (.normal, e', H d) ∧ ((e' 0 = S ∧ e' 1 = .int .i64 a ∧ e' 2 = .int .i64 b ∧ e' 3 = .int .i64 lim ∧ e' 8 = .bool wb ∧ e' 9 = .bool wp) ∧ e' 10 = .int .i64 ((b - a : Nat) : Int)) := by
    simp (disch := first | assumption | omega | (simp [*] <;> omega) | fail) [-getElem?_pos, List.getElem?_cons_zero, List.getElem?_cons_succ, pdBO, unblock, i_zz12_B1, takeS, p0, p1, p2, p3, p10, p11, w0, c1', c2]
   obtain ⟨e', h1, ⟨q0, q1, q2, q3, q4, q5⟩, h2⟩ := hgoal
   exact ⟨e', h1, ⟨q0, q1, q2, q3, q4, q5⟩, h2⟩
omit hS in
theorem pdqO_B (hN255 : N ≤ 255) (a b : Nat) (hab : a ≤ b) (hb : b ≤ N) (d : Array Nat) (hd : d.size = N) (lim : Int) (hl0 : 1 ≤ lim) (hl1 : lim ≤ 255) (wb wp : Bool) (e : FE) (x : Value) (p : PO S e a b lim wb wp) (p12 : e 10 = x) :
  ∃ e' d1 lim', fcode (vcall F nro) nro (takeS 0 (dropS 3 pdBO)) e (H d) = some (.normal, e', H d1) ∧ d1.size = N ∧ PermIn a b d d1 ∧ (0 ≤ lim' ∧ lim' ≤ 255) ∧ PO S e' a b lim' wb wp ∧ e' 10 = x := by
 have p0 := p.e0
 have p1 := p.e1
 have p2 := p.e2
 have p3 := p.e3
 have p10 := p.e8
 have p11 := p.e9
 cases wb with
 | true =>
  have hgoal : ∃ e', fcode (vcall F nro) nro (takeS 0 (dropS 3 pdBO)) e (H d) = some (.normal, e', H d) ∧ ((e' 0 = S ∧ e' 1 = .int .i64 a ∧ e' 2 = .int .i64 b ∧ e' 3 = .int .i64 lim ∧ e' 8 = .bool true ∧ e' 9 = .bool wp) ∧ e' 10 = x) := by
   simp (disch := first | assumption | omega | (simp [*] <;> omega) | fail) [-getElem?_pos, List.getElem?_cons_zero, List.getElem?_cons_succ, pdBO, unblock, i_zz12_B1, takeS, dropS, p0, p1, p2, p3, p10, p11, p12]
  obtain ⟨e', h1, ⟨r0, r1, r2, r3, r4, r5⟩, h2⟩ := hgoal
  exact ⟨e', d, lim, h1, hd, permIn_refl d a b, by omega, ⟨r0, r1, r2, r3, r4, r5⟩, h2⟩
 | false =>
  obtain ⟨d1, q1, q2, q3⟩ := c_ord_break E a b d hd hab hb hN255
  have w1 : IntKind.i64.wrap (lim - 1) = lim - 1 := wrap64 (by omega) (by omega)
  have hgoal : ∃ e', fcode (vcall F nro) nro (takeS 0 (dropS 3 pdBO)) e (H d) = some (.normal, e', H d1) ∧ ((e' 0 = S ∧ e' 1 = .int .i64 a ∧ e' 2 = .int .i64 b ∧ e' 3 = .int .i64 (lim - 1) ∧ e' 8 = .bool false ∧ e' 9 = .bool wp) ∧ e' 10 = x) := by
   simp (disch := first | assumption | omega | (simp [*] <;> omega) | fail) [-getElem?_pos, List.getElem?_cons_zero, List.getElem?_cons_succ, pdBO, unblock, i_zz12_B1, takeS, dropS, p0, p1, p2, p3, p10, p11, p12, q3, w1]
  obtain ⟨e', h1, ⟨r0, r1, r2, r3, r4, r5⟩, h2⟩ := hgoal
  exact ⟨e', d1, lim - 1, h1, q1, q2, by omega, ⟨r0, r1, r2, r3, r4, r5⟩, h2⟩
omit hS in
theorem pdqO_C (a b : Nat) (hab : a < b) (hb : b ≤ N) (d : Array Nat) (hd : d.size = N) (lim : Int) (wb wp : Bool) (e : FE) (x : Value) (p : PO S e a b lim wb wp) (p12 : e 10 = x) :
  ∃ e' d1 m t, fcode (vcall F nro) nro (takeS 1 (dropS 4 pdBO)) e (H d) = some (.normal, e', H d1) ∧ d1.size = N ∧ PermIn a b d d1 ∧ (a ≤ m ∧ m < b) ∧ PO S e' a b lim wb wp ∧ e' 10 = x ∧ e' 11 = .int .i64 ((m : Nat) : Int) ∧ e' 12 = .int .i64 t := by
 have hN := E.base.hN
 have p0 := p.e0
 have p1 := p.e1
 have p2 := p.e2
 have p3 := p.e3
 have p10 := p.e8
 have p11 := p.e9
 obtain ⟨m, t, hm, ht, hc⟩ := c_ord_pivot E d hd a b hab hb
 by_cases c : t = 2
 ·have hr := c_ord_rev E.base a b d hd hab hb
  have hp := reverseRange_holds (α := Nat) d a b (by omega) (by omega)
  subst c
  obtain ⟨m', hm'⟩ : ∃ m' : Nat, m' = b - 1 - (m - a) := ⟨_, rfl⟩
  have w1 : IntKind.i64.wrap ((b : Int) - 1) = (b : Int) - 1 := wrap64 (by omega) (by omega)
  have w2 : IntKind.i64.wrap ((m : Int) - a) = (m : Int) - a := wrap64 (by omega) (by omega)
  have w3 : IntKind.i64.wrap ((b : Int) - 1 - ((m : Int) - a)) = m' := by rw [show (b : Int) - 1 - ((m : Int) - a) = m' by omega]; exact wrap64 (by omega) (by omega)
  have hgoal : ∃ e', fcode (vcall F nro) nro (takeS 1 (dropS 4 pdBO)) e (H d) = some (.normal, e', H (reverseRange d a b)) ∧ ((e' 0 = S ∧ e' 1 = .int .i64 a ∧ e' 2 = .int .i64 b ∧ e' 3 = .int .i64 lim ∧ e' 8 = .bool wb ∧ e' 9 = .bool wp) ∧ e' 10 = x ∧ e' 11 = .int .i64 ((m' : Nat) : Int) ∧ e' 12 = .int .i64 1) := by
   obtain ⟨r, hr2⟩ : ∃ r, r = reverseRange d a b := ⟨_, rfl⟩
   rw [← hr2] at hr ⊢
   clear hp hm hr2 hm'
   simp (disch := first | assumption | omega | (simp [*] <;> omega) | fail) [-getElem?_pos, List.getElem?_cons_zero, List.getElem?_cons_succ, pdBO, unblock, i_zz12_B1, takeS, dropS, p0, p1, p2, p3, p10, p11, p12, hc, hr, w1, w2, w3]
  obtain ⟨e', h1, ⟨r0, r1, r2, r3, r4, r5⟩, h2, h3, h4⟩ := hgoal
  exact ⟨e', _, m', 1, h1, by rw [hp.1]; exact hd, hp, by omega, ⟨r0, r1, r2, r3, r4, r5⟩, h2, h3, h4⟩
 ·have c' : ¬ (t : Int) = 2 := by omega
  have hgoal : ∃ e', fcode (vcall F nro) nro (takeS 1 (dropS 4 pdBO)) e (H d) = some (.normal, e', H d) ∧ ((e' 0 = S ∧ e' 1 = .int .i64 a ∧ e' 2 = .int .i64 b ∧ e' 3 = .int .i64 lim ∧ e' 8 = .bool wb ∧ e' 9 = .bool wp) ∧ e' 10 = x ∧ e' 11 = .int .i64 ((m : Nat) : Int) ∧ e' 12 = .int .i64 t) := by
   clear hm ht
   simp (disch := first | assumption | omega | (simp [*] <;> omega) | fail) [-getElem?_pos, List.getElem?_cons_zero, List.getElem?_cons_succ, pdBO, unblock, i_zz12_B1, takeS, dropS, p0, p1, p2, p3, p10, p11, p12, hc, c', c]
  obtain ⟨e', h1, ⟨r0, r1, r2, r3, r4, r5⟩, h2, h3, h4⟩ := hgoal
  exact ⟨e', d, m, t, h1, hd, permIn_refl d a b, hm, ⟨r0, r1, r2, r3, r4, r5⟩, h2, h3, h4⟩
theorem pdqO_D (a b : Nat) (hab : a < b) (hb : b ≤ N) (d : Array Nat) (hd : d.size = N) (hB : Below (ltC cm) a b d) (lim : Int) (wb wp : Bool) (e : FE) (x y : Value) (t : Int) (p : PO S e a b lim wb wp) (p12 : e 10 = x) (p13 : e 11 = y) (p14 : e 12 = .int .i64 t) :
  (∃ d', d'.size = N ∧ PermIn a b d d' ∧ SortedIn (ltC cm) a b d' ∧ fcode (vcall F nro) nro (takeS 0 (dropS 6 pdBO)) e (H d) = some (.ret, fl [], H d')) ∨
  ∃ e' d1, fcode (vcall F nro) nro (takeS 0 (dropS 6 pdBO)) e (H d) = some (.normal, e', H d1) ∧ d1.size = N ∧ PermIn a b d d1 ∧ PO S e' a b lim wb wp ∧ e' 10 = x ∧ e' 11 = y := by
 have p0 := p.e0
 have p1 := p.e1
 have p2 := p.e2
 have p3 := p.e3
 have p10 := p.e8
 have p11 := p.e9
 by_cases c : wb = true ∧ wp = true ∧ t = 1
 ·obtain ⟨rfl, rfl, rfl⟩ := c
  obtain ⟨hc, hs⟩ := c_ord_pis E.base a b hab hb d hd
  obtain ⟨q1, q2⟩ := partialInsertionSort_holds (lt := ltC cm) hS d a b hab (by omega) hB
  obtain ⟨r, hr⟩ : ∃ r, r = partialInsertionSort (ltC cm) d a b := ⟨_, rfl⟩
  rw [← hr] at hc hs q1 q2
  obtain ⟨r1, r2⟩ := r
  simp only at hc hs q1 q2
  cases r2 with
  | true =>
   left
   refine ⟨r1, hs, q1, q2 rfl, ?_⟩
   clear q1 q2 hr
   simp (disch := first | assumption | omega | (simp [*] <;> omega) | fail) [-getElem?_pos, List.getElem?_cons_zero, List.getElem?_cons_succ, pdBO, unblock, i_zz12_B1, takeS, dropS, p0, p1, p2, p3, p10, p11, p12, p13, p14, hc]
  | false =>
   right
   have hgoal : ∃ e', fcode (vcall F nro) nro (takeS 0 (dropS 6 pdBO)) e (H d) = some (.normal, e', H r1) ∧ ((e' 0 = S ∧ e' 1 = .int .i64 a ∧ e' 2 = .int .i64 b ∧ e' 3 = .int .i64 lim ∧ e' 8 = .bool true ∧ e' 9 = .bool true) ∧ e' 10 = x ∧ e' 11 = y) := by
    clear q1 q2 hr
    simp (disch := first | assumption | omega | (simp [*] <;> omega) | fail) [-getElem?_pos, List.getElem?_cons_zero, List.getElem?_cons_succ, pdBO, unblock, i_zz12_B1, takeS, dropS, p0, p1, p2, p3, p10, p11, p12, p13, p14, hc]
   obtain ⟨e', h1, ⟨s0, s1, s2, s3, s4, s5⟩, h2, h3⟩ := hgoal
   exact ⟨e', r1, h1, hs, q1, ⟨s0, s1, s2, s3, s4, s5⟩, h2, h3⟩
 ·right
  have hgoal : ∃ e', fcode (vcall F nro) nro (takeS 0 (dropS 6 pdBO)) e (H d) = some (.normal, e', H d) ∧ ((e' 0 = S ∧ e' 1 = .int .i64 a ∧ e' 2 = .int .i64 b ∧ e' 3 = .int .i64 lim ∧ e' 8 = .bool wb ∧ e' 9 = .bool wp) ∧ e' 10 = x ∧ e' 11 = y) := by
   cases wb with
   | false => simp (disch := first | assumption | omega | (simp [*] <;> omega) | fail) [-getElem?_pos, List.getElem?_cons_zero, List.getElem?_cons_succ, pdBO, unblock, i_zz12_B1, takeS, dropS, p0, p1, p2, p3, p10, p11, p12, p13, p14]
   | true =>
    cases wp with
    | false => simp (disch := first | assumption | omega | (simp [*] <;> omega) | fail) [-getElem?_pos, List.getElem?_cons_zero, List.getElem?_cons_succ, pdBO, unblock, i_zz12_B1, takeS, dropS, p0, p1, p2, p3, p10, p11, p12, p13, p14]
    | true =>
     have c2 : ¬ t = 1 := fun h => c ⟨rfl, rfl, h⟩
     simp (disch := first | assumption | omega | (simp [*] <;> omega) | fail) [-getElem?_pos, List.getElem?_cons_zero, List.getElem?_cons_succ, pdBO, unblock, i_zz12_B1, takeS, dropS, p0, p1, p2, p3, p10, p11, p12, p13, p14, c2]
  obtain ⟨e', h1, ⟨s0, s1, s2, s3, s4, s5⟩, h2, h3⟩ := hgoal
  exact ⟨e', d, h1, hd, permIn_refl d a b, ⟨s0, s1, s2, s3, s4, s5⟩, h2, h3⟩
end
end

/- Sorting: the recursion. -/
section
open Go Go.Sort
variable {nro : Nat} {S C : Value} {P : Int → Value} {ag : Nat → Value} {cm : Nat → Nat → Int} {N : Nat} {H : Array Nat → VH}
theorem seq_step {call : VCall} (k : Nat) {c : FC} {e e' : FE} {h h' : VH} (hk : k + 1 ≤ nseq c) (h1 : fcode call nro (takeS k c) e h = some (.normal, e', h')) : fcode call nro c e h = fcode call nro (dropS (k + 1) c) e' h' := by
 rw [fcode_parts call nro k c e h hk, h1, kseq_normal]
theorem seq_ret {call : VCall} (k : Nat) {c : FC} {e e' : FE} {h h' : VH} {x : VX} (hk : k + 1 ≤ nseq c) (hx : x ≠ .normal) (h1 : fcode call nro (takeS k c) e h = some (x, e', h')) : fcode call nro c e h = some (x, e', h') := by
 rw [fcode_parts call nro k c e h hk, h1]
 cases x with
 | normal => exact absurd rfl hx
 | ret => rfl
 | exit i => rfl
end

end Go.Proofs.YtbilmoahcnllmaaGreatDoor.Zv

