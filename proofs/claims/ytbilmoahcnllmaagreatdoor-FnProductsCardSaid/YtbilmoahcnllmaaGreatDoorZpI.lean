/- Part I of the proof: ZwDraw10, ZwDraw3, ZwDraw11, ZwGpD, ZwGpE, ZwGpF, ZwDrawP, ZwDrawQ, ZwLawProdA, ZwLawGroupsA, ZwLawProdB, ZwLawGroupsB, ZwLawProdC, ZwLawProdD, ZwLawProdE, ZwLawProdF. Conditions: none. -/
import Derived.Test.YtbilmoahcnllmaaGreatDoorZpE
import Derived.Test.YtbilmoahcnllmaaGreatDoorZpF
import Derived.Test.YtbilmoahcnllmaaGreatDoorZpG
import Derived.Test.YtbilmoahcnllmaaGreatDoorZpH
set_option linter.unusedSimpArgs false
set_option linter.unusedVariables false
set_option linter.unusedSectionVars false
namespace Go.Proofs.YtbilmoahcnllmaaGreatDoor.Zv
/- Draws of graphs, and of what may be none. -/
section
open Go
variable {nro : Nat}
section
variable {H : VH} {b : Nat} {cd : Value} {xs : List Int} {s : SS} (S : Srce nro H b cd xs s)
include S
theorem c_zz78 : ∃ (N : Nat) (rows : List Int) (s' : SS), SOK xs s' ∧ GV N rows ∧
  vcall F nro k_zz78 [.pointer (some ⟨b, 0, some 3⟩)] H = some (gv N (.slice (some ⟨H.length, 0, none⟩) N N), H.set b (srcO cd s') ++ [⟨1, ints rows⟩]) := by
 have hlt := S.lt
 have hnb := S.nr
 have hn : nro ≤ H.length := by omega
 have hn' := fun k => Nat.le_trans hn (Nat.le_add_right H.length k)
 have hself : H.set b (srcO cd s) = H := hset_self S.at'
 obtain ⟨x1, s1, o1, a1, b1, _, e1⟩ := S.nextE S.ok [⟨0, [.int .i64 0, .slice none 0 0]⟩] 4 (by omega)
 rw [hself] at e1
 by_cases c1 : x1 = 0
 ·obtain ⟨N, rows, s2, o2, g, e2⟩ := c_zz25 (S.set o1 [⟨0, [.int .i64 0, .slice none 0 0]⟩])
  rw [S.setL] at e2
  refine ⟨N, rows, s2, o2, g, ?_⟩
  have hl := g.rok.len
  have hc := S.cleanG (s' := s2) [⟨0, [.int .i64 N, .slice (some ⟨H.length + 1, 0, none⟩) N N]⟩, ⟨1, ints rows⟩] 1 N N rows rfl
  simp at e1 e2 hc
  clear S o1 o2 g hl hself b1
  refine v_zz78 (by simp [i_zz78]) ?_
  rw [fbody_eq]
  simp (disch := first | assumption | omega | (simp [*] <;> omega) | fail) [-getElem?_pos, List.getElem?_cons_zero, List.getElem?_cons_succ, i_zz78, e1, c1, e2, hc, hn, hn', fresults, fresL, fres1, hgetS, hsetS, hgetS0, hsetS0]
 ·by_cases c2 : x1 = 1
  ·obtain ⟨x2, s2, o2, m2, e2⟩ := S.pickE o1 [⟨0, [.int .i64 0, .slice none 0 0]⟩, ⟨1, ints [1, 10, 20, 40, 61, 62]⟩] 1 6 [1, 10, 20, 40, 61, 62] rfl rfl (by omega) (by omega)
   have hx2 : 1 ≤ x2 ∧ x2 ≤ 62 := by
    simp only [List.mem_cons, List.not_mem_nil, or_false] at m2
    omega
   obtain ⟨N, rfl⟩ : ∃ N : Nat, x2 = N := ⟨x2.toNat, by omega⟩
   obtain ⟨rows, s3, o3, g, e3⟩ := S.drawOfE o2 [⟨0, [.int .i64 0, .slice none 0 0]⟩, ⟨1, ints [1, 10, 20, 40, 61, 62]⟩] N (by omega) (by omega)
   refine ⟨N, rows, s3, o3, g, ?_⟩
   have hc := S.cleanG (s' := s3) [⟨0, [.int .i64 N, .slice (some ⟨H.length + 2, 0, none⟩) N N]⟩, ⟨1, ints [1, 10, 20, 40, 61, 62]⟩, ⟨1, ints rows⟩] 2 N N rows rfl
   simp at e1 e2 e3 hc
   clear S o1 o2 o3 g hself b1 m2 hx2
   refine v_zz78 (by simp [i_zz78]) ?_
   rw [fbody_eq]
   simp (disch := first | assumption | omega | (simp [*] <;> omega) | fail) [-getElem?_pos, List.getElem?_cons_zero, List.getElem?_cons_succ, i_zz78, e1, c2, e2, e3, hc, hn, hn', fresults, fresL, fres1, hgetS, hsetS, hgetS0, hsetS0]
  ·obtain ⟨x2, s2, o2, a2, b2, _, e2⟩ := S.nextE o1 [⟨0, [.int .i64 0, .slice none 0 0]⟩] 14 (by omega)
   have hx2 := b2 (by omega)
   obtain ⟨N, hN⟩ : ∃ N : Nat, 1 + x2 = N := ⟨(1 + x2).toNat, by omega⟩
   have w1 : IntKind.i64.wrap (1 + x2) = 1 + x2 := wrap64 (by omega) (by omega)
   rw [hN] at w1
   obtain ⟨rows, s3, o3, g, e3⟩ := S.drawOfE o2 [⟨0, [.int .i64 0, .slice none 0 0]⟩] N (by omega) (by omega)
   refine ⟨N, rows, s3, o3, g, ?_⟩
   have hc := S.cleanG (s' := s3) [⟨0, [.int .i64 N, .slice (some ⟨H.length + 1, 0, none⟩) N N]⟩, ⟨1, ints rows⟩] 1 N N rows rfl
   simp at e1 e2 e3 hc
   clear S o1 o2 o3 g hself b1 b2 hx2
   refine v_zz78 (by simp [i_zz78]) ?_
   rw [fbody_eq]
   simp (disch := first | assumption | omega | (simp [*] <;> omega) | fail) [-getElem?_pos, List.getElem?_cons_zero, List.getElem?_cons_succ, i_zz78, e1, c1, c2, e2, hN, w1, e3, hc, hn, hn', fresults, fresL, fres1, hgetS, hsetS, hgetS0, hsetS0]
set_option maxHeartbeats 4000000 in
theorem c_zz87 (N : Nat) (sv : Value) (rows : List Int) (g : GV N rows) (hs : ∀ o, Sli (H.set b o) sv rows) (hc0 : ∀ r ∈ arefs sv, r ≠ b) : ∃ (n' : Int) (v : Value) (rows' : List Int) (s' : SS) (M : VH), SOK xs s' ∧
  vcall F nro k_zz87 [.pointer (some ⟨b, 0, some 3⟩), gv N sv] H = some (gv n' v, H.set b (srcO cd s') ++ M) ∧ rows'.length ≤ 63 ∧ -9223372036854775808 ≤ n' ∧ n' ≤ 9223372036854775807 ∧
  ((M = [] ∧ n' = N ∧ v = sv ∧ rows' = rows) ∨ (M = [⟨1, ints rows'⟩] ∧ v = .slice (some ⟨H.length, 0, none⟩) rows'.length rows'.length)) := by
 have hlt := S.lt
 have hnb := S.nr
 have hn : nro ≤ H.length := by omega
 have hn' := fun k => Nat.le_trans hn (Nat.le_add_right H.length k)
 have hself : H.set b (srcO cd s) = H := hset_self S.at'
 have hs0 := hs (srcO cd s)
 rw [hself] at hs0
 have hl := g.rok.len
 have hle := g.rok.le
 have hlo := g.lo
 have ho : Old H.length sv := hs0.old
 have hsh : ∃ a n t, sv = .slice (some a) n t := by
  have hne : ints rows ≠ [] := fun e => by
   have := congrArg List.length e
   rw [ints_length, hl] at this
   simp at this
   omega
  rcases Sl.inv hs0 with ⟨_, h⟩ | ⟨_, h⟩ | ⟨a, n, t, o, h, _⟩
  ·exact absurd h hne
  ·exact absurd h hne
  ·exact ⟨a, n, t, h⟩
 have e0 := c_zz89 (nro := nro) sv rows (H ++ [⟨0, [.int .i64 N, sv]⟩, ⟨0, [.int .i64 0, .slice none 0 0]⟩]) (hs0.app _) (by omega) (by simp; omega)
 obtain ⟨x1, s1, o1, a1, b1, _, e1⟩ := S.nextE S.ok [⟨0, [.int .i64 N, sv]⟩, ⟨0, [.int .i64 0, .slice none 0 0]⟩, ⟨1, ints rows⟩] 50 (by omega)
 rw [hself] at e1
 rw [hl] at e0
 have hso := fun k => hs0.oldCk (k := k)
 by_cases c1 : x1 = 0
 ·obtain ⟨y, hy⟩ : ∃ y, y = (N : Int) + 1 := ⟨_, rfl⟩
  have wN : IntKind.i64.wrap ((N : Int) + 1) = y := by rw [hy]; exact wrap64 (by omega) (by omega)
  obtain ⟨x2, s2, o2, m2, e2⟩ := S.pickE o1 [⟨0, [.int .i64 N, sv]⟩, ⟨0, [.int .i64 0, .slice none 0 0]⟩, ⟨1, ints rows⟩, ⟨1, ints [0, 63, -1, y]⟩] 3 4 [0, 63, -1, y] rfl rfl (by omega) (by omega)
  have hx2 : -1 ≤ x2 ∧ x2 ≤ 63 := by
   simp only [List.mem_cons, List.not_mem_nil, or_false] at m2
   omega
  refine ⟨x2, .slice (some ⟨H.length, 0, none⟩) rows.length rows.length, rows, s2, [⟨1, ints rows⟩], o2, ?_, by omega, by omega, by omega, .inr ⟨rfl, rfl⟩⟩
  rw [hl]
  have hc := S.cleanG (s' := s2) [⟨0, [.int .i64 N, sv]⟩, ⟨0, [.int .i64 x2, .slice (some ⟨H.length + 2, 0, none⟩) N N]⟩, ⟨1, ints rows⟩, ⟨1, ints [0, 63, -1, y]⟩] 2 N x2 rows rfl
  simp at e0 e1 e2 hc
  clear S o1 o2 g hself b1 m2 hx2 hs hs0 hl hy
  refine v_zz87 (by simp [i_zz87]) ?_
  rw [fbody_eq]
  simp (disch := first | assumption | omega | (simp [*] <;> omega) | fail) [-getElem?_pos, List.getElem?_cons_zero, List.getElem?_cons_succ, i_zz87, e0, e1, c1, wN, e2, hc, hn, hn', hso, fresults, fresL, fres1, hgetS, hsetS, hgetS0, hsetS0]
 ·by_cases c2 : x1 = 1
  ·obtain ⟨x2, s2, o2, a2, b2, _, e2⟩ := S.nextE o1 [⟨0, [.int .i64 N, sv]⟩, ⟨0, [.int .i64 0, .slice none 0 0]⟩, ⟨1, ints rows⟩] N (by omega)
   have k2 := b2 (by omega)
   have wN : IntKind.u64.wrap (N : Int) = N := wrapu64 (by omega) (by omega)
   obtain ⟨y, hy⟩ : ∃ y, ishl .i64 1 (N : Int) = y := ⟨_, rfl⟩
   obtain ⟨x3, s3, o3, m3, e3⟩ := S.pickE o2 [⟨0, [.int .i64 N, sv]⟩, ⟨0, [.int .i64 0, .slice none 0 0]⟩, ⟨1, ints rows⟩, ⟨1, ints [-1, 1, 2, 4611686018427387904, y]⟩] 3 5 [-1, 1, 2, 4611686018427387904, y] rfl rfl (by omega) (by omega)
   refine ⟨N, .slice (some ⟨H.length, 0, none⟩) (rows.set x2.toNat x3).length (rows.set x2.toNat x3).length, rows.set x2.toNat x3, s3, [⟨1, ints (rows.set x2.toNat x3)⟩], o3, ?_, by simp; omega, by omega, by omega, .inr ⟨rfl, rfl⟩⟩
   have hl2 : (rows.set x2.toNat x3).length = N := by simp [hl]
   rw [hl2]
   have hx2 : x2.toNat < rows.length := by omega
   have hsp := splice_ints (xs := rows) (j := x2.toNat) (v := x3) hx2
   have hc := S.cleanG (s' := s3) [⟨0, [.int .i64 N, sv]⟩, ⟨0, [.int .i64 N, .slice (some ⟨H.length + 2, 0, none⟩) N N]⟩, ⟨1, ints (rows.set x2.toNat x3)⟩, ⟨1, ints [-1, 1, 2, 4611686018427387904, y]⟩] 2 N N (rows.set x2.toNat x3) rfl
   simp at e0 e1 e2 e3 hc
   clear S o1 o2 o3 g hself b1 b2 m3 hs hs0 hl2 c1
   refine v_zz87 (by simp [i_zz87]) ?_
   rw [fbody_eq]
   simp (disch := first | assumption | omega | (simp [*] <;> omega) | fail) [-getElem?_pos, List.getElem?_cons_zero, List.getElem?_cons_succ, i_zz87, e0, e1, c2, wN, hy, e2, e3, hl, a2, k2, hsp, hc, hn, hn', hso, fresults, fresL, fres1, hgetS, hsetS, hgetS0, hsetS0]
  ·by_cases c3 : x1 = 2
   ·refine ⟨N, .slice (some ⟨H.length, 0, none⟩) (rows ++ [0]).length (rows ++ [0]).length, rows ++ [0], s1, [⟨1, ints (rows ++ [0])⟩], o1, ?_, by simp; omega, by omega, by omega, .inr ⟨rfl, rfl⟩⟩
    have hl2 : (rows ++ [0]).length = N + 1 := by simp [hl]
    rw [hl2]
    have hc := S.cleanG (s' := s1) [⟨0, [.int .i64 N, sv]⟩, ⟨0, [.int .i64 N, .slice (some ⟨H.length + 2, 0, none⟩) (N + 1) (N + 1)]⟩, ⟨1, ints (rows ++ [0])⟩, ⟨1, [.int .i64 0]⟩] 2 (N + 1) N (rows ++ [0]) rfl
    have k9 : N ≤ 1099511627775 := by omega
    have hia : ints rows ++ [.int .i64 0] = ints (rows ++ [0]) := by simp [ints]
    rw [← hia] at hc ⊢
    simp at e0 e1 hc
    clear S o1 g hself b1 hs hs0 hl2 hia c1 c2
    refine v_zz87 (by simp [i_zz87]) ?_
    rw [fbody_eq]
    simp (disch := first | assumption | omega | (simp [*] <;> omega) | fail) [-getElem?_pos, List.getElem?_cons_zero, List.getElem?_cons_succ, i_zz87, e0, e1, c3, hl, k9, hc, hn, hn', hso, fresults, fresL, fres1, hgetS, hsetS, hgetS0, hsetS0]
   ·refine ⟨N, sv, rows, s1, [], o1, ?_, by omega, by omega, by omega, .inl ⟨rfl, rfl, rfl, rfl⟩⟩
    have hc := fun (L : VH) => S.clean (s' := s1) L (vs := [.agg #[.int .i64 N, sv]]) (by
     intro v hv
     simp only [List.mem_singleton] at hv
     subst hv
     intro r hr
     obtain ⟨a, n, t, rfl⟩ := hsh
     exact ho r (by simpa [trefs, vrefs, crefs, arefs] using hr))
    simp at e0 e1
    clear S o1 g hself b1 hs hs0 hl
    refine v_zz87 (by simp [i_zz87]) ?_
    rw [fbody_eq]
    obtain ⟨a, n, t, rfl⟩ := hsh
    simp (disch := first | assumption | omega | (simp [*] <;> omega) | fail) [-getElem?_pos, List.getElem?_cons_zero, List.getElem?_cons_succ, i_zz87, e0, e1, c1, c2, c3, hc, hn, hn', hso, fresults, fresL, fres1, hgetS, hsetS, hgetS0, hsetS0]
theorem Srce.badE {s' : SS} (h : SOK xs s') (L : VH) (k N : Nat) (rows : List Int) (hk : L[k]? = some ⟨1, ints rows⟩) (g : GV N rows) : ∃ (n' : Int) (m : Nat) (rows' : List Int) (s2 : SS) (M : VH), SOK xs s2 ∧
  vcall F nro k_zz87 [.pointer (some ⟨b, 0, some 3⟩), gv N (.slice (some ⟨H.length + k, 0, none⟩) N N)] (H.set b (srcO cd s') ++ L) = some (gv n' (.slice (some ⟨H.length + m, 0, none⟩) rows'.length rows'.length), H.set b (srcO cd s2) ++ (L ++ M)) ∧
  rows'.length ≤ 63 ∧ -9223372036854775808 ≤ n' ∧ n' ≤ 9223372036854775807 ∧ (L ++ M)[m]? = some ⟨1, ints rows'⟩ := by
 have hlt := S.lt
 have hl := g.rok.len
 obtain ⟨n', v, rows', s2, M, o2, e, h1, h2, h3, h4⟩ := c_zz87 (nro := nro) (S.set h L) N (.slice (some ⟨H.length + k, 0, none⟩) N N) rows g (fun o => by
  have hk2 : ((H.set b (srcO cd s') ++ L).set b o)[H.length + k]? = some ⟨1, ints rows⟩ := by
   rw [List.set_append_left _ _ (by simpa using hlt), List.getElem?_append_right (by simp)]
   simpa using hk
  have := sli_at hk2
  rwa [hl] at this) (by
  intro r hr
  simp [arefs] at hr
  omega)
 rw [S.setL, List.append_assoc] at e
 rcases h4 with ⟨rfl, rfl, rfl, rfl⟩ | ⟨rfl, rfl⟩
 ·exact ⟨N, k, rows', s2, [], o2, by rw [hl]; exact e, h1, h2, h3, by rw [List.append_nil]; exact hk⟩
 ·refine ⟨n', L.length, rows', s2, [⟨1, ints rows'⟩], o2, ?_, h1, h2, h3, by simp⟩
  rw [e]
  simp
theorem c_zz72 : ∃ (n' : Int) (rows' : List Int) (s' : SS), SOK xs s' ∧ rows'.length ≤ 63 ∧ -9223372036854775808 ≤ n' ∧ n' ≤ 9223372036854775807 ∧
  vcall F nro k_zz72 [.pointer (some ⟨b, 0, some 3⟩)] H = some (gv n' (.slice (some ⟨H.length, 0, none⟩) rows'.length rows'.length), H.set b (srcO cd s') ++ [⟨1, ints rows'⟩]) := by
 have hlt := S.lt
 have hnb := S.nr
 have hn : nro ≤ H.length := by omega
 have hn' := fun k => Nat.le_trans hn (Nat.le_add_right H.length k)
 have hself : H.set b (srcO cd s) = H := hset_self S.at'
 obtain ⟨N, rows, s1, o1, g, e1⟩ := c_zz78 (S.set S.ok [⟨0, [.int .i64 0, .slice none 0 0]⟩])
 rw [S.setL, hself] at e1
 obtain ⟨n', m, rows', s2, M, o2, e2, h1, h2, h3, h4⟩ := S.badE o1 [⟨0, [.int .i64 0, .slice none 0 0]⟩, ⟨1, ints rows⟩] 1 N rows rfl g
 refine ⟨n', rows', s2, o2, h1, h2, h3, ?_⟩
 have hm0 : ∃ j, m = j + 1 := by
  cases m with
  | zero =>
   rw [List.cons_append, List.getElem?_cons_zero] at h4
   simp at h4
  | succ j => exact ⟨j, rfl⟩
 obtain ⟨j, rfl⟩ := hm0
 have hc := S.cleanG (s' := s2) (⟨0, [.int .i64 n', .slice (some ⟨H.length + (j + 1), 0, none⟩) rows'.length rows'.length]⟩ :: ⟨1, ints rows⟩ :: M) (j + 1) rows'.length n' rows' (by simpa using h4)
 obtain ⟨m, hm⟩ : ∃ m, m = rows'.length := ⟨_, rfl⟩
 rw [← hm] at e2 hc ⊢
 simp at e1 e2 hc
 clear S o1 o2 g hself h4 hm
 refine v_zz72 (by simp [i_zz72]) ?_
 rw [fbody_eq]
 simp (disch := first | assumption | omega | (simp [*] <;> omega) | fail) [-getElem?_pos, List.getElem?_cons_zero, List.getElem?_cons_succ, i_zz72, e1, e2, hc, hn, hn', fresults, fresL, fres1, hgetS, hsetS, hgetS0, hsetS0]
end
end

/- Draws of FirstRegular and LeastVertices. -/
section
open Go
variable {nro : Nat}
@[simp] theorem old_tup3i (n : Nat) (k1 k2 k3 : IntKind) (a b c : Int) : Old n (.tuple #[.int k1 a, .int k2 b, .int k3 c]) := fun r hr => by simp [trefs, vrefs, crefs, arefs] at hr
section
variable {h : VH} {cd : Value} {xs : List Int} (hs : Sl h cd (bys xs)) (hx : Code' xs) (hn : nro ≤ h.length)
include hs hx hn
theorem srce_new {s : SS} (ho : SOK xs s) : Srce nro (h ++ [srcO cd s]) h.length cd xs s :=
 ⟨by simp, hn, hx, ho, fun o => by
  have : (h ++ [srcO cd s]).set h.length o = h ++ [o] := by simp
  rw [this]; exact hs.app _⟩
end
end

/- Draws of the second chapter. -/
section
open Go
open Classical
variable {nro : Nat}
theorem hsetK (h L : VH) (k : Nat) (o : VO) : (h ++ L).set (h.length + k) o = h ++ L.set k o := by
 rw [List.set_append_right _ _ (by omega)]
 congr 2
 omega
end

/- Draws of groups. -/
section
open Go
variable {nro : Nat}
@[simp] theorem old_agg2i (n : Nat) (k1 k2 : IntKind) (a b : Int) : Old n (.agg #[.int k1 a, .int k2 b]) := fun r hr => by simp [trefs, vrefs, crefs, arefs] at hr
@[simp] theorem old_tag2i (n : Nat) (k1 k2 k3 : IntKind) (a b c : Int) : Old n (.tuple #[.agg #[.int k1 a, .int k2 b], .int k3 c]) := fun r hr => by simp [trefs, vrefs, crefs, arefs] at hr
@[simp] theorem old_tag3i (n : Nat) (k1 k2 k3 k4 : IntKind) (a b c d : Int) : Old n (.tuple #[.agg #[.int k1 a, .int k2 b], .int k3 c, .int k4 d]) := fun r hr => by simp [trefs, vrefs, crefs, arefs] at hr
section
variable {H : VH} {b : Nat} {cd : Value} {xs : List Int} {s : SS} (S : Srce nro H b cd xs s)
include S
theorem Srce.self : H.set b (srcO cd s) = H := hset_self S.at'
theorem c_zz80 (m : Int) (h1 : -1000 ≤ m) (h2 : m ≤ 1000000) : ∃ (x : Int) (s' : SS), SOK xs s' ∧ vcall F nro k_zz80 [.pointer (some ⟨b, 0, some 3⟩), .int .i64 m] H = some (.int .i64 x, H.set b (srcO cd s')) := by
 have hlt := S.lt
 have hnb := S.nr
 have hn : nro ≤ H.length := by omega
 have hn' := fun k => Nat.le_trans hn (Nat.le_add_right H.length k)
 have hc := fun {s' : SS} (L : VH) (vs : List Value) => S.clean (s' := s') (vs := vs) L
 have hc0 := fun {s' : SS} (vs : List Value) => S.clean0 (s' := s') (vs := vs)
 obtain ⟨x1, s1, o1, a1, b1, _, e1⟩ := S.nextE S.ok [] 14 (by omega)
 rw [S.self] at e1
 have w1 : IntKind.i64.wrap (m + 1) = m + 1 := wrap64 (by omega) (by omega)
 by_cases q0 : x1 = 0
 ·obtain ⟨x2, s2, o2, m2, e2⟩ := S.pickE o1 [⟨1, ints [-1, m + 1, 1099511627776, -4611686018427387904]⟩] 0 4 [-1, m + 1, 1099511627776, -4611686018427387904] rfl rfl (by omega) (by omega)
  refine ⟨x2, s2, o2, ?_⟩
  refine v_zz80 (by simp [i_zz80]) ?_
  rw [fbody_eq]
  simp [ints] at e1 e2
  clear b1 m2 a1
  simp (disch := first | assumption | omega | (simp [*] <;> omega) | fail) [-getElem?_pos, List.getElem?_cons_zero, List.getElem?_cons_succ, i_zz80, e1, e2, q0, w1, hc, hc0, hn, hn']
 ·obtain ⟨x2, s2, o2, _, _, _, e2⟩ := S.nextE o1 [] (m + 1) (by omega)
  refine ⟨x2, s2, o2, ?_⟩
  refine v_zz80 (by simp [i_zz80]) ?_
  rw [fbody_eq]
  simp at e1 e2
  clear b1 a1
  simp (disch := first | assumption | omega | (simp [*] <;> omega) | fail) [-getElem?_pos, List.getElem?_cons_zero, List.getElem?_cons_succ, i_zz80, e1, e2, q0, w1, hc, hc0, hn, hn']
end
section
variable {H : VH} {b : Nat} {cd : Value} {xs : List Int} {s : SS} (S : Srce nro H b cd xs s)
include S
theorem Srce.nearE {s' : SS} (h : SOK xs s') (L : VH) (m : Int) (h1 : -1000 ≤ m) (h2 : m ≤ 1000000) : ∃ (x : Int) (s2 : SS), SOK xs s2 ∧ vcall F nro k_zz80 [.pointer (some ⟨b, 0, some 3⟩), .int .i64 m] (H.set b (srcO cd s') ++ L) = some (.int .i64 x, H.set b (srcO cd s2) ++ L) := by
 obtain ⟨x, s2, o2, e⟩ := c_zz80 (nro := nro) (S.set h L) m h1 h2
 exact ⟨x, s2, o2, by rw [e, S.setL]⟩
end
end

/- Draws of groups with lists. -/
section
open Go
variable {nro : Nat}
section
variable {H : VH} {b : Nat} {cd : Value} {xs : List Int} {s : SS} (S : Srce nro H b cd xs s)
include S
theorem Srce.old : Old H.length cd := by
 have := (S.sl (srcO cd s)).old
 rwa [S.self] at this
end
end

/- Draws of groups with connection sets. -/
section
open Go
variable {nro : Nat}
@[simp] theorem clean_tagsk (h L : VH) (k : Nat) (off n t : Nat) (k1 : IntKind) (x : Int) (k2 : IntKind) (y : Int) (hk : k < L.length) (hf : flatO h.length (L.getD k ⟨0, []⟩)) :
  kclean h [.tuple #[.agg #[.int k1 x, .int k2 y], .slice (some ⟨h.length + k, off, none⟩) n t]] (h ++ L) = ([.tuple #[.agg #[.int k1 x, .int k2 y], .slice (some ⟨h.length, off, none⟩) n t]], h ++ [L.getD k ⟨0, []⟩]) := by
 rw [cleanup_one (k := k) (o := L.getD k ⟨0, []⟩) (by simp [trefs, vrefs, crefs, arefs]) (by simp [List.getD_eq_getElem?_getD, hk]) hf]
 simp [tren, vren, cren, aren, renOf_one]
end

/- Draws of two graphs, of a cone, of a power. -/
section
open Go
variable {nro : Nat}
section
variable {H : VH} {b : Nat} {cd : Value} {xs : List Int} {s : SS} (S : Srce nro H b cd xs s)
include S
theorem c_zz71 : ∃ (N : Nat) (rows : List Int) (s' : SS), SOK xs s' ∧ GV N rows ∧
  vcall F nro k_zz71 [.pointer (some ⟨b, 0, some 3⟩)] H = some (gv N (.slice (some ⟨H.length, 0, none⟩) N N), H.set b (srcO cd s') ++ [⟨1, ints rows⟩]) := by
 have hlt := S.lt
 have hnb := S.nr
 have hn : nro ≤ H.length := by omega
 have hn' := fun k => Nat.le_trans hn (Nat.le_add_right H.length k)
 obtain ⟨x1, s1, o1, a1, b1, _, e1⟩ := S.nextE S.ok [⟨0, [.int .i64 0, .slice none 0 0]⟩] 8 (by omega)
 rw [S.self] at e1
 have c1 := b1 (by omega)
 obtain ⟨N, hN⟩ : ∃ N : Nat, 1 + x1 = N := ⟨(1 + x1).toNat, by omega⟩
 have w1 : IntKind.i64.wrap (1 + x1) = N := wrN hN (by omega)
 obtain ⟨rows, s2, o2, g, e2⟩ := S.drawOfE o1 [⟨0, [.int .i64 0, .slice none 0 0]⟩] N (by omega) (by omega)
 have hrl := g.rok.len
 refine ⟨N, rows, s2, o2, g, ?_⟩
 have hcl := fun (L : VH) => S.cleanG (s' := s2) (⟨0, [.int .i64 N, .slice (some ⟨H.length + 1, 0, none⟩) N N]⟩ :: ⟨1, ints rows⟩ :: L) 1 N N rows rfl
 refine v_zz71 (by simp [i_zz71]) ?_
 rw [fbody_eq]
 simp at e2
 clear b1 S g hN c1
 simp (disch := first | assumption | omega | (simp [*] <;> omega) | fail) [-getElem?_pos, List.getElem?_cons_zero, List.getElem?_cons_succ, i_zz71, e1, w1, e2, hcl, hn, hn', splice, fresults, fresL, fres1, hgetS, hsetS, hgetS0, hsetS0]
theorem Srce.smallE {s' : SS} (h : SOK xs s') (L : VH) : ∃ (N : Nat) (rows : List Int) (s2 : SS), SOK xs s2 ∧ GV N rows ∧
  vcall F nro k_zz71 [.pointer (some ⟨b, 0, some 3⟩)] (H.set b (srcO cd s') ++ L) = some (gv N (.slice (some ⟨H.length + L.length, 0, none⟩) N N), H.set b (srcO cd s2) ++ (L ++ [⟨1, ints rows⟩])) := by
 obtain ⟨N, rows, s2, o2, g, e⟩ := c_zz71 (nro := nro) (S.set h L)
 exact ⟨N, rows, s2, o2, g, by rw [e, S.setL, List.append_assoc]; simp⟩
theorem Srce.drawE {s' : SS} (h : SOK xs s') (L : VH) : ∃ (N : Nat) (rows : List Int) (s2 : SS), SOK xs s2 ∧ GV N rows ∧
  vcall F nro k_zz78 [.pointer (some ⟨b, 0, some 3⟩)] (H.set b (srcO cd s') ++ L) = some (gv N (.slice (some ⟨H.length + L.length, 0, none⟩) N N), H.set b (srcO cd s2) ++ (L ++ [⟨1, ints rows⟩])) := by
 obtain ⟨N, rows, s2, o2, g, e⟩ := c_zz78 (nro := nro) (S.set h L)
 exact ⟨N, rows, s2, o2, g, by rw [e, S.setL, List.append_assoc]; simp⟩
end
section
variable {h : VH} {cd : Value} {xs : List Int} (hs : Sl h cd (bys xs)) (hx : Code' xs) (hn : nro ≤ h.length)
include hs hx hn
theorem c_zz47 : ∃ (n : Int) (rows : List Int), rows.length ≤ 63 ∧ vcall F nro k_zz47 [cd] h = some (gv n (.slice (some ⟨h.length, 0, none⟩) rows.length rows.length), h ++ [⟨1, ints rows⟩]) := by
 have hn' := fun k => Nat.le_trans hn (Nat.le_add_right h.length k)
 have hs0 := Sl.app hs [⟨0, [.int .i64 0, .slice none 0 0]⟩]
 have hn0 : nro ≤ (h ++ [⟨0, [.int .i64 0, .slice none 0 0]⟩] : VH).length := by simp; omega
 obtain ⟨s, ho, e1⟩ := c_zz79 (nro := nro) (h ++ [⟨0, [.int .i64 0, .slice none 0 0]⟩]) cd xs hs0 hx hn0
 have S := srce_new (nro := nro) (h := h ++ [⟨0, [.int .i64 0, .slice none 0 0]⟩]) hs0 hx hn0 ho
 obtain ⟨n, rows, s2, o2, hl, _, _, e2⟩ := c_zz72 (nro := nro) S
 refine ⟨n, rows, hl, ?_⟩
 obtain ⟨m, hm⟩ : ∃ m, m = rows.length := ⟨_, rfl⟩
 rw [← hm] at e2 ⊢
 refine v_zz47 (by simp [i_zz47]) ?_
 rw [fbody_eq]
 simp [hsetK] at e1 e2
 clear hs hs0 S hm
 simp (disch := first | assumption | omega | (simp [*] <;> omega) | fail) [i_zz47, e1, e2, hn, hn', splice, fresults, fresL, fres1]
theorem c_zz39 : ∃ (n k : Int) (rows : List Int), rows.length ≤ 63 ∧ vcall F nro k_zz39 [cd] h = some (.tuple #[gv n (.slice (some ⟨h.length, 0, none⟩) rows.length rows.length), .int .i64 k], h ++ [⟨1, ints rows⟩]) := by
 have hn' := fun k => Nat.le_trans hn (Nat.le_add_right h.length k)
 have hs0 := Sl.app hs [⟨0, [.int .i64 0, .slice none 0 0]⟩]
 have hn0 : nro ≤ (h ++ [⟨0, [.int .i64 0, .slice none 0 0]⟩] : VH).length := by simp; omega
 obtain ⟨s, ho, e1⟩ := c_zz79 (nro := nro) (h ++ [⟨0, [.int .i64 0, .slice none 0 0]⟩]) cd xs hs0 hx hn0
 have S := srce_new (nro := nro) (h := h ++ [⟨0, [.int .i64 0, .slice none 0 0]⟩]) hs0 hx hn0 ho
 obtain ⟨n, rows, s2, o2, hl, _, _, e2⟩ := c_zz72 (nro := nro) S
 obtain ⟨m, hm⟩ : ∃ m, m = rows.length := ⟨_, rfl⟩
 rw [← hm] at e2
 obtain ⟨x, s3, o3, e3⟩ := S.nearE o2 [⟨1, ints rows⟩, ⟨0, [.int .i64 n, .slice (some ⟨h.length + 2, 0, none⟩) m m]⟩] 60 (by omega) (by omega)
 obtain ⟨w, hw⟩ : ∃ w, w = IntKind.i64.wrap (1 + x) := ⟨_, rfl⟩
 obtain ⟨y, s4, o4, _, e4⟩ := S.pickE o3 [⟨1, ints rows⟩, ⟨0, [.int .i64 n, .slice (some ⟨h.length + 2, 0, none⟩) m m]⟩, ⟨1, ints [1, 2, 2, 3, 4, w]⟩] 2 6 [1, 2, 2, 3, 4, w] rfl rfl (by omega) (by omega)
 refine ⟨n, y, rows, hl, ?_⟩
 rw [← hm]
 refine v_zz39 (by simp [i_zz39]) ?_
 rw [fbody_eq]
 simp [hsetK] at e1 e2 e3
 simp [hsetK, ints_cons, ints_nil] at e4
 clear hs hs0 S hm
 simp (disch := first | assumption | omega | (simp [*] <;> omega) | fail) [i_zz39, e1, e2, e3, ← hw, e4, hn, hn', splice, fresults, fresL, fres1]
end
end

/- Draws of two graphs. -/
section
open Go
variable {nro : Nat}
theorem clean_tgg (h L : VH) (i j : Nat) (off n t off' n' t' : Nat) (k k' : IntKind) (x x' : Int) (o p : VO) (hij : i ≠ j) (hi : L[i]? = some o) (hj : L[j]? = some p) (hf : flatO h.length o) (hg : flatO h.length p) :
  kclean h [.tuple #[.agg #[.int k x, .slice (some ⟨h.length + i, off, none⟩) n t], .agg #[.int k' x', .slice (some ⟨h.length + j, off', none⟩) n' t']]] (h ++ L) = ([.tuple #[.agg #[.int k x, .slice (some ⟨h.length, off, none⟩) n t], .agg #[.int k' x', .slice (some ⟨h.length + 1, off', none⟩) n' t']]], h ++ [o, p]) := by
 rw [cleanup_two (i := i) (j := j) (by simp [trefs, vrefs, crefs, arefs]) hij hi hj hf hg]
 simp [tren, vren, cren, aren, renOf_two1, renOf_two2 _ _ _ hij]
section
variable {H : VH} {b : Nat} {cd : Value} {xs : List Int} {s : SS} (S : Srce nro H b cd xs s)
include S
theorem Srce.badE2 {s' : SS} (h : SOK xs s') (L : VH) (k N : Nat) (rows : List Int) (hk : L[k]? = some ⟨1, ints rows⟩) (g : GV N rows) : ∃ (n' : Int) (m : Nat) (rows' : List Int) (s2 : SS) (M : VH), SOK xs s2 ∧
  vcall F nro k_zz87 [.pointer (some ⟨b, 0, some 3⟩), gv N (.slice (some ⟨H.length + k, 0, none⟩) N N)] (H.set b (srcO cd s') ++ L) = some (gv n' (.slice (some ⟨H.length + m, 0, none⟩) rows'.length rows'.length), H.set b (srcO cd s2) ++ (L ++ M)) ∧
  rows'.length ≤ 63 ∧ ((M = [] ∧ m = k ∧ rows' = rows) ∨ (M = [⟨1, ints rows'⟩] ∧ m = L.length)) := by
 have hlt := S.lt
 have hl := g.rok.len
 obtain ⟨n', v, rows', s2, M, o2, e, h1, h2, h3, h4⟩ := c_zz87 (nro := nro) (S.set h L) N (.slice (some ⟨H.length + k, 0, none⟩) N N) rows g (fun o => by
  have hk2 : ((H.set b (srcO cd s') ++ L).set b o)[H.length + k]? = some ⟨1, ints rows⟩ := by
   rw [List.set_append_left _ _ (by simpa using hlt), List.getElem?_append_right (by simp)]
   simpa using hk
  have := sli_at hk2
  rwa [hl] at this) (by
  intro r hr
  simp [arefs] at hr
  omega)
 rw [S.setL, List.append_assoc] at e
 rcases h4 with ⟨rfl, rfl, rfl, rfl⟩ | ⟨rfl, rfl⟩
 ·exact ⟨N, k, rows', s2, [], o2, by rw [hl]; exact e, h1, .inl ⟨rfl, rfl, rfl⟩⟩
 ·refine ⟨n', L.length, rows', s2, [⟨1, ints rows'⟩], o2, ?_, h1, .inr ⟨rfl, rfl⟩⟩
  rw [e]
  simp
end
section
variable {h : VH} {cd : Value} {xs : List Int} (hs : Sl h cd (bys xs)) (hx : Code' xs) (hn : nro ≤ h.length)
include hs hx hn
set_option maxHeartbeats 4000000 in
theorem c_zz92 : ∃ (n1 n2 : Int) (r1 r2 : List Int), r1.length ≤ 63 ∧ r2.length ≤ 63 ∧ vcall F nro k_zz92 [cd] h = some (.tuple #[gv n1 (.slice (some ⟨h.length, 0, none⟩) r1.length r1.length), gv n2 (.slice (some ⟨h.length + 1, 0, none⟩) r2.length r2.length)], h ++ [⟨1, ints r1⟩, ⟨1, ints r2⟩]) := by
 have hn' := fun k => Nat.le_trans hn (Nat.le_add_right h.length k)
 obtain ⟨c0, hc0⟩ : ∃ c0 : VO, c0 = ⟨0, [.int .i64 0, .slice none 0 0]⟩ := ⟨_, rfl⟩
 have hs0 := Sl.app hs [c0, c0]
 have hn0 : nro ≤ (h ++ [c0, c0] : VH).length := by simp; omega
 obtain ⟨s, ho, e1⟩ := c_zz79 (nro := nro) (h ++ [c0, c0]) cd xs hs0 hx hn0
 have S := srce_new (nro := nro) (h := h ++ [c0, c0]) hs0 hx hn0 ho
 obtain ⟨N1, r1, s1, o1, g1, e2⟩ := S.smallE ho []
 obtain ⟨N2, r2, s2, o2, g2, e3⟩ := S.smallE o1 [⟨1, ints r1⟩]
 obtain ⟨x, s3, o3, _, _, _, e4⟩ := S.nextE o2 [⟨1, ints r1⟩, ⟨1, ints r2⟩, ⟨0, [.int .i64 N1, .slice (some ⟨h.length + 3, 0, none⟩) N1 N1]⟩, ⟨0, [.int .i64 N2, .slice (some ⟨h.length + 4, 0, none⟩) N2 N2]⟩] 8 (by omega)
 have hl0 : ((h ++ [c0, c0]) ++ [srcO cd s] : VH).length = h.length + 3 := by simp
 by_cases c : x = 0
 ·obtain ⟨N3, r3, s4, o4, g3, e5⟩ := S.drawE o3 [⟨1, ints r1⟩, ⟨1, ints r2⟩, ⟨0, [.int .i64 N1, .slice (some ⟨h.length + 3, 0, none⟩) N1 N1]⟩, ⟨0, [.int .i64 N2, .slice (some ⟨h.length + 4, 0, none⟩) N2 N2]⟩]
  obtain ⟨n1, m1, q1, s5, M1, o5, e6, hq1, d1⟩ := S.badE2 o4 [⟨1, ints r1⟩, ⟨1, ints r2⟩, ⟨0, [.int .i64 N1, .slice (some ⟨h.length + 3, 0, none⟩) N1 N1]⟩, ⟨0, [.int .i64 N3, .slice (some ⟨h.length + 7, 0, none⟩) N3 N3]⟩, ⟨1, ints r3⟩] 0 N1 r1 rfl g1
  obtain ⟨n2, m2, q2, s6, M2, o6, e7, hq2, d2⟩ := S.badE2 o5 ([⟨1, ints r1⟩, ⟨1, ints r2⟩, ⟨0, [.int .i64 N1, .slice (some ⟨h.length + 3, 0, none⟩) N1 N1]⟩, ⟨0, [.int .i64 N3, .slice (some ⟨h.length + 7, 0, none⟩) N3 N3]⟩, ⟨1, ints r3⟩] ++ M1) 4 N3 r3 rfl g3
  refine ⟨n1, n2, q1, q2, hq1, hq2, ?_⟩
  rw [hl0] at e2 e3 e5 e6 e7
  have hcl := clean_tgg h ([⟨0, [.int .i64 n1, .slice (some ⟨h.length + 3 + m1, 0, none⟩) q1.length q1.length]⟩, ⟨0, [.int .i64 n2, .slice (some ⟨h.length + 3 + m2, 0, none⟩) q2.length q2.length]⟩, srcO cd s6, ⟨1, ints r1⟩, ⟨1, ints r2⟩, ⟨0, [.int .i64 N1, .slice (some ⟨h.length + 3, 0, none⟩) N1 N1]⟩, ⟨0, [.int .i64 N3, .slice (some ⟨h.length + 7, 0, none⟩) N3 N3]⟩, ⟨1, ints r3⟩] ++ (M1 ++ M2)) (3 + m1) (3 + m2) 0 q1.length q1.length 0 q2.length q2.length .i64 .i64 n1 n2 ⟨1, ints q1⟩ ⟨1, ints q2⟩ (by
    rcases d1 with ⟨rfl, rfl, rfl⟩ | ⟨rfl, rfl⟩ <;> rcases d2 with ⟨rfl, rfl, rfl⟩ | ⟨rfl, rfl⟩ <;> simp) (by
    rcases d1 with ⟨rfl, rfl, rfl⟩ | ⟨rfl, rfl⟩ <;> simp) (by
    rcases d1 with ⟨rfl, rfl, rfl⟩ | ⟨rfl, rfl⟩ <;> rcases d2 with ⟨rfl, rfl, rfl⟩ | ⟨rfl, rfl⟩ <;> simp) (flatO_ints _ _ _) (flatO_ints _ _ _)
  rw [← Nat.add_assoc, ← Nat.add_assoc] at hcl
  refine v_zz92 (by simp [i_zz92]) ?_
  rw [fbody_eq]
  subst hc0
  generalize q1.length = l1 at e6 hcl ⊢
  generalize q2.length = l2 at e7 hcl ⊢
  simp [hsetK] at e1 e2 e3 e4 e5 e6 e7 hcl
  clear hs hs0 S g1 g2 g3 d1 d2 hl0
  simp (disch := first | assumption | omega | (simp [*] <;> omega) | fail) [i_zz92, e1, e2, e3, e4, c, e5, e6, e7, hcl, hn, hn', splice, fresults, fresL, fres1]
 ·obtain ⟨n1, m1, q1, s5, M1, o5, e6, hq1, d1⟩ := S.badE2 o3 [⟨1, ints r1⟩, ⟨1, ints r2⟩, ⟨0, [.int .i64 N1, .slice (some ⟨h.length + 3, 0, none⟩) N1 N1]⟩, ⟨0, [.int .i64 N2, .slice (some ⟨h.length + 4, 0, none⟩) N2 N2]⟩] 0 N1 r1 rfl g1
  obtain ⟨n2, m2, q2, s6, M2, o6, e7, hq2, d2⟩ := S.badE2 o5 ([⟨1, ints r1⟩, ⟨1, ints r2⟩, ⟨0, [.int .i64 N1, .slice (some ⟨h.length + 3, 0, none⟩) N1 N1]⟩, ⟨0, [.int .i64 N2, .slice (some ⟨h.length + 4, 0, none⟩) N2 N2]⟩] ++ M1) 1 N2 r2 rfl g2
  refine ⟨n1, n2, q1, q2, hq1, hq2, ?_⟩
  rw [hl0] at e2 e3 e6 e7
  have hcl := clean_tgg h ([⟨0, [.int .i64 n1, .slice (some ⟨h.length + 3 + m1, 0, none⟩) q1.length q1.length]⟩, ⟨0, [.int .i64 n2, .slice (some ⟨h.length + 3 + m2, 0, none⟩) q2.length q2.length]⟩, srcO cd s6, ⟨1, ints r1⟩, ⟨1, ints r2⟩, ⟨0, [.int .i64 N1, .slice (some ⟨h.length + 3, 0, none⟩) N1 N1]⟩, ⟨0, [.int .i64 N2, .slice (some ⟨h.length + 4, 0, none⟩) N2 N2]⟩] ++ (M1 ++ M2)) (3 + m1) (3 + m2) 0 q1.length q1.length 0 q2.length q2.length .i64 .i64 n1 n2 ⟨1, ints q1⟩ ⟨1, ints q2⟩ (by
    rcases d1 with ⟨rfl, rfl, rfl⟩ | ⟨rfl, rfl⟩ <;> rcases d2 with ⟨rfl, rfl, rfl⟩ | ⟨rfl, rfl⟩ <;> simp) (by
    rcases d1 with ⟨rfl, rfl, rfl⟩ | ⟨rfl, rfl⟩ <;> simp) (by
    rcases d1 with ⟨rfl, rfl, rfl⟩ | ⟨rfl, rfl⟩ <;> rcases d2 with ⟨rfl, rfl, rfl⟩ | ⟨rfl, rfl⟩ <;> simp) (flatO_ints _ _ _) (flatO_ints _ _ _)
  rw [← Nat.add_assoc, ← Nat.add_assoc] at hcl
  refine v_zz92 (by simp [i_zz92]) ?_
  rw [fbody_eq]
  subst hc0
  generalize q1.length = l1 at e6 hcl ⊢
  generalize q2.length = l2 at e7 hcl ⊢
  simp [hsetK] at e1 e2 e3 e4 e6 e7 hcl
  clear hs hs0 S g1 g2 d1 d2 hl0
  simp (disch := first | assumption | omega | (simp [*] <;> omega) | fail) [i_zz92, e1, e2, e3, e4, c, e6, e7, hcl, hn, hn', splice, fresults, fresL, fres1]
theorem c_zz31 : ∃ (n1 n2 : Int) (r1 r2 : List Int), r1.length ≤ 63 ∧ r2.length ≤ 63 ∧ vcall F nro k_zz31 [cd] h = some (.tuple #[gv n1 (.slice (some ⟨h.length, 0, none⟩) r1.length r1.length), gv n2 (.slice (some ⟨h.length + 1, 0, none⟩) r2.length r2.length)], h ++ [⟨1, ints r1⟩, ⟨1, ints r2⟩]) := by
 have hn' := fun k => Nat.le_trans hn (Nat.le_add_right h.length k)
 obtain ⟨n1, n2, r1, r2, h1, h2, e1⟩ := c_zz92 (nro := nro) (Sl.app hs [⟨0, [.int .i64 0, .slice none 0 0]⟩, ⟨0, [.int .i64 0, .slice none 0 0]⟩]) hx (by simp; omega)
 refine ⟨n1, n2, r1, r2, h1, h2, ?_⟩
 generalize r1.length = l1 at e1 ⊢
 generalize r2.length = l2 at e1 ⊢
 have hcl := fun L => clean_tgg h (⟨0, [.int .i64 n1, .slice (some ⟨h.length + 2, 0, none⟩) l1 l1]⟩ :: ⟨0, [.int .i64 n2, .slice (some ⟨h.length + 3, 0, none⟩) l2 l2]⟩ :: ⟨1, ints r1⟩ :: ⟨1, ints r2⟩ :: L) 2 3 0 l1 l1 0 l2 l2 .i64 .i64 n1 n2 ⟨1, ints r1⟩ ⟨1, ints r2⟩ (by omega) rfl rfl (flatO_ints _ _ _) (flatO_ints _ _ _)
 refine v_zz31 (by simp [i_zz31]) ?_
 rw [fbody_eq]
 simp at e1
 clear hs
 simp (disch := first | assumption | omega | (simp [*] <;> omega) | fail) [i_zz31, e1, hcl, hn, hn', splice, fresults, fresL, fres1]
end
end

/- FnProducts, in parts: the loops. -/
section
open Go
variable {nro : Nat}
open Classical in
noncomputable def dgA (n : Int) (rows : List Int) : List Int ⊕ Int := if GV n rows then .inl (degF rows n.toNat 0) else .inr 1
open Classical in
theorem c_zz51 (n : Int) (s : Value) (rows : List Int) (h : VH) (hs : Sli h s rows) (hn : nro ≤ h.length) :
  vcall F nro k_zz51 [gv n s] h = some (ires h (dgA n rows)) := by
 have hn' := fun k => Nat.le_trans hn (Nat.le_add_right h.length k)
 have hg := c_zz73 (nro := nro) n s rows (bx h n s) (hs.app _)
 refine v_zz51 (by simp [i_zz51]) ?_
 rw [fbody_eq]
 by_cases g : GV n rows
 ·rw [decide_eq_true g] at hg
  have ea : dgA n rows = .inl (degF rows n.toNat 0) := by unfold dgA; rw [if_pos g]
  rw [ea]
  obtain ⟨N, rfl⟩ : ∃ N : Nat, n = N := ⟨n.toNat, by have := g.lo; omega⟩
  rw [Int.toNat_natCast]
  have hd := c_zz27 (nro := nro) N s rows (bx h N s) (hs.app _) g.rok (by simp; omega)
  have hl : (degF rows N 0).length = N := by rw [degF_len]; omega
  simp only [ires, hl]
  generalize degF rows N 0 = D at hd hl ⊢
  simp at hd
  clear hs g ea
  simp (disch := first | assumption | omega | (simp [*] <;> omega) | fail) [i_zz51, hg, hd, hl, hn', hn, fresults, fresL, fres1]
 ·rw [decide_eq_false g] at hg
  have ea : dgA n rows = .inr 1 := by unfold dgA; rw [if_neg g]
  rw [ea]
  simp only [ires]
  clear hs g ea
  simp (disch := first | assumption | omega | (simp [*] <;> omega) | fail) [i_zz51, hg, hn', hn, fresults, fresL, fres1]
def trG (n m a : Nat) : Int := ((a % m * n + a / m : Nat) : Int)
section
variable {K : VH} {cd s1 s2 : Value} {i3 i4 i5 i9 i13 n m : Nat} (h3 : K[i3]? = some ⟨0, [.int .i64 n, s1]⟩) (h4 : K[i4]? = some ⟨0, [.int .i64 m, s2]⟩) (b5 : i5 < K.length) (b9 : i9 < K.length) (b13 : i13 < K.length) (hcd : ∀ k, Old (K.length + k) cd) (h62 : n * m ≤ 62) (hn : nro ≤ K.length)
include h3 h4 b5 b9 b13 hcd h62 hn
theorem l_prod_B1 (o0 : List Int) (v : Nat) (hv : v < n) :
  floop (vcall F nro) nro [0, 3, 4, 5, 9, 10, 13, 14, 15, 16, 17] i_zz42_B1 (K ++ [⟨1, ints o0⟩]) [cd, .pointer (some ⟨i3, 0, some 2⟩), .pointer (some ⟨i4, 0, some 2⟩), .pointer (some ⟨i5, 0, some 2⟩), .pointer (some ⟨i9, 0, some 2⟩), .int .i64 0, .pointer (some ⟨i13, 0, some 2⟩), .int .i64 0, .slice (some ⟨K.length, 0, none⟩) (v * m) (v * m), .int .i64 v, .int .i64 0] (K ++ [⟨1, ints (tbl (v * m) (trG n m))⟩]) =
   some (.exit 2, fl [(0, cd), (3, .pointer (some ⟨i3, 0, some 2⟩)), (4, .pointer (some ⟨i4, 0, some 2⟩)), (5, .pointer (some ⟨i5, 0, some 2⟩)), (9, .pointer (some ⟨i9, 0, some 2⟩)), (10, .int .i64 0), (13, .pointer (some ⟨i13, 0, some 2⟩)), (14, .int .i64 0), (15, .slice (some ⟨K.length, 0, none⟩) (v * m + m) (v * m + m)), (16, .int .i64 v)], K ++ [⟨1, ints (tbl (v * m + m) (trG n m))⟩]) := by
 have hn' := fun k => Nat.le_trans hn (Nat.le_add_right K.length k)
 have b3 := (List.getElem?_eq_some_iff.mp h3).1
 have b4 := (List.getElem?_eq_some_iff.mp h4).1
 have h3' : ∀ L : VH, (K ++ L)[i3]? = some ⟨0, [.int .i64 n, s1]⟩ := fun L => by rw [List.getElem?_append_left b3]; exact h3
 have h4' : ∀ L : VH, (K ++ L)[i4]? = some ⟨0, [.int .i64 m, s2]⟩ := fun L => by rw [List.getElem?_append_left b4]; exact h4
 have hvm : (v + 1) * m ≤ n * m := Nat.mul_le_mul_right _ hv
 rw [Nat.add_mul, Nat.one_mul] at hvm
 have key := for_up (call := vcall F nro) (nro := nro) (live := [0, 3, 4, 5, 9, 10, 13, 14, 15, 16, 17]) (c := i_zz42_B1) (h0 := K ++ [⟨1, ints o0⟩]) (n := m)
  (fun w (_ : Unit) => [cd, .pointer (some ⟨i3, 0, some 2⟩), .pointer (some ⟨i4, 0, some 2⟩), .pointer (some ⟨i5, 0, some 2⟩), .pointer (some ⟨i9, 0, some 2⟩), .int .i64 0, .pointer (some ⟨i13, 0, some 2⟩), .int .i64 0, .slice (some ⟨K.length, 0, none⟩) (v * m + w) (v * m + w), .int .i64 v, .int .i64 w])
  (fun w _ => K ++ [⟨1, ints (tbl (v * m + w) (trG n m))⟩]) (fun _ u => u) (fun _ _ => True)
  (fun _ => some (.exit 2, fl [(0, cd), (3, .pointer (some ⟨i3, 0, some 2⟩)), (4, .pointer (some ⟨i4, 0, some 2⟩)), (5, .pointer (some ⟨i5, 0, some 2⟩)), (9, .pointer (some ⟨i9, 0, some 2⟩)), (10, .int .i64 0), (13, .pointer (some ⟨i13, 0, some 2⟩)), (14, .int .i64 0), (15, .slice (some ⟨K.length, 0, none⟩) (v * m + m) (v * m + m)), (16, .int .i64 v)], K ++ [⟨1, ints (tbl (v * m + m) (trG n m))⟩]))
  (fun w u hw hw2 _ => ⟨trivial, ?_⟩) (fun u _ => ?_) 0 () (by omega) trivial
 ·exact key.1
 ·have hwn : w * n + v < n * m := by
   have h5 : (w + 1) * n ≤ m * n := Nat.mul_le_mul_right _ hw
   rw [Nat.add_mul, Nat.one_mul, Nat.mul_comm m n] at h5
   omega
  have w1 : IntKind.i64.wrap ((w : Int) * n) = ((w * n : Nat) : Int) := by rw [← Int.natCast_mul]; exact wrap64 (by omega) (by omega)
  have w2 : IntKind.i64.wrap (((w * n : Nat) : Int) + v) = ((w * n + v : Nat) : Int) := by rw [← Int.natCast_add]; exact wrap64 (by omega) (by omega)
  have w3 : IntKind.i64.wrap ((w : Int) + 1) = (w : Int) + 1 := wrap64 (by omega) (by omega)
  have hG : trG n m (v * m + w) = ((w * n + v : Nat) : Int) := by
   unfold trG
   rw [(gl_pair hw).1, (gl_pair hw).2]
  have hsn := tbl_snoc (v * m + w) (trG n m)
  rw [hG] at hsn
  rw [show v * m + (w + 1) = v * m + w + 1 by omega]
  obtain ⟨a, ha⟩ : ∃ a, a = v * m + w := ⟨_, rfl⟩
  rw [← ha] at hsn ⊢
  have hal : (ints (tbl a (trG n m))).length = a := by rw [ints_length, tbl_length]
  have hapi : ints (tbl a (trG n m)) ++ [Value.int .i64 ((w * n + v : Nat) : Int)] = ints (tbl (a + 1) (trG n m)) := by rw [← hsn]; simp [ints]
  obtain ⟨A, hA⟩ : ∃ A, A = tbl a (trG n m) := ⟨_, rfl⟩
  obtain ⟨A2, hA2⟩ : ∃ A2, A2 = tbl (a + 1) (trG n m) := ⟨_, rfl⟩
  rw [← hA] at hal hapi ⊢
  rw [← hA2] at hapi ⊢
  have hal' : A.length = a := by rw [← hal, ints_length]
  obtain ⟨wn, hwn'⟩ : ∃ wn, wn = w * n := ⟨_, rfl⟩
  rw [← hwn'] at w1 w2 hapi hwn
  obtain ⟨z, hz⟩ : ∃ z, z = wn + v := ⟨_, rfl⟩
  rw [← hz] at w2 hapi
  have c1 : (a + 1) * 8 ≤ 1099511627776 := by omega
  have c2 : a < 1099511627776 := by omega
  have c3 : a + 1 < 9223372036854775807 := by omega
  rw [floop_at i_zz42_B1.eq_1]
  clear hA hA2 hsn hG hz hwn' hal
  simp (disch := first | assumption | omega | (simp [*] <;> omega) | fail) [-getElem?_pos, List.getElem?_cons_zero, List.getElem?_cons_succ, hw, hw2, h3', h4', w1, w2, w3, hal', hapi, c1, c2, c3, hn, hn', hcd, b3, b4, b5, b9, b13]
 ·rw [floop_at i_zz42_B1.eq_1]
  simp (disch := first | assumption | omega | (simp [*] <;> omega) | fail) [-getElem?_pos, List.getElem?_cons_zero, List.getElem?_cons_succ, h4']
theorem l_prod_B2 (hn62 : n ≤ 62) :
  floop (vcall F nro) nro [0, 3, 4, 5, 9, 10, 13, 14, 15, 16] i_zz42_B2 (K ++ [⟨1, []⟩]) [cd, .pointer (some ⟨i3, 0, some 2⟩), .pointer (some ⟨i4, 0, some 2⟩), .pointer (some ⟨i5, 0, some 2⟩), .pointer (some ⟨i9, 0, some 2⟩), .int .i64 0, .pointer (some ⟨i13, 0, some 2⟩), .int .i64 0, .slice (some ⟨K.length, 0, none⟩) 0 0, .int .i64 0] (K ++ [⟨1, []⟩]) =
   some (.exit 0, fl [(0, cd), (3, .pointer (some ⟨i3, 0, some 2⟩)), (4, .pointer (some ⟨i4, 0, some 2⟩)), (5, .pointer (some ⟨i5, 0, some 2⟩)), (9, .pointer (some ⟨i9, 0, some 2⟩)), (10, .int .i64 0), (13, .pointer (some ⟨i13, 0, some 2⟩)), (14, .int .i64 0), (15, .slice (some ⟨K.length, 0, none⟩) (n * m) (n * m))], K ++ [⟨1, ints (trnL n m)⟩]) := by
 have hn' := fun k => Nat.le_trans hn (Nat.le_add_right K.length k)
 have b3 := (List.getElem?_eq_some_iff.mp h3).1
 have b4 := (List.getElem?_eq_some_iff.mp h4).1
 have h3' : ∀ L : VH, (K ++ L)[i3]? = some ⟨0, [.int .i64 n, s1]⟩ := fun L => by rw [List.getElem?_append_left b3]; exact h3
 have key := for_up (call := vcall F nro) (nro := nro) (live := [0, 3, 4, 5, 9, 10, 13, 14, 15, 16]) (c := i_zz42_B2) (h0 := K ++ [⟨1, []⟩]) (n := n)
  (fun v (_ : Unit) => [cd, .pointer (some ⟨i3, 0, some 2⟩), .pointer (some ⟨i4, 0, some 2⟩), .pointer (some ⟨i5, 0, some 2⟩), .pointer (some ⟨i9, 0, some 2⟩), .int .i64 0, .pointer (some ⟨i13, 0, some 2⟩), .int .i64 0, .slice (some ⟨K.length, 0, none⟩) (v * m) (v * m), .int .i64 v])
  (fun v _ => K ++ [⟨1, ints (tbl (v * m) (trG n m))⟩]) (fun _ u => u) (fun _ _ => True)
  (fun _ => some (.exit 0, fl [(0, cd), (3, .pointer (some ⟨i3, 0, some 2⟩)), (4, .pointer (some ⟨i4, 0, some 2⟩)), (5, .pointer (some ⟨i5, 0, some 2⟩)), (9, .pointer (some ⟨i9, 0, some 2⟩)), (10, .int .i64 0), (13, .pointer (some ⟨i13, 0, some 2⟩)), (14, .int .i64 0), (15, .slice (some ⟨K.length, 0, none⟩) (n * m) (n * m))], K ++ [⟨1, ints (tbl (n * m) (trG n m))⟩]))
  (fun v u hv hv2 _ => ⟨trivial, ?_⟩) (fun u _ => ?_) 0 () (by omega) trivial
 ·have := key.1
  simp only [Nat.zero_mul, Int.natCast_zero] at this
  exact this
 ·have l1 := l_prod_B1 (nro := nro) h3 h4 b5 b9 b13 hcd h62 hn (tbl (v * m) (trG n m)) v hv
  rw [show (v + 1) * m = v * m + m by rw [Nat.add_mul, Nat.one_mul]]
  have w3 : IntKind.i64.wrap ((v : Int) + 1) = (v : Int) + 1 := wrap64 (by omega) (by omega)
  rw [floop_at i_zz42_B2.eq_1]
  obtain ⟨a, ha⟩ : ∃ a, a = v * m := ⟨_, rfl⟩
  rw [← ha] at l1 ⊢
  obtain ⟨A, hA⟩ : ∃ A, A = tbl a (trG n m) := ⟨_, rfl⟩
  obtain ⟨A2, hA2⟩ : ∃ A2, A2 = tbl (a + m) (trG n m) := ⟨_, rfl⟩
  have hA2l : A2.length = a + m := by rw [hA2, tbl_length]
  rw [← hA, ← hA2] at l1
  rw [← hA, ← hA2]
  clear hA hA2 ha
  simp (disch := first | assumption | omega | (simp [*] <;> omega) | fail) [-getElem?_pos, List.getElem?_cons_zero, List.getElem?_cons_succ, hv, hv2, h3', l1, w3, hn, hn', hcd, b3, b4, b5, b9, b13, hA2l]
 ·rw [floop_at i_zz42_B2.eq_1]
  simp (disch := first | assumption | omega | (simp [*] <;> omega) | fail) [-getElem?_pos, List.getElem?_cons_zero, List.getElem?_cons_succ, h3']
end
section
variable {Q : VH} {cd sa sb sc sd : Value} {n m : Nat} {A B C D : List Int} (ha : Sli Q sa A) (hb : Sli Q sb B) (hc : Sli Q sc C) (hd : Sli Q sd D) (hA : A.length = n) (hB : B.length = m) (hC : C.length = n * m) (hD : D.length = n * m) (h62 : n * m ≤ 62) (hcd : Old Q.length cd)
 (hsm : ∀ v w, v < n → w < m → 0 ≤ A.getD v 0 ∧ A.getD v 0 ≤ 62 ∧ 0 ≤ B.getD w 0 ∧ B.getD w 0 ≤ 62 ∧ C.getD (v * m + w) 0 = A.getD v 0 + B.getD w 0 ∧ D.getD (v * m + w) 0 = A.getD v 0 * B.getD w 0)
include ha hb hc hd hA hB hC hD h62 hcd hsm
set_option maxHeartbeats 1000000 in
theorem l_prod_B3 (v : Nat) (hv : v < n) (hn62 : n ≤ 62) (hm62 : m ≤ 62) :
  floop (vcall F nro) nro [0, 20, 22, 24, 26, 28, 29] i_zz42_B3 Q [cd, sa, sb, sc, sd, .int .i64 v, .int .i64 0] Q = some (.exit 6, fl [(0, cd), (20, sa), (22, sb), (24, sc), (26, sd), (28, .int .i64 v)], Q) := by
 have key := for_up (call := vcall F nro) (nro := nro) (live := [0, 20, 22, 24, 26, 28, 29]) (c := i_zz42_B3) (h0 := Q) (n := m)
  (fun w (_ : Unit) => [cd, sa, sb, sc, sd, .int .i64 v, .int .i64 w]) (fun _ _ => Q) (fun _ u => u) (fun _ _ => True)
  (fun _ => some (.exit 6, fl [(0, cd), (20, sa), (22, sb), (24, sc), (26, sd), (28, .int .i64 v)], Q))
  (fun w u hw hw2 _ => ⟨trivial, ?_⟩) (fun u _ => ?_) 0 () (by omega) trivial
 ·exact key.1
 ·have hvm : (v + 1) * m ≤ n * m := Nat.mul_le_mul_right _ hv
  rw [Nat.add_mul, Nat.one_mul] at hvm
  obtain ⟨q1, q2, q3, q4, q5, q6⟩ := hsm v w hv hw
  have vl := hb.vlen
  rw [hB] at vl
  have oa := ha.old
  have ob := hb.old
  have oc := hc.old
  have od := hd.old
  have w1 : IntKind.i64.wrap ((v : Int) * m) = ((v * m : Nat) : Int) := by rw [← Int.natCast_mul]; exact wrap64 (by omega) (by omega)
  have w2 : IntKind.i64.wrap (((v * m : Nat) : Int) + w) = ((v * m + w : Nat) : Int) := by rw [← Int.natCast_add]; exact wrap64 (by omega) (by omega)
  have w3 : IntKind.i64.wrap ((w : Int) + 1) = (w : Int) + 1 := wrap64 (by omega) (by omega)
  have c1 := hc.vidx (k := .i64) (j := ((v * m + w : Nat) : Int)) (by omega) (by omega)
  have c2 := hc.vload (j := v * m + w) (by omega)
  have d1 := hd.vidx (k := .i64) (j := ((v * m + w : Nat) : Int)) (by omega) (by omega)
  have d2 := hd.vload (j := v * m + w) (by omega)
  have a1 := ha.vidx (k := .i64) (j := (v : Int)) (by omega) (by omega)
  have a2 := ha.vload (j := v) (by omega)
  have b1 := hb.vidx (k := .i64) (j := (w : Int)) (by omega) (by omega)
  have b2 := hb.vload (j := w) (by omega)
  rw [← getD_at, q5] at c2
  rw [← getD_at, q6] at d2
  rw [← getD_at] at a2 b2
  simp only [Int.toNat_natCast] at a1 b1 c1 d1
  generalize A.getD v 0 = x at *
  generalize B.getD w 0 = y at *
  have hxy : 0 ≤ x * y ∧ x * y ≤ 62 * 62 := ⟨Int.mul_nonneg q1 q3, Int.mul_le_mul q2 q4 q3 (by omega)⟩
  have w4 : IntKind.i64.wrap (x + y) = x + y := wrap64 (by omega) (by omega)
  have w5 : IntKind.i64.wrap (x * y) = x * y := wrap64 (by omega) (by omega)
  generalize hz : x * y = z at *
  obtain ⟨k1, hk1⟩ : ∃ k1, k1 = v * m := ⟨_, rfl⟩
  rw [← hk1] at w1 w2 c1 c2 d1 d2
  obtain ⟨k2, hk2⟩ : ∃ k2, k2 = k1 + w := ⟨_, rfl⟩
  rw [← hk2] at w2 c1 c2 d1 d2
  rw [floop_at i_zz42_B3.eq_1]
  clear ha hb hc hd hsm hk1 hk2 q5 q6 hxy
  simp (disch := first | assumption | omega | (simp [*] <;> omega) | fail) [-getElem?_pos, List.getElem?_cons_zero, List.getElem?_cons_succ, hw, hw2, vl, w1, w2, w3, a1, a2, b1, b2, c1, c2, d1, d2, w4, hz, w5, oa, ob, oc, od, hcd]
 ·have vl := hb.vlen
  rw [hB] at vl
  rw [floop_at i_zz42_B3.eq_1]
  simp (disch := first | assumption | omega | (simp [*] <;> omega) | fail) [-getElem?_pos, List.getElem?_cons_zero, List.getElem?_cons_succ, vl]
theorem l_prod_B4 (hn62 : n ≤ 62) (hm62 : m ≤ 62) :
  floop (vcall F nro) nro [0, 20, 22, 24, 26, 28] i_zz42_B4 Q [cd, sa, sb, sc, sd, .int .i64 0] Q = some (.exit 4, fl [(0, cd)], Q) := by
 have key := for_up (call := vcall F nro) (nro := nro) (live := [0, 20, 22, 24, 26, 28]) (c := i_zz42_B4) (h0 := Q) (n := n)
  (fun v (_ : Unit) => [cd, sa, sb, sc, sd, .int .i64 v]) (fun _ _ => Q) (fun _ u => u) (fun _ _ => True)
  (fun _ => some (.exit 4, fl [(0, cd)], Q))
  (fun v u hv hv2 _ => ⟨trivial, ?_⟩) (fun u _ => ?_) 0 () (by omega) trivial
 ·exact key.1
 ·have l1 := l_prod_B3 (nro := nro) ha hb hc hd hA hB hC hD h62 hcd hsm v hv hn62 hm62
  have vl := ha.vlen
  rw [hA] at vl
  have oa := ha.old
  have ob := hb.old
  have oc := hc.old
  have od := hd.old
  have w3 : IntKind.i64.wrap ((v : Int) + 1) = (v : Int) + 1 := wrap64 (by omega) (by omega)
  rw [floop_at i_zz42_B4.eq_1]
  clear ha hb hc hd hsm
  simp (disch := first | assumption | omega | (simp [*] <;> omega) | fail) [-getElem?_pos, List.getElem?_cons_zero, List.getElem?_cons_succ, hv, hv2, vl, l1, w3, oa, ob, oc, od, hcd]
 ·have vl := ha.vlen
  rw [hA] at vl
  rw [floop_at i_zz42_B4.eq_1]
  simp (disch := first | assumption | omega | (simp [*] <;> omega) | fail) [-getElem?_pos, List.getElem?_cons_zero, List.getElem?_cons_succ, vl]
end
section
variable {Q : VH} {sy sp : Value} {n : Nat} {Y P : List Int} {i35 i37 : Nat} {n1 n2 : Int} (h35 : Q[i35]? = some ⟨0, [.int .i64 n1, sy]⟩) (h37 : Q[i37]? = some ⟨0, [.int .i64 n2, sp]⟩) (hy : Sli Q sy Y) (hp : Sli Q sp P) (hY : Y.length = n) (hP : P.length = n) (hn62 : n ≤ 62)
 (hsub : ∀ v, v < n → iand .i64 (P.getD v 0) (Y.getD v 0) = Y.getD v 0)
include h35 h37 hy hp hY hP hn62 hsub
theorem l_prod_B5 :
  floop (vcall F nro) nro [35, 37, 43] i_zz42_B5 Q [.pointer (some ⟨i35, 0, some 2⟩), .pointer (some ⟨i37, 0, some 2⟩), .int .i64 0] Q = some (.exit 8, fl [], Q) := by
 have b1 := (List.getElem?_eq_some_iff.mp h35).1
 have b2 := (List.getElem?_eq_some_iff.mp h37).1
 have vl := hy.vlen
 rw [hY] at vl
 have key := for_up (call := vcall F nro) (nro := nro) (live := [35, 37, 43]) (c := i_zz42_B5) (h0 := Q) (n := n)
  (fun v (_ : Unit) => [.pointer (some ⟨i35, 0, some 2⟩), .pointer (some ⟨i37, 0, some 2⟩), .int .i64 v]) (fun _ _ => Q) (fun _ u => u) (fun _ _ => True)
  (fun _ => some (.exit 8, fl [], Q))
  (fun v u hv hv2 _ => ⟨trivial, ?_⟩) (fun u _ => ?_) 0 () (by omega) trivial
 ·exact key.1
 ·have x1 := hy.vidx (k := .i64) (j := (v : Int)) (by omega) (by omega)
  have x2 := hy.vload (j := v) (by omega)
  have y1 := hp.vidx (k := .i64) (j := (v : Int)) (by omega) (by omega)
  have y2 := hp.vload (j := v) (by omega)
  have hs := hsub v hv
  rw [← getD_at] at x2 y2
  simp only [Int.toNat_natCast] at x1 y1
  have w3 : IntKind.i64.wrap ((v : Int) + 1) = (v : Int) + 1 := wrap64 (by omega) (by omega)
  generalize P.getD v 0 = p at *
  generalize Y.getD v 0 = y at *
  rw [floop_at i_zz42_B5.eq_1]
  clear hy hp hsub
  simp (disch := first | assumption | omega | (simp [*] <;> omega) | fail) [-getElem?_pos, List.getElem?_cons_zero, List.getElem?_cons_succ, hv, hv2, h35, h37, vl, x1, x2, y1, y2, hs, w3, b1, b2]
 ·rw [floop_at i_zz42_B5.eq_1]
  simp (disch := first | assumption | omega | (simp [*] <;> omega) | fail) [-getElem?_pos, List.getElem?_cons_zero, List.getElem?_cons_succ, h35, vl]
end
end

/- FnGroups, in parts: plain facts; one product. -/
section
open Go
open Classical
variable {nro : Nat}
def thenS : FC → FC
 | .seq (.seq _ (.cond _ a _)) _ => a
 | .seq _ (.cond _ a _) => a
 | c => c
end

/- FnProducts, in parts: products. -/
section
open Go
open Classical
variable {nro : Nat}
section
variable {H : VH} {cd s1 s2 sp sd : Value} {i3 i4 i5 i9 n m : Nat} {rows hr P D : List Int} (f3 : H[i3]? = some ⟨0, [.int .i64 n, s1]⟩) (f4 : H[i4]? = some ⟨0, [.int .i64 m, s2]⟩) (f5 : H[i5]? = some ⟨0, [.int .i64 (n * m : Nat), sp]⟩) (f9 : H[i9]? = some ⟨0, [.int .i64 (n * m : Nat), sd]⟩)
 (t1 : Sli H s1 rows) (t2 : Sli H s2 hr) (tp : Sli H sp P) (td : Sli H sd D) (g : GV n rows) (gm : GV m hr) (h62 : n * m ≤ 62) (eP : P = adjRows (n * m) (prAdj n m rows hr)) (eD : D = adjRows (n * m) (dirAdj n m rows hr)) (hcd : ∀ k, Old (H.length + k) cd) (hn : nro ≤ H.length)
noncomputable def trnP (n m : Nat) (rows hr : List Int) : List Int := adjRows (m * n) (prAdj m n hr rows)
include f3 f4 f5 f9 t1 t2 tp td g gm h62 eP eD hcd hn
set_option maxHeartbeats 1000000 in
theorem prod_S1 (e : FE) (h0 : e 0 = cd) (h3 : e 3 = .pointer (some ⟨i3, 0, some 2⟩)) (h4 : e 4 = .pointer (some ⟨i4, 0, some 2⟩)) (h5 : e 5 = .pointer (some ⟨i5, 0, some 2⟩)) (h9 : e 9 = .pointer (some ⟨i9, 0, some 2⟩)) (h10 : e 10 = .int .i64 0) :
  ∃ e', fcode (vcall F nro) nro (takeS 2 (thenS (takeS 0 (dropS 8 i_zz42.body)))) e H = some (.normal, e', H ++ [⟨1, ints (trnP n m rows hr)⟩, ⟨0, [.int .i64 (m * n : Nat), .slice (some ⟨H.length, 0, none⟩) (m * n) (m * n)]⟩, ⟨1, ints (trnL n m)⟩]) ∧
   e' 0 = cd ∧ e' 3 = .pointer (some ⟨i3, 0, some 2⟩) ∧ e' 4 = .pointer (some ⟨i4, 0, some 2⟩) ∧ e' 5 = .pointer (some ⟨i5, 0, some 2⟩) ∧ e' 9 = .pointer (some ⟨i9, 0, some 2⟩) ∧ e' 10 = .int .i64 0 ∧ e' 13 = .pointer (some ⟨H.length + 1, 0, some 2⟩) ∧ e' 14 = .int .i64 0 ∧ e' 15 = .slice (some ⟨H.length + 2, 0, none⟩) (n * m) (n * m) := by
 have _e1 := f5
 have _e2 := f9
 have _e3 := tp
 have _e4 := td
 have _e5 := eP
 have _e6 := eD
 have hn' := fun k => Nat.le_trans hn (Nat.le_add_right H.length k)
 have b3 := (List.getElem?_eq_some_iff.mp f3).1
 have b4 := (List.getElem?_eq_some_iff.mp f4).1
 have b5 := (List.getElem?_eq_some_iff.mp f5).1
 have b9 := (List.getElem?_eq_some_iff.mp f9).1
 have hp := c_zz54 (nro := nro) m n s2 s1 hr rows H t2 t1 hn
 have ea : prodAns prAdj (m : Int) hr (n : Int) rows = .inl (((m * n : Nat) : Int), trnP n m rows hr) := by
  unfold prodAns trnP
  rw [if_neg (not_not_intro ⟨gm, g⟩), if_neg (by rw [← Int.natCast_mul, Nat.mul_comm]; omega), Int.toNat_natCast, Int.toNat_natCast, ← Int.natCast_mul]
 rw [ea] at hp
 have hl : (trnP n m rows hr).length = m * n := (pr_tab gm g (by rw [Nat.mul_comm]; exact h62)).1
 simp only [gres, hl] at hp
 have lp := l_prod_B2 (nro := nro) (K := H ++ [⟨1, ints (trnP n m rows hr)⟩, ⟨0, [.int .i64 (m * n : Nat), .slice (some ⟨H.length, 0, none⟩) (m * n) (m * n)]⟩]) (cd := cd) (s1 := s1) (s2 := s2) (i3 := i3) (i4 := i4) (i5 := i5) (i9 := i9) (i13 := H.length + 1) (n := n) (m := m)
  (by rw [List.getElem?_append_left b3]; exact f3) (by rw [List.getElem?_append_left b4]; exact f4) (by simp; omega) (by simp; omega) (by simp) (fun k => by have := hcd (2 + k); simpa [Nat.add_assoc] using this) h62 (by simp; omega) (by have := g.hi; omega)
 have hKl : (H ++ [⟨1, ints (trnP n m rows hr)⟩, ⟨0, [.int .i64 (m * n : Nat), .slice (some ⟨H.length, 0, none⟩) (m * n) (m * n)]⟩] : VH).length = H.length + 2 := by simp
 rw [hKl, List.append_assoc, List.append_assoc] at lp
 have f3' : ∀ L : VH, (H ++ L)[i3]? = some ⟨0, [.int .i64 n, s1]⟩ := fun L => by rw [List.getElem?_append_left b3]; exact f3
 have f4' : ∀ L : VH, (H ++ L)[i4]? = some ⟨0, [.int .i64 m, s2]⟩ := fun L => by rw [List.getElem?_append_left b4]; exact f4
 generalize trnP n m rows hr = T at hp lp hl ⊢
 obtain ⟨mn, hmn⟩ : ∃ mn, mn = m * n := ⟨_, rfl⟩
 rw [← hmn] at hp lp hl ⊢
 simp only [List.cons_append, List.nil_append] at lp
 generalize trnL n m = LL' at lp ⊢
 clear t1 t2 tp td g gm eP eD hmn ea hKl
 simp (disch := first | assumption | omega | (simp [*] <;> omega) | fail) [-getElem?_pos, List.getElem?_cons_zero, List.getElem?_cons_succ, i_zz42, takeS, dropS, thenS, h0, h3, h4, h5, h9, h10, f3, f4, f3', f4', hp, lp, hn, hn', splice]
set_option maxHeartbeats 2000000 in
theorem prod_S2 {st sl : Value} {i13 : Nat} (f13 : H[i13]? = some ⟨0, [.int .i64 (m * n : Nat), st]⟩) (tt : Sli H st (trnP n m rows hr)) (tl : Sli H sl (trnL n m)) (e : FE) (h0 : e 0 = cd) (h3 : e 3 = .pointer (some ⟨i3, 0, some 2⟩)) (h4 : e 4 = .pointer (some ⟨i4, 0, some 2⟩)) (h5 : e 5 = .pointer (some ⟨i5, 0, some 2⟩)) (h9 : e 9 = .pointer (some ⟨i9, 0, some 2⟩)) (h10 : e 10 = .int .i64 0) (h13 : e 13 = .pointer (some ⟨i13, 0, some 2⟩)) (h14 : e 14 = .int .i64 0) (h15 : e 15 = sl) :
  ∃ e', fcode (vcall F nro) nro (takeS 5 (dropS 3 (thenS (takeS 0 (dropS 8 i_zz42.body))))) e H = some (.normal, e', H ++ [⟨1, ints (trnP n m rows hr)⟩, ⟨0, [.int .i64 (n * m : Nat), .slice (some ⟨H.length, 0, none⟩) (n * m) (n * m)]⟩, ⟨1, ints (degF rows n 0)⟩, ⟨1, ints (degF hr m 0)⟩, ⟨1, ints (degF P (n * m) 0)⟩, ⟨1, ints (degF D (n * m) 0)⟩]) ∧
   e' 0 = cd ∧ e' 20 = .slice (some ⟨H.length + 2, 0, none⟩) n n ∧ e' 22 = .slice (some ⟨H.length + 3, 0, none⟩) m m ∧ e' 24 = .slice (some ⟨H.length + 4, 0, none⟩) (n * m) (n * m) ∧ e' 26 = .slice (some ⟨H.length + 5, 0, none⟩) (n * m) (n * m) := by
 have _e1 := hcd
 have hn' := fun k => Nat.le_trans hn (Nat.le_add_right H.length k)
 have b3 := (List.getElem?_eq_some_iff.mp f3).1
 have b4 := (List.getElem?_eq_some_iff.mp f4).1
 have b5 := (List.getElem?_eq_some_iff.mp f5).1
 have b9 := (List.getElem?_eq_some_iff.mp f9).1
 have b13 := (List.getElem?_eq_some_iff.mp f13).1
 have gP := pr_gv g gm h62
 have gD := dir_gv g gm h62
 rw [← eP] at gP
 rw [← eD] at gD
 have hr1 := c_zz29 (nro := nro) (n * m) sp sl P (trnL n m) H tp tl gP (trn_perm n m) hn
 have ht := turned_eq g gm h62
 rw [← eP] at ht
 rw [ht] at hr1
 change _ = some (gres H (.inl (_, trnP n m rows hr))) at hr1
 have hTl : (trnP n m rows hr).length = n * m := by
  have := (pr_tab gm g (by rw [Nat.mul_comm]; exact h62)).1
  unfold trnP
  rw [this, Nat.mul_comm]
 simp only [gres, hTl] at hr1
 have hnl : ∀ L : VH, nro ≤ (H ++ L).length := fun L => by simp; omega
 have d1 := fun L => c_zz51 (nro := nro) n s1 rows (H ++ L) (t1.app L) (hnl L)
 have d2 := fun L => c_zz51 (nro := nro) m s2 hr (H ++ L) (t2.app L) (hnl L)
 have d3 := fun L => c_zz51 (nro := nro) (n * m : Nat) sp P (H ++ L) (tp.app L) (hnl L)
 have d4 := fun L => c_zz51 (nro := nro) (n * m : Nat) sd D (H ++ L) (td.app L) (hnl L)
 have z : ∀ {n : Nat} {rows : List Int}, GV n rows → dgA n rows = .inl (degF rows n 0) := fun g => by
  unfold dgA
  rw [if_pos g, Int.toNat_natCast]
 have lz : ∀ (r : List Int) (k : Nat), (degF r k 0).length = k := fun r k => by rw [degF_len]; omega
 rw [z g] at d1
 rw [z gm] at d2
 rw [z gP] at d3
 rw [z gD] at d4
 simp only [ires, lz, List.length_append] at d1 d2 d3 d4
 have f3' : ∀ L : VH, (H ++ L)[i3]? = some ⟨0, [.int .i64 n, s1]⟩ := fun L => by rw [List.getElem?_append_left b3]; exact f3
 have f4' : ∀ L : VH, (H ++ L)[i4]? = some ⟨0, [.int .i64 m, s2]⟩ := fun L => by rw [List.getElem?_append_left b4]; exact f4
 have f5' : ∀ L : VH, (H ++ L)[i5]? = some ⟨0, [.int .i64 (n * m : Nat), sp]⟩ := fun L => by rw [List.getElem?_append_left b5]; exact f5
 have f9' : ∀ L : VH, (H ++ L)[i9]? = some ⟨0, [.int .i64 (n * m : Nat), sd]⟩ := fun L => by rw [List.getElem?_append_left b9]; exact f9
 have f13' : ∀ L : VH, (H ++ L)[i13]? = some ⟨0, [.int .i64 (m * n : Nat), st]⟩ := fun L => by rw [List.getElem?_append_left b13]; exact f13
 have s5 := sli_at (h := H ++ [⟨1, ints (trnP n m rows hr)⟩, ⟨0, [.int .i64 (n * m : Nat), .slice (some ⟨H.length, 0, none⟩) (n * m) (n * m)]⟩, ⟨1, ints (degF rows n 0)⟩, ⟨1, ints (degF hr m 0)⟩, ⟨1, ints (degF P (n * m) 0)⟩, ⟨1, ints (degF D (n * m) 0)⟩]) (b := H.length) (xs := trnP n m rows hr) (by simp)
 rw [hTl] at s5
 have g5 := c_zz76 (nro := nro) (n * m : Nat) (m * n : Nat) _ st _ _ _ s5 (tt.app _) (by rw [hTl]; omega)
 rw [decide_eq_true ⟨by rw [Nat.mul_comm], rfl⟩] at g5
 have n0 : (0 : Int) = 0 := rfl
 generalize trnP n m rows hr = T at hr1 g5 hTl ⊢
 generalize hA : degF rows n 0 = A at d1 g5 ⊢
 generalize hB : degF hr m 0 = B at d2 g5 ⊢
 generalize hC : degF P (n * m) 0 = C at d3 g5 ⊢
 generalize hDg : degF D (n * m) 0 = Dg at d4 g5 ⊢
 obtain ⟨mn, hmn⟩ : ∃ mn, mn = m * n := ⟨_, rfl⟩
 obtain ⟨nm, hnm⟩ : ∃ nm, nm = n * m := ⟨_, rfl⟩
 rw [← hmn] at g5
 simp only [← hmn] at f13 f13'
 simp only [← hnm] at hr1 d3 d4 f5 f9 f5' f9' g5 ⊢
 clear t1 t2 tp td g gm eP eD tt tl gP gD hTl hmn hnm ht s5 hA hB hC hDg z lz
 simp (disch := first | assumption | omega | (simp [*] <;> omega) | fail) [-getElem?_pos, List.getElem?_cons_zero, List.getElem?_cons_succ, i_zz42, takeS, dropS, thenS, h0, h3, h4, h5, h9, h10, h13, h14, h15, f3, f4, f5, f9, f13, f3', f4', f5', f9', f13', hr1, d1, d2, d3, d4, g5, hn, hn', splice]
end
section
variable {H : VH} {cd sa sb sc sd : Value} {n m : Nat} {rows hr : List Int} (g : GV n rows) (gm : GV m hr) (h62 : n * m ≤ 62)
 (ha : Sli H sa (degF rows n 0)) (hb : Sli H sb (degF hr m 0)) (hc : Sli H sc (degF (adjRows (n * m) (prAdj n m rows hr)) (n * m) 0)) (hd : Sli H sd (degF (adjRows (n * m) (dirAdj n m rows hr)) (n * m) 0)) (hcd : Old H.length cd)
include g gm h62 ha hb hc hd hcd
theorem prod_S3 (e : FE) (h0 : e 0 = cd) (h20 : e 20 = sa) (h22 : e 22 = sb) (h24 : e 24 = sc) (h26 : e 26 = sd) :
  ∃ e', fcode (vcall F nro) nro (dropS 9 (thenS (takeS 0 (dropS 8 i_zz42.body)))) e H = some (.normal, e', H) ∧ e' 0 = cd := by
 have lz : ∀ (r : List Int) (k : Nat), (degF r k 0).length = k := fun r k => by rw [degF_len]; omega
 have ghi := g.hi
 have gmhi := gm.hi
 have dg : ∀ (r : List Int) (k j : Nat), j < k → (degF r k 0).getD j 0 = (deg r j : Int) := fun r k j hj => by
  have := degF_get (rows := r) (n := k) j 0 (by omega)
  rwa [Nat.zero_add] at this
 have lp := l_prod_B4 (nro := nro) ha hb hc hd (lz _ _) (lz _ _) (lz _ _) (lz _ _) h62 hcd (fun v w hv hw => by
  have hvw : v * m + w < n * m := by
   have h3 : (v + 1) * m ≤ n * m := Nat.mul_le_mul_right _ hv
   rw [Nat.add_mul, Nat.one_mul] at h3
   omega
  rw [dg _ _ _ hv, dg _ _ _ hw, dg _ _ _ hvw, dg _ _ _ hvw]
  exact ⟨by omega, deg_le62 g.rok hv, by omega, deg_le62 gm.rok hw, pr_deg g gm h62 hv hw, dir_deg g gm h62 hv hw⟩) (by omega) (by omega)
 clear g gm ha hb hc hd dg lz
 simp (disch := first | assumption | omega | (simp [*] <;> omega) | fail) [i_zz42, takeS, dropS, thenS, h0, h20, h22, h24, h26, lp]
end
end

/- FnGroups, in parts: one product, whole. -/
section
open Go
open Classical
variable {nro : Nat}
theorem cond_zero {call : VCall} (B : FC) (r t1 t2 : Nat) (e : FE) (K : VH) (hc : e r = .int .i64 0) :
  fcode call nro (.seq (.ops [⟨some t1, .mv (.tmp r), none, 0⟩, ⟨some t2, .bin .eql (.tmp t1) (.const (.int .i64 0)), none, 0⟩]) (.cond (.tmp t2) B .skip)) e K = fcode call nro B (fput (fput e (some t1) (.int .i64 0)) (some t2) (.bool true)) K := by
 simp (disch := first | assumption | omega | (simp [*] <;> omega) | fail) [hc]
theorem cond_non {call : VCall} (B : FC) (r t1 t2 : Nat) (e : FE) (K : VH) (c : Int) (hc : e r = .int .i64 c) (h0 : c ≠ 0) :
  fcode call nro (.seq (.ops [⟨some t1, .mv (.tmp r), none, 0⟩, ⟨some t2, .bin .eql (.tmp t1) (.const (.int .i64 0)), none, 0⟩]) (.cond (.tmp t2) B .skip)) e K = some (.normal, fput (fput e (some t1) (.int .i64 c)) (some t2) (.bool false), K) := by
 simp (disch := first | assumption | omega | (simp [*] <;> omega) | fail) [hc, h0]
end

/- FnProducts, in parts: products, whole. -/
section
open Go
open Classical
variable {nro : Nat}
section
variable {cd : Value} {xs : List Int} {K : VH} (hs : Sl K cd (bys xs)) (hx : Code' xs) (hn : nro ≤ K.length)
include hs hx hn
abbrev pA (k : Nat) (n1 n2 : Int) (r1 r2 : List Int) (nm : Int) (l : Nat) (P D : List Int) : VH :=
 [⟨1, ints r1⟩, ⟨1, ints r2⟩, ⟨0, [.int .i64 n1, .slice (some ⟨k, 0, none⟩) r1.length r1.length]⟩, ⟨0, [.int .i64 n2, .slice (some ⟨k + 1, 0, none⟩) r2.length r2.length]⟩, ⟨1, ints P⟩, ⟨0, [.int .i64 nm, .slice (some ⟨k + 4, 0, none⟩) l l]⟩, ⟨1, ints P⟩, ⟨0, [.int .i64 nm, .slice (some ⟨k + 6, 0, none⟩) l l]⟩, ⟨1, ints D⟩, ⟨0, [.int .i64 nm, .slice (some ⟨k + 8, 0, none⟩) l l]⟩, ⟨1, ints D⟩, ⟨0, [.int .i64 nm, .slice (some ⟨k + 10, 0, none⟩) l l]⟩]
set_option maxHeartbeats 4000000 in
theorem prod_A0 (e : FE) (he : e 0 = cd) : ∃ (e' : FE) (n1 n2 : Int) (r1 r2 : List Int) (L : VH), fcode (vcall F nro) nro (takeS 5 (dropS 2 i_zz42.body)) e K = some (.normal, e', K ++ L) ∧ e' 0 = cd ∧
  match prodAns prAdj n1 r1 n2 r2 with
  | .inr c => e' 6 = .int .i64 c ∧ c ≠ 0
  | .inl (nm, P) => ∃ D, prodAns dirAdj n1 r1 n2 r2 = .inl (nm, D) ∧ D.length = P.length ∧ L = pA K.length n1 n2 r1 r2 nm P.length P D ∧ e' 3 = .pointer (some ⟨K.length + 2, 0, some 2⟩) ∧ e' 4 = .pointer (some ⟨K.length + 3, 0, some 2⟩) ∧ e' 5 = .pointer (some ⟨K.length + 5, 0, some 2⟩) ∧ e' 6 = .int .i64 0 ∧ e' 9 = .pointer (some ⟨K.length + 9, 0, some 2⟩) ∧ e' 10 = .int .i64 0 := by
 have hn' := fun k => Nat.le_trans hn (Nat.le_add_right K.length k)
 obtain ⟨n1, n2, r1, r2, _, _, d1⟩ := c_zz31 (nro := nro) hs hx hn
 have s1 := sli_at (h := K ++ [⟨1, ints r1⟩, ⟨1, ints r2⟩]) (b := K.length) (xs := r1) (by simp)
 have s2 := sli_at (h := K ++ [⟨1, ints r1⟩, ⟨1, ints r2⟩]) (b := K.length + 1) (xs := r2) (by simp)
 have hnl : ∀ L : VH, nro ≤ ((K ++ [⟨1, ints r1⟩, ⟨1, ints r2⟩] : VH) ++ L).length := fun L => by simp; omega
 have c1 := fun L => c_zz54 (nro := nro) n1 n2 _ _ r1 r2 ((K ++ [⟨1, ints r1⟩, ⟨1, ints r2⟩]) ++ L) (s1.app L) (s2.app L) (hnl L)
 have c2 := fun L => c_zz58 (nro := nro) n1 n2 _ _ r1 r2 ((K ++ [⟨1, ints r1⟩, ⟨1, ints r2⟩]) ++ L) (s1.app L) (s2.app L) (hnl L)
 have c3 := fun L => c_zz26 (nro := nro) n1 n2 _ _ r1 r2 ((K ++ [⟨1, ints r1⟩, ⟨1, ints r2⟩]) ++ L) (s1.app L) (s2.app L) (hnl L)
 have c4 := fun L => c_zz30 (nro := nro) n1 n2 _ _ r1 r2 ((K ++ [⟨1, ints r1⟩, ⟨1, ints r2⟩]) ++ L) (s1.app L) (s2.app L) (hnl L)
 by_cases hg : (GV n1 r1 ∧ GV n2 r2) ∧ ¬ 62 < n1 * n2
 ·obtain ⟨⟨g, gm⟩, h6⟩ := hg
  obtain ⟨n, rfl⟩ : ∃ N : Nat, n1 = N := ⟨n1.toNat, by have := g.lo; omega⟩
  obtain ⟨m, rfl⟩ : ∃ N : Nat, n2 = N := ⟨n2.toNat, by have := gm.lo; omega⟩
  have h62 : n * m ≤ 62 := by rw [← Int.natCast_mul] at h6; omega
  have ep : prodAns prAdj n r1 m r2 = .inl (((n * m : Nat) : Int), adjRows (n * m) (prAdj n m r1 r2)) := by
   unfold prodAns
   rw [if_neg (not_not_intro ⟨g, gm⟩), if_neg h6, Int.toNat_natCast, Int.toNat_natCast, ← Int.natCast_mul]
  have ed : prodAns dirAdj n r1 m r2 = .inl (((n * m : Nat) : Int), adjRows (n * m) (dirAdj n m r1 r2)) := by
   unfold prodAns
   rw [if_neg (not_not_intro ⟨g, gm⟩), if_neg h6, Int.toNat_natCast, Int.toNat_natCast, ← Int.natCast_mul]
  have lp := (pr_tab g gm h62).1
  have ld := (dir_tab g gm h62).1
  rw [ep] at c1 c2
  rw [ed] at c3 c4
  obtain ⟨P, hP⟩ : ∃ P, P = adjRows (n * m) (prAdj n m r1 r2) := ⟨_, rfl⟩
  obtain ⟨D, hD⟩ : ∃ D, D = adjRows (n * m) (dirAdj n m r1 r2) := ⟨_, rfl⟩
  rw [← hP] at c1 c2 ep lp
  rw [← hD] at c3 c4 ed ld
  obtain ⟨q, hq⟩ : ∃ q : Nat, q = n * m := ⟨_, rfl⟩
  rw [← hq] at c1 c2 c3 c4 ep ed lp ld h62
  simp only [gres, lp, ld, List.length_append] at c1 c2 c3 c4
  have z1 := sli_at (h := K ++ pA K.length n m r1 r2 q q P D) (b := K.length + 4) (xs := P) (by rw [hgetk]; rfl)
  have z2 := sli_at (h := K ++ pA K.length n m r1 r2 q q P D) (b := K.length + 6) (xs := P) (by rw [hgetk]; rfl)
  have z3 := sli_at (h := K ++ pA K.length n m r1 r2 q q P D) (b := K.length + 8) (xs := D) (by rw [hgetk]; rfl)
  have z4 := sli_at (h := K ++ pA K.length n m r1 r2 q q P D) (b := K.length + 10) (xs := D) (by rw [hgetk]; rfl)
  have g1 := c_zz76 (nro := nro) q q _ _ _ _ _ z1 z2 (by omega)
  have g2 := c_zz76 (nro := nro) q q _ _ _ _ _ z3 z4 (by omega)
  rw [decide_eq_true ⟨rfl, rfl⟩, lp] at g1
  rw [decide_eq_true ⟨rfl, rfl⟩, ld] at g2
  have hv : ∃ e' : FE, fcode (vcall F nro) nro (takeS 5 (dropS 2 i_zz42.body)) e K = some (.normal, e', K ++ pA K.length n m r1 r2 q q P D) ∧ e' 0 = cd ∧ e' 3 = .pointer (some ⟨K.length + 2, 0, some 2⟩) ∧ e' 4 = .pointer (some ⟨K.length + 3, 0, some 2⟩) ∧ e' 5 = .pointer (some ⟨K.length + 5, 0, some 2⟩) ∧ e' 6 = .int .i64 0 ∧ e' 9 = .pointer (some ⟨K.length + 9, 0, some 2⟩) ∧ e' 10 = .int .i64 0 := by
   unfold pA at g1 g2 ⊢
   generalize r1.length = l1 at d1 c1 c2 c3 c4 g1 g2 ⊢
   generalize r2.length = l2 at d1 c1 c2 c3 c4 g1 g2 ⊢
   simp at c1 c2 c3 c4 g1 g2
   clear hs hx s1 s2 g gm h6 h62 ep ed lp ld hP hD hq z1 z2 z3 z4 hnl
   simp (disch := first | assumption | omega | (simp [*] <;> omega) | fail) [i_zz42, takeS, dropS, he, d1, c1, c2, c3, c4, g1, g2, hn, hn', splice]
  obtain ⟨e', v1, v2, v3, v4, v5, v6, v7, v8⟩ := hv
  refine ⟨e', n, m, r1, r2, _, v1, v2, ?_⟩
  rw [ep, ed]
  exact ⟨D, rfl, by rw [lp, ld], by rw [lp], v3, v4, v5, v6, v7, v8⟩
 ·obtain ⟨c, hc0, ep, ed⟩ : ∃ c : Int, c ≠ 0 ∧ prodAns prAdj n1 r1 n2 r2 = .inr c ∧ prodAns dirAdj n1 r1 n2 r2 = .inr c := by
   unfold prodAns
   by_cases h1 : GV n1 r1 ∧ GV n2 r2
   ·have h2 : 62 < n1 * n2 := Classical.byContradiction fun h => hg ⟨h1, h⟩
    exact ⟨3, by omega, by rw [if_neg (not_not_intro h1), if_pos h2], by rw [if_neg (not_not_intro h1), if_pos h2]⟩
   ·exact ⟨1, by omega, by rw [if_pos h1], by rw [if_pos h1]⟩
  rw [ep] at c1 c2
  rw [ed] at c3 c4
  simp only [gres] at c1 c2 c3 c4
  have g1 := fun L => c_zz76 (nro := nro) 0 0 (.slice none 0 0) (.slice none 0 0) [] [] (K ++ L) (by simp [Sli, Sl, vsrc, ints]) (by simp [Sli, Sl, vsrc, ints]) (by simp)
  have hv : ∃ (e' : FE) (L : VH), fcode (vcall F nro) nro (takeS 5 (dropS 2 i_zz42.body)) e K = some (.normal, e', K ++ L) ∧ e' 0 = cd ∧ e' 6 = .int .i64 c := by
   generalize r1.length = l1 at d1 c1 c2 c3 c4
   generalize r2.length = l2 at d1 c1 c2 c3 c4
   simp at c1 c2 c3 c4
   clear hs hx s1 s2 hg ep ed hnl
   simp (disch := first | assumption | omega | (simp [*] <;> omega) | fail) [i_zz42, takeS, dropS, he, d1, c1, c2, c3, c4, g1, hn, hn', splice]
  obtain ⟨e', L, v1, v2, v3⟩ := hv
  refine ⟨e', n1, n2, r1, r2, L, v1, v2, ?_⟩
  rw [ep]
  exact ⟨v3, hc0⟩
end
end

/- FnProducts, in parts: products, joined. -/
section
open Go
open Classical
variable {nro : Nat}
theorem prodAns_inl {adj : Nat → Nat → List Int → List Int → Nat → Nat → Prop} {n1 n2 : Int} {r1 r2 : List Int} {nm : Int} {P : List Int} (h : prodAns adj n1 r1 n2 r2 = .inl (nm, P)) :
  ∃ n m : Nat, n1 = n ∧ n2 = m ∧ GV n r1 ∧ GV m r2 ∧ n * m ≤ 62 ∧ nm = (n * m : Nat) ∧ P = adjRows (n * m) (adj n m r1 r2) := by
 unfold prodAns at h
 split at h
 ·cases h
 ·rename_i hg
  have hg := Classical.not_not.mp hg
  split at h
  ·cases h
  ·rename_i h6
   obtain ⟨g, gm⟩ := hg
   obtain ⟨n, rfl⟩ : ∃ N : Nat, n1 = N := ⟨n1.toNat, by have := g.lo; omega⟩
   obtain ⟨m, rfl⟩ : ∃ N : Nat, n2 = N := ⟨n2.toNat, by have := gm.lo; omega⟩
   rw [← Int.natCast_mul] at h6 h
   rw [Int.toNat_natCast, Int.toNat_natCast] at h
   cases h
   exact ⟨n, m, rfl, rfl, g, gm, by omega, rfl, rfl⟩
section
variable {cd : Value} {xs : List Int} {K : VH} (hs : Sl K cd (bys xs)) (hx : Code' xs) (hn : nro ≤ K.length)
include hs hx hn
theorem prod_A (e : FE) (he : e 0 = cd) : ∃ e' L, fcode (vcall F nro) nro (takeS 6 (dropS 2 i_zz42.body)) e K = some (.normal, e', K ++ L) ∧ e' 0 = cd := by
 obtain ⟨e1, n1, n2, r1, r2, L, a0, a1, a2⟩ := prod_A0 (nro := nro) hs hx hn e he
 rw [fcode_parts (vcall F nro) nro 5 (takeS 6 (dropS 2 i_zz42.body)) _ _ (by decide)]
 have t1 : takeS 5 (takeS 6 (dropS 2 i_zz42.body)) = takeS 5 (dropS 2 i_zz42.body) := rfl
 have t2 : dropS (5 + 1) (takeS 6 (dropS 2 i_zz42.body)) = takeS 0 (dropS 8 i_zz42.body) := rfl
 have t3 : takeS 0 (dropS 8 i_zz42.body) = .seq (.ops [⟨some 95, .mv (.tmp 6), none, 0⟩, ⟨some 96, .bin .eql (.tmp 95) (.const (.int .i64 0)), none, 0⟩]) (.cond (.tmp 96) (thenS (takeS 0 (dropS 8 i_zz42.body))) .skip) := rfl
 rw [t1, t2, a0, kseq_normal, t3]
 cases hp : prodAns prAdj n1 r1 n2 r2 with
 | inr c =>
  rw [hp] at a2
  obtain ⟨a2, a3⟩ := a2
  rw [cond_non _ _ _ _ _ _ _ a2 a3]
  exact ⟨_, _, rfl, by simpa using a1⟩
 | inl q =>
  obtain ⟨nm, P⟩ := q
  rw [hp] at a2
  obtain ⟨D, hd, hDl, rfl, b3, b4, b5, b6, b9, b10⟩ := a2
  obtain ⟨n, m, rfl, rfl, g, gm, h62, rfl, eP⟩ := prodAns_inl hp
  obtain ⟨n', m', hn1, hn2, _, _, _, _, eD⟩ := prodAns_inl hd
  have : n' = n := by omega
  have : m' = m := by omega
  subst n' m'
  have lP : P.length = n * m := by rw [eP]; exact (pr_tab g gm h62).1
  rw [cond_zero _ _ _ _ _ _ b6]
  obtain ⟨e2, he2⟩ : ∃ e2, e2 = fput (fput e1 (some 95) (.int .i64 0)) (some 96) (.bool true) := ⟨_, rfl⟩
  rw [← he2]
  have ho : Old K.length cd := hs.old
  obtain ⟨H, hH⟩ : ∃ H, H = K ++ pA K.length n m r1 r2 (n * m : Nat) P.length P D := ⟨_, rfl⟩
  have hHl : H.length = K.length + 12 := by rw [hH]; simp
  rw [← hH]
  have f3 : H[K.length + 2]? = some ⟨0, [.int .i64 n, .slice (some ⟨K.length, 0, none⟩) r1.length r1.length]⟩ := by rw [hH, hgetk]; rfl
  have f4 : H[K.length + 3]? = some ⟨0, [.int .i64 m, .slice (some ⟨K.length + 1, 0, none⟩) r2.length r2.length]⟩ := by rw [hH, hgetk]; rfl
  have f5 : H[K.length + 5]? = some ⟨0, [.int .i64 (n * m : Nat), .slice (some ⟨K.length + 4, 0, none⟩) P.length P.length]⟩ := by rw [hH, hgetk]; rfl
  have f9 : H[K.length + 9]? = some ⟨0, [.int .i64 (n * m : Nat), .slice (some ⟨K.length + 8, 0, none⟩) P.length P.length]⟩ := by rw [hH, hgetk]; rfl
  have s1 := sli_at (h := H) (b := K.length) (xs := r1) (by rw [hH, hget0]; rfl)
  have s2 := sli_at (h := H) (b := K.length + 1) (xs := r2) (by rw [hH, hgetk]; rfl)
  have sp := sli_at (h := H) (b := K.length + 4) (xs := P) (by rw [hH, hgetk]; rfl)
  have sd := sli_at (h := H) (b := K.length + 8) (xs := D) (by rw [hH, hgetk]; rfl)
  rw [hDl] at sd
  have hcd : ∀ k, Old (H.length + k) cd := fun k => ho.le (by omega)
  have hnH : nro ≤ H.length := by omega
  obtain ⟨e3, c0, c1, c2, c3, c4, c5, c6, c7, c8, c9⟩ := prod_S1 (nro := nro) f3 f4 f5 f9 s1 s2 sp sd g gm h62 eP eD hcd hnH e2 (by rw [he2]; simpa using a1) (by rw [he2]; simpa using b3) (by rw [he2]; simpa using b4) (by rw [he2]; simpa using b5) (by rw [he2]; simpa using b9) (by rw [he2]; simpa using b10)
  rw [fcode_parts (vcall F nro) nro 2 (thenS (takeS 0 (dropS 8 i_zz42.body))) _ _ (by decide), c0, kseq_normal]
  obtain ⟨X, hX⟩ : ∃ X : VH, X = [⟨1, ints (trnP n m r1 r2)⟩, ⟨0, [.int .i64 (m * n : Nat), .slice (some ⟨H.length, 0, none⟩) (m * n) (m * n)]⟩, ⟨1, ints (trnL n m)⟩] := ⟨_, rfl⟩
  rw [← hX]
  have lift : ∀ {i : Nat} {o : VO}, H[i]? = some o → ∀ L : VH, (H ++ L)[i]? = some o := fun h L => by rw [List.getElem?_append_left (List.getElem?_eq_some_iff.mp h).1]; exact h
  have f13 : (H ++ X)[H.length + 1]? = some ⟨0, [.int .i64 (m * n : Nat), .slice (some ⟨H.length, 0, none⟩) (m * n) (m * n)]⟩ := by rw [hX, hgetk]; rfl
  have st := sli_at (h := H ++ X) (b := H.length) (xs := trnP n m r1 r2) (by rw [hX, hget0]; rfl)
  have sl := sli_at (h := H ++ X) (b := H.length + 2) (xs := trnL n m) (by rw [hX, hgetk]; rfl)
  have lT : (trnP n m r1 r2).length = m * n := (pr_tab gm g (by rw [Nat.mul_comm]; exact h62)).1
  have lL : (trnL n m).length = n * m := (trn_perm n m).len
  rw [lT] at st
  rw [lL] at sl
  have hXl : (H ++ X).length = H.length + 3 := by rw [hX]; simp
  obtain ⟨e4, d0, d1, d2, d3, d4, d5⟩ := prod_S2 (nro := nro) (lift f3 X) (lift f4 X) (lift f5 X) (lift f9 X) (s1.app X) (s2.app X) (sp.app X) (sd.app X) g gm h62 eP eD (fun k => by rw [hXl, Nat.add_assoc]; exact hcd _) (by omega) f13 st sl e3 c1 c2 c3 c4 c5 c6 c7 c8 c9
  have t4 : dropS (2 + 1) (thenS (takeS 0 (dropS 8 i_zz42.body))) = dropS 3 (thenS (takeS 0 (dropS 8 i_zz42.body))) := rfl
  rw [t4, fcode_parts (vcall F nro) nro 5 (dropS 3 (thenS (takeS 0 (dropS 8 i_zz42.body)))) _ _ (by decide), d0, kseq_normal]
  have t5 : dropS (5 + 1) (dropS 3 (thenS (takeS 0 (dropS 8 i_zz42.body)))) = dropS 9 (thenS (takeS 0 (dropS 8 i_zz42.body))) := rfl
  rw [t5]
  obtain ⟨Y, hY⟩ : ∃ Y : VH, Y = [⟨1, ints (trnP n m r1 r2)⟩, ⟨0, [.int .i64 (n * m : Nat), .slice (some ⟨(H ++ X).length, 0, none⟩) (n * m) (n * m)]⟩, ⟨1, ints (degF r1 n 0)⟩, ⟨1, ints (degF r2 m 0)⟩, ⟨1, ints (degF P (n * m) 0)⟩, ⟨1, ints (degF D (n * m) 0)⟩] := ⟨_, rfl⟩
  rw [← hY]
  have lz : ∀ (r : List Int) (k : Nat), (degF r k 0).length = k := fun r k => by rw [degF_len]; omega
  have q1 := sli_at (h := (H ++ X) ++ Y) (b := (H ++ X).length + 2) (xs := degF r1 n 0) (by rw [hgetk, hY]; rfl)
  have q2 := sli_at (h := (H ++ X) ++ Y) (b := (H ++ X).length + 3) (xs := degF r2 m 0) (by rw [hgetk, hY]; rfl)
  have q3 := sli_at (h := (H ++ X) ++ Y) (b := (H ++ X).length + 4) (xs := degF P (n * m) 0) (by rw [hgetk, hY]; rfl)
  have q4 := sli_at (h := (H ++ X) ++ Y) (b := (H ++ X).length + 5) (xs := degF D (n * m) 0) (by rw [hgetk, hY]; rfl)
  rw [lz] at q1 q2 q3 q4
  rw [eP] at q3
  rw [eD] at q4
  obtain ⟨e5, r0, r1'⟩ := prod_S3 (nro := nro) g gm h62 q1 q2 q3 q4 (ho.le (by rw [List.length_append, List.length_append]; omega)) e4 d1 d2 d3 d4 d5
  exact ⟨e5, pA K.length n m r1 r2 (n * m : Nat) P.length P D ++ (X ++ Y), by rw [r0, hH, List.append_assoc, List.append_assoc], r1'⟩
end
end

/- FnProducts, in parts: cones and powers, drawn and made. -/
section
open Go
open Classical
variable {nro : Nat}
def TwoG (H : VH) (i j : Nat) (m : Int) (R : List Int) : Prop := ∃ v1 v2, H[i]? = some ⟨0, [.int .i64 m, v1]⟩ ∧ H[j]? = some ⟨0, [.int .i64 m, v2]⟩ ∧ Sli H v1 R ∧ Sli H v2 R
theorem TwoG.app {H : VH} {i j : Nat} {m : Int} {R : List Int} (h : TwoG H i j m R) (L : VH) : TwoG (H ++ L) i j m R := by
 obtain ⟨v1, v2, h1, h2, h3, h4⟩ := h
 exact ⟨v1, v2, by rw [List.getElem?_append_left (List.getElem?_eq_some_iff.mp h1).1]; exact h1, by rw [List.getElem?_append_left (List.getElem?_eq_some_iff.mp h2).1]; exact h2, h3.app L, h4.app L⟩
def ansG (a : GAns) (m : Int) (R : List Int) (c : Int) : Prop := (a = .inl (m, R) ∧ c = 0) ∨ (a = .inr c ∧ c ≠ 0 ∧ m = 0 ∧ R = [])
theorem coneAns_inl {n : Int} {rows : List Int} {m : Int} {R : List Int} (h : coneAns n rows = .inl (m, R)) : ∃ N : Nat, n = N ∧ GV N rows ∧ N + 1 ≤ 62 ∧ m = (N : Int) + 1 ∧ R = adjRows (N + 1) (coneAdj rows N) ∧ R.length = N + 1 := by
 unfold coneAns at h
 split at h
 ·cases h
 ·rename_i hg
  have g := Classical.not_not.mp hg
  split at h
  ·cases h
  ·rename_i h6
   obtain ⟨N, rfl⟩ : ∃ N : Nat, n = N := ⟨n.toNat, by have := g.lo; omega⟩
   rw [Int.toNat_natCast] at h
   cases h
   exact ⟨N, rfl, g, by omega, rfl, rfl, (cone_ok g (by omega)).1⟩
theorem coneAns_inr {n : Int} {rows : List Int} {c : Int} (h : coneAns n rows = .inr c) : c ≠ 0 := by
 unfold coneAns at h
 split at h
 ·cases h; omega
 ·split at h
  ·cases h; omega
  ·cases h
theorem powAns_inl {n k : Int} {rows : List Int} {m : Int} {R : List Int} (h : powAns n rows k = .inl (m, R)) : ∃ N : Nat, n = N ∧ GV N rows ∧ 1 ≤ k ∧ m = (N : Int) ∧ R = adjRows N (pwAdj rows N k) ∧ R.length = N := by
 unfold powAns at h
 split at h
 ·cases h
 ·rename_i hg
  have g := Classical.not_not.mp hg
  split at h
  ·cases h
  ·rename_i h6
   have h6 := Classical.not_not.mp h6
   obtain ⟨N, rfl⟩ : ∃ N : Nat, n = N := ⟨n.toNat, by have := g.lo; omega⟩
   rw [Int.toNat_natCast] at h
   cases h
   exact ⟨N, rfl, g, h6.1, rfl, rfl, (pow_ok g k).1⟩
theorem powAns_inr {n k : Int} {rows : List Int} {c : Int} (h : powAns n rows k = .inr c) : c ≠ 0 := by
 unfold powAns at h
 split at h
 ·cases h; omega
 ·split at h
  ·cases h; omega
  ·cases h
section
variable {cd : Value} {xs : List Int} {K : VH} (hs : Sl K cd (bys xs)) (hx : Code' xs) (hn : nro ≤ K.length)
include hs hx hn
set_option maxHeartbeats 1000000 in
theorem prod_C0 (e : FE) (he : e 0 = cd) : ∃ (e' : FE) (L : VH) (n m : Int) (rows R : List Int) (c : Int) (s : Value) (i j : Nat), fcode (vcall F nro) nro (takeS 2 (dropS 9 i_zz42.body)) e K = some (.normal, e', K ++ L) ∧ e' 0 = cd ∧
  e' 30 = .pointer (some ⟨K.length + 1, 0, some 2⟩) ∧ (K ++ L)[K.length + 1]? = some ⟨0, [.int .i64 n, s]⟩ ∧ Sli (K ++ L) s rows ∧ e' 31 = .pointer (some ⟨i, 0, some 2⟩) ∧ e' 33 = .pointer (some ⟨j, 0, some 2⟩) ∧ TwoG (K ++ L) i j m R ∧ R.length ≤ 62 ∧ e' 32 = .int .i64 c ∧ e' 34 = .int .i64 c ∧ ansG (coneAns n rows) m R c := by
 have hn' := fun k => Nat.le_trans hn (Nat.le_add_right K.length k)
 obtain ⟨n, rows, _, d1⟩ := c_zz47 (nro := nro) hs hx hn
 have s1 := sli_at (h := K ++ [⟨1, ints rows⟩]) (b := K.length) (xs := rows) (by simp)
 have hnl : ∀ L : VH, nro ≤ ((K ++ [⟨1, ints rows⟩] : VH) ++ L).length := fun L => by simp; omega
 have c1 := fun L => c_zz85 (nro := nro) n _ rows ((K ++ [⟨1, ints rows⟩]) ++ L) (s1.app L) (hnl L)
 have c2 := fun L => c_zz86 (nro := nro) n _ rows ((K ++ [⟨1, ints rows⟩]) ++ L) (s1.app L) (hnl L)
 cases ha : coneAns n rows with
 | inr c =>
  have hc := coneAns_inr ha
  rw [ha] at c1 c2
  simp only [gres] at c1 c2
  have hv : ∃ e' : FE, fcode (vcall F nro) nro (takeS 2 (dropS 9 i_zz42.body)) e K = some (.normal, e', K ++ [⟨1, ints rows⟩, ⟨0, [.int .i64 n, .slice (some ⟨K.length, 0, none⟩) rows.length rows.length]⟩, ⟨0, [.int .i64 0, .slice none 0 0]⟩, ⟨0, [.int .i64 0, .slice none 0 0]⟩]) ∧ e' 0 = cd ∧
    e' 30 = .pointer (some ⟨K.length + 1, 0, some 2⟩) ∧ e' 31 = .pointer (some ⟨K.length + 2, 0, some 2⟩) ∧ e' 33 = .pointer (some ⟨K.length + 3, 0, some 2⟩) ∧ e' 32 = .int .i64 c ∧ e' 34 = .int .i64 c := by
   generalize rows.length = l at d1 c1 c2 ⊢
   simp at c1 c2
   clear hs hx s1 ha hnl
   simp (disch := first | assumption | omega | (simp [*] <;> omega) | fail) [i_zz42, takeS, dropS, he, d1, c1, c2, hn, hn', splice]
  obtain ⟨e', v1, v2, v3, v4, v5, v6, v7⟩ := hv
  refine ⟨e', _, n, 0, rows, [], c, _, _, _, v1, v2, v3, by rw [hgetk]; rfl, ?_, v4, v5, ⟨.slice none 0 0, .slice none 0 0, by rw [hgetk]; rfl, by rw [hgetk]; rfl, by simp [Sli, Sl, vsrc, ints], by simp [Sli, Sl, vsrc, ints]⟩, by simp, v6, v7, .inr ⟨ha, hc, rfl, rfl⟩⟩
  exact sli_at (by rw [hget0]; rfl)
 | inl q =>
  obtain ⟨m, R⟩ := q
  obtain ⟨N, _, g, hN, _, _, hRl⟩ := coneAns_inl ha
  rw [ha] at c1 c2
  simp only [gres] at c1 c2
  have hv : ∃ e' : FE, fcode (vcall F nro) nro (takeS 2 (dropS 9 i_zz42.body)) e K = some (.normal, e', K ++ [⟨1, ints rows⟩, ⟨0, [.int .i64 n, .slice (some ⟨K.length, 0, none⟩) rows.length rows.length]⟩, ⟨1, ints R⟩, ⟨0, [.int .i64 m, .slice (some ⟨K.length + 2, 0, none⟩) R.length R.length]⟩, ⟨1, ints R⟩, ⟨0, [.int .i64 m, .slice (some ⟨K.length + 4, 0, none⟩) R.length R.length]⟩]) ∧ e' 0 = cd ∧
    e' 30 = .pointer (some ⟨K.length + 1, 0, some 2⟩) ∧ e' 31 = .pointer (some ⟨K.length + 3, 0, some 2⟩) ∧ e' 33 = .pointer (some ⟨K.length + 5, 0, some 2⟩) ∧ e' 32 = .int .i64 0 ∧ e' 34 = .int .i64 0 := by
   generalize rows.length = l at d1 c1 c2 ⊢
   generalize R.length = l2 at c1 c2 ⊢
   simp at c1 c2
   clear hs hx s1 ha hnl g hRl
   simp (disch := first | assumption | omega | (simp [*] <;> omega) | fail) [i_zz42, takeS, dropS, he, d1, c1, c2, hn, hn', splice]
  obtain ⟨e', v1, v2, v3, v4, v5, v6, v7⟩ := hv
  refine ⟨e', _, n, m, rows, R, 0, _, _, _, v1, v2, v3, by rw [hgetk]; rfl, ?_, v4, v5, ⟨_, _, by rw [hgetk]; rfl, by rw [hgetk]; rfl, ?_, ?_⟩, by omega, v6, v7, .inl ⟨ha, rfl⟩⟩
  ·exact sli_at (by rw [hget0]; rfl)
  ·exact sli_at (by rw [hgetk]; rfl)
  ·exact sli_at (by rw [hgetk]; rfl)
set_option maxHeartbeats 1000000 in
theorem prod_P0 (e : FE) (he : e 0 = cd) : ∃ (e' : FE) (L : VH) (n m k : Int) (rows R : List Int) (c : Int) (s : Value) (i j : Nat), fcode (vcall F nro) nro (takeS 2 (dropS 12 i_zz42.body)) e K = some (.normal, e', K ++ L) ∧ (∀ t, 30 ≤ t → t ≤ 34 → e' t = e t) ∧ e' 0 = cd ∧
  e' 35 = .pointer (some ⟨K.length + 1, 0, some 2⟩) ∧ (K ++ L)[K.length + 1]? = some ⟨0, [.int .i64 n, s]⟩ ∧ Sli (K ++ L) s rows ∧ e' 37 = .pointer (some ⟨i, 0, some 2⟩) ∧ e' 39 = .pointer (some ⟨j, 0, some 2⟩) ∧ TwoG (K ++ L) i j m R ∧ R.length ≤ 62 ∧ e' 38 = .int .i64 c ∧ e' 40 = .int .i64 c ∧ ansG (powAns n rows k) m R c := by
 have hn' := fun k => Nat.le_trans hn (Nat.le_add_right K.length k)
 obtain ⟨n, k, rows, _, d1⟩ := c_zz39 (nro := nro) hs hx hn
 have s1 := sli_at (h := K ++ [⟨1, ints rows⟩]) (b := K.length) (xs := rows) (by simp)
 have hnl : ∀ L : VH, nro ≤ ((K ++ [⟨1, ints rows⟩] : VH) ++ L).length := fun L => by simp; omega
 have c1 := fun L => c_zz74 (nro := nro) n k _ rows ((K ++ [⟨1, ints rows⟩]) ++ L) (s1.app L) (hnl L)
 have c2 := fun L => c_zz77 (nro := nro) n k _ rows ((K ++ [⟨1, ints rows⟩]) ++ L) (s1.app L) (hnl L)
 have q0 := fun (t : Nat) (h1 : 30 ≤ t) (h2 : t ≤ 34) => (⟨by omega, by omega⟩ : t ≠ 247 ∧ t ≠ 248)
 cases ha : powAns n rows k with
 | inr c =>
  have hc := powAns_inr ha
  rw [ha] at c1 c2
  simp only [gres] at c1 c2
  have hv : ∃ e' : FE, fcode (vcall F nro) nro (takeS 2 (dropS 12 i_zz42.body)) e K = some (.normal, e', K ++ [⟨1, ints rows⟩, ⟨0, [.int .i64 n, .slice (some ⟨K.length, 0, none⟩) rows.length rows.length]⟩, ⟨0, [.int .i64 0, .slice none 0 0]⟩, ⟨0, [.int .i64 0, .slice none 0 0]⟩]) ∧ (e' 30 = e 30 ∧ e' 31 = e 31 ∧ e' 32 = e 32 ∧ e' 33 = e 33 ∧ e' 34 = e 34) ∧ e' 0 = cd ∧
    e' 35 = .pointer (some ⟨K.length + 1, 0, some 2⟩) ∧ e' 37 = .pointer (some ⟨K.length + 2, 0, some 2⟩) ∧ e' 39 = .pointer (some ⟨K.length + 3, 0, some 2⟩) ∧ e' 38 = .int .i64 c ∧ e' 40 = .int .i64 c := by
   generalize rows.length = l at d1 c1 c2 ⊢
   simp at c1 c2
   clear hs hx s1 ha hnl q0
   simp (disch := first | assumption | omega | (simp [*] <;> omega) | fail) [i_zz42, takeS, dropS, he, d1, c1, c2, hn, hn', splice]
  obtain ⟨e', v1, ⟨w1, w2, w3, w4, w5⟩, v2, v3, v4, v5, v6, v7⟩ := hv
  refine ⟨e', _, n, 0, k, rows, [], c, _, _, _, v1, fun t h1 h2 => ?_, v2, v3, by rw [hgetk]; rfl, ?_, v4, v5, ⟨.slice none 0 0, .slice none 0 0, by rw [hgetk]; rfl, by rw [hgetk]; rfl, by simp [Sli, Sl, vsrc, ints], by simp [Sli, Sl, vsrc, ints]⟩, by simp, v6, v7, .inr ⟨ha, hc, rfl, rfl⟩⟩
  ·have : t = 30 ∨ t = 31 ∨ t = 32 ∨ t = 33 ∨ t = 34 := by omega
   rcases this with rfl | rfl | rfl | rfl | rfl <;> assumption
  ·exact sli_at (by rw [hget0]; rfl)
 | inl q =>
  obtain ⟨m, R⟩ := q
  obtain ⟨N, _, g, _, _, _, hRl⟩ := powAns_inl ha
  have ghi := g.hi
  rw [ha] at c1 c2
  simp only [gres] at c1 c2
  have hv : ∃ e' : FE, fcode (vcall F nro) nro (takeS 2 (dropS 12 i_zz42.body)) e K = some (.normal, e', K ++ [⟨1, ints rows⟩, ⟨0, [.int .i64 n, .slice (some ⟨K.length, 0, none⟩) rows.length rows.length]⟩, ⟨1, ints R⟩, ⟨0, [.int .i64 m, .slice (some ⟨K.length + 2, 0, none⟩) R.length R.length]⟩, ⟨1, ints R⟩, ⟨0, [.int .i64 m, .slice (some ⟨K.length + 4, 0, none⟩) R.length R.length]⟩]) ∧ (e' 30 = e 30 ∧ e' 31 = e 31 ∧ e' 32 = e 32 ∧ e' 33 = e 33 ∧ e' 34 = e 34) ∧ e' 0 = cd ∧
    e' 35 = .pointer (some ⟨K.length + 1, 0, some 2⟩) ∧ e' 37 = .pointer (some ⟨K.length + 3, 0, some 2⟩) ∧ e' 39 = .pointer (some ⟨K.length + 5, 0, some 2⟩) ∧ e' 38 = .int .i64 0 ∧ e' 40 = .int .i64 0 := by
   generalize rows.length = l at d1 c1 c2 ⊢
   generalize R.length = l2 at c1 c2 ⊢
   simp at c1 c2
   clear hs hx s1 ha hnl g hRl q0 ghi
   simp (disch := first | assumption | omega | (simp [*] <;> omega) | fail) [i_zz42, takeS, dropS, he, d1, c1, c2, hn, hn', splice]
  obtain ⟨e', v1, ⟨w1, w2, w3, w4, w5⟩, v2, v3, v4, v5, v6, v7⟩ := hv
  refine ⟨e', _, n, m, k, rows, R, 0, _, _, _, v1, fun t h1 h2 => ?_, v2, v3, by rw [hgetk]; rfl, ?_, v4, v5, ⟨_, _, by rw [hgetk]; rfl, by rw [hgetk]; rfl, ?_, ?_⟩, by omega, v6, v7, .inl ⟨ha, rfl⟩⟩
  ·have : t = 30 ∨ t = 31 ∨ t = 32 ∨ t = 33 ∨ t = 34 := by omega
   rcases this with rfl | rfl | rfl | rfl | rfl <;> assumption
  ·exact sli_at (by rw [hget0]; rfl)
  ·exact sli_at (by rw [hgetk]; rfl)
  ·exact sli_at (by rw [hgetk]; rfl)
end
end

/- FnProducts: the law. -/
section
open Go
open Classical
variable {nro : Nat}
theorem prod_F15 {H : VH} {i31 i33 i37 i39 : Nat} {m1 m2 : Int} {R1 R2 : List Int} {c1 c2 : Int} (g1 : TwoG H i31 i33 m1 R1) (g2 : TwoG H i37 i39 m2 R2) (l1 : R1.length ≤ 62) (l2 : R2.length ≤ 62) (e : FE) (h31 : e 31 = .pointer (some ⟨i31, 0, some 2⟩)) (h33 : e 33 = .pointer (some ⟨i33, 0, some 2⟩)) (h37 : e 37 = .pointer (some ⟨i37, 0, some 2⟩)) (h39 : e 39 = .pointer (some ⟨i39, 0, some 2⟩))
  (h32 : e 32 = .int .i64 c1) (h34 : e 34 = .int .i64 c1) (h38 : e 38 = .int .i64 c2) (h40 : e 40 = .int .i64 c2) :
  ∃ e', fcode (vcall F nro) nro (takeS 0 (dropS 15 i_zz42.body)) e H = some (.normal, e', H) ∧ e' 30 = e 30 ∧ e' 31 = e 31 ∧ e' 32 = e 32 ∧ e' 35 = e 35 ∧ e' 37 = e 37 ∧ e' 38 = e 38 := by
 obtain ⟨v1, v2, a1, a2, a3, a4⟩ := g1
 obtain ⟨u1, u2, b1, b2, b3, b4⟩ := g2
 have q1 := c_zz76 (nro := nro) m1 m1 v1 v2 R1 R1 H a3 a4 (by omega)
 have q2 := c_zz76 (nro := nro) m2 m2 u1 u2 R2 R2 H b3 b4 (by omega)
 rw [decide_eq_true ⟨rfl, rfl⟩] at q1 q2
 clear a3 a4 b3 b4
 simp (disch := first | assumption | omega | (simp [*] <;> omega) | fail) [-getElem?_pos, List.getElem?_cons_zero, List.getElem?_cons_succ, i_zz42, takeS, dropS, h31, h33, h37, h39, h32, h34, h38, h40, a1, a2, b1, b2, q1, q2]
theorem prod_F16 {H : VH} {i30 i31 : Nat} {N : Nat} {s v : Value} {rows : List Int} (f30 : H[i30]? = some ⟨0, [.int .i64 N, s]⟩) (f31 : H[i31]? = some ⟨0, [.int .i64 ((N : Int) + 1), v]⟩) (t1 : Sli H s rows) (t2 : Sli H v (adjRows (N + 1) (coneAdj rows N))) (g : GV N rows) (h62 : N + 1 ≤ 62) (hn : nro ≤ H.length) (e : FE) (h30 : e 30 = .pointer (some ⟨i30, 0, some 2⟩)) (h31 : e 31 = .pointer (some ⟨i31, 0, some 2⟩)) :
  ∃ e' L, fcode (vcall F nro) nro (thenS (takeS 0 (dropS 16 i_zz42.body))) e H = some (.normal, e', H ++ L) ∧ e' 35 = e 35 ∧ e' 37 = e 37 ∧ e' 38 = e 38 := by
 have hn' := fun k => Nat.le_trans hn (Nat.le_add_right H.length k)
 have c1 := c_zz41 (nro := nro) ((N : Int) + 1) N v _ H t2 hn
 rw [cone_back g h62] at c1
 have hl := g.rok.len
 simp only [gres, hl] at c1
 have b1 := (List.getElem?_eq_some_iff.mp f30).1
 have f30' : ∀ L : VH, (H ++ L)[i30]? = some ⟨0, [.int .i64 N, s]⟩ := fun L => by rw [List.getElem?_append_left b1]; exact f30
 have z := sli_at (h := H ++ [⟨1, ints rows⟩, ⟨0, [.int .i64 N, .slice (some ⟨H.length, 0, none⟩) N N]⟩]) (b := H.length) (xs := rows) (by simp)
 rw [hl] at z
 have q1 := c_zz76 (nro := nro) N N _ s rows rows _ z (t1.app _) (by omega)
 rw [decide_eq_true ⟨rfl, rfl⟩] at q1
 have hv : ∃ e', fcode (vcall F nro) nro (thenS (takeS 0 (dropS 16 i_zz42.body))) e H = some (.normal, e', H ++ [⟨1, ints rows⟩, ⟨0, [.int .i64 N, .slice (some ⟨H.length, 0, none⟩) N N]⟩]) ∧ e' 35 = e 35 ∧ e' 37 = e 37 ∧ e' 38 = e 38 := by
  clear t1 t2 g z hl
  simp (disch := first | assumption | omega | (simp [*] <;> omega) | fail) [-getElem?_pos, List.getElem?_cons_zero, List.getElem?_cons_succ, i_zz42, takeS, dropS, thenS, h30, h31, f30, f31, f30', c1, q1, hn, hn', splice]
 obtain ⟨e', v⟩ := hv
 exact ⟨e', _, v⟩
theorem prod_F17 {H : VH} {i35 i37 : Nat} {N : Nat} {s v : Value} {rows : List Int} {k : Int} (f35 : H[i35]? = some ⟨0, [.int .i64 N, s]⟩) (f37 : H[i37]? = some ⟨0, [.int .i64 N, v]⟩) (t1 : Sli H s rows) (t2 : Sli H v (adjRows N (pwAdj rows N k))) (g : GV N rows) (hk : 1 ≤ k) (e : FE) (h35 : e 35 = .pointer (some ⟨i35, 0, some 2⟩)) (h37 : e 37 = .pointer (some ⟨i37, 0, some 2⟩)) :
  ∃ e', fcode (vcall F nro) nro (thenS (takeS 0 (dropS 17 i_zz42.body))) e H = some (.normal, e', H) := by
 have lp := l_prod_B5 (nro := nro) f35 f37 t1 t2 g.rok.len (pow_ok g k).1 g.rok.le (fun v hv => pow_sub g hk hv)
 clear t1 t2 g
 simp (disch := first | assumption | omega | (simp [*] <;> omega) | fail) [i_zz42, takeS, dropS, thenS, h35, h37, lp]
theorem prod_F18 (h H : VH) (hH : H.take h.length = h) (e : FE) : kret [.tmp 2] h (fcode (vcall F nro) nro (dropS 18 i_zz42.body) e H) = some (.bool true, h) := by
 have kC : kclean h [.bool true] H = ([.bool true], h) := kclean_take hH (by simp)
 simp (disch := first | assumption | omega | (simp [*] <;> omega) | fail) [i_zz42, dropS, kC, fresults, fresL, fres1]
theorem law_FnProducts (cd : Value) (xs : List Int) (h : VH) (hs : Sl h cd (bys xs)) (hx : Code' xs) (hn : nro ≤ h.length) :
  vcall F nro k_zz42 [cd] h = some (.bool true, h) := by
 have hn' := fun k => Nat.le_trans hn (Nat.le_add_right h.length k)
 have hl := hx.len
 have hb : vcall F nro k_zz99 [cd] h = some (.bool (decide (4096 < xs.length)), h) := by
  refine v_zz99 (by simp [i_zz99]) ?_
  rw [fbody_eq]
  have e0 := hs.vlen
  simp only [bys_length] at e0
  simp (disch := first | assumption | omega | (simp [*] <;> omega) | fail) [i_zz99, e0]
  omega
 by_cases hbig : 4096 < xs.length
 ·refine v_zz42 (by simp [i_zz42]) ?_
  rw [fbody_eq]
  rw [decide_eq_true hbig] at hb
  simp (disch := first | assumption | omega | (simp [*] <;> omega) | fail) [i_zz42, hb, hn, hn']
 ·rw [decide_eq_false hbig] at hb
  refine v_zz42 (by simp [i_zz42]) ?_
  rw [fbody_eq]
  rw [fcode_parts (vcall F nro) nro 1 i_zz42.body _ _ (by decide)]
  have p0 : ∃ e', fcode (vcall F nro) nro (takeS 1 i_zz42.body) (fargs [cd]) h = some (.normal, e', h) ∧ e' 0 = cd := by
   simp (disch := first | assumption | omega | (simp [*] <;> omega) | fail) [i_zz42, takeS, hb, hn, hn']
  obtain ⟨e0, p0, he0⟩ := p0
  rw [p0, kseq_normal, fcode_parts (vcall F nro) nro 6 (dropS 2 i_zz42.body) _ _ (by decide)]
  obtain ⟨e1, L1, p1, he1⟩ := prod_A (nro := nro) hs hx hn e0 he0
  rw [p1, kseq_normal]
  have t1 : dropS (6 + 1) (dropS 2 i_zz42.body) = dropS 9 i_zz42.body := rfl
  rw [t1, fcode_parts (vcall F nro) nro 2 (dropS 9 i_zz42.body) _ _ (by decide)]
  obtain ⟨e2, L2, n1, m1, r1, R1, c1, s1, i, j, p2, he2, a30, af, as', a31, a33, at', al, a32, a34, aa⟩ := prod_C0 (nro := nro) (hs.app L1) hx (by simp; omega) e1 he1
  rw [p2, kseq_normal]
  have t2 : dropS (2 + 1) (dropS 9 i_zz42.body) = dropS 12 i_zz42.body := rfl
  rw [t2, fcode_parts (vcall F nro) nro 2 (dropS 12 i_zz42.body) _ _ (by decide)]
  obtain ⟨e3, L3, n2, m2, k, r2, R2, c2, s2, i2, j2, p3, hk3, _, b35, bf, bs, b37, b39, bt, bl, b38, b40, bb⟩ := prod_P0 (nro := nro) ((hs.app L1).app L2) hx (by simp; omega) e2 he2
  rw [p3, kseq_normal]
  have t3 : dropS (2 + 1) (dropS 12 i_zz42.body) = dropS 15 i_zz42.body := rfl
  rw [t3, fcode_parts (vcall F nro) nro 0 (dropS 15 i_zz42.body) _ _ (by decide)]
  have at2 := at'.app L3
  have af2 : (h ++ L1 ++ L2 ++ L3)[(h ++ L1).length + 1]? = some ⟨0, [.int .i64 n1, s1]⟩ := by rw [List.getElem?_append_left (List.getElem?_eq_some_iff.mp af).1]; exact af
  have as2 := as'.app L3
  have hH : (h ++ L1 ++ L2 ++ L3).take h.length = h := by simp
  have hnH : nro ≤ (h ++ L1 ++ L2 ++ L3).length := by simp; omega
  obtain ⟨H, hHe⟩ : ∃ H, H = h ++ L1 ++ L2 ++ L3 := ⟨_, rfl⟩
  rw [← hHe] at at2 af2 as2 bf bs bt hH hnH ⊢
  obtain ⟨e4, p4, k30, k31, k32, k35, k37, k38⟩ := prod_F15 (nro := nro) at2 bt al bl e3 (by rw [hk3 31 (by omega) (by omega)]; exact a31) (by rw [hk3 33 (by omega) (by omega)]; exact a33) b37 b39 (by rw [hk3 32 (by omega) (by omega)]; exact a32) (by rw [hk3 34 (by omega) (by omega)]; exact a34) b38 b40
  rw [p4, kseq_normal]
  have t4 : dropS (0 + 1) (dropS 15 i_zz42.body) = dropS 16 i_zz42.body := rfl
  rw [t4, fcode_parts (vcall F nro) nro 0 (dropS 16 i_zz42.body) _ _ (by decide)]
  have t5 : takeS 0 (dropS 16 i_zz42.body) = .seq (.ops [⟨some 284, .mv (.tmp 32), none, 0⟩, ⟨some 285, .bin .eql (.tmp 284) (.const (.int .i64 0)), none, 0⟩]) (.cond (.tmp 285) (thenS (takeS 0 (dropS 16 i_zz42.body))) .skip) := rfl
  have q30 : e4 30 = .pointer (some ⟨(h ++ L1).length + 1, 0, some 2⟩) := by rw [k30, hk3 30 (by omega) (by omega)]; exact a30
  have q31 : e4 31 = .pointer (some ⟨i, 0, some 2⟩) := by rw [k31, hk3 31 (by omega) (by omega)]; exact a31
  have q32 : e4 32 = .int .i64 c1 := by rw [k32, hk3 32 (by omega) (by omega)]; exact a32
  have p5 : ∃ e5 L5, fcode (vcall F nro) nro (takeS 0 (dropS 16 i_zz42.body)) e4 H = some (.normal, e5, H ++ L5) ∧ e5 35 = e4 35 ∧ e5 37 = e4 37 ∧ e5 38 = e4 38 := by
   rw [t5]
   rcases aa with ⟨ha, rfl⟩ | ⟨ha, hc, rfl, rfl⟩
   ·obtain ⟨N, rfl, g, h62, rfl, rfl, _⟩ := coneAns_inl ha
    rw [cond_zero _ _ _ _ _ _ q32]
    obtain ⟨v1, v2, z1, z2, z3, z4⟩ := at2
    obtain ⟨e5, L5, y1, y2, y3, y4⟩ := prod_F16 (nro := nro) af2 z1 as2 z3 g h62 hnH (fput (fput e4 (some 284) (.int .i64 0)) (some 285) (.bool true)) (by simpa using q30) (by simpa using q31)
    exact ⟨e5, L5, y1, by simpa using y2, by simpa using y3, by simpa using y4⟩
   ·rw [cond_non _ _ _ _ _ _ _ q32 hc]
    exact ⟨_, [], by rw [List.append_nil], by simp, by simp, by simp⟩
  obtain ⟨e5, L5, p5, y35, y37, y38⟩ := p5
  rw [p5, kseq_normal]
  have t6 : dropS (0 + 1) (dropS 16 i_zz42.body) = dropS 17 i_zz42.body := rfl
  rw [t6, fcode_parts (vcall F nro) nro 0 (dropS 17 i_zz42.body) _ _ (by decide)]
  have t7 : takeS 0 (dropS 17 i_zz42.body) = .seq (.ops [⟨some 301, .mv (.tmp 38), none, 0⟩, ⟨some 302, .bin .eql (.tmp 301) (.const (.int .i64 0)), none, 0⟩]) (.cond (.tmp 302) (thenS (takeS 0 (dropS 17 i_zz42.body))) .skip) := rfl
  have q35 : e5 35 = .pointer (some ⟨(h ++ L1 ++ L2).length + 1, 0, some 2⟩) := by rw [y35, k35]; exact b35
  have q37 : e5 37 = .pointer (some ⟨i2, 0, some 2⟩) := by rw [y37, k37]; exact b37
  have q38 : e5 38 = .int .i64 c2 := by rw [y38, k38]; exact b38
  have bf2 : (H ++ L5)[(h ++ L1 ++ L2).length + 1]? = some ⟨0, [.int .i64 n2, s2]⟩ := by rw [List.getElem?_append_left (List.getElem?_eq_some_iff.mp bf).1]; exact bf
  have bs2 := bs.app L5
  have bt2 := bt.app L5
  have p6 : ∃ e6, fcode (vcall F nro) nro (takeS 0 (dropS 17 i_zz42.body)) e5 (H ++ L5) = some (.normal, e6, H ++ L5) := by
   rw [t7]
   rcases bb with ⟨hb, rfl⟩ | ⟨hb, hc, rfl, rfl⟩
   ·obtain ⟨N, rfl, g, hk1, rfl, rfl, _⟩ := powAns_inl hb
    rw [cond_zero _ _ _ _ _ _ q38]
    obtain ⟨v1, v2, z1, z2, z3, z4⟩ := bt2
    exact prod_F17 (nro := nro) bf2 z1 bs2 z3 g hk1 (fput (fput e5 (some 301) (.int .i64 0)) (some 302) (.bool true)) (by simpa using q35) (by simpa using q37)
   ·rw [cond_non _ _ _ _ _ _ _ q38 hc]
    exact ⟨_, rfl⟩
  obtain ⟨e6, p6⟩ := p6
  rw [p6, kseq_normal]
  have t8 : dropS (0 + 1) (dropS 17 i_zz42.body) = dropS 18 i_zz42.body := rfl
  rw [t8]
  have hlen : h.length ≤ H.length := by
   have := congrArg List.length hH
   simp at this; omega
  exact prod_F18 h (H ++ L5) (by rw [List.take_append_of_le_length hlen]; exact hH) e6
end

end Go.Proofs.YtbilmoahcnllmaaGreatDoor.Zv

