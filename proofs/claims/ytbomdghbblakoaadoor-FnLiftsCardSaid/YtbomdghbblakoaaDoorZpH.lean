/- Part H of the proof: ZwDraw10, ZwDraw11, ZwGpD, ZwGpE, ZwGpF, ZwDrawR, ZwDrawS, ZwReg, ZwDrawQ, ZwDrawU, ZwLawExch, ZwDrawV, ZwLawLiftA, ZwLawLiftB, ZwLawGroupsA, ZwLawGroupsB, ZwLawLiftC, ZwLawLiftD, ZwLawLiftE, ZwLawLiftF, ZwLawLiftG. Conditions: none. -/
import Derived.Test.YtbomdghbblakoaaDoorZpE
import Derived.Test.YtbomdghbblakoaaDoorZpF
import Derived.Test.YtbomdghbblakoaaDoorZpG
set_option linter.unusedSimpArgs false
set_option linter.unusedVariables false
set_option linter.unusedSectionVars false
namespace Go.Proofs.YtbomdghbblakoaaDoor.Zv
/- Draws of graphs, and of what may be none. -/
section
open Go
variable {nro : Nat}
section
variable {H : VH} {b : Nat} {cd : Value} {xs : List Int} {s : SS} (S : Srce nro H b cd xs s)
include S
set_option maxHeartbeats 4000000 in
theorem c_zz66 (N : Nat) (sv : Value) (rows : List Int) (g : GV N rows) (hs : ∀ o, Sli (H.set b o) sv rows) (hc0 : ∀ r ∈ arefs sv, r ≠ b) : ∃ (n' : Int) (v : Value) (rows' : List Int) (s' : SS) (M : VH), SOK xs s' ∧
  vcall F nro k_zz66 [.pointer (some ⟨b, 0, some 3⟩), gv N sv] H = some (gv n' v, H.set b (srcO cd s') ++ M) ∧ rows'.length ≤ 63 ∧ -9223372036854775808 ≤ n' ∧ n' ≤ 9223372036854775807 ∧
  ((M = [] ∧ n' = N ∧ v = sv ∧ rows' = rows) ∨ (M = [⟨1, ints rows'⟩] ∧ v = .slice (some ⟨H.length, 0, none⟩) rows'.length rows'.length)) := by
 have hlt := S.lt
 have hnb := S.nr
 have hn : nro ≤ H.length := by omega
 have hn' := fun k => Nat.le_trans hn (Nat.le_add_right H.length k)
 have hself : H.set b (srcO cd s) = H := hset_self S.at'
 have hs0 := hs (srcO cd s)
 rw [hself] at hs0
 have hl := g.rok.len
 have hle := g.rok.le
 have hlo := g.lo
 have ho : Old H.length sv := hs0.old
 have hsh : ∃ a n t, sv = .slice (some a) n t := by
  have hne : ints rows ≠ [] := fun e => by
   have := congrArg List.length e
   rw [ints_length, hl] at this
   simp at this
   omega
  rcases Sl.inv hs0 with ⟨_, h⟩ | ⟨_, h⟩ | ⟨a, n, t, o, h, _⟩
  ·exact absurd h hne
  ·exact absurd h hne
  ·exact ⟨a, n, t, h⟩
 have e0 := c_zz69 (nro := nro) sv rows (H ++ [⟨0, [.int .i64 N, sv]⟩, ⟨0, [.int .i64 0, .slice none 0 0]⟩]) (hs0.app _) (by omega) (by simp; omega)
 obtain ⟨x1, s1, o1, a1, b1, _, e1⟩ := S.nextE S.ok [⟨0, [.int .i64 N, sv]⟩, ⟨0, [.int .i64 0, .slice none 0 0]⟩, ⟨1, ints rows⟩] 50 (by omega)
 rw [hself] at e1
 rw [hl] at e0
 have hso := fun k => hs0.oldCk (k := k)
 by_cases c1 : x1 = 0
 ·obtain ⟨y, hy⟩ : ∃ y, y = (N : Int) + 1 := ⟨_, rfl⟩
  have wN : IntKind.i64.wrap ((N : Int) + 1) = y := by rw [hy]; exact wrap64 (by omega) (by omega)
  obtain ⟨x2, s2, o2, m2, e2⟩ := S.pickE o1 [⟨0, [.int .i64 N, sv]⟩, ⟨0, [.int .i64 0, .slice none 0 0]⟩, ⟨1, ints rows⟩, ⟨1, ints [0, 63, -1, y]⟩] 3 4 [0, 63, -1, y] rfl rfl (by omega) (by omega)
  have hx2 : -1 ≤ x2 ∧ x2 ≤ 63 := by
   simp only [List.mem_cons, List.not_mem_nil, or_false] at m2
   omega
  refine ⟨x2, .slice (some ⟨H.length, 0, none⟩) rows.length rows.length, rows, s2, [⟨1, ints rows⟩], o2, ?_, by omega, by omega, by omega, .inr ⟨rfl, rfl⟩⟩
  rw [hl]
  have hc := S.cleanG (s' := s2) [⟨0, [.int .i64 N, sv]⟩, ⟨0, [.int .i64 x2, .slice (some ⟨H.length + 2, 0, none⟩) N N]⟩, ⟨1, ints rows⟩, ⟨1, ints [0, 63, -1, y]⟩] 2 N x2 rows rfl
  simp at e0 e1 e2 hc
  clear S o1 o2 g hself b1 m2 hx2 hs hs0 hl hy
  refine v_zz66 (by simp [i_zz66]) ?_
  rw [fbody_eq]
  simp (disch := first | assumption | omega | (simp [*] <;> omega) | fail) [-getElem?_pos, List.getElem?_cons_zero, List.getElem?_cons_succ, i_zz66, e0, e1, c1, wN, e2, hc, hn, hn', hso, fresults, fresL, fres1, hgetS, hsetS, hgetS0, hsetS0]
 ·by_cases c2 : x1 = 1
  ·obtain ⟨x2, s2, o2, a2, b2, _, e2⟩ := S.nextE o1 [⟨0, [.int .i64 N, sv]⟩, ⟨0, [.int .i64 0, .slice none 0 0]⟩, ⟨1, ints rows⟩] N (by omega)
   have k2 := b2 (by omega)
   have wN : IntKind.u64.wrap (N : Int) = N := wrapu64 (by omega) (by omega)
   obtain ⟨y, hy⟩ : ∃ y, ishl .i64 1 (N : Int) = y := ⟨_, rfl⟩
   obtain ⟨x3, s3, o3, m3, e3⟩ := S.pickE o2 [⟨0, [.int .i64 N, sv]⟩, ⟨0, [.int .i64 0, .slice none 0 0]⟩, ⟨1, ints rows⟩, ⟨1, ints [-1, 1, 2, 4611686018427387904, y]⟩] 3 5 [-1, 1, 2, 4611686018427387904, y] rfl rfl (by omega) (by omega)
   refine ⟨N, .slice (some ⟨H.length, 0, none⟩) (rows.set x2.toNat x3).length (rows.set x2.toNat x3).length, rows.set x2.toNat x3, s3, [⟨1, ints (rows.set x2.toNat x3)⟩], o3, ?_, by simp; omega, by omega, by omega, .inr ⟨rfl, rfl⟩⟩
   have hl2 : (rows.set x2.toNat x3).length = N := by simp [hl]
   rw [hl2]
   have hx2 : x2.toNat < rows.length := by omega
   have hsp := splice_ints (xs := rows) (j := x2.toNat) (v := x3) hx2
   have hc := S.cleanG (s' := s3) [⟨0, [.int .i64 N, sv]⟩, ⟨0, [.int .i64 N, .slice (some ⟨H.length + 2, 0, none⟩) N N]⟩, ⟨1, ints (rows.set x2.toNat x3)⟩, ⟨1, ints [-1, 1, 2, 4611686018427387904, y]⟩] 2 N N (rows.set x2.toNat x3) rfl
   simp at e0 e1 e2 e3 hc
   clear S o1 o2 o3 g hself b1 b2 m3 hs hs0 hl2 c1
   refine v_zz66 (by simp [i_zz66]) ?_
   rw [fbody_eq]
   simp (disch := first | assumption | omega | (simp [*] <;> omega) | fail) [-getElem?_pos, List.getElem?_cons_zero, List.getElem?_cons_succ, i_zz66, e0, e1, c2, wN, hy, e2, e3, hl, a2, k2, hsp, hc, hn, hn', hso, fresults, fresL, fres1, hgetS, hsetS, hgetS0, hsetS0]
  ·by_cases c3 : x1 = 2
   ·refine ⟨N, .slice (some ⟨H.length, 0, none⟩) (rows ++ [0]).length (rows ++ [0]).length, rows ++ [0], s1, [⟨1, ints (rows ++ [0])⟩], o1, ?_, by simp; omega, by omega, by omega, .inr ⟨rfl, rfl⟩⟩
    have hl2 : (rows ++ [0]).length = N + 1 := by simp [hl]
    rw [hl2]
    have hc := S.cleanG (s' := s1) [⟨0, [.int .i64 N, sv]⟩, ⟨0, [.int .i64 N, .slice (some ⟨H.length + 2, 0, none⟩) (N + 1) (N + 1)]⟩, ⟨1, ints (rows ++ [0])⟩, ⟨1, [.int .i64 0]⟩] 2 (N + 1) N (rows ++ [0]) rfl
    have k9 : N ≤ 1099511627775 := by omega
    have hia : ints rows ++ [.int .i64 0] = ints (rows ++ [0]) := by simp [ints]
    rw [← hia] at hc ⊢
    simp at e0 e1 hc
    clear S o1 g hself b1 hs hs0 hl2 hia c1 c2
    refine v_zz66 (by simp [i_zz66]) ?_
    rw [fbody_eq]
    simp (disch := first | assumption | omega | (simp [*] <;> omega) | fail) [-getElem?_pos, List.getElem?_cons_zero, List.getElem?_cons_succ, i_zz66, e0, e1, c3, hl, k9, hc, hn, hn', hso, fresults, fresL, fres1, hgetS, hsetS, hgetS0, hsetS0]
   ·refine ⟨N, sv, rows, s1, [], o1, ?_, by omega, by omega, by omega, .inl ⟨rfl, rfl, rfl, rfl⟩⟩
    have hc := fun (L : VH) => S.clean (s' := s1) L (vs := [.agg #[.int .i64 N, sv]]) (by
     intro v hv
     simp only [List.mem_singleton] at hv
     subst hv
     intro r hr
     obtain ⟨a, n, t, rfl⟩ := hsh
     exact ho r (by simpa [trefs, vrefs, crefs, arefs] using hr))
    simp at e0 e1
    clear S o1 g hself b1 hs hs0 hl
    refine v_zz66 (by simp [i_zz66]) ?_
    rw [fbody_eq]
    obtain ⟨a, n, t, rfl⟩ := hsh
    simp (disch := first | assumption | omega | (simp [*] <;> omega) | fail) [-getElem?_pos, List.getElem?_cons_zero, List.getElem?_cons_succ, i_zz66, e0, e1, c1, c2, c3, hc, hn, hn', hso, fresults, fresL, fres1, hgetS, hsetS, hgetS0, hsetS0]
end
end

/- Draws of the second chapter. -/
section
open Go
open Classical
variable {nro : Nat}
theorem hsetK (h L : VH) (k : Nat) (o : VO) : (h ++ L).set (h.length + k) o = h ++ L.set k o := by
 rw [List.set_append_right _ _ (by omega)]
 congr 2
 omega
end

/- Draws of groups. -/
section
open Go
variable {nro : Nat}
@[simp] theorem old_agg2i (n : Nat) (k1 k2 : IntKind) (a b : Int) : Old n (.agg #[.int k1 a, .int k2 b]) := fun r hr => by simp [trefs, vrefs, crefs, arefs] at hr
@[simp] theorem old_tag2i (n : Nat) (k1 k2 k3 : IntKind) (a b c : Int) : Old n (.tuple #[.agg #[.int k1 a, .int k2 b], .int k3 c]) := fun r hr => by simp [trefs, vrefs, crefs, arefs] at hr
@[simp] theorem old_tag3i (n : Nat) (k1 k2 k3 k4 : IntKind) (a b c d : Int) : Old n (.tuple #[.agg #[.int k1 a, .int k2 b], .int k3 c, .int k4 d]) := fun r hr => by simp [trefs, vrefs, crefs, arefs] at hr
section
variable {H : VH} {b : Nat} {cd : Value} {xs : List Int} {s : SS} (S : Srce nro H b cd xs s)
include S
theorem Srce.self : H.set b (srcO cd s) = H := hset_self S.at'
end
end

/- Draws of groups with lists. -/
section
open Go
variable {nro : Nat}
section
variable {H : VH} {b : Nat} {cd : Value} {xs : List Int} {s : SS} (S : Srce nro H b cd xs s)
include S
theorem Srce.old : Old H.length cd := by
 have := (S.sl (srcO cd s)).old
 rwa [S.self] at this
end
end

/- Draws of groups with connection sets. -/
section
open Go
variable {nro : Nat}
@[simp] theorem clean_tagsk (h L : VH) (k : Nat) (off n t : Nat) (k1 : IntKind) (x : Int) (k2 : IntKind) (y : Int) (hk : k < L.length) (hf : flatO h.length (L.getD k ⟨0, []⟩)) :
  kclean h [.tuple #[.agg #[.int k1 x, .int k2 y], .slice (some ⟨h.length + k, off, none⟩) n t]] (h ++ L) = ([.tuple #[.agg #[.int k1 x, .int k2 y], .slice (some ⟨h.length, off, none⟩) n t]], h ++ [L.getD k ⟨0, []⟩]) := by
 rw [cleanup_one (k := k) (o := L.getD k ⟨0, []⟩) (by simp [trefs, vrefs, crefs, arefs]) (by simp [List.getD_eq_getElem?_getD, hk]) hf]
 simp [tren, vren, cren, aren, renOf_one]
end

/- Draws of bases. -/
section
open Go
variable {nro : Nat}
theorem arcs_snoc (A : List Ar) (x y z : Int) : arcs A ++ [.int .i64 x, .int .i64 y, .int .i64 z] = arcs (A ++ [⟨x, y, z⟩]) := by
 rw [← arcs_append]; rfl
section
variable {H : VH} {b : Nat} {cd : Value} {xs : List Int} {s : SS} (S : Srce nro H b cd xs s)
include S
theorem Srce.cleanP {s0 s1 : SS} (P P' L : VH) (hl : P'.length = P.length) (hf : ∀ o ∈ P', flatO (H.length + P.length) o) {vs : List Value} (hv : ∀ v ∈ vs, Old (H.length + P.length) v) :
  kclean (H.set b (srcO cd s0) ++ P) vs (H.set b (srcO cd s1) ++ (P' ++ L)) = (vs, H.set b (srcO cd s1) ++ P') := by
 have hU : Upd (H.set b (srcO cd s0) ++ P) (H.set b (srcO cd s1) ++ P') := by
  refine ⟨by simp [hl], fun i o ho => ?_⟩
  by_cases hi : i < H.length
  ·rw [List.getElem?_append_left (by simpa using hi)] at ho
   by_cases e : i = b
   ·subst e
    right
    rw [List.getElem?_set_self hi] at ho
    cases ho
    intro r hr
    have := flatO_src (S.old.le (Nat.le_add_right H.length P.length)) s1 r hr
    simpa using this
   ·left
    rw [List.getElem?_append_left (by simpa using hi)]
    rw [List.getElem?_set_ne (fun e2 => e e2.symm)] at ho ⊢
    exact ho
  ·right
   rw [List.getElem?_append_right (by simpa using hi)] at ho
   intro r hr
   have := hf o (List.mem_of_getElem? ho) r hr
   simpa using this
 have := cleanup_upd (L := L) hU (vs := vs) (by simpa using hv)
 rw [List.append_assoc] at this
 exact this
abbrev bP (H : VH) (R W : VO) (n m : Int) (A : List Ar) : VH := [R, W, ⟨3, arcs A⟩, ⟨0, [.int .i64 n, .int .i64 m, .slice (some ⟨H.length + 2, 0, none⟩) A.length (3 * A.length)]⟩]
theorem bP_flat (R W : VO) (n m : Int) (A : List Ar) (W2 : VH) (hR : ∀ k, flatO k R) (hW : ∀ k, flatO k W) (hW2 : ∀ o ∈ W2, ∀ k, flatO k o) : ∀ o ∈ bP H R W n m A ++ W2, flatO (H.length + (bP H R W n m A ++ W2).length) o := by
 intro o ho
 rw [List.mem_append] at ho
 rcases ho with ho | ho
 ·simp at ho
  rcases ho with rfl | rfl | rfl | rfl
  ·exact hR _
  ·exact hW _
  ·exact arcs_flat _ _ _
  ·intro r hr
   simp [orefs, crefs, arefs] at hr
   simp
   omega
 ·exact hW2 o ho _
theorem l_l03DrawOf_1 (R W W2 : VO) (hR : ∀ k, flatO k R) (hW : ∀ k, flatO k W) (hW2 : ∀ k, flatO k W2) (n m : Int) (hn10 : n ≤ 10) (hm62 : m ≤ 9223372036854775807) (s0 : SS) (A0 : List Ar) : ∀ (d v : Nat) (A : List Ar) (s1 : SS), n ≤ v + d → A.length + d ≤ 100 → v ≤ 100 → SOK xs s1 →
  ∃ A' s2, SOK xs s2 ∧ A'.length ≤ A.length + d ∧ floop (vcall F nro) nro [0, 2, 3, 4] i_zz37_B1 (H.set b (srcO cd s0) ++ (bP H R W n m A0 ++ [W2])) [.pointer (some ⟨b, 0, some 3⟩), .pointer (some ⟨H.length, 0, some 3⟩), .pointer (some ⟨H.length + 3, 0, some 3⟩), .int .i64 v] (H.set b (srcO cd s1) ++ (bP H R W n m A ++ [W2])) =
   some (.exit 0, fl [(0, .pointer (some ⟨b, 0, some 3⟩)), (2, .pointer (some ⟨H.length, 0, some 3⟩)), (3, .pointer (some ⟨H.length + 3, 0, some 3⟩))], H.set b (srcO cd s2) ++ (bP H R W n m A' ++ [W2])) := by
 have hlt := S.lt
 have hnb := S.nr
 have hn : nro ≤ H.length := by omega
 have hn' := fun k => Nat.le_trans hn (Nat.le_add_right H.length k)
 have done : ∀ (v : Nat) (A : List Ar) (s1 : SS) (d : Nat), ¬ (v : Int) < n → SOK xs s1 → ∃ A' s2, SOK xs s2 ∧ A'.length ≤ A.length + d ∧ floop (vcall F nro) nro [0, 2, 3, 4] i_zz37_B1 (H.set b (srcO cd s0) ++ (bP H R W n m A0 ++ [W2])) [.pointer (some ⟨b, 0, some 3⟩), .pointer (some ⟨H.length, 0, some 3⟩), .pointer (some ⟨H.length + 3, 0, some 3⟩), .int .i64 v] (H.set b (srcO cd s1) ++ (bP H R W n m A ++ [W2])) =
   some (.exit 0, fl [(0, .pointer (some ⟨b, 0, some 3⟩)), (2, .pointer (some ⟨H.length, 0, some 3⟩)), (3, .pointer (some ⟨H.length + 3, 0, some 3⟩))], H.set b (srcO cd s2) ++ (bP H R W n m A' ++ [W2])) := by
  intro v A s1 d hv o1
  refine ⟨A, s1, o1, by omega, ?_⟩
  rw [floop_at i_zz37_B1.eq_1]
  clear S
  simp (disch := first | assumption | omega | (simp [*] <;> omega) | fail) [-getElem?_pos, List.getElem?_cons_zero, List.getElem?_cons_succ, hv, hn, hn', hgetS, hsetS, hgetS0, hsetS0]
 intro d
 induction d with
 | zero =>
  intro v A s1 hd _ _ o1
  exact done v A s1 0 (by omega) o1
 | succ d ih =>
  intro v A s1 hd hA hv o1
  by_cases hlt2 : (v : Int) < n
  ·obtain ⟨x, s2, o2, _, _, _, e2⟩ := S.nextE o1 (bP H R W n m A ++ [W2]) m hm62
   obtain ⟨y, s3, o3, _, e3⟩ := S.pickE o2 (bP H R W n m A ++ [W2, ⟨1, ints [0, 0, x]⟩]) 5 3 [0, 0, x] rfl rfl (by omega) (by omega)
   obtain ⟨A', s4, o4, hl4, l4⟩ := ih (v + 1) (A ++ [(⟨(v : Int) - 1, v, y⟩ : Ar)]) s3 (by omega) (by simp; omega) (by omega) o3
   refine ⟨A', s4, o4, by simp at hl4; omega, ?_⟩
   rw [← l4]
   have hc := fun L vs hv => S.cleanP (s0 := s0) (s1 := s3) (bP H R W n m A0 ++ [W2]) (bP H R W n m (A ++ [(⟨(v : Int) - 1, v, y⟩ : Ar)]) ++ [W2]) L rfl (bP_flat S R W n m _ [W2] hR hW (by simpa using hW2)) (vs := vs) hv
   have w1 : IntKind.i64.wrap ((v : Int) - 1) = (v : Int) - 1 := wrap64 (by omega) (by omega)
   have w2 : IntKind.i64.wrap ((v : Int) + 1) = (v : Int) + 1 := wrap64 (by omega) (by omega)
   have h3 : A.length * 3 = 3 * A.length := Nat.mul_comm _ _
   have h4 : 3 * A.length + 3 = 3 * (A.length + 1) := by omega
   have b1 : (A.length + 1) * 24 ≤ 1099511627776 := by omega
   have b2 : A.length < 1099511627776 := by omega
   have b3 : A.length + 1 ≤ 1099511627776 := by omega
   have hap := arcs_snoc A ((v : Int) - 1) v y
   have hl2 : (A ++ [(⟨(v : Int) - 1, v, y⟩ : Ar)]).length = A.length + 1 := by simp
   have hal := arcs_len A
   have hall := arcs_all A
   obtain ⟨A2, hA2⟩ : ∃ A2, A2 = A ++ [(⟨(v : Int) - 1, v, y⟩ : Ar)] := ⟨_, rfl⟩
   rw [← hA2] at hap hc hl2 ⊢
   unfold bP at e2 e3 hc ⊢
   rw [hl2] at hc ⊢
   simp at e2
   simp [ints] at e3
   simp only [List.cons_append, List.nil_append] at hc ⊢
   rw [show ((v + 1 : Nat) : Int) = (v : Int) + 1 by omega]
   conv => lhs; rw [floop_at i_zz37_B1.eq_1]
   clear ih l4 hl4 hA2 S done
   simp (disch := first | assumption | omega | (simp [*] <;> omega) | fail) [-getElem?_pos, List.getElem?_cons_zero, List.getElem?_cons_succ, hlt2, e2, e3, w1, w2, hap, h3, h4, b1, b2, b3, hal, hall, hc, hn, hn', hgetS, hsetS, hgetS0, hsetS0]
  ·exact done v A s1 (d + 1) hlt2 o1
theorem l_l03DrawOf_2 (R W W2 W3 : VO) (hR : ∀ k, flatO k R) (hW : ∀ k, flatO k W) (hW2 : ∀ k, flatO k W2) (hW3 : ∀ k, flatO k W3) (n m : Int) (hn10 : n ≤ 9223372036854775807) (hm62 : m ≤ 9223372036854775807) (s0 : SS) (A0 : List Ar) : ∀ (d : Nat) (A : List Ar) (s1 : SS), d ≤ 100 → A.length ≤ 100 → SOK xs s1 →
  ∃ A' s2, SOK xs s2 ∧ A'.length ≤ A.length + d ∧ floop (vcall F nro) nro [0, 2, 3, 5] i_zz37_B2 (H.set b (srcO cd s0) ++ (bP H R W n m A0 ++ [W2, W3])) [.pointer (some ⟨b, 0, some 3⟩), .pointer (some ⟨H.length, 0, some 3⟩), .pointer (some ⟨H.length + 3, 0, some 3⟩), .int .i64 d] (H.set b (srcO cd s1) ++ (bP H R W n m A ++ [W2, W3])) =
   some (.exit 2, fl [(0, .pointer (some ⟨b, 0, some 3⟩)), (2, .pointer (some ⟨H.length, 0, some 3⟩)), (3, .pointer (some ⟨H.length + 3, 0, some 3⟩))], H.set b (srcO cd s2) ++ (bP H R W n m A' ++ [W2, W3])) := by
 have hlt := S.lt
 have hnb := S.nr
 have hn : nro ≤ H.length := by omega
 have hn' := fun k => Nat.le_trans hn (Nat.le_add_right H.length k)
 intro d
 induction d with
 | zero =>
  intro A s1 _ hA o1
  refine ⟨A, s1, o1, by omega, ?_⟩
  rw [floop_at i_zz37_B2.eq_1]
  clear S
  simp (disch := first | assumption | omega | (simp [*] <;> omega) | fail) [-getElem?_pos, List.getElem?_cons_zero, List.getElem?_cons_succ, hn, hn', hgetS, hsetS, hgetS0, hsetS0]
 | succ d ih =>
  intro A s1 hd hA o1
  have hd0 : (0 : Int) < ((d + 1 : Nat) : Int) := by omega
  have hal := arcs_len A
  by_cases hlt2 : A.length < 16
  ·have hlt3 : (A.length : Int) < 16 := by omega
   obtain ⟨x, s2, o2, _, _, _, e2⟩ := S.nextE o1 (bP H R W n m A ++ [W2, W3]) n hn10
   obtain ⟨y, s3, o3, _, _, _, e3⟩ := S.nextE o2 (bP H R W n m A ++ [W2, W3]) n hn10
   obtain ⟨z, s4, o4, _, _, _, e4⟩ := S.nextE o3 (bP H R W n m A ++ [W2, W3]) m hm62
   obtain ⟨A', s5, o5, hl5, l5⟩ := ih (A ++ [(⟨x, y, z⟩ : Ar)]) s4 (by omega) (by simp; omega) o4
   refine ⟨A', s5, o5, by simp at hl5; omega, ?_⟩
   rw [← l5]
   have hc := fun L vs hv => S.cleanP (s0 := s0) (s1 := s4) (bP H R W n m A0 ++ [W2, W3]) (bP H R W n m (A ++ [(⟨x, y, z⟩ : Ar)]) ++ [W2, W3]) L rfl (bP_flat S R W n m _ [W2, W3] hR hW (by intro o ho k; simp at ho; rcases ho with h | h <;> rw [h] <;> first | exact hW2 k | exact hW3 k)) (vs := vs) hv
   have w1 : IntKind.i64.wrap (d : Int) = (d : Int) := wrap64 (by omega) (by omega)
   have h3 : A.length * 3 = 3 * A.length := Nat.mul_comm _ _
   have h4 : 3 * A.length + 3 = 3 * (A.length + 1) := by omega
   have b1 : (A.length + 1) * 24 ≤ 1099511627776 := by omega
   have b2 : A.length < 1099511627776 := by omega
   have b3 : A.length + 1 ≤ 1099511627776 := by omega
   have hap := arcs_snoc A x y z
   have hl2 : (A ++ [(⟨x, y, z⟩ : Ar)]).length = A.length + 1 := by simp
   have hall := arcs_all A
   obtain ⟨A2, hA2⟩ : ∃ A2, A2 = A ++ [(⟨x, y, z⟩ : Ar)] := ⟨_, rfl⟩
   rw [← hA2] at hap hc hl2 ⊢
   unfold bP at e2 e3 e4 hc ⊢
   rw [hl2] at hc ⊢
   simp at e2 e3 e4
   simp only [List.cons_append, List.nil_append] at hc ⊢
   have hd1 : (0 : Int) < (d : Int) + 1 := by omega
   conv => lhs; rw [floop_at i_zz37_B2.eq_1]
   clear ih l5 hl5 hA2 S
   simp (disch := first | assumption | omega | (simp [*] <;> omega) | fail) [-getElem?_pos, List.getElem?_cons_zero, List.getElem?_cons_succ, hd0, hd1, hlt2, hlt3, e2, e3, e4, w1, hap, h3, h4, b1, b2, b3, hal, hall, hc, hn, hn', hgetS, hsetS, hgetS0, hsetS0]
  ·have hlt3 : ¬ (A.length : Int) < 16 := by omega
   refine ⟨A, s1, o1, by omega, ?_⟩
   have hd1 : (0 : Int) < (d : Int) + 1 := by omega
   rw [floop_at i_zz37_B2.eq_1]
   clear S ih
   simp (disch := first | assumption | omega | (simp [*] <;> omega) | fail) [-getElem?_pos, List.getElem?_cons_zero, List.getElem?_cons_succ, hd0, hd1, hlt2, hlt3, hal, hn, hn', hgetS, hsetS, hgetS0, hsetS0]
theorem Srce.cleanB {s' : SS} (L : VH) (k : Nat) (n m : Int) (A : List Ar) (hk : L[k]? = some ⟨3, arcs A⟩) (t : Nat) : kclean H [bv n m (.slice (some ⟨H.length + k, 0, none⟩) A.length t)] (H.set b (srcO cd s') ++ L) = ([bv n m (.slice (some ⟨H.length, 0, none⟩) A.length t)], H.set b (srcO cd s') ++ [⟨3, arcs A⟩]) := by
 rw [cleanup_one_upd (k := k) (o := ⟨3, arcs A⟩) ((Upd.rfl' H).set' (b := b) (flatO_src S.old s')) (by simp [trefs, vrefs, crefs, arefs]) hk (arcs_flat _ _ _)]
 simp [tren, vren, cren, aren, renOf_one]
set_option maxHeartbeats 1000000 in
theorem c_zz37 : ∃ (n m : Int) (A : List Ar) (s' : SS), SOK xs s' ∧ A.length ≤ 16 ∧ -62 ≤ n ∧ n ≤ 62 ∧ -62 ≤ m ∧ m ≤ 200 ∧ vcall F nro k_zz37 [.pointer (some ⟨b, 0, some 3⟩)] H = some (bv n m (sv H.length A), H.set b (srcO cd s') ++ [⟨3, arcs A⟩]) := by
 have hlt := S.lt
 have hnb := S.nr
 have hn : nro ≤ H.length := by omega
 have hn' := fun k => Nat.le_trans hn (Nat.le_add_right H.length k)
 obtain ⟨R, hR⟩ : ∃ R : VO, R = ⟨0, [.int .i64 0, .int .i64 0, .slice none 0 0]⟩ := ⟨_, rfl⟩
 obtain ⟨W, hW⟩ : ∃ W : VO, W = ⟨1, ints [1, 1, 2, 2, 3, 4, 6, 10]⟩ := ⟨_, rfl⟩
 obtain ⟨x1, s1, o1, m1, e1⟩ := S.pickE S.ok [R, W] 1 8 [1, 1, 2, 2, 3, 4, 6, 10] (by rw [hW]; rfl) rfl (by omega) (by omega)
 rw [S.self] at e1
 have hx1 : 1 ≤ x1 ∧ x1 ≤ 10 := by simp at m1; omega
 have hRf : ∀ k, flatO k R := fun k r hr => by rw [hR] at hr; simp [orefs, crefs, arefs] at hr
 have hWf : ∀ k, flatO k W := fun k => by rw [hW]; exact flatO_ints _ _ _
 obtain ⟨q, hq⟩ : ∃ q, q = (62 : Int).tdiv x1 := ⟨_, rfl⟩
 have hqr : 6 ≤ q ∧ q ≤ 62 := by
  have : x1 = 1 ∨ x1 = 2 ∨ x1 = 3 ∨ x1 = 4 ∨ x1 = 5 ∨ x1 = 6 ∨ x1 = 7 ∨ x1 = 8 ∨ x1 = 9 ∨ x1 = 10 := by omega
  rcases this with h | h | h | h | h | h | h | h | h | h <;> rw [h] at hq <;> rw [hq] <;> decide
 have wq : IntKind.i64.wrap q = q := wrap64 (by omega) (by omega)
 obtain ⟨W2, hW2⟩ : ∃ W2 : VO, W2 = ⟨1, ints [5, q, q]⟩ := ⟨_, rfl⟩
 have hW2f : ∀ k, flatO k W2 := fun k => by rw [hW2]; exact flatO_ints _ _ _
 obtain ⟨y, s2, o2, m2, e2⟩ := S.pickE o1 (bP H R W x1 0 [] ++ [W2]) 4 3 [5, q, q] (by rw [hW2]; rfl) rfl (by omega) (by omega)
 have hy : 5 ≤ y ∧ y ≤ 62 := by simp at m2; omega
 obtain ⟨z, s3, o3, a3, b3, _, e3⟩ := S.nextE o2 (bP H R W x1 0 [] ++ [W2]) y (by omega)
 have c3 := b3 (by omega)
 obtain ⟨m, hm⟩ : ∃ m, m = 1 + z := ⟨_, rfl⟩
 have wm : IntKind.i64.wrap (1 + z) = m := by rw [wrap64 (by omega) (by omega), hm]
 have hpb : 1 * 1 ≤ x1 * m ∧ x1 * m ≤ 10 * 62 := ⟨Int.mul_le_mul (by omega) (by omega) (by omega) (by omega), Int.mul_le_mul (by omega) (by omega) (by omega) (by omega)⟩
 have wp : IntKind.i64.wrap (x1 * m) = x1 * m := wrap64 (by omega) (by omega)
 obtain ⟨W3, hW3⟩ : ∃ W3 : VO, W3 = ⟨1, ints [3, 5, 7]⟩ := ⟨_, rfl⟩
 have hW3f : ∀ k, flatO k W3 := fun k => by rw [hW3]; exact flatO_ints _ _ _
 have c0 : ¬ x1 = 0 := by omega
 have n0 : nro ≤ H.length + 3 := by omega
 by_cases c1 : 62 < x1 * m
 ·obtain ⟨x3, s4, o4, _, _, _, e4⟩ := S.nextE o3 (bP H R W x1 q [] ++ [W2]) 3 (by omega)
  by_cases c4 : 0 < x3
  ·obtain ⟨A1, s5, o5, hl5, l5⟩ := l_l03DrawOf_1 (nro := nro) S R W W2 hRf hWf hW2f x1 q (by omega) (by omega) s4 [] 9 1 [] s4 (by omega) (by simp) (by omega) o4
   obtain ⟨c, s6, o6, m6, e6⟩ := S.pickE o5 (bP H R W x1 q A1 ++ [W2, W3]) 5 3 [3, 5, 7] (by rw [hW3]; rfl) rfl (by omega) (by omega)
   have hcc : 3 ≤ c ∧ c ≤ 7 := by simp at m6; omega
   obtain ⟨k, s7, o7, a7, b7, _, e7⟩ := S.nextE o6 (bP H R W x1 q A1 ++ [W2, W3]) c (by omega)
   have c7 := b7 (by omega)
   obtain ⟨kn, hkn⟩ : ∃ kn : Nat, k = kn := ⟨k.toNat, by omega⟩
   subst hkn
   obtain ⟨A2, s8, o8, hl8, l8⟩ := l_l03DrawOf_2 (nro := nro) S R W W2 W3 hRf hWf hW2f hW3f x1 q (by omega) (by omega) s7 A1 kn A1 s7 (by omega) (by simp at hl5 ⊢; omega) o7
   obtain ⟨x9, s9, o9, _, _, _, e9⟩ := S.nextE o8 (bP H R W x1 q A2 ++ [W2, W3]) 12 (by omega)
   by_cases c9 : x9 = 0
   ·refine ⟨2, 5, [⟨0, 0, 1⟩, ⟨0, 1, 0⟩, ⟨1, 1, 2⟩], s9, o9, by simp, by omega, by omega, by omega, by omega, ?_⟩
    have hcl := fun (L : VH) => S.cleanB (s' := s9) (⟨0, [.int .i64 2, .int .i64 5, .slice (some ⟨H.length + 6, 0, none⟩) 3 9]⟩ :: W :: ⟨3, arcs A2⟩ :: ⟨0, [.int .i64 x1, .int .i64 q, .slice (some ⟨H.length + 2, 0, none⟩) A2.length (3 * A2.length)]⟩ :: W2 :: W3 :: ⟨3, arcs [⟨0, 0, 1⟩, ⟨0, 1, 0⟩, ⟨1, 1, 2⟩]⟩ :: L) 6 2 5 [⟨0, 0, 1⟩, ⟨0, 1, 0⟩, ⟨1, 1, 2⟩] rfl 9
    refine v_zz37 (by simp [i_zz37]) ?_
    rw [fbody_eq]
    unfold bP at e2 e3 e4 e6 e7 l8 e9 l5
    simp [hR, hW, hW2, hW3, ints, arcs] at e1 e2 e3 e4 e6 e7 l8 e9 l5 hcl
    clear S hRf hWf hW2f hW3f o1 o2 o3 o4 o6 o7 o8 o9 m1 m2 m6 b3 b7 hR hW hW2 hW3 hpb hm hl8 hl5
    simp (disch := first | assumption | omega | (simp [*] <;> omega) | fail) [-getElem?_pos, List.getElem?_cons_zero, List.getElem?_cons_succ, i_zz37, e1, c0, ← hq, wq, e2, e3, wm, wp, c1, e4, c4, l5, e6, e7, l8, e9, c9, hcl, hn, hn', n0, arcs, ints, splice, fresults, fresL, fres1, hgetS, hsetS, hgetS0, hsetS0]
   ·refine ⟨x1, q, A2, s9, o9, by simp at hl5 hl8; omega, by omega, by omega, by omega, by omega, ?_⟩
    have hcl := fun (L : VH) => S.cleanB (s' := s9) (⟨0, [.int .i64 x1, .int .i64 q, .slice (some ⟨H.length + 2, 0, none⟩) A2.length (3 * A2.length)]⟩ :: W :: ⟨3, arcs A2⟩ :: ⟨0, [.int .i64 x1, .int .i64 q, .slice (some ⟨H.length + 2, 0, none⟩) A2.length (3 * A2.length)]⟩ :: W2 :: W3 :: L) 2 x1 q A2 rfl (3 * A2.length)
    refine v_zz37 (by simp [i_zz37]) ?_
    rw [fbody_eq]
    unfold bP at e2 e3 e4 e6 e7 l8 e9 l5
    simp [hR, hW, hW2, hW3, ints, arcs] at e1 e2 e3 e4 e6 e7 l8 e9 l5 hcl
    clear S hRf hWf hW2f hW3f o1 o2 o3 o4 o6 o7 o8 o9 m1 m2 m6 b3 b7 hR hW hW2 hW3 hpb hm hl8 hl5
    simp (disch := first | assumption | omega | (simp [*] <;> omega) | fail) [-getElem?_pos, List.getElem?_cons_zero, List.getElem?_cons_succ, i_zz37, e1, c0, ← hq, wq, e2, e3, wm, wp, c1, e4, c4, l5, e6, e7, l8, e9, c9, hcl, hn, hn', n0, arcs, ints, splice, fresults, fresL, fres1, hgetS, hsetS, hgetS0, hsetS0]
  ·have hl5 : ([] : List Ar).length ≤ 9 := by simp
   obtain ⟨c, s6, o6, m6, e6⟩ := S.pickE o4 (bP H R W x1 q [] ++ [W2, W3]) 5 3 [3, 5, 7] (by rw [hW3]; rfl) rfl (by omega) (by omega)
   have hcc : 3 ≤ c ∧ c ≤ 7 := by simp at m6; omega
   obtain ⟨k, s7, o7, a7, b7, _, e7⟩ := S.nextE o6 (bP H R W x1 q [] ++ [W2, W3]) c (by omega)
   have c7 := b7 (by omega)
   obtain ⟨kn, hkn⟩ : ∃ kn : Nat, k = kn := ⟨k.toNat, by omega⟩
   subst hkn
   obtain ⟨A2, s8, o8, hl8, l8⟩ := l_l03DrawOf_2 (nro := nro) S R W W2 W3 hRf hWf hW2f hW3f x1 q (by omega) (by omega) s7 [] kn [] s7 (by omega) (by simp) o7
   obtain ⟨x9, s9, o9, _, _, _, e9⟩ := S.nextE o8 (bP H R W x1 q A2 ++ [W2, W3]) 12 (by omega)
   by_cases c9 : x9 = 0
   ·refine ⟨2, 5, [⟨0, 0, 1⟩, ⟨0, 1, 0⟩, ⟨1, 1, 2⟩], s9, o9, by simp, by omega, by omega, by omega, by omega, ?_⟩
    have hcl := fun (L : VH) => S.cleanB (s' := s9) (⟨0, [.int .i64 2, .int .i64 5, .slice (some ⟨H.length + 6, 0, none⟩) 3 9]⟩ :: W :: ⟨3, arcs A2⟩ :: ⟨0, [.int .i64 x1, .int .i64 q, .slice (some ⟨H.length + 2, 0, none⟩) A2.length (3 * A2.length)]⟩ :: W2 :: W3 :: ⟨3, arcs [⟨0, 0, 1⟩, ⟨0, 1, 0⟩, ⟨1, 1, 2⟩]⟩ :: L) 6 2 5 [⟨0, 0, 1⟩, ⟨0, 1, 0⟩, ⟨1, 1, 2⟩] rfl 9
    refine v_zz37 (by simp [i_zz37]) ?_
    rw [fbody_eq]
    unfold bP at e2 e3 e4 e6 e7 l8 e9
    simp [hR, hW, hW2, hW3, ints, arcs] at e1 e2 e3 e4 e6 e7 l8 e9 hcl
    clear S hRf hWf hW2f hW3f o1 o2 o3 o4 o6 o7 o8 o9 m1 m2 m6 b3 b7 hR hW hW2 hW3 hpb hm hl8 hl5
    simp (disch := first | assumption | omega | (simp [*] <;> omega) | fail) [-getElem?_pos, List.getElem?_cons_zero, List.getElem?_cons_succ, i_zz37, e1, c0, ← hq, wq, e2, e3, wm, wp, c1, e4, c4, e6, e7, l8, e9, c9, hcl, hn, hn', n0, arcs, ints, splice, fresults, fresL, fres1, hgetS, hsetS, hgetS0, hsetS0]
   ·refine ⟨x1, q, A2, s9, o9, by simp at hl5 hl8; omega, by omega, by omega, by omega, by omega, ?_⟩
    have hcl := fun (L : VH) => S.cleanB (s' := s9) (⟨0, [.int .i64 x1, .int .i64 q, .slice (some ⟨H.length + 2, 0, none⟩) A2.length (3 * A2.length)]⟩ :: W :: ⟨3, arcs A2⟩ :: ⟨0, [.int .i64 x1, .int .i64 q, .slice (some ⟨H.length + 2, 0, none⟩) A2.length (3 * A2.length)]⟩ :: W2 :: W3 :: L) 2 x1 q A2 rfl (3 * A2.length)
    refine v_zz37 (by simp [i_zz37]) ?_
    rw [fbody_eq]
    unfold bP at e2 e3 e4 e6 e7 l8 e9
    simp [hR, hW, hW2, hW3, ints, arcs] at e1 e2 e3 e4 e6 e7 l8 e9 hcl
    clear S hRf hWf hW2f hW3f o1 o2 o3 o4 o6 o7 o8 o9 m1 m2 m6 b3 b7 hR hW hW2 hW3 hpb hm hl8 hl5
    simp (disch := first | assumption | omega | (simp [*] <;> omega) | fail) [-getElem?_pos, List.getElem?_cons_zero, List.getElem?_cons_succ, i_zz37, e1, c0, ← hq, wq, e2, e3, wm, wp, c1, e4, c4, e6, e7, l8, e9, c9, hcl, hn, hn', n0, arcs, ints, splice, fresults, fresL, fres1, hgetS, hsetS, hgetS0, hsetS0]
 ·obtain ⟨x3, s4, o4, _, _, _, e4⟩ := S.nextE o3 (bP H R W x1 m [] ++ [W2]) 3 (by omega)
  by_cases c4 : 0 < x3
  ·obtain ⟨A1, s5, o5, hl5, l5⟩ := l_l03DrawOf_1 (nro := nro) S R W W2 hRf hWf hW2f x1 m (by omega) (by omega) s4 [] 9 1 [] s4 (by omega) (by simp) (by omega) o4
   obtain ⟨c, s6, o6, m6, e6⟩ := S.pickE o5 (bP H R W x1 m A1 ++ [W2, W3]) 5 3 [3, 5, 7] (by rw [hW3]; rfl) rfl (by omega) (by omega)
   have hcc : 3 ≤ c ∧ c ≤ 7 := by simp at m6; omega
   obtain ⟨k, s7, o7, a7, b7, _, e7⟩ := S.nextE o6 (bP H R W x1 m A1 ++ [W2, W3]) c (by omega)
   have c7 := b7 (by omega)
   obtain ⟨kn, hkn⟩ : ∃ kn : Nat, k = kn := ⟨k.toNat, by omega⟩
   subst hkn
   obtain ⟨A2, s8, o8, hl8, l8⟩ := l_l03DrawOf_2 (nro := nro) S R W W2 W3 hRf hWf hW2f hW3f x1 m (by omega) (by omega) s7 A1 kn A1 s7 (by omega) (by simp at hl5 ⊢; omega) o7
   obtain ⟨x9, s9, o9, _, _, _, e9⟩ := S.nextE o8 (bP H R W x1 m A2 ++ [W2, W3]) 12 (by omega)
   by_cases c9 : x9 = 0
   ·refine ⟨2, 5, [⟨0, 0, 1⟩, ⟨0, 1, 0⟩, ⟨1, 1, 2⟩], s9, o9, by simp, by omega, by omega, by omega, by omega, ?_⟩
    have hcl := fun (L : VH) => S.cleanB (s' := s9) (⟨0, [.int .i64 2, .int .i64 5, .slice (some ⟨H.length + 6, 0, none⟩) 3 9]⟩ :: W :: ⟨3, arcs A2⟩ :: ⟨0, [.int .i64 x1, .int .i64 m, .slice (some ⟨H.length + 2, 0, none⟩) A2.length (3 * A2.length)]⟩ :: W2 :: W3 :: ⟨3, arcs [⟨0, 0, 1⟩, ⟨0, 1, 0⟩, ⟨1, 1, 2⟩]⟩ :: L) 6 2 5 [⟨0, 0, 1⟩, ⟨0, 1, 0⟩, ⟨1, 1, 2⟩] rfl 9
    refine v_zz37 (by simp [i_zz37]) ?_
    rw [fbody_eq]
    unfold bP at e2 e3 e4 e6 e7 l8 e9 l5
    simp [hR, hW, hW2, hW3, ints, arcs] at e1 e2 e3 e4 e6 e7 l8 e9 l5 hcl
    clear S hRf hWf hW2f hW3f o1 o2 o3 o4 o6 o7 o8 o9 m1 m2 m6 b3 b7 hR hW hW2 hW3 hpb hm hl8 hl5
    simp (disch := first | assumption | omega | (simp [*] <;> omega) | fail) [-getElem?_pos, List.getElem?_cons_zero, List.getElem?_cons_succ, i_zz37, e1, c0, ← hq, wq, e2, e3, wm, wp, c1, e4, c4, l5, e6, e7, l8, e9, c9, hcl, hn, hn', n0, arcs, ints, splice, fresults, fresL, fres1, hgetS, hsetS, hgetS0, hsetS0]
   ·refine ⟨x1, m, A2, s9, o9, by simp at hl5 hl8; omega, by omega, by omega, by omega, by omega, ?_⟩
    have hcl := fun (L : VH) => S.cleanB (s' := s9) (⟨0, [.int .i64 x1, .int .i64 m, .slice (some ⟨H.length + 2, 0, none⟩) A2.length (3 * A2.length)]⟩ :: W :: ⟨3, arcs A2⟩ :: ⟨0, [.int .i64 x1, .int .i64 m, .slice (some ⟨H.length + 2, 0, none⟩) A2.length (3 * A2.length)]⟩ :: W2 :: W3 :: L) 2 x1 m A2 rfl (3 * A2.length)
    refine v_zz37 (by simp [i_zz37]) ?_
    rw [fbody_eq]
    unfold bP at e2 e3 e4 e6 e7 l8 e9 l5
    simp [hR, hW, hW2, hW3, ints, arcs] at e1 e2 e3 e4 e6 e7 l8 e9 l5 hcl
    clear S hRf hWf hW2f hW3f o1 o2 o3 o4 o6 o7 o8 o9 m1 m2 m6 b3 b7 hR hW hW2 hW3 hpb hm hl8 hl5
    simp (disch := first | assumption | omega | (simp [*] <;> omega) | fail) [-getElem?_pos, List.getElem?_cons_zero, List.getElem?_cons_succ, i_zz37, e1, c0, ← hq, wq, e2, e3, wm, wp, c1, e4, c4, l5, e6, e7, l8, e9, c9, hcl, hn, hn', n0, arcs, ints, splice, fresults, fresL, fres1, hgetS, hsetS, hgetS0, hsetS0]
  ·have hl5 : ([] : List Ar).length ≤ 9 := by simp
   obtain ⟨c, s6, o6, m6, e6⟩ := S.pickE o4 (bP H R W x1 m [] ++ [W2, W3]) 5 3 [3, 5, 7] (by rw [hW3]; rfl) rfl (by omega) (by omega)
   have hcc : 3 ≤ c ∧ c ≤ 7 := by simp at m6; omega
   obtain ⟨k, s7, o7, a7, b7, _, e7⟩ := S.nextE o6 (bP H R W x1 m [] ++ [W2, W3]) c (by omega)
   have c7 := b7 (by omega)
   obtain ⟨kn, hkn⟩ : ∃ kn : Nat, k = kn := ⟨k.toNat, by omega⟩
   subst hkn
   obtain ⟨A2, s8, o8, hl8, l8⟩ := l_l03DrawOf_2 (nro := nro) S R W W2 W3 hRf hWf hW2f hW3f x1 m (by omega) (by omega) s7 [] kn [] s7 (by omega) (by simp) o7
   obtain ⟨x9, s9, o9, _, _, _, e9⟩ := S.nextE o8 (bP H R W x1 m A2 ++ [W2, W3]) 12 (by omega)
   by_cases c9 : x9 = 0
   ·refine ⟨2, 5, [⟨0, 0, 1⟩, ⟨0, 1, 0⟩, ⟨1, 1, 2⟩], s9, o9, by simp, by omega, by omega, by omega, by omega, ?_⟩
    have hcl := fun (L : VH) => S.cleanB (s' := s9) (⟨0, [.int .i64 2, .int .i64 5, .slice (some ⟨H.length + 6, 0, none⟩) 3 9]⟩ :: W :: ⟨3, arcs A2⟩ :: ⟨0, [.int .i64 x1, .int .i64 m, .slice (some ⟨H.length + 2, 0, none⟩) A2.length (3 * A2.length)]⟩ :: W2 :: W3 :: ⟨3, arcs [⟨0, 0, 1⟩, ⟨0, 1, 0⟩, ⟨1, 1, 2⟩]⟩ :: L) 6 2 5 [⟨0, 0, 1⟩, ⟨0, 1, 0⟩, ⟨1, 1, 2⟩] rfl 9
    refine v_zz37 (by simp [i_zz37]) ?_
    rw [fbody_eq]
    unfold bP at e2 e3 e4 e6 e7 l8 e9
    simp [hR, hW, hW2, hW3, ints, arcs] at e1 e2 e3 e4 e6 e7 l8 e9 hcl
    clear S hRf hWf hW2f hW3f o1 o2 o3 o4 o6 o7 o8 o9 m1 m2 m6 b3 b7 hR hW hW2 hW3 hpb hm hl8 hl5
    simp (disch := first | assumption | omega | (simp [*] <;> omega) | fail) [-getElem?_pos, List.getElem?_cons_zero, List.getElem?_cons_succ, i_zz37, e1, c0, ← hq, wq, e2, e3, wm, wp, c1, e4, c4, e6, e7, l8, e9, c9, hcl, hn, hn', n0, arcs, ints, splice, fresults, fresL, fres1, hgetS, hsetS, hgetS0, hsetS0]
   ·refine ⟨x1, m, A2, s9, o9, by simp at hl5 hl8; omega, by omega, by omega, by omega, by omega, ?_⟩
    have hcl := fun (L : VH) => S.cleanB (s' := s9) (⟨0, [.int .i64 x1, .int .i64 m, .slice (some ⟨H.length + 2, 0, none⟩) A2.length (3 * A2.length)]⟩ :: W :: ⟨3, arcs A2⟩ :: ⟨0, [.int .i64 x1, .int .i64 m, .slice (some ⟨H.length + 2, 0, none⟩) A2.length (3 * A2.length)]⟩ :: W2 :: W3 :: L) 2 x1 m A2 rfl (3 * A2.length)
    refine v_zz37 (by simp [i_zz37]) ?_
    rw [fbody_eq]
    unfold bP at e2 e3 e4 e6 e7 l8 e9
    simp [hR, hW, hW2, hW3, ints, arcs] at e1 e2 e3 e4 e6 e7 l8 e9 hcl
    clear S hRf hWf hW2f hW3f o1 o2 o3 o4 o6 o7 o8 o9 m1 m2 m6 b3 b7 hR hW hW2 hW3 hpb hm hl8 hl5
    simp (disch := first | assumption | omega | (simp [*] <;> omega) | fail) [-getElem?_pos, List.getElem?_cons_zero, List.getElem?_cons_succ, i_zz37, e1, c0, ← hq, wq, e2, e3, wm, wp, c1, e4, c4, e6, e7, l8, e9, c9, hcl, hn, hn', n0, arcs, ints, splice, fresults, fresL, fres1, hgetS, hsetS, hgetS0, hsetS0]
end
end

/- Draws of bases, seldom of something else. -/
section
open Go
variable {nro : Nat}
@[simp] theorem old_bv (k : Nat) (n m : Int) (a : Addr) (x t : Nat) : Old k (.agg #[.int .i64 n, .int .i64 m, .slice (some a) x t]) ↔ a.block < k := by
 simp [Old, trefs, vrefs, crefs, arefs]
theorem arcs_nj (A : List Ar) : ∀ x, x ∈ arcs A → isJunk x = false := fun x hx => by
 have := arcs_all A
 rw [List.all_eq_true] at this
 simpa using this x hx
section
variable {H : VH} {b : Nat} {cd : Value} {xs : List Int} {s : SS} (S : Srce nro H b cd xs s)
include S
theorem l_l03Bad_1 (R W : VO) (hR : ∀ k, flatO (H.length + 3 + k) R) (hW : ∀ k, flatO k W) (A0 : List Ar) (s1 : SS) : ∀ (d : Nat) (A : List Ar), 17 ≤ A.length + d → A.length ≤ 17 →
  ∃ A' : List Ar, A'.length = 17 ∧ floop (vcall F nro) nro [3, 4, 5] i_zz71_B1 (H.set b (srcO cd s1) ++ [R, W, ⟨3, arcs A0⟩]) [.pointer (some ⟨H.length, 0, some 3⟩), .pointer (some ⟨H.length + 1, 0, some 3⟩), .slice (some ⟨H.length + 2, 0, none⟩) A.length (3 * A.length)] (H.set b (srcO cd s1) ++ [R, W, ⟨3, arcs A⟩]) =
   some (.exit 1, fl [(3, .pointer (some ⟨H.length, 0, some 3⟩)), (4, .pointer (some ⟨H.length + 1, 0, some 3⟩)), (5, .slice (some ⟨H.length + 2, 0, none⟩) A'.length (3 * A'.length))], H.set b (srcO cd s1) ++ [R, W, ⟨3, arcs A'⟩]) := by
 have hlt := S.lt
 have hnb := S.nr
 have hn : nro ≤ H.length := by omega
 have hn' := fun k => Nat.le_trans hn (Nat.le_add_right H.length k)
 intro d
 induction d with
 | zero =>
  intro A hd hA
  have e : A.length = 17 := by omega
  refine ⟨A, e, ?_⟩
  have hal := arcs_len A
  have hlt2 : ¬ (A.length : Int) ≤ 16 := by omega
  rw [floop_at i_zz71_B1.eq_1]
  clear S e hd hA
  simp (disch := first | assumption | omega | (simp [*] <;> omega) | fail) [-getElem?_pos, List.getElem?_cons_zero, List.getElem?_cons_succ, hlt2, hal, hn, hn', hgetS, hsetS, hgetS0, hsetS0]
 | succ d ih =>
  intro A hd hA
  have hal := arcs_len A
  by_cases c : A.length = 17
  ·refine ⟨A, c, ?_⟩
   have hlt2 : ¬ (A.length : Int) ≤ 16 := by omega
   rw [floop_at i_zz71_B1.eq_1]
   clear S c hd hA ih
   simp (disch := first | assumption | omega | (simp [*] <;> omega) | fail) [-getElem?_pos, List.getElem?_cons_zero, List.getElem?_cons_succ, hlt2, hal, hn, hn', hgetS, hsetS, hgetS0, hsetS0]
  ·have hlt2 : (A.length : Int) ≤ 16 := by omega
   obtain ⟨A', h1, l1⟩ := ih (A ++ [(⟨0, 0, 0⟩ : Ar)]) (by simp; omega) (by simp; omega)
   refine ⟨A', h1, ?_⟩
   rw [← l1]
   have hc := fun L vs hv => S.cleanP (s0 := s1) (s1 := s1) [R, W, ⟨3, arcs A0⟩] [R, W, ⟨3, arcs (A ++ [(⟨0, 0, 0⟩ : Ar)])⟩] L rfl (by intro o ho; simp at ho; rcases ho with h | h | h <;> rw [h] <;> first | exact hR 0 | exact hW _ | exact arcs_flat _ _ _) (vs := vs) hv
   have h3 : A.length * 3 = 3 * A.length := Nat.mul_comm _ _
   have h4 : 3 * A.length + 3 = 3 * (A.length + 1) := by omega
   have b1 : (A.length + 1) * 24 ≤ 1099511627776 := by omega
   have b2 : A.length < 1099511627776 := by omega
   have b3 : A.length + 1 ≤ 1099511627776 := by omega
   have hap := arcs_snoc A 0 0 0
   have hl2 : (A ++ [(⟨0, 0, 0⟩ : Ar)]).length = A.length + 1 := by simp
   have hall := arcs_all A
   have hlt3 : A.length ≤ 16 := by omega
   obtain ⟨A2, hA2⟩ : ∃ A2, A2 = A ++ [(⟨0, 0, 0⟩ : Ar)] := ⟨_, rfl⟩
   rw [← hA2] at hap hc hl2 ⊢
   rw [hl2]
   simp only [List.cons_append, List.nil_append] at hc ⊢
   conv => lhs; rw [floop_at i_zz71_B1.eq_1]
   clear ih l1 hA2 S c hd hA
   simp (disch := first | assumption | omega | (simp [*] <;> omega) | fail) [-getElem?_pos, List.getElem?_cons_zero, List.getElem?_cons_succ, hlt2, hlt3, hap, h3, h4, b1, b2, b3, hal, hall, hc, hn, hn', hgetS, hsetS, hgetS0, hsetS0]
theorem Srce.cleanB0 {s' : SS} (L : VH) (n m : Int) (p x t : Nat) (hp : p < H.length) : kclean H [.agg #[.int .i64 n, .int .i64 m, .slice (some ⟨p, 0, none⟩) x t]] (H.set b (srcO cd s') ++ L) = ([.agg #[.int .i64 n, .int .i64 m, .slice (some ⟨p, 0, none⟩) x t]], H.set b (srcO cd s')) :=
 S.clean L (by intro v hv; rw [List.mem_singleton] at hv; rw [hv]; simpa using hp)
set_option maxHeartbeats 1000000 in
theorem c_zz71 (n m : Int) (A : List Ar) (p : Nat) (hpb : p ≠ b) (hp : H[p]? = some ⟨3, arcs A⟩) (hA : A.length ≤ 16) :
  ∃ (n' m' : Int) (A' : List Ar) (s' : SS) (p' : Nat) (M : VH), SOK xs s' ∧ A'.length ≤ 17 ∧ vcall F nro k_zz71 [.pointer (some ⟨b, 0, some 3⟩), bv n m (sv p A)] H = some (bv n' m' (sv p' A'), H.set b (srcO cd s') ++ M) ∧
   ((p' = p ∧ M = [] ∧ A' = A) ∨ (p' = H.length ∧ M = [⟨3, arcs A'⟩])) := by
 have hlt := S.lt
 have hnb := S.nr
 have hn : nro ≤ H.length := by omega
 have hn' := fun k => Nat.le_trans hn (Nat.le_add_right H.length k)
 have hpl : p < H.length := (List.getElem?_eq_some_iff.mp hp).1
 have hpH : ∀ (s' : SS) (L : VH), (H.set b (srcO cd s') ++ L)[p]? = some ⟨3, arcs A⟩ := fun s' L => by
  rw [List.getElem?_append_left (by simpa using hpl), List.getElem?_set_ne (fun e => hpb e.symm)]
  exact hp
 have hpH0 : ∀ (L : VH), (H ++ L)[p]? = some ⟨3, arcs A⟩ := fun L => by
  rw [List.getElem?_append_left hpl]
  exact hp
 have hal := arcs_len A
 have hall := arcs_all A
 have n0 : nro ≤ H.length + 2 := by omega
 obtain ⟨x1, s1, o1, _, _, _, e1⟩ := S.nextE S.ok [⟨0, [.int .i64 n, .int .i64 m, sv p A]⟩, ⟨0, [.int .i64 0, .int .i64 0, .slice none 0 0]⟩] 50 (by omega)
 rw [S.self] at e1
 have h3 : A.length * 3 = 3 * A.length := Nat.mul_comm _ _
 have tk : (arcs A).take (3 * A.length) = arcs A := List.take_of_length_le (by rw [hal]; exact Nat.le_refl _)
 have b1 : A.length * 24 ≤ 1099511627776 := by omega
 have b2 : A.length < 1099511627776 := by omega
 have b3 : A.length ≤ 1099511627776 := by omega
 by_cases c1 : x1 = 0
 ·obtain ⟨y, s2, o2, _, e2⟩ := S.pickE o1 [⟨0, [.int .i64 n, .int .i64 m, sv p A]⟩, ⟨0, [.int .i64 0, .int .i64 0, .slice none 0 0]⟩, ⟨1, ints [0, 11, -1]⟩] 2 3 [0, 11, -1] rfl rfl (by omega) (by omega)
  refine ⟨y, m, A, s2, p, [], o2, by omega, ?_, .inl ⟨rfl, rfl, rfl⟩⟩
  have hcl := fun (L : VH) => S.cleanB0 (s' := s2) L y m p A.length (3 * A.length) hpl
  refine v_zz71 (by simp [i_zz71]) ?_
  rw [fbody_eq]
  simp [ints] at e1 e2
  clear S o1 o2
  simp (disch := first | assumption | omega | (simp [*] <;> omega) | fail) [-getElem?_pos, List.getElem?_cons_zero, List.getElem?_cons_succ, i_zz71, e1, c1, e2, hcl, hn, hn', n0, splice, fresults, fresL, fres1, hgetS, hsetS, hgetS0, hsetS0]
 by_cases c2 : x1 = 1
 ·obtain ⟨y, s2, o2, _, e2⟩ := S.pickE o1 [⟨0, [.int .i64 n, .int .i64 m, sv p A]⟩, ⟨0, [.int .i64 0, .int .i64 0, .slice none 0 0]⟩, ⟨1, ints [0, 63, 62]⟩] 2 3 [0, 63, 62] rfl rfl (by omega) (by omega)
  refine ⟨n, y, A, s2, p, [], o2, by omega, ?_, .inl ⟨rfl, rfl, rfl⟩⟩
  have hcl := fun (L : VH) => S.cleanB0 (s' := s2) L n y p A.length (3 * A.length) hpl
  refine v_zz71 (by simp [i_zz71]) ?_
  rw [fbody_eq]
  simp [ints] at e1 e2
  clear S o1 o2 c1
  simp (disch := first | assumption | omega | (simp [*] <;> omega) | fail) [-getElem?_pos, List.getElem?_cons_zero, List.getElem?_cons_succ, i_zz71, e1, c2, e2, hcl, hn, hn', n0, splice, fresults, fresL, fres1, hgetS, hsetS, hgetS0, hsetS0]
 by_cases c3 : x1 = 2
 ·obtain ⟨y, s2, o2, _, e2⟩ := S.pickE o1 [⟨0, [.int .i64 n, .int .i64 m, sv p A]⟩, ⟨0, [.int .i64 0, .int .i64 0, .slice none 0 0]⟩, ⟨3, arcs A⟩, ⟨1, ints [0, n, -1]⟩] 3 3 [0, n, -1] rfl rfl (by omega) (by omega)
  obtain ⟨z, s3, o3, _, e3⟩ := S.pickE o2 [⟨0, [.int .i64 n, .int .i64 m, sv p A]⟩, ⟨0, [.int .i64 0, .int .i64 0, .slice none 0 0]⟩, ⟨3, arcs A⟩, ⟨1, ints [0, n, -1]⟩, ⟨1, ints [m, -1, 0]⟩] 4 3 [m, -1, 0] rfl rfl (by omega) (by omega)
  refine ⟨n, m, A ++ [⟨y, 0, z⟩], s3, H.length, [⟨3, arcs (A ++ [⟨y, 0, z⟩])⟩], o3, by simp; omega, ?_, .inr ⟨rfl, rfl⟩⟩
  have hap := arcs_snoc A y 0 z
  have hl2 : (A ++ [(⟨y, 0, z⟩ : Ar)]).length = A.length + 1 := by simp
  have h4 : 3 * A.length + 3 = 3 * (A.length + 1) := by omega
  have b4 : (A.length + 1) * 24 ≤ 1099511627776 := by omega
  have b5 : A.length + 1 ≤ 1099511627776 := by omega
  have hcl := fun (L : VH) => S.cleanB (s' := s3) (⟨0, [.int .i64 n, .int .i64 m, .slice (some ⟨H.length + 2, 0, none⟩) (A.length + 1) (3 * (A.length + 1))]⟩ :: ⟨0, [.int .i64 n, .int .i64 m, .slice (some ⟨H.length + 2, 0, none⟩) (A.length + 1) (3 * (A.length + 1))]⟩ :: ⟨3, arcs (A ++ [(⟨y, 0, z⟩ : Ar)])⟩ :: L) 2 n m (A ++ [(⟨y, 0, z⟩ : Ar)]) rfl (3 * (A.length + 1))
  obtain ⟨A2, hA2⟩ : ∃ A2, A2 = A ++ [(⟨y, 0, z⟩ : Ar)] := ⟨_, rfl⟩
  rw [← hA2] at hap hcl hl2 ⊢
  unfold sv
  rw [hl2] at hcl ⊢
  have ha2l := arcs_len A2
  refine v_zz71 (by simp [i_zz71]) ?_
  rw [fbody_eq]
  simp [ints] at e1 e2 e3
  clear S o1 o2 o3 c1 c2 hA2 hl2
  simp (disch := first | assumption | omega | (simp [*] <;> omega) | fail) [-getElem?_pos, List.getElem?_cons_zero, List.getElem?_cons_succ, i_zz71, e1, c3, e2, e3, hcl, hpH, hpH0, hal, hall, h3, h4, tk, hap, b1, b2, b3, b4, b5, hn, hn', n0, ints, splice, fresults, fresL, fres1, hgetS, hsetS, hgetS0, hsetS0]
  exact arcs_nj A
 by_cases c4 : x1 = 3
 ·obtain ⟨A', h1, l1⟩ := l_l03Bad_1 (nro := nro) S ⟨0, [.int .i64 n, .int .i64 m, sv p A]⟩ ⟨0, [.int .i64 0, .int .i64 0, .slice none 0 0]⟩ (fun k r hr => by simp [orefs, crefs, arefs] at hr; omega) (fun k r hr => by simp [orefs, crefs, arefs] at hr) A s1 17 A (by omega) (by omega)
  refine ⟨n, m, A', s1, H.length, [⟨3, arcs A'⟩], o1, by omega, ?_, .inr ⟨rfl, rfl⟩⟩
  have hcl := fun (L : VH) => S.cleanB (s' := s1) (⟨0, [.int .i64 n, .int .i64 m, .slice (some ⟨H.length + 2, 0, none⟩) A'.length (3 * A'.length)]⟩ :: ⟨0, [.int .i64 n, .int .i64 m, .slice (some ⟨H.length + 2, 0, none⟩) A'.length (3 * A'.length)]⟩ :: ⟨3, arcs A'⟩ :: L) 2 n m A' rfl (3 * A'.length)
  refine v_zz71 (by simp [i_zz71]) ?_
  rw [fbody_eq]
  try simp at e1
  try simp at l1
  clear S o1 c1 c2 c3 h1
  simp (disch := first | assumption | omega | (simp [*] <;> omega) | fail) [-getElem?_pos, List.getElem?_cons_zero, List.getElem?_cons_succ, i_zz71, e1, c4, l1, hcl, hpH, hpH0, hal, hall, h3, tk, b1, b2, b3, hn, hn', n0, splice, fresults, fresL, fres1, hgetS, hsetS, hgetS0, hsetS0]
  exact arcs_nj A
 ·refine ⟨n, m, A, s1, p, [], o1, by omega, ?_, .inl ⟨rfl, rfl, rfl⟩⟩
  have hcl := fun (L : VH) => S.cleanB0 (s' := s1) L n m p A.length (3 * A.length) hpl
  refine v_zz71 (by simp [i_zz71]) ?_
  rw [fbody_eq]
  try simp at e1
  clear S o1
  simp (disch := first | assumption | omega | (simp [*] <;> omega) | fail) [-getElem?_pos, List.getElem?_cons_zero, List.getElem?_cons_succ, i_zz71, e1, c1, c2, c3, c4, hcl, hn, hn', n0, splice, fresults, fresL, fres1, hgetS, hsetS, hgetS0, hsetS0]
theorem c_zz59 : ∃ (n m : Int) (A : List Ar) (s' : SS), SOK xs s' ∧ A.length ≤ 17 ∧ vcall F nro k_zz59 [.pointer (some ⟨b, 0, some 3⟩)] H = some (bv n m (sv H.length A), H.set b (srcO cd s') ++ [⟨3, arcs A⟩]) := by
 have hlt := S.lt
 have hnb := S.nr
 have hn : nro ≤ H.length := by omega
 have hn' := fun k => Nat.le_trans hn (Nat.le_add_right H.length k)
 have S1 := S.set S.ok [⟨0, [.int .i64 0, .int .i64 0, .slice none 0 0]⟩]
 rw [S.self] at S1
 obtain ⟨n1, m1, A1, s1, o1, hA1, _, _, _, _, e1⟩ := c_zz37 (nro := nro) S1
 have S2 := S.set o1 [⟨0, [.int .i64 0, .int .i64 0, .slice none 0 0]⟩, ⟨3, arcs A1⟩]
 obtain ⟨n2, m2, A2, s2, p2, M, o2, hA2, e2, hM⟩ := c_zz71 (nro := nro) S2 n1 m1 A1 (H.length + 1) (by omega) (by rw [hgetS]; rfl) hA1
 refine ⟨n2, m2, A2, s2, o2, hA2, ?_⟩
 have e1' : vcall F nro k_zz37 [.pointer (some ⟨b, 0, some 3⟩)] (H ++ [⟨0, [.int .i64 0, .int .i64 0, .slice none 0 0]⟩]) = some (bv n1 m1 (sv (H.length + 1) A1), H.set b (srcO cd s1) ++ [⟨0, [.int .i64 0, .int .i64 0, .slice none 0 0]⟩, ⟨3, arcs A1⟩]) := by
  rw [e1, List.set_append_left _ _ hlt, List.append_assoc]
  simp
 rw [S.setL] at e2
 refine v_zz59 (by simp [i_zz59]) ?_
 rw [fbody_eq]
 rcases hM with ⟨rfl, rfl, rfl⟩ | ⟨rfl, rfl⟩
 ·have hcl := fun (L : VH) => S.cleanB (s' := s2) (⟨0, [.int .i64 n2, .int .i64 m2, .slice (some ⟨H.length + 1, 0, none⟩) A2.length (3 * A2.length)]⟩ :: ⟨3, arcs A2⟩ :: L) 1 n2 m2 A2 rfl (3 * A2.length)
  simp at e1' e2
  clear S S1 S2 o1 o2 e1
  simp (disch := first | assumption | omega | (simp [*] <;> omega) | fail) [-getElem?_pos, List.getElem?_cons_zero, List.getElem?_cons_succ, i_zz59, e1', e2, hcl, hn, hn', splice, fresults, fresL, fres1, hgetS, hsetS, hgetS0, hsetS0]
 ·have hcl := fun (L : VH) => S.cleanB (s' := s2) (⟨0, [.int .i64 n2, .int .i64 m2, .slice (some ⟨H.length + 2, 0, none⟩) A2.length (3 * A2.length)]⟩ :: ⟨3, arcs A1⟩ :: ⟨3, arcs A2⟩ :: L) 2 n2 m2 A2 rfl (3 * A2.length)
  simp at e1' e2
  clear S S1 S2 o1 o2 e1
  simp (disch := first | assumption | omega | (simp [*] <;> omega) | fail) [-getElem?_pos, List.getElem?_cons_zero, List.getElem?_cons_succ, i_zz59, e1', e2, hcl, hn, hn', splice, fresults, fresL, fres1, hgetS, hsetS, hgetS0, hsetS0]
end
section
variable {h : VH} {cd : Value} {xs : List Int} (hs : Sl h cd (bys xs)) (hx : Code' xs) (hn : nro ≤ h.length)
include hs hx hn
theorem c_zz24 : ∃ (n m : Int) (A : List Ar), A.length ≤ 17 ∧ vcall F nro k_zz24 [cd] h = some (bv n m (sv h.length A), h ++ [⟨3, arcs A⟩]) := by
 have hn' := fun k => Nat.le_trans hn (Nat.le_add_right h.length k)
 have hs0 := Sl.app hs [⟨0, [.int .i64 0, .int .i64 0, .slice none 0 0]⟩]
 have hn0 : nro ≤ (h ++ [⟨0, [.int .i64 0, .int .i64 0, .slice none 0 0]⟩] : VH).length := by simp; omega
 obtain ⟨s, ho, e1⟩ := c_zz55 (nro := nro) (h ++ [⟨0, [.int .i64 0, .int .i64 0, .slice none 0 0]⟩]) cd xs hs0 hx hn0
 have S := srce_new (nro := nro) (h := h ++ [⟨0, [.int .i64 0, .int .i64 0, .slice none 0 0]⟩]) hs0 hx hn0 ho
 obtain ⟨n, m, A, s2, o2, hA, e2⟩ := c_zz59 (nro := nro) S
 refine ⟨n, m, A, hA, ?_⟩
 have hcl := cleanup_one (h := h) (L := [⟨0, [.int .i64 n, .int .i64 m, .slice (some ⟨h.length + 2, 0, none⟩) A.length (3 * A.length)]⟩, srcO cd s2, ⟨3, arcs A⟩]) (v := bv n m (sv (h.length + 2) A)) (k := 2) (o := ⟨3, arcs A⟩) (by simp [trefs, vrefs, crefs, arefs]) rfl (arcs_flat _ _ _)
 refine v_zz24 (by simp [i_zz24]) ?_
 rw [fbody_eq]
 simp [hsetK] at e1 e2
 simp [tren, vren, cren, aren, renOf_one] at hcl
 clear hs hs0 S
 simp (disch := first | assumption | omega | (simp [*] <;> omega) | fail) [i_zz24, e1, e2, hcl, hn, hn', splice, fresults, fresL, fres1]
theorem c_zz9 : ∃ (n m : Int) (A : List Ar), A.length ≤ 17 ∧ vcall F nro k_zz9 [cd] h = some (bv n m (sv h.length A), h ++ [⟨3, arcs A⟩]) := by
 have hn' := fun k => Nat.le_trans hn (Nat.le_add_right h.length k)
 have hs0 := Sl.app hs [⟨0, [.int .i64 0, .int .i64 0, .slice none 0 0]⟩]
 have hn0 : nro ≤ (h ++ [⟨0, [.int .i64 0, .int .i64 0, .slice none 0 0]⟩] : VH).length := by simp; omega
 obtain ⟨s, ho, e1⟩ := c_zz55 (nro := nro) (h ++ [⟨0, [.int .i64 0, .int .i64 0, .slice none 0 0]⟩]) cd xs hs0 hx hn0
 have S := srce_new (nro := nro) (h := h ++ [⟨0, [.int .i64 0, .int .i64 0, .slice none 0 0]⟩]) hs0 hx hn0 ho
 obtain ⟨n, m, A, s2, o2, hA, e2⟩ := c_zz59 (nro := nro) S
 refine ⟨n, m, A, hA, ?_⟩
 have hcl := cleanup_one (h := h) (L := [⟨0, [.int .i64 n, .int .i64 m, .slice (some ⟨h.length + 2, 0, none⟩) A.length (3 * A.length)]⟩, srcO cd s2, ⟨3, arcs A⟩]) (v := bv n m (sv (h.length + 2) A)) (k := 2) (o := ⟨3, arcs A⟩) (by simp [trefs, vrefs, crefs, arefs]) rfl (arcs_flat _ _ _)
 refine v_zz9 (by simp [i_zz9]) ?_
 rw [fbody_eq]
 simp [hsetK] at e1 e2
 simp [tren, vren, cren, aren, renOf_one] at hcl
 clear hs hs0 S
 simp (disch := first | assumption | omega | (simp [*] <;> omega) | fail) [i_zz9, e1, e2, hcl, hn, hn', splice, fresults, fresL, fres1]
theorem c_zz8 : ∃ (n m : Int) (A : List Ar), A.length ≤ 17 ∧ vcall F nro k_zz8 [cd] h = some (bv n m (sv h.length A), h ++ [⟨3, arcs A⟩]) := by
 have hn' := fun k => Nat.le_trans hn (Nat.le_add_right h.length k)
 have hs0 := Sl.app hs [⟨0, [.int .i64 0, .int .i64 0, .slice none 0 0]⟩]
 have hn0 : nro ≤ (h ++ [⟨0, [.int .i64 0, .int .i64 0, .slice none 0 0]⟩] : VH).length := by simp; omega
 obtain ⟨s, ho, e1⟩ := c_zz55 (nro := nro) (h ++ [⟨0, [.int .i64 0, .int .i64 0, .slice none 0 0]⟩]) cd xs hs0 hx hn0
 have S := srce_new (nro := nro) (h := h ++ [⟨0, [.int .i64 0, .int .i64 0, .slice none 0 0]⟩]) hs0 hx hn0 ho
 obtain ⟨n, m, A, s2, o2, hA, e2⟩ := c_zz59 (nro := nro) S
 refine ⟨n, m, A, hA, ?_⟩
 have hcl := cleanup_one (h := h) (L := [⟨0, [.int .i64 n, .int .i64 m, .slice (some ⟨h.length + 2, 0, none⟩) A.length (3 * A.length)]⟩, srcO cd s2, ⟨3, arcs A⟩]) (v := bv n m (sv (h.length + 2) A)) (k := 2) (o := ⟨3, arcs A⟩) (by simp [trefs, vrefs, crefs, arefs]) rfl (arcs_flat _ _ _)
 refine v_zz8 (by simp [i_zz8]) ?_
 rw [fbody_eq]
 simp [hsetK] at e1 e2
 simp [tren, vren, cren, aren, renOf_one] at hcl
 clear hs hs0 S
 simp (disch := first | assumption | omega | (simp [*] <;> omega) | fail) [i_zz8, e1, e2, hcl, hn, hn', splice, fresults, fresL, fres1]
theorem c_zz6 : ∃ (n m : Int) (A : List Ar), A.length ≤ 17 ∧ vcall F nro k_zz6 [cd] h = some (bv n m (sv h.length A), h ++ [⟨3, arcs A⟩]) := by
 have hn' := fun k => Nat.le_trans hn (Nat.le_add_right h.length k)
 have hs0 := Sl.app hs [⟨0, [.int .i64 0, .int .i64 0, .slice none 0 0]⟩]
 have hn0 : nro ≤ (h ++ [⟨0, [.int .i64 0, .int .i64 0, .slice none 0 0]⟩] : VH).length := by simp; omega
 obtain ⟨s, ho, e1⟩ := c_zz55 (nro := nro) (h ++ [⟨0, [.int .i64 0, .int .i64 0, .slice none 0 0]⟩]) cd xs hs0 hx hn0
 have S := srce_new (nro := nro) (h := h ++ [⟨0, [.int .i64 0, .int .i64 0, .slice none 0 0]⟩]) hs0 hx hn0 ho
 obtain ⟨n, m, A, s2, o2, hA, e2⟩ := c_zz59 (nro := nro) S
 refine ⟨n, m, A, hA, ?_⟩
 have hcl := cleanup_one (h := h) (L := [⟨0, [.int .i64 n, .int .i64 m, .slice (some ⟨h.length + 2, 0, none⟩) A.length (3 * A.length)]⟩, srcO cd s2, ⟨3, arcs A⟩]) (v := bv n m (sv (h.length + 2) A)) (k := 2) (o := ⟨3, arcs A⟩) (by simp [trefs, vrefs, crefs, arefs]) rfl (arcs_flat _ _ _)
 refine v_zz6 (by simp [i_zz6]) ?_
 rw [fbody_eq]
 simp [hsetK] at e1 e2
 simp [tren, vren, cren, aren, renOf_one] at hcl
 clear hs hs0 S
 simp (disch := first | assumption | omega | (simp [*] <;> omega) | fail) [i_zz6, e1, e2, hcl, hn, hn', splice, fresults, fresL, fres1]
end
end

/- Regular graphs: degrees' least and greatest; lists alike; a cage graph fits. -/
section
open Go
variable {nro : Nat}
theorem l_zz40 (s t : Value) (xs ys : List Int) (h : VH) (hs : Sli h s xs) (ht : Sli h t ys) (h3 : xs.length ≤ 9223372036854775806) (hl : xs.length = ys.length) :
  floop (vcall F nro) nro [0, 1, 5] i_zz40_B1 h [s, t, .int .i64 0] h = if xs = ys then some (.exit 0, fl [], h) else some (.ret, fl [(4, .bool false)], h) := by
 have key := search (fun i => floop (vcall F nro) nro [0, 1, 5] i_zz40_B1 h [s, t, .int .i64 i] h) (fun i => xs.getD i.toNat 0 ≠ ys.getD i.toNat 0) (some (.ret, fl [(4, .bool false)], h)) (some (.exit 0, fl [], h)) xs.length 0 ?_ ?_ 0 (by omega)
 ·rw [key]
  by_cases e : xs = ys
  ·rw [if_pos e, if_neg]
   rintro ⟨j, _, _, hj⟩
   exact hj (by rw [e])
  ·rw [if_neg e, if_pos]
   apply Classical.byContradiction
   intro hno
   apply e
   apply List.ext_getElem hl
   intro k h1 h2
   apply Classical.byContradiction
   intro hne
   exact hno ⟨k, by omega, by omega, by simpa [h1, h2] using hne⟩
 ·intro i h0 hi
  have hso := hs.old
  have hto := ht.old
  have e1 : xs.getD i.toNat 0 = xs[i.toNat]'(by omega) := getD_at _ (by omega)
  have e2 : ys.getD i.toNat 0 = ys[i.toNat]'(by omega) := getD_at _ (by omega)
  rw [e1, e2, floop_at i_zz40_B1.eq_1]
  constructor <;> intro hb <;> simp (disch := first | assumption | omega | (simp [*] <;> omega) | fail) [hs.vlen, hs.vidx, hs.vload, ht.vlen, ht.vidx, ht.vload, wrap64, hi, hb]
 ·intro i h0 hi
  rw [floop_at i_zz40_B1.eq_1]
  simp (disch := first | assumption | omega | (simp [*] <;> omega) | fail) [hs.vlen, hi]
theorem c_zz40 (s t : Value) (xs ys : List Int) (h : VH) (hs : Sli h s xs) (ht : Sli h t ys) (h3 : xs.length ≤ 9223372036854775806) :
  vcall F nro k_zz40 [s, t] h = some (.bool (decide (xs = ys)), h) := by
 refine v_zz40 (by simp [i_zz40]) ?_
 rw [fbody_eq]
 by_cases hl : xs.length = ys.length
 ·simp (disch := first | assumption | omega | (simp [*] <;> omega) | fail) [i_zz40, hs.vlen, ht.vlen, hl, l_zz40 s t xs ys h hs ht h3 hl]
  by_cases e : xs = ys <;> simp [e]
 ·have hl' : ¬ (xs.length : Int) = ys.length := by omega
  have : xs ≠ ys := fun e => hl (by rw [e])
  simp (disch := first | assumption | omega | (simp [*] <;> omega) | fail) [i_zz40, hs.vlen, ht.vlen, hl', this]
theorem c_zz52 (n m : Int) (s t : Value) (xs ys : List Int) (h : VH) (hs : Sli h s xs) (ht : Sli h t ys) (h3 : xs.length ≤ 9223372036854775806) :
  vcall F nro k_zz52 [gv n s, gv m t] h = some (.bool (decide (n = m ∧ xs = ys)), h) := by
 refine v_zz52 (by simp [i_zz52]) ?_
 rw [fbody_eq]
 have hc := c_zz40 (nro := nro) s t xs ys (h ++ [⟨0, [.int .i64 n, s]⟩, ⟨0, [.int .i64 m, t]⟩]) (hs.app _) (ht.app _) h3
 by_cases e1 : n = m
 ·subst e1
  simp (disch := first | assumption | omega | (simp [*] <;> omega) | fail) [i_zz52, hc]
 ·simp (disch := first | assumption | omega | (simp [*] <;> omega) | fail) [i_zz52, hc, e1]
end

/- Draws of two graphs. -/
section
open Go
variable {nro : Nat}
section
variable {H : VH} {b : Nat} {cd : Value} {xs : List Int} {s : SS} (S : Srce nro H b cd xs s)
include S
theorem Srce.badE2 {s' : SS} (h : SOK xs s') (L : VH) (k N : Nat) (rows : List Int) (hk : L[k]? = some ⟨1, ints rows⟩) (g : GV N rows) : ∃ (n' : Int) (m : Nat) (rows' : List Int) (s2 : SS) (M : VH), SOK xs s2 ∧
  vcall F nro k_zz66 [.pointer (some ⟨b, 0, some 3⟩), gv N (.slice (some ⟨H.length + k, 0, none⟩) N N)] (H.set b (srcO cd s') ++ L) = some (gv n' (.slice (some ⟨H.length + m, 0, none⟩) rows'.length rows'.length), H.set b (srcO cd s2) ++ (L ++ M)) ∧
  rows'.length ≤ 63 ∧ ((M = [] ∧ m = k ∧ rows' = rows) ∨ (M = [⟨1, ints rows'⟩] ∧ m = L.length)) := by
 have hlt := S.lt
 have hl := g.rok.len
 obtain ⟨n', v, rows', s2, M, o2, e, h1, h2, h3, h4⟩ := c_zz66 (nro := nro) (S.set h L) N (.slice (some ⟨H.length + k, 0, none⟩) N N) rows g (fun o => by
  have hk2 : ((H.set b (srcO cd s') ++ L).set b o)[H.length + k]? = some ⟨1, ints rows⟩ := by
   rw [List.set_append_left _ _ (by simpa using hlt), List.getElem?_append_right (by simp)]
   simpa using hk
  have := sli_at hk2
  rwa [hl] at this) (by
  intro r hr
  simp [arefs] at hr
  omega)
 rw [S.setL, List.append_assoc] at e
 rcases h4 with ⟨rfl, rfl, rfl, rfl⟩ | ⟨rfl, rfl⟩
 ·exact ⟨N, k, rows', s2, [], o2, by rw [hl]; exact e, h1, .inl ⟨rfl, rfl, rfl⟩⟩
 ·refine ⟨n', L.length, rows', s2, [⟨1, ints rows'⟩], o2, ?_, h1, .inr ⟨rfl, rfl⟩⟩
  rw [e]
  simp
end
end

/- Draws of covers: the loops. -/
section
open Go
variable {nro : Nat}
theorem plc_ltU {f n m i : Nat} (hf : f < n) (hi : i < m) : f * m + i < n * m := by
 have : (f + 1) * m ≤ n * m := Nat.mul_le_mul_right m hf
 rw [Nat.add_mul] at this
 omega
theorem clean_lit {h P P' L : VH} {vs : List Value} (hl : P'.length = P.length) (hf : ∀ (i : Nat) (o : VO), P'[i]? = some o → P[i]? = some o ∨ flatO (h.length + P.length) o) (hv : ∀ v ∈ vs, Old (h.length + P.length) v) : kclean (h ++ P) vs (h ++ (P' ++ L)) = (vs, h ++ P') := by
 have hU : Upd (h ++ P) (h ++ P') := by
  refine ⟨by simp [hl], fun i o ho => ?_⟩
  by_cases hi : i < h.length
  ·left
   rw [List.getElem?_append_left hi] at ho ⊢
   exact ho
  ·rw [List.getElem?_append_right (by omega)] at ho
   rcases hf _ o ho with h1 | h1
   ·left
    rw [List.getElem?_append_right (by omega)]
    exact h1
   ·right
    intro r hr
    have := h1 r hr
    simpa using this
 have := cleanup_upd (L := L) hU (vs := vs) (by simpa using hv)
 rw [List.append_assoc] at this
 exact this
abbrev cP (h : VH) (R1 R2 : VO) (so : VO) (rh : List Int) (gh pk : VO) (r : List Int) (ls : List Int) (gx : VO) (M : VH) : VH := R1 :: R2 :: so :: ⟨1, ints rh⟩ :: gh :: pk :: ⟨1, ints r⟩ :: ⟨1, ints ls⟩ :: gx :: M
theorem cP_flat {h : VH} {R1 R2 so so' : VO} {rh : List Int} {gh pk : VO} {r r' ls ls' : List Int} {gx : VO} {M : VH} (hso : flatO (h.length + (M.length + 9)) so') (i : Nat) (o : VO) (ho : (cP h R1 R2 so' rh gh pk r' ls' gx M)[i]? = some o) :
  (cP h R1 R2 so rh gh pk r ls gx M)[i]? = some o ∨ flatO (h.length + (cP h R1 R2 so rh gh pk r ls gx M).length) o := by
 match i with
 | 0 => left; exact ho
 | 1 => left; exact ho
 | 2 => right; cases ho; simpa [cP] using hso
 | 3 => left; exact ho
 | 4 => left; exact ho
 | 5 => left; exact ho
 | 6 => right; cases ho; exact flatO_ints _ _ _
 | 7 => right; cases ho; exact flatO_ints _ _ _
 | 8 => left; exact ho
 | k + 9 => left; exact ho
section
variable {h : VH} {R1 R2 : VO} {rh : List Int} {gh pk gx : VO} {M : VH} {K m : Nat} {q : Value} {es : List (List Int)}
theorem l_DrawIsCover_1 (hn : nro ≤ h.length) (N : Nat) (hK : K = N * m) (hK62 : K ≤ 62) (hm1 : 1 ≤ m) (hm62 : m ≤ 62) (hgx : gx = ⟨0, [.int .i64 K, .slice (some ⟨h.length + 6, 0, none⟩) K K]⟩)
  (hq : SL2 (h.length + 9) M q es) (x2 x3 x5 x6 : Value) (hx : ∀ k, 9 ≤ k → Old (h.length + k) x2 ∧ Old (h.length + k) x3 ∧ Old (h.length + k) x5 ∧ Old (h.length + k) x6) (so : VO) (e : Nat) (he : e < es.length) (u w : Nat) (heu : es.getD e [] = [(u : Int), (w : Int)]) (huw : u < w) (hwN : w < N) (vo : Nat) (hvo : vo < m) (hso : flatO (h.length + (M.length + 9)) so)
  (r0 : List Int) (g0 : GV K r0) :
  ∃ r, GV K r ∧ floop (vcall F nro) nro [2, 3, 5, 6, 7, 8, 9, 10, 11, 12, 13] i_zz18_B1 (h ++ cP h R1 R2 so rh gh pk r0 [] gx M) [x2, x3, x5, x6, .int .i64 m, .pointer (some ⟨h.length + 8, 0, some 2⟩), .slice (some ⟨h.length + 7, 0, none⟩) 0 0, q, .int .i64 e, .int .i64 vo, .int .i64 0] (h ++ cP h R1 R2 so rh gh pk r0 [] gx M) =
   some (.exit 2, fl [(2, x2), (3, x3), (5, x5), (6, x6), (7, .int .i64 m), (8, .pointer (some ⟨h.length + 8, 0, some 2⟩)), (9, .slice (some ⟨h.length + 7, 0, none⟩) 0 0), (10, q), (11, .int .i64 e)], h ++ cP h R1 R2 so rh gh pk r [] gx M) := by
 have hn' := fun k => Nat.le_trans hn (Nat.le_add_right h.length k)
 refine Exists.elim (for_upR (call := vcall F nro) (nro := nro) (live := [2, 3, 5, 6, 7, 8, 9, 10, 11, 12, 13]) (c := i_zz18_B1) (h0 := h ++ cP h R1 R2 so rh gh pk r0 [] gx M) (n := m) (fun i (_ : List Int) => [x2, x3, x5, x6, .int .i64 m, .pointer (some ⟨h.length + 8, 0, some 2⟩), .slice (some ⟨h.length + 7, 0, none⟩) 0 0, q, .int .i64 e, .int .i64 vo, .int .i64 i])
  (fun _ r => h ++ cP h R1 R2 so rh gh pk r [] gx M) (fun _ r => GV K r)
  (fun r => some (.exit 2, fl [(2, x2), (3, x3), (5, x5), (6, x6), (7, .int .i64 m), (8, .pointer (some ⟨h.length + 8, 0, some 2⟩)), (9, .slice (some ⟨h.length + 7, 0, none⟩) 0 0), (10, q), (11, .int .i64 e)], h ++ cP h R1 R2 so rh gh pk r [] gx M)) ?_ ?_ 0 r0 (Nat.zero_le _) g0) ?_
 ·intro i r hi hi2 g
  obtain ⟨vs, v1, v2, v3⟩ := SL2.ll (h := h ++ [R1, R2, so, ⟨1, ints rh⟩, gh, pk, ⟨1, ints r⟩, ⟨1, ints []⟩, gx]) (M := M) (q := q) (es := es) (by simpa using hq)
  have eX : h ++ [R1, R2, so, ⟨1, ints rh⟩, gh, pk, ⟨1, ints r⟩, ⟨1, ints []⟩, gx] ++ M = h ++ cP h R1 R2 so rh gh pk r [] gx M := by simp
  rw [eX] at v2 v3
  have hev : e < vs.length := by omega
  have f1 := v2.vidx (k := .i64) (j := (e : Int)) (by omega) (by omega)
  have f2 := v2.vload hev
  have f3 := v3 e hev
  rw [heu] at f3
  have f4 := f3.vidx (k := .i64) (j := 0) (by omega) (by simp)
  have f5 := f3.vload (j := 0) (by simp)
  have f6 := f3.vidx (k := .i64) (j := 1) (by omega) (by simp)
  have f7 := f3.vload (j := 1) (by simp)
  rw [Int.toNat_natCast] at f1
  rw [show (0 : Int).toNat = 0 from rfl] at f4
  rw [show (1 : Int).toNat = 1 from rfl] at f6
  have hrl := g.rok.len
  obtain ⟨P, hP⟩ : ∃ P : Nat, (u : Int) * m = (P : Int) ∧ P = u * m := ⟨u * m, by rw [Int.natCast_mul], rfl⟩
  obtain ⟨Q, hQ⟩ : ∃ Q : Nat, (w : Int) * m = (Q : Int) ∧ Q = w * m := ⟨w * m, by rw [Int.natCast_mul], rfl⟩
  obtain ⟨Z, hZ⟩ : ∃ Z : Nat, Z = (i + vo) % m := ⟨_, rfl⟩
  have hZm : Z < m := by rw [hZ]; exact Nat.mod_lt _ (by omega)
  have rm : ((i : Int) + (vo : Int)).tmod m = (Z : Int) := by
   rw [Int.tmod_eq_emod_of_nonneg (by omega), hZ, Int.natCast_emod, Int.natCast_add]
  have h1 : P + i < K := by rw [hP.2, hK]; exact plc_ltU (by omega) hi
  have h2 : Q + Z < K := by rw [hQ.2, hK]; exact plc_ltU hwN hZm
  have hne : P + i ≠ Q + Z := by
   have : (u + 1) * m ≤ w * m := Nat.mul_le_mul_right m huw
   rw [Nat.add_mul] at this
   omega
  have hput := c_zz70 (nro := nro) K (h.length + 6) K ((P : Int) + i) ((Q : Int) + Z) r (h ++ cP h R1 R2 so rh gh pk r [] gx M) (by simp) hrl (by omega) (by omega) (by omega) (by omega) (by omega) hK62
  have g2 : GV K (put2 r ((P : Int) + i) ((Q : Int) + Z)) := g.put2I (by omega) (by omega) (by omega) (by omega) (by omega)
  refine ⟨put2 r ((P : Int) + i) ((Q : Int) + Z), g2, ?_⟩
  have hpl := g2.rok.len
  generalize put2 r ((P : Int) + i) ((Q : Int) + Z) = r2 at hput g2 hpl ⊢
  have hc := fun (vs : List Value) (hv : ∀ v ∈ vs, Old (h.length + (M.length + 9)) v) => clean_lit (h := h) (P := cP h R1 R2 so rh gh pk r0 [] gx M) (P' := cP h R1 R2 so rh gh pk r2 [] gx M) (L := []) (vs := vs) (by simp) (cP_flat hso) (by simpa using hv)
  simp only [List.append_nil] at hc
  have e8 : (h ++ cP h R1 R2 so rh gh pk r [] gx M)[h.length + 8]? = some ⟨0, [.int .i64 K, .slice (some ⟨h.length + 6, 0, none⟩) K K]⟩ := by
   rw [← hgx]; simp
  have eset : (h ++ cP h R1 R2 so rh gh pk r [] gx M).set (h.length + 6) ⟨1, ints r2⟩ = h ++ cP h R1 R2 so rh gh pk r2 [] gx M := by simp
  rw [eset] at hput
  have w1 : IntKind.i64.wrap (P : Int) = P := wrap64 (by omega) (by omega)
  have w2 : IntKind.i64.wrap (Q : Int) = Q := wrap64 (by omega) (by omega)
  have w3 : IntKind.i64.wrap ((P : Int) + i) = (P : Int) + i := wrap64 (by omega) (by omega)
  have w4 : IntKind.i64.wrap ((Q : Int) + Z) = (Q : Int) + Z := wrap64 (by omega) (by omega)
  have w5 : IntKind.i64.wrap ((i : Int) + vo) = (i : Int) + vo := wrap64 (by omega) (by omega)
  have w6 : IntKind.i64.wrap ((i : Int) + 1) = (i : Int) + 1 := wrap64 (by omega) (by omega)
  have c0 : ¬ m = 0 := by omega
  have hold := hx (M.length + 9) (by omega)
  obtain ⟨o2, o3, o5, o6⟩ := hold
  have oq : Old (h.length + (M.length + 9)) q := by
   have := v2.old
   simpa [Nat.add_assoc] using this
  have hcc := hc [x2, x3, x5, x6, .int .i64 m, .pointer (some ⟨h.length + 8, 0, some 2⟩), .slice (some ⟨h.length + 7, 0, none⟩) 0 0, q, .int .i64 e, .int .i64 vo, .int .i64 ((i : Int) + 1)] (by intro v hv; simp at hv; rcases hv with rfl | rfl | rfl | rfl | rfl | rfl | rfl | rfl | rfl | rfl | rfl <;> first | assumption | simp <;> omega)
  conv => lhs; rw [floop_at i_zz18_B1.eq_1]
  have p1 := hP.1
  have p2 := hQ.1
  generalize vs[e] = ve at *
  generalize hX : h ++ cP h R1 R2 so rh gh pk r [] gx M = X at *
  generalize hX2 : h ++ cP h R1 R2 so rh gh pk r2 [] gx M = X2 at *
  generalize hX0 : h ++ cP h R1 R2 so rh gh pk r0 [] gx M = X0 at *
  clear hc v2 v3 hX hX2 hX0 eX eset g g2 hq hx hP hQ hZ hK f3 hgx
  simp at f5 f7
  simp (disch := first | assumption | omega | (simp [*] <;> omega) | fail) [-getElem?_pos, List.getElem?_cons_zero, List.getElem?_cons_succ, hi, hi2, f1, f2, f4, f5, f6, f7, e8, p1, p2, rm, w1, w2, w3, w4, w5, w6, c0, hput, hcc]
 ·intro r _
  rw [floop_at i_zz18_B1.eq_1]
  simp (disch := first | assumption | omega | (simp [*] <;> omega) | fail) [-getElem?_pos, List.getElem?_cons_zero, List.getElem?_cons_succ, ]
 ·rintro r ⟨i1, i2⟩
  exact ⟨r, i1, i2⟩
theorem srcHeap {cd : Value} {s0 s' : SS} (L : VH) : (h ++ [R1, R2, srcO cd s0]).set (h.length + 2) (srcO cd s') ++ L = h ++ R1 :: R2 :: srcO cd s' :: L := by simp [hsetK]
theorem l_DrawIsCover_2 {cd : Value} {xs : List Int} {sA : SS} (S : Srce nro (h ++ [R1, R2, srcO cd sA]) (h.length + 2) cd xs sA) (hn : nro ≤ h.length) (N : Nat) (hK : K = N * m) (hK62 : K ≤ 62) (hm1 : 1 ≤ m) (hm62 : m ≤ 62) (hgx : gx = ⟨0, [.int .i64 K, .slice (some ⟨h.length + 6, 0, none⟩) K K]⟩)
  (hq : SL2 (h.length + 9) M q es) (hes : ∀ e ∈ es, ∃ u w : Nat, u < w ∧ w < N ∧ e = [(u : Int), (w : Int)]) (hel : es.length ≤ 4000) (x2 x3 x6 : Value) (hx : ∀ k, 9 ≤ k → Old (h.length + k) x2 ∧ Old (h.length + k) x3 ∧ Old (h.length + k) x6) (s0 : SS) (o0 : SOK xs s0) (r0 : List Int) (g0 : GV K r0) :
  ∃ a : List Int × SS, (GV K a.1 ∧ SOK xs a.2) ∧ floop (vcall F nro) nro [2, 3, 5, 6, 7, 8, 9, 10, 11] i_zz18_B2 (h ++ cP h R1 R2 (srcO cd s0) rh gh pk r0 [] gx M) [x2, x3, .pointer (some ⟨h.length + 2, 0, some 3⟩), x6, .int .i64 m, .pointer (some ⟨h.length + 8, 0, some 2⟩), .slice (some ⟨h.length + 7, 0, none⟩) 0 0, q, .int .i64 0] (h ++ cP h R1 R2 (srcO cd s0) rh gh pk r0 [] gx M) =
   some (.exit 0, fl [(2, x2), (3, x3), (5, .pointer (some ⟨h.length + 2, 0, some 3⟩)), (6, x6), (7, .int .i64 m), (8, .pointer (some ⟨h.length + 8, 0, some 2⟩)), (9, .slice (some ⟨h.length + 7, 0, none⟩) 0 0)], h ++ cP h R1 R2 (srcO cd a.2) rh gh pk a.1 [] gx M) := by
 have hn' := fun k => Nat.le_trans hn (Nat.le_add_right h.length k)
 have hso : ∀ s', flatO (h.length + (M.length + 9)) (srcO cd s') := fun s' => flatO_src (S.old.le (by simp)) s'
 refine Exists.elim (for_upR (call := vcall F nro) (nro := nro) (live := [2, 3, 5, 6, 7, 8, 9, 10, 11]) (c := i_zz18_B2) (h0 := h ++ cP h R1 R2 (srcO cd s0) rh gh pk r0 [] gx M) (n := es.length) (fun e (_ : List Int × SS) => [x2, x3, .pointer (some ⟨h.length + 2, 0, some 3⟩), x6, .int .i64 m, .pointer (some ⟨h.length + 8, 0, some 2⟩), .slice (some ⟨h.length + 7, 0, none⟩) 0 0, q, .int .i64 e])
  (fun _ a => h ++ cP h R1 R2 (srcO cd a.2) rh gh pk a.1 [] gx M) (fun _ a => GV K a.1 ∧ SOK xs a.2)
  (fun a => some (.exit 0, fl [(2, x2), (3, x3), (5, .pointer (some ⟨h.length + 2, 0, some 3⟩)), (6, x6), (7, .int .i64 m), (8, .pointer (some ⟨h.length + 8, 0, some 2⟩)), (9, .slice (some ⟨h.length + 7, 0, none⟩) 0 0)], h ++ cP h R1 R2 (srcO cd a.2) rh gh pk a.1 [] gx M)) ?_ ?_ 0 (r0, s0) (Nat.zero_le _) ⟨g0, o0⟩) ?_
 ·rintro e ⟨r, s1⟩ he he2 ⟨g, o1⟩
  dsimp only at g o1 ⊢
  obtain ⟨x, s2, o2, a2, b2, _, e2⟩ := S.nextE o1 (⟨1, ints rh⟩ :: gh :: pk :: ⟨1, ints r⟩ :: ⟨1, ints []⟩ :: gx :: M) m (by omega)
  rw [srcHeap, srcHeap] at e2
  have c2 := b2 (by omega)
  obtain ⟨vo, hvo⟩ : ∃ vo : Nat, x = vo := ⟨x.toNat, by omega⟩
  subst hvo
  have hmem : es.getD e [] ∈ es := by
   rw [List.getD_eq_getElem?_getD, List.getElem?_eq_getElem he]
   exact List.getElem_mem he
  obtain ⟨u, w, h1, h2, h3⟩ := hes _ hmem
  obtain ⟨r', g', l1⟩ := l_DrawIsCover_1 (nro := nro) (h := h) (R1 := R1) (R2 := R2) (rh := rh) (gh := gh) (pk := pk) (gx := gx) (M := M) (q := q) (es := es) hn N hK hK62 hm1 hm62 hgx hq x2 x3 (.pointer (some ⟨h.length + 2, 0, some 3⟩)) x6 (fun k hk => ⟨(hx k hk).1, (hx k hk).2.1, by simp; omega, (hx k hk).2.2⟩) (srcO cd s2) e he u w h3 h1 h2 vo (by omega) (hso s2) r g
  refine ⟨(r', s2), ⟨g', o2⟩, ?_⟩
  dsimp only
  obtain ⟨vs, v1, v2, v3⟩ := SL2.ll (h := h ++ [R1, R2, srcO cd s1, ⟨1, ints rh⟩, gh, pk, ⟨1, ints r⟩, ⟨1, ints []⟩, gx]) (M := M) (q := q) (es := es) (by simpa using hq)
  have eX : h ++ [R1, R2, srcO cd s1, ⟨1, ints rh⟩, gh, pk, ⟨1, ints r⟩, ⟨1, ints []⟩, gx] ++ M = h ++ cP h R1 R2 (srcO cd s1) rh gh pk r [] gx M := by simp
  rw [eX] at v2
  have hvl := v2.vlen
  rw [v1] at hvl
  have w6 : IntKind.i64.wrap ((e : Int) + 1) = (e : Int) + 1 := wrap64 (by omega) (by omega)
  obtain ⟨p2, p3, p6⟩ := hx (M.length + 9) (by omega)
  have oq : Old (h.length + (M.length + 9)) q := by
   have := v2.old
   simpa [Nat.add_assoc] using this
  have hcc := clean_lit (h := h) (P := cP h R1 R2 (srcO cd s0) rh gh pk r0 [] gx M) (P' := cP h R1 R2 (srcO cd s2) rh gh pk r' [] gx M) (L := []) (vs := [x2, x3, .pointer (some ⟨h.length + 2, 0, some 3⟩), x6, .int .i64 m, .pointer (some ⟨h.length + 8, 0, some 2⟩), .slice (some ⟨h.length + 7, 0, none⟩) 0 0, q, .int .i64 ((e : Int) + 1)]) (by simp) (cP_flat (hso s2)) (by
   intro v hv
   have : h.length + (cP h R1 R2 (srcO cd s0) rh gh pk r0 [] gx M).length = h.length + (M.length + 9) := by simp
   rw [this]
   simp at hv
   rcases hv with rfl | rfl | rfl | rfl | rfl | rfl | rfl | rfl | rfl <;> first | assumption | simp <;> omega)
  rw [List.append_nil] at hcc
  conv => lhs; rw [floop_at i_zz18_B2.eq_1]
  have eX2 : h ++ R1 :: R2 :: srcO cd s1 :: ⟨1, ints rh⟩ :: gh :: pk :: ⟨1, ints r⟩ :: ⟨1, ints []⟩ :: gx :: M = h ++ cP h R1 R2 (srcO cd s1) rh gh pk r [] gx M := rfl
  have eX3 : h ++ R1 :: R2 :: srcO cd s2 :: ⟨1, ints rh⟩ :: gh :: pk :: ⟨1, ints r⟩ :: ⟨1, ints []⟩ :: gx :: M = h ++ cP h R1 R2 (srcO cd s2) rh gh pk r [] gx M := rfl
  rw [eX2, eX3] at e2
  generalize hX : h ++ cP h R1 R2 (srcO cd s1) rh gh pk r [] gx M = X at *
  generalize hX1 : h ++ cP h R1 R2 (srcO cd s2) rh gh pk r [] gx M = X1 at *
  generalize hX2 : h ++ cP h R1 R2 (srcO cd s2) rh gh pk r' [] gx M = X2 at *
  generalize hX0 : h ++ cP h R1 R2 (srcO cd s0) rh gh pk r0 [] gx M = X0 at *
  clear v2 v3 hX hX1 hX2 hX0 eX eX2 eX3 g hq hx hK hgx S hso hes b2 o1 o2 g'
  simp (disch := first | assumption | omega | (simp [*] <;> omega) | fail) [-getElem?_pos, List.getElem?_cons_zero, List.getElem?_cons_succ, he, he2, hvl, e2, l1, w6, hcc]
 ·rintro ⟨r, s1⟩ _
  dsimp only
  obtain ⟨vs, v1, v2, v3⟩ := SL2.ll (h := h ++ [R1, R2, srcO cd s1, ⟨1, ints rh⟩, gh, pk, ⟨1, ints r⟩, ⟨1, ints []⟩, gx]) (M := M) (q := q) (es := es) (by simpa using hq)
  have eX : h ++ [R1, R2, srcO cd s1, ⟨1, ints rh⟩, gh, pk, ⟨1, ints r⟩, ⟨1, ints []⟩, gx] ++ M = h ++ cP h R1 R2 (srcO cd s1) rh gh pk r [] gx M := by simp
  rw [eX] at v2
  have hvl := v2.vlen
  rw [v1] at hvl
  rw [floop_at i_zz18_B2.eq_1]
  generalize hX : h ++ cP h R1 R2 (srcO cd s1) rh gh pk r [] gx M = X at *
  clear S hso hq v2 v3 eX hX
  simp (disch := first | assumption | omega | (simp [*] <;> omega) | fail) [-getElem?_pos, List.getElem?_cons_zero, List.getElem?_cons_succ, hvl]
 ·rintro a ⟨i1, i2⟩
  exact ⟨a, i1, i2⟩
theorem l_DrawIsCover_3 (hn : nro ≤ h.length) (hK62 : K ≤ 62) (hm1 : 1 ≤ m) (hgx : gx = ⟨0, [.int .i64 K, .slice (some ⟨h.length + 6, 0, none⟩) K K]⟩)
  (x2 x3 x5 x6 : Value) (hx : ∀ k, 9 ≤ k → Old (h.length + k) x2 ∧ Old (h.length + k) x3 ∧ Old (h.length + k) x5 ∧ Old (h.length + k) x6) (so : VO) (hso : flatO (h.length + (M.length + 9)) so) (r : List Int) :
  floop (vcall F nro) nro [2, 3, 5, 6, 7, 8, 9, 14] i_zz18_B3 (h ++ cP h R1 R2 so rh gh pk r [] gx M) [x2, x3, x5, x6, .int .i64 m, .pointer (some ⟨h.length + 8, 0, some 2⟩), .slice (some ⟨h.length + 7, 0, none⟩) 0 0, .int .i64 0] (h ++ cP h R1 R2 so rh gh pk r [] gx M) =
   some (.exit 4, fl [(2, x2), (3, x3), (5, x5), (6, x6), (8, .pointer (some ⟨h.length + 8, 0, some 2⟩)), (9, .slice (some ⟨h.length + 7, 0, none⟩) K K)], h ++ cP h R1 R2 so rh gh pk r (covT m K) gx M) := by
 have hn' := fun k => Nat.le_trans hn (Nat.le_add_right h.length k)
 have main := for_up (call := vcall F nro) (nro := nro) (live := [2, 3, 5, 6, 7, 8, 9, 14]) (c := i_zz18_B3) (h0 := h ++ cP h R1 R2 so rh gh pk r [] gx M) (n := K) (fun i (_ : Unit) => [x2, x3, x5, x6, .int .i64 m, .pointer (some ⟨h.length + 8, 0, some 2⟩), .slice (some ⟨h.length + 7, 0, none⟩) i i, .int .i64 i])
  (fun i _ => h ++ cP h R1 R2 so rh gh pk r (covT m i) gx M) (fun _ a => a) (fun _ _ => True)
  (fun _ => some (.exit 4, fl [(2, x2), (3, x3), (5, x5), (6, x6), (8, .pointer (some ⟨h.length + 8, 0, some 2⟩)), (9, .slice (some ⟨h.length + 7, 0, none⟩) K K)], h ++ cP h R1 R2 so rh gh pk r (covT m K) gx M))
  (fun i _ hi hi2 _ => by
   refine ⟨trivial, ?_⟩
   have w1 : IntKind.i64.wrap ((i : Int) + 1) = (i : Int) + 1 := wrap64 (by omega) (by omega)
   have q1 : (i : Int).tdiv m = ((i / m : Nat) : Int) := by rw [Int.tdiv_eq_ediv_of_nonneg (by omega), Int.natCast_ediv]
   have hz := Nat.div_le_self i m
   have b1 : (i + 1) * 8 ≤ 1099511627776 := by omega
   have b2 : i + 1 ≤ 1099511627776 := by omega
   have b3 : i < 1099511627776 := by omega
   have hsu : ints (covT m i) ++ [Value.int .i64 ((i / m : Nat) : Int)] = ints (covT m (i + 1)) := by rw [← covT_succ, ← ints_append]; rfl
   have hl1 : (covT m i).length = i := covT_len _ _
   have hl2 : (covT m (i + 1)).length = i + 1 := covT_len _ _
   have c0 : ¬ m = 0 := by omega
   obtain ⟨p2, p3, p5, p6⟩ := hx (M.length + 9) (by omega)
   have hcc := fun L => clean_lit (h := h) (P := cP h R1 R2 so rh gh pk r [] gx M) (P' := cP h R1 R2 so rh gh pk r (covT m (i + 1)) gx M) (L := L) (vs := [x2, x3, x5, x6, .int .i64 m, .pointer (some ⟨h.length + 8, 0, some 2⟩), .slice (some ⟨h.length + 7, 0, none⟩) (i + 1) (i + 1), .int .i64 ((i : Int) + 1)]) (by simp) (cP_flat hso) (by
    intro v hv
    have : h.length + (cP h R1 R2 so rh gh pk r [] gx M).length = h.length + (M.length + 9) := by simp
    rw [this]
    simp at hv
    rcases hv with rfl | rfl | rfl | rfl | rfl | rfl | rfl | rfl <;> first | assumption | simp <;> omega)
   generalize covT m i = l0 at *
   generalize covT m (i + 1) = l1 at *
   conv => lhs; rw [floop_at i_zz18_B3.eq_1]
   generalize i / m = z at *
   have w2 : IntKind.i64.wrap ((z : Nat) : Int) = (z : Int) := wrap64 (by omega) (by omega)
   simp only [List.cons_append] at hcc
   clear hx
   subst hgx
   simp (disch := first | assumption | omega | (simp [*] <;> omega) | fail) [hi, hi2, w1, q1, w2, hsu, hl1, hl2, c0, hn', b1, b2, b3, hcc])
  (fun _ _ => by
   have hl1 : (covT m K).length = K := covT_len _ _
   generalize covT m K = l0 at *
   rw [floop_at i_zz18_B3.eq_1]
   clear hx
   subst hgx
   simp (disch := first | assumption | omega | (simp [*] <;> omega) | fail) [hl1]) 0 () (Nat.zero_le _) trivial
 exact main.1
end
end

/- The law of ExchangeEdges. -/
section
open Go
variable {nro : Nat}
theorem GV.cut2 {n : Nat} {rows : List Int} (g : GV n rows) {a b : Nat} (hab : rbit rows a b = true) : GV n (cut2 rows a b) := by
 obtain ⟨ha, hb⟩ := rbit_lt g.rok hab
 obtain ⟨R, hi⟩ := cut_rok g ha hb hab
 have hlo := g.lo
 have hl := R.len
 refine ⟨by omega, g.hi, by omega, fun v hv => ?_, fun v w hv hw => ?_⟩
 ·obtain ⟨r1, r2⟩ := R.row v (by omega)
  refine ⟨r1, ?_, ?_⟩
  ·have e : ((2 ^ n : Nat) : Int) = (2 : Int) ^ ((n : Int).toNat) := by simp
   rw [← e]; omega
  ·cases h : rbit (Zv.cut2 rows a b) v v
   ·rfl
   ·exact absurd rfl (g.ne ((hi v v).mp h).1)
 ·rw [Bool.eq_iff_iff]
  exact ⟨cut_sym g hab v w, cut_sym g hab w v⟩
end

/- Draws of covers. -/
section
open Go
variable {nro : Nat}
theorem cleanup_three {h L : VH} {v : Value} {i j k : Nat} {o p r : VO} (hv : trefs v = [h.length + i, h.length + j, h.length + k]) (hij : i ≠ j) (hik : i ≠ k) (hjk : j ≠ k) (hi : L[i]? = some o) (hj : L[j]? = some p) (hk : L[k]? = some r) (hf : flatO h.length o) (hg : flatO h.length p) (hr : flatO h.length r) :
  kclean h [v] (h ++ L) = ([tren (renOf h.length [h.length + i, h.length + j, h.length + k]) v], h ++ [o, p, r]) := by
 have e : keepL h.length [v] = [h.length + i, h.length + j, h.length + k] := by
  unfold keepL
  simp [hv, dedup, hij, hik, hjk]
 have h1 : (h ++ L)[h.length + i]? = some o := by rw [hgetk]; exact hi
 have h2 : (h ++ L)[h.length + j]? = some p := by rw [hgetk]; exact hj
 have h3 : (h ++ L)[h.length + k]? = some r := by rw [hgetk]; exact hk
 rw [cleanup_keep e fun k hk => ?_]
 ·simp [hi, hj, hk]
 ·simp only [List.mem_cons, List.not_mem_nil, or_false] at hk
  rcases hk with rfl | rfl | rfl
  ·exact ⟨o, h1, hf⟩
  ·exact ⟨p, h2, hg⟩
  ·exact ⟨r, h3, hr⟩
theorem clean_tggs (h L : VH) (i j k : Nat) (n n' n'' : Nat) (x x' : Int) (o p r : VO) (hij : i ≠ j) (hik : i ≠ k) (hjk : j ≠ k) (hi : L[i]? = some o) (hj : L[j]? = some p) (hk : L[k]? = some r) (hf : flatO h.length o) (hg : flatO h.length p) (hr : flatO h.length r) :
  kclean h [.tuple #[gv x (.slice (some ⟨h.length + i, 0, none⟩) n n), gv x' (.slice (some ⟨h.length + j, 0, none⟩) n' n'), .slice (some ⟨h.length + k, 0, none⟩) n'' n'']] (h ++ L) = ([.tuple #[gv x (.slice (some ⟨h.length, 0, none⟩) n n), gv x' (.slice (some ⟨h.length + 1, 0, none⟩) n' n'), .slice (some ⟨h.length + 2, 0, none⟩) n'' n'']], h ++ [o, p, r]) := by
 rw [cleanup_three (i := i) (j := j) (k := k) (by simp [trefs, vrefs, crefs, arefs]) hij hik hjk hi hj hk hf hg hr]
 have r1 : renOf h.length [h.length + i, h.length + j, h.length + k] (h.length + i) = h.length := by simp [renOf]; omega
 have r2 : renOf h.length [h.length + i, h.length + j, h.length + k] (h.length + j) = h.length + 1 := by
  have h1 : (h.length + i == h.length + j) = false := by simp; omega
  unfold renOf
  rw [if_neg (by omega), List.idxOf_cons, h1, List.idxOf_cons]
  simp
 have r3 : renOf h.length [h.length + i, h.length + j, h.length + k] (h.length + k) = h.length + 2 := by
  have h1 : (h.length + i == h.length + k) = false := by simp; omega
  have h2 : (h.length + j == h.length + k) = false := by simp; omega
  unfold renOf
  rw [if_neg (by omega), List.idxOf_cons, h1, List.idxOf_cons, h2, List.idxOf_cons]
  simp
 simp [tren, vren, cren, aren, r1, r2, r3]
theorem get3 (a b c : VO) (X : VH) (m : Nat) : (a :: b :: c :: X)[3 + m]? = X[m]? := by rw [Nat.add_comm]; rfl
abbrev cz : VO := ⟨0, [.int .i64 0, .slice none 0 0]⟩
section
variable {h : VH} {cd : Value} {xs : List Int} (hs : Sl h cd (bys xs)) (hx : Code' xs) (hn : nro ≤ h.length)
include hs hx hn
theorem cover_end {sA s' : SS} (S : Srce nro (h ++ [cz, cz, srcO cd sA]) (h.length + 2) cd xs sA) (o' : SOK xs s') {N K : Nat} {rh r ls : List Int} {pk gh gx rg : VO} {M : VH} (ig : Nat) (gN : GV N rh) (gK : GV K r) (hig : (⟨1, ints rh⟩ :: gh :: pk :: rg :: ⟨1, ints ls⟩ :: gx :: M)[ig]? = some ⟨1, ints r⟩) (hi0 : ig ≠ 0) (hi4 : ig ≠ 4) :
  ∃ (n1 n2 : Int) (q1 q2 : List Int) (sB sC : SS) (m1 m2 : Nat) (M1 M2 : VH), q1.length ≤ 63 ∧ q2.length ≤ 63 ∧
   vcall F nro k_zz66 [.pointer (some ⟨h.length + 2, 0, some 3⟩), gv K (.slice (some ⟨h.length + (3 + ig), 0, none⟩) K K)] (h ++ cz :: cz :: srcO cd s' :: ⟨1, ints rh⟩ :: gh :: pk :: rg :: ⟨1, ints ls⟩ :: gx :: M) = some (gv n1 (.slice (some ⟨h.length + m1, 0, none⟩) q1.length q1.length), h ++ cz :: cz :: srcO cd sB :: ⟨1, ints rh⟩ :: gh :: pk :: rg :: ⟨1, ints ls⟩ :: gx :: (M ++ M1)) ∧
   vcall F nro k_zz66 [.pointer (some ⟨h.length + 2, 0, some 3⟩), gv N (.slice (some ⟨h.length + 3, 0, none⟩) N N)] (h ++ cz :: cz :: srcO cd sB :: ⟨1, ints rh⟩ :: gh :: pk :: rg :: ⟨1, ints ls⟩ :: gx :: (M ++ M1)) = some (gv n2 (.slice (some ⟨h.length + m2, 0, none⟩) q2.length q2.length), h ++ cz :: cz :: srcO cd sC :: ⟨1, ints rh⟩ :: gh :: pk :: rg :: ⟨1, ints ls⟩ :: gx :: (M ++ (M1 ++ M2))) ∧
   ∀ lsl : Nat, kclean h [.tuple #[gv n1 (.slice (some ⟨h.length + m1, 0, none⟩) q1.length q1.length), gv n2 (.slice (some ⟨h.length + m2, 0, none⟩) q2.length q2.length), .slice (some ⟨h.length + 7, 0, none⟩) lsl lsl]]
    (h ++ ⟨0, [.int .i64 n1, .slice (some ⟨h.length + m1, 0, none⟩) q1.length q1.length]⟩ :: ⟨0, [.int .i64 n2, .slice (some ⟨h.length + m2, 0, none⟩) q2.length q2.length]⟩ :: srcO cd sC :: ⟨1, ints rh⟩ :: gh :: pk :: rg :: ⟨1, ints ls⟩ :: gx :: (M ++ (M1 ++ M2))) =
    ([.tuple #[gv n1 (.slice (some ⟨h.length, 0, none⟩) q1.length q1.length), gv n2 (.slice (some ⟨h.length + 1, 0, none⟩) q2.length q2.length), .slice (some ⟨h.length + 2, 0, none⟩) lsl lsl]], h ++ [⟨1, ints q1⟩, ⟨1, ints q2⟩, ⟨1, ints ls⟩]) := by
 have hl0 : ((h ++ [cz, cz, srcO cd sA]) : VH).length = h.length + 3 := by simp
 obtain ⟨n1, m1, q1, sB, M1, oB, e1, hq1, d1⟩ := S.badE2 o' (⟨1, ints rh⟩ :: gh :: pk :: rg :: ⟨1, ints ls⟩ :: gx :: M) ig K r hig gK
 obtain ⟨n2, m2, q2, sC, M2, oC, e2, hq2, d2⟩ := S.badE2 oB ((⟨1, ints rh⟩ :: gh :: pk :: rg :: ⟨1, ints ls⟩ :: gx :: M) ++ M1) 0 N rh rfl gN
 rw [hl0, srcHeap, srcHeap] at e1 e2
 have higl : ig < (⟨1, ints rh⟩ :: gh :: pk :: rg :: ⟨1, ints ls⟩ :: gx :: M : VH).length := (List.getElem?_eq_some_iff.mp hig).1
 simp only [List.length_cons] at higl
 refine ⟨n1, n2, q1, q2, sB, sC, 3 + m1, 3 + m2, M1, M2, hq1, hq2, ?_, ?_, fun lsl => ?_⟩
 ·rw [← Nat.add_assoc, ← Nat.add_assoc]
  exact e1
 ·rw [← Nat.add_assoc]
  simpa using e2
 ·refine clean_tggs h _ (3 + m1) (3 + m2) 7 _ _ _ n1 n2 ⟨1, ints q1⟩ ⟨1, ints q2⟩ ⟨1, ints ls⟩ ?_ ?_ ?_ ?_ ?_ rfl (flatO_ints _ _ _) (flatO_ints _ _ _) (flatO_ints _ _ _)
  ·rcases d1 with ⟨rfl, rfl, rfl⟩ | ⟨rfl, rfl⟩ <;> rcases d2 with ⟨rfl, rfl, rfl⟩ | ⟨rfl, rfl⟩ <;> simp <;> omega
  ·rcases d1 with ⟨rfl, rfl, rfl⟩ | ⟨rfl, rfl⟩ <;> simp <;> omega
  ·rcases d2 with ⟨rfl, rfl, rfl⟩ | ⟨rfl, rfl⟩ <;> simp <;> omega
  ·rw [get3, show (⟨1, ints rh⟩ :: gh :: pk :: rg :: ⟨1, ints ls⟩ :: gx :: (M ++ (M1 ++ M2)) : VH) = (⟨1, ints rh⟩ :: gh :: pk :: rg :: ⟨1, ints ls⟩ :: gx :: M) ++ (M1 ++ M2) from rfl]
   rcases d1 with ⟨rfl, rfl, rfl⟩ | ⟨rfl, rfl⟩
   ·rw [List.getElem?_append_left (by simpa using higl)]
    exact hig
   ·rw [List.getElem?_append_right (Nat.le_refl _), Nat.sub_self]
    rfl
  ·rw [get3]
   rcases d2 with ⟨rfl, rfl, rfl⟩ | ⟨rfl, rfl⟩
   ·rfl
   ·rw [show (⟨1, ints rh⟩ :: gh :: pk :: rg :: ⟨1, ints ls⟩ :: gx :: (M ++ (M1 ++ [⟨1, ints q2⟩])) : VH) = ((⟨1, ints rh⟩ :: gh :: pk :: rg :: ⟨1, ints ls⟩ :: gx :: M) ++ M1) ++ [⟨1, ints q2⟩] by simp]
    rw [List.getElem?_append_right (Nat.le_refl _), Nat.sub_self]
    rfl
set_option maxHeartbeats 4000000 in
theorem c_zz18 : ∃ (n1 n2 : Int) (q1 q2 ys : List Int), q1.length ≤ 63 ∧ q2.length ≤ 63 ∧ ys.length ≤ 63 ∧ vcall F nro k_zz18 [cd] h = some (.tuple #[gv n1 (.slice (some ⟨h.length, 0, none⟩) q1.length q1.length), gv n2 (.slice (some ⟨h.length + 1, 0, none⟩) q2.length q2.length), .slice (some ⟨h.length + 2, 0, none⟩) ys.length ys.length], h ++ [⟨1, ints q1⟩, ⟨1, ints q2⟩, ⟨1, ints ys⟩]) := by
 have hn' := fun k => Nat.le_trans hn (Nat.le_add_right h.length k)
 have hs0 := Sl.app hs [cz, cz]
 have hn0 : nro ≤ (h ++ [cz, cz] : VH).length := by simp; omega
 obtain ⟨sA, oA, e1⟩ := c_zz55 (nro := nro) (h ++ [cz, cz]) cd xs hs0 hx hn0
 have S0 := srce_new (nro := nro) (h := h ++ [cz, cz]) hs0 hx hn0 oA
 have S : Srce nro (h ++ [cz, cz, srcO cd sA]) (h.length + 2) cd xs sA := by simpa using S0
 have hl0 : ((h ++ [cz, cz, srcO cd sA]) : VH).length = h.length + 3 := by simp
 obtain ⟨x, s1, o1, a2, b2, _, e2⟩ := S.nextE oA [] 7 (by omega)
 have c2 := b2 (by omega)
 obtain ⟨N, hN⟩ : ∃ N : Nat, 1 + x = N := ⟨(1 + x).toNat, by omega⟩
 have w1 : IntKind.i64.wrap (1 + x) = N := wrN hN (by omega)
 obtain ⟨rh, s2, o2, gN, e3⟩ := S.drawOfE o1 [] N (by omega) (by omega)
 obtain ⟨gh, hgh⟩ : ∃ gh : VO, gh = ⟨0, [.int .i64 N, .slice (some ⟨h.length + 3, 0, none⟩) N N]⟩ := ⟨_, rfl⟩
 obtain ⟨pk, hpk⟩ : ∃ pk : VO, pk = ⟨1, ints [1, 2, 2, 3]⟩ := ⟨_, rfl⟩
 obtain ⟨mi, s3, o3, hm, e4⟩ := S.pickE o2 [⟨1, ints rh⟩, gh, pk] 2 4 [1, 2, 2, 3] (by rw [hpk]; rfl) rfl (by omega) (by omega)
 have hmi : 1 ≤ mi ∧ mi ≤ 3 := by simp at hm; omega
 obtain ⟨m, rfl⟩ : ∃ m : Nat, mi = m := ⟨mi.toNat, by omega⟩
 obtain ⟨K, hK⟩ : ∃ K, K = N * m := ⟨_, rfl⟩
 have hKb : K ≤ 7 * 3 := by rw [hK]; exact Nat.mul_le_mul (by omega) (by omega)
 have hK1 : 1 * 1 ≤ K := by rw [hK]; exact Nat.mul_le_mul (by omega) (by omega)
 have eK : (N : Int) * m = (K : Int) := by rw [hK, Int.natCast_mul]
 have wK : IntKind.i64.wrap (K : Int) = K := wrap64 (by omega) (by omega)
 have e5 := c_zz43 (nro := nro) K (h ++ cz :: cz :: srcO cd s3 :: [⟨1, ints rh⟩, gh, pk]) (by omega) (by omega) (by simp; omega)
 rw [Int.toNat_natCast] at e5
 obtain ⟨gx, hgx⟩ : ∃ gx : VO, gx = ⟨0, [.int .i64 K, .slice (some ⟨h.length + 6, 0, none⟩) K K]⟩ := ⟨_, rfl⟩
 have hrl := gN.rok.len
 obtain ⟨v, M, e6, hq⟩ := c_zz42 (nro := nro) N (.slice (some ⟨h.length + 3, 0, none⟩) rh.length rh.length) rh (h ++ cP h cz cz (srcO cd s3) rh gh pk (List.replicate K 0) [] gx []) (sli_at (by simp)) (by simp; omega) gN
 rw [hrl] at e6
 have hq' : SL2 (h.length + 9) M v (edgesF rh N 0) := by simpa using hq
 have hel := edges_len' rh N 0 (by omega)
 obtain ⟨⟨r, s4⟩, ⟨gK, o4⟩, e7⟩ := l_DrawIsCover_2 (nro := nro) (h := h) (R1 := cz) (R2 := cz) (rh := rh) (gh := gh) (pk := pk) (gx := gx) (M := M) (K := K) (m := m) (q := v) (es := edgesF rh N 0) S hn N hK (by omega) (by omega) (by omega) hgx hq' (fun e he => by
   obtain ⟨u, w, h1, h2, _, h4⟩ := edges_shape he
   exact ⟨u, w, h1, h2, h4⟩) (by omega) (.pointer (some ⟨h.length, 0, some 2⟩)) (.pointer (some ⟨h.length + 1, 0, some 2⟩)) (.pointer (some ⟨h.length + 4, 0, some 2⟩)) (fun k hk => ⟨by simp; omega, by simp; omega, by simp; omega⟩) s3 o3 (List.replicate K 0) (GV.zero (by omega) (by omega))
 dsimp only at gK o4 e7
 have hso : flatO (h.length + (M.length + 9)) (srcO cd s4) := flatO_src (S.old.le (by simp)) s4
 have e8 := l_DrawIsCover_3 (nro := nro) (h := h) (R1 := cz) (R2 := cz) (rh := rh) (gh := gh) (pk := pk) (gx := gx) (M := M) (K := K) (m := m) hn (by omega) (by omega) hgx (.pointer (some ⟨h.length, 0, some 2⟩)) (.pointer (some ⟨h.length + 1, 0, some 2⟩)) (.pointer (some ⟨h.length + 2, 0, some 3⟩)) (.pointer (some ⟨h.length + 4, 0, some 2⟩)) (fun k hk => ⟨by simp; omega, by simp; omega, by simp; omega, by simp; omega⟩) (srcO cd s4) hso r
 obtain ⟨ls, hls⟩ : ∃ ls, ls = covT m K := ⟨_, rfl⟩
 have hlsl : ls.length = K := by rw [hls, covT_len]
 rw [← hls] at e8
 obtain ⟨x9, s5, o5, _, _, _, e9⟩ := S.nextE o4 (⟨1, ints rh⟩ :: gh :: pk :: ⟨1, ints r⟩ :: ⟨1, ints ls⟩ :: gx :: M) 10 (by omega)
 have hrl2 := gK.rok.len
 rw [srcHeap, srcHeap] at e2 e3 e4 e9
 rw [hl0] at e3 e4
 clear hq hls
 unfold cP at e6 e7 e8
 by_cases c0 : x9 = 0
 ·obtain ⟨ji, s6, o6, a10, b10, _, f10⟩ := S.nextE o5 (⟨1, ints rh⟩ :: gh :: pk :: ⟨1, ints r⟩ :: ⟨1, ints ls⟩ :: gx :: M) K (by omega)
  have c10 := b10 (by omega)
  obtain ⟨j, rfl⟩ : ∃ j : Nat, ji = j := ⟨ji.toNat, by omega⟩
  have hj : j < ls.length := by omega
  have hjK : j < K := by omega
  obtain ⟨y, s7, o7, _, f11⟩ := S.pickE o6 (⟨1, ints rh⟩ :: gh :: pk :: ⟨1, ints r⟩ :: ⟨1, ints ls⟩ :: gx :: (M ++ [⟨1, ints [0, -1, (N : Int)]⟩])) (M.length + 6) 3 [0, -1, (N : Int)] (by simp) rfl (by omega) (by omega)
  rw [srcHeap, srcHeap] at f10 f11
  rw [hl0, show h.length + 3 + (M.length + 6) = h.length + (M.length + 9) by omega] at f11
  have t2 := splice_ints (v := y) hj
  obtain ⟨ls2, hls2⟩ : ∃ ls2, ls2 = ls.set j y := ⟨_, rfl⟩
  have hlsl2 : ls2.length = K := by rw [hls2, List.length_set]; exact hlsl
  rw [← hls2] at t2
  simp [splice] at t2
  obtain ⟨n1, n2, q1, q2, sB, sC, m1, m2, M1, M2, hq1, hq2, f1, f2, hcl⟩ := cover_end (nro := nro) hs hx hn S o7 (rh := rh) (r := r) (ls := ls2) (pk := pk) (gh := gh) (gx := gx) (rg := ⟨1, ints r⟩) (M := M ++ [⟨1, ints [0, -1, (N : Int)]⟩]) 3 gN gK rfl (by omega) (by omega)
  refine ⟨n1, n2, q1, q2, ls2, hq1, hq2, by omega, ?_⟩
  have hcl := hcl ls2.length
  rw [hlsl2] at hcl ⊢
  clear b10 c10 hls2
  refine v_zz18 (by simp [i_zz18]) ?_
  rw [fbody_eq]
  generalize q1.length = l1 at f1 f2 hcl ⊢
  generalize q2.length = l2 at f2 hcl ⊢
  subst hgh hgx hpk
  unfold cz at *
  try simp [hsetK] at e1
  try simp [hsetK] at e2
  try simp [hsetK] at e3
  try simp [hsetK] at e4
  try simp [hsetK] at e5
  try simp [hsetK] at e6
  try simp [hsetK] at e7
  try simp [hsetK] at e8
  try simp [hsetK] at e9
  try simp [hsetK] at f10
  try simp [hsetK] at f11
  try simp [hsetK] at f1
  try simp [hsetK] at f2
  try simp [hsetK] at hcl
  clear hs hs0 S0 S gN gK hq' hel hso hK hKb hK1 oA o1 o2 o3 o4 o5 hn0 hl0 hm
  simp (disch := first | assumption | omega | (simp [*] <;> omega) | fail) [i_zz18, e1, e2, e3, e4, e5, e6, e7, e8, e9, w1, eK, wK, f1, f2, hcl, hlsl, hn, hn', splice, fresults, fresL, fres1, c0, f10, f11, t2, hj, hjK, hlsl2]
 by_cases c1 : x9 = 1
 ·have hap : ints ls ++ [Value.int .i64 0] = ints (ls ++ [0]) := by simp [ints]
  obtain ⟨ls2, hls2⟩ : ∃ ls2, ls2 = ls ++ [(0 : Int)] := ⟨_, rfl⟩
  have hlsl2 : ls2.length = K + 1 := by rw [hls2]; simp [hlsl]
  rw [← hls2] at hap
  obtain ⟨n1, n2, q1, q2, sB, sC, m1, m2, M1, M2, hq1, hq2, f1, f2, hcl⟩ := cover_end (nro := nro) hs hx hn S o5 (rh := rh) (r := r) (ls := ls2) (pk := pk) (gh := gh) (gx := gx) (rg := ⟨1, ints r⟩) (M := M ++ [⟨1, ints [0]⟩]) 3 gN gK rfl (by omega) (by omega)
  refine ⟨n1, n2, q1, q2, ls2, hq1, hq2, by omega, ?_⟩
  have hcl := hcl ls2.length
  rw [hlsl2] at hcl ⊢
  have b1 : (K + 1) * 8 ≤ 1099511627776 := by omega
  have b2 : K < 1099511627776 := by omega
  have b3 : K + 1 ≤ 1099511627776 := by omega
  clear hls2
  refine v_zz18 (by simp [i_zz18]) ?_
  rw [fbody_eq]
  generalize q1.length = l1 at f1 f2 hcl ⊢
  generalize q2.length = l2 at f2 hcl ⊢
  subst hgh hgx hpk
  unfold cz at *
  try simp [hsetK] at e1
  try simp [hsetK] at e2
  try simp [hsetK] at e3
  try simp [hsetK] at e4
  try simp [hsetK] at e5
  try simp [hsetK] at e6
  try simp [hsetK] at e7
  try simp [hsetK] at e8
  try simp [hsetK] at e9
  try simp [hsetK] at f1
  try simp [hsetK] at f2
  try simp [hsetK] at hcl
  clear hs hs0 S0 S gN gK hq' hel hso hK hKb hK1 oA o1 o2 o3 o4 o5 hn0 hl0 hm
  simp (disch := first | assumption | omega | (simp [*] <;> omega) | fail) [i_zz18, e1, e2, e3, e4, e5, e6, e7, e8, e9, w1, eK, wK, f1, f2, hcl, hlsl, hn, hn', splice, fresults, fresL, fres1, c0, c1, hap, b1, b2, b3, hlsl2]
 by_cases c2x : x9 = 2
 ·obtain ⟨v2, Ma, f10, hqa⟩ := c_zz42 (nro := nro) K (.slice (some ⟨h.length + 6, 0, none⟩) r.length r.length) r (h ++ cP h cz cz (srcO cd s5) rh gh pk r ls gx M) (sli_at (by simp)) (by simp; omega) gK
  rw [hrl2] at f10
  rw [Int.toNat_natCast] at hqa
  have hv := LL.len hqa.ll
  by_cases ce : (edgesF r K 0).length = 0
  ·obtain ⟨n1, n2, q1, q2, sB, sC, m1, m2, M1, M2, hq1, hq2, f1, f2, hcl⟩ := cover_end (nro := nro) hs hx hn S o5 (rh := rh) (r := r) (ls := ls) (pk := pk) (gh := gh) (gx := gx) (rg := ⟨1, ints r⟩) (M := M ++ Ma) 3 gN gK rfl (by omega) (by omega)
   refine ⟨n1, n2, q1, q2, ls, hq1, hq2, by omega, ?_⟩
   have hcl := hcl ls.length
   rw [hlsl] at hcl ⊢
   rw [ce] at hv
   clear hqa ce
   unfold cP at f10 hv
   refine v_zz18 (by simp [i_zz18]) ?_
   rw [fbody_eq]
   generalize q1.length = l1 at f1 f2 hcl ⊢
   generalize q2.length = l2 at f2 hcl ⊢
   subst hgh hgx hpk
   unfold cz at *
   try simp [hsetK] at e1
   try simp [hsetK] at e2
   try simp [hsetK] at e3
   try simp [hsetK] at e4
   try simp [hsetK] at e5
   try simp [hsetK] at e6
   try simp [hsetK] at e7
   try simp [hsetK] at e8
   try simp [hsetK] at e9
   try simp [hsetK] at f10
   try simp [hsetK] at hv
   try simp [hsetK] at f1
   try simp [hsetK] at f2
   try simp [hsetK] at hcl
   clear hs hs0 S0 S gN gK hq' hel hso hK hKb hK1 oA o1 o2 o3 o4 o5 hn0 hl0 hm
   simp (disch := first | assumption | omega | (simp [*] <;> omega) | fail) [i_zz18, e1, e2, e3, e4, e5, e6, e7, e8, e9, w1, eK, wK, f1, f2, hcl, hlsl, hn, hn', splice, fresults, fresL, fres1, c0, c1, c2x, f10, hv]
  ·obtain ⟨vs, v1, v2s, v3⟩ := hqa.ll
   obtain ⟨u, w, hu1, hu2, hu3, hu4⟩ := edges_shape (n := K) (rows := r) (e := (edgesF r K 0).getD 0 []) (by
    rw [List.getD_eq_getElem?_getD, List.getElem?_eq_getElem (by omega)]
    exact List.getElem_mem _)
   have hev : 0 < vs.length := by omega
   have k1 := v2s.vidx (k := .i64) (j := 0) (by omega) (by omega)
   have k2 := v2s.vload hev
   have k3 := v3 0 hev
   rw [hu4] at k3
   have k4 := k3.vidx (k := .i64) (j := 0) (by omega) (by simp)
   have k5 := k3.vload (j := 0) (by simp)
   have k6 := k3.vidx (k := .i64) (j := 1) (by omega) (by simp)
   have k7 := k3.vload (j := 1) (by simp)
   rw [show (0 : Int).toNat = 0 from rfl] at k1 k4
   rw [show (1 : Int).toNat = 1 from rfl] at k6
   have k8 := c_zz67 (nro := nro) K u w (.slice (some ⟨h.length + 6, 0, none⟩) r.length r.length) r (h ++ cP h cz cz (srcO cd s5) rh gh pk r ls gx M ++ Ma) ((sli_at (by simp)).app Ma) (by simp; omega) gK (by omega) (by omega) (by omega) (by omega) (by omega) (by simpa using hu3)
   have g2 : GV K (cut2 r u w) := GV.cut2 gK hu3
   have hlc := g2.rok.len
   rw [hrl2] at k8
   have elen : (h ++ cP h cz cz (srcO cd s5) rh gh pk r ls gx M ++ Ma).length = h.length + (M.length + Ma.length + 9) := by simp
   rw [elen] at k8
   obtain ⟨n1, n2, q1, q2, sB, sC, m1, m2, M1, M2, hq1, hq2, f1, f2, hcl⟩ := cover_end (nro := nro) hs hx hn S o5 (rh := rh) (r := cut2 r u w) (ls := ls) (pk := pk) (gh := gh) (gx := ⟨0, [.int .i64 K, .slice (some ⟨h.length + (M.length + Ma.length + 9), 0, none⟩) K K]⟩) (rg := ⟨1, ints r⟩) (M := M ++ Ma ++ [⟨1, ints (cut2 r u w)⟩]) (M.length + Ma.length + 6) gN g2 (by simp) (by omega) (by omega)
   rw [show 3 + (M.length + Ma.length + 6) = M.length + Ma.length + 9 by omega] at f1
   refine ⟨n1, n2, q1, q2, ls, hq1, hq2, by omega, ?_⟩
   have hcl := hcl ls.length
   rw [hlsl] at hcl ⊢
   have ce' : 0 < (edgesF r K 0).length := by omega
   generalize (edgesF r K 0).length = ne at *
   generalize vs[0] = ve at *
   generalize cut2 r u w = rc at *
   clear hqa v2s v3 v1 k3 hu1 hu2 hu3 hu4 g2 elen
   unfold cP at f10 hv k1 k2 k4 k5 k6 k7 k8
   refine v_zz18 (by simp [i_zz18]) ?_
   rw [fbody_eq]
   generalize q1.length = l1 at f1 f2 hcl ⊢
   generalize q2.length = l2 at f2 hcl ⊢
   subst hgh hgx hpk
   unfold cz at *
   try simp [hsetK] at e1
   try simp [hsetK] at e2
   try simp [hsetK] at e3
   try simp [hsetK] at e4
   try simp [hsetK] at e5
   try simp [hsetK] at e6
   try simp [hsetK] at e7
   try simp [hsetK] at e8
   try simp [hsetK] at e9
   try simp [hsetK] at f10
   try simp [hsetK] at hv
   try simp [hsetK] at k1
   try simp [hsetK] at k2
   try simp [hsetK] at k4
   try simp [hsetK] at k5
   try simp [hsetK] at k6
   try simp [hsetK] at k7
   try simp [hsetK] at k8
   try simp [hsetK] at f1
   try simp [hsetK] at f2
   try simp [hsetK] at hcl
   clear hs hs0 S0 S gN gK hq' hel hso hK hKb hK1 oA o1 o2 o3 o4 o5 hn0 hl0 hm
   simp (disch := first | assumption | omega | (simp [*] <;> omega) | fail) [i_zz18, e1, e2, e3, e4, e5, e6, e7, e8, e9, w1, eK, wK, f1, f2, hcl, hlsl, hn, hn', splice, fresults, fresL, fres1, c0, c1, c2x, f10, hv, ce, ce', k1, k2, k4, k5, k6, k7, k8, hlc]
 ·obtain ⟨n1, n2, q1, q2, sB, sC, m1, m2, M1, M2, hq1, hq2, f1, f2, hcl⟩ := cover_end (nro := nro) hs hx hn S o5 (rh := rh) (r := r) (ls := ls) (pk := pk) (gh := gh) (gx := gx) (rg := ⟨1, ints r⟩) (M := M) 3 gN gK rfl (by omega) (by omega)
  refine ⟨n1, n2, q1, q2, ls, hq1, hq2, by omega, ?_⟩
  have hcl := hcl ls.length
  rw [hlsl] at hcl ⊢
  refine v_zz18 (by simp [i_zz18]) ?_
  rw [fbody_eq]
  generalize q1.length = l1 at f1 f2 hcl ⊢
  generalize q2.length = l2 at f2 hcl ⊢
  subst hgh hgx hpk
  unfold cz at *
  try simp [hsetK] at e1
  try simp [hsetK] at e2
  try simp [hsetK] at e3
  try simp [hsetK] at e4
  try simp [hsetK] at e5
  try simp [hsetK] at e6
  try simp [hsetK] at e7
  try simp [hsetK] at e8
  try simp [hsetK] at e9
  try simp [hsetK] at f1
  try simp [hsetK] at f2
  try simp [hsetK] at hcl
  clear hs hs0 S0 S gN gK hq' hel hso hK hKb hK1 oA o1 o2 o3 o4 o5 hn0 hl0 hm
  simp (disch := first | assumption | omega | (simp [*] <;> omega) | fail) [i_zz18, e1, e2, e3, e4, e5, e6, e7, e8, e9, w1, eK, wK, f1, f2, hcl, hlsl, hn, hn', splice, fresults, fresL, fres1, c0, c1, c2x]
end
end

/- FnLifts, in parts: the loops. -/
section
open Go
variable {nro : Nat}
def aptrF (s : Value) (j k : Nat) : Value := match s with
 | .slice (some a) _ tot => .pointer (some ⟨a.block, a.off + j * 3 + k, some tot⟩)
 | _ => junk
theorem arcs_f : ∀ (A : List Ar) (j : Nat) (hj : j < A.length), ((arcs A).drop (j * 3)).take 1 = [.int .i64 A[j].f] ∧ ((arcs A).drop (j * 3 + 1)).take 1 = [.int .i64 A[j].t]
 | a :: A, 0, _ => by
  rw [Nat.zero_mul]
  exact ⟨rfl, rfl⟩
 | a :: A, j + 1, hj => by
  have : (j + 1) * 3 = j * 3 + 1 + 1 + 1 := by omega
  rw [this, show j * 3 + 1 + 1 + 1 + 1 = (j * 3 + 1) + 1 + 1 + 1 by omega]
  exact arcs_f A j (Nat.lt_of_succ_lt_succ hj)
section
variable {h : VH} {s : Value} {A : List Ar} (hs : SlA h s A)
include hs
theorem SlA.vfl {j k : Nat} : vfld k h (aptr s j) = some (aptrF s j k, h) := by
 obtain ⟨b, rfl, hb⟩ := hs
 simp [aptr, aptrF, hb]
theorem SlA.vlf {j : Nat} (hj : j < A.length) : vload false 1 h (aptrF s j 0) = some (.int .i64 A[j].f) := by
 obtain ⟨b, rfl, hb⟩ := hs
 have := (arcs_f A j hj).1
 have h2 : j * 3 + 1 ≤ 3 * A.length := by omega
 simp [hb, aptrF, this, h2]
theorem SlA.vlt {j : Nat} (hj : j < A.length) : vload false 1 h (aptrF s j 1) = some (.int .i64 A[j].t) := by
 obtain ⟨b, rfl, hb⟩ := hs
 have := (arcs_f A j hj).2
 have h2 : j * 3 + 1 + 1 ≤ 3 * A.length := by omega
 simp [hb, aptrF, this, h2]
end
theorem EI.ll {P G : VH} {vs : List Value} {ess : List (List Int)} (e : EI (P.length + 1) vs G ess) : LL (P ++ ⟨1, vs⟩ :: G) (.slice (some ⟨P.length, 0, none⟩) vs.length vs.length) ess := by
 refine ⟨vs, e.len, ?_, fun i hi => ?_⟩
 ·unfold Sl
  rw [vsrc_ref]
  have : (P ++ (⟨1, vs⟩ : VO) :: G)[P.length]? = some ⟨1, vs⟩ := by rw [hget0]; rfl
  simp only [this]
  simp
 ·have hi' : i < ess.length := by rw [← e.len]; exact hi
  obtain ⟨k, k1, k2⟩ := e.at_ i hi'
  have e1 : vs[i] = .slice (some ⟨P.length + 1 + k, 0, none⟩) (ess.getD i []).length (ess.getD i []).length := (List.getElem?_eq_some_iff.mp k1).2
  rw [e1]
  refine sli_at ?_
  rw [Nat.add_assoc, hgetk, Nat.add_comm 1 k]
  exact k2
def flg (A : List Ar) (i : Nat) : Bool := decide (∀ a ∈ A.take i, a.f ≠ a.t) && decide (((A.take i).map bse).Nodup)
theorem flg_all (A : List Ar) : flg A A.length = true ↔ Pln A := by
 unfold flg Pln
 rw [List.take_length, Bool.and_eq_true, decide_eq_true_iff, decide_eq_true_iff]
theorem flg_succ {A : List Ar} {i : Nat} (hi : i < A.length) : flg A (i + 1) = (flg A i && decide (A[i].f ≠ A[i].t) && decide (bse A[i] ∉ (A.take i).map bse)) := by
 unfold flg
 rw [List.take_succ_eq_append_getElem hi, Bool.eq_iff_iff]
 simp only [Bool.and_eq_true, decide_eq_true_iff]
 have e1 : (∀ a ∈ A.take i ++ [A[i]], a.f ≠ a.t) ↔ (∀ a ∈ A.take i, a.f ≠ a.t) ∧ A[i].f ≠ A[i].t := by
  constructor
  ·intro h
   exact ⟨fun a ha => h a (List.mem_append_left _ ha), h _ (List.mem_append_right _ (List.mem_singleton.mpr rfl))⟩
  ·rintro ⟨h1, h2⟩ a ha
   rcases List.mem_append.mp ha with h | h
   ·exact h1 a h
   ·rw [List.mem_singleton] at h
    subst h
    exact h2
 have e2 : ((A.take i ++ [A[i]]).map bse).Nodup ↔ ((A.take i).map bse).Nodup ∧ bse A[i] ∉ (A.take i).map bse := by
  rw [List.map_append, List.nodup_append]
  constructor
  ·rintro ⟨a1, _, a3⟩
   exact ⟨a1, fun hm => a3 _ hm _ (List.mem_map.mpr ⟨_, List.mem_singleton.mpr rfl, rfl⟩) rfl⟩
  ·rintro ⟨a1, a2⟩
   refine ⟨a1, List.pairwise_singleton _ _, fun x hx y hy e => ?_⟩
   obtain ⟨z, hz, rfl⟩ := List.mem_map.mp hy
   rw [List.mem_singleton] at hz
   subst hz
   subst e
   exact a2 hx
 rw [e1, e2]
 constructor
 ·rintro ⟨⟨a1, a2⟩, a3, a4⟩
  exact ⟨⟨⟨a1, a3⟩, a2⟩, a4⟩
 ·rintro ⟨⟨⟨a1, a3⟩, a2⟩, a4⟩
  exact ⟨⟨a1, a2⟩, a3, a4⟩
theorem upF_notin (es : List (List Int)) (x : List Int) : ∀ (d k : Nat) (b : Bool), d + k = es.length → upF (fun k (b : Bool) => b && decide (es.getD k [] ≠ x)) es.length k b = (b && decide (x ∉ es.drop k))
 | 0, k, b, h => by
  rw [upF_end (by omega), List.drop_of_length_le (by omega)]
  simp
 | d + 1, k, b, h => by
  have hk : k < es.length := by omega
  rw [upF_step hk, upF_notin es x d (k + 1) _ (by omega), getD_list hk]
  rw [List.drop_eq_getElem_cons hk, Bool.eq_iff_iff]
  simp only [Bool.and_eq_true, decide_eq_true_iff, List.mem_cons, not_or]
  constructor
  ·rintro ⟨⟨a1, a2⟩, a3⟩
   exact ⟨a1, fun e => a2 e.symm, a3⟩
  ·rintro ⟨a1, a2, a3⟩
   exact ⟨⟨a1, fun e => a2 e.symm⟩, a3⟩
end

/- FnLifts, in parts: the list of the base's edges. -/
section
open Go
variable {nro : Nat}
section
variable {H : VH} {q cd p3 p4 c18 : Value} {es : List (List Int)} (hq : LL H q es) (h2 : ∀ e ∈ es, ∃ u w : Int, e = [u, w]) (hcd : Old H.length cd) (h3 : Old H.length p3) (h4 : Old H.length p4) (h18 : Old H.length c18) (hl : es.length ≤ 1000)
include hq h2 hcd h3 h4 h18 hl
theorem l_lifts_B1 (x y i : Int) (b : Bool) :
  floop (vcall F nro) nro [0, 3, 4, 18, 24, 25, 26, 27, 28, 29] i_zz51_B1 H [cd, p3, p4, c18, .bool b, q, .int .i64 i, .int .i64 x, .int .i64 y, .int .i64 0] H =
   some (.exit 2, fl [(0, cd), (3, p3), (4, p4), (18, c18), (24, .bool (b && decide ([x, y] ∉ es))), (25, q), (26, .int .i64 i), (27, .int .i64 x), (28, .int .i64 y)], H) := by
 obtain ⟨vs, v1, v2, v3⟩ := hq
 have oq := v2.old
 have vn := v2.vlen
 rw [v1] at vn
 have key := for_up (call := vcall F nro) (nro := nro) (live := [0, 3, 4, 18, 24, 25, 26, 27, 28, 29]) (c := i_zz51_B1) (h0 := H) (n := es.length)
  (fun k (b : Bool) => [cd, p3, p4, c18, .bool b, q, .int .i64 i, .int .i64 x, .int .i64 y, .int .i64 k]) (fun _ _ => H) (fun k b => b && decide (es.getD k [] ≠ [x, y])) (fun _ _ => True)
  (fun b => some (.exit 2, fl [(0, cd), (3, p3), (4, p4), (18, c18), (24, .bool b), (25, q), (26, .int .i64 i), (27, .int .i64 x), (28, .int .i64 y)], H))
  (fun k b hk hk2 _ => ⟨trivial, ?_⟩) (fun b _ => ?_) 0 b (by omega) trivial
 ·have e := upF_notin es [x, y] es.length 0 b (by omega)
  rw [List.drop_zero] at e
  rw [← e]
  exact key.1
 ·have w3 : IntKind.i64.wrap ((k : Int) + 1) = (k : Int) + 1 := wrap64 (by omega) (by omega)
  rw [getD_list hk]
  obtain ⟨u, w, he⟩ := h2 _ (List.getElem_mem hk)
  have hkv : k < vs.length := by omega
  have I := v3 k hkv
  rw [getD_list hk, he] at I
  rw [he]
  have vx := v2.vidx (k := .i64) (j := (k : Int)) (by omega) (by omega)
  have vl := v2.vload hkv
  have i0 := I.vidx (k := .i64) (j := 0) (by omega) (by simp)
  have i1 := I.vidx (k := .i64) (j := 1) (by omega) (by simp)
  have j0 := I.vload (j := 0) (by simp)
  have j1 := I.vload (j := 1) (by simp)
  simp at i0 i1 j0 j1
  have hd : decide ([u, w] ≠ [x, y]) = (decide (u ≠ x) || decide (w ≠ y)) := by
   rw [Bool.eq_iff_iff]
   simp only [Bool.or_eq_true, decide_eq_true_iff]
   constructor
   ·intro h
    by_cases c : u = x
    ·exact .inr fun e => h (by rw [c, e])
    ·exact .inl c
   ·rintro h e
    have e1 := (List.cons.inj e).1
    have e2 := (List.cons.inj (List.cons.inj e).2).1
    rcases h with h | h
    ·exact h e1
    ·exact h e2
  rw [hd]
  clear hd v2 v3 I he h2
  rw [floop_at i_zz51_B1.eq_1]
  generalize vs[k] = e at *
  cases b
  ·simp (disch := first | assumption | omega | (simp [*] <;> omega) | fail) [-getElem?_pos, List.getElem?_cons_zero, List.getElem?_cons_succ, hk, hk2, vn, vx, vl, i0, i1, j0, j1, w3, oq, hcd, h3, h4, h18]
  ·by_cases c : u = x
   ·by_cases d : w = y
    ·simp (disch := first | assumption | omega | (simp [*] <;> omega) | fail) [-getElem?_pos, List.getElem?_cons_zero, List.getElem?_cons_succ, hk, hk2, vn, vx, vl, i0, i1, j0, j1, w3, oq, hcd, h3, h4, h18, c, d]
    ·simp (disch := first | assumption | omega | (simp [*] <;> omega) | fail) [-getElem?_pos, List.getElem?_cons_zero, List.getElem?_cons_succ, hk, hk2, vn, vx, vl, i0, i1, j0, j1, w3, oq, hcd, h3, h4, h18, c, d]
   ·simp (disch := first | assumption | omega | (simp [*] <;> omega) | fail) [-getElem?_pos, List.getElem?_cons_zero, List.getElem?_cons_succ, hk, hk2, vn, vx, vl, i0, i1, j0, j1, w3, oq, hcd, h3, h4, h18, c]
 ·rw [floop_at i_zz51_B1.eq_1]
  simp (disch := first | assumption | omega | (simp [*] <;> omega) | fail) [-getElem?_pos, List.getElem?_cons_zero, List.getElem?_cons_succ, vn, oq, hcd, h3, h4, h18]
end
section
variable {P : VH} {cd p4 c18 s : Value} {i3 : Nat} {n m : Int} {A : List Ar} (hb : P[i3]? = some ⟨0, [.int .i64 n, .int .i64 m, s]⟩) (hs : SlA P s A) (hA : A.length ≤ 17) (hcd : Old P.length cd) (h4 : Old P.length p4) (h18 : Old P.length c18) (hn : nro ≤ P.length)
include hb hs hA hcd h4 h18 hn
set_option maxHeartbeats 4000000 in
theorem l_lifts_B2 :
  ∃ a : List Value × VH, EI (P.length + 1) a.1 a.2 (A.map bse) ∧ floop (vcall F nro) nro [0, 3, 4, 18, 24, 25, 26] i_zz51_B2 (P ++ [⟨1, []⟩]) [cd, .pointer (some ⟨i3, 0, some 3⟩), p4, c18, .bool true, .slice (some ⟨P.length, 0, none⟩) 0 0, .int .i64 0] (P ++ [⟨1, []⟩]) =
   some (.exit 0, fl [(0, cd), (3, .pointer (some ⟨i3, 0, some 3⟩)), (4, p4), (18, c18), (24, .bool (flg A A.length)), (25, .slice (some ⟨P.length, 0, none⟩) a.1.length a.1.length)], P ++ ⟨1, a.1⟩ :: a.2) := by
 have b3 := (List.getElem?_eq_some_iff.mp hb).1
 have hk0 := fun k => hcd.le (Nat.le_add_right P.length k)
 have hk4 := fun k => h4.le (Nat.le_add_right P.length k)
 have hk18 := fun k => h18.le (Nat.le_add_right P.length k)
 refine Exists.elim (for_upR (call := vcall F nro) (nro := nro) (live := [0, 3, 4, 18, 24, 25, 26]) (c := i_zz51_B2) (h0 := P ++ [⟨1, []⟩]) (n := A.length)
  (fun i (a : List Value × VH) => [cd, .pointer (some ⟨i3, 0, some 3⟩), p4, c18, .bool (flg A i), .slice (some ⟨P.length, 0, none⟩) a.1.length a.1.length, .int .i64 i])
  (fun i a => P ++ ⟨1, a.1⟩ :: a.2) (fun i a => EI (P.length + 1) a.1 a.2 ((A.take i).map bse))
  (fun a => some (.exit 0, fl [(0, cd), (3, .pointer (some ⟨i3, 0, some 3⟩)), (4, p4), (18, c18), (24, .bool (flg A A.length)), (25, .slice (some ⟨P.length, 0, none⟩) a.1.length a.1.length)], P ++ ⟨1, a.1⟩ :: a.2)) ?_ ?_ 0 ([], []) (Nat.zero_le _) ?_) ?_
 ·rintro i ⟨vs, G⟩ hi hi2 e
  dsimp only at e ⊢
  have hll := e.ll
  have hvl : vs.length = i := by rw [e.len]; simp; omega
  obtain ⟨es, hes⟩ : ∃ es, es = (A.take i).map bse := ⟨_, rfl⟩
  have hel : es.length = i := by rw [hes]; simp; omega
  have hpair : ∀ x ∈ es, ∃ u w : Int, x = [u, w] := by
   intro x hx
   rw [hes] at hx
   obtain ⟨a, _, rfl⟩ := List.mem_map.mp hx
   exact ⟨_, _, rfl⟩
  have hfs := flg_succ hi
  have hmap : (A.take (i + 1)).map bse = es ++ [bse A[i]] := by rw [List.take_succ_eq_append_getElem hi, List.map_append, hes]; rfl
  rw [hmap]
  rw [← hes] at hfs hll e
  obtain ⟨H, hH⟩ : ∃ H, H = P ++ (⟨1, vs⟩ : VO) :: G := ⟨_, rfl⟩
  have hHl : H.length = P.length + 1 + G.length := by rw [hH]; simp; omega
  have sA : SlA H s A := by rw [hH]; exact hs.app _
  have hq : H[P.length]? = some ⟨1, vs⟩ := by rw [hH, hget0]; rfl
  have hbx : H[i3]? = some ⟨0, [.int .i64 n, .int .i64 m, s]⟩ := by rw [hH, List.getElem?_append_left b3]; exact hb
  have hnH : nro ≤ H.length := by omega
  have hn2 := fun k => Nat.le_trans hnH (Nat.le_add_right H.length k)
  have b3H : i3 < H.length := by omega
  have bq : P.length < H.length := by omega
  have oc : Old H.length cd := hcd.le (by omega)
  have o4 : Old H.length p4 := h4.le (by omega)
  have o18 : Old H.length c18 := h18.le (by omega)
  have o3 : Old H.length (.pointer (some ⟨i3, 0, some 3⟩)) := by intro r hr; simp [trefs, vrefs, crefs, arefs] at hr; omega
  rw [← hH] at hll ⊢
  have sl := sA.vlen0
  have sx := sA.vidx0 (k := .i64) (j := (i : Int)) (by omega) (by omega)
  rw [Int.toNat_natCast] at sx
  have sf := fun k => sA.vfl (j := i) (k := k)
  have s0 := sA.vlf hi
  have s1 := sA.vlt hi
  have w3 : IntKind.i64.wrap ((i : Int) + 1) = (i : Int) + 1 := wrap64 (by omega) (by omega)
  have ob : ∀ m, ∀ x ∈ [cd, Value.pointer (some ⟨i3, 0, some 3⟩), p4, c18, .bool (flg A (i + 1)), .slice (some ⟨P.length, 0, none⟩) m m, .int .i64 ((i : Int) + 1)], Old (P.length + 1 + ([] : VH).length) x := by
   intro m x hx
   simp only [List.mem_cons, List.not_mem_nil, or_false] at hx
   have k0 := hk0 1
   have k4 := hk4 1
   have k18 := hk18 1
   rcases hx with rfl | rfl | rfl | rfl | rfl | rfl | rfl
   ·exact k0
   ·intro r hr; simp [trefs, vrefs, crefs, arefs] at hr ⊢; omega
   ·exact k4
   ·exact k18
   ·intro r hr; simp [trefs, vrefs, crefs, arefs] at hr
   ·intro r hr; simp [trefs, vrefs, crefs, arefs] at hr ⊢; omega
   ·intro r hr; simp [trefs, vrefs, crefs, arefs] at hr
  have c1 : (vs.length + 1) * 24 ≤ 1099511627776 := by omega
  have c2 : vs.length < 1099511627776 := by omega
  obtain ⟨x, y, hxy, m1, m2, m3⟩ : ∃ x y : Int, bse A[i] = [x, y] ∧ (if A[i].t < A[i].f then A[i].t else A[i].f) = x ∧ (if A[i].f < A[i].t then A[i].t else A[i].f) = y ∧ decide (A[i].f ≠ A[i].t) = decide (x ≠ y) := by
   rcases Int.lt_trichotomy A[i].f A[i].t with c | c | c
   ·exact ⟨A[i].f, A[i].t, (by unfold bse; rw [if_pos (by omega), if_pos (by omega)]), (by split <;> omega), (by split <;> omega), rfl⟩
   ·exact ⟨A[i].f, A[i].t, (by unfold bse; rw [if_pos (by omega), if_pos (by omega)]), (by split <;> omega), (by split <;> omega), rfl⟩
   ·exact ⟨A[i].t, A[i].f, (by unfold bse; rw [if_neg (by omega), if_neg (by omega)]), (by split <;> omega), (by split <;> omega), (decide_eq_decide.mpr ⟨fun h e => h e.symm, fun h e => h e.symm⟩)⟩
  have l1 := fun b => l_lifts_B1 (nro := nro) hll hpair oc o3 o4 o18 (by omega) x y i b
  rw [hxy] at hfs
  rw [m3] at hfs
  have hnew : H.set P.length ⟨1, vs ++ [.slice (some ⟨H.length, 0, none⟩) 2 2]⟩ ++ [⟨1, [.int .i64 x, .int .i64 y]⟩, ⟨1, [.slice (some ⟨H.length, 0, none⟩) 2 2]⟩] = P ++ ⟨1, vs ++ [.slice (some ⟨P.length + 1 + G.length, 0, none⟩) 2 2]⟩ :: (G ++ ⟨1, [.int .i64 x, .int .i64 y]⟩ :: [⟨1, [.slice (some ⟨P.length + 1 + G.length, 0, none⟩) 2 2]⟩]) := by
   rw [hHl, hH, hset0]; simp
  have e1 := e.push [x, y] [⟨1, [.slice (some ⟨P.length + 1 + G.length, 0, none⟩) 2 2]⟩]
  obtain ⟨G1, hk, e2, e3⟩ := EI.cleanP (P0 := P) (vs0 := []) (G0 := []) (EI.nil _ _) e1 rfl (Nat.zero_le _) (ob (vs.length + 1))
  refine ⟨(_, G1), by rw [hxy]; exact e2, ?_⟩
  simp only [List.length_append, List.length_singleton, List.length_cons, List.length_nil]
  obtain ⟨K0, hK0⟩ : ∃ K0, K0 = P ++ [(⟨1, []⟩ : VO)] := ⟨_, rfl⟩
  rw [← hK0]
  simp only [List.length_cons, List.length_nil] at hk
  rw [show (P ++ (⟨1, []⟩ : VO) :: []) = K0 from hK0.symm] at hk
  simp at hk
  try simp at hnew
  rw [hfs] at hk ⊢
  generalize flg A i = b at *
  generalize A[i].f = f at *
  generalize A[i].t = t at *
  generalize decide ([x, y] ∉ es) = b2 at *
  rw [floop_at i_zz51_B2.eq_1]
  clear hfs ob e e1 e2 hs hb hll hH hHl sA hpair hmap hes m3 hK0
  cases b
  ·simp at hk
   simp (disch := first | assumption | omega | (simp [*] <;> omega) | fail) [-getElem?_pos, List.getElem?_cons_zero, List.getElem?_cons_succ, hi, hi2, hbx, sl, sx, sf, s0, s1, m1, m2, l1, w3, hq, hget_old hq, hset_old hq, hn, hn2, hnH, c1, c2, hnew, hk]
  ·by_cases cxy : x = y
   ·subst cxy
    simp at hk
    simp (disch := first | assumption | omega | (simp [*] <;> omega) | fail) [-getElem?_pos, List.getElem?_cons_zero, List.getElem?_cons_succ, hi, hi2, hbx, sl, sx, sf, s0, s1, m1, m2, l1, w3, hq, hget_old hq, hset_old hq, hn, hn2, hnH, c1, c2, hnew, hk]
   ·simp [cxy] at hk
    simp (disch := first | assumption | omega | (simp [*] <;> omega) | fail) [-getElem?_pos, List.getElem?_cons_zero, List.getElem?_cons_succ, hi, hi2, hbx, sl, sx, sf, s0, s1, m1, m2, l1, w3, hq, hget_old hq, hset_old hq, hn, hn2, hnH, c1, c2, hnew, hk, cxy]
 ·rintro ⟨vs, G⟩ e
  have sl := (hs.app ((⟨1, vs⟩ : VO) :: G)).vlen0
  have hbx : (P ++ (⟨1, vs⟩ : VO) :: G)[i3]? = some ⟨0, [.int .i64 n, .int .i64 m, s]⟩ := by rw [List.getElem?_append_left b3]; exact hb
  dsimp only
  rw [floop_at i_zz51_B2.eq_1]
  generalize (P ++ (⟨1, vs⟩ : VO) :: G) = H at *
  clear e hs hb
  simp (disch := first | assumption | omega | (simp [*] <;> omega) | fail) [-getElem?_pos, List.getElem?_cons_zero, List.getElem?_cons_succ, sl, hbx]
 ·exact EI.nil _ _
 ·rintro a ⟨e, hf⟩
  rw [List.take_length] at e
  exact ⟨a, e, hf⟩
end
end

/- FnGroups, in parts: plain facts; one product. -/
section
open Go
open Classical
variable {nro : Nat}
def thenS : FC → FC
 | .seq (.seq _ (.cond _ a _)) _ => a
 | .seq _ (.cond _ a _) => a
 | c => c
end

/- FnGroups, in parts: one product, whole. -/
section
open Go
open Classical
variable {nro : Nat}
theorem cond_zero {call : VCall} (B : FC) (r t1 t2 : Nat) (e : FE) (K : VH) (hc : e r = .int .i64 0) :
  fcode call nro (.seq (.ops [⟨some t1, .mv (.tmp r), none, 0⟩, ⟨some t2, .bin .eql (.tmp t1) (.const (.int .i64 0)), none, 0⟩]) (.cond (.tmp t2) B .skip)) e K = fcode call nro B (fput (fput e (some t1) (.int .i64 0)) (some t2) (.bool true)) K := by
 simp (disch := first | assumption | omega | (simp [*] <;> omega) | fail) [hc]
theorem cond_non {call : VCall} (B : FC) (r t1 t2 : Nat) (e : FE) (K : VH) (c : Int) (hc : e r = .int .i64 c) (h0 : c ≠ 0) :
  fcode call nro (.seq (.ops [⟨some t1, .mv (.tmp r), none, 0⟩, ⟨some t2, .bin .eql (.tmp t1) (.const (.int .i64 0)), none, 0⟩]) (.cond (.tmp t2) B .skip)) e K = some (.normal, fput (fput e (some t1) (.int .i64 c)) (some t2) (.bool false), K) := by
 simp (disch := first | assumption | omega | (simp [*] <;> omega) | fail) [hc, h0]
end

/- FnLifts, in parts: the lift by both. -/
section
open Go
open Classical
variable {nro : Nat}
section
variable {cd : Value} {xs : List Int} {K : VH} (hs : Sl K cd (bys xs)) (hx : Code' xs) (hn : nro ≤ K.length)
include hs hx hn
theorem lifts_A1 (e : FE) (he : e 0 = cd) : ∃ (e' : FE) (n m : Int) (A : List Ar), A.length ≤ 17 ∧ fcode (vcall F nro) nro (takeS 0 (dropS 2 i_zz51.body)) e K = some (.normal, e', K ++ [⟨3, arcs A⟩, ⟨0, [.int .i64 n, .int .i64 m, sv K.length A]⟩]) ∧ e' 0 = cd ∧ e' 3 = .pointer (some ⟨K.length + 1, 0, some 3⟩) := by
 have hn' := fun k => Nat.le_trans hn (Nat.le_add_right K.length k)
 obtain ⟨n, m, A, hA, d1⟩ := c_zz24 (nro := nro) hs hx hn
 have hv : ∃ (e' : FE), fcode (vcall F nro) nro (takeS 0 (dropS 2 i_zz51.body)) e K = some (.normal, e', K ++ [⟨3, arcs A⟩, ⟨0, [.int .i64 n, .int .i64 m, sv K.length A]⟩]) ∧ e' 0 = cd ∧ e' 3 = .pointer (some ⟨K.length + 1, 0, some 3⟩) := by
  generalize arcs A = cs at *
  clear hs hx
  simp (disch := first | assumption | omega | (simp [*] <;> omega) | fail) [i_zz51, takeS, dropS, he, d1, hn, hn', splice]
 obtain ⟨e', h1, h2, h3⟩ := hv
 exact ⟨e', n, m, A, hA, h1, h2, h3⟩
end
section
variable {cd s : Value} {H : VH} {i3 : Nat} {n m : Int} {A : List Ar} (hb : H[i3]? = some ⟨0, [.int .i64 n, .int .i64 m, s]⟩) (hs : SlA H s A) (hA : A.length ≤ 17) (hn : nro ≤ H.length)
include hb hs hA hn
set_option maxHeartbeats 2000000 in
theorem lifts_A2 {N M K : Nat} (eN : n = N) (eM : m = M) (B : IsB N M A) (hK : K = N * M) (e : FE) (h0 : e 0 = cd) (h3 : e 3 = .pointer (some ⟨i3, 0, some 3⟩)) :
  ∃ e', fcode (vcall F nro) nro (takeS 4 (dropS 3 i_zz51.body)) e H = some (.normal, e', H ++ [⟨1, ints (liftR N M A)⟩, ⟨0, [.int .i64 K, .slice (some ⟨H.length, 0, none⟩) K K]⟩, ⟨1, ints (liftR N M A)⟩, ⟨0, [.int .i64 K, .slice (some ⟨H.length + 2, 0, none⟩) K K]⟩]) ∧
   e' 0 = cd ∧ e' 3 = .pointer (some ⟨i3, 0, some 3⟩) ∧ e' 4 = .pointer (some ⟨H.length + 1, 0, some 2⟩) ∧ e' 5 = .int .i64 0 ∧ e' 8 = .bool (decide (Faith M A)) := by
 subst eN eM
 have hn' := fun k => Nat.le_trans hn (Nat.le_add_right H.length k)
 have ea : liftAns N M A = .inl ((K : Int), liftR N M A) := by unfold liftAns; rw [if_pos B, Int.toNat_natCast, Int.toNat_natCast, hK]
 have ef : faA N M A = (decide (Faith M A), 0) := by
  unfold faA
  rw [if_pos B, Int.toNat_natCast]
 have hRl := (liftR_is B hK).1
 have c1 := c_zz63 (nro := nro) hs (n := N) (m := M) (by omega) hn
 have c2 := fun L => c_zz65 (nro := nro) (hs.app L) (n := N) (m := M) (by omega) (by simp; omega)
 have c3 := fun L => c_zz21 (nro := nro) (hs.app L) (n := N) (m := M) (by omega) (by simp; omega)
 have c4 := fun L => c_zz25 (nro := nro) (hs.app L) (n := N) (m := M) (by omega) (by simp; omega)
 have c5 := fun L => c_zz62 (nro := nro) N M s A (H ++ L) (hs.app L) (by omega)
 have c6 := fun L => c_zz64 (nro := nro) N M s A (H ++ L) (hs.app L) (by omega) (by simp; omega)
 rw [ea] at c1 c2
 simp only [ef] at c3 c4
 rw [decide_eq_true B] at c5 c6
 simp only [gres] at c1 c2
 have k1 := sli_at (h := H ++ [⟨1, ints (liftR N M A)⟩, ⟨0, [.int .i64 K, .slice (some ⟨H.length, 0, none⟩) K K]⟩, ⟨1, ints (liftR N M A)⟩, ⟨0, [.int .i64 K, .slice (some ⟨H.length + 2, 0, none⟩) K K]⟩]) (b := H.length) (xs := liftR N M A) (by simp)
 have k2 := sli_at (h := H ++ [⟨1, ints (liftR N M A)⟩, ⟨0, [.int .i64 K, .slice (some ⟨H.length, 0, none⟩) K K]⟩, ⟨1, ints (liftR N M A)⟩, ⟨0, [.int .i64 K, .slice (some ⟨H.length + 2, 0, none⟩) K K]⟩]) (b := H.length + 2) (xs := liftR N M A) (by simp)
 have nm := B.nm
 have e0 : (N : Int) * M = ((N * M : Nat) : Int) := by rw [Int.natCast_mul]
 have hK62 : K ≤ 62 := by omega
 have c7 := c_zz52 (nro := nro) K K _ _ _ _ _ k1 k2 (by omega)
 rw [decide_eq_true ⟨rfl, rfl⟩] at c7
 have b3 := (List.getElem?_eq_some_iff.mp hb).1
 have hb' : ∀ L : VH, (H ++ L)[i3]? = some ⟨0, [.int .i64 N, .int .i64 M, s]⟩ := fun L => by rw [List.getElem?_append_left b3]; exact hb
 rw [hRl] at c1 c2 c7
 generalize decide (Faith M A) = fb at *
 obtain ⟨R, hR⟩ : ∃ R, R = liftR N M A := ⟨_, rfl⟩
 rw [← hR] at c1 c2 c7 ⊢
 have c2' := c2 [⟨1, ints R⟩, ⟨0, [.int .i64 K, .slice (some ⟨H.length, 0, none⟩) K K]⟩]
 simp at c2'
 have hnj := hs.nj
 clear c2 hR k1 k2 hRl B hs ea ef nm e0 hK
 cases fb <;> simp (disch := first | assumption | omega | (simp [*] <;> omega) | fail) [-getElem?_pos, List.getElem?_cons_zero, List.getElem?_cons_succ, i_zz51, takeS, dropS, h0, h3, hb, hb', c1, c2', c3, c4, c5, c6, c7, hn, hn', splice]
set_option maxHeartbeats 2000000 in
theorem lifts_A3 (B : ¬ IsB n m A) (e : FE) (h0 : e 0 = cd) (h3 : e 3 = .pointer (some ⟨i3, 0, some 3⟩)) :
  ∃ e', fcode (vcall F nro) nro (takeS 4 (dropS 3 i_zz51.body)) e H = some (.normal, e', H ++ [⟨0, [.int .i64 0, .slice none 0 0]⟩, ⟨0, [.int .i64 0, .slice none 0 0]⟩]) ∧ e' 0 = cd ∧ e' 5 = .int .i64 1 := by
 have hn' := fun k => Nat.le_trans hn (Nat.le_add_right H.length k)
 have ea : liftAns n m A = .inr 1 := by unfold liftAns; rw [if_neg B]
 have ef : faA n m A = (false, 1) := by unfold faA; rw [if_neg B]
 have c1 := c_zz63 (nro := nro) hs (n := n) (m := m) (by omega) hn
 have c2 := fun L => c_zz65 (nro := nro) (hs.app L) (n := n) (m := m) (by omega) (by simp; omega)
 have c3 := fun L => c_zz21 (nro := nro) (hs.app L) (n := n) (m := m) (by omega) (by simp; omega)
 have c4 := fun L => c_zz25 (nro := nro) (hs.app L) (n := n) (m := m) (by omega) (by simp; omega)
 have c5 := fun L => c_zz62 (nro := nro) n m s A (H ++ L) (hs.app L) (by omega)
 have c6 := fun L => c_zz64 (nro := nro) n m s A (H ++ L) (hs.app L) (by omega) (by simp; omega)
 rw [ea] at c1 c2
 simp only [ef] at c3 c4
 rw [decide_eq_false B] at c5 c6
 simp only [gres] at c1 c2
 have c7 := c_zz52 (nro := nro) 0 0 (.slice none 0 0) (.slice none 0 0) [] [] (H ++ [⟨0, [.int .i64 0, .slice none 0 0]⟩, ⟨0, [.int .i64 0, .slice none 0 0]⟩]) (by simp [Sli, Sl, vsrc, ints]) (by simp [Sli, Sl, vsrc, ints]) (by simp)
 rw [decide_eq_true ⟨rfl, rfl⟩] at c7
 have b3 := (List.getElem?_eq_some_iff.mp hb).1
 have hb' : ∀ L : VH, (H ++ L)[i3]? = some ⟨0, [.int .i64 n, .int .i64 m, s]⟩ := fun L => by rw [List.getElem?_append_left b3]; exact hb
 have hnj := hs.nj
 clear B hs ea ef
 simp (disch := first | assumption | omega | (simp [*] <;> omega) | fail) [-getElem?_pos, List.getElem?_cons_zero, List.getElem?_cons_succ, i_zz51, takeS, dropS, h0, h3, hb, hb', c1, c2, c3, c4, c5, c6, c7, hn, hn', splice]
end
end

/- FnLifts, in parts: edges, parts and covers of the lift. -/
section
open Go
open Classical
variable {nro : Nat}
abbrev lBlk : FC := thenS (takeS 0 (dropS 8 i_zz51.body))
abbrev lX : FC := thenS (dropS 5 lBlk)
abbrev lY : FC := thenS (dropS 5 lX)
section
variable {cd s sl : Value} {H : VH} {i3 i4 : Nat} {A : List Ar} {N M K : Nat} (hb : H[i3]? = some ⟨0, [.int .i64 N, .int .i64 M, s]⟩) (h4 : H[i4]? = some ⟨0, [.int .i64 K, sl]⟩) (hs : SlA H s A) (hA : A.length ≤ 17) (hn : nro ≤ H.length) (B : IsB N M A) (hK : K = N * M) (hR : Sli H sl (liftR N M A))
include hb h4 hs hA hn B hK hR
set_option maxHeartbeats 4000000 in
theorem lifts_B1 (e : FE) (h0 : e 0 = cd) (h3 : e 3 = .pointer (some ⟨i3, 0, some 3⟩)) (he4 : e 4 = .pointer (some ⟨i4, 0, some 2⟩)) (h8 : e 8 = .bool (decide (Faith M A))) :
  ∃ e' L c18, fcode (vcall F nro) nro (takeS 4 lBlk) e H = some (.normal, e', H ++ L) ∧ e' 0 = cd ∧ e' 3 = .pointer (some ⟨i3, 0, some 3⟩) ∧ e' 4 = .pointer (some ⟨i4, 0, some 2⟩) ∧ e' 8 = .bool (decide (Faith M A)) ∧ e' 18 = c18 ∧ Sli (H ++ L) c18 (covL N M) := by
 have hn' := fun k => Nat.le_trans hn (Nat.le_add_right H.length k)
 have g := lift_gv B hK
 have hF := faith_iff B hK
 have nm := B.nm
 have len := B.len
 have m2 := B.m2
 have e0 : (N : Int) * M = ((N * M : Nat) : Int) := by rw [Int.natCast_mul]
 have hK62 : K ≤ 62 := by omega
 obtain ⟨v1, M1, c1, s1⟩ := c_zz45 (nro := nro) K sl _ H hR hn g
 have c2 := c_zz29 (nro := nro) (hs.app M1) (n := N) (m := M) (by omega) (by simp; omega)
 obtain ⟨v3, M3, c3, s3⟩ := c_zz50 (nro := nro) K sl _ (H ++ M1) (hR.app M1) (by simp; omega) g
 have c4 := c_zz13 (nro := nro) ((hs.app M1).app M3) (n := N) (m := M) (by omega) (by simp; omega)
 rw [if_pos B, Int.toNat_natCast, Int.toNat_natCast] at c4
 have elp : lpA N M A = ((lc (liftR N M A) K : Int), 0) := by
  unfold lpA
  rw [if_pos B, Int.toNat_natCast, Int.toNat_natCast, hK]
 rw [elp] at c2
 have ln1 := (((s1.ll).app M3).app [⟨1, ints (covL N M)⟩]).len
 have ln3 := ((s3.ll).app [⟨1, ints (covL N M)⟩]).len
 rw [parts_lc g] at ln3
 have hc := sli_at (h := H ++ M1 ++ M3 ++ [⟨1, ints (covL N M)⟩]) (b := (H ++ M1 ++ M3).length) (xs := covL N M) (by simp)
 rw [covL_len, ← hK] at hc
 rw [← hK] at c4
 have b3 := (List.getElem?_eq_some_iff.mp hb).1
 have hb' : ∀ L : VH, (H ++ L)[i3]? = some ⟨0, [.int .i64 N, .int .i64 M, s]⟩ := fun L => by rw [List.getElem?_append_left b3]; exact hb
 have b4 := (List.getElem?_eq_some_iff.mp h4).1
 have h4' : ∀ L : VH, (H ++ L)[i4]? = some ⟨0, [.int .i64 K, sl]⟩ := fun L => by rw [List.getElem?_append_left b4]; exact h4
 obtain ⟨Z, hZ⟩ : ∃ Z, Z = M * A.length := ⟨_, rfl⟩
 have hZ2 : Z ≤ 62 * 17 := by rw [hZ]; exact Nat.mul_le_mul (by omega) hA
 have w1 : IntKind.i64.wrap ((M : Int) * A.length) = (Z : Int) := by rw [← Int.natCast_mul, ← hZ]; exact wrap64 (by omega) (by omega)
 have sL := fun L => (hs.app L).vlen0
 rw [Nat.mul_comm, ← hZ] at hF
 generalize lc (liftR N M A) K = lcn at *
 generalize (edgesF (liftR N M A) K 0).length = el at *
 have hv : ∃ e', fcode (vcall F nro) nro (takeS 4 lBlk) e H = some (.normal, e', H ++ (M1 ++ (M3 ++ [⟨1, ints (covL N M)⟩]))) ∧ e' 0 = cd ∧ e' 3 = .pointer (some ⟨i3, 0, some 3⟩) ∧ e' 4 = .pointer (some ⟨i4, 0, some 2⟩) ∧ e' 8 = .bool (decide (Faith M A)) ∧ e' 18 = .slice (some ⟨(H ++ M1 ++ M3).length, 0, none⟩) K K := by
  obtain ⟨ck, hck⟩ : ∃ ck, ck = ints (covL N M) := ⟨_, rfl⟩
  have hckl : ck.length = K := by rw [hck, ints_length, covL_len, hK]
  rw [← hck] at ln1 ln3 c4 ⊢
  simp only [List.append_assoc] at c3 c4 ln1 ln3
  simp only [List.length_append] at c4 ⊢
  have hnj := hs.nj
  clear hs hR s1 s3 hc g B elp hck hK nm e0 hZ
  by_cases F0 : Faith M A
  ·have hel := hF.mp F0
   subst hel
   rw [decide_eq_true F0] at h8 ⊢
   clear hF F0
   simp (disch := first | assumption | omega | (simp [*] <;> omega) | fail) [-getElem?_pos, List.getElem?_cons_zero, List.getElem?_cons_succ, lBlk, i_zz51, takeS, dropS, thenS, h0, h3, he4, h8, hb, hb', h4, h4', c1, c2, c3, c4, ln1, ln3, sL, w1, hckl]
  ·have hel : ¬ el = Z := fun h => F0 (hF.mpr h)
   have hel2 : ¬ (el : Int) = Z := by omega
   rw [decide_eq_false F0] at h8 ⊢
   clear hF F0
   simp (disch := first | assumption | omega | (simp [*] <;> omega) | fail) [-getElem?_pos, List.getElem?_cons_zero, List.getElem?_cons_succ, lBlk, i_zz51, takeS, dropS, thenS, h0, h3, he4, h8, hb, hb', h4, h4', c1, c2, c3, c4, ln1, ln3, sL, w1, hckl, hel, hel2]
 obtain ⟨e', q1, q2, q3, q4, q5, q6⟩ := hv
 refine ⟨e', _, _, q1, q2, q3, q4, q5, q6, ?_⟩
 simp only [List.append_assoc, List.length_append] at hc ⊢
 exact hc
end
end

/- FnLifts, in parts: girths and covers of faithful lifts. -/
section
open Go
open Classical
variable {nro : Nat}
theorem cond_tt {call : VCall} (B : FC) (r t1 : Nat) (e : FE) (K : VH) (hc : e r = .bool true) :
  fcode call nro (.seq (.ops [⟨some t1, .mv (.tmp r), none, 0⟩]) (.cond (.tmp t1) B .skip)) e K = fcode call nro B (fput e (some t1) (.bool true)) K := by
 simp (disch := first | assumption | omega | (simp [*] <;> omega) | fail) [hc]
theorem cond_ff {call : VCall} (B : FC) (r t1 : Nat) (e : FE) (K : VH) (hc : e r = .bool false) :
  fcode call nro (.seq (.ops [⟨some t1, .mv (.tmp r), none, 0⟩]) (.cond (.tmp t1) B .skip)) e K = some (.normal, fput e (some t1) (.bool false), K) := by
 simp (disch := first | assumption | omega | (simp [*] <;> omega) | fail) [hc]
theorem bse_ok {N M : Nat} {A : List Ar} (B : IsB N M A) (hP : Pln A) : ∀ x ∈ A.map bse, okE N x := by
 intro x hx
 obtain ⟨a, ha, rfl⟩ := List.mem_map.mp hx
 obtain ⟨o1, o2, o3, o4, _⟩ := B.ok a ha
 have hne := hP.1 a ha
 obtain ⟨f, hf⟩ : ∃ f : Nat, a.f = f := ⟨a.f.toNat, by omega⟩
 obtain ⟨t, ht⟩ : ∃ t : Nat, a.t = t := ⟨a.t.toNat, by omega⟩
 rw [hf] at o1 o2 hne
 rw [ht] at o3 o4 hne
 unfold bse
 rw [hf, ht]
 by_cases c : (f : Int) ≤ t
 ·exact ⟨f, t, by rw [if_pos c, if_pos c], by omega, by omega, by omega⟩
 ·exact ⟨t, f, by rw [if_neg c, if_neg c], by omega, by omega, by omega⟩
section
variable {cd s sl c18 : Value} {H : VH} {i3 i4 : Nat} {A : List Ar} {N M K : Nat} (hb : H[i3]? = some ⟨0, [.int .i64 N, .int .i64 M, s]⟩) (h4 : H[i4]? = some ⟨0, [.int .i64 K, sl]⟩) (hs : SlA H s A) (hA : A.length ≤ 17) (hn : nro ≤ H.length) (B : IsB N M A) (hK : K = N * M) (hR : Sli H sl (liftR N M A)) (h18 : Sli H c18 (covL N M)) (hF : Faith M A)
include hb h4 hs hA hn B hK hR hF
set_option maxHeartbeats 2000000 in
theorem lifts_B2 (e : FE) (h0 : e 0 = cd) (h3 : e 3 = .pointer (some ⟨i3, 0, some 3⟩)) (he4 : e 4 = .pointer (some ⟨i4, 0, some 2⟩)) (he18 : e 18 = c18) :
  ∃ e', fcode (vcall F nro) nro (takeS 3 lX) e H = some (.normal, e', H ++ [⟨1, []⟩]) ∧ e' 0 = cd ∧ e' 3 = .pointer (some ⟨i3, 0, some 3⟩) ∧ e' 4 = .pointer (some ⟨i4, 0, some 2⟩) ∧ e' 18 = c18 ∧ e' 24 = .bool true ∧ e' 25 = .slice (some ⟨H.length, 0, none⟩) 0 0 := by
 have hn' := fun k => Nat.le_trans hn (Nat.le_add_right H.length k)
 have g := lift_gv B hK
 have c1 := c_zz30 (nro := nro) (n := N) (m := M) H hs (by omega) hn
 have c2 := c_zz46 (nro := nro) K sl _ H hR hn
 have hw := walk_gir B hK hF
 have ew : wgA N M A = if 14 < wgF M A 0 15 then (0, 4) else ((wgF M A 0 15 : Int), 0) := by
  unfold wgA
  rw [if_pos B, Int.toNat_natCast]
 have eg : giA K (liftR N M A) = if girF (liftR N M A) K 0 0 = 0 then (0, 4) else (girF (liftR N M A) K 0 0, 0) := by
  unfold giA
  rw [if_neg (fun h => h g), Int.toNat_natCast]
 rw [ew] at c1
 rw [eg] at c2
 generalize girF (liftR N M A) K 0 0 = x at *
 generalize wgF M A 0 15 = w at *
 have hnj := hs.nj
 clear ew eg hs hR B g hF hK
 by_cases c : 14 < w
 ·rw [if_pos c] at c1
  rcases hw.2 c with z | z
  ·rw [if_pos z] at c2
   clear hw c z
   simp (disch := first | assumption | omega | (simp [*] <;> omega) | fail) [-getElem?_pos, List.getElem?_cons_zero, List.getElem?_cons_succ, lX, lBlk, i_zz51, takeS, dropS, thenS, h0, h3, he4, he18, hb, h4, c1, c2, hn, hn']
  ·have z1 : ¬ x = 0 := by omega
   have z2 : ¬ x ≤ 14 := by omega
   rw [if_neg z1] at c2
   clear hw c
   simp (disch := first | assumption | omega | (simp [*] <;> omega) | fail) [-getElem?_pos, List.getElem?_cons_zero, List.getElem?_cons_succ, lX, lBlk, i_zz51, takeS, dropS, thenS, h0, h3, he4, he18, hb, h4, c1, c2, z2, hn, hn']
 ·rw [if_neg c] at c1
  obtain ⟨z1, z2⟩ := hw.1 (by omega)
  have z3 : ¬ x = 0 := by omega
  rw [if_neg z3] at c2
  rw [z1] at c2
  clear hw c z1 z2 z3
  simp (disch := first | assumption | omega | (simp [*] <;> omega) | fail) [-getElem?_pos, List.getElem?_cons_zero, List.getElem?_cons_succ, lX, lBlk, i_zz51, takeS, dropS, thenS, h0, h3, he4, he18, hb, h4, c1, c2, hn, hn']
include h18
set_option maxHeartbeats 2000000 in
theorem lifts_B3 (hcd : Old H.length cd) (e : FE) (h0 : e 0 = cd) (h3 : e 3 = .pointer (some ⟨i3, 0, some 3⟩)) (he4 : e 4 = .pointer (some ⟨i4, 0, some 2⟩)) (he18 : e 18 = c18) (h24 : e 24 = .bool true) (h25 : e 25 = .slice (some ⟨H.length, 0, none⟩) 0 0) :
  ∃ e' L q, fcode (vcall F nro) nro (takeS 0 (dropS 4 lX)) e (H ++ [⟨1, []⟩]) = some (.normal, e', H ++ L) ∧ e' 0 = cd ∧ e' 3 = .pointer (some ⟨i3, 0, some 3⟩) ∧ e' 4 = .pointer (some ⟨i4, 0, some 2⟩) ∧ e' 18 = c18 ∧ e' 24 = .bool (decide (Pln A)) ∧ e' 25 = q ∧ LL (H ++ L) q (A.map bse) := by
 have hn' := fun k => Nat.le_trans hn (Nat.le_add_right H.length k)
 have b4 := (List.getElem?_eq_some_iff.mp h4).1
 have o4 : Old H.length (.pointer (some ⟨i4, 0, some 2⟩)) := by intro r hr; simp [trefs, vrefs, crefs, arefs] at hr; omega
 obtain ⟨⟨vs, G⟩, e1, l1⟩ := l_lifts_B2 (nro := nro) (p4 := .pointer (some ⟨i4, 0, some 2⟩)) (c18 := c18) hb hs hA hcd o4 h18.old hn
 have ef : flg A A.length = decide (Pln A) := by
  rw [Bool.eq_iff_iff, flg_all, decide_eq_true_iff]
 rw [ef] at l1
 dsimp only at e1 l1
 have hll := e1.ll
 have hv : ∃ e', fcode (vcall F nro) nro (takeS 0 (dropS 4 lX)) e (H ++ [⟨1, []⟩]) = some (.normal, e', H ++ ⟨1, vs⟩ :: G) ∧ e' 0 = cd ∧ e' 3 = .pointer (some ⟨i3, 0, some 3⟩) ∧ e' 4 = .pointer (some ⟨i4, 0, some 2⟩) ∧ e' 18 = c18 ∧ e' 24 = .bool (decide (Pln A)) ∧ e' 25 = .slice (some ⟨H.length, 0, none⟩) vs.length vs.length := by
  generalize decide (Pln A) = b at *
  generalize vs.length = k at *
  generalize hQ : H ++ (⟨1, vs⟩ : VO) :: G = Q at *
  generalize hQ2 : H ++ [(⟨1, []⟩ : VO)] = Q2 at *
  clear hs hR hF B hK h18 ef e1 hll hQ hQ2
  simp (disch := first | assumption | omega | (simp [*] <;> omega) | fail) [-getElem?_pos, List.getElem?_cons_zero, List.getElem?_cons_succ, lX, lBlk, i_zz51, takeS, dropS, thenS, h0, h3, he4, he18, h24, h25, l1]
 obtain ⟨e', q1, q2, q3, q4, q5, q6, q7⟩ := hv
 exact ⟨e', _, _, q1, q2, q3, q4, q5, q6, q7, hll⟩
set_option maxHeartbeats 2000000 in
theorem lifts_B4 (hP : Pln A) {q : Value} (hq : LL H q (A.map bse)) (e : FE) (h0 : e 0 = cd) (h3 : e 3 = .pointer (some ⟨i3, 0, some 3⟩)) (he4 : e 4 = .pointer (some ⟨i4, 0, some 2⟩)) (he18 : e 18 = c18) (h25 : e 25 = q) :
  ∃ e' L, fcode (vcall F nro) nro lY e H = some (.normal, e', H ++ L) ∧ e' 0 = cd := by
 have hn' := fun k => Nat.le_trans hn (Nat.le_add_right H.length k)
 have n1 := B.n1
 have n2 := B.n2
 have nm := B.nm
 have e0 : (N : Int) * M = ((N * M : Nat) : Int) := by rw [Int.natCast_mul]
 have c1 := c_zz47 (nro := nro) hq hn (n := N) (by omega) (by omega) (by simp; omega) (bse_ok B hP)
 obtain ⟨X, hX⟩ : ∃ X, X = adjRows N (adjB (A.map bse)) := ⟨_, rfl⟩
 have hXl : X.length = N := by rw [hX]; exact (base_is B).1
 rw [← hX] at c1
 have s1 := sli_at (h := H ++ [⟨1, ints X⟩, ⟨0, [.int .i64 N, .slice (some ⟨H.length, 0, none⟩) N N]⟩]) (b := H.length) (xs := X) (by simp)
 rw [hXl] at s1
 have c2 := c_zz48 (nro := nro) K N sl _ c18 _ X _ _ (hR.app _) s1 (h18.app _) (by rw [covL_len]; omega) (by simp; omega)
 rw [hX, cov_law B hK hF hP] at c2
 rw [← hX] at c2
 have b3 := (List.getElem?_eq_some_iff.mp hb).1
 have hb' : ∀ L : VH, (H ++ L)[i3]? = some ⟨0, [.int .i64 N, .int .i64 M, s]⟩ := fun L => by rw [List.getElem?_append_left b3]; exact hb
 have b4 := (List.getElem?_eq_some_iff.mp h4).1
 have h4' : ∀ L : VH, (H ++ L)[i4]? = some ⟨0, [.int .i64 K, sl]⟩ := fun L => by rw [List.getElem?_append_left b4]; exact h4
 have hnj := hs.nj
 have hv : ∃ e', fcode (vcall F nro) nro lY e H = some (.normal, e', H ++ [⟨1, ints X⟩, ⟨0, [.int .i64 N, .slice (some ⟨H.length, 0, none⟩) N N]⟩]) ∧ e' 0 = cd := by
  clear hs hR hF B hK h18 hP hX s1 hq n1 n2 nm e0
  simp (disch := first | assumption | omega | (simp [*] <;> omega) | fail) [-getElem?_pos, List.getElem?_cons_zero, List.getElem?_cons_succ, lY, lX, lBlk, i_zz51, takeS, dropS, thenS, h0, h3, he4, he18, h25, hb, hb', h4, h4', c1, c2, hn, hn', splice]
 obtain ⟨e', q1, q2⟩ := hv
 exact ⟨e', _, q1, q2⟩
end
end

/- FnLifts, in parts: the block, the draws. -/
section
open Go
open Classical
variable {nro : Nat}
section
variable {cd s sl : Value} {H : VH} {i3 i4 : Nat} {A : List Ar} {N M K : Nat} (hb : H[i3]? = some ⟨0, [.int .i64 N, .int .i64 M, s]⟩) (h4 : H[i4]? = some ⟨0, [.int .i64 K, sl]⟩) (hs : SlA H s A) (hA : A.length ≤ 17) (hn : nro ≤ H.length) (B : IsB N M A) (hK : K = N * M) (hR : Sli H sl (liftR N M A))
include hb h4 hs hA hn B hK hR
theorem lifts_B (hcd : Old H.length cd) (e : FE) (h0 : e 0 = cd) (h3 : e 3 = .pointer (some ⟨i3, 0, some 3⟩)) (he4 : e 4 = .pointer (some ⟨i4, 0, some 2⟩)) (h5 : e 5 = .int .i64 0) (h8 : e 8 = .bool (decide (Faith M A))) :
  ∃ e' L, fcode (vcall F nro) nro (takeS 0 (dropS 8 i_zz51.body)) e H = some (.normal, e', H ++ L) ∧ e' 0 = cd := by
 have b3 := (List.getElem?_eq_some_iff.mp hb).1
 have hb' : ∀ L : VH, (H ++ L)[i3]? = some ⟨0, [.int .i64 N, .int .i64 M, s]⟩ := fun L => by rw [List.getElem?_append_left b3]; exact hb
 have b4 := (List.getElem?_eq_some_iff.mp h4).1
 have h4' : ∀ L : VH, (H ++ L)[i4]? = some ⟨0, [.int .i64 K, sl]⟩ := fun L => by rw [List.getElem?_append_left b4]; exact h4
 have hn' : ∀ L : VH, nro ≤ (H ++ L).length := fun L => by simp; omega
 have t0 : takeS 0 (dropS 8 i_zz51.body) = .seq (.ops [⟨some 106, .mv (.tmp 5), none, 0⟩, ⟨some 107, .bin .eql (.tmp 106) (.const (.int .i64 0)), none, 0⟩]) (.cond (.tmp 107) lBlk .skip) := rfl
 rw [t0, cond_zero _ _ _ _ _ _ h5]
 obtain ⟨e1, he1⟩ : ∃ e1, e1 = fput (fput e (some 106) (.int .i64 0)) (some 107) (.bool true) := ⟨_, rfl⟩
 rw [← he1]
 obtain ⟨e2, L1, c18, p1, p2, p3, p4, p5, p6, p7⟩ := lifts_B1 (nro := nro) (cd := cd) hb h4 hs hA hn B hK hR e1 (by rw [he1]; simpa using h0) (by rw [he1]; simpa using h3) (by rw [he1]; simpa using he4) (by rw [he1]; simpa using h8)
 rw [fcode_parts (vcall F nro) nro 4 lBlk _ _ (by decide), p1, kseq_normal]
 have t1 : dropS (4 + 1) lBlk = .seq (.ops [⟨some 168, .mv (.tmp 8), none, 0⟩]) (.cond (.tmp 168) lX .skip) := rfl
 rw [t1]
 by_cases hF : Faith M A
 ·rw [decide_eq_true hF] at p5
  rw [cond_tt _ _ _ _ _ p5]
  obtain ⟨e3, he3⟩ : ∃ e3, e3 = fput e2 (some 168) (.bool true) := ⟨_, rfl⟩
  rw [← he3]
  obtain ⟨e4, q1, q2, q3, q4, q5, q6, q7⟩ := lifts_B2 (nro := nro) (cd := cd) (c18 := c18) (hb' L1) (h4' L1) (hs.app L1) hA (hn' L1) B hK (hR.app L1) hF e3 (by rw [he3]; simpa using p2) (by rw [he3]; simpa using p3) (by rw [he3]; simpa using p4) (by rw [he3]; simpa using p6)
  rw [fcode_parts (vcall F nro) nro 3 lX _ _ (by decide), q1, kseq_normal]
  have t2 : dropS (3 + 1) lX = dropS 4 lX := rfl
  rw [t2, fcode_parts (vcall F nro) nro 0 (dropS 4 lX) _ _ (by decide)]
  obtain ⟨e5, L2, q, r1, r2, r3, r4, r5, r6, r7, r8⟩ := lifts_B3 (nro := nro) (cd := cd) (c18 := c18) (hb' L1) (h4' L1) (hs.app L1) hA (hn' L1) B hK (hR.app L1) p7 hF (hcd.le (by simp)) e4 q2 q3 q4 q5 q6 q7
  rw [r1, kseq_normal]
  have t3 : dropS (0 + 1) (dropS 4 lX) = .seq (.ops [⟨some 275, .mv (.tmp 24), none, 0⟩]) (.cond (.tmp 275) lY .skip) := rfl
  rw [t3]
  by_cases hP : Pln A
  ·rw [decide_eq_true hP] at r6
   rw [cond_tt _ _ _ _ _ r6]
   obtain ⟨e6, he6⟩ : ∃ e6, e6 = fput e5 (some 275) (.bool true) := ⟨_, rfl⟩
   rw [← he6]
   have hb2 := hb' (L1 ++ L2)
   have h42 := h4' (L1 ++ L2)
   have hn2 := hn' (L1 ++ L2)
   rw [← List.append_assoc] at hb2 h42 hn2
   obtain ⟨e7, L3, s1, s2⟩ := lifts_B4 (nro := nro) (cd := cd) (c18 := c18) hb2 h42 ((hs.app L1).app L2) hA hn2 B hK ((hR.app L1).app L2) (p7.app L2) hF hP r8 e6 (by rw [he6]; simpa using r2) (by rw [he6]; simpa using r3) (by rw [he6]; simpa using r4) (by rw [he6]; simpa using r5) (by rw [he6]; simpa using r7)
   exact ⟨e7, _, by rw [s1, List.append_assoc, List.append_assoc], s2⟩
  ·rw [decide_eq_false hP] at r6
   rw [cond_ff _ _ _ _ _ r6]
   exact ⟨_, _, by rw [List.append_assoc], by simpa using r2⟩
 ·rw [decide_eq_false hF] at p5
  rw [cond_ff _ _ _ _ _ p5]
  exact ⟨_, _, rfl, by simpa using p2⟩
end
theorem slA_at {h : VH} {b : Nat} {A : List Ar} (hb : h[b]? = some ⟨3, arcs A⟩) : SlA h (sv b A) A := ⟨b, rfl, hb⟩
section
variable {cd : Value} {xs : List Int} {K : VH} (hs : Sl K cd (bys xs)) (hx : Code' xs) (hn : nro ≤ K.length)
include hs hx hn
theorem lifts_A (e : FE) (he : e 0 = cd) : ∃ e' L, fcode (vcall F nro) nro (takeS 6 (dropS 2 i_zz51.body)) e K = some (.normal, e', K ++ L) ∧ e' 0 = cd := by
 obtain ⟨e1, n, m, A, hA, p1, p2, p3⟩ := lifts_A1 (nro := nro) hs hx hn e he
 rw [fcode_parts (vcall F nro) nro 0 (takeS 6 (dropS 2 i_zz51.body)) _ _ (by decide)]
 have t1 : takeS 0 (takeS 6 (dropS 2 i_zz51.body)) = takeS 0 (dropS 2 i_zz51.body) := rfl
 have t2 : dropS (0 + 1) (takeS 6 (dropS 2 i_zz51.body)) = takeS 5 (dropS 3 i_zz51.body) := rfl
 rw [t1, t2, p1, kseq_normal, fcode_parts (vcall F nro) nro 4 (takeS 5 (dropS 3 i_zz51.body)) _ _ (by decide)]
 have t3 : takeS 4 (takeS 5 (dropS 3 i_zz51.body)) = takeS 4 (dropS 3 i_zz51.body) := rfl
 have t4 : dropS (4 + 1) (takeS 5 (dropS 3 i_zz51.body)) = takeS 0 (dropS 8 i_zz51.body) := rfl
 rw [t3, t4]
 have sA : SlA (K ++ [⟨3, arcs A⟩, ⟨0, [.int .i64 n, .int .i64 m, sv K.length A]⟩]) (sv K.length A) A := slA_at (by simp)
 have hb : (K ++ [(⟨3, arcs A⟩ : VO), ⟨0, [.int .i64 n, .int .i64 m, sv K.length A]⟩])[K.length + 1]? = some ⟨0, [.int .i64 n, .int .i64 m, sv K.length A]⟩ := by simp
 have hK1 : nro ≤ (K ++ [(⟨3, arcs A⟩ : VO), ⟨0, [.int .i64 n, .int .i64 m, sv K.length A]⟩]).length := by simp; omega
 have oc : Old (K ++ [(⟨3, arcs A⟩ : VO), ⟨0, [.int .i64 n, .int .i64 m, sv K.length A]⟩]).length cd := hs.old.le (by simp)
 by_cases B : IsB n m A
 ·have n1 := B.n1
  have m1 := B.m1
  obtain ⟨N, rfl⟩ : ∃ N : Nat, n = N := ⟨n.toNat, by omega⟩
  obtain ⟨M, rfl⟩ : ∃ M : Nat, m = M := ⟨m.toNat, by omega⟩
  obtain ⟨Q, hQ⟩ : ∃ Q, Q = K ++ [(⟨3, arcs A⟩ : VO), ⟨0, [.int .i64 N, .int .i64 M, sv K.length A]⟩] := ⟨_, rfl⟩
  rw [← hQ] at sA hb hK1 oc ⊢
  obtain ⟨e2, q1, q2, q3, q4, q5, q6⟩ := lifts_A2 (nro := nro) (cd := cd) hb sA hA hK1 rfl rfl B (K := N * M) rfl e1 p2 p3
  rw [q1, kseq_normal]
  have hRl := (liftR_is B (K := N * M) rfl).1
  have sR := sli_at (h := Q ++ [⟨1, ints (liftR N M A)⟩, ⟨0, [.int .i64 (N * M : Nat), .slice (some ⟨Q.length, 0, none⟩) (N * M) (N * M)]⟩, ⟨1, ints (liftR N M A)⟩, ⟨0, [.int .i64 (N * M : Nat), .slice (some ⟨Q.length + 2, 0, none⟩) (N * M) (N * M)]⟩]) (b := Q.length) (xs := liftR N M A) (by simp)
  rw [hRl] at sR
  have b3 := (List.getElem?_eq_some_iff.mp hb).1
  obtain ⟨e3, L, r1, r2⟩ := lifts_B (nro := nro) (cd := cd) (H := Q ++ [⟨1, ints (liftR N M A)⟩, ⟨0, [.int .i64 (N * M : Nat), .slice (some ⟨Q.length, 0, none⟩) (N * M) (N * M)]⟩, ⟨1, ints (liftR N M A)⟩, ⟨0, [.int .i64 (N * M : Nat), .slice (some ⟨Q.length + 2, 0, none⟩) (N * M) (N * M)]⟩])
   (i3 := K.length + 1) (i4 := Q.length + 1) (by rw [List.getElem?_append_left b3]; exact hb) (by simp) (sA.app _) hA (by simp; omega) B rfl sR (oc.le (by simp)) e2 q2 q3 q4 q5 q6
  exact ⟨e3, _, by rw [r1, hQ, List.append_assoc, List.append_assoc], r2⟩
 ·obtain ⟨Q, hQ⟩ : ∃ Q, Q = K ++ [(⟨3, arcs A⟩ : VO), ⟨0, [.int .i64 n, .int .i64 m, sv K.length A]⟩] := ⟨_, rfl⟩
  rw [← hQ] at sA hb hK1 oc ⊢
  obtain ⟨e2, q1, q2, q3⟩ := lifts_A3 (nro := nro) (cd := cd) hb sA hA hK1 B e1 p2 p3
  rw [q1, kseq_normal]
  have t0 : takeS 0 (dropS 8 i_zz51.body) = .seq (.ops [⟨some 106, .mv (.tmp 5), none, 0⟩, ⟨some 107, .bin .eql (.tmp 106) (.const (.int .i64 0)), none, 0⟩]) (.cond (.tmp 107) lBlk .skip) := rfl
  rw [t0, cond_non _ _ _ _ _ _ _ q3 (by decide)]
  exact ⟨_, _, by rw [hQ, List.append_assoc], by simpa using q2⟩
set_option maxHeartbeats 4000000 in
theorem lifts_C (e : FE) (he : e 0 = cd) : ∃ (e' : FE) (L : VH) (a b c d : Int), fcode (vcall F nro) nro (takeS 5 (dropS 9 i_zz51.body)) e K = some (.normal, e', K ++ L) ∧ e' 0 = cd ∧
  e' 35 = .int .i64 a ∧ e' 37 = .int .i64 a ∧ e' 36 = .int .i64 b ∧ e' 38 = .int .i64 b ∧ e' 40 = .int .i64 c ∧ e' 42 = .int .i64 c ∧ e' 41 = .int .i64 d ∧ e' 43 = .int .i64 d := by
 have hn' := fun k => Nat.le_trans hn (Nat.le_add_right K.length k)
 obtain ⟨n, m, A, hA, d1⟩ := c_zz9 (nro := nro) hs hx hn
 have s1 : SlA (K ++ [⟨3, arcs A⟩, ⟨0, [.int .i64 n, .int .i64 m, sv K.length A]⟩]) (sv K.length A) A := slA_at (by simp)
 have a1 := c_zz30 (nro := nro) (n := n) (m := m) _ s1 (by omega) (by simp; omega)
 have a2 := c_zz35 (nro := nro) (n := n) (m := m) _ s1 (by omega) (by simp; omega)
 obtain ⟨n2, m2, A2, hA2, d2⟩ := c_zz8 (nro := nro) (hs.app [⟨3, arcs A⟩, ⟨0, [.int .i64 n, .int .i64 m, sv K.length A]⟩]) hx (by simp; omega)
 have s2 : SlA (K ++ [⟨3, arcs A⟩, ⟨0, [.int .i64 n, .int .i64 m, sv K.length A]⟩, ⟨3, arcs A2⟩, ⟨0, [.int .i64 n2, .int .i64 m2, sv (K.length + 2) A2]⟩]) (sv (K.length + 2) A2) A2 := slA_at (by simp)
 have b1 := c_zz29 (nro := nro) s2 (n := n2) (m := m2) (by omega) (by simp; omega)
 have b2 := c_zz34 (nro := nro) s2 (n := n2) (m := m2) (by omega) (by simp; omega)
 generalize wgA n m A = q1 at a1 a2
 generalize lpA n2 m2 A2 = q2 at b1 b2
 obtain ⟨u1, v1⟩ := q1
 obtain ⟨u2, v2⟩ := q2
 simp only at a1 a2 b1 b2
 have hv : ∃ (e' : FE), fcode (vcall F nro) nro (takeS 5 (dropS 9 i_zz51.body)) e K = some (.normal, e', K ++ [⟨3, arcs A⟩, ⟨0, [.int .i64 n, .int .i64 m, sv K.length A]⟩, ⟨3, arcs A2⟩, ⟨0, [.int .i64 n2, .int .i64 m2, sv (K.length + 2) A2]⟩]) ∧ e' 0 = cd ∧
   e' 35 = .int .i64 u1 ∧ e' 37 = .int .i64 u1 ∧ e' 36 = .int .i64 v1 ∧ e' 38 = .int .i64 v1 ∧ e' 40 = .int .i64 u2 ∧ e' 42 = .int .i64 u2 ∧ e' 41 = .int .i64 v2 ∧ e' 43 = .int .i64 v2 := by
  clear s1 s2 hs hx hA hA2
  generalize arcs A = cs at *
  generalize arcs A2 = cs2 at *
  generalize A.length = z at *
  generalize A2.length = z2 at *
  simp at d2
  simp (disch := first | assumption | omega | (simp [*] <;> omega) | fail) [i_zz51, takeS, dropS, he, d1, a1, a2, d2, b1, b2, hn, hn', splice]
 obtain ⟨e', h1⟩ := hv
 exact ⟨e', _, _, _, _, _, h1⟩
end
end

/- FnLifts: the last draws, the law. -/
section
open Go
open Classical
variable {nro : Nat}
section
variable {cd : Value} {xs : List Int} {K : VH} (hs : Sl K cd (bys xs)) (hx : Code' xs) (hn : nro ≤ K.length)
include hs hx hn
set_option maxHeartbeats 4000000 in
theorem lifts_D (e : FE) (he : e 0 = cd) (a b c d : Int) (h35 : e 35 = .int .i64 a) (h37 : e 37 = .int .i64 a) (h36 : e 36 = .int .i64 b) (h38 : e 38 = .int .i64 b) (h40 : e 40 = .int .i64 c) (h42 : e 42 = .int .i64 c) (h41 : e 41 = .int .i64 d) (h43 : e 43 = .int .i64 d) :
  ∃ (e' : FE) (L : VH) (u : Bool) (v : Int), fcode (vcall F nro) nro (takeS 2 (dropS 15 i_zz51.body)) e K = some (.normal, e', K ++ L) ∧ e' 0 = cd ∧
  (e' 35 = .int .i64 a ∧ e' 37 = .int .i64 a ∧ e' 36 = .int .i64 b ∧ e' 38 = .int .i64 b ∧ e' 40 = .int .i64 c ∧ e' 42 = .int .i64 c ∧ e' 41 = .int .i64 d ∧ e' 43 = .int .i64 d) ∧
  e' 47 = .bool u ∧ e' 49 = .bool u ∧ e' 48 = .int .i64 v ∧ e' 50 = .int .i64 v := by
 have hn' := fun k => Nat.le_trans hn (Nat.le_add_right K.length k)
 obtain ⟨n1, n2, q1, q2, ys, l1, l2, l3, d1⟩ := c_zz18 (nro := nro) hs hx hn
 have s1 := sli_at (h := K ++ [⟨1, ints q1⟩, ⟨1, ints q2⟩, ⟨1, ints ys⟩, ⟨0, [.int .i64 n1, .slice (some ⟨K.length, 0, none⟩) q1.length q1.length]⟩, ⟨0, [.int .i64 n2, .slice (some ⟨K.length + 1, 0, none⟩) q2.length q2.length]⟩]) (b := K.length) (xs := q1) (by simp)
 have s2 := sli_at (h := K ++ [⟨1, ints q1⟩, ⟨1, ints q2⟩, ⟨1, ints ys⟩, ⟨0, [.int .i64 n1, .slice (some ⟨K.length, 0, none⟩) q1.length q1.length]⟩, ⟨0, [.int .i64 n2, .slice (some ⟨K.length + 1, 0, none⟩) q2.length q2.length]⟩]) (b := K.length + 1) (xs := q2) (by simp)
 have s3 := sli_at (h := K ++ [⟨1, ints q1⟩, ⟨1, ints q2⟩, ⟨1, ints ys⟩, ⟨0, [.int .i64 n1, .slice (some ⟨K.length, 0, none⟩) q1.length q1.length]⟩, ⟨0, [.int .i64 n2, .slice (some ⟨K.length + 1, 0, none⟩) q2.length q2.length]⟩]) (b := K.length + 2) (xs := ys) (by simp)
 have a1 := c_zz48 (nro := nro) n1 n2 _ _ _ _ _ _ _ s1 s2 s3 (by omega) (by simp; omega)
 have a2 := c_zz53 (nro := nro) n1 n2 _ _ _ _ _ _ _ s1 s2 s3 (by omega) (by simp; omega)
 generalize coverAns n1 q1 n2 q2 ys = q at a1 a2
 obtain ⟨u, v⟩ := q
 simp only at a1 a2
 have hv : ∃ (e' : FE), fcode (vcall F nro) nro (takeS 2 (dropS 15 i_zz51.body)) e K = some (.normal, e', K ++ [⟨1, ints q1⟩, ⟨1, ints q2⟩, ⟨1, ints ys⟩, ⟨0, [.int .i64 n1, .slice (some ⟨K.length, 0, none⟩) q1.length q1.length]⟩, ⟨0, [.int .i64 n2, .slice (some ⟨K.length + 1, 0, none⟩) q2.length q2.length]⟩]) ∧ e' 0 = cd ∧
   (e' 35 = .int .i64 a ∧ e' 37 = .int .i64 a ∧ e' 36 = .int .i64 b ∧ e' 38 = .int .i64 b ∧ e' 40 = .int .i64 c ∧ e' 42 = .int .i64 c ∧ e' 41 = .int .i64 d ∧ e' 43 = .int .i64 d) ∧
   e' 47 = .bool u ∧ e' 49 = .bool u ∧ e' 48 = .int .i64 v ∧ e' 50 = .int .i64 v := by
  clear s1 s2 s3 hs hx l1 l2 l3
  generalize ints q1 = r1 at *
  generalize ints q2 = r2 at *
  generalize ints ys = r3 at *
  generalize q1.length = z1 at *
  generalize q2.length = z2 at *
  generalize ys.length = z3 at *
  simp (disch := first | assumption | omega | (simp [*] <;> omega) | fail) [i_zz51, takeS, dropS, he, h35, h36, h37, h38, h40, h41, h42, h43, d1, a1, a2, hn, hn', splice]
 obtain ⟨e', h1, h2⟩ := hv
 exact ⟨e', _, _, _, h1, h2⟩
set_option maxHeartbeats 4000000 in
theorem lifts_E (h : VH) (hK : K.take h.length = h) (e : FE) (he : e 0 = cd) (a b c d v : Int) (u : Bool) (h35 : e 35 = .int .i64 a) (h37 : e 37 = .int .i64 a) (h36 : e 36 = .int .i64 b) (h38 : e 38 = .int .i64 b) (h40 : e 40 = .int .i64 c) (h42 : e 42 = .int .i64 c) (h41 : e 41 = .int .i64 d) (h43 : e 43 = .int .i64 d)
  (h47 : e 47 = .bool u) (h49 : e 49 = .bool u) (h48 : e 48 = .int .i64 v) (h50 : e 50 = .int .i64 v) : kret [.tmp 2] h (fcode (vcall F nro) nro (dropS 18 i_zz51.body) e K) = some (.bool true, h) := by
 have hn' := fun k => Nat.le_trans hn (Nat.le_add_right K.length k)
 have hlK : h.length ≤ K.length := by
  have := congrArg List.length hK
  simp at this
  omega
 have tK : ∀ L, (K ++ L).take h.length = h := by intro L; rw [List.take_append_of_le_length hlK]; exact hK
 have kC : ∀ (L : VH) (x : Bool), kclean h [.bool x] (K ++ L) = ([.bool x], h) := fun L x => kclean_take (tK L) (by simp)
 obtain ⟨n, m, A, hA, d1⟩ := c_zz6 (nro := nro) hs hx hn
 have s1 : SlA (K ++ [⟨3, arcs A⟩, ⟨0, [.int .i64 n, .int .i64 m, sv K.length A]⟩]) (sv K.length A) A := slA_at (by simp)
 have a1 := c_zz13 (nro := nro) s1 (n := n) (m := m) (by omega) (by simp; omega)
 by_cases B : IsB n m A
 ·rw [if_pos B] at a1
  obtain ⟨Y, hY⟩ : ∃ Y, Y = covL n.toNat m.toNat := ⟨_, rfl⟩
  have hYl : Y.length = n.toNat * m.toNat := by rw [hY, covL_len]
  have hY62 : n.toNat * m.toNat ≤ 62 := by
   have nm := B.nm
   have n1 := B.n1
   have m1 := B.m1
   have : ((n.toNat * m.toNat : Nat) : Int) = n * m := by rw [Int.natCast_mul, Int.toNat_of_nonneg (by omega), Int.toNat_of_nonneg (by omega)]
   omega
  rw [← hY] at a1
  have a2 := c_zz17 (nro := nro) (s1.app [⟨1, ints Y⟩]) (n := n) (m := m) (by omega) (by simp; omega)
  rw [if_pos B, ← hY] at a2
  have k1 := sli_at (h := K ++ [⟨3, arcs A⟩, ⟨0, [.int .i64 n, .int .i64 m, sv K.length A]⟩, ⟨1, ints Y⟩, ⟨1, ints Y⟩]) (b := K.length + 2) (xs := Y) (by simp)
  have k2 := sli_at (h := K ++ [⟨3, arcs A⟩, ⟨0, [.int .i64 n, .int .i64 m, sv K.length A]⟩, ⟨1, ints Y⟩, ⟨1, ints Y⟩]) (b := K.length + 3) (xs := Y) (by simp)
  have a3 := c_zz40 (nro := nro) _ _ Y Y _ k1 k2 (by omega)
  rw [decide_eq_true rfl] at a3
  rw [hYl] at a3
  clear s1 k1 k2 hs hx hK tK hlK hY hYl B hY62
  generalize arcs A = cs at *
  generalize A.length = z at *
  generalize ints Y = y at *
  generalize n.toNat * m.toNat = w at *
  simp at a1 a2
  cases u <;> simp (disch := first | assumption | omega | (simp [*] <;> omega) | fail) [i_zz51, takeS, dropS, he, h35, h36, h37, h38, h40, h41, h42, h43, h47, h48, h49, h50, d1, a1, a2, a3, kC, hn, hn', splice, fresults, fresL, fres1]
 ·rw [if_neg B] at a1
  have a2 := c_zz17 (nro := nro) s1 (n := n) (m := m) (by omega) (by simp; omega)
  rw [if_neg B] at a2
  have a3 := c_zz40 (nro := nro) (.slice none 0 0) (.slice none 0 0) [] [] (K ++ [⟨3, arcs A⟩, ⟨0, [.int .i64 n, .int .i64 m, sv K.length A]⟩]) (by simp [Sli, Sl, vsrc, ints]) (by simp [Sli, Sl, vsrc, ints]) (by simp)
  rw [decide_eq_true rfl] at a3
  clear s1 hs hx hK tK hlK B
  generalize arcs A = cs at *
  generalize A.length = z at *
  cases u <;> simp (disch := first | assumption | omega | (simp [*] <;> omega) | fail) [i_zz51, takeS, dropS, he, h35, h36, h37, h38, h40, h41, h42, h43, h47, h48, h49, h50, d1, a1, a2, a3, kC, hn, hn', splice, fresults, fresL, fres1]
end
theorem law_FnLifts (cd : Value) (xs : List Int) (h : VH) (hs : Sl h cd (bys xs)) (hx : Code' xs) (hn : nro ≤ h.length) :
  vcall F nro k_zz51 [cd] h = some (.bool true, h) := by
 have hn' := fun k => Nat.le_trans hn (Nat.le_add_right h.length k)
 have hl := hx.len
 have hb : vcall F nro k_zz84 [cd] h = some (.bool (decide (4096 < xs.length)), h) := by
  refine v_zz84 (by simp [i_zz84]) ?_
  rw [fbody_eq]
  have e0 := hs.vlen
  simp only [bys_length] at e0
  simp (disch := first | assumption | omega | (simp [*] <;> omega) | fail) [i_zz84, e0]
  omega
 by_cases hbig : 4096 < xs.length
 ·refine v_zz51 (by simp [i_zz51]) ?_
  rw [fbody_eq]
  rw [decide_eq_true hbig] at hb
  simp (disch := first | assumption | omega | (simp [*] <;> omega) | fail) [i_zz51, hb, hn, hn']
 ·rw [decide_eq_false hbig] at hb
  refine v_zz51 (by simp [i_zz51]) ?_
  rw [fbody_eq]
  rw [fcode_parts (vcall F nro) nro 1 i_zz51.body _ _ (by decide)]
  have p0 : ∃ e', fcode (vcall F nro) nro (takeS 1 i_zz51.body) (fargs [cd]) h = some (.normal, e', h) ∧ e' 0 = cd := by
   simp (disch := first | assumption | omega | (simp [*] <;> omega) | fail) [i_zz51, takeS, hb, hn, hn']
  obtain ⟨e0, p0, he0⟩ := p0
  rw [p0, kseq_normal, fcode_parts (vcall F nro) nro 6 (dropS 2 i_zz51.body) _ _ (by decide)]
  obtain ⟨e1, L1, p1, he1⟩ := lifts_A (nro := nro) hs hx hn e0 he0
  rw [p1, kseq_normal]
  have t1 : dropS (6 + 1) (dropS 2 i_zz51.body) = dropS 9 i_zz51.body := rfl
  rw [t1, fcode_parts (vcall F nro) nro 5 (dropS 9 i_zz51.body) _ _ (by decide)]
  obtain ⟨e2, L2, a, b, c, d, p2, he2, q1, q2, q3, q4, q5, q6, q7, q8⟩ := lifts_C (nro := nro) (hs.app L1) hx (by simp; omega) e1 he1
  rw [p2, kseq_normal]
  have t2 : dropS (5 + 1) (dropS 9 i_zz51.body) = dropS 15 i_zz51.body := rfl
  rw [t2, fcode_parts (vcall F nro) nro 2 (dropS 15 i_zz51.body) _ _ (by decide)]
  obtain ⟨e3, L3, u, v, p3, he3, ⟨r1, r2, r3, r4, r5, r6, r7, r8⟩, s1, s2, s3, s4⟩ := lifts_D (nro := nro) ((hs.app L1).app L2) hx (by simp; omega) e2 he2 a b c d q1 q2 q3 q4 q5 q6 q7 q8
  rw [p3, kseq_normal]
  have t3 : dropS (2 + 1) (dropS 15 i_zz51.body) = dropS 18 i_zz51.body := rfl
  rw [t3]
  exact lifts_E (nro := nro) (((hs.app L1).app L2).app L3) hx (by simp; omega) h (by simp) e3 he3 a b c d v u r1 r2 r3 r4 r5 r6 r7 r8 s1 s2 s3 s4
end

end Go.Proofs.YtbomdghbblakoaaDoor.Zv

