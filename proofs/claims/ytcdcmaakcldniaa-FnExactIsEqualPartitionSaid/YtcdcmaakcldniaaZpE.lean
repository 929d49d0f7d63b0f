/- Part E of the proof: ZwRef1, ZwRef2, ZwRef3, ZwRef4, ZwRef5, ZwTab, ZwFrom, ZwMoore, ZwRefA, ZwSeqs, ZwSort, ZwPdq1, ZwPdq2, ZwPdq3, ZwPdq4, ZwPdq5, ZwPdq6, ZwPdq7, ZwPdq8, ZwPdq9, ZwPdq10. Conditions: none. -/
import Derived.Sort.Defs
import Derived.Sort.LotA
import Derived.Sort.LotC
import Derived.Sort.LotD3
import Derived.Test.YtcdcmaakcldniaaZpC
import Derived.Test.YtcdcmaakcldniaaZpD
set_option linter.unusedSimpArgs false
set_option linter.unusedVariables false
/- Graphs with colours: what a refinement reads and writes. -/
namespace Go.Proofs.Ytcdcmaakcldniaa.Zv
open Go

def updL (c : Nat → List Int) (i : Nat) (l : List Int) : Nat → List Int := fun j => if j = i then l else c j
/-- K graphs of n vertices with colours, at a. -/
structure RG (nro K n a bg bc : Nat) (q : Nat → Nat) (rs : Nat → Value) (rows : Nat → List Int) (gcs : List Value) (Hc : (Nat → List Int) → VH) : Prop where
  nr : ∀ c, nro ≤ (Hc c).length
  nq : ∀ i, i < K → nro ≤ q i
  len : ∀ c c', (Hc c).length = (Hc c').length
  upd : ∀ c c', Upd (Hc c) (Hc c')
  ax : ∀ c, (Hc c)[a]? = some ⟨0, [.slice (some ⟨bg, 0, none⟩) K (2 * K), .slice (some ⟨bc, 0, none⟩) K K]⟩
  ag : ∀ c, (Hc c)[bg]? = some ⟨2, gcs⟩
  gl : gcs.length = 2 * K
  ga : ∀ i, i < K → gcs[2 * i]? = some (.int .i64 n) ∧ gcs[2 * i + 1]? = some (rs i)
  ac : ∀ c, (Hc c)[bc]? = some ⟨1, (List.range K).map fun i => .slice (some ⟨q i, 0, none⟩) n n⟩
  aq : ∀ c i, i < K → (Hc c)[q i]? = some ⟨1, ints (c i)⟩
  st : ∀ c i l, i < K → (Hc c).set (q i) ⟨1, ints l⟩ = Hc (updL c i l)
  rr : ∀ c i, i < K → Sli (Hc c) (rs i) (rows i)
  rok : ∀ i, i < K → Rok n (rows i)
  n1 : 1 ≤ n
  K1 : 1 ≤ K
  K2 : K ≤ 2
/-- Colours of K graphs: n each, from 0 on. -/
structure CL (K n : Nat) (c : Nat → List Int) : Prop where
  len : ∀ i, i < K → (c i).length = n
  ge : ∀ i, i < K → ∀ x ∈ c i, 0 ≤ x ∧ x < 500

section
variable {nro K n a bg bc : Nat} {q : Nat → Nat} {rs : Nat → Value} {rows : Nat → List Int} {gcs : List Value} {Hc : (Nat → List Int) → VH} (E : RG nro K n a bg bc q rs rows gcs Hc)
include E
theorem RG.lt {p : Nat} {o : VO} (c : Nat → List Int) (h : (Hc c)[p]? = some o) (L : VH) : (Hc c ++ L)[p]? = some o := by
  have _e := E.n1
  rw [List.getElem?_append_left (List.getElem?_eq_some_iff.mp h).1]; exact h
theorem RG.lax (c : Nat → List Int) : a < (Hc c).length := (List.getElem?_eq_some_iff.mp (E.ax c)).1
theorem RG.lbg (c : Nat → List Int) : bg < (Hc c).length := (List.getElem?_eq_some_iff.mp (E.ag c)).1
theorem RG.lbc (c : Nat → List Int) : bc < (Hc c).length := (List.getElem?_eq_some_iff.mp (E.ac c)).1
theorem RG.lq (c : Nat → List Int) {i : Nat} (hi : i < K) : q i < (Hc c).length := (List.getElem?_eq_some_iff.mp (E.aq c i hi)).1
theorem RG.setA (c : Nat → List Int) (L : VH) (i : Nat) (l : List Int) (hi : i < K) : (Hc c ++ L).set (q i) ⟨1, ints l⟩ = Hc (updL c i l) ++ L := by
  rw [List.set_append_left _ _ (E.lq c hi), E.st c i l hi]
theorem RG.ccell (i : Nat) (hi : i < K) : List.take 1 (List.drop i ((List.range K).map fun i => (Value.slice (some ⟨q i, 0, none⟩) n n))) = [.slice (some ⟨q i, 0, none⟩) n n] := by
  have _e := E.n1
  rw [List.drop_eq_getElem_cons (by simpa using hi)]
  simp
theorem RG.gcell (i : Nat) (hi : i < K) : List.take 2 (List.drop (i * 2) gcs) = [.int .i64 n, rs i] := by
  have h1 := E.gl
  obtain ⟨h2, h3⟩ := E.ga i hi
  obtain ⟨p2, q2⟩ := List.getElem?_eq_some_iff.mp h2
  obtain ⟨p3, q3⟩ := List.getElem?_eq_some_iff.mp h3
  rw [Nat.mul_comm i 2, List.drop_eq_getElem_cons p2, List.drop_eq_getElem_cons p3, q2, q3]
  rfl
end

/-! ### how many colours -/
def mxl (l : List Int) : Int := mxL (l.headD 0) l.tail
theorem mxl_le (k : Int) (l : List Int) (h : l ≠ []) : mxl l ≤ k ↔ ∀ x ∈ l, x ≤ k := by
  cases l with
  | nil => exact absurd rfl h
  | cons x r => simp [mxl, mxL_le]
def mxK (c : Nat → List Int) : Nat → Int
  | 0 => 0
  | j + 1 => if mxK c j < mxl (c j) then mxl (c j) else mxK c j
theorem mxK_ge (c : Nat → List Int) : ∀ j, 0 ≤ mxK c j
  | 0 => Int.le_refl 0
  | j + 1 => by
    have := mxK_ge c j
    rw [mxK]
    split <;> omega
theorem mxK_le (c : Nat → List Int) (k : Int) (hk : 0 ≤ k) : ∀ j, (∀ i, i < j → c i ≠ []) → (mxK c j ≤ k ↔ ∀ i, i < j → ∀ x ∈ c i, x ≤ k)
  | 0, _ => by simp [mxK, hk]
  | j + 1, hne => by
    have ih := mxK_le c k hk j (fun i hi => hne i (by omega))
    have h1 := mxl_le k (c j) (hne j (by omega))
    rw [mxK]
    constructor
    · intro h i hi
      split at h
      · rcases Nat.lt_succ_iff_lt_or_eq.mp hi with h2 | h2
        · exact ih.mp (by omega) i h2
        · subst h2; exact h1.mp h
      · rcases Nat.lt_succ_iff_lt_or_eq.mp hi with h2 | h2
        · exact ih.mp h i h2
        · subst h2; exact h1.mp (by omega)
    · intro h
      have h2 := h1.mpr (h j (by omega))
      have h3 := ih.mpr (fun i hi => h i (by omega))
      split <;> assumption
/-- How many colours there are. -/
def manyN (K : Nat) (c : Nat → List Int) : Nat := (mxK c K).toNat + 1
theorem CL.ne {K n : Nat} {c : Nat → List Int} (C : CL K n c) (hn : 1 ≤ n) (i : Nat) (hi : i < K) : c i ≠ [] := by
  have := C.len i hi
  intro e
  rw [e] at this
  simp at this
  omega
theorem CL.lt {K n : Nat} {c : Nat → List Int} (C : CL K n c) (hn : 1 ≤ n) (i : Nat) (hi : i < K) (x : Int) (hx : x ∈ c i) : 0 ≤ x ∧ x < manyN K c := by
  have h1 := (mxK_le c (mxK c K) (mxK_ge c K) K (fun i hi => C.ne hn i hi)).mp (Int.le_refl _) i hi x hx
  have h2 := (C.ge i hi x hx).1
  have h3 := mxK_ge c K
  unfold manyN
  omega
theorem CL.many5 {K n : Nat} {c : Nat → List Int} (C : CL K n c) (hn : 1 ≤ n) : manyN K c ≤ 500 := by
  have h1 := (mxK_le c 499 (by omega) K (fun i hi => C.ne hn i hi)).mpr (fun i hi x hx => by have := (C.ge i hi x hx).2; omega)
  unfold manyN
  omega
theorem CL.many {K n : Nat} {c : Nat → List Int} (C : CL K n c) (hn : 1 ≤ n) : manyN K c ≤ 1000 := by
  have h1 := (mxK_le c 999 (by omega) K (fun i hi => C.ne hn i hi)).mpr (fun i hi x hx => by have := (C.ge i hi x hx).2; omega)
  unfold manyN
  omega

section
variable {nro K n a bg bc : Nat} {q : Nat → Nat} {rs : Nat → Value} {rows : Nat → List Int} {gcs : List Value} {Hc : (Nat → List Int) → VH} (E : RG nro K n a bg bc q rs rows gcs Hc)
include E
theorem c_impl_coloured_many (c : Nat → List Int) (C : CL K n c) (L : VH) : vcall F nro k_impl_coloured_many [.pointer (some ⟨a, 0, some 2⟩)] (Hc c ++ L) = some (.int .i64 (manyN K c), Hc c ++ L) := by
  have hax := E.lax c
  have hbc := E.lbc c
  have q1 := E.lt c (E.ax c) L
  have q2 := E.lt c (E.ac c) L
  have hK := E.K2
  have hn1 := E.n1
  have lq := fun i (hi : i < K) => E.lq c hi
  have q3 := fun i (hi : i < K) => E.lt c (E.aq c i hi) L
  have hcc := E.ccell
  have hmb := mxK_le c 999 (by omega)
  obtain ⟨H, hH⟩ : ∃ H, H = Hc c ++ L := ⟨_, rfl⟩
  have hl : (Hc c).length ≤ H.length := by rw [hH]; simp
  rw [← hH] at q1 q2 q3 ⊢
  refine v_impl_coloured_many (by simp [i_impl_coloured_many]) ?_
  rw [fbody_eq]
  have key := for_up (call := vcall F nro) (nro := nro) (live := [3, 9, 10, 11]) (c := i_impl_coloured_many_B1) (h0 := H) (n := K) (fun i (_ : Unit) => [.int .i64 (mxK c i), .slice (some ⟨bc, 0, none⟩) K K, .int .i64 K, .int .i64 i]) (fun _ _ => H) (fun _ u => u) (fun _ _ => True)
    (fun _ => some (.exit 0, fl [(3, .int .i64 (mxK c K))], H)) (fun i _ hi hi2 _ => ⟨trivial, ?_⟩) (fun _ _ => ?_) 0 () (by omega) trivial
  · obtain ⟨key, _⟩ := key
    have hge := mxK_ge c K
    have hle := (hmb K (fun i hi => C.ne hn1 i hi)).mpr (fun i hi x hx => by have := (C.ge i hi x hx).2; omega)
    have w1 : IntKind.i64.wrap (mxK c K + 1) = manyN K c := by
      rw [wrap64 (by omega) (by omega)]
      unfold manyN
      omega
    have k1 : mxK c 0 = 0 := rfl
    simp only [k1, Int.natCast_zero] at key
    clear hH q3 hcc
    simp (disch := first | assumption | omega | (simp [*] <;> omega) | fail) [-getElem?_pos, List.getElem?_cons_zero, List.getElem?_cons_succ, i_impl_coloured_many, q1, q2, key, w1, fresults, fresL, fres1]
  · rw [floop_at i_impl_coloured_many_B1.eq_1]
    have hcl := C.len i hi
    have hm : vcall F nro k_slices_Max_int64_int64 [.slice (some ⟨q i, 0, none⟩) n n] H = some (.int .i64 (mxl (c i)), H) := by
      have s1 : Sli H (.slice (some ⟨q i, 0, none⟩) n n) (c i) := by
        have := sli_at (q3 i hi)
        rwa [hcl] at this
      obtain ⟨x, r, hxr⟩ : ∃ x r, c i = x :: r := by
        cases hc : c i with
        | nil => exact absurd hc (C.ne hn1 i hi)
        | cons x r => exact ⟨x, r, rfl⟩
      rw [hxr] at s1 ⊢
      refine c_slices_Max _ x r H s1 ?_
      have hnl := (E.rok i hi).le
      rw [hxr] at hcl
      simp at hcl
      omega
    have k2 : mxK c (i + 1) = if mxK c i < mxl (c i) then mxl (c i) else mxK c i := rfl
    have k3 := hcc i hi
    obtain ⟨m, hm2⟩ : ∃ m, m = mxK c i := ⟨_, rfl⟩
    obtain ⟨m', hm3⟩ : ∃ m', m' = mxl (c i) := ⟨_, rfl⟩
    rw [k2, ← hm2, ← hm3]
    rw [← hm3] at hm
    clear k2 hm2 hm3 q3 hH hcc hmb
    have w1 : IntKind.i64.wrap ((i : Int) + 1) = (i : Int) + 1 := wrap64 (by omega) (by omega)
    by_cases c1 : m < m'
    · rw [if_pos c1]
      simp (disch := first | assumption | omega | (simp [*] <;> omega) | fail) [-getElem?_pos, List.getElem?_cons_zero, List.getElem?_cons_succ, q1, q2, hi, hi2, hm, k3, w1, c1, vminmax, vminmaxL, vminmax2]
    · rw [if_neg c1]
      simp (disch := first | assumption | omega | (simp [*] <;> omega) | fail) [-getElem?_pos, List.getElem?_cons_zero, List.getElem?_cons_succ, q1, q2, hi, hi2, hm, k3, w1, c1, vminmax, vminmaxL, vminmax2]
  · rw [floop_at i_impl_coloured_many_B1.eq_1]
    simp (disch := first | assumption | omega | (simp [*] <;> omega) | fail) [-getElem?_pos, List.getElem?_cons_zero, List.getElem?_cons_succ, q2]
end
end Go.Proofs.Ytcdcmaakcldniaa.Zv

/- Refining: the sets of the colours, the numbers of a vertex. -/
namespace Go.Proofs.Ytcdcmaakcldniaa.Zv
open Go
variable {nro : Nat}
/-- The sets of the colours. -/
noncomputable def stF (cl : List Int) (m n : Nat) : List Int := upF (fun v st => set1 st (cl.getD v 0) v) n 0 (List.replicate m 0)
theorem l_refine_B1 (P : VH) (s : Value) (cl : List Int) (n m : Nat) (hs : Sli P s cl) (hcl : cl.length = n) (hn62 : n ≤ 62) (hc : ∀ x ∈ cl, 0 ≤ x ∧ x < m) (hm : m ≤ 1000) (hn : nro ≤ P.length)
    (v0 v2 v3 v4 v5 v23 v24 v25 : Value) (o0 : Old (P.length + 1) v0) (o2 : Old (P.length + 1) v2) (o3 : Old (P.length + 1) v3) (o4 : Old (P.length + 1) v4) (o5 : Old (P.length + 1) v5) (o23 : Old (P.length + 1) v23) (o24 : Old (P.length + 1) v24) (o25 : Old (P.length + 1) v25) :
    floop (vcall F nro) nro [0, 2, 3, 4, 5, 6, 23, 24, 25, 38, 39, 40] i_impl_coloured_refine_B1 (P ++ [⟨1, ints (List.replicate m 0)⟩])
      [v0, v2, v3, v4, v5, .slice (some ⟨P.length, 0, none⟩) m m, v23, v24, v25, s, .int .i64 n, .int .i64 0] (P ++ [⟨1, ints (List.replicate m 0)⟩]) =
      some (.exit 4, fl [(0, v0), (2, v2), (3, v3), (4, v4), (5, v5), (6, .slice (some ⟨P.length, 0, none⟩) m m), (23, v23), (24, v24), (25, v25)], P ++ [⟨1, ints (stF cl m n)⟩]) ∧ (stF cl m n).length = m := by
  have hso := hs.old
  obtain ⟨z0, hz0⟩ : ∃ z, z = List.replicate m (0 : Int) := ⟨_, rfl⟩
  have hz : z0.length = m := by rw [hz0]; simp
  unfold stF
  rw [← hz0]
  clear hz0
  have key := for_up (call := vcall F nro) (nro := nro) (live := [0, 2, 3, 4, 5, 6, 23, 24, 25, 38, 39, 40]) (c := i_impl_coloured_refine_B1) (h0 := P ++ [⟨1, ints z0⟩]) (n := n)
    (fun i (_ : List Int) => [v0, v2, v3, v4, v5, .slice (some ⟨P.length, 0, none⟩) m m, v23, v24, v25, s, .int .i64 n, .int .i64 i]) (fun _ st => P ++ [⟨1, ints st⟩]) (fun v st => set1 st (cl.getD v 0) v) (fun _ st => st.length = m)
    (fun st => some (.exit 4, fl [(0, v0), (2, v2), (3, v3), (4, v4), (5, v5), (6, .slice (some ⟨P.length, 0, none⟩) m m), (23, v23), (24, v24), (25, v25)], P ++ [⟨1, ints st⟩])) (fun i st hi hi2 I => ⟨by simpa using I, ?_⟩) (fun st I => ?_) 0 z0 (by omega) hz
  · exact key
  · rw [floop_at i_impl_coloured_refine_B1.eq_1]
    have hi3 : i < cl.length := by omega
    have hg : cl.getD i 0 = cl[i] := by simp [List.getD_eq_getElem?_getD, hi3]
    obtain ⟨x, hx⟩ : ∃ x : Nat, cl[i] = x := by
      have := hc cl[i] (List.getElem_mem _)
      exact ⟨(cl[i]).toNat, by omega⟩
    have hxm : x < m := by
      have := hc cl[i] (List.getElem_mem _)
      omega
    have hxs : x < st.length := by omega
    have vx := (hs.app [⟨1, ints st⟩]).vidx (k := .i64) (j := (i : Int)) (by omega) (by omega)
    have vd := (hs.app [⟨1, ints st⟩]).vload hi3
    rw [hx] at vd hg
    have hss : set1 st (x : Int) i = st.set x (ior .i64 st[x] (ishl .i64 1 i)) := by
      simp [set1, List.getD_eq_getElem?_getD, hxs]
    rw [hg, hss]
    have w1 : IntKind.i64.wrap ((i : Int) + 1) = (i : Int) + 1 := wrap64 (by omega) (by omega)
    have hxm' : (x : Int) < m := by omega
    clear hc hs hg hss hx hcl hi3
    subst I
    have t1 := take1_ints hxs
    have t2 := fun y => splice_ints (v := y) hxs
    obtain ⟨y, hy⟩ : ∃ y, y = ior .i64 st[x] (ishl .i64 1 i) := ⟨_, rfl⟩
    rw [← hy]
    have hcl : ∀ vs, (∀ v ∈ vs, Old (P.length + 1) v) → kclean (P ++ [⟨1, ints z0⟩]) vs (P ++ [⟨1, ints (st.set x y)⟩]) = (vs, P ++ [⟨1, ints (st.set x y)⟩]) := fun vs hv => by
      have := cleanup_app (h0 := P) (L0 := [⟨1, ints z0⟩]) (L := [⟨1, ints (st.set x y)⟩]) (vs := vs) (by simpa using hv) (by simp)
      simpa using this
    have hso' : Old (P.length + 1) s := by
      intro r hr
      have := hso r hr
      omega
    simp (disch := first | assumption | omega | (simp [*] <;> omega) | fail) [vx, vd, w1, hi, hi2, hxm', t1, t2, hn, hxs, ← hy, hcl]
  · rw [floop_at i_impl_coloured_refine_B1.eq_1]
    have vl := (hs.app [⟨1, ints st⟩]).vlen
    simp (disch := first | assumption | omega | (simp [*] <;> omega) | fail) [vl]
/-- How many neighbours each set has. -/
noncomputable def nbN (row s : Int) : Int := (pc (iand .i64 row s).toNat : Int)
theorem l_refine_B2 (P : VH) (p : Nat) (n : Nat) (r tS : Value) (rows st : List Int) (v : Nat) (x : Int) (hp : P[p]? = some ⟨0, [.int .i64 n, r]⟩) (hr : Sli P r rows) (hS : Sli P tS st) (hv : v < rows.length) (hrow : 0 ≤ rows[v] ∧ rows[v] < 4611686018427387904) (hst : ∀ y ∈ st, 0 ≤ y ∧ y < 4611686018427387904) (hst2 : st.length ≤ 1000) (hn : nro ≤ P.length)
    (v0 v2 v3 v4 v23 v24 v25 v60 v61 v62 : Value) (o0 : Old (P.length + 1) v0) (o2 : Old (P.length + 1) v2) (o3 : Old (P.length + 1) v3) (o4 : Old (P.length + 1) v4) (o23 : Old (P.length + 1) v23) (o24 : Old (P.length + 1) v24) (o25 : Old (P.length + 1) v25) (o60 : Old (P.length + 1) v60) (o61 : Old (P.length + 1) v61) (o62 : Old (P.length + 1) v62) :
    floop (vcall F nro) nro [0, 2, 3, 4, 5, 6, 9, 11, 23, 24, 25, 60, 61, 62, 69, 70, 71] i_impl_coloured_refine_B2 (P ++ [⟨1, ints [x]⟩])
      [v0, v2, v3, v4, .pointer (some ⟨p, 0, some 2⟩), tS, .int .i64 v, .slice (some ⟨P.length, 0, none⟩) 1 1, v23, v24, v25, v60, v61, v62, tS, .int .i64 st.length, .int .i64 0] (P ++ [⟨1, ints [x]⟩]) =
      some (.exit 8, fl [(0, v0), (2, v2), (3, v3), (4, v4), (5, .pointer (some ⟨p, 0, some 2⟩)), (6, tS), (9, .int .i64 v), (11, .slice (some ⟨P.length, 0, none⟩) (st.length + 1) (st.length + 1)), (23, v23), (24, v24), (25, v25), (60, v60), (61, v61), (62, v62)], P ++ [⟨1, ints (x :: st.map (nbN rows[v]))⟩]) := by
  have hso := hS.old
  have hpl := (List.getElem?_eq_some_iff.mp hp).1
  obtain ⟨row, hro⟩ : ∃ row, row = rows[v] := ⟨_, rfl⟩
  have vdr := hr.vload hv
  rw [← hro] at hrow vdr ⊢
  have key := for_up (call := vcall F nro) (nro := nro) (live := [0, 2, 3, 4, 5, 6, 9, 11, 23, 24, 25, 60, 61, 62, 69, 70, 71]) (c := i_impl_coloured_refine_B2) (h0 := P ++ [⟨1, ints [x]⟩]) (n := st.length)
    (fun i (_ : Unit) => [v0, v2, v3, v4, .pointer (some ⟨p, 0, some 2⟩), tS, .int .i64 v, .slice (some ⟨P.length, 0, none⟩) (i + 1) (i + 1), v23, v24, v25, v60, v61, v62, tS, .int .i64 st.length, .int .i64 i]) (fun i _ => P ++ [⟨1, ints (x :: (st.take i).map (nbN row))⟩]) (fun _ u => u) (fun _ _ => True)
    (fun _ => some (.exit 8, fl [(0, v0), (2, v2), (3, v3), (4, v4), (5, .pointer (some ⟨p, 0, some 2⟩)), (6, tS), (9, .int .i64 v), (11, .slice (some ⟨P.length, 0, none⟩) (st.length + 1) (st.length + 1)), (23, v23), (24, v24), (25, v25), (60, v60), (61, v61), (62, v62)], P ++ [⟨1, ints (x :: st.map (nbN row))⟩])) (fun i _ hi hi2 _ => ⟨trivial, ?_⟩) (fun _ _ => ?_) 0 () (by omega) trivial
  · simpa using key.1
  · rw [floop_at i_impl_coloured_refine_B2.eq_1]
    obtain ⟨ys, hys⟩ : ∃ ys, ys = x :: (st.take i).map (nbN row) := ⟨_, rfl⟩
    have hyl : ys.length = i + 1 := by rw [hys]; simp; omega
    have hyn : x :: (st.take (i + 1)).map (nbN row) = ys ++ [nbN row st[i]] := by
      rw [hys, List.take_add_one, List.getElem?_eq_getElem hi, List.map_append]
      rfl
    have hsi := hst st[i] (List.getElem_mem _)
    rw [hyn, ← hys]
    obtain ⟨si, hs⟩ : ∃ si, si = st[i] := ⟨_, rfl⟩
    have vx := (hS.app [⟨1, ints ys⟩]).vidx (k := .i64) (j := (i : Int)) (by omega) (by omega)
    have vd := (hS.app [⟨1, ints ys⟩]).vload hi
    rw [← hs] at hsi vd ⊢
    have vxr := (hr.app [⟨1, ints ys⟩]).vidx (k := .i64) (j := (v : Int)) (by omega) (by omega)
    have vdr := (hr.app [⟨1, ints ys⟩]).vload hv
    rw [← hro] at vdr
    have hc : vcall F nro k_impl_size [.int .i64 (iand .i64 row si)] (P ++ [⟨1, ints ys⟩]) = some (.int .i64 (nbN row si), P ++ [⟨1, ints ys⟩]) := by
      obtain ⟨a, rfl⟩ : ∃ a : Nat, row = a := ⟨row.toNat, by omega⟩
      obtain ⟨b, rfl⟩ : ∃ b : Nat, si = b := ⟨si.toNat, by omega⟩
      have e := iand_nat (a := a) (b := b) (by omega) (by omega)
      have : a &&& b ≤ a := Nat.and_le_left
      refine c_impl_size _ _ ?_ ?_ <;> rw [e] <;> omega
    have w1 : IntKind.i64.wrap ((i : Int) + 1) = (i : Int) + 1 := wrap64 (by omega) (by omega)
    obtain ⟨d, hd⟩ : ∃ d, d = nbN row si := ⟨_, rfl⟩
    rw [← hd] at hc ⊢
    have q1 : (P ++ [⟨1, ints ys⟩])[p]? = some ⟨0, [.int .i64 n, r]⟩ := by rw [List.getElem?_append_left hpl]; exact hp
    have hcl : ∀ vs, (∀ v ∈ vs, Old (P.length + 1) v) → kclean (P ++ [⟨1, ints [x]⟩]) vs (P ++ [⟨1, ints (ys ++ [d])⟩, ⟨1, [.int .i64 d]⟩]) = (vs, P ++ [⟨1, ints (ys ++ [d])⟩]) := fun vs hv => by
      have := cleanup_app (h0 := P) (L0 := [⟨1, ints [x]⟩]) (L := [⟨1, ints (ys ++ [d])⟩, ⟨1, [.int .i64 d]⟩]) (vs := vs) (by simpa using hv) (by simp)
      simpa using this
    have hpc := (List.getElem?_eq_some_iff.mp hp).2
    simp only [ints_cons, ints_nil] at hcl
    have hso' : Old (P.length + 1) tS := by
      intro r hr
      have := hso r hr
      omega
    clear hst hS hr hs hro hys hyn hd
    have b1 : (ys.length + 1) * 8 ≤ 1099511627776 := by omega
    have b2 : ys.length < 1099511627776 := by omega
    have hpl1 : p < P.length + 1 := by omega
    rw [← hyl]
    have w1 : IntKind.i64.wrap ((i : Int) + 1) = (ys.length : Int) := by rw [w1]; omega
    simp (disch := first | assumption | omega | (simp [*] <;> omega) | fail) [vx, vd, w1, hi, hi2, vxr, vdr, hc, q1, hn, b1, b2, hcl, ints_snoc, hpl, hpl1, hpc]
  · rw [floop_at i_impl_coloured_refine_B2.eq_1]
    have vl := (hS.app [⟨1, ints (x :: (st.take st.length).map (nbN row))⟩]).vlen
    simp only [List.take_length] at vl ⊢
    simp (disch := first | assumption | omega | (simp [*] <;> omega) | fail) [vl]
end Go.Proofs.Ytcdcmaakcldniaa.Zv

/- Refining: what is told of a graph's vertices. -/
namespace Go.Proofs.Ytcdcmaakcldniaa.Zv
open Go
variable {nro : Nat}
abbrev TD := Int × Int × List Int
/-- What is told, in new memory from n on: numbers in objects of their own. -/
structure ET (n : Nat) (cs : List Value) (G : VH) (es : List TD) : Prop where
  len : cs.length = es.length * 3
  at_ : ∀ (i : Nat) (hi : i < es.length), ∃ k, (cs.drop (i * 3)).take 3 = [.int .i64 es[i].1, .int .i64 es[i].2.1, .slice (some ⟨n + k, 0, none⟩) es[i].2.2.length es[i].2.2.length] ∧ G[k]? = some ⟨1, ints es[i].2.2⟩
theorem ET.nil (n : Nat) (G : VH) : ET n [] G [] := ⟨rfl, fun i hi => by simp at hi⟩
theorem ET.more {n : Nat} {cs : List Value} {G : VH} {es : List TD} (e : ET n cs G es) (L : VH) : ET n cs (G ++ L) es := by
  refine ⟨e.len, fun i hi => ?_⟩
  obtain ⟨k, h1, h2⟩ := e.at_ i hi
  exact ⟨k, h1, by rw [List.getElem?_append_left (List.getElem?_eq_some_iff.mp h2).1]; exact h2⟩
theorem ET.push {n : Nat} {cs : List Value} {G : VH} {es : List TD} (e : ET n cs G es) (t : TD) (L : VH) : ET n (cs ++ [.int .i64 t.1, .int .i64 t.2.1, .slice (some ⟨n + G.length, 0, none⟩) t.2.2.length t.2.2.length]) (G ++ ⟨1, ints t.2.2⟩ :: L) (es ++ [t]) := by
  have hl := e.len
  have e2 := e.more (⟨1, ints t.2.2⟩ :: L)
  refine ⟨by simp [hl]; omega, fun i hi => ?_⟩
  by_cases h : i < es.length
  · obtain ⟨k', h1, h2⟩ := e2.at_ i h
    rw [List.getElem_append_left h]
    refine ⟨k', ?_, h2⟩
    rw [← h1, List.drop_append_of_le_length (by omega), List.take_append_of_le_length (by simp; omega)]
  · have hi2 : i = es.length := by simp at hi; omega
    subst hi2
    rw [List.getElem_append_right (by omega)]
    simp only [Nat.sub_self, List.getElem_cons_zero]
    refine ⟨G.length, ?_, by simp⟩
    rw [List.drop_append, List.drop_eq_nil_of_le (by omega), hl, Nat.sub_self]
    rfl
theorem ET.cell {n : Nat} {cs : List Value} {G : VH} {es : List TD} (e : ET n cs G es) (i : Nat) (hi : i < es.length) : ∃ k, n + k ∈ orefs ⟨3, cs⟩ ∧ (cs.drop (i * 3)).take 3 = [.int .i64 es[i].1, .int .i64 es[i].2.1, .slice (some ⟨n + k, 0, none⟩) es[i].2.2.length es[i].2.2.length] ∧ G[k]? = some ⟨1, ints es[i].2.2⟩ := by
  obtain ⟨k, h1, h2⟩ := e.at_ i hi
  refine ⟨k, ?_, h1, h2⟩
  unfold orefs
  refine List.mem_flatMap.mpr ⟨.slice (some ⟨n + k, 0, none⟩) es[i].2.2.length es[i].2.2.length, ?_, by simp [crefs, arefs]⟩
  have : Value.slice (some ⟨n + k, 0, none⟩) es[i].2.2.length es[i].2.2.length ∈ (cs.drop (i * 3)).take 3 := by rw [h1]; simp
  exact List.mem_of_mem_drop (List.mem_of_mem_take this)
theorem ET.cleanP {P0 P : VH} {cs0 cs vals : List Value} {G0 G : VH} {es0 es : List TD} (e0 : ET (P.length + 1) cs0 G0 es0) (e : ET (P.length + 1) cs G es) (hP : P0.length = P.length) (hG : G0.length ≤ G.length) (hv : ∀ v ∈ vals, Old (P.length + 1 + G0.length) v) :
    ∃ G1, kclean (P0 ++ ⟨3, cs0⟩ :: G0) vals (P ++ ⟨3, cs⟩ :: G) = (vals, P ++ ⟨3, cs⟩ :: G1) ∧ ET (P.length + 1) cs G1 es ∧ G0.length ≤ G1.length ∧ ∀ k, k < G0.length → G1[k]? = G[k]? := by
  have hlen : (P0 ++ (⟨3, cs0⟩ : VO) :: G0).length = P.length + 1 + G0.length := by simp; omega
  rcases cleanup_old (h0 := P0 ++ ⟨3, cs0⟩ :: G0) (h := P ++ ⟨3, cs⟩ :: G) (vs := vals) (by rw [hlen]; exact hv) with hk | ⟨hok, hk⟩
  · exact ⟨G, hk, e, hG, fun _ _ => rfl⟩
  · have e1 : (P ++ (⟨3, cs⟩ : VO) :: G).take (P0 ++ (⟨3, cs0⟩ : VO) :: G0).length = P ++ ⟨3, cs⟩ :: G.take G0.length := by
      rw [hlen, List.take_append, List.take_of_length_le (by omega)]
      rw [show P.length + 1 + G0.length - P.length = G0.length + 1 by omega]
      rfl
    rw [e1] at hk hok
    refine ⟨G.take G0.length, hk, ⟨e.len, fun i hi => ?_⟩, by simp; omega, fun k hk2 => by rw [List.getElem?_take, if_pos hk2]⟩
    obtain ⟨k, hmem, h1, h2⟩ := e.cell i hi
    have hk : k < G0.length := by
      have h3 := hok P.length ⟨3, cs⟩ (by rw [hget0]; rfl)
      rcases h3 with h3 | h3
      · rw [← hP, hget0] at h3
        simp at h3
        subst h3
        have hl0 := e0.len
        have hl1 := e.len
        obtain ⟨k', _, h4, h5⟩ := e0.cell i (by omega)
        rw [h1] at h4
        simp at h4
        have : k = k' := h4.2.2.1
        subst this
        exact (List.getElem?_eq_some_iff.mp h5).1
      · have := h3 _ hmem
        rw [hlen] at this
        omega
    exact ⟨k, h1, by rw [List.getElem?_take, if_pos hk]; exact h2⟩
theorem ET.max {n : Nat} {cs : List Value} {G G1 : VH} {es : List TD} (e : ET n cs G es) (h : ∀ k, k < G.length → G1[k]? = G[k]?) : ET n cs G1 es := by
  refine ⟨e.len, fun i hi => ?_⟩
  obtain ⟨k, h1, h2⟩ := e.at_ i hi
  exact ⟨k, h1, by rw [h k (List.getElem?_eq_some_iff.mp h2).1]; exact h2⟩

/-- What is told of the vertices from v on. -/
noncomputable def tdF (gi : Int) (rows cl st : List Int) (n v : Nat) : List TD := if v < n then (gi, (v : Int), cl.getD v 0 :: st.map (nbN (rows.getD v 0))) :: tdF gi rows cl st n (v + 1) else []
 termination_by n - v
theorem tdF_step {gi : Int} {rows cl st : List Int} {n v : Nat} (h : v < n) : tdF gi rows cl st n v = (gi, (v : Int), cl.getD v 0 :: st.map (nbN (rows.getD v 0))) :: tdF gi rows cl st n (v + 1) := by rw [tdF, if_pos h]
theorem tdF_end {gi : Int} {rows cl st : List Int} {n v : Nat} (h : ¬ v < n) : tdF gi rows cl st n v = [] := by rw [tdF, if_neg h]
theorem tdF_len (gi : Int) (rows cl st : List Int) (n v : Nat) : (tdF gi rows cl st n v).length = n - v := by
  by_cases h : v < n
  · rw [tdF_step h, List.length_cons, tdF_len gi rows cl st n (v + 1)]; omega
  · rw [tdF_end h]; simp; omega
 termination_by n - v
end Go.Proofs.Ytcdcmaakcldniaa.Zv

/- Refining: the numbers of all vertices of a graph. -/
namespace Go.Proofs.Ytcdcmaakcldniaa.Zv
open Go
variable {nro : Nat}
theorem l_refine_B3 (P : VH) (hn : nro ≤ P.length) (n kg ks gi : Nat) (r s : Value) (rows cl st : List Int) (hr : Sli P r rows) (hs : Sli P s cl) (R : Rok n rows) (hcl : cl.length = n)
    (hst : ∀ y ∈ st, 0 ≤ y ∧ y < 4611686018427387904) (hst2 : st.length ≤ 1000) (v0 v2 v23 v24 v25 : Value) (o0 : Old P.length v0) (o2 : Old P.length v2) (o23 : Old P.length v23) (o24 : Old P.length v24) (o25 : Old P.length v25)
    (cs0 : List Value) (G0 : VH) (es0 : List TD) (e0 : ET (P.length + 1) cs0 G0 es0) (kg0 : kg < G0.length) (ks0 : ks < G0.length) (k : Nat) : ∀ (v : Nat) (cs : List Value) (G : VH) (es : List TD), k = n - v → v ≤ n → ET (P.length + 1) cs G es → G0.length ≤ G.length → G[kg]? = some ⟨0, [.int .i64 n, r]⟩ → G[ks]? = some ⟨1, ints st⟩ → es.length + (n - v) ≤ 1000 →
    ∃ cs' G', floop (vcall F nro) nro [0, 2, 3, 4, 5, 6, 23, 24, 25, 60, 61, 62] i_impl_coloured_refine_B3 (P ++ ⟨3, cs0⟩ :: G0)
      [v0, v2, .slice (some ⟨P.length, 0, none⟩) es.length cs.length, .int .i64 gi, .pointer (some ⟨P.length + 1 + kg, 0, some 2⟩), .slice (some ⟨P.length + 1 + ks, 0, none⟩) st.length st.length, v23, v24, v25, s, .int .i64 n, .int .i64 v] (P ++ ⟨3, cs⟩ :: G) =
      some (.exit 6, fl [(0, v0), (2, v2), (3, .slice (some ⟨P.length, 0, none⟩) (es ++ tdF gi rows cl st n v).length cs'.length), (23, v23), (24, v24), (25, v25)], P ++ ⟨3, cs'⟩ :: G') ∧ ET (P.length + 1) cs' G' (es ++ tdF gi rows cl st n v) ∧ G0.length ≤ G'.length := by
  induction k with
  | zero =>
    intro v cs G es hk hv e hG hg hks hle
    have h1 : ¬ v < n := by omega
    have h2 : ¬ (v : Int) < n := by omega
    rw [tdF_end h1, List.append_nil]
    refine ⟨cs, G, ?_, e, hG⟩
    rw [floop_at i_impl_coloured_refine_B3.eq_1]
    have vl := (hs.app (⟨3, cs⟩ :: G)).vlen
    simp (disch := first | assumption | omega | (simp [*] <;> omega) | fail) [vl, h2]
  | succ k ih =>
    intro v cs G es hk hv e hG hg hks hle
    have hlt : v < n := by omega
    have hlt' : (v : Int) < n := by omega
    have hRl := R.len
    have hRle := R.le
    have hcv : v < cl.length := by omega
    have hrv : v < rows.length := by omega
    have hrow := R.row v hlt
    have g1 : rows.getD v 0 = rows[v] := by simp [List.getD_eq_getElem?_getD, hrv]
    have g2 : cl.getD v 0 = cl[v] := by simp [List.getD_eq_getElem?_getD, hcv]
    obtain ⟨nums, hnums⟩ : ∃ nums, nums = cl.getD v 0 :: st.map (nbN (rows.getD v 0)) := ⟨_, rfl⟩
    have hnl : nums.length = st.length + 1 := by rw [hnums]; simp
    obtain ⟨H, hH⟩ : ∃ H, H = P ++ ⟨3, cs⟩ :: G := ⟨_, rfl⟩
    have hHl : H.length = P.length + 1 + G.length := by rw [hH]; simp; omega
    have hPH : P.length < H.length := by omega
    have q1 : H[P.length]? = some ⟨3, cs⟩ := by rw [hH, hget0]; rfl
    have q2 : H[P.length + 1 + kg]? = some ⟨0, [.int .i64 n, r]⟩ := by rw [hH, Nat.add_assoc, hgetk, Nat.add_comm 1 kg, List.getElem?_cons_succ]; exact hg
    have q3 : H[P.length + 1 + ks]? = some ⟨1, ints st⟩ := by rw [hH, Nat.add_assoc, hgetk, Nat.add_comm 1 ks, List.getElem?_cons_succ]; exact hks
    have hsH : Sli H s cl := by rw [hH]; exact hs.app _
    have hrH : Sli H r rows := by rw [hH]; exact hr.app _
    have old : ∀ {v : Value}, Old P.length v → Old (H.length + 1) v := fun ho r hr => by
      have := ho r hr
      omega
    have b2 := l_refine_B2 (nro := nro) H (P.length + 1 + kg) n r (.slice (some ⟨P.length + 1 + ks, 0, none⟩) st.length st.length) rows st v cl[v] q2 hrH (sli_at q3) hrv (by
        have hp : 2 ^ n ≤ 2 ^ 62 := Nat.pow_le_pow_right (by omega) hRle
        rw [← g1]; omega) hst hst2 (by omega) v0 v2 (.slice (some ⟨P.length, 0, none⟩) es.length cs.length) (.int .i64 gi) v23 v24 v25 s (.int .i64 n) (.int .i64 v) (old o0) (old o2) (by intro r hr; simp [trefs, vrefs, crefs, arefs] at hr; omega) (by simp) (old o23) (old o24) (old o25) (old hs.old) (by simp) (by simp)
    rw [← g1, ← g2, ← hnums] at b2
    obtain ⟨t, ht⟩ : ∃ t : TD, t = ((gi : Int), (v : Int), nums) := ⟨_, rfl⟩
    have e' := e.push t [⟨3, [.int .i64 gi, .int .i64 v, .slice (some ⟨H.length, 0, none⟩) nums.length nums.length]⟩]
    rw [ht] at e'
    simp only [← hHl] at e'
    obtain ⟨G1, k1, k2, k3, k4⟩ := ET.cleanP (P0 := P) (vals := [v0, v2, .slice (some ⟨P.length, 0, none⟩) (es.length + 1) (cs.length + 3), .int .i64 gi, .pointer (some ⟨P.length + 1 + kg, 0, some 2⟩), .slice (some ⟨P.length + 1 + ks, 0, none⟩) st.length st.length, v23, v24, v25, s, .int .i64 n, .int .i64 ((v : Int) + 1)]) e0 e' rfl (by simp; omega) (by
      have oL : ∀ {v : Value}, Old P.length v → Old (P.length + 1 + G0.length) v := fun ho r hr => by
        have := ho r hr
        omega
      intro w hw
      simp only [List.mem_cons, List.not_mem_nil, or_false] at hw
      rcases hw with rfl | rfl | rfl | rfl | rfl | rfl | rfl | rfl | rfl | rfl | rfl | rfl
      · exact oL o0
      · exact oL o2
      · intro r hr; simp [trefs, vrefs, crefs, arefs] at hr; omega
      · simp
      · intro r hr; simp [trefs, vrefs, crefs, arefs] at hr; omega
      · intro r hr; simp [trefs, vrefs, crefs, arefs] at hr; omega
      · exact oL o23
      · exact oL o24
      · exact oL o25
      · exact oL hs.old
      · simp
      · simp)
    have hkg : kg < G.length := by omega
    have hks' : ks < G.length := by omega
    obtain ⟨cs', G', j1, j2, j3⟩ := ih (v + 1) _ G1 _ (by omega) (by omega) k2 k3 (by rw [k4 kg kg0, List.getElem?_append_left hkg]; exact hg) (by rw [k4 ks ks0, List.getElem?_append_left hks']; exact hks) (by simp; omega)
    refine ⟨cs', G', ?_, by rw [tdF_step hlt, ← hnums]; simpa using j2, j3⟩
    rw [tdF_step hlt, ← hnums]
    simp only [List.append_assoc, List.singleton_append] at j1
    obtain ⟨LT, hLT⟩ : ∃ q, q = (es ++ ((gi : Int), (v : Int), nums) :: tdF gi rows cl st n (v + 1)).length := ⟨_, rfl⟩
    rw [← hLT] at j1 ⊢
    have hset : (H ++ ([⟨1, ints nums⟩, ⟨3, [.int .i64 gi, .int .i64 v, .slice (some ⟨H.length, 0, none⟩) nums.length nums.length]⟩] : VH)).set P.length ⟨3, cs ++ [.int .i64 gi, .int .i64 v, .slice (some ⟨H.length, 0, none⟩) nums.length nums.length]⟩ =
        P ++ ⟨3, cs ++ [.int .i64 gi, .int .i64 v, .slice (some ⟨H.length, 0, none⟩) nums.length nums.length]⟩ :: (G ++ [⟨1, ints nums⟩, ⟨3, [.int .i64 gi, .int .i64 v, .slice (some ⟨H.length, 0, none⟩) nums.length nums.length]⟩]) := by
      rw [hH]
      simp
    have vx := hsH.vidx (k := .i64) (j := (v : Int)) (by omega) (by omega)
    have vd := hsH.vload hcv
    rw [← g2] at vd
    obtain ⟨c0, hc0⟩ : ∃ c0, c0 = cl.getD v 0 := ⟨_, rfl⟩
    rw [← hc0] at vd b2
    have vlS := ((sli_at q3).app [⟨1, [.int .i64 c0]⟩]).vlen
    have w1 : IntKind.i64.wrap ((v : Int) + 1) = (v : Int) + 1 := wrap64 (by omega) (by omega)
    have hlen : cs.length = es.length * 3 := e.len
    have q4 : (H ++ ([⟨1, ints nums⟩, ⟨3, [.int .i64 gi, .int .i64 v, .slice (some ⟨H.length, 0, none⟩) nums.length nums.length]⟩] : VH))[P.length]? = some ⟨3, cs⟩ := by rw [List.getElem?_append_left hPH]; exact q1
    have b3 : (es.length + 1) * 40 ≤ 1099511627776 := by omega
    have b4 : es.length + 1 ≤ 1099511627776 := by omega
    simp only [ints_cons, ints_nil, ← hnl] at b2
    simp only [List.length_append, List.length_cons, List.length_nil, Nat.zero_add] at j1
    clear ih e' k2 k3 k4 e e0 hg hks j2 j3 hs hr hst hnums hsH hrH q1 q2 q3 ht hLT g1 g2 hc0 hrow hRl
    rw [← hH]
    rw [floop_at i_impl_coloured_refine_B3.eq_1]
    simp (disch := first | assumption | omega | (simp [*] <;> omega) | fail) [-getElem?_pos, List.getElem?_cons_zero, List.getElem?_cons_succ, hlt', vx, vd, vlS, b2, q4, hn, hset, k1, w1, j1, b3, b4]
    refine ⟨hlen.symm, ?_⟩
    simpa using j1
end Go.Proofs.Ytcdcmaakcldniaa.Zv

/- Refining: the numbers of all vertices of all graphs. -/
namespace Go.Proofs.Ytcdcmaakcldniaa.Zv
open Go
theorem Sl.nj {h : VH} {v : Value} {cs : List Value} (hs : Sl h v cs) : isJunk v = false := by
  rcases hs.inv with ⟨rfl, _⟩ | ⟨rfl, _⟩ | ⟨a, n, tot, o, rfl, _⟩ <;> rfl
theorem stF_ok (cl : List Int) (m n : Nat) (hn : n ≤ 62) (hcl : ∀ x ∈ cl, 0 ≤ x ∧ x < m) : ∀ y ∈ stF cl m n, 0 ≤ y ∧ y < 4611686018427387904 := by
  refine upF_inv (I := fun _ st => ∀ y ∈ st, 0 ≤ y ∧ y < 4611686018427387904) (n := n) (fun v st hv I => ?_) 0 _ (by omega) ?_
  · intro y hy
    unfold set1 at hy
    rcases List.mem_or_eq_of_mem_set hy with h | h
    · exact I y h
    · subst h
      have hx : 0 ≤ st.getD (cl.getD v 0).toNat 0 ∧ st.getD (cl.getD v 0).toNat 0 < 4611686018427387904 := by
        by_cases h : (cl.getD v 0).toNat < st.length
        · have e : st.getD (cl.getD v 0).toNat 0 = st[(cl.getD v 0).toNat] := by rw [List.getD_eq_getElem?_getD, List.getElem?_eq_getElem h]; rfl
          rw [e]
          exact I _ (List.getElem_mem h)
        · have e : st.getD (cl.getD v 0).toNat 0 = 0 := by rw [List.getD_eq_getElem?_getD, List.getElem?_eq_none (by omega)]; rfl
          rw [e]; omega
      have := setbit (b := (v : Int)) hx.1 hx.2 (by omega) (by omega)
      exact ⟨this.1, this.2.1⟩
  · intro y hy
    rw [List.mem_replicate] at hy
    omega
/-- What is told of the graphs from i on. -/
noncomputable def tdsF (rows c : Nat → List Int) (m n K i : Nat) : List TD := if i < K then tdF i (rows i) (c i) (stF (c i) m n) n 0 ++ tdsF rows c m n K (i + 1) else []
 termination_by K - i
theorem tdsF_step {rows c : Nat → List Int} {m n K i : Nat} (h : i < K) : tdsF rows c m n K i = tdF i (rows i) (c i) (stF (c i) m n) n 0 ++ tdsF rows c m n K (i + 1) := by rw [tdsF, if_pos h]
theorem tdsF_end {rows c : Nat → List Int} {m n K i : Nat} (h : ¬ i < K) : tdsF rows c m n K i = [] := by rw [tdsF, if_neg h]
theorem tdsF_len (rows c : Nat → List Int) (m n K i : Nat) : (tdsF rows c m n K i).length = (K - i) * n := by
  by_cases h : i < K
  · rw [tdsF_step h, List.length_append, tdF_len, tdsF_len rows c m n K (i + 1)]
    have e : K - i = (K - (i + 1)) + 1 := by omega
    rw [e, Nat.succ_mul]
    omega
  · rw [tdsF_end h, show K - i = 0 by omega]; simp
 termination_by K - i

section
variable {nro K n a bg bc : Nat} {q : Nat → Nat} {rs : Nat → Value} {rows : Nat → List Int} {gcs : List Value} {Hc : (Nat → List Int) → VH} (E : RG nro K n a bg bc q rs rows gcs Hc)
include E
theorem l_refine_B4 (c : Nat → List Int) (C : CL K n c) (m : Nat) (hm : m = manyN K c) (k : Nat) : ∀ (i : Nat) (cs : List Value) (G : VH) (es : List TD), k = K - i → i ≤ K → ET ((Hc c).length + 1) cs G es → es.length = i * n →
    ∃ cs' G', floop (vcall F nro) nro [0, 2, 3, 23, 24, 25] i_impl_coloured_refine_B4 (Hc c ++ [⟨3, []⟩])
      [.pointer (some ⟨a, 0, some 2⟩), .int .i64 m, .slice (some ⟨(Hc c).length, 0, none⟩) es.length cs.length, .slice (some ⟨bg, 0, none⟩) K (2 * K), .int .i64 K, .int .i64 i] (Hc c ++ ⟨3, cs⟩ :: G) =
      some (.exit 2, fl [(0, .pointer (some ⟨a, 0, some 2⟩)), (2, .int .i64 m), (3, .slice (some ⟨(Hc c).length, 0, none⟩) (es ++ tdsF rows c m n K i).length cs'.length)], Hc c ++ ⟨3, cs'⟩ :: G') ∧ ET ((Hc c).length + 1) cs' G' (es ++ tdsF rows c m n K i) := by
  have hax := E.lax c
  have hbc := E.lbc c
  have hbg := E.lbg c
  have hK := E.K2
  have hn1 := E.n1
  induction k with
  | zero =>
    intro i cs G es hk hi e hes
    have h1 : ¬ i < K := by omega
    have h2 : ¬ (i : Int) < K := by omega
    rw [tdsF_end h1, List.append_nil]
    refine ⟨cs, G, ?_, e⟩
    have q2 := E.lt c (E.ag c) (⟨3, cs⟩ :: G)
    have hgl := E.gl
    rw [floop_at i_impl_coloured_refine_B4.eq_1]
    obtain ⟨H, hH⟩ : ∃ H, H = Hc c ++ ⟨3, cs⟩ :: G := ⟨_, rfl⟩
    rw [← hH] at q2 ⊢
    clear hH
    simp (disch := first | assumption | omega | (simp [*] <;> omega) | fail) [-getElem?_pos, List.getElem?_cons_zero, List.getElem?_cons_succ, q2, h2, hgl]
  | succ k ih =>
    intro i cs G es hk hi e hes
    have hlt : i < K := by omega
    have hlt' : (i : Int) < K := by omega
    have R := E.rok i hlt
    have hRle := R.le
    have hcl := C.len i hlt
    have hml := C.many hn1
    have hmm := fun x hx => C.lt hn1 i hlt x hx
    rw [← hm] at hml hmm
    have hst := stF_ok (c i) m n hRle hmm
    have hn := E.nr c
    obtain ⟨H, hH⟩ : ∃ H, H = Hc c ++ ⟨3, cs⟩ :: G := ⟨_, rfl⟩
    have hHl : H.length = (Hc c).length + 1 + G.length := by rw [hH]; simp; omega
    have b1 := l_refine_B1 (nro := nro) (H ++ [⟨0, [.int .i64 n, rs i]⟩]) (.slice (some ⟨q i, 0, none⟩) n n) (c i) n m (by
      have h1 := E.lt c (E.aq c i hlt) (⟨3, cs⟩ :: G ++ [⟨0, [.int .i64 n, rs i]⟩])
      have := sli_at h1
      rw [hcl] at this
      rw [hH]
      simpa using this) hcl hRle hmm hml (by rw [List.length_append, hHl]; omega)
      (.pointer (some ⟨a, 0, some 2⟩)) (.int .i64 m) (.slice (some ⟨(Hc c).length, 0, none⟩) es.length cs.length) (.int .i64 i) (.pointer (some ⟨H.length, 0, some 2⟩)) (.slice (some ⟨bg, 0, none⟩) K (2 * K)) (.int .i64 K) (.int .i64 i)
      (by intro r hr; simp [trefs, vrefs, crefs, arefs] at hr; simp; omega) (by simp) (by intro r hr; simp [trefs, vrefs, crefs, arefs] at hr; simp; omega) (by simp) (by intro r hr; simp [trefs, vrefs, crefs, arefs] at hr; simp; omega) (by intro r hr; simp [trefs, vrefs, crefs, arefs] at hr; simp; omega) (by simp) (by simp)
    obtain ⟨b1, stl⟩ := b1
    obtain ⟨st, hstd⟩ : ∃ st, st = stF (c i) m n := ⟨_, rfl⟩
    rw [← hstd] at hst b1 stl
    have eG : ET ((Hc c).length + 1) cs (G ++ [⟨0, [.int .i64 n, rs i]⟩, ⟨1, ints st⟩]) es := e.more _
    obtain ⟨cs1, G1, f1, f2, f3⟩ := l_refine_B3 (nro := nro) (Hc c) (E.nr c) n G.length (G.length + 1) i (rs i) (.slice (some ⟨q i, 0, none⟩) n n) (rows i) (c i) st (E.rr c i hlt) (by
      have := sli_at (E.aq c i hlt)
      rwa [hcl] at this) R hcl hst (by omega) (.pointer (some ⟨a, 0, some 2⟩)) (.int .i64 m) (.slice (some ⟨bg, 0, none⟩) K (2 * K)) (.int .i64 K) (.int .i64 i)
      (by intro r hr; simp [trefs, vrefs, crefs, arefs] at hr; omega) (by simp) (by intro r hr; simp [trefs, vrefs, crefs, arefs] at hr; omega) (by simp) (by simp) cs _ es eG (by simp) (by simp) n 0 cs _ es (by omega) (by omega) eG (Nat.le_refl _) (by simp) (by simp) (by
        have := Nat.mul_le_mul_right n (by omega : i ≤ 2)
        omega)
    rw [hstd] at f1 f2
    have hfl : (es ++ tdF i (rows i) (c i) (stF (c i) m n) n 0).length = (i + 1) * n := by
      rw [List.length_append, tdF_len, hes, Nat.succ_mul]; omega
    rw [← hstd] at f1 f2 hfl
    obtain ⟨G2, k1, k2, k3, k4⟩ := ET.cleanP (P0 := Hc c) (vals := [.pointer (some ⟨a, 0, some 2⟩), .int .i64 m, .slice (some ⟨(Hc c).length, 0, none⟩) ((i + 1) * n) cs1.length, .slice (some ⟨bg, 0, none⟩) K (2 * K), .int .i64 K, .int .i64 ((i : Int) + 1)]) (ET.nil _ []) f2 rfl (by simp) (by
      intro w hw
      simp only [List.mem_cons, List.not_mem_nil, or_false] at hw
      rcases hw with rfl | rfl | rfl | rfl | rfl | rfl <;> intro r hr <;> simp [trefs, vrefs, crefs, arefs] at hr <;> simp <;> omega)
    obtain ⟨cs', G', j1, j2⟩ := ih (i + 1) _ G2 _ (by omega) (by omega) k2 hfl
    rw [tdsF_step hlt, ← hstd]
    refine ⟨cs', G', ?_, by simpa using j2⟩
    rw [hfl] at f1 j1
    simp only [List.append_assoc] at j1
    have q0 := E.lt c (E.ax c) (⟨3, cs⟩ :: G)
    have q1 := E.lt c (E.ag c) (⟨3, cs⟩ :: G)
    have q2 := E.lt c (E.ac c) (⟨3, cs⟩ :: G)
    have q3 := E.lt c (E.aq c i hlt) (⟨3, cs⟩ :: G)
    have hq := E.lq c hlt
    have g1 := E.gcell i hlt
    have g2 := E.ccell i hlt
    have hgl := E.gl
    have eH : ∀ L : VH, Hc c ++ ⟨3, cs⟩ :: (G ++ L) = H ++ L := fun L => by rw [hH]; simp
    have l1 : (Hc c).length + 1 + (G.length + 1) = H.length + 1 := by omega
    rw [eH, ← hHl, l1] at f1
    have c2 := (E.gl)
    have w1 : IntKind.i64.wrap ((i : Int) + 1) = (i : Int) + 1 := wrap64 (by omega) (by omega)
    have hnH : nro ≤ H.length := by omega
    have l2 : i * 2 + 2 ≤ 2 * K := by omega
    have lK : q i < H.length := by omega
    have la : a < H.length := by omega
    have lb : bc < H.length := by omega
    rw [← hH] at q0 q1 q2 q3 ⊢
    simp only [List.append_assoc, List.cons_append, List.nil_append, List.length_append, List.length_cons, List.length_nil, Nat.zero_add] at b1
    rw [stl] at f1
    simp only [Int.natCast_zero] at f1
    simp only [List.length_append] at j1
    have p0 : ∀ L : VH, (H ++ L)[a]? = _ := fun L => (List.getElem?_append_left la).trans q0
    have p2 : ∀ L : VH, (H ++ L)[bc]? = _ := fun L => (List.getElem?_append_left lb).trans q2
    have p3 : ∀ L : VH, (H ++ L)[q i]? = _ := fun L => (List.getElem?_append_left lK).trans q3
    have b4 : 8 * (m : Int) ≤ 140737488355328 := by omega
    have b5 : (m : Int) ≤ 140737488355328 := by omega
    have hj := Sl.nj (E.rr c i hlt)
    unfold isJunk at hj
    clear ih e hes hH eG f2 f3 k2 k3 k4 j2 hmm hst hm hstd hfl hHl l1 C R
    rw [floop_at i_impl_coloured_refine_B4.eq_1]
    simp (disch := first | assumption | omega | (simp [*] <;> omega) | fail) [-getElem?_pos, List.getElem?_cons_zero, List.getElem?_cons_succ, hlt', hlt, q0, q1, q2, q3, g1, g2, hgl, l2, b1, f1, k1, w1, j1, p0, p2, p3, hcl, hnH, lK, la, lb, b4, b5, hj]
    simpa using j1
end
end Go.Proofs.Ytcdcmaakcldniaa.Zv

/- Lists that are told by functions; sums. -/
namespace Go.Proofs.Ytcdcmaakcldniaa.Zv
open Go

/-- The list of a function's values. -/
def tbl (n : Nat) (g : Nat → Int) : List Int := (List.range n).map g
def upd (g : Nat → Int) (u : Nat) (x : Int) : Nat → Int := fun j => if j = u then x else g j
@[simp] theorem tbl_length (n : Nat) (g : Nat → Int) : (tbl n g).length = n := by simp [tbl]
theorem tbl_get {n : Nat} {g : Nat → Int} {i : Nat} (hi : i < (tbl n g).length) : (tbl n g)[i] = g i := by simp [tbl]
theorem tbl_set {n : Nat} {g : Nat → Int} {i : Nat} {x : Int} : (tbl n g).set i x = tbl n (upd g i x) := by
  apply List.ext_getElem
  · simp
  · intro j h1 h2
    simp only [List.getElem_set, tbl_get, upd]
    by_cases h : i = j
    · subst h; simp
    · rw [if_neg h, if_neg (fun e => h e.symm)]
theorem tbl_congr {n : Nat} {g g' : Nat → Int} (h : ∀ i, i < n → g i = g' i) : tbl n g = tbl n g' := by
  unfold tbl
  apply List.map_congr_left
  intro i hi
  exact h i (by simpa using hi)
theorem tbl_const (n : Nat) (x : Int) : tbl n (fun _ => x) = List.replicate n x := by
  apply List.ext_getElem <;> simp [tbl]
theorem upd_same (g : Nat → Int) (u : Nat) (x : Int) : upd g u x u = x := by simp [upd]
theorem upd_ne {g : Nat → Int} {u j : Nat} {x : Int} (h : j ≠ u) : upd g u x j = g j := by simp [upd, h]
theorem tbl_take1 {n : Nat} {g : Nat → Int} {i : Nat} (hi : i < n) : List.take 1 (List.drop i (ints (tbl n g))) = [.int .i64 (g i)] := by
  rw [take1_ints (by simpa using hi), tbl_get]
theorem tbl_splice {n : Nat} {g : Nat → Int} {i : Nat} {x : Int} (hi : i < n) : splice i [.int .i64 x] (ints (tbl n g)) = ints (tbl n (upd g i x)) := by
  rw [splice_ints (by simpa using hi), tbl_set]

/-- A sum. -/
def sumF (f : Nat → Int) : Nat → Int
  | 0 => 0
  | k + 1 => sumF f k + f k
theorem sumF_congr {f g : Nat → Int} : ∀ {n : Nat}, (∀ i, i < n → f i = g i) → sumF f n = sumF g n
  | 0, _ => rfl
  | n + 1, h => by rw [sumF, sumF, sumF_congr (fun i hi => h i (by omega)), h n (by omega)]
theorem sumF_nonneg {f : Nat → Int} : ∀ {n : Nat}, (∀ i, i < n → 0 ≤ f i) → 0 ≤ sumF f n
  | 0, _ => Int.le_refl _
  | n + 1, h => by
    have h1 := sumF_nonneg (f := f) (n := n) (fun i hi => h i (by omega))
    have h2 := h n (by omega)
    rw [sumF]; omega
theorem sumF_add (f g : Nat → Int) : ∀ n, sumF (fun i => f i + g i) n = sumF f n + sumF g n
  | 0 => rfl
  | n + 1 => by rw [sumF, sumF, sumF, sumF_add f g n]; omega
theorem sumF_zero : ∀ n, sumF (fun _ => 0) n = 0
  | 0 => rfl
  | n + 1 => by rw [sumF, sumF_zero n]; rfl
theorem sumF_swap (f : Nat → Nat → Int) (m : Nat) : ∀ n, sumF (fun i => sumF (f i) m) n = sumF (fun j => sumF (fun i => f i j) n) m
  | 0 => by simp only [sumF]; exact (sumF_zero m).symm
  | n + 1 => by
    rw [sumF, sumF_swap f m n, ← sumF_add]
    exact sumF_congr fun j _ => rfl
theorem sumF_one {f : Nat → Int} {k : Nat} : ∀ {n : Nat}, k < n → (∀ i, i < n → i ≠ k → f i = 0) → sumF f n = f k
  | 0, h, _ => by omega
  | n + 1, h, h0 => by
    rw [sumF]
    by_cases e : k = n
    · subst e
      have : sumF f k = sumF (fun _ => 0) k := sumF_congr fun i hi => h0 i (by omega) (by omega)
      rw [this, sumF_zero]; omega
    · rw [sumF_one (k := k) (n := n) (by omega) (fun i hi hne => h0 i (by omega) hne), h0 n (by omega) (fun e2 => e e2.symm)]; omega
theorem sumF_le {f g : Nat → Int} : ∀ {n : Nat}, (∀ i, i < n → f i ≤ g i) → sumF f n ≤ sumF g n
  | 0, _ => Int.le_refl _
  | n + 1, h => by
    have h1 := sumF_le (f := f) (g := g) (n := n) (fun i hi => h i (by omega))
    have h2 := h n (by omega)
    rw [sumF, sumF]; omega
end Go.Proofs.Ytcdcmaakcldniaa.Zv

/- The reference's search for distances: a queue. -/
namespace Go.Proofs.Ytcdcmaakcldniaa.Zv
open Go
variable {nro : Nat}

/-! ### the search, without memory -/
/-! ### the code -/
/-- The start. -/
def b0 (v : Nat) : (Nat → Int) × List Int := (upd (fun _ => -1) v 0, [(v : Int)])
end Go.Proofs.Ytcdcmaakcldniaa.Zv

/- A regular graph without short cycles has many vertices. -/
namespace Go.Proofs.Ytcdcmaakcldniaa.Zv
open Go
open Classical

section
variable {n : Nat} {rows : List Int} (g : GV n rows)
include g

end

/-! ### counts -/
noncomputable def oneIf (p : Prop) : Int := if p then 1 else 0
theorem one_nonneg (p : Prop) : 0 ≤ oneIf p := by unfold oneIf; split <;> omega
theorem one_pos {p : Prop} (h : p) : oneIf p = 1 := if_pos h
theorem one_neg {p : Prop} (h : ¬ p) : oneIf p = 0 := if_neg h
theorem one_le (p : Prop) : oneIf p ≤ 1 := by unfold oneIf; split <;> omega
/-- At most one. -/
theorem sumF_most {P : Nat → Prop} : ∀ {n : Nat}, (∀ i j, i < n → j < n → P i → P j → i = j) → sumF (fun i => oneIf (P i)) n ≤ 1
  | 0, _ => by simp [sumF]
  | n + 1, h => by
    rw [sumF]
    by_cases hp : P n
    · have : sumF (fun i => oneIf (P i)) n = sumF (fun _ => 0) n := sumF_congr fun i hi => one_neg fun hi2 => by
        have := h i n (by omega) (by omega) hi2 hp
        omega
      rw [this, sumF_zero]
      have := one_le (P n)
      omega
    · rw [one_neg hp]
      have := sumF_most (P := P) (n := n) fun i j hi hj => h i j (by omega) (by omega)
      omega
theorem sumF_front (f : Nat → Int) : ∀ n, sumF f (n + 1) = f 0 + sumF (fun i => f (i + 1)) n
  | 0 => by simp [sumF]
  | n + 1 => by rw [sumF, sumF_front f n, sumF]; omega
theorem pc_sum : ∀ (n x : Nat), x < 2 ^ n → (pc x : Int) = sumF (fun i => oneIf (x.testBit i = true)) n
  | 0, x, h => by
    have : x = 0 := by omega
    subst this
    simp [sumF, pc_zero]
  | n + 1, x, h => by
    rw [sumF_front, pc_step]
    have h2 := pc_sum n (x / 2) (by rw [Nat.pow_succ] at h; omega)
    have e : sumF (fun i => oneIf (x.testBit (i + 1) = true)) n = sumF (fun i => oneIf ((x / 2).testBit i = true)) n := sumF_congr fun i _ => by rw [Nat.testBit_succ]
    rw [e, ← h2]
    have h3 : oneIf (x.testBit 0 = true) = ((x % 2 : Nat) : Int) := by
      rw [Nat.testBit_zero]
      rcases Nat.mod_two_eq_zero_or_one x with h | h <;> rw [h] <;> simp [oneIf]
    rw [h3]; omega
end Go.Proofs.Ytcdcmaakcldniaa.Zv

/- Refining, in plain terms: how many neighbours have each colour. -/
namespace Go.Proofs.Ytcdcmaakcldniaa.Zv
open Go
open Classical in
/-- How many neighbours of v have the colour x. -/
noncomputable def cntC (rows cl : List Int) (n v : Nat) (x : Int) : Int := sumF (fun w => oneIf (rbit rows v w = true ∧ cl.getD w 0 = x)) n
theorem stF_bit (cl : List Int) (m n : Nat) (hn : n ≤ 62) (hl : cl.length = n) (hcl : ∀ x ∈ cl, 0 ≤ x ∧ x < m) : (stF cl m n).length = m ∧ ∀ x, x < m → ∀ w, ((stF cl m n).getD x 0).toNat.testBit w = true ↔ w < n ∧ cl.getD w 0 = x := by
  have := upF_inv (n := n) (f := fun v st => set1 st (cl.getD v 0) v) (I := fun k st => st.length = m ∧ (∀ x, x < m → 0 ≤ st.getD x 0 ∧ st.getD x 0 < 4611686018427387904 ∧ ∀ w : Nat, (st.getD x 0).toNat.testBit w = true ↔ w < k ∧ cl.getD w 0 = x)) (fun k st hk I => ?_) 0 (List.replicate m 0) (by omega) ⟨by simp, fun x hx => ?_⟩
  · exact ⟨this.1, fun x hx => (this.2 x hx).2.2⟩
  · obtain ⟨i1, i2⟩ := I
    have hc : cl.getD k 0 ∈ cl := by
      rw [List.getD_eq_getElem?_getD, List.getElem?_eq_getElem (by omega)]
      exact List.getElem_mem _
    obtain ⟨c1, c2⟩ := hcl _ hc
    refine ⟨by simpa using i1, fun x hx => ?_⟩
    have hlt : (cl.getD k 0).toNat < st.length := by omega
    obtain ⟨j1, j2, j3⟩ := i2 (cl.getD k 0).toNat (by omega)
    have sb := setbit (b := (k : Int)) j1 j2 (by omega) (by omega)
    unfold set1
    by_cases e : x = (cl.getD k 0).toNat
    · have e1 : (st.set (cl.getD k 0).toNat (ior .i64 (st.getD (cl.getD k 0).toNat 0) (ishl .i64 1 k))).getD x 0 = ior .i64 (st.getD (cl.getD k 0).toNat 0) (ishl .i64 1 k) := by
        rw [e, List.getD_eq_getElem?_getD, List.getElem?_set_self hlt]; rfl
      rw [e1]
      refine ⟨sb.1, sb.2.1, fun w => ?_⟩
      rw [sb.2.2 w, j3 w, Int.toNat_natCast]
      constructor
      · rintro (⟨h1, h2⟩ | h1)
        · exact ⟨by omega, by omega⟩
        · subst h1; exact ⟨by omega, by omega⟩
      · rintro ⟨h1, h2⟩
        by_cases h3 : w = k
        · exact .inr h3
        · exact .inl ⟨by omega, by omega⟩
    · have e1 : (st.set (cl.getD k 0).toNat (ior .i64 (st.getD (cl.getD k 0).toNat 0) (ishl .i64 1 k))).getD x 0 = st.getD x 0 := by
        rw [List.getD_eq_getElem?_getD, List.getElem?_set_ne (fun h => e h.symm), ← List.getD_eq_getElem?_getD]
      rw [e1]
      obtain ⟨k1, k2, k3⟩ := i2 x hx
      refine ⟨k1, k2, fun w => ?_⟩
      rw [k3 w]
      constructor
      · rintro ⟨h1, h2⟩; exact ⟨by omega, h2⟩
      · rintro ⟨h1, h2⟩
        refine ⟨?_, h2⟩
        have : w ≠ k := fun h3 => by
          subst h3
          omega
        omega
  · have e : (List.replicate m (0 : Int)).getD x 0 = 0 := by simp [List.getD_eq_getElem?_getD, hx]
    rw [e]
    refine ⟨by omega, by omega, fun w => ?_⟩
    simp
theorem stF_map (rows cl : List Int) (m n v : Nat) (R : Rok n rows) (hv : v < n) (hl : cl.length = n) (hcl : ∀ x ∈ cl, 0 ≤ x ∧ x < m) :
    (stF cl m n).map (nbN (rows.getD v 0)) = (List.range m).map fun x : Nat => cntC rows cl n v x := by
  obtain ⟨h1, h2⟩ := stF_bit cl m n R.le hl hcl
  have h3 := stF_ok cl m n R.le hcl
  obtain ⟨r1, r2⟩ := R.row v hv
  apply List.ext_getElem (by simp [h1])
  intro x p1 p2
  simp only [List.getElem_map, List.getElem_range]
  have hx : x < m := by simpa using p2
  have p3 : x < (stF cl m n).length := by omega
  have h4 := h3 _ (List.getElem_mem p3)
  have h5 := h2 x hx
  have e1 : (stF cl m n).getD x 0 = (stF cl m n)[x] := by rw [List.getD_eq_getElem?_getD, List.getElem?_eq_getElem p3]; rfl
  rw [e1] at h5
  obtain ⟨s, hs⟩ : ∃ s : Nat, (stF cl m n)[x] = s := ⟨(stF cl m n)[x].toNat, by omega⟩
  obtain ⟨r, hr⟩ : ∃ r : Nat, rows.getD v 0 = r := ⟨(rows.getD v 0).toNat, by omega⟩
  have hp : 2 ^ n ≤ 2 ^ 62 := Nat.pow_le_pow_right (by omega) R.le
  rw [hs] at h4 h5 ⊢
  rw [hr] at r2 ⊢
  simp only [Int.toNat_natCast] at r2 h5
  unfold nbN cntC
  rw [iand_nat (by omega) (by omega), Int.toNat_natCast, pc_sum n (r &&& s) (Nat.lt_of_le_of_lt Nat.and_le_left r2)]
  refine sumF_congr fun w hw => ?_
  have e2 : (r &&& s).testBit w = true ↔ rbit rows v w = true ∧ cl.getD w 0 = (x : Int) := by
    rw [Nat.testBit_and, Bool.and_eq_true, h5 w]
    unfold rbit
    rw [hr, Int.toNat_natCast]
    constructor
    · rintro ⟨a, _, b⟩; exact ⟨a, b⟩
    · rintro ⟨a, b⟩; exact ⟨a, hw, b⟩
  simp only [e2]
/-- What is told of a vertex, in plain terms. -/
noncomputable def nuC (rows cl : List Int) (m n v : Nat) : List Int := cl.getD v 0 :: (List.range m).map fun x : Nat => cntC rows cl n v x
theorem tdF_mem {gi : Int} {rows cl : List Int} {m n : Nat} (R : Rok n rows) (hl : cl.length = n) (hcl : ∀ x ∈ cl, 0 ≤ x ∧ x < m) (v : Nat) : ∀ t, t ∈ tdF gi rows cl (stF cl m n) n v ↔ ∃ w, v ≤ w ∧ w < n ∧ t = (gi, (w : Int), nuC rows cl m n w) := by
  intro t
  by_cases h : v < n
  · rw [tdF_step h, List.mem_cons, tdF_mem R hl hcl (v + 1), stF_map rows cl m n v R h hl hcl]
    constructor
    · rintro (h1 | ⟨w, h1, h2, h3⟩)
      · exact ⟨v, by omega, h, h1⟩
      · exact ⟨w, by omega, h2, h3⟩
    · rintro ⟨w, h1, h2, h3⟩
      by_cases e : w = v
      · subst e; exact .inl h3
      · exact .inr ⟨w, by omega, h2, h3⟩
  · rw [tdF_end h]
    simp
    intro w h1 h2
    omega
 termination_by n - v
theorem tdsF_mem {rows c : Nat → List Int} {m n K : Nat} (R : ∀ i, i < K → Rok n (rows i)) (hl : ∀ i, i < K → (c i).length = n) (hcl : ∀ i, i < K → ∀ x ∈ c i, 0 ≤ x ∧ x < m) (i : Nat) : ∀ t, t ∈ tdsF rows c m n K i ↔ ∃ j w : Nat, i ≤ j ∧ j < K ∧ w < n ∧ t = ((j : Int), (w : Int), nuC (rows j) (c j) m n w) := by
  intro t
  by_cases h : i < K
  · rw [tdsF_step h, List.mem_append, tdsF_mem R hl hcl (i + 1), tdF_mem (R i h) (hl i h) (hcl i h)]
    constructor
    · rintro (⟨w, _, h1, h2⟩ | ⟨j, w, h1, h2, h3, h4⟩)
      · exact ⟨i, w, by omega, h, h1, h2⟩
      · exact ⟨j, w, by omega, h2, h3, h4⟩
    · rintro ⟨j, w, h1, h2, h3, h4⟩
      by_cases e : j = i
      · subst e; exact .inl ⟨w, by omega, h3, h4⟩
      · exact .inr ⟨j, w, by omega, h2, h3, h4⟩
  · rw [tdsF_end h]
    simp
    intro j h1 h2
    omega
 termination_by K - i
theorem tdF_nodup {gi : Int} {rows cl : List Int} {st : List Int} {n : Nat} (v : Nat) : (tdF gi rows cl st n v).Nodup ∧ ∀ t ∈ tdF gi rows cl st n v, t.1 = gi ∧ (v : Int) ≤ t.2.1 := by
  by_cases h : v < n
  · rw [tdF_step h]
    obtain ⟨h1, h2⟩ := tdF_nodup (gi := gi) (rows := rows) (cl := cl) (st := st) (n := n) (v + 1)
    refine ⟨List.nodup_cons.mpr ⟨fun hm => ?_, h1⟩, fun t ht => ?_⟩
    · have := (h2 _ hm).2
      simp only at this
      omega
    · rcases List.mem_cons.mp ht with rfl | h3
      · exact ⟨rfl, Int.le_refl _⟩
      · have := h2 _ h3
        exact ⟨this.1, by omega⟩
  · rw [tdF_end h]
    simp
 termination_by n - v
theorem tdsF_nodup {rows c : Nat → List Int} {m n K : Nat} (i : Nat) : (tdsF rows c m n K i).Nodup ∧ ∀ t ∈ tdsF rows c m n K i, (i : Int) ≤ t.1 := by
  by_cases h : i < K
  · rw [tdsF_step h]
    obtain ⟨h1, h2⟩ := tdsF_nodup (rows := rows) (c := c) (m := m) (n := n) (K := K) (i + 1)
    obtain ⟨h3, h4⟩ := tdF_nodup (gi := (i : Int)) (rows := rows i) (cl := c i) (st := stF (c i) m n) (n := n) 0
    refine ⟨List.nodup_append.mpr ⟨h3, h1, fun x hx y hy e => ?_⟩, fun t ht => ?_⟩
    · have := (h4 x hx).1
      have := h2 y hy
      subst e
      omega
    · rcases List.mem_append.mp ht with h5 | h5
      · have := (h4 t h5).1; omega
      · have := h2 t h5; omega
  · rw [tdsF_end h]
    simp
 termination_by K - i
end Go.Proofs.Ytcdcmaakcldniaa.Zv

/- A function in parts, one after the other. -/
namespace Go.Proofs.Ytcdcmaakcldniaa.Zv
open Go

/-- The first parts of a sequence, and the others. -/
def takeS : Nat → FC → FC
  | 0, .seq a _ => a
  | k + 1, .seq a b => .seq a (takeS k b)
  | _, c => c
def dropS : Nat → FC → FC
  | 0, c => c
  | k + 1, .seq _ b => dropS k b
  | _ + 1, c => c
def nseq : FC → Nat
  | .seq _ b => nseq b + 1
  | _ => 0
theorem kseq_kseq (call : VCall) (nro : Nat) (a b : FC) (r : Option (VX × FE × VH)) : kseq call nro (.seq a b) r = kseq call nro b (kseq call nro a r) := by
  match r with
  | none => rfl
  | some (.normal, e, h) => rw [kseq_normal, fcode_seq, kseq_normal]
  | some (.ret, e, h) => rfl
  | some (.exit i, e, h) => rfl
theorem kseq_parts (call : VCall) (nro : Nat) : ∀ (k : Nat) (c : FC) (r : Option (VX × FE × VH)), k + 1 ≤ nseq c → kseq call nro c r = kseq call nro (dropS (k + 1) c) (kseq call nro (takeS k c) r)
  | 0, .seq a b, r, _ => kseq_kseq call nro a b r
  | k + 1, .seq a b, r, h => by
    have h2 : k + 1 ≤ nseq b := by simp [nseq] at h; omega
    rw [kseq_kseq, kseq_parts call nro k b _ h2]
    show _ = kseq call nro (dropS (k + 1) b) (kseq call nro (.seq a (takeS k b)) r)
    rw [kseq_kseq]
theorem fcode_parts (call : VCall) (nro : Nat) (k : Nat) (c : FC) (e : FE) (h : VH) (hk : k + 1 ≤ nseq c) : fcode call nro c e h = kseq call nro (dropS (k + 1) c) (fcode call nro (takeS k c) e h) := by
  have := kseq_parts call nro k c (some (.normal, e, h)) hk
  rwa [kseq_normal, kseq_normal] at this
end Go.Proofs.Ytcdcmaakcldniaa.Zv

/- Sorting: by insertion. -/
namespace Go.Proofs.Ytcdcmaakcldniaa.Zv
open Go
variable {nro : Nat}

/-- The elements of i and j exchanged. -/
def swp (xs : List Int) (i j : Nat) : List Int := (xs.set i (xs.getD j 0)).set j (xs.getD i 0)
@[simp] theorem swp_length (xs : List Int) (i j : Nat) : (swp xs i j).length = xs.length := by simp [swp]
/-- An element brought down to its place. -/
def insD (a : Nat) : Nat → List Int → List Int
  | 0, xs => xs
  | j + 1, xs => if a < j + 1 ∧ xs.getD (j + 1) 0 < xs.getD j 0 then insD a j (swp xs (j + 1) j) else xs
@[simp] theorem insD_length (a : Nat) : ∀ (j : Nat) (xs : List Int), (insD a j xs).length = xs.length
  | 0, _ => rfl
  | j + 1, xs => by
    rw [insD]
    split
    · rw [insD_length a j, swp_length]
    · rfl
/-- Insertion sort of the elements from a to b - 1. -/
def insS (a b : Nat) (xs : List Int) : List Int := upF (fun i xs => insD a i xs) b (a + 1) xs
theorem upF_len {f : Nat → List Int → List Int} (hf : ∀ i xs, (f i xs).length = xs.length) (n i : Nat) (xs : List Int) : (upF f n i xs).length = xs.length := by
  by_cases h : i < n
  · rw [upF_step h, upF_len hf n (i + 1), hf]
  · rw [upF_end h]
 termination_by n - i
@[simp] theorem insS_length (a b : Nat) (xs : List Int) : (insS a b xs).length = xs.length := upF_len (fun i xs => insD_length a i xs) b (a + 1) xs

def ws (blk N : Nat) : Value := .slice (some ⟨blk, 0, none⟩) N N

end Go.Proofs.Ytcdcmaakcldniaa.Zv

/- Sorting, as the library does it: what is sorted, told once. -/
namespace Go.Proofs.Ytcdcmaakcldniaa.Zv
open Go Go.Sort

def getI (d : Array Nat) (x : Int) : Nat := d[x.toNat]!
def setI (d : Array Nat) (x : Int) (v : Nat) : Array Nat := d.setIfInBounds x.toNat v
@[simp] theorem setI_size (d : Array Nat) (x : Int) (v : Nat) : (setI d x v).size = d.size := by simp [setI]
def swI (d : Array Nat) (x y : Int) : Array Nat := setI (setI d x (getI d y)) y (getI d x)
@[simp] theorem swI_size (d : Array Nat) (x y : Int) : (swI d x y).size = d.size := by simp [swI]
theorem swI_swp (d : Array Nat) (x y : Int) (i j : Nat) (hx : x = i) (hy : y = j) : swI d x y = Go.Sort.swp d i j := by
  subst hx; subst hy; rfl
@[simp] theorem swp_size (d : Array Nat) (i j : Nat) : (Go.Sort.swp d i j).size = d.size := by simp [Go.Sort.swp]

/-- Elements are told by numbers: a slice S of N of them, a comparison C. -/
structure SE (nro : Nat) (ld : Bool) (sz : Nat) (S C : Value) (P : Int → Value) (ag : Nat → Value) (cm : Nat → Nat → Int) (N : Nat) (H : Array Nat → VH) : Prop where
  len : ∀ d d', (H d).length = (H d').length
  nr : ∀ d, nro ≤ (H d).length
  oS : ∀ n, (H #[]).length ≤ n → Old n S
  oC : ∀ n, (H #[]).length ≤ n → Old n C
  idx : ∀ (d : Array Nat) (x : Int), d.size = N → 0 ≤ x → x < N → vidx sz (H d) S (.int .i64 x) = some (P x, H d)
  load : ∀ (d : Array Nat) (x : Int), d.size = N → 0 ≤ x → x < N → vload ld sz (H d) (P x) = some (ag (getI d x))
  store : ∀ (d : Array Nat) (x : Int) (v : Nat), d.size = N → 0 ≤ x → x < N → vstore nro sz (H d) (P x) (ag v) = some (H (setI d x v))
  cmp : ∀ (d : Array Nat) (x y : Nat), vcallv (vcall F nro) (H d) C [ag x, ag y] = some (.int .i64 (cm x y), H d)
  upd : ∀ (d d' : Array Nat), Upd (H d) (H d')
  vln : ∀ d, d.size = N → vlen (H d) S = some (.int .i64 N, H d)
  hN : N ≤ 1000

section
variable {nro : Nat} {ld : Bool} {sz : Nat} {S C : Value} {P : Int → Value} {ag : Nat → Value} {cm : Nat → Nat → Int} {N : Nat} {H : Array Nat → VH}
theorem SE.clean (E : SE nro ld sz S C P ag cm N H) (d d' : Array Nat) (L : VH) (vs : List Value) (hv : ∀ v ∈ vs, Old (H #[]).length v) : kclean (H d) vs (H d' ++ L) = (vs, H d') :=
  cleanup_upd (E.upd d d') (by rw [E.len d #[]]; exact hv)
theorem SE.clean0 (E : SE nro ld sz S C P ag cm N H) (d d' : Array Nat) (vs : List Value) (hv : ∀ v ∈ vs, Old (H #[]).length v) : kclean (H d) vs (H d') = (vs, H d') := by
  have := E.clean d d' [] vs hv
  rwa [List.append_nil] at this
theorem SE.ln (E : SE nro ld sz S C P ag cm N H) (d : Array Nat) : (H d).length = (H #[]).length := E.len d #[]
end
theorem Upd.snoc {h h' : VH} (hu : Upd h h') (o o' : VO) (hf : flatO (h.length + 1) o') : Upd (h ++ [o]) (h' ++ [o']) := by
  refine ⟨by simp [hu.1], fun i p hp => ?_⟩
  have hl : (h ++ [o]).length = h.length + 1 := by simp
  by_cases hi : i < h'.length
  · rw [List.getElem?_append_left hi] at hp
    rcases hu.2 i p hp with h1 | h1
    · left
      have : i < h.length := (List.getElem?_eq_some_iff.mp h1).1
      rw [List.getElem?_append_left this]; exact h1
    · right
      intro r hr
      have := h1 r hr
      omega
  · rw [List.getElem?_append_right (by omega)] at hp
    by_cases hi2 : i - h'.length = 0
    · rw [hi2] at hp
      simp at hp
      subst hp
      right
      intro r hr
      have := hf r hr
      omega
    · have : i - h'.length = (i - h'.length - 1) + 1 := by omega
      rw [this] at hp
      simp at hp
/-- With an object more. -/
structure SX (nro : Nat) (ld : Bool) (sz : Nat) (S C : Value) (P : Int → Value) (ag : Nat → Value) (cm : Nat → Nat → Int) (N : Nat) (H : Array Nat → VH) : Prop where
  base : SE nro ld sz S C P ag cm N H
  ext : ∀ o, SE nro ld sz S C P ag cm N (fun d => H d ++ [o])
theorem SX.clean {nro : Nat} {ld : Bool} {sz : Nat} {S C : Value} {P : Int → Value} {ag : Nat → Value} {cm : Nat → Nat → Int} {N : Nat} {H : Array Nat → VH} (E : SX nro ld sz S C P ag cm N H) (d d' : Array Nat) (o o' : VO) (hf : ∀ n, flatO n o') (L : VH) (vs : List Value) (hv : ∀ v ∈ vs, Old ((H #[]).length + 1) v) : kclean (H d ++ [o]) vs (H d' ++ o' :: L) = (vs, H d' ++ [o']) := by
  have := cleanup_upd (L := L) ((E.base.upd d d').snoc o o' (hf _)) (vs := vs) (by rw [List.length_append, List.length_singleton, E.base.len d #[]]; exact hv)
  rwa [List.append_assoc] at this
section
variable {nro : Nat} {ld : Bool} {sz : Nat} {S C : Value} {P : Int → Value} {ag : Nat → Value} {cm : Nat → Nat → Int} {N : Nat} {H : Array Nat → VH} (E : SX nro ld sz S C P ag cm N H)
include E
theorem SX.idx (o : VO) (d : Array Nat) (x : Int) (h1 : d.size = N) (h2 : 0 ≤ x) (h3 : x < N) : vidx sz (H d ++ [o]) S (.int .i64 x) = some (P x, H d ++ [o]) := (E.ext o).idx d x h1 h2 h3
theorem SX.load (o : VO) (d : Array Nat) (x : Int) (h1 : d.size = N) (h2 : 0 ≤ x) (h3 : x < N) : vload ld sz (H d ++ [o]) (P x) = some (ag (getI d x)) := (E.ext o).load d x h1 h2 h3
theorem SX.store (o : VO) (d : Array Nat) (x : Int) (v : Nat) (h1 : d.size = N) (h2 : 0 ≤ x) (h3 : x < N) : vstore nro sz (H d ++ [o]) (P x) (ag v) = some (H (setI d x v) ++ [o]) := (E.ext o).store d x v h1 h2 h3
theorem SX.cmp (o : VO) (d : Array Nat) (x y : Nat) : vcallv (vcall F nro) (H d ++ [o]) C [ag x, ag y] = some (.int .i64 (cm x y), H d ++ [o]) := (E.ext o).cmp d x y
theorem SX.nr (d : Array Nat) : nro ≤ (H #[]).length := E.base.nr #[]
end
/-- Less, by a comparison. -/
def ltC (cm : Nat → Nat → Int) (x y : Nat) : Bool := decide (cm x y < 0)
theorem getI_nat (d : Array Nat) (x : Int) (i : Nat) (h : x = i) : getI d x = d[i]! := by subst h; rfl
end Go.Proofs.Ytcdcmaakcldniaa.Zv

/- Sorting: insertion. -/
namespace Go.Proofs.Ytcdcmaakcldniaa.Zv
open Go Go.Sort
variable {nro : Nat} {S C : Value} {P : Int → Value} {ag : Nat → Value} {cm : Nat → Nat → Int} {N : Nat} {H : Array Nat → VH}

@[simp] theorem insInner_size (lt : Nat → Nat → Bool) (a : Nat) : ∀ (j : Nat) (d : Array Nat), (insInner lt a j d).size = d.size
  | 0, d => rfl
  | j + 1, d => by
    unfold insInner
    split
    · rw [insInner_size lt a j]; simp
    · rfl
section
variable (E : SE nro true 3 S C P ag cm N H)
include E
theorem l_told_ins_1 (a b i : Nat) (d0 : Array Nat) : ∀ (j : Nat) (d : Array Nat), d.size = N → j < N →
    floop (vcall F nro) nro [0, 1, 2, 3, 8, 9] i_slices_insertionSortCmpFunc_impl_told_B1 (H d0) [S, .int .i64 a, .int .i64 b, C, .int .i64 i, .int .i64 j] (H d) =
      some (.exit 2, fl [(0, S), (1, .int .i64 a), (2, .int .i64 b), (3, C), (8, .int .i64 i)], H (insInner (ltC cm) a j d))
  | 0, d, hd, hj => by
    have hc := E.clean0 d0 d
    have hl := E.ln
    have oS := E.oS
    have oC := E.oC
    have h0 : ¬ (a : Int) < 0 := by omega
    rw [floop_at i_slices_insertionSortCmpFunc_impl_told_B1.eq_1]
    unfold insInner
    simp (disch := first | assumption | omega | (simp [*] <;> omega) | fail) [-getElem?_pos, List.getElem?_cons_zero, List.getElem?_cons_succ, hc, hl, oS, oC, h0]
  | j + 1, d, hd, hj => by
    have hc := fun q => E.clean0 d0 q
    have hl := E.ln
    have oS := E.oS
    have oC := E.oC
    have hN := E.hN
    have hi := E.idx
    have hld := E.load
    have hst := E.store
    have hcm := E.cmp
    have w1 : IntKind.i64.wrap ((j : Int) + 1 - 1) = j := by rw [show (j : Int) + 1 - 1 = j by omega]; exact wrap64 (by omega) (by omega)
    have w2 : IntKind.i64.wrap (j : Int) = j := wrap64 (by omega) (by omega)
    have g1 := getI_nat d ((j : Int) + 1) (j + 1) (by omega)
    have g2 := getI_nat d (j : Int) j rfl
    have k1 : (0 : Int) ≤ (j : Int) + 1 := by omega
    have k2 : (j : Int) + 1 < N := by omega
    have k3 : (j : Int) < N := by omega
    rw [floop_at i_slices_insertionSortCmpFunc_impl_told_B1.eq_1]
    unfold insInner
    rw [← g1, ← g2]
    by_cases c1 : a < j + 1
    · have c1' : (a : Int) < (j : Int) + 1 := by omega
      by_cases c2 : cm (getI d ((j : Int) + 1)) (getI d (j : Int)) < 0
      · have e2 : ltC cm (getI d ((j : Int) + 1)) (getI d (j : Int)) = true := decide_eq_true c2
        have ih := l_told_ins_1 a b i d0 j (Go.Sort.swp d (j + 1) j) (by simpa using hd) (by omega)
        have e3 : swI d ((j : Int) + 1) j = Go.Sort.swp d (j + 1) j := swI_swp _ _ _ _ _ (by omega) rfl
        unfold swI at e3
        rw [if_pos (by simp [e2, c1]), ← ih]
        clear ih g1 g2
        simp (disch := first | assumption | omega | (simp [*] <;> omega) | fail) [-getElem?_pos, List.getElem?_cons_zero, List.getElem?_cons_succ, hc, hl, oS, oC, hi, hld, hst, hcm, hd, w1, w2, k1, k2, k3, c1', c2, e3]
      · have e2 : ltC cm (getI d ((j : Int) + 1)) (getI d (j : Int)) = false := decide_eq_false c2
        rw [if_neg (by simp [e2])]
        clear g1 g2
        simp (disch := first | assumption | omega | (simp [*] <;> omega) | fail) [-getElem?_pos, List.getElem?_cons_zero, List.getElem?_cons_succ, hc, hl, oS, oC, hi, hld, hst, hcm, hd, w1, w2, k1, k2, k3, c1', c2]
    · have c1' : ¬ (a : Int) < (j : Int) + 1 := by omega
      rw [if_neg (by simp [c1])]
      simp (disch := first | assumption | omega | (simp [*] <;> omega) | fail) [-getElem?_pos, List.getElem?_cons_zero, List.getElem?_cons_succ, hc, hl, oS, oC, c1']
theorem c_told_ins (a b : Nat) (d : Array Nat) (hd : d.size = N) (hb : b ≤ N) (ha : a ≤ N) :
    vcall F nro k_slices_insertionSortCmpFunc_impl_told [S, .int .i64 a, .int .i64 b, C] (H d) = some (.tuple #[], H (insertionSort (ltC cm) d a b)) := by
  have hl := E.ln
  have oS := E.oS
  have oC := E.oC
  have hN := E.hN
  have hc0 := fun q vs => E.clean0 d q vs
  have lp : ∀ (k i : Nat) (q : Array Nat), q.size = N → b ≤ i + k → i ≤ N + 1 →
      floop (vcall F nro) nro [0, 1, 2, 3, 8] i_slices_insertionSortCmpFunc_impl_told_B2 (H d) [S, .int .i64 a, .int .i64 b, C, .int .i64 i] (H q) = some (.exit 0, fl [], H (insOuter (ltC cm) a b i q)) := by
    intro k
    induction k with
    | zero =>
      intro i q hq hk hi
      have h1 : ¬ i < b := by omega
      have h2 : ¬ (i : Int) < b := by omega
      rw [insOuter, if_neg h1, floop_at i_slices_insertionSortCmpFunc_impl_told_B2.eq_1]
      simp (disch := first | assumption | omega | (simp [*] <;> omega) | fail) [-getElem?_pos, List.getElem?_cons_zero, List.getElem?_cons_succ, hc0, hl, oS, oC, h2, h1]
    | succ k ih =>
      intro i q hq hk hi
      by_cases h1 : i < b
      · have h2 : (i : Int) < b := by omega
        have l1 := l_told_ins_1 E a b i q i q hq (by omega)
        have w1 : IntKind.i64.wrap ((i : Int) + 1) = (i : Int) + 1 := wrap64 (by omega) (by omega)
        have ih2 := ih (i + 1) (insInner (ltC cm) a i q) (by simpa using hq) (by omega) (by omega)
        rw [insOuter, if_pos h1, ← ih2]
        clear ih ih2
        rw [floop_at i_slices_insertionSortCmpFunc_impl_told_B2.eq_1]
        simp (disch := first | assumption | omega | (simp [*] <;> omega) | fail) [-getElem?_pos, List.getElem?_cons_zero, List.getElem?_cons_succ, hc0, hl, oS, oC, h2, h1, l1, w1]
      · have h2 : ¬ (i : Int) < b := by omega
        rw [insOuter, if_neg h1, floop_at i_slices_insertionSortCmpFunc_impl_told_B2.eq_1]
        simp (disch := first | assumption | omega | (simp [*] <;> omega) | fail) [-getElem?_pos, List.getElem?_cons_zero, List.getElem?_cons_succ, hc0, hl, oS, oC, h2, h1]
  have l1 := lp b (a + 1) d hd (by omega) (by omega)
  have w1 : IntKind.i64.wrap ((a : Int) + 1) = (a : Int) + 1 := wrap64 (by omega) (by omega)
  refine v_slices_insertionSortCmpFunc_impl_told (by simp [i_slices_insertionSortCmpFunc_impl_told]) ?_
  rw [fbody_eq]
  unfold insertionSort
  simp only [Int.natCast_add, Int.natCast_one] at l1
  simp (disch := first | assumption | omega | (simp [*] <;> omega) | fail) [-getElem?_pos, List.getElem?_cons_zero, List.getElem?_cons_succ, i_slices_insertionSortCmpFunc_impl_told, w1, l1, hc0, fresults, fresL]
end
end Go.Proofs.Ytcdcmaakcldniaa.Zv

/- Sorting: heaps. -/
namespace Go.Proofs.Ytcdcmaakcldniaa.Zv
open Go Go.Sort
variable {nro : Nat} {S C : Value} {P : Int → Value} {ag : Nat → Value} {cm : Nat → Nat → Int} {N : Nat} {H : Array Nat → VH}

theorem siftDown_size (lt : Nat → Nat → Bool) (hi first : Nat) (root : Nat) (d : Array Nat) : (siftDown lt hi first root d).size = d.size := by
  rw [siftDown]
  split
  · rfl
  · split
    · split
      · rfl
      · split
        · rw [siftDown_size lt hi first (2 * root + 2)]; simp
        · rfl
    · split
      · rfl
      · rw [siftDown_size lt hi first (2 * root + 1)]; simp
 termination_by hi - root
section
variable (E : SE nro true 3 S C P ag cm N H)
include E
set_option maxHeartbeats 2000000 in
theorem l_told_sift (hi first : Nat) (hf : first + hi ≤ N) (d0 : Array Nat) (root : Nat) (d : Array Nat) (hd : d.size = N) (hr : root ≤ N) :
    ∃ x, (x = .exit 0 ∨ x = .ret) ∧ floop (vcall F nro) nro [0, 2, 3, 4, 10] i_slices_siftDownCmpFunc_impl_told_B1 (H d0) [S, .int .i64 hi, .int .i64 first, C, .int .i64 root] (H d) =
      some (x, fl [], H (siftDown (ltC cm) hi first root d)) := by
  have hc := fun q => E.clean0 d0 q
  have hl := E.ln
  have oS := E.oS
  have oC := E.oC
  have hN := E.hN
  have hix := E.idx
  have hld := E.load
  have hst := E.store
  have hcm := E.cmp
  rw [siftDown]
  by_cases c0 : 2 * root + 1 ≥ hi
  · have c0' : (hi : Int) ≤ 2 * (root : Int) + 1 := by omega
    rw [dif_pos c0]
    refine ⟨.exit 0, .inl rfl, ?_⟩
    rw [floop_at i_slices_siftDownCmpFunc_impl_told_B1.eq_1]
    simp (disch := first | assumption | omega | (simp [*] <;> omega) | fail) [-getElem?_pos, List.getElem?_cons_zero, List.getElem?_cons_succ, hc, hl, oS, oC, wrap64, c0']
  · have c0' : ¬ (hi : Int) ≤ 2 * (root : Int) + 1 := by omega
    rw [dif_neg c0]
    have g0 := getI_nat d ((first : Int) + root) (first + root) (by omega)
    have g1 := getI_nat d ((first : Int) + (2 * (root : Int) + 1)) (first + (2 * root + 1)) (by omega)
    have g2 := getI_nat d ((first : Int) + (2 * (root : Int) + 1) + 1) (first + (2 * root + 1) + 1) (by omega)
    have g3 := getI_nat d ((first : Int) + (2 * (root : Int) + 1 + 1)) (first + (2 * root + 2)) (by omega)
    have g4 : getI d ((first : Int) + (2 * (root : Int) + 1) + 1) = getI d ((first : Int) + (2 * (root : Int) + 1 + 1)) := by rw [Int.add_assoc]
    rw [← g0, ← g1, ← g2, ← g3]
    by_cases c1 : 2 * root + 1 + 1 < hi
    · have c1' : 2 * (root : Int) + 1 + 1 < hi := by omega
      by_cases c2 : cm (getI d ((first : Int) + (2 * (root : Int) + 1))) (getI d ((first : Int) + (2 * (root : Int) + 1) + 1)) < 0
      · have e2 : ltC cm (getI d ((first : Int) + (2 * (root : Int) + 1))) (getI d ((first : Int) + (2 * (root : Int) + 1) + 1)) = true := decide_eq_true c2
        rw [if_pos (by simp [e2, c1])]
        by_cases c3 : cm (getI d ((first : Int) + root)) (getI d ((first : Int) + (2 * (root : Int) + 1 + 1))) < 0
        · have e3 : ltC cm (getI d ((first : Int) + root)) (getI d ((first : Int) + (2 * (root : Int) + 1 + 1))) = true := decide_eq_true c3
          rw [if_neg (by simp [e3]), dif_pos (by omega)]
          obtain ⟨x, hx, ih⟩ := l_told_sift hi first hf d0 (2 * root + 2) (Go.Sort.swp d (first + root) (first + (2 * root + 2))) (by simpa using hd) (by omega)
          refine ⟨x, hx, ?_⟩
          have e4 : swI d ((first : Int) + root) ((first : Int) + (2 * (root : Int) + 1 + 1)) = Go.Sort.swp d (first + root) (first + (2 * root + 2)) := swI_swp _ _ _ _ _ (by omega) (by omega)
          unfold swI at e4
          rw [← ih, show ((2 * root + 2 : Nat) : Int) = 2 * (root : Int) + 1 + 1 by omega]
          clear ih g0 g1 g2 g3 e2 e3
          rw [floop_at i_slices_siftDownCmpFunc_impl_told_B1.eq_1]
          simp (disch := first | assumption | omega | (simp [*] <;> omega) | fail) [-getElem?_pos, List.getElem?_cons_zero, List.getElem?_cons_succ, hc, hl, oS, oC, hix, hld, hst, hcm, hd, wrap64, c0', c1', c2, c3, e4]
        · have e3 : ltC cm (getI d ((first : Int) + root)) (getI d ((first : Int) + (2 * (root : Int) + 1 + 1))) = false := decide_eq_false c3
          rw [if_pos (by simp [e3])]
          refine ⟨.ret, .inr rfl, ?_⟩
          clear g0 g1 g2 g3 e2 e3
          rw [floop_at i_slices_siftDownCmpFunc_impl_told_B1.eq_1]
          simp (disch := first | assumption | omega | (simp [*] <;> omega) | fail) [-getElem?_pos, List.getElem?_cons_zero, List.getElem?_cons_succ, hc, hl, oS, oC, hix, hld, hst, hcm, hd, wrap64, c0', c1', c2, c3]
      · have e2 : ltC cm (getI d ((first : Int) + (2 * (root : Int) + 1))) (getI d ((first : Int) + (2 * (root : Int) + 1) + 1)) = false := decide_eq_false c2
        rw [if_neg (by simp [e2])]
        by_cases c3 : cm (getI d ((first : Int) + root)) (getI d ((first : Int) + (2 * (root : Int) + 1))) < 0
        · have e3 : ltC cm (getI d ((first : Int) + root)) (getI d ((first : Int) + (2 * (root : Int) + 1))) = true := decide_eq_true c3
          rw [if_neg (by simp [e3])]
          obtain ⟨x, hx, ih⟩ := l_told_sift hi first hf d0 (2 * root + 1) (Go.Sort.swp d (first + root) (first + (2 * root + 1))) (by simpa using hd) (by omega)
          refine ⟨x, hx, ?_⟩
          have e4 : swI d ((first : Int) + root) ((first : Int) + (2 * (root : Int) + 1)) = Go.Sort.swp d (first + root) (first + (2 * root + 1)) := swI_swp _ _ _ _ _ (by omega) (by omega)
          unfold swI at e4
          rw [← ih, show ((2 * root + 1 : Nat) : Int) = 2 * (root : Int) + 1 by omega]
          clear ih g0 g1 g2 g3 e2 e3
          rw [floop_at i_slices_siftDownCmpFunc_impl_told_B1.eq_1]
          simp (disch := first | assumption | omega | (simp [*] <;> omega) | fail) [-getElem?_pos, List.getElem?_cons_zero, List.getElem?_cons_succ, hc, hl, oS, oC, hix, hld, hst, hcm, hd, wrap64, c0', c1', c2, c3, e4]
        · have e3 : ltC cm (getI d ((first : Int) + root)) (getI d ((first : Int) + (2 * (root : Int) + 1))) = false := decide_eq_false c3
          rw [if_pos (by simp [e3])]
          refine ⟨.ret, .inr rfl, ?_⟩
          clear g0 g1 g2 g3 e2 e3
          rw [floop_at i_slices_siftDownCmpFunc_impl_told_B1.eq_1]
          simp (disch := first | assumption | omega | (simp [*] <;> omega) | fail) [-getElem?_pos, List.getElem?_cons_zero, List.getElem?_cons_succ, hc, hl, oS, oC, hix, hld, hst, hcm, hd, wrap64, c0', c1', c2, c3]
    · have c1' : ¬ 2 * (root : Int) + 1 + 1 < hi := by omega
      rw [if_neg (by simp [c1])]
      by_cases c3 : cm (getI d ((first : Int) + root)) (getI d ((first : Int) + (2 * (root : Int) + 1))) < 0
      · have e3 : ltC cm (getI d ((first : Int) + root)) (getI d ((first : Int) + (2 * (root : Int) + 1))) = true := decide_eq_true c3
        rw [if_neg (by simp [e3])]
        obtain ⟨x, hx, ih⟩ := l_told_sift hi first hf d0 (2 * root + 1) (Go.Sort.swp d (first + root) (first + (2 * root + 1))) (by simpa using hd) (by omega)
        refine ⟨x, hx, ?_⟩
        have e4 : swI d ((first : Int) + root) ((first : Int) + (2 * (root : Int) + 1)) = Go.Sort.swp d (first + root) (first + (2 * root + 1)) := swI_swp _ _ _ _ _ (by omega) (by omega)
        unfold swI at e4
        rw [← ih, show ((2 * root + 1 : Nat) : Int) = 2 * (root : Int) + 1 by omega]
        clear ih g0 g1 g2 g3 e3
        rw [floop_at i_slices_siftDownCmpFunc_impl_told_B1.eq_1]
        simp (disch := first | assumption | omega | (simp [*] <;> omega) | fail) [-getElem?_pos, List.getElem?_cons_zero, List.getElem?_cons_succ, hc, hl, oS, oC, hix, hld, hst, hcm, hd, wrap64, c0', c1', c3, e4]
      · have e3 : ltC cm (getI d ((first : Int) + root)) (getI d ((first : Int) + (2 * (root : Int) + 1))) = false := decide_eq_false c3
        rw [if_pos (by simp [e3])]
        refine ⟨.ret, .inr rfl, ?_⟩
        clear g0 g1 g2 g3 e3
        rw [floop_at i_slices_siftDownCmpFunc_impl_told_B1.eq_1]
        simp (disch := first | assumption | omega | (simp [*] <;> omega) | fail) [-getElem?_pos, List.getElem?_cons_zero, List.getElem?_cons_succ, hc, hl, oS, oC, hix, hld, hst, hcm, hd, wrap64, c0', c1', c3]
 termination_by hi - root

theorem c_told_sift (hi first root : Nat) (hf : first + hi ≤ N) (d : Array Nat) (hd : d.size = N) (hr : root ≤ N) :
    vcall F nro k_slices_siftDownCmpFunc_impl_told [S, .int .i64 root, .int .i64 hi, .int .i64 first, C] (H d) = some (.tuple #[], H (siftDown (ltC cm) hi first root d)) := by
  have hc0 := fun q vs => E.clean0 d q vs
  obtain ⟨x, hx, lp⟩ := l_told_sift E hi first hf d root d hd hr
  refine v_slices_siftDownCmpFunc_impl_told (by simp [i_slices_siftDownCmpFunc_impl_told]) ?_
  rw [fbody_eq]
  rcases hx with rfl | rfl
  · simp (disch := first | assumption | omega | (simp [*] <;> omega) | fail) [-getElem?_pos, List.getElem?_cons_zero, List.getElem?_cons_succ, i_slices_siftDownCmpFunc_impl_told, lp, hc0, fresults, fresL]
  · simp (disch := first | assumption | omega | (simp [*] <;> omega) | fail) [-getElem?_pos, List.getElem?_cons_zero, List.getElem?_cons_succ, i_slices_siftDownCmpFunc_impl_told, lp, hc0, fresults, fresL]

omit E in
theorem heapBuild_size (lt : Nat → Nat → Bool) (hi first : Nat) : ∀ (k : Nat) (d : Array Nat), (heapBuild lt hi first k d).size = d.size
  | 0, d => rfl
  | k + 1, d => by rw [heapBuild, heapBuild_size lt hi first k, siftDown_size]
theorem c_told_heap (a b : Nat) (d : Array Nat) (hd : d.size = N) (hab : a ≤ b) (hb : b ≤ N) :
    vcall F nro k_slices_heapSortCmpFunc_impl_told [S, .int .i64 a, .int .i64 b, C] (H d) = some (.tuple #[], H (heapSort (ltC cm) d a b)) := by
  have hc0 := fun q vs => E.clean0 d q vs
  have hl := E.ln
  have oS := E.oS
  have oC := E.oC
  have hN := E.hN
  have hix := E.idx
  have hld := E.load
  have hst := E.store
  obtain ⟨hi, hhi⟩ : ∃ hi, hi = b - a := ⟨_, rfl⟩
  have lp1 : ∀ (k : Nat) (q : Array Nat), q.size = N → k ≤ N + 1 →
      floop (vcall F nro) nro [0, 3, 8, 9, 10, 11] i_slices_heapSortCmpFunc_impl_told_B1 (H d) [S, C, .int .i64 a, .int .i64 0, .int .i64 hi, .int .i64 ((k : Int) - 1)] (H q) = some (.exit 0, fl [(0, S), (3, C), (8, .int .i64 a), (9, .int .i64 0), (10, .int .i64 hi)], H (heapBuild (ltC cm) hi a k q)) := by
    intro k
    induction k with
    | zero =>
      intro q hq hk
      rw [floop_at i_slices_heapSortCmpFunc_impl_told_B1.eq_1]
      simp (disch := first | assumption | omega | (simp [*] <;> omega) | fail) [-getElem?_pos, List.getElem?_cons_zero, List.getElem?_cons_succ, heapBuild, hc0, hl, oS, oC]
    | succ k ih =>
      intro q hq hk
      have hcall := c_told_sift E hi a k (by omega) q hq (by omega)
      have ih2 := ih (siftDown (ltC cm) hi a k q) (by rw [siftDown_size]; exact hq) (by omega)
      rw [heapBuild, ← ih2]
      have e1 : ((k + 1 : Nat) : Int) - 1 = k := by omega
      rw [e1]
      clear ih ih2
      rw [floop_at i_slices_heapSortCmpFunc_impl_told_B1.eq_1]
      simp (disch := first | assumption | omega | (simp [*] <;> omega) | fail) [-getElem?_pos, List.getElem?_cons_zero, List.getElem?_cons_succ, hc0, hl, oS, oC, hcall, wrap64]
  have hc1 := fun q' q vs => E.clean0 q' q vs
  have lp2 : ∀ (d1 : Array Nat) (k : Nat) (q : Array Nat), q.size = N → k ≤ hi →
      floop (vcall F nro) nro [0, 3, 8, 9, 12] i_slices_heapSortCmpFunc_impl_told_B2 (H d1) [S, C, .int .i64 a, .int .i64 0, .int .i64 ((k : Int) - 1)] (H q) = some (.exit 2, fl [], H (heapPop (ltC cm) a k q)) := by
    intro d1 k
    induction k with
    | zero =>
      intro q hq hk
      rw [floop_at i_slices_heapSortCmpFunc_impl_told_B2.eq_1]
      simp (disch := first | assumption | omega | (simp [*] <;> omega) | fail) [-getElem?_pos, List.getElem?_cons_zero, List.getElem?_cons_succ, heapPop, hc1, hl, oS, oC]
    | succ k ih =>
      intro q hq hk
      have e4 : swI q (a : Int) ((a : Int) + k) = Go.Sort.swp q a (a + k) := swI_swp _ _ _ _ _ rfl (by omega)
      unfold swI at e4
      have hcall := c_told_sift E k a 0 (by omega) (Go.Sort.swp q a (a + k)) (by simpa using hq) (by omega)
      have ih2 := ih (siftDown (ltC cm) k a 0 (Go.Sort.swp q a (a + k))) (by rw [siftDown_size]; simpa using hq) (by omega)
      rw [heapPop, ← ih2]
      have e1 : ((k + 1 : Nat) : Int) - 1 = k := by omega
      rw [e1]
      simp only [Int.natCast_zero] at hcall
      clear ih ih2
      rw [floop_at i_slices_heapSortCmpFunc_impl_told_B2.eq_1]
      simp (disch := first | assumption | omega | (simp [*] <;> omega) | fail) [-getElem?_pos, List.getElem?_cons_zero, List.getElem?_cons_succ, hc1, hl, oS, oC, hix, hld, hst, hq, e4, hcall, wrap64]
  have e1 : (((hi - 1) / 2 + 1 : Nat) : Int) - 1 = ((hi : Int) - 1).tdiv 2 := by
    by_cases c : hi = 0
    · subst c; rfl
    · rw [Int.tdiv_eq_ediv_of_nonneg (by omega)]; omega
  have l1 := lp1 ((hi - 1) / 2 + 1) d hd (by omega)
  rw [e1] at l1
  have l2 := lp2 (heapBuild (ltC cm) hi a ((hi - 1) / 2 + 1) d) hi (heapBuild (ltC cm) hi a ((hi - 1) / 2 + 1) d) (by rw [heapBuild_size]; exact hd) (Nat.le_refl _)
  have w1 : IntKind.i64.wrap ((b : Int) - a) = hi := by rw [show (b : Int) - a = hi by omega]; exact wrap64 (by omega) (by omega)
  have w2 : IntKind.i64.wrap ((hi : Int) - 1) = (hi : Int) - 1 := wrap64 (by omega) (by omega)
  have w3 : IntKind.i64.wrap (((hi : Int) - 1).tdiv 2) = ((hi : Int) - 1).tdiv 2 := by rw [← e1]; exact wrap64 (by omega) (by omega)
  refine v_slices_heapSortCmpFunc_impl_told (by simp [i_slices_heapSortCmpFunc_impl_told]) ?_
  rw [fbody_eq]
  unfold heapSort
  rw [← hhi]
  clear lp1 lp2
  simp (disch := first | assumption | omega | (simp [*] <;> omega) | fail) [-getElem?_pos, List.getElem?_cons_zero, List.getElem?_cons_succ, i_slices_heapSortCmpFunc_impl_told, w1, w2, w3, l1, l2, hc0, fresults, fresL]
end
end Go.Proofs.Ytcdcmaakcldniaa.Zv

/- Sorting: reversing, breaking patterns, choosing a pivot. -/
namespace Go.Proofs.Ytcdcmaakcldniaa.Zv
open Go Go.Sort
variable {nro : Nat} {S C : Value} {P : Int → Value} {ag : Nat → Value} {cm : Nat → Nat → Int} {N : Nat} {H : Array Nat → VH}

section
variable (E : SE nro true 3 S C P ag cm N H)
include E
theorem l_told_rev (d0 : Array Nat) (i : Nat) (j : Int) (hj0 : -1 ≤ j) (hjN : j < N) (hi : i ≤ N + 1) (d : Array Nat) (hd : d.size = N) :
    floop (vcall F nro) nro [0, 8, 9] i_slices_reverseRangeCmpFunc_impl_told_B1 (H d0) [S, .int .i64 i, .int .i64 j] (H d) = some (.exit 0, fl [], H (reverseLoop i j.toNat d)) := by
  have hc := fun q => E.clean0 d0 q
  have hl := E.ln
  have oS := E.oS
  have oC := E.oC
  have hN := E.hN
  have hix := E.idx
  have hld := E.load
  have hst := E.store
  rw [reverseLoop]
  by_cases c : (i : Int) < j
  · rw [if_pos (by omega)]
    have ih := l_told_rev d0 (i + 1) (j - 1) (by omega) (by omega) (by omega) (Go.Sort.swp d i j.toNat) (by simpa using hd)
    have e1 : (j - 1).toNat = j.toNat - 1 := by omega
    rw [e1] at ih
    have e4 : swI d (i : Int) j = Go.Sort.swp d i j.toNat := swI_swp _ _ _ _ _ rfl (by omega)
    unfold swI at e4
    rw [← ih]
    clear ih
    rw [floop_at i_slices_reverseRangeCmpFunc_impl_told_B1.eq_1]
    simp (disch := first | assumption | omega | (simp [*] <;> omega) | fail) [-getElem?_pos, List.getElem?_cons_zero, List.getElem?_cons_succ, hc, hl, oS, oC, hix, hld, hst, hd, wrap64, c, e4]
  · rw [if_neg (by omega)]
    rw [floop_at i_slices_reverseRangeCmpFunc_impl_told_B1.eq_1]
    simp (disch := first | assumption | omega | (simp [*] <;> omega) | fail) [-getElem?_pos, List.getElem?_cons_zero, List.getElem?_cons_succ, hc, hl, oS, oC, c]
 termination_by (j - i).toNat
theorem c_told_rev (a b : Nat) (d : Array Nat) (hd : d.size = N) (hab : a < b) (hb : b ≤ N) :
    vcall F nro k_slices_reverseRangeCmpFunc_impl_told [S, .int .i64 a, .int .i64 b, C] (H d) = some (.tuple #[], H (reverseRange d a b)) := by
  have hc0 := fun q vs => E.clean0 d q vs
  have hN := E.hN
  have l1 := l_told_rev E d a ((b : Int) - 1) (by omega) (by omega) (by omega) d hd
  rw [show ((b : Int) - 1).toNat = b - 1 by omega] at l1
  refine v_slices_reverseRangeCmpFunc_impl_told (by simp [i_slices_reverseRangeCmpFunc_impl_told]) ?_
  rw [fbody_eq]
  unfold reverseRange
  simp (disch := first | assumption | omega | (simp [*] <;> omega) | fail) [-getElem?_pos, List.getElem?_cons_zero, List.getElem?_cons_succ, i_slices_reverseRangeCmpFunc_impl_told, wrap64, l1, hc0, fresults, fresL]
end

/-! ### numbers that seem to be drawn -/
theorem c_xorshift (K : VH) (hn : nro ≤ K.length) (r : Int) : ∃ r' : Nat, r' < 18446744073709551616 ∧ vcall F nro k_slices_xorshift_Next [.pointer (some ⟨K.length, 0, some 1⟩)] (K ++ [⟨0, [.int .u64 r]⟩]) = some (.int .u64 r', K ++ [⟨0, [.int .u64 r']⟩]) := by
  obtain ⟨r1, h1⟩ : ∃ x, x = ixor .u64 r (ishl .u64 r 13) := ⟨_, rfl⟩
  obtain ⟨r2, h2⟩ : ∃ x, x = ixor .u64 r1 (ishr .u64 r1 7) := ⟨_, rfl⟩
  obtain ⟨r3, h3⟩ : ∃ x, x = ixor .u64 r2 (ishl .u64 r2 17) := ⟨_, rfl⟩
  have h4 : 0 ≤ r3 ∧ r3 < 18446744073709551616 := by
    rw [h3, ixor_eq]
    have := IntKind.wrap_u64 ((BitVec.ofInt IntKind.u64.bits r2 ^^^ BitVec.ofInt IntKind.u64.bits (ishl .u64 r2 17)).toNat : Int)
    rw [this]
    omega
  refine ⟨r3.toNat, by omega, ?_⟩
  rw [show ((r3.toNat : Nat) : Int) = r3 by omega]
  have hn' := fun k => Nat.le_trans hn (Nat.le_add_right K.length k)
  refine v_slices_xorshift_Next (by simp [i_slices_xorshift_Next]) ?_
  rw [fbody_eq]
  simp (disch := first | assumption | omega | (simp [*] <;> omega) | fail) [i_slices_xorshift_Next, h1.symm, h2.symm, h3.symm, hn, hn']

set_option maxRecDepth 20000 in
theorem c_bits_Len64x (x : Nat) (hx : x ≤ 255) (h : VH) : ∃ y : Nat, y ≤ 8 ∧ x < 2 ^ y ∧ 2 ^ y ≤ 2 * x + 1 ∧ vcall F nro k_math_bits_Len64 [.int .u64 x] h = some (.int .i64 y, h) := by
  have c1 : ¬ (4294967296 : Int) ≤ x := by omega
  have c2 : ¬ (65536 : Int) ≤ x := by omega
  have c3 : ¬ (256 : Int) ≤ x := by omega
  have w : IntKind.u8.wrap (x : Int) = x := wrapu8 (by omega) (by omega)
  obtain ⟨i, hi⟩ : ∃ i, i = i_math_bits_Len64 := ⟨_, rfl⟩
  have hr : ∃ y : Nat, y ≤ 8 ∧ x < 2 ^ y ∧ 2 ^ y ≤ 2 * x + 1 ∧ fbody (vcall F nro) nro i [.int .u64 x] h = some (.int .i64 y, h) := by
    unfold i_math_bits_Len64 at hi
    generalize hS : (ByteArray.mk _) = S at hi
    have hsz : S.size = 256 := by rw [← hS]; rfl
    have hT : ∀ x, x < 256 → (match S.data[x]? with | some b => decide (b.toNat ≤ 8) && decide (x < 2 ^ b.toNat) && decide (2 ^ b.toNat ≤ 2 * x + 1) | none => false) = true := by
      rw [← hS]; decide +kernel
    have hx2 : x < S.size := by omega
    obtain ⟨b, hb⟩ : ∃ b : UInt8, S[x]? = some b := ⟨S[x], by simp [getElem?_pos, hx2]⟩
    have hb3 : S.data[x]? = some b := by
      rw [← hb]
      rw [getElem?_pos S x hx2, getElem?_pos S.data x hx2]
      rfl
    have hTx := hT x (by omega)
    rw [hb3] at hTx
    simp only [Bool.and_eq_true, decide_eq_true_eq] at hTx
    obtain ⟨⟨t1, t2⟩, t3⟩ := hTx
    clear hS hT
    refine ⟨b.toNat, t1, t2, t3, ?_⟩
    rw [fbody_eq, hi]
    have hb2 : b.toNat < 256 := b.toNat_lt
    have w2 : IntKind.i64.wrap ((b.toNat : Nat) : Int) = b.toNat := wrap64 (by omega) (by omega)
    clear hi t1 t2 t3 hb3
    simp (disch := first | assumption | omega | (simp [*] <;> omega) | fail) [-getElem?_pos, vop, c1, c2, c3, w, hb, w2]
  obtain ⟨y, h1, h2, h3, hr⟩ := hr
  refine ⟨y, h1, h2, h3, v_math_bits_Len64 (by show 1 ≤ 25; omega) ?_⟩
  rw [← hi]
  exact hr
theorem c_pow2 (x : Nat) (hx : x ≤ 255) (h : VH) : ∃ y : Nat, y ≤ 8 ∧ x < 2 ^ y ∧ 2 ^ y ≤ 2 * x + 1 ∧ vcall F nro k_slices_nextPowerOfTwo [.int .i64 x] h = some (.int .u64 (2 ^ y : Nat), h) := by
  obtain ⟨y, h1, h2, h3, e⟩ := c_bits_Len64x (nro := nro) x hx h
  have e2 : vcall F nro k_math_bits_Len [.int .u64 x] h = some (.int .i64 y, h) := by
    refine v_math_bits_Len (by simp [i_math_bits_Len]) ?_
    rw [fbody_eq]
    simp (disch := first | assumption | omega | (simp [*] <;> omega) | fail) [i_math_bits_Len, e]
  refine ⟨y, h1, h2, h3, v_slices_nextPowerOfTwo (by simp [i_slices_nextPowerOfTwo]) ?_⟩
  rw [fbody_eq]
  have w1 : IntKind.u64.wrap (x : Int) = x := wrapu64 (by omega) (by omega)
  have hs : ishl .u64 1 (y : Int) = ((2 ^ y : Nat) : Int) := by
    rw [ishl_eq]
    have hm : min (y : Int).toNat IntKind.u64.bits = y := by
      rw [Int.toNat_natCast]
      show min y 64 = y
      omega
    rw [hm, Int.one_mul]
    have : (2 : Nat) ^ y ≤ 511 := by omega
    have e3 : ((2 : Int) ^ y) = ((2 ^ y : Nat) : Int) := by simp
    rw [e3]
    exact wrapu64 (by omega) (by omega)
  obtain ⟨z, hz⟩ : ∃ z, z = 2 ^ y := ⟨_, rfl⟩
  rw [← hz] at hs ⊢
  clear h2 h3 hz
  have hy0 : ¬ (y : Int) < 0 := by omega
  simp (disch := first | assumption | omega | (simp [*] <;> omega) | fail) [i_slices_nextPowerOfTwo, w1, e2, hs, hy0]
end Go.Proofs.Ytcdcmaakcldniaa.Zv

/- Sorting: patterns are broken. -/
namespace Go.Proofs.Ytcdcmaakcldniaa.Zv
open Go Go.Sort
variable {nro : Nat} {S C : Value} {P : Int → Value} {ag : Nat → Value} {cm : Nat → Nat → Int} {N : Nat} {H : Array Nat → VH}

theorem iand_u64 (a : Int) (m : Nat) (hm : m < 18446744073709551616) : 0 ≤ iand .u64 a m ∧ iand .u64 a m ≤ m := by
  rw [iand_eq]
  have h1 : (BitVec.ofInt IntKind.u64.bits a &&& BitVec.ofInt IntKind.u64.bits (m : Int)).toNat ≤ m := by
    rw [BitVec.toNat_and]
    refine Nat.le_trans Nat.and_le_right ?_
    show (BitVec.ofInt 64 (m : Int)).toNat ≤ m
    rw [BitVec.toNat_ofInt]
    omega
  obtain ⟨t, ht⟩ : ∃ t, t = (BitVec.ofInt IntKind.u64.bits a &&& BitVec.ofInt IntKind.u64.bits (m : Int)).toNat := ⟨_, rfl⟩
  rw [← ht] at h1 ⊢
  clear ht
  have h2 : IntKind.u64.wrap (t : Int) = t := wrapu64 (by omega) (by omega)
  rw [h2]
  omega
theorem swp_permI {d : Array Nat} {a b i j : Nat} (h1 : a ≤ i) (h2 : i < b) (h3 : a ≤ j) (h4 : j < b) (h5 : b ≤ d.size) : PermIn a b d (Go.Sort.swp d i j) := swp_permIn d a b i j h1 h2 h3 h4 h5

theorem SX.get (E : SX nro true 3 S C P ag cm N H) (d : Array Nat) (o : VO) : (H d ++ [o])[(H #[]).length]? = some o := by
  rw [← E.base.ln d]; simp
section
variable (E : SX nro true 3 S C P ag cm N H)
include E
theorem l_told_break (a b m : Nat) (w : Nat) (hm : m = 2 * w) (h8 : 8 ≤ b - a) (hb : b ≤ N) (hN : N ≤ 255) (hm2 : b - a < m) (hm3 : m ≤ 2 * (b - a) + 1) (d0 : Array Nat) (r0 : Int) : ∀ (k i : Nat) (r : Int) (d : Array Nat), d.size = N → i + k = a + (b - a) / 4 * 2 + 2 → a + 1 ≤ i →
    ∃ d' r', d'.size = N ∧ PermIn a b d d' ∧ floop (vcall F nro) nro [0, 1, 8, 9, 10, 11] i_slices_breakPatternsCmpFunc_impl_told_B1 (H d0 ++ [⟨0, [.int .u64 r0]⟩]) [S, .int .i64 a, .int .i64 ((b - a : Nat) : Int), .pointer (some ⟨(H #[]).length, 0, some 1⟩), .int .u64 m, .int .i64 i] (H d ++ [⟨0, [.int .u64 r]⟩]) =
      some (.exit 0, fl [], H d' ++ [⟨0, [.int .u64 r']⟩])
  | 0, i, r, d, hd, hk, hi => by
    refine ⟨d, r, hd, permIn_refl d a b, ?_⟩
    have hcl := fun vs => E.clean d0 d ⟨0, [.int .u64 r0]⟩ ⟨0, [.int .u64 r]⟩ (fun n => by intro q hq; simp [orefs, trefs, vrefs, crefs, arefs] at hq) [] vs
    have hl := E.base.ln
    have oS := E.base.oS
    obtain ⟨len, hlen⟩ : ∃ len, len = b - a := ⟨_, rfl⟩
    rw [← hlen]
    obtain ⟨q, hq⟩ : ∃ q : Nat, q = len / 4 := ⟨_, rfl⟩
    have t1 : ((len : Nat) : Int).tdiv 4 = q := by rw [Int.tdiv_eq_ediv_of_nonneg (by omega)]; omega
    have hq2 : q ≤ 255 := by omega
    have w1 : IntKind.i64.wrap (q : Int) = q := wrap64 (by omega) (by omega)
    have w2 : IntKind.i64.wrap ((q : Int) * 2) = (q : Int) * 2 := wrap64 (by omega) (by omega)
    have w3 : IntKind.i64.wrap ((a : Int) + (q : Int) * 2) = (a : Int) + (q : Int) * 2 := wrap64 (by omega) (by omega)
    have w4 : IntKind.i64.wrap ((a : Int) + (q : Int) * 2 + 1) = (a : Int) + (q : Int) * 2 + 1 := wrap64 (by omega) (by omega)
    have c1 : ¬ (i : Int) ≤ (a : Int) + (q : Int) * 2 + 1 := by omega
    rw [floop_at i_slices_breakPatternsCmpFunc_impl_told_B1.eq_1]
    simp (disch := first | assumption | omega | (simp [*] <;> omega) | fail) [-getElem?_pos, List.getElem?_cons_zero, List.getElem?_cons_succ, hcl, hl, oS, t1, w1, w2, w3, w4, c1]
  | k + 1, i, r, d, hd, hk, hi => by
    have hcl := fun r' d' vs => E.clean d0 d' ⟨0, [.int .u64 r0]⟩ ⟨0, [.int .u64 r']⟩ (fun n => by intro q hq; simp [orefs, trefs, vrefs, crefs, arefs] at hq) [] vs
    have hl := E.base.ln
    have oS := E.base.oS
    have hnr := E.base.nr #[]
    have hix := E.idx
    have hld := E.load
    have hst := E.store
    obtain ⟨r', hr', ex⟩ := c_xorshift (nro := nro) (H d) (E.base.nr d) r
    rw [hl d] at ex
    obtain ⟨len, hlen⟩ : ∃ len, len = b - a := ⟨_, rfl⟩
    rw [← hlen]
    obtain ⟨q, hq⟩ : ∃ q : Nat, q = len / 4 := ⟨_, rfl⟩
    have t1 : ((len : Nat) : Int).tdiv 4 = q := by rw [Int.tdiv_eq_ediv_of_nonneg (by omega)]; omega
    have hq2 : q ≤ 255 := by omega
    have w1 : IntKind.i64.wrap (q : Int) = q := wrap64 (by omega) (by omega)
    have w2 : IntKind.i64.wrap ((q : Int) * 2) = (q : Int) * 2 := wrap64 (by omega) (by omega)
    have w3 : IntKind.i64.wrap ((a : Int) + (q : Int) * 2) = (a : Int) + (q : Int) * 2 := wrap64 (by omega) (by omega)
    have w4 : IntKind.i64.wrap ((a : Int) + (q : Int) * 2 + 1) = (a : Int) + (q : Int) * 2 + 1 := wrap64 (by omega) (by omega)
    have c1 : (i : Int) ≤ (a : Int) + (q : Int) * 2 + 1 := by omega
    have w5 : IntKind.u64.wrap ((m : Int) - 1) = ((m - 1 : Nat) : Int) := by rw [show (m : Int) - 1 = ((m - 1 : Nat) : Int) by omega]; exact wrapu64 (by omega) (by omega)
    obtain ⟨a1, a2⟩ := iand_u64 (r' : Int) (m - 1) (by omega)
    obtain ⟨x, hx⟩ : ∃ x, iand .u64 (r' : Int) ((m - 1 : Nat) : Int) = x := ⟨_, rfl⟩
    rw [hx] at a1 a2
    have w6 : IntKind.i64.wrap x = x := wrap64 (by omega) (by omega)
    have w9 : IntKind.i64.wrap ((i : Int) + 1) = (i : Int) + 1 := wrap64 (by omega) (by omega)
    have i0 : (0 : Int) ≤ i := by omega
    have i1 : (i : Int) < N := by omega
    by_cases c2 : (len : Int) ≤ x
    · have w7 : IntKind.i64.wrap (x - len) = x - len := wrap64 (by omega) (by omega)
      have w8 : IntKind.i64.wrap ((a : Int) + (x - len)) = (a : Int) + (x - len) := wrap64 (by omega) (by omega)
      have j0 : (0 : Int) ≤ (a : Int) + (x - len) := by omega
      have j1 : (a : Int) + (x - len) < N := by omega
      have e4 : swI d (i : Int) ((a : Int) + (x - len)) = Go.Sort.swp d i (a + (x.toNat - len)) := swI_swp _ _ _ _ _ rfl (by omega)
      unfold swI at e4
      have hp := swp_permI (d := d) (a := a) (b := b) (i := i) (j := a + (x.toNat - len)) (by omega) (by omega) (by omega) (by omega) (by omega)
      obtain ⟨d', r2, p1, p2, ih⟩ := l_told_break a b m w hm (by omega) hb hN (by omega) (by omega) d0 r0 k (i + 1) r' (Go.Sort.swp d i (a + (x.toNat - len))) (by simpa using hd) (by omega) (by omega)
      refine ⟨d', r2, p1, permIn_trans _ _ _ a b hp p2, ?_⟩
      rw [← hlen] at ih
      rw [← ih]
      clear ih p1 p2 hp hk hm hm2 hm3
      rw [floop_at i_slices_breakPatternsCmpFunc_impl_told_B1.eq_1]
      simp (disch := first | assumption | omega | (simp [*] <;> omega) | fail) [-getElem?_pos, List.getElem?_cons_zero, List.getElem?_cons_succ, hcl, hl, oS, hix, hld, hst, hd, t1, w1, w2, w3, w4, c1, ex, w5, hx, w6, c2, w7, w8, w9, i0, i1, j0, j1, e4]
    · have w8 : IntKind.i64.wrap ((a : Int) + x) = (a : Int) + x := wrap64 (by omega) (by omega)
      have j0 : (0 : Int) ≤ (a : Int) + x := by omega
      have j1 : (a : Int) + x < N := by omega
      have e4 : swI d (i : Int) ((a : Int) + x) = Go.Sort.swp d i (a + x.toNat) := swI_swp _ _ _ _ _ rfl (by omega)
      unfold swI at e4
      have hp := swp_permI (d := d) (a := a) (b := b) (i := i) (j := a + x.toNat) (by omega) (by omega) (by omega) (by omega) (by omega)
      obtain ⟨d', r2, p1, p2, ih⟩ := l_told_break a b m w hm (by omega) hb hN (by omega) (by omega) d0 r0 k (i + 1) r' (Go.Sort.swp d i (a + x.toNat)) (by simpa using hd) (by omega) (by omega)
      refine ⟨d', r2, p1, permIn_trans _ _ _ a b hp p2, ?_⟩
      rw [← hlen] at ih
      rw [← ih]
      clear ih p1 p2 hp hk hm hm2 hm3
      rw [floop_at i_slices_breakPatternsCmpFunc_impl_told_B1.eq_1]
      simp (disch := first | assumption | omega | (simp [*] <;> omega) | fail) [-getElem?_pos, List.getElem?_cons_zero, List.getElem?_cons_succ, hcl, hl, oS, hix, hld, hst, hd, t1, w1, w2, w3, w4, c1, ex, w5, hx, w6, c2, w8, w9, i0, i1, j0, j1, e4]
theorem c_told_break (a b : Nat) (d : Array Nat) (hd : d.size = N) (hab : a ≤ b) (hb : b ≤ N) (hN : N ≤ 255) :
    ∃ d', d'.size = N ∧ PermIn a b d d' ∧ vcall F nro k_slices_breakPatternsCmpFunc_impl_told [S, .int .i64 a, .int .i64 b, C] (H d) = some (.tuple #[], H d') := by
  have hc0 := fun q L vs => E.base.clean d q L vs
  have hc1 := fun q vs => E.base.clean0 d q vs
  have hl := E.base.ln
  have hnr := E.base.nr #[]
  have hgt := E.get
  obtain ⟨len, hlen⟩ : ∃ len, len = b - a := ⟨_, rfl⟩
  have w0 : IntKind.i64.wrap ((b : Int) - a) = len := by rw [show (b : Int) - a = len by omega]; exact wrap64 (by omega) (by omega)
  by_cases c : (8 : Int) ≤ len
  · obtain ⟨y, y1, y2, y3, ep⟩ := c_pow2 (nro := nro) len (by omega) (H d ++ [⟨0, [.int .u64 len]⟩])
    obtain ⟨w, hw⟩ : ∃ w, 2 ^ y = 2 * w := by
      cases y with
      | zero => simp at y2; omega
      | succ y => exact ⟨2 ^ y, by rw [Nat.pow_succ, Nat.mul_comm]⟩
    obtain ⟨q, hq⟩ : ∃ q : Nat, q = len / 4 := ⟨_, rfl⟩
    obtain ⟨d', r', p1, p2, lp⟩ := l_told_break E a b (2 ^ y) w hw (by omega) hb hN (by omega) (by omega) d len 3 (a + q * 2 - 1) len d hd (by omega) (by omega)
    refine ⟨d', p1, p2, ?_⟩
    have t1 : ((len : Nat) : Int).tdiv 4 = q := by rw [Int.tdiv_eq_ediv_of_nonneg (by omega)]; omega
    have w1 : IntKind.i64.wrap (q : Int) = q := wrap64 (by omega) (by omega)
    have w2 : IntKind.i64.wrap ((q : Int) * 2) = (q : Int) * 2 := wrap64 (by omega) (by omega)
    have w3 : IntKind.i64.wrap ((a : Int) + (q : Int) * 2) = (a : Int) + (q : Int) * 2 := wrap64 (by omega) (by omega)
    have w4 : IntKind.i64.wrap ((a : Int) + (q : Int) * 2 - 1) = ((a + q * 2 - 1 : Nat) : Int) := by rw [show (a : Int) + (q : Int) * 2 - 1 = ((a + q * 2 - 1 : Nat) : Int) by omega]; exact wrap64 (by omega) (by omega)
    have w5 : IntKind.u64.wrap (len : Int) = len := wrapu64 (by omega) (by omega)
    rw [← hlen] at lp
    obtain ⟨z, hz⟩ : ∃ z, z = 2 ^ y := ⟨_, rfl⟩
    rw [← hz] at lp ep
    obtain ⟨i0, hi0⟩ : ∃ i0, i0 = a + q * 2 - 1 := ⟨_, rfl⟩
    rw [← hi0] at lp w4
    clear p1 p2 hw hq y1 y2 y3 hz hi0
    refine v_slices_breakPatternsCmpFunc_impl_told (by simp [i_slices_breakPatternsCmpFunc_impl_told]) ?_
    rw [fbody_eq]
    simp (disch := first | assumption | omega | (simp [*] <;> omega) | fail) [-getElem?_pos, List.getElem?_cons_zero, List.getElem?_cons_succ, i_slices_breakPatternsCmpFunc_impl_told, w0, c, w5, hl, hnr, hgt, ep, t1, w1, w2, w3, w4, lp, hc0, fresults, fresL]
  · refine ⟨d, hd, permIn_refl d a b, ?_⟩
    refine v_slices_breakPatternsCmpFunc_impl_told (by simp [i_slices_breakPatternsCmpFunc_impl_told]) ?_
    rw [fbody_eq]
    simp (disch := first | assumption | omega | (simp [*] <;> omega) | fail) [-getElem?_pos, List.getElem?_cons_zero, List.getElem?_cons_succ, i_slices_breakPatternsCmpFunc_impl_told, w0, c, hc1, fresults, fresL]
end
end Go.Proofs.Ytcdcmaakcldniaa.Zv

/- Sorting: a pivot is chosen. -/
namespace Go.Proofs.Ytcdcmaakcldniaa.Zv
open Go Go.Sort
variable {nro : Nat} {S C : Value} {P : Int → Value} {ag : Nat → Value} {cm : Nat → Nat → Int} {N : Nat} {H : Array Nat → VH}

section
variable (E : SX nro true 3 S C P ag cm N H)
include E
theorem SX.cl (d : Array Nat) (s s' : Int) (L : VH) (vs : List Value) (hv : ∀ v ∈ vs, Old ((H #[]).length + 1) v) : kclean (H d ++ [⟨0, [.int .i64 s]⟩]) vs (H d ++ ⟨0, [.int .i64 s']⟩ :: L) = (vs, H d ++ [⟨0, [.int .i64 s']⟩]) :=
  E.clean d d _ _ (fun n => by intro q hq; simp [orefs, trefs, vrefs, crefs, arefs] at hq) L vs hv
theorem c_told_order2 (d : Array Nat) (hd : d.size = N) (a b : Nat) (ha : a < N) (hb : b < N) (s : Nat) (hs : s ≤ 100) :
    ∃ a' b' s' : Nat, s' ≤ s + 1 ∧ ((a' = a ∧ b' = b) ∨ (a' = b ∧ b' = a)) ∧ vcall F nro k_slices_order2CmpFunc_impl_told [S, .int .i64 a, .int .i64 b, .pointer (some ⟨(H #[]).length, 0, some 1⟩), C] (H d ++ [⟨0, [.int .i64 s]⟩]) = some (.tuple #[.int .i64 a', .int .i64 b'], H d ++ [⟨0, [.int .i64 s']⟩]) := by
  have hcl := fun s' vs => E.cl d s s' [] vs
  have hl := E.base.ln
  have hnr := E.base.nr #[]
  have hgt := E.get
  have hix := E.idx
  have hld := E.load
  have hcm := E.cmp
  have w1 : IntKind.i64.wrap ((s : Int) + 1) = (s : Int) + 1 := wrap64 (by omega) (by omega)
  have a0 : (0 : Int) ≤ a := by omega
  have b0 : (0 : Int) ≤ b := by omega
  have a1 : (a : Int) < N := by omega
  have b1 : (b : Int) < N := by omega
  by_cases c : cm (getI d (b : Int)) (getI d (a : Int)) < 0
  · refine ⟨b, a, s + 1, by omega, .inr ⟨rfl, rfl⟩, ?_⟩
    refine v_slices_order2CmpFunc_impl_told (by simp [i_slices_order2CmpFunc_impl_told]) ?_
    rw [fbody_eq]
    simp (disch := first | assumption | omega | (simp [*] <;> omega) | fail) [-getElem?_pos, List.getElem?_cons_zero, List.getElem?_cons_succ, i_slices_order2CmpFunc_impl_told, hix, hld, hcm, hd, a0, b0, a1, b1, c, hl, hnr, hgt, w1, hcl, fresults, fresL, fres1]
  · refine ⟨a, b, s, by omega, .inl ⟨rfl, rfl⟩, ?_⟩
    refine v_slices_order2CmpFunc_impl_told (by simp [i_slices_order2CmpFunc_impl_told]) ?_
    rw [fbody_eq]
    simp (disch := first | assumption | omega | (simp [*] <;> omega) | fail) [-getElem?_pos, List.getElem?_cons_zero, List.getElem?_cons_succ, i_slices_order2CmpFunc_impl_told, hix, hld, hcm, hd, a0, b0, a1, b1, c, hl, hnr, hgt, w1, hcl, fresults, fresL, fres1]
theorem c_told_median (d : Array Nat) (hd : d.size = N) (a b c : Nat) (ha : a < N) (hb : b < N) (hc : c < N) (s : Nat) (hs : s ≤ 50) :
    ∃ m s' : Nat, s' ≤ s + 3 ∧ (m = a ∨ m = b ∨ m = c) ∧ vcall F nro k_slices_medianCmpFunc_impl_told [S, .int .i64 a, .int .i64 b, .int .i64 c, .pointer (some ⟨(H #[]).length, 0, some 1⟩), C] (H d ++ [⟨0, [.int .i64 s]⟩]) = some (.int .i64 m, H d ++ [⟨0, [.int .i64 s']⟩]) := by
  have hcl := fun s' vs => E.cl d s s' [] vs
  obtain ⟨a1, b1, s1, q1, p1, e1⟩ := c_told_order2 E d hd a b ha hb s (by omega)
  obtain ⟨b2, c2, s2, q2, p2, e2⟩ := c_told_order2 E d hd b1 c (by omega) hc s1 (by omega)
  obtain ⟨a3, b3, s3, q3, p3, e3⟩ := c_told_order2 E d hd a1 b2 (by omega) (by omega) s2 (by omega)
  refine ⟨b3, s3, by omega, by omega, ?_⟩
  clear p1 p2 p3 q1 q2 q3
  refine v_slices_medianCmpFunc_impl_told (by simp [i_slices_medianCmpFunc_impl_told]) ?_
  rw [fbody_eq]
  simp (disch := first | assumption | omega | (simp [*] <;> omega) | fail) [-getElem?_pos, List.getElem?_cons_zero, List.getElem?_cons_succ, i_slices_medianCmpFunc_impl_told, e1, e2, e3, hcl, fresults, fresL, fres1]
theorem c_told_medianA (d : Array Nat) (hd : d.size = N) (a : Nat) (ha : a + 1 < N) (h1 : 1 ≤ a) (s : Nat) (hs : s ≤ 50) :
    ∃ m s' : Nat, s' ≤ s + 3 ∧ (m = a - 1 ∨ m = a ∨ m = a + 1) ∧ vcall F nro k_slices_medianAdjacentCmpFunc_impl_told [S, .int .i64 a, .pointer (some ⟨(H #[]).length, 0, some 1⟩), C] (H d ++ [⟨0, [.int .i64 s]⟩]) = some (.int .i64 m, H d ++ [⟨0, [.int .i64 s']⟩]) := by
  have hcl := fun s' vs => E.cl d s s' [] vs
  have hN := E.base.hN
  obtain ⟨m, s1, q1, p1, e1⟩ := c_told_median E d hd (a - 1) a (a + 1) (by omega) (by omega) (by omega) s hs
  refine ⟨m, s1, q1, p1, ?_⟩
  have w1 : IntKind.i64.wrap ((a : Int) - 1) = ((a - 1 : Nat) : Int) := by rw [show (a : Int) - 1 = ((a - 1 : Nat) : Int) by omega]; exact wrap64 (by omega) (by omega)
  have w2 : IntKind.i64.wrap ((a : Int) + 1) = ((a + 1 : Nat) : Int) := by rw [show (a : Int) + 1 = ((a + 1 : Nat) : Int) by omega]; exact wrap64 (by omega) (by omega)
  obtain ⟨x, hx⟩ : ∃ x, x = a - 1 := ⟨_, rfl⟩
  obtain ⟨y, hy⟩ : ∃ y, y = a + 1 := ⟨_, rfl⟩
  rw [← hx, ← hy] at e1
  rw [← hx] at w1
  rw [← hy] at w2
  clear p1 q1 hx hy
  refine v_slices_medianAdjacentCmpFunc_impl_told (by simp [i_slices_medianAdjacentCmpFunc_impl_told]) ?_
  rw [fbody_eq]
  simp (disch := first | assumption | omega | (simp [*] <;> omega) | fail) [-getElem?_pos, List.getElem?_cons_zero, List.getElem?_cons_succ, i_slices_medianAdjacentCmpFunc_impl_told, w1, w2, e1, hcl, fresults, fresL, fres1]

set_option maxHeartbeats 2000000 in
theorem c_told_pivot (d : Array Nat) (hd : d.size = N) (a b : Nat) (hab : a < b) (hb : b ≤ N) :
    ∃ m t : Nat, (a ≤ m ∧ m < b) ∧ t ≤ 2 ∧ vcall F nro k_slices_choosePivotCmpFunc_impl_told [S, .int .i64 a, .int .i64 b, C] (H d) = some (.tuple #[.int .i64 m, .int .i64 t], H d) := by
  have hc0 := fun L vs => E.base.clean d d L vs
  have hl := E.base.ln
  have hnr := E.base.nr #[]
  have hgt := E.get
  have hN := E.base.hN
  obtain ⟨len, hlen⟩ : ∃ len, len = b - a := ⟨_, rfl⟩
  have w0 : IntKind.i64.wrap ((b : Int) - a) = len := by rw [show (b : Int) - a = len by omega]; exact wrap64 (by omega) (by omega)
  obtain ⟨q, hq⟩ : ∃ q : Nat, q = len / 4 := ⟨_, rfl⟩
  have t1 : ((len : Nat) : Int).tdiv 4 = q := by rw [Int.tdiv_eq_ediv_of_nonneg (by omega)]; omega
  have hq2 : q ≤ 1000 := by omega
  have w1 : IntKind.i64.wrap (q : Int) = q := wrap64 (by omega) (by omega)
  obtain ⟨i, hi⟩ : ∃ i, i = a + q := ⟨_, rfl⟩
  obtain ⟨j, hj⟩ : ∃ j, j = a + q * 2 := ⟨_, rfl⟩
  obtain ⟨k, hk⟩ : ∃ k, k = a + q * 3 := ⟨_, rfl⟩
  have w2 : IntKind.i64.wrap ((q : Int) * 2) = (q : Int) * 2 := wrap64 (by omega) (by omega)
  have w3 : IntKind.i64.wrap ((q : Int) * 3) = (q : Int) * 3 := wrap64 (by omega) (by omega)
  have w4 : IntKind.i64.wrap ((a : Int) + q) = i := by rw [show (a : Int) + q = i by omega]; exact wrap64 (by omega) (by omega)
  have w5 : IntKind.i64.wrap ((a : Int) + (q : Int) * 2) = j := by rw [show (a : Int) + (q : Int) * 2 = j by omega]; exact wrap64 (by omega) (by omega)
  have w6 : IntKind.i64.wrap ((a : Int) + (q : Int) * 3) = k := by rw [show (a : Int) + (q : Int) * 3 = k by omega]; exact wrap64 (by omega) (by omega)
  by_cases c8 : (8 : Int) ≤ len
  · by_cases c50 : (50 : Int) ≤ len
    · obtain ⟨m1, s1, q1, p1, e1⟩ := c_told_medianA E d hd i (by omega) (by omega) 0 (by omega)
      have r1 : a ≤ m1 ∧ m1 < b := by rcases p1 with h | h | h <;> omega
      clear p1
      obtain ⟨m2, s2, q2, p2, e2⟩ := c_told_medianA E d hd j (by omega) (by omega) s1 (by omega)
      have r2 : a ≤ m2 ∧ m2 < b := by rcases p2 with h | h | h <;> omega
      clear p2
      obtain ⟨m3, s3, q3, p3, e3⟩ := c_told_medianA E d hd k (by omega) (by omega) s2 (by omega)
      have r3 : a ≤ m3 ∧ m3 < b := by rcases p3 with h | h | h <;> omega
      clear p3
      obtain ⟨m4, s4, q4, p4, e4⟩ := c_told_median E d hd m1 m2 m3 (by omega) (by omega) (by omega) s3 (by omega)
      have hr : a ≤ m4 ∧ m4 < b := by rcases p4 with h | h | h <;> rw [h] <;> assumption
      clear p4 r1 r2 r3 q1 q2 q3 q4 hi hj hk hq hlen
      simp only [Int.natCast_zero] at e1
      by_cases z0 : s4 = 0
      · refine ⟨m4, 1, hr, by omega, ?_⟩
        subst z0
        clear hr
        refine v_slices_choosePivotCmpFunc_impl_told (by simp [i_slices_choosePivotCmpFunc_impl_told]) ?_
        rw [fbody_eq]
        simp (disch := first | assumption | omega | (simp [*] <;> omega) | fail) [-getElem?_pos, List.getElem?_cons_zero, List.getElem?_cons_succ, i_slices_choosePivotCmpFunc_impl_told, w0, t1, w1, w2, w3, w4, w5, w6, c8, c50, hl, hnr, hgt, e1, e2, e3, e4, hc0, fresults, fresL, fres1]
      · by_cases z1 : s4 = 12
        · refine ⟨m4, 2, hr, by omega, ?_⟩
          subst z1
          clear hr
          refine v_slices_choosePivotCmpFunc_impl_told (by simp [i_slices_choosePivotCmpFunc_impl_told]) ?_
          rw [fbody_eq]
          simp (disch := first | assumption | omega | (simp [*] <;> omega) | fail) [-getElem?_pos, List.getElem?_cons_zero, List.getElem?_cons_succ, i_slices_choosePivotCmpFunc_impl_told, w0, t1, w1, w2, w3, w4, w5, w6, c8, c50, hl, hnr, hgt, e1, e2, e3, e4, hc0, fresults, fresL, fres1]
        · have z0' : ¬ (s4 : Int) = 0 := by omega
          have z1' : ¬ (s4 : Int) = 12 := by omega
          refine ⟨m4, 0, hr, by omega, ?_⟩
          clear hr
          refine v_slices_choosePivotCmpFunc_impl_told (by simp [i_slices_choosePivotCmpFunc_impl_told]) ?_
          rw [fbody_eq]
          simp (disch := first | assumption | omega | (simp [*] <;> omega) | fail) [-getElem?_pos, List.getElem?_cons_zero, List.getElem?_cons_succ, i_slices_choosePivotCmpFunc_impl_told, w0, t1, w1, w2, w3, w4, w5, w6, c8, c50, hl, hnr, hgt, e1, e2, e3, e4, z0, z1, z0', z1', hc0, fresults, fresL, fres1]
    · obtain ⟨m4, s4, q4, p4, e4⟩ := c_told_median E d hd i j k (by omega) (by omega) (by omega) 0 (by omega)
      have hr : a ≤ m4 ∧ m4 < b := by rcases p4 with h | h | h <;> omega
      have z1 : ¬ s4 = 12 := by omega
      have z1' : ¬ (s4 : Int) = 12 := by omega
      simp only [Int.natCast_zero] at e4
      by_cases z0 : s4 = 0
      · refine ⟨m4, 1, hr, by omega, ?_⟩
        subst z0
        clear p4 q4 hi hj hk hq hlen hr
        refine v_slices_choosePivotCmpFunc_impl_told (by simp [i_slices_choosePivotCmpFunc_impl_told]) ?_
        rw [fbody_eq]
        simp (disch := first | assumption | omega | (simp [*] <;> omega) | fail) [-getElem?_pos, List.getElem?_cons_zero, List.getElem?_cons_succ, i_slices_choosePivotCmpFunc_impl_told, w0, t1, w1, w2, w3, w4, w5, w6, c8, c50, hl, hnr, hgt, e4, hc0, fresults, fresL, fres1]
      · have z0' : ¬ (s4 : Int) = 0 := by omega
        refine ⟨m4, 0, hr, by omega, ?_⟩
        clear p4 q4 hi hj hk hq hlen hr
        refine v_slices_choosePivotCmpFunc_impl_told (by simp [i_slices_choosePivotCmpFunc_impl_told]) ?_
        rw [fbody_eq]
        simp (disch := first | assumption | omega | (simp [*] <;> omega) | fail) [-getElem?_pos, List.getElem?_cons_zero, List.getElem?_cons_succ, i_slices_choosePivotCmpFunc_impl_told, w0, t1, w1, w2, w3, w4, w5, w6, c8, c50, hl, hnr, hgt, e4, z0, z0', z1, z1', hc0, fresults, fresL, fres1]
  · refine ⟨j, 1, by omega, by omega, ?_⟩
    clear hi hj hk hq hlen
    refine v_slices_choosePivotCmpFunc_impl_told (by simp [i_slices_choosePivotCmpFunc_impl_told]) ?_
    rw [fbody_eq]
    simp (disch := first | assumption | omega | (simp [*] <;> omega) | fail) [-getElem?_pos, List.getElem?_cons_zero, List.getElem?_cons_succ, i_slices_choosePivotCmpFunc_impl_told, w0, t1, w1, w2, w3, w4, w5, w6, c8, hl, hnr, hgt, hc0, fresults, fresL, fres1]
end
end Go.Proofs.Ytcdcmaakcldniaa.Zv

/- Sorting: partitions. -/
namespace Go.Proofs.Ytcdcmaakcldniaa.Zv
open Go Go.Sort
variable {nro : Nat} {S C : Value} {P : Int → Value} {ag : Nat → Value} {cm : Nat → Nat → Int} {N : Nat} {H : Array Nat → VH}
section
variable (E : SE nro true 3 S C P ag cm N H)
include E

theorem l_told_up1 (a j : Nat) (haN : a < N) (hjN : j < N) (d0 d : Array Nat) (hd : d.size = N) (v : Nat) (hv : getI d (a : Int) = v) : ∀ (k i : Nat), j + 1 ≤ i + k → i ≤ N →
    floop (vcall F nro) nro [0, 1, 4, 12, 13] i_slices_partitionCmpFunc_impl_told_B1 (H d0) [S, .int .i64 a, C, .int .i64 i, .int .i64 j] (H d) = some (.exit 0, fl [(0, S), (1, .int .i64 a), (4, C), (12, .int .i64 ((scanUp (fun x => ltC cm x v) d j i : Nat))), (13, .int .i64 (j))], H d) := by
  have hc := fun q => E.clean0 d0 q
  have hl := E.ln
  have oS := E.oS
  have oC := E.oC
  have hN := E.hN
  have hix := E.idx
  have hld := E.load
  have hcm := E.cmp
  have a0 : (0 : Int) ≤ a := by omega
  have a1 : (a : Int) < N := by omega
  intro k
  induction k with
  | zero =>
    intro i hk hi
    have c1 : ¬ (i : Int) ≤ j := by omega
    have c2 : ¬ i ≤ j := by omega
    rw [scanUp, if_neg (by simp [c2]), floop_at i_slices_partitionCmpFunc_impl_told_B1.eq_1]
    simp (disch := first | assumption | omega | (simp [*] <;> omega) | fail) [-getElem?_pos, List.getElem?_cons_zero, List.getElem?_cons_succ, hc, hl, oS, oC, c1, c2]
  | succ k ih =>
    intro i hk hi
    have gi := getI_nat d (i : Int) i rfl
    by_cases c1 : i ≤ j
    · have c1' : (i : Int) ≤ j := by omega
      have i0 : (0 : Int) ≤ i := by omega
      have i1 : (i : Int) < N := by omega
      have w1 : IntKind.i64.wrap ((i : Int) + 1) = (i : Int) + 1 := wrap64 (by omega) (by omega)
      rw [scanUp, ← gi, ← hv]
      by_cases c2 : cm (getI d (i : Int)) (getI d (a : Int)) < 0
      · have e2 : ltC cm (getI d (i : Int)) (getI d (a : Int)) = true := decide_eq_true c2
        rw [if_pos (by simp [c1, e2])]
        rw [hv]
        have ih2 := ih (i + 1) (by omega) (by omega)
        rw [← ih2]
        clear ih ih2 gi e2 hv
        rw [floop_at i_slices_partitionCmpFunc_impl_told_B1.eq_1]
        simp (disch := first | assumption | omega | (simp [*] <;> omega) | fail) [-getElem?_pos, List.getElem?_cons_zero, List.getElem?_cons_succ, hc, hl, oS, oC, hix, hld, hcm, hd, c1', c1, c2, i0, i1, a0, a1, w1]
      · have e2 : ltC cm (getI d (i : Int)) (getI d (a : Int)) = false := decide_eq_false c2
        rw [if_neg (by simp [e2])]
        clear ih gi e2 hv
        rw [floop_at i_slices_partitionCmpFunc_impl_told_B1.eq_1]
        simp (disch := first | assumption | omega | (simp [*] <;> omega) | fail) [-getElem?_pos, List.getElem?_cons_zero, List.getElem?_cons_succ, hc, hl, oS, oC, hix, hld, hcm, hd, c1', c1, c2, i0, i1, a0, a1, w1]
    · have c1' : ¬ (i : Int) ≤ j := by omega
      rw [scanUp, if_neg (by simp [c1]), floop_at i_slices_partitionCmpFunc_impl_told_B1.eq_1]
      simp (disch := first | assumption | omega | (simp [*] <;> omega) | fail) [-getElem?_pos, List.getElem?_cons_zero, List.getElem?_cons_succ, hc, hl, oS, oC, c1', c1]

theorem l_told_dn1 (a i : Nat) (haN : a < N) (hi1 : 1 ≤ i) (d0 d : Array Nat) (hd : d.size = N) (v : Nat) (hv : getI d (a : Int) = v) : ∀ (j : Nat), j < N →
    floop (vcall F nro) nro [0, 1, 4, 12, 13] i_slices_partitionCmpFunc_impl_told_B2 (H d0) [S, .int .i64 a, C, .int .i64 i, .int .i64 j] (H d) = some (.exit 2, fl [(0, S), (1, .int .i64 a), (4, C), (12, .int .i64 (i)), (13, .int .i64 ((scanDown (fun x => !ltC cm x v) d i j : Nat)))], H d) := by
  have hc := fun q => E.clean0 d0 q
  have hl := E.ln
  have oS := E.oS
  have oC := E.oC
  have hN := E.hN
  have hix := E.idx
  have hld := E.load
  have hcm := E.cmp
  have a0 : (0 : Int) ≤ a := by omega
  have a1 : (a : Int) < N := by omega
  intro j
  induction j with
  | zero =>
    intro hj
    have c1 : ¬ (i : Int) ≤ 0 := by omega
    have c2 : ¬ i = 0 := by omega
    rw [scanDown, floop_at i_slices_partitionCmpFunc_impl_told_B2.eq_1]
    simp (disch := first | assumption | omega | (simp [*] <;> omega) | fail) [-getElem?_pos, List.getElem?_cons_zero, List.getElem?_cons_succ, hc, hl, oS, oC, c1, c2]
  | succ j ih =>
    intro hj
    have gi := getI_nat d ((j : Int) + 1) (j + 1) (by omega)
    by_cases c1 : i ≤ j + 1
    · have c1' : (i : Int) ≤ (j : Int) + 1 := by omega
      have i0 : (0 : Int) ≤ (j : Int) + 1 := by omega
      have i1 : (j : Int) + 1 < N := by omega
      have w1 : IntKind.i64.wrap (j : Int) = j := wrap64 (by omega) (by omega)
      rw [scanDown, ← gi, ← hv]
      by_cases c2 : cm (getI d ((j : Int) + 1)) (getI d (a : Int)) < 0
      · have e2 : ltC cm (getI d ((j : Int) + 1)) (getI d (a : Int)) = true := decide_eq_true c2
        rw [if_neg (by simp [e2])]
        clear ih gi e2 hv
        rw [floop_at i_slices_partitionCmpFunc_impl_told_B2.eq_1]
        simp (disch := first | assumption | omega | (simp [*] <;> omega) | fail) [-getElem?_pos, List.getElem?_cons_zero, List.getElem?_cons_succ, hc, hl, oS, oC, hix, hld, hcm, hd, c1', c1, c2, i0, i1, a0, a1, w1]
      · have e2 : ltC cm (getI d ((j : Int) + 1)) (getI d (a : Int)) = false := decide_eq_false c2
        rw [if_pos (by simp [c1, e2])]
        rw [hv]
        have ih2 := ih (by omega)
        rw [← ih2]
        clear ih ih2 gi e2 hv
        rw [floop_at i_slices_partitionCmpFunc_impl_told_B2.eq_1]
        simp (disch := first | assumption | omega | (simp [*] <;> omega) | fail) [-getElem?_pos, List.getElem?_cons_zero, List.getElem?_cons_succ, hc, hl, oS, oC, hix, hld, hcm, hd, c1', c1, c2, i0, i1, a0, a1, w1]
    · have c1' : ¬ (i : Int) ≤ (j : Int) + 1 := by omega
      rw [scanDown, if_neg (by simp [c1]), floop_at i_slices_partitionCmpFunc_impl_told_B2.eq_1]
      simp (disch := first | assumption | omega | (simp [*] <;> omega) | fail) [-getElem?_pos, List.getElem?_cons_zero, List.getElem?_cons_succ, hc, hl, oS, oC, c1', c1]

theorem l_told_up2 (a j : Nat) (haN : a < N) (hjN : j < N) (d0 d : Array Nat) (hd : d.size = N) (v : Nat) (hv : getI d (a : Int) = v) : ∀ (k i : Nat), j + 1 ≤ i + k → i ≤ N →
    floop (vcall F nro) nro [0, 1, 4, 12, 13] i_slices_partitionCmpFunc_impl_told_B3 (H d0) [S, .int .i64 a, C, .int .i64 i, .int .i64 j] (H d) = some (.exit 6, fl [(0, S), (1, .int .i64 a), (4, C), (12, .int .i64 ((scanUp (fun x => ltC cm x v) d j i : Nat))), (13, .int .i64 (j))], H d) := by
  have hc := fun q => E.clean0 d0 q
  have hl := E.ln
  have oS := E.oS
  have oC := E.oC
  have hN := E.hN
  have hix := E.idx
  have hld := E.load
  have hcm := E.cmp
  have a0 : (0 : Int) ≤ a := by omega
  have a1 : (a : Int) < N := by omega
  intro k
  induction k with
  | zero =>
    intro i hk hi
    have c1 : ¬ (i : Int) ≤ j := by omega
    have c2 : ¬ i ≤ j := by omega
    rw [scanUp, if_neg (by simp [c2]), floop_at i_slices_partitionCmpFunc_impl_told_B3.eq_1]
    simp (disch := first | assumption | omega | (simp [*] <;> omega) | fail) [-getElem?_pos, List.getElem?_cons_zero, List.getElem?_cons_succ, hc, hl, oS, oC, c1, c2]
  | succ k ih =>
    intro i hk hi
    have gi := getI_nat d (i : Int) i rfl
    by_cases c1 : i ≤ j
    · have c1' : (i : Int) ≤ j := by omega
      have i0 : (0 : Int) ≤ i := by omega
      have i1 : (i : Int) < N := by omega
      have w1 : IntKind.i64.wrap ((i : Int) + 1) = (i : Int) + 1 := wrap64 (by omega) (by omega)
      rw [scanUp, ← gi, ← hv]
      by_cases c2 : cm (getI d (i : Int)) (getI d (a : Int)) < 0
      · have e2 : ltC cm (getI d (i : Int)) (getI d (a : Int)) = true := decide_eq_true c2
        rw [if_pos (by simp [c1, e2])]
        rw [hv]
        have ih2 := ih (i + 1) (by omega) (by omega)
        rw [← ih2]
        clear ih ih2 gi e2 hv
        rw [floop_at i_slices_partitionCmpFunc_impl_told_B3.eq_1]
        simp (disch := first | assumption | omega | (simp [*] <;> omega) | fail) [-getElem?_pos, List.getElem?_cons_zero, List.getElem?_cons_succ, hc, hl, oS, oC, hix, hld, hcm, hd, c1', c1, c2, i0, i1, a0, a1, w1]
      · have e2 : ltC cm (getI d (i : Int)) (getI d (a : Int)) = false := decide_eq_false c2
        rw [if_neg (by simp [e2])]
        clear ih gi e2 hv
        rw [floop_at i_slices_partitionCmpFunc_impl_told_B3.eq_1]
        simp (disch := first | assumption | omega | (simp [*] <;> omega) | fail) [-getElem?_pos, List.getElem?_cons_zero, List.getElem?_cons_succ, hc, hl, oS, oC, hix, hld, hcm, hd, c1', c1, c2, i0, i1, a0, a1, w1]
    · have c1' : ¬ (i : Int) ≤ j := by omega
      rw [scanUp, if_neg (by simp [c1]), floop_at i_slices_partitionCmpFunc_impl_told_B3.eq_1]
      simp (disch := first | assumption | omega | (simp [*] <;> omega) | fail) [-getElem?_pos, List.getElem?_cons_zero, List.getElem?_cons_succ, hc, hl, oS, oC, c1', c1]

theorem l_told_dn2 (a i : Nat) (haN : a < N) (hi1 : 1 ≤ i) (d0 d : Array Nat) (hd : d.size = N) (v : Nat) (hv : getI d (a : Int) = v) : ∀ (j : Nat), j < N →
    floop (vcall F nro) nro [0, 1, 4, 12, 13] i_slices_partitionCmpFunc_impl_told_B4 (H d0) [S, .int .i64 a, C, .int .i64 i, .int .i64 j] (H d) = some (.exit 8, fl [(0, S), (1, .int .i64 a), (4, C), (12, .int .i64 (i)), (13, .int .i64 ((scanDown (fun x => !ltC cm x v) d i j : Nat)))], H d) := by
  have hc := fun q => E.clean0 d0 q
  have hl := E.ln
  have oS := E.oS
  have oC := E.oC
  have hN := E.hN
  have hix := E.idx
  have hld := E.load
  have hcm := E.cmp
  have a0 : (0 : Int) ≤ a := by omega
  have a1 : (a : Int) < N := by omega
  intro j
  induction j with
  | zero =>
    intro hj
    have c1 : ¬ (i : Int) ≤ 0 := by omega
    have c2 : ¬ i = 0 := by omega
    rw [scanDown, floop_at i_slices_partitionCmpFunc_impl_told_B4.eq_1]
    simp (disch := first | assumption | omega | (simp [*] <;> omega) | fail) [-getElem?_pos, List.getElem?_cons_zero, List.getElem?_cons_succ, hc, hl, oS, oC, c1, c2]
  | succ j ih =>
    intro hj
    have gi := getI_nat d ((j : Int) + 1) (j + 1) (by omega)
    by_cases c1 : i ≤ j + 1
    · have c1' : (i : Int) ≤ (j : Int) + 1 := by omega
      have i0 : (0 : Int) ≤ (j : Int) + 1 := by omega
      have i1 : (j : Int) + 1 < N := by omega
      have w1 : IntKind.i64.wrap (j : Int) = j := wrap64 (by omega) (by omega)
      rw [scanDown, ← gi, ← hv]
      by_cases c2 : cm (getI d ((j : Int) + 1)) (getI d (a : Int)) < 0
      · have e2 : ltC cm (getI d ((j : Int) + 1)) (getI d (a : Int)) = true := decide_eq_true c2
        rw [if_neg (by simp [e2])]
        clear ih gi e2 hv
        rw [floop_at i_slices_partitionCmpFunc_impl_told_B4.eq_1]
        simp (disch := first | assumption | omega | (simp [*] <;> omega) | fail) [-getElem?_pos, List.getElem?_cons_zero, List.getElem?_cons_succ, hc, hl, oS, oC, hix, hld, hcm, hd, c1', c1, c2, i0, i1, a0, a1, w1]
      · have e2 : ltC cm (getI d ((j : Int) + 1)) (getI d (a : Int)) = false := decide_eq_false c2
        rw [if_pos (by simp [c1, e2])]
        rw [hv]
        have ih2 := ih (by omega)
        rw [← ih2]
        clear ih ih2 gi e2 hv
        rw [floop_at i_slices_partitionCmpFunc_impl_told_B4.eq_1]
        simp (disch := first | assumption | omega | (simp [*] <;> omega) | fail) [-getElem?_pos, List.getElem?_cons_zero, List.getElem?_cons_succ, hc, hl, oS, oC, hix, hld, hcm, hd, c1', c1, c2, i0, i1, a0, a1, w1]
    · have c1' : ¬ (i : Int) ≤ (j : Int) + 1 := by omega
      rw [scanDown, if_neg (by simp [c1]), floop_at i_slices_partitionCmpFunc_impl_told_B4.eq_1]
      simp (disch := first | assumption | omega | (simp [*] <;> omega) | fail) [-getElem?_pos, List.getElem?_cons_zero, List.getElem?_cons_succ, hc, hl, oS, oC, c1', c1]

theorem l_told_up3 (a j : Nat) (haN : a < N) (hjN : j < N) (d0 d : Array Nat) (hd : d.size = N) (v : Nat) (hv : getI d (a : Int) = v) : ∀ (k i : Nat), j + 1 ≤ i + k → i ≤ N →
    floop (vcall F nro) nro [0, 1, 4, 11, 12] i_slices_partitionEqualCmpFunc_impl_told_B1 (H d0) [S, .int .i64 a, C, .int .i64 i, .int .i64 j] (H d) = some (.exit 2, fl [(0, S), (1, .int .i64 a), (4, C), (11, .int .i64 ((scanUp (fun x => !ltC cm v x) d j i : Nat))), (12, .int .i64 (j))], H d) := by
  have hc := fun q => E.clean0 d0 q
  have hl := E.ln
  have oS := E.oS
  have oC := E.oC
  have hN := E.hN
  have hix := E.idx
  have hld := E.load
  have hcm := E.cmp
  have a0 : (0 : Int) ≤ a := by omega
  have a1 : (a : Int) < N := by omega
  intro k
  induction k with
  | zero =>
    intro i hk hi
    have c1 : ¬ (i : Int) ≤ j := by omega
    have c2 : ¬ i ≤ j := by omega
    rw [scanUp, if_neg (by simp [c2]), floop_at i_slices_partitionEqualCmpFunc_impl_told_B1.eq_1]
    simp (disch := first | assumption | omega | (simp [*] <;> omega) | fail) [-getElem?_pos, List.getElem?_cons_zero, List.getElem?_cons_succ, hc, hl, oS, oC, c1, c2]
  | succ k ih =>
    intro i hk hi
    have gi := getI_nat d (i : Int) i rfl
    by_cases c1 : i ≤ j
    · have c1' : (i : Int) ≤ j := by omega
      have i0 : (0 : Int) ≤ i := by omega
      have i1 : (i : Int) < N := by omega
      have w1 : IntKind.i64.wrap ((i : Int) + 1) = (i : Int) + 1 := wrap64 (by omega) (by omega)
      rw [scanUp, ← gi, ← hv]
      by_cases c2 : cm (getI d (a : Int)) (getI d (i : Int)) < 0
      · have e2 : ltC cm (getI d (a : Int)) (getI d (i : Int)) = true := decide_eq_true c2
        rw [if_neg (by simp [e2])]
        clear ih gi e2 hv
        rw [floop_at i_slices_partitionEqualCmpFunc_impl_told_B1.eq_1]
        simp (disch := first | assumption | omega | (simp [*] <;> omega) | fail) [-getElem?_pos, List.getElem?_cons_zero, List.getElem?_cons_succ, hc, hl, oS, oC, hix, hld, hcm, hd, c1', c1, c2, i0, i1, a0, a1, w1]
      · have e2 : ltC cm (getI d (a : Int)) (getI d (i : Int)) = false := decide_eq_false c2
        rw [if_pos (by simp [c1, e2])]
        rw [hv]
        have ih2 := ih (i + 1) (by omega) (by omega)
        rw [← ih2]
        clear ih ih2 gi e2 hv
        rw [floop_at i_slices_partitionEqualCmpFunc_impl_told_B1.eq_1]
        simp (disch := first | assumption | omega | (simp [*] <;> omega) | fail) [-getElem?_pos, List.getElem?_cons_zero, List.getElem?_cons_succ, hc, hl, oS, oC, hix, hld, hcm, hd, c1', c1, c2, i0, i1, a0, a1, w1]
    · have c1' : ¬ (i : Int) ≤ j := by omega
      rw [scanUp, if_neg (by simp [c1]), floop_at i_slices_partitionEqualCmpFunc_impl_told_B1.eq_1]
      simp (disch := first | assumption | omega | (simp [*] <;> omega) | fail) [-getElem?_pos, List.getElem?_cons_zero, List.getElem?_cons_succ, hc, hl, oS, oC, c1', c1]

theorem l_told_dn3 (a i : Nat) (haN : a < N) (hi1 : 1 ≤ i) (d0 d : Array Nat) (hd : d.size = N) (v : Nat) (hv : getI d (a : Int) = v) : ∀ (j : Nat), j < N →
    floop (vcall F nro) nro [0, 1, 4, 11, 12] i_slices_partitionEqualCmpFunc_impl_told_B2 (H d0) [S, .int .i64 a, C, .int .i64 i, .int .i64 j] (H d) = some (.exit 4, fl [(0, S), (1, .int .i64 a), (4, C), (11, .int .i64 (i)), (12, .int .i64 ((scanDown (fun x => ltC cm v x) d i j : Nat)))], H d) := by
  have hc := fun q => E.clean0 d0 q
  have hl := E.ln
  have oS := E.oS
  have oC := E.oC
  have hN := E.hN
  have hix := E.idx
  have hld := E.load
  have hcm := E.cmp
  have a0 : (0 : Int) ≤ a := by omega
  have a1 : (a : Int) < N := by omega
  intro j
  induction j with
  | zero =>
    intro hj
    have c1 : ¬ (i : Int) ≤ 0 := by omega
    have c2 : ¬ i = 0 := by omega
    rw [scanDown, floop_at i_slices_partitionEqualCmpFunc_impl_told_B2.eq_1]
    simp (disch := first | assumption | omega | (simp [*] <;> omega) | fail) [-getElem?_pos, List.getElem?_cons_zero, List.getElem?_cons_succ, hc, hl, oS, oC, c1, c2]
  | succ j ih =>
    intro hj
    have gi := getI_nat d ((j : Int) + 1) (j + 1) (by omega)
    by_cases c1 : i ≤ j + 1
    · have c1' : (i : Int) ≤ (j : Int) + 1 := by omega
      have i0 : (0 : Int) ≤ (j : Int) + 1 := by omega
      have i1 : (j : Int) + 1 < N := by omega
      have w1 : IntKind.i64.wrap (j : Int) = j := wrap64 (by omega) (by omega)
      rw [scanDown, ← gi, ← hv]
      by_cases c2 : cm (getI d (a : Int)) (getI d ((j : Int) + 1)) < 0
      · have e2 : ltC cm (getI d (a : Int)) (getI d ((j : Int) + 1)) = true := decide_eq_true c2
        rw [if_pos (by simp [c1, e2])]
        rw [hv]
        have ih2 := ih (by omega)
        rw [← ih2]
        clear ih ih2 gi e2 hv
        rw [floop_at i_slices_partitionEqualCmpFunc_impl_told_B2.eq_1]
        simp (disch := first | assumption | omega | (simp [*] <;> omega) | fail) [-getElem?_pos, List.getElem?_cons_zero, List.getElem?_cons_succ, hc, hl, oS, oC, hix, hld, hcm, hd, c1', c1, c2, i0, i1, a0, a1, w1]
      · have e2 : ltC cm (getI d (a : Int)) (getI d ((j : Int) + 1)) = false := decide_eq_false c2
        rw [if_neg (by simp [e2])]
        clear ih gi e2 hv
        rw [floop_at i_slices_partitionEqualCmpFunc_impl_told_B2.eq_1]
        simp (disch := first | assumption | omega | (simp [*] <;> omega) | fail) [-getElem?_pos, List.getElem?_cons_zero, List.getElem?_cons_succ, hc, hl, oS, oC, hix, hld, hcm, hd, c1', c1, c2, i0, i1, a0, a1, w1]
    · have c1' : ¬ (i : Int) ≤ (j : Int) + 1 := by omega
      rw [scanDown, if_neg (by simp [c1]), floop_at i_slices_partitionEqualCmpFunc_impl_told_B2.eq_1]
      simp (disch := first | assumption | omega | (simp [*] <;> omega) | fail) [-getElem?_pos, List.getElem?_cons_zero, List.getElem?_cons_succ, hc, hl, oS, oC, c1', c1]
end
end Go.Proofs.Ytcdcmaakcldniaa.Zv

/- Sorting: partitions, whole. -/
namespace Go.Proofs.Ytcdcmaakcldniaa.Zv
open Go Go.Sort
variable {nro : Nat} {S C : Value} {P : Int → Value} {ag : Nat → Value} {cm : Nat → Nat → Int} {N : Nat} {H : Array Nat → VH}

theorem partLoop_size (lt : Nat → Nat → Bool) (a : Nat) : ∀ (n i j : Nat) (d : Array Nat), j + 1 - i ≤ n → (partLoop lt a i j d).2.size = d.size ∧ (partLoop lt a i j d).1 ≤ j
  | n, i, j, d, hn => by
    rw [partLoop_eq]
    have h1 := scanUp_ge (fun x => lt x d[a]!) d j i
    have h2 := scanDown_le (fun x => !lt x d[a]!) d (scanUp (fun x => lt x d[a]!) d j i) j
    by_cases c : scanUp (fun x => lt x d[a]!) d j i > scanDown (fun x => !lt x d[a]!) d (scanUp (fun x => lt x d[a]!) d j i) j
    · rw [if_pos c]; exact ⟨rfl, h2⟩
    · rw [if_neg c]
      have ih := partLoop_size lt a (n - 1) (scanUp (fun x => lt x d[a]!) d j i + 1) (scanDown (fun x => !lt x d[a]!) d (scanUp (fun x => lt x d[a]!) d j i) j - 1) (Go.Sort.swp d (scanUp (fun x => lt x d[a]!) d j i) (scanDown (fun x => !lt x d[a]!) d (scanUp (fun x => lt x d[a]!) d j i) j)) (by omega)
      exact ⟨by rw [ih.1]; simp, by omega⟩
 termination_by _ i j _ _ => j + 1 - i
 decreasing_by
  simp_wf
  omega

section
variable (E : SE nro true 3 S C P ag cm N H)
include E
set_option maxHeartbeats 1000000 in
theorem l_told_part (a : Nat) (haN : a < N) (d0 : Array Nat) : ∀ (n i j : Nat) (d : Array Nat), d.size = N → j + 1 - i ≤ n → 1 ≤ i → i ≤ N → j < N →
    floop (vcall F nro) nro [0, 1, 4, 12, 13] i_slices_partitionCmpFunc_impl_told_B5 (H d0) [S, .int .i64 a, C, .int .i64 i, .int .i64 j] (H d) = some (.exit 4, fl [(0, S), (1, .int .i64 a), (13, .int .i64 ((partLoop (ltC cm) a i j d).1 : Nat))], H (partLoop (ltC cm) a i j d).2) := by
  intro n
  induction n with
  | zero =>
    intro i j d hd hn hi hiN hj
    have hc := fun q => E.clean0 d0 q
    have hl := E.ln
    have oS := E.oS
    have oC := E.oC
    have u := l_told_up2 E a j haN hj d d hd d[a]! (getI_nat d a a rfl) (j + 1) i (by omega) hiN
    have h1 := scanUp_ge (fun x => ltC cm x d[a]!) d j i
    have dn := l_told_dn2 E a (scanUp (fun x => ltC cm x d[a]!) d j i) haN (by omega) d d hd d[a]! (getI_nat d a a rfl) j hj
    have h2 := scanDown_le (fun x => !ltC cm x d[a]!) d (scanUp (fun x => ltC cm x d[a]!) d j i) j
    rw [partLoop_eq]
    obtain ⟨x, hx⟩ : ∃ x, x = scanUp (fun x => ltC cm x d[a]!) d j i := ⟨_, rfl⟩
    rw [← hx] at u dn h1 h2 ⊢
    obtain ⟨y, hy⟩ : ∃ y, y = scanDown (fun x => !ltC cm x d[a]!) d x j := ⟨_, rfl⟩
    rw [← hy] at dn h2 ⊢
    have c : x > y := by omega
    have c' : (y : Int) < x := by omega
    rw [if_pos c]
    clear hx hy
    rw [floop_at i_slices_partitionCmpFunc_impl_told_B5.eq_1]
    simp (disch := first | assumption | omega | (simp [*] <;> omega) | fail) [-getElem?_pos, List.getElem?_cons_zero, List.getElem?_cons_succ, hc, hl, oS, oC, u, dn, c']
  | succ n ih =>
    intro i j d hd hn hi hiN hj
    have hc := fun q => E.clean0 d0 q
    have hl := E.ln
    have oS := E.oS
    have oC := E.oC
    have hN := E.hN
    have hix := E.idx
    have hld := E.load
    have hst := E.store
    have u := l_told_up2 E a j haN hj d d hd d[a]! (getI_nat d a a rfl) (j + 1) i (by omega) hiN
    have h1 := scanUp_ge (fun x => ltC cm x d[a]!) d j i
    have dn := l_told_dn2 E a (scanUp (fun x => ltC cm x d[a]!) d j i) haN (by omega) d d hd d[a]! (getI_nat d a a rfl) j hj
    have h2 := scanDown_le (fun x => !ltC cm x d[a]!) d (scanUp (fun x => ltC cm x d[a]!) d j i) j
    rw [partLoop_eq]
    obtain ⟨x, hx⟩ : ∃ x, x = scanUp (fun x => ltC cm x d[a]!) d j i := ⟨_, rfl⟩
    rw [← hx] at u dn h1 h2 ⊢
    obtain ⟨y, hy⟩ : ∃ y, y = scanDown (fun x => !ltC cm x d[a]!) d x j := ⟨_, rfl⟩
    rw [← hy] at dn h2 ⊢
    by_cases c : x > y
    · have c' : (y : Int) < x := by omega
      rw [if_pos c]
      clear hx hy ih
      rw [floop_at i_slices_partitionCmpFunc_impl_told_B5.eq_1]
      simp (disch := first | assumption | omega | (simp [*] <;> omega) | fail) [-getElem?_pos, List.getElem?_cons_zero, List.getElem?_cons_succ, hc, hl, oS, oC, u, dn, c']
    · have c' : ¬ (y : Int) < x := by omega
      rw [if_neg c]
      have ih2 := ih (x + 1) (y - 1) (Go.Sort.swp d x y) (by simpa using hd) (by omega) (by omega) (by omega) (by omega)
      rw [← ih2]
      have e4 : swI d (x : Int) (y : Int) = Go.Sort.swp d x y := swI_swp _ _ _ _ _ rfl rfl
      unfold swI at e4
      have w1 : IntKind.i64.wrap ((x : Int) + 1) = (x : Int) + 1 := wrap64 (by omega) (by omega)
      have w2 : IntKind.i64.wrap ((y : Int) - 1) = ((y - 1 : Nat) : Int) := by rw [show (y : Int) - 1 = ((y - 1 : Nat) : Int) by omega]; exact wrap64 (by omega) (by omega)
      have x0 : (0 : Int) ≤ x := by omega
      have y0 : (0 : Int) ≤ y := by omega
      have x1 : (x : Int) < N := by omega
      have y1 : (y : Int) < N := by omega
      obtain ⟨z, hz⟩ : ∃ z, z = y - 1 := ⟨_, rfl⟩
      rw [← hz] at w2 ⊢
      clear hx hy ih ih2 hz
      rw [floop_at i_slices_partitionCmpFunc_impl_told_B5.eq_1]
      simp (disch := first | assumption | omega | (simp [*] <;> omega) | fail) [-getElem?_pos, List.getElem?_cons_zero, List.getElem?_cons_succ, hc, hl, oS, oC, u, dn, c', hix, hld, hst, hd, e4, w1, w2, x0, y0, x1, y1]

set_option maxHeartbeats 1000000 in
theorem c_told_part (d : Array Nat) (hd : d.size = N) (a b p : Nat) (hap : a ≤ p) (hpb : p < b) (hb : b ≤ N) :
    vcall F nro k_slices_partitionCmpFunc_impl_told [S, .int .i64 a, .int .i64 b, .int .i64 p, C] (H d) = some (.tuple #[.int .i64 ((partition (ltC cm) d a b p).1 : Nat), .bool (partition (ltC cm) d a b p).2.1], H (partition (ltC cm) d a b p).2.2) := by
  have hc0 := fun q vs => E.clean0 d q vs
  have hl := E.ln
  have hN := E.hN
  have hix := E.idx
  have hld := E.load
  have hst := E.store
  obtain ⟨d1, hd1⟩ : ∃ d1, d1 = Go.Sort.swp d a p := ⟨_, rfl⟩
  have hs1 : d1.size = N := by rw [hd1]; simpa using hd
  have e0 : swI d (a : Int) (p : Int) = d1 := by rw [hd1]; exact swI_swp _ _ _ _ _ rfl rfl
  unfold swI at e0
  have u := l_told_up1 E a (b - 1) (by omega) (by omega) d1 d1 hs1 d1[a]! (getI_nat d1 a a rfl) b (a + 1) (by omega) (by omega)
  have h1 := scanUp_ge (fun x => ltC cm x d1[a]!) d1 (b - 1) (a + 1)
  have dn := l_told_dn1 E a (scanUp (fun x => ltC cm x d1[a]!) d1 (b - 1) (a + 1)) (by omega) (by omega) d1 d1 hs1 d1[a]! (getI_nat d1 a a rfl) (b - 1) (by omega)
  have h2 := scanDown_le (fun x => !ltC cm x d1[a]!) d1 (scanUp (fun x => ltC cm x d1[a]!) d1 (b - 1) (a + 1)) (b - 1)
  have hdef : partition (ltC cm) d a b p = if scanUp (fun x => ltC cm x d1[a]!) d1 (b - 1) (a + 1) > scanDown (fun x => !ltC cm x d1[a]!) d1 (scanUp (fun x => ltC cm x d1[a]!) d1 (b - 1) (a + 1)) (b - 1) then (scanDown (fun x => !ltC cm x d1[a]!) d1 (scanUp (fun x => ltC cm x d1[a]!) d1 (b - 1) (a + 1)) (b - 1), true, Go.Sort.swp d1 (scanDown (fun x => !ltC cm x d1[a]!) d1 (scanUp (fun x => ltC cm x d1[a]!) d1 (b - 1) (a + 1)) (b - 1)) a) else ((partLoop (ltC cm) a (scanUp (fun x => ltC cm x d1[a]!) d1 (b - 1) (a + 1) + 1) (scanDown (fun x => !ltC cm x d1[a]!) d1 (scanUp (fun x => ltC cm x d1[a]!) d1 (b - 1) (a + 1)) (b - 1) - 1) (Go.Sort.swp d1 (scanUp (fun x => ltC cm x d1[a]!) d1 (b - 1) (a + 1)) (scanDown (fun x => !ltC cm x d1[a]!) d1 (scanUp (fun x => ltC cm x d1[a]!) d1 (b - 1) (a + 1)) (b - 1)))).1, false, Go.Sort.swp (partLoop (ltC cm) a (scanUp (fun x => ltC cm x d1[a]!) d1 (b - 1) (a + 1) + 1) (scanDown (fun x => !ltC cm x d1[a]!) d1 (scanUp (fun x => ltC cm x d1[a]!) d1 (b - 1) (a + 1)) (b - 1) - 1) (Go.Sort.swp d1 (scanUp (fun x => ltC cm x d1[a]!) d1 (b - 1) (a + 1)) (scanDown (fun x => !ltC cm x d1[a]!) d1 (scanUp (fun x => ltC cm x d1[a]!) d1 (b - 1) (a + 1)) (b - 1)))).2 (partLoop (ltC cm) a (scanUp (fun x => ltC cm x d1[a]!) d1 (b - 1) (a + 1) + 1) (scanDown (fun x => !ltC cm x d1[a]!) d1 (scanUp (fun x => ltC cm x d1[a]!) d1 (b - 1) (a + 1)) (b - 1) - 1) (Go.Sort.swp d1 (scanUp (fun x => ltC cm x d1[a]!) d1 (b - 1) (a + 1)) (scanDown (fun x => !ltC cm x d1[a]!) d1 (scanUp (fun x => ltC cm x d1[a]!) d1 (b - 1) (a + 1)) (b - 1)))).1 a) := by
    rw [hd1]; rfl
  rw [hdef]
  obtain ⟨x, hx⟩ : ∃ x, x = scanUp (fun x => ltC cm x d1[a]!) d1 (b - 1) (a + 1) := ⟨_, rfl⟩
  rw [← hx] at u dn h1 h2 ⊢
  obtain ⟨y, hy⟩ : ∃ y, y = scanDown (fun x => !ltC cm x d1[a]!) d1 x (b - 1) := ⟨_, rfl⟩
  rw [← hy] at dn h2 ⊢
  have w1 : IntKind.i64.wrap ((a : Int) + 1) = ((a + 1 : Nat) : Int) := by rw [show (a : Int) + 1 = ((a + 1 : Nat) : Int) by omega]; exact wrap64 (by omega) (by omega)
  have w2 : IntKind.i64.wrap ((b : Int) - 1) = ((b - 1 : Nat) : Int) := by rw [show (b : Int) - 1 = ((b - 1 : Nat) : Int) by omega]; exact wrap64 (by omega) (by omega)
  have a0 : (0 : Int) ≤ a := by omega
  have a1 : (a : Int) < N := by omega
  have p0 : (0 : Int) ≤ p := by omega
  have p1 : (p : Int) < N := by omega
  have y0 : (0 : Int) ≤ y := by omega
  have y1 : (y : Int) < N := by omega
  obtain ⟨i1, hi1⟩ : ∃ i1, i1 = a + 1 := ⟨_, rfl⟩
  obtain ⟨j1, hj1⟩ : ∃ j1, j1 = b - 1 := ⟨_, rfl⟩
  rw [← hi1] at w1 u
  rw [← hj1] at w2 u dn
  by_cases c : x > y
  · have c' : (y : Int) < x := by omega
    rw [if_pos c]
    have e1 : swI d1 (y : Int) (a : Int) = Go.Sort.swp d1 y a := swI_swp _ _ _ _ _ rfl rfl
    unfold swI at e1
    clear hx hy hdef hd1 hi1 hj1
    refine v_slices_partitionCmpFunc_impl_told (by simp [i_slices_partitionCmpFunc_impl_told]) ?_
    rw [fbody_eq]
    simp (disch := first | assumption | omega | (simp [*] <;> omega) | fail) [-getElem?_pos, List.getElem?_cons_zero, List.getElem?_cons_succ, i_slices_partitionCmpFunc_impl_told, hc0, hl, hix, hld, hst, hd, hs1, e0, u, dn, c', e1, w1, w2, a0, a1, p0, p1, y0, y1, fresults, fresL, fres1]
  · have c' : ¬ (y : Int) < x := by omega
    rw [if_neg c]
    obtain ⟨d2, hd2⟩ : ∃ d2, d2 = Go.Sort.swp d1 x y := ⟨_, rfl⟩
    have hs2 : d2.size = N := by rw [hd2]; simpa using hs1
    have e2 : swI d1 (x : Int) (y : Int) = d2 := by rw [hd2]; exact swI_swp _ _ _ _ _ rfl rfl
    unfold swI at e2
    rw [← hd2]
    have lp := l_told_part E a (by omega) d2 (y - 1 + 1 - (x + 1)) (x + 1) (y - 1) d2 hs2 (Nat.le_refl _) (by omega) (by omega) (by omega)
    obtain ⟨z1, z2⟩ := partLoop_size (ltC cm) a _ (x + 1) (y - 1) d2 (Nat.le_refl _)
    obtain ⟨r, hr⟩ : ∃ r, r = partLoop (ltC cm) a (x + 1) (y - 1) d2 := ⟨_, rfl⟩
    rw [← hr] at lp z1 z2 ⊢
    obtain ⟨r1, d3⟩ := r
    simp only at lp z1 z2 ⊢
    have hs3 : d3.size = N := by rw [z1]; exact hs2
    have e3 : swI d3 (r1 : Int) (a : Int) = Go.Sort.swp d3 r1 a := swI_swp _ _ _ _ _ rfl rfl
    unfold swI at e3
    have x0 : (0 : Int) ≤ x := by omega
    have x1 : (x : Int) < N := by omega
    have r0 : (0 : Int) ≤ r1 := by omega
    have r2 : (r1 : Int) < N := by omega
    have w3 : IntKind.i64.wrap ((x : Int) + 1) = ((x + 1 : Nat) : Int) := by rw [show (x : Int) + 1 = ((x + 1 : Nat) : Int) by omega]; exact wrap64 (by omega) (by omega)
    have w4 : IntKind.i64.wrap ((y : Int) - 1) = ((y - 1 : Nat) : Int) := by rw [show (y : Int) - 1 = ((y - 1 : Nat) : Int) by omega]; exact wrap64 (by omega) (by omega)
    obtain ⟨i2, hi2⟩ : ∃ i2, i2 = x + 1 := ⟨_, rfl⟩
    obtain ⟨j2, hj2⟩ : ∃ j2, j2 = y - 1 := ⟨_, rfl⟩
    rw [← hi2] at w3 lp
    rw [← hj2] at w4 lp
    clear hx hy hdef hd1 hi1 hj1 hi2 hj2 hr z1 z2 hd2
    refine v_slices_partitionCmpFunc_impl_told (by simp [i_slices_partitionCmpFunc_impl_told]) ?_
    rw [fbody_eq]
    simp (disch := first | assumption | omega | (simp [*] <;> omega) | fail) [-getElem?_pos, List.getElem?_cons_zero, List.getElem?_cons_succ, i_slices_partitionCmpFunc_impl_told, hc0, hl, hix, hld, hst, hd, hs1, hs2, hs3, e0, u, dn, c', e2, e3, lp, w1, w2, w3, w4, a0, a1, p0, p1, x0, x1, y0, y1, r0, r2, fresults, fresL, fres1]
end
end Go.Proofs.Ytcdcmaakcldniaa.Zv

/- Sorting: partitions into equal and greater. -/
namespace Go.Proofs.Ytcdcmaakcldniaa.Zv
open Go Go.Sort
variable {nro : Nat} {S C : Value} {P : Int → Value} {ag : Nat → Value} {cm : Nat → Nat → Int} {N : Nat} {H : Array Nat → VH}

section
variable (E : SE nro true 3 S C P ag cm N H)
include E
set_option maxHeartbeats 1000000 in
theorem l_told_partE (a : Nat) (haN : a < N) (d0 : Array Nat) : ∀ (n i j : Nat) (d : Array Nat), d.size = N → j + 1 - i ≤ n → 1 ≤ i → i ≤ N → j < N →
    floop (vcall F nro) nro [0, 1, 4, 11, 12] i_slices_partitionEqualCmpFunc_impl_told_B3 (H d0) [S, .int .i64 a, C, .int .i64 i, .int .i64 j] (H d) = some (.exit 0, fl [(11, .int .i64 ((partEqLoop (ltC cm) a i j d).1 : Nat))], H (partEqLoop (ltC cm) a i j d).2) := by
  intro n
  induction n with
  | zero =>
    intro i j d hd hn hi hiN hj
    have hc := fun q => E.clean0 d0 q
    have hl := E.ln
    have oS := E.oS
    have oC := E.oC
    have u := l_told_up3 E a j haN hj d d hd d[a]! (getI_nat d a a rfl) (j + 1) i (by omega) hiN
    have h1 := scanUp_ge (fun x => !ltC cm d[a]! x) d j i
    have dn := l_told_dn3 E a (scanUp (fun x => !ltC cm d[a]! x) d j i) haN (by omega) d d hd d[a]! (getI_nat d a a rfl) j hj
    have h2 := scanDown_le (fun x => ltC cm d[a]! x) d (scanUp (fun x => !ltC cm d[a]! x) d j i) j
    rw [partEqLoop_eq]
    obtain ⟨x, hx⟩ : ∃ x, x = scanUp (fun x => !ltC cm d[a]! x) d j i := ⟨_, rfl⟩
    rw [← hx] at u dn h1 h2 ⊢
    obtain ⟨y, hy⟩ : ∃ y, y = scanDown (fun x => ltC cm d[a]! x) d x j := ⟨_, rfl⟩
    rw [← hy] at dn h2 ⊢
    have c : x > y := by omega
    have c' : (y : Int) < x := by omega
    rw [if_pos c]
    clear hx hy
    rw [floop_at i_slices_partitionEqualCmpFunc_impl_told_B3.eq_1]
    simp (disch := first | assumption | omega | (simp [*] <;> omega) | fail) [-getElem?_pos, List.getElem?_cons_zero, List.getElem?_cons_succ, hc, hl, oS, oC, u, dn, c']
  | succ n ih =>
    intro i j d hd hn hi hiN hj
    have hc := fun q => E.clean0 d0 q
    have hl := E.ln
    have oS := E.oS
    have oC := E.oC
    have hN := E.hN
    have hix := E.idx
    have hld := E.load
    have hst := E.store
    have u := l_told_up3 E a j haN hj d d hd d[a]! (getI_nat d a a rfl) (j + 1) i (by omega) hiN
    have h1 := scanUp_ge (fun x => !ltC cm d[a]! x) d j i
    have dn := l_told_dn3 E a (scanUp (fun x => !ltC cm d[a]! x) d j i) haN (by omega) d d hd d[a]! (getI_nat d a a rfl) j hj
    have h2 := scanDown_le (fun x => ltC cm d[a]! x) d (scanUp (fun x => !ltC cm d[a]! x) d j i) j
    rw [partEqLoop_eq]
    obtain ⟨x, hx⟩ : ∃ x, x = scanUp (fun x => !ltC cm d[a]! x) d j i := ⟨_, rfl⟩
    rw [← hx] at u dn h1 h2 ⊢
    obtain ⟨y, hy⟩ : ∃ y, y = scanDown (fun x => ltC cm d[a]! x) d x j := ⟨_, rfl⟩
    rw [← hy] at dn h2 ⊢
    by_cases c : x > y
    · have c' : (y : Int) < x := by omega
      rw [if_pos c]
      clear hx hy ih
      rw [floop_at i_slices_partitionEqualCmpFunc_impl_told_B3.eq_1]
      simp (disch := first | assumption | omega | (simp [*] <;> omega) | fail) [-getElem?_pos, List.getElem?_cons_zero, List.getElem?_cons_succ, hc, hl, oS, oC, u, dn, c']
    · have c' : ¬ (y : Int) < x := by omega
      rw [if_neg c]
      have ih2 := ih (x + 1) (y - 1) (Go.Sort.swp d x y) (by simpa using hd) (by omega) (by omega) (by omega) (by omega)
      rw [← ih2]
      have e4 : swI d (x : Int) (y : Int) = Go.Sort.swp d x y := swI_swp _ _ _ _ _ rfl rfl
      unfold swI at e4
      have w1 : IntKind.i64.wrap ((x : Int) + 1) = (x : Int) + 1 := wrap64 (by omega) (by omega)
      have w2 : IntKind.i64.wrap ((y : Int) - 1) = ((y - 1 : Nat) : Int) := by rw [show (y : Int) - 1 = ((y - 1 : Nat) : Int) by omega]; exact wrap64 (by omega) (by omega)
      have x0 : (0 : Int) ≤ x := by omega
      have y0 : (0 : Int) ≤ y := by omega
      have x1 : (x : Int) < N := by omega
      have y1 : (y : Int) < N := by omega
      obtain ⟨z, hz⟩ : ∃ z, z = y - 1 := ⟨_, rfl⟩
      rw [← hz] at w2 ⊢
      clear hx hy ih ih2 hz
      rw [floop_at i_slices_partitionEqualCmpFunc_impl_told_B3.eq_1]
      simp (disch := first | assumption | omega | (simp [*] <;> omega) | fail) [-getElem?_pos, List.getElem?_cons_zero, List.getElem?_cons_succ, hc, hl, oS, oC, u, dn, c', hix, hld, hst, hd, e4, w1, w2, x0, y0, x1, y1]

theorem c_told_partE (d : Array Nat) (hd : d.size = N) (a b p : Nat) (hap : a ≤ p) (hpb : p < b) (hb : b ≤ N) :
    vcall F nro k_slices_partitionEqualCmpFunc_impl_told [S, .int .i64 a, .int .i64 b, .int .i64 p, C] (H d) = some (.int .i64 ((partitionEqual (ltC cm) d a b p).1 : Nat), H (partitionEqual (ltC cm) d a b p).2) := by
  have hc0 := fun q vs => E.clean0 d q vs
  have hl := E.ln
  have hN := E.hN
  have hix := E.idx
  have hld := E.load
  have hst := E.store
  unfold partitionEqual
  obtain ⟨d1, hd1⟩ : ∃ d1, d1 = Go.Sort.swp d a p := ⟨_, rfl⟩
  have hs1 : d1.size = N := by rw [hd1]; simpa using hd
  have e0 : swI d (a : Int) (p : Int) = d1 := by rw [hd1]; exact swI_swp _ _ _ _ _ rfl rfl
  unfold swI at e0
  rw [← hd1]
  have lp := l_told_partE E a (by omega) d1 (b - 1 + 1 - (a + 1)) (a + 1) (b - 1) d1 hs1 (Nat.le_refl _) (by omega) (by omega) (by omega)
  obtain ⟨r, hr⟩ : ∃ r, r = partEqLoop (ltC cm) a (a + 1) (b - 1) d1 := ⟨_, rfl⟩
  rw [← hr] at lp ⊢
  have w1 : IntKind.i64.wrap ((a : Int) + 1) = ((a + 1 : Nat) : Int) := by rw [show (a : Int) + 1 = ((a + 1 : Nat) : Int) by omega]; exact wrap64 (by omega) (by omega)
  have w2 : IntKind.i64.wrap ((b : Int) - 1) = ((b - 1 : Nat) : Int) := by rw [show (b : Int) - 1 = ((b - 1 : Nat) : Int) by omega]; exact wrap64 (by omega) (by omega)
  have a0 : (0 : Int) ≤ a := by omega
  have a1 : (a : Int) < N := by omega
  have p0 : (0 : Int) ≤ p := by omega
  have p1 : (p : Int) < N := by omega
  obtain ⟨i1, hi1⟩ : ∃ i1, i1 = a + 1 := ⟨_, rfl⟩
  obtain ⟨j1, hj1⟩ : ∃ j1, j1 = b - 1 := ⟨_, rfl⟩
  rw [← hi1] at w1 lp
  rw [← hj1] at w2 lp
  clear hr hi1 hj1 hd1
  refine v_slices_partitionEqualCmpFunc_impl_told (by simp [i_slices_partitionEqualCmpFunc_impl_told]) ?_
  rw [fbody_eq]
  simp (disch := first | assumption | omega | (simp [*] <;> omega) | fail) [-getElem?_pos, List.getElem?_cons_zero, List.getElem?_cons_succ, i_slices_partitionEqualCmpFunc_impl_told, hc0, hl, hix, hld, hst, hd, hs1, e0, lp, w1, w2, a0, a1, p0, p1, fresults, fresL, fres1]

/-! ### partialInsertionSort -/
theorem l_told_sorted (a b s : Nat) (hb : b ≤ N) (d0 d : Array Nat) (hd : d.size = N) : ∀ (k i : Nat), b ≤ i + k → 1 ≤ i → i ≤ N →
    floop (vcall F nro) nro [0, 1, 2, 3, 9, 10] i_slices_partialInsertionSortCmpFunc_impl_told_B1 (H d0) [S, .int .i64 a, .int .i64 b, C, .int .i64 i, .int .i64 s] (H d) = some (.exit 2, fl [(0, S), (1, .int .i64 a), (2, .int .i64 b), (3, C), (9, .int .i64 ((scanSorted (ltC cm) d b i : Nat) : Int)), (10, .int .i64 s)], H d) := by
  have hc := fun q => E.clean0 d0 q
  have hl := E.ln
  have oS := E.oS
  have oC := E.oC
  have hN := E.hN
  have hix := E.idx
  have hld := E.load
  have hcm := E.cmp
  intro k
  induction k with
  | zero =>
    intro i hk hi hiN
    have c1 : ¬ (i : Int) < b := by omega
    have c2 : ¬ i < b := by omega
    rw [scanSorted, if_neg (by simp [c2]), floop_at i_slices_partialInsertionSortCmpFunc_impl_told_B1.eq_1]
    simp (disch := first | assumption | omega | (simp [*] <;> omega) | fail) [-getElem?_pos, List.getElem?_cons_zero, List.getElem?_cons_succ, hc, hl, oS, oC, c1, c2]
  | succ k ih =>
    intro i hk hi hiN
    by_cases c1 : i < b
    · have c1' : (i : Int) < b := by omega
      have gi := getI_nat d (i : Int) i rfl
      have gj := getI_nat d ((i : Int) - 1) (i - 1) (by omega)
      have i0 : (0 : Int) ≤ i := by omega
      have i1 : (i : Int) < N := by omega
      have j0 : (0 : Int) ≤ (i : Int) - 1 := by omega
      have j1 : (i : Int) - 1 < N := by omega
      have w1 : IntKind.i64.wrap ((i : Int) + 1) = (i : Int) + 1 := wrap64 (by omega) (by omega)
      have w2 : IntKind.i64.wrap ((i : Int) - 1) = (i : Int) - 1 := wrap64 (by omega) (by omega)
      rw [scanSorted, ← gi, ← gj]
      by_cases c2 : cm (getI d (i : Int)) (getI d ((i : Int) - 1)) < 0
      · have e2 : ltC cm (getI d (i : Int)) (getI d ((i : Int) - 1)) = true := decide_eq_true c2
        rw [if_neg (by simp [e2])]
        clear ih gi gj e2
        rw [floop_at i_slices_partialInsertionSortCmpFunc_impl_told_B1.eq_1]
        simp (disch := first | assumption | omega | (simp [*] <;> omega) | fail) [-getElem?_pos, List.getElem?_cons_zero, List.getElem?_cons_succ, hc, hl, oS, oC, hix, hld, hcm, hd, c1', c1, c2, i0, i1, j0, j1, w1, w2]
      · have e2 : ltC cm (getI d (i : Int)) (getI d ((i : Int) - 1)) = false := decide_eq_false c2
        rw [if_pos (by simp [c1, e2])]
        have ih2 := ih (i + 1) (by omega) (by omega) (by omega)
        rw [← ih2]
        clear ih ih2 gi gj e2
        rw [floop_at i_slices_partialInsertionSortCmpFunc_impl_told_B1.eq_1]
        simp (disch := first | assumption | omega | (simp [*] <;> omega) | fail) [-getElem?_pos, List.getElem?_cons_zero, List.getElem?_cons_succ, hc, hl, oS, oC, hix, hld, hcm, hd, c1', c1, c2, i0, i1, j0, j1, w1, w2]
    · have c1' : ¬ (i : Int) < b := by omega
      rw [scanSorted, if_neg (by simp [c1]), floop_at i_slices_partialInsertionSortCmpFunc_impl_told_B1.eq_1]
      simp (disch := first | assumption | omega | (simp [*] <;> omega) | fail) [-getElem?_pos, List.getElem?_cons_zero, List.getElem?_cons_succ, hc, hl, oS, oC, c1', c1]
omit E in
theorem shiftDown_size (lt : Nat → Nat → Bool) : ∀ (j : Nat) (d : Array Nat), (shiftDown lt j d).size = d.size
  | 0, d => rfl
  | j + 1, d => by
    unfold shiftDown
    split
    · rfl
    · rw [shiftDown_size lt j]; simp
omit E in
theorem shiftUp_size (lt : Nat → Nat → Bool) (b : Nat) (j : Nat) (d : Array Nat) : (shiftUp lt b j d).size = d.size := by
  rw [shiftUp]
  split
  · split
    · rfl
    · rw [shiftUp_size lt b (j + 1)]; simp
  · rfl
 termination_by b - j
theorem l_told_shd (a b i s : Nat) (d0 : Array Nat) : ∀ (j : Nat) (d : Array Nat), d.size = N → j < N →
    floop (vcall F nro) nro [0, 1, 2, 3, 9, 10, 11] i_slices_partialInsertionSortCmpFunc_impl_told_B2 (H d0) [S, .int .i64 a, .int .i64 b, C, .int .i64 i, .int .i64 s, .int .i64 j] (H d) = some (.exit 4, fl [(0, S), (1, .int .i64 a), (2, .int .i64 b), (3, C), (9, .int .i64 i), (10, .int .i64 s)], H (shiftDown (ltC cm) j d))
  | 0, d, hd, hj => by
    have hc := E.clean0 d0 d
    have hl := E.ln
    have oS := E.oS
    have oC := E.oC
    rw [floop_at i_slices_partialInsertionSortCmpFunc_impl_told_B2.eq_1]
    unfold shiftDown
    simp (disch := first | assumption | omega | (simp [*] <;> omega) | fail) [-getElem?_pos, List.getElem?_cons_zero, List.getElem?_cons_succ, hc, hl, oS, oC]
  | j + 1, d, hd, hj => by
    have hc := fun q => E.clean0 d0 q
    have hl := E.ln
    have oS := E.oS
    have oC := E.oC
    have hN := E.hN
    have hi := E.idx
    have hld := E.load
    have hst := E.store
    have hcm := E.cmp
    have w2 : IntKind.i64.wrap (j : Int) = j := wrap64 (by omega) (by omega)
    have g1 := getI_nat d ((j : Int) + 1) (j + 1) (by omega)
    have g2 := getI_nat d (j : Int) j rfl
    have k1 : (0 : Int) ≤ (j : Int) + 1 := by omega
    have k2 : (j : Int) + 1 < N := by omega
    have k3 : (j : Int) < N := by omega
    have k4 : (1 : Int) ≤ (j : Int) + 1 := by omega
    unfold shiftDown
    rw [← g1, ← g2]
    by_cases c2 : cm (getI d ((j : Int) + 1)) (getI d (j : Int)) < 0
    · have e2 : ltC cm (getI d ((j : Int) + 1)) (getI d (j : Int)) = true := decide_eq_true c2
      have ih := l_told_shd a b i s d0 j (Go.Sort.swp d (j + 1) j) (by simpa using hd) (by omega)
      have e3 : swI d ((j : Int) + 1) j = Go.Sort.swp d (j + 1) j := swI_swp _ _ _ _ _ (by omega) rfl
      unfold swI at e3
      rw [if_neg (by simp [e2]), ← ih]
      clear ih g1 g2
      rw [floop_at i_slices_partialInsertionSortCmpFunc_impl_told_B2.eq_1]
      simp (disch := first | assumption | omega | (simp [*] <;> omega) | fail) [-getElem?_pos, List.getElem?_cons_zero, List.getElem?_cons_succ, hc, hl, oS, oC, hi, hld, hst, hcm, hd, w2, k1, k2, k3, k4, c2, e3]
    · have e2 : ltC cm (getI d ((j : Int) + 1)) (getI d (j : Int)) = false := decide_eq_false c2
      rw [if_pos (by simp [e2])]
      clear g1 g2
      rw [floop_at i_slices_partialInsertionSortCmpFunc_impl_told_B2.eq_1]
      simp (disch := first | assumption | omega | (simp [*] <;> omega) | fail) [-getElem?_pos, List.getElem?_cons_zero, List.getElem?_cons_succ, hc, hl, oS, oC, hi, hld, hst, hcm, hd, w2, k1, k2, k3, k4, c2]
theorem l_told_shu (a b i s : Nat) (hb : b ≤ N) (d0 : Array Nat) : ∀ (k j : Nat) (d : Array Nat), d.size = N → b ≤ j + k → 1 ≤ j → j ≤ N + 1 →
    floop (vcall F nro) nro [0, 1, 2, 3, 9, 10, 12] i_slices_partialInsertionSortCmpFunc_impl_told_B3 (H d0) [S, .int .i64 a, .int .i64 b, C, .int .i64 i, .int .i64 s, .int .i64 j] (H d) = some (.exit 6, fl [(0, S), (1, .int .i64 a), (2, .int .i64 b), (3, C), (9, .int .i64 i), (10, .int .i64 s)], H (shiftUp (ltC cm) b j d)) := by
  have hc := fun q => E.clean0 d0 q
  have hl := E.ln
  have oS := E.oS
  have oC := E.oC
  have hN := E.hN
  have hi := E.idx
  have hld := E.load
  have hst := E.store
  have hcm := E.cmp
  intro k
  induction k with
  | zero =>
    intro j d hd hk hj hjN
    have c1 : ¬ (j : Int) < b := by omega
    rw [shiftUp, if_neg (by omega), floop_at i_slices_partialInsertionSortCmpFunc_impl_told_B3.eq_1]
    simp (disch := first | assumption | omega | (simp [*] <;> omega) | fail) [-getElem?_pos, List.getElem?_cons_zero, List.getElem?_cons_succ, hc, hl, oS, oC, c1]
  | succ k ih =>
    intro j d hd hk hj hjN
    by_cases c1 : j < b
    · have c1' : (j : Int) < b := by omega
      have g1 := getI_nat d (j : Int) j rfl
      have g2 := getI_nat d ((j : Int) - 1) (j - 1) (by omega)
      have k1 : (0 : Int) ≤ j := by omega
      have k2 : (j : Int) < N := by omega
      have k3 : (0 : Int) ≤ (j : Int) - 1 := by omega
      have k4 : (j : Int) - 1 < N := by omega
      have w1 : IntKind.i64.wrap ((j : Int) - 1) = (j : Int) - 1 := wrap64 (by omega) (by omega)
      have w2 : IntKind.i64.wrap ((j : Int) + 1) = (j : Int) + 1 := wrap64 (by omega) (by omega)
      rw [shiftUp, if_pos c1, ← g1, ← g2]
      by_cases c2 : cm (getI d (j : Int)) (getI d ((j : Int) - 1)) < 0
      · have e2 : ltC cm (getI d (j : Int)) (getI d ((j : Int) - 1)) = true := decide_eq_true c2
        have ih2 := ih (j + 1) (Go.Sort.swp d j (j - 1)) (by simpa using hd) (by omega) (by omega) (by omega)
        have e3 : swI d (j : Int) ((j : Int) - 1) = Go.Sort.swp d j (j - 1) := swI_swp _ _ _ _ _ rfl (by omega)
        unfold swI at e3
        rw [if_neg (by simp [e2]), ← ih2]
        clear ih ih2 g1 g2
        rw [floop_at i_slices_partialInsertionSortCmpFunc_impl_told_B3.eq_1]
        simp (disch := first | assumption | omega | (simp [*] <;> omega) | fail) [-getElem?_pos, List.getElem?_cons_zero, List.getElem?_cons_succ, hc, hl, oS, oC, hi, hld, hst, hcm, hd, w1, w2, k1, k2, k3, k4, c1', c2, e3]
      · have e2 : ltC cm (getI d (j : Int)) (getI d ((j : Int) - 1)) = false := decide_eq_false c2
        rw [if_pos (by simp [e2])]
        clear ih g1 g2
        rw [floop_at i_slices_partialInsertionSortCmpFunc_impl_told_B3.eq_1]
        simp (disch := first | assumption | omega | (simp [*] <;> omega) | fail) [-getElem?_pos, List.getElem?_cons_zero, List.getElem?_cons_succ, hc, hl, oS, oC, hi, hld, hst, hcm, hd, w1, w2, k1, k2, k3, k4, c1', c2]
    · have c1' : ¬ (j : Int) < b := by omega
      rw [shiftUp, if_neg c1, floop_at i_slices_partialInsertionSortCmpFunc_impl_told_B3.eq_1]
      simp (disch := first | assumption | omega | (simp [*] <;> omega) | fail) [-getElem?_pos, List.getElem?_cons_zero, List.getElem?_cons_succ, hc, hl, oS, oC, c1']
end
end Go.Proofs.Ytcdcmaakcldniaa.Zv

/- Sorting: partial insertion. -/
namespace Go.Proofs.Ytcdcmaakcldniaa.Zv
open Go Go.Sort
variable {nro : Nat} {S C : Value} {P : Int → Value} {ag : Nat → Value} {cm : Nat → Nat → Int} {N : Nat} {H : Array Nat → VH}

theorem scanSorted_rng (lt : Nat → Nat → Bool) (d : Array Nat) (b : Nat) (i : Nat) : i ≤ scanSorted lt d b i ∧ (i ≤ b → scanSorted lt d b i ≤ b) := by
  by_cases c : (decide (i < b) && !lt d[i]! d[i - 1]!) = true
  · rw [scanSorted, if_pos c]
    have hlt : i < b := by simp at c; exact c.1
    have := scanSorted_rng lt d b (i + 1)
    omega
  · rw [scanSorted, if_neg c]
    omega
 termination_by b - i
 decreasing_by omega

section
variable (E : SE nro true 3 S C P ag cm N H)
include E
set_option maxHeartbeats 2000000 in
theorem l_told_pis (a b : Nat) (hab : a < b) (hb : b ≤ N) (d0 : Array Nat) : ∀ (s j i : Nat) (d : Array Nat), j + s = 5 → d.size = N → a + 1 ≤ i → i ≤ b →
    ∃ x e, ((x = .ret ∧ e = fl [(8, .bool (partialIns (ltC cm) a b s i d).2)]) ∨ (x = .exit 0 ∧ e = fl [] ∧ (partialIns (ltC cm) a b s i d).2 = false)) ∧ floop (vcall F nro) nro [0, 1, 2, 3, 9, 10] i_slices_partialInsertionSortCmpFunc_impl_told_B4 (H d0) [S, .int .i64 a, .int .i64 b, C, .int .i64 i, .int .i64 j] (H d) = some (x, e, H (partialIns (ltC cm) a b s i d).1) ∧ (partialIns (ltC cm) a b s i d).1.size = N := by
  intro s
  induction s with
  | zero =>
    intro j i d hj hd hi hib
    have hc := fun q => E.clean0 d0 q
    have hl := E.ln
    have oS := E.oS
    have oC := E.oC
    refine ⟨.exit 0, fl [], .inr ⟨rfl, rfl, rfl⟩, ?_, hd⟩
    have c : ¬ (j : Int) < 5 := by omega
    rw [floop_at i_slices_partialInsertionSortCmpFunc_impl_told_B4.eq_1]
    unfold partialIns
    simp (disch := first | assumption | omega | (simp [*] <;> omega) | fail) [-getElem?_pos, List.getElem?_cons_zero, List.getElem?_cons_succ, hc, hl, oS, oC, c]
  | succ s ih =>
    intro j i d hj hd hi hib
    have hc := fun q => E.clean0 d0 q
    have hl := E.ln
    have oS := E.oS
    have oC := E.oC
    have hN := E.hN
    have hix := E.idx
    have hld := E.load
    have hst := E.store
    have c5 : (j : Int) < 5 := by omega
    have lp := l_told_sorted E a b j hb d d hd b i (by omega) (by omega) (by omega)
    have hr := scanSorted_rng (ltC cm) d b i
    rw [partialIns_succ]
    obtain ⟨x, hx⟩ : ∃ x, x = scanSorted (ltC cm) d b i := ⟨_, rfl⟩
    rw [← hx] at lp hr ⊢
    obtain ⟨r1, r2⟩ := hr
    have r3 := r2 hib
    clear r2 hx
    by_cases c1 : x = b
    · rw [if_pos c1]
      refine ⟨.ret, fl [(8, .bool true)], .inl ⟨rfl, rfl⟩, ?_, hd⟩
      have c1' : (x : Int) = b := by omega
      clear ih
      rw [floop_at i_slices_partialInsertionSortCmpFunc_impl_told_B4.eq_1]
      simp (disch := first | assumption | omega | (simp [*] <;> omega) | fail) [-getElem?_pos, List.getElem?_cons_zero, List.getElem?_cons_succ, hc, hl, oS, oC, c5, lp, c1', c1]
    · have c1' : ¬ (x : Int) = b := by omega
      rw [if_neg c1]
      obtain ⟨len, hlen⟩ : ∃ len, len = b - a := ⟨_, rfl⟩
      have w0 : IntKind.i64.wrap ((b : Int) - a) = len := by rw [show (b : Int) - a = len by omega]; exact wrap64 (by omega) (by omega)
      rw [← hlen]
      by_cases c2 : len < 50
      · rw [if_pos c2]
        refine ⟨.ret, fl [(8, .bool false)], .inl ⟨rfl, rfl⟩, ?_, hd⟩
        have c2' : (len : Int) < 50 := by omega
        clear ih
        rw [floop_at i_slices_partialInsertionSortCmpFunc_impl_told_B4.eq_1]
        simp (disch := first | assumption | omega | (simp [*] <;> omega) | fail) [-getElem?_pos, List.getElem?_cons_zero, List.getElem?_cons_succ, hc, hl, oS, oC, c5, lp, c1', c1, w0, c2']
      · rw [if_neg c2]
        have c2' : ¬ (len : Int) < 50 := by omega
        obtain ⟨d1, hd1⟩ : ∃ d1, d1 = Go.Sort.swp d x (x - 1) := ⟨_, rfl⟩
        have hs1 : d1.size = N := by rw [hd1]; simpa using hd
        have e1 : swI d (x : Int) ((x : Int) - 1) = d1 := by rw [hd1]; exact swI_swp _ _ _ _ _ rfl (by omega)
        unfold swI at e1
        have w1 : IntKind.i64.wrap ((x : Int) - 1) = (x : Int) - 1 := wrap64 (by omega) (by omega)
        have w2 : IntKind.i64.wrap ((x : Int) - a) = (x : Int) - a := wrap64 (by omega) (by omega)
        have w3 : IntKind.i64.wrap ((b : Int) - x) = (b : Int) - x := wrap64 (by omega) (by omega)
        have w4 : IntKind.i64.wrap ((x : Int) + 1) = (x : Int) + 1 := wrap64 (by omega) (by omega)
        have w5 : IntKind.i64.wrap ((j : Int) + 1) = (j : Int) + 1 := wrap64 (by omega) (by omega)
        have x0 : (0 : Int) ≤ x := by omega
        have x1 : (x : Int) < N := by omega
        have y0 : (0 : Int) ≤ (x : Int) - 1 := by omega
        have y1 : (x : Int) - 1 < N := by omega
        rw [← hd1]
        have sd := l_told_shd E a b x j d1 (x - 1) d1 hs1 (by omega)
        rw [show ((x - 1 : Nat) : Int) = (x : Int) - 1 by omega] at sd
        unfold fixUp fixDown
        by_cases c3 : x - a ≥ 2
        · have c3' : (2 : Int) ≤ (x : Int) - a := by omega
          rw [if_pos c3]
          obtain ⟨d2, hd2⟩ : ∃ d2, d2 = shiftDown (ltC cm) (x - 1) d1 := ⟨_, rfl⟩
          have hs2 : d2.size = N := by rw [hd2, shiftDown_size]; exact hs1
          rw [← hd2] at sd ⊢
          by_cases c4 : b - x ≥ 2
          · have c4' : (2 : Int) ≤ (b : Int) - x := by omega
            rw [if_pos c4]
            have su := l_told_shu E a b x j hb d2 b (x + 1) d2 hs2 (by omega) (by omega) (by omega)
            rw [show ((x + 1 : Nat) : Int) = (x : Int) + 1 by omega] at su
            obtain ⟨d3, hd3⟩ : ∃ d3, d3 = shiftUp (ltC cm) b (x + 1) d2 := ⟨_, rfl⟩
            have hs3 : d3.size = N := by rw [hd3, shiftUp_size]; exact hs2
            rw [← hd3] at su ⊢
            obtain ⟨X, e, q1, q2, q3⟩ := ih (j + 1) x d3 (by omega) hs3 (by omega) (by omega)
            refine ⟨X, e, q1, ?_, q3⟩
            rw [← q2]
            clear ih q1 q2 q3 hd1 hd2 hd3
            rw [floop_at i_slices_partialInsertionSortCmpFunc_impl_told_B4.eq_1]
            simp (disch := first | assumption | omega | (simp [*] <;> omega) | fail) [-getElem?_pos, List.getElem?_cons_zero, List.getElem?_cons_succ, hc, hl, oS, oC, hix, hld, hst, hd, hs1, c5, lp, c1', c1, w0, c2', e1, w1, w2, w3, w4, w5, x0, x1, y0, y1, c3', sd, c4', su]
          · have c4' : ¬ (2 : Int) ≤ (b : Int) - x := by omega
            rw [if_neg c4]
            obtain ⟨X, e, q1, q2, q3⟩ := ih (j + 1) x d2 (by omega) hs2 (by omega) (by omega)
            refine ⟨X, e, q1, ?_, q3⟩
            rw [← q2]
            clear ih q1 q2 q3 hd1 hd2
            rw [floop_at i_slices_partialInsertionSortCmpFunc_impl_told_B4.eq_1]
            simp (disch := first | assumption | omega | (simp [*] <;> omega) | fail) [-getElem?_pos, List.getElem?_cons_zero, List.getElem?_cons_succ, hc, hl, oS, oC, hix, hld, hst, hd, hs1, c5, lp, c1', c1, w0, c2', e1, w1, w2, w3, w4, w5, x0, x1, y0, y1, c3', sd, c4']
        · have c3' : ¬ (2 : Int) ≤ (x : Int) - a := by omega
          rw [if_neg c3]
          by_cases c4 : b - x ≥ 2
          · have c4' : (2 : Int) ≤ (b : Int) - x := by omega
            rw [if_pos c4]
            have su := l_told_shu E a b x j hb d1 b (x + 1) d1 hs1 (by omega) (by omega) (by omega)
            rw [show ((x + 1 : Nat) : Int) = (x : Int) + 1 by omega] at su
            obtain ⟨d3, hd3⟩ : ∃ d3, d3 = shiftUp (ltC cm) b (x + 1) d1 := ⟨_, rfl⟩
            have hs3 : d3.size = N := by rw [hd3, shiftUp_size]; exact hs1
            rw [← hd3] at su ⊢
            obtain ⟨X, e, q1, q2, q3⟩ := ih (j + 1) x d3 (by omega) hs3 (by omega) (by omega)
            refine ⟨X, e, q1, ?_, q3⟩
            rw [← q2]
            clear ih q1 q2 q3 hd1 hd3 sd
            rw [floop_at i_slices_partialInsertionSortCmpFunc_impl_told_B4.eq_1]
            simp (disch := first | assumption | omega | (simp [*] <;> omega) | fail) [-getElem?_pos, List.getElem?_cons_zero, List.getElem?_cons_succ, hc, hl, oS, oC, hix, hld, hst, hd, hs1, c5, lp, c1', c1, w0, c2', e1, w1, w2, w3, w4, w5, x0, x1, y0, y1, c3', c4', su]
          · exfalso; omega

theorem c_told_pis (a b : Nat) (hab : a < b) (hb : b ≤ N) (d : Array Nat) (hd : d.size = N) :
    vcall F nro k_slices_partialInsertionSortCmpFunc_impl_told [S, .int .i64 a, .int .i64 b, C] (H d) = some (.bool (partialInsertionSort (ltC cm) d a b).2, H (partialInsertionSort (ltC cm) d a b).1) ∧ (partialInsertionSort (ltC cm) d a b).1.size = N := by
  have hc0 := fun q vs => E.clean0 d q vs
  have hN := E.hN
  obtain ⟨x, e, q1, lp, q3⟩ := l_told_pis E a b hab hb d 5 0 (a + 1) d rfl hd (Nat.le_refl _) (by omega)
  refine ⟨?_, q3⟩
  unfold partialInsertionSort
  obtain ⟨r, hr⟩ : ∃ r, r = partialIns (ltC cm) a b 5 (a + 1) d := ⟨_, rfl⟩
  rw [← hr] at lp q1 ⊢
  obtain ⟨r1, r2⟩ := r
  simp only [Int.natCast_add, Int.natCast_one, Int.natCast_zero] at lp q1 ⊢
  have w1 : IntKind.i64.wrap ((a : Int) + 1) = (a : Int) + 1 := wrap64 (by omega) (by omega)
  clear hr q3
  refine v_slices_partialInsertionSortCmpFunc_impl_told (by simp [i_slices_partialInsertionSortCmpFunc_impl_told]) ?_
  rw [fbody_eq]
  rcases q1 with ⟨rfl, rfl⟩ | ⟨rfl, rfl, rfl⟩
  · simp (disch := first | assumption | omega | (simp [*] <;> omega) | fail) [-getElem?_pos, List.getElem?_cons_zero, List.getElem?_cons_succ, i_slices_partialInsertionSortCmpFunc_impl_told, w1, lp, hc0, fresults, fresL, fres1]
  · simp (disch := first | assumption | omega | (simp [*] <;> omega) | fail) [-getElem?_pos, List.getElem?_cons_zero, List.getElem?_cons_succ, i_slices_partialInsertionSortCmpFunc_impl_told, w1, lp, hc0, fresults, fresL, fres1]
end
end Go.Proofs.Ytcdcmaakcldniaa.Zv

