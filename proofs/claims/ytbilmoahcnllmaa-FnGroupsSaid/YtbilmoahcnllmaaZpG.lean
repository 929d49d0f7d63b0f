/- Part G of the proof: ZwGpD, ZwGpE, ZwGpF, ZwLawGroupsA, ZwLawGroupsB, ZwReg, ZwLawGroupsC, ZwLawGroupsD. Conditions: none. -/
import Derived.Test.YtbilmoahcnllmaaZpD
import Derived.Test.YtbilmoahcnllmaaZpF
set_option linter.unusedSimpArgs false
set_option linter.unusedVariables false
/- Draws of groups. -/
namespace Go.Proofs.Ytbilmoahcnllmaa.Zv
open Go
variable {nro : Nat}
@[simp] theorem old_agg2i (n : Nat) (k1 k2 : IntKind) (a b : Int) : Old n (.agg #[.int k1 a, .int k2 b]) := fun r hr => by simp [trefs, vrefs, crefs, arefs] at hr
@[simp] theorem old_tag2i (n : Nat) (k1 k2 k3 : IntKind) (a b c : Int) : Old n (.tuple #[.agg #[.int k1 a, .int k2 b], .int k3 c]) := fun r hr => by simp [trefs, vrefs, crefs, arefs] at hr
@[simp] theorem old_tag3i (n : Nat) (k1 k2 k3 k4 : IntKind) (a b c d : Int) : Old n (.tuple #[.agg #[.int k1 a, .int k2 b], .int k3 c, .int k4 d]) := fun r hr => by simp [trefs, vrefs, crefs, arefs] at hr
section
variable {H : VH} {b : Nat} {cd : Value} {xs : List Int} {s : SS} (S : Srce nro H b cd xs s)
include S
theorem Srce.self : H.set b (srcO cd s) = H := hset_self S.at'
set_option maxHeartbeats 1000000 in
theorem c_spec_l05DrawOf : ∃ (k n : Nat) (s' : SS), isGp k n ∧ SOK xs s' ∧ vcall F nro k_spec_l05DrawOf [.pointer (some ⟨b, 0, some 3⟩)] H = some (gpv k n, H.set b (srcO cd s')) := by
  have hlt := S.lt
  have hnb := S.nr
  have hn : nro ≤ H.length := by omega
  have hn' := fun k => Nat.le_trans hn (Nat.le_add_right H.length k)
  have hc := fun {s' : SS} (L : VH) (vs : List Value) => S.clean (s' := s') (vs := vs) L
  obtain ⟨x1, s1, o1, a1, b1, _, e1⟩ := S.nextE S.ok [⟨0, [.int .i64 0, .int .i64 0]⟩] 3 (by omega)
  have c1 := b1 (by omega)
  rw [S.self] at e1
  by_cases q0 : x1 = 0
  · obtain ⟨x2, s2, o2, m2, e2⟩ := S.pickE o1 [⟨0, [.int .i64 0, .int .i64 0]⟩, ⟨1, ints [10, 30, 62]⟩] 1 3 [10, 30, 62] rfl rfl (by omega) (by omega)
    have hx2 : 1 ≤ x2 ∧ x2 ≤ 62 := by simp at m2; omega
    obtain ⟨x3, s3, o3, a3, b3, _, e3⟩ := S.nextE o2 [⟨0, [.int .i64 0, .int .i64 0]⟩, ⟨1, ints [10, 30, 62]⟩] x2 (by omega)
    have c3 := b3 (by omega)
    obtain ⟨m, hm⟩ : ∃ m : Nat, 1 + x3 = m := ⟨(1 + x3).toNat, by omega⟩
    have w1 : IntKind.i64.wrap (1 + x3) = m := wrN hm (by omega)
    refine ⟨0, m, s3, .inl ⟨rfl, by omega, by omega⟩, o3, ?_⟩
    refine v_spec_l05DrawOf (by simp [i_spec_l05DrawOf]) ?_
    rw [fbody_eq]
    simp [ints] at e1 e2 e3
    clear b1 b3 m2 hx2 c3 hm a1 c1 a3
    simp (disch := first | assumption | omega | (simp [*] <;> omega) | fail) [-getElem?_pos, List.getElem?_cons_zero, List.getElem?_cons_succ, i_spec_l05DrawOf, e1, e2, e3, q0, w1, hc, hn, hn', splice, fresults, fresL, fres1, hgetS, hsetS, hgetS0, hsetS0]
  · by_cases q1 : x1 = 1
    · obtain ⟨x2, s2, o2, m2, e2⟩ := S.pickE o1 [⟨0, [.int .i64 0, .int .i64 0]⟩, ⟨1, ints [6, 15, 31]⟩] 1 3 [6, 15, 31] rfl rfl (by omega) (by omega)
      have hx2 : 1 ≤ x2 ∧ x2 ≤ 31 := by simp at m2; omega
      obtain ⟨x3, s3, o3, a3, b3, _, e3⟩ := S.nextE o2 [⟨0, [.int .i64 0, .int .i64 0]⟩, ⟨1, ints [6, 15, 31]⟩] x2 (by omega)
      have c3 := b3 (by omega)
      obtain ⟨m, hm⟩ : ∃ m : Nat, 1 + x3 = m := ⟨(1 + x3).toNat, by omega⟩
      have w1 : IntKind.i64.wrap (1 + x3) = m := wrN hm (by omega)
      refine ⟨1, m, s3, .inr (.inl ⟨rfl, by omega, by omega⟩), o3, ?_⟩
      refine v_spec_l05DrawOf (by simp [i_spec_l05DrawOf]) ?_
      rw [fbody_eq]
      simp [ints] at e1 e2 e3
      clear b1 b3 m2 hx2 c3 hm a1 c1 a3 q0
      simp (disch := first | assumption | omega | (simp [*] <;> omega) | fail) [-getElem?_pos, List.getElem?_cons_zero, List.getElem?_cons_succ, i_spec_l05DrawOf, e1, e2, e3, q1, w1, hc, hn, hn', splice, fresults, fresL, fres1, hgetS, hsetS, hgetS0, hsetS0]
    · obtain ⟨x2, s2, o2, m2, e2⟩ := S.pickE o1 [⟨0, [.int .i64 0, .int .i64 0]⟩, ⟨1, ints [2, 3, 5, 7]⟩] 1 4 [2, 3, 5, 7] rfl rfl (by omega) (by omega)
      have hx2 : x2 = 2 ∨ x2 = 3 ∨ x2 = 5 ∨ x2 = 7 := by simpa using m2
      obtain ⟨m, hm⟩ : ∃ m : Nat, x2 = m := ⟨x2.toNat, by omega⟩
      subst hm
      refine ⟨2, m, s2, .inr (.inr ⟨rfl, by omega⟩), o2, ?_⟩
      refine v_spec_l05DrawOf (by simp [i_spec_l05DrawOf]) ?_
      rw [fbody_eq]
      simp [ints] at e1 e2
      clear b1 m2 hx2 a1 c1
      simp (disch := first | assumption | omega | (simp [*] <;> omega) | fail) [-getElem?_pos, List.getElem?_cons_zero, List.getElem?_cons_succ, i_spec_l05DrawOf, e1, e2, q0, q1, hc, hn, hn', splice, fresults, fresL, fres1, hgetS, hsetS, hgetS0, hsetS0]
set_option maxHeartbeats 1000000 in
theorem c_spec_l05Bad (K P : Int) : ∃ (K' P' : Int) (s' : SS), SOK xs s' ∧ vcall F nro k_spec_l05Bad [.pointer (some ⟨b, 0, some 3⟩), gpv K P] H = some (gpv K' P', H.set b (srcO cd s')) := by
  have hlt := S.lt
  have hnb := S.nr
  have hn : nro ≤ H.length := by omega
  have hn' := fun k => Nat.le_trans hn (Nat.le_add_right H.length k)
  have hc := fun {s' : SS} (L : VH) (vs : List Value) => S.clean (s' := s') (vs := vs) L
  obtain ⟨x1, s1, o1, a1, b1, _, e1⟩ := S.nextE S.ok [⟨0, [.int .i64 K, .int .i64 P]⟩, ⟨0, [.int .i64 0, .int .i64 0]⟩] 40 (by omega)
  rw [S.self] at e1
  by_cases q0 : x1 = 0
  · obtain ⟨x2, s2, o2, m2, e2⟩ := S.pickE o1 [⟨0, [.int .i64 K, .int .i64 P]⟩, ⟨0, [.int .i64 0, .int .i64 0]⟩, ⟨1, ints [-1, 3]⟩] 2 2 [-1, 3] rfl rfl (by omega) (by omega)
    refine ⟨x2, P, s2, o2, ?_⟩
    refine v_spec_l05Bad (by simp [i_spec_l05Bad]) ?_
    rw [fbody_eq]
    simp [ints] at e1 e2
    clear b1 m2 a1
    simp (disch := first | assumption | omega | (simp [*] <;> omega) | fail) [-getElem?_pos, List.getElem?_cons_zero, List.getElem?_cons_succ, i_spec_l05Bad, e1, e2, q0, hc, hn, hn', splice, fresults, fresL, fres1, hgetS, hsetS, hgetS0, hsetS0]
  · by_cases q1 : x1 = 1
    · obtain ⟨x2, s2, o2, m2, e2⟩ := S.pickE o1 [⟨0, [.int .i64 K, .int .i64 P]⟩, ⟨0, [.int .i64 0, .int .i64 0]⟩, ⟨1, ints [0, 63, 4, 1099511627776]⟩] 2 4 [0, 63, 4, 1099511627776] rfl rfl (by omega) (by omega)
      refine ⟨K, x2, s2, o2, ?_⟩
      refine v_spec_l05Bad (by simp [i_spec_l05Bad]) ?_
      rw [fbody_eq]
      simp [ints] at e1 e2
      clear b1 m2 a1 q0
      simp (disch := first | assumption | omega | (simp [*] <;> omega) | fail) [-getElem?_pos, List.getElem?_cons_zero, List.getElem?_cons_succ, i_spec_l05Bad, e1, e2, q1, hc, hn, hn', splice, fresults, fresL, fres1, hgetS, hsetS, hgetS0, hsetS0]
    · refine ⟨K, P, s1, o1, ?_⟩
      refine v_spec_l05Bad (by simp [i_spec_l05Bad]) ?_
      rw [fbody_eq]
      clear b1 a1
      simp (disch := first | assumption | omega | (simp [*] <;> omega) | fail) [-getElem?_pos, List.getElem?_cons_zero, List.getElem?_cons_succ, i_spec_l05Bad, e1, q0, q1, hc, hn, hn', splice, fresults, fresL, fres1, hgetS, hsetS, hgetS0, hsetS0]
theorem c_spec_l01Near (m : Int) (h1 : -1000 ≤ m) (h2 : m ≤ 1000000) : ∃ (x : Int) (s' : SS), SOK xs s' ∧ vcall F nro k_spec_l01Near [.pointer (some ⟨b, 0, some 3⟩), .int .i64 m] H = some (.int .i64 x, H.set b (srcO cd s')) := by
  have hlt := S.lt
  have hnb := S.nr
  have hn : nro ≤ H.length := by omega
  have hn' := fun k => Nat.le_trans hn (Nat.le_add_right H.length k)
  have hc := fun {s' : SS} (L : VH) (vs : List Value) => S.clean (s' := s') (vs := vs) L
  have hc0 := fun {s' : SS} (vs : List Value) => S.clean0 (s' := s') (vs := vs)
  obtain ⟨x1, s1, o1, a1, b1, _, e1⟩ := S.nextE S.ok [] 14 (by omega)
  rw [S.self] at e1
  have w1 : IntKind.i64.wrap (m + 1) = m + 1 := wrap64 (by omega) (by omega)
  by_cases q0 : x1 = 0
  · obtain ⟨x2, s2, o2, m2, e2⟩ := S.pickE o1 [⟨1, ints [-1, m + 1, 1099511627776, -4611686018427387904]⟩] 0 4 [-1, m + 1, 1099511627776, -4611686018427387904] rfl rfl (by omega) (by omega)
    refine ⟨x2, s2, o2, ?_⟩
    refine v_spec_l01Near (by simp [i_spec_l01Near]) ?_
    rw [fbody_eq]
    simp [ints] at e1 e2
    clear b1 m2 a1
    simp (disch := first | assumption | omega | (simp [*] <;> omega) | fail) [-getElem?_pos, List.getElem?_cons_zero, List.getElem?_cons_succ, i_spec_l01Near, e1, e2, q0, w1, hc, hc0, hn, hn']
  · obtain ⟨x2, s2, o2, _, _, _, e2⟩ := S.nextE o1 [] (m + 1) (by omega)
    refine ⟨x2, s2, o2, ?_⟩
    refine v_spec_l01Near (by simp [i_spec_l01Near]) ?_
    rw [fbody_eq]
    simp at e1 e2
    clear b1 a1
    simp (disch := first | assumption | omega | (simp [*] <;> omega) | fail) [-getElem?_pos, List.getElem?_cons_zero, List.getElem?_cons_succ, i_spec_l01Near, e1, e2, q0, w1, hc, hc0, hn, hn']
end
section
variable {H : VH} {b : Nat} {cd : Value} {xs : List Int} {s : SS} (S : Srce nro H b cd xs s)
include S
theorem Srce.badGE {s' : SS} (h : SOK xs s') (L : VH) (K P : Int) : ∃ (K' P' : Int) (s2 : SS), SOK xs s2 ∧ vcall F nro k_spec_l05Bad [.pointer (some ⟨b, 0, some 3⟩), gpv K P] (H.set b (srcO cd s') ++ L) = some (gpv K' P', H.set b (srcO cd s2) ++ L) := by
  obtain ⟨K', P', s2, o2, e⟩ := c_spec_l05Bad (nro := nro) (S.set h L) K P
  exact ⟨K', P', s2, o2, by rw [e, S.setL]⟩
theorem Srce.nearE {s' : SS} (h : SOK xs s') (L : VH) (m : Int) (h1 : -1000 ≤ m) (h2 : m ≤ 1000000) : ∃ (x : Int) (s2 : SS), SOK xs s2 ∧ vcall F nro k_spec_l01Near [.pointer (some ⟨b, 0, some 3⟩), .int .i64 m] (H.set b (srcO cd s') ++ L) = some (.int .i64 x, H.set b (srcO cd s2) ++ L) := by
  obtain ⟨x, s2, o2, e⟩ := c_spec_l01Near (nro := nro) (S.set h L) m h1 h2
  exact ⟨x, s2, o2, by rw [e, S.setL]⟩
theorem Srce.groupE {s' : SS} (h : SOK xs s') (L : VH) : ∃ (k n : Nat) (s2 : SS), isGp k n ∧ SOK xs s2 ∧ vcall F nro k_spec_l05DrawOf [.pointer (some ⟨b, 0, some 3⟩)] (H.set b (srcO cd s') ++ L) = some (gpv k n, H.set b (srcO cd s2) ++ L) := by
  obtain ⟨k, n, s2, g, o2, e⟩ := c_spec_l05DrawOf (nro := nro) (S.set h L)
  exact ⟨k, n, s2, g, o2, by rw [e, S.setL]⟩
end
section
variable {h : VH} {cd : Value} {xs : List Int} (hs : Sl h cd (bys xs)) (hx : Code' xs) (hn : nro ≤ h.length)
include hs hx hn
theorem c_spec_l05With : ∃ (K P x : Int), vcall F nro k_spec_l05With [cd] h = some (.tuple #[gpv K P, .int .i64 x], h) := by
  have hn' := fun k => Nat.le_trans hn (Nat.le_add_right h.length k)
  have hs0 := Sl.app hs [⟨0, [.int .i64 0, .int .i64 0]⟩]
  have hn0 : nro ≤ (h ++ [⟨0, [.int .i64 0, .int .i64 0]⟩] : VH).length := by simp; omega
  obtain ⟨s, ho, e1⟩ := c_spec_l01From (nro := nro) (h ++ [⟨0, [.int .i64 0, .int .i64 0]⟩]) cd xs hs0 hx hn0
  have S := srce_new (nro := nro) (h := h ++ [⟨0, [.int .i64 0, .int .i64 0]⟩]) hs0 hx hn0 ho
  obtain ⟨k, n, s2, g, o2, e2⟩ := S.groupE ho []
  have hb := g.ord_le
  have w1 : IntKind.i64.wrap ((gord k n : Nat) - (1 : Int)) = (gord k n : Nat) - (1 : Int) := wrap64 (by omega) (by omega)
  obtain ⟨x, s3, o3, e3⟩ := S.nearE o2 [⟨0, [.int .i64 k, .int .i64 n]⟩] ((gord k n : Nat) - (1 : Int)) (by omega) (by omega)
  obtain ⟨K, P, s4, o4, e4⟩ := S.badGE o3 [⟨0, [.int .i64 k, .int .i64 n]⟩] k n
  have hod := fun L => c_spec_l05Order (nro := nro) g (h ++ L)
  refine ⟨K, P, x, ?_⟩
  refine v_spec_l05With (by simp [i_spec_l05With]) ?_
  rw [fbody_eq]
  simp [hsetK] at e1 e2 e3 e4
  clear hs hs0 S
  simp (disch := first | assumption | omega | (simp [*] <;> omega) | fail) [i_spec_l05With, e1, e2, e3, e4, hod, w1, hn, hn', splice, fresults, fresL, fres1]
theorem c_spec_DrawInverseIn : ∃ (K P x : Int), vcall F nro k_spec_DrawInverseIn [cd] h = some (.tuple #[gpv K P, .int .i64 x], h) := by
  have hn' := fun k => Nat.le_trans hn (Nat.le_add_right h.length k)
  have hn0 : nro ≤ (h ++ [⟨0, [.int .i64 0, .int .i64 0]⟩] : VH).length := by simp; omega
  obtain ⟨K, P, x, e1⟩ := c_spec_l05With (nro := nro) (Sl.app hs [⟨0, [.int .i64 0, .int .i64 0]⟩]) hx hn0
  refine ⟨K, P, x, ?_⟩
  refine v_spec_DrawInverseIn (by simp [i_spec_DrawInverseIn]) ?_
  rw [fbody_eq]
  clear hs
  simp (disch := first | assumption | omega | (simp [*] <;> omega) | fail) [i_spec_DrawInverseIn, e1, hn, hn', splice, fresults, fresL, fres1]
theorem c_spec_DrawOrderOf : ∃ (K P x : Int), vcall F nro k_spec_DrawOrderOf [cd] h = some (.tuple #[gpv K P, .int .i64 x], h) := by
  have hn' := fun k => Nat.le_trans hn (Nat.le_add_right h.length k)
  have hn0 : nro ≤ (h ++ [⟨0, [.int .i64 0, .int .i64 0]⟩] : VH).length := by simp; omega
  obtain ⟨K, P, x, e1⟩ := c_spec_l05With (nro := nro) (Sl.app hs [⟨0, [.int .i64 0, .int .i64 0]⟩]) hx hn0
  refine ⟨K, P, x, ?_⟩
  refine v_spec_DrawOrderOf (by simp [i_spec_DrawOrderOf]) ?_
  rw [fbody_eq]
  clear hs
  simp (disch := first | assumption | omega | (simp [*] <;> omega) | fail) [i_spec_DrawOrderOf, e1, hn, hn', splice, fresults, fresL, fres1]
theorem c_spec_DrawProductIn : ∃ (K P x y : Int), vcall F nro k_spec_DrawProductIn [cd] h = some (.tuple #[gpv K P, .int .i64 x, .int .i64 y], h) := by
  have hn' := fun k => Nat.le_trans hn (Nat.le_add_right h.length k)
  have hs0 := Sl.app hs [⟨0, [.int .i64 0, .int .i64 0]⟩]
  have hn0 : nro ≤ (h ++ [⟨0, [.int .i64 0, .int .i64 0]⟩] : VH).length := by simp; omega
  obtain ⟨s, ho, e1⟩ := c_spec_l01From (nro := nro) (h ++ [⟨0, [.int .i64 0, .int .i64 0]⟩]) cd xs hs0 hx hn0
  have S := srce_new (nro := nro) (h := h ++ [⟨0, [.int .i64 0, .int .i64 0]⟩]) hs0 hx hn0 ho
  obtain ⟨k, n, s2, g, o2, e2⟩ := S.groupE ho []
  have hb := g.ord_le
  have w1 : IntKind.i64.wrap ((gord k n : Nat) - (1 : Int)) = (gord k n : Nat) - (1 : Int) := wrap64 (by omega) (by omega)
  obtain ⟨x, s3, o3, e3⟩ := S.nearE o2 [⟨0, [.int .i64 k, .int .i64 n]⟩] ((gord k n : Nat) - (1 : Int)) (by omega) (by omega)
  obtain ⟨y, s4, o4, e4⟩ := S.nearE o3 [⟨0, [.int .i64 k, .int .i64 n]⟩] ((gord k n : Nat) - (1 : Int)) (by omega) (by omega)
  obtain ⟨K, P, s5, o5, e5⟩ := S.badGE o4 [⟨0, [.int .i64 k, .int .i64 n]⟩] k n
  have hod := fun L => c_spec_l05Order (nro := nro) g (h ++ L)
  refine ⟨K, P, x, y, ?_⟩
  refine v_spec_DrawProductIn (by simp [i_spec_DrawProductIn]) ?_
  rw [fbody_eq]
  simp [hsetK] at e1 e2 e3 e4 e5
  clear hs hs0 S
  simp (disch := first | assumption | omega | (simp [*] <;> omega) | fail) [i_spec_DrawProductIn, e1, e2, e3, e4, e5, hod, w1, hn, hn', splice, fresults, fresL, fres1]
theorem c_spec_DrawOrderOfGroup : ∃ (K P : Int), vcall F nro k_spec_DrawOrderOfGroup [cd] h = some (gpv K P, h) := by
  have hn' := fun k => Nat.le_trans hn (Nat.le_add_right h.length k)
  have hs0 := Sl.app hs [⟨0, [.int .i64 0, .int .i64 0]⟩]
  have hn0 : nro ≤ (h ++ [⟨0, [.int .i64 0, .int .i64 0]⟩] : VH).length := by simp; omega
  obtain ⟨s, ho, e1⟩ := c_spec_l01From (nro := nro) (h ++ [⟨0, [.int .i64 0, .int .i64 0]⟩]) cd xs hs0 hx hn0
  have S := srce_new (nro := nro) (h := h ++ [⟨0, [.int .i64 0, .int .i64 0]⟩]) hs0 hx hn0 ho
  obtain ⟨k, n, s2, g, o2, e2⟩ := S.groupE ho []
  obtain ⟨K, P, s5, o5, e5⟩ := S.badGE o2 [] k n
  refine ⟨K, P, ?_⟩
  refine v_spec_DrawOrderOfGroup (by simp [i_spec_DrawOrderOfGroup]) ?_
  rw [fbody_eq]
  simp [hsetK] at e1 e2 e5
  clear hs hs0 S
  simp (disch := first | assumption | omega | (simp [*] <;> omega) | fail) [i_spec_DrawOrderOfGroup, e1, e2, e5, hn, hn', splice, fresults, fresL, fres1]
end
end Go.Proofs.Ytbilmoahcnllmaa.Zv

/- Draws of groups with lists. -/
namespace Go.Proofs.Ytbilmoahcnllmaa.Zv
open Go
variable {nro : Nat}
section
variable {H : VH} {b : Nat} {cd : Value} {xs : List Int} {s : SS} (S : Srce nro H b cd xs s)
include S
theorem Srce.old : Old H.length cd := by
  have := (S.sl (srcO cd s)).old
  rwa [S.self] at this
/-- Four objects more, of which the second grows. -/
theorem Srce.clean4 {A B C : VO} {s0 s1 : SS} {r0 r1 : List Int} (L : VH) {vs : List Value} (hv : ∀ v ∈ vs, Old (H.length + 4) v) :
    kclean (H.set b (srcO cd s0) ++ [A, ⟨1, ints r0⟩, B, C]) vs (H.set b (srcO cd s1) ++ (A :: ⟨1, ints r1⟩ :: B :: C :: L)) = (vs, H.set b (srcO cd s1) ++ [A, ⟨1, ints r1⟩, B, C]) := by
  have := cleanup_upd (L := L) (dg_upd S A B C s0 s1 r0 r1) (vs := vs) (fun v h => by simpa [dgH] using hv v h)
  unfold dgH at this
  rw [List.append_assoc] at this
  exact this
theorem l_l05DrawList {k n : Nat} (g : isGp k n) {A B : VO} (s0 : SS) : ∀ (j : Nat) (acc : List Int) (s1 : SS), SOK xs s1 → acc.length + j ≤ 10 →
    ∃ ys s2, SOK xs s2 ∧ ys.length = acc.length + j ∧ floop (vcall F nro) nro [0, 2, 4, 5, 6] i_spec_l05DrawList_B1 (H.set b (srcO cd s0) ++ [A, ⟨1, []⟩, gbx k n, B]) [.pointer (some ⟨b, 0, some 3⟩), .pointer (some ⟨H.length, 0, some 2⟩), .pointer (some ⟨H.length + 2, 0, some 2⟩), .slice (some ⟨H.length + 1, 0, none⟩) acc.length acc.length, .int .i64 j] (H.set b (srcO cd s1) ++ [A, ⟨1, ints acc⟩, gbx k n, B]) =
      some (.exit 0, fl [(0, .pointer (some ⟨b, 0, some 3⟩)), (2, .pointer (some ⟨H.length, 0, some 2⟩)), (4, .pointer (some ⟨H.length + 2, 0, some 2⟩)), (5, .slice (some ⟨H.length + 1, 0, none⟩) ys.length ys.length)], H.set b (srcO cd s2) ++ [A, ⟨1, ints ys⟩, gbx k n, B]) := by
  have hlt := S.lt
  have hnb := S.nr
  have hn : nro ≤ H.length := by omega
  have hn' := fun k => Nat.le_trans hn (Nat.le_add_right H.length k)
  have hb := g.ord_le
  intro j
  induction j with
  | zero =>
    intro acc s1 o1 hj
    refine ⟨acc, s1, o1, rfl, ?_⟩
    rw [floop_at i_spec_l05DrawList_B1.eq_1]
    simp (disch := first | assumption | omega | (simp [*] <;> omega) | fail) [-getElem?_pos, List.getElem?_cons_zero, List.getElem?_cons_succ, hn, hn']
  | succ j ih =>
    intro acc s1 o1 hj
    obtain ⟨x, s2, o2, _, _, _, e2⟩ := S.nextE o1 [A, ⟨1, ints acc⟩, gbx k n, B] (gord k n : Nat) (by omega)
    obtain ⟨ys, s3, o3, hl, lp⟩ := ih (acc ++ [x]) s2 o2 (by simp; omega)
    refine ⟨ys, s3, o3, by rw [hl]; simp; omega, ?_⟩
    rw [← lp]
    have hod := fun L => c_spec_l05Order (nro := nro) g (H.set b (srcO cd s1) ++ L)
    have w1 : IntKind.i64.wrap (j : Int) = j := wrap64 (by omega) (by omega)
    have b1 : (acc.length + 1) * 8 ≤ 1099511627776 := by omega
    have b3 : acc.length < 1099511627776 := by omega
    have b4 : acc.length + 1 < 9223372036854775807 := by omega
    have hapi : ints acc ++ [Value.int .i64 x] = ints (acc ++ [x]) := by simp [ints]
    have hc := fun (L : VH) (vs : List Value) => S.clean4 (A := A) (B := gbx k n) (C := B) (s0 := s0) (s1 := s2) (r0 := []) (r1 := acc ++ [x]) L (vs := vs)
    have en : ints [] = [] := rfl
    rw [en] at hc
    have hl2 : (acc ++ [x]).length = acc.length + 1 := by simp
    obtain ⟨a2, ha2⟩ : ∃ a2, a2 = acc ++ [x] := ⟨_, rfl⟩
    rw [← ha2] at hapi hc hl2 ⊢
    rw [hl2]
    have hj0 : (0 : Int) < (j : Int) + 1 := by omega
    have e2' := e2
    clear ih lp hl ha2 S
    rw [floop_at i_spec_l05DrawList_B1.eq_1]
    simp (disch := first | assumption | omega | (simp [*] <;> omega) | fail) [-getElem?_pos, List.getElem?_cons_zero, List.getElem?_cons_succ, hod, e2, w1, hapi, b1, b3, b4, hc, hn, hn', hj0, hgetS, hsetS, hgetS0, hsetS0]
theorem Srce.cleanTL {s' : SS} (L : VH) (k : Nat) (K P : Int) (off n t : Nat) (o : VO) (hk : L[k]? = some o) (hf : flatO H.length o) : kclean H [.tuple #[.agg #[.int .i64 K, .int .i64 P], .slice (some ⟨H.length + k, off, none⟩) n t]] (H.set b (srcO cd s') ++ L) = ([.tuple #[.agg #[.int .i64 K, .int .i64 P], .slice (some ⟨H.length, off, none⟩) n t]], H.set b (srcO cd s') ++ [o]) := by
  rw [cleanup_one_upd (k := k) (o := o) ((Upd.rfl' H).set' (b := b) (flatO_src S.old s')) (by simp [trefs, vrefs, crefs, arefs]) hk hf]
  simp [tren, vren, cren, aren, renOf_one]
set_option maxHeartbeats 1000000 in
theorem c_spec_l05DrawList : ∃ (k n : Nat) (ys : List Int) (s' : SS), isGp k n ∧ SOK xs s' ∧ ys.length ≤ 6 ∧ vcall F nro k_spec_l05DrawList [.pointer (some ⟨b, 0, some 3⟩)] H = some (.tuple #[gpv k n, .slice (some ⟨H.length, 0, none⟩) ys.length ys.length], H.set b (srcO cd s') ++ [⟨1, ints ys⟩]) := by
  have hlt := S.lt
  have hnb := S.nr
  have hn : nro ≤ H.length := by omega
  have hn' := fun k => Nat.le_trans hn (Nat.le_add_right H.length k)
  obtain ⟨k, n, s1, g, o1, e1⟩ := S.groupE S.ok [⟨0, [.int .i64 0, .int .i64 0]⟩]
  rw [S.self] at e1
  obtain ⟨x2, s2, o2, m2, e2⟩ := S.pickE o1 [⟨0, [.int .i64 0, .int .i64 0]⟩, ⟨1, []⟩, gbx k n, ⟨1, ints [2, 3, 5]⟩] 3 3 [2, 3, 5] rfl rfl (by omega) (by omega)
  have hx2 : 1 ≤ x2 ∧ x2 ≤ 5 := by simp at m2; omega
  obtain ⟨x3, s3, o3, a3, b3, _, e3⟩ := S.nextE o2 [⟨0, [.int .i64 0, .int .i64 0]⟩, ⟨1, []⟩, gbx k n, ⟨1, ints [2, 3, 5]⟩] x2 (by omega)
  have c3 := b3 (by omega)
  obtain ⟨m, hm⟩ : ∃ m : Nat, x3 = m := ⟨x3.toNat, by omega⟩
  subst hm
  obtain ⟨ys, s4, o4, hl, lp⟩ := l_l05DrawList (nro := nro) S g (A := ⟨0, [.int .i64 0, .int .i64 0]⟩) (B := ⟨1, ints [2, 3, 5]⟩) s3 m [] s3 o3 (by simp; omega)
  simp only [List.length_nil, Nat.zero_add] at hl lp
  have hyl : ys.length ≤ 4 := by omega
  obtain ⟨x5, s5, o5, a5, b5, _, e5⟩ := S.nextE o4 [⟨0, [.int .i64 0, .int .i64 0]⟩, ⟨1, ints ys⟩, gbx k n, ⟨1, ints [2, 3, 5]⟩] 20 (by omega)
  have hb := g.ord_le
  have hod := fun s L => c_spec_l05Order (nro := nro) g (H.set b (srcO cd s) ++ L)
  have en : ints [] = [] := rfl
  rw [en] at lp
  have e235 : ints [2, 3, 5] = [.int .i64 2, .int .i64 3, .int .i64 5] := rfl
  by_cases q0 : x5 = 0
  · obtain ⟨x6, s6, o6, _, e6⟩ := S.pickE o5 [⟨0, [.int .i64 0, .int .i64 0]⟩, ⟨1, ints ys⟩, gbx k n, ⟨1, ints [2, 3, 5]⟩, ⟨1, ints [-1, (gord k n : Nat), 0]⟩] 4 3 [-1, (gord k n : Nat), 0] rfl rfl (by omega) (by omega)
    have b1 : (ys.length + 1) * 8 ≤ 1099511627776 := by omega
    have b3 : ys.length < 1099511627776 := by omega
    have b4 : ys.length + 1 < 9223372036854775807 := by omega
    have hapi : ints ys ++ [Value.int .i64 x6] = ints (ys ++ [x6]) := by simp [ints]
    have hl2 : (ys ++ [x6]).length = ys.length + 1 := by simp
    refine ⟨k, n, ys ++ [x6], s6, g, o6, by omega, ?_⟩
    rw [hl2]
    obtain ⟨a2, ha2⟩ : ∃ a2, a2 = ys ++ [x6] := ⟨_, rfl⟩
    rw [← ha2] at hapi ⊢
    have e3n : ints [-1, ((gord k n : Nat) : Int), 0] = [.int .i64 (-1), .int .i64 (gord k n : Nat), .int .i64 0] := rfl
    rw [e3n] at e6
    rw [e235] at e2 e3 lp e5 e6
    have hcl := fun (L : VH) => S.cleanTL (s' := s6) (⟨0, [.int .i64 k, .int .i64 n]⟩ :: ⟨1, ints a2⟩ :: L) 1 k n 0 (ys.length + 1) (ys.length + 1) ⟨1, ints a2⟩ rfl (flatO_ints _ _ _)
    refine v_spec_l05DrawList (by simp [i_spec_l05DrawList]) ?_
    rw [fbody_eq]
    clear m2 hx2 c3 hl ha2 a3 S hb
    simp (disch := first | assumption | omega | (simp [*] <;> omega) | fail) [-getElem?_pos, List.getElem?_cons_zero, List.getElem?_cons_succ, i_spec_l05DrawList, e1, e2, e3, lp, e5, q0, hod, e6, b1, b3, b4, hapi, hcl, hn, hn', splice, fresults, fresL, fres1, hgetS, hsetS, hgetS0, hsetS0]
  · refine ⟨k, n, ys, s5, g, o5, by omega, ?_⟩
    rw [e235] at e2 e3 lp e5
    have hcl := fun (L : VH) => S.cleanTL (s' := s5) (⟨0, [.int .i64 k, .int .i64 n]⟩ :: ⟨1, ints ys⟩ :: L) 1 k n 0 ys.length ys.length ⟨1, ints ys⟩ rfl (flatO_ints _ _ _)
    refine v_spec_l05DrawList (by simp [i_spec_l05DrawList]) ?_
    rw [fbody_eq]
    clear m2 hx2 c3 hl a3 S hb
    simp (disch := first | assumption | omega | (simp [*] <;> omega) | fail) [-getElem?_pos, List.getElem?_cons_zero, List.getElem?_cons_succ, i_spec_l05DrawList, e1, e2, e3, lp, e5, q0, hcl, hn, hn', splice, fresults, fresL, fres1, hgetS, hsetS, hgetS0, hsetS0]
end
end Go.Proofs.Ytbilmoahcnllmaa.Zv

/- Draws of groups with connection sets. -/
namespace Go.Proofs.Ytbilmoahcnllmaa.Zv
open Go
variable {nro : Nat}
@[simp] theorem clean_tagsk (h L : VH) (k : Nat) (off n t : Nat) (k1 : IntKind) (x : Int) (k2 : IntKind) (y : Int) (hk : k < L.length) (hf : flatO h.length (L.getD k ⟨0, []⟩)) :
    kclean h [.tuple #[.agg #[.int k1 x, .int k2 y], .slice (some ⟨h.length + k, off, none⟩) n t]] (h ++ L) = ([.tuple #[.agg #[.int k1 x, .int k2 y], .slice (some ⟨h.length, off, none⟩) n t]], h ++ [L.getD k ⟨0, []⟩]) := by
  rw [cleanup_one (k := k) (o := L.getD k ⟨0, []⟩) (by simp [trefs, vrefs, crefs, arefs]) (by simp [List.getD_eq_getElem?_getD, hk]) hf]
  simp [tren, vren, cren, aren, renOf_one]
section
variable {H : VH} {b : Nat} {cd : Value} {xs : List Int} {s : SS} (S : Srce nro H b cd xs s)
include S
open Classical in
theorem l_l05DrawSet {k n : Nat} (g : isGp k n) {A : VO} (hA : A.cells.length = 2) (hA0 : A.sz = 0) (s1 : SS) (ys : List Int) (hy : ys.length ≤ 100) :
    floop (vcall F nro) nro [0, 2, 4, 5, 6] i_spec_l05DrawSet_B1 (H.set b (srcO cd s1) ++ [A, ⟨1, ints ys⟩, gbx k n]) [.pointer (some ⟨b, 0, some 3⟩), .pointer (some ⟨H.length, 0, some 2⟩), .pointer (some ⟨H.length + 2, 0, some 2⟩), .slice (some ⟨H.length + 1, 0, none⟩) ys.length ys.length, .int .i64 0] (H.set b (srcO cd s1) ++ [A, ⟨1, ints ys⟩, gbx k n]) =
      if ¬ ∀ x ∈ ys, gin k n x then some (.ret, fl [(2, .pointer (some ⟨H.length, 0, some 2⟩)), (3, .slice (some ⟨H.length + 1, 0, none⟩) ys.length ys.length)], H.set b (srcO cd s1) ++ [gbx k n, ⟨1, ints ys⟩, gbx k n])
      else some (.exit 0, fl [(0, .pointer (some ⟨b, 0, some 3⟩)), (2, .pointer (some ⟨H.length, 0, some 2⟩)), (4, .pointer (some ⟨H.length + 2, 0, some 2⟩)), (5, .slice (some ⟨H.length + 1, 0, none⟩) ys.length ys.length)], H.set b (srcO cd s1) ++ [A, ⟨1, ints ys⟩, gbx k n]) := by
  have hlt := S.lt
  have hnb := S.nr
  have hn : nro ≤ H.length := by omega
  have hn' := fun k => Nat.le_trans hn (Nat.le_add_right H.length k)
  have hb := g.ord_le
  have hod := fun L => c_spec_l05Order (nro := nro) g (H.set b (srcO cd s1) ++ L)
  have wo : IntKind.i64.wrap ((gord k n : Nat) - (1 : Int)) = (gord k n : Nat) - (1 : Int) := wrap64 (by omega) (by omega)
  have hin := fun a b' c L => c_spec_l01In (nro := nro) a b' c (H.set b (srcO cd s1) ++ L)
  have lp := for_find (call := vcall F nro) (nro := nro) (live := [0, 2, 4, 5, 6]) (c := i_spec_l05DrawSet_B1) (h0 := H.set b (srcO cd s1) ++ [A, ⟨1, ints ys⟩, gbx k n]) (n := ys.length) (fun i => [.pointer (some ⟨b, 0, some 3⟩), .pointer (some ⟨H.length, 0, some 2⟩), .pointer (some ⟨H.length + 2, 0, some 2⟩), .slice (some ⟨H.length + 1, 0, none⟩) ys.length ys.length, .int .i64 i]) (H.set b (srcO cd s1) ++ [A, ⟨1, ints ys⟩, gbx k n]) (fun i => ¬ gin k n (ys.getD i 0)) (some (.ret, fl [(2, .pointer (some ⟨H.length, 0, some 2⟩)), (3, .slice (some ⟨H.length + 1, 0, none⟩) ys.length ys.length)], H.set b (srcO cd s1) ++ [gbx k n, ⟨1, ints ys⟩, gbx k n]))
    (some (.exit 0, fl [(0, .pointer (some ⟨b, 0, some 3⟩)), (2, .pointer (some ⟨H.length, 0, some 2⟩)), (4, .pointer (some ⟨H.length + 2, 0, some 2⟩)), (5, .slice (some ⟨H.length + 1, 0, none⟩) ys.length ys.length)], H.set b (srcO cd s1) ++ [A, ⟨1, ints ys⟩, gbx k n])) (fun i hi hi2 => ?_) ?_ 0 (by omega)
  · simp only [Int.natCast_zero, not_gin] at lp
    exact lp
  · rw [getD_at ys hi]
    have ti := take1_ints hi
    have w1 : IntKind.i64.wrap ((i : Int) + 1) = (i : Int) + 1 := wrap64 (by omega) (by omega)
    obtain ⟨A1, A2⟩ := A
    simp only at hA hA0
    subst hA0
    obtain ⟨c1, c2, rfl⟩ : ∃ c1 c2, A2 = [c1, c2] := by
      match A2, hA with
      | [c1, c2], _ => exact ⟨c1, c2, rfl⟩
    generalize ys[i] = a at ti ⊢
    have hcl := fun (vs : List Value) => cleanup_upd (L := []) (Upd.rfl' (H.set b (srcO cd s1) ++ [⟨0, [c1, c2]⟩, ⟨1, ints ys⟩, gbx k n])) (vs := vs)
    simp only [List.append_nil] at hcl
    rw [floop_at i_spec_l05DrawSet_B1.eq_1]
    unfold gin
    simp only [Int.toNat_natCast]
    clear S hb
    constructor
    · intro hq
      have q1 : ¬ (0 ≤ a ∧ a ≤ (gord k n : Nat) - (1 : Int)) := by omega
      clear hq
      simp (disch := first | assumption | omega | (simp [*] <;> omega) | fail) [-getElem?_pos, List.getElem?_cons_zero, List.getElem?_cons_succ, hi, hi2, ti, q1, hod, hin, wo, hn, hn', splice, hgetS, hsetS, hgetS0, hsetS0]
    · intro hq
      have q1 : (0 ≤ a ∧ a ≤ (gord k n : Nat) - (1 : Int)) := by omega
      have hb4 : b < H.length + 3 := by omega
      clear hq
      simp (disch := first | assumption | omega | (simp [*] <;> omega) | fail) [-getElem?_pos, List.getElem?_cons_zero, List.getElem?_cons_succ, hi, hi2, ti, q1, hod, hin, wo, w1, hn, hn', hgetS, hsetS, hgetS0, hsetS0, hcl, hb4]
  · rw [floop_at i_spec_l05DrawSet_B1.eq_1]
    simp (disch := first | assumption | omega | (simp [*] <;> omega) | fail) [-getElem?_pos, List.getElem?_cons_zero, List.getElem?_cons_succ, hn, hn', hgetS, hsetS, hgetS0, hsetS0]
set_option maxHeartbeats 1000000 in
theorem c_spec_l05DrawSet : ∃ (k n : Nat) (ys : List Int) (s' : SS), isGp k n ∧ SOK xs s' ∧ ys.length ≤ 62 ∧ vcall F nro k_spec_l05DrawSet [.pointer (some ⟨b, 0, some 3⟩)] H = some (.tuple #[gpv k n, .slice (some ⟨H.length, 0, none⟩) ys.length ys.length], H.set b (srcO cd s') ++ [⟨1, ints ys⟩]) := by
  have hlt := S.lt
  have hnb := S.nr
  have hn : nro ≤ H.length := by omega
  have hn' := fun k => Nat.le_trans hn (Nat.le_add_right H.length k)
  obtain ⟨k, n, ys, s1, g, o1, hy, e1⟩ := c_spec_l05DrawList (nro := nro) (S.set S.ok [⟨0, [.int .i64 0, .int .i64 0]⟩])
  rw [S.setL, S.self, List.append_assoc] at e1
  have hl1 : (H ++ [⟨0, [.int .i64 0, .int .i64 0]⟩] : VH).length = H.length + 1 := by simp
  rw [hl1] at e1
  have lp := l_l05DrawSet (nro := nro) S g (A := ⟨0, [.int .i64 0, .int .i64 0]⟩) rfl rfl s1 ys (by omega)
  have hb := g.ord_le
  by_cases c : ∀ x ∈ ys, gin k n x
  · rw [if_neg (not_not_intro c)] at lp
    obtain ⟨t1, t2⟩ := toN_ok c
    obtain ⟨x5, s5, o5, a5, b5, _, e5⟩ := S.nextE o1 [⟨0, [.int .i64 0, .int .i64 0]⟩, ⟨1, ints ys⟩, gbx k n] 8 (by omega)
    by_cases q0 : 0 < x5
    · have hsl := sli_at (h := H.set b (srcO cd s5) ++ [⟨0, [.int .i64 0, .int .i64 0]⟩, ⟨1, ints ys⟩, gbx k n]) (b := H.length + 1) (xs := ys) (by rw [hgetS]; rfl)
      rw [t1] at hsl
      have e6 := c_spec_l05Closed (nro := nro) g t2 hsl (by simp; omega) (by simp [toN]; omega)
      have hl2 : (H.set b (srcO cd s5) ++ [⟨0, [.int .i64 0, .int .i64 0]⟩, ⟨1, ints ys⟩, gbx k n] : VH).length = H.length + 3 := by simp
      rw [← t1, hl2, List.append_assoc] at e6
      have hcl0 := closL_len (N := gord k n) (iv := gpiv k n) (ss := toN ys)
      have hnl := nats_len (closL (gord k n) (gpiv k n) (toN ys))
      rw [← hnl] at e6
      refine ⟨k, n, nats (closL (gord k n) (gpiv k n) (toN ys)), s5, g, o5, by omega, ?_⟩
      obtain ⟨R, hR⟩ : ∃ R, R = nats (closL (gord k n) (gpiv k n) (toN ys)) := ⟨_, rfl⟩
      rw [← hR] at e6 ⊢
      have hcl := fun (L : VH) => S.cleanTL (s' := s5) (⟨0, [.int .i64 k, .int .i64 n]⟩ :: ⟨1, ints ys⟩ :: gbx k n :: ⟨1, ints R⟩ :: L) 3 k n 0 R.length R.length ⟨1, ints R⟩ rfl (flatO_ints _ _ _)
      refine v_spec_l05DrawSet (by simp [i_spec_l05DrawSet]) ?_
      rw [fbody_eq]
      simp at e6
      clear S hb hnl hcl0 hR hsl t1 t2 c
      simp (disch := first | assumption | omega | (simp [*] <;> omega) | fail) [-getElem?_pos, List.getElem?_cons_zero, List.getElem?_cons_succ, i_spec_l05DrawSet, e1, lp, e5, q0, e6, hcl, hn, hn', splice, fresults, fresL, fres1, hgetS, hsetS, hgetS0, hsetS0]
    · refine ⟨k, n, ys, s5, g, o5, by omega, ?_⟩
      have hcl := fun (L : VH) => S.cleanTL (s' := s5) (⟨0, [.int .i64 k, .int .i64 n]⟩ :: ⟨1, ints ys⟩ :: L) 1 k n 0 ys.length ys.length ⟨1, ints ys⟩ rfl (flatO_ints _ _ _)
      refine v_spec_l05DrawSet (by simp [i_spec_l05DrawSet]) ?_
      rw [fbody_eq]
      clear S hb t1 t2 c
      simp (disch := first | assumption | omega | (simp [*] <;> omega) | fail) [-getElem?_pos, List.getElem?_cons_zero, List.getElem?_cons_succ, i_spec_l05DrawSet, e1, lp, e5, q0, hcl, hn, hn', splice, fresults, fresL, fres1, hgetS, hsetS, hgetS0, hsetS0]
  · rw [if_pos c] at lp
    refine ⟨k, n, ys, s1, g, o1, by omega, ?_⟩
    have hcl := fun (L : VH) => S.cleanTL (s' := s1) (⟨0, [.int .i64 k, .int .i64 n]⟩ :: ⟨1, ints ys⟩ :: L) 1 k n 0 ys.length ys.length ⟨1, ints ys⟩ rfl (flatO_ints _ _ _)
    refine v_spec_l05DrawSet (by simp [i_spec_l05DrawSet]) ?_
    rw [fbody_eq]
    clear S hb c
    simp (disch := first | assumption | omega | (simp [*] <;> omega) | fail) [-getElem?_pos, List.getElem?_cons_zero, List.getElem?_cons_succ, i_spec_l05DrawSet, e1, lp, hcl, hn, hn', splice, fresults, fresL, fres1, hgetS, hsetS, hgetS0, hsetS0]
end
section
variable {h : VH} {cd : Value} {xs : List Int} (hs : Sl h cd (bys xs)) (hx : Code' xs) (hn : nro ≤ h.length)
include hs hx hn
theorem c_spec_DrawGeneratedBy : ∃ (K P : Int) (ys : List Int), ys.length ≤ 62 ∧ vcall F nro k_spec_DrawGeneratedBy [cd] h = some (.tuple #[gpv K P, .slice (some ⟨h.length, 0, none⟩) ys.length ys.length], h ++ [⟨1, ints ys⟩]) := by
  have hn' := fun k => Nat.le_trans hn (Nat.le_add_right h.length k)
  have hs0 := Sl.app hs [⟨0, [.int .i64 0, .int .i64 0]⟩]
  have hn0 : nro ≤ (h ++ [⟨0, [.int .i64 0, .int .i64 0]⟩] : VH).length := by simp; omega
  obtain ⟨s, ho, e1⟩ := c_spec_l01From (nro := nro) (h ++ [⟨0, [.int .i64 0, .int .i64 0]⟩]) cd xs hs0 hx hn0
  have S := srce_new (nro := nro) (h := h ++ [⟨0, [.int .i64 0, .int .i64 0]⟩]) hs0 hx hn0 ho
  obtain ⟨k, n, ys, s2, g, o2, hy, e2⟩ := c_spec_l05DrawList (nro := nro) S
  obtain ⟨K, P, s5, o5, e5⟩ := S.badGE o2 [⟨1, ints ys⟩, ⟨0, [.int .i64 k, .int .i64 n]⟩] k n
  refine ⟨K, P, ys, by omega, ?_⟩
  refine v_spec_DrawGeneratedBy (by simp [i_spec_DrawGeneratedBy]) ?_
  rw [fbody_eq]
  simp [hsetK] at e1 e2 e5
  generalize ys.length = m at e2 ⊢
  clear hs hs0 S
  simp (disch := first | assumption | omega | (simp [*] <;> omega) | fail) [i_spec_DrawGeneratedBy, e1, e2, e5, hn, hn', splice, fresults, fresL, fres1]
theorem c_spec_DrawClosedSet : ∃ (K P : Int) (ys : List Int), ys.length ≤ 62 ∧ vcall F nro k_spec_DrawClosedSet [cd] h = some (.tuple #[gpv K P, .slice (some ⟨h.length, 0, none⟩) ys.length ys.length], h ++ [⟨1, ints ys⟩]) := by
  have hn' := fun k => Nat.le_trans hn (Nat.le_add_right h.length k)
  have hs0 := Sl.app hs [⟨0, [.int .i64 0, .int .i64 0]⟩]
  have hn0 : nro ≤ (h ++ [⟨0, [.int .i64 0, .int .i64 0]⟩] : VH).length := by simp; omega
  obtain ⟨s, ho, e1⟩ := c_spec_l01From (nro := nro) (h ++ [⟨0, [.int .i64 0, .int .i64 0]⟩]) cd xs hs0 hx hn0
  have S := srce_new (nro := nro) (h := h ++ [⟨0, [.int .i64 0, .int .i64 0]⟩]) hs0 hx hn0 ho
  obtain ⟨k, n, ys, s2, g, o2, hy, e2⟩ := c_spec_l05DrawList (nro := nro) S
  obtain ⟨K, P, s5, o5, e5⟩ := S.badGE o2 [⟨1, ints ys⟩, ⟨0, [.int .i64 k, .int .i64 n]⟩] k n
  refine ⟨K, P, ys, by omega, ?_⟩
  refine v_spec_DrawClosedSet (by simp [i_spec_DrawClosedSet]) ?_
  rw [fbody_eq]
  simp [hsetK] at e1 e2 e5
  generalize ys.length = m at e2 ⊢
  clear hs hs0 S
  simp (disch := first | assumption | omega | (simp [*] <;> omega) | fail) [i_spec_DrawClosedSet, e1, e2, e5, hn, hn', splice, fresults, fresL, fres1]
theorem c_spec_DrawIsConnectionSet : ∃ (K P : Int) (ys : List Int), ys.length ≤ 62 ∧ vcall F nro k_spec_DrawIsConnectionSet [cd] h = some (.tuple #[gpv K P, .slice (some ⟨h.length, 0, none⟩) ys.length ys.length], h ++ [⟨1, ints ys⟩]) := by
  have hn' := fun k => Nat.le_trans hn (Nat.le_add_right h.length k)
  have hs0 := Sl.app hs [⟨0, [.int .i64 0, .int .i64 0]⟩]
  have hn0 : nro ≤ (h ++ [⟨0, [.int .i64 0, .int .i64 0]⟩] : VH).length := by simp; omega
  obtain ⟨s, ho, e1⟩ := c_spec_l01From (nro := nro) (h ++ [⟨0, [.int .i64 0, .int .i64 0]⟩]) cd xs hs0 hx hn0
  have S := srce_new (nro := nro) (h := h ++ [⟨0, [.int .i64 0, .int .i64 0]⟩]) hs0 hx hn0 ho
  obtain ⟨k, n, ys, s2, g, o2, hy, e2⟩ := c_spec_l05DrawSet (nro := nro) S
  obtain ⟨K, P, s5, o5, e5⟩ := S.badGE o2 [⟨1, ints ys⟩, ⟨0, [.int .i64 k, .int .i64 n]⟩] k n
  refine ⟨K, P, ys, by omega, ?_⟩
  refine v_spec_DrawIsConnectionSet (by simp [i_spec_DrawIsConnectionSet]) ?_
  rw [fbody_eq]
  simp [hsetK] at e1 e2 e5
  generalize ys.length = m at e2 ⊢
  clear hs hs0 S
  simp (disch := first | assumption | omega | (simp [*] <;> omega) | fail) [i_spec_DrawIsConnectionSet, e1, e2, e5, hn, hn', splice, fresults, fresL, fres1]
end
end Go.Proofs.Ytbilmoahcnllmaa.Zv

/- FnGroups, in parts: plain facts; one product. -/
namespace Go.Proofs.Ytbilmoahcnllmaa.Zv
open Go
open Classical
variable {nro : Nat}

theorem gin_nat {k n x : Nat} : gin k n (x : Int) ↔ x < gord k n := by
  unfold gin
  simp only [Int.toNat_natCast]
  omega
theorem gpcd_ok {k n : Nat} (g : isGp k n) {xs : List Int} (h : ∀ x ∈ xs, gin k n x) : gpcd k n xs = 0 := by
  unfold gpcd
  rw [if_neg (not_not_intro g.gpB), if_pos h]
theorem gpcd_nats {k n : Nat} (g : isGp k n) {ss : List Nat} (h : ∀ s ∈ ss, s < gord k n) : gpcd k n (nats ss) = 0 := by
  refine gpcd_ok g fun x hx => ?_
  obtain ⟨y, hy, rfl⟩ := List.mem_map.mp hx
  exact gin_nat.mpr (h y hy)
theorem piA_ok {k n x y : Nat} (g : isGp k n) (hx : x < gord k n) (hy : y < gord k n) : piA k n x y = (((gmul k n x y : Nat) : Int), 0) := by
  have c : gpcd k n [(x : Int), (y : Int)] = 0 := gpcd_nats (ss := [x, y]) g (by simp [hx, hy])
  unfold piA
  rw [if_pos c]
  simp
theorem iiA_ok {k n x : Nat} (g : isGp k n) (hx : x < gord k n) : iiA k n x = (((gpiv k n x : Nat) : Int), 0) := by
  have c : gpcd k n [(x : Int)] = 0 := gpcd_nats (ss := [x]) g (by simp [hx])
  unfold iiA
  rw [if_pos c]
  simp
theorem orA_ok {k n x : Nat} (g : isGp k n) (hx : x < gord k n) : orA k n x = (((gpor k n x : Nat) : Int), 0) := by
  have c : gpcd k n [(x : Int)] = 0 := gpcd_nats (ss := [x]) g (by simp [hx])
  unfold orA
  rw [if_pos c]
  simp
theorem ogA_ok {k n : Nat} (g : isGp k n) : ogA k n = (((gord k n : Nat) : Int), 0) := by
  unfold ogA
  rw [if_pos g.gpB]
  simp
theorem toN_nats (l : List Nat) : toN (nats l) = l := by simp [toN, nats, Function.comp_def]
theorem gbA_ok {k n : Nat} (g : isGp k n) {ss : List Nat} (h : ∀ s ∈ ss, s < gord k n) (hl : ss.length ≤ 62) : gbA k n (nats ss) = .inl (nats (genL (gord k n) (gmul k n) ss)) := by
  have c := gpcd_nats g h
  have c2 : fwcd k n (nats ss) = 0 := by
    unfold fwcd
    rw [if_neg (fun h => by have := h.2; rw [nats_len] at this; omega)]
    exact c
  unfold gbA
  rw [if_pos c2, toN_nats]
  simp
section
variable {N : Nat} {m : Nat → Nat → Nat} (G : GL N m)
include G
theorem GL.gen_lt {ss : List Nat} (h : ∀ s ∈ ss, s < N) {x : Nat} (hx : Gen m ss x) : x < N := by
  induction hx with
  | zero => exact G.pos
  | step x s _ hs ih => exact G.lt _ _ ih (h s hs)
theorem GL.gen_mul {ss : List Nat} (h : ∀ s ∈ ss, s < N) {a b : Nat} (ha : Gen m ss a) (hb : Gen m ss b) : Gen m ss (m a b) := by
  induction hb with
  | zero => rw [G.zr a (G.gen_lt h ha)]; exact ha
  | step x s hx hs ih =>
    rw [← G.as3 a x s (G.gen_lt h ha) (G.gen_lt h hx) (h s hs)]
    exact .step _ _ ih hs
theorem GL.gen_divides {ss : List Nat} (h : ∀ s ∈ ss, s < N) : N % (genL N m ss).length = 0 :=
  G.divides genL_nd (fun x hx => (genL_mem.mp hx).1) (fun x hx y hy => by
    have h1 := genL_mem.mp hx
    have h2 := genL_mem.mp hy
    exact genL_mem.mpr ⟨G.lt _ _ h1.1 h2.1, G.gen_mul h h1.2 h2.2⟩) (genL_mem.mpr ⟨G.pos, .zero⟩)
theorem GL.gen_again {ss : List Nat} (h : ∀ s ∈ ss, s < N) : genL N m (genL N m ss) = genL N m ss := by
  have hs' : ∀ s ∈ genL N m ss, s < N := fun s hs => (genL_mem.mp hs).1
  unfold genL
  refine List.filter_congr fun x hx => ?_
  refine decide_eq_decide.mpr ?_
  have hxN : x < N := by simpa using hx
  constructor
  · intro hg
    change Gen m (genL N m ss) x at hg
    clear hx hxN
    induction hg with
    | zero => exact .zero
    | step x s _ hs ih => exact G.gen_mul h ih (genL_mem.mp hs).2
  · intro hg
    show Gen m (genL N m ss) x
    have hm : x ∈ genL N m ss := genL_mem.mpr ⟨hxN, hg⟩
    have := Gen.step (m := m) (ss := genL N m ss) 0 x .zero hm
    rwa [G.zl x hxN] at this
end
theorem genL_pos {k n : Nat} (g : isGp k n) (ss : List Nat) : 1 ≤ (genL (gord k n) (gmul k n) ss).length := by
  have := List.length_pos_of_mem (genL_mem.mpr ⟨g.ord_le.1, Gen.zero⟩ : 0 ∈ genL (gord k n) (gmul k n) ss)
  omega
theorem isGp.gen_one {k n x : Nat} (g : isGp k n) (hx : x < gord k n) : (genL (gord k n) (gmul k n) [x]).length = gpor k n x := by
  obtain ⟨h1, h2, h3, h4⟩ := g.ordr hx
  have e : (genL (gord k n) (gmul k n) [x]).length = ((List.range (gpor k n x)).map (gpw (gmul k n) x)).length := by
    refine nodup_same_len genL_nd (nodup_map_on (fun i hi j hj e => g.gl.pw_inj hx h4 (by simpa using hi) (by simpa using hj) e) List.nodup_range) fun y => ?_
    rw [genL_mem, List.mem_map]
    constructor
    · rintro ⟨hyN, hy⟩
      clear hyN
      induction hy with
      | zero => exact ⟨0, by simpa using h1, rfl⟩
      | step z s hz hs ih =>
        simp only [List.mem_singleton] at hs
        subst hs
        obtain ⟨i, hi, e⟩ := ih
        have hi' : i < gpor k n s := by simpa using hi
        by_cases c : i + 1 < gpor k n s
        · exact ⟨i + 1, by simpa using c, by rw [← e]; rfl⟩
        · have : i + 1 = gpor k n s := by omega
          refine ⟨0, by simpa using h1, ?_⟩
          rw [← e]
          show 0 = gpw (gmul k n) s (i + 1)
          rw [this, h3]
    · rintro ⟨i, hi, rfl⟩
      refine ⟨g.gl.pw_lt hx i, ?_⟩
      clear hi
      induction i with
      | zero => exact .zero
      | succ i ih => exact .step _ _ ih (by simp)
  rw [e]; simp
theorem isGp.ord_div {k n x : Nat} (g : isGp k n) (hx : x < gord k n) : gord k n % gpor k n x = 0 := by
  rw [← g.gen_one hx]
  exact g.gl.gen_divides (by simp [hx])
/-- The then-part of a condition behind a first part. -/
def thenS : FC → FC
  | .seq (.seq _ (.cond _ a _)) _ => a
  | .seq _ (.cond _ a _) => a
  | c => c
section
variable {cd : Value} {xs : List Int} {K : VH} (hn : nro ≤ K.length)
include hn
/-- The calls for one product. -/
theorem groups_A1 {k n x y z v q N : Nat} {b : Nat} (hb : K[b]? = some (gbx k n)) (hbn : b < K.length) (e : FE) (h0 : e 0 = cd) (h3 : e 3 = .pointer (some ⟨b, 0, some 2⟩)) (h4 : e 4 = .int .i64 x) (h5 : e 5 = .int .i64 y) (h6 : e 6 = .int .i64 z)
    (i1 : iiA k n x = ((v : Int), 0)) (i2 : piA k n x v = ((0 : Int), 0)) (i3 : piA k n v x = ((0 : Int), 0)) (i4 : orA k n x = ((q : Int), 0)) (i5 : ogA k n = ((N : Int), 0)) (i6 : piA k n v z = ((y : Int), 0)) :
    ∃ e', fcode (vcall F nro) nro (takeS 5 (thenS (takeS 0 (dropS 6 i_laws_FnGroups.body)))) e K = some (.normal, e', K) ∧ e' 0 = cd ∧ e' 3 = .pointer (some ⟨b, 0, some 2⟩) ∧ e' 4 = .int .i64 x ∧ e' 5 = .int .i64 y ∧
      e' 11 = .int .i64 0 ∧ e' 13 = .int .i64 0 ∧ e' 15 = .int .i64 0 ∧ e' 17 = .int .i64 0 ∧ e' 19 = .int .i64 0 ∧ e' 21 = .int .i64 0 ∧ e' 12 = .int .i64 0 ∧ e' 14 = .int .i64 0 ∧ e' 16 = .int .i64 q ∧ e' 18 = .int .i64 N ∧ e' 20 = .int .i64 y := by
  have c1 := c_impl_InverseIn (nro := nro) k n x K hn
  have c2 := c_impl_ProductIn (nro := nro) k n x v K hn
  have c3 := c_impl_ProductIn (nro := nro) k n v x K hn
  have c4 := c_impl_OrderOf (nro := nro) k n x K hn
  have c5 := c_impl_OrderOfGroup (nro := nro) k n K
  have c6 := c_impl_ProductIn (nro := nro) k n v z K hn
  rw [i1] at c1
  rw [i2] at c2
  rw [i3] at c3
  rw [i4] at c4
  rw [i5] at c5
  rw [i6] at c6
  clear i1 i2 i3 i4 i5 i6
  simp (disch := first | assumption | omega | (simp [*] <;> omega) | fail) [-getElem?_pos, List.getElem?_cons_zero, List.getElem?_cons_succ, i_laws_FnGroups, takeS, dropS, thenS, h0, h3, h4, h5, h6, hb, c1, c2, c3, c4, c5, c6]
theorem groups_A2 {k n x y q N : Nat} {b : Nat} (hb : K[b]? = some (gbx k n)) (hbn : b < K.length) (e : FE) (h0 : e 0 = cd) (h3 : e 3 = .pointer (some ⟨b, 0, some 2⟩)) (h4 : e 4 = .int .i64 x) (h5 : e 5 = .int .i64 y)
    (j1 : e 11 = .int .i64 0) (j2 : e 13 = .int .i64 0) (j3 : e 15 = .int .i64 0) (j4 : e 17 = .int .i64 0) (j5 : e 19 = .int .i64 0) (j6 : e 21 = .int .i64 0) (j7 : e 12 = .int .i64 0) (j8 : e 14 = .int .i64 0) (j9 : e 16 = .int .i64 q) (ja : e 18 = .int .i64 N) (jb : e 20 = .int .i64 y)
    (hq : ¬ (q : Int) = 0) (ht : (N : Int).tmod q = 0) (L : VH) (R : List Int) (hR : R.length = q) (hg : vcall F nro k_impl_GeneratedBy [gpv k n, .slice (some ⟨K.length, 0, none⟩) 1 1] (K ++ [⟨1, [.int .i64 x]⟩]) = some (.tuple #[.slice (some ⟨K.length + 1, 0, none⟩) q q, .int .i64 0], K ++ [⟨1, [.int .i64 x]⟩, ⟨1, ints R⟩])) :
    ∃ e', fcode (vcall F nro) nro (dropS 6 (thenS (takeS 0 (dropS 6 i_laws_FnGroups.body)))) e K = some (.normal, e', K ++ [⟨1, [.int .i64 x]⟩, ⟨1, ints R⟩]) ∧ e' 0 = cd := by
  have _e := hn
  have hq2 : ¬ q = 0 := by omega
  have hq3 : (q == q) = true := by simp
  have hb' : ∀ L, (K ++ L)[b]? = some (gbx k n) := fun L => by rw [List.getElem?_append_left hbn]; exact hb
  simp (disch := first | assumption | omega | (simp [*] <;> omega) | fail) [-getElem?_pos, List.getElem?_cons_zero, List.getElem?_cons_succ, i_laws_FnGroups, takeS, dropS, thenS, h0, h3, h4, h5, j1, j2, j3, j4, j5, j6, j7, j8, j9, ja, jb, hq2, ht, hb, hb', hg, hR, hn]
end
end Go.Proofs.Ytbilmoahcnllmaa.Zv

/- FnGroups, in parts: one product, whole. -/
namespace Go.Proofs.Ytbilmoahcnllmaa.Zv
open Go
open Classical
variable {nro : Nat}
/-- A condition: is a number 0? -/
theorem cond_zero {call : VCall} (B : FC) (r t1 t2 : Nat) (e : FE) (K : VH) (hc : e r = .int .i64 0) :
    fcode call nro (.seq (.ops [⟨some t1, .mv (.tmp r), none, 0⟩, ⟨some t2, .bin .eql (.tmp t1) (.const (.int .i64 0)), none, 0⟩]) (.cond (.tmp t2) B .skip)) e K = fcode call nro B (fput (fput e (some t1) (.int .i64 0)) (some t2) (.bool true)) K := by
  simp (disch := first | assumption | omega | (simp [*] <;> omega) | fail) [hc]
theorem cond_non {call : VCall} (B : FC) (r t1 t2 : Nat) (e : FE) (K : VH) (c : Int) (hc : e r = .int .i64 c) (h0 : c ≠ 0) :
    fcode call nro (.seq (.ops [⟨some t1, .mv (.tmp r), none, 0⟩, ⟨some t2, .bin .eql (.tmp t1) (.const (.int .i64 0)), none, 0⟩]) (.cond (.tmp t2) B .skip)) e K = some (.normal, fput (fput e (some t1) (.int .i64 c)) (some t2) (.bool false), K) := by
  simp (disch := first | assumption | omega | (simp [*] <;> omega) | fail) [hc, h0]
section
variable {cd : Value} {xs : List Int} {K : VH} (hs : Sl K cd (bys xs)) (hx : Code' xs) (hn : nro ≤ K.length)
include hs hx hn
set_option maxHeartbeats 1000000 in
theorem groups_A0 (e : FE) (he : e 0 = cd) : ∃ (e' : FE) (kk p x y : Int), fcode (vcall F nro) nro (takeS 3 (dropS 2 i_laws_FnGroups.body)) e K = some (.normal, e', K ++ [⟨0, [.int .i64 kk, .int .i64 p]⟩]) ∧ e' 0 = cd ∧
    e' 3 = .pointer (some ⟨K.length, 0, some 2⟩) ∧ e' 4 = .int .i64 x ∧ e' 5 = .int .i64 y ∧ e' 6 = .int .i64 (piA kk p x y).1 ∧ e' 7 = .int .i64 (piA kk p x y).2 := by
  have hn' := fun k => Nat.le_trans hn (Nat.le_add_right K.length k)
  obtain ⟨kk, p, x, y, d1⟩ := c_spec_DrawProductIn (nro := nro) hs hx hn
  have hnl : ∀ L : VH, nro ≤ (K ++ L).length := fun L => by simp; omega
  have hc1 := fun L => c_impl_ProductIn (nro := nro) kk p x y (K ++ L) (hnl L)
  have hc2 := fun L => c_spec_ProductIn (nro := nro) kk p x y (K ++ L) (hnl L)
  have hg1 := fun L => c_impl_IsGroup (nro := nro) kk p (K ++ L)
  have hg2 := fun L => c_spec_IsGroup (nro := nro) kk p (K ++ L)
  have hv : ∃ (e' : FE), fcode (vcall F nro) nro (takeS 3 (dropS 2 i_laws_FnGroups.body)) e K = some (.normal, e', K ++ [⟨0, [.int .i64 kk, .int .i64 p]⟩]) ∧ e' 0 = cd ∧
      e' 3 = .pointer (some ⟨K.length, 0, some 2⟩) ∧ e' 4 = .int .i64 x ∧ e' 5 = .int .i64 y ∧ e' 6 = .int .i64 (piA kk p x y).1 ∧ e' 7 = .int .i64 (piA kk p x y).2 := by
    obtain ⟨q, hq⟩ : ∃ q, q = piA kk p x y := ⟨_, rfl⟩
    rw [← hq] at hc1 hc2 ⊢
    obtain ⟨q1, q2⟩ := q
    generalize decide (gpB kk p) = bb at hg1 hg2
    clear hs hx hq
    simp (disch := first | assumption | omega | (simp [*] <;> omega) | fail) [i_laws_FnGroups, takeS, dropS, he, d1, hc1, hc2, hg1, hg2, hn, hn', splice]
  obtain ⟨e', hv⟩ := hv
  exact ⟨e', kk, p, x, y, hv⟩
theorem groups_A (e : FE) (he : e 0 = cd) : ∃ e' L, fcode (vcall F nro) nro (takeS 4 (dropS 2 i_laws_FnGroups.body)) e K = some (.normal, e', K ++ L) ∧ e' 0 = cd := by
  obtain ⟨e1, kk, p, x, y, a0, a1, a2, a3, a4, a5, a6⟩ := groups_A0 (nro := nro) hs hx hn e he
  rw [fcode_parts (vcall F nro) nro 3 (takeS 4 (dropS 2 i_laws_FnGroups.body)) _ _ (by decide)]
  have t1 : takeS 3 (takeS 4 (dropS 2 i_laws_FnGroups.body)) = takeS 3 (dropS 2 i_laws_FnGroups.body) := rfl
  have t2 : dropS (3 + 1) (takeS 4 (dropS 2 i_laws_FnGroups.body)) = takeS 0 (dropS 6 i_laws_FnGroups.body) := rfl
  have t3 : takeS 0 (dropS 6 i_laws_FnGroups.body) = .seq (.ops [⟨some 102, .mv (.tmp 7), none, 0⟩, ⟨some 103, .bin .eql (.tmp 102) (.const (.int .i64 0)), none, 0⟩]) (.cond (.tmp 103) (thenS (takeS 0 (dropS 6 i_laws_FnGroups.body))) .skip) := rfl
  rw [t1, t2, a0, kseq_normal, t3]
  by_cases c : gpcd kk p [x, y] = 0
  · obtain ⟨g, hg⟩ := gpcd_zero c
    obtain ⟨k, n, rfl, rfl, g'⟩ := g.nat
    obtain ⟨x, rfl, hx1⟩ := gpcd_nat (hg x (by simp))
    obtain ⟨y, rfl, hy1⟩ := gpcd_nat (hg y (by simp))
    have hv := g'.giv hx1
    have hz := g'.gl.lt x y hx1 hy1
    have hback : gmul k n (gpiv k n x) (gmul k n x y) = y := by
      rw [← g'.gl.as3 _ _ _ hv.1 hx1 hy1, hv.2.2, g'.gl.zl y hy1]
    have hp := piA_ok g' hx1 hy1
    rw [hp] at a5 a6
    have ho := g'.ordr hx1
    have hd := g'.ord_div hx1
    rw [cond_zero _ _ _ _ _ _ a6]
    obtain ⟨e1', he1'⟩ : ∃ e1', e1' = fput (fput e1 (some 102) (.int .i64 0)) (some 103) (.bool true) := ⟨_, rfl⟩
    rw [← he1']
    replace a1 : e1' 0 = cd := by rw [he1']; simpa using a1
    replace a2 : e1' 3 = .pointer (some ⟨K.length, 0, some 2⟩) := by rw [he1']; simpa using a2
    replace a3 : e1' 4 = .int .i64 x := by rw [he1']; simpa using a3
    replace a4 : e1' 5 = .int .i64 y := by rw [he1']; simpa using a4
    replace a5 : e1' 6 = .int .i64 (gmul k n x y : Nat) := by rw [he1']; simpa using a5
    have hn2 : nro ≤ (K ++ [gbx k n] : VH).length := by simp; omega
    have hb2 : (K ++ [gbx k n] : VH)[K.length]? = some (gbx k n) := by simp
    have hbn : K.length < (K ++ [gbx k n] : VH).length := by simp
    obtain ⟨e2, b0, b1, b2, b3, b4, j1, j2, j3, j4, j5, j6, j7, j8, j9, ja, jb⟩ := groups_A1 (nro := nro) (K := K ++ [gbx k n]) (cd := cd) hn2 hb2 hbn e1' a1 a2 a3 a4 a5 (iiA_ok g' hx1) (by rw [piA_ok g' hx1 hv.1, hv.2.1]; rfl) (by rw [piA_ok g' hv.1 hx1, hv.2.2]; rfl) (orA_ok g' hx1) (ogA_ok g') (by rw [piA_ok g' hv.1 hz, hback])
    have hsl := sli_at (h := (K ++ [gbx k n]) ++ [⟨1, [.int .i64 x]⟩]) (b := (K ++ [gbx k n] : VH).length) (xs := [(x : Int)]) (by rw [hget0]; rfl)
    have i7 := c_impl_GeneratedBy (nro := nro) k n _ [(x : Int)] _ hsl (by simp) (by simp; omega)
    have e7 : gbA k n [(x : Int)] = .inl (nats (genL (gord k n) (gmul k n) [x])) := gbA_ok (ss := [x]) g' (by simp [hx1]) (by simp)
    have hlen := g'.gen_one hx1
    rw [e7] at i7
    have hl2 : ((K ++ [gbx k n]) ++ [⟨1, [.int .i64 x]⟩] : VH).length = (K ++ [gbx k n] : VH).length + 1 := by simp
    simp only [ires, nats_len, hlen, List.length_singleton, hl2] at i7
    rw [List.append_assoc (K ++ [gbx k n])] at i7
    have ht : ((gord k n : Nat) : Int).tmod (gpor k n x : Nat) = 0 := by rw [tmN, hd]; rfl
    obtain ⟨e3, c1, c2⟩ := groups_A2 (nro := nro) (K := K ++ [gbx k n]) (cd := cd) hn2 hb2 hbn e2 b1 b2 b3 b4 j1 j2 j3 j4 j5 j6 j7 j8 j9 ja jb (by omega) ht [] (nats (genL (gord k n) (gmul k n) [x])) (by rw [nats_len, hlen]) i7
    refine ⟨e3, [gbx k n] ++ [⟨1, [.int .i64 x]⟩, ⟨1, ints (nats (genL (gord k n) (gmul k n) [x]))⟩], ?_, c2⟩
    rw [fcode_parts (vcall F nro) nro 5 _ _ _ (by decide), b0, kseq_normal, c1, List.append_assoc]
  · have e : piA kk p x y = (0, gpcd kk p [x, y]) := by unfold piA; rw [if_neg c]
    rw [e] at a6
    rw [cond_non _ _ _ _ _ _ _ a6 c]
    exact ⟨_, _, rfl, by simpa using a1⟩
end
end Go.Proofs.Ytbilmoahcnllmaa.Zv

/- Regular graphs: degrees' least and greatest; lists alike; a cage graph fits. -/
namespace Go.Proofs.Ytbilmoahcnllmaa.Zv
open Go
variable {nro : Nat}

theorem l_laws_likeInts (s t : Value) (xs ys : List Int) (h : VH) (hs : Sli h s xs) (ht : Sli h t ys) (h3 : xs.length ≤ 9223372036854775806) (hl : xs.length = ys.length) :
    floop (vcall F nro) nro [0, 1, 5] i_laws_likeInts_B1 h [s, t, .int .i64 0] h = if xs = ys then some (.exit 0, fl [], h) else some (.ret, fl [(4, .bool false)], h) := by
  have key := search (fun i => floop (vcall F nro) nro [0, 1, 5] i_laws_likeInts_B1 h [s, t, .int .i64 i] h) (fun i => xs.getD i.toNat 0 ≠ ys.getD i.toNat 0) (some (.ret, fl [(4, .bool false)], h)) (some (.exit 0, fl [], h)) xs.length 0 ?_ ?_ 0 (by omega)
  · rw [key]
    by_cases e : xs = ys
    · rw [if_pos e, if_neg]
      rintro ⟨j, _, _, hj⟩
      exact hj (by rw [e])
    · rw [if_neg e, if_pos]
      apply Classical.byContradiction
      intro hno
      apply e
      apply List.ext_getElem hl
      intro k h1 h2
      apply Classical.byContradiction
      intro hne
      exact hno ⟨k, by omega, by omega, by simpa [h1, h2] using hne⟩
  · intro i h0 hi
    have hso := hs.old
    have hto := ht.old
    have e1 : xs.getD i.toNat 0 = xs[i.toNat]'(by omega) := getD_at _ (by omega)
    have e2 : ys.getD i.toNat 0 = ys[i.toNat]'(by omega) := getD_at _ (by omega)
    rw [e1, e2, floop_at i_laws_likeInts_B1.eq_1]
    constructor <;> intro hb <;> simp (disch := first | assumption | omega | (simp [*] <;> omega) | fail) [hs.vlen, hs.vidx, hs.vload, ht.vlen, ht.vidx, ht.vload, wrap64, hi, hb]
  · intro i h0 hi
    rw [floop_at i_laws_likeInts_B1.eq_1]
    simp (disch := first | assumption | omega | (simp [*] <;> omega) | fail) [hs.vlen, hi]

theorem c_laws_likeInts (s t : Value) (xs ys : List Int) (h : VH) (hs : Sli h s xs) (ht : Sli h t ys) (h3 : xs.length ≤ 9223372036854775806) :
    vcall F nro k_laws_likeInts [s, t] h = some (.bool (decide (xs = ys)), h) := by
  refine v_laws_likeInts (by simp [i_laws_likeInts]) ?_
  rw [fbody_eq]
  by_cases hl : xs.length = ys.length
  · simp (disch := first | assumption | omega | (simp [*] <;> omega) | fail) [i_laws_likeInts, hs.vlen, ht.vlen, hl, l_laws_likeInts s t xs ys h hs ht h3 hl]
    by_cases e : xs = ys <;> simp [e]
  · have hl' : ¬ (xs.length : Int) = ys.length := by omega
    have : xs ≠ ys := fun e => hl (by rw [e])
    simp (disch := first | assumption | omega | (simp [*] <;> omega) | fail) [i_laws_likeInts, hs.vlen, ht.vlen, hl', this]


end Go.Proofs.Ytbilmoahcnllmaa.Zv

/- FnGroups, in parts: generated elements. -/
namespace Go.Proofs.Ytbilmoahcnllmaa.Zv
open Go
open Classical
variable {nro : Nat}
section
variable {cd : Value} {K : VH} (hn : nro ≤ K.length)
include hn
set_option maxHeartbeats 1000000 in
theorem groups_B1 {k n N m : Nat} {b : Nat} (hb : K[b]? = some (gbx k n)) (hbn : b < K.length) (s : Value) (R : List Int) (hs : Sli K s R) (hm : R.length = m) (e : FE) (h0 : e 0 = cd) (h3 : e 24 = .pointer (some ⟨b, 0, some 2⟩)) (h4 : e 26 = s)
    (hl : R.length ≤ 62) (h1 : 1 ≤ m) (i1 : gbA k n R = .inl R) (i2 : ogA k n = ((N : Int), 0)) (ht : (N : Int).tmod m = 0) :
    ∃ e', fcode (vcall F nro) nro (thenS (takeS 0 (dropS 11 i_laws_FnGroups.body))) e K = some (.normal, e', K ++ [⟨1, ints R⟩]) ∧ e' 0 = cd := by
  have hn' := fun k => Nat.le_trans hn (Nat.le_add_right K.length k)
  have c1 := c_impl_GeneratedBy (nro := nro) k n s R K hs (by omega) hn
  rw [i1] at c1
  simp only [ires] at c1
  have c2 := c_impl_OrderOfGroup (nro := nro) k n (K ++ [⟨1, ints R⟩])
  rw [i2] at c2
  have s1 := sli_at (h := K ++ [⟨1, ints R⟩]) (b := K.length) (xs := R) (by simp)
  have c3 := c_laws_likeInts (nro := nro) _ s R R _ s1 (hs.app _) (by omega)
  rw [decide_eq_true rfl] at c3
  have vl := hs.vlen' (L := [⟨1, ints R⟩])
  rw [hm] at c1 c3 vl
  have hb' : ∀ L, (K ++ L)[b]? = some (gbx k n) := fun L => by rw [List.getElem?_append_left hbn]; exact hb
  have hm1 : ¬ (m : Int) < 1 := by omega
  have hm0 : ¬ m = 0 := by omega
  have hso := hs.old
  clear hs s1 i1 i2
  simp (disch := first | assumption | omega | (simp [*] <;> omega) | fail) [-getElem?_pos, List.getElem?_cons_zero, List.getElem?_cons_succ, i_laws_FnGroups, takeS, dropS, thenS, h0, h3, h4, hb, hb', c1, c2, c3, vl, hm1, hm0, ht, hn, hn']
end
section
variable {cd : Value} {xs : List Int} {K : VH} (hs : Sl K cd (bys xs)) (hx : Code' xs) (hn : nro ≤ K.length)
include hs hx hn
set_option maxHeartbeats 1000000 in
theorem groups_B0 (e : FE) (he : e 0 = cd) : ∃ (e' : FE) (kk p : Int) (ys : List Int) (L : VH), ys.length ≤ 62 ∧ fcode (vcall F nro) nro (takeS 3 (dropS 7 i_laws_FnGroups.body)) e K = some (.normal, e', K ++ [⟨1, ints ys⟩, ⟨0, [.int .i64 kk, .int .i64 p]⟩] ++ L) ∧ e' 0 = cd ∧
    e' 24 = .pointer (some ⟨K.length + 1, 0, some 2⟩) ∧ match gbA kk p ys with
      | .inl R => e' 26 = .slice (some ⟨K.length + 2, 0, none⟩) R.length R.length ∧ e' 27 = .int .i64 0 ∧ L = [⟨1, ints R⟩, ⟨1, ints R⟩]
      | .inr c => e' 27 = .int .i64 c := by
  have hn' := fun k => Nat.le_trans hn (Nat.le_add_right K.length k)
  obtain ⟨kk, p, ys, hy, d1⟩ := c_spec_DrawGeneratedBy (nro := nro) hs hx hn
  have s0 := sli_at (h := K ++ [⟨1, ints ys⟩, ⟨0, [.int .i64 kk, .int .i64 p]⟩]) (b := K.length) (xs := ys) (by simp)
  have c1 := c_impl_GeneratedBy (nro := nro) kk p _ ys _ s0 (by omega) (by simp; omega)
  cases hc : gbA kk p ys with
  | inr c =>
    have c2 := c_spec_GeneratedBy (nro := nro) kk p _ ys _ s0 (by omega) (by simp; omega)
    have c3 := c_laws_likeInts (nro := nro) (.slice none 0 0) (.slice none 0 0) [] [] (K ++ [⟨1, ints ys⟩, ⟨0, [.int .i64 kk, .int .i64 p]⟩]) (by simp [Sli, Sl, vsrc, ints]) (by simp [Sli, Sl, vsrc, ints]) (by simp)
    rw [hc] at c1 c2
    simp only [ires] at c1 c2
    have hv : ∃ (e' : FE), fcode (vcall F nro) nro (takeS 3 (dropS 7 i_laws_FnGroups.body)) e K = some (.normal, e', K ++ [⟨1, ints ys⟩, ⟨0, [.int .i64 kk, .int .i64 p]⟩]) ∧ e' 0 = cd ∧
        e' 24 = .pointer (some ⟨K.length + 1, 0, some 2⟩) ∧ e' 27 = .int .i64 c := by
      generalize ys.length = m at d1 c1 c2 hy
      clear hs hx s0 hc hy
      simp (disch := first | assumption | omega | (simp [*] <;> omega) | fail) [i_laws_FnGroups, takeS, dropS, he, d1, c1, c2, c3, hn, hn', splice]
    obtain ⟨e', v1, v2, v3, v4⟩ := hv
    exact ⟨e', kk, p, ys, [], hy, by rw [List.append_nil]; exact v1, v2, v3, by simp only [hc]; exact v4⟩
  | inl R =>
    have hl0 : (K ++ [⟨1, ints ys⟩, ⟨0, [.int .i64 kk, .int .i64 p]⟩] : VH).length = K.length + 2 := by simp
    have c2 := c_spec_GeneratedBy (nro := nro) kk p _ ys _ (s0.app [⟨1, ints R⟩]) (by omega) (by simp; omega)
    have hR : R.length ≤ 62 := by
      unfold gbA at hc
      split at hc
      · rename_i c0
        obtain ⟨c1, _⟩ := fwcd_zero c0
        obtain ⟨g, _⟩ := gpcd_zero c1
        obtain ⟨k, n, rfl, rfl, g'⟩ := g.nat
        cases hc
        rw [nats_len]
        have := genL_len (N := gord (Int.toNat k) (Int.toNat n)) (m := gmul (Int.toNat k) (Int.toNat n)) (ss := toN ys)
        simp only [Int.toNat_natCast] at this ⊢
        have := g'.ord_le
        omega
      · cases hc
    rw [hc] at c1 c2
    simp only [ires, hl0] at c1 c2
    have s1 := sli_at (h := K ++ [⟨1, ints ys⟩, ⟨0, [.int .i64 kk, .int .i64 p]⟩, ⟨1, ints R⟩, ⟨1, ints R⟩]) (b := K.length + 2) (xs := R) (by simp)
    have s2 := sli_at (h := K ++ [⟨1, ints ys⟩, ⟨0, [.int .i64 kk, .int .i64 p]⟩, ⟨1, ints R⟩, ⟨1, ints R⟩]) (b := K.length + 3) (xs := R) (by simp)
    have c3 := c_laws_likeInts (nro := nro) _ _ R R _ s1 s2 (by omega)
    rw [decide_eq_true rfl] at c3
    have hv : ∃ (e' : FE), fcode (vcall F nro) nro (takeS 3 (dropS 7 i_laws_FnGroups.body)) e K = some (.normal, e', K ++ [⟨1, ints ys⟩, ⟨0, [.int .i64 kk, .int .i64 p]⟩, ⟨1, ints R⟩, ⟨1, ints R⟩]) ∧ e' 0 = cd ∧
        e' 24 = .pointer (some ⟨K.length + 1, 0, some 2⟩) ∧ e' 26 = .slice (some ⟨K.length + 2, 0, none⟩) R.length R.length ∧ e' 27 = .int .i64 0 := by
      generalize ys.length = m at d1 c1 c2 hy
      generalize R.length = q at c1 c2 c3
      simp at c1 c2
      clear hs hx s0 hc hy s1 s2
      simp (disch := first | assumption | omega | (simp [*] <;> omega) | fail) [i_laws_FnGroups, takeS, dropS, he, d1, c1, c2, c3, hn, hn', splice]
    obtain ⟨e', v1, v2, v3, v4, v5⟩ := hv
    exact ⟨e', kk, p, ys, [⟨1, ints R⟩, ⟨1, ints R⟩], hy, by rw [List.append_assoc]; exact v1, v2, v3, by simp only [hc]; exact ⟨v4, v5, trivial⟩⟩
theorem groups_B (e : FE) (he : e 0 = cd) : ∃ e' L, fcode (vcall F nro) nro (takeS 4 (dropS 7 i_laws_FnGroups.body)) e K = some (.normal, e', K ++ L) ∧ e' 0 = cd := by
  obtain ⟨e1, kk, p, ys, L, hy, a0, a1, a2, a3⟩ := groups_B0 (nro := nro) hs hx hn e he
  rw [fcode_parts (vcall F nro) nro 3 (takeS 4 (dropS 7 i_laws_FnGroups.body)) _ _ (by decide)]
  have t1 : takeS 3 (takeS 4 (dropS 7 i_laws_FnGroups.body)) = takeS 3 (dropS 7 i_laws_FnGroups.body) := rfl
  have t2 : dropS (3 + 1) (takeS 4 (dropS 7 i_laws_FnGroups.body)) = takeS 0 (dropS 11 i_laws_FnGroups.body) := rfl
  have t3 : takeS 0 (dropS 11 i_laws_FnGroups.body) = .seq (.ops [⟨some 224, .mv (.tmp 27), none, 0⟩, ⟨some 225, .bin .eql (.tmp 224) (.const (.int .i64 0)), none, 0⟩]) (.cond (.tmp 225) (thenS (takeS 0 (dropS 11 i_laws_FnGroups.body))) .skip) := rfl
  rw [t1, t2, a0, kseq_normal, t3]
  by_cases c : fwcd kk p ys = 0
  · have eg : gbA kk p ys = .inl (nats (genL (gord kk.toNat p.toNat) (gmul kk.toNat p.toNat) (toN ys))) := by unfold gbA; rw [if_pos c]
    obtain ⟨c1, c2⟩ := fwcd_zero c
    obtain ⟨g, hg⟩ := gpcd_zero c1
    obtain ⟨k, n, rfl, rfl, g'⟩ := g.nat
    obtain ⟨y1, y2⟩ := toN_ok hg
    simp only [Int.toNat_natCast] at eg
    rw [eg] at a3
    obtain ⟨a3, a4, rfl⟩ := a3
    have hgl := genL_len (N := gord k n) (m := gmul k n) (ss := toN ys)
    have hb := g'.ord_le
    have hpos := genL_pos g' (toN ys)
    have hag := g'.gl.gen_again y2
    have hdv := g'.gl.gen_divides y2
    have i1 : gbA k n (nats (genL (gord k n) (gmul k n) (toN ys))) = .inl (nats (genL (gord k n) (gmul k n) (toN ys))) := by
      rw [gbA_ok g' (fun s hs => (genL_mem.mp hs).1) (by omega), hag]
    obtain ⟨G, hG⟩ : ∃ G, G = genL (gord k n) (gmul k n) (toN ys) := ⟨_, rfl⟩
    rw [← hG] at a3 i1 hgl hpos hdv ⊢
    rw [cond_zero _ _ _ _ _ _ a4]
    obtain ⟨e2, he2⟩ : ∃ e2, e2 = fput (fput e1 (some 224) (.int .i64 0)) (some 225) (.bool true) := ⟨_, rfl⟩
    rw [← he2]
    have s1 := sli_at (h := K ++ [⟨1, ints ys⟩, gbx k n] ++ [⟨1, ints (nats G)⟩, ⟨1, ints (nats G)⟩]) (b := K.length + 2) (xs := nats G) (by rw [List.append_assoc, hgetk]; rfl)
    obtain ⟨e3, b1, b2⟩ := groups_B1 (nro := nro) (K := K ++ [⟨1, ints ys⟩, gbx k n] ++ [⟨1, ints (nats G)⟩, ⟨1, ints (nats G)⟩]) (cd := cd) (by simp; omega) (k := k) (n := n) (N := gord k n) (m := G.length) (b := K.length + 1) (by rw [List.append_assoc, hgetk]; rfl) (by simp) _ (nats G) s1 (nats_len G) e2 (by rw [he2]; simpa using a1) (by rw [he2]; simpa using a2) (by rw [he2]; simpa using a3) (by rw [nats_len]; omega) hpos i1 (ogA_ok g') (by rw [tmN, hdv]; rfl)
    exact ⟨e3, _, by rw [b1, List.append_assoc, List.append_assoc], b2⟩
  · have eg : gbA kk p ys = .inr (fwcd kk p ys) := by unfold gbA; rw [if_neg c]
    rw [eg] at a3
    rw [cond_non _ _ _ _ _ _ _ a3 c]
    exact ⟨_, _, by rw [List.append_assoc], by simpa using a1⟩
end
end Go.Proofs.Ytbilmoahcnllmaa.Zv

/- FnGroups: closed sets, the rest, the law. -/
namespace Go.Proofs.Ytbilmoahcnllmaa.Zv
open Go
open Classical
variable {nro : Nat}
section
variable {cd : Value} {K : VH} (hn : nro ≤ K.length)
include hn
set_option maxHeartbeats 1000000 in
theorem groups_C1 {k n : Nat} {b : Nat} (hb : K[b]? = some (gbx k n)) (s : Value) (R : List Int) (hs : Sli K s R) (e : FE) (h0 : e 0 = cd) (h3 : e 34 = .pointer (some ⟨b, 0, some 2⟩)) (h4 : e 36 = s)
    (hl : R.length ≤ 62) (i1 : csA k n R = (true, 0)) :
    ∃ e', fcode (vcall F nro) nro (thenS (takeS 0 (dropS 16 i_laws_FnGroups.body))) e K = some (.normal, e', K) ∧ e' 0 = cd := by
  have c1 := c_impl_IsConnectionSet (nro := nro) k n s R K hs (by omega) hn
  rw [i1] at c1
  have hso := hs.old
  clear hs i1
  simp (disch := first | assumption | omega | (simp [*] <;> omega) | fail) [-getElem?_pos, List.getElem?_cons_zero, List.getElem?_cons_succ, i_laws_FnGroups, takeS, dropS, thenS, h0, h3, h4, hb, c1]
end
section
variable {cd : Value} {xs : List Int} {K : VH} (hs : Sl K cd (bys xs)) (hx : Code' xs) (hn : nro ≤ K.length)
include hs hx hn
set_option maxHeartbeats 1000000 in
theorem groups_C0 (e : FE) (he : e 0 = cd) : ∃ (e' : FE) (kk p : Int) (ys : List Int) (L : VH), ys.length ≤ 62 ∧ fcode (vcall F nro) nro (takeS 3 (dropS 12 i_laws_FnGroups.body)) e K = some (.normal, e', K ++ [⟨1, ints ys⟩, ⟨0, [.int .i64 kk, .int .i64 p]⟩] ++ L) ∧ e' 0 = cd ∧
    e' 34 = .pointer (some ⟨K.length + 1, 0, some 2⟩) ∧ match clA kk p ys with
      | .inl R => ∃ v o, e' 36 = v ∧ e' 37 = .int .i64 0 ∧ L = [o, ⟨1, ints R⟩] ∧ Sli (K ++ [⟨1, ints ys⟩, ⟨0, [.int .i64 kk, .int .i64 p]⟩] ++ [o]) v R
      | .inr c => e' 37 = .int .i64 c := by
  have hn' := fun k => Nat.le_trans hn (Nat.le_add_right K.length k)
  obtain ⟨kk, p, ys, hy, d1⟩ := c_spec_DrawClosedSet (nro := nro) hs hx hn
  have s0 := sli_at (h := K ++ [⟨1, ints ys⟩, ⟨0, [.int .i64 kk, .int .i64 p]⟩]) (b := K.length) (xs := ys) (by simp)
  have c1 := c_impl_ClosedSet (nro := nro) kk p _ ys _ s0 (by omega) (by simp; omega)
  cases hc : clA kk p ys with
  | inr c =>
    have c2 := c_spec_ClosedSet (nro := nro) kk p _ ys _ s0 (by omega) (by simp; omega)
    have c3 := c_laws_likeInts (nro := nro) (.slice none 0 0) (.slice none 0 0) [] [] (K ++ [⟨1, ints ys⟩, ⟨0, [.int .i64 kk, .int .i64 p]⟩]) (by simp [Sli, Sl, vsrc, ints]) (by simp [Sli, Sl, vsrc, ints]) (by simp)
    rw [hc] at c1 c2
    simp only [ires] at c2
    simp only [iresE] at c1
    have hv : ∃ (e' : FE), fcode (vcall F nro) nro (takeS 3 (dropS 12 i_laws_FnGroups.body)) e K = some (.normal, e', K ++ [⟨1, ints ys⟩, ⟨0, [.int .i64 kk, .int .i64 p]⟩]) ∧ e' 0 = cd ∧
        e' 34 = .pointer (some ⟨K.length + 1, 0, some 2⟩) ∧ e' 37 = .int .i64 c := by
      generalize ys.length = m at d1 c1 c2 hy
      clear hs hx s0 hc hy
      simp (disch := first | assumption | omega | (simp [*] <;> omega) | fail) [i_laws_FnGroups, takeS, dropS, he, d1, c1, c2, c3, hn, hn', splice]
    obtain ⟨e', v1, v2, v3, v4⟩ := hv
    exact ⟨e', kk, p, ys, [], hy, by rw [List.append_nil]; exact v1, v2, v3, by simp only [hc]; exact v4⟩
  | inl R =>
    have hl0 : (K ++ [⟨1, ints ys⟩, ⟨0, [.int .i64 kk, .int .i64 p]⟩] : VH).length = K.length + 2 := by simp
    rw [hc] at c1
    obtain ⟨v, o, c1, s1⟩ := c1
    have c2 := c_spec_ClosedSet (nro := nro) kk p _ ys _ (s0.app [o]) (by omega) (by simp; omega)
    have hR : R.length ≤ 62 := by
      unfold clA at hc
      split at hc
      · rename_i c0
        obtain ⟨c1, _⟩ := fwcd_zero c0
        obtain ⟨g, _⟩ := gpcd_zero c1
        obtain ⟨k, n, rfl, rfl, g'⟩ := g.nat
        cases hc
        rw [nats_len]
        have := closL_len (N := gord (Int.toNat k) (Int.toNat n)) (iv := gpiv (Int.toNat k) (Int.toNat n)) (ss := toN ys)
        simp only [Int.toNat_natCast] at this ⊢
        have := g'.ord_le
        omega
      · cases hc
    rw [hc] at c2
    simp only [ires] at c2
    have s2 := sli_at (h := K ++ [⟨1, ints ys⟩, ⟨0, [.int .i64 kk, .int .i64 p]⟩, o, ⟨1, ints R⟩]) (b := K.length + 3) (xs := R) (by simp)
    have s1' : Sli (K ++ [⟨1, ints ys⟩, ⟨0, [.int .i64 kk, .int .i64 p]⟩, o, ⟨1, ints R⟩]) v R := by
      have := s1.app [⟨1, ints R⟩]
      rw [List.append_assoc, List.append_assoc] at this
      exact this
    have c3 := c_laws_likeInts (nro := nro) _ _ R R _ s1' s2 (by omega)
    rw [decide_eq_true rfl] at c3
    have hso := s1.old
    have hv : ∃ (e' : FE), fcode (vcall F nro) nro (takeS 3 (dropS 12 i_laws_FnGroups.body)) e K = some (.normal, e', K ++ [⟨1, ints ys⟩, ⟨0, [.int .i64 kk, .int .i64 p]⟩, o, ⟨1, ints R⟩]) ∧ e' 0 = cd ∧
        e' 34 = .pointer (some ⟨K.length + 1, 0, some 2⟩) ∧ e' 36 = v ∧ e' 37 = .int .i64 0 := by
      generalize ys.length = m at d1 c1 c2 hy
      generalize R.length = q at c2 c3
      simp at c1 c2
      clear hs hx s0 hc hy s1 s2 s1' hso
      simp (disch := first | assumption | omega | (simp [*] <;> omega) | fail) [i_laws_FnGroups, takeS, dropS, he, d1, c1, c2, c3, hn, hn', splice]
    obtain ⟨e', v1, v2, v3, v4, v5⟩ := hv
    exact ⟨e', kk, p, ys, [o, ⟨1, ints R⟩], hy, by rw [List.append_assoc]; exact v1, v2, v3, by simp only [hc]; exact ⟨v, o, v4, v5, rfl, s1⟩⟩
theorem groups_C (e : FE) (he : e 0 = cd) : ∃ e' L, fcode (vcall F nro) nro (takeS 4 (dropS 12 i_laws_FnGroups.body)) e K = some (.normal, e', K ++ L) ∧ e' 0 = cd := by
  obtain ⟨e1, kk, p, ys, L, hy, a0, a1, a2, a3⟩ := groups_C0 (nro := nro) hs hx hn e he
  rw [fcode_parts (vcall F nro) nro 3 (takeS 4 (dropS 12 i_laws_FnGroups.body)) _ _ (by decide)]
  have t1 : takeS 3 (takeS 4 (dropS 12 i_laws_FnGroups.body)) = takeS 3 (dropS 12 i_laws_FnGroups.body) := rfl
  have t2 : dropS (3 + 1) (takeS 4 (dropS 12 i_laws_FnGroups.body)) = takeS 0 (dropS 16 i_laws_FnGroups.body) := rfl
  have t3 : takeS 0 (dropS 16 i_laws_FnGroups.body) = .seq (.ops [⟨some 287, .mv (.tmp 37), none, 0⟩, ⟨some 288, .bin .eql (.tmp 287) (.const (.int .i64 0)), none, 0⟩]) (.cond (.tmp 288) (thenS (takeS 0 (dropS 16 i_laws_FnGroups.body))) .skip) := rfl
  rw [t1, t2, a0, kseq_normal, t3]
  by_cases c : fwcd kk p ys = 0
  · have eg : clA kk p ys = .inl (nats (closL (gord kk.toNat p.toNat) (gpiv kk.toNat p.toNat) (toN ys))) := by unfold clA; rw [if_pos c]
    obtain ⟨c1, c2⟩ := fwcd_zero c
    obtain ⟨g, hg⟩ := gpcd_zero c1
    obtain ⟨k, n, rfl, rfl, g'⟩ := g.nat
    obtain ⟨y1, y2⟩ := toN_ok hg
    simp only [Int.toNat_natCast] at eg
    rw [eg] at a3
    obtain ⟨v, o, a3, a4, rfl, s1⟩ := a3
    have hgl := closL_len (N := gord k n) (iv := gpiv k n) (ss := toN ys)
    have hb := g'.ord_le
    have hcn := g'.cn_clos y2
    have i1 : csA k n (nats (closL (gord k n) (gpiv k n) (toN ys))) = (true, 0) := by
      unfold csA
      rw [if_pos (gpcd_nats g' fun s hs => (closL_mem.mp hs).1), toN_nats]
      simp only [Int.toNat_natCast, decide_eq_true hcn]
    obtain ⟨G, hG⟩ : ∃ G, G = closL (gord k n) (gpiv k n) (toN ys) := ⟨_, rfl⟩
    rw [← hG] at s1 i1 hgl ⊢
    rw [cond_zero _ _ _ _ _ _ a4]
    obtain ⟨e2, he2⟩ : ∃ e2, e2 = fput (fput e1 (some 287) (.int .i64 0)) (some 288) (.bool true) := ⟨_, rfl⟩
    rw [← he2]
    have s2 := s1.app [⟨1, ints (nats G)⟩]
    rw [List.append_assoc] at s2
    obtain ⟨e3, b1, b2⟩ := groups_C1 (nro := nro) (K := K ++ [⟨1, ints ys⟩, gbx k n] ++ [o, ⟨1, ints (nats G)⟩]) (cd := cd) (by simp; omega) (k := k) (n := n) (b := K.length + 1) (by rw [List.append_assoc, hgetk]; rfl) v (nats G) s2 e2 (by rw [he2]; simpa using a1) (by rw [he2]; simpa using a2) (by rw [he2]; simpa using a3) (by rw [nats_len]; omega) i1
    exact ⟨e3, _, by rw [b1, List.append_assoc], b2⟩
  · have eg : clA kk p ys = .inr (fwcd kk p ys) := by unfold clA; rw [if_neg c]
    rw [eg] at a3
    rw [cond_non _ _ _ _ _ _ _ a3 c]
    exact ⟨_, _, by rw [List.append_assoc], by simpa using a1⟩
set_option maxHeartbeats 4000000 in
theorem groups_D (h : VH) (hK : K.take h.length = h) (e : FE) (he : e 0 = cd) : kret [.tmp 2] h (fcode (vcall F nro) nro (dropS 17 i_laws_FnGroups.body) e K) = some (.bool true, h) := by
  have hn' := fun k => Nat.le_trans hn (Nat.le_add_right K.length k)
  have hlK : h.length ≤ K.length := by
    have := congrArg List.length hK
    simp at this
    omega
  have tK : ∀ L, (K ++ L).take h.length = h := by intro L; rw [List.take_append_of_le_length hlK]; exact hK
  have kC : ∀ (L : VH) (x : Bool), kclean h [.bool x] (K ++ L) = ([.bool x], h) := fun L x => kclean_take (tK L) (by simp)
  obtain ⟨k1, p1, r1, _, d1⟩ := c_spec_DrawIsConnectionSet (nro := nro) hs hx hn
  have s1 := sli_at (h := K ++ [⟨1, ints r1⟩, ⟨0, [.int .i64 k1, .int .i64 p1]⟩]) (b := K.length) (xs := r1) (by simp)
  have a1 := c_impl_IsConnectionSet (nro := nro) k1 p1 _ r1 _ s1 (by omega) (by simp; omega)
  have a2 := c_spec_IsConnectionSet (nro := nro) k1 p1 _ r1 _ s1 (by omega) (by simp; omega)
  obtain ⟨k2, p2, x2, d2⟩ := c_spec_DrawInverseIn (nro := nro) (hs.app [⟨1, ints r1⟩, ⟨0, [.int .i64 k1, .int .i64 p1]⟩]) hx (by simp; omega)
  have hnl : ∀ L : VH, nro ≤ (K ++ L).length := fun L => by simp; omega
  have b1 := fun L => c_impl_InverseIn (nro := nro) k2 p2 x2 (K ++ L) (hnl L)
  have b2 := fun L => c_spec_InverseIn (nro := nro) k2 p2 x2 (K ++ L) (hnl L)
  obtain ⟨k3, p3, x3, d3⟩ := c_spec_DrawOrderOf (nro := nro) (hs.app [⟨1, ints r1⟩, ⟨0, [.int .i64 k1, .int .i64 p1]⟩, ⟨0, [.int .i64 k2, .int .i64 p2]⟩]) hx (by simp; omega)
  have g1 := fun L => c_impl_OrderOf (nro := nro) k3 p3 x3 (K ++ L) (hnl L)
  have g2 := fun L => c_spec_OrderOf (nro := nro) k3 p3 x3 (K ++ L) (hnl L)
  obtain ⟨k4, p4, d4⟩ := c_spec_DrawOrderOfGroup (nro := nro) (hs.app [⟨1, ints r1⟩, ⟨0, [.int .i64 k1, .int .i64 p1]⟩, ⟨0, [.int .i64 k2, .int .i64 p2]⟩, ⟨0, [.int .i64 k3, .int .i64 p3]⟩]) hx (by simp; omega)
  have f1 := fun L => c_impl_OrderOfGroup (nro := nro) k4 p4 (K ++ L)
  have f2 := fun L => c_spec_OrderOfGroup (nro := nro) k4 p4 (K ++ L)
  generalize csA k1 p1 r1 = q1 at a1 a2
  generalize iiA k2 p2 x2 = q2 at b1 b2
  generalize orA k3 p3 x3 = q3 at g1 g2
  generalize ogA k4 p4 = q4 at f1 f2
  obtain ⟨u1, v1⟩ := q1
  obtain ⟨u2, v2⟩ := q2
  obtain ⟨u3, v3⟩ := q3
  obtain ⟨u4, v4⟩ := q4
  generalize r1.length = m1 at d1 a1 a2
  simp only at a1 a2 b1 b2 g1 g2 f1 f2
  clear s1 hs hx hK tK hlK hnl
  cases u1 <;> simp (disch := first | assumption | omega | (simp [*] <;> omega) | fail) [i_laws_FnGroups, takeS, dropS, he, d1, a1, a2, d2, b1, b2, d3, g1, g2, d4, f1, f2, kC, hn, hn', splice, fresults, fresL, fres1]
end
theorem law_FnGroups (cd : Value) (xs : List Int) (h : VH) (hs : Sl h cd (bys xs)) (hx : Code' xs) (hn : nro ≤ h.length) :
    vcall F nro k_laws_FnGroups [cd] h = some (.bool true, h) := by
  have hn' := fun k => Nat.le_trans hn (Nat.le_add_right h.length k)
  have hl := hx.len
  have hb : vcall F nro k_laws_big [cd] h = some (.bool (decide (4096 < xs.length)), h) := by
    refine v_laws_big (by simp [i_laws_big]) ?_
    rw [fbody_eq]
    have e0 := hs.vlen
    simp only [bys_length] at e0
    simp (disch := first | assumption | omega | (simp [*] <;> omega) | fail) [i_laws_big, e0]
    omega
  by_cases hbig : 4096 < xs.length
  · refine v_laws_FnGroups (by simp [i_laws_FnGroups]) ?_
    rw [fbody_eq]
    rw [decide_eq_true hbig] at hb
    simp (disch := first | assumption | omega | (simp [*] <;> omega) | fail) [i_laws_FnGroups, hb, hn, hn']
  · rw [decide_eq_false hbig] at hb
    refine v_laws_FnGroups (by simp [i_laws_FnGroups]) ?_
    rw [fbody_eq]
    rw [fcode_parts (vcall F nro) nro 1 i_laws_FnGroups.body _ _ (by decide)]
    have p0 : ∃ e', fcode (vcall F nro) nro (takeS 1 i_laws_FnGroups.body) (fargs [cd]) h = some (.normal, e', h) ∧ e' 0 = cd := by
      simp (disch := first | assumption | omega | (simp [*] <;> omega) | fail) [i_laws_FnGroups, takeS, hb, hn, hn']
    obtain ⟨e0, p0, he0⟩ := p0
    rw [p0, kseq_normal, fcode_parts (vcall F nro) nro 4 (dropS 2 i_laws_FnGroups.body) _ _ (by decide)]
    obtain ⟨e1, L1, p1, he1⟩ := groups_A (nro := nro) hs hx hn e0 he0
    rw [p1, kseq_normal]
    have t1 : dropS (4 + 1) (dropS 2 i_laws_FnGroups.body) = dropS 7 i_laws_FnGroups.body := rfl
    rw [t1, fcode_parts (vcall F nro) nro 4 (dropS 7 i_laws_FnGroups.body) _ _ (by decide)]
    obtain ⟨e2, L2, p2, he2⟩ := groups_B (nro := nro) (hs.app L1) hx (by simp; omega) e1 he1
    rw [p2, kseq_normal]
    have t2 : dropS (4 + 1) (dropS 7 i_laws_FnGroups.body) = dropS 12 i_laws_FnGroups.body := rfl
    rw [t2, fcode_parts (vcall F nro) nro 4 (dropS 12 i_laws_FnGroups.body) _ _ (by decide)]
    obtain ⟨e3, L3, p3, he3⟩ := groups_C (nro := nro) ((hs.app L1).app L2) hx (by simp; omega) e2 he2
    rw [p3, kseq_normal]
    have t3 : dropS (4 + 1) (dropS 12 i_laws_FnGroups.body) = dropS 17 i_laws_FnGroups.body := rfl
    rw [t3]
    exact groups_D (nro := nro) (((hs.app L1).app L2).app L3) hx (by simp; omega) h (by simp) e3 he3
end Go.Proofs.Ytbilmoahcnllmaa.Zv

