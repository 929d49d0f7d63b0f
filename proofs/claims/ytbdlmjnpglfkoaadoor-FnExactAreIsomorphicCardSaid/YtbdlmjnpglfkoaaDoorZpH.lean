/- Part H of the proof: ZwMap5, ZwShort, ZwConn, ZwParts, ZwHalf, ZwDraw3, ZwLift2, ZwLift3, ZwLawHalf, ZwLawHalf2, ZwTup, ZwCyc, ZwLead2, ZwConcat, ZwGp1, ZwGp3, ZwGp5, ZwGp7, ZwGp9, ZwGpC, ZwLawVertex, ZwCompC, ZwMap6, ZwLawCover, ZwMap7, ZwRefI, ZwRefJ, ZwRefL, ZwBoth1, ZwBoth2, ZwRefM, ZwBoth3, ZwBoth4, ZwLeads1, ZwLeads2, ZwLeads3. Conditions: none. -/
import Derived.Test.YtbdlmjnpglfkoaaDoorZpD
import Derived.Test.YtbdlmjnpglfkoaaDoorZpE
import Derived.Test.YtbdlmjnpglfkoaaDoorZpF
import Derived.Test.YtbdlmjnpglfkoaaDoorZpG
set_option linter.unusedSimpArgs false
set_option linter.unusedVariables false
set_option linter.unusedSectionVars false
namespace Go.Proofs.YtbdlmjnpglfkoaaDoor.Zv
/- Renumberings that are looked for: the whole search. -/
section
open Go
open Classical
variable {nro : Nat}
theorem range_perm {p : Nat → Nat} {n : Nat} (hl : ∀ v, v < n → p v < n) (hi : ∀ v w, v < n → w < n → p v = p w → v = w) : ((List.range n).map p).Perm (List.range n) := by
 refine (List.perm_ext_iff_of_nodup ?_ List.nodup_range).mpr fun x => ?_
 ·unfold List.Nodup
  rw [List.pairwise_map]
  refine List.nodup_range.imp_of_mem fun {a b} ha hb hab e => hab (hi _ _ (List.mem_range.mp ha) (List.mem_range.mp hb) e)
 ·rw [List.mem_map, List.mem_range]
  constructor
  ·rintro ⟨v, hv, rfl⟩
   exact hl v (List.mem_range.mp hv)
  ·intro hx
   obtain ⟨v, hv, e⟩ := inj_sur n p hl hi x hx
   exact ⟨v, List.mem_range.mpr hv, e⟩
theorem list_map {l : List Int} {n : Nat} (h : l.length = n) : l = (List.range n).map fun v => l.getD v 0 := by
 apply List.ext_getElem (by simp [h])
 intro i h1 h2
 simp [List.getD_eq_getElem?_getD, h1]
theorem iso_perm {rows : Nat → List Int} {n : Nat} {c : Nat → List Int} (C : CL 2 n c) {p : Nat → Nat} (I : Iso rows n c p) : (c 0).Perm (c 1) := by
 have h0 := list_map (C.len 0 (by omega))
 have h1 := list_map (C.len 1 (by omega))
 have e : (List.range n).map (fun v => (c 0).getD v 0) = ((List.range n).map p).map fun v => (c 1).getD v 0 := by
  rw [List.map_map]
  exact List.map_congr_left fun v hv => I.col v (List.mem_range.mp hv)
 rw [h0, e, h1]
 have := (range_perm I.lt I.inj).map (fun v => (c 1).getD v 0)
 rw [← h1]
 rw [← h1] at this
 exact this
theorem branch_back {rows : Nat → List Int} {n : Nat} {c : Nat → List Int} (C : CL 2 n c) (hn : 1 ≤ n) {v w : Nat} (hv : v < n) (hw : w < n) (hc : (c 1).getD w 0 = (c 0).getD v 0) {p : Nat → Nat} (I : Iso rows n (apartC c (manyN 2 c) v w) p) : Iso rows n c p := by
 have l0 := C.len 0 (by omega)
 have l1 := C.len 1 (by omega)
 have col : ∀ u, u < n → (if u = v then (manyN 2 c : Int) else (c 0).getD u 0) = if p u = w then (manyN 2 c : Int) else (c 1).getD (p u) 0 := fun u hu => by
  have := I.col u hu
  rwa [apartC_0, apartC_1, set_getD (by omega), set_getD (by omega)] at this
 have hpv : p v = w := by
  have h1 := col v hv
  rw [if_pos rfl] at h1
  by_cases e : p v = w
  ·exact e
  ·rw [if_neg e] at h1
   have := C.lt hn 1 (by omega) _ (C.getD (show 1 < 2 by omega) (I.lt v hv))
   omega
 refine ⟨I.lt, I.inj, I.adj, fun u hu => ?_⟩
 by_cases e : u = v
 ·subst e; rw [hpv, hc]
 ·have h1 := col u hu
  rw [if_neg e, if_neg fun h => e (I.inj u v hu hv (h.trans hpv.symm))] at h1
  exact h1
set_option maxHeartbeats 4000000 in
theorem map_core {n k : Nat} {rows : Nat → List Int} (ih : ∀ j, k = j + 1 → MapOK nro n rows j) : MapOK nro n rows k := by
 intro a bg bc q rs gcs Hc E c C S hk
 have hn1 := E.n1
 have h62 : n ≤ 62 := (E.rok 0 (by omega)).le
 have E1 := E.app [⟨0, [.pointer (some ⟨a, 0, some 2⟩)]⟩]
 have hnr := E.nr c
 have hlen : ∀ d, (Hc d).length = (Hc c).length := fun d => E.len d c
 have hbx : ∀ d, (Hc d ++ [(⟨0, [.pointer (some ⟨a, 0, some 2⟩)]⟩ : VO)])[(Hc c).length]? = some ⟨0, [.pointer (some ⟨a, 0, some 2⟩)]⟩ := fun d => by rw [← hlen d]; simp
 obtain ⟨c', f1, f2, f3⟩ := c_zz43 E1 c C S
 obtain ⟨_, S', hmm⟩ := chn_CL hn1 f2
 have f4 := c_zz45 E1 c' f3 h62
 have f5 := c_zz47 E c' f3 [⟨0, [.pointer (some ⟨a, 0, some 2⟩)]⟩]
 have mv := E1.mv hbx c' f3
 have hup : ∀ (L : VH), kclean (Hc c) [.slice none 0 0] (Hc c' ++ L) = ([.slice none 0 0], Hc c') := fun L => cleanup_upd (E.upd c c') (by intro w hw; simp at hw; subst hw; intro r hr; simp [trefs, vrefs, crefs, arefs] at hr)
 have hupP : ∀ (L : VH) (e : Nat) (p : List Int), L[e]? = some ⟨1, ints p⟩ → kclean (Hc c) [.slice (some ⟨(Hc c).length + e, 0, none⟩) n n] (Hc c' ++ L) = ([.slice (some ⟨(Hc c).length, 0, none⟩) n n], Hc c' ++ [⟨1, ints p⟩]) := fun L e p hL => by
  rw [cleanup_one_upd (E.upd c c') (k := e) (by simp [trefs, vrefs, crefs, arefs]) hL (flatO_ints _ _ _)]
  simp [tren, vren, cren, aren, renOf_one]
 have lb := (List.getElem?_eq_some_iff.mp mv.box).1
 have lax := E.lax c
 have hax := E.ax c
 by_cases hp : (c' 0).Perm (c' 1)
 ·rw [decide_eq_true hp] at f4
  have hmn := perm_many hp f3 S'
  have hag := fun L => (mv.app L).ag
  have hax1 := fun L => (mv.app L).ax
  have hac1 := fun L => (mv.app L).ac
  have hbox1 := fun L => (mv.app L).box
  have hs0 := fun L => (mv.app L).s0.vlen
  have hs1 := fun L => (mv.app L).s1.vlen
  have hR0 := fun L => (mv.app L).t0.vlen
  have hrl : (rows 0).length = n := (E.rok 0 (by omega)).len
  rw [hrl] at hR0
  rw [f3.len 0 (by omega)] at hs0
  rw [f3.len 1 (by omega)] at hs1
  by_cases he : manyN 2 c' = n
  ·obtain ⟨p, p1, p2, p3⟩ := l_mapping_B1 (nro := nro) mv
   have hidx : ∀ v, v < n → 0 ≤ p.getD v 0 ∧ p.getD v 0 < n ∧ (c' 1).getD (p.getD v 0).toNat 0 = (c' 0).getD v 0 := fun v hv => by
    have hm : (c' 0).getD v 0 ∈ c' 1 := hp.mem_iff.mp (f3.getD (by omega) hv)
    obtain ⟨i0, i3⟩ := idxF_neg (c' 1) ((c' 0).getD v 0) _ 0 rfl
    have h0 : ¬ idxF (c' 1) ((c' 0).getD v 0) 0 < 0 := fun hneg => by
     obtain ⟨j, hj, hje⟩ := List.getElem_of_mem hm
     exact i0 hneg j (Nat.zero_le _) hj (by rw [getD_at _ hj]; exact hje)
    obtain ⟨i1, i2⟩ := i3 h0
    have := f3.len 1 (by omega)
    rw [p2 v hv]
    exact ⟨by omega, by omega, i2⟩
   obtain ⟨w1, w2⟩ := leaf_iso (rows := rows) hn1 ⟨_, f2⟩ hp f3 S' he (p := fun v => (p.getD v 0).toNat) (fun v hv => by have := hidx v hv; show (p.getD v 0).toNat < n; omega) (fun v hv => (hidx v hv).2.2)
   have sp := sli_at (h := Hc c' ++ [⟨0, [.pointer (some ⟨a, 0, some 2⟩)]⟩] ++ [⟨1, ints p⟩]) (b := (Hc c' ++ [(⟨0, [.pointer (some ⟨a, 0, some 2⟩)]⟩ : VO)]).length) (xs := p) (by simp)
   have l3 := l_mapping_B3 (nro := nro) (mv.app [⟨1, ints p⟩]) sp p1 (fun v hv => ⟨(hidx v hv).1, (hidx v hv).2.1⟩)
   have hiff : (∃ v, 0 ≤ v ∧ v < n ∧ ∃ w, w < n ∧ rbit (rows 0) v w = true ∧ rbit (rows 1) (p.getD v 0).toNat (p.getD w 0).toNat = false) ↔ ¬ HasIso rows n c' := by
    rw [w1]
    constructor
    ·rintro ⟨v, _, hv, w, hw, h1, h2⟩ hall
     rw [hall v w hv hw h1] at h2
     cases h2
    ·intro hno
     apply Classical.byContradiction
     intro hno2
     refine hno fun v w hv hw h1 => ?_
     apply Classical.byContradiction
     intro h2
     exact hno2 ⟨v, Nat.zero_le _, hv, w, hw, h1, by simpa using h2⟩
   rw [hiff] at l3
   have e8 : 8 * (n : Int) ≤ 140737488355328 := by omega
   have hn8 : (n : Int) ≤ 140737488355328 := by omega
   have hn' := fun k => Nat.le_trans hnr (Nat.le_add_right (Hc c).length k)
   rw [p1] at sp
   rw [he] at f5
   obtain ⟨z0, hz0⟩ : ∃ z, z = List.replicate n (0 : Int) := ⟨_, rfl⟩
   rw [← hz0] at p3
   have hz1 : List.replicate n (Value.int .i64 0) = ints z0 := by rw [hz0]; unfold ints; rw [List.map_replicate]
   rcases l3 with ⟨hno, L, l3⟩ | ⟨hyes, l3⟩
   ·refine ⟨c', .slice none 0 0, [], ?_, .inl ⟨rfl, rfl, fun h => hno ((chn_has f2).mp h)⟩⟩
    refine v_zz40 (by simp [i_zz40]) ?_
    rw [fbody_eq]
    rw [p1] at l3
    rw [List.append_nil]
    have hYX : (Hc c').length = (Hc c).length := hlen c'
    clear E E1 C S S' f2 f3 mv hp hidx w1 w2 sp hiff hno hupP hax hbx hlen ih hz0
    generalize Hc c' = Y at *
    generalize Hc c = X at *
    simp only [List.append_assoc, List.cons_append, List.nil_append] at f1 f4 f5 p3 l3 hag hax1 hac1 hbox1 hs0 hR0
    simp only [List.length_append, List.length_cons, List.length_nil] at p3 l3
    rw [hYX] at p3 l3
    simp (disch := first | assumption | omega | (simp [*] <;> omega) | fail) [-getElem?_pos, List.getElem?_cons_zero, List.getElem?_cons_succ, i_zz40, f1, f4, f5, p3, l3, hup, hs0, hR0, hag, hax1, hac1, hbox1, hnr, hn', lb, lax, hz1, e8, hn8, hYX, p1, fresults, fresL, fres1]
   ·have hfin := hupP [⟨0, [.pointer (some ⟨a, 0, some 2⟩)]⟩, ⟨1, ints p⟩] 1 p rfl
    refine ⟨c', .slice (some ⟨(Hc c).length, 0, none⟩) n n, [⟨1, ints p⟩], ?_, .inr ⟨p, rfl, rfl, p1, fun v hv => ⟨(hidx v hv).1, (hidx v hv).2.1⟩, (chn_iso f2 _).mpr (w2 (w1.mp (Classical.byContradiction fun h => hyes h)))⟩⟩
    refine v_zz40 (by simp [i_zz40]) ?_
    rw [fbody_eq]
    rw [p1] at l3
    have hYX : (Hc c').length = (Hc c).length := hlen c'
    clear E E1 C S S' f2 f3 mv hp hidx w1 w2 sp hiff hyes hupP hax hbx hlen ih hz0
    generalize Hc c' = Y at *
    generalize Hc c = X at *
    simp only [List.append_assoc, List.cons_append, List.nil_append] at f1 f4 f5 p3 l3 hag hax1 hac1 hbox1 hs0 hR0
    simp only [List.length_append, List.length_cons, List.length_nil] at p3 l3
    rw [hYX] at p3 l3
    simp (disch := first | assumption | omega | (simp [*] <;> omega) | fail) [-getElem?_pos, List.getElem?_cons_zero, List.getElem?_cons_succ, i_zz40, f1, f4, f5, p3, l3, hfin, hs0, hR0, hag, hax1, hac1, hbox1, hnr, hn', lb, lax, hz1, e8, hn8, hYX, p1, fresults, fresL, fres1]
  ·have hlt : manyN 2 c' < n := by omega
   obtain ⟨j, rfl⟩ : ∃ j, k = j + 1 := ⟨k - 1, by omega⟩
   have ihj : MapOK nro n rows j := ih j rfl
   obtain ⟨x1, f6, f7⟩ := c_slices_IndexFunc (nro := nro) (.slice (some ⟨q 0, 0, none⟩) n n) (.func (.func k_zz35) #[] #[.pointer (some ⟨(Hc c).length, 0, some 1⟩)]) k_zz35 [.pointer (some ⟨(Hc c).length, 0, some 1⟩)] (c' 0) (fun x => idxF (c' 0) x 0 ≠ lastX (c' 0) x (c' 0).length) _ mv.s0 (by rw [f3.len 0 (by omega)]; omega) rfl (by
    have hl := hlen c'
    intro r hr
    simp [trefs, vrefs, crefs, arefs] at hr
    subst hr
    simp
    omega) (fun x _ => (c_zz35 mv x).trans (by congr))
   have l0 := f3.len 0 (by omega)
   have hv : ∃ v u, x1 = ((v : Nat) : Int) ∧ v < n ∧ u < n ∧ u ≠ v ∧ (c' 0).getD u 0 = (c' 0).getD v 0 := by
    rcases f7 with ⟨_, h2⟩ | ⟨h1, h2, h3, _⟩
    ·obtain ⟨v, u, hv, hu, huv, e⟩ := shared f3 hn1 hlt
     exact absurd (twice_iff.mpr ⟨u, v, by omega, by omega, huv, e, rfl⟩) (h2 v (by omega))
    ·obtain ⟨v, rfl⟩ : ∃ v : Nat, x1 = v := ⟨_, (Int.toNat_of_nonneg h1).symm⟩
     rw [Int.toNat_natCast] at h3
     obtain ⟨u, w, hu, hw, huw, e1, e2⟩ := twice_iff.mp h3
     by_cases c1 : u = v
     ·exact ⟨v, w, rfl, by omega, by omega, fun e => huw (c1.trans e.symm), e2⟩
     ·exact ⟨v, u, rfl, by omega, by omega, c1, e1⟩
   obtain ⟨v, u, rfl, hv, hu, huv, hcu⟩ := hv
   have l4 := l_mapping_B4 (nro := nro) E1 hbx ihj c' f3 S' hlt (by omega) hv hu huv hcu
   have hne : ¬ (manyN 2 c' : Int) = n := by omega
   have lq1 := E.lq c' (i := 1) (by omega)
   have lq0 := E.lq c' (i := 0) (by omega)
   have hn' := fun k => Nat.le_trans hnr (Nat.le_add_right (Hc c).length k)
   have hfn : Old ((Hc c).length + 1) (.func (.func k_zz35) #[] #[.pointer (some ⟨(Hc c).length, 0, some 1⟩)]) := by
    intro r hr
    simp [trefs, vrefs, crefs, arefs] at hr
    omega
   rcases l4 with ⟨_, L, p, e, l4, hL, p1, p2, w, hcw, hw, I⟩ | ⟨hno, l4⟩
   ·have hfin := hupP (⟨0, [.pointer (some ⟨a, 0, some 2⟩)]⟩ :: L) (1 + e) p (by rw [Nat.add_comm, List.getElem?_cons_succ]; exact hL)
    rw [← Nat.add_assoc] at hfin
    refine ⟨c', .slice (some ⟨(Hc c).length, 0, none⟩) n n, [⟨1, ints p⟩], ?_, .inr ⟨p, rfl, rfl, p1, p2, (chn_iso f2 _).mpr (branch_back f3 hn1 hv hw hcw I)⟩⟩
    refine v_zz40 (by simp [i_zz40]) ?_
    rw [fbody_eq]
    have hYX : (Hc c').length = (Hc c).length := hlen c'
    clear E E1 C S S' f2 f3 mv hp hupP hax hbx hlen ih ihj f7 I hcw hcu hL p1 p2
    generalize Hc c' = Y at *
    generalize Hc c = X at *
    simp only [List.append_assoc, List.cons_append, List.nil_append] at f1 f4 f5 f6 l4 hag hax1 hac1 hbox1 hs0 hs1 hR0
    simp only [List.length_append, List.length_cons, List.length_nil] at l4
    rw [hYX] at l4
    simp (disch := first | assumption | omega | (simp [*] <;> omega) | fail) [-getElem?_pos, List.getElem?_cons_zero, List.getElem?_cons_succ, i_zz40, f1, f4, f5, f6, l4, hfin, hs0, hs1, hR0, hag, hax1, hac1, hbox1, hnr, hn', lb, lax, hne, hYX, lq0, lq1, hfn, isAtom, fresults, fresL, fres1]
   ·refine ⟨c', .slice none 0 0, [], ?_, .inl ⟨rfl, rfl, fun h => hno (((branch_iso f3 hn1 hv).mp ((chn_has f2).mp h)).elim fun w h => ⟨w, Nat.zero_le _, h⟩)⟩⟩
    refine v_zz40 (by simp [i_zz40]) ?_
    rw [fbody_eq, List.append_nil]
    have hYX : (Hc c').length = (Hc c).length := hlen c'
    clear E E1 C S S' f2 f3 mv hp hupP hax hbx hlen ih ihj f7 hcu hno
    generalize Hc c' = Y at *
    generalize Hc c = X at *
    simp only [List.append_assoc, List.cons_append, List.nil_append] at f1 f4 f5 f6 l4 hag hax1 hac1 hbox1 hs0 hs1 hR0
    simp (disch := first | assumption | omega | (simp [*] <;> omega) | fail) [-getElem?_pos, List.getElem?_cons_zero, List.getElem?_cons_succ, i_zz40, f1, f4, f5, f6, l4, hup, hs0, hs1, hR0, hag, hax1, hac1, hbox1, hnr, hn', lb, lax, hne, hYX, lq0, lq1, hfn, isAtom, fresults, fresL, fres1]
 ·refine ⟨c', .slice none 0 0, [], ?_, .inl ⟨rfl, rfl, fun h => hp (((chn_has f2).mp h).elim fun p I => iso_perm f3 I)⟩⟩
  rw [decide_eq_false hp] at f4
  refine v_zz40 (by simp [i_zz40]) ?_
  rw [fbody_eq, List.append_nil]
  have hYX : (Hc c').length = (Hc c).length := hlen c'
  have hbox1 := fun L => (mv.app L).box
  have hn' := fun k => Nat.le_trans hnr (Nat.le_add_right (Hc c).length k)
  clear E E1 C S S' f2 f3 mv hp hupP hax hbx hlen ih
  generalize Hc c' = Y at *
  generalize Hc c = X at *
  simp only [List.append_assoc, List.cons_append, List.nil_append] at f1 f4 f5 hbox1
  simp (disch := first | assumption | omega | (simp [*] <;> omega) | fail) [-getElem?_pos, List.getElem?_cons_zero, List.getElem?_cons_succ, i_zz40, f1, f4, f5, hup, hbox1, hnr, hn', lb, lax, hYX, fresults, fresL, fres1]
theorem map_ok {n : Nat} {rows : Nat → List Int} : ∀ k, MapOK nro n rows k
 | 0 => map_core fun j h => by omega
 | k + 1 => map_core fun j h => by
  have : j = k := by omega
  subst this
  intro a bg bc q rs gcs Hc E c C S hk
  exact map_ok j E c C S hk
end

/- Walks are counted step by step; ShortestThrough. -/
section
open Go
variable {nro : Nat}
theorem clean_mid {h L : VH} {A B : List Value} {k off n t : Nat} {o : VO} (hA : ∀ v ∈ A, Old h.length v) (hB : ∀ v ∈ B, Old h.length v) (hk : L[k]? = some o) (hf : flatO h.length o) :
  kclean h (A ++ .slice (some ⟨h.length + k, off, none⟩) n t :: B) (h ++ L) = (A ++ .slice (some ⟨h.length, off, none⟩) n t :: B, h ++ [o]) := by
 have fil : ∀ (C : List Value), (∀ v ∈ C, Old h.length v) → (C.flatMap trefs).filter (fun i => decide (h.length ≤ i)) = [] := fun C hC => by
  rw [List.filter_eq_nil_iff]
  intro r hr
  have := (old_all h.length C).mpr hC r hr
  simp; omega
 have e : keepL h.length (A ++ .slice (some ⟨h.length + k, off, none⟩) n t :: B) = [h.length + k] := by
  unfold keepL
  rw [List.flatMap_append, List.filter_append, fil A hA, List.nil_append, List.flatMap_cons, List.filter_append, fil B hB]
  simp [trefs, vrefs, crefs, arefs, dedup]
 have hg : (h ++ L)[h.length + k]? = some o := by rw [hgetk]; exact hk
 rw [cleanup_keep e fun i hi => ⟨o, by rw [List.mem_singleton] at hi; rw [hi]; exact hg, hf⟩]
 have keep : ∀ (C : List Value), (∀ v ∈ C, Old h.length v) → C.map (tren (renOf h.length [h.length + k])) = C := fun C hC => by
  have : ∀ v ∈ C, tren (renOf h.length [h.length + k]) v = v := fun v hv => tren_old (hC v hv) fun i hi => by simp only [renOf, if_pos hi]
  exact (List.map_congr_left this).trans (by simp)
 rw [List.map_append, List.map_cons, keep A hA, keep B hB]
 simp [hg, tren, vren, cren, aren, renOf_one]
end

/- Parts: all vertices to which there is a way; connected graphs. -/
section
open Go
variable {nro : Nat}
def pt (rows : List Int) (met f : Nat) : Nat :=
  if f = 0 then met else if h : met < (met ||| nxt rows f) ∧ (met ||| nxt rows f) < 2 ^ 62 then pt rows (met ||| nxt rows f) (nand (nxt rows f) met) else met
 termination_by 2 ^ 62 - met
 decreasing_by omega
def part (rows : List Int) (v : Nat) : Nat := pt rows (2 ^ v) (2 ^ v)
end

/- The program's lists of edges and parts. -/
section
open Go
variable {nro : Nat}
def low (x : Nat) : Nat := ((bitL x).getD 0 0).toNat
end

/- Bipartite graphs, graphs at a distance, halves. -/
section
open Go
variable {nro : Nat}
theorem getD_list {ess : List (List Int)} {i : Nat} (hi : i < ess.length) : ess.getD i [] = ess[i] := by
 rw [List.getD_eq_getElem?_getD, List.getElem?_eq_getElem hi]; rfl
abbrev cp1 (h : VH) : Value := .pointer (some ⟨h.length + 1, 0, some 2⟩)
end

/- Draws of FirstRegular and LeastVertices. -/
section
open Go
variable {nro : Nat}
@[simp] theorem old_tup3i (n : Nat) (k1 k2 k3 : IntKind) (a b c : Int) : Old n (.tuple #[.int k1 a, .int k2 b, .int k3 c]) := fun r hr => by simp [trefs, vrefs, crefs, arefs] at hr
end

/- Steps over arcs; the vertices that a lift's come from. -/
section
open Go
variable {nro : Nat}
theorem getD_atG {α : Type} {l : List α} {d : α} {i : Nat} (h : i < l.length) : l.getD i d = l[i] := by
 rw [List.getD_eq_getElem?_getD, List.getElem?_eq_getElem h]
 rfl
section
variable {n m : Int} {A : List Ar} {s : Value} {h : VH} {st : Nat}
def covT (m k : Nat) : List Int := (List.range k).map fun v => ((v / m : Nat) : Int)
@[simp] theorem covT_zero (m : Nat) : covT m 0 = [] := rfl
@[simp] theorem covT_len (m k : Nat) : (covT m k).length = k := by simp [covT]
end
end

/- Lifts, by both. -/
section
open Go
variable {nro : Nat}
def nrm (x y : Nat) : Nat × Nat := (min x y, max x y)
def aV (m : Nat) (a : Ar) (i : Nat) : Nat := a.f.toNat * m + i
def aW (m : Nat) (a : Ar) (i : Nat) : Nat := a.t.toNat * m + (i + a.v.toNat) % m
def aP (m : Nat) (a : Ar) (i : Nat) : Nat × Nat := nrm (aV m a i) (aW m a i)
def apl (m : Nat) (a : Ar) (i : Nat) : List (Nat × Nat) := (List.range i).map (aP m a)
@[simp] theorem apl_zero (m : Nat) (a : Ar) : apl m a 0 = [] := rfl
@[simp] theorem apl_len (m : Nat) (a : Ar) (i : Nat) : (apl m a i).length = i := by simp [apl]
abbrev lp (h : VH) (k z : Nat) : Value := .pointer (some ⟨h.length + k, 0, some z⟩)
end

/- The law of HalfOf. -/
section
open Go
variable {nro : Nat}
abbrev hh (h : VH) (n : Int) (s : Value) (D L : List Int) : VH := h ++ [⟨0, [.int .i64 n, s]⟩, ⟨0, [.int .i64 0, .slice none 0 0]⟩, ⟨1, ints D⟩, ⟨1, ints L⟩]
end

/- The law of HalfOf: the program's side. -/
section
open Go
variable {nro : Nat}
theorem GV.of {n : Nat} {r : List Int} {adj : Nat → Nat → Prop} (h : IsAdj n r adj) (h1 : 1 ≤ n) (h2 : n ≤ 62) (hlt : ∀ v w, v < n → adj v w → w < n) (hirr : ∀ v, ¬ adj v v) (hsym : ∀ v w, adj v w → adj w v) : GV n r := by
 have R := Rok.of h h2 hlt
 refine ⟨by omega, by omega, by rw [h.1], fun v hv => ?_, fun v w hv hw => ?_⟩
 ·rw [h.1] at hv
  obtain ⟨r1, r2⟩ := R.row v hv
  refine ⟨r1, ?_, ?_⟩
  ·have e : ((2 ^ n : Nat) : Int) = (2 : Int) ^ ((n : Int).toNat) := by simp
   rw [← e]; omega
  ·have := (h.2 v hv).2.2 v
   cases hb : rbit r v v
   ·rfl
   ·exact absurd (this.mp hb) (hirr v)
 ·rw [h.1] at hv hw
  have a := (h.2 v hv).2.2 w
  have b := (h.2 w hw).2.2 v
  rw [Bool.eq_iff_iff, a, b]
  exact ⟨hsym v w, hsym w v⟩
end

/- Counting tuples: closed walks are counted by where they begin. -/
section
open Go
open Classical
def tup (n : Nat) : Nat → List (List Nat)
 | 0 => [[]]
 | k + 1 => (List.range n).flatMap fun v => (tup n k).map (v :: ·)
noncomputable def cn (p : List Nat → Prop) (ls : List (List Nat)) : Int := (ls.countP (fun l => decide (p l)) : Int)
end

/- Shortest cycles through edges, counted as closed walks. -/
section
open Go
open Classical
def rr (rows : List Int) (x y : Nat) : Prop := rbit rows x y = true
end

/- Parts are counted by their leaders; lifts' parts and edges. -/
section
open Go
variable {nro : Nat}
theorem LL.len {h : VH} {v : Value} {ess : List (List Int)} (hl : LL h v ess) : vlen h v = some (.int .i64 ess.length, h) := by
 obtain ⟨vs, e, h1, _⟩ := hl
 rw [h1.vlen, e]
end

/- The library's slices.Concat. -/
section
open Go
variable {nro : Nat}
theorem c_Grow (n : Nat) (h1 : 1 ≤ n) (h2 : n ≤ 1048576) (h : VH) : vcall F nro k_slices_Grow_int64_int64 [.slice none 0 0, .int .i64 n] h = some (.slice (some ⟨h.length, 0, none⟩) 0 0, h ++ [⟨1, []⟩]) := by
 have hF : F k_slices_Grow_int64_int64 = some (.ext growX) := by kernel_rfl
 rw [vcall, vstep, hF]
 show (if 1 ≤ (n : Int) ∧ (n : Int) ≤ 1048576 then some (Value.slice (some ⟨h.length, 0, none⟩) 0 0, h ++ [⟨1, []⟩]) else none) = _
 rw [if_pos ⟨by omega, by omega⟩]
theorem flat_take {ess : List (List Int)} {i : Nat} (hi : i < ess.length) : (ess.take (i + 1)).flatten = (ess.take i).flatten ++ ess[i] := by
 rw [List.take_succ_eq_append_getElem hi, List.flatten_append]
 simp
theorem flat_le {ess : List (List Int)} (i : Nat) : (ess.take i).flatten.length ≤ ess.flatten.length := by
 have : ess.flatten = (ess.take i).flatten ++ (ess.drop i).flatten := by rw [← List.flatten_append, List.take_append_drop]
 rw [this, List.length_append]
 omega
section
variable {h : VH} {q : Value} {ess : List (List Int)} (hq : LL h q ess) (hn : nro ≤ h.length) (h1 : 1 ≤ ess.flatten.length) (h2 : ess.flatten.length ≤ 4000) (hl : ess.length ≤ 4000)
include hq hn h1 h2 hl
theorem l_Concat_1 : floop (vcall F nro) nro [0, 3, 9, 10, 11] i_zz31_B1 h [q, .int .i64 0, q, .int .i64 ess.length, .int .i64 0] h = some (.exit 0, fl [(0, q), (3, .int .i64 ess.flatten.length)], h) := by
 obtain ⟨vs, v1, v2, v3⟩ := hq
 have oq := v2.old
 have key := for_up (call := vcall F nro) (nro := nro) (live := [0, 3, 9, 10, 11]) (c := i_zz31_B1) (h0 := h) (n := ess.length)
  (fun i (_ : Unit) => [q, .int .i64 (ess.take i).flatten.length, q, .int .i64 ess.length, .int .i64 i]) (fun _ _ => h) (fun _ u => u) (fun _ _ => True)
  (fun _ => some (.exit 0, fl [(0, q), (3, .int .i64 ess.flatten.length)], h)) (fun i u hi hi2 _ => ⟨trivial, ?_⟩) (fun u _ => ?_) 0 () (by omega) trivial
 ·simpa using key.1
 ·have hiv : i < vs.length := by omega
  have I := v3 i hiv
  rw [getD_list hi] at I
  have vx := v2.vidx (k := .i64) (j := (i : Int)) (by omega) (by omega)
  have vl := v2.vload hiv
  have ln := I.vlen
  have e := flat_take hi
  have hle := flat_le (ess := ess) (i + 1)
  rw [e] at hle ⊢
  rw [List.length_append] at hle ⊢
  generalize (ess.take i).flatten.length = s at *
  generalize ess[i].length = t at *
  have w1 : IntKind.i64.wrap ((i : Int) + 1) = (i : Int) + 1 := wrap64 (by omega) (by omega)
  have w2 : IntKind.i64.wrap ((s : Int) + t) = (s : Int) + t := wrap64 (by omega) (by omega)
  have hneg : ¬ (s : Int) + t < 0 := by omega
  have oe := I.old
  clear e I v3
  rw [floop_at i_zz31_B1.eq_1]
  generalize vs[i] = x at *
  simp (disch := first | assumption | omega | (simp [*] <;> omega) | fail) [-getElem?_pos, List.getElem?_cons_zero, List.getElem?_cons_succ, hi, hi2, vx, vl, ln, w1, w2, hneg, oq, oe]
 ·rw [List.take_length, floop_at i_zz31_B1.eq_1]
  clear v2 v3
  simp (disch := first | assumption | omega | (simp [*] <;> omega) | fail) [-getElem?_pos, List.getElem?_cons_zero, List.getElem?_cons_succ, oq]
theorem l_Concat_2 : floop (vcall F nro) nro [6, 25, 26, 27] i_zz31_B2 (h ++ [⟨1, []⟩]) [.slice (some ⟨h.length, 0, none⟩) 0 0, q, .int .i64 ess.length, .int .i64 0] (h ++ [⟨1, []⟩]) = some (.exit 2, fl [(6, .slice (some ⟨h.length, 0, none⟩) ess.flatten.length ess.flatten.length)], h ++ [⟨1, ints ess.flatten⟩]) := by
 obtain ⟨vs, v1, v2, v3⟩ := hq
 have oq := fun k => v2.old.le (Nat.le_add_right h.length k)
 have hn' := fun k => Nat.le_trans hn (Nat.le_add_right h.length k)
 have key := for_up (call := vcall F nro) (nro := nro) (live := [6, 25, 26, 27]) (c := i_zz31_B2) (h0 := h ++ [⟨1, []⟩]) (n := ess.length)
  (fun i (_ : Unit) => [.slice (some ⟨h.length, 0, none⟩) (ess.take i).flatten.length (ess.take i).flatten.length, q, .int .i64 ess.length, .int .i64 i]) (fun i _ => h ++ [⟨1, ints (ess.take i).flatten⟩]) (fun _ u => u) (fun _ _ => True)
  (fun _ => some (.exit 2, fl [(6, .slice (some ⟨h.length, 0, none⟩) ess.flatten.length ess.flatten.length)], h ++ [⟨1, ints ess.flatten⟩])) (fun i u hi hi2 _ => ⟨trivial, ?_⟩) (fun u _ => ?_) 0 () (by omega) trivial
 ·have := key.1
  simp only [List.take_zero, List.flatten_nil, List.length_nil, Int.natCast_zero] at this
  exact this
 ·have hiv : i < vs.length := by omega
  have I := v3 i hiv
  rw [getD_list hi] at I
  have vx := fun L => (v2.app L).vidx (k := .i64) (j := (i : Int)) (by omega) (by omega)
  have vl := fun L => (v2.app L).vload hiv
  have e := flat_take hi
  have hle := flat_le (ess := ess) (i + 1)
  rw [e] at hle ⊢
  have hcl := fun (r : List Int) (vs : List Value) => mk_clean (P := h) (C := []) (r0 := []) (r1 := r) (vs := vs)
  have he0 : ints ([] : List Int) = [] := rfl
  rw [he0] at hcl
  have hsrc : ∀ L, vsrc 1 (h ++ L) vs[i] = some (ints ess[i], (ints ess[i]).length) := fun L => I.app L
  have hap : ints ((ess.take i).flatten ++ ess[i]) = ints (ess.take i).flatten ++ ints ess[i] := by simp [ints]
  rw [hap]
  rw [List.length_append] at hle ⊢
  have hj := ints_nj ess[i]
  have hl1 : (ints (ess.take i).flatten).length = (ess.take i).flatten.length := ints_length _
  have hl2 : (ints ess[i]).length = ess[i].length := ints_length _
  have w1 : IntKind.i64.wrap ((i : Int) + 1) = (i : Int) + 1 := wrap64 (by omega) (by omega)
  have hcl2 := fun vs => hcl ((ess.take i).flatten ++ ess[i]) vs
  rw [hap] at hcl2
  generalize ints (ess.take i).flatten = A at *
  generalize ints ess[i] = B at *
  generalize (ess.take i).flatten.length = s at *
  generalize ess[i].length = t at *
  have b1 : (s + t) * 8 ≤ 1099511627776 := by omega
  have b2 : s + t ≤ 1099511627776 := by omega
  clear e I v3 hap hcl
  rw [floop_at i_zz31_B2.eq_1]
  generalize vs[i] = x at *
  unfold isJunk at hj
  simp (disch := first | assumption | omega | (simp [*] <;> omega) | fail) [-getElem?_pos, List.getElem?_cons_zero, List.getElem?_cons_succ, hi, hi2, vx, vl, hsrc, w1, oq, hl1, hl2, b1, b2, hn', hn, hcl2]
  intro y hy hjy
  rw [hj y hy] at hjy
  cases hjy
 ·rw [List.take_length, floop_at i_zz31_B2.eq_1]
  clear v2 v3
  simp (disch := first | assumption | omega | (simp [*] <;> omega) | fail) [-getElem?_pos, List.getElem?_cons_zero, List.getElem?_cons_succ, oq]
theorem c_slices_Concat : vcall F nro k_zz31 [q] h = some (.slice (some ⟨h.length, 0, none⟩) ess.flatten.length ess.flatten.length, h ++ [⟨1, ints ess.flatten⟩]) := by
 have l1 := l_Concat_1 (nro := nro) hq hn h1 h2 hl
 have l2 := l_Concat_2 (nro := nro) hq hn h1 h2 hl
 have ln := fun L => (hq.app L).len
 have ln0 := hq.len
 have oq := fun k => hq.old.le (Nat.le_add_right h.length k)
 have oq0 := hq.old
 have g := c_Grow (nro := nro) ess.flatten.length h1 (by omega) h
 have hn' := fun k => Nat.le_trans hn (Nat.le_add_right h.length k)
 have hl2 : (ints ess.flatten).length = ess.flatten.length := ints_length _
 refine v_zz31 (by simp [i_zz31]) ?_
 rw [fbody_eq]
 generalize ess.flatten.length = N at *
 generalize hA : ints ess.flatten = A at *
 have hfin : kclean h [.slice (some ⟨h.length, 0, none⟩) N N] (h ++ [⟨1, A⟩]) = ([.slice (some ⟨h.length, 0, none⟩) N N], h ++ [⟨1, A⟩]) := by
  rw [← hA]
  have := cleanup_one_upd (h := h) (h' := h) (L := [⟨1, ints ess.flatten⟩]) (v := .slice (some ⟨h.length, 0, none⟩) N N) (k := 0) (o := ⟨1, ints ess.flatten⟩) (Upd.rfl' h) (by simp [trefs, vrefs, crefs, arefs]) rfl (flatO_ints _ _ _)
  rw [this]
  simp [tren, vren, cren, aren, renOf]
 clear hq hA
 simp (disch := first | assumption | omega | (simp [*] <;> omega) | fail) [-getElem?_pos, List.getElem?_cons_zero, List.getElem?_cons_succ, i_zz31, l1, l2, ln, ln0, oq, oq0, g, hl2, hfin, hn', hn, fresults, fresL, fres1]
end
end

/- Groups as the program has them: sums, turns with mirrors, lines. What their products obey, in plain numbers. -/
section
open Go
def gord (k n : Nat) : Nat := if k = 0 then n else if k = 1 then 2 * n else n * (n - 1)
end

/- Groups: what tells them, their numbers of elements, their products. -/
section
open Go
variable {nro : Nat}
def gpB (K P : Int) : Prop := (K = 0 ∧ 1 ≤ P ∧ P ≤ 62) ∨ (K = 1 ∧ 1 ≤ P ∧ P ≤ 31) ∨ (K = 2 ∧ (P = 2 ∨ P = 3 ∨ P = 5 ∨ P = 7))
instance (K P : Int) : Decidable (gpB K P) := by unfold gpB; infer_instance
end

/- Groups: inverses, codes, products, orders, as the two programs reckon them. -/
section
open Go
variable {nro : Nat}
def gin (K P x : Int) : Prop := 0 ≤ x ∧ x < (gord K.toNat P.toNat : Nat)
instance (K P x : Int) : Decidable (gin K P x) := by unfold gin; infer_instance
end

/- What is generated: plain. -/
section
open Go
inductive Gen (m : Nat → Nat → Nat) (ss : List Nat) : Nat → Prop
 | zero : Gen m ss 0
 | step (x s : Nat) : Gen m ss x → s ∈ ss → Gen m ss (m x s)
end

/- What is generated, by the reference. -/
section
open Go
variable {nro : Nat}
def btb (N : Nat) (p : Nat → Bool) : List Value := (List.range N).map fun x => .bool (p x)
@[simp] theorem btb_length (N : Nat) (p : Nat → Bool) : (btb N p).length = N := by simp [btb]
end

/- Closed sets, by the program. -/
section
open Go
variable {nro : Nat}
theorem ddN_ok {xs : List Int} (hs : SrtB 0 xs.length xs) : ∀ p, p ≤ xs.length → (ddN xs p).Pairwise (· < ·) ∧ (∀ x, x ∈ ddN xs p ↔ ∃ q, q < p ∧ xs.getD q 0 = x)
 | 0, _ => by simp [ddN]
 | p + 1, hp => by
  obtain ⟨h1, h2⟩ := ddN_ok hs p (by omega)
  rw [ddN]
  by_cases c : p ≠ 0 ∧ xs.getD p 0 = xs.getD (p - 1) 0
  ·rw [if_pos c]
   refine ⟨h1, fun x => ?_⟩
   rw [h2]
   constructor
   ·rintro ⟨q, hq, e⟩; exact ⟨q, by omega, e⟩
   ·rintro ⟨q, hq, e⟩
    by_cases hqp : q = p
    ·exact ⟨p - 1, by omega, by rw [← c.2, ← hqp]; exact e⟩
    ·exact ⟨q, by omega, e⟩
  ·rw [if_neg c]
   refine ⟨?_, fun x => ?_⟩
   ·rw [List.pairwise_append]
    refine ⟨h1, by simp, fun a ha b hb => ?_⟩
    simp only [List.mem_singleton] at hb
    subst hb
    obtain ⟨q, hq, rfl⟩ := (h2 a).mp ha
    have h3 := hs (p - 1) p (by omega) (by omega) (by omega)
    have h4 : xs.getD q 0 ≤ xs.getD (p - 1) 0 := by
     by_cases e : q = p - 1
     ·rw [e]; exact Int.le_refl _
     ·exact hs q (p - 1) (by omega) (by omega) (by omega)
    have h5 : xs.getD p 0 ≠ xs.getD (p - 1) 0 := fun e => c ⟨by omega, e⟩
    omega
   ·rw [List.mem_append, h2, List.mem_singleton]
    constructor
    ·rintro (⟨q, hq, e⟩ | e)
     ·exact ⟨q, by omega, e⟩
     ·exact ⟨p, by omega, e.symm⟩
    ·rintro ⟨q, hq, e⟩
     by_cases hqp : q = p
     ·exact .inr (by rw [← e, hqp])
     ·exact .inl ⟨q, by omega, e⟩
end

/- The law of TakeVertex. -/
section
open Go
variable {nro : Nat}
def rng (n : Nat) : List Int := (List.range n).map fun (i : Nat) => (i : Int)
@[simp] theorem rng_length (n : Nat) : (rng n).length = n := by simp [rng]
@[simp] theorem rng_zero : rng 0 = [] := rfl
theorem sli_part {h : VH} {b N : Nat} {r ys : List Int} (hb : h[b]? = some ⟨1, ints r⟩) (hr : r.length = N) (hy : r.take ys.length = ys) (hle : ys.length ≤ N) : Sli h (.slice (some ⟨b, 0, none⟩) ys.length N) ys := by
 have e : List.take ys.length (ints r) = ints ys := by
  conv => rhs; rw [← hy]
  unfold ints
  rw [List.map_take]
 unfold Sli Sl
 rw [vsrc_ref]
 dsimp only
 rw [hb]
 dsimp only
 rw [if_pos ⟨rfl, by rw [ints_length, hr], by omega⟩, Nat.mul_one, List.drop_zero, e, ints_length]
end

/- Colours told anew: the numbers from 0 on. -/
section
open Go
variable {nro : Nat}
theorem updL_updL (c : Nat → List Int) (i : Nat) (l l' : List Int) : updL (updL c i l) i l' = updL c i l' := by
 funext j
 unfold updL
 split <;> rfl
theorem updL_at (c : Nat → List Int) (i : Nat) (l : List Int) : updL c i l i = l := by simp [updL]
theorem updL_ne (c : Nat → List Int) {i j : Nat} (l : List Int) (h : j ≠ i) : updL c i l j = c j := by simp [updL, h]
theorem updL_self (c : Nat → List Int) (i : Nat) : updL c i (c i) = c := by
 funext j
 unfold updL
 split
 ·rename_i e; rw [e]
 ·rfl
section
variable {K n a bg bc : Nat} {q : Nat → Nat} {rs : Nat → Value} {rows : Nat → List Int} {gcs : List Value} {Hc : (Nat → List Int) → VH} (E : RG nro K n a bg bc q rs rows gcs Hc)
include E
section
variable {D Z : List Int} {N : Nat} (hDZ : (D ++ Z).length = N) (hN : N ≤ 200)
include hDZ hN
theorem l_compact_1 (cI c : Nat → List Int) (i : Nat) (hi : i < K) (hci : (c i).length = n) :
  ∃ l : List Int, l = (c i).map (fun x => idxF D x 0) ∧
  floop (vcall F nro) nro [2, 4, 19, 20, 21, 25, 26, 27] i_zz39_B1 (Hc c ++ [⟨1, ints (D ++ Z)⟩]) [.slice (some ⟨(Hc cI).length, 0, none⟩) D.length N, .slice (some ⟨q i, 0, none⟩) n n, .slice (some ⟨bc, 0, none⟩) K K, .int .i64 K, .int .i64 i, .slice (some ⟨q i, 0, none⟩) n n, .int .i64 n, .int .i64 0] (Hc c ++ [⟨1, ints (D ++ Z)⟩]) =
   some (.exit 2, fl [(2, .slice (some ⟨(Hc cI).length, 0, none⟩) D.length N), (19, .slice (some ⟨bc, 0, none⟩) K K), (20, .int .i64 K), (21, .int .i64 i)], Hc (updL c i l) ++ [⟨1, ints (D ++ Z)⟩]) := by
 have h62 : n ≤ 62 := (E.rok i hi).le
 have lq : ∀ d, q i < (Hc d).length := fun d => E.lq d hi
 have lbc : ∀ d, bc < (Hc d).length := fun d => E.lbc d
 have hlen := fun d => E.len d cI
 have nq := E.nq i hi
 refine Exists.elim (for_upR (call := vcall F nro) (nro := nro) (live := [2, 4, 19, 20, 21, 25, 26, 27]) (c := i_zz39_B1) (h0 := Hc c ++ [⟨1, ints (D ++ Z)⟩]) (n := n)
  (fun v (_ : List Int) => [.slice (some ⟨(Hc cI).length, 0, none⟩) D.length N, .slice (some ⟨q i, 0, none⟩) n n, .slice (some ⟨bc, 0, none⟩) K K, .int .i64 K, .int .i64 i, .slice (some ⟨q i, 0, none⟩) n n, .int .i64 n, .int .i64 v])
  (fun _ l => Hc (updL c i l) ++ [⟨1, ints (D ++ Z)⟩]) (fun v l => l.length = n ∧ ∀ u, u < n → l.getD u 0 = if u < v then idxF D ((c i).getD u 0) 0 else (c i).getD u 0)
  (fun l => some (.exit 2, fl [(2, .slice (some ⟨(Hc cI).length, 0, none⟩) D.length N), (19, .slice (some ⟨bc, 0, none⟩) K K), (20, .int .i64 K), (21, .int .i64 i)], Hc (updL c i l) ++ [⟨1, ints (D ++ Z)⟩])) ?_ ?_ 0 (c i) (Nat.zero_le _) ⟨hci, fun u hu => by rw [if_neg (by omega)]⟩) ?_
 ·rintro v l hv hv2 ⟨hl, hI⟩
  have hlv := hI v hv
  rw [if_neg (by omega)] at hlv
  refine ⟨l.set v (idxF D ((c i).getD v 0) 0), ⟨by rw [List.length_set, hl], fun u hu => ?_⟩, ?_⟩
  ·rw [set_getD (by omega)]
   by_cases e : u = v
   ·subst e; rw [if_pos rfl, if_pos (by omega)]
   ·rw [if_neg e, hI u hu]
    by_cases e2 : u < v
    ·rw [if_pos e2, if_pos (by omega)]
    ·rw [if_neg e2, if_neg (by omega)]
  ·have hb : (Hc (updL c i l) ++ [(⟨1, ints (D ++ Z)⟩ : VO)])[(Hc cI).length]? = some ⟨1, ints (D ++ Z)⟩ := by rw [← hlen (updL c i l), hget0]; rfl
   have sD := sli_part hb hDZ (ys := D) (by simp) (by rw [← hDZ]; simp)
   have k1 := c_slices_Index (nro := nro) _ D ((c i).getD v 0) _ sD (by rw [List.length_append] at hDZ; omega)
   have hq := E.lt (updL c i l) (E.aq (updL c i l) i hi) [⟨1, ints (D ++ Z)⟩]
   rw [updL_at] at hq
   have hset := E.setA (updL c i l) [⟨1, ints (D ++ Z)⟩] i (l.set v (idxF D ((c i).getD v 0) 0)) hi
   rw [updL_updL] at hset
   have tk := take1_ints (xs := l) (j := v) (by omega)
   have sp := splice_ints (xs := l) (j := v) (v := idxF D ((c i).getD v 0) 0) (by omega)
   rw [← getD_at, hlv] at tk
   have hil : (ints l).length = n := by rw [ints_length, hl]
   have hcl : ∀ vs, (∀ w ∈ vs, Old ((Hc cI).length + 1) w) → kclean (Hc c ++ [⟨1, ints (D ++ Z)⟩]) vs (Hc (updL c i (l.set v (idxF D ((c i).getD v 0) 0))) ++ [⟨1, ints (D ++ Z)⟩]) = (vs, Hc (updL c i (l.set v (idxF D ((c i).getD v 0) 0))) ++ [⟨1, ints (D ++ Z)⟩]) := fun vs hvs => by
    have := cleanup_upd (L := []) ((E.upd c (updL c i (l.set v (idxF D ((c i).getD v 0) 0)))).appR [⟨1, ints (D ++ Z)⟩]) (vs := vs) (by
     rw [List.length_append, E.len c cI]; exact hvs)
    rwa [List.append_nil] at this
   have w1 : IntKind.i64.wrap ((v : Int) + 1) = (v : Int) + 1 := wrap64 (by omega) (by omega)
   have lq1 : q i < (Hc cI).length := lq cI
   have lbc1 : bc < (Hc cI).length := lbc cI
   generalize idxF D ((c i).getD v 0) 0 = y at *
   generalize (c i).getD v 0 = x at *
   have hsi : (ints (l.set v y)).length = n := by rw [ints_length, List.length_set, hl]
   generalize Hc (updL c i (l.set v y)) ++ [(⟨1, ints (D ++ Z)⟩ : VO)] = G1 at *
   generalize Hc (updL c i l) ++ [(⟨1, ints (D ++ Z)⟩ : VO)] = G at *
   generalize Hc c ++ [(⟨1, ints (D ++ Z)⟩ : VO)] = G0 at *
   generalize (Hc cI).length = b at *
   clear E hI sD hb hlv hlen lq lbc
   rw [floop_at i_zz39_B1.eq_1]
   simp (disch := first | assumption | omega | (simp [*] <;> omega) | fail) [-getElem?_pos, List.getElem?_cons_zero, List.getElem?_cons_succ, hv, hv2, hq, hset, tk, sp, hil, k1, w1, hcl, nq, lq1, lbc1]
 ·rintro l _
  have lq1 : q i < (Hc cI).length := lq cI
  have lbc1 : bc < (Hc cI).length := lbc cI
  have e0 : (Hc c ++ [(⟨1, ints (D ++ Z)⟩ : VO)]).length = (Hc cI).length + 1 := by rw [List.length_append, E.len c cI]; rfl
  generalize Hc (updL c i l) ++ [(⟨1, ints (D ++ Z)⟩ : VO)] = G at *
  generalize Hc c ++ [(⟨1, ints (D ++ Z)⟩ : VO)] = G0 at *
  generalize (Hc cI).length = b at *
  rw [floop_at i_zz39_B1.eq_1]
  clear E hlen lq lbc
  simp (disch := first | assumption | omega | (simp [*] <;> omega) | fail) [-getElem?_pos, List.getElem?_cons_zero, List.getElem?_cons_succ, lq1, lbc1, e0]
 ·rintro l ⟨⟨h1, h2⟩, hf⟩
  refine ⟨(c i).map (fun x => idxF D x 0), rfl, ?_⟩
  have e : l = (c i).map (fun x => idxF D x 0) := by
   apply List.ext_getElem (by simp [h1, hci])
   intro u p1 p2
   have := h2 u (by omega)
   rw [if_pos (by omega), getD_at _ p1, getD_at _ (by omega)] at this
   rw [this]
   simp
  rw [← e]
  rw [updL_self] at hf
  exact hf
theorem l_compact_2 (cI : Nat → List Int) (hci : ∀ i, i < K → (cI i).length = n) :
  ∃ c' : Nat → List Int, (∀ i, i < K → c' i = (cI i).map (fun x => idxF D x 0)) ∧
  floop (vcall F nro) nro [2, 19, 20, 21] i_zz39_B2 (Hc cI ++ [⟨1, ints (D ++ Z)⟩]) [.slice (some ⟨(Hc cI).length, 0, none⟩) D.length N, .slice (some ⟨bc, 0, none⟩) K K, .int .i64 K, .int .i64 0] (Hc cI ++ [⟨1, ints (D ++ Z)⟩]) =
   some (.exit 0, fl [], Hc c' ++ [⟨1, ints (D ++ Z)⟩]) := by
 have hK2 := E.K2
 have lbc : ∀ d, bc < (Hc d).length := fun d => E.lbc d
 have hlen := fun d => E.len d cI
 refine Exists.elim (for_upR (call := vcall F nro) (nro := nro) (live := [2, 19, 20, 21]) (c := i_zz39_B2) (h0 := Hc cI ++ [⟨1, ints (D ++ Z)⟩]) (n := K)
  (fun i (_ : Nat → List Int) => [.slice (some ⟨(Hc cI).length, 0, none⟩) D.length N, .slice (some ⟨bc, 0, none⟩) K K, .int .i64 K, .int .i64 i])
  (fun _ c => Hc c ++ [⟨1, ints (D ++ Z)⟩]) (fun i c => ∀ j, j < K → c j = if j < i then (cI j).map (fun x => idxF D x 0) else cI j)
  (fun c => some (.exit 0, fl [], Hc c ++ [⟨1, ints (D ++ Z)⟩])) ?_ ?_ 0 cI (Nat.zero_le _) (fun j hj => by rw [if_neg (by omega)])) ?_
 ·rintro i c hi hi2 hI
  have hcl0 := hI i hi
  rw [if_neg (by omega)] at hcl0
  obtain ⟨l, hl, l1⟩ := l_compact_1 (nro := nro) E hDZ hN cI c i hi (by rw [hcl0]; exact hci i hi)
  refine ⟨updL c i l, fun j hj => ?_, ?_⟩
  ·by_cases e : j = i
   ·subst e; rw [updL_at, if_pos (by omega), hl, hcl0]
   ·rw [updL_ne _ _ e, hI j hj]
    by_cases e2 : j < i
    ·rw [if_pos e2, if_pos (by omega)]
    ·rw [if_neg e2, if_neg (by omega)]
  ·have hac := E.lt c (E.ac c) [⟨1, ints (D ++ Z)⟩]
   have hcc := E.ccell i hi
   have haq := E.lt c (E.aq c i hi) [⟨1, ints (D ++ Z)⟩]
   rw [hcl0] at haq
   have hil : (ints (cI i)).length = n := by rw [ints_length, hci i hi]
   have lq1 : q i < (Hc cI).length := E.lq cI hi
   have lbc1 : bc < (Hc cI).length := lbc cI
   have w1 : IntKind.i64.wrap ((i : Int) + 1) = (i : Int) + 1 := wrap64 (by omega) (by omega)
   have hcl : ∀ vs, (∀ w ∈ vs, Old ((Hc cI).length + 1) w) → kclean (Hc cI ++ [⟨1, ints (D ++ Z)⟩]) vs (Hc (updL c i l) ++ [⟨1, ints (D ++ Z)⟩]) = (vs, Hc (updL c i l) ++ [⟨1, ints (D ++ Z)⟩]) := fun vs hvs => by
    have := cleanup_upd (L := []) ((E.upd cI (updL c i l)).appR [⟨1, ints (D ++ Z)⟩]) (vs := vs) (by
     rw [List.length_append]; exact hvs)
    rwa [List.append_nil] at this
   have e0 : (Hc c ++ [(⟨1, ints (D ++ Z)⟩ : VO)]).length = (Hc cI).length + 1 := by rw [List.length_append, E.len c cI]; rfl
   obtain ⟨cl, hclx⟩ : ∃ cl, cl = (List.range K).map fun i => (Value.slice (some ⟨q i, 0, none⟩) n n) := ⟨_, rfl⟩
   have hcll : cl.length = K := by rw [hclx]; simp
   rw [← hclx] at hac hcc
   generalize Hc (updL c i l) ++ [(⟨1, ints (D ++ Z)⟩ : VO)] = G1 at *
   generalize Hc c ++ [(⟨1, ints (D ++ Z)⟩ : VO)] = G at *
   generalize Hc cI ++ [(⟨1, ints (D ++ Z)⟩ : VO)] = G0 at *
   generalize (Hc cI).length = b at *
   clear E hI hl hlen lbc hcl0 hci hclx
   rw [floop_at i_zz39_B2.eq_1]
   simp (disch := first | assumption | omega | (simp [*] <;> omega) | fail) [-getElem?_pos, List.getElem?_cons_zero, List.getElem?_cons_succ, hi, hi2, hac, hcc, haq, hil, hcll, l1, w1, hcl, lq1, lbc1, e0]
 ·rintro c _
  rw [floop_at i_zz39_B2.eq_1]
  generalize Hc c ++ [(⟨1, ints (D ++ Z)⟩ : VO)] = G at *
  generalize Hc cI ++ [(⟨1, ints (D ++ Z)⟩ : VO)] = G0 at *
  clear E hlen lbc
  simp (disch := first | assumption | omega | (simp [*] <;> omega) | fail) [-getElem?_pos, List.getElem?_cons_zero, List.getElem?_cons_succ, ]
 ·rintro c ⟨h1, hf⟩
  refine ⟨c, fun i hi => ?_, hf⟩
  rw [h1 i hi, if_pos hi]
end
def allC (K : Nat) (c : Nat → List Int) : List Int := ((List.range K).map c).flatten
def dstC (K : Nat) (c : Nat → List Int) : List Int := ddN (insS 0 (allC K c).length (allC K c)) (allC K c).length
theorem allC_len (c : Nat → List Int) (hc : ∀ i, i < K → (c i).length = n) : (allC K c).length = K * n := by
 have e : ∀ k, k ≤ K → (((List.range k).map c).flatten).length = k * n := by
  intro k
  induction k with
  | zero => simp
  | succ k ih =>
   intro hk
   rw [List.range_succ, List.map_append, List.flatten_append, List.length_append, ih (by omega)]
   simp [hc k (by omega), Nat.add_mul]
 exact e K (Nat.le_refl _)
theorem c_zz39 (c : Nat → List Int) (hc : ∀ i, i < K → (c i).length = n) :
  ∃ c' : Nat → List Int, (∀ i, i < K → c' i = (c i).map (fun x => idxF (dstC K c) x 0)) ∧ vcall F nro k_zz39 [.pointer (some ⟨a, 0, some 2⟩)] (Hc c) = some (.tuple #[], Hc c') := by
 have hK1 := E.K1
 have hK2 := E.K2
 have hn1 := E.n1
 have h62 : n ≤ 62 := (E.rok 0 (by omega)).le
 have hnr := E.nr c
 have hal := allC_len E c hc
 have hal1 : 1 ≤ K * n := Nat.mul_le_mul hK1 hn1
 have hal2 : K * n ≤ 2 * 62 := Nat.mul_le_mul hK2 h62
 have hLL : LL (Hc c) (.slice (some ⟨bc, 0, none⟩) K K) ((List.range K).map c) := by
  refine ⟨(List.range K).map fun i => .slice (some ⟨q i, 0, none⟩) n n, by simp, ?_, fun i hi => ?_⟩
  ·unfold Sl
   rw [vsrc_ref]
   simp only [E.ac c]
   simp
   exact List.take_of_length_le (by simp)
  ·have hi' : i < K := by simpa using hi
   have := sli_at (E.aq c i hi')
   rw [hc i hi'] at this
   rw [getD_atG (by simpa using hi')]
   simpa using this
 have k1 := c_slices_Concat (nro := nro) hLL hnr (by show 1 ≤ (allC K c).length; omega) (by show (allC K c).length ≤ 4000; omega) (by simp; omega)
 have k1 : vcall F nro k_zz31 [.slice (some ⟨bc, 0, none⟩) K K] (Hc c) = some (.slice (some ⟨(Hc c).length, 0, none⟩) (allC K c).length (allC K c).length, Hc c ++ [⟨1, ints (allC K c)⟩]) := k1
 have k2 := c_Sort (nro := nro) (G := Hc c ++ [⟨1, ints (allC K c)⟩]) (blk := (Hc c).length) (xs := allC K c) (by simp) hnr (by omega)
 have hsl : (insS 0 (allC K c).length (allC K c)).length = (allC K c).length := insS_length _ _ _
 have k3 := c_Compact (nro := nro) (G := Hc c ++ [⟨1, ints (insS 0 (allC K c).length (allC K c))⟩]) (blk := (Hc c).length) (xs := insS 0 (allC K c).length (allC K c)) (by simp) hnr (by omega) (by omega)
 rw [hsl] at k3
 have hdl : (dstC K c).length ≤ (allC K c).length := ddN_le _ _
 have k3 : vcall F nro k_zz26 [.slice (some ⟨(Hc c).length, 0, none⟩) (allC K c).length (allC K c).length] (Hc c ++ [⟨1, ints (insS 0 (allC K c).length (allC K c))⟩]) = some (.slice (some ⟨(Hc c).length, 0, none⟩) (dstC K c).length (allC K c).length, (Hc c ++ [(⟨1, ints (insS 0 (allC K c).length (allC K c))⟩ : VO)]).set (Hc c).length ⟨1, ints (dstC K c ++ List.replicate ((allC K c).length - (dstC K c).length) 0)⟩) := k3
 obtain ⟨c', h1, l2⟩ := l_compact_2 (nro := nro) E (D := dstC K c) (Z := List.replicate ((allC K c).length - (dstC K c).length) 0) (N := (allC K c).length) (by simp; omega) (by omega) c hc
 refine ⟨c', h1, ?_⟩
 have lax := E.lax c
 have lbc := E.lbc c
 have hax := E.ax c
 have hax' := fun L => E.lt c (E.ax c) L
 have hac := fun L => E.lt c (E.ac c) L
 have hfin : ∀ L : VH, kclean (Hc c) [.tuple #[]] (Hc c' ++ L) = ([.tuple #[]], Hc c') := fun L => cleanup_upd (E.upd c c') (by intro w hw; simp at hw; subst hw; intro r hr; simp [trefs, vrefs, crefs, arefs] at hr)
 have hn' := fun k => Nat.le_trans hnr (Nat.le_add_right (Hc c).length k)
 obtain ⟨cl, hclx⟩ : ∃ cl, cl = (List.range K).map fun i => (Value.slice (some ⟨q i, 0, none⟩) n n) := ⟨_, rfl⟩
 have hcll : cl.length = K := by rw [hclx]; simp
 rw [← hclx] at hac
 refine v_zz39 (by simp [i_zz39]) ?_
 rw [fbody_eq]
 generalize insS 0 (allC K c).length (allC K c) = u1 at *
 generalize dstC K c ++ List.replicate ((allC K c).length - (dstC K c).length) 0 = u2 at *
 generalize (dstC K c).length = d at *
 generalize allC K c = u0 at *
 generalize u0.length = N at *
 generalize Hc c' = Y at *
 clear E hLL h1 hc hclx hsl
 generalize Hc c = X at *
 simp at k2 k3
 simp (disch := first | assumption | omega | (simp [*] <;> omega) | fail) [-getElem?_pos, List.getElem?_cons_zero, List.getElem?_cons_succ, i_zz39, hax, hax', hac, hcll, k1, k2, k3, l2, hfin, hn', hnr, lax, lbc, fresults, fresL, fres1]
end
end

/- Renumberings that lead vertices to others. -/
section
open Go
open Classical
variable {nro : Nat}
theorem mem_allC {K : Nat} {c : Nat → List Int} {x : Int} : x ∈ allC K c ↔ ∃ i, i < K ∧ x ∈ c i := by
 unfold allC
 rw [List.mem_flatten]
 constructor
 ·rintro ⟨l, hl, hx⟩
  obtain ⟨i, hi, rfl⟩ := List.mem_map.mp hl
  exact ⟨i, List.mem_range.mp hi, hx⟩
 ·rintro ⟨i, hi, hx⟩
  exact ⟨c i, List.mem_map.mpr ⟨i, List.mem_range.mpr hi, rfl⟩, hx⟩
theorem dstC_ok {K : Nat} {c : Nat → List Int} : (dstC K c).Pairwise (· < ·) ∧ ∀ x, x ∈ dstC K c ↔ x ∈ allC K c := by
 have hs := insS_sorted (a := 0) (b := (allC K c).length) (xs := allC K c) (Nat.le_refl _)
 have hl : (insS 0 (allC K c).length (allC K c)).length = (allC K c).length := insS_length _ _ _
 obtain ⟨h1, h2⟩ := ddN_ok (xs := insS 0 (allC K c).length (allC K c)) (by rw [hl]; exact hs) (allC K c).length (by rw [hl]; exact Nat.le_refl _)
 refine ⟨h1, fun x => (h2 x).trans ?_⟩
 have hp := insS_perm (a := 0) (b := (allC K c).length) (xs := allC K c) (Nat.le_refl _)
 rw [← hp.mem_iff]
 constructor
 ·rintro ⟨q, hq, rfl⟩
  rw [getD_at _ (by omega)]
  exact List.getElem_mem _
 ·intro hx
  obtain ⟨q, hq, e⟩ := List.getElem_of_mem hx
  exact ⟨q, by omega, by rw [getD_at _ hq]; exact e⟩
theorem idx_of {D : List Int} {x : Int} (hx : x ∈ D) : 0 ≤ idxF D x 0 ∧ idxF D x 0 < D.length ∧ D.getD (idxF D x 0).toNat 0 = x := by
 obtain ⟨i0, i3⟩ := idxF_neg D x _ 0 rfl
 have h0 : ¬ idxF D x 0 < 0 := fun hneg => by
  obtain ⟨j, hj, hje⟩ := List.getElem_of_mem hx
  exact i0 hneg j (Nat.zero_le _) hj (by rw [getD_at _ hj]; exact hje)
 obtain ⟨i1, i2⟩ := i3 h0
 exact ⟨by omega, i1, i2⟩
theorem idx_inj {D : List Int} {x y : Int} (hx : x ∈ D) (hy : y ∈ D) : idxF D x 0 = idxF D y 0 ↔ x = y := by
 refine ⟨fun e => ?_, fun e => by rw [e]⟩
 have h1 := (idx_of hx).2.2
 rw [e, (idx_of hy).2.2] at h1
 exact h1.symm
theorem idx_at {D : List Int} (hp : D.Pairwise (· < ·)) {k : Nat} (hk : k < D.length) : idxF D D[k] 0 = k := by
 obtain ⟨h1, h2, h3⟩ := idx_of (List.getElem_mem hk)
 have hb : (idxF D D[k] 0).toNat < D.length := by omega
 rw [getD_at _ hb] at h3
 have hpe := List.pairwise_iff_getElem.mp hp
 rcases Nat.lt_trichotomy (idxF D D[k] 0).toNat k with c | c | c
 ·have := hpe _ _ hb hk c; omega
 ·omega
 ·have := hpe _ _ hk hb c; omega
section
variable {K n : Nat} {c c' : Nat → List Int} (hl : ∀ i, i < K → (c i).length = n) (hc : ∀ i, i < K → c' i = (c i).map (fun x => idxF (dstC K c) x 0))
include hl hc
theorem comp_getD {i v : Nat} (hi : i < K) (hv : v < n) : (c' i).getD v 0 = idxF (dstC K c) ((c i).getD v 0) 0 ∧ (c i).getD v 0 ∈ dstC K c := by
 have h1 := hl i hi
 refine ⟨?_, (dstC_ok.2 _).mpr (mem_allC.mpr ⟨i, hi, ?_⟩)⟩
 ·rw [hc i hi, getD_at _ (by simp; omega), getD_at _ (by omega)]
  simp
 ·rw [getD_at _ (by omega)]
  exact List.getElem_mem _
theorem comp_eq {i v j w : Nat} (hi : i < K) (hv : v < n) (hj : j < K) (hw : w < n) : (c' i).getD v 0 = (c' j).getD w 0 ↔ (c i).getD v 0 = (c j).getD w 0 := by
 obtain ⟨a1, a2⟩ := comp_getD hl hc hi hv
 obtain ⟨b1, b2⟩ := comp_getD hl hc hj hw
 rw [a1, b1]
 exact idx_inj a2 b2
theorem comp_ok (hn : 1 ≤ n) (hK : 1 ≤ K) (hK2 : K ≤ 2) (hn62 : n ≤ 62) : CL K n c' ∧ SurC K n c' := by
 have hlen : ∀ i, i < K → (c' i).length = n := fun i hi => by rw [hc i hi, List.length_map, hl i hi]
 have hal : (allC K c).length = K * n := by
  have e : ∀ k, k ≤ K → (((List.range k).map c).flatten).length = k * n := by
   intro k
   induction k with
   | zero => simp
   | succ k ih =>
    intro hk
    rw [List.range_succ, List.map_append, List.flatten_append, List.length_append, ih (by omega)]
    simp [hl k (by omega), Nat.add_mul]
  exact e K (Nat.le_refl _)
 have hD : (dstC K c).length ≤ K * n := by rw [← hal]; exact ddN_le _ _
 have hKn : K * n ≤ 2 * 62 := Nat.mul_le_mul hK2 hn62
 have hge : ∀ i, i < K → ∀ x ∈ c' i, 0 ≤ x ∧ x < (dstC K c).length := fun i hi x hx => by
  obtain ⟨v, hv, rfl⟩ := List.getElem_of_mem hx
  have hv2 : v < n := by rw [← hlen i hi]; exact hv
  obtain ⟨a1, a2⟩ := comp_getD hl hc hi hv2
  rw [← getD_at _ hv, a1]
  obtain ⟨b1, b2, _⟩ := idx_of a2
  exact ⟨b1, b2⟩
 have C : CL K n c' := ⟨hlen, fun i hi x hx => ⟨(hge i hi x hx).1, by have := (hge i hi x hx).2; omega⟩⟩
 have hD1 : 1 ≤ (dstC K c).length := by
  have hx : (c' 0).getD 0 0 ∈ c' 0 := C.getD (by omega) (by omega)
  have := hge 0 (by omega) _ hx
  omega
 refine ⟨C, fun x h0 h1 => ?_⟩
 have hm : manyN K c' ≤ (dstC K c).length := by
  have := (mxK_le c' ((dstC K c).length - 1) (by omega) K (fun i hi => C.ne hn i hi)).mpr (fun i hi x hx => by have := (hge i hi x hx).2; omega)
  have := mxK_ge c' K
  unfold manyN
  omega
 obtain ⟨k, rfl⟩ : ∃ k : Nat, x = k := ⟨_, (Int.toNat_of_nonneg h0).symm⟩
 have hk : k < (dstC K c).length := by omega
 have hmem := (dstC_ok.2 _).mp (List.getElem_mem hk)
 obtain ⟨i, hi, hxi⟩ := mem_allC.mp hmem
 obtain ⟨v, hv, e⟩ := List.getElem_of_mem hxi
 have hv2 : v < n := by rw [← hl i hi]; exact hv
 refine ⟨i, v, hi, hv2, ?_⟩
 rw [(comp_getD hl hc hi hv2).1, getD_at _ hv, e, idx_at dstC_ok.1 hk]
end
theorem comp_iso {rows : Nat → List Int} {n : Nat} {c c' : Nat → List Int} (hl : ∀ i, i < 2 → (c i).length = n) (hc : ∀ i, i < 2 → c' i = (c i).map (fun x => idxF (dstC 2 c) x 0)) (p : Nat → Nat) : Iso rows n c p ↔ Iso rows n c' p := by
 constructor
 ·intro I
  exact ⟨I.lt, I.inj, I.adj, fun v hv => (comp_eq hl hc (i := 0) (j := 1) (by omega) hv (by omega) (I.lt v hv)).mpr (I.col v hv)⟩
 ·intro I
  exact ⟨I.lt, I.inj, I.adj, fun v hv => (comp_eq hl hc (i := 0) (j := 1) (by omega) hv (by omega) (I.lt v hv)).mp (I.col v hv)⟩
def mkF (n : Nat) (F : List Int) : Nat → List Int
 | 0 => List.replicate n 0
 | k + 1 => (mkF n F k).set (F.getD k 0).toNat ((k : Int) + 1)
theorem mkF_len (n : Nat) (F : List Int) : ∀ k, (mkF n F k).length = n
 | 0 => by simp [mkF]
 | k + 1 => by simp [mkF, mkF_len n F k]
def mkC (n : Nat) (Fr To : List Int) : Nat → List Int := fun i => if i = 0 then mkF n Fr Fr.length else mkF n To Fr.length
abbrev hM (h : VH) (n : Nat) (s t : Value) (d : Nat → List Int) : VH := h ++ [⟨0, [.int .i64 n, s]⟩, ⟨0, [.int .i64 n, t]⟩, ⟨1, ints (d 0)⟩, ⟨1, ints (d 1)⟩, ⟨1, [.slice (some ⟨h.length + 2, 0, none⟩) n n, .slice (some ⟨h.length + 3, 0, none⟩) n n]⟩, ⟨2, [.int .i64 n, s, .int .i64 n, t]⟩, ⟨0, [.slice (some ⟨h.length + 5, 0, none⟩) 2 4, .slice (some ⟨h.length + 4, 0, none⟩) 2 2]⟩]
section
variable {h : VH} {n : Nat} {s t : Value} {r0 r1 : List Int} (hs : Sli h s r0) (ht : Sli h t r1) (R0 : Rok n r0) (R1 : Rok n r1) (hn1 : 1 ≤ n) (hn : nro ≤ h.length)
include hs ht R0 R1 hn1 hn
theorem rg_map : RG nro 2 n (h.length + 6) (h.length + 5) (h.length + 4) (fun i => h.length + 2 + i) (fun i => if i = 0 then s else t) (fun i => if i = 0 then r0 else r1) [.int .i64 n, s, .int .i64 n, t] (hM h n s t) where
  nr c := by unfold hM; simp; omega
  nq i hi := by omega
  len c c' := by simp [hM]
  upd c c' := by
    have e : hM h n s t c' = ((hM h n s t c).set (h.length + 2) ⟨1, ints (c' 0)⟩).set (h.length + 3) ⟨1, ints (c' 1)⟩ := by unfold hM; rw [hsetk, hsetk]; rfl
    rw [e]
    exact ((Upd.rfl' _).set' (flatO_ints _ _ _)).set' (flatO_ints _ _ _)
  ax c := by unfold hM; rw [hgetk]; rfl
  ag c := by unfold hM; rw [hgetk]; rfl
  gl := rfl
  ga i hi := by rcases (show i = 0 ∨ i = 1 by omega) with rfl | rfl <;> exact ⟨rfl, rfl⟩
  ac c := by unfold hM; rw [hgetk]; rfl
  aq c i hi := by rcases (show i = 0 ∨ i = 1 by omega) with rfl | rfl <;> (unfold hM; rw [Nat.add_assoc, hgetk]; rfl)
  st c i l hi := by rcases (show i = 0 ∨ i = 1 by omega) with rfl | rfl <;> (unfold hM; rw [Nat.add_assoc, hsetk]; rfl)
  rr c i hi := by rcases (show i = 0 ∨ i = 1 by omega) with rfl | rfl
                  · exact hs.app _
                  · exact ht.app _
  rok i hi := by rcases (show i = 0 ∨ i = 1 by omega) with rfl | rfl
                 · exact R0
                 · exact R1
  n1 := hn1
  K1 := by omega
  K2 := by omega
variable {fs ts : Value} {Fr To : List Int} (hf : Sli h fs Fr) (htt : Sli h ts To) (hFT : Fr.length ≤ To.length) (hFl : Fr.length ≤ 1000) (hFr : ∀ i, i < Fr.length → 0 ≤ Fr.getD i 0 ∧ Fr.getD i 0 < n ∧ 0 ≤ To.getD i 0 ∧ To.getD i 0 < n)
include hf htt hFT hFl hFr
theorem l_zz63 : floop (vcall F nro) nro [3, 9, 29, 30, 31] i_zz63_B1 (hM h n s t (fun _ => List.replicate n 0)) [ts, .pointer (some ⟨h.length + 6, 0, some 2⟩), fs, .int .i64 Fr.length, .int .i64 0] (hM h n s t (fun _ => List.replicate n 0)) =
  some (.exit 0, fl [(9, .pointer (some ⟨h.length + 6, 0, some 2⟩))], hM h n s t (mkC n Fr To)) := by
 have key := for_up (call := vcall F nro) (nro := nro) (live := [3, 9, 29, 30, 31]) (c := i_zz63_B1) (h0 := hM h n s t (fun _ => List.replicate n 0)) (n := Fr.length)
  (fun i (_ : Unit) => [ts, .pointer (some ⟨h.length + 6, 0, some 2⟩), fs, .int .i64 Fr.length, .int .i64 i]) (fun i _ => hM h n s t (fun j => if j = 0 then mkF n Fr i else mkF n To i)) (fun _ u => u) (fun _ _ => True)
  (fun _ => some (.exit 0, fl [(9, .pointer (some ⟨h.length + 6, 0, some 2⟩))], hM h n s t (mkC n Fr To))) (fun i u hi hi2 _ => ⟨trivial, ?_⟩) (fun u _ => ?_) 0 () (by omega) trivial
 ·have e0 : (fun j : Nat => if j = 0 then mkF n Fr 0 else mkF n To 0) = fun _ => List.replicate n 0 := by
   funext j
   split <;> rfl
  have := key.1
  simp only [e0, Int.natCast_zero] at this
  exact this
 ·obtain ⟨f1, f2, f3, f4⟩ := hFr i hi
  have fx := fun L => (hf.app L).vidx (k := .i64) (j := (i : Int)) (by omega) (by omega)
  have fl_ := fun L => (hf.app L).vload hi
  have tx := fun L => (htt.app L).vidx (k := .i64) (j := (i : Int)) (by omega) (by omega)
  have tl := fun L => (htt.app L).vload (j := i) (by omega)
  rw [← getD_at] at tl fl_
  simp only [Int.toNat_natCast] at fx tx
  obtain ⟨x, hx⟩ : ∃ x : Nat, Fr.getD i 0 = x := ⟨_, (Int.toNat_of_nonneg f1).symm⟩
  obtain ⟨y, hy⟩ : ∃ y : Nat, To.getD i 0 = y := ⟨_, (Int.toNat_of_nonneg f3).symm⟩
  have g2 : x < n := by rw [hx] at f2; omega
  have g4 : y < n := by rw [hy] at f4; omega
  have m0 := mkF_len n Fr i
  have m1 := mkF_len n To i
  have e1 : mkF n Fr (i + 1) = (mkF n Fr i).set x ((i : Int) + 1) := by rw [mkF, hx, Int.toNat_natCast]
  have e2 : mkF n To (i + 1) = (mkF n To i).set y ((i : Int) + 1) := by rw [mkF, hy, Int.toNat_natCast]
  rw [hx] at f2
  rw [hy] at f4
  simp only [hx] at fl_
  simp only [hy] at tl
  have w1 : IntKind.i64.wrap ((i : Int) + 1) = (i : Int) + 1 := wrap64 (by omega) (by omega)
  have sp0 := splice_ints (xs := mkF n Fr i) (j := x) (v := (i : Int) + 1) (by omega)
  have sp1 := splice_ints (xs := mkF n To i) (j := y) (v := (i : Int) + 1) (by omega)
  have i0 : (ints (mkF n Fr i)).length = n := by rw [ints_length, m0]
  have i1 : (ints (mkF n To i)).length = n := by rw [ints_length, m1]
  have i2 : (ints ((mkF n Fr i).set x ((i : Int) + 1))).length = n := by rw [ints_length, List.length_set, m0]
  have of := fun k => hf.oldk (k := k)
  have ot := fun k => htt.oldk (k := k)
  have hcl := fun vs (hv : ∀ w ∈ vs, Old (hM h n s t (fun _ => List.replicate n 0)).length w) => cleanup_upd (L := []) ((rg_map (nro := nro) hs ht R0 R1 hn1 hn).upd (fun _ => List.replicate n 0) (fun j => if j = 0 then mkF n Fr (i + 1) else mkF n To (i + 1))) (vs := vs) hv
  simp only [List.append_nil] at hcl
  unfold hM at hcl ⊢
  simp only [if_pos, if_neg, Nat.one_ne_zero, not_false_eq_true, if_true, if_false] at hcl ⊢
  rw [e1, e2] at hcl ⊢
  have hn' := fun k => Nat.le_trans hn (Nat.le_add_right h.length k)
  generalize (mkF n Fr i).set x ((i : Int) + 1) = A1 at *
  generalize (mkF n To i).set y ((i : Int) + 1) = B1 at *
  generalize mkF n Fr i = A at *
  generalize mkF n To i = B at *
  generalize List.replicate n (0 : Int) = z at *
  simp at hcl
  clear hFr hf htt e1 e2 hs ht R0 R1
  rw [floop_at i_zz63_B1.eq_1]
  simp (disch := first | assumption | omega | (simp [*] <;> omega) | fail) [hi, hi2, fx, fl_, tx, tl, w1, sp0, sp1, i0, i1, i2, of, ot, hcl, hn', hn, g2, g4]
 ·have e0 : (fun j : Nat => if j = 0 then mkF n Fr Fr.length else mkF n To Fr.length) = mkC n Fr To := rfl
  rw [e0, floop_at i_zz63_B1.eq_1]
  have of := fun k => hf.oldk (k := k)
  have ot := fun k => htt.oldk (k := k)
  unfold hM
  clear hFr hf htt hs ht R0 R1
  simp (disch := first | assumption | omega | (simp [*] <;> omega) | fail) [of, ot]
theorem c_zz63 : ∃ pv L, vcall F nro k_zz63 [gv n s, gv n t, fs, ts] h = some (pv, h ++ L) ∧ MapRes (fun i => if i = 0 then r0 else r1) n (mkC n Fr To) h.length pv L := by
 have hn' := fun k => Nat.le_trans hn (Nat.le_add_right h.length k)
 have h62 := R0.le
 have E := rg_map (nro := nro) hs ht R0 R1 hn1 hn
 have l1 := l_zz63 (nro := nro) hs ht R0 R1 hn1 hn hf htt hFT hFl hFr
 have hlC : ∀ i, i < 2 → (mkC n Fr To i).length = n := fun i hi => by unfold mkC; split <;> exact mkF_len _ _ _
 obtain ⟨c1, d1, d2⟩ := c_zz39 E (mkC n Fr To) hlC
 obtain ⟨C, S⟩ := comp_ok hlC d1 hn1 (by omega) (by omega) h62
 obtain ⟨c2, pv, L, m1, m2⟩ := map_ok (nro := nro) _ E c1 C S (Nat.le_refl _)
 have hiso := comp_iso (rows := fun i => if i = 0 then r0 else r1) hlC d1
 have hl7 : (hM h n s t c1).length = h.length + 7 := by unfold hM; simp
 rw [hl7] at m2
 have ln := fun L => (hf.app L).vlen
 have of := fun k => hf.oldk (k := k)
 have ot := fun k => htt.oldk (k := k)
 have sj := hs.nj
 have tj := ht.nj
 have e8 : 8 * (n : Int) ≤ 140737488355328 := by omega
 have e9 : (n : Int) ≤ 140737488355328 := by omega
 have hz1 : List.replicate n (Value.int .i64 0) = ints (List.replicate n 0) := by unfold ints; rw [List.map_replicate]
 unfold hM at l1 d2 m1
 simp only at l1
 generalize mkC n Fr To = cc at *
 generalize hzz : List.replicate n (0 : Int) = z at *
 have hnil : ∀ L : VH, kclean h [.slice none 0 0] (h ++ L) = ([.slice none 0 0], h) := fun L => cleanup_upd (Upd.rfl' h) (by intro w hw; simp at hw; subst hw; intro r hr; simp [trefs, vrefs, crefs, arefs] at hr)
 rcases m2 with ⟨rfl, rfl, hno⟩ | ⟨p, rfl, rfl, p1, p2, p3⟩
 ·refine ⟨.slice none 0 0, [], ?_, .inl ⟨rfl, rfl, fun hi => hno (hi.elim fun p I => ⟨p, (hiso p).mp I⟩)⟩⟩
  refine v_zz63 (by simp [i_zz63]) ?_
  rw [fbody_eq]
  simp at l1 d2 m1 sj tj
  clear E C S d1 hiso hno hlC hs ht R0 R1 hf htt hFr hzz
  simp (disch := first | assumption | omega | (simp [*] <;> omega) | fail) [i_zz63, ln, of, ot, l1, d2, m1, hnil, e8, e9, hz1, sj, tj, hn', hn, fresults, fresL, fres1]
 ·refine ⟨.slice (some ⟨h.length, 0, none⟩) n n, [⟨1, ints p⟩], ?_, .inr ⟨p, rfl, rfl, p1, p2, (hiso _).mpr p3⟩⟩
  have hfin : ∀ (L : VH), L[7]? = some ⟨1, ints p⟩ → kclean h [.slice (some ⟨h.length + 7, 0, none⟩) n n] (h ++ L) = ([.slice (some ⟨h.length, 0, none⟩) n n], h ++ [⟨1, ints p⟩]) := fun L hL => by
   rw [cleanup_one_upd (Upd.rfl' h) (k := 7) (by simp [trefs, vrefs, crefs, arefs]) hL (flatO_ints _ _ _)]
   simp [tren, vren, cren, aren, renOf_one]
  have hfin2 := hfin _ (show ([⟨0, [.int .i64 n, s]⟩, ⟨0, [.int .i64 n, t]⟩, ⟨1, ints (c2 0)⟩, ⟨1, ints (c2 1)⟩, ⟨1, [.slice (some ⟨h.length + 2, 0, none⟩) n n, .slice (some ⟨h.length + 3, 0, none⟩) n n]⟩, ⟨2, [.int .i64 n, s, .int .i64 n, t]⟩, ⟨0, [.slice (some ⟨h.length + 5, 0, none⟩) 2 4, .slice (some ⟨h.length + 4, 0, none⟩) 2 2]⟩, ⟨1, ints p⟩] : VH)[7]? = some ⟨1, ints p⟩ from rfl)
  refine v_zz63 (by simp [i_zz63]) ?_
  rw [fbody_eq]
  simp at l1 d2 m1 sj tj
  clear E C S d1 hiso hlC hs ht R0 R1 hf htt hFr hzz hfin p2 p3
  simp (disch := first | assumption | omega | (simp [*] <;> omega) | fail) [i_zz63, ln, of, ot, l1, d2, m1, hfin2, e8, e9, hz1, sj, tj, p1, hn', hn, fresults, fresL, fres1]
end
end

/- Covers; the law of IsCover. -/
section
open Go
variable {nro : Nat}
abbrev cH (h : VH) (n : Int) (s : Value) (m : Int) (t : Value) : VH := h ++ [⟨0, [.int .i64 n, s]⟩, ⟨0, [.int .i64 m, t]⟩]
theorem Sli.nj {h : VH} {v : Value} {xs : List Int} (hs : Sli h v xs) : isJunk v = false := by
 cases v <;> first | rfl | (simp [Sli, Sl, vsrc] at hs)
theorem c_impl_areGraphs2 (n m : Int) (s t : Value) (rows hrows : List Int) (b : Nat) (h : VH) (hs : Sli h s rows) (ht : Sli h t hrows) (hb : h[b]? = some ⟨2, [.int .i64 n, s, .int .i64 m, t]⟩) (hn : nro ≤ h.length) :
  vcall F nro k_zz55 [.slice (some ⟨b, 0, none⟩) 2 4] h = some (.bool (open Classical in decide (GV n rows ∧ GV m hrows)), h) := by
 refine v_zz55 (by simp [i_zz55]) ?_
 rw [fbody_eq]
 have hbl := (List.getElem?_eq_some_iff.mp hb).1
 have ho : ∀ k, Old (h.length + k) (.slice (some ⟨b, 0, none⟩) 2 4) := fun k r hr => by simp [trefs, vrefs, crefs, arefs] at hr; omega
 have ho0 : Old h.length (.slice (some ⟨b, 0, none⟩) 2 4) := ho 0
 have hn' := fun k => Nat.le_trans hn (Nat.le_add_right h.length k)
 clear hbl
 have js := hs.nj
 have jt := ht.nj
 unfold isJunk at js jt
 have hc1 := fun L => c_zz62 (nro := nro) n s rows (h ++ L) (hs.app _)
 have hc2 := fun L => c_zz62 (nro := nro) m t hrows (h ++ L) (ht.app _)
 have l2 : floop (vcall F nro) nro [5, 6, 7] i_zz55_B1 h [.slice (some ⟨b, 0, none⟩) 2 4, .int .i64 2, .int .i64 2] h = some (.exit 0, fl [], h) := by
  rw [floop_at i_zz55_B1.eq_1]
  simp (disch := first | assumption | omega | (simp [*] <;> omega) | fail) []
 by_cases g : GV n rows
 ·by_cases gm : GV m hrows
  ·have l1 : floop (vcall F nro) nro [5, 6, 7] i_zz55_B1 h [.slice (some ⟨b, 0, none⟩) 2 4, .int .i64 2, .int .i64 1] h = some (.exit 0, fl [], h) := by
    rw [floop_at i_zz55_B1.eq_1]
    simp (disch := first | assumption | omega | (simp [*] <;> omega) | fail) [hget_old hb, hb, hc2, gm, wrap64, l2, hn', hn, js, jt]
   have l0 : floop (vcall F nro) nro [5, 6, 7] i_zz55_B1 h [.slice (some ⟨b, 0, none⟩) 2 4, .int .i64 2, .int .i64 0] h = some (.exit 0, fl [], h) := by
    rw [floop_at i_zz55_B1.eq_1]
    simp (disch := first | assumption | omega | (simp [*] <;> omega) | fail) [hget_old hb, hb, hc1, g, wrap64, l1, hn', hn, js, jt]
   simp (disch := first | assumption | omega | (simp [*] <;> omega) | fail) [i_zz55, hb, l0, g, gm]
  ·have l1 : ∃ M, floop (vcall F nro) nro [5, 6, 7] i_zz55_B1 h [.slice (some ⟨b, 0, none⟩) 2 4, .int .i64 2, .int .i64 1] h = some (.ret, fl [(2, .bool false)], h ++ M) := by
    refine ⟨[⟨0, [.int .i64 m, t]⟩], ?_⟩
    rw [floop_at i_zz55_B1.eq_1]
    simp (disch := first | assumption | omega | (simp [*] <;> omega) | fail) [hget_old hb, hb, hc2, gm, wrap64, hn', hn, js, jt]
   obtain ⟨M, l1⟩ := l1
   have l0 : floop (vcall F nro) nro [5, 6, 7] i_zz55_B1 h [.slice (some ⟨b, 0, none⟩) 2 4, .int .i64 2, .int .i64 0] h = some (.ret, fl [(2, .bool false)], h ++ M) := by
    rw [floop_at i_zz55_B1.eq_1]
    simp (disch := first | assumption | omega | (simp [*] <;> omega) | fail) [hget_old hb, hb, hc1, g, wrap64, l1, hn', hn, js, jt]
   simp (disch := first | assumption | omega | (simp [*] <;> omega) | fail) [i_zz55, hb, l0, g, gm]
 ·have l0 : ∃ M, floop (vcall F nro) nro [5, 6, 7] i_zz55_B1 h [.slice (some ⟨b, 0, none⟩) 2 4, .int .i64 2, .int .i64 0] h = some (.ret, fl [(2, .bool false)], h ++ M) := by
   refine ⟨[⟨0, [.int .i64 n, s]⟩], ?_⟩
   rw [floop_at i_zz55_B1.eq_1]
   simp (disch := first | assumption | omega | (simp [*] <;> omega) | fail) [hget_old hb, hb, hc1, g, wrap64, hn', hn, js, jt]
  obtain ⟨M, l0⟩ := l0
  simp (disch := first | assumption | omega | (simp [*] <;> omega) | fail) [i_zz55, hb, l0, g]
end

/- The program's AreIsomorphic. -/
section
open Go
open Classical
variable {nro : Nat}
def two (r0 r1 : List Int) : Nat → List Int := fun i => if i = 0 then r0 else r1
def noC (n : Nat) : Nat → List Int := fun _ => List.replicate n 0
noncomputable def isoA (n : Int) (rows : List Int) (m : Int) (hrows : List Int) : Bool × Int :=
 if GV n rows ∧ GV m hrows then (decide (n = m ∧ HasIso (two rows hrows) n.toNat (noC n.toNat)), 0) else (false, 1)
theorem mkC_nil (n : Nat) : mkC n [] [] = noC n := by
 funext i
 unfold mkC noC
 split <;> rfl
theorem c_zz63_ne (h : VH) (n m : Int) (s t fs ts : Value) (hs : isJunk s = false) (ht : isJunk t = false) (so : ∀ k, OldC (h.length + k) s) (to : ∀ k, OldC (h.length + k) t) (hne : n ≠ m) : vcall F nro k_zz63 [gv n s, gv m t, fs, ts] h = some (.slice none 0 0, h) := by
 refine v_zz63 (by simp [i_zz63]) ?_
 rw [fbody_eq]
 unfold isJunk at hs ht
 simp (disch := first | assumption | omega | (simp [*] <;> omega) | fail) [i_zz63, hs, ht, hne, so, to, fresults, fresL, fres1]
theorem c_zz46 (n m : Int) (s t : Value) (rows hrows : List Int) (h : VH) (hs : Sli h s rows) (ht : Sli h t hrows) (hn : nro ≤ h.length) :
  vcall F nro k_zz46 [gv n s, gv m t] h = some (.tuple #[.bool (isoA n rows m hrows).1, .int .i64 (isoA n rows m hrows).2], h) := by
 have hn' := fun k => Nat.le_trans hn (Nat.le_add_right h.length k)
 have hsc := fun k => hs.oldCk (k := k)
 have htc := fun k => ht.oldCk (k := k)
 have sj := hs.nj
 have tj := ht.nj
 have hA := c_impl_areGraphs2 (nro := nro) n m s t rows hrows (h.length + 2) (h ++ [⟨0, [.int .i64 n, s]⟩, ⟨0, [.int .i64 m, t]⟩, ⟨2, [.int .i64 n, s, .int .i64 m, t]⟩]) (hs.app _) (ht.app _) (by simp) (by simp; omega)
 have hcl : ∀ (L : VH) (b : Bool) (c : Int), kclean h [.tuple #[.bool b, .int .i64 c]] (h ++ L) = ([.tuple #[.bool b, .int .i64 c]], h) := fun L b c => cleanup_upd (Upd.rfl' h) (by intro w hw; simp at hw; subst hw; intro r hr; simp [trefs, vrefs, crefs, arefs] at hr)
 refine v_zz46 (by simp [i_zz46]) ?_
 rw [fbody_eq]
 by_cases g : GV n rows ∧ GV m hrows
 ·have ea : isoA n rows m hrows = (decide (n = m ∧ HasIso (two rows hrows) n.toNat (noC n.toNat)), 0) := by unfold isoA; rw [if_pos g]
  rw [decide_eq_true g] at hA
  rw [ea]
  by_cases e : n = m
  ·subst e
   obtain ⟨N, rfl⟩ : ∃ N : Nat, n = N := ⟨n.toNat, by have := g.1.lo; omega⟩
   rw [Int.toNat_natCast]
   have hlo := g.1.lo
   obtain ⟨pv, L, m1, m2⟩ := c_zz63 (nro := nro) (h := h ++ [⟨0, [.int .i64 N, s]⟩, ⟨0, [.int .i64 N, t]⟩, ⟨2, [.int .i64 N, s, .int .i64 N, t]⟩]) (n := N) (hs.app _) (ht.app _) g.1.rok g.2.rok (by omega) (by simp; omega) (fs := .slice none 0 0) (ts := .slice none 0 0) (Fr := []) (To := []) (by simp [Sli, Sl, vsrc, ints]) (by simp [Sli, Sl, vsrc, ints]) (by simp) (by simp) (fun i hi => by simp at hi)
   rw [mkC_nil] at m2
   rcases m2 with ⟨rfl, rfl, hno⟩ | ⟨p, rfl, rfl, p1, p2, p3⟩
   ·have hd : decide ((N : Int) = N ∧ HasIso (two rows hrows) N (noC N)) = false := decide_eq_false fun h => hno h.2
    rw [hd]
    clear hs ht g ea hd hno
    simp at m1 sj tj
    simp (disch := first | assumption | omega | (simp [*] <;> omega) | fail) [i_zz46, hA, m1, hcl, hsc, htc, sj, tj, hn', hn, fresults, fresL, fres1]
   ·have hd : decide ((N : Int) = N ∧ HasIso (two rows hrows) N (noC N)) = true := decide_eq_true ⟨rfl, _, p3⟩
    rw [hd]
    clear hs ht g ea hd p2 p3
    simp at m1 sj tj
    simp (disch := first | assumption | omega | (simp [*] <;> omega) | fail) [i_zz46, hA, m1, p1, hcl, hsc, htc, sj, tj, hn', hn, fresults, fresL, fres1]
  ·have m1 := c_zz63_ne (nro := nro) (h ++ [⟨0, [.int .i64 n, s]⟩, ⟨0, [.int .i64 m, t]⟩, ⟨2, [.int .i64 n, s, .int .i64 m, t]⟩]) n m s t (.slice none 0 0) (.slice none 0 0) sj tj (fun k => by rw [List.length_append, Nat.add_assoc]; exact hsc _) (fun k => by rw [List.length_append, Nat.add_assoc]; exact htc _) e
   have hd : decide (n = m ∧ HasIso (two rows hrows) n.toNat (noC n.toNat)) = false := decide_eq_false fun h => e h.1
   rw [hd]
   clear hs ht g ea hd
   simp at m1 sj tj
   simp (disch := first | assumption | omega | (simp [*] <;> omega) | fail) [i_zz46, hA, m1, hcl, hsc, htc, sj, tj, hn', hn, fresults, fresL, fres1]
 ·have ea : isoA n rows m hrows = (false, 1) := by unfold isoA; rw [if_neg g]
  rw [decide_eq_false g] at hA
  rw [ea]
  clear hs ht g ea
  simp at sj tj
  simp (disch := first | assumption | omega | (simp [*] <;> omega) | fail) [i_zz46, hA, hcl, hsc, htc, sj, tj, hn', hn, fresults, fresL, fres1]
end

/- The reference's step of a refinement. -/
section
open Go
variable {nro : Nat}
open Classical in
noncomputable def colW (sm : Nat → Prop) (out : List Int) (v w : Nat) : Int := if w < v then (if sm w then out.getD w 0 else colW sm out v (w + 1)) else -1
 termination_by v - w
end

/- The reference's step of a refinement: the whole. -/
section
open Go
variable {nro : Nat}
open Classical in
noncomputable def stp (rows cl : List Int) (n : Nat) : Nat → List Int × Int
 | 0 => ([], 0)
 | v + 1 =>
  if colW (fun w => cl.getD w 0 = cl.getD v 0 ∧ cnts rows cl n w = cnts rows cl n v) (stp rows cl n v).1 v 0 < 0 then ((stp rows cl n v).1 ++ [(stp rows cl n v).2], (stp rows cl n v).2 + 1)
  else ((stp rows cl n v).1 ++ [colW (fun w => cl.getD w 0 = cl.getD v 0 ∧ cnts rows cl n w = cnts rows cl n v) (stp rows cl n v).1 v 0], (stp rows cl n v).2)
theorem stp_len (rows cl : List Int) (n : Nat) : ∀ v, (stp rows cl n v).1.length = v ∧ 0 ≤ (stp rows cl n v).2 ∧ (stp rows cl n v).2 ≤ v
 | 0 => ⟨rfl, Int.le_refl _, Int.le_refl _⟩
 | v + 1 => by
  obtain ⟨h1, h2, h3⟩ := stp_len rows cl n v
  rw [stp]
  split
  ·exact ⟨by simp [h1], by simp only; omega, by simp only; omega⟩
  ·exact ⟨by simp [h1], by simp only; omega, by simp only; omega⟩
end

/- The reference's step is a round, in the order of meeting. -/
section
open Go
def pmP (m : Int) : List Int → Int
 | [] => m
 | x :: r => pmP (if x = m then m + 1 else m) r
theorem pmP_snoc : ∀ (xs : List Int) (m x : Int), pmP m (xs ++ [x]) = if x = pmP m xs then pmP m xs + 1 else pmP m xs
 | [], m, x => rfl
 | y :: r, m, x => by rw [List.cons_append, pmP, pmP, pmP_snoc r]
theorem partOK_snoc : ∀ (xs : List Int) (m x : Int), PartOK (xs ++ [x]) m ↔ PartOK xs m ∧ 0 ≤ x ∧ x ≤ pmP m xs
 | [], m, x => by simp [PartOK, pmP]
 | y :: r, m, x => by
  rw [List.cons_append, PartOK, PartOK, pmP, partOK_snoc r]
  constructor
  ·rintro ⟨a, b, c, d, e⟩; exact ⟨⟨a, b, c⟩, d, e⟩
  ·rintro ⟨⟨a, b, c⟩, d, e⟩; exact ⟨a, b, c, d, e⟩
theorem colW_all (sm : Nat → Prop) (out : List Int) (v : Nat) (h0 : ∀ w, w < v → 0 ≤ out.getD w 0) (k : Nat) : ∀ w, k = v - w → (colW sm out v w < 0 → ∀ u, w ≤ u → u < v → ¬ sm u) ∧ (¬ colW sm out v w < 0 → ∃ u, u < v ∧ sm u ∧ colW sm out v w = out.getD u 0) := by
 induction k with
 | zero =>
  intro w hk
  rw [colW, if_neg (by omega)]
  exact ⟨fun _ u h1 h2 => by omega, fun h => absurd (by omega) h⟩
 | succ k ih =>
  intro w hk
  have hw : w < v := by omega
  rw [colW, if_pos hw]
  by_cases c : sm w
  ·rw [if_pos c]
   have := h0 w hw
   exact ⟨fun h => by omega, fun _ => ⟨w, hw, c, rfl⟩⟩
  ·rw [if_neg c]
   obtain ⟨h1, h2⟩ := ih (w + 1) (by omega)
   refine ⟨fun h u hu hu2 => ?_, h2⟩
   by_cases e : u = w
   ·subst e; exact c
   ·exact h1 h u (by omega) hu2
def smK (rows cl : List Int) (n u w : Nat) : Prop := cl.getD u 0 = cl.getD w 0 ∧ cnts rows cl n u = cnts rows cl n w
theorem smK.symm {rows cl : List Int} {n u w : Nat} (h : smK rows cl n u w) : smK rows cl n w u := ⟨h.1.symm, h.2.symm⟩
theorem smK.trans {rows cl : List Int} {n u w x : Nat} (h : smK rows cl n u w) (h' : smK rows cl n w x) : smK rows cl n u x := ⟨h.1.trans h'.1, h.2.trans h'.2⟩
theorem getD_snoc (l : List Int) (x : Int) (w : Nat) (h : w < l.length) : (l ++ [x]).getD w 0 = l.getD w 0 := by
 simp only [List.getD_eq_getElem?_getD]; rw [List.getElem?_append_left h]
theorem getD_snoc' (l : List Int) (x : Int) (w : Nat) (h : w = l.length) : (l ++ [x]).getD w 0 = x := by
 subst h; simp [List.getD_eq_getElem?_getD]
theorem stp_all (rows cl : List Int) (n : Nat) : ∀ v, (∀ u w, u < v → w < v → ((stp rows cl n v).1.getD u 0 = (stp rows cl n v).1.getD w 0 ↔ smK rows cl n u w)) ∧ (∀ w, w < v → 0 ≤ (stp rows cl n v).1.getD w 0 ∧ (stp rows cl n v).1.getD w 0 < (stp rows cl n v).2) ∧
  (∀ x, 0 ≤ x → x < (stp rows cl n v).2 → ∃ w, w < v ∧ (stp rows cl n v).1.getD w 0 = x) ∧ PartOK (stp rows cl n v).1 0 ∧ pmP 0 (stp rows cl n v).1 = (stp rows cl n v).2
 | 0 => ⟨fun u w h => by omega, fun w h => by omega, fun x h1 h2 => by simp [stp] at h2; omega, trivial, rfl⟩
 | v + 1 => by
  obtain ⟨i1, i2, i3, i4, i5⟩ := stp_all rows cl n v
  obtain ⟨l1, l2, l3⟩ := stp_len rows cl n v
  obtain ⟨w1, w2⟩ := colW_all (fun w => cl.getD w 0 = cl.getD v 0 ∧ cnts rows cl n w = cnts rows cl n v) (stp rows cl n v).1 v (fun w hw => (i2 w hw).1) v 0 (by omega)
  rw [stp]
  obtain ⟨out, hout⟩ : ∃ o, o = (stp rows cl n v).1 := ⟨_, rfl⟩
  obtain ⟨most, hmost⟩ : ∃ o, o = (stp rows cl n v).2 := ⟨_, rfl⟩
  rw [← hout] at i1 i2 i3 i4 i5 l1 w1 w2 ⊢
  rw [← hmost] at i2 i3 i5 l2 l3 ⊢
  obtain ⟨r, hr⟩ : ∃ r, r = colW (fun w => cl.getD w 0 = cl.getD v 0 ∧ cnts rows cl n w = cnts rows cl n v) out v 0 := ⟨_, rfl⟩
  rw [← hr] at w1 w2 ⊢
  by_cases c : r < 0
  ·rw [if_pos c]
   simp only
   have w1 := w1 c
   refine ⟨fun u w hu hw => ?_, fun w hw => ?_, fun x h1 h2 => ?_, (partOK_snoc _ _ _).mpr ⟨i4, l2, by omega⟩, by rw [pmP_snoc, i5, if_pos rfl]⟩
   ·by_cases eu : u = v
    ·by_cases ew : w = v
     ·subst eu ew; exact ⟨fun _ => ⟨rfl, rfl⟩, fun _ => rfl⟩
     ·rw [getD_snoc' _ _ u (by omega), getD_snoc _ _ w (by omega)]
      have := (i2 w (by omega)).2
      refine ⟨fun h => by omega, fun h => absurd ?_ (w1 w (by omega) (by omega))⟩
      subst eu
      exact h.symm
    ·by_cases ew : w = v
     ·rw [getD_snoc' _ _ w (by omega), getD_snoc _ _ u (by omega)]
      have := (i2 u (by omega)).2
      refine ⟨fun h => by omega, fun h => absurd ?_ (w1 u (by omega) (by omega))⟩
      subst ew
      exact h
     ·rw [getD_snoc _ _ u (by omega), getD_snoc _ _ w (by omega)]
      exact i1 u w (by omega) (by omega)
   ·by_cases ew : w = v
    ·rw [getD_snoc' _ _ w (by omega)]; omega
    ·rw [getD_snoc _ _ w (by omega)]
     have := i2 w (by omega)
     omega
   ·by_cases ex : x < most
    ·obtain ⟨w, hw, he⟩ := i3 x h1 ex
     exact ⟨w, by omega, by rw [getD_snoc _ _ w (by omega)]; exact he⟩
    ·exact ⟨v, by omega, by rw [getD_snoc' _ _ v (by omega)]; omega⟩
  ·rw [if_neg c]
   simp only
   obtain ⟨z, z1, z2, z3⟩ := w2 c
   have hz := i2 z z1
   refine ⟨fun u w hu hw => ?_, fun w hw => ?_, fun x h1 h2 => ?_, (partOK_snoc _ _ _).mpr ⟨i4, by omega, by omega⟩, by rw [pmP_snoc, i5, if_neg (by omega)]⟩
   ·by_cases eu : u = v
    ·by_cases ew : w = v
     ·subst eu ew; exact ⟨fun _ => ⟨rfl, rfl⟩, fun _ => rfl⟩
     ·rw [getD_snoc' _ _ u (by omega), getD_snoc _ _ w (by omega), z3, i1 z w z1 (by omega)]
      subst eu
      exact ⟨fun h => (smK.symm z2).trans h, fun h => smK.trans z2 h⟩
    ·by_cases ew : w = v
     ·rw [getD_snoc' _ _ w (by omega), getD_snoc _ _ u (by omega), z3, i1 u z (by omega) z1]
      subst ew
      exact ⟨fun h => h.trans z2, fun h => h.trans (smK.symm z2)⟩
     ·rw [getD_snoc _ _ u (by omega), getD_snoc _ _ w (by omega)]
      exact i1 u w (by omega) (by omega)
   ·by_cases ew : w = v
    ·rw [getD_snoc' _ _ w (by omega)]; omega
    ·rw [getD_snoc _ _ w (by omega)]
     exact i2 w (by omega)
   ·obtain ⟨w, hw, he⟩ := i3 x h1 h2
    exact ⟨w, by omega, by rw [getD_snoc _ _ w (by omega)]; exact he⟩
end

/- The reference's refinement of two graphs together: marks. -/
section
open Go
open Classical
variable {nro : Nat}
noncomputable def mkX (x : Int) : Int := IntKind.i64.wrap
      (IntKind.i64.wrap
          (IntKind.i64.wrap
              (ixor IntKind.i64 (IntKind.i64.wrap (IntKind.i64.wrap (x * 2654435761) + 97))
                  (ishr IntKind.i64 (IntKind.i64.wrap (IntKind.i64.wrap (x * 2654435761) + 97)) 7) *
                ixor IntKind.i64 (IntKind.i64.wrap (IntKind.i64.wrap (x * 2654435761) + 97))
                  (ishr IntKind.i64 (IntKind.i64.wrap (IntKind.i64.wrap (x * 2654435761) + 97)) 7)) *
            ixor IntKind.i64 (IntKind.i64.wrap (IntKind.i64.wrap (x * 2654435761) + 97))
              (ishr IntKind.i64 (IntKind.i64.wrap (IntKind.i64.wrap (x * 2654435761) + 97)) 7)) +
        IntKind.i64.wrap
          (31 *
            ixor IntKind.i64 (IntKind.i64.wrap (IntKind.i64.wrap (x * 2654435761) + 97))
              (ishr IntKind.i64 (IntKind.i64.wrap (IntKind.i64.wrap (x * 2654435761) + 97)) 7)))
theorem c_zz68 (x : Int) (h : VH) : vcall F nro k_zz68 [.int .i64 x] h = some (.int .i64 (mkX x), h) := by
 refine v_zz68 (by simp [i_zz68]) ?_
 rw [fbody_eq]
 unfold mkX
 simp (disch := first | assumption | omega | (simp [*] <;> omega) | fail) [-getElem?_pos, List.getElem?_cons_zero, List.getElem?_cons_succ, i_zz68, fresults, fresL, fres1]
theorem wrap_add (a b : Int) : IntKind.i64.wrap (IntKind.i64.wrap a + b) = IntKind.i64.wrap (a + b) := by
 rw [w_eq, w_eq, w_eq]
 omega
noncomputable def mkS (adj : Nat → Bool) (l : List Int) (fr n : Nat) : Int := IntKind.i64.wrap (sumF (fun w => if adj w = true then mkX (l.getD (fr + w) 0) else 0) n)
section
variable {G : VH} {lq p3 p4 tm : Value} {l : List Int} {n : Nat} (hq : Sli G lq l) (hl : l.length = 2 * n) (h62 : n ≤ 62) (o3 : Old G.length p3) (o4 : Old G.length p4) (om : Old G.length tm)
include hq hl h62 o3 o4 om
theorem l_both_1 (row : Int) (hr0 : 0 ≤ row) (hr1 : row < 4611686018427387904) (fr : Nat) (hf : fr + n ≤ 2 * n) (co v : Int) :
  floop (vcall F nro) nro [2, 3, 4, 8, 9, 10, 11, 12, 13, 14, 15] i_zz67_B1 G [lq, p3, p4, .int .i64 n, .int .i64 co, tm, .int .i64 v, .int .i64 row, .int .i64 fr, .int .i64 0, .int .i64 0] G =
   some (.exit 4, fl [(2, lq), (3, p3), (4, p4), (8, .int .i64 n), (9, .int .i64 co), (10, tm), (11, .int .i64 v), (14, .int .i64 (mkS (fun w => row.toNat.testBit w) l fr n))], G) := by
 have ho := hq.old
 have key := for_up (call := vcall F nro) (nro := nro) (live := [2, 3, 4, 8, 9, 10, 11, 12, 13, 14, 15]) (c := i_zz67_B1) (h0 := G) (n := n)
  (fun w (_ : Unit) => [lq, p3, p4, .int .i64 n, .int .i64 co, tm, .int .i64 v, .int .i64 row, .int .i64 fr, .int .i64 (mkS (fun w => row.toNat.testBit w) l fr w), .int .i64 w]) (fun _ _ => G) (fun _ u => u) (fun _ _ => True)
  (fun _ => some (.exit 4, fl [(2, lq), (3, p3), (4, p4), (8, .int .i64 n), (9, .int .i64 co), (10, tm), (11, .int .i64 v), (14, .int .i64 (mkS (fun w => row.toNat.testBit w) l fr n))], G))
  (fun w u hw hw2 _ => ⟨trivial, ?_⟩) (fun u _ => ?_) 0 () (by omega) trivial
 ·have e : mkS (fun w => row.toNat.testBit w) l fr 0 = 0 := by unfold mkS; rw [sumF]; exact wrap64 (by omega) (by omega)
  have := key.1
  rw [e] at this
  exact this
 ·have w1 : IntKind.u64.wrap (w : Int) = w := wrapu64 (by omega) (by omega)
  have hbit := bit_two (a := row) (b := (w : Int)) hr0 (by omega) (by omega)
  rw [Int.toNat_natCast] at hbit
  have w2 : IntKind.i64.wrap ((w : Int) + 1) = (w : Int) + 1 := wrap64 (by omega) (by omega)
  have w3 : IntKind.i64.wrap ((fr : Int) + w) = ((fr + w : Nat) : Int) := by rw [← Int.natCast_add]; exact wrap64 (by omega) (by omega)
  have tx := hq.vidx (k := .i64) (j := ((fr + w : Nat) : Int)) (by omega) (by omega)
  have tl := hq.vload (j := fr + w) (by omega)
  rw [← getD_at] at tl
  simp only [Int.toNat_natCast] at tx
  have hM := fun x => c_zz68 (nro := nro) x G
  have hst : mkS (fun w => row.toNat.testBit w) l fr (w + 1) = if row.toNat.testBit w = true then IntKind.i64.wrap (mkS (fun w => row.toNat.testBit w) l fr w + mkX (l.getD (fr + w) 0)) else mkS (fun w => row.toNat.testBit w) l fr w := by
   unfold mkS
   rw [sumF]
   split
   ·rw [wrap_add]
   ·rw [Int.add_zero]
  rw [hst]
  generalize mkS (fun w => row.toNat.testBit w) l fr w = s at *
  generalize l.getD (fr + w) 0 = x at *
  generalize hfw : fr + w = fw at *
  rw [floop_at i_zz67_B1.eq_1]
  clear hq hst hf hr0 hr1
  by_cases c1 : row.toNat.testBit w = true
  ·rw [if_pos c1] at hbit ⊢
   clear c1
   simp (disch := first | assumption | omega | (simp [*] <;> omega) | fail) [-getElem?_pos, List.getElem?_cons_zero, List.getElem?_cons_succ, hw, hw2, w1, hbit, tx, tl, hM, w2, w3, ho, o3, o4, om]
  ·rw [if_neg c1] at hbit ⊢
   clear c1
   simp (disch := first | assumption | omega | (simp [*] <;> omega) | fail) [-getElem?_pos, List.getElem?_cons_zero, List.getElem?_cons_succ, hw, hw2, w1, hbit, w2, ho, o3, o4, om]
 ·rw [floop_at i_zz67_B1.eq_1]
  clear hq
  simp (disch := first | assumption | omega | (simp [*] <;> omega) | fail) [-getElem?_pos, List.getElem?_cons_zero, List.getElem?_cons_succ, ho, o3, o4, om]
end
def adj2 (r0 r1 : List Int) (n v : Nat) : Nat → Bool := fun w => if v < n then rbit r0 v w else rbit r1 (v - n) w
noncomputable def mrk (r0 r1 l : List Int) (n v : Nat) : Int := mkS (adj2 r0 r1 n v) l (if v < n then 0 else n) n
noncomputable def mrks (r0 r1 l : List Int) (n k : Nat) : List Int := (List.range k).map (mrk r0 r1 l n)
theorem mrks_len (r0 r1 l : List Int) (n k : Nat) : (mrks r0 r1 l n k).length = k := by simp [mrks]
theorem mrks_succ (r0 r1 l : List Int) (n k : Nat) : mrks r0 r1 l n (k + 1) = mrks r0 r1 l n k ++ [mrk r0 r1 l n k] := by simp [mrks, List.range_succ]
theorem mrks_at (r0 r1 l : List Int) {n k v : Nat} (hv : v < k) : (mrks r0 r1 l n k).getD v 0 = mrk r0 r1 l n v := by
 rw [getD_at _ (by rw [mrks_len]; exact hv)]
 simp [mrks]
section
variable {H : VH} {lq s t : Value} {l r0 r1 : List Int} {n b3 b4 : Nat} (hn : nro ≤ H.length) (hq : Sli H lq l) (hl : l.length = 2 * n) (h3 : H[b3]? = some ⟨0, [.int .i64 n, s]⟩) (h4 : H[b4]? = some ⟨0, [.int .i64 n, t]⟩) (hs : Sli H s r0) (ht : Sli H t r1) (R0 : Rok n r0) (R1 : Rok n r1)
include hn hq hl h3 h4 hs ht R0 R1
theorem l_both_2 (co : Int) :
  floop (vcall F nro) nro [2, 3, 4, 8, 9, 10, 11] i_zz67_B2 (H ++ [⟨1, []⟩]) [lq, .pointer (some ⟨b3, 0, some 2⟩), .pointer (some ⟨b4, 0, some 2⟩), .int .i64 n, .int .i64 co, .slice (some ⟨H.length, 0, none⟩) 0 0, .int .i64 0] (H ++ [⟨1, []⟩]) =
   some (.exit 2, fl [(2, lq), (3, .pointer (some ⟨b3, 0, some 2⟩)), (4, .pointer (some ⟨b4, 0, some 2⟩)), (8, .int .i64 n), (9, .int .i64 co), (10, .slice (some ⟨H.length, 0, none⟩) (2 * n) (2 * n))], H ++ [⟨1, ints (mrks r0 r1 l n (2 * n))⟩]) := by
 have h62 := R0.le
 have lb3 := (List.getElem?_eq_some_iff.mp h3).1
 have lb4 := (List.getElem?_eq_some_iff.mp h4).1
 have hn' := fun k => Nat.le_trans hn (Nat.le_add_right H.length k)
 have ho := fun k => hq.oldk (k := k)
 have h3' : ∀ L : VH, (H ++ L)[b3]? = some ⟨0, [.int .i64 n, s]⟩ := fun L => by rw [List.getElem?_append_left lb3]; exact h3
 have h4' : ∀ L : VH, (H ++ L)[b4]? = some ⟨0, [.int .i64 n, t]⟩ := fun L => by rw [List.getElem?_append_left lb4]; exact h4
 have key := for_up (call := vcall F nro) (nro := nro) (live := [2, 3, 4, 8, 9, 10, 11]) (c := i_zz67_B2) (h0 := H ++ [⟨1, []⟩]) (n := 2 * n)
  (fun v (_ : Unit) => [lq, .pointer (some ⟨b3, 0, some 2⟩), .pointer (some ⟨b4, 0, some 2⟩), .int .i64 n, .int .i64 co, .slice (some ⟨H.length, 0, none⟩) v v, .int .i64 v]) (fun v _ => H ++ [⟨1, ints (mrks r0 r1 l n v)⟩]) (fun _ u => u) (fun _ _ => True)
  (fun _ => some (.exit 2, fl [(2, lq), (3, .pointer (some ⟨b3, 0, some 2⟩)), (4, .pointer (some ⟨b4, 0, some 2⟩)), (8, .int .i64 n), (9, .int .i64 co), (10, .slice (some ⟨H.length, 0, none⟩) (2 * n) (2 * n))], H ++ [⟨1, ints (mrks r0 r1 l n (2 * n))⟩]))
  (fun v u hv hv2 _ => ⟨trivial, ?_⟩) (fun u _ => ?_) 0 () (by omega) trivial
 ·exact key.1
 ·have w1 : IntKind.i64.wrap ((v : Int) + 1) = (v : Int) + 1 := wrap64 (by omega) (by omega)
  have w2 : IntKind.i64.wrap (2 * (n : Int)) = 2 * (n : Int) := wrap64 (by omega) (by omega)
  have hlt2 : (v : Int) < 2 * (n : Int) := by omega
  have hn0 : ¬ (n : Int) = 0 := by omega
  obtain ⟨md, hmd⟩ : ∃ md : Nat, md = v % n := ⟨_, rfl⟩
  have hmdn : md < n := by rw [hmd]; exact Nat.mod_lt _ (by omega)
  have t1 : (v : Int).tmod n = (md : Int) := by rw [Int.tmod_eq_emod_of_nonneg (by omega), hmd]; simp
  have w3 : IntKind.i64.wrap (md : Int) = md := wrap64 (by omega) (by omega)
  have len0 := R0.len
  have len1 := R1.len
  have vx := fun L => (hs.app L).vidx (k := .i64) (j := (md : Int)) (by omega) (by omega)
  have vl : ∀ L, vload false 1 (H ++ L) (vptr s md) = some (.int .i64 (r0.getD md 0)) := fun L => by rw [getD_at r0 (by omega)]; exact (hs.app L).vload (by omega)
  simp only [Int.toNat_natCast] at vx
  have hml := mrks_len r0 r1 l n v
  have hil : (ints (mrks r0 r1 l n v)).length = v := by rw [ints_length, hml]
  have hap : ints (mrks r0 r1 l n v) ++ [.int .i64 (mrk r0 r1 l n v)] = ints (mrks r0 r1 l n (v + 1)) := by rw [mrks_succ]; simp [ints]
  have b1 : (v + 1) * 8 ≤ 1099511627776 := by omega
  have b2 : v < 1099511627776 := by omega
  have e0 : ints ([] : List Int) = [] := rfl
  have hcl := fun (vs : List Value) (hv : ∀ w ∈ vs, Old (H ++ [(⟨1, []⟩ : VO)]).length w) (L : VH) => cleanup_upd (L := L) (mk_upd H [] [] (mrks r0 r1 l n (v + 1))) (vs := vs) hv
  rw [e0] at hcl
  by_cases c : v < n
  ·have hmv : md = v := by rw [hmd]; exact Nat.mod_eq_of_lt c
   obtain ⟨g1, g2⟩ := R0.row v c
   have g3 := le62 h62 g2
   have l1 := l_both_1 (nro := nro) (G := H ++ [⟨1, ints (mrks r0 r1 l n v)⟩]) (lq := lq) (p3 := .pointer (some ⟨b3, 0, some 2⟩)) (p4 := .pointer (some ⟨b4, 0, some 2⟩)) (tm := .slice (some ⟨H.length, 0, none⟩) v v) (n := n) (hq.app _) hl h62
    (by intro r hr; simp [trefs, vrefs, crefs, arefs] at hr; simp; omega) (by intro r hr; simp [trefs, vrefs, crefs, arefs] at hr; simp; omega) (by intro r hr; simp [trefs, vrefs, crefs, arefs] at hr; simp; omega) (r0.getD v 0) g1 (by omega) 0 (by omega) co v
   have em : mkS (fun w => (r0.getD v 0).toNat.testBit w) l 0 n = mrk r0 r1 l n v := by
    unfold mrk adj2 rbit
    simp only [if_pos c]
   rw [em] at l1
   have cn : ¬ (n : Int) ≤ v := by omega
   have cn2 : ¬ n ≤ v := by omega
   rw [hmv] at vx vl t1 w3
   generalize r0.getD v 0 = row at *
   generalize mrk r0 r1 l n v = mv at *
   generalize mrks r0 r1 l n (v + 1) = m2 at *
   generalize mrks r0 r1 l n v = m1 at *
   simp at l1 hcl
   rw [floop_at i_zz67_B2.eq_1]
   clear hq hs ht R0 R1 em hmv hmd hml h3 h4 g1 g2 g3
   simp (disch := first | assumption | omega | (simp [*] <;> omega) | fail) [-getElem?_pos, List.getElem?_cons_zero, List.getElem?_cons_succ, hv, hv2, h3', h4', w1, w2, hlt2, hn0, t1, w3, vx, vl, l1, cn, cn2, hil, hap, b1, b2, hn', hn, ho, hcl, lb3, lb4]
  ·obtain ⟨k, rfl⟩ : ∃ k, v = n + k := ⟨v - n, by omega⟩
   have hk : k < n := by omega
   obtain ⟨g1, g2⟩ := R1.row k hk
   have g3 := le62 h62 g2
   have l1 := l_both_1 (nro := nro) (G := H ++ [⟨1, ints (mrks r0 r1 l n (n + k))⟩]) (lq := lq) (p3 := .pointer (some ⟨b3, 0, some 2⟩)) (p4 := .pointer (some ⟨b4, 0, some 2⟩)) (tm := .slice (some ⟨H.length, 0, none⟩) (n + k) (n + k)) (n := n) (hq.app _) hl h62
    (by intro r hr; simp [trefs, vrefs, crefs, arefs] at hr; simp; omega) (by intro r hr; simp [trefs, vrefs, crefs, arefs] at hr; simp; omega) (by intro r hr; simp [trefs, vrefs, crefs, arefs] at hr; simp; omega) (r1.getD k 0) g1 (by omega) n (by omega) co ((n + k : Nat) : Int)
   have em : mkS (fun w => (r1.getD k 0).toNat.testBit w) l n n = mrk r0 r1 l n (n + k) := by
    unfold mrk adj2 rbit
    simp only [if_neg (show ¬ n + k < n by omega), Nat.add_sub_cancel_left]
   rw [em] at l1
   have cn : (n : Int) ≤ ((n + k : Nat) : Int) := by omega
   have w4 : IntKind.i64.wrap (((n + k : Nat) : Int) - n) = (k : Int) := by rw [show ((n + k : Nat) : Int) - n = k by omega]; exact wrap64 (by omega) (by omega)
   have vx1 := fun L => (ht.app L).vidx (k := .i64) (j := (k : Int)) (by omega) (by omega)
   have vl1 := fun L => (ht.app L).vload (j := k) (by omega)
   simp only [Int.toNat_natCast] at vx1
   rw [getD_at r1 (by omega)] at l1
   generalize r1[k]'(by omega) = row at *
   generalize r0.getD md 0 = row0 at *
   generalize mrk r0 r1 l n (n + k) = mv at *
   generalize mrks r0 r1 l n (n + k + 1) = m2 at *
   generalize mrks r0 r1 l n (n + k) = m1 at *
   generalize hz : n + k = z at *
   have cn3 : n ≤ z := by omega
   simp at l1 hcl
   rw [floop_at i_zz67_B2.eq_1]
   clear hq hs ht R0 R1 em hmd hml h3 h4 g1 g2 g3 hz
   simp (disch := first | assumption | omega | (simp [*] <;> omega) | fail) [-getElem?_pos, List.getElem?_cons_zero, List.getElem?_cons_succ, hv, hv2, h3', h4', w1, w2, hlt2, hn0, t1, w3, vx, vl, vx1, vl1, w4, l1, cn, cn3, hil, hap, b1, b2, hn', hn, ho, hcl, lb3, lb4]
 ·have w2 : IntKind.i64.wrap (2 * (n : Int)) = 2 * (n : Int) := wrap64 (by omega) (by omega)
  rw [floop_at i_zz67_B2.eq_1]
  generalize mrks r0 r1 l n (2 * n) = m1 at *
  clear hq hs ht R0 R1 h3 h4
  simp (disch := first | assumption | omega | (simp [*] <;> omega) | fail) [-getElem?_pos, List.getElem?_cons_zero, List.getElem?_cons_succ, w2, ho, lb3, lb4]
end
end

/- The reference's refinement of two graphs together: new colours. -/
section
open Go
open Classical
variable {nro : Nat}
noncomputable def stg (sm : Nat → Nat → Prop) : Nat → List Int × Int
 | 0 => ([], 0)
 | v + 1 => ((stg sm v).1 ++ [if colW (fun w => sm w v) (stg sm v).1 v 0 < 0 then (stg sm v).2 else colW (fun w => sm w v) (stg sm v).1 v 0], if colW (fun w => sm w v) (stg sm v).1 v 0 < 0 then (stg sm v).2 + 1 else (stg sm v).2)
theorem stg_len (sm : Nat → Nat → Prop) : ∀ v, (stg sm v).1.length = v ∧ 0 ≤ (stg sm v).2 ∧ (stg sm v).2 ≤ v
 | 0 => ⟨rfl, Int.le_refl _, Int.le_refl _⟩
 | v + 1 => by
  obtain ⟨h1, h2, h3⟩ := stg_len sm v
  rw [stg]
  refine ⟨by simp [h1], ?_, ?_⟩ <;> dsimp only <;> split <;> omega
theorem stg_all {sm : Nat → Nat → Prop} (rf : ∀ u, sm u u) (sy : ∀ {u w}, sm u w → sm w u) (tr : ∀ {u w x}, sm u w → sm w x → sm u x) : ∀ v,
  (∀ u w, u < v → w < v → ((stg sm v).1.getD u 0 = (stg sm v).1.getD w 0 ↔ sm u w)) ∧ (∀ w, w < v → 0 ≤ (stg sm v).1.getD w 0 ∧ (stg sm v).1.getD w 0 < (stg sm v).2) ∧ (∀ x, 0 ≤ x → x < (stg sm v).2 → ∃ w, w < v ∧ (stg sm v).1.getD w 0 = x)
 | 0 => ⟨fun u w h => by omega, fun w h => by omega, fun x h1 h2 => by simp [stg] at h2; omega⟩
 | v + 1 => by
  obtain ⟨i1, i2, i3⟩ := stg_all rf sy tr v
  obtain ⟨l1, l2, l3⟩ := stg_len sm v
  obtain ⟨w1, w2⟩ := colW_all (fun w => sm w v) (stg sm v).1 v (fun w hw => (i2 w hw).1) v 0 (by omega)
  rw [stg]
  obtain ⟨out, hout⟩ : ∃ o, o = (stg sm v).1 := ⟨_, rfl⟩
  obtain ⟨most, hmost⟩ : ∃ o, o = (stg sm v).2 := ⟨_, rfl⟩
  rw [← hout] at i1 i2 i3 l1 w1 w2 ⊢
  rw [← hmost] at i2 i3 l2 l3 ⊢
  obtain ⟨r, hr⟩ : ∃ r, r = colW (fun w => sm w v) out v 0 := ⟨_, rfl⟩
  rw [← hr] at w1 w2 ⊢
  by_cases c : r < 0
  ·rw [if_pos c, if_pos c]
   simp only
   have w1 := w1 c
   refine ⟨fun u w hu hw => ?_, fun w hw => ?_, fun x h1 h2 => ?_⟩
   ·by_cases eu : u = v
    ·by_cases ew : w = v
     ·subst eu ew; exact ⟨fun _ => rf _, fun _ => rfl⟩
     ·rw [getD_snoc' _ _ u (by omega), getD_snoc _ _ w (by omega)]
      have := (i2 w (by omega)).2
      refine ⟨fun h => by omega, fun h => absurd ?_ (w1 w (by omega) (by omega))⟩
      subst eu
      exact sy h
    ·by_cases ew : w = v
     ·rw [getD_snoc' _ _ w (by omega), getD_snoc _ _ u (by omega)]
      have := (i2 u (by omega)).2
      refine ⟨fun h => by omega, fun h => absurd ?_ (w1 u (by omega) (by omega))⟩
      subst ew
      exact h
     ·rw [getD_snoc _ _ u (by omega), getD_snoc _ _ w (by omega)]
      exact i1 u w (by omega) (by omega)
   ·by_cases ew : w = v
    ·rw [getD_snoc' _ _ w (by omega)]; omega
    ·rw [getD_snoc _ _ w (by omega)]
     have := i2 w (by omega)
     omega
   ·by_cases ex : x < most
    ·obtain ⟨w, hw, he⟩ := i3 x h1 ex
     exact ⟨w, by omega, by rw [getD_snoc _ _ w (by omega)]; exact he⟩
    ·exact ⟨v, by omega, by rw [getD_snoc' _ _ v (by omega)]; omega⟩
  ·rw [if_neg c, if_neg c]
   simp only
   obtain ⟨z, z1, z2, z3⟩ := w2 c
   have hz := i2 z z1
   refine ⟨fun u w hu hw => ?_, fun w hw => ?_, fun x h1 h2 => ?_⟩
   ·by_cases eu : u = v
    ·by_cases ew : w = v
     ·subst eu ew; exact ⟨fun _ => rf _, fun _ => rfl⟩
     ·rw [getD_snoc' _ _ u (by omega), getD_snoc _ _ w (by omega), z3, i1 z w z1 (by omega)]
      subst eu
      exact ⟨fun h => tr (sy z2) h, fun h => tr z2 h⟩
    ·by_cases ew : w = v
     ·rw [getD_snoc' _ _ w (by omega), getD_snoc _ _ u (by omega), z3, i1 u z (by omega) z1]
      subst ew
      exact ⟨fun h => tr h z2, fun h => tr h (sy z2)⟩
     ·rw [getD_snoc _ _ u (by omega), getD_snoc _ _ w (by omega)]
      exact i1 u w (by omega) (by omega)
   ·by_cases ew : w = v
    ·rw [getD_snoc' _ _ w (by omega)]; omega
    ·rw [getD_snoc _ _ w (by omega)]
     have := i2 w (by omega)
     omega
   ·obtain ⟨w, hw, he⟩ := i3 x h1 h2
    exact ⟨w, by omega, by rw [getD_snoc _ _ w (by omega)]; exact he⟩
def smB (l M : List Int) (u w : Nat) : Prop := l.getD u 0 = l.getD w 0 ∧ M.getD u 0 = M.getD w 0
theorem smB_all (l M : List Int) (v : Nat) : (∀ u w, u < v → w < v → ((stg (smB l M) v).1.getD u 0 = (stg (smB l M) v).1.getD w 0 ↔ smB l M u w)) ∧ (∀ w, w < v → 0 ≤ (stg (smB l M) v).1.getD w 0 ∧ (stg (smB l M) v).1.getD w 0 < (stg (smB l M) v).2) ∧ (∀ x, 0 ≤ x → x < (stg (smB l M) v).2 → ∃ w, w < v ∧ (stg (smB l M) v).1.getD w 0 = x) :=
 stg_all (sm := smB l M) (fun _ => ⟨rfl, rfl⟩) (fun h => ⟨h.1.symm, h.2.symm⟩) (fun h h' => ⟨h.1.trans h'.1, h.2.trans h'.2⟩) v
section
variable {G : VH} {lq tm tO p3 p4 tb : Value} {l M out : List Int} (hq : Sli G lq l) (hM : Sli G tm M) (hO : Sli G tO out) (o3 : Old G.length p3) (o4 : Old G.length p4) (ob : Old G.length tb)
include hq hM hO o3 o4 ob
theorem l_both_3 {v : Nat} (hl : v < l.length) (hm : v < M.length) (ho : out.length = v) (hv : v ≤ 1000) (n co most : Int) (k : Nat) : ∀ w, k = v - w → w ≤ v →
  floop (vcall F nro) nro [2, 3, 4, 8, 9, 10, 16, 17, 18, 19, 20, 21] i_zz67_B3 G [lq, p3, p4, .int .i64 n, .int .i64 co, tm, tO, .int .i64 most, tb, .int .i64 v, .int .i64 (-1), .int .i64 w] G =
   some (.exit 8, fl [(2, lq), (3, p3), (4, p4), (8, .int .i64 n), (9, .int .i64 co), (10, tm), (16, tO), (17, .int .i64 most), (18, tb), (19, .int .i64 v), (20, .int .i64 (colW (fun w => smB l M w v) out v w))], G) := by
 have qo := hq.old
 have mo := hM.old
 have oo := hO.old
 induction k with
 | zero =>
  intro w hk hw
  have h2 : ¬ (w : Int) < v := by omega
  rw [colW, if_neg (by omega), floop_at i_zz67_B3.eq_1]
  clear hq hM hO
  simp (disch := first | assumption | omega | (simp [*] <;> omega) | fail) [-getElem?_pos, List.getElem?_cons_zero, List.getElem?_cons_succ, h2, qo, mo, oo, o3, o4, ob]
 | succ k ih =>
  intro w hk hw
  have h1 : w < v := by omega
  have h2 : (w : Int) < v := by omega
  have ih := ih (w + 1) (by omega) (by omega)
  have x1 := hq.vidx (k := .i64) (j := (w : Int)) (by omega) (by omega)
  have x2 := hq.vload (j := w) (by omega)
  have y1 := hq.vidx (k := .i64) (j := (v : Int)) (by omega) (by omega)
  have y2 := hq.vload hl
  have z1 := hM.vidx (k := .i64) (j := (w : Int)) (by omega) (by omega)
  have z2 := hM.vload (j := w) (by omega)
  have z3 := hM.vidx (k := .i64) (j := (v : Int)) (by omega) (by omega)
  have z4 := hM.vload hm
  have u1 := hO.vidx (k := .i64) (j := (w : Int)) (by omega) (by omega)
  have u2 := hO.vload (j := w) (by omega)
  have w1 : IntKind.i64.wrap ((w : Int) + 1) = (w : Int) + 1 := wrap64 (by omega) (by omega)
  rw [← getD_at] at x2 y2 z2 z4 u2
  simp only [Int.toNat_natCast] at x1 y1 z1 z3 u1
  rw [colW, if_pos h1]
  obtain ⟨r, hr⟩ : ∃ r, r = colW (fun w => smB l M w v) out v (w + 1) := ⟨_, rfl⟩
  rw [← hr] at ih ⊢
  rw [show ((w + 1 : Nat) : Int) = (w : Int) + 1 by omega] at ih
  unfold smB
  generalize l.getD w 0 = a at *
  generalize l.getD v 0 = b at *
  generalize M.getD w 0 = c at *
  generalize M.getD v 0 = d at *
  generalize out.getD w 0 = o at *
  rw [floop_at i_zz67_B3.eq_1]
  clear hq hM hO hr
  by_cases c1 : a = b
  ·by_cases c2 : c = d
   ·rw [if_pos ⟨c1, c2⟩]
    simp (disch := first | assumption | omega | (simp [*] <;> omega) | fail) [-getElem?_pos, List.getElem?_cons_zero, List.getElem?_cons_succ, h2, x1, x2, y1, y2, z1, z2, z3, z4, u1, u2, c1, c2, w1, qo, mo, oo, o3, o4, ob]
   ·rw [if_neg fun h => c2 h.2]
    simp (disch := first | assumption | omega | (simp [*] <;> omega) | fail) [-getElem?_pos, List.getElem?_cons_zero, List.getElem?_cons_succ, h2, x1, x2, y1, y2, z1, z2, z3, z4, c1, c2, w1, ih, qo, mo, oo, o3, o4, ob]
  ·rw [if_neg fun h => c1 h.1]
   simp (disch := first | assumption | omega | (simp [*] <;> omega) | fail) [-getElem?_pos, List.getElem?_cons_zero, List.getElem?_cons_succ, h2, x1, x2, y1, y2, c1, w1, ih, qo, mo, oo, o3, o4, ob]
end
noncomputable def blF (out : List Int) (n : Nat) (v : Nat) (x : Int) : Int := sumF (fun w => if out.getD w 0 = x then (if w < n then 1 else -1) else 0) v
theorem blF_rng (out : List Int) (n v : Nat) (x : Int) : -(v : Int) ≤ blF out n v x ∧ blF out n v x ≤ v := by
 unfold blF
 induction v with
 | zero => exact ⟨Int.le_refl _, Int.le_refl _⟩
 | succ v ih =>
  rw [sumF]
  constructor <;> split <;> (try split) <;> omega
section
variable {H : VH} {lq p3 p4 : Value} {l M : List Int} {n : Nat} (hn : nro ≤ H.length) (hq : Sli H lq l) (hl : l.length = 2 * n) (hm : M.length = 2 * n) (h62 : n ≤ 62) (o3 : Old H.length p3) (o4 : Old H.length p4)
include hn hq hl hm h62 o3 o4
set_option maxHeartbeats 2000000 in
theorem l_both_4 (co : Int) : ∃ bal : List Int, bal.length = 2 * n ∧ (∀ x : Nat, x < 2 * n → bal.getD x 0 = blF (stg (smB l M) (2 * n)).1 n (2 * n) x) ∧
  floop (vcall F nro) nro [2, 3, 4, 8, 9, 10, 16, 17, 18, 19] i_zz67_B4 (H ++ [⟨1, ints M⟩, ⟨1, []⟩, ⟨1, ints (List.replicate (2 * n) 0)⟩]) [lq, p3, p4, .int .i64 n, .int .i64 co, .slice (some ⟨H.length, 0, none⟩) (2 * n) (2 * n), .slice (some ⟨H.length + 1, 0, none⟩) 0 0, .int .i64 0, .slice (some ⟨H.length + 2, 0, none⟩) (2 * n) (2 * n), .int .i64 0] (H ++ [⟨1, ints M⟩, ⟨1, []⟩, ⟨1, ints (List.replicate (2 * n) 0)⟩]) =
   some (.exit 6, fl [(3, p3), (4, p4), (8, .int .i64 n), (9, .int .i64 co), (16, .slice (some ⟨H.length + 1, 0, none⟩) (2 * n) (2 * n)), (17, .int .i64 (stg (smB l M) (2 * n)).2), (18, .slice (some ⟨H.length + 2, 0, none⟩) (2 * n) (2 * n))], H ++ [⟨1, ints M⟩, ⟨1, ints (stg (smB l M) (2 * n)).1⟩, ⟨1, ints bal⟩]) := by
 have hn' := fun k => Nat.le_trans hn (Nat.le_add_right H.length k)
 have ho := fun k => hq.oldk (k := k)
 have o3k := fun k => o3.le (Nat.le_add_right H.length k)
 have o4k := fun k => o4.le (Nat.le_add_right H.length k)
 have w2 : IntKind.i64.wrap (2 * (n : Int)) = 2 * (n : Int) := wrap64 (by omega) (by omega)
 refine Exists.elim (for_upR (call := vcall F nro) (nro := nro) (live := [2, 3, 4, 8, 9, 10, 16, 17, 18, 19]) (c := i_zz67_B4) (h0 := H ++ [⟨1, ints M⟩, ⟨1, []⟩, ⟨1, ints (List.replicate (2 * n) 0)⟩]) (n := 2 * n)
  (fun v (_ : List Int) => [lq, p3, p4, .int .i64 n, .int .i64 co, .slice (some ⟨H.length, 0, none⟩) (2 * n) (2 * n), .slice (some ⟨H.length + 1, 0, none⟩) v v, .int .i64 (stg (smB l M) v).2, .slice (some ⟨H.length + 2, 0, none⟩) (2 * n) (2 * n), .int .i64 v])
  (fun v bal => H ++ [⟨1, ints M⟩, ⟨1, ints (stg (smB l M) v).1⟩, ⟨1, ints bal⟩]) (fun v bal => bal.length = 2 * n ∧ ∀ x : Nat, x < 2 * n → bal.getD x 0 = blF (stg (smB l M) v).1 n v x)
  (fun bal => some (.exit 6, fl [(3, p3), (4, p4), (8, .int .i64 n), (9, .int .i64 co), (16, .slice (some ⟨H.length + 1, 0, none⟩) (2 * n) (2 * n)), (17, .int .i64 (stg (smB l M) (2 * n)).2), (18, .slice (some ⟨H.length + 2, 0, none⟩) (2 * n) (2 * n))], H ++ [⟨1, ints M⟩, ⟨1, ints (stg (smB l M) (2 * n)).1⟩, ⟨1, ints bal⟩])) ?_ ?_ 0 (List.replicate (2 * n) 0) (Nat.zero_le _) ⟨by simp, fun x hx => ?_⟩) ?_
 ·rintro v bal hv hv2 ⟨hbl, hI⟩
  obtain ⟨q1, q2, q3⟩ := stg_len (smB l M) v
  obtain ⟨s1, s2, s3⟩ := smB_all l M (v + 1)
  have hcr := s2 v (by omega)
  have hmr := (stg_len (smB l M) (v + 1)).2.2
  have hst : stg (smB l M) (v + 1) = ((stg (smB l M) v).1 ++ [if colW (fun w => smB l M w v) (stg (smB l M) v).1 v 0 < 0 then (stg (smB l M) v).2 else colW (fun w => smB l M w v) (stg (smB l M) v).1 v 0], if colW (fun w => smB l M w v) (stg (smB l M) v).1 v 0 < 0 then (stg (smB l M) v).2 + 1 else (stg (smB l M) v).2) := rfl
  clear s1 s2 s3
  rw [hst] at hcr hmr ⊢
  simp only at hcr hmr ⊢
  rw [getD_snoc' _ _ v q1.symm] at hcr
  have l3 := l_both_3 (nro := nro) (G := H ++ [⟨1, ints M⟩, ⟨1, ints (stg (smB l M) v).1⟩, ⟨1, ints bal⟩]) (lq := lq) (tm := .slice (some ⟨H.length, 0, none⟩) (2 * n) (2 * n)) (tO := .slice (some ⟨H.length + 1, 0, none⟩) v v) (p3 := p3) (p4 := p4) (tb := .slice (some ⟨H.length + 2, 0, none⟩) (2 * n) (2 * n)) (M := M) (out := (stg (smB l M) v).1)
   (hq.app _) (by have := sli_at (h := H ++ [⟨1, ints M⟩, ⟨1, ints (stg (smB l M) v).1⟩, ⟨1, ints bal⟩]) (b := H.length) (xs := M) (by simp); rwa [hm] at this) (by have := sli_at (h := H ++ [⟨1, ints M⟩, ⟨1, ints (stg (smB l M) v).1⟩, ⟨1, ints bal⟩]) (b := H.length + 1) (xs := (stg (smB l M) v).1) (by simp); rwa [q1] at this)
   (by simp; exact o3k _) (by simp; exact o4k _) (by intro r hr; simp [trefs, vrefs, crefs, arefs] at hr; simp; omega) (v := v) (by omega) (by omega) q1 (by omega) n co (stg (smB l M) v).2 v 0 rfl (Nat.zero_le _)
  obtain ⟨c, hc⟩ : ∃ c, c = colW (fun w => smB l M w v) (stg (smB l M) v).1 v 0 := ⟨_, rfl⟩
  obtain ⟨out, hout⟩ : ∃ o, o = (stg (smB l M) v).1 := ⟨_, rfl⟩
  obtain ⟨most, hmost⟩ : ∃ o, o = (stg (smB l M) v).2 := ⟨_, rfl⟩
  rw [← hout] at hc hcr hmr l3 hI q1 ⊢
  rw [← hmost] at hcr hmr l3 q2 q3 ⊢
  rw [← hc] at hcr hmr l3 ⊢
  obtain ⟨col, hcol⟩ : ∃ col, col = if c < 0 then most else c := ⟨_, rfl⟩
  rw [← hcol] at hcr ⊢
  obtain ⟨x, hx⟩ : ∃ x : Nat, col = x := ⟨_, (Int.toNat_of_nonneg hcr.1).symm⟩
  have hx2 : x < 2 * n := by split at hcr <;> split at hmr <;> omega
  have hbx := hI x hx2
  have hrng := blF_rng out n v x
  refine ⟨bal.set x (bal.getD x 0 + if v < n then 1 else -1), ⟨by rw [List.length_set, hbl], fun y hy => ?_⟩, ?_⟩
  ·rw [set_getD (by omega)]
   have e : blF (out ++ [col]) n (v + 1) y = blF out n v y + if col = (y : Int) then (if v < n then 1 else -1) else 0 := by
    unfold blF
    rw [sumF, getD_snoc' _ _ v q1.symm]
    congr 1
    exact sumF_congr fun w hw => by rw [getD_snoc _ _ w (by omega)]
   rw [e]
   by_cases exy : y = x
   ·subst exy
    rw [if_pos rfl, if_pos hx, hI y hy]
   ·rw [if_neg exy, if_neg (by omega), hI y hy, Int.add_zero]
  ·have hil1 : (ints out).length = v := by rw [ints_length, q1]
   have hil2 : (ints bal).length = 2 * n := by rw [ints_length, hbl]
   have hap : ints out ++ [.int .i64 col] = ints (out ++ [col]) := by simp [ints]
   have b1 : (v + 1) * 8 ≤ 1099511627776 := by omega
   have b2 : v < 1099511627776 := by omega
   have tk := take1_ints (xs := bal) (j := x) (by omega)
   rw [← getD_at] at tk
   have hlt2 : (v : Int) < 2 * (n : Int) := by omega
   have w1 : IntKind.i64.wrap ((v : Int) + 1) = (v : Int) + 1 := wrap64 (by omega) (by omega)
   have w3 : IntKind.i64.wrap (bal.getD x 0 + 1) = bal.getD x 0 + 1 := wrap64 (by omega) (by omega)
   have w4 : IntKind.i64.wrap (bal.getD x 0 - 1) = bal.getD x 0 + -1 := by rw [show bal.getD x 0 - 1 = bal.getD x 0 + -1 by omega]; exact wrap64 (by omega) (by omega)
   have w5 : IntKind.i64.wrap (most + 1) = most + 1 := wrap64 (by omega) (by omega)
   have sp := fun y : Int => splice_ints (xs := bal) (j := x) (v := y) (by omega)
   have hcl := fun (nb : List Int) (vs : List Value) (hv : ∀ w ∈ vs, Old (H.length + 3) w) (L : VH) => cleanup_upd (h := H ++ [⟨1, ints M⟩, ⟨1, []⟩, ⟨1, ints (List.replicate (2 * n) 0)⟩]) (h' := H ++ [⟨1, ints M⟩, ⟨1, ints (out ++ [col])⟩, ⟨1, ints nb⟩]) (L := L) (vs := vs) (by
    have e : (H ++ [⟨1, ints M⟩, ⟨1, ints (out ++ [col])⟩, ⟨1, ints nb⟩] : VH) = ((H ++ [⟨1, ints M⟩, ⟨1, []⟩, ⟨1, ints (List.replicate (2 * n) 0)⟩] : VH).set (H.length + 1) ⟨1, ints (out ++ [col])⟩).set (H.length + 2) ⟨1, ints nb⟩ := by rw [hsetk, hsetk]; rfl
    rw [e]
    exact ((Upd.rfl' _).set' (flatO_ints _ _ _)).set' (flatO_ints _ _ _)) (by simpa using hv)
   have hil3 : ∀ y : Int, (ints (bal.set x y)).length = 2 * n := fun y => by rw [ints_length, List.length_set, hbl]
   generalize bal.getD x 0 = bx at *
   obtain ⟨z0, hz0⟩ : ∃ z, z = List.replicate (2 * n) (0 : Int) := ⟨_, rfl⟩
   rw [← hz0] at hcl ⊢
   have hx3 : (x : Int) < 2 * (n : Int) := by omega
   subst hx
   rw [floop_at i_zz67_B4.eq_1]
   simp at l3 hcl
   clear hst hI hc hout hmost hcr hmr hq hz0 hbx hrng
   by_cases c1 : c < 0
   ·rw [if_pos c1] at hcol ⊢
    subst hcol
    by_cases c2 : v < n
    ·rw [if_pos c2]
     simp (disch := first | assumption | omega | (simp [*] <;> omega) | fail) [-getElem?_pos, List.getElem?_cons_zero, List.getElem?_cons_succ, hv, hv2, hlt2, w2, l3, c1, c2, hil1, hil2, hap, b1, b2, tk, sp, hil3, hx2, hx3, w1, w3, w5, hcl, ho, o3k, o4k, hn', hn]
    ·rw [if_neg c2]
     simp (disch := first | assumption | omega | (simp [*] <;> omega) | fail) [-getElem?_pos, List.getElem?_cons_zero, List.getElem?_cons_succ, hv, hv2, hlt2, w2, l3, c1, c2, hil1, hil2, hap, b1, b2, tk, sp, hil3, hx2, hx3, w1, w4, w5, hcl, ho, o3k, o4k, hn', hn]
   ·rw [if_neg c1] at hcol ⊢
    subst hcol
    have c1' : ¬ (x : Int) < 0 := by omega
    by_cases c2 : v < n
    ·rw [if_pos c2]
     simp (disch := first | assumption | omega | (simp [*] <;> omega) | fail) [-getElem?_pos, List.getElem?_cons_zero, List.getElem?_cons_succ, hv, hv2, hlt2, w2, l3, c1', c2, hil1, hil2, hap, b1, b2, tk, sp, hil3, hx2, hx3, w1, w3, hcl, ho, o3k, o4k, hn', hn]
    ·rw [if_neg c2]
     simp (disch := first | assumption | omega | (simp [*] <;> omega) | fail) [-getElem?_pos, List.getElem?_cons_zero, List.getElem?_cons_succ, hv, hv2, hlt2, w2, l3, c1', c2, hil1, hil2, hap, b1, b2, tk, sp, hil3, hx2, hx3, w1, w4, hcl, ho, o3k, o4k, hn', hn]
 ·rintro bal _
  rw [floop_at i_zz67_B4.eq_1]
  generalize (stg (smB l M) (2 * n)).1 = out at *
  generalize (stg (smB l M) (2 * n)).2 = most at *
  clear hq
  simp (disch := first | assumption | omega | (simp [*] <;> omega) | fail) [-getElem?_pos, List.getElem?_cons_zero, List.getElem?_cons_succ, w2, ho, o3k, o4k]
 ·rw [show (stg (smB l M) 0).1 = [] from rfl, getD_at _ (by simpa using hx)]
  simp [blF, sumF]
 ·rintro bal ⟨⟨h1, h2⟩, hf⟩
  exact ⟨bal, h1, h2, hf⟩
end
end

/- Program and reference refine alike. -/
section
open Go
theorem mem_getD {l : List Int} {x : Int} (h : x ∈ l) : ∃ w, w < l.length ∧ l.getD w 0 = x := by
 obtain ⟨w, hw, rfl⟩ := List.getElem_of_mem h
 exact ⟨w, hw, getD_at l hw⟩
inductive SCh (rows : List Int) (n : Nat) : List Int → List Int → Prop
 | last {l} : (stp rows l n n).1 = l → SCh rows n l l
 | more {l l'} : (stp rows l n n).1 ≠ l → SCh rows n (stp rows l n n).1 l' → SCh rows n l l'
theorem stp_part (rows l : List Int) (n : Nat) : (stp rows l n n).1.length = n ∧ PartOK (stp rows l n n).1 0 := ⟨(stp_len rows l n n).1, (stp_all rows l n n).2.2.2.1⟩
theorem SCh.part {rows : List Int} {n : Nat} {l l' : List Int} (h : SCh rows n l l') : l'.length = n ∧ PartOK l' 0 := by
 induction h with
 | last h => rw [← h]; exact stp_part _ _ _
 | more _ _ ih => exact ih
end

/- The reference's refinement of two graphs together, in plain terms. -/
section
open Go
open Classical
variable {nro : Nat}
def cOf (n : Nat) (l : List Int) : Nat → List Int := fun i => if i = 0 then l.take n else l.drop n
theorem cOf_0 {n : Nat} {l : List Int} (v : Nat) (hv : v < n) : (cOf n l 0).getD v 0 = l.getD v 0 := by
 unfold cOf
 rw [if_pos rfl, List.getD_eq_getElem?_getD, List.getElem?_take_of_lt hv, ← List.getD_eq_getElem?_getD]
theorem cOf_1 {n : Nat} {l : List Int} (v : Nat) : (cOf n l 1).getD v 0 = l.getD (n + v) 0 := by
 unfold cOf
 rw [if_neg (by omega), List.getD_eq_getElem?_getD, List.getElem?_drop, ← List.getD_eq_getElem?_getD]
theorem cOf_len {n : Nat} {l : List Int} (hl : l.length = 2 * n) : (cOf n l 0).length = n ∧ (cOf n l 1).length = n := by
 unfold cOf
 rw [if_pos rfl, if_neg (by omega), List.length_take, List.length_drop]
 omega
theorem iso_permL {rows : Nat → List Int} {n : Nat} {c : Nat → List Int} (h0 : (c 0).length = n) (h1 : (c 1).length = n) {p : Nat → Nat} (I : Iso rows n c p) : (c 0).Perm (c 1) := by
 have h0 := list_map h0
 have h1 := list_map h1
 have e : (List.range n).map (fun v => (c 0).getD v 0) = ((List.range n).map p).map fun v => (c 1).getD v 0 := by
  rw [List.map_map]
  exact List.map_congr_left fun v hv => I.col v (List.mem_range.mp hv)
 rw [h0, e, h1]
 have := (range_perm I.lt I.inj).map (fun v => (c 1).getD v 0)
 rw [← h1]
 rw [← h1] at this
 exact this
theorem sumF_split (f : Nat → Int) (n : Nat) : ∀ m, sumF f (n + m) = sumF f n + sumF (fun i => f (n + i)) m
 | 0 => by simp [sumF]
 | m + 1 => by
  rw [← Nat.add_assoc, sumF, sumF_split f n m, sumF]
  omega
theorem count_sum (x : Int) : ∀ l : List Int, (l.count x : Int) = sumF (fun w => oneIf (l.getD w 0 = x)) l.length
 | [] => rfl
 | a :: t => by
  rw [List.length_cons, sumF_front, List.count_cons]
  have ih := count_sum x t
  have e : (fun i => oneIf ((a :: t).getD (i + 1) 0 = x)) = fun i => oneIf (t.getD i 0 = x) := rfl
  rw [e, ← ih]
  show _ = oneIf (a = x) + _
  by_cases c : a = x
  ·rw [one_pos c, if_pos (by simpa using c)]; omega
  ·rw [one_neg c, if_neg (by simpa using c)]; omega
theorem bl_count {n : Nat} {l : List Int} (hl : l.length = 2 * n) (x : Int) : blF l n (2 * n) x = ((cOf n l 0).count x : Int) - (cOf n l 1).count x := by
 obtain ⟨h0, h1⟩ := cOf_len hl
 rw [count_sum, count_sum, h0, h1]
 unfold blF
 rw [show 2 * n = n + n by omega, sumF_split]
 have e0 : sumF (fun w => oneIf ((cOf n l 0).getD w 0 = x)) n = sumF (fun w => if l.getD w 0 = x then (if w < n then 1 else -1) else 0) n := sumF_congr fun w hw => by
  rw [cOf_0 w hw]
  by_cases c : l.getD w 0 = x
  ·rw [one_pos c, if_pos c, if_pos hw]
  ·rw [one_neg c, if_neg c]
 have e1 : sumF (fun i => if l.getD (n + i) 0 = x then (if n + i < n then 1 else -1) else 0) n = sumF (fun w => -1 * oneIf ((cOf n l 1).getD w 0 = x)) n := sumF_congr fun w hw => by
  rw [cOf_1 w]
  by_cases c : l.getD (n + w) 0 = x
  ·rw [one_pos c, if_pos c, if_neg (by omega)]; rfl
  ·rw [one_neg c, if_neg c]; rfl
 rw [e0, e1, sumF_mul]
 omega
theorem bal_perm {n : Nat} {l : List Int} (hl : l.length = 2 * n) (hr : ∀ w, w < 2 * n → 0 ≤ l.getD w 0 ∧ l.getD w 0 < (2 * n : Nat)) : (∀ x : Nat, x < 2 * n → blF l n (2 * n) x = 0) ↔ (cOf n l 0).Perm (cOf n l 1) := by
 obtain ⟨h0, h1⟩ := cOf_len hl
 rw [List.perm_iff_count]
 constructor
 ·intro h x
  have hb := bl_count hl x
  by_cases c : 0 ≤ x ∧ x < (2 * n : Nat)
  ·have := h x.toNat (by omega)
   rw [Int.toNat_of_nonneg c.1] at this
   omega
  ·have z0 : (cOf n l 0).count x = 0 := List.count_eq_zero.mpr fun hm => by
    obtain ⟨w, hw, e⟩ := mem_getD hm
    rw [cOf_0 w (by omega)] at e
    have := hr w (by omega)
    omega
   have z1 : (cOf n l 1).count x = 0 := List.count_eq_zero.mpr fun hm => by
    obtain ⟨w, hw, e⟩ := mem_getD hm
    rw [cOf_1 w] at e
    have := hr (n + w) (by omega)
    omega
   rw [z0, z1]
 ·intro h x hx
  rw [bl_count hl, h]
  omega
section
variable {r0 r1 l : List Int} {n : Nat} (hl : l.length = 2 * n)
include hl
theorem both_iso (p : Nat → Nat) : Iso (two r0 r1) n (cOf n l) p ↔ Iso (two r0 r1) n (cOf n (stg (smB l (mrks r0 r1 l n (2 * n))) (2 * n)).1) p := by
 obtain ⟨i1, i2, i3⟩ := smB_all l (mrks r0 r1 l n (2 * n)) (2 * n)
 constructor
 ·intro I
  refine ⟨I.lt, I.inj, I.adj, fun v hv => ?_⟩
  have hpv := I.lt v hv
  rw [cOf_0 v hv, cOf_1, i1 v (n + p v) (by omega) (by omega)]
  have hc := I.col v hv
  rw [cOf_0 v hv, cOf_1] at hc
  refine ⟨hc, ?_⟩
  rw [mrks_at _ _ _ (by omega), mrks_at _ _ _ (by omega)]
  unfold mrk mkS adj2
  rw [if_pos hv, if_neg (show ¬ n + p v < n by omega)]
  congr 1
  simp only [if_pos hv, if_neg (show ¬ n + p v < n by omega), Nat.add_sub_cancel_left, Nat.zero_add]
  rw [← sumF_re I.lt I.inj (fun w => if rbit r1 (p v) w = true then mkX (l.getD (n + w) 0) else 0)]
  refine sumF_congr fun w hw => ?_
  have ha := I.adj v w hv hw
  have hcw := I.col w hw
  rw [cOf_0 w hw, cOf_1] at hcw
  have ha : rbit r0 v w = true ↔ rbit r1 (p v) (p w) = true := ha
  by_cases c : rbit r0 v w = true
  ·rw [if_pos c, if_pos (ha.mp c), hcw]
  ·rw [if_neg c, if_neg fun h => c (ha.mpr h)]
 ·intro I
  refine ⟨I.lt, I.inj, I.adj, fun v hv => ?_⟩
  have hpv := I.lt v hv
  have := I.col v hv
  rw [cOf_0 v hv, cOf_1, i1 v (n + p v) (by omega) (by omega)] at this
  rw [cOf_0 v hv, cOf_1]
  exact this.1
end
structure BothOK (r0 r1 : List Int) (n : Nat) (l l' : List Int) : Prop where
 len : l'.length = 2 * n
 rng : ∀ w, w < 2 * n → 0 ≤ l'.getD w 0 ∧ l'.getD w 0 < (2 * n : Nat)
 iso : ∀ p, Iso (two r0 r1) n (cOf n l) p ↔ Iso (two r0 r1) n (cOf n l') p
 fine : ∀ u w, u < 2 * n → w < 2 * n → l'.getD u 0 = l'.getD w 0 → l.getD u 0 = l.getD w 0
 perm : (cOf n l' 0).Perm (cOf n l' 1)
section
variable {G : VH} {p3 p4 tO tb : Value} {bal : List Int} (o3 : Old G.length p3) (o4 : Old G.length p4) (oO : Old G.length tO) (hb : Sli G tb bal) (hbl : bal.length ≤ 1000)
include o3 o4 oO hb hbl
theorem l_both_5 (n co most : Int) : floop (vcall F nro) nro [3, 4, 8, 9, 16, 17, 18, 22] i_zz67_B5 G [p3, p4, .int .i64 n, .int .i64 co, tO, .int .i64 most, tb, .int .i64 0] G =
  if ∃ x, 0 ≤ x ∧ x < bal.length ∧ bal.getD x 0 ≠ 0 then some (.ret, fl [(6, .slice none 0 0), (7, .bool false)], G) else some (.exit 10, fl [(3, p3), (4, p4), (8, .int .i64 n), (9, .int .i64 co), (16, tO), (17, .int .i64 most)], G) := by
 have hbo := hb.old
 have ln := hb.vlen
 refine for_find (call := vcall F nro) (nro := nro) (live := [3, 4, 8, 9, 16, 17, 18, 22]) (c := i_zz67_B5) (h0 := G) (n := bal.length) (fun x => [p3, p4, .int .i64 n, .int .i64 co, tO, .int .i64 most, tb, .int .i64 x]) G (fun x => bal.getD x 0 ≠ 0) _ _ ?_ ?_ 0 (Nat.zero_le _)
 ·intro x hx hx2
  have vx := hb.vidx (k := .i64) (j := (x : Int)) (by omega) (by omega)
  have vl := hb.vload hx
  rw [← getD_at] at vl
  simp only [Int.toNat_natCast] at vx
  have w1 : IntKind.i64.wrap ((x : Int) + 1) = (x : Int) + 1 := wrap64 (by omega) (by omega)
  generalize bal.getD x 0 = y at *
  refine ⟨fun hbad => ?_, fun hok => ?_⟩
  ·rw [floop_at i_zz67_B5.eq_1]
   clear hb
   simp (disch := first | assumption | omega | (simp [*] <;> omega) | fail) [-getElem?_pos, List.getElem?_cons_zero, List.getElem?_cons_succ, hx, hx2, ln, vx, vl, hbad, o3, o4, oO, hbo]
  ·have hok : y = 0 := Classical.byContradiction hok
   subst hok
   rw [floop_at i_zz67_B5.eq_1]
   clear hb
   simp (disch := first | assumption | omega | (simp [*] <;> omega) | fail) [-getElem?_pos, List.getElem?_cons_zero, List.getElem?_cons_succ, hx, hx2, ln, vx, vl, w1, o3, o4, oO, hbo]
 ·rw [floop_at i_zz67_B5.eq_1]
  clear hb
  simp (disch := first | assumption | omega | (simp [*] <;> omega) | fail) [-getElem?_pos, List.getElem?_cons_zero, List.getElem?_cons_succ, ln, o3, o4, oO, hbo]
end
end

/- The reference's refinement of two graphs together: the whole. -/
section
open Go
open Classical
variable {nro : Nat}
theorem Old.ptr {k b off : Nat} {sp : Option Nat} (h : b < k) : Old k (.pointer (some ⟨b, off, sp⟩)) := by
 intro r hr
 simp [trefs, vrefs, crefs, arefs] at hr
 omega
theorem Old.slice {k b off n t : Nat} {sp : Option Nat} (h : b < k) : Old k (.slice (some ⟨b, off, sp⟩) n t) := by
 intro r hr
 simp [trefs, vrefs, crefs, arefs] at hr
 omega
def Both6 (nro : Nat) (X : VH) (b3 b4 n : Nat) (r0 r1 : List Int) (m : Nat) (l : List Int) (lq : Value) (L0 : VH) : Prop :=
  (∃ L', floop (vcall F nro) nro [2, 3, 4, 8, 9] i_zz67_B6 X [lq, .pointer (some ⟨b3, 0, some 2⟩), .pointer (some ⟨b4, 0, some 2⟩), .int .i64 n, .int .i64 m] (X ++ L0) = some (.ret, fl [(6, .slice none 0 0), (7, .bool false)], X ++ L') ∧ ¬ HasIso (two r0 r1) n (cOf n l)) ∨
  (∃ L' e l', floop (vcall F nro) nro [2, 3, 4, 8, 9] i_zz67_B6 X [lq, .pointer (some ⟨b3, 0, some 2⟩), .pointer (some ⟨b4, 0, some 2⟩), .int .i64 n, .int .i64 m] (X ++ L0) = some (.ret, fl [(6, .slice (some ⟨X.length + e, 0, none⟩) (2 * n) (2 * n)), (7, .bool true)], X ++ L') ∧ L'[e]? = some ⟨1, ints l'⟩ ∧ BothOK r0 r1 n l l')
section
variable {X : VH} {s t : Value} {r0 r1 : List Int} {n b3 b4 : Nat} (hn : nro ≤ X.length) (h3 : X[b3]? = some ⟨0, [.int .i64 n, s]⟩) (h4 : X[b4]? = some ⟨0, [.int .i64 n, t]⟩) (hs : Sli X s r0) (ht : Sli X t r1) (R0 : Rok n r0) (R1 : Rok n r1)
include hn h3 h4 hs ht R0 R1
set_option maxHeartbeats 4000000 in
theorem both_core (m : Nat) (l : List Int) (lq : Value) (L0 : VH) (hq : Sli (X ++ L0) lq l) (hl : l.length = 2 * n) (hocc : ∀ x : Nat, x < m → ∃ w, w < 2 * n ∧ l.getD w 0 = x) (hn1 : 1 ≤ n)
  (ih : ∀ (m' : Nat) (l' : List Int), m < m' → m' ≤ 2 * n → l'.length = 2 * n → (∀ x : Nat, x < m' → ∃ w, w < 2 * n ∧ l'.getD w 0 = x) → Both6 nro X b3 b4 n r0 r1 m' l' (.slice (some ⟨X.length, 0, none⟩) (2 * n) (2 * n)) [⟨1, ints l'⟩]) : Both6 nro X b3 b4 n r0 r1 m l lq L0 := by
 have h62 := R0.le
 have lb3 := (List.getElem?_eq_some_iff.mp h3).1
 have lb4 := (List.getElem?_eq_some_iff.mp h4).1
 have hnH : nro ≤ (X ++ L0).length := by simp; omega
 have h3' : (X ++ L0)[b3]? = some ⟨0, [.int .i64 n, s]⟩ := by rw [List.getElem?_append_left lb3]; exact h3
 have h4' : (X ++ L0)[b4]? = some ⟨0, [.int .i64 n, t]⟩ := by rw [List.getElem?_append_left lb4]; exact h4
 have f2 := l_both_2 (nro := nro) hnH hq hl h3' h4' (hs.app L0) (ht.app L0) R0 R1 m
 obtain ⟨bal, bl1, bl2, f4⟩ := l_both_4 (nro := nro) (H := X ++ L0) (lq := lq) (p3 := .pointer (some ⟨b3, 0, some 2⟩)) (p4 := .pointer (some ⟨b4, 0, some 2⟩)) (l := l) (M := mrks r0 r1 l n (2 * n)) (n := n) hnH hq hl (mrks_len _ _ _ _ _) h62 (Old.ptr (by simp; omega)) (Old.ptr (by simp; omega)) m
 obtain ⟨i1, i2, i3⟩ := smB_all l (mrks r0 r1 l n (2 * n)) (2 * n)
 obtain ⟨g1, g2, g3⟩ := stg_len (smB l (mrks r0 r1 l n (2 * n))) (2 * n)
 have hiso := both_iso (r0 := r0) (r1 := r1) (l := l) (n := n) hl
 obtain ⟨Ms, hMs⟩ : ∃ Ms, Ms = mrks r0 r1 l n (2 * n) := ⟨_, rfl⟩
 obtain ⟨O, hO⟩ : ∃ O, O = (stg (smB l (mrks r0 r1 l n (2 * n))) (2 * n)).1 := ⟨_, rfl⟩
 obtain ⟨mo, hmo⟩ : ∃ mo : Nat, (stg (smB l (mrks r0 r1 l n (2 * n))) (2 * n)).2 = mo := ⟨_, (Int.toNat_of_nonneg g2).symm⟩
 rw [← hO] at i1 i2 i3 f4
 rw [hmo] at i2 i3 f4
 rw [← hO] at bl2 hiso g1
 rw [hmo] at g2 g3
 have f5 := l_both_5 (nro := nro) (G := X ++ L0 ++ [⟨1, ints Ms⟩, ⟨1, ints O⟩, ⟨1, ints bal⟩]) (p3 := .pointer (some ⟨b3, 0, some 2⟩)) (p4 := .pointer (some ⟨b4, 0, some 2⟩)) (tO := .slice (some ⟨(X ++ L0).length + 1, 0, none⟩) (2 * n) (2 * n)) (tb := .slice (some ⟨(X ++ L0).length + 2, 0, none⟩) (2 * n) (2 * n)) (bal := bal) (Old.ptr (by simp; omega)) (Old.ptr (by simp; omega)) (Old.slice (by simp; omega))
  (by have := sli_at (h := X ++ L0 ++ [⟨1, ints Ms⟩, ⟨1, ints O⟩, ⟨1, ints bal⟩]) (b := (X ++ L0).length + 2) (xs := bal) (by rw [hgetk]; rfl); rwa [bl1] at this) (by omega) n m mo
 have hrng : ∀ w, w < 2 * n → 0 ≤ O.getD w 0 ∧ O.getD w 0 < (2 * n : Nat) := fun w hw => by have := i2 w hw; omega
 have hperm := bal_perm g1 hrng
 have hbad : (∃ x, 0 ≤ x ∧ x < bal.length ∧ bal.getD x 0 ≠ 0) ↔ ¬ (cOf n O 0).Perm (cOf n O 1) := by
  rw [← hperm]
  constructor
  ·rintro ⟨x, _, hx, hne⟩ hall
   rw [bl2 x (by omega)] at hne
   exact hne (hall x (by omega))
  ·intro hno
   apply Classical.byContradiction
   intro hno2
   refine hno fun x hx => ?_
   rw [← bl2 x hx]
   apply Classical.byContradiction
   intro hne
   exact hno2 ⟨x, Nat.zero_le _, by omega, hne⟩
 rw [propext hbad] at f5
 have hMl : (ints Ms).length = 2 * n := by rw [hMs, ints_length, mrks_len]
 have hOl : (ints O).length = 2 * n := by rw [ints_length, g1]
 rw [← hMs] at f2 f4
 have w2 : IntKind.i64.wrap (2 * (n : Int)) = ((2 * n : Nat) : Int) := by rw [show 2 * (n : Int) = ((2 * n : Nat) : Int) by omega]; exact wrap64 (by omega) (by omega)
 have e8 : 8 * ((2 * n : Nat) : Int) ≤ 140737488355328 := by omega
 have e9 : ((2 * n : Nat) : Int) ≤ 140737488355328 := by omega
 have hn' := fun k => Nat.le_trans hn (Nat.le_add_right X.length k)
 obtain ⟨z0, hz0⟩ : ∃ z, z = List.replicate (2 * n) (0 : Int) := ⟨_, rfl⟩
 rw [← hz0] at f4
 have hz1 : List.replicate (2 * n) (Value.int .i64 0) = ints z0 := by rw [hz0]; unfold ints; rw [List.map_replicate]
 have qo := hq.old
 have qok := fun k => hq.oldk (k := k)
 obtain ⟨H, hH⟩ : ∃ H, H = X ++ L0 := ⟨_, rfl⟩
 have hHl : H.length = X.length + L0.length := by rw [hH]; simp
 have hnH' := fun k => Nat.le_trans hnH (Nat.le_add_right (X ++ L0).length k)
 rw [← hH] at f2 f4 f5 hnH hnH' qo qok
 have hlb3 : b3 < H.length := by omega
 have hlb4 : b4 < H.length := by omega
 by_cases hp : (cOf n O 0).Perm (cOf n O 1)
 ·rw [if_neg (fun h => h hp)] at f5
  have ok : BothOK r0 r1 n l O := ⟨g1, hrng, hiso, fun u w hu hw e => ((i1 u w hu hw).mp e).1, hp⟩
  by_cases hm : mo = m
  ·refine .inr ⟨L0 ++ [⟨1, ints Ms⟩, ⟨1, ints O⟩, ⟨1, ints bal⟩], L0.length + 1, O, ?_, by rw [List.getElem?_append_right (by omega), show L0.length + 1 - L0.length = 1 by omega]; rfl, ok⟩
   rw [← List.append_assoc, ← hH, show X.length + (L0.length + 1) = H.length + 1 by omega]
   rw [floop_at i_zz67_B6.eq_1]
   subst hm
   clear hs ht R0 R1 hq h3 h4 h3' h4' i1 i2 i3 hiso hO hmo hMs hz0 hrng hperm hbad hp ok ih hocc bl2 hH
   generalize 2 * n = n2 at *
   simp (disch := first | assumption | omega | (simp [*] <;> omega) | fail) [-getElem?_pos, List.getElem?_cons_zero, List.getElem?_cons_succ, f2, f4, f5, w2, e8, e9, hz1, hMl, hOl, hnH, hnH', qo, qok, hlb3, hlb4, bl1]
  ·have hlt : m < mo := by
    have : m ≤ mo := by
     obtain ⟨f, hf⟩ := Classical.axiomOfChoice (r := fun (x w : Nat) => x < m → w < 2 * n ∧ l.getD w 0 = x) (fun x => by
      by_cases hx : x < m
      ·obtain ⟨w, h1, h2⟩ := hocc x hx
       exact ⟨w, fun _ => ⟨h1, h2⟩⟩
      ·exact ⟨0, fun h => absurd h hx⟩)
     refine inj_le m mo (fun x => (O.getD (f x) 0).toNat) (fun x hx => ?_) (fun x y hx hy e => ?_)
     ·have := i2 (f x) (hf x hx).1
      show (O.getD (f x) 0).toNat < mo
      omega
     ·have h1 := i2 (f x) (hf x hx).1
      have h2 := i2 (f y) (hf y hy).1
      have e : (O.getD (f x) 0).toNat = (O.getD (f y) 0).toNat := e
      have := ((i1 (f x) (f y) (hf x hx).1 (hf y hy).1).mp (by omega)).1
      rw [(hf x hx).2, (hf y hy).2] at this
      omega
    omega
   have r := ih mo O hlt (by omega) g1 (fun x hx => i3 x (by omega) (by omega))
   have hcl := clean_mid (h := X) (L := L0 ++ [⟨1, ints Ms⟩, ⟨1, ints O⟩, ⟨1, ints bal⟩]) (A := []) (B := [.pointer (some ⟨b3, 0, some 2⟩), .pointer (some ⟨b4, 0, some 2⟩), .int .i64 n, .int .i64 mo]) (k := L0.length + 1) (off := 0) (n := 2 * n) (t := 2 * n) (o := ⟨1, ints O⟩) (by simp) (by
    intro v hv
    simp only [List.mem_cons, List.not_mem_nil, or_false] at hv
    rcases hv with rfl | rfl | rfl | rfl
    ·exact Old.ptr lb3
    ·exact Old.ptr lb4
    ·intro r hr; simp [trefs, vrefs, crefs, arefs] at hr
    ·intro r hr; simp [trefs, vrefs, crefs, arefs] at hr) (by rw [List.getElem?_append_right (by omega), show L0.length + 1 - L0.length = 1 by omega]; rfl) (flatO_ints _ _ _)
   rw [← List.append_assoc, ← hH, show X.length + (L0.length + 1) = H.length + 1 by omega] at hcl
   have hstep : floop (vcall F nro) nro [2, 3, 4, 8, 9] i_zz67_B6 X [lq, .pointer (some ⟨b3, 0, some 2⟩), .pointer (some ⟨b4, 0, some 2⟩), .int .i64 n, .int .i64 m] (X ++ L0) = floop (vcall F nro) nro [2, 3, 4, 8, 9] i_zz67_B6 X [.slice (some ⟨X.length, 0, none⟩) (2 * n) (2 * n), .pointer (some ⟨b3, 0, some 2⟩), .pointer (some ⟨b4, 0, some 2⟩), .int .i64 n, .int .i64 mo] (X ++ [⟨1, ints O⟩]) := by
    rw [← hH, floop_at i_zz67_B6.eq_1]
    have hm2 : ¬ (mo : Int) = m := by omega
    simp only [List.nil_append] at hcl
    clear hs ht R0 R1 hq h3 h4 h3' h4' i1 i2 i3 hiso hO hmo hMs hz0 hrng hperm hbad hp ok ih hocc bl2 hH r
    generalize 2 * n = n2 at *
    simp (disch := first | assumption | omega | (simp [*] <;> omega) | fail) [-getElem?_pos, List.getElem?_cons_zero, List.getElem?_cons_succ, f2, f4, f5, w2, e8, e9, hz1, hMl, hOl, hnH, hnH', qo, qok, hlb3, hlb4, bl1, hm, hm2, hcl]
   unfold Both6
   rw [hstep]
   rcases r with ⟨L', r1, r2⟩ | ⟨L', e, l', r1, r2, r3⟩
   ·exact .inl ⟨L', r1, fun ⟨p, I⟩ => r2 ⟨p, (hiso p).mp I⟩⟩
   ·exact .inr ⟨L', e, l', r1, r2, r3.len, r3.rng, fun p => (hiso p).trans (r3.iso p), fun u w hu hw h => ok.fine u w hu hw (r3.fine u w hu hw h), r3.perm⟩
 ·rw [if_pos hp] at f5
  refine .inl ⟨L0 ++ [⟨1, ints Ms⟩, ⟨1, ints O⟩, ⟨1, ints bal⟩], ?_, fun ⟨p, I⟩ => hp (iso_permL (cOf_len g1).1 (cOf_len g1).2 ((hiso p).mp I))⟩
  rw [← List.append_assoc, ← hH]
  rw [floop_at i_zz67_B6.eq_1]
  clear hs ht R0 R1 hq h3 h4 h3' h4' i1 i2 i3 hiso hO hmo hMs hz0 hrng hperm hbad hp ih hocc bl2 hH
  generalize 2 * n = n2 at *
  simp (disch := first | assumption | omega | (simp [*] <;> omega) | fail) [-getElem?_pos, List.getElem?_cons_zero, List.getElem?_cons_succ, f2, f4, f5, w2, e8, e9, hz1, hMl, hOl, hnH, hnH', qo, qok, hlb3, hlb4, bl1]
theorem both_all (hn1 : 1 ≤ n) : ∀ (k m : Nat) (l : List Int) (lq : Value) (L0 : VH), 2 * n - m ≤ k → Sli (X ++ L0) lq l → l.length = 2 * n → (∀ x : Nat, x < m → ∃ w, w < 2 * n ∧ l.getD w 0 = x) → Both6 nro X b3 b4 n r0 r1 m l lq L0
 | 0, m, l, lq, L0, hk, hq, hl, ho => both_core hn h3 h4 hs ht R0 R1 m l lq L0 hq hl ho hn1 fun m' l' h1 h2 => by omega
 | k + 1, m, l, lq, L0, hk, hq, hl, ho => both_core hn h3 h4 hs ht R0 R1 m l lq L0 hq hl ho hn1 fun m' l' h1 h2 h5 h6 => both_all hn1 k m' l' _ _ (by omega) (by
   have := sli_at (h := X ++ [⟨1, ints l'⟩]) (b := X.length) (xs := l') (by simp)
   rwa [h5] at this) h5 h6
end
theorem c_zz67 {h : VH} {n : Nat} {s t lq : Value} {r0 r1 l : List Int} (hs : Sli h s r0) (ht : Sli h t r1) (R0 : Rok n r0) (R1 : Rok n r1) (hn1 : 1 ≤ n) (hn : nro ≤ h.length) (hq : Sli h lq l) (hl : l.length = 2 * n) :
  (vcall F nro k_zz67 [gv n s, gv n t, lq] h = some (.tuple #[.slice none 0 0, .bool false], h) ∧ ¬ HasIso (two r0 r1) n (cOf n l)) ∨
  (∃ l', vcall F nro k_zz67 [gv n s, gv n t, lq] h = some (.tuple #[.slice (some ⟨h.length, 0, none⟩) (2 * n) (2 * n), .bool true], h ++ [⟨1, ints l'⟩]) ∧ BothOK r0 r1 n l l') := by
 have hn' := fun k => Nat.le_trans hn (Nat.le_add_right h.length k)
 have r := both_all (nro := nro) (X := h ++ [⟨0, [.int .i64 n, s]⟩, ⟨0, [.int .i64 n, t]⟩]) (s := s) (t := t) (n := n) (b3 := h.length) (b4 := h.length + 1) (by simp; omega) (by simp) (by simp) (hs.app _) (ht.app _) R0 R1 hn1 _ 0 l lq [] (Nat.le_refl _) (by rw [List.append_nil]; exact hq.app _) hl (fun x hx => by omega)
 have sj := hs.nj
 have tj := ht.nj
 have qok := fun k => hq.oldk (k := k)
 unfold Both6 at r
 have hl2 : (h ++ [(⟨0, [.int .i64 n, s]⟩ : VO), ⟨0, [.int .i64 n, t]⟩]).length = h.length + 2 := by simp
 rw [hl2] at r
 rcases r with ⟨L', r1, r2⟩ | ⟨L', e, l', r1, r2, r3⟩
 ·refine .inl ⟨?_, r2⟩
  have hfin : ∀ L : VH, kclean h [.tuple #[.slice none 0 0, .bool false]] (h ++ L) = ([.tuple #[.slice none 0 0, .bool false]], h) := fun L => cleanup_upd (Upd.rfl' h) (by intro w hw; simp at hw; subst hw; intro r hr; simp [trefs, vrefs, crefs, arefs] at hr)
  refine v_zz67 (by simp [i_zz67]) ?_
  rw [fbody_eq]
  simp at r1 sj tj
  clear hs ht R0 R1 hq r2
  simp (disch := first | assumption | omega | (simp [*] <;> omega) | fail) [i_zz67, r1, hfin, sj, tj, qok, hn', hn, fresults, fresL, fres1]
 ·refine .inr ⟨l', ?_, r3⟩
  have hfin : kclean h [.tuple #[.slice (some ⟨h.length + (2 + e), 0, none⟩) (2 * n) (2 * n), .bool true]] (h ++ ([⟨0, [.int .i64 n, s]⟩, ⟨0, [.int .i64 n, t]⟩] ++ L')) = ([.tuple #[.slice (some ⟨h.length, 0, none⟩) (2 * n) (2 * n), .bool true]], h ++ [⟨1, ints l'⟩]) := by
   rw [cleanup_one_upd (Upd.rfl' h) (k := 2 + e) (o := ⟨1, ints l'⟩) (by simp [trefs, vrefs, crefs, arefs]) (by rw [List.getElem?_append_right (by simp; omega)]; simpa using r2) (flatO_ints _ _ _)]
   simp [tren, vren, cren, aren, renOf_one]
  rw [← Nat.add_assoc] at hfin
  refine v_zz67 (by simp [i_zz67]) ?_
  rw [fbody_eq]
  simp at r1 sj tj hfin
  clear hs ht R0 R1 hq r2 r3
  generalize 2 * n = n2 at *
  simp (disch := first | assumption | omega | (simp [*] <;> omega) | fail) [i_zz67, r1, hfin, sj, tj, qok, hn', hn, fresults, fresL, fres1]
end

/- The reference's search for a renumbering, in plain terms. -/
section
open Go
open Classical
def DstL (n j : Nat) (l : List Int) : Prop := ∃ f : Nat → Nat, (∀ i, i < j → f i < 2 * n) ∧ ∀ a b, a < j → b < j → l.getD (f a) 0 = l.getD (f b) 0 → a = b
theorem DstL.le {n j : Nat} {l : List Int} (h : DstL n j l) : j ≤ 2 * n := by
 obtain ⟨f, h1, h2⟩ := h
 exact inj_le j (2 * n) f h1 fun x y hx hy e => h2 x y hx hy (by rw [e])
theorem DstL.fine {r0 r1 : List Int} {n j : Nat} {l l' : List Int} (h : DstL n j l) (ok : BothOK r0 r1 n l l') : DstL n j l' := by
 obtain ⟨f, h1, h2⟩ := h
 exact ⟨f, h1, fun a b ha hb e => h2 a b ha hb (ok.fine _ _ (h1 a ha) (h1 b hb) e)⟩
def ownL (n : Nat) (l : List Int) (v x : Nat) : List Int := (l.set v ((2 * n : Nat) : Int)).set (n + x) ((2 * n : Nat) : Int)
theorem ownL_len (n : Nat) (l : List Int) (v x : Nat) : (ownL n l v x).length = l.length := by simp [ownL]
theorem ownL_at {n : Nat} {l : List Int} (hl : l.length = 2 * n) {v x : Nat} (hv : v < n) (hx : x < n) (u : Nat) : (ownL n l v x).getD u 0 = if u = n + x then ((2 * n : Nat) : Int) else if u = v then ((2 * n : Nat) : Int) else l.getD u 0 := by
 unfold ownL
 rw [set_getD (by simp; omega), set_getD (by omega)]
theorem DstL.own {n j : Nat} {l : List Int} (h : DstL n j l) (hl : l.length = 2 * n) (hr : ∀ w, w < 2 * n → 0 ≤ l.getD w 0 ∧ l.getD w 0 < (2 * n : Nat)) {v x u : Nat} (hv : v < n) (hx : x < n) (hu : u < n) (huv : u ≠ v) (hcu : l.getD u 0 = l.getD v 0) (hcx : l.getD (n + x) 0 = l.getD v 0) : DstL n (j + 1) (ownL n l v x) := by
 obtain ⟨f, h1, h2⟩ := h
 have key : ∀ i, i < j → (ownL n l v x).getD (if f i = v ∨ f i = n + x then u else f i) 0 = l.getD (f i) 0 := fun i hi => by
  rw [ownL_at hl hv hx]
  by_cases c : f i = v ∨ f i = n + x
  ·rw [if_pos c, if_neg (by omega), if_neg huv, hcu]
   rcases c with c | c
   ·rw [c]
   ·rw [c, hcx]
  ·rw [if_neg c, if_neg (by omega), if_neg (by omega)]
 refine ⟨fun i => if i < j then (if f i = v ∨ f i = n + x then u else f i) else v, fun i hi => ?_, fun a b ha hb e => ?_⟩
 ·dsimp only
  split
  ·rename_i hij
   have := h1 i hij
   split <;> omega
  ·omega
 ·dsimp only at e
  have hvv : (ownL n l v x).getD v 0 = ((2 * n : Nat) : Int) := by rw [ownL_at hl hv hx, if_neg (by omega), if_pos rfl]
  by_cases ca : a < j
  ·rw [if_pos ca, key a ca] at e
   have := hr (f a) (h1 a ca)
   by_cases cb : b < j
   ·rw [if_pos cb, key b cb] at e
    exact h2 a b ca cb e
   ·rw [if_neg cb, hvv] at e
    omega
  ·rw [if_neg ca, hvv] at e
   by_cases cb : b < j
   ·rw [if_pos cb, key b cb] at e
    have := hr (f b) (h1 b cb)
    omega
   ·omega
noncomputable def cn1 (l : List Int) (n : Nat) (x : Int) : Int := sumF (fun w => oneIf (l.getD w 0 = x)) n
theorem cn1_one {l : List Int} {n v : Nat} (hv : v < n) (h : cn1 l n (l.getD v 0) = 1) {u : Nat} (hu : u < n) (e : l.getD u 0 = l.getD v 0) : u = v := by
 apply Classical.byContradiction
 intro hne
 have h2 : sumF (fun i => oneIf (i = u) + oneIf (i = v)) n ≤ cn1 l n (l.getD v 0) := sumF_le fun i hi => by
  by_cases c1 : i = u
  ·subst c1
   rw [one_pos rfl, one_neg hne, one_pos e]
   omega
  ·rw [one_neg c1]
   by_cases c2 : i = v
   ·subst c2; rw [one_pos rfl, one_pos rfl]; omega
   ·rw [one_neg c2]
    have := one_nonneg (l.getD i 0 = l.getD v 0)
    omega
 rw [sumF_add, sumF_one (k := u) hu (fun i _ hi => one_neg hi), sumF_one (k := v) hv (fun i _ hi => one_neg hi), one_pos rfl, one_pos rfl] at h2
 omega
theorem cn1_more {l : List Int} {n v : Nat} (hv : v < n) (h : cn1 l n (l.getD v 0) ≠ 1) : ∃ u, u < n ∧ u ≠ v ∧ l.getD u 0 = l.getD v 0 := by
 apply Classical.byContradiction
 intro hno
 apply h
 unfold cn1
 rw [sumF_one (k := v) hv (fun i hi hne => one_neg fun e => hno ⟨i, hi, hne, e⟩), one_pos rfl]
section
variable {r0 r1 l : List Int} {n : Nat} (hl : l.length = 2 * n)
include hl
theorem branchL (hr : ∀ w, w < 2 * n → 0 ≤ l.getD w 0 ∧ l.getD w 0 < (2 * n : Nat)) {v : Nat} (hv : v < n) : HasIso (two r0 r1) n (cOf n l) ↔ ∃ x, x < n ∧ l.getD (n + x) 0 = l.getD v 0 ∧ HasIso (two r0 r1) n (cOf n (ownL n l v x)) := by
 constructor
 ·rintro ⟨p, I⟩
  have hx := I.lt v hv
  have hcv := I.col v hv
  rw [cOf_0 v hv, cOf_1] at hcv
  refine ⟨p v, hx, hcv.symm, p, I.lt, I.inj, I.adj, fun u hu => ?_⟩
  rw [cOf_0 u hu, cOf_1, ownL_at hl hv hx, ownL_at hl hv hx, if_neg (by omega)]
  by_cases e : u = v
  ·subst e; rw [if_pos rfl, if_pos rfl]
  ·have hpu : p u ≠ p v := fun h => e (I.inj u v hu hv h)
   have hcu := I.col u hu
   rw [cOf_0 u hu, cOf_1] at hcu
   rw [if_neg e, if_neg (by omega), if_neg (by omega), hcu]
 ·rintro ⟨x, hx, hcx, p, I⟩
  have col : ∀ u, u < n → (if u = v then ((2 * n : Nat) : Int) else l.getD u 0) = if p u = x then ((2 * n : Nat) : Int) else l.getD (n + p u) 0 := fun u hu => by
   have := I.col u hu
   have hpu := I.lt u hu
   rw [cOf_0 u hu, cOf_1, ownL_at hl hv hx, ownL_at hl hv hx, if_neg (by omega)] at this
   rw [this]
   by_cases c : p u = x
   ·rw [if_pos c, if_pos (by omega)]
   ·rw [if_neg c, if_neg (by omega), if_neg (by omega)]
  have hpv : p v = x := by
   have h1 := col v hv
   rw [if_pos rfl] at h1
   by_cases e : p v = x
   ·exact e
   ·rw [if_neg e] at h1
    have := hr (n + p v) (by have := I.lt v hv; omega)
    omega
  refine ⟨p, I.lt, I.inj, I.adj, fun u hu => ?_⟩
  rw [cOf_0 u hu, cOf_1]
  by_cases e : u = v
  ·subst e; rw [hpv, hcx]
  ·have h1 := col u hu
   rw [if_neg e, if_neg fun h => e (I.inj u v hu hv (h.trans hpv.symm))] at h1
   exact h1
theorem leafL (hp : (cOf n l 0).Perm (cOf n l 1)) (h1 : ∀ v, v < n → cn1 l n (l.getD v 0) = 1) {im : Nat → Nat} (hi : ∀ w, w < n → (∃ x, x < n ∧ l.getD (n + x) 0 = l.getD w 0) → im w < n ∧ l.getD (n + im w) 0 = l.getD w 0) :
  (HasIso (two r0 r1) n (cOf n l) ↔ ∀ w x, w < n → x < n → rbit r0 w x = rbit r1 (im w) (im x)) ∧ ∀ w, w < n → im w < n := by
 obtain ⟨h0l, h1l⟩ := cOf_len hl
 have inj0 : ∀ u w, u < n → w < n → l.getD u 0 = l.getD w 0 → u = w := fun u w hu hw e => cn1_one hw (h1 w hw) hu e
 have him : ∀ w, w < n → im w < n ∧ l.getD (n + im w) 0 = l.getD w 0 := fun w hw => by
  refine hi w hw ?_
  have hm : (cOf n l 0).getD w 0 ∈ cOf n l 0 := by rw [getD_at _ (by omega)]; exact List.getElem_mem _
  have hm2 := hp.mem_iff.mp hm
  rw [cOf_0 w hw] at hm2
  obtain ⟨x, hx, e⟩ := mem_getD hm2
  rw [cOf_1] at e
  exact ⟨x, by omega, e⟩
 have inj1 : ∀ x y, x < n → y < n → l.getD (n + x) 0 = l.getD (n + y) 0 → x = y := by
  have nd0 : (cOf n l 0).Nodup := by
   unfold List.Nodup
   rw [List.pairwise_iff_getElem]
   intro i j hi hj hij e
   have : l.getD i 0 = l.getD j 0 := by rw [← cOf_0 (n := n) i (by omega), ← cOf_0 (n := n) j (by omega), getD_at _ hi, getD_at _ hj, e]
   have := inj0 i j (by omega) (by omega) this
   omega
  have nd1 := hp.nodup_iff.mp nd0
  unfold List.Nodup at nd1
  rw [List.pairwise_iff_getElem] at nd1
  intro x y hx hy e
  rw [← cOf_1 (n := n), ← cOf_1 (n := n), getD_at _ (by omega), getD_at _ (by omega)] at e
  rcases Nat.lt_trichotomy x y with c | c | c
  ·exact absurd e (nd1 x y (by omega) (by omega) c)
  ·exact c
  ·exact absurd e.symm (nd1 y x (by omega) (by omega) c)
 refine ⟨⟨?_, fun hall => ?_⟩, fun w hw => (him w hw).1⟩
 ·rintro ⟨p, I⟩ w x hw hx
  have e : ∀ u, u < n → p u = im u := fun u hu => by
   refine inj1 _ _ (I.lt u hu) (him u hu).1 ?_
   have := I.col u hu
   rw [cOf_0 u hu, cOf_1] at this
   rw [← this, (him u hu).2]
  have ha := I.adj w x hw hx
  rw [e w hw, e x hx] at ha
  have ha : rbit r0 w x = true ↔ rbit r1 (im w) (im x) = true := ha
  rw [Bool.eq_iff_iff]
  exact ha
 ·refine ⟨im, fun v hv => (him v hv).1, fun v w hv hw e => inj0 v w hv hw ?_, fun v w hv hw => ?_, fun v hv => ?_⟩
  ·rw [← (him v hv).2, ← (him w hw).2, e]
  ·have := hall v w hv hw
   show rbit r0 v w = true ↔ rbit r1 (im v) (im w) = true
   rw [this]
  ·rw [cOf_0 v hv, cOf_1, (him v hv).2]
end
end

/- The reference's search for a renumbering: the loops. -/
section
open Go
open Classical
variable {nro : Nat}
theorem cn1_rng (l : List Int) (n : Nat) (x : Int) : 0 ≤ cn1 l n x ∧ cn1 l n x ≤ n := by
 unfold cn1
 refine ⟨sumF_nonneg fun i _ => one_nonneg _, ?_⟩
 have := sumF_le (f := fun w => oneIf (l.getD w 0 = x)) (g := fun _ => 1) (n := n) fun i _ => one_le _
 rw [sumF_const] at this
 omega
section
variable {H : VH} {lq p3 p4 : Value} {l : List Int} {n : Nat} (hn : nro ≤ H.length) (hq : Sli H lq l) (hl : l.length = 2 * n) (hr : ∀ w, w < 2 * n → 0 ≤ l.getD w 0 ∧ l.getD w 0 < (2 * n : Nat)) (h62 : n ≤ 62) (o3 : Old H.length p3) (o4 : Old H.length p4)
include hn hq hl h62 o3 o4
include hr in
theorem l_leads_1 : ∃ cnt : List Int, cnt.length = 2 * n ∧ (∀ x : Nat, x < 2 * n → cnt.getD x 0 = cn1 l n x) ∧
  floop (vcall F nro) nro [2, 3, 4, 7, 9, 10, 11] i_zz61_B1 (H ++ [⟨1, ints (List.replicate (2 * n) 0)⟩]) [lq, p3, p4, .int .i64 n, .slice (some ⟨H.length, 0, none⟩) (2 * n) (2 * n), .int .i64 0, .int .i64 0] (H ++ [⟨1, ints (List.replicate (2 * n) 0)⟩]) =
   some (.exit 0, fl [(2, lq), (3, p3), (4, p4), (7, .int .i64 n), (9, .slice (some ⟨H.length, 0, none⟩) (2 * n) (2 * n)), (10, .int .i64 0)], H ++ [⟨1, ints cnt⟩]) := by
 have hn' := fun k => Nat.le_trans hn (Nat.le_add_right H.length k)
 have ho := fun k => hq.oldk (k := k)
 have o3k := fun k => o3.le (Nat.le_add_right H.length k)
 have o4k := fun k => o4.le (Nat.le_add_right H.length k)
 refine Exists.elim (for_upR (call := vcall F nro) (nro := nro) (live := [2, 3, 4, 7, 9, 10, 11]) (c := i_zz61_B1) (h0 := H ++ [⟨1, ints (List.replicate (2 * n) 0)⟩]) (n := n)
  (fun w (_ : List Int) => [lq, p3, p4, .int .i64 n, .slice (some ⟨H.length, 0, none⟩) (2 * n) (2 * n), .int .i64 0, .int .i64 w]) (fun _ cnt => H ++ [⟨1, ints cnt⟩]) (fun w cnt => cnt.length = 2 * n ∧ ∀ x : Nat, x < 2 * n → cnt.getD x 0 = cn1 l w x)
  (fun cnt => some (.exit 0, fl [(2, lq), (3, p3), (4, p4), (7, .int .i64 n), (9, .slice (some ⟨H.length, 0, none⟩) (2 * n) (2 * n)), (10, .int .i64 0)], H ++ [⟨1, ints cnt⟩])) ?_ ?_ 0 (List.replicate (2 * n) 0) (Nat.zero_le _) ⟨by simp, fun x hx => ?_⟩) ?_
 ·rintro w cnt hw hw2 ⟨hcl, hI⟩
  have hlw := hr w (by omega)
  obtain ⟨x, hx⟩ : ∃ x : Nat, l.getD w 0 = x := ⟨_, (Int.toNat_of_nonneg hlw.1).symm⟩
  have hx2 : x < 2 * n := by omega
  have hcx := hI x hx2
  have hrg := cn1_rng l w x
  refine ⟨cnt.set x (cnt.getD x 0 + 1), ⟨by rw [List.length_set, hcl], fun y hy => ?_⟩, ?_⟩
  ·rw [set_getD (by omega)]
   have e : cn1 l (w + 1) y = cn1 l w y + oneIf (l.getD w 0 = y) := rfl
   rw [e]
   by_cases c : y = x
   ·subst c; rw [if_pos rfl, one_pos hx, hI y hy]
   ·rw [if_neg c, one_neg (by omega), hI y hy, Int.add_zero]
  ·have tx := fun L => (hq.app L).vidx (k := .i64) (j := (w : Int)) (by omega) (by omega)
   have tl : ∀ L, vload false 1 (H ++ L) (vptr lq w) = some (.int .i64 (l.getD w 0)) := fun L => by rw [getD_at l (by omega)]; exact (hq.app L).vload (by omega)
   simp only [Int.toNat_natCast] at tx
   rw [hx] at tl
   have hil : (ints cnt).length = 2 * n := by rw [ints_length, hcl]
   have tk := take1_ints (xs := cnt) (j := x) (by omega)
   rw [← getD_at] at tk
   have sp := splice_ints (xs := cnt) (j := x) (v := cnt.getD x 0 + 1) (by omega)
   have w1 : IntKind.i64.wrap ((w : Int) + 1) = (w : Int) + 1 := wrap64 (by omega) (by omega)
   have w2 : IntKind.i64.wrap (cnt.getD x 0 + 1) = cnt.getD x 0 + 1 := wrap64 (by omega) (by omega)
   have hcln := fun (r : List Int) (vs : List Value) => mk_clean (P := H) (C := []) (r0 := List.replicate (2 * n) 0) (r1 := r) (vs := vs)
   generalize cnt.getD x 0 = y at *
   obtain ⟨z0, hz0⟩ : ∃ z, z = List.replicate (2 * n) (0 : Int) := ⟨_, rfl⟩
   rw [← hz0] at hcln ⊢
   generalize 2 * n = n2 at *
   rw [floop_at i_zz61_B1.eq_1]
   clear hq hI hr hcx hrg hz0 hlw
   simp (disch := first | assumption | omega | (simp [*] <;> omega) | fail) [-getElem?_pos, List.getElem?_cons_zero, List.getElem?_cons_succ, hw, hw2, tx, tl, hil, tk, sp, hx2, w1, w2, hcln, ho, o3k, o4k, hn', hn]
 ·rintro cnt _
  rw [floop_at i_zz61_B1.eq_1]
  clear hq
  simp (disch := first | assumption | omega | (simp [*] <;> omega) | fail) [-getElem?_pos, List.getElem?_cons_zero, List.getElem?_cons_succ, ho, o3k, o4k]
 ·rw [getD_at _ (by simpa using hx)]
  simp [cn1, sumF]
 ·rintro cnt ⟨⟨h1, h2⟩, hf⟩
  exact ⟨cnt, h1, h2, hf⟩
include hr in
theorem l_leads_2 {tc : Value} {cnt : List Int} (hc : Sli H tc cnt) (hcl : cnt.length = 2 * n) (hcn : ∀ x : Nat, x < 2 * n → cnt.getD x 0 = cn1 l n x) (k : Nat) : ∀ v, v ≤ n → k = n - v → (∀ u, u < v → cn1 l n (l.getD u 0) = 1) →
  ∃ v', v' ≤ n ∧ (∀ u, u < v' → cn1 l n (l.getD u 0) = 1) ∧ (v' < n → cn1 l n (l.getD v' 0) ≠ 1) ∧ floop (vcall F nro) nro [2, 3, 4, 7, 9, 10] i_zz61_B2 H [lq, p3, p4, .int .i64 n, tc, .int .i64 v] H =
   some (.exit 2, fl [(2, lq), (3, p3), (4, p4), (7, .int .i64 n), (10, .int .i64 v')], H) := by
 have qo := hq.old
 have co := hc.old
 induction k with
 | zero =>
  intro v hv hk hall
  have : v = n := by omega
  subst this
  refine ⟨v, Nat.le_refl _, hall, fun h => by omega, ?_⟩
  rw [floop_at i_zz61_B2.eq_1]
  clear hq hc hcn hr hall
  simp (disch := first | assumption | omega | (simp [*] <;> omega) | fail) [-getElem?_pos, List.getElem?_cons_zero, List.getElem?_cons_succ, qo, co, o3, o4]
 | succ k ih =>
  intro v hv hk hall
  have hvn : v < n := by omega
  have hvn2 : (v : Int) < n := by omega
  have hlv := hr v (by omega)
  obtain ⟨x, hx⟩ : ∃ x : Nat, l.getD v 0 = x := ⟨_, (Int.toNat_of_nonneg hlv.1).symm⟩
  have hx2 : x < 2 * n := by omega
  have tx := hq.vidx (k := .i64) (j := (v : Int)) (by omega) (by omega)
  have tl := hq.vload (j := v) (by omega)
  rw [← getD_at, hx] at tl
  have cx := hc.vidx (k := .i64) (j := (x : Int)) (by omega) (by omega)
  have cl := hc.vload (j := x) (by omega)
  rw [← getD_at, hcn x hx2] at cl
  simp only [Int.toNat_natCast] at tx cx
  have w1 : IntKind.i64.wrap ((v : Int) + 1) = (v : Int) + 1 := wrap64 (by omega) (by omega)
  by_cases c : cn1 l n (l.getD v 0) = 1
  ·obtain ⟨v', a1, a2, a3, a4⟩ := ih (v + 1) (by omega) (by omega) (fun u hu => by
    by_cases e : u = v
    ·subst e; exact c
    ·exact hall u (by omega))
   refine ⟨v', a1, a2, a3, ?_⟩
   rw [← a4]
   rw [hx] at c
   rw [c] at cl
   rw [floop_at i_zz61_B2.eq_1]
   clear hq hc hcn hr hall a2 a3 ih hlv c
   simp (disch := first | assumption | omega | (simp [*] <;> omega) | fail) [-getElem?_pos, List.getElem?_cons_zero, List.getElem?_cons_succ, hvn, hvn2, tx, tl, cx, cl, w1, qo, co, o3, o4]
  ·refine ⟨v, hv, hall, fun _ => c, ?_⟩
   rw [hx] at c
   generalize cn1 l n x = y at *
   rw [floop_at i_zz61_B2.eq_1]
   clear hq hc hcn hr hall ih hlv
   simp (disch := first | assumption | omega | (simp [*] <;> omega) | fail) [-getElem?_pos, List.getElem?_cons_zero, List.getElem?_cons_succ, hvn, hvn2, tx, tl, cx, cl, c, qo, co, o3, o4]
def imOK (l : List Int) (n w x : Nat) (y : Int) : Prop := ((∀ z, z < x → l.getD (n + z) 0 ≠ l.getD w 0) ∧ y = 0) ∨ ∃ z : Nat, z < x ∧ y = z ∧ l.getD (n + z) 0 = l.getD w 0
theorem l_leads_3 (w : Nat) (hw : w < n) (rI im0 : List Int) (hi0 : im0.length = n) (h0 : im0.getD w 0 = 0) :
  ∃ im : List Int, (im.length = n ∧ (∀ u, u ≠ w → im.getD u 0 = im0.getD u 0) ∧ imOK l n w n (im.getD w 0)) ∧
  floop (vcall F nro) nro [2, 3, 4, 7, 12, 13, 14] i_zz61_B3 (H ++ [⟨1, ints im0⟩]) [lq, p3, p4, .int .i64 n, .slice (some ⟨H.length, 0, none⟩) n n, .int .i64 w, .int .i64 0] (H ++ [⟨1, ints im0⟩]) =
   some (.exit 6, fl [(2, lq), (3, p3), (4, p4), (7, .int .i64 n), (12, .slice (some ⟨H.length, 0, none⟩) n n), (13, .int .i64 w)], H ++ [⟨1, ints im⟩]) := by
 have hn' := fun k => Nat.le_trans hn (Nat.le_add_right H.length k)
 have ho := fun k => hq.oldk (k := k)
 have o3k := fun k => o3.le (Nat.le_add_right H.length k)
 have o4k := fun k => o4.le (Nat.le_add_right H.length k)
 refine Exists.elim (for_upR (call := vcall F nro) (nro := nro) (live := [2, 3, 4, 7, 12, 13, 14]) (c := i_zz61_B3) (h0 := H ++ [⟨1, ints im0⟩]) (n := n)
  (fun x (_ : List Int) => [lq, p3, p4, .int .i64 n, .slice (some ⟨H.length, 0, none⟩) n n, .int .i64 w, .int .i64 x]) (fun _ im => H ++ [⟨1, ints im⟩]) (fun x im => im.length = n ∧ (∀ u, u ≠ w → im.getD u 0 = im0.getD u 0) ∧ imOK l n w x (im.getD w 0))
  (fun im => some (.exit 6, fl [(2, lq), (3, p3), (4, p4), (7, .int .i64 n), (12, .slice (some ⟨H.length, 0, none⟩) n n), (13, .int .i64 w)], H ++ [⟨1, ints im⟩])) ?_ ?_ 0 im0 (Nat.zero_le _) ⟨hi0, fun _ _ => rfl, .inl ⟨fun z hz => by omega, h0⟩⟩) ?_
 ·rintro x im hx hx2 ⟨i1, i2, i3⟩
  have tx := fun L => (hq.app L).vidx (k := .i64) (j := ((n + x : Nat) : Int)) (by omega) (by omega)
  have tl : ∀ L, vload false 1 (H ++ L) (vptr lq (n + x)) = some (.int .i64 (l.getD (n + x) 0)) := fun L => by rw [getD_at l (by omega)]; exact (hq.app L).vload (by omega)
  have ty := fun L => (hq.app L).vidx (k := .i64) (j := (w : Int)) (by omega) (by omega)
  have tm : ∀ L, vload false 1 (H ++ L) (vptr lq w) = some (.int .i64 (l.getD w 0)) := fun L => by rw [getD_at l (by omega)]; exact (hq.app L).vload (by omega)
  simp only [Int.toNat_natCast] at tx ty
  have w1 : IntKind.i64.wrap ((x : Int) + 1) = (x : Int) + 1 := wrap64 (by omega) (by omega)
  have w2 : IntKind.i64.wrap ((n : Int) + x) = ((n + x : Nat) : Int) := by rw [← Int.natCast_add]; exact wrap64 (by omega) (by omega)
  have hil : (ints im).length = n := by rw [ints_length, i1]
  have sp := splice_ints (xs := im) (j := w) (v := (x : Int)) (by omega)
  have hcln := fun (r : List Int) (vs : List Value) => mk_clean (P := H) (C := []) (r0 := im0) (r1 := r) (vs := vs)
  by_cases c : l.getD (n + x) 0 = l.getD w 0
  ·refine ⟨im.set w x, ⟨by rw [List.length_set, i1], fun u hu => by rw [set_getD (by omega), if_neg hu, i2 u hu], .inr ⟨x, by omega, by rw [set_getD (by omega), if_pos rfl], c⟩⟩, ?_⟩
   rw [c] at tl
   have hil2 : (ints (im.set w (x : Int))).length = n := by rw [ints_length, List.length_set, i1]
   generalize l.getD w 0 = y at *
   generalize n + x = nx at *
   rw [floop_at i_zz61_B3.eq_1]
   clear hq i2 i3 c
   simp (disch := first | assumption | omega | (simp [*] <;> omega) | fail) [-getElem?_pos, List.getElem?_cons_zero, List.getElem?_cons_succ, hx, hx2, hw, tx, tl, ty, tm, w1, w2, hil, hil2, sp, hcln, ho, o3k, o4k, hn', hn]
  ·refine ⟨im, ⟨i1, i2, ?_⟩, ?_⟩
   ·rcases i3 with ⟨a1, a2⟩ | ⟨z, a1, a2, a3⟩
    ·refine .inl ⟨fun z hz => ?_, a2⟩
     by_cases e : z = x
     ·subst e; exact c
     ·exact a1 z (by omega)
    ·exact .inr ⟨z, by omega, a2, a3⟩
   ·generalize l.getD w 0 = y at *
    generalize hy2 : l.getD (n + x) 0 = y2 at *
    generalize n + x = nx at *
    rw [floop_at i_zz61_B3.eq_1]
    clear hq i2 i3 hy2
    simp (disch := first | assumption | omega | (simp [*] <;> omega) | fail) [-getElem?_pos, List.getElem?_cons_zero, List.getElem?_cons_succ, hx, hx2, hw, tx, tl, ty, tm, w1, w2, c, hil, hcln, ho, o3k, o4k, hn', hn]
 ·rintro im _
  rw [floop_at i_zz61_B3.eq_1]
  clear hq
  simp (disch := first | assumption | omega | (simp [*] <;> omega) | fail) [-getElem?_pos, List.getElem?_cons_zero, List.getElem?_cons_succ, ho, o3k, o4k]
 ·rintro im ⟨h1, hf⟩
  exact ⟨im, h1, hf⟩
theorem l_leads_4 : ∃ im : List Int, (im.length = n ∧ ∀ w, w < n → imOK l n w n (im.getD w 0)) ∧
  floop (vcall F nro) nro [2, 3, 4, 7, 12, 13] i_zz61_B4 (H ++ [⟨1, ints (List.replicate n 0)⟩]) [lq, p3, p4, .int .i64 n, .slice (some ⟨H.length, 0, none⟩) n n, .int .i64 0] (H ++ [⟨1, ints (List.replicate n 0)⟩]) =
   some (.exit 4, fl [(3, p3), (4, p4), (7, .int .i64 n), (12, .slice (some ⟨H.length, 0, none⟩) n n)], H ++ [⟨1, ints im⟩]) := by
 have hn' := fun k => Nat.le_trans hn (Nat.le_add_right H.length k)
 have ho := fun k => hq.oldk (k := k)
 have o3k := fun k => o3.le (Nat.le_add_right H.length k)
 have o4k := fun k => o4.le (Nat.le_add_right H.length k)
 refine Exists.elim (for_upR (call := vcall F nro) (nro := nro) (live := [2, 3, 4, 7, 12, 13]) (c := i_zz61_B4) (h0 := H ++ [⟨1, ints (List.replicate n 0)⟩]) (n := n)
  (fun w (_ : List Int) => [lq, p3, p4, .int .i64 n, .slice (some ⟨H.length, 0, none⟩) n n, .int .i64 w]) (fun _ im => H ++ [⟨1, ints im⟩]) (fun w im => im.length = n ∧ (∀ u, u < w → imOK l n u n (im.getD u 0)) ∧ ∀ u, w ≤ u → u < n → im.getD u 0 = 0)
  (fun im => some (.exit 4, fl [(3, p3), (4, p4), (7, .int .i64 n), (12, .slice (some ⟨H.length, 0, none⟩) n n)], H ++ [⟨1, ints im⟩])) ?_ ?_ 0 (List.replicate n 0) (Nat.zero_le _) ⟨by simp, fun u hu => by omega, fun u _ hu => ?_⟩) ?_
 ·rintro w im hw hw2 ⟨i1, i2, i3⟩
  obtain ⟨im2, ⟨j1, j2, j3⟩, l3⟩ := l_leads_3 (nro := nro) hn hq hl h62 o3 o4 w hw [] im i1 (i3 w (Nat.le_refl _) hw)
  refine ⟨im2, ⟨j1, fun u hu => ?_, fun u h1 h2 => ?_⟩, ?_⟩
  ·by_cases e : u = w
   ·subst e; exact j3
   ·rw [j2 u e]; exact i2 u (by omega)
  ·rw [j2 u (by omega)]; exact i3 u (by omega) h2
  ·have w1 : IntKind.i64.wrap ((w : Int) + 1) = (w : Int) + 1 := wrap64 (by omega) (by omega)
   have hcln := fun (r : List Int) (vs : List Value) => mk_clean (P := H) (C := []) (r0 := List.replicate n 0) (r1 := r) (vs := vs)
   obtain ⟨z0, hz0⟩ : ∃ z, z = List.replicate n (0 : Int) := ⟨_, rfl⟩
   rw [← hz0] at hcln ⊢
   rw [floop_at i_zz61_B4.eq_1]
   clear hq i2 i3 j2 j3 hz0
   simp (disch := first | assumption | omega | (simp [*] <;> omega) | fail) [-getElem?_pos, List.getElem?_cons_zero, List.getElem?_cons_succ, hw, hw2, l3, w1, hcln, ho, o3k, o4k, hn', hn]
 ·rintro im _
  rw [floop_at i_zz61_B4.eq_1]
  clear hq
  simp (disch := first | assumption | omega | (simp [*] <;> omega) | fail) [-getElem?_pos, List.getElem?_cons_zero, List.getElem?_cons_succ, ho, o3k, o4k]
 ·rw [getD_at _ (by simpa using hu)]
  simp
 ·rintro im ⟨⟨h1, h2, _⟩, hf⟩
  exact ⟨im, ⟨h1, h2⟩, hf⟩
end
section
variable {H : VH} {ti s t : Value} {im r0 r1 : List Int} {n b3 b4 : Nat} (h3 : H[b3]? = some ⟨0, [.int .i64 n, s]⟩) (h4 : H[b4]? = some ⟨0, [.int .i64 n, t]⟩) (hs : Sli H s r0) (ht : Sli H t r1) (R0 : Rok n r0) (R1 : Rok n r1) (hi : Sli H ti im) (hil : im.length = n) (hir : ∀ w, w < n → 0 ≤ im.getD w 0 ∧ im.getD w 0 < n)
include h3 h4 hs ht R0 R1 hi hil hir
theorem l_leads_5 (w : Nat) (hw : w < n) : floop (vcall F nro) nro [3, 4, 7, 12, 15, 16] i_zz61_B5 H [.pointer (some ⟨b3, 0, some 2⟩), .pointer (some ⟨b4, 0, some 2⟩), .int .i64 n, ti, .int .i64 w, .int .i64 0] H =
  if ∃ x, 0 ≤ x ∧ x < n ∧ rbit r0 w x ≠ rbit r1 (im.getD w 0).toNat (im.getD x 0).toNat then some (.ret, fl [(6, .bool false)], H) else some (.exit 10, fl [(3, .pointer (some ⟨b3, 0, some 2⟩)), (4, .pointer (some ⟨b4, 0, some 2⟩)), (7, .int .i64 n), (12, ti), (15, .int .i64 w)], H) := by
 have h62 := R0.le
 have lb3 := (List.getElem?_eq_some_iff.mp h3).1
 have lb4 := (List.getElem?_eq_some_iff.mp h4).1
 have io := hi.old
 have len0 := R0.len
 have len1 := R1.len
 refine for_find (call := vcall F nro) (nro := nro) (live := [3, 4, 7, 12, 15, 16]) (c := i_zz61_B5) (h0 := H) (n := n) (fun x => [.pointer (some ⟨b3, 0, some 2⟩), .pointer (some ⟨b4, 0, some 2⟩), .int .i64 n, ti, .int .i64 w, .int .i64 x]) H (fun x => rbit r0 w x ≠ rbit r1 (im.getD w 0).toNat (im.getD x 0).toNat) _ _ ?_ ?_ 0 (Nat.zero_le _)
 ·intro x hx hx2
  obtain ⟨y, hy⟩ : ∃ y : Nat, im.getD w 0 = y := ⟨_, (Int.toNat_of_nonneg (hir w hw).1).symm⟩
  obtain ⟨z, hz⟩ : ∃ z : Nat, im.getD x 0 = z := ⟨_, (Int.toNat_of_nonneg (hir x hx).1).symm⟩
  have hyn := (hir w hw).2
  have hzn := (hir x hx).2
  rw [hy] at hyn
  rw [hz] at hzn
  obtain ⟨g1, g2⟩ := R0.row w hw
  obtain ⟨k1, k2⟩ := R1.row y (by omega)
  have g3 := le62 h62 g2
  have k3 := le62 h62 k2
  have a1 := hs.vidx (k := .i64) (j := (w : Int)) (by omega) (by omega)
  have a2 := hs.vload (j := w) (by omega)
  have c1 := ht.vidx (k := .i64) (j := (y : Int)) (by omega) (by omega)
  have c2 := ht.vload (j := y) (by omega)
  have d1 := hi.vidx (k := .i64) (j := (w : Int)) (by omega) (by omega)
  have d2 := hi.vload (j := w) (by omega)
  have d3 := hi.vidx (k := .i64) (j := (x : Int)) (by omega) (by omega)
  have d4 := hi.vload (j := x) (by omega)
  rw [← getD_at] at a2 c2 d2 d4
  rw [hy] at d2
  rw [hz] at d4
  simp only [Int.toNat_natCast] at a1 c1 d1 d3
  have w1 : IntKind.u64.wrap (x : Int) = x := wrapu64 (by omega) (by omega)
  have w2 : IntKind.u64.wrap (z : Int) = z := wrapu64 (by omega) (by omega)
  have w3 : IntKind.i64.wrap ((x : Int) + 1) = (x : Int) + 1 := wrap64 (by omega) (by omega)
  have b1 := bit_two (a := r0.getD w 0) (b := (x : Int)) g1 (by omega) (by omega)
  have b2 := bit_two (a := r1.getD y 0) (b := (z : Int)) k1 (by omega) (by omega)
  rw [Int.toNat_natCast] at b1 b2
  have e1 : rbit r0 w x = (r0.getD w 0).toNat.testBit x := rfl
  have e2 : rbit r1 y z = (r1.getD y 0).toNat.testBit z := rfl
  rw [← e1] at b1
  rw [← e2] at b2
  rw [hy, hz, Int.toNat_natCast, Int.toNat_natCast]
  clear e1 e2
  generalize rbit r0 w x = p at *
  generalize rbit r1 y z = q at *
  generalize r0.getD w 0 = row0 at *
  generalize r1.getD y 0 = row1 at *
  refine ⟨fun hbad => ?_, fun hok => ?_⟩
  ·have hne : ¬ (iand .i64 (ishr .i64 row0 x) 1 = iand .i64 (ishr .i64 row1 z) 1) := by
    rw [b1, b2]
    cases p <;> cases q <;> simp at hbad ⊢
   rw [floop_at i_zz61_B5.eq_1]
   clear hs ht R0 R1 hi hir hy hz b1 b2 hbad g1 g2 g3 k1 k2 k3
   simp (disch := first | assumption | omega | (simp [*] <;> omega) | fail) [-getElem?_pos, List.getElem?_cons_zero, List.getElem?_cons_succ, hx, hx2, h3, h4, a1, a2, c1, c2, d1, d2, d3, d4, w1, w2, hne, io, lb3, lb4]
  ·have hok : p = q := Classical.byContradiction hok
   have heq : iand .i64 (ishr .i64 row0 x) 1 = iand .i64 (ishr .i64 row1 z) 1 := by rw [b1, b2, hok]
   rw [floop_at i_zz61_B5.eq_1]
   clear hs ht R0 R1 hi hir hy hz b1 b2 hok g1 g2 g3 k1 k2 k3
   simp (disch := first | assumption | omega | (simp [*] <;> omega) | fail) [-getElem?_pos, List.getElem?_cons_zero, List.getElem?_cons_succ, hx, hx2, h3, h4, a1, a2, c1, c2, d1, d2, d3, d4, w1, w2, w3, heq, io, lb3, lb4]
 ·rw [floop_at i_zz61_B5.eq_1]
  clear hs ht R0 R1 hi hir
  simp (disch := first | assumption | omega | (simp [*] <;> omega) | fail) [-getElem?_pos, List.getElem?_cons_zero, List.getElem?_cons_succ, io, lb3, lb4]
theorem l_leads_6 : floop (vcall F nro) nro [3, 4, 7, 12, 15] i_zz61_B6 H [.pointer (some ⟨b3, 0, some 2⟩), .pointer (some ⟨b4, 0, some 2⟩), .int .i64 n, ti, .int .i64 0] H =
  if ∃ w, 0 ≤ w ∧ w < n ∧ ∃ x, 0 ≤ x ∧ x < n ∧ rbit r0 w x ≠ rbit r1 (im.getD w 0).toNat (im.getD x 0).toNat then some (.ret, fl [(6, .bool false)], H) else some (.exit 8, fl [], H) := by
 have h62 := R0.le
 have lb3 := (List.getElem?_eq_some_iff.mp h3).1
 have lb4 := (List.getElem?_eq_some_iff.mp h4).1
 have io := hi.old
 refine for_find (call := vcall F nro) (nro := nro) (live := [3, 4, 7, 12, 15]) (c := i_zz61_B6) (h0 := H) (n := n) (fun w => [.pointer (some ⟨b3, 0, some 2⟩), .pointer (some ⟨b4, 0, some 2⟩), .int .i64 n, ti, .int .i64 w]) H (fun w => ∃ x, 0 ≤ x ∧ x < n ∧ rbit r0 w x ≠ rbit r1 (im.getD w 0).toNat (im.getD x 0).toNat) _ _ ?_ ?_ 0 (Nat.zero_le _)
 ·intro w hw hw2
  have l5 := l_leads_5 (nro := nro) h3 h4 hs ht R0 R1 hi hil hir w hw
  have w3 : IntKind.i64.wrap ((w : Int) + 1) = (w : Int) + 1 := wrap64 (by omega) (by omega)
  refine ⟨fun hbad => ?_, fun hok => ?_⟩
  ·rw [if_pos hbad] at l5
   rw [floop_at i_zz61_B6.eq_1]
   clear hs ht R0 R1 hi hir hbad
   simp (disch := first | assumption | omega | (simp [*] <;> omega) | fail) [-getElem?_pos, List.getElem?_cons_zero, List.getElem?_cons_succ, hw, hw2, l5, io, lb3, lb4]
  ·rw [if_neg hok] at l5
   rw [floop_at i_zz61_B6.eq_1]
   clear hs ht R0 R1 hi hir hok
   simp (disch := first | assumption | omega | (simp [*] <;> omega) | fail) [-getElem?_pos, List.getElem?_cons_zero, List.getElem?_cons_succ, hw, hw2, l5, w3, io, lb3, lb4]
 ·rw [floop_at i_zz61_B6.eq_1]
  clear hs ht R0 R1 hi hir
  simp (disch := first | assumption | omega | (simp [*] <;> omega) | fail) [-getElem?_pos, List.getElem?_cons_zero, List.getElem?_cons_succ, io, lb3, lb4]
end
end

/- The reference's search for a renumbering. -/
section
open Go
open Classical
variable {nro : Nat}
def LeadOK (nro n : Nat) (r0 r1 : List Int) (k : Nat) : Prop := ∀ {h : VH} {s t lq : Value} {l : List Int} {j : Nat}, nro ≤ h.length → Sli h s r0 → Sli h t r1 → Sli h lq l → l.length = 2 * n → DstL n j l → 2 * n - j ≤ k →
 vcall F nro k_zz61 [gv n s, gv n t, lq] h = some (.bool (decide (HasIso (two r0 r1) n (cOf n l))), h)
section
variable {H : VH} {lq s t : Value} {l r0 r1 : List Int} {n b3 b4 : Nat} (hn : nro ≤ H.length) (hq : Sli H lq l) (hl : l.length = 2 * n) (hr : ∀ w, w < 2 * n → 0 ≤ l.getD w 0 ∧ l.getD w 0 < (2 * n : Nat)) (h3 : H[b3]? = some ⟨0, [.int .i64 n, s]⟩) (h4 : H[b4]? = some ⟨0, [.int .i64 n, t]⟩) (hs : Sli H s r0) (ht : Sli H t r1) (R0 : Rok n r0)
include hn hq hl hr h3 h4 hs ht R0
theorem l_leads_7 {k j v u : Nat} (ih : LeadOK nro n r0 r1 k) (hj : DstL n j l) (hk : 2 * n - j ≤ k + 1) (hv : v < n) (hu : u < n) (huv : u ≠ v) (hcu : l.getD u 0 = l.getD v 0) :
  ((∃ x, 0 ≤ x ∧ x < n ∧ l.getD (n + x) 0 = l.getD v 0 ∧ HasIso (two r0 r1) n (cOf n (ownL n l v x))) ∧ ∃ L, floop (vcall F nro) nro [2, 3, 4, 7, 10, 17] i_zz61_B7 H [lq, .pointer (some ⟨b3, 0, some 2⟩), .pointer (some ⟨b4, 0, some 2⟩), .int .i64 n, .int .i64 v, .int .i64 0] H = some (.ret, fl [(6, .bool true)], H ++ L)) ∨
  ((¬ ∃ x, 0 ≤ x ∧ x < n ∧ l.getD (n + x) 0 = l.getD v 0 ∧ HasIso (two r0 r1) n (cOf n (ownL n l v x))) ∧ floop (vcall F nro) nro [2, 3, 4, 7, 10, 17] i_zz61_B7 H [lq, .pointer (some ⟨b3, 0, some 2⟩), .pointer (some ⟨b4, 0, some 2⟩), .int .i64 n, .int .i64 v, .int .i64 0] H = some (.exit 12, fl [], H)) := by
 have h62 := R0.le
 have lb3 := (List.getElem?_eq_some_iff.mp h3).1
 have lb4 := (List.getElem?_eq_some_iff.mp h4).1
 have qo := hq.old
 have hn' := fun k => Nat.le_trans hn (Nat.le_add_right H.length k)
 have sj := hs.nj
 have tj := ht.nj
 refine for_findQ (call := vcall F nro) (nro := nro) (live := [2, 3, 4, 7, 10, 17]) (c := i_zz61_B7) (h0 := H) (n := n) (fun x => [lq, .pointer (some ⟨b3, 0, some 2⟩), .pointer (some ⟨b4, 0, some 2⟩), .int .i64 n, .int .i64 v, .int .i64 x]) H
  (fun x => l.getD (n + x) 0 = l.getD v 0 ∧ HasIso (two r0 r1) n (cOf n (ownL n l v x))) (fun r => ∃ L, r = some (.ret, fl [(6, .bool true)], H ++ L)) _ ?_ ?_ 0 (Nat.zero_le _)
 ·intro x hx hx2
  have tx := hq.vidx (k := .i64) (j := ((n + x : Nat) : Int)) (by omega) (by omega)
  have tl := hq.vload (j := n + x) (by omega)
  have vx := hq.vidx (k := .i64) (j := (v : Int)) (by omega) (by omega)
  have vl := hq.vload (j := v) (by omega)
  rw [← getD_at] at tl vl
  simp only [Int.toNat_natCast] at tx vx
  have w1 : IntKind.i64.wrap ((x : Int) + 1) = (x : Int) + 1 := wrap64 (by omega) (by omega)
  have w2 : IntKind.i64.wrap ((n : Int) + x) = ((n + x : Nat) : Int) := by rw [← Int.natCast_add]; exact wrap64 (by omega) (by omega)
  by_cases c : l.getD (n + x) 0 = l.getD v 0
  ·have w3 : IntKind.i64.wrap (2 * (n : Int)) = ((2 * n : Nat) : Int) := by rw [show 2 * (n : Int) = ((2 * n : Nat) : Int) by omega]; exact wrap64 (by omega) (by omega)
   have k1 := c_zz70 (nro := nro) lq l H hq (by omega) hn
   rw [hl] at k1
   have sp1 := splice_ints (xs := l) (j := v) (v := ((2 * n : Nat) : Int)) (by omega)
   have sp2 := splice_ints (xs := l.set v ((2 * n : Nat) : Int)) (j := n + x) (v := ((2 * n : Nat) : Int)) (by simp; omega)
   have e1 : (l.set v ((2 * n : Nat) : Int)).set (n + x) ((2 * n : Nat) : Int) = ownL n l v x := rfl
   rw [e1] at sp2
   have i1 : (ints l).length = 2 * n := by rw [ints_length, hl]
   have i2 : (ints (l.set v ((2 * n : Nat) : Int))).length = 2 * n := by rw [ints_length, List.length_set, hl]
   have i3 : (ints (ownL n l v x)).length = 2 * n := by rw [ints_length, ownL_len, hl]
   have sO : Sli (H ++ [⟨1, ints (ownL n l v x)⟩]) (.slice (some ⟨H.length, 0, none⟩) (2 * n) (2 * n)) (ownL n l v x) := by
    have := sli_at (h := H ++ [⟨1, ints (ownL n l v x)⟩]) (b := H.length) (xs := ownL n l v x) (by simp)
    rwa [ownL_len, hl] at this
   have r := ih (h := H ++ [⟨1, ints (ownL n l v x)⟩]) (by simp; omega) (hs.app _) (ht.app _) sO (by rw [ownL_len, hl]) (hj.own hl hr hv hx hu huv hcu c) (by omega)
   have h3' : ∀ L : VH, (H ++ L)[b3]? = some ⟨0, [.int .i64 n, s]⟩ := fun L => by rw [List.getElem?_append_left lb3]; exact h3
   have h4' : ∀ L : VH, (H ++ L)[b4]? = some ⟨0, [.int .i64 n, t]⟩ := fun L => by rw [List.getElem?_append_left lb4]; exact h4
   have hv2 : v < 2 * n := by omega
   have hnx : n + x < 2 * n := by omega
   rw [c] at tl
   by_cases hI : HasIso (two r0 r1) n (cOf n (ownL n l v x))
   ·refine ⟨fun _ => ⟨[⟨1, ints (ownL n l v x)⟩], ?_⟩, fun hno => absurd ⟨c, hI⟩ hno⟩
    rw [decide_eq_true hI] at r
    generalize ownL n l v x = O at *
    generalize l.set v ((2 * n : Nat) : Int) = l1 at *
    generalize 2 * n = n2 at *
    generalize n + x = nx at *
    generalize l.getD v 0 = y at *
    rw [floop_at i_zz61_B7.eq_1]
    clear hq hr hs ht R0 ih hj sO hI c hcu e1
    simp (disch := first | assumption | omega | (simp [*] <;> omega) | fail) [-getElem?_pos, List.getElem?_cons_zero, List.getElem?_cons_succ, hx, hx2, tx, tl, vx, vl, w1, w2, w3, k1, sp1, sp2, i1, i2, i3, r, h3', h4', hv2, hnx, sj, tj, qo, lb3, lb4, hn', hn]
   ·refine ⟨fun h => absurd h.2 hI, fun _ => ?_⟩
    rw [decide_eq_false hI] at r
    generalize ownL n l v x = O at *
    generalize l.set v ((2 * n : Nat) : Int) = l1 at *
    generalize 2 * n = n2 at *
    generalize n + x = nx at *
    generalize l.getD v 0 = y at *
    rw [floop_at i_zz61_B7.eq_1]
    clear hq hr hs ht R0 ih hj sO hI c hcu e1
    simp (disch := first | assumption | omega | (simp [*] <;> omega) | fail) [-getElem?_pos, List.getElem?_cons_zero, List.getElem?_cons_succ, hx, hx2, tx, tl, vx, vl, w1, w2, w3, k1, sp1, sp2, i1, i2, i3, r, h3', h4', hv2, hnx, sj, tj, qo, lb3, lb4, hn', hn]
  ·refine ⟨fun h => absurd h.1 c, fun _ => ?_⟩
   generalize l.getD v 0 = y at *
   generalize hz : l.getD (n + x) 0 = z at *
   generalize n + x = nx at *
   rw [floop_at i_zz61_B7.eq_1]
   clear hq hr hs ht R0 ih hj hcu hz
   simp (disch := first | assumption | omega | (simp [*] <;> omega) | fail) [-getElem?_pos, List.getElem?_cons_zero, List.getElem?_cons_succ, hx, hx2, tx, tl, vx, vl, w1, w2, c, qo, lb3, lb4, hn', hn]
 ·rw [floop_at i_zz61_B7.eq_1]
  clear hq hr hs ht R0 ih hj hcu
  simp (disch := first | assumption | omega | (simp [*] <;> omega) | fail) [-getElem?_pos, List.getElem?_cons_zero, List.getElem?_cons_succ, qo, lb3, lb4]
end
set_option maxHeartbeats 4000000 in
theorem lead_core {n k : Nat} {r0 r1 : List Int} (R0 : Rok n r0) (R1 : Rok n r1) (hn1 : 1 ≤ n) (ih : ∀ j, k = j + 1 → LeadOK nro n r0 r1 j) : LeadOK nro n r0 r1 k := by
 intro h s t lq l j hn hs ht hq hl hj hk
 have h62 := R0.le
 have hn' := fun k => Nat.le_trans hn (Nat.le_add_right h.length k)
 have sj := hs.nj
 have tj := ht.nj
 have qok := fun k => hq.oldk (k := k)
 have w2 : IntKind.i64.wrap (2 * (n : Int)) = ((2 * n : Nat) : Int) := by rw [show 2 * (n : Int) = ((2 * n : Nat) : Int) by omega]; exact wrap64 (by omega) (by omega)
 have e8 : 8 * ((2 * n : Nat) : Int) ≤ 140737488355328 := by omega
 have e9 : ((2 * n : Nat) : Int) ≤ 140737488355328 := by omega
 have f8 : 8 * (n : Int) ≤ 140737488355328 := by omega
 have f9 : (n : Int) ≤ 140737488355328 := by omega
 have hfin : ∀ (L : VH) (b : Bool), kclean h [.bool b] (h ++ L) = ([.bool b], h) := fun L b => cleanup_upd (Upd.rfl' h) (by intro w hw; simp at hw; subst hw; intro r hr; simp [trefs, vrefs, crefs, arefs] at hr)
 have hb := c_zz67 (nro := nro) (h := h ++ [⟨0, [.int .i64 n, s]⟩, ⟨0, [.int .i64 n, t]⟩]) (n := n) (hs.app _) (ht.app _) R0 R1 hn1 (by simp; omega) (hq.app _) hl
 have hl2 : (h ++ [(⟨0, [.int .i64 n, s]⟩ : VO), ⟨0, [.int .i64 n, t]⟩]).length = h.length + 2 := by simp
 rw [hl2] at hb
 rcases hb with ⟨b1, hno⟩ | ⟨l', b1, ok⟩
 ·rw [decide_eq_false hno]
  refine v_zz61 (by simp [i_zz61]) ?_
  rw [fbody_eq]
  simp at b1 sj tj
  clear hs ht R0 R1 hq ih hj
  simp (disch := first | assumption | omega | (simp [*] <;> omega) | fail) [i_zz61, b1, hfin, sj, tj, qok, hn', hn, fresults, fresL, fres1]
 ·have hd : HasIso (two r0 r1) n (cOf n l) ↔ HasIso (two r0 r1) n (cOf n l') := exists_congr fun p => ok.iso p
  rw [decide_eq_decide.mpr hd]
  have hH1 : nro ≤ (h ++ [(⟨0, [.int .i64 n, s]⟩ : VO), ⟨0, [.int .i64 n, t]⟩, ⟨1, ints l'⟩]).length := by simp; omega
  have q1 : Sli (h ++ [⟨0, [.int .i64 n, s]⟩, ⟨0, [.int .i64 n, t]⟩, ⟨1, ints l'⟩]) (.slice (some ⟨h.length + 2, 0, none⟩) (2 * n) (2 * n)) l' := by
   have := sli_at (h := h ++ [⟨0, [.int .i64 n, s]⟩, ⟨0, [.int .i64 n, t]⟩, ⟨1, ints l'⟩]) (b := h.length + 2) (xs := l') (by simp)
   rwa [ok.len] at this
  have hHl : (h ++ [(⟨0, [.int .i64 n, s]⟩ : VO), ⟨0, [.int .i64 n, t]⟩, ⟨1, ints l'⟩]).length = h.length + 3 := by simp
  obtain ⟨cnt, c1, c2, l1⟩ := l_leads_1 (nro := nro) (p3 := .pointer (some ⟨h.length, 0, some 2⟩)) (p4 := .pointer (some ⟨h.length + 1, 0, some 2⟩)) hH1 q1 ok.len ok.rng h62 (Old.ptr (by rw [hHl]; omega)) (Old.ptr (by rw [hHl]; omega))
  have hH2 : nro ≤ (h ++ [(⟨0, [.int .i64 n, s]⟩ : VO), ⟨0, [.int .i64 n, t]⟩, ⟨1, ints l'⟩] ++ [(⟨1, ints cnt⟩ : VO)]).length := by simp; omega
  have hHl2 : (h ++ [(⟨0, [.int .i64 n, s]⟩ : VO), ⟨0, [.int .i64 n, t]⟩, ⟨1, ints l'⟩] ++ [(⟨1, ints cnt⟩ : VO)]).length = h.length + 4 := by simp
  have sc : Sli (h ++ [⟨0, [.int .i64 n, s]⟩, ⟨0, [.int .i64 n, t]⟩, ⟨1, ints l'⟩] ++ [⟨1, ints cnt⟩]) (.slice (some ⟨h.length + 3, 0, none⟩) (2 * n) (2 * n)) cnt := by
   have := sli_at (h := h ++ [⟨0, [.int .i64 n, s]⟩, ⟨0, [.int .i64 n, t]⟩, ⟨1, ints l'⟩] ++ [⟨1, ints cnt⟩]) (b := h.length + 3) (xs := cnt) (by simp)
   rwa [c1] at this
  obtain ⟨v, v1, v2, v3, l2⟩ := l_leads_2 (nro := nro) (p3 := .pointer (some ⟨h.length, 0, some 2⟩)) (p4 := .pointer (some ⟨h.length + 1, 0, some 2⟩)) hH2 (q1.app [⟨1, ints cnt⟩]) ok.len ok.rng h62 (Old.ptr (by rw [hHl2]; omega)) (Old.ptr (by rw [hHl2]; omega)) sc c1 c2 n 0 (Nat.zero_le _) rfl (fun u hu => by omega)
  rw [hHl] at l1
  have hz1 : List.replicate (2 * n) (Value.int .i64 0) = ints (List.replicate (2 * n) 0) := by unfold ints; rw [List.map_replicate]
  have hz2 : List.replicate n (Value.int .i64 0) = ints (List.replicate n 0) := by unfold ints; rw [List.map_replicate]
  by_cases hvn : v = n
  ·subst hvn
   obtain ⟨im, ⟨m1, m2⟩, l4⟩ := l_leads_4 (nro := nro) (p3 := .pointer (some ⟨h.length, 0, some 2⟩)) (p4 := .pointer (some ⟨h.length + 1, 0, some 2⟩)) hH2 (q1.app [⟨1, ints cnt⟩]) ok.len h62 (Old.ptr (by rw [hHl2]; omega)) (Old.ptr (by rw [hHl2]; omega))
   have him : ∀ w, w < v → (∃ x, x < v ∧ l'.getD (v + x) 0 = l'.getD w 0) → (im.getD w 0).toNat < v ∧ l'.getD (v + (im.getD w 0).toNat) 0 = l'.getD w 0 := fun w hw ⟨x, hx, e⟩ => by
    rcases m2 w hw with ⟨a1, _⟩ | ⟨z, a1, a2, a3⟩
    ·exact absurd e (a1 x hx)
    ·rw [a2, Int.toNat_natCast]; exact ⟨a1, a3⟩
   obtain ⟨w1, w3⟩ := leafL (r0 := r0) (r1 := r1) ok.len ok.perm v2 (im := fun w => (im.getD w 0).toNat) him
   have hir : ∀ w, w < v → 0 ≤ im.getD w 0 ∧ im.getD w 0 < v := fun w hw => by
    rcases m2 w hw with ⟨_, a2⟩ | ⟨z, a1, a2, a3⟩
    ·rw [a2]; omega
    ·rw [a2]; omega
   have si : Sli (h ++ [⟨0, [.int .i64 v, s]⟩, ⟨0, [.int .i64 v, t]⟩, ⟨1, ints l'⟩] ++ [⟨1, ints cnt⟩] ++ [⟨1, ints im⟩]) (.slice (some ⟨h.length + 4, 0, none⟩) v v) im := by
    have := sli_at (h := h ++ [⟨0, [.int .i64 v, s]⟩, ⟨0, [.int .i64 v, t]⟩, ⟨1, ints l'⟩] ++ [⟨1, ints cnt⟩] ++ [⟨1, ints im⟩]) (b := h.length + 4) (xs := im) (by simp)
    rwa [m1] at this
   have l6 := l_leads_6 (nro := nro) (H := h ++ [⟨0, [.int .i64 v, s]⟩, ⟨0, [.int .i64 v, t]⟩, ⟨1, ints l'⟩] ++ [⟨1, ints cnt⟩] ++ [⟨1, ints im⟩]) (b3 := h.length) (b4 := h.length + 1) (s := s) (t := t) (by simp) (by simp) ((((hs.app _).app _)).app _) ((((ht.app _).app _)).app _) R0 R1 si m1 hir
   have hiff : (∃ w, 0 ≤ w ∧ w < v ∧ ∃ x, 0 ≤ x ∧ x < v ∧ rbit r0 w x ≠ rbit r1 (im.getD w 0).toNat (im.getD x 0).toNat) ↔ ¬ HasIso (two r0 r1) v (cOf v l') := by
    rw [w1]
    constructor
    ·rintro ⟨w, _, hw, x, _, hx, hne⟩ hall
     exact hne (hall w x hw hx)
    ·intro hno
     apply Classical.byContradiction
     intro hno2
     refine hno fun w x hw hx => ?_
     apply Classical.byContradiction
     intro hne
     exact hno2 ⟨w, Nat.zero_le _, hw, x, Nat.zero_le _, hx, hne⟩
   rw [propext hiff] at l6
   rw [hHl2] at l4
   obtain ⟨z0, hz0⟩ : ∃ z, z = List.replicate (2 * v) (0 : Int) := ⟨_, rfl⟩
   obtain ⟨z2, hz3⟩ : ∃ z, z = List.replicate v (0 : Int) := ⟨_, rfl⟩
   rw [← hz0] at l1 hz1
   rw [← hz3] at l4 hz2
   have i1 : (ints l').length = 2 * v := by rw [ints_length, ok.len]
   refine v_zz61 (by simp [i_zz61]) ?_
   rw [fbody_eq]
   by_cases hI : HasIso (two r0 r1) v (cOf v l')
   ·rw [if_neg (fun h => h hI)] at l6
    rw [decide_eq_true hI]
    simp at b1 sj tj l1 l2 l4 l6
    clear hs ht R0 R1 hq ih hj ok hd q1 sc v2 c2 m2 him w1 w3 hir si hiff hI hz0 hz3
    generalize 2 * v = n2 at *
    simp (disch := first | assumption | omega | (simp [*] <;> omega) | fail) [i_zz61, b1, l1, l2, l4, l6, w2, e8, e9, f8, f9, hz1, hz2, i1, hfin, sj, tj, qok, hn', hn, fresults, fresL, fres1]
   ·rw [if_pos hI] at l6
    rw [decide_eq_false hI]
    simp at b1 sj tj l1 l2 l4 l6
    clear hs ht R0 R1 hq ih hj ok hd q1 sc v2 c2 m2 him w1 w3 hir si hiff hI hz0 hz3
    generalize 2 * v = n2 at *
    simp (disch := first | assumption | omega | (simp [*] <;> omega) | fail) [i_zz61, b1, l1, l2, l4, l6, w2, e8, e9, f8, f9, hz1, hz2, i1, hfin, sj, tj, qok, hn', hn, fresults, fresL, fres1]
  ·have hvlt : v < n := by omega
   obtain ⟨u, hu, huv, hcu⟩ := cn1_more hvlt (v3 hvlt)
   have hj' := hj.fine ok
   have hjl := (hj'.own (x := (n - 1)) ok.len ok.rng hvlt (by omega) hu huv hcu)
   have hk1 : ∃ k', k = k' + 1 := by
    -- a colour more than there are vertices is not possible
    refine ⟨k - 1, ?_⟩
    have hm : (cOf n l' 0).getD v 0 ∈ cOf n l' 0 := by rw [getD_at _ (by rw [(cOf_len ok.len).1]; omega)]; exact List.getElem_mem _
    have hm2 := ok.perm.mem_iff.mp hm
    rw [cOf_0 v hvlt] at hm2
    obtain ⟨x, hx, e⟩ := mem_getD hm2
    rw [cOf_1] at e
    rw [(cOf_len ok.len).2] at hx
    have := (hj'.own ok.len ok.rng hvlt hx hu huv hcu e).le
    omega
   clear hjl
   obtain ⟨k', rfl⟩ := hk1
   have l7 := l_leads_7 (nro := nro) (H := h ++ [⟨0, [.int .i64 n, s]⟩, ⟨0, [.int .i64 n, t]⟩, ⟨1, ints l'⟩] ++ [⟨1, ints cnt⟩]) (b3 := h.length) (b4 := h.length + 1) (s := s) (t := t) hH2 (q1.app _) ok.len ok.rng (by simp) (by simp) ((hs.app _).app _) ((ht.app _).app _) R0 (ih k' rfl) hj' hk hvlt hu huv hcu
   have hiff := branchL (r0 := r0) (r1 := r1) ok.len ok.rng hvlt
   have hne : ¬ (v : Int) = n := by omega
   obtain ⟨z0, hz0⟩ : ∃ z, z = List.replicate (2 * n) (0 : Int) := ⟨_, rfl⟩
   rw [← hz0] at l1 hz1
   have i1 : (ints l').length = 2 * n := by rw [ints_length, ok.len]
   refine v_zz61 (by simp [i_zz61]) ?_
   rw [fbody_eq]
   rcases l7 with ⟨⟨x, _, hx, hcx, hI⟩, L, l7⟩ | ⟨hno, l7⟩
   ·rw [decide_eq_true (hiff.mpr ⟨x, hx, hcx, hI⟩)]
    simp at b1 sj tj l1 l2 l7
    clear hs ht R0 R1 hq ih hj hj' ok hd q1 sc v2 v3 c2 hcu hcx hiff hI hz0
    generalize 2 * n = n2 at *
    simp (disch := first | assumption | omega | (simp [*] <;> omega) | fail) [i_zz61, b1, l1, l2, l7, w2, e8, e9, hz1, i1, hne, hvn, hfin, sj, tj, qok, hn', hn, fresults, fresL, fres1]
   ·rw [decide_eq_false fun h => hno ((hiff.mp h).elim fun x hx => ⟨x, Nat.zero_le _, hx⟩)]
    simp at b1 sj tj l1 l2 l7
    clear hs ht R0 R1 hq ih hj hj' ok hd q1 sc v2 v3 c2 hcu hiff hno hz0
    generalize 2 * n = n2 at *
    simp (disch := first | assumption | omega | (simp [*] <;> omega) | fail) [i_zz61, b1, l1, l2, l7, w2, e8, e9, hz1, i1, hne, hvn, hfin, sj, tj, qok, hn', hn, fresults, fresL, fres1]
theorem lead_ok {n : Nat} {r0 r1 : List Int} (R0 : Rok n r0) (R1 : Rok n r1) (hn1 : 1 ≤ n) : ∀ k, LeadOK nro n r0 r1 k
 | 0 => lead_core R0 R1 hn1 fun j h => by omega
 | k + 1 => lead_core R0 R1 hn1 fun j h => by
  have : j = k := by omega
  subst this
  intro h s t lq l j' a1 a2 a3 a4 a5 a6 a7
  exact lead_ok R0 R1 hn1 j a1 a2 a3 a4 a5 a6 a7
end

end Go.Proofs.YtbdlmjnpglfkoaaDoor.Zv

