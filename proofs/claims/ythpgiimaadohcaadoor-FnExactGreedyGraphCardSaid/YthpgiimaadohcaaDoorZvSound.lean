/- The virtual interpreter is right: whatever it tells of a call, the model's call comes to, in any order that Go leaves open. -/
import Derived.Test.YthpgiimaadohcaaDoorZvDraw3
namespace Go.Proofs.YthpgiimaadohcaaDoor.Zv
open Go

namespace DD
variable {P : Program} {nro : Nat} {call : VCall} {ops : Array Oper} {d : DD P nro call ops}
variable {φ0 : Em} {h0 : VH} {w0 : World} {a0 : Act} {e0 : List Value}

theorem Inv.congr {L L' : Nat → Bool} {β : Nat → Nat} (e : ∀ i, L i = L' i) {φ : Em} {s : Nat} {env : List Value} {a : Act} {w : World} (h : DD.Inv d φ0 h0 w0 a0 e0 L β φ s env a w) : DD.Inv d φ0 h0 w0 a0 e0 L' β φ s env a w := by
  have : L = L' := funext e
  rw [← this]
  exact h

def cntL (n : Nat) (listed : Array Bool) : Nat := ((List.range n).filter fun i => !listed.getD i false).length

theorem wpAny_inv (hS : CallSound P nro call) (hnr : nro ≤ h0.length) (he0 : d.E 0 = e0) (Q : Exit → Act → World → Prop)
    (hQ : ∀ β φ s env a w, DD.Inv d φ0 h0 w0 a0 e0 (fun i => decide (i < ops.size)) β φ s env a w → Q .normal a w) : ∀ (fuel : Nat) (listed : Array Bool), listed.size = ops.size → cntL ops.size listed ≤ fuel →
      ∀ β φ s env a w, DD.Inv d φ0 h0 w0 a0 e0 (fun i => listed.getD i false) β φ s env a w → wpAny P .any ops Q fuel listed a w := by
  -- where nothing is ready all is done
  have hdone : ∀ (listed : Array Bool), listed.size = ops.size → ∀ β φ s env a w, DD.Inv d φ0 h0 w0 a0 e0 (fun i => listed.getD i false) β φ s env a w → Region.ready .any ops listed = [] → Q .normal a w := by
    intro listed hsz β φ s env a w hI hr
    have hall : ∀ i, i < ops.size → listed.getD i false = true := by
      intro i
      induction i using Nat.strongRecOn with
      | _ i ih =>
        intro hi
        cases hl : listed.getD i false with
        | true => rfl
        | false =>
          exfalso
          obtain ⟨t, ht⟩ := List.getElem?_of_mem (d.hall i hi)
          obtain ⟨o, vo, ha⟩ := d.at_of ht
          have : i ∈ Region.ready .any ops listed := by
            unfold Region.ready
            rw [List.mem_filter]
            refine ⟨by simpa using hi, ?_⟩
            have hil : i < listed.size := by omega
            have hl2 : listed.getD i true = false := by
              simp only [Array.getD, hil, dif_pos] at hl ⊢
              exact hl
            rw [hl2, ha.ho]
            simp only [Bool.not_false, Bool.true_and, Option.map_some, Option.getD_some]
            rw [Array.all_eq_true_iff_forall_mem]
            intro e he
            cases hb : Region.binds .any e with
            | false => rfl
            | true =>
              have hlt := (ha.facts.2.1 e (by simpa using he) hb).2
              simp [ih e.on hlt (by omega)]
          rw [hr] at this
          cases this
    refine hQ β φ s env a w (hI.congr fun i => ?_)
    by_cases hi : i < ops.size
    · rw [hall i hi]; simp [hi]
    · have : listed.getD i false = false := by
        have : ¬ i < listed.size := by omega
        simp [Array.getD, this]
      rw [this]; simp [hi]
  intro fuel
  induction fuel with
  | zero =>
    intro listed hsz hc β φ s env a w hI
    have hrd : Region.ready .any ops listed = [] := by
      have hz : (List.range ops.size).filter (fun i => !listed.getD i false) = [] := List.length_eq_zero_iff.mp (Nat.le_zero.mp hc)
      apply List.eq_nil_iff_forall_not_mem.mpr
      intro i hi
      unfold Region.ready at hi
      rw [List.mem_filter] at hi
      have hi2 : i < ops.size := by simpa using hi.1
      have : i ∈ (List.range ops.size).filter (fun i => !listed.getD i false) := by
        rw [List.mem_filter]
        refine ⟨hi.1, ?_⟩
        have h1 := hi.2
        simp only [Bool.and_eq_true] at h1
        have hil : i < listed.size := by omega
        have h2 := h1.1
        simp only [Array.getD, hil, dif_pos] at h2 ⊢
        exact h2
      rw [hz] at this
      cases this
    exact ⟨hrd, hdone listed hsz β φ s env a w hI hrd⟩
  | succ fuel ih =>
    intro listed hsz hc β φ s env a w hI
    refine ⟨hdone listed hsz β φ s env a w hI, fun i hi => ?_⟩
    unfold Region.ready at hi
    rw [List.mem_filter] at hi
    have hi2 : i < ops.size := by simpa using hi.1
    have hil : i < listed.size := by omega
    have h1 := hi.2
    simp only [Bool.and_eq_true] at h1
    have hLi : listed.getD i false = false := by
      have h2 := h1.1
      simp only [Array.getD, hil, dif_pos, Bool.not_eq_true'] at h2 ⊢
      exact h2
    obtain ⟨t, ht⟩ := List.getElem?_of_mem (d.hall i hi2)
    obtain ⟨o, vo, ha⟩ := d.at_of ht
    have hready : ∀ e ∈ o.after.toList, Region.binds .any e = true → listed.getD e.on false = true := by
      intro e he hb
      have h2 := h1.2
      rw [ha.ho] at h2
      simp only [Option.map_some, Option.getD_some] at h2
      rw [Array.all_eq_true_iff_forall_mem] at h2
      have := h2 e (by simpa using he)
      simpa [hb] using this
    refine next (d := d) hS hnr ha hI he0 hready hLi fun β' φ' s' env' a' w' hI' => ?_
    refine ih (listed.setIfInBounds i true) (by simpa using hsz) ?_ β' φ' s' env' a' w' (hI'.congr fun j => ?_)
    · -- one more is listed
      have hset : ∀ j, (listed.setIfInBounds i true).getD j false = (listed.getD j false || j == i) := by
        intro j
        by_cases e : j = i
        · subst e; simp [Array.getD_eq_getD_getElem?, hil]
        · simp only [Array.getD_eq_getD_getElem?]
          rw [Array.getElem?_setIfInBounds_ne (fun h => e h.symm)]
          simp [e]
      unfold cntL at hc ⊢
      have hsub : ((List.range ops.size).filter fun j => !(listed.setIfInBounds i true).getD j false) = ((List.range ops.size).filter fun j => !listed.getD j false).filter fun j => !(j == i) := by
        rw [List.filter_filter]
        apply List.filter_congr
        intro j _
        rw [hset]
        cases listed.getD j false <;> simp
      rw [hsub]
      have hlt : (((List.range ops.size).filter fun j => !listed.getD j false).filter fun j => !(j == i)).length < ((List.range ops.size).filter fun j => !listed.getD j false).length := by
        have hmem : i ∈ (List.range ops.size).filter fun j => !listed.getD j false := by
          rw [List.mem_filter]
          exact ⟨by simpa using hi2, by rw [hLi]; rfl⟩
        generalize (List.range ops.size).filter (fun j => !listed.getD j false) = l at hmem
        have h3 := List.length_filter_lt_length_iff_exists (p := fun j => !(j == i)) (l := l)
        exact h3.mpr ⟨i, hmem, by simp⟩
      omega
    · show put1 (fun i => listed.getD i false) i j = _
      unfold put1
      by_cases e : j = i
      · subst e; simp [Array.getD_eq_getD_getElem?, hil]
      · simp only [Array.getD_eq_getD_getElem?]
        rw [Array.getElem?_setIfInBounds_ne (fun h => e h.symm)]
        simp [e]
end DD

theorem dsound_f {P : Program} {nro : Nat} {call : VCall} (hm : P.follows .mixedOrders = true) (hS : CallSound P nro call) {ops : Array Oper} {l : List VOper} (hl : compOps P ops ops.toList = some l) (fs : List Nat) {os : List VOper} (hos : compDf fs ops l.toArray (befA ops.toList #[]) = some os) {id : Nat} {φ : Em} {h : VH} {w : World} {env : List Value} {a : Act} {env' : List Value} {h' : VH}
    (hnr : nro ≤ h.length) (hR : RH nro φ h.ph w) (hE : RE φ h.ph env a) (hv : vdops call nro os env h [] = some (env', h')) : (Code.region id ops true).wp P (CP nro φ h w a .normal env' h') a w := by
  unfold compDf at hos
  dsimp only at hos
  split at hos
  · rename_i hcond
    simp only [Bool.and_eq_true, beq_iff_eq] at hcond
    obtain ⟨⟨hsz, hall⟩, hord⟩ := hcond
    cases hos
    obtain ⟨hllen, hlget⟩ := compOps_get hl
    obtain ⟨E, H, G, V, t1, t2, t3, t4, t5, t6⟩ := vdops_trace _ _ _ _ _ hv
    let d : DD P nro call ops :=
      { fs := fs, B := befA ops.toList #[], vs := l.toArray, π := orderOf fs (befA ops.toList #[]) l.toArray, os := laid fs (befA ops.toList #[]) l.toArray [] (orderOf fs (befA ops.toList #[]) l.toArray), E := E, H := H, G := G, V := V,
        hB := rfl,
        hvs := fun i o ho => by
          obtain ⟨vo, h1, h2⟩ := hlget i o (by simpa using ho)
          exact ⟨vo, by simpa using h1, h2⟩,
        hall := fun i hi => by
          have := List.all_eq_true.mp hall i (by simpa using hi)
          simpa using this,
        hat := fun t i hi => by simpa using okOrder_get hord t i hi,
        hos := fun t i vo hi hvo => by
          have := laid_get (fs := fs) (B := befA ops.toList #[]) (vs := l.toArray) (before := []) t i hi
          rw [this]
          have e : l.toArray.getD i ⟨none, .alloc [], none, 0⟩ = vo := by simp only [Array.getD_eq_getD_getElem?, hvo, Option.getD_some]
          rw [e]
          simp,
        hG0 := t3,
        hst := t6 }
    have hlen : d.os.length = d.π.length := laid_length
    refine wp_region_any hm ?_
    refine DD.wpAny_inv (d := d) (φ0 := φ) (h0 := h) (w0 := w) (a0 := a) (e0 := env) hS hnr t1 _ ?_ ops.size (Array.replicate ops.size false) (by simp) ?_ (fun _ => 0) φ 0 env a _ ?_
    · -- the end
      intro β φ0' s0 env0 a1 w1 hI0
      obtain ⟨φ', env1, hI⟩ := DD.advance hnr (d.π.length - s0) (by have := hI0.hs; omega) (fun q j hq _ => by
        obtain ⟨oj, vj, haj⟩ := d.at_of hq
        simpa using haj.lt) hI0
      rw [show s0 + (d.π.length - s0) = d.π.length by have := hI0.hs; omega] at hI
      have hHs : d.H d.π.length = h' := by
        rw [← hlen]
        exact t5
      have henv : env1 = env' := by
        obtain ⟨k1, k2, k3⟩ := DD.E_get (d := d) d.π.length (Nat.le_refl _)
        have e1 : d.E d.π.length = env' := by rw [← hlen]; exact t4
        rw [e1] at k1 k2 k3
        have e0 : d.E 0 = env := t1
        apply List.ext_getElem?
        intro q
        by_cases hw : ∃ (t i : Nat) (vo : VOper), d.π[t]? = some i ∧ d.vs[i]? = some vo ∧ vo.dst = some q
        · obtain ⟨t, i, vo, hp, hvo, hd⟩ := hw
          obtain ⟨o', vo', ha⟩ := d.at_of hp
          have htl := (List.getElem?_eq_some_iff.mp hp).1
          rw [hI.hW1 t i vo q hp hvo hd (by simpa using ha.lt) (fun _ => htl), k2 t i vo q htl hp hvo hd, e0]
        · rw [hI.hW2 q fun t i vo hp hvo _ hd => hw ⟨t, i, vo, hp, hvo, hd⟩, k3 q fun t i vo _ hp hvo hd => hw ⟨t, i, vo, hp, hvo, hd⟩, e0]
      subst henv
      refine ⟨trivial, φ', ?_, ?_, ?_, hI.hd⟩
      · rw [← hHs]; exact hI.hR
      · rw [← hHs]; exact hI.hE
      · rw [← hHs]; exact hI.hX
    · unfold DD.cntL
      exact Nat.le_trans (List.length_filter_le _ _) (by simp)
    · -- the beginning
      have hH0 : d.H 0 = h := t2
      have hfalse : ∀ i, (Array.replicate ops.size false).getD i false = false := by
        intro i
        simp only [Array.getD_eq_getD_getElem?, Array.getElem?_replicate]
        split <;> rfl
      have hno : ∀ i, (Array.replicate ops.size false).getD i false = true → False := fun i hi => absurd ((hfalse i).symm.trans hi) (by simp)
      refine ⟨Nat.zero_le _, fun t i hp ht => by omega, fun t i hp _ _ hi => (hno i hi).elim, ?_, ?_, ?_, rfl, ?_, fun i hi => (hno i hi).elim, fun t i vo q _ _ _ hi => (hno i hi).elim, fun q _ => rfl, rfl, fun b C hb => by obtain ⟨⟨ty, fz, h1⟩, _⟩ := hR.glob b C hb; exact (Array.getElem?_eq_some_iff.mp h1).1, fun t i vo z q _ _ _ _ _ hi => (hno i hi).elim, fun t i t' i' _ _ _ _ hi => (hno i hi).elim⟩
      · rw [hH0]; exact hR.heap_eq rfl
      · rw [hH0]; exact X.heap_eq rfl ⟨rfl, rfl, rfl⟩
      · rw [hH0]; exact hE
      · intro i o ho hi
        exact (hno i hi).elim
  · cases hos

theorem dsound {P : Program} {nro : Nat} {call : VCall} (hm : P.follows .mixedOrders = true) (hS : CallSound P nro call) : DSound P nro call (compD P) := by
  intro ops os hos id φ h w env a env' h' hnr hR hE hv
  unfold compD at hos
  split at hos
  · cases hos
  · rename_i l hl
    dsimp only at hos
    split at hos
    · rename_i os' h1
      cases hos
      exact dsound_f hm hS hl _ h1 hnr hR hE hv
    · exact dsound_f hm hS hl _ hos hnr hR hE hv

/-- The whole. -/
theorem sound {P : Program} {nro : Nat} (hm : P.follows .mixedOrders = true) (F : Nat → Option Ent) (hF : ∀ f fn, F f = some (.ir fn) → EntOK P (compD P) f fn) (hX : ∀ f g, F f = some (.ext g) → ExtOK P nro f g) : CallSound P nro (vcall F nro) :=
  call_sound F (compD P) hF hX fun _ hS => dsound hm hS

end Go.Proofs.YthpgiimaadohcaaDoor.Zv
