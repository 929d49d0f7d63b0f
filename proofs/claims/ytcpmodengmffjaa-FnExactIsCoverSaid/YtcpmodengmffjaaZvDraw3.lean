/- Regions whose order is open: the invariant along any order. -/
import Derived.Test.YtcpmodengmffjaaZvDraw2
namespace Go.Proofs.Ytcpmodengmffjaa.Zv
open Go

/-- All that is known of a region and of what the virtual interpreter made of it. -/
structure DD (P : Program) (nro : Nat) (call : VCall) (ops : Array Oper) where
  B : Array Nat
  vs : Array VOper
  π : List Nat
  os : List VOper
  E : Nat → List Value
  H : Nat → VH
  G : Nat → List VH
  V : Nat → Value
  hB : B = befA ops.toList #[]
  hvs : ∀ (i : Nat) o, ops[i]? = some o → ∃ vo, vs[i]? = some vo ∧ compOper P ops o = some vo
  hall : ∀ i, i < ops.size → i ∈ π
  hat : ∀ (t i : Nat), π[t]? = some i → okOrderAt ops B vs (π.take t) i = true
  hos : ∀ (t i : Nat) vo, π[t]? = some i → vs[i]? = some vo → os[t]? = some { vo with chk := chkOf B vs (π.take t) i }
  hG0 : G 0 = []
  hst : ∀ (t : Nat) o, os[t]? = some o → StepR call nro o (E t) (H t) (G t) (V t) (E (t + 1)) (H (t + 1)) (G (t + 1))

namespace DD
variable {P : Program} {nro : Nat} {call : VCall} {ops : Array Oper} (d : DD P nro call ops)

/-- Place t of the order holds operation i, which is o in the model, vo here. -/
structure At (t i : Nat) (o : Oper) (vo : VOper) : Prop where
  p : d.π[t]? = some i
  ho : ops[i]? = some o
  hv : d.vs[i]? = some vo
  hc : compOper P ops o = some vo
  hos : d.os[t]? = some { vo with chk := chkOf d.B d.vs (d.π.take t) i }

theorem at_of {t i : Nat} (h : d.π[t]? = some i) : ∃ o vo, d.At t i o vo := by
  have h1 := d.hat t i h
  unfold okOrderAt at h1
  simp only [Bool.and_eq_true] at h1
  have hi : i < ops.size := by simpa using h1.1.1.1.1
  have ho : ops[i]? = some ops[i] := by simp [hi]
  obtain ⟨vo, hv, hc⟩ := d.hvs i _ ho
  exact ⟨_, vo, h, ho, hv, hc, d.hos t i vo h hv⟩

variable {d}
theorem At.lt {t i : Nat} {o : Oper} {vo : VOper} (h : d.At t i o vo) : i < ops.size := (Array.getElem?_eq_some_iff.mp h.ho).1
theorem At.dst {t i : Nat} {o : Oper} {vo : VOper} (h : d.At t i o vo) : vo.dst = o.dst ∧ compOp P o = some vo.op ∧ compGuard ops o.guard = some vo.guard := by
  have := h.hc
  unfold compOper at this
  split at this
  · cases this; exact ⟨rfl, by assumption, by assumption⟩
  · cases this

theorem At.facts {t i : Nat} {o : Oper} {vo : VOper} (h : d.At t i o vo) : i ∉ d.π.take t ∧ (∀ e ∈ o.after.toList, Region.binds .any e = true → e.on ∈ d.π.take t ∧ e.on < i) ∧
    (vo.op.eff = true → ∀ j ∈ d.π.take t, (d.B.getD i 0).testBit j = true) ∧
    (∀ j vo', d.vs[j]? = some vo' → j < ops.size → j ≠ i → (vo.dst ≠ none → vo'.dst ≠ vo.dst) ∧ ∀ s, vo'.dst = some s → s ∈ slotsOf vo → (d.B.getD i 0).testBit j = true ∨ (d.B.getD j 0).testBit i = true) := by
  have h1 := d.hat t i h.p
  unfold okOrderAt at h1
  simp only [Bool.and_eq_true] at h1
  obtain ⟨⟨⟨⟨_, h2⟩, h3⟩, h4⟩, h5⟩ := h1
  refine ⟨by simpa using h2, ?_, ?_, ?_⟩
  · rw [h.ho] at h3
    intro e he hb
    have := List.all_eq_true.mp h3 e he
    simp only [hb, Bool.not_true, Bool.false_or, Bool.and_eq_true, decide_eq_true_eq] at this
    exact ⟨by simpa using this.1, this.2⟩
  · intro he j hj
    simp only [effI, h.hv, he, Bool.not_true, Bool.false_or] at h4
    exact List.all_eq_true.mp h4 j hj
  · intro j vo' hj hjl hne
    rw [h.hv] at h5
    have := List.all_eq_true.mp h5 j (by simpa using hjl)
    rw [hj] at this
    have hne' : (j == i) = false := by simpa using hne
    simp only [hne', Bool.false_or, Bool.and_eq_true] at this
    refine ⟨fun hn => ?_, fun s hs hsl => ?_⟩
    · cases hd : vo.dst with
      | none => exact absurd hd hn
      | some q => simpa [hd] using this.1
    · have h6 := this.2
      rw [hs] at h6
      simp only [Bool.or_eq_true] at h6
      rcases h6 with (h6 | h6) | h6
      · simp at h6; exact absurd hsl h6
      · exact .inl h6
      · exact .inr h6

theorem pos_unique {t t' i : Nat} (h : d.π[t]? = some i) (h' : d.π[t']? = some i) : t = t' := by
  obtain ⟨o, vo, ha⟩ := d.at_of h
  obtain ⟨o', vo', ha'⟩ := d.at_of h'
  have f1 := ha.facts.1
  have f2 := ha'.facts.1
  rcases Nat.lt_trichotomy t t' with hlt | e | hlt
  · exact absurd (List.mem_of_getElem? (show (d.π.take t')[t]? = some i by rw [List.getElem?_take, if_pos hlt]; exact h)) f2
  · exact e
  · exact absurd (List.mem_of_getElem? (show (d.π.take t)[t']? = some i by rw [List.getElem?_take, if_pos hlt]; exact h')) f1

theorem mem_take {t i : Nat} : i ∈ d.π.take t ↔ ∃ s, s < t ∧ d.π[s]? = some i := by
  constructor
  · intro h
    obtain ⟨s, hs⟩ := List.getElem?_of_mem h
    rw [List.getElem?_take] at hs
    split at hs
    · exact ⟨s, by assumption, hs⟩
    · cases hs
  · rintro ⟨s, hs, h⟩
    exact List.mem_of_getElem? (show (d.π.take t)[s]? = some i by rw [List.getElem?_take, if_pos hs]; exact h)

/-- What lies before place t is closed. -/
theorem prefix_closed (t : Nat) : Closed ops (fun i => decide (i ∈ d.π.take t)) := by
  intro i o ho hi e he hb
  simp only [decide_eq_true_eq] at hi ⊢
  obtain ⟨s, hs, hp⟩ := mem_take.mp hi
  obtain ⟨o', vo, ha⟩ := d.at_of hp
  have : o' = o := by have := ha.ho; rw [ho] at this; exact (Option.some.inj this).symm
  subst this
  obtain ⟨s', hs', hp'⟩ := mem_take.mp (ha.facts.2.1 e he hb).1
  exact mem_take.mpr ⟨s', by omega, hp'⟩

theorem bef_closed {listed : Nat → Bool} (hc : Closed ops listed) {i j : Nat} (h : (d.B.getD i 0).testBit j = true) (hi : listed i = true) : listed j = true := by
  rw [d.hB] at h
  exact befA_spec hc ops.toList #[] rfl (fun i j hi => by simp at hi) i j h hi

/-- What is before i lies before it. -/
theorem bef_pos {t i j : Nat} (hp : d.π[t]? = some i) (h : (d.B.getD i 0).testBit j = true) : ∃ s, s ≤ t ∧ d.π[s]? = some j := by
  have hm : decide (i ∈ d.π.take (t + 1)) = true := by simpa using mem_take.mpr ⟨t, by omega, hp⟩
  have := bef_closed (prefix_closed (t + 1)) h hm
  simp only [decide_eq_true_eq] at this
  obtain ⟨s, hs, hps⟩ := mem_take.mp this
  exact ⟨s, by omega, hps⟩

/-- How many of the first t operations write. -/
def cnt (d : DD P nro call ops) (t : Nat) : Nat := ((d.π.take t).filter fun j => effI d.vs j).length

theorem cnt_succ {t i : Nat} (h : d.π[t]? = some i) : d.cnt (t + 1) = d.cnt t + if effI d.vs i then 1 else 0 := by
  unfold cnt
  rw [List.take_succ_eq_append_getElem (List.getElem?_eq_some_iff.mp h).1, List.filter_append, List.length_append]
  have : d.π[t]'((List.getElem?_eq_some_iff.mp h).1) = i := (List.getElem?_eq_some_iff.mp h).2
  rw [this]
  congr 1
  cases hb : effI d.vs i <;> simp [hb, List.filter]

theorem effI_of {i : Nat} {vo : VOper} (h : d.vs[i]? = some vo) : effI d.vs i = vo.op.eff := by unfold effI; rw [h]

/-- No write between: the same heap. -/
theorem H_same : ∀ {n s : Nat}, s + n ≤ d.π.length → (∀ q i, s ≤ q → q < s + n → d.π[q]? = some i → effI d.vs i = false) → d.H (s + n) = d.H s
  | 0, _, _, _ => rfl
  | n + 1, s, hl, hn => by
    have ih := H_same (n := n) (s := s) (by omega) fun q i h1 h2 => hn q i h1 (by omega)
    obtain ⟨i, hi⟩ : ∃ i, d.π[s + n]? = some i := ⟨_, List.getElem?_eq_getElem (by omega)⟩
    obtain ⟨o, vo, ha⟩ := d.at_of hi
    have he : vo.op.eff = false := by rw [← effI_of ha.hv]; exact hn _ _ (by omega) (by omega) hi
    have := (d.hst _ _ ha.hos).2.1 he
    rw [← Nat.add_assoc, this.1, ih]

theorem H_eq {s t : Nat} (hst : s ≤ t) (hl : t ≤ d.π.length) (hn : ∀ q i, s ≤ q → q < t → d.π[q]? = some i → effI d.vs i = false) : d.H t = d.H s := by
  have := H_same (d := d) (n := t - s) (s := s) (by omega) fun q i h1 h2 => hn q i h1 (by omega)
  rw [show s + (t - s) = t by omega] at this
  exact this

/-- The elder heaps. -/
theorem G_get : ∀ (t : Nat), t ≤ d.π.length → ∀ s, s ≤ t → d.cnt s < d.cnt t → (d.G t)[d.cnt t - 1 - d.cnt s]? = some (d.H s)
  | 0, _, s, hs, hc => by have : s = 0 := by omega
                          subst this; omega
  | t + 1, hl, s, hs, hc => by
    obtain ⟨i, hi⟩ : ∃ i, d.π[t]? = some i := ⟨_, List.getElem?_eq_getElem (by omega)⟩
    obtain ⟨o, vo, ha⟩ := d.at_of hi
    have hcs := cnt_succ hi
    have hst := d.hst _ _ ha.hos
    rw [effI_of ha.hv] at hcs
    have hle : s ≤ t := by
      rcases Nat.lt_or_ge t s with h | h
      · have : s = t + 1 := by omega
        subst this; omega
      · exact h
    by_cases he : vo.op.eff = true
    · rw [he] at hcs
      simp only [if_true] at hcs
      rw [hst.1 he]
      by_cases hlt : d.cnt s < d.cnt t
      · rw [show d.cnt (t + 1) - 1 - d.cnt s = (d.cnt t - 1 - d.cnt s) + 1 by omega, List.getElem?_cons_succ]
        exact G_get t (by omega) s hle hlt
      · rw [show d.cnt (t + 1) - 1 - d.cnt s = 0 by omega, List.getElem?_cons_zero]
        congr 1
        refine H_eq hle (by omega) fun q j h1 h2 hq => ?_
        -- a write at q would count
        cases hj : effI d.vs j with
        | false => rfl
        | true =>
          exfalso
          have h3 : d.cnt s ≤ d.cnt q := by
            unfold cnt
            have : d.π.take s = (d.π.take q).take s := by rw [List.take_take, Nat.min_eq_left h1]
            rw [this]
            exact ((List.take_sublist s _).filter _).length_le
          have h4 : d.cnt (q + 1) ≤ d.cnt t := by
            unfold cnt
            have : d.π.take (q + 1) = (d.π.take t).take (q + 1) := by rw [List.take_take, Nat.min_eq_left h2]
            rw [this]
            exact ((List.take_sublist (q + 1) _).filter _).length_le
          have h5 := cnt_succ hq
          rw [hj] at h5
          simp only [if_true] at h5
          omega
    · have he : vo.op.eff = false := by simpa using he
      rw [he] at hcs
      simp only [Bool.false_eq_true, if_false, Nat.add_zero] at hcs
      rw [(hst.2.1 he).2, hcs]
      exact G_get t (by omega) s hle (by omega)

/-- Which operations have been carried out, and what is so then. -/
structure Inv (d : DD P nro call ops) (φ0 : Em) (h0 : VH) (w0 : World) (a0 : Act) (e0 : List Value) (L : Nat → Bool) (φ : Em) (s : Nat) (env : List Value) (a : Act) (w : World) : Prop where
  hs : s ≤ d.π.length
  heff : ∀ (t i : Nat), d.π[t]? = some i → effI d.vs i = true → (L i = true ↔ t < s)
  hR : RH nro φ (VH.ph (d.H s)) w
  hX : X nro φ0 (VH.ph h0) w0 φ (VH.ph (d.H s)) w
  hE : RE φ (VH.ph (d.H s)) env a
  hd : a.defers = a0.defers
  hcl : Closed ops L
  hin : ∀ i, L i = true → i < ops.size
  hW1 : ∀ (t i : Nat) vo (q : Nat), d.π[t]? = some i → d.vs[i]? = some vo → vo.dst = some q → L i = true → env[q]? = if q < e0.length then some (d.V t) else none
  hW2 : ∀ q : Nat, (∀ (t i : Nat) vo, d.π[t]? = some i → d.vs[i]? = some vo → L i = true → vo.dst ≠ some q) → env[q]? = e0[q]?
  hlen : env.length = e0.length

theorem vput_length (env : List Value) (q : Option Nat) (v : Value) : (vput env q v).length = env.length := by cases q <;> simp [vput]
theorem vput_get (env : List Value) (q r : Nat) (v : Value) : (vput env (some q) v)[r]? = if q = r then (if q < env.length then some v else none) else env[r]? := by
  simp only [vput, List.getElem?_set]

/-- The virtual interpreter's own places. -/
theorem E_get (t : Nat) (ht : t ≤ d.π.length) : (d.E t).length = (d.E 0).length ∧
    (∀ (s i : Nat) vo (q : Nat), s < t → d.π[s]? = some i → d.vs[i]? = some vo → vo.dst = some q → (d.E t)[q]? = if q < (d.E 0).length then some (d.V s) else none) ∧
    (∀ q : Nat, (∀ (s i : Nat) vo, s < t → d.π[s]? = some i → d.vs[i]? = some vo → vo.dst ≠ some q) → (d.E t)[q]? = (d.E 0)[q]?) := by
  induction t with
  | zero => exact ⟨rfl, fun s i vo q hs => by omega, fun q _ => rfl⟩
  | succ t ih =>
    obtain ⟨ih1, ih2, ih3⟩ := ih (by omega)
    obtain ⟨i, hi⟩ : ∃ i, d.π[t]? = some i := ⟨_, List.getElem?_eq_getElem (by omega)⟩
    obtain ⟨o, vo, ha⟩ := d.at_of hi
    have hst := d.hst _ _ ha.hos
    have hE : d.E (t + 1) = vput (d.E t) vo.dst (d.V t) := by
      rcases hst.2.2 with ⟨_, _, h, _⟩ | ⟨_, h1, h2, _⟩
      · exact h
      · rw [h2, h1]
    refine ⟨by rw [hE, vput_length, ih1], ?_, ?_⟩
    · intro s j vj q hs hj hvj hq
      rw [hE]
      rcases Nat.lt_or_ge s t with hlt | hge
      · have hne : vo.dst ≠ some q := by
          intro he
          have hji : j ≠ i := fun e => by have := pos_unique (d := d) hj (e ▸ hi); omega
          obtain ⟨oj, vj', haj⟩ := d.at_of hj
          have : vj' = vj := by have := haj.hv; rw [hvj] at this; exact (Option.some.inj this).symm
          subst this
          exact (ha.facts.2.2.2 j vj' hvj haj.lt hji).1 (by rw [he]; simp) (by rw [he]; exact hq)
        have := ih2 s j vj q hlt hj hvj hq
        cases hvd : vo.dst with
        | none => exact this
        | some q' =>
          rw [vput_get, if_neg (fun e => hne (by rw [hvd, e]))]
          exact this
      · have hst' : s = t := by omega
        subst hst'
        rw [hi] at hj
        cases hj
        rw [ha.hv] at hvj
        cases hvj
        rw [hq, vput_get, if_pos rfl, ih1]
    · intro q hq
      have h1 := ih3 q fun s i vo hs => hq s i vo (by omega)
      have h2 := hq t i vo (by omega) hi ha.hv
      rw [hE]
      cases hvd : vo.dst with
      | none => exact h1
      | some q' =>
        rw [vput_get, if_neg (fun e => h2 (by rw [hvd, e]))]
        exact h1

variable {φ0 φ : Em} {h0 : VH} {w0 w : World} {a0 a : Act} {e0 env : List Value} {L : Nat → Bool} {s : Nat}

def put1 (L : Nat → Bool) (i : Nat) : Nat → Bool := fun j => L j || j == i

theorem put1_closed {i : Nat} {o : Oper} (hcl : Closed ops L) (ho : ops[i]? = some o) (hr : ∀ e ∈ o.after.toList, Region.binds .any e = true → L e.on = true) : Closed ops (put1 L i) := by
  intro j o' ho' hj e he hb
  unfold put1 at hj ⊢
  simp only [Bool.or_eq_true, beq_iff_eq] at hj ⊢
  rcases hj with hj | rfl
  · exact .inl (hcl j o' ho' hj e he hb)
  · rw [ho] at ho'
    cases ho'
    exact .inl (hr e he hb)

/-- A place that an operation reads holds the same in the virtual interpreter's own run. -/
theorem same_slot {t i : Nat} {o : Oper} {vo : VOper} (ha : d.At t i o vo) (hI : DD.Inv d φ0 h0 w0 a0 e0 L φ s env a w) (he0 : d.E 0 = e0) (hr : ∀ e ∈ o.after.toList, Region.binds .any e = true → L e.on = true) (hL : L i = false) {q : Nat} (hq : q ∈ slotsOf vo) :
    env[q]? = (d.E t)[q]? := by
  have htl : t < d.π.length := (List.getElem?_eq_some_iff.mp ha.p).1
  obtain ⟨k1, k2, k3⟩ := E_get (d := d) t (by omega)
  have hcl' := put1_closed hI.hcl ha.ho hr
  by_cases hw : ∃ j vj, d.vs[j]? = some vj ∧ j < ops.size ∧ vj.dst = some q
  · obtain ⟨j, vj, hvj, hjl, hqj⟩ := hw
    obtain ⟨tj, htj⟩ := List.getElem?_of_mem (d.hall j hjl)
    obtain ⟨oj, vj', haj⟩ := d.at_of htj
    have : vj' = vj := by have := haj.hv; rw [hvj] at this; exact (Option.some.inj this).symm
    subst this
    -- the only one that writes q
    have honly : ∀ (t' i' : Nat) vo', d.π[t']? = some i' → d.vs[i']? = some vo' → vo'.dst = some q → i' = j ∧ t' = tj := by
      intro t' i' vo' hp' hv' hd'
      have : i' = j := by
        apply Classical.byContradiction
        intro hne
        obtain ⟨o'', vo'', ha''⟩ := d.at_of hp'
        have e : vo'' = vo' := by have := ha''.hv; rw [hv'] at this; exact (Option.some.inj this).symm
        subst e
        exact (haj.facts.2.2.2 i' vo'' hv' ha''.lt hne).1 (by rw [hqj]; simp) (by rw [hqj]; exact hd')
      subst this
      exact ⟨rfl, pos_unique (d := d) hp' htj⟩
    by_cases hji : j = i
    · -- it writes the place itself
      subst hji
      have : tj = t := pos_unique (d := d) htj ha.p
      subst this
      have w2 := hI.hW2 q fun t' i' vo' hp' hv' hl' hd' => by
        obtain ⟨rfl, _⟩ := honly t' i' vo' hp' hv' hd'
        exact absurd (hL.symm.trans hl') (by simp)
      have w3 := k3 q fun s' i' vo' hs' hp' hv' hd' => by
        obtain ⟨_, e⟩ := honly s' i' vo' hp' hv' hd'
        omega
      rw [w2, w3, he0]
    · rcases (ha.facts.2.2.2 j vj' hvj hjl hji).2 q hqj hq with hb | hb
      · have hl : L j = true := by
          have := bef_closed hcl' hb (by simp [put1])
          simpa [put1, hji] using this
        obtain ⟨s', hs', hps'⟩ := bef_pos ha.p hb
        have hs'' : s' = tj := pos_unique (d := d) hps' htj
        have hlt : tj < t := by
          rcases Nat.lt_or_ge tj t with h | h
          · exact h
          · exfalso
            have : tj = t := by omega
            subst this
            exact hji (Option.some.inj (htj.symm.trans ha.p))
        rw [hI.hW1 tj j vj' q htj hvj hqj hl, k2 tj j vj' q hlt htj hvj hqj, he0]
      · have hl : L j = false := by
          cases hlj : L j with
          | false => rfl
          | true =>
            have := bef_closed hI.hcl hb hlj
            rw [hL] at this
            cases this
        obtain ⟨s', hs', hps'⟩ := bef_pos htj hb
        have hs'' : s' = t := pos_unique (d := d) hps' ha.p
        have w2 := hI.hW2 q fun t' i' vo' hp' hv' hl' hd' => by
          obtain ⟨rfl, _⟩ := honly t' i' vo' hp' hv' hd'
          exact absurd (hl.symm.trans hl') (by simp)
        have w3 := k3 q fun s' i' vo' hs' hp' hv' hd' => by
          obtain ⟨_, e⟩ := honly s' i' vo' hp' hv' hd'
          omega
        rw [w2, w3, he0]
  · have w2 := hI.hW2 q fun t' i' vo' hp' hv' _ hd' => by
      obtain ⟨o'', vo'', ha''⟩ := d.at_of hp'
      exact hw ⟨i', vo', hv', ha''.lt, hd'⟩
    have w3 := k3 q fun s' i' vo' _ hp' hv' hd' => by
      obtain ⟨o'', vo'', ha''⟩ := d.at_of hp'
      exact hw ⟨i', vo', hv', ha''.lt, hd'⟩
    rw [w2, w3, he0]

theorem getD_of {l l' : List Value} {q : Nat} (h : l[q]? = l'[q]?) : l.getD q undef = l'.getD q undef := by simp [List.getD, h]

theorem vev_same {e e' : List Value} {x : Operand} (h : ∀ q, x = .tmp q → e[q]? = e'[q]?) : vev e x = vev e' x := by
  cases x with
  | tmp q => exact getD_of (h q rfl)
  | _ => rfl

theorem mem_slots_op {vo : VOper} {q : Nat} (h : Operand.tmp q ∈ opds vo.op) : q ∈ slotsOf vo := by
  unfold slotsOf
  rw [List.mem_append]
  exact .inl (List.mem_filterMap.mpr ⟨_, h, rfl⟩)

theorem vwanted_same {e e' : List Value} {g : Option (Nat × Bool)} (h : ∀ q b, g = some (q, b) → e[q]? = e'[q]?) : vwanted e g = vwanted e' g := by
  cases g with
  | none => rfl
  | some p =>
    obtain ⟨q, b⟩ := p
    simp only [vwanted]
    rw [getD_of (h q b rfl)]

/-- The next operation, whichever it is. -/
theorem next {call' : VCall} (hc' : call' = call) (hS : CallSound P nro call) (hnr : nro ≤ h0.length) {t i : Nat} {o : Oper} {vo : VOper} (ha : d.At t i o vo) (hI : DD.Inv d φ0 h0 w0 a0 e0 L φ s env a w) (he0 : d.E 0 = e0) (hr : ∀ e ∈ o.after.toList, Region.binds .any e = true → L e.on = true) (hL : L i = false)
    {K : Act → World → Prop} {Q : Exit → Act → World → Prop} (hK : ∀ φ' s' env' a' w', DD.Inv d φ0 h0 w0 a0 e0 (put1 L i) φ' s' env' a' w' → K a' w') : wpOp P ops Q i K a w := by
  have htl : t < d.π.length := (List.getElem?_eq_some_iff.mp ha.p).1
  have hst := d.hst _ _ ha.hos
  obtain ⟨hdst, hcop, hcg⟩ := ha.dst
  have hslot : ∀ q ∈ slotsOf vo, env[q]? = (d.E t)[q]? := fun q hq => same_slot ha hI he0 hr hL hq
  have hwant : vwanted env vo.guard = vwanted (d.E t) vo.guard := vwanted_same fun q b hg => hslot q (by unfold slotsOf; rw [hg]; simp)
  have hops : ∀ x ∈ opds vo.op, vev env x = vev (d.E t) x := fun x hx => vev_same fun q e => hslot q (mem_slots_op (e ▸ hx))
  have hnr' : nro ≤ (d.H s).length := Nat.le_trans hnr hI.hX.len
  -- writes that are carried out lie before t
  have hle : ∀ q j, d.π[q]? = some j → effI d.vs j = true → t < q → L j = false := by
    intro q j hq hj hlt
    cases hlj : L j with
    | false => rfl
    | true =>
      obtain ⟨oj, vj, haj⟩ := d.at_of hq
      have he : vj.op.eff = true := by rw [← effI_of haj.hv]; exact hj
      have hb := haj.facts.2.2.1 he i (mem_take.mpr ⟨t, hlt, ha.p⟩)
      have := bef_closed hI.hcl hb hlj
      rw [hL] at this
      cases this
  have hcl' := put1_closed hI.hcl ha.ho hr
  have hin' : ∀ j, put1 L i j = true → j < ops.size := by
    intro j hj
    unfold put1 at hj
    simp only [Bool.or_eq_true, beq_iff_eq] at hj
    rcases hj with hj | rfl
    · exact hI.hin j hj
    · exact ha.lt
  have hputL : ∀ (v : Value), (vput env vo.dst v).length = e0.length := fun v => by rw [vput_length]; exact hI.hlen
  have hfresh : ∀ q, vo.dst = some q → ∀ (t' i' : Nat) vo', d.π[t']? = some i' → d.vs[i']? = some vo' → vo'.dst = some q → i' = i := by
    intro q hq t' i' vo' hp' hv' hd'
    apply Classical.byContradiction
    intro hne
    obtain ⟨o'', vo'', ha''⟩ := d.at_of hp'
    exact (ha.facts.2.2.2 i' vo' hv' ha''.lt hne).1 (by rw [hq]; simp) (by rw [hq]; exact hd')
  have hW1' : ∀ (v : Value), v = d.V t → ∀ (t' i' : Nat) vo' (q : Nat), d.π[t']? = some i' → d.vs[i']? = some vo' → vo'.dst = some q → put1 L i i' = true → (vput env vo.dst v)[q]? = if q < e0.length then some (d.V t') else none := by
    intro v hv t' i' vo' q hp' hv' hd' hl'
    by_cases hii : i' = i
    · subst hii
      have : t' = t := pos_unique (d := d) hp' ha.p
      subst this
      have : vo' = vo := by have := ha.hv; rw [hv'] at this; exact Option.some.inj this
      subst this
      rw [hd', vput_get, if_pos rfl, hI.hlen, hv]
    · have hl : L i' = true := by simpa [put1, hii] using hl'
      have := hI.hW1 t' i' vo' q hp' hv' hd' hl
      cases hvd : vo.dst with
      | none => exact this
      | some q' =>
        rw [vput_get, if_neg fun e => hii (hfresh q' hvd t' i' vo' hp' hv' (by rw [hd', e]))]
        exact this
  have hW2' : ∀ (v : Value), ∀ q : Nat, (∀ (t' i' : Nat) vo', d.π[t']? = some i' → d.vs[i']? = some vo' → put1 L i i' = true → vo'.dst ≠ some q) → (vput env vo.dst v)[q]? = e0[q]? := by
    intro v q hq
    have h1 := hI.hW2 q fun t' i' vo' hp' hv' hl' => hq t' i' vo' hp' hv' (by simp [put1, hl'])
    have h2 := hq t i vo ha.p ha.hv (by simp [put1])
    cases hvd : vo.dst with
    | none => exact h1
    | some q' =>
      rw [vput_get, if_neg fun e => h2 (by rw [hvd, e])]
      exact h1
  simp only [wpOp, ha.ho]
  by_cases heff : vo.op.eff = true
  · -- it writes: the heap is the one that the virtual interpreter had
    have hbefore : ∀ q j, d.π[q]? = some j → q < t → L j = true := by
      intro q j hq hlt
      have hb := ha.facts.2.2.1 heff j (mem_take.mpr ⟨q, hlt, hq⟩)
      have := bef_closed hcl' hb (by simp [put1])
      have hne : j ≠ i := fun e => by have := pos_unique (d := d) hq (e ▸ ha.p); omega
      simpa [put1, hne] using this
    have hsle : s ≤ t := by
      rcases Nat.lt_or_ge t s with h | h
      · exfalso
        have := (hI.heff t i ha.p (by rw [effI_of ha.hv]; exact heff)).mpr h
        rw [hL] at this
        cases this
      · exact h
    have hHst : d.H t = d.H s := H_eq hsle (by omega) fun q j h1 h2 hq => by
      cases hj : effI d.vs j with
      | false => rfl
      | true =>
        have := (hI.heff q j hq hj).mp (hbefore q j hq h2)
        omega
    have heff' : ∀ (t' i' : Nat), d.π[t']? = some i' → effI d.vs i' = true → (put1 L i i' = true ↔ t' < t + 1) := by
      intro t' i' hp' hi'
      rcases Nat.lt_trichotomy t' t with h | h | h
      · simp [put1, hbefore t' i' hp' h]; omega
      · subst h
        rw [ha.p] at hp'
        cases hp'
        simp [put1]
      · have hne : i' ≠ i := fun e => by have := pos_unique (d := d) hp' (e ▸ ha.p); omega
        simp [put1, hle t' i' hp' hi' h, hne]
        omega
    rcases hst.2.2 with ⟨hw, hv, hE', _⟩ | ⟨hw, hv, hE', hH'⟩
    · rw [if_pos (wanted_rel hcg hI.hE (by rw [hwant]; exact hw))]
      rw [hHst] at hv
      rw [← vop_congr hops] at hv
      refine .inl (vop_wp hS hnr' o hcop hI.hR hI.hE hv ?_)
      intro φ1 v' w1 hR1 hX1 hv1
      refine hK φ1 (t + 1) (vput env vo.dst (d.V t)) _ _ ⟨by omega, heff', hR1, hI.hX.trans hX1, ?_, by rw [Act.put_defers', hI.hd], hcl', hin', hW1' _ rfl, hW2' _, hputL _⟩
      rw [← hdst]
      exact (hI.hE.grow hX1.grow).put vo.dst hv1
    · rw [if_neg (by rw [wanted_rel hcg hI.hE (by rw [hwant]; exact hw)]; simp)]
      have hHs : d.H (t + 1) = d.H s := by rw [hH', hHst]
      refine hK φ (t + 1) (vput env vo.dst undef) _ _ ⟨by omega, heff', by rw [hHs]; exact hI.hR, by rw [hHs]; exact hI.hX, ?_, by rw [Act.put_defers', hI.hd], hcl', hin', hW1' _ hv.symm, hW2' _, hputL _⟩
      rw [← hdst, hHs]
      exact hI.hE.put vo.dst .undef
  · have heff0 : vo.op.eff = false := by simpa using heff
    have heffI : effI d.vs i = false := by rw [effI_of ha.hv]; exact heff0
    have heff' : ∀ (t' i' : Nat), d.π[t']? = some i' → effI d.vs i' = true → (put1 L i i' = true ↔ t' < s) := by
      intro t' i' hp' hi'
      have hne : i' ≠ i := fun e => by rw [e, heffI] at hi'; cases hi'
      rw [← hI.heff t' i' hp' hi']
      simp [put1, hne]
    rcases hst.2.2 with ⟨hw, hv, hE', hchk⟩ | ⟨hw, hv, hE', hH'⟩
    · rw [if_pos (wanted_rel hcg hI.hE (by rw [hwant]; exact hw))]
      have hvs : vop call nro (vev (d.E t)) (d.H s) vo.op = some (d.V t, d.H s) := by
        have hHt : vop call nro (vev (d.E t)) (d.H t) vo.op = some (d.V t, d.H t) := by
          have := (hst.2.1 heff0).1
          rw [this] at hv
          exact hv
        rcases Nat.lt_or_ge t s with hlt | hge
        · have : d.H s = d.H t := H_eq (by omega) hI.hs fun q j h1 h2 hq => by
            cases hj : effI d.vs j with
            | false => rfl
            | true =>
              have hlj := (hI.heff q j hq hj).mpr h2
              rcases Nat.lt_or_ge t q with h | h
              · rw [hle q j hq hj h] at hlj
                cases hlj
              · have : q = t := by omega
                subst this
                rw [ha.p] at hq
                cases hq
                rw [heffI] at hj
                cases hj
          rw [this]
          exact hHt
        · by_cases hcnt : d.cnt s < d.cnt t
          · have hG := G_get (d := d) t (by omega) s hge hcnt
            refine hchk heff0 _ ?_
            have hk : d.cnt t - 1 - d.cnt s < chkOf d.B d.vs (d.π.take t) i := by
              -- the writes from s on are not before i
              have hsub : d.cnt t ≤ d.cnt s + chkOf d.B d.vs (d.π.take t) i := by
                unfold cnt chkOf
                have e1 : d.π.take t = d.π.take s ++ (d.π.take t).drop s := by
                  have := List.take_append_drop s (d.π.take t)
                  rw [List.take_take, Nat.min_eq_left hge] at this
                  exact this.symm
                have e2 : ((d.π.take t).filter fun j => effI d.vs j).length = ((d.π.take s).filter fun j => effI d.vs j).length + (((d.π.take t).drop s).filter fun j => effI d.vs j).length := by
                  conv => lhs; rw [e1]
                  rw [List.filter_append, List.length_append]
                rw [e2]
                refine Nat.add_le_add_left ?_ _
                have e3 : ((d.π.take t).drop s).filter (fun j => effI d.vs j) = ((d.π.take t).drop s).filter (fun j => effI d.vs j && !(d.B.getD i 0).testBit j) := by
                  apply List.filter_congr
                  intro j hj
                  cases hej : effI d.vs j with
                  | false => rfl
                  | true =>
                    obtain ⟨q, hq⟩ := List.getElem?_of_mem hj
                    rw [List.getElem?_drop, List.getElem?_take] at hq
                    split at hq
                    · have hnl : L j = false := by
                        cases hlj : L j with
                        | false => rfl
                        | true => have := (hI.heff _ j hq hej).mp hlj; omega
                      cases hb : (d.B.getD i 0).testBit j with
                      | false => rfl
                      | true =>
                        have := bef_closed hcl' hb (by simp [put1])
                        have hne : j ≠ i := fun e => by rw [e, heffI] at hej; cases hej
                        simp [put1, hne, hnl] at this
                    · cases hq
                rw [e3]
                exact ((List.drop_sublist s _).filter _).length_le
              omega
            exact List.mem_of_getElem? (show ((d.G t).take (chkOf d.B d.vs (d.π.take t) i))[d.cnt t - 1 - d.cnt s]? = some (d.H s) by rw [List.getElem?_take, if_pos hk]; exact hG)
          · have : d.H t = d.H s := H_eq hge (by omega) fun q j h1 h2 hq => by
              cases hj : effI d.vs j with
              | false => rfl
              | true =>
                exfalso
                have h3 : d.cnt s ≤ d.cnt q := by
                  unfold cnt
                  have : d.π.take s = (d.π.take q).take s := by rw [List.take_take, Nat.min_eq_left h1]
                  rw [this]
                  exact ((List.take_sublist s _).filter _).length_le
                have h4 : d.cnt (q + 1) ≤ d.cnt t := by
                  unfold cnt
                  have : d.π.take (q + 1) = (d.π.take t).take (q + 1) := by rw [List.take_take, Nat.min_eq_left h2]
                  rw [this]
                  exact ((List.take_sublist (q + 1) _).filter _).length_le
                have h5 := cnt_succ (d := d) hq
                rw [hj] at h5
                simp only [if_true] at h5
                omega
            rw [← this]
            exact hHt
      rw [← vop_congr hops] at hvs
      refine .inl (vop_wp hS hnr' o hcop hI.hR hI.hE hvs ?_)
      intro φ1 v' w1 hR1 hX1 hv1
      refine hK φ1 s (vput env vo.dst (d.V t)) _ _ ⟨hI.hs, heff', hR1, hI.hX.trans hX1, ?_, by rw [Act.put_defers', hI.hd], hcl', hin', hW1' _ rfl, hW2' _, hputL _⟩
      rw [← hdst]
      exact (hI.hE.grow hX1.grow).put vo.dst hv1
    · rw [if_neg (by rw [wanted_rel hcg hI.hE (by rw [hwant]; exact hw)]; simp)]
      refine hK φ s (vput env vo.dst undef) _ _ ⟨hI.hs, heff', hI.hR, hI.hX, ?_, by rw [Act.put_defers', hI.hd], hcl', hin', hW1' _ hv.symm, hW2' _, hputL _⟩
      rw [← hdst]
      exact hI.hE.put vo.dst .undef
end DD
end Go.Proofs.Ytcpmodengmffjaa.Zv
