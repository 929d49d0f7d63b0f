/- Regions whose order is open: the invariant along any order. -/
import Derived.Test.YthpgiimaadohcaaDoorZvDraw2
namespace Go.Proofs.YthpgiimaadohcaaDoor.Zv
open Go

/-- All that is known of a region and of what the virtual interpreter made of it. -/
structure DD (P : Program) (nro : Nat) (call : VCall) (ops : Array Oper) where
  fs : List Nat
  B : Array Nat
  vs : Array VOper
  π : List Nat
  os : List VOper
  E : Nat → List Value
  H : Nat → VH
  G : Nat → List VH
  V : Nat → Value
  hB : B = befA ops.toList #[]
  hvs : ∀ (i : Nat) o, ops[i]? = some o → ∃ vo, vs[i]? = some vo ∧ compOper P ops o = some vo
  hall : ∀ i, i < ops.size → i ∈ π
  hat : ∀ (t i : Nat), π[t]? = some i → okOrderAt fs ops B vs (π.take t) i = true
  hos : ∀ (t i : Nat) vo, π[t]? = some i → vs[i]? = some vo → os[t]? = some { vo with chk := chkOf fs B vs (π.take t) i }
  hG0 : G 0 = []
  hst : ∀ (t : Nat) o, os[t]? = some o → StepR call nro o (E t) (H t) (G t) (V t) (E (t + 1)) (H (t + 1)) (G (t + 1))

namespace DD
variable {P : Program} {nro : Nat} {call : VCall} {ops : Array Oper} (d : DD P nro call ops)

/-- Place t of the order holds operation i, which is o in the model, vo here. -/
structure At (t i : Nat) (o : Oper) (vo : VOper) : Prop where
  p : d.π[t]? = some i
  ho : ops[i]? = some o
  hv : d.vs[i]? = some vo
  hc : compOper P ops o = some vo
  hos : d.os[t]? = some { vo with chk := chkOf d.fs d.B d.vs (d.π.take t) i }

theorem at_of {t i : Nat} (h : d.π[t]? = some i) : ∃ o vo, d.At t i o vo := by
  have h1 := d.hat t i h
  unfold okOrderAt at h1
  simp only [Bool.and_eq_true] at h1
  have hi : i < ops.size := by simpa using h1.1.1.1.1.1
  have ho : ops[i]? = some ops[i] := by simp [hi]
  obtain ⟨vo, hv, hc⟩ := d.hvs i _ ho
  exact ⟨_, vo, h, ho, hv, hc, d.hos t i vo h hv⟩

variable {d}
theorem At.lt {t i : Nat} {o : Oper} {vo : VOper} (h : d.At t i o vo) : i < ops.size := (Array.getElem?_eq_some_iff.mp h.ho).1
theorem At.dst {t i : Nat} {o : Oper} {vo : VOper} (h : d.At t i o vo) : vo.dst = o.dst ∧ compOp P o = some vo.op ∧ compGuard ops o.guard = some vo.guard := by
  have := h.hc
  unfold compOper at this
  split at this
  · cases this; exact ⟨rfl, by assumption, by assumption⟩
  · cases this

theorem At.facts {t i : Nat} {o : Oper} {vo : VOper} (h : d.At t i o vo) : i ∉ d.π.take t ∧ (∀ e ∈ o.after.toList, Region.binds .any e = true → e.on ∈ d.π.take t ∧ e.on < i) ∧
    (vo.op.eff = true → i ∉ d.fs → ∀ j ∈ d.π.take t, (d.B.getD i 0).testBit j = true) ∧
    (∀ j vo', d.vs[j]? = some vo' → j < ops.size → j ≠ i → (vo.dst ≠ none → vo'.dst ≠ vo.dst) ∧ ∀ s, vo'.dst = some s → s ∈ slotsOf vo → (d.B.getD i 0).testBit j = true ∨ (d.B.getD j 0).testBit i = true) ∧
    (i ∈ d.fs → fltOK d.vs i = true) := by
  have h1 := d.hat t i h.p
  unfold okOrderAt at h1
  simp only [Bool.and_eq_true] at h1
  obtain ⟨⟨⟨⟨⟨_, h2⟩, h3⟩, h4⟩, h6⟩, h5⟩ := h1
  refine ⟨by simpa using h2, ?_, ?_, ?_, ?_⟩
  · rw [h.ho] at h3
    intro e he hb
    have := List.all_eq_true.mp h3 e he
    simp only [hb, Bool.not_true, Bool.false_or, Bool.and_eq_true, decide_eq_true_eq] at this
    exact ⟨by simpa using this.1, this.2⟩
  · intro he hf j hj
    have hf' : d.fs.contains i = false := by simpa using hf
    simp only [effI, h.hv, he, hf', Bool.not_true, Bool.false_or] at h4
    exact List.all_eq_true.mp h4 j hj
  · intro j vo' hj hjl hne
    rw [h.hv] at h5
    have := List.all_eq_true.mp h5 j (by simpa using hjl)
    rw [hj] at this
    have hne' : (j == i) = false := by simpa using hne
    simp only [hne', Bool.false_or, Bool.and_eq_true] at this
    refine ⟨fun hn => ?_, fun s hs hsl => ?_⟩
    · cases hd : vo.dst with
      | none => exact absurd hd hn
      | some q => simpa [hd] using this.1
    · have h6 := this.2
      rw [hs] at h6
      simp only [Bool.or_eq_true] at h6
      rcases h6 with (h6 | h6) | h6
      · simp at h6; exact absurd hsl h6
      · exact .inl h6
      · exact .inr h6
  · intro hf
    have hf' : d.fs.contains i = true := by simpa using hf
    rw [hf'] at h6
    simpa using h6

/-- A new variable whose place is not told. -/
theorem At.flt {t i : Nat} {o : Oper} {vo : VOper} (h : d.At t i o vo) (hf : i ∈ d.fs) : ∃ z q, vo.op = .alloc z ∧ vo.guard = none ∧ vo.dst = some q ∧ ∀ (j : Nat) vj, d.vs[j]? = some vj → q ∈ slotsOf vj → vj.op.eff = true := by
  have := h.facts.2.2.2.2 hf
  unfold fltOK at this
  rw [h.hv] at this
  split at this
  · rename_i q z g e
    cases e
    refine ⟨z, q, rfl, rfl, rfl, fun j vj hj hq => ?_⟩
    have hjl : j < d.vs.size := (Array.getElem?_eq_some_iff.mp hj).1
    have h2 := List.all_eq_true.mp this j (by simpa using hjl)
    rw [hj] at h2
    simp only [Bool.or_eq_true, Bool.not_eq_true', List.contains_eq_mem] at h2
    rcases h2 with h2 | h2
    · simp at h2; exact absurd hq h2
    · exact h2
  · cases this

theorem pos_unique {t t' i : Nat} (h : d.π[t]? = some i) (h' : d.π[t']? = some i) : t = t' := by
  obtain ⟨o, vo, ha⟩ := d.at_of h
  obtain ⟨o', vo', ha'⟩ := d.at_of h'
  have f1 := ha.facts.1
  have f2 := ha'.facts.1
  rcases Nat.lt_trichotomy t t' with hlt | e | hlt
  · exact absurd (List.mem_of_getElem? (show (d.π.take t')[t]? = some i by rw [List.getElem?_take, if_pos hlt]; exact h)) f2
  · exact e
  · exact absurd (List.mem_of_getElem? (show (d.π.take t)[t']? = some i by rw [List.getElem?_take, if_pos hlt]; exact h')) f1

theorem mem_take {t i : Nat} : i ∈ d.π.take t ↔ ∃ s, s < t ∧ d.π[s]? = some i := by
  constructor
  · intro h
    obtain ⟨s, hs⟩ := List.getElem?_of_mem h
    rw [List.getElem?_take] at hs
    split at hs
    · exact ⟨s, by assumption, hs⟩
    · cases hs
  · rintro ⟨s, hs, h⟩
    exact List.mem_of_getElem? (show (d.π.take t)[s]? = some i by rw [List.getElem?_take, if_pos hs]; exact h)

/-- What lies before place t is closed. -/
theorem prefix_closed (t : Nat) : Closed ops (fun i => decide (i ∈ d.π.take t)) := by
  intro i o ho hi e he hb
  simp only [decide_eq_true_eq] at hi ⊢
  obtain ⟨s, hs, hp⟩ := mem_take.mp hi
  obtain ⟨o', vo, ha⟩ := d.at_of hp
  have : o' = o := by have := ha.ho; rw [ho] at this; exact (Option.some.inj this).symm
  subst this
  obtain ⟨s', hs', hp'⟩ := mem_take.mp (ha.facts.2.1 e he hb).1
  exact mem_take.mpr ⟨s', by omega, hp'⟩

theorem bef_closed {listed : Nat → Bool} (hc : Closed ops listed) {i j : Nat} (h : (d.B.getD i 0).testBit j = true) (hi : listed i = true) : listed j = true := by
  rw [d.hB] at h
  exact befA_spec hc ops.toList #[] rfl (fun i j hi => by simp at hi) i j h hi

/-- What is before i lies before it. -/
theorem bef_pos {t i j : Nat} (hp : d.π[t]? = some i) (h : (d.B.getD i 0).testBit j = true) : ∃ s, s ≤ t ∧ d.π[s]? = some j := by
  have hm : decide (i ∈ d.π.take (t + 1)) = true := by simpa using mem_take.mpr ⟨t, by omega, hp⟩
  have := bef_closed (prefix_closed (t + 1)) h hm
  simp only [decide_eq_true_eq] at this
  obtain ⟨s, hs, hps⟩ := mem_take.mp this
  exact ⟨s, by omega, hps⟩

/-- How many of the first t operations write. -/
def cnt (d : DD P nro call ops) (t : Nat) : Nat := ((d.π.take t).filter fun j => effI d.vs j).length

theorem cnt_succ {t i : Nat} (h : d.π[t]? = some i) : d.cnt (t + 1) = d.cnt t + if effI d.vs i then 1 else 0 := by
  unfold cnt
  rw [List.take_succ_eq_append_getElem (List.getElem?_eq_some_iff.mp h).1, List.filter_append, List.length_append]
  have : d.π[t]'((List.getElem?_eq_some_iff.mp h).1) = i := (List.getElem?_eq_some_iff.mp h).2
  rw [this]
  congr 1
  cases hb : effI d.vs i <;> simp [hb, List.filter]

theorem effI_of {i : Nat} {vo : VOper} (h : d.vs[i]? = some vo) : effI d.vs i = vo.op.eff := by unfold effI; rw [h]

/-- No write between: the same heap. -/
theorem H_same : ∀ {n s : Nat}, s + n ≤ d.π.length → (∀ q i, s ≤ q → q < s + n → d.π[q]? = some i → effI d.vs i = false) → d.H (s + n) = d.H s
  | 0, _, _, _ => rfl
  | n + 1, s, hl, hn => by
    have ih := H_same (n := n) (s := s) (by omega) fun q i h1 h2 => hn q i h1 (by omega)
    obtain ⟨i, hi⟩ : ∃ i, d.π[s + n]? = some i := ⟨_, List.getElem?_eq_getElem (by omega)⟩
    obtain ⟨o, vo, ha⟩ := d.at_of hi
    have he : vo.op.eff = false := by rw [← effI_of ha.hv]; exact hn _ _ (by omega) (by omega) hi
    have := (d.hst _ _ ha.hos).2.1 he
    rw [← Nat.add_assoc, this.1, ih]

theorem H_eq {s t : Nat} (hst : s ≤ t) (hl : t ≤ d.π.length) (hn : ∀ q i, s ≤ q → q < t → d.π[q]? = some i → effI d.vs i = false) : d.H t = d.H s := by
  have := H_same (d := d) (n := t - s) (s := s) (by omega) fun q i h1 h2 => hn q i h1 (by omega)
  rw [show s + (t - s) = t by omega] at this
  exact this

/-- The elder heaps. -/
theorem G_get : ∀ (t : Nat), t ≤ d.π.length → ∀ s, s ≤ t → d.cnt s < d.cnt t → (d.G t)[d.cnt t - 1 - d.cnt s]? = some (d.H s)
  | 0, _, s, hs, hc => by have : s = 0 := by omega
                          subst this; omega
  | t + 1, hl, s, hs, hc => by
    obtain ⟨i, hi⟩ : ∃ i, d.π[t]? = some i := ⟨_, List.getElem?_eq_getElem (by omega)⟩
    obtain ⟨o, vo, ha⟩ := d.at_of hi
    have hcs := cnt_succ hi
    have hst := d.hst _ _ ha.hos
    rw [effI_of ha.hv] at hcs
    have hle : s ≤ t := by
      rcases Nat.lt_or_ge t s with h | h
      · have : s = t + 1 := by omega
        subst this; omega
      · exact h
    by_cases he : vo.op.eff = true
    · rw [he] at hcs
      simp only [if_true] at hcs
      rw [hst.1 he]
      by_cases hlt : d.cnt s < d.cnt t
      · rw [show d.cnt (t + 1) - 1 - d.cnt s = (d.cnt t - 1 - d.cnt s) + 1 by omega, List.getElem?_cons_succ]
        exact G_get t (by omega) s hle hlt
      · rw [show d.cnt (t + 1) - 1 - d.cnt s = 0 by omega, List.getElem?_cons_zero]
        congr 1
        refine H_eq hle (by omega) fun q j h1 h2 hq => ?_
        -- a write at q would count
        cases hj : effI d.vs j with
        | false => rfl
        | true =>
          exfalso
          have h3 : d.cnt s ≤ d.cnt q := by
            unfold cnt
            have : d.π.take s = (d.π.take q).take s := by rw [List.take_take, Nat.min_eq_left h1]
            rw [this]
            exact ((List.take_sublist s _).filter _).length_le
          have h4 : d.cnt (q + 1) ≤ d.cnt t := by
            unfold cnt
            have : d.π.take (q + 1) = (d.π.take t).take (q + 1) := by rw [List.take_take, Nat.min_eq_left h2]
            rw [this]
            exact ((List.take_sublist (q + 1) _).filter _).length_le
          have h5 := cnt_succ hq
          rw [hj] at h5
          simp only [if_true] at h5
          omega
    · have he : vo.op.eff = false := by simpa using he
      rw [he] at hcs
      simp only [Bool.false_eq_true, if_false, Nat.add_zero] at hcs
      rw [(hst.2.1 he).2, hcs]
      exact G_get t (by omega) s hle (by omega)

/-- Which operations have been carried out, and what is so then. ('β': where the new variables lie that come later in the order told.) -/
structure Inv (d : DD P nro call ops) (φ0 : Em) (h0 : VH) (w0 : World) (a0 : Act) (e0 : List Value) (L : Nat → Bool) (β : Nat → Nat) (φ : Em) (s : Nat) (env : List Value) (a : Act) (w : World) : Prop where
  hs : s ≤ d.π.length
  hpre : ∀ (t i : Nat), d.π[t]? = some i → t < s → L i = true
  heff : ∀ (t i : Nat), d.π[t]? = some i → effI d.vs i = true → i ∉ d.fs → L i = true → t < s
  hR : RH nro φ (VH.ph (d.H s)) w
  hX : X nro φ0 (VH.ph h0) w0 φ (VH.ph (d.H s)) w
  hE : RE φ (VH.ph (d.H s)) env a
  hd : a.defers = a0.defers
  hcl : Closed ops L
  hin : ∀ i, L i = true → i < ops.size
  hW1 : ∀ (t i : Nat) vo (q : Nat), d.π[t]? = some i → d.vs[i]? = some vo → vo.dst = some q → L i = true → (i ∈ d.fs → t < s) → env[q]? = if q < e0.length then some (d.V t) else none
  hW2 : ∀ q : Nat, (∀ (t i : Nat) vo, d.π[t]? = some i → d.vs[i]? = some vo → L i = true → vo.dst ≠ some q) → env[q]? = e0[q]?
  hlen : env.length = e0.length
  hg0 : ∀ b C, globTab b = some C → b < w0.heap.size
  hP : ∀ (t i : Nat) vo (z : List Value) (q : Nat), d.π[t]? = some i → d.vs[i]? = some vo → i ∈ d.fs → vo.op = .alloc z → vo.dst = some q → L i = true → s ≤ t →
    (q < e0.length → a.tmps[q]? = some (.pointer (some ⟨β i, 0, none⟩))) ∧ (∃ C ty, w.heap[β i]? = some (.cells C ty (0, 0)) ∧ C.toList = z) ∧ w0.heap.size ≤ β i ∧ ∀ j, (VH.ph (d.H s) j).isSome → (φ j).b ≠ β i
  hPd : ∀ (t i t' i' : Nat), d.π[t]? = some i → d.π[t']? = some i' → i ∈ d.fs → i' ∈ d.fs → L i = true → L i' = true → s ≤ t → s ≤ t' → i ≠ i' → β i ≠ β i'

theorem vput_length (env : List Value) (q : Option Nat) (v : Value) : (vput env q v).length = env.length := by cases q <;> simp [vput]
theorem vput_get (env : List Value) (q r : Nat) (v : Value) : (vput env (some q) v)[r]? = if q = r then (if q < env.length then some v else none) else env[r]? := by
  simp only [vput, List.getElem?_set]

/-- The virtual interpreter's own places. -/
theorem E_get (t : Nat) (ht : t ≤ d.π.length) : (d.E t).length = (d.E 0).length ∧
    (∀ (s i : Nat) vo (q : Nat), s < t → d.π[s]? = some i → d.vs[i]? = some vo → vo.dst = some q → (d.E t)[q]? = if q < (d.E 0).length then some (d.V s) else none) ∧
    (∀ q : Nat, (∀ (s i : Nat) vo, s < t → d.π[s]? = some i → d.vs[i]? = some vo → vo.dst ≠ some q) → (d.E t)[q]? = (d.E 0)[q]?) := by
  induction t with
  | zero => exact ⟨rfl, fun s i vo q hs => by omega, fun q _ => rfl⟩
  | succ t ih =>
    obtain ⟨ih1, ih2, ih3⟩ := ih (by omega)
    obtain ⟨i, hi⟩ : ∃ i, d.π[t]? = some i := ⟨_, List.getElem?_eq_getElem (by omega)⟩
    obtain ⟨o, vo, ha⟩ := d.at_of hi
    have hst := d.hst _ _ ha.hos
    have hE : d.E (t + 1) = vput (d.E t) vo.dst (d.V t) := by
      rcases hst.2.2 with ⟨_, _, h, _⟩ | ⟨_, h1, h2, _⟩
      · exact h
      · rw [h2, h1]
    refine ⟨by rw [hE, vput_length, ih1], ?_, ?_⟩
    · intro s j vj q hs hj hvj hq
      rw [hE]
      rcases Nat.lt_or_ge s t with hlt | hge
      · have hne : vo.dst ≠ some q := by
          intro he
          have hji : j ≠ i := fun e => by have := pos_unique (d := d) hj (e ▸ hi); omega
          obtain ⟨oj, vj', haj⟩ := d.at_of hj
          have : vj' = vj := by have := haj.hv; rw [hvj] at this; exact (Option.some.inj this).symm
          subst this
          exact (ha.facts.2.2.2.1 j vj' hvj haj.lt hji).1 (by rw [he]; simp) (by rw [he]; exact hq)
        have := ih2 s j vj q hlt hj hvj hq
        cases hvd : vo.dst with
        | none => exact this
        | some q' =>
          rw [vput_get, if_neg (fun e => hne (by rw [hvd, e]))]
          exact this
      · have hst' : s = t := by omega
        subst hst'
        rw [hi] at hj
        cases hj
        rw [ha.hv] at hvj
        cases hvj
        rw [hq, vput_get, if_pos rfl, ih1]
    · intro q hq
      have h1 := ih3 q fun s i vo hs => hq s i vo (by omega)
      have h2 := hq t i vo (by omega) hi ha.hv
      rw [hE]
      cases hvd : vo.dst with
      | none => exact h1
      | some q' =>
        rw [vput_get, if_neg (fun e => h2 (by rw [hvd, e]))]
        exact h1

variable {φ0 φ : Em} {h0 : VH} {w0 w : World} {a0 a : Act} {e0 env : List Value} {L : Nat → Bool} {s : Nat}

def put1 (L : Nat → Bool) (i : Nat) : Nat → Bool := fun j => L j || j == i

theorem put1_closed {i : Nat} {o : Oper} (hcl : Closed ops L) (ho : ops[i]? = some o) (hr : ∀ e ∈ o.after.toList, Region.binds .any e = true → L e.on = true) : Closed ops (put1 L i) := by
  intro j o' ho' hj e he hb
  unfold put1 at hj ⊢
  simp only [Bool.or_eq_true, beq_iff_eq] at hj ⊢
  rcases hj with hj | rfl
  · exact .inl (hcl j o' ho' hj e he hb)
  · rw [ho] at ho'
    cases ho'
    exact .inl (hr e he hb)

/-- A place that an operation reads holds the same in the virtual interpreter's own run. -/
theorem same_slot {β : Nat → Nat} {t i : Nat} {o : Oper} {vo : VOper} (ha : d.At t i o vo) (hI : DD.Inv d φ0 h0 w0 a0 e0 L β φ s env a w) (he0 : d.E 0 = e0) (hr : ∀ e ∈ o.after.toList, Region.binds .any e = true → L e.on = true) (hL : L i = false) {q : Nat} (hq : q ∈ slotsOf vo)
    (hfq : ∀ (tj j : Nat) vj, d.π[tj]? = some j → d.vs[j]? = some vj → vj.dst = some q → j ∈ d.fs → tj < t → tj < s) :
    env[q]? = (d.E t)[q]? := by
  have htl : t < d.π.length := (List.getElem?_eq_some_iff.mp ha.p).1
  obtain ⟨k1, k2, k3⟩ := E_get (d := d) t (by omega)
  have hcl' := put1_closed hI.hcl ha.ho hr
  by_cases hw : ∃ j vj, d.vs[j]? = some vj ∧ j < ops.size ∧ vj.dst = some q
  · obtain ⟨j, vj, hvj, hjl, hqj⟩ := hw
    obtain ⟨tj, htj⟩ := List.getElem?_of_mem (d.hall j hjl)
    obtain ⟨oj, vj', haj⟩ := d.at_of htj
    have : vj' = vj := by have := haj.hv; rw [hvj] at this; exact (Option.some.inj this).symm
    subst this
    -- the only one that writes q
    have honly : ∀ (t' i' : Nat) vo', d.π[t']? = some i' → d.vs[i']? = some vo' → vo'.dst = some q → i' = j ∧ t' = tj := by
      intro t' i' vo' hp' hv' hd'
      have : i' = j := by
        apply Classical.byContradiction
        intro hne
        obtain ⟨o'', vo'', ha''⟩ := d.at_of hp'
        have e : vo'' = vo' := by have := ha''.hv; rw [hv'] at this; exact (Option.some.inj this).symm
        subst e
        exact (haj.facts.2.2.2.1 i' vo'' hv' ha''.lt hne).1 (by rw [hqj]; simp) (by rw [hqj]; exact hd')
      subst this
      exact ⟨rfl, pos_unique (d := d) hp' htj⟩
    by_cases hji : j = i
    · -- it writes the place itself
      subst hji
      have : tj = t := pos_unique (d := d) htj ha.p
      subst this
      have w2 := hI.hW2 q fun t' i' vo' hp' hv' hl' hd' => by
        obtain ⟨rfl, _⟩ := honly t' i' vo' hp' hv' hd'
        exact absurd (hL.symm.trans hl') (by simp)
      have w3 := k3 q fun s' i' vo' hs' hp' hv' hd' => by
        obtain ⟨_, e⟩ := honly s' i' vo' hp' hv' hd'
        omega
      rw [w2, w3, he0]
    · rcases (ha.facts.2.2.2.1 j vj' hvj hjl hji).2 q hqj hq with hb | hb
      · have hl : L j = true := by
          have := bef_closed hcl' hb (by simp [put1])
          simpa [put1, hji] using this
        obtain ⟨s', hs', hps'⟩ := bef_pos ha.p hb
        have hs'' : s' = tj := pos_unique (d := d) hps' htj
        have hlt : tj < t := by
          rcases Nat.lt_or_ge tj t with h | h
          · exact h
          · exfalso
            have : tj = t := by omega
            subst this
            exact hji (Option.some.inj (htj.symm.trans ha.p))
        rw [hI.hW1 tj j vj' q htj hvj hqj hl (fun hf => hfq tj j vj' htj hvj hqj hf hlt), k2 tj j vj' q hlt htj hvj hqj, he0]
      · have hl : L j = false := by
          cases hlj : L j with
          | false => rfl
          | true =>
            have := bef_closed hI.hcl hb hlj
            rw [hL] at this
            cases this
        obtain ⟨s', hs', hps'⟩ := bef_pos htj hb
        have hs'' : s' = t := pos_unique (d := d) hps' ha.p
        have w2 := hI.hW2 q fun t' i' vo' hp' hv' hl' hd' => by
          obtain ⟨rfl, _⟩ := honly t' i' vo' hp' hv' hd'
          exact absurd (hl.symm.trans hl') (by simp)
        have w3 := k3 q fun s' i' vo' hs' hp' hv' hd' => by
          obtain ⟨_, e⟩ := honly s' i' vo' hp' hv' hd'
          omega
        rw [w2, w3, he0]
  · have w2 := hI.hW2 q fun t' i' vo' hp' hv' _ hd' => by
      obtain ⟨o'', vo'', ha''⟩ := d.at_of hp'
      exact hw ⟨i', vo', hv', ha''.lt, hd'⟩
    have w3 := k3 q fun s' i' vo' _ hp' hv' hd' => by
      obtain ⟨o'', vo'', ha''⟩ := d.at_of hp'
      exact hw ⟨i', vo', hv', ha''.lt, hd'⟩
    rw [w2, w3, he0]

theorem getD_of {l l' : List Value} {q : Nat} (h : l[q]? = l'[q]?) : l.getD q undef = l'.getD q undef := by simp [List.getD, h]

theorem vev_same {e e' : List Value} {x : Operand} (h : ∀ q, x = .tmp q → e[q]? = e'[q]?) : vev e x = vev e' x := by
  cases x with
  | tmp q => exact getD_of (h q rfl)
  | _ => rfl

theorem mem_slots_op {vo : VOper} {q : Nat} (h : Operand.tmp q ∈ opds vo.op) : q ∈ slotsOf vo := by
  unfold slotsOf
  rw [List.mem_append]
  exact .inl (List.mem_filterMap.mpr ⟨_, h, rfl⟩)

theorem vwanted_same {e e' : List Value} {g : Option (Nat × Bool)} (h : ∀ q b, g = some (q, b) → e[q]? = e'[q]?) : vwanted e g = vwanted e' g := by
  cases g with
  | none => rfl
  | some p =>
    obtain ⟨q, b⟩ := p
    simp only [vwanted]
    rw [getD_of (h q b rfl)]

theorem compCall_alloc {P : Program} {c : Call} {z : List Value} (h : compCall P c = some (.alloc z)) : False := by
  unfold compCall at h
  generalize c.callee = cc at h
  cases cc with
  | value x =>
    cases x <;> dsimp only at h <;> repeat' split at h
    all_goals cases h
  | builtin b =>
    cases b <;> dsimp only at h <;> repeat' split at h
    all_goals cases h
  | invoke r n => cases h
theorem compOp_alloc {P : Program} {o : Oper} {z : List Value} (h : compOp P o = some (.alloc z)) : ∃ t, o.op = .alloc t ∧ zerosOf P t = some z := by
  unfold compOp at h
  repeat' split at h
  all_goals first
    | (cases h; done)
    | exact (compCall_alloc h).elim
    | (obtain ⟨_, _, h⟩ := Option.map_eq_some_iff.mp h; cases h; done)
    | (cases h; exact ⟨_, by assumption, by assumption⟩)

theorem vwanted_none (e : List Value) : vwanted e none = some true := rfl

theorem All2.setl {α β : Type} {R : α → β → Prop} {x : α} {y : β} (hxy : R x y) : ∀ {as : List α} {bs : List β} (i : Nat), All2 R as bs → bs[i]? = some y → All2 R (as.set i x) bs
  | _, _, _, .nil, _ => .nil
  | _, _, 0, .cons _ t, hb => by simp at hb; subst hb; exact .cons hxy t
  | _, _, i + 1, .cons h t, hb => .cons h (All2.setl hxy i t (by simpa using hb))

/-- A block that lies there already becomes an object. -/
theorem adopt {φ : Em} {h : VH} {w : World} {nro : Nat} (hR : RH nro φ h.ph w) (hnr : nro ≤ h.length) (o : VO) {b : Nat} {C : Array Value} {ty : TypeId} (hb : w.heap[b]? = some (.cells C ty (0, 0))) (hne : ∀ j, (h.ph j).isSome → (φ j).b ≠ b) (hgb : ∀ C, globTab b ≠ some C)
    (hC : ∀ (j : Nat) v, o.cells[j]? = some v → ∃ v', C[j]? = some v' ∧ CellR φ h.ph v v') :
    RH nro (setE φ h.length ⟨b, 0, C.size⟩) (VH.ph (h ++ [o])) w ∧ Grow φ h.ph (setE φ h.length ⟨b, 0, C.size⟩) (VH.ph (h ++ [o])) ∧
    ∀ {φ0 : Em} {h0 : VH} {w0 : World}, X nro φ0 h0.ph w0 φ h.ph w → w0.heap.size ≤ b → X nro φ0 h0.ph w0 (setE φ h.length ⟨b, 0, C.size⟩) (VH.ph (h ++ [o])) w := by
  have hse : ∀ i, i < h.length → setE φ h.length ⟨b, 0, C.size⟩ i = φ i := fun i hi => by unfold setE; rw [if_neg (by omega)]
  have hsn : setE φ h.length ⟨b, 0, C.size⟩ h.length = ⟨b, 0, C.size⟩ := by unfold setE; rw [if_pos rfl]
  have hg : Grow φ h.ph (setE φ h.length ⟨b, 0, C.size⟩) (VH.ph (h ++ [o])) := fun i o' ho' =>
    ⟨o', VH.ph_push_old ho', rfl, Nat.le_refl _, fun _ => hse i (VH.ph_lt ho')⟩
  refine ⟨⟨?_, ?_, fun b' C' hb' => ⟨(hR.glob b' C' hb').1, fun i hi hn => ?_⟩⟩, hg, ?_⟩
  · intro i o' hi
    rcases VH.ph_push hi with ⟨hl, hi⟩ | ⟨rfl, rfl⟩
    · obtain ⟨C', ty', fz, hb, hc, hn⟩ := hR.cells i o' hi
      rw [hse i hl]
      refine ⟨C', ty', fz, hb, fun j v hv => ?_, hn⟩
      obtain ⟨v', h1, h2⟩ := hc j v hv
      exact ⟨v', h1, h2.grow hg⟩
    · rw [hsn]
      refine ⟨C, ty, (0, 0), hb, fun j v hv => ?_, fun _ => ⟨rfl, rfl, rfl⟩⟩
      obtain ⟨v', h1, h2⟩ := hC j v hv
      exact ⟨v', by simpa using h1, h2.grow hg⟩
  · intro i j hi hj hni hij
    obtain ⟨oi, hi⟩ := Option.isSome_iff_exists.mp hi
    obtain ⟨oj, hj⟩ := Option.isSome_iff_exists.mp hj
    rcases VH.ph_push hi with ⟨hl, hi1⟩ | ⟨rfl, _⟩ <;> rcases VH.ph_push hj with ⟨hl', hj1⟩ | ⟨rfl, _⟩
    · rw [hse i hl, hse j hl']
      exact hR.apart i j (by simp [hi1]) (by simp [hj1]) hni hij
    · rw [hse i hl, hsn]
      exact hne i (by simp [hi1])
    · rw [hsn, hse j hl']
      exact fun e => hne j (by simp [hj1]) e.symm
    · exact absurd rfl hij
  · obtain ⟨oi, hi⟩ := Option.isSome_iff_exists.mp hi
    rcases VH.ph_push hi with ⟨hl, hi1⟩ | ⟨rfl, _⟩
    · rw [hse i hl]
      exact (hR.glob b' C' hb').2 i (by simp [hi1]) hn
    · rw [hsn]
      intro e
      exact hgb C' (by rw [show b = b' from e]; exact hb')
  · intro φ0 h0 w0 hX hb0
    refine ⟨?_, ?_, hX.size, hX.frame, hX.rest, ?_⟩
    · intro i oi hi
      obtain ⟨o', h1, h2, h3, h4⟩ := hX.grow i oi hi
      exact ⟨o', VH.ph_push_old h1, h2, h3, fun e => by rw [hse i (VH.ph_lt h1)]; exact h4 e⟩
    · intro i hi hni
      obtain ⟨oi, hi⟩ := Option.isSome_iff_exists.mp hi
      rcases VH.ph_push hi with ⟨hl, hi1⟩ | ⟨rfl, _⟩
      · rw [hse i hl]
        exact hX.fresh i (by simp [hi1]) hni
      · rw [hsn]
        exact .inr hb0
    · intro i hi hn
      rw [hse i (by omega)]
      exact hX.ro i hi hn

/-- The virtual interpreter goes on over what has been carried out. -/
theorem flush {β : Nat → Nat} (hnr : nro ≤ h0.length) {i : Nat} (hp : d.π[s]? = some i) (hL : L i = true) (hI : DD.Inv d φ0 h0 w0 a0 e0 L β φ s env a w) : ∃ φ' env', DD.Inv d φ0 h0 w0 a0 e0 L β φ' (s + 1) env' a w := by
  obtain ⟨o, vo, ha⟩ := d.at_of hp
  have hsl : s < d.π.length := (List.getElem?_eq_some_iff.mp hp).1
  have hst := d.hst _ _ ha.hos
  have hpre' : ∀ (t i : Nat), d.π[t]? = some i → t < s + 1 → L i = true := by
    intro t j hj ht
    by_cases e : t = s
    · subst e
      rw [hp] at hj
      cases hj
      exact hL
    · exact hI.hpre t j hj (by omega)
  by_cases hf : i ∈ d.fs
  · -- the new variable
    obtain ⟨z, q, hop, hgd, hdq, _⟩ := ha.flt hf
    obtain ⟨hq1, ⟨C, ty, hb, hCz⟩, hb0, hne⟩ := hI.hP s i vo z q hp ha.hv hf hop hdq hL (Nat.le_refl _)
    have hv : d.V s = .pointer (some ⟨(d.H s).length, 0, some z.length⟩) ∧ d.H (s + 1) = d.H s ++ [⟨0, z⟩] := by
      rcases hst.2.2 with ⟨_, hv, _⟩ | ⟨hw, _⟩
      · rw [hop] at hv
        simp only [vop, Option.some.injEq, Prod.mk.injEq] at hv
        exact ⟨hv.1.symm, hv.2.symm⟩
      · rw [hgd] at hw
        cases hw
    obtain ⟨hV, hH⟩ := hv
    -- the cells are closed
    have hclz : ∀ (j : Nat) v, z[j]? = some v → ∃ v', C[j]? = some v' ∧ CellR φ (VH.ph (d.H s)) v v' := by
      have hcop := ha.dst.2.1
      rw [hop] at hcop
      obtain ⟨t, _, hz⟩ := compOp_alloc hcop
      obtain ⟨i', zv, hi', hzv, rfl, hsz, hcl⟩ := zerosOf_spec hz
      intro j v hv
      obtain ⟨v', h1, h2⟩ := (closed_cells (φ := φ) (L := VH.ph (d.H s)) hcl).get_toList j v hv
      refine ⟨v', ?_, h2⟩
      have : C = zv.cells := by
        apply Array.ext'
        exact hCz
      rw [this]
      exact h1
    obtain ⟨r1, r2, r3⟩ := adopt hI.hR (Nat.le_trans hnr hI.hX.len) ⟨0, z⟩ hb hne (fun C' hC' => by have := hI.hg0 _ _ hC'; omega) hclz
    have hCsz : C.size = z.length := by rw [← hCz]; simp
    have hsn : setE φ (d.H s).length ⟨β i, 0, C.size⟩ (d.H s).length = ⟨β i, 0, C.size⟩ := by unfold setE; rw [if_pos rfl]
    have hptr : TopR (setE φ (d.H s).length ⟨β i, 0, C.size⟩) (VH.ph (d.H s ++ [⟨0, z⟩])) (d.V s) (.pointer (some ⟨β i, 0, none⟩)) := by
      rw [hV]
      have := AtomR.ptr (φ := setE φ (d.H s).length ⟨β i, 0, C.size⟩) (k := 0) (tot := z.length) (ph_new (d.H s) ⟨0, z⟩) rfl
      rw [hsn] at this
      exact .val (.cell (.atom this))
    refine ⟨setE φ (d.H s).length ⟨β i, 0, C.size⟩, env.set q (d.V s), ⟨by omega, hpre', fun t j h1 h2 h3 h4 => Nat.lt_succ_of_lt (hI.heff t j h1 h2 h3 h4), by rw [hH]; exact r1, by rw [hH]; exact r3 hI.hX hb0, ?_, hI.hd, hI.hcl, hI.hin, ?_, ?_, by rw [List.length_set]; exact hI.hlen, hI.hg0, ?_, ?_⟩⟩
    · rw [hH]
      have hE2 : RE (setE φ (d.H s).length ⟨β i, 0, C.size⟩) (VH.ph (d.H s ++ [⟨0, z⟩])) env a := hI.hE.grow r2
      by_cases hql : q < e0.length
      · exact All2.setl hptr q hE2 (by simpa using hq1 hql)
      · rw [List.set_eq_of_length_le (by rw [hI.hlen]; omega)]
        exact hE2
    · intro t j vj q' hj hvj hq' hlj hfj
      by_cases e : t = s
      · subst e
        rw [hp] at hj
        cases hj
        rw [ha.hv] at hvj
        cases hvj
        rw [hdq] at hq'
        cases hq'
        rw [List.getElem?_set, if_pos rfl, hI.hlen]
      · have h1 := hI.hW1 t j vj q' hj hvj hq' hlj fun h => by have := hfj h; omega
        rw [List.getElem?_set, if_neg ?_]
        · exact h1
        · intro e2
          subst e2
          obtain ⟨oj, vj', haj⟩ := d.at_of hj
          have : vj' = vj := by have := haj.hv; rw [hvj] at this; exact (Option.some.inj this).symm
          subst this
          have hji : j ≠ i := fun e3 => e (pos_unique (d := d) (e3 ▸ hj) hp)
          exact (ha.facts.2.2.2.1 j vj' hvj haj.lt hji).1 (by rw [hdq]; simp) (by rw [hdq]; exact hq')
    · intro q' hq'
      have := hq' s i vo hp ha.hv hL
      rw [List.getElem?_set, if_neg (fun e => this (by rw [hdq, e]))]
      exact hI.hW2 q' hq'
    · intro t j vj z' q' hj hvj hfj hop' hdj hlj ht
      obtain ⟨p1, p2, p3, p4⟩ := hI.hP t j vj z' q' hj hvj hfj hop' hdj hlj (by omega)
      refine ⟨p1, p2, p3, fun k hk => ?_⟩
      have hji : i ≠ j := fun e => by have := pos_unique (d := d) hp (e ▸ hj); omega
      rw [hH] at hk
      obtain ⟨ok, hk⟩ := Option.isSome_iff_exists.mp hk
      rcases VH.ph_push hk with ⟨hl, hk1⟩ | ⟨rfl, _⟩
      · have : setE φ (d.H s).length ⟨β i, 0, C.size⟩ k = φ k := by unfold setE; rw [if_neg (by omega)]
        rw [this]
        exact p4 k (by simp [hk1])
      · rw [hsn]
        exact hI.hPd s i t j hp hj hf hfj hL hlj (Nat.le_refl _) (by omega) hji
    · intro t j t' j' h1 h2 h3 h4 h5 h6 h7 h8 h9
      exact hI.hPd t j t' j' h1 h2 h3 h4 h5 h6 (by omega) (by omega) h9
  · by_cases he : effI d.vs i = true
    · exact absurd (hI.heff s i hp he hf hL) (Nat.lt_irrefl _)
    · have he' : vo.op.eff = false := by rw [← effI_of ha.hv]; simpa using he
      have hH : d.H (s + 1) = d.H s := (hst.2.1 he').1
      refine ⟨φ, env, ⟨by omega, hpre', fun t j h1 h2 h3 h4 => Nat.lt_succ_of_lt (hI.heff t j h1 h2 h3 h4), by rw [hH]; exact hI.hR, by rw [hH]; exact hI.hX, by rw [hH]; exact hI.hE, hI.hd, hI.hcl, hI.hin, ?_, hI.hW2, hI.hlen, hI.hg0, ?_, ?_⟩⟩
      · intro t j vj q' hj hvj hq' hlj hfj
        refine hI.hW1 t j vj q' hj hvj hq' hlj fun h => ?_
        have := hfj h
        have : t ≠ s := fun e => by
          subst e
          rw [hp] at hj
          cases hj
          exact hf h
        omega
      · intro t j vj z' q' hj hvj hfj hop' hdj hlj ht
        rw [hH]
        exact hI.hP t j vj z' q' hj hvj hfj hop' hdj hlj (by omega)
      · intro t j t' j' h1 h2 h3 h4 h5 h6 h7 h8 h9
        exact hI.hPd t j t' j' h1 h2 h3 h4 h5 h6 (by omega) (by omega) h9

theorem advance {β : Nat → Nat} (hnr : nro ≤ h0.length) : ∀ (n : Nat) {φ : Em} {s : Nat} {env : List Value}, s + n ≤ d.π.length → (∀ q j, d.π[q]? = some j → q < s + n → L j = true) → DD.Inv d φ0 h0 w0 a0 e0 L β φ s env a w → ∃ φ' env', DD.Inv d φ0 h0 w0 a0 e0 L β φ' (s + n) env' a w
  | 0, φ, s, env, _, _, hI => ⟨φ, env, hI⟩
  | n + 1, φ, s, env, hl, hall, hI => by
    obtain ⟨i, hi⟩ : ∃ i, d.π[s]? = some i := ⟨_, List.getElem?_eq_getElem (by omega)⟩
    obtain ⟨φ1, env1, h1⟩ := flush hnr hi (hall s i hi (by omega)) hI
    have := advance hnr n (s := s + 1) (by omega) (fun q j hq hlt => hall q j hq (by omega)) h1
    rw [show s + 1 + n = s + (n + 1) by omega] at this
    exact this

theorem alloc_wp {P : Program} {a : Act} {w : World} {o : Oper} {t : TypeId} {z : List Value} {K : Act → World → Prop} {Q : Exit → Act → World → Prop} (ho : o.op = .alloc t) (hz : zerosOf P t = some z)
    (hK : ∀ zv : Value, zv.cells.toList = z → K (a.put o.dst (.pointer (some ⟨w.heap.size, 0, none⟩))) (w.alloc (.cells zv.cells t (0, 0)))) : o.wp P a w K Q := by
  obtain ⟨dst, oop, ty, pos, after, guard⟩ := o
  simp only at ho
  subst ho
  obtain ⟨i, zv, hi, hzv, rfl, hsz, hcl⟩ := zerosOf_spec hz
  unfold Oper.wp
  have : (execOp a.eval ⟨dst, .alloc t, ty, pos, after, guard⟩).run P w = .ok (.value (.pointer (some ⟨w.heap.size, 0, none⟩))) (w.alloc (.cells zv.cells t (0, 0))) := by
    simp [execOp, Instr.alloc, zeroValue, run_info hi, hzv, newVar, newRow]
  rw [this]
  exact hK zv rfl

theorem RH.more {nro : Nat} {φ : Em} {L : PH} {w w1 : World} {C : Array Value} {ty : TypeId} (hR : RH nro φ L w) (hw : w1.heap = w.heap.push (.cells C ty (0, 0))) (hrest : w1.os = w.os ∧ w1.tape = w.tape ∧ w1.output = w.output) :
    RH nro φ L w1 ∧ X nro φ L w φ L w1 := by
  have hold : ∀ b, b < w.heap.size → w1.heap[b]? = w.heap[b]? := fun b hb => by rw [hw, Array.getElem?_push_lt hb]; simp [hb]
  refine RH.mk' (fun i o hi => ?_) hR.apart hR.glob ⟨fun _ o h => ⟨o, h, rfl, Nat.le_refl _, fun _ => rfl⟩, fun _ h _ => .inl ⟨h, rfl⟩, by rw [hw]; simp, fun b hb _ => hold b hb, hrest, fun _ _ _ => rfl⟩
  obtain ⟨C', ty', fz, hb, hc, hn⟩ := hR.cells i o hi
  exact ⟨C', ty', fz, by rw [hold _ (hR.block_lt hi)]; exact hb, hc, hn⟩

/-- The next operation, whichever it is. -/
theorem next {β : Nat → Nat} (hS : CallSound P nro call) (hnr : nro ≤ h0.length) {t i : Nat} {o : Oper} {vo : VOper} (ha : d.At t i o vo) (hI0 : DD.Inv d φ0 h0 w0 a0 e0 L β φ s env a w) (he0 : d.E 0 = e0) (hr : ∀ e ∈ o.after.toList, Region.binds .any e = true → L e.on = true) (hL : L i = false)
    {K : Act → World → Prop} {Q : Exit → Act → World → Prop} (hK : ∀ β' φ' s' env' a' w', DD.Inv d φ0 h0 w0 a0 e0 (put1 L i) β' φ' s' env' a' w' → K a' w') : wpOp P ops Q i K a w := by
  have htl : t < d.π.length := (List.getElem?_eq_some_iff.mp ha.p).1
  have hst := d.hst _ _ ha.hos
  obtain ⟨hdst, hcop, hcg⟩ := ha.dst
  have hts : s ≤ t := by
    rcases Nat.lt_or_ge t s with h | h
    · have := hI0.hpre t i ha.p h
      rw [hL] at this
      cases this
    · exact h
  have hcl' := put1_closed hI0.hcl ha.ho hr
  have hin' : ∀ j, put1 L i j = true → j < ops.size := by
    intro j hj
    unfold put1 at hj
    simp only [Bool.or_eq_true, beq_iff_eq] at hj
    rcases hj with hj | rfl
    · exact hI0.hin j hj
    · exact ha.lt
  have hputL : ∀ (e : List Value) (v : Value), e.length = e0.length → (vput e vo.dst v).length = e0.length := fun e v he => by rw [vput_length]; exact he
  have hfresh : ∀ q, vo.dst = some q → ∀ (t' i' : Nat) vo', d.π[t']? = some i' → d.vs[i']? = some vo' → vo'.dst = some q → i' = i := by
    intro q hq t' i' vo' hp' hv' hd'
    apply Classical.byContradiction
    intro hne
    obtain ⟨o'', vo'', ha''⟩ := d.at_of hp'
    exact (ha.facts.2.2.2.1 i' vo' hv' ha''.lt hne).1 (by rw [hq]; simp) (by rw [hq]; exact hd')
  have hne_of : ∀ j, j ≠ i → (put1 L i j = true ↔ L j = true) := fun j hj => by simp [put1, hj]
  simp only [wpOp, ha.ho]
  by_cases hf : i ∈ d.fs
  · -- a new variable, before its time
    obtain ⟨z, q, hop, hgd, hdq, _⟩ := ha.flt hf
    rw [hop] at hcop
    obtain ⟨ty, hoop, hz⟩ := compOp_alloc hcop
    rw [hgd] at hcg
    rw [if_pos (wanted_rel hcg hI0.hE (vwanted_none env))]
    refine .inl (alloc_wp hoop hz fun zv hzv => ?_)
    obtain ⟨hR1, hX1⟩ := RH.more (w1 := w.alloc (.cells zv.cells ty (0, 0))) hI0.hR rfl ⟨rfl, rfl, rfl⟩
    have hlook : ∀ b, b < w.heap.size → (w.alloc (.cells zv.cells ty (0, 0))).heap[b]? = w.heap[b]? := fun b hb => by
      show (w.heap.push _)[b]? = _
      rw [Array.getElem?_push_lt hb]; simp [hb]
    have hEl : env.length = a.tmps.size := by have := All2.length' hI0.hE; simpa using this
    let β' : Nat → Nat := fun j => if j = i then w.heap.size else β j
    have hb1 : β' i = w.heap.size := by simp [β']
    have hb2 : ∀ j, j ≠ i → β' j = β j := fun j hj => by simp [β', hj]
    refine hK β' φ s (vput env (some q) junk) _ _ ⟨hI0.hs, ?_, ?_, hR1, hI0.hX.trans hX1, ?_, by rw [Act.put_defers', hI0.hd], hcl', hin', ?_, ?_, by rw [← hdq]; exact hputL env _ hI0.hlen, hI0.hg0, ?_, ?_⟩
    · intro t' i' hp' ht'
      have hne : i' ≠ i := fun e => by have := pos_unique (d := d) hp' (e ▸ ha.p); omega
      exact (hne_of i' hne).mpr (hI0.hpre t' i' hp' ht')
    · intro t' i' hp' hi' hf' hl'
      have hne : i' ≠ i := fun e => hf' (e ▸ hf)
      exact hI0.heff t' i' hp' hi' hf' ((hne_of i' hne).mp hl')
    · rw [← hdst, hdq]
      exact hI0.hE.put (some q) (.val (.cell (.atom (.junk none _))))
    · intro t' i' vo' q' hp' hv' hd' hl' hff
      by_cases hii : i' = i
      · subst hii
        have : t' = t := pos_unique (d := d) hp' ha.p
        have := hff hf
        omega
      · have hl : L i' = true := (hne_of i' hii).mp hl'
        rw [vput_get, if_neg fun e => hii (hfresh q hdq t' i' vo' hp' hv' (by rw [hd', e]))]
        exact hI0.hW1 t' i' vo' q' hp' hv' hd' hl hff
    · intro q' hq
      have h1 := hI0.hW2 q' fun t' i' vo' hp' hv' hl' => hq t' i' vo' hp' hv' (by simp [put1, hl'])
      have h2 := hq t i vo ha.p ha.hv (by simp [put1])
      rw [vput_get, if_neg fun e => h2 (by rw [hdq, e])]
      exact h1
    · intro t' i' vo' z' q' hp' hv' hf' hop' hd' hl' ht'
      by_cases hii : i' = i
      · subst hii
        rw [ha.hv] at hv'
        cases hv'
        rw [hop] at hop'
        cases hop'
        rw [hdq] at hd'
        cases hd'
        rw [hb1]
        refine ⟨fun hql => ?_, ⟨zv.cells, ty, ?_, hzv⟩, hI0.hX.size, fun j hj => ?_⟩
        · rw [← hdst, hdq]
          show (a.tmps.setIfInBounds q _)[q]? = _
          have : q < a.tmps.size := by rw [← hEl, hI0.hlen]; exact hql
          simp [this]
        · show (w.heap.push _)[w.heap.size]? = _
          simp
        · obtain ⟨oj, hj⟩ := Option.isSome_iff_exists.mp hj
          have := hI0.hR.block_lt hj
          omega
      · obtain ⟨p1, ⟨C, ty', p2, p3⟩, p4, p5⟩ := hI0.hP t' i' vo' z' q' hp' hv' hf' hop' hd' ((hne_of i' hii).mp hl') ht'
        rw [hb2 i' hii]
        refine ⟨fun hql => ?_, ⟨C, ty', ?_, p3⟩, p4, p5⟩
        · rw [← hdst, hdq]
          show (a.tmps.setIfInBounds q _)[q']? = _
          have hqq : q ≠ q' := fun e => hii (hfresh q hdq t' i' vo' hp' hv' (by rw [hd', e]))
          rw [Array.getElem?_setIfInBounds_ne hqq]
          exact p1 hql
        · rw [hlook _ (Array.getElem?_eq_some_iff.mp p2).1]
          exact p2
    · intro t1 i1 t2 i2 h1 h2 h3 h4 h5 h6 h7 h8 h9
      have hlt : ∀ (t' i' : Nat), d.π[t']? = some i' → i' ∈ d.fs → i' ≠ i → put1 L i i' = true → s ≤ t' → β i' < w.heap.size := by
        intro t' i' hp' hf' hii hl' ht'
        obtain ⟨o', vo', ha'⟩ := d.at_of hp'
        obtain ⟨z', q', hop', _, hd', _⟩ := ha'.flt hf'
        obtain ⟨_, ⟨C, ty', p2, _⟩, _⟩ := hI0.hP t' i' vo' z' q' hp' ha'.hv hf' hop' hd' ((hne_of i' hii).mp hl') ht'
        exact (Array.getElem?_eq_some_iff.mp p2).1
      by_cases e1 : i1 = i <;> by_cases e2 : i2 = i
      · exact absurd (e1.trans e2.symm) h9
      · rw [e1, hb1, hb2 i2 e2]
        have := hlt t2 i2 h2 h4 e2 h6 h8
        omega
      · rw [e2, hb1, hb2 i1 e1]
        have := hlt t1 i1 h1 h3 e1 h5 h7
        omega
      · rw [hb2 i1 e1, hb2 i2 e2]
        exact hI0.hPd t1 i1 t2 i2 h1 h2 h3 h4 ((hne_of i1 e1).mp h5) ((hne_of i2 e2).mp h6) h7 h8 h9
  · -- what is known of the new variables stays
    have hPs : ∀ (s' : Nat) (φ φ1 : Em) (env1 : List Value) (w1 : World) (v' : Value), DD.Inv d φ0 h0 w0 a0 e0 L β φ s' env1 a w → X nro φ (VH.ph (d.H s')) w φ1 (VH.ph (d.H (if vo.op.eff then t + 1 else s'))) w1 → s' ≤ (if vo.op.eff then t + 1 else s') →
        (∀ (t' i' : Nat) vo' (z' : List Value) (q' : Nat), d.π[t']? = some i' → d.vs[i']? = some vo' → i' ∈ d.fs → vo'.op = .alloc z' → vo'.dst = some q' → put1 L i i' = true → (if vo.op.eff then t + 1 else s') ≤ t' →
          (q' < e0.length → (a.put o.dst v').tmps[q']? = some (.pointer (some ⟨β i', 0, none⟩))) ∧ (∃ C ty, w1.heap[β i']? = some (.cells C ty (0, 0)) ∧ C.toList = z') ∧ w0.heap.size ≤ β i' ∧ ∀ j, (VH.ph (d.H (if vo.op.eff then t + 1 else s')) j).isSome → (φ1 j).b ≠ β i') := by
      intro s' φ φ1 env1 w1 v' hI hX hss t' i' vo' z' q' hp' hv' hf' hop' hd' hl' ht'
      have hii : i' ≠ i := fun e => hf (e ▸ hf')
      obtain ⟨p1, ⟨C, ty', p2, p3⟩, p4, p5⟩ := hI.hP t' i' vo' z' q' hp' hv' hf' hop' hd' ((hne_of i' hii).mp hl') (by omega)
      have hbl := (Array.getElem?_eq_some_iff.mp p2).1
      refine ⟨fun hql => ?_, ⟨C, ty', ?_, p3⟩, p4, fun j hj => ?_⟩
      · rw [← hdst]
        cases hvd : vo.dst with
        | none => exact p1 hql
        | some q =>
          show (a.tmps.setIfInBounds q _)[q']? = _
          have hqq : q ≠ q' := fun e => hii (hfresh q hvd t' i' vo' hp' hv' (by rw [hd', e]))
          rw [Array.getElem?_setIfInBounds_ne hqq]
          exact p1 hql
      · rw [hX.frame _ hbl fun j hj _ => p5 j hj]
        exact p2
      · by_cases hjn : nro ≤ j
        · rcases hX.fresh j hj hjn with ⟨h1, h2⟩ | h1
          · rw [h2]; exact p5 j h1
          · omega
        · have hjs : (VH.ph (d.H s') j).isSome := by
            have h1 : j < (d.H s').length := Nat.lt_of_lt_of_le (by omega) (Nat.le_trans hnr hI.hX.len)
            simp [VH.ph, h1]
          rw [hX.ro j hjs (by omega)]
          exact p5 j hjs
    have hW1' : ∀ (s1 s2 : Nat) (φ1 : Em) (env1 : List Value), DD.Inv d φ0 h0 w0 a0 e0 L β φ1 s1 env1 a w → (∀ (t' i' : Nat), d.π[t']? = some i' → i' ∈ d.fs → t' < s2 → t' < s1) → ∀ (v : Value), v = d.V t → ∀ (t' i' : Nat) vo' (q : Nat), d.π[t']? = some i' → d.vs[i']? = some vo' → vo'.dst = some q → put1 L i i' = true → (i' ∈ d.fs → t' < s2) → (vput env1 vo.dst v)[q]? = if q < e0.length then some (d.V t') else none := by
      intro s1 s2 φ1 env1 hI hs12 v hv t' i' vo' q hp' hv' hd' hl' hff
      by_cases hii : i' = i
      · subst hii
        have : t' = t := pos_unique (d := d) hp' ha.p
        subst this
        have : vo' = vo := by have := ha.hv; rw [hv'] at this; exact Option.some.inj this
        subst this
        rw [hd', vput_get, if_pos rfl, hI.hlen, hv]
      · have hl : L i' = true := (hne_of i' hii).mp hl'
        have := hI.hW1 t' i' vo' q hp' hv' hd' hl fun h => hs12 t' i' hp' h (hff h)
        cases hvd : vo.dst with
        | none => exact this
        | some q' =>
          rw [vput_get, if_neg fun e => hii (hfresh q' hvd t' i' vo' hp' hv' (by rw [hd', e]))]
          exact this
    have hW2' : ∀ (s1 : Nat) (φ1 : Em) (env1 : List Value), DD.Inv d φ0 h0 w0 a0 e0 L β φ1 s1 env1 a w → ∀ (v : Value), ∀ q : Nat, (∀ (t' i' : Nat) vo', d.π[t']? = some i' → d.vs[i']? = some vo' → put1 L i i' = true → vo'.dst ≠ some q) → (vput env1 vo.dst v)[q]? = e0[q]? := by
      intro s1 φ1 env1 hI v q hq
      have h1 := hI.hW2 q fun t' i' vo' hp' hv' hl' => hq t' i' vo' hp' hv' (by simp [put1, hl'])
      have h2 := hq t i vo ha.p ha.hv (by simp [put1])
      cases hvd : vo.dst with
      | none => exact h1
      | some q' =>
        rw [vput_get, if_neg fun e => h2 (by rw [hvd, e])]
        exact h1
    have hPd' : ∀ (s1 s2 : Nat) (φ1 : Em) (env1 : List Value), DD.Inv d φ0 h0 w0 a0 e0 L β φ1 s1 env1 a w → s1 ≤ s2 → ∀ (t1 i1 t2 i2 : Nat), d.π[t1]? = some i1 → d.π[t2]? = some i2 → i1 ∈ d.fs → i2 ∈ d.fs → put1 L i i1 = true → put1 L i i2 = true → s2 ≤ t1 → s2 ≤ t2 → i1 ≠ i2 → β i1 ≠ β i2 := by
      intro s1 s2 φ1 env1 hI h12 t1 i1 t2 i2 h1 h2 h3 h4 h5 h6 h7 h8 h9
      have e1 : i1 ≠ i := fun e => hf (e ▸ h3)
      have e2 : i2 ≠ i := fun e => hf (e ▸ h4)
      exact hI.hPd t1 i1 t2 i2 h1 h2 h3 h4 ((hne_of i1 e1).mp h5) ((hne_of i2 e2).mp h6) (by omega) (by omega) h9
    by_cases heff : vo.op.eff = true
    · -- it writes: all before it has been carried out
      have hbefore : ∀ q j, d.π[q]? = some j → q < t → L j = true := by
        intro q j hq hlt
        have hb := ha.facts.2.2.1 heff hf j (mem_take.mpr ⟨q, hlt, hq⟩)
        have := bef_closed hcl' hb (by simp [put1])
        have hne : j ≠ i := fun e => by have := pos_unique (d := d) hq (e ▸ ha.p); omega
        exact (hne_of j hne).mp this
      obtain ⟨φ, env, hI⟩ := advance hnr (t - s) (by omega) (fun q j hq hlt => hbefore q j hq (by omega)) hI0
      rw [show s + (t - s) = t by omega] at hI
      have hnr' : nro ≤ (d.H t).length := Nat.le_trans hnr hI.hX.len
      have hslot : ∀ q ∈ slotsOf vo, env[q]? = (d.E t)[q]? := fun q hq => same_slot ha hI he0 hr hL hq fun _ _ _ _ _ _ _ h => h
      have hwant : vwanted env vo.guard = vwanted (d.E t) vo.guard := vwanted_same fun q b hg => hslot q (by unfold slotsOf; rw [hg]; simp)
      have hops : ∀ x ∈ opds vo.op, vev env x = vev (d.E t) x := fun x hx => vev_same fun q e => hslot q (mem_slots_op (e ▸ hx))
      have hpre' : ∀ (t' i' : Nat), d.π[t']? = some i' → t' < t + 1 → put1 L i i' = true := by
        intro t' i' hp' ht'
        by_cases e : t' = t
        · subst e
          rw [ha.p] at hp'
          cases hp'
          simp [put1]
        · have hne : i' ≠ i := fun e2 => e (pos_unique (d := d) hp' (e2 ▸ ha.p))
          exact (hne_of i' hne).mpr (hbefore t' i' hp' (by omega))
      have heff' : ∀ (t' i' : Nat), d.π[t']? = some i' → effI d.vs i' = true → i' ∉ d.fs → put1 L i i' = true → t' < t + 1 := by
        intro t' i' hp' hi' hf' hl'
        by_cases e : i' = i
        · subst e
          have := pos_unique (d := d) hp' ha.p
          omega
        · have := hI.heff t' i' hp' hi' hf' ((hne_of i' e).mp hl')
          omega
      have hs12 : ∀ (t' i' : Nat), d.π[t']? = some i' → i' ∈ d.fs → t' < t + 1 → t' < t := by
        intro t' i' hp' hf' ht'
        have : t' ≠ t := fun e => by
          subst e
          rw [ha.p] at hp'
          cases hp'
          exact hf hf'
        omega
      rcases hst.2.2 with ⟨hw, hv, hE', _⟩ | ⟨hw, hv, hE', hH'⟩
      · rw [if_pos (wanted_rel hcg hI.hE (by rw [hwant]; exact hw))]
        rw [← vop_congr hops] at hv
        refine .inl (vop_wp hS hnr' o hcop hI.hR hI.hE hv ?_)
        intro φ1 v' w1 hR1 hX1 hv1
        have hP2 := hPs t φ φ1 env w1 v' hI
        rw [if_pos heff] at hP2
        refine hK β φ1 (t + 1) (vput env vo.dst (d.V t)) _ _ ⟨by omega, hpre', heff', hR1, hI.hX.trans hX1, ?_, by rw [Act.put_defers', hI.hd], hcl', hin', hW1' t (t + 1) φ env hI hs12 _ rfl, hW2' t φ env hI _, hputL env _ hI.hlen, hI.hg0, hP2 hX1 (by omega), hPd' t (t + 1) φ env hI (by omega)⟩
        rw [← hdst]
        exact (hI.hE.grow hX1.grow).put vo.dst hv1
      · rw [if_neg (by rw [wanted_rel hcg hI.hE (by rw [hwant]; exact hw)]; simp)]
        have hP2 := hPs t φ φ env w Go.undef hI
        rw [if_pos heff, hH'] at hP2
        refine hK β φ (t + 1) (vput env vo.dst Go.undef) _ _ ⟨by omega, hpre', heff', by rw [hH']; exact hI.hR, by rw [hH']; exact hI.hX, ?_, by rw [Act.put_defers', hI.hd], hcl', hin', hW1' t (t + 1) φ env hI hs12 _ hv.symm, hW2' t φ env hI _, hputL env _ hI.hlen, hI.hg0, by rw [hH']; exact hP2 (X.heap_eq rfl ⟨rfl, rfl, rfl⟩) (by omega), hPd' t (t + 1) φ env hI (by omega)⟩
        rw [← hdst, hH']
        exact hI.hE.put vo.dst .undef
    · have heff0 : vo.op.eff = false := by simpa using heff
      have heffI : effI d.vs i = false := by rw [effI_of ha.hv]; exact heff0
      have hI := hI0
      have hnr' : nro ≤ (d.H s).length := Nat.le_trans hnr hI.hX.len
      have hslot : ∀ q ∈ slotsOf vo, env[q]? = (d.E t)[q]? := fun q hq => same_slot ha hI he0 hr hL hq fun tj j vj hpj hvj hdj hfj _ => by
        obtain ⟨oj, vj', haj⟩ := d.at_of hpj
        have : vj' = vj := by have := haj.hv; rw [hvj] at this; exact (Option.some.inj this).symm
        subst this
        obtain ⟨_, q', _, _, hd', hrd⟩ := haj.flt hfj
        rw [hdj] at hd'
        cases hd'
        have := hrd i vo ha.hv hq
        rw [heff0] at this
        cases this
      have hwant : vwanted env vo.guard = vwanted (d.E t) vo.guard := vwanted_same fun q b hg => hslot q (by unfold slotsOf; rw [hg]; simp)
      have hops : ∀ x ∈ opds vo.op, vev env x = vev (d.E t) x := fun x hx => vev_same fun q e => hslot q (mem_slots_op (e ▸ hx))
      have hpre' : ∀ (t' i' : Nat), d.π[t']? = some i' → t' < s → put1 L i i' = true := by
        intro t' i' hp' ht'
        have hne : i' ≠ i := fun e => by have := pos_unique (d := d) hp' (e ▸ ha.p); omega
        exact (hne_of i' hne).mpr (hI.hpre t' i' hp' ht')
      have heff' : ∀ (t' i' : Nat), d.π[t']? = some i' → effI d.vs i' = true → i' ∉ d.fs → put1 L i i' = true → t' < s := by
        intro t' i' hp' hi' hf' hl'
        have hne : i' ≠ i := fun e => by rw [e, heffI] at hi'; cases hi'
        exact hI.heff t' i' hp' hi' hf' ((hne_of i' hne).mp hl')
      rcases hst.2.2 with ⟨hw, hv, hE', hchk⟩ | ⟨hw, hv, hE', hH'⟩
      · rw [if_pos (wanted_rel hcg hI.hE (by rw [hwant]; exact hw))]
        have hHt : vop call nro (vev (d.E t)) (d.H t) vo.op = some (d.V t, d.H t) := by
          have := (hst.2.1 heff0).1
          rw [this] at hv
          exact hv
        have hvs : vop call nro (vev (d.E t)) (d.H s) vo.op = some (d.V t, d.H s) := by
          by_cases hcnt : d.cnt s < d.cnt t
          · have hG := G_get (d := d) t (by omega) s hts hcnt
            refine hchk heff0 _ ?_
            have hk : d.cnt t - 1 - d.cnt s < chkOf d.fs d.B d.vs (d.π.take t) i := by
              have hsub : d.cnt t ≤ d.cnt s + chkOf d.fs d.B d.vs (d.π.take t) i := by
                unfold cnt chkOf
                have e1 : d.π.take t = d.π.take s ++ (d.π.take t).drop s := by
                  have := List.take_append_drop s (d.π.take t)
                  rw [List.take_take, Nat.min_eq_left hts] at this
                  exact this.symm
                have e2 : ((d.π.take t).filter fun j => effI d.vs j).length = ((d.π.take s).filter fun j => effI d.vs j).length + (((d.π.take t).drop s).filter fun j => effI d.vs j).length := by
                  conv => lhs; rw [e1]
                  rw [List.filter_append, List.length_append]
                rw [e2]
                refine Nat.add_le_add_left ?_ _
                have e3 : ((d.π.take t).drop s).filter (fun j => effI d.vs j) = ((d.π.take t).drop s).filter (fun j => effI d.vs j && (d.fs.contains j || !(d.B.getD i 0).testBit j)) := by
                  apply List.filter_congr
                  intro j hj
                  cases hej : effI d.vs j with
                  | false => rfl
                  | true =>
                    by_cases hfj : j ∈ d.fs
                    · simp [hfj]
                    · obtain ⟨q, hq⟩ := List.getElem?_of_mem hj
                      rw [List.getElem?_drop, List.getElem?_take] at hq
                      split at hq
                      · have hnl : L j = false := by
                          cases hlj : L j with
                          | false => rfl
                          | true => have := hI.heff _ j hq hej hfj hlj; omega
                        cases hb : (d.B.getD i 0).testBit j with
                        | false => simp
                        | true =>
                          have := bef_closed hcl' hb (by simp [put1])
                          have hne : j ≠ i := fun e => by rw [e, heffI] at hej; cases hej
                          simp [put1, hne, hnl] at this
                      · cases hq
                rw [e3]
                exact ((List.drop_sublist s _).filter _).length_le
              omega
            exact List.mem_of_getElem? (show ((d.G t).take (chkOf d.fs d.B d.vs (d.π.take t) i))[d.cnt t - 1 - d.cnt s]? = some (d.H s) by rw [List.getElem?_take, if_pos hk]; exact hG)
          · have : d.H t = d.H s := H_eq hts (by omega) fun q j h1 h2 hq => by
              cases hj : effI d.vs j with
              | false => rfl
              | true =>
                exfalso
                have h3 : d.cnt s ≤ d.cnt q := by
                  unfold cnt
                  have : d.π.take s = (d.π.take q).take s := by rw [List.take_take, Nat.min_eq_left h1]
                  rw [this]
                  exact ((List.take_sublist s _).filter _).length_le
                have h4 : d.cnt (q + 1) ≤ d.cnt t := by
                  unfold cnt
                  have : d.π.take (q + 1) = (d.π.take t).take (q + 1) := by rw [List.take_take, Nat.min_eq_left h2]
                  rw [this]
                  exact ((List.take_sublist (q + 1) _).filter _).length_le
                have h5 := cnt_succ (d := d) hq
                rw [hj] at h5
                simp only [if_true] at h5
                omega
            rw [← this]
            exact hHt
        rw [← vop_congr hops] at hvs
        refine .inl (vop_wp hS hnr' o hcop hI.hR hI.hE hvs ?_)
        intro φ1 v' w1 hR1 hX1 hv1
        have hP2 := hPs s φ φ1 env w1 v' hI
        rw [if_neg (by rw [heff0]; simp)] at hP2
        refine hK β φ1 s (vput env vo.dst (d.V t)) _ _ ⟨hI.hs, hpre', heff', hR1, hI.hX.trans hX1, ?_, by rw [Act.put_defers', hI.hd], hcl', hin', hW1' s s φ env hI (fun _ _ _ _ h => h) _ rfl, hW2' s φ env hI _, hputL env _ hI.hlen, hI.hg0, hP2 hX1 (Nat.le_refl _), hPd' s s φ env hI (Nat.le_refl _)⟩
        rw [← hdst]
        exact (hI.hE.grow hX1.grow).put vo.dst hv1
      · rw [if_neg (by rw [wanted_rel hcg hI.hE (by rw [hwant]; exact hw)]; simp)]
        have hP2 := hPs s φ φ env w Go.undef hI
        rw [if_neg (by rw [heff0]; simp)] at hP2
        refine hK β φ s (vput env vo.dst Go.undef) _ _ ⟨hI.hs, hpre', heff', hI.hR, hI.hX, ?_, by rw [Act.put_defers', hI.hd], hcl', hin', hW1' s s φ env hI (fun _ _ _ _ h => h) _ hv.symm, hW2' s φ env hI _, hputL env _ hI.hlen, hI.hg0, hP2 (X.heap_eq rfl ⟨rfl, rfl, rfl⟩) (Nat.le_refl _), hPd' s s φ env hI (Nat.le_refl _)⟩
        rw [← hdst]
        exact hI.hE.put vo.dst .undef
end DD
end Go.Proofs.YthpgiimaadohcaaDoor.Zv
