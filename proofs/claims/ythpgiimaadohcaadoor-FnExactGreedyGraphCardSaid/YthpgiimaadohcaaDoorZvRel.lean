/- How the virtual interpreter's values and heaps stand for the model's. -/
import Derived.Test.YthpgiimaadohcaaDoorZvDef
import Derived.Test.YthpgiimaadohcaaDoorZvGlob
namespace Go.Proofs.YthpgiimaadohcaaDoor.Zv
open Go

/-- Where an object lies: its block, where in the block its cells begin, how many cells there are from there on. -/
structure Blk where
  b : Nat
  off : Nat
  cap : Nat
abbrev Em := Nat → Blk
abbrev PH := Nat → Option VO
def VH.ph (h : VH) : PH := fun i => h[i]?

inductive All2 {α β : Type} (R : α → β → Prop) : List α → List β → Prop
  | nil : All2 R [] []
  | cons {a : α} {b : β} {as : List α} {bs : List β} (h : R a b) (t : All2 R as bs) : All2 R (a :: as) (b :: bs)

def one1 : Value → Bool
  | .agg _ => false
  | .tuple _ => false
  | _ => true
def one (v : Value) : Prop := one1 v = true

inductive AtomR (φ : Em) (L : PH) : Value → Value → Prop
  | junk (r : Option Nat) (v : Value) : AtomR φ L (.chan r) v
  | bool (b : Bool) : AtomR φ L (.bool b) (.bool b)
  | int (k : IntKind) (n : Int) : AtomR φ L (.int k n) (.int k n)
  | str (s : ByteArray) : AtomR φ L (.string s) (.string s)
  | ptrN : AtomR φ L (.pointer none) (.pointer none)
  | slN : AtomR φ L (.slice none 0 0) (.slice none 0 0)
  | nilF : AtomR φ L .nilFunc .nilFunc
  | ptr {i k tot : Nat} {o : VO} (hL : L i = some o) (ht : tot = o.cells.length) : AtomR φ L (.pointer (some ⟨i, k, some tot⟩)) (.pointer (some ⟨(φ i).b, (φ i).off + k, none⟩))
  | ptrS {i k tot : Nat} {o : VO} {v : Value} (hL : L i = some o) (ht : tot < o.cells.length) (h1 : one v) : AtomR φ L (.pointer (some ⟨i, k, some tot⟩)) v
  | sl {i k n tot c : Nat} {o : VO} {a : Addr} (hL : L i = some o) (ht : tot = o.cells.length) (hk : k + n * o.sz ≤ tot) (hs : 1 ≤ o.sz) (hc : n ≤ c) (hcap : k + c * o.sz ≤ (φ i).cap)
      (ha : c = 0 ∨ a = ⟨(φ i).b, (φ i).off + k, none⟩) : AtomR φ L (.slice (some ⟨i, k, none⟩) n tot) (.slice (some a) n c)
  | slE (a : Addr) (c : Nat) : AtomR φ L (.slice none 0 1) (.slice (some a) 0 c)
  | slS {i k n tot : Nat} {o : VO} {v : Value} (hL : L i = some o) (ht : tot < o.cells.length) (h1 : one v) : AtomR φ L (.slice (some ⟨i, k, none⟩) n tot) v

inductive CellR (φ : Em) (L : PH) : Value → Value → Prop
  | atom {v v' : Value} (h : AtomR φ L v v') : CellR φ L v v'
  | func (f : Nat) {a c a' c' : Array Value} (ha : All2 (AtomR φ L) a.toList a'.toList) (hc : All2 (AtomR φ L) c.toList c'.toList) : CellR φ L (.func (.func f) a c) (.func (.func f) a' c')

inductive ValR (φ : Em) (L : PH) : Value → Value → Prop
  | cell {v v' : Value} (h : CellR φ L v v') : ValR φ L v v'
  | agg {cs cs' : Array Value} (h : All2 (CellR φ L) cs.toList cs'.toList) : ValR φ L (.agg cs) (.agg cs')

inductive TopR (φ : Em) (L : PH) : Value → Value → Prop
  | val {v v' : Value} (h : ValR φ L v v') : TopR φ L v v'
  | tup {vs vs' : Array Value} (h : All2 (ValR φ L) vs.toList vs'.toList) : TopR φ L (.tuple vs) (.tuple vs')

def GlobP (nro : Nat) (φ : Em) (L : PH) (w : World) : Prop := ∀ b C, globTab b = some C → (∃ ty fz, w.heap[b]? = some (.cells C ty fz)) ∧ ∀ i, (L i).isSome → nro ≤ i → (φ i).b ≠ b

structure RH (nro : Nat) (φ : Em) (L : PH) (w : World) : Prop where
  cells : ∀ i o, L i = some o → ∃ C ty fz, w.heap[(φ i).b]? = some (.cells C ty fz) ∧ (∀ (j : Nat) v, o.cells[j]? = some v → ∃ v', C[(φ i).off + j]? = some v' ∧ CellR φ L v v') ∧
    (nro ≤ i → fz = (0, 0) ∧ (φ i).off = 0 ∧ C.size = (φ i).cap)
  apart : ∀ i j, (L i).isSome → (L j).isSome → nro ≤ i → i ≠ j → (φ i).b ≠ (φ j).b
  glob : GlobP nro φ L w

/-- What has become of objects and of the world. -/
structure X (nro : Nat) (φ : Em) (L : PH) (w : World) (φ' : Em) (L' : PH) (w' : World) : Prop where
  grow : ∀ i o, L i = some o → ∃ o', L' i = some o' ∧ o'.sz = o.sz ∧ o.cells.length ≤ o'.cells.length ∧ (o'.cells.length = o.cells.length → φ' i = φ i)
  fresh : ∀ i, (L' i).isSome → nro ≤ i → ((L i).isSome ∧ (φ' i).b = (φ i).b) ∨ w.heap.size ≤ (φ' i).b
  size : w.heap.size ≤ w'.heap.size
  frame : ∀ b, b < w.heap.size → (∀ i, (L i).isSome → nro ≤ i → (φ i).b ≠ b) → w'.heap[b]? = w.heap[b]?
  rest : w'.os = w.os ∧ w'.tape = w.tape ∧ w'.output = w.output
  ro : ∀ i, (L i).isSome → i < nro → φ' i = φ i

theorem X.refl (nro : Nat) (φ : Em) (L : PH) (w : World) : X nro φ L w φ L w :=
  ⟨fun _ o h => ⟨o, h, rfl, Nat.le_refl _, fun _ => rfl⟩, fun _ h _ => .inl ⟨h, rfl⟩, Nat.le_refl _, fun _ _ _ => rfl, ⟨rfl, rfl, rfl⟩, fun _ _ _ => rfl⟩

theorem X.trans {nro : Nat} {φ φ1 φ2 : Em} {L L1 L2 : PH} {w w1 w2 : World} (a : X nro φ L w φ1 L1 w1) (b : X nro φ1 L1 w1 φ2 L2 w2) : X nro φ L w φ2 L2 w2 where
  grow i o h := by
    obtain ⟨o1, h1, s1, l1, e1⟩ := a.grow i o h
    obtain ⟨o2, h2, s2, l2, e2⟩ := b.grow i o1 h1
    exact ⟨o2, h2, s2.trans s1, Nat.le_trans l1 l2, fun he => by rw [e2 (by omega), e1 (by omega)]⟩
  fresh i h hn := by
    rcases b.fresh i h hn with ⟨h1, e1⟩ | h1
    · rcases a.fresh i h1 hn with ⟨h0, e0⟩ | h0
      · exact .inl ⟨h0, e1.trans e0⟩
      · exact .inr (by rw [e1]; exact h0)
    · exact .inr (Nat.le_trans a.size h1)
  size := Nat.le_trans a.size b.size
  rest := ⟨b.rest.1.trans a.rest.1, b.rest.2.1.trans a.rest.2.1, b.rest.2.2.trans a.rest.2.2⟩
  ro i h hi := by
    obtain ⟨o, ho⟩ := Option.isSome_iff_exists.mp h
    obtain ⟨o1, h1, _⟩ := a.grow i o ho
    rw [b.ro i (by simp [h1]) hi, a.ro i h hi]
  frame q hq hn := by
    rw [b.frame q (Nat.lt_of_lt_of_le hq a.size) ?_, a.frame q hq hn]
    intro i hi hni he
    rcases a.fresh i hi hni with ⟨h0, e0⟩ | h0
    · exact hn i h0 hni (e0 ▸ he)
    · omega

theorem GlobP.of_X {nro : Nat} {φ φ' : Em} {L L' : PH} {w w' : World} (hg : GlobP nro φ L w) (hX : X nro φ L w φ' L' w') : GlobP nro φ' L' w' := by
  intro b C hb
  obtain ⟨⟨ty, fz, h1⟩, h2⟩ := hg b C hb
  have hlt : b < w.heap.size := (Array.getElem?_eq_some_iff.mp h1).1
  refine ⟨⟨ty, fz, by rw [hX.frame b hlt h2]; exact h1⟩, fun i hi hn => ?_⟩
  rcases hX.fresh i hi hn with ⟨h3, h4⟩ | h3
  · rw [h4]; exact h2 i h3 hn
  · omega
theorem RH.mk' {nro : Nat} {φ0 φ : Em} {L0 L : PH} {w0 w : World} (h1 : ∀ i o, L i = some o → ∃ C ty fz, w.heap[(φ i).b]? = some (.cells C ty fz) ∧ (∀ (j : Nat) v, o.cells[j]? = some v → ∃ v', C[(φ i).off + j]? = some v' ∧ CellR φ L v v') ∧
    (nro ≤ i → fz = (0, 0) ∧ (φ i).off = 0 ∧ C.size = (φ i).cap)) (h2 : ∀ i j, (L i).isSome → (L j).isSome → nro ≤ i → i ≠ j → (φ i).b ≠ (φ j).b) (hg : GlobP nro φ0 L0 w0) (hX : X nro φ0 L0 w0 φ L w) : RH nro φ L w ∧ X nro φ0 L0 w0 φ L w :=
  ⟨⟨h1, h2, hg.of_X hX⟩, hX⟩

section
variable {φ φ' : Em} {L L' : PH}

def Grow (φ : Em) (L : PH) (φ' : Em) (L' : PH) : Prop := ∀ i o, L i = some o → ∃ o', L' i = some o' ∧ o'.sz = o.sz ∧ o.cells.length ≤ o'.cells.length ∧ (o'.cells.length = o.cells.length → φ' i = φ i)

theorem AtomR.grow (hg : Grow φ L φ' L') {v v' : Value} (h : AtomR φ L v v') : AtomR φ' L' v v' := by
  cases h with
  | junk r v => exact .junk r _
  | bool b => exact .bool b
  | int k n => exact .int k n
  | str s => exact .str s
  | ptrN => exact .ptrN
  | slN => exact .slN
  | slE a c => exact .slE a c
  | nilF => exact .nilF
  | @ptr i k tot o hL ht =>
    obtain ⟨o', hL', _, hl, he⟩ := hg _ _ hL
    by_cases h : o'.cells.length = o.cells.length
    · rw [← he h]; exact .ptr hL' (by omega)
    · exact .ptrS hL' (by omega) rfl
  | ptrS hL ht h1 =>
    obtain ⟨o', hL', _, hl, he⟩ := hg _ _ hL
    exact .ptrS hL' (by omega) h1
  | @sl i k n tot c o a hL ht hk hs hc hcap ha =>
    obtain ⟨o', hL', hsz, hl, he⟩ := hg _ _ hL
    by_cases h : o'.cells.length = o.cells.length
    · rw [← he h] at hcap ha
      exact .sl hL' (by omega) (by rw [hsz]; exact hk) (by rw [hsz]; exact hs) hc (by rw [hsz]; exact hcap) ha
    · exact .slS hL' (by omega) rfl
  | slS hL ht h1 =>
    obtain ⟨o', hL', _, hl, he⟩ := hg _ _ hL
    exact .slS hL' (by omega) h1

theorem All2.imp' {α β : Type} {R S : α → β → Prop} (hi : ∀ a b, R a b → S a b) : ∀ {as : List α} {bs : List β}, All2 R as bs → All2 S as bs
  | _, _, .nil => .nil
  | _, _, .cons h t => .cons (hi _ _ h) (All2.imp' hi t)

theorem CellR.grow (hg : Grow φ L φ' L') {v v' : Value} (h : CellR φ L v v') : CellR φ' L' v v' := by
  cases h with
  | atom h => exact .atom (h.grow hg)
  | func f ha hc => exact .func f (All2.imp' (fun _ _ h => h.grow hg) ha) (All2.imp' (fun _ _ h => h.grow hg) hc)

theorem ValR.grow (hg : Grow φ L φ' L') {v v' : Value} (h : ValR φ L v v') : ValR φ' L' v v' := by
  cases h with
  | cell h => exact .cell (h.grow hg)
  | agg h => exact .agg (All2.imp' (fun _ _ h => h.grow hg) h)

theorem TopR.grow (hg : Grow φ L φ' L') {v v' : Value} (h : TopR φ L v v') : TopR φ' L' v v' := by
  cases h with
  | val h => exact .val (h.grow hg)
  | tup h => exact .tup (All2.imp' (fun _ _ h => h.grow hg) h)
end

/-! ### the environment -/
def RE (φ : Em) (L : PH) (env : List Value) (a : Act) : Prop := All2 (TopR φ L) env a.tmps.toList

theorem All2.length' {α β : Type} {R : α → β → Prop} : ∀ {as : List α} {bs : List β}, All2 R as bs → as.length = bs.length
  | _, _, .nil => rfl
  | _, _, .cons _ t => by simp [All2.length' t]

theorem All2.get' {α β : Type} {R : α → β → Prop} : ∀ {as : List α} {bs : List β}, All2 R as bs → ∀ (i : Nat) (x : α), as[i]? = some x → ∃ y, bs[i]? = some y ∧ R x y
  | _, _, .nil, i, x, h => by simp at h
  | _, _, .cons h t, 0, x, hx => by simp at hx; subst hx; exact ⟨_, rfl, h⟩
  | _, _, .cons h t, i + 1, x, hx => by simpa using All2.get' t i x (by simpa using hx)

theorem All2.set' {α β : Type} {R : α → β → Prop} {x : α} {y : β} (hxy : R x y) : ∀ {as : List α} {bs : List β} (i : Nat), All2 R as bs → All2 R (as.set i x) (bs.set i y)
  | _, _, _, .nil => .nil
  | _, _, 0, .cons _ t => .cons hxy t
  | _, _, i + 1, .cons h t => .cons h (All2.set' hxy i t)

theorem TopR.undef {φ : Em} {L : PH} : TopR φ L undef undef := .tup .nil

theorem RE.get {φ : Em} {L : PH} {env : List Value} {a : Act} (h : RE φ L env a) (t : Nat) : TopR φ L (env.getD t Go.undef) (a.tmps.getD t Go.undef) := by
  have hl := All2.length' h
  by_cases ht : t < env.length
  · obtain ⟨y, hy, hr⟩ := All2.get' h t env[t] (by simp [ht])
    have e1 : env.getD t Go.undef = env[t] := by simp [List.getD, ht]
    have e2 : a.tmps.getD t Go.undef = y := by
      have : a.tmps[t]? = some y := by simpa using hy
      simp [Array.getD_eq_getD_getElem?, this]
    rw [e1, e2]; exact hr
  · have e1 : env.getD t Go.undef = Go.undef := by simp [List.getD, ht]
    have e2 : a.tmps.getD t Go.undef = Go.undef := by
      have : ¬ t < a.tmps.size := by simpa [hl] using ht
      simp [Array.getD, this]
    rw [e1, e2]; exact .undef

theorem RE.put {φ : Em} {L : PH} {env : List Value} {a : Act} (h : RE φ L env a) (d : Option Tmp) {v v' : Value} (hv : TopR φ L v v') : RE φ L (vput env d v) (a.put d v') := by
  cases d with
  | none => exact h
  | some d =>
    have := All2.set' hv d h
    simpa [RE, vput, Act.put] using this

theorem RE.grow {φ φ' : Em} {L L' : PH} (hg : Grow φ L φ' L') {env : List Value} {a : Act} (h : RE φ L env a) : RE φ' L' env a := All2.imp' (fun _ _ h => h.grow hg) h

/-! ### constants -/
def closedA : Value → Bool
  | .bool _ | .int .. | .string _ | .pointer none | .slice none 0 0 | .nilFunc => true
  | _ => false
def closedV : Value → Bool
  | .agg cs => cs.all closedA
  | v => closedA v

theorem AtomR.closed {φ : Em} {L : PH} {v : Value} (h : closedA v = true) : AtomR φ L v v := by
  unfold closedA at h
  split at h <;> first | exact .bool _ | exact .int _ _ | exact .str _ | exact .ptrN | exact .slN | exact .nilF | cases h

theorem All2.refl' {α : Type} {R : α → α → Prop} : ∀ {as : List α}, (∀ a ∈ as, R a a) → All2 R as as
  | [], _ => .nil
  | a :: as, h => .cons (h a (by simp)) (All2.refl' fun b hb => h b (by simp [hb]))

theorem ValR.closed {φ : Em} {L : PH} {v : Value} (h : closedV v = true) : ValR φ L v v := by
  unfold closedV at h
  split at h
  · rename_i cs
    refine .agg (All2.refl' fun a ha => .atom (.closed ?_))
    rw [Array.all_eq_true_iff_forall_mem] at h
    exact h a (by simpa using ha)
  · exact .cell (.atom (.closed h))

def okOpd : Operand → Bool
  | .tmp _ => true
  | .const v => closedV v || (match v with
    | .tuple vs => vs.size == 0
    | _ => false)
  | .global _ => false
  | .func _ => true

theorem RE.ev {φ : Em} {L : PH} {env : List Value} {a : Act} (h : RE φ L env a) {x : Operand} (hx : okOpd x = true) : TopR φ L (vev env x) (a.eval x) := by
  cases x with
  | tmp t => exact h.get t
  | const v =>
    simp only [okOpd, Bool.or_eq_true] at hx
    rcases hx with hx | hx
    · exact .val (.closed hx)
    · split at hx
      · rename_i vs
        have : vs = #[] := by simpa using hx
        subst this
        exact .tup .nil
      · cases hx
  | global g => cases hx
  | func f => exact .val (.cell (.func f .nil .nil))

end Go.Proofs.YthpgiimaadohcaaDoor.Zv
