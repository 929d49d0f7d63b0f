/- Regions whose order is open. -/
import Derived.Test.YthpgiimaadohcaaDoorZvCode
namespace Go.Proofs.YthpgiimaadohcaaDoor.Zv
open Go

/-! ### what comes before what -/
def befMask (o : Oper) (acc : Array Nat) : Nat := o.after.toList.foldl (fun s e => if Region.binds .any e then s ||| 2 ^ e.on ||| acc.getD e.on 0 else s) 0
def befA : List Oper → Array Nat → Array Nat
  | [], acc => acc
  | o :: r, acc => befA r (acc.push (befMask o acc))

def Closed (ops : Array Oper) (listed : Nat → Bool) : Prop := ∀ (i : Nat) o, ops[i]? = some o → listed i = true → ∀ e ∈ o.after.toList, Region.binds .any e = true → listed e.on = true

theorem befMask_spec {ops : Array Oper} {acc : Array Nat} {listed : Nat → Bool} (hacc : ∀ (i j : Nat), i < acc.size → (acc.getD i 0).testBit j = true → listed i = true → listed j = true) (es : List Edge) (s : Nat) (hs : ∀ j, s.testBit j = true → listed j = true)
    (he : ∀ e ∈ es, Region.binds .any e = true → listed e.on = true) : ∀ j, (es.foldl (fun s e => if Region.binds .any e then s ||| 2 ^ e.on ||| acc.getD e.on 0 else s) s).testBit j = true → listed j = true := by
  induction es generalizing s with
  | nil => exact hs
  | cons e es ih =>
    intro j hj
    simp only [List.foldl_cons] at hj
    refine ih _ ?_ (fun e' h' => he e' (by simp [h'])) j hj
    intro k hk
    split at hk
    · rename_i hb
      have hon := he e (by simp) hb
      rw [Nat.testBit_or, Nat.testBit_or, Bool.or_eq_true, Bool.or_eq_true] at hk
      rcases hk with (hk | hk) | hk
      · exact hs k hk
      · rw [Nat.testBit_two_pow] at hk
        have : e.on = k := by simpa using hk
        rw [← this]; exact hon
      · by_cases hlt : e.on < acc.size
        · exact hacc _ _ hlt hk hon
        · rw [show acc.getD e.on 0 = 0 by simp [Array.getD, hlt]] at hk
          simp at hk
    · exact hs k hk

theorem befA_spec {ops : Array Oper} {listed : Nat → Bool} (hcl : Closed ops listed) : ∀ (l : List Oper) (acc : Array Nat), ops.toList.drop acc.size = l →
    (∀ (i j : Nat), i < acc.size → (acc.getD i 0).testBit j = true → listed i = true → listed j = true) → ∀ (i j : Nat), ((befA l acc).getD i 0).testBit j = true → listed i = true → listed j = true
  | [], acc, _, hacc, i, j, hj, hi => by
    simp only [befA] at hj
    by_cases hlt : i < acc.size
    · exact hacc i j hlt hj hi
    · rw [show acc.getD i 0 = 0 by simp [Array.getD, hlt]] at hj
      simp at hj
  | o :: l, acc, hl, hacc, i, j, hj, hi => by
    simp only [befA] at hj
    refine befA_spec hcl l (acc.push (befMask o acc)) ?_ ?_ i j hj hi
    · rw [Array.size_push, ← List.drop_drop, hl]; rfl
    · intro i j hi hj hli
      by_cases hlt : i < acc.size
      · have e : (acc.push (befMask o acc)).getD i 0 = acc.getD i 0 := by simp [Array.getD_eq_getD_getElem?, Array.getElem?_push, Nat.ne_of_lt hlt]
        rw [e] at hj
        exact hacc i j hlt hj hli
      · have hieq : i = acc.size := by simp at hi; omega
        have e : (acc.push (befMask o acc)).getD i 0 = befMask o acc := by subst hieq; simp [Array.getD_eq_getD_getElem?]
        rw [e] at hj
        have ho : ops[i]? = some o := by
          have : (ops.toList.drop acc.size)[0]? = some o := by rw [hl]; rfl
          rw [hieq]
          simpa using this
        exact befMask_spec (ops := ops) hacc o.after.toList 0 (by simp) (fun e he hb => hcl i o ho hli e he hb) j hj

/-! ### an order for the virtual interpreter -/
def opds : VOp → List Operand
  | .mv x | .un _ x | .conv _ x | .mvStr x | .eqnilS _ x | .eqnilF _ x | .box _ x | .load _ _ x | .nilchk x | .fld _ x | .fieldv _ _ _ x | .ext x _ | .len x | .lenStr x | .clr _ _ x => [x]
  | .pick a b c => [a, b, c]
  | .bin _ x y | .beq _ x y | .store _ x y | .idx _ x y | .idxStr x y | .mkSl _ _ _ x y | .app _ _ _ x y | .cpy _ x y => [x, y]
  | .alloc _ | .stop => []
  | .build _ ps | .buildSl _ _ ps _ => ps.map (·.2.2)
  | .slc _ x lo hi | .slcStr x lo hi => x :: (lo.toList ++ hi.toList)
  | .minmax _ xs | .call _ xs => xs
  | .callv f xs => f :: xs
  | .mkfn _ a b => a ++ b

def slotsOf (o : VOper) : List Nat := ((opds o.op).filterMap fun | .tmp t => some t | _ => none) ++ (match o.guard with
  | some (g, _) => [g]
  | none => [])

/-- As late as may be. -/
def orderOf (fs : List Nat) (B : Array Nat) (vs : Array VOper) : List Nat :=
  let n := vs.size
  let one := fun (acc : List Nat) (i : Nat) => if acc.contains i then acc else acc ++ [i]
  let withAnc := fun (acc : List Nat) (i : Nat) => one ((List.range n).foldl (fun a j => if (B.getD i 0).testBit j then one a j else a) acc) i
  let effs := (List.range n).filter fun i => !fs.contains i && match vs[i]? with
    | some o => o.op.eff
    | none => false
  let a1 := effs.foldl withAnc []
  (List.range n).foldl one a1

def effI (vs : Array VOper) (i : Nat) : Bool := match vs[i]? with
  | some o => o.op.eff
  | none => false

/-- How many elder heaps are asked. ('fs': the new variables that may come earlier than told here.) -/
def chkOf (fs : List Nat) (B : Array Nat) (vs : Array VOper) (before : List Nat) (i : Nat) : Nat := (before.filter fun j => effI vs j && (fs.contains j || !(B.getD i 0).testBit j)).length

/-- A new variable that only operations with an effect ask for. -/
def fltOK (vs : Array VOper) (i : Nat) : Bool := match vs[i]? with
  | some ⟨some q, .alloc _, none, _⟩ => (List.range vs.size).all fun j => match vs[j]? with
    | some p => !(slotsOf p).contains q || p.op.eff
    | none => true
  | _ => false

def okOrderAt (fs : List Nat) (ops : Array Oper) (B : Array Nat) (vs : Array VOper) (before : List Nat) (i : Nat) : Bool :=
  decide (i < ops.size) && !before.contains i &&
  (match ops[i]? with
    | some o => o.after.toList.all fun e => !Region.binds .any e || (before.contains e.on && decide (e.on < i))
    | none => false) &&
  (!effI vs i || fs.contains i || before.all fun j => (B.getD i 0).testBit j) &&
  (!fs.contains i || fltOK vs i) &&
  (match vs[i]? with
    | some o => (List.range ops.size).all fun j => j == i || (match vs[j]? with
      | some p => (o.dst.isNone || p.dst != o.dst) && (match p.dst with
        | some d => !(slotsOf o).contains d || (B.getD i 0).testBit j || (B.getD j 0).testBit i
        | none => true)
      | none => false)
    | none => false)

def okOrder (fs : List Nat) (ops : Array Oper) (B : Array Nat) (vs : Array VOper) : List Nat → List Nat → Bool
  | _, [] => true
  | before, i :: r => okOrderAt fs ops B vs before i && okOrder fs ops B vs (before ++ [i]) r

def laid (fs : List Nat) (B : Array Nat) (vs : Array VOper) : List Nat → List Nat → List VOper
  | _, [] => []
  | before, i :: r => { vs.getD i ⟨none, .alloc [], none, 0⟩ with chk := chkOf fs B vs before i } :: laid fs B vs (before ++ [i]) r

def compDf (fs : List Nat) (ops : Array Oper) (vs : Array VOper) (B : Array Nat) : Option (List VOper) :=
  let π := orderOf fs B vs
  if vs.size == ops.size && ((List.range ops.size).all fun i => π.contains i) && okOrder fs ops B vs [] π then some (laid fs B vs [] π) else none

def compD (P : Program) (ops : Array Oper) : Option (List VOper) :=
  match compOps P ops ops.toList with
  | none => none
  | some l =>
    let vs := l.toArray
    let B := befA ops.toList #[]
    match compDf [] ops vs B with
    | some os => some os
    | none => compDf ((List.range vs.size).filter (fltOK vs)) ops vs B

end Go.Proofs.YthpgiimaadohcaaDoor.Zv
