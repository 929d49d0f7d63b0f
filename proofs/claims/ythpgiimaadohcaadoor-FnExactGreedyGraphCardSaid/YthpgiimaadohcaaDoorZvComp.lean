/- From the model's code to the intermediate form: what is made is told with its proof obligations met by sight. -/
import Derived.Test.YthpgiimaadohcaaDoorZvRel
namespace Go.Proofs.YthpgiimaadohcaaDoor.Zv
open Go

def okL (xs : Array Operand) : Bool := xs.toList.all okOpd
def okO (x : Option Operand) : Bool := match x with
  | some x => okOpd x
  | none => true

def isAggT (P : Program) (t : TypeId) : Option Bool := match P.underlying t with
  | some (.struct _) | some (.array _ _) => some true
  | some _ => some false
  | none => none

def sizeT (P : Program) (t : TypeId) : Option Nat := (P.info? t).map (·.size)

/-- Where a literal's parts lie. -/
def placesOf (P : Program) (t : TypeId) : Option (Nat → Option (Nat × Nat)) := match P.underlying t with
  | some (.struct fields) => some fun i => match fields[i]? with
    | some f => (sizeT P f.type).map fun n => (f.offset, n)
    | none => none
  | some (.array _ e) => (sizeT P e).map fun n i => some (i * n, n)
  | _ => none

def partsOf (pl : Nat → Option (Nat × Nat)) : List (Nat × Operand) → Option (List (Nat × Nat × Operand))
  | [] => some []
  | (i, x) :: r => match pl i, partsOf pl r with
    | some (off, n), some r' => if okOpd x then some ((off, n, x) :: r') else none
    | _, _ => none

def structSizes (P : Program) (t : TypeId) : Bool := match P.underlying t with
  | some (.struct fields) => fields.all fun f => (sizeT P f.type).isSome
  | _ => true

def zerosOf (P : Program) (t : TypeId) : Option (List Value) := match P.info? t with
  | some i => match i.zero with
    | some z => if closedV z && (z.cells.size == i.size) then some z.cells.toList else none
    | none => none
  | none => none

def elemOf (P : Program) (t : TypeId) : Option TypeId := match P.underlying t with
  | some (.slice e) => some e
  | _ => none

def compCall (P : Program) (c : Call) : Option VOp := match c.callee with
  | .value (.func f) => if okL c.args then some (.call f c.args.toList) else none
  | .value x => if okL c.args && okOpd x then some (.callv x c.args.toList) else none
  | .builtin .len => match c.argTypes.toList, c.args.toList with
    | [t], [x] => if okOpd x then match P.underlying t with
      | some (.slice _) => some (.len x)
      | some .string => some (.lenStr x)
      | _ => none else none
    | _, _ => none
  | .builtin .append => match c.argTypes.toList, c.args.toList with
    | [t, u], [s, x] => if t == u && okOpd s && okOpd x then match elemOf P t with
      | some e => match zerosOf P e, P.info? e with
        | some z, some i => if 1 ≤ i.size && i.bytes ≤ 2 ^ 20 then some (.app i.size i.bytes z s x) else none
        | _, _ => none
      | none => none else none
    | _, _ => none
  | .builtin .clear => match c.argTypes.toList, c.args.toList with
    | [t], [x] => if okOpd x then match elemOf P t with
      | some e => match zerosOf P e, P.info? e with
        | some z, some i => if 1 ≤ i.size then some (.clr i.size z x) else none
        | _, _ => none
      | none => none else none
    | _, _ => none
  | .builtin .copy => match c.argTypes.toList, c.args.toList with
    | [t, u], [x, y] => if t == u && okOpd x && okOpd y then match elemOf P t with
      | some e => match P.info? e with
        | some i => if 1 ≤ i.size then some (.cpy i.size x y) else none
        | none => none
      | none => none else none
    | _, _ => none
  | .builtin .max => if okL c.args then some (.minmax true c.args.toList) else none
  | .builtin .min => if okL c.args then some (.minmax false c.args.toList) else none
  | _ => none

def isNilConst : Operand → Bool
  | .const (.slice none 0 0) => true
  | .const .nilFunc => true
  | _ => false

def compOp (P : Program) (o : Oper) : Option VOp := match o.op with
  | .move x | .assign x => if okOpd x then some (.mv x) else none
  | .pick c a b => if okOpd c && okOpd a && okOpd b then some (.pick c a b) else none
  | .binOp op t x y _ => if okOpd x && okOpd y then
      match op with
      | .eql | .neq => match P.underlying t with
        | some .bool => some (.beq (op matches .neq) x y)
        | some (.int _) | some .string => some (.bin op x y)
        | some (.slice _) => match y with
          | .const (.slice none 0 0) => some (.eqnilS (op matches .neq) x)
          | _ => none
        | some (.func ..) => match y with
          | .const .nilFunc => some (.eqnilF (op matches .neq) x)
          | _ => none
        | _ => none
      | _ => some (.bin op x y)
    else none
  | .unOp op _ x => if okOpd x then some (.un op x) else none
  | .convert a b x => if okOpd x then match P.underlying a, P.underlying b with
      | some _, some (.int k) => some (.conv k x)
      | some .string, some .string => some (.mvStr x)
      | _, _ => none else none
  | .box t x => if okOpd x then match sizeT P t with
      | some n => some (.box n x)
      | none => none else none
  | .alloc t => match zerosOf P t with
    | some z => some (.alloc z)
    | none => none
  | .build t parts => match zerosOf P t, placesOf P t with
    | some z, some pl => if structSizes P t then (partsOf pl parts.toList).map (.build z ·) else none
    | _, _ => none
  | .buildSlice t n parts => match elemOf P t with
    | some e => match zerosOf P e, P.info? e with
      | some z, some i => if 1 ≤ i.size && n * i.size ≤ 2 ^ 24 then (partsOf (fun j => some (j * i.size, i.size)) parts.toList).map fun ps => .buildSl i.size (List.replicate n z).flatten ps n else none
      | _, _ => none
    | none => none
  | .load t p => if okOpd p then match isAggT P t, sizeT P t with
      | some true, some n => some (.load true n p)
      | some false, some 1 => some (.load false 1 p)
      | _, _ => none else none
  | .store t p x => if okOpd p && okOpd x then match sizeT P t with
      | some n => some (.store n p x)
      | none => none else none
  | .nilCheck x => if okOpd x then some (.nilchk x) else none
  | .makeFunc (.func f) first caps => if okL first && okL caps then some (.mkfn f first.toList caps.toList) else none
  | .makeSlice t l c => if okOpd l && okOpd c then match elemOf P t with
    | some e => match zerosOf P e, P.info? e with
      | some z, some i => if 1 ≤ i.size && i.size ≤ 2 ^ 20 then some (.mkSl i.size z i.bytes l c) else none
      | _, _ => none
    | none => none else none
  | .slice t x lo hi none => if okOpd x && okO lo && okO hi then match P.underlying t with
      | some (.slice e) => match sizeT P e with
        | some n => if 1 ≤ n then some (.slc n x lo hi) else none
        | none => none
      | some .string => some (.slcStr x lo hi)
      | _ => none else none
  | .fieldAddr t p f => if okOpd p then match P.underlying t with
      | some (.struct fields) => match fields[f]? with
        | some fd => match sizeT P fd.type with
          | some n => if 1 ≤ n then some (.fld fd.offset p) else none
          | none => none
        | none => none
      | _ => none else none
  | .field t x f => if okOpd x then match P.underlying t with
      | some (.struct fields) => match fields[f]? with
        | some fd => match isAggT P fd.type, sizeT P fd.type with
          | some true, some n => some (.fieldv true fd.offset n x)
          | some false, some 1 => some (.fieldv false fd.offset 1 x)
          | _, _ => none
        | none => none
      | _ => none else none
  | .indexAddr t s i => if okOpd s && okOpd i then match P.underlying t with
      | some (.slice e) => match sizeT P e with
        | some n => if 1 ≤ n then some (.idx n s i) else none
        | none => none
      | _ => none else none
  | .index t s i => if okOpd s && okOpd i then match P.underlying t with
      | some .string => some (.idxStr s i)
      | _ => none else none
  | .extract x i => if okOpd x then some (.ext x i) else none
  | .call c => compCall P c
  | .makeInterface _ _ => some .stop
  | .panic _ => some .stop
  | _ => none

/-- A guard by the place of what it asks. -/
def compGuard (ops : Array Oper) : Option (Nat × Bool) → Option (Option (Nat × Bool))
  | none => some none
  | some (j, want) => match (ops[j]?).bind (·.dst) with
    | some d => some (some (d, want))
    | none => none

def compOper (P : Program) (ops : Array Oper) (o : Oper) : Option VOper :=
  match compOp P o, compGuard ops o.guard with
  | some op, some g => some { dst := o.dst, op := op, guard := g }
  | _, _ => none

def compOps (P : Program) (ops : Array Oper) : List Oper → Option (List VOper)
  | [] => some []
  | o :: r => match compOper P ops o, compOps P ops r with
    | some v, some vs => some (v :: vs)
    | _, _ => none

def compRes (P : Program) : ResultVar → Option VR
  | .tmp t => some (.tmp t)
  | .cell t ty => match isAggT P ty, sizeT P ty with
    | some true, some n => some (.cell t true n)
    | some false, some 1 => some (.cell t false 1)
    | _, _ => none

def compResL (P : Program) : List ResultVar → Option (List VR)
  | [] => some []
  | r :: rs => match compRes P r, compResL P rs with
    | some v, some vs => some (v :: vs)
    | _, _ => none

end Go.Proofs.YthpgiimaadohcaaDoor.Zv
