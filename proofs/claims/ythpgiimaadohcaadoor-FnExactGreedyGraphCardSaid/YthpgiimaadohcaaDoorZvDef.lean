/- The virtual interpreter: an intermediate form of the model's code, and what it computes over a heap of objects. -/
import Derived.Orders
namespace Go.Proofs.YthpgiimaadohcaaDoor.Zv
open Go

/-- An object: how many cells an element of it takes (0: a variable, which never grows), and its cells. -/
structure VO where
  sz : Nat
  cells : List Value
abbrev VH := List VO

/-- What nothing is known of. -/
def junk : Value := .chan none
def isJunk : Value → Bool
  | .chan _ => true
  | .tuple _ => true
  | _ => false

inductive VOp where
  | mv (x : Operand)
  | pick (c a b : Operand)
  | bin (op : BinOp) (x y : Operand)
  | beq (neg : Bool) (x y : Operand)
  | eqnilS (neg : Bool) (x : Operand)
  | eqnilF (neg : Bool) (x : Operand)
  | mvStr (x : Operand)
  | un (op : UnOp) (x : Operand)
  | conv (k : IntKind) (x : Operand)
  | box (n : Nat) (x : Operand)
  | alloc (zero : List Value)
  | build (zero : List Value) (parts : List (Nat × Nat × Operand))
  | buildSl (sz : Nat) (zero : List Value) (parts : List (Nat × Nat × Operand)) (len : Nat)
  | load (agg : Bool) (n : Nat) (p : Operand)
  | store (n : Nat) (p x : Operand)
  | nilchk (x : Operand)
  | fld (off : Nat) (p : Operand)
  | fieldv (agg : Bool) (off n : Nat) (x : Operand)
  | idx (sz : Nat) (s i : Operand)
  | idxStr (s i : Operand)
  | mkSl (sz : Nat) (zero : List Value) (bytes : Nat) (l c : Operand)
  | slc (sz : Nat) (x : Operand) (lo hi : Option Operand)
  | slcStr (x : Operand) (lo hi : Option Operand)
  | ext (x : Operand) (i : Nat)
  | len (x : Operand)
  | lenStr (x : Operand)
  | app (sz bytes : Nat) (zero : List Value) (s x : Operand)
  | minmax (mx : Bool) (xs : List Operand)
  | call (f : Nat) (args : List Operand)
  | callv (f : Operand) (args : List Operand)
  | mkfn (f : Nat) (first caps : List Operand)
  | clr (sz : Nat) (zero : List Value) (x : Operand)
  | cpy (sz : Nat) (x y : Operand)
  | stop

structure VOper where
  dst : Option Nat
  op : VOp
  guard : Option (Nat × Bool) := none
  chk : Nat := 0

inductive VC where
  | skip
  | ops (os : List VOper)
  | dops (os : List VOper)
  | seq (a b : VC)
  | cond (x : Operand) (a b : VC)
  | block (id : Nat) (c : VC)
  | loop (mask : List Bool) (c : VC)
  | keep (mask : List Bool) (c : VC)
  | exit (id : Nat)
  | ret

inductive VR where
  | tmp (t : Nat)
  | cell (t : Nat) (agg : Bool) (n : Nat)

structure VF where
  ntmps : Nat
  res : List VR
  body : VC

inductive VX where
  | normal
  | exit (id : Nat)
  | ret
 deriving DecidableEq

def isAtom : Value → Bool
  | .agg _ | .tuple _ | .func .. => false
  | _ => true

/-! ### references -/
def arefs : Value → List Nat
  | .pointer (some a) => [a.block]
  | .slice (some a) _ _ => [a.block]
  | _ => []
def crefs : Value → List Nat
  | .func _ a c => a.toList.flatMap arefs ++ c.toList.flatMap arefs
  | v => arefs v
def vrefs : Value → List Nat
  | .agg cs => cs.toList.flatMap crefs
  | v => crefs v
def trefs : Value → List Nat
  | .tuple vs => vs.toList.flatMap vrefs
  | v => vrefs v
def orefs (o : VO) : List Nat := o.cells.flatMap crefs

def aren (r : Nat → Nat) : Value → Value
  | .pointer (some a) => .pointer (some { a with block := r a.block })
  | .slice (some a) n c => .slice (some { a with block := r a.block }) n c
  | v => v
def cren (r : Nat → Nat) : Value → Value
  | .func f a c => .func f (a.map (aren r)) (c.map (aren r))
  | v => aren r v
def vren (r : Nat → Nat) : Value → Value
  | .agg cs => .agg (cs.map (cren r))
  | v => cren r v
def tren (r : Nat → Nat) : Value → Value
  | .tuple vs => .tuple (vs.map (vren r))
  | v => vren r v

/-- The new number of a kept object. -/
def renOf (base : Nat) (L : List Nat) (i : Nat) : Nat := if i < base then i else base + L.idxOf i

/-- No object below base leads to one from base on, but for what lay there before. -/
def okT (base : Nat) (h0 t : VH) : Prop := ∀ (i : Nat) (o : VO), t[i]? = some o → h0[i]? = some o ∨ ∀ r ∈ orefs o, r < base

def dedup : List Nat → List Nat
  | [] => []
  | x :: xs => if x ∈ dedup xs then dedup xs else x :: dedup xs

def keepL (base : Nat) (vs : List Value) : List Nat := dedup ((vs.flatMap trefs).filter (fun i => decide (base ≤ i)))

/-- The objects to be kept lead to none from base on. -/
def flatL (base : Nat) (L : List Nat) (h : VH) : Prop := ∀ i ∈ L, ∃ o, h[i]? = some o ∧ ∀ r ∈ orefs o, r < base

open Classical in
/-- Garbage is dropped: of the objects from base on those stay that the values lead to. -/
noncomputable def cleanup (base : Nat) (h0 : VH) (vs : List Value) (h : VH) : List Value × VH :=
  if okT base h0 (h.take base) ∧ flatL base (keepL base vs) h then
    (vs.map (tren (renOf base (keepL base vs))), h.take base ++ (keepL base vs).filterMap (fun i => h[i]?))
  else (vs, h)

/-! ### operations -/
def vbin (op : BinOp) : Value → Value → Option Value
  | .int k a, .int k' b =>
    match op with
    | .shl => if b < 0 then none else some (.int k (k.wrap (a * 2 ^ (min b.toNat k.bits))))
    | .shr => if b < 0 then none else some (.int k (a.fdiv (2 ^ (min b.toNat k.bits))))
    | _ =>
      if k = k' then
        match op with
        | .add => some (.int k (k.wrap (a + b)))
        | .sub => some (.int k (k.wrap (a - b)))
        | .mul => some (.int k (k.wrap (a * b)))
        | .quo => if b = 0 then none else some (.int k (k.wrap (a.tdiv b)))
        | .rem => if b = 0 then none else some (.int k (a.tmod b))
        | .and => some (.int k (k.wrap (BitVec.ofInt k.bits a &&& BitVec.ofInt k.bits b).toNat))
        | .or => some (.int k (k.wrap (BitVec.ofInt k.bits a ||| BitVec.ofInt k.bits b).toNat))
        | .xor => some (.int k (k.wrap (BitVec.ofInt k.bits a ^^^ BitVec.ofInt k.bits b).toNat))
        | .andNot => some (.int k (k.wrap (BitVec.ofInt k.bits a &&& ~~~ BitVec.ofInt k.bits b).toNat))
        | .eql => some (.bool (a == b))
        | .neq => some (.bool (a != b))
        | .lss => some (.bool (decide (a < b)))
        | .leq => some (.bool (decide (a ≤ b)))
        | .gtr => some (.bool (decide (a > b)))
        | .geq => some (.bool (decide (a ≥ b)))
        | _ => none
      else none
  | .string a, .string b =>
    match op with
    | .add => if a.size + b.size ≤ 2 ^ 60 then some (.string (a ++ b)) else none
    | .eql => some (.bool (a.toList == b.toList))
    | .neq => some (.bool !(a.toList == b.toList))
    | .lss => some (.bool (Op.bytesLess a.toList b.toList))
    | .leq => some (.bool (Op.bytesLess a.toList b.toList || a.toList == b.toList))
    | .gtr => some (.bool !(Op.bytesLess a.toList b.toList || a.toList == b.toList))
    | .geq => some (.bool !(Op.bytesLess a.toList b.toList))
    | _ => none
  | _, _ => none

def vbeq (neg : Bool) : Value → Value → Option Value
  | .bool a, .bool b => some (.bool (if neg then !(a == b) else a == b))
  | _, _ => none

def vun (op : UnOp) : Value → Option Value
  | .bool b => match op with
    | .not => some (.bool !b)
    | _ => none
  | .int k n => match op with
    | .neg => some (.int k (k.wrap (0 - n)))
    | .xor => some (.int k (k.wrap (BitVec.ofInt k.bits (if k.signed = true then -1 else k.max) ^^^ BitVec.ofInt k.bits n).toNat))
    | _ => none
  | _ => none

/-- The cells of a stretch of an object. -/
def vget (h : VH) (a : Addr) (n : Nat) : Option (List Value) :=
  match h[a.block]? with
  | some o => if a.spot = some o.cells.length ∧ a.off + n ≤ o.cells.length then some ((o.cells.drop a.off).take n) else none
  | none => none

/-- Is the address still told right? -/
def vlive (h : VH) (a : Addr) : Bool := match h[a.block]? with
  | some o => a.spot == some o.cells.length
  | none => false

def splice (k : Nat) (vs cs : List Value) : List Value := cs.take k ++ vs ++ cs.drop (k + vs.length)

/-- What a load of an address tells. -/
def vload (agg : Bool) (n : Nat) (h : VH) : Value → Option Value
  | .pointer (some a) => match vget h a n with
    | some cs => if agg then some (.agg cs.toArray) else match cs with
      | [v] => some v
      | _ => none
    | none => none
  | _ => none

def vcells (v : Value) : List Value := v.cells.toList

def vstore (nro n : Nat) (h : VH) (p x : Value) : Option VH :=
  match p with
  | .pointer (some a) =>
    match h[a.block]? with
    | some o =>
      if nro ≤ a.block ∧ a.spot = some o.cells.length ∧ a.off + n ≤ o.cells.length ∧ (vcells x).length = n ∧ (vcells x).all (fun v => !isJunk v) = true then
        some (h.set a.block { o with cells := splice a.off (vcells x) o.cells })
      else none
    | none => none
  | _ => none

/-- A literal's parts, laid over its zero cells. -/
def vfill : List Value → List (Nat × Nat × Value) → Option (List Value)
  | cs, [] => some cs
  | cs, (off, n, v) :: ps => if (vcells v).length = n ∧ off + n ≤ cs.length ∧ (vcells v).all (fun v => !isJunk v) = true then vfill (splice off (vcells v) cs) ps else none

def vslice (sz : Nat) (h : VH) (x : Value) (lo hi : Option Value) : Option Value :=
  match x with
  | .slice none 0 0 =>
    match lo.getD (.int .i64 0), hi.getD (.int .i64 0) with
    | .int _ 0, .int _ 0 => some (.slice none 0 0)
    | _, _ => none
  | .slice (some a) n tot =>
    match h[a.block]? with
    | some o =>
      if o.sz = sz ∧ tot = o.cells.length then
        match lo.getD (.int .i64 0), hi.getD (.int .i64 n) with
        | .int _ l, .int _ u => if 0 ≤ l ∧ l ≤ u ∧ u ≤ n then some (.slice (some { a with off := a.off + l.toNat * sz }) (u.toNat - l.toNat) tot) else none
        | _, _ => none
      else none
    | none => none
  | _ => none

def vsliceStr (x : Value) (lo hi : Option Value) : Option Value :=
  match x with
  | .string s =>
    match lo.getD (.int .i64 0), hi.getD (.int .i64 s.size) with
    | .int _ l, .int _ u => if 0 ≤ l ∧ l ≤ u ∧ u ≤ s.size then some (.string (s.extract l.toNat u.toNat)) else none
    | _, _ => none
  | _ => none

/-- The cells of a slice's elements (of a string: its bytes), and how many elements. -/
def vsrc (sz : Nat) (h : VH) : Value → Option (List Value × Nat)
  | .slice none 0 0 => some ([], 0)
  | .slice none 0 1 => some ([], 0)
  | .slice (some a) n tot =>
    match h[a.block]? with
    | some o => if o.sz = sz ∧ tot = o.cells.length ∧ a.off + n * sz ≤ tot then some ((o.cells.drop a.off).take (n * sz), n) else none
    | none => none
  | _ => none

def vappend (nro sz bytes : Nat) (h : VH) (s x : Value) : Option (Value × VH) :=
  match vsrc sz h x with
  | none => none
  | some (cs, m) =>
    if cs.all (fun v => !isJunk v) = true ∧ 1 ≤ sz then
      match s with
      | .slice none 0 0 =>
        if m = 0 then some (.slice none 0 0, h)
        else if m * bytes ≤ 2 ^ 40 ∧ m ≤ 2 ^ 40 then some (.slice (some ⟨h.length, 0, none⟩) m cs.length, h ++ [⟨sz, cs⟩]) else none
      | .slice (some a) n tot =>
        match h[a.block]? with
        | some o =>
          if nro ≤ a.block ∧ o.sz = sz ∧ tot = o.cells.length ∧ a.off = 0 ∧ n * sz = tot ∧ (n + m) * bytes ≤ 2 ^ 40 ∧ n + m ≤ 2 ^ 40 then
            some (.slice (some a) (n + m) (tot + cs.length), h.set a.block { o with cells := o.cells ++ cs })
          else none
        | none => none
      | _ => none
    else none

def vminmax2 (mx : Bool) : Value → Value → Option Value
  | .int k a, .int k' b => if k = k' then some (.int k (if mx then (if b > a then b else a) else (if b < a then b else a))) else none
  | _, _ => none
def vminmaxL (mx : Bool) (x : Value) : List Value → Option Value
  | [] => some x
  | y :: r => match vminmax2 mx x y with
    | some z => vminmaxL mx z r
    | none => none
def vminmax (mx : Bool) : List Value → Option Value
  | x :: y :: r => vminmaxL mx x (y :: r)
  | _ => none

def vev (env : List Value) : Operand → Value
  | .tmp t => env.getD t undef
  | .const v => v
  | .global _ => junk
  | .func f => .func (.func f) #[] #[]

/-- A slice's elements become zero. -/
def vclear (nro sz : Nat) (z : List Value) (h : VH) : Value → Option (Value × VH)
  | .slice none 0 0 => some (.tuple #[], h)
  | .slice none 0 1 => some (.tuple #[], h)
  | .slice (some a) n tot =>
    match h[a.block]? with
    | some o =>
      if o.sz = sz ∧ tot = o.cells.length then
        (if n = 0 then some (.tuple #[], h)
        else if nro ≤ a.block ∧ a.off + n * sz ≤ tot ∧ z.length = sz ∧ z.all (fun v => !isJunk v) = true then some (.tuple #[], h.set a.block { o with cells := splice a.off (List.replicate n z).flatten o.cells })
        else none)
      else none
    | none => none
  | _ => none

/-- A slice's elements are copied into another. -/
def vcopy (nro sz : Nat) (h : VH) (x y : Value) : Option (Value × VH) :=
  match vsrc sz h y with
  | none => none
  | some (cs, m) => match x with
    | .slice none 0 0 => some (.int .i64 0, h)
    | .slice none 0 1 => some (.int .i64 0, h)
    | .slice (some a) n tot =>
      match h[a.block]? with
      | some o =>
        if o.sz = sz ∧ tot = o.cells.length ∧ cs.length = m * sz then
          (if min m n = 0 then some (.int .i64 0, h)
          else if nro ≤ a.block ∧ a.off + min m n * sz ≤ tot ∧ 1 ≤ sz ∧ cs.all (fun v => !isJunk v) = true then
            some (.int .i64 ((min m n : Nat) : Int), h.set a.block { o with cells := splice a.off (cs.take (min m n * sz)) o.cells })
          else none)
        else none
      | none => none
    | _ => none

abbrev VCall := Nat → List Value → VH → Option (Value × VH)

def vop (call : VCall) (nro : Nat) (ev : Operand → Value) (h : VH) : VOp → Option (Value × VH)
  | .mv x => some (ev x, h)
  | .pick c a b => match ev c with
    | .bool t => some (if t then ev a else ev b, h)
    | _ => none
  | .bin op x y => (vbin op (ev x) (ev y)).map (·, h)
  | .beq neg x y => (vbeq neg (ev x) (ev y)).map (·, h)
  | .eqnilS neg x => match ev x with
    | .slice none 0 0 => some (.bool !neg, h)
    | .slice (some a) _ tot => match h[a.block]? with
      | some o => if tot = o.cells.length then some (.bool neg, h) else none
      | none => none
    | _ => none
  | .eqnilF neg x => match ev x with
    | .nilFunc => some (.bool !neg, h)
    | .func .. => some (.bool neg, h)
    | _ => none
  | .mvStr x => match ev x with
    | .string s => some (.string s, h)
    | _ => none
  | .un op x => (vun op (ev x)).map (·, h)
  | .conv k x => match ev x with
    | .int _ n => some (.int k (k.wrap n), h)
    | _ => none
  | .box n x => if (vcells (ev x)).length = n ∧ isJunk (ev x) = false then some (.pointer (some ⟨h.length, 0, some n⟩), h ++ [⟨0, vcells (ev x)⟩]) else none
  | .alloc zero => some (.pointer (some ⟨h.length, 0, some zero.length⟩), h ++ [⟨0, zero⟩])
  | .build zero parts => (vfill zero (parts.map fun p => (p.1, p.2.1, ev p.2.2))).map fun cs => (.agg cs.toArray, h)
  | .buildSl sz zero parts n => (vfill zero (parts.map fun p => (p.1, p.2.1, ev p.2.2))).map fun cs => (.slice (some ⟨h.length, 0, none⟩) n zero.length, h ++ [⟨sz, cs⟩])
  | .load agg n p => (vload agg n h (ev p)).map (·, h)
  | .store n p x => (vstore nro n h (ev p) (ev x)).map (undef, ·)
  | .nilchk x => match ev x with
    | .pointer (some a) => if vlive h a = true then some (.pointer (some a), h) else none
    | .func (.func f) a c => some (.func (.func f) a c, h)
    | _ => none
  | .fld off p => match ev p with
    | .pointer (some a) => if vlive h a = true then some (.pointer (some { a with off := a.off + off }), h) else none
    | _ => none
  | .fieldv agg off n x => match ev x with
    | .agg cs => if off + n ≤ cs.size then (if agg then some (.agg (cs.extract off (off + n)), h) else match cs[off]? with
      | some v => some (v, h)
      | none => none) else none
    | _ => none
  | .idx sz s i => match ev s, ev i with
    | .slice (some a) n tot, .int _ j =>
      match h[a.block]? with
      | some o => if o.sz = sz ∧ tot = o.cells.length ∧ 0 ≤ j ∧ j < n then some (.pointer (some ⟨a.block, a.off + j.toNat * sz, some tot⟩), h) else none
      | none => none
    | _, _ => none
  | .idxStr s i => match ev s, ev i with
    | .string s, .int _ j => match (if 0 ≤ j then s[j.toNat]? else none) with
      | some b => some (.int .u8 b.toNat, h)
      | none => none
    | _, _ => none
  | .mkSl sz zero bytes l c => match ev l, ev c with
    | .int .i64 n, .int .i64 m => if n = m ∧ 0 ≤ n ∧ bytes * n ≤ 2 ^ 47 ∧ n ≤ 2 ^ 47 then some (.slice (some ⟨h.length, 0, none⟩) n.toNat (n.toNat * sz), h ++ [⟨sz, (List.replicate n.toNat zero).flatten⟩]) else none
    | _, _ => none
  | .slc sz x lo hi => (vslice sz h (ev x) (lo.map ev) (hi.map ev)).map (·, h)
  | .slcStr x lo hi => (vsliceStr (ev x) (lo.map ev) (hi.map ev)).map (·, h)
  | .ext x i => match ev x with
    | .tuple vs => match vs[i]? with
      | some v => some (v, h)
      | none => none
    | _ => none
  | .len x => match ev x with
    | .slice none 0 0 => some (.int .i64 0, h)
    | .slice none 0 1 => some (.int .i64 0, h)
    | .slice (some a) n tot => match h[a.block]? with
      | some o => if tot = o.cells.length then some (.int .i64 n, h) else none
      | none => none
    | _ => none
  | .lenStr x => match ev x with
    | .string s => some (.int .i64 s.size, h)
    | _ => none
  | .app sz bytes _ s x => vappend nro sz bytes h (ev s) (ev x)
  | .minmax mx xs => (vminmax mx (xs.map ev)).map (·, h)
  | .call f args => call f (args.map ev) h
  | .callv f args => match ev f with
    | .func (.func g) first caps => call g (first.toList ++ args.map ev ++ caps.toList) h
    | _ => none
  | .mkfn f first caps => if (first.map ev).all isAtom && (caps.map ev).all isAtom then some (.func (.func f) (first.map ev).toArray (caps.map ev).toArray, h) else none
  | .clr sz z x => vclear nro sz z h (ev x)
  | .cpy sz x y => vcopy nro sz h (ev x) (ev y)
  | .stop => none

def vput (env : List Value) : Option Nat → Value → List Value
  | some d, v => env.set d v
  | none, _ => env

/-- Is an operation carried out? -/
def vwanted (env : List Value) : Option (Nat × Bool) → Option Bool
  | none => some true
  | some (g, want) => match env.getD g undef with
    | .bool b => some (b == want)
    | .tuple vs => if vs.size = 0 then some false else none
    | _ => none

def vops (call : VCall) (nro : Nat) : List VOper → List Value → VH → Option (List Value × VH)
  | [], env, h => some (env, h)
  | o :: os, env, h =>
    match vwanted env o.guard with
    | some true => match vop call nro (vev env) h o.op with
      | some (v, h') => vops call nro os (vput env o.dst v) h'
      | none => none
    | some false => vops call nro os (vput env o.dst undef) h
    | none => none

/-- Does an operation write the heap, or make something in it? -/
def VOp.eff : VOp → Bool
  | .box .. | .alloc .. | .buildSl .. | .mkSl .. | .store .. | .app .. | .call .. | .callv .. | .clr .. | .cpy .. | .stop => true
  | _ => false

open Classical in
/-- A region whose order is open: beside it the elder heaps of the region; what reads has to read the same there. -/
noncomputable def vdops (call : VCall) (nro : Nat) : List VOper → List Value → VH → List VH → Option (List Value × VH)
  | [], env, h, _ => some (env, h)
  | o :: os, env, h, hs =>
    match vwanted env o.guard with
    | some true => match vop call nro (vev env) h o.op with
      | some (v, h') =>
        if o.op.eff = true then vdops call nro os (vput env o.dst v) h' (h :: hs)
        else if ∀ g ∈ hs.take o.chk, vop call nro (vev env) g o.op = some (v, g) then vdops call nro os (vput env o.dst v) h' hs else none
      | none => none
    | some false => vdops call nro os (vput env o.dst undef) h (if o.op.eff = true then h :: hs else hs)
    | none => none

/-! ### code -/
def maskEnv : List Bool → List Value → List Value
  | b :: bs, v :: vs => (if b then v else junk) :: maskEnv bs vs
  | [], vs => vs.map fun _ => junk
  | _, [] => []

noncomputable def iter {α β : Type} (f : α → Option (α ⊕ β)) (a : α) : Option β :=
  match f a with
  | none => none
  | some (.inl a') => iter f a'
  | some (.inr b) => some b
 partial_fixpoint

noncomputable def vcode (call : VCall) (nro : Nat) : VC → List Value → VH → Option (VX × List Value × VH)
  | .skip, env, h => some (.normal, env, h)
  | .ops os, env, h => match vops call nro os env h with
    | some (env', h') => some (.normal, env', h')
    | none => none
  | .dops os, env, h => match vdops call nro os env h [] with
    | some (env', h') => some (.normal, env', h')
    | none => none
  | .seq a b, env, h => match vcode call nro a env h with
    | some (.normal, env', h') => vcode call nro b env' h'
    | r => r
  | .cond x a b, env, h => match vev env x with
    | .bool true => vcode call nro a env h
    | .bool false => vcode call nro b env h
    | _ => none
  | .block id c, env, h => match vcode call nro c env h with
    | some (.exit id', env', h') => if id' = id then some (.normal, env', h') else some (.exit id', env', h')
    | r => r
  | .loop mask c, env, h =>
    iter (fun s : List Value × VH => match vcode call nro c s.1 s.2 with
      | some (.normal, env', h') => some (.inl (cleanup h.length h (maskEnv mask env') h'))
      | some r => some (.inr r)
      | none => none) (maskEnv mask env, h)
  | .keep mask c, env, h => vcode call nro c (maskEnv mask env) h
  | .exit id, env, h => some (.exit id, env, h)
  | .ret, env, h => some (.ret, env, h)

def notTup : Value → Bool
  | .tuple _ => false
  | _ => true

def vres1 (env : List Value) (h : VH) : VR → Option Value
  | .tmp t => some (env.getD t undef)
  | .cell t agg n => vload agg n h (env.getD t undef)

def vresL (env : List Value) (h : VH) : List VR → Option (List Value)
  | [] => some []
  | r :: rs => match vres1 env h r, vresL env h rs with
    | some v, some vs => some (v :: vs)
    | _, _ => none

def vresults (env : List Value) (h : VH) (rs : List VR) : Option Value :=
  match vresL env h rs with
  | some [v] => some v
  | some vs => if vs.all notTup = true then some (.tuple vs.toArray) else none
  | none => none

def env0 (fn : VF) (args : List Value) : List Value := args ++ List.replicate (fn.ntmps - args.length) undef

noncomputable def vbody (call : VCall) (nro : Nat) (fn : VF) (args : List Value) (h : VH) : Option (Value × VH) :=
  match vcode call nro fn.body (env0 fn args) h with
  | some (.exit _, _, _) => none
  | some (_, env, h') => match vresults env h' fn.res with
    | some v => some (((cleanup h.length h [v] h').1).getD 0 undef, (cleanup h.length h [v] h').2)
    | none => none
  | none => none

/-- What is known of a function: its code, or what it computes. -/
inductive Ent where
  | ir (fn : VF)
  | ext (g : List Value → VH → Option (Value × VH))

/-! ### more known of the callees: the same -/
def CallLe (c c' : VCall) : Prop := ∀ f as h r, c f as h = some r → c' f as h = some r

theorem iter_le {α β : Type} {f f' : α → Option (α ⊕ β)} (hf : ∀ a r, f a = some r → f' a = some r) (a : α) (b : β) (h : iter f a = some b) : iter f' a = some b := by
  refine iter.partial_correctness f (fun a b => iter f' a = some b) ?_ a b h
  intro it ih a b hab
  cases hfa : f a with
  | none => rw [hfa] at hab; cases hab
  | some r =>
    rw [hfa] at hab
    rw [iter, hf _ _ hfa]
    cases r with
    | inl a' => exact ih _ _ hab
    | inr b' => exact hab

theorem vop_le {c c' : VCall} (hc : CallLe c c') (nro : Nat) (ev : Operand → Value) (h : VH) (op : VOp) (r : Value × VH) (hr : vop c nro ev h op = some r) : vop c' nro ev h op = some r := by
  cases op
  case call f args => exact hc _ _ _ _ hr
  case callv f args =>
    simp only [vop] at hr ⊢
    split at hr
    · exact hc _ _ _ _ hr
    · cases hr
  all_goals exact hr

theorem vops_le {c c' : VCall} (hc : CallLe c c') (nro : Nat) : ∀ (os : List VOper) (env : List Value) (h : VH) (r : List Value × VH), vops c nro os env h = some r → vops c' nro os env h = some r
  | [], _, _, _, hr => hr
  | o :: os, env, h, r, hr => by
    simp only [vops] at hr ⊢
    split at hr
    · split at hr
      · rename_i v h' hv
        rw [vop_le hc _ _ _ _ _ hv]
        exact vops_le hc nro os _ _ _ hr
      · cases hr
    · exact vops_le hc nro os _ _ _ hr
    · cases hr

theorem vdops_le {c c' : VCall} (hc : CallLe c c') (nro : Nat) : ∀ (os : List VOper) (env : List Value) (h : VH) (hs : List VH) (r : List Value × VH), vdops c nro os env h hs = some r → vdops c' nro os env h hs = some r
  | [], _, _, _, _, hr => hr
  | o :: os, env, h, hs, r, hr => by
    simp only [vdops] at hr ⊢
    split at hr
    · split at hr
      · rename_i v h' hv
        simp only [vop_le hc _ _ _ _ _ hv]
        split at hr
        · rename_i he
          rw [if_pos he]
          exact vdops_le hc nro os _ _ _ _ hr
        · rename_i he
          rw [if_neg he]
          split at hr
          · rename_i hh
            rw [if_pos fun g hg => vop_le hc _ _ _ _ _ (hh g hg)]
            exact vdops_le hc nro os _ _ _ _ hr
          · cases hr
      · cases hr
    · exact vdops_le hc nro os _ _ _ _ hr
    · cases hr

theorem vcode_le {c c' : VCall} (hc : CallLe c c') (nro : Nat) : ∀ (x : VC) (env : List Value) (h : VH) (r : VX × List Value × VH), vcode c nro x env h = some r → vcode c' nro x env h = some r
  | .skip, _, _, _, hr => hr
  | .ops os, env, h, r, hr => by
    simp only [vcode] at hr ⊢
    split at hr
    · rename_i hv; rw [vops_le hc nro _ _ _ _ hv]; exact hr
    · cases hr
  | .dops os, env, h, r, hr => by
    simp only [vcode] at hr ⊢
    split at hr
    · rename_i hv; rw [vdops_le hc nro _ _ _ _ _ hv]; exact hr
    · cases hr
  | .seq a b, env, h, r, hr => by
    simp only [vcode] at hr ⊢
    split at hr
    · rename_i hv
      rw [vcode_le hc nro a _ _ _ hv]
      exact vcode_le hc nro b _ _ _ hr
    · rename_i hn
      cases hv : vcode c nro a env h with
      | none => rw [hv] at hr; cases hr
      | some q =>
        rw [vcode_le hc nro a _ _ _ hv]
        rw [hv] at hr
        obtain ⟨e, env', h'⟩ := q
        cases e with
        | normal => exact absurd hv (hn _ _)
        | exit _ => exact hr
        | ret => exact hr
  | .cond x a b, env, h, r, hr => by
    simp only [vcode] at hr ⊢
    split at hr
    · exact vcode_le hc nro a _ _ _ hr
    · exact vcode_le hc nro b _ _ _ hr
    · cases hr
  | .block id x, env, h, r, hr => by
    simp only [vcode] at hr ⊢
    cases hv : vcode c nro x env h with
    | none => rw [hv] at hr; cases hr
    | some q => rw [vcode_le hc nro x _ _ _ hv]; rw [hv] at hr; exact hr
  | .loop mask x, env, h, r, hr => by
    simp only [vcode] at hr ⊢
    refine iter_le (fun s q hq => ?_) _ _ hr
    cases hv : vcode c nro x s.1 s.2 with
    | none => rw [hv] at hq; cases hq
    | some p => rw [vcode_le hc nro x _ _ _ hv]; rw [hv] at hq; exact hq
  | .keep mask x, env, h, r, hr => by
    simp only [vcode] at hr ⊢
    exact vcode_le hc nro x _ _ _ hr
  | .exit _, _, _, _, hr => hr
  | .ret, _, _, _, hr => hr

theorem vbody_le {c c' : VCall} (hc : CallLe c c') (nro : Nat) (fn : VF) (args : List Value) (h : VH) (r : Value × VH) (hr : vbody c nro fn args h = some r) : vbody c' nro fn args h = some r := by
  unfold vbody at hr ⊢
  cases hv : vcode c nro fn.body (env0 fn args) h with
  | none => rw [hv] at hr; cases hr
  | some q => rw [vcode_le hc nro _ _ _ _ hv]; rw [hv] at hr; exact hr

/-- One step of a call. -/
noncomputable def vstep (F : Nat → Option Ent) (nro : Nat) (c : VCall) : VCall := fun f args h =>
  match F f with
  | some (.ir fn) => vbody c nro fn args h
  | some (.ext g) => g args h
  | none => none

theorem vstep_le {c c' : VCall} (hc : CallLe c c') (F : Nat → Option Ent) (nro : Nat) : CallLe (vstep F nro c) (vstep F nro c') := by
  intro f args h r hr
  unfold vstep at hr ⊢
  split at hr
  · exact vbody_le hc _ _ _ _ _ hr
  · exact hr
  · cases hr

/-- What a call of a function computes. -/
noncomputable def vcall (F : Nat → Option Ent) (nro : Nat) (f : Nat) (args : List Value) (h : VH) : Option (Value × VH) :=
  vstep F nro (fun g as h' => vcall F nro g as h') f args h
 partial_fixpoint monotonicity by
  intro x y hxy f args h
  have hc : CallLe x y := by
    intro f as h r hr
    have h1 := hxy f as h
    rw [hr] at h1
    generalize y f as h = q at h1 ⊢
    cases h1
    rfl
  have h2 := vstep_le hc F nro f args h
  revert h2
  dsimp only
  generalize vstep F nro y f args h = q
  generalize vstep F nro x f args h = p
  intro h2
  cases p with
  | none => exact .bot
  | some r =>
    rw [h2 r rfl]
    exact .refl

end Go.Proofs.YthpgiimaadohcaaDoor.Zv
