/- Part A of the proof: ZvDef, ZvGlob, ZvRel, ZvComp, ZvOps, ZvOps2, ZvOps3, ZvOps4, ZvOps5, ZvOps6, ZvOps7, ZvOps8, ZvOps9, ZvStep, ZvClean. Conditions: none. -/
import Derived.Laws.Append
import Derived.Laws.AppendOwn
import Derived.Laws.Cells
import Derived.Laws.CopyRow
import Derived.Laws.Sem
import Derived.Orders
import Derived.WalkKit
set_option linter.unusedSimpArgs false
set_option linter.unusedVariables false
set_option linter.unusedSectionVars false
namespace Go.Proofs.YtbomdghbblakoaaGreatDoor.Zv
theorem gz_ {α : Type _} {a : α} {l : List α} : (a :: l)[0]? = some a := List.getElem?_cons_zero
theorem gs_ {α : Type _} {a : α} {i : Nat} {l : List α} : (a :: l)[i + 1]? = l[i]? := List.getElem?_cons_succ
/- The virtual interpreter: an intermediate form of the model's code, and what it computes over a heap of objects. -/
section
open Go
structure VO where
 sz:Nat
 cells:List Value
abbrev VH:=List VO
def junk:Value:= .chan none
def isJunk:Value→Bool
 | .chan _ => true
 | .tuple _ => true
 | _ => false
inductive VOp where
 | mv (x : Operand)
 | pick (c a b : Operand)
 | bin (op : BinOp) (x y : Operand)
 | beq (neg : Bool) (x y : Operand)
 | eqnilS (neg : Bool) (x : Operand)
 | eqnilF (neg : Bool) (x : Operand)
 | mvStr (x : Operand)
 | un (op : UnOp) (x : Operand)
 | conv (k : IntKind) (x : Operand)
 | box (n : Nat) (x : Operand)
 | alloc (zero : List Value)
 | build (zero : List Value) (parts : List (Nat × Nat × Operand))
 | buildSl (sz : Nat) (zero : List Value) (parts : List (Nat × Nat × Operand)) (len : Nat)
 | load (agg : Bool) (n : Nat) (p : Operand)
 | store (n : Nat) (p x : Operand)
 | nilchk (x : Operand)
 | fld (off : Nat) (p : Operand)
 | fieldv (agg : Bool) (off n : Nat) (x : Operand)
 | idx (sz : Nat) (s i : Operand)
 | idxStr (s i : Operand)
 | mkSl (sz : Nat) (zero : List Value) (bytes : Nat) (l c : Operand)
 | slc (sz : Nat) (x : Operand) (lo hi : Option Operand)
 | slcStr (x : Operand) (lo hi : Option Operand)
 | ext (x : Operand) (i : Nat)
 | len (x : Operand)
 | lenStr (x : Operand)
 | app (sz bytes : Nat) (zero : List Value) (s x : Operand)
 | minmax (mx : Bool) (xs : List Operand)
 | call (f : Nat) (args : List Operand)
 | callv (f : Operand) (args : List Operand)
 | mkfn (f : Nat) (first caps : List Operand)
 | clr (sz : Nat) (zero : List Value) (x : Operand)
 | cpy (sz : Nat) (x y : Operand)
 | stop
structure VOper where
 dst:Option Nat
 op:VOp
 guard:Option (Nat × Bool):=none
 chk:Nat:=0
inductive VC where
 | skip
 | ops (os : List VOper)
 | dops (os : List VOper)
 | seq (a b : VC)
 | cond (x : Operand) (a b : VC)
 | block (id : Nat) (c : VC)
 | loop (mask : List Bool) (c : VC)
 | keep (mask : List Bool) (c : VC)
 | exit (id : Nat)
 | ret
inductive VR where
 | tmp (t : Nat)
 | cell (t : Nat) (agg : Bool) (n : Nat)
structure VF where
 ntmps:Nat
 res:List VR
 body:VC
inductive VX where
  | normal
  | exit (id : Nat)
  | ret
 deriving DecidableEq
def isAtom:Value→Bool
 | .agg _ | .tuple _ | .func .. => false
 | _ => true
def arefs:Value→List Nat
 | .pointer (some a) => [a.block]
 | .slice (some a) _ _ => [a.block]
 | _ => []
def crefs:Value→List Nat
 | .func _ a c => a.toList.flatMap arefs ++ c.toList.flatMap arefs
 | v => arefs v
def vrefs:Value→List Nat
 | .agg cs => cs.toList.flatMap crefs
 | v => crefs v
def trefs:Value→List Nat
 | .tuple vs => vs.toList.flatMap vrefs
 | v => vrefs v
def orefs (o:VO):List Nat:=o.cells.flatMap crefs
def aren (r:Nat→Nat):Value→Value
 | .pointer (some a) => .pointer (some { a with block := r a.block })
 | .slice (some a) n c => .slice (some { a with block := r a.block }) n c
 | v => v
def cren (r:Nat→Nat):Value→Value
 | .func f a c => .func f (a.map (aren r)) (c.map (aren r))
 | v => aren r v
def vren (r:Nat→Nat):Value→Value
 | .agg cs => .agg (cs.map (cren r))
 | v => cren r v
def tren (r:Nat→Nat):Value→Value
 | .tuple vs => .tuple (vs.map (vren r))
 | v => vren r v
def renOf (base:Nat) (L:List Nat) (i:Nat):Nat:=if i<base then i else base+L.idxOf i
def okT (base:Nat) (h0 t:VH):Prop:= ∀(i:Nat) (o:VO),t[i]? =some o→h0[i]? =some o∨ ∀r∈orefs o,r<base
def dedup:List Nat→List Nat
 | [] => []
 | x :: xs => if x ∈ dedup xs then dedup xs else x :: dedup xs
def keepL (base:Nat) (vs:List Value):List Nat:=dedup ((vs.flatMap trefs).filter (fun i=>decide (base≤i)))
def flatL (base:Nat) (L:List Nat) (h:VH):Prop:= ∀i∈L,∃o,h[i]? =some o∧ ∀r∈orefs o,r<base
open Classical in
noncomputable def cleanup (base:Nat) (h0:VH) (vs:List Value) (h:VH):List Value × VH:=
 if okT base h0 (h.take base)∧flatL base (keepL base vs) h then
  (vs.map (tren (renOf base (keepL base vs))),h.take base++(keepL base vs).filterMap (fun i=>h[i]?))
 else(vs,h)
def vbin (op : BinOp) : Value → Value → Option Value
 | .int k a, .int k' b =>
  match op with
  | .shl => if b < 0 then none else some (.int k (k.wrap (a * 2 ^ (min b.toNat k.bits))))
  | .shr => if b < 0 then none else some (.int k (a.fdiv (2 ^ (min b.toNat k.bits))))
  | _ =>
   if k=k' then
    match op with
    | .add => some (.int k (k.wrap (a + b)))
    | .sub => some (.int k (k.wrap (a - b)))
    | .mul => some (.int k (k.wrap (a * b)))
    | .quo => if b = 0 then none else some (.int k (k.wrap (a.tdiv b)))
    | .rem => if b = 0 then none else some (.int k (a.tmod b))
    | .and => some (.int k (k.wrap (BitVec.ofInt k.bits a &&& BitVec.ofInt k.bits b).toNat))
    | .or => some (.int k (k.wrap (BitVec.ofInt k.bits a ||| BitVec.ofInt k.bits b).toNat))
    | .xor => some (.int k (k.wrap (BitVec.ofInt k.bits a ^^^ BitVec.ofInt k.bits b).toNat))
    | .andNot => some (.int k (k.wrap (BitVec.ofInt k.bits a &&& ~~~ BitVec.ofInt k.bits b).toNat))
    | .eql => some (.bool (a == b))
    | .neq => some (.bool (a != b))
    | .lss => some (.bool (decide (a < b)))
    | .leq => some (.bool (decide (a ≤ b)))
    | .gtr => some (.bool (decide (a > b)))
    | .geq => some (.bool (decide (a ≥ b)))
    | _ => none
   else none
 | .string a, .string b =>
  match op with
  | .add => if a.size + b.size ≤ 2 ^ 60 then some (.string (a ++ b)) else none
  | .eql => some (.bool (a.toList == b.toList))
  | .neq => some (.bool !(a.toList == b.toList))
  | .lss => some (.bool (Op.bytesLess a.toList b.toList))
  | .leq => some (.bool (Op.bytesLess a.toList b.toList || a.toList == b.toList))
  | .gtr => some (.bool !(Op.bytesLess a.toList b.toList || a.toList == b.toList))
  | .geq => some (.bool !(Op.bytesLess a.toList b.toList))
  | _ => none
 | _, _ => none
def vbeq (neg:Bool):Value→Value→Option Value
 | .bool a, .bool b => some (.bool (if neg then !(a == b) else a == b))
 | _, _ => none
def vun (op:UnOp):Value→Option Value
 | .bool b => match op with
  | .not => some (.bool !b)
  | _ => none
 | .int k n => match op with
  | .neg => some (.int k (k.wrap (0 - n)))
  | .xor => some (.int k (k.wrap (BitVec.ofInt k.bits (if k.signed = true then -1 else k.max) ^^^ BitVec.ofInt k.bits n).toNat))
  | _ => none
 | _ => none
def vget (h:VH) (a:Addr) (n:Nat):Option (List Value):=
 match h[a.block]? with
 | some o => if a.spot = some o.cells.length ∧ a.off + n ≤ o.cells.length then some ((o.cells.drop a.off).take n) else none
 | none => none
def vlive (h:VH) (a:Addr):Bool:=match h[a.block]? with
 | some o => a.spot == some o.cells.length
 | none => false
def splice (k:Nat) (vs cs:List Value):List Value:=cs.take k++vs++cs.drop (k+vs.length)
def vload (agg:Bool) (n:Nat) (h:VH):Value→Option Value
 | .pointer (some a) => match vget h a n with
  | some cs => if agg then some (.agg cs.toArray) else match cs with
   | [v] => some v
   | _ => none
  | none => none
 | _ => none
def vcells (v:Value):List Value:=v.cells.toList
def vstore (nro n : Nat) (h : VH) (p x : Value) : Option VH :=
 match p with
 | .pointer (some a) =>
  match h[a.block]? with
  | some o =>
   if nro≤a.block∧a.spot=some o.cells.length∧a.off+n≤o.cells.length∧(vcells x).length=n∧(vcells x).all (fun v=> !isJunk v)=true then
    some (h.set a.block { o with cells:=splice a.off (vcells x) o.cells})
   else none
  | none => none
 | _ => none
def vfill:List Value→List (Nat × Nat × Value)→Option (List Value)
 | cs, [] => some cs
 | cs, (off, n, v) :: ps => if (vcells v).length = n ∧ off + n ≤ cs.length ∧ (vcells v).all (fun v => !isJunk v) = true then vfill (splice off (vcells v) cs) ps else none
def vslice (sz : Nat) (h : VH) (x : Value) (lo hi : Option Value) : Option Value :=
 match x with
 | .slice none 0 0 =>
  match lo.getD (.int .i64 0),hi.getD (.int .i64 0)with
  | .int _ 0, .int _ 0 => some (.slice none 0 0)
  | _, _ => none
 | .slice (some a) n tot =>
  match h[a.block]? with
  | some o =>
   if o.sz=sz∧tot=o.cells.length then
    match lo.getD (.int .i64 0),hi.getD (.int .i64 n)with
    | .int _ l, .int _ u => if 0 ≤ l ∧ l ≤ u ∧ u ≤ n then some (.slice (some { a with off := a.off + l.toNat * sz }) (u.toNat - l.toNat) tot) else none
    | _, _ => none
   else none
  | none => none
 | _ => none
def vsliceStr (x:Value) (lo hi:Option Value):Option Value:=
 match x with
 | .string s =>
  match lo.getD (.int .i64 0),hi.getD (.int .i64 s.size)with
  | .int _ l, .int _ u => if 0 ≤ l ∧ l ≤ u ∧ u ≤ s.size then some (.string (s.extract l.toNat u.toNat)) else none
  | _, _ => none
 | _ => none
def vsrc (sz:Nat) (h:VH):Value→Option (List Value × Nat)
 | .slice none 0 0 => some ([], 0)
 | .slice none 0 1 => some ([], 0)
 | .slice (some a) n tot =>
  match h[a.block]? with
  | some o => if o.sz = sz ∧ tot = o.cells.length ∧ a.off + n * sz ≤ tot then some ((o.cells.drop a.off).take (n * sz), n) else none
  | none => none
 | _ => none
def vappend (nro sz bytes : Nat) (h : VH) (s x : Value) : Option (Value × VH) :=
 match vsrc sz h x with
 | none => none
 | some (cs, m) =>
  if cs.all (fun v => !isJunk v) = true ∧ 1 ≤ sz then
   match s with
   | .slice none 0 0 =>
    if m=0 then some (.slice none 0 0,h)
    else if m * bytes≤2 ^ 40∧m≤2 ^ 40 then some (.slice (some ⟨h.length,0,none⟩) m cs.length,h++ [⟨sz,cs⟩])else none
   | .slice (some a) n tot =>
    match h[a.block]? with
    | some o =>
     if nro≤a.block∧o.sz=sz∧tot=o.cells.length∧a.off=0∧n * sz=tot∧(n+m) * bytes≤2 ^ 40∧n+m≤2 ^ 40 then
      some (.slice (some a) (n+m) (tot+cs.length),h.set a.block { o with cells:=o.cells++cs})
     else none
    | none => none
   | _ => none
  else none
def vminmax2 (mx:Bool):Value→Value→Option Value
 | .int k a, .int k' b => if k = k' then some (.int k (if mx then (if b > a then b else a) else (if b < a then b else a))) else none
 | _, _ => none
def vminmaxL (mx:Bool) (x:Value):List Value→Option Value
 | [] => some x
 | y :: r => match vminmax2 mx x y with
  | some z => vminmaxL mx z r
  | none => none
def vminmax (mx:Bool):List Value→Option Value
 | x :: y :: r => vminmaxL mx x (y :: r)
 | _ => none
def vev (env:List Value):Operand→Value
 | .tmp t => env.getD t undef
 | .const v => v
 | .global _ => junk
 | .func f => .func (.func f) #[] #[]
def vclear (nro sz : Nat) (z : List Value) (h : VH) : Value → Option (Value × VH)
 | .slice none 0 0 => some (.tuple #[], h)
 | .slice none 0 1 => some (.tuple #[], h)
 | .slice (some a) n tot =>
  match h[a.block]? with
  | some o =>
   if o.sz=sz∧tot=o.cells.length then
    (if n=0 then some (.tuple #[],h)
    else if nro≤a.block∧a.off+n * sz≤tot∧z.length=sz∧z.all (fun v=> !isJunk v)=true then some (.tuple #[],h.set a.block { o with cells:=splice a.off (List.replicate n z).flatten o.cells})
    else none)
   else none
  | none => none
 | _ => none
def vcopy (nro sz : Nat) (h : VH) (x y : Value) : Option (Value × VH) :=
 match vsrc sz h y with
 | none => none
 | some (cs, m) => match x with
  | .slice none 0 0 => some (.int .i64 0, h)
  | .slice none 0 1 => some (.int .i64 0, h)
  | .slice (some a) n tot =>
   match h[a.block]? with
   | some o =>
    if o.sz=sz∧tot=o.cells.length∧cs.length=m * sz then
     (if min m n=0 then some (.int .i64 0,h)
     else if nro≤a.block∧a.off+min m n * sz≤tot∧1≤sz∧cs.all (fun v=> !isJunk v)=true then
      some (.int .i64 ((min m n:Nat):Int),h.set a.block { o with cells:=splice a.off (cs.take (min m n * sz)) o.cells})
     else none)
    else none
   | none => none
  | _ => none
abbrev VCall:=Nat→List Value→VH→Option (Value × VH)
def vop (call:VCall) (nro:Nat) (ev:Operand→Value) (h:VH):VOp→Option (Value × VH)
 | .mv x => some (ev x, h)
 | .pick c a b => match ev c with
  | .bool t => some (if t then ev a else ev b, h)
  | _ => none
 | .bin op x y => (vbin op (ev x) (ev y)).map (·, h)
 | .beq neg x y => (vbeq neg (ev x) (ev y)).map (·, h)
 | .eqnilS neg x => match ev x with
  | .slice none 0 0 => some (.bool !neg, h)
  | .slice (some a) _ tot => match h[a.block]? with
   | some o => if tot = o.cells.length then some (.bool neg, h) else none
   | none => none
  | _ => none
 | .eqnilF neg x => match ev x with
  | .nilFunc => some (.bool !neg, h)
  | .func .. => some (.bool neg, h)
  | _ => none
 | .mvStr x => match ev x with
  | .string s => some (.string s, h)
  | _ => none
 | .un op x => (vun op (ev x)).map (·, h)
 | .conv k x => match ev x with
  | .int _ n => some (.int k (k.wrap n), h)
  | _ => none
 | .box n x => if (vcells (ev x)).length = n ∧ isJunk (ev x) = false then some (.pointer (some ⟨h.length, 0, some n⟩), h ++ [⟨0, vcells (ev x)⟩]) else none
 | .alloc zero => some (.pointer (some ⟨h.length, 0, some zero.length⟩), h ++ [⟨0, zero⟩])
 | .build zero parts => (vfill zero (parts.map fun p => (p.1, p.2.1, ev p.2.2))).map fun cs => (.agg cs.toArray, h)
 | .buildSl sz zero parts n => (vfill zero (parts.map fun p => (p.1, p.2.1, ev p.2.2))).map fun cs => (.slice (some ⟨h.length, 0, none⟩) n zero.length, h ++ [⟨sz, cs⟩])
 | .load agg n p => (vload agg n h (ev p)).map (·, h)
 | .store n p x => (vstore nro n h (ev p) (ev x)).map (undef, ·)
 | .nilchk x => match ev x with
  | .pointer (some a) => if vlive h a = true then some (.pointer (some a), h) else none
  | .func (.func f) a c => some (.func (.func f) a c, h)
  | _ => none
 | .fld off p => match ev p with
  | .pointer (some a) => if vlive h a = true then some (.pointer (some { a with off := a.off + off }), h) else none
  | _ => none
 | .fieldv agg off n x => match ev x with
  | .agg cs => if off + n ≤ cs.size then (if agg then some (.agg (cs.extract off (off + n)), h) else match cs[off]? with
   | some v => some (v, h)
   | none => none) else none
  | _ => none
 | .idx sz s i => match ev s, ev i with
  | .slice (some a) n tot, .int _ j =>
   match h[a.block]? with
   | some o => if o.sz = sz ∧ tot = o.cells.length ∧ 0 ≤ j ∧ j < n then some (.pointer (some ⟨a.block, a.off + j.toNat * sz, some tot⟩), h) else none
   | none => none
  | _, _ => none
 | .idxStr s i => match ev s, ev i with
  | .string s, .int _ j => match (if 0 ≤ j then s[j.toNat]? else none) with
   | some b => some (.int .u8 b.toNat, h)
   | none => none
  | _, _ => none
 | .mkSl sz zero bytes l c => match ev l, ev c with
  | .int .i64 n, .int .i64 m => if n = m ∧ 0 ≤ n ∧ bytes * n ≤ 2 ^ 47 ∧ n ≤ 2 ^ 47 then some (.slice (some ⟨h.length, 0, none⟩) n.toNat (n.toNat * sz), h ++ [⟨sz, (List.replicate n.toNat zero).flatten⟩]) else none
  | _, _ => none
 | .slc sz x lo hi => (vslice sz h (ev x) (lo.map ev) (hi.map ev)).map (·, h)
 | .slcStr x lo hi => (vsliceStr (ev x) (lo.map ev) (hi.map ev)).map (·, h)
 | .ext x i => match ev x with
  | .tuple vs => match vs[i]? with
   | some v => some (v, h)
   | none => none
  | _ => none
 | .len x => match ev x with
  | .slice none 0 0 => some (.int .i64 0, h)
  | .slice none 0 1 => some (.int .i64 0, h)
  | .slice (some a) n tot => match h[a.block]? with
   | some o => if tot = o.cells.length then some (.int .i64 n, h) else none
   | none => none
  | _ => none
 | .lenStr x => match ev x with
  | .string s => some (.int .i64 s.size, h)
  | _ => none
 | .app sz bytes _ s x => vappend nro sz bytes h (ev s) (ev x)
 | .minmax mx xs => (vminmax mx (xs.map ev)).map (·, h)
 | .call f args => call f (args.map ev) h
 | .callv f args => match ev f with
  | .func (.func g) first caps => call g (first.toList ++ args.map ev ++ caps.toList) h
  | _ => none
 | .mkfn f first caps => if (first.map ev).all isAtom && (caps.map ev).all isAtom then some (.func (.func f) (first.map ev).toArray (caps.map ev).toArray, h) else none
 | .clr sz z x => vclear nro sz z h (ev x)
 | .cpy sz x y => vcopy nro sz h (ev x) (ev y)
 | .stop => none
def vput (env:List Value):Option Nat→Value→List Value
 | some d, v => env.set d v
 | none, _ => env
def vwanted (env:List Value):Option (Nat × Bool)→Option Bool
 | none => some true
 | some (g, want) => match env.getD g undef with
  | .bool b => some (b == want)
  | .tuple vs => if vs.size = 0 then some false else none
  | _ => none
def vops (call:VCall) (nro:Nat):List VOper→List Value→VH→Option (List Value × VH)
 | [], env, h => some (env, h)
 | o :: os, env, h =>
  match vwanted env o.guard with
  | some true => match vop call nro (vev env) h o.op with
   | some (v, h') => vops call nro os (vput env o.dst v) h'
   | none => none
  | some false => vops call nro os (vput env o.dst undef) h
  | none => none
def VOp.eff:VOp→Bool
 | .box .. | .alloc .. | .buildSl .. | .mkSl .. | .store .. | .app .. | .call .. | .callv .. | .clr .. | .cpy .. | .stop => true
 | _ => false
open Classical in
noncomputable def vdops (call:VCall) (nro:Nat):List VOper→List Value→VH→List VH→Option (List Value × VH)
 | [], env, h, _ => some (env, h)
 | o :: os, env, h, hs =>
  match vwanted env o.guard with
  | some true => match vop call nro (vev env) h o.op with
   | some (v, h') =>
    if o.op.eff=true then vdops call nro os (vput env o.dst v) h' (h::hs)
    else if∀g∈hs.take o.chk,vop call nro (vev env) g o.op=some (v,g)then vdops call nro os (vput env o.dst v) h' hs else none
   | none => none
  | some false => vdops call nro os (vput env o.dst undef) h (if o.op.eff = true then h :: hs else hs)
  | none => none
def maskEnv:List Bool→List Value→List Value
 | b :: bs, v :: vs => (if b then v else junk) :: maskEnv bs vs
 | [], vs => vs.map fun _ => junk
 | _, [] => []
noncomputable def iter {α β:Type} (f:α→Option (α ⊕ β)) (a:α):Option β:=
  match f a with
  | none => none
  | some (.inl a') => iter f a'
  | some (.inr b) => some b
 partial_fixpoint
noncomputable def vcode (call:VCall) (nro:Nat):VC→List Value→VH→Option (VX × List Value × VH)
 | .skip, env, h => some (.normal, env, h)
 | .ops os, env, h => match vops call nro os env h with
  | some (env', h') => some (.normal, env', h')
  | none => none
 | .dops os, env, h => match vdops call nro os env h [] with
  | some (env', h') => some (.normal, env', h')
  | none => none
 | .seq a b, env, h => match vcode call nro a env h with
  | some (.normal, env', h') => vcode call nro b env' h'
  | r => r
 | .cond x a b, env, h => match vev env x with
  | .bool true => vcode call nro a env h
  | .bool false => vcode call nro b env h
  | _ => none
 | .block id c, env, h => match vcode call nro c env h with
  | some (.exit id', env', h') => if id' = id then some (.normal, env', h') else some (.exit id', env', h')
  | r => r
 | .loop mask c, env, h =>
  iter (fun s:List Value × VH=>match vcode call nro c s.1 s.2 with
   | some (.normal, env', h') => some (.inl (cleanup h.length h (maskEnv mask env') h'))
   | some r => some (.inr r)
   | none => none) (maskEnv mask env, h)
 | .keep mask c, env, h => vcode call nro c (maskEnv mask env) h
 | .exit id, env, h => some (.exit id, env, h)
 | .ret, env, h => some (.ret, env, h)
def notTup:Value→Bool
 | .tuple _ => false
 | _ => true
def vres1 (env:List Value) (h:VH):VR→Option Value
 | .tmp t => some (env.getD t undef)
 | .cell t agg n => vload agg n h (env.getD t undef)
def vresL (env:List Value) (h:VH):List VR→Option (List Value)
 | [] => some []
 | r :: rs => match vres1 env h r, vresL env h rs with
  | some v, some vs => some (v :: vs)
  | _, _ => none
def vresults (env:List Value) (h:VH) (rs:List VR):Option Value:=
 match vresL env h rs with
 | some [v] => some v
 | some vs => if vs.all notTup = true then some (.tuple vs.toArray) else none
 | none => none
def env0 (fn:VF) (args:List Value):List Value:=args++List.replicate (fn.ntmps - args.length) undef
noncomputable def vbody (call:VCall) (nro:Nat) (fn:VF) (args:List Value) (h:VH):Option (Value × VH):=
 match vcode call nro fn.body (env0 fn args) h with
 | some (.exit _, _, _) => none
 | some (_, env, h') => match vresults env h' fn.res with
  | some v => some (((cleanup h.length h [v] h').1).getD 0 undef, (cleanup h.length h [v] h').2)
  | none => none
 | none => none
inductive Ent where
 | ir (fn : VF)
 | ext (g : List Value → VH → Option (Value × VH))
def CallLe (c c' :VCall):Prop:= ∀f as h r,c f as h=some r→c' f as h=some r
theorem iter_le {α β:Type} {f f' :α→Option (α ⊕ β)} (hf: ∀a r,f a=some r→f' a=some r) (a:α) (b:β) (h:iter f a=some b):iter f' a=some b:=by
 refine iter.partial_correctness f (fun a b=>iter f' a=some b) ?_ a b h
 intro it ih a b hab
 cases hfa:f a with
 | none => rw [hfa] at hab; cases hab
 | some r =>
  rw[hfa]at hab
  rw[iter,hf _ _ hfa]
  cases r with
  | inl a' => exact ih _ _ hab
  | inr b' => exact hab
theorem vop_le {c c' :VCall} (hc:CallLe c c') (nro:Nat) (ev:Operand→Value) (h:VH) (op:VOp) (r:Value × VH) (hr:vop c nro ev h op=some r):vop c' nro ev h op=some r:=by
 cases op
 case call f args=>exact hc _ _ _ _ hr
 case callv f args=>
  simp only[vop]at hr⊢
  split at hr
  ·exact hc _ _ _ _ hr
  ·cases hr
 all_goals exact hr
theorem vops_le {c c' :VCall} (hc:CallLe c c') (nro:Nat): ∀(os:List VOper) (env:List Value) (h:VH) (r:List Value × VH),vops c nro os env h=some r→vops c' nro os env h=some r
 | [], _, _, _, hr => hr
 | o :: os, env, h, r, hr => by
  simp only[vops]at hr⊢
  split at hr
  ·split at hr
   ·rename_i v h' hv
    rw[vop_le hc _ _ _ _ _ hv]
    exact vops_le hc nro os _ _ _ hr
   ·cases hr
  ·exact vops_le hc nro os _ _ _ hr
  ·cases hr
theorem vdops_le {c c' :VCall} (hc:CallLe c c') (nro:Nat): ∀(os:List VOper) (env:List Value) (h:VH) (hs:List VH) (r:List Value × VH),vdops c nro os env h hs=some r→vdops c' nro os env h hs=some r
 | [], _, _, _, _, hr => hr
 | o :: os, env, h, hs, r, hr => by
  simp only[vdops]at hr⊢
  split at hr
  ·split at hr
   ·rename_i v h' hv
    simp only[vop_le hc _ _ _ _ _ hv]
    split at hr
    ·rename_i he
     rw[if_pos he]
     exact vdops_le hc nro os _ _ _ _ hr
    ·rename_i he
     rw[if_neg he]
     split at hr
     ·rename_i hh
      rw[if_pos fun g hg=>vop_le hc _ _ _ _ _ (hh g hg)]
      exact vdops_le hc nro os _ _ _ _ hr
     ·cases hr
   ·cases hr
  ·exact vdops_le hc nro os _ _ _ _ hr
  ·cases hr
theorem vcode_le {c c' :VCall} (hc:CallLe c c') (nro:Nat): ∀(x:VC) (env:List Value) (h:VH) (r:VX × List Value × VH),vcode c nro x env h=some r→vcode c' nro x env h=some r
 | .skip, _, _, _, hr => hr
 | .ops os, env, h, r, hr => by
  simp only[vcode]at hr⊢
  split at hr
  ·rename_i hv;rw[vops_le hc nro _ _ _ _ hv];exact hr
  ·cases hr
 | .dops os, env, h, r, hr => by
  simp only[vcode]at hr⊢
  split at hr
  ·rename_i hv;rw[vdops_le hc nro _ _ _ _ _ hv];exact hr
  ·cases hr
 | .seq a b, env, h, r, hr => by
  simp only[vcode]at hr⊢
  split at hr
  ·rename_i hv
   rw[vcode_le hc nro a _ _ _ hv]
   exact vcode_le hc nro b _ _ _ hr
  ·rename_i hn
   cases hv:vcode c nro a env h with
   | none => rw [hv] at hr; cases hr
   | some q =>
    rw[vcode_le hc nro a _ _ _ hv]
    rw[hv]at hr
    obtain⟨e,env',h'⟩:=q
    cases e with
    | normal => exact absurd hv (hn _ _)
    | exit _ => exact hr
    | ret => exact hr
 | .cond x a b, env, h, r, hr => by
  simp only[vcode]at hr⊢
  split at hr
  ·exact vcode_le hc nro a _ _ _ hr
  ·exact vcode_le hc nro b _ _ _ hr
  ·cases hr
 | .block id x, env, h, r, hr => by
  simp only[vcode]at hr⊢
  cases hv:vcode c nro x env h with
  | none => rw [hv] at hr; cases hr
  | some q => rw [vcode_le hc nro x _ _ _ hv]; rw [hv] at hr; exact hr
 | .loop mask x, env, h, r, hr => by
  simp only[vcode]at hr⊢
  refine iter_le (fun s q hq=> ?_) _ _ hr
  cases hv:vcode c nro x s.1 s.2 with
  | none => rw [hv] at hq; cases hq
  | some p => rw [vcode_le hc nro x _ _ _ hv]; rw [hv] at hq; exact hq
 | .keep mask x, env, h, r, hr => by
  simp only[vcode]at hr⊢
  exact vcode_le hc nro x _ _ _ hr
 | .exit _, _, _, _, hr => hr
 | .ret, _, _, _, hr => hr
theorem vbody_le {c c' :VCall} (hc:CallLe c c') (nro:Nat) (fn:VF) (args:List Value) (h:VH) (r:Value × VH) (hr:vbody c nro fn args h=some r):vbody c' nro fn args h=some r:=by
 unfold vbody at hr⊢
 cases hv:vcode c nro fn.body (env0 fn args) h with
 | none => rw [hv] at hr; cases hr
 | some q => rw [vcode_le hc nro _ _ _ _ hv]; rw [hv] at hr; exact hr
noncomputable def vstep (F:Nat→Option Ent) (nro:Nat) (c:VCall):VCall:=fun f args h=>
 match F f with
 | some (.ir fn) => vbody c nro fn args h
 | some (.ext g) => g args h
 | none => none
theorem vstep_le {c c' :VCall} (hc:CallLe c c') (F:Nat→Option Ent) (nro:Nat):CallLe (vstep F nro c) (vstep F nro c'):=by
 intro f args h r hr
 unfold vstep at hr⊢
 split at hr
 ·exact vbody_le hc _ _ _ _ _ hr
 ·exact hr
 ·cases hr
noncomputable def vcall (F:Nat→Option Ent) (nro:Nat) (f:Nat) (args:List Value) (h:VH):Option (Value × VH):=
  vstep F nro (fun g as h' =>vcall F nro g as h') f args h
 partial_fixpoint monotonicity by
  intro x y hxy f args h
  have hc:CallLe x y:=by
    intro f as h r hr
    have h1:=hxy f as h
    rw[hr]at h1
    generalize y f as h=q at h1⊢
    cases h1
    rfl
  have h2:=vstep_le hc F nro f args h
  revert h2
  dsimp only
  generalize vstep F nro y f args h=q
  generalize vstep F nro x f args h=p
  intro h2
  cases p with
  | none => exact .bot
  | some r =>
    rw[h2 r rfl]
    exact .refl
end

/- The program's tables that are read: block by block. (One text a seat: here the table of bit numbers lies in block 0.) -/
section
open Go
def tzTab:List Int:= [0,1,56,2,57,49,28,3,61,58,42,50,38,29,17,4,62,47,59,36,45,43,51,22,53,39,33,30,24,18,12,5,63,55,48,27,60,41,37,16,46,35,44,21,52,32,23,11,54,26,40,15,34,20,31,10,25,14,19,9,13,8,7,6]
def tzCells:Array Value:=(tzTab.map (Value.int .u8)).toArray
def globTab:Nat→Option (Array Value)
 | 0 => some tzCells
 | _ => none
end

/- How the virtual interpreter's values and heaps stand for the model's. -/
section
open Go
structure Blk where
 b:Nat
 off:Nat
 cap:Nat
abbrev Em:=Nat→Blk
abbrev PH:=Nat→Option VO
def VH.ph (h:VH):PH:=fun i=>h[i]?
inductive All2 {α β:Type} (R:α→β→Prop):List α→List β→Prop
 | nil : All2 R [] []
 | cons {a : α} {b : β} {as : List α} {bs : List β} (h : R a b) (t : All2 R as bs) : All2 R (a :: as) (b :: bs)
def one1:Value→Bool
 | .agg _ => false
 | .tuple _ => false
 | _ => true
def one (v:Value):Prop:=one1 v=true
inductive AtomR (φ:Em) (L:PH):Value→Value→Prop
 | junk (r : Option Nat) (v : Value) : AtomR φ L (.chan r) v
 | bool (b : Bool) : AtomR φ L (.bool b) (.bool b)
 | int (k : IntKind) (n : Int) : AtomR φ L (.int k n) (.int k n)
 | str (s : ByteArray) : AtomR φ L (.string s) (.string s)
 | ptrN : AtomR φ L (.pointer none) (.pointer none)
 | slN : AtomR φ L (.slice none 0 0) (.slice none 0 0)
 | nilF : AtomR φ L .nilFunc .nilFunc
 | ptr {i k tot : Nat} {o : VO} (hL : L i = some o) (ht : tot = o.cells.length) : AtomR φ L (.pointer (some ⟨i, k, some tot⟩)) (.pointer (some ⟨(φ i).b, (φ i).off + k, none⟩))
 | ptrS {i k tot : Nat} {o : VO} {v : Value} (hL : L i = some o) (ht : tot < o.cells.length) (h1 : one v) : AtomR φ L (.pointer (some ⟨i, k, some tot⟩)) v
 | sl {i k n tot c : Nat} {o : VO} {a : Addr} (hL : L i = some o) (ht : tot = o.cells.length) (hk : k + n * o.sz ≤ tot) (hs : 1 ≤ o.sz) (hc : n ≤ c) (hcap : k + c * o.sz ≤ (φ i).cap)
   (ha:c=0∨a=⟨(φ i).b,(φ i).off+k,none⟩):AtomR φ L (.slice (some ⟨i,k,none⟩) n tot) (.slice (some a) n c)
 | slE (a : Addr) (c : Nat) : AtomR φ L (.slice none 0 1) (.slice (some a) 0 c)
 | slS {i k n tot : Nat} {o : VO} {v : Value} (hL : L i = some o) (ht : tot < o.cells.length) (h1 : one v) : AtomR φ L (.slice (some ⟨i, k, none⟩) n tot) v
inductive CellR (φ:Em) (L:PH):Value→Value→Prop
 | atom {v v' : Value} (h : AtomR φ L v v') : CellR φ L v v'
 | func (f : Nat) {a c a' c' : Array Value} (ha : All2 (AtomR φ L) a.toList a'.toList) (hc : All2 (AtomR φ L) c.toList c'.toList) : CellR φ L (.func (.func f) a c) (.func (.func f) a' c')
inductive ValR (φ:Em) (L:PH):Value→Value→Prop
 | cell {v v' : Value} (h : CellR φ L v v') : ValR φ L v v'
 | agg {cs cs' : Array Value} (h : All2 (CellR φ L) cs.toList cs'.toList) : ValR φ L (.agg cs) (.agg cs')
inductive TopR (φ:Em) (L:PH):Value→Value→Prop
 | val {v v' : Value} (h : ValR φ L v v') : TopR φ L v v'
 | tup {vs vs' : Array Value} (h : All2 (ValR φ L) vs.toList vs'.toList) : TopR φ L (.tuple vs) (.tuple vs')
def GlobP (nro:Nat) (φ:Em) (L:PH) (w:World):Prop:= ∀b C,globTab b=some C→(∃ty fz,w.heap[b]? =some (.cells C ty fz))∧ ∀i,(L i).isSome→nro≤i→(φ i).b≠b
structure RH (nro:Nat) (φ:Em) (L:PH) (w:World):Prop where
 cells: ∀i o,L i=some o→ ∃C ty fz,w.heap[(φ i).b]? =some (.cells C ty fz)∧(∀(j:Nat) v,o.cells[j]? =some v→ ∃v',C[(φ i).off+j]? =some v' ∧CellR φ L v v')∧
  (nro≤i→fz=(0,0)∧(φ i).off=0∧C.size=(φ i).cap)
 apart: ∀i j,(L i).isSome→(L j).isSome→nro≤i→i≠j→(φ i).b≠(φ j).b
 glob:GlobP nro φ L w
structure X (nro:Nat) (φ:Em) (L:PH) (w:World) (φ' :Em) (L' :PH) (w' :World):Prop where
 grow: ∀i o,L i=some o→ ∃o',L' i=some o' ∧o'.sz=o.sz∧o.cells.length≤o'.cells.length∧(o'.cells.length=o.cells.length→φ' i=φ i)
 fresh: ∀i,(L' i).isSome→nro≤i→((L i).isSome∧(φ' i).b=(φ i).b)∨w.heap.size≤(φ' i).b
 size:w.heap.size≤w'.heap.size
 frame: ∀b,b<w.heap.size→(∀i,(L i).isSome→nro≤i→(φ i).b≠b)→w'.heap[b]? =w.heap[b]?
 rest:w'.os=w.os∧w'.tape=w.tape∧w'.output=w.output
 ro: ∀i,(L i).isSome→i<nro→φ' i=φ i
theorem X.refl (nro:Nat) (φ:Em) (L:PH) (w:World):X nro φ L w φ L w:=
 ⟨fun _ o h=>⟨o,h,rfl,Nat.le_refl _,fun _=>rfl⟩,fun _ h _=> .inl ⟨h,rfl⟩,Nat.le_refl _,fun _ _ _=>rfl,⟨rfl,rfl,rfl⟩,fun _ _ _=>rfl⟩
theorem X.trans {nro:Nat} {φ φ1 φ2:Em} {L L1 L2:PH} {w w1 w2:World} (a:X nro φ L w φ1 L1 w1) (b:X nro φ1 L1 w1 φ2 L2 w2):X nro φ L w φ2 L2 w2 where
 grow i o h:=by
  obtain⟨o1,h1,s1,l1,e1⟩:=a.grow i o h
  obtain⟨o2,h2,s2,l2,e2⟩:=b.grow i o1 h1
  exact⟨o2,h2,s2.trans s1,Nat.le_trans l1 l2,fun he=>by rw[e2 (by omega),e1 (by omega)]⟩
 fresh i h hn:=by
  rcases b.fresh i h hn with⟨h1,e1⟩|h1
  ·rcases a.fresh i h1 hn with⟨h0,e0⟩|h0
   ·exact .inl ⟨h0,e1.trans e0⟩
   ·exact .inr (by rw[e1];exact h0)
  ·exact .inr (Nat.le_trans a.size h1)
 size:=Nat.le_trans a.size b.size
 rest:=⟨b.rest.1.trans a.rest.1,b.rest.2.1.trans a.rest.2.1,b.rest.2.2.trans a.rest.2.2⟩
 ro i h hi:=by
  obtain⟨o,ho⟩:=Option.isSome_iff_exists.mp h
  obtain⟨o1,h1,_⟩:=a.grow i o ho
  rw[b.ro i (by simp[h1]) hi,a.ro i h hi]
 frame q hq hn:=by
  rw[b.frame q (Nat.lt_of_lt_of_le hq a.size) ?_,a.frame q hq hn]
  intro i hi hni he
  rcases a.fresh i hi hni with⟨h0,e0⟩|h0
  ·exact hn i h0 hni (e0 ▸ he)
  ·omega
theorem GlobP.of_X {nro:Nat} {φ φ' :Em} {L L' :PH} {w w' :World} (hg:GlobP nro φ L w) (hX:X nro φ L w φ' L' w'):GlobP nro φ' L' w' :=by
 intro b C hb
 obtain⟨⟨ty,fz,h1⟩,h2⟩:=hg b C hb
 have hlt:b<w.heap.size:=(Array.getElem?_eq_some_iff.mp h1).1
 refine⟨⟨ty,fz,by rw[hX.frame b hlt h2];exact h1⟩,fun i hi hn=> ?_⟩
 rcases hX.fresh i hi hn with⟨h3,h4⟩|h3
 ·rw[h4];exact h2 i h3 hn
 ·omega
theorem RH.mk' {nro:Nat} {φ0 φ:Em} {L0 L:PH} {w0 w:World} (h1: ∀i o,L i=some o→ ∃C ty fz,w.heap[(φ i).b]? =some (.cells C ty fz)∧(∀(j:Nat) v,o.cells[j]? =some v→ ∃v',C[(φ i).off+j]? =some v' ∧CellR φ L v v')∧
  (nro≤i→fz=(0,0)∧(φ i).off=0∧C.size=(φ i).cap)) (h2: ∀i j,(L i).isSome→(L j).isSome→nro≤i→i≠j→(φ i).b≠(φ j).b) (hg:GlobP nro φ0 L0 w0) (hX:X nro φ0 L0 w0 φ L w):RH nro φ L w∧X nro φ0 L0 w0 φ L w:=
 ⟨⟨h1,h2,hg.of_X hX⟩,hX⟩
section
variable {φ φ' :Em} {L L' :PH}
def Grow (φ:Em) (L:PH) (φ' :Em) (L' :PH):Prop:= ∀i o,L i=some o→ ∃o',L' i=some o' ∧o'.sz=o.sz∧o.cells.length≤o'.cells.length∧(o'.cells.length=o.cells.length→φ' i=φ i)
theorem AtomR.grow (hg:Grow φ L φ' L') {v v' :Value} (h:AtomR φ L v v'):AtomR φ' L' v v' :=by
 cases h with
 | junk r v => exact .junk r _
 | bool b => exact .bool b
 | int k n => exact .int k n
 | str s => exact .str s
 | ptrN => exact .ptrN
 | slN => exact .slN
 | slE a c => exact .slE a c
 | nilF => exact .nilF
 | @ptr i k tot o hL ht =>
  obtain⟨o',hL',_,hl,he⟩:=hg _ _ hL
  by_cases h:o'.cells.length=o.cells.length
  ·rw[←he h];exact .ptr hL' (by omega)
  ·exact .ptrS hL' (by omega) rfl
 | ptrS hL ht h1 =>
  obtain⟨o',hL',_,hl,he⟩:=hg _ _ hL
  exact .ptrS hL' (by omega) h1
 | @sl i k n tot c o a hL ht hk hs hc hcap ha =>
  obtain⟨o',hL',hsz,hl,he⟩:=hg _ _ hL
  by_cases h:o'.cells.length=o.cells.length
  ·rw[←he h]at hcap ha
   exact .sl hL' (by omega) (by rw[hsz];exact hk) (by rw[hsz];exact hs) hc (by rw[hsz];exact hcap) ha
  ·exact .slS hL' (by omega) rfl
 | slS hL ht h1 =>
  obtain⟨o',hL',_,hl,he⟩:=hg _ _ hL
  exact .slS hL' (by omega) h1
theorem All2.imp' {α β:Type} {R S:α→β→Prop} (hi: ∀a b,R a b→S a b): ∀ {as:List α} {bs:List β},All2 R as bs→All2 S as bs
 | _, _, .nil => .nil
 | _, _, .cons h t => .cons (hi _ _ h) (All2.imp' hi t)
theorem CellR.grow (hg:Grow φ L φ' L') {v v' :Value} (h:CellR φ L v v'):CellR φ' L' v v' :=by
 cases h with
 | atom h => exact .atom (h.grow hg)
 | func f ha hc => exact .func f (All2.imp' (fun _ _ h => h.grow hg) ha) (All2.imp' (fun _ _ h => h.grow hg) hc)
theorem ValR.grow (hg:Grow φ L φ' L') {v v' :Value} (h:ValR φ L v v'):ValR φ' L' v v' :=by
 cases h with
 | cell h => exact .cell (h.grow hg)
 | agg h => exact .agg (All2.imp' (fun _ _ h => h.grow hg) h)
theorem TopR.grow (hg:Grow φ L φ' L') {v v' :Value} (h:TopR φ L v v'):TopR φ' L' v v' :=by
 cases h with
 | val h => exact .val (h.grow hg)
 | tup h => exact .tup (All2.imp' (fun _ _ h => h.grow hg) h)
end
def RE (φ:Em) (L:PH) (env:List Value) (a:Act):Prop:=All2 (TopR φ L) env a.tmps.toList
theorem All2.length' {α β:Type} {R:α→β→Prop}: ∀ {as:List α} {bs:List β},All2 R as bs→as.length=bs.length
 | _, _, .nil => rfl
 | _, _, .cons _ t => by simp [All2.length' t]
theorem All2.get' {α β:Type} {R:α→β→Prop}: ∀ {as:List α} {bs:List β},All2 R as bs→ ∀(i:Nat) (x:α),as[i]? =some x→ ∃y,bs[i]? =some y∧R x y
 | _, _, .nil, i, x, h => by simp at h
 | _, _, .cons h t, 0, x, hx => by simp at hx; subst hx; exact ⟨_, rfl, h⟩
 | _, _, .cons h t, i + 1, x, hx => by simpa using All2.get' t i x (by simpa using hx)
theorem All2.set' {α β:Type} {R:α→β→Prop} {x:α} {y:β} (hxy:R x y): ∀ {as:List α} {bs:List β} (i:Nat),All2 R as bs→All2 R (as.set i x) (bs.set i y)
 | _, _, _, .nil => .nil
 | _, _, 0, .cons _ t => .cons hxy t
 | _, _, i + 1, .cons h t => .cons h (All2.set' hxy i t)
theorem TopR.undef {φ:Em} {L:PH}:TopR φ L undef undef:= .tup .nil
theorem RE.get {φ:Em} {L:PH} {env:List Value} {a:Act} (h:RE φ L env a) (t:Nat):TopR φ L (env.getD t Go.undef) (a.tmps.getD t Go.undef):=by
 have hl:=All2.length' h
 by_cases ht:t<env.length
 ·obtain⟨y,hy,hr⟩:=All2.get' h t env[t] (by simp[ht])
  have e1:env.getD t Go.undef=env[t]:=by simp[List.getD,ht]
  have e2:a.tmps.getD t Go.undef=y:=by
   have:a.tmps[t]? =some y:=by simpa using hy
   simp[Array.getD_eq_getD_getElem?,this]
  rw[e1,e2];exact hr
 ·have e1:env.getD t Go.undef=Go.undef:=by simp[List.getD,ht]
  have e2:a.tmps.getD t Go.undef=Go.undef:=by
   have: ¬t<a.tmps.size:=by simpa [hl]using ht
   simp[Array.getD,this]
  rw[e1,e2];exact .undef
theorem RE.put {φ:Em} {L:PH} {env:List Value} {a:Act} (h:RE φ L env a) (d:Option Tmp) {v v' :Value} (hv:TopR φ L v v'):RE φ L (vput env d v) (a.put d v'):=by
 cases d with
 | none => exact h
 | some d =>
  have:=All2.set' hv d h
  simpa [RE,vput,Act.put]using this
theorem RE.grow {φ φ' :Em} {L L' :PH} (hg:Grow φ L φ' L') {env:List Value} {a:Act} (h:RE φ L env a):RE φ' L' env a:=All2.imp' (fun _ _ h=>h.grow hg) h
def closedA:Value→Bool
 | .bool _ | .int .. | .string _ | .pointer none | .slice none 0 0 | .nilFunc => true
 | _ => false
def closedV:Value→Bool
 | .agg cs => cs.all closedA
 | v => closedA v
theorem AtomR.closed {φ:Em} {L:PH} {v:Value} (h:closedA v=true):AtomR φ L v v:=by
 unfold closedA at h
 split at h<;>first|exact .bool _|exact .int _ _|exact .str _|exact .ptrN|exact .slN|exact .nilF|cases h
theorem All2.refl' {α:Type} {R:α→α→Prop}: ∀ {as:List α},(∀a∈as,R a a)→All2 R as as
 | [], _ => .nil
 | a :: as, h => .cons (h a (by simp)) (All2.refl' fun b hb => h b (by simp [hb]))
theorem ValR.closed {φ:Em} {L:PH} {v:Value} (h:closedV v=true):ValR φ L v v:=by
 unfold closedV at h
 split at h
 ·rename_i cs
  refine .agg (All2.refl' fun a ha=> .atom (.closed ?_))
  rw[Array.all_eq_true_iff_forall_mem]at h
  exact h a (by simpa using ha)
 ·exact .cell (.atom (.closed h))
def okOpd:Operand→Bool
 | .tmp _ => true
 | .const v => closedV v || (match v with
  | .tuple vs => vs.size == 0
  | _ => false)
 | .global _ => false
 | .func _ => true
theorem RE.ev {φ:Em} {L:PH} {env:List Value} {a:Act} (h:RE φ L env a) {x:Operand} (hx:okOpd x=true):TopR φ L (vev env x) (a.eval x):=by
 cases x with
 | tmp t => exact h.get t
 | const v =>
  simp only[okOpd,Bool.or_eq_true]at hx
  rcases hx with hx|hx
  ·exact .val (.closed hx)
  ·split at hx
   ·rename_i vs
    have:vs= #[]:=by simpa using hx
    subst this
    exact .tup .nil
   ·cases hx
 | global g => cases hx
 | func f => exact .val (.cell (.func f .nil .nil))
end

/- From the model's code to the intermediate form: what is made is told with its proof obligations met by sight. -/
section
open Go
def okL (xs:Array Operand):Bool:=xs.toList.all okOpd
def okO (x:Option Operand):Bool:=match x with
 | some x => okOpd x
 | none => true
def isAggT (P:Program) (t:TypeId):Option Bool:=match P.underlying t with
 | some (.struct _) | some (.array _ _) => some true
 | some _ => some false
 | none => none
def sizeT (P:Program) (t:TypeId):Option Nat:=(P.info? t).map (·.size)
def placesOf (P:Program) (t:TypeId):Option (Nat→Option (Nat × Nat)):=match P.underlying t with
 | some (.struct fields) => some fun i => match fields[i]? with
  | some f => (sizeT P f.type).map fun n => (f.offset, n)
  | none => none
 | some (.array _ e) => (sizeT P e).map fun n i => some (i * n, n)
 | _ => none
def partsOf (pl:Nat→Option (Nat × Nat)):List (Nat × Operand)→Option (List (Nat × Nat × Operand))
 | [] => some []
 | (i, x) :: r => match pl i, partsOf pl r with
  | some (off, n), some r' => if okOpd x then some ((off, n, x) :: r') else none
  | _, _ => none
def structSizes (P:Program) (t:TypeId):Bool:=match P.underlying t with
 | some (.struct fields) => fields.all fun f => (sizeT P f.type).isSome
 | _ => true
def zerosOf (P:Program) (t:TypeId):Option (List Value):=match P.info? t with
 | some i => match i.zero with
  | some z => if closedV z && (z.cells.size == i.size) then some z.cells.toList else none
  | none => none
 | none => none
def elemOf (P:Program) (t:TypeId):Option TypeId:=match P.underlying t with
 | some (.slice e) => some e
 | _ => none
def compCall (P : Program) (c : Call) : Option VOp := match c.callee with
 | .value (.func f) => if okL c.args then some (.call f c.args.toList) else none
 | .value x => if okL c.args && okOpd x then some (.callv x c.args.toList) else none
 | .builtin .len => match c.argTypes.toList, c.args.toList with
  | [t], [x] => if okOpd x then match P.underlying t with
   | some (.slice _) => some (.len x)
   | some .string => some (.lenStr x)
   | _ => none else none
  | _, _ => none
 | .builtin .append => match c.argTypes.toList, c.args.toList with
  | [t, u], [s, x] => if t == u && okOpd s && okOpd x then match elemOf P t with
   | some e => match zerosOf P e, P.info? e with
    | some z, some i => if 1 ≤ i.size && i.bytes ≤ 2 ^ 20 then some (.app i.size i.bytes z s x) else none
    | _, _ => none
   | none => none else none
  | _, _ => none
 | .builtin .clear => match c.argTypes.toList, c.args.toList with
  | [t], [x] => if okOpd x then match elemOf P t with
   | some e => match zerosOf P e, P.info? e with
    | some z, some i => if 1 ≤ i.size then some (.clr i.size z x) else none
    | _, _ => none
   | none => none else none
  | _, _ => none
 | .builtin .copy => match c.argTypes.toList, c.args.toList with
  | [t, u], [x, y] => if t == u && okOpd x && okOpd y then match elemOf P t with
   | some e => match P.info? e with
    | some i => if 1 ≤ i.size then some (.cpy i.size x y) else none
    | none => none
   | none => none else none
  | _, _ => none
 | .builtin .max => if okL c.args then some (.minmax true c.args.toList) else none
 | .builtin .min => if okL c.args then some (.minmax false c.args.toList) else none
 | _ => none
def compOp (P : Program) (o : Oper) : Option VOp := match o.op with
 | .move x | .assign x => if okOpd x then some (.mv x) else none
 | .pick c a b => if okOpd c && okOpd a && okOpd b then some (.pick c a b) else none
 | .binOp op t x y _ => if okOpd x && okOpd y then
   match op with
   | .eql | .neq => match P.underlying t with
    | some .bool => some (.beq (op matches .neq) x y)
    | some (.int _) | some .string => some (.bin op x y)
    | some (.slice _) => match y with
     | .const (.slice none 0 0) => some (.eqnilS (op matches .neq) x)
     | _ => none
    | some (.func ..) => match y with
     | .const .nilFunc => some (.eqnilF (op matches .neq) x)
     | _ => none
    | _ => none
   | _ => some (.bin op x y)
  else none
 | .unOp op _ x => if okOpd x then some (.un op x) else none
 | .convert a b x => if okOpd x then match P.underlying a, P.underlying b with
   | some _, some (.int k) => some (.conv k x)
   | some .string, some .string => some (.mvStr x)
   | _, _ => none else none
 | .box t x => if okOpd x then match sizeT P t with
   | some n => some (.box n x)
   | none => none else none
 | .alloc t => match zerosOf P t with
  | some z => some (.alloc z)
  | none => none
 | .build t parts => match zerosOf P t, placesOf P t with
  | some z, some pl => if structSizes P t then (partsOf pl parts.toList).map (.build z ·) else none
  | _, _ => none
 | .buildSlice t n parts => match elemOf P t with
  | some e => match zerosOf P e, P.info? e with
   | some z, some i => if 1 ≤ i.size && n * i.size ≤ 2 ^ 24 then (partsOf (fun j => some (j * i.size, i.size)) parts.toList).map fun ps => .buildSl i.size (List.replicate n z).flatten ps n else none
   | _, _ => none
  | none => none
 | .load t p => if okOpd p then match isAggT P t, sizeT P t with
   | some true, some n => some (.load true n p)
   | some false, some 1 => some (.load false 1 p)
   | _, _ => none else none
 | .store t p x => if okOpd p && okOpd x then match sizeT P t with
   | some n => some (.store n p x)
   | none => none else none
 | .nilCheck x => if okOpd x then some (.nilchk x) else none
 | .makeFunc (.func f) first caps => if okL first && okL caps then some (.mkfn f first.toList caps.toList) else none
 | .makeSlice t l c => if okOpd l && okOpd c then match elemOf P t with
  | some e => match zerosOf P e, P.info? e with
   | some z, some i => if 1 ≤ i.size && i.size ≤ 2 ^ 20 then some (.mkSl i.size z i.bytes l c) else none
   | _, _ => none
  | none => none else none
 | .slice t x lo hi none => if okOpd x && okO lo && okO hi then match P.underlying t with
   | some (.slice e) => match sizeT P e with
    | some n => if 1 ≤ n then some (.slc n x lo hi) else none
    | none => none
   | some .string => some (.slcStr x lo hi)
   | _ => none else none
 | .fieldAddr t p f => if okOpd p then match P.underlying t with
   | some (.struct fields) => match fields[f]? with
    | some fd => match sizeT P fd.type with
     | some n => if 1 ≤ n then some (.fld fd.offset p) else none
     | none => none
    | none => none
   | _ => none else none
 | .field t x f => if okOpd x then match P.underlying t with
   | some (.struct fields) => match fields[f]? with
    | some fd => match isAggT P fd.type, sizeT P fd.type with
     | some true, some n => some (.fieldv true fd.offset n x)
     | some false, some 1 => some (.fieldv false fd.offset 1 x)
     | _, _ => none
    | none => none
   | _ => none else none
 | .indexAddr t s i => if okOpd s && okOpd i then match P.underlying t with
   | some (.slice e) => match sizeT P e with
    | some n => if 1 ≤ n then some (.idx n s i) else none
    | none => none
   | _ => none else none
 | .index t s i => if okOpd s && okOpd i then match P.underlying t with
   | some .string => some (.idxStr s i)
   | _ => none else none
 | .extract x i => if okOpd x then some (.ext x i) else none
 | .call c => compCall P c
 | .makeInterface _ _ => some .stop
 | .panic _ => some .stop
 | _ => none
def compGuard (ops:Array Oper):Option (Nat × Bool)→Option (Option (Nat × Bool))
 | none => some none
 | some (j, want) => match (ops[j]?).bind (·.dst) with
  | some d => some (some (d, want))
  | none => none
def compOper (P:Program) (ops:Array Oper) (o:Oper):Option VOper:=
 match compOp P o,compGuard ops o.guard with
 | some op, some g => some { dst := o.dst, op := op, guard := g }
 | _, _ => none
def compOps (P:Program) (ops:Array Oper):List Oper→Option (List VOper)
 | [] => some []
 | o :: r => match compOper P ops o, compOps P ops r with
  | some v, some vs => some (v :: vs)
  | _, _ => none
def compRes (P:Program):ResultVar→Option VR
 | .tmp t => some (.tmp t)
 | .cell t ty => match isAggT P ty, sizeT P ty with
  | some true, some n => some (.cell t true n)
  | some false, some 1 => some (.cell t false 1)
  | _, _ => none
def compResL (P:Program):List ResultVar→Option (List VR)
 | [] => some []
 | r :: rs => match compRes P r, compResL P rs with
  | some v, some vs => some (v :: vs)
  | _, _ => none
end

/- Each operation of the model, as the virtual interpreter tells it: those that write and make nothing. -/
section
open Go
section
variable {φ:Em} {L:PH} {v' :Value}
theorem TopR.inv_int {k:IntKind} {n:Int} (h:TopR φ L (.int k n) v'):v' = .int k n:=by
 cases h with|val h=>cases h with|cell h=>cases h with|atom h=>cases h;rfl
theorem TopR.inv_bool {b:Bool} (h:TopR φ L (.bool b) v'):v' = .bool b:=by
 cases h with|val h=>cases h with|cell h=>cases h with|atom h=>cases h;rfl
theorem TopR.inv_str {s:ByteArray} (h:TopR φ L (.string s) v'):v' = .string s:=by
 cases h with|val h=>cases h with|cell h=>cases h with|atom h=>cases h;rfl
theorem TopR.inv_ptr {p:Option Addr} (h:TopR φ L (.pointer p) v'):AtomR φ L (.pointer p) v' :=by
 cases h with|val h=>cases h with|cell h=>cases h with|atom h=>exact h
theorem TopR.inv_sl {p:Option Addr} {n c:Nat} (h:TopR φ L (.slice p n c) v'):AtomR φ L (.slice p n c) v' :=by
 cases h with|val h=>cases h with|cell h=>cases h with|atom h=>exact h
theorem TopR.inv_nilF (h:TopR φ L .nilFunc v'):v' = .nilFunc:=by
 cases h with|val h=>cases h with|cell h=>cases h with|atom h=>cases h;rfl
theorem TopR.inv_fn {fn:Fn} {a c:Array Value} (h:TopR φ L (.func fn a c) v'): ∃f a' c',fn= .func f∧v' = .func (.func f) a' c' ∧All2 (AtomR φ L) a.toList a'.toList∧All2 (AtomR φ L) c.toList c'.toList:=by
 cases h with|val h=>cases h with|cell h=>cases h with
  | atom h => cases h
  | func f ha hc => exact ⟨_, _, _, rfl, rfl, ha, hc⟩
theorem TopR.inv_agg {cs:Array Value} (h:TopR φ L (.agg cs) v'): ∃cs',v' = .agg cs' ∧All2 (CellR φ L) cs.toList cs'.toList:=by
 cases h with|val h=>cases h with
  | cell h => cases h with | atom h => cases h
  | agg h => exact ⟨_, rfl, h⟩
theorem TopR.inv_tup {vs:Array Value} (h:TopR φ L (.tuple vs) v'): ∃vs',v' = .tuple vs' ∧All2 (ValR φ L) vs.toList vs'.toList:=by
 cases h with
 | val h => cases h with | cell h => cases h with | atom h => cases h
 | tup h => exact ⟨_, rfl, h⟩
end
def OkRes (nro:Nat) (φ:Em) (L:PH) (w:World) (v:Value) (h' :VH) (r:Result Next):Prop:=
 ∃φ' w',RH nro φ' h'.ph w' ∧X nro φ L w φ' h'.ph w' ∧((∃v',r= .ok (.value v') w' ∧TopR φ' h'.ph v v')∨(r= .ok .skip w' ∧v=undef))
theorem OkRes.quiet {nro:Nat} {φ:Em} {h:VH} {w:World} {v v' :Value} {r:Result Next} (hR:RH nro φ h.ph w) (hr:r= .ok (.value v') w) (hv:TopR φ h.ph v v'):OkRes nro φ h.ph w v h r:=
 ⟨φ,w,hR,.refl _ _ _ _,.inl ⟨v',hr,hv⟩⟩
theorem AtomR.top {φ:Em} {L:PH} {v v' :Value} (h:AtomR φ L v v'):TopR φ L v v' := .val (.cell (.atom h))
section
variable {P:Program} {nro:Nat} {φ:Em} {h:VH} {w:World} {env:List Value} {a:Act} {dst:Option Tmp} {ty:TypeId} {pos:String} {after:Array Edge} {guard:Option (Nat × Bool)} {v:Value} {h' :VH} {call:VCall} {op:VOp}
theorem run_bin {op:BinOp} {t:TypeId} {x y r:Value} (hv:vbin op x y=some r):(binOp op t x y).run P w= .ok r w∧((∃k n,r= .int k n)∨(∃b,r= .bool b)∨ ∃s,r= .string s):=by
 unfold vbin at hv
 split at hv
 ·rename_i k a k' b
  split at hv
  ·split at hv
   ·cases hv
   ·cases hv
    refine⟨?_,.inl ⟨_,_,rfl⟩⟩
    simp[binOp,Op.shift, *]
  ·split at hv
   ·cases hv
   ·cases hv
    refine⟨?_,.inl ⟨_,_,rfl⟩⟩
    simp[binOp,Op.shift, *]
  ·split at hv
   ·rename_i hk
    subst hk
    split at hv<;>first
     | (cases hv; done)
     | (cases hv; refine ⟨?_, .inl ⟨_, _, rfl⟩⟩; simp [binOp, Op.intArith, Op.intBits]; done)
     | (cases hv; refine ⟨?_, .inr (.inl ⟨_, rfl⟩)⟩; simp [binOp, Op.intCmp]; done)
     | (split at hv <;> first | (cases hv; done) | (cases hv; refine ⟨?_, .inl ⟨_, _, rfl⟩⟩; simp [binOp, Op.intDiv, *]; done))
   ·cases hv
 ·rename_i a b
  split at hv<;>first
   | (cases hv; done)
   | (cases hv; refine ⟨?_, .inr (.inl ⟨_, rfl⟩)⟩; simp [binOp, Op.stringOp]; done)
   | (split at hv <;> first | (cases hv; done) | (rename_i hs; cases hv; refine ⟨?_, .inr (.inr ⟨_, rfl⟩)⟩; simp only [binOp, Op.stringOp]; rw [if_neg (by simp only [IntKind.max, IntKind.signed, IntKind.bits]; omega)]; rfl))
 ·cases hv
theorem run_un {op:UnOp} {x r:Value} (hv:vun op x=some r):(Op.unary op x).run P w= .ok r w∧((∃k n,r= .int k n)∨(∃b,r= .bool b)):=by
 unfold vun at hv
 split at hv
 ·split at hv
  ·cases hv;exact⟨rfl,.inr ⟨_,rfl⟩⟩
  ·cases hv
 ·split at hv
  ·cases hv;exact⟨rfl,.inl ⟨_,_,rfl⟩⟩
  ·cases hv;exact⟨rfl,.inl ⟨_,_,rfl⟩⟩
  ·cases hv
 ·cases hv
theorem run_und {t:TypeId} {d:TypeDesc} (hd:P.underlying t=some d):(underlying t).run P w= .ok d w:=by
 simp[underlying,hd]
theorem run_info {t:TypeId} {i:TypeInfo} (hd:P.info? t=some i):(typeInfo t).run P w= .ok i w:=by
 simp[typeInfo,hd]
theorem run_size {t:TypeId} {n:Nat} (hd:sizeT P t=some n):(sizeOf t).run P w= .ok n w:=by
 unfold sizeT at hd
 cases hi:P.info? t with
 | none => rw [hi] at hd; cases hd
 | some i => rw [hi] at hd; cases hd; simp [sizeOf, run_info hi]
theorem mapS {α β:Type} {f:α→β} {x:Option α} {y:β} (h:x.map f=some y): ∃z,x=some z∧f z=y:=by
 cases x with
 | none => cases h
 | some z => exact ⟨z, rfl, by simpa using h⟩
theorem prodS {x:Option Value} {h h' :VH} {v:Value} (e:x.map (·,h)=some (v,h')):x=some v∧h' =h:=by
 obtain⟨z,hz,e⟩:=mapS e
 cases e
 exact⟨hz,rfl⟩
end
end

/- Each operation of the model, as the virtual interpreter tells it. -/
section
open Go
section
variable {P:Program} {nro:Nat} {φ:Em} {h:VH} {w:World} {env:List Value} {a:Act} {dst:Option Tmp} {ty:TypeId} {pos:String} {after:Array Edge} {guard:Option (Nat × Bool)} {v:Value} {h' :VH} {call:VCall} {op:VOp}
theorem s_move (assign:Bool) (x:Operand) (hc:compOp P ⟨dst,if assign then .assign x else .move x,ty,pos,after,guard⟩=some op) (hR:RH nro φ h.ph w) (hE:RE φ h.ph env a)
  (hv:vop call nro (vev env) h op=some (v,h')):OkRes nro φ h.ph w v h' ((execOp a.eval ⟨dst,if assign then .assign x else .move x,ty,pos,after,guard⟩).run P w):=by
 cases assign<;>
 ·simp only[compOp,Bool.false_eq_true,if_false,if_true]at hc
  split at hc
  ·rename_i hx
   cases hc
   simp only[vop,Option.some.injEq,Prod.mk.injEq]at hv
   obtain⟨rfl,rfl⟩:=hv
   exact .quiet hR rfl (hE.ev hx)
  ·cases hc
theorem s_pick (c x y:Operand) (hc:compOp P ⟨dst,.pick c x y,ty,pos,after,guard⟩=some op) (hR:RH nro φ h.ph w) (hE:RE φ h.ph env a)
  (hv:vop call nro (vev env) h op=some (v,h')):OkRes nro φ h.ph w v h' ((execOp a.eval ⟨dst,.pick c x y,ty,pos,after,guard⟩).run P w):=by
 simp only[compOp]at hc
 split at hc
 ·rename_i hx
  simp only[Bool.and_eq_true]at hx
  cases hc
  simp only[vop]at hv
  split at hv
  ·rename_i t ht
   have hb:=hE.ev hx.1.1
   rw[ht]at hb
   simp only[Option.some.injEq,Prod.mk.injEq]at hv
   obtain⟨rfl,rfl⟩:=hv
   refine .quiet (v' :=if t then a.eval x else a.eval y) hR ?_ ?_
   ·simp[execOp,hb.inv_bool,asBool]
   ·cases t
    ·exact hE.ev hx.2
    ·exact hE.ev hx.1.2
  ·cases hv
 ·cases hc
theorem AtomR.scalar {φ:Em} {L:PH} {r:Value} (h:(∃k n,r= .int k n)∨(∃b,r= .bool b)∨ ∃s,r= .string s):AtomR φ L r r:=by
 rcases h with⟨k,n,rfl⟩|⟨b,rfl⟩|⟨s,rfl⟩
 ·exact .int _ _
 ·exact .bool _
 ·exact .str _
theorem vbin_args {op:BinOp} {x y r:Value} (hv:vbin op x y=some r):((∃k n,x= .int k n)∧(∃k n,y= .int k n))∨((∃s,x= .string s)∧ ∃s,y= .string s):=by
 unfold vbin at hv
 split at hv
 ·exact .inl ⟨⟨_,_,rfl⟩,⟨_,_,rfl⟩⟩
 ·exact .inr ⟨⟨_,rfl⟩,⟨_,rfl⟩⟩
 ·cases hv
theorem run_eqGuard_scalar (op:BinOp) (t:TypeId) (x y:Operand) (u v:Value) (hu: ∀cs,u≠ .agg cs) (hn:u≠ .nilIface):(eqGuard op t x y u v).run P w= .ok () w:=by
 unfold eqGuard
 cases u<;>first
  | (exact absurd rfl (hu _))
  | (exact absurd rfl hn)
  | (cases op <;> simp)
theorem s_bin_core {bop:BinOp} {t yt:TypeId} {x y:Operand} (hR:RH nro φ h.ph w) (hE:RE φ h.ph env a) (hx:okOpd x=true) (hy:okOpd y=true)
  (hv:vop call nro (vev env) h (.bin bop x y)=some (v,h')):OkRes nro φ h.ph w v h' ((execOp a.eval ⟨dst,.binOp bop t x y yt,ty,pos,after,guard⟩).run P w):=by
 simp only[vop]at hv
 obtain⟨hv1,rfl⟩:=prodS hv
 replace hv:=hv1
 clear hv1
 have ex:=hE.ev hx
 have ey:=hE.ev hy
 obtain⟨hr,hs⟩:=run_bin (P:=P) (w:=w) (t:=t) hv
 have key:a.eval x=vev env x∧a.eval y=vev env y∧(∀cs,a.eval x≠ .agg cs)∧a.eval x≠ .nilIface:=by
  rcases vbin_args hv with⟨⟨k,n,e1⟩,⟨k',n',e2⟩⟩|⟨⟨s,e1⟩,⟨s',e2⟩⟩
  ·rw[e1]at ex;rw[e2]at ey
   have ea:=ex.inv_int
   have eb:=ey.inv_int
   exact⟨ea.trans e1.symm,eb.trans e2.symm,(fun _ h=>by rw[ea]at h;cases h),(fun h=>by rw[ea]at h;cases h)⟩
  ·rw[e1]at ex;rw[e2]at ey
   have ea:=ex.inv_str
   have eb:=ey.inv_str
   exact⟨ea.trans e1.symm,eb.trans e2.symm,(fun _ h=>by rw[ea]at h;cases h),(fun h=>by rw[ea]at h;cases h)⟩
 obtain⟨k1,k2,k3,k4⟩:=key
 refine .quiet (v' :=v) hR ?_ (AtomR.scalar hs).top
 simp only[execOp,Sem.run_bind,run_eqGuard_scalar bop t x y _ _ k3 k4,Result.andThen_ok]
 rw[k1,k2,hr]
 rfl
theorem run_eq_of {t:TypeId} {x y:Value} {b:Bool} (he: ∀d,(Op.equalIn (d+1) t x y).run P w= .ok b w):(Op.equal t x y).run P w= .ok b w:=by
 have:=he 9999
 simpa [Op.equal,Op.maxDepth]using this
theorem run_eq_bool {t:TypeId} (ht:P.underlying t=some .bool) (p q:Bool):(Op.equal t (.bool p) (.bool q)).run P w= .ok (p==q) w:=
 run_eq_of fun d=>by simp[Op.equalIn,run_und ht]
theorem run_eq_nilS {t e:TypeId} (ht:P.underlying t=some (.slice e)):(Op.equal t (.slice none 0 0) (.slice none 0 0)).run P w= .ok true w:=
 run_eq_of fun d=>by simp[Op.equalIn,run_und ht]
theorem run_eq_someS {t e:TypeId} (ht:P.underlying t=some (.slice e)) (q:Addr) (m c:Nat):(Op.equal t (.slice (some q) m c) (.slice none 0 0)).run P w= .ok false w:=
 run_eq_of fun d=>by simp[Op.equalIn,run_und ht]
theorem run_eq_nilF {t:TypeId} {ps rs:Array TypeId} {vr:Bool} (ht:P.underlying t=some (.func ps rs vr)):(Op.equal t .nilFunc .nilFunc).run P w= .ok true w:=
 run_eq_of fun d=>by simp[Op.equalIn,run_und ht]
theorem run_eq_someF {t:TypeId} {ps rs:Array TypeId} {vr:Bool} (ht:P.underlying t=some (.func ps rs vr)) (f:Fn) (p q:Array Value):(Op.equal t (.func f p q) .nilFunc).run P w= .ok false w:=
 run_eq_of fun d=>by simp[Op.equalIn,run_und ht]
theorem s_beq_core {neg:Bool} {bop:BinOp} {t yt:TypeId} {x y:Operand} (hop:bop=if neg then .neq else .eql) (ht:P.underlying t=some .bool) (hR:RH nro φ h.ph w) (hE:RE φ h.ph env a) (hx:okOpd x=true) (hy:okOpd y=true)
  (hv:vop call nro (vev env) h (.beq neg x y)=some (v,h')):OkRes nro φ h.ph w v h' ((execOp a.eval ⟨dst,.binOp bop t x y yt,ty,pos,after,guard⟩).run P w):=by
 simp only[vop]at hv
 obtain⟨hv1,rfl⟩:=prodS hv
 replace hv:=hv1
 clear hv1
 have ex:=hE.ev hx
 have ey:=hE.ev hy
 unfold vbeq at hv
 split at hv
 ·rename_i p q e1 e2
  rw[e1]at ex;rw[e2]at ey
  simp only[Option.some.injEq]at hv
  subst hv
  refine .quiet (v' := .bool (if neg then !(p==q)else p==q)) hR ?_ (AtomR.bool _).top
  simp only[execOp,Sem.run_bind,ex.inv_bool,ey.inv_bool]
  rw[run_eqGuard_scalar bop t x y (.bool p) (.bool q) (fun _ h=>by cases h) (fun h=>by cases h)]
  subst hop
  cases neg<;>simp[binOp,run_eq_bool ht]
 ·cases hv
theorem s_eqnilS_core {neg:Bool} {bop:BinOp} {t e yt:TypeId} {x:Operand} (hop:bop=if neg then .neq else .eql) (ht:P.underlying t=some (.slice e)) (hR:RH nro φ h.ph w) (hE:RE φ h.ph env a) (hx:okOpd x=true)
  (hv:vop call nro (vev env) h (.eqnilS neg x)=some (v,h')):OkRes nro φ h.ph w v h' ((execOp a.eval ⟨dst,.binOp bop t x (.const (.slice none 0 0)) yt,ty,pos,after,guard⟩).run P w):=by
 simp only[vop]at hv
 have ex:=hE.ev hx
 split at hv
 ·rename_i e1
  simp only[Option.some.injEq,Prod.mk.injEq]at hv
  obtain⟨rfl,rfl⟩:=hv
  rw[e1]at ex
  have e2:a.eval x= .slice none 0 0:=by
   have:=ex.inv_sl
   generalize a.eval x=z at this
   cases this
   rfl
  refine .quiet (v' := .bool (!neg)) hR ?_ (AtomR.bool _).top
  simp only[execOp,Sem.run_bind,e2]
  rw[run_eqGuard_scalar bop t x _ (.slice none 0 0) _ (fun _ h=>by cases h) (fun h=>by cases h)]
  subst hop
  cases neg<;>simp[binOp,Act.eval,run_eq_nilS ht]
 ·rename_i p n tot e1
  rw[e1]at ex
  split at hv
  ·rename_i o ho
   split at hv
   ·rename_i htot
    simp only[Option.some.injEq,Prod.mk.injEq]at hv
    obtain⟨rfl,rfl⟩:=hv
    have:=ex.inv_sl
    obtain⟨q,m,c,e2⟩: ∃q m c,a.eval x= .slice (some q) m c:=by
     generalize a.eval x=z at this
     cases this with
     | sl => exact ⟨_, _, _, rfl⟩
     | slS hL ht' h1 => rw [show (VH.ph h) _ = some o from ho] at hL; cases hL; omega
    refine .quiet (v' := .bool neg) hR ?_ (AtomR.bool _).top
    simp only[execOp,Sem.run_bind,e2]
    rw[run_eqGuard_scalar bop t x _ (.slice (some q) m c) _ (fun _ h=>by cases h) (fun h=>by cases h)]
    subst hop
    cases neg<;>simp[binOp,Act.eval,run_eq_someS ht]
   ·cases hv
  ·cases hv
 ·cases hv
theorem s_eqnilF_core {neg:Bool} {bop:BinOp} {t yt:TypeId} {ps rs:Array TypeId} {vr:Bool} {x:Operand} (hop:bop=if neg then .neq else .eql) (ht:P.underlying t=some (.func ps rs vr)) (hR:RH nro φ h.ph w) (hE:RE φ h.ph env a) (hx:okOpd x=true)
  (hv:vop call nro (vev env) h (.eqnilF neg x)=some (v,h')):OkRes nro φ h.ph w v h' ((execOp a.eval ⟨dst,.binOp bop t x (.const .nilFunc) yt,ty,pos,after,guard⟩).run P w):=by
 simp only[vop]at hv
 have ex:=hE.ev hx
 split at hv
 ·rename_i e1
  simp only[Option.some.injEq,Prod.mk.injEq]at hv
  obtain⟨rfl,rfl⟩:=hv
  rw[e1]at ex
  refine .quiet (v' := .bool (!neg)) hR ?_ (AtomR.bool _).top
  simp only[execOp,Sem.run_bind,ex.inv_nilF]
  rw[run_eqGuard_scalar bop t x _ .nilFunc _ (fun _ h=>by cases h) (fun h=>by cases h)]
  subst hop
  cases neg<;>simp[binOp,Act.eval,run_eq_nilF ht]
 ·rename_i f p q e1
  rw[e1]at ex
  simp only[Option.some.injEq,Prod.mk.injEq]at hv
  obtain⟨rfl,rfl⟩:=hv
  obtain⟨g,a',c',_,e2,_,_⟩:=ex.inv_fn
  refine .quiet (v' := .bool neg) hR ?_ (AtomR.bool _).top
  simp only[execOp,Sem.run_bind,e2]
  rw[run_eqGuard_scalar bop t x _ (.func (.func g) a' c') _ (fun _ h=>by cases h) (fun h=>by cases h)]
  subst hop
  cases neg<;>simp[binOp,Act.eval,run_eq_someF ht]
 ·cases hv
theorem s_bin (bop:BinOp) (t yt:TypeId) (x y:Operand) (hc:compOp P ⟨dst,.binOp bop t x y yt,ty,pos,after,guard⟩=some op) (hR:RH nro φ h.ph w) (hE:RE φ h.ph env a)
  (hv:vop call nro (vev env) h op=some (v,h')):OkRes nro φ h.ph w v h' ((execOp a.eval ⟨dst,.binOp bop t x y yt,ty,pos,after,guard⟩).run P w):=by
 simp only[compOp]at hc
 split at hc
 ·rename_i hx
  simp only[Bool.and_eq_true]at hx
  obtain⟨hx,hy⟩:=hx
  split at hc
  ·split at hc
   ·rename_i ht;cases hc;exact s_beq_core (neg:=false) rfl ht hR hE hx hy hv
   ·cases hc;exact s_bin_core hR hE hx hy hv
   ·cases hc;exact s_bin_core hR hE hx hy hv
   ·rename_i ht
    split at hc
    ·cases hc;exact s_eqnilS_core (neg:=false) rfl ht hR hE hx hv
    ·cases hc
   ·rename_i ht
    split at hc
    ·cases hc;exact s_eqnilF_core (neg:=false) rfl ht hR hE hx hv
    ·cases hc
   ·cases hc
  ·split at hc
   ·rename_i ht;cases hc;exact s_beq_core (neg:=true) rfl ht hR hE hx hy hv
   ·cases hc;exact s_bin_core hR hE hx hy hv
   ·cases hc;exact s_bin_core hR hE hx hy hv
   ·rename_i ht
    split at hc
    ·cases hc;exact s_eqnilS_core (neg:=true) rfl ht hR hE hx hv
    ·cases hc
   ·rename_i ht
    split at hc
    ·cases hc;exact s_eqnilF_core (neg:=true) rfl ht hR hE hx hv
    ·cases hc
   ·cases hc
  ·cases hc;exact s_bin_core hR hE hx hy hv
 ·cases hc
theorem s_un (uop:UnOp) (t:TypeId) (x:Operand) (hc:compOp P ⟨dst,.unOp uop t x,ty,pos,after,guard⟩=some op) (hR:RH nro φ h.ph w) (hE:RE φ h.ph env a)
  (hv:vop call nro (vev env) h op=some (v,h')):OkRes nro φ h.ph w v h' ((execOp a.eval ⟨dst,.unOp uop t x,ty,pos,after,guard⟩).run P w):=by
 simp only[compOp]at hc
 split at hc
 ·rename_i hx
  cases hc
  simp only[vop]at hv
  obtain⟨hv1,rfl⟩:=prodS hv
  replace hv:=hv1
  clear hv1
  have ex:=hE.ev hx
  obtain⟨hr,hs⟩:=run_un (P:=P) (w:=w) hv
  have e:a.eval x=vev env x:=by
   unfold vun at hv
   split at hv
   ·rename_i e1;rw[e1]at ex⊢;exact ex.inv_bool
   ·rename_i e1;rw[e1]at ex⊢;exact ex.inv_int
   ·cases hv
  refine .quiet (v' :=v) hR ?_ (AtomR.scalar (by rcases hs with h|h;exact .inl h;exact .inr (.inl h))).top
  simp only[execOp,Sem.run_bind,e,hr,Result.andThen_ok]
  rfl
 ·cases hc
theorem s_convert (t u:TypeId) (x:Operand) (hc:compOp P ⟨dst,.convert t u x,ty,pos,after,guard⟩=some op) (hR:RH nro φ h.ph w) (hE:RE φ h.ph env a)
  (hv:vop call nro (vev env) h op=some (v,h')):OkRes nro φ h.ph w v h' ((execOp a.eval ⟨dst,.convert t u x,ty,pos,after,guard⟩).run P w):=by
 simp only[compOp]at hc
 split at hc
 ·rename_i hx
  have ex:=hE.ev hx
  split at hc
  ·rename_i d k hd hk
   cases hc
   simp only[vop]at hv
   split at hv
   ·rename_i k0 n e1
    rw[e1]at ex
    simp only[Option.some.injEq,Prod.mk.injEq]at hv
    obtain⟨rfl,rfl⟩:=hv
    refine .quiet (v' := .int k (k.wrap n)) hR ?_ (AtomR.int _ _).top
    simp[execOp,convert,run_und hd,run_und hk,ex.inv_int,Conv.intToInt]
   ·cases hv
  ·rename_i hd hk
   cases hc
   simp only[vop]at hv
   split at hv
   ·rename_i s e1
    rw[e1]at ex
    simp only[Option.some.injEq,Prod.mk.injEq]at hv
    obtain⟨rfl,rfl⟩:=hv
    refine .quiet (v' := .string s) hR ?_ (AtomR.str _).top
    simp[execOp,convert,run_und hd,run_und hk,ex.inv_str]
   ·cases hv
  ·cases hc
 ·cases hc
theorem AtomR.inv_ptr_some {φ:Em} {h:VH} {i k tot:Nat} {o:VO} {v' :Value} (hr:AtomR φ h.ph (.pointer (some ⟨i,k,some tot⟩)) v') (ho:h[i]? =some o) (ht:tot=o.cells.length):
  v' = .pointer (some ⟨(φ i).b,(φ i).off+k,none⟩):=by
 cases hr with
 | ptr => rfl
 | ptrS hL ht' _ => rw [show (VH.ph h) _ = some o from ho] at hL; cases hL; omega
theorem AtomR.inv_sl_some {φ:Em} {h:VH} {i k n tot:Nat} {o:VO} {v' :Value} (hr:AtomR φ h.ph (.slice (some ⟨i,k,none⟩) n tot) v') (ho:h[i]? =some o) (ht:tot=o.cells.length):
  ∃q c,v' = .slice (some q) n c∧k+n * o.sz≤tot∧1≤o.sz∧n≤c∧k+c * o.sz≤(φ i).cap∧(c=0∨q=⟨(φ i).b,(φ i).off+k,none⟩):=by
 cases hr with
 | sl hL ht' hk hs hc hcap ha => rw [show (VH.ph h) _ = some o from ho] at hL; cases hL; exact ⟨_, _, rfl, hk, hs, hc, hcap, ha⟩
 | slS hL ht' _ => rw [show (VH.ph h) _ = some o from ho] at hL; cases hL; omega
theorem AtomR.spot_ptr {φ:Em} {L:PH} {p:Addr} {v' :Value} (hr:AtomR φ L (.pointer (some p)) v'): ∃i k tot,p=⟨i,k,some tot⟩:=by
 cases hr with
 | ptr => exact ⟨_, _, _, rfl⟩
 | ptrS => exact ⟨_, _, _, rfl⟩
theorem AtomR.spot_sl {φ:Em} {L:PH} {p:Addr} {n c:Nat} {v' :Value} (hr:AtomR φ L (.slice (some p) n c) v'): ∃i k,p=⟨i,k,none⟩:=by
 cases hr with
 | sl => exact ⟨_, _, rfl⟩
 | slS => exact ⟨_, _, rfl⟩
theorem vlive_spec {h:VH} {a:Addr} (hl:vlive h a=true): ∃o,h[a.block]? =some o∧a.spot=some o.cells.length:=by
 unfold vlive at hl
 split at hl
 ·rename_i o ho;exact⟨o,ho,by simpa using hl⟩
 ·cases hl
theorem TopR.live {φ:Em} {h:VH} {p:Addr} {v' :Value} (hr:TopR φ h.ph (.pointer (some p)) v') (hl:vlive h p=true):
  ∃i k o,h[i]? =some o∧p=⟨i,k,some o.cells.length⟩∧v' = .pointer (some ⟨(φ i).b,(φ i).off+k,none⟩):=by
 have hp:=hr.inv_ptr
 obtain⟨i,k,tot,rfl⟩:=hp.spot_ptr
 obtain⟨o,ho,ht⟩:=vlive_spec hl
 simp only[Option.some.injEq]at ht
 subst ht
 exact⟨i,k,o,ho,rfl,hp.inv_ptr_some ho rfl⟩
theorem s_nilCheck (x:Operand) (hc:compOp P ⟨dst,.nilCheck x,ty,pos,after,guard⟩=some op) (hR:RH nro φ h.ph w) (hE:RE φ h.ph env a)
  (hv:vop call nro (vev env) h op=some (v,h')):OkRes nro φ h.ph w v h' ((execOp a.eval ⟨dst,.nilCheck x,ty,pos,after,guard⟩).run P w):=by
 simp only[compOp]at hc
 split at hc
 ·rename_i hx
  cases hc
  have ex:=hE.ev hx
  simp only[vop]at hv
  split at hv
  ·rename_i p e1
   rw[e1]at ex
   split at hv
   ·rename_i hl
    simp only[Option.some.injEq,Prod.mk.injEq]at hv
    obtain⟨rfl,rfl⟩:=hv
    refine .quiet (v' :=a.eval x) hR ?_ ex
    obtain⟨i,k,o,ho,rfl,e2⟩:=ex.live hl
    simp[execOp,e2]
   ·cases hv
  ·rename_i f p q e1
   rw[e1]at ex
   simp only[Option.some.injEq,Prod.mk.injEq]at hv
   obtain⟨rfl,rfl⟩:=hv
   obtain⟨g,a',c',_,e2,_,_⟩:=ex.inv_fn
   refine .quiet (v' :=a.eval x) hR ?_ ex
   simp[execOp,e2]
  ·cases hv
 ·cases hc
theorem Addr.add_mk (b o n:Nat):Addr.add ⟨b,o,none⟩ n=⟨b,o+n,none⟩:=by
 unfold Addr.add
 split
 ·subst_vars;rfl
 ·rfl
theorem s_fieldAddr (t : TypeId) (x : Operand) (f : Nat) (hc : compOp P ⟨dst, .fieldAddr t x f, ty, pos, after, guard⟩ = some op) (hR : RH nro φ h.ph w) (hE : RE φ h.ph env a)
  (hv:vop call nro (vev env) h op=some (v,h')):OkRes nro φ h.ph w v h' ((execOp a.eval ⟨dst,.fieldAddr t x f,ty,pos,after,guard⟩).run P w):=by
 simp only[compOp]at hc
 split at hc
 ·rename_i hx
  split at hc
  ·rename_i fields hf
   split at hc
   ·rename_i fd hfd
    split at hc
    ·rename_i n hn
     split at hc
     ·rename_i h1
      cases hc
      have ex:=hE.ev hx
      simp only[vop]at hv
      split at hv
      ·rename_i p e1
       rw[e1]at ex
       split at hv
       ·rename_i hl
        simp only[Option.some.injEq,Prod.mk.injEq]at hv
        obtain⟨rfl,rfl⟩:=hv
        obtain⟨i,k,o,ho,rfl,e2⟩:=ex.live hl
        refine .quiet (v' := .pointer (some ⟨(φ i).b,(φ i).off+(k+fd.offset),none⟩)) hR ?_ (AtomR.ptr ho rfl).top
        have hn0: ¬n=0:=by omega
        simp[execOp,Instr.fieldAt,run_und hf,hfd,e2,Instr.sureAddr,fieldPlace,run_size hn,hn0,Addr.add_mk,Nat.add_assoc]
       ·cases hv
      ·cases hv
     ·cases hc
    ·cases hc
   ·cases hc
  ·cases hc
 ·cases hc
theorem run_isAgg {t:TypeId} {b:Bool} (hd:isAggT P t=some b):(isAgg t).run P w= .ok b w:=by
 unfold isAggT at hd
 split at hd
 ·rename_i hu;cases hd;simp[isAgg,run_und hu]
 ·rename_i hu;cases hd;simp[isAgg,run_und hu]
 ·rename_i d h1 h2 hu
  cases hd
  simp only[isAgg,Sem.run_bind,run_und hu,Result.andThen_ok]
  rfl
 ·cases hd
theorem All2.extract {α β:Type} {R:α→β→Prop}: ∀ {as:List α} {bs:List β} (i n:Nat),All2 R as bs→All2 R ((as.drop i).take n) ((bs.drop i).take n)
 | _, _, i, n, .nil => by simp; exact .nil
 | _, _, i + 1, n, .cons _ t => by simpa using All2.extract i n t
 | _, _, 0, 0, .cons _ t => by simp; exact .nil
 | _, _, 0, n + 1, .cons h t => by simpa using All2.cons h (by simpa using All2.extract 0 n t)
theorem s_field (t:TypeId) (x:Operand) (f:Nat) (hc:compOp P ⟨dst,.field t x f,ty,pos,after,guard⟩=some op) (hR:RH nro φ h.ph w) (hE:RE φ h.ph env a)
  (hv:vop call nro (vev env) h op=some (v,h')):OkRes nro φ h.ph w v h' ((execOp a.eval ⟨dst,.field t x f,ty,pos,after,guard⟩).run P w):=by
 simp only[compOp]at hc
 split at hc
 ·rename_i hx
  have ex:=hE.ev hx
  split at hc
  ·rename_i fields hf
   split at hc
   ·rename_i fd hfd
    split at hc
    ·rename_i n ha hn
     cases hc
     simp only[vop]at hv
     split at hv
     ·rename_i cs e1
      rw[e1]at ex
      obtain⟨cs',e2,hcs⟩:=ex.inv_agg
      split at hv
      ·rename_i hle
       simp only[if_true,Option.some.injEq,Prod.mk.injEq]at hv
       obtain⟨rfl,rfl⟩:=hv
       refine .quiet (v' := .agg (cs'.extract fd.offset (fd.offset+n))) hR ?_ (.val (.agg ?_))
       ·simp[execOp,Instr.field,run_und hf,hfd,e2,asAgg,part,run_isAgg ha,run_size hn]
       ·have:=hcs.extract fd.offset n
        simpa [Array.toList_extract,List.extract_eq_take_drop]using this
      ·cases hv
     ·cases hv
    ·rename_i ha hn
     cases hc
     simp only[vop]at hv
     split at hv
     ·rename_i cs e1
      rw[e1]at ex
      obtain⟨cs',e2,hcs⟩:=ex.inv_agg
      split at hv
      ·rename_i hle
       simp only[Bool.false_eq_true,if_false]at hv
       split at hv
       ·rename_i u hu
        simp only[Option.some.injEq,Prod.mk.injEq]at hv
        obtain⟨rfl,rfl⟩:=hv
        obtain⟨u',hu',hr⟩:=hcs.get' fd.offset u (by simpa using hu)
        have hu2:cs'[fd.offset]? =some u' :=by simpa using hu'
        refine .quiet (v' :=u') hR ?_ (.val (.cell hr))
        simp[execOp,Instr.field,run_und hf,hfd,e2,asAgg,part,run_isAgg ha,hu2]
       ·cases hv
      ·cases hv
     ·cases hv
    ·cases hc
   ·cases hc
  ·cases hc
 ·cases hc
theorem s_indexAddr (t:TypeId) (s i:Operand) (hc:compOp P ⟨dst,.indexAddr t s i,ty,pos,after,guard⟩=some op) (hR:RH nro φ h.ph w) (hE:RE φ h.ph env a)
  (hv:vop call nro (vev env) h op=some (v,h')):OkRes nro φ h.ph w v h' ((execOp a.eval ⟨dst,.indexAddr t s i,ty,pos,after,guard⟩).run P w):=by
 simp only[compOp]at hc
 split at hc
 ·rename_i hx
  simp only[Bool.and_eq_true]at hx
  obtain⟨hx,hi⟩:=hx
  have ex:=hE.ev hx
  have ei:=hE.ev hi
  split at hc
  ·rename_i e he
   split at hc
   ·rename_i n hn
    split at hc
    ·rename_i h1
     cases hc
     simp only[vop]at hv
     split at hv
     ·rename_i p m tot k j e1 e2
      rw[e1]at ex
      rw[e2]at ei
      split at hv
      ·rename_i o ho
       split at hv
       ·rename_i hcond
        obtain⟨hsz,htot,hj0,hj1⟩:=hcond
        simp only[Option.some.injEq,Prod.mk.injEq]at hv
        obtain⟨rfl,rfl⟩:=hv
        have hs:=ex.inv_sl
        obtain⟨q,k',rfl⟩:=hs.spot_sl
        obtain⟨r,c,e3,hk,h1',hc,hcap,ha⟩:=hs.inv_sl_some ho htot
        have hr:r=⟨(φ q).b,(φ q).off+k',none⟩:=ha.resolve_left (by omega)
        subst hr
        refine .quiet (v' := .pointer (some ⟨(φ q).b,(φ q).off+(k' +j.toNat * n),none⟩)) hR ?_ (AtomR.ptr ho htot).top
        simp[execOp,Instr.indexAt,ei.inv_int,asIntOf,run_und he,e3,run_size hn,hj0,hj1,Addr.add_mk,Nat.add_assoc]
       ·cases hv
      ·cases hv
     ·cases hv
    ·cases hc
   ·cases hc
  ·cases hc
 ·cases hc
theorem s_index (t:TypeId) (s i:Operand) (hc:compOp P ⟨dst,.index t s i,ty,pos,after,guard⟩=some op) (hR:RH nro φ h.ph w) (hE:RE φ h.ph env a)
  (hv:vop call nro (vev env) h op=some (v,h')):OkRes nro φ h.ph w v h' ((execOp a.eval ⟨dst,.index t s i,ty,pos,after,guard⟩).run P w):=by
 simp only[compOp]at hc
 split at hc
 ·rename_i hx
  simp only[Bool.and_eq_true]at hx
  obtain⟨hx,hi⟩:=hx
  have ex:=hE.ev hx
  have ei:=hE.ev hi
  split at hc
  ·rename_i he
   cases hc
   simp only[vop]at hv
   split at hv
   ·rename_i b k j e1 e2
    rw[e1]at ex
    rw[e2]at ei
    split at hv
    ·rename_i y hy
     simp only[Option.some.injEq,Prod.mk.injEq]at hv
     obtain⟨rfl,rfl⟩:=hv
     refine .quiet (v' := .int .u8 y.toNat) hR ?_ (AtomR.int _ _).top
     simp[execOp,Instr.index,ei.inv_int,asIntOf,run_und he,ex.inv_str,hy]
    ·cases hv
   ·cases hv
  ·cases hc
 ·cases hc
theorem s_extract (x:Operand) (i:Nat) (hc:compOp P ⟨dst,.extract x i,ty,pos,after,guard⟩=some op) (hR:RH nro φ h.ph w) (hE:RE φ h.ph env a)
  (hv:vop call nro (vev env) h op=some (v,h')):OkRes nro φ h.ph w v h' ((execOp a.eval ⟨dst,.extract x i,ty,pos,after,guard⟩).run P w):=by
 simp only[compOp]at hc
 split at hc
 ·rename_i hx
  have ex:=hE.ev hx
  cases hc
  simp only[vop]at hv
  split at hv
  ·rename_i vs e1
   rw[e1]at ex
   obtain⟨vs',e2,hvs⟩:=ex.inv_tup
   split at hv
   ·rename_i u hu
    simp only[Option.some.injEq,Prod.mk.injEq]at hv
    obtain⟨rfl,rfl⟩:=hv
    obtain⟨u',hu',hr⟩:=hvs.get' i u (by simpa using hu)
    have hu2:vs'[i]? =some u' :=by simpa using hu'
    refine .quiet (v' :=u') hR ?_ (.val hr)
    simp[execOp,Instr.extract,e2,hu2]
   ·cases hv
  ·cases hv
 ·cases hc
end
end

/- Operations, further: slices of slices, lengths, least and greatest, function values, loads, literals of structs. -/
section
open Go
section
variable {P:Program} {nro:Nat} {φ:Em} {h:VH} {w:World} {env:List Value} {a:Act} {dst:Option Tmp} {ty:TypeId} {pos:String} {after:Array Edge} {guard:Option (Nat × Bool)} {v:Value} {h' :VH} {call:VCall} {op:VOp}
theorem All2.of_map {φ:Em} {h:VH} {env:List Value} {a:Act} (hE:RE φ h.ph env a): ∀(xs:List Operand),xs.all okOpd=true→All2 (TopR φ h.ph) (xs.map (vev env)) (xs.map a.eval)
 | [], _ => .nil
 | x :: xs, hx => by
  simp only[List.all_cons,Bool.and_eq_true]at hx
  exact .cons (hE.ev hx.1) (All2.of_map hE xs hx.2)
theorem s_len (c:Call) (t:TypeId) (x:Operand) (str:Bool) (hcl:c.callee= .builtin .len) (hargs:c.args= #[x]) (hts:c.argTypes= #[t]) (hx:okOpd x=true) (ht:if str then P.underlying t=some .string else∃e,P.underlying t=some (.slice e))
  (hR:RH nro φ h.ph w) (hE:RE φ h.ph env a) (hv:vop call nro (vev env) h (if str then .lenStr x else .len x)=some (v,h')):OkRes nro φ h.ph w v h' ((execOp a.eval ⟨dst,.call c,ty,pos,after,guard⟩).run P w):=by
 have ex:=hE.ev hx
 cases str with
 | true =>
  simp only[if_true]at ht hv
  simp only[vop]at hv
  split at hv
  ·rename_i s e1
   rw[e1]at ex
   simp only[Option.some.injEq,Prod.mk.injEq]at hv
   obtain⟨rfl,rfl⟩:=hv
   refine .quiet (v' := .int .i64 s.size) hR ?_ (AtomR.int _ _).top
   simp[execOp,resolve,hcl,hargs,hts,invoke,builtin,Builtin.len_,ex.inv_str,run_und ht,goInt]
  ·cases hv
 | false =>
  simp only[Bool.false_eq_true,if_false]at ht hv
  obtain⟨e,ht⟩:=ht
  simp only[vop]at hv
  split at hv
  ·rename_i e1
   rw[e1]at ex
   simp only[Option.some.injEq,Prod.mk.injEq]at hv
   obtain⟨rfl,rfl⟩:=hv
   have e2:a.eval x= .slice none 0 0:=by
    have:=ex.inv_sl
    generalize a.eval x=z at this
    cases this
    rfl
   refine .quiet (v' := .int .i64 0) hR ?_ (AtomR.int _ _).top
   simp[execOp,resolve,hcl,hargs,hts,invoke,builtin,Builtin.len_,e2,run_und ht,goInt]
  ·rename_i e1
   rw[e1]at ex
   simp only[Option.some.injEq,Prod.mk.injEq]at hv
   obtain⟨rfl,rfl⟩:=hv
   obtain⟨q,c',e2⟩: ∃q c',a.eval x= .slice (some q) 0 c' :=by
    have:=ex.inv_sl
    generalize a.eval x=z at this
    cases this with
    | slE q c => exact ⟨q, c, rfl⟩
   refine .quiet (v' := .int .i64 0) hR ?_ (AtomR.int _ _).top
   simp[execOp,resolve,hcl,hargs,hts,invoke,builtin,Builtin.len_,e2,run_und ht,goInt]
  ·rename_i p n tot e1
   rw[e1]at ex
   split at hv
   ·rename_i o ho
    split at hv
    ·rename_i htot
     simp only[Option.some.injEq,Prod.mk.injEq]at hv
     obtain⟨rfl,rfl⟩:=hv
     have hs:=ex.inv_sl
     obtain⟨q,k',rfl⟩:=hs.spot_sl
     obtain⟨r,c',e3,_⟩:=hs.inv_sl_some ho htot
     refine .quiet (v' := .int .i64 n) hR ?_ (AtomR.int _ _).top
     simp[execOp,resolve,hcl,hargs,hts,invoke,builtin,Builtin.len_,e3,run_und ht,goInt]
    ·cases hv
   ·cases hv
  ·cases hv
theorem vminmaxL_int {mx:Bool}: ∀ {xs:List Value} {x r:Value},vminmaxL mx x xs=some r→(∃k n,x= .int k n)→(∃k n,r= .int k n)∧(xs.foldlM (if mx then Builtin.max2 else Builtin.min2) x).run P w= .ok r w∧ ∀y∈xs,∃k n,y= .int k n
 | [], x, r, hv, hx => by
  cases hv
  exact⟨hx,rfl,fun _ h=>by cases h⟩
 | y :: ys, x, r, hv, hx => by
  obtain⟨k,n,rfl⟩:=hx
  simp only[vminmaxL]at hv
  split at hv
  ·rename_i z hz
   unfold vminmax2 at hz
   split at hz
   ·rename_i k1 a1 k2 b1 e1
    cases e1
    split at hz
    ·rename_i hk
     subst hk
     cases hz
     obtain⟨h1,h2,h3⟩:=vminmaxL_int (mx:=mx) hv ⟨_,_,rfl⟩
     refine⟨h1,?_,fun q hq=>by rcases List.mem_cons.mp hq with rfl|hq;exact⟨_,_,rfl⟩;exact h3 q hq⟩
     cases mx<;>simp only[List.foldlM_cons,Sem.run_bind,if_true,Bool.false_eq_true,if_false]at h2⊢
     ·simp only[Builtin.min2,Sem.run_pure,Result.andThen_ok];exact h2
     ·simp only[Builtin.max2,Sem.run_pure,Result.andThen_ok];exact h2
    ·cases hz
   ·cases hz
  ·cases hv
theorem All2.ints {φ:Em} {L:PH}: ∀ {xs ys:List Value},All2 (TopR φ L) xs ys→(∀y∈xs,∃k n,y= .int k n)→ys=xs
 | _, _, .nil, _ => rfl
 | _, _, .cons (a := x) hr t, hx => by
  obtain⟨k,n,rfl⟩:=hx x (by simp)
  rw[hr.inv_int,All2.ints t fun y hy=>hx y (by simp[hy])]
theorem s_minmax (c:Call) (mx:Bool) (hcl:c.callee= .builtin (if mx then .max else .min)) (hx:okL c.args=true)
  (hR:RH nro φ h.ph w) (hE:RE φ h.ph env a) (hv:vop call nro (vev env) h (.minmax mx c.args.toList)=some (v,h')):OkRes nro φ h.ph w v h' ((execOp a.eval ⟨dst,.call c,ty,pos,after,guard⟩).run P w):=by
 have ea:=All2.of_map hE c.args.toList hx
 simp only[vop]at hv
 obtain⟨hv1,rfl⟩:=prodS hv
 generalize hl:List.map (vev env) c.args.toList=l at hv1 ea
 match l,hl,hv1,ea with
 | [], _, hv1, _ => cases hv1
 | [_], _, hv1, _ => cases hv1
 | x :: y :: r, _, hv1, ea =>
  simp only[vminmax]at hv1
  have hxi: ∃k n,x= .int k n:=by
   simp only[vminmaxL]at hv1
   split at hv1
   ·rename_i z hz
    unfold vminmax2 at hz
    split at hz
    ·exact⟨_,_,rfl⟩
    ·cases hz
   ·cases hv1
  obtain⟨⟨k,n,rfl⟩,h2,h3⟩:=vminmaxL_int (P:=P) (w:=w) hv1 hxi
  have e2:=ea.ints fun q hq=>by rcases List.mem_cons.mp hq with rfl|hq;exact hxi;exact h3 q hq
  refine .quiet (v' := .int k n) hR ?_ (AtomR.int _ _).top
  have e3:(c.args.map a.eval).toList=x::y::r:=by rw[Array.toList_map];exact e2
  have e4:c.args.map a.eval=(x::y::r).toArray:=by rw[←e3]
  cases mx<;>simp only[if_true,Bool.false_eq_true,if_false]at hcl h2
  ·have e5:(Builtin.min_ c.argTypes ty (x::y::r).toArray).run P w= .ok (.int k n) w:=h2
   simp only[execOp,resolve,hcl,Sem.run_bind,Sem.run_pure,Result.andThen_ok,invoke,builtin,e4,e5]
  ·have e5:(Builtin.max_ c.argTypes ty (x::y::r).toArray).run P w= .ok (.int k n) w:=h2
   simp only[execOp,resolve,hcl,Sem.run_bind,Sem.run_pure,Result.andThen_ok,invoke,builtin,e4,e5]
theorem All2.atoms {φ:Em} {L:PH}: ∀ {xs ys:List Value},All2 (TopR φ L) xs ys→xs.all isAtom=true→All2 (AtomR φ L) xs ys
 | _, _, .nil, _ => .nil
 | _, _, .cons (a := x) hr t, hx => by
  simp only[List.all_cons,Bool.and_eq_true]at hx
  refine .cons ?_ (All2.atoms t hx.2)
  have hx1:=hx.1
  cases hr with
  | val hr => cases hr with
   | cell hr => cases hr with
    | atom hr => exact hr
    | func => simp [isAtom] at hx1
   | agg => simp [isAtom] at hx1
  | tup => simp [isAtom] at hx1
theorem s_makeFunc (f:Nat) (first caps:Array Operand) (hc:compOp P ⟨dst,.makeFunc (.func f) first caps,ty,pos,after,guard⟩=some op) (hR:RH nro φ h.ph w) (hE:RE φ h.ph env a)
  (hv:vop call nro (vev env) h op=some (v,h')):OkRes nro φ h.ph w v h' ((execOp a.eval ⟨dst,.makeFunc (.func f) first caps,ty,pos,after,guard⟩).run P w):=by
 simp only[compOp]at hc
 split at hc
 ·rename_i hx
  simp only[Bool.and_eq_true]at hx
  cases hc
  simp only[vop]at hv
  split at hv
  ·rename_i hat
   simp only[Bool.and_eq_true]at hat
   simp only[Option.some.injEq,Prod.mk.injEq]at hv
   obtain⟨rfl,rfl⟩:=hv
   refine .quiet (v' := .func (.func f) (first.map a.eval) (caps.map a.eval)) hR ?_ (.val (.cell (.func f ?_ ?_)))
   ·simp[execOp,Instr.makeFunc]
   ·simpa using(All2.of_map hE first.toList hx.1).atoms hat.1
   ·simpa using(All2.of_map hE caps.toList hx.2).atoms hat.2
  ·cases hv
 ·cases hc
end
end

/- Operations, further: loads, slices of slices, literals of structs. -/
section
open Go
theorem All2.of_get {α β:Type} {R:α→β→Prop}: ∀ {as:List α} {bs:List β},as.length=bs.length→(∀(j:Nat) x y,as[j]? =some x→bs[j]? =some y→R x y)→All2 R as bs
 | [], [], _, _ => .nil
 | [], _ :: _, h, _ => by simp at h
 | _ :: _, [], h, _ => by simp at h
 | a :: as, b :: bs, h, hr => .cons (hr 0 a b rfl rfl) (All2.of_get (by simpa using h) fun j x y hx hy => hr (j + 1) x y (by simpa using hx) (by simpa using hy))
theorem RH.read {nro:Nat} {φ:Em} {L:PH} {w:World} (hR:RH nro φ L w) {i:Nat} {o:VO} (ho:L i=some o) (k n:Nat) (hk:k+n≤o.cells.length):
  ∃cs',All2 (CellR φ L) ((o.cells.drop k).take n) cs' ∧cs'.length=n∧ ∀(j:Nat) v,cs'[j]? =some v→w.cell? ⟨(φ i).b,(φ i).off+k+j,none⟩=some v:=by
 obtain⟨C,ty,fz,hb,hc,_⟩:=hR.cells i o ho
 cases n with
 | zero => exact ⟨[], .nil, rfl, fun j v h => by simp at h⟩
 | succ m =>
  have hl:(φ i).off+(k+m)<C.size:=by
   obtain⟨v',hv',_⟩:=hc (k+m) o.cells[k+m] (by first|(simp;done)|(simp;omega))
   exact(Array.getElem?_eq_some_iff.mp hv').1
  refine⟨(C.toList.drop ((φ i).off+k)).take (m+1),?_,by first|(simp;done)|(simp;omega),?_⟩
  ·refine All2.of_get (by first|(simp;done)|(simp;omega)) fun j x y hx hy=> ?_
   simp only[List.getElem?_take,List.getElem?_drop]at hx hy
   split at hx
   ·rename_i hj
    rw[if_pos hj]at hy
    obtain⟨v',hv',hr⟩:=hc (k+j) x hx
    rw[show(φ i).off+(k+j)=(φ i).off+k+j by omega]at hv'
    have:C[(φ i).off+k+j]? =some y:=by simpa using hy
    rw[this]at hv'
    cases hv'
    exact hr
   ·cases hx
  ·intro j v hv
   simp only[List.getElem?_take,List.getElem?_drop]at hv
   split at hv
   ·have:C[(φ i).off+k+j]? =some v:=by simpa using hv
    simp[World.cell?,hb,this]
   ·cases hv
section
variable {P:Program} {nro:Nat} {φ:Em} {h:VH} {w:World} {env:List Value} {a:Act} {dst:Option Tmp} {ty:TypeId} {pos:String} {after:Array Edge} {guard:Option (Nat × Bool)} {v:Value} {h' :VH} {call:VCall} {op:VOp}
theorem vget_spec {h:VH} {p:Addr} {n:Nat} {cs:List Value} (hg:vget h p n=some cs): ∃o,h[p.block]? =some o∧p.spot=some o.cells.length∧p.off+n≤o.cells.length∧cs=(o.cells.drop p.off).take n:=by
 unfold vget at hg
 split at hg
 ·rename_i o ho
  split at hg
  ·rename_i hc
   cases hg
   exact⟨o,ho,hc.1,hc.2,rfl⟩
  ·cases hg
 ·cases hg
theorem run_loadVar_of {t:TypeId} {agg:Bool} {n:Nat} {p:Value} {v v' :Value} (ha:isAggT P t=some agg) (hn:sizeT P t=some n) (h1:agg=false→n=1) (hR:RH nro φ h.ph w) (hp:TopR φ h.ph p v')
  (hl:vload agg n h p=some v): ∃q u,v' = .pointer (some q)∧(loadVar t q).run P w= .ok u w∧ValR φ h.ph v u:=by
 unfold vload at hl
 split at hl
 ·rename_i p
  split at hl
  ·rename_i cs hg
   obtain⟨o,ho,hs,hk,rfl⟩:=vget_spec hg
   obtain⟨i,k,sp⟩:=p
   simp only at ho hs hk hg hl
   subst hs
   have e:=hp.inv_ptr.inv_ptr_some ho rfl
   obtain⟨cs',hr,hlen,hcell⟩:=hR.read ho k n hk
   refine⟨⟨(φ i).b,(φ i).off+k,none⟩,?_⟩
   cases agg with
   | true =>
    simp only[if_true,Option.some.injEq]at hl
    subst hl
    refine⟨.agg cs'.toArray,e,?_,.agg (by simpa using hr)⟩
    have:=run_loadCells_list (P:=P) w ⟨(φ i).b,(φ i).off+k,none⟩ cs' fun j v hv=>by rw[Addr.add_mk];exact hcell j v hv
    rw[hlen]at this
    simp[loadVar,run_isAgg ha,run_size hn,this]
   | false =>
    simp only[Bool.false_eq_true,if_false]at hl
    have h1:=h1 rfl
    subst h1
    split at hl
    ·rename_i u hu
     cases hl
     rw[hu]at hr
     cases hr with
     | cons hr t =>
      rename_i y ys
      cases t
      refine⟨y,e,?_,.cell hr⟩
      have:=hcell 0 y rfl
      simp only[Nat.add_zero]at this
      simp[loadVar,run_isAgg ha,this]
    ·cases hl
  ·cases hl
 ·cases hl
theorem s_load (t:TypeId) (x:Operand) (hc:compOp P ⟨dst,.load t x,ty,pos,after,guard⟩=some op) (hR:RH nro φ h.ph w) (hE:RE φ h.ph env a)
  (hv:vop call nro (vev env) h op=some (v,h')):OkRes nro φ h.ph w v h' ((execOp a.eval ⟨dst,.load t x,ty,pos,after,guard⟩).run P w):=by
 simp only[compOp]at hc
 split at hc
 ·rename_i hx
  have ex:=hE.ev hx
  split at hc
  ·rename_i n ha hn
   cases hc
   simp only[vop]at hv
   obtain⟨hv1,rfl⟩:=prodS hv
   obtain⟨q,u,e,hr,hu⟩:=run_loadVar_of ha hn (fun h=>by cases h) hR ex hv1
   exact .quiet hR (by simp[execOp,Instr.loadAt,e,Instr.sureAddr,hr]) (.val hu)
  ·rename_i ha hn
   cases hc
   simp only[vop]at hv
   obtain⟨hv1,rfl⟩:=prodS hv
   obtain⟨q,u,e,hr,hu⟩:=run_loadVar_of ha hn (fun _=>rfl) hR ex hv1
   exact .quiet hR (by simp[execOp,Instr.loadAt,e,Instr.sureAddr,hr]) (.val hu)
  ·cases hc
 ·cases hc
theorem run_bound {k:IntKind} {i:Int} {y:Nat} {code:BoundsCode} (h0:0≤i) (h1:i≤y):(Instr.sliceBound (.int k i) y code).run P w= .ok i.toNat w:=by
 simp[Instr.sliceBound,asIntOf,h0,h1]
theorem s_slice (t:TypeId) (x:Operand) (lo hi:Option Operand) (hc:compOp P ⟨dst,.slice t x lo hi none,ty,pos,after,guard⟩=some op) (hR:RH nro φ h.ph w) (hE:RE φ h.ph env a)
  (hv:vop call nro (vev env) h op=some (v,h')):OkRes nro φ h.ph w v h' ((execOp a.eval ⟨dst,.slice t x lo hi none,ty,pos,after,guard⟩).run P w):=by
 have bnd: ∀(y:Option Operand) (d:Value),okO y=true→ ∀k i,(y.map (vev env)).getD d= .int k i→(y=none∧d= .int k i)∨ ∃z,y=some z∧a.eval z= .int k i:=by
  intro y d hy k i e
  cases y with
  | none => exact .inl ⟨rfl, e⟩
  | some z =>
   have ez:=hE.ev hy
   simp only[Option.map_some,Option.getD_some]at e
   rw[e]at ez
   exact .inr ⟨z,rfl,ez.inv_int⟩
 simp only[compOp]at hc
 split at hc
 ·rename_i hx
  simp only[Bool.and_eq_true]at hx
  obtain⟨⟨hx,hlo⟩,hhi⟩:=hx
  have ex:=hE.ev hx
  split at hc
  ·rename_i e he
   split at hc
   ·rename_i sz hsz
    split at hc
    ·rename_i h1
     cases hc
     simp only[vop]at hv
     obtain⟨hv1,rfl⟩:=prodS hv
     unfold vslice at hv1
     split at hv1
     ·rename_i e1
      rw[e1]at ex
      have e2:a.eval x= .slice none 0 0:=by
       have:=ex.inv_sl
       generalize a.eval x=z at this
       cases this
       rfl
      split at hv1
      ·rename_i k1 k2 el eh
       cases hv1
       refine .quiet (v' := .slice none 0 0) hR ?_ AtomR.slN.top
       rcases bnd lo _ hlo _ _ el with⟨rfl,_⟩|⟨zl,rfl,ezl⟩<;>rcases bnd hi _ hhi _ _ eh with⟨rfl,_⟩|⟨zh,rfl,ezh⟩<;>
        simp[execOp,Instr.sliceAt,Instr.slice,run_und he,Instr.sliceBounds,run_size hsz, *,run_bound (P:=P) (w:=w) (i:=0) (y:=0) (Int.le_refl 0) (by simp)]
      ·cases hv1
     ·rename_i p n tot e1
      rw[e1]at ex
      have hs:=ex.inv_sl
      obtain⟨q,k',rfl⟩:=hs.spot_sl
      split at hv1
      ·rename_i o ho
       split at hv1
       ·rename_i hcond
        obtain⟨hosz,htot⟩:=hcond
        subst hosz
        obtain⟨r,c,e3,hk,h1',hcn,hcap,ha⟩:=hs.inv_sl_some ho htot
        split at hv1
        ·rename_i k1 l k2 u el eh
         split at hv1
         ·rename_i hb
          obtain⟨hl0,hlu,hun⟩:=hb
          cases hv1
          have hle:l.toNat≤u.toNat:=by omega
          have hue:u.toNat≤n:=by omega
          refine .quiet (v' := .slice (some (if c=l.toNat then r else r.add (l.toNat * o.sz))) (u.toNat - l.toNat) (c - l.toNat)) hR ?_ (AtomR.sl (o:=o) ho htot ?_ h1' (by omega) ?_ ?_).top
          ·have hbl: ∀code,(Instr.sliceBound (.int k1 l) u.toNat code).run P w= .ok l.toNat w:=fun code=>run_bound hl0 (by omega)
           have hbh: ∀code,(Instr.sliceBound (.int k2 u) c code).run P w= .ok u.toNat w:=fun code=>run_bound (by omega) (by omega)
           rcases bnd lo _ hlo _ _ el with⟨rfl,el2⟩|⟨zl,rfl,ezl⟩<;>rcases bnd hi _ hhi _ _ eh with⟨rfl,eh2⟩|⟨zh,rfl,ezh⟩
           ·cases el2;cases eh2
            simp[execOp,Instr.sliceAt,Instr.slice,run_und he,e3,Instr.sliceBounds,run_size hsz]
            split<;>simp_all
           ·cases el2
            simp[execOp,Instr.sliceAt,Instr.slice,run_und he,e3,Instr.sliceBounds,run_size hsz,ezh,hbh]
            split<;>simp_all
           ·cases eh2
            have hbl: ∀code,(Instr.sliceBound (.int k1 l) n code).run P w= .ok l.toNat w:=fun code=>run_bound hl0 (by omega)
            simp[execOp,Instr.sliceAt,Instr.slice,run_und he,e3,Instr.sliceBounds,run_size hsz,ezl,hbl]
            split<;>simp_all
           ·simp[execOp,Instr.sliceAt,Instr.slice,run_und he,e3,Instr.sliceBounds,run_size hsz,ezl,ezh,hbl,hbh]
            split<;>simp_all
          ·have:k' +l.toNat * o.sz+(u.toNat - l.toNat) * o.sz≤k' +n * o.sz:=by
            rw[Nat.sub_mul,Nat.add_assoc]
            have h3:l.toNat * o.sz≤u.toNat * o.sz:=Nat.mul_le_mul_right _ hle
            have h4:u.toNat * o.sz≤n * o.sz:=Nat.mul_le_mul_right _ hue
            omega
           exact Nat.le_trans this hk
          ·have h3:l.toNat * o.sz≤c * o.sz:=Nat.mul_le_mul_right _ (by omega)
           show k' +l.toNat * o.sz+(c - l.toNat) * o.sz≤(φ q).cap
           rw[Nat.sub_mul]
           omega
          ·by_cases hcl:c=l.toNat
           ·exact .inl (by omega)
           ·have hr:r=⟨(φ q).b,(φ q).off+k',none⟩:=ha.resolve_left (by omega)
            subst hr
            rw[if_neg hcl,Addr.add_mk]
            exact .inr (by simp[Nat.add_assoc])
         ·cases hv1
        ·cases hv1
       ·cases hv1
      ·cases hv1
     ·cases hv1
    ·cases hc
   ·cases hc
  ·rename_i he
   cases hc
   simp only[vop]at hv
   obtain⟨hv1,rfl⟩:=prodS hv
   unfold vsliceStr at hv1
   split at hv1
   ·rename_i s e1
    rw[e1]at ex
    have e2:=ex.inv_str
    split at hv1
    ·rename_i k1 l k2 u el eh
     split at hv1
     ·rename_i hb
      obtain⟨hl0,hlu,hun⟩:=hb
      cases hv1
      refine .quiet (v' := .string (s.extract l.toNat u.toNat)) hR ?_ (AtomR.str _).top
      have hbl: ∀code,(Instr.sliceBound (.int k1 l) u.toNat code).run P w= .ok l.toNat w:=fun code=>run_bound hl0 (by omega)
      have hbh: ∀code,(Instr.sliceBound (.int k2 u) s.size code).run P w= .ok u.toNat w:=fun code=>run_bound (by omega) (by omega)
      rcases bnd lo _ hlo _ _ el with⟨rfl,el2⟩|⟨zl,rfl,ezl⟩<;>rcases bnd hi _ hhi _ _ eh with⟨rfl,eh2⟩|⟨zh,rfl,ezh⟩
      ·cases el2;cases eh2
       simp[execOp,Instr.sliceAt,Instr.slice,run_und he,e2,Instr.sliceBounds]
      ·cases el2
       simp[execOp,Instr.sliceAt,Instr.slice,run_und he,e2,Instr.sliceBounds,ezh,hbh]
      ·cases eh2
       have hbl: ∀code,(Instr.sliceBound (.int k1 l) s.size code).run P w= .ok l.toNat w:=fun code=>run_bound hl0 (by omega)
       simp[execOp,Instr.sliceAt,Instr.slice,run_und he,e2,Instr.sliceBounds,ezl,hbl]
      ·simp[execOp,Instr.sliceAt,Instr.slice,run_und he,e2,Instr.sliceBounds,ezl,ezh,hbl,hbh]
     ·cases hv1
    ·cases hv1
   ·cases hv1
  ·cases hc
 ·cases hc
end
end

/- New objects, and objects written. -/
section
open Go
def setE (φ:Em) (n:Nat) (b:Blk):Em:=fun i=>if i=n then b else φ i
theorem VH.ph_push {h:VH} {o o' :VO} {i:Nat} (hi:VH.ph (h++ [o]) i=some o'):(i<h.length∧VH.ph h i=some o')∨(i=h.length∧o' =o):=by
 unfold VH.ph at hi⊢
 rcases Nat.lt_trichotomy i h.length with hl|rfl|hl
 ·rw[List.getElem?_append_left hl]at hi;exact .inl ⟨hl,hi⟩
 ·simp at hi;exact .inr ⟨rfl,hi.symm⟩
 ·rw[List.getElem?_eq_none (by simp;omega)]at hi;cases hi
theorem VH.ph_push_old {h:VH} {o o' :VO} {i:Nat} (hi:VH.ph h i=some o'):VH.ph (h++ [o]) i=some o' :=by
 unfold VH.ph at hi⊢
 have:i<h.length:=(List.getElem?_eq_some_iff.mp hi).1
 rw[List.getElem?_append_left this];exact hi
theorem VH.ph_lt {h:VH} {o:VO} {i:Nat} (hi:VH.ph h i=some o):i<h.length:=(List.getElem?_eq_some_iff.mp hi).1
theorem RH.block_lt {nro:Nat} {φ:Em} {L:PH} {w:World} (hR:RH nro φ L w) {i:Nat} {o:VO} (ho:L i=some o):(φ i).b<w.heap.size:=by
 obtain⟨C,ty,fz,hb,_⟩:=hR.cells i o ho
 exact(Array.getElem?_eq_some_iff.mp hb).1
section
variable {nro:Nat} {φ:Em} {h:VH} {w w1:World}
theorem RH.push (hR:RH nro φ h.ph w) (o:VO) (C:Array Value) (ty:TypeId) (hw:w1.heap=w.heap.push (.cells C ty (0,0))) (hrest:w1.os=w.os∧w1.tape=w.tape∧w1.output=w.output)
  (hC: ∀(j:Nat) v,o.cells[j]? =some v→ ∃v',C[j]? =some v' ∧CellR φ h.ph v v'):
  RH nro (setE φ h.length ⟨w.heap.size,0,C.size⟩) (VH.ph (h++ [o])) w1∧X nro φ h.ph w (setE φ h.length ⟨w.heap.size,0,C.size⟩) (VH.ph (h++ [o])) w1:=by
 have hg:Grow φ h.ph (setE φ h.length ⟨w.heap.size,0,C.size⟩) (VH.ph (h++ [o])):=fun i o' ho' =>
  ⟨o',VH.ph_push_old ho',rfl,Nat.le_refl _,fun _=>by unfold setE;rw[if_neg (by have:=VH.ph_lt ho';omega)]⟩
 have hold: ∀b,b<w.heap.size→w1.heap[b]? =w.heap[b]? :=fun b hb=>by rw[hw,Array.getElem?_push_lt hb];simp[hb]
 refine RH.mk' ?_ ?_ hR.glob ⟨hg,?_,?_,(fun b hb _=>hold b hb),hrest,fun i hi _=>by obtain⟨o,ho⟩:=Option.isSome_iff_exists.mp hi;unfold setE;rw[if_neg (by have:=VH.ph_lt ho;omega)]⟩
 ·intro i o' hi
  rcases VH.ph_push hi with⟨hl,hi⟩|⟨rfl,rfl⟩
  ·obtain⟨C',ty',fz,hb,hc,hn⟩:=hR.cells i o' hi
   have e:setE φ h.length ⟨w.heap.size,0,C.size⟩ i=φ i:=by unfold setE;rw[if_neg (by omega)]
   rw[e]
   refine⟨C',ty',fz,by rw[hold _ (hR.block_lt hi)];exact hb,fun j v hv=> ?_,hn⟩
   obtain⟨v',h1,h2⟩:=hc j v hv
   exact⟨v',h1,h2.grow hg⟩
  ·have e:setE φ h.length ⟨w.heap.size,0,C.size⟩ h.length=⟨w.heap.size,0,C.size⟩:=by unfold setE;rw[if_pos rfl]
   rw[e]
   refine⟨C,ty,(0,0),by rw[hw];simp,fun j v hv=> ?_,fun _=>⟨rfl,rfl,rfl⟩⟩
   obtain⟨v',h1,h2⟩:=hC j v hv
   exact⟨v',by simpa using h1,h2.grow hg⟩
 ·intro i j hi hj hni hij
  obtain⟨oi,hi⟩:=Option.isSome_iff_exists.mp hi
  obtain⟨oj,hj⟩:=Option.isSome_iff_exists.mp hj
  unfold setE
  rcases VH.ph_push hi with⟨hl,hi1⟩|⟨rfl,_⟩<;>rcases VH.ph_push hj with⟨hl',hj1⟩|⟨rfl,_⟩
  ·rw[if_neg (by omega),if_neg (by omega)]
   exact hR.apart i j (by simp[hi1]) (by simp[hj1]) hni hij
  ·rw[if_neg (by omega),if_pos rfl]
   have:=hR.block_lt hi1
   simp only
   omega
  ·rw[if_pos rfl,if_neg (by omega)]
   have:=hR.block_lt hj1
   simp only
   omega
  ·exact absurd rfl hij
 ·intro i hi hni
  obtain⟨oi,hi⟩:=Option.isSome_iff_exists.mp hi
  unfold setE
  rcases VH.ph_push hi with⟨hl,hi⟩|⟨rfl,rfl⟩
  ·rw[if_neg (by omega)]
   exact .inl ⟨by simp[hi],rfl⟩
  ·rw[if_pos rfl]
   exact .inr (Nat.le_refl _)
 ·rw[hw];simp
theorem VH.ph_set {h:VH} {o o' :VO} {i j:Nat} (hj:VH.ph (h.set i o) j=some o'):(j=i∧o' =o∧i<h.length)∨(j≠i∧VH.ph h j=some o'):=by
 unfold VH.ph at hj⊢
 rw[List.getElem?_set]at hj
 split at hj
 ·rename_i e
  split at hj
  ·cases hj;exact .inl ⟨e.symm,rfl,by assumption⟩
  ·cases hj
 ·rename_i e;exact .inr ⟨fun h=>e h.symm,hj⟩
theorem RH.write (hR:RH nro φ h.ph w) {i:Nat} {o:VO} (ho:VH.ph h i=some o) (hni:nro≤i) (cs:List Value) (hlen:o.cells.length≤cs.length) (C C' :Array Value) (ty:TypeId) (fz:Nat × Nat)
  (hb:w.heap[(φ i).b]? =some (.cells C ty fz)) (hsz:C'.size=C.size) (hw:w1.heap=w.heap.setIfInBounds (φ i).b (.cells C' ty (0,0))) (hrest:w1.os=w.os∧w1.tape=w.tape∧w1.output=w.output)
  (hC: ∀(j:Nat) v,cs[j]? =some v→ ∃v',C'[j]? =some v' ∧CellR φ h.ph v v'):
  RH nro φ (VH.ph (h.set i { o with cells:=cs})) w1∧X nro φ h.ph w φ (VH.ph (h.set i { o with cells:=cs})) w1:=by
 have hil:=VH.ph_lt ho
 have hg:Grow φ h.ph φ (VH.ph (h.set i { o with cells:=cs})):=by
  intro j o' ho'
  by_cases e:j=i
  ·subst e
   rw[ho]at ho'
   cases ho'
   exact⟨{ o with cells:=cs},by simp[VH.ph,hil],rfl,hlen,fun _=>rfl⟩
  ·exact⟨o',by unfold VH.ph at ho'⊢;rw[List.getElem?_set_ne (fun h=>e h.symm)];exact ho',rfl,Nat.le_refl _,fun _=>rfl⟩
 have hbl:=hR.block_lt ho
 have hold: ∀b,b≠(φ i).b→w1.heap[b]? =w.heap[b]? :=fun b hne=>by rw[hw,Array.getElem?_setIfInBounds_ne (fun h=>hne h.symm)]
 have hnew:w1.heap[(φ i).b]? =some (.cells C' ty (0,0)):=by rw[hw];simp[hbl]
 obtain⟨C0,ty0,fz0,hb0,_,hn0⟩:=hR.cells i o ho
 rw[hb]at hb0
 cases hb0
 obtain⟨_,hoff,hcap⟩:=hn0 hni
 refine RH.mk' ?_ ?_ hR.glob ⟨hg,?_,?_,?_,hrest,fun _ _ _=>rfl⟩
 ·intro j o' hj
  rcases VH.ph_set hj with⟨rfl,rfl,_⟩|⟨hne,hj⟩
  ·refine⟨C',ty,(0,0),hnew,fun k v hv=> ?_,fun _=>⟨rfl,hoff,by rw[hsz,hcap]⟩⟩
   obtain⟨v',h1,h2⟩:=hC k v hv
   exact⟨v',by rw[hoff,Nat.zero_add];exact h1,h2.grow hg⟩
  ·obtain⟨Cj,tj,fj,hbj,hcj,hnj⟩:=hR.cells j o' hj
   have hne2:(φ j).b≠(φ i).b:=fun e=>hR.apart i j (by simp[ho]) (by simp[hj]) hni (fun h=>hne h.symm) e.symm
   refine⟨Cj,tj,fj,by rw[hold _ hne2];exact hbj,fun k v hv=> ?_,hnj⟩
   obtain⟨v',h1,h2⟩:=hcj k v hv
   exact⟨v',h1,h2.grow hg⟩
 ·intro j k hj hk hnj hjk
  obtain⟨oj,hj⟩:=Option.isSome_iff_exists.mp hj
  obtain⟨ok,hk⟩:=Option.isSome_iff_exists.mp hk
  have pj:(h.ph j).isSome:=by rcases VH.ph_set hj with⟨rfl,_,_⟩|⟨_,hj⟩<;>simp[*]
  have pk:(h.ph k).isSome:=by rcases VH.ph_set hk with⟨rfl,_,_⟩|⟨_,hk⟩<;>simp[*]
  exact hR.apart j k pj pk hnj hjk
 ·intro j hj hnj
  obtain⟨oj,hj⟩:=Option.isSome_iff_exists.mp hj
  exact .inl ⟨by rcases VH.ph_set hj with⟨rfl,_,_⟩|⟨_,hj⟩<;>simp[*],rfl⟩
 ·rw[hw];simp
 ·intro b hb2 hne
  exact hold b fun e=>hne i (by simp[ho]) hni e.symm
theorem RH.move (hR:RH nro φ h.ph w) {i:Nat} {o:VO} (ho:VH.ph h i=some o) (hni:nro≤i) (cs:List Value) (hlen:o.cells.length<cs.length) (C' :Array Value) (ty:TypeId)
  (hw:w1.heap=w.heap.push (.cells C' ty (0,0))) (hrest:w1.os=w.os∧w1.tape=w.tape∧w1.output=w.output)
  (hC: ∀(j:Nat) v,cs[j]? =some v→ ∃v',C'[j]? =some v' ∧CellR φ h.ph v v'):
  RH nro (setE φ i ⟨w.heap.size,0,C'.size⟩) (VH.ph (h.set i { o with cells:=cs})) w1∧X nro φ h.ph w (setE φ i ⟨w.heap.size,0,C'.size⟩) (VH.ph (h.set i { o with cells:=cs})) w1:=by
 have hil:=VH.ph_lt ho
 have hg:Grow φ h.ph (setE φ i ⟨w.heap.size,0,C'.size⟩) (VH.ph (h.set i { o with cells:=cs})):=by
  intro j o' ho'
  by_cases e:j=i
  ·subst e
   rw[ho]at ho'
   cases ho'
   exact⟨{ o with cells:=cs},by simp[VH.ph,hil],rfl,by simp;omega,fun e=>by simp at e;omega⟩
  ·exact⟨o',by unfold VH.ph at ho'⊢;rw[List.getElem?_set_ne (fun h=>e h.symm)];exact ho',rfl,Nat.le_refl _,fun _=>by unfold setE;rw[if_neg e]⟩
 have hold: ∀b,b<w.heap.size→w1.heap[b]? =w.heap[b]? :=fun b hb=>by rw[hw,Array.getElem?_push_lt hb];simp[hb]
 refine RH.mk' ?_ ?_ hR.glob ⟨hg,?_,?_,(fun b hb _=>hold b hb),hrest,fun j _ hj=>by unfold setE;rw[if_neg (by omega)]⟩
 ·intro j o' hj
  rcases VH.ph_set hj with⟨rfl,rfl,_⟩|⟨hne,hj⟩
  ·have e:setE φ j ⟨w.heap.size,0,C'.size⟩ j=⟨w.heap.size,0,C'.size⟩:=by unfold setE;rw[if_pos rfl]
   rw[e]
   refine⟨C',ty,(0,0),by rw[hw];simp,fun k v hv=> ?_,fun _=>⟨rfl,rfl,rfl⟩⟩
   obtain⟨v',h1,h2⟩:=hC k v hv
   exact⟨v',by simpa using h1,h2.grow hg⟩
  ·have e:setE φ i ⟨w.heap.size,0,C'.size⟩ j=φ j:=by unfold setE;rw[if_neg hne]
   rw[e]
   obtain⟨Cj,tj,fj,hbj,hcj,hnj⟩:=hR.cells j o' hj
   refine⟨Cj,tj,fj,by rw[hold _ (hR.block_lt hj)];exact hbj,fun k v hv=> ?_,hnj⟩
   obtain⟨v',h1,h2⟩:=hcj k v hv
   exact⟨v',h1,h2.grow hg⟩
 ·intro j k hj hk hnj hjk
  obtain⟨oj,hj⟩:=Option.isSome_iff_exists.mp hj
  obtain⟨ok,hk⟩:=Option.isSome_iff_exists.mp hk
  unfold setE
  rcases VH.ph_set hj with⟨rfl,_,_⟩|⟨hnj2,hj1⟩<;>rcases VH.ph_set hk with⟨rfl,_,_⟩|⟨hnk,hk1⟩
  ·exact absurd rfl hjk
  ·rw[if_pos rfl,if_neg hnk]
   have:=hR.block_lt hk1
   simp only
   omega
  ·rw[if_neg hnj2,if_pos rfl]
   have:=hR.block_lt hj1
   simp only
   omega
  ·rw[if_neg hnj2,if_neg hnk]
   exact hR.apart j k (by simp[hj1]) (by simp[hk1]) hnj hjk
 ·intro j hj hnj
  obtain⟨oj,hj⟩:=Option.isSome_iff_exists.mp hj
  unfold setE
  rcases VH.ph_set hj with⟨rfl,_,_⟩|⟨hnj2,hj⟩
  ·rw[if_pos rfl];exact .inr (Nat.le_refl _)
  ·rw[if_neg hnj2];exact .inl ⟨by simp[hj],rfl⟩
 ·rw[hw];simp
theorem RH.heap_eq (hR:RH nro φ h.ph w) (e:w1.heap=w.heap):RH nro φ h.ph w1:=⟨fun i o ho=>by rw[e];exact hR.cells i o ho,hR.apart,fun b C hb=>by rw[e];exact hR.glob b C hb⟩
end
end

/- Operations that make memory or write it. -/
section
open Go
section
variable {φ:Em} {L:PH}
theorem CellR.one {v v' :Value} (h:CellR φ L v v') (hj:isJunk v=false):v'.oneCell' =true:=by
 cases h with
 | atom h =>
  cases h with
  | junk => cases hj
  | ptrS _ _ h1 => unfold Zv.one one1 at h1; unfold Value.oneCell'; split at h1 <;> simp_all
  | slS _ _ h1 => unfold Zv.one one1 at h1; unfold Value.oneCell'; split at h1 <;> simp_all
  | _ => rfl
 | func => rfl
theorem cells_one {v:Value} (h:v.oneCell' =true):v.cells= #[v]:=by
 cases v<;>first|rfl|cases h
theorem TopR.cells {v v' :Value} (h:TopR φ L v v') (hj:isJunk v=false):All2 (CellR φ L) (vcells v) v'.cells.toList:=by
 cases h with
 | val h =>
  cases h with
  | cell h =>
   have h1:=h.one hj
   rw[cells_one h1]
   have hv:v.cells= #[v]:=by
    cases h with
    | atom h => cases h <;> rfl
    | func => rfl
   unfold vcells
   rw[hv]
   exact .cons h .nil
  | agg h => exact h
 | tup => cases hj
theorem All2.ones: ∀ {xs ys:List Value},All2 (CellR φ L) xs ys→xs.all (fun v=> !isJunk v)=true→ ∀u∈ys,u.oneCell' =true
 | _, _, .nil, _ => fun _ h => by cases h
 | _, _, .cons hr t, hx => by
  simp only[List.all_cons,Bool.and_eq_true]at hx
  intro u hu
  rcases List.mem_cons.mp hu with rfl|hu
  ·exact hr.one (by simpa using hx.1)
  ·exact All2.ones t hx.2 u hu
theorem notJunk_of_cells {v:Value} (h:(vcells v).all (fun v=> !isJunk v)=true):isJunk v=false:=by
 unfold vcells at h
 cases v<;>first|rfl|(simp[Value.cells,isJunk]at h)
theorem All2.get_toList {R:Value→Value→Prop} {cs:List Value} {C:Array Value} (h:All2 R cs C.toList) (j:Nat) (v:Value) (hv:cs[j]? =some v): ∃v',C[j]? =some v' ∧R v v' :=by
 obtain⟨y,hy,hr⟩:=h.get' j v hv
 exact⟨y,by simpa using hy,hr⟩
theorem All2.append {α β:Type} {R:α→β→Prop}: ∀ {as:List α} {bs:List β} {cs:List α} {ds:List β},All2 R as bs→All2 R cs ds→All2 R (as++cs) (bs++ds)
 | _, _, _, _, .nil, h => h
 | _, _, _, _, .cons h t, h2 => .cons h (All2.append t h2)
theorem All2.take {α β:Type} {R:α→β→Prop} {as:List α} {bs:List β} (n:Nat) (h:All2 R as bs):All2 R (as.take n) (bs.take n):=by simpa using h.extract 0 n
theorem All2.drop {α β:Type} {R:α→β→Prop}: ∀ {as:List α} {bs:List β} (n:Nat),All2 R as bs→All2 R (as.drop n) (bs.drop n)
 | _, _, n, .nil => by simp; exact .nil
 | _, _, 0, .cons h t => .cons h t
 | _, _, n + 1, .cons _ t => by simpa using All2.drop n t
theorem All2.splice {k:Nat} {vs vs' cs cs' :List Value} {R:Value→Value→Prop} (hv:All2 R vs vs') (hc:All2 R cs cs'):All2 R (splice k vs cs) (splice k vs' cs'):=by
 unfold Zv.splice
 rw[←hv.length']
 exact((hc.take k).append hv).append (hc.drop _)
theorem foldl_splice (off:Nat): ∀(vs:List Value) (s:Nat) (cells:Array Value),off+s+vs.length≤cells.size→
  ((vs.zipIdx s).foldl (fun(cs:Array Value) (x:Value × Nat)=>cs.setIfInBounds (off+x.2) x.1) cells).toList=splice (off+s) vs cells.toList
 | [], s, cells, _ => by simp [Zv.splice]
 | v :: vs, s, cells, h => by
  simp only[List.zipIdx_cons,List.foldl_cons]
  rw[foldl_splice off vs (s+1) _ (by simp at h⊢;omega)]
  unfold Zv.splice
  simp only[Array.toList_setIfInBounds]
  apply List.ext_getElem?
  intro j
  simp only[List.length_cons]at h
  have hl:off+s<cells.toList.length:=by simp;omega
  simp only[List.getElem?_append,List.length_append,List.length_take,List.length_set,List.length_cons,List.getElem?_take,List.getElem?_set,List.getElem?_drop,Array.length_toList]
  have e1:min (off+(s+1)) cells.size=off+s+1:=by omega
  have e2:min (off+s) cells.size=off+s:=by omega
  rw[e1,e2]
  by_cases c1:j<off+s
  ·have: ¬off+s=j:=by omega
   simp[c1,this,show j<off+s+1+vs.length by omega,show j<off+s+1 by omega,show j<off+(s+1) by omega,show j<off+s+(vs.length+1) by omega]
  ·by_cases c2:j=off+s
   ·subst c2
    simp[show off+s<off+s+1+vs.length by omega,show off+s<off+(s+1) by omega]
    omega
   ·by_cases c3:j<off+s+1+vs.length
    ·have: ¬j<off+s+1:=by omega
     simp[c1,c3,this,show j<off+s+(vs.length+1) by omega]
     rw[show j - (off+s)=(j - (off+s+1))+1 by omega]
     simp
    ·have: ¬j<off+s+(vs.length+1):=by omega
     have h5: ¬off+s=off+(s+1)+vs.length+(j - (off+s+1+vs.length)):=by omega
     simp[c3,this,h5]
     congr 1
     omega
theorem fill_rel {h:VH} {env:List Value} {a:Act} (hE:RE φ h.ph env a) (pl:Nat→Option (Nat × Nat)): ∀(l:List (Nat × Operand)) (l' :List (Nat × Nat × Operand)) (cs:List Value) (cells:Array Value) (res:List Value),
  partsOf pl l=some l' →All2 (CellR φ h.ph) cs cells.toList→vfill cs (l'.map fun p=>(p.1,p.2.1,vev env p.2.2))=some res→
  ∃cells',Instr.fill pl cells (l.map fun x=>(x.1,a.eval x.2))=some cells' ∧All2 (CellR φ h.ph) res cells'.toList
 | [], l', cs, cells, res, hp, hc, hf => by
  cases hp
  cases hf
  exact⟨cells,rfl,hc⟩
 | (i, x) :: l, l', cs, cells, res, hp, hc, hf => by
  simp only[partsOf]at hp
  split at hp
  ·rename_i off n r' hpl hr
   split at hp
   ·rename_i hx
    cases hp
    simp only[List.map_cons,vfill]at hf
    split at hf
    ·rename_i hcond
     obtain⟨hn,hoff,hj⟩:=hcond
     have hcr:=(hE.ev hx).cells (notJunk_of_cells hj)
     have hlen:=hcr.length'
     have hlc:=hc.length'
     have hsz:(a.eval x).cells.size=n:=by rw[←hn,hlen];simp
     have hle:off+(a.eval x).cells.size≤cells.size:=by rw[hsz];simpa [hlc]using hoff
     obtain⟨cells',h1,h2⟩:=fill_rel hE pl l r' _ (((a.eval x).cells.toList.zipIdx.foldl (fun(cs:Array Value) (x:Value × Nat)=>cs.setIfInBounds (off+x.2) x.1) cells)) res hr
      (by rw[foldl_splice off _ 0 cells (by simpa using hle)];simpa using hcr.splice (k:=off) hc) hf
     refine⟨cells',?_,h2⟩
     simp only[List.map_cons,Instr.fill,hpl]
     rw[if_neg (by simp[hsz];omega)]
     rw[←h1]
     congr 1
     rw[←Array.foldl_toList,Array.toList_zipIdx]
    ·cases hf
   ·cases hp
  ·cases hp
end
end

/- Operations that make memory or write it, further. -/
section
open Go
section
variable {P:Program} {nro:Nat} {φ:Em} {h:VH} {w:World} {env:List Value} {a:Act} {dst:Option Tmp} {ty:TypeId} {pos:String} {after:Array Edge} {guard:Option (Nat × Bool)} {v:Value} {h' :VH} {call:VCall} {op:VOp}
theorem OkRes.push (hR:RH nro φ h.ph w) (w1:World) (o:VO) (C:Array Value) (ty:TypeId) (hw:w1.heap=w.heap.push (.cells C ty (0,0))) (hrest:w1.os=w.os∧w1.tape=w.tape∧w1.output=w.output)
  (hC: ∀(j:Nat) v,o.cells[j]? =some v→ ∃v',C[j]? =some v' ∧CellR φ h.ph v v') (v v' :Value) (r:Result Next) (hr:r= .ok (.value v') w1)
  (hv:AtomR (setE φ h.length ⟨w.heap.size,0,C.size⟩) (VH.ph (h++ [o])) v v'):OkRes nro φ h.ph w v (h++ [o]) r:=by
 obtain⟨h1,h2⟩:=hR.push o C ty hw hrest hC
 exact⟨_,w1,h1,h2,.inl ⟨v',hr,hv.top⟩⟩
theorem ph_new (h:VH) (o:VO):VH.ph (h++ [o]) h.length=some o:=by simp[VH.ph]
theorem setE_new (φ:Em) (n:Nat) (b:Blk):setE φ n b n=b:=by simp[setE]
theorem s_box (t:TypeId) (x:Operand) (hc:compOp P ⟨dst,.box t x,ty,pos,after,guard⟩=some op) (hR:RH nro φ h.ph w) (hE:RE φ h.ph env a)
  (hv:vop call nro (vev env) h op=some (v,h')):OkRes nro φ h.ph w v h' ((execOp a.eval ⟨dst,.box t x,ty,pos,after,guard⟩).run P w):=by
 simp only[compOp]at hc
 split at hc
 ·rename_i hx
  have ex:=hE.ev hx
  split at hc
  ·rename_i n hn
   cases hc
   simp only[vop]at hv
   split at hv
   ·rename_i hcond
    obtain⟨hlen,hj⟩:=hcond
    simp only[Option.some.injEq,Prod.mk.injEq]at hv
    obtain⟨rfl,rfl⟩:=hv
    have hcr:=ex.cells hj
    refine OkRes.push hR (w.alloc (.cells (a.eval x).cells t (0,0))) _ (a.eval x).cells t rfl ⟨rfl,rfl,rfl⟩ (fun j v hv=>hcr.get_toList j v hv) _ (.pointer (some ⟨w.heap.size,0,none⟩)) _ ?_ ?_
    ·simp[execOp,Instr.box,newVar,newRow]
    ·have:=AtomR.ptr (φ:=setE φ h.length ⟨w.heap.size,0,(a.eval x).cells.size⟩) (k:=0) (tot:=n) (ph_new h ⟨0,vcells (vev env x)⟩) hlen.symm
     rw[setE_new]at this
     exact this
   ·cases hv
  ·cases hc
 ·cases hc
theorem zerosOf_spec {t:TypeId} {z:List Value} (hz:zerosOf P t=some z): ∃i zv,P.info? t=some i∧i.zero=some zv∧zv.cells.toList=z∧zv.cells.size=i.size∧closedV zv=true:=by
 unfold zerosOf at hz
 split at hz
 ·rename_i i hi
  split at hz
  ·rename_i zv hzv
   split at hz
   ·rename_i hcond
    simp only[Bool.and_eq_true,beq_iff_eq]at hcond
    cases hz
    exact⟨i,zv,hi,hzv,rfl,hcond.2,hcond.1⟩
   ·cases hz
  ·cases hz
 ·cases hz
theorem closed_cells {φ:Em} {L:PH} {v:Value} (hc:closedV v=true):All2 (CellR φ L) v.cells.toList v.cells.toList:=by
 have hr:ValR φ L v v:=ValR.closed hc
 cases hr with
 | cell hr =>
  cases v<;>first|exact .cons hr .nil|skip
  all_goals first|exact .cons hr .nil|(cases hr with|atom hr=>cases hr)
 | agg hr => exact hr
theorem s_alloc (t:TypeId) (hc:compOp P ⟨dst,.alloc t,ty,pos,after,guard⟩=some op) (hR:RH nro φ h.ph w)
  (hv:vop call nro (vev env) h op=some (v,h')):OkRes nro φ h.ph w v h' ((execOp a.eval ⟨dst,.alloc t,ty,pos,after,guard⟩).run P w):=by
 simp only[compOp]at hc
 split at hc
 ·rename_i z hz
  cases hc
  obtain⟨i,zv,hi,hzv,rfl,hsz,hcl⟩:=zerosOf_spec hz
  simp only[vop,Option.some.injEq,Prod.mk.injEq]at hv
  obtain⟨rfl,rfl⟩:=hv
  refine OkRes.push hR (w.alloc (.cells zv.cells t (0,0))) _ zv.cells t rfl ⟨rfl,rfl,rfl⟩ (fun j v hv=>(closed_cells hcl).get_toList j v hv) _ (.pointer (some ⟨w.heap.size,0,none⟩)) _ ?_ ?_
  ·simp[execOp,Instr.alloc,zeroValue,run_info hi,hzv,newVar,newRow]
  ·have:=AtomR.ptr (φ:=setE φ h.length ⟨w.heap.size,0,zv.cells.size⟩) (k:=0) (tot:=zv.cells.toList.length) (ph_new h ⟨0,zv.cells.toList⟩) rfl
   rw[setE_new]at this
   exact this
 ·cases hc
theorem run_mapM_fields {fields:Array Field} (hs:(fields.all fun f=>(sizeT P f.type).isSome)=true):
  (fields.mapM (fun f=>do pure (f.offset,←sizeOf f.type):Field→Sem (Nat × Nat))).run P w= .ok (fields.map fun f=>(f.offset,(sizeT P f.type).getD 0)) w:=by
 rw[Array.mapM_eq_mapM_toList]
 have key: ∀l:List Field,(∀f∈l,(sizeT P f.type).isSome=true)→(l.mapM (fun f=>do pure (f.offset,←sizeOf f.type):Field→Sem (Nat × Nat))).run P w= .ok (l.map fun f=>(f.offset,(sizeT P f.type).getD 0)) w:=by
  intro l
  induction l with
  | nil => intro _; rfl
  | cons f l ih =>
   intro hl
   obtain⟨n,hn⟩:=Option.isSome_iff_exists.mp (hl f (by simp))
   simp only[List.mapM_cons,Sem.run_bind,run_size hn,Result.andThen_ok,Sem.run_pure,ih fun g hg=>hl g (by simp[hg])]
   simp[hn]
 simp only[Sem.run_map]
 rw[key]
 ·simp only[Result.andThen_ok]
  congr 1
  apply Array.ext'
  simp
 ·intro f hf
  rw[Array.all_eq_true_iff_forall_mem]at hs
  exact hs f (by simpa using hf)
theorem s_build (t:TypeId) (parts:Array (Nat × Operand)) (hc:compOp P ⟨dst,.build t parts,ty,pos,after,guard⟩=some op) (hR:RH nro φ h.ph w) (hE:RE φ h.ph env a)
  (hv:vop call nro (vev env) h op=some (v,h')):OkRes nro φ h.ph w v h' ((execOp a.eval ⟨dst,.build t parts,ty,pos,after,guard⟩).run P w):=by
 simp only[compOp]at hc
 split at hc
 ·rename_i z pl hz hpl
  split at hc
  ·rename_i hs
   obtain⟨ps,hps,rfl⟩:=mapS hc
   obtain⟨i,zv,hi,hzv,rfl,hsz,hcl⟩:=zerosOf_spec hz
   simp only[vop]at hv
   obtain⟨cs,hf,hv⟩:=mapS hv
   simp only[Prod.mk.injEq]at hv
   obtain⟨rfl,rfl⟩:=hv
   unfold placesOf at hpl
   split at hpl
   ·rename_i fields hu
    simp only[structSizes,hu]at hs
    have e:(fun i:Nat=>((fields.map fun(f:Field)=>(f.offset,(sizeT P f.type).getD 0))[i]? :Option (Nat × Nat)))=pl:=by
     cases hpl
     funext j
     rw[Array.getElem?_map]
     cases hfj:fields[j]? with
     | none => rfl
     | some f =>
      rw[Array.all_eq_true_iff_forall_mem]at hs
      have hm:f∈fields:=Array.mem_of_getElem? hfj
      obtain⟨n,hn⟩:=Option.isSome_iff_exists.mp (hs f hm)
      simp[hn]
    clear hpl
    obtain⟨cells',h1,h2⟩:=fill_rel hE _ parts.toList ps _ zv.cells cs hps (closed_cells hcl) hf
    refine .quiet (v' := .agg cells') hR ?_ (.val (.agg (by simpa using h2)))
    simp only[execOp,Instr.build,Sem.run_bind,zeroValue,run_info hi,Result.andThen_ok,hzv,Sem.run_pure,run_und hu,run_mapM_fields hs]
    rw[e]
    rw[Array.toList_map,h1]
    rfl
   ·rename_i len e hu
    obtain⟨n,hn,rfl⟩:=mapS hpl
    obtain⟨cells',h1,h2⟩:=fill_rel hE _ parts.toList ps _ zv.cells cs hps (closed_cells hcl) hf
    refine .quiet (v' := .agg cells') hR ?_ (.val (.agg (by simpa using h2)))
    simp only[execOp,Instr.build,Sem.run_bind,zeroValue,run_info hi,Result.andThen_ok,hzv,Sem.run_pure,run_und hu,run_size hn]
    rw[Array.toList_map,h1]
    rfl
   ·cases hpl
  ·cases hc
 ·cases hc
theorem elemOf_spec {t e:TypeId} (he:Zv.elemOf P t=some e):P.underlying t=some (.slice e):=by
 unfold Zv.elemOf at he
 split at he
 ·cases he;assumption
 ·cases he
theorem zero_rel {φ:Em} {L:PH} (zv:Value) (hcl:closedV zv=true) (n:Nat):
  All2 (CellR φ L) (List.replicate n zv.cells.toList).flatten ((Array.range (n * zv.cells.size)).map (zv.cells[· % zv.cells.size]!)).toList:=by
 rcases Nat.eq_zero_or_pos zv.cells.size with h0|hp
 ·have e1:zv.cells.toList= []:=by simpa using h0
  rw[e1,h0]
  simp
  exact .nil
 ·refine All2.of_get (by simp) fun j x y hx hy=> ?_
  have hjl:j<n * zv.cells.size:=by
   have:=(List.getElem?_eq_some_iff.mp hy).1
   simpa using this
  have hmod:j % zv.cells.size<zv.cells.size:=Nat.mod_lt _ hp
  have ey:y=zv.cells[j % zv.cells.size]:=by
   simp[hjl]at hy
   rw[←hy,getElem!_pos zv.cells _ hmod]
  have ex:zv.cells.toList[j % zv.cells.size]? =some x:=by
   have key: ∀(m j:Nat),j<m * zv.cells.size→((List.replicate m zv.cells.toList).flatten)[j]? =zv.cells.toList[j % zv.cells.size]? :=by
    intro m
    induction m with
    | zero => intro j hj; omega
    | succ m ih =>
     intro j hj
     rw[List.replicate_succ,List.flatten_cons]
     by_cases hlt:j<zv.cells.size
     ·rw[List.getElem?_append_left (by simpa using hlt),Nat.mod_eq_of_lt hlt]
     ·rw[List.getElem?_append_right (by simp;omega)]
      rw[Nat.succ_mul]at hj
      simp only[Array.length_toList]
      rw[ih _ (by omega)]
      congr 1
      conv=>rhs;rw[show j=(j - zv.cells.size)+zv.cells.size by omega,Nat.add_mod_right]
   rw[key n j hjl]at hx
   exact hx
  have:=closed_cells (φ:=φ) (L:=L) hcl
  obtain⟨y',hy',hr⟩:=this.get' _ _ ex
  have e2:zv.cells.toList[j % zv.cells.size]? =some zv.cells[j % zv.cells.size]:=by simp[hmod]
  rw[e2]at hy'
  cases hy'
  rw[ey]
  exact hr
end
end

/- Operations that make memory or write it, the last of them. -/
section
open Go
section
variable {P:Program} {nro:Nat} {φ:Em} {h:VH} {w:World} {env:List Value} {a:Act} {dst:Option Tmp} {ty:TypeId} {pos:String} {after:Array Edge} {guard:Option (Nat × Bool)} {v:Value} {h' :VH} {call:VCall} {op:VOp}
theorem vfill_length: ∀(ps:List (Nat × Nat × Value)) (cs res:List Value),vfill cs ps=some res→res.length=cs.length
 | [], cs, res, hf => by cases hf; rfl
 | (off, n, v) :: ps, cs, res, hf => by
  simp only[vfill]at hf
  split at hf
  ·rename_i hcond
   rw[vfill_length ps _ _ hf]
   simp[splice]
   omega
  ·cases hf
theorem s_buildSlice (t:TypeId) (n:Nat) (parts:Array (Nat × Operand)) (hc:compOp P ⟨dst,.buildSlice t n parts,ty,pos,after,guard⟩=some op) (hR:RH nro φ h.ph w) (hE:RE φ h.ph env a)
  (hv:vop call nro (vev env) h op=some (v,h')):OkRes nro φ h.ph w v h' ((execOp a.eval ⟨dst,.buildSlice t n parts,ty,pos,after,guard⟩).run P w):=by
 simp only[compOp]at hc
 split at hc
 ·rename_i e he
  split at hc
  ·rename_i z i hz hi
   split at hc
   ·rename_i hcond
    simp only[Bool.and_eq_true,decide_eq_true_eq]at hcond
    obtain⟨h1,h24⟩:=hcond
    obtain⟨ps,hps,rfl⟩:=mapS hc
    obtain⟨i',zv,hi',hzv,rfl,hsz,hcl⟩:=zerosOf_spec hz
    rw[hi]at hi'
    cases hi'
    simp only[vop]at hv
    obtain⟨cs,hf,hv⟩:=mapS hv
    simp only[Prod.mk.injEq]at hv
    obtain⟨rfl,rfl⟩:=hv
    have hu:=elemOf_spec he
    have hzr:=zero_rel (φ:=φ) (L:=h.ph) zv hcl n
    obtain⟨cells',hfill,hrel⟩:=fill_rel hE _ parts.toList ps _ _ cs hps hzr hf
    have hlen:cs.length=n * i.size:=by
     rw[vfill_length _ _ _ hf]
     simp[hsz]
    refine OkRes.push hR (w.alloc (.cells cells' e (0,0))) ⟨i.size,cs⟩ cells' e rfl ⟨rfl,rfl,rfl⟩ (fun j v hv=>hrel.get_toList j v hv) _ (.slice (some ⟨w.heap.size,0,none⟩) n n) _ ?_ ?_
    ·have h24' : ¬(n * i.size>2 ^ 24):=by omega
     by_cases h0:n * i.size=0
     ·have hza:(Array.range (n * i.size)).map (fun x=>(#[]:Array Value)[x % (#[]:Array Value).size]!)=(Array.range (n * zv.cells.size)).map (zv.cells[· % zv.cells.size]!):=by
       rw[hsz,h0]
       apply Array.ext'
       simp
      rw[←hza]at hfill
      simp only[execOp,Instr.buildSlice,Sem.run_bind,run_und hu,Result.andThen_ok,sizeOf,run_info hi,Sem.run_pure,h24',if_false,if_pos h0]
      rw[Array.toList_map,hfill]
      simp[newRow]
     ·rw[hsz]at hfill
      simp only[execOp,Instr.buildSlice,Sem.run_bind,run_und hu,Result.andThen_ok,sizeOf,run_info hi,Sem.run_pure,h24',if_false,if_neg h0,zeroValue,hzv]
      rw[Array.toList_map,hsz,hfill]
      simp[newRow]
    ·have:=AtomR.sl (φ:=setE φ h.length ⟨w.heap.size,0,cells'.size⟩) (k:=0) (n:=n) (c:=n) (tot:=(List.replicate n zv.cells.toList).flatten.length) (a:=⟨w.heap.size,0,none⟩) (ph_new h ⟨i.size,cs⟩) (by simp[hlen,hsz]) (by simp[hsz]) h1 (Nat.le_refl _)
      (by rw[setE_new];have:=hrel.length';simp at this;simp;omega) (.inr (by rw[setE_new]))
     exact this
   ·cases hc
  ·cases hc
 ·cases hc
theorem wrap_i64 (n:Int):IntKind.i64.wrap n=if n % 18446744073709551616≥9223372036854775808 then n % 18446744073709551616 - 18446744073709551616 else n % 18446744073709551616:=by
 simp[IntKind.wrap,IntKind.bits,IntKind.signed]
theorem wrap_small {n:Int} (h0:0≤n) (h1:n≤2 ^ 47):IntKind.i64.wrap n=n:=by
 rw[wrap_i64]
 split<;>omega
theorem s_makeSlice (t:TypeId) (l c:Operand) (hc:compOp P ⟨dst,.makeSlice t l c,ty,pos,after,guard⟩=some op) (hR:RH nro φ h.ph w) (hE:RE φ h.ph env a)
  (hv:vop call nro (vev env) h op=some (v,h')):OkRes nro φ h.ph w v h' ((execOp a.eval ⟨dst,.makeSlice t l c,ty,pos,after,guard⟩).run P w):=by
 simp only[compOp]at hc
 split at hc
 ·rename_i hx
  simp only[Bool.and_eq_true]at hx
  have el:=hE.ev hx.1
  have ec:=hE.ev hx.2
  split at hc
  ·rename_i e he
   split at hc
   ·rename_i z i hz hi
    split at hc
    ·rename_i hcond
     simp only[Bool.and_eq_true,decide_eq_true_eq]at hcond
     obtain⟨h1,h20⟩:=hcond
     cases hc
     obtain⟨i',zv,hi',hzv,rfl,hsz,hcl⟩:=zerosOf_spec hz
     rw[hi]at hi'
     cases hi'
     simp only[vop]at hv
     split at hv
     ·rename_i n m e1 e2
      rw[e1]at el
      rw[e2]at ec
      split at hv
      ·rename_i hcond
       obtain⟨rfl,h0,hb,hn⟩:=hcond
       simp only[Option.some.injEq,Prod.mk.injEq]at hv
       obtain⟨rfl,rfl⟩:=hv
       have hu:=elemOf_spec he
       have hzr:=zero_rel (φ:=φ) (L:=h.ph) zv hcl n.toNat
       have hwr:=wrap_small h0 hn
       refine OkRes.push hR (w.alloc (.cells ((Array.range (n.toNat * zv.cells.size)).map (zv.cells[· % zv.cells.size]!)) e (0,0))) ⟨i.size,(List.replicate n.toNat zv.cells.toList).flatten⟩ ((Array.range (n.toNat * zv.cells.size)).map (zv.cells[· % zv.cells.size]!)) e rfl ⟨rfl,rfl,rfl⟩ (fun j v hv=>hzr.get_toList j v hv) _ (.slice (some ⟨w.heap.size,0,none⟩) n.toNat n.toNat) _ ?_ ?_
       ·have h4: ¬((i.bytes:Int) * n>2 ^ 48):=by omega
        have h5: ¬n<0:=by omega
        have h6: ¬n>n:=by omega
        by_cases h0:n.toNat * i.size=0
        ·have hza:(Array.range (n.toNat * i.size)).map (fun x=>(#[]:Array Value)[x % (#[]:Array Value).size]!)=(Array.range (n.toNat * zv.cells.size)).map (zv.cells[· % zv.cells.size]!):=by
          rw[hsz,h0]
          apply Array.ext'
          simp
         rw[←hza]
         simp only[execOp,Instr.makeSlice,Sem.run_bind,run_und hu,Result.andThen_ok,el.inv_int,ec.inv_int,asInt,asIntOf,Sem.run_pure,run_info hi,hwr,h4,h5,h6,decide_false,Bool.or_false,Bool.false_eq_true,if_false,run_askRoom,sizeOf,if_pos h0]
         simp[newRow]
        ·simp only[execOp,Instr.makeSlice,Sem.run_bind,run_und hu,Result.andThen_ok,el.inv_int,ec.inv_int,asInt,asIntOf,Sem.run_pure,run_info hi,hwr,h4,h5,h6,decide_false,Bool.or_false,Bool.false_eq_true,if_false,run_askRoom,sizeOf,if_neg h0,zeroValue,hzv]
         rw[hsz]
         simp[newRow]
       ·have hlen:(List.replicate n.toNat zv.cells.toList).flatten.length=n.toNat * i.size:=by simp[hsz]
        have:=AtomR.sl (φ:=setE φ h.length ⟨w.heap.size,0,((Array.range (n.toNat * zv.cells.size)).map (zv.cells[· % zv.cells.size]!)).size⟩) (k:=0) (n:=n.toNat) (c:=n.toNat) (tot:=n.toNat * i.size) (a:=⟨w.heap.size,0,none⟩) (ph_new h ⟨i.size,(List.replicate n.toNat zv.cells.toList).flatten⟩) hlen.symm (by simp) h1 (Nat.le_refl _)
         (by rw[setE_new];simp[hsz]) (.inr (by rw[setE_new]))
        exact this
      ·cases hv
     ·cases hv
    ·cases hc
   ·cases hc
  ·cases hc
 ·cases hc
theorem splice_length {k:Nat} {vs cs:List Value} (h:k+vs.length≤cs.length):(splice k vs cs).length=cs.length:=by
 unfold splice
 simp
 omega
theorem s_store (t : TypeId) (p x : Operand) (hc : compOp P ⟨dst, .store t p x, ty, pos, after, guard⟩ = some op) (hR : RH nro φ h.ph w) (hE : RE φ h.ph env a)
    (hv:vop call nro (vev env) h op=some (v,h')):OkRes nro φ h.ph w v h' ((execOp a.eval ⟨dst,.store t p x,ty,pos,after,guard⟩).run P w):=by
  simp only[compOp]at hc
  split at hc
  · rename_i hx
    simp only[Bool.and_eq_true]at hx
    have ep:=hE.ev hx.1
    have ex:=hE.ev hx.2
    split at hc
    · rename_i n hn
      cases hc
      simp only[vop]at hv
      obtain⟨h1,hst,hv⟩:=mapS hv
      simp only[Prod.mk.injEq]at hv
      obtain⟨rfl,rfl⟩:=hv
      unfold vstore at hst
      split at hst
      · rename_i q e1
        rw[e1]at ep
        obtain⟨i,k,tot,rfl⟩:=ep.inv_ptr.spot_ptr
        split at hst
        · rename_i o ho
          split at hst
          · rename_i hcond
            obtain⟨hni,hspot,hle,hlen,hj⟩:=hcond
            simp only[Option.some.injEq]at hspot
            subst hspot
            cases hst
            have e2:=ep.inv_ptr.inv_ptr_some ho rfl
            have hcr:=ex.cells (notJunk_of_cells hj)
            have hones:=hcr.ones hj
            obtain⟨C,tC,fz,hb,hcells,hown⟩:=hR.cells i o ho
            obtain⟨rfl,hoff,hcap⟩:=hown hni
            have hl2:(a.eval x).cells.size=n:=by have:=hcr.length';simp at this;omega
            have hfit:k+(a.eval x).cells.size≤C.size:=by
              rcases Nat.eq_zero_or_pos n with h0|h0
              · rw [hl2, h0]
                rcases Nat.eq_zero_or_pos k with hk|hk
                · omega
                · obtain ⟨v', hv', _⟩ := hcells (k - 1) o.cells[k - 1] (by have : k - 1 < o.cells.length := by (simp only at hle; omega)
                                                                           simp[this])
                  have:=(Array.getElem?_eq_some_iff.mp hv').1
                  omega
              · obtain ⟨v', hv', _⟩ := hcells (k + n - 1) o.cells[k + n - 1] (by have : k + n - 1 < o.cells.length := by (simp only at hle; omega)
                                                                                 simp[this])
                have:=(Array.getElem?_eq_some_iff.mp hv').1
                omega
            have hrun:=run_storeCells_at P (φ i).b k tC (a.eval x).cells.toList 0 C w hb (by simpa using hfit) hones
            simp only[Nat.add_zero]at hrun
            have hsp:All2 (CellR φ h.ph) (splice k (vcells (vev env x)) o.cells) (splice k (a.eval x).cells.toList (C.toList.take o.cells.length)):=by
              refine hcr.splice (All2.of_get ?_ fun j x y hx hy=> ?_)
              · rcases Nat.eq_zero_or_pos o.cells.length with h0 | h0
                · simp[h0]
                · obtain ⟨v', hv', _⟩ := hcells (o.cells.length - 1) o.cells[o.cells.length - 1] (by simp [show o.cells.length - 1 < o.cells.length by omega])
                  have:=(Array.getElem?_eq_some_iff.mp hv').1
                  simp
                  omega
              · obtain ⟨v', hv', hr⟩ := hcells j x hx
                have:j<o.cells.length:=(List.getElem?_eq_some_iff.mp hx).1
                rw[hoff,Nat.zero_add]at hv'
                rw[List.getElem?_take,if_pos this]at hy
                have:C[j]? =some y:=by simpa using hy
                rw[this]at hv'
                cases hv'
                exact hr
            have hcell2: ∀(j:Nat) v,(splice k (vcells (vev env x)) o.cells)[j]? =some v→ ∃v',(C.toList.take k++(a.eval x).cells.toList++C.toList.drop (k+(a.eval x).cells.toList.length)).toArray[j]? =some v' ∧CellR φ h.ph v v' :=by
              intro j v hv
              obtain⟨v',hv',hr⟩:=hsp.get' j v hv
              refine⟨v',?_,hr⟩
              have hjl:j<o.cells.length:=by
                have:=(List.getElem?_eq_some_iff.mp hv).1
                rw[splice_length (by simp only at hle;omega)]at this
                exact this
              rw[←hv']
              unfold splice
              simp only[List.getElem?_toArray,List.getElem?_append,List.length_append,List.length_take,List.getElem?_take,List.getElem?_drop,List.take_take,Array.length_toList]
              have hkl:k≤o.cells.length:=by simp only at hle;omega
              have hkc:k≤C.size:=by omega
              have e3:min k o.cells.length=k:=by omega
              have e4:min k C.size=k:=by omega
              rw[e3,e4]
              by_cases c1:j<k+(a.eval x).cells.size
              · simp only[c1,if_true]
              · simp only [c1, if_false]
                rw[if_pos (by omega)]
            obtain⟨r1,r2⟩:=hR.write (w1:=w.setRow (φ i).b (C.toList.take k++(a.eval x).cells.toList++C.toList.drop (k+(a.eval x).cells.toList.length)).toArray) ho hni (splice k (vcells (vev env x)) o.cells) (by rw[splice_length (by simp only at hle;omega)];exact Nat.le_refl _) C _ tC (0,0) hb
              (by simp; omega) (by
                apply Array.ext_getElem?
                intro q
                have hbl:(φ i).b<w.heap.size:=(Array.getElem?_eq_some_iff.mp hb).1
                by_cases hq:q=(φ i).b
                · subst hq
                  rw[setRow_heap w _ C _ tC (0,0) hb]
                  simp[hbl]
                · rw[setRow_other w _ _ _ hq,Array.getElem?_setIfInBounds_ne (fun h=>hq h.symm)]) ⟨rfl,rfl,rfl⟩ hcell2
            refine⟨φ,_,r1,r2,.inr ⟨?_,rfl⟩⟩
            have e4:(⟨(φ i).b,(φ i).off+k,none⟩:Addr)=⟨(φ i).b,k,none⟩:=by rw[hoff,Nat.zero_add]
            simp only[execOp,Instr.storeAt,Sem.run_bind,e2,Instr.sureAddr,Sem.run_pure,Result.andThen_ok,storeVar,run_size hn,hl2,ne_eq,not_true_eq_false,if_false,e4,hrun]
          · cases hst
        · cases hst
      · cases hst
    · cases hc
  · cases hc
end
end

/- append. -/
section
open Go
section
variable {P:Program} {nro:Nat} {φ:Em} {h:VH} {w:World} {env:List Value} {a:Act} {dst:Option Tmp} {ty:TypeId} {pos:String} {after:Array Edge} {guard:Option (Nat × Bool)} {v:Value} {h' :VH} {call:VCall} {op:VOp}
theorem src_rel (hR:RH nro φ h.ph w) {sz m:Nat} {x xv:Value} {cs:List Value} (hx:TopR φ h.ph xv x) (hs:vsrc sz h xv=some (cs,m)):
  (x= .slice none 0 0∧m=0∧cs= [])∨ ∃q c news,x= .slice (some q) m c∧All2 (CellR φ h.ph) cs news∧news.length=m * sz∧cs.length=m * sz∧(0<m→0<sz→ ∀(j:Nat) v,news[j]? =some v→w.cell? (q.add j)=some v):=by
 unfold vsrc at hs
 split at hs
 ·simp only[Option.some.injEq,Prod.mk.injEq]at hs
  obtain⟨rfl,rfl⟩:=hs
  refine .inl ⟨?_,rfl,rfl⟩
  have:=hx.inv_sl
  cases this
  rfl
 ·simp only[Option.some.injEq,Prod.mk.injEq]at hs
  obtain⟨rfl,rfl⟩:=hs
  have:=hx.inv_sl
  cases this with
  | slE q c => exact .inr ⟨q, c, [], rfl, .nil, by simp, by simp, fun h => by omega⟩
 ·rename_i p n tot
  split at hs
  ·rename_i o ho
   split at hs
   ·rename_i hcond
    obtain⟨rfl,htot,hle⟩:=hcond
    simp only[Option.some.injEq,Prod.mk.injEq]at hs
    obtain⟨rfl,rfl⟩:=hs
    have hsl:=hx.inv_sl
    obtain⟨i,k,rfl⟩:=hsl.spot_sl
    obtain⟨q,c,rfl,hk,h1,hc,hcap,ha⟩:=hsl.inv_sl_some ho htot
    obtain⟨news,hr,hlen,hcell⟩:=hR.read ho k (n * o.sz) (by simp only at hle;omega)
    refine .inr ⟨q,c,news,rfl,hr,hlen,by rw[hr.length',hlen],fun hn hz j v hv=> ?_⟩
    have hq:q=⟨(φ i).b,(φ i).off+k,none⟩:=ha.resolve_left (by omega)
    subst hq
    rw[Addr.add_mk]
    exact hcell j v hv
   ·cases hs
  ·cases hs
 ·cases hs
theorem size_zeros (z:Array Value) (n:Nat):(Builtin.zeroCells z n).size=n * z.size:=by simp[Builtin.zeroCells]
theorem grownCap_ge (w:World) (n c:Nat) (e:TypeId):n≤grownCap w n c e:=by
 show n≤n+_ % _
 exact Nat.le_add_right _ _
theorem s_append (c:Call) (t:TypeId) (s x:Operand) (e:TypeId) (i:TypeInfo) (z:List Value) (hcl:c.callee= .builtin .append) (hargs:c.args= #[s,x]) (hts:c.argTypes= #[t,t]) (hs:okOpd s=true) (hx:okOpd x=true)
  (he:P.underlying t=some (.slice e)) (hi:P.info? e=some i) (hz:zerosOf P e=some z) (h1:1≤i.size) (hb:i.bytes≤2 ^ 20)
  (hR:RH nro φ h.ph w) (hE:RE φ h.ph env a) (hv:vop call nro (vev env) h (.app i.size i.bytes z s x)=some (v,h')):OkRes nro φ h.ph w v h' ((execOp a.eval ⟨dst,.call c,ty,pos,after,guard⟩).run P w):=by
 obtain⟨i',zv,hi',hzv,rfl,hzsz,hzcl⟩:=zerosOf_spec hz
 rw[hi]at hi'
 cases hi'
 have es:=hE.ev hs
 have ex:=hE.ev hx
 have hexec: ∀ {r:Value} {W:World},(Builtin.append_ #[t,t] ty #[a.eval s,a.eval x]).run P w= .ok r W→(execOp a.eval ⟨dst,.call c,ty,pos,after,guard⟩).run P w= .ok (.value r) W:=by
  intro r W hr
  simp[execOp,resolve,hcl,hargs,hts,invoke,builtin,hr]
 simp only[vop]at hv
 unfold vappend at hv
 split at hv
 ·cases hv
 ·rename_i cs m hsrc
  have hsr:=src_rel hR ex hsrc
  split at hv
  ·rename_i hcond
   obtain⟨hj,_⟩:=hcond
   split at hv
   ·rename_i e1
    rw[e1]at es
    have e2:a.eval s= .slice none 0 0:=by
     have:=es.inv_sl
     generalize a.eval s=q at this
     cases this
     rfl
    split at hv
    ·rename_i hm
     subst hm
     simp only[Option.some.injEq,Prod.mk.injEq]at hv
     obtain⟨rfl,rfl⟩:=hv
     refine .quiet (v' := .slice none 0 0) hR (hexec ?_) AtomR.slN.top
     rcases hsr with⟨e3,_,_⟩|⟨q,c',news,e3,_⟩
     ·simp[Builtin.append_,run_und he,sizeOf,run_info hi,e2,e3,Builtin.lenOf,Builtin.firstCells]
     ·simp[Builtin.append_,run_und he,sizeOf,run_info hi,e2,e3,Builtin.lenOf,Builtin.firstCells,loadCells,loadCellsFrom]
    ·rename_i hm
     split at hv
     ·rename_i hlim
      simp only[Option.some.injEq,Prod.mk.injEq]at hv
      obtain⟨rfl,rfl⟩:=hv
      rcases hsr with⟨_,hm0,_⟩|⟨q,c',news,e3,hr,hln,hlc,hcell⟩
      ·exact absurd hm0 hm
      ·have hrun:=run_append_nil (P:=P) w t ty e i zv he hi hzv q m c' news hln (hcell (by omega) (by omega)) (by omega) (by omega) (by omega)
       rw[←e2,←e3]at hrun
       have hC: ∀(j:Nat) v,cs[j]? =some v→ ∃v',(news.toArray++Builtin.zeroCells zv.cells (grownCap w m 0 e - m))[j]? =some v' ∧CellR φ h.ph v v' :=by
        intro j v hv
        obtain⟨v',hv',hr⟩:=hr.get' j v hv
        have hjl:=(List.getElem?_eq_some_iff.mp hv').1
        exact⟨v',by rw[Array.getElem?_append_left (by simpa using hjl)];simpa using hv',hr⟩
       have hge:m≤grownCap w m 0 e:=grownCap_ge _ _ _ _
       refine OkRes.push hR (w.drew.alloc (.cells (news.toArray++Builtin.zeroCells zv.cells (grownCap w m 0 e - m)) e)) ⟨i.size,cs⟩ _ e rfl ⟨rfl,rfl,rfl⟩ hC _ _ _ (hexec hrun) ?_
       exact AtomR.sl (o:=⟨i.size,cs⟩) (ph_new h _) rfl (by simp[hlc]) h1 hge (by
        rw[setE_new]
        simp only[Array.size_append,List.size_toArray,size_zeros,hln,hzsz,Nat.zero_add]
        rw[←Nat.add_mul]
        exact Nat.le_of_eq (by congr 1;omega)) (.inr (by rw[setE_new]))
     ·cases hv
   ·rename_i p n tot e1
    rw[e1]at es
    have hsl:=es.inv_sl
    obtain⟨i0,k,rfl⟩:=hsl.spot_sl
    split at hv
    ·rename_i o ho
     split at hv
     ·rename_i hcond2
      obtain⟨hni,hosz,htot,hoff0,hfull,hlim1,hlim2⟩:=hcond2
      simp only at hoff0 hni ho
      subst hoff0
      simp only[Option.some.injEq,Prod.mk.injEq]at hv
      obtain⟨rfl,rfl⟩:=hv
      obtain⟨q0,c0,e2,hk,hs1,hnc,hcap,ha⟩:=hsl.inv_sl_some ho htot
      obtain⟨C,tC,fz,hblk,hcells,hown⟩:=hR.cells i0 o ho
      obtain⟨rfl,hoff,hCsz⟩:=hown hni
      have hil:i0<h.length:=VH.ph_lt ho
      by_cases hm:m=0
      ·subst hm
       have hcs:cs= []:=by
        rcases hsr with⟨_,_,h0⟩|⟨_,_,_,_,_,_,hlc,_⟩
        ·exact h0
        ·exact List.length_eq_zero_iff.mp (by omega)
       subst hcs
       have hset:h.set i0 { o with cells:=o.cells++ []}=h:=by
        simp only[List.append_nil]
        apply List.ext_getElem?
        intro j
        rw[List.getElem?_set]
        split
        ·subst_vars;simp[hil,ho.symm]
        ·rfl
       rw[hset]
       refine .quiet (v' := .slice (some q0) n c0) hR (hexec ?_) (by simpa [←e2]using es)
       rcases hsr with⟨e3,_,_⟩|⟨q,c',news,e3,_⟩
       ·simp[Builtin.append_,run_und he,sizeOf,run_info hi,e2,e3,Builtin.lenOf,Builtin.firstCells,hnc,storeCells]
       ·simp[Builtin.append_,run_und he,sizeOf,run_info hi,e2,e3,Builtin.lenOf,Builtin.firstCells,loadCells,loadCellsFrom,hnc,storeCells]
      ·rcases hsr with⟨_,hm0,_⟩|⟨q,c',news,e3,hr,hln,hlc,hcell⟩
       ·exact absurd hm0 hm
       ·have hcell:=hcell (by omega) (by omega)
        have hones:=hr.ones hj
        have hn2:n * i.size=o.cells.length:=by rw[hfull,htot]
        by_cases hroom:n+m≤c0
        ·-- in place
         have hq0:q0=⟨(φ i0).b,(φ i0).off+0,none⟩:=ha.resolve_left (by omega)
         rw[hoff]at hq0
         subst hq0
         have hcsz:c0 * i.size≤C.size:=by rw[hCsz,←hosz];simpa using hcap
         have hle2:(n+m) * i.size≤C.size:=Nat.le_trans (Nat.mul_le_mul_right _ hroom) hcsz
         rw[Nat.add_mul]at hle2
         have hf:=run_firstCells_some (P:=P) w i.size m q m c' news hln hcell
         have hst:=run_storeCells_at P (φ i0).b (n * i.size) tC news 0 C w hblk (by omega) hones
         try simp only[Nat.add_zero]at hst
         have hrun:(Builtin.append_ #[t,t] ty #[a.eval s,a.eval x]).run P w= .ok (.slice (some ⟨(φ i0).b,0,none⟩) (n+m) c0) (w.setRow (φ i0).b (C.toList.take (n * i.size)++news++C.toList.drop (n * i.size+news.length)).toArray):=by
          rw[e2,e3]
          simp[Builtin.append_,run_und he,sizeOf,run_info hi,Builtin.lenOf,hroom,hf,Addr.add_mk,hst]
         obtain⟨r1,r2⟩:=hR.write (w1:=w.setRow (φ i0).b (C.toList.take (n * i.size)++news++C.toList.drop (n * i.size+news.length)).toArray) ho hni (o.cells++cs) (by simp) C (C.toList.take (n * i.size)++news++C.toList.drop (n * i.size+news.length)).toArray tC (0,0) hblk
          (by simp;omega) (by
           apply Array.ext_getElem?
           intro b
           have hbl:(φ i0).b<w.heap.size:=(Array.getElem?_eq_some_iff.mp hblk).1
           by_cases hb2:b=(φ i0).b
           ·subst hb2
            rw[setRow_heap w _ C _ tC (0,0) hblk]
            simp[hbl]
           ·rw[setRow_other w _ _ _ hb2,Array.getElem?_setIfInBounds_ne (fun h=>hb2 h.symm)]) ⟨rfl,rfl,rfl⟩ (by
           intro j v hv
           rw[List.getElem?_append]at hv
           rw[List.getElem?_toArray,List.append_assoc]
           split at hv
           ·rename_i hjl
            obtain⟨v',hv',hr'⟩:=hcells j v hv
            rw[hoff,Nat.zero_add]at hv'
            have hjC:=(Array.getElem?_eq_some_iff.mp hv').1
            refine⟨v',?_,hr'⟩
            rw[List.getElem?_append_left (by simp;omega),List.getElem?_take,if_pos (by omega)]
            simpa using hv'
           ·rename_i hjl
            obtain⟨v',hv',hr'⟩:=hr.get' _ v hv
            have hjn:=(List.getElem?_eq_some_iff.mp hv').1
            refine⟨v',?_,hr'⟩
            have hlt:(C.toList.take (n * i.size)).length=n * i.size:=by simp;omega
            rw[List.getElem?_append_right (by omega),hlt,List.getElem?_append_left (by omega),hn2]
            exact hv')
         refine⟨φ,_,r1,r2,.inl ⟨_,hexec hrun,(AtomR.sl (o:= { o with cells:=o.cells++cs}) (by simp[VH.ph,hil]) (by simp[htot]) ?_ hs1 hroom (by simpa using hcap) (.inr (by simp))).top⟩⟩
         rw[hlc]
         simp only[hosz,Nat.zero_add]
         rw[Nat.add_mul,hfull]
         exact Nat.le_refl _
        ·-- in a new place
         obtain⟨olds,hro,hlo,hco⟩:=hR.read ho 0 (n * i.size) (by omega)
         have hco2: ∀(j:Nat) v,olds[j]? =some v→w.cell? (q0.add j)=some v:=by
          intro j v hv
          have hjl:=(List.getElem?_eq_some_iff.mp hv).1
          have hc00:c0≠0:=by
           intro h0
           have:n=0:=by omega
           rw[this]at hlo
           simp at hlo
           rw[hlo]at hjl
           simp at hjl
          have hq0:q0=⟨(φ i0).b,(φ i0).off+0,none⟩:=ha.resolve_left hc00
          subst hq0
          rw[Addr.add_mk]
          exact hco j v hv
         have hrun:=run_append_grow (P:=P) w t ty e i zv he hi hzv q0 n c0 olds hlo hco2 q m c' news hln hcell (by omega) (by omega) (growslice_fits (by omega) (by omega))
         rw[←e2,←e3]at hrun
         have hge:n+m≤grownCap w (n+m) c0 e:=grownCap_ge _ _ _ _
         have htk:(o.cells.drop 0).take (n * i.size)=o.cells:=by rw[List.drop_zero,hn2,List.take_length]
         rw[htk]at hro
         obtain⟨r1,r2⟩:=hR.move (w1:=w.drew.alloc (.cells (olds.toArray++news.toArray++Builtin.zeroCells zv.cells (grownCap w (n+m) c0 e - (n+m))) e)) ho hni (o.cells++cs) (by
           simp only[List.length_append,hlc]
           have:0<m * i.size:=Nat.mul_pos (by omega) (by omega)
           omega) _ e rfl ⟨rfl,rfl,rfl⟩ (by
           intro j v hv
           obtain⟨v',hv',hr'⟩:=(hro.append hr).get' j v hv
           have hjl:=(List.getElem?_eq_some_iff.mp hv').1
           refine⟨v',?_,hr'⟩
           rw[Array.getElem?_append_left (by simpa using hjl)]
           simpa using hv')
         refine⟨_,_,r1,r2,.inl ⟨_,hexec hrun,(AtomR.sl (o:= { o with cells:=o.cells++cs}) (by simp[VH.ph,hil]) (by simp[htot]) ?_ hs1 hge ?_ (.inr (by rw[setE_new]))).top⟩⟩
         ·rw[hlc]
          simp only[hosz,Nat.zero_add]
          rw[Nat.add_mul,hfull]
          exact Nat.le_refl _
         ·rw[setE_new]
          simp only[Array.size_append,List.size_toArray,size_zeros,hln,hlo,hzsz,Nat.zero_add,hosz]
          rw[←Nat.add_mul,←Nat.add_mul]
          exact Nat.le_of_eq (by congr 1;omega)
     ·cases hv
    ·cases hv
   ·cases hv
  ·cases hv
theorem write_core (hR:RH nro φ h.ph w) {i k:Nat} {o:VO} (ho:h.ph i=some o) (hni:nro≤i) {vs vs' :List Value} (hcr:All2 (CellR φ h.ph) vs vs') (hones: ∀v∈vs',v.oneCell' =true) (hpos:0<vs.length) (hle:k+vs.length≤o.cells.length):
  ∃w1,(storeCells ⟨(φ i).b,(φ i).off+k,none⟩ vs').run P w= .ok () w1∧RH nro φ (VH.ph (h.set i { o with cells:=splice k vs o.cells})) w1∧X nro φ h.ph w φ (VH.ph (h.set i { o with cells:=splice k vs o.cells})) w1:=by
 obtain⟨C,tC,fz,hb,hcells,hown⟩:=hR.cells i o ho
 obtain⟨rfl,hoff,hcap⟩:=hown hni
 have hl2:vs'.length=vs.length:=hcr.length'.symm
 have hlast:o.cells.length≤C.size:=by
  obtain⟨v',hv',_⟩:=hcells (o.cells.length - 1) o.cells[o.cells.length - 1] (by simp[show o.cells.length - 1<o.cells.length by omega])
  have:=(Array.getElem?_eq_some_iff.mp hv').1
  omega
 have hrun:=run_storeCells_at P (φ i).b k tC vs' 0 C w hb (by omega) hones
 simp only[Nat.add_zero]at hrun
 have hsp:All2 (CellR φ h.ph) (splice k vs o.cells) (splice k vs' (C.toList.take o.cells.length)):=by
  refine hcr.splice (All2.of_get ?_ fun j x y hx hy=> ?_)
  ·simp;omega
  ·obtain⟨v',hv',hr⟩:=hcells j x hx
   have:j<o.cells.length:=(List.getElem?_eq_some_iff.mp hx).1
   rw[hoff,Nat.zero_add]at hv'
   rw[List.getElem?_take,if_pos this]at hy
   have:C[j]? =some y:=by simpa using hy
   rw[this]at hv'
   cases hv'
   exact hr
 have hcell2: ∀(j:Nat) v,(splice k vs o.cells)[j]? =some v→ ∃v',(C.toList.take k++vs' ++C.toList.drop (k+vs'.length)).toArray[j]? =some v' ∧CellR φ h.ph v v' :=by
  intro j v hv
  obtain⟨v',hv',hr⟩:=hsp.get' j v hv
  refine⟨v',?_,hr⟩
  have hjl:j<o.cells.length:=by
   have:=(List.getElem?_eq_some_iff.mp hv).1
   rw[splice_length hle]at this
   exact this
  rw[←hv']
  unfold splice
  simp only[List.getElem?_toArray,List.getElem?_append,List.length_append,List.length_take,List.getElem?_take,List.getElem?_drop,List.take_take,Array.length_toList]
  have e3:min k o.cells.length=k:=by omega
  have e4:min k C.size=k:=by omega
  rw[e3,e4]
  by_cases c1:j<k+vs'.length
  ·simp only[c1,if_true]
  ·simp only[c1,if_false]
   rw[if_pos (by omega)]
 obtain⟨r1,r2⟩:=hR.write (w1:=w.setRow (φ i).b (C.toList.take k++vs' ++C.toList.drop (k+vs'.length)).toArray) ho hni (splice k vs o.cells) (by rw[splice_length hle];exact Nat.le_refl _) C _ tC (0,0) hb
  (by simp;omega) (by
   apply Array.ext_getElem?
   intro q
   have hbl:(φ i).b<w.heap.size:=(Array.getElem?_eq_some_iff.mp hb).1
   by_cases hq:q=(φ i).b
   ·subst hq
    rw[setRow_heap w _ C _ tC (0,0) hb]
    simp[hbl]
   ·rw[setRow_other w _ _ _ hq,Array.getElem?_setIfInBounds_ne (fun h=>hq h.symm)]) ⟨rfl,rfl,rfl⟩ hcell2
 have e4:(⟨(φ i).b,(φ i).off+k,none⟩:Addr)=⟨(φ i).b,k,none⟩:=by rw[hoff,Nat.zero_add]
 exact⟨_,by rw[e4];exact hrun,r1,r2⟩
theorem s_clear (c:Call) (t:TypeId) (x:Operand) (e:TypeId) (i:TypeInfo) (z:List Value) (hcl:c.callee= .builtin .clear) (hargs:c.args= #[x]) (hts:c.argTypes= #[t]) (hx:okOpd x=true)
  (he:P.underlying t=some (.slice e)) (hi:P.info? e=some i) (hz:zerosOf P e=some z) (h1:1≤i.size)
  (hR:RH nro φ h.ph w) (hE:RE φ h.ph env a) (hv:vop call nro (vev env) h (.clr i.size z x)=some (v,h')):OkRes nro φ h.ph w v h' ((execOp a.eval ⟨dst,.call c,ty,pos,after,guard⟩).run P w):=by
 obtain⟨i',zv,hi',hzv,rfl,hzsz,hzcl⟩:=zerosOf_spec hz
 rw[hi]at hi'
 cases hi'
 have ex:=hE.ev hx
 have hexec: ∀ {r:Value} {W:World},(Builtin.clear_ #[t] ty #[a.eval x]).run P w= .ok r W→(execOp a.eval ⟨dst,.call c,ty,pos,after,guard⟩).run P w= .ok (.value r) W:=by
  intro r W hr
  simp[execOp,resolve,hcl,hargs,hts,invoke,builtin,hr]
 simp only[vop]at hv
 generalize a.eval x=xv at *
 unfold vclear at hv
 split at hv
 ·rename_i e1
  simp only[Option.some.injEq,Prod.mk.injEq]at hv
  obtain⟨rfl,rfl⟩:=hv
  rw[e1]at ex
  have:=ex.inv_sl
  cases this
  refine .quiet (v' := .tuple #[]) hR (hexec ?_) .undef
  simp[Builtin.clear_,run_und he]
 ·rename_i e1
  simp only[Option.some.injEq,Prod.mk.injEq]at hv
  obtain⟨rfl,rfl⟩:=hv
  rw[e1]at ex
  have:=ex.inv_sl
  cases this
  refine .quiet (v' := .tuple #[]) hR (hexec ?_) .undef
  simp[Builtin.clear_,run_und he]
 ·rename_i p n tot e1
  rw[e1]at ex
  split at hv
  ·rename_i o ho
   split at hv
   ·rename_i hcond
    obtain⟨hosz,htot⟩:=hcond
    have hsl:=ex.inv_sl
    obtain⟨i0,k,rfl⟩:=hsl.spot_sl
    obtain⟨q,c',rfl,hk,hs1,hnc,hcap,ha⟩:=hsl.inv_sl_some ho htot
    split at hv
    ·rename_i hn0
     simp only[Option.some.injEq,Prod.mk.injEq]at hv
     obtain⟨rfl,rfl⟩:=hv
     subst hn0
     refine .quiet (v' := .tuple #[]) hR (hexec ?_) .undef
     simp[Builtin.clear_,run_und he]
    ·rename_i hn0
     split at hv
     ·rename_i hc2
      obtain⟨hni,hle,hzl,hzj⟩:=hc2
      simp only[Option.some.injEq,Prod.mk.injEq]at hv
      obtain⟨rfl,rfl⟩:=hv
      have hq:q=⟨(φ i0).b,(φ i0).off+k,none⟩:=ha.resolve_left (by omega)
      subst hq
      have hzr:=zero_rel (φ:=φ) (L:=h.ph) zv hzcl n
      have hfl:(List.replicate n zv.cells.toList).flatten.length=n * i.size:=by simp[hzsz]
      have hall:(List.replicate n zv.cells.toList).flatten.all (fun v=> !isJunk v)=true:=by
       rw[List.all_eq_true]at hzj⊢
       intro v hv
       obtain⟨l,hl,hvl⟩:=List.mem_flatten.mp hv
       rw[List.eq_of_mem_replicate hl]at hvl
       exact hzj v hvl
      obtain⟨w1,r1,r2,r3⟩:=write_core (k:=k) hR ho hni hzr (hzr.ones hall) (by rw[hfl];exact Nat.mul_pos (by omega) (by omega)) (by rw[hfl];simp only at hle;omega)
      refine⟨φ,w1,r2,r3,.inl ⟨.tuple #[],hexec ?_,.undef⟩⟩
      obtain⟨n',rfl⟩: ∃n',n=n' +1:=⟨n - 1,by omega⟩
      have hz0: ∀W:World,(zeroValue e).run P W= .ok zv W:=fun W=>by simp[zeroValue,run_info hi,hzv]
      have hst:(storeCells ⟨(φ i0).b,(φ i0).off+k,none⟩ (Builtin.zeroCells zv.cells (n' +1)).toList).run P w= .ok () w1:=r1
      simp[Builtin.clear_,run_und he,hz0,hst]
     ·cases hv
   ·cases hv
  ·cases hv
 ·cases hv
theorem s_copy (c:Call) (t:TypeId) (x y:Operand) (e:TypeId) (i:TypeInfo) (hcl:c.callee= .builtin .copy) (hargs:c.args= #[x,y]) (hts:c.argTypes= #[t,t]) (hx:okOpd x=true) (hy:okOpd y=true)
  (he:P.underlying t=some (.slice e)) (hi:P.info? e=some i)
  (hR:RH nro φ h.ph w) (hE:RE φ h.ph env a) (hv:vop call nro (vev env) h (.cpy i.size x y)=some (v,h')):OkRes nro φ h.ph w v h' ((execOp a.eval ⟨dst,.call c,ty,pos,after,guard⟩).run P w):=by
 have ex:=hE.ev hx
 have ey:=hE.ev hy
 have hexec: ∀ {r:Value} {W:World},(Builtin.copy_ #[t,t] ty #[a.eval x,a.eval y]).run P w= .ok r W→(execOp a.eval ⟨dst,.call c,ty,pos,after,guard⟩).run P w= .ok (.value r) W:=by
  intro r W hr
  simp[execOp,resolve,hcl,hargs,hts,invoke,builtin,hr]
 simp only[vop]at hv
 unfold vcopy at hv
 split at hv
 ·cases hv
 ·rename_i cs m hsrc
  have hsr:=src_rel hR ey hsrc
  generalize a.eval x=xv at *
  generalize a.eval y=yv at *
  -- nothing is copied
  have hzero: ∀(p:Option Addr) (n c0:Nat),xv= .slice p n c0→min m n=0→(Builtin.copy_ #[t,t] ty #[xv,yv]).run P w= .ok (.int .i64 0) w:=by
   intro p n c0 hxv h0
   subst hxv
   rcases hsr with⟨rfl,rfl,_⟩|⟨q,c',news,rfl,_,_,_,_⟩
   ·cases p<;>simp[Builtin.copy_,run_und he,sizeOf,run_info hi,Builtin.lenOf,Builtin.firstCells,storeCells,goInt]
   ·have h0' :Nat.min m n=0:=h0
    have hf:=run_firstCells_some (P:=P) w i.size 0 q m c' [] (by simp) (fun j v hj=>by simp at hj)
    cases p<;>simp[Builtin.copy_,run_und he,sizeOf,run_info hi,Builtin.lenOf,h0',hf,storeCells,goInt]
  split at hv
  ·rename_i e1
   simp only[Option.some.injEq,Prod.mk.injEq]at hv
   obtain⟨rfl,rfl⟩:=hv
   rw[e1]at ex
   have:=ex.inv_sl
   cases this
   exact .quiet (v' := .int .i64 0) hR (hexec (hzero _ _ _ rfl (by simp))) (AtomR.int _ _).top
  ·rename_i e1
   simp only[Option.some.injEq,Prod.mk.injEq]at hv
   obtain⟨rfl,rfl⟩:=hv
   rw[e1]at ex
   have:=ex.inv_sl
   cases this
   exact .quiet (v' := .int .i64 0) hR (hexec (hzero _ _ _ rfl (by simp))) (AtomR.int _ _).top
  ·rename_i p n tot e1
   rw[e1]at ex
   split at hv
   ·rename_i o ho
    split at hv
    ·rename_i hcond
     obtain⟨hosz,htot,hcl2⟩:=hcond
     have hsl:=ex.inv_sl
     obtain⟨i0,k,rfl⟩:=hsl.spot_sl
     obtain⟨q,c',rfl,hk,hs1,hnc,hcap,ha⟩:=hsl.inv_sl_some ho htot
     split at hv
     ·rename_i hn0
      simp only[Option.some.injEq,Prod.mk.injEq]at hv
      obtain⟨rfl,rfl⟩:=hv
      exact .quiet (v' := .int .i64 0) hR (hexec (hzero _ _ _ rfl hn0)) (AtomR.int _ _).top
     ·rename_i hn0
      split at hv
      ·rename_i hc2
       obtain⟨hni,hle,hsz1,hj⟩:=hc2
       simp only[Option.some.injEq,Prod.mk.injEq]at hv
       obtain⟨rfl,rfl⟩:=hv
       have hq:q=⟨(φ i0).b,(φ i0).off+k,none⟩:=ha.resolve_left (by omega)
       subst hq
       rcases hsr with⟨_,hm0,_⟩|⟨q2,c2,news,rfl,hr,hln,hlc,hcell⟩
       ·exfalso;omega
       ·have hcell:=hcell (by omega) (by omega)
        have hmn:min m n * i.size≤m * i.size:=Nat.mul_le_mul_right _ (Nat.min_le_left _ _)
        have hr2:All2 (CellR φ h.ph) (cs.take (min m n * i.size)) (news.take (min m n * i.size)):=by
         refine All2.of_get (by simp[hln,hlc]) fun j x y hx hy=> ?_
         rw[List.getElem?_take]at hx hy
         split at hx
         ·rename_i hjl
          rw[if_pos hjl]at hy
          obtain⟨y',h1,h2⟩:=hr.get' j x hx
          rw[hy]at h1
          cases h1
          exact h2
         ·cases hx
        have hjt:(cs.take (min m n * i.size)).all (fun v=> !isJunk v)=true:=by
         rw[List.all_eq_true]at hj⊢
         exact fun v hv=>hj v (List.mem_of_mem_take hv)
        have hlt:(cs.take (min m n * i.size)).length=min m n * i.size:=by rw[List.length_take,hlc];omega
        have hlt2:(news.take (min m n * i.size)).length=min m n * i.size:=by rw[List.length_take,hln];omega
        obtain⟨w1,r1,r2,r3⟩:=write_core (k:=k) hR ho hni hr2 (hr2.ones hjt) (by rw[hlt];exact Nat.mul_pos (by omega) (by omega)) (by rw[hlt];simp only at hle;omega)
        refine⟨φ,w1,r2,r3,.inl ⟨.int .i64 ((min m n:Nat):Int),hexec ?_,(AtomR.int _ _).top⟩⟩
        have hf:=run_firstCells_some (P:=P) w i.size (min m n) q2 m c2 (news.take (min m n * i.size)) hlt2 (fun j v hv=>by
         rw[List.getElem?_take]at hv
         split at hv
         ·exact hcell j v hv
         ·cases hv)
        have hmin:Nat.min m n=min m n:=rfl
        generalize news.take (min m n * i.size)=nl at hf r1
        have hst:(storeCells ⟨(φ i0).b,(φ i0).off+k,none⟩ nl).run P w= .ok () w1:=r1
        simp[Builtin.copy_,run_und he,sizeOf,run_info hi,Builtin.lenOf,hmin,hf,hst,goInt]
      ·cases hv
    ·cases hv
   ·cases hv
  ·cases hv
end
end

/- One operation, calls too; regions in the text's order. -/
section
open Go
def CallSound (P:Program) (nro:Nat) (call:VCall):Prop:= ∀f args h v h',call f args h=some (v,h')→ ∀φ w args',nro≤h.length→RH nro φ (VH.ph h) w→All2 (TopR φ (VH.ph h)) args args' →
 (∃fn,P.funcs[f]? =some fn∧(fn.name=="runtime.NumGoroutine")=false∧fn.body.isSome=true)∧
 Calls P f args'.toArray w fun e w' => ∃φ' v',e= .returned v' ∧RH nro φ' (VH.ph h') w' ∧X nro φ (VH.ph h) w φ' (VH.ph h') w' ∧TopR φ' (VH.ph h') v v'
section
variable {P:Program} {nro:Nat} {φ:Em} {h:VH} {w:World} {env:List Value} {a:Act} {v:Value} {h' :VH} {call:VCall} {op:VOp}
def Nxt (nro:Nat) (φ:Em) (h:VH) (w:World) (a:Act) (o:Oper) (v:Value) (h' :VH) (K:Act→World→Prop):Prop:=
 ∀φ' v' w',RH nro φ' h'.ph w' →X nro φ h.ph w φ' h'.ph w' →TopR φ' h'.ph v v' →K (a.put o.dst v') w'
theorem wp_of_res {o:Oper} {K:Act→World→Prop} {Q:Exit→Act→World→Prop} (hr:OkRes nro φ h.ph w v h' ((execOp a.eval o).run P w)) (hK:Nxt nro φ h w a o v h' K):o.wp P a w K Q:=by
 obtain⟨φ',w',r1,r2,r3⟩:=hr
 unfold Oper.wp
 rcases r3 with⟨v',e,hv⟩|⟨e,rfl⟩
 ·rw[e]
  exact hK φ' v' w' r1 r2 hv
 ·rw[e]
  exact hK φ' undef w' r1 r2 .undef
theorem wp_of_enter {o:Oper} {K:Act→World→Prop} {Q:Exit→Act→World→Prop} {f:Nat} {args:Array Value} (he:(execOp a.eval o).run P w= .ok (.enter f args) w)
  (hc:Calls P f args w fun e w' => ∃φ' v',e= .returned v' ∧RH nro φ' h'.ph w' ∧X nro φ h.ph w φ' h'.ph w' ∧TopR φ' h'.ph v v') (hK:Nxt nro φ h w a o v h' K):o.wp P a w K Q:=by
 unfold Oper.wp
 rw[he]
 refine Calls.mono hc fun e w' => ?_
 rintro⟨φ',v',rfl,h1,h2,h3⟩
 exact hK φ' v' w' h1 h2 h3
theorem run_enter {c:Call} {dst:Option Tmp} {ty:TypeId} {pos:String} {after:Array Edge} {guard:Option (Nat × Bool)} {f:Nat} {fn:Func} {x:Operand} {first caps:Array Value} (hcl:c.callee= .value x) (hx:a.eval x= .func (.func f) first caps) (hf:P.funcs[f]? =some fn) (hn:(fn.name=="runtime.NumGoroutine")=false) (hb:fn.body.isSome=true):
  (execOp a.eval ⟨dst,.call c,ty,pos,after,guard⟩).run P w= .ok (.enter f (first++c.args.map a.eval++caps)) w:=by
 have hb2: ¬fn.body=none:=by intro h;rw[h]at hb;cases hb
 have hn2: ¬fn.name="runtime.NumGoroutine":=by simpa using hn
 simp[execOp,resolve,hcl,hx,Deferred.ofValue,invoke,callFunc,hf,hn2,hb2]
theorem elem_top {φ:Em} {L:PH}: ∀ {xs ys:List Value},All2 (AtomR φ L) xs ys→All2 (TopR φ L) xs ys:=fun h=>All2.imp' (fun _ _ h=>h.top) h
theorem arr {α:Type} {x:Array α} {l:List α} (h:x.toList=l):x=l.toArray:=by rw[←h]
theorem X.len {nro:Nat} {φs φ:Em} {hs h:VH} {ws w:World} (hX:X nro φs hs.ph ws φ h.ph w):hs.length≤h.length:=by
 rcases Nat.eq_zero_or_pos hs.length with h0|h0
 ·omega
 ·obtain⟨o',ho',_⟩:=hX.grow (hs.length - 1) hs[hs.length - 1] (by simp[VH.ph,show hs.length - 1<hs.length by omega])
  have:=VH.ph_lt ho'
  omega
theorem vop_wp (hS:CallSound P nro call) (hnr:nro≤h.length) (o:Oper) (hc:compOp P o=some op) (hR:RH nro φ h.ph w) (hE:RE φ h.ph env a) (hv:vop call nro (vev env) h op=some (v,h'))
  {K:Act→World→Prop} {Q:Exit→Act→World→Prop} (hK:Nxt nro φ h w a o v h' K):o.wp P a w K Q:=by
 obtain⟨dst,oop,ty,pos,after,guard⟩:=o
 cases oop
 case move x=>exact wp_of_res (s_move false x hc hR hE hv) hK
 case assign x=>exact wp_of_res (s_move true x hc hR hE hv) hK
 case pick c x y=>exact wp_of_res (s_pick c x y hc hR hE hv) hK
 case alloc t=>exact wp_of_res (s_alloc t hc hR hv) hK
 case box t x=>exact wp_of_res (s_box t x hc hR hE hv) hK
 case build t parts=>exact wp_of_res (s_build t parts hc hR hE hv) hK
 case buildSlice t n parts=>exact wp_of_res (s_buildSlice t n parts hc hR hE hv) hK
 case load t p=>exact wp_of_res (s_load t p hc hR hE hv) hK
 case store t p x=>exact wp_of_res (s_store t p x hc hR hE hv) hK
 case nilCheck x=>exact wp_of_res (s_nilCheck x hc hR hE hv) hK
 case binOp b t x y yt=>exact wp_of_res (s_bin b t yt x y hc hR hE hv) hK
 case unOp u t x=>exact wp_of_res (s_un u t x hc hR hE hv) hK
 case convert t u x=>exact wp_of_res (s_convert t u x hc hR hE hv) hK
 case makeFunc f first caps=>
  cases f with
  | func f => exact wp_of_res (s_makeFunc f first caps hc hR hE hv) hK
  | _ => simp [compOp] at hc
 case makeSlice t l c=>exact wp_of_res (s_makeSlice t l c hc hR hE hv) hK
 case slice t x lo hi mx=>
  cases mx with
  | none => exact wp_of_res (s_slice t x lo hi hc hR hE hv) hK
  | some _ => simp [compOp] at hc
 case fieldAddr t p f=>exact wp_of_res (s_fieldAddr t p f hc hR hE hv) hK
 case field t x f=>exact wp_of_res (s_field t x f hc hR hE hv) hK
 case indexAddr t s i=>exact wp_of_res (s_indexAddr t s i hc hR hE hv) hK
 case index t s i=>exact wp_of_res (s_index t s i hc hR hE hv) hK
 case extract x i=>exact wp_of_res (s_extract x i hc hR hE hv) hK
 case call c=>
  simp only[compOp]at hc
  unfold compCall at hc
  split at hc
  ·rename_i f hcl
   split at hc
   ·rename_i hx
    cases hc
    simp only[vop]at hv
    have ha:=All2.of_map hE c.args.toList hx
    obtain⟨⟨fn,hf,hn,hb⟩,hcalls⟩:=hS _ _ _ _ _ hv φ w _ hnr hR ha
    refine wp_of_enter (run_enter (first:= #[]) (caps:= #[]) hcl rfl hf hn hb) ?_ hK
    have e:(#[]++c.args.map a.eval++ #[]:Array Value)=(c.args.toList.map a.eval).toArray:=by
     apply Array.ext'
     simp
    rw[e]
    exact hcalls
   ·cases hc
  ·rename_i x hnf hcl
   split at hc
   ·rename_i hx
    simp only[Bool.and_eq_true]at hx
    cases hc
    simp only[vop]at hv
    split at hv
    ·rename_i g first caps e1
     have ex:=hE.ev hx.2
     rw[e1]at ex
     obtain⟨g',first',caps',e0,e2,h1,h2⟩:=ex.inv_fn
     cases e0
     have ha:=All2.of_map hE c.args.toList hx.1
     have hall:=((elem_top h1).append ha).append (elem_top h2)
     obtain⟨⟨fn,hf,hn,hb⟩,hcalls⟩:=hS _ _ _ _ _ hv φ w _ hnr hR hall
     refine wp_of_enter (run_enter hcl e2 hf hn hb) ?_ hK
     have e:(first' ++c.args.map a.eval++caps' :Array Value)=(first'.toList++c.args.toList.map a.eval++caps'.toList).toArray:=by
      apply Array.ext'
      simp
     rw[e]
     exact hcalls
    ·cases hv
   ·cases hc
  ·rename_i hcl
   split at hc
   ·rename_i t x ht hx
    split at hc
    ·rename_i hok
     split at hc
     ·rename_i e hu
      cases hc
      exact wp_of_res (s_len c t x false hcl (arr hx) (arr ht) hok ⟨e,hu⟩ hR hE hv) hK
     ·rename_i hu
      cases hc
      exact wp_of_res (s_len c t x true hcl (arr hx) (arr ht) hok hu hR hE hv) hK
     ·cases hc
    ·cases hc
   ·cases hc
  ·rename_i hcl
   split at hc
   ·rename_i t u s x ht hargs
    split at hc
    ·rename_i hok
     simp only[Bool.and_eq_true,beq_iff_eq]at hok
     obtain⟨⟨htu,hs⟩,hx⟩:=hok
     subst htu
     split at hc
     ·rename_i e he
      split at hc
      ·rename_i z i hz hi
       split at hc
       ·rename_i hlim
        simp only[Bool.and_eq_true,decide_eq_true_eq]at hlim
        cases hc
        exact wp_of_res (s_append c t s x e i z hcl (arr hargs) (arr ht) hs hx (elemOf_spec he) hi hz hlim.1 hlim.2 hR hE hv) hK
       ·cases hc
      ·cases hc
     ·cases hc
    ·cases hc
   ·cases hc
  ·rename_i hcl
   split at hc
   ·rename_i t x ht hargs
    split at hc
    ·rename_i hok
     split at hc
     ·rename_i e he
      split at hc
      ·rename_i z i hz hi
       split at hc
       ·rename_i hlim
        cases hc
        exact wp_of_res (s_clear c t x e i z hcl (arr hargs) (arr ht) hok (elemOf_spec he) hi hz (by simpa using hlim) hR hE hv) hK
       ·cases hc
      ·cases hc
     ·cases hc
    ·cases hc
   ·cases hc
  ·rename_i hcl
   split at hc
   ·rename_i t u x y ht hargs
    split at hc
    ·rename_i hok
     simp only[Bool.and_eq_true,beq_iff_eq]at hok
     obtain⟨⟨htu,hx⟩,hy⟩:=hok
     subst htu
     split at hc
     ·rename_i e he
      split at hc
      ·rename_i i hi
       split at hc
       ·cases hc
        exact wp_of_res (s_copy c t x y e i hcl (arr hargs) (arr ht) hx hy (elemOf_spec he) hi hR hE hv) hK
       ·cases hc
      ·cases hc
     ·cases hc
    ·cases hc
   ·cases hc
  ·rename_i hcl
   split at hc
   ·rename_i hx
    cases hc
    exact wp_of_res (s_minmax c true hcl hx hR hE hv) hK
   ·cases hc
  ·rename_i hcl
   split at hc
   ·rename_i hx
    cases hc
    exact wp_of_res (s_minmax c false hcl hx hR hE hv) hK
   ·cases hc
  ·cases hc
 case makeInterface t x=>simp only[compOp,Option.some.injEq]at hc;subst hc;cases hv
 case panic x=>simp only[compOp,Option.some.injEq]at hc;subst hc;cases hv
 all_goals simp[compOp]at hc
theorem wanted_rel {ops:Array Oper} {o:Oper} {g:Option (Nat × Bool)} (hg:compGuard ops o.guard=some g) (hE:RE φ h.ph env a) {b:Bool} (hw:vwanted env g=some b):Region.wanted o (yielded ops a.tmps)=b:=by
 unfold compGuard at hg
 split at hg
 ·rename_i hn
  cases hg
  simp only[vwanted,Option.some.injEq]at hw
  subst hw
  simp[Region.wanted,hn]
 ·rename_i j want hn
  split at hg
  ·rename_i d hd
   cases hg
   have hr:=hE.get d
   simp only[vwanted]at hw
   split at hw
   ·rename_i t ht
    rw[ht]at hr
    have hb:=hr.inv_bool
    simp only[Option.some.injEq]at hw
    subst hw
    have hsome:a.tmps[d]? =some (.bool t):=by
     by_cases hd2:d<a.tmps.size
     ·simp[Array.getD,hd2]at hb
      simp[hd2,hb]
     ·simp[Array.getD,hd2]at hb
      cases hb
    simp[Region.wanted,hn,yielded,hd,hsome]
   ·rename_i vs ht
    split at hw
    ·rename_i h0
     rw[ht]at hr
     obtain⟨vs',e2,_⟩:=hr.inv_tup
     simp only[Option.some.injEq]at hw
     subst hw
     have hnone: ∀t,a.tmps[d]? ≠some (.bool t):=by
      intro t hs
      have:a.tmps.getD d undef= .bool t:=by simp[Array.getD_eq_getD_getElem?,hs]
      rw[this]at e2
      cases e2
     have hy:yielded ops a.tmps j=none:=by
      unfold yielded
      rw[hd,Option.bind_some]
      split
      ·rename_i t' hs;exact absurd hs (hnone _)
      ·rfl
     simp only[Region.wanted,hn,hy]
     rfl
    ·cases hw
   ·cases hw
  ·cases hg
theorem Act.put_defers' (a:Act) (d:Option Tmp) (v:Value):(a.put d v).defers=a.defers:=by cases d<;>rfl
theorem vops_wp (hS:CallSound P nro call) (ops:Array Oper) (Q:Exit→Act→World→Prop): ∀(l:List Oper) (vs:List VOper) (i:Nat),ops.toList.drop i=l→compOps P ops l=some vs→
  ∀(φ:Em) (h:VH) (w:World) (env:List Value) (a:Act) (env' :List Value) (h' :VH),nro≤h.length→RH nro φ h.ph w→RE φ h.ph env a→vops call nro vs env h=some (env',h')→
  (∀φ' a' w',RH nro φ' h'.ph w' →RE φ' h'.ph env' a' →X nro φ h.ph w φ' h'.ph w' →a'.defers=a.defers→Q .normal a' w')→wpOps P ops Q (List.range' i l.length) a w
 | [], vs, i, hl, hc, φ, h, w, env, a, env', h', hnr, hR, hE, hv, hQ => by
  cases hc
  simp only[vops,Option.some.injEq,Prod.mk.injEq]at hv
  obtain⟨rfl,rfl⟩:=hv
  exact hQ φ a w hR hE (.refl _ _ _ _) rfl
 | o :: l, vs, i, hl, hc, φ, h, w, env, a, env', h', hnr, hR, hE, hv, hQ => by
  simp only[compOps]at hc
  split at hc
  ·rename_i vo vs' hvo hvs
   cases hc
   have hoi:ops[i]? =some o:=by
    have:(ops.toList.drop i)[0]? =some o:=by rw[hl];rfl
    simpa using this
   have hl' :ops.toList.drop (i+1)=l:=by
    rw[←List.drop_drop,hl];rfl
   unfold compOper at hvo
   split at hvo
   ·rename_i op g hop hg
    cases hvo
    simp only[vops]at hv
    simp only[List.length_cons,List.range'_succ,wpOps,hoi]
    split at hv
    ·rename_i hw
     rw[if_pos (wanted_rel hg hE hw)]
     split at hv
     ·rename_i v h1 hvop
      refine .inl (vop_wp hS hnr o hop hR hE hvop ?_)
      intro φ1 v' w1 hR1 hX1 hv1
      refine vops_wp hS ops Q l vs' (i+1) hl' hvs φ1 h1 w1 _ _ env' h' (Nat.le_trans hnr hX1.len) hR1 ((hE.grow hX1.grow).put o.dst hv1) hv ?_
      intro φ2 a2 w2 hR2 hE2 hX2 hd2
      exact hQ φ2 a2 w2 hR2 hE2 (hX1.trans hX2) (by rw[hd2,Act.put_defers'])
     ·cases hv
    ·rename_i hw
     rw[if_neg (by rw[wanted_rel hg hE hw];simp)]
     refine vops_wp hS ops Q l vs' (i+1) hl' hvs φ h w _ _ env' h' hnr hR (hE.put o.dst .undef) hv ?_
     intro φ2 a2 w2 hR2 hE2 hX2 hd2
     exact hQ φ2 a2 w2 hR2 hE2 hX2 (by rw[hd2,Act.put_defers'])
    ·cases hv
   ·cases hvo
  ·cases hc
end
end

/- Dropped garbage: what stays stands for the same. -/
section
open Go
section
variable {φ:Em} {L:PH}
theorem AtomR.refs {v v' :Value} (h:AtomR φ L v v'): ∀r∈arefs v,(L r).isSome=true:=by
 cases h<;>intro r hr<;>simp[arefs]at hr<;>(subst hr;simp[*])
theorem All2.arefs: ∀ {xs ys:List Value},All2 (AtomR φ L) xs ys→ ∀r∈xs.flatMap Zv.arefs,(L r).isSome=true
 | _, _, .nil => fun r hr => by simp at hr
 | _, _, .cons h t => fun r hr => by
  rw[List.flatMap_cons,List.mem_append]at hr
  rcases hr with hr|hr
  ·exact h.refs r hr
  ·exact All2.arefs t r hr
theorem CellR.refs {v v' :Value} (h:CellR φ L v v'): ∀r∈crefs v,(L r).isSome=true:=by
 cases h with
 | atom h =>
  intro r hr
  have:crefs v=Zv.arefs v:=by cases h<;>rfl
  rw[this]at hr
  exact h.refs r hr
 | func f ha hc =>
  intro r hr
  rcases List.mem_append.mp (show r∈_++_ from hr)with hr|hr
  ·exact All2.arefs ha r hr
  ·exact All2.arefs hc r hr
theorem RH.closed {nro:Nat} {h:VH} {w:World} (hR:RH nro φ h.ph w) {i:Nat} {o:VO} (ho:h[i]? =some o): ∀r∈orefs o,r<h.length:=by
 intro r hr
 obtain⟨C,ty,fz,_,hc,_⟩:=hR.cells i o ho
 obtain⟨v,hv,hr⟩:=List.mem_flatMap.mp hr
 obtain⟨j,hj⟩:=List.getElem?_of_mem hv
 obtain⟨v',_,hcr⟩:=hc j v hj
 obtain⟨o',ho'⟩:=Option.isSome_iff_exists.mp (hcr.refs r hr)
 exact VH.ph_lt ho'
def Ren (φ:Em) (L:PH) (r:Nat→Nat) (φ2:Em) (L2:PH) (i:Nat):Prop:= ∀o,L i=some o→L2 (r i)=some { o with cells:=(o.cells.map (cren r))}∧φ2 (r i)=φ i
theorem AtomR.ren {φ2:Em} {L2:PH} {r:Nat→Nat} {v v' :Value} (h:AtomR φ L v v') (hr: ∀i∈Zv.arefs v,Ren φ L r φ2 L2 i):AtomR φ2 L2 (aren r v) v' :=by
 cases h with
 | junk q v => exact .junk q _
 | bool b => exact .bool b
 | int k n => exact .int k n
 | str s => exact .str s
 | ptrN => exact .ptrN
 | slN => exact .slN
 | slE a c => exact .slE a c
 | nilF => exact .nilF
 | @ptr i k tot o hL ht =>
  obtain⟨h2,e⟩:=hr i (by simp[Zv.arefs]) o hL
  rw[←e]
  exact .ptr h2 (by simpa using ht)
 | @ptrS i k tot o _ hL ht h1 =>
  obtain⟨h2,e⟩:=hr i (by simp[Zv.arefs]) o hL
  exact .ptrS h2 (by simpa using ht) h1
 | @sl i k n tot c o q hL ht hk hs hc hcap ha =>
  obtain⟨h2,e⟩:=hr i (by simp[Zv.arefs]) o hL
  exact .sl h2 (by simpa using ht) hk hs hc (by rw[e];exact hcap) (by rw[e];exact ha)
 | @slS i k n tot o _ hL ht h1 =>
  obtain⟨h2,e⟩:=hr i (by simp[Zv.arefs]) o hL
  exact .slS h2 (by simpa using ht) h1
theorem All2.aren {φ2:Em} {L2:PH} {r:Nat→Nat}: ∀ {xs ys:List Value},All2 (AtomR φ L) xs ys→(∀i∈xs.flatMap Zv.arefs,Ren φ L r φ2 L2 i)→All2 (AtomR φ2 L2) (xs.map (Zv.aren r)) ys
 | _, _, .nil, _ => .nil
 | _, _, .cons h t, hr => .cons (h.ren fun i hi => hr i (by simp [hi])) (All2.aren t fun i hi => hr i (by simp at hi ⊢; exact .inr hi))
theorem CellR.ren {φ2:Em} {L2:PH} {r:Nat→Nat} {v v' :Value} (h:CellR φ L v v') (hr: ∀i∈crefs v,Ren φ L r φ2 L2 i):CellR φ2 L2 (cren r v) v' :=by
 cases h with
 | atom h =>
  have e1:crefs v=Zv.arefs v:=by cases h<;>rfl
  have e2:cren r v=Zv.aren r v:=by cases h<;>rfl
  rw[e2]
  exact .atom (h.ren (by rw[←e1];exact hr))
 | @func f a c a' c' ha hc =>
  refine .func f ?_ ?_
  ·rw[Array.toList_map];exact All2.aren ha fun i hi=>hr i (List.mem_append.mpr (.inl hi))
  ·rw[Array.toList_map];exact All2.aren hc fun i hi=>hr i (List.mem_append.mpr (.inr hi))
theorem All2.cren {φ2:Em} {L2:PH} {r:Nat→Nat}: ∀ {xs ys:List Value},All2 (CellR φ L) xs ys→(∀i∈xs.flatMap crefs,Ren φ L r φ2 L2 i)→All2 (CellR φ2 L2) (xs.map (Zv.cren r)) ys
 | _, _, .nil, _ => .nil
 | _, _, .cons h t, hr => .cons (h.ren fun i hi => hr i (by simp [hi])) (All2.cren t fun i hi => hr i (by simp at hi ⊢; exact .inr hi))
theorem ValR.ren {φ2:Em} {L2:PH} {r:Nat→Nat} {v v' :Value} (h:ValR φ L v v') (hr: ∀i∈vrefs v,Ren φ L r φ2 L2 i):ValR φ2 L2 (vren r v) v' :=by
 cases h with
 | cell h =>
  have e1:vrefs v=crefs v:=by
   cases h with
   | atom h => cases h <;> rfl
   | func => rfl
  have e2:vren r v=Zv.cren r v:=by
   cases h with
   | atom h => cases h <;> rfl
   | func => rfl
  rw[e2]
  exact .cell (h.ren (by rw[←e1];exact hr))
 | @agg cs cs' h =>
  refine .agg ?_
  rw[Array.toList_map]
  exact All2.cren h hr
theorem All2.vren {φ2:Em} {L2:PH} {r:Nat→Nat}: ∀ {xs ys:List Value},All2 (ValR φ L) xs ys→(∀i∈xs.flatMap vrefs,Ren φ L r φ2 L2 i)→All2 (ValR φ2 L2) (xs.map (Zv.vren r)) ys
 | _, _, .nil, _ => .nil
 | _, _, .cons h t, hr => .cons (h.ren fun i hi => hr i (by simp [hi])) (All2.vren t fun i hi => hr i (by simp at hi ⊢; exact .inr hi))
theorem TopR.ren {φ2:Em} {L2:PH} {r:Nat→Nat} {v v' :Value} (h:TopR φ L v v') (hr: ∀i∈trefs v,Ren φ L r φ2 L2 i):TopR φ2 L2 (tren r v) v' :=by
 cases h with
 | val h =>
  have e:trefs v=vrefs v∧tren r v=Zv.vren r v:=by
   cases h with
   | cell h => cases h with
    | atom h => cases h <;> exact ⟨rfl, rfl⟩
    | func => exact ⟨rfl, rfl⟩
   | agg => exact ⟨rfl, rfl⟩
  rw[e.2]
  exact .val (h.ren (by rw[←e.1];exact hr))
 | @tup vs vs' h =>
  refine .tup ?_
  rw[Array.toList_map]
  exact All2.vren h hr
theorem All2.tren {φ2:Em} {L2:PH} {r:Nat→Nat}: ∀ {xs ys:List Value},All2 (TopR φ L) xs ys→(∀i∈xs.flatMap trefs,Ren φ L r φ2 L2 i)→All2 (TopR φ2 L2) (xs.map (Zv.tren r)) ys
 | _, _, .nil, _ => .nil
 | _, _, .cons h t, hr => .cons (h.ren fun i hi => hr i (by simp [hi])) (All2.tren t fun i hi => hr i (by simp at hi ⊢; exact .inr hi))
theorem CellR.refs_all: ∀ {xs ys:List Value},All2 (CellR φ L) xs ys→ ∀r∈xs.flatMap crefs,(L r).isSome=true
 | _, _, .nil => fun r hr => by simp at hr
 | _, _, .cons h t => fun r hr => by
  rw[List.flatMap_cons,List.mem_append]at hr
  rcases hr with hr|hr
  ·exact h.refs r hr
  ·exact CellR.refs_all t r hr
theorem ValR.refs {v v' :Value} (h:ValR φ L v v'): ∀r∈vrefs v,(L r).isSome=true:=by
 cases h with
 | cell h =>
  have e1:vrefs v=crefs v:=by
   cases h with
   | atom h => cases h <;> rfl
   | func => rfl
  rw[e1]
  exact h.refs
 | agg h => exact CellR.refs_all h
theorem ValR.refs_all: ∀ {xs ys:List Value},All2 (ValR φ L) xs ys→ ∀r∈xs.flatMap vrefs,(L r).isSome=true
 | _, _, .nil => fun r hr => by simp at hr
 | _, _, .cons h t => fun r hr => by
  rw[List.flatMap_cons,List.mem_append]at hr
  rcases hr with hr|hr
  ·exact h.refs r hr
  ·exact ValR.refs_all t r hr
theorem TopR.refs {v v' :Value} (h:TopR φ L v v'): ∀r∈trefs v,(L r).isSome=true:=by
 cases h with
 | val h =>
  have e:trefs v=vrefs v:=by
   cases h with
   | cell h => cases h with
    | atom h => cases h <;> rfl
    | func => rfl
   | agg => rfl
  rw[e]
  exact h.refs
 | tup h => exact ValR.refs_all h
theorem TopR.refs_all: ∀ {xs ys:List Value},All2 (TopR φ L) xs ys→ ∀r∈xs.flatMap trefs,(L r).isSome=true
 | _, _, .nil => fun r hr => by simp at hr
 | _, _, .cons h t => fun r hr => by
  rw[List.flatMap_cons,List.mem_append]at hr
  rcases hr with hr|hr
  ·exact h.refs r hr
  ·exact TopR.refs_all t r hr
end
theorem aren_id {r:Nat→Nat} {v:Value} (h: ∀i∈arefs v,r i=i):aren r v=v:=by
 unfold aren
 split
 ·rename_i p;rw[h p.block (by simp[arefs])]
 ·rename_i p n c;rw[h p.block (by simp[arefs])]
 ·rfl
theorem amap_id {r:Nat→Nat} {a:Array Value} (h: ∀i∈a.toList.flatMap arefs,r i=i):a.map (aren r)=a:=by
 apply Array.ext'
 rw[Array.toList_map]
 generalize a.toList=l at h
 induction l with
 | nil => rfl
 | cons x l ih => simp only [List.map_cons]; rw [aren_id fun i hi => h i (by simp [hi]), ih fun i hi => h i (by simp at hi ⊢; exact .inr hi)]
theorem cren_cases (v:Value):(∃f a c,v= .func f a c)∨(crefs v=arefs v∧ ∀r,cren r v=aren r v):=by
 cases v with
 | func f a c => exact .inl ⟨f, a, c, rfl⟩
 | _ => exact .inr ⟨rfl, fun _ => rfl⟩
theorem cren_id {r:Nat→Nat} {v:Value} (h: ∀i∈crefs v,r i=i):cren r v=v:=by
 rcases cren_cases v with⟨f,a,c,rfl⟩|⟨e1,e2⟩
 ·simp only[cren]
  rw[amap_id fun i hi=>h i (List.mem_append.mpr (.inl hi)),amap_id fun i hi=>h i (List.mem_append.mpr (.inr hi))]
 ·rw[e2]
  exact aren_id (by rw[←e1];exact h)
theorem omap_id {r:Nat→Nat} {l:List Value} (h: ∀i∈l.flatMap crefs,r i=i):l.map (cren r)=l:=by
 induction l with
 | nil => rfl
 | cons x l ih => simp only [List.map_cons]; rw [cren_id fun i hi => h i (by simp [hi]), ih fun i hi => h i (by simp at hi ⊢; exact .inr hi)]
theorem mem_dedup {l:List Nat}: ∀ {i:Nat},i∈dedup l↔i∈l:=by
 induction l with
 | nil => simp [dedup]
 | cons x l ih =>
  intro i
  simp only[dedup]
  split
  ·rename_i hx
   rw[ih,List.mem_cons]
   refine⟨.inr,fun h=>h.elim (fun e=> ?_) id⟩
   rw[e]
   exact ih.mp hx
  ·rw[List.mem_cons,ih,List.mem_cons]
theorem nodup_dedup {l:List Nat}:(dedup l).Nodup:=by
 induction l with
 | nil => simp [dedup]
 | cons x l ih =>
  simp only[dedup]
  split
  ·exact ih
  ·exact List.nodup_cons.mpr ⟨by assumption,ih⟩
theorem mem_keepL {base:Nat} {vs:List Value} {i:Nat} (h1:i∈vs.flatMap trefs) (h2:base≤i):i∈keepL base vs:=by
 unfold keepL
 rw[mem_dedup,List.mem_filter]
 exact⟨h1,by simpa using h2⟩
theorem keepL_ge {base:Nat} {vs:List Value} {i:Nat} (h:i∈keepL base vs):base≤i:=by
 unfold keepL at h
 rw[mem_dedup,List.mem_filter]at h
 simpa using h.2
theorem keepL_nodup {base:Nat} {vs:List Value}:(keepL base vs).Nodup:=nodup_dedup
theorem nodup_inj {l:List Nat} (h:l.Nodup): ∀ {i j k:Nat},l[i]? =some k→l[j]? =some k→i=j:=by
 induction l with
 | nil => intro i j k hi; simp at hi
 | cons x l ih =>
  intro i j k hi hj
  obtain⟨h1,h2⟩:=List.nodup_cons.mp h
  cases i with
  | zero =>
   cases j with
   | zero => rfl
   | succ j =>
    simp at hi hj
    subst hi
    exact absurd (List.mem_of_getElem? hj) h1
  | succ i =>
   cases j with
   | zero =>
    simp at hi hj
    subst hj
    exact absurd (List.mem_of_getElem? hi) h1
   | succ j =>
    simp at hi hj
    rw[ih h2 hi hj]
theorem kept_get {h:VH} {L:List Nat} (hf: ∀i∈L,∃o,h[i]? =some o):(L.filterMap fun i=>h[i]?).length=L.length∧ ∀j:Nat,(L.filterMap fun i=>h[i]?)[j]? =(L[j]?).bind fun i=>h[i]? :=by
 induction L with
 | nil => exact ⟨rfl, fun j => by simp⟩
 | cons i L ih =>
  obtain⟨o,ho⟩:=hf i (by simp)
  obtain⟨h1,h2⟩:=ih fun k hk=>hf k (by simp[hk])
  have e:((i::L).filterMap fun i=>h[i]?)=o::L.filterMap fun i=>h[i]? :=by simp[ho]
  rw[e]
  refine⟨by simp[h1],fun j=> ?_⟩
  cases j with
  | zero => simp [ho]
  | succ j => simpa using h2 j
theorem cleanup_sound {nro:Nat} {φs φ:Em} {hs h:VH} {ws w:World} {vs vs' :List Value} (hRs:RH nro φs hs.ph ws) (hX:X nro φs hs.ph ws φ h.ph w) (hR:RH nro φ h.ph w) (hv:All2 (TopR φ h.ph) vs vs') (hn:nro≤hs.length):
  ∃φ2,RH nro φ2 (VH.ph (cleanup hs.length hs vs h).2) w∧X nro φs hs.ph ws φ2 (VH.ph (cleanup hs.length hs vs h).2) w∧All2 (TopR φ2 (VH.ph (cleanup hs.length hs vs h).2)) (cleanup hs.length hs vs h).1 vs' :=by
 unfold cleanup
 split
 ·rename_i hcond
  obtain⟨hok,hflat⟩:=hcond
  generalize hLdef:keepL hs.length vs=L at hflat
  have hLge: ∀i∈L,hs.length≤i:=fun i hi=>keepL_ge (hLdef ▸ hi)
  have hLnd:L.Nodup:=hLdef ▸ keepL_nodup
  have hlen:hs.length≤h.length:=by
   rcases Nat.eq_zero_or_pos hs.length with h0|h0
   ·omega
   ·obtain⟨o',ho',_⟩:=hX.grow (hs.length - 1) hs[hs.length - 1] (by simp[VH.ph,show hs.length - 1<hs.length by omega])
    have:=VH.ph_lt ho'
    omega
  have htl:(h.take hs.length).length=hs.length:=by simp;omega
  have hfl: ∀i∈L,∃o,h[i]? =some o:=fun i hi=>let⟨o,ho,_⟩:=hflat i hi;⟨o,ho⟩
  obtain⟨hkl,hkg⟩:=kept_get hfl
  -- the new heap, place by place
  have hlow: ∀i,i<hs.length→VH.ph (h.take hs.length++L.filterMap fun i=>h[i]?) i=h.ph i:=by
   intro i hi
   unfold VH.ph
   rw[List.getElem?_append_left (by omega),List.getElem?_take,if_pos hi]
  have hhigh: ∀j,VH.ph (h.take hs.length++L.filterMap fun i=>h[i]?) (hs.length+j)=(L[j]?).bind fun i=>h[i]? :=by
   intro j
   unfold VH.ph
   rw[List.getElem?_append_right (by omega),htl,Nat.add_sub_cancel_left,hkg]
  -- closed below
  have hclosed: ∀i o,i<hs.length→h[i]? =some o→ ∀r∈orefs o,r<hs.length:=by
   intro i o hi ho r hr
   rcases hok i o (by rw[List.getElem?_take,if_pos hi];exact ho)with h1|h1
   ·exact hRs.closed h1 r hr
   ·exact h1 r hr
  let φ2:Em:=fun i=>if i<hs.length then φ i else φ (L.getD (i - hs.length) 0)
  have hr1: ∀i,i<hs.length→renOf hs.length L i=i:=fun i hi=>by unfold renOf;rw[if_pos hi]
  have hr2: ∀i∈L,renOf hs.length L i=hs.length+L.idxOf i:=fun i hi=>by unfold renOf;rw[if_neg (by have:=hLge i hi;omega)]
  have hidx: ∀i∈L,L[L.idxOf i]? =some i:=fun i hi=>by
   rw[List.getElem?_eq_getElem (List.idxOf_lt_length_of_mem hi)]
   simp
  have hid: ∀o:VO,(∀r∈orefs o,r<hs.length)→ { o with cells:=o.cells.map (cren (renOf hs.length L))}=o:=by
   intro o ho
   rw[omap_id fun i hi=>hr1 i (ho i hi)]
  have hRen: ∀i,(i<hs.length∨i∈L)→Ren φ h.ph (renOf hs.length L) φ2 (VH.ph (h.take hs.length++L.filterMap fun i=>h[i]?)) i:=by
   intro i hi o ho
   rcases hi with hi|hi
   ·rw[hr1 i hi,hlow i hi,hid o (hclosed i o hi ho)]
    exact⟨ho,by simp[φ2,hi]⟩
   ·obtain⟨o',ho',hfo⟩:=hflat i hi
    have:h[i]? =some o:=ho
    rw[this]at ho'
    cases ho'
    rw[hr2 i hi,hhigh,hidx i hi,hid o hfo]
    refine⟨this,?_⟩
    have: ¬hs.length+L.idxOf i<hs.length:=by omega
    simp only[φ2,this,if_false,Nat.add_sub_cancel_left,List.getD,hidx i hi,Option.getD_some]
  have hcase: ∀i o,VH.ph (h.take hs.length++L.filterMap fun i=>h[i]?) i=some o→(i<hs.length∧h.ph i=some o∧φ2 i=φ i)∨ ∃k,L[i - hs.length]? =some k∧hs.length≤i∧k∈L∧h.ph k=some o∧φ2 i=φ k:=by
   intro i o hi
   by_cases hlt:i<hs.length
   ·rw[hlow i hlt]at hi
    exact .inl ⟨hlt,hi,by simp[φ2,hlt]⟩
   ·obtain⟨j,rfl⟩: ∃j,i=hs.length+j:=⟨i - hs.length,by omega⟩
    rw[hhigh]at hi
    obtain⟨k,hk,hko⟩:=Option.bind_eq_some_iff.mp hi
    refine .inr ⟨k,by rw[Nat.add_sub_cancel_left];exact hk,by omega,List.mem_of_getElem? hk,hko,?_⟩
    simp only[φ2,hlt,if_false,Nat.add_sub_cancel_left,List.getD,hk,Option.getD_some]
  have hrefs: ∀o,(∀r∈orefs o,r<hs.length)→ ∀v∈o.cells,∀v',CellR φ h.ph v v' →CellR φ2 (VH.ph (h.take hs.length++L.filterMap fun i=>h[i]?)) v v' :=by
   intro o ho v hv v' hr
   have hvr: ∀i∈crefs v,i<hs.length:=fun i hi=>ho i (List.mem_flatMap.mpr ⟨v,hv,hi⟩)
   have:=hr.ren (r:=renOf hs.length L) fun i hi=>hRen i (.inl (hvr i hi))
   rw[cren_id fun i hi=>hr1 i (hvr i hi)]at this
   exact this
  refine⟨φ2,?_⟩
  rw[←and_assoc]
  refine⟨RH.mk' ?_ ?_ hRs.glob ⟨?_,?_,hX.size,hX.frame,hX.rest,fun i hi hn=>by obtain⟨o,ho⟩:=Option.isSome_iff_exists.mp hi;have hlt:=VH.ph_lt ho;rw[←hX.ro i hi hn];simp[φ2,hlt]⟩,?_⟩
  ·intro i o hi
   rcases hcase i o hi with⟨hlt,hio,e⟩|⟨k,_,hge,hk,hko,e⟩
   ·obtain⟨C,ty,fz,hb,hc,hown⟩:=hR.cells i o hio
    rw[e]
    refine⟨C,ty,fz,hb,fun j v hj=> ?_,hown⟩
    obtain⟨v',h1,h2⟩:=hc j v hj
    exact⟨v',h1,hrefs o (hclosed i o hlt hio) v (List.mem_of_getElem? hj) v' h2⟩
   ·obtain⟨C,ty,fz,hb,hc,hown⟩:=hR.cells k o hko
    obtain⟨o',ho',hfo⟩:=hflat k hk
    have:h[k]? =some o:=hko
    rw[this]at ho'
    cases ho'
    rw[e]
    refine⟨C,ty,fz,hb,fun j v hj=> ?_,fun _=>hown (by have:=hLge k hk;omega)⟩
    obtain⟨v',h1,h2⟩:=hc j v hj
    exact⟨v',h1,hrefs o hfo v (List.mem_of_getElem? hj) v' h2⟩
  ·intro i j hi hj hni hij
   obtain⟨oi,hi⟩:=Option.isSome_iff_exists.mp hi
   obtain⟨oj,hj⟩:=Option.isSome_iff_exists.mp hj
   rcases hcase i oi hi with⟨hlt,hio,e⟩|⟨k,hk0,hge,hk,hko,e⟩<;>rcases hcase j oj hj with⟨hlt',hjo,e'⟩|⟨k',hk0',hge',hk',hko',e'⟩<;>rw[e,e']
   ·exact hR.apart i j (by simp[hio]) (by simp[hjo]) hni hij
   ·exact hR.apart i k' (by simp[hio]) (by simp[hko']) hni (by have:=hLge k' hk';omega)
   ·exact hR.apart k j (by simp[hko]) (by simp[hjo]) (by have:=hLge k hk;omega) (by have:=hLge k hk;omega)
   ·refine hR.apart k k' (by simp[hko]) (by simp[hko']) (by have:=hLge k hk;omega) ?_
    rintro rfl
    have h3:i - hs.length=j - hs.length:=nodup_inj hLnd hk0 hk0'
    omega
  ·intro i o hi
   obtain⟨o',ho',h1,h2,h3⟩:=hX.grow i o hi
   have hlt:=VH.ph_lt hi
   exact⟨o',by rw[hlow i hlt];exact ho',h1,h2,fun he=>by rw[←h3 he];simp[φ2,hlt]⟩
  ·intro i hi hni
   obtain⟨oi,hi⟩:=Option.isSome_iff_exists.mp hi
   rcases hcase i oi hi with⟨hlt,hio,e⟩|⟨k,hk0,hge,hk,hko,e⟩
   ·rw[e];exact hX.fresh i (by simp[hio]) hni
   ·rw[e]
    rcases hX.fresh k (by simp[hko]) (by have:=hLge k hk;omega)with⟨h1,_⟩|h1
    ·obtain⟨o1,h1⟩:=Option.isSome_iff_exists.mp h1
     have:=VH.ph_lt h1
     have:=hLge k hk
     omega
    ·exact .inr h1
  ·refine All2.tren hv fun i hi=>hRen i ?_
   by_cases hlt:i<hs.length
   ·exact .inl hlt
   ·exact .inr (hLdef ▸ mem_keepL hi (by omega))
 ·exact⟨φ,hR,hX,hv⟩
end

end Go.Proofs.YtbomdghbblakoaaGreatDoor.Zv

