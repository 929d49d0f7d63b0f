/- Part D of the proof: ZvSym, ZvNum, ZvSl, ZvEnd, ZvRow, ZwRowA, ZwRow0, ZwUp, ZwLaws, ZwGraph, ZwGraph2, ZwCmp, ZvTz, ZwU, ZwBfs, ZwAdj, ZwPop, ZwCover, ZwMark, ZwEdge, ZwDist, ZwFill, ZwGirth, ZwLL, ZwEdges, ZwFits. Conditions: none. -/
import Derived.Below
import Derived.ChangeOld
import Derived.IntWalk
import Derived.Lib.SmallJoins
import Derived.OpenShut
import Derived.ProofKit
import Derived.ShutString
import Derived.SizedLaws
import Derived.Sort.Statements
import Derived.Test.YtcdcmaakcldniaaRows
import Derived.Test.YtcdcmaakcldniaaZpB
import Derived.Test.YtcdcmaakcldniaaZpC
set_option linter.unusedSimpArgs false
set_option linter.unusedVariables false
/- Symbolic steps: what simp needs to walk through code. -/
namespace Go.Proofs.Ytcdcmaakcldniaa.Zv
open Go

section
variable {call : VCall} {nro : Nat}

/-! ### places -/
@[simp] theorem fput_some (e : FE) (d t : Nat) (v : Value) : fput e (some d) v t = if t = d then v else e t := rfl
@[simp] theorem fput_none (e : FE) (v : Value) : fput e none v = e := rfl
@[simp] theorem fl_cons (i : Nat) (v : Value) (r : List (Nat × Value)) (t : Nat) : fl ((i, v) :: r) t = if t = i then v else fl r t := rfl
@[simp] theorem fargs_cons (a : Value) (r : List Value) : fargs (a :: r) 0 = a := rfl
@[simp] theorem fargs_succ (a : Value) (r : List Value) (t : Nat) : fargs (a :: r) (t + 1) = fargs r t := rfl
@[simp] theorem fev_tmp (e : FE) (t : Nat) : fev e (.tmp t) = e t := rfl
@[simp] theorem fev_const (e : FE) (v : Value) : fev e (.const v) = v := rfl
@[simp] theorem fev_func (e : FE) (f : Nat) : fev e (.func f) = .func (.func f) #[] #[] := rfl

/-! ### a region -/
def kops (call : VCall) (nro : Nat) (d : Option Nat) (os : List VOper) (e : FE) : Option (Value × VH) → Option (FE × VH)
  | some (v, h) => fops call nro os (fput e d v) h
  | none => none
theorem fput_self (e : FE) (g : Nat) (v : Value) (h : e g = v) : fput e (some g) v = e := by
  funext t
  simp only [fput_some]
  split
  · rename_i ht; rw [ht, h]
  · rfl
def kguard (call : VCall) (nro : Nat) (g : Nat) (b : Bool) (d : Option Nat) (op : VOp) (os : List VOper) (e : FE) (h : VH) : Value → Option (FE × VH)
  | .bool c => if c = b then kops call nro d os (fput e (some g) (.bool b)) (vop call nro (fev (fput e (some g) (.bool b))) h op) else fops call nro os (fput (fput e (some g) (.bool !b)) d undef) h
  | .tuple vs => if vs.size = 0 then fops call nro os (fput e d undef) h else none
  | _ => none
@[simp] theorem fops_nil (e : FE) (h : VH) : fops call nro [] e h = some (e, h) := rfl
@[simp] theorem fops_cons (d : Option Nat) (op : VOp) (k : Nat) (os : List VOper) (e : FE) (h : VH) : fops call nro (⟨d, op, none, k⟩ :: os) e h = kops call nro d os e (vop call nro (fev e) h op) := by
  simp only [fops, fwanted]
  cases vop call nro (fev e) h op <;> rfl
@[simp] theorem fops_guard (d : Option Nat) (op : VOp) (g : Nat) (b : Bool) (k : Nat) (os : List VOper) (e : FE) (h : VH) : fops call nro (⟨d, op, some (g, b), k⟩ :: os) e h = kguard call nro g b d op os e h (e g) := by
  simp only [fops, fwanted]
  generalize hg : e g = x
  cases x with
  | bool c =>
    simp only [kguard]
    cases c <;> cases b <;> simp [kops, fput_self _ _ _ hg] <;> cases vop call nro (fev e) h op <;> rfl
  | tuple vs => simp only [kguard]; split <;> simp_all
  | _ => rfl
@[simp] theorem kops_some (d : Option Nat) (os : List VOper) (e : FE) (v : Value) (h : VH) : kops call nro d os e (some (v, h)) = fops call nro os (fput e d v) h := rfl
@[simp] theorem kops_none (d : Option Nat) (os : List VOper) (e : FE) : kops call nro d os e none = none := rfl
@[simp] theorem kops_ite (d : Option Nat) (os : List VOper) (e : FE) (c : Prop) [Decidable c] (x y : Option (Value × VH)) : kops call nro d os e (if c then x else y) = if c then kops call nro d os e x else kops call nro d os e y := by split <;> rfl
@[simp] theorem kguard_bool (g : Nat) (b c : Bool) (d : Option Nat) (op : VOp) (os : List VOper) (e : FE) (h : VH) : kguard call nro g b d op os e h (.bool c) = if c = b then kops call nro d os (fput e (some g) (.bool b)) (vop call nro (fev (fput e (some g) (.bool b))) h op) else fops call nro os (fput (fput e (some g) (.bool !b)) d undef) h := rfl
@[simp] theorem kguard_undef (g : Nat) (b : Bool) (d : Option Nat) (op : VOp) (os : List VOper) (e : FE) (h : VH) : kguard call nro g b d op os e h undef = fops call nro os (fput e d undef) h := rfl

/-! ### a region whose order is open -/
open Classical in
noncomputable def kdops (call : VCall) (nro : Nat) (d : Option Nat) (op : VOp) (k : Nat) (os : List VOper) (e : FE) (h : VH) (hs : List VH) : Option (Value × VH) → Option (FE × VH)
  | some (v, h') => if op.eff = true then fdops call nro os (fput e d v) h' (h :: hs) else if ∀ g ∈ hs.take k, vop call nro (fev e) g op = some (v, g) then fdops call nro os (fput e d v) h' hs else none
  | none => none
noncomputable def kdguard (call : VCall) (nro : Nat) (g : Nat) (b : Bool) (d : Option Nat) (op : VOp) (k : Nat) (os : List VOper) (e : FE) (h : VH) (hs : List VH) : Value → Option (FE × VH)
  | .bool c => if c = b then kdops call nro d op k os (fput e (some g) (.bool b)) h hs (vop call nro (fev (fput e (some g) (.bool b))) h op) else fdops call nro os (fput (fput e (some g) (.bool !b)) d undef) h (if op.eff = true then h :: hs else hs)
  | .tuple vs => if vs.size = 0 then fdops call nro os (fput e d undef) h (if op.eff = true then h :: hs else hs) else none
  | _ => none
@[simp] theorem fdops_nil (e : FE) (h : VH) (hs : List VH) : fdops call nro [] e h hs = some (e, h) := rfl
@[simp] theorem fdops_cons (d : Option Nat) (op : VOp) (k : Nat) (os : List VOper) (e : FE) (h : VH) (hs : List VH) : fdops call nro (⟨d, op, none, k⟩ :: os) e h hs = kdops call nro d op k os e h hs (vop call nro (fev e) h op) := by
  simp only [fdops, fwanted]
  cases vop call nro (fev e) h op <;> rfl
@[simp] theorem fdops_guard (d : Option Nat) (op : VOp) (g : Nat) (b : Bool) (k : Nat) (os : List VOper) (e : FE) (h : VH) (hs : List VH) : fdops call nro (⟨d, op, some (g, b), k⟩ :: os) e h hs = kdguard call nro g b d op k os e h hs (e g) := by
  simp only [fdops, fwanted]
  generalize hg : e g = x
  cases x with
  | bool c =>
    simp only [kdguard]
    by_cases hcb : c = b
    · subst hcb
      rw [if_pos rfl, fput_self _ _ _ hg]
      simp only [beq_self_eq_true]
      cases vop call nro (fev e) h op <;> rfl
    · have h1 : (c == b) = false := by simpa using hcb
      have h2 : (!b) = c := by cases c <;> cases b <;> simp_all
      rw [if_neg hcb, h1, h2, fput_self _ _ _ hg]
  | tuple vs => simp only [kdguard]; split <;> simp_all
  | _ => rfl
open Classical in
@[simp] theorem kdops_some (d : Option Nat) (op : VOp) (k : Nat) (os : List VOper) (e : FE) (h : VH) (hs : List VH) (v : Value) (h' : VH) : kdops call nro d op k os e h hs (some (v, h')) = if op.eff = true then fdops call nro os (fput e d v) h' (h :: hs) else if ∀ g ∈ hs.take k, vop call nro (fev e) g op = some (v, g) then fdops call nro os (fput e d v) h' hs else none := rfl
@[simp] theorem kdops_none (d : Option Nat) (op : VOp) (k : Nat) (os : List VOper) (e : FE) (h : VH) (hs : List VH) : kdops call nro d op k os e h hs none = none := rfl
@[simp] theorem kdops_ite (d : Option Nat) (op : VOp) (k : Nat) (os : List VOper) (e : FE) (h : VH) (hs : List VH) (c : Prop) [Decidable c] (x y : Option (Value × VH)) : kdops call nro d op k os e h hs (if c then x else y) = if c then kdops call nro d op k os e h hs x else kdops call nro d op k os e h hs y := by split <;> rfl
@[simp] theorem kdguard_bool (g : Nat) (b c : Bool) (d : Option Nat) (op : VOp) (k : Nat) (os : List VOper) (e : FE) (h : VH) (hs : List VH) : kdguard call nro g b d op k os e h hs (.bool c) = if c = b then kdops call nro d op k os (fput e (some g) (.bool b)) h hs (vop call nro (fev (fput e (some g) (.bool b))) h op) else fdops call nro os (fput (fput e (some g) (.bool !b)) d undef) h (if op.eff = true then h :: hs else hs) := rfl
@[simp] theorem kdguard_undef (g : Nat) (b : Bool) (d : Option Nat) (op : VOp) (k : Nat) (os : List VOper) (e : FE) (h : VH) (hs : List VH) : kdguard call nro g b d op k os e h hs undef = fdops call nro os (fput e d undef) h (if op.eff = true then h :: hs else hs) := rfl

/-! ### code -/
/-- Garbage dropped. -/
noncomputable def kclean (h0 : VH) (vs : List Value) (h : VH) : List Value × VH := cleanup h0.length h0 vs h
def kn : Option (FE × VH) → Option (VX × FE × VH)
  | some (e, h) => some (.normal, e, h)
  | none => none
@[simp] theorem kn_some (e : FE) (h : VH) : kn (some (e, h)) = some (.normal, e, h) := rfl
@[simp] theorem kn_none : kn none = none := rfl
@[simp] theorem kn_ite (c : Prop) [Decidable c] (x y : Option (FE × VH)) : kn (if c then x else y) = if c then kn x else kn y := by split <;> rfl

noncomputable def kseq (call : VCall) (nro : Nat) (b : FC) : Option (VX × FE × VH) → Option (VX × FE × VH)
  | some (.normal, e, h) => fcode call nro b e h
  | r => r
@[simp] theorem kseq_normal (b : FC) (e : FE) (h : VH) : kseq call nro b (some (.normal, e, h)) = fcode call nro b e h := rfl
@[simp] theorem kseq_ret (b : FC) (e : FE) (h : VH) : kseq call nro b (some (.ret, e, h)) = some (.ret, e, h) := rfl
@[simp] theorem kseq_exit (b : FC) (i : Nat) (e : FE) (h : VH) : kseq call nro b (some (.exit i, e, h)) = some (.exit i, e, h) := rfl
@[simp] theorem kseq_none (b : FC) : kseq call nro b none = none := rfl
@[simp] theorem kseq_ite (b : FC) (c : Prop) [Decidable c] (x y : Option (VX × FE × VH)) : kseq call nro b (if c then x else y) = if c then kseq call nro b x else kseq call nro b y := by split <;> rfl

noncomputable def kcond (call : VCall) (nro : Nat) (a b : FC) (e : FE) (h : VH) : Value → Option (VX × FE × VH)
  | .bool true => fcode call nro a e h
  | .bool false => fcode call nro b e h
  | _ => none
@[simp] theorem kcond_bool (a b : FC) (e : FE) (h : VH) (c : Bool) : kcond call nro a b e h (.bool c) = if c = true then fcode call nro a e h else fcode call nro b e h := by cases c <;> rfl

def kblock (id : Nat) : Option (VX × FE × VH) → Option (VX × FE × VH)
  | some (.exit i, e, h) => if i = id then some (.normal, e, h) else some (.exit i, e, h)
  | r => r
@[simp] theorem kblock_normal (id : Nat) (e : FE) (h : VH) : kblock id (some (.normal, e, h)) = some (.normal, e, h) := rfl
@[simp] theorem kblock_ret (id : Nat) (e : FE) (h : VH) : kblock id (some (.ret, e, h)) = some (.ret, e, h) := rfl
@[simp] theorem kblock_exit (id i : Nat) (e : FE) (h : VH) : kblock id (some (.exit i, e, h)) = if i = id then some (.normal, e, h) else some (.exit i, e, h) := rfl
@[simp] theorem kblock_none (id : Nat) : kblock id none = none := rfl
@[simp] theorem kblock_ite (id : Nat) (c : Prop) [Decidable c] (x y : Option (VX × FE × VH)) : kblock id (if c then x else y) = if c then kblock id x else kblock id y := by split <;> rfl

/-- A loop from its head: the places that live there, the heap before the loop, and the heap now. -/
noncomputable def floop (call : VCall) (nro : Nat) (live : List Nat) (c : FC) (h0 : VH) (vs : List Value) (h : VH) : Option (VX × FE × VH) :=
  iter (fun s : List Value × VH => match fcode call nro c (fl (live.zip s.1)) s.2 with
      | some (.normal, e', h') => some (.inl (cleanup h0.length h0 (live.map e') h'))
      | some r => some (.inr r)
      | none => none) (vs, h)

noncomputable def kloop (call : VCall) (nro : Nat) (live : List Nat) (c : FC) (h0 : VH) (p : List Value × VH) : Option (VX × FE × VH) := floop call nro live c h0 p.1 p.2
@[simp] theorem kloop_mk (live : List Nat) (c : FC) (h0 : VH) (vs : List Value) (h : VH) : kloop call nro live c h0 (vs, h) = floop call nro live c h0 vs h := rfl
noncomputable def kback (call : VCall) (nro : Nat) (live : List Nat) (c : FC) (h0 : VH) : Option (VX × FE × VH) → Option (VX × FE × VH)
  | some (.normal, e, h) => kloop call nro live c h0 (kclean h0 (live.map e) h)
  | r => r
@[simp] theorem kback_normal (live : List Nat) (c : FC) (h0 : VH) (e : FE) (h : VH) : kback call nro live c h0 (some (.normal, e, h)) = kloop call nro live c h0 (kclean h0 (live.map e) h) := rfl
@[simp] theorem kback_exit (live : List Nat) (c : FC) (h0 : VH) (i : Nat) (e : FE) (h : VH) : kback call nro live c h0 (some (.exit i, e, h)) = some (.exit i, e, h) := rfl
@[simp] theorem kback_ret (live : List Nat) (c : FC) (h0 : VH) (e : FE) (h : VH) : kback call nro live c h0 (some (.ret, e, h)) = some (.ret, e, h) := rfl
@[simp] theorem kback_none (live : List Nat) (c : FC) (h0 : VH) : kback call nro live c h0 none = none := rfl
@[simp] theorem kback_ite (live : List Nat) (b : FC) (h0 : VH) (c : Prop) [Decidable c] (x y : Option (VX × FE × VH)) : kback call nro live b h0 (if c then x else y) = if c then kback call nro live b h0 x else kback call nro live b h0 y := by split <;> rfl

/-- One time round a loop. -/
theorem floop_eq (live : List Nat) (c : FC) (h0 : VH) (vs : List Value) (h : VH) : floop call nro live c h0 vs h = kback call nro live c h0 (fcode call nro c (fl (live.zip vs)) h) := by
  unfold floop
  rw [iter]
  dsimp only
  generalize fcode call nro c (fl (live.zip vs)) h = q
  match q with
  | none => rfl
  | some (.normal, e, h') => rfl
  | some (.exit i, e, h') => rfl
  | some (.ret, e, h') => rfl

/-- The same, the loop's code shown inside alone. -/
theorem floop_at {c c' : FC} (e : c = c') (live : List Nat) (h0 : VH) (vs : List Value) (h : VH) : floop call nro live c h0 vs h = kback call nro live c h0 (fcode call nro c' (fl (live.zip vs)) h) := by
  rw [floop_eq, ← e]

@[simp] theorem fcode_skip (e : FE) (h : VH) : fcode call nro .skip e h = some (.normal, e, h) := rfl
@[simp] theorem fcode_ops (os : List VOper) (e : FE) (h : VH) : fcode call nro (.ops os) e h = kn (fops call nro os e h) := by
  simp only [fcode]; cases fops call nro os e h <;> rfl
@[simp] theorem fcode_dops (os : List VOper) (e : FE) (h : VH) : fcode call nro (.dops os) e h = kn (fdops call nro os e h []) := by
  simp only [fcode]; cases fdops call nro os e h [] <;> rfl
@[simp] theorem fcode_seq (a b : FC) (e : FE) (h : VH) : fcode call nro (.seq a b) e h = kseq call nro b (fcode call nro a e h) := by
  simp only [fcode]
  generalize fcode call nro a e h = q
  match q with
  | none => rfl
  | some (.normal, e, h') => rfl
  | some (.exit i, e, h') => rfl
  | some (.ret, e, h') => rfl
@[simp] theorem fcode_cond (x : Operand) (a b : FC) (e : FE) (h : VH) : fcode call nro (.cond x a b) e h = kcond call nro a b e h (fev e x) := by
  simp only [fcode]
  generalize fev e x = v
  unfold kcond
  split <;> simp_all
@[simp] theorem fcode_block (id : Nat) (c : FC) (e : FE) (h : VH) : fcode call nro (.block id c) e h = kblock id (fcode call nro c e h) := by
  simp only [fcode]
  generalize fcode call nro c e h = q
  match q with
  | none => rfl
  | some (.normal, e, h') => rfl
  | some (.exit i, e, h') => rfl
  | some (.ret, e, h') => rfl
@[simp] theorem fcode_loop (live : List Nat) (c : FC) (e : FE) (h : VH) : fcode call nro (.loop live c) e h = floop call nro live c h (live.map e) h := rfl
@[simp] theorem fcode_keep (live : List Nat) (c : FC) (e : FE) (h : VH) : fcode call nro (.keep live c) e h = fcode call nro c (fl (live.zip (live.map e))) h := rfl
@[simp] theorem fcode_exit (i : Nat) (e : FE) (h : VH) : fcode call nro (.exit i) e h = some (.exit i, e, h) := rfl
@[simp] theorem fcode_ret (e : FE) (h : VH) : fcode call nro .ret e h = some (.ret, e, h) := rfl

/-! ### a function's end -/
noncomputable def kfin (p : List Value × VH) : Option (Value × VH) := some (p.1.getD 0 undef, p.2)
@[simp] theorem kfin_mk (v : Value) (h : VH) : kfin ([v], h) = some (v, h) := rfl
noncomputable def kret (res : List VR) (h : VH) : Option (VX × FE × VH) → Option (Value × VH)
  | some (.exit _, _, _) => none
  | some (_, e, h') => fend h (fresults e h' res) h'
  | none => none
@[simp] theorem kret_ret (res : List VR) (h : VH) (e : FE) (h' : VH) : kret res h (some (.ret, e, h')) = fend h (fresults e h' res) h' := rfl
@[simp] theorem kret_normal (res : List VR) (h : VH) (e : FE) (h' : VH) : kret res h (some (.normal, e, h')) = fend h (fresults e h' res) h' := rfl
@[simp] theorem kret_none (res : List VR) (h : VH) : kret res h none = none := rfl
@[simp] theorem kret_ite (res : List VR) (h : VH) (c : Prop) [Decidable c] (x y : Option (VX × FE × VH)) : kret res h (if c then x else y) = if c then kret res h x else kret res h y := by split <;> rfl
@[simp] theorem fend_some (h : VH) (v : Value) (h' : VH) : fend h (some v) h' = kfin (kclean h [v] h') := rfl
theorem fbody_eq (fn : FF) (args : List Value) (h : VH) : fbody call nro fn args h = kret fn.res h (fcode call nro fn.body (fargs args) h) := by
  unfold fbody
  generalize fcode call nro fn.body (fargs args) h = q
  match q with
  | none => rfl
  | some (.normal, e, h') => rfl
  | some (.exit i, e, h') => rfl
  | some (.ret, e, h') => rfl
@[simp] theorem fresults1 (e : FE) (h : VH) (t : Nat) : fresults e h [.tmp t] = some (e t) := rfl
@[simp] theorem fresults2 (e : FE) (h : VH) (t s : Nat) : fresults e h [.tmp t, .tmp s] = if notTup (e t) = true ∧ notTup (e s) = true then some (.tuple #[e t, e s]) else none := by
  simp [fresults, fresL, fres1]
@[simp] theorem fresults3 (e : FE) (h : VH) (t s u : Nat) : fresults e h [.tmp t, .tmp s, .tmp u] = if notTup (e t) = true ∧ notTup (e s) = true ∧ notTup (e u) = true then some (.tuple #[e t, e s, e u]) else none := by
  simp [fresults, fresL, fres1]
@[simp] theorem fresultsN (e : FE) (h : VH) : fresults e h [] = some (.tuple #[]) := rfl
attribute [simp] notTup

/-! ### what lies in the elder part -/
def Old (n : Nat) (v : Value) : Prop := ∀ r ∈ trefs v, r < n
theorem Old.le {n m : Nat} {v : Value} (h : Old n v) (hm : n ≤ m) : Old m v := fun r hr => Nat.lt_of_lt_of_le (h r hr) hm
@[simp] theorem old_int (n : Nat) (k : IntKind) (i : Int) : Old n (.int k i) := fun r hr => by simp [trefs, vrefs, crefs, arefs] at hr
@[simp] theorem old_bool (n : Nat) (b : Bool) : Old n (.bool b) := fun r hr => by simp [trefs, vrefs, crefs, arefs] at hr
@[simp] theorem old_str (n : Nat) (b : ByteArray) : Old n (.string b) := fun r hr => by simp [trefs, vrefs, crefs, arefs] at hr
@[simp] theorem old_junk (n : Nat) : Old n junk := fun r hr => by simp [junk, trefs, vrefs, crefs, arefs] at hr
@[simp] theorem old_undef (n : Nat) : Old n undef := fun r hr => by simp [undef, trefs] at hr
@[simp] theorem old_slN (n a b : Nat) : Old n (.slice none a b) := fun r hr => by simp [trefs, vrefs, crefs, arefs] at hr
@[simp] theorem old_ptrN (n : Nat) : Old n (.pointer none) := fun r hr => by simp [trefs, vrefs, crefs, arefs] at hr
@[simp] theorem old_nilF (n : Nat) : Old n .nilFunc := fun r hr => by simp [trefs, vrefs, crefs, arefs] at hr
@[simp] theorem old_sl (n : Nat) (a : Addr) (k t : Nat) : Old n (.slice (some a) k t) ↔ a.block < n := by simp [Old, trefs, vrefs, crefs, arefs]
@[simp] theorem old_ptr (n : Nat) (a : Addr) : Old n (.pointer (some a)) ↔ a.block < n := by simp [Old, trefs, vrefs, crefs, arefs]
/-- The same of a cell. -/
def OldC (n : Nat) (v : Value) : Prop := ∀ r ∈ crefs v, r < n
theorem old_all (n : Nat) (vs : List Value) : (∀ r ∈ vs.flatMap trefs, r < n) ↔ ∀ v ∈ vs, Old n v := by
  simp only [List.mem_flatMap, Old]
  constructor
  · intro h v hv r hr
    exact h r ⟨v, hv, hr⟩
  · rintro h r ⟨v, hv, hr⟩
    exact h v hv r hr

def flatO (n : Nat) (o : VO) : Prop := ∀ r ∈ orefs o, r < n

theorem keepL_nil {base : Nat} {vs : List Value} (h : ∀ v ∈ vs, Old base v) : keepL base vs = [] := by
  unfold keepL
  rw [List.filter_eq_nil_iff.mpr]
  · rfl
  · intro r hr
    have := (old_all base vs).mpr h r hr
    simp; omega

theorem tren_old {n : Nat} {v : Value} (h : Old n v) {r : Nat → Nat} (hr : ∀ i, i < n → r i = i) : tren r v = v := by
  have ha : ∀ v : Value, (∀ i ∈ arefs v, i < n) → aren r v = v := by
    intro v hv
    unfold aren
    split
    · rename_i a
      rw [hr a.block (hv _ (by simp [arefs]))]
    · rename_i a k c
      rw [hr a.block (hv _ (by simp [arefs]))]
    · rfl
  have hmap : ∀ (f : Value → Value) (vs : Array Value), (∀ v ∈ vs, f v = v) → vs.map f = vs := by
    intro f vs h
    exact (Array.map_congr_left (g := id) h).trans (Array.map_id _)
  have hc : ∀ v : Value, (∀ i ∈ crefs v, i < n) → cren r v = v := by
    intro v hv
    unfold cren
    split
    · rename_i f a c
      simp only [crefs, List.mem_append, List.mem_flatMap] at hv
      rw [hmap _ a fun v h => ha v fun i hi => hv i (.inl ⟨v, by simpa using h, hi⟩), hmap _ c fun v h => ha v fun i hi => hv i (.inr ⟨v, by simpa using h, hi⟩)]
    · rename_i hne
      refine ha v fun i hi => hv i ?_
      unfold crefs
      split
      · exact absurd rfl (hne _ _ _)
      · exact hi
  have hvv : ∀ v : Value, (∀ i ∈ vrefs v, i < n) → vren r v = v := by
    intro v hv
    unfold vren
    split
    · rename_i cs
      simp only [vrefs, List.mem_flatMap] at hv
      rw [hmap _ cs fun v h => hc v fun i hi => hv i ⟨v, by simpa using h, hi⟩]
    · rename_i hne
      refine hc v fun i hi => hv i ?_
      unfold vrefs
      split
      · exact absurd rfl (hne _)
      · exact hi
  unfold tren
  split
  · rename_i vs
    unfold Old at h
    simp only [trefs, List.mem_flatMap] at h
    rw [hmap _ vs fun v hv => hvv v fun i hi => h i ⟨v, by simpa using hv, hi⟩]
  · rename_i hne
    refine hvv v fun i hi => h i ?_
    unfold trefs
    split
    · exact absurd rfl (hne _)
    · exact hi

theorem okT_app {h0 L : VH} {L0 : VH} (hL : ∀ o ∈ L, flatO (h0.length + L0.length) o) : okT (h0 ++ L0).length (h0 ++ L0) (h0 ++ L) := by
  intro i o ho
  by_cases hi : i < h0.length
  · left
    rw [List.getElem?_append_left hi] at ho ⊢
    exact ho
  · right
    rw [List.getElem?_append_right (by omega)] at ho
    have := hL o (List.mem_of_getElem? ho)
    simpa [flatO] using this

/-- At the end of a time round: what is fresh and not led to is dropped. -/
@[simp] theorem cleanup_app {h0 L0 L : VH} {vs : List Value} (hv : ∀ v ∈ vs, Old (h0 ++ L0).length v) (hf : ∀ o ∈ L.take L0.length, flatO (h0.length + L0.length) o) :
    kclean (h0 ++ L0) vs (h0 ++ L) = (vs, h0 ++ L.take L0.length) := by
  have htake : (h0 ++ L).take (h0 ++ L0).length = h0 ++ L.take L0.length := by
    rw [List.length_append, List.take_append]
    simp [List.take_of_length_le]
  have hc : okT (h0 ++ L0).length (h0 ++ L0) ((h0 ++ L).take (h0 ++ L0).length) ∧ flatL (h0 ++ L0).length [] (h0 ++ L) := by
    refine ⟨?_, fun i hi => by cases hi⟩
    rw [htake]
    exact okT_app hf
  unfold kclean cleanup
  rw [keepL_nil hv, if_pos hc, htake]
  simp only [List.filterMap_nil, List.append_nil, Prod.mk.injEq, and_true]
  have : ∀ v ∈ vs, tren (renOf (h0 ++ L0).length []) v = v := fun v h => tren_old (hv v h) fun i hi => by simp only [renOf, if_pos hi]
  exact (List.map_congr_left this).trans (by simp)

@[simp] theorem cleanup_drop {h L : VH} {vs : List Value} (hv : ∀ v ∈ vs, Old h.length v) : kclean h vs (h ++ L) = (vs, h) := by
  have := cleanup_app (h0 := h) (L0 := []) (L := L) (vs := vs) (by simpa using hv) (by simp)
  simpa using this

@[simp] theorem cleanup_same {h : VH} {vs : List Value} (hv : ∀ v ∈ vs, Old h.length v) : kclean h vs h = (vs, h) := by
  have := cleanup_drop (h := h) (L := []) hv
  simpa using this

/-- What is fresh and led to is kept. -/
theorem cleanup_keep {h L : VH} {vs : List Value} {ks : List Nat} (hk : keepL h.length vs = ks) (hf : flatL h.length ks (h ++ L)) :
    kclean h vs (h ++ L) = (vs.map (tren (renOf h.length ks)), h ++ ks.filterMap fun i => (h ++ L)[i]?) := by
  have hc : okT h.length h ((h ++ L).take h.length) ∧ flatL h.length ks (h ++ L) := by
    refine ⟨fun i o ho => ?_, hf⟩
    left
    rw [List.getElem?_take] at ho
    split at ho
    · rename_i hi
      rw [List.getElem?_append_left hi] at ho
      exact ho
    · cases ho
  unfold kclean cleanup
  rw [hk, if_pos hc]
  simp

/-! ### the heap -/
@[simp] theorem hget0 (h L : VH) : (h ++ L)[h.length]? = L[0]? := by rw [List.getElem?_append_right (Nat.le_refl _)]; simp
@[simp] theorem hgetk (h L : VH) (k : Nat) : (h ++ L)[h.length + k]? = L[k]? := by rw [List.getElem?_append_right (by omega)]; congr 1; omega
@[simp] theorem hset0 (h L : VH) (o : VO) : (h ++ L).set h.length o = h ++ L.set 0 o := by rw [List.set_append_right _ _ (Nat.le_refl _)]; simp
@[simp] theorem hsetk (h L : VH) (k : Nat) (o : VO) : (h ++ L).set (h.length + k) o = h ++ L.set k o := by rw [List.set_append_right _ _ (by omega)]; congr 2; omega

/-! ### operations, in parts -/
def vlen (h : VH) : Value → Option (Value × VH)
  | .slice none 0 0 => some (.int .i64 0, h)
  | .slice none 0 1 => some (.int .i64 0, h)
  | .slice (some a) n tot => match h[a.block]? with
    | some o => if tot = o.cells.length then some (.int .i64 n, h) else none
    | none => none
  | _ => none
def vidx (sz : Nat) (h : VH) : Value → Value → Option (Value × VH)
  | .slice (some a) n tot, .int _ j =>
    match h[a.block]? with
    | some o => if o.sz = sz ∧ tot = o.cells.length ∧ 0 ≤ j ∧ j < n then some (.pointer (some ⟨a.block, a.off + j.toNat * sz, some tot⟩), h) else none
    | none => none
  | _, _ => none
def vpick (c a b : Value) (h : VH) : Option (Value × VH) := match c with
  | .bool t => some (if t then a else b, h)
  | _ => none
def vext (h : VH) (i : Nat) : Value → Option (Value × VH)
  | .tuple vs => match vs[i]? with
      | some v => some (v, h)
      | none => none
  | _ => none
def vconv (k : IntKind) (h : VH) : Value → Option (Value × VH)
  | .int _ n => some (.int k (k.wrap n), h)
  | _ => none
def vfld (off : Nat) (h : VH) : Value → Option (Value × VH)
  | .pointer (some a) => if vlive h a = true then some (.pointer (some { a with off := a.off + off }), h) else none
  | _ => none
def vfieldv (agg : Bool) (off n : Nat) (h : VH) : Value → Option (Value × VH)
  | .agg cs => if off + n ≤ cs.size then (if agg then some (.agg (cs.extract off (off + n)), h) else match cs[off]? with
      | some v => some (v, h)
      | none => none) else none
  | _ => none
def vmk (sz : Nat) (zero : List Value) (bytes : Nat) (h : VH) : Value → Value → Option (Value × VH)
  | .int .i64 n, .int .i64 m => if n = m ∧ 0 ≤ n ∧ bytes * n ≤ 2 ^ 47 ∧ n ≤ 2 ^ 47 then some (.slice (some ⟨h.length, 0, none⟩) n.toNat (n.toNat * sz), h ++ [⟨sz, (List.replicate n.toNat zero).flatten⟩]) else none
  | _, _ => none
def vbox (n : Nat) (h : VH) (x : Value) : Option (Value × VH) := if (vcells x).length = n ∧ isJunk x = false then some (.pointer (some ⟨h.length, 0, some n⟩), h ++ [⟨0, vcells x⟩]) else none
def vnil (h : VH) : Value → Option (Value × VH)
  | .pointer (some a) => if vlive h a = true then some (.pointer (some a), h) else none
  | .func (.func f) a c => some (.func (.func f) a c, h)
  | _ => none
def vlenStr (h : VH) : Value → Option (Value × VH)
  | .string s => some (.int .i64 s.size, h)
  | _ => none
def vmvStr (h : VH) : Value → Option (Value × VH)
  | .string s => some (.string s, h)
  | _ => none
def veqnilS (neg : Bool) (h : VH) : Value → Option (Value × VH)
  | .slice none 0 0 => some (.bool !neg, h)
  | .slice (some a) _ tot => match h[a.block]? with
      | some o => if tot = o.cells.length then some (.bool neg, h) else none
      | none => none
  | _ => none
def veqnilF (neg : Bool) (h : VH) : Value → Option (Value × VH)
  | .nilFunc => some (.bool !neg, h)
  | .func .. => some (.bool neg, h)
  | _ => none
def vcallv (call : VCall) (h : VH) (f : Value) (args : List Value) : Option (Value × VH) := match f with
  | .func (.func g) first caps => call g (first.toList ++ args ++ caps.toList) h
  | _ => none

variable (ev : Operand → Value) (h : VH)
@[simp] theorem vop_mv (x : Operand) : vop call nro ev h (.mv x) = some (ev x, h) := rfl
@[simp] theorem vop_pick (c a b : Operand) : vop call nro ev h (.pick c a b) = vpick (ev c) (ev a) (ev b) h := rfl
@[simp] theorem vop_bin (o : BinOp) (x y : Operand) : vop call nro ev h (.bin o x y) = (vbin o (ev x) (ev y)).map (·, h) := rfl
@[simp] theorem vop_beq (n : Bool) (x y : Operand) : vop call nro ev h (.beq n x y) = (vbeq n (ev x) (ev y)).map (·, h) := rfl
@[simp] theorem vop_un (o : UnOp) (x : Operand) : vop call nro ev h (.un o x) = (vun o (ev x)).map (·, h) := rfl
@[simp] theorem vop_conv (k : IntKind) (x : Operand) : vop call nro ev h (.conv k x) = vconv k h (ev x) := rfl
@[simp] theorem vop_box (n : Nat) (x : Operand) : vop call nro ev h (.box n x) = vbox n h (ev x) := rfl
@[simp] theorem vop_alloc (z : List Value) : vop call nro ev h (.alloc z) = some (.pointer (some ⟨h.length, 0, some z.length⟩), h ++ [⟨0, z⟩]) := rfl
@[simp] theorem vop_build (z : List Value) (ps : List (Nat × Nat × Operand)) : vop call nro ev h (.build z ps) = (vfill z (ps.map fun p => (p.1, p.2.1, ev p.2.2))).map fun cs => (.agg cs.toArray, h) := rfl
@[simp] theorem vop_buildSl (sz : Nat) (z : List Value) (ps : List (Nat × Nat × Operand)) (n : Nat) : vop call nro ev h (.buildSl sz z ps n) = (vfill z (ps.map fun p => (p.1, p.2.1, ev p.2.2))).map fun cs => (.slice (some ⟨h.length, 0, none⟩) n z.length, h ++ [⟨sz, cs⟩]) := rfl
@[simp] theorem vop_load (g : Bool) (n : Nat) (p : Operand) : vop call nro ev h (.load g n p) = (vload g n h (ev p)).map (·, h) := rfl
@[simp] theorem vop_store (n : Nat) (p x : Operand) : vop call nro ev h (.store n p x) = (vstore nro n h (ev p) (ev x)).map (undef, ·) := rfl
@[simp] theorem vop_nilchk (x : Operand) : vop call nro ev h (.nilchk x) = vnil h (ev x) := rfl
@[simp] theorem vop_fld (n : Nat) (p : Operand) : vop call nro ev h (.fld n p) = vfld n h (ev p) := rfl
@[simp] theorem vop_fieldv (g : Bool) (o n : Nat) (x : Operand) : vop call nro ev h (.fieldv g o n x) = vfieldv g o n h (ev x) := rfl
@[simp] theorem vop_idx (n : Nat) (s i : Operand) : vop call nro ev h (.idx n s i) = vidx n h (ev s) (ev i) := rfl
@[simp] theorem vop_mkSl (sz : Nat) (z : List Value) (b : Nat) (l c : Operand) : vop call nro ev h (.mkSl sz z b l c) = vmk sz z b h (ev l) (ev c) := rfl
@[simp] theorem vop_slc (sz : Nat) (x : Operand) (lo hi : Option Operand) : vop call nro ev h (.slc sz x lo hi) = (vslice sz h (ev x) (lo.map ev) (hi.map ev)).map (·, h) := rfl
@[simp] theorem vop_slcStr (x : Operand) (lo hi : Option Operand) : vop call nro ev h (.slcStr x lo hi) = (vsliceStr (ev x) (lo.map ev) (hi.map ev)).map (·, h) := rfl
@[simp] theorem vop_ext (x : Operand) (i : Nat) : vop call nro ev h (.ext x i) = vext h i (ev x) := rfl
@[simp] theorem vop_len (x : Operand) : vop call nro ev h (.len x) = vlen h (ev x) := rfl
@[simp] theorem vop_lenStr (x : Operand) : vop call nro ev h (.lenStr x) = vlenStr h (ev x) := rfl
@[simp] theorem vop_mvStr (x : Operand) : vop call nro ev h (.mvStr x) = vmvStr h (ev x) := rfl
@[simp] theorem vop_eqnilS (n : Bool) (x : Operand) : vop call nro ev h (.eqnilS n x) = veqnilS n h (ev x) := rfl
@[simp] theorem vop_eqnilF (n : Bool) (x : Operand) : vop call nro ev h (.eqnilF n x) = veqnilF n h (ev x) := rfl
@[simp] theorem vop_app (sz b : Nat) (z : List Value) (s x : Operand) : vop call nro ev h (.app sz b z s x) = vappend nro sz b h (ev s) (ev x) := rfl
@[simp] theorem vop_minmax (m : Bool) (xs : List Operand) : vop call nro ev h (.minmax m xs) = (vminmax m (xs.map ev)).map (·, h) := rfl
@[simp] theorem vop_call (f : Nat) (xs : List Operand) : vop call nro ev h (.call f xs) = call f (xs.map ev) h := rfl
@[simp] theorem vop_callv (f : Operand) (xs : List Operand) : vop call nro ev h (.callv f xs) = vcallv call h (ev f) (xs.map ev) := rfl
@[simp] theorem vop_clr (sz : Nat) (z : List Value) (x : Operand) : vop call nro ev h (.clr sz z x) = vclear nro sz z h (ev x) := rfl
@[simp] theorem vop_cpy (sz : Nat) (x y : Operand) : vop call nro ev h (.cpy sz x y) = vcopy nro sz h (ev x) (ev y) := rfl
@[simp] theorem vop_stop : vop call nro ev h .stop = none := rfl
@[simp] theorem vop_mkfn (f : Nat) (a b : List Operand) : vop call nro ev h (.mkfn f a b) = if (a.map ev).all isAtom && (b.map ev).all isAtom then some (.func (.func f) (a.map ev).toArray (b.map ev).toArray, h) else none := rfl
attribute [simp] VOp.eff
@[simp] theorem vpick_bool (c : Bool) (a b : Value) : vpick (.bool c) a b h = some (if c = true then a else b, h) := rfl
@[simp] theorem vconv_int (k k' : IntKind) (n : Int) : vconv k h (.int k' n) = some (.int k (k.wrap n), h) := rfl
@[simp] theorem vlenStr_str (s : ByteArray) : vlenStr h (.string s) = some (.int .i64 s.size, h) := rfl
@[simp] theorem vmvStr_str (s : ByteArray) : vmvStr h (.string s) = some (.string s, h) := rfl
@[simp] theorem vlen_nil : vlen h (.slice none 0 0) = some (.int .i64 0, h) := rfl
@[simp] theorem vlen_ref (a : Addr) (n tot : Nat) : vlen h (.slice (some a) n tot) = match h[a.block]? with
    | some o => if tot = o.cells.length then some (.int .i64 n, h) else none
    | none => none := rfl
@[simp] theorem vidx_ref (sz : Nat) (a : Addr) (n tot : Nat) (k : IntKind) (j : Int) : vidx sz h (.slice (some a) n tot) (.int k j) = match h[a.block]? with
    | some o => if o.sz = sz ∧ tot = o.cells.length ∧ 0 ≤ j ∧ j < n then some (.pointer (some ⟨a.block, a.off + j.toNat * sz, some tot⟩), h) else none
    | none => none := rfl
@[simp] theorem vext_tup (vs : Array Value) (i : Nat) : vext h i (.tuple vs) = match vs[i]? with
      | some v => some (v, h)
      | none => none := rfl
@[simp] theorem vfld_ref (off : Nat) (a : Addr) : vfld off h (.pointer (some a)) = if vlive h a = true then some (.pointer (some { a with off := a.off + off }), h) else none := rfl
@[simp] theorem vfieldv_agg (g : Bool) (off n : Nat) (cs : Array Value) : vfieldv g off n h (.agg cs) = if off + n ≤ cs.size then (if g then some (.agg (cs.extract off (off + n)), h) else match cs[off]? with
      | some v => some (v, h)
      | none => none) else none := rfl
@[simp] theorem vmk_int (sz : Nat) (z : List Value) (b : Nat) (n m : Int) : vmk sz z b h (.int .i64 n) (.int .i64 m) = if n = m ∧ 0 ≤ n ∧ b * n ≤ 2 ^ 47 ∧ n ≤ 2 ^ 47 then some (.slice (some ⟨h.length, 0, none⟩) n.toNat (n.toNat * sz), h ++ [⟨sz, (List.replicate n.toNat z).flatten⟩]) else none := rfl
@[simp] theorem vnil_ref (a : Addr) : vnil h (.pointer (some a)) = if vlive h a = true then some (.pointer (some a), h) else none := rfl
@[simp] theorem vnil_func (f : Nat) (a c : Array Value) : vnil h (.func (.func f) a c) = some (.func (.func f) a c, h) := rfl
@[simp] theorem veqnilS_nil (n : Bool) : veqnilS n h (.slice none 0 0) = some (.bool !n, h) := rfl
@[simp] theorem veqnilS_ref (n : Bool) (a : Addr) (k tot : Nat) : veqnilS n h (.slice (some a) k tot) = match h[a.block]? with
      | some o => if tot = o.cells.length then some (.bool n, h) else none
      | none => none := rfl
@[simp] theorem vcallv_func (f : Nat) (first caps : Array Value) (args : List Value) : vcallv call h (.func (.func f) first caps) args = call f (first.toList ++ args ++ caps.toList) h := rfl
attribute [simp] vbox vget vlive vfill isJunk vminmax vminmaxL vminmax2 vsliceStr
@[simp] theorem vload_ref (g : Bool) (n : Nat) (a : Addr) : vload g n h (.pointer (some a)) = match vget h a n with
    | some cs => if g then some (.agg cs.toArray) else match cs with
      | [v] => some v
      | _ => none
    | none => none := rfl
@[simp] theorem vstore_ref (nro n : Nat) (a : Addr) (x : Value) : vstore nro n h (.pointer (some a)) x = match h[a.block]? with
    | some o =>
      if nro ≤ a.block ∧ a.spot = some o.cells.length ∧ a.off + n ≤ o.cells.length ∧ (vcells x).length = n ∧ (vcells x).all (fun v => !isJunk v) = true then
        some (h.set a.block { o with cells := splice a.off (vcells x) o.cells })
      else none
    | none => none := rfl
@[simp] theorem splice_zero (v : Value) (vs : List Value) (c : Value) (cs : List Value) : splice 0 (v :: vs) (c :: cs) = v :: vs ++ cs.drop vs.length := by simp [splice]
@[simp] theorem splice_succ (k : Nat) (vs : List Value) (c : Value) (cs : List Value) : splice (k + 1) vs (c :: cs) = c :: splice k vs cs := by
  simp [splice, Nat.add_right_comm]
@[simp] theorem vsrc_nil (sz : Nat) : vsrc sz h (.slice none 0 0) = some ([], 0) := rfl
@[simp] theorem vsrc_ref (sz : Nat) (a : Addr) (n tot : Nat) : vsrc sz h (.slice (some a) n tot) = match h[a.block]? with
    | some o => if o.sz = sz ∧ tot = o.cells.length ∧ a.off + n * sz ≤ tot then some ((o.cells.drop a.off).take (n * sz), n) else none
    | none => none := rfl
/-- An append, once its source is known. -/
def vapp (nro sz bytes : Nat) (h : VH) (s : Value) : Option (List Value × Nat) → Option (Value × VH)
  | none => none
  | some (cs, m) =>
    if cs.all (fun v => !isJunk v) = true ∧ 1 ≤ sz then
      match s with
      | .slice none 0 0 =>
        if m = 0 then some (.slice none 0 0, h)
        else if m * bytes ≤ 2 ^ 40 ∧ m ≤ 2 ^ 40 then some (.slice (some ⟨h.length, 0, none⟩) m cs.length, h ++ [⟨sz, cs⟩]) else none
      | .slice (some a) n tot =>
        match h[a.block]? with
        | some o =>
          if nro ≤ a.block ∧ o.sz = sz ∧ tot = o.cells.length ∧ a.off = 0 ∧ n * sz = tot ∧ (n + m) * bytes ≤ 2 ^ 40 ∧ n + m ≤ 2 ^ 40 then
            some (.slice (some a) (n + m) (tot + cs.length), h.set a.block { o with cells := o.cells ++ cs })
          else none
        | none => none
      | _ => none
    else none
@[simp] theorem vappend_eq (nro sz b : Nat) (s x : Value) : vappend nro sz b h s x = vapp nro sz b h s (vsrc sz h x) := by
  unfold vappend vapp
  cases vsrc sz h x <;> rfl
@[simp] theorem vapp_nil (nro sz b : Nat) (cs : List Value) (m : Nat) : vapp nro sz b h (.slice none 0 0) (some (cs, m)) = if cs.all (fun v => !isJunk v) = true ∧ 1 ≤ sz then (if m = 0 then some (.slice none 0 0, h) else if m * b ≤ 2 ^ 40 ∧ m ≤ 2 ^ 40 then some (.slice (some ⟨h.length, 0, none⟩) m cs.length, h ++ [⟨sz, cs⟩]) else none) else none := rfl
@[simp] theorem vapp_ref (nro sz b : Nat) (a : Addr) (n tot : Nat) (cs : List Value) (m : Nat) : vapp nro sz b h (.slice (some a) n tot) (some (cs, m)) = if cs.all (fun v => !isJunk v) = true ∧ 1 ≤ sz then (match h[a.block]? with
        | some o =>
          if nro ≤ a.block ∧ o.sz = sz ∧ tot = o.cells.length ∧ a.off = 0 ∧ n * sz = tot ∧ (n + m) * b ≤ 2 ^ 40 ∧ n + m ≤ 2 ^ 40 then
            some (.slice (some a) (n + m) (tot + cs.length), h.set a.block { o with cells := o.cells ++ cs })
          else none
        | none => none) else none := rfl
@[simp] theorem vslice_nil (sz : Nat) (lo hi : Option Value) : vslice sz h (.slice none 0 0) lo hi = match lo.getD (.int .i64 0), hi.getD (.int .i64 0) with
    | .int _ 0, .int _ 0 => some (.slice none 0 0)
    | _, _ => none := rfl
@[simp] theorem vslice_ref (sz : Nat) (a : Addr) (n tot : Nat) (lo hi : Option Value) : vslice sz h (.slice (some a) n tot) lo hi = match h[a.block]? with
    | some o =>
      if o.sz = sz ∧ tot = o.cells.length then
        match lo.getD (.int .i64 0), hi.getD (.int .i64 n) with
        | .int _ l, .int _ u => if 0 ≤ l ∧ l ≤ u ∧ u ≤ n then some (.slice (some { a with off := a.off + l.toNat * sz }) (u.toNat - l.toNat) tot) else none
        | _, _ => none
      else none
    | none => none := rfl
@[simp] theorem vcells_agg (cs : Array Value) : vcells (.agg cs) = cs.toList := rfl
@[simp] theorem vcells_int (k : IntKind) (n : Int) : vcells (.int k n) = [.int k n] := rfl
@[simp] theorem vcells_bool (b : Bool) : vcells (.bool b) = [.bool b] := rfl
@[simp] theorem vcells_str (b : ByteArray) : vcells (.string b) = [.string b] := rfl
@[simp] theorem vcells_sl (a : Option Addr) (n c : Nat) : vcells (.slice a n c) = [.slice a n c] := rfl
@[simp] theorem vcells_ptr (a : Option Addr) : vcells (.pointer a) = [.pointer a] := rfl
end
end Go.Proofs.Ytcdcmaakcldniaa.Zv

/- Numbers: the operations on integers, and bits. -/
namespace Go.Proofs.Ytcdcmaakcldniaa.Zv
open Go

theorem wrap64 {n : Int} (h1 : -9223372036854775808 ≤ n) (h2 : n ≤ 9223372036854775807) : IntKind.i64.wrap n = n := IntWalk.i64_in n ⟨h1, h2⟩
theorem wrapu64 {n : Int} (h1 : 0 ≤ n) (h2 : n ≤ 18446744073709551615) : IntKind.u64.wrap n = n := IntWalk.u64_in n ⟨h1, h2⟩
theorem wrapu8 {n : Int} (h1 : 0 ≤ n) (h2 : n ≤ 255) : IntKind.u8.wrap n = n := IntWalk.u8_in n ⟨h1, h2⟩

/-! The operations on bits are hidden from the kernel's eyes: it would else compare them bit by bit. -/
theorem ex_eq {α : Type} (a : α) : ∃ b, b = a := ⟨a, rfl⟩
noncomputable def iand : IntKind → Int → Int → Int := Classical.choose (ex_eq fun (k : IntKind) (a b : Int) => (k.wrap (BitVec.ofInt k.bits a &&& BitVec.ofInt k.bits b).toNat : Int))
theorem iand_eq (k : IntKind) (a b : Int) : iand k a b = k.wrap (BitVec.ofInt k.bits a &&& BitVec.ofInt k.bits b).toNat := congrFun (congrFun (congrFun (Classical.choose_spec (ex_eq fun (k : IntKind) (a b : Int) => (k.wrap (BitVec.ofInt k.bits a &&& BitVec.ofInt k.bits b).toNat : Int))) k) a) b
noncomputable def ior : IntKind → Int → Int → Int := Classical.choose (ex_eq fun (k : IntKind) (a b : Int) => (k.wrap (BitVec.ofInt k.bits a ||| BitVec.ofInt k.bits b).toNat : Int))
theorem ior_eq (k : IntKind) (a b : Int) : ior k a b = k.wrap (BitVec.ofInt k.bits a ||| BitVec.ofInt k.bits b).toNat := congrFun (congrFun (congrFun (Classical.choose_spec (ex_eq fun (k : IntKind) (a b : Int) => (k.wrap (BitVec.ofInt k.bits a ||| BitVec.ofInt k.bits b).toNat : Int))) k) a) b
noncomputable def ixor : IntKind → Int → Int → Int := Classical.choose (ex_eq fun (k : IntKind) (a b : Int) => (k.wrap (BitVec.ofInt k.bits a ^^^ BitVec.ofInt k.bits b).toNat : Int))
theorem ixor_eq (k : IntKind) (a b : Int) : ixor k a b = k.wrap (BitVec.ofInt k.bits a ^^^ BitVec.ofInt k.bits b).toNat := congrFun (congrFun (congrFun (Classical.choose_spec (ex_eq fun (k : IntKind) (a b : Int) => (k.wrap (BitVec.ofInt k.bits a ^^^ BitVec.ofInt k.bits b).toNat : Int))) k) a) b
noncomputable def iandNot : IntKind → Int → Int → Int := Classical.choose (ex_eq fun (k : IntKind) (a b : Int) => (k.wrap (BitVec.ofInt k.bits a &&& ~~~ BitVec.ofInt k.bits b).toNat : Int))
theorem iandNot_eq (k : IntKind) (a b : Int) : iandNot k a b = k.wrap (BitVec.ofInt k.bits a &&& ~~~ BitVec.ofInt k.bits b).toNat := congrFun (congrFun (congrFun (Classical.choose_spec (ex_eq fun (k : IntKind) (a b : Int) => (k.wrap (BitVec.ofInt k.bits a &&& ~~~ BitVec.ofInt k.bits b).toNat : Int))) k) a) b
noncomputable def ishl : IntKind → Int → Int → Int := Classical.choose (ex_eq fun (k : IntKind) (a b : Int) => (k.wrap (a * 2 ^ (min b.toNat k.bits)) : Int))
theorem ishl_eq (k : IntKind) (a b : Int) : ishl k a b = k.wrap (a * 2 ^ (min b.toNat k.bits)) := congrFun (congrFun (congrFun (Classical.choose_spec (ex_eq fun (k : IntKind) (a b : Int) => (k.wrap (a * 2 ^ (min b.toNat k.bits)) : Int))) k) a) b
noncomputable def ishr : IntKind → Int → Int → Int := Classical.choose (ex_eq fun (k : IntKind) (a b : Int) => (a.fdiv (2 ^ (min b.toNat k.bits)) : Int))
theorem ishr_eq (k : IntKind) (a b : Int) : ishr k a b = a.fdiv (2 ^ (min b.toNat k.bits)) := congrFun (congrFun (congrFun (Classical.choose_spec (ex_eq fun (k : IntKind) (a b : Int) => (a.fdiv (2 ^ (min b.toNat k.bits)) : Int))) k) a) b

section
variable (k : IntKind) (a b : Int)
@[simp] theorem vbin_add : vbin .add (.int k a) (.int k b) = some (.int k (k.wrap (a + b))) := by simp [vbin]
@[simp] theorem vbin_sub : vbin .sub (.int k a) (.int k b) = some (.int k (k.wrap (a - b))) := by simp [vbin]
@[simp] theorem vbin_mul : vbin .mul (.int k a) (.int k b) = some (.int k (k.wrap (a * b))) := by simp [vbin]
@[simp] theorem vbin_quo (hb : b ≠ 0) : vbin .quo (.int k a) (.int k b) = some (.int k (k.wrap (a.tdiv b))) := by simp [vbin, hb]
@[simp] theorem vbin_rem (hb : b ≠ 0) : vbin .rem (.int k a) (.int k b) = some (.int k (a.tmod b)) := by simp [vbin, hb]
@[simp] theorem vbin_and : vbin .and (.int k a) (.int k b) = some (.int k (iand k a b)) := by simp [vbin, iand_eq]
@[simp] theorem vbin_or : vbin .or (.int k a) (.int k b) = some (.int k (ior k a b)) := by simp [vbin, ior_eq]
@[simp] theorem vbin_xor : vbin .xor (.int k a) (.int k b) = some (.int k (ixor k a b)) := by simp [vbin, ixor_eq]
@[simp] theorem vbin_andNot : vbin .andNot (.int k a) (.int k b) = some (.int k (iandNot k a b)) := by simp [vbin, iandNot_eq]
@[simp] theorem vbin_shl (k' : IntKind) (hb : 0 ≤ b) : vbin .shl (.int k a) (.int k' b) = some (.int k (ishl k a b)) := by
  have : ¬ b < 0 := by omega
  simp [vbin, ishl_eq, this]
@[simp] theorem vbin_shr (k' : IntKind) (hb : 0 ≤ b) : vbin .shr (.int k a) (.int k' b) = some (.int k (ishr k a b)) := by
  have : ¬ b < 0 := by omega
  simp [vbin, ishr_eq, this]
@[simp] theorem vbin_eql : vbin .eql (.int k a) (.int k b) = some (.bool (decide (a = b))) := by simp [vbin]; rfl
@[simp] theorem vbin_neq : vbin .neq (.int k a) (.int k b) = some (.bool (decide (a ≠ b))) := by
  simp [vbin]
  by_cases h : a = b <;> simp [h]
@[simp] theorem vbin_lss : vbin .lss (.int k a) (.int k b) = some (.bool (decide (a < b))) := by simp [vbin]
@[simp] theorem vbin_leq : vbin .leq (.int k a) (.int k b) = some (.bool (decide (a ≤ b))) := by simp [vbin]
@[simp] theorem vbin_gtr : vbin .gtr (.int k a) (.int k b) = some (.bool (decide (b < a))) := by simp [vbin]
@[simp] theorem vbin_geq : vbin .geq (.int k a) (.int k b) = some (.bool (decide (b ≤ a))) := by simp [vbin]
@[simp] theorem vbeq_bool (n : Bool) (x y : Bool) : vbeq n (.bool x) (.bool y) = some (.bool (if n = true then !(x == y) else x == y)) := rfl
@[simp] theorem vun_not (x : Bool) : vun .not (.bool x) = some (.bool !x) := rfl
@[simp] theorem vun_neg : vun .neg (.int k a) = some (.int k (k.wrap (0 - a))) := rfl
end

/-! ### bits of what is not negative -/
theorem ofInt_nat (w n : Nat) (h : n < 2 ^ w) : (BitVec.ofInt w (n : Int)).toNat = n := by
  simp
  exact Nat.mod_eq_of_lt h

theorem iand_nat {a b : Nat} (ha : a < 2 ^ 63) (hb : b < 2 ^ 63) : iand .i64 a b = ((a &&& b : Nat) : Int) := by
  rw [iand_eq]
  rw [BitVec.toNat_and]
  have e : IntKind.i64.bits = 64 := rfl
  rw [e, ofInt_nat 64 a (by omega), ofInt_nat 64 b (by omega)]
  have : a &&& b ≤ a := Nat.and_le_left
  exact wrap64 (by omega) (by omega)

theorem ior_nat {a b : Nat} (ha : a < 2 ^ 63) (hb : b < 2 ^ 63) : ior .i64 a b = ((a ||| b : Nat) : Int) := by
  rw [ior_eq]
  rw [BitVec.toNat_or]
  have e : IntKind.i64.bits = 64 := rfl
  rw [e, ofInt_nat 64 a (by omega), ofInt_nat 64 b (by omega)]
  have : a ||| b < 2 ^ 63 := Nat.or_lt_two_pow ha hb
  exact wrap64 (by omega) (by omega)

theorem ishr_nat {a : Nat} {b : Int} (hb : b ≤ 64) : ishr .i64 a b = ((a >>> b.toNat : Nat) : Int) := by
  rw [ishr_eq]
  have e : min b.toNat IntKind.i64.bits = b.toNat := by
    have : IntKind.i64.bits = 64 := rfl
    omega
  rw [e]
  have h1 : (a : Int).fdiv (2 ^ b.toNat) = ((a / 2 ^ b.toNat : Nat) : Int) := by
    rw [Int.fdiv_eq_ediv_of_nonneg _ (Int.pow_nonneg (by decide))]
    simp
  rw [h1, Nat.shiftRight_eq_div_pow]

theorem ishl_one {b : Int} (h1 : b ≤ 62) : ishl .i64 1 b = ((2 ^ b.toNat : Nat) : Int) := by
  rw [ishl_eq]
  have e : min b.toNat IntKind.i64.bits = b.toNat := by
    have : IntKind.i64.bits = 64 := rfl
    omega
  rw [e]
  have : 2 ^ b.toNat ≤ 4611686018427387904 := Nat.le_trans (Nat.pow_le_pow_right (by decide : 0 < 2) (by omega : b.toNat ≤ 62)) (by decide)
  have h2 : (1 : Int) * 2 ^ b.toNat = ((2 ^ b.toNat : Nat) : Int) := by simp
  rw [h2]
  generalize 2 ^ b.toNat = q at *
  exact wrap64 (by omega) (by omega)

theorem iand_one {a : Nat} (ha : a < 2 ^ 63) : iand .i64 a 1 = ((a % 2 : Nat) : Int) := by
  have := iand_nat (a := a) (b := 1) ha (by omega)
  rw [Nat.and_one_is_mod] at this
  exact this

/-- Bit j of a row. -/
theorem bit_nat {a : Nat} {b : Int} (ha : a < 2 ^ 63) (hb : b ≤ 64) : (iand .i64 (ishr .i64 a b) 1 = 1) ↔ a.testBit b.toNat = true := by
  rw [ishr_nat hb, iand_one]
  · rw [Nat.testBit_eq_decide_div_mod_eq, Nat.shiftRight_eq_div_pow]
    simp only [decide_eq_true_eq]
    omega
  · rw [Nat.shiftRight_eq_div_pow]
    exact Nat.lt_of_le_of_lt (Nat.div_le_self _ _) ha
end Go.Proofs.Ytcdcmaakcldniaa.Zv

/- Slices that are read: what a slice's value tells of a list. -/
namespace Go.Proofs.Ytcdcmaakcldniaa.Zv
open Go

/-- A slice of elements of one cell each reads as a list. -/
def Sl (h : VH) (v : Value) (cs : List Value) : Prop := vsrc 1 h v = some (cs, cs.length)

/-- The place of an element. -/
def vptr (s : Value) (j : Nat) : Value := match s with
  | .slice (some a) _ tot => .pointer (some ⟨a.block, a.off + j, some tot⟩)
  | _ => junk

def ints (xs : List Int) : List Value := xs.map (Value.int .i64)
@[simp] theorem ints_length (xs : List Int) : (ints xs).length = xs.length := by simp [ints]
@[simp] theorem ints_nil : ints [] = [] := rfl
@[simp] theorem ints_cons (x : Int) (xs : List Int) : ints (x :: xs) = .int .i64 x :: ints xs := rfl
theorem ints_set (xs : List Int) (j : Nat) (x : Int) : (ints xs).set j (.int .i64 x) = ints (xs.set j x) := by simp [ints, List.map_set]

theorem Sl.inv {h : VH} {v : Value} {cs : List Value} (hs : Sl h v cs) :
    (v = .slice none 0 0 ∧ cs = []) ∨ (v = .slice none 0 1 ∧ cs = []) ∨
    ∃ a n tot o, v = .slice (some a) n tot ∧ h[a.block]? = some o ∧ o.sz = 1 ∧ tot = o.cells.length ∧ a.off + n ≤ tot ∧ n = cs.length ∧ ∀ j, j < n → o.cells[a.off + j]? = cs[j]? := by
  unfold Sl vsrc at hs
  split at hs
  · left; simp at hs; exact ⟨rfl, hs.1⟩
  · right; left; simp at hs; exact ⟨rfl, hs.1⟩
  · rename_i a n tot
    split at hs
    · rename_i o ho
      split at hs
      · rename_i hc
        simp only [Nat.mul_one, Option.some.injEq, Prod.mk.injEq] at hs
        refine .inr (.inr ⟨a, n, tot, o, rfl, ho, hc.1, hc.2.1, by simpa using hc.2.2, hs.2, fun j hj => ?_⟩)
        rw [← hs.1, List.getElem?_take, if_pos hj, List.getElem?_drop]
      · cases hs
    · cases hs
  · cases hs

@[simp] theorem flatO_ints (n k : Nat) (xs : List Int) : flatO n ⟨k, ints xs⟩ := by
  intro r hr
  simp only [orefs, ints, List.flatMap_map, List.mem_flatMap] at hr
  obtain ⟨x, _, hx⟩ := hr
  simp [crefs, arefs] at hx
@[simp] theorem ints_all (xs : List Int) : (ints xs).all (fun v => !isJunk v) = true := by simp [ints]
theorem splice_ints {xs : List Int} {j : Nat} {v : Int} (hj : j < xs.length) : splice j [.int .i64 v] (ints xs) = ints (xs.set j v) := by
  rw [← ints_set]
  unfold splice
  rw [List.set_eq_take_append_cons_drop, if_pos (by simpa using hj)]
  simp
theorem take1_ints {xs : List Int} {j : Nat} (hj : j < xs.length) : List.take 1 (List.drop j (ints xs)) = [.int .i64 xs[j]] := by
  rw [List.drop_eq_getElem_cons (by simpa using hj)]
  simp [ints]
@[simp] theorem ints_rep (n : Nat) (x : Int) : List.replicate n (Value.int .i64 x) = ints (List.replicate n x) := by simp [ints]
@[simp] theorem ints_rep' (n : Nat) (x : Int) : (List.replicate n [Value.int .i64 x]).flatten = ints (List.replicate n x) := by
  induction n with
  | zero => rfl
  | succ n ih => simp only [List.replicate_succ, List.flatten_cons, ih, ints_cons]; rfl

attribute [simp] Nat.add_one_le_iff

section
variable {h : VH} {v : Value} {cs : List Value}

theorem Sl.app (hs : Sl h v cs) (L : VH) : Sl (h ++ L) v cs := by
  unfold Sl at hs ⊢
  unfold vsrc at hs ⊢
  split at hs
  · exact hs
  · exact hs
  · rename_i a n tot
    split at hs
    · rename_i o ho
      have : (h ++ L)[a.block]? = some o := by rw [List.getElem?_append_left (List.getElem?_eq_some_iff.mp ho).1]; exact ho
      simp only [this]
      exact hs
    · cases hs
  · cases hs

theorem Sl.old (hs : Sl h v cs) : Old h.length v := by
  rcases hs.inv with ⟨rfl, _⟩ | ⟨rfl, _⟩ | ⟨a, n, tot, o, rfl, ho, _⟩
  · simp
  · simp
  · rw [old_sl]; exact (List.getElem?_eq_some_iff.mp ho).1

theorem Sl.vlen (hs : Sl h v cs) : vlen h v = some (.int .i64 cs.length, h) := by
  rcases hs.inv with ⟨rfl, rfl⟩ | ⟨rfl, rfl⟩ | ⟨a, n, tot, o, rfl, ho, _, ht, _, hn, _⟩
  · rfl
  · rfl
  · simp [ho, ht, hn]

theorem Sl.vidx (hs : Sl h v cs) {k : IntKind} {j : Int} (h0 : 0 ≤ j) (hj : j < cs.length) : vidx 1 h v (.int k j) = some (vptr v j.toNat, h) := by
  rcases hs.inv with ⟨rfl, rfl⟩ | ⟨rfl, rfl⟩ | ⟨a, n, tot, o, rfl, ho, hz, ht, _, hn, _⟩
  · simp at hj; omega
  · simp at hj; omega
  · simp only [vidx_ref, ho, hz, ht, vptr, Nat.mul_one]
    rw [if_pos ⟨trivial, trivial, h0, by omega⟩]

theorem Sl.vload (hs : Sl h v cs) {j : Nat} (hj : j < cs.length) : vload false 1 h (vptr v j) = some cs[j] := by
  rcases hs.inv with ⟨rfl, rfl⟩ | ⟨rfl, rfl⟩ | ⟨a, n, tot, o, rfl, ho, hz, ht, hle, hn, hg⟩
  · simp at hj
  · simp at hj
  · have h1 := hg j (by omega)
    rw [List.getElem?_eq_getElem hj] at h1
    have h2 : a.off + j < o.cells.length := by omega
    have h3 : (o.cells.drop (a.off + j)).take 1 = [cs[j]] := by
      rw [List.getElem?_eq_getElem h2, Option.some.injEq] at h1
      rw [List.drop_eq_getElem_cons h2, h1]
      rfl
    simp only [vptr, Zv.vload, vget, ho]
    rw [if_pos ⟨by simp [ht], by omega⟩, h3]
    rfl

theorem Sl.vlive (hs : Sl h v cs) {j : Nat} (hj : j < cs.length) : ∃ a, vptr v j = .pointer (some a) ∧ vlive h a = true := by
  rcases hs.inv with ⟨rfl, rfl⟩ | ⟨rfl, rfl⟩ | ⟨a, n, tot, o, rfl, ho, hz, ht, hle, hn, hg⟩
  · simp at hj
  · simp at hj
  · exact ⟨_, rfl, by simp [ho, ht]⟩

/-! with more above the heap, as simp needs them -/
variable {L : VH}
theorem Sl.vlen' (hs : Sl h v cs) : Zv.vlen (h ++ L) v = some (.int .i64 cs.length, h ++ L) := (hs.app _).vlen
theorem Sl.vidx' (hs : Sl h v cs) {k : IntKind} {j : Int} (h0 : 0 ≤ j) (hj : j < cs.length) : Zv.vidx 1 (h ++ L) v (.int k j) = some (vptr v j.toNat, h ++ L) := (hs.app _).vidx h0 hj
theorem Sl.vload' (hs : Sl h v cs) {j : Nat} (hj : j < cs.length) : Zv.vload false 1 (h ++ L) (vptr v j) = some cs[j] := (hs.app _).vload hj
end

/-! ### slices of integers -/
def Sli (h : VH) (v : Value) (xs : List Int) : Prop := Sl h v (ints xs)
section
variable {h : VH} {v : Value} {xs : List Int}
theorem Sli.app (hs : Sli h v xs) (L : VH) : Sli (h ++ L) v xs := Sl.app hs L
theorem Sli.old (hs : Sli h v xs) : Old h.length v := Sl.old hs
theorem Sli.oldk (hs : Sli h v xs) {k : Nat} : Old (h.length + k) v := hs.old.le (Nat.le_add_right _ _)
theorem Sli.vlen (hs : Sli h v xs) : Zv.vlen h v = some (.int .i64 xs.length, h) := by rw [Sl.vlen hs, ints_length]
theorem Sli.vidx (hs : Sli h v xs) {k : IntKind} {j : Int} (h0 : 0 ≤ j) (hj : j < xs.length) : Zv.vidx 1 h v (.int k j) = some (vptr v j.toNat, h) := Sl.vidx hs h0 (by rw [ints_length]; exact hj)
theorem Sli.vload (hs : Sli h v xs) {j : Nat} (hj : j < xs.length) : Zv.vload false 1 h (vptr v j) = some (.int .i64 xs[j]) := by
  rw [Sl.vload hs (by rw [ints_length]; exact hj)]
  simp [ints]
variable {L : VH}
theorem Sli.vlen' (hs : Sli h v xs) : Zv.vlen (h ++ L) v = some (.int .i64 xs.length, h ++ L) := (hs.app _).vlen
theorem Sli.vidx' (hs : Sli h v xs) {k : IntKind} {j : Int} (h0 : 0 ≤ j) (hj : j < xs.length) : Zv.vidx 1 (h ++ L) v (.int k j) = some (vptr v j.toNat, h ++ L) := (hs.app _).vidx h0 hj
theorem Sli.vload' (hs : Sli h v xs) {j : Nat} (hj : j < xs.length) : Zv.vload false 1 (h ++ L) (vptr v j) = some (.int .i64 xs[j]) := (hs.app _).vload hj
end

/-! ### the same, as a function: for simp -/
def unint : Value → Int
  | .int _ n => n
  | _ => 0
def unints (cs : List Value) : List Int := cs.map unint
def isI64 : Value → Bool
  | .int .i64 _ => true
  | _ => false
@[simp] theorem unints_ints (xs : List Int) : unints (ints xs) = xs := by simp [unints, ints, unint, Function.comp_def]
@[simp] theorem all_ints (xs : List Int) : (ints xs).all isI64 = true := by simp [ints, isI64]
@[simp] theorem take_ints (xs : List Int) : List.take xs.length (ints xs) = ints xs := List.take_of_length_le (by simp)
theorem ints_unints {cs : List Value} (h : cs.all isI64 = true) : ints (unints cs) = cs := by
  unfold ints unints
  rw [List.map_map]
  have : ∀ v ∈ cs, (Value.int .i64 ∘ unint) v = v := by
    intro v hv
    have := List.all_eq_true.mp h v hv
    unfold isI64 at this
    split at this
    · rfl
    · cases this
  exact (List.map_congr_left this).trans (by simp)

/-- What a slice of integers reads as. -/
def rd (h : VH) (v : Value) : List Int := match vsrc 1 h v with
  | some (cs, _) => unints cs
  | none => []
def isSli (h : VH) (v : Value) : Prop := match vsrc 1 h v with
  | some (cs, n) => cs.length = n ∧ cs.all isI64 = true
  | none => False
theorem isSli.sli {h : VH} {v : Value} (hs : isSli h v) : Sli h v (rd h v) := by
  unfold isSli at hs
  unfold Sli Sl rd
  split at hs
  · rename_i cs n hv
    rw [hv]
    simp only [ints_unints hs.2, hs.1]
  · exact hs.elim
theorem Sli.rd {h : VH} {v : Value} {xs : List Int} (hs : Sli h v xs) : rd h v = xs := by
  unfold Sli Sl at hs
  unfold Zv.rd
  rw [hs]
  exact unints_ints xs
theorem Sli.is {h : VH} {v : Value} {xs : List Int} (hs : Sli h v xs) : isSli h v := by
  unfold Sli Sl at hs
  unfold isSli
  rw [hs]
  simp
theorem Sli.rd' {h L : VH} {v : Value} {xs : List Int} (hs : Sli h v xs) : Zv.rd (h ++ L) v = xs := (hs.app L).rd
theorem Sli.is' {h L : VH} {v : Value} {xs : List Int} (hs : Sli h v xs) : isSli (h ++ L) v := (hs.app L).is
@[simp] theorem rd_nil (h : VH) : rd h (.slice none 0 0) = [] := by simp [rd, unints]
@[simp] theorem isSli_nil (h : VH) : isSli h (.slice none 0 0) := ⟨rfl, rfl⟩
@[simp] theorem rd_ref (h : VH) (a : Addr) (n tot : Nat) : rd h (.slice (some a) n tot) = match h[a.block]? with
    | some o => if o.sz = 1 ∧ tot = o.cells.length ∧ a.off + n ≤ tot then unints ((o.cells.drop a.off).take n) else []
    | none => [] := by
  unfold rd
  rw [vsrc_ref]
  cases h[a.block]? with
  | none => rfl
  | some o =>
    simp only [Nat.mul_one]
    by_cases hc : o.sz = 1 ∧ tot = o.cells.length ∧ a.off + n ≤ tot
    · rw [if_pos hc, if_pos hc]
    · rw [if_neg hc, if_neg hc]
@[simp] theorem isSli_ref (h : VH) (a : Addr) (n tot : Nat) : isSli h (.slice (some a) n tot) ↔ match h[a.block]? with
    | some o => o.sz = 1 ∧ tot = o.cells.length ∧ a.off + n ≤ tot ∧ ((o.cells.drop a.off).take n).all isI64 = true
    | none => False := by
  unfold isSli
  rw [vsrc_ref]
  cases h[a.block]? with
  | none => exact Iff.rfl
  | some o =>
    simp only [Nat.mul_one]
    by_cases hc : o.sz = 1 ∧ tot = o.cells.length ∧ a.off + n ≤ tot
    · have : ((o.cells.drop a.off).take n).length = n := by simp; omega
      rw [if_pos hc]
      simp [hc, this]
      intro _
      omega
    · rw [if_neg hc]
      constructor
      · exact False.elim
      · rintro ⟨h1, h2, h3, _⟩; exact hc ⟨h1, h2, h3⟩
end Go.Proofs.Ytcdcmaakcldniaa.Zv

/- At a function's end: one fresh object is handed out. -/
namespace Go.Proofs.Ytcdcmaakcldniaa.Zv
open Go

theorem cleanup_one {h L : VH} {v : Value} {k : Nat} {o : VO} (hv : trefs v = [h.length + k]) (hk : L[k]? = some o) (hf : flatO h.length o) :
    kclean h [v] (h ++ L) = ([tren (renOf h.length [h.length + k]) v], h ++ [o]) := by
  have e : keepL h.length [v] = [h.length + k] := by
    unfold keepL
    simp [hv, dedup]
  have hg : (h ++ L)[h.length + k]? = some o := by rw [hgetk]; exact hk
  rw [cleanup_keep e fun i hi => ⟨o, ?_, hf⟩]
  · simp [hk]
  · simp only [List.mem_singleton] at hi
    rw [hi]
    exact hg
theorem renOf_one (n k : Nat) : renOf n [n + k] (n + k) = n := by simp [renOf]; omega
theorem renOf_one0 (n : Nat) : renOf n [n] n = n := by simp [renOf]
@[simp] theorem clean_slk (h L : VH) (k : Nat) (off n t : Nat) (hk : k < L.length) (hf : flatO h.length (L.getD k ⟨0, []⟩)) :
    kclean h [.slice (some ⟨h.length + k, off, none⟩) n t] (h ++ L) = ([.slice (some ⟨h.length, off, none⟩) n t], h ++ [L.getD k ⟨0, []⟩]) := by
  rw [cleanup_one (k := k) (o := L.getD k ⟨0, []⟩) (by simp [trefs, vrefs, crefs, arefs]) (by simp [List.getD_eq_getElem?_getD, hk]) hf]
  simp [tren, vren, cren, aren, renOf_one]
@[simp] theorem clean_sl0 (h L : VH) (off n t : Nat) (o : VO) (hf : flatO h.length o) :
    kclean h [.slice (some ⟨h.length, off, none⟩) n t] (h ++ o :: L) = ([.slice (some ⟨h.length, off, none⟩) n t], h ++ [o]) := by
  rw [cleanup_one (k := 0) (o := o) (by simp [trefs, vrefs, crefs, arefs]) (by simp) hf]
  simp [tren, vren, cren, aren, renOf_one0]
@[simp] theorem clean_aggk (h L : VH) (k : Nat) (off n t : Nat) (k1 : IntKind) (x : Int) (hk : k < L.length) (hf : flatO h.length (L.getD k ⟨0, []⟩)) :
    kclean h [.agg #[.int k1 x, .slice (some ⟨h.length + k, off, none⟩) n t]] (h ++ L) = ([.agg #[.int k1 x, .slice (some ⟨h.length, off, none⟩) n t]], h ++ [L.getD k ⟨0, []⟩]) := by
  rw [cleanup_one (k := k) (o := L.getD k ⟨0, []⟩) (by simp [trefs, vrefs, crefs, arefs]) (by simp [List.getD_eq_getElem?_getD, hk]) hf]
  simp [tren, vren, cren, aren, renOf_one]
@[simp] theorem clean_agg0 (h L : VH) (off n t : Nat) (k1 : IntKind) (x : Int) (o : VO) (hf : flatO h.length o) :
    kclean h [.agg #[.int k1 x, .slice (some ⟨h.length, off, none⟩) n t]] (h ++ o :: L) = ([.agg #[.int k1 x, .slice (some ⟨h.length, off, none⟩) n t]], h ++ [o]) := by
  rw [cleanup_one (k := 0) (o := o) (by simp [trefs, vrefs, crefs, arefs]) (by simp) hf]
  simp [tren, vren, cren, aren, renOf_one0]
@[simp] theorem clean_taggk (h L : VH) (k : Nat) (off n t : Nat) (k1 : IntKind) (x : Int) (k2 : IntKind) (y : Int) (hk : k < L.length) (hf : flatO h.length (L.getD k ⟨0, []⟩)) :
    kclean h [.tuple #[.agg #[.int k1 x, .slice (some ⟨h.length + k, off, none⟩) n t], .int k2 y]] (h ++ L) = ([.tuple #[.agg #[.int k1 x, .slice (some ⟨h.length, off, none⟩) n t], .int k2 y]], h ++ [L.getD k ⟨0, []⟩]) := by
  rw [cleanup_one (k := k) (o := L.getD k ⟨0, []⟩) (by simp [trefs, vrefs, crefs, arefs]) (by simp [List.getD_eq_getElem?_getD, hk]) hf]
  simp [tren, vren, cren, aren, renOf_one]
@[simp] theorem clean_tagg0 (h L : VH) (off n t : Nat) (k1 : IntKind) (x : Int) (k2 : IntKind) (y : Int) (o : VO) (hf : flatO h.length o) :
    kclean h [.tuple #[.agg #[.int k1 x, .slice (some ⟨h.length, off, none⟩) n t], .int k2 y]] (h ++ o :: L) = ([.tuple #[.agg #[.int k1 x, .slice (some ⟨h.length, off, none⟩) n t], .int k2 y]], h ++ [o]) := by
  rw [cleanup_one (k := 0) (o := o) (by simp [trefs, vrefs, crefs, arefs]) (by simp) hf]
  simp [tren, vren, cren, aren, renOf_one0]
@[simp] theorem clean_tslk (h L : VH) (k : Nat) (off n t : Nat) (k2 : IntKind) (y : Int) (hk : k < L.length) (hf : flatO h.length (L.getD k ⟨0, []⟩)) :
    kclean h [.tuple #[.slice (some ⟨h.length + k, off, none⟩) n t, .int k2 y]] (h ++ L) = ([.tuple #[.slice (some ⟨h.length, off, none⟩) n t, .int k2 y]], h ++ [L.getD k ⟨0, []⟩]) := by
  rw [cleanup_one (k := k) (o := L.getD k ⟨0, []⟩) (by simp [trefs, vrefs, crefs, arefs]) (by simp [List.getD_eq_getElem?_getD, hk]) hf]
  simp [tren, vren, cren, aren, renOf_one]
@[simp] theorem clean_tsl0 (h L : VH) (off n t : Nat) (k2 : IntKind) (y : Int) (o : VO) (hf : flatO h.length o) :
    kclean h [.tuple #[.slice (some ⟨h.length, off, none⟩) n t, .int k2 y]] (h ++ o :: L) = ([.tuple #[.slice (some ⟨h.length, off, none⟩) n t, .int k2 y]], h ++ [o]) := by
  rw [cleanup_one (k := 0) (o := o) (by simp [trefs, vrefs, crefs, arefs]) (by simp) hf]
  simp [tren, vren, cren, aren, renOf_one0]
@[simp] theorem clean_tslbk (h L : VH) (k : Nat) (off n t : Nat) (y2 : Bool) (hk : k < L.length) (hf : flatO h.length (L.getD k ⟨0, []⟩)) :
    kclean h [.tuple #[.slice (some ⟨h.length + k, off, none⟩) n t, .bool y2]] (h ++ L) = ([.tuple #[.slice (some ⟨h.length, off, none⟩) n t, .bool y2]], h ++ [L.getD k ⟨0, []⟩]) := by
  rw [cleanup_one (k := k) (o := L.getD k ⟨0, []⟩) (by simp [trefs, vrefs, crefs, arefs]) (by simp [List.getD_eq_getElem?_getD, hk]) hf]
  simp [tren, vren, cren, aren, renOf_one]
@[simp] theorem clean_tslb0 (h L : VH) (off n t : Nat) (y2 : Bool) (o : VO) (hf : flatO h.length o) :
    kclean h [.tuple #[.slice (some ⟨h.length, off, none⟩) n t, .bool y2]] (h ++ o :: L) = ([.tuple #[.slice (some ⟨h.length, off, none⟩) n t, .bool y2]], h ++ [o]) := by
  rw [cleanup_one (k := 0) (o := o) (by simp [trefs, vrefs, crefs, arefs]) (by simp) hf]
  simp [tren, vren, cren, aren, renOf_one0]
@[simp] theorem clean_taggbk (h L : VH) (k : Nat) (off n t : Nat) (k1 : IntKind) (x : Int) (y2 : Bool) (hk : k < L.length) (hf : flatO h.length (L.getD k ⟨0, []⟩)) :
    kclean h [.tuple #[.agg #[.int k1 x, .slice (some ⟨h.length + k, off, none⟩) n t], .bool y2]] (h ++ L) = ([.tuple #[.agg #[.int k1 x, .slice (some ⟨h.length, off, none⟩) n t], .bool y2]], h ++ [L.getD k ⟨0, []⟩]) := by
  rw [cleanup_one (k := k) (o := L.getD k ⟨0, []⟩) (by simp [trefs, vrefs, crefs, arefs]) (by simp [List.getD_eq_getElem?_getD, hk]) hf]
  simp [tren, vren, cren, aren, renOf_one]
@[simp] theorem clean_taggb0 (h L : VH) (off n t : Nat) (k1 : IntKind) (x : Int) (y2 : Bool) (o : VO) (hf : flatO h.length o) :
    kclean h [.tuple #[.agg #[.int k1 x, .slice (some ⟨h.length, off, none⟩) n t], .bool y2]] (h ++ o :: L) = ([.tuple #[.agg #[.int k1 x, .slice (some ⟨h.length, off, none⟩) n t], .bool y2]], h ++ [o]) := by
  rw [cleanup_one (k := 0) (o := o) (by simp [trefs, vrefs, crefs, arefs]) (by simp) hf]
  simp [tren, vren, cren, aren, renOf_one0]
@[simp] theorem old_agg2 (n : Nat) (k : IntKind) (x : Int) (s : Value) (hs : isAtom s = true) : Old n (.agg #[.int k x, s]) ↔ Old n s := by
  unfold Old trefs vrefs
  cases s <;> simp_all [crefs, arefs, isAtom]

/-! ### objects that were changed in place -/
def Upd (h h' : VH) : Prop := h'.length = h.length ∧ okT h.length h h'
theorem Upd.rfl' (h : VH) : Upd h h := ⟨rfl, fun _ _ ho => .inl ho⟩
theorem Upd.set' {h h' : VH} (hu : Upd h h') {b : Nat} {o : VO} (ho : flatO h.length o) : Upd h (h'.set b o) := by
  refine ⟨by rw [List.length_set]; exact hu.1, fun i p hp => ?_⟩
  rw [List.getElem?_set] at hp
  split at hp
  · split at hp
    · cases hp; exact .inr ho
    · cases hp
  · exact hu.2 i p hp
@[simp] theorem upd_rfl (h : VH) : Upd h h := Upd.rfl' h
@[simp] theorem upd_set (h : VH) (b k : Nat) (xs : List Int) : Upd h (h.set b ⟨k, ints xs⟩) := (Upd.rfl' h).set' (flatO_ints _ _ _)
theorem cleanup_upd {h h' L : VH} {vs : List Value} (hu : Upd h h') (hv : ∀ v ∈ vs, Old h.length v) : kclean h vs (h' ++ L) = (vs, h') := by
  have htake : (h' ++ L).take h.length = h' := by rw [← hu.1]; simp
  have hc : okT h.length h ((h' ++ L).take h.length) ∧ flatL h.length [] (h' ++ L) := by
    refine ⟨?_, fun i hi => by cases hi⟩
    rw [htake]
    exact hu.2
  unfold kclean cleanup
  rw [keepL_nil hv, if_pos hc, htake]
  simp only [List.filterMap_nil, List.append_nil, Prod.mk.injEq, and_true]
  have : ∀ v ∈ vs, tren (renOf h.length []) v = v := fun v h => tren_old (hv v h) fun i hi => by simp only [renOf, if_pos hi]
  exact (List.map_congr_left this).trans (by simp)
@[simp] theorem cleanup_set {h L : VH} {b k : Nat} {xs : List Int} {vs : List Value} (hv : ∀ v ∈ vs, Old h.length v) : kclean h vs (h.set b ⟨k, ints xs⟩ ++ L) = (vs, h.set b ⟨k, ints xs⟩) := cleanup_upd (upd_set h b k xs) hv
@[simp] theorem cleanup_set0 {h : VH} {b k : Nat} {xs : List Int} {vs : List Value} (hv : ∀ v ∈ vs, Old h.length v) : kclean h vs (h.set b ⟨k, ints xs⟩) = (vs, h.set b ⟨k, ints xs⟩) := by
  have := cleanup_set (h := h) (L := []) (b := b) (k := k) (xs := xs) hv
  simpa using this
/-! ### objects whose cells are written out -/
@[simp] theorem flatO_nil (n k : Nat) : flatO n ⟨k, []⟩ := fun r hr => by simp [orefs] at hr
@[simp] theorem flatO_cons (n k : Nat) (v : Value) (cs : List Value) : flatO n ⟨k, v :: cs⟩ ↔ OldC n v ∧ flatO n ⟨k, cs⟩ := by
  unfold flatO OldC orefs
  simp only [List.flatMap_cons, List.mem_append]
  exact ⟨fun h => ⟨fun r hr => h r (.inl hr), fun r hr => h r (.inr hr)⟩, fun h r hr => hr.elim (h.1 r) (h.2 r)⟩
@[simp] theorem oldC_int (n : Nat) (k : IntKind) (i : Int) : OldC n (.int k i) := fun r hr => by simp [crefs, arefs] at hr
@[simp] theorem oldC_bool (n : Nat) (b : Bool) : OldC n (.bool b) := fun r hr => by simp [crefs, arefs] at hr
@[simp] theorem oldC_str (n : Nat) (b : ByteArray) : OldC n (.string b) := fun r hr => by simp [crefs, arefs] at hr
@[simp] theorem oldC_slN (n a b : Nat) : OldC n (.slice none a b) := fun r hr => by simp [crefs, arefs] at hr
@[simp] theorem oldC_ptrN (n : Nat) : OldC n (.pointer none) := fun r hr => by simp [crefs, arefs] at hr
@[simp] theorem oldC_nilF (n : Nat) : OldC n .nilFunc := fun r hr => by simp [crefs, arefs] at hr
@[simp] theorem oldC_sl (n : Nat) (a : Addr) (k t : Nat) : OldC n (.slice (some a) k t) ↔ a.block < n := by simp [OldC, crefs, arefs]
@[simp] theorem oldC_ptr (n : Nat) (a : Addr) : OldC n (.pointer (some a)) ↔ a.block < n := by simp [OldC, crefs, arefs]
theorem OldC.le {n m : Nat} {v : Value} (h : OldC n v) (hm : n ≤ m) : OldC m v := fun r hr => Nat.lt_of_lt_of_le (h r hr) hm
theorem Sl.oldC {h : VH} {v : Value} {cs : List Value} (hs : Sl h v cs) : OldC h.length v := by
  rcases hs.inv with ⟨rfl, _⟩ | ⟨rfl, _⟩ | ⟨a, n, tot, o, rfl, ho, _⟩
  · simp
  · simp
  · rw [oldC_sl]; exact (List.getElem?_eq_some_iff.mp ho).1
theorem Sli.oldCk {h : VH} {v : Value} {xs : List Int} (hs : Sli h v xs) {k : Nat} : OldC (h.length + k) v := (Sl.oldC hs).le (Nat.le_add_right _ _)

@[simp] theorem old_tagg_nil (n : Nat) (k k2 : IntKind) (x y : Int) (a b : Nat) : Old n (.tuple #[.agg #[.int k x, .slice none a b], .int k2 y]) := by
  intro r hr
  simp [trefs, vrefs, crefs, arefs] at hr
@[simp] theorem old_agg_nil (n : Nat) (k : IntKind) (x : Int) (a b : Nat) : Old n (.agg #[.int k x, .slice none a b]) := by
  intro r hr
  simp [trefs, vrefs, crefs, arefs] at hr
@[simp] theorem old_tsl_nil (n : Nat) (k : IntKind) (x : Int) (a b : Nat) : Old n (.tuple #[.slice none a b, .int k x]) := by
  intro r hr
  simp [trefs, vrefs, crefs, arefs] at hr
@[simp] theorem old_tup2 (k : Nat) (a b : Value) (ha : ∀ vs, a ≠ .tuple vs) (hb : ∀ vs, b ≠ .tuple vs) : Old k (.tuple #[a, b]) ↔ Old k a ∧ Old k b := by
  have e : ∀ v : Value, (∀ vs, v ≠ .tuple vs) → trefs v = vrefs v := by
    intro v hv
    unfold trefs
    split
    · exact absurd rfl (hv _)
    · rfl
  unfold Old
  rw [e a ha, e b hb]
  simp only [trefs, List.flatMap_cons, List.flatMap_nil, List.append_nil, List.mem_append]
  exact ⟨fun h => ⟨fun r hr => h r (.inl hr), fun r hr => h r (.inr hr)⟩, fun h r hr => hr.elim (h.1 r) (h.2 r)⟩

end Go.Proofs.Ytcdcmaakcldniaa.Zv

/- A row's arguments: what they are to the virtual interpreter; and a law that it tells true. -/
namespace Go.Proofs.Ytcdcmaakcldniaa.Zv
open Go Go.ChangeShapes Go.WideShapes Go.ChangeAt Go.RowKit

/-- What is known of a slice of integers that came in. -/
def IsRow (k : IntKind) (w : World) (a : Option Addr) (len cap : Nat) (zs : List Int) : Prop :=
  (a = none ∧ len = 0 ∧ cap = 0 ∧ zs = []) ∨
  ∃ x, a = some x ∧ len ≤ cap ∧ cap ≤ maxLen ∧ zs.length = cap ∧ (∀ i, i < zs.length → w.cell? (x.add i) = some (.int k (zs.getD i 0))) ∧ ∀ n ∈ zs, (Lit.int k n).wf = true

theorem IsRow.of {H : Type} {enc : TypeId × Value → H} {P : Program} {W : World} {held : Bool} {t e : TypeId} {k : IntKind} {fuel : Nat} {v : Value} {x : DataW H × List MemPlace} (ht : P.underlying t = some (.slice e)) (he : P.underlying e = some (.int k)) (hc : P.cellsOf e = 1)
    (h : DataW.trod enc P W 0 (fun _ => true) held fuel t [v] = some x) : ∃ a len cap zs, v = .slice a len cap ∧ IsRow k W a len cap zs := by
  rcases open_ints ht he hc h with ⟨hcs, _⟩ | ⟨x, l, c, zs, hcs, _, hl, hm, hz, _, hcell, hwz⟩
  · simp at hcs
    exact ⟨none, 0, 0, [], hcs, .inl ⟨rfl, rfl, rfl, rfl⟩⟩
  · simp at hcs
    exact ⟨some x, l, c, zs, hcs, .inr ⟨x, rfl, hl, hm, by simpa using hz, hcell, hwz⟩⟩

/-- Arguments so far: all objects are read alone. -/
def RA (φ : Em) (h : VH) (W : World) : Prop := RH h.length φ (VH.ph h) W
theorem RA.nil (W : World) (hg : ∀ b C, globTab b = some C → ∃ ty fz, W.heap[b]? = some (.cells C ty fz)) : RA (fun _ => ⟨0, 0, 0⟩) [] W :=
  ⟨fun i o h => by simp [VH.ph] at h, fun i j h => by simp [VH.ph] at h, fun b C hb => ⟨hg b C hb, fun i h => by simp [VH.ph] at h⟩⟩

theorem Grow.refl (φ : Em) (L : PH) : Grow φ L φ L := fun _ o h => ⟨o, h, rfl, Nat.le_refl _, fun _ => rfl⟩

theorem RA.slice {k : IntKind} {φ : Em} {h : VH} {W : World} {a : Option Addr} {len cap : Nat} {zs : List Int} (hR : RA φ h W) (hr : IsRow k W a len cap zs) :
    ∃ φ' L v, RA φ' (h ++ L) W ∧ Grow φ (VH.ph h) φ' (VH.ph (h ++ L)) ∧ AtomR φ' (VH.ph (h ++ L)) v (.slice a len cap) ∧ Sl (h ++ L) v ((zs.take len).map (.int k)) := by
  rcases hr with ⟨rfl, rfl, rfl, rfl⟩ | ⟨x, rfl, hl, hm, hz, hcell, hw⟩
  · exact ⟨φ, [], .slice none 0 0, by simpa using hR, by simpa using Grow.refl _ _, .slN, rfl⟩
  · by_cases h0 : len = 0
    · subst h0
      exact ⟨φ, [], .slice none 0 1, by simpa using hR, by simpa using Grow.refl _ _, .slE x cap, by simp [Sl, vsrc]⟩
    · have hlen : len ≤ zs.length := by omega
      have hspot : x.spot = none := by
        have := World.cell?_spot (hcell 0 (by omega))
        simpa [Addr.add] using this
      -- the cells lie in a block
      have hcl : ∀ j, j < zs.length → ∃ C ty fz, W.heap[x.block]? = some (.cells C ty fz) ∧ C[x.off + j]? = some (.int k (zs.getD j 0)) := by
        intro j hj
        have h1 := hcell j hj
        unfold World.cell? at h1
        have hb : (x.add j).block = x.block := by unfold Addr.add; split <;> rfl
        have ho : (x.add j).off = x.off + j := by
          unfold Addr.add
          split
          · rename_i h; subst h; rfl
          · rfl
        rw [hb] at h1
        split at h1
        · rename_i C ty fz hC
          split at h1
          · cases h1
          · rw [ho] at h1
            exact ⟨C, ty, fz, hC, h1⟩
        · cases h1
      let φ' : Em := fun i => if i = h.length then ⟨x.block, x.off, cap⟩ else φ i
      let ob : VO := ⟨1, (zs.take len).map (.int k)⟩
      have hlook : ∀ i o, VH.ph (h ++ [ob]) i = some o → (i < h.length ∧ VH.ph h i = some o) ∨ (i = h.length ∧ o = ob) := by
        intro i o hi
        simp only [VH.ph] at hi ⊢
        rcases Nat.lt_trichotomy i h.length with hlt | e | hgt
        · left
          rw [List.getElem?_append_left hlt] at hi
          exact ⟨hlt, hi⟩
        · right
          subst e
          rw [hget0] at hi
          simp at hi
          exact ⟨rfl, hi.symm⟩
        · rw [List.getElem?_append_right (by omega)] at hi
          rw [List.getElem?_eq_none (by simp; omega)] at hi
          cases hi
      have hg : Grow φ (VH.ph h) φ' (VH.ph (h ++ [ob])) := by
        intro i o hi
        have hlt : i < h.length := (List.getElem?_eq_some_iff.mp hi).1
        refine ⟨o, ?_, rfl, Nat.le_refl _, fun _ => ?_⟩
        · simp only [VH.ph] at hi ⊢
          rw [List.getElem?_append_left hlt]; exact hi
        · simp only [φ']; rw [if_neg (by omega)]
      refine ⟨φ', [ob], .slice (some ⟨h.length, 0, none⟩) len len, ?_, hg, ?_, ?_⟩
      · refine ⟨fun i o hi => ?_, fun i j hi _ hn => ?_, fun b C hb => ⟨(hR.glob b C hb).1, fun i hi hn => ?_⟩⟩
        · rcases hlook i o hi with ⟨hlt, hi'⟩ | ⟨rfl, rfl⟩
          · obtain ⟨C, ty, fz, h1, h2, _⟩ := hR.cells i o hi'
            have e : φ' i = φ i := by simp only [φ']; rw [if_neg (by omega)]
            rw [e]
            refine ⟨C, ty, fz, h1, fun j v hj => ?_, fun hn => by simp at hn; omega⟩
            obtain ⟨v', h3, h4⟩ := h2 j v hj
            exact ⟨v', h3, h4.grow hg⟩
          · obtain ⟨C, ty, fz, h1, _⟩ := hcl 0 (by omega)
            have e : φ' h.length = ⟨x.block, x.off, cap⟩ := by simp [φ']
            rw [e]
            refine ⟨C, ty, fz, h1, fun j v hj => ?_, fun hn => by simp at hn⟩
            simp only [ob, List.getElem?_map] at hj
            have hjl : j < len := by
              rcases Nat.lt_or_ge j len with h' | h'
              · exact h'
              · rw [List.getElem?_eq_none (by simp; omega)] at hj; cases hj
            obtain ⟨C', ty', fz', h1', h2'⟩ := hcl j (by omega)
            rw [h1] at h1'
            simp only [Option.some.injEq, Obj.cells.injEq] at h1'
            obtain ⟨rfl, _, _⟩ := h1'
            refine ⟨_, h2', ?_⟩
            rw [List.getElem?_take, if_pos hjl, List.getElem?_eq_getElem (by omega)] at hj
            simp only [Option.map_some, Option.some.injEq] at hj
            subst hj
            rw [List.getD_eq_getElem?_getD, List.getElem?_eq_getElem (by omega)]
            exact .atom (.int _ _)
        · exfalso
          have : i < (h ++ [ob]).length := by
            simp only [VH.ph] at hi
            rcases Nat.lt_or_ge i (h ++ [ob]).length with h' | h'
            · exact h'
            · rw [List.getElem?_eq_none h'] at hi; cases hi
          omega
        · exfalso
          have : i < (h ++ [ob]).length := by
            simp only [VH.ph] at hi
            rcases Nat.lt_or_ge i (h ++ [ob]).length with h' | h'
            · exact h'
            · rw [List.getElem?_eq_none h'] at hi; cases hi
          omega
      · have hL : VH.ph (h ++ [ob]) h.length = some ob := by simp [VH.ph]
        have e : φ' h.length = ⟨x.block, x.off, cap⟩ := by simp [φ']
        refine .sl (c := cap) hL (by simp [ob]; omega) (by simp [ob]) (by simp [ob]) hl (by rw [e]; simp [ob]) (.inr ?_)
        rw [e]
        obtain ⟨b, off, sp⟩ := x
        simp at hspot ⊢
        exact hspot
      · simp only [Sl, vsrc_ref, hget0, ob]
        have e : (List.map (Value.int k) (List.take len zs)).length = len := by simp; omega
        simp only [List.getElem?_cons_zero, e, Nat.zero_add, Nat.mul_one, List.drop_zero, Nat.le_refl, and_self, if_true]
        rw [List.take_of_length_le (by omega)]

/-- A law that the virtual interpreter tells true is true. -/
theorem law_true {P : Program} {call : VCall} {f : Nat} {φ : Em} {h : VH} {W : World} {vs : List Value} {vs' : List Value} (hS : CallSound P h.length call) (hR : RA φ h W) (ha : All2 (TopR φ (VH.ph h)) vs vs') {h' : VH}
    (hc : call f vs h = some (.bool true, h')) : Calls P f vs'.toArray W fun e W' => e = .returned (.bool true) ∧ Below W.heap.size W W' := by
  obtain ⟨_, hcalls⟩ := hS f vs h _ _ hc φ W vs' (Nat.le_refl _) hR ha
  refine hcalls.mono fun e W' ⟨φ', v', he, _, hX, hv⟩ => ?_
  have hb := hv.inv_bool
  subst hb
  refine ⟨he, hX.rest.1, hX.rest.2.1, hX.rest.2.2, hX.size, fun b hb => hX.frame b hb fun i hi hn => ?_⟩
  exfalso
  simp only [VH.ph] at hi
  rw [List.getElem?_eq_none hn] at hi
  cases hi
end Go.Proofs.Ytcdcmaakcldniaa.Zv

/- A row's arguments, opened: graphs, lists, numbers, desks. -/
namespace Go.Proofs.Ytcdcmaakcldniaa.Zv
open Go Go.ChangeShapes Go.WideShapes Go.ChangeAt Go.RowKit

/-- A row is well-formed: its numbers are 64-bit numbers. -/
theorem IsRow.len {k : IntKind} {W : World} {a : Option Addr} {len cap : Nat} {zs : List Int} (h : IsRow k W a len cap zs) : (zs.take len).length ≤ 9223372036854775807 := by
  rcases h with ⟨_, _, _, rfl⟩ | ⟨x, _, hl, hm, hz, _⟩
  · simp
  · have : maxLen = 9223372036854775807 := rfl
    simp; omega

variable {H : Type} {enc : TypeId × Value → H} {P : Program} {W : World} {held : Bool}

theorem in_list {t e : TypeId} {base : Nat} {v : Value} {d : DataW H} {p : List MemPlace} (ht : P.underlying t = some (.slice e)) (he : P.underlying e = some (.int .i64)) (hc : P.cellsOf e = 1) (hv : Value.okWide P W .any base t v) (h : DataW.Trod enc P W 0 (fun _ => true) held t v d p) :
    ∃ a len cap zs, v = .slice a len cap ∧ IsRow .i64 W a len cap zs := by
  obtain ⟨a2, l2, cp2, rfl⟩ := okWide_slice ht hv
  obtain ⟨m1, hm1⟩ := h
  obtain ⟨a2', l2', cp2', z2, e2, w2⟩ := IsRow.of ht he hc (v := .slice a2 l2 cp2) (by simpa [Value.cells] using hm1)
  exact ⟨_, _, _, z2, e2, w2⟩

theorem in_graph {t e : TypeId} {f0 f1 : Field} {base : Nat} {v : Value} {d : DataW H} {p : List MemPlace} (hs : P.underlying t = some (.struct #[f0, f1])) (hone : Deep.oneCellFields P #[f0, f1] = true) (hC : P.cellsOf t = 2)
    (h0 : P.underlying f0.type = some (.int .i64)) (h1 : P.underlying f1.type = some (.slice e)) (he : P.underlying e = some (.int .i64)) (hc : P.cellsOf e = 1) (hv : Value.okWide P W .any base t v) (h : DataW.Trod enc P W 0 (fun _ => true) held t v d p) :
    ∃ n a len cap zs, v = .agg #[.int .i64 n, .slice a len cap] ∧ IsRow .i64 W a len cap zs := by
  obtain ⟨c0, c1, y0, y1, m, rfl, rfl, rfl, t0, t1⟩ := Joins.open_agg2 hs hone hC hv h
  obtain ⟨a0, e0, _, _⟩ := DataW.trod_int h0 t0
  simp at e0
  subst e0
  obtain ⟨a1, l1, cp1, z1, rfl, w1⟩ := IsRow.of h1 he hc t1
  exact ⟨_, _, _, _, _, rfl, w1⟩

end Go.Proofs.Ytcdcmaakcldniaa.Zv

/- What all rows of the seat share. -/
namespace Go.Proofs.Ytcdcmaakcldniaa.Zv
open Go Go.ChangeShapes Go.WideShapes Go.ChangeAt Go.RowKit
open Go.Proofs.Ytcdcmaakcldniaa

theorem own : ownKnob Try.prog.godebug = none := by kernel_rfl
theorem laidOut : laidOutB Try.prog = true := by kernel_rfl
theorem mixed : Try.prog.follows .mixedOrders = true := by kernel_rfl

theorem F_ir : ∀ f fn, F f = some (.ir fn) → EntOK Try.prog (compD Try.prog) f fn := by
  intro f fn hf
  unfold F at hf
  cases hl : tab.lookup f with
  | none => rw [hl] at hf; cases hf
  | some g =>
    rw [hl] at hf
    simp only [Option.map_some, Option.some.injEq, Ent.ir.injEq] at hf
    subst hf
    have hm : (f, g) ∈ tab := by
      have h2 : ∀ (l : List (Nat × FF)), l.lookup f = some g → (f, g) ∈ l := by
        intro l
        induction l with
        | nil => intro h; cases h
        | cons p l ih =>
          intro h
          obtain ⟨a, b⟩ := p
          simp only [List.lookup] at h
          split at h
          · rename_i e
            have e2 : f = a := by simpa using e
            cases h
            rw [e2]
            exact .head _
          · exact .tail _ (ih h)
      exact h2 tab hl
    exact tabOK (f, g) hm

theorem F_ext : ∀ f g, F f = some (.ext g) → ∀ nro, ExtOK Try.prog nro f g := by
  intro f g hf
  unfold F at hf
  cases hl : tab.lookup f <;> rw [hl] at hf <;> cases hf

theorem allSound (nro : Nat) : CallSound Try.prog nro (vcall F nro) := sound mixed F F_ir fun f g h => F_ext f g h nro

/-- No table is read. -/
theorem no_glob (W : World) : ∀ b C, globTab b = some C → ∃ ty fz, W.heap[b]? = some (.cells C ty fz) := fun _ _ h => by cases h
end Go.Proofs.Ytcdcmaakcldniaa.Zv

/- Loops that count up, told once. -/
namespace Go.Proofs.Ytcdcmaakcldniaa.Zv
open Go

/-- Folding over i, i + 1, .., n - 1. -/
def upF {α : Type} (f : Nat → α → α) (n i : Nat) (a : α) : α := if i < n then upF f n (i + 1) (f i a) else a
 termination_by n - i
theorem upF_end {α : Type} {f : Nat → α → α} {n i : Nat} {a : α} (h : ¬ i < n) : upF f n i a = a := by rw [upF, if_neg h]
theorem upF_step {α : Type} {f : Nat → α → α} {n i : Nat} {a : α} (h : i < n) : upF f n i a = upF f n (i + 1) (f i a) := by conv => lhs; rw [upF, if_pos h]
theorem upF_inv {α : Type} {f : Nat → α → α} {n : Nat} (I : Nat → α → Prop) (hs : ∀ i a, i < n → I i a → I (i + 1) (f i a)) (i : Nat) (a : α) (hi : i ≤ n) (h : I i a) : I n (upF f n i a) := by
  by_cases hlt : i < n
  · rw [upF_step hlt]
    exact upF_inv I hs (i + 1) (f i a) hlt (hs i a hlt h)
  · rw [upF_end hlt]
    have : i = n := by omega
    rw [← this]; exact h
 termination_by n - i
section
variable {call : VCall} {nro : Nat} {live : List Nat} {c : FC} {h0 : VH} {n : Nat}

/-- A loop that counts up to n. -/
theorem for_up {α : Type} (V : Nat → α → List Value) (H : Nat → α → VH) (f : Nat → α → α) (I : Nat → α → Prop) (R : α → Option (VX × FE × VH))
    (step : ∀ i a, i < n → (i : Int) < n → I i a → I (i + 1) (f i a) ∧ floop call nro live c h0 (V i a) (H i a) = floop call nro live c h0 (V (i + 1) (f i a)) (H (i + 1) (f i a)))
    (stop : ∀ a, I n a → floop call nro live c h0 (V n a) (H n a) = R a) (i : Nat) (a : α) (hi : i ≤ n) (h : I i a) :
    floop call nro live c h0 (V i a) (H i a) = R (upF f n i a) ∧ I n (upF f n i a) := by
  by_cases hlt : i < n
  · obtain ⟨h1, h2⟩ := step i a hlt (by omega) h
    rw [h2, upF_step hlt]
    exact for_up V H f I R step stop (i + 1) (f i a) hlt h1
  · have : i = n := by omega
    subst this
    rw [upF_end hlt]
    exact ⟨stop a h, h⟩
 termination_by n - i

open Classical in
/-- A loop that looks for something bad. -/
theorem for_find (V : Nat → List Value) (h : VH) (bad : Nat → Prop) (r d : Option (VX × FE × VH))
    (step : ∀ i, i < n → (i : Int) < n → (bad i → floop call nro live c h0 (V i) h = r) ∧ (¬ bad i → floop call nro live c h0 (V i) h = floop call nro live c h0 (V (i + 1)) h))
    (stop : floop call nro live c h0 (V n) h = d) (i : Nat) (hi : i ≤ n) :
    floop call nro live c h0 (V i) h = if ∃ j, i ≤ j ∧ j < n ∧ bad j then r else d := by
  by_cases hlt : i < n
  · obtain ⟨h1, h2⟩ := step i hlt (by omega)
    by_cases hb : bad i
    · rw [h1 hb, if_pos ⟨i, Nat.le_refl _, hlt, hb⟩]
    · rw [h2 hb, for_find V h bad r d step stop (i + 1) hlt]
      have : (∃ j, i + 1 ≤ j ∧ j < n ∧ bad j) ↔ ∃ j, i ≤ j ∧ j < n ∧ bad j := by
        constructor
        · rintro ⟨j, h1, h2, h3⟩; exact ⟨j, by omega, h2, h3⟩
        · rintro ⟨j, h1, h2, h3⟩
          refine ⟨j, ?_, h2, h3⟩
          have : j ≠ i := fun e => hb (e ▸ h3)
          omega
      simp only [this]
  · have : i = n := by omega
    subst this
    rw [stop, if_neg]
    rintro ⟨j, h1, h2, _⟩
    omega
 termination_by n - i

end
end Go.Proofs.Ytcdcmaakcldniaa.Zv

/- What the laws' own small functions compute. -/
namespace Go.Proofs.Ytcdcmaakcldniaa.Zv
open Go

open Classical in
/-- A loop that looks for something bad. -/
theorem search {α : Type} (f : Int → α) (bad : Int → Prop) (r d : α) (n lo : Int) (hstep : ∀ i, lo ≤ i → i < n → (bad i → f i = r) ∧ (¬ bad i → f i = f (i + 1))) (hend : ∀ i, lo ≤ i → ¬ i < n → f i = d) (i : Int) (hi : lo ≤ i) :
    f i = if ∃ j, i ≤ j ∧ j < n ∧ bad j then r else d := by
  by_cases hlt : i < n
  · by_cases hb : bad i
    · rw [(hstep i hi hlt).1 hb, if_pos ⟨i, Int.le_refl _, hlt, hb⟩]
    · rw [(hstep i hi hlt).2 hb, search f bad r d n lo hstep hend (i + 1) (by omega)]
      have : (∃ j, i + 1 ≤ j ∧ j < n ∧ bad j) ↔ ∃ j, i ≤ j ∧ j < n ∧ bad j := by
        constructor
        · rintro ⟨j, h1, h2, h3⟩; exact ⟨j, by omega, h2, h3⟩
        · rintro ⟨j, h1, h2, h3⟩
          refine ⟨j, ?_, h2, h3⟩
          have : j ≠ i := fun e => hb (e ▸ h3)
          omega
      simp only [this]
  · rw [hend i hi hlt, if_neg]
    rintro ⟨j, h1, h2, _⟩
    omega
 termination_by (n - i).toNat

theorem getD_at (xs : List Int) {i : Nat} (hi : i < xs.length) : xs.getD i 0 = xs[i] := by
  rw [List.getD_eq_getElem?_getD, List.getElem?_eq_getElem hi]; rfl

variable {nro : Nat}

/-- A graph's value. -/
abbrev gv (n : Int) (s : Value) : Value := .agg #[.int .i64 n, s]

theorem c_laws_szInt64S (s : Value) (xs : List Int) (left : Int) (h : VH) (hs : Sli h s xs) (h1 : 0 ≤ left) (h2 : left ≤ 1048576) (h3 : xs.length ≤ 9223372036854775807) :
    vcall F nro k_laws_szInt64S [s, .int .i64 left] h = some (.int .i64 (if left < xs.length then -1 else left - xs.length), h) := by
  refine v_laws_szInt64S (by simp [i_laws_szInt64S]) ?_
  rw [fbody_eq]
  simp (disch := first | assumption | omega | (simp [*] <;> omega) | fail) [i_laws_szInt64S, hs.vlen, wrap64]
  split <;> split <;> first | rfl | omega

theorem c_laws_szGraph (n : Int) (s : Value) (xs : List Int) (left : Int) (h : VH) (hs : Sli h s xs) (h1 : 0 ≤ left) (h2 : left ≤ 1048576) (h3 : xs.length ≤ 9223372036854775807) :
    vcall F nro k_laws_szGraph [gv n s, .int .i64 left] h = some (.int .i64 (if left < xs.length then -1 else left - xs.length), h) := by
  refine v_laws_szGraph (by simp [i_laws_szGraph]) ?_
  rw [fbody_eq]
  have hc := c_laws_szInt64S (nro := nro) s xs left (h ++ [⟨0, [.int .i64 n, s]⟩]) (hs.app _) h1 h2 h3
  simp (disch := first | assumption | omega | (simp [*] <;> omega) | fail) [i_laws_szGraph, hc]
  by_cases hx : left < xs.length
  · simp [hx]; omega
  · have : ¬ (left - (xs.length : Int) < 0) := by omega
    simp [hx, this]

theorem l_laws_toInt64S (s : Value) (xs : List Int) (h : VH) (hs : Sli h s xs) (h3 : xs.length ≤ 1099511627776) (hn : nro ≤ h.length) (y0 : List Int) (i : Int) (ys : List Int) (h0 : 0 ≤ i) (hi : i ≤ xs.length) (hl : ys.length = xs.length) (hp : ys.take i.toNat = xs.take i.toNat) :
    floop (vcall F nro) nro [0, 3, 4] i_laws_toInt64S_B1 (h ++ [⟨1, ints y0⟩]) [s, .slice (some ⟨h.length, 0, none⟩) xs.length xs.length, .int .i64 i] (h ++ [⟨1, ints ys⟩]) =
      some (.exit 0, fl [(3, .slice (some ⟨h.length, 0, none⟩) xs.length xs.length)], h ++ [⟨1, ints xs⟩]) := by
  have hso := fun k => hs.oldk (k := k)
  rw [floop_at i_laws_toInt64S_B1.eq_1]
  by_cases hlt : i < xs.length
  · simp (disch := first | assumption | omega | (simp [*] <;> omega) | fail) [hs.vlen', hs.vidx', hs.vload', wrap64, hlt, splice_ints, hn, hl, h0]
    refine l_laws_toInt64S s xs h hs h3 hn y0 (i + 1) (ys.set i.toNat xs[i.toNat]) (by omega) (by omega) (by simpa using hl) ?_
    rw [show (i + 1).toNat = i.toNat + 1 by omega]
    apply List.ext_getElem?
    intro k
    have := congrArg (·[k]?) hp
    grind
  · have : i = xs.length := by omega
    subst this
    have : ys = xs := by simpa [← hl, List.take_of_length_le] using hp
    simp (disch := first | assumption | omega | (simp [*] <;> omega) | fail) [hs.vlen', hs.vidx', hs.vload', wrap64, this]
 termination_by (xs.length - i).toNat

theorem c_laws_toInt64S (s : Value) (xs : List Int) (h : VH) (hs : Sli h s xs) (h3 : xs.length ≤ 1099511627776) (hn : nro ≤ h.length) :
    vcall F nro k_laws_toInt64S [s] h = some (.slice (some ⟨h.length, 0, none⟩) xs.length xs.length, h ++ [⟨1, ints xs⟩]) := by
  refine v_laws_toInt64S (by simp [i_laws_toInt64S]) ?_
  rw [fbody_eq]
  have hl := l_laws_toInt64S s xs h hs h3 hn (List.replicate xs.length 0) 0 (List.replicate xs.length 0) (by omega) (by omega) (by simp) (by simp)
  simp (disch := first | assumption | omega | (simp [*] <;> omega) | fail) [i_laws_toInt64S, hs.vlen, hl]
  omega

theorem c_laws_toGraph (n : Int) (s : Value) (xs : List Int) (h : VH) (hs : Sli h s xs) (h3 : xs.length ≤ 1099511627776) (hn : nro ≤ h.length) :
    vcall F nro k_laws_toGraph [gv n s] h = some (gv n (.slice (some ⟨h.length, 0, none⟩) xs.length xs.length), h ++ [⟨1, ints xs⟩]) := by
  refine v_laws_toGraph (by simp [i_laws_toGraph]) ?_
  rw [fbody_eq]
  have hc := c_laws_toInt64S (nro := nro) s xs (h ++ [⟨0, [.int .i64 n, s]⟩, ⟨0, [.int .i64 0, .slice none 0 0]⟩, ⟨0, [.int .i64 n, .slice none 0 0]⟩]) (hs.app _) h3 (by simp; omega)
  simp at hc
  have hn' := fun k => Nat.le_trans hn (Nat.le_add_right h.length k)
  simp (disch := first | assumption | omega | (simp [*] <;> omega) | fail) [i_laws_toGraph, hc, splice, fresults, fresL, fres1, hn']

theorem l_laws_eqInt64S (s t : Value) (xs ys : List Int) (h : VH) (hs : Sli h s xs) (ht : Sli h t ys) (h3 : xs.length ≤ 9223372036854775806) (hl : xs.length = ys.length) :
    floop (vcall F nro) nro [0, 1, 5] i_laws_eqInt64S_B1 h [s, t, .int .i64 0] h = if xs = ys then some (.exit 0, fl [], h) else some (.ret, fl [(4, .bool false)], h) := by
  have key := search (fun i => floop (vcall F nro) nro [0, 1, 5] i_laws_eqInt64S_B1 h [s, t, .int .i64 i] h) (fun i => xs.getD i.toNat 0 ≠ ys.getD i.toNat 0) (some (.ret, fl [(4, .bool false)], h)) (some (.exit 0, fl [], h)) xs.length 0 ?_ ?_ 0 (by omega)
  · rw [key]
    by_cases e : xs = ys
    · rw [if_pos e, if_neg]
      rintro ⟨j, _, _, hj⟩
      exact hj (by rw [e])
    · rw [if_neg e, if_pos]
      apply Classical.byContradiction
      intro hno
      apply e
      apply List.ext_getElem hl
      intro k h1 h2
      apply Classical.byContradiction
      intro hne
      exact hno ⟨k, by omega, by omega, by simpa [h1, h2] using hne⟩
  · intro i h0 hi
    have hso := hs.old
    have hto := ht.old
    have e1 : xs.getD i.toNat 0 = xs[i.toNat]'(by omega) := getD_at _ (by omega)
    have e2 : ys.getD i.toNat 0 = ys[i.toNat]'(by omega) := getD_at _ (by omega)
    rw [e1, e2, floop_at i_laws_eqInt64S_B1.eq_1]
    constructor <;> intro hb <;> simp (disch := first | assumption | omega | (simp [*] <;> omega) | fail) [hs.vlen, hs.vidx, hs.vload, ht.vlen, ht.vidx, ht.vload, wrap64, hi, hb]
  · intro i h0 hi
    rw [floop_at i_laws_eqInt64S_B1.eq_1]
    simp (disch := first | assumption | omega | (simp [*] <;> omega) | fail) [hs.vlen, hi]

theorem c_laws_eqInt64S (s t : Value) (xs ys : List Int) (h : VH) (hs : Sli h s xs) (ht : Sli h t ys) (h3 : xs.length ≤ 9223372036854775806) :
    vcall F nro k_laws_eqInt64S [s, t] h = some (.bool (decide (xs = ys)), h) := by
  refine v_laws_eqInt64S (by simp [i_laws_eqInt64S]) ?_
  rw [fbody_eq]
  by_cases hl : xs.length = ys.length
  · simp (disch := first | assumption | omega | (simp [*] <;> omega) | fail) [i_laws_eqInt64S, hs.vlen, ht.vlen, hl, l_laws_eqInt64S s t xs ys h hs ht h3 hl]
    by_cases e : xs = ys <;> simp [e]
  · have hl' : ¬ (xs.length : Int) = ys.length := by omega
    have : xs ≠ ys := fun e => hl (by rw [e])
    simp (disch := first | assumption | omega | (simp [*] <;> omega) | fail) [i_laws_eqInt64S, hs.vlen, ht.vlen, hl', this]

theorem c_laws_eqGraph (n m : Int) (s t : Value) (xs ys : List Int) (h : VH) (hs : Sli h s xs) (ht : Sli h t ys) (h3 : xs.length ≤ 9223372036854775806) :
    vcall F nro k_laws_eqGraph [gv n s, gv m t] h = some (.bool (decide (n = m ∧ xs = ys)), h) := by
  refine v_laws_eqGraph (by simp [i_laws_eqGraph]) ?_
  rw [fbody_eq]
  have hc := c_laws_eqInt64S (nro := nro) s t xs ys (h ++ [⟨0, [.int .i64 n, s]⟩, ⟨0, [.int .i64 m, t]⟩]) (hs.app _) (ht.app _) h3
  simp (disch := first | assumption | omega | (simp [*] <;> omega) | fail) [i_laws_eqGraph, hc]
  by_cases e1 : n = m <;> by_cases e2 : xs = ys <;> simp [e1, e2]

theorem r_laws_toInt64S (s : Value) (h : VH) (hs : isSli h s) (h3 : (rd h s).length ≤ 1099511627776) (hn : nro ≤ h.length) :
    vcall F nro k_laws_toInt64S [s] h = some (.slice (some ⟨h.length, 0, none⟩) (rd h s).length (rd h s).length, h ++ [⟨1, ints (rd h s)⟩]) := c_laws_toInt64S s _ h hs.sli h3 hn
theorem r_laws_toGraph (n : Int) (s : Value) (h : VH) (hs : isSli h s) (h3 : (rd h s).length ≤ 1099511627776) (hn : nro ≤ h.length) :
    vcall F nro k_laws_toGraph [gv n s] h = some (gv n (.slice (some ⟨h.length, 0, none⟩) (rd h s).length (rd h s).length), h ++ [⟨1, ints (rd h s)⟩]) := c_laws_toGraph n s _ h hs.sli h3 hn
theorem r_laws_eqInt64S (s t : Value) (h : VH) (hs : isSli h s) (ht : isSli h t) (h3 : (rd h s).length ≤ 9223372036854775806) :
    vcall F nro k_laws_eqInt64S [s, t] h = some (.bool (decide (rd h s = rd h t)), h) := c_laws_eqInt64S s t _ _ h hs.sli ht.sli h3
theorem r_laws_eqGraph (n m : Int) (s t : Value) (h : VH) (hs : isSli h s) (ht : isSli h t) (h3 : (rd h s).length ≤ 9223372036854775806) :
    vcall F nro k_laws_eqGraph [gv n s, gv m t] h = some (.bool (decide (n = m ∧ rd h s = rd h t)), h) := c_laws_eqGraph n m s t _ _ h hs.sli ht.sli h3
end Go.Proofs.Ytcdcmaakcldniaa.Zv

/- What a graph is, and what the two tests for it compute. -/
namespace Go.Proofs.Ytcdcmaakcldniaa.Zv
open Go
variable {nro : Nat}

/-- Bit w of row v. -/
def rbit (rows : List Int) (v w : Nat) : Bool := (rows.getD v 0).toNat.testBit w

/-- What holds of row v of a graph by itself. -/
def RowOK (n : Int) (rows : List Int) (v : Nat) : Prop := 0 ≤ rows.getD v 0 ∧ rows.getD v 0 < 2 ^ n.toNat ∧ rbit rows v v = false

/-- A graph. -/
structure GV (n : Int) (rows : List Int) : Prop where
  lo : 1 ≤ n
  hi : n ≤ 62
  len : (rows.length : Int) = n
  row : ∀ v, v < rows.length → RowOK n rows v
  sym : ∀ v w, v < rows.length → w < rows.length → rbit rows v w = rbit rows w v

theorem pow_le62 {n : Int} (h : n ≤ 62) : (2 : Int) ^ n.toNat ≤ 4611686018427387904 := by
  have h1 : (2 : Nat) ^ n.toNat ≤ 4611686018427387904 := Nat.le_trans (Nat.pow_le_pow_right (by decide : 0 < 2) (by omega : n.toNat ≤ 62)) (by decide)
  have h2 : ((2 ^ n.toNat : Nat) : Int) = (2 : Int) ^ n.toNat := by simp
  rw [← h2]; omega
theorem pow_pos2 (k : Nat) : (1 : Int) ≤ 2 ^ k := by
  have h1 : 1 ≤ (2 : Nat) ^ k := Nat.one_le_two_pow
  have h2 : ((2 ^ k : Nat) : Int) = (2 : Int) ^ k := by simp
  rw [← h2]; omega

/-- The test of a bit, as the code has it. -/
theorem bit_int {a b : Int} (ha : 0 ≤ a) (ha2 : a ≤ 9223372036854775807) (hb : b ≤ 64) : (iand .i64 (ishr .i64 a b) 1 = 1) ↔ a.toNat.testBit b.toNat = true := by
  have := bit_nat (a := a.toNat) (b := b) (by omega) hb
  rw [Int.toNat_of_nonneg ha] at this
  exact this
theorem bit_two {a b : Int} (ha : 0 ≤ a) (ha2 : a ≤ 9223372036854775807) (hb : b ≤ 64) : iand .i64 (ishr .i64 a b) 1 = if a.toNat.testBit b.toNat = true then 1 else 0 := by
  have h1 := bit_int ha ha2 hb
  split
  · rename_i h; exact h1.mpr h
  · rename_i h
    have h2 : iand .i64 (ishr .i64 a b) 1 = ((a.toNat >>> b.toNat % 2 : Nat) : Int) := by
      have e : a = (a.toNat : Int) := (Int.toNat_of_nonneg ha).symm
      rw [e, ishr_nat hb, iand_one, Int.toNat_natCast]
      rw [Nat.shiftRight_eq_div_pow]
      exact Nat.lt_of_le_of_lt (Nat.div_le_self _ _) (by omega)
    have h3 : ¬ iand .i64 (ishr .i64 a b) 1 = 1 := fun e => h (h1.mp e)
    omega

theorem c_spec_l01In (n lo hi : Int) (h : VH) : vcall F nro k_spec_l01In [.int .i64 n, .int .i64 lo, .int .i64 hi] h = some (.bool (decide (lo ≤ n ∧ n ≤ hi)), h) := by
  refine v_spec_l01In (by simp [i_spec_l01In]) ?_
  rw [fbody_eq]
  simp [i_spec_l01In]
  split <;> simp <;> omega

theorem c_spec_l01Has (n a b : Int) (s : Value) (rows : List Int) (h : VH) (hs : Sli h s rows) (h1 : 0 ≤ a) (h2 : a < rows.length) (h3 : 0 ≤ b) (h4 : b ≤ 64) :
    vcall F nro k_spec_l01Has [gv n s, .int .i64 a, .int .i64 b] h = some (.bool (decide (iand .i64 (ishr .i64 (rows.getD a.toNat 0) b) 1 = 1)), h) := by
  refine v_spec_l01Has (by simp [i_spec_l01Has]) ?_
  rw [fbody_eq, getD_at rows (by omega)]
  simp (disch := first | assumption | omega | (simp [*] <;> omega) | fail) [i_spec_l01Has, hs.vidx', hs.vload', wrapu64]

/-- The same of a row that is not negative. -/
theorem c_spec_l01Has' (n a b : Int) (s : Value) (rows : List Int) (h : VH) (hs : Sli h s rows) (h1 : 0 ≤ a) (h2 : a < rows.length) (h3 : 0 ≤ b) (h4 : b ≤ 64) (h5 : 0 ≤ rows.getD a.toNat 0) (h6 : rows.getD a.toNat 0 ≤ 9223372036854775807) :
    vcall F nro k_spec_l01Has [gv n s, .int .i64 a, .int .i64 b] h = some (.bool (rbit rows a.toNat b.toNat), h) := by
  rw [c_spec_l01Has n a b s rows h hs h1 h2 h3 h4]
  have := bit_int h5 h6 h4
  simp only [this, rbit]
  simp

theorem ishl_one' {n : Int} (h0 : 0 ≤ n) (h1 : n ≤ 62) : ishl .i64 1 n = 2 ^ n.toNat := by
  rw [ishl_one h1]; simp

/-- The heap with a graph's value in a box of its own. -/
abbrev bx (h : VH) (n : Int) (s : Value) : VH := h ++ [⟨0, [.int .i64 n, s]⟩]
abbrev bp (h : VH) : Value := .pointer (some ⟨h.length, 0, some 2⟩)

theorem rowOK_iff {n i : Int} {rows : List Int} (hn2 : n ≤ 62) (hi : 0 ≤ i) (hin : i < n) (hl : (rows.length : Int) = n) :
    RowOK n rows i.toNat ↔ (0 ≤ rows[i.toNat]'(by omega) ∧ rows[i.toNat]'(by omega) ≤ 2 ^ n.toNat - 1) ∧ ¬ iand .i64 (ishr .i64 (rows[i.toNat]'(by omega)) i) 1 = 1 := by
  have hp := pow_le62 hn2
  unfold RowOK rbit
  rw [getD_at rows (by omega)]
  constructor
  · rintro ⟨h1, h2, h3⟩
    refine ⟨⟨h1, by omega⟩, fun e => ?_⟩
    rw [(bit_int h1 (by omega) (by omega)).mp e] at h3
    cases h3
  · rintro ⟨⟨h1, h2⟩, h3⟩
    refine ⟨h1, by omega, ?_⟩
    rw [bit_int h1 (by omega) (by omega)] at h3
    simpa using h3

open Classical in
theorem l_spec_l01Is_1 (n : Int) (s : Value) (rows : List Int) (h : VH) (hs : Sli h s rows) (hn1 : 1 ≤ n) (hn2 : n ≤ 62) (hl : (rows.length : Int) = n) :
    floop (vcall F nro) nro [1, 3] i_spec_l01Is_B1 (bx h n s) [bp h, .int .i64 0] (bx h n s) =
      if ∃ j : Int, 0 ≤ j ∧ j < n ∧ ¬ RowOK n rows j.toNat then some (.ret, fl [(2, .bool false)], bx h n s) else some (.exit 0, fl [(1, bp h)], bx h n s) := by
  refine search (fun i => floop (vcall F nro) nro [1, 3] i_spec_l01Is_B1 (bx h n s) [bp h, .int .i64 i] (bx h n s)) (fun i => ¬ RowOK n rows i.toNat) _ _ n 0 ?_ ?_ 0 (by omega)
  · intro i hi hlt
    have hc := fun (x a b : Int) => c_spec_l01In (nro := nro) x a b (bx h n s)
    have hc2 := c_spec_l01Has (nro := nro) n i i s rows (bx h n s) (hs.app _) hi (by omega) hi (by omega)
    have hp := pow_le62 hn2
    have hp1 := pow_pos2 n.toNat
    rw [floop_at i_spec_l01Is_B1.eq_1, rowOK_iff hn2 hi hlt hl]
    constructor <;> intro hb
    · simp (disch := first | assumption | omega | (simp [*] <;> omega) | fail) [hs.vlen', hs.vidx', hs.vload', wrap64, wrapu64, hlt, hc, hc2, ishl_one']
      intro h1 h2 h3
      exact absurd ⟨⟨h1, h2⟩, h3⟩ hb
    · obtain ⟨⟨g1, g2⟩, g3⟩ := Classical.not_not.mp hb
      simp (disch := first | assumption | omega | (simp [*] <;> omega) | fail) [hs.vlen', hs.vidx', hs.vload', wrap64, wrapu64, hlt, hc, hc2, ishl_one', g1, g2, g3]
  · intro i hi hlt
    rw [floop_at i_spec_l01Is_B1.eq_1]
    simp (disch := first | assumption | omega | (simp [*] <;> omega) | fail) [hlt]

open Classical in
theorem l_spec_l01Is_2 (n : Int) (s : Value) (rows : List Int) (h : VH) (hs : Sli h s rows) (hn1 : 1 ≤ n) (hn2 : n ≤ 62) (hl : (rows.length : Int) = n) (hr : ∀ j : Int, 0 ≤ j → j < n → RowOK n rows j.toNat) (v : Int) (hv : 0 ≤ v) (hvn : v < n) :
    floop (vcall F nro) nro [1, 4, 5] i_spec_l01Is_B2 (bx h n s) [bp h, .int .i64 v, .int .i64 0] (bx h n s) =
      if ∃ j : Int, 0 ≤ j ∧ j < v ∧ rbit rows v.toNat j.toNat ≠ rbit rows j.toNat v.toNat then some (.ret, fl [(2, .bool false)], bx h n s) else some (.exit 4, fl [(1, bp h), (4, .int .i64 v)], bx h n s) := by
  refine search (fun i => floop (vcall F nro) nro [1, 4, 5] i_spec_l01Is_B2 (bx h n s) [bp h, .int .i64 v, .int .i64 i] (bx h n s)) (fun j => rbit rows v.toNat j.toNat ≠ rbit rows j.toNat v.toNat) _ _ v 0 ?_ ?_ 0 (by omega)
  · intro i hi hlt
    have hp := pow_le62 hn2
    obtain ⟨r1, r2, _⟩ := hr i hi (by omega)
    obtain ⟨q1, q2, _⟩ := hr v hv hvn
    have hc1 := c_spec_l01Has' (nro := nro) n v i s rows (bx h n s) (hs.app _) hv (by omega) hi (by omega) q1 (by omega)
    have hc2 := c_spec_l01Has' (nro := nro) n i v s rows (bx h n s) (hs.app _) hi (by omega) hv (by omega) r1 (by omega)
    rw [floop_at i_spec_l01Is_B2.eq_1]
    constructor <;> intro hb
    · simp (disch := first | assumption | omega | (simp [*] <;> omega) | fail) [wrap64, hlt, hc1, hc2, hb]
    · simp (disch := first | assumption | omega | (simp [*] <;> omega) | fail) [wrap64, hlt, hc1, hc2, Classical.not_not.mp hb]
  · intro i hi hlt
    rw [floop_at i_spec_l01Is_B2.eq_1]
    simp (disch := first | assumption | omega | (simp [*] <;> omega) | fail) [hlt]

open Classical in
theorem l_spec_l01Is_3 (n : Int) (s : Value) (rows : List Int) (h : VH) (hs : Sli h s rows) (hn1 : 1 ≤ n) (hn2 : n ≤ 62) (hl : (rows.length : Int) = n) (hr : ∀ j : Int, 0 ≤ j → j < n → RowOK n rows j.toNat) :
    floop (vcall F nro) nro [1, 4] i_spec_l01Is_B3 (bx h n s) [bp h, .int .i64 0] (bx h n s) =
      if ∃ v : Int, 0 ≤ v ∧ v < n ∧ ∃ j : Int, 0 ≤ j ∧ j < v ∧ rbit rows v.toNat j.toNat ≠ rbit rows j.toNat v.toNat then some (.ret, fl [(2, .bool false)], bx h n s) else some (.exit 2, fl [], bx h n s) := by
  refine search (fun i => floop (vcall F nro) nro [1, 4] i_spec_l01Is_B3 (bx h n s) [bp h, .int .i64 i] (bx h n s)) (fun v => ∃ j : Int, 0 ≤ j ∧ j < v ∧ rbit rows v.toNat j.toNat ≠ rbit rows j.toNat v.toNat) _ _ n 0 ?_ ?_ 0 (by omega)
  · intro i hi hlt
    have hin := l_spec_l01Is_2 (nro := nro) n s rows h hs hn1 hn2 hl hr i hi hlt
    rw [floop_at i_spec_l01Is_B3.eq_1]
    constructor <;> intro hb
    · rw [if_pos hb] at hin
      simp (disch := first | assumption | omega | (simp [*] <;> omega) | fail) [wrap64, hlt, hin]
    · rw [if_neg hb] at hin
      simp (disch := first | assumption | omega | (simp [*] <;> omega) | fail) [wrap64, hlt, hin]
  · intro i hi hlt
    rw [floop_at i_spec_l01Is_B3.eq_1]
    simp (disch := first | assumption | omega | (simp [*] <;> omega) | fail) [hlt]

theorem GV_iff {n : Int} {rows : List Int} : GV n rows ↔ 1 ≤ n ∧ n ≤ 62 ∧ (rows.length : Int) = n ∧ (∀ j : Int, 0 ≤ j → j < n → RowOK n rows j.toNat) ∧ ¬ ∃ v : Int, 0 ≤ v ∧ v < n ∧ ∃ j : Int, 0 ≤ j ∧ j < v ∧ rbit rows v.toNat j.toNat ≠ rbit rows j.toNat v.toNat := by
  constructor
  · rintro ⟨h1, h2, h3, h4, h5⟩
    refine ⟨h1, h2, h3, fun j h6 h7 => h4 _ (by omega), ?_⟩
    rintro ⟨v, h6, h7, j, h8, h9, h10⟩
    exact h10 (h5 _ _ (by omega) (by omega))
  · rintro ⟨h1, h2, h3, h4, h5⟩
    have key : ∀ v w : Nat, w < v → v < rows.length → rbit rows v w = rbit rows w v := by
      intro v w h6 h7
      apply Classical.byContradiction
      intro h8
      exact h5 ⟨v, by omega, by omega, w, by omega, by omega, by simpa using h8⟩
    refine ⟨h1, h2, h3, fun v hv => by simpa using h4 v (by omega) (by omega), fun v w hv hw => ?_⟩
    rcases Nat.lt_trichotomy v w with h6 | h6 | h6
    · exact (key w v h6 hw).symm
    · rw [h6]
    · exact key v w h6 hv

open Classical in
theorem c_spec_l01Is (n : Int) (s : Value) (rows : List Int) (h : VH) (hs : Sli h s rows) :
    vcall F nro k_spec_l01Is [gv n s] h = some (.bool (decide (GV n rows)), h) := by
  refine v_spec_l01Is (by simp [i_spec_l01Is]) ?_
  rw [fbody_eq]
  have hc := fun (x a b : Int) => c_spec_l01In (nro := nro) x a b (bx h n s)
  by_cases hn : 1 ≤ n ∧ n ≤ 62
  · obtain ⟨hn1, hn2⟩ := hn
    by_cases hl : (rows.length : Int) = n
    · have hl1 := l_spec_l01Is_1 (nro := nro) n s rows h hs hn1 hn2 hl
      by_cases hb : ∃ j : Int, 0 ≤ j ∧ j < n ∧ ¬ RowOK n rows j.toNat
      · rw [if_pos hb] at hl1
        have : ¬ GV n rows := by
          rw [GV_iff]
          rintro ⟨_, _, _, h4, _⟩
          obtain ⟨j, h5, h6, h7⟩ := hb
          exact h7 (h4 j h5 h6)
        simp (disch := first | assumption | omega | (simp [*] <;> omega) | fail) [i_spec_l01Is, hc, hn1, hn2, hs.vlen', hl, hl1, this]
      · rw [if_neg hb] at hl1
        have hr : ∀ j : Int, 0 ≤ j → j < n → RowOK n rows j.toNat := fun j h1 h2 => Classical.byContradiction fun h3 => hb ⟨j, h1, h2, h3⟩
        have hl3 := l_spec_l01Is_3 (nro := nro) n s rows h hs hn1 hn2 hl hr
        by_cases hb2 : ∃ v : Int, 0 ≤ v ∧ v < n ∧ ∃ j : Int, 0 ≤ j ∧ j < v ∧ rbit rows v.toNat j.toNat ≠ rbit rows j.toNat v.toNat
        · rw [if_pos hb2] at hl3
          have : ¬ GV n rows := by
            rw [GV_iff]
            rintro ⟨_, _, _, _, h4⟩
            exact h4 hb2
          simp (disch := first | assumption | omega | (simp [*] <;> omega) | fail) [i_spec_l01Is, hc, hn1, hn2, hs.vlen', hl, hl1, hl3, this]
        · rw [if_neg hb2] at hl3
          have : GV n rows := GV_iff.mpr ⟨hn1, hn2, hl, hr, hb2⟩
          simp (disch := first | assumption | omega | (simp [*] <;> omega) | fail) [i_spec_l01Is, hc, hn1, hn2, hs.vlen', hl, hl1, hl3, this]
    · have : ¬ GV n rows := fun g => hl g.len
      simp (disch := first | assumption | omega | (simp [*] <;> omega) | fail) [i_spec_l01Is, hc, hn1, hn2, hs.vlen', hl, this]
  · have : ¬ GV n rows := fun g => hn ⟨g.lo, g.hi⟩
    simp (disch := first | assumption | omega | (simp [*] <;> omega) | fail) [i_spec_l01Is, hc, hn, this]
end Go.Proofs.Ytcdcmaakcldniaa.Zv

/- The program's own test for a graph. -/
namespace Go.Proofs.Ytcdcmaakcldniaa.Zv
open Go
variable {nro : Nat}

open Classical in
theorem l_impl_IsGraph_1 (n : Int) (s : Value) (rows : List Int) (h : VH) (hs : Sli h s rows) (hn1 : 1 ≤ n) (hn2 : n ≤ 62) (hl : (rows.length : Int) = n) (v x : Int) (hv : 0 ≤ v) (hvn : v < n) :
    floop (vcall F nro) nro [1, 3, 4, 5, 23, 24, 25, 45, 46] i_impl_IsGraph_B1 (bx h n s) [bp h, .int .i64 n, .int .i64 v, .int .i64 (x), s, .int .i64 n, .int .i64 v, .int .i64 n, .int .i64 0] (bx h n s) =
      if ∃ j : Int, 0 ≤ j ∧ j < n ∧ iand .i64 (ishr .i64 (x) j) 1 ≠ iand .i64 (ishr .i64 (rows.getD j.toNat 0) v) 1 then some (.ret, fl [(2, .bool false)], bx h n s) else some (.exit 2, fl [(1, bp h), (3, .int .i64 n), (23, s), (24, .int .i64 n), (25, .int .i64 v)], bx h n s) := by
  refine search (fun i => floop (vcall F nro) nro [1, 3, 4, 5, 23, 24, 25, 45, 46] i_impl_IsGraph_B1 (bx h n s) [bp h, .int .i64 n, .int .i64 v, .int .i64 (x), s, .int .i64 n, .int .i64 v, .int .i64 n, .int .i64 i] (bx h n s)) (fun j => iand .i64 (ishr .i64 (x) j) 1 ≠ iand .i64 (ishr .i64 (rows.getD j.toNat 0) v) 1) _ _ n 0 ?_ ?_ 0 (by omega)
  · intro i hi hlt
    have hso := fun k => hs.oldk (k := k)
    rw [floop_at i_impl_IsGraph_B1.eq_1, getD_at rows (i := i.toNat) (by omega)]
    constructor <;> intro hb
    · simp (disch := first | assumption | omega | (simp [*] <;> omega) | fail) [hs.vlen', hs.vidx', hs.vload', wrap64, hlt, hb]
    · simp (disch := first | assumption | omega | (simp [*] <;> omega) | fail) [hs.vlen', hs.vidx', hs.vload', wrap64, hlt, Classical.not_not.mp hb]
  · intro i hi hlt
    rw [floop_at i_impl_IsGraph_B1.eq_1]
    simp (disch := first | assumption | omega | (simp [*] <;> omega) | fail) [hlt]

/-- What the program asks of row v. -/
def RowAll (n : Int) (rows : List Int) (v : Nat) : Prop := RowOK n rows v ∧ ¬ ∃ j : Int, 0 ≤ j ∧ j < n ∧ iand .i64 (ishr .i64 (rows.getD v 0) j) 1 ≠ iand .i64 (ishr .i64 (rows.getD j.toNat 0) (v : Int)) 1

open Classical in
theorem l_impl_IsGraph_2 (n : Int) (s : Value) (rows : List Int) (h : VH) (hs : Sli h s rows) (hn1 : 1 ≤ n) (hn2 : n ≤ 62) (hl : (rows.length : Int) = n) :
    floop (vcall F nro) nro [1, 3, 23, 24, 25] i_impl_IsGraph_B2 (bx h n s) [bp h, .int .i64 n, s, .int .i64 n, .int .i64 0] (bx h n s) =
      if ∃ j : Int, 0 ≤ j ∧ j < n ∧ ¬ RowAll n rows j.toNat then some (.ret, fl [(2, .bool false)], bx h n s) else some (.exit 0, fl [], bx h n s) := by
  refine search (fun i => floop (vcall F nro) nro [1, 3, 23, 24, 25] i_impl_IsGraph_B2 (bx h n s) [bp h, .int .i64 n, s, .int .i64 n, .int .i64 i] (bx h n s)) (fun i => ¬ RowAll n rows i.toNat) _ _ n 0 ?_ ?_ 0 (by omega)
  · intro i hi hlt
    have hso := fun k => hs.oldk (k := k)
    have hp := pow_le62 hn2
    have hp1 := pow_pos2 n.toNat
    have hok := rowOK_iff hn2 hi hlt hl
    have e : rows.getD i.toNat 0 = rows[i.toNat]'(by omega) := getD_at _ (by omega)
    rw [floop_at i_impl_IsGraph_B2.eq_1]
    by_cases hr : RowOK n rows i.toNat
    · obtain ⟨⟨g1, g2⟩, g3⟩ := hok.mp hr
      have g4 : ¬ rows[i.toNat]'(by omega) < 0 := by omega
      have g5 : ¬ 2 ^ n.toNat ≤ rows[i.toNat]'(by omega) := by omega
      have hin := l_impl_IsGraph_1 (nro := nro) n s rows h hs hn1 hn2 hl i (rows[i.toNat]'(by omega)) hi hlt
      have e2 : ((i.toNat : Nat) : Int) = i := Int.toNat_of_nonneg hi
      unfold RowAll
      rw [e]
      constructor <;> intro hb
      · have hb' : ∃ j : Int, 0 ≤ j ∧ j < n ∧ iand .i64 (ishr .i64 (rows[i.toNat]'(by omega)) j) 1 ≠ iand .i64 (ishr .i64 (rows.getD j.toNat 0) i) 1 := Classical.byContradiction fun hno => hb ⟨hr, by simpa [e2] using hno⟩
        rw [if_pos hb'] at hin
        simp (disch := first | assumption | omega | (simp [*] <;> omega) | fail) [hs.vlen', hs.vidx', hs.vload', wrap64, hlt, ishl_one', g3, g4, g5, hin]
      · rw [if_neg (by simpa [e2] using (Classical.not_not.mp hb).2)] at hin
        simp (disch := first | assumption | omega | (simp [*] <;> omega) | fail) [hs.vlen', hs.vidx', hs.vload', wrap64, hlt, ishl_one', g3, g4, g5, hin]
    · constructor <;> intro hb
      · simp (disch := first | assumption | omega | (simp [*] <;> omega) | fail) [hs.vlen', hs.vidx', hs.vload', wrap64, hlt, ishl_one']
        intro h1 h2 h3
        exact absurd (hok.mpr ⟨⟨h1, by omega⟩, h3⟩) hr
      · exact absurd (Classical.not_not.mp hb).1 hr
  · intro i hi hlt
    rw [floop_at i_impl_IsGraph_B2.eq_1]
    simp (disch := first | assumption | omega | (simp [*] <;> omega) | fail) [hlt]

theorem rowAll_iff {n : Int} {rows : List Int} (hn1 : 1 ≤ n) (hn2 : n ≤ 62) (hl : (rows.length : Int) = n) : (∀ j : Int, 0 ≤ j → j < n → RowAll n rows j.toNat) ↔ GV n rows := by
  have hp := pow_le62 hn2
  -- what the rows' own bits are
  have hbits : (∀ v, v < rows.length → RowOK n rows v) → ∀ v j : Nat, v < rows.length → j < rows.length → (iand .i64 (ishr .i64 (rows.getD v 0) j) 1 = iand .i64 (ishr .i64 (rows.getD j 0) v) 1 ↔ rbit rows v j = rbit rows j v) := by
    intro hr v j hv hj
    obtain ⟨a1, a2, _⟩ := hr v hv
    obtain ⟨b1, b2, _⟩ := hr j hj
    rw [bit_two a1 (by omega) (by omega), bit_two b1 (by omega) (by omega)]
    simp only [rbit, Int.toNat_natCast]
    by_cases x : (rows.getD v 0).toNat.testBit j = true <;> by_cases y : (rows.getD j 0).toNat.testBit v = true <;> simp only [x, y] <;> simp_all
  constructor
  · intro h
    have hr : ∀ v, v < rows.length → RowOK n rows v := fun v hv => by simpa using (h v (by omega) (by omega)).1
    refine ⟨hn1, hn2, hl, hr, fun v w hv hw => ?_⟩
    rw [← hbits hr v w hv hw]
    have h2 := (h v (by omega) (by omega)).2
    apply Classical.byContradiction
    intro hno
    exact h2 ⟨w, by omega, by omega, by simpa using hno⟩
  · intro g j h0 h1
    refine ⟨g.row _ (by omega), ?_⟩
    rintro ⟨k, h2, h3, h4⟩
    have := (hbits g.row j.toNat k.toNat (by omega) (by omega)).mpr (g.sym _ _ (by omega) (by omega))
    rw [Int.toNat_of_nonneg h2] at this
    exact h4 (by simpa [Int.toNat_of_nonneg h2] using this)

open Classical in
theorem c_impl_IsGraph (n : Int) (s : Value) (rows : List Int) (h : VH) (hs : Sli h s rows) :
    vcall F nro k_impl_IsGraph [gv n s] h = some (.bool (decide (GV n rows)), h) := by
  refine v_impl_IsGraph (by simp [i_impl_IsGraph]) ?_
  rw [fbody_eq]
  by_cases hn : 1 ≤ n ∧ n ≤ 62
  · obtain ⟨hn1, hn2⟩ := hn
    have hn1' : ¬ n < 1 := by omega
    have hn2' : ¬ 62 < n := by omega
    by_cases hl : (rows.length : Int) = n
    · have hl1 := l_impl_IsGraph_2 (nro := nro) n s rows h hs hn1 hn2 hl
      by_cases hb : ∃ j : Int, 0 ≤ j ∧ j < n ∧ ¬ RowAll n rows j.toNat
      · rw [if_pos hb] at hl1
        have : ¬ GV n rows := by
          rw [← rowAll_iff hn1 hn2 hl]
          intro h4
          obtain ⟨j, h5, h6, h7⟩ := hb
          exact h7 (h4 j h5 h6)
        simp (disch := first | assumption | omega | (simp [*] <;> omega) | fail) [i_impl_IsGraph, hn1', hn2', hs.vlen', hl, hl1, this]
      · rw [if_neg hb] at hl1
        have : GV n rows := (rowAll_iff hn1 hn2 hl).mp fun j h1 h2 => Classical.byContradiction fun h3 => hb ⟨j, h1, h2, h3⟩
        simp (disch := first | assumption | omega | (simp [*] <;> omega) | fail) [i_impl_IsGraph, hn1', hn2', hs.vlen', hl, hl1, this]
    · have : ¬ GV n rows := fun g => hl g.len
      simp (disch := first | assumption | omega | (simp [*] <;> omega) | fail) [i_impl_IsGraph, hn1', hn2', hs.vlen', hl, this]
  · have : ¬ GV n rows := fun g => hn ⟨g.lo, g.hi⟩
    by_cases h1 : n < 1
    · simp (disch := first | assumption | omega | (simp [*] <;> omega) | fail) [i_impl_IsGraph, h1, this]
    · have h2 : 62 < n := by omega
      simp (disch := first | assumption | omega | (simp [*] <;> omega) | fail) [i_impl_IsGraph, h1, h2, this]
end Go.Proofs.Ytcdcmaakcldniaa.Zv

/- cmp.Compare, slices.Compare: lists in the order of dictionaries. -/
namespace Go.Proofs.Ytcdcmaakcldniaa.Zv
open Go Go.Sort
variable {nro : Nat}
def cmpI (a b : Int) : Int := if a < b then -1 else if b < a then 1 else 0
def cmpL : List Int → List Int → Int
  | [], [] => 0
  | [], _ :: _ => -1
  | _ :: _, [] => 1
  | a :: l, b :: m => if a < b then -1 else if b < a then 1 else cmpL l m
theorem c_cmp_isNaN_int64 (a : Int) (h : VH) : vcall F nro k_cmp_isNaN_int64 [.int .i64 a] h = some (.bool false, h) := by
  refine v_cmp_isNaN_int64 (by simp [i_cmp_isNaN_int64]) ?_
  rw [fbody_eq]
  simp (disch := first | assumption | omega | (simp [*] <;> omega) | fail) [i_cmp_isNaN_int64]
theorem c_cmp_Compare_int64 (a b : Int) (h : VH) : vcall F nro k_cmp_Compare_int64 [.int .i64 a, .int .i64 b] h = some (.int .i64 (cmpI a b), h) := by
  refine v_cmp_Compare_int64 (by simp [i_cmp_Compare_int64]) ?_
  rw [fbody_eq]
  have e1 := c_cmp_isNaN_int64 (nro := nro) a h
  have e2 := c_cmp_isNaN_int64 (nro := nro) b h
  unfold cmpI
  by_cases h1 : a < b
  · rw [if_pos h1]
    simp (disch := first | assumption | omega | (simp [*] <;> omega) | fail) [i_cmp_Compare_int64, e1, e2, h1]
  · rw [if_neg h1]
    by_cases h2 : b < a
    · rw [if_pos h2]
      simp (disch := first | assumption | omega | (simp [*] <;> omega) | fail) [i_cmp_Compare_int64, e1, e2, h1, h2]
    · rw [if_neg h2]
      simp (disch := first | assumption | omega | (simp [*] <;> omega) | fail) [i_cmp_Compare_int64, e1, e2, h1, h2]

theorem l_slices_Compare (h : VH) (s t : Value) (xs ys : List Int) (hs : Sli h s xs) (ht : Sli h t ys) (hl : xs.length ≤ 1000) (hl2 : ys.length ≤ 1000) (k j : Nat) (hk : k = xs.length - j) (hj : j ≤ xs.length) (hj2 : j ≤ ys.length) :
    (∃ e, floop (vcall F nro) nro [0, 1, 9, 10, 11] i_slices_Compare_int64_int64_B1 h [s, t, s, .int .i64 xs.length, .int .i64 j] h = some (.ret, e, h) ∧ e 4 = .int .i64 (cmpL (xs.drop j) (ys.drop j))) ∨
    (floop (vcall F nro) nro [0, 1, 9, 10, 11] i_slices_Compare_int64_int64_B1 h [s, t, s, .int .i64 xs.length, .int .i64 j] h = some (.exit 0, fl [(0, s), (1, t)], h) ∧ cmpL (xs.drop j) (ys.drop j) = if xs.length < ys.length then -1 else 0) := by
  have hso := hs.old
  have hto := ht.old
  rw [floop_at i_slices_Compare_int64_int64_B1.eq_1]
  have vl2 := ht.vlen
  by_cases hlt : j < xs.length
  · have hlt' : (j : Int) < xs.length := by omega
    have vl := hs.vlen
    have vx := hs.vidx (k := .i64) (j := (j : Int)) (by omega) hlt'
    have vd := hs.vload hlt
    rw [List.drop_eq_getElem_cons hlt]
    by_cases hlt2 : j < ys.length
    · have hlt2' : ¬ (ys.length : Int) ≤ j := by omega
      have vx2 := ht.vidx (k := .i64) (j := (j : Int)) (by omega) (by omega)
      have vd2 := ht.vload hlt2
      rw [List.drop_eq_getElem_cons hlt2]
      obtain ⟨x, hx⟩ : ∃ x, x = xs[j] := ⟨_, rfl⟩
      obtain ⟨y, hy⟩ : ∃ y, y = ys[j] := ⟨_, rfl⟩
      rw [← hx] at vd ⊢
      rw [← hy] at vd2 ⊢
      have e1 := c_cmp_Compare_int64 (nro := nro) x y h
      rw [cmpL]
      by_cases h1 : x < y
      · left
        rw [if_pos h1]
        rw [cmpI, if_pos h1] at e1
        simp (disch := first | assumption | omega | (simp [*] <;> omega) | fail) [hlt', vl, vx, vd, vl2, vx2, vd2, hlt2', e1]
      · rw [if_neg h1]
        rw [cmpI, if_neg h1] at e1
        by_cases h2 : y < x
        · left
          rw [if_pos h2]
          rw [if_pos h2] at e1
          simp (disch := first | assumption | omega | (simp [*] <;> omega) | fail) [hlt', vl, vx, vd, vl2, vx2, vd2, hlt2', e1]
        · rw [if_neg h2]
          rw [if_neg h2] at e1
          have ih := l_slices_Compare h s t xs ys hs ht hl hl2 (k - 1) (j + 1) (by omega) hlt hlt2
          rw [show ((j + 1 : Nat) : Int) = (j : Int) + 1 by omega] at ih
          obtain ⟨q, hq⟩ : ∃ q, q = cmpL (xs.drop (j + 1)) (ys.drop (j + 1)) := ⟨_, rfl⟩
          rw [← hq] at ih ⊢
          clear hq
          rcases ih with ⟨e, i1, i2⟩ | ⟨i1, i2⟩
          · left
            simp (disch := first | assumption | omega | (simp [*] <;> omega) | fail) [wrap64, hlt', vl, vx, vd, vl2, vx2, vd2, hlt2', e1, i1, i2]
          · right
            simp (disch := first | assumption | omega | (simp [*] <;> omega) | fail) [wrap64, hlt', vl, vx, vd, vl2, vx2, vd2, hlt2', e1, i1, i2]
    · have hlt2' : (ys.length : Int) ≤ j := by omega
      left
      rw [List.drop_eq_nil_of_le (by omega : ys.length ≤ j), cmpL]
      simp (disch := first | assumption | omega | (simp [*] <;> omega) | fail) [hlt', vl, vx, vd, vl2, hlt2']
  · right
    have hlt' : ¬ (j : Int) < xs.length := by omega
    have vl := hs.vlen
    have e1 : xs.drop j = [] := List.drop_eq_nil_of_le (by omega)
    refine ⟨?_, ?_⟩
    · simp (disch := first | assumption | omega | (simp [*] <;> omega) | fail) [hlt', vl]
    · rw [e1]
      by_cases hlt2 : j < ys.length
      · rw [if_pos (by omega), List.drop_eq_getElem_cons hlt2, cmpL]
      · rw [if_neg (by omega), List.drop_eq_nil_of_le (by omega), cmpL]
 termination_by k
theorem c_slices_Compare (h : VH) (s t : Value) (xs ys : List Int) (hs : Sli h s xs) (ht : Sli h t ys) (hl : xs.length ≤ 1000) (hl2 : ys.length ≤ 1000) :
    vcall F nro k_slices_Compare_int64_int64 [s, t] h = some (.int .i64 (cmpL xs ys), h) := by
  refine v_slices_Compare_int64_int64 (by simp [i_slices_Compare_int64_int64]) ?_
  rw [fbody_eq]
  have vl := hs.vlen
  have vl2 := ht.vlen
  rcases l_slices_Compare (nro := nro) h s t xs ys hs ht hl hl2 xs.length 0 (by omega) (by omega) (by omega) with ⟨e, i1, i2⟩ | ⟨i1, i2⟩
  · simp only [List.drop_zero, Int.natCast_zero] at i1 i2
    simp (disch := first | assumption | omega | (simp [*] <;> omega) | fail) [i_slices_Compare_int64_int64, vl, i1, i2]
  · simp only [List.drop_zero, Int.natCast_zero] at i1 i2
    rw [i2]
    by_cases c : xs.length < ys.length
    · rw [if_pos c]
      have c' : (xs.length : Int) < ys.length := by omega
      simp (disch := first | assumption | omega | (simp [*] <;> omega) | fail) [i_slices_Compare_int64_int64, vl, vl2, i1, c']
    · rw [if_neg c]
      have c' : ¬ (xs.length : Int) < ys.length := by omega
      simp (disch := first | assumption | omega | (simp [*] <;> omega) | fail) [i_slices_Compare_int64_int64, vl, vl2, i1, c']

/-! ### the order of dictionaries -/
theorem cmpL_refl : ∀ l, cmpL l l = 0
  | [] => rfl
  | a :: l => by rw [cmpL, if_neg (by omega), if_neg (by omega), cmpL_refl l]
theorem cmpL_eq : ∀ {l m}, cmpL l m = 0 → l = m
  | [], [], _ => rfl
  | [], _ :: _, h => by simp [cmpL] at h
  | _ :: _, [], h => by simp [cmpL] at h
  | a :: l, b :: m, h => by
    rw [cmpL] at h
    by_cases h1 : a < b
    · rw [if_pos h1] at h; simp at h
    · rw [if_neg h1] at h
      by_cases h2 : b < a
      · rw [if_pos h2] at h; simp at h
      · rw [if_neg h2] at h
        rw [cmpL_eq h, show a = b by omega]
theorem cmpL_neg : ∀ l m, cmpL l m = - cmpL m l
  | [], [] => rfl
  | [], _ :: _ => rfl
  | _ :: _, [] => rfl
  | a :: l, b :: m => by
    rw [cmpL, cmpL]
    by_cases h1 : a < b
    · rw [if_pos h1, if_neg (by omega), if_pos h1]
    · rw [if_neg h1]
      by_cases h2 : b < a
      · rw [if_pos h2, if_pos h2]; rfl
      · rw [if_neg h2, if_neg h2, if_neg h1, cmpL_neg l m]
theorem cmpL_trans : ∀ l m n, cmpL l m < 0 → cmpL m n < 0 → cmpL l n < 0
  | [], [], _, h, _ => by simp [cmpL] at h
  | [], _ :: _, [], _, h => by simp [cmpL] at h
  | [], _ :: _, _ :: _, _, _ => by simp [cmpL]
  | _ :: _, [], _, h, _ => by simp [cmpL] at h
  | _ :: _, _ :: _, [], _, h => by simp [cmpL] at h
  | a :: l, b :: m, c :: n, h, h' => by
    rw [cmpL] at h h' ⊢
    by_cases h1 : a < b
    · by_cases h3 : b < c
      · rw [if_pos (by omega)]; omega
      · rw [if_neg h3] at h'
        by_cases h4 : c < b
        · rw [if_pos h4] at h'; omega
        · rw [if_pos (by omega)]; omega
    · rw [if_neg h1] at h
      by_cases h2 : b < a
      · rw [if_pos h2] at h; omega
      · rw [if_neg h2] at h
        by_cases h3 : b < c
        · rw [if_pos (by omega)]; omega
        · rw [if_neg h3] at h'
          by_cases h4 : c < b
          · rw [if_pos h4] at h'; omega
          · rw [if_neg h4] at h'
            rw [if_neg (by omega), if_neg (by omega)]
            exact cmpL_trans l m n h h'
theorem cmpL_swo (f : Nat → List Int) : SWO (fun x y => decide (cmpL (f x) (f y) < 0)) where
  irrefl x := by simp [cmpL_refl]
  trans x y z h1 h2 := by
    simp only [decide_eq_true_eq] at *
    exact cmpL_trans _ _ _ h1 h2
  ntrans x y z h1 h2 := by
    simp only [decide_eq_false_iff_not] at *
    intro h3
    by_cases e1 : cmpL (f x) (f y) = 0
    · rw [cmpL_eq e1] at h3; exact h2 h3
    · have : cmpL (f y) (f x) < 0 := by rw [cmpL_neg]; omega
      exact h2 (cmpL_trans _ _ _ this h3)
end Go.Proofs.Ytcdcmaakcldniaa.Zv

namespace Go.Proofs.Ytcdcmaakcldniaa.Zv
end Go.Proofs.Ytcdcmaakcldniaa.Zv

/- Words without sign. -/
namespace Go.Proofs.Ytcdcmaakcldniaa.Zv
open Go
theorem shr_u64 {a : Nat} {b : Nat} (hb : b ≤ 64) : ishr .u64 (a : Int) (b : Int) = ((a / 2 ^ b : Nat) : Int) := by
  rw [ishr_eq]
  have e : min (b : Int).toNat IntKind.u64.bits = b := by simp [IntKind.bits]; omega
  rw [e, Int.fdiv_eq_ediv_of_nonneg _ (Int.le_of_lt (by exact_mod_cast Nat.two_pow_pos b))]
  simp
theorem and_u64 {a b : Nat} (ha : a < 2 ^ 64) (hb : b < 2 ^ 64) : iand .u64 (a : Int) (b : Int) = ((a &&& b : Nat) : Int) := by
  rw [iand_eq]
  have h1 : (BitVec.ofInt IntKind.u64.bits (a : Int)).toNat = a := ofInt_nat 64 a ha
  have h2 : (BitVec.ofInt IntKind.u64.bits (b : Int)).toNat = b := ofInt_nat 64 b hb
  rw [BitVec.toNat_and, h1, h2]
  have : a &&& b < 2 ^ 64 := Nat.and_lt_two_pow _ hb
  exact wrapu64 (by omega) (by omega)
end Go.Proofs.Ytcdcmaakcldniaa.Zv

/- Distances: the levels of a search, told once; the program's and the reference's search find them. -/
namespace Go.Proofs.Ytcdcmaakcldniaa.Zv
open Go
variable {nro : Nat}

/-! ### words -/
/-! ### levels -/
/-- The rows of a graph on n vertices. -/
structure Rok (n : Nat) (rows : List Int) : Prop where
  len : rows.length = n
  le : n ≤ 62
  row : ∀ v, v < n → 0 ≤ rows.getD v 0 ∧ (rows.getD v 0).toNat < 2 ^ n

theorem le62 {n x : Nat} (hn : n ≤ 62) (hx : x < 2 ^ n) : x < 2 ^ 62 := Nat.lt_of_lt_of_le hx (Nat.pow_le_pow_right (by omega) hn)
/-! ### the reference -/
end Go.Proofs.Ytcdcmaakcldniaa.Zv

/- Rows of bits that are filled in: edges put in. -/
namespace Go.Proofs.Ytcdcmaakcldniaa.Zv
open Go
variable {nro : Nat}

/-- Bit b of row a is set. -/
noncomputable def set1 (r : List Int) (a b : Int) : List Int := r.set a.toNat (ior .i64 (r.getD a.toNat 0) (ishl .i64 1 b))
noncomputable def put2 (r : List Int) (a b : Int) : List Int := set1 (set1 r a b) b a
@[simp] theorem set1_length (r : List Int) (a b : Int) : (set1 r a b).length = r.length := by simp [set1]
@[simp] theorem put2_length (r : List Int) (a b : Int) : (put2 r a b).length = r.length := by simp [put2]

/-- Rows of N vertices whose bits are told by a relation. -/
def IsAdj (N : Nat) (r : List Int) (adj : Nat → Nat → Prop) : Prop :=
  r.length = N ∧ ∀ v, v < N → 0 ≤ r.getD v 0 ∧ r.getD v 0 < 4611686018427387904 ∧ ∀ w, rbit r v w = true ↔ adj v w

theorem setbit {x b : Int} (hx : 0 ≤ x) (hx2 : x < 4611686018427387904) (hb : 0 ≤ b) (hb2 : b < 62) :
    0 ≤ ior .i64 x (ishl .i64 1 b) ∧ ior .i64 x (ishl .i64 1 b) < 4611686018427387904 ∧ ∀ w : Nat, (ior .i64 x (ishl .i64 1 b)).toNat.testBit w = true ↔ x.toNat.testBit w = true ∨ w = b.toNat := by
  have hp : 2 ^ b.toNat < 2 ^ 62 := Nat.pow_lt_pow_right (by omega) (by omega)
  have e : ior .i64 x (ishl .i64 1 b) = ((x.toNat ||| 2 ^ b.toNat : Nat) : Int) := by
    rw [ishl_one (by omega)]
    have e1 : x = (x.toNat : Int) := (Int.toNat_of_nonneg hx).symm
    rw [e1, ior_nat (by omega) (by omega), Int.toNat_natCast]
  have hlt : x.toNat ||| 2 ^ b.toNat < 2 ^ 62 := Nat.or_lt_two_pow (by omega) hp
  rw [e]
  refine ⟨by omega, by omega, fun w => ?_⟩
  rw [Int.toNat_natCast, Nat.testBit_or, Nat.testBit_two_pow, Bool.or_eq_true, decide_eq_true_eq]
  constructor
  · rintro (h | h)
    · exact .inl h
    · exact .inr h.symm
  · rintro (h | h)
    · exact .inl h
    · exact .inr h.symm

theorem IsAdj.set1 {N : Nat} {r : List Int} {adj : Nat → Nat → Prop} (h : IsAdj N r adj) {a b : Int} (ha : 0 ≤ a) (ha2 : a < N) (hb : 0 ≤ b) (hb2 : b < 62) :
    IsAdj N (set1 r a b) (fun v w => adj v w ∨ (v = a.toNat ∧ w = b.toNat)) := by
  obtain ⟨hl, hr⟩ := h
  refine ⟨by simp [hl], fun v hv => ?_⟩
  obtain ⟨h1, h2, h3⟩ := hr v hv
  by_cases e : v = a.toNat
  · subst e
    have hg : (Zv.set1 r a b).getD a.toNat 0 = ior .i64 (r.getD a.toNat 0) (ishl .i64 1 b) := by
      rw [getD_at _ (by simp; omega)]
      simp [Zv.set1]
    obtain ⟨k1, k2, k3⟩ := setbit h1 h2 hb hb2
    unfold rbit
    rw [hg]
    refine ⟨k1, k2, fun w => ?_⟩
    rw [k3]
    have := h3 w
    unfold rbit at this
    rw [this]
    simp
  · have hg : (Zv.set1 r a b).getD v 0 = r.getD v 0 := by
      unfold Zv.set1
      simp only [List.getD_eq_getElem?_getD, List.getElem?_set]
      rw [if_neg (fun h => e h.symm)]
    unfold rbit
    rw [hg]
    refine ⟨h1, h2, fun w => ?_⟩
    have := h3 w
    unfold rbit at this
    rw [this]
    simp [e]

theorem IsAdj.put2 {N : Nat} {r : List Int} {adj : Nat → Nat → Prop} (h : IsAdj N r adj) {a b : Int} (ha : 0 ≤ a) (ha2 : a < N) (hb : 0 ≤ b) (hb2 : b < N) (hN : N ≤ 62) :
    IsAdj N (put2 r a b) (fun v w => adj v w ∨ (v = a.toNat ∧ w = b.toNat) ∨ (v = b.toNat ∧ w = a.toNat)) := by
  have h1 := (h.set1 ha ha2 hb (by omega)).set1 hb hb2 ha (by omega)
  refine ⟨h1.1, fun v hv => ?_⟩
  obtain ⟨k1, k2, k3⟩ := h1.2 v hv
  refine ⟨k1, k2, fun w => ?_⟩
  exact (k3 w).trans or_assoc

theorem IsAdj.congr {N : Nat} {r : List Int} {adj adj' : Nat → Nat → Prop} (h : IsAdj N r adj) (e : ∀ v w, v < N → (adj v w ↔ adj' v w)) : IsAdj N r adj' :=
  ⟨h.1, fun v hv => ⟨(h.2 v hv).1, (h.2 v hv).2.1, fun w => ((h.2 v hv).2.2 w).trans (e v w hv)⟩⟩

theorem IsAdj.unique {N : Nat} {r r' : List Int} {adj : Nat → Nat → Prop} (h : IsAdj N r adj) (h' : IsAdj N r' adj) : r = r' := by
  apply List.ext_getElem (h.1.trans h'.1.symm)
  intro v h1 h2
  have hv : v < N := by rw [← h.1]; exact h1
  obtain ⟨a1, a2, a3⟩ := h.2 v hv
  obtain ⟨b1, b2, b3⟩ := h'.2 v hv
  have : (r.getD v 0).toNat = (r'.getD v 0).toNat := by
    apply Nat.eq_of_testBit_eq
    intro w
    have := (a3 w).trans (b3 w).symm
    unfold rbit at this
    cases h1 : (r.getD v 0).toNat.testBit w <;> cases h2 : (r'.getD v 0).toNat.testBit w <;> simp_all
  rw [getD_at r h1, getD_at r' h2] at this
  rw [getD_at r h1] at a1
  rw [getD_at r' h2] at b1
  omega

theorem IsAdj.zero (N : Nat) : IsAdj N (List.replicate N 0) (fun _ _ => False) := by
  refine ⟨by simp, fun v hv => ?_⟩
  have e : (List.replicate N (0 : Int)).getD v 0 = 0 := by simp [List.getD_eq_getElem?_getD, List.getElem?_replicate, hv]
  unfold rbit
  rw [e]
  simp

/-! ### the functions that put an edge -/
@[simp] theorem old_tup0 (n : Nat) : Old n (.tuple #[]) := old_undef n


/-- The rows that a relation tells. -/
noncomputable def adjRows (N : Nat) (adj : Nat → Nat → Prop) : List Int := Classical.epsilon fun r => IsAdj N r adj
theorem IsAdj.eq {N : Nat} {r : List Int} {adj : Nat → Nat → Prop} (h : IsAdj N r adj) : adjRows N adj = r :=
  IsAdj.unique (Classical.epsilon_spec (p := fun r => IsAdj N r adj) ⟨r, h⟩) h

/-- A graph and the code 0, or no graph and another code. -/
abbrev GAns := (Int × List Int) ⊕ Int
def gres (h : VH) : GAns → Value × VH
  | .inl (m, r) => (.tuple #[gv m (.slice (some ⟨h.length, 0, none⟩) r.length r.length), .int .i64 0], h ++ [⟨1, ints r⟩])
  | .inr c => (.tuple #[gv 0 (.slice none 0 0), .int .i64 c], h)
@[simp] theorem gres_inl (h : VH) (m : Int) (r : List Int) : gres h (.inl (m, r)) = (.tuple #[gv m (.slice (some ⟨h.length, 0, none⟩) r.length r.length), .int .i64 0], h ++ [⟨1, ints r⟩]) := rfl
@[simp] theorem gres_inr (h : VH) (c : Int) : gres h (.inr c) = (.tuple #[gv 0 (.slice none 0 0), .int .i64 c], h) := rfl
end Go.Proofs.Ytcdcmaakcldniaa.Zv

/- How many bits are set: the library's way with masks tells it. -/
namespace Go.Proofs.Ytcdcmaakcldniaa.Zv
open Go

/-- The number of bits that are set. -/
def pc (x : Nat) : Nat := if h : x = 0 then 0 else x % 2 + pc (x / 2)
 termination_by x
 decreasing_by omega

theorem pc_zero : pc 0 = 0 := by rw [pc]; simp
theorem pc_step (x : Nat) : pc x = x % 2 + pc (x / 2) := by
  by_cases h : x = 0
  · subst h; simp [pc_zero]
  · conv => lhs; rw [pc]
    simp [h]

/-- A number by its digits, the lowest one first. -/
def dig (b : Nat) : List Nat → Nat
  | [] => 0
  | d :: r => d + b * dig b r
/-- The lowest m bits. -/
def bitsL (x : Nat) : Nat → List Nat
  | 0 => []
  | m + 1 => x % 2 :: bitsL (x / 2) m
theorem bitsL_length (x m : Nat) : (bitsL x m).length = m := by
  induction m generalizing x with
  | zero => rfl
  | succ m ih => simp [bitsL, ih]
theorem bitsL_dig (x m : Nat) (h : x < 2 ^ m) : dig 2 (bitsL x m) = x := by
  induction m generalizing x with
  | zero => simp at h; simp [bitsL, dig, h]
  | succ m ih =>
    simp only [bitsL, dig]
    rw [ih (x / 2) (by rw [Nat.pow_succ] at h; omega)]
    omega
theorem bitsL_sum (x m : Nat) (h : x < 2 ^ m) : (bitsL x m).sum = pc x := by
  induction m generalizing x with
  | zero => simp at h; simp [bitsL, h, pc_zero]
  | succ m ih =>
    simp only [bitsL, List.sum_cons]
    rw [ih (x / 2) (by rw [Nat.pow_succ] at h; omega), ← pc_step]
theorem bitsL_le (x m : Nat) : ∀ d ∈ bitsL x m, d ≤ 1 := by
  induction m generalizing x with
  | zero => simp [bitsL]
  | succ m ih =>
    simp only [bitsL, List.mem_cons]
    rintro d (rfl | h)
    · omega
    · exact ih _ _ h

theorem and_split {a l r l' r' : Nat} (h : l < 2 ^ a) (h' : l' < 2 ^ a) : (l + 2 ^ a * r) &&& (l' + 2 ^ a * r') = (l &&& l') + 2 ^ a * (r &&& r') := by
  have hl : l &&& l' < 2 ^ a := Nat.and_lt_two_pow _ h'
  rw [Nat.add_comm l, Nat.add_comm l', Nat.add_comm (l &&& l')]
  apply Nat.eq_of_testBit_eq
  intro i
  rw [Nat.testBit_and, Nat.testBit_two_pow_mul_add _ h, Nat.testBit_two_pow_mul_add _ h', Nat.testBit_two_pow_mul_add _ hl]
  split <;> simp [Nat.testBit_and]

def msk (w : Nat) : Nat → Nat
  | 0 => 0
  | m + 1 => (2 ^ w - 1) + 2 ^ (2 * w) * msk w m

/-- Pairs of digits, added. -/
def pairs : List Nat → List Nat
  | a :: b :: r => (a + b) :: pairs r
  | _ => []
def evens : List Nat → List Nat
  | a :: _ :: r => a :: evens r
  | _ => []
def odds : List Nat → List Nat
  | _ :: b :: r => b :: odds r
  | _ => []

theorem two_w (w : Nat) : 2 ^ (2 * w) = 2 ^ w * 2 ^ w := by rw [Nat.two_mul, Nat.pow_add]
theorem mask_low {w d e : Nat} (h : d < 2 ^ w) : (d + 2 ^ w * e) &&& (2 ^ w - 1) = d := by
  rw [Nat.and_two_pow_sub_one_eq_mod, Nat.add_mul_mod_self_left, Nat.mod_eq_of_lt h]

theorem and_even (w : Nat) : ∀ (m : Nat) (ds : List Nat), ds.length = 2 * m → (∀ d ∈ ds, d < 2 ^ w) → dig (2 ^ w) ds &&& msk w m = dig (2 ^ (2 * w)) (evens ds)
  | 0, ds, hl, _ => by
    have : ds = [] := List.length_eq_zero_iff.mp (by omega)
    subst this; simp [dig, evens, msk]
  | m + 1, a :: b :: r, hl, hd => by
    have ha := hd a (by simp)
    have hb := hd b (by simp)
    have ih := and_even w m r (by simp at hl; omega) fun d h => hd d (by simp [h])
    have hp : 0 < 2 ^ w := Nat.two_pow_pos w
    have e : dig (2 ^ w) (a :: b :: r) = (a + 2 ^ w * b) + 2 ^ (2 * w) * dig (2 ^ w) r := by
      simp only [dig]
      rw [two_w, Nat.mul_add, Nat.mul_assoc, Nat.add_assoc]
    have hlt : a + 2 ^ w * b < 2 ^ (2 * w) := by
      rw [two_w]
      have : 2 ^ w * b + 2 ^ w ≤ 2 ^ w * 2 ^ w := by
        rw [← Nat.mul_succ]; exact Nat.mul_le_mul_left _ hb
      omega
    have hm : 2 ^ w - 1 < 2 ^ (2 * w) := by
      have : 2 ^ w ≤ 2 ^ (2 * w) := Nat.pow_le_pow_right (by omega) (by omega)
      omega
    rw [e, msk, and_split hlt hm, ih, mask_low ha]
    simp [evens, dig]
  | m + 1, [], hl, _ => by simp at hl
  | m + 1, [a], hl, _ => by simp at hl; omega

theorem dig_div (b : Nat) (hb : 0 < b) (d : Nat) (r : List Nat) (hd : d < b) : dig b (d :: r) / b = dig b r := by
  simp only [dig]
  rw [Nat.add_mul_div_left _ _ hb, Nat.div_eq_of_lt hd, Nat.zero_add]

theorem dig_append0 (b : Nat) (r : List Nat) : dig b (r ++ [0]) = dig b r := by
  induction r with
  | nil => simp [dig]
  | cons a r ih => simp [dig, ih]

theorem evens_tail : ∀ (ds : List Nat), ds.length % 2 = 0 → evens (ds.tail ++ [0]) = odds ds
  | [], _ => by simp [evens, odds]
  | [a], h => by simp at h
  | [a, b], _ => by simp [evens, odds]
  | a :: b :: c :: r, h => by
    have := evens_tail (c :: r) (by simp at h ⊢; omega)
    simp only [List.tail_cons, List.cons_append, evens, odds] at this ⊢
    rw [this]

theorem and_odd (w : Nat) (m : Nat) (ds : List Nat) (hl : ds.length = 2 * m) (hd : ∀ d ∈ ds, d < 2 ^ w) : (dig (2 ^ w) ds / 2 ^ w) &&& msk w m = dig (2 ^ (2 * w)) (odds ds) := by
  have hp : 0 < 2 ^ w := Nat.two_pow_pos w
  cases ds with
  | nil =>
    have : m = 0 := by simp at hl; omega
    subst this; simp [dig, odds, msk]
  | cons a r =>
    rw [dig_div _ hp _ _ (hd a (by simp)), ← dig_append0, and_even w m (r ++ [0]) (by simp at hl ⊢; omega) (by
      intro d h
      simp only [List.mem_append, List.mem_singleton] at h
      rcases h with h | rfl
      · exact hd d (by simp [h])
      · exact hp)]
    have := evens_tail (a :: r) (by omega)
    simp only [List.tail_cons] at this
    rw [this]

theorem eo_pairs (b : Nat) : ∀ (ds : List Nat), dig b (odds ds) + dig b (evens ds) = dig b (pairs ds)
  | [] => by simp [odds, evens, pairs, dig]
  | [a] => by simp [odds, evens, pairs, dig]
  | a :: c :: r => by
    have := eo_pairs b r
    simp only [odds, evens, pairs, dig]
    rw [← this, Nat.mul_add]
    omega
theorem pairs_sum : ∀ (ds : List Nat), ds.length % 2 = 0 → (pairs ds).sum = ds.sum
  | [], _ => rfl
  | [a], h => by simp at h
  | a :: b :: r, h => by
    have := pairs_sum r (by simp at h; omega)
    simp only [pairs, List.sum_cons, this]
    omega
theorem pairs_length : ∀ (ds : List Nat), (pairs ds).length = ds.length / 2
  | [] => rfl
  | [a] => by simp [pairs]
  | a :: b :: r => by
    have := pairs_length r
    simp only [pairs, List.length_cons, this]
    omega
theorem pairs_le (k : Nat) : ∀ (ds : List Nat), (∀ d ∈ ds, d ≤ k) → ∀ d ∈ pairs ds, d ≤ 2 * k
  | [], _ => by simp [pairs]
  | [a], _ => by simp [pairs]
  | a :: b :: r, h => by
    have h1 := h a (by simp)
    have h2 := h b (by simp)
    have ih := pairs_le k r fun d hd => h d (by simp [hd])
    simp only [pairs, List.mem_cons]
    rintro d (rfl | hd)
    · omega
    · exact ih d hd

/-- A step with masks: pairs of digits are added. -/
theorem mask_step (w m : Nat) (ds : List Nat) (hl : ds.length = 2 * m) (hd : ∀ d ∈ ds, d < 2 ^ w) : ((dig (2 ^ w) ds / 2 ^ w) &&& msk w m) + (dig (2 ^ w) ds &&& msk w m) = dig (2 ^ (2 * w)) (pairs ds) := by
  rw [and_odd w m ds hl hd, and_even w m ds hl hd, eo_pairs]

def neigh : List Nat → List Nat
  | a :: b :: r => (a + b) :: neigh (b :: r)
  | l => l
theorem neigh_length : ∀ (ds : List Nat), (neigh ds).length = ds.length
  | [] => rfl
  | [a] => rfl
  | a :: b :: r => by simp [neigh, neigh_length (b :: r)]
theorem neigh_le (k : Nat) : ∀ (ds : List Nat), (∀ d ∈ ds, d ≤ k) → ∀ d ∈ neigh ds, d ≤ 2 * k
  | [], _ => by simp [neigh]
  | [a], h => by simp only [neigh, List.mem_singleton]; rintro d rfl; have := h d (by simp); omega
  | a :: b :: r, h => by
    have h1 := h a (by simp)
    have h2 := h b (by simp)
    have ih := neigh_le k (b :: r) fun d hd => h d (List.mem_cons_of_mem _ hd)
    simp only [neigh, List.mem_cons]
    rintro d (rfl | hd)
    · omega
    · exact ih d hd
theorem neigh_dig (b : Nat) (hb : 0 < b) : ∀ (ds : List Nat), (∀ d ∈ ds, d < b) → dig b ds / b + dig b ds = dig b (neigh ds)
  | [], _ => by simp [dig, neigh]
  | [a], h => by
    rw [dig_div b hb a [] (h a (by simp))]
    simp [dig, neigh]
  | a :: c :: r, h => by
    have ih := neigh_dig b hb (c :: r) fun d hd => h d (List.mem_cons_of_mem _ hd)
    rw [dig_div b hb c r (h c (by simp))] at ih
    rw [dig_div b hb a (c :: r) (h a (by simp))]
    have e1 : dig b (a :: c :: r) = a + b * dig b (c :: r) := rfl
    have e2 : dig b (neigh (a :: c :: r)) = (a + c) + b * dig b (neigh (c :: r)) := rfl
    rw [e1, e2, ← ih, Nat.mul_add]
    have e3 : dig b (c :: r) = c + b * dig b r := rfl
    omega
theorem neigh_evens : ∀ (ds : List Nat), ds.length % 2 = 0 → evens (neigh ds) = pairs ds
  | [], _ => rfl
  | [a], h => by simp at h
  | [a, b], _ => rfl
  | a :: b :: c :: r, h => by
    have := neigh_evens (c :: r) (by simp at h ⊢; omega)
    have e : neigh (a :: b :: c :: r) = (a + b) :: (b + c) :: neigh (c :: r) := rfl
    rw [e]
    simp only [evens, pairs, this]

def addL : List Nat → List Nat → List Nat
  | a :: r, b :: s => (a + b) :: addL r s
  | [], s => s
  | r, [] => r
theorem addL_dig (b : Nat) : ∀ (r s : List Nat), dig b (addL r s) = dig b r + dig b s
  | [], s => by simp [addL, dig]
  | a :: r, [] => by simp [addL, dig]
  | a :: r, c :: s => by
    simp only [addL, dig]
    rw [addL_dig b r s, Nat.mul_add]
    omega
theorem dig_drop (b : Nat) (hb : 0 < b) : ∀ (k : Nat) (ds : List Nat), (∀ d ∈ ds, d < b) → dig b ds / b ^ k = dig b (ds.drop k)
  | 0, ds, _ => by simp
  | k + 1, [], _ => by simp [dig]
  | k + 1, d :: r, h => by
    rw [Nat.pow_succ, Nat.mul_comm, ← Nat.div_div_eq_div_mul, dig_div b hb d r (h d (by simp)), dig_drop b hb k r fun d hd => h d (List.mem_cons_of_mem _ hd)]
    rfl
theorem dig_lt (b : Nat) : ∀ (ds : List Nat), (∀ d ∈ ds, d + 1 ≤ b) → dig b ds + 1 ≤ b ^ ds.length
  | [], _ => by simp [dig]
  | d :: r, h => by
    have h1 := dig_lt b r fun d hd => h d (List.mem_cons_of_mem _ hd)
    have h2 := h d (by simp)
    simp only [dig, List.length_cons]
    have h3 : b * (dig b r + 1) ≤ b * b ^ r.length := Nat.mul_le_mul_left _ h1
    rw [Nat.mul_add] at h3
    rw [Nat.pow_succ, Nat.mul_comm (b ^ r.length)]
    omega

theorem dig_snoc (b : Nat) (t : Nat) : ∀ (r : List Nat), dig b (r ++ [t]) = dig b r + b ^ r.length * t
  | [] => by simp [dig]
  | a :: r => by
    simp only [List.cons_append, dig, List.length_cons]
    rw [dig_snoc b t r, Nat.mul_add, Nat.pow_succ, Nat.mul_comm (b ^ r.length) b, Nat.mul_assoc]
    omega

/-- The last steps: eight digits are added up. -/
theorem last_step (ds : List Nat) (hl : ds.length = 8) (hd : ∀ d ∈ ds, d ≤ 8) (x y z u : Nat) (hx : x = dig 256 ds) (hy : y = x + x / 2 ^ 8) (hz : z = y + y / 2 ^ 16) (hu : u = z + z / 2 ^ 32) : u % 128 = ds.sum ∧ u < 2 ^ 63 ∧ z < 2 ^ 64 ∧ y < 2 ^ 64 := by
  match ds, hl with
  | [a, b, c, d, e, f, g, h], _ =>
    have h1 := hd a (by simp)
    have h2 := hd b (by simp)
    have h3 := hd c (by simp)
    have h4 := hd d (by simp)
    have h5 := hd e (by simp)
    have h6 := hd f (by simp)
    have h7 := hd g (by simp)
    have h8 := hd h (by simp)
    clear hd
    have y0 : y = dig 256 [a + b, b + c, c + d, d + e, e + f, f + g, g + h, h] := by
      rw [hy, hx, show (2 : Nat) ^ 8 = 256 ^ 1 from rfl, dig_drop 256 (by omega) 1 _ (by simp; omega), ← addL_dig]
      rfl
    have z0 : z = dig 256 [a + b + (c + d), b + c + (d + e), c + d + (e + f), d + e + (f + g), e + f + (g + h), f + g + h, g + h, h] := by
      rw [hz, y0, show (2 : Nat) ^ 16 = 256 ^ 2 from rfl, dig_drop 256 (by omega) 2 _ (by simp; omega), ← addL_dig]
      rfl
    have u0 : u = dig 256 [a + b + (c + d) + (e + f + (g + h)), b + c + (d + e) + (f + g + h), c + d + (e + f) + (g + h), d + e + (f + g) + h, e + f + (g + h), f + g + h, g + h, h] := by
      rw [hu, z0, show (2 : Nat) ^ 32 = 256 ^ 4 from rfl, dig_drop 256 (by omega) 4 _ (by simp; omega), ← addL_dig]
      rfl
    refine ⟨?_, ?_, ?_, ?_⟩
    · rw [u0, dig]
      generalize dig 256 _ = R
      simp only [List.sum_cons, List.sum_nil]
      clear hx hy hz hu y0 z0 u0
      omega
    · have es := dig_snoc 256 h [a + b + (c + d) + (e + f + (g + h)), b + c + (d + e) + (f + g + h), c + d + (e + f) + (g + h), d + e + (f + g) + h, e + f + (g + h), f + g + h, g + h]
      have l := dig_lt 256 [a + b + (c + d) + (e + f + (g + h)), b + c + (d + e) + (f + g + h), c + d + (e + f) + (g + h), d + e + (f + g) + h, e + f + (g + h), f + g + h, g + h] (by simp; omega)
      simp only [List.cons_append, List.nil_append] at es
      rw [u0, es]
      generalize dig 256 _ = R at l ⊢
      simp only [List.length_cons, List.length_nil] at l ⊢
      clear hx hy hz hu y0 z0 u0 es
      omega
    · rw [z0]
      exact Nat.lt_of_lt_of_le (Nat.lt_of_succ_le (dig_lt 256 _ (by simp; omega))) (by simp)
    · rw [y0]
      exact Nat.lt_of_lt_of_le (Nat.lt_of_succ_le (dig_lt 256 _ (by simp; omega))) (by simp)

theorem msk1 : msk 1 32 = 6148914691236517205 := by decide +kernel
theorem msk2 : msk 2 16 = 3689348814741910323 := by decide +kernel
theorem msk4 : msk 4 8 = 1085102592571150095 := by decide +kernel

/-- All steps. -/
theorem pop_all (x : Nat) (hx : x < 2 ^ 64) (a b c d e f : Nat) (ha : a = ((x / 2 ^ 1) &&& 6148914691236517205) + (x &&& 6148914691236517205)) (hb : b = ((a / 2 ^ 2) &&& 3689348814741910323) + (a &&& 3689348814741910323)) (hc : c = (b / 2 ^ 4 + b) &&& 1085102592571150095) (hd : d = c + c / 2 ^ 8) (he : e = d + d / 2 ^ 16) (hf : f = e + e / 2 ^ 32) :
    f % 128 = pc x ∧ a < 2 ^ 64 ∧ b < 2 ^ 64 ∧ b / 2 ^ 4 + b < 2 ^ 64 ∧ c < 2 ^ 64 ∧ d < 2 ^ 64 ∧ e < 2 ^ 64 ∧ f < 2 ^ 63 := by
  have q0 := bitsL_length x 64
  have q1 := bitsL_le x 64
  have e0 := bitsL_dig x 64 hx
  have s0 := bitsL_sum x 64 hx
  generalize bitsL x 64 = l0 at q0 q1 e0 s0
  have a1 : a = dig (2 ^ 2) (pairs l0) := by
    rw [ha, ← msk1, ← e0]
    exact mask_step 1 32 l0 q0 fun d h => by have := q1 d h; omega
  have q2 := pairs_length l0
  have q3 := pairs_le 1 l0 q1
  have s1 := pairs_sum l0 (by omega)
  generalize pairs l0 = l1 at a1 q2 q3 s1
  have b1 : b = dig (2 ^ 4) (pairs l1) := by
    rw [hb, ← msk2, a1]
    exact mask_step 2 16 l1 (by omega) fun d h => by have := q3 d h; omega
  have q4 := pairs_length l1
  have q5 := pairs_le 2 l1 q3
  have s2 := pairs_sum l1 (by omega)
  have a2 : a < 2 ^ 64 := by
    have := dig_lt (2 ^ 2) l1 fun d h => by have := q3 d h; omega
    rw [q2, q0] at this
    rw [a1]
    omega
  generalize pairs l1 = l2 at b1 q4 q5 s2
  have b2 : b < 2 ^ 64 := by
    have := dig_lt (2 ^ 4) l2 fun d h => by have := q5 d h; omega
    rw [q4, q2, q0] at this
    rw [b1]
    omega
  have n1 : b / 2 ^ 4 + b = dig (2 ^ 4) (neigh l2) := by
    rw [b1]
    exact neigh_dig (2 ^ 4) (by omega) l2 fun d h => by have := q5 d h; omega
  have n2 := neigh_length l2
  have n3 := neigh_le 4 l2 q5
  have n4 := neigh_evens l2 (by omega)
  have b3 : b / 2 ^ 4 + b < 2 ^ 64 := by
    have := dig_lt (2 ^ 4) (neigh l2) fun d h => by have := n3 d h; omega
    rw [n2, q4, q2, q0] at this
    rw [n1]
    omega
  have c1 : c = dig (2 ^ 8) (pairs l2) := by
    rw [hc, ← msk4, n1, and_even 4 8 (neigh l2) (by omega) (fun d h => by have := n3 d h; omega), n4]
  have q6 := pairs_length l2
  have q7 := pairs_le 4 l2 q5
  have s3 := pairs_sum l2 (by omega)
  generalize pairs l2 = l3 at c1 q6 q7 s3
  have c2 : c < 2 ^ 64 := by
    have := dig_lt (2 ^ 8) l3 fun d h => by have := q7 d h; omega
    rw [q6, q4, q2, q0] at this
    rw [c1]
    omega
  obtain ⟨r1, r2, r3, r4⟩ := last_step l3 (by omega) q7 c d e f c1 hd he hf
  exact ⟨by omega, a2, b2, b3, c2, r4, r3, r2⟩
end Go.Proofs.Ytcdcmaakcldniaa.Zv

/- Neighbours, vertices that are in range, covers. -/
namespace Go.Proofs.Ytcdcmaakcldniaa.Zv
open Go
variable {nro : Nat}

/-! ### how many bits -/
theorem and_127 {a : Nat} (ha : a < 2 ^ 63) : iand .i64 (a : Int) 127 = ((a % 128 : Nat) : Int) := by
  have := iand_nat (a := a) (b := 127) ha (by omega)
  rw [show (127 : Nat) = 2 ^ 7 - 1 from rfl, Nat.and_two_pow_sub_one_eq_mod] at this
  exact this

theorem c_math_bits_OnesCount64 (x : Nat) (h : VH) (hx : x < 2 ^ 63) : vcall F nro k_math_bits_OnesCount64 [.int .u64 x] h = some (.int .i64 (pc x), h) := by
  refine v_math_bits_OnesCount64 (by simp [i_math_bits_OnesCount64]) ?_
  rw [fbody_eq]
  obtain ⟨a, ha⟩ : ∃ a, a = ((x / 2 ^ 1) &&& 6148914691236517205) + (x &&& 6148914691236517205) := ⟨_, rfl⟩
  obtain ⟨b, hb⟩ : ∃ b, b = ((a / 2 ^ 2) &&& 3689348814741910323) + (a &&& 3689348814741910323) := ⟨_, rfl⟩
  obtain ⟨c, hc⟩ : ∃ c, c = (b / 2 ^ 4 + b) &&& 1085102592571150095 := ⟨_, rfl⟩
  obtain ⟨d, hd⟩ : ∃ d, d = c + c / 2 ^ 8 := ⟨_, rfl⟩
  obtain ⟨e, he⟩ : ∃ e, e = d + d / 2 ^ 16 := ⟨_, rfl⟩
  obtain ⟨f, hf⟩ : ∃ f, f = e + e / 2 ^ 32 := ⟨_, rfl⟩
  obtain ⟨r1, r2, r3, r4, r5, r6, r7, r8⟩ := pop_all x (by omega) a b c d e f ha hb hc hd he hf
  have q1 : ∀ y : Nat, ishr .u64 (y : Int) 1 = ((y / 2 ^ 1 : Nat) : Int) := fun y => shr_u64 (a := y) (b := 1) (by omega)
  have q2 : ∀ y : Nat, ishr .u64 (y : Int) 2 = ((y / 2 ^ 2 : Nat) : Int) := fun y => shr_u64 (a := y) (b := 2) (by omega)
  have q4 : ∀ y : Nat, ishr .u64 (y : Int) 4 = ((y / 2 ^ 4 : Nat) : Int) := fun y => shr_u64 (a := y) (b := 4) (by omega)
  have q8 : ∀ y : Nat, ishr .u64 (y : Int) 8 = ((y / 2 ^ 8 : Nat) : Int) := fun y => shr_u64 (a := y) (b := 8) (by omega)
  have q16 : ∀ y : Nat, ishr .u64 (y : Int) 16 = ((y / 2 ^ 16 : Nat) : Int) := fun y => shr_u64 (a := y) (b := 16) (by omega)
  have q32 : ∀ y : Nat, ishr .u64 (y : Int) 32 = ((y / 2 ^ 32 : Nat) : Int) := fun y => shr_u64 (a := y) (b := 32) (by omega)
  have w : ∀ y : Nat, y < 2 ^ 64 → IntKind.u64.wrap (y : Int) = (y : Int) := fun y hy => wrapu64 (by omega) (by omega)
  have s1 : IntKind.u64.wrap (iand .u64 (ishr .u64 (x : Int) 1) 6148914691236517205 + iand .u64 (x : Int) 6148914691236517205) = (a : Int) := by
    rw [q1, show (6148914691236517205 : Int) = ((6148914691236517205 : Nat) : Int) from rfl, and_u64 (by omega) (by omega), and_u64 (by omega) (by omega), ← Int.natCast_add, ← ha]
    exact w a r2
  have s2 : IntKind.u64.wrap (iand .u64 (ishr .u64 (a : Int) 2) 3689348814741910323 + iand .u64 (a : Int) 3689348814741910323) = (b : Int) := by
    rw [q2, show (3689348814741910323 : Int) = ((3689348814741910323 : Nat) : Int) from rfl, and_u64 (by omega) (by omega), and_u64 (by omega) (by omega), ← Int.natCast_add, ← hb]
    exact w b r3
  have s3 : iand .u64 (IntKind.u64.wrap (ishr .u64 (b : Int) 4 + (b : Int))) 1085102592571150095 = (c : Int) := by
    rw [q4, ← Int.natCast_add, w _ r4, show (1085102592571150095 : Int) = ((1085102592571150095 : Nat) : Int) from rfl, and_u64 r4 (by omega), ← hc]
  have s4 : IntKind.u64.wrap ((c : Int) + ishr .u64 (c : Int) 8) = (d : Int) := by
    rw [q8, ← Int.natCast_add, ← hd, w _ r6]
  have s5 : IntKind.u64.wrap ((d : Int) + ishr .u64 (d : Int) 16) = (e : Int) := by
    rw [q16, ← Int.natCast_add, ← he, w _ r7]
  have s6 : IntKind.u64.wrap ((e : Int) + ishr .u64 (e : Int) 32) = (f : Int) := by
    rw [q32, ← Int.natCast_add, ← hf, w _ (by omega)]
  have s7 : iand .i64 (IntKind.i64.wrap (f : Int)) 127 = (pc x : Int) := by
    rw [wrap64 (by omega) (by omega), and_127 r8, r1]
  clear r1 r2 r3 r4 r5 r6 r7 r8 ha hb hc hd he hf q1 q2 q4 q8 q16 q32 w
  simp (disch := first | assumption | omega | (simp [*] <;> omega) | fail) [i_math_bits_OnesCount64, s1, s2, s3, s4, s5, s6, s7]

theorem c_impl_size (x : Int) (h : VH) (h0 : 0 ≤ x) (hx : x < 4611686018427387904) : vcall F nro k_impl_size [.int .i64 x] h = some (.int .i64 (pc x.toNat), h) := by
  refine v_impl_size (by simp [i_impl_size]) ?_
  rw [fbody_eq]
  have hc := c_math_bits_OnesCount64 (nro := nro) x.toNat h (by omega)
  rw [Int.toNat_of_nonneg h0] at hc
  simp (disch := first | assumption | omega | (simp [*] <;> omega) | fail) [i_impl_size, wrapu64, hc]

theorem sli_at {h : VH} {b : Nat} {xs : List Int} (hb : h[b]? = some ⟨1, ints xs⟩) : Sli h (.slice (some ⟨b, 0, none⟩) xs.length xs.length) xs := by simp [Sli, Sl, hb]

/-! ### vertices in range -/
/-! ### neighbours -/
theorem ints_snoc (ys : List Int) (w : Int) : ints ys ++ [Value.int .i64 w] = ints (ys ++ [w]) := by simp [ints]
end Go.Proofs.Ytcdcmaakcldniaa.Zv

/- Marks: what is written into a graph's rows, and what is held there. -/
namespace Go.Proofs.Ytcdcmaakcldniaa.Zv
open Go
variable {nro : Nat}

/-- k, k + 1, .. -/
def cnt (k : Int) (n : Nat) : List Int := (List.range n).map fun (i : Nat) => k + (i : Int)
@[simp] theorem cnt_length (k : Int) (n : Nat) : (cnt k n).length = n := by simp [cnt]
@[simp] theorem take_cnt (k : Int) (n : Nat) : List.take n (ints (cnt k n)) = ints (cnt k n) := List.take_of_length_le (by simp)

@[simp] theorem cnt_zero (k : Int) : cnt k 0 = [] := rfl

end Go.Proofs.Ytcdcmaakcldniaa.Zv

/- Edges put in and taken out: PutEdge, TakeEdge. -/
namespace Go.Proofs.Ytcdcmaakcldniaa.Zv
open Go
variable {nro : Nat}

/-! ### copies -/
theorem ints_nj (xs : List Int) : ∀ x ∈ ints xs, isJunk x = false := by
  intro x hx
  obtain ⟨n, _, rfl⟩ := List.mem_map.mp hx
  rfl
theorem Sli.neqnil {h : VH} {s : Value} {xs : List Int} (hs : Sli h s xs) (hx : xs ≠ []) (neg : Bool) : veqnilS neg h s = some (.bool neg, h) := by
  unfold Sli Sl vsrc at hs
  split at hs
  · cases xs with
    | nil => exact absurd rfl hx
    | cons x r => simp at hs
  · cases xs with
    | nil => exact absurd rfl hx
    | cons x r => simp at hs
  · rename_i a n tot
    split at hs
    · rename_i o ho
      split at hs
      · rename_i hc
        simp [ho, hc.2.1]
      · cases hs
    · cases hs
  · cases hs
theorem c_slices_Clone (s : Value) (xs : List Int) (h : VH) (hs : Sli h s xs) (hx : xs ≠ []) (hl : xs.length ≤ 1000) (hn : nro ≤ h.length) :
    vcall F nro k_slices_Clone_int64_int64 [s] h = some (.slice (some ⟨h.length, 0, none⟩) xs.length xs.length, h ++ [⟨1, ints xs⟩]) := by
  refine v_slices_Clone_int64_int64 (by simp [i_slices_Clone_int64_int64]) ?_
  rw [fbody_eq]
  have hv : vsrc 1 (h ++ [⟨1, []⟩]) s = some (ints xs, (ints xs).length) := hs.app _
  have hn' := fun k => Nat.le_trans hn (Nat.le_add_right h.length k)
  have b1 : xs.length * 8 ≤ 1099511627776 := by omega
  have b2 : xs.length ≤ 1099511627776 := by omega
  simp (disch := first | assumption | omega | (simp [*] <;> omega) | fail) [i_slices_Clone_int64_int64, hs.neqnil hx, hv, hn, hn', b1, b2]
  have hj := ints_nj xs
  unfold isJunk at hj
  exact hj

/-! ### an edge less -/
theorem sub_bit {x b : Nat} (h : x.testBit b = true) : 2 ^ b ≤ x ∧ ∀ w, (x - 2 ^ b).testBit w = (x.testBit w && decide (w ≠ b)) := by
  have hx : x = 2 ^ (b + 1) * (x / 2 ^ (b + 1)) + (2 ^ b + x % 2 ^ b) := by
    have h1 := Nat.div_add_mod x (2 ^ (b + 1))
    have h2 : x % 2 ^ (b + 1) = x % 2 ^ b + 2 ^ b * (x / 2 ^ b % 2) := Nat.mod_pow_succ
    rw [Nat.testBit_eq_decide_div_mod_eq] at h
    have h3 : x / 2 ^ b % 2 = 1 := by simpa using h
    rw [h3] at h2
    omega
  have hr : x % 2 ^ b < 2 ^ b := Nat.mod_lt _ (Nat.two_pow_pos b)
  have hp : 2 ^ (b + 1) = 2 * 2 ^ b := by rw [Nat.pow_succ]; omega
  refine ⟨by omega, fun w => ?_⟩
  have e1 : x - 2 ^ b = 2 ^ (b + 1) * (x / 2 ^ (b + 1)) + x % 2 ^ b := by omega
  rw [e1]
  conv => rhs; rw [hx]
  rw [Nat.testBit_two_pow_mul_add _ (by omega), Nat.testBit_two_pow_mul_add _ (by omega)]
  by_cases hw : w < b + 1
  · rw [if_pos hw, if_pos hw]
    have e2 := Nat.testBit_two_pow_mul_add 1 hr w
    rw [Nat.mul_one] at e2
    rw [e2]
    by_cases hw2 : w < b
    · simp [hw2, Nat.ne_of_lt hw2]
    · have : w = b := by omega
      subst this
      simp
  · rw [if_neg hw, if_neg hw]
    have : w ≠ b := by omega
    simp [this]

/-- Bit b of row a is cleared. -/
def cut1 (r : List Int) (a b : Int) : List Int := r.set a.toNat (r.getD a.toNat 0 - 2 ^ b.toNat)
def cut2 (r : List Int) (a b : Int) : List Int := cut1 (cut1 r a b) b a
@[simp] theorem cut1_length (r : List Int) (a b : Int) : (cut1 r a b).length = r.length := by simp [cut1]
@[simp] theorem cut2_length (r : List Int) (a b : Int) : (cut2 r a b).length = r.length := by simp [cut2]

theorem IsAdj.cut1 {N : Nat} {r : List Int} {adj : Nat → Nat → Prop} (h : IsAdj N r adj) {a b : Int} (ha : 0 ≤ a) (ha2 : a < N) (hab : adj a.toNat b.toNat) :
    IsAdj N (cut1 r a b) (fun v w => adj v w ∧ ¬ (v = a.toNat ∧ w = b.toNat)) := by
  obtain ⟨hl, hr⟩ := h
  refine ⟨by simp [hl], fun v hv => ?_⟩
  obtain ⟨h1, h2, h3⟩ := hr v hv
  by_cases e : v = a.toNat
  · subst e
    have hbit := (h3 b.toNat).mpr hab
    unfold rbit at hbit
    obtain ⟨s1, s2⟩ := sub_bit hbit
    have hg : (Zv.cut1 r a b).getD a.toNat 0 = (((r.getD a.toNat 0).toNat - 2 ^ b.toNat : Nat) : Int) := by
      rw [getD_at _ (by simp; omega)]
      simp only [Zv.cut1, List.getElem_set_self]
      have hp2 : ((2 ^ b.toNat : Nat) : Int) = (2 : Int) ^ b.toNat := by simp
      rw [Int.ofNat_sub s1, hp2, Int.toNat_of_nonneg h1]
    have hsub := Nat.sub_le (r.getD a.toNat 0).toNat (2 ^ b.toNat)
    unfold rbit
    rw [hg]
    refine ⟨by omega, by omega, fun w => ?_⟩
    rw [Int.toNat_natCast, s2]
    have := h3 w
    unfold rbit at this
    simp only [Bool.and_eq_true, decide_eq_true_eq, this]
    simp
  · have hg : (Zv.cut1 r a b).getD v 0 = r.getD v 0 := by
      unfold Zv.cut1
      simp only [List.getD_eq_getElem?_getD, List.getElem?_set]
      rw [if_neg (fun h => e h.symm)]
    unfold rbit
    rw [hg]
    refine ⟨h1, h2, fun w => ?_⟩
    have := h3 w
    unfold rbit at this
    rw [this]
    simp [e]
theorem IsAdj.cut2 {N : Nat} {r : List Int} {adj : Nat → Nat → Prop} (h : IsAdj N r adj) {a b : Int} (ha : 0 ≤ a) (ha2 : a < N) (hb : 0 ≤ b) (hb2 : b < N) (hne : a ≠ b) (hab : adj a.toNat b.toNat) (hba : adj b.toNat a.toNat) :
    IsAdj N (cut2 r a b) (fun v w => adj v w ∧ ¬ ((v = a.toNat ∧ w = b.toNat) ∨ (v = b.toNat ∧ w = a.toNat))) := by
  have h1 := (h.cut1 ha ha2 hab).cut1 (a := b) (b := a) hb hb2 ⟨hba, fun h => by omega⟩
  refine h1.congr fun v w _ => ?_
  constructor
  · rintro ⟨⟨h1, h2⟩, h3⟩; exact ⟨h1, fun h => h.elim h2 h3⟩
  · rintro ⟨h1, h2⟩; exact ⟨⟨h1, fun h => h2 (.inl h)⟩, fun h => h2 (.inr h)⟩

theorem GV.isAdj {n : Int} {rows : List Int} (g : GV n rows) : IsAdj rows.length rows (fun v w => rbit rows v w = true) := by
  have hp := pow_le62 g.hi
  refine ⟨rfl, fun v hv => ?_⟩
  obtain ⟨h1, h2, _⟩ := g.row v hv
  exact ⟨h1, by omega, fun w => Iff.rfl⟩

end Go.Proofs.Ytcdcmaakcldniaa.Zv

/- The program's distances from a vertex. -/
namespace Go.Proofs.Ytcdcmaakcldniaa.Zv
open Go
variable {nro : Nat}

/-! ### a slice of one number, repeated -/
/-- Half done. -/
def rep (n m : Nat) : List Int := List.replicate m (-1) ++ List.replicate (n - m) 0
end Go.Proofs.Ytcdcmaakcldniaa.Zv

/- Graphs that are filled with all edges that may be. -/
namespace Go.Proofs.Ytcdcmaakcldniaa.Zv
open Go
variable {nro : Nat}

theorem Rok.isAdj {n : Nat} {rows : List Int} (R : Rok n rows) : IsAdj n rows (fun v w => rbit rows v w = true) := by
  refine ⟨R.len, fun v hv => ?_⟩
  obtain ⟨r1, r2⟩ := R.row v hv
  have := le62 R.le r2
  exact ⟨r1, by omega, fun w => Iff.rfl⟩
theorem bit_lt {x n j : Nat} (h : x < 2 ^ n) (hb : x.testBit j = true) : j < n := by
  rcases Nat.lt_or_ge j n with h1 | h1
  · exact h1
  · rw [Nat.testBit_lt_two_pow (Nat.lt_of_lt_of_le h (Nat.pow_le_pow_right (by omega) h1))] at hb
    cases hb
theorem Rok.lt {n : Nat} {rows : List Int} (R : Rok n rows) {v w : Nat} (hv : v < n) (h : rbit rows v w = true) : w < n := bit_lt (R.row v hv).2 h
theorem Rok.of {n : Nat} {rows : List Int} {adj : Nat → Nat → Prop} (h : IsAdj n rows adj) (hn : n ≤ 62) (hlt : ∀ v w, v < n → adj v w → w < n) : Rok n rows := by
  refine ⟨h.1, hn, fun v hv => ?_⟩
  obtain ⟨h1, _, h3⟩ := h.2 v hv
  refine ⟨h1, Nat.lt_pow_two_of_testBit _ fun w hw => ?_⟩
  have : ¬ rbit rows v w = true := fun hb => by
    have := hlt v w hv ((h3 w).mp hb)
    omega
  unfold rbit at this
  simpa using this
theorem Rok.put2 {n : Nat} {rows : List Int} (R : Rok n rows) {v w : Nat} (hv : v < n) (hw : w < n) : Rok n (put2 rows v w) := by
  have := R.isAdj.put2 (a := (v : Int)) (b := (w : Int)) (by omega) (by omega) (by omega) (by omega) R.le
  refine Rok.of this R.le fun x y hx hxy => ?_
  rcases hxy with h | ⟨_, h⟩ | ⟨_, h⟩
  · exact R.lt hx h
  · omega
  · omega
theorem Rok.zero {n : Nat} (hn : n ≤ 62) : Rok n (List.replicate n 0) := Rok.of (IsAdj.zero n) hn fun _ _ _ h => h.elim
theorem GV.rok {n : Nat} {rows : List Int} (g : GV n rows) : Rok n rows := by
  have hl := g.len
  have hi := g.hi
  refine ⟨by omega, by omega, fun v hv => ?_⟩
  obtain ⟨h1, h2, _⟩ := g.row v (by omega)
  refine ⟨h1, ?_⟩
  rw [Int.toNat_natCast] at h2
  have e : ((2 ^ n : Nat) : Int) = (2 : Int) ^ n := by simp
  omega

end Go.Proofs.Ytcdcmaakcldniaa.Zv

/- Girths: the least length of a cycle with an edge, at a vertex, of all. -/
namespace Go.Proofs.Ytcdcmaakcldniaa.Zv
open Go
variable {nro : Nat}

theorem rbit_lt {n : Nat} {rows : List Int} (R : Rok n rows) {v w : Nat} (h : rbit rows v w = true) : v < n ∧ w < n := by
  have hv : v < n := by
    rcases Nat.lt_or_ge v n with h1 | h1
    · exact h1
    · have hl := R.len
      unfold rbit at h
      rw [List.getD_eq_getElem?_getD, List.getElem?_eq_none (by omega)] at h
      simp at h
  exact ⟨hv, R.lt hv h⟩
theorem GV.ne {n : Nat} {rows : List Int} (g : GV n rows) {v w : Nat} (h : rbit rows v w = true) : v ≠ w := by
  rintro rfl
  have hl := g.len
  obtain ⟨h1, _⟩ := rbit_lt g.rok h
  obtain ⟨_, _, h2⟩ := g.row v (by omega)
  rw [h2] at h
  cases h
/-! ### the least of lengths -/
end Go.Proofs.Ytcdcmaakcldniaa.Zv

/- Lists of lists in new memory. -/
namespace Go.Proofs.Ytcdcmaakcldniaa.Zv
open Go
variable {nro : Nat}

/-- Where nothing is handed on that is new, a cleaning drops all that is new, or nothing. -/
theorem cleanup_old {h0 h : VH} {vs : List Value} (hv : ∀ v ∈ vs, Old h0.length v) : kclean h0 vs h = (vs, h) ∨ (okT h0.length h0 (h.take h0.length) ∧ kclean h0 vs h = (vs, h.take h0.length)) := by
  unfold kclean cleanup
  rw [keepL_nil hv]
  by_cases hc : okT h0.length h0 (h.take h0.length) ∧ flatL h0.length [] h
  · rw [if_pos hc]
    refine .inr ⟨hc.1, ?_⟩
    simp only [List.filterMap_nil, List.append_nil, Prod.mk.injEq, and_true]
    have : ∀ v ∈ vs, tren (renOf h0.length []) v = v := fun v h => tren_old (hv v h) fun i hi => by simp only [renOf, if_pos hi]
    exact (List.map_congr_left this).trans (by simp)
  · rw [if_neg hc]
    exact .inl rfl

/-- A list of lists in new memory from n on: each inner list in an object of its own. -/
structure EI (n : Nat) (vs : List Value) (G : VH) (ess : List (List Int)) : Prop where
  len : vs.length = ess.length
  at_ : ∀ i : Nat, i < ess.length → ∃ k, vs[i]? = some (.slice (some ⟨n + k, 0, none⟩) (ess.getD i []).length (ess.getD i []).length) ∧ G[k]? = some ⟨1, ints (ess.getD i [])⟩
  nd : (vs.flatMap arefs).Nodup

theorem EI.nil (n : Nat) (G : VH) : EI n [] G [] := ⟨rfl, fun i hi => by simp at hi, by simp⟩
theorem EI.more {n : Nat} {vs : List Value} {G : VH} {ess : List (List Int)} (e : EI n vs G ess) (L : VH) : EI n vs (G ++ L) ess := by
  refine ⟨e.len, fun i hi => ?_, e.nd⟩
  obtain ⟨k, h1, h2⟩ := e.at_ i hi
  exact ⟨k, h1, by rw [List.getElem?_append_left (List.getElem?_eq_some_iff.mp h2).1]; exact h2⟩
theorem EI.lt {n : Nat} {vs : List Value} {G : VH} {ess : List (List Int)} (e : EI n vs G ess) {r : Nat} (hr : r ∈ vs.flatMap arefs) : n ≤ r ∧ r < n + G.length := by
  obtain ⟨v, hv, hr⟩ := List.mem_flatMap.mp hr
  obtain ⟨i, hi, rfl⟩ := List.mem_iff_getElem.mp hv
  have hl := e.len
  obtain ⟨k, h1, h2⟩ := e.at_ i (by omega)
  have h3 := (List.getElem?_eq_some_iff.mp h1).2
  have h4 := (List.getElem?_eq_some_iff.mp h2).1
  rw [h3] at hr
  simp [arefs] at hr
  omega
theorem EI.push {n : Nat} {vs : List Value} {G : VH} {ess : List (List Int)} (e : EI n vs G ess) (xs : List Int) (L : VH) : EI n (vs ++ [.slice (some ⟨n + G.length, 0, none⟩) xs.length xs.length]) (G ++ ⟨1, ints xs⟩ :: L) (ess ++ [xs]) := by
  have hl := e.len
  have e2 := e.more (⟨1, ints xs⟩ :: L)
  refine ⟨by simp [hl], fun i hi => ?_, ?_⟩
  · by_cases h : i < ess.length
    · obtain ⟨k', h1, h2⟩ := e2.at_ i h
      have e1 : (ess ++ [xs]).getD i [] = ess.getD i [] := by simp only [List.getD_eq_getElem?_getD]; rw [List.getElem?_append_left h]
      rw [e1]
      exact ⟨k', by rw [List.getElem?_append_left (by omega)]; exact h1, h2⟩
    · have hi2 : i = ess.length := by simp at hi; omega
      subst hi2
      have e1 : (ess ++ [xs]).getD ess.length [] = xs := by simp [List.getD_eq_getElem?_getD]
      rw [e1]
      exact ⟨G.length, by rw [← hl]; simp, by simp⟩
  · rw [List.flatMap_append]
    refine List.nodup_append.mpr ⟨e.nd, by simp [arefs], fun a ha b hb => ?_⟩
    have := (e.lt ha).2
    simp [arefs] at hb
    omega

/-- A list of lists that a call has handed out: in memory from n on. -/
def SL2 (n : Nat) (M : VH) (v : Value) (ess : List (List Int)) : Prop := ∃ b vs, v = .slice (some ⟨n + b, 0, none⟩) ess.length ess.length ∧ M[b]? = some ⟨1, vs⟩ ∧ EI n vs M ess

theorem EI.cleanP {P0 P : VH} {vs0 vs vals : List Value} {G0 G : VH} {ess0 ess : List (List Int)} (e0 : EI (P.length + 1) vs0 G0 ess0) (e : EI (P.length + 1) vs G ess) (hP : P0.length = P.length) (hG : G0.length ≤ G.length) (hv : ∀ v ∈ vals, Old (P.length + 1 + G0.length) v) :
    ∃ G1, kclean (P0 ++ ⟨1, vs0⟩ :: G0) vals (P ++ ⟨1, vs⟩ :: G) = (vals, P ++ ⟨1, vs⟩ :: G1) ∧ EI (P.length + 1) vs G1 ess ∧ G0.length ≤ G1.length := by
  have hlen : (P0 ++ (⟨1, vs0⟩ : VO) :: G0).length = P.length + 1 + G0.length := by simp; omega
  rcases cleanup_old (h0 := P0 ++ ⟨1, vs0⟩ :: G0) (h := P ++ ⟨1, vs⟩ :: G) (vs := vals) (by rw [hlen]; exact hv) with hk | ⟨hok, hk⟩
  · exact ⟨G, hk, e, hG⟩
  · have e1 : (P ++ (⟨1, vs⟩ : VO) :: G).take (P0 ++ (⟨1, vs0⟩ : VO) :: G0).length = P ++ ⟨1, vs⟩ :: G.take G0.length := by
      rw [hlen, List.take_append, List.take_of_length_le (by omega)]
      rw [show P.length + 1 + G0.length - P.length = G0.length + 1 by omega]
      rfl
    rw [e1] at hk hok
    refine ⟨G.take G0.length, hk, ⟨e.len, fun i hi => ?_, e.nd⟩, by simp; omega⟩
    obtain ⟨k, h1, h2⟩ := e.at_ i hi
    have hk : k < G0.length := by
      have h3 := hok P.length ⟨1, vs⟩ (by rw [hget0]; rfl)
      have hmem : P.length + 1 + k ∈ orefs ⟨1, vs⟩ := by
        unfold orefs
        refine List.mem_flatMap.mpr ⟨_, List.mem_of_getElem? h1, ?_⟩
        simp [crefs, arefs]
      rcases h3 with h3 | h3
      · rw [← hP, hget0] at h3
        simp at h3
        subst h3
        have hi0 : i < ess0.length := by
          have := (List.getElem?_eq_some_iff.mp h1).1
          rw [← e0.len]; exact this
        obtain ⟨k', h4, h5⟩ := e0.at_ i hi0
        rw [h1] at h4
        simp at h4
        have : k = k' := h4.1
        subst this
        exact (List.getElem?_eq_some_iff.mp h5).1
      · have := h3 _ hmem
        rw [hlen] at this
        omega
    exact ⟨k, h1, by rw [List.getElem?_take, if_pos hk]; exact h2⟩

theorem EI.cleanP' {P0 P : VH} {vs0 vs vals : List Value} {G0 G : VH} {ess0 ess : List (List Int)} (e0 : EI (P.length + 1) vs0 G0 ess0) (e : EI (P.length + 1) vs G ess) (hP : P0.length = P.length) (hG : G0.length ≤ G.length) (hv : ∀ v ∈ vals, Old (P.length + 1 + G0.length) v) :
    ∃ G1, kclean (P0 ++ ⟨1, vs0⟩ :: G0) vals (P ++ ⟨1, vs⟩ :: G) = (vals, P ++ ⟨1, vs⟩ :: G1) ∧ EI (P.length + 1) vs G1 ess ∧ G0.length ≤ G1.length ∧ ∀ k, k < G0.length → G1[k]? = G[k]? := by
  obtain ⟨G1, h1, h2, h3⟩ := EI.cleanP e0 e hP hG hv
  refine ⟨G1, h1, h2, h3, ?_⟩
  have hlen : (P0 ++ (⟨1, vs0⟩ : VO) :: G0).length = P.length + 1 + G0.length := by simp; omega
  rcases cleanup_old (h0 := P0 ++ ⟨1, vs0⟩ :: G0) (h := P ++ ⟨1, vs⟩ :: G) (vs := vals) (by rw [hlen]; exact hv) with hk | ⟨_, hk⟩
  · rw [h1] at hk
    simp at hk
    rw [hk]
    intro k _; rfl
  · have e1 : (P ++ (⟨1, vs⟩ : VO) :: G).take (P0 ++ (⟨1, vs0⟩ : VO) :: G0).length = P ++ ⟨1, vs⟩ :: G.take G0.length := by
      rw [hlen, List.take_append, List.take_of_length_le (by omega)]
      rw [show P.length + 1 + G0.length - P.length = G0.length + 1 by omega]
      rfl
    rw [h1, e1] at hk
    simp at hk
    rw [hk]
    intro k hk2
    rw [List.getElem?_take, if_pos hk2]

/-- A function's end: a list of lists is handed out, perhaps beside something flat. -/
theorem EI.fin {h pre : VH} {vs : List Value} {G : VH} {ess : List (List Int)} (e : EI (h.length + pre.length + 1) vs G ess) (w : Value → Value) (hw1 : ∀ a n t, trefs (w (.slice (some a) n t)) = [a.block]) (hw2 : ∀ r a n t, tren r (w (.slice (some a) n t)) = w (.slice (some { a with block := r a.block }) n t)) :
    ∃ v M, kclean h [w (.slice (some ⟨h.length + pre.length, 0, none⟩) vs.length vs.length)] (h ++ (pre ++ ⟨1, vs⟩ :: G)) = ([w v], h ++ M) ∧ SL2 h.length M v ess := by
  have hl2 := e.len
  have hk : keepL h.length [w (.slice (some ⟨h.length + pre.length, 0, none⟩) vs.length vs.length)] = [h.length + pre.length] := by
    unfold keepL
    simp [hw1, dedup]
  have hget : (h ++ (pre ++ ⟨1, vs⟩ :: G))[h.length + pre.length]? = some ⟨1, vs⟩ := by rw [hgetk]; simp
  by_cases hf : flatL h.length [h.length + pre.length] (h ++ (pre ++ ⟨1, vs⟩ :: G))
  · have hvs : vs = [] := by
      obtain ⟨o, ho, hr⟩ := hf (h.length + pre.length) (by simp)
      have : o = ⟨1, vs⟩ := by rw [hget] at ho; simpa using ho.symm
      subst this
      cases hv : ess with
      | nil => rw [hv] at hl2; exact List.length_eq_zero_iff.mp hl2
      | cons x r =>
        exfalso
        obtain ⟨j, h1, _⟩ := e.at_ 0 (by rw [hv]; simp)
        have := hr (h.length + pre.length + 1 + j) (by
          unfold orefs
          refine List.mem_flatMap.mpr ⟨_, List.mem_of_getElem? h1, ?_⟩
          simp [crefs, arefs])
        omega
    subst hvs
    have hes : ess = [] := List.length_eq_zero_iff.mp hl2.symm
    rw [hes]
    refine ⟨.slice (some ⟨h.length + 0, 0, none⟩) 0 0, [⟨1, []⟩], ?_, 0, [], by simp, rfl, EI.nil _ _⟩
    rw [cleanup_keep hk hf]
    simp [hw2, renOf_one, hget]
  · refine ⟨.slice (some ⟨h.length + pre.length, 0, none⟩) vs.length vs.length, pre ++ ⟨1, vs⟩ :: G, ?_, pre.length, vs, by rw [hl2], by simp, hl2, fun i hi => ?_, e.nd⟩
    · unfold kclean cleanup
      rw [hk, if_neg (fun h => hf h.2)]
    · obtain ⟨j, h1, h2⟩ := e.at_ i hi
      exact ⟨pre.length + 1 + j, by rw [h1]; congr 4; omega, by
        rw [List.getElem?_append_right (by omega), show pre.length + 1 + j - pre.length = j + 1 by omega]
        exact h2⟩
/-! ### lists of lists that are read -/
theorem SL2.read {h M L : VH} {q : Value} {es : List (List Int)} (hs : SL2 h.length M q es) : ∃ vs, vs.length = es.length ∧ Sl (h ++ M ++ L) q vs ∧ ∀ (i : Nat) (hi : i < vs.length), Sli (h ++ M ++ L) vs[i] (es.getD i []) := by
  obtain ⟨b, vs, rfl, h1, h2⟩ := hs
  have hget : ∀ k, (h ++ M ++ L)[h.length + k]? = (M ++ L)[k]? := fun k => by
    rw [List.append_assoc, List.getElem?_append_right (by simp), Nat.add_sub_cancel_left]
  refine ⟨vs, h2.len, ?_, fun i hi => ?_⟩
  · have h3 : (M ++ L)[b]? = some ⟨1, vs⟩ := by rw [List.getElem?_append_left (List.getElem?_eq_some_iff.mp h1).1]; exact h1
    unfold Sl
    rw [vsrc_ref]
    simp only [hget, h3, h2.len]
    simp [h2.len]
    rw [List.take_of_length_le (by rw [h2.len]; exact Nat.le_refl _)]
  · have hi' : i < es.length := by rw [← h2.len]; exact hi
    obtain ⟨k, k1, k2⟩ := h2.at_ i hi'
    have e : vs[i] = .slice (some ⟨h.length + k, 0, none⟩) (es.getD i []).length (es.getD i []).length := (List.getElem?_eq_some_iff.mp k1).2
    rw [e]
    refine sli_at ?_
    rw [hget, List.getElem?_append_left (List.getElem?_eq_some_iff.mp k2).1]
    exact k2

/-! ### marks -/
def tot : List (List Int) → Nat
  | [] => 0
  | e :: es => e.length + tot es
theorem EI.set {n : Nat} {vs : List Value} {G : VH} {A : List (List Int)} {e : List Int} {B : List (List Int)} (h : EI n vs G (A ++ e :: B)) (xs : List Int) (hx : xs.length = e.length) : ∃ k, vs[A.length]? = some (.slice (some ⟨n + k, 0, none⟩) e.length e.length) ∧ G[k]? = some ⟨1, ints e⟩ ∧ EI n vs (G.set k ⟨1, ints xs⟩) (A ++ xs :: B) := by
  have hlt : A.length < (A ++ e :: B).length := by simp
  have eA : (A ++ e :: B).getD A.length [] = e := by simp [List.getD_eq_getElem?_getD]
  obtain ⟨k, h1, h2⟩ := h.at_ A.length hlt
  rw [eA] at h1 h2
  have hk := (List.getElem?_eq_some_iff.mp h2).1
  refine ⟨k, h1, h2, by rw [h.len]; simp, fun i hi => ?_, h.nd⟩
  by_cases e1 : i = A.length
  · subst e1
    have e2 : (A ++ xs :: B).getD A.length [] = xs := by simp [List.getD_eq_getElem?_getD]
    rw [e2, hx]
    exact ⟨k, h1, by simp [hk]⟩
  · have e3 : (A ++ xs :: B).getD i [] = (A ++ e :: B).getD i [] := by
      simp only [List.getD_eq_getElem?_getD, List.getElem?_append]
      split
      · rfl
      · have : i - A.length = (i - A.length - 1) + 1 := by omega
        rw [this]
        rfl
    have hi' : i < (A ++ e :: B).length := by simpa using hi
    obtain ⟨k', h3, h4⟩ := h.at_ i hi'
    rw [e3]
    refine ⟨k', h3, ?_⟩
    rw [List.getElem?_set, if_neg]
    · exact h4
    · intro e4
      subst e4
      -- two places with one object
      have hnd := h.nd
      have l1 := (List.getElem?_eq_some_iff.mp h1)
      have l3 := (List.getElem?_eq_some_iff.mp h3)
      obtain ⟨p1, q1⟩ := l1
      obtain ⟨p3, q3⟩ := l3
      have key : ∀ (us : List Value), (us.flatMap arefs).Nodup → ∀ i j (hi : i < us.length) (hj : j < us.length), i < j → ∀ r, r ∈ arefs us[i] → r ∉ arefs us[j] := by
        intro us
        induction us with
        | nil => intro _ i j hi; simp at hi
        | cons u us ih =>
          intro hn i j hi hj hij r hr hr2
          rw [List.flatMap_cons] at hn
          obtain ⟨_, n2, n3⟩ := List.nodup_append.mp hn
          cases j with
          | zero => omega
          | succ j =>
            cases i with
            | zero =>
              refine n3 r (by simpa using hr) r (List.mem_flatMap.mpr ⟨_, List.getElem_mem (by simpa using hj), by simpa using hr2⟩) rfl
            | succ i => exact ih n2 i j (by simpa using hi) (by simpa using hj) (by omega) r (by simpa using hr) (by simpa using hr2)
      rcases Nat.lt_or_gt_of_ne e1 with hlt2 | hgt
      · exact key vs hnd i A.length p3 p1 hlt2 (n + k) (by rw [q3]; simp [arefs]) (by rw [q1]; simp [arefs])
      · exact key vs hnd A.length i p1 p3 hgt (n + k) (by rw [q1]; simp [arefs]) (by rw [q3]; simp [arefs])

end Go.Proofs.Ytcdcmaakcldniaa.Zv

/- Lists of lists: all edges. -/
namespace Go.Proofs.Ytcdcmaakcldniaa.Zv
open Go
variable {nro : Nat}

/-- The heap in the loops. -/
abbrev eH (h : VH) (n : Int) (s : Value) (vs : List Value) (G : VH) : VH := h ++ ⟨0, [.int .i64 n, s]⟩ :: ⟨1, vs⟩ :: G
end Go.Proofs.Ytcdcmaakcldniaa.Zv

/- Does a graph fit k and c: the program's test and the reference's are one. -/
namespace Go.Proofs.Ytcdcmaakcldniaa.Zv
open Go
variable {nro : Nat}

/-! ### degrees, the greatest of numbers -/
def mxL (m : Int) : List Int → Int
  | [] => m
  | x :: l => mxL (if m < x then x else m) l
theorem mxL_le (k : Int) : ∀ (l : List Int) (m : Int), mxL m l ≤ k ↔ m ≤ k ∧ ∀ x ∈ l, x ≤ k
  | [], m => by simp [mxL]
  | x :: l, m => by
    rw [mxL, mxL_le k l]
    simp only [List.mem_cons, forall_eq_or_imp]
    by_cases h : m < x
    · rw [if_pos h]
      exact ⟨fun ⟨a, b⟩ => ⟨by omega, a, b⟩, fun ⟨_, a, b⟩ => ⟨a, b⟩⟩
    · rw [if_neg h]
      exact ⟨fun ⟨a, b⟩ => ⟨a, by omega, b⟩, fun ⟨a, _, b⟩ => ⟨a, b⟩⟩

theorem l_slices_Max (h : VH) (s : Value) (xs : List Int) (hs : Sli h s xs) (hl : xs.length ≤ 1000) (k j : Nat) (hk : k = xs.length - j) (hj : j ≤ xs.length) (m : Int) :
    floop (vcall F nro) nro [0, 3, 4] i_slices_Max_int64_int64_B1 h [s, .int .i64 m, .int .i64 j] h = some (.exit 0, fl [(3, .int .i64 (mxL m (xs.drop j)))], h) := by
  have hso := hs.old
  rw [floop_at i_slices_Max_int64_int64_B1.eq_1]
  by_cases hlt : j < xs.length
  · have hlt' : (j : Int) < xs.length := by omega
    have vl := hs.vlen
    have vx := hs.vidx (k := .i64) (j := (j : Int)) (by omega) hlt'
    have vd := hs.vload hlt
    have ih := l_slices_Max h s xs hs hl (k - 1) (j + 1) (by omega) hlt (if m < xs[j] then xs[j] else m)
    rw [show ((j + 1 : Nat) : Int) = (j : Int) + 1 by omega] at ih
    rw [List.drop_eq_getElem_cons hlt, mxL]
    obtain ⟨x, hx⟩ : ∃ x, x = xs[j] := ⟨_, rfl⟩
    rw [← hx] at vd ih ⊢
    by_cases c1 : m < x
    · rw [if_pos c1] at ih ⊢
      simp (disch := first | assumption | omega | (simp [*] <;> omega) | fail) [wrap64, hlt', vl, vx, vd, ih, c1, vminmax, vminmaxL, vminmax2]
    · rw [if_neg c1] at ih ⊢
      simp (disch := first | assumption | omega | (simp [*] <;> omega) | fail) [wrap64, hlt', vl, vx, vd, ih, c1, vminmax, vminmaxL, vminmax2]
  · have hlt' : ¬ (j : Int) < xs.length := by omega
    have vl := hs.vlen
    rw [List.drop_eq_nil_of_le (by omega), mxL]
    simp (disch := first | assumption | omega | (simp [*] <;> omega) | fail) [hlt', vl]
 termination_by k
 decreasing_by omega

theorem c_slices_Max (s : Value) (x : Int) (xs : List Int) (h : VH) (hs : Sli h s (x :: xs)) (hl : xs.length ≤ 999) :
    vcall F nro k_slices_Max_int64_int64 [s] h = some (.int .i64 (mxL x xs), h) := by
  refine v_slices_Max_int64_int64 (by simp [i_slices_Max_int64_int64]) ?_
  rw [fbody_eq]
  have vl := hs.vlen
  have vx := hs.vidx (k := .i64) (j := 0) (by omega) (by simp)
  have vd := hs.vload (j := 0) (by simp)
  have lp := l_slices_Max (nro := nro) h s (x :: xs) hs (by simp; omega) xs.length 1 (by simp) (by simp) x
  rw [List.drop_succ_cons, List.drop_zero] at lp
  simp only [Int.natCast_one] at lp
  simp at vl vd
  have e : ¬ ((xs.length : Int) + 1 < 1) := by omega
  obtain ⟨q, hq⟩ : ∃ q, q = mxL x xs := ⟨_, rfl⟩
  rw [← hq] at lp ⊢
  clear hq
  simp (disch := first | assumption | omega | (simp [*] <;> omega) | fail) [i_slices_Max_int64_int64, vl, vx, vd, lp, e]

/-! ### does a graph fit -/
/-! ### lists of edges -/
end Go.Proofs.Ytcdcmaakcldniaa.Zv

