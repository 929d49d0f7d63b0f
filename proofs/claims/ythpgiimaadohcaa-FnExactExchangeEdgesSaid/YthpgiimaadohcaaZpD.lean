/- Part D of the proof: ZvSym, ZvNum, ZvSl, ZvEnd, ZvRow, ZwRowA, ZwRow0, ZwUp, ZwLaws, ZwGraph, ZwGraph2, ZwAdj, ZwCover, ZwSort, ZwCompact, ZwSort2, ZwMark. Conditions: none. -/
import Derived.Below
import Derived.ChangeOld
import Derived.IntWalk
import Derived.Lib.SmallJoins
import Derived.OpenShut
import Derived.ProofKit
import Derived.ShutString
import Derived.SizedLaws
import Derived.Test.YthpgiimaadohcaaRows
import Derived.Test.YthpgiimaadohcaaZpB
import Derived.Test.YthpgiimaadohcaaZpC
set_option linter.unusedSimpArgs false
set_option linter.unusedVariables false
/- Symbolic steps: what simp needs to walk through code. -/
namespace Go.Proofs.Ythpgiimaadohcaa.Zv
open Go

section
variable {call : VCall} {nro : Nat}

/-! ### places -/
@[simp] theorem fput_some (e : FE) (d t : Nat) (v : Value) : fput e (some d) v t = if t = d then v else e t := rfl
@[simp] theorem fput_none (e : FE) (v : Value) : fput e none v = e := rfl
@[simp] theorem fl_cons (i : Nat) (v : Value) (r : List (Nat × Value)) (t : Nat) : fl ((i, v) :: r) t = if t = i then v else fl r t := rfl
@[simp] theorem fargs_cons (a : Value) (r : List Value) : fargs (a :: r) 0 = a := rfl
@[simp] theorem fargs_succ (a : Value) (r : List Value) (t : Nat) : fargs (a :: r) (t + 1) = fargs r t := rfl
@[simp] theorem fev_tmp (e : FE) (t : Nat) : fev e (.tmp t) = e t := rfl
@[simp] theorem fev_const (e : FE) (v : Value) : fev e (.const v) = v := rfl
@[simp] theorem fev_func (e : FE) (f : Nat) : fev e (.func f) = .func (.func f) #[] #[] := rfl

/-! ### a region -/
def kops (call : VCall) (nro : Nat) (d : Option Nat) (os : List VOper) (e : FE) : Option (Value × VH) → Option (FE × VH)
  | some (v, h) => fops call nro os (fput e d v) h
  | none => none
theorem fput_self (e : FE) (g : Nat) (v : Value) (h : e g = v) : fput e (some g) v = e := by
  funext t
  simp only [fput_some]
  split
  · rename_i ht; rw [ht, h]
  · rfl
def kguard (call : VCall) (nro : Nat) (g : Nat) (b : Bool) (d : Option Nat) (op : VOp) (os : List VOper) (e : FE) (h : VH) : Value → Option (FE × VH)
  | .bool c => if c = b then kops call nro d os (fput e (some g) (.bool b)) (vop call nro (fev (fput e (some g) (.bool b))) h op) else fops call nro os (fput (fput e (some g) (.bool !b)) d undef) h
  | .tuple vs => if vs.size = 0 then fops call nro os (fput e d undef) h else none
  | _ => none
@[simp] theorem fops_nil (e : FE) (h : VH) : fops call nro [] e h = some (e, h) := rfl
@[simp] theorem fops_cons (d : Option Nat) (op : VOp) (k : Nat) (os : List VOper) (e : FE) (h : VH) : fops call nro (⟨d, op, none, k⟩ :: os) e h = kops call nro d os e (vop call nro (fev e) h op) := by
  simp only [fops, fwanted]
  cases vop call nro (fev e) h op <;> rfl
@[simp] theorem fops_guard (d : Option Nat) (op : VOp) (g : Nat) (b : Bool) (k : Nat) (os : List VOper) (e : FE) (h : VH) : fops call nro (⟨d, op, some (g, b), k⟩ :: os) e h = kguard call nro g b d op os e h (e g) := by
  simp only [fops, fwanted]
  generalize hg : e g = x
  cases x with
  | bool c =>
    simp only [kguard]
    cases c <;> cases b <;> simp [kops, fput_self _ _ _ hg] <;> cases vop call nro (fev e) h op <;> rfl
  | tuple vs => simp only [kguard]; split <;> simp_all
  | _ => rfl
@[simp] theorem kops_some (d : Option Nat) (os : List VOper) (e : FE) (v : Value) (h : VH) : kops call nro d os e (some (v, h)) = fops call nro os (fput e d v) h := rfl
@[simp] theorem kops_none (d : Option Nat) (os : List VOper) (e : FE) : kops call nro d os e none = none := rfl
@[simp] theorem kops_ite (d : Option Nat) (os : List VOper) (e : FE) (c : Prop) [Decidable c] (x y : Option (Value × VH)) : kops call nro d os e (if c then x else y) = if c then kops call nro d os e x else kops call nro d os e y := by split <;> rfl
@[simp] theorem kguard_bool (g : Nat) (b c : Bool) (d : Option Nat) (op : VOp) (os : List VOper) (e : FE) (h : VH) : kguard call nro g b d op os e h (.bool c) = if c = b then kops call nro d os (fput e (some g) (.bool b)) (vop call nro (fev (fput e (some g) (.bool b))) h op) else fops call nro os (fput (fput e (some g) (.bool !b)) d undef) h := rfl
@[simp] theorem kguard_undef (g : Nat) (b : Bool) (d : Option Nat) (op : VOp) (os : List VOper) (e : FE) (h : VH) : kguard call nro g b d op os e h undef = fops call nro os (fput e d undef) h := rfl

/-! ### a region whose order is open -/
open Classical in
noncomputable def kdops (call : VCall) (nro : Nat) (d : Option Nat) (op : VOp) (k : Nat) (os : List VOper) (e : FE) (h : VH) (hs : List VH) : Option (Value × VH) → Option (FE × VH)
  | some (v, h') => if op.eff = true then fdops call nro os (fput e d v) h' (h :: hs) else if ∀ g ∈ hs.take k, vop call nro (fev e) g op = some (v, g) then fdops call nro os (fput e d v) h' hs else none
  | none => none
noncomputable def kdguard (call : VCall) (nro : Nat) (g : Nat) (b : Bool) (d : Option Nat) (op : VOp) (k : Nat) (os : List VOper) (e : FE) (h : VH) (hs : List VH) : Value → Option (FE × VH)
  | .bool c => if c = b then kdops call nro d op k os (fput e (some g) (.bool b)) h hs (vop call nro (fev (fput e (some g) (.bool b))) h op) else fdops call nro os (fput (fput e (some g) (.bool !b)) d undef) h (if op.eff = true then h :: hs else hs)
  | .tuple vs => if vs.size = 0 then fdops call nro os (fput e d undef) h (if op.eff = true then h :: hs else hs) else none
  | _ => none
@[simp] theorem fdops_nil (e : FE) (h : VH) (hs : List VH) : fdops call nro [] e h hs = some (e, h) := rfl
@[simp] theorem fdops_cons (d : Option Nat) (op : VOp) (k : Nat) (os : List VOper) (e : FE) (h : VH) (hs : List VH) : fdops call nro (⟨d, op, none, k⟩ :: os) e h hs = kdops call nro d op k os e h hs (vop call nro (fev e) h op) := by
  simp only [fdops, fwanted]
  cases vop call nro (fev e) h op <;> rfl
@[simp] theorem fdops_guard (d : Option Nat) (op : VOp) (g : Nat) (b : Bool) (k : Nat) (os : List VOper) (e : FE) (h : VH) (hs : List VH) : fdops call nro (⟨d, op, some (g, b), k⟩ :: os) e h hs = kdguard call nro g b d op k os e h hs (e g) := by
  simp only [fdops, fwanted]
  generalize hg : e g = x
  cases x with
  | bool c =>
    simp only [kdguard]
    by_cases hcb : c = b
    · subst hcb
      rw [if_pos rfl, fput_self _ _ _ hg]
      simp only [beq_self_eq_true]
      cases vop call nro (fev e) h op <;> rfl
    · have h1 : (c == b) = false := by simpa using hcb
      have h2 : (!b) = c := by cases c <;> cases b <;> simp_all
      rw [if_neg hcb, h1, h2, fput_self _ _ _ hg]
  | tuple vs => simp only [kdguard]; split <;> simp_all
  | _ => rfl
open Classical in
@[simp] theorem kdops_some (d : Option Nat) (op : VOp) (k : Nat) (os : List VOper) (e : FE) (h : VH) (hs : List VH) (v : Value) (h' : VH) : kdops call nro d op k os e h hs (some (v, h')) = if op.eff = true then fdops call nro os (fput e d v) h' (h :: hs) else if ∀ g ∈ hs.take k, vop call nro (fev e) g op = some (v, g) then fdops call nro os (fput e d v) h' hs else none := rfl
@[simp] theorem kdops_none (d : Option Nat) (op : VOp) (k : Nat) (os : List VOper) (e : FE) (h : VH) (hs : List VH) : kdops call nro d op k os e h hs none = none := rfl
@[simp] theorem kdops_ite (d : Option Nat) (op : VOp) (k : Nat) (os : List VOper) (e : FE) (h : VH) (hs : List VH) (c : Prop) [Decidable c] (x y : Option (Value × VH)) : kdops call nro d op k os e h hs (if c then x else y) = if c then kdops call nro d op k os e h hs x else kdops call nro d op k os e h hs y := by split <;> rfl
@[simp] theorem kdguard_bool (g : Nat) (b c : Bool) (d : Option Nat) (op : VOp) (k : Nat) (os : List VOper) (e : FE) (h : VH) (hs : List VH) : kdguard call nro g b d op k os e h hs (.bool c) = if c = b then kdops call nro d op k os (fput e (some g) (.bool b)) h hs (vop call nro (fev (fput e (some g) (.bool b))) h op) else fdops call nro os (fput (fput e (some g) (.bool !b)) d undef) h (if op.eff = true then h :: hs else hs) := rfl
@[simp] theorem kdguard_undef (g : Nat) (b : Bool) (d : Option Nat) (op : VOp) (k : Nat) (os : List VOper) (e : FE) (h : VH) (hs : List VH) : kdguard call nro g b d op k os e h hs undef = fdops call nro os (fput e d undef) h (if op.eff = true then h :: hs else hs) := rfl

/-! ### code -/
/-- Garbage dropped. -/
noncomputable def kclean (h0 : VH) (vs : List Value) (h : VH) : List Value × VH := cleanup h0.length h0 vs h
def kn : Option (FE × VH) → Option (VX × FE × VH)
  | some (e, h) => some (.normal, e, h)
  | none => none
@[simp] theorem kn_some (e : FE) (h : VH) : kn (some (e, h)) = some (.normal, e, h) := rfl
@[simp] theorem kn_none : kn none = none := rfl
@[simp] theorem kn_ite (c : Prop) [Decidable c] (x y : Option (FE × VH)) : kn (if c then x else y) = if c then kn x else kn y := by split <;> rfl

noncomputable def kseq (call : VCall) (nro : Nat) (b : FC) : Option (VX × FE × VH) → Option (VX × FE × VH)
  | some (.normal, e, h) => fcode call nro b e h
  | r => r
@[simp] theorem kseq_normal (b : FC) (e : FE) (h : VH) : kseq call nro b (some (.normal, e, h)) = fcode call nro b e h := rfl
@[simp] theorem kseq_ret (b : FC) (e : FE) (h : VH) : kseq call nro b (some (.ret, e, h)) = some (.ret, e, h) := rfl
@[simp] theorem kseq_exit (b : FC) (i : Nat) (e : FE) (h : VH) : kseq call nro b (some (.exit i, e, h)) = some (.exit i, e, h) := rfl
@[simp] theorem kseq_none (b : FC) : kseq call nro b none = none := rfl
@[simp] theorem kseq_ite (b : FC) (c : Prop) [Decidable c] (x y : Option (VX × FE × VH)) : kseq call nro b (if c then x else y) = if c then kseq call nro b x else kseq call nro b y := by split <;> rfl

noncomputable def kcond (call : VCall) (nro : Nat) (a b : FC) (e : FE) (h : VH) : Value → Option (VX × FE × VH)
  | .bool true => fcode call nro a e h
  | .bool false => fcode call nro b e h
  | _ => none
@[simp] theorem kcond_bool (a b : FC) (e : FE) (h : VH) (c : Bool) : kcond call nro a b e h (.bool c) = if c = true then fcode call nro a e h else fcode call nro b e h := by cases c <;> rfl

def kblock (id : Nat) : Option (VX × FE × VH) → Option (VX × FE × VH)
  | some (.exit i, e, h) => if i = id then some (.normal, e, h) else some (.exit i, e, h)
  | r => r
@[simp] theorem kblock_normal (id : Nat) (e : FE) (h : VH) : kblock id (some (.normal, e, h)) = some (.normal, e, h) := rfl
@[simp] theorem kblock_ret (id : Nat) (e : FE) (h : VH) : kblock id (some (.ret, e, h)) = some (.ret, e, h) := rfl
@[simp] theorem kblock_exit (id i : Nat) (e : FE) (h : VH) : kblock id (some (.exit i, e, h)) = if i = id then some (.normal, e, h) else some (.exit i, e, h) := rfl
@[simp] theorem kblock_none (id : Nat) : kblock id none = none := rfl
@[simp] theorem kblock_ite (id : Nat) (c : Prop) [Decidable c] (x y : Option (VX × FE × VH)) : kblock id (if c then x else y) = if c then kblock id x else kblock id y := by split <;> rfl

/-- A loop from its head: the places that live there, the heap before the loop, and the heap now. -/
noncomputable def floop (call : VCall) (nro : Nat) (live : List Nat) (c : FC) (h0 : VH) (vs : List Value) (h : VH) : Option (VX × FE × VH) :=
  iter (fun s : List Value × VH => match fcode call nro c (fl (live.zip s.1)) s.2 with
      | some (.normal, e', h') => some (.inl (cleanup h0.length h0 (live.map e') h'))
      | some r => some (.inr r)
      | none => none) (vs, h)

noncomputable def kloop (call : VCall) (nro : Nat) (live : List Nat) (c : FC) (h0 : VH) (p : List Value × VH) : Option (VX × FE × VH) := floop call nro live c h0 p.1 p.2
@[simp] theorem kloop_mk (live : List Nat) (c : FC) (h0 : VH) (vs : List Value) (h : VH) : kloop call nro live c h0 (vs, h) = floop call nro live c h0 vs h := rfl
noncomputable def kback (call : VCall) (nro : Nat) (live : List Nat) (c : FC) (h0 : VH) : Option (VX × FE × VH) → Option (VX × FE × VH)
  | some (.normal, e, h) => kloop call nro live c h0 (kclean h0 (live.map e) h)
  | r => r
@[simp] theorem kback_normal (live : List Nat) (c : FC) (h0 : VH) (e : FE) (h : VH) : kback call nro live c h0 (some (.normal, e, h)) = kloop call nro live c h0 (kclean h0 (live.map e) h) := rfl
@[simp] theorem kback_exit (live : List Nat) (c : FC) (h0 : VH) (i : Nat) (e : FE) (h : VH) : kback call nro live c h0 (some (.exit i, e, h)) = some (.exit i, e, h) := rfl
@[simp] theorem kback_ret (live : List Nat) (c : FC) (h0 : VH) (e : FE) (h : VH) : kback call nro live c h0 (some (.ret, e, h)) = some (.ret, e, h) := rfl
@[simp] theorem kback_none (live : List Nat) (c : FC) (h0 : VH) : kback call nro live c h0 none = none := rfl
@[simp] theorem kback_ite (live : List Nat) (b : FC) (h0 : VH) (c : Prop) [Decidable c] (x y : Option (VX × FE × VH)) : kback call nro live b h0 (if c then x else y) = if c then kback call nro live b h0 x else kback call nro live b h0 y := by split <;> rfl

/-- One time round a loop. -/
theorem floop_eq (live : List Nat) (c : FC) (h0 : VH) (vs : List Value) (h : VH) : floop call nro live c h0 vs h = kback call nro live c h0 (fcode call nro c (fl (live.zip vs)) h) := by
  unfold floop
  rw [iter]
  dsimp only
  generalize fcode call nro c (fl (live.zip vs)) h = q
  match q with
  | none => rfl
  | some (.normal, e, h') => rfl
  | some (.exit i, e, h') => rfl
  | some (.ret, e, h') => rfl

/-- The same, the loop's code shown inside alone. -/
theorem floop_at {c c' : FC} (e : c = c') (live : List Nat) (h0 : VH) (vs : List Value) (h : VH) : floop call nro live c h0 vs h = kback call nro live c h0 (fcode call nro c' (fl (live.zip vs)) h) := by
  rw [floop_eq, ← e]

@[simp] theorem fcode_skip (e : FE) (h : VH) : fcode call nro .skip e h = some (.normal, e, h) := rfl
@[simp] theorem fcode_ops (os : List VOper) (e : FE) (h : VH) : fcode call nro (.ops os) e h = kn (fops call nro os e h) := by
  simp only [fcode]; cases fops call nro os e h <;> rfl
@[simp] theorem fcode_dops (os : List VOper) (e : FE) (h : VH) : fcode call nro (.dops os) e h = kn (fdops call nro os e h []) := by
  simp only [fcode]; cases fdops call nro os e h [] <;> rfl
@[simp] theorem fcode_seq (a b : FC) (e : FE) (h : VH) : fcode call nro (.seq a b) e h = kseq call nro b (fcode call nro a e h) := by
  simp only [fcode]
  generalize fcode call nro a e h = q
  match q with
  | none => rfl
  | some (.normal, e, h') => rfl
  | some (.exit i, e, h') => rfl
  | some (.ret, e, h') => rfl
@[simp] theorem fcode_cond (x : Operand) (a b : FC) (e : FE) (h : VH) : fcode call nro (.cond x a b) e h = kcond call nro a b e h (fev e x) := by
  simp only [fcode]
  generalize fev e x = v
  unfold kcond
  split <;> simp_all
@[simp] theorem fcode_block (id : Nat) (c : FC) (e : FE) (h : VH) : fcode call nro (.block id c) e h = kblock id (fcode call nro c e h) := by
  simp only [fcode]
  generalize fcode call nro c e h = q
  match q with
  | none => rfl
  | some (.normal, e, h') => rfl
  | some (.exit i, e, h') => rfl
  | some (.ret, e, h') => rfl
@[simp] theorem fcode_loop (live : List Nat) (c : FC) (e : FE) (h : VH) : fcode call nro (.loop live c) e h = floop call nro live c h (live.map e) h := rfl
@[simp] theorem fcode_keep (live : List Nat) (c : FC) (e : FE) (h : VH) : fcode call nro (.keep live c) e h = fcode call nro c (fl (live.zip (live.map e))) h := rfl
@[simp] theorem fcode_exit (i : Nat) (e : FE) (h : VH) : fcode call nro (.exit i) e h = some (.exit i, e, h) := rfl
@[simp] theorem fcode_ret (e : FE) (h : VH) : fcode call nro .ret e h = some (.ret, e, h) := rfl

/-! ### a function's end -/
noncomputable def kfin (p : List Value × VH) : Option (Value × VH) := some (p.1.getD 0 undef, p.2)
@[simp] theorem kfin_mk (v : Value) (h : VH) : kfin ([v], h) = some (v, h) := rfl
noncomputable def kret (res : List VR) (h : VH) : Option (VX × FE × VH) → Option (Value × VH)
  | some (.exit _, _, _) => none
  | some (_, e, h') => fend h (fresults e h' res) h'
  | none => none
@[simp] theorem kret_ret (res : List VR) (h : VH) (e : FE) (h' : VH) : kret res h (some (.ret, e, h')) = fend h (fresults e h' res) h' := rfl
@[simp] theorem kret_normal (res : List VR) (h : VH) (e : FE) (h' : VH) : kret res h (some (.normal, e, h')) = fend h (fresults e h' res) h' := rfl
@[simp] theorem kret_none (res : List VR) (h : VH) : kret res h none = none := rfl
@[simp] theorem kret_ite (res : List VR) (h : VH) (c : Prop) [Decidable c] (x y : Option (VX × FE × VH)) : kret res h (if c then x else y) = if c then kret res h x else kret res h y := by split <;> rfl
@[simp] theorem fend_some (h : VH) (v : Value) (h' : VH) : fend h (some v) h' = kfin (kclean h [v] h') := rfl
theorem fbody_eq (fn : FF) (args : List Value) (h : VH) : fbody call nro fn args h = kret fn.res h (fcode call nro fn.body (fargs args) h) := by
  unfold fbody
  generalize fcode call nro fn.body (fargs args) h = q
  match q with
  | none => rfl
  | some (.normal, e, h') => rfl
  | some (.exit i, e, h') => rfl
  | some (.ret, e, h') => rfl
@[simp] theorem fresults1 (e : FE) (h : VH) (t : Nat) : fresults e h [.tmp t] = some (e t) := rfl
@[simp] theorem fresults2 (e : FE) (h : VH) (t s : Nat) : fresults e h [.tmp t, .tmp s] = if notTup (e t) = true ∧ notTup (e s) = true then some (.tuple #[e t, e s]) else none := by
  simp [fresults, fresL, fres1]
@[simp] theorem fresults3 (e : FE) (h : VH) (t s u : Nat) : fresults e h [.tmp t, .tmp s, .tmp u] = if notTup (e t) = true ∧ notTup (e s) = true ∧ notTup (e u) = true then some (.tuple #[e t, e s, e u]) else none := by
  simp [fresults, fresL, fres1]
@[simp] theorem fresultsN (e : FE) (h : VH) : fresults e h [] = some (.tuple #[]) := rfl
attribute [simp] notTup

/-! ### what lies in the elder part -/
def Old (n : Nat) (v : Value) : Prop := ∀ r ∈ trefs v, r < n
theorem Old.le {n m : Nat} {v : Value} (h : Old n v) (hm : n ≤ m) : Old m v := fun r hr => Nat.lt_of_lt_of_le (h r hr) hm
@[simp] theorem old_int (n : Nat) (k : IntKind) (i : Int) : Old n (.int k i) := fun r hr => by simp [trefs, vrefs, crefs, arefs] at hr
@[simp] theorem old_bool (n : Nat) (b : Bool) : Old n (.bool b) := fun r hr => by simp [trefs, vrefs, crefs, arefs] at hr
@[simp] theorem old_str (n : Nat) (b : ByteArray) : Old n (.string b) := fun r hr => by simp [trefs, vrefs, crefs, arefs] at hr
@[simp] theorem old_junk (n : Nat) : Old n junk := fun r hr => by simp [junk, trefs, vrefs, crefs, arefs] at hr
@[simp] theorem old_undef (n : Nat) : Old n undef := fun r hr => by simp [undef, trefs] at hr
@[simp] theorem old_slN (n a b : Nat) : Old n (.slice none a b) := fun r hr => by simp [trefs, vrefs, crefs, arefs] at hr
@[simp] theorem old_ptrN (n : Nat) : Old n (.pointer none) := fun r hr => by simp [trefs, vrefs, crefs, arefs] at hr
@[simp] theorem old_nilF (n : Nat) : Old n .nilFunc := fun r hr => by simp [trefs, vrefs, crefs, arefs] at hr
@[simp] theorem old_sl (n : Nat) (a : Addr) (k t : Nat) : Old n (.slice (some a) k t) ↔ a.block < n := by simp [Old, trefs, vrefs, crefs, arefs]
@[simp] theorem old_ptr (n : Nat) (a : Addr) : Old n (.pointer (some a)) ↔ a.block < n := by simp [Old, trefs, vrefs, crefs, arefs]
/-- The same of a cell. -/
def OldC (n : Nat) (v : Value) : Prop := ∀ r ∈ crefs v, r < n
theorem old_all (n : Nat) (vs : List Value) : (∀ r ∈ vs.flatMap trefs, r < n) ↔ ∀ v ∈ vs, Old n v := by
  simp only [List.mem_flatMap, Old]
  constructor
  · intro h v hv r hr
    exact h r ⟨v, hv, hr⟩
  · rintro h r ⟨v, hv, hr⟩
    exact h v hv r hr

def flatO (n : Nat) (o : VO) : Prop := ∀ r ∈ orefs o, r < n

theorem keepL_nil {base : Nat} {vs : List Value} (h : ∀ v ∈ vs, Old base v) : keepL base vs = [] := by
  unfold keepL
  rw [List.filter_eq_nil_iff.mpr]
  · rfl
  · intro r hr
    have := (old_all base vs).mpr h r hr
    simp; omega

theorem tren_old {n : Nat} {v : Value} (h : Old n v) {r : Nat → Nat} (hr : ∀ i, i < n → r i = i) : tren r v = v := by
  have ha : ∀ v : Value, (∀ i ∈ arefs v, i < n) → aren r v = v := by
    intro v hv
    unfold aren
    split
    · rename_i a
      rw [hr a.block (hv _ (by simp [arefs]))]
    · rename_i a k c
      rw [hr a.block (hv _ (by simp [arefs]))]
    · rfl
  have hmap : ∀ (f : Value → Value) (vs : Array Value), (∀ v ∈ vs, f v = v) → vs.map f = vs := by
    intro f vs h
    exact (Array.map_congr_left (g := id) h).trans (Array.map_id _)
  have hc : ∀ v : Value, (∀ i ∈ crefs v, i < n) → cren r v = v := by
    intro v hv
    unfold cren
    split
    · rename_i f a c
      simp only [crefs, List.mem_append, List.mem_flatMap] at hv
      rw [hmap _ a fun v h => ha v fun i hi => hv i (.inl ⟨v, by simpa using h, hi⟩), hmap _ c fun v h => ha v fun i hi => hv i (.inr ⟨v, by simpa using h, hi⟩)]
    · rename_i hne
      refine ha v fun i hi => hv i ?_
      unfold crefs
      split
      · exact absurd rfl (hne _ _ _)
      · exact hi
  have hvv : ∀ v : Value, (∀ i ∈ vrefs v, i < n) → vren r v = v := by
    intro v hv
    unfold vren
    split
    · rename_i cs
      simp only [vrefs, List.mem_flatMap] at hv
      rw [hmap _ cs fun v h => hc v fun i hi => hv i ⟨v, by simpa using h, hi⟩]
    · rename_i hne
      refine hc v fun i hi => hv i ?_
      unfold vrefs
      split
      · exact absurd rfl (hne _)
      · exact hi
  unfold tren
  split
  · rename_i vs
    unfold Old at h
    simp only [trefs, List.mem_flatMap] at h
    rw [hmap _ vs fun v hv => hvv v fun i hi => h i ⟨v, by simpa using hv, hi⟩]
  · rename_i hne
    refine hvv v fun i hi => h i ?_
    unfold trefs
    split
    · exact absurd rfl (hne _)
    · exact hi

theorem okT_app {h0 L : VH} {L0 : VH} (hL : ∀ o ∈ L, flatO (h0.length + L0.length) o) : okT (h0 ++ L0).length (h0 ++ L0) (h0 ++ L) := by
  intro i o ho
  by_cases hi : i < h0.length
  · left
    rw [List.getElem?_append_left hi] at ho ⊢
    exact ho
  · right
    rw [List.getElem?_append_right (by omega)] at ho
    have := hL o (List.mem_of_getElem? ho)
    simpa [flatO] using this

/-- At the end of a time round: what is fresh and not led to is dropped. -/
@[simp] theorem cleanup_app {h0 L0 L : VH} {vs : List Value} (hv : ∀ v ∈ vs, Old (h0 ++ L0).length v) (hf : ∀ o ∈ L.take L0.length, flatO (h0.length + L0.length) o) :
    kclean (h0 ++ L0) vs (h0 ++ L) = (vs, h0 ++ L.take L0.length) := by
  have htake : (h0 ++ L).take (h0 ++ L0).length = h0 ++ L.take L0.length := by
    rw [List.length_append, List.take_append]
    simp [List.take_of_length_le]
  have hc : okT (h0 ++ L0).length (h0 ++ L0) ((h0 ++ L).take (h0 ++ L0).length) ∧ flatL (h0 ++ L0).length [] (h0 ++ L) := by
    refine ⟨?_, fun i hi => by cases hi⟩
    rw [htake]
    exact okT_app hf
  unfold kclean cleanup
  rw [keepL_nil hv, if_pos hc, htake]
  simp only [List.filterMap_nil, List.append_nil, Prod.mk.injEq, and_true]
  have : ∀ v ∈ vs, tren (renOf (h0 ++ L0).length []) v = v := fun v h => tren_old (hv v h) fun i hi => by simp only [renOf, if_pos hi]
  exact (List.map_congr_left this).trans (by simp)

@[simp] theorem cleanup_drop {h L : VH} {vs : List Value} (hv : ∀ v ∈ vs, Old h.length v) : kclean h vs (h ++ L) = (vs, h) := by
  have := cleanup_app (h0 := h) (L0 := []) (L := L) (vs := vs) (by simpa using hv) (by simp)
  simpa using this

@[simp] theorem cleanup_same {h : VH} {vs : List Value} (hv : ∀ v ∈ vs, Old h.length v) : kclean h vs h = (vs, h) := by
  have := cleanup_drop (h := h) (L := []) hv
  simpa using this

/-- What is fresh and led to is kept. -/
theorem cleanup_keep {h L : VH} {vs : List Value} {ks : List Nat} (hk : keepL h.length vs = ks) (hf : flatL h.length ks (h ++ L)) :
    kclean h vs (h ++ L) = (vs.map (tren (renOf h.length ks)), h ++ ks.filterMap fun i => (h ++ L)[i]?) := by
  have hc : okT h.length h ((h ++ L).take h.length) ∧ flatL h.length ks (h ++ L) := by
    refine ⟨fun i o ho => ?_, hf⟩
    left
    rw [List.getElem?_take] at ho
    split at ho
    · rename_i hi
      rw [List.getElem?_append_left hi] at ho
      exact ho
    · cases ho
  unfold kclean cleanup
  rw [hk, if_pos hc]
  simp

/-! ### the heap -/
@[simp] theorem hget0 (h L : VH) : (h ++ L)[h.length]? = L[0]? := by rw [List.getElem?_append_right (Nat.le_refl _)]; simp
@[simp] theorem hgetk (h L : VH) (k : Nat) : (h ++ L)[h.length + k]? = L[k]? := by rw [List.getElem?_append_right (by omega)]; congr 1; omega
@[simp] theorem hset0 (h L : VH) (o : VO) : (h ++ L).set h.length o = h ++ L.set 0 o := by rw [List.set_append_right _ _ (Nat.le_refl _)]; simp
@[simp] theorem hsetk (h L : VH) (k : Nat) (o : VO) : (h ++ L).set (h.length + k) o = h ++ L.set k o := by rw [List.set_append_right _ _ (by omega)]; congr 2; omega

/-! ### operations, in parts -/
def vlen (h : VH) : Value → Option (Value × VH)
  | .slice none 0 0 => some (.int .i64 0, h)
  | .slice none 0 1 => some (.int .i64 0, h)
  | .slice (some a) n tot => match h[a.block]? with
    | some o => if tot = o.cells.length then some (.int .i64 n, h) else none
    | none => none
  | _ => none
def vidx (sz : Nat) (h : VH) : Value → Value → Option (Value × VH)
  | .slice (some a) n tot, .int _ j =>
    match h[a.block]? with
    | some o => if o.sz = sz ∧ tot = o.cells.length ∧ 0 ≤ j ∧ j < n then some (.pointer (some ⟨a.block, a.off + j.toNat * sz, some tot⟩), h) else none
    | none => none
  | _, _ => none
def vpick (c a b : Value) (h : VH) : Option (Value × VH) := match c with
  | .bool t => some (if t then a else b, h)
  | _ => none
def vext (h : VH) (i : Nat) : Value → Option (Value × VH)
  | .tuple vs => match vs[i]? with
      | some v => some (v, h)
      | none => none
  | _ => none
def vconv (k : IntKind) (h : VH) : Value → Option (Value × VH)
  | .int _ n => some (.int k (k.wrap n), h)
  | _ => none
def vfld (off : Nat) (h : VH) : Value → Option (Value × VH)
  | .pointer (some a) => if vlive h a = true then some (.pointer (some { a with off := a.off + off }), h) else none
  | _ => none
def vfieldv (agg : Bool) (off n : Nat) (h : VH) : Value → Option (Value × VH)
  | .agg cs => if off + n ≤ cs.size then (if agg then some (.agg (cs.extract off (off + n)), h) else match cs[off]? with
      | some v => some (v, h)
      | none => none) else none
  | _ => none
def vmk (sz : Nat) (zero : List Value) (bytes : Nat) (h : VH) : Value → Value → Option (Value × VH)
  | .int .i64 n, .int .i64 m => if n = m ∧ 0 ≤ n ∧ bytes * n ≤ 2 ^ 47 ∧ n ≤ 2 ^ 47 then some (.slice (some ⟨h.length, 0, none⟩) n.toNat (n.toNat * sz), h ++ [⟨sz, (List.replicate n.toNat zero).flatten⟩]) else none
  | _, _ => none
def vbox (n : Nat) (h : VH) (x : Value) : Option (Value × VH) := if (vcells x).length = n ∧ isJunk x = false then some (.pointer (some ⟨h.length, 0, some n⟩), h ++ [⟨0, vcells x⟩]) else none
def vnil (h : VH) : Value → Option (Value × VH)
  | .pointer (some a) => if vlive h a = true then some (.pointer (some a), h) else none
  | .func (.func f) a c => some (.func (.func f) a c, h)
  | _ => none
def vlenStr (h : VH) : Value → Option (Value × VH)
  | .string s => some (.int .i64 s.size, h)
  | _ => none
def vmvStr (h : VH) : Value → Option (Value × VH)
  | .string s => some (.string s, h)
  | _ => none
def veqnilS (neg : Bool) (h : VH) : Value → Option (Value × VH)
  | .slice none 0 0 => some (.bool !neg, h)
  | .slice (some a) _ tot => match h[a.block]? with
      | some o => if tot = o.cells.length then some (.bool neg, h) else none
      | none => none
  | _ => none
def veqnilF (neg : Bool) (h : VH) : Value → Option (Value × VH)
  | .nilFunc => some (.bool !neg, h)
  | .func .. => some (.bool neg, h)
  | _ => none
def vcallv (call : VCall) (h : VH) (f : Value) (args : List Value) : Option (Value × VH) := match f with
  | .func (.func g) first caps => call g (first.toList ++ args ++ caps.toList) h
  | _ => none

variable (ev : Operand → Value) (h : VH)
@[simp] theorem vop_mv (x : Operand) : vop call nro ev h (.mv x) = some (ev x, h) := rfl
@[simp] theorem vop_pick (c a b : Operand) : vop call nro ev h (.pick c a b) = vpick (ev c) (ev a) (ev b) h := rfl
@[simp] theorem vop_bin (o : BinOp) (x y : Operand) : vop call nro ev h (.bin o x y) = (vbin o (ev x) (ev y)).map (·, h) := rfl
@[simp] theorem vop_beq (n : Bool) (x y : Operand) : vop call nro ev h (.beq n x y) = (vbeq n (ev x) (ev y)).map (·, h) := rfl
@[simp] theorem vop_un (o : UnOp) (x : Operand) : vop call nro ev h (.un o x) = (vun o (ev x)).map (·, h) := rfl
@[simp] theorem vop_conv (k : IntKind) (x : Operand) : vop call nro ev h (.conv k x) = vconv k h (ev x) := rfl
@[simp] theorem vop_box (n : Nat) (x : Operand) : vop call nro ev h (.box n x) = vbox n h (ev x) := rfl
@[simp] theorem vop_alloc (z : List Value) : vop call nro ev h (.alloc z) = some (.pointer (some ⟨h.length, 0, some z.length⟩), h ++ [⟨0, z⟩]) := rfl
@[simp] theorem vop_build (z : List Value) (ps : List (Nat × Nat × Operand)) : vop call nro ev h (.build z ps) = (vfill z (ps.map fun p => (p.1, p.2.1, ev p.2.2))).map fun cs => (.agg cs.toArray, h) := rfl
@[simp] theorem vop_buildSl (sz : Nat) (z : List Value) (ps : List (Nat × Nat × Operand)) (n : Nat) : vop call nro ev h (.buildSl sz z ps n) = (vfill z (ps.map fun p => (p.1, p.2.1, ev p.2.2))).map fun cs => (.slice (some ⟨h.length, 0, none⟩) n z.length, h ++ [⟨sz, cs⟩]) := rfl
@[simp] theorem vop_load (g : Bool) (n : Nat) (p : Operand) : vop call nro ev h (.load g n p) = (vload g n h (ev p)).map (·, h) := rfl
@[simp] theorem vop_store (n : Nat) (p x : Operand) : vop call nro ev h (.store n p x) = (vstore nro n h (ev p) (ev x)).map (undef, ·) := rfl
@[simp] theorem vop_nilchk (x : Operand) : vop call nro ev h (.nilchk x) = vnil h (ev x) := rfl
@[simp] theorem vop_fld (n : Nat) (p : Operand) : vop call nro ev h (.fld n p) = vfld n h (ev p) := rfl
@[simp] theorem vop_fieldv (g : Bool) (o n : Nat) (x : Operand) : vop call nro ev h (.fieldv g o n x) = vfieldv g o n h (ev x) := rfl
@[simp] theorem vop_idx (n : Nat) (s i : Operand) : vop call nro ev h (.idx n s i) = vidx n h (ev s) (ev i) := rfl
@[simp] theorem vop_mkSl (sz : Nat) (z : List Value) (b : Nat) (l c : Operand) : vop call nro ev h (.mkSl sz z b l c) = vmk sz z b h (ev l) (ev c) := rfl
@[simp] theorem vop_slc (sz : Nat) (x : Operand) (lo hi : Option Operand) : vop call nro ev h (.slc sz x lo hi) = (vslice sz h (ev x) (lo.map ev) (hi.map ev)).map (·, h) := rfl
@[simp] theorem vop_slcStr (x : Operand) (lo hi : Option Operand) : vop call nro ev h (.slcStr x lo hi) = (vsliceStr (ev x) (lo.map ev) (hi.map ev)).map (·, h) := rfl
@[simp] theorem vop_ext (x : Operand) (i : Nat) : vop call nro ev h (.ext x i) = vext h i (ev x) := rfl
@[simp] theorem vop_len (x : Operand) : vop call nro ev h (.len x) = vlen h (ev x) := rfl
@[simp] theorem vop_lenStr (x : Operand) : vop call nro ev h (.lenStr x) = vlenStr h (ev x) := rfl
@[simp] theorem vop_mvStr (x : Operand) : vop call nro ev h (.mvStr x) = vmvStr h (ev x) := rfl
@[simp] theorem vop_eqnilS (n : Bool) (x : Operand) : vop call nro ev h (.eqnilS n x) = veqnilS n h (ev x) := rfl
@[simp] theorem vop_eqnilF (n : Bool) (x : Operand) : vop call nro ev h (.eqnilF n x) = veqnilF n h (ev x) := rfl
@[simp] theorem vop_app (sz b : Nat) (z : List Value) (s x : Operand) : vop call nro ev h (.app sz b z s x) = vappend nro sz b h (ev s) (ev x) := rfl
@[simp] theorem vop_minmax (m : Bool) (xs : List Operand) : vop call nro ev h (.minmax m xs) = (vminmax m (xs.map ev)).map (·, h) := rfl
@[simp] theorem vop_call (f : Nat) (xs : List Operand) : vop call nro ev h (.call f xs) = call f (xs.map ev) h := rfl
@[simp] theorem vop_callv (f : Operand) (xs : List Operand) : vop call nro ev h (.callv f xs) = vcallv call h (ev f) (xs.map ev) := rfl
@[simp] theorem vop_clr (sz : Nat) (z : List Value) (x : Operand) : vop call nro ev h (.clr sz z x) = vclear nro sz z h (ev x) := rfl
@[simp] theorem vop_cpy (sz : Nat) (x y : Operand) : vop call nro ev h (.cpy sz x y) = vcopy nro sz h (ev x) (ev y) := rfl
@[simp] theorem vop_stop : vop call nro ev h .stop = none := rfl
@[simp] theorem vop_mkfn (f : Nat) (a b : List Operand) : vop call nro ev h (.mkfn f a b) = if (a.map ev).all isAtom && (b.map ev).all isAtom then some (.func (.func f) (a.map ev).toArray (b.map ev).toArray, h) else none := rfl
attribute [simp] VOp.eff
@[simp] theorem vpick_bool (c : Bool) (a b : Value) : vpick (.bool c) a b h = some (if c = true then a else b, h) := rfl
@[simp] theorem vconv_int (k k' : IntKind) (n : Int) : vconv k h (.int k' n) = some (.int k (k.wrap n), h) := rfl
@[simp] theorem vlenStr_str (s : ByteArray) : vlenStr h (.string s) = some (.int .i64 s.size, h) := rfl
@[simp] theorem vmvStr_str (s : ByteArray) : vmvStr h (.string s) = some (.string s, h) := rfl
@[simp] theorem vlen_nil : vlen h (.slice none 0 0) = some (.int .i64 0, h) := rfl
@[simp] theorem vlen_ref (a : Addr) (n tot : Nat) : vlen h (.slice (some a) n tot) = match h[a.block]? with
    | some o => if tot = o.cells.length then some (.int .i64 n, h) else none
    | none => none := rfl
@[simp] theorem vidx_ref (sz : Nat) (a : Addr) (n tot : Nat) (k : IntKind) (j : Int) : vidx sz h (.slice (some a) n tot) (.int k j) = match h[a.block]? with
    | some o => if o.sz = sz ∧ tot = o.cells.length ∧ 0 ≤ j ∧ j < n then some (.pointer (some ⟨a.block, a.off + j.toNat * sz, some tot⟩), h) else none
    | none => none := rfl
@[simp] theorem vext_tup (vs : Array Value) (i : Nat) : vext h i (.tuple vs) = match vs[i]? with
      | some v => some (v, h)
      | none => none := rfl
@[simp] theorem vfld_ref (off : Nat) (a : Addr) : vfld off h (.pointer (some a)) = if vlive h a = true then some (.pointer (some { a with off := a.off + off }), h) else none := rfl
@[simp] theorem vfieldv_agg (g : Bool) (off n : Nat) (cs : Array Value) : vfieldv g off n h (.agg cs) = if off + n ≤ cs.size then (if g then some (.agg (cs.extract off (off + n)), h) else match cs[off]? with
      | some v => some (v, h)
      | none => none) else none := rfl
@[simp] theorem vmk_int (sz : Nat) (z : List Value) (b : Nat) (n m : Int) : vmk sz z b h (.int .i64 n) (.int .i64 m) = if n = m ∧ 0 ≤ n ∧ b * n ≤ 2 ^ 47 ∧ n ≤ 2 ^ 47 then some (.slice (some ⟨h.length, 0, none⟩) n.toNat (n.toNat * sz), h ++ [⟨sz, (List.replicate n.toNat z).flatten⟩]) else none := rfl
@[simp] theorem vnil_ref (a : Addr) : vnil h (.pointer (some a)) = if vlive h a = true then some (.pointer (some a), h) else none := rfl
@[simp] theorem vnil_func (f : Nat) (a c : Array Value) : vnil h (.func (.func f) a c) = some (.func (.func f) a c, h) := rfl
@[simp] theorem veqnilS_nil (n : Bool) : veqnilS n h (.slice none 0 0) = some (.bool !n, h) := rfl
@[simp] theorem veqnilS_ref (n : Bool) (a : Addr) (k tot : Nat) : veqnilS n h (.slice (some a) k tot) = match h[a.block]? with
      | some o => if tot = o.cells.length then some (.bool n, h) else none
      | none => none := rfl
@[simp] theorem vcallv_func (f : Nat) (first caps : Array Value) (args : List Value) : vcallv call h (.func (.func f) first caps) args = call f (first.toList ++ args ++ caps.toList) h := rfl
attribute [simp] vbox vget vlive vfill isJunk vminmax vminmaxL vminmax2 vsliceStr
@[simp] theorem vload_ref (g : Bool) (n : Nat) (a : Addr) : vload g n h (.pointer (some a)) = match vget h a n with
    | some cs => if g then some (.agg cs.toArray) else match cs with
      | [v] => some v
      | _ => none
    | none => none := rfl
@[simp] theorem vstore_ref (nro n : Nat) (a : Addr) (x : Value) : vstore nro n h (.pointer (some a)) x = match h[a.block]? with
    | some o =>
      if nro ≤ a.block ∧ a.spot = some o.cells.length ∧ a.off + n ≤ o.cells.length ∧ (vcells x).length = n ∧ (vcells x).all (fun v => !isJunk v) = true then
        some (h.set a.block { o with cells := splice a.off (vcells x) o.cells })
      else none
    | none => none := rfl
@[simp] theorem splice_zero (v : Value) (vs : List Value) (c : Value) (cs : List Value) : splice 0 (v :: vs) (c :: cs) = v :: vs ++ cs.drop vs.length := by simp [splice]
@[simp] theorem splice_succ (k : Nat) (vs : List Value) (c : Value) (cs : List Value) : splice (k + 1) vs (c :: cs) = c :: splice k vs cs := by
  simp [splice, Nat.add_right_comm]
@[simp] theorem vsrc_nil (sz : Nat) : vsrc sz h (.slice none 0 0) = some ([], 0) := rfl
@[simp] theorem vsrc_ref (sz : Nat) (a : Addr) (n tot : Nat) : vsrc sz h (.slice (some a) n tot) = match h[a.block]? with
    | some o => if o.sz = sz ∧ tot = o.cells.length ∧ a.off + n * sz ≤ tot then some ((o.cells.drop a.off).take (n * sz), n) else none
    | none => none := rfl
/-- An append, once its source is known. -/
def vapp (nro sz bytes : Nat) (h : VH) (s : Value) : Option (List Value × Nat) → Option (Value × VH)
  | none => none
  | some (cs, m) =>
    if cs.all (fun v => !isJunk v) = true ∧ 1 ≤ sz then
      match s with
      | .slice none 0 0 =>
        if m = 0 then some (.slice none 0 0, h)
        else if m * bytes ≤ 2 ^ 40 ∧ m ≤ 2 ^ 40 then some (.slice (some ⟨h.length, 0, none⟩) m cs.length, h ++ [⟨sz, cs⟩]) else none
      | .slice (some a) n tot =>
        match h[a.block]? with
        | some o =>
          if nro ≤ a.block ∧ o.sz = sz ∧ tot = o.cells.length ∧ a.off = 0 ∧ n * sz = tot ∧ (n + m) * bytes ≤ 2 ^ 40 ∧ n + m ≤ 2 ^ 40 then
            some (.slice (some a) (n + m) (tot + cs.length), h.set a.block { o with cells := o.cells ++ cs })
          else none
        | none => none
      | _ => none
    else none
@[simp] theorem vappend_eq (nro sz b : Nat) (s x : Value) : vappend nro sz b h s x = vapp nro sz b h s (vsrc sz h x) := by
  unfold vappend vapp
  cases vsrc sz h x <;> rfl
@[simp] theorem vapp_nil (nro sz b : Nat) (cs : List Value) (m : Nat) : vapp nro sz b h (.slice none 0 0) (some (cs, m)) = if cs.all (fun v => !isJunk v) = true ∧ 1 ≤ sz then (if m = 0 then some (.slice none 0 0, h) else if m * b ≤ 2 ^ 40 ∧ m ≤ 2 ^ 40 then some (.slice (some ⟨h.length, 0, none⟩) m cs.length, h ++ [⟨sz, cs⟩]) else none) else none := rfl
@[simp] theorem vapp_ref (nro sz b : Nat) (a : Addr) (n tot : Nat) (cs : List Value) (m : Nat) : vapp nro sz b h (.slice (some a) n tot) (some (cs, m)) = if cs.all (fun v => !isJunk v) = true ∧ 1 ≤ sz then (match h[a.block]? with
        | some o =>
          if nro ≤ a.block ∧ o.sz = sz ∧ tot = o.cells.length ∧ a.off = 0 ∧ n * sz = tot ∧ (n + m) * b ≤ 2 ^ 40 ∧ n + m ≤ 2 ^ 40 then
            some (.slice (some a) (n + m) (tot + cs.length), h.set a.block { o with cells := o.cells ++ cs })
          else none
        | none => none) else none := rfl
@[simp] theorem vslice_nil (sz : Nat) (lo hi : Option Value) : vslice sz h (.slice none 0 0) lo hi = match lo.getD (.int .i64 0), hi.getD (.int .i64 0) with
    | .int _ 0, .int _ 0 => some (.slice none 0 0)
    | _, _ => none := rfl
@[simp] theorem vslice_ref (sz : Nat) (a : Addr) (n tot : Nat) (lo hi : Option Value) : vslice sz h (.slice (some a) n tot) lo hi = match h[a.block]? with
    | some o =>
      if o.sz = sz ∧ tot = o.cells.length then
        match lo.getD (.int .i64 0), hi.getD (.int .i64 n) with
        | .int _ l, .int _ u => if 0 ≤ l ∧ l ≤ u ∧ u ≤ n then some (.slice (some { a with off := a.off + l.toNat * sz }) (u.toNat - l.toNat) tot) else none
        | _, _ => none
      else none
    | none => none := rfl
@[simp] theorem vcells_agg (cs : Array Value) : vcells (.agg cs) = cs.toList := rfl
@[simp] theorem vcells_int (k : IntKind) (n : Int) : vcells (.int k n) = [.int k n] := rfl
@[simp] theorem vcells_bool (b : Bool) : vcells (.bool b) = [.bool b] := rfl
@[simp] theorem vcells_str (b : ByteArray) : vcells (.string b) = [.string b] := rfl
@[simp] theorem vcells_sl (a : Option Addr) (n c : Nat) : vcells (.slice a n c) = [.slice a n c] := rfl
@[simp] theorem vcells_ptr (a : Option Addr) : vcells (.pointer a) = [.pointer a] := rfl
end
end Go.Proofs.Ythpgiimaadohcaa.Zv

/- Numbers: the operations on integers, and bits. -/
namespace Go.Proofs.Ythpgiimaadohcaa.Zv
open Go

theorem wrap64 {n : Int} (h1 : -9223372036854775808 ≤ n) (h2 : n ≤ 9223372036854775807) : IntKind.i64.wrap n = n := IntWalk.i64_in n ⟨h1, h2⟩
theorem wrapu64 {n : Int} (h1 : 0 ≤ n) (h2 : n ≤ 18446744073709551615) : IntKind.u64.wrap n = n := IntWalk.u64_in n ⟨h1, h2⟩
theorem wrapu8 {n : Int} (h1 : 0 ≤ n) (h2 : n ≤ 255) : IntKind.u8.wrap n = n := IntWalk.u8_in n ⟨h1, h2⟩

/-! The operations on bits are hidden from the kernel's eyes: it would else compare them bit by bit. -/
theorem ex_eq {α : Type} (a : α) : ∃ b, b = a := ⟨a, rfl⟩
noncomputable def iand : IntKind → Int → Int → Int := Classical.choose (ex_eq fun (k : IntKind) (a b : Int) => (k.wrap (BitVec.ofInt k.bits a &&& BitVec.ofInt k.bits b).toNat : Int))
theorem iand_eq (k : IntKind) (a b : Int) : iand k a b = k.wrap (BitVec.ofInt k.bits a &&& BitVec.ofInt k.bits b).toNat := congrFun (congrFun (congrFun (Classical.choose_spec (ex_eq fun (k : IntKind) (a b : Int) => (k.wrap (BitVec.ofInt k.bits a &&& BitVec.ofInt k.bits b).toNat : Int))) k) a) b
noncomputable def ior : IntKind → Int → Int → Int := Classical.choose (ex_eq fun (k : IntKind) (a b : Int) => (k.wrap (BitVec.ofInt k.bits a ||| BitVec.ofInt k.bits b).toNat : Int))
theorem ior_eq (k : IntKind) (a b : Int) : ior k a b = k.wrap (BitVec.ofInt k.bits a ||| BitVec.ofInt k.bits b).toNat := congrFun (congrFun (congrFun (Classical.choose_spec (ex_eq fun (k : IntKind) (a b : Int) => (k.wrap (BitVec.ofInt k.bits a ||| BitVec.ofInt k.bits b).toNat : Int))) k) a) b
noncomputable def ixor : IntKind → Int → Int → Int := Classical.choose (ex_eq fun (k : IntKind) (a b : Int) => (k.wrap (BitVec.ofInt k.bits a ^^^ BitVec.ofInt k.bits b).toNat : Int))
theorem ixor_eq (k : IntKind) (a b : Int) : ixor k a b = k.wrap (BitVec.ofInt k.bits a ^^^ BitVec.ofInt k.bits b).toNat := congrFun (congrFun (congrFun (Classical.choose_spec (ex_eq fun (k : IntKind) (a b : Int) => (k.wrap (BitVec.ofInt k.bits a ^^^ BitVec.ofInt k.bits b).toNat : Int))) k) a) b
noncomputable def iandNot : IntKind → Int → Int → Int := Classical.choose (ex_eq fun (k : IntKind) (a b : Int) => (k.wrap (BitVec.ofInt k.bits a &&& ~~~ BitVec.ofInt k.bits b).toNat : Int))
theorem iandNot_eq (k : IntKind) (a b : Int) : iandNot k a b = k.wrap (BitVec.ofInt k.bits a &&& ~~~ BitVec.ofInt k.bits b).toNat := congrFun (congrFun (congrFun (Classical.choose_spec (ex_eq fun (k : IntKind) (a b : Int) => (k.wrap (BitVec.ofInt k.bits a &&& ~~~ BitVec.ofInt k.bits b).toNat : Int))) k) a) b
noncomputable def ishl : IntKind → Int → Int → Int := Classical.choose (ex_eq fun (k : IntKind) (a b : Int) => (k.wrap (a * 2 ^ (min b.toNat k.bits)) : Int))
theorem ishl_eq (k : IntKind) (a b : Int) : ishl k a b = k.wrap (a * 2 ^ (min b.toNat k.bits)) := congrFun (congrFun (congrFun (Classical.choose_spec (ex_eq fun (k : IntKind) (a b : Int) => (k.wrap (a * 2 ^ (min b.toNat k.bits)) : Int))) k) a) b
noncomputable def ishr : IntKind → Int → Int → Int := Classical.choose (ex_eq fun (k : IntKind) (a b : Int) => (a.fdiv (2 ^ (min b.toNat k.bits)) : Int))
theorem ishr_eq (k : IntKind) (a b : Int) : ishr k a b = a.fdiv (2 ^ (min b.toNat k.bits)) := congrFun (congrFun (congrFun (Classical.choose_spec (ex_eq fun (k : IntKind) (a b : Int) => (a.fdiv (2 ^ (min b.toNat k.bits)) : Int))) k) a) b

section
variable (k : IntKind) (a b : Int)
@[simp] theorem vbin_add : vbin .add (.int k a) (.int k b) = some (.int k (k.wrap (a + b))) := by simp [vbin]
@[simp] theorem vbin_sub : vbin .sub (.int k a) (.int k b) = some (.int k (k.wrap (a - b))) := by simp [vbin]
@[simp] theorem vbin_mul : vbin .mul (.int k a) (.int k b) = some (.int k (k.wrap (a * b))) := by simp [vbin]
@[simp] theorem vbin_quo (hb : b ≠ 0) : vbin .quo (.int k a) (.int k b) = some (.int k (k.wrap (a.tdiv b))) := by simp [vbin, hb]
@[simp] theorem vbin_rem (hb : b ≠ 0) : vbin .rem (.int k a) (.int k b) = some (.int k (a.tmod b)) := by simp [vbin, hb]
@[simp] theorem vbin_and : vbin .and (.int k a) (.int k b) = some (.int k (iand k a b)) := by simp [vbin, iand_eq]
@[simp] theorem vbin_or : vbin .or (.int k a) (.int k b) = some (.int k (ior k a b)) := by simp [vbin, ior_eq]
@[simp] theorem vbin_xor : vbin .xor (.int k a) (.int k b) = some (.int k (ixor k a b)) := by simp [vbin, ixor_eq]
@[simp] theorem vbin_andNot : vbin .andNot (.int k a) (.int k b) = some (.int k (iandNot k a b)) := by simp [vbin, iandNot_eq]
@[simp] theorem vbin_shl (k' : IntKind) (hb : 0 ≤ b) : vbin .shl (.int k a) (.int k' b) = some (.int k (ishl k a b)) := by
  have : ¬ b < 0 := by omega
  simp [vbin, ishl_eq, this]
@[simp] theorem vbin_shr (k' : IntKind) (hb : 0 ≤ b) : vbin .shr (.int k a) (.int k' b) = some (.int k (ishr k a b)) := by
  have : ¬ b < 0 := by omega
  simp [vbin, ishr_eq, this]
@[simp] theorem vbin_eql : vbin .eql (.int k a) (.int k b) = some (.bool (decide (a = b))) := by simp [vbin]; rfl
@[simp] theorem vbin_neq : vbin .neq (.int k a) (.int k b) = some (.bool (decide (a ≠ b))) := by
  simp [vbin]
  by_cases h : a = b <;> simp [h]
@[simp] theorem vbin_lss : vbin .lss (.int k a) (.int k b) = some (.bool (decide (a < b))) := by simp [vbin]
@[simp] theorem vbin_leq : vbin .leq (.int k a) (.int k b) = some (.bool (decide (a ≤ b))) := by simp [vbin]
@[simp] theorem vbin_gtr : vbin .gtr (.int k a) (.int k b) = some (.bool (decide (b < a))) := by simp [vbin]
@[simp] theorem vbin_geq : vbin .geq (.int k a) (.int k b) = some (.bool (decide (b ≤ a))) := by simp [vbin]
@[simp] theorem vbeq_bool (n : Bool) (x y : Bool) : vbeq n (.bool x) (.bool y) = some (.bool (if n = true then !(x == y) else x == y)) := rfl
@[simp] theorem vun_not (x : Bool) : vun .not (.bool x) = some (.bool !x) := rfl
@[simp] theorem vun_neg : vun .neg (.int k a) = some (.int k (k.wrap (0 - a))) := rfl
end

/-! ### bits of what is not negative -/
theorem ofInt_nat (w n : Nat) (h : n < 2 ^ w) : (BitVec.ofInt w (n : Int)).toNat = n := by
  simp
  exact Nat.mod_eq_of_lt h

theorem iand_nat {a b : Nat} (ha : a < 2 ^ 63) (hb : b < 2 ^ 63) : iand .i64 a b = ((a &&& b : Nat) : Int) := by
  rw [iand_eq]
  rw [BitVec.toNat_and]
  have e : IntKind.i64.bits = 64 := rfl
  rw [e, ofInt_nat 64 a (by omega), ofInt_nat 64 b (by omega)]
  have : a &&& b ≤ a := Nat.and_le_left
  exact wrap64 (by omega) (by omega)

theorem ior_nat {a b : Nat} (ha : a < 2 ^ 63) (hb : b < 2 ^ 63) : ior .i64 a b = ((a ||| b : Nat) : Int) := by
  rw [ior_eq]
  rw [BitVec.toNat_or]
  have e : IntKind.i64.bits = 64 := rfl
  rw [e, ofInt_nat 64 a (by omega), ofInt_nat 64 b (by omega)]
  have : a ||| b < 2 ^ 63 := Nat.or_lt_two_pow ha hb
  exact wrap64 (by omega) (by omega)

theorem ishr_nat {a : Nat} {b : Int} (hb : b ≤ 64) : ishr .i64 a b = ((a >>> b.toNat : Nat) : Int) := by
  rw [ishr_eq]
  have e : min b.toNat IntKind.i64.bits = b.toNat := by
    have : IntKind.i64.bits = 64 := rfl
    omega
  rw [e]
  have h1 : (a : Int).fdiv (2 ^ b.toNat) = ((a / 2 ^ b.toNat : Nat) : Int) := by
    rw [Int.fdiv_eq_ediv_of_nonneg _ (Int.pow_nonneg (by decide))]
    simp
  rw [h1, Nat.shiftRight_eq_div_pow]

theorem ishl_one {b : Int} (h1 : b ≤ 62) : ishl .i64 1 b = ((2 ^ b.toNat : Nat) : Int) := by
  rw [ishl_eq]
  have e : min b.toNat IntKind.i64.bits = b.toNat := by
    have : IntKind.i64.bits = 64 := rfl
    omega
  rw [e]
  have : 2 ^ b.toNat ≤ 4611686018427387904 := Nat.le_trans (Nat.pow_le_pow_right (by decide : 0 < 2) (by omega : b.toNat ≤ 62)) (by decide)
  have h2 : (1 : Int) * 2 ^ b.toNat = ((2 ^ b.toNat : Nat) : Int) := by simp
  rw [h2]
  generalize 2 ^ b.toNat = q at *
  exact wrap64 (by omega) (by omega)

theorem iand_one {a : Nat} (ha : a < 2 ^ 63) : iand .i64 a 1 = ((a % 2 : Nat) : Int) := by
  have := iand_nat (a := a) (b := 1) ha (by omega)
  rw [Nat.and_one_is_mod] at this
  exact this

/-- Bit j of a row. -/
theorem bit_nat {a : Nat} {b : Int} (ha : a < 2 ^ 63) (hb : b ≤ 64) : (iand .i64 (ishr .i64 a b) 1 = 1) ↔ a.testBit b.toNat = true := by
  rw [ishr_nat hb, iand_one]
  · rw [Nat.testBit_eq_decide_div_mod_eq, Nat.shiftRight_eq_div_pow]
    simp only [decide_eq_true_eq]
    omega
  · rw [Nat.shiftRight_eq_div_pow]
    exact Nat.lt_of_le_of_lt (Nat.div_le_self _ _) ha
end Go.Proofs.Ythpgiimaadohcaa.Zv

/- Slices that are read: what a slice's value tells of a list. -/
namespace Go.Proofs.Ythpgiimaadohcaa.Zv
open Go

/-- A slice of elements of one cell each reads as a list. -/
def Sl (h : VH) (v : Value) (cs : List Value) : Prop := vsrc 1 h v = some (cs, cs.length)

/-- The place of an element. -/
def vptr (s : Value) (j : Nat) : Value := match s with
  | .slice (some a) _ tot => .pointer (some ⟨a.block, a.off + j, some tot⟩)
  | _ => junk

def ints (xs : List Int) : List Value := xs.map (Value.int .i64)
@[simp] theorem ints_length (xs : List Int) : (ints xs).length = xs.length := by simp [ints]
@[simp] theorem ints_nil : ints [] = [] := rfl
@[simp] theorem ints_cons (x : Int) (xs : List Int) : ints (x :: xs) = .int .i64 x :: ints xs := rfl
theorem ints_set (xs : List Int) (j : Nat) (x : Int) : (ints xs).set j (.int .i64 x) = ints (xs.set j x) := by simp [ints, List.map_set]

theorem Sl.inv {h : VH} {v : Value} {cs : List Value} (hs : Sl h v cs) :
    (v = .slice none 0 0 ∧ cs = []) ∨ (v = .slice none 0 1 ∧ cs = []) ∨
    ∃ a n tot o, v = .slice (some a) n tot ∧ h[a.block]? = some o ∧ o.sz = 1 ∧ tot = o.cells.length ∧ a.off + n ≤ tot ∧ n = cs.length ∧ ∀ j, j < n → o.cells[a.off + j]? = cs[j]? := by
  unfold Sl vsrc at hs
  split at hs
  · left; simp at hs; exact ⟨rfl, hs.1⟩
  · right; left; simp at hs; exact ⟨rfl, hs.1⟩
  · rename_i a n tot
    split at hs
    · rename_i o ho
      split at hs
      · rename_i hc
        simp only [Nat.mul_one, Option.some.injEq, Prod.mk.injEq] at hs
        refine .inr (.inr ⟨a, n, tot, o, rfl, ho, hc.1, hc.2.1, by simpa using hc.2.2, hs.2, fun j hj => ?_⟩)
        rw [← hs.1, List.getElem?_take, if_pos hj, List.getElem?_drop]
      · cases hs
    · cases hs
  · cases hs

@[simp] theorem flatO_ints (n k : Nat) (xs : List Int) : flatO n ⟨k, ints xs⟩ := by
  intro r hr
  simp only [orefs, ints, List.flatMap_map, List.mem_flatMap] at hr
  obtain ⟨x, _, hx⟩ := hr
  simp [crefs, arefs] at hx
@[simp] theorem ints_all (xs : List Int) : (ints xs).all (fun v => !isJunk v) = true := by simp [ints]
theorem splice_ints {xs : List Int} {j : Nat} {v : Int} (hj : j < xs.length) : splice j [.int .i64 v] (ints xs) = ints (xs.set j v) := by
  rw [← ints_set]
  unfold splice
  rw [List.set_eq_take_append_cons_drop, if_pos (by simpa using hj)]
  simp
theorem take1_ints {xs : List Int} {j : Nat} (hj : j < xs.length) : List.take 1 (List.drop j (ints xs)) = [.int .i64 xs[j]] := by
  rw [List.drop_eq_getElem_cons (by simpa using hj)]
  simp [ints]
@[simp] theorem ints_rep (n : Nat) (x : Int) : List.replicate n (Value.int .i64 x) = ints (List.replicate n x) := by simp [ints]
@[simp] theorem ints_rep' (n : Nat) (x : Int) : (List.replicate n [Value.int .i64 x]).flatten = ints (List.replicate n x) := by
  induction n with
  | zero => rfl
  | succ n ih => simp only [List.replicate_succ, List.flatten_cons, ih, ints_cons]; rfl

attribute [simp] Nat.add_one_le_iff

section
variable {h : VH} {v : Value} {cs : List Value}

theorem Sl.app (hs : Sl h v cs) (L : VH) : Sl (h ++ L) v cs := by
  unfold Sl at hs ⊢
  unfold vsrc at hs ⊢
  split at hs
  · exact hs
  · exact hs
  · rename_i a n tot
    split at hs
    · rename_i o ho
      have : (h ++ L)[a.block]? = some o := by rw [List.getElem?_append_left (List.getElem?_eq_some_iff.mp ho).1]; exact ho
      simp only [this]
      exact hs
    · cases hs
  · cases hs

theorem Sl.old (hs : Sl h v cs) : Old h.length v := by
  rcases hs.inv with ⟨rfl, _⟩ | ⟨rfl, _⟩ | ⟨a, n, tot, o, rfl, ho, _⟩
  · simp
  · simp
  · rw [old_sl]; exact (List.getElem?_eq_some_iff.mp ho).1

theorem Sl.vlen (hs : Sl h v cs) : vlen h v = some (.int .i64 cs.length, h) := by
  rcases hs.inv with ⟨rfl, rfl⟩ | ⟨rfl, rfl⟩ | ⟨a, n, tot, o, rfl, ho, _, ht, _, hn, _⟩
  · rfl
  · rfl
  · simp [ho, ht, hn]

theorem Sl.vidx (hs : Sl h v cs) {k : IntKind} {j : Int} (h0 : 0 ≤ j) (hj : j < cs.length) : vidx 1 h v (.int k j) = some (vptr v j.toNat, h) := by
  rcases hs.inv with ⟨rfl, rfl⟩ | ⟨rfl, rfl⟩ | ⟨a, n, tot, o, rfl, ho, hz, ht, _, hn, _⟩
  · simp at hj; omega
  · simp at hj; omega
  · simp only [vidx_ref, ho, hz, ht, vptr, Nat.mul_one]
    rw [if_pos ⟨trivial, trivial, h0, by omega⟩]

theorem Sl.vload (hs : Sl h v cs) {j : Nat} (hj : j < cs.length) : vload false 1 h (vptr v j) = some cs[j] := by
  rcases hs.inv with ⟨rfl, rfl⟩ | ⟨rfl, rfl⟩ | ⟨a, n, tot, o, rfl, ho, hz, ht, hle, hn, hg⟩
  · simp at hj
  · simp at hj
  · have h1 := hg j (by omega)
    rw [List.getElem?_eq_getElem hj] at h1
    have h2 : a.off + j < o.cells.length := by omega
    have h3 : (o.cells.drop (a.off + j)).take 1 = [cs[j]] := by
      rw [List.getElem?_eq_getElem h2, Option.some.injEq] at h1
      rw [List.drop_eq_getElem_cons h2, h1]
      rfl
    simp only [vptr, Zv.vload, vget, ho]
    rw [if_pos ⟨by simp [ht], by omega⟩, h3]
    rfl

theorem Sl.vlive (hs : Sl h v cs) {j : Nat} (hj : j < cs.length) : ∃ a, vptr v j = .pointer (some a) ∧ vlive h a = true := by
  rcases hs.inv with ⟨rfl, rfl⟩ | ⟨rfl, rfl⟩ | ⟨a, n, tot, o, rfl, ho, hz, ht, hle, hn, hg⟩
  · simp at hj
  · simp at hj
  · exact ⟨_, rfl, by simp [ho, ht]⟩

/-! with more above the heap, as simp needs them -/
variable {L : VH}
theorem Sl.vlen' (hs : Sl h v cs) : Zv.vlen (h ++ L) v = some (.int .i64 cs.length, h ++ L) := (hs.app _).vlen
theorem Sl.vidx' (hs : Sl h v cs) {k : IntKind} {j : Int} (h0 : 0 ≤ j) (hj : j < cs.length) : Zv.vidx 1 (h ++ L) v (.int k j) = some (vptr v j.toNat, h ++ L) := (hs.app _).vidx h0 hj
theorem Sl.vload' (hs : Sl h v cs) {j : Nat} (hj : j < cs.length) : Zv.vload false 1 (h ++ L) (vptr v j) = some cs[j] := (hs.app _).vload hj
end

/-! ### slices of integers -/
def Sli (h : VH) (v : Value) (xs : List Int) : Prop := Sl h v (ints xs)
section
variable {h : VH} {v : Value} {xs : List Int}
theorem Sli.app (hs : Sli h v xs) (L : VH) : Sli (h ++ L) v xs := Sl.app hs L
theorem Sli.old (hs : Sli h v xs) : Old h.length v := Sl.old hs
theorem Sli.oldk (hs : Sli h v xs) {k : Nat} : Old (h.length + k) v := hs.old.le (Nat.le_add_right _ _)
theorem Sli.vlen (hs : Sli h v xs) : Zv.vlen h v = some (.int .i64 xs.length, h) := by rw [Sl.vlen hs, ints_length]
theorem Sli.vidx (hs : Sli h v xs) {k : IntKind} {j : Int} (h0 : 0 ≤ j) (hj : j < xs.length) : Zv.vidx 1 h v (.int k j) = some (vptr v j.toNat, h) := Sl.vidx hs h0 (by rw [ints_length]; exact hj)
theorem Sli.vload (hs : Sli h v xs) {j : Nat} (hj : j < xs.length) : Zv.vload false 1 h (vptr v j) = some (.int .i64 xs[j]) := by
  rw [Sl.vload hs (by rw [ints_length]; exact hj)]
  simp [ints]
variable {L : VH}
theorem Sli.vlen' (hs : Sli h v xs) : Zv.vlen (h ++ L) v = some (.int .i64 xs.length, h ++ L) := (hs.app _).vlen
theorem Sli.vidx' (hs : Sli h v xs) {k : IntKind} {j : Int} (h0 : 0 ≤ j) (hj : j < xs.length) : Zv.vidx 1 (h ++ L) v (.int k j) = some (vptr v j.toNat, h ++ L) := (hs.app _).vidx h0 hj
theorem Sli.vload' (hs : Sli h v xs) {j : Nat} (hj : j < xs.length) : Zv.vload false 1 (h ++ L) (vptr v j) = some (.int .i64 xs[j]) := (hs.app _).vload hj
end

/-! ### the same, as a function: for simp -/
def unint : Value → Int
  | .int _ n => n
  | _ => 0
def unints (cs : List Value) : List Int := cs.map unint
def isI64 : Value → Bool
  | .int .i64 _ => true
  | _ => false
@[simp] theorem unints_ints (xs : List Int) : unints (ints xs) = xs := by simp [unints, ints, unint, Function.comp_def]
@[simp] theorem all_ints (xs : List Int) : (ints xs).all isI64 = true := by simp [ints, isI64]
@[simp] theorem take_ints (xs : List Int) : List.take xs.length (ints xs) = ints xs := List.take_of_length_le (by simp)
theorem ints_unints {cs : List Value} (h : cs.all isI64 = true) : ints (unints cs) = cs := by
  unfold ints unints
  rw [List.map_map]
  have : ∀ v ∈ cs, (Value.int .i64 ∘ unint) v = v := by
    intro v hv
    have := List.all_eq_true.mp h v hv
    unfold isI64 at this
    split at this
    · rfl
    · cases this
  exact (List.map_congr_left this).trans (by simp)

/-- What a slice of integers reads as. -/
def rd (h : VH) (v : Value) : List Int := match vsrc 1 h v with
  | some (cs, _) => unints cs
  | none => []
def isSli (h : VH) (v : Value) : Prop := match vsrc 1 h v with
  | some (cs, n) => cs.length = n ∧ cs.all isI64 = true
  | none => False
theorem isSli.sli {h : VH} {v : Value} (hs : isSli h v) : Sli h v (rd h v) := by
  unfold isSli at hs
  unfold Sli Sl rd
  split at hs
  · rename_i cs n hv
    rw [hv]
    simp only [ints_unints hs.2, hs.1]
  · exact hs.elim
theorem Sli.rd {h : VH} {v : Value} {xs : List Int} (hs : Sli h v xs) : rd h v = xs := by
  unfold Sli Sl at hs
  unfold Zv.rd
  rw [hs]
  exact unints_ints xs
theorem Sli.is {h : VH} {v : Value} {xs : List Int} (hs : Sli h v xs) : isSli h v := by
  unfold Sli Sl at hs
  unfold isSli
  rw [hs]
  simp
theorem Sli.rd' {h L : VH} {v : Value} {xs : List Int} (hs : Sli h v xs) : Zv.rd (h ++ L) v = xs := (hs.app L).rd
theorem Sli.is' {h L : VH} {v : Value} {xs : List Int} (hs : Sli h v xs) : isSli (h ++ L) v := (hs.app L).is
@[simp] theorem rd_nil (h : VH) : rd h (.slice none 0 0) = [] := by simp [rd, unints]
@[simp] theorem isSli_nil (h : VH) : isSli h (.slice none 0 0) := ⟨rfl, rfl⟩
@[simp] theorem rd_ref (h : VH) (a : Addr) (n tot : Nat) : rd h (.slice (some a) n tot) = match h[a.block]? with
    | some o => if o.sz = 1 ∧ tot = o.cells.length ∧ a.off + n ≤ tot then unints ((o.cells.drop a.off).take n) else []
    | none => [] := by
  unfold rd
  rw [vsrc_ref]
  cases h[a.block]? with
  | none => rfl
  | some o =>
    simp only [Nat.mul_one]
    by_cases hc : o.sz = 1 ∧ tot = o.cells.length ∧ a.off + n ≤ tot
    · rw [if_pos hc, if_pos hc]
    · rw [if_neg hc, if_neg hc]
@[simp] theorem isSli_ref (h : VH) (a : Addr) (n tot : Nat) : isSli h (.slice (some a) n tot) ↔ match h[a.block]? with
    | some o => o.sz = 1 ∧ tot = o.cells.length ∧ a.off + n ≤ tot ∧ ((o.cells.drop a.off).take n).all isI64 = true
    | none => False := by
  unfold isSli
  rw [vsrc_ref]
  cases h[a.block]? with
  | none => exact Iff.rfl
  | some o =>
    simp only [Nat.mul_one]
    by_cases hc : o.sz = 1 ∧ tot = o.cells.length ∧ a.off + n ≤ tot
    · have : ((o.cells.drop a.off).take n).length = n := by simp; omega
      rw [if_pos hc]
      simp [hc, this]
      intro _
      omega
    · rw [if_neg hc]
      constructor
      · exact False.elim
      · rintro ⟨h1, h2, h3, _⟩; exact hc ⟨h1, h2, h3⟩
end Go.Proofs.Ythpgiimaadohcaa.Zv

/- At a function's end: one fresh object is handed out. -/
namespace Go.Proofs.Ythpgiimaadohcaa.Zv
open Go

theorem cleanup_one {h L : VH} {v : Value} {k : Nat} {o : VO} (hv : trefs v = [h.length + k]) (hk : L[k]? = some o) (hf : flatO h.length o) :
    kclean h [v] (h ++ L) = ([tren (renOf h.length [h.length + k]) v], h ++ [o]) := by
  have e : keepL h.length [v] = [h.length + k] := by
    unfold keepL
    simp [hv, dedup]
  have hg : (h ++ L)[h.length + k]? = some o := by rw [hgetk]; exact hk
  rw [cleanup_keep e fun i hi => ⟨o, ?_, hf⟩]
  · simp [hk]
  · simp only [List.mem_singleton] at hi
    rw [hi]
    exact hg
theorem renOf_one (n k : Nat) : renOf n [n + k] (n + k) = n := by simp [renOf]; omega
theorem renOf_one0 (n : Nat) : renOf n [n] n = n := by simp [renOf]
@[simp] theorem clean_slk (h L : VH) (k : Nat) (off n t : Nat) (hk : k < L.length) (hf : flatO h.length (L.getD k ⟨0, []⟩)) :
    kclean h [.slice (some ⟨h.length + k, off, none⟩) n t] (h ++ L) = ([.slice (some ⟨h.length, off, none⟩) n t], h ++ [L.getD k ⟨0, []⟩]) := by
  rw [cleanup_one (k := k) (o := L.getD k ⟨0, []⟩) (by simp [trefs, vrefs, crefs, arefs]) (by simp [List.getD_eq_getElem?_getD, hk]) hf]
  simp [tren, vren, cren, aren, renOf_one]
@[simp] theorem clean_sl0 (h L : VH) (off n t : Nat) (o : VO) (hf : flatO h.length o) :
    kclean h [.slice (some ⟨h.length, off, none⟩) n t] (h ++ o :: L) = ([.slice (some ⟨h.length, off, none⟩) n t], h ++ [o]) := by
  rw [cleanup_one (k := 0) (o := o) (by simp [trefs, vrefs, crefs, arefs]) (by simp) hf]
  simp [tren, vren, cren, aren, renOf_one0]
@[simp] theorem clean_aggk (h L : VH) (k : Nat) (off n t : Nat) (k1 : IntKind) (x : Int) (hk : k < L.length) (hf : flatO h.length (L.getD k ⟨0, []⟩)) :
    kclean h [.agg #[.int k1 x, .slice (some ⟨h.length + k, off, none⟩) n t]] (h ++ L) = ([.agg #[.int k1 x, .slice (some ⟨h.length, off, none⟩) n t]], h ++ [L.getD k ⟨0, []⟩]) := by
  rw [cleanup_one (k := k) (o := L.getD k ⟨0, []⟩) (by simp [trefs, vrefs, crefs, arefs]) (by simp [List.getD_eq_getElem?_getD, hk]) hf]
  simp [tren, vren, cren, aren, renOf_one]
@[simp] theorem clean_agg0 (h L : VH) (off n t : Nat) (k1 : IntKind) (x : Int) (o : VO) (hf : flatO h.length o) :
    kclean h [.agg #[.int k1 x, .slice (some ⟨h.length, off, none⟩) n t]] (h ++ o :: L) = ([.agg #[.int k1 x, .slice (some ⟨h.length, off, none⟩) n t]], h ++ [o]) := by
  rw [cleanup_one (k := 0) (o := o) (by simp [trefs, vrefs, crefs, arefs]) (by simp) hf]
  simp [tren, vren, cren, aren, renOf_one0]
@[simp] theorem clean_taggk (h L : VH) (k : Nat) (off n t : Nat) (k1 : IntKind) (x : Int) (k2 : IntKind) (y : Int) (hk : k < L.length) (hf : flatO h.length (L.getD k ⟨0, []⟩)) :
    kclean h [.tuple #[.agg #[.int k1 x, .slice (some ⟨h.length + k, off, none⟩) n t], .int k2 y]] (h ++ L) = ([.tuple #[.agg #[.int k1 x, .slice (some ⟨h.length, off, none⟩) n t], .int k2 y]], h ++ [L.getD k ⟨0, []⟩]) := by
  rw [cleanup_one (k := k) (o := L.getD k ⟨0, []⟩) (by simp [trefs, vrefs, crefs, arefs]) (by simp [List.getD_eq_getElem?_getD, hk]) hf]
  simp [tren, vren, cren, aren, renOf_one]
@[simp] theorem clean_tagg0 (h L : VH) (off n t : Nat) (k1 : IntKind) (x : Int) (k2 : IntKind) (y : Int) (o : VO) (hf : flatO h.length o) :
    kclean h [.tuple #[.agg #[.int k1 x, .slice (some ⟨h.length, off, none⟩) n t], .int k2 y]] (h ++ o :: L) = ([.tuple #[.agg #[.int k1 x, .slice (some ⟨h.length, off, none⟩) n t], .int k2 y]], h ++ [o]) := by
  rw [cleanup_one (k := 0) (o := o) (by simp [trefs, vrefs, crefs, arefs]) (by simp) hf]
  simp [tren, vren, cren, aren, renOf_one0]
@[simp] theorem clean_tslk (h L : VH) (k : Nat) (off n t : Nat) (k2 : IntKind) (y : Int) (hk : k < L.length) (hf : flatO h.length (L.getD k ⟨0, []⟩)) :
    kclean h [.tuple #[.slice (some ⟨h.length + k, off, none⟩) n t, .int k2 y]] (h ++ L) = ([.tuple #[.slice (some ⟨h.length, off, none⟩) n t, .int k2 y]], h ++ [L.getD k ⟨0, []⟩]) := by
  rw [cleanup_one (k := k) (o := L.getD k ⟨0, []⟩) (by simp [trefs, vrefs, crefs, arefs]) (by simp [List.getD_eq_getElem?_getD, hk]) hf]
  simp [tren, vren, cren, aren, renOf_one]
@[simp] theorem clean_tsl0 (h L : VH) (off n t : Nat) (k2 : IntKind) (y : Int) (o : VO) (hf : flatO h.length o) :
    kclean h [.tuple #[.slice (some ⟨h.length, off, none⟩) n t, .int k2 y]] (h ++ o :: L) = ([.tuple #[.slice (some ⟨h.length, off, none⟩) n t, .int k2 y]], h ++ [o]) := by
  rw [cleanup_one (k := 0) (o := o) (by simp [trefs, vrefs, crefs, arefs]) (by simp) hf]
  simp [tren, vren, cren, aren, renOf_one0]
@[simp] theorem clean_tslbk (h L : VH) (k : Nat) (off n t : Nat) (y2 : Bool) (hk : k < L.length) (hf : flatO h.length (L.getD k ⟨0, []⟩)) :
    kclean h [.tuple #[.slice (some ⟨h.length + k, off, none⟩) n t, .bool y2]] (h ++ L) = ([.tuple #[.slice (some ⟨h.length, off, none⟩) n t, .bool y2]], h ++ [L.getD k ⟨0, []⟩]) := by
  rw [cleanup_one (k := k) (o := L.getD k ⟨0, []⟩) (by simp [trefs, vrefs, crefs, arefs]) (by simp [List.getD_eq_getElem?_getD, hk]) hf]
  simp [tren, vren, cren, aren, renOf_one]
@[simp] theorem clean_tslb0 (h L : VH) (off n t : Nat) (y2 : Bool) (o : VO) (hf : flatO h.length o) :
    kclean h [.tuple #[.slice (some ⟨h.length, off, none⟩) n t, .bool y2]] (h ++ o :: L) = ([.tuple #[.slice (some ⟨h.length, off, none⟩) n t, .bool y2]], h ++ [o]) := by
  rw [cleanup_one (k := 0) (o := o) (by simp [trefs, vrefs, crefs, arefs]) (by simp) hf]
  simp [tren, vren, cren, aren, renOf_one0]
@[simp] theorem clean_taggbk (h L : VH) (k : Nat) (off n t : Nat) (k1 : IntKind) (x : Int) (y2 : Bool) (hk : k < L.length) (hf : flatO h.length (L.getD k ⟨0, []⟩)) :
    kclean h [.tuple #[.agg #[.int k1 x, .slice (some ⟨h.length + k, off, none⟩) n t], .bool y2]] (h ++ L) = ([.tuple #[.agg #[.int k1 x, .slice (some ⟨h.length, off, none⟩) n t], .bool y2]], h ++ [L.getD k ⟨0, []⟩]) := by
  rw [cleanup_one (k := k) (o := L.getD k ⟨0, []⟩) (by simp [trefs, vrefs, crefs, arefs]) (by simp [List.getD_eq_getElem?_getD, hk]) hf]
  simp [tren, vren, cren, aren, renOf_one]
@[simp] theorem clean_taggb0 (h L : VH) (off n t : Nat) (k1 : IntKind) (x : Int) (y2 : Bool) (o : VO) (hf : flatO h.length o) :
    kclean h [.tuple #[.agg #[.int k1 x, .slice (some ⟨h.length, off, none⟩) n t], .bool y2]] (h ++ o :: L) = ([.tuple #[.agg #[.int k1 x, .slice (some ⟨h.length, off, none⟩) n t], .bool y2]], h ++ [o]) := by
  rw [cleanup_one (k := 0) (o := o) (by simp [trefs, vrefs, crefs, arefs]) (by simp) hf]
  simp [tren, vren, cren, aren, renOf_one0]
@[simp] theorem old_agg2 (n : Nat) (k : IntKind) (x : Int) (s : Value) (hs : isAtom s = true) : Old n (.agg #[.int k x, s]) ↔ Old n s := by
  unfold Old trefs vrefs
  cases s <;> simp_all [crefs, arefs, isAtom]

/-! ### objects that were changed in place -/
def Upd (h h' : VH) : Prop := h'.length = h.length ∧ okT h.length h h'
theorem Upd.rfl' (h : VH) : Upd h h := ⟨rfl, fun _ _ ho => .inl ho⟩
theorem Upd.set' {h h' : VH} (hu : Upd h h') {b : Nat} {o : VO} (ho : flatO h.length o) : Upd h (h'.set b o) := by
  refine ⟨by rw [List.length_set]; exact hu.1, fun i p hp => ?_⟩
  rw [List.getElem?_set] at hp
  split at hp
  · split at hp
    · cases hp; exact .inr ho
    · cases hp
  · exact hu.2 i p hp
@[simp] theorem upd_rfl (h : VH) : Upd h h := Upd.rfl' h
@[simp] theorem upd_set (h : VH) (b k : Nat) (xs : List Int) : Upd h (h.set b ⟨k, ints xs⟩) := (Upd.rfl' h).set' (flatO_ints _ _ _)
theorem cleanup_upd {h h' L : VH} {vs : List Value} (hu : Upd h h') (hv : ∀ v ∈ vs, Old h.length v) : kclean h vs (h' ++ L) = (vs, h') := by
  have htake : (h' ++ L).take h.length = h' := by rw [← hu.1]; simp
  have hc : okT h.length h ((h' ++ L).take h.length) ∧ flatL h.length [] (h' ++ L) := by
    refine ⟨?_, fun i hi => by cases hi⟩
    rw [htake]
    exact hu.2
  unfold kclean cleanup
  rw [keepL_nil hv, if_pos hc, htake]
  simp only [List.filterMap_nil, List.append_nil, Prod.mk.injEq, and_true]
  have : ∀ v ∈ vs, tren (renOf h.length []) v = v := fun v h => tren_old (hv v h) fun i hi => by simp only [renOf, if_pos hi]
  exact (List.map_congr_left this).trans (by simp)
@[simp] theorem cleanup_set {h L : VH} {b k : Nat} {xs : List Int} {vs : List Value} (hv : ∀ v ∈ vs, Old h.length v) : kclean h vs (h.set b ⟨k, ints xs⟩ ++ L) = (vs, h.set b ⟨k, ints xs⟩) := cleanup_upd (upd_set h b k xs) hv
@[simp] theorem cleanup_set0 {h : VH} {b k : Nat} {xs : List Int} {vs : List Value} (hv : ∀ v ∈ vs, Old h.length v) : kclean h vs (h.set b ⟨k, ints xs⟩) = (vs, h.set b ⟨k, ints xs⟩) := by
  have := cleanup_set (h := h) (L := []) (b := b) (k := k) (xs := xs) hv
  simpa using this
theorem hget_old {h : VH} {b : Nat} {o : VO} (hb : h[b]? = some o) (L : VH) : (h ++ L)[b]? = some o := by
  rw [List.getElem?_append_left (List.getElem?_eq_some_iff.mp hb).1]; exact hb
theorem hset_old {h : VH} {b : Nat} {o : VO} (hb : h[b]? = some o) (L : VH) (p : VO) : (h ++ L).set b p = h.set b p ++ L := by
  rw [List.set_append_left _ _ (List.getElem?_eq_some_iff.mp hb).1]
theorem hget_set {h : VH} {b : Nat} {o : VO} (hb : h[b]? = some o) (L : VH) (p : VO) : (h.set b p ++ L)[b]? = some p := by
  have := (List.getElem?_eq_some_iff.mp hb).1
  rw [List.getElem?_append_left (by simpa using this)]
  simp [this]
theorem hset_set {h : VH} {b : Nat} {o : VO} (hb : h[b]? = some o) (L : VH) (p q : VO) : (h.set b p ++ L).set b q = h.set b q ++ L := by
  have := (List.getElem?_eq_some_iff.mp hb).1
  rw [List.set_append_left _ _ (by simpa using this), List.set_set]
theorem hget_set0 {h : VH} {b : Nat} {o : VO} (hb : h[b]? = some o) (p : VO) : (h.set b p)[b]? = some p := by
  have := (List.getElem?_eq_some_iff.mp hb).1
  simp [this]
theorem hset_self {h : VH} {b : Nat} {o : VO} (hb : h[b]? = some o) : h.set b o = h := by
  obtain ⟨h1, h2⟩ := List.getElem?_eq_some_iff.mp hb
  rw [← h2]; exact List.set_getElem_self h1

/-! ### objects whose cells are written out -/
@[simp] theorem flatO_nil (n k : Nat) : flatO n ⟨k, []⟩ := fun r hr => by simp [orefs] at hr
@[simp] theorem flatO_cons (n k : Nat) (v : Value) (cs : List Value) : flatO n ⟨k, v :: cs⟩ ↔ OldC n v ∧ flatO n ⟨k, cs⟩ := by
  unfold flatO OldC orefs
  simp only [List.flatMap_cons, List.mem_append]
  exact ⟨fun h => ⟨fun r hr => h r (.inl hr), fun r hr => h r (.inr hr)⟩, fun h r hr => hr.elim (h.1 r) (h.2 r)⟩
@[simp] theorem oldC_int (n : Nat) (k : IntKind) (i : Int) : OldC n (.int k i) := fun r hr => by simp [crefs, arefs] at hr
@[simp] theorem oldC_bool (n : Nat) (b : Bool) : OldC n (.bool b) := fun r hr => by simp [crefs, arefs] at hr
@[simp] theorem oldC_str (n : Nat) (b : ByteArray) : OldC n (.string b) := fun r hr => by simp [crefs, arefs] at hr
@[simp] theorem oldC_slN (n a b : Nat) : OldC n (.slice none a b) := fun r hr => by simp [crefs, arefs] at hr
@[simp] theorem oldC_ptrN (n : Nat) : OldC n (.pointer none) := fun r hr => by simp [crefs, arefs] at hr
@[simp] theorem oldC_nilF (n : Nat) : OldC n .nilFunc := fun r hr => by simp [crefs, arefs] at hr
@[simp] theorem oldC_sl (n : Nat) (a : Addr) (k t : Nat) : OldC n (.slice (some a) k t) ↔ a.block < n := by simp [OldC, crefs, arefs]
@[simp] theorem oldC_ptr (n : Nat) (a : Addr) : OldC n (.pointer (some a)) ↔ a.block < n := by simp [OldC, crefs, arefs]
theorem OldC.le {n m : Nat} {v : Value} (h : OldC n v) (hm : n ≤ m) : OldC m v := fun r hr => Nat.lt_of_lt_of_le (h r hr) hm
theorem Sl.oldC {h : VH} {v : Value} {cs : List Value} (hs : Sl h v cs) : OldC h.length v := by
  rcases hs.inv with ⟨rfl, _⟩ | ⟨rfl, _⟩ | ⟨a, n, tot, o, rfl, ho, _⟩
  · simp
  · simp
  · rw [oldC_sl]; exact (List.getElem?_eq_some_iff.mp ho).1
theorem Sli.oldCk {h : VH} {v : Value} {xs : List Int} (hs : Sli h v xs) {k : Nat} : OldC (h.length + k) v := (Sl.oldC hs).le (Nat.le_add_right _ _)

@[simp] theorem old_tagg_nil (n : Nat) (k k2 : IntKind) (x y : Int) (a b : Nat) : Old n (.tuple #[.agg #[.int k x, .slice none a b], .int k2 y]) := by
  intro r hr
  simp [trefs, vrefs, crefs, arefs] at hr
@[simp] theorem old_agg_nil (n : Nat) (k : IntKind) (x : Int) (a b : Nat) : Old n (.agg #[.int k x, .slice none a b]) := by
  intro r hr
  simp [trefs, vrefs, crefs, arefs] at hr
@[simp] theorem old_tsl_nil (n : Nat) (k : IntKind) (x : Int) (a b : Nat) : Old n (.tuple #[.slice none a b, .int k x]) := by
  intro r hr
  simp [trefs, vrefs, crefs, arefs] at hr
@[simp] theorem old_tup2 (k : Nat) (a b : Value) (ha : ∀ vs, a ≠ .tuple vs) (hb : ∀ vs, b ≠ .tuple vs) : Old k (.tuple #[a, b]) ↔ Old k a ∧ Old k b := by
  have e : ∀ v : Value, (∀ vs, v ≠ .tuple vs) → trefs v = vrefs v := by
    intro v hv
    unfold trefs
    split
    · exact absurd rfl (hv _)
    · rfl
  unfold Old
  rw [e a ha, e b hb]
  simp only [trefs, List.flatMap_cons, List.flatMap_nil, List.append_nil, List.mem_append]
  exact ⟨fun h => ⟨fun r hr => h r (.inl hr), fun r hr => h r (.inr hr)⟩, fun h r hr => hr.elim (h.1 r) (h.2 r)⟩

end Go.Proofs.Ythpgiimaadohcaa.Zv

/- A row's arguments: what they are to the virtual interpreter; and a law that it tells true. -/
namespace Go.Proofs.Ythpgiimaadohcaa.Zv
open Go Go.ChangeShapes Go.WideShapes Go.ChangeAt Go.RowKit

/-- What is known of a slice of integers that came in. -/
def IsRow (k : IntKind) (w : World) (a : Option Addr) (len cap : Nat) (zs : List Int) : Prop :=
  (a = none ∧ len = 0 ∧ cap = 0 ∧ zs = []) ∨
  ∃ x, a = some x ∧ len ≤ cap ∧ cap ≤ maxLen ∧ zs.length = cap ∧ (∀ i, i < zs.length → w.cell? (x.add i) = some (.int k (zs.getD i 0))) ∧ ∀ n ∈ zs, (Lit.int k n).wf = true

theorem IsRow.of {H : Type} {enc : TypeId × Value → H} {P : Program} {W : World} {held : Bool} {t e : TypeId} {k : IntKind} {fuel : Nat} {v : Value} {x : DataW H × List MemPlace} (ht : P.underlying t = some (.slice e)) (he : P.underlying e = some (.int k)) (hc : P.cellsOf e = 1)
    (h : DataW.trod enc P W 0 (fun _ => true) held fuel t [v] = some x) : ∃ a len cap zs, v = .slice a len cap ∧ IsRow k W a len cap zs := by
  rcases open_ints ht he hc h with ⟨hcs, _⟩ | ⟨x, l, c, zs, hcs, _, hl, hm, hz, _, hcell, hwz⟩
  · simp at hcs
    exact ⟨none, 0, 0, [], hcs, .inl ⟨rfl, rfl, rfl, rfl⟩⟩
  · simp at hcs
    exact ⟨some x, l, c, zs, hcs, .inr ⟨x, rfl, hl, hm, by simpa using hz, hcell, hwz⟩⟩

/-- Arguments so far: all objects are read alone. -/
def RA (φ : Em) (h : VH) (W : World) : Prop := RH h.length φ (VH.ph h) W
theorem RA.nil (W : World) (hg : ∀ b C, globTab b = some C → ∃ ty fz, W.heap[b]? = some (.cells C ty fz)) : RA (fun _ => ⟨0, 0, 0⟩) [] W :=
  ⟨fun i o h => by simp [VH.ph] at h, fun i j h => by simp [VH.ph] at h, fun b C hb => ⟨hg b C hb, fun i h => by simp [VH.ph] at h⟩⟩

theorem Grow.refl (φ : Em) (L : PH) : Grow φ L φ L := fun _ o h => ⟨o, h, rfl, Nat.le_refl _, fun _ => rfl⟩

theorem RA.slice {k : IntKind} {φ : Em} {h : VH} {W : World} {a : Option Addr} {len cap : Nat} {zs : List Int} (hR : RA φ h W) (hr : IsRow k W a len cap zs) :
    ∃ φ' L v, RA φ' (h ++ L) W ∧ Grow φ (VH.ph h) φ' (VH.ph (h ++ L)) ∧ AtomR φ' (VH.ph (h ++ L)) v (.slice a len cap) ∧ Sl (h ++ L) v ((zs.take len).map (.int k)) := by
  rcases hr with ⟨rfl, rfl, rfl, rfl⟩ | ⟨x, rfl, hl, hm, hz, hcell, hw⟩
  · exact ⟨φ, [], .slice none 0 0, by simpa using hR, by simpa using Grow.refl _ _, .slN, rfl⟩
  · by_cases h0 : len = 0
    · subst h0
      exact ⟨φ, [], .slice none 0 1, by simpa using hR, by simpa using Grow.refl _ _, .slE x cap, by simp [Sl, vsrc]⟩
    · have hlen : len ≤ zs.length := by omega
      have hspot : x.spot = none := by
        have := World.cell?_spot (hcell 0 (by omega))
        simpa [Addr.add] using this
      -- the cells lie in a block
      have hcl : ∀ j, j < zs.length → ∃ C ty fz, W.heap[x.block]? = some (.cells C ty fz) ∧ C[x.off + j]? = some (.int k (zs.getD j 0)) := by
        intro j hj
        have h1 := hcell j hj
        unfold World.cell? at h1
        have hb : (x.add j).block = x.block := by unfold Addr.add; split <;> rfl
        have ho : (x.add j).off = x.off + j := by
          unfold Addr.add
          split
          · rename_i h; subst h; rfl
          · rfl
        rw [hb] at h1
        split at h1
        · rename_i C ty fz hC
          split at h1
          · cases h1
          · rw [ho] at h1
            exact ⟨C, ty, fz, hC, h1⟩
        · cases h1
      let φ' : Em := fun i => if i = h.length then ⟨x.block, x.off, cap⟩ else φ i
      let ob : VO := ⟨1, (zs.take len).map (.int k)⟩
      have hlook : ∀ i o, VH.ph (h ++ [ob]) i = some o → (i < h.length ∧ VH.ph h i = some o) ∨ (i = h.length ∧ o = ob) := by
        intro i o hi
        simp only [VH.ph] at hi ⊢
        rcases Nat.lt_trichotomy i h.length with hlt | e | hgt
        · left
          rw [List.getElem?_append_left hlt] at hi
          exact ⟨hlt, hi⟩
        · right
          subst e
          rw [hget0] at hi
          simp at hi
          exact ⟨rfl, hi.symm⟩
        · rw [List.getElem?_append_right (by omega)] at hi
          rw [List.getElem?_eq_none (by simp; omega)] at hi
          cases hi
      have hg : Grow φ (VH.ph h) φ' (VH.ph (h ++ [ob])) := by
        intro i o hi
        have hlt : i < h.length := (List.getElem?_eq_some_iff.mp hi).1
        refine ⟨o, ?_, rfl, Nat.le_refl _, fun _ => ?_⟩
        · simp only [VH.ph] at hi ⊢
          rw [List.getElem?_append_left hlt]; exact hi
        · simp only [φ']; rw [if_neg (by omega)]
      refine ⟨φ', [ob], .slice (some ⟨h.length, 0, none⟩) len len, ?_, hg, ?_, ?_⟩
      · refine ⟨fun i o hi => ?_, fun i j hi _ hn => ?_, fun b C hb => ⟨(hR.glob b C hb).1, fun i hi hn => ?_⟩⟩
        · rcases hlook i o hi with ⟨hlt, hi'⟩ | ⟨rfl, rfl⟩
          · obtain ⟨C, ty, fz, h1, h2, _⟩ := hR.cells i o hi'
            have e : φ' i = φ i := by simp only [φ']; rw [if_neg (by omega)]
            rw [e]
            refine ⟨C, ty, fz, h1, fun j v hj => ?_, fun hn => by simp at hn; omega⟩
            obtain ⟨v', h3, h4⟩ := h2 j v hj
            exact ⟨v', h3, h4.grow hg⟩
          · obtain ⟨C, ty, fz, h1, _⟩ := hcl 0 (by omega)
            have e : φ' h.length = ⟨x.block, x.off, cap⟩ := by simp [φ']
            rw [e]
            refine ⟨C, ty, fz, h1, fun j v hj => ?_, fun hn => by simp at hn⟩
            simp only [ob, List.getElem?_map] at hj
            have hjl : j < len := by
              rcases Nat.lt_or_ge j len with h' | h'
              · exact h'
              · rw [List.getElem?_eq_none (by simp; omega)] at hj; cases hj
            obtain ⟨C', ty', fz', h1', h2'⟩ := hcl j (by omega)
            rw [h1] at h1'
            simp only [Option.some.injEq, Obj.cells.injEq] at h1'
            obtain ⟨rfl, _, _⟩ := h1'
            refine ⟨_, h2', ?_⟩
            rw [List.getElem?_take, if_pos hjl, List.getElem?_eq_getElem (by omega)] at hj
            simp only [Option.map_some, Option.some.injEq] at hj
            subst hj
            rw [List.getD_eq_getElem?_getD, List.getElem?_eq_getElem (by omega)]
            exact .atom (.int _ _)
        · exfalso
          have : i < (h ++ [ob]).length := by
            simp only [VH.ph] at hi
            rcases Nat.lt_or_ge i (h ++ [ob]).length with h' | h'
            · exact h'
            · rw [List.getElem?_eq_none h'] at hi; cases hi
          omega
        · exfalso
          have : i < (h ++ [ob]).length := by
            simp only [VH.ph] at hi
            rcases Nat.lt_or_ge i (h ++ [ob]).length with h' | h'
            · exact h'
            · rw [List.getElem?_eq_none h'] at hi; cases hi
          omega
      · have hL : VH.ph (h ++ [ob]) h.length = some ob := by simp [VH.ph]
        have e : φ' h.length = ⟨x.block, x.off, cap⟩ := by simp [φ']
        refine .sl (c := cap) hL (by simp [ob]; omega) (by simp [ob]) (by simp [ob]) hl (by rw [e]; simp [ob]) (.inr ?_)
        rw [e]
        obtain ⟨b, off, sp⟩ := x
        simp at hspot ⊢
        exact hspot
      · simp only [Sl, vsrc_ref, hget0, ob]
        have e : (List.map (Value.int k) (List.take len zs)).length = len := by simp; omega
        simp only [List.getElem?_cons_zero, e, Nat.zero_add, Nat.mul_one, List.drop_zero, Nat.le_refl, and_self, if_true]
        rw [List.take_of_length_le (by omega)]

/-- A law that the virtual interpreter tells true is true. -/
theorem law_true {P : Program} {call : VCall} {f : Nat} {φ : Em} {h : VH} {W : World} {vs : List Value} {vs' : List Value} (hS : CallSound P h.length call) (hR : RA φ h W) (ha : All2 (TopR φ (VH.ph h)) vs vs') {h' : VH}
    (hc : call f vs h = some (.bool true, h')) : Calls P f vs'.toArray W fun e W' => e = .returned (.bool true) ∧ Below W.heap.size W W' := by
  obtain ⟨_, hcalls⟩ := hS f vs h _ _ hc φ W vs' (Nat.le_refl _) hR ha
  refine hcalls.mono fun e W' ⟨φ', v', he, _, hX, hv⟩ => ?_
  have hb := hv.inv_bool
  subst hb
  refine ⟨he, hX.rest.1, hX.rest.2.1, hX.rest.2.2, hX.size, fun b hb => hX.frame b hb fun i hi hn => ?_⟩
  exfalso
  simp only [VH.ph] at hi
  rw [List.getElem?_eq_none hn] at hi
  cases hi
end Go.Proofs.Ythpgiimaadohcaa.Zv

/- A row's arguments, opened: graphs, lists, numbers, desks. -/
namespace Go.Proofs.Ythpgiimaadohcaa.Zv
open Go Go.ChangeShapes Go.WideShapes Go.ChangeAt Go.RowKit

/-- A row is well-formed: its numbers are 64-bit numbers. -/
theorem IsRow.len {k : IntKind} {W : World} {a : Option Addr} {len cap : Nat} {zs : List Int} (h : IsRow k W a len cap zs) : (zs.take len).length ≤ 9223372036854775807 := by
  rcases h with ⟨_, _, _, rfl⟩ | ⟨x, _, hl, hm, hz, _⟩
  · simp
  · have : maxLen = 9223372036854775807 := rfl
    simp; omega

theorem wf64 {n : Int} (h : (Lit.int .i64 n).wf = true) : -9223372036854775808 ≤ n ∧ n ≤ 9223372036854775807 := by
  simp [Lit.wf, IntKind.min, IntKind.max, IntKind.signed, IntKind.bits] at h
  omega

variable {H : Type} {enc : TypeId × Value → H} {P : Program} {W : World} {held : Bool}

theorem in_int {t : TypeId} {base : Nat} {v : Value} {d : DataW H} {p : List MemPlace} (ht : P.underlying t = some (.int .i64)) (hv : Value.okWide P W .any base t v) (h : DataW.Trod enc P W 0 (fun _ => true) held t v d p) :
    ∃ n, v = .int .i64 n ∧ -9223372036854775808 ≤ n ∧ n ≤ 9223372036854775807 := by
  obtain ⟨n, rfl⟩ := okWide_int ht hv
  obtain ⟨m, hm⟩ := h
  obtain ⟨n', e, _, hw⟩ := DataW.trod_int ht hm
  simp [Value.cells] at e
  subst e
  exact ⟨n, rfl, wf64 hw⟩

theorem in_graph {t e : TypeId} {f0 f1 : Field} {base : Nat} {v : Value} {d : DataW H} {p : List MemPlace} (hs : P.underlying t = some (.struct #[f0, f1])) (hone : Deep.oneCellFields P #[f0, f1] = true) (hC : P.cellsOf t = 2)
    (h0 : P.underlying f0.type = some (.int .i64)) (h1 : P.underlying f1.type = some (.slice e)) (he : P.underlying e = some (.int .i64)) (hc : P.cellsOf e = 1) (hv : Value.okWide P W .any base t v) (h : DataW.Trod enc P W 0 (fun _ => true) held t v d p) :
    ∃ n a len cap zs, v = .agg #[.int .i64 n, .slice a len cap] ∧ IsRow .i64 W a len cap zs := by
  obtain ⟨c0, c1, y0, y1, m, rfl, rfl, rfl, t0, t1⟩ := Joins.open_agg2 hs hone hC hv h
  obtain ⟨a0, e0, _, _⟩ := DataW.trod_int h0 t0
  simp at e0
  subst e0
  obtain ⟨a1, l1, cp1, z1, rfl, w1⟩ := IsRow.of h1 he hc t1
  exact ⟨_, _, _, _, _, rfl, w1⟩

end Go.Proofs.Ythpgiimaadohcaa.Zv

/- What all rows of the seat share. -/
namespace Go.Proofs.Ythpgiimaadohcaa.Zv
open Go Go.ChangeShapes Go.WideShapes Go.ChangeAt Go.RowKit
open Go.Proofs.Ythpgiimaadohcaa

theorem own : ownKnob Try.prog.godebug = none := by kernel_rfl
theorem laidOut : laidOutB Try.prog = true := by kernel_rfl
theorem mixed : Try.prog.follows .mixedOrders = true := by kernel_rfl

theorem F_ir : ∀ f fn, F f = some (.ir fn) → EntOK Try.prog (compD Try.prog) f fn := by
  intro f fn hf
  unfold F at hf
  cases hl : tab.lookup f with
  | none => rw [hl] at hf; cases hf
  | some g =>
    rw [hl] at hf
    simp only [Option.map_some, Option.some.injEq, Ent.ir.injEq] at hf
    subst hf
    have hm : (f, g) ∈ tab := by
      have h2 : ∀ (l : List (Nat × FF)), l.lookup f = some g → (f, g) ∈ l := by
        intro l
        induction l with
        | nil => intro h; cases h
        | cons p l ih =>
          intro h
          obtain ⟨a, b⟩ := p
          simp only [List.lookup] at h
          split at h
          · rename_i e
            have e2 : f = a := by simpa using e
            cases h
            rw [e2]
            exact .head _
          · exact .tail _ (ih h)
      exact h2 tab hl
    exact tabOK (f, g) hm

theorem F_ext : ∀ f g, F f = some (.ext g) → ∀ nro, ExtOK Try.prog nro f g := by
  intro f g hf
  unfold F at hf
  cases hl : tab.lookup f <;> rw [hl] at hf <;> cases hf

theorem allSound (nro : Nat) : CallSound Try.prog nro (vcall F nro) := sound mixed F F_ir fun f g h => F_ext f g h nro

/-- No table is read. -/
theorem no_glob (W : World) : ∀ b C, globTab b = some C → ∃ ty fz, W.heap[b]? = some (.cells C ty fz) := fun _ _ h => by cases h
end Go.Proofs.Ythpgiimaadohcaa.Zv

/- Loops that count up, told once. -/
namespace Go.Proofs.Ythpgiimaadohcaa.Zv
open Go

/-- Folding over i, i + 1, .., n - 1. -/
def upF {α : Type} (f : Nat → α → α) (n i : Nat) (a : α) : α := if i < n then upF f n (i + 1) (f i a) else a
 termination_by n - i
theorem upF_end {α : Type} {f : Nat → α → α} {n i : Nat} {a : α} (h : ¬ i < n) : upF f n i a = a := by rw [upF, if_neg h]
theorem upF_step {α : Type} {f : Nat → α → α} {n i : Nat} {a : α} (h : i < n) : upF f n i a = upF f n (i + 1) (f i a) := by conv => lhs; rw [upF, if_pos h]
section
variable {call : VCall} {nro : Nat} {live : List Nat} {c : FC} {h0 : VH} {n : Nat}

end
end Go.Proofs.Ythpgiimaadohcaa.Zv

/- What the laws' own small functions compute. -/
namespace Go.Proofs.Ythpgiimaadohcaa.Zv
open Go

open Classical in
/-- A loop that looks for something bad. -/
theorem search {α : Type} (f : Int → α) (bad : Int → Prop) (r d : α) (n lo : Int) (hstep : ∀ i, lo ≤ i → i < n → (bad i → f i = r) ∧ (¬ bad i → f i = f (i + 1))) (hend : ∀ i, lo ≤ i → ¬ i < n → f i = d) (i : Int) (hi : lo ≤ i) :
    f i = if ∃ j, i ≤ j ∧ j < n ∧ bad j then r else d := by
  by_cases hlt : i < n
  · by_cases hb : bad i
    · rw [(hstep i hi hlt).1 hb, if_pos ⟨i, Int.le_refl _, hlt, hb⟩]
    · rw [(hstep i hi hlt).2 hb, search f bad r d n lo hstep hend (i + 1) (by omega)]
      have : (∃ j, i + 1 ≤ j ∧ j < n ∧ bad j) ↔ ∃ j, i ≤ j ∧ j < n ∧ bad j := by
        constructor
        · rintro ⟨j, h1, h2, h3⟩; exact ⟨j, by omega, h2, h3⟩
        · rintro ⟨j, h1, h2, h3⟩
          refine ⟨j, ?_, h2, h3⟩
          have : j ≠ i := fun e => hb (e ▸ h3)
          omega
      simp only [this]
  · rw [hend i hi hlt, if_neg]
    rintro ⟨j, h1, h2, _⟩
    omega
 termination_by (n - i).toNat

theorem getD_at (xs : List Int) {i : Nat} (hi : i < xs.length) : xs.getD i 0 = xs[i] := by
  rw [List.getD_eq_getElem?_getD, List.getElem?_eq_getElem hi]; rfl

variable {nro : Nat}

/-- A graph's value. -/
abbrev gv (n : Int) (s : Value) : Value := .agg #[.int .i64 n, s]

theorem c_laws_szInt64S (s : Value) (xs : List Int) (left : Int) (h : VH) (hs : Sli h s xs) (h1 : 0 ≤ left) (h2 : left ≤ 1048576) (h3 : xs.length ≤ 9223372036854775807) :
    vcall F nro k_laws_szInt64S [s, .int .i64 left] h = some (.int .i64 (if left < xs.length then -1 else left - xs.length), h) := by
  refine v_laws_szInt64S (by simp [i_laws_szInt64S]) ?_
  rw [fbody_eq]
  simp (disch := first | assumption | omega | (simp [*] <;> omega) | fail) [i_laws_szInt64S, hs.vlen, wrap64]
  split <;> split <;> first | rfl | omega

theorem c_laws_szGraph (n : Int) (s : Value) (xs : List Int) (left : Int) (h : VH) (hs : Sli h s xs) (h1 : 0 ≤ left) (h2 : left ≤ 1048576) (h3 : xs.length ≤ 9223372036854775807) :
    vcall F nro k_laws_szGraph [gv n s, .int .i64 left] h = some (.int .i64 (if left < xs.length then -1 else left - xs.length), h) := by
  refine v_laws_szGraph (by simp [i_laws_szGraph]) ?_
  rw [fbody_eq]
  have hc := c_laws_szInt64S (nro := nro) s xs left (h ++ [⟨0, [.int .i64 n, s]⟩]) (hs.app _) h1 h2 h3
  simp (disch := first | assumption | omega | (simp [*] <;> omega) | fail) [i_laws_szGraph, hc]
  by_cases hx : left < xs.length
  · simp [hx]; omega
  · have : ¬ (left - (xs.length : Int) < 0) := by omega
    simp [hx, this]

theorem l_laws_toInt64S (s : Value) (xs : List Int) (h : VH) (hs : Sli h s xs) (h3 : xs.length ≤ 1099511627776) (hn : nro ≤ h.length) (y0 : List Int) (i : Int) (ys : List Int) (h0 : 0 ≤ i) (hi : i ≤ xs.length) (hl : ys.length = xs.length) (hp : ys.take i.toNat = xs.take i.toNat) :
    floop (vcall F nro) nro [0, 3, 4] i_laws_toInt64S_B1 (h ++ [⟨1, ints y0⟩]) [s, .slice (some ⟨h.length, 0, none⟩) xs.length xs.length, .int .i64 i] (h ++ [⟨1, ints ys⟩]) =
      some (.exit 0, fl [(3, .slice (some ⟨h.length, 0, none⟩) xs.length xs.length)], h ++ [⟨1, ints xs⟩]) := by
  have hso := fun k => hs.oldk (k := k)
  rw [floop_at i_laws_toInt64S_B1.eq_1]
  by_cases hlt : i < xs.length
  · simp (disch := first | assumption | omega | (simp [*] <;> omega) | fail) [hs.vlen', hs.vidx', hs.vload', wrap64, hlt, splice_ints, hn, hl, h0]
    refine l_laws_toInt64S s xs h hs h3 hn y0 (i + 1) (ys.set i.toNat xs[i.toNat]) (by omega) (by omega) (by simpa using hl) ?_
    rw [show (i + 1).toNat = i.toNat + 1 by omega]
    apply List.ext_getElem?
    intro k
    have := congrArg (·[k]?) hp
    grind
  · have : i = xs.length := by omega
    subst this
    have : ys = xs := by simpa [← hl, List.take_of_length_le] using hp
    simp (disch := first | assumption | omega | (simp [*] <;> omega) | fail) [hs.vlen', hs.vidx', hs.vload', wrap64, this]
 termination_by (xs.length - i).toNat

theorem c_laws_toInt64S (s : Value) (xs : List Int) (h : VH) (hs : Sli h s xs) (h3 : xs.length ≤ 1099511627776) (hn : nro ≤ h.length) :
    vcall F nro k_laws_toInt64S [s] h = some (.slice (some ⟨h.length, 0, none⟩) xs.length xs.length, h ++ [⟨1, ints xs⟩]) := by
  refine v_laws_toInt64S (by simp [i_laws_toInt64S]) ?_
  rw [fbody_eq]
  have hl := l_laws_toInt64S s xs h hs h3 hn (List.replicate xs.length 0) 0 (List.replicate xs.length 0) (by omega) (by omega) (by simp) (by simp)
  simp (disch := first | assumption | omega | (simp [*] <;> omega) | fail) [i_laws_toInt64S, hs.vlen, hl]
  omega

theorem c_laws_toGraph (n : Int) (s : Value) (xs : List Int) (h : VH) (hs : Sli h s xs) (h3 : xs.length ≤ 1099511627776) (hn : nro ≤ h.length) :
    vcall F nro k_laws_toGraph [gv n s] h = some (gv n (.slice (some ⟨h.length, 0, none⟩) xs.length xs.length), h ++ [⟨1, ints xs⟩]) := by
  refine v_laws_toGraph (by simp [i_laws_toGraph]) ?_
  rw [fbody_eq]
  have hc := c_laws_toInt64S (nro := nro) s xs (h ++ [⟨0, [.int .i64 n, s]⟩, ⟨0, [.int .i64 0, .slice none 0 0]⟩, ⟨0, [.int .i64 n, .slice none 0 0]⟩]) (hs.app _) h3 (by simp; omega)
  simp at hc
  have hn' := fun k => Nat.le_trans hn (Nat.le_add_right h.length k)
  simp (disch := first | assumption | omega | (simp [*] <;> omega) | fail) [i_laws_toGraph, hc, splice, fresults, fresL, fres1, hn']

theorem l_laws_eqInt64S (s t : Value) (xs ys : List Int) (h : VH) (hs : Sli h s xs) (ht : Sli h t ys) (h3 : xs.length ≤ 9223372036854775806) (hl : xs.length = ys.length) :
    floop (vcall F nro) nro [0, 1, 5] i_laws_eqInt64S_B1 h [s, t, .int .i64 0] h = if xs = ys then some (.exit 0, fl [], h) else some (.ret, fl [(4, .bool false)], h) := by
  have key := search (fun i => floop (vcall F nro) nro [0, 1, 5] i_laws_eqInt64S_B1 h [s, t, .int .i64 i] h) (fun i => xs.getD i.toNat 0 ≠ ys.getD i.toNat 0) (some (.ret, fl [(4, .bool false)], h)) (some (.exit 0, fl [], h)) xs.length 0 ?_ ?_ 0 (by omega)
  · rw [key]
    by_cases e : xs = ys
    · rw [if_pos e, if_neg]
      rintro ⟨j, _, _, hj⟩
      exact hj (by rw [e])
    · rw [if_neg e, if_pos]
      apply Classical.byContradiction
      intro hno
      apply e
      apply List.ext_getElem hl
      intro k h1 h2
      apply Classical.byContradiction
      intro hne
      exact hno ⟨k, by omega, by omega, by simpa [h1, h2] using hne⟩
  · intro i h0 hi
    have hso := hs.old
    have hto := ht.old
    have e1 : xs.getD i.toNat 0 = xs[i.toNat]'(by omega) := getD_at _ (by omega)
    have e2 : ys.getD i.toNat 0 = ys[i.toNat]'(by omega) := getD_at _ (by omega)
    rw [e1, e2, floop_at i_laws_eqInt64S_B1.eq_1]
    constructor <;> intro hb <;> simp (disch := first | assumption | omega | (simp [*] <;> omega) | fail) [hs.vlen, hs.vidx, hs.vload, ht.vlen, ht.vidx, ht.vload, wrap64, hi, hb]
  · intro i h0 hi
    rw [floop_at i_laws_eqInt64S_B1.eq_1]
    simp (disch := first | assumption | omega | (simp [*] <;> omega) | fail) [hs.vlen, hi]

theorem c_laws_eqInt64S (s t : Value) (xs ys : List Int) (h : VH) (hs : Sli h s xs) (ht : Sli h t ys) (h3 : xs.length ≤ 9223372036854775806) :
    vcall F nro k_laws_eqInt64S [s, t] h = some (.bool (decide (xs = ys)), h) := by
  refine v_laws_eqInt64S (by simp [i_laws_eqInt64S]) ?_
  rw [fbody_eq]
  by_cases hl : xs.length = ys.length
  · simp (disch := first | assumption | omega | (simp [*] <;> omega) | fail) [i_laws_eqInt64S, hs.vlen, ht.vlen, hl, l_laws_eqInt64S s t xs ys h hs ht h3 hl]
    by_cases e : xs = ys <;> simp [e]
  · have hl' : ¬ (xs.length : Int) = ys.length := by omega
    have : xs ≠ ys := fun e => hl (by rw [e])
    simp (disch := first | assumption | omega | (simp [*] <;> omega) | fail) [i_laws_eqInt64S, hs.vlen, ht.vlen, hl', this]

theorem c_laws_eqGraph (n m : Int) (s t : Value) (xs ys : List Int) (h : VH) (hs : Sli h s xs) (ht : Sli h t ys) (h3 : xs.length ≤ 9223372036854775806) :
    vcall F nro k_laws_eqGraph [gv n s, gv m t] h = some (.bool (decide (n = m ∧ xs = ys)), h) := by
  refine v_laws_eqGraph (by simp [i_laws_eqGraph]) ?_
  rw [fbody_eq]
  have hc := c_laws_eqInt64S (nro := nro) s t xs ys (h ++ [⟨0, [.int .i64 n, s]⟩, ⟨0, [.int .i64 m, t]⟩]) (hs.app _) (ht.app _) h3
  simp (disch := first | assumption | omega | (simp [*] <;> omega) | fail) [i_laws_eqGraph, hc]
  by_cases e1 : n = m <;> by_cases e2 : xs = ys <;> simp [e1, e2]

theorem r_laws_toGraph (n : Int) (s : Value) (h : VH) (hs : isSli h s) (h3 : (rd h s).length ≤ 1099511627776) (hn : nro ≤ h.length) :
    vcall F nro k_laws_toGraph [gv n s] h = some (gv n (.slice (some ⟨h.length, 0, none⟩) (rd h s).length (rd h s).length), h ++ [⟨1, ints (rd h s)⟩]) := c_laws_toGraph n s _ h hs.sli h3 hn
theorem r_laws_eqGraph (n m : Int) (s t : Value) (h : VH) (hs : isSli h s) (ht : isSli h t) (h3 : (rd h s).length ≤ 9223372036854775806) :
    vcall F nro k_laws_eqGraph [gv n s, gv m t] h = some (.bool (decide (n = m ∧ rd h s = rd h t)), h) := c_laws_eqGraph n m s t _ _ h hs.sli ht.sli h3
end Go.Proofs.Ythpgiimaadohcaa.Zv

/- What a graph is, and what the two tests for it compute. -/
namespace Go.Proofs.Ythpgiimaadohcaa.Zv
open Go
variable {nro : Nat}

/-- Bit w of row v. -/
def rbit (rows : List Int) (v w : Nat) : Bool := (rows.getD v 0).toNat.testBit w

/-- What holds of row v of a graph by itself. -/
def RowOK (n : Int) (rows : List Int) (v : Nat) : Prop := 0 ≤ rows.getD v 0 ∧ rows.getD v 0 < 2 ^ n.toNat ∧ rbit rows v v = false

/-- A graph. -/
structure GV (n : Int) (rows : List Int) : Prop where
  lo : 1 ≤ n
  hi : n ≤ 62
  len : (rows.length : Int) = n
  row : ∀ v, v < rows.length → RowOK n rows v
  sym : ∀ v w, v < rows.length → w < rows.length → rbit rows v w = rbit rows w v

theorem pow_le62 {n : Int} (h : n ≤ 62) : (2 : Int) ^ n.toNat ≤ 4611686018427387904 := by
  have h1 : (2 : Nat) ^ n.toNat ≤ 4611686018427387904 := Nat.le_trans (Nat.pow_le_pow_right (by decide : 0 < 2) (by omega : n.toNat ≤ 62)) (by decide)
  have h2 : ((2 ^ n.toNat : Nat) : Int) = (2 : Int) ^ n.toNat := by simp
  rw [← h2]; omega
theorem pow_pos2 (k : Nat) : (1 : Int) ≤ 2 ^ k := by
  have h1 : 1 ≤ (2 : Nat) ^ k := Nat.one_le_two_pow
  have h2 : ((2 ^ k : Nat) : Int) = (2 : Int) ^ k := by simp
  rw [← h2]; omega

/-- The test of a bit, as the code has it. -/
theorem bit_int {a b : Int} (ha : 0 ≤ a) (ha2 : a ≤ 9223372036854775807) (hb : b ≤ 64) : (iand .i64 (ishr .i64 a b) 1 = 1) ↔ a.toNat.testBit b.toNat = true := by
  have := bit_nat (a := a.toNat) (b := b) (by omega) hb
  rw [Int.toNat_of_nonneg ha] at this
  exact this
theorem bit_two {a b : Int} (ha : 0 ≤ a) (ha2 : a ≤ 9223372036854775807) (hb : b ≤ 64) : iand .i64 (ishr .i64 a b) 1 = if a.toNat.testBit b.toNat = true then 1 else 0 := by
  have h1 := bit_int ha ha2 hb
  split
  · rename_i h; exact h1.mpr h
  · rename_i h
    have h2 : iand .i64 (ishr .i64 a b) 1 = ((a.toNat >>> b.toNat % 2 : Nat) : Int) := by
      have e : a = (a.toNat : Int) := (Int.toNat_of_nonneg ha).symm
      rw [e, ishr_nat hb, iand_one, Int.toNat_natCast]
      rw [Nat.shiftRight_eq_div_pow]
      exact Nat.lt_of_le_of_lt (Nat.div_le_self _ _) (by omega)
    have h3 : ¬ iand .i64 (ishr .i64 a b) 1 = 1 := fun e => h (h1.mp e)
    omega

theorem c_spec_l01In (n lo hi : Int) (h : VH) : vcall F nro k_spec_l01In [.int .i64 n, .int .i64 lo, .int .i64 hi] h = some (.bool (decide (lo ≤ n ∧ n ≤ hi)), h) := by
  refine v_spec_l01In (by simp [i_spec_l01In]) ?_
  rw [fbody_eq]
  simp [i_spec_l01In]
  split <;> simp <;> omega

theorem c_spec_l01Has (n a b : Int) (s : Value) (rows : List Int) (h : VH) (hs : Sli h s rows) (h1 : 0 ≤ a) (h2 : a < rows.length) (h3 : 0 ≤ b) (h4 : b ≤ 64) :
    vcall F nro k_spec_l01Has [gv n s, .int .i64 a, .int .i64 b] h = some (.bool (decide (iand .i64 (ishr .i64 (rows.getD a.toNat 0) b) 1 = 1)), h) := by
  refine v_spec_l01Has (by simp [i_spec_l01Has]) ?_
  rw [fbody_eq, getD_at rows (by omega)]
  simp (disch := first | assumption | omega | (simp [*] <;> omega) | fail) [i_spec_l01Has, hs.vidx', hs.vload', wrapu64]

/-- The same of a row that is not negative. -/
theorem c_spec_l01Has' (n a b : Int) (s : Value) (rows : List Int) (h : VH) (hs : Sli h s rows) (h1 : 0 ≤ a) (h2 : a < rows.length) (h3 : 0 ≤ b) (h4 : b ≤ 64) (h5 : 0 ≤ rows.getD a.toNat 0) (h6 : rows.getD a.toNat 0 ≤ 9223372036854775807) :
    vcall F nro k_spec_l01Has [gv n s, .int .i64 a, .int .i64 b] h = some (.bool (rbit rows a.toNat b.toNat), h) := by
  rw [c_spec_l01Has n a b s rows h hs h1 h2 h3 h4]
  have := bit_int h5 h6 h4
  simp only [this, rbit]
  simp

theorem ishl_one' {n : Int} (h0 : 0 ≤ n) (h1 : n ≤ 62) : ishl .i64 1 n = 2 ^ n.toNat := by
  rw [ishl_one h1]; simp

/-- The heap with a graph's value in a box of its own. -/
abbrev bx (h : VH) (n : Int) (s : Value) : VH := h ++ [⟨0, [.int .i64 n, s]⟩]
abbrev bp (h : VH) : Value := .pointer (some ⟨h.length, 0, some 2⟩)

theorem rowOK_iff {n i : Int} {rows : List Int} (hn2 : n ≤ 62) (hi : 0 ≤ i) (hin : i < n) (hl : (rows.length : Int) = n) :
    RowOK n rows i.toNat ↔ (0 ≤ rows[i.toNat]'(by omega) ∧ rows[i.toNat]'(by omega) ≤ 2 ^ n.toNat - 1) ∧ ¬ iand .i64 (ishr .i64 (rows[i.toNat]'(by omega)) i) 1 = 1 := by
  have hp := pow_le62 hn2
  unfold RowOK rbit
  rw [getD_at rows (by omega)]
  constructor
  · rintro ⟨h1, h2, h3⟩
    refine ⟨⟨h1, by omega⟩, fun e => ?_⟩
    rw [(bit_int h1 (by omega) (by omega)).mp e] at h3
    cases h3
  · rintro ⟨⟨h1, h2⟩, h3⟩
    refine ⟨h1, by omega, ?_⟩
    rw [bit_int h1 (by omega) (by omega)] at h3
    simpa using h3

open Classical in
theorem l_spec_l01Is_1 (n : Int) (s : Value) (rows : List Int) (h : VH) (hs : Sli h s rows) (hn1 : 1 ≤ n) (hn2 : n ≤ 62) (hl : (rows.length : Int) = n) :
    floop (vcall F nro) nro [1, 3] i_spec_l01Is_B1 (bx h n s) [bp h, .int .i64 0] (bx h n s) =
      if ∃ j : Int, 0 ≤ j ∧ j < n ∧ ¬ RowOK n rows j.toNat then some (.ret, fl [(2, .bool false)], bx h n s) else some (.exit 0, fl [(1, bp h)], bx h n s) := by
  refine search (fun i => floop (vcall F nro) nro [1, 3] i_spec_l01Is_B1 (bx h n s) [bp h, .int .i64 i] (bx h n s)) (fun i => ¬ RowOK n rows i.toNat) _ _ n 0 ?_ ?_ 0 (by omega)
  · intro i hi hlt
    have hc := fun (x a b : Int) => c_spec_l01In (nro := nro) x a b (bx h n s)
    have hc2 := c_spec_l01Has (nro := nro) n i i s rows (bx h n s) (hs.app _) hi (by omega) hi (by omega)
    have hp := pow_le62 hn2
    have hp1 := pow_pos2 n.toNat
    rw [floop_at i_spec_l01Is_B1.eq_1, rowOK_iff hn2 hi hlt hl]
    constructor <;> intro hb
    · simp (disch := first | assumption | omega | (simp [*] <;> omega) | fail) [hs.vlen', hs.vidx', hs.vload', wrap64, wrapu64, hlt, hc, hc2, ishl_one']
      intro h1 h2 h3
      exact absurd ⟨⟨h1, h2⟩, h3⟩ hb
    · obtain ⟨⟨g1, g2⟩, g3⟩ := Classical.not_not.mp hb
      simp (disch := first | assumption | omega | (simp [*] <;> omega) | fail) [hs.vlen', hs.vidx', hs.vload', wrap64, wrapu64, hlt, hc, hc2, ishl_one', g1, g2, g3]
  · intro i hi hlt
    rw [floop_at i_spec_l01Is_B1.eq_1]
    simp (disch := first | assumption | omega | (simp [*] <;> omega) | fail) [hlt]

open Classical in
theorem l_spec_l01Is_2 (n : Int) (s : Value) (rows : List Int) (h : VH) (hs : Sli h s rows) (hn1 : 1 ≤ n) (hn2 : n ≤ 62) (hl : (rows.length : Int) = n) (hr : ∀ j : Int, 0 ≤ j → j < n → RowOK n rows j.toNat) (v : Int) (hv : 0 ≤ v) (hvn : v < n) :
    floop (vcall F nro) nro [1, 4, 5] i_spec_l01Is_B2 (bx h n s) [bp h, .int .i64 v, .int .i64 0] (bx h n s) =
      if ∃ j : Int, 0 ≤ j ∧ j < v ∧ rbit rows v.toNat j.toNat ≠ rbit rows j.toNat v.toNat then some (.ret, fl [(2, .bool false)], bx h n s) else some (.exit 4, fl [(1, bp h), (4, .int .i64 v)], bx h n s) := by
  refine search (fun i => floop (vcall F nro) nro [1, 4, 5] i_spec_l01Is_B2 (bx h n s) [bp h, .int .i64 v, .int .i64 i] (bx h n s)) (fun j => rbit rows v.toNat j.toNat ≠ rbit rows j.toNat v.toNat) _ _ v 0 ?_ ?_ 0 (by omega)
  · intro i hi hlt
    have hp := pow_le62 hn2
    obtain ⟨r1, r2, _⟩ := hr i hi (by omega)
    obtain ⟨q1, q2, _⟩ := hr v hv hvn
    have hc1 := c_spec_l01Has' (nro := nro) n v i s rows (bx h n s) (hs.app _) hv (by omega) hi (by omega) q1 (by omega)
    have hc2 := c_spec_l01Has' (nro := nro) n i v s rows (bx h n s) (hs.app _) hi (by omega) hv (by omega) r1 (by omega)
    rw [floop_at i_spec_l01Is_B2.eq_1]
    constructor <;> intro hb
    · simp (disch := first | assumption | omega | (simp [*] <;> omega) | fail) [wrap64, hlt, hc1, hc2, hb]
    · simp (disch := first | assumption | omega | (simp [*] <;> omega) | fail) [wrap64, hlt, hc1, hc2, Classical.not_not.mp hb]
  · intro i hi hlt
    rw [floop_at i_spec_l01Is_B2.eq_1]
    simp (disch := first | assumption | omega | (simp [*] <;> omega) | fail) [hlt]

open Classical in
theorem l_spec_l01Is_3 (n : Int) (s : Value) (rows : List Int) (h : VH) (hs : Sli h s rows) (hn1 : 1 ≤ n) (hn2 : n ≤ 62) (hl : (rows.length : Int) = n) (hr : ∀ j : Int, 0 ≤ j → j < n → RowOK n rows j.toNat) :
    floop (vcall F nro) nro [1, 4] i_spec_l01Is_B3 (bx h n s) [bp h, .int .i64 0] (bx h n s) =
      if ∃ v : Int, 0 ≤ v ∧ v < n ∧ ∃ j : Int, 0 ≤ j ∧ j < v ∧ rbit rows v.toNat j.toNat ≠ rbit rows j.toNat v.toNat then some (.ret, fl [(2, .bool false)], bx h n s) else some (.exit 2, fl [], bx h n s) := by
  refine search (fun i => floop (vcall F nro) nro [1, 4] i_spec_l01Is_B3 (bx h n s) [bp h, .int .i64 i] (bx h n s)) (fun v => ∃ j : Int, 0 ≤ j ∧ j < v ∧ rbit rows v.toNat j.toNat ≠ rbit rows j.toNat v.toNat) _ _ n 0 ?_ ?_ 0 (by omega)
  · intro i hi hlt
    have hin := l_spec_l01Is_2 (nro := nro) n s rows h hs hn1 hn2 hl hr i hi hlt
    rw [floop_at i_spec_l01Is_B3.eq_1]
    constructor <;> intro hb
    · rw [if_pos hb] at hin
      simp (disch := first | assumption | omega | (simp [*] <;> omega) | fail) [wrap64, hlt, hin]
    · rw [if_neg hb] at hin
      simp (disch := first | assumption | omega | (simp [*] <;> omega) | fail) [wrap64, hlt, hin]
  · intro i hi hlt
    rw [floop_at i_spec_l01Is_B3.eq_1]
    simp (disch := first | assumption | omega | (simp [*] <;> omega) | fail) [hlt]

theorem GV_iff {n : Int} {rows : List Int} : GV n rows ↔ 1 ≤ n ∧ n ≤ 62 ∧ (rows.length : Int) = n ∧ (∀ j : Int, 0 ≤ j → j < n → RowOK n rows j.toNat) ∧ ¬ ∃ v : Int, 0 ≤ v ∧ v < n ∧ ∃ j : Int, 0 ≤ j ∧ j < v ∧ rbit rows v.toNat j.toNat ≠ rbit rows j.toNat v.toNat := by
  constructor
  · rintro ⟨h1, h2, h3, h4, h5⟩
    refine ⟨h1, h2, h3, fun j h6 h7 => h4 _ (by omega), ?_⟩
    rintro ⟨v, h6, h7, j, h8, h9, h10⟩
    exact h10 (h5 _ _ (by omega) (by omega))
  · rintro ⟨h1, h2, h3, h4, h5⟩
    have key : ∀ v w : Nat, w < v → v < rows.length → rbit rows v w = rbit rows w v := by
      intro v w h6 h7
      apply Classical.byContradiction
      intro h8
      exact h5 ⟨v, by omega, by omega, w, by omega, by omega, by simpa using h8⟩
    refine ⟨h1, h2, h3, fun v hv => by simpa using h4 v (by omega) (by omega), fun v w hv hw => ?_⟩
    rcases Nat.lt_trichotomy v w with h6 | h6 | h6
    · exact (key w v h6 hw).symm
    · rw [h6]
    · exact key v w h6 hv

open Classical in
theorem c_spec_l01Is (n : Int) (s : Value) (rows : List Int) (h : VH) (hs : Sli h s rows) :
    vcall F nro k_spec_l01Is [gv n s] h = some (.bool (decide (GV n rows)), h) := by
  refine v_spec_l01Is (by simp [i_spec_l01Is]) ?_
  rw [fbody_eq]
  have hc := fun (x a b : Int) => c_spec_l01In (nro := nro) x a b (bx h n s)
  by_cases hn : 1 ≤ n ∧ n ≤ 62
  · obtain ⟨hn1, hn2⟩ := hn
    by_cases hl : (rows.length : Int) = n
    · have hl1 := l_spec_l01Is_1 (nro := nro) n s rows h hs hn1 hn2 hl
      by_cases hb : ∃ j : Int, 0 ≤ j ∧ j < n ∧ ¬ RowOK n rows j.toNat
      · rw [if_pos hb] at hl1
        have : ¬ GV n rows := by
          rw [GV_iff]
          rintro ⟨_, _, _, h4, _⟩
          obtain ⟨j, h5, h6, h7⟩ := hb
          exact h7 (h4 j h5 h6)
        simp (disch := first | assumption | omega | (simp [*] <;> omega) | fail) [i_spec_l01Is, hc, hn1, hn2, hs.vlen', hl, hl1, this]
      · rw [if_neg hb] at hl1
        have hr : ∀ j : Int, 0 ≤ j → j < n → RowOK n rows j.toNat := fun j h1 h2 => Classical.byContradiction fun h3 => hb ⟨j, h1, h2, h3⟩
        have hl3 := l_spec_l01Is_3 (nro := nro) n s rows h hs hn1 hn2 hl hr
        by_cases hb2 : ∃ v : Int, 0 ≤ v ∧ v < n ∧ ∃ j : Int, 0 ≤ j ∧ j < v ∧ rbit rows v.toNat j.toNat ≠ rbit rows j.toNat v.toNat
        · rw [if_pos hb2] at hl3
          have : ¬ GV n rows := by
            rw [GV_iff]
            rintro ⟨_, _, _, _, h4⟩
            exact h4 hb2
          simp (disch := first | assumption | omega | (simp [*] <;> omega) | fail) [i_spec_l01Is, hc, hn1, hn2, hs.vlen', hl, hl1, hl3, this]
        · rw [if_neg hb2] at hl3
          have : GV n rows := GV_iff.mpr ⟨hn1, hn2, hl, hr, hb2⟩
          simp (disch := first | assumption | omega | (simp [*] <;> omega) | fail) [i_spec_l01Is, hc, hn1, hn2, hs.vlen', hl, hl1, hl3, this]
    · have : ¬ GV n rows := fun g => hl g.len
      simp (disch := first | assumption | omega | (simp [*] <;> omega) | fail) [i_spec_l01Is, hc, hn1, hn2, hs.vlen', hl, this]
  · have : ¬ GV n rows := fun g => hn ⟨g.lo, g.hi⟩
    simp (disch := first | assumption | omega | (simp [*] <;> omega) | fail) [i_spec_l01Is, hc, hn, this]
end Go.Proofs.Ythpgiimaadohcaa.Zv

/- The program's own test for a graph. -/
namespace Go.Proofs.Ythpgiimaadohcaa.Zv
open Go
variable {nro : Nat}

open Classical in
theorem l_impl_IsGraph_1 (n : Int) (s : Value) (rows : List Int) (h : VH) (hs : Sli h s rows) (hn1 : 1 ≤ n) (hn2 : n ≤ 62) (hl : (rows.length : Int) = n) (v x : Int) (hv : 0 ≤ v) (hvn : v < n) :
    floop (vcall F nro) nro [1, 3, 4, 5, 23, 24, 25, 45, 46] i_impl_IsGraph_B1 (bx h n s) [bp h, .int .i64 n, .int .i64 v, .int .i64 (x), s, .int .i64 n, .int .i64 v, .int .i64 n, .int .i64 0] (bx h n s) =
      if ∃ j : Int, 0 ≤ j ∧ j < n ∧ iand .i64 (ishr .i64 (x) j) 1 ≠ iand .i64 (ishr .i64 (rows.getD j.toNat 0) v) 1 then some (.ret, fl [(2, .bool false)], bx h n s) else some (.exit 2, fl [(1, bp h), (3, .int .i64 n), (23, s), (24, .int .i64 n), (25, .int .i64 v)], bx h n s) := by
  refine search (fun i => floop (vcall F nro) nro [1, 3, 4, 5, 23, 24, 25, 45, 46] i_impl_IsGraph_B1 (bx h n s) [bp h, .int .i64 n, .int .i64 v, .int .i64 (x), s, .int .i64 n, .int .i64 v, .int .i64 n, .int .i64 i] (bx h n s)) (fun j => iand .i64 (ishr .i64 (x) j) 1 ≠ iand .i64 (ishr .i64 (rows.getD j.toNat 0) v) 1) _ _ n 0 ?_ ?_ 0 (by omega)
  · intro i hi hlt
    have hso := fun k => hs.oldk (k := k)
    rw [floop_at i_impl_IsGraph_B1.eq_1, getD_at rows (i := i.toNat) (by omega)]
    constructor <;> intro hb
    · simp (disch := first | assumption | omega | (simp [*] <;> omega) | fail) [hs.vlen', hs.vidx', hs.vload', wrap64, hlt, hb]
    · simp (disch := first | assumption | omega | (simp [*] <;> omega) | fail) [hs.vlen', hs.vidx', hs.vload', wrap64, hlt, Classical.not_not.mp hb]
  · intro i hi hlt
    rw [floop_at i_impl_IsGraph_B1.eq_1]
    simp (disch := first | assumption | omega | (simp [*] <;> omega) | fail) [hlt]

/-- What the program asks of row v. -/
def RowAll (n : Int) (rows : List Int) (v : Nat) : Prop := RowOK n rows v ∧ ¬ ∃ j : Int, 0 ≤ j ∧ j < n ∧ iand .i64 (ishr .i64 (rows.getD v 0) j) 1 ≠ iand .i64 (ishr .i64 (rows.getD j.toNat 0) (v : Int)) 1

open Classical in
theorem l_impl_IsGraph_2 (n : Int) (s : Value) (rows : List Int) (h : VH) (hs : Sli h s rows) (hn1 : 1 ≤ n) (hn2 : n ≤ 62) (hl : (rows.length : Int) = n) :
    floop (vcall F nro) nro [1, 3, 23, 24, 25] i_impl_IsGraph_B2 (bx h n s) [bp h, .int .i64 n, s, .int .i64 n, .int .i64 0] (bx h n s) =
      if ∃ j : Int, 0 ≤ j ∧ j < n ∧ ¬ RowAll n rows j.toNat then some (.ret, fl [(2, .bool false)], bx h n s) else some (.exit 0, fl [], bx h n s) := by
  refine search (fun i => floop (vcall F nro) nro [1, 3, 23, 24, 25] i_impl_IsGraph_B2 (bx h n s) [bp h, .int .i64 n, s, .int .i64 n, .int .i64 i] (bx h n s)) (fun i => ¬ RowAll n rows i.toNat) _ _ n 0 ?_ ?_ 0 (by omega)
  · intro i hi hlt
    have hso := fun k => hs.oldk (k := k)
    have hp := pow_le62 hn2
    have hp1 := pow_pos2 n.toNat
    have hok := rowOK_iff hn2 hi hlt hl
    have e : rows.getD i.toNat 0 = rows[i.toNat]'(by omega) := getD_at _ (by omega)
    rw [floop_at i_impl_IsGraph_B2.eq_1]
    by_cases hr : RowOK n rows i.toNat
    · obtain ⟨⟨g1, g2⟩, g3⟩ := hok.mp hr
      have g4 : ¬ rows[i.toNat]'(by omega) < 0 := by omega
      have g5 : ¬ 2 ^ n.toNat ≤ rows[i.toNat]'(by omega) := by omega
      have hin := l_impl_IsGraph_1 (nro := nro) n s rows h hs hn1 hn2 hl i (rows[i.toNat]'(by omega)) hi hlt
      have e2 : ((i.toNat : Nat) : Int) = i := Int.toNat_of_nonneg hi
      unfold RowAll
      rw [e]
      constructor <;> intro hb
      · have hb' : ∃ j : Int, 0 ≤ j ∧ j < n ∧ iand .i64 (ishr .i64 (rows[i.toNat]'(by omega)) j) 1 ≠ iand .i64 (ishr .i64 (rows.getD j.toNat 0) i) 1 := Classical.byContradiction fun hno => hb ⟨hr, by simpa [e2] using hno⟩
        rw [if_pos hb'] at hin
        simp (disch := first | assumption | omega | (simp [*] <;> omega) | fail) [hs.vlen', hs.vidx', hs.vload', wrap64, hlt, ishl_one', g3, g4, g5, hin]
      · rw [if_neg (by simpa [e2] using (Classical.not_not.mp hb).2)] at hin
        simp (disch := first | assumption | omega | (simp [*] <;> omega) | fail) [hs.vlen', hs.vidx', hs.vload', wrap64, hlt, ishl_one', g3, g4, g5, hin]
    · constructor <;> intro hb
      · simp (disch := first | assumption | omega | (simp [*] <;> omega) | fail) [hs.vlen', hs.vidx', hs.vload', wrap64, hlt, ishl_one']
        intro h1 h2 h3
        exact absurd (hok.mpr ⟨⟨h1, by omega⟩, h3⟩) hr
      · exact absurd (Classical.not_not.mp hb).1 hr
  · intro i hi hlt
    rw [floop_at i_impl_IsGraph_B2.eq_1]
    simp (disch := first | assumption | omega | (simp [*] <;> omega) | fail) [hlt]

theorem rowAll_iff {n : Int} {rows : List Int} (hn1 : 1 ≤ n) (hn2 : n ≤ 62) (hl : (rows.length : Int) = n) : (∀ j : Int, 0 ≤ j → j < n → RowAll n rows j.toNat) ↔ GV n rows := by
  have hp := pow_le62 hn2
  -- what the rows' own bits are
  have hbits : (∀ v, v < rows.length → RowOK n rows v) → ∀ v j : Nat, v < rows.length → j < rows.length → (iand .i64 (ishr .i64 (rows.getD v 0) j) 1 = iand .i64 (ishr .i64 (rows.getD j 0) v) 1 ↔ rbit rows v j = rbit rows j v) := by
    intro hr v j hv hj
    obtain ⟨a1, a2, _⟩ := hr v hv
    obtain ⟨b1, b2, _⟩ := hr j hj
    rw [bit_two a1 (by omega) (by omega), bit_two b1 (by omega) (by omega)]
    simp only [rbit, Int.toNat_natCast]
    by_cases x : (rows.getD v 0).toNat.testBit j = true <;> by_cases y : (rows.getD j 0).toNat.testBit v = true <;> simp only [x, y] <;> simp_all
  constructor
  · intro h
    have hr : ∀ v, v < rows.length → RowOK n rows v := fun v hv => by simpa using (h v (by omega) (by omega)).1
    refine ⟨hn1, hn2, hl, hr, fun v w hv hw => ?_⟩
    rw [← hbits hr v w hv hw]
    have h2 := (h v (by omega) (by omega)).2
    apply Classical.byContradiction
    intro hno
    exact h2 ⟨w, by omega, by omega, by simpa using hno⟩
  · intro g j h0 h1
    refine ⟨g.row _ (by omega), ?_⟩
    rintro ⟨k, h2, h3, h4⟩
    have := (hbits g.row j.toNat k.toNat (by omega) (by omega)).mpr (g.sym _ _ (by omega) (by omega))
    rw [Int.toNat_of_nonneg h2] at this
    exact h4 (by simpa [Int.toNat_of_nonneg h2] using this)

open Classical in
theorem c_impl_IsGraph (n : Int) (s : Value) (rows : List Int) (h : VH) (hs : Sli h s rows) :
    vcall F nro k_impl_IsGraph [gv n s] h = some (.bool (decide (GV n rows)), h) := by
  refine v_impl_IsGraph (by simp [i_impl_IsGraph]) ?_
  rw [fbody_eq]
  by_cases hn : 1 ≤ n ∧ n ≤ 62
  · obtain ⟨hn1, hn2⟩ := hn
    have hn1' : ¬ n < 1 := by omega
    have hn2' : ¬ 62 < n := by omega
    by_cases hl : (rows.length : Int) = n
    · have hl1 := l_impl_IsGraph_2 (nro := nro) n s rows h hs hn1 hn2 hl
      by_cases hb : ∃ j : Int, 0 ≤ j ∧ j < n ∧ ¬ RowAll n rows j.toNat
      · rw [if_pos hb] at hl1
        have : ¬ GV n rows := by
          rw [← rowAll_iff hn1 hn2 hl]
          intro h4
          obtain ⟨j, h5, h6, h7⟩ := hb
          exact h7 (h4 j h5 h6)
        simp (disch := first | assumption | omega | (simp [*] <;> omega) | fail) [i_impl_IsGraph, hn1', hn2', hs.vlen', hl, hl1, this]
      · rw [if_neg hb] at hl1
        have : GV n rows := (rowAll_iff hn1 hn2 hl).mp fun j h1 h2 => Classical.byContradiction fun h3 => hb ⟨j, h1, h2, h3⟩
        simp (disch := first | assumption | omega | (simp [*] <;> omega) | fail) [i_impl_IsGraph, hn1', hn2', hs.vlen', hl, hl1, this]
    · have : ¬ GV n rows := fun g => hl g.len
      simp (disch := first | assumption | omega | (simp [*] <;> omega) | fail) [i_impl_IsGraph, hn1', hn2', hs.vlen', hl, this]
  · have : ¬ GV n rows := fun g => hn ⟨g.lo, g.hi⟩
    by_cases h1 : n < 1
    · simp (disch := first | assumption | omega | (simp [*] <;> omega) | fail) [i_impl_IsGraph, h1, this]
    · have h2 : 62 < n := by omega
      simp (disch := first | assumption | omega | (simp [*] <;> omega) | fail) [i_impl_IsGraph, h1, h2, this]
end Go.Proofs.Ythpgiimaadohcaa.Zv

/- Rows of bits that are filled in: edges put in. -/
namespace Go.Proofs.Ythpgiimaadohcaa.Zv
open Go
variable {nro : Nat}

/-- Bit b of row a is set. -/
noncomputable def set1 (r : List Int) (a b : Int) : List Int := r.set a.toNat (ior .i64 (r.getD a.toNat 0) (ishl .i64 1 b))
noncomputable def put2 (r : List Int) (a b : Int) : List Int := set1 (set1 r a b) b a
@[simp] theorem set1_length (r : List Int) (a b : Int) : (set1 r a b).length = r.length := by simp [set1]
@[simp] theorem put2_length (r : List Int) (a b : Int) : (put2 r a b).length = r.length := by simp [put2]

/-- Rows of N vertices whose bits are told by a relation. -/
def IsAdj (N : Nat) (r : List Int) (adj : Nat → Nat → Prop) : Prop :=
  r.length = N ∧ ∀ v, v < N → 0 ≤ r.getD v 0 ∧ r.getD v 0 < 4611686018427387904 ∧ ∀ w, rbit r v w = true ↔ adj v w

theorem setbit {x b : Int} (hx : 0 ≤ x) (hx2 : x < 4611686018427387904) (hb : 0 ≤ b) (hb2 : b < 62) :
    0 ≤ ior .i64 x (ishl .i64 1 b) ∧ ior .i64 x (ishl .i64 1 b) < 4611686018427387904 ∧ ∀ w : Nat, (ior .i64 x (ishl .i64 1 b)).toNat.testBit w = true ↔ x.toNat.testBit w = true ∨ w = b.toNat := by
  have hp : 2 ^ b.toNat < 2 ^ 62 := Nat.pow_lt_pow_right (by omega) (by omega)
  have e : ior .i64 x (ishl .i64 1 b) = ((x.toNat ||| 2 ^ b.toNat : Nat) : Int) := by
    rw [ishl_one (by omega)]
    have e1 : x = (x.toNat : Int) := (Int.toNat_of_nonneg hx).symm
    rw [e1, ior_nat (by omega) (by omega), Int.toNat_natCast]
  have hlt : x.toNat ||| 2 ^ b.toNat < 2 ^ 62 := Nat.or_lt_two_pow (by omega) hp
  rw [e]
  refine ⟨by omega, by omega, fun w => ?_⟩
  rw [Int.toNat_natCast, Nat.testBit_or, Nat.testBit_two_pow, Bool.or_eq_true, decide_eq_true_eq]
  constructor
  · rintro (h | h)
    · exact .inl h
    · exact .inr h.symm
  · rintro (h | h)
    · exact .inl h
    · exact .inr h.symm

theorem IsAdj.set1 {N : Nat} {r : List Int} {adj : Nat → Nat → Prop} (h : IsAdj N r adj) {a b : Int} (ha : 0 ≤ a) (ha2 : a < N) (hb : 0 ≤ b) (hb2 : b < 62) :
    IsAdj N (set1 r a b) (fun v w => adj v w ∨ (v = a.toNat ∧ w = b.toNat)) := by
  obtain ⟨hl, hr⟩ := h
  refine ⟨by simp [hl], fun v hv => ?_⟩
  obtain ⟨h1, h2, h3⟩ := hr v hv
  by_cases e : v = a.toNat
  · subst e
    have hg : (Zv.set1 r a b).getD a.toNat 0 = ior .i64 (r.getD a.toNat 0) (ishl .i64 1 b) := by
      rw [getD_at _ (by simp; omega)]
      simp [Zv.set1]
    obtain ⟨k1, k2, k3⟩ := setbit h1 h2 hb hb2
    unfold rbit
    rw [hg]
    refine ⟨k1, k2, fun w => ?_⟩
    rw [k3]
    have := h3 w
    unfold rbit at this
    rw [this]
    simp
  · have hg : (Zv.set1 r a b).getD v 0 = r.getD v 0 := by
      unfold Zv.set1
      simp only [List.getD_eq_getElem?_getD, List.getElem?_set]
      rw [if_neg (fun h => e h.symm)]
    unfold rbit
    rw [hg]
    refine ⟨h1, h2, fun w => ?_⟩
    have := h3 w
    unfold rbit at this
    rw [this]
    simp [e]

theorem IsAdj.put2 {N : Nat} {r : List Int} {adj : Nat → Nat → Prop} (h : IsAdj N r adj) {a b : Int} (ha : 0 ≤ a) (ha2 : a < N) (hb : 0 ≤ b) (hb2 : b < N) (hN : N ≤ 62) :
    IsAdj N (put2 r a b) (fun v w => adj v w ∨ (v = a.toNat ∧ w = b.toNat) ∨ (v = b.toNat ∧ w = a.toNat)) := by
  have h1 := (h.set1 ha ha2 hb (by omega)).set1 hb hb2 ha (by omega)
  refine ⟨h1.1, fun v hv => ?_⟩
  obtain ⟨k1, k2, k3⟩ := h1.2 v hv
  refine ⟨k1, k2, fun w => ?_⟩
  exact (k3 w).trans or_assoc

theorem IsAdj.congr {N : Nat} {r : List Int} {adj adj' : Nat → Nat → Prop} (h : IsAdj N r adj) (e : ∀ v w, v < N → (adj v w ↔ adj' v w)) : IsAdj N r adj' :=
  ⟨h.1, fun v hv => ⟨(h.2 v hv).1, (h.2 v hv).2.1, fun w => ((h.2 v hv).2.2 w).trans (e v w hv)⟩⟩

theorem IsAdj.unique {N : Nat} {r r' : List Int} {adj : Nat → Nat → Prop} (h : IsAdj N r adj) (h' : IsAdj N r' adj) : r = r' := by
  apply List.ext_getElem (h.1.trans h'.1.symm)
  intro v h1 h2
  have hv : v < N := by rw [← h.1]; exact h1
  obtain ⟨a1, a2, a3⟩ := h.2 v hv
  obtain ⟨b1, b2, b3⟩ := h'.2 v hv
  have : (r.getD v 0).toNat = (r'.getD v 0).toNat := by
    apply Nat.eq_of_testBit_eq
    intro w
    have := (a3 w).trans (b3 w).symm
    unfold rbit at this
    cases h1 : (r.getD v 0).toNat.testBit w <;> cases h2 : (r'.getD v 0).toNat.testBit w <;> simp_all
  rw [getD_at r h1, getD_at r' h2] at this
  rw [getD_at r h1] at a1
  rw [getD_at r' h2] at b1
  omega

theorem IsAdj.zero (N : Nat) : IsAdj N (List.replicate N 0) (fun _ _ => False) := by
  refine ⟨by simp, fun v hv => ?_⟩
  have e : (List.replicate N (0 : Int)).getD v 0 = 0 := by simp [List.getD_eq_getElem?_getD, List.getElem?_replicate, hv]
  unfold rbit
  rw [e]
  simp

/-! ### the functions that put an edge -/
theorem set1_at {r : List Int} {a b : Int} (h : a.toNat < r.length) : set1 r a b = r.set a.toNat (ior .i64 r[a.toNat] (ishl .i64 1 b)) := by
  unfold set1
  rw [getD_at _ h]
theorem put2_at {r : List Int} {a b : Int} (h : a.toNat < r.length) (h2 : b.toNat < (r.set a.toNat (ior .i64 r[a.toNat] (ishl .i64 1 b))).length) : put2 r a b = (r.set a.toNat (ior .i64 r[a.toNat] (ishl .i64 1 b))).set b.toNat (ior .i64 (r.set a.toNat (ior .i64 r[a.toNat] (ishl .i64 1 b)))[b.toNat] (ishl .i64 1 a)) := by
  unfold put2
  rw [set1_at h, set1_at h2]
@[simp] theorem old_tup0 (n : Nat) : Old n (.tuple #[]) := old_undef n


theorem c_spec_l01Put (n : Int) (b0 N : Nat) (a b : Int) (r : List Int) (h : VH) (hb : h[b0]? = some ⟨1, ints r⟩) (hl : r.length = N) (hn : nro ≤ b0) (ha : 0 ≤ a) (ha2 : a < N) (hb1 : 0 ≤ b) (hb2 : b < N) (hN : N ≤ 62) :
    vcall F nro k_spec_l01Put [gv n (.slice (some ⟨b0, 0, none⟩) N N), .int .i64 a, .int .i64 b] h = some (.tuple #[], h.set b0 ⟨1, ints (put2 r a b)⟩) := by
  refine v_spec_l01Put (by simp [i_spec_l01Put]) ?_
  rw [fbody_eq, put2_at (by omega) (by simp; omega)]
  simp (disch := first | assumption | omega | (simp [*] <;> omega) | fail) [i_spec_l01Put, hget_old hb, hset_old hb, hget_set hb, hset_set hb, hl, ha2, hb2, wrapu64, take1_ints, splice_ints, hn, ha, hb1]

theorem c_impl_Graph_put (n : Int) (b0 N : Nat) (a b : Int) (r : List Int) (h : VH) (hb : h[b0]? = some ⟨1, ints r⟩) (hl : r.length = N) (hn : nro ≤ b0) (ha : 0 ≤ a) (ha2 : a < N) (hb1 : 0 ≤ b) (hb2 : b < N) (hN : N ≤ 62) :
    vcall F nro k_impl_Graph_put [gv n (.slice (some ⟨b0, 0, none⟩) N N), .int .i64 a, .int .i64 b] h = some (.tuple #[], if a = b then h else h.set b0 ⟨1, ints (put2 r a b)⟩) := by
  refine v_impl_Graph_put (by simp [i_impl_Graph_put]) ?_
  rw [fbody_eq]
  by_cases hab : a = b
  · rw [if_pos hab]
    simp (disch := first | assumption | omega | (simp [*] <;> omega) | fail) [i_impl_Graph_put, hab]
  · rw [if_neg hab, put2_at (by omega) (by simp; omega)]
    simp (disch := first | assumption | omega | (simp [*] <;> omega) | fail) [i_impl_Graph_put, hget_old hb, hset_old hb, hget_set hb, hset_set hb, hl, ha2, hb2, take1_ints, splice_ints, hn, ha, hb1, hab]

theorem c_impl_Graph_has (n a b : Int) (s : Value) (rows : List Int) (h : VH) (hs : Sli h s rows) (h1 : 0 ≤ a) (h2 : a < rows.length) (h3 : 0 ≤ b) (h4 : b ≤ 64) (h5 : 0 ≤ rows.getD a.toNat 0) (h6 : rows.getD a.toNat 0 ≤ 9223372036854775807) :
    vcall F nro k_impl_Graph_has [gv n s, .int .i64 a, .int .i64 b] h = some (.bool (rbit rows a.toNat b.toNat), h) := by
  refine v_impl_Graph_has (by simp [i_impl_Graph_has]) ?_
  have e := bit_int h5 h6 h4
  unfold rbit
  rw [fbody_eq]
  rw [getD_at rows (by omega)] at e ⊢
  simp (disch := first | assumption | omega | (simp [*] <;> omega) | fail) [i_impl_Graph_has, hs.vidx', hs.vload', e]

/-- A graph and the code 0, or no graph and another code. -/
abbrev GAns := (Int × List Int) ⊕ Int
def gres (h : VH) : GAns → Value × VH
  | .inl (m, r) => (.tuple #[gv m (.slice (some ⟨h.length, 0, none⟩) r.length r.length), .int .i64 0], h ++ [⟨1, ints r⟩])
  | .inr c => (.tuple #[gv 0 (.slice none 0 0), .int .i64 c], h)
@[simp] theorem gres_inl (h : VH) (m : Int) (r : List Int) : gres h (.inl (m, r)) = (.tuple #[gv m (.slice (some ⟨h.length, 0, none⟩) r.length r.length), .int .i64 0], h ++ [⟨1, ints r⟩]) := rfl
@[simp] theorem gres_inr (h : VH) (c : Int) : gres h (.inr c) = (.tuple #[gv 0 (.slice none 0 0), .int .i64 c], h) := rfl
end Go.Proofs.Ythpgiimaadohcaa.Zv

/- Neighbours, vertices that are in range, covers. -/
namespace Go.Proofs.Ythpgiimaadohcaa.Zv
open Go
variable {nro : Nat}

/-! ### how many bits -/
theorem sli_at {h : VH} {b : Nat} {xs : List Int} (hb : h[b]? = some ⟨1, ints xs⟩) : Sli h (.slice (some ⟨b, 0, none⟩) xs.length xs.length) xs := by simp [Sli, Sl, hb]

/-! ### vertices in range -/
def badV (n : Int) (xs : List Int) : Prop := ∃ j : Int, 0 ≤ j ∧ j < xs.length ∧ ¬ (0 ≤ xs.getD j.toNat 0 ∧ xs.getD j.toNat 0 < n)
open Classical in
/-- The code of a graph and vertices. -/
noncomputable def vtxCode (n : Int) (rows xs : List Int) : Int := if GV n rows then if badV n xs then 2 else 0 else 1

open Classical in
theorem l_impl_graphCode (n : Int) (s t : Value) (xs : List Int) (h : VH) (ht : Sli h t xs) (hl : xs.length ≤ 9223372036854775806) :
    floop (vcall F nro) nro [2, 10, 11, 12] i_impl_graphCode_B1 (bx h n s) [bp h, t, .int .i64 xs.length, .int .i64 0] (bx h n s) =
      if badV n xs then some (.ret, fl [(4, .int .i64 2)], bx h n s) else some (.exit 0, fl [], bx h n s) := by
  have hto := fun k => ht.oldk (k := k)
  refine search (fun i => floop (vcall F nro) nro [2, 10, 11, 12] i_impl_graphCode_B1 (bx h n s) [bp h, t, .int .i64 xs.length, .int .i64 i] (bx h n s)) (fun i => ¬ (0 ≤ xs.getD i.toNat 0 ∧ xs.getD i.toNat 0 < n)) _ _ xs.length 0 ?_ ?_ 0 (by omega)
  · intro i hi hlt
    have e1 : xs.getD i.toNat 0 = xs[i.toNat]'(by omega) := getD_at _ (by omega)
    rw [floop_at i_impl_graphCode_B1.eq_1, e1]
    constructor <;> intro hb
    · by_cases h0 : xs[i.toNat]'(by omega) < 0
      · simp (disch := first | assumption | omega | (simp [*] <;> omega) | fail) [ht.vlen', ht.vidx', ht.vload', wrap64, hlt, h0]
      · have h1 : n ≤ xs[i.toNat]'(by omega) := by omega
        simp (disch := first | assumption | omega | (simp [*] <;> omega) | fail) [ht.vlen', ht.vidx', ht.vload', wrap64, hlt, h0, h1]
    · have hb := Classical.not_not.mp hb
      have h0 : ¬ xs[i.toNat]'(by omega) < 0 := by omega
      have h1 : ¬ n ≤ xs[i.toNat]'(by omega) := by omega
      simp (disch := first | assumption | omega | (simp [*] <;> omega) | fail) [ht.vlen', ht.vidx', ht.vload', wrap64, hlt, h0, h1]
  · intro i hi hlt
    rw [floop_at i_impl_graphCode_B1.eq_1]
    simp (disch := first | assumption | omega | (simp [*] <;> omega) | fail) [hlt]

theorem c_impl_graphCode (n : Int) (s t : Value) (rows xs : List Int) (h : VH) (hs : Sli h s rows) (ht : Sli h t xs) (hl : xs.length ≤ 9223372036854775806) :
    vcall F nro k_impl_graphCode [gv n s, t] h = some (.int .i64 (vtxCode n rows xs), h) := by
  refine v_impl_graphCode (by simp [i_impl_graphCode]) ?_
  rw [fbody_eq]
  have hc := c_impl_IsGraph (nro := nro) n s rows (bx h n s) (hs.app _)
  have hl := l_impl_graphCode (nro := nro) n s t xs h ht hl
  unfold vtxCode
  by_cases g : GV n rows
  · by_cases b : badV n xs
    · rw [if_pos b] at hl
      simp (disch := first | assumption | omega | (simp [*] <;> omega) | fail) [i_impl_graphCode, hc, g, ht.vlen', hl, b]
    · rw [if_neg b] at hl
      simp (disch := first | assumption | omega | (simp [*] <;> omega) | fail) [i_impl_graphCode, hc, g, ht.vlen', hl, b]
  · simp (disch := first | assumption | omega | (simp [*] <;> omega) | fail) [i_impl_graphCode, hc, g]

/-! ### neighbours -/
end Go.Proofs.Ythpgiimaadohcaa.Zv

/- Sorting: by insertion. -/
namespace Go.Proofs.Ythpgiimaadohcaa.Zv
open Go
variable {nro : Nat}

theorem c_cmp_Less (x y : Int) (h : VH) : vcall F nro k_cmp_Less_int64 [.int .i64 x, .int .i64 y] h = some (.bool (decide (x < y)), h) := by
  have e : ∀ z : Int, vcall F nro k_cmp_isNaN_int64 [.int .i64 z] h = some (.bool false, h) := fun z => by
    refine v_cmp_isNaN_int64 (by simp [i_cmp_isNaN_int64]) ?_
    rw [fbody_eq]
    simp (disch := first | assumption | omega | (simp [*] <;> omega) | fail) [i_cmp_isNaN_int64]
  refine v_cmp_Less_int64 (by simp [i_cmp_Less_int64]) ?_
  rw [fbody_eq]
  simp (disch := first | assumption | omega | (simp [*] <;> omega) | fail) [i_cmp_Less_int64, e]

/-- The elements of i and j exchanged. -/
def swp (xs : List Int) (i j : Nat) : List Int := (xs.set i (xs.getD j 0)).set j (xs.getD i 0)
@[simp] theorem swp_length (xs : List Int) (i j : Nat) : (swp xs i j).length = xs.length := by simp [swp]
/-- An element brought down to its place. -/
def insD (a : Nat) : Nat → List Int → List Int
  | 0, xs => xs
  | j + 1, xs => if a < j + 1 ∧ xs.getD (j + 1) 0 < xs.getD j 0 then insD a j (swp xs (j + 1) j) else xs
@[simp] theorem insD_length (a : Nat) : ∀ (j : Nat) (xs : List Int), (insD a j xs).length = xs.length
  | 0, _ => rfl
  | j + 1, xs => by
    rw [insD]
    split
    · rw [insD_length a j, swp_length]
    · rfl
/-- Insertion sort of the elements from a to b - 1. -/
def insS (a b : Nat) (xs : List Int) : List Int := upF (fun i xs => insD a i xs) b (a + 1) xs
theorem upF_len {f : Nat → List Int → List Int} (hf : ∀ i xs, (f i xs).length = xs.length) (n i : Nat) (xs : List Int) : (upF f n i xs).length = xs.length := by
  by_cases h : i < n
  · rw [upF_step h, upF_len hf n (i + 1), hf]
  · rw [upF_end h]
 termination_by n - i
@[simp] theorem insS_length (a b : Nat) (xs : List Int) : (insS a b xs).length = xs.length := upF_len (fun i xs => insD_length a i xs) b (a + 1) xs

/-- A list that is changed in its place. -/
structure Inp (nro : Nat) (h0 G : VH) (blk : Nat) (xs : List Int) : Prop where
  at' : G[blk]? = some ⟨1, ints xs⟩
  nr : nro ≤ blk
  upd : Upd h0 G
  len : xs.length ≤ 100000
def ws (blk N : Nat) : Value := .slice (some ⟨blk, 0, none⟩) N N

theorem Inp.lt {h0 G : VH} {blk : Nat} {xs : List Int} (I : Inp nro h0 G blk xs) : blk < G.length := (List.getElem?_eq_some_iff.mp I.at').1
theorem Inp.set {h0 G : VH} {blk : Nat} {xs ys : List Int} (I : Inp nro h0 G blk xs) (hl : ys.length = xs.length) : Inp nro h0 (G.set blk ⟨1, ints ys⟩) blk ys :=
  ⟨by simp [I.lt], I.nr, I.upd.set' (flatO_ints _ _ _), by rw [hl]; exact I.len⟩
theorem Inp.clean {h0 G : VH} {blk : Nat} {xs : List Int} (I : Inp nro h0 G blk xs) {vs : List Value} (hv : ∀ v ∈ vs, Old h0.length v) : kclean h0 vs G = (vs, G) := by
  have := cleanup_upd (L := []) I.upd hv
  rwa [List.append_nil] at this

theorem l_ins1 {h0 G : VH} {blk : Nat} {xs : List Int} (I : Inp nro h0 G blk xs) (a b i j : Nat) (hj : j < xs.length) (ha : a ≤ j) :
    floop (vcall F nro) nro [0, 1, 2, 6, 7] i_slices_insertionSortOrdered_int64_B1 h0 [.slice (some ⟨blk, 0, none⟩) xs.length xs.length, .int .i64 a, .int .i64 b, .int .i64 i, .int .i64 j] G =
      some (.exit 2, fl [(0, .slice (some ⟨blk, 0, none⟩) xs.length xs.length), (1, .int .i64 a), (2, .int .i64 b), (6, .int .i64 i)], G.set blk ⟨1, ints (insD a j xs)⟩) := by
  have hb := I.at'
  have hnb := I.nr
  have hlen := I.len
  have hlt := I.lt
  have hbl : blk < h0.length := by rw [← I.upd.1]; exact hlt
  rw [floop_at i_slices_insertionSortOrdered_int64_B1.eq_1]
  cases j with
  | zero =>
    have e : insD a 0 xs = xs := rfl
    rw [e, hset_self hb]
    have c1 : ¬ (a : Int) < 0 := by omega
    simp (disch := first | assumption | omega | (simp [*] <;> omega) | fail) [-getElem?_pos, List.getElem?_cons_zero, List.getElem?_cons_succ, c1]
  | succ k =>
    rw [insD]
    have hk1 : k + 1 < (ints xs).length := by simpa using hj
    have hk0 : k < (ints xs).length := by rw [ints_length]; omega
    have r1 : List.take 1 (List.drop (k + 1) (ints xs)) = [.int .i64 (xs.getD (k + 1) 0)] := by rw [take1_ints hj, getD_at xs hj]
    have r0 : List.take 1 (List.drop k (ints xs)) = [.int .i64 (xs.getD k 0)] := by rw [take1_ints (by omega), getD_at xs (by omega)]
    have w1 : IntKind.i64.wrap (((k + 1 : Nat) : Int) - 1) = (k : Int) := by rw [wrap64 (by omega) (by omega)]; omega
    have hlc := fun x y => c_cmp_Less (nro := nro) x y G
    have s1 : (((k + 1 : Nat) : Int)).toNat = k + 1 := by omega
    obtain ⟨x, hx⟩ : ∃ x, x = xs.getD (k + 1) 0 := ⟨_, rfl⟩
    obtain ⟨y, hy⟩ : ∃ y, y = xs.getD k 0 := ⟨_, rfl⟩
    rw [← hx] at r1
    rw [← hy] at r0
    have p1 : (0 : Int) ≤ ((k + 1 : Nat) : Int) := by omega
    have p2 : ((k + 1 : Nat) : Int) < xs.length := by omega
    have p3 : (k : Int) < xs.length := by omega
    obtain ⟨K, hK⟩ : ∃ K, K = k + 1 := ⟨_, rfl⟩
    by_cases c1 : a < k + 1
    · have c1' : (a : Int) < ((k + 1 : Nat) : Int) := by omega
      by_cases c2 : x < y
      · rw [if_pos (by rw [← hx, ← hy]; exact ⟨c1, c2⟩)]
        have ih := l_ins1 (I.set (ys := swp xs (k + 1) k) (by simp)) a b i k (by simp; omega) (by omega)
        rw [swp_length, List.set_set] at ih
        have e1 : splice (k + 1) [.int .i64 y] (ints xs) = ints (xs.set (k + 1) y) := splice_ints hj
        have e2 : splice k [.int .i64 x] (ints (xs.set (k + 1) y)) = ints (swp xs (k + 1) k) := by
          rw [splice_ints (by simp; omega), swp, ← hx, ← hy]
        have hg : ∀ o, (G.set blk o)[blk]? = some o := fun o => by simp [hlt]
        have hss : ∀ o o2, (G.set blk o).set blk o2 = G.set blk o2 := fun o o2 => by simp
        have hcl : ∀ (ys : List Int) vs, (∀ v ∈ vs, Old h0.length v) → kclean h0 vs (G.set blk ⟨1, ints ys⟩) = (vs, G.set blk ⟨1, ints ys⟩) := fun ys vs hv => by
          have := cleanup_upd (L := []) (I.upd.set' (b := blk) (flatO_ints _ 1 ys)) hv
          rwa [List.append_nil] at this
        have hkl : k < xs.length := by omega
        rw [← hK] at c1' r1 w1 s1 p1 p2 ih e1 e2 hj ⊢
        have w2 : IntKind.i64.wrap ((K : Int) - 1) = (k : Int) := w1
        obtain ⟨q, hq⟩ : ∃ q, q = swp xs K k := ⟨_, rfl⟩
        rw [← hq] at ih e2 ⊢
        clear hq hx hy hK c1 I
        simp (disch := first | assumption | omega | (simp [*] <;> omega) | fail) [-getElem?_pos, List.getElem?_cons_zero, List.getElem?_cons_succ, c1', r1, r0, w2, s1, p1, p2, p3, hlc, c2, hb, hnb, hlt, hg, hss, hcl, e1, e2, hj, hkl, hbl, ih]
      · rw [if_neg (by rw [← hx, ← hy]; exact fun h => c2 h.2), hset_self hb]
        have hkl : k < xs.length := by omega
        rw [← hK] at c1' r1 w1 s1 p1 p2 hj ⊢
        have w2 : IntKind.i64.wrap ((K : Int) - 1) = (k : Int) := w1
        clear hx hy hK c1 I
        simp (disch := first | assumption | omega | (simp [*] <;> omega) | fail) [-getElem?_pos, List.getElem?_cons_zero, List.getElem?_cons_succ, c1', r1, r0, w2, s1, p1, p2, p3, hlc, c2, hb, hnb, hlt, hj, hkl]
    · have c1' : ¬ (a : Int) < ((k + 1 : Nat) : Int) := by omega
      rw [if_neg (fun h => c1 h.1), hset_self hb]
      rw [← hK] at c1' ⊢
      simp (disch := first | assumption | omega | (simp [*] <;> omega) | fail) [-getElem?_pos, List.getElem?_cons_zero, List.getElem?_cons_succ, c1']

theorem l_ins2 {h0 G : VH} {blk : Nat} {xs : List Int} (I : Inp nro h0 G blk xs) (a b i : Nat) (hb2 : b ≤ xs.length) (ha : a ≤ i) :
    floop (vcall F nro) nro [0, 1, 2, 6] i_slices_insertionSortOrdered_int64_B2 h0 [.slice (some ⟨blk, 0, none⟩) xs.length xs.length, .int .i64 a, .int .i64 b, .int .i64 i] G =
      some (.exit 0, fl [], G.set blk ⟨1, ints (upF (fun i xs => insD a i xs) b i xs)⟩) := by
  have hb := I.at'
  have hnb := I.nr
  have hlen := I.len
  have hlt := I.lt
  have hbl : blk < h0.length := by rw [← I.upd.1]; exact hlt
  rw [floop_at i_slices_insertionSortOrdered_int64_B2.eq_1]
  by_cases c : i < b
  · have c' : (i : Int) < b := by omega
    rw [upF_step c]
    have I0 : Inp nro G G blk xs := ⟨hb, hnb, Upd.rfl' G, hlen⟩
    have l1 := l_ins1 I0 a b i i (by omega) ha
    have ih := l_ins2 (I.set (ys := insD a i xs) (by simp)) a b (i + 1) (by simpa using hb2) (by omega)
    rw [insD_length, List.set_set, show ((i + 1 : Nat) : Int) = (i : Int) + 1 by omega] at ih
    have w1 : IntKind.i64.wrap ((i : Int) + 1) = (i : Int) + 1 := wrap64 (by omega) (by omega)
    have hcl : ∀ (ys : List Int) vs, (∀ v ∈ vs, Old h0.length v) → kclean h0 vs (G.set blk ⟨1, ints ys⟩) = (vs, G.set blk ⟨1, ints ys⟩) := fun ys vs hv => by
      have := cleanup_upd (L := []) (I.upd.set' (b := blk) (flatO_ints _ 1 ys)) hv
      rwa [List.append_nil] at this
    obtain ⟨q, hq⟩ : ∃ q, q = insD a i xs := ⟨_, rfl⟩
    rw [← hq] at ih l1 ⊢
    obtain ⟨u, hu⟩ : ∃ u, u = upF (fun i xs => insD a i xs) b (i + 1) q := ⟨_, rfl⟩
    rw [← hu] at ih ⊢
    clear hq hu I I0
    simp (disch := first | assumption | omega | (simp [*] <;> omega) | fail) [-getElem?_pos, List.getElem?_cons_zero, List.getElem?_cons_succ, c', l1, ih, w1, hcl, hbl]
  · have c' : ¬ (i : Int) < b := by omega
    rw [upF_end c, hset_self hb]
    simp (disch := first | assumption | omega | (simp [*] <;> omega) | fail) [-getElem?_pos, List.getElem?_cons_zero, List.getElem?_cons_succ, c']
 termination_by b - i

theorem c_insertionSort {G : VH} {blk : Nat} {xs : List Int} (hb : G[blk]? = some ⟨1, ints xs⟩) (hnb : nro ≤ blk) (hlen : xs.length ≤ 100000) (a b : Nat) (hb2 : b ≤ xs.length) (ha : a ≤ 100000) :
    vcall F nro k_slices_insertionSortOrdered_int64 [.slice (some ⟨blk, 0, none⟩) xs.length xs.length, .int .i64 a, .int .i64 b] G = some (.tuple #[], G.set blk ⟨1, ints (insS a b xs)⟩) := by
  refine v_slices_insertionSortOrdered_int64 (by simp [i_slices_insertionSortOrdered_int64]) ?_
  rw [fbody_eq]
  have l2 := l_ins2 (nro := nro) (h0 := G) (G := G) (blk := blk) (xs := xs) ⟨hb, hnb, Upd.rfl' G, hlen⟩ a b (a + 1) hb2 (by omega)
  rw [show ((a + 1 : Nat) : Int) = (a : Int) + 1 by omega] at l2
  have w1 : IntKind.i64.wrap ((a : Int) + 1) = (a : Int) + 1 := wrap64 (by omega) (by omega)
  unfold insS
  obtain ⟨u, hu⟩ : ∃ u, u = upF (fun i xs => insD a i xs) b (a + 1) xs := ⟨_, rfl⟩
  rw [← hu] at l2 ⊢
  clear hu
  have hcl : ∀ (ys : List Int) vs, (∀ v ∈ vs, Old G.length v) → kclean G vs (G.set blk ⟨1, ints ys⟩) = (vs, G.set blk ⟨1, ints ys⟩) := fun ys vs hv => by
    have := cleanup_upd (L := []) ((Upd.rfl' G).set' (b := blk) (flatO_ints _ 1 ys)) hv
    rwa [List.append_nil] at this
  simp (disch := first | assumption | omega | (simp [*] <;> omega) | fail) [-getElem?_pos, List.getElem?_cons_zero, List.getElem?_cons_succ, i_slices_insertionSortOrdered_int64, l2, w1, hcl]
end Go.Proofs.Ythpgiimaadohcaa.Zv

/- slices.Compact. -/
namespace Go.Proofs.Ythpgiimaadohcaa.Zv
open Go
variable {nro : Nat}

/-- The first p elements without those that are as the one before. -/
def ddN (xs : List Int) : Nat → List Int
  | 0 => []
  | p + 1 => if p ≠ 0 ∧ xs.getD p 0 = xs.getD (p - 1) 0 then ddN xs p else ddN xs p ++ [xs.getD p 0]
theorem ddN_le (xs : List Int) : ∀ p, (ddN xs p).length ≤ p
  | 0 => Nat.le_refl _
  | p + 1 => by
    have := ddN_le xs p
    rw [ddN]; split
    · omega
    · simp; omega
theorem ddN_none {xs : List Int} : ∀ {p : Nat}, p ≤ xs.length → (∀ q, 1 ≤ q → q < p → xs.getD q 0 ≠ xs.getD (q - 1) 0) → ddN xs p = xs.take p
  | 0, _, _ => by simp [ddN]
  | p + 1, hp, h => by
    rw [ddN, ddN_none (by omega) fun q h1 h2 => h q h1 (by omega), if_neg]
    · rw [List.take_add_one, List.getD_eq_getElem?_getD, List.getElem?_eq_getElem (by omega)]; rfl
    · rintro ⟨h1, h2⟩
      exact h p (by omega) (by omega) h2
theorem set_here {D xs : List Int} {x : Int} (h : D.length < xs.length) : (D ++ xs.drop D.length).set D.length x = (D ++ [x]) ++ xs.drop (D ++ [x]).length := by
  rw [List.set_append_right _ _ (Nat.le_refl _), Nat.sub_self, List.drop_eq_getElem_cons h, List.set_cons_zero]
  simp
theorem get_there {D xs : List Int} {q : Nat} (h : D.length ≤ q) : (D ++ xs.drop D.length).getD q 0 = xs.getD q 0 := by
  rw [List.getD_eq_getElem?_getD, List.getElem?_append_right h, List.getElem?_drop, List.getD_eq_getElem?_getD]
  rw [show D.length + (q - D.length) = q by omega]

theorem l_cpt1 {h0 G : VH} {blk : Nat} {xs zs : List Int} (I : Inp nro h0 G blk zs) (k k2 : Nat) (hz : zs = ddN xs (k + k2) ++ xs.drop (ddN xs (k + k2)).length) (hk : 1 ≤ k2) (hp : k + k2 ≤ xs.length) (hd : (ddN xs (k + k2)).length < k + k2) :
    floop (vcall F nro) nro [0, 3, 4, 5] i_slices_Compact_int64_int64_B1 h0 [.slice (some ⟨blk, 0, none⟩) xs.length xs.length, .int .i64 (ddN xs (k + k2)).length, .slice (some ⟨blk, k, none⟩) (xs.length - k) xs.length, .int .i64 k2] G =
      some (.exit 2, fl [(0, .slice (some ⟨blk, 0, none⟩) xs.length xs.length), (3, .int .i64 (ddN xs xs.length).length)], G.set blk ⟨1, ints (ddN xs xs.length ++ xs.drop (ddN xs xs.length).length)⟩) := by
  have hb := I.at'
  have hnb := I.nr
  have hlen := I.len
  have hlt := I.lt
  have hbl : blk < h0.length := by rw [← I.upd.1]; exact hlt
  have hzl : zs.length = xs.length := by rw [hz]; simp; omega
  rw [floop_at i_slices_Compact_int64_int64_B1.eq_1]
  by_cases c : k + k2 < xs.length
  · obtain ⟨D, hD⟩ : ∃ D, D = ddN xs (k + k2) := ⟨_, rfl⟩
    rw [← hD] at hz hd ⊢
    have g1 : zs.getD (k + k2) 0 = xs.getD (k + k2) 0 := by rw [hz]; exact get_there (by omega)
    have g0 : zs.getD (k + k2 - 1) 0 = xs.getD (k + k2 - 1) 0 := by rw [hz]; exact get_there (by omega)
    have r1 : List.take 1 (List.drop (k + k2) (ints zs)) = [.int .i64 (xs.getD (k + k2) 0)] := by rw [take1_ints (by omega), ← getD_at zs (by omega), g1]
    have r0 : List.take 1 (List.drop (k + (k2 - 1)) (ints zs)) = [.int .i64 (xs.getD (k + k2 - 1) 0)] := by rw [show k + (k2 - 1) = k + k2 - 1 by omega, take1_ints (by omega), ← getD_at zs (by omega), g0]
    have c' : (k2 : Int) < ((xs.length - k : Nat) : Int) := by omega
    have w1 : IntKind.i64.wrap ((k2 : Int) - 1) = ((k2 - 1 : Nat) : Int) := by rw [wrap64 (by omega) (by omega)]; omega
    have w2 : IntKind.i64.wrap ((k2 : Int) + 1) = (k2 : Int) + 1 := wrap64 (by omega) (by omega)
    have w3 : IntKind.i64.wrap ((D.length : Int) + 1) = (D.length : Int) + 1 := wrap64 (by omega) (by omega)
    have p1 : ((k2 - 1 : Nat) : Int) < ((xs.length - k : Nat) : Int) := by omega
    have e0 : ddN xs (k + (k2 + 1)) = if xs.getD (k + k2) 0 = xs.getD (k + k2 - 1) 0 then D else D ++ [xs.getD (k + k2) 0] := by
      rw [show k + (k2 + 1) = (k + k2) + 1 by omega, ddN, ← hD]
      have : k + k2 ≠ 0 := by omega
      simp only [ne_eq, this, not_false_eq_true, true_and]
    obtain ⟨x, hx⟩ : ∃ x, x = xs.getD (k + k2) 0 := ⟨_, rfl⟩
    obtain ⟨y, hy⟩ : ∃ y, y = xs.getD (k + k2 - 1) 0 := ⟨_, rfl⟩
    rw [← hx] at r1 e0
    rw [← hy] at r0 e0
    by_cases c2 : x = y
    · rw [if_pos c2] at e0
      have ih := l_cpt1 I k (k2 + 1) (by rw [e0]; exact hz) (by omega) (by omega) (by rw [e0]; omega)
      rw [e0, show ((k2 + 1 : Nat) : Int) = (k2 : Int) + 1 by omega] at ih
      have hcl := fun vs => I.clean (vs := vs)
      obtain ⟨q, hq⟩ : ∃ q, q = ddN xs xs.length := ⟨_, rfl⟩
      rw [← hq] at ih ⊢
      have b1 : k + k2 < (ints zs).length := by rw [ints_length]; omega
      have b0 : k + (k2 - 1) < (ints zs).length := by rw [ints_length]; omega
      have b2 : k + k2 < xs.length := c
      have b3 : k + (k2 - 1) < xs.length := by omega
      clear hq hx hy I hz g0 g1 e0 hD
      simp (disch := first | assumption | omega | (simp [*] <;> omega) | fail) [-getElem?_pos, List.getElem?_cons_zero, List.getElem?_cons_succ, c', w1, w2, p1, r1, r0, c2, hb, hcl, hbl, ih, b1, b0, b2, b3, hzl]
    · rw [if_neg c2] at e0
      have hset := set_here (D := D) (xs := xs) (x := x) (by omega)
      rw [← hz] at hset
      have ih := l_cpt1 (I.set (ys := zs.set D.length x) (by simp)) k (k2 + 1) (by rw [e0]; exact hset) (by omega) (by omega) (by rw [e0]; simp; omega)
      rw [e0, List.set_set] at ih
      simp only [List.length_append, List.length_singleton] at ih
      rw [show ((k2 + 1 : Nat) : Int) = (k2 : Int) + 1 by omega, show ((D.length + 1 : Nat) : Int) = (D.length : Int) + 1 by omega] at ih
      have e1 : splice D.length [.int .i64 x] (ints zs) = ints (zs.set D.length x) := splice_ints (by omega)
      have hcl : ∀ (ys : List Int) vs, (∀ v ∈ vs, Old h0.length v) → kclean h0 vs (G.set blk ⟨1, ints ys⟩) = (vs, G.set blk ⟨1, ints ys⟩) := fun ys vs hv => by
        have := cleanup_upd (L := []) (I.upd.set' (b := blk) (flatO_ints _ 1 ys)) hv
        rwa [List.append_nil] at this
      have hg : ∀ o, (G.set blk o)[blk]? = some o := fun o => by simp [hlt]
      obtain ⟨q, hq⟩ : ∃ q, q = ddN xs xs.length := ⟨_, rfl⟩
      rw [← hq] at ih ⊢
      obtain ⟨d, hd2⟩ : ∃ d, d = D.length := ⟨_, rfl⟩
      rw [← hd2] at ih e1 w3 hd ⊢
      obtain ⟨u, hu⟩ : ∃ u, u = zs.set d x := ⟨_, rfl⟩
      rw [← hu] at ih e1
      have b1 : k + k2 < (ints zs).length := by rw [ints_length]; omega
      have b0 : k + (k2 - 1) < (ints zs).length := by rw [ints_length]; omega
      have b2 : k + k2 < xs.length := c
      have b3 : k + (k2 - 1) < xs.length := by omega
      have b4 : (d : Int) < xs.length := by omega
      have b5 : d < xs.length := by omega
      clear hq hx hy I hz g0 g1 e0 hD hd2 hset hu
      simp (disch := first | assumption | omega | (simp [*] <;> omega) | fail) [-getElem?_pos, List.getElem?_cons_zero, List.getElem?_cons_succ, c', w1, w2, w3, p1, r1, r0, c2, hb, hnb, hcl, hg, hbl, hlt, ih, b1, b0, b2, b3, b4, b5, hzl, e1]
  · have e : k + k2 = xs.length := by omega
    have c' : ¬ (k2 : Int) < ((xs.length - k : Nat) : Int) := by omega
    rw [e] at hz ⊢
    rw [← hz, hset_self hb]
    simp (disch := first | assumption | omega | (simp [*] <;> omega) | fail) [-getElem?_pos, List.getElem?_cons_zero, List.getElem?_cons_succ, c', hb, hzl]
 termination_by xs.length - (k + k2)

theorem ddN_grow (xs : List Int) : ∀ (p m : Nat), m ≤ p → (ddN xs p).length ≤ (ddN xs m).length + (p - m)
  | 0, m, h => by
    have : m = 0 := by omega
    subst this; simp
  | p + 1, m, h => by
    by_cases e : m = p + 1
    · subst e; omega
    · have := ddN_grow xs p m (by omega)
      rw [ddN]; split
      · omega
      · simp; omega
theorem splice_zeros {D L : List Int} {m : Nat} (h : L.length = m) : splice D.length (List.replicate m [Value.int .i64 0]).flatten (ints (D ++ L)) = ints (D ++ List.replicate m 0) := by
  have e : (List.replicate m [Value.int .i64 0]).flatten = ints (List.replicate m 0) := by
    clear h
    induction m with
    | zero => rfl
    | succ m ih => rw [List.replicate_succ, List.replicate_succ, List.flatten_cons, ih]; rfl
  rw [e]
  unfold splice ints
  simp only [List.map_append, List.length_map, List.length_replicate]
  have l1 : D.length = (D.map (Value.int .i64)).length := by simp
  have l2 : (D.map (Value.int .i64) ++ L.map (Value.int .i64)).length ≤ D.length + m := by simp; omega
  have t1 : List.take D.length (D.map (Value.int .i64) ++ L.map (Value.int .i64)) = D.map (Value.int .i64) := by
    rw [l1, List.take_left]
  rw [t1, List.drop_eq_nil_of_le l2, List.append_nil]

theorem l_cpt2 {h0 G : VH} {blk : Nat} {xs : List Int} (I : Inp nro h0 G blk xs) (k : Nat) (h1 : 1 ≤ k) (hk : k ≤ xs.length) (hd : ∀ q, 1 ≤ q → q < k → xs.getD q 0 ≠ xs.getD (q - 1) 0) :
    floop (vcall F nro) nro [0, 3] i_slices_Compact_int64_int64_B2 h0 [.slice (some ⟨blk, 0, none⟩) xs.length xs.length, .int .i64 k] G =
      if (ddN xs xs.length).length = xs.length then some (.exit 0, fl [(0, .slice (some ⟨blk, 0, none⟩) xs.length xs.length)], G)
      else some (.ret, fl [(2, .slice (some ⟨blk, 0, none⟩) (ddN xs xs.length).length xs.length)], G.set blk ⟨1, ints (ddN xs xs.length ++ List.replicate (xs.length - (ddN xs xs.length).length) 0)⟩) := by
  have hb := I.at'
  have hnb := I.nr
  have hlen := I.len
  have hlt := I.lt
  have hbl : blk < h0.length := by rw [← I.upd.1]; exact hlt
  rw [floop_at i_slices_Compact_int64_int64_B2.eq_1]
  by_cases c : k < xs.length
  · have c' : (k : Int) < xs.length := by omega
    have r1 : List.take 1 (List.drop k (ints xs)) = [.int .i64 (xs.getD k 0)] := by rw [take1_ints c, ← getD_at xs c]
    have r0 : List.take 1 (List.drop (k - 1) (ints xs)) = [.int .i64 (xs.getD (k - 1) 0)] := by rw [take1_ints (by omega), ← getD_at xs (by omega)]
    have w1 : IntKind.i64.wrap ((k : Int) - 1) = ((k - 1 : Nat) : Int) := by rw [wrap64 (by omega) (by omega)]; omega
    have w2 : IntKind.i64.wrap ((k : Int) + 1) = (k : Int) + 1 := wrap64 (by omega) (by omega)
    have p1 : ((k - 1 : Nat) : Int) < xs.length := by omega
    have b1 : k < xs.length := c
    have b0 : k - 1 < xs.length := by omega
    have hcl := fun vs => I.clean (vs := vs)
    by_cases c2 : xs.getD k 0 = xs.getD (k - 1) 0
    · have e1 : ddN xs (k + 1) = xs.take k := by
        rw [ddN, if_pos ⟨by omega, c2⟩, ddN_none (by omega) hd]
      have hne : ¬ (ddN xs xs.length).length = xs.length := by
        have := ddN_grow xs xs.length (k + 1) (by omega)
        rw [e1] at this
        simp at this
        omega
      rw [if_neg hne]
      have I0 : Inp nro G G blk xs := ⟨hb, hnb, Upd.rfl' G, hlen⟩
      have lp := l_cpt1 I0 k 1 (by rw [e1]; simp; rw [Nat.min_eq_left (by omega)]; simp) (by omega) (by omega) (by rw [e1]; simp; omega)
      rw [e1, List.length_take, Nat.min_eq_left (by omega)] at lp
      simp only [Int.natCast_one] at lp
      have hle := ddN_le xs xs.length
      have s1 : vslice 1 G (.slice (some ⟨blk, 0, none⟩) xs.length xs.length) (some (.int .i64 k)) none = some (.slice (some ⟨blk, k, none⟩) (xs.length - k) xs.length) := by
        simp [vslice, hb]; omega
      obtain ⟨D, hD⟩ : ∃ D, D = ddN xs xs.length := ⟨_, rfl⟩
      rw [← hD] at lp hle hne ⊢
      have hl3 : (ints (D ++ xs.drop D.length)).length = xs.length := by rw [ints_length]; simp; omega
      obtain ⟨G', hG'⟩ : ∃ G', G' = G.set blk ⟨1, ints (D ++ xs.drop D.length)⟩ := ⟨_, rfl⟩
      have hg : G'[blk]? = some ⟨1, ints (D ++ xs.drop D.length)⟩ := by rw [hG']; simp [hlt]
      have s2 : vslice 1 G' (.slice (some ⟨blk, 0, none⟩) xs.length xs.length) (some (.int .i64 D.length)) none = some (.slice (some ⟨blk, D.length, none⟩) (xs.length - D.length) xs.length) := by
        simp only [vslice, hg, hl3, and_self, if_true, Option.getD_some, Option.getD_none]
        rw [if_pos (by omega)]
        simp
      have s3 : vclear nro 1 [.int .i64 0] G' (.slice (some ⟨blk, D.length, none⟩) (xs.length - D.length) xs.length) = some (.tuple #[], G.set blk ⟨1, ints (D ++ List.replicate (xs.length - D.length) 0)⟩) := by
        simp only [vclear, hg, hl3, and_self, if_true]
        rw [if_neg (by omega), if_pos ⟨hnb, by omega, rfl, rfl⟩, splice_zeros (by simp), hG', List.set_set]
      have hl4 : (ints (D ++ List.replicate (xs.length - D.length) 0)).length = xs.length := by rw [ints_length]; simp; omega
      obtain ⟨G2, hG2⟩ : ∃ G2, G2 = G.set blk ⟨1, ints (D ++ List.replicate (xs.length - D.length) 0)⟩ := ⟨_, rfl⟩
      have hg2 : G2[blk]? = some ⟨1, ints (D ++ List.replicate (xs.length - D.length) 0)⟩ := by rw [hG2]; simp [hlt]
      have s4 : vslice 1 G2 (.slice (some ⟨blk, 0, none⟩) xs.length xs.length) none (some (.int .i64 D.length)) = some (.slice (some ⟨blk, 0, none⟩) D.length xs.length) := by
        simp only [vslice, hg2, hl4, and_self, if_true, Option.getD_some, Option.getD_none]
        rw [if_pos (by omega)]
        simp
      rw [← hG'] at lp
      rw [← hG2] at s3 ⊢
      obtain ⟨y, hy⟩ : ∃ y, y = xs.getD (k - 1) 0 := ⟨_, rfl⟩
      rw [c2] at r1
      rw [← hy] at r0 r1
      clear hD hG' hG2 I I0 e1 hd c2 hg hg2 hl3 hl4 hy
      simp (disch := first | assumption | omega | (simp [*] <;> omega) | fail) [-getElem?_pos, List.getElem?_cons_zero, List.getElem?_cons_succ, c', hk, r1, r0, w1, w2, p1, b1, b0, hb, hnb, hbl, hlt, s1, lp, s2, s3, s4]
    · have ih := l_cpt2 I (k + 1) (by omega) c fun q h2 h3 => by
        by_cases e : q = k
        · rw [e]; exact c2
        · exact hd q h2 (by omega)
      rw [show ((k + 1 : Nat) : Int) = (k : Int) + 1 by omega] at ih
      obtain ⟨q, hq⟩ : ∃ q, q = (if (ddN xs xs.length).length = xs.length then some (VX.exit 0, fl [(0, .slice (some ⟨blk, 0, none⟩) xs.length xs.length)], G)
        else some (.ret, fl [(2, .slice (some ⟨blk, 0, none⟩) (ddN xs xs.length).length xs.length)], G.set blk ⟨1, ints (ddN xs xs.length ++ List.replicate (xs.length - (ddN xs xs.length).length) 0)⟩)) := ⟨_, rfl⟩
      rw [← hq] at ih ⊢
      obtain ⟨x, hx⟩ : ∃ x, x = xs.getD k 0 := ⟨_, rfl⟩
      obtain ⟨y, hy⟩ : ∃ y, y = xs.getD (k - 1) 0 := ⟨_, rfl⟩
      rw [← hx] at r1 c2
      rw [← hy] at r0 c2
      clear hq hx hy I hd
      simp (disch := first | assumption | omega | (simp [*] <;> omega) | fail) [-getElem?_pos, List.getElem?_cons_zero, List.getElem?_cons_succ, c', hk, r1, r0, w1, w2, p1, b1, b0, hb, c2, hcl, hbl, ih]
  · have e : k = xs.length := by omega
    have c' : ¬ (k : Int) < xs.length := by omega
    have e1 : ddN xs xs.length = xs := by
      rw [ddN_none (Nat.le_refl _) (by rw [← e]; exact hd), List.take_length]
    rw [e1, if_pos rfl]
    simp (disch := first | assumption | omega | (simp [*] <;> omega) | fail) [-getElem?_pos, List.getElem?_cons_zero, List.getElem?_cons_succ, c', hb]
 termination_by xs.length - k

/-- The elements that are not as the one before. -/
theorem c_Compact {G : VH} {blk : Nat} {xs : List Int} (hb : G[blk]? = some ⟨1, ints xs⟩) (hnb : nro ≤ blk) (hlen : xs.length ≤ 100000) (h0 : 1 ≤ xs.length) :
    vcall F nro k_slices_Compact_int64_int64 [.slice (some ⟨blk, 0, none⟩) xs.length xs.length] G = some (.slice (some ⟨blk, 0, none⟩) (ddN xs xs.length).length xs.length, G.set blk ⟨1, ints (ddN xs xs.length ++ List.replicate (xs.length - (ddN xs xs.length).length) 0)⟩) := by
  refine v_slices_Compact_int64_int64 (by simp [i_slices_Compact_int64_int64]) ?_
  rw [fbody_eq]
  have hlt : blk < G.length := (List.getElem?_eq_some_iff.mp hb).1
  have hco : ∀ (ys : List Int) a b, kclean G [.slice (some ⟨blk, 0, none⟩) a b] (G.set blk ⟨1, ints ys⟩) = ([.slice (some ⟨blk, 0, none⟩) a b], G.set blk ⟨1, ints ys⟩) := fun ys a b => by
    have := cleanup_upd (L := []) ((Upd.rfl' G).set' (b := blk) (flatO_ints _ 1 ys)) (vs := [.slice (some ⟨blk, 0, none⟩) a b]) (by simp [hlt])
    rwa [List.append_nil] at this
  have hco0 : ∀ a b, kclean G [.slice (some ⟨blk, 0, none⟩) a b] G = ([.slice (some ⟨blk, 0, none⟩) a b], G) := fun a b => by
    have := hco xs a b
    rwa [hset_self hb] at this
  have full : (ddN xs xs.length).length = xs.length → ddN xs xs.length = xs := fun e => by
    rw [ddN_none (Nat.le_refl _) fun q h1 h2 e2 => ?_, List.take_length]
    have h3 := ddN_grow xs xs.length (q + 1) (by omega)
    have h4 := ddN_le xs q
    rw [ddN, if_pos ⟨by omega, e2⟩] at h3
    omega
  by_cases c : xs.length < 2
  · have e : xs.length = 1 := by omega
    have e1 : ddN xs xs.length = xs := by
      rw [ddN_none (Nat.le_refl _) fun q h1 h2 => by omega, List.take_length]
    rw [e1, Nat.sub_self, List.replicate_zero, List.append_nil, hset_self hb]
    have c' : (xs.length : Int) < 2 := by omega
    simp (disch := first | assumption | omega | (simp [*] <;> omega) | fail) [-getElem?_pos, List.getElem?_cons_zero, List.getElem?_cons_succ, i_slices_Compact_int64_int64, hb, c', hco0]
  · have c' : ¬ (xs.length : Int) < 2 := by omega
    have lp := l_cpt2 (nro := nro) (h0 := G) (G := G) (blk := blk) (xs := xs) ⟨hb, hnb, Upd.rfl' G, hlen⟩ 1 (Nat.le_refl _) (by omega) fun q h1 h2 => by omega
    simp only [Int.natCast_one] at lp
    by_cases e : (ddN xs xs.length).length = xs.length
    · have e1 := full e
      rw [if_pos e] at lp
      rw [e1, Nat.sub_self, List.replicate_zero, List.append_nil, hset_self hb]
      simp (disch := first | assumption | omega | (simp [*] <;> omega) | fail) [-getElem?_pos, List.getElem?_cons_zero, List.getElem?_cons_succ, i_slices_Compact_int64_int64, hb, c', lp, hco0]
    · rw [if_neg e] at lp
      simp (disch := first | assumption | omega | (simp [*] <;> omega) | fail) [-getElem?_pos, List.getElem?_cons_zero, List.getElem?_cons_succ, i_slices_Compact_int64_int64, hb, c', lp, hco]
end Go.Proofs.Ythpgiimaadohcaa.Zv

/- Sorting short lists; what sorted lists are. -/
namespace Go.Proofs.Ythpgiimaadohcaa.Zv
open Go
variable {nro : Nat}

set_option maxRecDepth 20000 in
theorem c_bits_Len64 (x : Nat) (hx : x ≤ 255) (h : VH) : ∃ y : Nat, y ≤ 255 ∧ vcall F nro k_math_bits_Len64 [.int .u64 x] h = some (.int .i64 y, h) := by
  have c1 : ¬ (4294967296 : Int) ≤ x := by omega
  have c2 : ¬ (65536 : Int) ≤ x := by omega
  have c3 : ¬ (256 : Int) ≤ x := by omega
  have w : IntKind.u8.wrap (x : Int) = x := wrapu8 (by omega) (by omega)
  obtain ⟨i, hi⟩ : ∃ i, i = i_math_bits_Len64 := ⟨_, rfl⟩
  have hr : ∃ y : Nat, y ≤ 255 ∧ fbody (vcall F nro) nro i [.int .u64 x] h = some (.int .i64 y, h) := by
    unfold i_math_bits_Len64 at hi
    generalize hS : (ByteArray.mk _) = S at hi
    have hsz : S.size = 256 := by rw [← hS]; rfl
    have hx2 : x < S.size := by omega
    obtain ⟨b, hb⟩ : ∃ b : UInt8, S[x]? = some b := ⟨S[x], by simp [getElem?_pos, hx2]⟩
    clear hS
    refine ⟨b.toNat, by have := b.toNat_lt; omega, ?_⟩
    rw [fbody_eq, hi]
    have hb2 : b.toNat < 256 := b.toNat_lt
    have w2 : IntKind.i64.wrap ((b.toNat : Nat) : Int) = b.toNat := wrap64 (by omega) (by omega)
    clear hi
    simp (disch := first | assumption | omega | (simp [*] <;> omega) | fail) [-getElem?_pos, vop, c1, c2, c3, w, hb, w2]
  obtain ⟨y, hy, hr⟩ := hr
  refine ⟨y, hy, v_math_bits_Len64 (by show 1 ≤ 25; omega) ?_⟩
  rw [← hi]
  exact hr
theorem c_bits_Len (x : Nat) (hx : x ≤ 255) (h : VH) : ∃ y : Nat, y ≤ 255 ∧ vcall F nro k_math_bits_Len [.int .u64 x] h = some (.int .i64 y, h) := by
  obtain ⟨y, hy, e⟩ := c_bits_Len64 (nro := nro) x hx h
  refine ⟨y, hy, v_math_bits_Len (by simp [i_math_bits_Len]) ?_⟩
  rw [fbody_eq]
  simp (disch := first | assumption | omega | (simp [*] <;> omega) | fail) [i_math_bits_Len, e]

theorem c_pdq12 {G : VH} {blk : Nat} {xs : List Int} (hb : G[blk]? = some ⟨1, ints xs⟩) (hnb : nro ≤ blk) (hlen : xs.length ≤ 100000) (a b : Nat) (l : Int) (hb2 : b ≤ xs.length) (hab : a ≤ b) (h12 : b - a ≤ 12) :
    vcall F nro k_slices_pdqsortOrdered_int64 [.slice (some ⟨blk, 0, none⟩) xs.length xs.length, .int .i64 a, .int .i64 b, .int .i64 l] G = some (.tuple #[], G.set blk ⟨1, ints (insS a b xs)⟩) := by
  have hlt : blk < G.length := (List.getElem?_eq_some_iff.mp hb).1
  have hi := c_insertionSort hb hnb hlen a b hb2 (by omega)
  have w1 : IntKind.i64.wrap ((b : Int) - a) = ((b - a : Nat) : Int) := by rw [wrap64 (by omega) (by omega)]; omega
  have c : ((b - a : Nat) : Int) ≤ 12 := by omega
  obtain ⟨q, hq⟩ : ∃ q, q = insS a b xs := ⟨_, rfl⟩
  rw [← hq] at hi ⊢
  clear hq
  have hcl : ∀ (ys : List Int) vs, (∀ v ∈ vs, Old G.length v) → kclean G vs (G.set blk ⟨1, ints ys⟩) = (vs, G.set blk ⟨1, ints ys⟩) := fun ys vs hv => by
    have := cleanup_upd (L := []) ((Upd.rfl' G).set' (b := blk) (flatO_ints _ 1 ys)) hv
    rwa [List.append_nil] at this
  have lp : floop (vcall F nro) nro [0, 1, 2, 3, 8, 9] i_slices_pdqsortOrdered_int64_B1 G [.slice (some ⟨blk, 0, none⟩) xs.length xs.length, .int .i64 a, .int .i64 b, .int .i64 l, .bool true, .bool true] G = some (.ret, fl [], G.set blk ⟨1, ints q⟩) := by
    rw [floop_at i_slices_pdqsortOrdered_int64_B1.eq_1]
    simp (disch := first | assumption | omega | (simp [*] <;> omega) | fail) [-getElem?_pos, List.getElem?_cons_zero, List.getElem?_cons_succ, w1, c, hi]
  refine v_slices_pdqsortOrdered_int64 (by simp [i_slices_pdqsortOrdered_int64]) ?_
  rw [fbody_eq]
  simp (disch := first | assumption | omega | (simp [*] <;> omega) | fail) [-getElem?_pos, List.getElem?_cons_zero, List.getElem?_cons_succ, i_slices_pdqsortOrdered_int64, lp, hcl]

theorem c_Sort12 {G : VH} {blk : Nat} {xs : List Int} (hb : G[blk]? = some ⟨1, ints xs⟩) (hnb : nro ≤ blk) (h12 : xs.length ≤ 12) :
    vcall F nro k_slices_Sort_int64_int64 [.slice (some ⟨blk, 0, none⟩) xs.length xs.length] G = some (.tuple #[], G.set blk ⟨1, ints (insS 0 xs.length xs)⟩) := by
  obtain ⟨y, _, hy⟩ := c_bits_Len (nro := nro) xs.length (by omega) G
  have hp := c_pdq12 (nro := nro) hb hnb (by omega) 0 xs.length y (Nat.le_refl _) (by omega) (by omega)
  simp only [Int.natCast_zero] at hp
  have w1 : IntKind.u64.wrap (xs.length : Int) = xs.length := wrapu64 (by omega) (by omega)
  obtain ⟨q, hq⟩ : ∃ q, q = insS 0 xs.length xs := ⟨_, rfl⟩
  rw [← hq] at hp ⊢
  clear hq
  have hcl : ∀ (ys : List Int) vs, (∀ v ∈ vs, Old G.length v) → kclean G vs (G.set blk ⟨1, ints ys⟩) = (vs, G.set blk ⟨1, ints ys⟩) := fun ys vs hv => by
    have := cleanup_upd (L := []) ((Upd.rfl' G).set' (b := blk) (flatO_ints _ 1 ys)) hv
    rwa [List.append_nil] at this
  refine v_slices_Sort_int64_int64 (by simp [i_slices_Sort_int64_int64]) ?_
  rw [fbody_eq]
  simp (disch := first | assumption | omega | (simp [*] <;> omega) | fail) [-getElem?_pos, List.getElem?_cons_zero, List.getElem?_cons_succ, i_slices_Sort_int64_int64, hy, hp, hb, w1, hcl]

/-! ### what sorting does -/
theorem swp_perm {xs : List Int} {i j : Nat} (hi : i < xs.length) (hj : j < xs.length) : List.Perm (swp xs i j) xs := by
  unfold swp
  rw [getD_at xs hi, getD_at xs hj]
  exact List.set_set_perm hi hj
theorem swp_get {xs : List Int} {i j : Nat} (hi : i < xs.length) (hj : j < xs.length) (p : Nat) : (swp xs i j).getD p 0 = if p = j then xs.getD i 0 else if p = i then xs.getD j 0 else xs.getD p 0 := by
  unfold swp
  rw [List.getD_eq_getElem?_getD, List.getElem?_set]
  by_cases h1 : p = j
  · rw [if_pos h1.symm, if_pos (by simpa [h1] using hj), if_pos h1]; rfl
  · rw [if_neg (fun e => h1 e.symm), if_neg h1, List.getElem?_set]
    by_cases h2 : p = i
    · rw [if_pos h2.symm, if_pos hi, if_pos h2]; rfl
    · rw [if_neg (fun e => h2 e.symm), if_neg h2, List.getD_eq_getElem?_getD]
theorem insD_perm (a : Nat) : ∀ (j : Nat) (xs : List Int), j < xs.length → List.Perm (insD a j xs) xs
  | 0, _, _ => List.Perm.refl _
  | j + 1, xs, h => by
    rw [insD]
    split
    · exact (insD_perm a j (swp xs (j + 1) j) (by simp; omega)).trans (swp_perm h (by omega))
    · exact List.Perm.refl _
/-- Sorted from a to before b. -/
def SrtB (a b : Nat) (xs : List Int) : Prop := ∀ p q, a ≤ p → p < q → q < b → xs.getD p 0 ≤ xs.getD q 0
theorem insD_sorted (a i : Nat) : ∀ (j : Nat) (xs : List Int), a ≤ j → j ≤ i → i < xs.length → (∀ p q, a ≤ p → p < q → q ≤ i → p ≠ j → q ≠ j → xs.getD p 0 ≤ xs.getD q 0) → (∀ q, j < q → q ≤ i → xs.getD j 0 ≤ xs.getD q 0) → SrtB a (i + 1) (insD a j xs)
  | 0, xs, ha, hj, hi, h1, h2 => by
    intro p q hp hpq hq
    show xs.getD p 0 ≤ xs.getD q 0
    by_cases e : p = 0
    · rw [e]; exact h2 q (by omega) (by omega)
    · exact h1 p q hp hpq (by omega) e (by omega)
  | j + 1, xs, ha, hj, hi, h1, h2 => by
    rw [insD]
    by_cases c : a < j + 1 ∧ xs.getD (j + 1) 0 < xs.getD j 0
    · rw [if_pos c]
      have g := swp_get (xs := xs) (i := j + 1) (j := j) (by omega) (by omega)
      refine insD_sorted a i j (swp xs (j + 1) j) (by omega) (by omega) (by simpa using hi) (fun p q hp hpq hq n1 n2 => ?_) (fun q h3 h4 => ?_)
      · rw [g, g, if_neg n1, if_neg n2]
        by_cases e1 : p = j + 1
        · rw [if_pos e1, if_neg (by omega)]
          exact h1 j q (by omega) (by omega) hq (by omega) (by omega)
        · rw [if_neg e1]
          by_cases e2 : q = j + 1
          · rw [if_pos e2]
            exact h1 p j hp (by omega) (by omega) e1 (by omega)
          · rw [if_neg e2]
            exact h1 p q hp hpq hq e1 e2
      · rw [g, g, if_pos rfl, if_neg (by omega)]
        by_cases e2 : q = j + 1
        · rw [if_pos e2]; omega
        · rw [if_neg e2]
          exact h2 q (by omega) h4
    · rw [if_neg c]
      intro p q hp hpq hq
      by_cases e1 : p = j + 1
      · rw [e1]; exact h2 q (by omega) (by omega)
      · by_cases e2 : q = j + 1
        · rw [e2]
          have h3 : xs.getD j 0 ≤ xs.getD (j + 1) 0 := by omega
          by_cases e3 : p = j
          · rw [e3]; exact h3
          · exact Int.le_trans (h1 p j hp (by omega) (by omega) e1 (by omega)) h3
        · exact h1 p q hp hpq (by omega) e1 e2
theorem insS_ok (a b : Nat) : ∀ (i : Nat) (xs : List Int), b ≤ xs.length → a < i → SrtB a i xs → List.Perm (upF (fun i xs => insD a i xs) b i xs) xs ∧ (i ≤ b → SrtB a b (upF (fun i xs => insD a i xs) b i xs)) := by
  intro i xs hb hi hs
  by_cases c : i < b
  · rw [upF_step c]
    have h1 : SrtB a (i + 1) (insD a i xs) := insD_sorted a i i xs (by omega) (Nat.le_refl _) (by omega) (fun p q hp hpq hq _ n2 => hs p q hp hpq (by omega)) (fun q h1 h2 => by omega)
    obtain ⟨h2, h3⟩ := insS_ok a b (i + 1) (insD a i xs) (by simpa using hb) (by omega) h1
    exact ⟨h2.trans (insD_perm a i xs (by omega)), fun _ => h3 (by omega)⟩
  · rw [upF_end c]
    exact ⟨List.Perm.refl _, fun h => by have : i = b := by omega
                                         rw [← this]; exact hs⟩
 termination_by i => b - i
theorem insS_perm {a b : Nat} {xs : List Int} (hb : b ≤ xs.length) : List.Perm (insS a b xs) xs := (insS_ok a b (a + 1) xs hb (by omega) (fun p q h1 h2 h3 => by omega)).1
theorem insS_sorted {a b : Nat} {xs : List Int} (hb : b ≤ xs.length) : SrtB a b (insS a b xs) := by
  by_cases h : a + 1 ≤ b
  · exact (insS_ok a b (a + 1) xs hb (by omega) (fun p q h1 h2 h3 => by omega)).2 h
  · intro p q h1 h2 h3; omega

/-- A sorted list has no two alike if and only if none is as the one before. -/
theorem ddN_full {xs : List Int} (hs : SrtB 0 xs.length xs) : (ddN xs xs.length).length = xs.length ↔ xs.Nodup := by
  constructor
  · intro h
    have hne : ∀ q, q + 1 < xs.length → xs.getD (q + 1) 0 ≠ xs.getD q 0 := fun q hq e => by
      have h3 := ddN_grow xs xs.length (q + 1 + 1) (by omega)
      have h4 := ddN_le xs (q + 1)
      rw [ddN, if_pos ⟨by omega, e⟩] at h3
      omega
    have hlt : ∀ d p, p + d + 1 < xs.length → xs.getD p 0 < xs.getD (p + d + 1) 0 := by
      intro d
      induction d with
      | zero =>
        intro p hp
        have h1 := hne p hp
        have h2 := hs p (p + 1) (by omega) (by omega) hp
        rw [Nat.add_zero]; omega
      | succ d ih =>
        intro p hp
        have h1 := ih p (by omega)
        have h2 := hs (p + d + 1) (p + (d + 1) + 1) (by omega) (by omega) hp
        omega
    rw [List.nodup_iff_pairwise_ne, List.pairwise_iff_getElem]
    intro i j hi hj hij e
    obtain ⟨d, rfl⟩ : ∃ d, j = i + d + 1 := ⟨j - i - 1, by omega⟩
    have := hlt d i hj
    rw [getD_at xs hi, getD_at xs hj, e] at this
    omega
  · intro h
    rw [ddN_none (Nat.le_refl _) fun q h1 h2 e => ?_, List.take_length]
    rw [getD_at xs h2, getD_at xs (show q - 1 < xs.length by omega)] at e
    have := (List.nodup_iff_pairwise_ne.mp h)
    rw [List.pairwise_iff_getElem] at this
    exact this (q - 1) q (by omega) h2 (by omega) e.symm
end Go.Proofs.Ythpgiimaadohcaa.Zv

/- Marks: what is written into a graph's rows, and what is held there. -/
namespace Go.Proofs.Ythpgiimaadohcaa.Zv
open Go
variable {nro : Nat}

/-- k, k + 1, .. -/
def cnt (k : Int) (n : Nat) : List Int := (List.range n).map fun (i : Nat) => k + (i : Int)
@[simp] theorem cnt_length (k : Int) (n : Nat) : (cnt k n).length = n := by simp [cnt]
theorem cnt_get (k : Int) (n i : Nat) (h : i < n) : (cnt k n)[i]'(by simpa using h) = k + i := by simp [cnt]

@[simp] theorem take_cnt (k : Int) (n : Nat) : List.take n (ints (cnt k n)) = ints (cnt k n) := List.take_of_length_le (by simp)

@[simp] theorem cnt_zero (k : Int) : cnt k 0 = [] := rfl

theorem l_laws_markInt64S (b n : Nat) (xs : List Int) (k : Int) (h : VH) (hb : h[b]? = some ⟨1, ints xs⟩) (hl : n = xs.length) (hn : nro ≤ b) (hk : 0 ≤ k) (hk2 : k + n ≤ 9223372036854775806) (i : Int) (ys : List Int) (h0 : 0 ≤ i) (hi : i ≤ n) (hy : ys.length = n) (hp : ys.take i.toNat = cnt k i.toNat) :
    floop (vcall F nro) nro [0, 1, 5] i_laws_markInt64S_B1 h [.slice (some ⟨b, 0, none⟩) n n, .int .i64 (k + i), .int .i64 i] (h.set b ⟨1, ints ys⟩) =
      some (.exit 0, fl [(1, .int .i64 (k + n))], h.set b ⟨1, ints (cnt k n)⟩) := by
  have hbl := (List.getElem?_eq_some_iff.mp hb).1
  rw [floop_at i_laws_markInt64S_B1.eq_1]
  by_cases hlt : i < n
  · simp (disch := first | assumption | omega | (simp [*] <;> omega) | fail) [hget_set0 hb, hy, hlt, wrap64, splice_ints, hn, h0]
    have ih := l_laws_markInt64S b n xs k h hb hl hn hk hk2 (i + 1) (ys.set i.toNat (k + i)) (by omega) (by omega) (by simpa using hy) ?_
    · rw [show k + (i + 1) = k + i + 1 by omega] at ih
      exact ih
    · rw [show (i + 1).toNat = i.toNat + 1 by omega]
      apply List.ext_getElem?
      intro j
      have := congrArg (·[j]?) hp
      simp only [cnt, List.getElem?_take, List.getElem?_map, List.getElem?_range, List.getElem?_set] at this ⊢
      grind
  · have e : i = n := by omega
    subst e
    have : ys = cnt k n := by
      rw [Int.toNat_natCast] at hp
      rw [← hp, List.take_of_length_le (by omega)]
    simp (disch := first | assumption | omega | (simp [*] <;> omega) | fail) [hget_set0 hb, hy, this]
 termination_by (n - i).toNat

theorem c_laws_markInt64S (b n : Nat) (xs : List Int) (k : Int) (h : VH) (hb : h[b]? = some ⟨1, ints xs⟩) (hl : n = xs.length) (hn : nro ≤ b) (hk : 0 ≤ k) (hk2 : k + n ≤ 9223372036854775806) :
    vcall F nro k_laws_markInt64S [.slice (some ⟨b, 0, none⟩) n n, .int .i64 k] h = some (.int .i64 (k + n), h.set b ⟨1, ints (cnt k n)⟩) := by
  refine v_laws_markInt64S (by simp [i_laws_markInt64S]) ?_
  rw [fbody_eq]
  have hloop := l_laws_markInt64S b n xs k h hb hl hn hk hk2 0 xs (by omega) (by omega) hl.symm (by simp [cnt])
  rw [hset_self hb] at hloop
  simp only [Int.add_zero] at hloop
  simp (disch := first | assumption | omega | (simp [*] <;> omega) | fail) [i_laws_markInt64S, hloop]

theorem c_laws_markInt64S_nil (k : Int) (h : VH) : vcall F nro k_laws_markInt64S [.slice none 0 0, .int .i64 k] h = some (.int .i64 k, h) := by
  refine v_laws_markInt64S (by simp [i_laws_markInt64S]) ?_
  rw [fbody_eq]
  simp [i_laws_markInt64S]
  rw [floop_at i_laws_markInt64S_B1.eq_1]
  simp

theorem l_laws_heldInt64S (s : Value) (xs : List Int) (h : VH) (hs : Sli h s xs) (k : Int) (hk : 0 ≤ k) (hk2 : k + xs.length ≤ 9223372036854775806) (i : Int) (h0 : 0 ≤ i) (hi : i ≤ xs.length) :
    floop (vcall F nro) nro [0, 1, 5] i_laws_heldInt64S_B1 h [s, .int .i64 (k + i), .int .i64 i] h =
      if xs.drop i.toNat = (cnt k xs.length).drop i.toNat then some (.exit 0, fl [(1, .int .i64 (k + xs.length))], h) else some (.ret, fl [(4, .int .i64 (-1))], h) := by
  have hso := hs.old
  rw [floop_at i_laws_heldInt64S_B1.eq_1]
  by_cases hlt : i < xs.length
  · have ih := l_laws_heldInt64S s xs h hs k hk hk2 (i + 1) (by omega) (by omega)
    rw [show (i + 1).toNat = i.toNat + 1 by omega, show k + (i + 1) = k + i + 1 by omega] at ih
    have e : (xs.drop i.toNat = (cnt k xs.length).drop i.toNat) ↔ xs[i.toNat]'(by omega) = k + i ∧ xs.drop (i.toNat + 1) = (cnt k xs.length).drop (i.toNat + 1) := by
      rw [List.drop_eq_getElem_cons (by omega : i.toNat < xs.length), List.drop_eq_getElem_cons (by simp; omega : i.toNat < (cnt k xs.length).length), List.cons.injEq, cnt_get _ _ _ (by omega), Int.toNat_of_nonneg h0]
    by_cases hx : xs[i.toNat]'(by omega) = k + i
    · simp (disch := first | assumption | omega | (simp [*] <;> omega) | fail) [hs.vlen, hs.vidx, hs.vload, hlt, wrap64, hx, ih, e]
    · simp (disch := first | assumption | omega | (simp [*] <;> omega) | fail) [hs.vlen, hs.vidx, hs.vload, hlt, wrap64, hx, e]
  · have e1 : xs.drop i.toNat = [] := List.drop_eq_nil_of_le (by omega)
    have e2 : (cnt k xs.length).drop i.toNat = [] := List.drop_eq_nil_of_le (by simp; omega)
    have e3 : i = xs.length := by omega
    simp (disch := first | assumption | omega | (simp [*] <;> omega) | fail) [hs.vlen, hlt, e1, e2]
    rw [e3]
 termination_by (xs.length - i).toNat

theorem c_laws_heldInt64S (s : Value) (xs : List Int) (h : VH) (hs : Sli h s xs) (k : Int) (hk : 0 ≤ k) (hk2 : k + xs.length ≤ 9223372036854775806) :
    vcall F nro k_laws_heldInt64S [s, .int .i64 k] h = some (.int .i64 (if xs = cnt k xs.length then k + xs.length else -1), h) := by
  refine v_laws_heldInt64S (by simp [i_laws_heldInt64S]) ?_
  rw [fbody_eq]
  have hloop := l_laws_heldInt64S (nro := nro) s xs h hs k hk hk2 0 (by omega) (by omega)
  simp only [Int.add_zero, Int.toNat_zero, List.drop_zero] at hloop
  by_cases hx : xs = cnt k xs.length
  · rw [if_pos hx] at hloop
    rw [if_pos hx]
    clear hx
    simp (disch := first | assumption | omega | (simp [*] <;> omega) | fail) [i_laws_heldInt64S, hloop]
  · rw [if_neg hx] at hloop
    rw [if_neg hx]
    simp (disch := first | assumption | omega | (simp [*] <;> omega) | fail) [i_laws_heldInt64S, hloop]

/-- The object of a slice that is whole. -/
theorem isSli.whole {h : VH} {b N : Nat} (hs : isSli h (.slice (some ⟨b, 0, none⟩) N N)) : ∃ xs, h[b]? = some ⟨1, ints xs⟩ ∧ N = xs.length ∧ rd h (.slice (some ⟨b, 0, none⟩) N N) = xs := by
  have hr := hs.sli
  rw [isSli_ref] at hs
  split at hs
  · rename_i o ho
    obtain ⟨h1, h2, h3, h4⟩ := hs
    have e : List.take N (List.drop 0 o.cells) = o.cells := by simp [h2]
    rw [e] at h4
    have h5 := ints_unints h4
    obtain ⟨sz, cs⟩ := o
    simp only at h1 h2 h5
    subst h1
    refine ⟨unints cs, by rw [h5]; exact ho, by rw [h2]; simp [unints], ?_⟩
    rw [rd_ref]
    dsimp only at ho ⊢
    rw [ho]
    simp [h2]
  · exact hs.elim

theorem r_laws_markGraph (n : Int) (b N : Nat) (k : Int) (h : VH) (hs : isSli h (.slice (some ⟨b, 0, none⟩) N N)) (hn : nro ≤ b) (hk : 0 ≤ k) (hk2 : k + N ≤ 9223372036854775806) :
    vcall F nro k_laws_markGraph [gv n (.slice (some ⟨b, 0, none⟩) N N), .int .i64 k] h = some (.int .i64 (k + N), h.set b ⟨1, ints (cnt k N)⟩) := by
  obtain ⟨xs, hb, hl, _⟩ := hs.whole
  refine v_laws_markGraph (by simp [i_laws_markGraph]) ?_
  rw [fbody_eq]
  have hc := c_laws_markInt64S (nro := nro) b N xs k (h ++ [⟨0, [.int .i64 n, .slice (some ⟨b, 0, none⟩) N N]⟩]) (hget_old hb _) hl hn hk hk2
  rw [hset_old hb] at hc
  simp (disch := first | assumption | omega | (simp [*] <;> omega) | fail) [i_laws_markGraph, hc]

theorem r_laws_markGraph_nil (n k : Int) (h : VH) : vcall F nro k_laws_markGraph [gv n (.slice none 0 0), .int .i64 k] h = some (.int .i64 k, h) := by
  refine v_laws_markGraph (by simp [i_laws_markGraph]) ?_
  rw [fbody_eq]
  have hc := c_laws_markInt64S_nil (nro := nro) k (h ++ [⟨0, [.int .i64 n, .slice none 0 0]⟩])
  simp (disch := first | assumption | omega | (simp [*] <;> omega) | fail) [i_laws_markGraph, hc]

theorem r_laws_heldGraph (n : Int) (s : Value) (k : Int) (h : VH) (hs : isSli h s) (hk : 0 ≤ k) (hk2 : k + (rd h s).length ≤ 9223372036854775806) :
    vcall F nro k_laws_heldGraph [gv n s, .int .i64 k] h = some (.int .i64 (if rd h s = cnt k (rd h s).length then k + (rd h s).length else -1), h) := by
  refine v_laws_heldGraph (by simp [i_laws_heldGraph]) ?_
  rw [fbody_eq]
  have hc := c_laws_heldInt64S (nro := nro) s (rd h s) (h ++ [⟨0, [.int .i64 n, s]⟩]) (hs.sli.app _) k hk hk2
  by_cases e : rd h s = cnt k (rd h s).length
  · rw [if_pos e] at hc ⊢
    have h2 : ¬ k + (rd h s).length < 0 := by omega
    clear e
    simp (disch := first | assumption | omega | (simp [*] <;> omega) | fail) [i_laws_heldGraph, hc, h2]
  · rw [if_neg e] at hc ⊢
    simp (disch := first | assumption | omega | (simp [*] <;> omega) | fail) [i_laws_heldGraph, hc]
end Go.Proofs.Ythpgiimaadohcaa.Zv

