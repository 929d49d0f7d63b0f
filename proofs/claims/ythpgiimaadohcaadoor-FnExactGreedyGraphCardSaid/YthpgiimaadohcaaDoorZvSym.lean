/- Symbolic steps: what simp needs to walk through code. -/
import Derived.Test.YthpgiimaadohcaaDoorZvF
namespace Go.Proofs.YthpgiimaadohcaaDoor.Zv
open Go

section
variable {call : VCall} {nro : Nat}

/-! ### places -/
@[simp] theorem fput_some (e : FE) (d t : Nat) (v : Value) : fput e (some d) v t = if t = d then v else e t := rfl
@[simp] theorem fput_none (e : FE) (v : Value) : fput e none v = e := rfl
@[simp] theorem fl_cons (i : Nat) (v : Value) (r : List (Nat × Value)) (t : Nat) : fl ((i, v) :: r) t = if t = i then v else fl r t := rfl
@[simp] theorem fargs_cons (a : Value) (r : List Value) : fargs (a :: r) 0 = a := rfl
@[simp] theorem fargs_succ (a : Value) (r : List Value) (t : Nat) : fargs (a :: r) (t + 1) = fargs r t := rfl
@[simp] theorem fev_tmp (e : FE) (t : Nat) : fev e (.tmp t) = e t := rfl
@[simp] theorem fev_const (e : FE) (v : Value) : fev e (.const v) = v := rfl
@[simp] theorem fev_func (e : FE) (f : Nat) : fev e (.func f) = .func (.func f) #[] #[] := rfl

/-! ### a region -/
def kops (call : VCall) (nro : Nat) (d : Option Nat) (os : List VOper) (e : FE) : Option (Value × VH) → Option (FE × VH)
  | some (v, h) => fops call nro os (fput e d v) h
  | none => none
theorem fput_self (e : FE) (g : Nat) (v : Value) (h : e g = v) : fput e (some g) v = e := by
  funext t
  simp only [fput_some]
  split
  · rename_i ht; rw [ht, h]
  · rfl
def kguard (call : VCall) (nro : Nat) (g : Nat) (b : Bool) (d : Option Nat) (op : VOp) (os : List VOper) (e : FE) (h : VH) : Value → Option (FE × VH)
  | .bool c => if c = b then kops call nro d os (fput e (some g) (.bool b)) (vop call nro (fev (fput e (some g) (.bool b))) h op) else fops call nro os (fput (fput e (some g) (.bool !b)) d undef) h
  | .tuple vs => if vs.size = 0 then fops call nro os (fput e d undef) h else none
  | _ => none
@[simp] theorem fops_nil (e : FE) (h : VH) : fops call nro [] e h = some (e, h) := rfl
@[simp] theorem fops_cons (d : Option Nat) (op : VOp) (k : Nat) (os : List VOper) (e : FE) (h : VH) : fops call nro (⟨d, op, none, k⟩ :: os) e h = kops call nro d os e (vop call nro (fev e) h op) := by
  simp only [fops, fwanted]
  cases vop call nro (fev e) h op <;> rfl
@[simp] theorem fops_guard (d : Option Nat) (op : VOp) (g : Nat) (b : Bool) (k : Nat) (os : List VOper) (e : FE) (h : VH) : fops call nro (⟨d, op, some (g, b), k⟩ :: os) e h = kguard call nro g b d op os e h (e g) := by
  simp only [fops, fwanted]
  generalize hg : e g = x
  cases x with
  | bool c =>
    simp only [kguard]
    cases c <;> cases b <;> simp [kops, fput_self _ _ _ hg] <;> cases vop call nro (fev e) h op <;> rfl
  | tuple vs => simp only [kguard]; split <;> simp_all
  | _ => rfl
@[simp] theorem kops_some (d : Option Nat) (os : List VOper) (e : FE) (v : Value) (h : VH) : kops call nro d os e (some (v, h)) = fops call nro os (fput e d v) h := rfl
@[simp] theorem kops_none (d : Option Nat) (os : List VOper) (e : FE) : kops call nro d os e none = none := rfl
@[simp] theorem kops_ite (d : Option Nat) (os : List VOper) (e : FE) (c : Prop) [Decidable c] (x y : Option (Value × VH)) : kops call nro d os e (if c then x else y) = if c then kops call nro d os e x else kops call nro d os e y := by split <;> rfl
@[simp] theorem kguard_bool (g : Nat) (b c : Bool) (d : Option Nat) (op : VOp) (os : List VOper) (e : FE) (h : VH) : kguard call nro g b d op os e h (.bool c) = if c = b then kops call nro d os (fput e (some g) (.bool b)) (vop call nro (fev (fput e (some g) (.bool b))) h op) else fops call nro os (fput (fput e (some g) (.bool !b)) d undef) h := rfl
@[simp] theorem kguard_undef (g : Nat) (b : Bool) (d : Option Nat) (op : VOp) (os : List VOper) (e : FE) (h : VH) : kguard call nro g b d op os e h undef = fops call nro os (fput e d undef) h := rfl

/-! ### a region whose order is open -/
open Classical in
noncomputable def kdops (call : VCall) (nro : Nat) (d : Option Nat) (op : VOp) (k : Nat) (os : List VOper) (e : FE) (h : VH) (hs : List VH) : Option (Value × VH) → Option (FE × VH)
  | some (v, h') => if op.eff = true then fdops call nro os (fput e d v) h' (h :: hs) else if ∀ g ∈ hs.take k, vop call nro (fev e) g op = some (v, g) then fdops call nro os (fput e d v) h' hs else none
  | none => none
noncomputable def kdguard (call : VCall) (nro : Nat) (g : Nat) (b : Bool) (d : Option Nat) (op : VOp) (k : Nat) (os : List VOper) (e : FE) (h : VH) (hs : List VH) : Value → Option (FE × VH)
  | .bool c => if c = b then kdops call nro d op k os (fput e (some g) (.bool b)) h hs (vop call nro (fev (fput e (some g) (.bool b))) h op) else fdops call nro os (fput (fput e (some g) (.bool !b)) d undef) h (if op.eff = true then h :: hs else hs)
  | .tuple vs => if vs.size = 0 then fdops call nro os (fput e d undef) h (if op.eff = true then h :: hs else hs) else none
  | _ => none
@[simp] theorem fdops_nil (e : FE) (h : VH) (hs : List VH) : fdops call nro [] e h hs = some (e, h) := rfl
@[simp] theorem fdops_cons (d : Option Nat) (op : VOp) (k : Nat) (os : List VOper) (e : FE) (h : VH) (hs : List VH) : fdops call nro (⟨d, op, none, k⟩ :: os) e h hs = kdops call nro d op k os e h hs (vop call nro (fev e) h op) := by
  simp only [fdops, fwanted]
  cases vop call nro (fev e) h op <;> rfl
@[simp] theorem fdops_guard (d : Option Nat) (op : VOp) (g : Nat) (b : Bool) (k : Nat) (os : List VOper) (e : FE) (h : VH) (hs : List VH) : fdops call nro (⟨d, op, some (g, b), k⟩ :: os) e h hs = kdguard call nro g b d op k os e h hs (e g) := by
  simp only [fdops, fwanted]
  generalize hg : e g = x
  cases x with
  | bool c =>
    simp only [kdguard]
    by_cases hcb : c = b
    · subst hcb
      rw [if_pos rfl, fput_self _ _ _ hg]
      simp only [beq_self_eq_true]
      cases vop call nro (fev e) h op <;> rfl
    · have h1 : (c == b) = false := by simpa using hcb
      have h2 : (!b) = c := by cases c <;> cases b <;> simp_all
      rw [if_neg hcb, h1, h2, fput_self _ _ _ hg]
  | tuple vs => simp only [kdguard]; split <;> simp_all
  | _ => rfl
open Classical in
@[simp] theorem kdops_some (d : Option Nat) (op : VOp) (k : Nat) (os : List VOper) (e : FE) (h : VH) (hs : List VH) (v : Value) (h' : VH) : kdops call nro d op k os e h hs (some (v, h')) = if op.eff = true then fdops call nro os (fput e d v) h' (h :: hs) else if ∀ g ∈ hs.take k, vop call nro (fev e) g op = some (v, g) then fdops call nro os (fput e d v) h' hs else none := rfl
@[simp] theorem kdops_none (d : Option Nat) (op : VOp) (k : Nat) (os : List VOper) (e : FE) (h : VH) (hs : List VH) : kdops call nro d op k os e h hs none = none := rfl
@[simp] theorem kdops_ite (d : Option Nat) (op : VOp) (k : Nat) (os : List VOper) (e : FE) (h : VH) (hs : List VH) (c : Prop) [Decidable c] (x y : Option (Value × VH)) : kdops call nro d op k os e h hs (if c then x else y) = if c then kdops call nro d op k os e h hs x else kdops call nro d op k os e h hs y := by split <;> rfl
@[simp] theorem kdguard_bool (g : Nat) (b c : Bool) (d : Option Nat) (op : VOp) (k : Nat) (os : List VOper) (e : FE) (h : VH) (hs : List VH) : kdguard call nro g b d op k os e h hs (.bool c) = if c = b then kdops call nro d op k os (fput e (some g) (.bool b)) h hs (vop call nro (fev (fput e (some g) (.bool b))) h op) else fdops call nro os (fput (fput e (some g) (.bool !b)) d undef) h (if op.eff = true then h :: hs else hs) := rfl
@[simp] theorem kdguard_undef (g : Nat) (b : Bool) (d : Option Nat) (op : VOp) (k : Nat) (os : List VOper) (e : FE) (h : VH) (hs : List VH) : kdguard call nro g b d op k os e h hs undef = fdops call nro os (fput e d undef) h (if op.eff = true then h :: hs else hs) := rfl

/-! ### code -/
/-- Garbage dropped. -/
noncomputable def kclean (h0 : VH) (vs : List Value) (h : VH) : List Value × VH := cleanup h0.length h0 vs h
def kn : Option (FE × VH) → Option (VX × FE × VH)
  | some (e, h) => some (.normal, e, h)
  | none => none
@[simp] theorem kn_some (e : FE) (h : VH) : kn (some (e, h)) = some (.normal, e, h) := rfl
@[simp] theorem kn_none : kn none = none := rfl
@[simp] theorem kn_ite (c : Prop) [Decidable c] (x y : Option (FE × VH)) : kn (if c then x else y) = if c then kn x else kn y := by split <;> rfl

noncomputable def kseq (call : VCall) (nro : Nat) (b : FC) : Option (VX × FE × VH) → Option (VX × FE × VH)
  | some (.normal, e, h) => fcode call nro b e h
  | r => r
@[simp] theorem kseq_normal (b : FC) (e : FE) (h : VH) : kseq call nro b (some (.normal, e, h)) = fcode call nro b e h := rfl
@[simp] theorem kseq_ret (b : FC) (e : FE) (h : VH) : kseq call nro b (some (.ret, e, h)) = some (.ret, e, h) := rfl
@[simp] theorem kseq_exit (b : FC) (i : Nat) (e : FE) (h : VH) : kseq call nro b (some (.exit i, e, h)) = some (.exit i, e, h) := rfl
@[simp] theorem kseq_none (b : FC) : kseq call nro b none = none := rfl
@[simp] theorem kseq_ite (b : FC) (c : Prop) [Decidable c] (x y : Option (VX × FE × VH)) : kseq call nro b (if c then x else y) = if c then kseq call nro b x else kseq call nro b y := by split <;> rfl

noncomputable def kcond (call : VCall) (nro : Nat) (a b : FC) (e : FE) (h : VH) : Value → Option (VX × FE × VH)
  | .bool true => fcode call nro a e h
  | .bool false => fcode call nro b e h
  | _ => none
@[simp] theorem kcond_bool (a b : FC) (e : FE) (h : VH) (c : Bool) : kcond call nro a b e h (.bool c) = if c = true then fcode call nro a e h else fcode call nro b e h := by cases c <;> rfl

def kblock (id : Nat) : Option (VX × FE × VH) → Option (VX × FE × VH)
  | some (.exit i, e, h) => if i = id then some (.normal, e, h) else some (.exit i, e, h)
  | r => r
@[simp] theorem kblock_normal (id : Nat) (e : FE) (h : VH) : kblock id (some (.normal, e, h)) = some (.normal, e, h) := rfl
@[simp] theorem kblock_ret (id : Nat) (e : FE) (h : VH) : kblock id (some (.ret, e, h)) = some (.ret, e, h) := rfl
@[simp] theorem kblock_exit (id i : Nat) (e : FE) (h : VH) : kblock id (some (.exit i, e, h)) = if i = id then some (.normal, e, h) else some (.exit i, e, h) := rfl
@[simp] theorem kblock_none (id : Nat) : kblock id none = none := rfl
@[simp] theorem kblock_ite (id : Nat) (c : Prop) [Decidable c] (x y : Option (VX × FE × VH)) : kblock id (if c then x else y) = if c then kblock id x else kblock id y := by split <;> rfl

/-- A loop from its head: the places that live there, the heap before the loop, and the heap now. -/
noncomputable def floop (call : VCall) (nro : Nat) (live : List Nat) (c : FC) (h0 : VH) (vs : List Value) (h : VH) : Option (VX × FE × VH) :=
  iter (fun s : List Value × VH => match fcode call nro c (fl (live.zip s.1)) s.2 with
      | some (.normal, e', h') => some (.inl (cleanup h0.length h0 (live.map e') h'))
      | some r => some (.inr r)
      | none => none) (vs, h)

noncomputable def kloop (call : VCall) (nro : Nat) (live : List Nat) (c : FC) (h0 : VH) (p : List Value × VH) : Option (VX × FE × VH) := floop call nro live c h0 p.1 p.2
@[simp] theorem kloop_mk (live : List Nat) (c : FC) (h0 : VH) (vs : List Value) (h : VH) : kloop call nro live c h0 (vs, h) = floop call nro live c h0 vs h := rfl
noncomputable def kback (call : VCall) (nro : Nat) (live : List Nat) (c : FC) (h0 : VH) : Option (VX × FE × VH) → Option (VX × FE × VH)
  | some (.normal, e, h) => kloop call nro live c h0 (kclean h0 (live.map e) h)
  | r => r
@[simp] theorem kback_normal (live : List Nat) (c : FC) (h0 : VH) (e : FE) (h : VH) : kback call nro live c h0 (some (.normal, e, h)) = kloop call nro live c h0 (kclean h0 (live.map e) h) := rfl
@[simp] theorem kback_exit (live : List Nat) (c : FC) (h0 : VH) (i : Nat) (e : FE) (h : VH) : kback call nro live c h0 (some (.exit i, e, h)) = some (.exit i, e, h) := rfl
@[simp] theorem kback_ret (live : List Nat) (c : FC) (h0 : VH) (e : FE) (h : VH) : kback call nro live c h0 (some (.ret, e, h)) = some (.ret, e, h) := rfl
@[simp] theorem kback_none (live : List Nat) (c : FC) (h0 : VH) : kback call nro live c h0 none = none := rfl
@[simp] theorem kback_ite (live : List Nat) (b : FC) (h0 : VH) (c : Prop) [Decidable c] (x y : Option (VX × FE × VH)) : kback call nro live b h0 (if c then x else y) = if c then kback call nro live b h0 x else kback call nro live b h0 y := by split <;> rfl

/-- One time round a loop. -/
theorem floop_eq (live : List Nat) (c : FC) (h0 : VH) (vs : List Value) (h : VH) : floop call nro live c h0 vs h = kback call nro live c h0 (fcode call nro c (fl (live.zip vs)) h) := by
  unfold floop
  rw [iter]
  dsimp only
  generalize fcode call nro c (fl (live.zip vs)) h = q
  match q with
  | none => rfl
  | some (.normal, e, h') => rfl
  | some (.exit i, e, h') => rfl
  | some (.ret, e, h') => rfl

/-- The same, the loop's code shown inside alone. -/
theorem floop_at {c c' : FC} (e : c = c') (live : List Nat) (h0 : VH) (vs : List Value) (h : VH) : floop call nro live c h0 vs h = kback call nro live c h0 (fcode call nro c' (fl (live.zip vs)) h) := by
  rw [floop_eq, ← e]

@[simp] theorem fcode_skip (e : FE) (h : VH) : fcode call nro .skip e h = some (.normal, e, h) := rfl
@[simp] theorem fcode_ops (os : List VOper) (e : FE) (h : VH) : fcode call nro (.ops os) e h = kn (fops call nro os e h) := by
  simp only [fcode]; cases fops call nro os e h <;> rfl
@[simp] theorem fcode_dops (os : List VOper) (e : FE) (h : VH) : fcode call nro (.dops os) e h = kn (fdops call nro os e h []) := by
  simp only [fcode]; cases fdops call nro os e h [] <;> rfl
@[simp] theorem fcode_seq (a b : FC) (e : FE) (h : VH) : fcode call nro (.seq a b) e h = kseq call nro b (fcode call nro a e h) := by
  simp only [fcode]
  generalize fcode call nro a e h = q
  match q with
  | none => rfl
  | some (.normal, e, h') => rfl
  | some (.exit i, e, h') => rfl
  | some (.ret, e, h') => rfl
@[simp] theorem fcode_cond (x : Operand) (a b : FC) (e : FE) (h : VH) : fcode call nro (.cond x a b) e h = kcond call nro a b e h (fev e x) := by
  simp only [fcode]
  generalize fev e x = v
  unfold kcond
  split <;> simp_all
@[simp] theorem fcode_block (id : Nat) (c : FC) (e : FE) (h : VH) : fcode call nro (.block id c) e h = kblock id (fcode call nro c e h) := by
  simp only [fcode]
  generalize fcode call nro c e h = q
  match q with
  | none => rfl
  | some (.normal, e, h') => rfl
  | some (.exit i, e, h') => rfl
  | some (.ret, e, h') => rfl
@[simp] theorem fcode_loop (live : List Nat) (c : FC) (e : FE) (h : VH) : fcode call nro (.loop live c) e h = floop call nro live c h (live.map e) h := rfl
@[simp] theorem fcode_keep (live : List Nat) (c : FC) (e : FE) (h : VH) : fcode call nro (.keep live c) e h = fcode call nro c (fl (live.zip (live.map e))) h := rfl
@[simp] theorem fcode_exit (i : Nat) (e : FE) (h : VH) : fcode call nro (.exit i) e h = some (.exit i, e, h) := rfl
@[simp] theorem fcode_ret (e : FE) (h : VH) : fcode call nro .ret e h = some (.ret, e, h) := rfl

/-! ### a function's end -/
noncomputable def kfin (p : List Value × VH) : Option (Value × VH) := some (p.1.getD 0 undef, p.2)
@[simp] theorem kfin_mk (v : Value) (h : VH) : kfin ([v], h) = some (v, h) := rfl
noncomputable def kret (res : List VR) (h : VH) : Option (VX × FE × VH) → Option (Value × VH)
  | some (.exit _, _, _) => none
  | some (_, e, h') => fend h (fresults e h' res) h'
  | none => none
@[simp] theorem kret_ret (res : List VR) (h : VH) (e : FE) (h' : VH) : kret res h (some (.ret, e, h')) = fend h (fresults e h' res) h' := rfl
@[simp] theorem kret_normal (res : List VR) (h : VH) (e : FE) (h' : VH) : kret res h (some (.normal, e, h')) = fend h (fresults e h' res) h' := rfl
@[simp] theorem kret_none (res : List VR) (h : VH) : kret res h none = none := rfl
@[simp] theorem kret_ite (res : List VR) (h : VH) (c : Prop) [Decidable c] (x y : Option (VX × FE × VH)) : kret res h (if c then x else y) = if c then kret res h x else kret res h y := by split <;> rfl
@[simp] theorem fend_some (h : VH) (v : Value) (h' : VH) : fend h (some v) h' = kfin (kclean h [v] h') := rfl
theorem fbody_eq (fn : FF) (args : List Value) (h : VH) : fbody call nro fn args h = kret fn.res h (fcode call nro fn.body (fargs args) h) := by
  unfold fbody
  generalize fcode call nro fn.body (fargs args) h = q
  match q with
  | none => rfl
  | some (.normal, e, h') => rfl
  | some (.exit i, e, h') => rfl
  | some (.ret, e, h') => rfl
@[simp] theorem fresults1 (e : FE) (h : VH) (t : Nat) : fresults e h [.tmp t] = some (e t) := rfl
@[simp] theorem fresults2 (e : FE) (h : VH) (t s : Nat) : fresults e h [.tmp t, .tmp s] = if notTup (e t) = true ∧ notTup (e s) = true then some (.tuple #[e t, e s]) else none := by
  simp [fresults, fresL, fres1]
@[simp] theorem fresults3 (e : FE) (h : VH) (t s u : Nat) : fresults e h [.tmp t, .tmp s, .tmp u] = if notTup (e t) = true ∧ notTup (e s) = true ∧ notTup (e u) = true then some (.tuple #[e t, e s, e u]) else none := by
  simp [fresults, fresL, fres1]
@[simp] theorem fresultsN (e : FE) (h : VH) : fresults e h [] = some (.tuple #[]) := rfl
attribute [simp] notTup

/-! ### what lies in the elder part -/
def Old (n : Nat) (v : Value) : Prop := ∀ r ∈ trefs v, r < n
theorem Old.le {n m : Nat} {v : Value} (h : Old n v) (hm : n ≤ m) : Old m v := fun r hr => Nat.lt_of_lt_of_le (h r hr) hm
@[simp] theorem old_int (n : Nat) (k : IntKind) (i : Int) : Old n (.int k i) := fun r hr => by simp [trefs, vrefs, crefs, arefs] at hr
@[simp] theorem old_bool (n : Nat) (b : Bool) : Old n (.bool b) := fun r hr => by simp [trefs, vrefs, crefs, arefs] at hr
@[simp] theorem old_str (n : Nat) (b : ByteArray) : Old n (.string b) := fun r hr => by simp [trefs, vrefs, crefs, arefs] at hr
@[simp] theorem old_junk (n : Nat) : Old n junk := fun r hr => by simp [junk, trefs, vrefs, crefs, arefs] at hr
@[simp] theorem old_undef (n : Nat) : Old n undef := fun r hr => by simp [undef, trefs] at hr
@[simp] theorem old_slN (n a b : Nat) : Old n (.slice none a b) := fun r hr => by simp [trefs, vrefs, crefs, arefs] at hr
@[simp] theorem old_ptrN (n : Nat) : Old n (.pointer none) := fun r hr => by simp [trefs, vrefs, crefs, arefs] at hr
@[simp] theorem old_nilF (n : Nat) : Old n .nilFunc := fun r hr => by simp [trefs, vrefs, crefs, arefs] at hr
@[simp] theorem old_sl (n : Nat) (a : Addr) (k t : Nat) : Old n (.slice (some a) k t) ↔ a.block < n := by simp [Old, trefs, vrefs, crefs, arefs]
@[simp] theorem old_ptr (n : Nat) (a : Addr) : Old n (.pointer (some a)) ↔ a.block < n := by simp [Old, trefs, vrefs, crefs, arefs]
/-- The same of a cell. -/
def OldC (n : Nat) (v : Value) : Prop := ∀ r ∈ crefs v, r < n
def isAggTup : Value → Bool
  | .agg _ => true
  | .tuple _ => true
  | _ => false

theorem old_all (n : Nat) (vs : List Value) : (∀ r ∈ vs.flatMap trefs, r < n) ↔ ∀ v ∈ vs, Old n v := by
  simp only [List.mem_flatMap, Old]
  constructor
  · intro h v hv r hr
    exact h r ⟨v, hv, hr⟩
  · rintro h r ⟨v, hv, hr⟩
    exact h v hv r hr

def flatO (n : Nat) (o : VO) : Prop := ∀ r ∈ orefs o, r < n

theorem keepL_nil {base : Nat} {vs : List Value} (h : ∀ v ∈ vs, Old base v) : keepL base vs = [] := by
  unfold keepL
  rw [List.filter_eq_nil_iff.mpr]
  · rfl
  · intro r hr
    have := (old_all base vs).mpr h r hr
    simp; omega

theorem tren_old {n : Nat} {v : Value} (h : Old n v) {r : Nat → Nat} (hr : ∀ i, i < n → r i = i) : tren r v = v := by
  have ha : ∀ v : Value, (∀ i ∈ arefs v, i < n) → aren r v = v := by
    intro v hv
    unfold aren
    split
    · rename_i a
      rw [hr a.block (hv _ (by simp [arefs]))]
    · rename_i a k c
      rw [hr a.block (hv _ (by simp [arefs]))]
    · rfl
  have hmap : ∀ (f : Value → Value) (vs : Array Value), (∀ v ∈ vs, f v = v) → vs.map f = vs := by
    intro f vs h
    exact (Array.map_congr_left (g := id) h).trans (Array.map_id _)
  have hc : ∀ v : Value, (∀ i ∈ crefs v, i < n) → cren r v = v := by
    intro v hv
    unfold cren
    split
    · rename_i f a c
      simp only [crefs, List.mem_append, List.mem_flatMap] at hv
      rw [hmap _ a fun v h => ha v fun i hi => hv i (.inl ⟨v, by simpa using h, hi⟩), hmap _ c fun v h => ha v fun i hi => hv i (.inr ⟨v, by simpa using h, hi⟩)]
    · rename_i hne
      refine ha v fun i hi => hv i ?_
      unfold crefs
      split
      · exact absurd rfl (hne _ _ _)
      · exact hi
  have hvv : ∀ v : Value, (∀ i ∈ vrefs v, i < n) → vren r v = v := by
    intro v hv
    unfold vren
    split
    · rename_i cs
      simp only [vrefs, List.mem_flatMap] at hv
      rw [hmap _ cs fun v h => hc v fun i hi => hv i ⟨v, by simpa using h, hi⟩]
    · rename_i hne
      refine hc v fun i hi => hv i ?_
      unfold vrefs
      split
      · exact absurd rfl (hne _)
      · exact hi
  unfold tren
  split
  · rename_i vs
    unfold Old at h
    simp only [trefs, List.mem_flatMap] at h
    rw [hmap _ vs fun v hv => hvv v fun i hi => h i ⟨v, by simpa using hv, hi⟩]
  · rename_i hne
    refine hvv v fun i hi => h i ?_
    unfold trefs
    split
    · exact absurd rfl (hne _)
    · exact hi

theorem okT_app {h0 L : VH} {L0 : VH} (hL : ∀ o ∈ L, flatO (h0.length + L0.length) o) : okT (h0 ++ L0).length (h0 ++ L0) (h0 ++ L) := by
  intro i o ho
  by_cases hi : i < h0.length
  · left
    rw [List.getElem?_append_left hi] at ho ⊢
    exact ho
  · right
    rw [List.getElem?_append_right (by omega)] at ho
    have := hL o (List.mem_of_getElem? ho)
    simpa [flatO] using this

/-- At the end of a time round: what is fresh and not led to is dropped. -/
@[simp] theorem cleanup_app {h0 L0 L : VH} {vs : List Value} (hv : ∀ v ∈ vs, Old (h0 ++ L0).length v) (hf : ∀ o ∈ L.take L0.length, flatO (h0.length + L0.length) o) :
    kclean (h0 ++ L0) vs (h0 ++ L) = (vs, h0 ++ L.take L0.length) := by
  have htake : (h0 ++ L).take (h0 ++ L0).length = h0 ++ L.take L0.length := by
    rw [List.length_append, List.take_append]
    simp [List.take_of_length_le]
  have hc : okT (h0 ++ L0).length (h0 ++ L0) ((h0 ++ L).take (h0 ++ L0).length) ∧ flatL (h0 ++ L0).length [] (h0 ++ L) := by
    refine ⟨?_, fun i hi => by cases hi⟩
    rw [htake]
    exact okT_app hf
  unfold kclean cleanup
  rw [keepL_nil hv, if_pos hc, htake]
  simp only [List.filterMap_nil, List.append_nil, Prod.mk.injEq, and_true]
  have : ∀ v ∈ vs, tren (renOf (h0 ++ L0).length []) v = v := fun v h => tren_old (hv v h) fun i hi => by simp only [renOf, if_pos hi]
  exact (List.map_congr_left this).trans (by simp)

@[simp] theorem cleanup_drop {h L : VH} {vs : List Value} (hv : ∀ v ∈ vs, Old h.length v) : kclean h vs (h ++ L) = (vs, h) := by
  have := cleanup_app (h0 := h) (L0 := []) (L := L) (vs := vs) (by simpa using hv) (by simp)
  simpa using this

@[simp] theorem cleanup_same {h : VH} {vs : List Value} (hv : ∀ v ∈ vs, Old h.length v) : kclean h vs h = (vs, h) := by
  have := cleanup_drop (h := h) (L := []) hv
  simpa using this

/-- What is fresh and led to is kept. -/
theorem cleanup_keep {h L : VH} {vs : List Value} {ks : List Nat} (hk : keepL h.length vs = ks) (hf : flatL h.length ks (h ++ L)) :
    kclean h vs (h ++ L) = (vs.map (tren (renOf h.length ks)), h ++ ks.filterMap fun i => (h ++ L)[i]?) := by
  have hc : okT h.length h ((h ++ L).take h.length) ∧ flatL h.length ks (h ++ L) := by
    refine ⟨fun i o ho => ?_, hf⟩
    left
    rw [List.getElem?_take] at ho
    split at ho
    · rename_i hi
      rw [List.getElem?_append_left hi] at ho
      exact ho
    · cases ho
  unfold kclean cleanup
  rw [hk, if_pos hc]
  simp

/-! ### the heap -/
@[simp] theorem hget0 (h L : VH) : (h ++ L)[h.length]? = L[0]? := by rw [List.getElem?_append_right (Nat.le_refl _)]; simp
@[simp] theorem hgetk (h L : VH) (k : Nat) : (h ++ L)[h.length + k]? = L[k]? := by rw [List.getElem?_append_right (by omega)]; congr 1; omega
@[simp] theorem hset0 (h L : VH) (o : VO) : (h ++ L).set h.length o = h ++ L.set 0 o := by rw [List.set_append_right _ _ (Nat.le_refl _)]; simp
@[simp] theorem hsetk (h L : VH) (k : Nat) (o : VO) : (h ++ L).set (h.length + k) o = h ++ L.set k o := by rw [List.set_append_right _ _ (by omega)]; congr 2; omega

/-! ### operations, in parts -/
def vlen (h : VH) : Value → Option (Value × VH)
  | .slice none 0 0 => some (.int .i64 0, h)
  | .slice none 0 1 => some (.int .i64 0, h)
  | .slice (some a) n tot => match h[a.block]? with
    | some o => if tot = o.cells.length then some (.int .i64 n, h) else none
    | none => none
  | _ => none
def vidx (sz : Nat) (h : VH) : Value → Value → Option (Value × VH)
  | .slice (some a) n tot, .int _ j =>
    match h[a.block]? with
    | some o => if o.sz = sz ∧ tot = o.cells.length ∧ 0 ≤ j ∧ j < n then some (.pointer (some ⟨a.block, a.off + j.toNat * sz, some tot⟩), h) else none
    | none => none
  | _, _ => none
def vpick (c a b : Value) (h : VH) : Option (Value × VH) := match c with
  | .bool t => some (if t then a else b, h)
  | _ => none
def vext (h : VH) (i : Nat) : Value → Option (Value × VH)
  | .tuple vs => match vs[i]? with
      | some v => some (v, h)
      | none => none
  | _ => none
def vconv (k : IntKind) (h : VH) : Value → Option (Value × VH)
  | .int _ n => some (.int k (k.wrap n), h)
  | _ => none
def vfld (off : Nat) (h : VH) : Value → Option (Value × VH)
  | .pointer (some a) => if vlive h a = true then some (.pointer (some { a with off := a.off + off }), h) else none
  | _ => none
def vfieldv (agg : Bool) (off n : Nat) (h : VH) : Value → Option (Value × VH)
  | .agg cs => if off + n ≤ cs.size then (if agg then some (.agg (cs.extract off (off + n)), h) else match cs[off]? with
      | some v => some (v, h)
      | none => none) else none
  | _ => none
def vmk (sz : Nat) (zero : List Value) (bytes : Nat) (h : VH) : Value → Value → Option (Value × VH)
  | .int .i64 n, .int .i64 m => if n = m ∧ 0 ≤ n ∧ bytes * n ≤ 2 ^ 47 ∧ n ≤ 2 ^ 47 then some (.slice (some ⟨h.length, 0, none⟩) n.toNat (n.toNat * sz), h ++ [⟨sz, (List.replicate n.toNat zero).flatten⟩]) else none
  | _, _ => none
def vbox (n : Nat) (h : VH) (x : Value) : Option (Value × VH) := if (vcells x).length = n ∧ isJunk x = false then some (.pointer (some ⟨h.length, 0, some n⟩), h ++ [⟨0, vcells x⟩]) else none
def vnil (h : VH) : Value → Option (Value × VH)
  | .pointer (some a) => if vlive h a = true then some (.pointer (some a), h) else none
  | .func (.func f) a c => some (.func (.func f) a c, h)
  | _ => none
def vlenStr (h : VH) : Value → Option (Value × VH)
  | .string s => some (.int .i64 s.size, h)
  | _ => none
def vmvStr (h : VH) : Value → Option (Value × VH)
  | .string s => some (.string s, h)
  | _ => none
def veqnilS (neg : Bool) (h : VH) : Value → Option (Value × VH)
  | .slice none 0 0 => some (.bool !neg, h)
  | .slice (some a) _ tot => match h[a.block]? with
      | some o => if tot = o.cells.length then some (.bool neg, h) else none
      | none => none
  | _ => none
def veqnilF (neg : Bool) (h : VH) : Value → Option (Value × VH)
  | .nilFunc => some (.bool !neg, h)
  | .func .. => some (.bool neg, h)
  | _ => none
def vcallv (call : VCall) (h : VH) (f : Value) (args : List Value) : Option (Value × VH) := match f with
  | .func (.func g) first caps => call g (first.toList ++ args ++ caps.toList) h
  | _ => none

variable (ev : Operand → Value) (h : VH)
@[simp] theorem vop_mv (x : Operand) : vop call nro ev h (.mv x) = some (ev x, h) := rfl
@[simp] theorem vop_pick (c a b : Operand) : vop call nro ev h (.pick c a b) = vpick (ev c) (ev a) (ev b) h := rfl
@[simp] theorem vop_bin (o : BinOp) (x y : Operand) : vop call nro ev h (.bin o x y) = (vbin o (ev x) (ev y)).map (·, h) := rfl
@[simp] theorem vop_beq (n : Bool) (x y : Operand) : vop call nro ev h (.beq n x y) = (vbeq n (ev x) (ev y)).map (·, h) := rfl
@[simp] theorem vop_un (o : UnOp) (x : Operand) : vop call nro ev h (.un o x) = (vun o (ev x)).map (·, h) := rfl
@[simp] theorem vop_conv (k : IntKind) (x : Operand) : vop call nro ev h (.conv k x) = vconv k h (ev x) := rfl
@[simp] theorem vop_box (n : Nat) (x : Operand) : vop call nro ev h (.box n x) = vbox n h (ev x) := rfl
@[simp] theorem vop_alloc (z : List Value) : vop call nro ev h (.alloc z) = some (.pointer (some ⟨h.length, 0, some z.length⟩), h ++ [⟨0, z⟩]) := rfl
@[simp] theorem vop_build (z : List Value) (ps : List (Nat × Nat × Operand)) : vop call nro ev h (.build z ps) = (vfill z (ps.map fun p => (p.1, p.2.1, ev p.2.2))).map fun cs => (.agg cs.toArray, h) := rfl
@[simp] theorem vop_buildSl (sz : Nat) (z : List Value) (ps : List (Nat × Nat × Operand)) (n : Nat) : vop call nro ev h (.buildSl sz z ps n) = (vfill z (ps.map fun p => (p.1, p.2.1, ev p.2.2))).map fun cs => (.slice (some ⟨h.length, 0, none⟩) n z.length, h ++ [⟨sz, cs⟩]) := rfl
@[simp] theorem vop_load (g : Bool) (n : Nat) (p : Operand) : vop call nro ev h (.load g n p) = (vload g n h (ev p)).map (·, h) := rfl
@[simp] theorem vop_store (n : Nat) (p x : Operand) : vop call nro ev h (.store n p x) = (vstore nro n h (ev p) (ev x)).map (undef, ·) := rfl
@[simp] theorem vop_nilchk (x : Operand) : vop call nro ev h (.nilchk x) = vnil h (ev x) := rfl
@[simp] theorem vop_fld (n : Nat) (p : Operand) : vop call nro ev h (.fld n p) = vfld n h (ev p) := rfl
@[simp] theorem vop_fieldv (g : Bool) (o n : Nat) (x : Operand) : vop call nro ev h (.fieldv g o n x) = vfieldv g o n h (ev x) := rfl
@[simp] theorem vop_idx (n : Nat) (s i : Operand) : vop call nro ev h (.idx n s i) = vidx n h (ev s) (ev i) := rfl
@[simp] theorem vop_mkSl (sz : Nat) (z : List Value) (b : Nat) (l c : Operand) : vop call nro ev h (.mkSl sz z b l c) = vmk sz z b h (ev l) (ev c) := rfl
@[simp] theorem vop_slc (sz : Nat) (x : Operand) (lo hi : Option Operand) : vop call nro ev h (.slc sz x lo hi) = (vslice sz h (ev x) (lo.map ev) (hi.map ev)).map (·, h) := rfl
@[simp] theorem vop_slcStr (x : Operand) (lo hi : Option Operand) : vop call nro ev h (.slcStr x lo hi) = (vsliceStr (ev x) (lo.map ev) (hi.map ev)).map (·, h) := rfl
@[simp] theorem vop_ext (x : Operand) (i : Nat) : vop call nro ev h (.ext x i) = vext h i (ev x) := rfl
@[simp] theorem vop_len (x : Operand) : vop call nro ev h (.len x) = vlen h (ev x) := rfl
@[simp] theorem vop_lenStr (x : Operand) : vop call nro ev h (.lenStr x) = vlenStr h (ev x) := rfl
@[simp] theorem vop_mvStr (x : Operand) : vop call nro ev h (.mvStr x) = vmvStr h (ev x) := rfl
@[simp] theorem vop_eqnilS (n : Bool) (x : Operand) : vop call nro ev h (.eqnilS n x) = veqnilS n h (ev x) := rfl
@[simp] theorem vop_eqnilF (n : Bool) (x : Operand) : vop call nro ev h (.eqnilF n x) = veqnilF n h (ev x) := rfl
@[simp] theorem vop_app (sz b : Nat) (z : List Value) (s x : Operand) : vop call nro ev h (.app sz b z s x) = vappend nro sz b h (ev s) (ev x) := rfl
@[simp] theorem vop_minmax (m : Bool) (xs : List Operand) : vop call nro ev h (.minmax m xs) = (vminmax m (xs.map ev)).map (·, h) := rfl
@[simp] theorem vop_call (f : Nat) (xs : List Operand) : vop call nro ev h (.call f xs) = call f (xs.map ev) h := rfl
@[simp] theorem vop_callv (f : Operand) (xs : List Operand) : vop call nro ev h (.callv f xs) = vcallv call h (ev f) (xs.map ev) := rfl
@[simp] theorem vop_clr (sz : Nat) (z : List Value) (x : Operand) : vop call nro ev h (.clr sz z x) = vclear nro sz z h (ev x) := rfl
@[simp] theorem vop_cpy (sz : Nat) (x y : Operand) : vop call nro ev h (.cpy sz x y) = vcopy nro sz h (ev x) (ev y) := rfl
@[simp] theorem vop_stop : vop call nro ev h .stop = none := rfl
@[simp] theorem vop_mkfn (f : Nat) (a b : List Operand) : vop call nro ev h (.mkfn f a b) = if (a.map ev).all isAtom && (b.map ev).all isAtom then some (.func (.func f) (a.map ev).toArray (b.map ev).toArray, h) else none := rfl
attribute [simp] VOp.eff
@[simp] theorem vpick_bool (c : Bool) (a b : Value) : vpick (.bool c) a b h = some (if c = true then a else b, h) := rfl
@[simp] theorem vconv_int (k k' : IntKind) (n : Int) : vconv k h (.int k' n) = some (.int k (k.wrap n), h) := rfl
@[simp] theorem vlenStr_str (s : ByteArray) : vlenStr h (.string s) = some (.int .i64 s.size, h) := rfl
@[simp] theorem vmvStr_str (s : ByteArray) : vmvStr h (.string s) = some (.string s, h) := rfl
@[simp] theorem vlen_nil : vlen h (.slice none 0 0) = some (.int .i64 0, h) := rfl
@[simp] theorem vlen_ref (a : Addr) (n tot : Nat) : vlen h (.slice (some a) n tot) = match h[a.block]? with
    | some o => if tot = o.cells.length then some (.int .i64 n, h) else none
    | none => none := rfl
@[simp] theorem vidx_ref (sz : Nat) (a : Addr) (n tot : Nat) (k : IntKind) (j : Int) : vidx sz h (.slice (some a) n tot) (.int k j) = match h[a.block]? with
    | some o => if o.sz = sz ∧ tot = o.cells.length ∧ 0 ≤ j ∧ j < n then some (.pointer (some ⟨a.block, a.off + j.toNat * sz, some tot⟩), h) else none
    | none => none := rfl
@[simp] theorem vext_tup (vs : Array Value) (i : Nat) : vext h i (.tuple vs) = match vs[i]? with
      | some v => some (v, h)
      | none => none := rfl
@[simp] theorem vfld_ref (off : Nat) (a : Addr) : vfld off h (.pointer (some a)) = if vlive h a = true then some (.pointer (some { a with off := a.off + off }), h) else none := rfl
@[simp] theorem vfieldv_agg (g : Bool) (off n : Nat) (cs : Array Value) : vfieldv g off n h (.agg cs) = if off + n ≤ cs.size then (if g then some (.agg (cs.extract off (off + n)), h) else match cs[off]? with
      | some v => some (v, h)
      | none => none) else none := rfl
@[simp] theorem vmk_int (sz : Nat) (z : List Value) (b : Nat) (n m : Int) : vmk sz z b h (.int .i64 n) (.int .i64 m) = if n = m ∧ 0 ≤ n ∧ b * n ≤ 2 ^ 47 ∧ n ≤ 2 ^ 47 then some (.slice (some ⟨h.length, 0, none⟩) n.toNat (n.toNat * sz), h ++ [⟨sz, (List.replicate n.toNat z).flatten⟩]) else none := rfl
@[simp] theorem vnil_ref (a : Addr) : vnil h (.pointer (some a)) = if vlive h a = true then some (.pointer (some a), h) else none := rfl
@[simp] theorem vnil_func (f : Nat) (a c : Array Value) : vnil h (.func (.func f) a c) = some (.func (.func f) a c, h) := rfl
@[simp] theorem veqnilS_nil (n : Bool) : veqnilS n h (.slice none 0 0) = some (.bool !n, h) := rfl
@[simp] theorem veqnilS_ref (n : Bool) (a : Addr) (k tot : Nat) : veqnilS n h (.slice (some a) k tot) = match h[a.block]? with
      | some o => if tot = o.cells.length then some (.bool n, h) else none
      | none => none := rfl
@[simp] theorem vcallv_func (f : Nat) (first caps : Array Value) (args : List Value) : vcallv call h (.func (.func f) first caps) args = call f (first.toList ++ args ++ caps.toList) h := rfl
attribute [simp] vbox vget vlive vfill isJunk vminmax vminmaxL vminmax2 vsliceStr
@[simp] theorem vload_ref (g : Bool) (n : Nat) (a : Addr) : vload g n h (.pointer (some a)) = match vget h a n with
    | some cs => if g then some (.agg cs.toArray) else match cs with
      | [v] => some v
      | _ => none
    | none => none := rfl
@[simp] theorem vstore_ref (nro n : Nat) (a : Addr) (x : Value) : vstore nro n h (.pointer (some a)) x = match h[a.block]? with
    | some o =>
      if nro ≤ a.block ∧ a.spot = some o.cells.length ∧ a.off + n ≤ o.cells.length ∧ (vcells x).length = n ∧ (vcells x).all (fun v => !isJunk v) = true then
        some (h.set a.block { o with cells := splice a.off (vcells x) o.cells })
      else none
    | none => none := rfl
@[simp] theorem splice_zero (v : Value) (vs : List Value) (c : Value) (cs : List Value) : splice 0 (v :: vs) (c :: cs) = v :: vs ++ cs.drop vs.length := by simp [splice]
@[simp] theorem splice_succ (k : Nat) (vs : List Value) (c : Value) (cs : List Value) : splice (k + 1) vs (c :: cs) = c :: splice k vs cs := by
  simp [splice, Nat.add_right_comm]
@[simp] theorem vsrc_nil (sz : Nat) : vsrc sz h (.slice none 0 0) = some ([], 0) := rfl
@[simp] theorem vsrc_ref (sz : Nat) (a : Addr) (n tot : Nat) : vsrc sz h (.slice (some a) n tot) = match h[a.block]? with
    | some o => if o.sz = sz ∧ tot = o.cells.length ∧ a.off + n * sz ≤ tot then some ((o.cells.drop a.off).take (n * sz), n) else none
    | none => none := rfl
/-- An append, once its source is known. -/
def vapp (nro sz bytes : Nat) (h : VH) (s : Value) : Option (List Value × Nat) → Option (Value × VH)
  | none => none
  | some (cs, m) =>
    if cs.all (fun v => !isJunk v) = true ∧ 1 ≤ sz then
      match s with
      | .slice none 0 0 =>
        if m = 0 then some (.slice none 0 0, h)
        else if m * bytes ≤ 2 ^ 40 ∧ m ≤ 2 ^ 40 then some (.slice (some ⟨h.length, 0, none⟩) m cs.length, h ++ [⟨sz, cs⟩]) else none
      | .slice (some a) n tot =>
        match h[a.block]? with
        | some o =>
          if nro ≤ a.block ∧ o.sz = sz ∧ tot = o.cells.length ∧ a.off = 0 ∧ n * sz = tot ∧ (n + m) * bytes ≤ 2 ^ 40 ∧ n + m ≤ 2 ^ 40 then
            some (.slice (some a) (n + m) (tot + cs.length), h.set a.block { o with cells := o.cells ++ cs })
          else none
        | none => none
      | _ => none
    else none
@[simp] theorem vappend_eq (nro sz b : Nat) (s x : Value) : vappend nro sz b h s x = vapp nro sz b h s (vsrc sz h x) := by
  unfold vappend vapp
  cases vsrc sz h x <;> rfl
@[simp] theorem vapp_nil (nro sz b : Nat) (cs : List Value) (m : Nat) : vapp nro sz b h (.slice none 0 0) (some (cs, m)) = if cs.all (fun v => !isJunk v) = true ∧ 1 ≤ sz then (if m = 0 then some (.slice none 0 0, h) else if m * b ≤ 2 ^ 40 ∧ m ≤ 2 ^ 40 then some (.slice (some ⟨h.length, 0, none⟩) m cs.length, h ++ [⟨sz, cs⟩]) else none) else none := rfl
@[simp] theorem vapp_ref (nro sz b : Nat) (a : Addr) (n tot : Nat) (cs : List Value) (m : Nat) : vapp nro sz b h (.slice (some a) n tot) (some (cs, m)) = if cs.all (fun v => !isJunk v) = true ∧ 1 ≤ sz then (match h[a.block]? with
        | some o =>
          if nro ≤ a.block ∧ o.sz = sz ∧ tot = o.cells.length ∧ a.off = 0 ∧ n * sz = tot ∧ (n + m) * b ≤ 2 ^ 40 ∧ n + m ≤ 2 ^ 40 then
            some (.slice (some a) (n + m) (tot + cs.length), h.set a.block { o with cells := o.cells ++ cs })
          else none
        | none => none) else none := rfl
@[simp] theorem vslice_nil (sz : Nat) (lo hi : Option Value) : vslice sz h (.slice none 0 0) lo hi = match lo.getD (.int .i64 0), hi.getD (.int .i64 0) with
    | .int _ 0, .int _ 0 => some (.slice none 0 0)
    | _, _ => none := rfl
@[simp] theorem vslice_ref (sz : Nat) (a : Addr) (n tot : Nat) (lo hi : Option Value) : vslice sz h (.slice (some a) n tot) lo hi = match h[a.block]? with
    | some o =>
      if o.sz = sz ∧ tot = o.cells.length then
        match lo.getD (.int .i64 0), hi.getD (.int .i64 n) with
        | .int _ l, .int _ u => if 0 ≤ l ∧ l ≤ u ∧ u ≤ n then some (.slice (some { a with off := a.off + l.toNat * sz }) (u.toNat - l.toNat) tot) else none
        | _, _ => none
      else none
    | none => none := rfl
@[simp] theorem vcells_agg (cs : Array Value) : vcells (.agg cs) = cs.toList := rfl
@[simp] theorem vcells_int (k : IntKind) (n : Int) : vcells (.int k n) = [.int k n] := rfl
@[simp] theorem vcells_bool (b : Bool) : vcells (.bool b) = [.bool b] := rfl
@[simp] theorem vcells_str (b : ByteArray) : vcells (.string b) = [.string b] := rfl
@[simp] theorem vcells_sl (a : Option Addr) (n c : Nat) : vcells (.slice a n c) = [.slice a n c] := rfl
@[simp] theorem vcells_ptr (a : Option Addr) : vcells (.pointer a) = [.pointer a] := rfl
end
end Go.Proofs.YthpgiimaadohcaaDoor.Zv
