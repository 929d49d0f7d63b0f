/- The interpreter again, over places told by a function: made for symbolic steps. -/
import Derived.Test.YthpgiimaadohcaaDoorZvSound
namespace Go.Proofs.YthpgiimaadohcaaDoor.Zv
open Go

abbrev FE := Nat → Value

inductive FC where
  | skip
  | ops (os : List VOper)
  | dops (os : List VOper)
  | seq (a b : FC)
  | cond (x : Operand) (a b : FC)
  | block (id : Nat) (c : FC)
  | loop (live : List Nat) (c : FC)
  | keep (live : List Nat) (c : FC)
  | exit (id : Nat)
  | ret

structure FF where
  ntmps : Nat
  res : List VR
  body : FC

def bm (live : List Nat) (n : Nat) : List Bool := (List.range n).map fun t => live.contains t

def FC.vc (n : Nat) : FC → VC
  | .skip => .skip
  | .ops os => .ops os
  | .dops os => .dops os
  | .seq a b => .seq (a.vc n) (b.vc n)
  | .cond x a b => .cond x (a.vc n) (b.vc n)
  | .block id c => .block id (c.vc n)
  | .loop live c => .loop (bm live n) (c.vc n)
  | .keep live c => .keep (bm live n) (c.vc n)
  | .exit id => .exit id
  | .ret => .ret

def FF.vf (f : FF) : VF := ⟨f.ntmps, f.res, f.body.vc f.ntmps⟩

/-! ### places -/
def fl : List (Nat × Value) → FE
  | [] => fun _ => junk
  | (i, v) :: r => fun t => if t = i then v else fl r t

def fargs (args : List Value) : FE := fun t => args.getD t undef

def fput (e : FE) : Option Nat → Value → FE
  | some d, v => fun t => if t = d then v else e t
  | none, _ => e

def fev (e : FE) : Operand → Value
  | .tmp t => e t
  | .const v => v
  | .global _ => junk
  | .func f => .func (.func f) #[] #[]

def fwanted (e : FE) : Option (Nat × Bool) → Option Bool
  | none => some true
  | some (g, want) => match e g with
    | .bool b => some (b == want)
    | .tuple vs => if vs.size = 0 then some false else none
    | _ => none

def fops (call : VCall) (nro : Nat) : List VOper → FE → VH → Option (FE × VH)
  | [], e, h => some (e, h)
  | o :: os, e, h =>
    match fwanted e o.guard with
    | some true => match vop call nro (fev e) h o.op with
      | some (v, h') => fops call nro os (fput e o.dst v) h'
      | none => none
    | some false => fops call nro os (fput e o.dst undef) h
    | none => none

open Classical in
noncomputable def fdops (call : VCall) (nro : Nat) : List VOper → FE → VH → List VH → Option (FE × VH)
  | [], e, h, _ => some (e, h)
  | o :: os, e, h, hs =>
    match fwanted e o.guard with
    | some true => match vop call nro (fev e) h o.op with
      | some (v, h') =>
        if o.op.eff = true then fdops call nro os (fput e o.dst v) h' (h :: hs)
        else if ∀ g ∈ hs.take o.chk, vop call nro (fev e) g o.op = some (v, g) then fdops call nro os (fput e o.dst v) h' hs else none
      | none => none
    | some false => fdops call nro os (fput e o.dst undef) h (if o.op.eff = true then h :: hs else hs)
    | none => none

noncomputable def fcode (call : VCall) (nro : Nat) : FC → FE → VH → Option (VX × FE × VH)
  | .skip, e, h => some (.normal, e, h)
  | .ops os, e, h => match fops call nro os e h with
    | some (e', h') => some (.normal, e', h')
    | none => none
  | .dops os, e, h => match fdops call nro os e h [] with
    | some (e', h') => some (.normal, e', h')
    | none => none
  | .seq a b, e, h => match fcode call nro a e h with
    | some (.normal, e', h') => fcode call nro b e' h'
    | r => r
  | .cond x a b, e, h => match fev e x with
    | .bool true => fcode call nro a e h
    | .bool false => fcode call nro b e h
    | _ => none
  | .block id c, e, h => match fcode call nro c e h with
    | some (.exit id', e', h') => if id' = id then some (.normal, e', h') else some (.exit id', e', h')
    | r => r
  | .loop live c, e, h =>
    iter (fun s : List Value × VH => match fcode call nro c (fl (live.zip s.1)) s.2 with
      | some (.normal, e', h') => some (.inl (cleanup h.length h (live.map e') h'))
      | some r => some (.inr r)
      | none => none) (live.map e, h)
  | .keep live c, e, h => fcode call nro c (fl (live.zip (live.map e))) h
  | .exit id, e, h => some (.exit id, e, h)
  | .ret, e, h => some (.ret, e, h)

def fres1 (e : FE) (h : VH) : VR → Option Value
  | .tmp t => some (e t)
  | .cell t agg n => vload agg n h (e t)

def fresL (e : FE) (h : VH) : List VR → Option (List Value)
  | [] => some []
  | r :: rs => match fres1 e h r, fresL e h rs with
    | some v, some vs => some (v :: vs)
    | _, _ => none

def fresults (e : FE) (h : VH) (rs : List VR) : Option Value :=
  match fresL e h rs with
  | some [v] => some v
  | some vs => if vs.all notTup = true then some (.tuple vs.toArray) else none
  | none => none

noncomputable def fend (h : VH) : Option Value → VH → Option (Value × VH)
  | some v, h' => some (((cleanup h.length h [v] h').1).getD 0 undef, (cleanup h.length h [v] h').2)
  | none, _ => none

noncomputable def fbody (call : VCall) (nro : Nat) (fn : FF) (args : List Value) (h : VH) : Option (Value × VH) :=
  match fcode call nro fn.body (fargs args) h with
  | some (.exit _, _, _) => none
  | some (_, e, h') => fend h (fresults e h' fn.res) h'
  | none => none

/-! ### what is checked once -/
def ltO (n : Nat) : Operand → Bool
  | .tmp t => decide (t < n)
  | _ => true
def okOper (n : Nat) (o : VOper) : Bool := (opds o.op).all (ltO n) && (match o.dst with
  | some d => decide (d < n)
  | none => true) && (match o.guard with
  | some (g, _) => decide (g < n)
  | none => true)
def okLive (n : Nat) (live : List Nat) : Bool := live == (List.range n).filter fun t => live.contains t
def FC.ok (n : Nat) : FC → Bool
  | .ops os => os.all (okOper n)
  | .dops os => os.all (okOper n)
  | .seq a b => a.ok n && b.ok n
  | .cond x a b => ltO n x && a.ok n && b.ok n
  | .block _ c => c.ok n
  | .loop live c => okLive n live && c.ok n
  | .keep live c => okLive n live && c.ok n
  | _ => true
def ltR (n : Nat) : VR → Bool
  | .tmp t => decide (t < n)
  | .cell t _ _ => decide (t < n)
def FF.ok (f : FF) : Bool := f.body.ok f.ntmps && f.res.all (ltR f.ntmps)

/-! ### the same -/
def FRel (n : Nat) (e : FE) (env : List Value) : Prop := env.length = n ∧ ∀ t, t < n → env.getD t undef = e t

theorem FRel.ev {n : Nat} {e : FE} {env : List Value} (h : FRel n e env) {x : Operand} (hx : ltO n x = true) : vev env x = fev e x := by
  cases x with
  | tmp t => exact h.2 t (by simpa [ltO] using hx)
  | _ => rfl

theorem FRel.put {n : Nat} {e : FE} {env : List Value} (h : FRel n e env) (d : Option Nat) (v : Value) : FRel n (fput e d v) (vput env d v) := by
  refine ⟨by rw [DD.vput_length]; exact h.1, fun t ht => ?_⟩
  cases d with
  | none => exact h.2 t ht
  | some d =>
    have := DD.vput_get env d t v
    rw [List.getD_eq_getElem?_getD, this]
    simp only [fput]
    by_cases hd : d = t
    · subst hd; simp [h.1, ht]
    · rw [if_neg hd, if_neg (fun e => hd e.symm), ← List.getD_eq_getElem?_getD]
      exact h.2 t ht

theorem FRel.wanted {n : Nat} {e : FE} {env : List Value} (h : FRel n e env) {g : Option (Nat × Bool)} (hg : (match g with
  | some (g, _) => decide (g < n)
  | none => true) = true) : vwanted env g = fwanted e g := by
  cases g with
  | none => rfl
  | some p =>
    obtain ⟨g, b⟩ := p
    have : g < n := by simpa using hg
    simp only [vwanted, fwanted, h.2 g this]
    rfl

theorem FRel.vop {n : Nat} {e : FE} {env : List Value} {call : VCall} {nro : Nat} (h : FRel n e env) {o : VOper} (ho : okOper n o = true) (hp : VH) : vop call nro (vev env) hp o.op = vop call nro (fev e) hp o.op := by
  apply vop_congr
  intro x hx
  unfold okOper at ho
  simp only [Bool.and_eq_true] at ho
  exact h.ev (List.all_eq_true.mp ho.1.1 x hx)

theorem okOper_g {n : Nat} {o : VOper} (ho : okOper n o = true) : (match o.guard with
  | some (g, _) => decide (g < n)
  | none => true) = true := by
  unfold okOper at ho
  simp only [Bool.and_eq_true] at ho
  exact ho.2

theorem fops_sound {n : Nat} {call : VCall} {nro : Nat} : ∀ (os : List VOper) (e : FE) (env : List Value) (h : VH) (e' : FE) (h' : VH), os.all (okOper n) = true → FRel n e env → fops call nro os e h = some (e', h') →
    ∃ env', vops call nro os env h = some (env', h') ∧ FRel n e' env'
  | [], e, env, h, e', h', _, hr, hv => by
    simp only [fops, Option.some.injEq, Prod.mk.injEq] at hv
    obtain ⟨rfl, rfl⟩ := hv
    exact ⟨env, rfl, hr⟩
  | o :: os, e, env, h, e', h', hok, hr, hv => by
    simp only [List.all_cons, Bool.and_eq_true] at hok
    simp only [fops, ← hr.wanted (okOper_g hok.1), ← hr.vop hok.1] at hv
    simp only [vops]
    split at hv
    · rename_i hw
      split at hv
      · rename_i hv1
        simp only [hw, hv1]
        exact fops_sound os _ _ _ _ _ hok.2 (hr.put o.dst _) hv
      · cases hv
    · rename_i hw
      simp only [hw]
      exact fops_sound os _ _ _ _ _ hok.2 (hr.put o.dst _) hv
    · cases hv

theorem fdops_sound {n : Nat} {call : VCall} {nro : Nat} : ∀ (os : List VOper) (e : FE) (env : List Value) (h : VH) (hs : List VH) (e' : FE) (h' : VH), os.all (okOper n) = true → FRel n e env → fdops call nro os e h hs = some (e', h') →
    ∃ env', vdops call nro os env h hs = some (env', h') ∧ FRel n e' env'
  | [], e, env, h, hs, e', h', _, hr, hv => by
    simp only [fdops, Option.some.injEq, Prod.mk.injEq] at hv
    obtain ⟨rfl, rfl⟩ := hv
    exact ⟨env, rfl, hr⟩
  | o :: os, e, env, h, hs, e', h', hok, hr, hv => by
    simp only [List.all_cons, Bool.and_eq_true] at hok
    simp only [fdops, ← hr.wanted (okOper_g hok.1), ← hr.vop hok.1] at hv
    simp only [vdops]
    split at hv
    · rename_i hw
      split at hv
      · rename_i hv1
        simp only [hw, hv1]
        split at hv
        · rename_i he
          rw [if_pos he]
          exact fdops_sound os _ _ _ _ _ _ hok.2 (hr.put o.dst _) hv
        · rename_i he
          rw [if_neg he]
          split at hv
          · rename_i hh
            rw [if_pos fun g hg => (hr.vop hok.1 g).trans (hh g hg)]
            exact fdops_sound os _ _ _ _ _ _ hok.2 (hr.put o.dst _) hv
          · cases hv
      · cases hv
    · rename_i hw
      simp only [hw]
      exact fdops_sound os _ _ _ _ _ _ hok.2 (hr.put o.dst _) hv
    · cases hv

def menv (live : List Nat) (n : Nat) (f : Nat → Value) : List Value := (List.range n).map fun t => if live.contains t = true then f t else junk

theorem maskEnv_eq_zip : ∀ (m : List Bool) (env : List Value), m.length = env.length → maskEnv m env = (m.zip env).map fun p => if p.1 = true then p.2 else junk
  | [], [], _ => rfl
  | b :: m, v :: env, h => by
    simp only [maskEnv, List.zip_cons_cons, List.map_cons]
    rw [maskEnv_eq_zip m env (by simpa using h)]
  | [], _ :: _, h => by simp at h
  | _ :: _, [], h => by simp at h

theorem FRel.mask {n : Nat} {e : FE} {env : List Value} (h : FRel n e env) (live : List Nat) : maskEnv (bm live n) env = menv live n e := by
  rw [maskEnv_eq_zip _ _ (by simp [bm, h.1])]
  apply List.ext_getElem?
  intro t
  simp only [menv, bm, List.getElem?_map]
  by_cases ht : t < n
  · have h1 : env[t]? = some (e t) := by
      have := h.2 t ht
      rw [List.getD_eq_getElem?_getD] at this
      have hl : t < env.length := by rw [h.1]; exact ht
      rw [List.getElem?_eq_getElem hl] at this ⊢
      simpa using this
    simp [List.zip, List.getElem?_zipWith, ht, h1]
  · have h1 : env[t]? = none := List.getElem?_eq_none (by rw [h.1]; omega)
    simp [List.zip, List.getElem?_zipWith, ht, h1]

theorem fl_zip (live : List Nat) (f : Nat → Value) (t : Nat) : fl (live.zip (live.map f)) t = if t ∈ live then f t else junk := by
  induction live with
  | nil => rfl
  | cons i live ih =>
    simp only [List.map_cons, List.zip_cons_cons, fl]
    by_cases ht : t = i
    · subst ht; simp
    · rw [if_neg ht, ih]; simp [ht]

theorem FRel.menv {n : Nat} (live : List Nat) (f : Nat → Value) : FRel n (fl (live.zip (live.map f))) (menv live n f) := by
  refine ⟨by simp [Zv.menv], fun t ht => ?_⟩
  rw [fl_zip, List.getD_eq_getElem?_getD]
  simp only [Zv.menv, List.getElem?_map, List.getElem?_range ht, Option.map_some, Option.getD_some, List.contains_iff_mem]

theorem flatMap_if (p : Nat → Bool) (f : Nat → Value) (l : List Nat) : (l.map fun t => if p t = true then f t else junk).flatMap trefs = ((l.filter p).map f).flatMap trefs := by
  induction l with
  | nil => rfl
  | cons i l ih =>
    simp only [List.map_cons, List.flatMap_cons, List.filter_cons, ih]
    cases hp : p i
    · rfl
    · simp

theorem okLive_eq {n : Nat} {live : List Nat} (h : okLive n live = true) : live = (List.range n).filter fun t => live.contains t := by
  simpa [okLive] using h

theorem cleanup_menv {n : Nat} {live : List Nat} (hl : okLive n live = true) (base : Nat) (h0 h : VH) (f : Nat → Value) : ∃ g : Nat → Value, (cleanup base h0 (live.map f) h).1 = live.map g ∧ cleanup base h0 (Zv.menv live n f) h = (Zv.menv live n g, (cleanup base h0 (live.map f) h).2) := by
  have hk : keepL base (Zv.menv live n f) = keepL base (live.map f) := by
    unfold keepL Zv.menv
    rw [flatMap_if]
    rw [← okLive_eq hl]
  unfold cleanup
  rw [hk]
  by_cases hc : okT base h0 (h.take base) ∧ flatL base (keepL base (live.map f)) h
  · rw [if_pos hc, if_pos hc]
    refine ⟨fun t => tren (renOf base (keepL base (live.map f))) (f t), by simp, ?_⟩
    simp only [Zv.menv, List.map_map]
    congr 1
    apply List.map_congr_left
    intro t _
    simp only [Function.comp]
    split <;> rfl
  · rw [if_neg hc, if_neg hc]
    exact ⟨f, rfl, rfl⟩

theorem fcode_sound {n : Nat} {call : VCall} {nro : Nat} : ∀ (c : FC) (e : FE) (env : List Value) (h : VH) (x : VX) (e' : FE) (h' : VH), c.ok n = true → FRel n e env → fcode call nro c e h = some (x, e', h') →
    ∃ env', vcode call nro (c.vc n) env h = some (x, env', h') ∧ FRel n e' env'
  | .skip, e, env, h, x, e', h', _, hr, hv => by
    simp only [fcode, Option.some.injEq, Prod.mk.injEq] at hv
    obtain ⟨rfl, rfl, rfl⟩ := hv
    exact ⟨env, rfl, hr⟩
  | .ops os, e, env, h, x, e', h', hok, hr, hv => by
    simp only [fcode] at hv
    split at hv
    · rename_i e1 h1 hv1
      simp only [Option.some.injEq, Prod.mk.injEq] at hv
      obtain ⟨rfl, rfl, rfl⟩ := hv
      obtain ⟨env', h2, h3⟩ := fops_sound os _ _ _ _ _ hok hr hv1
      exact ⟨env', by simp only [FC.vc, vcode, h2], h3⟩
    · cases hv
  | .dops os, e, env, h, x, e', h', hok, hr, hv => by
    simp only [fcode] at hv
    split at hv
    · rename_i e1 h1 hv1
      simp only [Option.some.injEq, Prod.mk.injEq] at hv
      obtain ⟨rfl, rfl, rfl⟩ := hv
      obtain ⟨env', h2, h3⟩ := fdops_sound os _ _ _ _ _ _ hok hr hv1
      exact ⟨env', by simp only [FC.vc, vcode, h2], h3⟩
    · cases hv
  | .seq a b, e, env, h, x, e', h', hok, hr, hv => by
    simp only [FC.ok, Bool.and_eq_true] at hok
    simp only [fcode] at hv
    cases hv1 : fcode call nro a e h with
    | none => rw [hv1] at hv; cases hv
    | some q =>
      obtain ⟨x1, e1, h1⟩ := q
      rw [hv1] at hv
      obtain ⟨env1, h2, h3⟩ := fcode_sound a _ _ _ _ _ _ hok.1 hr hv1
      cases x1 with
      | normal =>
        obtain ⟨env2, h4, h5⟩ := fcode_sound b _ _ _ _ _ _ hok.2 h3 hv
        exact ⟨env2, by simp only [FC.vc, vcode, h2, h4], h5⟩
      | exit i =>
        simp only [Option.some.injEq, Prod.mk.injEq] at hv
        obtain ⟨rfl, rfl, rfl⟩ := hv
        exact ⟨env1, by simp only [FC.vc, vcode, h2], h3⟩
      | ret =>
        simp only [Option.some.injEq, Prod.mk.injEq] at hv
        obtain ⟨rfl, rfl, rfl⟩ := hv
        exact ⟨env1, by simp only [FC.vc, vcode, h2], h3⟩
  | .cond y a b, e, env, h, x, e', h', hok, hr, hv => by
    simp only [FC.ok, Bool.and_eq_true] at hok
    simp only [fcode, ← hr.ev hok.1.1] at hv
    simp only [FC.vc, vcode]
    split at hv
    · rename_i hb
      simp only [hb]
      exact fcode_sound a _ _ _ _ _ _ hok.1.2 hr hv
    · rename_i hb
      simp only [hb]
      exact fcode_sound b _ _ _ _ _ _ hok.2 hr hv
    · cases hv
  | .block id c, e, env, h, x, e', h', hok, hr, hv => by
    simp only [fcode] at hv
    cases hv1 : fcode call nro c e h with
    | none => rw [hv1] at hv; cases hv
    | some q =>
      obtain ⟨x1, e1, h1⟩ := q
      rw [hv1] at hv
      obtain ⟨env1, h2, h3⟩ := fcode_sound c _ _ _ _ _ _ hok hr hv1
      simp only [FC.vc, vcode, h2]
      cases x1 with
      | exit i =>
        dsimp only at hv ⊢
        split at hv <;> simp only [Option.some.injEq, Prod.mk.injEq] at hv <;> obtain ⟨rfl, rfl, rfl⟩ := hv
        · rename_i hi
          exact ⟨env1, by rw [if_pos hi], h3⟩
        · rename_i hi
          exact ⟨env1, by rw [if_neg hi], h3⟩
      | _ =>
        simp only [Option.some.injEq, Prod.mk.injEq] at hv
        obtain ⟨rfl, rfl, rfl⟩ := hv
        exact ⟨env1, rfl, h3⟩
  | .loop live c, e, env, h, x, e', h', hok, hr, hv => by
    simp only [FC.ok, Bool.and_eq_true] at hok
    simp only [fcode] at hv
    have key := iter.partial_correctness (fun s : List Value × VH => match fcode call nro c (fl (live.zip s.1)) s.2 with
      | some (.normal, e', h') => some (.inl (cleanup h.length h (live.map e') h'))
      | some r => some (.inr r)
      | none => none) (fun s r => ∀ f, s.1 = live.map f → ∃ env', iter (fun s : List Value × VH => match vcode call nro (c.vc n) s.1 s.2 with
      | some (.normal, env', h') => some (.inl (cleanup h.length h (maskEnv (bm live n) env') h'))
      | some r => some (.inr r)
      | none => none) (Zv.menv live n f, s.2) = some (r.1, env', r.2.2) ∧ FRel n r.2.1 env') ?_ _ _ hv
    · obtain ⟨env', h2, h3⟩ := key e rfl
      refine ⟨env', ?_, h3⟩
      simp only [FC.vc, vcode, hr.mask live]
      exact h2
    · intro it hit s r hs f hf
      split at hs
      · cases hs
      · rename_i s' hs'
        split at hs'
        · rename_i e2 h2 hv2
          simp only [Option.some.injEq, Sum.inl.injEq] at hs'
          subst hs'
          rw [hf] at hv2
          obtain ⟨env2, h4, h5⟩ := fcode_sound c _ (Zv.menv live n f) _ _ _ _ hok.2 (FRel.menv live f) hv2
          obtain ⟨g, h6, h7⟩ := cleanup_menv hok.1 h.length h h2 e2
          obtain ⟨env', h8, h9⟩ := hit _ _ hs g h6
          refine ⟨env', ?_, h9⟩
          rw [iter]
          simp only [h4, h5.mask live, h7]
          exact h8
        · cases hs'
        · cases hs'
      · rename_i r' hr'
        simp only [Option.some.injEq] at hs
        split at hr'
        · cases hr'
        · rename_i q hnn hv2
          simp only [Option.some.injEq, Sum.inr.injEq] at hr'
          have hq : q = r := hr'.trans hs
          subst hq
          obtain ⟨x2, e2, h2⟩ := q
          rw [hf] at hv2
          obtain ⟨env2, h4, h5⟩ := fcode_sound c _ (Zv.menv live n f) _ _ _ _ hok.2 (FRel.menv live f) hv2
          refine ⟨env2, ?_, h5⟩
          rw [iter]
          simp only [h4]
          cases x2 with
          | normal => exact (hnn _ _ rfl).elim
          | exit i => rfl
          | ret => rfl
        · cases hr'
  | .keep live c, e, env, h, x, e', h', hok, hr, hv => by
    simp only [FC.ok, Bool.and_eq_true] at hok
    simp only [fcode] at hv
    obtain ⟨env', h2, h3⟩ := fcode_sound c _ (Zv.menv live n e) _ _ _ _ hok.2 (FRel.menv live e) hv
    exact ⟨env', by simp only [FC.vc, vcode, hr.mask live, h2], h3⟩
  | .exit i, e, env, h, x, e', h', _, hr, hv => by
    simp only [fcode, Option.some.injEq, Prod.mk.injEq] at hv
    obtain ⟨rfl, rfl, rfl⟩ := hv
    exact ⟨env, rfl, hr⟩
  | .ret, e, env, h, x, e', h', _, hr, hv => by
    simp only [fcode, Option.some.injEq, Prod.mk.injEq] at hv
    obtain ⟨rfl, rfl, rfl⟩ := hv
    exact ⟨env, rfl, hr⟩

theorem fresL_eq {n : Nat} {e : FE} {env : List Value} (hr : FRel n e env) (h : VH) : ∀ (rs : List VR), rs.all (ltR n) = true → vresL env h rs = fresL e h rs
  | [], _ => rfl
  | r :: rs, hok => by
    simp only [List.all_cons, Bool.and_eq_true] at hok
    have : vres1 env h r = fres1 e h r := by
      cases r with
      | tmp t => simp only [vres1, fres1]; rw [hr.2 t (by simpa [ltR] using hok.1)]
      | cell t a k => simp only [vres1, fres1]; rw [hr.2 t (by simpa [ltR] using hok.1)]
    simp only [vresL, fresL, this, fresL_eq hr h rs hok.2]
    rfl

/-- A function's call, told by its code. -/
theorem vcall_f {F : Nat → Option Ent} {nro f : Nat} {fn : FF} (hF : F f = some (.ir fn.vf)) (hok : fn.ok = true) {args : List Value} {h : VH} (ha : args.length ≤ fn.ntmps) {r : Value × VH} (hr : fbody (vcall F nro) nro fn args h = some r) : vcall F nro f args h = some r := by
  rw [vcall, vstep]
  simp only [hF]
  unfold fbody at hr
  unfold FF.ok at hok
  simp only [Bool.and_eq_true] at hok
  cases hv1 : fcode (vcall F nro) nro fn.body (fargs args) h with
  | none => rw [hv1] at hr; cases hr
  | some q =>
    obtain ⟨x, e, h1⟩ := q
    rw [hv1] at hr
    have h0 : FRel fn.ntmps (fargs args) (env0 fn.vf args) := by
      refine ⟨by simp [env0, FF.vf]; omega, fun t ht => ?_⟩
      unfold env0 fargs
      simp only [List.getD_eq_getElem?_getD]
      by_cases h1 : t < args.length
      · rw [List.getElem?_append_left h1]
      · rw [List.getElem?_append_right (by omega), List.getElem?_eq_none (Nat.le_of_not_lt h1)]
        simp only [List.getElem?_replicate]
        split <;> rfl
    obtain ⟨env, h2, h3⟩ := fcode_sound fn.body _ _ _ _ _ _ hok.1 h0 hv1
    have e1 : vbody (fun g as h' => vcall F nro g as h') nro fn.vf args h = (match some (x, env, h1) with
      | some (.exit _, _, _) => none
      | some (_, env, h') => match vresults env h' fn.res with
        | some v => some (((cleanup h.length h [v] h').1).getD 0 undef, (cleanup h.length h [v] h').2)
        | none => none
      | none => none) := by
      unfold vbody
      have : vcode (fun g as h' => vcall F nro g as h') nro fn.vf.body (env0 fn.vf args) h = some (x, env, h1) := h2
      rw [this]
      rfl
    rw [e1]
    have e2 : vresults env h1 fn.res = fresults e h1 fn.res := by
      unfold vresults fresults
      rw [fresL_eq h3 h1 fn.res hok.2]
      rfl
    cases x with
    | exit i => cases hr
    | _ =>
      simp only [e2]
      simp only at hr
      rw [← hr]
      cases fresults e h1 fn.res <;> rfl
end Go.Proofs.YthpgiimaadohcaaDoor.Zv
