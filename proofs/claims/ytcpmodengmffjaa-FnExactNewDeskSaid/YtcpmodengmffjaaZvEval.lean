/- The interpreter, made for the kernel to run: calls whose arguments are all known. -/
import Derived.Test.YtcpmodengmffjaaZvF
namespace Go.Proofs.Ytcpmodengmffjaa.Zv
open Go

/-! ### same values -/
def aeqb : Value → Value → Bool
  | .bool a, .bool b => a == b
  | .int k a, .int k' b => k == k' && a == b
  | .pointer none, .pointer none => true
  | .pointer (some a), .pointer (some b) => a == b
  | .slice none n c, .slice none n' c' => Nat.beq n n' && Nat.beq c c'
  | .slice (some a) n c, .slice (some b) n' c' => a == b && Nat.beq n n' && Nat.beq c c'
  | _, _ => false
def aeqbL : List Value → List Value → Bool
  | [], [] => true
  | a :: as, b :: bs => aeqb a b && aeqbL as bs
  | _, _ => false
def veqb : Value → Value → Bool
  | .agg a, .agg b => aeqbL a.toList b.toList
  | a, b => aeqb a b

theorem aeqb_sound {a b : Value} (h : aeqb a b = true) : a = b := by
  unfold aeqb at h
  split at h
  · rw [eq_of_beq h]
  · simp only [Bool.and_eq_true] at h
    rw [eq_of_beq h.1, eq_of_beq h.2]
  · rfl
  · rw [eq_of_beq h]
  · simp only [Bool.and_eq_true] at h
    rw [Nat.eq_of_beq_eq_true h.1, Nat.eq_of_beq_eq_true h.2]
  · simp only [Bool.and_eq_true] at h
    rw [eq_of_beq h.1.1, Nat.eq_of_beq_eq_true h.1.2, Nat.eq_of_beq_eq_true h.2]
  · cases h
theorem aeqbL_sound : ∀ {a b : List Value}, aeqbL a b = true → a = b
  | [], [], _ => rfl
  | a :: as, b :: bs, h => by
    simp only [aeqbL, Bool.and_eq_true] at h
    rw [aeqb_sound h.1, aeqbL_sound h.2]
  | [], _ :: _, h => by cases h
  | _ :: _, [], h => by cases h
theorem veqb_sound {a b : Value} (h : veqb a b = true) : a = b := by
  unfold veqb at h
  split at h
  · have := aeqbL_sound h
    rename_i x y
    cases x; cases y
    simp_all
  · exact aeqb_sound h

/-! ### garbage -/
def lessAll (base : Nat) : List Nat → Bool
  | [] => true
  | r :: rs => Nat.blt r base && lessAll base rs
def okTb (base : Nat) : VH → Bool
  | [] => true
  | o :: t => lessAll base (orefs o) && okTb base t
def flatLb (base : Nat) (h : VH) : List Nat → Bool
  | [] => true
  | i :: L => (match h[i]? with
    | some o => lessAll base (orefs o)
    | none => false) && flatLb base h L

theorem lessAll_sound {base : Nat} : ∀ {l : List Nat}, lessAll base l = true → ∀ r ∈ l, r < base
  | [], _, r, hr => by cases hr
  | a :: l, h, r, hr => by
    simp only [lessAll, Bool.and_eq_true] at h
    rcases List.mem_cons.mp hr with rfl | hr
    · have := Nat.le_of_ble_eq_true h.1
      omega
    · exact lessAll_sound h.2 r hr
theorem okTb_sound {base : Nat} : ∀ {t : VH}, okTb base t = true → ∀ o ∈ t, ∀ r ∈ orefs o, r < base
  | [], _, o, ho => by cases ho
  | a :: l, h, o, ho => by
    simp only [okTb, Bool.and_eq_true] at h
    rcases List.mem_cons.mp ho with rfl | ho
    · exact lessAll_sound h.1
    · exact okTb_sound h.2 o ho
theorem flatLb_sound {base : Nat} {h : VH} : ∀ {L : List Nat}, flatLb base h L = true → flatL base L h
  | [], _, i, hi => by cases hi
  | a :: l, hh, i, hi => by
    simp only [flatLb, Bool.and_eq_true] at hh
    rcases List.mem_cons.mp hi with rfl | hi
    · have h1 := hh.1
      split at h1
      · rename_i o ho
        exact ⟨o, ho, lessAll_sound h1⟩
      · cases h1
    · exact flatLb_sound hh.2 i hi

/-- An object that leads to one from base on, and lay there otherwise before. -/
def okTn (base : Nat) : VH → VH → Bool
  | _, [] => false
  | [], o :: t => !lessAll base (orefs o) || okTn base [] t
  | o0 :: h0, o :: t => (!lessAll base (orefs o) && !Nat.beq o0.cells.length o.cells.length) || okTn base h0 t

theorem lessAll_of {base : Nat} : ∀ {l : List Nat}, (∀ r ∈ l, r < base) → lessAll base l = true
  | [], _ => rfl
  | a :: l, h => by
    simp only [lessAll, Bool.and_eq_true]
    exact ⟨Nat.ble_eq_true_of_le (h a (List.mem_cons_self ..)), lessAll_of fun r hr => h r (List.mem_cons_of_mem _ hr)⟩
theorem flatLb_of {base : Nat} {h : VH} : ∀ {L : List Nat}, flatL base L h → flatLb base h L = true
  | [], _ => rfl
  | a :: l, hh => by
    simp only [flatLb, Bool.and_eq_true]
    obtain ⟨o, ho, hr⟩ := hh a (List.mem_cons_self ..)
    refine ⟨?_, flatLb_of fun i hi => hh i (List.mem_cons_of_mem _ hi)⟩
    rw [ho]
    exact lessAll_of hr
theorem okTn_sound {base : Nat} : ∀ {h0 t : VH}, okTn base h0 t = true → ¬ okT base h0 t
  | _, [], h => by unfold okTn at h; cases h
  | [], o :: t, h => by
    intro hk
    simp only [okTn, Bool.or_eq_true] at h
    rcases h with h | h
    · rcases hk 0 o rfl with h1 | h1
      · cases h1
      · rw [lessAll_of h1] at h; cases h
    · exact okTn_sound h fun i o' ho => by
        rcases hk (i + 1) o' ho with h1 | h1
        · simp at h1
        · exact .inr h1
  | o0 :: h0, o :: t, h => by
    intro hk
    simp only [okTn, Bool.or_eq_true] at h
    rcases h with h | h
    · rw [Bool.and_eq_true] at h
      rcases hk 0 o rfl with h1 | h1
      · simp only [List.getElem?_cons_zero, Option.some.injEq] at h1
        have h2 := h.2
        rw [h1] at h2
        simp at h2
      · rw [lessAll_of h1] at h; cases h.1
    · exact okTn_sound h fun i o' ho => hk (i + 1) o' ho

def xcleanup (base : Nat) (h0 : VH) (vs : List Value) (h : VH) : Option (List Value × VH) :=
  if flatLb base h (keepL base vs) then
    if okTb base (h.take base) then
      some (vs.map (tren (renOf base (keepL base vs))), h.take base ++ (keepL base vs).filterMap (fun i => h[i]?))
    else if okTn base h0 (h.take base) then some (vs, h) else none
  else some (vs, h)
theorem xcleanup_sound {base : Nat} {h0 : VH} {vs : List Value} {h : VH} {r : List Value × VH} (hr : xcleanup base h0 vs h = some r) : cleanup base h0 vs h = r := by
  unfold xcleanup at hr
  split at hr
  · rename_i hc
    split at hr
    · rename_i hd
      cases hr
      unfold cleanup
      rw [if_pos]
      refine ⟨fun i o hi => .inr (okTb_sound hd o ?_), flatLb_sound hc⟩
      exact List.mem_of_getElem? hi
    · split at hr
      · rename_i hn
        cases hr
        unfold cleanup
        rw [if_neg fun h => okTn_sound hn h.1]
      · cases hr
  · rename_i hc
    cases hr
    unfold cleanup
    rw [if_neg fun h => hc (flatLb_of h.2)]

/-! ### code -/
/-- The operation reads the same in elder heaps. -/
def sameAll (call : VCall) (nro : Nat) (e : FE) (op : VOp) (v : Value) : List VH → Bool
  | [] => true
  | g :: gs => (match vop call nro (fev e) g op with
    | some (w, _) => veqb w v
    | none => false) && sameAll call nro e op v gs

theorem vop_pure {call : VCall} {nro : Nat} {ev : Operand → Value} {h : VH} {op : VOp} {r : Value × VH} (he : op.eff = false) (hr : vop call nro ev h op = some r) : r.2 = h := by
  cases op <;> simp only [VOp.eff, Bool.true_eq_false] at he <;> (try cases he) <;> simp only [vop] at hr
  all_goals (repeat' (split at hr)) <;> first | (cases hr; done) | (cases hr; rfl) | (rw [Option.map_eq_some_iff] at hr; obtain ⟨_, _, rfl⟩ := hr; rfl)

theorem sameAll_sound {call : VCall} {nro : Nat} {e : FE} {op : VOp} {v : Value} (he : op.eff = false) : ∀ {l : List VH}, sameAll call nro e op v l = true → ∀ g ∈ l, vop call nro (fev e) g op = some (v, g)
  | [], _, g, hg => by cases hg
  | a :: l, h, g, hg => by
    simp only [sameAll, Bool.and_eq_true] at h
    rcases List.mem_cons.mp hg with rfl | hg
    · have h1 := h.1
      split at h1
      · rename_i w h' hw
        have h2 := vop_pure he hw
        rw [hw, veqb_sound h1]
        simp only at h2
        rw [h2]
      · cases h1
    · exact sameAll_sound he h.2 g hg

def xdops (call : VCall) (nro : Nat) : List VOper → FE → VH → List VH → Option (FE × VH)
  | [], e, h, _ => some (e, h)
  | o :: os, e, h, hs =>
    match fwanted e o.guard with
    | some true => match vop call nro (fev e) h o.op with
      | some (v, h') =>
        if o.op.eff = true then xdops call nro os (fput e o.dst v) h' (h :: hs)
        else if sameAll call nro e o.op v (hs.take o.chk) = true then xdops call nro os (fput e o.dst v) h' hs else none
      | none => none
    | some false => xdops call nro os (fput e o.dst undef) h (if o.op.eff = true then h :: hs else hs)
    | none => none

def xiter {α β : Type} (f : α → Option (α ⊕ β)) : Nat → α → Option β
  | 0, _ => none
  | n + 1, a => match f a with
    | none => none
    | some (.inl a') => xiter f n a'
    | some (.inr b) => some b

def xcode (call : VCall) (nro k : Nat) : FC → FE → VH → Option (VX × FE × VH)
  | .skip, e, h => some (.normal, e, h)
  | .ops os, e, h => match fops call nro os e h with
    | some (e', h') => some (.normal, e', h')
    | none => none
  | .dops os, e, h => match xdops call nro os e h [] with
    | some (e', h') => some (.normal, e', h')
    | none => none
  | .seq a b, e, h => match xcode call nro k a e h with
    | some (.normal, e', h') => xcode call nro k b e' h'
    | r => r
  | .cond x a b, e, h => match fev e x with
    | .bool true => xcode call nro k a e h
    | .bool false => xcode call nro k b e h
    | _ => none
  | .block id c, e, h => match xcode call nro k c e h with
    | some (.exit id', e', h') => if id' = id then some (.normal, e', h') else some (.exit id', e', h')
    | r => r
  | .loop live c, e, h =>
    xiter (fun s : List Value × VH => match xcode call nro k c (fl (live.zip s.1)) s.2 with
      | some (.normal, e', h') => match xcleanup h.length h (live.map e') h' with
        | some r => some (.inl r)
        | none => none
      | some r => some (.inr r)
      | none => none) k (live.map e, h)
  | .keep live c, e, h => xcode call nro k c (fl (live.zip (live.map e))) h
  | .exit id, e, h => some (.exit id, e, h)
  | .ret, e, h => some (.ret, e, h)

def xend (h : VH) : Option Value → VH → Option (Value × VH)
  | some v, h' => match xcleanup h.length h [v] h' with
    | some r => some (r.1.getD 0 undef, r.2)
    | none => none
  | none, _ => none

def xbody (call : VCall) (nro k : Nat) (fn : FF) (args : List Value) (h : VH) : Option (Value × VH) :=
  match xcode call nro k fn.body (fargs args) h with
  | some (.exit _, _, _) => none
  | some (_, e, h') => xend h (fresults e h' fn.res) h'
  | none => none

def xcall (T : List (Nat × FF)) (nro k : Nat) : Nat → VCall
  | 0 => fun _ _ _ => none
  | n + 1 => fun f args h => match T.lookup f with
    | some fn => if Nat.ble args.length fn.ntmps = true then xbody (xcall T nro k n) nro k fn args h else none
    | none => none

/-! ### the same -/
theorem fops_le {c c' : VCall} (hc : CallLe c c') (nro : Nat) : ∀ (os : List VOper) (e : FE) (h : VH) (r : FE × VH), fops c nro os e h = some r → fops c' nro os e h = some r
  | [], _, _, _, hr => hr
  | o :: os, e, h, r, hr => by
    simp only [fops] at hr ⊢
    split at hr
    · split at hr
      · rename_i v h' hv
        rw [vop_le hc _ _ _ _ _ hv]
        exact fops_le hc nro os _ _ _ hr
      · cases hr
    · exact fops_le hc nro os _ _ _ hr
    · cases hr

theorem xdops_sound {c c' : VCall} (hc : CallLe c c') (nro : Nat) : ∀ (os : List VOper) (e : FE) (h : VH) (hs : List VH) (r : FE × VH), xdops c nro os e h hs = some r → fdops c' nro os e h hs = some r
  | [], _, _, _, _, hr => hr
  | o :: os, e, h, hs, r, hr => by
    simp only [xdops] at hr
    simp only [fdops]
    cases hg : fwanted e o.guard with
    | none => rw [hg] at hr; cases hr
    | some b =>
      rw [hg] at hr
      cases b with
      | false => exact xdops_sound hc nro os _ _ _ _ hr
      | true =>
        simp only at hr ⊢
        split at hr
        · rename_i v h' hv
          simp only [vop_le hc _ _ _ _ _ hv]
          split at hr
          · rename_i he
            rw [if_pos he]
            exact xdops_sound hc nro os _ _ _ _ hr
          · rename_i he
            rw [if_neg he]
            split at hr
            · rename_i hh
              rw [if_pos fun g hg => vop_le hc _ _ _ _ _ (sameAll_sound (by simpa using he) hh g hg)]
              exact xdops_sound hc nro os _ _ _ _ hr
            · cases hr
        · cases hr

theorem xiter_sound {α β : Type} {f g : α → Option (α ⊕ β)} (hf : ∀ a r, f a = some r → g a = some r) : ∀ (n : Nat) (a : α) (b : β), xiter f n a = some b → iter g a = some b
  | 0, _, _, h => by cases h
  | n + 1, a, b, h => by
    simp only [xiter] at h
    rw [iter]
    split at h
    · cases h
    · rename_i a' ha
      rw [hf _ _ ha]
      exact xiter_sound hf n _ _ h
    · rename_i b' ha
      rw [hf _ _ ha]
      exact h

theorem xcode_sound {c c' : VCall} (hc : CallLe c c') (nro k : Nat) : ∀ (x : FC) (e : FE) (h : VH) (r : VX × FE × VH), xcode c nro k x e h = some r → fcode c' nro x e h = some r
  | .skip, _, _, _, hr => hr
  | .ops os, e, h, r, hr => by
    simp only [xcode] at hr
    simp only [fcode]
    split at hr
    · rename_i hv; rw [fops_le hc nro _ _ _ _ hv]; exact hr
    · cases hr
  | .dops os, e, h, r, hr => by
    simp only [xcode] at hr
    simp only [fcode]
    split at hr
    · rename_i hv; rw [xdops_sound hc nro _ _ _ _ _ hv]; exact hr
    · cases hr
  | .seq a b, e, h, r, hr => by
    simp only [xcode] at hr
    simp only [fcode]
    cases hv : xcode c nro k a e h with
    | none => rw [hv] at hr; cases hr
    | some q =>
      rw [xcode_sound hc nro k a _ _ _ hv]
      rw [hv] at hr
      obtain ⟨x, e', h'⟩ := q
      cases x with
      | normal => exact xcode_sound hc nro k b _ _ _ hr
      | exit _ => exact hr
      | ret => exact hr
  | .cond x a b, e, h, r, hr => by
    simp only [xcode] at hr
    simp only [fcode]
    generalize fev e x = v at hr ⊢
    split at hr
    · exact xcode_sound hc nro k a _ _ _ hr
    · exact xcode_sound hc nro k b _ _ _ hr
    · cases hr
  | .block id x, e, h, r, hr => by
    simp only [xcode] at hr
    simp only [fcode]
    cases hv : xcode c nro k x e h with
    | none => rw [hv] at hr; cases hr
    | some q => rw [xcode_sound hc nro k x _ _ _ hv]; rw [hv] at hr; exact hr
  | .loop live x, e, h, r, hr => by
    simp only [xcode] at hr
    simp only [fcode]
    refine xiter_sound (fun s q hq => ?_) _ _ _ hr
    cases hv : xcode c nro k x (fl (live.zip s.1)) s.2 with
    | none => rw [hv] at hq; cases hq
    | some p =>
      rw [xcode_sound hc nro k x _ _ _ hv]
      rw [hv] at hq
      obtain ⟨y, e', h'⟩ := p
      cases y with
      | normal =>
        simp only at hq
        split at hq
        · rename_i w hw
          rw [← hq]
          simp only [xcleanup_sound hw]
        · cases hq
      | exit _ => exact hq
      | ret => exact hq
  | .keep live x, e, h, r, hr => by
    simp only [xcode] at hr
    simp only [fcode]
    exact xcode_sound hc nro k x _ _ _ hr
  | .exit _, _, _, _, hr => hr
  | .ret, _, _, _, hr => hr

theorem xbody_sound {c c' : VCall} (hc : CallLe c c') (nro k : Nat) (fn : FF) (args : List Value) (h : VH) (r : Value × VH) (hr : xbody c nro k fn args h = some r) : fbody c' nro fn args h = some r := by
  unfold xbody at hr
  unfold fbody
  cases hv : xcode c nro k fn.body (fargs args) h with
  | none => rw [hv] at hr; cases hr
  | some q =>
    rw [xcode_sound hc nro k _ _ _ _ hv]
    rw [hv] at hr
    obtain ⟨y, e', h'⟩ := q
    have key : xend h (fresults e' h' fn.res) h' = some r → fend h (fresults e' h' fn.res) h' = some r := by
      generalize fresults e' h' fn.res = w
      intro hw
      cases w with
      | none => cases hw
      | some v =>
        simp only [xend] at hw
        split at hw
        · rename_i q hq
          simp only [fend, xcleanup_sound hq]
          exact hw
        · cases hw
    cases y with
    | exit _ => cases hr
    | normal => exact key hr
    | ret => exact key hr

theorem xcall_sound {T : List (Nat × FF)} {F : Nat → Option Ent} {nro k : Nat} (hT : ∀ f fn, T.lookup f = some fn → F f = some (.ir fn.vf) ∧ fn.ok = true) : ∀ n, CallLe (xcall T nro k n) (vcall F nro)
  | 0 => fun f as h r hr => by cases hr
  | n + 1 => fun f as h r hr => by
    simp only [xcall] at hr
    split at hr
    · rename_i fn hfn
      split at hr
      · rename_i hle
        obtain ⟨h1, h2⟩ := hT f fn hfn
        exact vcall_f h1 h2 (Nat.le_of_ble_eq_true hle) (xbody_sound (xcall_sound hT n) nro k fn as h r hr)
      · cases hr
    · cases hr
end Go.Proofs.Ytcpmodengmffjaa.Zv
