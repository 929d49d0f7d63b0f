/- Code, and calls. -/
import Derived.Test.YthpgiimaadohcaaDoorZvClean
namespace Go.Proofs.YthpgiimaadohcaaDoor.Zv
open Go

/-- The intermediate form of code; a loop's mask is taken from a hint. -/
def compC (P : Program) (D : Array Oper → Option (List VOper)) : VC → Code → Option VC
  | .skip, .skip => some .skip
  | .ops _, .region _ ops false => (compOps P ops ops.toList).map .ops
  | .dops _, .region _ ops true => (D ops).map .dops
  | .seq x y, .seq a b => match compC P D x a, compC P D y b with
    | some a', some b' => some (.seq a' b')
    | _, _ => none
  | .cond _ x y, .cond c a b => if okOpd c then match compC P D x a, compC P D y b with
    | some a', some b' => some (.cond c a' b')
    | _, _ => none else none
  | .block _ x, .block id c => (compC P D x c).map (.block id)
  | .loop mask x, .loop c => (compC P D x c).map (.loop mask)
  | .exit _, .exit id => some (.exit id)
  | .ret, .ret => some .ret
  | .keep mask x, c => (compC P D x c).map (.keep mask)
  | _, _ => none

def exR : VX → Exit → Prop
  | .normal, .normal => True
  | .exit i, .exit j => i = j
  | .ret, .ret => True
  | _, _ => False

section
variable {P : Program} {nro : Nat} {call : VCall}

/-- Where code has come to. -/
def CP (nro : Nat) (φ : Em) (h : VH) (w : World) (a : Act) (e : VX) (env' : List Value) (h' : VH) : Exit → Act → World → Prop := fun ex a' w' =>
  exR e ex ∧ ∃ φ', RH nro φ' h'.ph w' ∧ RE φ' h'.ph env' a' ∧ X nro φ h.ph w φ' h'.ph w' ∧ a'.defers = a.defers

theorem CP.trans {φ φ1 : Em} {h h1 h' : VH} {w w1 : World} {a a1 : Act} {e : VX} {env' : List Value} {ex : Exit} {a' : Act} {w' : World} (hX : X nro φ h.ph w φ1 h1.ph w1) (hd : a1.defers = a.defers) (h2 : CP nro φ1 h1 w1 a1 e env' h' ex a' w') : CP nro φ h w a e env' h' ex a' w' := by
  obtain ⟨h3, φ', h4, h5, h6, h7⟩ := h2
  exact ⟨h3, φ', h4, h5, hX.trans h6, h7.trans hd⟩

/-- A region whose order is open is told right. -/
def DSound (P : Program) (nro : Nat) (call : VCall) (D : Array Oper → Option (List VOper)) : Prop := ∀ ops vs, D ops = some vs → ∀ (id : Nat) (φ : Em) (h : VH) (w : World) (env : List Value) (a : Act) (env' : List Value) (h' : VH), nro ≤ h.length → RH nro φ h.ph w → RE φ h.ph env a →
  vdops call nro vs env h [] = some (env', h') → (Code.region id ops true).wp P (CP nro φ h w a .normal env' h') a w

theorem RE.mask {φ : Em} {L : PH} : ∀ (m : List Bool) (env : List Value) (l : List Value), All2 (TopR φ L) env l → All2 (TopR φ L) (maskEnv m env) l
  | [], _, _, .nil => .nil
  | [], _, _, .cons h t => by
    simp only [maskEnv, List.map_cons]
    exact .cons (AtomR.junk _ _).top (by simpa [maskEnv] using RE.mask [] _ _ t)
  | b :: m, _, _, .nil => .nil
  | b :: m, _, _, .cons h t => by
    simp only [maskEnv]
    refine .cons ?_ (RE.mask m _ _ t)
    cases b
    · exact (AtomR.junk _ _).top
    · exact h

theorem vcode_wp (hS : CallSound P nro call) {D : Array Oper → Option (List VOper)} (hD : DSound P nro call D) : ∀ (x : VC) (c : Code) (vc : VC), compC P D x c = some vc →
    ∀ (φ : Em) (h : VH) (w : World) (env : List Value) (a : Act) (e : VX) (env' : List Value) (h' : VH), nro ≤ h.length → RH nro φ h.ph w → RE φ h.ph env a → vcode call nro vc env h = some (e, env', h') → c.wp P (CP nro φ h w a e env' h') a w := by
  intro x c vc hc
  fun_induction compC P D x c generalizing vc with
  | case1 =>
    cases hc
    intro φ h w env a e env' h' hnr hR hE hv
    simp only [vcode, Option.some.injEq, Prod.mk.injEq] at hv
    obtain ⟨rfl, rfl, rfl⟩ := hv
    exact wp_skip ⟨trivial, φ, hR, hE, .refl _ _ _ _, rfl⟩
  | case2 os id ops =>
    obtain ⟨vs, hvs, rfl⟩ := mapS hc
    intro φ h w env a e env' h' hnr hR hE hv
    simp only [vcode] at hv
    split at hv
    · rename_i env1 h1 hv1
      simp only [Option.some.injEq, Prod.mk.injEq] at hv
      obtain ⟨rfl, rfl, rfl⟩ := hv
      refine wp_region ?_
      have := vops_wp hS ops (CP nro φ h w a .normal env1 h1) ops.toList vs 0 rfl hvs φ h w env a env1 h1 hnr hR hE hv1 fun φ' a' w' h2 h3 h4 h5 => ⟨trivial, φ', h2, h3, h4, h5⟩
      rw [List.range_eq_range']
      simpa using this
    · cases hv
  | case3 os id ops =>
    obtain ⟨vs, hvs, rfl⟩ := mapS hc
    intro φ h w env a e env' h' hnr hR hE hv
    simp only [vcode] at hv
    split at hv
    · rename_i env1 h1 hv1
      simp only [Option.some.injEq, Prod.mk.injEq] at hv
      obtain ⟨rfl, rfl, rfl⟩ := hv
      exact hD ops vs hvs id φ h w env a _ _ hnr hR hE hv1
    · cases hv
  | case4 x y a b a' ha' b' hb' iha ihb =>
    cases hc
    intro φ h w env ac e env' h' hnr hR hE hv
    simp only [vcode] at hv
    refine wp_seq ?_
    split at hv
    · rename_i env1 h1 hv1
      refine wp_mono (iha _ hb' φ h w env ac _ _ _ hnr hR hE hv1) fun ex a1 w1 hcp => ?_
      obtain ⟨hex, φ1, hR1, hE1, hX1, hd1⟩ := hcp
      cases ex <;> simp only [exR] at hex
      exact wp_mono (ihb _ ‹_› φ1 h1 w1 env1 a1 _ _ _ (Nat.le_trans hnr hX1.len) hR1 hE1 hv) fun ex a2 w2 h2 => CP.trans hX1 hd1 h2
    · rename_i hn
      cases hv1 : vcode call nro a' env h with
      | none => rw [hv1] at hv; cases hv
      | some q =>
        obtain ⟨e1, env1, h1⟩ := q
        rw [hv1] at hv
        simp only [Option.some.injEq, Prod.mk.injEq] at hv
        obtain ⟨rfl, rfl, rfl⟩ := hv
        refine wp_mono (iha _ hb' φ h w env ac _ _ _ hnr hR hE hv1) fun ex a1 w1 hcp => ?_
        have hex := hcp.1
        cases ex with
        | normal =>
          cases e1 with
          | normal => exact absurd hv1 (hn _ _)
          | exit _ => cases hex
          | ret => cases hex
        | _ => exact hcp
  | case5 => cases hc
  | case6 =>
    rename_i x0 x1 y1 c a1 b1 hok a2 b2 hb2 ha2 iha ihb
    cases hc
    intro φ h w env ac e env' h' hnr hR hE hv
    simp only [vcode] at hv
    have ex := hE.ev hok
    split at hv
    · rename_i e1
      rw [e1] at ex
      exact wp_cond_true ex.inv_bool (iha _ ha2 φ h w env ac _ _ _ hnr hR hE hv)
    · rename_i e1
      rw [e1] at ex
      exact wp_cond_false ex.inv_bool (ihb _ hb2 φ h w env ac _ _ _ hnr hR hE hv)
    · cases hv
  | case7 => cases hc
  | case8 => cases hc
  | case9 =>
    rename_i id0 x1 id c ih
    obtain ⟨c', hc', rfl⟩ := mapS hc
    intro φ h w env ac e env' h' hnr hR hE hv
    simp only [vcode] at hv
    refine wp_block ?_
    split at hv
    · rename_i id' env1 h1 hv1
      refine wp_mono (ih _ hc' φ h w env ac _ _ _ hnr hR hE hv1) fun ex a1 w1 hcp => ?_
      obtain ⟨hex, hrest⟩ := hcp
      cases ex <;> simp only [exR] at hex
      subst hex
      simp only [Exit.inBlock]
      split at hv
      · rename_i hid
        simp only [Option.some.injEq, Prod.mk.injEq] at hv
        obtain ⟨rfl, rfl, rfl⟩ := hv
        rw [if_pos hid]
        exact ⟨trivial, hrest⟩
      · rename_i hid
        simp only [Option.some.injEq, Prod.mk.injEq] at hv
        obtain ⟨rfl, rfl, rfl⟩ := hv
        rw [if_neg hid]
        exact ⟨rfl, hrest⟩
    · rename_i hn
      refine wp_mono (ih _ hc' φ h w env ac _ _ _ hnr hR hE hv) fun ex a1 w1 hcp => ?_
      have hex := hcp.1
      cases ex with
      | exit j =>
        cases e with
        | exit i => exact absurd hv (hn _ _ _)
        | normal => cases hex
        | ret => cases hex
      | _ => exact hcp
  | case10 =>
    rename_i mask x1 c ih
    obtain ⟨c', hc', rfl⟩ := mapS hc
    intro φ h w env ac e env' h' hnr hR hE hv
    simp only [vcode] at hv
    intro b k cs
    have key := iter.partial_correctness (fun s : List Value × VH => match vcode call nro c' s.1 s.2 with
      | some (.normal, env', h') => some (.inl (cleanup h.length h (maskEnv mask env') h'))
      | some r => some (.inr r)
      | none => none) (fun s r => ∀ φ1 a1 w1, RH nro φ1 (VH.ph s.2) w1 → RE φ1 (VH.ph s.2) s.1 a1 → X nro φ h.ph w φ1 (VH.ph s.2) w1 → a1.defers = ac.defers →
        ∃ ex a' w', CP nro φ h w ac r.1 r.2.1 r.2.2 ex a' w' ∧ Arrives P (lone (b.at a1 (.code c :: .inLoop c :: k)) cs w1) b k cs ex a' w') ?_ _ _ hv
    · obtain ⟨ex, a', w', h1, h2⟩ := key φ ac w hR (RE.mask mask _ _ hE) (.refl _ _ _ _) rfl
      exact ⟨ex, a', w', h1, .of_steps (.one step_loop) h2⟩
    · intro it hit s r hs φ1 a1 w1 hR1 hE1 hX1 hd1
      have hn1 : nro ≤ s.2.length := Nat.le_trans hnr hX1.len
      split at hs
      · cases hs
      · rename_i s' hs'
        split at hs'
        · rename_i env2 h2 hv2
          simp only [Option.some.injEq, Sum.inl.injEq] at hs'
          subst hs'
          obtain ⟨ex, a2, w2, hcp, harr⟩ := ih _ hc' φ1 s.2 w1 s.1 a1 _ _ _ hn1 hR1 hE1 hv2 b (.inLoop c :: k) cs
          obtain ⟨hex, φ2, hR2, hE2, hX2, hd2⟩ := hcp
          cases ex <;> simp only [exR] at hex
          obtain ⟨φ3, hR3, hX3, hE3⟩ := cleanup_sound hR (hX1.trans hX2) hR2 (RE.mask mask _ _ hE2) hnr
          obtain ⟨ex, a', w', h3, h4⟩ := hit _ _ hs φ3 a2 w2 hR3 hE3 hX3 (hd2.trans hd1)
          exact ⟨ex, a', w', h3, .of_steps (Steps.trans harr (.one step_inLoop)) h4⟩
        · cases hs'
        · cases hs'
      · rename_i r' hr'
        simp only [Option.some.injEq] at hs
        split at hr'
        · cases hr'
        · rename_i q hnn hv2
          simp only [Option.some.injEq, Sum.inr.injEq] at hr'
          have hq : q = r := hr'.trans hs
          subst hq
          obtain ⟨e2, env2, h2⟩ := q
          obtain ⟨ex, a2, w2, hcp, harr⟩ := ih _ hc' φ1 s.2 w1 s.1 a1 _ _ _ hn1 hR1 hE1 hv2 b (.inLoop c :: k) cs
          have hex := hcp.1
          refine ⟨ex, a2, w2, CP.trans hX1 hd1 hcp, ?_⟩
          refine .pass (x := .inLoop c) rfl (fun _ _ => .inl ?_) harr
          rintro rfl
          cases e2 with
          | normal => exact hnn _ _ rfl
          | exit _ => cases hex
          | ret => cases hex
        · cases hr'
  | case11 =>
    cases hc
    intro φ h w env a e env' h' hnr hR hE hv
    simp only [vcode, Option.some.injEq, Prod.mk.injEq] at hv
    obtain ⟨rfl, rfl, rfl⟩ := hv
    exact wp_exit ⟨rfl, φ, hR, hE, .refl _ _ _ _, rfl⟩
  | case12 =>
    cases hc
    intro φ h w env a e env' h' hnr hR hE hv
    simp only [vcode, Option.some.injEq, Prod.mk.injEq] at hv
    obtain ⟨rfl, rfl, rfl⟩ := hv
    exact wp_ret ⟨trivial, φ, hR, hE, .refl _ _ _ _, rfl⟩
  | case13 =>
    rename_i mask x1 c ih
    obtain ⟨c', hc', rfl⟩ := mapS hc
    intro φ h w env ac e env' h' hnr hR hE hv
    simp only [vcode] at hv
    exact ih _ hc' φ h w _ ac _ _ _ hnr hR (RE.mask mask _ _ hE) hv
  | case14 => cases hc

def resF (tmps : Array Value) : ResultVar → Sem Value := fun
  | .tmp t => pure (tmps.getD t undef)
  | .cell q t => do loadVar t (← asAddr (tmps.getD q undef))

/-- A function's results. -/
theorem vres_run {φ : Em} {h : VH} {w : World} {env : List Value} {a : Act} (hR : RH nro φ h.ph w) (hE : RE φ h.ph env a) : ∀ (rs : List ResultVar) (vr : List VR) (vs : List Value), compResL P rs = some vr → vresL env h vr = some vs →
    ∃ us, (rs.mapM (resF a.tmps)).run P w = .ok us w ∧ All2 (TopR φ h.ph) vs us
  | [], vr, vs, hc, hv => by
    cases hc
    cases hv
    exact ⟨[], rfl, .nil⟩
  | r :: rs, vr, vs, hc, hv => by
    simp only [compResL] at hc
    split at hc
    · rename_i x xs hx hxs
      cases hc
      simp only [vresL] at hv
      split at hv
      · rename_i u us hu hus
        cases hv
        obtain ⟨us', h1, h2⟩ := vres_run hR hE rs xs us hxs hus
        have key : ∃ u', (resF a.tmps r).run P w = .ok u' w ∧ TopR φ h.ph u u' := by
          cases r with
          | tmp t =>
            cases hx
            simp only [vres1, Option.some.injEq] at hu
            subst hu
            exact ⟨_, rfl, hE.get t⟩
          | cell q t =>
            simp only [compRes] at hx
            have hp := hE.get q
            split at hx
            · rename_i n ha hn
              cases hx
              simp only [vres1] at hu
              obtain ⟨p, z, e1, e2, e3⟩ := run_loadVar_of (P := P) ha hn (fun h => by cases h) hR hp hu
              exact ⟨z, by simp [resF, e1, asAddr, e2], .val e3⟩
            · rename_i ha hn
              cases hx
              simp only [vres1] at hu
              obtain ⟨p, z, e1, e2, e3⟩ := run_loadVar_of (P := P) ha hn (fun _ => rfl) hR hp hu
              exact ⟨z, by simp [resF, e1, asAddr, e2], .val e3⟩
            · cases hx
        obtain ⟨u', h3, h4⟩ := key
        refine ⟨u' :: us', ?_, .cons h4 h2⟩
        simp only [List.mapM_cons, Sem.run_bind, h3, Result.andThen_ok, h1, Sem.run_pure]
      · cases hv
    · cases hc

theorem All2.vals {φ : Em} {L : PH} : ∀ {xs ys : List Value}, All2 (TopR φ L) xs ys → (∀ v ∈ xs, notTup v = true) → All2 (ValR φ L) xs ys
  | _, _, .nil, _ => .nil
  | _, _, .cons h t, hx => by
    refine .cons ?_ (All2.vals t fun v hv => hx v (by simp [hv]))
    cases h with
    | val h => exact h
    | @tup vs vs' h => exact absurd (hx (.tuple vs) (by simp)) (by simp [notTup])

/-- A table of functions that is told right. -/
structure EntOK (P : Program) (D : Array Oper → Option (List VOper)) (f : Nat) (fn : VF) : Prop where
  pf : ∃ g c, P.funcs[f]? = some g ∧ (g.name == "runtime.NumGoroutine") = false ∧ g.body = some c ∧ g.ntmps = fn.ntmps ∧ compResL P g.results.toList = some fn.res ∧ compC P D fn.body c = some fn.body

def ExtOK (P : Program) (nro : Nat) (f : Nat) (g : List Value → VH → Option (Value × VH)) : Prop := CallSound P nro fun f' args h => if f' = f then g args h else none

theorem call_sound (F : Nat → Option Ent) (D : Array Oper → Option (List VOper)) (hF : ∀ f fn, F f = some (.ir fn) → EntOK P D f fn) (hX : ∀ f g, F f = some (.ext g) → ExtOK P nro f g) (hD : ∀ call, CallSound P nro call → DSound P nro call D) :
    CallSound P nro (vcall F nro) := by
  intro f args h v h' hv
  refine vcall.partial_correctness F nro (fun f args h r => ∀ φ w args', nro ≤ h.length → RH nro φ (VH.ph h) w → All2 (TopR φ (VH.ph h)) args args' →
    (∃ fn, P.funcs[f]? = some fn ∧ (fn.name == "runtime.NumGoroutine") = false ∧ fn.body.isSome = true) ∧
    Calls P f args'.toArray w fun e w' => ∃ φ' v', e = .returned v' ∧ RH nro φ' (VH.ph r.2) w' ∧ X nro φ (VH.ph h) w φ' (VH.ph r.2) w' ∧ TopR φ' (VH.ph r.2) r.1 v') ?_ f args h (v, h') hv
  intro c hc f args h r hr φ w args' hnr hR ha
  have hS : CallSound P nro c := fun f args h v h' hcv φ w args' hnr hR ha => hc f args h (v, h') hcv φ w args' hnr hR ha
  unfold vstep at hr
  split at hr
  · rename_i fn hf
    obtain ⟨g, code, hg, hname, hbody, hnt, hres, hcode⟩ := (hF f fn hf).pf
    refine ⟨⟨g, hg, hname, by simp [hbody]⟩, ?_⟩
    refine calls_of_wp hg hbody ?_
    unfold vbody at hr
    have hE0 : RE φ (VH.ph h) (env0 fn args) { tmps := args'.toArray ++ Array.replicate (g.ntmps - args'.toArray.size) undef, defers := [] } := by
      unfold RE env0
      simp only [Array.toList_append, Array.toList_replicate, List.size_toArray]
      rw [hnt, ← ha.length']
      refine ha.append (All2.of_get (by simp) fun j x y hx hy => ?_)
      have e1 : x = undef := List.eq_of_mem_replicate (List.mem_of_getElem? hx)
      have e2 : y = undef := List.eq_of_mem_replicate (List.mem_of_getElem? hy)
      rw [e1, e2]
      exact .undef
    have fin : ∀ (e : VX) env1 h1, (e = .normal ∨ e = .ret) → vcode (fun g as h' => c g as h') nro fn.body (env0 fn args) h = some (e, env1, h1) → (match vresults env1 h1 fn.res with
        | some v => some (((cleanup h.length h [v] h1).1).getD 0 undef, (cleanup h.length h [v] h1).2)
        | none => none) = some r → code.wp P (bodyPost P g fun e w' => ∃ φ' v', e = .returned v' ∧ RH nro φ' (VH.ph r.2) w' ∧ X nro φ (VH.ph h) w φ' (VH.ph r.2) w' ∧ TopR φ' (VH.ph r.2) r.1 v') { tmps := args'.toArray ++ Array.replicate (g.ntmps - args'.toArray.size) undef, defers := [] } w := by
      intro e env1 h1 he hvc hr
      refine wp_mono (vcode_wp hS (hD _ hS) fn.body code fn.body hcode φ h w _ _ _ _ _ hnr hR hE0 hvc) fun ex a1 w1 hcp => ?_
      obtain ⟨hex, φ1, hR1, hE1, hX1, hd1⟩ := hcp
      split at hr
      · rename_i v hvr
        simp only [Option.some.injEq] at hr
        subst hr
        unfold vresults at hvr
        have hresrun : ∃ v', (results g a1.tmps).run P w1 = .ok v' w1 ∧ TopR φ1 (VH.ph h1) v v' := by
          have hmap : (results g a1.tmps) = (do
              let vs ← g.results.mapM (resF a1.tmps)
              pure (if h : vs.size = 1 then vs[0] else .tuple vs)) := rfl
          rw [hmap, Array.mapM_eq_mapM_toList]
          split at hvr
          · rename_i u hu
            cases hvr
            obtain ⟨us, h2, h3⟩ := vres_run hR1 hE1 g.results.toList fn.res _ hres hu
            cases h3 with
            | cons h3 t =>
              cases t
              exact ⟨_, by simp [h2], h3⟩
          · rename_i us hne hu
            split at hvr
            · rename_i hok
              cases hvr
              obtain ⟨us', h2, h3⟩ := vres_run hR1 hE1 g.results.toList fn.res _ hres hu
              have hlen := h3.length'
              have hne1 : ¬ us'.length = 1 := by
                intro hl
                match us, hlen, hne with
                | [u], _, hne => exact hne u rfl
                | [], hlen, _ => simp at hlen; omega
                | _ :: _ :: _, hlen, _ => simp at hlen; omega
              have h4 := h3.vals fun v hv => List.all_eq_true.mp hok v hv
              refine ⟨.tuple us'.toArray, ?_, .tup (by simpa using h4)⟩
              simp [h2, hne1]
            · cases hvr
          · cases hvr
        obtain ⟨v', hrun, hv'⟩ := hresrun
        obtain ⟨φ2, hR2, hX2, hE2⟩ := cleanup_sound hR hX1 hR1 (.cons hv' .nil) hnr
        have hfinal : ∃ φ' v'', (Ending.returned v') = .returned v'' ∧ RH nro φ' (VH.ph (cleanup h.length h [v] h1).2) w1 ∧ X nro φ (VH.ph h) w φ' (VH.ph (cleanup h.length h [v] h1).2) w1 ∧ TopR φ' (VH.ph (cleanup h.length h [v] h1).2) ((cleanup h.length h [v] h1).1.getD 0 undef) v'' := by
          refine ⟨φ2, v', rfl, hR2, hX2, ?_⟩
          generalize (cleanup h.length h [v] h1).1 = l at hE2
          cases hE2 with
          | cons h t => exact h
        rcases he with rfl | rfl <;> cases ex <;> simp only [exR] at hex
        · exact ⟨hd1, v', hrun, hfinal⟩
        · exact ⟨hd1, v', hrun, hfinal⟩
      · cases hr
    split at hr
    · cases hr
    · rename_i e env1 h1 hne hvc
      refine fin e env1 h1 ?_ hvc hr
      cases e with
      | normal => exact .inl rfl
      | ret => exact .inr rfl
      | exit i => exact (hne i rfl).elim
    · cases hr
  · rename_i g hf
    exact hX f g hf f args h r.1 r.2 (by show (if f = f then g args h else none) = _; rw [if_pos rfl]; exact hr) φ w args' hnr hR ha
  · cases hr
end
end Go.Proofs.YthpgiimaadohcaaDoor.Zv
