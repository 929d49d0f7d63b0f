/- Part B of the proof: ZvCode, ZvDraw, ZvDraw2, ZvLate, ZvDraw3, ZvSound, ZvF, ZvTz. Conditions: none. -/
import Derived.Test.YtbomdghbblakoaaGreatDoorZpA
set_option linter.unusedSimpArgs false
set_option linter.unusedVariables false
set_option linter.unusedSectionVars false
namespace Go.Proofs.YtbomdghbblakoaaGreatDoor.Zv
/- Code, and calls. -/
section
open Go
def compC (P:Program) (D:Array Oper→Option (List VOper)):VC→Code→Option VC
 | .skip, .skip => some .skip
 | .ops _, .region _ ops false => (compOps P ops ops.toList).map .ops
 | .dops _, .region _ ops true => (D ops).map .dops
 | .seq x y, .seq a b => match compC P D x a, compC P D y b with
  | some a', some b' => some (.seq a' b')
  | _, _ => none
 | .cond _ x y, .cond c a b => if okOpd c then match compC P D x a, compC P D y b with
  | some a', some b' => some (.cond c a' b')
  | _, _ => none else none
 | .block _ x, .block id c => (compC P D x c).map (.block id)
 | .loop mask x, .loop c => (compC P D x c).map (.loop mask)
 | .exit _, .exit id => some (.exit id)
 | .ret, .ret => some .ret
 | .keep mask x, c => (compC P D x c).map (.keep mask)
 | _, _ => none
def exR:VX→Exit→Prop
 | .normal, .normal => True
 | .exit i, .exit j => i = j
 | .ret, .ret => True
 | _, _ => False
section
variable {P:Program} {nro:Nat} {call:VCall}
def CP (nro:Nat) (φ:Em) (h:VH) (w:World) (a:Act) (e:VX) (env' :List Value) (h' :VH):Exit→Act→World→Prop:=fun ex a' w' =>
 exR e ex∧ ∃φ',RH nro φ' h'.ph w' ∧RE φ' h'.ph env' a' ∧X nro φ h.ph w φ' h'.ph w' ∧a'.defers=a.defers
theorem CP.trans {φ φ1:Em} {h h1 h' :VH} {w w1:World} {a a1:Act} {e:VX} {env' :List Value} {ex:Exit} {a' :Act} {w' :World} (hX:X nro φ h.ph w φ1 h1.ph w1) (hd:a1.defers=a.defers) (h2:CP nro φ1 h1 w1 a1 e env' h' ex a' w'):CP nro φ h w a e env' h' ex a' w' :=by
 obtain⟨h3,φ',h4,h5,h6,h7⟩:=h2
 exact⟨h3,φ',h4,h5,hX.trans h6,h7.trans hd⟩
def DSound (P:Program) (nro:Nat) (call:VCall) (D:Array Oper→Option (List VOper)):Prop:= ∀ops vs,D ops=some vs→ ∀(id:Nat) (φ:Em) (h:VH) (w:World) (env:List Value) (a:Act) (env' :List Value) (h' :VH),nro≤h.length→RH nro φ h.ph w→RE φ h.ph env a→
 vdops call nro vs env h []=some (env',h')→(Code.region id ops true).wp P (CP nro φ h w a .normal env' h') a w
theorem RE.mask {φ:Em} {L:PH}: ∀(m:List Bool) (env:List Value) (l:List Value),All2 (TopR φ L) env l→All2 (TopR φ L) (maskEnv m env) l
 | [], _, _, .nil => .nil
 | [], _, _, .cons h t => by
  simp only[maskEnv,List.map_cons]
  exact .cons (AtomR.junk _ _).top (by simpa [maskEnv]using RE.mask [] _ _ t)
 | b :: m, _, _, .nil => .nil
 | b :: m, _, _, .cons h t => by
  simp only[maskEnv]
  refine .cons ?_ (RE.mask m _ _ t)
  cases b
  ·exact(AtomR.junk _ _).top
  ·exact h
theorem vcode_wp (hS:CallSound P nro call) {D:Array Oper→Option (List VOper)} (hD:DSound P nro call D): ∀(x:VC) (c:Code) (vc:VC),compC P D x c=some vc→
  ∀(φ:Em) (h:VH) (w:World) (env:List Value) (a:Act) (e:VX) (env' :List Value) (h' :VH),nro≤h.length→RH nro φ h.ph w→RE φ h.ph env a→vcode call nro vc env h=some (e,env',h')→c.wp P (CP nro φ h w a e env' h') a w:=by
 intro x c vc hc
 fun_induction compC P D x c generalizing vc with
 | case1 =>
  cases hc
  intro φ h w env a e env' h' hnr hR hE hv
  simp only[vcode,Option.some.injEq,Prod.mk.injEq]at hv
  obtain⟨rfl,rfl,rfl⟩:=hv
  exact wp_skip ⟨trivial,φ,hR,hE,.refl _ _ _ _,rfl⟩
 | case2 os id ops =>
  obtain⟨vs,hvs,rfl⟩:=mapS hc
  intro φ h w env a e env' h' hnr hR hE hv
  simp only[vcode]at hv
  split at hv
  ·rename_i env1 h1 hv1
   simp only[Option.some.injEq,Prod.mk.injEq]at hv
   obtain⟨rfl,rfl,rfl⟩:=hv
   refine wp_region ?_
   have:=vops_wp hS ops (CP nro φ h w a .normal env1 h1) ops.toList vs 0 rfl hvs φ h w env a env1 h1 hnr hR hE hv1 fun φ' a' w' h2 h3 h4 h5=>⟨trivial,φ',h2,h3,h4,h5⟩
   rw[List.range_eq_range']
   simpa using this
  ·cases hv
 | case3 os id ops =>
  obtain⟨vs,hvs,rfl⟩:=mapS hc
  intro φ h w env a e env' h' hnr hR hE hv
  simp only[vcode]at hv
  split at hv
  ·rename_i env1 h1 hv1
   simp only[Option.some.injEq,Prod.mk.injEq]at hv
   obtain⟨rfl,rfl,rfl⟩:=hv
   exact hD ops vs hvs id φ h w env a _ _ hnr hR hE hv1
  ·cases hv
 | case4 x y a b a' ha' b' hb' iha ihb =>
  cases hc
  intro φ h w env ac e env' h' hnr hR hE hv
  simp only[vcode]at hv
  refine wp_seq ?_
  split at hv
  ·rename_i env1 h1 hv1
   refine wp_mono (iha _ hb' φ h w env ac _ _ _ hnr hR hE hv1) fun ex a1 w1 hcp=> ?_
   obtain⟨hex,φ1,hR1,hE1,hX1,hd1⟩:=hcp
   cases ex<;>simp only[exR]at hex
   exact wp_mono (ihb _ ‹_› φ1 h1 w1 env1 a1 _ _ _ (Nat.le_trans hnr hX1.len) hR1 hE1 hv) fun ex a2 w2 h2=>CP.trans hX1 hd1 h2
  ·rename_i hn
   cases hv1:vcode call nro a' env h with
   | none => rw [hv1] at hv; cases hv
   | some q =>
    obtain⟨e1,env1,h1⟩:=q
    rw[hv1]at hv
    simp only[Option.some.injEq,Prod.mk.injEq]at hv
    obtain⟨rfl,rfl,rfl⟩:=hv
    refine wp_mono (iha _ hb' φ h w env ac _ _ _ hnr hR hE hv1) fun ex a1 w1 hcp=> ?_
    have hex:=hcp.1
    cases ex with
    | normal =>
     cases e1 with
     | normal => exact absurd hv1 (hn _ _)
     | exit _ => cases hex
     | ret => cases hex
    | _ => exact hcp
 | case5 => cases hc
 | case6 =>
  rename_i x0 x1 y1 c a1 b1 hok a2 b2 hb2 ha2 iha ihb
  cases hc
  intro φ h w env ac e env' h' hnr hR hE hv
  simp only[vcode]at hv
  have ex:=hE.ev hok
  split at hv
  ·rename_i e1
   rw[e1]at ex
   exact wp_cond_true ex.inv_bool (iha _ ha2 φ h w env ac _ _ _ hnr hR hE hv)
  ·rename_i e1
   rw[e1]at ex
   exact wp_cond_false ex.inv_bool (ihb _ hb2 φ h w env ac _ _ _ hnr hR hE hv)
  ·cases hv
 | case7 => cases hc
 | case8 => cases hc
 | case9 =>
  rename_i id0 x1 id c ih
  obtain⟨c',hc',rfl⟩:=mapS hc
  intro φ h w env ac e env' h' hnr hR hE hv
  simp only[vcode]at hv
  refine wp_block ?_
  split at hv
  ·rename_i id' env1 h1 hv1
   refine wp_mono (ih _ hc' φ h w env ac _ _ _ hnr hR hE hv1) fun ex a1 w1 hcp=> ?_
   obtain⟨hex,hrest⟩:=hcp
   cases ex<;>simp only[exR]at hex
   subst hex
   simp only[Exit.inBlock]
   split at hv
   ·rename_i hid
    simp only[Option.some.injEq,Prod.mk.injEq]at hv
    obtain⟨rfl,rfl,rfl⟩:=hv
    rw[if_pos hid]
    exact⟨trivial,hrest⟩
   ·rename_i hid
    simp only[Option.some.injEq,Prod.mk.injEq]at hv
    obtain⟨rfl,rfl,rfl⟩:=hv
    rw[if_neg hid]
    exact⟨rfl,hrest⟩
  ·rename_i hn
   refine wp_mono (ih _ hc' φ h w env ac _ _ _ hnr hR hE hv) fun ex a1 w1 hcp=> ?_
   have hex:=hcp.1
   cases ex with
   | exit j =>
    cases e with
    | exit i => exact absurd hv (hn _ _ _)
    | normal => cases hex
    | ret => cases hex
   | _ => exact hcp
 | case10 =>
  rename_i mask x1 c ih
  obtain⟨c',hc',rfl⟩:=mapS hc
  intro φ h w env ac e env' h' hnr hR hE hv
  simp only[vcode]at hv
  intro b k cs
  have key:=iter.partial_correctness (fun s:List Value × VH=>match vcode call nro c' s.1 s.2 with
   | some (.normal, env', h') => some (.inl (cleanup h.length h (maskEnv mask env') h'))
   | some r => some (.inr r)
   | none => none) (fun s r => ∀ φ1 a1 w1, RH nro φ1 (VH.ph s.2) w1 → RE φ1 (VH.ph s.2) s.1 a1 → X nro φ h.ph w φ1 (VH.ph s.2) w1 → a1.defers = ac.defers →
    ∃ex a' w',CP nro φ h w ac r.1 r.2.1 r.2.2 ex a' w' ∧Arrives P (lone (b.at a1 (.code c:: .inLoop c::k)) cs w1) b k cs ex a' w') ?_ _ _ hv
  ·obtain⟨ex,a',w',h1,h2⟩:=key φ ac w hR (RE.mask mask _ _ hE) (.refl _ _ _ _) rfl
   exact⟨ex,a',w',h1,.of_steps (.one step_loop) h2⟩
  ·intro it hit s r hs φ1 a1 w1 hR1 hE1 hX1 hd1
   have hn1:nro≤s.2.length:=Nat.le_trans hnr hX1.len
   split at hs
   ·cases hs
   ·rename_i s' hs'
    split at hs'
    ·rename_i env2 h2 hv2
     simp only[Option.some.injEq,Sum.inl.injEq]at hs'
     subst hs'
     obtain⟨ex,a2,w2,hcp,harr⟩:=ih _ hc' φ1 s.2 w1 s.1 a1 _ _ _ hn1 hR1 hE1 hv2 b (.inLoop c::k) cs
     obtain⟨hex,φ2,hR2,hE2,hX2,hd2⟩:=hcp
     cases ex<;>simp only[exR]at hex
     obtain⟨φ3,hR3,hX3,hE3⟩:=cleanup_sound hR (hX1.trans hX2) hR2 (RE.mask mask _ _ hE2) hnr
     obtain⟨ex,a',w',h3,h4⟩:=hit _ _ hs φ3 a2 w2 hR3 hE3 hX3 (hd2.trans hd1)
     exact⟨ex,a',w',h3,.of_steps (Steps.trans harr (.one step_inLoop)) h4⟩
    ·cases hs'
    ·cases hs'
   ·rename_i r' hr'
    simp only[Option.some.injEq]at hs
    split at hr'
    ·cases hr'
    ·rename_i q hnn hv2
     simp only[Option.some.injEq,Sum.inr.injEq]at hr'
     have hq:q=r:=hr'.trans hs
     subst hq
     obtain⟨e2,env2,h2⟩:=q
     obtain⟨ex,a2,w2,hcp,harr⟩:=ih _ hc' φ1 s.2 w1 s.1 a1 _ _ _ hn1 hR1 hE1 hv2 b (.inLoop c::k) cs
     have hex:=hcp.1
     refine⟨ex,a2,w2,CP.trans hX1 hd1 hcp,?_⟩
     refine .pass (x:= .inLoop c) rfl (fun _ _=> .inl ?_) harr
     rintro rfl
     cases e2 with
     | normal => exact hnn _ _ rfl
     | exit _ => cases hex
     | ret => cases hex
    ·cases hr'
 | case11 =>
  cases hc
  intro φ h w env a e env' h' hnr hR hE hv
  simp only[vcode,Option.some.injEq,Prod.mk.injEq]at hv
  obtain⟨rfl,rfl,rfl⟩:=hv
  exact wp_exit ⟨rfl,φ,hR,hE,.refl _ _ _ _,rfl⟩
 | case12 =>
  cases hc
  intro φ h w env a e env' h' hnr hR hE hv
  simp only[vcode,Option.some.injEq,Prod.mk.injEq]at hv
  obtain⟨rfl,rfl,rfl⟩:=hv
  exact wp_ret ⟨trivial,φ,hR,hE,.refl _ _ _ _,rfl⟩
 | case13 =>
  rename_i mask x1 c ih
  obtain⟨c',hc',rfl⟩:=mapS hc
  intro φ h w env ac e env' h' hnr hR hE hv
  simp only[vcode]at hv
  exact ih _ hc' φ h w _ ac _ _ _ hnr hR (RE.mask mask _ _ hE) hv
 | case14 => cases hc
def resF (tmps:Array Value):ResultVar→Sem Value:=fun
 | .tmp t => pure (tmps.getD t undef)
 | .cell q t => do loadVar t (← asAddr (tmps.getD q undef))
theorem vres_run {φ:Em} {h:VH} {w:World} {env:List Value} {a:Act} (hR:RH nro φ h.ph w) (hE:RE φ h.ph env a): ∀(rs:List ResultVar) (vr:List VR) (vs:List Value),compResL P rs=some vr→vresL env h vr=some vs→
  ∃us,(rs.mapM (resF a.tmps)).run P w= .ok us w∧All2 (TopR φ h.ph) vs us
 | [], vr, vs, hc, hv => by
  cases hc
  cases hv
  exact⟨[],rfl,.nil⟩
 | r :: rs, vr, vs, hc, hv => by
  simp only[compResL]at hc
  split at hc
  ·rename_i x xs hx hxs
   cases hc
   simp only[vresL]at hv
   split at hv
   ·rename_i u us hu hus
    cases hv
    obtain⟨us',h1,h2⟩:=vres_run hR hE rs xs us hxs hus
    have key: ∃u',(resF a.tmps r).run P w= .ok u' w∧TopR φ h.ph u u' :=by
     cases r with
     | tmp t =>
      cases hx
      simp only[vres1,Option.some.injEq]at hu
      subst hu
      exact⟨_,rfl,hE.get t⟩
     | cell q t =>
      simp only[compRes]at hx
      have hp:=hE.get q
      split at hx
      ·rename_i n ha hn
       cases hx
       simp only[vres1]at hu
       obtain⟨p,z,e1,e2,e3⟩:=run_loadVar_of (P:=P) ha hn (fun h=>by cases h) hR hp hu
       exact⟨z,by simp[resF,e1,asAddr,e2],.val e3⟩
      ·rename_i ha hn
       cases hx
       simp only[vres1]at hu
       obtain⟨p,z,e1,e2,e3⟩:=run_loadVar_of (P:=P) ha hn (fun _=>rfl) hR hp hu
       exact⟨z,by simp[resF,e1,asAddr,e2],.val e3⟩
      ·cases hx
    obtain⟨u',h3,h4⟩:=key
    refine⟨u' ::us',?_,.cons h4 h2⟩
    simp only[List.mapM_cons,Sem.run_bind,h3,Result.andThen_ok,h1,Sem.run_pure]
   ·cases hv
  ·cases hc
theorem All2.vals {φ:Em} {L:PH}: ∀ {xs ys:List Value},All2 (TopR φ L) xs ys→(∀v∈xs,notTup v=true)→All2 (ValR φ L) xs ys
 | _, _, .nil, _ => .nil
 | _, _, .cons h t, hx => by
  refine .cons ?_ (All2.vals t fun v hv=>hx v (by simp[hv]))
  cases h with
  | val h => exact h
  | @tup vs vs' h => exact absurd (hx (.tuple vs) (by simp)) (by simp [notTup])
structure EntOK (P:Program) (D:Array Oper→Option (List VOper)) (f:Nat) (fn:VF):Prop where
 pf: ∃g c,P.funcs[f]? =some g∧(g.name=="runtime.NumGoroutine")=false∧g.body=some c∧g.ntmps=fn.ntmps∧compResL P g.results.toList=some fn.res∧compC P D fn.body c=some fn.body
def ExtOK (P:Program) (nro:Nat) (f:Nat) (g:List Value→VH→Option (Value × VH)):Prop:=CallSound P nro fun f' args h=>if f' =f then g args h else none
theorem call_sound (F:Nat→Option Ent) (D:Array Oper→Option (List VOper)) (hF: ∀f fn,F f=some (.ir fn)→EntOK P D f fn) (hX: ∀f g,F f=some (.ext g)→ExtOK P nro f g) (hD: ∀call,CallSound P nro call→DSound P nro call D):
  CallSound P nro (vcall F nro):=by
 intro f args h v h' hv
 refine vcall.partial_correctness F nro (fun f args h r=> ∀φ w args',nro≤h.length→RH nro φ (VH.ph h) w→All2 (TopR φ (VH.ph h)) args args' →
  (∃fn,P.funcs[f]? =some fn∧(fn.name=="runtime.NumGoroutine")=false∧fn.body.isSome=true)∧
  Calls P f args'.toArray w fun e w' => ∃φ' v',e= .returned v' ∧RH nro φ' (VH.ph r.2) w' ∧X nro φ (VH.ph h) w φ' (VH.ph r.2) w' ∧TopR φ' (VH.ph r.2) r.1 v') ?_ f args h (v,h') hv
 intro c hc f args h r hr φ w args' hnr hR ha
 have hS:CallSound P nro c:=fun f args h v h' hcv φ w args' hnr hR ha=>hc f args h (v,h') hcv φ w args' hnr hR ha
 unfold vstep at hr
 split at hr
 ·rename_i fn hf
  obtain⟨g,code,hg,hname,hbody,hnt,hres,hcode⟩:=(hF f fn hf).pf
  refine⟨⟨g,hg,hname,by simp[hbody]⟩,?_⟩
  refine calls_of_wp hg hbody ?_
  unfold vbody at hr
  have hE0:RE φ (VH.ph h) (env0 fn args) { tmps:=args'.toArray++Array.replicate (g.ntmps - args'.toArray.size) undef,defers:= []}:=by
   unfold RE env0
   simp only[Array.toList_append,Array.toList_replicate,List.size_toArray]
   rw[hnt,←ha.length']
   refine ha.append (All2.of_get (by simp) fun j x y hx hy=> ?_)
   have e1:x=undef:=List.eq_of_mem_replicate (List.mem_of_getElem? hx)
   have e2:y=undef:=List.eq_of_mem_replicate (List.mem_of_getElem? hy)
   rw[e1,e2]
   exact .undef
  have fin : ∀ (e : VX) env1 h1, (e = .normal ∨ e = .ret) → vcode (fun g as h' => c g as h') nro fn.body (env0 fn args) h = some (e, env1, h1) → (match vresults env1 h1 fn.res with
    | some v => some (((cleanup h.length h [v] h1).1).getD 0 undef, (cleanup h.length h [v] h1).2)
    | none => none) = some r → code.wp P (bodyPost P g fun e w' => ∃ φ' v', e = .returned v' ∧ RH nro φ' (VH.ph r.2) w' ∧ X nro φ (VH.ph h) w φ' (VH.ph r.2) w' ∧ TopR φ' (VH.ph r.2) r.1 v') { tmps := args'.toArray ++ Array.replicate (g.ntmps - args'.toArray.size) undef, defers := [] } w := by
   intro e env1 h1 he hvc hr
   refine wp_mono (vcode_wp hS (hD _ hS) fn.body code fn.body hcode φ h w _ _ _ _ _ hnr hR hE0 hvc) fun ex a1 w1 hcp=> ?_
   obtain⟨hex,φ1,hR1,hE1,hX1,hd1⟩:=hcp
   split at hr
   ·rename_i v hvr
    simp only[Option.some.injEq]at hr
    subst hr
    unfold vresults at hvr
    have hresrun: ∃v',(results g a1.tmps).run P w1= .ok v' w1∧TopR φ1 (VH.ph h1) v v' :=by
     have hmap:(results g a1.tmps)=(do
       let vs←g.results.mapM (resF a1.tmps)
       pure (if h:vs.size=1 then vs[0]else .tuple vs)):=rfl
     rw[hmap,Array.mapM_eq_mapM_toList]
     split at hvr
     ·rename_i u hu
      cases hvr
      obtain⟨us,h2,h3⟩:=vres_run hR1 hE1 g.results.toList fn.res _ hres hu
      cases h3 with
      | cons h3 t =>
       cases t
       exact⟨_,by simp[h2],h3⟩
     ·rename_i us hne hu
      split at hvr
      ·rename_i hok
       cases hvr
       obtain⟨us',h2,h3⟩:=vres_run hR1 hE1 g.results.toList fn.res _ hres hu
       have hlen:=h3.length'
       have hne1: ¬us'.length=1:=by
        intro hl
        match us,hlen,hne with
        | [u], _, hne => exact hne u rfl
        | [], hlen, _ => simp at hlen; omega
        | _ :: _ :: _, hlen, _ => simp at hlen; omega
       have h4:=h3.vals fun v hv=>List.all_eq_true.mp hok v hv
       refine⟨.tuple us'.toArray,?_,.tup (by simpa using h4)⟩
       simp[h2,hne1]
      ·cases hvr
     ·cases hvr
    obtain⟨v',hrun,hv'⟩:=hresrun
    obtain⟨φ2,hR2,hX2,hE2⟩:=cleanup_sound hR hX1 hR1 (.cons hv' .nil) hnr
    have hfinal: ∃φ' v'',(Ending.returned v')= .returned v'' ∧RH nro φ' (VH.ph (cleanup h.length h [v] h1).2) w1∧X nro φ (VH.ph h) w φ' (VH.ph (cleanup h.length h [v] h1).2) w1∧TopR φ' (VH.ph (cleanup h.length h [v] h1).2) ((cleanup h.length h [v] h1).1.getD 0 undef) v'' :=by
     refine⟨φ2,v',rfl,hR2,hX2,?_⟩
     generalize(cleanup h.length h [v] h1).1=l at hE2
     cases hE2 with
     | cons h t => exact h
    rcases he with rfl|rfl<;>cases ex<;>simp only[exR]at hex
    ·exact⟨hd1,v',hrun,hfinal⟩
    ·exact⟨hd1,v',hrun,hfinal⟩
   ·cases hr
  split at hr
  ·cases hr
  ·rename_i e env1 h1 hne hvc
   refine fin e env1 h1 ?_ hvc hr
   cases e with
   | normal => exact .inl rfl
   | ret => exact .inr rfl
   | exit i => exact (hne i rfl).elim
  ·cases hr
 ·rename_i g hf
  exact hX f g hf f args h r.1 r.2 (by show(if f=f then g args h else none)=_;rw[if_pos rfl];exact hr) φ w args' hnr hR ha
 ·cases hr
end
end

/- Regions whose order is open. -/
section
open Go
def befMask (o:Oper) (acc:Array Nat):Nat:=o.after.toList.foldl (fun s e=>if Region.binds .any e then s|||2 ^ e.on|||acc.getD e.on 0 else s) 0
def befA:List Oper→Array Nat→Array Nat
 | [], acc => acc
 | o :: r, acc => befA r (acc.push (befMask o acc))
def Closed (ops:Array Oper) (listed:Nat→Bool):Prop:= ∀(i:Nat) o,ops[i]? =some o→listed i=true→ ∀e∈o.after.toList,Region.binds .any e=true→listed e.on=true
theorem befMask_spec {ops:Array Oper} {acc:Array Nat} {listed:Nat→Bool} (hacc: ∀(i j:Nat),i<acc.size→(acc.getD i 0).testBit j=true→listed i=true→listed j=true) (es:List Edge) (s:Nat) (hs: ∀j,s.testBit j=true→listed j=true)
  (he: ∀e∈es,Region.binds .any e=true→listed e.on=true): ∀j,(es.foldl (fun s e=>if Region.binds .any e then s|||2 ^ e.on|||acc.getD e.on 0 else s) s).testBit j=true→listed j=true:=by
 induction es generalizing s with
 | nil => exact hs
 | cons e es ih =>
  intro j hj
  simp only[List.foldl_cons]at hj
  refine ih _ ?_ (fun e' h' =>he e' (by simp[h'])) j hj
  intro k hk
  split at hk
  ·rename_i hb
   have hon:=he e (by simp) hb
   rw[Nat.testBit_or,Nat.testBit_or,Bool.or_eq_true,Bool.or_eq_true]at hk
   rcases hk with(hk|hk)|hk
   ·exact hs k hk
   ·rw[Nat.testBit_two_pow]at hk
    have:e.on=k:=by simpa using hk
    rw[←this];exact hon
   ·by_cases hlt:e.on<acc.size
    ·exact hacc _ _ hlt hk hon
    ·rw[show acc.getD e.on 0=0 by simp[Array.getD,hlt]]at hk
     simp at hk
  ·exact hs k hk
theorem befA_spec {ops:Array Oper} {listed:Nat→Bool} (hcl:Closed ops listed): ∀(l:List Oper) (acc:Array Nat),ops.toList.drop acc.size=l→
  (∀(i j:Nat),i<acc.size→(acc.getD i 0).testBit j=true→listed i=true→listed j=true)→ ∀(i j:Nat),((befA l acc).getD i 0).testBit j=true→listed i=true→listed j=true
 | [], acc, _, hacc, i, j, hj, hi => by
  simp only[befA]at hj
  by_cases hlt:i<acc.size
  ·exact hacc i j hlt hj hi
  ·rw[show acc.getD i 0=0 by simp[Array.getD,hlt]]at hj
   simp at hj
 | o :: l, acc, hl, hacc, i, j, hj, hi => by
  simp only[befA]at hj
  refine befA_spec hcl l (acc.push (befMask o acc)) ?_ ?_ i j hj hi
  ·rw[Array.size_push,←List.drop_drop,hl];rfl
  ·intro i j hi hj hli
   by_cases hlt:i<acc.size
   ·have e:(acc.push (befMask o acc)).getD i 0=acc.getD i 0:=by simp[Array.getD_eq_getD_getElem?,Array.getElem?_push,Nat.ne_of_lt hlt]
    rw[e]at hj
    exact hacc i j hlt hj hli
   ·have hieq:i=acc.size:=by simp at hi;omega
    have e:(acc.push (befMask o acc)).getD i 0=befMask o acc:=by subst hieq;simp[Array.getD_eq_getD_getElem?]
    rw[e]at hj
    have ho:ops[i]? =some o:=by
     have:(ops.toList.drop acc.size)[0]? =some o:=by rw[hl];rfl
     rw[hieq]
     simpa using this
    exact befMask_spec (ops:=ops) hacc o.after.toList 0 (by simp) (fun e he hb=>hcl i o ho hli e he hb) j hj
def opds:VOp→List Operand
 | .mv x | .un _ x | .conv _ x | .mvStr x | .eqnilS _ x | .eqnilF _ x | .box _ x | .load _ _ x | .nilchk x | .fld _ x | .fieldv _ _ _ x | .ext x _ | .len x | .lenStr x | .clr _ _ x => [x]
 | .pick a b c => [a, b, c]
 | .bin _ x y | .beq _ x y | .store _ x y | .idx _ x y | .idxStr x y | .mkSl _ _ _ x y | .app _ _ _ x y | .cpy _ x y => [x, y]
 | .alloc _ | .stop => []
 | .build _ ps | .buildSl _ _ ps _ => ps.map (·.2.2)
 | .slc _ x lo hi | .slcStr x lo hi => x :: (lo.toList ++ hi.toList)
 | .minmax _ xs | .call _ xs => xs
 | .callv f xs => f :: xs
 | .mkfn _ a b => a ++ b
def slotsOf (o:VOper):List Nat:=((opds o.op).filterMap fun| .tmp t=>some t|_=>none)++(match o.guard with
 | some (g, _) => [g]
 | none => [])
def lateOp:VOp→Bool
 | .alloc _ => true
 | .buildSl .. => true
 | .mkSl .. => true
 | _ => false
def usesF (fs:List Nat) (vs:Array VOper) (i:Nat):Bool:=match vs[i]? with
 | some o => fs.any fun f => match vs[f]? with
  | some p => match p.dst with
   | some q => (slotsOf o).contains q
   | none => false
  | none => false
 | none => false
def orderOf (fs:List Nat) (B:Array Nat) (vs:Array VOper):List Nat:=
 let n:=vs.size
 let one:=fun(acc:List Nat) (i:Nat)=>if acc.contains i then acc else acc++ [i]
 let withAnc:=fun(acc:List Nat) (i:Nat)=>one ((List.range n).foldl (fun a j=>if(B.getD i 0).testBit j then one a j else a) acc) i
 let effs:=(List.range n).filter fun i=> !fs.contains i && ((match vs[i]? with
  | some o => o.op.eff
  | none => false) || usesF fs vs i)
 let a1:=effs.foldl withAnc []
 (List.range n).foldl one a1
def effI (vs:Array VOper) (i:Nat):Bool:=match vs[i]? with
 | some o => o.op.eff
 | none => false
def chkOf (fs:List Nat) (B:Array Nat) (vs:Array VOper) (before:List Nat) (i:Nat):Nat:=(before.filter fun j=>effI vs j && (fs.contains j|| !(B.getD i 0).testBit j)).length
def fltOK (fs:List Nat) (vs:Array VOper) (i:Nat):Bool:=match vs[i]? with
 | some ⟨some _, op, none, _⟩ => lateOp op && !usesF fs vs i
 | _ => false
def fltOK0 (vs:Array VOper) (i:Nat):Bool:=match vs[i]? with
 | some ⟨some q, .alloc _, none, _⟩ => (List.range vs.size).all fun j => match vs[j]? with
  | some p => !(slotsOf p).contains q || p.op.eff
  | none => true
 | _ => false
def okOrderAt (fs : List Nat) (ops : Array Oper) (B : Array Nat) (vs : Array VOper) (before : List Nat) (i : Nat) : Bool :=
 decide (i<ops.size) && !before.contains i &&
 (match ops[i]? with
  | some o => o.after.toList.all fun e => !Region.binds .any e || (before.contains e.on && decide (e.on < i))
  | none => false) &&
 (!(effI vs i||usesF fs vs i)||fs.contains i||before.all fun j=>(B.getD i 0).testBit j) &&
 (!fs.contains i||fltOK fs vs i) &&
 (match vs[i]? with
  | some o => (List.range ops.size).all fun j => j == i || (match vs[j]? with
   | some p => (o.dst.isNone || p.dst != o.dst) && (match p.dst with
    | some d => !(slotsOf o).contains d || (B.getD i 0).testBit j || (B.getD j 0).testBit i
    | none => true)
   | none => false)
  | none => false)
def okOrder (fs:List Nat) (ops:Array Oper) (B:Array Nat) (vs:Array VOper):List Nat→List Nat→Bool
 | _, [] => true
 | before, i :: r => okOrderAt fs ops B vs before i && okOrder fs ops B vs (before ++ [i]) r
def laid (fs:List Nat) (B:Array Nat) (vs:Array VOper):List Nat→List Nat→List VOper
 | _, [] => []
 | before, i :: r => { vs.getD i ⟨none, .alloc [], none, 0⟩ with chk := chkOf fs B vs before i } :: laid fs B vs (before ++ [i]) r
def compDf (fs:List Nat) (ops:Array Oper) (vs:Array VOper) (B:Array Nat):Option (List VOper):=
 let π:=orderOf fs B vs
 if vs.size==ops.size && ((List.range ops.size).all fun i=>π.contains i) && okOrder fs ops B vs [] π then some (laid fs B vs [] π)else none
def compD (P : Program) (ops : Array Oper) : Option (List VOper) :=
 match compOps P ops ops.toList with
 | none => none
 | some l =>
  let vs:=l.toArray
  let B:=befA ops.toList #[]
  match compDf [] ops vs B with
  | some os => some os
  | none => match compDf ((List.range vs.size).filter (fltOK0 vs)) ops vs B with
   | some os => some os
   | none =>
    let f1:=(List.range vs.size).filter (fltOK [] vs)
    compDf (f1.filter (fltOK f1 vs)) ops vs B
end

/- Regions whose order is open: any order comes to what the virtual interpreter tells. -/
section
open Go
theorem mapH {α:Type} {x:Option α} {f:α→Value × VH} {h h' :VH} {v:Value} (hf: ∀z,(f z).2=h) (hv:x.map f=some (v,h')):h' =h:=by
 obtain⟨z,_,hz⟩:=mapS hv
 have:=hf z
 rw[hz]at this
 exact this
theorem vop_noneff {call:VCall} {nro:Nat} {ev:Operand→Value} {h h' :VH} {op:VOp} {v:Value} (he:op.eff=false) (hv:vop call nro ev h op=some (v,h')):h' =h:=by
 cases op
 case bin=>exact mapH (fun _=>rfl) hv
 case beq=>exact mapH (fun _=>rfl) hv
 case un=>exact mapH (fun _=>rfl) hv
 case build=>exact mapH (fun _=>rfl) hv
 case load=>exact mapH (fun _=>rfl) hv
 case slc=>exact mapH (fun _=>rfl) hv
 case slcStr=>exact mapH (fun _=>rfl) hv
 case minmax=>exact mapH (fun _=>rfl) hv
 case box=>cases he
 case alloc=>cases he
 case buildSl=>cases he
 case mkSl=>cases he
 case store=>cases he
 case app=>cases he
 case call=>cases he
 case callv=>cases he
 case clr=>cases he
 case cpy=>cases he
 case stop=>cases he
 all_goals
  simp only[vop]at hv
  repeat' split at hv
  all_goals
   first
    | (cases hv; done)
    | (simp only [Option.some.injEq, Prod.mk.injEq] at hv; exact hv.2.symm)
theorem mem_opds_map {ps:List (Nat × Nat × Operand)} {ev ev' :Operand→Value} (h: ∀x∈ps.map (·.2.2),ev x=ev' x):(ps.map fun p=>(p.1,p.2.1,ev p.2.2))=ps.map fun p=>(p.1,p.2.1,ev' p.2.2):=by
 apply List.map_congr_left
 intro p hp
 rw[h p.2.2 (List.mem_map.mpr ⟨p,hp,rfl⟩)]
theorem omap_congr {x:Option Operand} {ev ev' :Operand→Value} (h: ∀y∈x.toList,ev y=ev' y):x.map ev=x.map ev' :=by
 cases x with
 | none => rfl
 | some y => simp [h y (by simp)]
theorem vop_congr {call:VCall} {nro:Nat} {ev ev' :Operand→Value} {h:VH} {op:VOp} (he: ∀x∈opds op,ev x=ev' x):vop call nro ev h op=vop call nro ev' h op:=by
 cases op with
 | build z ps => simp only [vop]; rw [mem_opds_map (ev := ev) (ev' := ev') (by simpa [opds] using he)]
 | buildSl sz z ps n => simp only [vop]; rw [mem_opds_map (ev := ev) (ev' := ev') (by simpa [opds] using he)]
 | slc sz x lo hi => simp only [vop]; rw [he x (by simp [opds]), omap_congr fun y hy => he y (by simp only [opds, List.mem_cons, List.mem_append]; exact .inr (.inl hy)), omap_congr fun y hy => he y (by simp only [opds, List.mem_cons, List.mem_append]; exact .inr (.inr hy))]
 | slcStr x lo hi => simp only [vop]; rw [he x (by simp [opds]), omap_congr fun y hy => he y (by simp only [opds, List.mem_cons, List.mem_append]; exact .inr (.inl hy)), omap_congr fun y hy => he y (by simp only [opds, List.mem_cons, List.mem_append]; exact .inr (.inr hy))]
 | minmax mx xs => simp only [vop]; rw [List.map_congr_left fun y hy => he y (by simpa [opds] using hy)]
 | call f xs => simp only [vop]; rw [List.map_congr_left fun y hy => he y (by simpa [opds] using hy)]
 | callv f xs => simp only [vop]; rw [he f (by simp [opds]), List.map_congr_left fun y hy => he y (by simp [opds, hy])]
 | mkfn f a b => simp only [vop]; rw [List.map_congr_left (l := a) fun y hy => he y (by simp [opds, hy]), List.map_congr_left (l := b) fun y hy => he y (by simp [opds, hy])]
 | pick a b c => simp only [vop]; rw [he a (by simp [opds]), he b (by simp [opds]), he c (by simp [opds])]
 | bin o x y => simp only [vop]; rw [he x (by simp [opds]), he y (by simp [opds])]
 | beq o x y => simp only [vop]; rw [he x (by simp [opds]), he y (by simp [opds])]
 | store n x y => simp only [vop]; rw [he x (by simp [opds]), he y (by simp [opds])]
 | idx n x y => simp only [vop]; rw [he x (by simp [opds]), he y (by simp [opds])]
 | idxStr x y => simp only [vop]; rw [he x (by simp [opds]), he y (by simp [opds])]
 | mkSl n z b x y => simp only [vop]; rw [he x (by simp [opds]), he y (by simp [opds])]
 | app n b z x y => simp only [vop]; rw [he x (by simp [opds]), he y (by simp [opds])]
 | alloc z => rfl
 | mv x => simp only [vop]; rw [he x (by simp [opds])]
 | un o x => simp only [vop]; rw [he x (by simp [opds])]
 | conv o x => simp only [vop]; rw [he x (by simp [opds])]
 | mvStr x => simp only [vop]; rw [he x (by simp [opds])]
 | eqnilS o x => simp only [vop]; rw [he x (by simp [opds])]
 | eqnilF o x => simp only [vop]; rw [he x (by simp [opds])]
 | box n x => simp only [vop]; rw [he x (by simp [opds])]
 | load g n x => simp only [vop]; rw [he x (by simp [opds])]
 | nilchk x => simp only [vop]; rw [he x (by simp [opds])]
 | fld n x => simp only [vop]; rw [he x (by simp [opds])]
 | fieldv g o n x => simp only [vop]; rw [he x (by simp [opds])]
 | ext x i => simp only [vop]; rw [he x (by simp [opds])]
 | len x => simp only [vop]; rw [he x (by simp [opds])]
 | lenStr x => simp only [vop]; rw [he x (by simp [opds])]
 | clr n z x => simp only [vop]; rw [he x (by simp [opds])]
 | cpy n x y => simp only [vop]; rw [he x (by simp [opds]), he y (by simp [opds])]
 | stop => rfl
def StepR (call:VCall) (nro:Nat) (o:VOper) (e:List Value) (h:VH) (g:List VH) (v:Value) (e' :List Value) (h' :VH) (g' :List VH):Prop:=
  (o.op.eff=true→g' =h::g)∧(o.op.eff=false→h' =h∧g' =g)∧
  ((vwanted e o.guard=some true∧vop call nro (vev e) h o.op=some (v,h')∧e' =vput e o.dst v∧(o.op.eff=false→ ∀x∈g.take o.chk,vop call nro (vev e) x o.op=some (v,x)))∨
   (vwanted e o.guard=some false∧v=undef∧e' =vput e o.dst undef∧h' =h))
theorem vdops_trace {call:VCall} {nro:Nat}: ∀(os:List VOper) (env:List Value) (h:VH) (hs:List VH) (r:List Value × VH),vdops call nro os env h hs=some r→
  ∃(E:Nat→List Value) (H:Nat→VH) (G:Nat→List VH) (V:Nat→Value),E 0=env∧H 0=h∧G 0=hs∧E os.length=r.1∧H os.length=r.2∧
   ∀(t:Nat) o,os[t]? =some o→StepR call nro o (E t) (H t) (G t) (V t) (E (t+1)) (H (t+1)) (G (t+1))
 | [], env, h, hs, r, hr => by
  simp only[vdops,Option.some.injEq]at hr
  subst hr
  exact⟨fun _=>env,fun _=>h,fun _=>hs,fun _=>undef,rfl,rfl,rfl,rfl,rfl,fun t o ho=>by simp at ho⟩
 | o :: os, env, h, hs, r, hr => by
  have key : ∃ v e' h' g', StepR call nro o env h hs v e' h' g' ∧ vdops call nro os e' h' g' = some r := by
   simp only[vdops]at hr
   split at hr
   ·rename_i hw
    split at hr
    ·rename_i v h' hv
     split at hr
     ·rename_i he
      exact⟨v,_,h',_,⟨fun _=>rfl,(fun h=>absurd (he.symm.trans h) (by simp)),.inl ⟨hw,hv,rfl,(fun h=>absurd (he.symm.trans h) (by simp))⟩⟩,hr⟩
     ·rename_i he
      have he:o.op.eff=false:=by simpa using he
      split at hr
      ·rename_i hall
       exact⟨v,_,h',_,⟨(fun h=>absurd (he.symm.trans h) (by simp)),fun _=>⟨vop_noneff he hv,rfl⟩,.inl ⟨hw,hv,rfl,fun _=>hall⟩⟩,hr⟩
      ·cases hr
    ·cases hr
   ·rename_i hw
    refine⟨undef,_,h,_,⟨fun he=>if_pos he,fun he=>⟨rfl,if_neg (by rw[he];simp)⟩,.inr ⟨hw,rfl,rfl,rfl⟩⟩,hr⟩
   ·cases hr
  obtain⟨v,e',h',g',hs',hr'⟩:=key
  obtain⟨E,H,G,V,h1,h2,h3,h4,h5,h6⟩:=vdops_trace os e' h' g' r hr'
  refine⟨fun t=>match t with|0=>env|t+1=>E t,fun t=>match t with|0=>h|t+1=>H t,fun t=>match t with|0=>hs|t+1=>G t,fun t=>match t with|0=>v|t+1=>V t,rfl,rfl,rfl,h4,h5,?_⟩
  intro t o' ho
  cases t with
  | zero =>
   simp at ho
   subst ho
   simp only[h1,h2,h3]
   exact hs'
  | succ t => exact h6 t o' (by simpa using ho)
theorem compOps_get {P:Program} {ops:Array Oper}: ∀ {l:List Oper} {vs:List VOper},compOps P ops l=some vs→vs.length=l.length∧ ∀(i:Nat) o,l[i]? =some o→ ∃vo,vs[i]? =some vo∧compOper P ops o=some vo
 | [], vs, h => by cases h; exact ⟨rfl, fun i o ho => by simp at ho⟩
 | o :: l, vs, h => by
  simp only[compOps]at h
  split at h
  ·rename_i v vs' hv hvs
   cases h
   obtain⟨h1,h2⟩:=compOps_get hvs
   refine⟨by simp[h1],fun i o' ho=> ?_⟩
   cases i with
   | zero => simp at ho; subst ho; exact ⟨v, rfl, hv⟩
   | succ i => exact h2 i o' (by simpa using ho)
  ·cases h
theorem okOrder_get {fs:List Nat} {ops:Array Oper} {B:Array Nat} {vs:Array VOper}: ∀ {π before:List Nat},okOrder fs ops B vs before π=true→ ∀(t i:Nat),π[t]? =some i→okOrderAt fs ops B vs (before++π.take t) i=true
 | [], _, _, t, i, hi => by simp at hi
 | j :: π, before, h, t, i, hi => by
  simp only[okOrder,Bool.and_eq_true]at h
  cases t with
  | zero => simp at hi; subst hi; simpa using h.1
  | succ t =>
   have:=okOrder_get h.2 t i (by simpa using hi)
   simpa using this
theorem laid_get {fs:List Nat} {B:Array Nat} {vs:Array VOper}: ∀ {π before:List Nat} (t i:Nat),π[t]? =some i→(laid fs B vs before π)[t]? =some { vs.getD i ⟨none,.alloc [],none,0⟩with chk:=chkOf fs B vs (before++π.take t) i}
 | [], _, t, i, hi => by simp at hi
 | j :: π, before, t, i, hi => by
  cases t with
  | zero => simp at hi; subst hi; simp [laid]
  | succ t =>
   have:=laid_get (fs:=fs) (B:=B) (vs:=vs) (π:=π) (before:=before++ [j]) t i (by simpa using hi)
   simpa [laid]using this
theorem laid_length {fs:List Nat} {B:Array Nat} {vs:Array VOper}: ∀ {π before:List Nat},(laid fs B vs before π).length=π.length
 | [], _ => rfl
 | _ :: π, before => by simp [laid, laid_length (π := π)]
theorem X.heap_eq {nro:Nat} {φ:Em} {L:PH} {w w1:World} (e:w1.heap=w.heap) (hrest:w1.os=w.os∧w1.tape=w.tape∧w1.output=w.output):X nro φ L w φ L w1:=
 ⟨fun _ o h=>⟨o,h,rfl,Nat.le_refl _,fun _=>rfl⟩,fun _ h _=> .inl ⟨h,rfl⟩,by rw[e];exact Nat.le_refl _,(fun _ _ _=>by rw[e]),hrest,fun _ _ _=>rfl⟩
end

/- New memory that is told by its operands alone: what it is to the virtual interpreter, and to the model. -/
section
open Go
section
variable {P:Program} {nro:Nat} {φ:Em} {h:VH} {w:World} {env:List Value} {a:Act} {v:Value} {h' :VH} {call:VCall} {op:VOp}
theorem late_form {ev:Operand→Value} (hl:lateOp op=true) (hv:vop call nro ev h op=some (v,h')):
  ∃(ob:VO) (mk:Nat→Value),v=mk h.length∧h' =h++ [ob]∧ ∀(ev2:Operand→Value) (h2:VH),(∀x∈opds op,ev2 x=ev x)→vop call nro ev2 h2 op=some (mk h2.length,h2++ [ob]):=by
 cases op with
 | alloc z =>
  simp only[vop,Option.some.injEq,Prod.mk.injEq]at hv
  exact⟨⟨0,z⟩,fun k=> .pointer (some ⟨k,0,some z.length⟩),hv.1.symm,hv.2.symm,fun _ _ _=>rfl⟩
 | buildSl sz z ps n =>
  simp only[vop]at hv
  obtain⟨cs,hf,hv⟩:=mapS hv
  simp only[Prod.mk.injEq]at hv
  refine⟨⟨sz,cs⟩,fun k=> .slice (some ⟨k,0,none⟩) n z.length,hv.1.symm,hv.2.symm,fun ev2 h2 he=> ?_⟩
  have e:ps.map (fun p=>(p.1,p.2.1,ev2 p.2.2))=ps.map (fun p=>(p.1,p.2.1,ev p.2.2)):=List.map_congr_left fun p hp=>by
   rw[he p.2.2 (List.mem_map.mpr ⟨p,hp,rfl⟩)]
  simp only[vop,e,hf,Option.map_some]
 | mkSl sz z bytes l c =>
  simp only[vop]at hv
  split at hv
  ·rename_i n m e1 e2
   split at hv
   ·rename_i hc
    simp only[Option.some.injEq,Prod.mk.injEq]at hv
    refine⟨⟨sz,(List.replicate n.toNat z).flatten⟩,fun k=> .slice (some ⟨k,0,none⟩) n.toNat (n.toNat * sz),hv.1.symm,hv.2.symm,fun ev2 h2 he=> ?_⟩
    have h1:=he l (by simp[opds])
    have h2:=he c (by simp[opds])
    simp only[vop,h1,h2,e1,e2,if_pos hc]
   ·cases hv
  ·cases hv
 | _ => cases hl
theorem compCall_late {P:Program} {c:Call} {op:VOp} (hl:lateOp op=true) (h:compCall P c=some op):False:=by
 unfold compCall at h
 generalize c.callee=cc at h
 cases cc with
 | value x =>
  cases x<;>dsimp only at h<;>repeat' split at h
  all_goals first
   | (cases h; done)
   | (cases h; cases hl; done)
   | (obtain ⟨_, _, h⟩ := Option.map_eq_some_iff.mp h; cases h; cases hl; done)
 | builtin b =>
  cases b<;>dsimp only at h<;>repeat' split at h
  all_goals first
   | (cases h; done)
   | (cases h; cases hl; done)
   | (obtain ⟨_, _, h⟩ := Option.map_eq_some_iff.mp h; cases h; cases hl; done)
 | invoke r n => cases h
structure LateRun (P:Program) (call:VCall) (nro:Nat) (op:VOp) (env:List Value) (φ:Em) (h:VH) (w:World) (a:Act) (o:Oper) (v:Value) (h' :VH) (ob:VO) (mk:Nat→Value) (C:Array Value) (e:TypeId) (v' :Value):Prop where
 form: ∀(ev2:Operand→Value) (h2:VH),(∀x∈opds op,ev2 x=vev env x)→vop call nro ev2 h2 op=some (mk h2.length,h2++ [ob])
 hv:v=mk h.length
 hh:h' =h++ [ob]
 run:(execOp a.eval o).run P w= .ok (.value v') (w.alloc (.cells C e (0,0)))
 rel: ∀(j:Nat) x,ob.cells[j]? =some x→ ∃x',C[j]? =some x' ∧CellR φ h.ph x x'
 val: ∀(φ2:Em) (h2:VH),TopR (setE φ2 h2.length ⟨w.heap.size,0,C.size⟩) (VH.ph (h2++ [ob])) (mk h2.length) v'
theorem late_buildSlice {dst:Option Tmp} {ty:TypeId} {pos:String} {after:Array Edge} {guard:Option (Nat × Bool)} (t:TypeId) (n:Nat) (parts:Array (Nat × Operand)) (hc:compOp P ⟨dst,.buildSlice t n parts,ty,pos,after,guard⟩=some op) (hE:RE φ h.ph env a)
  (hv:vop call nro (vev env) h op=some (v,h')): ∃ob mk C e v',LateRun P call nro op env φ h w a ⟨dst,.buildSlice t n parts,ty,pos,after,guard⟩ v h' ob mk C e v' :=by
 simp only[compOp]at hc
 split at hc
 ·rename_i e he
  split at hc
  ·rename_i z i hz hi
   split at hc
   ·rename_i hcond
    simp only[Bool.and_eq_true,decide_eq_true_eq]at hcond
    obtain⟨h1,h24⟩:=hcond
    obtain⟨ps,hps,rfl⟩:=mapS hc
    obtain⟨i',zv,hi',hzv,rfl,hsz,hcl⟩:=zerosOf_spec hz
    rw[hi]at hi'
    cases hi'
    simp only[vop]at hv
    obtain⟨cs,hf,hv⟩:=mapS hv
    simp only[Prod.mk.injEq]at hv
    obtain⟨rfl,rfl⟩:=hv
    have hu:=elemOf_spec he
    have hzr:=zero_rel (φ:=φ) (L:=h.ph) zv hcl n
    obtain⟨cells',hfill,hrel⟩:=fill_rel hE _ parts.toList ps _ _ cs hps hzr hf
    have hlen:cs.length=n * i.size:=by
     rw[vfill_length _ _ _ hf]
     simp[hsz]
    refine⟨⟨i.size,cs⟩,fun k=> .slice (some ⟨k,0,none⟩) n (List.replicate n zv.cells.toList).flatten.length,cells',e,.slice (some ⟨w.heap.size,0,none⟩) n n,fun ev2 h2 hev=> ?_,rfl,rfl,?_,fun j v hv=>hrel.get_toList j v hv,fun φ2 h2=> ?_⟩
    ·have e:ps.map (fun p=>(p.1,p.2.1,ev2 p.2.2))=ps.map (fun p=>(p.1,p.2.1,vev env p.2.2)):=List.map_congr_left fun p hp=>by
      rw[hev p.2.2 (List.mem_map.mpr ⟨p,hp,rfl⟩)]
     simp only[vop,e,hf,Option.map_some]
    ·have h24' : ¬(n * i.size>2 ^ 24):=by omega
     by_cases h0:n * i.size=0
     ·have hza:(Array.range (n * i.size)).map (fun x=>(#[]:Array Value)[x % (#[]:Array Value).size]!)=(Array.range (n * zv.cells.size)).map (zv.cells[· % zv.cells.size]!):=by
       rw[hsz,h0]
       apply Array.ext'
       simp
      rw[←hza]at hfill
      simp only[execOp,Instr.buildSlice,Sem.run_bind,run_und hu,Result.andThen_ok,sizeOf,run_info hi,Sem.run_pure,h24',if_false,if_pos h0]
      rw[Array.toList_map,hfill]
      simp[newRow]
     ·rw[hsz]at hfill
      simp only[execOp,Instr.buildSlice,Sem.run_bind,run_und hu,Result.andThen_ok,sizeOf,run_info hi,Sem.run_pure,h24',if_false,if_neg h0,zeroValue,hzv]
      rw[Array.toList_map,hsz,hfill]
      simp[newRow]
    ·have:=AtomR.sl (φ:=setE φ2 h2.length ⟨w.heap.size,0,cells'.size⟩) (k:=0) (n:=n) (c:=n) (tot:=(List.replicate n zv.cells.toList).flatten.length) (a:=⟨w.heap.size,0,none⟩) (ph_new h2 ⟨i.size,cs⟩) (by simp[hlen,hsz]) (by simp[hsz]) h1 (Nat.le_refl _)
      (by rw[setE_new];have:=hrel.length';simp at this;simp;omega) (.inr (by rw[setE_new]))
     exact .val (.cell (.atom this))
   ·cases hc
  ·cases hc
 ·cases hc
theorem late_makeSlice {dst:Option Tmp} {ty:TypeId} {pos:String} {after:Array Edge} {guard:Option (Nat × Bool)} (t:TypeId) (l c:Operand) (hc:compOp P ⟨dst,.makeSlice t l c,ty,pos,after,guard⟩=some op) (hE:RE φ h.ph env a)
  (hv:vop call nro (vev env) h op=some (v,h')): ∃ob mk C e v',LateRun P call nro op env φ h w a ⟨dst,.makeSlice t l c,ty,pos,after,guard⟩ v h' ob mk C e v' :=by
 simp only[compOp]at hc
 split at hc
 ·rename_i hx
  simp only[Bool.and_eq_true]at hx
  have el:=hE.ev hx.1
  have ec:=hE.ev hx.2
  split at hc
  ·rename_i e he
   split at hc
   ·rename_i z i hz hi
    split at hc
    ·rename_i hcond
     simp only[Bool.and_eq_true,decide_eq_true_eq]at hcond
     obtain⟨h1,h20⟩:=hcond
     cases hc
     obtain⟨i',zv,hi',hzv,rfl,hsz,hcl⟩:=zerosOf_spec hz
     rw[hi]at hi'
     cases hi'
     simp only[vop]at hv
     split at hv
     ·rename_i n m e1 e2
      rw[e1]at el
      rw[e2]at ec
      split at hv
      ·rename_i hcond
       obtain⟨rfl,h0,hb,hn⟩:=hcond
       simp only[Option.some.injEq,Prod.mk.injEq]at hv
       obtain⟨rfl,rfl⟩:=hv
       have hu:=elemOf_spec he
       have hzr:=zero_rel (φ:=φ) (L:=h.ph) zv hcl n.toNat
       have hwr:=wrap_small h0 hn
       refine⟨⟨i.size,(List.replicate n.toNat zv.cells.toList).flatten⟩,fun k=> .slice (some ⟨k,0,none⟩) n.toNat (n.toNat * i.size),(Array.range (n.toNat * zv.cells.size)).map (zv.cells[· % zv.cells.size]!),e,.slice (some ⟨w.heap.size,0,none⟩) n.toNat n.toNat,fun ev2 h2 hev=> ?_,rfl,rfl,?_,fun j v hv=>hzr.get_toList j v hv,fun φ2 h2=> ?_⟩
       ·have g1:=hev l (by simp[opds])
        have g2:=hev c (by simp[opds])
        simp only[vop,g1,g2,e1,e2]
        rw[if_pos ⟨trivial,h0,hb,hn⟩]
       ·have h4: ¬((i.bytes:Int) * n>2 ^ 48):=by omega
        have h5: ¬n<0:=by omega
        have h6: ¬n>n:=by omega
        by_cases h0:n.toNat * i.size=0
        ·have hza:(Array.range (n.toNat * i.size)).map (fun x=>(#[]:Array Value)[x % (#[]:Array Value).size]!)=(Array.range (n.toNat * zv.cells.size)).map (zv.cells[· % zv.cells.size]!):=by
          rw[hsz,h0]
          apply Array.ext'
          simp
         rw[←hza]
         simp only[execOp,Instr.makeSlice,Sem.run_bind,run_und hu,Result.andThen_ok,el.inv_int,ec.inv_int,asInt,asIntOf,Sem.run_pure,run_info hi,hwr,h4,h5,h6,decide_false,Bool.or_false,Bool.false_eq_true,if_false,run_askRoom,sizeOf,if_pos h0]
         simp[newRow]
        ·simp only[execOp,Instr.makeSlice,Sem.run_bind,run_und hu,Result.andThen_ok,el.inv_int,ec.inv_int,asInt,asIntOf,Sem.run_pure,run_info hi,hwr,h4,h5,h6,decide_false,Bool.or_false,Bool.false_eq_true,if_false,run_askRoom,sizeOf,if_neg h0,zeroValue,hzv]
         rw[hsz]
         simp[newRow]
       ·have hlen:(List.replicate n.toNat zv.cells.toList).flatten.length=n.toNat * i.size:=by simp[hsz]
        have:=AtomR.sl (φ:=setE φ2 h2.length ⟨w.heap.size,0,((Array.range (n.toNat * zv.cells.size)).map (zv.cells[· % zv.cells.size]!)).size⟩) (k:=0) (n:=n.toNat) (c:=n.toNat) (tot:=n.toNat * i.size) (a:=⟨w.heap.size,0,none⟩) (ph_new h2 ⟨i.size,(List.replicate n.toNat zv.cells.toList).flatten⟩) hlen.symm (by simp) h1 (Nat.le_refl _)
         (by rw[setE_new];simp[hsz]) (.inr (by rw[setE_new]))
        exact .val (.cell (.atom this))
      ·cases hv
     ·cases hv
    ·cases hc
   ·cases hc
  ·cases hc
 ·cases hc
theorem late_alloc {o:Oper} {t:TypeId} {z:List Value} (ho:o.op= .alloc t) (hz:zerosOf P t=some z):LateRun P call nro (.alloc z) env φ h w a o (.pointer (some ⟨h.length,0,some z.length⟩)) (h++ [⟨0,z⟩]) ⟨0,z⟩ (fun k=> .pointer (some ⟨k,0,some z.length⟩)) z.toArray t (.pointer (some ⟨w.heap.size,0,none⟩)):=by
 obtain⟨dst,oop,ty,pos,after,guard⟩:=o
 simp only at ho
 subst ho
 obtain⟨i,zv,hi,hzv,rfl,hsz,hcl⟩:=zerosOf_spec hz
 have e:zv.cells.toList.toArray=zv.cells:=by simp
 refine⟨fun _ _ _=>rfl,rfl,rfl,?_,fun j x hx=> ?_,fun φ2 h2=> ?_⟩
 ·rw[e]
  simp[execOp,Instr.alloc,zeroValue,run_info hi,hzv,newVar,newRow]
 ·rw[e]
  exact(closed_cells (φ:=φ) (L:=h.ph) hcl).get_toList j x hx
 ·have:=AtomR.ptr (φ:=setE φ2 h2.length ⟨w.heap.size,0,zv.cells.toList.toArray.size⟩) (k:=0) (tot:=zv.cells.toList.length) (ph_new h2 ⟨0,zv.cells.toList⟩) rfl
  rw[setE_new]at this
  exact .val (.cell (.atom this))
theorem late_ops {o:Oper} (hl:lateOp op=true) (hc:compOp P o=some op):(∃t z,o.op= .alloc t∧op= .alloc z∧zerosOf P t=some z)∨(∃t n parts,o.op= .buildSlice t n parts)∨ ∃t l c,o.op= .makeSlice t l c:=by
 unfold compOp at hc
 repeat' split at hc
 all_goals first
  | (cases hc; done)
  | exact (compCall_late hl hc).elim
  | exact .inr (.inl ⟨_, _, _, by assumption⟩)
  | exact .inr (.inr ⟨_, _, _, by assumption⟩)
  | (obtain ⟨_, _, hc⟩ := Option.map_eq_some_iff.mp hc; cases hc; cases hl; done)
  | (cases hc; exact .inl ⟨_, _, by assumption, rfl, by assumption⟩)
  | (cases hc; cases hl; done)
theorem late_run {o:Oper} (hl:lateOp op=true) (hc:compOp P o=some op) (hE:RE φ h.ph env a) (hv:vop call nro (vev env) h op=some (v,h')): ∃ob mk C e v',LateRun P call nro op env φ h w a o v h' ob mk C e v' :=by
 rcases late_ops hl hc with⟨t,z,h1,rfl,h3⟩|⟨t,n,parts,h1⟩|⟨t,l,c,h1⟩
 ·simp only[vop,Option.some.injEq,Prod.mk.injEq]at hv
  obtain⟨rfl,rfl⟩:=hv
  exact⟨_,_,_,_,_,late_alloc h1 h3⟩
 ·obtain⟨dst,oop,ty,pos,after,guard⟩:=o
  simp only at h1
  subst h1
  exact late_buildSlice t n parts hc hE hv
 ·obtain⟨dst,oop,ty,pos,after,guard⟩:=o
  simp only at h1
  subst h1
  exact late_makeSlice t l c hc hE hv
end
end

/- Regions whose order is open: the invariant along any order. -/
section
open Go
structure DD (P:Program) (nro:Nat) (call:VCall) (ops:Array Oper) where
 fs:List Nat
 B:Array Nat
 vs:Array VOper
 π:List Nat
 os:List VOper
 E:Nat→List Value
 H:Nat→VH
 G:Nat→List VH
 V:Nat→Value
 hB:B=befA ops.toList #[]
 hvs: ∀(i:Nat) o,ops[i]? =some o→ ∃vo,vs[i]? =some vo∧compOper P ops o=some vo
 hall: ∀i,i<ops.size→i∈π
 hat: ∀(t i:Nat),π[t]? =some i→okOrderAt fs ops B vs (π.take t) i=true
 hos: ∀(t i:Nat) vo,π[t]? =some i→vs[i]? =some vo→os[t]? =some { vo with chk:=chkOf fs B vs (π.take t) i}
 hG0:G 0= []
 hst: ∀(t:Nat) o,os[t]? =some o→StepR call nro o (E t) (H t) (G t) (V t) (E (t+1)) (H (t+1)) (G (t+1))
namespace DD
variable {P:Program} {nro:Nat} {call:VCall} {ops:Array Oper} (d:DD P nro call ops)
structure At (t i:Nat) (o:Oper) (vo:VOper):Prop where
 p:d.π[t]? =some i
 ho:ops[i]? =some o
 hv:d.vs[i]? =some vo
 hc:compOper P ops o=some vo
 hos:d.os[t]? =some { vo with chk:=chkOf d.fs d.B d.vs (d.π.take t) i}
theorem at_of {t i:Nat} (h:d.π[t]? =some i): ∃o vo,d.At t i o vo:=by
 have h1:=d.hat t i h
 unfold okOrderAt at h1
 simp only[Bool.and_eq_true]at h1
 have hi:i<ops.size:=by simpa using h1.1.1.1.1.1
 have ho:ops[i]? =some ops[i]:=by simp[hi]
 obtain⟨vo,hv,hc⟩:=d.hvs i _ ho
 exact⟨_,vo,h,ho,hv,hc,d.hos t i vo h hv⟩
variable {d}
theorem At.lt {t i:Nat} {o:Oper} {vo:VOper} (h:d.At t i o vo):i<ops.size:=(Array.getElem?_eq_some_iff.mp h.ho).1
theorem At.dst {t i:Nat} {o:Oper} {vo:VOper} (h:d.At t i o vo):vo.dst=o.dst∧compOp P o=some vo.op∧compGuard ops o.guard=some vo.guard:=by
 have:=h.hc
 unfold compOper at this
 split at this
 ·cases this;exact⟨rfl,by assumption,by assumption⟩
 ·cases this
theorem At.facts {t i:Nat} {o:Oper} {vo:VOper} (h:d.At t i o vo):i ∉ d.π.take t∧(∀e∈o.after.toList,Region.binds .any e=true→e.on∈d.π.take t∧e.on<i)∧
  ((vo.op.eff=true∨usesF d.fs d.vs i=true)→i ∉ d.fs→ ∀j∈d.π.take t,(d.B.getD i 0).testBit j=true)∧
  (∀j vo',d.vs[j]? =some vo' →j<ops.size→j≠i→(vo.dst≠none→vo'.dst≠vo.dst)∧ ∀s,vo'.dst=some s→s∈slotsOf vo→(d.B.getD i 0).testBit j=true∨(d.B.getD j 0).testBit i=true)∧
  (i∈d.fs→fltOK d.fs d.vs i=true):=by
 have h1:=d.hat t i h.p
 unfold okOrderAt at h1
 simp only[Bool.and_eq_true]at h1
 obtain⟨⟨⟨⟨⟨_,h2⟩,h3⟩,h4⟩,h6⟩,h5⟩:=h1
 refine⟨by simpa using h2,?_,?_,?_,?_⟩
 ·rw[h.ho]at h3
  intro e he hb
  have:=List.all_eq_true.mp h3 e he
  simp only[hb,Bool.not_true,Bool.false_or,Bool.and_eq_true,decide_eq_true_eq]at this
  exact⟨by simpa using this.1,this.2⟩
 ·intro he hf j hj
  have hf' :d.fs.contains i=false:=by simpa using hf
  have he' :(effI d.vs i||usesF d.fs d.vs i)=true:=by
   rcases he with he|he
   ·simp[effI,h.hv,he]
   ·simp[he]
  simp only[he',hf',Bool.not_true,Bool.false_or]at h4
  exact List.all_eq_true.mp h4 j hj
 ·intro j vo' hj hjl hne
  rw[h.hv]at h5
  have:=List.all_eq_true.mp h5 j (by simpa using hjl)
  rw[hj]at this
  have hne' :(j==i)=false:=by simpa using hne
  simp only[hne',Bool.false_or,Bool.and_eq_true]at this
  refine⟨fun hn=> ?_,fun s hs hsl=> ?_⟩
  ·cases hd:vo.dst with
   | none => exact absurd hd hn
   | some q => simpa [hd] using this.1
  ·have h6:=this.2
   rw[hs]at h6
   simp only[Bool.or_eq_true]at h6
   rcases h6 with(h6|h6)|h6
   ·simp at h6;exact absurd hsl h6
   ·exact .inl h6
   ·exact .inr h6
 ·intro hf
  have hf' :d.fs.contains i=true:=by simpa using hf
  rw[hf']at h6
  simpa using h6
theorem At.flt {t i:Nat} {o:Oper} {vo:VOper} (h:d.At t i o vo) (hf:i∈d.fs): ∃q,lateOp vo.op=true∧vo.guard=none∧vo.dst=some q∧usesF d.fs d.vs i=false:=by
 have:=h.facts.2.2.2.2 hf
 unfold fltOK at this
 rw[h.hv]at this
 split at this
 ·rename_i q op g e
  cases e
  simp only[Bool.and_eq_true,Bool.not_eq_true']at this
  exact⟨q,this.1,rfl,rfl,this.2⟩
 ·cases this
theorem uses_not {i j:Nat} {vo vj:VOper} {q:Nat} (hu:usesF d.fs d.vs i=false) (hv:d.vs[i]? =some vo) (hvj:d.vs[j]? =some vj) (hj:j∈d.fs) (hd:vj.dst=some q) (hq:q∈slotsOf vo):False:=by
 unfold usesF at hu
 rw[hv]at hu
 have:=List.any_eq_false.mp hu j hj
 rw[hvj]at this
 simp only[hd]at this
 exact this (by simpa using hq)
theorem pos_unique {t t' i:Nat} (h:d.π[t]? =some i) (h' :d.π[t']? =some i):t=t' :=by
 obtain⟨o,vo,ha⟩:=d.at_of h
 obtain⟨o',vo',ha'⟩:=d.at_of h'
 have f1:=ha.facts.1
 have f2:=ha'.facts.1
 rcases Nat.lt_trichotomy t t' with hlt|e|hlt
 ·exact absurd (List.mem_of_getElem? (show(d.π.take t')[t]? =some i by rw[List.getElem?_take,if_pos hlt];exact h)) f2
 ·exact e
 ·exact absurd (List.mem_of_getElem? (show(d.π.take t)[t']? =some i by rw[List.getElem?_take,if_pos hlt];exact h')) f1
theorem mem_take {t i:Nat}:i∈d.π.take t↔ ∃s,s<t∧d.π[s]? =some i:=by
 constructor
 ·intro h
  obtain⟨s,hs⟩:=List.getElem?_of_mem h
  rw[List.getElem?_take]at hs
  split at hs
  ·exact⟨s,by assumption,hs⟩
  ·cases hs
 ·rintro⟨s,hs,h⟩
  exact List.mem_of_getElem? (show(d.π.take t)[s]? =some i by rw[List.getElem?_take,if_pos hs];exact h)
theorem prefix_closed (t:Nat):Closed ops (fun i=>decide (i∈d.π.take t)):=by
 intro i o ho hi e he hb
 simp only[decide_eq_true_eq]at hi⊢
 obtain⟨s,hs,hp⟩:=mem_take.mp hi
 obtain⟨o',vo,ha⟩:=d.at_of hp
 have:o' =o:=by have:=ha.ho;rw[ho]at this;exact(Option.some.inj this).symm
 subst this
 obtain⟨s',hs',hp'⟩:=mem_take.mp (ha.facts.2.1 e he hb).1
 exact mem_take.mpr ⟨s',by omega,hp'⟩
theorem bef_closed {listed:Nat→Bool} (hc:Closed ops listed) {i j:Nat} (h:(d.B.getD i 0).testBit j=true) (hi:listed i=true):listed j=true:=by
 rw[d.hB]at h
 exact befA_spec hc ops.toList #[] rfl (fun i j hi=>by simp at hi) i j h hi
theorem bef_pos {t i j:Nat} (hp:d.π[t]? =some i) (h:(d.B.getD i 0).testBit j=true): ∃s,s≤t∧d.π[s]? =some j:=by
 have hm:decide (i∈d.π.take (t+1))=true:=by simpa using mem_take.mpr ⟨t,by omega,hp⟩
 have:=bef_closed (prefix_closed (t+1)) h hm
 simp only[decide_eq_true_eq]at this
 obtain⟨s,hs,hps⟩:=mem_take.mp this
 exact⟨s,by omega,hps⟩
def cnt (d:DD P nro call ops) (t:Nat):Nat:=((d.π.take t).filter fun j=>effI d.vs j).length
theorem cnt_succ {t i:Nat} (h:d.π[t]? =some i):d.cnt (t+1)=d.cnt t+if effI d.vs i then 1 else 0:=by
 unfold cnt
 rw[List.take_succ_eq_append_getElem (List.getElem?_eq_some_iff.mp h).1,List.filter_append,List.length_append]
 have:d.π[t]'((List.getElem?_eq_some_iff.mp h).1)=i:=(List.getElem?_eq_some_iff.mp h).2
 rw[this]
 congr 1
 cases hb:effI d.vs i<;>simp[hb,List.filter]
theorem effI_of {i:Nat} {vo:VOper} (h:d.vs[i]? =some vo):effI d.vs i=vo.op.eff:=by unfold effI;rw[h]
theorem H_same: ∀ {n s:Nat},s+n≤d.π.length→(∀q i,s≤q→q<s+n→d.π[q]? =some i→effI d.vs i=false)→d.H (s+n)=d.H s
 | 0, _, _, _ => rfl
 | n + 1, s, hl, hn => by
  have ih:=H_same (n:=n) (s:=s) (by omega) fun q i h1 h2=>hn q i h1 (by omega)
  obtain⟨i,hi⟩: ∃i,d.π[s+n]? =some i:=⟨_,List.getElem?_eq_getElem (by omega)⟩
  obtain⟨o,vo,ha⟩:=d.at_of hi
  have he:vo.op.eff=false:=by rw[←effI_of ha.hv];exact hn _ _ (by omega) (by omega) hi
  have:=(d.hst _ _ ha.hos).2.1 he
  rw[←Nat.add_assoc,this.1,ih]
theorem H_eq {s t:Nat} (hst:s≤t) (hl:t≤d.π.length) (hn: ∀q i,s≤q→q<t→d.π[q]? =some i→effI d.vs i=false):d.H t=d.H s:=by
 have:=H_same (d:=d) (n:=t - s) (s:=s) (by omega) fun q i h1 h2=>hn q i h1 (by omega)
 rw[show s+(t - s)=t by omega]at this
 exact this
theorem G_get : ∀ (t : Nat), t ≤ d.π.length → ∀ s, s ≤ t → d.cnt s < d.cnt t → (d.G t)[d.cnt t - 1 - d.cnt s]? = some (d.H s)
  | 0, _, s, hs, hc => by have : s = 0 := by omega
                          subst this;omega
  | t + 1, hl, s, hs, hc => by
    obtain⟨i,hi⟩: ∃i,d.π[t]? =some i:=⟨_,List.getElem?_eq_getElem (by omega)⟩
    obtain⟨o,vo,ha⟩:=d.at_of hi
    have hcs:=cnt_succ hi
    have hst:=d.hst _ _ ha.hos
    rw[effI_of ha.hv]at hcs
    have hle:s≤t:=by
      rcases Nat.lt_or_ge t s with h|h
      · have : s = t + 1 := by omega
        subst this;omega
      · exact h
    by_cases he:vo.op.eff=true
    · rw [he] at hcs
      simp only[if_true]at hcs
      rw[hst.1 he]
      by_cases hlt:d.cnt s<d.cnt t
      · rw [show d.cnt (t + 1) - 1 - d.cnt s = (d.cnt t - 1 - d.cnt s) + 1 by omega, List.getElem?_cons_succ]
        exact G_get t (by omega) s hle hlt
      · rw [show d.cnt (t + 1) - 1 - d.cnt s = 0 by omega, List.getElem?_cons_zero]
        congr 1
        refine H_eq hle (by omega) fun q j h1 h2 hq=> ?_
        -- a write at q would count
        cases hj:effI d.vs j with
        | false => rfl
        | true =>
          exfalso
          have h3:d.cnt s≤d.cnt q:=by
            unfold cnt
            have:d.π.take s=(d.π.take q).take s:=by rw[List.take_take,Nat.min_eq_left h1]
            rw[this]
            exact((List.take_sublist s _).filter _).length_le
          have h4:d.cnt (q+1)≤d.cnt t:=by
            unfold cnt
            have:d.π.take (q+1)=(d.π.take t).take (q+1):=by rw[List.take_take,Nat.min_eq_left h2]
            rw[this]
            exact((List.take_sublist (q+1) _).filter _).length_le
          have h5:=cnt_succ hq
          rw[hj]at h5
          simp only[if_true]at h5
          omega
    · have he : vo.op.eff = false := by simpa using he
      rw[he]at hcs
      simp only[Bool.false_eq_true,if_false,Nat.add_zero]at hcs
      rw[(hst.2.1 he).2,hcs]
      exact G_get t (by omega) s hle (by omega)
structure Inv (d:DD P nro call ops) (φ0:Em) (h0:VH) (w0:World) (a0:Act) (e0:List Value) (L:Nat→Bool) (β:Nat→Nat) (φ:Em) (s:Nat) (env:List Value) (a:Act) (w:World):Prop where
 hs:s≤d.π.length
 hpre: ∀(t i:Nat),d.π[t]? =some i→t<s→L i=true
 heff: ∀(t i:Nat),d.π[t]? =some i→effI d.vs i=true→i ∉ d.fs→L i=true→t<s
 hR:RH nro φ (VH.ph (d.H s)) w
 hX:X nro φ0 (VH.ph h0) w0 φ (VH.ph (d.H s)) w
 hE:RE φ (VH.ph (d.H s)) env a
 hd:a.defers=a0.defers
 hcl:Closed ops L
 hin: ∀i,L i=true→i<ops.size
 hW1: ∀(t i:Nat) vo (q:Nat),d.π[t]? =some i→d.vs[i]? =some vo→vo.dst=some q→L i=true→(i∈d.fs→t<s)→env[q]? =if q<e0.length then some (d.V t)else none
 hW2: ∀q:Nat,(∀(t i:Nat) vo,d.π[t]? =some i→d.vs[i]? =some vo→L i=true→vo.dst≠some q)→env[q]? =e0[q]?
 hlen:env.length=e0.length
 hg0: ∀b C,globTab b=some C→b<w0.heap.size
 hP: ∀(t i:Nat) vo (q:Nat),d.π[t]? =some i→d.vs[i]? =some vo→i∈d.fs→vo.dst=some q→L i=true→s≤t→
  ∃(ob:VO) (mk:Nat→Value) (C:Array Value) (ty:TypeId) (v' :Value),(d.V t=mk (d.H t).length∧d.H (t+1)=d.H t++ [ob])∧(q<e0.length→a.tmps[q]? =some v')∧w.heap[β i]? =some (.cells C ty (0,0))∧
   (∀(j:Nat) x,ob.cells[j]? =some x→ ∃x',C[j]? =some x' ∧CellR φ (VH.ph (d.H s)) x x')∧(∀(φ2:Em) (h2:VH),TopR (setE φ2 h2.length ⟨β i,0,C.size⟩) (VH.ph (h2++ [ob])) (mk h2.length) v')∧
   w0.heap.size≤β i∧ ∀j,(VH.ph (d.H s) j).isSome→(φ j).b≠β i
 hPd: ∀(t i t' i' :Nat),d.π[t]? =some i→d.π[t']? =some i' →i∈d.fs→i' ∈d.fs→L i=true→L i' =true→s≤t→s≤t' →i≠i' →β i≠β i'
theorem vput_length (env:List Value) (q:Option Nat) (v:Value):(vput env q v).length=env.length:=by cases q<;>simp[vput]
theorem vput_get (env:List Value) (q r:Nat) (v:Value):(vput env (some q) v)[r]? =if q=r then(if q<env.length then some v else none)else env[r]? :=by
 simp only[vput,List.getElem?_set]
theorem E_get (t:Nat) (ht:t≤d.π.length):(d.E t).length=(d.E 0).length∧
  (∀(s i:Nat) vo (q:Nat),s<t→d.π[s]? =some i→d.vs[i]? =some vo→vo.dst=some q→(d.E t)[q]? =if q<(d.E 0).length then some (d.V s)else none)∧
  (∀q:Nat,(∀(s i:Nat) vo,s<t→d.π[s]? =some i→d.vs[i]? =some vo→vo.dst≠some q)→(d.E t)[q]? =(d.E 0)[q]?):=by
 induction t with
 | zero => exact ⟨rfl, fun s i vo q hs => by omega, fun q _ => rfl⟩
 | succ t ih =>
  obtain⟨ih1,ih2,ih3⟩:=ih (by omega)
  obtain⟨i,hi⟩: ∃i,d.π[t]? =some i:=⟨_,List.getElem?_eq_getElem (by omega)⟩
  obtain⟨o,vo,ha⟩:=d.at_of hi
  have hst:=d.hst _ _ ha.hos
  have hE:d.E (t+1)=vput (d.E t) vo.dst (d.V t):=by
   rcases hst.2.2 with⟨_,_,h,_⟩|⟨_,h1,h2,_⟩
   ·exact h
   ·rw[h2,h1]
  refine⟨by rw[hE,vput_length,ih1],?_,?_⟩
  ·intro s j vj q hs hj hvj hq
   rw[hE]
   rcases Nat.lt_or_ge s t with hlt|hge
   ·have hne:vo.dst≠some q:=by
     intro he
     have hji:j≠i:=fun e=>by have:=pos_unique (d:=d) hj (e ▸ hi);omega
     obtain⟨oj,vj',haj⟩:=d.at_of hj
     have:vj' =vj:=by have:=haj.hv;rw[hvj]at this;exact(Option.some.inj this).symm
     subst this
     exact(ha.facts.2.2.2.1 j vj' hvj haj.lt hji).1 (by rw[he];simp) (by rw[he];exact hq)
    have:=ih2 s j vj q hlt hj hvj hq
    cases hvd:vo.dst with
    | none => exact this
    | some q' =>
     rw[vput_get,if_neg (fun e=>hne (by rw[hvd,e]))]
     exact this
   ·have hst' :s=t:=by omega
    subst hst'
    rw[hi]at hj
    cases hj
    rw[ha.hv]at hvj
    cases hvj
    rw[hq,vput_get,if_pos rfl,ih1]
  ·intro q hq
   have h1:=ih3 q fun s i vo hs=>hq s i vo (by omega)
   have h2:=hq t i vo (by omega) hi ha.hv
   rw[hE]
   cases hvd:vo.dst with
   | none => exact h1
   | some q' =>
    rw[vput_get,if_neg (fun e=>h2 (by rw[hvd,e]))]
    exact h1
variable {φ0 φ:Em} {h0:VH} {w0 w:World} {a0 a:Act} {e0 env:List Value} {L:Nat→Bool} {s:Nat}
def put1 (L:Nat→Bool) (i:Nat):Nat→Bool:=fun j=>L j||j==i
theorem put1_closed {i:Nat} {o:Oper} (hcl:Closed ops L) (ho:ops[i]? =some o) (hr: ∀e∈o.after.toList,Region.binds .any e=true→L e.on=true):Closed ops (put1 L i):=by
 intro j o' ho' hj e he hb
 unfold put1 at hj⊢
 simp only[Bool.or_eq_true,beq_iff_eq]at hj⊢
 rcases hj with hj|rfl
 ·exact .inl (hcl j o' ho' hj e he hb)
 ·rw[ho]at ho'
  cases ho'
  exact .inl (hr e he hb)
theorem same_slot {β:Nat→Nat} {t i:Nat} {o:Oper} {vo:VOper} (ha:d.At t i o vo) (hI:DD.Inv d φ0 h0 w0 a0 e0 L β φ s env a w) (he0:d.E 0=e0) (hr: ∀e∈o.after.toList,Region.binds .any e=true→L e.on=true) (hL:L i=false) {q:Nat} (hq:q∈slotsOf vo)
  (hfq: ∀(tj j:Nat) vj,d.π[tj]? =some j→d.vs[j]? =some vj→vj.dst=some q→j∈d.fs→tj<t→tj<s):
  env[q]? =(d.E t)[q]? :=by
 have htl:t<d.π.length:=(List.getElem?_eq_some_iff.mp ha.p).1
 obtain⟨k1,k2,k3⟩:=E_get (d:=d) t (by omega)
 have hcl' :=put1_closed hI.hcl ha.ho hr
 by_cases hw: ∃j vj,d.vs[j]? =some vj∧j<ops.size∧vj.dst=some q
 ·obtain⟨j,vj,hvj,hjl,hqj⟩:=hw
  obtain⟨tj,htj⟩:=List.getElem?_of_mem (d.hall j hjl)
  obtain⟨oj,vj',haj⟩:=d.at_of htj
  have:vj' =vj:=by have:=haj.hv;rw[hvj]at this;exact(Option.some.inj this).symm
  subst this
  -- the only one that writes q
  have honly: ∀(t' i' :Nat) vo',d.π[t']? =some i' →d.vs[i']? =some vo' →vo'.dst=some q→i' =j∧t' =tj:=by
   intro t' i' vo' hp' hv' hd'
   have:i' =j:=by
    apply Classical.byContradiction
    intro hne
    obtain⟨o'',vo'',ha''⟩:=d.at_of hp'
    have e:vo'' =vo' :=by have:=ha''.hv;rw[hv']at this;exact(Option.some.inj this).symm
    subst e
    exact(haj.facts.2.2.2.1 i' vo'' hv' ha''.lt hne).1 (by rw[hqj];simp) (by rw[hqj];exact hd')
   subst this
   exact⟨rfl,pos_unique (d:=d) hp' htj⟩
  by_cases hji:j=i
  ·-- it writes the place itself
   subst hji
   have:tj=t:=pos_unique (d:=d) htj ha.p
   subst this
   have w2:=hI.hW2 q fun t' i' vo' hp' hv' hl' hd' =>by
    obtain⟨rfl,_⟩:=honly t' i' vo' hp' hv' hd'
    exact absurd (hL.symm.trans hl') (by simp)
   have w3:=k3 q fun s' i' vo' hs' hp' hv' hd' =>by
    obtain⟨_,e⟩:=honly s' i' vo' hp' hv' hd'
    omega
   rw[w2,w3,he0]
  ·rcases(ha.facts.2.2.2.1 j vj' hvj hjl hji).2 q hqj hq with hb|hb
   ·have hl:L j=true:=by
     have:=bef_closed hcl' hb (by simp[put1])
     simpa [put1,hji]using this
    obtain⟨s',hs',hps'⟩:=bef_pos ha.p hb
    have hs'' :s' =tj:=pos_unique (d:=d) hps' htj
    have hlt:tj<t:=by
     rcases Nat.lt_or_ge tj t with h|h
     ·exact h
     ·exfalso
      have:tj=t:=by omega
      subst this
      exact hji (Option.some.inj (htj.symm.trans ha.p))
    rw[hI.hW1 tj j vj' q htj hvj hqj hl (fun hf=>hfq tj j vj' htj hvj hqj hf hlt),k2 tj j vj' q hlt htj hvj hqj,he0]
   ·have hl:L j=false:=by
     cases hlj:L j with
     | false => rfl
     | true =>
      have:=bef_closed hI.hcl hb hlj
      rw[hL]at this
      cases this
    obtain⟨s',hs',hps'⟩:=bef_pos htj hb
    have hs'' :s' =t:=pos_unique (d:=d) hps' ha.p
    have w2:=hI.hW2 q fun t' i' vo' hp' hv' hl' hd' =>by
     obtain⟨rfl,_⟩:=honly t' i' vo' hp' hv' hd'
     exact absurd (hl.symm.trans hl') (by simp)
    have w3:=k3 q fun s' i' vo' hs' hp' hv' hd' =>by
     obtain⟨_,e⟩:=honly s' i' vo' hp' hv' hd'
     omega
    rw[w2,w3,he0]
 ·have w2:=hI.hW2 q fun t' i' vo' hp' hv' _ hd' =>by
   obtain⟨o'',vo'',ha''⟩:=d.at_of hp'
   exact hw ⟨i',vo',hv',ha''.lt,hd'⟩
  have w3:=k3 q fun s' i' vo' _ hp' hv' hd' =>by
   obtain⟨o'',vo'',ha''⟩:=d.at_of hp'
   exact hw ⟨i',vo',hv',ha''.lt,hd'⟩
  rw[w2,w3,he0]
theorem getD_of {l l' :List Value} {q:Nat} (h:l[q]? =l'[q]?):l.getD q undef=l'.getD q undef:=by simp[List.getD,h]
theorem vev_same {e e' :List Value} {x:Operand} (h: ∀q,x= .tmp q→e[q]? =e'[q]?):vev e x=vev e' x:=by
 cases x with
 | tmp q => exact getD_of (h q rfl)
 | _ => rfl
theorem mem_slots_op {vo:VOper} {q:Nat} (h:Operand.tmp q∈opds vo.op):q∈slotsOf vo:=by
 unfold slotsOf
 rw[List.mem_append]
 exact .inl (List.mem_filterMap.mpr ⟨_,h,rfl⟩)
theorem vwanted_same {e e' :List Value} {g:Option (Nat × Bool)} (h: ∀q b,g=some (q,b)→e[q]? =e'[q]?):vwanted e g=vwanted e' g:=by
 cases g with
 | none => rfl
 | some p =>
  obtain⟨q,b⟩:=p
  simp only[vwanted]
  rw[getD_of (h q b rfl)]
theorem vwanted_none (e:List Value):vwanted e none=some true:=rfl
theorem All2.setl {α β:Type} {R:α→β→Prop} {x:α} {y:β} (hxy:R x y): ∀ {as:List α} {bs:List β} (i:Nat),All2 R as bs→bs[i]? =some y→All2 R (as.set i x) bs
 | _, _, _, .nil, _ => .nil
 | _, _, 0, .cons _ t, hb => by simp at hb; subst hb; exact .cons hxy t
 | _, _, i + 1, .cons h t, hb => .cons h (All2.setl hxy i t (by simpa using hb))
theorem adopt {φ:Em} {h:VH} {w:World} {nro:Nat} (hR:RH nro φ h.ph w) (hnr:nro≤h.length) (o:VO) {b:Nat} {C:Array Value} {ty:TypeId} (hb:w.heap[b]? =some (.cells C ty (0,0))) (hne: ∀j,(h.ph j).isSome→(φ j).b≠b) (hgb: ∀C,globTab b≠some C)
  (hC: ∀(j:Nat) v,o.cells[j]? =some v→ ∃v',C[j]? =some v' ∧CellR φ h.ph v v'):
  RH nro (setE φ h.length ⟨b,0,C.size⟩) (VH.ph (h++ [o])) w∧Grow φ h.ph (setE φ h.length ⟨b,0,C.size⟩) (VH.ph (h++ [o]))∧
  ∀ {φ0:Em} {h0:VH} {w0:World},X nro φ0 h0.ph w0 φ h.ph w→w0.heap.size≤b→X nro φ0 h0.ph w0 (setE φ h.length ⟨b,0,C.size⟩) (VH.ph (h++ [o])) w:=by
 have hse: ∀i,i<h.length→setE φ h.length ⟨b,0,C.size⟩ i=φ i:=fun i hi=>by unfold setE;rw[if_neg (by omega)]
 have hsn:setE φ h.length ⟨b,0,C.size⟩ h.length=⟨b,0,C.size⟩:=by unfold setE;rw[if_pos rfl]
 have hg:Grow φ h.ph (setE φ h.length ⟨b,0,C.size⟩) (VH.ph (h++ [o])):=fun i o' ho' =>
  ⟨o',VH.ph_push_old ho',rfl,Nat.le_refl _,fun _=>hse i (VH.ph_lt ho')⟩
 refine⟨⟨?_,?_,fun b' C' hb' =>⟨(hR.glob b' C' hb').1,fun i hi hn=> ?_⟩⟩,hg,?_⟩
 ·intro i o' hi
  rcases VH.ph_push hi with⟨hl,hi⟩|⟨rfl,rfl⟩
  ·obtain⟨C',ty',fz,hb,hc,hn⟩:=hR.cells i o' hi
   rw[hse i hl]
   refine⟨C',ty',fz,hb,fun j v hv=> ?_,hn⟩
   obtain⟨v',h1,h2⟩:=hc j v hv
   exact⟨v',h1,h2.grow hg⟩
  ·rw[hsn]
   refine⟨C,ty,(0,0),hb,fun j v hv=> ?_,fun _=>⟨rfl,rfl,rfl⟩⟩
   obtain⟨v',h1,h2⟩:=hC j v hv
   exact⟨v',by simpa using h1,h2.grow hg⟩
 ·intro i j hi hj hni hij
  obtain⟨oi,hi⟩:=Option.isSome_iff_exists.mp hi
  obtain⟨oj,hj⟩:=Option.isSome_iff_exists.mp hj
  rcases VH.ph_push hi with⟨hl,hi1⟩|⟨rfl,_⟩<;>rcases VH.ph_push hj with⟨hl',hj1⟩|⟨rfl,_⟩
  ·rw[hse i hl,hse j hl']
   exact hR.apart i j (by simp[hi1]) (by simp[hj1]) hni hij
  ·rw[hse i hl,hsn]
   exact hne i (by simp[hi1])
  ·rw[hsn,hse j hl']
   exact fun e=>hne j (by simp[hj1]) e.symm
  ·exact absurd rfl hij
 ·obtain⟨oi,hi⟩:=Option.isSome_iff_exists.mp hi
  rcases VH.ph_push hi with⟨hl,hi1⟩|⟨rfl,_⟩
  ·rw[hse i hl]
   exact(hR.glob b' C' hb').2 i (by simp[hi1]) hn
  ·rw[hsn]
   intro e
   exact hgb C' (by rw[show b=b' from e];exact hb')
 ·intro φ0 h0 w0 hX hb0
  refine⟨?_,?_,hX.size,hX.frame,hX.rest,?_⟩
  ·intro i oi hi
   obtain⟨o',h1,h2,h3,h4⟩:=hX.grow i oi hi
   exact⟨o',VH.ph_push_old h1,h2,h3,fun e=>by rw[hse i (VH.ph_lt h1)];exact h4 e⟩
  ·intro i hi hni
   obtain⟨oi,hi⟩:=Option.isSome_iff_exists.mp hi
   rcases VH.ph_push hi with⟨hl,hi1⟩|⟨rfl,_⟩
   ·rw[hse i hl]
    exact hX.fresh i (by simp[hi1]) hni
   ·rw[hsn]
    exact .inr hb0
  ·intro i hi hn
   rw[hse i (by omega)]
   exact hX.ro i hi hn
theorem flush {β:Nat→Nat} (hnr:nro≤h0.length) {i:Nat} (hp:d.π[s]? =some i) (hL:L i=true) (hI:DD.Inv d φ0 h0 w0 a0 e0 L β φ s env a w): ∃φ' env',DD.Inv d φ0 h0 w0 a0 e0 L β φ' (s+1) env' a w:=by
 obtain⟨o,vo,ha⟩:=d.at_of hp
 have hsl:s<d.π.length:=(List.getElem?_eq_some_iff.mp hp).1
 have hst:=d.hst _ _ ha.hos
 have hpre' : ∀(t i:Nat),d.π[t]? =some i→t<s+1→L i=true:=by
  intro t j hj ht
  by_cases e:t=s
  ·subst e
   rw[hp]at hj
   cases hj
   exact hL
  ·exact hI.hpre t j hj (by omega)
 by_cases hf:i∈d.fs
 ·-- the new variable
  obtain⟨q,_,hgd,hdq,_⟩:=ha.flt hf
  obtain⟨ob,mk,C,ty,v',⟨hV,hH⟩,hq1,hb,hclz,hval,hb0,hne⟩:=hI.hP s i vo q hp ha.hv hf hdq hL (Nat.le_refl _)
  obtain⟨r1,r2,r3⟩:=adopt hI.hR (Nat.le_trans hnr hI.hX.len) ob hb hne (fun C' hC' =>by have:=hI.hg0 _ _ hC';omega) hclz
  have hsn:setE φ (d.H s).length ⟨β i,0,C.size⟩ (d.H s).length=⟨β i,0,C.size⟩:=by unfold setE;rw[if_pos rfl]
  have hptr:TopR (setE φ (d.H s).length ⟨β i,0,C.size⟩) (VH.ph (d.H s++ [ob])) (d.V s) v' :=by
   rw[hV]
   exact hval φ (d.H s)
  refine⟨setE φ (d.H s).length ⟨β i,0,C.size⟩,env.set q (d.V s),⟨by omega,hpre',fun t j h1 h2 h3 h4=>Nat.lt_succ_of_lt (hI.heff t j h1 h2 h3 h4),by rw[hH];exact r1,by rw[hH];exact r3 hI.hX hb0,?_,hI.hd,hI.hcl,hI.hin,?_,?_,by rw[List.length_set];exact hI.hlen,hI.hg0,?_,?_⟩⟩
  ·rw[hH]
   have hE2:RE (setE φ (d.H s).length ⟨β i,0,C.size⟩) (VH.ph (d.H s++ [ob])) env a:=hI.hE.grow r2
   by_cases hql:q<e0.length
   ·exact All2.setl hptr q hE2 (by simpa using hq1 hql)
   ·rw[List.set_eq_of_length_le (by rw[hI.hlen];omega)]
    exact hE2
  ·intro t j vj q' hj hvj hq' hlj hfj
   by_cases e:t=s
   ·subst e
    rw[hp]at hj
    cases hj
    rw[ha.hv]at hvj
    cases hvj
    rw[hdq]at hq'
    cases hq'
    rw[List.getElem?_set,if_pos rfl,hI.hlen]
   ·have h1:=hI.hW1 t j vj q' hj hvj hq' hlj fun h=>by have:=hfj h;omega
    rw[List.getElem?_set,if_neg ?_]
    ·exact h1
    ·intro e2
     subst e2
     obtain⟨oj,vj',haj⟩:=d.at_of hj
     have:vj' =vj:=by have:=haj.hv;rw[hvj]at this;exact(Option.some.inj this).symm
     subst this
     have hji:j≠i:=fun e3=>e (pos_unique (d:=d) (e3 ▸ hj) hp)
     exact(ha.facts.2.2.2.1 j vj' hvj haj.lt hji).1 (by rw[hdq];simp) (by rw[hdq];exact hq')
  ·intro q' hq'
   have:=hq' s i vo hp ha.hv hL
   rw[List.getElem?_set,if_neg (fun e=>this (by rw[hdq,e]))]
   exact hI.hW2 q' hq'
  ·intro t j vj q' hj hvj hfj hdj hlj ht
   obtain⟨ob',mk',C',ty',v'',p0,p1,p2,p2',p2'',p3,p4⟩:=hI.hP t j vj q' hj hvj hfj hdj hlj (by omega)
   refine⟨ob',mk',C',ty',v'',p0,p1,p2,fun k x hx=> ?_,p2'',p3,fun k hk=> ?_⟩
   ·obtain⟨x',h1,h2⟩:=p2' k x hx
    rw[hH]
    exact⟨x',h1,h2.grow r2⟩
   have hji:i≠j:=fun e=>by have:=pos_unique (d:=d) hp (e ▸ hj);omega
   rw[hH]at hk
   obtain⟨ok,hk⟩:=Option.isSome_iff_exists.mp hk
   rcases VH.ph_push hk with⟨hl,hk1⟩|⟨rfl,_⟩
   ·have:setE φ (d.H s).length ⟨β i,0,C.size⟩ k=φ k:=by unfold setE;rw[if_neg (by omega)]
    rw[this]
    exact p4 k (by simp[hk1])
   ·rw[hsn]
    exact hI.hPd s i t j hp hj hf hfj hL hlj (Nat.le_refl _) (by omega) hji
  ·intro t j t' j' h1 h2 h3 h4 h5 h6 h7 h8 h9
   exact hI.hPd t j t' j' h1 h2 h3 h4 h5 h6 (by omega) (by omega) h9
 ·by_cases he:effI d.vs i=true
  ·exact absurd (hI.heff s i hp he hf hL) (Nat.lt_irrefl _)
  ·have he' :vo.op.eff=false:=by rw[←effI_of ha.hv];simpa using he
   have hH:d.H (s+1)=d.H s:=(hst.2.1 he').1
   refine⟨φ,env,⟨by omega,hpre',fun t j h1 h2 h3 h4=>Nat.lt_succ_of_lt (hI.heff t j h1 h2 h3 h4),by rw[hH];exact hI.hR,by rw[hH];exact hI.hX,by rw[hH];exact hI.hE,hI.hd,hI.hcl,hI.hin,?_,hI.hW2,hI.hlen,hI.hg0,?_,?_⟩⟩
   ·intro t j vj q' hj hvj hq' hlj hfj
    refine hI.hW1 t j vj q' hj hvj hq' hlj fun h=> ?_
    have:=hfj h
    have:t≠s:=fun e=>by
     subst e
     rw[hp]at hj
     cases hj
     exact hf h
    omega
   ·intro t j vj q' hj hvj hfj hdj hlj ht
    rw[hH]
    exact hI.hP t j vj q' hj hvj hfj hdj hlj (by omega)
   ·intro t j t' j' h1 h2 h3 h4 h5 h6 h7 h8 h9
    exact hI.hPd t j t' j' h1 h2 h3 h4 h5 h6 (by omega) (by omega) h9
theorem advance {β:Nat→Nat} (hnr:nro≤h0.length): ∀(n:Nat) {φ:Em} {s:Nat} {env:List Value},s+n≤d.π.length→(∀q j,d.π[q]? =some j→q<s+n→L j=true)→DD.Inv d φ0 h0 w0 a0 e0 L β φ s env a w→ ∃φ' env',DD.Inv d φ0 h0 w0 a0 e0 L β φ' (s+n) env' a w
 | 0, φ, s, env, _, _, hI => ⟨φ, env, hI⟩
 | n + 1, φ, s, env, hl, hall, hI => by
  obtain⟨i,hi⟩: ∃i,d.π[s]? =some i:=⟨_,List.getElem?_eq_getElem (by omega)⟩
  obtain⟨φ1,env1,h1⟩:=flush hnr hi (hall s i hi (by omega)) hI
  have:=advance hnr n (s:=s+1) (by omega) (fun q j hq hlt=>hall q j hq (by omega)) h1
  rw[show s+1+n=s+(n+1) by omega]at this
  exact this
theorem RH.more {nro:Nat} {φ:Em} {L:PH} {w w1:World} {C:Array Value} {ty:TypeId} (hR:RH nro φ L w) (hw:w1.heap=w.heap.push (.cells C ty (0,0))) (hrest:w1.os=w.os∧w1.tape=w.tape∧w1.output=w.output):
  RH nro φ L w1∧X nro φ L w φ L w1:=by
 have hold: ∀b,b<w.heap.size→w1.heap[b]? =w.heap[b]? :=fun b hb=>by rw[hw,Array.getElem?_push_lt hb];simp[hb]
 refine RH.mk' (fun i o hi=> ?_) hR.apart hR.glob ⟨fun _ o h=>⟨o,h,rfl,Nat.le_refl _,fun _=>rfl⟩,fun _ h _=> .inl ⟨h,rfl⟩,by rw[hw];simp,fun b hb _=>hold b hb,hrest,fun _ _ _=>rfl⟩
 obtain⟨C',ty',fz,hb,hc,hn⟩:=hR.cells i o hi
 exact⟨C',ty',fz,by rw[hold _ (hR.block_lt hi)];exact hb,hc,hn⟩
theorem next {β:Nat→Nat} (hS:CallSound P nro call) (hnr:nro≤h0.length) {t i:Nat} {o:Oper} {vo:VOper} (ha:d.At t i o vo) (hI0:DD.Inv d φ0 h0 w0 a0 e0 L β φ s env a w) (he0:d.E 0=e0) (hr: ∀e∈o.after.toList,Region.binds .any e=true→L e.on=true) (hL:L i=false)
  {K:Act→World→Prop} {Q:Exit→Act→World→Prop} (hK: ∀β' φ' s' env' a' w',DD.Inv d φ0 h0 w0 a0 e0 (put1 L i) β' φ' s' env' a' w' →K a' w'):wpOp P ops Q i K a w:=by
 have htl:t<d.π.length:=(List.getElem?_eq_some_iff.mp ha.p).1
 have hst:=d.hst _ _ ha.hos
 obtain⟨hdst,hcop,hcg⟩:=ha.dst
 have hts:s≤t:=by
  rcases Nat.lt_or_ge t s with h|h
  ·have:=hI0.hpre t i ha.p h
   rw[hL]at this
   cases this
  ·exact h
 have hcl' :=put1_closed hI0.hcl ha.ho hr
 have hin' : ∀j,put1 L i j=true→j<ops.size:=by
  intro j hj
  unfold put1 at hj
  simp only[Bool.or_eq_true,beq_iff_eq]at hj
  rcases hj with hj|rfl
  ·exact hI0.hin j hj
  ·exact ha.lt
 have hputL: ∀(e:List Value) (v:Value),e.length=e0.length→(vput e vo.dst v).length=e0.length:=fun e v he=>by rw[vput_length];exact he
 have hfresh: ∀q,vo.dst=some q→ ∀(t' i' :Nat) vo',d.π[t']? =some i' →d.vs[i']? =some vo' →vo'.dst=some q→i' =i:=by
  intro q hq t' i' vo' hp' hv' hd'
  apply Classical.byContradiction
  intro hne
  obtain⟨o'',vo'',ha''⟩:=d.at_of hp'
  exact(ha.facts.2.2.2.1 i' vo' hv' ha''.lt hne).1 (by rw[hq];simp) (by rw[hq];exact hd')
 have hne_of: ∀j,j≠i→(put1 L i j=true↔L j=true):=fun j hj=>by simp[put1,hj]
 simp only[wpOp,ha.ho]
 by_cases hf:i∈d.fs
 ·-- a new variable, before its time
  obtain⟨q,hlate,hgd,hdq,hun⟩:=ha.flt hf
  rw[hgd]at hcg
  rw[if_pos (wanted_rel hcg hI0.hE (vwanted_none env))]
  have hslot: ∀q∈slotsOf vo,env[q]? =(d.E t)[q]? :=fun q hq=>same_slot ha hI0 he0 hr hL hq fun tj j vj hpj hvj hdj hfj _=>(uses_not hun ha.hv hvj hfj hdj hq).elim
  have hops: ∀x∈opds vo.op,vev env x=vev (d.E t) x:=fun x hx=>vev_same fun q e=>hslot q (mem_slots_op (e ▸ hx))
  have hvt:vop call nro (vev (d.E t)) (d.H t) vo.op=some (d.V t,d.H (t+1)):=by
   rcases hst.2.2 with⟨_,hv,_⟩|⟨hw,_⟩
   ·exact hv
   ·rw[hgd]at hw;cases hw
  obtain⟨ob0,mk0,_,_,hform0⟩:=late_form hlate hvt
  obtain⟨ob,mk,C,ty,v',hlr⟩:=late_run (w:=w) hlate hcop hI0.hE (hform0 (vev env) (d.H s) hops)
  have hVt:d.V t=mk (d.H t).length∧d.H (t+1)=d.H t++ [ob]:=by
   have:=hlr.form (vev (d.E t)) (d.H t) fun x hx=>(hops x hx).symm
   rw[hvt]at this
   simpa using this
  obtain⟨hR1,hX1⟩:=RH.more (w1:=w.alloc (.cells C ty (0,0))) hI0.hR rfl ⟨rfl,rfl,rfl⟩
  refine .inl ?_
  unfold Oper.wp
  rw[hlr.run]
  have hlook: ∀b,b<w.heap.size→(w.alloc (.cells C ty (0,0))).heap[b]? =w.heap[b]? :=fun b hb=>by
   show(w.heap.push _)[b]? =_
   rw[Array.getElem?_push_lt hb];simp[hb]
  have hEl:env.length=a.tmps.size:=by have:=All2.length' hI0.hE;simpa using this
  let β' :Nat→Nat:=fun j=>if j=i then w.heap.size else β j
  have hb1:β' i=w.heap.size:=by simp[β']
  have hb2: ∀j,j≠i→β' j=β j:=fun j hj=>by simp[β',hj]
  refine hK β' φ s (vput env (some q) junk) _ _ ⟨hI0.hs,?_,?_,hR1,hI0.hX.trans hX1,?_,by rw[Act.put_defers',hI0.hd],hcl',hin',?_,?_,by rw[←hdq];exact hputL env _ hI0.hlen,hI0.hg0,?_,?_⟩
  ·intro t' i' hp' ht'
   have hne:i' ≠i:=fun e=>by have:=pos_unique (d:=d) hp' (e ▸ ha.p);omega
   exact(hne_of i' hne).mpr (hI0.hpre t' i' hp' ht')
  ·intro t' i' hp' hi' hf' hl'
   have hne:i' ≠i:=fun e=>hf' (e ▸ hf)
   exact hI0.heff t' i' hp' hi' hf' ((hne_of i' hne).mp hl')
  ·rw[←hdst,hdq]
   exact hI0.hE.put (some q) (.val (.cell (.atom (.junk none _))))
  ·intro t' i' vo' q' hp' hv' hd' hl' hff
   by_cases hii:i' =i
   ·subst hii
    have:t' =t:=pos_unique (d:=d) hp' ha.p
    have:=hff hf
    omega
   ·have hl:L i' =true:=(hne_of i' hii).mp hl'
    rw[vput_get,if_neg fun e=>hii (hfresh q hdq t' i' vo' hp' hv' (by rw[hd',e]))]
    exact hI0.hW1 t' i' vo' q' hp' hv' hd' hl hff
  ·intro q' hq
   have h1:=hI0.hW2 q' fun t' i' vo' hp' hv' hl' =>hq t' i' vo' hp' hv' (by simp[put1,hl'])
   have h2:=hq t i vo ha.p ha.hv (by simp[put1])
   rw[vput_get,if_neg fun e=>h2 (by rw[hdq,e])]
   exact h1
  ·intro t' i' vo' q' hp' hv' hf' hd' hl' ht'
   by_cases hii:i' =i
   ·subst hii
    rw[ha.hv]at hv'
    cases hv'
    rw[hdq]at hd'
    cases hd'
    have ht2:t' =t:=pos_unique (d:=d) hp' ha.p
    subst ht2
    rw[hb1]
    refine⟨ob,mk,C,ty,v',hVt,fun hql=> ?_,?_,hlr.rel,hlr.val,hI0.hX.size,fun j hj=> ?_⟩
    ·rw[←hdst,hdq]
     show(a.tmps.setIfInBounds q _)[q]? =_
     have:q<a.tmps.size:=by rw[←hEl,hI0.hlen];exact hql
     simp[this]
    ·show(w.heap.push _)[w.heap.size]? =_
     simp
    ·obtain⟨oj,hj⟩:=Option.isSome_iff_exists.mp hj
     have:=hI0.hR.block_lt hj
     omega
   ·obtain⟨ob',mk',C',ty',v'',p0,p1,p2,p2',p2'',p4,p5⟩:=hI0.hP t' i' vo' q' hp' hv' hf' hd' ((hne_of i' hii).mp hl') ht'
    rw[hb2 i' hii]
    refine⟨ob',mk',C',ty',v'',p0,fun hql=> ?_,?_,p2',p2'',p4,p5⟩
    ·rw[←hdst,hdq]
     show(a.tmps.setIfInBounds q _)[q']? =_
     have hqq:q≠q' :=fun e=>hii (hfresh q hdq t' i' vo' hp' hv' (by rw[hd',e]))
     rw[Array.getElem?_setIfInBounds_ne hqq]
     exact p1 hql
    ·rw[hlook _ (Array.getElem?_eq_some_iff.mp p2).1]
     exact p2
  ·intro t1 i1 t2 i2 h1 h2 h3 h4 h5 h6 h7 h8 h9
   have hlt: ∀(t' i' :Nat),d.π[t']? =some i' →i' ∈d.fs→i' ≠i→put1 L i i' =true→s≤t' →β i' <w.heap.size:=by
    intro t' i' hp' hf' hii hl' ht'
    obtain⟨o',vo',ha'⟩:=d.at_of hp'
    obtain⟨q',_,_,hd',_⟩:=ha'.flt hf'
    obtain⟨_,_,_,_,_,_,_,p2,_⟩:=hI0.hP t' i' vo' q' hp' ha'.hv hf' hd' ((hne_of i' hii).mp hl') ht'
    exact(Array.getElem?_eq_some_iff.mp p2).1
   by_cases e1:i1=i<;>by_cases e2:i2=i
   ·exact absurd (e1.trans e2.symm) h9
   ·rw[e1,hb1,hb2 i2 e2]
    have:=hlt t2 i2 h2 h4 e2 h6 h8
    omega
   ·rw[e2,hb1,hb2 i1 e1]
    have:=hlt t1 i1 h1 h3 e1 h5 h7
    omega
   ·rw[hb2 i1 e1,hb2 i2 e2]
    exact hI0.hPd t1 i1 t2 i2 h1 h2 h3 h4 ((hne_of i1 e1).mp h5) ((hne_of i2 e2).mp h6) h7 h8 h9
 ·-- what is known of the new variables stays
  have hPs: ∀(s' s2:Nat) (φ φ1:Em) (env1:List Value) (w1:World) (v' :Value),DD.Inv d φ0 h0 w0 a0 e0 L β φ s' env1 a w→X nro φ (VH.ph (d.H s')) w φ1 (VH.ph (d.H s2)) w1→s' ≤s2→
    (∀(t' i' :Nat) vo' (q' :Nat),d.π[t']? =some i' →d.vs[i']? =some vo' →i' ∈d.fs→vo'.dst=some q' →put1 L i i' =true→s2≤t' →
     ∃(ob:VO) (mk:Nat→Value) (C:Array Value) (ty:TypeId) (v'' :Value),(d.V t' =mk (d.H t').length∧d.H (t' +1)=d.H t' ++ [ob])∧(q' <e0.length→(a.put o.dst v').tmps[q']? =some v'')∧w1.heap[β i']? =some (.cells C ty (0,0))∧
      (∀(j:Nat) x,ob.cells[j]? =some x→ ∃x',C[j]? =some x' ∧CellR φ1 (VH.ph (d.H s2)) x x')∧(∀(φ2:Em) (h2:VH),TopR (setE φ2 h2.length ⟨β i',0,C.size⟩) (VH.ph (h2++ [ob])) (mk h2.length) v'')∧
      w0.heap.size≤β i' ∧ ∀j,(VH.ph (d.H s2) j).isSome→(φ1 j).b≠β i'):=by
   intro s' s2 φ φ1 env1 w1 v' hI hX hss t' i' vo' q' hp' hv' hf' hd' hl' ht'
   have hii:i' ≠i:=fun e=>hf (e ▸ hf')
   obtain⟨ob',mk',C',ty',v'',p0,p1,p2,p2',p2'',p4,p5⟩:=hI.hP t' i' vo' q' hp' hv' hf' hd' ((hne_of i' hii).mp hl') (by omega)
   have hbl:=(Array.getElem?_eq_some_iff.mp p2).1
   refine⟨ob',mk',C',ty',v'',p0,fun hql=> ?_,?_,fun j x hx=> ?_,p2'',p4,fun j hj=> ?_⟩
   ·rw[←hdst]
    cases hvd:vo.dst with
    | none => exact p1 hql
    | some q =>
     show(a.tmps.setIfInBounds q _)[q']? =_
     have hqq:q≠q' :=fun e=>hii (hfresh q hvd t' i' vo' hp' hv' (by rw[hd',e]))
     rw[Array.getElem?_setIfInBounds_ne hqq]
     exact p1 hql
   ·rw[hX.frame _ hbl fun j hj _=>p5 j hj]
    exact p2
   ·obtain⟨x',h1,h2⟩:=p2' j x hx
    exact⟨x',h1,h2.grow hX.grow⟩
   ·by_cases hjn:nro≤j
    ·rcases hX.fresh j hj hjn with⟨h1,h2⟩|h1
     ·rw[h2];exact p5 j h1
     ·omega
    ·have hjs:(VH.ph (d.H s') j).isSome:=by
      have h1:j<(d.H s').length:=Nat.lt_of_lt_of_le (by omega) (Nat.le_trans hnr hI.hX.len)
      simp[VH.ph,h1]
     rw[hX.ro j hjs (by omega)]
     exact p5 j hjs
  have hW1' : ∀(s1 s2:Nat) (φ1:Em) (env1:List Value),DD.Inv d φ0 h0 w0 a0 e0 L β φ1 s1 env1 a w→(∀(t' i' :Nat),d.π[t']? =some i' →i' ∈d.fs→t' <s2→t' <s1)→ ∀(v:Value),v=d.V t→ ∀(t' i' :Nat) vo' (q:Nat),d.π[t']? =some i' →d.vs[i']? =some vo' →vo'.dst=some q→put1 L i i' =true→(i' ∈d.fs→t' <s2)→(vput env1 vo.dst v)[q]? =if q<e0.length then some (d.V t')else none:=by
   intro s1 s2 φ1 env1 hI hs12 v hv t' i' vo' q hp' hv' hd' hl' hff
   by_cases hii:i' =i
   ·subst hii
    have:t' =t:=pos_unique (d:=d) hp' ha.p
    subst this
    have:vo' =vo:=by have:=ha.hv;rw[hv']at this;exact Option.some.inj this
    subst this
    rw[hd',vput_get,if_pos rfl,hI.hlen,hv]
   ·have hl:L i' =true:=(hne_of i' hii).mp hl'
    have:=hI.hW1 t' i' vo' q hp' hv' hd' hl fun h=>hs12 t' i' hp' h (hff h)
    cases hvd:vo.dst with
    | none => exact this
    | some q' =>
     rw[vput_get,if_neg fun e=>hii (hfresh q' hvd t' i' vo' hp' hv' (by rw[hd',e]))]
     exact this
  have hW2' : ∀(s1:Nat) (φ1:Em) (env1:List Value),DD.Inv d φ0 h0 w0 a0 e0 L β φ1 s1 env1 a w→ ∀(v:Value),∀q:Nat,(∀(t' i' :Nat) vo',d.π[t']? =some i' →d.vs[i']? =some vo' →put1 L i i' =true→vo'.dst≠some q)→(vput env1 vo.dst v)[q]? =e0[q]? :=by
   intro s1 φ1 env1 hI v q hq
   have h1:=hI.hW2 q fun t' i' vo' hp' hv' hl' =>hq t' i' vo' hp' hv' (by simp[put1,hl'])
   have h2:=hq t i vo ha.p ha.hv (by simp[put1])
   cases hvd:vo.dst with
   | none => exact h1
   | some q' =>
    rw[vput_get,if_neg fun e=>h2 (by rw[hvd,e])]
    exact h1
  have hPd' : ∀(s1 s2:Nat) (φ1:Em) (env1:List Value),DD.Inv d φ0 h0 w0 a0 e0 L β φ1 s1 env1 a w→s1≤s2→ ∀(t1 i1 t2 i2:Nat),d.π[t1]? =some i1→d.π[t2]? =some i2→i1∈d.fs→i2∈d.fs→put1 L i i1=true→put1 L i i2=true→s2≤t1→s2≤t2→i1≠i2→β i1≠β i2:=by
   intro s1 s2 φ1 env1 hI h12 t1 i1 t2 i2 h1 h2 h3 h4 h5 h6 h7 h8 h9
   have e1:i1≠i:=fun e=>hf (e ▸ h3)
   have e2:i2≠i:=fun e=>hf (e ▸ h4)
   exact hI.hPd t1 i1 t2 i2 h1 h2 h3 h4 ((hne_of i1 e1).mp h5) ((hne_of i2 e2).mp h6) (by omega) (by omega) h9
  by_cases heff:vo.op.eff=true∨usesF d.fs d.vs i=true
  ·-- it writes, or asks for new memory whose place is open: all before it has been carried out
   have hbefore: ∀q j,d.π[q]? =some j→q<t→L j=true:=by
    intro q j hq hlt
    have hb:=ha.facts.2.2.1 heff hf j (mem_take.mpr ⟨q,hlt,hq⟩)
    have:=bef_closed hcl' hb (by simp[put1])
    have hne:j≠i:=fun e=>by have:=pos_unique (d:=d) hq (e ▸ ha.p);omega
    exact(hne_of j hne).mp this
   obtain⟨φ,env,hI⟩:=advance hnr (t - s) (by omega) (fun q j hq hlt=>hbefore q j hq (by omega)) hI0
   rw[show s+(t - s)=t by omega]at hI
   have hnr' :nro≤(d.H t).length:=Nat.le_trans hnr hI.hX.len
   have hslot: ∀q∈slotsOf vo,env[q]? =(d.E t)[q]? :=fun q hq=>same_slot ha hI he0 hr hL hq fun _ _ _ _ _ _ _ h=>h
   have hwant:vwanted env vo.guard=vwanted (d.E t) vo.guard:=vwanted_same fun q b hg=>hslot q (by unfold slotsOf;rw[hg];simp)
   have hops: ∀x∈opds vo.op,vev env x=vev (d.E t) x:=fun x hx=>vev_same fun q e=>hslot q (mem_slots_op (e ▸ hx))
   have hpre' : ∀(t' i' :Nat),d.π[t']? =some i' →t' <t+1→put1 L i i' =true:=by
    intro t' i' hp' ht'
    by_cases e:t' =t
    ·subst e
     rw[ha.p]at hp'
     cases hp'
     simp[put1]
    ·have hne:i' ≠i:=fun e2=>e (pos_unique (d:=d) hp' (e2 ▸ ha.p))
     exact(hne_of i' hne).mpr (hbefore t' i' hp' (by omega))
   have heff' : ∀(t' i' :Nat),d.π[t']? =some i' →effI d.vs i' =true→i' ∉ d.fs→put1 L i i' =true→t' <t+1:=by
    intro t' i' hp' hi' hf' hl'
    by_cases e:i' =i
    ·subst e
     have:=pos_unique (d:=d) hp' ha.p
     omega
    ·have:=hI.heff t' i' hp' hi' hf' ((hne_of i' e).mp hl')
     omega
   have hs12: ∀(t' i' :Nat),d.π[t']? =some i' →i' ∈d.fs→t' <t+1→t' <t:=by
    intro t' i' hp' hf' ht'
    have:t' ≠t:=fun e=>by
     subst e
     rw[ha.p]at hp'
     cases hp'
     exact hf hf'
    omega
   rcases hst.2.2 with⟨hw,hv,hE',_⟩|⟨hw,hv,hE',hH'⟩
   ·rw[if_pos (wanted_rel hcg hI.hE (by rw[hwant];exact hw))]
    rw[←vop_congr hops]at hv
    refine .inl (vop_wp hS hnr' o hcop hI.hR hI.hE hv ?_)
    intro φ1 v' w1 hR1 hX1 hv1
    have hP2:=hPs t (t+1) φ φ1 env w1 v' hI
    refine hK β φ1 (t+1) (vput env vo.dst (d.V t)) _ _ ⟨by omega,hpre',heff',hR1,hI.hX.trans hX1,?_,by rw[Act.put_defers',hI.hd],hcl',hin',hW1' t (t+1) φ env hI hs12 _ rfl,hW2' t φ env hI _,hputL env _ hI.hlen,hI.hg0,hP2 hX1 (by omega),hPd' t (t+1) φ env hI (by omega)⟩
    rw[←hdst]
    exact(hI.hE.grow hX1.grow).put vo.dst hv1
   ·rw[if_neg (by rw[wanted_rel hcg hI.hE (by rw[hwant];exact hw)];simp)]
    have hP2:=hPs t (t+1) φ φ env w Go.undef hI
    rw[hH']at hP2
    refine hK β φ (t+1) (vput env vo.dst Go.undef) _ _ ⟨by omega,hpre',heff',by rw[hH'];exact hI.hR,by rw[hH'];exact hI.hX,?_,by rw[Act.put_defers',hI.hd],hcl',hin',hW1' t (t+1) φ env hI hs12 _ hv.symm,hW2' t φ env hI _,hputL env _ hI.hlen,hI.hg0,by rw[hH'];exact hP2 (X.heap_eq rfl ⟨rfl,rfl,rfl⟩) (by omega),hPd' t (t+1) φ env hI (by omega)⟩
    rw[←hdst,hH']
    exact hI.hE.put vo.dst .undef
  ·have heff0:vo.op.eff=false:=by simpa using fun e=>heff (.inl e)
   have hun:usesF d.fs d.vs i=false:=by simpa using fun e=>heff (.inr e)
   have heffI:effI d.vs i=false:=by rw[effI_of ha.hv];exact heff0
   have hI:=hI0
   have hnr' :nro≤(d.H s).length:=Nat.le_trans hnr hI.hX.len
   have hslot: ∀q∈slotsOf vo,env[q]? =(d.E t)[q]? :=fun q hq=>same_slot ha hI he0 hr hL hq fun tj j vj hpj hvj hdj hfj _=>(uses_not hun ha.hv hvj hfj hdj hq).elim
   have hwant:vwanted env vo.guard=vwanted (d.E t) vo.guard:=vwanted_same fun q b hg=>hslot q (by unfold slotsOf;rw[hg];simp)
   have hops: ∀x∈opds vo.op,vev env x=vev (d.E t) x:=fun x hx=>vev_same fun q e=>hslot q (mem_slots_op (e ▸ hx))
   have hpre' : ∀(t' i' :Nat),d.π[t']? =some i' →t' <s→put1 L i i' =true:=by
    intro t' i' hp' ht'
    have hne:i' ≠i:=fun e=>by have:=pos_unique (d:=d) hp' (e ▸ ha.p);omega
    exact(hne_of i' hne).mpr (hI.hpre t' i' hp' ht')
   have heff' : ∀(t' i' :Nat),d.π[t']? =some i' →effI d.vs i' =true→i' ∉ d.fs→put1 L i i' =true→t' <s:=by
    intro t' i' hp' hi' hf' hl'
    have hne:i' ≠i:=fun e=>by rw[e,heffI]at hi';cases hi'
    exact hI.heff t' i' hp' hi' hf' ((hne_of i' hne).mp hl')
   rcases hst.2.2 with⟨hw,hv,hE',hchk⟩|⟨hw,hv,hE',hH'⟩
   ·rw [if_pos (wanted_rel hcg hI.hE (by rw [hwant]; exact hw))]
    have hHt:vop call nro (vev (d.E t)) (d.H t) vo.op=some (d.V t,d.H t):=by
     have:=(hst.2.1 heff0).1
     rw[this]at hv
     exact hv
    have hvs : vop call nro (vev (d.E t)) (d.H s) vo.op = some (d.V t, d.H s) := by
     by_cases hcnt:d.cnt s<d.cnt t
     ·have hG := G_get (d := d) t (by omega) s hts hcnt
      refine hchk heff0 _ ?_
      have hk : d.cnt t - 1 - d.cnt s < chkOf d.fs d.B d.vs (d.π.take t) i := by
       have hsub:d.cnt t≤d.cnt s+chkOf d.fs d.B d.vs (d.π.take t) i:=by
        unfold cnt chkOf
        have e1:d.π.take t=d.π.take s++(d.π.take t).drop s:=by
         have:=List.take_append_drop s (d.π.take t)
         rw[List.take_take,Nat.min_eq_left hts]at this
         exact this.symm
        have e2:((d.π.take t).filter fun j=>effI d.vs j).length=((d.π.take s).filter fun j=>effI d.vs j).length+(((d.π.take t).drop s).filter fun j=>effI d.vs j).length:=by
         conv=>lhs;rw[e1]
         rw[List.filter_append,List.length_append]
        rw[e2]
        refine Nat.add_le_add_left ?_ _
        have e3 : ((d.π.take t).drop s).filter (fun j => effI d.vs j) = ((d.π.take t).drop s).filter (fun j => effI d.vs j && (d.fs.contains j || !(d.B.getD i 0).testBit j)) := by
         apply List.filter_congr
         intro j hj
         cases hej:effI d.vs j with
         | false => rfl
         | true =>
          by_cases hfj:j∈d.fs
          ·simp[hfj]
          ·obtain⟨q,hq⟩:=List.getElem?_of_mem hj
           rw[List.getElem?_drop,List.getElem?_take]at hq
           split at hq
           ·have hnl:L j=false:=by
             cases hlj:L j with
             | false => rfl
             | true => have := hI.heff _ j hq hej hfj hlj; omega
            cases hb:(d.B.getD i 0).testBit j with
            | false => simp
            | true =>
             have:=bef_closed hcl' hb (by simp[put1])
             have hne:j≠i:=fun e=>by rw[e,heffI]at hej;cases hej
             simp[put1,hne,hnl]at this
           ·cases hq
        rw[e3]
        exact((List.drop_sublist s _).filter _).length_le
       omega
      exact List.mem_of_getElem? (show((d.G t).take (chkOf d.fs d.B d.vs (d.π.take t) i))[d.cnt t - 1 - d.cnt s]? =some (d.H s) by rw[List.getElem?_take,if_pos hk];exact hG)
     ·have:d.H t=d.H s:=H_eq hts (by omega) fun q j h1 h2 hq=>by
       cases hj:effI d.vs j with
       | false => rfl
       | true =>
        exfalso
        have h3:d.cnt s≤d.cnt q:=by
         unfold cnt
         have:d.π.take s=(d.π.take q).take s:=by rw[List.take_take,Nat.min_eq_left h1]
         rw[this]
         exact((List.take_sublist s _).filter _).length_le
        have h4:d.cnt (q+1)≤d.cnt t:=by
         unfold cnt
         have:d.π.take (q+1)=(d.π.take t).take (q+1):=by rw[List.take_take,Nat.min_eq_left h2]
         rw[this]
         exact((List.take_sublist (q+1) _).filter _).length_le
        have h5:=cnt_succ (d:=d) hq
        rw[hj]at h5
        simp only[if_true]at h5
        omega
      rw[←this]
      exact hHt
    rw[←vop_congr hops]at hvs
    refine .inl (vop_wp hS hnr' o hcop hI.hR hI.hE hvs ?_)
    intro φ1 v' w1 hR1 hX1 hv1
    have hP2:=hPs s s φ φ1 env w1 v' hI
    refine hK β φ1 s (vput env vo.dst (d.V t)) _ _ ⟨hI.hs,hpre',heff',hR1,hI.hX.trans hX1,?_,by rw[Act.put_defers',hI.hd],hcl',hin',hW1' s s φ env hI (fun _ _ _ _ h=>h) _ rfl,hW2' s φ env hI _,hputL env _ hI.hlen,hI.hg0,hP2 hX1 (Nat.le_refl _),hPd' s s φ env hI (Nat.le_refl _)⟩
    rw[←hdst]
    exact(hI.hE.grow hX1.grow).put vo.dst hv1
   ·rw[if_neg (by rw[wanted_rel hcg hI.hE (by rw[hwant];exact hw)];simp)]
    have hP2:=hPs s s φ φ env w Go.undef hI
    refine hK β φ s (vput env vo.dst Go.undef) _ _ ⟨hI.hs,hpre',heff',hI.hR,hI.hX,?_,by rw[Act.put_defers',hI.hd],hcl',hin',hW1' s s φ env hI (fun _ _ _ _ h=>h) _ hv.symm,hW2' s φ env hI _,hputL env _ hI.hlen,hI.hg0,hP2 (X.heap_eq rfl ⟨rfl,rfl,rfl⟩) (Nat.le_refl _),hPd' s s φ env hI (Nat.le_refl _)⟩
    rw[←hdst]
    exact hI.hE.put vo.dst .undef
end DD
end

/- The virtual interpreter is right: whatever it tells of a call, the model's call comes to, in any order that Go leaves open. -/
section
open Go
namespace DD
variable {P:Program} {nro:Nat} {call:VCall} {ops:Array Oper} {d:DD P nro call ops}
variable {φ0:Em} {h0:VH} {w0:World} {a0:Act} {e0:List Value}
theorem Inv.congr {L L' :Nat→Bool} {β:Nat→Nat} (e: ∀i,L i=L' i) {φ:Em} {s:Nat} {env:List Value} {a:Act} {w:World} (h:DD.Inv d φ0 h0 w0 a0 e0 L β φ s env a w):DD.Inv d φ0 h0 w0 a0 e0 L' β φ s env a w:=by
 have:L=L' :=funext e
 rw[←this]
 exact h
def cntL (n:Nat) (listed:Array Bool):Nat:=((List.range n).filter fun i=> !listed.getD i false).length
theorem wpAny_inv (hS:CallSound P nro call) (hnr:nro≤h0.length) (he0:d.E 0=e0) (Q:Exit→Act→World→Prop)
  (hQ: ∀β φ s env a w,DD.Inv d φ0 h0 w0 a0 e0 (fun i=>decide (i<ops.size)) β φ s env a w→Q .normal a w): ∀(fuel:Nat) (listed:Array Bool),listed.size=ops.size→cntL ops.size listed≤fuel→
   ∀β φ s env a w,DD.Inv d φ0 h0 w0 a0 e0 (fun i=>listed.getD i false) β φ s env a w→wpAny P .any ops Q fuel listed a w:=by
 -- where nothing is ready all is done
 have hdone : ∀ (listed : Array Bool), listed.size = ops.size → ∀ β φ s env a w, DD.Inv d φ0 h0 w0 a0 e0 (fun i => listed.getD i false) β φ s env a w → Region.ready .any ops listed = [] → Q .normal a w := by
  intro listed hsz β φ s env a w hI hr
  have hall : ∀ i, i < ops.size → listed.getD i false = true := by
   intro i
   induction i using Nat.strongRecOn with
   | _ i ih =>
    intro hi
    cases hl:listed.getD i false with
    | true => rfl
    | false =>
     exfalso
     obtain⟨t,ht⟩:=List.getElem?_of_mem (d.hall i hi)
     obtain⟨o,vo,ha⟩:=d.at_of ht
     have:i∈Region.ready .any ops listed:=by
      unfold Region.ready
      rw[List.mem_filter]
      refine⟨by simpa using hi,?_⟩
      have hil:i<listed.size:=by omega
      have hl2:listed.getD i true=false:=by
       simp only[Array.getD,hil,dif_pos]at hl⊢
       exact hl
      rw[hl2,ha.ho]
      simp only[Bool.not_false,Bool.true_and,Option.map_some,Option.getD_some]
      rw[Array.all_eq_true_iff_forall_mem]
      intro e he
      cases hb:Region.binds .any e with
      | false => rfl
      | true =>
       have hlt:=(ha.facts.2.1 e (by simpa using he) hb).2
       simp[ih e.on hlt (by omega)]
     rw[hr]at this
     cases this
  refine hQ β φ s env a w (hI.congr fun i=> ?_)
  by_cases hi:i<ops.size
  ·rw[hall i hi];simp[hi]
  ·have:listed.getD i false=false:=by
    have: ¬i<listed.size:=by omega
    simp[Array.getD,this]
   rw[this];simp[hi]
 intro fuel
 induction fuel with
 | zero =>
  intro listed hsz hc β φ s env a w hI
  have hrd:Region.ready .any ops listed= []:=by
   have hz:(List.range ops.size).filter (fun i=> !listed.getD i false)= []:=List.length_eq_zero_iff.mp (Nat.le_zero.mp hc)
   apply List.eq_nil_iff_forall_not_mem.mpr
   intro i hi
   unfold Region.ready at hi
   rw[List.mem_filter]at hi
   have hi2:i<ops.size:=by simpa using hi.1
   have:i∈(List.range ops.size).filter (fun i=> !listed.getD i false):=by
    rw[List.mem_filter]
    refine⟨hi.1,?_⟩
    have h1:=hi.2
    simp only[Bool.and_eq_true]at h1
    have hil:i<listed.size:=by omega
    have h2:=h1.1
    simp only[Array.getD,hil,dif_pos]at h2⊢
    exact h2
   rw[hz]at this
   cases this
  exact⟨hrd,hdone listed hsz β φ s env a w hI hrd⟩
 | succ fuel ih =>
  intro listed hsz hc β φ s env a w hI
  refine⟨hdone listed hsz β φ s env a w hI,fun i hi=> ?_⟩
  unfold Region.ready at hi
  rw[List.mem_filter]at hi
  have hi2:i<ops.size:=by simpa using hi.1
  have hil:i<listed.size:=by omega
  have h1:=hi.2
  simp only[Bool.and_eq_true]at h1
  have hLi:listed.getD i false=false:=by
   have h2:=h1.1
   simp only[Array.getD,hil,dif_pos,Bool.not_eq_true']at h2⊢
   exact h2
  obtain⟨t,ht⟩:=List.getElem?_of_mem (d.hall i hi2)
  obtain⟨o,vo,ha⟩:=d.at_of ht
  have hready: ∀e∈o.after.toList,Region.binds .any e=true→listed.getD e.on false=true:=by
   intro e he hb
   have h2:=h1.2
   rw[ha.ho]at h2
   simp only[Option.map_some,Option.getD_some]at h2
   rw[Array.all_eq_true_iff_forall_mem]at h2
   have:=h2 e (by simpa using he)
   simpa [hb]using this
  refine next (d:=d) hS hnr ha hI he0 hready hLi fun β' φ' s' env' a' w' hI' => ?_
  refine ih (listed.setIfInBounds i true) (by simpa using hsz) ?_ β' φ' s' env' a' w' (hI'.congr fun j=> ?_)
  ·-- one more is listed
   have hset: ∀j,(listed.setIfInBounds i true).getD j false=(listed.getD j false||j==i):=by
    intro j
    by_cases e:j=i
    ·subst e;simp[Array.getD_eq_getD_getElem?,hil]
    ·simp only[Array.getD_eq_getD_getElem?]
     rw[Array.getElem?_setIfInBounds_ne (fun h=>e h.symm)]
     simp[e]
   unfold cntL at hc⊢
   have hsub:((List.range ops.size).filter fun j=> !(listed.setIfInBounds i true).getD j false)=((List.range ops.size).filter fun j=> !listed.getD j false).filter fun j=> !(j==i):=by
    rw[List.filter_filter]
    apply List.filter_congr
    intro j _
    rw[hset]
    cases listed.getD j false<;>simp
   rw[hsub]
   have hlt:(((List.range ops.size).filter fun j=> !listed.getD j false).filter fun j=> !(j==i)).length<((List.range ops.size).filter fun j=> !listed.getD j false).length:=by
    have hmem:i∈(List.range ops.size).filter fun j=> !listed.getD j false:=by
     rw[List.mem_filter]
     exact⟨by simpa using hi2,by rw[hLi];rfl⟩
    generalize(List.range ops.size).filter (fun j=> !listed.getD j false)=l at hmem
    have h3:=List.length_filter_lt_length_iff_exists (p:=fun j=> !(j==i)) (l:=l)
    exact h3.mpr ⟨i,hmem,by simp⟩
   omega
  ·show put1 (fun i=>listed.getD i false) i j=_
   unfold put1
   by_cases e:j=i
   ·subst e;simp[Array.getD_eq_getD_getElem?,hil]
   ·simp only[Array.getD_eq_getD_getElem?]
    rw[Array.getElem?_setIfInBounds_ne (fun h=>e h.symm)]
    simp[e]
end DD
theorem dsound_f {P : Program} {nro : Nat} {call : VCall} (hm : P.follows .mixedOrders = true) (hS : CallSound P nro call) {ops : Array Oper} {l : List VOper} (hl : compOps P ops ops.toList = some l) (fs : List Nat) {os : List VOper} (hos : compDf fs ops l.toArray (befA ops.toList #[]) = some os) {id : Nat} {φ : Em} {h : VH} {w : World} {env : List Value} {a : Act} {env' : List Value} {h' : VH}
    (hnr:nro≤h.length) (hR:RH nro φ h.ph w) (hE:RE φ h.ph env a) (hv:vdops call nro os env h []=some (env',h')):(Code.region id ops true).wp P (CP nro φ h w a .normal env' h') a w:=by
  unfold compDf at hos
  dsimp only at hos
  split at hos
  · rename_i hcond
    simp only[Bool.and_eq_true,beq_iff_eq]at hcond
    obtain⟨⟨hsz,hall⟩,hord⟩:=hcond
    cases hos
    obtain⟨hllen,hlget⟩:=compOps_get hl
    obtain⟨E,H,G,V,t1,t2,t3,t4,t5,t6⟩:=vdops_trace _ _ _ _ _ hv
    let d : DD P nro call ops :=
      { fs := fs, B := befA ops.toList #[], vs := l.toArray, π := orderOf fs (befA ops.toList #[]) l.toArray, os := laid fs (befA ops.toList #[]) l.toArray [] (orderOf fs (befA ops.toList #[]) l.toArray), E := E, H := H, G := G, V := V,
        hB:=rfl,
        hvs:=fun i o ho=>by
          obtain⟨vo,h1,h2⟩:=hlget i o (by simpa using ho)
          exact⟨vo,by simpa using h1,h2⟩,
        hall:=fun i hi=>by
          have:=List.all_eq_true.mp hall i (by simpa using hi)
          simpa using this,
        hat:=fun t i hi=>by simpa using okOrder_get hord t i hi,
        hos:=fun t i vo hi hvo=>by
          have:=laid_get (fs:=fs) (B:=befA ops.toList #[]) (vs:=l.toArray) (before:= []) t i hi
          rw[this]
          have e:l.toArray.getD i ⟨none,.alloc [],none,0⟩=vo:=by simp only[Array.getD_eq_getD_getElem?,hvo,Option.getD_some]
          rw[e]
          simp,
        hG0:=t3,
        hst:=t6}
    have hlen:d.os.length=d.π.length:=laid_length
    refine wp_region_any hm ?_
    refine DD.wpAny_inv (d:=d) (φ0:=φ) (h0:=h) (w0:=w) (a0:=a) (e0:=env) hS hnr t1 _ ?_ ops.size (Array.replicate ops.size false) (by simp) ?_ (fun _=>0) φ 0 env a _ ?_
    · -- the end
      intro β φ0' s0 env0 a1 w1 hI0
      obtain⟨φ',env1,hI⟩:=DD.advance hnr (d.π.length - s0) (by have:=hI0.hs;omega) (fun q j hq _=>by
        obtain⟨oj,vj,haj⟩:=d.at_of hq
        simpa using haj.lt) hI0
      rw[show s0+(d.π.length - s0)=d.π.length by have:=hI0.hs;omega]at hI
      have hHs:d.H d.π.length=h' :=by
        rw[←hlen]
        exact t5
      have henv:env1=env' :=by
        obtain⟨k1,k2,k3⟩:=DD.E_get (d:=d) d.π.length (Nat.le_refl _)
        have e1:d.E d.π.length=env' :=by rw[←hlen];exact t4
        rw[e1]at k1 k2 k3
        have e0:d.E 0=env:=t1
        apply List.ext_getElem?
        intro q
        by_cases hw: ∃(t i:Nat) (vo:VOper),d.π[t]? =some i∧d.vs[i]? =some vo∧vo.dst=some q
        · obtain ⟨t, i, vo, hp, hvo, hd⟩ := hw
          obtain⟨o',vo',ha⟩:=d.at_of hp
          have htl:=(List.getElem?_eq_some_iff.mp hp).1
          rw[hI.hW1 t i vo q hp hvo hd (by simpa using ha.lt) (fun _=>htl),k2 t i vo q htl hp hvo hd,e0]
        · rw[hI.hW2 q fun t i vo hp hvo _ hd=>hw ⟨t,i,vo,hp,hvo,hd⟩,k3 q fun t i vo _ hp hvo hd=>hw ⟨t,i,vo,hp,hvo,hd⟩,e0]
      subst henv
      refine⟨trivial,φ',?_,?_,?_,hI.hd⟩
      · rw[←hHs];exact hI.hR
      · rw[←hHs];exact hI.hE
      · rw[←hHs];exact hI.hX
    · unfold DD.cntL
      exact Nat.le_trans (List.length_filter_le _ _) (by simp)
    · -- the beginning
      have hH0:d.H 0=h:=t2
      have hfalse: ∀i,(Array.replicate ops.size false).getD i false=false:=by
        intro i
        simp only[Array.getD_eq_getD_getElem?,Array.getElem?_replicate]
        split<;>rfl
      have hno: ∀i,(Array.replicate ops.size false).getD i false=true→False:=fun i hi=>absurd ((hfalse i).symm.trans hi) (by simp)
      refine⟨Nat.zero_le _,fun t i hp ht=>by omega,fun t i hp _ _ hi=>(hno i hi).elim,?_,?_,?_,rfl,?_,fun i hi=>(hno i hi).elim,fun t i vo q _ _ _ hi=>(hno i hi).elim,fun q _=>rfl,rfl,fun b C hb=>by obtain⟨⟨ty,fz,h1⟩,_⟩:=hR.glob b C hb;exact(Array.getElem?_eq_some_iff.mp h1).1,fun t i vo q _ _ _ _ hi=>(hno i hi).elim,fun t i t' i' _ _ _ _ hi=>(hno i hi).elim⟩
      · rw[hH0];exact hR.heap_eq rfl
      · rw[hH0];exact X.heap_eq rfl ⟨rfl,rfl,rfl⟩
      · rw[hH0];exact hE
      · intro i o ho hi
        exact(hno i hi).elim
  · cases hos
theorem dsound {P:Program} {nro:Nat} {call:VCall} (hm:P.follows .mixedOrders=true) (hS:CallSound P nro call):DSound P nro call (compD P):=by
 intro ops os hos id φ h w env a env' h' hnr hR hE hv
 unfold compD at hos
 split at hos
 ·cases hos
 ·rename_i l hl
  dsimp only at hos
  split at hos
  ·rename_i os' h1
   cases hos
   exact dsound_f hm hS hl _ h1 hnr hR hE hv
  ·split at hos
   ·rename_i os' h1
    cases hos
    exact dsound_f hm hS hl _ h1 hnr hR hE hv
   ·exact dsound_f hm hS hl _ hos hnr hR hE hv
theorem sound {P:Program} {nro:Nat} (hm:P.follows .mixedOrders=true) (F:Nat→Option Ent) (hF: ∀f fn,F f=some (.ir fn)→EntOK P (compD P) f fn) (hX: ∀f g,F f=some (.ext g)→ExtOK P nro f g):CallSound P nro (vcall F nro):=
 call_sound F (compD P) hF hX fun _ hS=>dsound hm hS
end

/- The interpreter again, over places told by a function: made for symbolic steps. -/
section
open Go
abbrev FE:=Nat→Value
inductive FC where
 | skip
 | ops (os : List VOper)
 | dops (os : List VOper)
 | seq (a b : FC)
 | cond (x : Operand) (a b : FC)
 | block (id : Nat) (c : FC)
 | loop (live : List Nat) (c : FC)
 | keep (live : List Nat) (c : FC)
 | exit (id : Nat)
 | ret
structure FF where
 ntmps:Nat
 res:List VR
 body:FC
def bm (live:List Nat) (n:Nat):List Bool:=(List.range n).map fun t=>live.contains t
def FC.vc (n:Nat):FC→VC
 | .skip => .skip
 | .ops os => .ops os
 | .dops os => .dops os
 | .seq a b => .seq (a.vc n) (b.vc n)
 | .cond x a b => .cond x (a.vc n) (b.vc n)
 | .block id c => .block id (c.vc n)
 | .loop live c => .loop (bm live n) (c.vc n)
 | .keep live c => .keep (bm live n) (c.vc n)
 | .exit id => .exit id
 | .ret => .ret
def FF.vf (f:FF):VF:=⟨f.ntmps,f.res,f.body.vc f.ntmps⟩
def fl:List (Nat × Value)→FE
 | [] => fun _ => junk
 | (i, v) :: r => fun t => if t = i then v else fl r t
def fargs (args:List Value):FE:=fun t=>args.getD t undef
def fput (e:FE):Option Nat→Value→FE
 | some d, v => fun t => if t = d then v else e t
 | none, _ => e
def fev (e:FE):Operand→Value
 | .tmp t => e t
 | .const v => v
 | .global _ => junk
 | .func f => .func (.func f) #[] #[]
def fwanted (e:FE):Option (Nat × Bool)→Option Bool
 | none => some true
 | some (g, want) => match e g with
  | .bool b => some (b == want)
  | .tuple vs => if vs.size = 0 then some false else none
  | _ => none
def fops (call:VCall) (nro:Nat):List VOper→FE→VH→Option (FE × VH)
 | [], e, h => some (e, h)
 | o :: os, e, h =>
  match fwanted e o.guard with
  | some true => match vop call nro (fev e) h o.op with
   | some (v, h') => fops call nro os (fput e o.dst v) h'
   | none => none
  | some false => fops call nro os (fput e o.dst undef) h
  | none => none
open Classical in
noncomputable def fdops (call:VCall) (nro:Nat):List VOper→FE→VH→List VH→Option (FE × VH)
 | [], e, h, _ => some (e, h)
 | o :: os, e, h, hs =>
  match fwanted e o.guard with
  | some true => match vop call nro (fev e) h o.op with
   | some (v, h') =>
    if o.op.eff=true then fdops call nro os (fput e o.dst v) h' (h::hs)
    else if∀g∈hs.take o.chk,vop call nro (fev e) g o.op=some (v,g)then fdops call nro os (fput e o.dst v) h' hs else none
   | none => none
  | some false => fdops call nro os (fput e o.dst undef) h (if o.op.eff = true then h :: hs else hs)
  | none => none
noncomputable def fcode (call:VCall) (nro:Nat):FC→FE→VH→Option (VX × FE × VH)
 | .skip, e, h => some (.normal, e, h)
 | .ops os, e, h => match fops call nro os e h with
  | some (e', h') => some (.normal, e', h')
  | none => none
 | .dops os, e, h => match fdops call nro os e h [] with
  | some (e', h') => some (.normal, e', h')
  | none => none
 | .seq a b, e, h => match fcode call nro a e h with
  | some (.normal, e', h') => fcode call nro b e' h'
  | r => r
 | .cond x a b, e, h => match fev e x with
  | .bool true => fcode call nro a e h
  | .bool false => fcode call nro b e h
  | _ => none
 | .block id c, e, h => match fcode call nro c e h with
  | some (.exit id', e', h') => if id' = id then some (.normal, e', h') else some (.exit id', e', h')
  | r => r
 | .loop live c, e, h =>
  iter (fun s:List Value × VH=>match fcode call nro c (fl (live.zip s.1)) s.2 with
   | some (.normal, e', h') => some (.inl (cleanup h.length h (live.map e') h'))
   | some r => some (.inr r)
   | none => none) (live.map e, h)
 | .keep live c, e, h => fcode call nro c (fl (live.zip (live.map e))) h
 | .exit id, e, h => some (.exit id, e, h)
 | .ret, e, h => some (.ret, e, h)
def fres1 (e:FE) (h:VH):VR→Option Value
 | .tmp t => some (e t)
 | .cell t agg n => vload agg n h (e t)
def fresL (e:FE) (h:VH):List VR→Option (List Value)
 | [] => some []
 | r :: rs => match fres1 e h r, fresL e h rs with
  | some v, some vs => some (v :: vs)
  | _, _ => none
def fresults (e:FE) (h:VH) (rs:List VR):Option Value:=
 match fresL e h rs with
 | some [v] => some v
 | some vs => if vs.all notTup = true then some (.tuple vs.toArray) else none
 | none => none
noncomputable def fend (h:VH):Option Value→VH→Option (Value × VH)
 | some v, h' => some (((cleanup h.length h [v] h').1).getD 0 undef, (cleanup h.length h [v] h').2)
 | none, _ => none
noncomputable def fbody (call:VCall) (nro:Nat) (fn:FF) (args:List Value) (h:VH):Option (Value × VH):=
 match fcode call nro fn.body (fargs args) h with
 | some (.exit _, _, _) => none
 | some (_, e, h') => fend h (fresults e h' fn.res) h'
 | none => none
def ltO (n:Nat):Operand→Bool
 | .tmp t => decide (t < n)
 | _ => true
def okOper (n:Nat) (o:VOper):Bool:=(opds o.op).all (ltO n) && (match o.dst with
 | some d => decide (d < n)
 | none => true) && (match o.guard with
 | some (g, _) => decide (g < n)
 | none => true)
def okLive (n:Nat) (live:List Nat):Bool:=live==(List.range n).filter fun t=>live.contains t
def FC.ok (n:Nat):FC→Bool
 | .ops os => os.all (okOper n)
 | .dops os => os.all (okOper n)
 | .seq a b => a.ok n && b.ok n
 | .cond x a b => ltO n x && a.ok n && b.ok n
 | .block _ c => c.ok n
 | .loop live c => okLive n live && c.ok n
 | .keep live c => okLive n live && c.ok n
 | _ => true
def ltR (n:Nat):VR→Bool
 | .tmp t => decide (t < n)
 | .cell t _ _ => decide (t < n)
def FF.ok (f:FF):Bool:=f.body.ok f.ntmps && f.res.all (ltR f.ntmps)
def FRel (n:Nat) (e:FE) (env:List Value):Prop:=env.length=n∧ ∀t,t<n→env.getD t undef=e t
theorem FRel.ev {n:Nat} {e:FE} {env:List Value} (h:FRel n e env) {x:Operand} (hx:ltO n x=true):vev env x=fev e x:=by
 cases x with
 | tmp t => exact h.2 t (by simpa [ltO] using hx)
 | _ => rfl
theorem FRel.put {n:Nat} {e:FE} {env:List Value} (h:FRel n e env) (d:Option Nat) (v:Value):FRel n (fput e d v) (vput env d v):=by
 refine⟨by rw[DD.vput_length];exact h.1,fun t ht=> ?_⟩
 cases d with
 | none => exact h.2 t ht
 | some d =>
  have:=DD.vput_get env d t v
  rw[List.getD_eq_getElem?_getD,this]
  simp only[fput]
  by_cases hd:d=t
  ·subst hd;simp[h.1,ht]
  ·rw[if_neg hd,if_neg (fun e=>hd e.symm),←List.getD_eq_getElem?_getD]
   exact h.2 t ht
theorem FRel.wanted {n:Nat} {e:FE} {env:List Value} (h:FRel n e env) {g:Option (Nat × Bool)} (hg:(match g with
 | some (g, _) => decide (g < n)
 | none => true) = true) : vwanted env g = fwanted e g := by
 cases g with
 | none => rfl
 | some p =>
  obtain⟨g,b⟩:=p
  have:g<n:=by simpa using hg
  simp only[vwanted,fwanted,h.2 g this]
  rfl
theorem FRel.vop {n:Nat} {e:FE} {env:List Value} {call:VCall} {nro:Nat} (h:FRel n e env) {o:VOper} (ho:okOper n o=true) (hp:VH):vop call nro (vev env) hp o.op=vop call nro (fev e) hp o.op:=by
 apply vop_congr
 intro x hx
 unfold okOper at ho
 simp only[Bool.and_eq_true]at ho
 exact h.ev (List.all_eq_true.mp ho.1.1 x hx)
theorem okOper_g {n:Nat} {o:VOper} (ho:okOper n o=true):(match o.guard with
 | some (g, _) => decide (g < n)
 | none => true) = true := by
 unfold okOper at ho
 simp only[Bool.and_eq_true]at ho
 exact ho.2
theorem fops_sound {n:Nat} {call:VCall} {nro:Nat}: ∀(os:List VOper) (e:FE) (env:List Value) (h:VH) (e' :FE) (h' :VH),os.all (okOper n)=true→FRel n e env→fops call nro os e h=some (e',h')→
  ∃env',vops call nro os env h=some (env',h')∧FRel n e' env'
 | [], e, env, h, e', h', _, hr, hv => by
  simp only[fops,Option.some.injEq,Prod.mk.injEq]at hv
  obtain⟨rfl,rfl⟩:=hv
  exact⟨env,rfl,hr⟩
 | o :: os, e, env, h, e', h', hok, hr, hv => by
  simp only[List.all_cons,Bool.and_eq_true]at hok
  simp only[fops,←hr.wanted (okOper_g hok.1),←hr.vop hok.1]at hv
  simp only[vops]
  split at hv
  ·rename_i hw
   split at hv
   ·rename_i hv1
    simp only[hw,hv1]
    exact fops_sound os _ _ _ _ _ hok.2 (hr.put o.dst _) hv
   ·cases hv
  ·rename_i hw
   simp only[hw]
   exact fops_sound os _ _ _ _ _ hok.2 (hr.put o.dst _) hv
  ·cases hv
theorem fdops_sound {n:Nat} {call:VCall} {nro:Nat}: ∀(os:List VOper) (e:FE) (env:List Value) (h:VH) (hs:List VH) (e' :FE) (h' :VH),os.all (okOper n)=true→FRel n e env→fdops call nro os e h hs=some (e',h')→
  ∃env',vdops call nro os env h hs=some (env',h')∧FRel n e' env'
 | [], e, env, h, hs, e', h', _, hr, hv => by
  simp only[fdops,Option.some.injEq,Prod.mk.injEq]at hv
  obtain⟨rfl,rfl⟩:=hv
  exact⟨env,rfl,hr⟩
 | o :: os, e, env, h, hs, e', h', hok, hr, hv => by
  simp only[List.all_cons,Bool.and_eq_true]at hok
  simp only[fdops,←hr.wanted (okOper_g hok.1),←hr.vop hok.1]at hv
  simp only[vdops]
  split at hv
  ·rename_i hw
   split at hv
   ·rename_i hv1
    simp only[hw,hv1]
    split at hv
    ·rename_i he
     rw[if_pos he]
     exact fdops_sound os _ _ _ _ _ _ hok.2 (hr.put o.dst _) hv
    ·rename_i he
     rw[if_neg he]
     split at hv
     ·rename_i hh
      rw[if_pos fun g hg=>(hr.vop hok.1 g).trans (hh g hg)]
      exact fdops_sound os _ _ _ _ _ _ hok.2 (hr.put o.dst _) hv
     ·cases hv
   ·cases hv
  ·rename_i hw
   simp only[hw]
   exact fdops_sound os _ _ _ _ _ _ hok.2 (hr.put o.dst _) hv
  ·cases hv
def menv (live:List Nat) (n:Nat) (f:Nat→Value):List Value:=(List.range n).map fun t=>if live.contains t=true then f t else junk
theorem maskEnv_eq_zip: ∀(m:List Bool) (env:List Value),m.length=env.length→maskEnv m env=(m.zip env).map fun p=>if p.1=true then p.2 else junk
 | [], [], _ => rfl
 | b :: m, v :: env, h => by
  simp only[maskEnv,List.zip_cons_cons,List.map_cons]
  rw[maskEnv_eq_zip m env (by simpa using h)]
 | [], _ :: _, h => by simp at h
 | _ :: _, [], h => by simp at h
theorem FRel.mask {n:Nat} {e:FE} {env:List Value} (h:FRel n e env) (live:List Nat):maskEnv (bm live n) env=menv live n e:=by
 rw[maskEnv_eq_zip _ _ (by simp[bm,h.1])]
 apply List.ext_getElem?
 intro t
 simp only[menv,bm,List.getElem?_map]
 by_cases ht:t<n
 ·have h1:env[t]? =some (e t):=by
   have:=h.2 t ht
   rw[List.getD_eq_getElem?_getD]at this
   have hl:t<env.length:=by rw[h.1];exact ht
   rw[List.getElem?_eq_getElem hl]at this⊢
   simpa using this
  simp[List.zip,List.getElem?_zipWith,ht,h1]
 ·have h1:env[t]? =none:=List.getElem?_eq_none (by rw[h.1];omega)
  simp[List.zip,List.getElem?_zipWith,ht,h1]
theorem fl_zip (live:List Nat) (f:Nat→Value) (t:Nat):fl (live.zip (live.map f)) t=if t∈live then f t else junk:=by
 induction live with
 | nil => rfl
 | cons i live ih =>
  simp only[List.map_cons,List.zip_cons_cons,fl]
  by_cases ht:t=i
  ·subst ht;simp
  ·rw[if_neg ht,ih];simp[ht]
theorem FRel.menv {n:Nat} (live:List Nat) (f:Nat→Value):FRel n (fl (live.zip (live.map f))) (menv live n f):=by
 refine⟨by simp[Zv.menv],fun t ht=> ?_⟩
 rw[fl_zip,List.getD_eq_getElem?_getD]
 simp only[Zv.menv,List.getElem?_map,List.getElem?_range ht,Option.map_some,Option.getD_some,List.contains_iff_mem]
theorem flatMap_if (p:Nat→Bool) (f:Nat→Value) (l:List Nat):(l.map fun t=>if p t=true then f t else junk).flatMap trefs=((l.filter p).map f).flatMap trefs:=by
 induction l with
 | nil => rfl
 | cons i l ih =>
  simp only[List.map_cons,List.flatMap_cons,List.filter_cons,ih]
  cases hp:p i
  ·rfl
  ·simp
theorem okLive_eq {n:Nat} {live:List Nat} (h:okLive n live=true):live=(List.range n).filter fun t=>live.contains t:=by
 simpa [okLive]using h
theorem cleanup_menv {n:Nat} {live:List Nat} (hl:okLive n live=true) (base:Nat) (h0 h:VH) (f:Nat→Value): ∃g:Nat→Value,(cleanup base h0 (live.map f) h).1=live.map g∧cleanup base h0 (Zv.menv live n f) h=(Zv.menv live n g,(cleanup base h0 (live.map f) h).2):=by
 have hk:keepL base (Zv.menv live n f)=keepL base (live.map f):=by
  unfold keepL Zv.menv
  rw[flatMap_if]
  rw[←okLive_eq hl]
 unfold cleanup
 rw[hk]
 by_cases hc:okT base h0 (h.take base)∧flatL base (keepL base (live.map f)) h
 ·rw[if_pos hc,if_pos hc]
  refine⟨fun t=>tren (renOf base (keepL base (live.map f))) (f t),by simp,?_⟩
  simp only[Zv.menv,List.map_map]
  congr 1
  apply List.map_congr_left
  intro t _
  simp only[Function.comp]
  split<;>rfl
 ·rw[if_neg hc,if_neg hc]
  exact⟨f,rfl,rfl⟩
theorem fcode_sound {n:Nat} {call:VCall} {nro:Nat}: ∀(c:FC) (e:FE) (env:List Value) (h:VH) (x:VX) (e' :FE) (h' :VH),c.ok n=true→FRel n e env→fcode call nro c e h=some (x,e',h')→
  ∃env',vcode call nro (c.vc n) env h=some (x,env',h')∧FRel n e' env'
 | .skip, e, env, h, x, e', h', _, hr, hv => by
  simp only[fcode,Option.some.injEq,Prod.mk.injEq]at hv
  obtain⟨rfl,rfl,rfl⟩:=hv
  exact⟨env,rfl,hr⟩
 | .ops os, e, env, h, x, e', h', hok, hr, hv => by
  simp only[fcode]at hv
  split at hv
  ·rename_i e1 h1 hv1
   simp only[Option.some.injEq,Prod.mk.injEq]at hv
   obtain⟨rfl,rfl,rfl⟩:=hv
   obtain⟨env',h2,h3⟩:=fops_sound os _ _ _ _ _ hok hr hv1
   exact⟨env',by simp only[FC.vc,vcode,h2],h3⟩
  ·cases hv
 | .dops os, e, env, h, x, e', h', hok, hr, hv => by
  simp only[fcode]at hv
  split at hv
  ·rename_i e1 h1 hv1
   simp only[Option.some.injEq,Prod.mk.injEq]at hv
   obtain⟨rfl,rfl,rfl⟩:=hv
   obtain⟨env',h2,h3⟩:=fdops_sound os _ _ _ _ _ _ hok hr hv1
   exact⟨env',by simp only[FC.vc,vcode,h2],h3⟩
  ·cases hv
 | .seq a b, e, env, h, x, e', h', hok, hr, hv => by
  simp only[FC.ok,Bool.and_eq_true]at hok
  simp only[fcode]at hv
  cases hv1:fcode call nro a e h with
  | none => rw [hv1] at hv; cases hv
  | some q =>
   obtain⟨x1,e1,h1⟩:=q
   rw[hv1]at hv
   obtain⟨env1,h2,h3⟩:=fcode_sound a _ _ _ _ _ _ hok.1 hr hv1
   cases x1 with
   | normal =>
    obtain⟨env2,h4,h5⟩:=fcode_sound b _ _ _ _ _ _ hok.2 h3 hv
    exact⟨env2,by simp only[FC.vc,vcode,h2,h4],h5⟩
   | exit i =>
    simp only[Option.some.injEq,Prod.mk.injEq]at hv
    obtain⟨rfl,rfl,rfl⟩:=hv
    exact⟨env1,by simp only[FC.vc,vcode,h2],h3⟩
   | ret =>
    simp only[Option.some.injEq,Prod.mk.injEq]at hv
    obtain⟨rfl,rfl,rfl⟩:=hv
    exact⟨env1,by simp only[FC.vc,vcode,h2],h3⟩
 | .cond y a b, e, env, h, x, e', h', hok, hr, hv => by
  simp only[FC.ok,Bool.and_eq_true]at hok
  simp only[fcode,←hr.ev hok.1.1]at hv
  simp only[FC.vc,vcode]
  split at hv
  ·rename_i hb
   simp only[hb]
   exact fcode_sound a _ _ _ _ _ _ hok.1.2 hr hv
  ·rename_i hb
   simp only[hb]
   exact fcode_sound b _ _ _ _ _ _ hok.2 hr hv
  ·cases hv
 | .block id c, e, env, h, x, e', h', hok, hr, hv => by
  simp only[fcode]at hv
  cases hv1:fcode call nro c e h with
  | none => rw [hv1] at hv; cases hv
  | some q =>
   obtain⟨x1,e1,h1⟩:=q
   rw[hv1]at hv
   obtain⟨env1,h2,h3⟩:=fcode_sound c _ _ _ _ _ _ hok hr hv1
   simp only[FC.vc,vcode,h2]
   cases x1 with
   | exit i =>
    dsimp only at hv⊢
    split at hv<;>simp only[Option.some.injEq,Prod.mk.injEq]at hv<;>obtain⟨rfl,rfl,rfl⟩:=hv
    ·rename_i hi
     exact⟨env1,by rw[if_pos hi],h3⟩
    ·rename_i hi
     exact⟨env1,by rw[if_neg hi],h3⟩
   | _ =>
    simp only[Option.some.injEq,Prod.mk.injEq]at hv
    obtain⟨rfl,rfl,rfl⟩:=hv
    exact⟨env1,rfl,h3⟩
 | .loop live c, e, env, h, x, e', h', hok, hr, hv => by
  simp only[FC.ok,Bool.and_eq_true]at hok
  simp only[fcode]at hv
  have key:=iter.partial_correctness (fun s:List Value × VH=>match fcode call nro c (fl (live.zip s.1)) s.2 with
   | some (.normal, e', h') => some (.inl (cleanup h.length h (live.map e') h'))
   | some r => some (.inr r)
   | none => none) (fun s r => ∀ f, s.1 = live.map f → ∃ env', iter (fun s : List Value × VH => match vcode call nro (c.vc n) s.1 s.2 with
   | some (.normal, env', h') => some (.inl (cleanup h.length h (maskEnv (bm live n) env') h'))
   | some r => some (.inr r)
   | none => none) (Zv.menv live n f, s.2) = some (r.1, env', r.2.2) ∧ FRel n r.2.1 env') ?_ _ _ hv
  ·obtain⟨env',h2,h3⟩:=key e rfl
   refine⟨env',?_,h3⟩
   simp only[FC.vc,vcode,hr.mask live]
   exact h2
  ·intro it hit s r hs f hf
   split at hs
   ·cases hs
   ·rename_i s' hs'
    split at hs'
    ·rename_i e2 h2 hv2
     simp only[Option.some.injEq,Sum.inl.injEq]at hs'
     subst hs'
     rw[hf]at hv2
     obtain⟨env2,h4,h5⟩:=fcode_sound c _ (Zv.menv live n f) _ _ _ _ hok.2 (FRel.menv live f) hv2
     obtain⟨g,h6,h7⟩:=cleanup_menv hok.1 h.length h h2 e2
     obtain⟨env',h8,h9⟩:=hit _ _ hs g h6
     refine⟨env',?_,h9⟩
     rw[iter]
     simp only[h4,h5.mask live,h7]
     exact h8
    ·cases hs'
    ·cases hs'
   ·rename_i r' hr'
    simp only[Option.some.injEq]at hs
    split at hr'
    ·cases hr'
    ·rename_i q hnn hv2
     simp only[Option.some.injEq,Sum.inr.injEq]at hr'
     have hq:q=r:=hr'.trans hs
     subst hq
     obtain⟨x2,e2,h2⟩:=q
     rw[hf]at hv2
     obtain⟨env2,h4,h5⟩:=fcode_sound c _ (Zv.menv live n f) _ _ _ _ hok.2 (FRel.menv live f) hv2
     refine⟨env2,?_,h5⟩
     rw[iter]
     simp only[h4]
     cases x2 with
     | normal => exact (hnn _ _ rfl).elim
     | exit i => rfl
     | ret => rfl
    ·cases hr'
 | .keep live c, e, env, h, x, e', h', hok, hr, hv => by
  simp only[FC.ok,Bool.and_eq_true]at hok
  simp only[fcode]at hv
  obtain⟨env',h2,h3⟩:=fcode_sound c _ (Zv.menv live n e) _ _ _ _ hok.2 (FRel.menv live e) hv
  exact⟨env',by simp only[FC.vc,vcode,hr.mask live,h2],h3⟩
 | .exit i, e, env, h, x, e', h', _, hr, hv => by
  simp only[fcode,Option.some.injEq,Prod.mk.injEq]at hv
  obtain⟨rfl,rfl,rfl⟩:=hv
  exact⟨env,rfl,hr⟩
 | .ret, e, env, h, x, e', h', _, hr, hv => by
  simp only[fcode,Option.some.injEq,Prod.mk.injEq]at hv
  obtain⟨rfl,rfl,rfl⟩:=hv
  exact⟨env,rfl,hr⟩
theorem fresL_eq {n:Nat} {e:FE} {env:List Value} (hr:FRel n e env) (h:VH): ∀(rs:List VR),rs.all (ltR n)=true→vresL env h rs=fresL e h rs
 | [], _ => rfl
 | r :: rs, hok => by
  simp only[List.all_cons,Bool.and_eq_true]at hok
  have:vres1 env h r=fres1 e h r:=by
   cases r with
   | tmp t => simp only [vres1, fres1]; rw [hr.2 t (by simpa [ltR] using hok.1)]
   | cell t a k => simp only [vres1, fres1]; rw [hr.2 t (by simpa [ltR] using hok.1)]
  simp only[vresL,fresL,this,fresL_eq hr h rs hok.2]
  rfl
theorem vcall_f {F:Nat→Option Ent} {nro f:Nat} {fn:FF} (hF:F f=some (.ir fn.vf)) (hok:fn.ok=true) {args:List Value} {h:VH} (ha:args.length≤fn.ntmps) {r:Value × VH} (hr:fbody (vcall F nro) nro fn args h=some r):vcall F nro f args h=some r:=by
 rw[vcall,vstep]
 simp only[hF]
 unfold fbody at hr
 unfold FF.ok at hok
 simp only[Bool.and_eq_true]at hok
 cases hv1:fcode (vcall F nro) nro fn.body (fargs args) h with
 | none => rw [hv1] at hr; cases hr
 | some q =>
  obtain⟨x,e,h1⟩:=q
  rw[hv1]at hr
  have h0:FRel fn.ntmps (fargs args) (env0 fn.vf args):=by
   refine⟨by simp[env0,FF.vf];omega,fun t ht=> ?_⟩
   unfold env0 fargs
   simp only[List.getD_eq_getElem?_getD]
   by_cases h1:t<args.length
   ·rw[List.getElem?_append_left h1]
   ·rw[List.getElem?_append_right (by omega),List.getElem?_eq_none (Nat.le_of_not_lt h1)]
    simp only[List.getElem?_replicate]
    split<;>rfl
  obtain⟨env,h2,h3⟩:=fcode_sound fn.body _ _ _ _ _ _ hok.1 h0 hv1
  have e1:vbody (fun g as h' =>vcall F nro g as h') nro fn.vf args h=(match some (x,env,h1)with
   | some (.exit _, _, _) => none
   | some (_, env, h') => match vresults env h' fn.res with
    | some v => some (((cleanup h.length h [v] h').1).getD 0 undef, (cleanup h.length h [v] h').2)
    | none => none
   | none => none) := by
   unfold vbody
   have:vcode (fun g as h' =>vcall F nro g as h') nro fn.vf.body (env0 fn.vf args) h=some (x,env,h1):=h2
   rw[this]
   rfl
  rw[e1]
  have e2:vresults env h1 fn.res=fresults e h1 fn.res:=by
   unfold vresults fresults
   rw[fresL_eq h3 h1 fn.res hok.2]
   rfl
  cases x with
  | exit i => cases hr
  | _ =>
   simp only[e2]
   simp only at hr
   rw[←hr]
   cases fresults e h1 fn.res<;>rfl
end

/- The number of a word's lowest bit, by the table. -/
section
open Go
def tzIdx (x:Int):Int:=IntKind.u64.wrap (bits BinOp.and IntKind.u64 x (IntKind.u64.wrap (-x)) * 285870213051353865) / 288230376151711744
def tzv (x:Int):Int:=if x=0 then 64 else tzTab.getD (tzIdx x).toNat 0
def tzX (args:List Value) (h:VH):Option (Value × VH):=match args with
 | [.int .u64 x] => some (.int .i64 (tzv x), h)
 | _ => none
/-- slices.Grow of the nil slice: a new row, of which nothing is told yet. -/
def growX (args:List Value) (h:VH):Option (Value × VH):=match args with
 | [.slice none 0 0, .int .i64 n] => if 1 ≤ n ∧ n ≤ 1048576 then some (.slice (some ⟨h.length, 0, none⟩) 0 0, h ++ [⟨1, []⟩]) else none
 | _ => none
end

end Go.Proofs.YtbomdghbblakoaaGreatDoor.Zv

