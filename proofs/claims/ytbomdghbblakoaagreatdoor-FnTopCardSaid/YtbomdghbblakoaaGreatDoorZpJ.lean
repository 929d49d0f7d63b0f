/- Part J of the proof: ZwRefL, ZwRefM, ZwBoth4, ZwTopF. Conditions: none. -/
import Derived.Test.YtbomdghbblakoaaGreatDoorZpE
import Derived.Test.YtbomdghbblakoaaGreatDoorZpG
import Derived.Test.YtbomdghbblakoaaGreatDoorZpH
import Derived.Test.YtbomdghbblakoaaGreatDoorZpI
set_option linter.unusedSimpArgs false
set_option linter.unusedVariables false
set_option linter.unusedSectionVars false
namespace Go.Proofs.YtbomdghbblakoaaGreatDoor.Zv
/- The reference's step is a round, in the order of meeting. -/
section
open Go
def pmP (m:Int):List Int→Int
 | [] => m
 | x :: r => pmP (if x = m then m + 1 else m) r
theorem pmP_snoc: ∀(xs:List Int) (m x:Int),pmP m (xs++ [x])=if x=pmP m xs then pmP m xs+1 else pmP m xs
 | [], m, x => rfl
 | y :: r, m, x => by rw [List.cons_append, pmP, pmP, pmP_snoc r]
theorem partOK_snoc: ∀(xs:List Int) (m x:Int),PartOK (xs++ [x]) m↔PartOK xs m∧0≤x∧x≤pmP m xs
 | [], m, x => by simp [PartOK, pmP]
 | y :: r, m, x => by
  rw[List.cons_append,PartOK,PartOK,pmP,partOK_snoc r]
  constructor
  ·rintro⟨a,b,c,d,e⟩;exact⟨⟨a,b,c⟩,d,e⟩
  ·rintro⟨⟨a,b,c⟩,d,e⟩;exact⟨a,b,c,d,e⟩
theorem colW_all (sm:Nat→Prop) (out:List Int) (v:Nat) (h0: ∀w,w<v→0≤out.getD w 0) (k:Nat): ∀w,k=v - w→(colW sm out v w<0→ ∀u,w≤u→u<v→ ¬sm u)∧(¬colW sm out v w<0→ ∃u,u<v∧sm u∧colW sm out v w=out.getD u 0):=by
 induction k with
 | zero =>
  intro w hk
  rw[colW,if_neg (by omega)]
  exact⟨fun _ u h1 h2=>by omega,fun h=>absurd (by omega) h⟩
 | succ k ih =>
  intro w hk
  have hw:w<v:=by omega
  rw[colW,if_pos hw]
  by_cases c:sm w
  ·rw[if_pos c]
   have:=h0 w hw
   exact⟨fun h=>by omega,fun _=>⟨w,hw,c,rfl⟩⟩
  ·rw[if_neg c]
   obtain⟨h1,h2⟩:=ih (w+1) (by omega)
   refine⟨fun h u hu hu2=> ?_,h2⟩
   by_cases e:u=w
   ·subst e;exact c
   ·exact h1 h u (by omega) hu2
def smK (rows cl:List Int) (n u w:Nat):Prop:=cl.getD u 0=cl.getD w 0∧cnts rows cl n u=cnts rows cl n w
theorem smK.symm {rows cl:List Int} {n u w:Nat} (h:smK rows cl n u w):smK rows cl n w u:=⟨h.1.symm,h.2.symm⟩
theorem smK.trans {rows cl:List Int} {n u w x:Nat} (h:smK rows cl n u w) (h' :smK rows cl n w x):smK rows cl n u x:=⟨h.1.trans h'.1,h.2.trans h'.2⟩
theorem getD_snoc (l:List Int) (x:Int) (w:Nat) (h:w<l.length):(l++ [x]).getD w 0=l.getD w 0:=by
 simp only[List.getD_eq_getElem?_getD];rw[List.getElem?_append_left h]
theorem getD_snoc' (l:List Int) (x:Int) (w:Nat) (h:w=l.length):(l++ [x]).getD w 0=x:=by
 subst h;simp[List.getD_eq_getElem?_getD]
theorem stp_all (rows cl:List Int) (n:Nat): ∀v,(∀u w,u<v→w<v→((stp rows cl n v).1.getD u 0=(stp rows cl n v).1.getD w 0↔smK rows cl n u w))∧(∀w,w<v→0≤(stp rows cl n v).1.getD w 0∧(stp rows cl n v).1.getD w 0<(stp rows cl n v).2)∧
  (∀x,0≤x→x<(stp rows cl n v).2→ ∃w,w<v∧(stp rows cl n v).1.getD w 0=x)∧PartOK (stp rows cl n v).1 0∧pmP 0 (stp rows cl n v).1=(stp rows cl n v).2
 | 0 => ⟨fun u w h => by omega, fun w h => by omega, fun x h1 h2 => by simp [stp] at h2; omega, trivial, rfl⟩
 | v + 1 => by
  obtain⟨i1,i2,i3,i4,i5⟩:=stp_all rows cl n v
  obtain⟨l1,l2,l3⟩:=stp_len rows cl n v
  obtain⟨w1,w2⟩:=colW_all (fun w=>cl.getD w 0=cl.getD v 0∧cnts rows cl n w=cnts rows cl n v) (stp rows cl n v).1 v (fun w hw=>(i2 w hw).1) v 0 (by omega)
  rw[stp]
  obtain⟨out,hout⟩: ∃o,o=(stp rows cl n v).1:=⟨_,rfl⟩
  obtain⟨most,hmost⟩: ∃o,o=(stp rows cl n v).2:=⟨_,rfl⟩
  rw[←hout]at i1 i2 i3 i4 i5 l1 w1 w2⊢
  rw[←hmost]at i2 i3 i5 l2 l3⊢
  obtain⟨r,hr⟩: ∃r,r=colW (fun w=>cl.getD w 0=cl.getD v 0∧cnts rows cl n w=cnts rows cl n v) out v 0:=⟨_,rfl⟩
  rw[←hr]at w1 w2⊢
  by_cases c:r<0
  ·rw [if_pos c]
   simp only
   have w1:=w1 c
   refine⟨fun u w hu hw=> ?_,fun w hw=> ?_,fun x h1 h2=> ?_,(partOK_snoc _ _ _).mpr ⟨i4,l2,by omega⟩,by rw[pmP_snoc,i5,if_pos rfl]⟩
   ·by_cases eu:u=v
    ·by_cases ew:w=v
     ·subst eu ew;exact⟨fun _=>⟨rfl,rfl⟩,fun _=>rfl⟩
     ·rw[getD_snoc' _ _ u (by omega),getD_snoc _ _ w (by omega)]
      have:=(i2 w (by omega)).2
      refine⟨fun h=>by omega,fun h=>absurd ?_ (w1 w (by omega) (by omega))⟩
      subst eu
      exact h.symm
    ·by_cases ew:w=v
     ·rw[getD_snoc' _ _ w (by omega),getD_snoc _ _ u (by omega)]
      have:=(i2 u (by omega)).2
      refine⟨fun h=>by omega,fun h=>absurd ?_ (w1 u (by omega) (by omega))⟩
      subst ew
      exact h
     ·rw[getD_snoc _ _ u (by omega),getD_snoc _ _ w (by omega)]
      exact i1 u w (by omega) (by omega)
   ·by_cases ew:w=v
    ·rw[getD_snoc' _ _ w (by omega)];omega
    ·rw[getD_snoc _ _ w (by omega)]
     have:=i2 w (by omega)
     omega
   ·by_cases ex:x<most
    ·obtain⟨w,hw,he⟩:=i3 x h1 ex
     exact⟨w,by omega,by rw[getD_snoc _ _ w (by omega)];exact he⟩
    ·exact⟨v,by omega,by rw[getD_snoc' _ _ v (by omega)];omega⟩
  ·rw [if_neg c]
   simp only
   obtain⟨z,z1,z2,z3⟩:=w2 c
   have hz:=i2 z z1
   refine⟨fun u w hu hw=> ?_,fun w hw=> ?_,fun x h1 h2=> ?_,(partOK_snoc _ _ _).mpr ⟨i4,by omega,by omega⟩,by rw[pmP_snoc,i5,if_neg (by omega)]⟩
   ·by_cases eu:u=v
    ·by_cases ew:w=v
     ·subst eu ew;exact⟨fun _=>⟨rfl,rfl⟩,fun _=>rfl⟩
     ·rw[getD_snoc' _ _ u (by omega),getD_snoc _ _ w (by omega),z3,i1 z w z1 (by omega)]
      subst eu
      exact⟨fun h=>(smK.symm z2).trans h,fun h=>smK.trans z2 h⟩
    ·by_cases ew:w=v
     ·rw[getD_snoc' _ _ w (by omega),getD_snoc _ _ u (by omega),z3,i1 u z (by omega) z1]
      subst ew
      exact⟨fun h=>h.trans z2,fun h=>h.trans (smK.symm z2)⟩
     ·rw[getD_snoc _ _ u (by omega),getD_snoc _ _ w (by omega)]
      exact i1 u w (by omega) (by omega)
   ·by_cases ew:w=v
    ·rw[getD_snoc' _ _ w (by omega)];omega
    ·rw[getD_snoc _ _ w (by omega)]
     exact i2 w (by omega)
   ·obtain⟨w,hw,he⟩:=i3 x h1 h2
    exact⟨w,by omega,by rw[getD_snoc _ _ w (by omega)];exact he⟩
end

/- Program and reference refine alike. -/
section
open Go
inductive SCh (rows:List Int) (n:Nat):List Int→List Int→Prop
 | last {l} : (stp rows l n n).1 = l → SCh rows n l l
 | more {l l'} : (stp rows l n n).1 ≠ l → SCh rows n (stp rows l n n).1 l' → SCh rows n l l'
theorem stp_part (rows l:List Int) (n:Nat):(stp rows l n n).1.length=n∧PartOK (stp rows l n n).1 0:=⟨(stp_len rows l n n).1,(stp_all rows l n n).2.2.2.1⟩
theorem SCh.part {rows:List Int} {n:Nat} {l l' :List Int} (h:SCh rows n l l'):l'.length=n∧PartOK l' 0:=by
 induction h with
 | last h => rw [← h]; exact stp_part _ _ _
 | more _ _ ih => exact ih
end

/- The reference's refinement of two graphs together: the whole. -/
section
open Go
open Classical
variable {nro:Nat}
theorem Old.ptr {k b off:Nat} {sp:Option Nat} (h:b<k):Old k (.pointer (some ⟨b,off,sp⟩)):=by
 intro r hr
 simp[trefs,vrefs,crefs,arefs]at hr
 omega
theorem Old.slice {k b off n t:Nat} {sp:Option Nat} (h:b<k):Old k (.slice (some ⟨b,off,sp⟩) n t):=by
 intro r hr
 simp[trefs,vrefs,crefs,arefs]at hr
 omega
end

/- The law FnTop. -/
section
open Go
variable {nro:Nat}
theorem c_zz109 (cd:Value) (xs:List Int) (h:VH) (hs:Sl h cd (bys xs)):vcall F nro k_zz109 [cd] h=some (.bool (decide (4096<xs.length)),h):=by
 refine v_zz109 (by simp[i_zz109]) ?_
 rw[fbody_eq]
 have e0:=hs.vlen
 simp only[bys_length]at e0
 simp (disch:=first|assumption|omega|(simp[*]<;>omega)|fail) [i_zz109,e0]
 omega
theorem top0 (h:VH) (cd:Value) (xs:List Int) (N:Nat) (s1:SS) (ok1:SOK xs s1) (h1:1≤N) (h2:N≤62):
  TopI nro h (h.length+3) cd xs N (h++ [srcO cd s1,⟨1,ints (List.replicate N 0)⟩,⟨0,[.int .i64 N,.slice (some ⟨h.length+1,0,none⟩) N N]⟩]) s1 (List.replicate N 0) 1000:=by
 have gz:GV N (List.replicate N 0):=GV.zero (by omega) (by omega)
 have gir0:girF (List.replicate N 0) N 0 0=0:=by
  apply Classical.byContradiction
  intro c
  have hge:=girF_ge' (rows:=List.replicate N (0:Int)) (n:=N) 0 0 (by omega)
  obtain⟨L,hL⟩: ∃L:Nat,girF (List.replicate N (0:Int)) N 0 0=L:=⟨_,(Int.toNat_of_nonneg hge).symm⟩
  obtain⟨p,q,hpq,_⟩:=gir_edge gz hL (by omega)
  unfold rbit at hpq
  rw[rep0]at hpq
  simp at hpq
 refine⟨ok1,by simp,by simp,by simp,by simp,⟨.slice (some ⟨h.length+1,0,none⟩) N N,by simp,?_⟩,gz,.inl ⟨gir0,rfl⟩⟩
 unfold Sli Sl vsrc
 simp
 exact List.take_of_length_le (by simp)
set_option maxHeartbeats 4000000 in
theorem law_FnTop (cd:Value) (xs:List Int) (h:VH) (hs:Sl h cd (bys xs)) (hx:Code' xs) (hn:nro≤h.length):
  vcall F nro k_zz102 [cd] h=some (.bool true,h):=by
 have hn' :=fun k=>Nat.le_trans hn (Nat.le_add_right h.length k)
 have hol:Old h.length cd:=hs.old
 have hco:OldC h.length cd:=fun r hr=>hs.old r (crefs_sub hr)
 have hj:=hs.junk
 unfold isJunk at hj
 have hb:=c_zz109 (nro:=nro) cd xs h hs
 by_cases hbig:4096<xs.length
 ·refine v_zz102 (by simp[i_zz102]) ?_
  rw[fbody_eq]
  rw[decide_eq_true hbig]at hb
  simp (disch:=first|assumption|omega|(simp[*]<;>omega)|fail) [i_zz102,hb,hn,hn']
 ·rw[decide_eq_false hbig]at hb
  obtain⟨s0,ok0,hr⟩:=c_zz107 (nro:=nro) 9991 h cd xs hs hx hn
  have S0:Srce nro (h++ [srcO cd s0]) h.length cd xs s0:=⟨by simp,hn,hx,ok0,fun o=>by rw[List.set_append_right _ _ (Nat.le_refl _)];exact hs.app _⟩
  obtain⟨a1,a2,_⟩:=srcN_ok hx s0 6
  have a3:=a2 (by omega)
  have d1:=S0.dice 6 (by omega)
  have ok1:=srcS_ok ok0 6
  obtain⟨N,hN⟩: ∃N:Nat,(N:Int)=4+srcN xs s0 6:=⟨(4+srcN xs s0 6).toNat,by omega⟩
  obtain⟨s1,hs1⟩: ∃s1,s1=srcS xs s0 6:=⟨_,rfl⟩
  obtain⟨x0,hx0⟩: ∃x0,x0=srcN xs s0 6:=⟨_,rfl⟩
  rw[←hx0]at a1 a3 hN
  rw[←hs1]at ok1
  rw[←hx0,←hs1,hset0]at d1
  have w0:IntKind.i64.wrap (4+x0)=N:=by rw[wrap64 (by omega) (by omega)];omega
  have w3:IntKind.i64.wrap (3 * (N:Int))=3 * N:=wrap64 (by omega) (by omega)
  have T0:=fun s2 (ok2:SOK xs s2)=>top0 (nro:=nro) h cd xs N s2 ok2 (by omega) (by omega)
  have S1:=(T0 s1 ok1).src hs hx hn
  obtain⟨b1,b2,_⟩:=srcN_ok hx s1 (3 * N)
  have b3:=b2 (by omega)
  have d2:=S1.dice (3 * N) (by omega)
  have ok2:=srcS_ok ok1 (3 * N)
  obtain⟨k,hk⟩: ∃k:Nat,(k:Int)=srcN xs s1 (3 * N):=⟨(srcN xs s1 (3 * N)).toNat,by omega⟩
  obtain⟨s2,hs2⟩: ∃s2,s2=srcS xs s1 (3 * N):=⟨_,rfl⟩
  rw[←hs2]at ok2
  rw[←hk]at b1 b3
  rw[←hk,←hs2,hset0]at d2
  obtain⟨Q,s3,rows,last,T,lp⟩:=l_top (nro:=nro) (P0:=h++ [srcO cd s2,⟨1,ints (List.replicate N 0)⟩,⟨0,[.int .i64 N,.slice (some ⟨h.length+1,0,none⟩) N N]⟩]) hs hx hn (fun o ho r hr=>by
   rw[List.getElem?_append_right (by omega),Nat.add_sub_cancel_left]at ho
   simp only[List.getElem?_cons_succ,List.getElem?_cons_zero,Option.some.injEq]at ho
   subst ho
   simp[orefs,crefs,arefs]at hr
   simp
   omega) k (by simpa using T0 s2 ok2) (by omega)
  have hQl:=T.len
  have hB:=T.hB
  obtain⟨v,g1,g2⟩:=T.gr
  have hnQ:nro≤Q.length:=by omega
  have hnQ' :=fun m=>Nat.le_trans hnQ (Nat.le_add_right Q.length m)
  have lp2:=l_top_2 (nro:=nro) Q N (.pointer (some ⟨h.length+2,0,some 2⟩)) (by intro r hr;simp[trefs,vrefs,crefs,arefs]at hr;omega) rfl (by omega) (by omega) hnQ
  have P:=topO_perm (N:=N) (by omega)
  have hol2:(topO N N).length=N:=P.len
  have gv:=T.gv
  have hre:=c_zz54 (nro:=nro) N v (.slice (some ⟨Q.length,0,none⟩) N N) rows (topO N N) (Q++ [⟨1,ints (topO N N)⟩]) (g2.app _) (by unfold Sli Sl vsrc;simp[hol2];exact List.take_of_length_le (by simp[hol2])) gv P (by simp;omega)
  have gR:=ren_gv gv P
  have hcs:=(ren_cs gv P).1
  have hsm:=ren_same gv P
  rw[gres_inl]at hre
  obtain⟨R,hR⟩: ∃R,R=adjRows N (renAdj rows (topO N N) N):=⟨_,rfl⟩
  rw[←hR]at hre gR hcs hsm
  have hRl:R.length=N:=gR.rok.len
  rw[hRl]at hre
  obtain⟨O,hO⟩: ∃O:VO,O=⟨1,ints (topO N N)⟩:=⟨_,rfl⟩
  rw[←hO]at hre lp2
  obtain⟨L,hL⟩: ∃L:VH,L= [O,⟨1,ints R⟩,⟨0,[.int .i64 N,.slice (some ⟨Q.length+1,0,none⟩) N N]⟩]:=⟨_,rfl⟩
  have i1:Sli (Q++L) v rows:=g2.app _
  have i2:Sli (Q++L) (.slice (some ⟨Q.length+1,0,none⟩) N N) R:=by
   subst hL
   unfold Sli Sl vsrc
   simp[hRl]
   exact List.take_of_length_le (by simp[hRl])
  have hnL:nro≤(Q++L).length:=by simp;omega
  have hc1:=c_zz49 (nro:=nro) N v rows (Q++L) i1 hnL
  have hc2:=c_zz49 (nro:=nro) N _ R (Q++L) i2 hnL
  have his:=c_zz48 (nro:=nro) N N v _ rows R (Q++L) i1 i2 hnL
  have hex:=c_zz78 (nro:=nro) N v rows (Q++L) i1 hnL
  rw[hcs]at hc2
  rw[hsm]at his
  have hge:=exc_ge N rows
  generalize csA N rows=cc at hc1 hc2
  generalize excA N rows=xx at hex hge
  obtain⟨c1,c2⟩:=cc
  obtain⟨x1,x2⟩:=xx
  have hge2:x2≠0∨0≤x1:=hge
  have m1:8 * (N:Int)≤140737488355328:=by omega
  have m2:(N:Int)≤140737488355328:=by omega
  simp only at hc1 hc2 his hex
  have gL: ∀L,(Q++L)[h.length+2]? =some ⟨0,[.int .i64 N,v]⟩:=fun L=>by rw[List.getElem?_append_left (by omega)];exact g1
  have hcl: ∀L (b:Bool),kclean h [.bool b] (Q++L)=([.bool b],h):=fun L b=>by
   rw[T.split,List.append_assoc]
   exact cleanup_drop (by simp)
  subst hL
  clear T T0 S0 S1 hs hx i1 i2 gv gR P hcs hsm hR hO g2 hge
  simp only[List.length_append,List.length_singleton,List.append_assoc,List.singleton_append]at hre
  refine v_zz102 (by simp[i_zz102]) ?_
  rw[fbody_eq]
  rcases hge2 with hz|hz
  ·simp (disch:=first|assumption|omega|(simp[*]<;>omega)|fail) [-getElem?_pos,gz_,gs_,i_zz102,hb,hr,d1,w0,w3,d2,lp,lp2,hre,hc1,hc2,his,hex,gL,hcl,hn',hn,hnQ,hnQ',hol,hco,hj,m1,m2,hz]
  ·simp (disch:=first|assumption|omega|(simp[*]<;>omega)|fail) [-getElem?_pos,gz_,gs_,i_zz102,hb,hr,d1,w0,w3,d2,lp,lp2,hre,hc1,hc2,his,hex,gL,hcl,hn',hn,hnQ,hnQ',hol,hco,hj,m1,m2,hz]
end

end Go.Proofs.YtbomdghbblakoaaGreatDoor.Zv

