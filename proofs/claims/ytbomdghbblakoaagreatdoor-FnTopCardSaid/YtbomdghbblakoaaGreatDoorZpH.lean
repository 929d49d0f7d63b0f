/- Part H of the proof: ZwOrd8, ZwOrd9, ZwOrd10, ZwOrd11, ZwOrd12, ZwOrd13, ZwRefE, ZwRefF, ZwPart, ZwRefK, ZwDesk, ZwDraw, ZwSearch, ZwMoore2, ZwFound, ZwFirst, ZwDraw4, ZwMap1, ZwDraw5, ZwLift1, ZwMap2, ZwMap3, ZwMap4, ZwMap5, ZwTwo, ZwShort, ZwConn, ZwParts, ZwGiven, ZwHalf, ZwDraw3, ZwLift2, ZwLift3, ZwLawHalf, ZwLawHalf2. Conditions: none. -/
import Derived.Sort.AssemblyPlain
import Derived.Sort.LotA
import Derived.Test.YtbomdghbblakoaaGreatDoorZpE
import Derived.Test.YtbomdghbblakoaaGreatDoorZpF
import Derived.Test.YtbomdghbblakoaaGreatDoorZpG
set_option linter.unusedSimpArgs false
set_option linter.unusedVariables false
set_option linter.unusedSectionVars false
namespace Go.Proofs.YtbomdghbblakoaaGreatDoor.Zv
/- Sorting: partitions, whole. -/
section
open Go Go.Sort
variable {nro:Nat} {S:Value} {P:Int→Value} {ag:Nat→Value} {cm:Nat→Nat→Int} {N:Nat} {H:Array Nat→VH}
section
variable (E:SO nro S P ag cm N H)
include E
set_option maxHeartbeats 1000000 in
theorem l_ord_part (a:Nat) (haN:a<N) (d0:Array Nat): ∀(n i j:Nat) (d:Array Nat),d.size=N→j+1 - i≤n→1≤i→i≤N→j<N→
  floop (vcall F nro) nro [0,1,10,11] i_zz21_B5 (H d0) [S,.int .i64 a,.int .i64 i,.int .i64 j] (H d)=some (.exit 4,fl [(0,S),(1,.int .i64 a),(11,.int .i64 ((partLoop (ltC cm) a i j d).1:Nat))],H (partLoop (ltC cm) a i j d).2):=by
 intro n
 induction n with
 | zero =>
  intro i j d hd hn hi hiN hj
  have hc:=fun q=>E.clean0 d0 q
  have hl:=E.ln
  have oS:=E.oS
  have u:=l_ord_up2 E a j haN hj d d hd d[a]! (getI_nat d a a rfl) (j+1) i (by omega) hiN
  have h1:=scanUp_ge (fun x=>ltC cm x d[a]!) d j i
  have dn:=l_ord_dn2 E a (scanUp (fun x=>ltC cm x d[a]!) d j i) haN (by omega) d d hd d[a]! (getI_nat d a a rfl) j hj
  have h2:=scanDown_le (fun x=> !ltC cm x d[a]!) d (scanUp (fun x=>ltC cm x d[a]!) d j i) j
  rw[partLoop_eq]
  obtain⟨x,hx⟩: ∃x,x=scanUp (fun x=>ltC cm x d[a]!) d j i:=⟨_,rfl⟩
  rw[←hx]at u dn h1 h2⊢
  obtain⟨y,hy⟩: ∃y,y=scanDown (fun x=> !ltC cm x d[a]!) d x j:=⟨_,rfl⟩
  rw[←hy]at dn h2⊢
  have c:x>y:=by omega
  have c' :(y:Int)<x:=by omega
  rw[if_pos c]
  clear hx hy
  rw[floop_at i_zz21_B5.eq_1]
  simp (disch:=first|assumption|omega|(simp[*]<;>omega)|fail) [-getElem?_pos,gz_,gs_,hc,hl,oS,u,dn,c']
 | succ n ih =>
  intro i j d hd hn hi hiN hj
  have hc:=fun q=>E.clean0 d0 q
  have hl:=E.ln
  have oS:=E.oS
  have hN:=E.hN
  have hix:=E.idx
  have hld:=E.load
  have hst:=E.store
  have u:=l_ord_up2 E a j haN hj d d hd d[a]! (getI_nat d a a rfl) (j+1) i (by omega) hiN
  have h1:=scanUp_ge (fun x=>ltC cm x d[a]!) d j i
  have dn:=l_ord_dn2 E a (scanUp (fun x=>ltC cm x d[a]!) d j i) haN (by omega) d d hd d[a]! (getI_nat d a a rfl) j hj
  have h2:=scanDown_le (fun x=> !ltC cm x d[a]!) d (scanUp (fun x=>ltC cm x d[a]!) d j i) j
  rw[partLoop_eq]
  obtain⟨x,hx⟩: ∃x,x=scanUp (fun x=>ltC cm x d[a]!) d j i:=⟨_,rfl⟩
  rw[←hx]at u dn h1 h2⊢
  obtain⟨y,hy⟩: ∃y,y=scanDown (fun x=> !ltC cm x d[a]!) d x j:=⟨_,rfl⟩
  rw[←hy]at dn h2⊢
  by_cases c:x>y
  ·have c' :(y:Int)<x:=by omega
   rw[if_pos c]
   clear hx hy ih
   rw[floop_at i_zz21_B5.eq_1]
   simp (disch:=first|assumption|omega|(simp[*]<;>omega)|fail) [-getElem?_pos,gz_,gs_,hc,hl,oS,u,dn,c']
  ·have c' : ¬(y:Int)<x:=by omega
   rw[if_neg c]
   have ih2:=ih (x+1) (y - 1) (Go.Sort.swp d x y) (by simpa using hd) (by omega) (by omega) (by omega) (by omega)
   rw[←ih2]
   have e4:swI d (x:Int) (y:Int)=Go.Sort.swp d x y:=swI_swp _ _ _ _ _ rfl rfl
   unfold swI at e4
   have w1:IntKind.i64.wrap ((x:Int)+1)=(x:Int)+1:=wrap64 (by omega) (by omega)
   have w2:IntKind.i64.wrap ((y:Int) - 1)=((y - 1:Nat):Int):=by rw[show(y:Int) - 1=((y - 1:Nat):Int) by omega];exact wrap64 (by omega) (by omega)
   have x0:(0:Int)≤x:=by omega
   have y0:(0:Int)≤y:=by omega
   have x1:(x:Int)<N:=by omega
   have y1:(y:Int)<N:=by omega
   obtain⟨z,hz⟩: ∃z,z=y - 1:=⟨_,rfl⟩
   rw[←hz]at w2⊢
   clear hx hy ih ih2 hz
   rw[floop_at i_zz21_B5.eq_1]
   simp (disch:=first|assumption|omega|(simp[*]<;>omega)|fail) [-getElem?_pos,gz_,gs_,hc,hl,oS,u,dn,c',hix,hld,hst,hd,e4,w1,w2,x0,y0,x1,y1]
set_option maxHeartbeats 1000000 in
theorem c_ord_part (d:Array Nat) (hd:d.size=N) (a b p:Nat) (hap:a≤p) (hpb:p<b) (hb:b≤N):
  vcall F nro k_zz21 [S,.int .i64 a,.int .i64 b,.int .i64 p] (H d)=some (.tuple #[.int .i64 ((partition (ltC cm) d a b p).1:Nat),.bool (partition (ltC cm) d a b p).2.1],H (partition (ltC cm) d a b p).2.2):=by
 have hc0:=fun q vs=>E.clean0 d q vs
 have hl:=E.ln
 have hN:=E.hN
 have hix:=E.idx
 have hld:=E.load
 have hst:=E.store
 obtain⟨d1,hd1⟩: ∃d1,d1=Go.Sort.swp d a p:=⟨_,rfl⟩
 have hs1:d1.size=N:=by rw[hd1];simpa using hd
 have e0:swI d (a:Int) (p:Int)=d1:=by rw[hd1];exact swI_swp _ _ _ _ _ rfl rfl
 unfold swI at e0
 have u:=l_ord_up1 E a (b - 1) (by omega) (by omega) d1 d1 hs1 d1[a]! (getI_nat d1 a a rfl) b (a+1) (by omega) (by omega)
 have h1:=scanUp_ge (fun x=>ltC cm x d1[a]!) d1 (b - 1) (a+1)
 have dn:=l_ord_dn1 E a (scanUp (fun x=>ltC cm x d1[a]!) d1 (b - 1) (a+1)) (by omega) (by omega) d1 d1 hs1 d1[a]! (getI_nat d1 a a rfl) (b - 1) (by omega)
 have h2:=scanDown_le (fun x=> !ltC cm x d1[a]!) d1 (scanUp (fun x=>ltC cm x d1[a]!) d1 (b - 1) (a+1)) (b - 1)
 have hdef:partition (ltC cm) d a b p=if scanUp (fun x=>ltC cm x d1[a]!) d1 (b - 1) (a+1)>scanDown (fun x=> !ltC cm x d1[a]!) d1 (scanUp (fun x=>ltC cm x d1[a]!) d1 (b - 1) (a+1)) (b - 1)then(scanDown (fun x=> !ltC cm x d1[a]!) d1 (scanUp (fun x=>ltC cm x d1[a]!) d1 (b - 1) (a+1)) (b - 1),true,Go.Sort.swp d1 (scanDown (fun x=> !ltC cm x d1[a]!) d1 (scanUp (fun x=>ltC cm x d1[a]!) d1 (b - 1) (a+1)) (b - 1)) a)else((partLoop (ltC cm) a (scanUp (fun x=>ltC cm x d1[a]!) d1 (b - 1) (a+1)+1) (scanDown (fun x=> !ltC cm x d1[a]!) d1 (scanUp (fun x=>ltC cm x d1[a]!) d1 (b - 1) (a+1)) (b - 1) - 1) (Go.Sort.swp d1 (scanUp (fun x=>ltC cm x d1[a]!) d1 (b - 1) (a+1)) (scanDown (fun x=> !ltC cm x d1[a]!) d1 (scanUp (fun x=>ltC cm x d1[a]!) d1 (b - 1) (a+1)) (b - 1)))).1,false,Go.Sort.swp (partLoop (ltC cm) a (scanUp (fun x=>ltC cm x d1[a]!) d1 (b - 1) (a+1)+1) (scanDown (fun x=> !ltC cm x d1[a]!) d1 (scanUp (fun x=>ltC cm x d1[a]!) d1 (b - 1) (a+1)) (b - 1) - 1) (Go.Sort.swp d1 (scanUp (fun x=>ltC cm x d1[a]!) d1 (b - 1) (a+1)) (scanDown (fun x=> !ltC cm x d1[a]!) d1 (scanUp (fun x=>ltC cm x d1[a]!) d1 (b - 1) (a+1)) (b - 1)))).2 (partLoop (ltC cm) a (scanUp (fun x=>ltC cm x d1[a]!) d1 (b - 1) (a+1)+1) (scanDown (fun x=> !ltC cm x d1[a]!) d1 (scanUp (fun x=>ltC cm x d1[a]!) d1 (b - 1) (a+1)) (b - 1) - 1) (Go.Sort.swp d1 (scanUp (fun x=>ltC cm x d1[a]!) d1 (b - 1) (a+1)) (scanDown (fun x=> !ltC cm x d1[a]!) d1 (scanUp (fun x=>ltC cm x d1[a]!) d1 (b - 1) (a+1)) (b - 1)))).1 a):=by
  rw[hd1];rfl
 rw[hdef]
 obtain⟨x,hx⟩: ∃x,x=scanUp (fun x=>ltC cm x d1[a]!) d1 (b - 1) (a+1):=⟨_,rfl⟩
 rw[←hx]at u dn h1 h2⊢
 obtain⟨y,hy⟩: ∃y,y=scanDown (fun x=> !ltC cm x d1[a]!) d1 x (b - 1):=⟨_,rfl⟩
 rw[←hy]at dn h2⊢
 have w1:IntKind.i64.wrap ((a:Int)+1)=((a+1:Nat):Int):=by rw[show(a:Int)+1=((a+1:Nat):Int) by omega];exact wrap64 (by omega) (by omega)
 have w2:IntKind.i64.wrap ((b:Int) - 1)=((b - 1:Nat):Int):=by rw[show(b:Int) - 1=((b - 1:Nat):Int) by omega];exact wrap64 (by omega) (by omega)
 have a0:(0:Int)≤a:=by omega
 have a1:(a:Int)<N:=by omega
 have p0:(0:Int)≤p:=by omega
 have p1:(p:Int)<N:=by omega
 have y0:(0:Int)≤y:=by omega
 have y1:(y:Int)<N:=by omega
 obtain⟨i1,hi1⟩: ∃i1,i1=a+1:=⟨_,rfl⟩
 obtain⟨j1,hj1⟩: ∃j1,j1=b - 1:=⟨_,rfl⟩
 rw[←hi1]at w1 u
 rw[←hj1]at w2 u dn
 by_cases c:x>y
 ·have c' :(y:Int)<x:=by omega
  rw[if_pos c]
  have e1:swI d1 (y:Int) (a:Int)=Go.Sort.swp d1 y a:=swI_swp _ _ _ _ _ rfl rfl
  unfold swI at e1
  clear hx hy hdef hd1 hi1 hj1
  refine v_zz21 (by simp[i_zz21]) ?_
  rw[fbody_eq]
  simp (disch:=first|assumption|omega|(simp[*]<;>omega)|fail) [-getElem?_pos,gz_,gs_,i_zz21,hc0,hl,hix,hld,hst,hd,hs1,e0,u,dn,c',e1,w1,w2,a0,a1,p0,p1,y0,y1,fresults,fresL,fres1]
 ·have c' : ¬(y:Int)<x:=by omega
  rw[if_neg c]
  obtain⟨d2,hd2⟩: ∃d2,d2=Go.Sort.swp d1 x y:=⟨_,rfl⟩
  have hs2:d2.size=N:=by rw[hd2];simpa using hs1
  have e2:swI d1 (x:Int) (y:Int)=d2:=by rw[hd2];exact swI_swp _ _ _ _ _ rfl rfl
  unfold swI at e2
  rw[←hd2]
  have lp:=l_ord_part E a (by omega) d2 (y - 1+1 - (x+1)) (x+1) (y - 1) d2 hs2 (Nat.le_refl _) (by omega) (by omega) (by omega)
  obtain⟨z1,z2⟩:=partLoop_size (ltC cm) a _ (x+1) (y - 1) d2 (Nat.le_refl _)
  obtain⟨r,hr⟩: ∃r,r=partLoop (ltC cm) a (x+1) (y - 1) d2:=⟨_,rfl⟩
  rw[←hr]at lp z1 z2⊢
  obtain⟨r1,d3⟩:=r
  simp only at lp z1 z2⊢
  have hs3:d3.size=N:=by rw[z1];exact hs2
  have e3:swI d3 (r1:Int) (a:Int)=Go.Sort.swp d3 r1 a:=swI_swp _ _ _ _ _ rfl rfl
  unfold swI at e3
  have x0:(0:Int)≤x:=by omega
  have x1:(x:Int)<N:=by omega
  have r0:(0:Int)≤r1:=by omega
  have r2:(r1:Int)<N:=by omega
  have w3:IntKind.i64.wrap ((x:Int)+1)=((x+1:Nat):Int):=by rw[show(x:Int)+1=((x+1:Nat):Int) by omega];exact wrap64 (by omega) (by omega)
  have w4:IntKind.i64.wrap ((y:Int) - 1)=((y - 1:Nat):Int):=by rw[show(y:Int) - 1=((y - 1:Nat):Int) by omega];exact wrap64 (by omega) (by omega)
  obtain⟨i2,hi2⟩: ∃i2,i2=x+1:=⟨_,rfl⟩
  obtain⟨j2,hj2⟩: ∃j2,j2=y - 1:=⟨_,rfl⟩
  rw[←hi2]at w3 lp
  rw[←hj2]at w4 lp
  clear hx hy hdef hd1 hi1 hj1 hi2 hj2 hr z1 z2 hd2
  refine v_zz21 (by simp[i_zz21]) ?_
  rw[fbody_eq]
  simp (disch:=first|assumption|omega|(simp[*]<;>omega)|fail) [-getElem?_pos,gz_,gs_,i_zz21,hc0,hl,hix,hld,hst,hd,hs1,hs2,hs3,e0,u,dn,c',e2,e3,lp,w1,w2,w3,w4,a0,a1,p0,p1,x0,x1,y0,y1,r0,r2,fresults,fresL,fres1]
end
end

/- Sorting: partitions into equal and greater. -/
section
open Go Go.Sort
variable {nro:Nat} {S:Value} {P:Int→Value} {ag:Nat→Value} {cm:Nat→Nat→Int} {N:Nat} {H:Array Nat→VH}
section
variable (E:SO nro S P ag cm N H)
include E
set_option maxHeartbeats 1000000 in
theorem l_ord_partE (a:Nat) (haN:a<N) (d0:Array Nat): ∀(n i j:Nat) (d:Array Nat),d.size=N→j+1 - i≤n→1≤i→i≤N→j<N→
  floop (vcall F nro) nro [0,1,9,10] i_zz10_B3 (H d0) [S,.int .i64 a,.int .i64 i,.int .i64 j] (H d)=some (.exit 0,fl [(9,.int .i64 ((partEqLoop (ltC cm) a i j d).1:Nat))],H (partEqLoop (ltC cm) a i j d).2):=by
 intro n
 induction n with
 | zero =>
  intro i j d hd hn hi hiN hj
  have hc:=fun q=>E.clean0 d0 q
  have hl:=E.ln
  have oS:=E.oS
  have u:=l_ord_up3 E a j haN hj d d hd d[a]! (getI_nat d a a rfl) (j+1) i (by omega) hiN
  have h1:=scanUp_ge (fun x=> !ltC cm d[a]! x) d j i
  have dn:=l_ord_dn3 E a (scanUp (fun x=> !ltC cm d[a]! x) d j i) haN (by omega) d d hd d[a]! (getI_nat d a a rfl) j hj
  have h2:=scanDown_le (fun x=>ltC cm d[a]! x) d (scanUp (fun x=> !ltC cm d[a]! x) d j i) j
  rw[partEqLoop_eq]
  obtain⟨x,hx⟩: ∃x,x=scanUp (fun x=> !ltC cm d[a]! x) d j i:=⟨_,rfl⟩
  rw[←hx]at u dn h1 h2⊢
  obtain⟨y,hy⟩: ∃y,y=scanDown (fun x=>ltC cm d[a]! x) d x j:=⟨_,rfl⟩
  rw[←hy]at dn h2⊢
  have c:x>y:=by omega
  have c' :(y:Int)<x:=by omega
  rw[if_pos c]
  clear hx hy
  rw[floop_at i_zz10_B3.eq_1]
  simp (disch:=first|assumption|omega|(simp[*]<;>omega)|fail) [-getElem?_pos,gz_,gs_,hc,hl,oS,u,dn,c']
 | succ n ih =>
  intro i j d hd hn hi hiN hj
  have hc:=fun q=>E.clean0 d0 q
  have hl:=E.ln
  have oS:=E.oS
  have hN:=E.hN
  have hix:=E.idx
  have hld:=E.load
  have hst:=E.store
  have u:=l_ord_up3 E a j haN hj d d hd d[a]! (getI_nat d a a rfl) (j+1) i (by omega) hiN
  have h1:=scanUp_ge (fun x=> !ltC cm d[a]! x) d j i
  have dn:=l_ord_dn3 E a (scanUp (fun x=> !ltC cm d[a]! x) d j i) haN (by omega) d d hd d[a]! (getI_nat d a a rfl) j hj
  have h2:=scanDown_le (fun x=>ltC cm d[a]! x) d (scanUp (fun x=> !ltC cm d[a]! x) d j i) j
  rw[partEqLoop_eq]
  obtain⟨x,hx⟩: ∃x,x=scanUp (fun x=> !ltC cm d[a]! x) d j i:=⟨_,rfl⟩
  rw[←hx]at u dn h1 h2⊢
  obtain⟨y,hy⟩: ∃y,y=scanDown (fun x=>ltC cm d[a]! x) d x j:=⟨_,rfl⟩
  rw[←hy]at dn h2⊢
  by_cases c:x>y
  ·have c' :(y:Int)<x:=by omega
   rw[if_pos c]
   clear hx hy ih
   rw[floop_at i_zz10_B3.eq_1]
   simp (disch:=first|assumption|omega|(simp[*]<;>omega)|fail) [-getElem?_pos,gz_,gs_,hc,hl,oS,u,dn,c']
  ·have c' : ¬(y:Int)<x:=by omega
   rw[if_neg c]
   have ih2:=ih (x+1) (y - 1) (Go.Sort.swp d x y) (by simpa using hd) (by omega) (by omega) (by omega) (by omega)
   rw[←ih2]
   have e4:swI d (x:Int) (y:Int)=Go.Sort.swp d x y:=swI_swp _ _ _ _ _ rfl rfl
   unfold swI at e4
   have w1:IntKind.i64.wrap ((x:Int)+1)=(x:Int)+1:=wrap64 (by omega) (by omega)
   have w2:IntKind.i64.wrap ((y:Int) - 1)=((y - 1:Nat):Int):=by rw[show(y:Int) - 1=((y - 1:Nat):Int) by omega];exact wrap64 (by omega) (by omega)
   have x0:(0:Int)≤x:=by omega
   have y0:(0:Int)≤y:=by omega
   have x1:(x:Int)<N:=by omega
   have y1:(y:Int)<N:=by omega
   obtain⟨z,hz⟩: ∃z,z=y - 1:=⟨_,rfl⟩
   rw[←hz]at w2⊢
   clear hx hy ih ih2 hz
   rw[floop_at i_zz10_B3.eq_1]
   simp (disch:=first|assumption|omega|(simp[*]<;>omega)|fail) [-getElem?_pos,gz_,gs_,hc,hl,oS,u,dn,c',hix,hld,hst,hd,e4,w1,w2,x0,y0,x1,y1]
theorem c_ord_partE (d:Array Nat) (hd:d.size=N) (a b p:Nat) (hap:a≤p) (hpb:p<b) (hb:b≤N):
  vcall F nro k_zz10 [S,.int .i64 a,.int .i64 b,.int .i64 p] (H d)=some (.int .i64 ((partitionEqual (ltC cm) d a b p).1:Nat),H (partitionEqual (ltC cm) d a b p).2):=by
 have hc0:=fun q vs=>E.clean0 d q vs
 have hl:=E.ln
 have hN:=E.hN
 have hix:=E.idx
 have hld:=E.load
 have hst:=E.store
 unfold partitionEqual
 obtain⟨d1,hd1⟩: ∃d1,d1=Go.Sort.swp d a p:=⟨_,rfl⟩
 have hs1:d1.size=N:=by rw[hd1];simpa using hd
 have e0:swI d (a:Int) (p:Int)=d1:=by rw[hd1];exact swI_swp _ _ _ _ _ rfl rfl
 unfold swI at e0
 rw[←hd1]
 have lp:=l_ord_partE E a (by omega) d1 (b - 1+1 - (a+1)) (a+1) (b - 1) d1 hs1 (Nat.le_refl _) (by omega) (by omega) (by omega)
 obtain⟨r,hr⟩: ∃r,r=partEqLoop (ltC cm) a (a+1) (b - 1) d1:=⟨_,rfl⟩
 rw[←hr]at lp⊢
 have w1:IntKind.i64.wrap ((a:Int)+1)=((a+1:Nat):Int):=by rw[show(a:Int)+1=((a+1:Nat):Int) by omega];exact wrap64 (by omega) (by omega)
 have w2:IntKind.i64.wrap ((b:Int) - 1)=((b - 1:Nat):Int):=by rw[show(b:Int) - 1=((b - 1:Nat):Int) by omega];exact wrap64 (by omega) (by omega)
 have a0:(0:Int)≤a:=by omega
 have a1:(a:Int)<N:=by omega
 have p0:(0:Int)≤p:=by omega
 have p1:(p:Int)<N:=by omega
 obtain⟨i1,hi1⟩: ∃i1,i1=a+1:=⟨_,rfl⟩
 obtain⟨j1,hj1⟩: ∃j1,j1=b - 1:=⟨_,rfl⟩
 rw[←hi1]at w1 lp
 rw[←hj1]at w2 lp
 clear hr hi1 hj1 hd1
 refine v_zz10 (by simp[i_zz10]) ?_
 rw[fbody_eq]
 simp (disch:=first|assumption|omega|(simp[*]<;>omega)|fail) [-getElem?_pos,gz_,gs_,i_zz10,hc0,hl,hix,hld,hst,hd,hs1,e0,lp,w1,w2,a0,a1,p0,p1,fresults,fresL,fres1]
theorem l_ord_sorted (a b s:Nat) (hb:b≤N) (d0 d:Array Nat) (hd:d.size=N): ∀(k i:Nat),b≤i+k→1≤i→i≤N→
  floop (vcall F nro) nro [0,1,2,7,8] i_zz1_B1 (H d0) [S,.int .i64 a,.int .i64 b,.int .i64 i,.int .i64 s] (H d)=some (.exit 2,fl [(0,S),(1,.int .i64 a),(2,.int .i64 b),(7,.int .i64 ((scanSorted (ltC cm) d b i:Nat):Int)),(8,.int .i64 s)],H d):=by
 have hc:=fun q=>E.clean0 d0 q
 have hl:=E.ln
 have oS:=E.oS
 have hN:=E.hN
 have hix:=E.idx
 have hld:=E.load
 have hcm:=E.cmp
 intro k
 induction k with
 | zero =>
  intro i hk hi hiN
  have c1: ¬(i:Int)<b:=by omega
  have c2: ¬i<b:=by omega
  rw[scanSorted,if_neg (by simp[c2]),floop_at i_zz1_B1.eq_1]
  simp (disch:=first|assumption|omega|(simp[*]<;>omega)|fail) [-getElem?_pos,gz_,gs_,hc,hl,oS,c1,c2]
 | succ k ih =>
  intro i hk hi hiN
  by_cases c1:i<b
  ·have c1' :(i:Int)<b:=by omega
   have gi:=getI_nat d (i:Int) i rfl
   have gj:=getI_nat d ((i:Int) - 1) (i - 1) (by omega)
   have i0:(0:Int)≤i:=by omega
   have i1:(i:Int)<N:=by omega
   have j0:(0:Int)≤(i:Int) - 1:=by omega
   have j1:(i:Int) - 1<N:=by omega
   have w1:IntKind.i64.wrap ((i:Int)+1)=(i:Int)+1:=wrap64 (by omega) (by omega)
   have w2:IntKind.i64.wrap ((i:Int) - 1)=(i:Int) - 1:=wrap64 (by omega) (by omega)
   rw[scanSorted,←gi,←gj]
   by_cases c2:cm (getI d (i:Int)) (getI d ((i:Int) - 1))<0
   ·have e2:ltC cm (getI d (i:Int)) (getI d ((i:Int) - 1))=true:=decide_eq_true c2
    rw[if_neg (by simp[e2])]
    clear ih gi gj e2
    rw[floop_at i_zz1_B1.eq_1]
    simp (disch:=first|assumption|omega|(simp[*]<;>omega)|fail) [-getElem?_pos,gz_,gs_,hc,hl,oS,hix,hld,hcm,hd,c1',c1,c2,i0,i1,j0,j1,w1,w2]
   ·have e2:ltC cm (getI d (i:Int)) (getI d ((i:Int) - 1))=false:=decide_eq_false c2
    rw[if_pos (by simp[c1,e2])]
    have ih2:=ih (i+1) (by omega) (by omega) (by omega)
    rw[←ih2]
    clear ih ih2 gi gj e2
    rw[floop_at i_zz1_B1.eq_1]
    simp (disch:=first|assumption|omega|(simp[*]<;>omega)|fail) [-getElem?_pos,gz_,gs_,hc,hl,oS,hix,hld,hcm,hd,c1',c1,c2,i0,i1,j0,j1,w1,w2]
  ·have c1' : ¬(i:Int)<b:=by omega
   rw[scanSorted,if_neg (by simp[c1]),floop_at i_zz1_B1.eq_1]
   simp (disch:=first|assumption|omega|(simp[*]<;>omega)|fail) [-getElem?_pos,gz_,gs_,hc,hl,oS,c1',c1]
theorem l_ord_shd (a b i s:Nat) (d0:Array Nat): ∀(j:Nat) (d:Array Nat),d.size=N→j<N→
  floop (vcall F nro) nro [0,1,2,7,8,9] i_zz1_B2 (H d0) [S,.int .i64 a,.int .i64 b,.int .i64 i,.int .i64 s,.int .i64 j] (H d)=some (.exit 4,fl [(0,S),(1,.int .i64 a),(2,.int .i64 b),(7,.int .i64 i),(8,.int .i64 s)],H (shiftDown (ltC cm) j d))
 | 0, d, hd, hj => by
  have hc:=E.clean0 d0 d
  have hl:=E.ln
  have oS:=E.oS
  rw[floop_at i_zz1_B2.eq_1]
  unfold shiftDown
  simp (disch:=first|assumption|omega|(simp[*]<;>omega)|fail) [-getElem?_pos,gz_,gs_,hc,hl,oS]
 | j + 1, d, hd, hj => by
  have hc:=fun q=>E.clean0 d0 q
  have hl:=E.ln
  have oS:=E.oS
  have hN:=E.hN
  have hi:=E.idx
  have hld:=E.load
  have hst:=E.store
  have hcm:=E.cmp
  have w2:IntKind.i64.wrap (j:Int)=j:=wrap64 (by omega) (by omega)
  have g1:=getI_nat d ((j:Int)+1) (j+1) (by omega)
  have g2:=getI_nat d (j:Int) j rfl
  have k1:(0:Int)≤(j:Int)+1:=by omega
  have k2:(j:Int)+1<N:=by omega
  have k3:(j:Int)<N:=by omega
  have k4:(1:Int)≤(j:Int)+1:=by omega
  unfold shiftDown
  rw[←g1,←g2]
  by_cases c2:cm (getI d ((j:Int)+1)) (getI d (j:Int))<0
  ·have e2:ltC cm (getI d ((j:Int)+1)) (getI d (j:Int))=true:=decide_eq_true c2
   have ih:=l_ord_shd a b i s d0 j (Go.Sort.swp d (j+1) j) (by simpa using hd) (by omega)
   have e3:swI d ((j:Int)+1) j=Go.Sort.swp d (j+1) j:=swI_swp _ _ _ _ _ (by omega) rfl
   unfold swI at e3
   rw[if_neg (by simp[e2]),←ih]
   clear ih g1 g2
   rw[floop_at i_zz1_B2.eq_1]
   simp (disch:=first|assumption|omega|(simp[*]<;>omega)|fail) [-getElem?_pos,gz_,gs_,hc,hl,oS,hi,hld,hst,hcm,hd,w2,k1,k2,k3,k4,c2,e3]
  ·have e2:ltC cm (getI d ((j:Int)+1)) (getI d (j:Int))=false:=decide_eq_false c2
   rw[if_pos (by simp[e2])]
   clear g1 g2
   rw[floop_at i_zz1_B2.eq_1]
   simp (disch:=first|assumption|omega|(simp[*]<;>omega)|fail) [-getElem?_pos,gz_,gs_,hc,hl,oS,hi,hld,hst,hcm,hd,w2,k1,k2,k3,k4,c2]
theorem l_ord_shu (a b i s:Nat) (hb:b≤N) (d0:Array Nat): ∀(k j:Nat) (d:Array Nat),d.size=N→b≤j+k→1≤j→j≤N+1→
  floop (vcall F nro) nro [0,1,2,7,8,10] i_zz1_B3 (H d0) [S,.int .i64 a,.int .i64 b,.int .i64 i,.int .i64 s,.int .i64 j] (H d)=some (.exit 6,fl [(0,S),(1,.int .i64 a),(2,.int .i64 b),(7,.int .i64 i),(8,.int .i64 s)],H (shiftUp (ltC cm) b j d)):=by
 have hc:=fun q=>E.clean0 d0 q
 have hl:=E.ln
 have oS:=E.oS
 have hN:=E.hN
 have hi:=E.idx
 have hld:=E.load
 have hst:=E.store
 have hcm:=E.cmp
 intro k
 induction k with
 | zero =>
  intro j d hd hk hj hjN
  have c1: ¬(j:Int)<b:=by omega
  rw[shiftUp,if_neg (by omega),floop_at i_zz1_B3.eq_1]
  simp (disch:=first|assumption|omega|(simp[*]<;>omega)|fail) [-getElem?_pos,gz_,gs_,hc,hl,oS,c1]
 | succ k ih =>
  intro j d hd hk hj hjN
  by_cases c1:j<b
  ·have c1' :(j:Int)<b:=by omega
   have g1:=getI_nat d (j:Int) j rfl
   have g2:=getI_nat d ((j:Int) - 1) (j - 1) (by omega)
   have k1:(0:Int)≤j:=by omega
   have k2:(j:Int)<N:=by omega
   have k3:(0:Int)≤(j:Int) - 1:=by omega
   have k4:(j:Int) - 1<N:=by omega
   have w1:IntKind.i64.wrap ((j:Int) - 1)=(j:Int) - 1:=wrap64 (by omega) (by omega)
   have w2:IntKind.i64.wrap ((j:Int)+1)=(j:Int)+1:=wrap64 (by omega) (by omega)
   rw[shiftUp,if_pos c1,←g1,←g2]
   by_cases c2:cm (getI d (j:Int)) (getI d ((j:Int) - 1))<0
   ·have e2:ltC cm (getI d (j:Int)) (getI d ((j:Int) - 1))=true:=decide_eq_true c2
    have ih2:=ih (j+1) (Go.Sort.swp d j (j - 1)) (by simpa using hd) (by omega) (by omega) (by omega)
    have e3:swI d (j:Int) ((j:Int) - 1)=Go.Sort.swp d j (j - 1):=swI_swp _ _ _ _ _ rfl (by omega)
    unfold swI at e3
    rw[if_neg (by simp[e2]),←ih2]
    clear ih ih2 g1 g2
    rw[floop_at i_zz1_B3.eq_1]
    simp (disch:=first|assumption|omega|(simp[*]<;>omega)|fail) [-getElem?_pos,gz_,gs_,hc,hl,oS,hi,hld,hst,hcm,hd,w1,w2,k1,k2,k3,k4,c1',c2,e3]
   ·have e2:ltC cm (getI d (j:Int)) (getI d ((j:Int) - 1))=false:=decide_eq_false c2
    rw[if_pos (by simp[e2])]
    clear ih g1 g2
    rw[floop_at i_zz1_B3.eq_1]
    simp (disch:=first|assumption|omega|(simp[*]<;>omega)|fail) [-getElem?_pos,gz_,gs_,hc,hl,oS,hi,hld,hst,hcm,hd,w1,w2,k1,k2,k3,k4,c1',c2]
  ·have c1' : ¬(j:Int)<b:=by omega
   rw[shiftUp,if_neg c1,floop_at i_zz1_B3.eq_1]
   simp (disch:=first|assumption|omega|(simp[*]<;>omega)|fail) [-getElem?_pos,gz_,gs_,hc,hl,oS,c1']
end
end

/- Sorting: partial insertion. -/
section
open Go Go.Sort
variable {nro:Nat} {S:Value} {P:Int→Value} {ag:Nat→Value} {cm:Nat→Nat→Int} {N:Nat} {H:Array Nat→VH}
section
variable (E:SO nro S P ag cm N H)
include E
set_option maxHeartbeats 2000000 in
theorem l_ord_pis (a b:Nat) (hab:a<b) (hb:b≤N) (d0:Array Nat): ∀(s j i:Nat) (d:Array Nat),j+s=5→d.size=N→a+1≤i→i≤b→
  ∃x e,((x= .ret∧e=fl [(6,.bool (partialIns (ltC cm) a b s i d).2)])∨(x= .exit 0∧e=fl []∧(partialIns (ltC cm) a b s i d).2=false))∧floop (vcall F nro) nro [0,1,2,7,8] i_zz1_B4 (H d0) [S,.int .i64 a,.int .i64 b,.int .i64 i,.int .i64 j] (H d)=some (x,e,H (partialIns (ltC cm) a b s i d).1)∧(partialIns (ltC cm) a b s i d).1.size=N:=by
 intro s
 induction s with
 | zero =>
  intro j i d hj hd hi hib
  have hc:=fun q=>E.clean0 d0 q
  have hl:=E.ln
  have oS:=E.oS
  refine⟨.exit 0,fl [],.inr ⟨rfl,rfl,rfl⟩,?_,hd⟩
  have c: ¬(j:Int)<5:=by omega
  rw[floop_at i_zz1_B4.eq_1]
  unfold partialIns
  simp (disch:=first|assumption|omega|(simp[*]<;>omega)|fail) [-getElem?_pos,gz_,gs_,hc,hl,oS,c]
 | succ s ih =>
  intro j i d hj hd hi hib
  have hc:=fun q=>E.clean0 d0 q
  have hl:=E.ln
  have oS:=E.oS
  have hN:=E.hN
  have hix:=E.idx
  have hld:=E.load
  have hst:=E.store
  have c5:(j:Int)<5:=by omega
  have lp:=l_ord_sorted E a b j hb d d hd b i (by omega) (by omega) (by omega)
  have hr:=scanSorted_rng (ltC cm) d b i
  rw[partialIns_succ]
  obtain⟨x,hx⟩: ∃x,x=scanSorted (ltC cm) d b i:=⟨_,rfl⟩
  rw[←hx]at lp hr⊢
  obtain⟨r1,r2⟩:=hr
  have r3:=r2 hib
  clear r2 hx
  by_cases c1:x=b
  ·rw[if_pos c1]
   refine⟨.ret,fl [(6,.bool true)],.inl ⟨rfl,rfl⟩,?_,hd⟩
   have c1' :(x:Int)=b:=by omega
   clear ih
   rw[floop_at i_zz1_B4.eq_1]
   simp (disch:=first|assumption|omega|(simp[*]<;>omega)|fail) [-getElem?_pos,gz_,gs_,hc,hl,oS,c5,lp,c1',c1]
  ·have c1' : ¬(x:Int)=b:=by omega
   rw[if_neg c1]
   obtain⟨len,hlen⟩: ∃len,len=b - a:=⟨_,rfl⟩
   have w0:IntKind.i64.wrap ((b:Int) - a)=len:=by rw[show(b:Int) - a=len by omega];exact wrap64 (by omega) (by omega)
   rw[←hlen]
   by_cases c2:len<50
   ·rw[if_pos c2]
    refine⟨.ret,fl [(6,.bool false)],.inl ⟨rfl,rfl⟩,?_,hd⟩
    have c2' :(len:Int)<50:=by omega
    clear ih
    rw[floop_at i_zz1_B4.eq_1]
    simp (disch:=first|assumption|omega|(simp[*]<;>omega)|fail) [-getElem?_pos,gz_,gs_,hc,hl,oS,c5,lp,c1',c1,w0,c2']
   ·rw[if_neg c2]
    have c2' : ¬(len:Int)<50:=by omega
    obtain⟨d1,hd1⟩: ∃d1,d1=Go.Sort.swp d x (x - 1):=⟨_,rfl⟩
    have hs1:d1.size=N:=by rw[hd1];simpa using hd
    have e1:swI d (x:Int) ((x:Int) - 1)=d1:=by rw[hd1];exact swI_swp _ _ _ _ _ rfl (by omega)
    unfold swI at e1
    have w1:IntKind.i64.wrap ((x:Int) - 1)=(x:Int) - 1:=wrap64 (by omega) (by omega)
    have w2:IntKind.i64.wrap ((x:Int) - a)=(x:Int) - a:=wrap64 (by omega) (by omega)
    have w3:IntKind.i64.wrap ((b:Int) - x)=(b:Int) - x:=wrap64 (by omega) (by omega)
    have w4:IntKind.i64.wrap ((x:Int)+1)=(x:Int)+1:=wrap64 (by omega) (by omega)
    have w5:IntKind.i64.wrap ((j:Int)+1)=(j:Int)+1:=wrap64 (by omega) (by omega)
    have x0:(0:Int)≤x:=by omega
    have x1:(x:Int)<N:=by omega
    have y0:(0:Int)≤(x:Int) - 1:=by omega
    have y1:(x:Int) - 1<N:=by omega
    rw[←hd1]
    have sd:=l_ord_shd E a b x j d1 (x - 1) d1 hs1 (by omega)
    rw[show((x - 1:Nat):Int)=(x:Int) - 1 by omega]at sd
    unfold fixUp fixDown
    by_cases c3:x - a≥2
    ·have c3' :(2:Int)≤(x:Int) - a:=by omega
     rw[if_pos c3]
     obtain⟨d2,hd2⟩: ∃d2,d2=shiftDown (ltC cm) (x - 1) d1:=⟨_,rfl⟩
     have hs2:d2.size=N:=by rw[hd2,shiftDown_size];exact hs1
     rw[←hd2]at sd⊢
     by_cases c4:b - x≥2
     ·have c4' :(2:Int)≤(b:Int) - x:=by omega
      rw[if_pos c4]
      have su:=l_ord_shu E a b x j hb d2 b (x+1) d2 hs2 (by omega) (by omega) (by omega)
      rw[show((x+1:Nat):Int)=(x:Int)+1 by omega]at su
      obtain⟨d3,hd3⟩: ∃d3,d3=shiftUp (ltC cm) b (x+1) d2:=⟨_,rfl⟩
      have hs3:d3.size=N:=by rw[hd3,shiftUp_size];exact hs2
      rw[←hd3]at su⊢
      obtain⟨X,e,q1,q2,q3⟩:=ih (j+1) x d3 (by omega) hs3 (by omega) (by omega)
      refine⟨X,e,q1,?_,q3⟩
      rw[←q2]
      clear ih q1 q2 q3 hd1 hd2 hd3
      rw[floop_at i_zz1_B4.eq_1]
      simp (disch:=first|assumption|omega|(simp[*]<;>omega)|fail) [-getElem?_pos,gz_,gs_,hc,hl,oS,hix,hld,hst,hd,hs1,c5,lp,c1',c1,w0,c2',e1,w1,w2,w3,w4,w5,x0,x1,y0,y1,c3',sd,c4',su]
     ·have c4' : ¬(2:Int)≤(b:Int) - x:=by omega
      rw[if_neg c4]
      obtain⟨X,e,q1,q2,q3⟩:=ih (j+1) x d2 (by omega) hs2 (by omega) (by omega)
      refine⟨X,e,q1,?_,q3⟩
      rw[←q2]
      clear ih q1 q2 q3 hd1 hd2
      rw[floop_at i_zz1_B4.eq_1]
      simp (disch:=first|assumption|omega|(simp[*]<;>omega)|fail) [-getElem?_pos,gz_,gs_,hc,hl,oS,hix,hld,hst,hd,hs1,c5,lp,c1',c1,w0,c2',e1,w1,w2,w3,w4,w5,x0,x1,y0,y1,c3',sd,c4']
    ·have c3' : ¬(2:Int)≤(x:Int) - a:=by omega
     rw[if_neg c3]
     by_cases c4:b - x≥2
     ·have c4' :(2:Int)≤(b:Int) - x:=by omega
      rw[if_pos c4]
      have su:=l_ord_shu E a b x j hb d1 b (x+1) d1 hs1 (by omega) (by omega) (by omega)
      rw[show((x+1:Nat):Int)=(x:Int)+1 by omega]at su
      obtain⟨d3,hd3⟩: ∃d3,d3=shiftUp (ltC cm) b (x+1) d1:=⟨_,rfl⟩
      have hs3:d3.size=N:=by rw[hd3,shiftUp_size];exact hs1
      rw[←hd3]at su⊢
      obtain⟨X,e,q1,q2,q3⟩:=ih (j+1) x d3 (by omega) hs3 (by omega) (by omega)
      refine⟨X,e,q1,?_,q3⟩
      rw[←q2]
      clear ih q1 q2 q3 hd1 hd3 sd
      rw[floop_at i_zz1_B4.eq_1]
      simp (disch:=first|assumption|omega|(simp[*]<;>omega)|fail) [-getElem?_pos,gz_,gs_,hc,hl,oS,hix,hld,hst,hd,hs1,c5,lp,c1',c1,w0,c2',e1,w1,w2,w3,w4,w5,x0,x1,y0,y1,c3',c4',su]
     ·exfalso;omega
theorem c_ord_pis (a b:Nat) (hab:a<b) (hb:b≤N) (d:Array Nat) (hd:d.size=N):
  vcall F nro k_zz1 [S,.int .i64 a,.int .i64 b] (H d)=some (.bool (partialInsertionSort (ltC cm) d a b).2,H (partialInsertionSort (ltC cm) d a b).1)∧(partialInsertionSort (ltC cm) d a b).1.size=N:=by
 have hc0:=fun q vs=>E.clean0 d q vs
 have hN:=E.hN
 obtain⟨x,e,q1,lp,q3⟩:=l_ord_pis E a b hab hb d 5 0 (a+1) d rfl hd (Nat.le_refl _) (by omega)
 refine⟨?_,q3⟩
 unfold partialInsertionSort
 obtain⟨r,hr⟩: ∃r,r=partialIns (ltC cm) a b 5 (a+1) d:=⟨_,rfl⟩
 rw[←hr]at lp q1⊢
 obtain⟨r1,r2⟩:=r
 simp only[Int.natCast_add,Int.natCast_one,Int.natCast_zero]at lp q1⊢
 have w1:IntKind.i64.wrap ((a:Int)+1)=(a:Int)+1:=wrap64 (by omega) (by omega)
 clear hr q3
 refine v_zz1 (by simp[i_zz1]) ?_
 rw[fbody_eq]
 rcases q1 with⟨rfl,rfl⟩|⟨rfl,rfl,rfl⟩
 ·simp (disch:=first|assumption|omega|(simp[*]<;>omega)|fail) [-getElem?_pos,gz_,gs_,i_zz1,w1,lp,hc0,fresults,fresL,fres1]
 ·simp (disch:=first|assumption|omega|(simp[*]<;>omega)|fail) [-getElem?_pos,gz_,gs_,i_zz1,w1,lp,hc0,fresults,fresL,fres1]
end
end

/- Sorting: the whole. -/
section
open Go Go.Sort
variable {nro:Nat} {S:Value} {P:Int→Value} {ag:Nat→Value} {cm:Nat→Nat→Int} {N:Nat} {H:Array Nat→VH}
abbrev pdBO:FC:=unblock i_zz25_B1
structure PO (S:Value) (e:FE) (a b:Nat) (lim:Int) (wb wp:Bool):Prop where
 e0:e 0=S
 e1:e 1= .int .i64 a
 e2:e 2= .int .i64 b
 e3:e 3= .int .i64 lim
 e8:e 8= .bool wb
 e9:e 9= .bool wp
section
variable (E:SXO nro S P ag cm N H) (hS:SWO (ltC cm)) (hN255:N≤255)
include E hS
theorem pdqO_A (a b:Nat) (hab:a≤b) (hb:b≤N) (d:Array Nat) (hd:d.size=N) (lim:Int) (wb wp:Bool) (e:FE) (p:PO S e a b lim wb wp):
  (∃d',d'.size=N∧PermIn a b d d' ∧SortedIn (ltC cm) a b d' ∧fcode (vcall F nro) nro (takeS 2 pdBO) e (H d)=some (.ret,fl [],H d'))∨
  (12<b - a∧lim≠0∧ ∃e',fcode (vcall F nro) nro (takeS 2 pdBO) e (H d)=some (.normal,e',H d)∧PO S e' a b lim wb wp∧e' 10= .int .i64 ((b - a:Nat):Int)):=by
 have hN:=E.base.hN
 have w0:IntKind.i64.wrap ((b:Int) - a)=((b - a:Nat):Int):=by rw[show(b:Int) - a=((b - a:Nat):Int) by omega];exact wrap64 (by omega) (by omega)
 have p0:=p.e0
 have p1:=p.e1
 have p2:=p.e2
 have p3:=p.e3
 by_cases c1:b - a≤12
 ·left
  have hc:=c_ord_ins E.base a b d hd hb (by omega)
  obtain⟨q1,q2⟩:=insertionSort_holds (lt:=ltC cm) hS d a b hab (by omega)
  refine⟨_,by rw[q1.1];exact hd,q1,q2,?_⟩
  have c1' :((b - a:Nat):Int)≤12:=by omega
  obtain⟨r,hr⟩: ∃r,r=insertionSort (ltC cm) d a b:=⟨_,rfl⟩
  rw[←hr]at hc⊢
  clear hr q1 q2
  simp (disch:=first|assumption|omega|(simp[*]<;>omega)|fail) [-getElem?_pos,gz_,gs_,pdBO,unblock,i_zz25_B1,takeS,p0,p1,p2,p3,w0,c1',hc]
 ·have c1' : ¬((b - a:Nat):Int)≤12:=by omega
  by_cases c2:lim=0
  ·left
   have hc:=c_ord_heap E.base a b d hd hab hb
   obtain⟨q1,q2⟩:=heapSort_holds (lt:=ltC cm) hS d a b hab (by omega)
   refine⟨_,by rw[q1.1];exact hd,q1,q2,?_⟩
   obtain⟨r,hr⟩: ∃r,r=heapSort (ltC cm) d a b:=⟨_,rfl⟩
   rw[←hr]at hc⊢
   clear hr q1 q2
   simp (disch:=first|assumption|omega|(simp[*]<;>omega)|fail) [-getElem?_pos,gz_,gs_,pdBO,unblock,i_zz25_B1,takeS,p0,p1,p2,p3,w0,c1',c2,hc]
  ·right
   refine⟨by omega,c2,?_⟩
   have p10:=p.e8
   have p11:=p.e9
   have hgoal: ∃e',fcode (vcall F nro) nro (takeS 2 pdBO) e (H d)=some (.normal,e',H d)∧((e' 0=S∧e' 1= .int .i64 a∧e' 2= .int .i64 b∧e' 3= .int .i64 lim∧e' 8= .bool wb∧e' 9= .bool wp)∧e' 10= .int .i64 ((b - a:Nat):Int)):=by
    simp (disch:=first|assumption|omega|(simp[*]<;>omega)|fail) [-getElem?_pos,gz_,gs_,pdBO,unblock,i_zz25_B1,takeS,p0,p1,p2,p3,p10,p11,w0,c1',c2]
   obtain⟨e',h1,⟨q0,q1,q2,q3,q4,q5⟩,h2⟩:=hgoal
   exact⟨e',h1,⟨q0,q1,q2,q3,q4,q5⟩,h2⟩
omit hS in
theorem pdqO_B (hN255:N≤255) (a b:Nat) (hab:a≤b) (hb:b≤N) (d:Array Nat) (hd:d.size=N) (lim:Int) (hl0:1≤lim) (hl1:lim≤255) (wb wp:Bool) (e:FE) (x:Value) (p:PO S e a b lim wb wp) (p12:e 10=x):
  ∃e' d1 lim',fcode (vcall F nro) nro (takeS 0 (dropS 3 pdBO)) e (H d)=some (.normal,e',H d1)∧d1.size=N∧PermIn a b d d1∧(0≤lim' ∧lim' ≤255)∧PO S e' a b lim' wb wp∧e' 10=x:=by
 have p0:=p.e0
 have p1:=p.e1
 have p2:=p.e2
 have p3:=p.e3
 have p10:=p.e8
 have p11:=p.e9
 cases wb with
 | true =>
  have hgoal: ∃e',fcode (vcall F nro) nro (takeS 0 (dropS 3 pdBO)) e (H d)=some (.normal,e',H d)∧((e' 0=S∧e' 1= .int .i64 a∧e' 2= .int .i64 b∧e' 3= .int .i64 lim∧e' 8= .bool true∧e' 9= .bool wp)∧e' 10=x):=by
   simp (disch:=first|assumption|omega|(simp[*]<;>omega)|fail) [-getElem?_pos,gz_,gs_,pdBO,unblock,i_zz25_B1,takeS,dropS,p0,p1,p2,p3,p10,p11,p12]
  obtain⟨e',h1,⟨r0,r1,r2,r3,r4,r5⟩,h2⟩:=hgoal
  exact⟨e',d,lim,h1,hd,permIn_refl d a b,by omega,⟨r0,r1,r2,r3,r4,r5⟩,h2⟩
 | false =>
  obtain⟨d1,q1,q2,q3⟩:=c_ord_break E a b d hd hab hb hN255
  have w1:IntKind.i64.wrap (lim - 1)=lim - 1:=wrap64 (by omega) (by omega)
  have hgoal: ∃e',fcode (vcall F nro) nro (takeS 0 (dropS 3 pdBO)) e (H d)=some (.normal,e',H d1)∧((e' 0=S∧e' 1= .int .i64 a∧e' 2= .int .i64 b∧e' 3= .int .i64 (lim - 1)∧e' 8= .bool false∧e' 9= .bool wp)∧e' 10=x):=by
   simp (disch:=first|assumption|omega|(simp[*]<;>omega)|fail) [-getElem?_pos,gz_,gs_,pdBO,unblock,i_zz25_B1,takeS,dropS,p0,p1,p2,p3,p10,p11,p12,q3,w1]
  obtain⟨e',h1,⟨r0,r1,r2,r3,r4,r5⟩,h2⟩:=hgoal
  exact⟨e',d1,lim - 1,h1,q1,q2,by omega,⟨r0,r1,r2,r3,r4,r5⟩,h2⟩
omit hS in
theorem pdqO_C (a b:Nat) (hab:a<b) (hb:b≤N) (d:Array Nat) (hd:d.size=N) (lim:Int) (wb wp:Bool) (e:FE) (x:Value) (p:PO S e a b lim wb wp) (p12:e 10=x):
  ∃e' d1 m t,fcode (vcall F nro) nro (takeS 1 (dropS 4 pdBO)) e (H d)=some (.normal,e',H d1)∧d1.size=N∧PermIn a b d d1∧(a≤m∧m<b)∧PO S e' a b lim wb wp∧e' 10=x∧e' 11= .int .i64 ((m:Nat):Int)∧e' 12= .int .i64 t:=by
 have hN:=E.base.hN
 have p0:=p.e0
 have p1:=p.e1
 have p2:=p.e2
 have p3:=p.e3
 have p10:=p.e8
 have p11:=p.e9
 obtain⟨m,t,hm,ht,hc⟩:=c_ord_pivot E d hd a b hab hb
 by_cases c:t=2
 ·have hr:=c_ord_rev E.base a b d hd hab hb
  have hp:=reverseRange_holds (α:=Nat) d a b (by omega) (by omega)
  subst c
  obtain⟨m',hm'⟩: ∃m' :Nat,m' =b - 1 - (m - a):=⟨_,rfl⟩
  have w1:IntKind.i64.wrap ((b:Int) - 1)=(b:Int) - 1:=wrap64 (by omega) (by omega)
  have w2:IntKind.i64.wrap ((m:Int) - a)=(m:Int) - a:=wrap64 (by omega) (by omega)
  have w3:IntKind.i64.wrap ((b:Int) - 1 - ((m:Int) - a))=m' :=by rw[show(b:Int) - 1 - ((m:Int) - a)=m' by omega];exact wrap64 (by omega) (by omega)
  have hgoal: ∃e',fcode (vcall F nro) nro (takeS 1 (dropS 4 pdBO)) e (H d)=some (.normal,e',H (reverseRange d a b))∧((e' 0=S∧e' 1= .int .i64 a∧e' 2= .int .i64 b∧e' 3= .int .i64 lim∧e' 8= .bool wb∧e' 9= .bool wp)∧e' 10=x∧e' 11= .int .i64 ((m' :Nat):Int)∧e' 12= .int .i64 1):=by
   obtain⟨r,hr2⟩: ∃r,r=reverseRange d a b:=⟨_,rfl⟩
   rw[←hr2]at hr⊢
   clear hp hm hr2 hm'
   simp (disch:=first|assumption|omega|(simp[*]<;>omega)|fail) [-getElem?_pos,gz_,gs_,pdBO,unblock,i_zz25_B1,takeS,dropS,p0,p1,p2,p3,p10,p11,p12,hc,hr,w1,w2,w3]
  obtain⟨e',h1,⟨r0,r1,r2,r3,r4,r5⟩,h2,h3,h4⟩:=hgoal
  exact⟨e',_,m',1,h1,by rw[hp.1];exact hd,hp,by omega,⟨r0,r1,r2,r3,r4,r5⟩,h2,h3,h4⟩
 ·have c' : ¬(t:Int)=2:=by omega
  have hgoal: ∃e',fcode (vcall F nro) nro (takeS 1 (dropS 4 pdBO)) e (H d)=some (.normal,e',H d)∧((e' 0=S∧e' 1= .int .i64 a∧e' 2= .int .i64 b∧e' 3= .int .i64 lim∧e' 8= .bool wb∧e' 9= .bool wp)∧e' 10=x∧e' 11= .int .i64 ((m:Nat):Int)∧e' 12= .int .i64 t):=by
   clear hm ht
   simp (disch:=first|assumption|omega|(simp[*]<;>omega)|fail) [-getElem?_pos,gz_,gs_,pdBO,unblock,i_zz25_B1,takeS,dropS,p0,p1,p2,p3,p10,p11,p12,hc,c',c]
  obtain⟨e',h1,⟨r0,r1,r2,r3,r4,r5⟩,h2,h3,h4⟩:=hgoal
  exact⟨e',d,m,t,h1,hd,permIn_refl d a b,hm,⟨r0,r1,r2,r3,r4,r5⟩,h2,h3,h4⟩
theorem pdqO_D (a b:Nat) (hab:a<b) (hb:b≤N) (d:Array Nat) (hd:d.size=N) (hB:Below (ltC cm) a b d) (lim:Int) (wb wp:Bool) (e:FE) (x y:Value) (t:Int) (p:PO S e a b lim wb wp) (p12:e 10=x) (p13:e 11=y) (p14:e 12= .int .i64 t):
  (∃d',d'.size=N∧PermIn a b d d' ∧SortedIn (ltC cm) a b d' ∧fcode (vcall F nro) nro (takeS 0 (dropS 6 pdBO)) e (H d)=some (.ret,fl [],H d'))∨
  ∃e' d1,fcode (vcall F nro) nro (takeS 0 (dropS 6 pdBO)) e (H d)=some (.normal,e',H d1)∧d1.size=N∧PermIn a b d d1∧PO S e' a b lim wb wp∧e' 10=x∧e' 11=y:=by
 have p0:=p.e0
 have p1:=p.e1
 have p2:=p.e2
 have p3:=p.e3
 have p10:=p.e8
 have p11:=p.e9
 by_cases c:wb=true∧wp=true∧t=1
 ·obtain⟨rfl,rfl,rfl⟩:=c
  obtain⟨hc,hs⟩:=c_ord_pis E.base a b hab hb d hd
  obtain⟨q1,q2⟩:=partialInsertionSort_holds (lt:=ltC cm) hS d a b hab (by omega) hB
  obtain⟨r,hr⟩: ∃r,r=partialInsertionSort (ltC cm) d a b:=⟨_,rfl⟩
  rw[←hr]at hc hs q1 q2
  obtain⟨r1,r2⟩:=r
  simp only at hc hs q1 q2
  cases r2 with
  | true =>
   left
   refine⟨r1,hs,q1,q2 rfl,?_⟩
   clear q1 q2 hr
   simp (disch:=first|assumption|omega|(simp[*]<;>omega)|fail) [-getElem?_pos,gz_,gs_,pdBO,unblock,i_zz25_B1,takeS,dropS,p0,p1,p2,p3,p10,p11,p12,p13,p14,hc]
  | false =>
   right
   have hgoal: ∃e',fcode (vcall F nro) nro (takeS 0 (dropS 6 pdBO)) e (H d)=some (.normal,e',H r1)∧((e' 0=S∧e' 1= .int .i64 a∧e' 2= .int .i64 b∧e' 3= .int .i64 lim∧e' 8= .bool true∧e' 9= .bool true)∧e' 10=x∧e' 11=y):=by
    clear q1 q2 hr
    simp (disch:=first|assumption|omega|(simp[*]<;>omega)|fail) [-getElem?_pos,gz_,gs_,pdBO,unblock,i_zz25_B1,takeS,dropS,p0,p1,p2,p3,p10,p11,p12,p13,p14,hc]
   obtain⟨e',h1,⟨s0,s1,s2,s3,s4,s5⟩,h2,h3⟩:=hgoal
   exact⟨e',r1,h1,hs,q1,⟨s0,s1,s2,s3,s4,s5⟩,h2,h3⟩
 ·right
  have hgoal: ∃e',fcode (vcall F nro) nro (takeS 0 (dropS 6 pdBO)) e (H d)=some (.normal,e',H d)∧((e' 0=S∧e' 1= .int .i64 a∧e' 2= .int .i64 b∧e' 3= .int .i64 lim∧e' 8= .bool wb∧e' 9= .bool wp)∧e' 10=x∧e' 11=y):=by
   cases wb with
   | false => simp (disch := first | assumption | omega | (simp [*] <;> omega) | fail) [-getElem?_pos, gz_, gs_, pdBO, unblock, i_zz25_B1, takeS, dropS, p0, p1, p2, p3, p10, p11, p12, p13, p14]
   | true =>
    cases wp with
    | false => simp (disch := first | assumption | omega | (simp [*] <;> omega) | fail) [-getElem?_pos, gz_, gs_, pdBO, unblock, i_zz25_B1, takeS, dropS, p0, p1, p2, p3, p10, p11, p12, p13, p14]
    | true =>
     have c2: ¬t=1:=fun h=>c ⟨rfl,rfl,h⟩
     simp (disch:=first|assumption|omega|(simp[*]<;>omega)|fail) [-getElem?_pos,gz_,gs_,pdBO,unblock,i_zz25_B1,takeS,dropS,p0,p1,p2,p3,p10,p11,p12,p13,p14,c2]
  obtain⟨e',h1,⟨s0,s1,s2,s3,s4,s5⟩,h2,h3⟩:=hgoal
  exact⟨e',d,h1,hd,permIn_refl d a b,⟨s0,s1,s2,s3,s4,s5⟩,h2,h3⟩
end
end

/- Sorting: the recursion. -/
section
open Go Go.Sort
variable {nro:Nat} {S:Value} {P:Int→Value} {ag:Nat→Value} {cm:Nat→Nat→Int} {N:Nat} {H:Array Nat→VH}
section
variable (E:SXO nro S P ag cm N H)
include E
theorem pdqO_E (a b m:Nat) (ham:a≤m) (hmb:m<b) (hb:b≤N) (d:Array Nat) (hd:d.size=N) (lim:Int) (wb wp:Bool) (e:FE) (x:Value) (p:PO S e a b lim wb wp) (p12:e 10=x) (p13:e 11= .int .i64 ((m:Nat):Int)):
  (0<a∧ltC cm d[a - 1]! d[m]! =false∧ ∃e',fcode (vcall F nro) nro (takeS 0 (dropS 7 pdBO)) e (H d)=some (.exit 1,e',H (partitionEqual (ltC cm) d a b m).2)∧PO S e' (partitionEqual (ltC cm) d a b m).1 b lim wb wp)∨
  ∃e',fcode (vcall F nro) nro (takeS 0 (dropS 7 pdBO)) e (H d)=some (.normal,e',H d)∧PO S e' a b lim wb wp∧e' 10=x∧e' 11= .int .i64 ((m:Nat):Int):=by
 have hN:=E.base.hN
 have p0:=p.e0
 have p1:=p.e1
 have p2:=p.e2
 have p3:=p.e3
 have p10:=p.e8
 have p11:=p.e9
 have hix:=E.base.idx
 have hld:=E.base.load
 have hcm:=E.base.cmp
 by_cases c0:0<a
 ·have c0' :(0:Int)<a:=by omega
  have w1:IntKind.i64.wrap ((a:Int) - 1)=(a:Int) - 1:=wrap64 (by omega) (by omega)
  have g1:=getI_nat d ((a:Int) - 1) (a - 1) (by omega)
  have g2:=getI_nat d (m:Int) m rfl
  have k1:(0:Int)≤(a:Int) - 1:=by omega
  have k2:(a:Int) - 1<N:=by omega
  have k3:(0:Int)≤m:=by omega
  have k4:(m:Int)<N:=by omega
  rw[←g1,←g2]
  by_cases c1:cm (getI d ((a:Int) - 1)) (getI d (m:Int))<0
  ·right
   have hgoal: ∃e',fcode (vcall F nro) nro (takeS 0 (dropS 7 pdBO)) e (H d)=some (.normal,e',H d)∧((e' 0=S∧e' 1= .int .i64 a∧e' 2= .int .i64 b∧e' 3= .int .i64 lim∧e' 8= .bool wb∧e' 9= .bool wp)∧e' 10=x∧e' 11= .int .i64 ((m:Nat):Int)):=by
    clear g1 g2
    simp (disch:=first|assumption|omega|(simp[*]<;>omega)|fail) [-getElem?_pos,gz_,gs_,pdBO,unblock,i_zz25_B1,takeS,dropS,p0,p1,p2,p3,p10,p11,p12,p13,c0',c0,w1,hix,hld,hcm,hd,k1,k2,k3,k4,c1]
   obtain⟨e',h1,⟨s0,s1,s2,s3,s4,s5⟩,h2,h3⟩:=hgoal
   exact⟨e',h1,⟨s0,s1,s2,s3,s4,s5⟩,h2,h3⟩
  ·left
   refine⟨c0,decide_eq_false c1,?_⟩
   have hc:=c_ord_partE E.base d hd a b m ham hmb hb
   obtain⟨r,hr⟩: ∃r,r=partitionEqual (ltC cm) d a b m:=⟨_,rfl⟩
   rw[←hr]at hc⊢
   have hgoal: ∃e',fcode (vcall F nro) nro (takeS 0 (dropS 7 pdBO)) e (H d)=some (.exit 1,e',H r.2)∧(e' 0=S∧e' 1= .int .i64 ((r.1:Nat):Int)∧e' 2= .int .i64 b∧e' 3= .int .i64 lim∧e' 8= .bool wb∧e' 9= .bool wp):=by
    clear g1 g2 hr
    simp (disch:=first|assumption|omega|(simp[*]<;>omega)|fail) [-getElem?_pos,gz_,gs_,pdBO,unblock,i_zz25_B1,takeS,dropS,p0,p1,p2,p3,p10,p11,p12,p13,c0',c0,w1,hix,hld,hcm,hd,k1,k2,k3,k4,c1,hc]
   obtain⟨e',h1,s0,s1,s2,s3,s4,s5⟩:=hgoal
   exact⟨e',h1,⟨s0,s1,s2,s3,s4,s5⟩⟩
 ·right
  have c0' : ¬(0:Int)<a:=by omega
  have hgoal: ∃e',fcode (vcall F nro) nro (takeS 0 (dropS 7 pdBO)) e (H d)=some (.normal,e',H d)∧((e' 0=S∧e' 1= .int .i64 a∧e' 2= .int .i64 b∧e' 3= .int .i64 lim∧e' 8= .bool wb∧e' 9= .bool wp)∧e' 10=x∧e' 11= .int .i64 ((m:Nat):Int)):=by
   simp (disch:=first|assumption|omega|(simp[*]<;>omega)|fail) [-getElem?_pos,gz_,gs_,pdBO,unblock,i_zz25_B1,takeS,dropS,p0,p1,p2,p3,p10,p11,p12,p13,c0',c0]
  obtain⟨e',h1,⟨s0,s1,s2,s3,s4,s5⟩,h2,h3⟩:=hgoal
  exact⟨e',h1,⟨s0,s1,s2,s3,s4,s5⟩,h2,h3⟩
theorem pdqO_F (a b m mid:Nat) (ap:Bool) (d d4 L:Array Nat) (lim:Int) (wb wp:Bool) (e:FE) (len:Nat) (hlen:len≤1000) (hmid:a≤mid∧mid<b∧b≤N) (p:PO S e a b lim wb wp) (p12:e 10= .int .i64 ((len:Nat):Int)) (p13:e 11= .int .i64 ((m:Nat):Int))
  (hc:vcall F nro k_zz21 [S,.int .i64 a,.int .i64 b,.int .i64 m] (H d)=some (.tuple #[.int .i64 ((mid:Nat):Int),.bool ap],H d4))
  (hcall:if mid - a<b - mid then vcall F nro k_zz25 [S,.int .i64 a,.int .i64 mid,.int .i64 lim] (H d4)=some (.tuple #[],H L)else vcall F nro k_zz25 [S,.int .i64 ((mid+1:Nat):Int),.int .i64 b,.int .i64 lim] (H d4)=some (.tuple #[],H L)):
  ∃e' wb',fcode (vcall F nro) nro (dropS 8 pdBO) e (H d)=some (.normal,e',H L)∧(if mid - a<b - mid then PO S e' (mid+1) b lim wb' ap else PO S e' a mid lim wb' ap):=by
 have hN:=E.base.hN
 have p0:=p.e0
 have p1:=p.e1
 have p2:=p.e2
 have p3:=p.e3
 have p10:=p.e8
 have p11:=p.e9
 obtain⟨q,hq⟩: ∃q:Nat,q=len / 8:=⟨_,rfl⟩
 have t1:((len:Nat):Int).tdiv 8=q:=by rw[Int.tdiv_eq_ediv_of_nonneg (by omega)];omega
 have w1:IntKind.i64.wrap ((mid:Int) - a)=(mid:Int) - a:=wrap64 (by omega) (by omega)
 have w2:IntKind.i64.wrap ((b:Int) - mid)=(b:Int) - mid:=wrap64 (by omega) (by omega)
 have w3:IntKind.i64.wrap (q:Int)=q:=wrap64 (by omega) (by omega)
 have w4:IntKind.i64.wrap ((mid:Int)+1)=(mid:Int)+1:=wrap64 (by omega) (by omega)
 by_cases c:mid - a<b - mid
 ·have c' :(mid:Int) - a<(b:Int) - mid:=by omega
  rw[if_pos c]at hcall
  have hgoal: ∃e',fcode (vcall F nro) nro (dropS 8 pdBO) e (H d)=some (.normal,e',H L)∧(e' 0=S∧e' 1= .int .i64 ((mid:Int)+1)∧e' 2= .int .i64 b∧e' 3= .int .i64 lim∧e' 8= .bool (decide ((q:Int)≤(mid:Int) - a))∧e' 9= .bool ap):=by
   clear hq hmid hlen
   simp (disch:=first|assumption|omega|(simp[*]<;>omega)|fail) [-getElem?_pos,gz_,gs_,pdBO,unblock,i_zz25_B1,dropS,p0,p1,p2,p3,p10,p11,p12,p13,hc,t1,w1,w2,w3,w4,c',hcall]
  obtain⟨e',h1,s0,s1,s2,s3,s4,s5⟩:=hgoal
  refine⟨e',decide ((q:Int)≤(mid:Int) - a),h1,?_⟩
  rw[if_pos c]
  exact⟨s0,s1,s2,s3,s4,s5⟩
 ·have c' : ¬(mid:Int) - a<(b:Int) - mid:=by omega
  rw[if_neg c]at hcall
  rw[show((mid+1:Nat):Int)=(mid:Int)+1 by omega]at hcall
  have hgoal: ∃e',fcode (vcall F nro) nro (dropS 8 pdBO) e (H d)=some (.normal,e',H L)∧(e' 0=S∧e' 1= .int .i64 a∧e' 2= .int .i64 mid∧e' 3= .int .i64 lim∧e' 8= .bool (decide ((q:Int)≤(b:Int) - mid))∧e' 9= .bool ap):=by
   clear hq hmid hlen
   simp (disch:=first|assumption|omega|(simp[*]<;>omega)|fail) [-getElem?_pos,gz_,gs_,pdBO,unblock,i_zz25_B1,dropS,p0,p1,p2,p3,p10,p11,p12,p13,hc,t1,w1,w2,w3,w4,c',hcall]
  obtain⟨e',h1,s0,s1,s2,s3,s4,s5⟩:=hgoal
  refine⟨e',decide ((q:Int)≤(b:Int) - mid),h1,?_⟩
  rw[if_neg c]
  exact⟨s0,s1,s2,s3,s4,s5⟩
end
theorem pdBO_eq:i_zz25_B1= .block 1 pdBO:=rfl
theorem floop_po (e:FE) (a b:Nat) (lim:Int) (wb wp:Bool) (p:PO S e a b lim wb wp): [0,1,2,3,8,9].map e= [S,.int .i64 a,.int .i64 b,.int .i64 lim,.bool wb,.bool wp]:=by
 simp[p.e0,p.e1,p.e2,p.e3,p.e8,p.e9]
def PdqLO (nro:Nat) (S:Value) (cm:Nat→Nat→Int) (N:Nat) (H:Array Nat→VH) (a b:Nat):Prop:=
 ∀(d:Array Nat),d.size=N→Below (ltC cm) a b d→ ∀(lim:Int),0≤lim→lim≤255→ ∀(wb wp:Bool) (d0:Array Nat),∃d',d'.size=N∧PermIn a b d d' ∧SortedIn (ltC cm) a b d' ∧floop (vcall F nro) nro [0,1,2,3,8,9] i_zz25_B1 (H d0) [S,.int .i64 a,.int .i64 b,.int .i64 lim,.bool wb,.bool wp] (H d)=some (.ret,fl [],H d')
theorem PdqLO.call (E:SXO nro S P ag cm N H) {a b:Nat} (h:PdqLO nro S cm N H a b) (d:Array Nat) (hd:d.size=N) (hB:Below (ltC cm) a b d) (lim:Int) (hl:0≤lim) (hl2:lim≤255):
  ∃d',d'.size=N∧PermIn a b d d' ∧SortedIn (ltC cm) a b d' ∧vcall F nro k_zz25 [S,.int .i64 a,.int .i64 b,.int .i64 lim] (H d)=some (.tuple #[],H d'):=by
 obtain⟨d',h1,h2,h3,lp⟩:=h d hd hB lim hl hl2 true true d
 refine⟨d',h1,h2,h3,?_⟩
 have hc0:=fun q vs=>E.base.clean0 d q vs
 clear h2 h3
 refine v_zz25 (by simp[i_zz25]) ?_
 rw[fbody_eq]
 simp (disch:=first|assumption|omega|(simp[*]<;>omega)|fail) [-getElem?_pos,gz_,gs_,i_zz25,lp,hc0,fresults,fresL]
set_option maxHeartbeats 1000000 in
theorem pdqO_all (E:SXO nro S P ag cm N H) (hS:SWO (ltC cm)) (hN255:N≤255): ∀(n a b:Nat),b - a≤n→a≤b→b≤N→PdqLO nro S cm N H a b:=by
 intro n
 induction n with
 | zero =>
  intro a b hn hab hb d hd hB lim hl hl2 wb wp d0
  have pe:PO S (fl ([0,1,2,3,8,9].zip [S,.int .i64 a,.int .i64 b,.int .i64 lim,.bool wb,.bool wp])) a b lim wb wp:=⟨rfl,rfl,rfl,rfl,rfl,rfl⟩
  rcases pdqO_A E hS a b hab hb d hd lim wb wp _ pe with⟨d',h1,h2,h3,h4⟩|⟨h1,_⟩
  ·refine⟨d',h1,h2,h3,?_⟩
   rw[floop_at pdBO_eq,fcode_block,fcode_parts (vcall F nro) nro 2 pdBO _ _ (by decide),h4]
   rfl
  ·omega
 | succ n ih =>
  intro a b hn hab hb d hd hB lim hl hl2 wb wp d0
  have pe:PO S (fl ([0,1,2,3,8,9].zip [S,.int .i64 a,.int .i64 b,.int .i64 lim,.bool wb,.bool wp])) a b lim wb wp:=⟨rfl,rfl,rfl,rfl,rfl,rfl⟩
  obtain⟨env,henv⟩: ∃env,env=fl ([0,1,2,3,8,9].zip [S,.int .i64 a,.int .i64 b,.int .i64 lim,.bool wb,.bool wp]):=⟨_,rfl⟩
  rw[floop_at pdBO_eq,fcode_block,←henv]
  rw[←henv]at pe
  rw[fcode_parts (vcall F nro) nro 2 pdBO _ _ (by decide)]
  rcases pdqO_A E hS a b hab hb d hd lim wb wp _ pe with⟨d',h1,h2,h3,h4⟩|⟨h12,hl3,eA,fA,peA,pA12⟩
  ·refine⟨d',h1,h2,h3,?_⟩
   rw[h4]
   rfl
  rw[←fcode_parts (vcall F nro) nro 2 pdBO _ _ (by decide),seq_step 2 (by decide) fA]
  obtain⟨eB,d1,limB,fB,s1,q1,hlB,peB,pB12⟩:=pdqO_B E hN255 a b hab hb d hd lim (by omega) hl2 wb wp eA _ peA pA12
  rw[seq_step 0 (by decide) fB]
  have B1:=hB.perm (by omega) q1
  obtain⟨eC,d2,m,t,fC,s2,q2,hm,peC,pC12,pC13,pC14⟩:=pdqO_C E a b (by omega) hb d1 s1 limB wb wp eB _ peB pB12
  have t1:dropS (0+1) (dropS (2+1) pdBO)=dropS 4 pdBO:=rfl
  rw[t1,seq_step 1 (by decide) fC]
  have B2:=B1.perm (by omega) q2
  have t2:dropS (1+1) (dropS 4 pdBO)=dropS 6 pdBO:=rfl
  rw[t2]
  have Q2:=permIn_trans _ _ _ a b q1 q2
  rcases pdqO_D E hS a b (by omega) hb d2 s2 B2 limB wb wp eC _ _ t peC pC12 pC13 pC14 with⟨d',h1,h2,h3,h4⟩|⟨eD,d3,fD,s3,q3,peD,pD12,pD13⟩
  ·refine⟨d',h1,permIn_trans _ _ _ a b Q2 h2,h3,?_⟩
   rw[seq_ret 0 (by decide) (by simp) h4]
   rfl
  rw[seq_step 0 (by decide) fD]
  have t3:dropS (0+1) (dropS 6 pdBO)=dropS 7 pdBO:=rfl
  rw[t3]
  have B3:=B2.perm (by omega) q3
  have Q3:=permIn_trans _ _ _ a b Q2 q3
  rcases pdqO_E E a b m hm.1 hm.2 hb d3 s3 limB wb wp eD _ peD pD12 pD13 with⟨ha0,hlt,eE,fE,peE⟩|⟨eE,fE,peE,pE12,pE13⟩
  ·-- equal elements to the left
   obtain⟨g1,g2,g3,g4,g5⟩:=round_eq hS (partitionEqual_holds (ltC cm)) (d3:=d3) (d4:=(partitionEqual (ltC cm) d3 a b m).2) (mid:=(partitionEqual (ltC cm) d3 a b m).1) ha0 hm.1 hm.2 (by omega) B3 hlt rfl
   obtain⟨r,hr⟩: ∃r,r=partitionEqual (ltC cm) d3 a b m:=⟨_,rfl⟩
   rw[←hr]at g1 g2 g3 g4 g5 fE peE
   rw[seq_ret 0 (by decide) (by simp) fE]
   obtain⟨d',i1,i2,i3,i4⟩:=ih r.1 b (by omega) g2 hb r.2 (by omega) g4 limB hlB.1 hlB.2 wb wp d0
   obtain⟨z1,z2⟩:=g5 d' i2 i3
   refine⟨d',i1,permIn_trans _ _ _ a b Q3 z1,z2,?_⟩
   rw[←i4]
   show kloop (vcall F nro) nro [0,1,2,3,8,9] i_zz25_B1 (H d0) (kclean (H d0) ([0,1,2,3,8,9].map eE) (H r.2))=_
   rw[floop_po eE r.1 b limB wb wp peE]
   have hc:=E.base.clean0 d0 r.2
   have oS:=E.base.oS
   clear g1 g2 g3 g4 g5 i1 i2 i3 i4 z1 z2 hr
   simp (disch:=first|assumption|omega|(simp[*]<;>omega)|fail) [-getElem?_pos,gz_,gs_,hc,oS]
  ·rw[seq_step 0 (by decide) fE]
   have t4:dropS (0+1) (dropS 7 pdBO)=dropS 8 pdBO:=rfl
   rw[t4]
   have hpt:=c_ord_part E.base d3 s3 a b m hm.1 hm.2 hb
   obtain⟨r,hr⟩: ∃r,r=partition (ltC cm) d3 a b m:=⟨_,rfl⟩
   rw[←hr]at hpt
   obtain⟨mid,ap,d4⟩:=r
   simp only at hpt
   obtain⟨g1,g2,g3,g4,g5,g6,g7⟩:=round_part hS (partition_holds (ltC cm)) hm.1 hm.2 (show b≤d3.size by omega) B3 hr.symm
   by_cases c:mid - a<b - mid
   ·obtain⟨L,l1,l2,l3,l4⟩:=(ih a mid (by omega) g1 (by omega)).call E d4 (by omega) g4 limB hlB.1 hlB.2
    obtain⟨g8,g9⟩:=g6 L l2 l3
    obtain⟨eF,wbF,fF,peF⟩:=pdqO_F E a b m mid ap d3 d4 L limB wb wp eE (b - a) (by have:=E.base.hN;omega) ⟨g1,g2,hb⟩ peE pE12 pE13 hpt (by rw[if_pos c];exact l4)
    rw[if_pos c]at peF
    rw[fF]
    obtain⟨d',i1,i2,i3,i4⟩:=ih (mid+1) b (by omega) (by omega) hb L l1 g8 limB hlB.1 hlB.2 wbF ap d0
    obtain⟨z1,z2⟩:=g9 d' i2 i3
    refine⟨d',i1,permIn_trans _ _ _ a b Q3 z1,z2,?_⟩
    rw[←i4]
    show kloop (vcall F nro) nro [0,1,2,3,8,9] i_zz25_B1 (H d0) (kclean (H d0) ([0,1,2,3,8,9].map eF) (H L))=_
    rw[floop_po eF (mid+1) b limB wbF ap peF]
    have hc:=E.base.clean0 d0 L
    have oS:=E.base.oS
    clear g1 g2 g3 g4 g5 g6 g7 g8 g9 i1 i2 i3 i4 z1 z2 hr
    simp (disch:=first|assumption|omega|(simp[*]<;>omega)|fail) [-getElem?_pos,gz_,gs_,hc,oS]
   ·obtain⟨L,l1,l2,l3,l4⟩:=(ih (mid+1) b (by omega) (by omega) hb).call E d4 (by omega) g5 limB hlB.1 hlB.2
    obtain⟨g8,g9⟩:=g7 L l2 l3
    obtain⟨eF,wbF,fF,peF⟩:=pdqO_F E a b m mid ap d3 d4 L limB wb wp eE (b - a) (by have:=E.base.hN;omega) ⟨g1,g2,hb⟩ peE pE12 pE13 hpt (by rw[if_neg c];exact l4)
    rw[if_neg c]at peF
    rw[fF]
    obtain⟨d',i1,i2,i3,i4⟩:=ih a mid (by omega) g1 (by omega) L l1 g8 limB hlB.1 hlB.2 wbF ap d0
    obtain⟨z1,z2⟩:=g9 d' i2 i3
    refine⟨d',i1,permIn_trans _ _ _ a b Q3 z1,z2,?_⟩
    rw[←i4]
    show kloop (vcall F nro) nro [0,1,2,3,8,9] i_zz25_B1 (H d0) (kclean (H d0) ([0,1,2,3,8,9].map eF) (H L))=_
    rw[floop_po eF a mid limB wbF ap peF]
    have hc:=E.base.clean0 d0 L
    have oS:=E.base.oS
    clear g1 g2 g3 g4 g5 g6 g7 g8 g9 i1 i2 i3 i4 z1 z2 hr
    simp (disch:=first|assumption|omega|(simp[*]<;>omega)|fail) [-getElem?_pos,gz_,gs_,hc,oS]
end

/- slices.Sort of numbers, up to 255 of them. -/
section
open Go Go.Sort
section
variable {nro:Nat} {S:Value} {P:Int→Value} {ag:Nat→Value} {cm:Nat→Nat→Int} {N:Nat} {H:Array Nat→VH}
theorem c_ord_Sort (E:SXO nro S P ag cm N H) (hS:SWO (ltC cm)) (hN255:N≤255) (d:Array Nat) (hd:d.size=N):
  ∃d',d'.size=N∧PermIn 0 N d d' ∧SortedIn (ltC cm) 0 N d' ∧vcall F nro k_zz36 [S] (H d)=some (.tuple #[],H d'):=by
 obtain⟨y,y1,_,_,e1⟩:=c_bits_Len64x (nro:=nro) N hN255 (H d)
 have e2:vcall F nro k_zz82 [.int .u64 N] (H d)=some (.int .i64 y,H d):=by
  refine v_zz82 (by simp[i_zz82]) ?_
  rw[fbody_eq]
  simp (disch:=first|assumption|omega|(simp[*]<;>omega)|fail) [i_zz82,e1]
 obtain⟨d',h1,h2,h3,h4⟩:=(pdqO_all E hS hN255 N 0 N (by omega) (by omega) (Nat.le_refl _)).call E d hd (.inl rfl) y (by omega) (by omega)
 refine⟨d',h1,h2,h3,?_⟩
 have vl:=E.base.vln d hd
 have hc0:=fun q vs=>E.base.clean0 d q vs
 have w1:IntKind.u64.wrap (N:Int)=N:=wrapu64 (by omega) (by omega)
 simp only[Int.natCast_zero]at h4
 clear h2 h3
 refine v_zz36 (by simp[i_zz36]) ?_
 rw[fbody_eq]
 simp (disch:=first|assumption|omega|(simp[*]<;>omega)|fail) [-getElem?_pos,gz_,gs_,i_zz36,vl,w1,e2,h4,hc0,fresults,fresL]
end
section
variable {nro:Nat}
def hpI (G:VH) (blk:Nat) (f:Nat→Int) (d:Array Nat):VH:=G.set blk ⟨1,ints (d.toList.map f)⟩
theorem se_ints {G:VH} {blk:Nat} (hb:blk<G.length) (hnb:nro≤blk) (f:Nat→Int) {N:Nat} (hN:N≤1000):
  SO nro (.slice (some ⟨blk,0,none⟩) N N) (fun x=> .pointer (some ⟨blk,x.toNat,some N⟩)) (fun j=> .int .i64 (f j)) (fun x y=>f x - f y) N (hpI G blk f):=by
 have hlen: ∀d,(hpI G blk f d).length=G.length:=fun d=>by simp[hpI]
 have hat: ∀d,(hpI G blk f d)[blk]? =some ⟨1,ints (d.toList.map f)⟩:=fun d=>by unfold hpI;rw[List.getElem?_set,if_pos rfl,if_pos hb]
 refine⟨fun d d' =>by rw[hlen,hlen],fun d=>by rw[hlen];omega,?_,?_,?_,?_,?_,?_,?_,hN⟩
 ·intro n hln
  rw[hlen]at hln
  intro r hr
  simp[trefs,vrefs,crefs,arefs]at hr
  omega
 ·intro d x hd h1 h2
  unfold vidx
  simp only[hat]
  simp[ints,hd,h1,h2]
 ·intro d x hd h1 h2
  have hx:x.toNat<d.toList.length:=by rw[Array.length_toList (xs:=d)];omega
  have hx' :x.toNat<d.size:=by omega
  unfold vload vget
  simp only[hat]
  rw[if_pos ⟨by simp[ints,hd],by simp[ints];omega⟩]
  have:(List.take 1 (List.drop x.toNat (ints (d.toList.map f))))= [.int .i64 (f (getI d x))]:=by
   rw[List.drop_eq_getElem_cons (by simp[ints];omega)]
   simp[ints,getI,hx']
  simp only[this]
  rfl
 ·intro d x v hd h1 h2
  have hx' :x.toNat<d.size:=by omega
  unfold vstore
  simp only[hat]
  rw[if_pos ⟨hnb,by simp[ints,hd],by simp[ints];omega,rfl,rfl⟩]
  congr 1
  unfold hpI setI
  rw[Array.toList_setIfInBounds,List.set_set]
  congr 2
  unfold splice
  simp only[vcells_int,List.length_singleton]
  rw[List.map_set,ints,ints,List.map_set,List.set_eq_take_append_cons_drop,if_pos (by simp;omega)]
  simp
 ·intro d x y
  rw[c_cmp_Less]
  congr 4
  simp only[eq_iff_iff]
  omega
 ·intro d d'
  refine⟨by rw[hlen,hlen],fun i p hp=> ?_⟩
  by_cases hi:i=blk
  ·subst hi
   rw[hat]at hp
   cases hp
   right
   exact flatO_ints _ 1 _
  ·left
   rw[←hp]
   unfold hpI
   rw[List.getElem?_set,if_neg (Ne.symm hi),List.getElem?_set,if_neg (Ne.symm hi)]
 ·intro d hd
  unfold vlen
  simp only[hat]
  simp[ints,hd]
theorem swo_sub (f:Nat→Int):SWO (ltC fun x y=>f x - f y):=by
 refine⟨fun x=> ?_,fun x y z h1 h2=> ?_,fun x y z h1 h2=> ?_⟩
 ·simp[ltC]
 ·simp only[ltC,decide_eq_true_eq]at h1 h2⊢;omega
 ·simp only[ltC,decide_eq_false_iff_not]at h1 h2⊢;omega
theorem perm_sorted_eq: ∀(xs ys:List Int),xs.Perm ys→xs.Pairwise (· ≤ ·)→ys.Pairwise (· ≤ ·)→xs=ys:=fun xs ys h h1 h2=>h.eq_of_pairwise (fun a b _ _ h3 h4=>by omega) h1 h2
theorem srtB_pw {xs:List Int}:SrtB 0 xs.length xs↔xs.Pairwise (· ≤ ·):=by
 rw[List.pairwise_iff_getElem]
 constructor
 ·intro h i j hi hj hij
  have:=h i j (by omega) hij hj
  rwa [getD_at xs hi,getD_at xs hj]at this
 ·intro h p q _ hpq hq
  rw[getD_at xs hq,getD_at xs (show p<xs.length by omega)]
  exact h p q _ _ hpq
theorem c_Sort {G:VH} {blk:Nat} {xs:List Int} (hb:G[blk]? =some ⟨1,ints xs⟩) (hnb:nro≤blk) (h255:xs.length≤255):
  vcall F nro k_zz36 [.slice (some ⟨blk,0,none⟩) xs.length xs.length] G=some (.tuple #[],G.set blk ⟨1,ints (insS 0 xs.length xs)⟩):=by
 have hlt:=(List.getElem?_eq_some_iff.mp hb).1
 obtain⟨f,hf⟩: ∃f:Nat→Int,f=fun i=>xs.getD i 0:=⟨_,rfl⟩
 have X:SXO nro _ _ _ _ xs.length (hpI G blk f):=⟨se_ints hlt hnb f (by omega),fun o=>by
  have:(fun d=>hpI G blk f d++ [o])=hpI (G++ [o]) blk f:=by
   funext d
   unfold hpI
   rw[List.set_append_left _ _ hlt]
  rw[this]
  exact se_ints (by simp;omega) hnb f (by omega)⟩
 obtain⟨d',s1,s2,s3,s4⟩:=c_ord_Sort X (swo_sub f) h255 (Array.range xs.length) (by simp)
 have hx:(List.range xs.length).map f=xs:=by
  rw[hf]
  apply List.ext_getElem (by simp)
  intro i p1 p2
  simp[List.getD_eq_getElem?_getD,p2]
 have h0:hpI G blk f (Array.range xs.length)=G:=by
  unfold hpI
  rw[Array.toList_range,hx]
  apply List.ext_getElem? fun i=> ?_
  rw[List.getElem?_set]
  by_cases e:blk=i
  ·subst e;rw[if_pos rfl,if_pos hlt,hb]
  ·rw[if_neg e]
 have hperm:d'.toList.Perm (List.range xs.length):=by
  have:=s2.2.2
  rw[Array.extract_eq_self_of_le (by omega),Array.extract_eq_self_of_le (by simp)]at this
  simpa using this
 have hp:=hperm.map f
 rw[hx]at hp
 have hs:(d'.toList.map f).Pairwise (· ≤ ·):=by
  rw[List.pairwise_map,List.pairwise_iff_getElem]
  intro i j hi hj hij
  have hs:=s3 i j (by omega) hij (by rw[←s1];simpa using hj)
  have hi' :i<d'.size:=by simpa using hi
  have hj' :j<d'.size:=by simpa using hj
  have gi:d'[i]! =d'.toList[i]:=by simp[hi']
  have gj:d'[j]! =d'.toList[j]:=by simp[hj']
  rw[gi,gj]at hs
  unfold ltC at hs
  simp at hs
  simp only[Array.getElem_toList]
  omega
 have e:d'.toList.map f=insS 0 xs.length xs:=by
  have q:=insS_perm (a:=0) (b:=xs.length) (xs:=xs) (Nat.le_refl _)
  have q2:=insS_sorted (a:=0) (b:=xs.length) (xs:=xs) (Nat.le_refl _)
  refine perm_sorted_eq _ _ (hp.trans q.symm) hs ?_
  rw[←q.length_eq]at q2
  rw[q.length_eq]at q2
  exact srtB_pw.mp (by rw[q.length_eq];exact q2)
 rw[h0]at s4
 unfold hpI at s4
 rw[e]at s4
 exact s4
end
end

/- The reference's steps of a refinement: counts, equal lists. -/
section
open Go
variable {nro:Nat}
noncomputable def cnts (rows cl:List Int) (n v:Nat):List Int:=(List.range n).map fun x:Nat=>cntC rows cl n v x
end

/- Equal lists, the first place of a number. -/
section
open Go
variable {nro:Nat}
theorem ne_iff_ex (xs ys:List Int) (hl:xs.length=ys.length):(∃j,0≤j∧j<xs.length∧xs.getD j 0≠ys.getD j 0)↔xs≠ys:=by
 constructor
 ·rintro⟨j,_,_,h⟩ e
  exact h (by rw[e])
 ·intro hne
  apply Classical.byContradiction
  intro hno
  apply hne
  apply List.ext_getElem hl
  intro k h1 h2
  apply Classical.byContradiction
  intro hk
  exact hno ⟨k,by omega,h1,by simpa [List.getD_eq_getElem?_getD,h1,h2]using hk⟩
open Classical in
theorem c_slices_Equal (s t:Value) (xs ys:List Int) (h:VH) (hs:Sli h s xs) (ht:Sli h t ys) (hx:xs.length≤1000):
  vcall F nro k_zz33 [s,t] h=some (.bool (decide (xs=ys)),h):=by
 refine v_zz33 (by simp[i_zz33]) ?_
 rw[fbody_eq]
 have hso:=hs.old
 have hto:=ht.old
 have vl:=hs.vlen
 have vl2:=ht.vlen
 by_cases hl:xs.length=ys.length
 ·have lp:=for_find (call:=vcall F nro) (nro:=nro) (live:= [0,1,12,13]) (c:=i_zz33_B1) (h0:=h) (n:=xs.length) (fun i=> [s,t,.int .i64 xs.length,.int .i64 i]) h (fun i=>xs.getD i 0≠ys.getD i 0) (some (.ret,fl [(4,.bool false)],h)) (some (.exit 0,fl [],h)) (fun i hi hi2=> ?_) ?_ 0 (by omega)
  ·simp only[Int.natCast_zero,ne_iff_ex xs ys hl]at lp
   have hl' :(xs.length:Int)=ys.length:=by omega
   by_cases e:xs=ys
   ·rw[if_neg (by simp[e])]at lp
    rw[decide_eq_true e]
    clear hs ht e hl
    rw[hl']at lp vl
    simp (disch:=first|assumption|omega|(simp[*]<;>omega)|fail) [i_zz33,vl,vl2,lp,fresults,fresL,fres1]
   ·rw[if_pos e]at lp
    rw[decide_eq_false e]
    clear hs ht hl
    rw[hl']at lp vl
    simp (disch:=first|assumption|omega|(simp[*]<;>omega)|fail) [i_zz33,vl,vl2,lp,fresults,fresL,fres1]
  ·have hi3:i<ys.length:=by omega
   have x1:=hs.vidx (k:= .i64) (j:=(i:Int)) (by omega) (by omega)
   have x2:=hs.vload hi
   have y1:=ht.vidx (k:= .i64) (j:=(i:Int)) (by omega) (by omega)
   have y2:=ht.vload hi3
   have g1:xs.getD i 0=xs[i]:=getD_at xs hi
   have g2:ys.getD i 0=ys[i]:=getD_at ys hi3
   rw[g1,g2]
   have w1:IntKind.i64.wrap ((i:Int)+1)=(i:Int)+1:=wrap64 (by omega) (by omega)
   obtain⟨a,ha⟩: ∃a,a=xs[i]:=⟨_,rfl⟩
   obtain⟨b,hb⟩: ∃b,b=ys[i]:=⟨_,rfl⟩
   rw[←ha]at x2⊢
   rw[←hb]at y2⊢
   rw[floop_at i_zz33_B1.eq_1]
   clear hs ht g1 g2 ha hb hl vl vl2
   constructor<;>intro hq<;>simp (disch:=first|assumption|omega|(simp[*]<;>omega)|fail) [x1,x2,y1,y2,w1,hi2,hq]
  ·rw[floop_at i_zz33_B1.eq_1]
   simp (disch:=first|assumption|omega|(simp[*]<;>omega)|fail) []
 ·have e:xs≠ys:=fun e=>hl (by rw[e])
  have hl' : ¬(xs.length:Int)=ys.length:=by omega
  rw[decide_eq_false e]
  clear hs ht hl
  simp (disch:=first|assumption|omega|(simp[*]<;>omega)|fail) [i_zz33,vl,vl2,hl',fresults,fresL,fres1]
def idxF (xs:List Int) (x:Int) (i:Nat):Int:=if i<xs.length then(if xs.getD i 0=x then(i:Int)else idxF xs x (i+1))else -1
 termination_by xs.length - i
theorem l_slices_Index (s:Value) (xs:List Int) (x:Int) (h:VH) (hs:Sli h s xs) (hx:xs.length≤1000) (k:Nat): ∀i,k=xs.length - i→i≤xs.length→
  (idxF xs x i<0→floop (vcall F nro) nro [0,1,7,8] i_zz34_B1 h [s,.int .i64 x,.int .i64 xs.length,.int .i64 i] h=some (.exit 0,fl [],h))∧
  (¬idxF xs x i<0→floop (vcall F nro) nro [0,1,7,8] i_zz34_B1 h [s,.int .i64 x,.int .i64 xs.length,.int .i64 i] h=some (.ret,fl [(4,.int .i64 (idxF xs x i))],h)):=by
 have hso:=hs.old
 induction k with
 | zero =>
  intro i hk hi
  have h1: ¬i<xs.length:=by omega
  have h2: ¬(i:Int)<xs.length:=by omega
  rw[idxF,if_neg h1,floop_at i_zz34_B1.eq_1]
  refine⟨fun _=> ?_,fun h=>absurd (by omega) h⟩
  simp (disch:=first|assumption|omega|(simp[*]<;>omega)|fail) [h2]
 | succ k ih =>
  intro i hk hi
  have h1:i<xs.length:=by omega
  have h2:(i:Int)<xs.length:=by omega
  have x1:=hs.vidx (k:= .i64) (j:=(i:Int)) (by omega) (by omega)
  have x2:=hs.vload h1
  have g1:xs.getD i 0=xs[i]:=getD_at xs h1
  have w1:IntKind.i64.wrap ((i:Int)+1)=(i:Int)+1:=wrap64 (by omega) (by omega)
  have ih:=ih (i+1) (by omega) (by omega)
  rw[idxF,if_pos h1,g1,floop_at i_zz34_B1.eq_1]
  obtain⟨a,ha⟩: ∃a,a=xs[i]:=⟨_,rfl⟩
  rw[←ha]at x2⊢
  obtain⟨r,hr⟩: ∃r,r=idxF xs x (i+1):=⟨_,rfl⟩
  rw[←hr]at ih⊢
  rw[show((i+1:Nat):Int)=(i:Int)+1 by omega]at ih
  clear hs g1 ha hr
  by_cases c1:a=x
  ·rw[if_pos c1]
   have c1' :x=a:=c1.symm
   refine⟨fun h=>absurd h (by omega),fun _=> ?_⟩
   simp (disch:=first|assumption|omega|(simp[*]<;>omega)|fail) [x1,x2,w1,h2,c1']
  ·rw[if_neg c1]
   have c1' : ¬x=a:=fun e=>c1 e.symm
   obtain⟨i1,i2⟩:=ih
   refine⟨fun h=> ?_,fun h=> ?_⟩
   ·have i1:=i1 h
    simp (disch:=first|assumption|omega|(simp[*]<;>omega)|fail) [x1,x2,w1,h2,c1',i1]
   ·have i2:=i2 h
    simp (disch:=first|assumption|omega|(simp[*]<;>omega)|fail) [x1,x2,w1,h2,c1',i2]
theorem c_slices_Index (s:Value) (xs:List Int) (x:Int) (h:VH) (hs:Sli h s xs) (hx:xs.length≤1000):
  vcall F nro k_zz34 [s,.int .i64 x] h=some (.int .i64 (idxF xs x 0),h):=by
 obtain⟨i1,i2⟩:=l_slices_Index (nro:=nro) s xs x h hs hx xs.length 0 (by omega) (by omega)
 refine v_zz34 (by simp[i_zz34]) ?_
 rw[fbody_eq]
 have vl:=hs.vlen
 have hneg:idxF xs x 0<0→idxF xs x 0= -1:=by
  have: ∀k i,k=xs.length - i→idxF xs x i<0→idxF xs x i= -1:=by
   intro k
   induction k with
   | zero => intro i hk h; rw [idxF, if_neg (by omega)]
   | succ k ih =>
    intro i hk h
    rw[idxF,if_pos (by omega)]at h⊢
    split
    ·rename_i c;rw[if_pos c]at h;omega
    ·rename_i c;rw[if_neg c]at h;exact ih (i+1) (by omega) h
  exact this _ 0 rfl
 simp only[Int.natCast_zero]at i1 i2
 by_cases c:idxF xs x 0<0
 ·have i1:=i1 c
  rw[hneg c]
  clear hs i2
  simp (disch:=first|assumption|omega|(simp[*]<;>omega)|fail) [i_zz34,vl,i1,fresults,fresL,fres1]
 ·have i2:=i2 c
  obtain⟨r,hr⟩: ∃r,r=idxF xs x 0:=⟨_,rfl⟩
  rw[←hr]at i2⊢
  clear hs i1
  simp (disch:=first|assumption|omega|(simp[*]<;>omega)|fail) [i_zz34,vl,i2,fresults,fresL,fres1]
end

/- Partitions; the law of IsPartition. -/
section
open Go
variable {nro:Nat}
def PartOK:List Int→Int→Prop
 | [], _ => True
 | x :: r, m => 0 ≤ x ∧ x ≤ m ∧ PartOK r (if x = m then m + 1 else m)
end

/- Lists of colours in the order in which they are met. -/
section
open Go
theorem idxF_neg (xs:List Int) (x:Int) (k:Nat): ∀i,k=xs.length - i→(idxF xs x i<0→ ∀j,i≤j→j<xs.length→xs.getD j 0≠x)∧(¬idxF xs x i<0→idxF xs x i<xs.length∧xs.getD (idxF xs x i).toNat 0=x):=by
 induction k with
 | zero =>
  intro i hk
  rw[idxF,if_neg (by omega)]
  exact⟨fun _ j h1 h2=>by omega,fun h=>absurd (by omega) h⟩
 | succ k ih =>
  intro i hk
  rw[idxF,if_pos (by omega)]
  by_cases c:xs.getD i 0=x
  ·rw[if_pos c]
   refine⟨fun h=>by omega,fun _=>⟨by omega,by rw[Int.toNat_natCast];exact c⟩⟩
  ·rw[if_neg c]
   obtain⟨h1,h2⟩:=ih (i+1) (by omega)
   refine⟨fun h j hj hj2=> ?_,h2⟩
   by_cases e:j=i
   ·subst e;exact c
   ·exact h1 h j (by omega) hj2
end

/- Digraphs and desks; the law of IsDesk. -/
section
open Go
variable {nro:Nat}
open Classical in
theorem l_slices_IndexFunc (s fv : Value) (kf : Nat) (caps : List Value) (xs : List Int) (p : Int → Prop) (h : VH) (hs : Sli h s xs) (hl : xs.length ≤ 9223372036854775806) (hfv : fv = .func (.func kf) #[] caps.toArray) (hfo : Old h.length fv) (hf : ∀ x ∈ xs, vcall F nro kf (.int .i64 x :: caps) h = some (.bool (decide (p x)), h)) (i : Int) (hi : 0 ≤ i) (hin : i ≤ xs.length) :
    ∃ e, floop (vcall F nro) nro [0, 1, 7, 8] i_zz22_B1 h [s, fv, .int .i64 xs.length, .int .i64 i] h =
      some (if∃j:Nat,(i≤j∧j<xs.length∧p (xs.getD j 0))then(.ret,fl [(4,.int .i64 e)],h)else(.exit 0,fl [],h))∧((∃j:Nat,(i≤j∧j<xs.length∧p (xs.getD j 0)))→0≤e∧e<xs.length∧p (xs.getD e.toNat 0)∧ ∀j:Nat,i≤j→(j:Int)<e→ ¬p (xs.getD j 0)):=by
  have hso:=hs.old
  rw[floop_at i_zz22_B1.eq_1]
  by_cases hlt:i<xs.length
  · have e1 : xs.getD i.toNat 0 = xs[i.toNat]'(by omega) := getD_at _ (by omega)
    have hfx:=hf (xs[i.toNat]'(by omega)) (List.getElem_mem _)
    by_cases hb:p (xs[i.toNat]'(by omega))
    · refine ⟨i, ?_, fun _ => ⟨hi, hlt, by rw [e1]; exact hb, fun j h1 h2 => by omega⟩⟩
      have hex: ∃j:Nat,(i≤j∧j<xs.length∧p (xs.getD j 0)):=⟨i.toNat,by omega,by omega,by rw[e1];exact hb⟩
      rw[if_pos hex]
      simp (disch:=first|assumption|omega|(simp[*]<;>omega)|fail) [hs.vlen,hs.vidx,hs.vload,wrap64,hlt,hfv,hfx,hb]
    · obtain ⟨e, ih1, ih2⟩ := l_slices_IndexFunc s fv kf caps xs p h hs hl hfv hfo hf (i + 1) (by omega) (by omega)
      have hiff:(∃j:Nat,(i+1≤j∧j<xs.length∧p (xs.getD j 0)))↔ ∃j:Nat,(i≤j∧j<xs.length∧p (xs.getD j 0)):=by
        constructor
        · rintro⟨j,h1,h2,h3⟩;exact⟨j,by omega,h2,h3⟩
        · rintro ⟨j, h1, h2, h3⟩
          refine⟨j,?_,h2,h3⟩
          have:(j:Int)≠i:=fun e=>by
            apply hb
            rw[←e1,show i.toNat=j by omega]
            exact h3
          omega
      refine⟨e,?_,fun hex=> ?_⟩
      · simp only [hiff] at ih1
        subst hfv
        simp (disch:=first|assumption|omega|(simp[*]<;>omega)|fail) [hs.vlen,hs.vidx,hs.vload,wrap64,hlt,hfx,hb,ih1]
      · obtain ⟨g1, g2, g3, g4⟩ := ih2 (hiff.mpr hex)
        refine⟨g1,g2,g3,fun j h1 h2=> ?_⟩
        by_cases e:(j:Int)=i
        · rw[show j=i.toNat by omega,e1];exact hb
        · exact g4 j (by omega) h2
  · refine ⟨0, ?_, fun hex => ?_⟩
    · rw [if_neg (by rintro ⟨j, h1, h2, _⟩; omega)]
      simp (disch:=first|assumption|omega|(simp[*]<;>omega)|fail) [hlt]
    · obtain ⟨j, h1, h2, _⟩ := hex
      omega
 termination_by (xs.length - i).toNat
open Classical in
theorem c_slices_IndexFunc (s fv:Value) (kf:Nat) (caps:List Value) (xs:List Int) (p:Int→Prop) (h:VH) (hs:Sli h s xs) (hl:xs.length≤9223372036854775806) (hfv:fv= .func (.func kf) #[] caps.toArray) (hfo:Old h.length fv) (hf: ∀x∈xs,vcall F nro kf (.int .i64 x::caps) h=some (.bool (decide (p x)),h)):
  ∃e:Int,vcall F nro k_zz22 [s,fv] h=some (.int .i64 e,h)∧((e= -1∧ ∀j:Nat,j<xs.length→ ¬p (xs.getD j 0))∨(0≤e∧e<xs.length∧p (xs.getD e.toNat 0)∧ ∀j:Nat,(j:Int)<e→ ¬p (xs.getD j 0))):=by
 obtain⟨e,h1,h2⟩:=l_slices_IndexFunc (nro:=nro) s fv kf caps xs p h hs hl hfv hfo hf 0 (by omega) (by omega)
 by_cases hex: ∃j:Nat,((0:Int)≤j∧j<xs.length∧p (xs.getD j 0))
 ·rw[if_pos hex]at h1
  obtain⟨g1,g2,g3,g4⟩:=h2 hex
  refine⟨e,?_,.inr ⟨g1,g2,g3,fun j hj=>g4 j (by omega) hj⟩⟩
  refine v_zz22 (by simp[i_zz22]) ?_
  rw[fbody_eq]
  simp (disch:=first|assumption|omega|(simp[*]<;>omega)|fail) [i_zz22,hs.vlen,h1]
 ·rw[if_neg hex]at h1
  refine⟨-1,?_,.inl ⟨rfl,fun j hj hp=>hex ⟨j,by omega,hj,hp⟩⟩⟩
  refine v_zz22 (by simp[i_zz22]) ?_
  rw[fbody_eq]
  simp (disch:=first|assumption|omega|(simp[*]<;>omega)|fail) [i_zz22,hs.vlen,h1]
end

/- Draws: the source of a code, picks, the numbers of a cage. -/
section
open Go
variable {nro:Nat}
theorem Sl.cells {h:VH} {cd:Value} {cs:List Value} (hs:Sl h cd cs):vcells cd= [cd]:=by
 rcases hs.inv with⟨rfl,_⟩|⟨rfl,_⟩|⟨a,n,t,o,rfl,_⟩<;>rfl
theorem Sl.junk {h:VH} {cd:Value} {cs:List Value} (hs:Sl h cd cs):isJunk cd=false:=by
 rcases hs.inv with⟨rfl,_⟩|⟨rfl,_⟩|⟨a,n,t,o,rfl,_⟩<;>rfl
end

/- The search for regular graphs: both searches are one. -/
section
open Go
variable {nro:Nat}
theorem GV.put2 {n:Nat} {r:List Int} (g:GV n r) {v w:Nat} (hv:v<n) (hw:w<n) (hne:v≠w):GV n (put2 r v w):=by
 have hlo:=g.lo
 have R:=g.rok
 have h:=R.isAdj.put2 (a:=(v:Int)) (b:=(w:Int)) (by omega) (by omega) (by omega) (by omega) R.le
 simp only[Int.toNat_natCast]at h
 have R2:=R.put2 hv hw
 refine⟨by omega,g.hi,by rw[h.1],fun x hx=> ?_,fun x y hx hy=> ?_⟩
 ·rw[h.1]at hx
  obtain⟨r1,r2⟩:=R2.row x hx
  refine⟨r1,?_,?_⟩
  ·have e:((2 ^ n:Nat):Int)=(2:Int) ^ ((n:Int).toNat):=by simp
   rw[←e];omega
  ·have:=(h.2 x hx).2.2 x
   cases hb:rbit (Zv.put2 r v w) x x
   ·rfl
   ·rcases this.mp hb with h1|⟨h1,h2⟩|⟨h1,h2⟩
    ·exact absurd rfl (g.ne h1)
    ·omega
    ·omega
 ·rw[h.1]at hx hy
  have a:=(h.2 x hx).2.2 y
  have b:=(h.2 y hy).2.2 x
  rw[Bool.eq_iff_iff,a,b]
  constructor
  ·rintro(h1|⟨h1,h2⟩|⟨h1,h2⟩)
   ·exact .inl (g.sym' h1)
   ·exact .inr (.inr ⟨h2,h1⟩)
   ·exact .inr (.inl ⟨h2,h1⟩)
  ·rintro(h1|⟨h1,h2⟩|⟨h1,h2⟩)
   ·exact .inl (g.sym' h1)
   ·exact .inr (.inr ⟨h2,h1⟩)
   ·exact .inr (.inl ⟨h2,h1⟩)
def lefto (r:List Int) (o:Option (List Int)):List Int:=o.getD r
@[simp] theorem lefto_some (r r' : List Int) : lefto r (some r') = r' := rfl
@[simp] theorem lefto_none (r : List Int) : lefto r none = r := rfl
end

/- A regular graph without short cycles has many vertices: the count. -/
section
open Go
open Classical
noncomputable def nL (rows:List Int) (S:Nat→Prop) (n i:Nat):Int:=sumF (fun x=>oneIf (Lvl rows S i x)) n
noncomputable def nR (rows:List Int) (S:Nat→Prop) (n i:Nat):Int:=sumF (fun x=>oneIf (Rch rows S i x)) n
theorem nR_le (rows:List Int) (S:Nat→Prop) (n i:Nat):nR rows S n i≤n:=by
 have h: ∀m:Nat,sumF (fun _=>1) m=m:=by
  intro m
  induction m with
  | zero => rfl
  | succ m ih => rw [sumF, ih]; omega
 rw[←h n]
 exact sumF_le fun x _=>one_le _
theorem nR_zero (rows:List Int) (S:Nat→Prop) (n:Nat):nR rows S n 0=nL rows S n 0:=rfl
theorem nR_succ (rows:List Int) (S:Nat→Prop) (n i:Nat):nR rows S n (i+1)=nR rows S n i+nL rows S n (i+1):=by
 unfold nR nL
 rw[←sumF_add]
 apply sumF_congr
 intro x _
 by_cases h:Rch rows S i x
 ·rw[one_pos h,one_neg (fun e:Lvl rows S (i+1) x=>e.2 h),one_pos (show Rch rows S (i+1) x from .inl h)];omega
 ·rw[one_neg h]
  by_cases h2:Rch rows S (i+1) x
  ·rw[one_pos h2,one_pos (show Lvl rows S (i+1) x from⟨h2,h⟩)];omega
  ·rw[one_neg h2,one_neg (fun e:Lvl rows S (i+1) x=>h2 e.1)];omega
section
variable {n:Nat} {rows:List Int} (g:GV n rows)
include g
theorem nL_step {S:Nat→Prop} {e c:Nat} (hc:NoSh rows c) (hS:St rows S e) {i:Nat} (h1:2 * (i+1)+e<c) {k:Int} (hk: ∀x,x<n→Lvl rows S i x→k≤sumF (fun y=>oneIf (rbit rows x y=true∧Lvl rows S (i+1) y)) n):
  k * nL rows S n i≤nL rows S n (i+1):=by
 unfold nL
 rw[←sumF_mul]
 have a1:sumF (fun x=>k * oneIf (Lvl rows S i x)) n≤sumF (fun x=>sumF (fun y=>oneIf (Lvl rows S i x∧rbit rows x y=true∧Lvl rows S (i+1) y)) n) n:=by
  apply sumF_le
  intro x hx
  by_cases h:Lvl rows S i x
  ·rw[one_pos h]
   have h2:=hk x hx h
   have h3:sumF (fun y=>oneIf (Lvl rows S i x∧rbit rows x y=true∧Lvl rows S (i+1) y)) n=sumF (fun y=>oneIf (rbit rows x y=true∧Lvl rows S (i+1) y)) n:=sumF_congr fun y _=>by simp only[h,true_and]
   rw[h3];omega
  ·rw[one_neg h]
   have:=sumF_nonneg (f:=fun y=>oneIf (Lvl rows S i x∧rbit rows x y=true∧Lvl rows S (i+1) y)) (n:=n) fun y _=>one_nonneg _
   omega
 refine Int.le_trans a1 ?_
 rw[sumF_swap]
 apply sumF_le
 intro y _
 by_cases h:Lvl rows S (i+1) y
 ·rw[one_pos h]
  apply sumF_most
  intro x x' _ _ hx hx'
  rcases Classical.em (x=x')with h2|h2
  ·exact h2
  ·exact(no_two g hc hS h1 h.2 hx.1.rch hx'.1.rch h2 (g.sym' hx.2.1) (g.sym' hx'.2.1)).elim
 ·rw[one_neg h]
  have:sumF (fun x=>oneIf (Lvl rows S i x∧rbit rows x y=true∧Lvl rows S (i+1) y)) n=sumF (fun _=>0) n:=sumF_congr fun x _=>one_neg fun e=>h e.2.2
  rw[this,sumF_zero];omega
theorem nL_many {S:Nat→Prop} {e c:Nat} (hc:NoSh rows c) (hS:St rows S e) {j:Nat} (h1:2 * (j+1)+1+e<c) {k:Int} (hk: ∀v,v<n→(deg rows v:Int)=k):
  ∀x,x<n→Lvl rows S (j+1) x→k - 1≤sumF (fun y=>oneIf (rbit rows x y=true∧Lvl rows S (j+1+1) y)) n:=by
 intro x hx hl
 have d:=hk x hx
 rw[deg_sum g.rok hx]at d
 have a1:sumF (fun y=>oneIf (rbit rows x y=true)) n≤sumF (fun y=>oneIf (rbit rows x y=true∧Rch rows S j y)+oneIf (rbit rows x y=true∧Lvl rows S (j+1+1) y)) n:=by
  apply sumF_le
  intro y _
  have b1:=one_nonneg (rbit rows x y=true∧Rch rows S j y)
  have b2:=one_nonneg (rbit rows x y=true∧Lvl rows S (j+1+1) y)
  by_cases h:rbit rows x y=true
  ·rw[one_pos h]
   by_cases h2:Rch rows S j y
   ·rw[one_pos ⟨h,h2⟩];omega
   ·by_cases h3:Rch rows S (j+1) y
    ·exact(no_side g hc hS h1 hl ⟨h3,h2⟩ h).elim
    ·rw[one_pos (show rbit rows x y=true∧Lvl rows S (j+1+1) y from⟨h,.inr ⟨x,hl.rch,h⟩,h3⟩)];omega
  ·rw[one_neg h];omega
 rw[sumF_add]at a1
 have a2:sumF (fun y=>oneIf (rbit rows x y=true∧Rch rows S j y)) n≤1:=by
  apply sumF_most
  intro y y' _ _ hy hy'
  rcases Classical.em (y=y')with h2|h2
  ·exact h2
  ·exact(no_two g hc hS (by omega) hl.2 hy.2 hy'.2 h2 hy.1 hy'.1).elim
 omega
theorem moore_odd {c:Nat} (hc:NoSh rows c) {k:Int} (hk: ∀v,v<n→(deg rows v:Int)=k) (hk1:1≤k) (D:Nat) (hD:2 * D<c):1+k * pS (k - 1) D≤n:=by
 have hn0:0<n:=by have:=g.lo;omega
 have hS:St rows (fun x=>x=0) 0:=⟨fun s s' p q h1 h2 _ _=>⟨0,Nat.le_refl _,by rw[h1,h2];rfl⟩⟩
 have z:nL rows (fun x=>x=0) n 0=1:=by
  have:nL rows (fun x=>x=0) n 0=oneIf ((0:Nat)=0):=sumF_one (f:=fun x=>oneIf (Lvl rows (fun x=>x=0) 0 x)) hn0 fun i _ hne=>one_neg hne
  rw[this,one_pos rfl]
 have up: ∀i,i+1≤D→k * pw (k - 1) i≤nL rows (fun x=>x=0) n (i+1):=by
  intro i
  induction i with
  | zero =>
   intro h
   have:=nL_step g hc hS (i:=0) (k:=k) (by omega) fun x hx hl=>by
    have hl:x=0:=hl
    subst hl
    have d:=hk 0 hx
    rw[deg_sum g.rok hx]at d
    rw[←d]
    refine sumF_le fun y _=>one_imp fun e=>⟨e,.inr ⟨0,rfl,e⟩,fun e2=> ?_⟩
    exact g.ne e (Eq.symm e2)
   rw[z]at this
   rw[pw];exact this
  | succ i ih =>
   intro h
   have h1:=ih (by omega)
   have:=nL_step g hc hS (i:=i+1) (k:=k - 1) (by omega) (nL_many g hc hS (by omega) hk)
   refine Int.le_trans ?_ this
   have h2:=Int.mul_le_mul_of_nonneg_left h1 (show 0≤k - 1 by omega)
   refine Int.le_trans ?_ h2
   have h3:pw (k - 1) (i+1)≤pw (k - 1) i * (k - 1):=by rw[pw];omega
   have h4:=Int.mul_le_mul_of_nonneg_left h3 (show 0≤k by omega)
   have e:(k - 1) * (k * pw (k - 1) i)=k * (pw (k - 1) i * (k - 1)):=by rw[Int.mul_left_comm,Int.mul_comm (k - 1)]
   rw[e];exact h4
 have tot: ∀i,i≤D→1+k * pS (k - 1) i≤nR rows (fun x=>x=0) n i:=by
  intro i
  induction i with
  | zero => intro _; rw [nR_zero, z, pS]; omega
  | succ i ih =>
   intro h
   have h1:=ih (by omega)
   have h2:=up i h
   rw[nR_succ]
   have h3:pS (k - 1) (i+1)≤pS (k - 1) i+pw (k - 1) i:=by rw[pS];omega
   have h4:=Int.mul_le_mul_of_nonneg_left h3 (show 0≤k by omega)
   rw[Int.mul_add]at h4
   omega
 exact Int.le_trans (tot D (Nat.le_refl _)) (nR_le ..)
theorem moore_even {c:Nat} (hc:NoSh rows c) {k:Int} (hk: ∀v,v<n→(deg rows v:Int)=k) (hk1:1≤k) (D:Nat) (hD:2 * D+1<c):2 * pS (k - 1) (D+1)≤n:=by
 have hn0:0<n:=by have:=g.lo;omega
 obtain⟨b,hb,hab⟩: ∃b,b<n∧rbit rows 0 b=true:=by
  apply Classical.byContradiction
  intro h
  have d:=hk 0 hn0
  rw[deg_sum g.rok hn0]at d
  have:sumF (fun w=>oneIf (rbit rows 0 w=true)) n=sumF (fun _=>0) n:=sumF_congr fun w hw=>one_neg fun e=>h ⟨w,hw,e⟩
  rw[this,sumF_zero]at d
  omega
 have hne:(0:Nat)≠b:=g.ne hab
 obtain⟨S,hSd⟩: ∃S:Nat→Prop,S=fun x=>x=0∨x=b:=⟨_,rfl⟩
 have hS:St rows S 1:=by
  rw[hSd]
  refine⟨fun s s' p q h1 h2 hpq hn=> ?_⟩
  have hs: ∀u v,rbit rows u v=true→(u=0∨u=b)→(v=0∨v=b)→Wk (cut2 rows p q) 1 u v:=by
   intro u v huv hu hv
   refine⟨u,rfl,?_⟩
   rw[cut_iff g hpq]
   refine⟨huv,?_⟩
   rintro(⟨rfl,rfl⟩|⟨rfl,rfl⟩)
   ·exact hn ⟨hu,hv⟩
   ·exact hn ⟨hv,hu⟩
  by_cases e:s=s'
  ·exact⟨0,by omega,e⟩
  ·refine⟨1,Nat.le_refl _,hs s s' ?_ h1 h2⟩
   rcases h1 with rfl|rfl<;>rcases h2 with rfl|rfl
   ·exact absurd rfl e
   ·exact hab
   ·exact g.sym' hab
   ·exact absurd rfl e
 have z:nL rows S n 0=2:=by
  have e:nL rows S n 0=sumF (fun x=>oneIf (x=0)+oneIf (x=b)) n:=sumF_congr fun x _=>by
   subst hSd
   by_cases h1:x=0
   ·have h2: ¬x=b:=fun h=>hne (h1 ▸ h)
    rw[one_pos h1,one_neg h2,one_pos (show Lvl rows (fun x=>x=0∨x=b) 0 x from .inl h1)];omega
   ·by_cases h2:x=b
    ·rw[one_neg h1,one_pos h2,one_pos (show Lvl rows (fun x=>x=0∨x=b) 0 x from .inr h2)];omega
    ·rw[one_neg h1,one_neg h2,one_neg (fun h:Lvl rows (fun x=>x=0∨x=b) 0 x=>h.elim h1 h2)];omega
  rw[e,sumF_add,sumF_one (f:=fun x=>oneIf (x=0)) hn0 fun i _ hne=>one_neg hne,sumF_one (f:=fun x=>oneIf (x=b)) hb fun i _ hne=>one_neg hne,one_pos rfl,one_pos rfl]
  rfl
 have up : ∀ i, i ≤ D → 2 * pw (k - 1) i ≤ nL rows S n i := by
  intro i
  induction i with
  | zero => intro _; rw [z, pw]; omega
  | succ i ih =>
   intro h
   have h1:=ih (by omega)
   have key:(k - 1) * nL rows S n i≤nL rows S n (i+1):=by
    cases i with
    | zero =>
     refine nL_step g hc hS (i:=0) (by omega) fun x hx hl=> ?_
     have d:=hk x hx
     rw[deg_sum g.rok hx]at d
     obtain⟨o,ho⟩: ∃o,o=if x=0 then b else 0:=⟨_,rfl⟩
     have hSo: ∀y,S y→rbit rows x y=true→y=o:=by
      intro y hy hxy
      subst hSd
      have hl:x=0∨x=b:=hl
      have hy:y=0∨y=b:=hy
      have hxn:=g.ne hxy
      rw[ho]
      rcases hl with rfl|rfl
      ·rw[if_pos rfl]
       rcases hy with rfl|rfl
       ·exact absurd rfl hxn
       ·rfl
      ·rw[if_neg (fun e=>hne e.symm)]
       rcases hy with rfl|rfl
       ·rfl
       ·exact absurd rfl hxn
     have a1:sumF (fun y=>oneIf (rbit rows x y=true)) n≤sumF (fun y=>oneIf (y=o)+oneIf (rbit rows x y=true∧Lvl rows S (0+1) y)) n:=by
      apply sumF_le
      intro y _
      have b1:=one_nonneg (y=o)
      have b2:=one_nonneg (rbit rows x y=true∧Lvl rows S (0+1) y)
      by_cases h:rbit rows x y=true
      ·rw[one_pos h]
       by_cases h2:S y
       ·rw[one_pos (hSo y h2 h)];omega
       ·rw[one_pos (show rbit rows x y=true∧Lvl rows S (0+1) y from⟨h,.inr ⟨x,hl,h⟩,h2⟩)];omega
      ·rw[one_neg h];omega
     rw[sumF_add]at a1
     have a2:sumF (fun y=>oneIf (y=o)) n≤1:=sumF_most fun i j _ _ h1 h2=>h1.trans h2.symm
     omega
    | succ i => exact nL_step g hc hS (i := i + 1) (by omega) (nL_many g hc hS (by omega) hk)
   refine Int.le_trans ?_ key
   have h2:=Int.mul_le_mul_of_nonneg_left h1 (show 0≤k - 1 by omega)
   refine Int.le_trans ?_ h2
   have h3:pw (k - 1) (i+1)≤pw (k - 1) i * (k - 1):=by rw[pw];omega
   have e:(k - 1) * (2 * pw (k - 1) i)=2 * (pw (k - 1) i * (k - 1)):=by rw[Int.mul_left_comm,Int.mul_comm (k - 1)]
   rw[e];omega
 have tot: ∀i,i≤D→2 * pS (k - 1) (i+1)≤nR rows S n i:=by
  intro i
  induction i with
  | zero => intro _; rw [nR_zero, z, pS, pS, pw]; omega
  | succ i ih =>
   intro h
   have h1:=ih (by omega)
   have h2:=up (i+1) h
   rw[nR_succ]
   have h3:pS (k - 1) (i+1+1)≤pS (k - 1) (i+1)+pw (k - 1) (i+1):=by rw[pS];omega
   omega
 exact Int.le_trans (tot D (Nat.le_refl _)) (nR_le ..)
theorem moore {c:Nat} (hc:NoSh rows c) {k:Int} (hk: ∀v,v<n→(deg rows v:Int)=k) (hk1:1≤k) (h2:2≤c):gB k c≤n:=by
 unfold gB
 split
 ·exact moore_odd g hc hk hk1 _ (by omega)
 ·have:=moore_even g hc hk hk1 (c / 2 - 1) (by omega)
  rwa [show c / 2 - 1+1=c / 2 by omega]at this
theorem noSh {c:Int} (h: ∀p q,rbit rows p q=true→arF rows p q≤0∨c≤arF rows p q):NoSh rows c.toNat:=by
 intro p q hpq m hw
 obtain⟨hp,hq⟩:=rbit_lt g.rok hpq
 have hR:=(cut_rok g hp hq hpq).1
 obtain⟨d,hd,hdst⟩:=Wk.dst m hw
 have:=far_of hR hp hdst
 have h2:=h p q hpq
 unfold arF at h2
 omega
end
end

/- What the search finds is regular and has no short cycle. -/
section
open Go
section
variable {n:Nat} {r:List Int} (g:GV n r)
include g
theorem put_iff {v w:Nat} (hv:v<n) (hw:w<n) (x y:Nat):rbit (put2 r v w) x y=true↔rbit r x y=true∨(x=v∧y=w)∨(x=w∧y=v):=by
 have R:=g.rok
 have h:=R.isAdj.put2 (a:=(v:Int)) (b:=(w:Int)) (by omega) (by omega) (by omega) (by omega) R.le
 simp only[Int.toNat_natCast]at h
 by_cases hx:x<n
 ·rw[(h.2 x hx).2.2 y]
 ·constructor
  ·intro e;exact absurd (rbit_lt (R.put2 hv hw) e).1 hx
  ·rintro(e|⟨rfl,_⟩|⟨rfl,_⟩)
   ·exact absurd (rbit_lt R e).1 hx
   ·exact absurd hv hx
   ·exact absurd hw hx
omit g in
theorem Wk.mono {rows rows' :List Int} (h: ∀x y,rbit rows x y=true→rbit rows' x y=true): ∀ {k a b:Nat},Wk rows k a b→Wk rows' k a b
 | 0, _, _, e => e
 | _ + 1, _, _, ⟨c, h1, h2⟩ => ⟨c, Wk.mono h h1, h _ _ h2⟩
end
end

/- The first cage graph: the program's and the reference's answers. -/
section
open Go
variable {nro:Nat}
theorem GV.zero {n:Nat} (h1:1≤n) (h2:n≤62):GV n (List.replicate n 0):=by
 have hr: ∀v w,rbit (List.replicate n 0) v w=false:=fun v w=>by
  unfold rbit
  rw[List.getD_eq_getElem?_getD,List.getElem?_replicate]
  split<;>simp
 refine⟨by omega,by omega,by simp,fun v hv=>⟨?_,?_,hr v v⟩,fun v w _ _=>by rw[hr,hr]⟩
 ·rw[List.getD_eq_getElem?_getD,List.getElem?_replicate];split<;>simp
 ·rw[List.getD_eq_getElem?_getD,List.getElem?_replicate]
  have:(0:Int)<2 ^ n:=Int.pow_pos (by omega)
  split<;>simpa using this
def prS (n:Nat) (k c:Int):Prop:=(n * k) % 2≠0∨n≤k∨(1<k∧n<c)
def prI (n:Nat) (k c:Int):Prop:=(n * k) % 2≠0∨n≤k∨(2≤k∧n<gB k c.toNat)
instance (n:Nat) (k c:Int):Decidable (prS n k c):=by unfold prS;infer_instance
instance (n:Nat) (k c:Int):Decidable (prI n k c):=by unfold prI;infer_instance
end

/- Draws of graphs: graphs of so many vertices. -/
section
open Go
variable {nro:Nat}
theorem cleanup_one_upd {h h' L:VH} {v:Value} {k:Nat} {o:VO} (hu:Upd h h') (hv:trefs v= [h.length+k]) (hk:L[k]? =some o) (hf:flatO h.length o):
  kclean h [v] (h' ++L)=([tren (renOf h.length [h.length+k]) v],h' ++ [o]):=by
 have e:keepL h.length [v]= [h.length+k]:=by
  unfold keepL
  simp[hv,dedup]
 have hl:h'.length=h.length:=hu.1
 have hg:(h' ++L)[h.length+k]? =some o:=by rw[←hl,hgetk];exact hk
 have htake:(h' ++L).take h.length=h' :=by rw[←hl];simp
 have hc:okT h.length h ((h' ++L).take h.length)∧flatL h.length [h.length+k] (h' ++L):=by
  refine⟨by rw[htake];exact hu.2,fun i hi=>⟨o,?_,hf⟩⟩
  simp only[List.mem_singleton]at hi
  rw[hi];exact hg
 unfold kclean cleanup
 rw[e,if_pos hc,htake]
 simp[hg]
end

/- Coloured graphs: last places, whether two graphs are alike. -/
section
open Go
open Classical
theorem RG.app {nro K n a bg bc:Nat} {q:Nat→Nat} {rs:Nat→Value} {rows:Nat→List Int} {gcs:List Value} {Hc:(Nat→List Int)→VH} (E:RG nro K n a bg bc q rs rows gcs Hc) (L:VH):RG nro K n a bg bc q rs rows gcs (fun c=>Hc c++L) where
 nr c:=Nat.le_trans (E.nr c) (by simp)
 nq:=E.nq
 len c c' :=by simp[E.len c c']
 upd c c' :=(E.upd c c').appR L
 ax c:=E.lt c (E.ax c) L
 ag c:=E.lt c (E.ag c) L
 gl:=E.gl
 ga:=E.ga
 ac c:=E.lt c (E.ac c) L
 aq c i hi:=E.lt c (E.aq c i hi) L
 st c i l hi:=E.setA c L i l hi
 rr c i hi:=(E.rr c i hi).app L
 rok:=E.rok
 n1:=E.n1
 K1:=E.K1
 K2:=E.K2
def lastX (xs:List Int) (x:Int):Nat→Int
 | 0 => -1
 | k + 1 => if xs.getD k 0 = x then (k : Int) else lastX xs x k
theorem lastX_spec (xs:List Int) (x:Int): ∀k,(lastX xs x k= -1∧ ∀j,j<k→xs.getD j 0≠x)∨(∃e:Nat,lastX xs x k=e∧e<k∧xs.getD e 0=x∧ ∀j,e<j→j<k→xs.getD j 0≠x)
 | 0 => .inl ⟨rfl, fun j hj => by omega⟩
 | k + 1 => by
  unfold lastX
  by_cases h:xs.getD k 0=x
  ·rw[if_pos h]
   exact .inr ⟨k,rfl,by omega,h,fun j h1 h2=>by omega⟩
  ·rw[if_neg h]
   rcases lastX_spec xs x k with⟨h1,h2⟩|⟨e,h1,h2,h3,h4⟩
   ·refine .inl ⟨h1,fun j hj=> ?_⟩
    by_cases hjk:j=k
    ·subst hjk;exact h
    ·exact h2 j (by omega)
   ·refine .inr ⟨e,h1,by omega,h3,fun j h5 h6=> ?_⟩
    by_cases hjk:j=k
    ·subst hjk;exact h
    ·exact h4 j h5 (by omega)
variable {nro:Nat}
theorem l_zz76 (s:Value) (xs:List Int) (x:Int) (h:VH) (hs:Sli h s xs) (hx:xs.length≤1000): ∀k,k≤xs.length→
  floop (vcall F nro) nro [0,1,5] i_zz76_B1 h [s,.int .i64 x,.int .i64 ((k:Int) - 1)] h=if lastX xs x k= -1 then some (.exit 0,fl [],h)else some (.ret,fl [(4,.int .i64 (lastX xs x k))],h)
 | 0, _ => by
  rw[floop_at i_zz76_B1.eq_1]
  have e:((0:Nat):Int) - 1= -1:=rfl
  rw[e]
  unfold lastX
  simp (disch:=first|assumption|omega|(simp[*]<;>omega)|fail) [-getElem?_pos,gz_,gs_,]
 | k + 1, hk => by
  have ih:=l_zz76 s xs x h hs hx k (by omega)
  have so:=hs.old
  have e:((k+1:Nat):Int) - 1=(k:Int):=by omega
  have vx:=hs.vidx (k:= .i64) (j:=(k:Int)) (by omega) (by omega)
  have vl:=hs.vload (j:=k) (by omega)
  have g0:=getD_at xs (show k<xs.length by omega)
  have w1:IntKind.i64.wrap ((k:Int) - 1)=(k:Int) - 1:=wrap64 (by omega) (by omega)
  simp only[Int.toNat_natCast]at vx
  rw[floop_at i_zz76_B1.eq_1,e]
  unfold lastX
  rw[g0]
  have hk0: ¬(k:Int)= -1:=by omega
  by_cases c:xs[k]=x
  ·rw[if_pos c,if_neg hk0]
   rw[c]at vl
   clear hs ih
   simp (disch:=first|assumption|omega|(simp[*]<;>omega)|fail) [-getElem?_pos,gz_,gs_,vx,vl,so]
  ·rw[if_neg c]
   rw[←ih]
   clear hs ih
   simp (disch:=first|assumption|omega|(simp[*]<;>omega)|fail) [-getElem?_pos,gz_,gs_,vx,vl,so,c,w1]
theorem c_zz76 (s:Value) (xs:List Int) (x:Int) (h:VH) (hs:Sli h s xs) (hx:xs.length≤1000):
  vcall F nro k_zz76 [s,.int .i64 x] h=some (.int .i64 (lastX xs x xs.length),h):=by
 have l:=l_zz76 (nro:=nro) s xs x h hs hx xs.length (Nat.le_refl _)
 have vl:=hs.vlen
 have so:=hs.old
 have w1:IntKind.i64.wrap ((xs.length:Int) - 1)=(xs.length:Int) - 1:=wrap64 (by omega) (by omega)
 refine v_zz76 (by simp[i_zz76]) ?_
 rw[fbody_eq]
 by_cases c:lastX xs x xs.length= -1
 ·rw[if_pos c]at l
  rw[c]
  clear hs
  simp (disch:=first|assumption|omega|(simp[*]<;>omega)|fail) [-getElem?_pos,gz_,gs_,i_zz76,vl,w1,l,so,fresults,fresL,fres1]
 ·rw[if_neg c]at l
  clear hs
  simp (disch:=first|assumption|omega|(simp[*]<;>omega)|fail) [-getElem?_pos,gz_,gs_,i_zz76,vl,w1,l,so,fresults,fresL,fres1]
theorem idxF_first (xs:List Int) (x:Int): ∀k i,k=xs.length - i→ ∀j,i≤j→(j:Int)<idxF xs x i→xs.getD j 0≠x:=by
 intro k
 induction k with
 | zero =>
  intro i hi j h1 h2
  rw[idxF,if_neg (by omega)]at h2
  omega
 | succ k ih =>
  intro i hi j h1 h2
  rw[idxF,if_pos (by omega)]at h2
  by_cases c:xs.getD i 0=x
  ·rw[if_pos c]at h2;omega
  ·rw[if_neg c]at h2
   by_cases e:j=i
   ·subst e;exact c
   ·exact ih (i+1) (by omega) j (by omega) h2
theorem twice_iff {xs:List Int} {x:Int}:idxF xs x 0≠lastX xs x xs.length↔ ∃u v,u<xs.length∧v<xs.length∧u≠v∧xs.getD u 0=x∧xs.getD v 0=x:=by
 obtain⟨i1,i2⟩:=idxF_neg xs x xs.length 0 (by omega)
 rcases lastX_spec xs x xs.length with⟨h1,h2⟩|⟨e,h1,h2,h3,h4⟩
 ·have hi:idxF xs x 0<0:=by
   apply Classical.byContradiction
   intro hn
   obtain⟨a1,a2⟩:=i2 hn
   exact h2 (idxF xs x 0).toNat (by omega) (by simpa using a2)
  have hi2:idxF xs x 0= -1:=by
   have: ∀k i,k=xs.length - i→idxF xs x i<0→idxF xs x i= -1:=by
    intro k
    induction k with
    | zero => intro i hi _; unfold idxF; rw [if_neg (by omega)]
    | succ k ih =>
     intro i hi hlt
     unfold idxF at hlt⊢
     rw[if_pos (by omega)]at hlt⊢
     split
     ·rename_i c;rw[if_pos c]at hlt;omega
     ·rename_i c;rw[if_neg c]at hlt;exact ih (i+1) (by omega) hlt
   exact this xs.length 0 (by omega) hi
  rw[h1,hi2]
  constructor
  ·intro h;exact absurd rfl h
  ·rintro⟨u,v,hu,_,_,e1,_⟩
   exact absurd e1 (h2 u hu)
 ·have hi: ¬idxF xs x 0<0:=fun hn=>i1 hn e (by omega) h2 h3
  obtain⟨a1,a2⟩:=i2 hi
  have a3:=idxF_first xs x xs.length 0 (by omega)
  obtain⟨f,hf⟩: ∃f:Nat,idxF xs x 0=f:=⟨_,(Int.toNat_of_nonneg (by omega)).symm⟩
  rw[hf]at a1 a2 a3⊢
  rw[h1]
  rw[Int.toNat_natCast]at a2
  constructor
  ·intro h
   exact⟨f,e,by omega,h2,by omega,a2,h3⟩
  ·rintro⟨u,v,hu,hv,huv,e1,e2⟩ hfe
   have hfe:f=e:=by omega
   subst hfe
   have b1: ∀w,w<xs.length→xs.getD w 0=x→w=f:=fun w hw hx=>by
    rcases Nat.lt_trichotomy w f with c|c|c
    ·exact absurd hx (a3 w (Nat.zero_le _) (by omega))
    ·exact c
    ·exact absurd hx (h4 w c hw)
   exact huv ((b1 u hu e1).trans (b1 v hv e2).symm)
section
variable {n a bg bc:Nat} {q:Nat→Nat} {rs:Nat→Value} {rows:Nat→List Int} {gcs:List Value} {Hc:(Nat→List Int)→VH} (E:RG nro 2 n a bg bc q rs rows gcs Hc)
include E
theorem c_zz47 (c:Nat→List Int) (C:CL 2 n c) (h62:n≤62):vcall F nro k_zz47 [.pointer (some ⟨a,0,some 2⟩)] (Hc c)=some (.bool (decide ((c 0).Perm (c 1))),Hc c):=by
 have hn1:=E.n1
 have l0:=C.len 0 (by omega)
 have l1:=C.len 1 (by omega)
 have q1:=E.ax c
 have q2:=E.ac c
 have lax:=E.lax c
 have lbc:=E.lbc c
 have z0:=E.ccell 0 (by omega)
 have z1:=E.ccell 1 (by omega)
 have hnr:=E.nr c
 have s0:Sli (Hc c) (.slice (some ⟨q 0,0,none⟩) n n) (c 0):=by
  have:=sli_at (E.aq c 0 (by omega));rwa [l0]at this
 have s1:Sli (Hc c) (.slice (some ⟨q 1,0,none⟩) n n) (c 1):=by
  have:=sli_at (E.aq c 1 (by omega));rwa [l1]at this
 have k0:=c_slices_Clone (nro:=nro) _ (c 0) (Hc c) s0 (C.ne hn1 0 (by omega)) (by omega) hnr
 have k1:=c_slices_Clone (nro:=nro) _ (c 1) (Hc c++ [⟨1,ints (c 0)⟩]) (s1.app _) (C.ne hn1 1 (by omega)) (by omega) (by simp;omega)
 have k2:=c_Sort (nro:=nro) (G:=Hc c++ [⟨1,ints (c 0)⟩,⟨1,ints (c 1)⟩]) (blk:=(Hc c).length) (xs:=c 0) (by simp) hnr (by omega)
 have k3:=c_Sort (nro:=nro) (G:=Hc c++ [⟨1,ints (insS 0 n (c 0))⟩,⟨1,ints (c 1)⟩]) (blk:=(Hc c).length+1) (xs:=c 1) (by simp) (by omega) (by omega)
 have t0:=sli_at (h:=Hc c++ [⟨1,ints (insS 0 n (c 0))⟩,⟨1,ints (insS 0 n (c 1))⟩]) (b:=(Hc c).length) (xs:=insS 0 n (c 0)) (by simp)
 have t1:=sli_at (h:=Hc c++ [⟨1,ints (insS 0 n (c 0))⟩,⟨1,ints (insS 0 n (c 1))⟩]) (b:=(Hc c).length+1) (xs:=insS 0 n (c 1)) (by simp)
 have k4:=c_slices_Equal (nro:=nro) _ _ _ _ _ t0 t1 (by rw[insS_length];omega)
 have hd:decide (insS 0 n (c 0)=insS 0 n (c 1))=decide ((c 0).Perm (c 1)):=by
  have p0:=insS_perm (a:=0) (b:=n) (xs:=c 0) (by omega)
  have p1:=insS_perm (a:=0) (b:=n) (xs:=c 1) (by omega)
  refine decide_eq_decide.mpr ⟨fun h=>p0.symm.trans (h ▸ p1),fun h=> ?_⟩
  have o0:=insS_sorted (a:=0) (b:=n) (xs:=c 0) (by omega)
  have o1:=insS_sorted (a:=0) (b:=n) (xs:=c 1) (by omega)
  refine perm_sorted_eq _ _ (p0.trans (h.trans p1.symm)) (srtB_pw.mp ?_) (srtB_pw.mp ?_)
  ·rw[insS_length,l0];exact o0
  ·rw[insS_length,l1];exact o1
 rw[hd]at k4
 rw[insS_length,insS_length]at k4
 rw[l0]at k0 k2 k4
 rw[l1]at k1 k3 k4
 generalize insS 0 n (c 0)=u0 at *
 generalize insS 0 n (c 1)=u1 at *
 generalize decide ((c 0).Perm (c 1))=fb at *
 have hn' :=fun k=>Nat.le_trans hnr (Nat.le_add_right (Hc c).length k)
 obtain⟨H,hH⟩: ∃H,H=Hc c:=⟨_,rfl⟩
 obtain⟨cl,hcl⟩: ∃cl,cl=(List.range 2).map fun i=>(Value.slice (some ⟨q i,0,none⟩) n n):=⟨_,rfl⟩
 have hcll:cl.length=2:=by rw[hcl];simp
 rw[←hcl]at q2 z0 z1
 rw[List.drop_zero]at z0
 rw[List.drop_one]at z1
 have q1' : ∀L:VH,(Hc c++L)[a]? =_:=fun L=>E.lt c q1 L
 have q2' : ∀L:VH,(Hc c++L)[bc]? =_:=fun L=>E.lt c q2 L
 rw[←hH]at hn' hnr q1 q2 q1' q2' lax lbc k0 k1 k2 k3 k4⊢
 simp at k0 k1 k2 k3
 generalize c 0=c0 at *
 generalize c 1=c1 at *
 refine v_zz47 (by simp[i_zz47]) ?_
 rw[fbody_eq]
 clear C E hH s0 s1 t0 t1 hd hcl
 simp (disch:=first|assumption|omega|(simp[*]<;>omega)|fail) [-getElem?_pos,gz_,gs_,i_zz47,q1,q2,q1',q2',z0,z1,hcll,k0,k1,k2,k3,k4,hn',hnr,lax,lbc,fresults,fresL,fres1]
end
end

/- Graphs made edge by edge: jump graphs, renumbered graphs. -/
section
open Go
variable {nro:Nat}
theorem mk_upd (P C:VH) (r0 r1:List Int):Upd (P++⟨1,ints r0⟩::C) (P++⟨1,ints r1⟩::C):=by
 have h1:=(Upd.rfl' (P++⟨1,ints r0⟩::C)).set' (b:=P.length) (o:=⟨1,ints r1⟩) (flatO_ints _ _ _)
 rwa [hset0]at h1
theorem mk_clean {P C:VH} {r0 r1:List Int} {vs:List Value} (hv: ∀v∈vs,Old (P++⟨1,ints r0⟩::C).length v):kclean (P++⟨1,ints r0⟩::C) vs (P++⟨1,ints r1⟩::C)=(vs,P++⟨1,ints r1⟩::C):=by
 have:=cleanup_upd (L:= []) (mk_upd P C r0 r1) (vs:=vs) hv
 rwa [List.append_nil]at this
end

/- Bases: lists of arcs in the heap, what a base is, steps. -/
section
open Go
open Classical in
theorem for_findQ {call : VCall} {nro : Nat} {live : List Nat} {c : FC} {h0 : VH} {n : Nat} (V : Nat → List Value) (h : VH) (bad : Nat → Prop) (P : Option (VX × FE × VH) → Prop) (d : Option (VX × FE × VH))
    (step: ∀i,i<n→(i:Int)<n→(bad i→P (floop call nro live c h0 (V i) h))∧(¬bad i→floop call nro live c h0 (V i) h=floop call nro live c h0 (V (i+1)) h))
    (stop:floop call nro live c h0 (V n) h=d) (i:Nat) (hi:i≤n):
    ((∃j,i≤j∧j<n∧bad j)∧P (floop call nro live c h0 (V i) h))∨((¬ ∃j,i≤j∧j<n∧bad j)∧floop call nro live c h0 (V i) h=d):=by
  by_cases hlt:i<n
  · obtain ⟨h1, h2⟩ := step i hlt (by omega)
    by_cases hb:bad i
    · exact .inl ⟨⟨i,Nat.le_refl _,hlt,hb⟩,h1 hb⟩
    · rw [h2 hb]
      rcases for_findQ V h bad P d step stop (i+1) hlt with⟨⟨j,a1,a2,a3⟩,h3⟩|⟨h3,h4⟩
      · exact .inl ⟨⟨j,by omega,a2,a3⟩,h3⟩
      · refine .inr ⟨?_, h4⟩
        rintro⟨j,a1,a2,a3⟩
        by_cases e:j=i
        · subst e;exact hb a3
        · exact h3 ⟨j,by omega,a2,a3⟩
  · have : i = n := by omega
    subst this
    refine .inr ⟨?_,stop⟩
    rintro⟨j,h1,h2,_⟩
    omega
 termination_by n - i
structure Ar where
 f:Int
 t:Int
 v:Int
abbrev avc (a:Ar):List Value:= [.int .i64 a.f,.int .i64 a.t,.int .i64 a.v]
def arcs:List Ar→List Value
 | [] => []
 | a :: A => avc a ++ arcs A
@[simp] theorem arcs_nil : arcs [] = [] := rfl
@[simp] theorem arcs_len : ∀ A : List Ar, (arcs A).length = 3 * A.length
 | [] => rfl
 | a :: A => by
  show(avc a++arcs A).length=_
  rw[List.length_append,arcs_len A,List.length_cons]
  show 3+3 * A.length=3 * (A.length+1)
  omega
@[simp] theorem arcs_all : ∀ A : List Ar, (arcs A).all (fun v => !isJunk v) = true
 | [] => rfl
 | a :: A => by
  show(avc a++arcs A).all _=true
  rw[List.all_append,arcs_all A]
  rfl
@[simp] theorem arcs_flat (n k : Nat) (A : List Ar) : flatO n ⟨k, arcs A⟩ := by
 intro r hr
 exfalso
 induction A with
 | nil => simp [orefs] at hr
 | cons a A ih =>
  have:orefs ⟨k,arcs (a::A)⟩=orefs ⟨k,arcs A⟩:=by
   show(avc a++arcs A).flatMap crefs=(arcs A).flatMap crefs
   rw[List.flatMap_append]
   simp[crefs,arefs]
  rw[this]at hr
  exact ih hr
def okA (n m:Int) (a:Ar):Prop:=0≤a.f∧a.f<n∧0≤a.t∧a.t<n∧0≤a.v∧a.v<m
instance (n m:Int) (a:Ar):Decidable (okA n m a):=by unfold okA;infer_instance
variable {nro:Nat}
end

/- Renumberings that are told by colours: the loops. -/
section
open Go
open Classical
variable {nro:Nat}
structure MV (nro:Nat) (H:VH) (b1 a bg bc n:Nat) (u0 u1 v0 v1:Value) (c0 c1 r0 r1:List Int):Prop where
 nr:nro≤H.length
 box:H[b1]? =some ⟨0,[.pointer (some ⟨a,0,some 2⟩)]⟩
 ax:H[a]? =some ⟨0,[.slice (some ⟨bg,0,none⟩) 2 4,.slice (some ⟨bc,0,none⟩) 2 2]⟩
 ac:H[bc]? =some ⟨1,[u0,u1]⟩
 ag:H[bg]? =some ⟨2,[.int .i64 n,v0,.int .i64 n,v1]⟩
 s0:Sli H u0 c0
 s1:Sli H u1 c1
 t0:Sli H v0 r0
 t1:Sli H v1 r1
 l0:c0.length=n
 l1:c1.length=n
 R0:Rok n r0
 R1:Rok n r1
 n1:1≤n
theorem MV.app {nro:Nat} {H:VH} {b1 a bg bc n:Nat} {u0 u1 v0 v1:Value} {c0 c1 r0 r1:List Int} (m:MV nro H b1 a bg bc n u0 u1 v0 v1 c0 c1 r0 r1) (L:VH):MV nro (H++L) b1 a bg bc n u0 u1 v0 v1 c0 c1 r0 r1 where
 nr:=Nat.le_trans m.nr (by simp)
 box:=by rw[List.getElem?_append_left (List.getElem?_eq_some_iff.mp m.box).1];exact m.box
 ax:=by rw[List.getElem?_append_left (List.getElem?_eq_some_iff.mp m.ax).1];exact m.ax
 ac:=by rw[List.getElem?_append_left (List.getElem?_eq_some_iff.mp m.ac).1];exact m.ac
 ag:=by rw[List.getElem?_append_left (List.getElem?_eq_some_iff.mp m.ag).1];exact m.ag
 s0:=m.s0.app L
 s1:=m.s1.app L
 t0:=m.t0.app L
 t1:=m.t1.app L
 l0:=m.l0
 l1:=m.l1
 R0:=m.R0
 R1:=m.R1
 n1:=m.n1
section
variable {H:VH} {b1 a bg bc n:Nat} {u0 u1 v0 v1:Value} {c0 c1 r0 r1:List Int} (m:MV nro H b1 a bg bc n u0 u1 v0 v1 c0 c1 r0 r1)
include m
theorem MV.le:n≤62:=m.R0.le
theorem c_zz35 (x:Int):vcall F nro k_zz35 [.int .i64 x,.pointer (some ⟨b1,0,some 1⟩)] H=some (.bool (decide (idxF c0 x 0≠lastX c0 x c0.length)),H):=by
 have hl:=m.l0
 have h62:=m.le
 have hb:=m.box
 have hax:=m.ax
 have hac:=m.ac
 have k1:=c_slices_Index (nro:=nro) u0 c0 x H m.s0 (by omega)
 have k2:=c_zz76 (nro:=nro) u0 c0 x H m.s0 (by omega)
 refine v_zz35 (by simp[i_zz35]) ?_
 rw[fbody_eq]
 generalize idxF c0 x 0=i1 at *
 generalize lastX c0 x c0.length=i2 at *
 clear m
 simp (disch:=first|assumption|omega|(simp[*]<;>omega)|fail) [-getElem?_pos,gz_,gs_,i_zz35,hb,hax,hac,k1,k2,fresults,fresL,fres1]
theorem l_mapping_B1: ∃p:List Int,p.length=n∧(∀v,v<n→p.getD v 0=idxF c1 (c0.getD v 0) 0)∧
  floop (vcall F nro) nro [1,4,39,40,41] i_zz41_B1 (H++ [⟨1,ints (List.replicate n 0)⟩]) [.pointer (some ⟨b1,0,some 1⟩),.slice (some ⟨H.length,0,none⟩) n n,u0,.int .i64 n,.int .i64 0] (H++ [⟨1,ints (List.replicate n 0)⟩])=
   some (.exit 0,fl [(1,.pointer (some ⟨b1,0,some 1⟩)),(4,.slice (some ⟨H.length,0,none⟩) n n)],H++ [⟨1,ints p⟩]):=by
 have hl:=m.l0
 have hl1:=m.l1
 have h62:=m.le
 have hnr:=m.nr
 have lb:=(List.getElem?_eq_some_iff.mp m.box).1
 have m' :=fun L=>m.app L
 have hb:=fun L=>(m' L).box
 have hax:=fun L=>(m' L).ax
 have hac:=fun L=>(m' L).ac
 have hn' :=fun k=>Nat.le_trans hnr (Nat.le_add_right H.length k)
 refine Exists.elim (for_upR (call:=vcall F nro) (nro:=nro) (live:= [1,4,39,40,41]) (c:=i_zz41_B1) (h0:=H++ [⟨1,ints (List.replicate n 0)⟩]) (n:=n)
  (fun i (_:List Int)=> [.pointer (some ⟨b1,0,some 1⟩),.slice (some ⟨H.length,0,none⟩) n n,u0,.int .i64 n,.int .i64 i])
  (fun _ p=>H++ [⟨1,ints p⟩]) (fun i p=>p.length=n∧ ∀v,v<i→p.getD v 0=idxF c1 (c0.getD v 0) 0)
  (fun p=>some (.exit 0,fl [(1,.pointer (some ⟨b1,0,some 1⟩)),(4,.slice (some ⟨H.length,0,none⟩) n n)],H++ [⟨1,ints p⟩])) ?_ ?_ 0 (List.replicate n 0) (Nat.zero_le _) ⟨by simp,fun v hv=>by omega⟩) ?_
 ·rintro i p hi hi2 ⟨hp,hI⟩
  refine⟨p.set i (idxF c1 (c0.getD i 0) 0),⟨by rw[List.length_set,hp],fun v hv=> ?_⟩,?_⟩
  ·rw[set_getD (by omega)]
   by_cases e:v=i
   ·rw[if_pos e,e]
   ·rw[if_neg e];exact hI v (by omega)
  ·have s0:=m.s0
   have vx:=fun L=>(s0.app L).vidx (k:= .i64) (j:=(i:Int)) (by omega) (by omega)
   have vl:=fun L=>(s0.app L).vload (j:=i) (by omega)
   simp only[Int.toNat_natCast]at vx
   rw[getD_at c0 (by omega)]
   have k1:=fun L=>c_slices_Index (nro:=nro) u1 c1 (c0[i]'(by omega)) (H++L) (m' L).s1 (by omega)
   have so:=fun k=>s0.oldk (k:=k)
   have hcl:=fun(r:List Int) (vs:List Value)=>mk_clean (P:=H) (C:= []) (r0:=List.replicate n 0) (r1:=r) (vs:=vs)
   have w1:IntKind.i64.wrap ((i:Int)+1)=(i:Int)+1:=wrap64 (by omega) (by omega)
   have hip:i<p.length:=by omega
   have tk:=take1_ints hip
   have sp:=splice_ints (v:=idxF c1 (c0[i]'(by omega)) 0) hip
   generalize idxF c1 (c0[i]'(by omega)) 0=y at *
   have hsl:(ints p).length=n:=by rw[ints_length,hp]
   generalize(c0[i]'(by omega))=x at *
   obtain⟨r0,hr0⟩: ∃r0,r0=List.replicate n (0:Int):=⟨_,rfl⟩
   rw[←hr0]at hcl⊢
   clear hI hr0 m m' s0
   rw[floop_at i_zz41_B1.eq_1]
   simp (disch:=first|assumption|omega|(simp[*]<;>omega)|fail) [-getElem?_pos,gz_,gs_,hi,hi2,hb,hax,hac,vx,vl,k1,so,hcl,w1,tk,sp,hsl,hn',hnr,lb]
 ·rintro p _
  rw[floop_at i_zz41_B1.eq_1]
  simp (disch:=first|assumption|omega|(simp[*]<;>omega)|fail) [-getElem?_pos,gz_,gs_,lb]
 ·rintro p ⟨⟨h1,h2⟩,hf⟩
  exact⟨p,h1,h2,hf⟩
end
end

/- Renumberings that are told by colours: is it one? -/
section
open Go
open Classical
variable {nro:Nat}
section
variable {H:VH} {b1 a bg bc n:Nat} {u0 u1 v0 v1:Value} {c0 c1 r0 r1:List Int} (m:MV nro H b1 a bg bc n u0 u1 v0 v1 c0 c1 r0 r1) {pv:Value} {p:List Int} (sp:Sli H pv p) (hp:p.length=n) (hpl: ∀v,v<n→0≤p.getD v 0∧p.getD v 0<n)
include m sp hp hpl
theorem l_mapping_B2 (v:Nat) (hv:v<n) (lv:Value) (hq:Sli H lv (nbL r0 v)):
  floop (vcall F nro) nro [1,4,7,64,65,66,72,73,74] i_zz41_B2 H [.pointer (some ⟨b1,0,some 1⟩),pv,.int .i64 v,v0,.int .i64 n,.int .i64 v,lv,.int .i64 (nbL r0 v).length,.int .i64 0] H=
   if∃j,0≤j∧j<(nbL r0 v).length∧rbit r1 (p.getD v 0).toNat (p.getD ((nbL r0 v).getD j 0).toNat 0).toNat=false then some (.ret,fl [(2,.slice none 0 0)],H)
   else some (.exit 4,fl [(1,.pointer (some ⟨b1,0,some 1⟩)),(4,pv),(64,v0),(65,.int .i64 n),(66,.int .i64 v)],H):=by
 have h62:=m.le
 have hnr:=m.nr
 have hb:=m.box
 have hax:=m.ax
 have hag:=m.ag
 have R1:=m.R1
 have lb:=(List.getElem?_eq_some_iff.mp m.box).1
 have hqo:=hq.old
 have hpo:=sp.old
 have hto:=m.t0.old
 have hl:(nbL r0 v).length≤62:=bitL_len _
 refine for_find (call:=vcall F nro) (nro:=nro) (live:= [1,4,7,64,65,66,72,73,74]) (c:=i_zz41_B2) (h0:=H) (n:=(nbL r0 v).length)
  (fun j=> [.pointer (some ⟨b1,0,some 1⟩),pv,.int .i64 v,v0,.int .i64 n,.int .i64 v,lv,.int .i64 (nbL r0 v).length,.int .i64 j]) H (fun j=>rbit r1 (p.getD v 0).toNat (p.getD ((nbL r0 v).getD j 0).toNat 0).toNat=false) _ _ ?_ ?_ 0 (Nat.zero_le _)
 ·intro j hj hj2
  have hw:=nbL_mem r0 v (nbL r0 v)[j]|>.mp (List.getElem_mem hj)
  obtain⟨w,hw2⟩: ∃w:Nat,(nbL r0 v)[j]=w:=⟨_,(Int.toNat_of_nonneg hw.1).symm⟩
  have hwn:w<n:=by
   have:=(rbit_lt m.R0 (show rbit r0 v w=true by rw[hw2,Int.toNat_natCast]at hw;exact hw.2.2)).2
   exact this
  have vx:=hq.vidx (k:= .i64) (j:=(j:Int)) (by omega) (by omega)
  have vl:=hq.vload hj
  rw[hw2]at vl
  rw[getD_at _ hj,hw2,Int.toNat_natCast]
  simp only[Int.toNat_natCast]at vx
  have p1:=sp.vidx (k:= .i64) (j:=(v:Int)) (by omega) (by omega)
  have p2:=sp.vload (j:=v) (by omega)
  have p3:=sp.vidx (k:= .i64) (j:=(w:Int)) (by omega) (by omega)
  have p4:=sp.vload (j:=w) (by omega)
  rw[←getD_at]at p2 p4
  simp only[Int.toNat_natCast]at p1 p3
  obtain⟨x,hx⟩: ∃x:Nat,p.getD v 0=x:=⟨_,(Int.toNat_of_nonneg (hpl v hv).1).symm⟩
  obtain⟨y,hy⟩: ∃y:Nat,p.getD w 0=y:=⟨_,(Int.toNat_of_nonneg (hpl w hwn).1).symm⟩
  have hxn:=(hpl v hv).2
  have hyn:=(hpl w hwn).2
  rw[hx]at p2 hxn⊢
  rw[hy]at p4 hyn⊢
  rw[Int.toNat_natCast,Int.toNat_natCast]
  obtain⟨g1,g2⟩:=R1.row x (by omega)
  have hlen:=R1.len
  have hle62:(2:Nat) ^ n≤2 ^ 62:=Nat.pow_le_pow_right (by omega) h62
  have k1:=c_zz72 (nro:=nro) n x y v1 r1 H m.t1 (by omega) (by omega) (by omega) (by omega) (by rw[Int.toNat_natCast];exact g1) (by rw[Int.toNat_natCast];omega)
  rw[Int.toNat_natCast,Int.toNat_natCast]at k1
  have w1:IntKind.i64.wrap ((j:Int)+1)=(j:Int)+1:=wrap64 (by omega) (by omega)
  refine⟨fun hbad=> ?_,fun hok=> ?_⟩
  ·rw[hbad]at k1
   rw[floop_at i_zz41_B2.eq_1]
   clear m sp hq hw hpl R1 hx hy hbad
   simp (disch:=first|assumption|omega|(simp[*]<;>omega)|fail) [-getElem?_pos,gz_,gs_,hj,hj2,vx,vl,hb,hax,hag,p1,p2,p3,p4,k1,hqo,hpo,hto,lb]
  ·rw[Bool.not_eq_false]at hok
   rw[hok]at k1
   rw[floop_at i_zz41_B2.eq_1]
   clear m sp hq hw hpl R1 hx hy hok
   simp (disch:=first|assumption|omega|(simp[*]<;>omega)|fail) [-getElem?_pos,gz_,gs_,hj,hj2,vx,vl,hb,hax,hag,p1,p2,p3,p4,k1,w1,hqo,hpo,hto,lb]
 ·rw[floop_at i_zz41_B2.eq_1]
  clear m sp hq hpl R1
  simp (disch:=first|assumption|omega|(simp[*]<;>omega)|fail) [-getElem?_pos,gz_,gs_,hqo,hpo,hto,lb]
theorem l_mapping_B3:
  ((∃v,0≤v∧v<n∧ ∃w,w<n∧rbit r0 v w=true∧rbit r1 (p.getD v 0).toNat (p.getD w 0).toNat=false)∧ ∃L,floop (vcall F nro) nro [1,4,64,65,66] i_zz41_B3 H [.pointer (some ⟨b1,0,some 1⟩),pv,v0,.int .i64 n,.int .i64 0] H=some (.ret,fl [(2,.slice none 0 0)],H++L))∨
  ((¬ ∃v,0≤v∧v<n∧ ∃w,w<n∧rbit r0 v w=true∧rbit r1 (p.getD v 0).toNat (p.getD w 0).toNat=false)∧floop (vcall F nro) nro [1,4,64,65,66] i_zz41_B3 H [.pointer (some ⟨b1,0,some 1⟩),pv,v0,.int .i64 n,.int .i64 0] H=some (.exit 2,fl [(4,pv)],H)):=by
 have h62:=m.le
 have hnr:=m.nr
 have R0:=m.R0
 have lb:=(List.getElem?_eq_some_iff.mp m.box).1
 have hpo:=sp.old
 have hto:=m.t0.old
 have hn' :=fun k=>Nat.le_trans hnr (Nat.le_add_right H.length k)
 refine for_findQ (call:=vcall F nro) (nro:=nro) (live:= [1,4,64,65,66]) (c:=i_zz41_B3) (h0:=H) (n:=n)
  (fun v=> [.pointer (some ⟨b1,0,some 1⟩),pv,v0,.int .i64 n,.int .i64 v]) H (fun v=> ∃w,w<n∧rbit r0 v w=true∧rbit r1 (p.getD v 0).toNat (p.getD w 0).toNat=false) (fun r=> ∃L,r=some (.ret,fl [(2,.slice none 0 0)],H++L)) _ ?_ ?_ 0 (Nat.zero_le _)
 ·intro v hv hv2
  have vx:=m.t0.vidx (k:= .i64) (j:=(v:Int)) (by omega) (by have:=R0.len;omega)
  have vl:=m.t0.vload (j:=v) (by have:=R0.len;omega)
  simp only[Int.toNat_natCast]at vx
  have k1:=c_impl_listRow (nro:=nro) n v r0 R0 hv H hnr
  have hq:=sli_at (h:=H++ [⟨1,ints (nbL r0 v)⟩]) (b:=H.length) (xs:=nbL r0 v) (by simp)
  have l2:=l_mapping_B2 (nro:=nro) (m.app [⟨1,ints (nbL r0 v)⟩]) (sp.app _) hp hpl v hv _ hq
  have w1:IntKind.i64.wrap ((v:Int)+1)=(v:Int)+1:=wrap64 (by omega) (by omega)
  have hiff:(∃j,0≤j∧j<(nbL r0 v).length∧rbit r1 (p.getD v 0).toNat (p.getD ((nbL r0 v).getD j 0).toNat 0).toNat=false)↔ ∃w,w<n∧rbit r0 v w=true∧rbit r1 (p.getD v 0).toNat (p.getD w 0).toNat=false:=by
   constructor
   ·rintro⟨j,_,hj,h⟩
    have hw:=nbL_mem r0 v (nbL r0 v)[j]|>.mp (List.getElem_mem hj)
    rw[getD_at _ hj]at h
    exact⟨_,(rbit_lt R0 hw.2.2).2,hw.2.2,h⟩
   ·rintro⟨w,hw,hb,h⟩
    have hm:(w:Int)∈nbL r0 v:=(nbL_mem r0 v w).mpr ⟨by omega,by omega,by rw[Int.toNat_natCast];exact hb⟩
    obtain⟨j,hj,he⟩:=List.getElem_of_mem hm
    exact⟨j,Nat.zero_le _,hj,by rw[getD_at _ hj,he,Int.toNat_natCast];exact h⟩
  rw[propext hiff]at l2
  obtain⟨X,hX⟩: ∃X,X=nbL r0 v:=⟨_,rfl⟩
  rw[←hX]at k1 l2
  have hXl:(ints X).length=X.length:=ints_length X
  generalize r0[v]'(by have:=R0.len;omega)=row at *
  refine⟨fun hbad=> ?_,fun hok=> ?_⟩
  ·rw[if_pos hbad]at l2
   refine⟨[⟨1,ints X⟩],?_⟩
   rw[floop_at i_zz41_B3.eq_1]
   clear m sp hq hpl R0 hbad hiff hX
   simp (disch:=first|assumption|omega|(simp[*]<;>omega)|fail) [-getElem?_pos,gz_,gs_,hv,hv2,vx,vl,k1,l2,hpo,hto,lb,hn',hnr]
  ·rw[if_neg hok]at l2
   rw[floop_at i_zz41_B3.eq_1]
   clear m sp hq hpl R0 hok hiff hX
   simp (disch:=first|assumption|omega|(simp[*]<;>omega)|fail) [-getElem?_pos,gz_,gs_,hv,hv2,vx,vl,k1,l2,w1,hpo,hto,lb,hn',hnr]
 ·rw[floop_at i_zz41_B3.eq_1]
  clear m sp hpl R0
  simp (disch:=first|assumption|omega|(simp[*]<;>omega)|fail) [-getElem?_pos,gz_,gs_,hpo,hto,lb]
end
end

/- Renumberings that are looked for: one vertex told apart. -/
section
open Go
open Classical
variable {nro:Nat}
def MapRes (rows:Nat→List Int) (n:Nat) (c:Nat→List Int) (b:Nat) (pv:Value) (L:VH):Prop:=
 (pv= .slice none 0 0∧L= []∧ ¬HasIso rows n c)∨
 (∃p:List Int,pv= .slice (some ⟨b,0,none⟩) n n∧L= [⟨1,ints p⟩]∧p.length=n∧(∀v,v<n→0≤p.getD v 0∧p.getD v 0<n)∧Iso rows n c (fun v=>(p.getD v 0).toNat))
def MapOK (nro n:Nat) (rows:Nat→List Int) (k:Nat):Prop:= ∀ {a bg bc:Nat} {q:Nat→Nat} {rs:Nat→Value} {gcs:List Value} {Hc:(Nat→List Int)→VH},RG nro 2 n a bg bc q rs rows gcs Hc→ ∀(c:Nat→List Int),CL 2 n c→SurC 2 n c→n - manyN 2 c≤k→
 ∃c' pv L,vcall F nro k_zz41 [.pointer (some ⟨a,0,some 2⟩)] (Hc c)=some (pv,Hc c' ++L)∧MapRes rows n c (Hc c).length pv L
abbrev h2C (H:VH) (bg n:Nat) (d:Nat→List Int):VH:=H++ [⟨1,ints (d 0)⟩,⟨1,ints (d 1)⟩,⟨1,[.slice (some ⟨H.length,0,none⟩) n n,.slice (some ⟨H.length+1,0,none⟩) n n]⟩,⟨0,[.slice (some ⟨bg,0,none⟩) 2 4,.slice (some ⟨H.length+2,0,none⟩) 2 2]⟩]
theorem rg_two {H:VH} {bg n:Nat} {gcs:List Value} {rs:Nat→Value} {rows:Nat→List Int} (hn:nro≤H.length) (hg:H[bg]? =some ⟨2,gcs⟩) (gl:gcs.length=2 * 2) (ga: ∀i,i<2→gcs[2 * i]? =some (.int .i64 n)∧gcs[2 * i+1]? =some (rs i)) (hr: ∀i,i<2→Sli H (rs i) (rows i)) (R: ∀i,i<2→Rok n (rows i)) (hn1:1≤n):
  RG nro 2 n (H.length+3) bg (H.length+2) (fun i=>H.length+i) rs rows gcs (h2C H bg n) where
 nr c:=by unfold h2C;simp;omega
 nq i hi:=by omega
 len c c' :=by simp[h2C]
 upd c c' :=by
  have e:h2C H bg n c' =((h2C H bg n c).set (H.length+0) ⟨1,ints (c' 0)⟩).set (H.length+1) ⟨1,ints (c' 1)⟩:=by unfold h2C;rw[hsetk,hsetk];rfl
  rw[e]
  exact((Upd.rfl' _).set' (flatO_ints _ _ _)).set' (flatO_ints _ _ _)
 ax c:=by unfold h2C;rw[hgetk];rfl
 ag c:=by unfold h2C;rw[List.getElem?_append_left (List.getElem?_eq_some_iff.mp hg).1];exact hg
 gl:=gl
 ga:=ga
 ac c:=by unfold h2C;rw[hgetk];rfl
 aq c i hi:=by
  rcases(show i=0∨i=1 by omega)with rfl|rfl<;>(unfold h2C;rw[hgetk];rfl)
 st c i l hi:=by
  rcases(show i=0∨i=1 by omega)with rfl|rfl<;>(unfold h2C;rw[hsetk];rfl)
 rr c i hi:=(hr i hi).app _
 rok:=R
 n1:=hn1
 K1:=by omega
 K2:=by omega
section
variable {n a bg bc b1:Nat} {q:Nat→Nat} {rs:Nat→Value} {rows:Nat→List Int} {gcs:List Value} {Hc:(Nat→List Int)→VH} (E:RG nro 2 n a bg bc q rs rows gcs Hc) (hbx: ∀c,(Hc c)[b1]? =some ⟨0,[.pointer (some ⟨a,0,some 2⟩)]⟩)
include E
theorem RG.gcs4:gcs= [.int .i64 n,rs 0,.int .i64 n,rs 1]:=by
 have h1:=E.gl
 obtain⟨g0,g1⟩:=E.ga 0 (by omega)
 obtain⟨g2,g3⟩:=E.ga 1 (by omega)
 match gcs,h1,g0,g1,g2,g3 with
 | [x, y, z, w], _, g0, g1, g2, g3 => simp at g0 g1 g2 g3; rw [g0, g1, g2, g3]
include hbx
theorem RG.mv (c:Nat→List Int) (C:CL 2 n c):MV nro (Hc c) b1 a bg bc n (.slice (some ⟨q 0,0,none⟩) n n) (.slice (some ⟨q 1,0,none⟩) n n) (rs 0) (rs 1) (c 0) (c 1) (rows 0) (rows 1) where
 nr:=E.nr c
 box:=hbx c
 ax:=E.ax c
 ac:=E.ac c
 ag:=by rw[←E.gcs4];exact E.ag c
 s0:=by have:=sli_at (E.aq c 0 (by omega));rwa [C.len 0 (by omega)]at this
 s1:=by have:=sli_at (E.aq c 1 (by omega));rwa [C.len 1 (by omega)]at this
 t0:=E.rr c 0 (by omega)
 t1:=E.rr c 1 (by omega)
 l0:=C.len 0 (by omega)
 l1:=C.len 1 (by omega)
 R0:=E.rok 0 (by omega)
 R1:=E.rok 1 (by omega)
 n1:=E.n1
set_option maxHeartbeats 4000000 in
theorem l_mapping_B4 {k:Nat} (ih:MapOK nro n rows k) (c:Nat→List Int) (C:CL 2 n c) (S:SurC 2 n c) (hm:manyN 2 c<n) (hk:n - manyN 2 c≤k+1) {v u:Nat} (hv:v<n) (hu:u<n) (huv:u≠v) (hcu:(c 0).getD u 0=(c 0).getD v 0):
  ((∃w,0≤w∧w<n∧(c 1).getD w 0=(c 0).getD v 0∧HasIso rows n (apartC c (manyN 2 c) v w))∧ ∃L p e,floop (vcall F nro) nro [1,3,11,110,111,112] i_zz41_B4 (Hc c) [.pointer (some ⟨b1,0,some 1⟩),.int .i64 (manyN 2 c:Nat),.int .i64 v,.slice (some ⟨q 1,0,none⟩) n n,.int .i64 n,.int .i64 0] (Hc c)=some (.ret,fl [(2,.slice (some ⟨(Hc c).length+e,0,none⟩) n n)],Hc c++L)∧L[e]? =some ⟨1,ints p⟩∧p.length=n∧(∀v,v<n→0≤p.getD v 0∧p.getD v 0<n)∧ ∃w,(c 1).getD w 0=(c 0).getD v 0∧w<n∧Iso rows n (apartC c (manyN 2 c) v w) (fun v=>(p.getD v 0).toNat))∨
  ((¬ ∃w,0≤w∧w<n∧(c 1).getD w 0=(c 0).getD v 0∧HasIso rows n (apartC c (manyN 2 c) v w))∧floop (vcall F nro) nro [1,3,11,110,111,112] i_zz41_B4 (Hc c) [.pointer (some ⟨b1,0,some 1⟩),.int .i64 (manyN 2 c:Nat),.int .i64 v,.slice (some ⟨q 1,0,none⟩) n n,.int .i64 n,.int .i64 0] (Hc c)=some (.exit 6,fl [],Hc c)):=by
 have mv:=E.mv hbx c C
 have h62:=mv.le
 have hnr:=mv.nr
 have hn1:=mv.n1
 have lb:=(List.getElem?_eq_some_iff.mp mv.box).1
 have l0:=mv.l0
 have l1:=mv.l1
 have lq1:=E.lq c (i:=1) (by omega)
 have E2:=rg_two (nro:=nro) (n:=n) hnr (E.ag c) E.gl E.ga (fun i hi=>E.rr c i hi) E.rok hn1
 have s0x:=mv.s0.vidx (k:= .i64) (j:=(v:Int)) (by omega) (by omega)
 have s0l:=mv.s0.vload (j:=v) (by omega)
 rw[←getD_at]at s0l
 simp only[Int.toNat_natCast]at s0x
 obtain⟨m,hmm⟩: ∃m,m=manyN 2 c:=⟨_,rfl⟩
 have hapart:=fun w (hw:w<n) (hcw:(c 1).getD w 0=(c 0).getD v 0)=>apart_ok C S hn1 (by omega) hv hw hu huv hcu hcw
 rw[←hmm]at hm hk hapart⊢
 have ec:=for_findQ (call:=vcall F nro) (nro:=nro) (live:= [1,3,11,110,111,112]) (c:=i_zz41_B4) (h0:=Hc c) (n:=n)
  (fun w=> [.pointer (some ⟨b1,0,some 1⟩),.int .i64 m,.int .i64 v,.slice (some ⟨q 1,0,none⟩) n n,.int .i64 n,.int .i64 w]) (Hc c) (fun w=>(c 1).getD w 0=(c 0).getD v 0∧HasIso rows n (apartC c m v w))
  (fun r=> ∃L p e,r=some (.ret,fl [(2,.slice (some ⟨(Hc c).length+e,0,none⟩) n n)],Hc c++L)∧L[e]? =some ⟨1,ints p⟩∧p.length=n∧(∀v,v<n→0≤p.getD v 0∧p.getD v 0<n)∧ ∃w,(c 1).getD w 0=(c 0).getD v 0∧w<n∧Iso rows n (apartC c m v w) (fun v=>(p.getD v 0).toNat)) (some (.exit 6,fl [],Hc c)) ?_ ?_ 0 (Nat.zero_le _)
 ·exact ec
 ·intro w hw hw2
  have w1:IntKind.i64.wrap ((w:Int)+1)=(w:Int)+1:=wrap64 (by omega) (by omega)
  have s1x:=mv.s1.vidx (k:= .i64) (j:=(w:Int)) (by omega) (by omega)
  have s1l:=mv.s1.vload (j:=w) (by omega)
  rw[←getD_at]at s1l
  simp only[Int.toNat_natCast]at s1x
  have hbox:=mv.box
  have hax:=mv.ax
  have hac:=mv.ac
  by_cases hcw:(c 1).getD w 0=(c 0).getD v 0
  ·obtain⟨C2,S2,hM⟩:=hapart w hw hcw
   obtain⟨c2,pv,L,r1,r2⟩:=ih E2 (apartC c m v w) C2 S2 (by omega)
   have k0:=c_slices_Clone (nro:=nro) _ (c 0) (Hc c) mv.s0 (C.ne hn1 0 (by omega)) (by omega) hnr
   have k1:=c_slices_Clone (nro:=nro) _ (c 1) (Hc c++ [⟨1,ints (c 0)⟩]) (mv.s1.app _) (C.ne hn1 1 (by omega)) (by omega) (by simp;omega)
   rw[l0]at k0
   rw[l1]at k1
   have m' :=fun L=>mv.app L
   have hbox' :=fun L=>(m' L).box
   have hax' :=fun L=>(m' L).ax
   have hac' :=fun L=>(m' L).ac
   have sp0:=splice_ints (xs:=c 0) (j:=v) (v:=(m:Int)) (by omega)
   have sp1:=splice_ints (xs:=c 1) (j:=w) (v:=(m:Int)) (by omega)
   have hil0:(ints (c 0)).length=n:=by rw[ints_length,l0]
   have hil1:(ints (c 1)).length=n:=by rw[ints_length,l1]
   have e0:(apartC c m v w) 0=(c 0).set v m:=apartC_0 _ _ _ _
   have e1:(apartC c m v w) 1=(c 1).set w m:=apartC_1 _ _ _ _
   have hlen2:(h2C (Hc c) bg n (apartC c m v w)).length=(Hc c).length+4:=by simp[h2C]
   rw[hlen2]at r2
   simp only[h2C]at r1
   rw[e0,e1]at r1
   have hn' :=fun k=>Nat.le_trans hnr (Nat.le_add_right (Hc c).length k)
   generalize(c 0).getD v 0=x at *
   have hil2:(ints ((c 0).set v m)).length=n:=by rw[ints_length,List.length_set,l0]
   have hil3:(ints ((c 1).set w m)).length=n:=by rw[ints_length,List.length_set,l1]
   rcases r2 with⟨rfl,rfl,hno⟩|⟨p,rfl,rfl,p1,p2,p3⟩
   ·refine⟨fun hbad=>absurd hbad.2 hno,fun _=> ?_⟩
    generalize c 0=d0 at *
    generalize c 1=d1 at *
    generalize c2 0=d2 at *
    generalize c2 1=d3 at *
    rw[hcw]at s1l
    simp at k1 r1
    obtain⟨H,hH⟩: ∃H,H=Hc c:=⟨_,rfl⟩
    rw[←hH]at k0 k1 r1 s0x s0l s1x s1l hbox hax hac hbox' hax' hac' hn' hnr lb lq1⊢
    rw[floop_at i_zz41_B4.eq_1]
    clear mv m' E E2 C C2 S S2 hapart ih hno hbx hM hcw hcu hH e0 e1
    simp (disch:=first|assumption|omega|(simp[*]<;>omega)|fail) [-getElem?_pos,gz_,gs_,hv,hw,hw2,s0x,s0l,s1x,s1l,hbox,hax,hac,hbox',hax',hac',k0,k1,sp0,sp1,hil0,hil1,hil2,hil3,r1,w1,hn',hnr,lb,lq1]
   ·refine⟨fun _=>⟨[⟨1,ints (c2 0)⟩,⟨1,ints (c2 1)⟩,⟨1,[.slice (some ⟨(Hc c).length,0,none⟩) n n,.slice (some ⟨(Hc c).length+1,0,none⟩) n n]⟩,⟨0,[.slice (some ⟨bg,0,none⟩) 2 4,.slice (some ⟨(Hc c).length+2,0,none⟩) 2 2]⟩,⟨1,ints p⟩],p,4,?_,rfl,p1,p2,w,hcw,hw,p3⟩,fun hok=>absurd ⟨hcw,_,p3⟩ hok⟩
    generalize c 0=d0 at *
    generalize c 1=d1 at *
    generalize c2 0=d2 at *
    generalize c2 1=d3 at *
    rw[hcw]at s1l
    simp at k1 r1
    obtain⟨H,hH⟩: ∃H,H=Hc c:=⟨_,rfl⟩
    rw[←hH]at k0 k1 r1 s0x s0l s1x s1l hbox hax hac hbox' hax' hac' hn' hnr lb lq1⊢
    rw[floop_at i_zz41_B4.eq_1]
    clear mv m' E E2 C C2 S S2 hapart ih hbx hM hcw hcu hH e0 e1 p2 p3
    simp (disch:=first|assumption|omega|(simp[*]<;>omega)|fail) [-getElem?_pos,gz_,gs_,hv,hw,hw2,s0x,s0l,s1x,s1l,hbox,hax,hac,hbox',hax',hac',k0,k1,sp0,sp1,hil0,hil1,hil2,hil3,r1,w1,hn',hnr,lb,lq1,p1]
  ·refine⟨fun hbad=>absurd hbad.1 hcw,fun _=> ?_⟩
   generalize(c 0).getD v 0=x at *
   generalize(c 1).getD w 0=y at *
   obtain⟨H,hH⟩: ∃H,H=Hc c:=⟨_,rfl⟩
   rw[←hH]at s0x s0l s1x s1l hbox hax hac hnr lb lq1⊢
   rw[floop_at i_zz41_B4.eq_1]
   clear mv E E2 C S hapart ih hbx hcu hH
   simp (disch:=first|assumption|omega|(simp[*]<;>omega)|fail) [-getElem?_pos,gz_,gs_,hw,hw2,s0x,s0l,s1x,s1l,hbox,hax,hac,hcw,w1,hnr,lb,lq1]
 ·rw[floop_at i_zz41_B4.eq_1]
  clear mv E E2 C S hapart ih hbx hcu
  simp (disch:=first|assumption|omega|(simp[*]<;>omega)|fail) [-getElem?_pos,gz_,gs_,lb,lq1]
end
end

/- Renumberings that are looked for: the whole search. -/
section
open Go
open Classical
variable {nro:Nat}
theorem range_perm {p:Nat→Nat} {n:Nat} (hl: ∀v,v<n→p v<n) (hi: ∀v w,v<n→w<n→p v=p w→v=w):((List.range n).map p).Perm (List.range n):=by
 refine(List.perm_ext_iff_of_nodup ?_ List.nodup_range).mpr fun x=> ?_
 ·unfold List.Nodup
  rw[List.pairwise_map]
  refine List.nodup_range.imp_of_mem fun {a b} ha hb hab e=>hab (hi _ _ (List.mem_range.mp ha) (List.mem_range.mp hb) e)
 ·rw[List.mem_map,List.mem_range]
  constructor
  ·rintro⟨v,hv,rfl⟩
   exact hl v (List.mem_range.mp hv)
  ·intro hx
   obtain⟨v,hv,e⟩:=inj_sur n p hl hi x hx
   exact⟨v,List.mem_range.mpr hv,e⟩
theorem list_map {l:List Int} {n:Nat} (h:l.length=n):l=(List.range n).map fun v=>l.getD v 0:=by
 apply List.ext_getElem (by simp[h])
 intro i h1 h2
 simp[List.getD_eq_getElem?_getD,h1]
theorem iso_perm {rows:Nat→List Int} {n:Nat} {c:Nat→List Int} (C:CL 2 n c) {p:Nat→Nat} (I:Iso rows n c p):(c 0).Perm (c 1):=by
 have h0:=list_map (C.len 0 (by omega))
 have h1:=list_map (C.len 1 (by omega))
 have e:(List.range n).map (fun v=>(c 0).getD v 0)=((List.range n).map p).map fun v=>(c 1).getD v 0:=by
  rw[List.map_map]
  exact List.map_congr_left fun v hv=>I.col v (List.mem_range.mp hv)
 rw[h0,e,h1]
 have:=(range_perm I.lt I.inj).map (fun v=>(c 1).getD v 0)
 rw[←h1]
 rw[←h1]at this
 exact this
theorem branch_back {rows:Nat→List Int} {n:Nat} {c:Nat→List Int} (C:CL 2 n c) (hn:1≤n) {v w:Nat} (hv:v<n) (hw:w<n) (hc:(c 1).getD w 0=(c 0).getD v 0) {p:Nat→Nat} (I:Iso rows n (apartC c (manyN 2 c) v w) p):Iso rows n c p:=by
 have l0:=C.len 0 (by omega)
 have l1:=C.len 1 (by omega)
 have col: ∀u,u<n→(if u=v then(manyN 2 c:Int)else(c 0).getD u 0)=if p u=w then(manyN 2 c:Int)else(c 1).getD (p u) 0:=fun u hu=>by
  have:=I.col u hu
  rwa [apartC_0,apartC_1,set_getD (by omega),set_getD (by omega)]at this
 have hpv:p v=w:=by
  have h1:=col v hv
  rw[if_pos rfl]at h1
  by_cases e:p v=w
  ·exact e
  ·rw[if_neg e]at h1
   have:=C.lt hn 1 (by omega) _ (C.getD (show 1<2 by omega) (I.lt v hv))
   omega
 refine⟨I.lt,I.inj,I.adj,fun u hu=> ?_⟩
 by_cases e:u=v
 ·subst e;rw[hpv,hc]
 ·have h1:=col u hu
  rw[if_neg e,if_neg fun h=>e (I.inj u v hu hv (h.trans hpv.symm))]at h1
  exact h1
set_option maxHeartbeats 4000000 in
theorem map_core {n k:Nat} {rows:Nat→List Int} (ih: ∀j,k=j+1→MapOK nro n rows j):MapOK nro n rows k:=by
 intro a bg bc q rs gcs Hc E c C S hk
 have hn1:=E.n1
 have h62:n≤62:=(E.rok 0 (by omega)).le
 have E1:=E.app [⟨0,[.pointer (some ⟨a,0,some 2⟩)]⟩]
 have hnr:=E.nr c
 have hlen: ∀d,(Hc d).length=(Hc c).length:=fun d=>E.len d c
 have hbx: ∀d,(Hc d++ [(⟨0,[.pointer (some ⟨a,0,some 2⟩)]⟩:VO)])[(Hc c).length]? =some ⟨0,[.pointer (some ⟨a,0,some 2⟩)]⟩:=fun d=>by rw[←hlen d];simp
 obtain⟨c',f1,f2,f3⟩:=c_zz45 E1 c C S
 obtain⟨_,S',hmm⟩:=chn_CL hn1 f2
 have f4:=c_zz47 E1 c' f3 h62
 have f5:=c_zz55 E c' f3 [⟨0,[.pointer (some ⟨a,0,some 2⟩)]⟩]
 have mv:=E1.mv hbx c' f3
 have hup: ∀(L:VH),kclean (Hc c) [.slice none 0 0] (Hc c' ++L)=([.slice none 0 0],Hc c'):=fun L=>cleanup_upd (E.upd c c') (by intro w hw;simp at hw;subst hw;intro r hr;simp[trefs,vrefs,crefs,arefs]at hr)
 have hupP: ∀(L:VH) (e:Nat) (p:List Int),L[e]? =some ⟨1,ints p⟩→kclean (Hc c) [.slice (some ⟨(Hc c).length+e,0,none⟩) n n] (Hc c' ++L)=([.slice (some ⟨(Hc c).length,0,none⟩) n n],Hc c' ++ [⟨1,ints p⟩]):=fun L e p hL=>by
  rw[cleanup_one_upd (E.upd c c') (k:=e) (by simp[trefs,vrefs,crefs,arefs]) hL (flatO_ints _ _ _)]
  simp[tren,vren,cren,aren,renOf_one]
 have lb:=(List.getElem?_eq_some_iff.mp mv.box).1
 have lax:=E.lax c
 have hax:=E.ax c
 by_cases hp:(c' 0).Perm (c' 1)
 ·rw [decide_eq_true hp] at f4
  have hmn:=perm_many hp f3 S'
  have hag:=fun L=>(mv.app L).ag
  have hax1:=fun L=>(mv.app L).ax
  have hac1:=fun L=>(mv.app L).ac
  have hbox1:=fun L=>(mv.app L).box
  have hs0:=fun L=>(mv.app L).s0.vlen
  have hs1:=fun L=>(mv.app L).s1.vlen
  have hR0:=fun L=>(mv.app L).t0.vlen
  have hrl:(rows 0).length=n:=(E.rok 0 (by omega)).len
  rw[hrl]at hR0
  rw[f3.len 0 (by omega)]at hs0
  rw[f3.len 1 (by omega)]at hs1
  by_cases he:manyN 2 c' =n
  ·obtain⟨p,p1,p2,p3⟩:=l_mapping_B1 (nro:=nro) mv
   have hidx: ∀v,v<n→0≤p.getD v 0∧p.getD v 0<n∧(c' 1).getD (p.getD v 0).toNat 0=(c' 0).getD v 0:=fun v hv=>by
    have hm:(c' 0).getD v 0∈c' 1:=hp.mem_iff.mp (f3.getD (by omega) hv)
    obtain⟨i0,i3⟩:=idxF_neg (c' 1) ((c' 0).getD v 0) _ 0 rfl
    have h0: ¬idxF (c' 1) ((c' 0).getD v 0) 0<0:=fun hneg=>by
     obtain⟨j,hj,hje⟩:=List.getElem_of_mem hm
     exact i0 hneg j (Nat.zero_le _) hj (by rw[getD_at _ hj];exact hje)
    obtain⟨i1,i2⟩:=i3 h0
    have:=f3.len 1 (by omega)
    rw[p2 v hv]
    exact⟨by omega,by omega,i2⟩
   obtain⟨w1,w2⟩:=leaf_iso (rows:=rows) hn1 ⟨_,f2⟩ hp f3 S' he (p:=fun v=>(p.getD v 0).toNat) (fun v hv=>by have:=hidx v hv;show(p.getD v 0).toNat<n;omega) (fun v hv=>(hidx v hv).2.2)
   have sp:=sli_at (h:=Hc c' ++ [⟨0,[.pointer (some ⟨a,0,some 2⟩)]⟩]++ [⟨1,ints p⟩]) (b:=(Hc c' ++ [(⟨0,[.pointer (some ⟨a,0,some 2⟩)]⟩:VO)]).length) (xs:=p) (by simp)
   have l3:=l_mapping_B3 (nro:=nro) (mv.app [⟨1,ints p⟩]) sp p1 (fun v hv=>⟨(hidx v hv).1,(hidx v hv).2.1⟩)
   have hiff:(∃v,0≤v∧v<n∧ ∃w,w<n∧rbit (rows 0) v w=true∧rbit (rows 1) (p.getD v 0).toNat (p.getD w 0).toNat=false)↔ ¬HasIso rows n c' :=by
    rw[w1]
    constructor
    ·rintro⟨v,_,hv,w,hw,h1,h2⟩ hall
     rw[hall v w hv hw h1]at h2
     cases h2
    ·intro hno
     apply Classical.byContradiction
     intro hno2
     refine hno fun v w hv hw h1=> ?_
     apply Classical.byContradiction
     intro h2
     exact hno2 ⟨v,Nat.zero_le _,hv,w,hw,h1,by simpa using h2⟩
   rw[hiff]at l3
   have e8:8 * (n:Int)≤140737488355328:=by omega
   have hn8:(n:Int)≤140737488355328:=by omega
   have hn' :=fun k=>Nat.le_trans hnr (Nat.le_add_right (Hc c).length k)
   rw[p1]at sp
   rw[he]at f5
   obtain⟨z0,hz0⟩: ∃z,z=List.replicate n (0:Int):=⟨_,rfl⟩
   rw[←hz0]at p3
   have hz1:List.replicate n (Value.int .i64 0)=ints z0:=by rw[hz0];unfold ints;rw[List.map_replicate]
   rcases l3 with⟨hno,L,l3⟩|⟨hyes,l3⟩
   ·refine⟨c',.slice none 0 0,[],?_,.inl ⟨rfl,rfl,fun h=>hno ((chn_has f2).mp h)⟩⟩
    refine v_zz41 (by simp[i_zz41]) ?_
    rw[fbody_eq]
    rw[p1]at l3
    rw[List.append_nil]
    have hYX:(Hc c').length=(Hc c).length:=hlen c'
    clear E E1 C S S' f2 f3 mv hp hidx w1 w2 sp hiff hno hupP hax hbx hlen ih hz0
    generalize Hc c' =Y at *
    generalize Hc c=X at *
    simp only[List.append_assoc,List.cons_append,List.nil_append]at f1 f4 f5 p3 l3 hag hax1 hac1 hbox1 hs0 hR0
    simp only[List.length_append,List.length_cons,List.length_nil]at p3 l3
    rw[hYX]at p3 l3
    simp (disch:=first|assumption|omega|(simp[*]<;>omega)|fail) [-getElem?_pos,gz_,gs_,i_zz41,f1,f4,f5,p3,l3,hup,hs0,hR0,hag,hax1,hac1,hbox1,hnr,hn',lb,lax,hz1,e8,hn8,hYX,p1,fresults,fresL,fres1]
   ·have hfin:=hupP [⟨0,[.pointer (some ⟨a,0,some 2⟩)]⟩,⟨1,ints p⟩] 1 p rfl
    refine⟨c',.slice (some ⟨(Hc c).length,0,none⟩) n n,[⟨1,ints p⟩],?_,.inr ⟨p,rfl,rfl,p1,fun v hv=>⟨(hidx v hv).1,(hidx v hv).2.1⟩,(chn_iso f2 _).mpr (w2 (w1.mp (Classical.byContradiction fun h=>hyes h)))⟩⟩
    refine v_zz41 (by simp[i_zz41]) ?_
    rw[fbody_eq]
    rw[p1]at l3
    have hYX:(Hc c').length=(Hc c).length:=hlen c'
    clear E E1 C S S' f2 f3 mv hp hidx w1 w2 sp hiff hyes hupP hax hbx hlen ih hz0
    generalize Hc c' =Y at *
    generalize Hc c=X at *
    simp only[List.append_assoc,List.cons_append,List.nil_append]at f1 f4 f5 p3 l3 hag hax1 hac1 hbox1 hs0 hR0
    simp only[List.length_append,List.length_cons,List.length_nil]at p3 l3
    rw[hYX]at p3 l3
    simp (disch:=first|assumption|omega|(simp[*]<;>omega)|fail) [-getElem?_pos,gz_,gs_,i_zz41,f1,f4,f5,p3,l3,hfin,hs0,hR0,hag,hax1,hac1,hbox1,hnr,hn',lb,lax,hz1,e8,hn8,hYX,p1,fresults,fresL,fres1]
  ·have hlt:manyN 2 c' <n:=by omega
   obtain⟨j,rfl⟩: ∃j,k=j+1:=⟨k - 1,by omega⟩
   have ihj:MapOK nro n rows j:=ih j rfl
   obtain⟨x1,f6,f7⟩:=c_slices_IndexFunc (nro:=nro) (.slice (some ⟨q 0,0,none⟩) n n) (.func (.func k_zz35) #[] #[.pointer (some ⟨(Hc c).length,0,some 1⟩)]) k_zz35 [.pointer (some ⟨(Hc c).length,0,some 1⟩)] (c' 0) (fun x=>idxF (c' 0) x 0≠lastX (c' 0) x (c' 0).length) _ mv.s0 (by rw[f3.len 0 (by omega)];omega) rfl (by
    have hl:=hlen c'
    intro r hr
    simp[trefs,vrefs,crefs,arefs]at hr
    subst hr
    simp
    omega) (fun x _=>(c_zz35 mv x).trans (by congr))
   have l0:=f3.len 0 (by omega)
   have hv: ∃v u,x1=((v:Nat):Int)∧v<n∧u<n∧u≠v∧(c' 0).getD u 0=(c' 0).getD v 0:=by
    rcases f7 with⟨_,h2⟩|⟨h1,h2,h3,_⟩
    ·obtain⟨v,u,hv,hu,huv,e⟩:=shared f3 hn1 hlt
     exact absurd (twice_iff.mpr ⟨u,v,by omega,by omega,huv,e,rfl⟩) (h2 v (by omega))
    ·obtain⟨v,rfl⟩: ∃v:Nat,x1=v:=⟨_,(Int.toNat_of_nonneg h1).symm⟩
     rw[Int.toNat_natCast]at h3
     obtain⟨u,w,hu,hw,huw,e1,e2⟩:=twice_iff.mp h3
     by_cases c1:u=v
     ·exact⟨v,w,rfl,by omega,by omega,fun e=>huw (c1.trans e.symm),e2⟩
     ·exact⟨v,u,rfl,by omega,by omega,c1,e1⟩
   obtain⟨v,u,rfl,hv,hu,huv,hcu⟩:=hv
   have l4:=l_mapping_B4 (nro:=nro) E1 hbx ihj c' f3 S' hlt (by omega) hv hu huv hcu
   have hne: ¬(manyN 2 c' :Int)=n:=by omega
   have lq1:=E.lq c' (i:=1) (by omega)
   have lq0:=E.lq c' (i:=0) (by omega)
   have hn' :=fun k=>Nat.le_trans hnr (Nat.le_add_right (Hc c).length k)
   have hfn:Old ((Hc c).length+1) (.func (.func k_zz35) #[] #[.pointer (some ⟨(Hc c).length,0,some 1⟩)]):=by
    intro r hr
    simp[trefs,vrefs,crefs,arefs]at hr
    omega
   rcases l4 with⟨_,L,p,e,l4,hL,p1,p2,w,hcw,hw,I⟩|⟨hno,l4⟩
   ·have hfin:=hupP (⟨0,[.pointer (some ⟨a,0,some 2⟩)]⟩::L) (1+e) p (by rw[Nat.add_comm,List.getElem?_cons_succ];exact hL)
    rw[←Nat.add_assoc]at hfin
    refine⟨c',.slice (some ⟨(Hc c).length,0,none⟩) n n,[⟨1,ints p⟩],?_,.inr ⟨p,rfl,rfl,p1,p2,(chn_iso f2 _).mpr (branch_back f3 hn1 hv hw hcw I)⟩⟩
    refine v_zz41 (by simp[i_zz41]) ?_
    rw[fbody_eq]
    have hYX:(Hc c').length=(Hc c).length:=hlen c'
    clear E E1 C S S' f2 f3 mv hp hupP hax hbx hlen ih ihj f7 I hcw hcu hL p1 p2
    generalize Hc c' =Y at *
    generalize Hc c=X at *
    simp only[List.append_assoc,List.cons_append,List.nil_append]at f1 f4 f5 f6 l4 hag hax1 hac1 hbox1 hs0 hs1 hR0
    simp only[List.length_append,List.length_cons,List.length_nil]at l4
    rw[hYX]at l4
    simp (disch:=first|assumption|omega|(simp[*]<;>omega)|fail) [-getElem?_pos,gz_,gs_,i_zz41,f1,f4,f5,f6,l4,hfin,hs0,hs1,hR0,hag,hax1,hac1,hbox1,hnr,hn',lb,lax,hne,hYX,lq0,lq1,hfn,isAtom,fresults,fresL,fres1]
   ·refine⟨c',.slice none 0 0,[],?_,.inl ⟨rfl,rfl,fun h=>hno (((branch_iso f3 hn1 hv).mp ((chn_has f2).mp h)).elim fun w h=>⟨w,Nat.zero_le _,h⟩)⟩⟩
    refine v_zz41 (by simp[i_zz41]) ?_
    rw[fbody_eq,List.append_nil]
    have hYX:(Hc c').length=(Hc c).length:=hlen c'
    clear E E1 C S S' f2 f3 mv hp hupP hax hbx hlen ih ihj f7 hcu hno
    generalize Hc c' =Y at *
    generalize Hc c=X at *
    simp only[List.append_assoc,List.cons_append,List.nil_append]at f1 f4 f5 f6 l4 hag hax1 hac1 hbox1 hs0 hs1 hR0
    simp (disch:=first|assumption|omega|(simp[*]<;>omega)|fail) [-getElem?_pos,gz_,gs_,i_zz41,f1,f4,f5,f6,l4,hup,hs0,hs1,hR0,hag,hax1,hac1,hbox1,hnr,hn',lb,lax,hne,hYX,lq0,lq1,hfn,isAtom,fresults,fresL,fres1]
 ·refine⟨c',.slice none 0 0,[],?_,.inl ⟨rfl,rfl,fun h=>hp (((chn_has f2).mp h).elim fun p I=>iso_perm f3 I)⟩⟩
  rw[decide_eq_false hp]at f4
  refine v_zz41 (by simp[i_zz41]) ?_
  rw[fbody_eq,List.append_nil]
  have hYX:(Hc c').length=(Hc c).length:=hlen c'
  have hbox1:=fun L=>(mv.app L).box
  have hn' :=fun k=>Nat.le_trans hnr (Nat.le_add_right (Hc c).length k)
  clear E E1 C S S' f2 f3 mv hp hupP hax hbx hlen ih
  generalize Hc c' =Y at *
  generalize Hc c=X at *
  simp only[List.append_assoc,List.cons_append,List.nil_append]at f1 f4 f5 hbox1
  simp (disch:=first|assumption|omega|(simp[*]<;>omega)|fail) [-getElem?_pos,gz_,gs_,i_zz41,f1,f4,f5,hup,hbox1,hnr,hn',lb,lax,hYX,fresults,fresL,fres1]
theorem map_ok {n:Nat} {rows:Nat→List Int}: ∀k,MapOK nro n rows k
 | 0 => map_core fun j h => by omega
 | k + 1 => map_core fun j h => by
  have:j=k:=by omega
  subst this
  intro a bg bc q rs gcs Hc E c C S hk
  exact map_ok j E c C S hk
end

/- Pairs of vertices that are in range. -/
section
open Go
variable {nro:Nat}
open Classical in
theorem l_zz62 (n:Int) (s t:Value) (xs:List Int) (h:VH) (ht:Sli h t xs) (hsc: ∀k,OldC (h.length+k) s) (hl:xs.length≤9223372036854775806) (h1:1≤n) (h2:n≤62):
  floop (vcall F nro) nro [1,2,5] i_zz62_B1 (bx h n s) [t,bp h,.int .i64 0] (bx h n s)=
   if badV n xs then some (.ret,fl [(4,.int .i64 2)],bx h n s)else some (.exit 0,fl [],bx h n s):=by
 have hto:=fun k=>ht.oldk (k:=k)
 refine search (fun i=>floop (vcall F nro) nro [1,2,5] i_zz62_B1 (bx h n s) [t,bp h,.int .i64 i] (bx h n s)) (fun i=> ¬(0≤xs.getD i.toNat 0∧xs.getD i.toNat 0<n)) _ _ xs.length 0 ?_ ?_ 0 (by omega)
 ·intro i hi hlt
  have e1:xs.getD i.toNat 0=xs[i.toNat]'(by omega):=getD_at _ (by omega)
  have hc:=fun L (x a b:Int)=>c_zz103 (nro:=nro) x a b (h++L)
  have e2:xs[i.toNat]'(by omega)≤n - 1↔xs[i.toNat]'(by omega)<n:=by omega
  rw[floop_at i_zz62_B1.eq_1,e1]
  constructor<;>intro hb
  ·by_cases h0:0≤xs[i.toNat]'(by omega)
   ·have h3: ¬xs[i.toNat]'(by omega)<n:=fun h3=>hb ⟨h0,h3⟩
    simp (disch:=first|assumption|omega|(simp[*]<;>omega)|fail) [ht.vlen',ht.vidx',ht.vload',wrap64,hlt,h0,h3,hc,e2]
   ·simp (disch:=first|assumption|omega|(simp[*]<;>omega)|fail) [ht.vlen',ht.vidx',ht.vload',wrap64,hlt,h0,hc,e2]
  ·obtain⟨h0,h3⟩:=Classical.not_not.mp hb
   simp (disch:=first|assumption|omega|(simp[*]<;>omega)|fail) [ht.vlen',ht.vidx',ht.vload',wrap64,hlt,h0,h3,hc,e2]
 ·intro i hi hlt
  rw[floop_at i_zz62_B1.eq_1]
  simp (disch:=first|assumption|omega|(simp[*]<;>omega)|fail) [ht.vlen',hlt]
theorem c_zz62 (n:Int) (s t:Value) (rows xs:List Int) (h:VH) (hs:Sli h s rows) (ht:Sli h t xs) (hl:xs.length≤9223372036854775806):
  vcall F nro k_zz62 [gv n s,t] h=some (.int .i64 (vtxCode n rows xs),h):=by
 refine v_zz62 (by simp[i_zz62]) ?_
 rw[fbody_eq]
 have hc:=c_zz104 (nro:=nro) n s rows (bx h n s) (hs.app _)
 unfold vtxCode
 by_cases g:GV n rows
 ·have hl:=l_zz62 (nro:=nro) n s t xs h ht (fun k=>hs.oldCk (k:=k)) hl g.lo g.hi
  by_cases b:badV n xs
  ·rw[if_pos b]at hl
   simp (disch:=first|assumption|omega|(simp[*]<;>omega)|fail) [i_zz62,hc,g,hl,b]
  ·rw[if_neg b]at hl
   simp (disch:=first|assumption|omega|(simp[*]<;>omega)|fail) [i_zz62,hc,g,hl,b]
 ·simp (disch:=first|assumption|omega|(simp[*]<;>omega)|fail) [i_zz62,hc,g]
open Classical in
noncomputable def pairC (n:Int) (rows:List Int) (a b:Int):Int:=if GV n rows then if(0≤a∧a<n)∧(0≤b∧b<n)∧a≠b then 0 else 2 else 1
theorem badV2 (n a b:Int):badV n [a,b]↔ ¬((0≤a∧a<n)∧(0≤b∧b<n)):=by
 constructor
 ·rintro⟨j,h1,h2,h3⟩ ⟨h4,h5⟩
  simp at h2
  have:j=0∨j=1:=by omega
  rcases this with rfl|rfl
  ·exact h3 (by simpa using h4)
  ·exact h3 (by simpa using h5)
 ·intro h
  by_cases h1:0≤a∧a<n
  ·exact⟨1,by omega,by simp,fun h2=>h ⟨h1,by simpa using h2⟩⟩
  ·exact⟨0,by omega,by simp,fun h2=>h1 (by simpa using h2)⟩
theorem pairC_vtx (n:Int) (rows:List Int) (a b:Int):pairC n rows a b=if vtxCode n rows [a,b]=0∧a=b then 2 else vtxCode n rows [a,b]:=by
 unfold pairC vtxCode
 by_cases g:GV n rows
 ·by_cases hb:badV n [a,b]
  ·have:=(badV2 n a b).mp hb
   simp only[g,hb,if_true]
   rw[if_neg (fun h=>this ⟨h.1,h.2.1⟩)]
   simp
  ·have:=Classical.not_not.mp (mt (badV2 n a b).mpr hb)
   simp only[g,hb,if_true,if_false]
   by_cases e:a=b
   ·simp[e]
   ·simp[e,this]
 ·simp[g]
theorem c_zz99 (n a b:Int) (s:Value) (rows:List Int) (h:VH) (hs:Sli h s rows) (hn:nro≤h.length):
  vcall F nro k_zz99 [gv n s,.int .i64 a,.int .i64 b] h=some (.int .i64 (pairC n rows a b),h):=by
 refine v_zz99 (by simp[i_zz99]) ?_
 rw[fbody_eq,pairC_vtx]
 have hc:=c_zz62 (nro:=nro) n s (.slice (some ⟨h.length+1,0,none⟩) 2 2) rows [a,b] (h++ [⟨0,[.int .i64 n,s]⟩,⟨1,ints [a,b]⟩]) (hs.app _) (sli_at (xs:= [a,b]) (by simp)) (by simp)
 simp only[ints_cons,ints_nil]at hc
 by_cases hz:vtxCode n rows [a,b]=0
 ·by_cases e:a=b
  ·subst e
   simp (disch:=first|assumption|omega|(simp[*]<;>omega)|fail) [i_zz99,hc,hz,hn]
  ·simp (disch:=first|assumption|omega|(simp[*]<;>omega)|fail) [i_zz99,hc,hz,e,hn]
 ·simp (disch:=first|assumption|omega|(simp[*]<;>omega)|fail) [i_zz99,hc,hz,hn]
theorem c_zz80 (n a b:Int) (s:Value) (rows:List Int) (h:VH) (hs:Sli h s rows) (hn:nro≤h.length):
  vcall F nro k_zz80 [gv n s,.int .i64 a,.int .i64 b] h=some (.int .i64 (pairC n rows a b),h):=by
 refine v_zz80 (by simp[i_zz80]) ?_
 rw[fbody_eq,pairC_vtx]
 have hc:=c_zz75 (nro:=nro) n s (.slice (some ⟨h.length+1,0,none⟩) 2 2) rows [a,b] (h++ [⟨0,[.int .i64 n,s]⟩,⟨1,ints [a,b]⟩]) (hs.app _) (sli_at (xs:= [a,b]) (by simp)) (by simp)
 simp only[ints_cons,ints_nil]at hc
 by_cases hz:vtxCode n rows [a,b]=0
 ·by_cases e:a=b
  ·subst e
   simp (disch:=first|assumption|omega|(simp[*]<;>omega)|fail) [i_zz80,hc,hz,hn]
  ·simp (disch:=first|assumption|omega|(simp[*]<;>omega)|fail) [i_zz80,hc,hz,e,hn]
 ·simp (disch:=first|assumption|omega|(simp[*]<;>omega)|fail) [i_zz80,hc,hz,hn]
end

/- Walks are counted step by step; ShortestThrough. -/
section
open Go
variable {nro:Nat}
theorem clean_mid {h L:VH} {A B:List Value} {k off n t:Nat} {o:VO} (hA: ∀v∈A,Old h.length v) (hB: ∀v∈B,Old h.length v) (hk:L[k]? =some o) (hf:flatO h.length o):
  kclean h (A++ .slice (some ⟨h.length+k,off,none⟩) n t::B) (h++L)=(A++ .slice (some ⟨h.length,off,none⟩) n t::B,h++ [o]):=by
 have fil: ∀(C:List Value),(∀v∈C,Old h.length v)→(C.flatMap trefs).filter (fun i=>decide (h.length≤i))= []:=fun C hC=>by
  rw[List.filter_eq_nil_iff]
  intro r hr
  have:=(old_all h.length C).mpr hC r hr
  simp;omega
 have e:keepL h.length (A++ .slice (some ⟨h.length+k,off,none⟩) n t::B)= [h.length+k]:=by
  unfold keepL
  rw[List.flatMap_append,List.filter_append,fil A hA,List.nil_append,List.flatMap_cons,List.filter_append,fil B hB]
  simp[trefs,vrefs,crefs,arefs,dedup]
 have hg:(h++L)[h.length+k]? =some o:=by rw[hgetk];exact hk
 rw[cleanup_keep e fun i hi=>⟨o,by rw[List.mem_singleton]at hi;rw[hi];exact hg,hf⟩]
 have keep: ∀(C:List Value),(∀v∈C,Old h.length v)→C.map (tren (renOf h.length [h.length+k]))=C:=fun C hC=>by
  have: ∀v∈C,tren (renOf h.length [h.length+k]) v=v:=fun v hv=>tren_old (hC v hv) fun i hi=>by simp only[renOf,if_pos hi]
  exact(List.map_congr_left this).trans (by simp)
 rw[List.map_append,List.map_cons,keep A hA,keep B hB]
 simp[hg,tren,vren,cren,aren,renOf_one]
def addW (c:Int) (l:List Int) (g:Nat→Int):Nat→Int:=l.foldl (fun g u=>upd g u.toNat (IntKind.i64.wrap (g u.toNat+c))) g
theorem addW_at (c:Int): ∀(l:List Int) (g:Nat→Int) (u:Nat),l.Nodup→(∀x∈l,0≤x)→addW c l g u=if(u:Int)∈l then IntKind.i64.wrap (g u+c)else g u
 | [], g, u, _, _ => by simp [addW]
 | x :: l, g, u, hn, h0 => by
  obtain⟨h1,h2⟩:=List.nodup_cons.mp hn
  have hx:=h0 x (List.mem_cons_self ..)
  have ih:=addW_at c l (upd g x.toNat (IntKind.i64.wrap (g x.toNat+c))) u h2 (fun y hy=>h0 y (List.mem_cons_of_mem _ hy))
  have e:addW c (x::l) g=addW c l (upd g x.toNat (IntKind.i64.wrap (g x.toNat+c))):=rfl
  rw[e,ih]
  by_cases c1:(u:Int)=x
  ·have:u=x.toNat:=by omega
   subst this
   rw[if_neg (by rw[c1];exact h1),upd_same,if_pos (by rw[c1];exact List.mem_cons_self ..)]
  ·have:u≠x.toNat:=by omega
   rw[upd_ne this]
   have e2:(u:Int)∈x::l↔(u:Int)∈l:=by simp[c1]
   simp only[e2]
theorem bitF_nodup (x n w : Nat) : (bitF x n w).Nodup ∧ ∀ y ∈ bitF x n w, (w : Int) ≤ y := by
  by_cases h:w<n
  · rw [bitF_step h]
    obtain⟨h1,h2⟩:=bitF_nodup x n (w+1)
    split
    · refine ⟨?_, fun y hy => ?_⟩
      · rw [List.cons_append, List.nil_append]
        refine List.nodup_cons.mpr ⟨fun hm=> ?_,h1⟩
        have:=h2 _ hm
        omega
      · rw [List.cons_append, List.nil_append] at hy
        rcases List.mem_cons.mp hy with rfl|hy
        · omega
        · have:=h2 y hy;omega
    · refine ⟨by simpa using h1, fun y hy => ?_⟩
      have:=h2 y (by simpa using hy);omega
  · rw[bitF_end h];exact⟨List.nodup_nil,fun y hy=>by cases hy⟩
 termination_by n - w
theorem nbL_nodup (rows:List Int) (v:Nat):(nbL rows v).Nodup:=(bitF_nodup _ 62 0).1
def stepW (rows:List Int) (n:Nat) (f:Nat→Int):Nat→Int:=upF (fun w g=>addW (f w) (nbL rows w) g) n 0 (fun _=>0)
def walkW (rows:List Int) (n v:Nat):Nat→Nat→Int
 | 0 => upd (fun _ => 0) v 1
 | k + 1 => stepW rows n (walkW rows n v k)
theorem stepW_at {n:Nat} {rows:List Int} (R:Rok n rows) (f e:Nat→Int) (hf: ∀w,w<n→f w=IntKind.i64.wrap (e w)) (u:Nat) (hu:u<n):stepW rows n f u=IntKind.i64.wrap (sumF (fun w=>if rbit rows w u=true then e w else 0) n):=by
 have hle:=R.le
 exact upF_inv (f:=fun w g=>addW (f w) (nbL rows w) g) (n:=n) (fun i g=> ∀u,u<n→g u=IntKind.i64.wrap (sumF (fun w=>if rbit rows w u=true then e w else 0) i)) (fun i g hi hI u hu=>by
  rw[addW_at _ _ _ _ (nbL_nodup rows i) (fun x hx=>((nbL_mem rows i x).mp hx).1),sumF]
  by_cases c:rbit rows i u=true
  ·rw[if_pos ((nbL_mem rows i u).mpr ⟨by omega,by omega,by rw[Int.toNat_natCast];exact c⟩),if_pos c,hI u hu,hf i hi,w_add]
  ·rw[if_neg (fun h=>c (by have:=((nbL_mem rows i u).mp h).2.2;rwa [Int.toNat_natCast]at this)),if_neg c,Int.add_zero]
   exact hI u hu) 0 (fun _=>0) (Nat.zero_le _) (fun u _=>w_zero.symm) u hu
theorem walkW_at {n:Nat} {rows:List Int} (R:Rok n rows) {v:Nat}: ∀(k u:Nat),u<n→walkW rows n v k u=IntKind.i64.wrap (wkN rows n v k u)
 | 0, u, _ => by
  simp only[walkW,wkN,upd]
  split
  ·exact w_one.symm
  ·exact w_zero.symm
 | k + 1, u, hu => by
  rw[walkW,wkN]
  exact stepW_at R _ _ (fun w hw=>walkW_at R k w hw) u hu
theorem l_zz61_1 (P:VH) (bi pn n:Nat) (k i:Int) (f:Nat→Int) (L:List Int) (w:Nat) (hw:w<n) (hL:L.length≤62) (hLn: ∀y∈L,0≤y∧y<n) (hp:P[pn]? =some ⟨1,ints (tbl n f)⟩) (hpl: ∀k,pn<P.length+k) (hbi: ∀k,bi<P.length+k) (hn:nro≤P.length) (g0:Nat→Int):
  floop (vcall F nro) nro [3,7,8,9,18,19,25,26,34,35,36] i_zz61_B1 (P++ [⟨1,ints (tbl n g0)⟩,⟨1,ints L⟩]) [.pointer (some ⟨bi,0,some 2⟩),.slice (some ⟨pn,0,none⟩) n n,.slice (some ⟨P.length,0,none⟩) n n,.int .i64 w,.int .i64 k,.int .i64 i,.int .i64 n,.int .i64 w,.slice (some ⟨P.length+1,0,none⟩) L.length L.length,.int .i64 L.length,.int .i64 0] (P++ [⟨1,ints (tbl n g0)⟩,⟨1,ints L⟩])=
   some (.exit 4,fl [(3,.pointer (some ⟨bi,0,some 2⟩)),(7,.slice (some ⟨pn,0,none⟩) n n),(8,.slice (some ⟨P.length,0,none⟩) n n),(18,.int .i64 k),(19,.int .i64 i),(25,.int .i64 n),(26,.int .i64 w)],P++ [⟨1,ints (tbl n (addW (f w) L g0))⟩,⟨1,ints L⟩]):=by
 have hn' :=fun k=>Nat.le_trans hn (Nat.le_add_right P.length k)
 have tw:=tbl_take1 (g:=f) hw
 have hw2:(w:Int)<n:=by omega
 have key:=for_up (call:=vcall F nro) (nro:=nro) (live:= [3,7,8,9,18,19,25,26,34,35,36]) (c:=i_zz61_B1) (h0:=P++ [⟨1,ints (tbl n g0)⟩,⟨1,ints L⟩]) (n:=L.length) (fun j (_:Nat→Int)=> [.pointer (some ⟨bi,0,some 2⟩),.slice (some ⟨pn,0,none⟩) n n,.slice (some ⟨P.length,0,none⟩) n n,.int .i64 w,.int .i64 k,.int .i64 i,.int .i64 n,.int .i64 w,.slice (some ⟨P.length+1,0,none⟩) L.length L.length,.int .i64 L.length,.int .i64 j]) (fun _ g=>P++ [⟨1,ints (tbl n g)⟩,⟨1,ints L⟩])
  (fun j g=>upd g (L.getD j 0).toNat (IntKind.i64.wrap (g (L.getD j 0).toNat+f w))) (fun j g=>addW (f w) (L.drop j) g=addW (f w) L g0)
  (fun g=>some (.exit 4,fl [(3,.pointer (some ⟨bi,0,some 2⟩)),(7,.slice (some ⟨pn,0,none⟩) n n),(8,.slice (some ⟨P.length,0,none⟩) n n),(18,.int .i64 k),(19,.int .i64 i),(25,.int .i64 n),(26,.int .i64 w)],P++ [⟨1,ints (tbl n g)⟩,⟨1,ints L⟩])) ?_ ?_ 0 g0 (Nat.zero_le _) rfl
 ·have e:=key.2
  rw[List.drop_length]at e
  exact key.1.trans (by rw[←e];rfl)
 ·intro j g hj hj2 hI
  have hjl:L.getD j 0=L[j]:=getD_at L hj
  obtain⟨y0,y1⟩:=hLn L[j] (List.getElem_mem hj)
  obtain⟨y,hy⟩: ∃y:Nat,L[j]=y:=⟨L[j].toNat,by omega⟩
  rw[hjl,hy,Int.toNat_natCast]
  refine⟨?_,?_⟩
  ·rw[←hI,List.drop_eq_getElem_cons hj,hy]
   rfl
  have t0:=take1_ints hj
  rw[hy]at t0 y1
  have hyn:y<n:=by omega
  have t1:=tbl_take1 (g:=g) hyn
  obtain⟨q,hq⟩: ∃q,q=IntKind.i64.wrap (g y+f w):=⟨_,rfl⟩
  have hq2:=hq.symm
  rw[hq2]
  have t3:=tbl_splice (g:=g) (x:=q) hyn
  clear hI hjl hy hq y0
  rw[floop_at i_zz61_B1.eq_1]
  simp (disch:=first|assumption|omega|(simp[*]<;>omega)|fail) [-getElem?_pos,gz_,gs_,hj,hj2,hget_old hp,hp,t0,hyn,y1,t1,t3,hq2,hw,hw2,tw,hn,hn',hpl,hbi,wrap64]
 ·intro g _
  rw[floop_at i_zz61_B1.eq_1]
  simp (disch:=first|assumption|omega|(simp[*]<;>omega)|fail) [-getElem?_pos,gz_,gs_,]
theorem l_zz61_2 (P:VH) (bi pn n:Nat) (k i:Int) (s:Value) (rows:List Int) (R:Rok n rows) (hs:Sli P s rows) (f:Nat→Int) (hb:P[bi]? =some ⟨0,[.int .i64 n,s]⟩) (hp:P[pn]? =some ⟨1,ints (tbl n f)⟩) (hn:nro≤P.length):
  floop (vcall F nro) nro [3,7,8,18,19,25,26] i_zz61_B2 (P++ [⟨1,ints (tbl n fun _=>0)⟩]) [.pointer (some ⟨bi,0,some 2⟩),.slice (some ⟨pn,0,none⟩) n n,.slice (some ⟨P.length,0,none⟩) n n,.int .i64 k,.int .i64 i,.int .i64 n,.int .i64 0] (P++ [⟨1,ints (tbl n fun _=>0)⟩])=
   some (.exit 2,fl [(3,.pointer (some ⟨bi,0,some 2⟩)),(8,.slice (some ⟨P.length,0,none⟩) n n),(18,.int .i64 k),(19,.int .i64 i)],P++ [⟨1,ints (tbl n (stepW rows n f))⟩]):=by
 have hn' :=fun k=>Nat.le_trans hn (Nat.le_add_right P.length k)
 have hpl: ∀k,pn<P.length+k:=fun k=>Nat.lt_of_lt_of_le (List.getElem?_eq_some_iff.mp hp).1 (Nat.le_add_right _ _)
 have hbi: ∀k,bi<P.length+k:=fun k=>Nat.lt_of_lt_of_le (List.getElem?_eq_some_iff.mp hb).1 (Nat.le_add_right _ _)
 have hlen:=R.len
 have hle:=R.le
 refine(for_up (call:=vcall F nro) (nro:=nro) (live:= [3,7,8,18,19,25,26]) (c:=i_zz61_B2) (h0:=P++ [⟨1,ints (tbl n fun _=>0)⟩]) (n:=n) (fun w (_:Nat→Int)=> [.pointer (some ⟨bi,0,some 2⟩),.slice (some ⟨pn,0,none⟩) n n,.slice (some ⟨P.length,0,none⟩) n n,.int .i64 k,.int .i64 i,.int .i64 n,.int .i64 w]) (fun _ g=>P++ [⟨1,ints (tbl n g)⟩])
  (fun w g=>addW (f w) (nbL rows w) g) (fun _ _=>True)
  (fun g=>some (.exit 2,fl [(3,.pointer (some ⟨bi,0,some 2⟩)),(8,.slice (some ⟨P.length,0,none⟩) n n),(18,.int .i64 k),(19,.int .i64 i)],P++ [⟨1,ints (tbl n g)⟩])) ?_ ?_ 0 (fun _=>0) (Nat.zero_le _) trivial).1
 ·intro w g hw hw2 _
  refine⟨trivial,?_⟩
  have hwl:w<rows.length:=by omega
  have hc:=c_impl_listRow (nro:=nro) n w rows R hw (P++ [⟨1,ints (tbl n g)⟩]) (by simp;omega)
  have vx:=fun L=>(hs.app L).vidx (k:= .i64) (j:=(w:Int)) (by omega) (by omega)
  have vl:=fun L=>(hs.app L).vload hwl
  have hlL:(nbL rows w).length≤62:=bitL_len _
  have l1:=l_zz61_1 (nro:=nro) P bi pn n k i f (nbL rows w) w hw hlL (fun y hy=>by
   obtain⟨h1,h2,h3⟩:=(nbL_mem rows w y).mp hy
   have:=(rbit_lt R h3).2
   omega) hp hpl hbi hn g
  obtain⟨L,hL⟩: ∃L,L=nbL rows w:=⟨_,rfl⟩
  rw[←hL]at hc l1 hlL⊢
  obtain⟨q,hq⟩: ∃q,q=addW (f w) L g:=⟨_,rfl⟩
  rw[←hq]at l1⊢
  simp at hc
  rw[floop_at i_zz61_B2.eq_1]
  clear hq hL
  simp (disch:=first|assumption|omega|(simp[*]<;>omega)|fail) [-getElem?_pos,gz_,gs_,hw,hw2,hb,hget_old hb,vx,vl,hc,l1,hn,hn',hpl,hbi,wrap64]
 ·intro g _
  rw[floop_at i_zz61_B2.eq_1]
  simp (disch:=first|assumption|omega|(simp[*]<;>omega)|fail) [-getElem?_pos,gz_,gs_,]
theorem upF_walk (rows:List Int) (n v:Nat) (k i:Nat) (hi:i≤k):upF (fun _ f=>stepW rows n f) k i (walkW rows n v i)=walkW rows n v k:=by
  by_cases h:i<k
  · rw [upF_step h]
    exact upF_walk rows n v k (i+1) h
  · rw [upF_end h]
    have:i=k:=by omega
    rw[this]
 termination_by k - i
theorem l_zz61_3 (h:VH) (n v k:Nat) (s:Value) (rows:List Int) (R:Rok n rows) (hs:Sli h s rows) (hn:nro≤h.length) (f0:Nat→Int) (hk:k≤1000) (hk1:1≤k):
  floop (vcall F nro) nro [3,7,18,19] i_zz61_B3 (bx h n s++ [⟨1,ints (tbl n f0)⟩]) [bp h,.slice (some ⟨h.length+2,0,none⟩) n n,.int .i64 k,.int .i64 1] (bx h n s++ [⟨1,ints (tbl n f0)⟩,⟨1,ints (tbl n (walkW rows n v 1))⟩])=
   some (.exit 0,fl [(7,.slice (some ⟨h.length+2,0,none⟩) n n)],bx h n s++ [⟨1,ints (tbl n f0)⟩,⟨1,ints (tbl n (walkW rows n v k))⟩]):=by
 have hn' :=fun k=>Nat.le_trans hn (Nat.le_add_right h.length k)
 have hso:=fun k=>hs.oldCk (k:=k)
 have hle:=R.le
 have k2:8 * (n:Int)≤140737488355328:=by omega
 have k3:(n:Int)≤140737488355328:=by omega
 have key:=for_up (call:=vcall F nro) (nro:=nro) (live:= [3,7,18,19]) (c:=i_zz61_B3) (h0:=bx h n s++ [⟨1,ints (tbl n f0)⟩]) (n:=k) (fun i (_:Nat→Int)=> [bp h,.slice (some ⟨h.length+2,0,none⟩) n n,.int .i64 k,.int .i64 i]) (fun _ f=>bx h n s++ [⟨1,ints (tbl n f0)⟩,⟨1,ints (tbl n f)⟩])
  (fun _ f=>stepW rows n f) (fun _ _=>True)
  (fun f=>some (.exit 0,fl [(7,.slice (some ⟨h.length+2,0,none⟩) n n)],bx h n s++ [⟨1,ints (tbl n f0)⟩,⟨1,ints (tbl n f)⟩])) ?_ ?_ 1 (walkW rows n v 1) hk1 trivial
 ·rw[upF_walk rows n v k 1 hk1]at key
  exact key.1
 ·intro i f hi hi2 _
  refine⟨trivial,?_⟩
  have l2:=l_zz61_2 (nro:=nro) (bx h n s++ [⟨1,ints (tbl n f0)⟩,⟨1,ints (tbl n f)⟩]) h.length (h.length+2) n k i s rows R ((hs.app _).app _) f (by simp) (by simp) (by simp;omega)
  have hc:=clean_mid (h:=bx h n s++ [⟨1,ints (tbl n f0)⟩]) (L:= [⟨1,ints (tbl n f)⟩,⟨1,ints (tbl n (stepW rows n f))⟩]) (A:= [bp h]) (B:= [.int .i64 k,.int .i64 ((i:Int)+1)]) (k:=1) (off:=0) (n:=n) (t:=n) (o:=⟨1,ints (tbl n (stepW rows n f))⟩) (by intro v hv;simp at hv;subst hv;simp) (by intro v hv;simp at hv;rcases hv with rfl|rfl<;>simp) rfl (by simp)
  obtain⟨q,hq⟩: ∃q,q=stepW rows n f:=⟨_,rfl⟩
  rw[←hq]at l2 hc⊢
  have e0:ints (List.replicate n 0)=ints (tbl n fun _=>0):=by rw[tbl_const]
  simp at l2 hc
  rw[floop_at i_zz61_B3.eq_1]
  clear hq
  simp (disch:=first|assumption|omega|(simp[*]<;>omega)|fail) [hi,hi2,e0,l2,hc,hn',hso,wrap64,k2,k3]
 ·intro f _
  rw[floop_at i_zz61_B3.eq_1]
  simp (disch:=first|assumption|omega|(simp[*]<;>omega)|fail) []
theorem c_zz61 (n v k:Nat) (s:Value) (rows:List Int) (h:VH) (R:Rok n rows) (hs:Sli h s rows) (hv:v<n) (hk:k≤1000) (hn:nro≤h.length):
  vcall F nro k_zz61 [gv n s,.int .i64 v,.int .i64 k] h=some (.slice (some ⟨h.length,0,none⟩) n n,h++ [⟨1,ints (tbl n (walkW rows n v k))⟩]):=by
 have hn' :=fun k=>Nat.le_trans hn (Nat.le_add_right h.length k)
 have hso:=fun k=>hs.oldCk (k:=k)
 have hle:=R.le
 have k2:8 * (n:Int)≤140737488355328:=by omega
 have k3:(n:Int)≤140737488355328:=by omega
 have hv2:(v:Int)<n:=by omega
 have t3:=tbl_splice (g:=fun _=>0) (x:=1) hv
 have e0:ints (List.replicate n 0)=ints (tbl n fun _=>0):=by rw[tbl_const]
 refine v_zz61 (by simp[i_zz61]) ?_
 rw[fbody_eq]
 by_cases hk0:k=0
 ·subst hk0
  have l3: ∀H vs,floop (vcall F nro) nro [3,7,18,19] i_zz61_B3 H (vs:: .slice (some ⟨h.length+1,0,none⟩) n n:: [.int .i64 0,.int .i64 0]) H=some (.exit 0,fl [(7,.slice (some ⟨h.length+1,0,none⟩) n n)],H):=by
   intro H vs
   rw[floop_at i_zz61_B3.eq_1]
   simp (disch:=first|assumption|omega|(simp[*]<;>omega)|fail) []
  unfold walkW
  simp (disch:=first|assumption|omega|(simp[*]<;>omega)|fail) [i_zz61,hv,hv2,t3,e0,l3,hn',hso,k2,k3]
 ·have hk1:1≤k:=by omega
  have l3:=l_zz61_3 (nro:=nro) h n v k s rows R hs hn (upd (fun _=>0) v 1) hk hk1
  have l2:=l_zz61_2 (nro:=nro) (bx h n s++ [⟨1,ints (tbl n (upd (fun _=>0) v 1))⟩]) h.length (h.length+1) n k 0 s rows R ((hs.app _).app _) (upd (fun _=>0) v 1) (by simp) (by simp) (by simp;omega)
  have e1:stepW rows n (upd (fun _=>0) v 1)=walkW rows n v 1:=rfl
  rw[e1]at l2
  have hc:=clean_mid (h:=bx h n s++ [⟨1,ints (tbl n (upd (fun _=>0) v 1))⟩]) (L:= [⟨1,ints (tbl n (walkW rows n v 1))⟩]) (A:= [bp h]) (B:= [.int .i64 k,.int .i64 1]) (k:=0) (off:=0) (n:=n) (t:=n) (o:=⟨1,ints (tbl n (walkW rows n v 1))⟩) (by intro v hv;simp at hv;subst hv;simp) (by intro v hv;simp at hv;rcases hv with rfl|rfl<;>simp) rfl (by simp)
  obtain⟨q,hq⟩: ∃q,q=walkW rows n v 1:=⟨_,rfl⟩
  rw[←hq]at l2 hc l3
  obtain⟨q2,hq2⟩: ∃q2,q2=walkW rows n v k:=⟨_,rfl⟩
  rw[←hq2]at l3⊢
  have step:floop (vcall F nro) nro [3,7,18,19] i_zz61_B3 (bx h n s++ [⟨1,ints (tbl n (upd (fun _=>0) v 1))⟩]) [bp h,.slice (some ⟨h.length+1,0,none⟩) n n,.int .i64 k,.int .i64 0] (bx h n s++ [⟨1,ints (tbl n (upd (fun _=>0) v 1))⟩])=some (.exit 0,fl [(7,.slice (some ⟨h.length+2,0,none⟩) n n)],bx h n s++ [⟨1,ints (tbl n (upd (fun _=>0) v 1))⟩,⟨1,ints (tbl n q2)⟩]):=by
   have hk2:(0:Int)<k:=by omega
   simp at l2 hc l3
   rw[floop_at i_zz61_B3.eq_1]
   clear hq hq2 e1
   simp (disch:=first|assumption|omega|(simp[*]<;>omega)|fail) [hk2,hk0,e0,l2,hc,l3,hn',hso,wrap64,k2,k3]
  simp at step
  clear hq hq2 l2 l3 hc e1
  simp (disch:=first|assumption|omega|(simp[*]<;>omega)|fail) [i_zz61,hv,hv2,t3,e0,step,hn',hso,k2,k3]
theorem c_zz53 (n a b k:Nat) (s:Value) (rows:List Int) (h:VH) (hs:Sli h s rows) (g:GV n rows) (hab:rbit rows a b=true) (hk:k≤1000) (hn:nro≤h.length):
  vcall F nro k_zz53 [gv n s,.int .i64 a,.int .i64 b,.int .i64 ((k:Int)+1)] h=some (.int .i64 (IntKind.i64.wrap (wkN (cut2 rows a b) n a k b)),h):=by
 refine v_zz53 (by simp[i_zz53]) ?_
 rw[fbody_eq]
 have hn' :=fun k=>Nat.le_trans hn (Nat.le_add_right h.length k)
 have hso:=fun k=>hs.oldCk (k:=k)
 obtain⟨ha,hb⟩:=rbit_lt g.rok hab
 obtain⟨R2,_⟩:=cut_rok g ha hb hab
 have R:=g.rok
 have hl:=R.len
 have hle:=R.le
 have hne:=g.ne hab
 have ho:=c_zz108 (nro:=nro) n s rows (h++ [⟨0,[.int .i64 n,s]⟩]) (hs.app _) (by intro e;rw[e]at hl;simp at hl;omega) (by omega) (by simp;omega)
 obtain⟨r1,r2⟩:=R.row a ha
 obtain⟨q1,q2⟩:=R.row b hb
 have r3:=le62 hle r2
 have q3:=le62 hle q2
 have ht:=c_zz64 (nro:=nro) n (h.length+1) n a b rows (h++ [⟨0,[.int .i64 n,s]⟩,⟨1,ints rows⟩,⟨0,[.int .i64 n,.slice (some ⟨h.length+1,0,none⟩) n n]⟩]) (by simp) hl (by omega) (by omega) (by omega) (by omega) (by omega) hle (by omega)
  (by rw[Int.toNat_natCast];exact r1) (by rw[Int.toNat_natCast];omega) (by rw[Int.toNat_natCast,Int.toNat_natCast];exact hab) (by rw[Int.toNat_natCast];exact q1) (by rw[Int.toNat_natCast];omega) (by rw[Int.toNat_natCast,Int.toNat_natCast];exact g.sym' hab)
 have hl2:=R2.len
 have hd:=c_zz61 (nro:=nro) n a k (.slice (some ⟨h.length+1,0,none⟩) n n) (cut2 rows a b) (h++ [⟨0,[.int .i64 n,s]⟩,⟨1,ints (cut2 rows a b)⟩,⟨0,[.int .i64 n,.slice (some ⟨h.length+1,0,none⟩) n n]⟩]) R2 (by
  have:=sli_at (h:=h++ [⟨0,[.int .i64 n,s]⟩,⟨1,ints (cut2 rows a b)⟩,⟨0,[.int .i64 n,.slice (some ⟨h.length+1,0,none⟩) n n]⟩]) (b:=h.length+1) (xs:=cut2 rows a b) (by simp)
  rw[hl2]at this
  exact this) ha hk (by simp;omega)
 have t1:=tbl_take1 (g:=walkW (cut2 rows a b) n a k) hb
 rw[walkW_at R2 k b hb]at t1
 have hb' :(b:Int)<n:=by omega
 obtain⟨G,hG⟩: ∃G,G=walkW (cut2 rows a b) n a k:=⟨_,rfl⟩
 rw[←hG]at hd t1
 obtain⟨q,hq⟩: ∃q,q=IntKind.i64.wrap (wkN (cut2 rows a b) n a k b):=⟨_,rfl⟩
 rw[←hq]at t1⊢
 obtain⟨c,hc⟩: ∃c,c=cut2 rows a b:=⟨_,rfl⟩
 rw[←hc]at ht hd
 have w1:IntKind.i64.wrap (k:Int)=k:=wrap64 (by omega) (by omega)
 simp at ht hd
 rw[hl]at ho
 simp at ho
 clear hG hq hc R2 hl2
 simp (disch:=first|assumption|omega|(simp[*]<;>omega)|fail) [i_zz53,ho,ht,hd,w1,hn,hn',hso,hb,hb',t1]
end

/- Parts: all vertices to which there is a way; connected graphs. -/
section
open Go
variable {nro:Nat}
def pt (rows:List Int) (met f:Nat):Nat:=
  if f=0 then met else if h:met<(met|||nxt rows f)∧(met|||nxt rows f)<2 ^ 62 then pt rows (met|||nxt rows f) (nand (nxt rows f) met)else met
 termination_by 2 ^ 62 - met
 decreasing_by omega
def part (rows:List Int) (v:Nat):Nat:=pt rows (2 ^ v) (2 ^ v)
end

/- The program's lists of edges and parts. -/
section
open Go
variable {nro:Nat}
def pairL (v:Nat):List Int→List (List Int)
 | [] => []
 | y :: l => (if (v : Int) < y then [[(v : Int), y]] else []) ++ pairL v l
theorem pairL_len (v:Nat): ∀l,(pairL v l).length≤l.length
 | [] => Nat.le_refl _
 | y :: l => by
  rw[pairL,List.length_append]
  have:=pairL_len v l
  split<;>simp<;>omega
theorem pairL_bitF (rows:List Int) (v n w:Nat) (hw:v<w):pairL v (bitF (rows.getD v 0).toNat n w)=edgF rows v n w:=by
  by_cases h:w<n
  · rw [bitF_step h, edgF_step h, ← pairL_bitF rows v n (w + 1) (by omega)]
    unfold rbit
    by_cases hb:(rows.getD v 0).toNat.testBit w=true
    · rw[if_pos hb,if_pos hb,List.cons_append,List.nil_append,pairL,if_pos (by omega)]
    · rw[if_neg hb,if_neg hb];rfl
  · rw[bitF_end h,edgF_end h];rfl
 termination_by n - w
theorem pairL_low (rows:List Int) (v n w:Nat) (hw:w≤v+1):pairL v (bitF (rows.getD v 0).toNat n w)=pairL v (bitF (rows.getD v 0).toNat n (v+1)):=by
  by_cases c:w=v+1
  · rw[c]
  · by_cases h : w < n
    · rw [bitF_step h, ← pairL_low rows v n (w + 1) (by omega)]
      split
      · rw[List.cons_append,List.nil_append,pairL,if_neg (by omega)];rfl
      · rfl
    · rw[bitF_end h,bitF_end (by omega)]
 termination_by v+1 - w
theorem pairL_nb {n:Nat} {rows:List Int} (R:Rok n rows) {v:Nat} (hv:v<n):pairL v (nbL rows v)=edgF rows v n (v+1):=by
 obtain⟨_,r2⟩:=R.row v hv
 unfold nbL bitL
 rw[bitF_cut r2 R.le,pairL_low rows v n 0 (by omega),pairL_bitF rows v n (v+1) (by omega)]
theorem l_zz59_1 (n:Nat) (s:Value) (rows:List Int) (h:VH) (hs:Sli h s rows) (hn:nro≤h.length) (R:Rok n rows) (v:Nat) (hv:v<n) (vs0:List Value) (G0:VH) (ess0:List (List Int)) (L:List Int) (hL:L.length≤62) (hg0: ∃k,k<G0.length∧G0[k]? =some ⟨1,ints L⟩∧k=G0.length - 1) (e0:EI (h.length+2) vs0 G0 ess0) (hm:vs0.length≤v * 62):
  ∃a:List Value × VH,(EI (h.length+2) a.1 a.2 (ess0++pairL v L)∧G0.length≤a.2.length)∧floop (vcall F nro) nro [1,3,4,9,10,18,19,20] i_zz59_B1 (eH h n s vs0 G0) [bp h,eq1 h vs0.length,.int .i64 v,.int .i64 n,.int .i64 v,.slice (some ⟨h.length+2+(G0.length - 1),0,none⟩) L.length L.length,.int .i64 L.length,.int .i64 0] (eH h n s vs0 G0)=
   some (.exit 2,fl [(1,bp h),(3,eq1 h a.1.length),(9,.int .i64 n),(10,.int .i64 v)],eH h n s a.1 a.2):=by
 have hle:=R.le
 obtain⟨kk,hk1,hk2,rfl⟩:=hg0
 refine Exists.elim (for_upR (call:=vcall F nro) (nro:=nro) (live:= [1,3,4,9,10,18,19,20]) (c:=i_zz59_B1) (h0:=eH h n s vs0 G0) (n:=L.length) (fun j (a:List Value × VH)=> [bp h,eq1 h a.1.length,.int .i64 v,.int .i64 n,.int .i64 v,.slice (some ⟨h.length+2+(G0.length - 1),0,none⟩) L.length L.length,.int .i64 L.length,.int .i64 j]) (fun i a=>eH h n s a.1 a.2)
  (fun j a=>(∃ess,EI (h.length+2) a.1 a.2 ess∧ess++pairL v (L.drop j)=ess0++pairL v L)∧G0.length≤a.2.length∧a.1.length≤v * 62+j∧a.2[G0.length - 1]? =some ⟨1,ints L⟩) (fun a=>some (.exit 2,fl [(1,bp h),(3,eq1 h a.1.length),(9,.int .i64 n),(10,.int .i64 v)],eH h n s a.1 a.2)) ?_ ?_ 0 (vs0,G0) (Nat.zero_le _) ⟨⟨ess0,e0,rfl⟩,Nat.le_refl _,by simp;omega,hk2⟩) ?_
 ·rintro j ⟨vs,G⟩ hlt hlt0 ⟨⟨ess,e,hess⟩,hG,hm,hgl⟩
  dsimp only at e hG hm hgl⊢
  rw[floop_at i_zz59_B1.eq_1]
  rw[List.drop_eq_getElem_cons hlt,pairL,←List.append_assoc]at hess
  obtain⟨H,hH⟩: ∃H,H=eH h n s vs G:=⟨_,rfl⟩
  have hq:H[h.length+1]? =some ⟨1,vs⟩:=by rw[hH];simp
  have hbx:H[h.length]? =some ⟨0,[.int .i64 n,s]⟩:=by rw[hH];simp
  have hql:H[h.length+2+(G0.length - 1)]? =some ⟨1,ints L⟩:=by
   rw[hH,Nat.add_assoc,hgetk,show 2+(G0.length - 1)=(G0.length - 1)+1+1 by omega]
   simp only[List.getElem?_cons_succ]
   exact hgl
  have hHl:H.length=h.length+2+G.length:=by rw[hH];simp;omega
  have hnH:nro≤H.length:=by omega
  have hn2:=fun k=>Nat.le_trans hnH (Nat.le_add_right H.length k)
  have hn1:=fun k=>Nat.le_trans hn (Nat.le_add_right h.length k)
  have t1:=take1_ints hlt
  obtain⟨y,hy⟩: ∃y,y=L[j]:=⟨_,rfl⟩
  rw[←hy]at t1 hess
  obtain⟨K,hK⟩: ∃K,K=eH h n s vs0 G0:=⟨_,rfl⟩
  have hold: ∀m,∀x∈ [bp h,eq1 h m,.int .i64 v,.int .i64 n,.int .i64 v,.slice (some ⟨h.length+2+(G0.length - 1),0,none⟩) L.length L.length,.int .i64 L.length,.int .i64 ((j:Int)+1)],Old (h.length+2+G0.length) x:=by
   intro m x hx
   simp at hx
   rcases hx with rfl|rfl|rfl|rfl|rfl|rfl|rfl|rfl<;>intro r hr<;>simp[trefs,vrefs,crefs,arefs]at hr⊢ <;>omega
  by_cases hb:(v:Int)<y
  ·rw[if_pos hb]at hess
   have b1:(vs.length+1) * 24≤1099511627776:=by omega
   have b2:vs.length<1099511627776:=by omega
   have hnew:H.set (h.length+1) ⟨1,vs++ [.slice (some ⟨H.length,0,none⟩) 2 2]⟩++ [⟨1,[.int .i64 v,.int .i64 y]⟩,⟨1,[.slice (some ⟨H.length,0,none⟩) 2 2]⟩]=eH h n s (vs++ [.slice (some ⟨h.length+2+G.length,0,none⟩) 2 2]) (G++⟨1,[.int .i64 v,.int .i64 y]⟩:: [⟨1,[.slice (some ⟨h.length+2+G.length,0,none⟩) 2 2]⟩]):=by
    rw[hHl,hH];simp
   have e1:=e.push [(v:Int),y] [⟨1,[.slice (some ⟨h.length+2+G.length,0,none⟩) 2 2]⟩]
   obtain⟨G1,hk,e2,e3,e4⟩:=eH_clean' (n:=n) (s:=s) e0 e1 (by simp;omega) (hold (vs.length+1))
   refine⟨(_,G1),⟨⟨_,e2,hess⟩,e3,by simp;omega,by dsimp only;rw[e4 _ hk1,List.getElem?_append_left (by omega)];exact hgl⟩,?_⟩
   rw[←hK]at hk⊢
   rw[←hH]
   simp at hk
   simp only[List.length_append,List.length_singleton,List.length_cons,List.length_nil]
   clear hold hHl hH hK e1 e e0 e2 e4 hess hy hk2 hgl
   simp (disch:=first|assumption|omega|(simp[*]<;>omega)|fail) [-getElem?_pos,gz_,gs_,hbx,hq,hql,hget_old hq,hset_old hq,hb,wrap64,hlt,hlt0,hn1,hnH,hn2,b1,b2,hnew,hk,t1]
  ·rw[if_neg hb,List.append_nil]at hess
   obtain⟨G1,hk,e2,e3,e4⟩:=eH_clean' (n:=n) (s:=s) e0 e hG (hold vs.length)
   refine⟨(vs,G1),⟨⟨_,e2,hess⟩,e3,by simp;omega,by dsimp only;rw[e4 _ hk1];exact hgl⟩,?_⟩
   rw[←hK,←hH]at hk
   rw[←hK,←hH]
   clear hold hHl hH hK e e0 e2 e4 hess hy hk2 hgl
   simp (disch:=first|assumption|omega|(simp[*]<;>omega)|fail) [-getElem?_pos,gz_,gs_,hbx,hq,hql,hb,wrap64,hlt,hlt0,hnH,hn2,hk,t1]
 ·rintro⟨vs,G⟩ ⟨_,_,_,hgl⟩
  dsimp only at hgl
  have hql:(eH h n s vs G)[h.length+2+(G0.length - 1)]? =some ⟨1,ints L⟩:=by
   rw[Nat.add_assoc,hgetk,show 2+(G0.length - 1)=(G0.length - 1)+1+1 by omega]
   simp only[List.getElem?_cons_succ]
   exact hgl
  obtain⟨H,hH⟩: ∃H,H=eH h n s vs G:=⟨_,rfl⟩
  rw[←hH]at hql⊢
  rw[floop_at i_zz59_B1.eq_1]
  clear hH
  simp (disch:=first|assumption|omega|(simp[*]<;>omega)|fail) [-getElem?_pos,gz_,gs_,hql]
 ·rintro a ⟨⟨⟨ess,k1,k2⟩,k3,k4⟩,h2⟩
  rw[List.drop_length,pairL,List.append_nil]at k2
  rw[k2]at k1
  exact⟨a,⟨k1,k3⟩,h2⟩
theorem l_zz59_2 (n:Nat) (s:Value) (rows:List Int) (h:VH) (hs:Sli h s rows) (hn:nro≤h.length) (R:Rok n rows):
  ∃a:List Value × VH,EI (h.length+2) a.1 a.2 (edgesF rows n 0)∧floop (vcall F nro) nro [1,3,9,10] i_zz59_B2 (eH h n s [] []) [bp h,eq1 h 0,.int .i64 n,.int .i64 0] (eH h n s [] [])=
   some (.exit 0,fl [(3,eq1 h a.1.length)],eH h n s a.1 a.2):=by
 have hle:=R.le
 have hlen:=R.len
 refine Exists.elim (for_upR (call:=vcall F nro) (nro:=nro) (live:= [1,3,9,10]) (c:=i_zz59_B2) (h0:=eH h n s [] []) (n:=n) (fun i (a:List Value × VH)=> [bp h,eq1 h a.1.length,.int .i64 n,.int .i64 i]) (fun i a=>eH h n s a.1 a.2)
  (fun i a=>(∃ess,EI (h.length+2) a.1 a.2 ess∧ess++edgesF rows n i=edgesF rows n 0)∧a.1.length≤i * 62) (fun a=>some (.exit 0,fl [(3,eq1 h a.1.length)],eH h n s a.1 a.2)) ?_ ?_ 0 ([],[]) (by omega) ⟨⟨[],EI.nil _ _,rfl⟩,by simp⟩) ?_
 ·rintro v ⟨vs,G⟩ hlt hlt0 ⟨⟨ess,e,hess⟩,hm⟩
  dsimp only at e hm⊢
  obtain⟨H,hH⟩: ∃H,H=eH h n s vs G:=⟨_,rfl⟩
  have hHl:H.length=h.length+2+G.length:=by rw[hH];simp;omega
  have hvl:v<rows.length:=by omega
  have hsH:Sli H s rows:=by rw[hH];exact hs.app _
  have hc:=c_impl_listRow (nro:=nro) n v rows R hlt H (by omega)
  have vx:=hsH.vidx (k:= .i64) (j:=(v:Int)) (by omega) (by omega)
  have vl:=hsH.vload hvl
  have hbL:(nbL rows v).length≤62:=bitL_len _
  have e' :=e.more [⟨1,ints (nbL rows v)⟩]
  obtain⟨⟨vs1,G1⟩,⟨i2,i3⟩,i1⟩:=l_zz59_1 (nro:=nro) n s rows h hs hn R v hlt vs (G++ [⟨1,ints (nbL rows v)⟩]) ess (nbL rows v) hbL ⟨G.length,by simp,by simp,by simp⟩ e' hm
  dsimp only at i1 i2 i3
  have e1:eH h n s vs (G++ [⟨1,ints (nbL rows v)⟩])=H++ [⟨1,ints (nbL rows v)⟩]:=by rw[hH];simp
  have e2:h.length+2+((G++ [(⟨1,ints (nbL rows v)⟩:VO)]).length - 1)=H.length:=by rw[hHl];simp
  rw[e1,e2]at i1
  have i4:vs1.length≤(v+1) * 62:=by
   have:=i2.len
   have:=e.len
   have:=pairL_len v (nbL rows v)
   simp at *
   omega
  rw[pairL_nb R hlt]at i2
  have hold: ∀x∈ [bp h,eq1 h vs1.length,.int .i64 n,.int .i64 ((v:Int)+1)],Old (h.length+2+([]:VH).length) x:=by
   intro x hx
   simp at hx
   rcases hx with rfl|rfl|rfl|rfl<;>intro r hr<;>simp[trefs,vrefs,crefs,arefs]at hr⊢ <;>omega
  obtain⟨G2,hk,e2,e3⟩:=eH_clean (n:=n) (s:=s) (EI.nil (h.length+2) []) i2 (by simp) hold
  rw[edgesF_step hlt,←List.append_assoc]at hess
  refine⟨(vs1,G2),⟨⟨_,e2,hess⟩,i4⟩,?_⟩
  rw[floop_at i_zz59_B2.eq_1]
  obtain⟨K,hK⟩: ∃K,K=eH h n s [] []:=⟨_,rfl⟩
  obtain⟨H1,hH1⟩: ∃H1,H1=eH h n s vs1 G1:=⟨_,rfl⟩
  have hbx:H[h.length]? =some ⟨0,[.int .i64 n,s]⟩:=by rw[hH];simp
  obtain⟨L,hLL⟩: ∃L,L=nbL rows v:=⟨_,rfl⟩
  rw[←hLL]at hc i1
  rw[←hK,←hH1]at hk
  rw[←hH1]at i1
  rw[←hK,←hH]
  clear hold hH hH1 hK e e2 i2 hess e1 e' hLL hHl i3 hbL
  try simp at i1
  simp (disch:=first|assumption|omega|(simp[*]<;>omega)|fail) [-getElem?_pos,gz_,gs_,hbx,wrap64,hlt,hlt0,vx,vl,hc,i1,hk]
 ·rintro⟨vs,G⟩ _
  rw[floop_at i_zz59_B2.eq_1]
  simp (disch:=first|assumption|omega|(simp[*]<;>omega)|fail) []
 ·rintro a ⟨⟨⟨ess,k1,k2⟩,_⟩,h2⟩
  rw[edgesF_end (by omega),List.append_nil]at k2
  rw[k2]at k1
  exact⟨a,k1,h2⟩
theorem c_zz59 (n:Nat) (s:Value) (rows:List Int) (h:VH) (hs:Sli h s rows) (hn:nro≤h.length) (R:Rok n rows):
  ∃v M,vcall F nro k_zz59 [gv n s] h=some (v,h++M)∧SL2 h.length M v (edgesF rows n 0):=by
 have hn' :=fun k=>Nat.le_trans hn (Nat.le_add_right h.length k)
 obtain⟨⟨vs',G'⟩,l2,l1⟩:=l_zz59_2 (nro:=nro) n s rows h hs hn R
 obtain⟨v,M,k1,k2⟩:=EI.fin1 (h:=h) (pre:= [⟨0,[.int .i64 n,s]⟩]) l2
 refine⟨v,M,?_,k2⟩
 refine v_zz59 (by simp[i_zz59]) ?_
 rw[fbody_eq]
 simp at l1 k1
 simp (disch:=first|assumption|omega|(simp[*]<;>omega)|fail) [i_zz59,l1,hn',k1]
def low (x:Nat):Nat:=((bitL x).getD 0 0).toNat
end

/- The code of a graph that has to fit k and c. -/
section
open Go
variable {nro:Nat}
theorem edges_len' (rows:List Int) (n v:Nat) (hn:n≤62):(edgesF rows n v).length≤(n - v) * 62:=by
  by_cases h:v<n
  · rw [edgesF_step h, List.length_append]
    have h1:=edges_len' rows n (v+1) hn
    have h2:=edgF_len rows v n (v+1) h
    have e:n - v=(n - (v+1))+1:=by omega
    rw[e,Nat.add_mul]
    omega
  · rw[edgesF_end h];simp
 termination_by n - v
end

/- Bipartite graphs, graphs at a distance, halves. -/
section
open Go
variable {nro:Nat}
theorem edges_shape {n:Nat} {rows:List Int} {e:List Int} (he:e∈edgesF rows n 0): ∃u w:Nat,u<w∧w<n∧rbit rows u w=true∧e= [(u:Int),(w:Int)]:=by
 obtain⟨u,w,_,h2,h3,h4,h5⟩:=(edgesF_mem rows n 0 e).mp he
 exact⟨u,w,h2,h3,h4,h5⟩
theorem getD_list {ess:List (List Int)} {i:Nat} (hi:i<ess.length):ess.getD i []=ess[i]:=by
 rw[List.getD_eq_getElem?_getD,List.getElem?_eq_getElem hi];rfl
abbrev cp1 (h:VH):Value:= .pointer (some ⟨h.length+1,0,some 2⟩)
def joins (v w x y:Nat):Prop:=(x=v∧y=w)∨(x=w∧y=v)
end

/- Draws of FirstRegular and LeastVertices. -/
section
open Go
variable {nro:Nat}
@[simp] theorem old_tup3i (n : Nat) (k1 k2 k3 : IntKind) (a b c : Int) : Old n (.tuple #[.int k1 a, .int k2 b, .int k3 c]) := fun r hr => by simp [trefs, vrefs, crefs, arefs] at hr
end

/- Steps over arcs; the vertices that a lift's come from. -/
section
open Go
variable {nro:Nat}
theorem getD_atG {α:Type} {l:List α} {d:α} {i:Nat} (h:i<l.length):l.getD i d=l[i]:=by
 rw[List.getD_eq_getElem?_getD,List.getElem?_eq_getElem h]
 rfl
section
variable {n m:Int} {A:List Ar} {s:Value} {h:VH} {st:Nat}
def covT (m k:Nat):List Int:=(List.range k).map fun v=>((v / m:Nat):Int)
@[simp] theorem covT_zero (m : Nat) : covT m 0 = [] := rfl
@[simp] theorem covT_len (m k : Nat) : (covT m k).length = k := by simp [covT]
end
end

/- Lifts, by both. -/
section
open Go
variable {nro:Nat}
def nrm (x y:Nat):Nat × Nat:=(min x y,max x y)
def aV (m:Nat) (a:Ar) (i:Nat):Nat:=a.f.toNat * m+i
def aW (m:Nat) (a:Ar) (i:Nat):Nat:=a.t.toNat * m+(i+a.v.toNat) % m
def aP (m:Nat) (a:Ar) (i:Nat):Nat × Nat:=nrm (aV m a i) (aW m a i)
def apl (m:Nat) (a:Ar) (i:Nat):List (Nat × Nat):=(List.range i).map (aP m a)
@[simp] theorem apl_zero (m : Nat) (a : Ar) : apl m a 0 = [] := rfl
@[simp] theorem apl_len (m : Nat) (a : Ar) (i : Nat) : (apl m a i).length = i := by simp [apl]
abbrev lp (h:VH) (k z:Nat):Value:= .pointer (some ⟨h.length+k,0,some z⟩)
end

/- The law of HalfOf. -/
section
open Go
variable {nro:Nat}
abbrev hh (h:VH) (n:Int) (s:Value) (D L:List Int):VH:=h++ [⟨0,[.int .i64 n,s]⟩,⟨0,[.int .i64 0,.slice none 0 0]⟩,⟨1,ints D⟩,⟨1,ints L⟩]
end

/- The law of HalfOf: the program's side. -/
section
open Go
variable {nro:Nat}
theorem GV.of {n:Nat} {r:List Int} {adj:Nat→Nat→Prop} (h:IsAdj n r adj) (h1:1≤n) (h2:n≤62) (hlt: ∀v w,v<n→adj v w→w<n) (hirr: ∀v,¬adj v v) (hsym: ∀v w,adj v w→adj w v):GV n r:=by
 have R:=Rok.of h h2 hlt
 refine⟨by omega,by omega,by rw[h.1],fun v hv=> ?_,fun v w hv hw=> ?_⟩
 ·rw[h.1]at hv
  obtain⟨r1,r2⟩:=R.row v hv
  refine⟨r1,?_,?_⟩
  ·have e:((2 ^ n:Nat):Int)=(2:Int) ^ ((n:Int).toNat):=by simp
   rw[←e];omega
  ·have:=(h.2 v hv).2.2 v
   cases hb:rbit r v v
   ·rfl
   ·exact absurd (this.mp hb) (hirr v)
 ·rw[h.1]at hv hw
  have a:=(h.2 v hv).2.2 w
  have b:=(h.2 w hw).2.2 v
  rw[Bool.eq_iff_iff,a,b]
  exact⟨hsym v w,hsym w v⟩
end

end Go.Proofs.YtbomdghbblakoaaGreatDoor.Zv

