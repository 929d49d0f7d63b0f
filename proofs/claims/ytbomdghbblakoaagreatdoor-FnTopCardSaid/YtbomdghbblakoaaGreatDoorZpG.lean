/- Part G of the proof: ZwPdq6, ZwPdq7, ZwPdq8, ZwPdq9, ZwPdq10, ZwPdq11, ZwPdq12, ZwPdq13, ZwRef6, ZwRef7, ZwRef8, ZwRef9, ZwRefB, ZwRefC, ZwRefD, ZwIso, ZwOrd1, ZwOrd2, ZwOrd3, ZwOrd4, ZwOrd5, ZwOrd6, ZwOrd7. Conditions: none. -/
import Derived.Sort.AssemblyPlain
import Derived.Sort.LotA
import Derived.Sort.LotC
import Derived.Sort.LotD3
import Derived.Test.YtbomdghbblakoaaGreatDoorZpF
set_option linter.unusedSimpArgs false
set_option linter.unusedVariables false
set_option linter.unusedSectionVars false
namespace Go.Proofs.YtbomdghbblakoaaGreatDoor.Zv
/- Sorting: a pivot is chosen. -/
section
open Go Go.Sort
variable {nro:Nat} {S C:Value} {P:Int→Value} {ag:Nat→Value} {cm:Nat→Nat→Int} {N:Nat} {H:Array Nat→VH}
section
variable (E:SX nro true 3 S C P ag cm N H)
include E
theorem SX.cl (d:Array Nat) (s s' :Int) (L:VH) (vs:List Value) (hv: ∀v∈vs,Old ((H #[]).length+1) v):kclean (H d++ [⟨0,[.int .i64 s]⟩]) vs (H d++⟨0,[.int .i64 s']⟩::L)=(vs,H d++ [⟨0,[.int .i64 s']⟩]):=
 E.clean d d _ _ (fun n=>by intro q hq;simp[orefs,trefs,vrefs,crefs,arefs]at hq) L vs hv
theorem c_told_order2 (d:Array Nat) (hd:d.size=N) (a b:Nat) (ha:a<N) (hb:b<N) (s:Nat) (hs:s≤100):
  ∃a' b' s' :Nat,s' ≤s+1∧((a' =a∧b' =b)∨(a' =b∧b' =a))∧vcall F nro k_zz20 [S,.int .i64 a,.int .i64 b,.pointer (some ⟨(H #[]).length,0,some 1⟩),C] (H d++ [⟨0,[.int .i64 s]⟩])=some (.tuple #[.int .i64 a',.int .i64 b'],H d++ [⟨0,[.int .i64 s']⟩]):=by
 have hcl:=fun s' vs=>E.cl d s s' [] vs
 have hl:=E.base.ln
 have hnr:=E.base.nr #[]
 have hgt:=E.get
 have hix:=E.idx
 have hld:=E.load
 have hcm:=E.cmp
 have w1:IntKind.i64.wrap ((s:Int)+1)=(s:Int)+1:=wrap64 (by omega) (by omega)
 have a0:(0:Int)≤a:=by omega
 have b0:(0:Int)≤b:=by omega
 have a1:(a:Int)<N:=by omega
 have b1:(b:Int)<N:=by omega
 by_cases c:cm (getI d (b:Int)) (getI d (a:Int))<0
 ·refine⟨b,a,s+1,by omega,.inr ⟨rfl,rfl⟩,?_⟩
  refine v_zz20 (by simp[i_zz20]) ?_
  rw[fbody_eq]
  simp (disch:=first|assumption|omega|(simp[*]<;>omega)|fail) [-getElem?_pos,gz_,gs_,i_zz20,hix,hld,hcm,hd,a0,b0,a1,b1,c,hl,hnr,hgt,w1,hcl,fresults,fresL,fres1]
 ·refine⟨a,b,s,by omega,.inl ⟨rfl,rfl⟩,?_⟩
  refine v_zz20 (by simp[i_zz20]) ?_
  rw[fbody_eq]
  simp (disch:=first|assumption|omega|(simp[*]<;>omega)|fail) [-getElem?_pos,gz_,gs_,i_zz20,hix,hld,hcm,hd,a0,b0,a1,b1,c,hl,hnr,hgt,w1,hcl,fresults,fresL,fres1]
theorem c_told_median (d:Array Nat) (hd:d.size=N) (a b c:Nat) (ha:a<N) (hb:b<N) (hc:c<N) (s:Nat) (hs:s≤50):
  ∃m s' :Nat,s' ≤s+3∧(m=a∨m=b∨m=c)∧vcall F nro k_zz19 [S,.int .i64 a,.int .i64 b,.int .i64 c,.pointer (some ⟨(H #[]).length,0,some 1⟩),C] (H d++ [⟨0,[.int .i64 s]⟩])=some (.int .i64 m,H d++ [⟨0,[.int .i64 s']⟩]):=by
 have hcl:=fun s' vs=>E.cl d s s' [] vs
 obtain⟨a1,b1,s1,q1,p1,e1⟩:=c_told_order2 E d hd a b ha hb s (by omega)
 obtain⟨b2,c2,s2,q2,p2,e2⟩:=c_told_order2 E d hd b1 c (by omega) hc s1 (by omega)
 obtain⟨a3,b3,s3,q3,p3,e3⟩:=c_told_order2 E d hd a1 b2 (by omega) (by omega) s2 (by omega)
 refine⟨b3,s3,by omega,by omega,?_⟩
 clear p1 p2 p3 q1 q2 q3
 refine v_zz19 (by simp[i_zz19]) ?_
 rw[fbody_eq]
 simp (disch:=first|assumption|omega|(simp[*]<;>omega)|fail) [-getElem?_pos,gz_,gs_,i_zz19,e1,e2,e3,hcl,fresults,fresL,fres1]
theorem c_told_medianA (d:Array Nat) (hd:d.size=N) (a:Nat) (ha:a+1<N) (h1:1≤a) (s:Nat) (hs:s≤50):
  ∃m s' :Nat,s' ≤s+3∧(m=a - 1∨m=a∨m=a+1)∧vcall F nro k_zz2 [S,.int .i64 a,.pointer (some ⟨(H #[]).length,0,some 1⟩),C] (H d++ [⟨0,[.int .i64 s]⟩])=some (.int .i64 m,H d++ [⟨0,[.int .i64 s']⟩]):=by
 have hcl:=fun s' vs=>E.cl d s s' [] vs
 have hN:=E.base.hN
 obtain⟨m,s1,q1,p1,e1⟩:=c_told_median E d hd (a - 1) a (a+1) (by omega) (by omega) (by omega) s hs
 refine⟨m,s1,q1,p1,?_⟩
 have w1:IntKind.i64.wrap ((a:Int) - 1)=((a - 1:Nat):Int):=by rw[show(a:Int) - 1=((a - 1:Nat):Int) by omega];exact wrap64 (by omega) (by omega)
 have w2:IntKind.i64.wrap ((a:Int)+1)=((a+1:Nat):Int):=by rw[show(a:Int)+1=((a+1:Nat):Int) by omega];exact wrap64 (by omega) (by omega)
 obtain⟨x,hx⟩: ∃x,x=a - 1:=⟨_,rfl⟩
 obtain⟨y,hy⟩: ∃y,y=a+1:=⟨_,rfl⟩
 rw[←hx,←hy]at e1
 rw[←hx]at w1
 rw[←hy]at w2
 clear p1 q1 hx hy
 refine v_zz2 (by simp[i_zz2]) ?_
 rw[fbody_eq]
 simp (disch:=first|assumption|omega|(simp[*]<;>omega)|fail) [-getElem?_pos,gz_,gs_,i_zz2,w1,w2,e1,hcl,fresults,fresL,fres1]
set_option maxHeartbeats 2000000 in
theorem c_told_pivot (d:Array Nat) (hd:d.size=N) (a b:Nat) (hab:a<b) (hb:b≤N):
  ∃m t:Nat,(a≤m∧m<b)∧t≤2∧vcall F nro k_zz8 [S,.int .i64 a,.int .i64 b,C] (H d)=some (.tuple #[.int .i64 m,.int .i64 t],H d):=by
 have hc0:=fun L vs=>E.base.clean d d L vs
 have hl:=E.base.ln
 have hnr:=E.base.nr #[]
 have hgt:=E.get
 have hN:=E.base.hN
 obtain⟨len,hlen⟩: ∃len,len=b - a:=⟨_,rfl⟩
 have w0:IntKind.i64.wrap ((b:Int) - a)=len:=by rw[show(b:Int) - a=len by omega];exact wrap64 (by omega) (by omega)
 obtain⟨q,hq⟩: ∃q:Nat,q=len / 4:=⟨_,rfl⟩
 have t1:((len:Nat):Int).tdiv 4=q:=by rw[Int.tdiv_eq_ediv_of_nonneg (by omega)];omega
 have hq2:q≤1000:=by omega
 have w1:IntKind.i64.wrap (q:Int)=q:=wrap64 (by omega) (by omega)
 obtain⟨i,hi⟩: ∃i,i=a+q:=⟨_,rfl⟩
 obtain⟨j,hj⟩: ∃j,j=a+q * 2:=⟨_,rfl⟩
 obtain⟨k,hk⟩: ∃k,k=a+q * 3:=⟨_,rfl⟩
 have w2:IntKind.i64.wrap ((q:Int) * 2)=(q:Int) * 2:=wrap64 (by omega) (by omega)
 have w3:IntKind.i64.wrap ((q:Int) * 3)=(q:Int) * 3:=wrap64 (by omega) (by omega)
 have w4:IntKind.i64.wrap ((a:Int)+q)=i:=by rw[show(a:Int)+q=i by omega];exact wrap64 (by omega) (by omega)
 have w5:IntKind.i64.wrap ((a:Int)+(q:Int) * 2)=j:=by rw[show(a:Int)+(q:Int) * 2=j by omega];exact wrap64 (by omega) (by omega)
 have w6:IntKind.i64.wrap ((a:Int)+(q:Int) * 3)=k:=by rw[show(a:Int)+(q:Int) * 3=k by omega];exact wrap64 (by omega) (by omega)
 by_cases c8:(8:Int)≤len
 ·by_cases c50:(50:Int)≤len
  ·obtain⟨m1,s1,q1,p1,e1⟩:=c_told_medianA E d hd i (by omega) (by omega) 0 (by omega)
   have r1:a≤m1∧m1<b:=by rcases p1 with h|h|h<;>omega
   clear p1
   obtain⟨m2,s2,q2,p2,e2⟩:=c_told_medianA E d hd j (by omega) (by omega) s1 (by omega)
   have r2:a≤m2∧m2<b:=by rcases p2 with h|h|h<;>omega
   clear p2
   obtain⟨m3,s3,q3,p3,e3⟩:=c_told_medianA E d hd k (by omega) (by omega) s2 (by omega)
   have r3:a≤m3∧m3<b:=by rcases p3 with h|h|h<;>omega
   clear p3
   obtain⟨m4,s4,q4,p4,e4⟩:=c_told_median E d hd m1 m2 m3 (by omega) (by omega) (by omega) s3 (by omega)
   have hr:a≤m4∧m4<b:=by rcases p4 with h|h|h<;>rw[h]<;>assumption
   clear p4 r1 r2 r3 q1 q2 q3 q4 hi hj hk hq hlen
   simp only[Int.natCast_zero]at e1
   by_cases z0:s4=0
   ·refine⟨m4,1,hr,by omega,?_⟩
    subst z0
    clear hr
    refine v_zz8 (by simp[i_zz8]) ?_
    rw[fbody_eq]
    simp (disch:=first|assumption|omega|(simp[*]<;>omega)|fail) [-getElem?_pos,gz_,gs_,i_zz8,w0,t1,w1,w2,w3,w4,w5,w6,c8,c50,hl,hnr,hgt,e1,e2,e3,e4,hc0,fresults,fresL,fres1]
   ·by_cases z1:s4=12
    ·refine⟨m4,2,hr,by omega,?_⟩
     subst z1
     clear hr
     refine v_zz8 (by simp[i_zz8]) ?_
     rw[fbody_eq]
     simp (disch:=first|assumption|omega|(simp[*]<;>omega)|fail) [-getElem?_pos,gz_,gs_,i_zz8,w0,t1,w1,w2,w3,w4,w5,w6,c8,c50,hl,hnr,hgt,e1,e2,e3,e4,hc0,fresults,fresL,fres1]
    ·have z0' : ¬(s4:Int)=0:=by omega
     have z1' : ¬(s4:Int)=12:=by omega
     refine⟨m4,0,hr,by omega,?_⟩
     clear hr
     refine v_zz8 (by simp[i_zz8]) ?_
     rw[fbody_eq]
     simp (disch:=first|assumption|omega|(simp[*]<;>omega)|fail) [-getElem?_pos,gz_,gs_,i_zz8,w0,t1,w1,w2,w3,w4,w5,w6,c8,c50,hl,hnr,hgt,e1,e2,e3,e4,z0,z1,z0',z1',hc0,fresults,fresL,fres1]
  ·obtain⟨m4,s4,q4,p4,e4⟩:=c_told_median E d hd i j k (by omega) (by omega) (by omega) 0 (by omega)
   have hr:a≤m4∧m4<b:=by rcases p4 with h|h|h<;>omega
   have z1: ¬s4=12:=by omega
   have z1' : ¬(s4:Int)=12:=by omega
   simp only[Int.natCast_zero]at e4
   by_cases z0:s4=0
   ·refine⟨m4,1,hr,by omega,?_⟩
    subst z0
    clear p4 q4 hi hj hk hq hlen hr
    refine v_zz8 (by simp[i_zz8]) ?_
    rw[fbody_eq]
    simp (disch:=first|assumption|omega|(simp[*]<;>omega)|fail) [-getElem?_pos,gz_,gs_,i_zz8,w0,t1,w1,w2,w3,w4,w5,w6,c8,c50,hl,hnr,hgt,e4,hc0,fresults,fresL,fres1]
   ·have z0' : ¬(s4:Int)=0:=by omega
    refine⟨m4,0,hr,by omega,?_⟩
    clear p4 q4 hi hj hk hq hlen hr
    refine v_zz8 (by simp[i_zz8]) ?_
    rw[fbody_eq]
    simp (disch:=first|assumption|omega|(simp[*]<;>omega)|fail) [-getElem?_pos,gz_,gs_,i_zz8,w0,t1,w1,w2,w3,w4,w5,w6,c8,c50,hl,hnr,hgt,e4,z0,z0',z1,z1',hc0,fresults,fresL,fres1]
 ·refine⟨j,1,by omega,by omega,?_⟩
  clear hi hj hk hq hlen
  refine v_zz8 (by simp[i_zz8]) ?_
  rw[fbody_eq]
  simp (disch:=first|assumption|omega|(simp[*]<;>omega)|fail) [-getElem?_pos,gz_,gs_,i_zz8,w0,t1,w1,w2,w3,w4,w5,w6,c8,hl,hnr,hgt,hc0,fresults,fresL,fres1]
end
end

/- Sorting: partitions. -/
section
open Go Go.Sort
variable {nro:Nat} {S C:Value} {P:Int→Value} {ag:Nat→Value} {cm:Nat→Nat→Int} {N:Nat} {H:Array Nat→VH}
section
variable (E:SE nro true 3 S C P ag cm N H)
include E
theorem l_told_up1 (a j:Nat) (haN:a<N) (hjN:j<N) (d0 d:Array Nat) (hd:d.size=N) (v:Nat) (hv:getI d (a:Int)=v): ∀(k i:Nat),j+1≤i+k→i≤N→
  floop (vcall F nro) nro [0,1,4,12,13] i_zz13_B1 (H d0) [S,.int .i64 a,C,.int .i64 i,.int .i64 j] (H d)=some (.exit 0,fl [(0,S),(1,.int .i64 a),(4,C),(12,.int .i64 ((scanUp (fun x=>ltC cm x v) d j i:Nat))),(13,.int .i64 (j))],H d):=by
 have hc:=fun q=>E.clean0 d0 q
 have hl:=E.ln
 have oS:=E.oS
 have oC:=E.oC
 have hN:=E.hN
 have hix:=E.idx
 have hld:=E.load
 have hcm:=E.cmp
 have a0:(0:Int)≤a:=by omega
 have a1:(a:Int)<N:=by omega
 intro k
 induction k with
 | zero =>
  intro i hk hi
  have c1: ¬(i:Int)≤j:=by omega
  have c2: ¬i≤j:=by omega
  rw[scanUp,if_neg (by simp[c2]),floop_at i_zz13_B1.eq_1]
  simp (disch:=first|assumption|omega|(simp[*]<;>omega)|fail) [-getElem?_pos,gz_,gs_,hc,hl,oS,oC,c1,c2]
 | succ k ih =>
  intro i hk hi
  have gi:=getI_nat d (i:Int) i rfl
  by_cases c1:i≤j
  ·have c1' :(i:Int)≤j:=by omega
   have i0:(0:Int)≤i:=by omega
   have i1:(i:Int)<N:=by omega
   have w1:IntKind.i64.wrap ((i:Int)+1)=(i:Int)+1:=wrap64 (by omega) (by omega)
   rw[scanUp,←gi,←hv]
   by_cases c2:cm (getI d (i:Int)) (getI d (a:Int))<0
   ·have e2:ltC cm (getI d (i:Int)) (getI d (a:Int))=true:=decide_eq_true c2
    rw[if_pos (by simp[c1,e2])]
    rw[hv]
    have ih2:=ih (i+1) (by omega) (by omega)
    rw[←ih2]
    clear ih ih2 gi e2 hv
    rw[floop_at i_zz13_B1.eq_1]
    simp (disch:=first|assumption|omega|(simp[*]<;>omega)|fail) [-getElem?_pos,gz_,gs_,hc,hl,oS,oC,hix,hld,hcm,hd,c1',c1,c2,i0,i1,a0,a1,w1]
   ·have e2:ltC cm (getI d (i:Int)) (getI d (a:Int))=false:=decide_eq_false c2
    rw[if_neg (by simp[e2])]
    clear ih gi e2 hv
    rw[floop_at i_zz13_B1.eq_1]
    simp (disch:=first|assumption|omega|(simp[*]<;>omega)|fail) [-getElem?_pos,gz_,gs_,hc,hl,oS,oC,hix,hld,hcm,hd,c1',c1,c2,i0,i1,a0,a1,w1]
  ·have c1' : ¬(i:Int)≤j:=by omega
   rw[scanUp,if_neg (by simp[c1]),floop_at i_zz13_B1.eq_1]
   simp (disch:=first|assumption|omega|(simp[*]<;>omega)|fail) [-getElem?_pos,gz_,gs_,hc,hl,oS,oC,c1',c1]
theorem l_told_dn1 (a i:Nat) (haN:a<N) (hi1:1≤i) (d0 d:Array Nat) (hd:d.size=N) (v:Nat) (hv:getI d (a:Int)=v): ∀(j:Nat),j<N→
  floop (vcall F nro) nro [0,1,4,12,13] i_zz13_B2 (H d0) [S,.int .i64 a,C,.int .i64 i,.int .i64 j] (H d)=some (.exit 2,fl [(0,S),(1,.int .i64 a),(4,C),(12,.int .i64 (i)),(13,.int .i64 ((scanDown (fun x=> !ltC cm x v) d i j:Nat)))],H d):=by
 have hc:=fun q=>E.clean0 d0 q
 have hl:=E.ln
 have oS:=E.oS
 have oC:=E.oC
 have hN:=E.hN
 have hix:=E.idx
 have hld:=E.load
 have hcm:=E.cmp
 have a0:(0:Int)≤a:=by omega
 have a1:(a:Int)<N:=by omega
 intro j
 induction j with
 | zero =>
  intro hj
  have c1: ¬(i:Int)≤0:=by omega
  have c2: ¬i=0:=by omega
  rw[scanDown,floop_at i_zz13_B2.eq_1]
  simp (disch:=first|assumption|omega|(simp[*]<;>omega)|fail) [-getElem?_pos,gz_,gs_,hc,hl,oS,oC,c1,c2]
 | succ j ih =>
  intro hj
  have gi:=getI_nat d ((j:Int)+1) (j+1) (by omega)
  by_cases c1:i≤j+1
  ·have c1' :(i:Int)≤(j:Int)+1:=by omega
   have i0:(0:Int)≤(j:Int)+1:=by omega
   have i1:(j:Int)+1<N:=by omega
   have w1:IntKind.i64.wrap (j:Int)=j:=wrap64 (by omega) (by omega)
   rw[scanDown,←gi,←hv]
   by_cases c2:cm (getI d ((j:Int)+1)) (getI d (a:Int))<0
   ·have e2:ltC cm (getI d ((j:Int)+1)) (getI d (a:Int))=true:=decide_eq_true c2
    rw[if_neg (by simp[e2])]
    clear ih gi e2 hv
    rw[floop_at i_zz13_B2.eq_1]
    simp (disch:=first|assumption|omega|(simp[*]<;>omega)|fail) [-getElem?_pos,gz_,gs_,hc,hl,oS,oC,hix,hld,hcm,hd,c1',c1,c2,i0,i1,a0,a1,w1]
   ·have e2:ltC cm (getI d ((j:Int)+1)) (getI d (a:Int))=false:=decide_eq_false c2
    rw[if_pos (by simp[c1,e2])]
    rw[hv]
    have ih2:=ih (by omega)
    rw[←ih2]
    clear ih ih2 gi e2 hv
    rw[floop_at i_zz13_B2.eq_1]
    simp (disch:=first|assumption|omega|(simp[*]<;>omega)|fail) [-getElem?_pos,gz_,gs_,hc,hl,oS,oC,hix,hld,hcm,hd,c1',c1,c2,i0,i1,a0,a1,w1]
  ·have c1' : ¬(i:Int)≤(j:Int)+1:=by omega
   rw[scanDown,if_neg (by simp[c1]),floop_at i_zz13_B2.eq_1]
   simp (disch:=first|assumption|omega|(simp[*]<;>omega)|fail) [-getElem?_pos,gz_,gs_,hc,hl,oS,oC,c1',c1]
theorem l_told_up2 (a j:Nat) (haN:a<N) (hjN:j<N) (d0 d:Array Nat) (hd:d.size=N) (v:Nat) (hv:getI d (a:Int)=v): ∀(k i:Nat),j+1≤i+k→i≤N→
  floop (vcall F nro) nro [0,1,4,12,13] i_zz13_B3 (H d0) [S,.int .i64 a,C,.int .i64 i,.int .i64 j] (H d)=some (.exit 6,fl [(0,S),(1,.int .i64 a),(4,C),(12,.int .i64 ((scanUp (fun x=>ltC cm x v) d j i:Nat))),(13,.int .i64 (j))],H d):=by
 have hc:=fun q=>E.clean0 d0 q
 have hl:=E.ln
 have oS:=E.oS
 have oC:=E.oC
 have hN:=E.hN
 have hix:=E.idx
 have hld:=E.load
 have hcm:=E.cmp
 have a0:(0:Int)≤a:=by omega
 have a1:(a:Int)<N:=by omega
 intro k
 induction k with
 | zero =>
  intro i hk hi
  have c1: ¬(i:Int)≤j:=by omega
  have c2: ¬i≤j:=by omega
  rw[scanUp,if_neg (by simp[c2]),floop_at i_zz13_B3.eq_1]
  simp (disch:=first|assumption|omega|(simp[*]<;>omega)|fail) [-getElem?_pos,gz_,gs_,hc,hl,oS,oC,c1,c2]
 | succ k ih =>
  intro i hk hi
  have gi:=getI_nat d (i:Int) i rfl
  by_cases c1:i≤j
  ·have c1' :(i:Int)≤j:=by omega
   have i0:(0:Int)≤i:=by omega
   have i1:(i:Int)<N:=by omega
   have w1:IntKind.i64.wrap ((i:Int)+1)=(i:Int)+1:=wrap64 (by omega) (by omega)
   rw[scanUp,←gi,←hv]
   by_cases c2:cm (getI d (i:Int)) (getI d (a:Int))<0
   ·have e2:ltC cm (getI d (i:Int)) (getI d (a:Int))=true:=decide_eq_true c2
    rw[if_pos (by simp[c1,e2])]
    rw[hv]
    have ih2:=ih (i+1) (by omega) (by omega)
    rw[←ih2]
    clear ih ih2 gi e2 hv
    rw[floop_at i_zz13_B3.eq_1]
    simp (disch:=first|assumption|omega|(simp[*]<;>omega)|fail) [-getElem?_pos,gz_,gs_,hc,hl,oS,oC,hix,hld,hcm,hd,c1',c1,c2,i0,i1,a0,a1,w1]
   ·have e2:ltC cm (getI d (i:Int)) (getI d (a:Int))=false:=decide_eq_false c2
    rw[if_neg (by simp[e2])]
    clear ih gi e2 hv
    rw[floop_at i_zz13_B3.eq_1]
    simp (disch:=first|assumption|omega|(simp[*]<;>omega)|fail) [-getElem?_pos,gz_,gs_,hc,hl,oS,oC,hix,hld,hcm,hd,c1',c1,c2,i0,i1,a0,a1,w1]
  ·have c1' : ¬(i:Int)≤j:=by omega
   rw[scanUp,if_neg (by simp[c1]),floop_at i_zz13_B3.eq_1]
   simp (disch:=first|assumption|omega|(simp[*]<;>omega)|fail) [-getElem?_pos,gz_,gs_,hc,hl,oS,oC,c1',c1]
theorem l_told_dn2 (a i:Nat) (haN:a<N) (hi1:1≤i) (d0 d:Array Nat) (hd:d.size=N) (v:Nat) (hv:getI d (a:Int)=v): ∀(j:Nat),j<N→
  floop (vcall F nro) nro [0,1,4,12,13] i_zz13_B4 (H d0) [S,.int .i64 a,C,.int .i64 i,.int .i64 j] (H d)=some (.exit 8,fl [(0,S),(1,.int .i64 a),(4,C),(12,.int .i64 (i)),(13,.int .i64 ((scanDown (fun x=> !ltC cm x v) d i j:Nat)))],H d):=by
 have hc:=fun q=>E.clean0 d0 q
 have hl:=E.ln
 have oS:=E.oS
 have oC:=E.oC
 have hN:=E.hN
 have hix:=E.idx
 have hld:=E.load
 have hcm:=E.cmp
 have a0:(0:Int)≤a:=by omega
 have a1:(a:Int)<N:=by omega
 intro j
 induction j with
 | zero =>
  intro hj
  have c1: ¬(i:Int)≤0:=by omega
  have c2: ¬i=0:=by omega
  rw[scanDown,floop_at i_zz13_B4.eq_1]
  simp (disch:=first|assumption|omega|(simp[*]<;>omega)|fail) [-getElem?_pos,gz_,gs_,hc,hl,oS,oC,c1,c2]
 | succ j ih =>
  intro hj
  have gi:=getI_nat d ((j:Int)+1) (j+1) (by omega)
  by_cases c1:i≤j+1
  ·have c1' :(i:Int)≤(j:Int)+1:=by omega
   have i0:(0:Int)≤(j:Int)+1:=by omega
   have i1:(j:Int)+1<N:=by omega
   have w1:IntKind.i64.wrap (j:Int)=j:=wrap64 (by omega) (by omega)
   rw[scanDown,←gi,←hv]
   by_cases c2:cm (getI d ((j:Int)+1)) (getI d (a:Int))<0
   ·have e2:ltC cm (getI d ((j:Int)+1)) (getI d (a:Int))=true:=decide_eq_true c2
    rw[if_neg (by simp[e2])]
    clear ih gi e2 hv
    rw[floop_at i_zz13_B4.eq_1]
    simp (disch:=first|assumption|omega|(simp[*]<;>omega)|fail) [-getElem?_pos,gz_,gs_,hc,hl,oS,oC,hix,hld,hcm,hd,c1',c1,c2,i0,i1,a0,a1,w1]
   ·have e2:ltC cm (getI d ((j:Int)+1)) (getI d (a:Int))=false:=decide_eq_false c2
    rw[if_pos (by simp[c1,e2])]
    rw[hv]
    have ih2:=ih (by omega)
    rw[←ih2]
    clear ih ih2 gi e2 hv
    rw[floop_at i_zz13_B4.eq_1]
    simp (disch:=first|assumption|omega|(simp[*]<;>omega)|fail) [-getElem?_pos,gz_,gs_,hc,hl,oS,oC,hix,hld,hcm,hd,c1',c1,c2,i0,i1,a0,a1,w1]
  ·have c1' : ¬(i:Int)≤(j:Int)+1:=by omega
   rw[scanDown,if_neg (by simp[c1]),floop_at i_zz13_B4.eq_1]
   simp (disch:=first|assumption|omega|(simp[*]<;>omega)|fail) [-getElem?_pos,gz_,gs_,hc,hl,oS,oC,c1',c1]
theorem l_told_up3 (a j:Nat) (haN:a<N) (hjN:j<N) (d0 d:Array Nat) (hd:d.size=N) (v:Nat) (hv:getI d (a:Int)=v): ∀(k i:Nat),j+1≤i+k→i≤N→
  floop (vcall F nro) nro [0,1,4,11,12] i_zz3_B1 (H d0) [S,.int .i64 a,C,.int .i64 i,.int .i64 j] (H d)=some (.exit 2,fl [(0,S),(1,.int .i64 a),(4,C),(11,.int .i64 ((scanUp (fun x=> !ltC cm v x) d j i:Nat))),(12,.int .i64 (j))],H d):=by
 have hc:=fun q=>E.clean0 d0 q
 have hl:=E.ln
 have oS:=E.oS
 have oC:=E.oC
 have hN:=E.hN
 have hix:=E.idx
 have hld:=E.load
 have hcm:=E.cmp
 have a0:(0:Int)≤a:=by omega
 have a1:(a:Int)<N:=by omega
 intro k
 induction k with
 | zero =>
  intro i hk hi
  have c1: ¬(i:Int)≤j:=by omega
  have c2: ¬i≤j:=by omega
  rw[scanUp,if_neg (by simp[c2]),floop_at i_zz3_B1.eq_1]
  simp (disch:=first|assumption|omega|(simp[*]<;>omega)|fail) [-getElem?_pos,gz_,gs_,hc,hl,oS,oC,c1,c2]
 | succ k ih =>
  intro i hk hi
  have gi:=getI_nat d (i:Int) i rfl
  by_cases c1:i≤j
  ·have c1' :(i:Int)≤j:=by omega
   have i0:(0:Int)≤i:=by omega
   have i1:(i:Int)<N:=by omega
   have w1:IntKind.i64.wrap ((i:Int)+1)=(i:Int)+1:=wrap64 (by omega) (by omega)
   rw[scanUp,←gi,←hv]
   by_cases c2:cm (getI d (a:Int)) (getI d (i:Int))<0
   ·have e2:ltC cm (getI d (a:Int)) (getI d (i:Int))=true:=decide_eq_true c2
    rw[if_neg (by simp[e2])]
    clear ih gi e2 hv
    rw[floop_at i_zz3_B1.eq_1]
    simp (disch:=first|assumption|omega|(simp[*]<;>omega)|fail) [-getElem?_pos,gz_,gs_,hc,hl,oS,oC,hix,hld,hcm,hd,c1',c1,c2,i0,i1,a0,a1,w1]
   ·have e2:ltC cm (getI d (a:Int)) (getI d (i:Int))=false:=decide_eq_false c2
    rw[if_pos (by simp[c1,e2])]
    rw[hv]
    have ih2:=ih (i+1) (by omega) (by omega)
    rw[←ih2]
    clear ih ih2 gi e2 hv
    rw[floop_at i_zz3_B1.eq_1]
    simp (disch:=first|assumption|omega|(simp[*]<;>omega)|fail) [-getElem?_pos,gz_,gs_,hc,hl,oS,oC,hix,hld,hcm,hd,c1',c1,c2,i0,i1,a0,a1,w1]
  ·have c1' : ¬(i:Int)≤j:=by omega
   rw[scanUp,if_neg (by simp[c1]),floop_at i_zz3_B1.eq_1]
   simp (disch:=first|assumption|omega|(simp[*]<;>omega)|fail) [-getElem?_pos,gz_,gs_,hc,hl,oS,oC,c1',c1]
theorem l_told_dn3 (a i:Nat) (haN:a<N) (hi1:1≤i) (d0 d:Array Nat) (hd:d.size=N) (v:Nat) (hv:getI d (a:Int)=v): ∀(j:Nat),j<N→
  floop (vcall F nro) nro [0,1,4,11,12] i_zz3_B2 (H d0) [S,.int .i64 a,C,.int .i64 i,.int .i64 j] (H d)=some (.exit 4,fl [(0,S),(1,.int .i64 a),(4,C),(11,.int .i64 (i)),(12,.int .i64 ((scanDown (fun x=>ltC cm v x) d i j:Nat)))],H d):=by
 have hc:=fun q=>E.clean0 d0 q
 have hl:=E.ln
 have oS:=E.oS
 have oC:=E.oC
 have hN:=E.hN
 have hix:=E.idx
 have hld:=E.load
 have hcm:=E.cmp
 have a0:(0:Int)≤a:=by omega
 have a1:(a:Int)<N:=by omega
 intro j
 induction j with
 | zero =>
  intro hj
  have c1: ¬(i:Int)≤0:=by omega
  have c2: ¬i=0:=by omega
  rw[scanDown,floop_at i_zz3_B2.eq_1]
  simp (disch:=first|assumption|omega|(simp[*]<;>omega)|fail) [-getElem?_pos,gz_,gs_,hc,hl,oS,oC,c1,c2]
 | succ j ih =>
  intro hj
  have gi:=getI_nat d ((j:Int)+1) (j+1) (by omega)
  by_cases c1:i≤j+1
  ·have c1' :(i:Int)≤(j:Int)+1:=by omega
   have i0:(0:Int)≤(j:Int)+1:=by omega
   have i1:(j:Int)+1<N:=by omega
   have w1:IntKind.i64.wrap (j:Int)=j:=wrap64 (by omega) (by omega)
   rw[scanDown,←gi,←hv]
   by_cases c2:cm (getI d (a:Int)) (getI d ((j:Int)+1))<0
   ·have e2:ltC cm (getI d (a:Int)) (getI d ((j:Int)+1))=true:=decide_eq_true c2
    rw[if_pos (by simp[c1,e2])]
    rw[hv]
    have ih2:=ih (by omega)
    rw[←ih2]
    clear ih ih2 gi e2 hv
    rw[floop_at i_zz3_B2.eq_1]
    simp (disch:=first|assumption|omega|(simp[*]<;>omega)|fail) [-getElem?_pos,gz_,gs_,hc,hl,oS,oC,hix,hld,hcm,hd,c1',c1,c2,i0,i1,a0,a1,w1]
   ·have e2:ltC cm (getI d (a:Int)) (getI d ((j:Int)+1))=false:=decide_eq_false c2
    rw[if_neg (by simp[e2])]
    clear ih gi e2 hv
    rw[floop_at i_zz3_B2.eq_1]
    simp (disch:=first|assumption|omega|(simp[*]<;>omega)|fail) [-getElem?_pos,gz_,gs_,hc,hl,oS,oC,hix,hld,hcm,hd,c1',c1,c2,i0,i1,a0,a1,w1]
  ·have c1' : ¬(i:Int)≤(j:Int)+1:=by omega
   rw[scanDown,if_neg (by simp[c1]),floop_at i_zz3_B2.eq_1]
   simp (disch:=first|assumption|omega|(simp[*]<;>omega)|fail) [-getElem?_pos,gz_,gs_,hc,hl,oS,oC,c1',c1]
end
end

/- Sorting: partitions, whole. -/
section
open Go Go.Sort
variable {nro:Nat} {S C:Value} {P:Int→Value} {ag:Nat→Value} {cm:Nat→Nat→Int} {N:Nat} {H:Array Nat→VH}
theorem partLoop_size (lt:Nat→Nat→Bool) (a:Nat): ∀(n i j:Nat) (d:Array Nat),j+1 - i≤n→(partLoop lt a i j d).2.size=d.size∧(partLoop lt a i j d).1≤j
  | n, i, j, d, hn => by
    rw[partLoop_eq]
    have h1:=scanUp_ge (fun x=>lt x d[a]!) d j i
    have h2:=scanDown_le (fun x=> !lt x d[a]!) d (scanUp (fun x=>lt x d[a]!) d j i) j
    by_cases c:scanUp (fun x=>lt x d[a]!) d j i>scanDown (fun x=> !lt x d[a]!) d (scanUp (fun x=>lt x d[a]!) d j i) j
    · rw[if_pos c];exact⟨rfl,h2⟩
    · rw [if_neg c]
      have ih:=partLoop_size lt a (n - 1) (scanUp (fun x=>lt x d[a]!) d j i+1) (scanDown (fun x=> !lt x d[a]!) d (scanUp (fun x=>lt x d[a]!) d j i) j - 1) (Go.Sort.swp d (scanUp (fun x=>lt x d[a]!) d j i) (scanDown (fun x=> !lt x d[a]!) d (scanUp (fun x=>lt x d[a]!) d j i) j)) (by omega)
      exact⟨by rw[ih.1];simp,by omega⟩
 termination_by _ i j _ _=>j+1 - i
 decreasing_by
  simp_wf
  omega
section
variable (E:SE nro true 3 S C P ag cm N H)
include E
set_option maxHeartbeats 1000000 in
theorem l_told_part (a:Nat) (haN:a<N) (d0:Array Nat): ∀(n i j:Nat) (d:Array Nat),d.size=N→j+1 - i≤n→1≤i→i≤N→j<N→
  floop (vcall F nro) nro [0,1,4,12,13] i_zz13_B5 (H d0) [S,.int .i64 a,C,.int .i64 i,.int .i64 j] (H d)=some (.exit 4,fl [(0,S),(1,.int .i64 a),(13,.int .i64 ((partLoop (ltC cm) a i j d).1:Nat))],H (partLoop (ltC cm) a i j d).2):=by
 intro n
 induction n with
 | zero =>
  intro i j d hd hn hi hiN hj
  have hc:=fun q=>E.clean0 d0 q
  have hl:=E.ln
  have oS:=E.oS
  have oC:=E.oC
  have u:=l_told_up2 E a j haN hj d d hd d[a]! (getI_nat d a a rfl) (j+1) i (by omega) hiN
  have h1:=scanUp_ge (fun x=>ltC cm x d[a]!) d j i
  have dn:=l_told_dn2 E a (scanUp (fun x=>ltC cm x d[a]!) d j i) haN (by omega) d d hd d[a]! (getI_nat d a a rfl) j hj
  have h2:=scanDown_le (fun x=> !ltC cm x d[a]!) d (scanUp (fun x=>ltC cm x d[a]!) d j i) j
  rw[partLoop_eq]
  obtain⟨x,hx⟩: ∃x,x=scanUp (fun x=>ltC cm x d[a]!) d j i:=⟨_,rfl⟩
  rw[←hx]at u dn h1 h2⊢
  obtain⟨y,hy⟩: ∃y,y=scanDown (fun x=> !ltC cm x d[a]!) d x j:=⟨_,rfl⟩
  rw[←hy]at dn h2⊢
  have c:x>y:=by omega
  have c' :(y:Int)<x:=by omega
  rw[if_pos c]
  clear hx hy
  rw[floop_at i_zz13_B5.eq_1]
  simp (disch:=first|assumption|omega|(simp[*]<;>omega)|fail) [-getElem?_pos,gz_,gs_,hc,hl,oS,oC,u,dn,c']
 | succ n ih =>
  intro i j d hd hn hi hiN hj
  have hc:=fun q=>E.clean0 d0 q
  have hl:=E.ln
  have oS:=E.oS
  have oC:=E.oC
  have hN:=E.hN
  have hix:=E.idx
  have hld:=E.load
  have hst:=E.store
  have u:=l_told_up2 E a j haN hj d d hd d[a]! (getI_nat d a a rfl) (j+1) i (by omega) hiN
  have h1:=scanUp_ge (fun x=>ltC cm x d[a]!) d j i
  have dn:=l_told_dn2 E a (scanUp (fun x=>ltC cm x d[a]!) d j i) haN (by omega) d d hd d[a]! (getI_nat d a a rfl) j hj
  have h2:=scanDown_le (fun x=> !ltC cm x d[a]!) d (scanUp (fun x=>ltC cm x d[a]!) d j i) j
  rw[partLoop_eq]
  obtain⟨x,hx⟩: ∃x,x=scanUp (fun x=>ltC cm x d[a]!) d j i:=⟨_,rfl⟩
  rw[←hx]at u dn h1 h2⊢
  obtain⟨y,hy⟩: ∃y,y=scanDown (fun x=> !ltC cm x d[a]!) d x j:=⟨_,rfl⟩
  rw[←hy]at dn h2⊢
  by_cases c:x>y
  ·have c' :(y:Int)<x:=by omega
   rw[if_pos c]
   clear hx hy ih
   rw[floop_at i_zz13_B5.eq_1]
   simp (disch:=first|assumption|omega|(simp[*]<;>omega)|fail) [-getElem?_pos,gz_,gs_,hc,hl,oS,oC,u,dn,c']
  ·have c' : ¬(y:Int)<x:=by omega
   rw[if_neg c]
   have ih2:=ih (x+1) (y - 1) (Go.Sort.swp d x y) (by simpa using hd) (by omega) (by omega) (by omega) (by omega)
   rw[←ih2]
   have e4:swI d (x:Int) (y:Int)=Go.Sort.swp d x y:=swI_swp _ _ _ _ _ rfl rfl
   unfold swI at e4
   have w1:IntKind.i64.wrap ((x:Int)+1)=(x:Int)+1:=wrap64 (by omega) (by omega)
   have w2:IntKind.i64.wrap ((y:Int) - 1)=((y - 1:Nat):Int):=by rw[show(y:Int) - 1=((y - 1:Nat):Int) by omega];exact wrap64 (by omega) (by omega)
   have x0:(0:Int)≤x:=by omega
   have y0:(0:Int)≤y:=by omega
   have x1:(x:Int)<N:=by omega
   have y1:(y:Int)<N:=by omega
   obtain⟨z,hz⟩: ∃z,z=y - 1:=⟨_,rfl⟩
   rw[←hz]at w2⊢
   clear hx hy ih ih2 hz
   rw[floop_at i_zz13_B5.eq_1]
   simp (disch:=first|assumption|omega|(simp[*]<;>omega)|fail) [-getElem?_pos,gz_,gs_,hc,hl,oS,oC,u,dn,c',hix,hld,hst,hd,e4,w1,w2,x0,y0,x1,y1]
set_option maxHeartbeats 1000000 in
theorem c_told_part (d:Array Nat) (hd:d.size=N) (a b p:Nat) (hap:a≤p) (hpb:p<b) (hb:b≤N):
  vcall F nro k_zz13 [S,.int .i64 a,.int .i64 b,.int .i64 p,C] (H d)=some (.tuple #[.int .i64 ((partition (ltC cm) d a b p).1:Nat),.bool (partition (ltC cm) d a b p).2.1],H (partition (ltC cm) d a b p).2.2):=by
 have hc0:=fun q vs=>E.clean0 d q vs
 have hl:=E.ln
 have hN:=E.hN
 have hix:=E.idx
 have hld:=E.load
 have hst:=E.store
 obtain⟨d1,hd1⟩: ∃d1,d1=Go.Sort.swp d a p:=⟨_,rfl⟩
 have hs1:d1.size=N:=by rw[hd1];simpa using hd
 have e0:swI d (a:Int) (p:Int)=d1:=by rw[hd1];exact swI_swp _ _ _ _ _ rfl rfl
 unfold swI at e0
 have u:=l_told_up1 E a (b - 1) (by omega) (by omega) d1 d1 hs1 d1[a]! (getI_nat d1 a a rfl) b (a+1) (by omega) (by omega)
 have h1:=scanUp_ge (fun x=>ltC cm x d1[a]!) d1 (b - 1) (a+1)
 have dn:=l_told_dn1 E a (scanUp (fun x=>ltC cm x d1[a]!) d1 (b - 1) (a+1)) (by omega) (by omega) d1 d1 hs1 d1[a]! (getI_nat d1 a a rfl) (b - 1) (by omega)
 have h2:=scanDown_le (fun x=> !ltC cm x d1[a]!) d1 (scanUp (fun x=>ltC cm x d1[a]!) d1 (b - 1) (a+1)) (b - 1)
 have hdef:partition (ltC cm) d a b p=if scanUp (fun x=>ltC cm x d1[a]!) d1 (b - 1) (a+1)>scanDown (fun x=> !ltC cm x d1[a]!) d1 (scanUp (fun x=>ltC cm x d1[a]!) d1 (b - 1) (a+1)) (b - 1)then(scanDown (fun x=> !ltC cm x d1[a]!) d1 (scanUp (fun x=>ltC cm x d1[a]!) d1 (b - 1) (a+1)) (b - 1),true,Go.Sort.swp d1 (scanDown (fun x=> !ltC cm x d1[a]!) d1 (scanUp (fun x=>ltC cm x d1[a]!) d1 (b - 1) (a+1)) (b - 1)) a)else((partLoop (ltC cm) a (scanUp (fun x=>ltC cm x d1[a]!) d1 (b - 1) (a+1)+1) (scanDown (fun x=> !ltC cm x d1[a]!) d1 (scanUp (fun x=>ltC cm x d1[a]!) d1 (b - 1) (a+1)) (b - 1) - 1) (Go.Sort.swp d1 (scanUp (fun x=>ltC cm x d1[a]!) d1 (b - 1) (a+1)) (scanDown (fun x=> !ltC cm x d1[a]!) d1 (scanUp (fun x=>ltC cm x d1[a]!) d1 (b - 1) (a+1)) (b - 1)))).1,false,Go.Sort.swp (partLoop (ltC cm) a (scanUp (fun x=>ltC cm x d1[a]!) d1 (b - 1) (a+1)+1) (scanDown (fun x=> !ltC cm x d1[a]!) d1 (scanUp (fun x=>ltC cm x d1[a]!) d1 (b - 1) (a+1)) (b - 1) - 1) (Go.Sort.swp d1 (scanUp (fun x=>ltC cm x d1[a]!) d1 (b - 1) (a+1)) (scanDown (fun x=> !ltC cm x d1[a]!) d1 (scanUp (fun x=>ltC cm x d1[a]!) d1 (b - 1) (a+1)) (b - 1)))).2 (partLoop (ltC cm) a (scanUp (fun x=>ltC cm x d1[a]!) d1 (b - 1) (a+1)+1) (scanDown (fun x=> !ltC cm x d1[a]!) d1 (scanUp (fun x=>ltC cm x d1[a]!) d1 (b - 1) (a+1)) (b - 1) - 1) (Go.Sort.swp d1 (scanUp (fun x=>ltC cm x d1[a]!) d1 (b - 1) (a+1)) (scanDown (fun x=> !ltC cm x d1[a]!) d1 (scanUp (fun x=>ltC cm x d1[a]!) d1 (b - 1) (a+1)) (b - 1)))).1 a):=by
  rw[hd1];rfl
 rw[hdef]
 obtain⟨x,hx⟩: ∃x,x=scanUp (fun x=>ltC cm x d1[a]!) d1 (b - 1) (a+1):=⟨_,rfl⟩
 rw[←hx]at u dn h1 h2⊢
 obtain⟨y,hy⟩: ∃y,y=scanDown (fun x=> !ltC cm x d1[a]!) d1 x (b - 1):=⟨_,rfl⟩
 rw[←hy]at dn h2⊢
 have w1:IntKind.i64.wrap ((a:Int)+1)=((a+1:Nat):Int):=by rw[show(a:Int)+1=((a+1:Nat):Int) by omega];exact wrap64 (by omega) (by omega)
 have w2:IntKind.i64.wrap ((b:Int) - 1)=((b - 1:Nat):Int):=by rw[show(b:Int) - 1=((b - 1:Nat):Int) by omega];exact wrap64 (by omega) (by omega)
 have a0:(0:Int)≤a:=by omega
 have a1:(a:Int)<N:=by omega
 have p0:(0:Int)≤p:=by omega
 have p1:(p:Int)<N:=by omega
 have y0:(0:Int)≤y:=by omega
 have y1:(y:Int)<N:=by omega
 obtain⟨i1,hi1⟩: ∃i1,i1=a+1:=⟨_,rfl⟩
 obtain⟨j1,hj1⟩: ∃j1,j1=b - 1:=⟨_,rfl⟩
 rw[←hi1]at w1 u
 rw[←hj1]at w2 u dn
 by_cases c:x>y
 ·have c' :(y:Int)<x:=by omega
  rw[if_pos c]
  have e1:swI d1 (y:Int) (a:Int)=Go.Sort.swp d1 y a:=swI_swp _ _ _ _ _ rfl rfl
  unfold swI at e1
  clear hx hy hdef hd1 hi1 hj1
  refine v_zz13 (by simp[i_zz13]) ?_
  rw[fbody_eq]
  simp (disch:=first|assumption|omega|(simp[*]<;>omega)|fail) [-getElem?_pos,gz_,gs_,i_zz13,hc0,hl,hix,hld,hst,hd,hs1,e0,u,dn,c',e1,w1,w2,a0,a1,p0,p1,y0,y1,fresults,fresL,fres1]
 ·have c' : ¬(y:Int)<x:=by omega
  rw[if_neg c]
  obtain⟨d2,hd2⟩: ∃d2,d2=Go.Sort.swp d1 x y:=⟨_,rfl⟩
  have hs2:d2.size=N:=by rw[hd2];simpa using hs1
  have e2:swI d1 (x:Int) (y:Int)=d2:=by rw[hd2];exact swI_swp _ _ _ _ _ rfl rfl
  unfold swI at e2
  rw[←hd2]
  have lp:=l_told_part E a (by omega) d2 (y - 1+1 - (x+1)) (x+1) (y - 1) d2 hs2 (Nat.le_refl _) (by omega) (by omega) (by omega)
  obtain⟨z1,z2⟩:=partLoop_size (ltC cm) a _ (x+1) (y - 1) d2 (Nat.le_refl _)
  obtain⟨r,hr⟩: ∃r,r=partLoop (ltC cm) a (x+1) (y - 1) d2:=⟨_,rfl⟩
  rw[←hr]at lp z1 z2⊢
  obtain⟨r1,d3⟩:=r
  simp only at lp z1 z2⊢
  have hs3:d3.size=N:=by rw[z1];exact hs2
  have e3:swI d3 (r1:Int) (a:Int)=Go.Sort.swp d3 r1 a:=swI_swp _ _ _ _ _ rfl rfl
  unfold swI at e3
  have x0:(0:Int)≤x:=by omega
  have x1:(x:Int)<N:=by omega
  have r0:(0:Int)≤r1:=by omega
  have r2:(r1:Int)<N:=by omega
  have w3:IntKind.i64.wrap ((x:Int)+1)=((x+1:Nat):Int):=by rw[show(x:Int)+1=((x+1:Nat):Int) by omega];exact wrap64 (by omega) (by omega)
  have w4:IntKind.i64.wrap ((y:Int) - 1)=((y - 1:Nat):Int):=by rw[show(y:Int) - 1=((y - 1:Nat):Int) by omega];exact wrap64 (by omega) (by omega)
  obtain⟨i2,hi2⟩: ∃i2,i2=x+1:=⟨_,rfl⟩
  obtain⟨j2,hj2⟩: ∃j2,j2=y - 1:=⟨_,rfl⟩
  rw[←hi2]at w3 lp
  rw[←hj2]at w4 lp
  clear hx hy hdef hd1 hi1 hj1 hi2 hj2 hr z1 z2 hd2
  refine v_zz13 (by simp[i_zz13]) ?_
  rw[fbody_eq]
  simp (disch:=first|assumption|omega|(simp[*]<;>omega)|fail) [-getElem?_pos,gz_,gs_,i_zz13,hc0,hl,hix,hld,hst,hd,hs1,hs2,hs3,e0,u,dn,c',e2,e3,lp,w1,w2,w3,w4,a0,a1,p0,p1,x0,x1,y0,y1,r0,r2,fresults,fresL,fres1]
end
end

/- Sorting: partitions into equal and greater. -/
section
open Go Go.Sort
variable {nro:Nat} {S C:Value} {P:Int→Value} {ag:Nat→Value} {cm:Nat→Nat→Int} {N:Nat} {H:Array Nat→VH}
section
variable (E:SE nro true 3 S C P ag cm N H)
include E
set_option maxHeartbeats 1000000 in
theorem l_told_partE (a:Nat) (haN:a<N) (d0:Array Nat): ∀(n i j:Nat) (d:Array Nat),d.size=N→j+1 - i≤n→1≤i→i≤N→j<N→
  floop (vcall F nro) nro [0,1,4,11,12] i_zz3_B3 (H d0) [S,.int .i64 a,C,.int .i64 i,.int .i64 j] (H d)=some (.exit 0,fl [(11,.int .i64 ((partEqLoop (ltC cm) a i j d).1:Nat))],H (partEqLoop (ltC cm) a i j d).2):=by
 intro n
 induction n with
 | zero =>
  intro i j d hd hn hi hiN hj
  have hc:=fun q=>E.clean0 d0 q
  have hl:=E.ln
  have oS:=E.oS
  have oC:=E.oC
  have u:=l_told_up3 E a j haN hj d d hd d[a]! (getI_nat d a a rfl) (j+1) i (by omega) hiN
  have h1:=scanUp_ge (fun x=> !ltC cm d[a]! x) d j i
  have dn:=l_told_dn3 E a (scanUp (fun x=> !ltC cm d[a]! x) d j i) haN (by omega) d d hd d[a]! (getI_nat d a a rfl) j hj
  have h2:=scanDown_le (fun x=>ltC cm d[a]! x) d (scanUp (fun x=> !ltC cm d[a]! x) d j i) j
  rw[partEqLoop_eq]
  obtain⟨x,hx⟩: ∃x,x=scanUp (fun x=> !ltC cm d[a]! x) d j i:=⟨_,rfl⟩
  rw[←hx]at u dn h1 h2⊢
  obtain⟨y,hy⟩: ∃y,y=scanDown (fun x=>ltC cm d[a]! x) d x j:=⟨_,rfl⟩
  rw[←hy]at dn h2⊢
  have c:x>y:=by omega
  have c' :(y:Int)<x:=by omega
  rw[if_pos c]
  clear hx hy
  rw[floop_at i_zz3_B3.eq_1]
  simp (disch:=first|assumption|omega|(simp[*]<;>omega)|fail) [-getElem?_pos,gz_,gs_,hc,hl,oS,oC,u,dn,c']
 | succ n ih =>
  intro i j d hd hn hi hiN hj
  have hc:=fun q=>E.clean0 d0 q
  have hl:=E.ln
  have oS:=E.oS
  have oC:=E.oC
  have hN:=E.hN
  have hix:=E.idx
  have hld:=E.load
  have hst:=E.store
  have u:=l_told_up3 E a j haN hj d d hd d[a]! (getI_nat d a a rfl) (j+1) i (by omega) hiN
  have h1:=scanUp_ge (fun x=> !ltC cm d[a]! x) d j i
  have dn:=l_told_dn3 E a (scanUp (fun x=> !ltC cm d[a]! x) d j i) haN (by omega) d d hd d[a]! (getI_nat d a a rfl) j hj
  have h2:=scanDown_le (fun x=>ltC cm d[a]! x) d (scanUp (fun x=> !ltC cm d[a]! x) d j i) j
  rw[partEqLoop_eq]
  obtain⟨x,hx⟩: ∃x,x=scanUp (fun x=> !ltC cm d[a]! x) d j i:=⟨_,rfl⟩
  rw[←hx]at u dn h1 h2⊢
  obtain⟨y,hy⟩: ∃y,y=scanDown (fun x=>ltC cm d[a]! x) d x j:=⟨_,rfl⟩
  rw[←hy]at dn h2⊢
  by_cases c:x>y
  ·have c' :(y:Int)<x:=by omega
   rw[if_pos c]
   clear hx hy ih
   rw[floop_at i_zz3_B3.eq_1]
   simp (disch:=first|assumption|omega|(simp[*]<;>omega)|fail) [-getElem?_pos,gz_,gs_,hc,hl,oS,oC,u,dn,c']
  ·have c' : ¬(y:Int)<x:=by omega
   rw[if_neg c]
   have ih2:=ih (x+1) (y - 1) (Go.Sort.swp d x y) (by simpa using hd) (by omega) (by omega) (by omega) (by omega)
   rw[←ih2]
   have e4:swI d (x:Int) (y:Int)=Go.Sort.swp d x y:=swI_swp _ _ _ _ _ rfl rfl
   unfold swI at e4
   have w1:IntKind.i64.wrap ((x:Int)+1)=(x:Int)+1:=wrap64 (by omega) (by omega)
   have w2:IntKind.i64.wrap ((y:Int) - 1)=((y - 1:Nat):Int):=by rw[show(y:Int) - 1=((y - 1:Nat):Int) by omega];exact wrap64 (by omega) (by omega)
   have x0:(0:Int)≤x:=by omega
   have y0:(0:Int)≤y:=by omega
   have x1:(x:Int)<N:=by omega
   have y1:(y:Int)<N:=by omega
   obtain⟨z,hz⟩: ∃z,z=y - 1:=⟨_,rfl⟩
   rw[←hz]at w2⊢
   clear hx hy ih ih2 hz
   rw[floop_at i_zz3_B3.eq_1]
   simp (disch:=first|assumption|omega|(simp[*]<;>omega)|fail) [-getElem?_pos,gz_,gs_,hc,hl,oS,oC,u,dn,c',hix,hld,hst,hd,e4,w1,w2,x0,y0,x1,y1]
theorem c_told_partE (d:Array Nat) (hd:d.size=N) (a b p:Nat) (hap:a≤p) (hpb:p<b) (hb:b≤N):
  vcall F nro k_zz3 [S,.int .i64 a,.int .i64 b,.int .i64 p,C] (H d)=some (.int .i64 ((partitionEqual (ltC cm) d a b p).1:Nat),H (partitionEqual (ltC cm) d a b p).2):=by
 have hc0:=fun q vs=>E.clean0 d q vs
 have hl:=E.ln
 have hN:=E.hN
 have hix:=E.idx
 have hld:=E.load
 have hst:=E.store
 unfold partitionEqual
 obtain⟨d1,hd1⟩: ∃d1,d1=Go.Sort.swp d a p:=⟨_,rfl⟩
 have hs1:d1.size=N:=by rw[hd1];simpa using hd
 have e0:swI d (a:Int) (p:Int)=d1:=by rw[hd1];exact swI_swp _ _ _ _ _ rfl rfl
 unfold swI at e0
 rw[←hd1]
 have lp:=l_told_partE E a (by omega) d1 (b - 1+1 - (a+1)) (a+1) (b - 1) d1 hs1 (Nat.le_refl _) (by omega) (by omega) (by omega)
 obtain⟨r,hr⟩: ∃r,r=partEqLoop (ltC cm) a (a+1) (b - 1) d1:=⟨_,rfl⟩
 rw[←hr]at lp⊢
 have w1:IntKind.i64.wrap ((a:Int)+1)=((a+1:Nat):Int):=by rw[show(a:Int)+1=((a+1:Nat):Int) by omega];exact wrap64 (by omega) (by omega)
 have w2:IntKind.i64.wrap ((b:Int) - 1)=((b - 1:Nat):Int):=by rw[show(b:Int) - 1=((b - 1:Nat):Int) by omega];exact wrap64 (by omega) (by omega)
 have a0:(0:Int)≤a:=by omega
 have a1:(a:Int)<N:=by omega
 have p0:(0:Int)≤p:=by omega
 have p1:(p:Int)<N:=by omega
 obtain⟨i1,hi1⟩: ∃i1,i1=a+1:=⟨_,rfl⟩
 obtain⟨j1,hj1⟩: ∃j1,j1=b - 1:=⟨_,rfl⟩
 rw[←hi1]at w1 lp
 rw[←hj1]at w2 lp
 clear hr hi1 hj1 hd1
 refine v_zz3 (by simp[i_zz3]) ?_
 rw[fbody_eq]
 simp (disch:=first|assumption|omega|(simp[*]<;>omega)|fail) [-getElem?_pos,gz_,gs_,i_zz3,hc0,hl,hix,hld,hst,hd,hs1,e0,lp,w1,w2,a0,a1,p0,p1,fresults,fresL,fres1]
theorem l_told_sorted (a b s:Nat) (hb:b≤N) (d0 d:Array Nat) (hd:d.size=N): ∀(k i:Nat),b≤i+k→1≤i→i≤N→
  floop (vcall F nro) nro [0,1,2,3,9,10] i_zz0_B1 (H d0) [S,.int .i64 a,.int .i64 b,C,.int .i64 i,.int .i64 s] (H d)=some (.exit 2,fl [(0,S),(1,.int .i64 a),(2,.int .i64 b),(3,C),(9,.int .i64 ((scanSorted (ltC cm) d b i:Nat):Int)),(10,.int .i64 s)],H d):=by
 have hc:=fun q=>E.clean0 d0 q
 have hl:=E.ln
 have oS:=E.oS
 have oC:=E.oC
 have hN:=E.hN
 have hix:=E.idx
 have hld:=E.load
 have hcm:=E.cmp
 intro k
 induction k with
 | zero =>
  intro i hk hi hiN
  have c1: ¬(i:Int)<b:=by omega
  have c2: ¬i<b:=by omega
  rw[scanSorted,if_neg (by simp[c2]),floop_at i_zz0_B1.eq_1]
  simp (disch:=first|assumption|omega|(simp[*]<;>omega)|fail) [-getElem?_pos,gz_,gs_,hc,hl,oS,oC,c1,c2]
 | succ k ih =>
  intro i hk hi hiN
  by_cases c1:i<b
  ·have c1' :(i:Int)<b:=by omega
   have gi:=getI_nat d (i:Int) i rfl
   have gj:=getI_nat d ((i:Int) - 1) (i - 1) (by omega)
   have i0:(0:Int)≤i:=by omega
   have i1:(i:Int)<N:=by omega
   have j0:(0:Int)≤(i:Int) - 1:=by omega
   have j1:(i:Int) - 1<N:=by omega
   have w1:IntKind.i64.wrap ((i:Int)+1)=(i:Int)+1:=wrap64 (by omega) (by omega)
   have w2:IntKind.i64.wrap ((i:Int) - 1)=(i:Int) - 1:=wrap64 (by omega) (by omega)
   rw[scanSorted,←gi,←gj]
   by_cases c2:cm (getI d (i:Int)) (getI d ((i:Int) - 1))<0
   ·have e2:ltC cm (getI d (i:Int)) (getI d ((i:Int) - 1))=true:=decide_eq_true c2
    rw[if_neg (by simp[e2])]
    clear ih gi gj e2
    rw[floop_at i_zz0_B1.eq_1]
    simp (disch:=first|assumption|omega|(simp[*]<;>omega)|fail) [-getElem?_pos,gz_,gs_,hc,hl,oS,oC,hix,hld,hcm,hd,c1',c1,c2,i0,i1,j0,j1,w1,w2]
   ·have e2:ltC cm (getI d (i:Int)) (getI d ((i:Int) - 1))=false:=decide_eq_false c2
    rw[if_pos (by simp[c1,e2])]
    have ih2:=ih (i+1) (by omega) (by omega) (by omega)
    rw[←ih2]
    clear ih ih2 gi gj e2
    rw[floop_at i_zz0_B1.eq_1]
    simp (disch:=first|assumption|omega|(simp[*]<;>omega)|fail) [-getElem?_pos,gz_,gs_,hc,hl,oS,oC,hix,hld,hcm,hd,c1',c1,c2,i0,i1,j0,j1,w1,w2]
  ·have c1' : ¬(i:Int)<b:=by omega
   rw[scanSorted,if_neg (by simp[c1]),floop_at i_zz0_B1.eq_1]
   simp (disch:=first|assumption|omega|(simp[*]<;>omega)|fail) [-getElem?_pos,gz_,gs_,hc,hl,oS,oC,c1',c1]
omit E in
theorem shiftDown_size (lt:Nat→Nat→Bool): ∀(j:Nat) (d:Array Nat),(shiftDown lt j d).size=d.size
 | 0, d => rfl
 | j + 1, d => by
  unfold shiftDown
  split
  ·rfl
  ·rw[shiftDown_size lt j];simp
omit E in
theorem shiftUp_size (lt:Nat→Nat→Bool) (b:Nat) (j:Nat) (d:Array Nat):(shiftUp lt b j d).size=d.size:=by
  rw[shiftUp]
  split
  · split
    · rfl
    · rw[shiftUp_size lt b (j+1)];simp
  · rfl
 termination_by b - j
theorem l_told_shd (a b i s:Nat) (d0:Array Nat): ∀(j:Nat) (d:Array Nat),d.size=N→j<N→
  floop (vcall F nro) nro [0,1,2,3,9,10,11] i_zz0_B2 (H d0) [S,.int .i64 a,.int .i64 b,C,.int .i64 i,.int .i64 s,.int .i64 j] (H d)=some (.exit 4,fl [(0,S),(1,.int .i64 a),(2,.int .i64 b),(3,C),(9,.int .i64 i),(10,.int .i64 s)],H (shiftDown (ltC cm) j d))
 | 0, d, hd, hj => by
  have hc:=E.clean0 d0 d
  have hl:=E.ln
  have oS:=E.oS
  have oC:=E.oC
  rw[floop_at i_zz0_B2.eq_1]
  unfold shiftDown
  simp (disch:=first|assumption|omega|(simp[*]<;>omega)|fail) [-getElem?_pos,gz_,gs_,hc,hl,oS,oC]
 | j + 1, d, hd, hj => by
  have hc:=fun q=>E.clean0 d0 q
  have hl:=E.ln
  have oS:=E.oS
  have oC:=E.oC
  have hN:=E.hN
  have hi:=E.idx
  have hld:=E.load
  have hst:=E.store
  have hcm:=E.cmp
  have w2:IntKind.i64.wrap (j:Int)=j:=wrap64 (by omega) (by omega)
  have g1:=getI_nat d ((j:Int)+1) (j+1) (by omega)
  have g2:=getI_nat d (j:Int) j rfl
  have k1:(0:Int)≤(j:Int)+1:=by omega
  have k2:(j:Int)+1<N:=by omega
  have k3:(j:Int)<N:=by omega
  have k4:(1:Int)≤(j:Int)+1:=by omega
  unfold shiftDown
  rw[←g1,←g2]
  by_cases c2:cm (getI d ((j:Int)+1)) (getI d (j:Int))<0
  ·have e2:ltC cm (getI d ((j:Int)+1)) (getI d (j:Int))=true:=decide_eq_true c2
   have ih:=l_told_shd a b i s d0 j (Go.Sort.swp d (j+1) j) (by simpa using hd) (by omega)
   have e3:swI d ((j:Int)+1) j=Go.Sort.swp d (j+1) j:=swI_swp _ _ _ _ _ (by omega) rfl
   unfold swI at e3
   rw[if_neg (by simp[e2]),←ih]
   clear ih g1 g2
   rw[floop_at i_zz0_B2.eq_1]
   simp (disch:=first|assumption|omega|(simp[*]<;>omega)|fail) [-getElem?_pos,gz_,gs_,hc,hl,oS,oC,hi,hld,hst,hcm,hd,w2,k1,k2,k3,k4,c2,e3]
  ·have e2:ltC cm (getI d ((j:Int)+1)) (getI d (j:Int))=false:=decide_eq_false c2
   rw[if_pos (by simp[e2])]
   clear g1 g2
   rw[floop_at i_zz0_B2.eq_1]
   simp (disch:=first|assumption|omega|(simp[*]<;>omega)|fail) [-getElem?_pos,gz_,gs_,hc,hl,oS,oC,hi,hld,hst,hcm,hd,w2,k1,k2,k3,k4,c2]
theorem l_told_shu (a b i s:Nat) (hb:b≤N) (d0:Array Nat): ∀(k j:Nat) (d:Array Nat),d.size=N→b≤j+k→1≤j→j≤N+1→
  floop (vcall F nro) nro [0,1,2,3,9,10,12] i_zz0_B3 (H d0) [S,.int .i64 a,.int .i64 b,C,.int .i64 i,.int .i64 s,.int .i64 j] (H d)=some (.exit 6,fl [(0,S),(1,.int .i64 a),(2,.int .i64 b),(3,C),(9,.int .i64 i),(10,.int .i64 s)],H (shiftUp (ltC cm) b j d)):=by
 have hc:=fun q=>E.clean0 d0 q
 have hl:=E.ln
 have oS:=E.oS
 have oC:=E.oC
 have hN:=E.hN
 have hi:=E.idx
 have hld:=E.load
 have hst:=E.store
 have hcm:=E.cmp
 intro k
 induction k with
 | zero =>
  intro j d hd hk hj hjN
  have c1: ¬(j:Int)<b:=by omega
  rw[shiftUp,if_neg (by omega),floop_at i_zz0_B3.eq_1]
  simp (disch:=first|assumption|omega|(simp[*]<;>omega)|fail) [-getElem?_pos,gz_,gs_,hc,hl,oS,oC,c1]
 | succ k ih =>
  intro j d hd hk hj hjN
  by_cases c1:j<b
  ·have c1' :(j:Int)<b:=by omega
   have g1:=getI_nat d (j:Int) j rfl
   have g2:=getI_nat d ((j:Int) - 1) (j - 1) (by omega)
   have k1:(0:Int)≤j:=by omega
   have k2:(j:Int)<N:=by omega
   have k3:(0:Int)≤(j:Int) - 1:=by omega
   have k4:(j:Int) - 1<N:=by omega
   have w1:IntKind.i64.wrap ((j:Int) - 1)=(j:Int) - 1:=wrap64 (by omega) (by omega)
   have w2:IntKind.i64.wrap ((j:Int)+1)=(j:Int)+1:=wrap64 (by omega) (by omega)
   rw[shiftUp,if_pos c1,←g1,←g2]
   by_cases c2:cm (getI d (j:Int)) (getI d ((j:Int) - 1))<0
   ·have e2:ltC cm (getI d (j:Int)) (getI d ((j:Int) - 1))=true:=decide_eq_true c2
    have ih2:=ih (j+1) (Go.Sort.swp d j (j - 1)) (by simpa using hd) (by omega) (by omega) (by omega)
    have e3:swI d (j:Int) ((j:Int) - 1)=Go.Sort.swp d j (j - 1):=swI_swp _ _ _ _ _ rfl (by omega)
    unfold swI at e3
    rw[if_neg (by simp[e2]),←ih2]
    clear ih ih2 g1 g2
    rw[floop_at i_zz0_B3.eq_1]
    simp (disch:=first|assumption|omega|(simp[*]<;>omega)|fail) [-getElem?_pos,gz_,gs_,hc,hl,oS,oC,hi,hld,hst,hcm,hd,w1,w2,k1,k2,k3,k4,c1',c2,e3]
   ·have e2:ltC cm (getI d (j:Int)) (getI d ((j:Int) - 1))=false:=decide_eq_false c2
    rw[if_pos (by simp[e2])]
    clear ih g1 g2
    rw[floop_at i_zz0_B3.eq_1]
    simp (disch:=first|assumption|omega|(simp[*]<;>omega)|fail) [-getElem?_pos,gz_,gs_,hc,hl,oS,oC,hi,hld,hst,hcm,hd,w1,w2,k1,k2,k3,k4,c1',c2]
  ·have c1' : ¬(j:Int)<b:=by omega
   rw[shiftUp,if_neg c1,floop_at i_zz0_B3.eq_1]
   simp (disch:=first|assumption|omega|(simp[*]<;>omega)|fail) [-getElem?_pos,gz_,gs_,hc,hl,oS,oC,c1']
end
end

/- Sorting: partial insertion. -/
section
open Go Go.Sort
variable {nro:Nat} {S C:Value} {P:Int→Value} {ag:Nat→Value} {cm:Nat→Nat→Int} {N:Nat} {H:Array Nat→VH}
theorem scanSorted_rng (lt:Nat→Nat→Bool) (d:Array Nat) (b:Nat) (i:Nat):i≤scanSorted lt d b i∧(i≤b→scanSorted lt d b i≤b):=by
  by_cases c:(decide (i<b) && !lt d[i]! d[i - 1]!)=true
  · rw [scanSorted, if_pos c]
    have hlt:i<b:=by simp at c;exact c.1
    have:=scanSorted_rng lt d b (i+1)
    omega
  · rw [scanSorted, if_neg c]
    omega
 termination_by b - i
 decreasing_by omega
section
variable (E:SE nro true 3 S C P ag cm N H)
include E
set_option maxHeartbeats 2000000 in
theorem l_told_pis (a b:Nat) (hab:a<b) (hb:b≤N) (d0:Array Nat): ∀(s j i:Nat) (d:Array Nat),j+s=5→d.size=N→a+1≤i→i≤b→
  ∃x e,((x= .ret∧e=fl [(8,.bool (partialIns (ltC cm) a b s i d).2)])∨(x= .exit 0∧e=fl []∧(partialIns (ltC cm) a b s i d).2=false))∧floop (vcall F nro) nro [0,1,2,3,9,10] i_zz0_B4 (H d0) [S,.int .i64 a,.int .i64 b,C,.int .i64 i,.int .i64 j] (H d)=some (x,e,H (partialIns (ltC cm) a b s i d).1)∧(partialIns (ltC cm) a b s i d).1.size=N:=by
 intro s
 induction s with
 | zero =>
  intro j i d hj hd hi hib
  have hc:=fun q=>E.clean0 d0 q
  have hl:=E.ln
  have oS:=E.oS
  have oC:=E.oC
  refine⟨.exit 0,fl [],.inr ⟨rfl,rfl,rfl⟩,?_,hd⟩
  have c: ¬(j:Int)<5:=by omega
  rw[floop_at i_zz0_B4.eq_1]
  unfold partialIns
  simp (disch:=first|assumption|omega|(simp[*]<;>omega)|fail) [-getElem?_pos,gz_,gs_,hc,hl,oS,oC,c]
 | succ s ih =>
  intro j i d hj hd hi hib
  have hc:=fun q=>E.clean0 d0 q
  have hl:=E.ln
  have oS:=E.oS
  have oC:=E.oC
  have hN:=E.hN
  have hix:=E.idx
  have hld:=E.load
  have hst:=E.store
  have c5:(j:Int)<5:=by omega
  have lp:=l_told_sorted E a b j hb d d hd b i (by omega) (by omega) (by omega)
  have hr:=scanSorted_rng (ltC cm) d b i
  rw[partialIns_succ]
  obtain⟨x,hx⟩: ∃x,x=scanSorted (ltC cm) d b i:=⟨_,rfl⟩
  rw[←hx]at lp hr⊢
  obtain⟨r1,r2⟩:=hr
  have r3:=r2 hib
  clear r2 hx
  by_cases c1:x=b
  ·rw[if_pos c1]
   refine⟨.ret,fl [(8,.bool true)],.inl ⟨rfl,rfl⟩,?_,hd⟩
   have c1' :(x:Int)=b:=by omega
   clear ih
   rw[floop_at i_zz0_B4.eq_1]
   simp (disch:=first|assumption|omega|(simp[*]<;>omega)|fail) [-getElem?_pos,gz_,gs_,hc,hl,oS,oC,c5,lp,c1',c1]
  ·have c1' : ¬(x:Int)=b:=by omega
   rw[if_neg c1]
   obtain⟨len,hlen⟩: ∃len,len=b - a:=⟨_,rfl⟩
   have w0:IntKind.i64.wrap ((b:Int) - a)=len:=by rw[show(b:Int) - a=len by omega];exact wrap64 (by omega) (by omega)
   rw[←hlen]
   by_cases c2:len<50
   ·rw[if_pos c2]
    refine⟨.ret,fl [(8,.bool false)],.inl ⟨rfl,rfl⟩,?_,hd⟩
    have c2' :(len:Int)<50:=by omega
    clear ih
    rw[floop_at i_zz0_B4.eq_1]
    simp (disch:=first|assumption|omega|(simp[*]<;>omega)|fail) [-getElem?_pos,gz_,gs_,hc,hl,oS,oC,c5,lp,c1',c1,w0,c2']
   ·rw[if_neg c2]
    have c2' : ¬(len:Int)<50:=by omega
    obtain⟨d1,hd1⟩: ∃d1,d1=Go.Sort.swp d x (x - 1):=⟨_,rfl⟩
    have hs1:d1.size=N:=by rw[hd1];simpa using hd
    have e1:swI d (x:Int) ((x:Int) - 1)=d1:=by rw[hd1];exact swI_swp _ _ _ _ _ rfl (by omega)
    unfold swI at e1
    have w1:IntKind.i64.wrap ((x:Int) - 1)=(x:Int) - 1:=wrap64 (by omega) (by omega)
    have w2:IntKind.i64.wrap ((x:Int) - a)=(x:Int) - a:=wrap64 (by omega) (by omega)
    have w3:IntKind.i64.wrap ((b:Int) - x)=(b:Int) - x:=wrap64 (by omega) (by omega)
    have w4:IntKind.i64.wrap ((x:Int)+1)=(x:Int)+1:=wrap64 (by omega) (by omega)
    have w5:IntKind.i64.wrap ((j:Int)+1)=(j:Int)+1:=wrap64 (by omega) (by omega)
    have x0:(0:Int)≤x:=by omega
    have x1:(x:Int)<N:=by omega
    have y0:(0:Int)≤(x:Int) - 1:=by omega
    have y1:(x:Int) - 1<N:=by omega
    rw[←hd1]
    have sd:=l_told_shd E a b x j d1 (x - 1) d1 hs1 (by omega)
    rw[show((x - 1:Nat):Int)=(x:Int) - 1 by omega]at sd
    unfold fixUp fixDown
    by_cases c3:x - a≥2
    ·have c3' :(2:Int)≤(x:Int) - a:=by omega
     rw[if_pos c3]
     obtain⟨d2,hd2⟩: ∃d2,d2=shiftDown (ltC cm) (x - 1) d1:=⟨_,rfl⟩
     have hs2:d2.size=N:=by rw[hd2,shiftDown_size];exact hs1
     rw[←hd2]at sd⊢
     by_cases c4:b - x≥2
     ·have c4' :(2:Int)≤(b:Int) - x:=by omega
      rw[if_pos c4]
      have su:=l_told_shu E a b x j hb d2 b (x+1) d2 hs2 (by omega) (by omega) (by omega)
      rw[show((x+1:Nat):Int)=(x:Int)+1 by omega]at su
      obtain⟨d3,hd3⟩: ∃d3,d3=shiftUp (ltC cm) b (x+1) d2:=⟨_,rfl⟩
      have hs3:d3.size=N:=by rw[hd3,shiftUp_size];exact hs2
      rw[←hd3]at su⊢
      obtain⟨X,e,q1,q2,q3⟩:=ih (j+1) x d3 (by omega) hs3 (by omega) (by omega)
      refine⟨X,e,q1,?_,q3⟩
      rw[←q2]
      clear ih q1 q2 q3 hd1 hd2 hd3
      rw[floop_at i_zz0_B4.eq_1]
      simp (disch:=first|assumption|omega|(simp[*]<;>omega)|fail) [-getElem?_pos,gz_,gs_,hc,hl,oS,oC,hix,hld,hst,hd,hs1,c5,lp,c1',c1,w0,c2',e1,w1,w2,w3,w4,w5,x0,x1,y0,y1,c3',sd,c4',su]
     ·have c4' : ¬(2:Int)≤(b:Int) - x:=by omega
      rw[if_neg c4]
      obtain⟨X,e,q1,q2,q3⟩:=ih (j+1) x d2 (by omega) hs2 (by omega) (by omega)
      refine⟨X,e,q1,?_,q3⟩
      rw[←q2]
      clear ih q1 q2 q3 hd1 hd2
      rw[floop_at i_zz0_B4.eq_1]
      simp (disch:=first|assumption|omega|(simp[*]<;>omega)|fail) [-getElem?_pos,gz_,gs_,hc,hl,oS,oC,hix,hld,hst,hd,hs1,c5,lp,c1',c1,w0,c2',e1,w1,w2,w3,w4,w5,x0,x1,y0,y1,c3',sd,c4']
    ·have c3' : ¬(2:Int)≤(x:Int) - a:=by omega
     rw[if_neg c3]
     by_cases c4:b - x≥2
     ·have c4' :(2:Int)≤(b:Int) - x:=by omega
      rw[if_pos c4]
      have su:=l_told_shu E a b x j hb d1 b (x+1) d1 hs1 (by omega) (by omega) (by omega)
      rw[show((x+1:Nat):Int)=(x:Int)+1 by omega]at su
      obtain⟨d3,hd3⟩: ∃d3,d3=shiftUp (ltC cm) b (x+1) d1:=⟨_,rfl⟩
      have hs3:d3.size=N:=by rw[hd3,shiftUp_size];exact hs1
      rw[←hd3]at su⊢
      obtain⟨X,e,q1,q2,q3⟩:=ih (j+1) x d3 (by omega) hs3 (by omega) (by omega)
      refine⟨X,e,q1,?_,q3⟩
      rw[←q2]
      clear ih q1 q2 q3 hd1 hd3 sd
      rw[floop_at i_zz0_B4.eq_1]
      simp (disch:=first|assumption|omega|(simp[*]<;>omega)|fail) [-getElem?_pos,gz_,gs_,hc,hl,oS,oC,hix,hld,hst,hd,hs1,c5,lp,c1',c1,w0,c2',e1,w1,w2,w3,w4,w5,x0,x1,y0,y1,c3',c4',su]
     ·exfalso;omega
theorem c_told_pis (a b:Nat) (hab:a<b) (hb:b≤N) (d:Array Nat) (hd:d.size=N):
  vcall F nro k_zz0 [S,.int .i64 a,.int .i64 b,C] (H d)=some (.bool (partialInsertionSort (ltC cm) d a b).2,H (partialInsertionSort (ltC cm) d a b).1)∧(partialInsertionSort (ltC cm) d a b).1.size=N:=by
 have hc0:=fun q vs=>E.clean0 d q vs
 have hN:=E.hN
 obtain⟨x,e,q1,lp,q3⟩:=l_told_pis E a b hab hb d 5 0 (a+1) d rfl hd (Nat.le_refl _) (by omega)
 refine⟨?_,q3⟩
 unfold partialInsertionSort
 obtain⟨r,hr⟩: ∃r,r=partialIns (ltC cm) a b 5 (a+1) d:=⟨_,rfl⟩
 rw[←hr]at lp q1⊢
 obtain⟨r1,r2⟩:=r
 simp only[Int.natCast_add,Int.natCast_one,Int.natCast_zero]at lp q1⊢
 have w1:IntKind.i64.wrap ((a:Int)+1)=(a:Int)+1:=wrap64 (by omega) (by omega)
 clear hr q3
 refine v_zz0 (by simp[i_zz0]) ?_
 rw[fbody_eq]
 rcases q1 with⟨rfl,rfl⟩|⟨rfl,rfl,rfl⟩
 ·simp (disch:=first|assumption|omega|(simp[*]<;>omega)|fail) [-getElem?_pos,gz_,gs_,i_zz0,w1,lp,hc0,fresults,fresL,fres1]
 ·simp (disch:=first|assumption|omega|(simp[*]<;>omega)|fail) [-getElem?_pos,gz_,gs_,i_zz0,w1,lp,hc0,fresults,fresL,fres1]
end
end

/- Sorting: the whole. -/
section
open Go Go.Sort
variable {nro:Nat} {S C:Value} {P:Int→Value} {ag:Nat→Value} {cm:Nat→Nat→Int} {N:Nat} {H:Array Nat→VH}
def unblock:FC→FC
 | .block _ c => c
 | c => c
abbrev pdB:FC:=unblock i_zz18_B1
structure PE (S C:Value) (e:FE) (a b:Nat) (lim:Int) (wb wp:Bool):Prop where
 e0:e 0=S
 e1:e 1= .int .i64 a
 e2:e 2= .int .i64 b
 e3:e 3= .int .i64 lim
 e4:e 4=C
 e10:e 10= .bool wb
 e11:e 11= .bool wp
section
variable (E:SX nro true 3 S C P ag cm N H) (hS:SWO (ltC cm)) (hN255:N≤255)
include E hS
theorem pdq_A (a b:Nat) (hab:a≤b) (hb:b≤N) (d:Array Nat) (hd:d.size=N) (lim:Int) (wb wp:Bool) (e:FE) (p:PE S C e a b lim wb wp):
  (∃d',d'.size=N∧PermIn a b d d' ∧SortedIn (ltC cm) a b d' ∧fcode (vcall F nro) nro (takeS 2 pdB) e (H d)=some (.ret,fl [],H d'))∨
  (12<b - a∧lim≠0∧ ∃e',fcode (vcall F nro) nro (takeS 2 pdB) e (H d)=some (.normal,e',H d)∧PE S C e' a b lim wb wp∧e' 12= .int .i64 ((b - a:Nat):Int)):=by
 have hN:=E.base.hN
 have w0:IntKind.i64.wrap ((b:Int) - a)=((b - a:Nat):Int):=by rw[show(b:Int) - a=((b - a:Nat):Int) by omega];exact wrap64 (by omega) (by omega)
 have p0:=p.e0
 have p1:=p.e1
 have p2:=p.e2
 have p3:=p.e3
 have p4:=p.e4
 by_cases c1:b - a≤12
 ·left
  have hc:=c_told_ins E.base a b d hd hb (by omega)
  obtain⟨q1,q2⟩:=insertionSort_holds (lt:=ltC cm) hS d a b hab (by omega)
  refine⟨_,by rw[q1.1];exact hd,q1,q2,?_⟩
  have c1' :((b - a:Nat):Int)≤12:=by omega
  obtain⟨r,hr⟩: ∃r,r=insertionSort (ltC cm) d a b:=⟨_,rfl⟩
  rw[←hr]at hc⊢
  clear hr q1 q2
  simp (disch:=first|assumption|omega|(simp[*]<;>omega)|fail) [-getElem?_pos,gz_,gs_,pdB,unblock,i_zz18_B1,takeS,p0,p1,p2,p3,p4,w0,c1',hc]
 ·have c1' : ¬((b - a:Nat):Int)≤12:=by omega
  by_cases c2:lim=0
  ·left
   have hc:=c_told_heap E.base a b d hd hab hb
   obtain⟨q1,q2⟩:=heapSort_holds (lt:=ltC cm) hS d a b hab (by omega)
   refine⟨_,by rw[q1.1];exact hd,q1,q2,?_⟩
   obtain⟨r,hr⟩: ∃r,r=heapSort (ltC cm) d a b:=⟨_,rfl⟩
   rw[←hr]at hc⊢
   clear hr q1 q2
   simp (disch:=first|assumption|omega|(simp[*]<;>omega)|fail) [-getElem?_pos,gz_,gs_,pdB,unblock,i_zz18_B1,takeS,p0,p1,p2,p3,p4,w0,c1',c2,hc]
  ·right
   refine⟨by omega,c2,?_⟩
   have p10:=p.e10
   have p11:=p.e11
   have hgoal: ∃e',fcode (vcall F nro) nro (takeS 2 pdB) e (H d)=some (.normal,e',H d)∧((e' 0=S∧e' 1= .int .i64 a∧e' 2= .int .i64 b∧e' 3= .int .i64 lim∧e' 4=C∧e' 10= .bool wb∧e' 11= .bool wp)∧e' 12= .int .i64 ((b - a:Nat):Int)):=by
    simp (disch:=first|assumption|omega|(simp[*]<;>omega)|fail) [-getElem?_pos,gz_,gs_,pdB,unblock,i_zz18_B1,takeS,p0,p1,p2,p3,p4,p10,p11,w0,c1',c2]
   obtain⟨e',h1,⟨q0,q1,q2,q3,q4,q5,q6⟩,h2⟩:=hgoal
   exact⟨e',h1,⟨q0,q1,q2,q3,q4,q5,q6⟩,h2⟩
omit hS in
theorem pdq_B (hN255:N≤255) (a b:Nat) (hab:a≤b) (hb:b≤N) (d:Array Nat) (hd:d.size=N) (lim:Int) (hl0:1≤lim) (hl1:lim≤255) (wb wp:Bool) (e:FE) (x:Value) (p:PE S C e a b lim wb wp) (p12:e 12=x):
  ∃e' d1 lim',fcode (vcall F nro) nro (takeS 0 (dropS 3 pdB)) e (H d)=some (.normal,e',H d1)∧d1.size=N∧PermIn a b d d1∧(0≤lim' ∧lim' ≤255)∧PE S C e' a b lim' wb wp∧e' 12=x:=by
 have p0:=p.e0
 have p1:=p.e1
 have p2:=p.e2
 have p3:=p.e3
 have p4:=p.e4
 have p10:=p.e10
 have p11:=p.e11
 cases wb with
 | true =>
  have hgoal: ∃e',fcode (vcall F nro) nro (takeS 0 (dropS 3 pdB)) e (H d)=some (.normal,e',H d)∧((e' 0=S∧e' 1= .int .i64 a∧e' 2= .int .i64 b∧e' 3= .int .i64 lim∧e' 4=C∧e' 10= .bool true∧e' 11= .bool wp)∧e' 12=x):=by
   simp (disch:=first|assumption|omega|(simp[*]<;>omega)|fail) [-getElem?_pos,gz_,gs_,pdB,unblock,i_zz18_B1,takeS,dropS,p0,p1,p2,p3,p4,p10,p11,p12]
  obtain⟨e',h1,⟨r0,r1,r2,r3,r4,r5,r6⟩,h2⟩:=hgoal
  exact⟨e',d,lim,h1,hd,permIn_refl d a b,by omega,⟨r0,r1,r2,r3,r4,r5,r6⟩,h2⟩
 | false =>
  obtain⟨d1,q1,q2,q3⟩:=c_told_break E a b d hd hab hb hN255
  have w1:IntKind.i64.wrap (lim - 1)=lim - 1:=wrap64 (by omega) (by omega)
  have hgoal: ∃e',fcode (vcall F nro) nro (takeS 0 (dropS 3 pdB)) e (H d)=some (.normal,e',H d1)∧((e' 0=S∧e' 1= .int .i64 a∧e' 2= .int .i64 b∧e' 3= .int .i64 (lim - 1)∧e' 4=C∧e' 10= .bool false∧e' 11= .bool wp)∧e' 12=x):=by
   simp (disch:=first|assumption|omega|(simp[*]<;>omega)|fail) [-getElem?_pos,gz_,gs_,pdB,unblock,i_zz18_B1,takeS,dropS,p0,p1,p2,p3,p4,p10,p11,p12,q3,w1]
  obtain⟨e',h1,⟨r0,r1,r2,r3,r4,r5,r6⟩,h2⟩:=hgoal
  exact⟨e',d1,lim - 1,h1,q1,q2,by omega,⟨r0,r1,r2,r3,r4,r5,r6⟩,h2⟩
omit hS in
theorem pdq_C (a b:Nat) (hab:a<b) (hb:b≤N) (d:Array Nat) (hd:d.size=N) (lim:Int) (wb wp:Bool) (e:FE) (x:Value) (p:PE S C e a b lim wb wp) (p12:e 12=x):
  ∃e' d1 m t,fcode (vcall F nro) nro (takeS 1 (dropS 4 pdB)) e (H d)=some (.normal,e',H d1)∧d1.size=N∧PermIn a b d d1∧(a≤m∧m<b)∧PE S C e' a b lim wb wp∧e' 12=x∧e' 13= .int .i64 ((m:Nat):Int)∧e' 14= .int .i64 t:=by
 have hN:=E.base.hN
 have p0:=p.e0
 have p1:=p.e1
 have p2:=p.e2
 have p3:=p.e3
 have p4:=p.e4
 have p10:=p.e10
 have p11:=p.e11
 obtain⟨m,t,hm,ht,hc⟩:=c_told_pivot E d hd a b hab hb
 by_cases c:t=2
 ·have hr:=c_told_rev E.base a b d hd hab hb
  have hp:=reverseRange_holds (α:=Nat) d a b (by omega) (by omega)
  subst c
  obtain⟨m',hm'⟩: ∃m' :Nat,m' =b - 1 - (m - a):=⟨_,rfl⟩
  have w1:IntKind.i64.wrap ((b:Int) - 1)=(b:Int) - 1:=wrap64 (by omega) (by omega)
  have w2:IntKind.i64.wrap ((m:Int) - a)=(m:Int) - a:=wrap64 (by omega) (by omega)
  have w3:IntKind.i64.wrap ((b:Int) - 1 - ((m:Int) - a))=m' :=by rw[show(b:Int) - 1 - ((m:Int) - a)=m' by omega];exact wrap64 (by omega) (by omega)
  have hgoal: ∃e',fcode (vcall F nro) nro (takeS 1 (dropS 4 pdB)) e (H d)=some (.normal,e',H (reverseRange d a b))∧((e' 0=S∧e' 1= .int .i64 a∧e' 2= .int .i64 b∧e' 3= .int .i64 lim∧e' 4=C∧e' 10= .bool wb∧e' 11= .bool wp)∧e' 12=x∧e' 13= .int .i64 ((m' :Nat):Int)∧e' 14= .int .i64 1):=by
   obtain⟨r,hr2⟩: ∃r,r=reverseRange d a b:=⟨_,rfl⟩
   rw[←hr2]at hr⊢
   clear hp hm hr2 hm'
   simp (disch:=first|assumption|omega|(simp[*]<;>omega)|fail) [-getElem?_pos,gz_,gs_,pdB,unblock,i_zz18_B1,takeS,dropS,p0,p1,p2,p3,p4,p10,p11,p12,hc,hr,w1,w2,w3]
  obtain⟨e',h1,⟨r0,r1,r2,r3,r4,r5,r6⟩,h2,h3,h4⟩:=hgoal
  exact⟨e',_,m',1,h1,by rw[hp.1];exact hd,hp,by omega,⟨r0,r1,r2,r3,r4,r5,r6⟩,h2,h3,h4⟩
 ·have c' : ¬(t:Int)=2:=by omega
  have hgoal: ∃e',fcode (vcall F nro) nro (takeS 1 (dropS 4 pdB)) e (H d)=some (.normal,e',H d)∧((e' 0=S∧e' 1= .int .i64 a∧e' 2= .int .i64 b∧e' 3= .int .i64 lim∧e' 4=C∧e' 10= .bool wb∧e' 11= .bool wp)∧e' 12=x∧e' 13= .int .i64 ((m:Nat):Int)∧e' 14= .int .i64 t):=by
   clear hm ht
   simp (disch:=first|assumption|omega|(simp[*]<;>omega)|fail) [-getElem?_pos,gz_,gs_,pdB,unblock,i_zz18_B1,takeS,dropS,p0,p1,p2,p3,p4,p10,p11,p12,hc,c',c]
  obtain⟨e',h1,⟨r0,r1,r2,r3,r4,r5,r6⟩,h2,h3,h4⟩:=hgoal
  exact⟨e',d,m,t,h1,hd,permIn_refl d a b,hm,⟨r0,r1,r2,r3,r4,r5,r6⟩,h2,h3,h4⟩
theorem pdq_D (a b:Nat) (hab:a<b) (hb:b≤N) (d:Array Nat) (hd:d.size=N) (hB:Below (ltC cm) a b d) (lim:Int) (wb wp:Bool) (e:FE) (x y:Value) (t:Int) (p:PE S C e a b lim wb wp) (p12:e 12=x) (p13:e 13=y) (p14:e 14= .int .i64 t):
  (∃d',d'.size=N∧PermIn a b d d' ∧SortedIn (ltC cm) a b d' ∧fcode (vcall F nro) nro (takeS 0 (dropS 6 pdB)) e (H d)=some (.ret,fl [],H d'))∨
  ∃e' d1,fcode (vcall F nro) nro (takeS 0 (dropS 6 pdB)) e (H d)=some (.normal,e',H d1)∧d1.size=N∧PermIn a b d d1∧PE S C e' a b lim wb wp∧e' 12=x∧e' 13=y:=by
 have p0:=p.e0
 have p1:=p.e1
 have p2:=p.e2
 have p3:=p.e3
 have p4:=p.e4
 have p10:=p.e10
 have p11:=p.e11
 by_cases c:wb=true∧wp=true∧t=1
 ·obtain⟨rfl,rfl,rfl⟩:=c
  obtain⟨hc,hs⟩:=c_told_pis E.base a b hab hb d hd
  obtain⟨q1,q2⟩:=partialInsertionSort_holds (lt:=ltC cm) hS d a b hab (by omega) hB
  obtain⟨r,hr⟩: ∃r,r=partialInsertionSort (ltC cm) d a b:=⟨_,rfl⟩
  rw[←hr]at hc hs q1 q2
  obtain⟨r1,r2⟩:=r
  simp only at hc hs q1 q2
  cases r2 with
  | true =>
   left
   refine⟨r1,hs,q1,q2 rfl,?_⟩
   clear q1 q2 hr
   simp (disch:=first|assumption|omega|(simp[*]<;>omega)|fail) [-getElem?_pos,gz_,gs_,pdB,unblock,i_zz18_B1,takeS,dropS,p0,p1,p2,p3,p4,p10,p11,p12,p13,p14,hc]
  | false =>
   right
   have hgoal: ∃e',fcode (vcall F nro) nro (takeS 0 (dropS 6 pdB)) e (H d)=some (.normal,e',H r1)∧((e' 0=S∧e' 1= .int .i64 a∧e' 2= .int .i64 b∧e' 3= .int .i64 lim∧e' 4=C∧e' 10= .bool true∧e' 11= .bool true)∧e' 12=x∧e' 13=y):=by
    clear q1 q2 hr
    simp (disch:=first|assumption|omega|(simp[*]<;>omega)|fail) [-getElem?_pos,gz_,gs_,pdB,unblock,i_zz18_B1,takeS,dropS,p0,p1,p2,p3,p4,p10,p11,p12,p13,p14,hc]
   obtain⟨e',h1,⟨s0,s1,s2,s3,s4,s5,s6⟩,h2,h3⟩:=hgoal
   exact⟨e',r1,h1,hs,q1,⟨s0,s1,s2,s3,s4,s5,s6⟩,h2,h3⟩
 ·right
  have hgoal: ∃e',fcode (vcall F nro) nro (takeS 0 (dropS 6 pdB)) e (H d)=some (.normal,e',H d)∧((e' 0=S∧e' 1= .int .i64 a∧e' 2= .int .i64 b∧e' 3= .int .i64 lim∧e' 4=C∧e' 10= .bool wb∧e' 11= .bool wp)∧e' 12=x∧e' 13=y):=by
   cases wb with
   | false => simp (disch := first | assumption | omega | (simp [*] <;> omega) | fail) [-getElem?_pos, gz_, gs_, pdB, unblock, i_zz18_B1, takeS, dropS, p0, p1, p2, p3, p4, p10, p11, p12, p13, p14]
   | true =>
    cases wp with
    | false => simp (disch := first | assumption | omega | (simp [*] <;> omega) | fail) [-getElem?_pos, gz_, gs_, pdB, unblock, i_zz18_B1, takeS, dropS, p0, p1, p2, p3, p4, p10, p11, p12, p13, p14]
    | true =>
     have c2: ¬t=1:=fun h=>c ⟨rfl,rfl,h⟩
     simp (disch:=first|assumption|omega|(simp[*]<;>omega)|fail) [-getElem?_pos,gz_,gs_,pdB,unblock,i_zz18_B1,takeS,dropS,p0,p1,p2,p3,p4,p10,p11,p12,p13,p14,c2]
  obtain⟨e',h1,⟨s0,s1,s2,s3,s4,s5,s6⟩,h2,h3⟩:=hgoal
  exact⟨e',d,h1,hd,permIn_refl d a b,⟨s0,s1,s2,s3,s4,s5,s6⟩,h2,h3⟩
end
end

/- Sorting: the recursion. -/
section
open Go Go.Sort
variable {nro:Nat} {S C:Value} {P:Int→Value} {ag:Nat→Value} {cm:Nat→Nat→Int} {N:Nat} {H:Array Nat→VH}
section
variable (E:SX nro true 3 S C P ag cm N H)
include E
theorem pdq_E (a b m:Nat) (ham:a≤m) (hmb:m<b) (hb:b≤N) (d:Array Nat) (hd:d.size=N) (lim:Int) (wb wp:Bool) (e:FE) (x:Value) (p:PE S C e a b lim wb wp) (p12:e 12=x) (p13:e 13= .int .i64 ((m:Nat):Int)):
  (0<a∧ltC cm d[a - 1]! d[m]! =false∧ ∃e',fcode (vcall F nro) nro (takeS 0 (dropS 7 pdB)) e (H d)=some (.exit 1,e',H (partitionEqual (ltC cm) d a b m).2)∧PE S C e' (partitionEqual (ltC cm) d a b m).1 b lim wb wp)∨
  ∃e',fcode (vcall F nro) nro (takeS 0 (dropS 7 pdB)) e (H d)=some (.normal,e',H d)∧PE S C e' a b lim wb wp∧e' 12=x∧e' 13= .int .i64 ((m:Nat):Int):=by
 have hN:=E.base.hN
 have p0:=p.e0
 have p1:=p.e1
 have p2:=p.e2
 have p3:=p.e3
 have p4:=p.e4
 have p10:=p.e10
 have p11:=p.e11
 have hix:=E.base.idx
 have hld:=E.base.load
 have hcm:=E.base.cmp
 by_cases c0:0<a
 ·have c0' :(0:Int)<a:=by omega
  have w1:IntKind.i64.wrap ((a:Int) - 1)=(a:Int) - 1:=wrap64 (by omega) (by omega)
  have g1:=getI_nat d ((a:Int) - 1) (a - 1) (by omega)
  have g2:=getI_nat d (m:Int) m rfl
  have k1:(0:Int)≤(a:Int) - 1:=by omega
  have k2:(a:Int) - 1<N:=by omega
  have k3:(0:Int)≤m:=by omega
  have k4:(m:Int)<N:=by omega
  rw[←g1,←g2]
  by_cases c1:cm (getI d ((a:Int) - 1)) (getI d (m:Int))<0
  ·right
   have hgoal: ∃e',fcode (vcall F nro) nro (takeS 0 (dropS 7 pdB)) e (H d)=some (.normal,e',H d)∧((e' 0=S∧e' 1= .int .i64 a∧e' 2= .int .i64 b∧e' 3= .int .i64 lim∧e' 4=C∧e' 10= .bool wb∧e' 11= .bool wp)∧e' 12=x∧e' 13= .int .i64 ((m:Nat):Int)):=by
    clear g1 g2
    simp (disch:=first|assumption|omega|(simp[*]<;>omega)|fail) [-getElem?_pos,gz_,gs_,pdB,unblock,i_zz18_B1,takeS,dropS,p0,p1,p2,p3,p4,p10,p11,p12,p13,c0',c0,w1,hix,hld,hcm,hd,k1,k2,k3,k4,c1]
   obtain⟨e',h1,⟨s0,s1,s2,s3,s4,s5,s6⟩,h2,h3⟩:=hgoal
   exact⟨e',h1,⟨s0,s1,s2,s3,s4,s5,s6⟩,h2,h3⟩
  ·left
   refine⟨c0,decide_eq_false c1,?_⟩
   have hc:=c_told_partE E.base d hd a b m ham hmb hb
   obtain⟨r,hr⟩: ∃r,r=partitionEqual (ltC cm) d a b m:=⟨_,rfl⟩
   rw[←hr]at hc⊢
   have hgoal: ∃e',fcode (vcall F nro) nro (takeS 0 (dropS 7 pdB)) e (H d)=some (.exit 1,e',H r.2)∧(e' 0=S∧e' 1= .int .i64 ((r.1:Nat):Int)∧e' 2= .int .i64 b∧e' 3= .int .i64 lim∧e' 4=C∧e' 10= .bool wb∧e' 11= .bool wp):=by
    clear g1 g2 hr
    simp (disch:=first|assumption|omega|(simp[*]<;>omega)|fail) [-getElem?_pos,gz_,gs_,pdB,unblock,i_zz18_B1,takeS,dropS,p0,p1,p2,p3,p4,p10,p11,p12,p13,c0',c0,w1,hix,hld,hcm,hd,k1,k2,k3,k4,c1,hc]
   obtain⟨e',h1,s0,s1,s2,s3,s4,s5,s6⟩:=hgoal
   exact⟨e',h1,⟨s0,s1,s2,s3,s4,s5,s6⟩⟩
 ·right
  have c0' : ¬(0:Int)<a:=by omega
  have hgoal: ∃e',fcode (vcall F nro) nro (takeS 0 (dropS 7 pdB)) e (H d)=some (.normal,e',H d)∧((e' 0=S∧e' 1= .int .i64 a∧e' 2= .int .i64 b∧e' 3= .int .i64 lim∧e' 4=C∧e' 10= .bool wb∧e' 11= .bool wp)∧e' 12=x∧e' 13= .int .i64 ((m:Nat):Int)):=by
   simp (disch:=first|assumption|omega|(simp[*]<;>omega)|fail) [-getElem?_pos,gz_,gs_,pdB,unblock,i_zz18_B1,takeS,dropS,p0,p1,p2,p3,p4,p10,p11,p12,p13,c0',c0]
  obtain⟨e',h1,⟨s0,s1,s2,s3,s4,s5,s6⟩,h2,h3⟩:=hgoal
  exact⟨e',h1,⟨s0,s1,s2,s3,s4,s5,s6⟩,h2,h3⟩
theorem pdq_F (a b m mid:Nat) (ap:Bool) (d d4 L:Array Nat) (lim:Int) (wb wp:Bool) (e:FE) (len:Nat) (hlen:len≤1000) (hmid:a≤mid∧mid<b∧b≤N) (p:PE S C e a b lim wb wp) (p12:e 12= .int .i64 ((len:Nat):Int)) (p13:e 13= .int .i64 ((m:Nat):Int))
  (hc:vcall F nro k_zz13 [S,.int .i64 a,.int .i64 b,.int .i64 m,C] (H d)=some (.tuple #[.int .i64 ((mid:Nat):Int),.bool ap],H d4))
  (hcall:if mid - a<b - mid then vcall F nro k_zz18 [S,.int .i64 a,.int .i64 mid,.int .i64 lim,C] (H d4)=some (.tuple #[],H L)else vcall F nro k_zz18 [S,.int .i64 ((mid+1:Nat):Int),.int .i64 b,.int .i64 lim,C] (H d4)=some (.tuple #[],H L)):
  ∃e' wb',fcode (vcall F nro) nro (dropS 8 pdB) e (H d)=some (.normal,e',H L)∧(if mid - a<b - mid then PE S C e' (mid+1) b lim wb' ap else PE S C e' a mid lim wb' ap):=by
 have hN:=E.base.hN
 have p0:=p.e0
 have p1:=p.e1
 have p2:=p.e2
 have p3:=p.e3
 have p4:=p.e4
 have p10:=p.e10
 have p11:=p.e11
 obtain⟨q,hq⟩: ∃q:Nat,q=len / 8:=⟨_,rfl⟩
 have t1:((len:Nat):Int).tdiv 8=q:=by rw[Int.tdiv_eq_ediv_of_nonneg (by omega)];omega
 have w1:IntKind.i64.wrap ((mid:Int) - a)=(mid:Int) - a:=wrap64 (by omega) (by omega)
 have w2:IntKind.i64.wrap ((b:Int) - mid)=(b:Int) - mid:=wrap64 (by omega) (by omega)
 have w3:IntKind.i64.wrap (q:Int)=q:=wrap64 (by omega) (by omega)
 have w4:IntKind.i64.wrap ((mid:Int)+1)=(mid:Int)+1:=wrap64 (by omega) (by omega)
 by_cases c:mid - a<b - mid
 ·have c' :(mid:Int) - a<(b:Int) - mid:=by omega
  rw[if_pos c]at hcall
  have hgoal: ∃e',fcode (vcall F nro) nro (dropS 8 pdB) e (H d)=some (.normal,e',H L)∧(e' 0=S∧e' 1= .int .i64 ((mid:Int)+1)∧e' 2= .int .i64 b∧e' 3= .int .i64 lim∧e' 4=C∧e' 10= .bool (decide ((q:Int)≤(mid:Int) - a))∧e' 11= .bool ap):=by
   clear hq hmid hlen
   simp (disch:=first|assumption|omega|(simp[*]<;>omega)|fail) [-getElem?_pos,gz_,gs_,pdB,unblock,i_zz18_B1,dropS,p0,p1,p2,p3,p4,p10,p11,p12,p13,hc,t1,w1,w2,w3,w4,c',hcall]
  obtain⟨e',h1,s0,s1,s2,s3,s4,s5,s6⟩:=hgoal
  refine⟨e',decide ((q:Int)≤(mid:Int) - a),h1,?_⟩
  rw[if_pos c]
  exact⟨s0,s1,s2,s3,s4,s5,s6⟩
 ·have c' : ¬(mid:Int) - a<(b:Int) - mid:=by omega
  rw[if_neg c]at hcall
  rw[show((mid+1:Nat):Int)=(mid:Int)+1 by omega]at hcall
  have hgoal: ∃e',fcode (vcall F nro) nro (dropS 8 pdB) e (H d)=some (.normal,e',H L)∧(e' 0=S∧e' 1= .int .i64 a∧e' 2= .int .i64 mid∧e' 3= .int .i64 lim∧e' 4=C∧e' 10= .bool (decide ((q:Int)≤(b:Int) - mid))∧e' 11= .bool ap):=by
   clear hq hmid hlen
   simp (disch:=first|assumption|omega|(simp[*]<;>omega)|fail) [-getElem?_pos,gz_,gs_,pdB,unblock,i_zz18_B1,dropS,p0,p1,p2,p3,p4,p10,p11,p12,p13,hc,t1,w1,w2,w3,w4,c',hcall]
  obtain⟨e',h1,s0,s1,s2,s3,s4,s5,s6⟩:=hgoal
  refine⟨e',decide ((q:Int)≤(b:Int) - mid),h1,?_⟩
  rw[if_neg c]
  exact⟨s0,s1,s2,s3,s4,s5,s6⟩
end
theorem pdB_eq:i_zz18_B1= .block 1 pdB:=rfl
theorem seq_step {call:VCall} (k:Nat) {c:FC} {e e' :FE} {h h' :VH} (hk:k+1≤nseq c) (h1:fcode call nro (takeS k c) e h=some (.normal,e',h')):fcode call nro c e h=fcode call nro (dropS (k+1) c) e' h' :=by
 rw[fcode_parts call nro k c e h hk,h1,kseq_normal]
theorem seq_ret {call:VCall} (k:Nat) {c:FC} {e e' :FE} {h h' :VH} {x:VX} (hk:k+1≤nseq c) (hx:x≠ .normal) (h1:fcode call nro (takeS k c) e h=some (x,e',h')):fcode call nro c e h=some (x,e',h'):=by
 rw[fcode_parts call nro k c e h hk,h1]
 cases x with
 | normal => exact absurd rfl hx
 | ret => rfl
 | exit i => rfl
theorem floop_pe (e:FE) (a b:Nat) (lim:Int) (wb wp:Bool) (p:PE S C e a b lim wb wp): [0,1,2,3,4,10,11].map e= [S,.int .i64 a,.int .i64 b,.int .i64 lim,C,.bool wb,.bool wp]:=by
 simp[p.e0,p.e1,p.e2,p.e3,p.e4,p.e10,p.e11]
def PdqL (nro:Nat) (S C:Value) (cm:Nat→Nat→Int) (N:Nat) (H:Array Nat→VH) (a b:Nat):Prop:=
 ∀(d:Array Nat),d.size=N→Below (ltC cm) a b d→ ∀(lim:Int),0≤lim→lim≤255→ ∀(wb wp:Bool) (d0:Array Nat),∃d',d'.size=N∧PermIn a b d d' ∧SortedIn (ltC cm) a b d' ∧floop (vcall F nro) nro [0,1,2,3,4,10,11] i_zz18_B1 (H d0) [S,.int .i64 a,.int .i64 b,.int .i64 lim,C,.bool wb,.bool wp] (H d)=some (.ret,fl [],H d')
theorem PdqL.call (E:SX nro true 3 S C P ag cm N H) {a b:Nat} (h:PdqL nro S C cm N H a b) (d:Array Nat) (hd:d.size=N) (hB:Below (ltC cm) a b d) (lim:Int) (hl:0≤lim) (hl2:lim≤255):
  ∃d',d'.size=N∧PermIn a b d d' ∧SortedIn (ltC cm) a b d' ∧vcall F nro k_zz18 [S,.int .i64 a,.int .i64 b,.int .i64 lim,C] (H d)=some (.tuple #[],H d'):=by
 obtain⟨d',h1,h2,h3,lp⟩:=h d hd hB lim hl hl2 true true d
 refine⟨d',h1,h2,h3,?_⟩
 have hc0:=fun q vs=>E.base.clean0 d q vs
 clear h2 h3
 refine v_zz18 (by simp[i_zz18]) ?_
 rw[fbody_eq]
 simp (disch:=first|assumption|omega|(simp[*]<;>omega)|fail) [-getElem?_pos,gz_,gs_,i_zz18,lp,hc0,fresults,fresL]
set_option maxHeartbeats 1000000 in
theorem pdq_all (E:SX nro true 3 S C P ag cm N H) (hS:SWO (ltC cm)) (hN255:N≤255): ∀(n a b:Nat),b - a≤n→a≤b→b≤N→PdqL nro S C cm N H a b:=by
 intro n
 induction n with
 | zero =>
  intro a b hn hab hb d hd hB lim hl hl2 wb wp d0
  have pe:PE S C (fl ([0,1,2,3,4,10,11].zip [S,.int .i64 a,.int .i64 b,.int .i64 lim,C,.bool wb,.bool wp])) a b lim wb wp:=⟨rfl,rfl,rfl,rfl,rfl,rfl,rfl⟩
  rcases pdq_A E hS a b hab hb d hd lim wb wp _ pe with⟨d',h1,h2,h3,h4⟩|⟨h1,_⟩
  ·refine⟨d',h1,h2,h3,?_⟩
   rw[floop_at pdB_eq,fcode_block,fcode_parts (vcall F nro) nro 2 pdB _ _ (by decide),h4]
   rfl
  ·omega
 | succ n ih =>
  intro a b hn hab hb d hd hB lim hl hl2 wb wp d0
  have pe:PE S C (fl ([0,1,2,3,4,10,11].zip [S,.int .i64 a,.int .i64 b,.int .i64 lim,C,.bool wb,.bool wp])) a b lim wb wp:=⟨rfl,rfl,rfl,rfl,rfl,rfl,rfl⟩
  obtain⟨env,henv⟩: ∃env,env=fl ([0,1,2,3,4,10,11].zip [S,.int .i64 a,.int .i64 b,.int .i64 lim,C,.bool wb,.bool wp]):=⟨_,rfl⟩
  rw[floop_at pdB_eq,fcode_block,←henv]
  rw[←henv]at pe
  rw[fcode_parts (vcall F nro) nro 2 pdB _ _ (by decide)]
  rcases pdq_A E hS a b hab hb d hd lim wb wp _ pe with⟨d',h1,h2,h3,h4⟩|⟨h12,hl3,eA,fA,peA,pA12⟩
  ·refine⟨d',h1,h2,h3,?_⟩
   rw[h4]
   rfl
  rw[←fcode_parts (vcall F nro) nro 2 pdB _ _ (by decide),seq_step 2 (by decide) fA]
  obtain⟨eB,d1,limB,fB,s1,q1,hlB,peB,pB12⟩:=pdq_B E hN255 a b hab hb d hd lim (by omega) hl2 wb wp eA _ peA pA12
  rw[seq_step 0 (by decide) fB]
  have B1:=hB.perm (by omega) q1
  obtain⟨eC,d2,m,t,fC,s2,q2,hm,peC,pC12,pC13,pC14⟩:=pdq_C E a b (by omega) hb d1 s1 limB wb wp eB _ peB pB12
  have t1:dropS (0+1) (dropS (2+1) pdB)=dropS 4 pdB:=rfl
  rw[t1,seq_step 1 (by decide) fC]
  have B2:=B1.perm (by omega) q2
  have t2:dropS (1+1) (dropS 4 pdB)=dropS 6 pdB:=rfl
  rw[t2]
  have Q2:=permIn_trans _ _ _ a b q1 q2
  rcases pdq_D E hS a b (by omega) hb d2 s2 B2 limB wb wp eC _ _ t peC pC12 pC13 pC14 with⟨d',h1,h2,h3,h4⟩|⟨eD,d3,fD,s3,q3,peD,pD12,pD13⟩
  ·refine⟨d',h1,permIn_trans _ _ _ a b Q2 h2,h3,?_⟩
   rw[seq_ret 0 (by decide) (by simp) h4]
   rfl
  rw[seq_step 0 (by decide) fD]
  have t3:dropS (0+1) (dropS 6 pdB)=dropS 7 pdB:=rfl
  rw[t3]
  have B3:=B2.perm (by omega) q3
  have Q3:=permIn_trans _ _ _ a b Q2 q3
  rcases pdq_E E a b m hm.1 hm.2 hb d3 s3 limB wb wp eD _ peD pD12 pD13 with⟨ha0,hlt,eE,fE,peE⟩|⟨eE,fE,peE,pE12,pE13⟩
  ·-- equal elements to the left
   obtain⟨g1,g2,g3,g4,g5⟩:=round_eq hS (partitionEqual_holds (ltC cm)) (d3:=d3) (d4:=(partitionEqual (ltC cm) d3 a b m).2) (mid:=(partitionEqual (ltC cm) d3 a b m).1) ha0 hm.1 hm.2 (by omega) B3 hlt rfl
   obtain⟨r,hr⟩: ∃r,r=partitionEqual (ltC cm) d3 a b m:=⟨_,rfl⟩
   rw[←hr]at g1 g2 g3 g4 g5 fE peE
   rw[seq_ret 0 (by decide) (by simp) fE]
   obtain⟨d',i1,i2,i3,i4⟩:=ih r.1 b (by omega) g2 hb r.2 (by omega) g4 limB hlB.1 hlB.2 wb wp d0
   obtain⟨z1,z2⟩:=g5 d' i2 i3
   refine⟨d',i1,permIn_trans _ _ _ a b Q3 z1,z2,?_⟩
   rw[←i4]
   show kloop (vcall F nro) nro [0,1,2,3,4,10,11] i_zz18_B1 (H d0) (kclean (H d0) ([0,1,2,3,4,10,11].map eE) (H r.2))=_
   rw[floop_pe eE r.1 b limB wb wp peE]
   have hc:=E.base.clean0 d0 r.2
   have oS:=E.base.oS
   have oC:=E.base.oC
   clear g1 g2 g3 g4 g5 i1 i2 i3 i4 z1 z2 hr
   simp (disch:=first|assumption|omega|(simp[*]<;>omega)|fail) [-getElem?_pos,gz_,gs_,hc,oS,oC]
  ·rw[seq_step 0 (by decide) fE]
   have t4:dropS (0+1) (dropS 7 pdB)=dropS 8 pdB:=rfl
   rw[t4]
   have hpt:=c_told_part E.base d3 s3 a b m hm.1 hm.2 hb
   obtain⟨r,hr⟩: ∃r,r=partition (ltC cm) d3 a b m:=⟨_,rfl⟩
   rw[←hr]at hpt
   obtain⟨mid,ap,d4⟩:=r
   simp only at hpt
   obtain⟨g1,g2,g3,g4,g5,g6,g7⟩:=round_part hS (partition_holds (ltC cm)) hm.1 hm.2 (show b≤d3.size by omega) B3 hr.symm
   by_cases c:mid - a<b - mid
   ·obtain⟨L,l1,l2,l3,l4⟩:=(ih a mid (by omega) g1 (by omega)).call E d4 (by omega) g4 limB hlB.1 hlB.2
    obtain⟨g8,g9⟩:=g6 L l2 l3
    obtain⟨eF,wbF,fF,peF⟩:=pdq_F E a b m mid ap d3 d4 L limB wb wp eE (b - a) (by have:=E.base.hN;omega) ⟨g1,g2,hb⟩ peE pE12 pE13 hpt (by rw[if_pos c];exact l4)
    rw[if_pos c]at peF
    rw[fF]
    obtain⟨d',i1,i2,i3,i4⟩:=ih (mid+1) b (by omega) (by omega) hb L l1 g8 limB hlB.1 hlB.2 wbF ap d0
    obtain⟨z1,z2⟩:=g9 d' i2 i3
    refine⟨d',i1,permIn_trans _ _ _ a b Q3 z1,z2,?_⟩
    rw[←i4]
    show kloop (vcall F nro) nro [0,1,2,3,4,10,11] i_zz18_B1 (H d0) (kclean (H d0) ([0,1,2,3,4,10,11].map eF) (H L))=_
    rw[floop_pe eF (mid+1) b limB wbF ap peF]
    have hc:=E.base.clean0 d0 L
    have oS:=E.base.oS
    have oC:=E.base.oC
    clear g1 g2 g3 g4 g5 g6 g7 g8 g9 i1 i2 i3 i4 z1 z2 hr
    simp (disch:=first|assumption|omega|(simp[*]<;>omega)|fail) [-getElem?_pos,gz_,gs_,hc,oS,oC]
   ·obtain⟨L,l1,l2,l3,l4⟩:=(ih (mid+1) b (by omega) (by omega) hb).call E d4 (by omega) g5 limB hlB.1 hlB.2
    obtain⟨g8,g9⟩:=g7 L l2 l3
    obtain⟨eF,wbF,fF,peF⟩:=pdq_F E a b m mid ap d3 d4 L limB wb wp eE (b - a) (by have:=E.base.hN;omega) ⟨g1,g2,hb⟩ peE pE12 pE13 hpt (by rw[if_neg c];exact l4)
    rw[if_neg c]at peF
    rw[fF]
    obtain⟨d',i1,i2,i3,i4⟩:=ih a mid (by omega) g1 (by omega) L l1 g8 limB hlB.1 hlB.2 wbF ap d0
    obtain⟨z1,z2⟩:=g9 d' i2 i3
    refine⟨d',i1,permIn_trans _ _ _ a b Q3 z1,z2,?_⟩
    rw[←i4]
    show kloop (vcall F nro) nro [0,1,2,3,4,10,11] i_zz18_B1 (H d0) (kclean (H d0) ([0,1,2,3,4,10,11].map eF) (H L))=_
    rw[floop_pe eF a mid limB wbF ap peF]
    have hc:=E.base.clean0 d0 L
    have oS:=E.base.oS
    have oC:=E.base.oC
    clear g1 g2 g3 g4 g5 g6 g7 g8 g9 i1 i2 i3 i4 z1 z2 hr
    simp (disch:=first|assumption|omega|(simp[*]<;>omega)|fail) [-getElem?_pos,gz_,gs_,hc,oS,oC]
end

/- slices.SortFunc. -/
section
open Go Go.Sort
variable {nro:Nat} {S C:Value} {P:Int→Value} {ag:Nat→Value} {cm:Nat→Nat→Int} {N:Nat} {H:Array Nat→VH}
theorem c_told_SortFunc (E:SX nro true 3 S C P ag cm N H) (hS:SWO (ltC cm)) (hN255:N≤255) (d:Array Nat) (hd:d.size=N):
  ∃d',d'.size=N∧PermIn 0 N d d' ∧SortedIn (ltC cm) 0 N d' ∧vcall F nro k_zz7 [S,C] (H d)=some (.tuple #[],H d'):=by
 obtain⟨y,y1,_,_,e1⟩:=c_bits_Len64x (nro:=nro) N hN255 (H d)
 have e2:vcall F nro k_zz82 [.int .u64 N] (H d)=some (.int .i64 y,H d):=by
  refine v_zz82 (by simp[i_zz82]) ?_
  rw[fbody_eq]
  simp (disch:=first|assumption|omega|(simp[*]<;>omega)|fail) [i_zz82,e1]
 obtain⟨d',h1,h2,h3,h4⟩:=(pdq_all E hS hN255 N 0 N (by omega) (by omega) (Nat.le_refl _)).call E d hd (.inl rfl) y (by omega) (by omega)
 refine⟨d',h1,h2,h3,?_⟩
 have vl:=E.base.vln d hd
 have hc0:=fun q vs=>E.base.clean0 d q vs
 have w1:IntKind.u64.wrap (N:Int)=N:=wrapu64 (by omega) (by omega)
 simp only[Int.natCast_zero]at h4
 clear h2 h3
 refine v_zz7 (by simp[i_zz7]) ?_
 rw[fbody_eq]
 simp (disch:=first|assumption|omega|(simp[*]<;>omega)|fail) [-getElem?_pos,gz_,gs_,i_zz7,vl,w1,e2,h4,hc0,fresults,fresL]
end

/- What is told, sorted. -/
section
open Go Go.Sort
section
variable {ce:Nat→List Value} (h3: ∀j,(ce j).length=3)
include h3
theorem flat3_len (l:List Nat):(l.flatMap ce).length=l.length * 3:=by
 induction l with
 | nil => rfl
 | cons a l ih => rw [List.flatMap_cons, List.length_append, ih, h3, List.length_cons]; omega
theorem flat3_get (l:List Nat) (x:Nat) (hx:x<l.length):((l.flatMap ce).drop (x * 3)).take 3=ce l[x]:=by
 induction l generalizing x with
 | nil => simp at hx
 | cons a l ih =>
  have ha:=h3 a
  rw[List.flatMap_cons]
  cases x with
  | zero =>
   simp only[Nat.zero_mul,List.drop_zero,List.getElem_cons_zero]
   rw[←ha]
   simp
  | succ x =>
   have:=ih x (by simpa using hx)
   simp only[List.getElem_cons_succ]
   rw[←this,Nat.succ_mul,Nat.add_comm,←List.drop_drop,←ha]
   simp
theorem flat3_set (l:List Nat) (x v:Nat) (hx:x<l.length):splice (x * 3) (ce v) (l.flatMap ce)=(l.set x v).flatMap ce:=by
 induction l generalizing x with
 | nil => simp at hx
 | cons a l ih =>
  have ha:=h3 a
  have hv:=h3 v
  rw[List.flatMap_cons]
  cases x with
  | zero =>
   simp only[Nat.zero_mul,List.set_cons_zero,List.flatMap_cons]
   unfold splice
   rw[hv,←ha]
   simp
  | succ x =>
   have ih:=ih x (by simpa using hx)
   simp only[List.set_cons_succ,List.flatMap_cons]
   rw[←ih]
   unfold splice
   rw[hv,Nat.succ_mul,List.take_append,List.drop_append,ha]
   rw[List.take_of_length_le (by omega),List.drop_eq_nil_of_le (by omega),show x * 3+3 - 3=x * 3 by omega,show x * 3+3+3 - 3=x * 3+3 by omega]
   simp
end
variable {nro:Nat}
theorem c_refine_1 (H:VH) (g1 g2 v1 v2:Int) (s1 s2:Value) (l1 l2:List Int) (h1:Sli H s1 l1) (h2:Sli H s2 l2) (b1:l1.length≤1000) (b2:l2.length≤1000):
  vcall F nro k_zz37 [.agg #[.int .i64 g1,.int .i64 v1,s1],.agg #[.int .i64 g2,.int .i64 v2,s2]] H=some (.int .i64 (cmpL l1 l2),H):=by
 have j1:=Sl.nj h1
 have j2:=Sl.nj h2
 unfold isJunk at j1 j2
 have hc:=c_slices_Compare (nro:=nro) (H++ [⟨0,[.int .i64 g1,.int .i64 v1,s1]⟩,⟨0,[.int .i64 g2,.int .i64 v2,s2]⟩]) s1 s2 l1 l2 (h1.app _) (h2.app _) b1 b2
 refine v_zz37 (by simp[i_zz37]) ?_
 rw[fbody_eq]
 clear h1 h2
 simp (disch:=first|assumption|omega|(simp[*]<;>omega)|fail) [-getElem?_pos,gz_,gs_,i_zz37,hc,j1,j2,fresults,fresL,fres1]
end

/- What is told, sorted: the elements of the library's sort. -/
section
open Go Go.Sort
variable {nro:Nat}
def tjN (N j:Nat):Nat:=if j<N then j else 0
def tnu (T:List TD) (j:Nat):List Int:=(T.getD (tjN T.length j) (0,0,[])).2.2
def ceT (T:List TD) (n0:Nat) (kf:Nat→Nat) (j:Nat):List Value:=
 [.int .i64 (T.getD (tjN T.length j) (0,0,[])).1,.int .i64 (T.getD (tjN T.length j) (0,0,[])).2.1,.slice (some ⟨n0+kf (tjN T.length j),0,none⟩) (tnu T j).length (tnu T j).length]
theorem ceT_len (T:List TD) (n0:Nat) (kf:Nat→Nat) (j:Nat):(ceT T n0 kf j).length=3:=rfl
def hpT (P:VH) (T:List TD) (kf:Nat→Nat) (G:VH) (d:Array Nat):VH:=P++⟨3,d.toList.flatMap (ceT T (P.length+1) kf)⟩::G
theorem hpT_snoc (P:VH) (T:List TD) (kf:Nat→Nat) (G:VH) (o:VO):(fun d=>hpT P T kf G d++ [o])=hpT P T kf (G++ [o]):=by
 funext d
 simp[hpT]
theorem se_told (P:VH) (hn:nro≤P.length) (T:List TD) (kf:Nat→Nat) (G:VH) (h0:0<T.length) (hN:T.length≤1000) (hk: ∀i,i<T.length→G[kf i]? =some ⟨1,ints (tnu T i)⟩) (hl: ∀t∈T,t.2.2.length≤1000):
  SE nro true 3 (.slice (some ⟨P.length,0,none⟩) T.length (T.length * 3)) (.func (.func k_zz37) #[] #[]) (fun x=> .pointer (some ⟨P.length,x.toNat * 3,some (T.length * 3)⟩)) (fun j=> .agg (ceT T (P.length+1) kf j).toArray) (fun i j=>cmpL (tnu T i) (tnu T j)) T.length (hpT P T kf G):=by
 have h3:=ceT_len T (P.length+1) kf
 have hlen: ∀d,(hpT P T kf G d).length=P.length+1+G.length:=fun d=>by simp[hpT];omega
 have hat: ∀d,(hpT P T kf G d)[P.length]? =some ⟨3,d.toList.flatMap (ceT T (P.length+1) kf)⟩:=fun d=>by unfold hpT;rw[hget0];rfl
 have htj: ∀j,tjN T.length j<T.length:=fun j=>by unfold tjN;split<;>omega
 have htt: ∀j,tnu T (tjN T.length j)=tnu T j:=fun j=>by
  unfold tnu
  have:tjN T.length (tjN T.length j)=tjN T.length j:=by
   have:=htj j
   generalize tjN T.length j=y at this⊢
   unfold tjN
   rw[if_pos this]
  rw[this]
 have hnl: ∀j,(tnu T j).length≤1000:=fun j=>by
  have:=htj j
  unfold tnu
  refine hl _ ?_
  rw[List.getD_eq_getElem?_getD,List.getElem?_eq_getElem this]
  exact List.getElem_mem _
 refine⟨fun d d' =>by rw[hlen,hlen],fun d=>by rw[hlen];omega,?_,?_,?_,?_,?_,?_,?_,?_,hN⟩
 ·intro n hln
  rw[hlen]at hln
  intro r hr
  simp[trefs,vrefs,crefs,arefs]at hr
  omega
 ·intro n _ r hr
  simp[trefs,vrefs,crefs,arefs]at hr
 ·intro d x hd h1 h2
  unfold vidx
  simp only[hat]
  rw[flat3_len h3,Array.length_toList (xs:=d),hd,if_pos ⟨trivial,rfl,h1,h2⟩]
  simp
 ·intro d x hd h1 h2
  have hx:x.toNat<d.toList.length:=by rw[Array.length_toList (xs:=d)];omega
  unfold vload vget
  simp only[hat]
  rw[flat3_len h3,Array.length_toList (xs:=d),hd,if_pos ⟨rfl,by omega⟩]
  simp only
  rw[flat3_get h3 _ _ hx]
  have:d.toList[x.toNat]=getI d x:=by
   unfold getI
   have hx' :x.toNat<d.size:=by omega
   simp[hx']
  rw[this]
  rfl
 ·intro d x v hd h1 h2
  have hx:x.toNat<d.toList.length:=by rw[Array.length_toList (xs:=d)];omega
  unfold vstore
  simp only[hat]
  have hv:vcells (.agg (ceT T (P.length+1) kf v).toArray)=ceT T (P.length+1) kf v:=by simp[vcells,Value.cells]
  rw[hv,flat3_len h3,Array.length_toList (xs:=d),hd,if_pos ⟨by omega,rfl,by omega,rfl,rfl⟩,flat3_set h3 _ _ _ hx]
  congr 1
  unfold hpT setI
  rw[Array.toList_setIfInBounds]
  simp
 ·intro d x y
  unfold vcallv
  have sx: ∀j,Sli (hpT P T kf G d) (.slice (some ⟨P.length+1+kf (tjN T.length j),0,none⟩) (tnu T j).length (tnu T j).length) (tnu T j):=fun j=>by
   refine sli_at ?_
   unfold hpT
   rw[Nat.add_assoc,hgetk,Nat.add_comm 1,List.getElem?_cons_succ,hk _ (htj j),htt]
  exact c_refine_1 (nro:=nro) _ _ _ _ _ _ _ _ _ (sx x) (sx y) (hnl x) (hnl y)
 ·intro d d'
  refine⟨by rw[hlen,hlen],fun i p hp=> ?_⟩
  by_cases hi:i=P.length
  ·subst hi
   rw[hat]at hp
   cases hp
   right
   intro r hr
   rw[hlen]
   unfold orefs at hr
   obtain⟨c,hc,hr⟩:=List.mem_flatMap.mp hr
   obtain⟨j,_,hj⟩:=List.mem_flatMap.mp hc
   have h5:=(List.getElem?_eq_some_iff.mp (hk _ (htj j))).1
   unfold ceT at hj
   simp only[List.mem_cons,List.not_mem_nil,or_false]at hj
   rcases hj with rfl|rfl|rfl<;>simp[crefs,arefs]at hr
   omega
  ·left
   rw[←hp]
   unfold hpT
   by_cases hi2:i<P.length
   ·rw[List.getElem?_append_left hi2,List.getElem?_append_left hi2]
   ·rw[List.getElem?_append_right (by omega),List.getElem?_append_right (by omega),show i - P.length=(i - P.length - 1)+1 by omega]
    rfl
 ·intro d hd
  unfold vlen
  simp only[hat]
  rw[flat3_len h3,Array.length_toList (xs:=d),hd,if_pos rfl]
end

/- What is told is sorted. -/
section
open Go Go.Sort
variable {nro:Nat}
theorem flat3_ext {ce:Nat→List Value}: ∀(N:Nat) (cs:List Value),cs.length=N * 3→(∀i,i<N→(cs.drop (i * 3)).take 3=ce i)→cs=(List.range N).flatMap ce
 | 0, cs, hl, _ => by simp at hl; simp [hl]
 | N + 1, cs, hl, h => by
  have ih:=flat3_ext (ce:=ce) N (cs.take (N * 3)) (by simp;omega) (fun i hi=>by
   rw[←h i (by omega),List.drop_take,List.take_take]
   congr 1
   omega)
  have h2:=h N (by omega)
  rw[List.take_of_length_le (by simp;omega)]at h2
  rw[List.range_succ,List.flatMap_append,←ih]
  simp[←h2]
def SrtT (U:List TD):Prop:=U.Pairwise fun x y=> ¬cmpL y.2.2 x.2.2<0
theorem c_sort_told (P:VH) (hn:nro≤P.length) (T:List TD) (cs:List Value) (G:VH) (e:ET (P.length+1) cs G T) (h0:0<T.length) (hN:T.length≤255) (hl: ∀t∈T,t.2.2.length≤1000):
  ∃(U:List TD) (cs' :List Value),U.Perm T∧SrtT U∧ET (P.length+1) cs' G U∧
   vcall F nro k_zz7 [.slice (some ⟨P.length,0,none⟩) T.length cs.length,.func (.func k_zz37) #[] #[]] (P++⟨3,cs⟩::G)=some (.tuple #[],P++⟨3,cs'⟩::G):=by
 have hex: ∀i,∃k,∀(hi:i<T.length),(cs.drop (i * 3)).take 3= [.int .i64 T[i].1,.int .i64 T[i].2.1,.slice (some ⟨P.length+1+k,0,none⟩) T[i].2.2.length T[i].2.2.length]∧G[k]? =some ⟨1,ints T[i].2.2⟩:=fun i=>by
  by_cases hi:i<T.length
  ·obtain⟨k,h⟩:=e.at_ i hi
   exact⟨k,fun _=>h⟩
  ·exact⟨0,fun h=>absurd h hi⟩
 obtain⟨kf,hkf⟩: ∃kf:Nat→Nat,∀i (hi:i<T.length),(cs.drop (i * 3)).take 3= [.int .i64 T[i].1,.int .i64 T[i].2.1,.slice (some ⟨P.length+1+kf i,0,none⟩) T[i].2.2.length T[i].2.2.length]∧G[kf i]? =some ⟨1,ints T[i].2.2⟩:=⟨fun i=>Classical.choose (hex i),fun i=>Classical.choose_spec (hex i)⟩
 have hg: ∀i (hi:i<T.length),T.getD (tjN T.length i) (0,0,[])=T[i]:=fun i hi=>by
  unfold tjN
  rw[if_pos hi,List.getD_eq_getElem?_getD,List.getElem?_eq_getElem hi]
  rfl
 have hnu: ∀i (hi:i<T.length),tnu T i=T[i].2.2:=fun i hi=>by unfold tnu;rw[hg i hi]
 have hce: ∀i (hi:i<T.length),ceT T (P.length+1) kf i= [.int .i64 T[i].1,.int .i64 T[i].2.1,.slice (some ⟨P.length+1+kf i,0,none⟩) T[i].2.2.length T[i].2.2.length]:=fun i hi=>by
  unfold ceT
  rw[hnu i hi,hg i hi]
  unfold tjN
  rw[if_pos hi]
 have hk: ∀i,i<T.length→G[kf i]? =some ⟨1,ints (tnu T i)⟩:=fun i hi=>by rw[hnu i hi];exact(hkf i hi).2
 have SX1:SX nro true 3 _ _ _ _ _ _ (hpT P T kf G):=⟨se_told P hn T kf G h0 (by omega) hk hl,fun o=>by
  rw[hpT_snoc]
  exact se_told P hn T kf (G++ [o]) h0 (by omega) (fun i hi=>by rw[List.getElem?_append_left (List.getElem?_eq_some_iff.mp (hk i hi)).1];exact hk i hi) hl⟩
 obtain⟨d',s1,s2,s3,s4⟩:=c_told_SortFunc SX1 (cmpL_swo (tnu T)) hN (Array.range T.length) (by simp)
 have hcs:cs=(List.range T.length).flatMap (ceT T (P.length+1) kf):=flat3_ext _ _ e.len fun i hi=>by rw[(hkf i hi).1,hce i hi]
 have hcs2:T.length * 3=cs.length:=e.len.symm
 have hperm:d'.toList.Perm (List.range T.length):=by
  have:=s2.2.2
  rw[Array.extract_eq_self_of_le (by omega),Array.extract_eq_self_of_le (by simp)]at this
  simpa using this
 have hlt: ∀j∈d'.toList,j<T.length:=fun j hj=>by simpa using hperm.mem_iff.mp hj
 refine⟨d'.toList.map fun j=>T.getD j (0,0,[]),d'.toList.flatMap (ceT T (P.length+1) kf),?_,?_,⟨?_,fun i hi=> ?_⟩,?_⟩
 ·have h1:=hperm.map fun j=>T.getD j (0,0,[])
  have h2:(List.range T.length).map (fun j=>T.getD j (0,0,[]))=T:=by
   apply List.ext_getElem (by simp)
   intro i p1 p2
   simp[List.getD_eq_getElem?_getD,p2]
  rwa [h2]at h1
 ·unfold SrtT
  rw[List.pairwise_map,List.pairwise_iff_getElem]
  intro i j hi hj hij
  have hs:=s3 i j (by omega) hij (by rw[←s1];simpa using hj)
  have hi' :i<d'.size:=by simpa using hi
  have hj' :j<d'.size:=by simpa using hj
  have gi:d'[i]! =d'.toList[i]:=by simp[hi']
  have gj:d'[j]! =d'.toList[j]:=by simp[hj']
  rw[gi,gj]at hs
  have li:=hlt _ (List.getElem_mem hi)
  have lj:=hlt _ (List.getElem_mem hj)
  generalize d'.toList[i]=x at hs li⊢
  generalize d'.toList[j]=y at hs lj⊢
  unfold ltC at hs
  simp only[hnu _ li,hnu _ lj]at hs
  have e1:T.getD x (0,0,[])=T[x]:=by simp[List.getD_eq_getElem?_getD,li]
  have e2:T.getD y (0,0,[])=T[y]:=by simp[List.getD_eq_getElem?_getD,lj]
  rw[e1,e2]
  simpa using hs
 ·rw[flat3_len (ceT_len T (P.length+1) kf)];simp
 ·rw[List.length_map]at hi
  have li:=hlt _ (List.getElem_mem hi)
  refine⟨kf d'.toList[i],?_,?_⟩
  ·rw[flat3_get (ceT_len T (P.length+1) kf) _ _ hi,hce _ li]
   have e1:T.getD d'.toList[i] (0,0,[])=T[d'.toList[i]]:=by rw[List.getD_eq_getElem?_getD,List.getElem?_eq_getElem li];rfl
   simp only[List.getElem_map,e1]
  ·have e1:T.getD d'.toList[i] (0,0,[])=T[d'.toList[i]]:=by rw[List.getD_eq_getElem?_getD,List.getElem?_eq_getElem li];rfl
   simp only[List.getElem_map,e1]
   exact(hkf _ li).2
 ·unfold hpT at s4
  rw[Array.toList_range,←hcs,hcs2]at s4
  exact s4
end

/- Refining: the new colours. -/
section
open Go Go.Sort
theorem Upd.appR {h h' :VH} (hu:Upd h h') (X:VH):Upd (h++X) (h' ++X):=by
 refine⟨by simp[hu.1],fun i p hp=> ?_⟩
 by_cases hi:i<h'.length
 ·rw[List.getElem?_append_left hi]at hp
  have hi2:i<h.length:=by have:=hu.1;omega
  rcases hu.2 i p hp with h1|h1
  ·left;rw[List.getElem?_append_left hi2];exact h1
  ·right
   intro r hr
   have:=h1 r hr
   simp;omega
 ·left
  rw[List.getElem?_append_right (by omega)]at hp
  rw[List.getElem?_append_right (by have:=hu.1;omega)]
  rw[←hu.1];exact hp
def tdD:TD:=(0,0,[])
def asg (U:List TD) (k:Nat) (s:Int × (Nat→List Int)):Int × (Nat→List Int):=
 let col:=if k=0∨(U.getD k tdD).2.2≠(U.getD (k - 1) tdD).2.2 then s.1+1 else s.1
 (col,updL s.2 (U.getD k tdD).1.toNat ((s.2 (U.getD k tdD).1.toNat).set (U.getD k tdD).2.1.toNat col))
section
variable {nro K n a bg bc:Nat} {q:Nat→Nat} {rs:Nat→Value} {rows:Nat→List Int} {gcs:List Value} {Hc:(Nat→List Int)→VH} (E:RG nro K n a bg bc q rs rows gcs Hc)
include E
set_option maxHeartbeats 4000000 in
theorem l_refine_B5 (m:Nat) (U:List TD) (cs:List Value) (G:VH) (c0:Nat→List Int) (e:ET ((Hc c0).length+1) cs G U) (hU: ∀t∈U,0≤t.1∧t.1<K∧0≤t.2.1∧t.2.1<n∧t.2.2.length≤1000) (hN:U.length≤255) (C0:CL K n c0):
  floop (vcall F nro) nro [0,2,3,14,98,99,100] i_zz45_B5 (Hc c0++⟨3,cs⟩::G)
   [.pointer (some ⟨a,0,some 2⟩),.int .i64 m,.slice (some ⟨(Hc c0).length,0,none⟩) U.length cs.length,.int .i64 (-1),.slice (some ⟨(Hc c0).length,0,none⟩) U.length cs.length,.int .i64 U.length,.int .i64 0] (Hc c0++⟨3,cs⟩::G)=
   some (.exit 10,fl [(0,.pointer (some ⟨a,0,some 2⟩)),(2,.int .i64 m),(14,.int .i64 (upF (asg U) U.length 0 (-1,c0)).1)],Hc (upF (asg U) U.length 0 (-1,c0)).2++⟨3,cs⟩::G)∧
  CL K n (upF (asg U) U.length 0 (-1,c0)).2∧ -1≤(upF (asg U) U.length 0 (-1,c0)).1∧(upF (asg U) U.length 0 (-1,c0)).1<U.length:=by
 have hK:=E.K2
 have hn1:=E.n1
 have key:=for_up (call:=vcall F nro) (nro:=nro) (live:= [0,2,3,14,98,99,100]) (c:=i_zz45_B5) (h0:=Hc c0++⟨3,cs⟩::G) (n:=U.length)
  (fun k (s:Int × (Nat→List Int))=> [.pointer (some ⟨a,0,some 2⟩),.int .i64 m,.slice (some ⟨(Hc c0).length,0,none⟩) U.length cs.length,.int .i64 s.1,.slice (some ⟨(Hc c0).length,0,none⟩) U.length cs.length,.int .i64 U.length,.int .i64 k])
  (fun _ s=>Hc s.2++⟨3,cs⟩::G) (asg U) (fun k s=>(CL K n s.2∧ -1≤s.1∧s.1<k)∧(1≤k→0≤s.1))
  (fun s=>some (.exit 10,fl [(0,.pointer (some ⟨a,0,some 2⟩)),(2,.int .i64 m),(14,.int .i64 s.1)],Hc s.2++⟨3,cs⟩::G)) (fun k s hk hk2 I=> ?_) (fun s _=> ?_) 0 (-1,c0) (by omega) ⟨⟨C0,by omega,by simp⟩,by omega⟩
 ·exact⟨key.1,key.2.1⟩
 ·obtain⟨col,c⟩:=s
  obtain⟨⟨C,i1,i2⟩,i3⟩:=I
  simp only at C i1 i2 i3⊢
  have hlen:=E.len c c0
  obtain⟨t,ht⟩: ∃t,t=U.getD k tdD:=⟨_,rfl⟩
  have htk:t=U[k]:=by rw[ht,List.getD_eq_getElem?_getD,List.getElem?_eq_getElem hk];rfl
  obtain⟨u1,u2,u3,u4,u5⟩:=hU t (by rw[htk];exact List.getElem_mem hk)
  obtain⟨i,hi⟩: ∃i:Nat,t.1=i:=⟨t.1.toNat,by omega⟩
  obtain⟨v,hv⟩: ∃v:Nat,t.2.1=v:=⟨t.2.1.toNat,by omega⟩
  have hiK:i<K:=by omega
  have hvn:v<n:=by omega
  obtain⟨col',hcol⟩: ∃col',col' =if k=0∨t.2.2≠(U.getD (k - 1) tdD).2.2 then col+1 else col:=⟨_,rfl⟩
  have hasg:asg U k (col,c)=(col',updL c i ((c i).set v col')):=by
   unfold asg
   simp only[←ht,←hcol,hi,hv,Int.toNat_natCast]
  have hcl:=C.len i hiK
  have hcol2: -1≤col' ∧col' <((k+1:Nat):Int)∧0≤col' :=by
   rw[hcol]
   split
   ·omega
   ·rename_i h
    have:k≠0:=fun h2=>h (.inl h2)
    have:=i3 (by omega)
    refine⟨by omega,by omega,by omega⟩
  have C' :CL K n (updL c i ((c i).set v col')):=by
   refine⟨fun j hj=> ?_,fun j hj x hx=> ?_⟩
   ·unfold updL
    split
    ·simpa using hcl
    ·exact C.len j hj
   ·unfold updL at hx
    split at hx
    ·rcases List.mem_or_eq_of_mem_set hx with h|h
     ·exact C.ge i hiK x h
     ·omega
    ·exact C.ge j hj x hx
  refine⟨by rw[hasg];exact⟨⟨C',hcol2.1,hcol2.2.1⟩,fun _=>hcol2.2.2⟩,?_⟩
  rw[hasg]
  obtain⟨kk,e1,e2⟩:=e.at_ k hk
  rw[←htk,hi,hv]at e1
  rw[←htk]at e2
  obtain⟨H,hH⟩: ∃H,H=Hc c++⟨3,cs⟩::G:=⟨_,rfl⟩
  have hHl:H.length=(Hc c).length+1+G.length:=by rw[hH];simp;omega
  have hel:=e.len
  have la:a<H.length:=by have:=E.lax c;omega
  have lb:bc<H.length:=by have:=E.lbc c;omega
  have lq:q i<H.length:=by have:=E.lq c hiK;omega
  have lA:(Hc c0).length<H.length:=by omega
  have p0: ∀L:VH,(H++L)[a]? =_:=fun L=>(List.getElem?_append_left la).trans (hH ▸ E.lt c (E.ax c) (⟨3,cs⟩::G))
  have p2: ∀L:VH,(H++L)[bc]? =_:=fun L=>(List.getElem?_append_left lb).trans (hH ▸ E.lt c (E.ac c) (⟨3,cs⟩::G))
  have p3: ∀L:VH,(H++L)[q i]? =_:=fun L=>(List.getElem?_append_left lq).trans (hH ▸ E.lt c (E.aq c i hiK) (⟨3,cs⟩::G))
  have q3:H[(Hc c0).length]? =some ⟨3,cs⟩:=by rw[hH,←hlen,hget0];rfl
  have p4: ∀L:VH,(H++L)[(Hc c0).length]? =_:=fun L=>(List.getElem?_append_left lA).trans q3
  have g2:=E.ccell i hiK
  have nq:=E.nq i hiK
  have hnH:nro≤H.length:=by have:=E.nr c;omega
  have s1:Sli H (.slice (some ⟨(Hc c0).length+1+kk,0,none⟩) t.2.2.length t.2.2.length) t.2.2:=sli_at (by
   rw[hH,←hlen,Nat.add_assoc,hgetk,Nat.add_comm 1,List.getElem?_cons_succ];exact e2)
  have w1:IntKind.i64.wrap ((k:Int)+1)=(k:Int)+1:=wrap64 (by omega) (by omega)
  have w2:IntKind.i64.wrap (col+1)=col+1:=wrap64 (by omega) (by omega)
  have w3:IntKind.i64.wrap ((k:Int) - 1)=(k:Int) - 1:=wrap64 (by omega) (by omega)
  have hvl:v<(c i).length:=by omega
  have sp:=splice_ints (v:=col') hvl
  obtain⟨ns,hns⟩: ∃ns,ns=Value.slice (some ⟨(Hc c0).length+1+kk,0,none⟩) t.2.2.length t.2.2.length:=⟨_,rfl⟩
  rw[←hns]at e1 s1
  have jn:=Sl.nj s1
  unfold isJunk at jn
  have hst:H.set (q i) ⟨1,ints ((c i).set v col')⟩=Hc (updL c i ((c i).set v col'))++(⟨3,cs⟩::G):=by
   rw[hH,E.setA c _ i _ hiK]
  have hcl2:kclean (Hc c0++⟨3,cs⟩::G) [.pointer (some ⟨a,0,some 2⟩),.int .i64 m,.slice (some ⟨(Hc c0).length,0,none⟩) U.length cs.length,.int .i64 col',.slice (some ⟨(Hc c0).length,0,none⟩) U.length cs.length,.int .i64 U.length,.int .i64 ((k:Int)+1)] (Hc (updL c i ((c i).set v col'))++(⟨3,cs⟩::G++ [⟨0,[.int .i64 i,.int .i64 v,ns]⟩]))=
    ([.pointer (some ⟨a,0,some 2⟩),.int .i64 m,.slice (some ⟨(Hc c0).length,0,none⟩) U.length cs.length,.int .i64 col',.slice (some ⟨(Hc c0).length,0,none⟩) U.length cs.length,.int .i64 U.length,.int .i64 ((k:Int)+1)],Hc (updL c i ((c i).set v col'))++⟨3,cs⟩::G):=by
   rw[←List.append_assoc]
   refine cleanup_upd ((E.upd _ _).appR _) ?_
   intro w hw
   have hl0:(Hc c0++(⟨3,cs⟩:VO)::G).length=H.length:=by rw[hHl,hlen];simp;omega
   rw[hl0]
   simp only[List.mem_cons,List.not_mem_nil,or_false]at hw
   rcases hw with rfl|rfl|rfl|rfl|rfl|rfl|rfl<;>intro r hr<;>simp[trefs,vrefs,crefs,arefs]at hr<;>omega
  rw[←hH]
  rw[floop_at i_zz45_B5.eq_1]
  have l3:k * 3+3≤cs.length:=by omega
  simp only[List.cons_append]at hcl2
  by_cases hk0:k=0
  ·have e5:col' =col+1:=by rw[hcol,if_pos (.inl hk0)]
   have w2:IntKind.i64.wrap (col+1)=col' :=by rw[w2,e5]
   clear hH hHl hcol hasg hcol2 C' C i1 i2 i3 e hU C0 e2 ht htk u1 u2 u3 u4 u5 hi hv hns s1 hel
   subst hk0
   simp only[Nat.zero_mul,List.drop_zero,Nat.zero_add,Int.natCast_zero,Int.zero_add]at e1 l3 hk2 w1 hcl2 w3
   have l3' :2<cs.length:=by omega
   simp (disch:=first|assumption|omega|(simp[*]<;>omega)|fail) [-getElem?_pos,gz_,gs_,hk,hk2,l3',q3,p4,p0,p2,p3,e1,l3,w1,w2,g2,hiK,hvn,hvl,sp,nq,jn,hst,hcl2,hcl,hnH]
  ·have hj:k - 1<U.length:=by omega
   obtain⟨kk',e1',e2'⟩:=e.at_ (k - 1) hj
   have htk' :U.getD (k - 1) tdD=U[k - 1]:=by rw[List.getD_eq_getElem?_getD,List.getElem?_eq_getElem hj];rfl
   rw[htk']at hcol
   have u5' :=(hU _ (List.getElem_mem hj)).2.2.2.2
   obtain⟨t',ht'⟩: ∃t',t' =U[k - 1]:=⟨_,rfl⟩
   rw[←ht']at e1' e2' hcol u5'
   have s2:Sli H (.slice (some ⟨(Hc c0).length+1+kk',0,none⟩) t'.2.2.length t'.2.2.length) t'.2.2:=sli_at (by
    rw[hH,←hlen,Nat.add_assoc,hgetk,Nat.add_comm 1,List.getElem?_cons_succ];exact e2')
   obtain⟨ns',hns'⟩: ∃ns,ns=Value.slice (some ⟨(Hc c0).length+1+kk',0,none⟩) t'.2.2.length t'.2.2.length:=⟨_,rfl⟩
   rw[←hns']at e1' s2
   have e6:List.take 1 (List.drop ((k - 1) * 3+2) cs)= [ns']:=by
    have:=congrArg (List.drop 2) e1'
    rw[List.drop_take,List.drop_drop]at this
    exact this
   have hc:=c_slices_Compare (nro:=nro) (H++ [⟨0,[.int .i64 i,.int .i64 v,ns]⟩]) ns ns' t.2.2 t'.2.2 (s1.app _) (s2.app _) u5 u5'
   have t1:((k:Int) - 1).toNat=k - 1:=by omega
   have l4:(k - 1) * 3+2+1≤cs.length:=by omega
   have l5:(1:Int)≤(k:Int):=by omega
   have l6:(k:Int) - 1<U.length:=by omega
   by_cases hq:t.2.2=t'.2.2
   ·have e5:col' =col:=by rw[hcol,if_neg (by rintro(h|h);exact hk0 h;exact h hq)]
    rw[hq,cmpL_refl]at hc
    rw[e5]at hst hcl2 sp⊢
    clear hH hHl hcol hasg hcol2 C' C i1 i2 i3 e hU C0 e2 ht htk u1 u2 u3 u4 u5 hi hv hns s1 hel hq s2 hns' e1' e2' ht' htk' w2
    simp (disch:=first|assumption|omega|(simp[*]<;>omega)|fail) [-getElem?_pos,gz_,gs_,hk,hk2,q3,p4,p0,p2,p3,e1,e6,l3,l4,l5,l6,t1,hc,hk0,w1,w3,g2,hiK,hvn,hvl,sp,nq,jn,hst,hcl2,hcl,hnH]
   ·have e5:col' =col+1:=by rw[hcol,if_pos (.inr hq)]
    have hne:cmpL t.2.2 t'.2.2≠0:=fun h=>hq (cmpL_eq h)
    have w2:IntKind.i64.wrap (col+1)=col' :=by rw[w2,e5]
    obtain⟨z,hz⟩: ∃z,z=cmpL t.2.2 t'.2.2:=⟨_,rfl⟩
    rw[←hz]at hne hc
    clear hH hHl hcol hasg hcol2 C' C i1 i2 i3 e hU C0 e2 ht htk u1 u2 u3 u4 u5 hi hv hns s1 hel hq s2 hns' e1' e2' ht' htk' hz
    simp (disch:=first|assumption|omega|(simp[*]<;>omega)|fail) [-getElem?_pos,gz_,gs_,hk,hk2,q3,p4,p0,p2,p3,e1,e6,l3,l4,l5,l6,t1,hc,hne,hk0,w1,w2,w3,g2,hiK,hvn,hvl,sp,nq,jn,hst,hcl2,hcl,hnH]
 ·rw[floop_at i_zz45_B5.eq_1]
  simp (disch:=first|assumption|omega|(simp[*]<;>omega)|fail) [-getElem?_pos,gz_,gs_,]
end
end

/- Refining, in plain terms: one round. -/
section
open Go Go.Sort
def nuU (U:List TD) (k:Nat):List Int:=(U.getD k tdD).2.2
open Classical in
noncomputable def colK (U:List TD):Nat→Int
 | 0 => 0
 | k + 1 => if nuU U (k + 1) ≠ nuU U k then colK U k + 1 else colK U k
theorem colK_ge (U:List TD): ∀k,0≤colK U k
 | 0 => Int.le_refl _
 | k + 1 => by
  have:=colK_ge U k
  rw[colK]
  split<;>omega
theorem colK_mono (U:List TD) (j:Nat): ∀d,colK U j≤colK U (j+d)
 | 0 => Int.le_refl _
 | d + 1 => by
  have:=colK_mono U j d
  rw[←Nat.add_assoc,colK]
  split<;>omega
theorem srt_le {U:List TD} (hs:SrtT U) {j k:Nat} (hj:j≤k) (hk:k<U.length): ¬cmpL (nuU U k) (nuU U j)<0:=by
 by_cases e:j=k
 ·subst e;rw[cmpL_refl];omega
 ·have hp:=List.pairwise_iff_getElem.mp hs j k (by omega) hk (by omega)
  unfold nuU
  rw[List.getD_eq_getElem?_getD,List.getElem?_eq_getElem hk,List.getD_eq_getElem?_getD,List.getElem?_eq_getElem (by omega:j<U.length)]
  exact hp
theorem cmpL_ge {a b:List Int} (h1: ¬cmpL a b<0) (h2: ¬cmpL b a<0):a=b:=by
 have h3:=cmpL_neg a b
 exact cmpL_eq (by omega)
theorem colK_iff {U:List TD} (hs:SrtT U) (j:Nat): ∀d,j+d<U.length→(colK U j=colK U (j+d)↔nuU U j=nuU U (j+d))
 | 0, _ => by simp
 | d + 1, hd => by
  have ih:=colK_iff hs j d (by omega)
  have hm:=colK_mono U j d
  rw[←Nat.add_assoc,colK]
  by_cases e:nuU U (j+d+1)=nuU U (j+d)
  ·rw[if_neg (by simp[e]),e]
   exact ih
  ·rw[if_pos e]
   constructor
   ·intro h;omega
   ·intro h
    exfalso
    apply e
    have h1:=srt_le hs (j:=j) (k:=j+d) (by omega) (by omega)
    have h2:=srt_le hs (j:=j+d) (k:=j+d+1) (by omega) (by omega)
    rw[←h]at h2⊢
    exact cmpL_ge h2 h1
theorem colK_eq {U:List TD} (hs:SrtT U) (j k:Nat) (hj:j<U.length) (hk:k<U.length):colK U j=colK U k↔nuU U j=nuU U k:=by
 rcases Nat.le_total j k with h|h
 ·obtain⟨d,rfl⟩:=Nat.le.dest h
  exact colK_iff hs j d hk
 ·obtain⟨d,rfl⟩:=Nat.le.dest h
  have:=colK_iff hs k d hj
  exact⟨fun h=>(this.mp h.symm).symm,fun h=>(this.mpr h.symm).symm⟩
theorem colK_sur (U:List TD): ∀k x,0≤x→x≤colK U k→ ∃j,j≤k∧colK U j=x
 | 0, x, h1, h2 => ⟨0, Nat.le_refl _, by rw [colK] at h2 ⊢; omega⟩
 | k + 1, x, h1, h2 => by
  by_cases h:x≤colK U k
  ·obtain⟨j,h3,h4⟩:=colK_sur U k x h1 h
   exact⟨j,by omega,h4⟩
  ·refine⟨k+1,Nat.le_refl _,?_⟩
   have:colK U (k+1)≤colK U k+1:=by
    rw[colK];split<;>omega
   omega
theorem asg_all (U:List TD) (K n:Nat) (c0:Nat→List Int) (hl0: ∀i,i<K→(c0 i).length=n) (hU: ∀t∈U,0≤t.1∧t.1<K∧0≤t.2.1∧t.2.1<n)
  (hd: ∀j k,j<U.length→k<U.length→(U.getD j tdD).1=(U.getD k tdD).1→(U.getD j tdD).2.1=(U.getD k tdD).2.1→j=k):
  (0<U.length→(upF (asg U) U.length 0 (-1,c0)).1=colK U (U.length - 1))∧ ∀j,j<U.length→((upF (asg U) U.length 0 (-1,c0)).2 (U.getD j tdD).1.toNat).getD (U.getD j tdD).2.1.toNat 0=colK U j:=by
 have:=upF_inv (n:=U.length) (f:=asg U) (I:=fun k s=>(k=0→s.1= -1)∧(∀p,k=p+1→s.1=colK U p)∧(∀i,i<K→(s.2 i).length=n)∧ ∀j,j<k→(s.2 (U.getD j tdD).1.toNat).getD (U.getD j tdD).2.1.toNat 0=colK U j) (fun k s hk I=> ?_) 0 (-1,c0) (by omega) ⟨fun _=>rfl,by omega,hl0,by omega⟩
 ·obtain⟨h1,h2,h3,h4⟩:=this
  exact⟨fun h=>h2 _ (by omega),h4⟩
 ·obtain⟨col,c⟩:=s
  obtain⟨h1,h2,h3,h4⟩:=I
  simp only at h1 h2 h3 h4
  have hcol:(if k=0∨(U.getD k tdD).2.2≠(U.getD (k - 1) tdD).2.2 then col+1 else col)=colK U k:=by
   cases k with
   | zero =>
    rw[if_pos (.inl rfl),h1 rfl,colK];rfl
   | succ p =>
    rw[h2 p rfl,colK]
    simp only[Nat.add_sub_cancel]
    unfold nuU
    by_cases e:(U.getD (p+1) tdD).2.2=(U.getD p tdD).2.2
    ·rw[if_neg (by rintro(h|h);omega;exact h e),if_neg (fun h=>h e)]
    ·rw[if_pos (.inr e),if_pos e]
  have hmem: ∀j,j<U.length→U.getD j tdD∈U:=fun j hj=>by
   rw[List.getD_eq_getElem?_getD,List.getElem?_eq_getElem hj];exact List.getElem_mem hj
  obtain⟨u1,u2,u3,u4⟩:=hU _ (hmem k hk)
  unfold asg
  simp only[hcol]
  refine⟨by omega,fun p hp=>by rw[show k=p by omega],fun i hi=> ?_,fun j hj=> ?_⟩
  ·unfold updL
   split
   ·rename_i e
    rw[List.length_set,←e]
    exact h3 i hi
   ·exact h3 i hi
  ·obtain⟨w1,w2,w3,w4⟩:=hU _ (hmem j (by omega))
   unfold updL
   by_cases e:j=k
   ·subst e
    rw[if_pos rfl,List.getD_eq_getElem?_getD,List.getElem?_set_self (by rw[h3 _ (by omega)];omega)]
    rfl
   ·have hjk:=h4 j (by omega)
    by_cases e2:(U.getD j tdD).1.toNat=(U.getD k tdD).1.toNat
    ·rw[if_pos e2,List.getD_eq_getElem?_getD,List.getElem?_set_ne,←List.getD_eq_getElem?_getD,←e2]
     ·exact hjk
     ·intro e3
      exact e (hd j k (by omega) hk (by omega) (by omega))
    ·rw[if_neg e2]
     exact hjk
structure Rnd (rows:Nat→List Int) (K n:Nat) (c c' :Nat→List Int) (col:Int):Prop where
 col0:0≤col
 eq: ∀i v j w,i<K→v<n→j<K→w<n→((c' i).getD v 0=(c' j).getD w 0↔nuC (rows i) (c i) (manyN K c) n v=nuC (rows j) (c j) (manyN K c) n w)
 le: ∀i v,i<K→v<n→0≤(c' i).getD v 0∧(c' i).getD v 0≤col
 sur: ∀x,0≤x→x≤col→ ∃i v,i<K∧v<n∧(c' i).getD v 0=x
theorem rnd_asg (rows c:Nat→List Int) (K n:Nat) (hK:1≤K) (hn:1≤n) (R: ∀i,i<K→Rok n (rows i)) (C:CL K n c) (U:List TD) (hp:U.Perm (tdsF rows c (manyN K c) n K 0)) (hs:SrtT U):
  Rnd rows K n c (upF (asg U) U.length 0 (-1,c)).2 (upF (asg U) U.length 0 (-1,c)).1:=by
 have hm:=tdsF_mem (m:=manyN K c) R C.len (fun i hi x hx=>C.lt hn i hi x hx) 0
 have hnd:=(tdsF_nodup (rows:=rows) (c:=c) (m:=manyN K c) (n:=n) (K:=K) 0).1
 have hmU: ∀t,t∈U↔ ∃j w:Nat,j<K∧w<n∧t=((j:Int),(w:Int),nuC (rows j) (c j) (manyN K c) n w):=fun t=>by
  rw[hp.mem_iff,hm t]
  simp
 have hget: ∀j,j<U.length→U.getD j tdD=U[j]! :=fun j hj=>by simp[List.getD_eq_getElem?_getD,hj]
 have hmem: ∀j,j<U.length→U.getD j tdD∈U:=fun j hj=>by
  rw[List.getD_eq_getElem?_getD,List.getElem?_eq_getElem hj];exact List.getElem_mem hj
 have hndU:U.Nodup:=hp.nodup_iff.mpr hnd
 have hlen:0<U.length:=by
  have:(((0:Nat):Int),((0:Nat):Int),nuC (rows 0) (c 0) (manyN K c) n 0)∈U:=(hmU _).mpr ⟨0,0,by omega,by omega,rfl⟩
  exact List.length_pos_of_mem this
 obtain⟨a1,a2⟩:=asg_all U K n c C.len (fun t ht=>by
  obtain⟨j,w,h1,h2,rfl⟩:=(hmU t).mp ht
  exact⟨by simp,by simp only;omega,by simp,by simp only;omega⟩) (fun j k hj hk e1 e2=>by
  obtain⟨j1,w1,h1,h2,h3⟩:=(hmU _).mp (hmem j hj)
  obtain⟨j2,w2,h4,h5,h6⟩:=(hmU _).mp (hmem k hk)
  rw[h3,h6]at e1 e2
  simp only at e1 e2
  have e3:j1=j2:=by omega
  have e4:w1=w2:=by omega
  subst e3 e4
  have e5:U.getD j tdD=U.getD k tdD:=by rw[h3,h6]
  rw[List.getD_eq_getElem?_getD,List.getElem?_eq_getElem hj,List.getD_eq_getElem?_getD,List.getElem?_eq_getElem hk]at e5
  exact(List.getElem_inj hndU).mp e5)
 have a1:=a1 hlen
 have at' : ∀i v,i<K→v<n→ ∃k,k<U.length∧((upF (asg U) U.length 0 (-1,c)).2 i).getD v 0=colK U k∧nuU U k=nuC (rows i) (c i) (manyN K c) n v:=fun i v hi hv=>by
  obtain⟨k,hk,he⟩:=List.getElem_of_mem ((hmU _).mpr ⟨i,v,hi,hv,rfl⟩)
  have hg:U.getD k tdD=((i:Int),(v:Int),nuC (rows i) (c i) (manyN K c) n v):=by rw[List.getD_eq_getElem?_getD,List.getElem?_eq_getElem hk];exact he
  have:=a2 k hk
  rw[hg]at this
  simp only[Int.toNat_natCast]at this
  exact⟨k,hk,this,by unfold nuU;rw[hg]⟩
 refine⟨?_,fun i v j w hi hv hj hw=> ?_,fun i v hi hv=> ?_,fun x h1 h2=> ?_⟩
 ·rw[a1];exact colK_ge _ _
 ·obtain⟨k1,h1,h2,h3⟩:=at' i v hi hv
  obtain⟨k2,h4,h5,h6⟩:=at' j w hj hw
  rw[h2,h5,colK_eq hs k1 k2 h1 h4,h3,h6]
 ·obtain⟨k1,h1,h2,h3⟩:=at' i v hi hv
  rw[h2,a1]
  refine⟨colK_ge _ _,?_⟩
  obtain⟨d,hd⟩:=Nat.le.dest (by omega:k1≤U.length - 1)
  rw[←hd]
  exact colK_mono U k1 d
 ·rw[a1]at h2
  obtain⟨j,h3,h4⟩:=colK_sur U _ x h1 h2
  obtain⟨i,w,h5,h6,h7⟩:=(hmU _).mp (hmem j (by omega))
  have:=a2 j (by omega)
  rw[h7]at this
  simp only[Int.toNat_natCast]at this
  exact⟨i,w,h5,h6,by rw[this,h4]⟩
end

/- Refining, in plain terms: how many colours after a round. -/
section
open Go Go.Sort
theorem inj_sum (m p:Nat) (f:Nat→Nat) (hf: ∀x,x<m→f x<p):(m:Int)=sumF (fun y=>sumF (fun x=>oneIf (f x=y)) m) p:=by
 rw[←sumF_swap (fun x y=>oneIf (f x=y)) p m]
 have: ∀x,x<m→sumF (fun y=>oneIf (f x=y)) p=1:=fun x hx=>by
  rw[sumF_one (k:=f x) (hf x hx) (fun i _ hi=>one_neg fun h=>hi h.symm)]
  exact one_pos rfl
 rw[sumF_congr (g:=fun _=>1 * 1) this]
 clear this hf
 induction m with
 | zero => rfl
 | succ m ih => rw [sumF, ← ih]; omega
theorem sumF_const (c:Int): ∀n:Nat,sumF (fun _=>c) n=n * c
 | 0 => by simp [sumF]
 | n + 1 => by rw [sumF, sumF_const c n]; simp [Int.add_mul]
theorem inj_le (m p:Nat) (f:Nat→Nat) (hf: ∀x,x<m→f x<p) (hi: ∀x y,x<m→y<m→f x=f y→x=y):m≤p:=by
 have h1:=inj_sum m p f hf
 have h2:sumF (fun y=>sumF (fun x=>oneIf (f x=y)) m) p≤sumF (fun _=>1) p:=sumF_le fun y _=>sumF_most fun i j hi' hj h3 h4=>hi i j hi' hj (h3.trans h4.symm)
 rw[sumF_const]at h2
 omega
theorem inj_sur (m:Nat) (f:Nat→Nat) (hf: ∀x,x<m→f x<m) (hi: ∀x y,x<m→y<m→f x=f y→x=y) (y:Nat) (hy:y<m): ∃x,x<m∧f x=y:=by
 apply Classical.byContradiction
 intro hno
 have h1:=inj_le m (m - 1) (fun x=>if f x<y then f x else f x - 1) (fun x hx=>by
  have:=hf x hx
  have:f x≠y:=fun h=>hno ⟨x,hx,h⟩
  try simp only
  split<;>omega) (fun x z hx hz h=>by
  have h2:f x≠y:=fun h=>hno ⟨x,hx,h⟩
  have h3:f z≠y:=fun h=>hno ⟨z,hz,h⟩
  refine hi x z hx hz ?_
  try simp only at h
  split at h<;>split at h<;>omega)
 omega
def SurC (K n:Nat) (c:Nat→List Int):Prop:= ∀x:Int,0≤x→x<manyN K c→ ∃i v,i<K∧v<n∧(c i).getD v 0=x
theorem CL.getD {K n:Nat} {c:Nat→List Int} (C:CL K n c) {i v:Nat} (hi:i<K) (hv:v<n):(c i).getD v 0∈c i:=by
 have:=C.len i hi
 rw[List.getD_eq_getElem?_getD,List.getElem?_eq_getElem (by omega)]
 exact List.getElem_mem _
theorem Rnd.many {rows:Nat→List Int} {K n:Nat} {c c' :Nat→List Int} {col:Int} (r:Rnd rows K n c c' col) (C' :CL K n c') (hn:1≤n):(manyN K c' :Int)=col+1:=by
 have h0:=r.col0
 have hne: ∀i,i<K→c' i≠ []:=fun i hi=>C'.ne hn i hi
 have h1:=(mxK_le c' col h0 K hne).mpr (fun i hi x hx=>by
  obtain⟨v,hv,rfl⟩:=List.getElem_of_mem hx
  have hl:=C'.len i hi
  have:=(r.le i v hi (by omega)).2
  rwa [List.getD_eq_getElem?_getD,List.getElem?_eq_getElem hv]at this)
 have h2:=(mxK_le c' (mxK c' K) (mxK_ge c' K) K hne).mp (Int.le_refl _)
 obtain⟨i,v,h3,h4,h5⟩:=r.sur col h0 (Int.le_refl _)
 have h6:=h2 i h3 _ (C'.getD h3 h4)
 have h7:=mxK_ge c' K
 unfold manyN
 omega
theorem Rnd.surC {rows:Nat→List Int} {K n:Nat} {c c' :Nat→List Int} {col:Int} (r:Rnd rows K n c c' col) (C' :CL K n c') (hn:1≤n):SurC K n c' :=fun x h1 h2=>by
 have:=r.many C' hn
 exact r.sur x h1 (by omega)
theorem Rnd.fine {rows:Nat→List Int} {K n:Nat} {c c' :Nat→List Int} {col:Int} (r:Rnd rows K n c c' col) {i v j w:Nat} (hi:i<K) (hv:v<n) (hj:j<K) (hw:w<n) (h:(c' i).getD v 0=(c' j).getD w 0):(c i).getD v 0=(c j).getD w 0:=by
 have:=(r.eq i v j w hi hv hj hw).mp h
 unfold nuC at this
 exact(List.cons.inj this).1
theorem SurC.rep {K n:Nat} {c:Nat→List Int} (S:SurC K n c): ∃ri rv:Nat→Nat,∀x,x<manyN K c→ri x<K∧rv x<n∧(c (ri x)).getD (rv x) 0=x:=by
 have h: ∀x:Nat,∃p:Nat × Nat,x<manyN K c→p.1<K∧p.2<n∧(c p.1).getD p.2 0=x:=fun x=>by
  by_cases hx:x<manyN K c
  ·obtain⟨i,v,h1,h2,h3⟩:=S x (by omega) (by omega)
   exact⟨(i,v),fun _=>⟨h1,h2,h3⟩⟩
  ·exact⟨(0,0),fun h=>absurd h hx⟩
 exact⟨fun x=>(Classical.choose (h x)).1,fun x=>(Classical.choose (h x)).2,fun x=>Classical.choose_spec (h x)⟩
theorem Rnd.more {rows:Nat→List Int} {K n:Nat} {c c' :Nat→List Int} {col:Int} (r:Rnd rows K n c c' col) (C' :CL K n c') (hn:1≤n) (S:SurC K n c):manyN K c≤manyN K c' :=by
 obtain⟨ri,rv,h⟩:=S.rep
 have hm:=r.many C' hn
 refine inj_le _ _ (fun x=>((c' (ri x)).getD (rv x) 0).toNat) (fun x hx=> ?_) (fun x y hx hy e=> ?_)
 ·obtain⟨h1,h2,h3⟩:=h x hx
  have:=r.le _ _ h1 h2
  try simp only
  omega
 ·obtain⟨h1,h2,h3⟩:=h x hx
  obtain⟨h4,h5,h6⟩:=h y hy
  have l1:=r.le _ _ h1 h2
  have l2:=r.le _ _ h4 h5
  try simp only at e
  have:=r.fine h1 h2 h4 h5 (by omega)
  omega
end

/- Refining: the whole walk. -/
section
open Go Go.Sort
inductive Chn (rows:Nat→List Int) (K n:Nat):(Nat→List Int)→(Nat→List Int)→Prop
 | last {c c' col} : CL K n c → SurC K n c → Rnd rows K n c c' col → CL K n c' → manyN K c' = manyN K c → Chn rows K n c c'
 | more {c c1 c' col} : CL K n c → SurC K n c → Rnd rows K n c c1 col → CL K n c1 → manyN K c1 ≠ manyN K c → Chn rows K n c1 c' → Chn rows K n c c'
section
variable {nro K n a bg bc:Nat} {q:Nat→Nat} {rs:Nat→Value} {rows:Nat→List Int} {gcs:List Value} {Hc:(Nat→List Int)→VH} (E:RG nro K n a bg bc q rs rows gcs Hc)
include E
theorem l_refine_B6 (cI:Nat→List Int) (k:Nat): ∀(c:Nat→List Int),CL K n c→SurC K n c→1001 - manyN K c≤k→
  ∃c' e X,floop (vcall F nro) nro [0] i_zz45_B6 (Hc cI) [.pointer (some ⟨a,0,some 2⟩)] (Hc c)=some (.ret,e,Hc c' ++X)∧Chn rows K n c c' ∧CL K n c' :=by
 have hn1:=E.n1
 have hK1:=E.K1
 have hK2:=E.K2
 have hn62:=(E.rok 0 (by omega)).le
 have hKn:K * n≤2 * 62:=Nat.mul_le_mul hK2 hn62
 have hKn0:0<K * n:=Nat.mul_pos (by omega) (by omega)
 induction k with
 | zero =>
  intro c C S hk
  have:=C.many hn1
  omega
 | succ k ih =>
  intro c C S hk
  obtain⟨m,hm⟩: ∃m,m=manyN K c:=⟨_,rfl⟩
  have e1:=c_zz55 E c C []
  rw[List.append_nil,←hm]at e1
  obtain⟨cs,G,f1,f2⟩:=l_refine_B4 E c C m hm K 0 [] [] [] (by omega) (by omega) (ET.nil _ _) (by simp)
  rw[List.nil_append]at f1 f2
  obtain⟨T,hT⟩: ∃T,T=tdsF rows c m n K 0:=⟨_,rfl⟩
  have hTl:T.length=K * n:=by rw[hT,tdsF_len];simp
  have hmm:=fun i (hi:i<K) x hx=>C.lt hn1 i hi x hx
  rw[←hm]at hmm
  have hTm:=fun t=>tdsF_mem (m:=m) E.rok C.len hmm 0 t
  rw[←hT]at f1 f2 hTm
  have hml:=C.many5 hn1
  rw[←hm]at hml
  obtain⟨U,cs2,g1,g2,g3,g4⟩:=c_sort_told (nro:=nro) (Hc c) (E.nr c) T cs G f2 (by omega) (by omega) (fun t ht=>by
   obtain⟨j,w,h1,h2,h3,rfl⟩:=(hTm t).mp ht
   have:(nuC (rows j) (c j) m n w).length=m+1:=by simp[nuC]
   simp only
   omega)
  have hUl:U.length=T.length:=g1.length_eq
  obtain⟨b1,b2,b3,b4⟩:=l_refine_B5 E m U cs2 G c g3 (fun t ht=>by
   obtain⟨j,w,h1,h2,h3,rfl⟩:=(hTm t).mp (g1.mem_iff.mp ht)
   have:(nuC (rows j) (c j) m n w).length=m+1:=by simp[nuC]
   refine⟨by simp,by simp only;omega,by simp,by simp only;omega,by simp only;omega⟩) (by omega) C
  have r:=rnd_asg rows c K n hK1 hn1 E.rok C U (by rw[←hm,←hT];exact g1) g2
  obtain⟨s,hs⟩: ∃s,s=upF (asg U) U.length 0 (-1,c):=⟨_,rfl⟩
  rw[←hs]at b1 b2 b3 b4 r
  obtain⟨col,c1⟩:=s
  simp only at b1 b2 b3 b4 r
  have hmn:=r.many b2 hn1
  have hmo:=r.more b2 hn1 S
  have hcs:cs2.length=cs.length:=by rw[g3.len,f2.len,hUl]
  have la:=E.lax c
  have q0: ∀L:VH,(Hc c++L)[a]? =_:=fun L=>E.lt c (E.ax c) L
  have qg: ∀L:VH,(Hc c++L)[bg]? =_:=fun L=>E.lt c (E.ag c) L
  have hgl:=E.gl
  have hnr:=E.nr c
  simp only[Int.natCast_zero,List.length_nil]at f1
  rw[hUl,hcs]at b1
  have w1:IntKind.i64.wrap (col+1)=col+1:=wrap64 (by omega) (by omega)
  have q3: ∀X:VH,(Hc c++⟨3,cs2⟩::X)[(Hc c).length]? =some ⟨3,cs2⟩:=fun X=>by rw[hget0];rfl
  have hcl: ∀X:VH,kclean (Hc cI) [.pointer (some ⟨a,0,some 2⟩)] (Hc c1++X)=([.pointer (some ⟨a,0,some 2⟩)],Hc c1):=fun X=>by
   refine cleanup_upd (E.upd _ _) ?_
   have:=E.lax cI
   intro w hw
   simp only[List.mem_cons,List.not_mem_nil,or_false]at hw
   subst hw
   intro r hr
   simp[trefs,vrefs,crefs,arefs]at hr
   omega
  by_cases hq:manyN K c1=manyN K c
  ·have hq' :col+1=m:=by omega
   have w0:IntKind.i64.wrap (m:Int)=m:=wrap64 (by omega) (by omega)
   refine⟨c1,fl [],⟨3,cs2⟩::G,?_,.last C S r b2 hq,b2⟩
   rw[floop_at i_zz45_B6.eq_1]
   clear r b2 g1 g2 g3 f2 hTm hmm hT C S ih
   simp (disch:=first|assumption|omega|(simp[*]<;>omega)|fail) [-getElem?_pos,gz_,gs_,e1,q0,qg,hgl,hnr,f1,g4,b1,q3,w1,w0,hq',hcl,hcs]
  ·have hq' : ¬col+1=m:=by omega
   obtain⟨c',e,X,i1,i2,i3⟩:=ih c1 b2 (r.surC b2 hn1) (by omega)
   refine⟨c',e,X,?_,.more C S r b2 hq i2,i3⟩
   rw[floop_at i_zz45_B6.eq_1]
   clear r i2 i3 b2 g1 g2 g3 f2 hTm hmm hT C S ih
   simp (disch:=first|assumption|omega|(simp[*]<;>omega)|fail) [-getElem?_pos,gz_,gs_,e1,q0,qg,hgl,hnr,f1,g4,b1,q3,w1,hq',hcl,i1,hcs]
theorem c_zz45 (c:Nat→List Int) (C:CL K n c) (S:SurC K n c): ∃c',vcall F nro k_zz45 [.pointer (some ⟨a,0,some 2⟩)] (Hc c)=some (.tuple #[],Hc c')∧Chn rows K n c c' ∧CL K n c' :=by
 obtain⟨c',e,X,h1,h2,h3⟩:=l_refine_B6 E c _ c C S (Nat.le_refl _)
 refine⟨c',?_,h2,h3⟩
 have hcl:=cleanup_upd (L:=X) (vs:= [.tuple #[]]) (E.upd c c') (by intro w hw;simp at hw;subst hw;intro r hr;simp[trefs,vrefs,crefs,arefs]at hr)
 refine v_zz45 (by simp[i_zz45]) ?_
 rw[fbody_eq]
 clear h2 h3 C S
 simp (disch:=first|assumption|omega|(simp[*]<;>omega)|fail) [-getElem?_pos,gz_,gs_,i_zz45,h1,hcl,fresults,fresL,fres1]
end
end

/- Renumberings that keep colours, in plain terms. -/
section
open Go
open Classical
theorem sumF_re {p:Nat→Nat} {n:Nat} (hl: ∀v,v<n→p v<n) (hi: ∀v w,v<n→w<n→p v=p w→v=w) (f:Nat→Int):sumF (fun v=>f (p v)) n=sumF f n:=by
 have e1: ∀v,v<n→f (p v)=sumF (fun w=>if w=p v then f w else 0) n:=fun v hv=>by
  rw[sumF_one (k:=p v) (hl v hv) (fun i _ hi=>if_neg hi),if_pos rfl]
 rw[sumF_congr e1,sumF_swap]
 refine sumF_congr fun w hw=> ?_
 obtain⟨v,hv,hvw⟩:=inj_sur n p hl hi w hw
 rw[sumF_one (k:=v) hv (fun i hi' hne=>if_neg fun e=>hne (hi _ _ hi' hv (e.symm.trans hvw.symm))),if_pos hvw.symm]
theorem sumF_eq_of_le {f g:Nat→Int}: ∀ {n:Nat},(∀i,i<n→f i≤g i)→sumF f n=sumF g n→ ∀i,i<n→f i=g i
 | 0, _, _, i, hi => by omega
 | n + 1, h, he, i, hi => by
  have h1:sumF f n≤sumF g n:=sumF_le fun i hi=>h i (by omega)
  have h2:=h n (by omega)
  have he:sumF f n+f n=sumF g n+g n:=he
  by_cases e:i=n
  ·subst e;omega
  ·exact sumF_eq_of_le (n:=n) (fun i hi=>h i (by omega)) (by omega) i (by omega)
structure Iso (rows:Nat→List Int) (n:Nat) (c:Nat→List Int) (p:Nat→Nat):Prop where
 lt: ∀v,v<n→p v<n
 inj: ∀v w,v<n→w<n→p v=p w→v=w
 adj: ∀v w,v<n→w<n→(rbit (rows 0) v w=true↔rbit (rows 1) (p v) (p w)=true)
 col: ∀v,v<n→(c 0).getD v 0=(c 1).getD (p v) 0
def HasIso (rows:Nat→List Int) (n:Nat) (c:Nat→List Int):Prop:= ∃p,Iso rows n c p
section
variable {rows:Nat→List Int} {n:Nat} {c c' :Nat→List Int}
theorem Iso.cnt {p:Nat→Nat} (I:Iso rows n c p) {v:Nat} (hv:v<n) (x:Int):cntC (rows 0) (c 0) n v x=cntC (rows 1) (c 1) n (p v) x:=by
 unfold cntC
 rw[←sumF_re I.lt I.inj (fun w=>oneIf (rbit (rows 1) (p v) w=true∧(c 1).getD w 0=x))]
 refine sumF_congr fun w hw=> ?_
 have:(rbit (rows 0) v w=true∧(c 0).getD w 0=x)↔(rbit (rows 1) (p v) (p w)=true∧(c 1).getD (p w) 0=x):=by
  rw[I.adj v w hv hw,I.col w hw]
 rw[propext this]
theorem Iso.nu {p:Nat→Nat} (I:Iso rows n c p) {v:Nat} (hv:v<n) (m:Nat):nuC (rows 0) (c 0) m n v=nuC (rows 1) (c 1) m n (p v):=by
 unfold nuC
 rw[I.col v hv]
 congr 1
 exact List.map_congr_left fun x _=>I.cnt hv x
theorem rnd_iso {col:Int} (r:Rnd rows 2 n c c' col) (p:Nat→Nat):Iso rows n c p↔Iso rows n c' p:=by
 constructor
 ·intro I
  exact⟨I.lt,I.inj,I.adj,fun v hv=>(r.eq 0 v 1 (p v) (by omega) hv (by omega) (I.lt v hv)).mpr (I.nu hv _)⟩
 ·intro I
  exact⟨I.lt,I.inj,I.adj,fun v hv=>r.fine (by omega) hv (by omega) (I.lt v hv) (I.col v hv)⟩
theorem chn_iso (h:Chn rows 2 n c c') (p:Nat→Nat):Iso rows n c p↔Iso rows n c' p:=by
 induction h with
 | last C S r C' he => exact rnd_iso r p
 | more C S r C' he _ ih => exact (rnd_iso r p).trans ih
theorem chn_has (h:Chn rows 2 n c c'):HasIso rows n c↔HasIso rows n c' :=exists_congr fun p=>chn_iso h p
noncomputable def dg (rows:List Int) (n v:Nat):Int:=sumF (fun w=>oneIf (rbit rows v w=true)) n
theorem dg_cnt {r cl:List Int} {m v:Nat} (h: ∀w,w<n→0≤cl.getD w 0∧cl.getD w 0<m):dg r n v=sumF (fun x=>cntC r cl n v (x:Nat)) m:=by
 unfold dg cntC
 rw[sumF_swap]
 refine sumF_congr fun w hw=> ?_
 obtain⟨h1,h2⟩:=h w hw
 obtain⟨k,hk⟩: ∃k:Nat,cl.getD w 0=k:=⟨_,(Int.toNat_of_nonneg h1).symm⟩
 rw[sumF_one (k:=k) (by omega) (fun i _ hne=>one_neg fun e=>hne (by omega))]
 have:(rbit r v w=true∧cl.getD w 0=k)↔rbit r v w=true:=⟨fun h=>h.1,fun h=>⟨h,hk⟩⟩
 rw[propext this]
theorem rnd_dg {col:Int} {K:Nat} (hn:1≤n) (C:CL K n c) (r:Rnd rows K n c c' col) {i v j w:Nat} (hi:i<K) (hv:v<n) (hj:j<K) (hw:w<n) (e:(c' i).getD v 0=(c' j).getD w 0):dg (rows i) n v=dg (rows j) n w:=by
 have e2:=(r.eq i v j w hi hv hj hw).mp e
 unfold nuC at e2
 have e3:=(List.cons.inj e2).2
 rw[List.map_inj_left]at e3
 rw[dg_cnt (cl:=c i) (m:=manyN K c) (fun u hu=>C.lt hn i hi _ (C.getD hi hu)),dg_cnt (cl:=c j) (m:=manyN K c) (fun u hu=>C.lt hn j hj _ (C.getD hj hu))]
 exact sumF_congr fun x hx=>e3 x (List.mem_range.mpr hx)
theorem chn_dg {K:Nat} (hn:1≤n) (h:Chn rows K n c c') {i v j w:Nat} (hi:i<K) (hv:v<n) (hj:j<K) (hw:w<n) (e:(c' i).getD v 0=(c' j).getD w 0):dg (rows i) n v=dg (rows j) n w:=by
 induction h with
 | last C S r C' he => exact rnd_dg hn C r hi hv hj hw e
 | more C S r C' he _ ih => exact ih e
theorem chn_CL {K:Nat} (hn:1≤n) (h:Chn rows K n c c'):CL K n c' ∧SurC K n c' ∧manyN K c≤manyN K c' :=by
 induction h with
 | last C S r C' he => exact ⟨C', r.surC C' hn, r.more C' hn S⟩
 | more C S r C' he _ ih => exact ⟨ih.1, ih.2.1, Nat.le_trans (r.more C' hn S) ih.2.2⟩
theorem perm_occ (hp:(c 0).Perm (c 1)) (C:CL 2 n c) (S:SurC 2 n c) {i:Nat} (hi:i<2) {x:Nat} (hx:x<manyN 2 c): ∃v,v<n∧(c i).getD v 0=(x:Int):=by
 obtain⟨j,v,hj,hv,e⟩:=S (x:Int) (by omega) (by omega)
 have hm:(x:Int)∈c j:=by rw[←e];exact C.getD hj hv
 have hmi:(x:Int)∈c i:=by
  have h0:(x:Int)∈c 0:=by
   rcases(show j=0∨j=1 by omega)with rfl|rfl
   ·exact hm
   ·exact hp.mem_iff.mpr hm
  rcases(show i=0∨i=1 by omega)with rfl|rfl
  ·exact h0
  ·exact hp.mem_iff.mp h0
 obtain⟨w,hw,hw2⟩:=List.getElem_of_mem hmi
 have:=C.len i hi
 exact⟨w,by omega,by rw[getD_at _ hw];exact hw2⟩
theorem perm_many (hp:(c 0).Perm (c 1)) (C:CL 2 n c) (S:SurC 2 n c):manyN 2 c≤n:=by
 obtain⟨f,hf⟩:=Classical.axiomOfChoice (r:=fun(x v:Nat)=>x<manyN 2 c→v<n∧(c 0).getD v 0=(x:Int)) (fun x=>by
  by_cases hx:x<manyN 2 c
  ·obtain⟨v,h1,h2⟩:=perm_occ hp C S (show 0<2 by omega) hx
   exact⟨v,fun _=>⟨h1,h2⟩⟩
  ·exact⟨0,fun h=>absurd h hx⟩)
 exact inj_le _ _ f (fun x hx=>(hf x hx).1) (fun x y hx hy e=>by
  have h1:=(hf x hx).2
  have h2:=(hf y hy).2
  rw[e,h2]at h1
  omega)
theorem leaf_inj (hp:(c 0).Perm (c 1)) (C:CL 2 n c) (S:SurC 2 n c) (hm:manyN 2 c=n) {i:Nat} (hi:i<2) {v w:Nat} (hv:v<n) (hw:w<n) (e:(c i).getD v 0=(c i).getD w 0):v=w:=by
 obtain⟨f,hf⟩:=Classical.axiomOfChoice (r:=fun(x v:Nat)=>x<n→v<n∧(c i).getD v 0=(x:Int)) (fun x=>by
  by_cases hx:x<n
  ·obtain⟨v,h1,h2⟩:=perm_occ hp C S hi (show x<manyN 2 c by omega)
   exact⟨v,fun _=>⟨h1,h2⟩⟩
  ·exact⟨0,fun h=>absurd h hx⟩)
 have hfi: ∀x y,x<n→y<n→f x=f y→x=y:=fun x y hx hy e=>by
  have h1:=(hf x hx).2
  have h2:=(hf y hy).2
  rw[e,h2]at h1
  omega
 obtain⟨x,hx,rfl⟩:=inj_sur n f (fun x hx=>(hf x hx).1) hfi v hv
 obtain⟨y,hy,rfl⟩:=inj_sur n f (fun x hx=>(hf x hx).1) hfi w hw
 rw[(hf x hx).2,(hf y hy).2]at e
 rw[show x=y by omega]
theorem leaf_iso (hn:1≤n) (h: ∃c0,Chn rows 2 n c0 c) (hp:(c 0).Perm (c 1)) (C:CL 2 n c) (S:SurC 2 n c) (hm:manyN 2 c=n) {p:Nat→Nat} (hpl: ∀v,v<n→p v<n) (hpc: ∀v,v<n→(c 1).getD (p v) 0=(c 0).getD v 0):
  (HasIso rows n c↔ ∀v w,v<n→w<n→rbit (rows 0) v w=true→rbit (rows 1) (p v) (p w)=true)∧((∀v w,v<n→w<n→rbit (rows 0) v w=true→rbit (rows 1) (p v) (p w)=true)→Iso rows n c p):=by
 obtain⟨c0,h⟩:=h
 have hpi: ∀v w,v<n→w<n→p v=p w→v=w:=fun v w hv hw e=>leaf_inj hp C S hm (i:=0) (by omega) hv hw (by rw[←hpc v hv,←hpc w hw,e])
 have key:(∀v w,v<n→w<n→rbit (rows 0) v w=true→rbit (rows 1) (p v) (p w)=true)→Iso rows n c p:=by
  intro hf
  refine⟨hpl,hpi,fun v w hv hw=>⟨hf v w hv hw,fun hb=> ?_⟩,fun v hv=>(hpc v hv).symm⟩
  have hd:=chn_dg hn h (i:=0) (v:=v) (j:=1) (w:=p v) (by omega) hv (by omega) (hpl v hv) (hpc v hv).symm
  unfold dg at hd
  rw[←sumF_re hpl hpi (fun w=>oneIf (rbit (rows 1) (p v) w=true))]at hd
  have:=sumF_eq_of_le (fun u hu=> ?_) hd w hw
  ·rw[one_pos hb]at this
   apply Classical.byContradiction
   intro hno
   rw[one_neg hno]at this
   omega
  ·by_cases hb2:rbit (rows 0) v u=true
   ·rw[one_pos hb2,one_pos (hf v u hv hu hb2)]
    omega
   ·rw[one_neg hb2]
    exact one_nonneg _
 refine⟨⟨?_,fun hf=>⟨p,key hf⟩⟩,key⟩
 rintro⟨q,I⟩ v w hv hw hb
 have e: ∀u,u<n→q u=p u:=fun u hu=>leaf_inj hp C S hm (i:=1) (by omega) (I.lt u hu) (hpl u hu) (by rw[←I.col u hu,hpc u hu])
 rw[←e v hv,←e w hw]
 exact(I.adj v w hv hw).mp hb
def apartC (c:Nat→List Int) (m:Int) (v w:Nat):Nat→List Int:=updL (updL c 0 ((c 0).set v m)) 1 ((c 1).set w m)
theorem apartC_0 (c:Nat→List Int) (m:Int) (v w:Nat):apartC c m v w 0=(c 0).set v m:=by simp[apartC,updL]
theorem apartC_1 (c:Nat→List Int) (m:Int) (v w:Nat):apartC c m v w 1=(c 1).set w m:=by simp[apartC,updL]
theorem set_getD {l:List Int} {v:Nat} {m:Int} (hv:v<l.length) (u:Nat):(l.set v m).getD u 0=if u=v then m else l.getD u 0:=by
 by_cases e:u=v
 ·subst e
  rw[if_pos rfl,getD_at _ (by simpa using hv),List.getElem_set_self]
 ·rw[if_neg e,List.getD_eq_getElem?_getD,List.getElem?_set_ne (fun h=>e h.symm),←List.getD_eq_getElem?_getD]
theorem branch_iso (C:CL 2 n c) (hn:1≤n) {v:Nat} (hv:v<n):HasIso rows n c↔ ∃w,w<n∧(c 1).getD w 0=(c 0).getD v 0∧HasIso rows n (apartC c (manyN 2 c) v w):=by
 have l0:=C.len 0 (by omega)
 have l1:=C.len 1 (by omega)
 constructor
 ·rintro⟨p,I⟩
  have hw:=I.lt v hv
  refine⟨p v,hw,(I.col v hv).symm,p,I.lt,I.inj,I.adj,fun u hu=> ?_⟩
  rw[apartC_0,apartC_1,set_getD (by omega),set_getD (by omega)]
  by_cases e:u=v
  ·subst e;rw[if_pos rfl,if_pos rfl]
  ·rw[if_neg e,if_neg fun h=>e (I.inj u v hu hv h),I.col u hu]
 ·rintro⟨w,hw,hc,p,I⟩
  have col: ∀u,u<n→(if u=v then(manyN 2 c:Int)else(c 0).getD u 0)=if p u=w then(manyN 2 c:Int)else(c 1).getD (p u) 0:=fun u hu=>by
   have:=I.col u hu
   rwa [apartC_0,apartC_1,set_getD (by omega),set_getD (by omega)]at this
  have hpv:p v=w:=by
   have h1:=col v hv
   rw[if_pos rfl]at h1
   by_cases e:p v=w
   ·exact e
   ·rw[if_neg e]at h1
    have:=C.lt hn 1 (by omega) _ (C.getD (show 1<2 by omega) (I.lt v hv))
    omega
  refine⟨p,I.lt,I.inj,I.adj,fun u hu=> ?_⟩
  by_cases e:u=v
  ·subst e;rw[hpv,hc]
  ·have h1:=col u hu
   rw[if_neg e,if_neg fun h=>e (I.inj u v hu hv (h.trans hpv.symm))]at h1
   exact h1
theorem manyN_eq (C:CL 2 n c) (hn:1≤n) {m:Nat} (hle: ∀i,i<2→ ∀x∈c i,x≤m) {i:Nat} (hi:i<2) (hm:(m:Int)∈c i):manyN 2 c=m+1:=by
 have h1:=(mxK_le c m (by omega) 2 (fun i hi=>C.ne hn i hi)).mpr hle
 have h2:=C.lt hn i hi _ hm
 have h0:=mxK_ge c 2
 unfold manyN at h2⊢
 omega
theorem apart_ok (C:CL 2 n c) (S:SurC 2 n c) (hn:1≤n) (hmn:manyN 2 c≤62) {v w u:Nat} (hv:v<n) (hw:w<n) (hu:u<n) (huv:u≠v) (hcu:(c 0).getD u 0=(c 0).getD v 0) (hcw:(c 1).getD w 0=(c 0).getD v 0):
  CL 2 n (apartC c (manyN 2 c) v w)∧SurC 2 n (apartC c (manyN 2 c) v w)∧manyN 2 (apartC c (manyN 2 c) v w)=manyN 2 c+1:=by
 have l0:=C.len 0 (by omega)
 have l1:=C.len 1 (by omega)
 have hget: ∀i k,i<2→(apartC c (manyN 2 c) v w i).getD k 0=if k=(if i=0 then v else w)then(manyN 2 c:Int)else(c i).getD k 0:=fun i k hi=>by
  rcases(show i=0∨i=1 by omega)with rfl|rfl
  ·rw[apartC_0,set_getD (by omega),if_pos rfl]
  ·rw[apartC_1,set_getD (by omega),if_neg (show¬(1:Nat)=0 by omega)]
 have hlen: ∀i,i<2→(apartC c (manyN 2 c) v w i).length=n:=fun i hi=>by
  rcases(show i=0∨i=1 by omega)with rfl|rfl
  ·rw[apartC_0,List.length_set,l0]
  ·rw[apartC_1,List.length_set,l1]
 have hmem: ∀i,i<2→ ∀x∈apartC c (manyN 2 c) v w i,x=manyN 2 c∨x∈c i:=fun i hi x hx=>by
  obtain⟨k,hk,rfl⟩:=List.getElem_of_mem hx
  have hk2:=hlen i hi
  rw[←getD_at _ hk,hget i k hi]
  by_cases e:k=(if i=0 then v else w)
  ·rw[if_pos e];exact .inl rfl
  ·rw[if_neg e];exact .inr (C.getD hi (by omega))
 have C' :CL 2 n (apartC c (manyN 2 c) v w):=⟨hlen,fun i hi x hx=>by
  rcases hmem i hi x hx with rfl|h
  ·omega
  ·exact C.ge i hi x h⟩
 have hM:manyN 2 (apartC c (manyN 2 c) v w)=manyN 2 c+1:=by
  refine manyN_eq C' hn (fun i hi x hx=> ?_) (i:=0) (by omega) ?_
  ·rcases hmem i hi x hx with rfl|h
   ·omega
   ·have:=C.lt hn i hi x h;omega
  ·have:=C'.getD (show 0<2 by omega) hv
   rw[hget 0 v (by omega),if_pos rfl,if_pos rfl]at this
   exact this
 refine⟨C',fun x h0 h1=> ?_,hM⟩
 rw[hM]at h1
 by_cases e:x=manyN 2 c
 ·exact⟨0,v,by omega,hv,by rw[hget 0 v (by omega),if_pos rfl,if_pos rfl,e]⟩
 ·obtain⟨i,k,hi,hk,hx⟩:=S x h0 (by omega)
  by_cases e2:k=(if i=0 then v else w)
  ·refine⟨0,u,by omega,hu,?_⟩
   rw[hget 0 u (by omega),if_pos rfl,if_neg huv,hcu,←hx]
   rcases(show i=0∨i=1 by omega)with rfl|rfl
   ·rw[e2,if_pos rfl]
   ·rw[e2,if_neg (show¬(1:Nat)=0 by omega),hcw]
  ·exact⟨i,k,hi,hk,by rw[hget i k hi,if_neg e2,hx]⟩
theorem shared (C:CL 2 n c) (hn:1≤n) (hm:manyN 2 c<n): ∃v u,v<n∧u<n∧u≠v∧(c 0).getD u 0=(c 0).getD v 0:=by
 apply Classical.byContradiction
 intro hno
 have:=inj_le n (manyN 2 c) (fun v=>((c 0).getD v 0).toNat) (fun v hv=>by
  have:=C.lt hn 0 (by omega) _ (C.getD (show 0<2 by omega) hv)
  show((c 0).getD v 0).toNat<_
  omega) (fun v w hv hw e=>by
  apply Classical.byContradiction
  intro hne
  have h1:=C.lt hn 0 (by omega) _ (C.getD (show 0<2 by omega) hv)
  have h2:=C.lt hn 0 (by omega) _ (C.getD (show 0<2 by omega) hw)
  have e:((c 0).getD v 0).toNat=((c 0).getD w 0).toNat:=e
  exact hno ⟨v,w,hv,hw,fun e=>hne e.symm,by omega⟩)
 omega
end
end

/- Sorting of numbers, as the library does it: what is sorted, told once. -/
section
open Go Go.Sort
structure SO (nro:Nat) (S:Value) (P:Int→Value) (ag:Nat→Value) (cm:Nat→Nat→Int) (N:Nat) (H:Array Nat→VH):Prop where
 len: ∀d d',(H d).length=(H d').length
 nr: ∀d,nro≤(H d).length
 oS: ∀n,(H #[]).length≤n→Old n S
 idx: ∀(d:Array Nat) (x:Int),d.size=N→0≤x→x<N→vidx 1 (H d) S (.int .i64 x)=some (P x,H d)
 load: ∀(d:Array Nat) (x:Int),d.size=N→0≤x→x<N→vload false 1 (H d) (P x)=some (ag (getI d x))
 store: ∀(d:Array Nat) (x:Int) (v:Nat),d.size=N→0≤x→x<N→vstore nro 1 (H d) (P x) (ag v)=some (H (setI d x v))
 cmp: ∀(d:Array Nat) (x y:Nat),vcall F nro k_zz71 [ag x,ag y] (H d)=some (.bool (decide (cm x y<0)),H d)
 upd: ∀(d d' :Array Nat),Upd (H d) (H d')
 vln: ∀d,d.size=N→vlen (H d) S=some (.int .i64 N,H d)
 hN:N≤1000
section
variable {nro:Nat} {S:Value} {P:Int→Value} {ag:Nat→Value} {cm:Nat→Nat→Int} {N:Nat} {H:Array Nat→VH}
theorem SO.clean (E:SO nro S P ag cm N H) (d d' :Array Nat) (L:VH) (vs:List Value) (hv: ∀v∈vs,Old (H #[]).length v):kclean (H d) vs (H d' ++L)=(vs,H d'):=
 cleanup_upd (E.upd d d') (by rw[E.len d #[]];exact hv)
theorem SO.clean0 (E:SO nro S P ag cm N H) (d d' :Array Nat) (vs:List Value) (hv: ∀v∈vs,Old (H #[]).length v):kclean (H d) vs (H d')=(vs,H d'):=by
 have:=E.clean d d' [] vs hv
 rwa [List.append_nil]at this
theorem SO.ln (E:SO nro S P ag cm N H) (d:Array Nat):(H d).length=(H #[]).length:=E.len d #[]
end
structure SXO (nro:Nat) (S:Value) (P:Int→Value) (ag:Nat→Value) (cm:Nat→Nat→Int) (N:Nat) (H:Array Nat→VH):Prop where
 base:SO nro S P ag cm N H
 ext: ∀o,SO nro S P ag cm N (fun d=>H d++ [o])
section
variable {nro:Nat} {S:Value} {P:Int→Value} {ag:Nat→Value} {cm:Nat→Nat→Int} {N:Nat} {H:Array Nat→VH} (E:SXO nro S P ag cm N H)
include E
theorem SXO.clean (d d' :Array Nat) (o o' :VO) (hf: ∀n,flatO n o') (L:VH) (vs:List Value) (hv: ∀v∈vs,Old ((H #[]).length+1) v):kclean (H d++ [o]) vs (H d' ++o' ::L)=(vs,H d' ++ [o']):=by
 have:=cleanup_upd (L:=L) ((E.base.upd d d').snoc o o' (hf _)) (vs:=vs) (by rw[List.length_append,List.length_singleton,E.base.len d #[]];exact hv)
 rwa [List.append_assoc]at this
theorem SXO.idx (o:VO) (d:Array Nat) (x:Int) (h1:d.size=N) (h2:0≤x) (h3:x<N):vidx 1 (H d++ [o]) S (.int .i64 x)=some (P x,H d++ [o]):=(E.ext o).idx d x h1 h2 h3
theorem SXO.load (o:VO) (d:Array Nat) (x:Int) (h1:d.size=N) (h2:0≤x) (h3:x<N):vload false 1 (H d++ [o]) (P x)=some (ag (getI d x)):=(E.ext o).load d x h1 h2 h3
theorem SXO.store (o:VO) (d:Array Nat) (x:Int) (v:Nat) (h1:d.size=N) (h2:0≤x) (h3:x<N):vstore nro 1 (H d++ [o]) (P x) (ag v)=some (H (setI d x v)++ [o]):=(E.ext o).store d x v h1 h2 h3
theorem SXO.cmp (o:VO) (d:Array Nat) (x y:Nat):vcall F nro k_zz71 [ag x,ag y] (H d++ [o])=some (.bool (decide (cm x y<0)),H d++ [o]):=(E.ext o).cmp d x y
theorem SXO.nr (d:Array Nat):nro≤(H #[]).length:=E.base.nr #[]
end
end

/- Sorting: insertion. -/
section
open Go Go.Sort
variable {nro:Nat} {S:Value} {P:Int→Value} {ag:Nat→Value} {cm:Nat→Nat→Int} {N:Nat} {H:Array Nat→VH}
section
variable (E:SO nro S P ag cm N H)
include E
theorem l_ord_ins_1 (a b i:Nat) (d0:Array Nat): ∀(j:Nat) (d:Array Nat),d.size=N→j<N→
  floop (vcall F nro) nro [0,1,2,6,7] i_zz12_B1 (H d0) [S,.int .i64 a,.int .i64 b,.int .i64 i,.int .i64 j] (H d)=
   some (.exit 2,fl [(0,S),(1,.int .i64 a),(2,.int .i64 b),(6,.int .i64 i)],H (insInner (ltC cm) a j d))
 | 0, d, hd, hj => by
  have hc:=E.clean0 d0 d
  have hl:=E.ln
  have oS:=E.oS
  have h0: ¬(a:Int)<0:=by omega
  rw[floop_at i_zz12_B1.eq_1]
  unfold insInner
  simp (disch:=first|assumption|omega|(simp[*]<;>omega)|fail) [-getElem?_pos,gz_,gs_,hc,hl,oS,h0]
 | j + 1, d, hd, hj => by
  have hc:=fun q=>E.clean0 d0 q
  have hl:=E.ln
  have oS:=E.oS
  have hN:=E.hN
  have hi:=E.idx
  have hld:=E.load
  have hst:=E.store
  have hcm:=E.cmp
  have w1:IntKind.i64.wrap ((j:Int)+1 - 1)=j:=by rw[show(j:Int)+1 - 1=j by omega];exact wrap64 (by omega) (by omega)
  have w2:IntKind.i64.wrap (j:Int)=j:=wrap64 (by omega) (by omega)
  have g1:=getI_nat d ((j:Int)+1) (j+1) (by omega)
  have g2:=getI_nat d (j:Int) j rfl
  have k1:(0:Int)≤(j:Int)+1:=by omega
  have k2:(j:Int)+1<N:=by omega
  have k3:(j:Int)<N:=by omega
  rw[floop_at i_zz12_B1.eq_1]
  unfold insInner
  rw[←g1,←g2]
  by_cases c1:a<j+1
  ·have c1' :(a:Int)<(j:Int)+1:=by omega
   by_cases c2:cm (getI d ((j:Int)+1)) (getI d (j:Int))<0
   ·have e2:ltC cm (getI d ((j:Int)+1)) (getI d (j:Int))=true:=decide_eq_true c2
    have ih:=l_ord_ins_1 a b i d0 j (Go.Sort.swp d (j+1) j) (by simpa using hd) (by omega)
    have e3:swI d ((j:Int)+1) j=Go.Sort.swp d (j+1) j:=swI_swp _ _ _ _ _ (by omega) rfl
    unfold swI at e3
    rw[if_pos (by simp[e2,c1]),←ih]
    clear ih g1 g2
    simp (disch:=first|assumption|omega|(simp[*]<;>omega)|fail) [-getElem?_pos,gz_,gs_,hc,hl,oS,hi,hld,hst,hcm,hd,w1,w2,k1,k2,k3,c1',c2,e3]
   ·have e2:ltC cm (getI d ((j:Int)+1)) (getI d (j:Int))=false:=decide_eq_false c2
    rw[if_neg (by simp[e2])]
    clear g1 g2
    simp (disch:=first|assumption|omega|(simp[*]<;>omega)|fail) [-getElem?_pos,gz_,gs_,hc,hl,oS,hi,hld,hst,hcm,hd,w1,w2,k1,k2,k3,c1',c2]
  ·have c1' : ¬(a:Int)<(j:Int)+1:=by omega
   rw[if_neg (by simp[c1])]
   simp (disch:=first|assumption|omega|(simp[*]<;>omega)|fail) [-getElem?_pos,gz_,gs_,hc,hl,oS,c1']
theorem c_ord_ins (a b:Nat) (d:Array Nat) (hd:d.size=N) (hb:b≤N) (ha:a≤N):
  vcall F nro k_zz12 [S,.int .i64 a,.int .i64 b] (H d)=some (.tuple #[],H (insertionSort (ltC cm) d a b)):=by
 have hl:=E.ln
 have oS:=E.oS
 have hN:=E.hN
 have hc0:=fun q vs=>E.clean0 d q vs
 have lp: ∀(k i:Nat) (q:Array Nat),q.size=N→b≤i+k→i≤N+1→
   floop (vcall F nro) nro [0,1,2,6] i_zz12_B2 (H d) [S,.int .i64 a,.int .i64 b,.int .i64 i] (H q)=some (.exit 0,fl [],H (insOuter (ltC cm) a b i q)):=by
  intro k
  induction k with
  | zero =>
   intro i q hq hk hi
   have h1: ¬i<b:=by omega
   have h2: ¬(i:Int)<b:=by omega
   rw[insOuter,if_neg h1,floop_at i_zz12_B2.eq_1]
   simp (disch:=first|assumption|omega|(simp[*]<;>omega)|fail) [-getElem?_pos,gz_,gs_,hc0,hl,oS,h2,h1]
  | succ k ih =>
   intro i q hq hk hi
   by_cases h1:i<b
   ·have h2:(i:Int)<b:=by omega
    have l1:=l_ord_ins_1 E a b i q i q hq (by omega)
    have w1:IntKind.i64.wrap ((i:Int)+1)=(i:Int)+1:=wrap64 (by omega) (by omega)
    have ih2:=ih (i+1) (insInner (ltC cm) a i q) (by simpa using hq) (by omega) (by omega)
    rw[insOuter,if_pos h1,←ih2]
    clear ih ih2
    rw[floop_at i_zz12_B2.eq_1]
    simp (disch:=first|assumption|omega|(simp[*]<;>omega)|fail) [-getElem?_pos,gz_,gs_,hc0,hl,oS,h2,h1,l1,w1]
   ·have h2: ¬(i:Int)<b:=by omega
    rw[insOuter,if_neg h1,floop_at i_zz12_B2.eq_1]
    simp (disch:=first|assumption|omega|(simp[*]<;>omega)|fail) [-getElem?_pos,gz_,gs_,hc0,hl,oS,h2,h1]
 have l1:=lp b (a+1) d hd (by omega) (by omega)
 have w1:IntKind.i64.wrap ((a:Int)+1)=(a:Int)+1:=wrap64 (by omega) (by omega)
 refine v_zz12 (by simp[i_zz12]) ?_
 rw[fbody_eq]
 unfold insertionSort
 simp only[Int.natCast_add,Int.natCast_one]at l1
 simp (disch:=first|assumption|omega|(simp[*]<;>omega)|fail) [-getElem?_pos,gz_,gs_,i_zz12,w1,l1,hc0,fresults,fresL]
end
end

/- Sorting: heaps. -/
section
open Go Go.Sort
variable {nro:Nat} {S:Value} {P:Int→Value} {ag:Nat→Value} {cm:Nat→Nat→Int} {N:Nat} {H:Array Nat→VH}
section
variable (E:SO nro S P ag cm N H)
include E
set_option maxHeartbeats 2000000 in
theorem l_ord_sift (hi first:Nat) (hf:first+hi≤N) (d0:Array Nat) (root:Nat) (d:Array Nat) (hd:d.size=N) (hr:root≤N):
    ∃ x, (x = .exit 0 ∨ x = .ret) ∧ floop (vcall F nro) nro [0, 2, 3, 8] i_zz24_B1 (H d0) [S, .int .i64 hi, .int .i64 first, .int .i64 root] (H d) =
      some (x,fl [],H (siftDown (ltC cm) hi first root d)):=by
  have hc:=fun q=>E.clean0 d0 q
  have hl:=E.ln
  have oS:=E.oS
  have hN:=E.hN
  have hix:=E.idx
  have hld:=E.load
  have hst:=E.store
  have hcm:=E.cmp
  rw[siftDown]
  by_cases c0:2 * root+1≥hi
  · have c0' : (hi : Int) ≤ 2 * (root : Int) + 1 := by omega
    rw[dif_pos c0]
    refine⟨.exit 0,.inl rfl,?_⟩
    rw[floop_at i_zz24_B1.eq_1]
    simp (disch:=first|assumption|omega|(simp[*]<;>omega)|fail) [-getElem?_pos,gz_,gs_,hc,hl,oS,wrap64,c0']
  · have c0' : ¬ (hi : Int) ≤ 2 * (root : Int) + 1 := by omega
    rw[dif_neg c0]
    have g0:=getI_nat d ((first:Int)+root) (first+root) (by omega)
    have g1:=getI_nat d ((first:Int)+(2 * (root:Int)+1)) (first+(2 * root+1)) (by omega)
    have g2:=getI_nat d ((first:Int)+(2 * (root:Int)+1)+1) (first+(2 * root+1)+1) (by omega)
    have g3:=getI_nat d ((first:Int)+(2 * (root:Int)+1+1)) (first+(2 * root+2)) (by omega)
    have g4:getI d ((first:Int)+(2 * (root:Int)+1)+1)=getI d ((first:Int)+(2 * (root:Int)+1+1)):=by rw[Int.add_assoc]
    rw[←g0,←g1,←g2,←g3]
    by_cases c1:2 * root+1+1<hi
    · have c1' : 2 * (root : Int) + 1 + 1 < hi := by omega
      by_cases c2:cm (getI d ((first:Int)+(2 * (root:Int)+1))) (getI d ((first:Int)+(2 * (root:Int)+1)+1))<0
      · have e2 : ltC cm (getI d ((first : Int) + (2 * (root : Int) + 1))) (getI d ((first : Int) + (2 * (root : Int) + 1) + 1)) = true := decide_eq_true c2
        rw[if_pos (by simp[e2,c1])]
        by_cases c3:cm (getI d ((first:Int)+root)) (getI d ((first:Int)+(2 * (root:Int)+1+1)))<0
        · have e3 : ltC cm (getI d ((first : Int) + root)) (getI d ((first : Int) + (2 * (root : Int) + 1 + 1))) = true := decide_eq_true c3
          rw[if_neg (by simp[e3]),dif_pos (by omega)]
          obtain⟨x,hx,ih⟩:=l_ord_sift hi first hf d0 (2 * root+2) (Go.Sort.swp d (first+root) (first+(2 * root+2))) (by simpa using hd) (by omega)
          refine⟨x,hx,?_⟩
          have e4:swI d ((first:Int)+root) ((first:Int)+(2 * (root:Int)+1+1))=Go.Sort.swp d (first+root) (first+(2 * root+2)):=swI_swp _ _ _ _ _ (by omega) (by omega)
          unfold swI at e4
          rw[←ih,show((2 * root+2:Nat):Int)=2 * (root:Int)+1+1 by omega]
          clear ih g0 g1 g2 g3 e2 e3
          rw[floop_at i_zz24_B1.eq_1]
          simp (disch:=first|assumption|omega|(simp[*]<;>omega)|fail) [-getElem?_pos,gz_,gs_,hc,hl,oS,hix,hld,hst,hcm,hd,wrap64,c0',c1',c2,c3,e4]
        · have e3 : ltC cm (getI d ((first : Int) + root)) (getI d ((first : Int) + (2 * (root : Int) + 1 + 1))) = false := decide_eq_false c3
          rw[if_pos (by simp[e3])]
          refine⟨.ret,.inr rfl,?_⟩
          clear g0 g1 g2 g3 e2 e3
          rw[floop_at i_zz24_B1.eq_1]
          simp (disch:=first|assumption|omega|(simp[*]<;>omega)|fail) [-getElem?_pos,gz_,gs_,hc,hl,oS,hix,hld,hst,hcm,hd,wrap64,c0',c1',c2,c3]
      · have e2 : ltC cm (getI d ((first : Int) + (2 * (root : Int) + 1))) (getI d ((first : Int) + (2 * (root : Int) + 1) + 1)) = false := decide_eq_false c2
        rw[if_neg (by simp[e2])]
        by_cases c3:cm (getI d ((first:Int)+root)) (getI d ((first:Int)+(2 * (root:Int)+1)))<0
        · have e3 : ltC cm (getI d ((first : Int) + root)) (getI d ((first : Int) + (2 * (root : Int) + 1))) = true := decide_eq_true c3
          rw[if_neg (by simp[e3])]
          obtain⟨x,hx,ih⟩:=l_ord_sift hi first hf d0 (2 * root+1) (Go.Sort.swp d (first+root) (first+(2 * root+1))) (by simpa using hd) (by omega)
          refine⟨x,hx,?_⟩
          have e4:swI d ((first:Int)+root) ((first:Int)+(2 * (root:Int)+1))=Go.Sort.swp d (first+root) (first+(2 * root+1)):=swI_swp _ _ _ _ _ (by omega) (by omega)
          unfold swI at e4
          rw[←ih,show((2 * root+1:Nat):Int)=2 * (root:Int)+1 by omega]
          clear ih g0 g1 g2 g3 e2 e3
          rw[floop_at i_zz24_B1.eq_1]
          simp (disch:=first|assumption|omega|(simp[*]<;>omega)|fail) [-getElem?_pos,gz_,gs_,hc,hl,oS,hix,hld,hst,hcm,hd,wrap64,c0',c1',c2,c3,e4]
        · have e3 : ltC cm (getI d ((first : Int) + root)) (getI d ((first : Int) + (2 * (root : Int) + 1))) = false := decide_eq_false c3
          rw[if_pos (by simp[e3])]
          refine⟨.ret,.inr rfl,?_⟩
          clear g0 g1 g2 g3 e2 e3
          rw[floop_at i_zz24_B1.eq_1]
          simp (disch:=first|assumption|omega|(simp[*]<;>omega)|fail) [-getElem?_pos,gz_,gs_,hc,hl,oS,hix,hld,hst,hcm,hd,wrap64,c0',c1',c2,c3]
    · have c1' : ¬ 2 * (root : Int) + 1 + 1 < hi := by omega
      rw[if_neg (by simp[c1])]
      by_cases c3:cm (getI d ((first:Int)+root)) (getI d ((first:Int)+(2 * (root:Int)+1)))<0
      · have e3 : ltC cm (getI d ((first : Int) + root)) (getI d ((first : Int) + (2 * (root : Int) + 1))) = true := decide_eq_true c3
        rw[if_neg (by simp[e3])]
        obtain⟨x,hx,ih⟩:=l_ord_sift hi first hf d0 (2 * root+1) (Go.Sort.swp d (first+root) (first+(2 * root+1))) (by simpa using hd) (by omega)
        refine⟨x,hx,?_⟩
        have e4:swI d ((first:Int)+root) ((first:Int)+(2 * (root:Int)+1))=Go.Sort.swp d (first+root) (first+(2 * root+1)):=swI_swp _ _ _ _ _ (by omega) (by omega)
        unfold swI at e4
        rw[←ih,show((2 * root+1:Nat):Int)=2 * (root:Int)+1 by omega]
        clear ih g0 g1 g2 g3 e3
        rw[floop_at i_zz24_B1.eq_1]
        simp (disch:=first|assumption|omega|(simp[*]<;>omega)|fail) [-getElem?_pos,gz_,gs_,hc,hl,oS,hix,hld,hst,hcm,hd,wrap64,c0',c1',c3,e4]
      · have e3 : ltC cm (getI d ((first : Int) + root)) (getI d ((first : Int) + (2 * (root : Int) + 1))) = false := decide_eq_false c3
        rw[if_pos (by simp[e3])]
        refine⟨.ret,.inr rfl,?_⟩
        clear g0 g1 g2 g3 e3
        rw[floop_at i_zz24_B1.eq_1]
        simp (disch:=first|assumption|omega|(simp[*]<;>omega)|fail) [-getElem?_pos,gz_,gs_,hc,hl,oS,hix,hld,hst,hcm,hd,wrap64,c0',c1',c3]
 termination_by hi - root
theorem c_ord_sift (hi first root:Nat) (hf:first+hi≤N) (d:Array Nat) (hd:d.size=N) (hr:root≤N):
  vcall F nro k_zz24 [S,.int .i64 root,.int .i64 hi,.int .i64 first] (H d)=some (.tuple #[],H (siftDown (ltC cm) hi first root d)):=by
 have hc0:=fun q vs=>E.clean0 d q vs
 obtain⟨x,hx,lp⟩:=l_ord_sift E hi first hf d root d hd hr
 refine v_zz24 (by simp[i_zz24]) ?_
 rw[fbody_eq]
 rcases hx with rfl|rfl
 ·simp (disch:=first|assumption|omega|(simp[*]<;>omega)|fail) [-getElem?_pos,gz_,gs_,i_zz24,lp,hc0,fresults,fresL]
 ·simp (disch:=first|assumption|omega|(simp[*]<;>omega)|fail) [-getElem?_pos,gz_,gs_,i_zz24,lp,hc0,fresults,fresL]
theorem c_ord_heap (a b:Nat) (d:Array Nat) (hd:d.size=N) (hab:a≤b) (hb:b≤N):
  vcall F nro k_zz23 [S,.int .i64 a,.int .i64 b] (H d)=some (.tuple #[],H (heapSort (ltC cm) d a b)):=by
 have hc0:=fun q vs=>E.clean0 d q vs
 have hl:=E.ln
 have oS:=E.oS
 have hN:=E.hN
 have hix:=E.idx
 have hld:=E.load
 have hst:=E.store
 obtain⟨hi,hhi⟩: ∃hi,hi=b - a:=⟨_,rfl⟩
 have lp1: ∀(k:Nat) (q:Array Nat),q.size=N→k≤N+1→
   floop (vcall F nro) nro [0,6,7,8,9] i_zz23_B1 (H d) [S,.int .i64 a,.int .i64 0,.int .i64 hi,.int .i64 ((k:Int) - 1)] (H q)=some (.exit 0,fl [(0,S),(6,.int .i64 a),(7,.int .i64 0),(8,.int .i64 hi)],H (heapBuild (ltC cm) hi a k q)):=by
  intro k
  induction k with
  | zero =>
   intro q hq hk
   rw[floop_at i_zz23_B1.eq_1]
   simp (disch:=first|assumption|omega|(simp[*]<;>omega)|fail) [-getElem?_pos,gz_,gs_,heapBuild,hc0,hl,oS]
  | succ k ih =>
   intro q hq hk
   have hcall:=c_ord_sift E hi a k (by omega) q hq (by omega)
   have ih2:=ih (siftDown (ltC cm) hi a k q) (by rw[siftDown_size];exact hq) (by omega)
   rw[heapBuild,←ih2]
   have e1:((k+1:Nat):Int) - 1=k:=by omega
   rw[e1]
   clear ih ih2
   rw[floop_at i_zz23_B1.eq_1]
   simp (disch:=first|assumption|omega|(simp[*]<;>omega)|fail) [-getElem?_pos,gz_,gs_,hc0,hl,oS,hcall,wrap64]
 have hc1:=fun q' q vs=>E.clean0 q' q vs
 have lp2: ∀(d1:Array Nat) (k:Nat) (q:Array Nat),q.size=N→k≤hi→
   floop (vcall F nro) nro [0,6,7,10] i_zz23_B2 (H d1) [S,.int .i64 a,.int .i64 0,.int .i64 ((k:Int) - 1)] (H q)=some (.exit 2,fl [],H (heapPop (ltC cm) a k q)):=by
  intro d1 k
  induction k with
  | zero =>
   intro q hq hk
   rw[floop_at i_zz23_B2.eq_1]
   simp (disch:=first|assumption|omega|(simp[*]<;>omega)|fail) [-getElem?_pos,gz_,gs_,heapPop,hc1,hl,oS]
  | succ k ih =>
   intro q hq hk
   have e4:swI q (a:Int) ((a:Int)+k)=Go.Sort.swp q a (a+k):=swI_swp _ _ _ _ _ rfl (by omega)
   unfold swI at e4
   have hcall:=c_ord_sift E k a 0 (by omega) (Go.Sort.swp q a (a+k)) (by simpa using hq) (by omega)
   have ih2:=ih (siftDown (ltC cm) k a 0 (Go.Sort.swp q a (a+k))) (by rw[siftDown_size];simpa using hq) (by omega)
   rw[heapPop,←ih2]
   have e1:((k+1:Nat):Int) - 1=k:=by omega
   rw[e1]
   simp only[Int.natCast_zero]at hcall
   clear ih ih2
   rw[floop_at i_zz23_B2.eq_1]
   simp (disch:=first|assumption|omega|(simp[*]<;>omega)|fail) [-getElem?_pos,gz_,gs_,hc1,hl,oS,hix,hld,hst,hq,e4,hcall,wrap64]
 have e1:(((hi - 1) / 2+1:Nat):Int) - 1=((hi:Int) - 1).tdiv 2:=by
  by_cases c:hi=0
  ·subst c;rfl
  ·rw[Int.tdiv_eq_ediv_of_nonneg (by omega)];omega
 have l1:=lp1 ((hi - 1) / 2+1) d hd (by omega)
 rw[e1]at l1
 have l2:=lp2 (heapBuild (ltC cm) hi a ((hi - 1) / 2+1) d) hi (heapBuild (ltC cm) hi a ((hi - 1) / 2+1) d) (by rw[heapBuild_size];exact hd) (Nat.le_refl _)
 have w1:IntKind.i64.wrap ((b:Int) - a)=hi:=by rw[show(b:Int) - a=hi by omega];exact wrap64 (by omega) (by omega)
 have w2:IntKind.i64.wrap ((hi:Int) - 1)=(hi:Int) - 1:=wrap64 (by omega) (by omega)
 have w3:IntKind.i64.wrap (((hi:Int) - 1).tdiv 2)=((hi:Int) - 1).tdiv 2:=by rw[←e1];exact wrap64 (by omega) (by omega)
 refine v_zz23 (by simp[i_zz23]) ?_
 rw[fbody_eq]
 unfold heapSort
 rw[←hhi]
 clear lp1 lp2
 simp (disch:=first|assumption|omega|(simp[*]<;>omega)|fail) [-getElem?_pos,gz_,gs_,i_zz23,w1,w2,w3,l1,l2,hc0,fresults,fresL]
end
end

/- Sorting: reversing, breaking patterns, choosing a pivot. -/
section
open Go Go.Sort
variable {nro:Nat} {S:Value} {P:Int→Value} {ag:Nat→Value} {cm:Nat→Nat→Int} {N:Nat} {H:Array Nat→VH}
section
variable (E:SO nro S P ag cm N H)
include E
theorem l_ord_rev (d0:Array Nat) (i:Nat) (j:Int) (hj0: -1≤j) (hjN:j<N) (hi:i≤N+1) (d:Array Nat) (hd:d.size=N):
    floop (vcall F nro) nro [0,6,7] i_zz15_B1 (H d0) [S,.int .i64 i,.int .i64 j] (H d)=some (.exit 0,fl [],H (reverseLoop i j.toNat d)):=by
  have hc:=fun q=>E.clean0 d0 q
  have hl:=E.ln
  have oS:=E.oS
  have hN:=E.hN
  have hix:=E.idx
  have hld:=E.load
  have hst:=E.store
  rw[reverseLoop]
  by_cases c:(i:Int)<j
  · rw [if_pos (by omega)]
    have ih:=l_ord_rev d0 (i+1) (j - 1) (by omega) (by omega) (by omega) (Go.Sort.swp d i j.toNat) (by simpa using hd)
    have e1:(j - 1).toNat=j.toNat - 1:=by omega
    rw[e1]at ih
    have e4:swI d (i:Int) j=Go.Sort.swp d i j.toNat:=swI_swp _ _ _ _ _ rfl (by omega)
    unfold swI at e4
    rw[←ih]
    clear ih
    rw[floop_at i_zz15_B1.eq_1]
    simp (disch:=first|assumption|omega|(simp[*]<;>omega)|fail) [-getElem?_pos,gz_,gs_,hc,hl,oS,hix,hld,hst,hd,wrap64,c,e4]
  · rw [if_neg (by omega)]
    rw[floop_at i_zz15_B1.eq_1]
    simp (disch:=first|assumption|omega|(simp[*]<;>omega)|fail) [-getElem?_pos,gz_,gs_,hc,hl,oS,c]
 termination_by (j - i).toNat
theorem c_ord_rev (a b:Nat) (d:Array Nat) (hd:d.size=N) (hab:a<b) (hb:b≤N):
  vcall F nro k_zz15 [S,.int .i64 a,.int .i64 b] (H d)=some (.tuple #[],H (reverseRange d a b)):=by
 have hc0:=fun q vs=>E.clean0 d q vs
 have hN:=E.hN
 have l1:=l_ord_rev E d a ((b:Int) - 1) (by omega) (by omega) (by omega) d hd
 rw[show((b:Int) - 1).toNat=b - 1 by omega]at l1
 refine v_zz15 (by simp[i_zz15]) ?_
 rw[fbody_eq]
 unfold reverseRange
 simp (disch:=first|assumption|omega|(simp[*]<;>omega)|fail) [-getElem?_pos,gz_,gs_,i_zz15,wrap64,l1,hc0,fresults,fresL]
end
end

/- Sorting: patterns are broken. -/
section
open Go Go.Sort
variable {nro:Nat} {S:Value} {P:Int→Value} {ag:Nat→Value} {cm:Nat→Nat→Int} {N:Nat} {H:Array Nat→VH}
theorem SXO.get (E:SXO nro S P ag cm N H) (d:Array Nat) (o:VO):(H d++ [o])[(H #[]).length]? =some o:=by
 rw[←E.base.ln d];simp
section
variable (E:SXO nro S P ag cm N H)
include E
theorem l_ord_break (a b m:Nat) (w:Nat) (hm:m=2 * w) (h8:8≤b - a) (hb:b≤N) (hN:N≤255) (hm2:b - a<m) (hm3:m≤2 * (b - a)+1) (d0:Array Nat) (r0:Int): ∀(k i:Nat) (r:Int) (d:Array Nat),d.size=N→i+k=a+(b - a) / 4 * 2+2→a+1≤i→
  ∃d' r',d'.size=N∧PermIn a b d d' ∧floop (vcall F nro) nro [0,1,6,7,8,9] i_zz11_B1 (H d0++ [⟨0,[.int .u64 r0]⟩]) [S,.int .i64 a,.int .i64 ((b - a:Nat):Int),.pointer (some ⟨(H #[]).length,0,some 1⟩),.int .u64 m,.int .i64 i] (H d++ [⟨0,[.int .u64 r]⟩])=
   some (.exit 0,fl [],H d' ++ [⟨0,[.int .u64 r']⟩])
 | 0, i, r, d, hd, hk, hi => by
  refine⟨d,r,hd,permIn_refl d a b,?_⟩
  have hcl:=fun vs=>E.clean d0 d ⟨0,[.int .u64 r0]⟩ ⟨0,[.int .u64 r]⟩ (fun n=>by intro q hq;simp[orefs,trefs,vrefs,crefs,arefs]at hq) [] vs
  have hl:=E.base.ln
  have oS:=E.base.oS
  obtain⟨len,hlen⟩: ∃len,len=b - a:=⟨_,rfl⟩
  rw[←hlen]
  obtain⟨q,hq⟩: ∃q:Nat,q=len / 4:=⟨_,rfl⟩
  have t1:((len:Nat):Int).tdiv 4=q:=by rw[Int.tdiv_eq_ediv_of_nonneg (by omega)];omega
  have hq2:q≤255:=by omega
  have w1:IntKind.i64.wrap (q:Int)=q:=wrap64 (by omega) (by omega)
  have w2:IntKind.i64.wrap ((q:Int) * 2)=(q:Int) * 2:=wrap64 (by omega) (by omega)
  have w3:IntKind.i64.wrap ((a:Int)+(q:Int) * 2)=(a:Int)+(q:Int) * 2:=wrap64 (by omega) (by omega)
  have w4:IntKind.i64.wrap ((a:Int)+(q:Int) * 2+1)=(a:Int)+(q:Int) * 2+1:=wrap64 (by omega) (by omega)
  have c1: ¬(i:Int)≤(a:Int)+(q:Int) * 2+1:=by omega
  rw[floop_at i_zz11_B1.eq_1]
  simp (disch:=first|assumption|omega|(simp[*]<;>omega)|fail) [-getElem?_pos,gz_,gs_,hcl,hl,oS,t1,w1,w2,w3,w4,c1]
 | k + 1, i, r, d, hd, hk, hi => by
  have hcl:=fun r' d' vs=>E.clean d0 d' ⟨0,[.int .u64 r0]⟩ ⟨0,[.int .u64 r']⟩ (fun n=>by intro q hq;simp[orefs,trefs,vrefs,crefs,arefs]at hq) [] vs
  have hl:=E.base.ln
  have oS:=E.base.oS
  have hnr:=E.base.nr #[]
  have hix:=E.idx
  have hld:=E.load
  have hst:=E.store
  obtain⟨r',hr',ex⟩:=c_xorshift (nro:=nro) (H d) (E.base.nr d) r
  rw[hl d]at ex
  obtain⟨len,hlen⟩: ∃len,len=b - a:=⟨_,rfl⟩
  rw[←hlen]
  obtain⟨q,hq⟩: ∃q:Nat,q=len / 4:=⟨_,rfl⟩
  have t1:((len:Nat):Int).tdiv 4=q:=by rw[Int.tdiv_eq_ediv_of_nonneg (by omega)];omega
  have hq2:q≤255:=by omega
  have w1:IntKind.i64.wrap (q:Int)=q:=wrap64 (by omega) (by omega)
  have w2:IntKind.i64.wrap ((q:Int) * 2)=(q:Int) * 2:=wrap64 (by omega) (by omega)
  have w3:IntKind.i64.wrap ((a:Int)+(q:Int) * 2)=(a:Int)+(q:Int) * 2:=wrap64 (by omega) (by omega)
  have w4:IntKind.i64.wrap ((a:Int)+(q:Int) * 2+1)=(a:Int)+(q:Int) * 2+1:=wrap64 (by omega) (by omega)
  have c1:(i:Int)≤(a:Int)+(q:Int) * 2+1:=by omega
  have w5:IntKind.u64.wrap ((m:Int) - 1)=((m - 1:Nat):Int):=by rw[show(m:Int) - 1=((m - 1:Nat):Int) by omega];exact wrapu64 (by omega) (by omega)
  obtain⟨a1,a2⟩:=iand_u64 (r' :Int) (m - 1) (by omega)
  obtain⟨x,hx⟩: ∃x,iand .u64 (r' :Int) ((m - 1:Nat):Int)=x:=⟨_,rfl⟩
  rw[hx]at a1 a2
  have w6:IntKind.i64.wrap x=x:=wrap64 (by omega) (by omega)
  have w9:IntKind.i64.wrap ((i:Int)+1)=(i:Int)+1:=wrap64 (by omega) (by omega)
  have i0:(0:Int)≤i:=by omega
  have i1:(i:Int)<N:=by omega
  by_cases c2:(len:Int)≤x
  ·have w7:IntKind.i64.wrap (x - len)=x - len:=wrap64 (by omega) (by omega)
   have w8:IntKind.i64.wrap ((a:Int)+(x - len))=(a:Int)+(x - len):=wrap64 (by omega) (by omega)
   have j0:(0:Int)≤(a:Int)+(x - len):=by omega
   have j1:(a:Int)+(x - len)<N:=by omega
   have e4:swI d (i:Int) ((a:Int)+(x - len))=Go.Sort.swp d i (a+(x.toNat - len)):=swI_swp _ _ _ _ _ rfl (by omega)
   unfold swI at e4
   have hp:=swp_permI (d:=d) (a:=a) (b:=b) (i:=i) (j:=a+(x.toNat - len)) (by omega) (by omega) (by omega) (by omega) (by omega)
   obtain⟨d',r2,p1,p2,ih⟩:=l_ord_break a b m w hm (by omega) hb hN (by omega) (by omega) d0 r0 k (i+1) r' (Go.Sort.swp d i (a+(x.toNat - len))) (by simpa using hd) (by omega) (by omega)
   refine⟨d',r2,p1,permIn_trans _ _ _ a b hp p2,?_⟩
   rw[←hlen]at ih
   rw[←ih]
   clear ih p1 p2 hp hk hm hm2 hm3
   rw[floop_at i_zz11_B1.eq_1]
   simp (disch:=first|assumption|omega|(simp[*]<;>omega)|fail) [-getElem?_pos,gz_,gs_,hcl,hl,oS,hix,hld,hst,hd,t1,w1,w2,w3,w4,c1,ex,w5,hx,w6,c2,w7,w8,w9,i0,i1,j0,j1,e4]
  ·have w8:IntKind.i64.wrap ((a:Int)+x)=(a:Int)+x:=wrap64 (by omega) (by omega)
   have j0:(0:Int)≤(a:Int)+x:=by omega
   have j1:(a:Int)+x<N:=by omega
   have e4:swI d (i:Int) ((a:Int)+x)=Go.Sort.swp d i (a+x.toNat):=swI_swp _ _ _ _ _ rfl (by omega)
   unfold swI at e4
   have hp:=swp_permI (d:=d) (a:=a) (b:=b) (i:=i) (j:=a+x.toNat) (by omega) (by omega) (by omega) (by omega) (by omega)
   obtain⟨d',r2,p1,p2,ih⟩:=l_ord_break a b m w hm (by omega) hb hN (by omega) (by omega) d0 r0 k (i+1) r' (Go.Sort.swp d i (a+x.toNat)) (by simpa using hd) (by omega) (by omega)
   refine⟨d',r2,p1,permIn_trans _ _ _ a b hp p2,?_⟩
   rw[←hlen]at ih
   rw[←ih]
   clear ih p1 p2 hp hk hm hm2 hm3
   rw[floop_at i_zz11_B1.eq_1]
   simp (disch:=first|assumption|omega|(simp[*]<;>omega)|fail) [-getElem?_pos,gz_,gs_,hcl,hl,oS,hix,hld,hst,hd,t1,w1,w2,w3,w4,c1,ex,w5,hx,w6,c2,w8,w9,i0,i1,j0,j1,e4]
theorem c_ord_break (a b:Nat) (d:Array Nat) (hd:d.size=N) (hab:a≤b) (hb:b≤N) (hN:N≤255):
  ∃d',d'.size=N∧PermIn a b d d' ∧vcall F nro k_zz11 [S,.int .i64 a,.int .i64 b] (H d)=some (.tuple #[],H d'):=by
 have hc0:=fun q L vs=>E.base.clean d q L vs
 have hc1:=fun q vs=>E.base.clean0 d q vs
 have hl:=E.base.ln
 have hnr:=E.base.nr #[]
 have hgt:=E.get
 obtain⟨len,hlen⟩: ∃len,len=b - a:=⟨_,rfl⟩
 have w0:IntKind.i64.wrap ((b:Int) - a)=len:=by rw[show(b:Int) - a=len by omega];exact wrap64 (by omega) (by omega)
 by_cases c:(8:Int)≤len
 ·obtain⟨y,y1,y2,y3,ep⟩:=c_pow2 (nro:=nro) len (by omega) (H d++ [⟨0,[.int .u64 len]⟩])
  obtain⟨w,hw⟩: ∃w,2 ^ y=2 * w:=by
   cases y with
   | zero => simp at y2; omega
   | succ y => exact ⟨2 ^ y, by rw [Nat.pow_succ, Nat.mul_comm]⟩
  obtain⟨q,hq⟩: ∃q:Nat,q=len / 4:=⟨_,rfl⟩
  obtain⟨d',r',p1,p2,lp⟩:=l_ord_break E a b (2 ^ y) w hw (by omega) hb hN (by omega) (by omega) d len 3 (a+q * 2 - 1) len d hd (by omega) (by omega)
  refine⟨d',p1,p2,?_⟩
  have t1:((len:Nat):Int).tdiv 4=q:=by rw[Int.tdiv_eq_ediv_of_nonneg (by omega)];omega
  have w1:IntKind.i64.wrap (q:Int)=q:=wrap64 (by omega) (by omega)
  have w2:IntKind.i64.wrap ((q:Int) * 2)=(q:Int) * 2:=wrap64 (by omega) (by omega)
  have w3:IntKind.i64.wrap ((a:Int)+(q:Int) * 2)=(a:Int)+(q:Int) * 2:=wrap64 (by omega) (by omega)
  have w4:IntKind.i64.wrap ((a:Int)+(q:Int) * 2 - 1)=((a+q * 2 - 1:Nat):Int):=by rw[show(a:Int)+(q:Int) * 2 - 1=((a+q * 2 - 1:Nat):Int) by omega];exact wrap64 (by omega) (by omega)
  have w5:IntKind.u64.wrap (len:Int)=len:=wrapu64 (by omega) (by omega)
  rw[←hlen]at lp
  obtain⟨z,hz⟩: ∃z,z=2 ^ y:=⟨_,rfl⟩
  rw[←hz]at lp ep
  obtain⟨i0,hi0⟩: ∃i0,i0=a+q * 2 - 1:=⟨_,rfl⟩
  rw[←hi0]at lp w4
  clear p1 p2 hw hq y1 y2 y3 hz hi0
  refine v_zz11 (by simp[i_zz11]) ?_
  rw[fbody_eq]
  simp (disch:=first|assumption|omega|(simp[*]<;>omega)|fail) [-getElem?_pos,gz_,gs_,i_zz11,w0,c,w5,hl,hnr,hgt,ep,t1,w1,w2,w3,w4,lp,hc0,fresults,fresL]
 ·refine⟨d,hd,permIn_refl d a b,?_⟩
  refine v_zz11 (by simp[i_zz11]) ?_
  rw[fbody_eq]
  simp (disch:=first|assumption|omega|(simp[*]<;>omega)|fail) [-getElem?_pos,gz_,gs_,i_zz11,w0,c,hc1,fresults,fresL]
end
end

/- Sorting: a pivot is chosen. -/
section
open Go Go.Sort
variable {nro:Nat} {S:Value} {P:Int→Value} {ag:Nat→Value} {cm:Nat→Nat→Int} {N:Nat} {H:Array Nat→VH}
section
variable (E:SXO nro S P ag cm N H)
include E
theorem SXO.cl (d:Array Nat) (s s' :Int) (L:VH) (vs:List Value) (hv: ∀v∈vs,Old ((H #[]).length+1) v):kclean (H d++ [⟨0,[.int .i64 s]⟩]) vs (H d++⟨0,[.int .i64 s']⟩::L)=(vs,H d++ [⟨0,[.int .i64 s']⟩]):=
 E.clean d d _ _ (fun n=>by intro q hq;simp[orefs,trefs,vrefs,crefs,arefs]at hq) L vs hv
theorem c_ord_order2 (d:Array Nat) (hd:d.size=N) (a b:Nat) (ha:a<N) (hb:b<N) (s:Nat) (hs:s≤100):
  ∃a' b' s' :Nat,s' ≤s+1∧((a' =a∧b' =b)∨(a' =b∧b' =a))∧vcall F nro k_zz29 [S,.int .i64 a,.int .i64 b,.pointer (some ⟨(H #[]).length,0,some 1⟩)] (H d++ [⟨0,[.int .i64 s]⟩])=some (.tuple #[.int .i64 a',.int .i64 b'],H d++ [⟨0,[.int .i64 s']⟩]):=by
 have hcl:=fun s' vs=>E.cl d s s' [] vs
 have hl:=E.base.ln
 have hnr:=E.base.nr #[]
 have hgt:=E.get
 have hix:=E.idx
 have hld:=E.load
 have hcm:=E.cmp
 have w1:IntKind.i64.wrap ((s:Int)+1)=(s:Int)+1:=wrap64 (by omega) (by omega)
 have a0:(0:Int)≤a:=by omega
 have b0:(0:Int)≤b:=by omega
 have a1:(a:Int)<N:=by omega
 have b1:(b:Int)<N:=by omega
 by_cases c:cm (getI d (b:Int)) (getI d (a:Int))<0
 ·refine⟨b,a,s+1,by omega,.inr ⟨rfl,rfl⟩,?_⟩
  refine v_zz29 (by simp[i_zz29]) ?_
  rw[fbody_eq]
  simp (disch:=first|assumption|omega|(simp[*]<;>omega)|fail) [-getElem?_pos,gz_,gs_,i_zz29,hix,hld,hcm,hd,a0,b0,a1,b1,c,hl,hnr,hgt,w1,hcl,fresults,fresL,fres1]
 ·refine⟨a,b,s,by omega,.inl ⟨rfl,rfl⟩,?_⟩
  refine v_zz29 (by simp[i_zz29]) ?_
  rw[fbody_eq]
  simp (disch:=first|assumption|omega|(simp[*]<;>omega)|fail) [-getElem?_pos,gz_,gs_,i_zz29,hix,hld,hcm,hd,a0,b0,a1,b1,c,hl,hnr,hgt,w1,hcl,fresults,fresL,fres1]
theorem c_ord_median (d:Array Nat) (hd:d.size=N) (a b c:Nat) (ha:a<N) (hb:b<N) (hc:c<N) (s:Nat) (hs:s≤50):
  ∃m s' :Nat,s' ≤s+3∧(m=a∨m=b∨m=c)∧vcall F nro k_zz28 [S,.int .i64 a,.int .i64 b,.int .i64 c,.pointer (some ⟨(H #[]).length,0,some 1⟩)] (H d++ [⟨0,[.int .i64 s]⟩])=some (.int .i64 m,H d++ [⟨0,[.int .i64 s']⟩]):=by
 have hcl:=fun s' vs=>E.cl d s s' [] vs
 obtain⟨a1,b1,s1,q1,p1,e1⟩:=c_ord_order2 E d hd a b ha hb s (by omega)
 obtain⟨b2,c2,s2,q2,p2,e2⟩:=c_ord_order2 E d hd b1 c (by omega) hc s1 (by omega)
 obtain⟨a3,b3,s3,q3,p3,e3⟩:=c_ord_order2 E d hd a1 b2 (by omega) (by omega) s2 (by omega)
 refine⟨b3,s3,by omega,by omega,?_⟩
 clear p1 p2 p3 q1 q2 q3
 refine v_zz28 (by simp[i_zz28]) ?_
 rw[fbody_eq]
 simp (disch:=first|assumption|omega|(simp[*]<;>omega)|fail) [-getElem?_pos,gz_,gs_,i_zz28,e1,e2,e3,hcl,fresults,fresL,fres1]
theorem c_ord_medianA (d:Array Nat) (hd:d.size=N) (a:Nat) (ha:a+1<N) (h1:1≤a) (s:Nat) (hs:s≤50):
  ∃m s' :Nat,s' ≤s+3∧(m=a - 1∨m=a∨m=a+1)∧vcall F nro k_zz9 [S,.int .i64 a,.pointer (some ⟨(H #[]).length,0,some 1⟩)] (H d++ [⟨0,[.int .i64 s]⟩])=some (.int .i64 m,H d++ [⟨0,[.int .i64 s']⟩]):=by
 have hcl:=fun s' vs=>E.cl d s s' [] vs
 have hN:=E.base.hN
 obtain⟨m,s1,q1,p1,e1⟩:=c_ord_median E d hd (a - 1) a (a+1) (by omega) (by omega) (by omega) s hs
 refine⟨m,s1,q1,p1,?_⟩
 have w1:IntKind.i64.wrap ((a:Int) - 1)=((a - 1:Nat):Int):=by rw[show(a:Int) - 1=((a - 1:Nat):Int) by omega];exact wrap64 (by omega) (by omega)
 have w2:IntKind.i64.wrap ((a:Int)+1)=((a+1:Nat):Int):=by rw[show(a:Int)+1=((a+1:Nat):Int) by omega];exact wrap64 (by omega) (by omega)
 obtain⟨x,hx⟩: ∃x,x=a - 1:=⟨_,rfl⟩
 obtain⟨y,hy⟩: ∃y,y=a+1:=⟨_,rfl⟩
 rw[←hx,←hy]at e1
 rw[←hx]at w1
 rw[←hy]at w2
 clear p1 q1 hx hy
 refine v_zz9 (by simp[i_zz9]) ?_
 rw[fbody_eq]
 simp (disch:=first|assumption|omega|(simp[*]<;>omega)|fail) [-getElem?_pos,gz_,gs_,i_zz9,w1,w2,e1,hcl,fresults,fresL,fres1]
set_option maxHeartbeats 2000000 in
theorem c_ord_pivot (d:Array Nat) (hd:d.size=N) (a b:Nat) (hab:a<b) (hb:b≤N):
  ∃m t:Nat,(a≤m∧m<b)∧t≤2∧vcall F nro k_zz17 [S,.int .i64 a,.int .i64 b] (H d)=some (.tuple #[.int .i64 m,.int .i64 t],H d):=by
 have hc0:=fun L vs=>E.base.clean d d L vs
 have hl:=E.base.ln
 have hnr:=E.base.nr #[]
 have hgt:=E.get
 have hN:=E.base.hN
 obtain⟨len,hlen⟩: ∃len,len=b - a:=⟨_,rfl⟩
 have w0:IntKind.i64.wrap ((b:Int) - a)=len:=by rw[show(b:Int) - a=len by omega];exact wrap64 (by omega) (by omega)
 obtain⟨q,hq⟩: ∃q:Nat,q=len / 4:=⟨_,rfl⟩
 have t1:((len:Nat):Int).tdiv 4=q:=by rw[Int.tdiv_eq_ediv_of_nonneg (by omega)];omega
 have hq2:q≤1000:=by omega
 have w1:IntKind.i64.wrap (q:Int)=q:=wrap64 (by omega) (by omega)
 obtain⟨i,hi⟩: ∃i,i=a+q:=⟨_,rfl⟩
 obtain⟨j,hj⟩: ∃j,j=a+q * 2:=⟨_,rfl⟩
 obtain⟨k,hk⟩: ∃k,k=a+q * 3:=⟨_,rfl⟩
 have w2:IntKind.i64.wrap ((q:Int) * 2)=(q:Int) * 2:=wrap64 (by omega) (by omega)
 have w3:IntKind.i64.wrap ((q:Int) * 3)=(q:Int) * 3:=wrap64 (by omega) (by omega)
 have w4:IntKind.i64.wrap ((a:Int)+q)=i:=by rw[show(a:Int)+q=i by omega];exact wrap64 (by omega) (by omega)
 have w5:IntKind.i64.wrap ((a:Int)+(q:Int) * 2)=j:=by rw[show(a:Int)+(q:Int) * 2=j by omega];exact wrap64 (by omega) (by omega)
 have w6:IntKind.i64.wrap ((a:Int)+(q:Int) * 3)=k:=by rw[show(a:Int)+(q:Int) * 3=k by omega];exact wrap64 (by omega) (by omega)
 by_cases c8:(8:Int)≤len
 ·by_cases c50:(50:Int)≤len
  ·obtain⟨m1,s1,q1,p1,e1⟩:=c_ord_medianA E d hd i (by omega) (by omega) 0 (by omega)
   have r1:a≤m1∧m1<b:=by rcases p1 with h|h|h<;>omega
   clear p1
   obtain⟨m2,s2,q2,p2,e2⟩:=c_ord_medianA E d hd j (by omega) (by omega) s1 (by omega)
   have r2:a≤m2∧m2<b:=by rcases p2 with h|h|h<;>omega
   clear p2
   obtain⟨m3,s3,q3,p3,e3⟩:=c_ord_medianA E d hd k (by omega) (by omega) s2 (by omega)
   have r3:a≤m3∧m3<b:=by rcases p3 with h|h|h<;>omega
   clear p3
   obtain⟨m4,s4,q4,p4,e4⟩:=c_ord_median E d hd m1 m2 m3 (by omega) (by omega) (by omega) s3 (by omega)
   have hr:a≤m4∧m4<b:=by rcases p4 with h|h|h<;>rw[h]<;>assumption
   clear p4 r1 r2 r3 q1 q2 q3 q4 hi hj hk hq hlen
   simp only[Int.natCast_zero]at e1
   by_cases z0:s4=0
   ·refine⟨m4,1,hr,by omega,?_⟩
    subst z0
    clear hr
    refine v_zz17 (by simp[i_zz17]) ?_
    rw[fbody_eq]
    simp (disch:=first|assumption|omega|(simp[*]<;>omega)|fail) [-getElem?_pos,gz_,gs_,i_zz17,w0,t1,w1,w2,w3,w4,w5,w6,c8,c50,hl,hnr,hgt,e1,e2,e3,e4,hc0,fresults,fresL,fres1]
   ·by_cases z1:s4=12
    ·refine⟨m4,2,hr,by omega,?_⟩
     subst z1
     clear hr
     refine v_zz17 (by simp[i_zz17]) ?_
     rw[fbody_eq]
     simp (disch:=first|assumption|omega|(simp[*]<;>omega)|fail) [-getElem?_pos,gz_,gs_,i_zz17,w0,t1,w1,w2,w3,w4,w5,w6,c8,c50,hl,hnr,hgt,e1,e2,e3,e4,hc0,fresults,fresL,fres1]
    ·have z0' : ¬(s4:Int)=0:=by omega
     have z1' : ¬(s4:Int)=12:=by omega
     refine⟨m4,0,hr,by omega,?_⟩
     clear hr
     refine v_zz17 (by simp[i_zz17]) ?_
     rw[fbody_eq]
     simp (disch:=first|assumption|omega|(simp[*]<;>omega)|fail) [-getElem?_pos,gz_,gs_,i_zz17,w0,t1,w1,w2,w3,w4,w5,w6,c8,c50,hl,hnr,hgt,e1,e2,e3,e4,z0,z1,z0',z1',hc0,fresults,fresL,fres1]
  ·obtain⟨m4,s4,q4,p4,e4⟩:=c_ord_median E d hd i j k (by omega) (by omega) (by omega) 0 (by omega)
   have hr:a≤m4∧m4<b:=by rcases p4 with h|h|h<;>omega
   have z1: ¬s4=12:=by omega
   have z1' : ¬(s4:Int)=12:=by omega
   simp only[Int.natCast_zero]at e4
   by_cases z0:s4=0
   ·refine⟨m4,1,hr,by omega,?_⟩
    subst z0
    clear p4 q4 hi hj hk hq hlen hr
    refine v_zz17 (by simp[i_zz17]) ?_
    rw[fbody_eq]
    simp (disch:=first|assumption|omega|(simp[*]<;>omega)|fail) [-getElem?_pos,gz_,gs_,i_zz17,w0,t1,w1,w2,w3,w4,w5,w6,c8,c50,hl,hnr,hgt,e4,hc0,fresults,fresL,fres1]
   ·have z0' : ¬(s4:Int)=0:=by omega
    refine⟨m4,0,hr,by omega,?_⟩
    clear p4 q4 hi hj hk hq hlen hr
    refine v_zz17 (by simp[i_zz17]) ?_
    rw[fbody_eq]
    simp (disch:=first|assumption|omega|(simp[*]<;>omega)|fail) [-getElem?_pos,gz_,gs_,i_zz17,w0,t1,w1,w2,w3,w4,w5,w6,c8,c50,hl,hnr,hgt,e4,z0,z0',z1,z1',hc0,fresults,fresL,fres1]
 ·refine⟨j,1,by omega,by omega,?_⟩
  clear hi hj hk hq hlen
  refine v_zz17 (by simp[i_zz17]) ?_
  rw[fbody_eq]
  simp (disch:=first|assumption|omega|(simp[*]<;>omega)|fail) [-getElem?_pos,gz_,gs_,i_zz17,w0,t1,w1,w2,w3,w4,w5,w6,c8,hl,hnr,hgt,hc0,fresults,fresL,fres1]
end
end

/- Sorting: partitions. -/
section
open Go Go.Sort
variable {nro:Nat} {S:Value} {P:Int→Value} {ag:Nat→Value} {cm:Nat→Nat→Int} {N:Nat} {H:Array Nat→VH}
section
variable (E:SO nro S P ag cm N H)
include E
theorem l_ord_up1 (a j:Nat) (haN:a<N) (hjN:j<N) (d0 d:Array Nat) (hd:d.size=N) (v:Nat) (hv:getI d (a:Int)=v): ∀(k i:Nat),j+1≤i+k→i≤N→
  floop (vcall F nro) nro [0,1,10,11] i_zz21_B1 (H d0) [S,.int .i64 a,.int .i64 i,.int .i64 j] (H d)=some (.exit 0,fl [(0,S),(1,.int .i64 a),(10,.int .i64 ((scanUp (fun x=>ltC cm x v) d j i:Nat))),(11,.int .i64 (j))],H d):=by
 have hc:=fun q=>E.clean0 d0 q
 have hl:=E.ln
 have oS:=E.oS
 have hN:=E.hN
 have hix:=E.idx
 have hld:=E.load
 have hcm:=E.cmp
 have a0:(0:Int)≤a:=by omega
 have a1:(a:Int)<N:=by omega
 intro k
 induction k with
 | zero =>
  intro i hk hi
  have c1: ¬(i:Int)≤j:=by omega
  have c2: ¬i≤j:=by omega
  rw[scanUp,if_neg (by simp[c2]),floop_at i_zz21_B1.eq_1]
  simp (disch:=first|assumption|omega|(simp[*]<;>omega)|fail) [-getElem?_pos,gz_,gs_,hc,hl,oS,c1,c2]
 | succ k ih =>
  intro i hk hi
  have gi:=getI_nat d (i:Int) i rfl
  by_cases c1:i≤j
  ·have c1' :(i:Int)≤j:=by omega
   have i0:(0:Int)≤i:=by omega
   have i1:(i:Int)<N:=by omega
   have w1:IntKind.i64.wrap ((i:Int)+1)=(i:Int)+1:=wrap64 (by omega) (by omega)
   rw[scanUp,←gi,←hv]
   by_cases c2:cm (getI d (i:Int)) (getI d (a:Int))<0
   ·have e2:ltC cm (getI d (i:Int)) (getI d (a:Int))=true:=decide_eq_true c2
    rw[if_pos (by simp[c1,e2])]
    rw[hv]
    have ih2:=ih (i+1) (by omega) (by omega)
    rw[←ih2]
    clear ih ih2 gi e2 hv
    rw[floop_at i_zz21_B1.eq_1]
    simp (disch:=first|assumption|omega|(simp[*]<;>omega)|fail) [-getElem?_pos,gz_,gs_,hc,hl,oS,hix,hld,hcm,hd,c1',c1,c2,i0,i1,a0,a1,w1]
   ·have e2:ltC cm (getI d (i:Int)) (getI d (a:Int))=false:=decide_eq_false c2
    rw[if_neg (by simp[e2])]
    clear ih gi e2 hv
    rw[floop_at i_zz21_B1.eq_1]
    simp (disch:=first|assumption|omega|(simp[*]<;>omega)|fail) [-getElem?_pos,gz_,gs_,hc,hl,oS,hix,hld,hcm,hd,c1',c1,c2,i0,i1,a0,a1,w1]
  ·have c1' : ¬(i:Int)≤j:=by omega
   rw[scanUp,if_neg (by simp[c1]),floop_at i_zz21_B1.eq_1]
   simp (disch:=first|assumption|omega|(simp[*]<;>omega)|fail) [-getElem?_pos,gz_,gs_,hc,hl,oS,c1',c1]
theorem l_ord_dn1 (a i:Nat) (haN:a<N) (hi1:1≤i) (d0 d:Array Nat) (hd:d.size=N) (v:Nat) (hv:getI d (a:Int)=v): ∀(j:Nat),j<N→
  floop (vcall F nro) nro [0,1,10,11] i_zz21_B2 (H d0) [S,.int .i64 a,.int .i64 i,.int .i64 j] (H d)=some (.exit 2,fl [(0,S),(1,.int .i64 a),(10,.int .i64 (i)),(11,.int .i64 ((scanDown (fun x=> !ltC cm x v) d i j:Nat)))],H d):=by
 have hc:=fun q=>E.clean0 d0 q
 have hl:=E.ln
 have oS:=E.oS
 have hN:=E.hN
 have hix:=E.idx
 have hld:=E.load
 have hcm:=E.cmp
 have a0:(0:Int)≤a:=by omega
 have a1:(a:Int)<N:=by omega
 intro j
 induction j with
 | zero =>
  intro hj
  have c1: ¬(i:Int)≤0:=by omega
  have c2: ¬i=0:=by omega
  rw[scanDown,floop_at i_zz21_B2.eq_1]
  simp (disch:=first|assumption|omega|(simp[*]<;>omega)|fail) [-getElem?_pos,gz_,gs_,hc,hl,oS,c1,c2]
 | succ j ih =>
  intro hj
  have gi:=getI_nat d ((j:Int)+1) (j+1) (by omega)
  by_cases c1:i≤j+1
  ·have c1' :(i:Int)≤(j:Int)+1:=by omega
   have i0:(0:Int)≤(j:Int)+1:=by omega
   have i1:(j:Int)+1<N:=by omega
   have w1:IntKind.i64.wrap (j:Int)=j:=wrap64 (by omega) (by omega)
   rw[scanDown,←gi,←hv]
   by_cases c2:cm (getI d ((j:Int)+1)) (getI d (a:Int))<0
   ·have e2:ltC cm (getI d ((j:Int)+1)) (getI d (a:Int))=true:=decide_eq_true c2
    rw[if_neg (by simp[e2])]
    clear ih gi e2 hv
    rw[floop_at i_zz21_B2.eq_1]
    simp (disch:=first|assumption|omega|(simp[*]<;>omega)|fail) [-getElem?_pos,gz_,gs_,hc,hl,oS,hix,hld,hcm,hd,c1',c1,c2,i0,i1,a0,a1,w1]
   ·have e2:ltC cm (getI d ((j:Int)+1)) (getI d (a:Int))=false:=decide_eq_false c2
    rw[if_pos (by simp[c1,e2])]
    rw[hv]
    have ih2:=ih (by omega)
    rw[←ih2]
    clear ih ih2 gi e2 hv
    rw[floop_at i_zz21_B2.eq_1]
    simp (disch:=first|assumption|omega|(simp[*]<;>omega)|fail) [-getElem?_pos,gz_,gs_,hc,hl,oS,hix,hld,hcm,hd,c1',c1,c2,i0,i1,a0,a1,w1]
  ·have c1' : ¬(i:Int)≤(j:Int)+1:=by omega
   rw[scanDown,if_neg (by simp[c1]),floop_at i_zz21_B2.eq_1]
   simp (disch:=first|assumption|omega|(simp[*]<;>omega)|fail) [-getElem?_pos,gz_,gs_,hc,hl,oS,c1',c1]
theorem l_ord_up2 (a j:Nat) (haN:a<N) (hjN:j<N) (d0 d:Array Nat) (hd:d.size=N) (v:Nat) (hv:getI d (a:Int)=v): ∀(k i:Nat),j+1≤i+k→i≤N→
  floop (vcall F nro) nro [0,1,10,11] i_zz21_B3 (H d0) [S,.int .i64 a,.int .i64 i,.int .i64 j] (H d)=some (.exit 6,fl [(0,S),(1,.int .i64 a),(10,.int .i64 ((scanUp (fun x=>ltC cm x v) d j i:Nat))),(11,.int .i64 (j))],H d):=by
 have hc:=fun q=>E.clean0 d0 q
 have hl:=E.ln
 have oS:=E.oS
 have hN:=E.hN
 have hix:=E.idx
 have hld:=E.load
 have hcm:=E.cmp
 have a0:(0:Int)≤a:=by omega
 have a1:(a:Int)<N:=by omega
 intro k
 induction k with
 | zero =>
  intro i hk hi
  have c1: ¬(i:Int)≤j:=by omega
  have c2: ¬i≤j:=by omega
  rw[scanUp,if_neg (by simp[c2]),floop_at i_zz21_B3.eq_1]
  simp (disch:=first|assumption|omega|(simp[*]<;>omega)|fail) [-getElem?_pos,gz_,gs_,hc,hl,oS,c1,c2]
 | succ k ih =>
  intro i hk hi
  have gi:=getI_nat d (i:Int) i rfl
  by_cases c1:i≤j
  ·have c1' :(i:Int)≤j:=by omega
   have i0:(0:Int)≤i:=by omega
   have i1:(i:Int)<N:=by omega
   have w1:IntKind.i64.wrap ((i:Int)+1)=(i:Int)+1:=wrap64 (by omega) (by omega)
   rw[scanUp,←gi,←hv]
   by_cases c2:cm (getI d (i:Int)) (getI d (a:Int))<0
   ·have e2:ltC cm (getI d (i:Int)) (getI d (a:Int))=true:=decide_eq_true c2
    rw[if_pos (by simp[c1,e2])]
    rw[hv]
    have ih2:=ih (i+1) (by omega) (by omega)
    rw[←ih2]
    clear ih ih2 gi e2 hv
    rw[floop_at i_zz21_B3.eq_1]
    simp (disch:=first|assumption|omega|(simp[*]<;>omega)|fail) [-getElem?_pos,gz_,gs_,hc,hl,oS,hix,hld,hcm,hd,c1',c1,c2,i0,i1,a0,a1,w1]
   ·have e2:ltC cm (getI d (i:Int)) (getI d (a:Int))=false:=decide_eq_false c2
    rw[if_neg (by simp[e2])]
    clear ih gi e2 hv
    rw[floop_at i_zz21_B3.eq_1]
    simp (disch:=first|assumption|omega|(simp[*]<;>omega)|fail) [-getElem?_pos,gz_,gs_,hc,hl,oS,hix,hld,hcm,hd,c1',c1,c2,i0,i1,a0,a1,w1]
  ·have c1' : ¬(i:Int)≤j:=by omega
   rw[scanUp,if_neg (by simp[c1]),floop_at i_zz21_B3.eq_1]
   simp (disch:=first|assumption|omega|(simp[*]<;>omega)|fail) [-getElem?_pos,gz_,gs_,hc,hl,oS,c1',c1]
theorem l_ord_dn2 (a i:Nat) (haN:a<N) (hi1:1≤i) (d0 d:Array Nat) (hd:d.size=N) (v:Nat) (hv:getI d (a:Int)=v): ∀(j:Nat),j<N→
  floop (vcall F nro) nro [0,1,10,11] i_zz21_B4 (H d0) [S,.int .i64 a,.int .i64 i,.int .i64 j] (H d)=some (.exit 8,fl [(0,S),(1,.int .i64 a),(10,.int .i64 (i)),(11,.int .i64 ((scanDown (fun x=> !ltC cm x v) d i j:Nat)))],H d):=by
 have hc:=fun q=>E.clean0 d0 q
 have hl:=E.ln
 have oS:=E.oS
 have hN:=E.hN
 have hix:=E.idx
 have hld:=E.load
 have hcm:=E.cmp
 have a0:(0:Int)≤a:=by omega
 have a1:(a:Int)<N:=by omega
 intro j
 induction j with
 | zero =>
  intro hj
  have c1: ¬(i:Int)≤0:=by omega
  have c2: ¬i=0:=by omega
  rw[scanDown,floop_at i_zz21_B4.eq_1]
  simp (disch:=first|assumption|omega|(simp[*]<;>omega)|fail) [-getElem?_pos,gz_,gs_,hc,hl,oS,c1,c2]
 | succ j ih =>
  intro hj
  have gi:=getI_nat d ((j:Int)+1) (j+1) (by omega)
  by_cases c1:i≤j+1
  ·have c1' :(i:Int)≤(j:Int)+1:=by omega
   have i0:(0:Int)≤(j:Int)+1:=by omega
   have i1:(j:Int)+1<N:=by omega
   have w1:IntKind.i64.wrap (j:Int)=j:=wrap64 (by omega) (by omega)
   rw[scanDown,←gi,←hv]
   by_cases c2:cm (getI d ((j:Int)+1)) (getI d (a:Int))<0
   ·have e2:ltC cm (getI d ((j:Int)+1)) (getI d (a:Int))=true:=decide_eq_true c2
    rw[if_neg (by simp[e2])]
    clear ih gi e2 hv
    rw[floop_at i_zz21_B4.eq_1]
    simp (disch:=first|assumption|omega|(simp[*]<;>omega)|fail) [-getElem?_pos,gz_,gs_,hc,hl,oS,hix,hld,hcm,hd,c1',c1,c2,i0,i1,a0,a1,w1]
   ·have e2:ltC cm (getI d ((j:Int)+1)) (getI d (a:Int))=false:=decide_eq_false c2
    rw[if_pos (by simp[c1,e2])]
    rw[hv]
    have ih2:=ih (by omega)
    rw[←ih2]
    clear ih ih2 gi e2 hv
    rw[floop_at i_zz21_B4.eq_1]
    simp (disch:=first|assumption|omega|(simp[*]<;>omega)|fail) [-getElem?_pos,gz_,gs_,hc,hl,oS,hix,hld,hcm,hd,c1',c1,c2,i0,i1,a0,a1,w1]
  ·have c1' : ¬(i:Int)≤(j:Int)+1:=by omega
   rw[scanDown,if_neg (by simp[c1]),floop_at i_zz21_B4.eq_1]
   simp (disch:=first|assumption|omega|(simp[*]<;>omega)|fail) [-getElem?_pos,gz_,gs_,hc,hl,oS,c1',c1]
theorem l_ord_up3 (a j:Nat) (haN:a<N) (hjN:j<N) (d0 d:Array Nat) (hd:d.size=N) (v:Nat) (hv:getI d (a:Int)=v): ∀(k i:Nat),j+1≤i+k→i≤N→
  floop (vcall F nro) nro [0,1,9,10] i_zz10_B1 (H d0) [S,.int .i64 a,.int .i64 i,.int .i64 j] (H d)=some (.exit 2,fl [(0,S),(1,.int .i64 a),(9,.int .i64 ((scanUp (fun x=> !ltC cm v x) d j i:Nat))),(10,.int .i64 (j))],H d):=by
 have hc:=fun q=>E.clean0 d0 q
 have hl:=E.ln
 have oS:=E.oS
 have hN:=E.hN
 have hix:=E.idx
 have hld:=E.load
 have hcm:=E.cmp
 have a0:(0:Int)≤a:=by omega
 have a1:(a:Int)<N:=by omega
 intro k
 induction k with
 | zero =>
  intro i hk hi
  have c1: ¬(i:Int)≤j:=by omega
  have c2: ¬i≤j:=by omega
  rw[scanUp,if_neg (by simp[c2]),floop_at i_zz10_B1.eq_1]
  simp (disch:=first|assumption|omega|(simp[*]<;>omega)|fail) [-getElem?_pos,gz_,gs_,hc,hl,oS,c1,c2]
 | succ k ih =>
  intro i hk hi
  have gi:=getI_nat d (i:Int) i rfl
  by_cases c1:i≤j
  ·have c1' :(i:Int)≤j:=by omega
   have i0:(0:Int)≤i:=by omega
   have i1:(i:Int)<N:=by omega
   have w1:IntKind.i64.wrap ((i:Int)+1)=(i:Int)+1:=wrap64 (by omega) (by omega)
   rw[scanUp,←gi,←hv]
   by_cases c2:cm (getI d (a:Int)) (getI d (i:Int))<0
   ·have e2:ltC cm (getI d (a:Int)) (getI d (i:Int))=true:=decide_eq_true c2
    rw[if_neg (by simp[e2])]
    clear ih gi e2 hv
    rw[floop_at i_zz10_B1.eq_1]
    simp (disch:=first|assumption|omega|(simp[*]<;>omega)|fail) [-getElem?_pos,gz_,gs_,hc,hl,oS,hix,hld,hcm,hd,c1',c1,c2,i0,i1,a0,a1,w1]
   ·have e2:ltC cm (getI d (a:Int)) (getI d (i:Int))=false:=decide_eq_false c2
    rw[if_pos (by simp[c1,e2])]
    rw[hv]
    have ih2:=ih (i+1) (by omega) (by omega)
    rw[←ih2]
    clear ih ih2 gi e2 hv
    rw[floop_at i_zz10_B1.eq_1]
    simp (disch:=first|assumption|omega|(simp[*]<;>omega)|fail) [-getElem?_pos,gz_,gs_,hc,hl,oS,hix,hld,hcm,hd,c1',c1,c2,i0,i1,a0,a1,w1]
  ·have c1' : ¬(i:Int)≤j:=by omega
   rw[scanUp,if_neg (by simp[c1]),floop_at i_zz10_B1.eq_1]
   simp (disch:=first|assumption|omega|(simp[*]<;>omega)|fail) [-getElem?_pos,gz_,gs_,hc,hl,oS,c1',c1]
theorem l_ord_dn3 (a i:Nat) (haN:a<N) (hi1:1≤i) (d0 d:Array Nat) (hd:d.size=N) (v:Nat) (hv:getI d (a:Int)=v): ∀(j:Nat),j<N→
  floop (vcall F nro) nro [0,1,9,10] i_zz10_B2 (H d0) [S,.int .i64 a,.int .i64 i,.int .i64 j] (H d)=some (.exit 4,fl [(0,S),(1,.int .i64 a),(9,.int .i64 (i)),(10,.int .i64 ((scanDown (fun x=>ltC cm v x) d i j:Nat)))],H d):=by
 have hc:=fun q=>E.clean0 d0 q
 have hl:=E.ln
 have oS:=E.oS
 have hN:=E.hN
 have hix:=E.idx
 have hld:=E.load
 have hcm:=E.cmp
 have a0:(0:Int)≤a:=by omega
 have a1:(a:Int)<N:=by omega
 intro j
 induction j with
 | zero =>
  intro hj
  have c1: ¬(i:Int)≤0:=by omega
  have c2: ¬i=0:=by omega
  rw[scanDown,floop_at i_zz10_B2.eq_1]
  simp (disch:=first|assumption|omega|(simp[*]<;>omega)|fail) [-getElem?_pos,gz_,gs_,hc,hl,oS,c1,c2]
 | succ j ih =>
  intro hj
  have gi:=getI_nat d ((j:Int)+1) (j+1) (by omega)
  by_cases c1:i≤j+1
  ·have c1' :(i:Int)≤(j:Int)+1:=by omega
   have i0:(0:Int)≤(j:Int)+1:=by omega
   have i1:(j:Int)+1<N:=by omega
   have w1:IntKind.i64.wrap (j:Int)=j:=wrap64 (by omega) (by omega)
   rw[scanDown,←gi,←hv]
   by_cases c2:cm (getI d (a:Int)) (getI d ((j:Int)+1))<0
   ·have e2:ltC cm (getI d (a:Int)) (getI d ((j:Int)+1))=true:=decide_eq_true c2
    rw[if_pos (by simp[c1,e2])]
    rw[hv]
    have ih2:=ih (by omega)
    rw[←ih2]
    clear ih ih2 gi e2 hv
    rw[floop_at i_zz10_B2.eq_1]
    simp (disch:=first|assumption|omega|(simp[*]<;>omega)|fail) [-getElem?_pos,gz_,gs_,hc,hl,oS,hix,hld,hcm,hd,c1',c1,c2,i0,i1,a0,a1,w1]
   ·have e2:ltC cm (getI d (a:Int)) (getI d ((j:Int)+1))=false:=decide_eq_false c2
    rw[if_neg (by simp[e2])]
    clear ih gi e2 hv
    rw[floop_at i_zz10_B2.eq_1]
    simp (disch:=first|assumption|omega|(simp[*]<;>omega)|fail) [-getElem?_pos,gz_,gs_,hc,hl,oS,hix,hld,hcm,hd,c1',c1,c2,i0,i1,a0,a1,w1]
  ·have c1' : ¬(i:Int)≤(j:Int)+1:=by omega
   rw[scanDown,if_neg (by simp[c1]),floop_at i_zz10_B2.eq_1]
   simp (disch:=first|assumption|omega|(simp[*]<;>omega)|fail) [-getElem?_pos,gz_,gs_,hc,hl,oS,c1',c1]
end
end

end Go.Proofs.YtbomdghbblakoaaGreatDoor.Zv

