/- Part F of the proof: ZwRef1, ZwRef2, ZwRef3, ZwRef4, ZwRef5, ZwTab, ZwFrom, ZwFrom2, ZwWays, ZwWays2, ZwBound, ZwMoore, ZwRefA, ZwSeqs, ZwSort, ZwCompact, ZwSort2, ZwPdq1, ZwPdq2, ZwPdq3, ZwPdq4, ZwPdq5. Conditions: none. -/
import Derived.Sort.Defs
import Derived.Sort.LotD3
import Derived.Test.YtbomdghbblakoaaGreatDoorZpD
import Derived.Test.YtbomdghbblakoaaGreatDoorZpE
set_option linter.unusedSimpArgs false
set_option linter.unusedVariables false
set_option linter.unusedSectionVars false
namespace Go.Proofs.YtbomdghbblakoaaGreatDoor.Zv
/- Graphs with colours: what a refinement reads and writes. -/
section
open Go
def updL (c:Nat→List Int) (i:Nat) (l:List Int):Nat→List Int:=fun j=>if j=i then l else c j
structure RG (nro K n a bg bc:Nat) (q:Nat→Nat) (rs:Nat→Value) (rows:Nat→List Int) (gcs:List Value) (Hc:(Nat→List Int)→VH):Prop where
 nr: ∀c,nro≤(Hc c).length
 nq: ∀i,i<K→nro≤q i
 len: ∀c c',(Hc c).length=(Hc c').length
 upd: ∀c c',Upd (Hc c) (Hc c')
 ax: ∀c,(Hc c)[a]? =some ⟨0,[.slice (some ⟨bg,0,none⟩) K (2 * K),.slice (some ⟨bc,0,none⟩) K K]⟩
 ag: ∀c,(Hc c)[bg]? =some ⟨2,gcs⟩
 gl:gcs.length=2 * K
 ga: ∀i,i<K→gcs[2 * i]? =some (.int .i64 n)∧gcs[2 * i+1]? =some (rs i)
 ac: ∀c,(Hc c)[bc]? =some ⟨1,(List.range K).map fun i=> .slice (some ⟨q i,0,none⟩) n n⟩
 aq: ∀c i,i<K→(Hc c)[q i]? =some ⟨1,ints (c i)⟩
 st: ∀c i l,i<K→(Hc c).set (q i) ⟨1,ints l⟩=Hc (updL c i l)
 rr: ∀c i,i<K→Sli (Hc c) (rs i) (rows i)
 rok: ∀i,i<K→Rok n (rows i)
 n1:1≤n
 K1:1≤K
 K2:K≤2
structure CL (K n:Nat) (c:Nat→List Int):Prop where
 len: ∀i,i<K→(c i).length=n
 ge: ∀i,i<K→ ∀x∈c i,0≤x∧x<500
section
variable {nro K n a bg bc:Nat} {q:Nat→Nat} {rs:Nat→Value} {rows:Nat→List Int} {gcs:List Value} {Hc:(Nat→List Int)→VH} (E:RG nro K n a bg bc q rs rows gcs Hc)
include E
theorem RG.lt {p:Nat} {o:VO} (c:Nat→List Int) (h:(Hc c)[p]? =some o) (L:VH):(Hc c++L)[p]? =some o:=by
 have _e:=E.n1
 rw[List.getElem?_append_left (List.getElem?_eq_some_iff.mp h).1];exact h
theorem RG.lax (c:Nat→List Int):a<(Hc c).length:=(List.getElem?_eq_some_iff.mp (E.ax c)).1
theorem RG.lbg (c:Nat→List Int):bg<(Hc c).length:=(List.getElem?_eq_some_iff.mp (E.ag c)).1
theorem RG.lbc (c:Nat→List Int):bc<(Hc c).length:=(List.getElem?_eq_some_iff.mp (E.ac c)).1
theorem RG.lq (c:Nat→List Int) {i:Nat} (hi:i<K):q i<(Hc c).length:=(List.getElem?_eq_some_iff.mp (E.aq c i hi)).1
theorem RG.setA (c:Nat→List Int) (L:VH) (i:Nat) (l:List Int) (hi:i<K):(Hc c++L).set (q i) ⟨1,ints l⟩=Hc (updL c i l)++L:=by
 rw[List.set_append_left _ _ (E.lq c hi),E.st c i l hi]
theorem RG.ccell (i:Nat) (hi:i<K):List.take 1 (List.drop i ((List.range K).map fun i=>(Value.slice (some ⟨q i,0,none⟩) n n)))= [.slice (some ⟨q i,0,none⟩) n n]:=by
 have _e:=E.n1
 rw[List.drop_eq_getElem_cons (by simpa using hi)]
 simp
theorem RG.gcell (i:Nat) (hi:i<K):List.take 2 (List.drop (i * 2) gcs)= [.int .i64 n,rs i]:=by
 have h1:=E.gl
 obtain⟨h2,h3⟩:=E.ga i hi
 obtain⟨p2,q2⟩:=List.getElem?_eq_some_iff.mp h2
 obtain⟨p3,q3⟩:=List.getElem?_eq_some_iff.mp h3
 rw[Nat.mul_comm i 2,List.drop_eq_getElem_cons p2,List.drop_eq_getElem_cons p3,q2,q3]
 rfl
end
def mxl (l:List Int):Int:=mxL (l.headD 0) l.tail
theorem mxl_le (k:Int) (l:List Int) (h:l≠ []):mxl l≤k↔ ∀x∈l,x≤k:=by
 cases l with
 | nil => exact absurd rfl h
 | cons x r => simp [mxl, mxL_le]
def mxK (c:Nat→List Int):Nat→Int
 | 0 => 0
 | j + 1 => if mxK c j < mxl (c j) then mxl (c j) else mxK c j
theorem mxK_ge (c:Nat→List Int): ∀j,0≤mxK c j
 | 0 => Int.le_refl 0
 | j + 1 => by
  have:=mxK_ge c j
  rw[mxK]
  split<;>omega
theorem mxK_le (c:Nat→List Int) (k:Int) (hk:0≤k): ∀j,(∀i,i<j→c i≠ [])→(mxK c j≤k↔ ∀i,i<j→ ∀x∈c i,x≤k)
 | 0, _ => by simp [mxK, hk]
 | j + 1, hne => by
  have ih:=mxK_le c k hk j (fun i hi=>hne i (by omega))
  have h1:=mxl_le k (c j) (hne j (by omega))
  rw[mxK]
  constructor
  ·intro h i hi
   split at h
   ·rcases Nat.lt_succ_iff_lt_or_eq.mp hi with h2|h2
    ·exact ih.mp (by omega) i h2
    ·subst h2;exact h1.mp h
   ·rcases Nat.lt_succ_iff_lt_or_eq.mp hi with h2|h2
    ·exact ih.mp h i h2
    ·subst h2;exact h1.mp (by omega)
  ·intro h
   have h2:=h1.mpr (h j (by omega))
   have h3:=ih.mpr (fun i hi=>h i (by omega))
   split<;>assumption
def manyN (K:Nat) (c:Nat→List Int):Nat:=(mxK c K).toNat+1
theorem CL.ne {K n:Nat} {c:Nat→List Int} (C:CL K n c) (hn:1≤n) (i:Nat) (hi:i<K):c i≠ []:=by
 have:=C.len i hi
 intro e
 rw[e]at this
 simp at this
 omega
theorem CL.lt {K n:Nat} {c:Nat→List Int} (C:CL K n c) (hn:1≤n) (i:Nat) (hi:i<K) (x:Int) (hx:x∈c i):0≤x∧x<manyN K c:=by
 have h1:=(mxK_le c (mxK c K) (mxK_ge c K) K (fun i hi=>C.ne hn i hi)).mp (Int.le_refl _) i hi x hx
 have h2:=(C.ge i hi x hx).1
 have h3:=mxK_ge c K
 unfold manyN
 omega
theorem CL.many5 {K n:Nat} {c:Nat→List Int} (C:CL K n c) (hn:1≤n):manyN K c≤500:=by
 have h1:=(mxK_le c 499 (by omega) K (fun i hi=>C.ne hn i hi)).mpr (fun i hi x hx=>by have:=(C.ge i hi x hx).2;omega)
 unfold manyN
 omega
theorem CL.many {K n:Nat} {c:Nat→List Int} (C:CL K n c) (hn:1≤n):manyN K c≤1000:=by
 have h1:=(mxK_le c 999 (by omega) K (fun i hi=>C.ne hn i hi)).mpr (fun i hi x hx=>by have:=(C.ge i hi x hx).2;omega)
 unfold manyN
 omega
section
variable {nro K n a bg bc:Nat} {q:Nat→Nat} {rs:Nat→Value} {rows:Nat→List Int} {gcs:List Value} {Hc:(Nat→List Int)→VH} (E:RG nro K n a bg bc q rs rows gcs Hc)
include E
theorem c_zz55 (c:Nat→List Int) (C:CL K n c) (L:VH):vcall F nro k_zz55 [.pointer (some ⟨a,0,some 2⟩)] (Hc c++L)=some (.int .i64 (manyN K c),Hc c++L):=by
 have hax:=E.lax c
 have hbc:=E.lbc c
 have q1:=E.lt c (E.ax c) L
 have q2:=E.lt c (E.ac c) L
 have hK:=E.K2
 have hn1:=E.n1
 have lq:=fun i (hi:i<K)=>E.lq c hi
 have q3:=fun i (hi:i<K)=>E.lt c (E.aq c i hi) L
 have hcc:=E.ccell
 have hmb:=mxK_le c 999 (by omega)
 obtain⟨H,hH⟩: ∃H,H=Hc c++L:=⟨_,rfl⟩
 have hl:(Hc c).length≤H.length:=by rw[hH];simp
 rw[←hH]at q1 q2 q3⊢
 refine v_zz55 (by simp[i_zz55]) ?_
 rw[fbody_eq]
 have key:=for_up (call:=vcall F nro) (nro:=nro) (live:= [3,9,10,11]) (c:=i_zz55_B1) (h0:=H) (n:=K) (fun i (_:Unit)=> [.int .i64 (mxK c i),.slice (some ⟨bc,0,none⟩) K K,.int .i64 K,.int .i64 i]) (fun _ _=>H) (fun _ u=>u) (fun _ _=>True)
  (fun _=>some (.exit 0,fl [(3,.int .i64 (mxK c K))],H)) (fun i _ hi hi2 _=>⟨trivial,?_⟩) (fun _ _=> ?_) 0 () (by omega) trivial
 ·obtain⟨key,_⟩:=key
  have hge:=mxK_ge c K
  have hle:=(hmb K (fun i hi=>C.ne hn1 i hi)).mpr (fun i hi x hx=>by have:=(C.ge i hi x hx).2;omega)
  have w1:IntKind.i64.wrap (mxK c K+1)=manyN K c:=by
   rw[wrap64 (by omega) (by omega)]
   unfold manyN
   omega
  have k1:mxK c 0=0:=rfl
  simp only[k1,Int.natCast_zero]at key
  clear hH q3 hcc
  simp (disch:=first|assumption|omega|(simp[*]<;>omega)|fail) [-getElem?_pos,gz_,gs_,i_zz55,q1,q2,key,w1,fresults,fresL,fres1]
 ·rw[floop_at i_zz55_B1.eq_1]
  have hcl:=C.len i hi
  have hm:vcall F nro k_zz38 [.slice (some ⟨q i,0,none⟩) n n] H=some (.int .i64 (mxl (c i)),H):=by
   have s1:Sli H (.slice (some ⟨q i,0,none⟩) n n) (c i):=by
    have:=sli_at (q3 i hi)
    rwa [hcl]at this
   obtain⟨x,r,hxr⟩: ∃x r,c i=x::r:=by
    cases hc:c i with
    | nil => exact absurd hc (C.ne hn1 i hi)
    | cons x r => exact ⟨x, r, rfl⟩
   rw[hxr]at s1⊢
   refine c_slices_Max _ x r H s1 ?_
   have hnl:=(E.rok i hi).le
   rw[hxr]at hcl
   simp at hcl
   omega
  have k2:mxK c (i+1)=if mxK c i<mxl (c i)then mxl (c i)else mxK c i:=rfl
  have k3:=hcc i hi
  obtain⟨m,hm2⟩: ∃m,m=mxK c i:=⟨_,rfl⟩
  obtain⟨m',hm3⟩: ∃m',m' =mxl (c i):=⟨_,rfl⟩
  rw[k2,←hm2,←hm3]
  rw[←hm3]at hm
  clear k2 hm2 hm3 q3 hH hcc hmb
  have w1:IntKind.i64.wrap ((i:Int)+1)=(i:Int)+1:=wrap64 (by omega) (by omega)
  by_cases c1:m<m'
  ·rw[if_pos c1]
   simp (disch:=first|assumption|omega|(simp[*]<;>omega)|fail) [-getElem?_pos,gz_,gs_,q1,q2,hi,hi2,hm,k3,w1,c1,vminmax,vminmaxL,vminmax2]
  ·rw[if_neg c1]
   simp (disch:=first|assumption|omega|(simp[*]<;>omega)|fail) [-getElem?_pos,gz_,gs_,q1,q2,hi,hi2,hm,k3,w1,c1,vminmax,vminmaxL,vminmax2]
 ·rw[floop_at i_zz55_B1.eq_1]
  simp (disch:=first|assumption|omega|(simp[*]<;>omega)|fail) [-getElem?_pos,gz_,gs_,q2]
end
end

/- Refining: the sets of the colours, the numbers of a vertex. -/
section
open Go
variable {nro:Nat}
noncomputable def stF (cl:List Int) (m n:Nat):List Int:=upF (fun v st=>set1 st (cl.getD v 0) v) n 0 (List.replicate m 0)
theorem l_refine_B1 (P:VH) (s:Value) (cl:List Int) (n m:Nat) (hs:Sli P s cl) (hcl:cl.length=n) (hn62:n≤62) (hc: ∀x∈cl,0≤x∧x<m) (hm:m≤1000) (hn:nro≤P.length)
  (v0 v2 v3 v4 v5 v23 v24 v25:Value) (o0:Old (P.length+1) v0) (o2:Old (P.length+1) v2) (o3:Old (P.length+1) v3) (o4:Old (P.length+1) v4) (o5:Old (P.length+1) v5) (o23:Old (P.length+1) v23) (o24:Old (P.length+1) v24) (o25:Old (P.length+1) v25):
  floop (vcall F nro) nro [0,2,3,4,5,6,23,24,25,38,39,40] i_zz45_B1 (P++ [⟨1,ints (List.replicate m 0)⟩])
   [v0,v2,v3,v4,v5,.slice (some ⟨P.length,0,none⟩) m m,v23,v24,v25,s,.int .i64 n,.int .i64 0] (P++ [⟨1,ints (List.replicate m 0)⟩])=
   some (.exit 4,fl [(0,v0),(2,v2),(3,v3),(4,v4),(5,v5),(6,.slice (some ⟨P.length,0,none⟩) m m),(23,v23),(24,v24),(25,v25)],P++ [⟨1,ints (stF cl m n)⟩])∧(stF cl m n).length=m:=by
 have hso:=hs.old
 obtain⟨z0,hz0⟩: ∃z,z=List.replicate m (0:Int):=⟨_,rfl⟩
 have hz:z0.length=m:=by rw[hz0];simp
 unfold stF
 rw[←hz0]
 clear hz0
 have key:=for_up (call:=vcall F nro) (nro:=nro) (live:= [0,2,3,4,5,6,23,24,25,38,39,40]) (c:=i_zz45_B1) (h0:=P++ [⟨1,ints z0⟩]) (n:=n)
  (fun i (_:List Int)=> [v0,v2,v3,v4,v5,.slice (some ⟨P.length,0,none⟩) m m,v23,v24,v25,s,.int .i64 n,.int .i64 i]) (fun _ st=>P++ [⟨1,ints st⟩]) (fun v st=>set1 st (cl.getD v 0) v) (fun _ st=>st.length=m)
  (fun st=>some (.exit 4,fl [(0,v0),(2,v2),(3,v3),(4,v4),(5,v5),(6,.slice (some ⟨P.length,0,none⟩) m m),(23,v23),(24,v24),(25,v25)],P++ [⟨1,ints st⟩])) (fun i st hi hi2 I=>⟨by simpa using I,?_⟩) (fun st I=> ?_) 0 z0 (by omega) hz
 ·exact key
 ·rw[floop_at i_zz45_B1.eq_1]
  have hi3:i<cl.length:=by omega
  have hg:cl.getD i 0=cl[i]:=by simp[List.getD_eq_getElem?_getD,hi3]
  obtain⟨x,hx⟩: ∃x:Nat,cl[i]=x:=by
   have:=hc cl[i] (List.getElem_mem _)
   exact⟨(cl[i]).toNat,by omega⟩
  have hxm:x<m:=by
   have:=hc cl[i] (List.getElem_mem _)
   omega
  have hxs:x<st.length:=by omega
  have vx:=(hs.app [⟨1,ints st⟩]).vidx (k:= .i64) (j:=(i:Int)) (by omega) (by omega)
  have vd:=(hs.app [⟨1,ints st⟩]).vload hi3
  rw[hx]at vd hg
  have hss:set1 st (x:Int) i=st.set x (ior .i64 st[x] (ishl .i64 1 i)):=by
   simp[set1,List.getD_eq_getElem?_getD,hxs]
  rw[hg,hss]
  have w1:IntKind.i64.wrap ((i:Int)+1)=(i:Int)+1:=wrap64 (by omega) (by omega)
  have hxm' :(x:Int)<m:=by omega
  clear hc hs hg hss hx hcl hi3
  subst I
  have t1:=take1_ints hxs
  have t2:=fun y=>splice_ints (v:=y) hxs
  obtain⟨y,hy⟩: ∃y,y=ior .i64 st[x] (ishl .i64 1 i):=⟨_,rfl⟩
  rw[←hy]
  have hcl: ∀vs,(∀v∈vs,Old (P.length+1) v)→kclean (P++ [⟨1,ints z0⟩]) vs (P++ [⟨1,ints (st.set x y)⟩])=(vs,P++ [⟨1,ints (st.set x y)⟩]):=fun vs hv=>by
   have:=cleanup_app (h0:=P) (L0:= [⟨1,ints z0⟩]) (L:= [⟨1,ints (st.set x y)⟩]) (vs:=vs) (by simpa using hv) (by simp)
   simpa using this
  have hso' :Old (P.length+1) s:=by
   intro r hr
   have:=hso r hr
   omega
  simp (disch:=first|assumption|omega|(simp[*]<;>omega)|fail) [vx,vd,w1,hi,hi2,hxm',t1,t2,hn,hxs,←hy,hcl]
 ·rw[floop_at i_zz45_B1.eq_1]
  have vl:=(hs.app [⟨1,ints st⟩]).vlen
  simp (disch:=first|assumption|omega|(simp[*]<;>omega)|fail) [vl]
noncomputable def nbN (row s:Int):Int:=(pc (iand .i64 row s).toNat:Int)
theorem l_refine_B2 (P:VH) (p:Nat) (n:Nat) (r tS:Value) (rows st:List Int) (v:Nat) (x:Int) (hp:P[p]? =some ⟨0,[.int .i64 n,r]⟩) (hr:Sli P r rows) (hS:Sli P tS st) (hv:v<rows.length) (hrow:0≤rows[v]∧rows[v]<4611686018427387904) (hst: ∀y∈st,0≤y∧y<4611686018427387904) (hst2:st.length≤1000) (hn:nro≤P.length)
  (v0 v2 v3 v4 v23 v24 v25 v60 v61 v62:Value) (o0:Old (P.length+1) v0) (o2:Old (P.length+1) v2) (o3:Old (P.length+1) v3) (o4:Old (P.length+1) v4) (o23:Old (P.length+1) v23) (o24:Old (P.length+1) v24) (o25:Old (P.length+1) v25) (o60:Old (P.length+1) v60) (o61:Old (P.length+1) v61) (o62:Old (P.length+1) v62):
  floop (vcall F nro) nro [0,2,3,4,5,6,9,11,23,24,25,60,61,62,69,70,71] i_zz45_B2 (P++ [⟨1,ints [x]⟩])
   [v0,v2,v3,v4,.pointer (some ⟨p,0,some 2⟩),tS,.int .i64 v,.slice (some ⟨P.length,0,none⟩) 1 1,v23,v24,v25,v60,v61,v62,tS,.int .i64 st.length,.int .i64 0] (P++ [⟨1,ints [x]⟩])=
   some (.exit 8,fl [(0,v0),(2,v2),(3,v3),(4,v4),(5,.pointer (some ⟨p,0,some 2⟩)),(6,tS),(9,.int .i64 v),(11,.slice (some ⟨P.length,0,none⟩) (st.length+1) (st.length+1)),(23,v23),(24,v24),(25,v25),(60,v60),(61,v61),(62,v62)],P++ [⟨1,ints (x::st.map (nbN rows[v]))⟩]):=by
 have hso:=hS.old
 have hpl:=(List.getElem?_eq_some_iff.mp hp).1
 obtain⟨row,hro⟩: ∃row,row=rows[v]:=⟨_,rfl⟩
 have vdr:=hr.vload hv
 rw[←hro]at hrow vdr⊢
 have key:=for_up (call:=vcall F nro) (nro:=nro) (live:= [0,2,3,4,5,6,9,11,23,24,25,60,61,62,69,70,71]) (c:=i_zz45_B2) (h0:=P++ [⟨1,ints [x]⟩]) (n:=st.length)
  (fun i (_:Unit)=> [v0,v2,v3,v4,.pointer (some ⟨p,0,some 2⟩),tS,.int .i64 v,.slice (some ⟨P.length,0,none⟩) (i+1) (i+1),v23,v24,v25,v60,v61,v62,tS,.int .i64 st.length,.int .i64 i]) (fun i _=>P++ [⟨1,ints (x::(st.take i).map (nbN row))⟩]) (fun _ u=>u) (fun _ _=>True)
  (fun _=>some (.exit 8,fl [(0,v0),(2,v2),(3,v3),(4,v4),(5,.pointer (some ⟨p,0,some 2⟩)),(6,tS),(9,.int .i64 v),(11,.slice (some ⟨P.length,0,none⟩) (st.length+1) (st.length+1)),(23,v23),(24,v24),(25,v25),(60,v60),(61,v61),(62,v62)],P++ [⟨1,ints (x::st.map (nbN row))⟩])) (fun i _ hi hi2 _=>⟨trivial,?_⟩) (fun _ _=> ?_) 0 () (by omega) trivial
 ·simpa using key.1
 ·rw[floop_at i_zz45_B2.eq_1]
  obtain⟨ys,hys⟩: ∃ys,ys=x::(st.take i).map (nbN row):=⟨_,rfl⟩
  have hyl:ys.length=i+1:=by rw[hys];simp;omega
  have hyn:x::(st.take (i+1)).map (nbN row)=ys++ [nbN row st[i]]:=by
   rw[hys,List.take_add_one,List.getElem?_eq_getElem hi,List.map_append]
   rfl
  have hsi:=hst st[i] (List.getElem_mem _)
  rw[hyn,←hys]
  obtain⟨si,hs⟩: ∃si,si=st[i]:=⟨_,rfl⟩
  have vx:=(hS.app [⟨1,ints ys⟩]).vidx (k:= .i64) (j:=(i:Int)) (by omega) (by omega)
  have vd:=(hS.app [⟨1,ints ys⟩]).vload hi
  rw[←hs]at hsi vd⊢
  have vxr:=(hr.app [⟨1,ints ys⟩]).vidx (k:= .i64) (j:=(v:Int)) (by omega) (by omega)
  have vdr:=(hr.app [⟨1,ints ys⟩]).vload hv
  rw[←hro]at vdr
  have hc:vcall F nro k_zz106 [.int .i64 (iand .i64 row si)] (P++ [⟨1,ints ys⟩])=some (.int .i64 (nbN row si),P++ [⟨1,ints ys⟩]):=by
   obtain⟨a,rfl⟩: ∃a:Nat,row=a:=⟨row.toNat,by omega⟩
   obtain⟨b,rfl⟩: ∃b:Nat,si=b:=⟨si.toNat,by omega⟩
   have e:=iand_nat (a:=a) (b:=b) (by omega) (by omega)
   have:a &&& b≤a:=Nat.and_le_left
   refine c_zz106 _ _ ?_ ?_<;>rw[e]<;>omega
  have w1:IntKind.i64.wrap ((i:Int)+1)=(i:Int)+1:=wrap64 (by omega) (by omega)
  obtain⟨d,hd⟩: ∃d,d=nbN row si:=⟨_,rfl⟩
  rw[←hd]at hc⊢
  have q1:(P++ [⟨1,ints ys⟩])[p]? =some ⟨0,[.int .i64 n,r]⟩:=by rw[List.getElem?_append_left hpl];exact hp
  have hcl: ∀vs,(∀v∈vs,Old (P.length+1) v)→kclean (P++ [⟨1,ints [x]⟩]) vs (P++ [⟨1,ints (ys++ [d])⟩,⟨1,[.int .i64 d]⟩])=(vs,P++ [⟨1,ints (ys++ [d])⟩]):=fun vs hv=>by
   have:=cleanup_app (h0:=P) (L0:= [⟨1,ints [x]⟩]) (L:= [⟨1,ints (ys++ [d])⟩,⟨1,[.int .i64 d]⟩]) (vs:=vs) (by simpa using hv) (by simp)
   simpa using this
  have hpc:=(List.getElem?_eq_some_iff.mp hp).2
  simp only[ints_cons,ints_nil]at hcl
  have hso' :Old (P.length+1) tS:=by
   intro r hr
   have:=hso r hr
   omega
  clear hst hS hr hs hro hys hyn hd
  have b1:(ys.length+1) * 8≤1099511627776:=by omega
  have b2:ys.length<1099511627776:=by omega
  have hpl1:p<P.length+1:=by omega
  rw[←hyl]
  have w1:IntKind.i64.wrap ((i:Int)+1)=(ys.length:Int):=by rw[w1];omega
  simp (disch:=first|assumption|omega|(simp[*]<;>omega)|fail) [vx,vd,w1,hi,hi2,vxr,vdr,hc,q1,hn,b1,b2,hcl,ints_snoc,hpl,hpl1,hpc]
 ·rw[floop_at i_zz45_B2.eq_1]
  have vl:=(hS.app [⟨1,ints (x::(st.take st.length).map (nbN row))⟩]).vlen
  simp only[List.take_length]at vl⊢
  simp (disch:=first|assumption|omega|(simp[*]<;>omega)|fail) [vl]
end

/- Refining: what is told of a graph's vertices. -/
section
open Go
variable {nro:Nat}
abbrev TD:=Int × Int × List Int
structure ET (n:Nat) (cs:List Value) (G:VH) (es:List TD):Prop where
 len:cs.length=es.length * 3
 at_: ∀(i:Nat) (hi:i<es.length),∃k,(cs.drop (i * 3)).take 3= [.int .i64 es[i].1,.int .i64 es[i].2.1,.slice (some ⟨n+k,0,none⟩) es[i].2.2.length es[i].2.2.length]∧G[k]? =some ⟨1,ints es[i].2.2⟩
theorem ET.nil (n:Nat) (G:VH):ET n [] G []:=⟨rfl,fun i hi=>by simp at hi⟩
theorem ET.more {n:Nat} {cs:List Value} {G:VH} {es:List TD} (e:ET n cs G es) (L:VH):ET n cs (G++L) es:=by
 refine⟨e.len,fun i hi=> ?_⟩
 obtain⟨k,h1,h2⟩:=e.at_ i hi
 exact⟨k,h1,by rw[List.getElem?_append_left (List.getElem?_eq_some_iff.mp h2).1];exact h2⟩
theorem ET.push {n:Nat} {cs:List Value} {G:VH} {es:List TD} (e:ET n cs G es) (t:TD) (L:VH):ET n (cs++ [.int .i64 t.1,.int .i64 t.2.1,.slice (some ⟨n+G.length,0,none⟩) t.2.2.length t.2.2.length]) (G++⟨1,ints t.2.2⟩::L) (es++ [t]):=by
 have hl:=e.len
 have e2:=e.more (⟨1,ints t.2.2⟩::L)
 refine⟨by simp[hl];omega,fun i hi=> ?_⟩
 by_cases h:i<es.length
 ·obtain⟨k',h1,h2⟩:=e2.at_ i h
  rw[List.getElem_append_left h]
  refine⟨k',?_,h2⟩
  rw[←h1,List.drop_append_of_le_length (by omega),List.take_append_of_le_length (by simp;omega)]
 ·have hi2:i=es.length:=by simp at hi;omega
  subst hi2
  rw[List.getElem_append_right (by omega)]
  simp only[Nat.sub_self,List.getElem_cons_zero]
  refine⟨G.length,?_,by simp⟩
  rw[List.drop_append,List.drop_eq_nil_of_le (by omega),hl,Nat.sub_self]
  rfl
theorem ET.cell {n:Nat} {cs:List Value} {G:VH} {es:List TD} (e:ET n cs G es) (i:Nat) (hi:i<es.length): ∃k,n+k∈orefs ⟨3,cs⟩∧(cs.drop (i * 3)).take 3= [.int .i64 es[i].1,.int .i64 es[i].2.1,.slice (some ⟨n+k,0,none⟩) es[i].2.2.length es[i].2.2.length]∧G[k]? =some ⟨1,ints es[i].2.2⟩:=by
 obtain⟨k,h1,h2⟩:=e.at_ i hi
 refine⟨k,?_,h1,h2⟩
 unfold orefs
 refine List.mem_flatMap.mpr ⟨.slice (some ⟨n+k,0,none⟩) es[i].2.2.length es[i].2.2.length,?_,by simp[crefs,arefs]⟩
 have:Value.slice (some ⟨n+k,0,none⟩) es[i].2.2.length es[i].2.2.length∈(cs.drop (i * 3)).take 3:=by rw[h1];simp
 exact List.mem_of_mem_drop (List.mem_of_mem_take this)
theorem ET.cleanP {P0 P:VH} {cs0 cs vals:List Value} {G0 G:VH} {es0 es:List TD} (e0:ET (P.length+1) cs0 G0 es0) (e:ET (P.length+1) cs G es) (hP:P0.length=P.length) (hG:G0.length≤G.length) (hv: ∀v∈vals,Old (P.length+1+G0.length) v):
  ∃G1,kclean (P0++⟨3,cs0⟩::G0) vals (P++⟨3,cs⟩::G)=(vals,P++⟨3,cs⟩::G1)∧ET (P.length+1) cs G1 es∧G0.length≤G1.length∧ ∀k,k<G0.length→G1[k]? =G[k]? :=by
 have hlen:(P0++(⟨3,cs0⟩:VO)::G0).length=P.length+1+G0.length:=by simp;omega
 rcases cleanup_old (h0:=P0++⟨3,cs0⟩::G0) (h:=P++⟨3,cs⟩::G) (vs:=vals) (by rw[hlen];exact hv)with hk|⟨hok,hk⟩
 ·exact⟨G,hk,e,hG,fun _ _=>rfl⟩
 ·have e1:(P++(⟨3,cs⟩:VO)::G).take (P0++(⟨3,cs0⟩:VO)::G0).length=P++⟨3,cs⟩::G.take G0.length:=by
   rw[hlen,List.take_append,List.take_of_length_le (by omega)]
   rw[show P.length+1+G0.length - P.length=G0.length+1 by omega]
   rfl
  rw[e1]at hk hok
  refine⟨G.take G0.length,hk,⟨e.len,fun i hi=> ?_⟩,by simp;omega,fun k hk2=>by rw[List.getElem?_take,if_pos hk2]⟩
  obtain⟨k,hmem,h1,h2⟩:=e.cell i hi
  have hk:k<G0.length:=by
   have h3:=hok P.length ⟨3,cs⟩ (by rw[hget0];rfl)
   rcases h3 with h3|h3
   ·rw[←hP,hget0]at h3
    simp at h3
    subst h3
    have hl0:=e0.len
    have hl1:=e.len
    obtain⟨k',_,h4,h5⟩:=e0.cell i (by omega)
    rw[h1]at h4
    simp at h4
    have:k=k' :=h4.2.2.1
    subst this
    exact(List.getElem?_eq_some_iff.mp h5).1
   ·have:=h3 _ hmem
    rw[hlen]at this
    omega
  exact⟨k,h1,by rw[List.getElem?_take,if_pos hk];exact h2⟩
theorem ET.max {n:Nat} {cs:List Value} {G G1:VH} {es:List TD} (e:ET n cs G es) (h: ∀k,k<G.length→G1[k]? =G[k]?):ET n cs G1 es:=by
 refine⟨e.len,fun i hi=> ?_⟩
 obtain⟨k,h1,h2⟩:=e.at_ i hi
 exact⟨k,h1,by rw[h k (List.getElem?_eq_some_iff.mp h2).1];exact h2⟩
noncomputable def tdF (gi:Int) (rows cl st:List Int) (n v:Nat):List TD:=if v<n then(gi,(v:Int),cl.getD v 0::st.map (nbN (rows.getD v 0)))::tdF gi rows cl st n (v+1)else []
 termination_by n - v
theorem tdF_step {gi:Int} {rows cl st:List Int} {n v:Nat} (h:v<n):tdF gi rows cl st n v=(gi,(v:Int),cl.getD v 0::st.map (nbN (rows.getD v 0)))::tdF gi rows cl st n (v+1):=by rw[tdF,if_pos h]
theorem tdF_end {gi:Int} {rows cl st:List Int} {n v:Nat} (h: ¬v<n):tdF gi rows cl st n v= []:=by rw[tdF,if_neg h]
theorem tdF_len (gi:Int) (rows cl st:List Int) (n v:Nat):(tdF gi rows cl st n v).length=n - v:=by
  by_cases h:v<n
  · rw[tdF_step h,List.length_cons,tdF_len gi rows cl st n (v+1)];omega
  · rw[tdF_end h];simp;omega
 termination_by n - v
end

/- Refining: the numbers of all vertices of a graph. -/
section
open Go
variable {nro:Nat}
theorem l_refine_B3 (P:VH) (hn:nro≤P.length) (n kg ks gi:Nat) (r s:Value) (rows cl st:List Int) (hr:Sli P r rows) (hs:Sli P s cl) (R:Rok n rows) (hcl:cl.length=n)
  (hst: ∀y∈st,0≤y∧y<4611686018427387904) (hst2:st.length≤1000) (v0 v2 v23 v24 v25:Value) (o0:Old P.length v0) (o2:Old P.length v2) (o23:Old P.length v23) (o24:Old P.length v24) (o25:Old P.length v25)
  (cs0:List Value) (G0:VH) (es0:List TD) (e0:ET (P.length+1) cs0 G0 es0) (kg0:kg<G0.length) (ks0:ks<G0.length) (k:Nat): ∀(v:Nat) (cs:List Value) (G:VH) (es:List TD),k=n - v→v≤n→ET (P.length+1) cs G es→G0.length≤G.length→G[kg]? =some ⟨0,[.int .i64 n,r]⟩→G[ks]? =some ⟨1,ints st⟩→es.length+(n - v)≤1000→
  ∃cs' G',floop (vcall F nro) nro [0,2,3,4,5,6,23,24,25,60,61,62] i_zz45_B3 (P++⟨3,cs0⟩::G0)
   [v0,v2,.slice (some ⟨P.length,0,none⟩) es.length cs.length,.int .i64 gi,.pointer (some ⟨P.length+1+kg,0,some 2⟩),.slice (some ⟨P.length+1+ks,0,none⟩) st.length st.length,v23,v24,v25,s,.int .i64 n,.int .i64 v] (P++⟨3,cs⟩::G)=
   some (.exit 6,fl [(0,v0),(2,v2),(3,.slice (some ⟨P.length,0,none⟩) (es++tdF gi rows cl st n v).length cs'.length),(23,v23),(24,v24),(25,v25)],P++⟨3,cs'⟩::G')∧ET (P.length+1) cs' G' (es++tdF gi rows cl st n v)∧G0.length≤G'.length:=by
 induction k with
 | zero =>
  intro v cs G es hk hv e hG hg hks hle
  have h1: ¬v<n:=by omega
  have h2: ¬(v:Int)<n:=by omega
  rw[tdF_end h1,List.append_nil]
  refine⟨cs,G,?_,e,hG⟩
  rw[floop_at i_zz45_B3.eq_1]
  have vl:=(hs.app (⟨3,cs⟩::G)).vlen
  simp (disch:=first|assumption|omega|(simp[*]<;>omega)|fail) [vl,h2]
 | succ k ih =>
  intro v cs G es hk hv e hG hg hks hle
  have hlt:v<n:=by omega
  have hlt' :(v:Int)<n:=by omega
  have hRl:=R.len
  have hRle:=R.le
  have hcv:v<cl.length:=by omega
  have hrv:v<rows.length:=by omega
  have hrow:=R.row v hlt
  have g1:rows.getD v 0=rows[v]:=by simp[List.getD_eq_getElem?_getD,hrv]
  have g2:cl.getD v 0=cl[v]:=by simp[List.getD_eq_getElem?_getD,hcv]
  obtain⟨nums,hnums⟩: ∃nums,nums=cl.getD v 0::st.map (nbN (rows.getD v 0)):=⟨_,rfl⟩
  have hnl:nums.length=st.length+1:=by rw[hnums];simp
  obtain⟨H,hH⟩: ∃H,H=P++⟨3,cs⟩::G:=⟨_,rfl⟩
  have hHl:H.length=P.length+1+G.length:=by rw[hH];simp;omega
  have hPH:P.length<H.length:=by omega
  have q1:H[P.length]? =some ⟨3,cs⟩:=by rw[hH,hget0];rfl
  have q2:H[P.length+1+kg]? =some ⟨0,[.int .i64 n,r]⟩:=by rw[hH,Nat.add_assoc,hgetk,Nat.add_comm 1 kg,List.getElem?_cons_succ];exact hg
  have q3:H[P.length+1+ks]? =some ⟨1,ints st⟩:=by rw[hH,Nat.add_assoc,hgetk,Nat.add_comm 1 ks,List.getElem?_cons_succ];exact hks
  have hsH:Sli H s cl:=by rw[hH];exact hs.app _
  have hrH:Sli H r rows:=by rw[hH];exact hr.app _
  have old: ∀ {v:Value},Old P.length v→Old (H.length+1) v:=fun ho r hr=>by
   have:=ho r hr
   omega
  have b2:=l_refine_B2 (nro:=nro) H (P.length+1+kg) n r (.slice (some ⟨P.length+1+ks,0,none⟩) st.length st.length) rows st v cl[v] q2 hrH (sli_at q3) hrv (by
    have hp:2 ^ n≤2 ^ 62:=Nat.pow_le_pow_right (by omega) hRle
    rw[←g1];omega) hst hst2 (by omega) v0 v2 (.slice (some ⟨P.length,0,none⟩) es.length cs.length) (.int .i64 gi) v23 v24 v25 s (.int .i64 n) (.int .i64 v) (old o0) (old o2) (by intro r hr;simp[trefs,vrefs,crefs,arefs]at hr;omega) (by simp) (old o23) (old o24) (old o25) (old hs.old) (by simp) (by simp)
  rw[←g1,←g2,←hnums]at b2
  obtain⟨t,ht⟩: ∃t:TD,t=((gi:Int),(v:Int),nums):=⟨_,rfl⟩
  have e' :=e.push t [⟨3,[.int .i64 gi,.int .i64 v,.slice (some ⟨H.length,0,none⟩) nums.length nums.length]⟩]
  rw[ht]at e'
  simp only[←hHl]at e'
  obtain⟨G1,k1,k2,k3,k4⟩:=ET.cleanP (P0:=P) (vals:= [v0,v2,.slice (some ⟨P.length,0,none⟩) (es.length+1) (cs.length+3),.int .i64 gi,.pointer (some ⟨P.length+1+kg,0,some 2⟩),.slice (some ⟨P.length+1+ks,0,none⟩) st.length st.length,v23,v24,v25,s,.int .i64 n,.int .i64 ((v:Int)+1)]) e0 e' rfl (by simp;omega) (by
   have oL: ∀ {v:Value},Old P.length v→Old (P.length+1+G0.length) v:=fun ho r hr=>by
    have:=ho r hr
    omega
   intro w hw
   simp only[List.mem_cons,List.not_mem_nil,or_false]at hw
   rcases hw with rfl|rfl|rfl|rfl|rfl|rfl|rfl|rfl|rfl|rfl|rfl|rfl
   ·exact oL o0
   ·exact oL o2
   ·intro r hr;simp[trefs,vrefs,crefs,arefs]at hr;omega
   ·simp
   ·intro r hr;simp[trefs,vrefs,crefs,arefs]at hr;omega
   ·intro r hr;simp[trefs,vrefs,crefs,arefs]at hr;omega
   ·exact oL o23
   ·exact oL o24
   ·exact oL o25
   ·exact oL hs.old
   ·simp
   ·simp)
  have hkg:kg<G.length:=by omega
  have hks' :ks<G.length:=by omega
  obtain⟨cs',G',j1,j2,j3⟩:=ih (v+1) _ G1 _ (by omega) (by omega) k2 k3 (by rw[k4 kg kg0,List.getElem?_append_left hkg];exact hg) (by rw[k4 ks ks0,List.getElem?_append_left hks'];exact hks) (by simp;omega)
  refine⟨cs',G',?_,by rw[tdF_step hlt,←hnums];simpa using j2,j3⟩
  rw[tdF_step hlt,←hnums]
  simp only[List.append_assoc,List.singleton_append]at j1
  obtain⟨LT,hLT⟩: ∃q,q=(es++((gi:Int),(v:Int),nums)::tdF gi rows cl st n (v+1)).length:=⟨_,rfl⟩
  rw[←hLT]at j1⊢
  have hset:(H++([⟨1,ints nums⟩,⟨3,[.int .i64 gi,.int .i64 v,.slice (some ⟨H.length,0,none⟩) nums.length nums.length]⟩]:VH)).set P.length ⟨3,cs++ [.int .i64 gi,.int .i64 v,.slice (some ⟨H.length,0,none⟩) nums.length nums.length]⟩=
    P++⟨3,cs++ [.int .i64 gi,.int .i64 v,.slice (some ⟨H.length,0,none⟩) nums.length nums.length]⟩::(G++ [⟨1,ints nums⟩,⟨3,[.int .i64 gi,.int .i64 v,.slice (some ⟨H.length,0,none⟩) nums.length nums.length]⟩]):=by
   rw[hH]
   simp
  have vx:=hsH.vidx (k:= .i64) (j:=(v:Int)) (by omega) (by omega)
  have vd:=hsH.vload hcv
  rw[←g2]at vd
  obtain⟨c0,hc0⟩: ∃c0,c0=cl.getD v 0:=⟨_,rfl⟩
  rw[←hc0]at vd b2
  have vlS:=((sli_at q3).app [⟨1,[.int .i64 c0]⟩]).vlen
  have w1:IntKind.i64.wrap ((v:Int)+1)=(v:Int)+1:=wrap64 (by omega) (by omega)
  have hlen:cs.length=es.length * 3:=e.len
  have q4:(H++([⟨1,ints nums⟩,⟨3,[.int .i64 gi,.int .i64 v,.slice (some ⟨H.length,0,none⟩) nums.length nums.length]⟩]:VH))[P.length]? =some ⟨3,cs⟩:=by rw[List.getElem?_append_left hPH];exact q1
  have b3:(es.length+1) * 40≤1099511627776:=by omega
  have b4:es.length+1≤1099511627776:=by omega
  simp only[ints_cons,ints_nil,←hnl]at b2
  simp only[List.length_append,List.length_cons,List.length_nil,Nat.zero_add]at j1
  clear ih e' k2 k3 k4 e e0 hg hks j2 j3 hs hr hst hnums hsH hrH q1 q2 q3 ht hLT g1 g2 hc0 hrow hRl
  rw[←hH]
  rw[floop_at i_zz45_B3.eq_1]
  simp (disch:=first|assumption|omega|(simp[*]<;>omega)|fail) [-getElem?_pos,gz_,gs_,hlt',vx,vd,vlS,b2,q4,hn,hset,k1,w1,j1,b3,b4]
  refine⟨hlen.symm,?_⟩
  simpa using j1
end

/- Refining: the numbers of all vertices of all graphs. -/
section
open Go
theorem Sl.nj {h:VH} {v:Value} {cs:List Value} (hs:Sl h v cs):isJunk v=false:=by
 rcases hs.inv with⟨rfl,_⟩|⟨rfl,_⟩|⟨a,n,tot,o,rfl,_⟩<;>rfl
theorem stF_ok (cl:List Int) (m n:Nat) (hn:n≤62) (hcl: ∀x∈cl,0≤x∧x<m): ∀y∈stF cl m n,0≤y∧y<4611686018427387904:=by
 refine upF_inv (I:=fun _ st=> ∀y∈st,0≤y∧y<4611686018427387904) (n:=n) (fun v st hv I=> ?_) 0 _ (by omega) ?_
 ·intro y hy
  unfold set1 at hy
  rcases List.mem_or_eq_of_mem_set hy with h|h
  ·exact I y h
  ·subst h
   have hx:0≤st.getD (cl.getD v 0).toNat 0∧st.getD (cl.getD v 0).toNat 0<4611686018427387904:=by
    by_cases h:(cl.getD v 0).toNat<st.length
    ·have e:st.getD (cl.getD v 0).toNat 0=st[(cl.getD v 0).toNat]:=by rw[List.getD_eq_getElem?_getD,List.getElem?_eq_getElem h];rfl
     rw[e]
     exact I _ (List.getElem_mem h)
    ·have e:st.getD (cl.getD v 0).toNat 0=0:=by rw[List.getD_eq_getElem?_getD,List.getElem?_eq_none (by omega)];rfl
     rw[e];omega
   have:=setbit (b:=(v:Int)) hx.1 hx.2 (by omega) (by omega)
   exact⟨this.1,this.2.1⟩
 ·intro y hy
  rw[List.mem_replicate]at hy
  omega
noncomputable def tdsF (rows c:Nat→List Int) (m n K i:Nat):List TD:=if i<K then tdF i (rows i) (c i) (stF (c i) m n) n 0++tdsF rows c m n K (i+1)else []
 termination_by K - i
theorem tdsF_step {rows c:Nat→List Int} {m n K i:Nat} (h:i<K):tdsF rows c m n K i=tdF i (rows i) (c i) (stF (c i) m n) n 0++tdsF rows c m n K (i+1):=by rw[tdsF,if_pos h]
theorem tdsF_end {rows c:Nat→List Int} {m n K i:Nat} (h: ¬i<K):tdsF rows c m n K i= []:=by rw[tdsF,if_neg h]
theorem tdsF_len (rows c:Nat→List Int) (m n K i:Nat):(tdsF rows c m n K i).length=(K - i) * n:=by
  by_cases h:i<K
  · rw [tdsF_step h, List.length_append, tdF_len, tdsF_len rows c m n K (i + 1)]
    have e:K - i=(K - (i+1))+1:=by omega
    rw[e,Nat.succ_mul]
    omega
  · rw[tdsF_end h,show K - i=0 by omega];simp
 termination_by K - i
section
variable {nro K n a bg bc:Nat} {q:Nat→Nat} {rs:Nat→Value} {rows:Nat→List Int} {gcs:List Value} {Hc:(Nat→List Int)→VH} (E:RG nro K n a bg bc q rs rows gcs Hc)
include E
theorem l_refine_B4 (c:Nat→List Int) (C:CL K n c) (m:Nat) (hm:m=manyN K c) (k:Nat): ∀(i:Nat) (cs:List Value) (G:VH) (es:List TD),k=K - i→i≤K→ET ((Hc c).length+1) cs G es→es.length=i * n→
  ∃cs' G',floop (vcall F nro) nro [0,2,3,23,24,25] i_zz45_B4 (Hc c++ [⟨3,[]⟩])
   [.pointer (some ⟨a,0,some 2⟩),.int .i64 m,.slice (some ⟨(Hc c).length,0,none⟩) es.length cs.length,.slice (some ⟨bg,0,none⟩) K (2 * K),.int .i64 K,.int .i64 i] (Hc c++⟨3,cs⟩::G)=
   some (.exit 2,fl [(0,.pointer (some ⟨a,0,some 2⟩)),(2,.int .i64 m),(3,.slice (some ⟨(Hc c).length,0,none⟩) (es++tdsF rows c m n K i).length cs'.length)],Hc c++⟨3,cs'⟩::G')∧ET ((Hc c).length+1) cs' G' (es++tdsF rows c m n K i):=by
 have hax:=E.lax c
 have hbc:=E.lbc c
 have hbg:=E.lbg c
 have hK:=E.K2
 have hn1:=E.n1
 induction k with
 | zero =>
  intro i cs G es hk hi e hes
  have h1: ¬i<K:=by omega
  have h2: ¬(i:Int)<K:=by omega
  rw[tdsF_end h1,List.append_nil]
  refine⟨cs,G,?_,e⟩
  have q2:=E.lt c (E.ag c) (⟨3,cs⟩::G)
  have hgl:=E.gl
  rw[floop_at i_zz45_B4.eq_1]
  obtain⟨H,hH⟩: ∃H,H=Hc c++⟨3,cs⟩::G:=⟨_,rfl⟩
  rw[←hH]at q2⊢
  clear hH
  simp (disch:=first|assumption|omega|(simp[*]<;>omega)|fail) [-getElem?_pos,gz_,gs_,q2,h2,hgl]
 | succ k ih =>
  intro i cs G es hk hi e hes
  have hlt:i<K:=by omega
  have hlt' :(i:Int)<K:=by omega
  have R:=E.rok i hlt
  have hRle:=R.le
  have hcl:=C.len i hlt
  have hml:=C.many hn1
  have hmm:=fun x hx=>C.lt hn1 i hlt x hx
  rw[←hm]at hml hmm
  have hst:=stF_ok (c i) m n hRle hmm
  have hn:=E.nr c
  obtain⟨H,hH⟩: ∃H,H=Hc c++⟨3,cs⟩::G:=⟨_,rfl⟩
  have hHl:H.length=(Hc c).length+1+G.length:=by rw[hH];simp;omega
  have b1:=l_refine_B1 (nro:=nro) (H++ [⟨0,[.int .i64 n,rs i]⟩]) (.slice (some ⟨q i,0,none⟩) n n) (c i) n m (by
   have h1:=E.lt c (E.aq c i hlt) (⟨3,cs⟩::G++ [⟨0,[.int .i64 n,rs i]⟩])
   have:=sli_at h1
   rw[hcl]at this
   rw[hH]
   simpa using this) hcl hRle hmm hml (by rw[List.length_append,hHl];omega)
   (.pointer (some ⟨a,0,some 2⟩)) (.int .i64 m) (.slice (some ⟨(Hc c).length,0,none⟩) es.length cs.length) (.int .i64 i) (.pointer (some ⟨H.length,0,some 2⟩)) (.slice (some ⟨bg,0,none⟩) K (2 * K)) (.int .i64 K) (.int .i64 i)
   (by intro r hr;simp[trefs,vrefs,crefs,arefs]at hr;simp;omega) (by simp) (by intro r hr;simp[trefs,vrefs,crefs,arefs]at hr;simp;omega) (by simp) (by intro r hr;simp[trefs,vrefs,crefs,arefs]at hr;simp;omega) (by intro r hr;simp[trefs,vrefs,crefs,arefs]at hr;simp;omega) (by simp) (by simp)
  obtain⟨b1,stl⟩:=b1
  obtain⟨st,hstd⟩: ∃st,st=stF (c i) m n:=⟨_,rfl⟩
  rw[←hstd]at hst b1 stl
  have eG:ET ((Hc c).length+1) cs (G++ [⟨0,[.int .i64 n,rs i]⟩,⟨1,ints st⟩]) es:=e.more _
  obtain⟨cs1,G1,f1,f2,f3⟩:=l_refine_B3 (nro:=nro) (Hc c) (E.nr c) n G.length (G.length+1) i (rs i) (.slice (some ⟨q i,0,none⟩) n n) (rows i) (c i) st (E.rr c i hlt) (by
   have:=sli_at (E.aq c i hlt)
   rwa [hcl]at this) R hcl hst (by omega) (.pointer (some ⟨a,0,some 2⟩)) (.int .i64 m) (.slice (some ⟨bg,0,none⟩) K (2 * K)) (.int .i64 K) (.int .i64 i)
   (by intro r hr;simp[trefs,vrefs,crefs,arefs]at hr;omega) (by simp) (by intro r hr;simp[trefs,vrefs,crefs,arefs]at hr;omega) (by simp) (by simp) cs _ es eG (by simp) (by simp) n 0 cs _ es (by omega) (by omega) eG (Nat.le_refl _) (by simp) (by simp) (by
    have:=Nat.mul_le_mul_right n (by omega:i≤2)
    omega)
  rw[hstd]at f1 f2
  have hfl:(es++tdF i (rows i) (c i) (stF (c i) m n) n 0).length=(i+1) * n:=by
   rw[List.length_append,tdF_len,hes,Nat.succ_mul];omega
  rw[←hstd]at f1 f2 hfl
  obtain⟨G2,k1,k2,k3,k4⟩:=ET.cleanP (P0:=Hc c) (vals:= [.pointer (some ⟨a,0,some 2⟩),.int .i64 m,.slice (some ⟨(Hc c).length,0,none⟩) ((i+1) * n) cs1.length,.slice (some ⟨bg,0,none⟩) K (2 * K),.int .i64 K,.int .i64 ((i:Int)+1)]) (ET.nil _ []) f2 rfl (by simp) (by
   intro w hw
   simp only[List.mem_cons,List.not_mem_nil,or_false]at hw
   rcases hw with rfl|rfl|rfl|rfl|rfl|rfl<;>intro r hr<;>simp[trefs,vrefs,crefs,arefs]at hr<;>simp<;>omega)
  obtain⟨cs',G',j1,j2⟩:=ih (i+1) _ G2 _ (by omega) (by omega) k2 hfl
  rw[tdsF_step hlt,←hstd]
  refine⟨cs',G',?_,by simpa using j2⟩
  rw[hfl]at f1 j1
  simp only[List.append_assoc]at j1
  have q0:=E.lt c (E.ax c) (⟨3,cs⟩::G)
  have q1:=E.lt c (E.ag c) (⟨3,cs⟩::G)
  have q2:=E.lt c (E.ac c) (⟨3,cs⟩::G)
  have q3:=E.lt c (E.aq c i hlt) (⟨3,cs⟩::G)
  have hq:=E.lq c hlt
  have g1:=E.gcell i hlt
  have g2:=E.ccell i hlt
  have hgl:=E.gl
  have eH: ∀L:VH,Hc c++⟨3,cs⟩::(G++L)=H++L:=fun L=>by rw[hH];simp
  have l1:(Hc c).length+1+(G.length+1)=H.length+1:=by omega
  rw[eH,←hHl,l1]at f1
  have c2:=(E.gl)
  have w1:IntKind.i64.wrap ((i:Int)+1)=(i:Int)+1:=wrap64 (by omega) (by omega)
  have hnH:nro≤H.length:=by omega
  have l2:i * 2+2≤2 * K:=by omega
  have lK:q i<H.length:=by omega
  have la:a<H.length:=by omega
  have lb:bc<H.length:=by omega
  rw[←hH]at q0 q1 q2 q3⊢
  simp only[List.append_assoc,List.cons_append,List.nil_append,List.length_append,List.length_cons,List.length_nil,Nat.zero_add]at b1
  rw[stl]at f1
  simp only[Int.natCast_zero]at f1
  simp only[List.length_append]at j1
  have p0: ∀L:VH,(H++L)[a]? =_:=fun L=>(List.getElem?_append_left la).trans q0
  have p2: ∀L:VH,(H++L)[bc]? =_:=fun L=>(List.getElem?_append_left lb).trans q2
  have p3: ∀L:VH,(H++L)[q i]? =_:=fun L=>(List.getElem?_append_left lK).trans q3
  have b4:8 * (m:Int)≤140737488355328:=by omega
  have b5:(m:Int)≤140737488355328:=by omega
  have hj:=Sl.nj (E.rr c i hlt)
  unfold isJunk at hj
  clear ih e hes hH eG f2 f3 k2 k3 k4 j2 hmm hst hm hstd hfl hHl l1 C R
  rw[floop_at i_zz45_B4.eq_1]
  simp (disch:=first|assumption|omega|(simp[*]<;>omega)|fail) [-getElem?_pos,gz_,gs_,hlt',hlt,q0,q1,q2,q3,g1,g2,hgl,l2,b1,f1,k1,w1,j1,p0,p2,p3,hcl,hnH,lK,la,lb,b4,b5,hj]
  simpa using j1
end
end

/- Lists that are told by functions; sums. -/
section
open Go
def tbl (n:Nat) (g:Nat→Int):List Int:=(List.range n).map g
def upd (g:Nat→Int) (u:Nat) (x:Int):Nat→Int:=fun j=>if j=u then x else g j
@[simp] theorem tbl_length (n : Nat) (g : Nat → Int) : (tbl n g).length = n := by simp [tbl]
theorem tbl_get {n:Nat} {g:Nat→Int} {i:Nat} (hi:i<(tbl n g).length):(tbl n g)[i]=g i:=by simp[tbl]
theorem tbl_getD {n:Nat} {g:Nat→Int} {i:Nat} (hi:i<n):(tbl n g).getD i 0=g i:=by
 rw[List.getD_eq_getElem?_getD,List.getElem?_eq_getElem (by simpa using hi),tbl_get];rfl
theorem tbl_set {n:Nat} {g:Nat→Int} {i:Nat} {x:Int}:(tbl n g).set i x=tbl n (upd g i x):=by
 apply List.ext_getElem
 ·simp
 ·intro j h1 h2
  simp only[List.getElem_set,tbl_get,upd]
  by_cases h:i=j
  ·subst h;simp
  ·rw[if_neg h,if_neg (fun e=>h e.symm)]
theorem tbl_const (n:Nat) (x:Int):tbl n (fun _=>x)=List.replicate n x:=by
 apply List.ext_getElem<;>simp[tbl]
theorem tbl_snoc (n:Nat) (g:Nat→Int):tbl n g++ [g n]=tbl (n+1) g:=by simp[tbl,List.range_succ]
theorem upd_same (g:Nat→Int) (u:Nat) (x:Int):upd g u x u=x:=by simp[upd]
theorem upd_ne {g:Nat→Int} {u j:Nat} {x:Int} (h:j≠u):upd g u x j=g j:=by simp[upd,h]
theorem tbl_take1 {n:Nat} {g:Nat→Int} {i:Nat} (hi:i<n):List.take 1 (List.drop i (ints (tbl n g)))= [.int .i64 (g i)]:=by
 rw[take1_ints (by simpa using hi),tbl_get]
theorem tbl_splice {n:Nat} {g:Nat→Int} {i:Nat} {x:Int} (hi:i<n):splice i [.int .i64 x] (ints (tbl n g))=ints (tbl n (upd g i x)):=by
 rw[splice_ints (by simpa using hi),tbl_set]
def sumF (f:Nat→Int):Nat→Int
 | 0 => 0
 | k + 1 => sumF f k + f k
theorem sumF_congr {f g:Nat→Int}: ∀ {n:Nat},(∀i,i<n→f i=g i)→sumF f n=sumF g n
 | 0, _ => rfl
 | n + 1, h => by rw [sumF, sumF, sumF_congr (fun i hi => h i (by omega)), h n (by omega)]
theorem sumF_nonneg {f:Nat→Int}: ∀ {n:Nat},(∀i,i<n→0≤f i)→0≤sumF f n
 | 0, _ => Int.le_refl _
 | n + 1, h => by
  have h1:=sumF_nonneg (f:=f) (n:=n) (fun i hi=>h i (by omega))
  have h2:=h n (by omega)
  rw[sumF];omega
theorem sumF_add (f g:Nat→Int): ∀n,sumF (fun i=>f i+g i) n=sumF f n+sumF g n
 | 0 => rfl
 | n + 1 => by rw [sumF, sumF, sumF, sumF_add f g n]; omega
theorem sumF_zero: ∀n,sumF (fun _=>0) n=0
 | 0 => rfl
 | n + 1 => by rw [sumF, sumF_zero n]; rfl
theorem sumF_mul (c:Int) (f:Nat→Int): ∀n,sumF (fun i=>c * f i) n=c * sumF f n
 | 0 => by simp [sumF]
 | n + 1 => by rw [sumF, sumF, sumF_mul c f n, Int.mul_add]
theorem sumF_swap (f:Nat→Nat→Int) (m:Nat): ∀n,sumF (fun i=>sumF (f i) m) n=sumF (fun j=>sumF (fun i=>f i j) n) m
 | 0 => by simp only [sumF]; exact (sumF_zero m).symm
 | n + 1 => by
  rw[sumF,sumF_swap f m n,←sumF_add]
  exact sumF_congr fun j _=>rfl
theorem sumF_one {f:Nat→Int} {k:Nat}: ∀ {n:Nat},k<n→(∀i,i<n→i≠k→f i=0)→sumF f n=f k
 | 0, h, _ => by omega
 | n + 1, h, h0 => by
  rw[sumF]
  by_cases e:k=n
  ·subst e
   have:sumF f k=sumF (fun _=>0) k:=sumF_congr fun i hi=>h0 i (by omega) (by omega)
   rw[this,sumF_zero];omega
  ·rw[sumF_one (k:=k) (n:=n) (by omega) (fun i hi hne=>h0 i (by omega) hne),h0 n (by omega) (fun e2=>e e2.symm)];omega
theorem sumF_le {f g:Nat→Int}: ∀ {n:Nat},(∀i,i<n→f i≤g i)→sumF f n≤sumF g n
 | 0, _ => Int.le_refl _
 | n + 1, h => by
  have h1:=sumF_le (f:=f) (g:=g) (n:=n) (fun i hi=>h i (by omega))
  have h2:=h n (by omega)
  rw[sumF,sumF];omega
end

/- The reference's search for distances: a queue. -/
section
open Go
variable {nro:Nat}
def bIn (adj:Nat→Nat→Bool) (x y:Nat) (s:(Nat→Int) × List Int):(Nat→Int) × List Int:=
 if adj x y=true∧s.1 y<0 then(upd s.1 y (s.1 x+1),s.2++ [(y:Int)])else s
def bRow (adj:Nat→Nat→Bool) (n x:Nat) (s:(Nat→Int) × List Int):(Nat→Int) × List Int:=upF (fun y s=>bIn adj x y s) n 0 s
def bAll (adj:Nat→Nat→Bool) (n:Nat):Nat→Nat→(Nat→Int) × List Int→(Nat→Int) × List Int
 | 0, _, s => s
 | k + 1, i, s => if i < s.2.length then bAll adj n k (i + 1) (bRow adj n (s.2.getD i 0).toNat s) else s
def unm (g:Nat→Int):Nat→Nat
 | 0 => 0
 | k + 1 => unm g k + if g k < 0 then 1 else 0
theorem unm_upd {g:Nat→Int} {y:Nat} {e:Int} (hy:g y<0) (he:0≤e): ∀ {n:Nat},y<n→unm (upd g y e) n+1=unm g n
 | 0, h => by omega
 | n + 1, h => by
  rw[unm,unm]
  by_cases c:y=n
  ·subst c
   have: ∀m,m≤y→unm (upd g y e) m=unm g m:=by
    intro m
    induction m with
    | zero => intro _; rfl
    | succ m ih => intro hm; rw [unm, unm, ih (by omega), upd_ne (by omega)]
   rw[this y (Nat.le_refl _),upd_same,if_pos hy,if_neg (by omega)]
  ·rw[←unm_upd hy he (n:=n) (by omega),upd_ne (g:=g) (u:=y) (j:=n) (x:=e) (fun e=>c e.symm)]
   omega
theorem unm_const: ∀n,unm (fun _=> -1) n=n
 | 0 => rfl
 | n + 1 => by rw [unm, unm_const n]; rfl
structure BI (n:Nat) (s:(Nat→Int) × List Int):Prop where
 q: ∀j,j<s.2.length→0≤s.2.getD j 0∧s.2.getD j 0<n∧0≤s.1 (s.2.getD j 0).toNat
 cnt:s.2.length+unm s.1 n=n
 lo: ∀w,-1≤s.1 w
 hi: ∀w,s.1 w<s.2.length
theorem BI.len {n:Nat} {s:(Nat→Int) × List Int} (h:BI n s):s.2.length≤n:=by have:=h.cnt;omega
theorem getD_app1 {l:List Int} {y:Int} {j:Nat} (h:j<l.length):(l++ [y]).getD j 0=l.getD j 0:=by
 simp only[List.getD_eq_getElem?_getD];rw[List.getElem?_append_left h]
theorem getD_app2 {l:List Int} {y:Int}:(l++ [y]).getD l.length 0=y:=by simp[List.getD_eq_getElem?_getD]
theorem BI.bIn {adj:Nat→Nat→Bool} {n x y:Nat} {s:(Nat→Int) × List Int} (h:BI n s) (hy:y<n) (hx:0≤s.1 x):BI n (bIn adj x y s)∧0≤(Zv.bIn adj x y s).1 x:=by
 unfold Zv.bIn
 split
 ·rename_i hc
  have hxy:x≠y:=by rintro rfl;omega
  refine⟨⟨fun j hj=> ?_,?_,fun w=> ?_,fun w=> ?_⟩,by dsimp only;rw[upd_ne hxy];exact hx⟩
  ·simp only[List.length_append,List.length_singleton]at hj
   by_cases e:j<s.2.length
   ·dsimp only
    rw[getD_app1 e]
    obtain⟨h1,h2,h3⟩:=h.q j e
    refine⟨h1,h2,?_⟩
    unfold upd
    split
    ·omega
    ·exact h3
   ·have:j=s.2.length:=by omega
    subst this
    dsimp only
    rw[getD_app2]
    refine⟨by omega,by omega,?_⟩
    rw[Int.toNat_natCast,upd_same];omega
  ·have h1:=unm_upd hc.2 (e:=s.1 x+1) (by omega) hy
   have h2:=h.cnt
   simp only[List.length_append,List.length_singleton]
   omega
  ·have h1:=h.lo w
   dsimp only
   unfold upd
   split<;>omega
  ·have h1:=h.hi w
   have h2:=h.hi x
   simp only[List.length_append,List.length_singleton]
   unfold upd
   split<;>omega
 ·exact⟨h,hx⟩
theorem BI.bRow {adj:Nat→Nat→Bool} {n x:Nat} {s:(Nat→Int) × List Int} (h:BI n s) (hx:0≤s.1 x):BI n (bRow adj n x s):=
 (upF_inv (f:=fun y s=>Zv.bIn adj x y s) (n:=n) (fun _ s=>BI n s∧0≤s.1 x) (fun i a hi ha=>ha.1.bIn hi ha.2) 0 s (Nat.zero_le _) ⟨h,hx⟩).1
theorem BI.bAll {adj:Nat→Nat→Bool} {n:Nat}: ∀(k i:Nat) {s:(Nat→Int) × List Int},BI n s→BI n (bAll adj n k i s)
 | 0, _, _, h => h
 | k + 1, i, s, h => by
  rw[Zv.bAll]
  split
  ·rename_i hi
   exact BI.bAll k (i+1) (h.bRow (h.q i hi).2.2)
  ·exact h
def adjE (rows:List Int) (a b:Int) (x y:Nat):Bool:=rbit rows x y && !(decide ((x:Int)=a) && decide ((y:Int)=b)) && !(decide ((x:Int)=b) && decide ((y:Int)=a))
theorem l_zz93_1 (h:VH) (n:Nat) (s:Value) (v a b:Int) (hso: ∀k,OldC (h.length+k) s) (hle:n≤62) (hn:nro≤h.length):
  floop (vcall F nro) nro [1,2,3,4,9,10] i_zz93_B1 (bx h n s++ [⟨1,[]⟩]) [.int .i64 v,.int .i64 a,.int .i64 b,bp h,.slice (some ⟨h.length+1,0,none⟩) 0 0,.int .i64 0] (bx h n s++ [⟨1,[]⟩])=
   some (.exit 0,fl [(1,.int .i64 v),(2,.int .i64 a),(3,.int .i64 b),(4,bp h),(9,.slice (some ⟨h.length+1,0,none⟩) n n)],bx h n s++ [⟨1,ints (tbl n fun _=> -1)⟩]):=by
 have hn' :=fun k=>Nat.le_trans hn (Nat.le_add_right h.length k)
 have key:=for_up (call:=vcall F nro) (nro:=nro) (live:= [1,2,3,4,9,10]) (c:=i_zz93_B1) (h0:=bx h n s++ [⟨1,[]⟩]) (n:=n) (fun i (_:Unit)=> [.int .i64 v,.int .i64 a,.int .i64 b,bp h,.slice (some ⟨h.length+1,0,none⟩) i i,.int .i64 i]) (fun i _=>bx h n s++ [⟨1,ints (tbl i fun _=> -1)⟩]) (fun _ u=>u) (fun _ _=>True)
  (fun _=>some (.exit 0,fl [(1,.int .i64 v),(2,.int .i64 a),(3,.int .i64 b),(4,bp h),(9,.slice (some ⟨h.length+1,0,none⟩) n n)],bx h n s++ [⟨1,ints (tbl n fun _=> -1)⟩])) ?_ ?_ 0 () (Nat.zero_le _) trivial
 ·have:=key.1
  simpa [tbl]using this
 ·intro i _ hi hi2 _
  refine⟨trivial,?_⟩
  have e:ints (tbl i fun _=> -1)++ [Value.int .i64 (-1)]=ints (tbl (i+1) fun _=> -1):=by
   rw[←tbl_snoc];simp[ints]
  have b1:(i+1) * 8≤1099511627776:=by omega
  have b2:i<1099511627776:=by omega
  rw[floop_at i_zz93_B1.eq_1]
  simp (disch:=first|assumption|omega|(simp[*]<;>omega)|fail) [hi,hi2,hn',hso,b1,b2,e,wrap64]
 ·intro _ _
  rw[floop_at i_zz93_B1.eq_1]
  simp (disch:=first|assumption|omega|(simp[*]<;>omega)|fail) []
def qh (h:VH) (n:Int) (s:Value) (N:Nat) (t:(Nat→Int) × List Int):VH:=h++ [⟨0,[.int .i64 n,s]⟩,⟨1,ints (tbl N t.1)⟩,⟨1,ints t.2⟩]
theorem l_zz93_2 (h:VH) (n:Nat) (s:Value) (rows:List Int) (hs:Sli h s rows) (R:Rok n rows) (a b:Int) (hn:nro≤h.length) (i x:Nat) (hx:x<n) (t0:(Nat→Int) × List Int) (B0:BI n t0) (hx0:0≤t0.1 x):
  floop (vcall F nro) nro [2,3,4,9,11,12,13,14] i_zz93_B2 (qh h n s n t0) [.int .i64 a,.int .i64 b,bp h,.slice (some ⟨h.length+1,0,none⟩) n n,.slice (some ⟨h.length+2,0,none⟩) t0.2.length t0.2.length,.int .i64 i,.int .i64 x,.int .i64 0] (qh h n s n t0)=
   some (.exit 4,fl [(2,.int .i64 a),(3,.int .i64 b),(4,bp h),(9,.slice (some ⟨h.length+1,0,none⟩) n n),(11,.slice (some ⟨h.length+2,0,none⟩) (bRow (adjE rows a b) n x t0).2.length (bRow (adjE rows a b) n x t0).2.length),(12,.int .i64 i)],qh h n s n (bRow (adjE rows a b) n x t0)):=by
 have hn' :=fun k=>Nat.le_trans hn (Nat.le_add_right h.length k)
 have hso:=fun k=>hs.oldCk (k:=k)
 have hle:=R.le
 have hlen:=R.len
 refine(for_up (call:=vcall F nro) (nro:=nro) (live:= [2,3,4,9,11,12,13,14]) (c:=i_zz93_B2) (h0:=qh h n s n t0) (n:=n) (fun y (t:(Nat→Int) × List Int)=> [.int .i64 a,.int .i64 b,bp h,.slice (some ⟨h.length+1,0,none⟩) n n,.slice (some ⟨h.length+2,0,none⟩) t.2.length t.2.length,.int .i64 i,.int .i64 x,.int .i64 y]) (fun _ t=>qh h n s n t) (fun y t=>bIn (adjE rows a b) x y t) (fun _ t=>BI n t∧0≤t.1 x)
  (fun t=>some (.exit 4,fl [(2,.int .i64 a),(3,.int .i64 b),(4,bp h),(9,.slice (some ⟨h.length+1,0,none⟩) n n),(11,.slice (some ⟨h.length+2,0,none⟩) t.2.length t.2.length),(12,.int .i64 i)],qh h n s n t)) ?_ ?_ 0 t0 (Nat.zero_le _) ⟨B0,hx0⟩).1
 ·rintro y ⟨g,q⟩ hy hy2 ⟨B,hgx⟩
  refine⟨B.bIn hy hgx,?_⟩
  have hql:=B.len
  have l1:=B.lo y
  have l2:=B.hi x
  dsimp only at hgx hql l1 l2
  obtain⟨r1,r2⟩:=R.row x hx
  have r3:=le62 hle r2
  have hvl:x<rows.length:=by omega
  have vx:=fun L=>(hs.app L).vidx (k:= .i64) (j:=(x:Int)) (by omega) (by omega)
  have vl:=fun L=>(hs.app L).vload hvl
  have w1:IntKind.u64.wrap (y:Int)=y:=wrapu64 (by omega) (by omega)
  have hbit:=bit_two (a:=rows.getD x 0) (b:=(y:Int)) r1 (by omega) (by omega)
  rw[Int.toNat_natCast,getD_at rows hvl]at hbit
  have hrb:rbit rows x y=(rows[x]'hvl).toNat.testBit y:=by unfold rbit;rw[getD_at rows hvl]
  rw[←hrb]at hbit
  have w2:IntKind.i64.wrap (g x+1)=g x+1:=wrap64 (by omega) (by omega)
  have w3:IntKind.i64.wrap ((y:Int)+1)=(y:Int)+1:=wrap64 (by omega) (by omega)
  have t1:=tbl_take1 (g:=g) hy
  have t2:=tbl_take1 (g:=g) hx
  have t3:=tbl_splice (g:=g) (x:=g x+1) hy
  have e1:ints q++ [Value.int .i64 y]=ints (q++ [(y:Int)]):=by simp[ints]
  have b1:(q.length+1) * 8≤1099511627776:=by omega
  have b2:q.length<1099511627776:=by omega
  have hx2:(x:Int)<n:=by omega
  rw[floop_at i_zz93_B2.eq_1]
  unfold qh bIn adjE
  clear B l1 l2 hql r1 r2 r3 hrb B0 hx0 hgx
  by_cases c1:rbit rows x y=true
  ·rw [if_pos c1] at hbit
   by_cases c2:g y<0
   ·have c2' : ¬0≤g y:=by omega
    by_cases c3:a=(x:Int)
    ·by_cases c4:b=(y:Int)
     ·simp (disch:=first|assumption|omega|(simp[*]<;>omega)|fail) [hy,hy2,hx,hx2,vx,vl,w1,hbit,c1,c2,c2',c3,c4,t1,w3,hn',hso]
     ·have c4n: ¬(y:Int)=b:=fun e=>c4 e.symm
      by_cases c5:b=(x:Int)
      ·by_cases c6:x=y
       ·exact absurd (c5.trans (by rw[c6])) c4
       ·have c6' : ¬(y:Int)=x:=by omega
        have c6n: ¬y=x:=by omega
        simp (disch:=first|assumption|omega|(simp[*]<;>omega)|fail) [hy,hy2,hx,hx2,vx,vl,w1,hbit,c1,c2,c2',c3,c5,c6',c6n,t1,t2,t3,w2,w3,hn',hso,b1,b2,e1]
      ·have c5n: ¬(x:Int)=b:=fun e=>c5 e.symm
       simp (disch:=first|assumption|omega|(simp[*]<;>omega)|fail) [hy,hy2,hx,hx2,vx,vl,w1,hbit,c1,c2,c2',c3,c4n,c5n,t1,t2,t3,w2,w3,hn',hso,b1,b2,e1]
    ·have c3n: ¬(x:Int)=a:=fun e=>c3 e.symm
     by_cases c5:b=(x:Int)
     ·by_cases c6:a=(y:Int)
      ·simp (disch:=first|assumption|omega|(simp[*]<;>omega)|fail) [hy,hy2,hx,hx2,vx,vl,w1,hbit,c1,c2,c2',c3n,c5,c6,t1,w3,hn',hso]
      ·have c6n: ¬(y:Int)=a:=fun e=>c6 e.symm
       simp (disch:=first|assumption|omega|(simp[*]<;>omega)|fail) [hy,hy2,hx,hx2,vx,vl,w1,hbit,c1,c2,c2',c3n,c5,c6n,t1,t2,t3,w2,w3,hn',hso,b1,b2,e1]
     ·have c5n: ¬(x:Int)=b:=fun e=>c5 e.symm
      simp (disch:=first|assumption|omega|(simp[*]<;>omega)|fail) [hy,hy2,hx,hx2,vx,vl,w1,hbit,c1,c2,c2',c3n,c5n,t1,t2,t3,w2,w3,hn',hso,b1,b2,e1]
   ·have c2' :0≤g y:=by omega
    simp (disch:=first|assumption|omega|(simp[*]<;>omega)|fail) [hy,hy2,hx,hx2,vx,vl,w1,hbit,c1,c2,c2',t1,w3,hn',hso]
  ·rw[if_neg c1]at hbit
   simp (disch:=first|assumption|omega|(simp[*]<;>omega)|fail) [hy,hy2,hx,hx2,vx,vl,w1,hbit,c1,w3,hn',hso]
 ·rintro⟨g,q⟩ _
  rw[floop_at i_zz93_B2.eq_1]
  unfold qh
  simp (disch:=first|assumption|omega|(simp[*]<;>omega)|fail) [hn',hso]
theorem l_zz93_3 (h:VH) (n:Nat) (s:Value) (rows:List Int) (hs:Sli h s rows) (R:Rok n rows) (a b:Int) (hn:nro≤h.length) (t0:(Nat→Int) × List Int): ∀(k i:Nat) (t:(Nat→Int) × List Int),n≤i+k→i≤t.2.length→BI n t→
  floop (vcall F nro) nro [2,3,4,9,11,12] i_zz93_B3 (qh h n s n t0) [.int .i64 a,.int .i64 b,bp h,.slice (some ⟨h.length+1,0,none⟩) n n,.slice (some ⟨h.length+2,0,none⟩) t.2.length t.2.length,.int .i64 i] (qh h n s n t)=
   some (.exit 2,fl [(9,.slice (some ⟨h.length+1,0,none⟩) n n)],qh h n s n (bAll (adjE rows a b) n k i t)):=by
 have hn' :=fun k=>Nat.le_trans hn (Nat.le_add_right h.length k)
 have hso:=fun k=>hs.oldCk (k:=k)
 intro k
 induction k with
 | zero =>
  intro i t hk hi B
  have:=B.len
  have e: ¬(i:Int)<t.2.length:=by omega
  rw[floop_at i_zz93_B3.eq_1]
  unfold qh bAll
  simp (disch:=first|assumption|omega|(simp[*]<;>omega)|fail) [e,hn',hso]
 | succ k ih =>
  intro i t hk hi B
  have hql:=B.len
  have hle:=R.le
  by_cases hlt:i<t.2.length
  ·have hlt' :(i:Int)<t.2.length:=by omega
   obtain⟨q1,q2,q3⟩:=B.q i hlt
   obtain⟨x,hx⟩: ∃x:Nat,t.2.getD i 0=x:=⟨(t.2.getD i 0).toNat,by omega⟩
   rw[hx]at q2 q3
   rw[Int.toNat_natCast]at q3
   have hrow:=l_zz93_2 (nro:=nro) h n s rows hs R a b hn i x (by omega) t B q3
   have ih2:=ih (i+1) (bRow (adjE rows a b) n x t) (by omega) (by
    have:t.2.length≤(bRow (adjE rows a b) n x t).2.length:=upF_inv (f:=fun y s=>bIn (adjE rows a b) x y s) (n:=n) (fun _ s=>t.2.length≤s.2.length) (fun i s _ hs=>by
     unfold bIn
     split
     ·simp;omega
     ·exact hs) 0 t (Nat.zero_le _) (Nat.le_refl _)
    omega) (B.bRow q3)
   rw[show((i+1:Nat):Int)=(i:Int)+1 by omega]at ih2
   have e:bAll (adjE rows a b) n (k+1) i t=bAll (adjE rows a b) n k (i+1) (bRow (adjE rows a b) n x t):=by rw[bAll,if_pos hlt,hx,Int.toNat_natCast]
   rw[e]
   have hge:t.2[i]=(x:Int):=by rw[←hx,List.getD_eq_getElem?_getD,List.getElem?_eq_getElem hlt];rfl
   have t1:=take1_ints hlt
   rw[hge]at t1
   rw[floop_at i_zz93_B3.eq_1]
   obtain⟨t2,ht2⟩: ∃t2,t2=bRow (adjE rows a b) n x t:=⟨_,rfl⟩
   rw[←ht2]at hrow ih2⊢
   obtain⟨t3,ht3⟩: ∃t3,t3=bAll (adjE rows a b) n k (i+1) t2:=⟨_,rfl⟩
   rw[←ht3]at ih2⊢
   clear e ht2 ht3 hx hge B ih q1 q2 q3
   unfold qh at hrow ih2⊢
   simp (disch:=first|assumption|omega|(simp[*]<;>omega)|fail) [hlt,hlt',t1,hrow,ih2,hn',hso,wrap64]
  ·have e: ¬(i:Int)<t.2.length:=by omega
   have e2:bAll (adjE rows a b) n (k+1) i t=t:=by rw[bAll,if_neg hlt]
   rw[e2,floop_at i_zz93_B3.eq_1]
   unfold qh
   simp (disch:=first|assumption|omega|(simp[*]<;>omega)|fail) [e,hn',hso]
def b0 (v:Nat):(Nat→Int) × List Int:=(upd (fun _=> -1) v 0,[(v:Int)])
theorem BI.b0 {n v:Nat} (hv:v<n):BI n (b0 v):=by
 refine⟨fun j hj=> ?_,?_,fun w=> ?_,fun w=> ?_⟩
 ·have:j=0:=by simpa [Zv.b0]using hj
  subst this
  simp[Zv.b0,upd,hv]
 ·have h1:=unm_upd (g:=fun _=> -1) (y:=v) (e:=0) (by decide) (by omega) hv
  rw[unm_const]at h1
  simp only[Zv.b0,List.length_singleton]
  omega
 ·simp only[Zv.b0,upd];split<;>omega
 ·simp only[Zv.b0,upd,List.length_singleton];split<;>omega
def fromF (adj:Nat→Nat→Bool) (n v:Nat):List Int:=tbl n (bAll adj n n 0 (b0 v)).1
theorem fromF_len (adj:Nat→Nat→Bool) (n v:Nat):(fromF adj n v).length=n:=by simp[fromF]
theorem c_zz93 (n v:Nat) (a b:Int) (s:Value) (rows:List Int) (h:VH) (hs:Sli h s rows) (R:Rok n rows) (hv:v<n) (hn:nro≤h.length):
  vcall F nro k_zz93 [gv n s,.int .i64 v,.int .i64 a,.int .i64 b] h=some (.slice (some ⟨h.length,0,none⟩) n n,h++ [⟨1,ints (fromF (adjE rows a b) n v)⟩]):=by
 have hn' :=fun k=>Nat.le_trans hn (Nat.le_add_right h.length k)
 have hso:=fun k=>hs.oldCk (k:=k)
 refine v_zz93 (by simp[i_zz93]) ?_
 rw[fbody_eq]
 have hle:=R.le
 have l1:=l_zz93_1 (nro:=nro) h n s v a b hso hle hn
 have l3:=l_zz93_3 (nro:=nro) h n s rows hs R a b hn (b0 v) n 0 (b0 v) (by omega) (Nat.zero_le _) (BI.b0 hv)
 have hv2:(v:Int)<n:=by omega
 have t3:=tbl_splice (g:=fun _=> -1) (x:=0) hv
 unfold fromF
 obtain⟨t,ht⟩: ∃t,t=bAll (adjE rows a b) n n 0 (b0 v):=⟨_,rfl⟩
 rw[←ht]at l3⊢
 clear ht
 unfold qh b0 at l3
 simp at l1 l3
 simp (disch:=first|assumption|omega|(simp[*]<;>omega)|fail) [i_zz93,l1,l3,hv,hv2,t3,hn',hso]
end

/- The reference's distances are the program's. -/
section
open Go
variable {nro:Nat}
structure CI (rows:List Int) (n v i:Nat) (s:(Nat→Int) × List Int):Prop where
 vis: ∀w,w<n→0≤s.1 w→ ∃j,j<s.2.length∧s.2.getD j 0=w
 sorted: ∀j k,j≤k→k<s.2.length→s.1 (s.2.getD j 0).toNat≤s.1 (s.2.getD k 0).toNat
 walk: ∀w,0≤s.1 w→Wk rows (s.1 w).toNat v w
 closed: ∀j,j<i→j<s.2.length→ ∀y,rbit rows (s.2.getD j 0).toNat y=true→0≤s.1 y∧s.1 y≤s.1 (s.2.getD j 0).toNat+1
 bound:i<s.2.length→ ∀k,k<s.2.length→s.1 (s.2.getD k 0).toNat≤s.1 (s.2.getD i 0).toNat+1
 start:s.1 v=0
theorem ci_in {adj:Nat→Nat→Bool} {rows:List Int} {n v i x y:Nat} (hadj: ∀x y,x<n→y<n→(adj x y=true↔rbit rows x y=true)) {s:(Nat→Int) × List Int} (B:BI n s) (C:CI rows n v i s) (hi:i<s.2.length) (hx:(s.2.getD i 0).toNat=x) (hxn:x<n) (hy:y<n) (hrow: ∀z,z<y→rbit rows x z=true→0≤s.1 z∧s.1 z≤s.1 x+1):
  CI rows n v i (bIn adj x y s)∧i<(bIn adj x y s).2.length∧((bIn adj x y s).2.getD i 0).toNat=x∧ ∀z,z<y+1→rbit rows x z=true→0≤(bIn adj x y s).1 z∧(bIn adj x y s).1 z≤(bIn adj x y s).1 x+1:=by
 have hq0:=B.q i hi
 rw[hx]at hq0
 obtain⟨_,_,hx0⟩:=hq0
 by_cases hc:adj x y=true∧s.1 y<0
 ·have e:bIn adj x y s=(upd s.1 y (s.1 x+1),s.2++ [(y:Int)]):=by unfold bIn;rw[if_pos hc]
  have hxy:x≠y:=by rintro rfl;omega
  have hqy: ∀j,j<s.2.length→(s.2.getD j 0).toNat≠y:=fun j hj he=>by
   have:=(B.q j hj).2.2
   rw[he]at this
   omega
  have g1: ∀j,j<s.2.length→upd s.1 y (s.1 x+1) ((s.2++ [(y:Int)]).getD j 0).toNat=s.1 (s.2.getD j 0).toNat:=fun j hj=>by
   rw[getD_app1 hj,upd_ne (hqy j hj)]
  have g2:upd s.1 y (s.1 x+1) ((s.2++ [(y:Int)]).getD s.2.length 0).toNat=s.1 x+1:=by
   rw[getD_app2,Int.toNat_natCast,upd_same]
  have hb:=C.bound hi
  rw[hx]at hb
  rw[e]
  refine⟨⟨fun w hw h0=> ?_,fun j k hjk hk=> ?_,fun w h0=> ?_,fun j hj hjl z hz=> ?_,fun _ k hk=> ?_,?_⟩,by simp;omega,by rw[getD_app1 hi];exact hx,fun z hz hzb=> ?_⟩
  ·dsimp only at h0
   by_cases c:w=y
   ·subst c
    exact⟨s.2.length,by simp,by rw[getD_app2]⟩
   ·rw[upd_ne c]at h0
    obtain⟨j,h1,h2⟩:=C.vis w hw h0
    exact⟨j,by simp;omega,by rw[getD_app1 h1];exact h2⟩
  ·dsimp only
   simp only[List.length_append,List.length_singleton]at hk
   by_cases c:k<s.2.length
   ·rw[g1 j (by omega),g1 k c]
    exact C.sorted j k hjk c
   ·have:k=s.2.length:=by omega
    subst this
    rw[g2]
    by_cases c2:j<s.2.length
    ·rw[g1 j c2]
     exact hb j c2
    ·have:j=s.2.length:=by omega
     subst this
     rw[g2]
     exact Int.le_refl _
  ·dsimp only at h0⊢
   by_cases c:w=y
   ·subst c
    rw[upd_same]
    have h1:=C.walk x hx0
    rw[show(s.1 x+1).toNat=(s.1 x).toNat+1 by omega]
    exact⟨x,h1,(hadj x w hxn hy).mp hc.1⟩
   ·rw[upd_ne c]at h0⊢
    exact C.walk w h0
  ·dsimp only at hz⊢
   simp only[List.length_append,List.length_singleton]at hjl
   have hj2:j<s.2.length:=by omega
   rw[getD_app1 hj2]at hz
   obtain⟨h1,h2⟩:=C.closed j hj hj2 z hz
   have hzy:z≠y:=by rintro rfl;omega
   rw[g1 j hj2,upd_ne hzy]
   exact⟨h1,h2⟩
  ·dsimp only
   simp only[List.length_append,List.length_singleton]at hk
   rw[g1 i hi,hx]
   by_cases c:k<s.2.length
   ·rw[g1 k c];exact hb k c
   ·have:k=s.2.length:=by omega
    subst this
    rw[g2]
    exact Int.le_refl _
  ·dsimp only
   have:v≠y:=by rintro rfl;have:=C.start;omega
   rw[upd_ne this]
   exact C.start
  ·dsimp only
   rw[upd_ne (g:=s.1) hxy]
   by_cases c:z=y
   ·subst c
    rw[upd_same]
    omega
   ·rw[upd_ne c]
    exact hrow z (by omega) hzb
 ·have e:bIn adj x y s=s:=by unfold bIn;rw[if_neg hc]
  rw[e]
  refine⟨C,hi,hx,fun z hz hzb=> ?_⟩
  by_cases c:z=y
  ·subst c
   have h1:=(hadj x z hxn hy).mpr hzb
   have h2:0≤s.1 z:=by
    rcases Int.lt_or_le (s.1 z) 0 with h|h
    ·exact absurd ⟨h1,h⟩ hc
    ·exact h
   refine⟨h2,?_⟩
   obtain⟨j,h3,h4⟩:=C.vis z hy h2
   have:=C.bound hi j h3
   rw[h4,hx,Int.toNat_natCast]at this
   exact this
  ·exact hrow z (by omega) hzb
theorem ci_row {adj:Nat→Nat→Bool} {rows:List Int} {n v i x:Nat} (hadj: ∀x y,x<n→y<n→(adj x y=true↔rbit rows x y=true)) (hR: ∀x y,rbit rows x y=true→y<n) {s:(Nat→Int) × List Int} (B:BI n s) (C:CI rows n v i s) (hi:i<s.2.length) (hx:(s.2.getD i 0).toNat=x) (hxn:x<n) (hx0:0≤s.1 x):
  CI rows n v (i+1) (bRow adj n x s):=by
 have key:=upF_inv (f:=fun y s=>bIn adj x y s) (n:=n) (fun y s=>(BI n s∧0≤s.1 x)∧CI rows n v i s∧i<s.2.length∧(s.2.getD i 0).toNat=x∧ ∀z,z<y→rbit rows x z=true→0≤s.1 z∧s.1 z≤s.1 x+1) (fun y t hy ⟨⟨h1,h2⟩,h3,h4,h5,h6⟩=>⟨h1.bIn hy h2,ci_in hadj h1 h3 h4 h5 hxn hy h6⟩) 0 s (Nat.zero_le _) ⟨⟨B,hx0⟩,C,hi,hx,fun z hz=>by omega⟩
 obtain⟨_,C2,h4,h5,h6⟩:=key
 rw[show upF (fun y s=>bIn adj x y s) n 0 s=bRow adj n x s from rfl]at C2 h4 h5 h6
 refine⟨C2.vis,C2.sorted,C2.walk,fun j hj hjl y hy=> ?_,fun hi1 k hk=> ?_,C2.start⟩
 ·by_cases c:j=i
  ·subst c
   rw[h5]at hy⊢
   exact h6 y (hR _ _ hy) hy
  ·exact C2.closed j (by omega) hjl y hy
 ·have h1:=C2.bound h4 k hk
  have h2:=C2.sorted i (i+1) (by omega) hi1
  omega
theorem ci_all {adj:Nat→Nat→Bool} {rows:List Int} {n v:Nat} (hadj: ∀x y,x<n→y<n→(adj x y=true↔rbit rows x y=true)) (hR: ∀x y,rbit rows x y=true→y<n): ∀(k i:Nat) {s:(Nat→Int) × List Int},BI n s→CI rows n v i s→n≤i+k→
  CI rows n v n (bAll adj n k i s)∧ ∀j,j<(bAll adj n k i s).2.length→ ∀y,rbit rows ((bAll adj n k i s).2.getD j 0).toNat y=true→0≤(bAll adj n k i s).1 y∧(bAll adj n k i s).1 y≤(bAll adj n k i s).1 ((bAll adj n k i s).2.getD j 0).toNat+1
 | 0, i, s, B, C, h => by
  have hl:=B.len
  rw[bAll]
  exact⟨⟨C.vis,C.sorted,C.walk,fun j _ hj2=>C.closed j (by omega) hj2,fun h2=>by omega,C.start⟩,fun j hj=>C.closed j (by omega) hj⟩
 | k + 1, i, s, B, C, h => by
  have hl:=B.len
  rw[bAll]
  by_cases hi:i<s.2.length
  ·rw[if_pos hi]
   obtain⟨q1,q2,q3⟩:=B.q i hi
   exact ci_all hadj hR k (i+1) (B.bRow q3) (ci_row hadj hR B C hi rfl (by omega) q3) (by omega)
  ·rw[if_neg hi]
   exact⟨⟨C.vis,C.sorted,C.walk,fun j _ hj2=>C.closed j (by omega) hj2,fun h2=>by omega,C.start⟩,fun j hj=>C.closed j (by omega) hj⟩
theorem ci_b0 (rows:List Int) {n v:Nat}:CI rows n v 0 (b0 v):=by
 refine⟨fun w _ h0=> ?_,fun j k hjk hk=> ?_,fun w h0=> ?_,fun j hj=>by omega,fun _ k hk=> ?_,by simp[b0,upd]⟩
 ·have:w=v:=by
   simp only[b0,upd]at h0
   split at h0
   ·assumption
   ·omega
  subst this
  exact⟨0,by simp[b0],by simp[b0]⟩
 ·have:k=0:=by simpa [b0]using hk
  subst this
  have:j=0:=by omega
  subst this
  exact Int.le_refl _
 ·simp only[b0,upd]at h0⊢
  split at h0
  ·rename_i e;subst e;simp[Wk]
  ·omega
 ·have:k=0:=by simpa [b0]using hk
  subst this
  omega
theorem fromF_dist {adj:Nat→Nat→Bool} {rows:List Int} {n v:Nat} (R:Rok n rows) (hadj: ∀x y,x<n→y<n→(adj x y=true↔rbit rows x y=true)) (hv:v<n) {w:Nat} (hw:w<n):IsDist rows v w ((fromF adj n v).getD w 0):=by
 obtain⟨C,hcl⟩:=ci_all hadj (fun x y h=>(rbit_lt R h).2) n 0 (BI.b0 hv) (ci_b0 rows (n:=n) (v:=v)) (by omega)
 have B:=BI.bAll (adj:=adj) n 0 (BI.b0 hv)
 unfold fromF
 rw[tbl_getD hw]
 obtain⟨t,ht⟩: ∃t,t=bAll adj n n 0 (b0 v):=⟨_,rfl⟩
 rw[←ht]at C hcl B⊢
 have key: ∀e w,Wk rows e v w→0≤t.1 w∧t.1 w≤e:=by
  intro e
  induction e with
  | zero => intro w h; cases h; have := C.start; omega
  | succ e ih =>
   rintro w ⟨c,h1,h2⟩
   obtain⟨h3,h4⟩:=ih c h1
   obtain⟨j,h5,h6⟩:=C.vis c (rbit_lt R h2).1 h3
   have:=hcl j h5 w (by rw[h6,Int.toNat_natCast];exact h2)
   rw[h6,Int.toNat_natCast]at this
   omega
 by_cases h0:0≤t.1 w
 ·refine .inr ⟨(t.1 w).toNat,by omega,C.walk w h0,fun e he hwk=> ?_⟩
  have:=key e w hwk
  omega
 ·have:=B.lo w
  refine .inl ⟨by omega,fun e hwk=> ?_⟩
  have:=key e w hwk
  omega
theorem fromF_eq {adj:Nat→Nat→Bool} {rows:List Int} {n v:Nat} (R:Rok n rows) (hadj: ∀x y,x<n→y<n→(adj x y=true↔rbit rows x y=true)) (hv:v<n):fromF adj n v=dists rows n v:=by
 apply List.ext_getElem
 ·rw[fromF_len,dists_len]
 ·intro w h1 h2
  rw[fromF_len]at h1
  have e1:=(fromF_dist R hadj hv h1).unique (far_dist R hv w) (fun k=>Iff.rfl)
  rw[←dists_get R hv h1]at e1
  rw[getD_at _ (by rw[fromF_len];exact h1),getD_at _ h2]at e1
  exact e1
theorem adjE_cut {n:Nat} {rows:List Int} (g:GV n rows) {a b:Nat} (ha:a<n) (hb:b<n) (hab:rbit rows a b=true) (x y:Nat):adjE rows a b x y=true↔rbit (cut2 rows a b) x y=true:=by
 rw[(cut_rok g ha hb hab).2]
 unfold adjE
 simp only[Bool.and_eq_true,Bool.not_eq_true',Bool.and_eq_false_iff,decide_eq_false_iff_not]
 constructor
 ·rintro⟨⟨h1,h2⟩,h3⟩
  exact⟨h1,fun h=>by omega⟩
 ·rintro⟨h1,h2⟩
  exact⟨⟨h1,by omega⟩,by omega⟩
theorem c_spec_fromCut (n v a b:Nat) (s:Value) (rows:List Int) (h:VH) (hs:Sli h s rows) (g:GV n rows) (hv:v<n) (hab:rbit rows a b=true) (hn:nro≤h.length):
  vcall F nro k_zz93 [gv n s,.int .i64 v,.int .i64 a,.int .i64 b] h=some (.slice (some ⟨h.length,0,none⟩) n n,h++ [⟨1,ints (dists (cut2 rows a b) n v)⟩]):=by
 obtain⟨ha,hb⟩:=rbit_lt g.rok hab
 rw[c_zz93 n v a b s rows h hs g.rok hv hn,fromF_eq (cut_rok g ha hb hab).1 (fun x y _ _=>adjE_cut g ha hb hab x y) hv]
end

/- Shortest ways are counted: by layers, and by walks. -/
section
open Go
variable {nro:Nat}
theorem w_eq (n:Int):IntKind.i64.wrap n=(n+9223372036854775808) % 18446744073709551616 - 9223372036854775808:=IntKind.wrap_i64 n
theorem w_add (x y:Int):IntKind.i64.wrap (IntKind.i64.wrap x+IntKind.i64.wrap y)=IntKind.i64.wrap (x+y):=by
 rw[w_eq,w_eq,w_eq,w_eq];omega
theorem w_zero:IntKind.i64.wrap 0=0:=by rw[w_eq];rfl
theorem w_one:IntKind.i64.wrap 1=1:=by rw[w_eq];rfl
def wkN (rows:List Int) (n a:Nat):Nat→Nat→Int
 | 0, u => if u = a then 1 else 0
 | k + 1, u => sumF (fun w => if rbit rows w u = true then wkN rows n a k w else 0) n
theorem wkN_none {rows:List Int} {n a:Nat}: ∀(k u:Nat),¬Wk rows k a u→wkN rows n a k u=0
 | 0, u, h => by
  rw[wkN,if_neg (fun e=>h e.symm)]
 | k + 1, u, h => by
  rw[wkN]
  have:sumF (fun w=>if rbit rows w u=true then wkN rows n a k w else 0) n=sumF (fun _=>0) n:=by
   apply sumF_congr
   intro w _
   split
   ·rename_i hb
    exact wkN_none k w (fun hw=>h ⟨w,hw,hb⟩)
   ·rfl
  rw[this,sumF_zero]
def yIn (rows:List Int) (D:Nat→Int) (a b d x y:Nat) (g:Nat→Int):Nat→Int:=
 if rbit rows x y=true∧D y=d+1∧ ¬(x=a∧y=b)then upd g y (IntKind.i64.wrap (g y+g x))else g
def xIn (rows:List Int) (D:Nat→Int) (a b d n x:Nat) (g:Nat→Int):Nat→Int:=if D x=d then upF (fun y g=>yIn rows D a b d x y g) n 0 g else g
def dIn (rows:List Int) (D:Nat→Int) (a b n d:Nat) (g:Nat→Int):Nat→Int:=upF (fun x g=>xIn rows D a b d n x g) n 0 g
def ways (rows:List Int) (D:Nat→Int) (a b n m:Nat):Nat→Int:=upF (fun d g=>dIn rows D a b n d g) m 0 (upd (fun _=>0) a 1)
def wh (h:VH) (n:Int) (s:Value) (D:List Int) (N:Nat) (g:Nat→Int):VH:=h++ [⟨0,[.int .i64 n,s]⟩,⟨1,ints D⟩,⟨1,ints (tbl N g)⟩]
theorem l_zz77_1 (h:VH) (n:Nat) (s:Value) (rows D:List Int) (hD:D.length=n) (hs:Sli h s rows) (R:Rok n rows) (a b:Nat) (hn:nro≤h.length) (d x:Nat) (hd:d≤1000) (hx:x<n) (hDx:D.getD x 0=d) (g0:Nat→Int):
  floop (vcall F nro) nro [1,2,3,8,9,10,11,12] i_zz77_B1 (wh h n s D n g0) [.int .i64 a,.int .i64 b,bp h,.slice (some ⟨h.length+1,0,none⟩) n n,.slice (some ⟨h.length+2,0,none⟩) n n,.int .i64 d,.int .i64 x,.int .i64 0] (wh h n s D n g0)=
   some (.exit 4,fl [(1,.int .i64 a),(2,.int .i64 b),(3,bp h),(8,.slice (some ⟨h.length+1,0,none⟩) n n),(9,.slice (some ⟨h.length+2,0,none⟩) n n),(10,.int .i64 d),(11,.int .i64 x)],wh h n s D n (xIn rows (fun i=>D.getD i 0) a b d n x g0)):=by
 have hn' :=fun k=>Nat.le_trans hn (Nat.le_add_right h.length k)
 have hso:=fun k=>hs.oldCk (k:=k)
 have hle:=R.le
 have hlen:=R.len
 unfold xIn
 rw[if_pos hDx]
 have hxD:x<D.length:=by omega
 have hDx' :D[x]=(d:Int):=by rw[←getD_at D hxD];exact hDx
 have tx:=take1_ints hxD
 rw[hDx']at tx
 refine(for_up (call:=vcall F nro) (nro:=nro) (live:= [1,2,3,8,9,10,11,12]) (c:=i_zz77_B1) (h0:=wh h n s D n g0) (n:=n) (fun y (_:Nat→Int)=> [.int .i64 a,.int .i64 b,bp h,.slice (some ⟨h.length+1,0,none⟩) n n,.slice (some ⟨h.length+2,0,none⟩) n n,.int .i64 d,.int .i64 x,.int .i64 y]) (fun _ g=>wh h n s D n g) (fun y g=>yIn rows (fun i=>D.getD i 0) a b d x y g) (fun _ _=>True)
  (fun g=>some (.exit 4,fl [(1,.int .i64 a),(2,.int .i64 b),(3,bp h),(8,.slice (some ⟨h.length+1,0,none⟩) n n),(9,.slice (some ⟨h.length+2,0,none⟩) n n),(10,.int .i64 d),(11,.int .i64 x)],wh h n s D n g)) ?_ ?_ 0 g0 (Nat.zero_le _) trivial).1
 ·intro y g hy hy2 _
  refine⟨trivial,?_⟩
  obtain⟨r1,r2⟩:=R.row x hx
  have r3:=le62 hle r2
  have hvl:x<rows.length:=by omega
  have vx:=fun L=>(hs.app L).vidx (k:= .i64) (j:=(x:Int)) (by omega) (by omega)
  have vl:=fun L=>(hs.app L).vload hvl
  have w1:IntKind.u64.wrap (y:Int)=y:=wrapu64 (by omega) (by omega)
  have hbit:=bit_two (a:=rows.getD x 0) (b:=(y:Int)) r1 (by omega) (by omega)
  rw[Int.toNat_natCast,getD_at rows hvl]at hbit
  have hrb:rbit rows x y=(rows[x]'hvl).toNat.testBit y:=by unfold rbit;rw[getD_at rows hvl]
  rw[←hrb]at hbit
  have w2:IntKind.i64.wrap ((d:Int)+1)=d+1:=wrap64 (by omega) (by omega)
  have w3:IntKind.i64.wrap ((y:Int)+1)=(y:Int)+1:=wrap64 (by omega) (by omega)
  have hyD:y<D.length:=by omega
  have ty:=take1_ints hyD
  have hDy:D.getD y 0=D[y]:=getD_at D hyD
  have t1:=tbl_take1 (g:=g) hy
  have t2:=tbl_take1 (g:=g) hx
  have hx2:(x:Int)<n:=by omega
  rw[floop_at i_zz77_B1.eq_1]
  unfold wh yIn
  simp only[hDy]
  obtain⟨z,hz⟩: ∃z,z=D[y]:=⟨_,rfl⟩
  rw[←hz]at ty⊢
  obtain⟨q,hq⟩: ∃q,q=IntKind.i64.wrap (g y+g x):=⟨_,rfl⟩
  have hq2:=hq.symm
  rw[hq2]
  have t3:=tbl_splice (g:=g) (x:=q) hy
  clear r1 r2 r3 hrb hDy hDx hDx' hz hq
  by_cases c1:rbit rows x y=true
  ·rw [if_pos c1] at hbit
   by_cases c2:z=d+1
   ·by_cases c3:x=a∧y=b
    ·obtain⟨rfl,rfl⟩:=c3
     simp (disch:=first|assumption|omega|(simp[*]<;>omega)|fail) [hy,hy2,hx,hx2,vx,vl,w1,hbit,c1,c2,tx,ty,w2,w3,hn',hso,hD]
    ·by_cases c4:x=a
     ·have c5: ¬y=b:=fun e=>c3 ⟨c4,e⟩
      have c5' : ¬(y:Int)=b:=by omega
      subst c4
      simp (disch:=first|assumption|omega|(simp[*]<;>omega)|fail) [hy,hy2,hx,hx2,vx,vl,w1,hbit,c1,c2,c5,c5',tx,ty,t1,t2,t3,hq2,w2,w3,hn',hso,hD]
     ·have c4' : ¬(x:Int)=a:=by omega
      simp (disch:=first|assumption|omega|(simp[*]<;>omega)|fail) [hy,hy2,hx,hx2,vx,vl,w1,hbit,c1,c2,c4,c4',tx,ty,t1,t2,t3,hq2,w2,w3,hn',hso,hD]
   ·simp (disch:=first|assumption|omega|(simp[*]<;>omega)|fail) [hy,hy2,hx,hx2,vx,vl,w1,hbit,c1,c2,tx,ty,w2,w3,hn',hso,hD]
  ·rw[if_neg c1]at hbit
   simp (disch:=first|assumption|omega|(simp[*]<;>omega)|fail) [hy,hy2,hx,hx2,vx,vl,w1,hbit,c1,tx,w3,hn',hso,hD]
 ·intro g _
  rw[floop_at i_zz77_B1.eq_1]
  unfold wh
  simp (disch:=first|assumption|omega|(simp[*]<;>omega)|fail) [hn',hso]
theorem l_zz77_2 (h:VH) (n:Nat) (s:Value) (rows D:List Int) (hD:D.length=n) (hs:Sli h s rows) (R:Rok n rows) (a b:Nat) (hn:nro≤h.length) (d:Nat) (hd:d≤1000) (g0:Nat→Int):
  floop (vcall F nro) nro [1,2,3,8,9,10,11] i_zz77_B2 (wh h n s D n g0) [.int .i64 a,.int .i64 b,bp h,.slice (some ⟨h.length+1,0,none⟩) n n,.slice (some ⟨h.length+2,0,none⟩) n n,.int .i64 d,.int .i64 0] (wh h n s D n g0)=
   some (.exit 2,fl [(1,.int .i64 a),(2,.int .i64 b),(3,bp h),(8,.slice (some ⟨h.length+1,0,none⟩) n n),(9,.slice (some ⟨h.length+2,0,none⟩) n n),(10,.int .i64 d)],wh h n s D n (dIn rows (fun i=>D.getD i 0) a b n d g0)):=by
 have hn' :=fun k=>Nat.le_trans hn (Nat.le_add_right h.length k)
 have hso:=fun k=>hs.oldCk (k:=k)
 have hle:=R.le
 refine(for_up (call:=vcall F nro) (nro:=nro) (live:= [1,2,3,8,9,10,11]) (c:=i_zz77_B2) (h0:=wh h n s D n g0) (n:=n) (fun x (_:Nat→Int)=> [.int .i64 a,.int .i64 b,bp h,.slice (some ⟨h.length+1,0,none⟩) n n,.slice (some ⟨h.length+2,0,none⟩) n n,.int .i64 d,.int .i64 x]) (fun _ g=>wh h n s D n g) (fun x g=>xIn rows (fun i=>D.getD i 0) a b d n x g) (fun _ _=>True)
  (fun g=>some (.exit 2,fl [(1,.int .i64 a),(2,.int .i64 b),(3,bp h),(8,.slice (some ⟨h.length+1,0,none⟩) n n),(9,.slice (some ⟨h.length+2,0,none⟩) n n),(10,.int .i64 d)],wh h n s D n g)) ?_ ?_ 0 g0 (Nat.zero_le _) trivial).1
 ·intro x g hx hx2 _
  refine⟨trivial,?_⟩
  rw[floop_at i_zz77_B2.eq_1]
  by_cases c:D.getD x 0=d
  ·have l1:=l_zz77_1 (nro:=nro) h n s rows D hD hs R a b hn d x hd hx c g
   obtain⟨q,hq⟩: ∃q,q=xIn rows (fun i=>D.getD i 0) a b d n x g:=⟨_,rfl⟩
   rw[←hq]at l1⊢
   clear hq c
   unfold wh at l1⊢
   simp (disch:=first|assumption|omega|(simp[*]<;>omega)|fail) [hx,hx2,l1,hn',hso,wrap64]
  ·have hxD:x<D.length:=by omega
   have tx:=take1_ints hxD
   have e:xIn rows (fun i=>D.getD i 0) a b d n x g=g:=by unfold xIn;rw[if_neg c]
   rw[getD_at D hxD]at c
   rw[e]
   obtain⟨z,hz⟩: ∃z,z=D[x]:=⟨_,rfl⟩
   rw[←hz]at tx c
   have l1:floop (vcall F nro) nro [1,2,3,8,9,10,11,12] i_zz77_B1 (wh h n s D n g) [.int .i64 a,.int .i64 b,bp h,.slice (some ⟨h.length+1,0,none⟩) n n,.slice (some ⟨h.length+2,0,none⟩) n n,.int .i64 d,.int .i64 x,.int .i64 0] (wh h n s D n g)=
     some (.exit 4,fl [(1,.int .i64 a),(2,.int .i64 b),(3,bp h),(8,.slice (some ⟨h.length+1,0,none⟩) n n),(9,.slice (some ⟨h.length+2,0,none⟩) n n),(10,.int .i64 d),(11,.int .i64 x)],wh h n s D n g):=by
    have h0:(0:Int)<n:=by omega
    have h0' :0<n:=by omega
    rw[floop_at i_zz77_B1.eq_1]
    unfold wh
    simp (disch:=first|assumption|omega|(simp[*]<;>omega)|fail) [hx,hx2,tx,c,h0,h0',hD,hn',hso]
   unfold wh at l1⊢
   clear e hz
   simp (disch:=first|assumption|omega|(simp[*]<;>omega)|fail) [hx,hx2,l1,hn',hso,wrap64]
 ·intro g _
  rw[floop_at i_zz77_B2.eq_1]
  unfold wh
  simp (disch:=first|assumption|omega|(simp[*]<;>omega)|fail) [hn',hso]
theorem l_zz77_3 (h:VH) (n:Nat) (s:Value) (rows D:List Int) (hD:D.length=n) (hs:Sli h s rows) (R:Rok n rows) (a b:Nat) (hb:b<n) (hn:nro≤h.length) (m:Nat) (hm:m≤1000) (hDb:D.getD b 0=m) (g0:Nat→Int):
  floop (vcall F nro) nro [1,2,3,8,9,10] i_zz77_B3 (wh h n s D n g0) [.int .i64 a,.int .i64 b,bp h,.slice (some ⟨h.length+1,0,none⟩) n n,.slice (some ⟨h.length+2,0,none⟩) n n,.int .i64 0] (wh h n s D n g0)=
   some (.exit 0,fl [(2,.int .i64 b),(8,.slice (some ⟨h.length+1,0,none⟩) n n),(9,.slice (some ⟨h.length+2,0,none⟩) n n)],wh h n s D n (upF (fun d g=>dIn rows (fun i=>D.getD i 0) a b n d g) m 0 g0)):=by
 have hn' :=fun k=>Nat.le_trans hn (Nat.le_add_right h.length k)
 have hso:=fun k=>hs.oldCk (k:=k)
 have hle:=R.le
 have hbD:b<D.length:=by omega
 have tb:=take1_ints hbD
 rw[←getD_at D hbD,hDb]at tb
 have hb2:(b:Int)<n:=by omega
 refine(for_up (call:=vcall F nro) (nro:=nro) (live:= [1,2,3,8,9,10]) (c:=i_zz77_B3) (h0:=wh h n s D n g0) (n:=m) (fun d (_:Nat→Int)=> [.int .i64 a,.int .i64 b,bp h,.slice (some ⟨h.length+1,0,none⟩) n n,.slice (some ⟨h.length+2,0,none⟩) n n,.int .i64 d]) (fun _ g=>wh h n s D n g) (fun d g=>dIn rows (fun i=>D.getD i 0) a b n d g) (fun _ _=>True)
  (fun g=>some (.exit 0,fl [(2,.int .i64 b),(8,.slice (some ⟨h.length+1,0,none⟩) n n),(9,.slice (some ⟨h.length+2,0,none⟩) n n)],wh h n s D n g)) ?_ ?_ 0 g0 (Nat.zero_le _) trivial).1
 ·intro d g hd hd2 _
  refine⟨trivial,?_⟩
  have l1:=l_zz77_2 (nro:=nro) h n s rows D hD hs R a b hn d (by omega) g
  rw[floop_at i_zz77_B3.eq_1]
  obtain⟨q,hq⟩: ∃q,q=dIn rows (fun i=>D.getD i 0) a b n d g:=⟨_,rfl⟩
  rw[←hq]at l1⊢
  clear hq hDb
  unfold wh at l1⊢
  simp (disch:=first|assumption|omega|(simp[*]<;>omega)|fail) [hb,hb2,tb,hd,hd2,l1,hn',hso,wrap64,hD]
 ·intro g _
  rw[floop_at i_zz77_B3.eq_1]
  clear hDb
  unfold wh
  simp (disch:=first|assumption|omega|(simp[*]<;>omega)|fail) [hb,hb2,tb,hn',hso,hD]
end

/- Layers and walks count alike; the least length of a cycle with an edge, and how many there are. -/
section
open Go
variable {nro:Nat}
theorem yIn_all (rows : List Int) (D : Nat → Int) (a b d x : Nat) (hx : D x = d) (n i : Nat) (g : Nat → Int) (y : Nat) : upF (fun y g => yIn rows D a b d x y g) n i g y = if i ≤ y ∧ y < n ∧ rbit rows x y = true ∧ D y = d + 1 ∧ ¬ (x = a ∧ y = b) then IntKind.i64.wrap (g y + g x) else g y := by
  by_cases h:i<n
  · rw [upF_step h, yIn_all rows D a b d x hx n (i + 1)]
    have hx2:yIn rows D a b d x i g x=g x:=by
      unfold yIn
      split
      · rename_i hc
        have:x≠i:=by rintro rfl;omega
        rw[upd_ne this]
      · rfl
    rw[hx2]
    by_cases e:y=i
    · subst e
      rw[if_neg (by omega)]
      unfold yIn
      by_cases c:rbit rows x y=true∧D y=d+1∧ ¬(x=a∧y=b)
      · rw[if_pos c,upd_same,if_pos ⟨Nat.le_refl _,h,c⟩]
      · rw[if_neg c,if_neg (fun h=>c h.2.2)]
    · have e2 : yIn rows D a b d x i g y = g y := by
        unfold yIn
        split
        · rw[upd_ne e]
        · rfl
      rw[e2]
      have:(i+1≤y∧y<n∧rbit rows x y=true∧D y=d+1∧ ¬(x=a∧y=b))↔(i≤y∧y<n∧rbit rows x y=true∧D y=d+1∧ ¬(x=a∧y=b)):=by
        constructor
        · rintro⟨h1,h2⟩;exact⟨by omega,h2⟩
        · rintro⟨h1,h2⟩;exact⟨by omega,h2⟩
      simp only[this]
  · rw[upF_end h,if_neg (by omega)]
 termination_by n - i
theorem dIn_all (rows:List Int) (D:Nat→Int) (a b n d:Nat) (f:Nat→Int) (g0:Nat→Int) (hg: ∀x,x<n→D x=d→g0 x=IntKind.i64.wrap (f x)) (h0: ∀y,y<n→D y=d+1→g0 y=0) (y:Nat) (hy:y<n):
  dIn rows D a b n d g0 y=if D y=d+1 then IntKind.i64.wrap (sumF (fun x=>if D x=d∧rbit rows x y=true∧ ¬(x=a∧y=b)then f x else 0) n)else g0 y:=by
 have key:=upF_inv (f:=fun x g=>xIn rows D a b d n x g) (n:=n) (fun i g=> ∀y,y<n→g y=if D y=d+1 then IntKind.i64.wrap (sumF (fun x=>if D x=d∧rbit rows x y=true∧ ¬(x=a∧y=b)then f x else 0) i)else g0 y) (fun i g hi hI y hy=> ?_) 0 g0 (Nat.zero_le _) (fun y hy=> ?_)
 ·exact key y hy
 ·rw[sumF]
  unfold xIn
  by_cases c:D i=d
  ·rw[if_pos c,yIn_all rows D a b d i c]
   by_cases c2:D y=d+1
   ·rw[if_pos c2]
    have e1:=hI y hy
    rw[if_pos c2]at e1
    have e2:=hI i hi
    rw[if_neg (by omega),hg i hi c]at e2
    by_cases c3:rbit rows i y=true∧ ¬(i=a∧y=b)
    ·rw[if_pos ⟨Nat.zero_le _,hy,c3.1,c2,c3.2⟩,if_pos ⟨c,c3.1,c3.2⟩,e1,e2,w_add]
    ·rw[if_neg (fun h=>c3 ⟨h.2.2.1,h.2.2.2.2⟩),if_neg (fun h=>c3 ⟨h.2.1,h.2.2⟩),e1,Int.add_zero]
   ·rw[if_neg c2,if_neg (fun h=>c2 h.2.2.2.1),hI y hy,if_neg c2]
  ·simp only[c,false_and,if_false,Int.add_zero]
   exact hI y hy
 ·by_cases c2:D y=d+1
  ·rw[if_pos c2,h0 y hy c2]
   simp only[sumF]
   exact w_zero.symm
  ·rw[if_neg c2]
theorem dist_far {rows:List Int} {n a:Nat} (R:Rok n rows) (ha:a<n) {y d:Nat} (h:far rows a y=d):Dst rows d a y:=by
 rcases far_dist R ha y with⟨h1,_⟩|⟨e,h1,h2⟩
 ·omega
 ·have:e=d:=by omega
  subst this;exact h2
theorem far_of {rows:List Int} {n a:Nat} (R:Rok n rows) (ha:a<n) {y d:Nat} (h:Dst rows d a y):far rows a y=d:=by
 rcases far_dist R ha y with⟨_,h2⟩|⟨e,h1,h2⟩
 ·exact absurd h.1 (h2 d)
 ·rw[h1,h2.unique h]
theorem ways_eq {n:Nat} {rows:List Int} (g:GV n rows) {a b:Nat} (hab:rbit rows a b=true) (m y:Nat) (hy:y<n):
  ways rows (fun i=>(dists (cut2 rows a b) n a).getD i 0) a b n m y=if 0≤far (cut2 rows a b) a y∧far (cut2 rows a b) a y≤m then IntKind.i64.wrap (wkN (cut2 rows a b) n a (far (cut2 rows a b) a y).toNat y)else 0:=by
 obtain⟨ha,hb⟩:=rbit_lt g.rok hab
 obtain⟨R2,hcut⟩:=cut_rok g ha hb hab
 obtain⟨C,hC⟩: ∃C,C=cut2 rows a b:=⟨_,rfl⟩
 rw[←hC]at R2 hcut⊢
 have hDg: ∀y,y<n→(dists C n a).getD y 0=far C a y:=fun y hy=>dists_get R2 ha hy
 unfold ways
 have key:=upF_inv (f:=fun d g=>dIn rows (fun i=>(dists C n a).getD i 0) a b n d g) (n:=m) (fun d g=> ∀y,y<n→g y=if 0≤far C a y∧far C a y≤d then IntKind.i64.wrap (wkN C n a (far C a y).toNat y)else 0) (fun d g _ hI y hy=> ?_) 0 (upd (fun _=>0) a 1) (Nat.zero_le _) (fun y hy=> ?_)
 ·exact key y hy
 ·rw [dIn_all rows _ a b n d (fun x => wkN C n a d x) g (fun x hx hxd => ?_) (fun y hy hyd => ?_) y hy]
  ·rw [hDg y hy]
   by_cases c:far C a y=d+1
   ·rw [if_pos c, if_pos ⟨by omega, by omega⟩, c, show ((d : Int) + 1).toNat = d + 1 by omega, wkN]
    congr 1
    apply sumF_congr
    intro x hx
    rw[hDg x hx]
    have hyd:Dst C (d+1) a y:=dist_far R2 ha (by rw[c];omega)
    by_cases c2:far C a x=d
    ·have hxd:Dst C d a x:=dist_far R2 ha c2
     have e:(rbit rows x y=true∧ ¬(x=a∧y=b))↔rbit C x y=true:=by
      rw[hcut]
      constructor
      ·rintro⟨h1,h2⟩
       refine⟨h1,fun h3=> ?_⟩
       rcases h3 with h3|⟨_,h4⟩
       ·exact h2 h3
       ·subst h4
        exact hyd.2 0 (by omega) rfl
      ·rintro⟨h1,h2⟩;exact⟨h1,fun h3=>h2 (.inl h3)⟩
     simp only[c2,true_and,e]
    ·rw[if_neg (fun h=>c2 h.1)]
     split
     ·rename_i hb2
      symm
      apply wkN_none
      intro hw
      apply c2
      refine far_of R2 ha ⟨hw,fun e he hwe=> ?_⟩
      exact hyd.2 (e+1) (by omega) ⟨x,hwe,hb2⟩
     ·rfl
   ·rw[if_neg c,hI y hy]
    have:(0≤far C a y∧far C a y≤((d+1:Nat):Int))↔(0≤far C a y∧far C a y≤d):=by omega
    simp only[this]
  ·rw[hDg x hx]at hxd
   rw[hI x hx,if_pos ⟨by omega,by omega⟩,hxd,Int.toNat_natCast]
  ·rw[hDg y hy]at hyd
   rw[hI y hy,if_neg (by omega)]
 ·have hge:=far_ge C a y
  by_cases e:y=a
  ·subst e
   have:far C y y=((0:Nat):Int):=far_of R2 ha ⟨rfl,fun e he=>by omega⟩
   rw[upd_same,this,if_pos ⟨by omega,by omega⟩,Int.toNat_natCast]
   simp only[wkN,if_true]
   exact w_one.symm
  ·rw[upd_ne e,if_neg]
   intro h
   have:far C a y=((0:Nat):Int):=by omega
   have h2:a=y:=(dist_far R2 ha this).1
   exact e h2.symm
def arN (rows:List Int) (n a b:Nat):Int:=if far (cut2 rows a b) a b<0 then 0 else IntKind.i64.wrap (wkN (cut2 rows a b) n a (far (cut2 rows a b) a b).toNat b)
theorem Dst.small {n:Nat} {rows:List Int} (R:Rok n rows) {a:Nat} (ha:a<n): ∀(d y:Nat),Dst rows d a y→y<n→d<n:=by
 intro d y hd hy
 -- vertices at the distances 0 .. d are all different
 have hc: ∀e,e≤d→ ∃c,c<n∧Dst rows e a c:=by
  intro e he
  obtain⟨m,rfl⟩: ∃m,d=e+m:=⟨d - e,by omega⟩
  cases m with
  | zero => exact ⟨y, hy, hd⟩
  | succ m =>
   obtain⟨c,h1⟩:=hd.before
   cases e with
   | zero => have : a = c := h1.1; subst this; exact ⟨a, ha, h1⟩
   | succ e =>
    obtain⟨c0,_,h2⟩:=h1.1
    exact⟨c,(rbit_lt R h2).2,h1⟩
 apply Classical.byContradiction
 intro hno
 -- n + 1 places in n
 have inj: ∀(m:Nat) (f:Nat→Nat),(∀i,i≤m→f i<m)→ ∃i j,i<j∧j≤m∧f i=f j:=by
  intro m
  induction m with
  | zero => intro f hf; have := hf 0 (Nat.le_refl _); omega
  | succ m ih =>
   intro f hf
   by_cases h1: ∃i,i≤m∧f i=f (m+1)
   ·obtain⟨i,h2,h3⟩:=h1
    exact⟨i,m+1,by omega,by omega,h3⟩
   ·have hne: ∀i,i≤m→f i≠f (m+1):=fun i hi he=>h1 ⟨i,hi,he⟩
    obtain⟨i,j,h2,h3,h4⟩:=ih (fun i=>if f i=m then f (m+1)else f i) (fun i hi=>by
     have h5:=hf i (by omega)
     have h6:=hf (m+1) (by omega)
     have h7:=hne i hi
     split<;>omega)
    refine⟨i,j,h2,by omega,?_⟩
    have h5:=hne i (by omega)
    have h6:=hne j (by omega)
    split at h4<;>split at h4<;>omega
 obtain⟨f,hf⟩: ∃f:Nat→Nat,∀e,e≤d→f e<n∧Dst rows e a (f e):=by
  refine⟨fun e=>if h:e≤d then Classical.choose (hc e h)else 0,fun e he=> ?_⟩
  simp only[dif_pos he]
  exact Classical.choose_spec (hc e he)
 obtain⟨i,j,h1,h2,h3⟩:=inj n f (fun i hi=>(hf i (by omega)).1)
 have d1:=(hf i (by omega)).2
 have d2:=(hf j (by omega)).2
 rw[h3]at d1
 have:=d1.unique d2
 omega
theorem far_small {n:Nat} {rows:List Int} (R:Rok n rows) {a b:Nat} (ha:a<n) (hb:b<n):far rows a b<n:=by
 rcases far_dist R ha b with⟨h,_⟩|⟨d,h1,h2⟩
 ·omega
 ·have:=Dst.small R ha d b h2 hb
  omega
theorem c_zz77 (n a b:Nat) (s:Value) (rows:List Int) (h:VH) (hs:Sli h s rows) (g:GV n rows) (hab:rbit rows a b=true) (hn:nro≤h.length):
  vcall F nro k_zz77 [gv n s,.int .i64 a,.int .i64 b] h=some (.tuple #[.int .i64 (arF rows a b),.int .i64 (arN rows n a b)],h):=by
 have hn' :=fun k=>Nat.le_trans hn (Nat.le_add_right h.length k)
 have hso:=fun k=>hs.oldCk (k:=k)
 obtain⟨ha,hb⟩:=rbit_lt g.rok hab
 obtain⟨R2,_⟩:=cut_rok g ha hb hab
 have R:=g.rok
 have hle:=R.le
 refine v_zz77 (by simp[i_zz77]) ?_
 rw[fbody_eq]
 have c1:=c_spec_fromCut (nro:=nro) n a a b s rows (bx h n s) (hs.app _) g ha hab (by simp;omega)
 have hDl:=dists_len (cut2 rows a b) n a
 have hDb:=dists_get R2 ha hb
 have hsm:=far_small R2 ha hb
 have hge:=far_ge (cut2 rows a b) a b
 have hw:=fun m=>ways_eq g hab m b hb
 unfold arF arN
 obtain⟨x,hx⟩: ∃x,x=far (cut2 rows a b) a b:=⟨_,rfl⟩
 rw[←hx]at hDb hsm hge hw⊢
 obtain⟨D,hD⟩: ∃D,D=dists (cut2 rows a b) n a:=⟨_,rfl⟩
 rw[←hD]at c1 hDl hDb hw
 have hbD:b<D.length:=by omega
 have tb:=take1_ints hbD
 rw[←getD_at D hbD,hDb]at tb
 have hb2:(b:Int)<n:=by omega
 have ha2:(a:Int)<n:=by omega
 simp at c1
 by_cases c:x<0
 ·have:x= -1:=by omega
  subst this
  clear hx hD hw hDb
  simp (disch:=first|assumption|omega|(simp[*]<;>omega)|fail) [i_zz77,c1,tb,hb,hb2,hn',hso,hDl]
 ·obtain⟨m,hm⟩: ∃m:Nat,x=m:=⟨x.toNat,by omega⟩
  rw[hm]at hDb hw tb hsm c⊢
  have l3:=l_zz77_3 (nro:=nro) h n s rows D hDl hs R a b hb hn m (by omega) hDb (upd (fun _=>0) a 1)
  have hw2:=hw m
  rw[if_pos ⟨by omega,Int.le_refl _⟩]at hw2
  unfold ways at hw2
  have t1:=tbl_take1 (n:=n) (g:=upF (fun d g=>dIn rows (fun i=>D.getD i 0) a b n d g) m 0 (upd (fun _=>0) a 1)) hb
  rw[hw2]at t1
  rw[if_neg c]
  have t3:=tbl_splice (g:=fun _=>0) (x:=1) ha
  have e0:ints (List.replicate n 0)=ints (tbl n fun _=>0):=by rw[tbl_const]
  obtain⟨G,hG⟩: ∃G,G=upF (fun d g=>dIn rows (fun i=>D.getD i 0) a b n d g) m 0 (upd (fun _=>0) a 1):=⟨_,rfl⟩
  rw[←hG]at l3 t1
  obtain⟨q,hq⟩: ∃q,q=IntKind.i64.wrap (wkN (cut2 rows a b) n a (m:Int).toNat b):=⟨_,rfl⟩
  rw[←hq]at t1⊢
  have w1:IntKind.i64.wrap ((m:Int)+1)=m+1:=wrap64 (by omega) (by omega)
  unfold wh at l3
  try simp at l3
  have k1: ¬(m:Int)<0:=by omega
  have k2:8 * (n:Int)≤140737488355328:=by omega
  have k3:(n:Int)≤140737488355328:=by omega
  clear hx hD hw hw2 hDb hG hq hge hm
  simp (disch:=first|assumption|omega|(simp[*]<;>omega)|fail) [i_zz77,c1,tb,hb,hb2,ha,ha2,hn',hso,hDl,e0,t3,l3,t1,w1,k1,k2,k3,fresults,fresL,fres1]
def lookE (v:Int) (a b:Nat):Bool:=decide (v<0)||decide ((a:Int)=v)||decide ((b:Int)=v)
def gRowF (rows:List Int) (v:Int) (a b:Nat) (best:Int):Int:=if rbit rows a b=true∧lookE v a b=true then minP best (arF rows a b)else best
def gRow (rows:List Int) (n:Nat) (v:Int) (a:Nat) (best:Int):Int:=upF (fun b x=>gRowF rows v a b x) n (a+1) best
def gAll (rows:List Int) (n:Nat) (v:Int):Int:=upF (fun a x=>gRow rows n v a x) n 0 0
theorem gRowF_ge {rows:List Int} {v:Int} {a b:Nat} {best:Int} (h:0≤best):0≤gRowF rows v a b best:=by
 unfold gRowF
 split
 ·exact minP_ge h
 ·exact h
theorem gRow_ok {rows : List Int} {n : Nat} {v c : Int} (hc : 1 ≤ c) (a i : Nat) (best : Int) (hb : 0 ≤ best) : 0 ≤ upF (fun b x => gRowF rows v a b x) n i best ∧ ((upF (fun b x => gRowF rows v a b x) n i best = 0 ∨ c ≤ upF (fun b x => gRowF rows v a b x) n i best) ↔ (best = 0 ∨ c ≤ best) ∧ ∀ b, i ≤ b → b < n → rbit rows a b = true → lookE v a b = true → arF rows a b ≤ 0 ∨ c ≤ arF rows a b) := by
  by_cases h:i<n
  · rw [upF_step h]
    obtain⟨h1,h2⟩:=gRow_ok (rows:=rows) (n:=n) (v:=v) hc a (i+1) (gRowF rows v a i best) (gRowF_ge hb)
    refine⟨h1,h2.trans ?_⟩
    unfold gRowF
    by_cases c1:rbit rows a i=true∧lookE v a i=true
    · rw [if_pos c1, minP_ok hb hc]
      constructor
      · rintro ⟨⟨h3, h4⟩, h5⟩
        refine⟨h3,fun b hb hbn h6 h7=> ?_⟩
        by_cases e:b=i
        · subst e;exact h4
        · exact h5 b (by omega) hbn h6 h7
      · rintro ⟨h3, h4⟩
        exact⟨⟨h3,h4 i (Nat.le_refl _) h c1.1 c1.2⟩,fun b hb hbn=>h4 b (by omega) hbn⟩
    · rw [if_neg c1]
      constructor
      · rintro ⟨h3, h5⟩
        refine⟨h3,fun b hb hbn h6 h7=> ?_⟩
        by_cases e:b=i
        · subst e;exact absurd ⟨h6,h7⟩ c1
        · exact h5 b (by omega) hbn h6 h7
      · rintro ⟨h3, h4⟩
        exact⟨h3,fun b hb hbn=>h4 b (by omega) hbn⟩
  · rw [upF_end h]
    exact⟨hb,fun h1=>⟨h1,fun b h2 h3=>by omega⟩,fun h1=>h1.1⟩
 termination_by n - i
theorem gAll_ok' {rows:List Int} {n:Nat} {v c:Int} (hc:1≤c) (i:Nat) (best:Int) (hb:0≤best):0≤upF (fun a x=>gRow rows n v a x) n i best∧((upF (fun a x=>gRow rows n v a x) n i best=0∨c≤upF (fun a x=>gRow rows n v a x) n i best)↔(best=0∨c≤best)∧ ∀a b,i≤a→a<b→b<n→rbit rows a b=true→lookE v a b=true→arF rows a b≤0∨c≤arF rows a b):=by
  by_cases h:i<n
  · rw [upF_step h]
    obtain⟨g1,g2⟩:=gRow_ok (rows:=rows) (n:=n) (v:=v) hc i (i+1) best hb
    obtain⟨h1,h2⟩:=gAll_ok' (rows:=rows) (n:=n) (v:=v) hc (i+1) (gRow rows n v i best) g1
    refine⟨h1,h2.trans ?_⟩
    unfold gRow
    rw[g2]
    constructor
    · rintro ⟨⟨h3, h4⟩, h5⟩
      refine⟨h3,fun a b ha hab hbn=> ?_⟩
      by_cases e:a=i
      · subst e;exact h4 b (by omega) hbn
      · exact h5 a b (by omega) hab hbn
    · rintro ⟨h3, h4⟩
      exact⟨⟨h3,fun b hb hbn=>h4 i b (Nat.le_refl _) (by omega) hbn⟩,fun a b ha=>h4 a b (by omega)⟩
  · rw [upF_end h]
    exact⟨hb,fun h1=>⟨h1,fun a b h2 h3 h4=>by omega⟩,fun h1=>h1.1⟩
 termination_by n - i
theorem gAll_ge (rows:List Int) (n:Nat) (v:Int):0≤gAll rows n v:=(gAll_ok' (rows:=rows) (n:=n) (v:=v) (c:=1) (by omega) 0 0 (by omega)).1
theorem same_min {x y:Int} (hx:0≤x) (hy:0≤y) (h: ∀c,1≤c→((x=0∨c≤x)↔(y=0∨c≤y))):x=y:=by
 have h1:=h (x+1) (by omega)
 have h2:=h (y+1) (by omega)
 by_cases e1:x=0
 ·subst e1;have:=h2.mp (.inl rfl);omega
 ·by_cases e2:y=0
  ·subst e2;have:=h1.mpr (.inl rfl);omega
  ·have h3:=h x (by omega)
   have h4:=h y (by omega)
   have h5:=h3.mp (.inr (Int.le_refl _))
   have h6:=h4.mpr (.inr (Int.le_refl _))
   omega
theorem girF_ge' {rows:List Int} {n:Nat} (v:Nat) (best:Int) (hb:0≤best):0≤girF rows n best v:=by
  by_cases h:v<n
  · rw [girF_step h]
    exact girF_ge' (v+1) _ (minP_ge hb)
  · rw[girF_end h];exact hb
 termination_by n - v
theorem gAll_girF {n:Nat} {rows:List Int} (g:GV n rows):gAll rows n (-1)=girF rows n 0 0:=by
 refine same_min (gAll_ge ..) (girF_ge' 0 0 (by omega)) fun c hc=> ?_
 unfold gAll
 rw[(gAll_ok' hc 0 0 (by omega)).2,girF_ok hc 0 0 (by omega)]
 simp only[true_or,true_and]
 constructor
 ·intro h u hu hun y hy
  obtain⟨h1,h2,h3⟩:=(nbL_mem rows u y).mp hy
  obtain⟨_,h4⟩:=rbit_lt g.rok h3
  have hne:=g.ne h3
  rcases Nat.lt_or_gt_of_ne hne with h5|h5
  ·exact h u y.toNat (by omega) h5 h4 h3 (by simp[lookE])
  ·rw[arF_symm g h3]
   exact h y.toNat u (by omega) h5 hun (g.sym' h3) (by simp[lookE])
 ·intro h a b ha hab hbn h3 _
  have:=h a (by omega) (by omega) b ((nbL_mem rows a b).mpr ⟨by omega,by have:=g.rok.le;omega,by rw[Int.toNat_natCast];exact h3⟩)
  rwa [Int.toNat_natCast]at this
theorem l_zz84_1 (h:VH) (n:Nat) (v:Int) (s:Value) (rows:List Int) (hs:Sli h s rows) (g:GV n rows) (hn:nro≤h.length) (a:Nat) (ha:a<n) (best:Int) (hb:0≤best):
  floop (vcall F nro) nro [1,2,5,6,7] i_zz84_B1 (bx h n s) [.int .i64 v,bp h,.int .i64 best,.int .i64 a,.int .i64 ((a+1:Nat):Int)] (bx h n s)=
   some (.exit 2,fl [(1,.int .i64 v),(2,bp h),(5,.int .i64 (gRow rows n v a best)),(6,.int .i64 a)],bx h n s):=by
 have hn' :=fun k=>Nat.le_trans hn (Nat.le_add_right h.length k)
 have hso:=fun k=>hs.oldCk (k:=k)
 have R:=g.rok
 have hle:=R.le
 have hlen:=R.len
 refine(for_up (call:=vcall F nro) (nro:=nro) (live:= [1,2,5,6,7]) (c:=i_zz84_B1) (h0:=bx h n s) (n:=n) (fun b (x:Int)=> [.int .i64 v,bp h,.int .i64 x,.int .i64 a,.int .i64 b]) (fun _ _=>bx h n s) (fun b x=>gRowF rows v a b x) (fun _ x=>0≤x)
  (fun x=>some (.exit 2,fl [(1,.int .i64 v),(2,bp h),(5,.int .i64 x),(6,.int .i64 a)],bx h n s)) ?_ ?_ (a+1) best ha hb).1
 ·intro b x hb hb2 hx
  refine⟨gRowF_ge hx,?_⟩
  obtain⟨r1,r2⟩:=R.row a ha
  have r3:=le62 hle r2
  have hvl:a<rows.length:=by omega
  have vx:=fun L=>(hs.app L).vidx (k:= .i64) (j:=(a:Int)) (by omega) (by omega)
  have vl:=fun L=>(hs.app L).vload hvl
  have w1:IntKind.u64.wrap (b:Int)=b:=wrapu64 (by omega) (by omega)
  have hbit:=bit_two (a:=rows.getD a 0) (b:=(b:Int)) r1 (by omega) (by omega)
  rw[Int.toNat_natCast,getD_at rows hvl]at hbit
  have hrb:rbit rows a b=(rows[a]'hvl).toNat.testBit b:=by unfold rbit;rw[getD_at rows hvl]
  rw[←hrb]at hbit
  rw[floop_at i_zz84_B1.eq_1]
  unfold gRowF lookE
  by_cases c1:rbit rows a b=true
  ·rw [if_pos c1] at hbit
   have hc:=c_zz77 (nro:=nro) n a b s rows (bx h n s) (hs.app _) g c1 (by simp;omega)
   obtain⟨z,hz⟩: ∃z,z=arF rows a b:=⟨_,rfl⟩
   obtain⟨z2,hz2⟩: ∃z,z=arN rows n a b:=⟨_,rfl⟩
   rw[←hz,←hz2]at hc
   rw[←hz]
   unfold minP
   clear r1 r2 r3 hrb hz hz2
   have fin: ∀(hl:(decide (v<0)||decide ((a:Int)=v)||decide ((b:Int)=v))=true),(0<z∧(x=0∨z<x)∨ ¬(0<z∧(x=0∨z<x))):=fun _=>Classical.em _
   by_cases k1:0<z
   ·by_cases k2:x=0
    ·by_cases c2:v<0
     ·have c2' : ¬0≤v:=by omega
      simp (disch:=first|assumption|omega|(simp[*]<;>omega)|fail) [hb,hb2,vx,vl,w1,hbit,c1,c2,c2',hc,k1,k2,hn',hso,wrap64]
     ·have c2' :0≤v:=by omega
      by_cases c3:v=(a:Int)
      ·simp (disch:=first|assumption|omega|(simp[*]<;>omega)|fail) [hb,hb2,vx,vl,w1,hbit,c1,c3,hc,k1,k2,hn',hso,wrap64]
      ·have c3n: ¬(a:Int)=v:=fun e=>c3 e.symm
       by_cases c4:v=(b:Int)
       ·have c5: ¬(a:Int)=b:=by omega
        have c5' : ¬a=b:=by omega
        simp (disch:=first|assumption|omega|(simp[*]<;>omega)|fail) [hb,hb2,vx,vl,w1,hbit,c1,c4,c5,c5',hc,k1,k2,hn',hso,wrap64]
       ·have c4n: ¬(b:Int)=v:=fun e=>c4 e.symm
        simp (disch:=first|assumption|omega|(simp[*]<;>omega)|fail) [hb,hb2,vx,vl,w1,hbit,c1,c2,c2',c3n,c4n,hn',hso,wrap64]
    ·by_cases k3:z<x
     ·by_cases c2:v<0
      ·have c2' : ¬0≤v:=by omega
       simp (disch:=first|assumption|omega|(simp[*]<;>omega)|fail) [hb,hb2,vx,vl,w1,hbit,c1,c2,c2',hc,k1,k2,k3,hn',hso,wrap64]
      ·have c2' :0≤v:=by omega
       by_cases c3:v=(a:Int)
       ·simp (disch:=first|assumption|omega|(simp[*]<;>omega)|fail) [hb,hb2,vx,vl,w1,hbit,c1,c3,hc,k1,k2,k3,hn',hso,wrap64]
       ·have c3n: ¬(a:Int)=v:=fun e=>c3 e.symm
        by_cases c4:v=(b:Int)
        ·have c5: ¬(a:Int)=b:=by omega
         have c5' : ¬a=b:=by omega
         simp (disch:=first|assumption|omega|(simp[*]<;>omega)|fail) [hb,hb2,vx,vl,w1,hbit,c1,c4,c5,c5',hc,k1,k2,k3,hn',hso,wrap64]
        ·have c4n: ¬(b:Int)=v:=fun e=>c4 e.symm
         simp (disch:=first|assumption|omega|(simp[*]<;>omega)|fail) [hb,hb2,vx,vl,w1,hbit,c1,c2,c2',c3n,c4n,hn',hso,wrap64]
     ·by_cases c2:v<0
      ·have c2' : ¬0≤v:=by omega
       simp (disch:=first|assumption|omega|(simp[*]<;>omega)|fail) [hb,hb2,vx,vl,w1,hbit,c1,c2,c2',hc,k1,k2,k3,hn',hso,wrap64]
      ·have c2' :0≤v:=by omega
       by_cases c3:v=(a:Int)
       ·simp (disch:=first|assumption|omega|(simp[*]<;>omega)|fail) [hb,hb2,vx,vl,w1,hbit,c1,c3,hc,k1,k2,k3,hn',hso,wrap64]
       ·have c3n: ¬(a:Int)=v:=fun e=>c3 e.symm
        by_cases c4:v=(b:Int)
        ·have c5: ¬(a:Int)=b:=by omega
         have c5' : ¬a=b:=by omega
         simp (disch:=first|assumption|omega|(simp[*]<;>omega)|fail) [hb,hb2,vx,vl,w1,hbit,c1,c4,c5,c5',hc,k1,k2,k3,hn',hso,wrap64]
        ·have c4n: ¬(b:Int)=v:=fun e=>c4 e.symm
         simp (disch:=first|assumption|omega|(simp[*]<;>omega)|fail) [hb,hb2,vx,vl,w1,hbit,c1,c2,c2',c3n,c4n,hn',hso,wrap64]
   ·by_cases c2:v<0
    ·have c2' : ¬0≤v:=by omega
     simp (disch:=first|assumption|omega|(simp[*]<;>omega)|fail) [hb,hb2,vx,vl,w1,hbit,c1,c2,c2',hc,k1,hn',hso,wrap64]
    ·have c2' :0≤v:=by omega
     by_cases c3:v=(a:Int)
     ·simp (disch:=first|assumption|omega|(simp[*]<;>omega)|fail) [hb,hb2,vx,vl,w1,hbit,c1,c3,hc,k1,hn',hso,wrap64]
     ·have c3n: ¬(a:Int)=v:=fun e=>c3 e.symm
      by_cases c4:v=(b:Int)
      ·have c5: ¬(a:Int)=b:=by omega
       have c5' : ¬a=b:=by omega
       simp (disch:=first|assumption|omega|(simp[*]<;>omega)|fail) [hb,hb2,vx,vl,w1,hbit,c1,c4,c5,c5',hc,k1,hn',hso,wrap64]
      ·have c4n: ¬(b:Int)=v:=fun e=>c4 e.symm
       simp (disch:=first|assumption|omega|(simp[*]<;>omega)|fail) [hb,hb2,vx,vl,w1,hbit,c1,c2,c2',c3n,c4n,hn',hso,wrap64]
  ·rw[if_neg c1]at hbit
   simp (disch:=first|assumption|omega|(simp[*]<;>omega)|fail) [hb,hb2,vx,vl,w1,hbit,c1,hn',hso,wrap64]
 ·intro x _
  rw[floop_at i_zz84_B1.eq_1]
  simp (disch:=first|assumption|omega|(simp[*]<;>omega)|fail) [hn',hso]
theorem c_zz84 (n:Nat) (v:Int) (s:Value) (rows:List Int) (h:VH) (hs:Sli h s rows) (g:GV n rows) (hn:nro≤h.length):
  vcall F nro k_zz84 [gv n s,.int .i64 v] h=some (.int .i64 (gAll rows n v),h):=by
 have hn' :=fun k=>Nat.le_trans hn (Nat.le_add_right h.length k)
 have hso:=fun k=>hs.oldCk (k:=k)
 have hle:=g.rok.le
 have l2:floop (vcall F nro) nro [1,2,5,6] i_zz84_B2 (bx h n s) [.int .i64 v,bp h,.int .i64 0,.int .i64 0] (bx h n s)=some (.exit 0,fl [(5,.int .i64 (gAll rows n v))],bx h n s):=by
  refine(for_up (call:=vcall F nro) (nro:=nro) (live:= [1,2,5,6]) (c:=i_zz84_B2) (h0:=bx h n s) (n:=n) (fun a (x:Int)=> [.int .i64 v,bp h,.int .i64 x,.int .i64 a]) (fun _ _=>bx h n s) (fun a x=>gRow rows n v a x) (fun _ x=>0≤x)
   (fun x=>some (.exit 0,fl [(5,.int .i64 x)],bx h n s)) ?_ ?_ 0 0 (Nat.zero_le _) (by omega)).1
  ·intro a x ha ha2 hx
   refine⟨(gRow_ok (c:=1) (by omega) a (a+1) x hx).1,?_⟩
   have l1:=l_zz84_1 (nro:=nro) h n v s rows hs g hn a ha x hx
   rw[show((a+1:Nat):Int)=(a:Int)+1 by omega]at l1
   obtain⟨q,hq⟩: ∃q,q=gRow rows n v a x:=⟨_,rfl⟩
   rw[←hq]at l1⊢
   clear hq
   rw[floop_at i_zz84_B2.eq_1]
   simp (disch:=first|assumption|omega|(simp[*]<;>omega)|fail) [ha,ha2,l1,hn',hso,wrap64]
  ·intro x _
   rw[floop_at i_zz84_B2.eq_1]
   simp (disch:=first|assumption|omega|(simp[*]<;>omega)|fail) [hn',hso]
 refine v_zz84 (by simp[i_zz84]) ?_
 rw[fbody_eq]
 obtain⟨q,hq⟩: ∃q,q=gAll rows n v:=⟨_,rfl⟩
 rw[←hq]at l2⊢
 clear hq
 simp (disch:=first|assumption|omega|(simp[*]<;>omega)|fail) [i_zz84,l2,hn',hso]
end

/- The sums of powers, and the girth bound. -/
section
open Go
variable {nro:Nat}
def pw (q:Int):Nat→Int
 | 0 => 1
 | i + 1 => min (pw q i * q) 1000000000001
def pS (q:Int):Nat→Int
 | 0 => 0
 | i + 1 => min (pS q i + pw q i) 1000000000001
def gB (k:Int) (c:Nat):Int:=if c % 2=1 then 1+k * pS (k - 1) ((c - 1) / 2)else 2 * pS (k - 1) (c / 2)
theorem pw_ok {q:Int} (h0:0≤q): ∀i,0≤pw q i∧pw q i≤1000000000001
 | 0 => by simp [pw]
 | i + 1 => by
  have:=Int.mul_nonneg (pw_ok h0 i).1 h0
  rw[pw];omega
theorem pS_ok {q:Int} (h0:0≤q): ∀i,0≤pS q i∧pS q i≤1000000000001
 | 0 => by simp [pS]
 | i + 1 => by
  have:=pw_ok h0 i
  have:=pS_ok h0 i
  rw[pS];omega
theorem min_if (x:Int):min x 1000000000001=if 1000000000001<x then 1000000000001 else x:=by split<;>omega
theorem c_zz94 (q:Int) (n:Nat) (h:VH) (h0:0≤q) (h1:q≤100) (hn:n≤100):
  vcall F nro k_zz94 [.int .i64 q,.int .i64 n] h=some (.int .i64 (pS q n),h):=by
 have key:floop (vcall F nro) nro [0,5,6,7,8] i_zz94_B1 h [.int .i64 q,.int .i64 0,.int .i64 1,.int .i64 n,.int .i64 0] h=some (.exit 0,fl [(5,.int .i64 (pS q n))],h):=by
  refine(for_up (call:=vcall F nro) (nro:=nro) (live:= [0,5,6,7,8]) (c:=i_zz94_B1) (h0:=h) (n:=n) (fun i (_:Unit)=> [.int .i64 q,.int .i64 (pS q i),.int .i64 (pw q i),.int .i64 n,.int .i64 i]) (fun _ _=>h) (fun _ u=>u) (fun _ _=>True)
   (fun _=>some (.exit 0,fl [(5,.int .i64 (pS q n))],h)) ?_ ?_ 0 () (Nat.zero_le _) trivial).1
  ·intro i _ hi hi2 _
   refine⟨trivial,?_⟩
   obtain⟨a1,a2⟩:=pw_ok h0 i
   obtain⟨b1,b2⟩:=pS_ok h0 i
   have c1:0≤pw q i * q:=Int.mul_nonneg a1 h0
   have c2:pw q i * q≤1000000000001 * 100:=Int.mul_le_mul a2 h1 h0 (by omega)
   have e1:pS q (i+1)=min (pS q i+pw q i) 1000000000001:=rfl
   have e2:pw q (i+1)=min (pw q i * q) 1000000000001:=rfl
   rw[e1,e2]
   generalize pS q i=S at *
   have d1:IntKind.i64.wrap (pw q i * q)=pw q i * q:=wrap64 (by omega) (by omega)
   generalize pw q i=P at *
   have d2:IntKind.i64.wrap (S+P)=S+P:=wrap64 (by omega) (by omega)
   have d3:IntKind.i64.wrap ((i:Int)+1)=(i:Int)+1:=wrap64 (by omega) (by omega)
   rw[floop_at i_zz94_B1.eq_1]
   simp (disch:=first|assumption|omega|(simp[*]<;>omega)|fail) [hi,hi2,d1,d2,d3,min_if]
  ·intro _ _
   rw[floop_at i_zz94_B1.eq_1]
   simp (disch:=first|assumption|omega|(simp[*]<;>omega)|fail) []
 refine v_zz94 (by simp[i_zz94]) ?_
 rw[fbody_eq]
 obtain⟨x,hx⟩: ∃x,x=pS q n:=⟨_,rfl⟩
 rw[←hx]at key⊢
 clear hx
 simp (disch:=first|assumption|omega|(simp[*]<;>omega)|fail) [i_zz94,key]
theorem c_zz65 (k:Int) (c:Nat) (h:VH) (h0:1≤k) (h1:k≤100) (hc0:1≤c) (hc:c≤200):
  vcall F nro k_zz65 [.int .i64 k,.int .i64 c] h=some (.int .i64 (gB k c),h):=by
 refine v_zz65 (by simp[i_zz65]) ?_
 rw[fbody_eq]
 have wq:IntKind.i64.wrap (k - 1)=k - 1:=wrap64 (by omega) (by omega)
 have wc:IntKind.i64.wrap ((c:Int) - 1)=((c - 1:Nat):Int):=by rw[wrap64 (by omega) (by omega)];omega
 by_cases ho:c % 2=1
 ·have e1:=c_zz94 (nro:=nro) (k - 1) ((c - 1) / 2) h (by omega) (by omega) (by omega)
  obtain⟨b1,b2⟩:=pS_ok (q:=k - 1) (by omega) ((c - 1) / 2)
  have t1:((c:Int)).tmod 2=1:=by rw[Int.tmod_eq_emod_of_nonneg (by omega)];omega
  have e:gB k c=1+k * pS (k - 1) ((c - 1) / 2):=by rw[gB,if_pos ho]
  rw[e]
  generalize pS (k - 1) ((c - 1) / 2)=S at *
  have c1:0≤k * S:=Int.mul_nonneg (by omega) b1
  have c2:k * S≤100 * 1000000000001:=Int.mul_le_mul h1 b2 b1 (by omega)
  have w1:IntKind.i64.wrap (k * S)=k * S:=wrap64 (by omega) (by omega)
  have w2:IntKind.i64.wrap (1+k * S)=1+k * S:=wrap64 (by omega) (by omega)
  have w3:IntKind.i64.wrap (((c - 1:Nat):Int) / 2)=(((c - 1) / 2:Nat):Int):=by rw[wrap64 (by omega) (by omega)];omega
  generalize(((c - 1) / 2:Nat):Int)=m at *
  clear e
  simp (disch:=first|assumption|omega|(simp[*]<;>omega)|fail) [i_zz65,t1,wq,wc,e1,w1,w2,w3]
 ·have e1:=c_zz94 (nro:=nro) (k - 1) (c / 2) h (by omega) (by omega) (by omega)
  obtain⟨b1,b2⟩:=pS_ok (q:=k - 1) (by omega) (c / 2)
  have t1:((c:Int)).tmod 2=0:=by rw[Int.tmod_eq_emod_of_nonneg (by omega)];omega
  have e:gB k c=2 * pS (k - 1) (c / 2):=by rw[gB,if_neg ho]
  rw[e]
  generalize pS (k - 1) (c / 2)=S at *
  have w1:IntKind.i64.wrap (2 * S)=2 * S:=wrap64 (by omega) (by omega)
  have w3:IntKind.i64.wrap ((c:Int) / 2)=((c / 2:Nat):Int):=by rw[wrap64 (by omega) (by omega)];omega
  generalize((c / 2:Nat):Int)=m at *
  clear e
  simp (disch:=first|assumption|omega|(simp[*]<;>omega)|fail) [i_zz65,t1,wq,e1,w1,w3]
end

/- A regular graph without short cycles has many vertices. -/
section
open Go
open Classical
def Rch (rows:List Int) (S:Nat→Prop):Nat→Nat→Prop
 | 0, x => S x
 | i + 1, x => Rch rows S i x ∨ ∃ y, Rch rows S i y ∧ rbit rows y x = true
def Lvl (rows:List Int) (S:Nat→Prop):Nat→Nat→Prop
 | 0, x => S x
 | i + 1, x => Rch rows S (i + 1) x ∧ ¬ Rch rows S i x
theorem Lvl.rch {rows:List Int} {S:Nat→Prop}: ∀ {i x:Nat},Lvl rows S i x→Rch rows S i x
 | 0, _, h => h
 | _ + 1, _, h => h.1
section
variable {n:Nat} {rows:List Int} (g:GV n rows)
include g
theorem cut_iff {p q:Nat} (h:rbit rows p q=true) (v w:Nat):rbit (cut2 rows p q) v w=true↔rbit rows v w=true∧ ¬((v=p∧w=q)∨(v=q∧w=p)):=by
 obtain⟨h1,h2⟩:=rbit_lt g.rok h
 exact(cut_rok g h1 h2 h).2 v w
theorem cut_sym {p q:Nat} (h:rbit rows p q=true) (v w:Nat) (h2:rbit (cut2 rows p q) v w=true):rbit (cut2 rows p q) w v=true:=by
 rw[cut_iff g h]at h2⊢
 refine⟨g.sym' h2.1,fun h3=>h2.2 ?_⟩
 rcases h3 with⟨a,b⟩|⟨a,b⟩
 ·exact .inr ⟨b,a⟩
 ·exact .inl ⟨b,a⟩
theorem rch_walk {S:Nat→Prop} {p q:Nat} (hpq:rbit rows p q=true): ∀(j x:Nat),Rch rows S j x→ ¬(Rch rows S j p∧Rch rows S j q)→ ∃s m,S s∧m≤j∧Wk (cut2 rows p q) m s x
 | 0, x, h, _ => ⟨x, 0, h, Nat.le_refl _, rfl⟩
 | j + 1, x, h, hn => by
  have hn' : ¬(Rch rows S j p∧Rch rows S j q):=fun e=>hn ⟨.inl e.1,.inl e.2⟩
  rcases h with h|⟨y,h1,h2⟩
  ·obtain⟨s,m,e1,e2,e3⟩:=rch_walk hpq j x h hn'
   exact⟨s,m,e1,by omega,e3⟩
  ·obtain⟨s,m,e1,e2,e3⟩:=rch_walk hpq j y h1 hn'
   refine⟨s,m+1,e1,by omega,y,e3,?_⟩
   rw[cut_iff g hpq]
   refine⟨h2,?_⟩
   have hx:Rch rows S (j+1) x:= .inr ⟨y,h1,h2⟩
   have hy:Rch rows S (j+1) y:= .inl h1
   rintro(⟨rfl,rfl⟩|⟨rfl,rfl⟩)
   ·exact hn ⟨hy,hx⟩
   ·exact hn ⟨hx,hy⟩
def NoSh (rows:List Int) (c:Nat):Prop:= ∀p q,rbit rows p q=true→ ∀m,Wk (cut2 rows p q) m p q→c≤m+1
structure St (rows:List Int) (S:Nat→Prop) (e:Nat):Prop where
 con: ∀s s' p q,S s→S s' →rbit rows p q=true→ ¬(S p∧S q)→ ∃m,m≤e∧Wk (cut2 rows p q) m s s'
omit g in
theorem Rch.zero {rows:List Int} {S:Nat→Prop} {x:Nat} (h:S x): ∀j,Rch rows S j x
 | 0 => h
 | j + 1 => .inl (Rch.zero h j)
theorem no_two {S:Nat→Prop} {e c:Nat} (hc:NoSh rows c) (hS:St rows S e) {j x y y' :Nat} (h1:2 * (j+1)+e<c) (hx: ¬Rch rows S j x) (hy:Rch rows S j y) (hy' :Rch rows S j y') (hne:y≠y') (e1:rbit rows x y=true) (e2:rbit rows x y' =true):False:=by
 have hn: ¬(Rch rows S j x∧Rch rows S j y):=fun e=>hx e.1
 obtain⟨s,m,a1,a2,a3⟩:=rch_walk g e1 j y hy hn
 obtain⟨s',m',b1,b2,b3⟩:=rch_walk g e1 j y' hy' hn
 obtain⟨m'',c1,c2⟩:=hS.con s' s x y b1 a1 e1 (fun e=>hx (Rch.zero e.1 j))
 have hne2:=g.ne e1
 have w1:Wk (cut2 rows x y) 1 x y' :=⟨x,rfl,by
  rw[cut_iff g e1]
  exact⟨e2,by rintro(⟨_,h⟩|⟨h,_⟩);exact hne h.symm;exact hne2 h⟩⟩
 have w2:=w1.comp m' s' (Wk.symm (cut_sym g e1) _ _ _ b3)
 have w3:=w2.comp m'' s c2
 have w4:=w3.comp m y a3
 have:=hc x y e1 _ w4
 omega
theorem no_side {S:Nat→Prop} {e c:Nat} (hc:NoSh rows c) (hS:St rows S e) {j x y:Nat} (h1:2 * (j+1)+1+e<c) (hx:Lvl rows S (j+1) x) (hy:Lvl rows S (j+1) y) (e1:rbit rows x y=true):False:=by
 have hn: ¬(Rch rows S j x∧Rch rows S j y):=fun e=>hx.2 e.1
 have one: ∀z,Lvl rows S (j+1) z→ ∃s m,S s∧m≤j+1∧Wk (cut2 rows x y) m s z:=by
  intro z hz
  rcases hz.1 with h|⟨z',h2,h3⟩
  ·exact absurd h hz.2
  ·obtain⟨s,m,a1,a2,a3⟩:=rch_walk g e1 j z' h2 hn
   refine⟨s,m+1,a1,by omega,z',a3,?_⟩
   rw[cut_iff g e1]
   refine⟨h3,?_⟩
   rintro(⟨rfl,_⟩|⟨rfl,_⟩)
   ·exact hx.2 h2
   ·exact hy.2 h2
 obtain⟨s,m,a1,a2,a3⟩:=one x hx
 obtain⟨s',m',b1,b2,b3⟩:=one y hy
 obtain⟨m'',c1,c2⟩:=hS.con s s' x y a1 b1 e1 (fun e=>hx.2 (Rch.zero e.1 j))
 have w1:=Wk.symm (cut_sym g e1) _ _ _ a3
 have w3:=w1.comp m'' s' c2
 have w4:=w3.comp m' y b3
 have:=hc x y e1 _ w4
 omega
end
noncomputable def oneIf (p:Prop):Int:=if p then 1 else 0
theorem one_nonneg (p:Prop):0≤oneIf p:=by unfold oneIf;split<;>omega
theorem one_pos {p:Prop} (h:p):oneIf p=1:=if_pos h
theorem one_neg {p:Prop} (h: ¬p):oneIf p=0:=if_neg h
theorem one_le (p:Prop):oneIf p≤1:=by unfold oneIf;split<;>omega
theorem one_imp {p q:Prop} (h:p→q):oneIf p≤oneIf q:=by
 by_cases hp:p
 ·rw[one_pos hp,one_pos (h hp)];omega
 ·rw[one_neg hp];exact one_nonneg q
theorem sumF_most {P:Nat→Prop}: ∀ {n:Nat},(∀i j,i<n→j<n→P i→P j→i=j)→sumF (fun i=>oneIf (P i)) n≤1
 | 0, _ => by simp [sumF]
 | n + 1, h => by
  rw[sumF]
  by_cases hp:P n
  ·have:sumF (fun i=>oneIf (P i)) n=sumF (fun _=>0) n:=sumF_congr fun i hi=>one_neg fun hi2=>by
    have:=h i n (by omega) (by omega) hi2 hp
    omega
   rw[this,sumF_zero]
   have:=one_le (P n)
   omega
  ·rw[one_neg hp]
   have:=sumF_most (P:=P) (n:=n) fun i j hi hj=>h i j (by omega) (by omega)
   omega
theorem sumF_front (f:Nat→Int): ∀n,sumF f (n+1)=f 0+sumF (fun i=>f (i+1)) n
 | 0 => by simp [sumF]
 | n + 1 => by rw [sumF, sumF_front f n, sumF]; omega
theorem pc_sum: ∀(n x:Nat),x<2 ^ n→(pc x:Int)=sumF (fun i=>oneIf (x.testBit i=true)) n
 | 0, x, h => by
  have:x=0:=by omega
  subst this
  simp[sumF,pc_zero]
 | n + 1, x, h => by
  rw[sumF_front,pc_step]
  have h2:=pc_sum n (x / 2) (by rw[Nat.pow_succ]at h;omega)
  have e:sumF (fun i=>oneIf (x.testBit (i+1)=true)) n=sumF (fun i=>oneIf ((x / 2).testBit i=true)) n:=sumF_congr fun i _=>by rw[Nat.testBit_succ]
  rw[e,←h2]
  have h3:oneIf (x.testBit 0=true)=((x % 2:Nat):Int):=by
   rw[Nat.testBit_zero]
   rcases Nat.mod_two_eq_zero_or_one x with h|h<;>rw[h]<;>simp[oneIf]
  rw[h3];omega
theorem deg_sum {n:Nat} {rows:List Int} (R:Rok n rows) {v:Nat} (hv:v<n):(deg rows v:Int)=sumF (fun w=>oneIf (rbit rows v w=true)) n:=pc_sum n _ (R.row v hv).2
end

/- Refining, in plain terms: how many neighbours have each colour. -/
section
open Go
open Classical in
noncomputable def cntC (rows cl:List Int) (n v:Nat) (x:Int):Int:=sumF (fun w=>oneIf (rbit rows v w=true∧cl.getD w 0=x)) n
theorem stF_bit (cl:List Int) (m n:Nat) (hn:n≤62) (hl:cl.length=n) (hcl: ∀x∈cl,0≤x∧x<m):(stF cl m n).length=m∧ ∀x,x<m→ ∀w,((stF cl m n).getD x 0).toNat.testBit w=true↔w<n∧cl.getD w 0=x:=by
 have:=upF_inv (n:=n) (f:=fun v st=>set1 st (cl.getD v 0) v) (I:=fun k st=>st.length=m∧(∀x,x<m→0≤st.getD x 0∧st.getD x 0<4611686018427387904∧ ∀w:Nat,(st.getD x 0).toNat.testBit w=true↔w<k∧cl.getD w 0=x)) (fun k st hk I=> ?_) 0 (List.replicate m 0) (by omega) ⟨by simp,fun x hx=> ?_⟩
 ·exact⟨this.1,fun x hx=>(this.2 x hx).2.2⟩
 ·obtain⟨i1,i2⟩:=I
  have hc:cl.getD k 0∈cl:=by
   rw[List.getD_eq_getElem?_getD,List.getElem?_eq_getElem (by omega)]
   exact List.getElem_mem _
  obtain⟨c1,c2⟩:=hcl _ hc
  refine⟨by simpa using i1,fun x hx=> ?_⟩
  have hlt:(cl.getD k 0).toNat<st.length:=by omega
  obtain⟨j1,j2,j3⟩:=i2 (cl.getD k 0).toNat (by omega)
  have sb:=setbit (b:=(k:Int)) j1 j2 (by omega) (by omega)
  unfold set1
  by_cases e:x=(cl.getD k 0).toNat
  ·have e1:(st.set (cl.getD k 0).toNat (ior .i64 (st.getD (cl.getD k 0).toNat 0) (ishl .i64 1 k))).getD x 0=ior .i64 (st.getD (cl.getD k 0).toNat 0) (ishl .i64 1 k):=by
    rw[e,List.getD_eq_getElem?_getD,List.getElem?_set_self hlt];rfl
   rw[e1]
   refine⟨sb.1,sb.2.1,fun w=> ?_⟩
   rw[sb.2.2 w,j3 w,Int.toNat_natCast]
   constructor
   ·rintro(⟨h1,h2⟩|h1)
    ·exact⟨by omega,by omega⟩
    ·subst h1;exact⟨by omega,by omega⟩
   ·rintro⟨h1,h2⟩
    by_cases h3:w=k
    ·exact .inr h3
    ·exact .inl ⟨by omega,by omega⟩
  ·have e1:(st.set (cl.getD k 0).toNat (ior .i64 (st.getD (cl.getD k 0).toNat 0) (ishl .i64 1 k))).getD x 0=st.getD x 0:=by
    rw[List.getD_eq_getElem?_getD,List.getElem?_set_ne (fun h=>e h.symm),←List.getD_eq_getElem?_getD]
   rw[e1]
   obtain⟨k1,k2,k3⟩:=i2 x hx
   refine⟨k1,k2,fun w=> ?_⟩
   rw[k3 w]
   constructor
   ·rintro⟨h1,h2⟩;exact⟨by omega,h2⟩
   ·rintro⟨h1,h2⟩
    refine⟨?_,h2⟩
    have:w≠k:=fun h3=>by
     subst h3
     omega
    omega
 ·have e:(List.replicate m (0:Int)).getD x 0=0:=by simp[List.getD_eq_getElem?_getD,hx]
  rw[e]
  refine⟨by omega,by omega,fun w=> ?_⟩
  simp
theorem stF_map (rows cl:List Int) (m n v:Nat) (R:Rok n rows) (hv:v<n) (hl:cl.length=n) (hcl: ∀x∈cl,0≤x∧x<m):
  (stF cl m n).map (nbN (rows.getD v 0))=(List.range m).map fun x:Nat=>cntC rows cl n v x:=by
 obtain⟨h1,h2⟩:=stF_bit cl m n R.le hl hcl
 have h3:=stF_ok cl m n R.le hcl
 obtain⟨r1,r2⟩:=R.row v hv
 apply List.ext_getElem (by simp[h1])
 intro x p1 p2
 simp only[List.getElem_map,List.getElem_range]
 have hx:x<m:=by simpa using p2
 have p3:x<(stF cl m n).length:=by omega
 have h4:=h3 _ (List.getElem_mem p3)
 have h5:=h2 x hx
 have e1:(stF cl m n).getD x 0=(stF cl m n)[x]:=by rw[List.getD_eq_getElem?_getD,List.getElem?_eq_getElem p3];rfl
 rw[e1]at h5
 obtain⟨s,hs⟩: ∃s:Nat,(stF cl m n)[x]=s:=⟨(stF cl m n)[x].toNat,by omega⟩
 obtain⟨r,hr⟩: ∃r:Nat,rows.getD v 0=r:=⟨(rows.getD v 0).toNat,by omega⟩
 have hp:2 ^ n≤2 ^ 62:=Nat.pow_le_pow_right (by omega) R.le
 rw[hs]at h4 h5⊢
 rw[hr]at r2⊢
 simp only[Int.toNat_natCast]at r2 h5
 unfold nbN cntC
 rw[iand_nat (by omega) (by omega),Int.toNat_natCast,pc_sum n (r &&& s) (Nat.lt_of_le_of_lt Nat.and_le_left r2)]
 refine sumF_congr fun w hw=> ?_
 have e2:(r &&& s).testBit w=true↔rbit rows v w=true∧cl.getD w 0=(x:Int):=by
  rw[Nat.testBit_and,Bool.and_eq_true,h5 w]
  unfold rbit
  rw[hr,Int.toNat_natCast]
  constructor
  ·rintro⟨a,_,b⟩;exact⟨a,b⟩
  ·rintro⟨a,b⟩;exact⟨a,hw,b⟩
 simp only[e2]
noncomputable def nuC (rows cl:List Int) (m n v:Nat):List Int:=cl.getD v 0::(List.range m).map fun x:Nat=>cntC rows cl n v x
theorem tdF_mem {gi:Int} {rows cl:List Int} {m n:Nat} (R:Rok n rows) (hl:cl.length=n) (hcl: ∀x∈cl,0≤x∧x<m) (v:Nat): ∀t,t∈tdF gi rows cl (stF cl m n) n v↔ ∃w,v≤w∧w<n∧t=(gi,(w:Int),nuC rows cl m n w):=by
  intro t
  by_cases h:v<n
  · rw [tdF_step h, List.mem_cons, tdF_mem R hl hcl (v + 1), stF_map rows cl m n v R h hl hcl]
    constructor
    · rintro (h1 | ⟨w, h1, h2, h3⟩)
      · exact⟨v,by omega,h,h1⟩
      · exact⟨w,by omega,h2,h3⟩
    · rintro ⟨w, h1, h2, h3⟩
      by_cases e:w=v
      · subst e;exact .inl h3
      · exact .inr ⟨w,by omega,h2,h3⟩
  · rw [tdF_end h]
    simp
    intro w h1 h2
    omega
 termination_by n - v
theorem tdsF_mem {rows c:Nat→List Int} {m n K:Nat} (R: ∀i,i<K→Rok n (rows i)) (hl: ∀i,i<K→(c i).length=n) (hcl: ∀i,i<K→ ∀x∈c i,0≤x∧x<m) (i:Nat): ∀t,t∈tdsF rows c m n K i↔ ∃j w:Nat,i≤j∧j<K∧w<n∧t=((j:Int),(w:Int),nuC (rows j) (c j) m n w):=by
  intro t
  by_cases h:i<K
  · rw [tdsF_step h, List.mem_append, tdsF_mem R hl hcl (i + 1), tdF_mem (R i h) (hl i h) (hcl i h)]
    constructor
    · rintro (⟨w, _, h1, h2⟩ | ⟨j, w, h1, h2, h3, h4⟩)
      · exact⟨i,w,by omega,h,h1,h2⟩
      · exact⟨j,w,by omega,h2,h3,h4⟩
    · rintro ⟨j, w, h1, h2, h3, h4⟩
      by_cases e:j=i
      · subst e;exact .inl ⟨w,by omega,h3,h4⟩
      · exact .inr ⟨j,w,by omega,h2,h3,h4⟩
  · rw [tdsF_end h]
    simp
    intro j h1 h2
    omega
 termination_by K - i
theorem tdF_nodup {gi : Int} {rows cl : List Int} {st : List Int} {n : Nat} (v : Nat) : (tdF gi rows cl st n v).Nodup ∧ ∀ t ∈ tdF gi rows cl st n v, t.1 = gi ∧ (v : Int) ≤ t.2.1 := by
  by_cases h:v<n
  · rw [tdF_step h]
    obtain⟨h1,h2⟩:=tdF_nodup (gi:=gi) (rows:=rows) (cl:=cl) (st:=st) (n:=n) (v+1)
    refine⟨List.nodup_cons.mpr ⟨fun hm=> ?_,h1⟩,fun t ht=> ?_⟩
    · have := (h2 _ hm).2
      simp only at this
      omega
    · rcases List.mem_cons.mp ht with rfl | h3
      · exact⟨rfl,Int.le_refl _⟩
      · have := h2 _ h3
        exact⟨this.1,by omega⟩
  · rw [tdF_end h]
    simp
 termination_by n - v
theorem tdsF_nodup {rows c:Nat→List Int} {m n K:Nat} (i:Nat):(tdsF rows c m n K i).Nodup∧ ∀t∈tdsF rows c m n K i,(i:Int)≤t.1:=by
  by_cases h:i<K
  · rw [tdsF_step h]
    obtain⟨h1,h2⟩:=tdsF_nodup (rows:=rows) (c:=c) (m:=m) (n:=n) (K:=K) (i+1)
    obtain⟨h3,h4⟩:=tdF_nodup (gi:=(i:Int)) (rows:=rows i) (cl:=c i) (st:=stF (c i) m n) (n:=n) 0
    refine⟨List.nodup_append.mpr ⟨h3,h1,fun x hx y hy e=> ?_⟩,fun t ht=> ?_⟩
    · have := (h4 x hx).1
      have:=h2 y hy
      subst e
      omega
    · rcases List.mem_append.mp ht with h5 | h5
      · have:=(h4 t h5).1;omega
      · have:=h2 t h5;omega
  · rw [tdsF_end h]
    simp
 termination_by K - i
end

/- A function in parts, one after the other. -/
section
open Go
def takeS:Nat→FC→FC
 | 0, .seq a _ => a
 | k + 1, .seq a b => .seq a (takeS k b)
 | _, c => c
def dropS:Nat→FC→FC
 | 0, c => c
 | k + 1, .seq _ b => dropS k b
 | _ + 1, c => c
def nseq:FC→Nat
 | .seq _ b => nseq b + 1
 | _ => 0
theorem kseq_kseq (call:VCall) (nro:Nat) (a b:FC) (r:Option (VX × FE × VH)):kseq call nro (.seq a b) r=kseq call nro b (kseq call nro a r):=by
 match r with
 | none => rfl
 | some (.normal, e, h) => rw [kseq_normal, fcode_seq, kseq_normal]
 | some (.ret, e, h) => rfl
 | some (.exit i, e, h) => rfl
theorem kseq_parts (call:VCall) (nro:Nat): ∀(k:Nat) (c:FC) (r:Option (VX × FE × VH)),k+1≤nseq c→kseq call nro c r=kseq call nro (dropS (k+1) c) (kseq call nro (takeS k c) r)
 | 0, .seq a b, r, _ => kseq_kseq call nro a b r
 | k + 1, .seq a b, r, h => by
  have h2:k+1≤nseq b:=by simp[nseq]at h;omega
  rw[kseq_kseq,kseq_parts call nro k b _ h2]
  show _=kseq call nro (dropS (k+1) b) (kseq call nro (.seq a (takeS k b)) r)
  rw[kseq_kseq]
theorem fcode_parts (call:VCall) (nro:Nat) (k:Nat) (c:FC) (e:FE) (h:VH) (hk:k+1≤nseq c):fcode call nro c e h=kseq call nro (dropS (k+1) c) (fcode call nro (takeS k c) e h):=by
 have:=kseq_parts call nro k c (some (.normal,e,h)) hk
 rwa [kseq_normal,kseq_normal]at this
end

/- Sorting: by insertion. -/
section
open Go
variable {nro:Nat}
theorem c_cmp_Less (x y:Int) (h:VH):vcall F nro k_zz71 [.int .i64 x,.int .i64 y] h=some (.bool (decide (x<y)),h):=by
 have e: ∀z:Int,vcall F nro k_zz63 [.int .i64 z] h=some (.bool false,h):=fun z=>by
  refine v_zz63 (by simp[i_zz63]) ?_
  rw[fbody_eq]
  simp (disch:=first|assumption|omega|(simp[*]<;>omega)|fail) [i_zz63]
 refine v_zz71 (by simp[i_zz71]) ?_
 rw[fbody_eq]
 simp (disch:=first|assumption|omega|(simp[*]<;>omega)|fail) [i_zz71,e]
def swp (xs:List Int) (i j:Nat):List Int:=(xs.set i (xs.getD j 0)).set j (xs.getD i 0)
@[simp] theorem swp_length (xs : List Int) (i j : Nat) : (swp xs i j).length = xs.length := by simp [swp]
def insD (a:Nat):Nat→List Int→List Int
 | 0, xs => xs
 | j + 1, xs => if a < j + 1 ∧ xs.getD (j + 1) 0 < xs.getD j 0 then insD a j (swp xs (j + 1) j) else xs
@[simp] theorem insD_length (a : Nat) : ∀ (j : Nat) (xs : List Int), (insD a j xs).length = xs.length
 | 0, _ => rfl
 | j + 1, xs => by
  rw[insD]
  split
  ·rw[insD_length a j,swp_length]
  ·rfl
def insS (a b:Nat) (xs:List Int):List Int:=upF (fun i xs=>insD a i xs) b (a+1) xs
theorem upF_len {f:Nat→List Int→List Int} (hf: ∀i xs,(f i xs).length=xs.length) (n i:Nat) (xs:List Int):(upF f n i xs).length=xs.length:=by
  by_cases h:i<n
  · rw[upF_step h,upF_len hf n (i+1),hf]
  · rw[upF_end h]
 termination_by n - i
@[simp] theorem insS_length (a b : Nat) (xs : List Int) : (insS a b xs).length = xs.length := upF_len (fun i xs => insD_length a i xs) b (a + 1) xs
structure Inp (nro:Nat) (h0 G:VH) (blk:Nat) (xs:List Int):Prop where
 at' :G[blk]? =some ⟨1,ints xs⟩
 nr:nro≤blk
 upd:Upd h0 G
 len:xs.length≤100000
def ws (blk N:Nat):Value:= .slice (some ⟨blk,0,none⟩) N N
theorem Inp.lt {h0 G:VH} {blk:Nat} {xs:List Int} (I:Inp nro h0 G blk xs):blk<G.length:=(List.getElem?_eq_some_iff.mp I.at').1
theorem Inp.set {h0 G:VH} {blk:Nat} {xs ys:List Int} (I:Inp nro h0 G blk xs) (hl:ys.length=xs.length):Inp nro h0 (G.set blk ⟨1,ints ys⟩) blk ys:=
 ⟨by simp[I.lt],I.nr,I.upd.set' (flatO_ints _ _ _),by rw[hl];exact I.len⟩
theorem Inp.clean {h0 G:VH} {blk:Nat} {xs:List Int} (I:Inp nro h0 G blk xs) {vs:List Value} (hv: ∀v∈vs,Old h0.length v):kclean h0 vs G=(vs,G):=by
 have:=cleanup_upd (L:= []) I.upd hv
 rwa [List.append_nil]at this
end

/- slices.Compact. -/
section
open Go
variable {nro:Nat}
def ddN (xs:List Int):Nat→List Int
 | 0 => []
 | p + 1 => if p ≠ 0 ∧ xs.getD p 0 = xs.getD (p - 1) 0 then ddN xs p else ddN xs p ++ [xs.getD p 0]
theorem ddN_le (xs:List Int): ∀p,(ddN xs p).length≤p
 | 0 => Nat.le_refl _
 | p + 1 => by
  have:=ddN_le xs p
  rw[ddN];split
  ·omega
  ·simp;omega
theorem ddN_none {xs:List Int}: ∀ {p:Nat},p≤xs.length→(∀q,1≤q→q<p→xs.getD q 0≠xs.getD (q - 1) 0)→ddN xs p=xs.take p
 | 0, _, _ => by simp [ddN]
 | p + 1, hp, h => by
  rw[ddN,ddN_none (by omega) fun q h1 h2=>h q h1 (by omega),if_neg]
  ·rw[List.take_add_one,List.getD_eq_getElem?_getD,List.getElem?_eq_getElem (by omega)];rfl
  ·rintro⟨h1,h2⟩
   exact h p (by omega) (by omega) h2
theorem set_here {D xs:List Int} {x:Int} (h:D.length<xs.length):(D++xs.drop D.length).set D.length x=(D++ [x])++xs.drop (D++ [x]).length:=by
 rw[List.set_append_right _ _ (Nat.le_refl _),Nat.sub_self,List.drop_eq_getElem_cons h,List.set_cons_zero]
 simp
theorem get_there {D xs:List Int} {q:Nat} (h:D.length≤q):(D++xs.drop D.length).getD q 0=xs.getD q 0:=by
 rw[List.getD_eq_getElem?_getD,List.getElem?_append_right h,List.getElem?_drop,List.getD_eq_getElem?_getD]
 rw[show D.length+(q - D.length)=q by omega]
theorem l_cpt1 {h0 G:VH} {blk:Nat} {xs zs:List Int} (I:Inp nro h0 G blk zs) (k k2:Nat) (hz:zs=ddN xs (k+k2)++xs.drop (ddN xs (k+k2)).length) (hk:1≤k2) (hp:k+k2≤xs.length) (hd:(ddN xs (k+k2)).length<k+k2):
    floop (vcall F nro) nro [0,3,4,5] i_zz26_B1 h0 [.slice (some ⟨blk,0,none⟩) xs.length xs.length,.int .i64 (ddN xs (k+k2)).length,.slice (some ⟨blk,k,none⟩) (xs.length - k) xs.length,.int .i64 k2] G=
      some (.exit 2,fl [(0,.slice (some ⟨blk,0,none⟩) xs.length xs.length),(3,.int .i64 (ddN xs xs.length).length)],G.set blk ⟨1,ints (ddN xs xs.length++xs.drop (ddN xs xs.length).length)⟩):=by
  have hb:=I.at'
  have hnb:=I.nr
  have hlen:=I.len
  have hlt:=I.lt
  have hbl:blk<h0.length:=by rw[←I.upd.1];exact hlt
  have hzl:zs.length=xs.length:=by rw[hz];simp;omega
  rw[floop_at i_zz26_B1.eq_1]
  by_cases c:k+k2<xs.length
  · obtain ⟨D, hD⟩ : ∃ D, D = ddN xs (k + k2) := ⟨_, rfl⟩
    rw[←hD]at hz hd⊢
    have g1:zs.getD (k+k2) 0=xs.getD (k+k2) 0:=by rw[hz];exact get_there (by omega)
    have g0:zs.getD (k+k2 - 1) 0=xs.getD (k+k2 - 1) 0:=by rw[hz];exact get_there (by omega)
    have r1:List.take 1 (List.drop (k+k2) (ints zs))= [.int .i64 (xs.getD (k+k2) 0)]:=by rw[take1_ints (by omega),←getD_at zs (by omega),g1]
    have r0:List.take 1 (List.drop (k+(k2 - 1)) (ints zs))= [.int .i64 (xs.getD (k+k2 - 1) 0)]:=by rw[show k+(k2 - 1)=k+k2 - 1 by omega,take1_ints (by omega),←getD_at zs (by omega),g0]
    have c' :(k2:Int)<((xs.length - k:Nat):Int):=by omega
    have w1:IntKind.i64.wrap ((k2:Int) - 1)=((k2 - 1:Nat):Int):=by rw[wrap64 (by omega) (by omega)];omega
    have w2:IntKind.i64.wrap ((k2:Int)+1)=(k2:Int)+1:=wrap64 (by omega) (by omega)
    have w3:IntKind.i64.wrap ((D.length:Int)+1)=(D.length:Int)+1:=wrap64 (by omega) (by omega)
    have p1:((k2 - 1:Nat):Int)<((xs.length - k:Nat):Int):=by omega
    have e0:ddN xs (k+(k2+1))=if xs.getD (k+k2) 0=xs.getD (k+k2 - 1) 0 then D else D++ [xs.getD (k+k2) 0]:=by
      rw[show k+(k2+1)=(k+k2)+1 by omega,ddN,←hD]
      have:k+k2≠0:=by omega
      simp only[ne_eq,this,not_false_eq_true,true_and]
    obtain⟨x,hx⟩: ∃x,x=xs.getD (k+k2) 0:=⟨_,rfl⟩
    obtain⟨y,hy⟩: ∃y,y=xs.getD (k+k2 - 1) 0:=⟨_,rfl⟩
    rw[←hx]at r1 e0
    rw[←hy]at r0 e0
    by_cases c2:x=y
    · rw [if_pos c2] at e0
      have ih:=l_cpt1 I k (k2+1) (by rw[e0];exact hz) (by omega) (by omega) (by rw[e0];omega)
      rw[e0,show((k2+1:Nat):Int)=(k2:Int)+1 by omega]at ih
      have hcl:=fun vs=>I.clean (vs:=vs)
      obtain⟨q,hq⟩: ∃q,q=ddN xs xs.length:=⟨_,rfl⟩
      rw[←hq]at ih⊢
      have b1:k+k2<(ints zs).length:=by rw[ints_length];omega
      have b0:k+(k2 - 1)<(ints zs).length:=by rw[ints_length];omega
      have b2:k+k2<xs.length:=c
      have b3:k+(k2 - 1)<xs.length:=by omega
      clear hq hx hy I hz g0 g1 e0 hD
      simp (disch:=first|assumption|omega|(simp[*]<;>omega)|fail) [-getElem?_pos,gz_,gs_,c',w1,w2,p1,r1,r0,c2,hb,hcl,hbl,ih,b1,b0,b2,b3,hzl]
    · rw [if_neg c2] at e0
      have hset:=set_here (D:=D) (xs:=xs) (x:=x) (by omega)
      rw[←hz]at hset
      have ih:=l_cpt1 (I.set (ys:=zs.set D.length x) (by simp)) k (k2+1) (by rw[e0];exact hset) (by omega) (by omega) (by rw[e0];simp;omega)
      rw[e0,List.set_set]at ih
      simp only[List.length_append,List.length_singleton]at ih
      rw[show((k2+1:Nat):Int)=(k2:Int)+1 by omega,show((D.length+1:Nat):Int)=(D.length:Int)+1 by omega]at ih
      have e1:splice D.length [.int .i64 x] (ints zs)=ints (zs.set D.length x):=splice_ints (by omega)
      have hcl: ∀(ys:List Int) vs,(∀v∈vs,Old h0.length v)→kclean h0 vs (G.set blk ⟨1,ints ys⟩)=(vs,G.set blk ⟨1,ints ys⟩):=fun ys vs hv=>by
        have:=cleanup_upd (L:= []) (I.upd.set' (b:=blk) (flatO_ints _ 1 ys)) hv
        rwa [List.append_nil]at this
      have hg: ∀o,(G.set blk o)[blk]? =some o:=fun o=>by simp[hlt]
      obtain⟨q,hq⟩: ∃q,q=ddN xs xs.length:=⟨_,rfl⟩
      rw[←hq]at ih⊢
      obtain⟨d,hd2⟩: ∃d,d=D.length:=⟨_,rfl⟩
      rw[←hd2]at ih e1 w3 hd⊢
      obtain⟨u,hu⟩: ∃u,u=zs.set d x:=⟨_,rfl⟩
      rw[←hu]at ih e1
      have b1:k+k2<(ints zs).length:=by rw[ints_length];omega
      have b0:k+(k2 - 1)<(ints zs).length:=by rw[ints_length];omega
      have b2:k+k2<xs.length:=c
      have b3:k+(k2 - 1)<xs.length:=by omega
      have b4:(d:Int)<xs.length:=by omega
      have b5:d<xs.length:=by omega
      clear hq hx hy I hz g0 g1 e0 hD hd2 hset hu
      simp (disch:=first|assumption|omega|(simp[*]<;>omega)|fail) [-getElem?_pos,gz_,gs_,c',w1,w2,w3,p1,r1,r0,c2,hb,hnb,hcl,hg,hbl,hlt,ih,b1,b0,b2,b3,b4,b5,hzl,e1]
  · have e : k + k2 = xs.length := by omega
    have c' : ¬(k2:Int)<((xs.length - k:Nat):Int):=by omega
    rw[e]at hz⊢
    rw[←hz,hset_self hb]
    simp (disch:=first|assumption|omega|(simp[*]<;>omega)|fail) [-getElem?_pos,gz_,gs_,c',hb,hzl]
 termination_by xs.length - (k+k2)
theorem ddN_grow (xs:List Int): ∀(p m:Nat),m≤p→(ddN xs p).length≤(ddN xs m).length+(p - m)
 | 0, m, h => by
  have:m=0:=by omega
  subst this;simp
 | p + 1, m, h => by
  by_cases e:m=p+1
  ·subst e;omega
  ·have:=ddN_grow xs p m (by omega)
   rw[ddN];split
   ·omega
   ·simp;omega
theorem splice_zeros {D L:List Int} {m:Nat} (h:L.length=m):splice D.length (List.replicate m [Value.int .i64 0]).flatten (ints (D++L))=ints (D++List.replicate m 0):=by
 have e:(List.replicate m [Value.int .i64 0]).flatten=ints (List.replicate m 0):=by
  clear h
  induction m with
  | zero => rfl
  | succ m ih => rw [List.replicate_succ, List.replicate_succ, List.flatten_cons, ih]; rfl
 rw[e]
 unfold splice ints
 simp only[List.map_append,List.length_map,List.length_replicate]
 have l1:D.length=(D.map (Value.int .i64)).length:=by simp
 have l2:(D.map (Value.int .i64)++L.map (Value.int .i64)).length≤D.length+m:=by simp;omega
 have t1:List.take D.length (D.map (Value.int .i64)++L.map (Value.int .i64))=D.map (Value.int .i64):=by
  rw[l1,List.take_left]
 rw[t1,List.drop_eq_nil_of_le l2,List.append_nil]
theorem l_cpt2 {h0 G : VH} {blk : Nat} {xs : List Int} (I : Inp nro h0 G blk xs) (k : Nat) (h1 : 1 ≤ k) (hk : k ≤ xs.length) (hd : ∀ q, 1 ≤ q → q < k → xs.getD q 0 ≠ xs.getD (q - 1) 0) :
    floop (vcall F nro) nro [0,3] i_zz26_B2 h0 [.slice (some ⟨blk,0,none⟩) xs.length xs.length,.int .i64 k] G=
      if(ddN xs xs.length).length=xs.length then some (.exit 0,fl [(0,.slice (some ⟨blk,0,none⟩) xs.length xs.length)],G)
      else some (.ret,fl [(2,.slice (some ⟨blk,0,none⟩) (ddN xs xs.length).length xs.length)],G.set blk ⟨1,ints (ddN xs xs.length++List.replicate (xs.length - (ddN xs xs.length).length) 0)⟩):=by
  have hb:=I.at'
  have hnb:=I.nr
  have hlen:=I.len
  have hlt:=I.lt
  have hbl:blk<h0.length:=by rw[←I.upd.1];exact hlt
  rw[floop_at i_zz26_B2.eq_1]
  by_cases c:k<xs.length
  · have c' : (k : Int) < xs.length := by omega
    have r1:List.take 1 (List.drop k (ints xs))= [.int .i64 (xs.getD k 0)]:=by rw[take1_ints c,←getD_at xs c]
    have r0:List.take 1 (List.drop (k - 1) (ints xs))= [.int .i64 (xs.getD (k - 1) 0)]:=by rw[take1_ints (by omega),←getD_at xs (by omega)]
    have w1:IntKind.i64.wrap ((k:Int) - 1)=((k - 1:Nat):Int):=by rw[wrap64 (by omega) (by omega)];omega
    have w2:IntKind.i64.wrap ((k:Int)+1)=(k:Int)+1:=wrap64 (by omega) (by omega)
    have p1:((k - 1:Nat):Int)<xs.length:=by omega
    have b1:k<xs.length:=c
    have b0:k - 1<xs.length:=by omega
    have hcl:=fun vs=>I.clean (vs:=vs)
    by_cases c2:xs.getD k 0=xs.getD (k - 1) 0
    · have e1 : ddN xs (k + 1) = xs.take k := by
        rw[ddN,if_pos ⟨by omega,c2⟩,ddN_none (by omega) hd]
      have hne: ¬(ddN xs xs.length).length=xs.length:=by
        have:=ddN_grow xs xs.length (k+1) (by omega)
        rw[e1]at this
        simp at this
        omega
      rw[if_neg hne]
      have I0:Inp nro G G blk xs:=⟨hb,hnb,Upd.rfl' G,hlen⟩
      have lp:=l_cpt1 I0 k 1 (by rw[e1];simp;rw[Nat.min_eq_left (by omega)];simp) (by omega) (by omega) (by rw[e1];simp;omega)
      rw[e1,List.length_take,Nat.min_eq_left (by omega)]at lp
      simp only[Int.natCast_one]at lp
      have hle:=ddN_le xs xs.length
      have s1:vslice 1 G (.slice (some ⟨blk,0,none⟩) xs.length xs.length) (some (.int .i64 k)) none=some (.slice (some ⟨blk,k,none⟩) (xs.length - k) xs.length):=by
        simp[vslice,hb];omega
      obtain⟨D,hD⟩: ∃D,D=ddN xs xs.length:=⟨_,rfl⟩
      rw[←hD]at lp hle hne⊢
      have hl3:(ints (D++xs.drop D.length)).length=xs.length:=by rw[ints_length];simp;omega
      obtain⟨G',hG'⟩: ∃G',G' =G.set blk ⟨1,ints (D++xs.drop D.length)⟩:=⟨_,rfl⟩
      have hg:G'[blk]? =some ⟨1,ints (D++xs.drop D.length)⟩:=by rw[hG'];simp[hlt]
      have s2:vslice 1 G' (.slice (some ⟨blk,0,none⟩) xs.length xs.length) (some (.int .i64 D.length)) none=some (.slice (some ⟨blk,D.length,none⟩) (xs.length - D.length) xs.length):=by
        simp only[vslice,hg,hl3,and_self,if_true,Option.getD_some,Option.getD_none]
        rw[if_pos (by omega)]
        simp
      have s3:vclear nro 1 [.int .i64 0] G' (.slice (some ⟨blk,D.length,none⟩) (xs.length - D.length) xs.length)=some (.tuple #[],G.set blk ⟨1,ints (D++List.replicate (xs.length - D.length) 0)⟩):=by
        simp only[vclear,hg,hl3,and_self,if_true]
        rw[if_neg (by omega),if_pos ⟨hnb,by omega,rfl,rfl⟩,splice_zeros (by simp),hG',List.set_set]
      have hl4:(ints (D++List.replicate (xs.length - D.length) 0)).length=xs.length:=by rw[ints_length];simp;omega
      obtain⟨G2,hG2⟩: ∃G2,G2=G.set blk ⟨1,ints (D++List.replicate (xs.length - D.length) 0)⟩:=⟨_,rfl⟩
      have hg2:G2[blk]? =some ⟨1,ints (D++List.replicate (xs.length - D.length) 0)⟩:=by rw[hG2];simp[hlt]
      have s4:vslice 1 G2 (.slice (some ⟨blk,0,none⟩) xs.length xs.length) none (some (.int .i64 D.length))=some (.slice (some ⟨blk,0,none⟩) D.length xs.length):=by
        simp only[vslice,hg2,hl4,and_self,if_true,Option.getD_some,Option.getD_none]
        rw[if_pos (by omega)]
        simp
      rw[←hG']at lp
      rw[←hG2]at s3⊢
      obtain⟨y,hy⟩: ∃y,y=xs.getD (k - 1) 0:=⟨_,rfl⟩
      rw[c2]at r1
      rw[←hy]at r0 r1
      clear hD hG' hG2 I I0 e1 hd c2 hg hg2 hl3 hl4 hy
      simp (disch:=first|assumption|omega|(simp[*]<;>omega)|fail) [-getElem?_pos,gz_,gs_,c',hk,r1,r0,w1,w2,p1,b1,b0,hb,hnb,hbl,hlt,s1,lp,s2,s3,s4]
    · have ih := l_cpt2 I (k + 1) (by omega) c fun q h2 h3 => by
        by_cases e:q=k
        · rw[e];exact c2
        · exact hd q h2 (by omega)
      rw[show((k+1:Nat):Int)=(k:Int)+1 by omega]at ih
      obtain⟨q,hq⟩: ∃q,q=(if(ddN xs xs.length).length=xs.length then some (VX.exit 0,fl [(0,.slice (some ⟨blk,0,none⟩) xs.length xs.length)],G)
        else some (.ret,fl [(2,.slice (some ⟨blk,0,none⟩) (ddN xs xs.length).length xs.length)],G.set blk ⟨1,ints (ddN xs xs.length++List.replicate (xs.length - (ddN xs xs.length).length) 0)⟩)):=⟨_,rfl⟩
      rw[←hq]at ih⊢
      obtain⟨x,hx⟩: ∃x,x=xs.getD k 0:=⟨_,rfl⟩
      obtain⟨y,hy⟩: ∃y,y=xs.getD (k - 1) 0:=⟨_,rfl⟩
      rw[←hx]at r1 c2
      rw[←hy]at r0 c2
      clear hq hx hy I hd
      simp (disch:=first|assumption|omega|(simp[*]<;>omega)|fail) [-getElem?_pos,gz_,gs_,c',hk,r1,r0,w1,w2,p1,b1,b0,hb,c2,hcl,hbl,ih]
  · have e : k = xs.length := by omega
    have c' : ¬(k:Int)<xs.length:=by omega
    have e1:ddN xs xs.length=xs:=by
      rw[ddN_none (Nat.le_refl _) (by rw[←e];exact hd),List.take_length]
    rw[e1,if_pos rfl]
    simp (disch:=first|assumption|omega|(simp[*]<;>omega)|fail) [-getElem?_pos,gz_,gs_,c',hb]
 termination_by xs.length - k
theorem c_Compact {G:VH} {blk:Nat} {xs:List Int} (hb:G[blk]? =some ⟨1,ints xs⟩) (hnb:nro≤blk) (hlen:xs.length≤100000) (h0:1≤xs.length):
  vcall F nro k_zz26 [.slice (some ⟨blk,0,none⟩) xs.length xs.length] G=some (.slice (some ⟨blk,0,none⟩) (ddN xs xs.length).length xs.length,G.set blk ⟨1,ints (ddN xs xs.length++List.replicate (xs.length - (ddN xs xs.length).length) 0)⟩):=by
 refine v_zz26 (by simp[i_zz26]) ?_
 rw[fbody_eq]
 have hlt:blk<G.length:=(List.getElem?_eq_some_iff.mp hb).1
 have hco: ∀(ys:List Int) a b,kclean G [.slice (some ⟨blk,0,none⟩) a b] (G.set blk ⟨1,ints ys⟩)=([.slice (some ⟨blk,0,none⟩) a b],G.set blk ⟨1,ints ys⟩):=fun ys a b=>by
  have:=cleanup_upd (L:= []) ((Upd.rfl' G).set' (b:=blk) (flatO_ints _ 1 ys)) (vs:= [.slice (some ⟨blk,0,none⟩) a b]) (by simp[hlt])
  rwa [List.append_nil]at this
 have hco0: ∀a b,kclean G [.slice (some ⟨blk,0,none⟩) a b] G=([.slice (some ⟨blk,0,none⟩) a b],G):=fun a b=>by
  have:=hco xs a b
  rwa [hset_self hb]at this
 have full:(ddN xs xs.length).length=xs.length→ddN xs xs.length=xs:=fun e=>by
  rw[ddN_none (Nat.le_refl _) fun q h1 h2 e2=> ?_,List.take_length]
  have h3:=ddN_grow xs xs.length (q+1) (by omega)
  have h4:=ddN_le xs q
  rw[ddN,if_pos ⟨by omega,e2⟩]at h3
  omega
 by_cases c:xs.length<2
 ·have e:xs.length=1:=by omega
  have e1:ddN xs xs.length=xs:=by
   rw[ddN_none (Nat.le_refl _) fun q h1 h2=>by omega,List.take_length]
  rw[e1,Nat.sub_self,List.replicate_zero,List.append_nil,hset_self hb]
  have c' :(xs.length:Int)<2:=by omega
  simp (disch:=first|assumption|omega|(simp[*]<;>omega)|fail) [-getElem?_pos,gz_,gs_,i_zz26,hb,c',hco0]
 ·have c' : ¬(xs.length:Int)<2:=by omega
  have lp:=l_cpt2 (nro:=nro) (h0:=G) (G:=G) (blk:=blk) (xs:=xs) ⟨hb,hnb,Upd.rfl' G,hlen⟩ 1 (Nat.le_refl _) (by omega) fun q h1 h2=>by omega
  simp only[Int.natCast_one]at lp
  by_cases e:(ddN xs xs.length).length=xs.length
  ·have e1:=full e
   rw[if_pos e]at lp
   rw[e1,Nat.sub_self,List.replicate_zero,List.append_nil,hset_self hb]
   simp (disch:=first|assumption|omega|(simp[*]<;>omega)|fail) [-getElem?_pos,gz_,gs_,i_zz26,hb,c',lp,hco0]
  ·rw[if_neg e]at lp
   simp (disch:=first|assumption|omega|(simp[*]<;>omega)|fail) [-getElem?_pos,gz_,gs_,i_zz26,hb,c',lp,hco]
end

/- Sorting short lists; what sorted lists are. -/
section
open Go
variable {nro:Nat}
theorem swp_perm {xs:List Int} {i j:Nat} (hi:i<xs.length) (hj:j<xs.length):List.Perm (swp xs i j) xs:=by
 unfold swp
 rw[getD_at xs hi,getD_at xs hj]
 exact List.set_set_perm hi hj
theorem swp_get {xs:List Int} {i j:Nat} (hi:i<xs.length) (hj:j<xs.length) (p:Nat):(swp xs i j).getD p 0=if p=j then xs.getD i 0 else if p=i then xs.getD j 0 else xs.getD p 0:=by
 unfold swp
 rw[List.getD_eq_getElem?_getD,List.getElem?_set]
 by_cases h1:p=j
 ·rw[if_pos h1.symm,if_pos (by simpa [h1]using hj),if_pos h1];rfl
 ·rw[if_neg (fun e=>h1 e.symm),if_neg h1,List.getElem?_set]
  by_cases h2:p=i
  ·rw[if_pos h2.symm,if_pos hi,if_pos h2];rfl
  ·rw[if_neg (fun e=>h2 e.symm),if_neg h2,List.getD_eq_getElem?_getD]
theorem insD_perm (a:Nat): ∀(j:Nat) (xs:List Int),j<xs.length→List.Perm (insD a j xs) xs
 | 0, _, _ => List.Perm.refl _
 | j + 1, xs, h => by
  rw[insD]
  split
  ·exact(insD_perm a j (swp xs (j+1) j) (by simp;omega)).trans (swp_perm h (by omega))
  ·exact List.Perm.refl _
def SrtB (a b:Nat) (xs:List Int):Prop:= ∀p q,a≤p→p<q→q<b→xs.getD p 0≤xs.getD q 0
theorem insD_sorted (a i:Nat): ∀(j:Nat) (xs:List Int),a≤j→j≤i→i<xs.length→(∀p q,a≤p→p<q→q≤i→p≠j→q≠j→xs.getD p 0≤xs.getD q 0)→(∀q,j<q→q≤i→xs.getD j 0≤xs.getD q 0)→SrtB a (i+1) (insD a j xs)
 | 0, xs, ha, hj, hi, h1, h2 => by
  intro p q hp hpq hq
  show xs.getD p 0≤xs.getD q 0
  by_cases e:p=0
  ·rw[e];exact h2 q (by omega) (by omega)
  ·exact h1 p q hp hpq (by omega) e (by omega)
 | j + 1, xs, ha, hj, hi, h1, h2 => by
  rw[insD]
  by_cases c:a<j+1∧xs.getD (j+1) 0<xs.getD j 0
  ·rw [if_pos c]
   have g:=swp_get (xs:=xs) (i:=j+1) (j:=j) (by omega) (by omega)
   refine insD_sorted a i j (swp xs (j+1) j) (by omega) (by omega) (by simpa using hi) (fun p q hp hpq hq n1 n2=> ?_) (fun q h3 h4=> ?_)
   ·rw[g,g,if_neg n1,if_neg n2]
    by_cases e1:p=j+1
    ·rw[if_pos e1,if_neg (by omega)]
     exact h1 j q (by omega) (by omega) hq (by omega) (by omega)
    ·rw[if_neg e1]
     by_cases e2:q=j+1
     ·rw[if_pos e2]
      exact h1 p j hp (by omega) (by omega) e1 (by omega)
     ·rw[if_neg e2]
      exact h1 p q hp hpq hq e1 e2
   ·rw[g,g,if_pos rfl,if_neg (by omega)]
    by_cases e2:q=j+1
    ·rw[if_pos e2];omega
    ·rw[if_neg e2]
     exact h2 q (by omega) h4
  ·rw[if_neg c]
   intro p q hp hpq hq
   by_cases e1:p=j+1
   ·rw[e1];exact h2 q (by omega) (by omega)
   ·by_cases e2:q=j+1
    ·rw[e2]
     have h3:xs.getD j 0≤xs.getD (j+1) 0:=by omega
     by_cases e3:p=j
     ·rw[e3];exact h3
     ·exact Int.le_trans (h1 p j hp (by omega) (by omega) e1 (by omega)) h3
    ·exact h1 p q hp hpq (by omega) e1 e2
theorem insS_ok (a b:Nat): ∀(i:Nat) (xs:List Int),b≤xs.length→a<i→SrtB a i xs→List.Perm (upF (fun i xs=>insD a i xs) b i xs) xs∧(i≤b→SrtB a b (upF (fun i xs=>insD a i xs) b i xs)):=by
  intro i xs hb hi hs
  by_cases c:i<b
  · rw [upF_step c]
    have h1:SrtB a (i+1) (insD a i xs):=insD_sorted a i i xs (by omega) (Nat.le_refl _) (by omega) (fun p q hp hpq hq _ n2=>hs p q hp hpq (by omega)) (fun q h1 h2=>by omega)
    obtain⟨h2,h3⟩:=insS_ok a b (i+1) (insD a i xs) (by simpa using hb) (by omega) h1
    exact⟨h2.trans (insD_perm a i xs (by omega)),fun _=>h3 (by omega)⟩
  · rw [upF_end c]
    exact ⟨List.Perm.refl _, fun h => by have : i = b := by omega
                                         rw[←this];exact hs⟩
 termination_by i=>b - i
theorem insS_perm {a b:Nat} {xs:List Int} (hb:b≤xs.length):List.Perm (insS a b xs) xs:=(insS_ok a b (a+1) xs hb (by omega) (fun p q h1 h2 h3=>by omega)).1
theorem insS_sorted {a b:Nat} {xs:List Int} (hb:b≤xs.length):SrtB a b (insS a b xs):=by
 by_cases h:a+1≤b
 ·exact(insS_ok a b (a+1) xs hb (by omega) (fun p q h1 h2 h3=>by omega)).2 h
 ·intro p q h1 h2 h3;omega
end

/- Sorting, as the library does it: what is sorted, told once. -/
section
open Go Go.Sort
def getI (d:Array Nat) (x:Int):Nat:=d[x.toNat]!
def setI (d:Array Nat) (x:Int) (v:Nat):Array Nat:=d.setIfInBounds x.toNat v
@[simp] theorem setI_size (d : Array Nat) (x : Int) (v : Nat) : (setI d x v).size = d.size := by simp [setI]
def swI (d:Array Nat) (x y:Int):Array Nat:=setI (setI d x (getI d y)) y (getI d x)
@[simp] theorem swI_size (d : Array Nat) (x y : Int) : (swI d x y).size = d.size := by simp [swI]
theorem swI_swp (d:Array Nat) (x y:Int) (i j:Nat) (hx:x=i) (hy:y=j):swI d x y=Go.Sort.swp d i j:=by
 subst hx;subst hy;rfl
@[simp] theorem swp_size (d : Array Nat) (i j : Nat) : (Go.Sort.swp d i j).size = d.size := by simp [Go.Sort.swp]
structure SE (nro:Nat) (ld:Bool) (sz:Nat) (S C:Value) (P:Int→Value) (ag:Nat→Value) (cm:Nat→Nat→Int) (N:Nat) (H:Array Nat→VH):Prop where
 len: ∀d d',(H d).length=(H d').length
 nr: ∀d,nro≤(H d).length
 oS: ∀n,(H #[]).length≤n→Old n S
 oC: ∀n,(H #[]).length≤n→Old n C
 idx: ∀(d:Array Nat) (x:Int),d.size=N→0≤x→x<N→vidx sz (H d) S (.int .i64 x)=some (P x,H d)
 load: ∀(d:Array Nat) (x:Int),d.size=N→0≤x→x<N→vload ld sz (H d) (P x)=some (ag (getI d x))
 store: ∀(d:Array Nat) (x:Int) (v:Nat),d.size=N→0≤x→x<N→vstore nro sz (H d) (P x) (ag v)=some (H (setI d x v))
 cmp: ∀(d:Array Nat) (x y:Nat),vcallv (vcall F nro) (H d) C [ag x,ag y]=some (.int .i64 (cm x y),H d)
 upd: ∀(d d' :Array Nat),Upd (H d) (H d')
 vln: ∀d,d.size=N→vlen (H d) S=some (.int .i64 N,H d)
 hN:N≤1000
section
variable {nro:Nat} {ld:Bool} {sz:Nat} {S C:Value} {P:Int→Value} {ag:Nat→Value} {cm:Nat→Nat→Int} {N:Nat} {H:Array Nat→VH}
theorem SE.clean (E:SE nro ld sz S C P ag cm N H) (d d' :Array Nat) (L:VH) (vs:List Value) (hv: ∀v∈vs,Old (H #[]).length v):kclean (H d) vs (H d' ++L)=(vs,H d'):=
 cleanup_upd (E.upd d d') (by rw[E.len d #[]];exact hv)
theorem SE.clean0 (E:SE nro ld sz S C P ag cm N H) (d d' :Array Nat) (vs:List Value) (hv: ∀v∈vs,Old (H #[]).length v):kclean (H d) vs (H d')=(vs,H d'):=by
 have:=E.clean d d' [] vs hv
 rwa [List.append_nil]at this
theorem SE.ln (E:SE nro ld sz S C P ag cm N H) (d:Array Nat):(H d).length=(H #[]).length:=E.len d #[]
end
theorem Upd.snoc {h h' :VH} (hu:Upd h h') (o o' :VO) (hf:flatO (h.length+1) o'):Upd (h++ [o]) (h' ++ [o']):=by
 refine⟨by simp[hu.1],fun i p hp=> ?_⟩
 have hl:(h++ [o]).length=h.length+1:=by simp
 by_cases hi:i<h'.length
 ·rw[List.getElem?_append_left hi]at hp
  rcases hu.2 i p hp with h1|h1
  ·left
   have:i<h.length:=(List.getElem?_eq_some_iff.mp h1).1
   rw[List.getElem?_append_left this];exact h1
  ·right
   intro r hr
   have:=h1 r hr
   omega
 ·rw[List.getElem?_append_right (by omega)]at hp
  by_cases hi2:i - h'.length=0
  ·rw[hi2]at hp
   simp at hp
   subst hp
   right
   intro r hr
   have:=hf r hr
   omega
  ·have:i - h'.length=(i - h'.length - 1)+1:=by omega
   rw[this]at hp
   simp at hp
structure SX (nro:Nat) (ld:Bool) (sz:Nat) (S C:Value) (P:Int→Value) (ag:Nat→Value) (cm:Nat→Nat→Int) (N:Nat) (H:Array Nat→VH):Prop where
 base:SE nro ld sz S C P ag cm N H
 ext: ∀o,SE nro ld sz S C P ag cm N (fun d=>H d++ [o])
theorem SX.clean {nro:Nat} {ld:Bool} {sz:Nat} {S C:Value} {P:Int→Value} {ag:Nat→Value} {cm:Nat→Nat→Int} {N:Nat} {H:Array Nat→VH} (E:SX nro ld sz S C P ag cm N H) (d d' :Array Nat) (o o' :VO) (hf: ∀n,flatO n o') (L:VH) (vs:List Value) (hv: ∀v∈vs,Old ((H #[]).length+1) v):kclean (H d++ [o]) vs (H d' ++o' ::L)=(vs,H d' ++ [o']):=by
 have:=cleanup_upd (L:=L) ((E.base.upd d d').snoc o o' (hf _)) (vs:=vs) (by rw[List.length_append,List.length_singleton,E.base.len d #[]];exact hv)
 rwa [List.append_assoc]at this
section
variable {nro:Nat} {ld:Bool} {sz:Nat} {S C:Value} {P:Int→Value} {ag:Nat→Value} {cm:Nat→Nat→Int} {N:Nat} {H:Array Nat→VH} (E:SX nro ld sz S C P ag cm N H)
include E
theorem SX.idx (o:VO) (d:Array Nat) (x:Int) (h1:d.size=N) (h2:0≤x) (h3:x<N):vidx sz (H d++ [o]) S (.int .i64 x)=some (P x,H d++ [o]):=(E.ext o).idx d x h1 h2 h3
theorem SX.load (o:VO) (d:Array Nat) (x:Int) (h1:d.size=N) (h2:0≤x) (h3:x<N):vload ld sz (H d++ [o]) (P x)=some (ag (getI d x)):=(E.ext o).load d x h1 h2 h3
theorem SX.store (o:VO) (d:Array Nat) (x:Int) (v:Nat) (h1:d.size=N) (h2:0≤x) (h3:x<N):vstore nro sz (H d++ [o]) (P x) (ag v)=some (H (setI d x v)++ [o]):=(E.ext o).store d x v h1 h2 h3
theorem SX.cmp (o:VO) (d:Array Nat) (x y:Nat):vcallv (vcall F nro) (H d++ [o]) C [ag x,ag y]=some (.int .i64 (cm x y),H d++ [o]):=(E.ext o).cmp d x y
theorem SX.nr (d:Array Nat):nro≤(H #[]).length:=E.base.nr #[]
end
def ltC (cm:Nat→Nat→Int) (x y:Nat):Bool:=decide (cm x y<0)
theorem getI_nat (d:Array Nat) (x:Int) (i:Nat) (h:x=i):getI d x=d[i]! :=by subst h;rfl
end

/- Sorting: insertion. -/
section
open Go Go.Sort
variable {nro:Nat} {S C:Value} {P:Int→Value} {ag:Nat→Value} {cm:Nat→Nat→Int} {N:Nat} {H:Array Nat→VH}
@[simp] theorem insInner_size (lt : Nat → Nat → Bool) (a : Nat) : ∀ (j : Nat) (d : Array Nat), (insInner lt a j d).size = d.size
 | 0, d => rfl
 | j + 1, d => by
  unfold insInner
  split
  ·rw[insInner_size lt a j];simp
  ·rfl
section
variable (E:SE nro true 3 S C P ag cm N H)
include E
theorem l_told_ins_1 (a b i:Nat) (d0:Array Nat): ∀(j:Nat) (d:Array Nat),d.size=N→j<N→
  floop (vcall F nro) nro [0,1,2,3,8,9] i_zz5_B1 (H d0) [S,.int .i64 a,.int .i64 b,C,.int .i64 i,.int .i64 j] (H d)=
   some (.exit 2,fl [(0,S),(1,.int .i64 a),(2,.int .i64 b),(3,C),(8,.int .i64 i)],H (insInner (ltC cm) a j d))
 | 0, d, hd, hj => by
  have hc:=E.clean0 d0 d
  have hl:=E.ln
  have oS:=E.oS
  have oC:=E.oC
  have h0: ¬(a:Int)<0:=by omega
  rw[floop_at i_zz5_B1.eq_1]
  unfold insInner
  simp (disch:=first|assumption|omega|(simp[*]<;>omega)|fail) [-getElem?_pos,gz_,gs_,hc,hl,oS,oC,h0]
 | j + 1, d, hd, hj => by
  have hc:=fun q=>E.clean0 d0 q
  have hl:=E.ln
  have oS:=E.oS
  have oC:=E.oC
  have hN:=E.hN
  have hi:=E.idx
  have hld:=E.load
  have hst:=E.store
  have hcm:=E.cmp
  have w1:IntKind.i64.wrap ((j:Int)+1 - 1)=j:=by rw[show(j:Int)+1 - 1=j by omega];exact wrap64 (by omega) (by omega)
  have w2:IntKind.i64.wrap (j:Int)=j:=wrap64 (by omega) (by omega)
  have g1:=getI_nat d ((j:Int)+1) (j+1) (by omega)
  have g2:=getI_nat d (j:Int) j rfl
  have k1:(0:Int)≤(j:Int)+1:=by omega
  have k2:(j:Int)+1<N:=by omega
  have k3:(j:Int)<N:=by omega
  rw[floop_at i_zz5_B1.eq_1]
  unfold insInner
  rw[←g1,←g2]
  by_cases c1:a<j+1
  ·have c1' :(a:Int)<(j:Int)+1:=by omega
   by_cases c2:cm (getI d ((j:Int)+1)) (getI d (j:Int))<0
   ·have e2:ltC cm (getI d ((j:Int)+1)) (getI d (j:Int))=true:=decide_eq_true c2
    have ih:=l_told_ins_1 a b i d0 j (Go.Sort.swp d (j+1) j) (by simpa using hd) (by omega)
    have e3:swI d ((j:Int)+1) j=Go.Sort.swp d (j+1) j:=swI_swp _ _ _ _ _ (by omega) rfl
    unfold swI at e3
    rw[if_pos (by simp[e2,c1]),←ih]
    clear ih g1 g2
    simp (disch:=first|assumption|omega|(simp[*]<;>omega)|fail) [-getElem?_pos,gz_,gs_,hc,hl,oS,oC,hi,hld,hst,hcm,hd,w1,w2,k1,k2,k3,c1',c2,e3]
   ·have e2:ltC cm (getI d ((j:Int)+1)) (getI d (j:Int))=false:=decide_eq_false c2
    rw[if_neg (by simp[e2])]
    clear g1 g2
    simp (disch:=first|assumption|omega|(simp[*]<;>omega)|fail) [-getElem?_pos,gz_,gs_,hc,hl,oS,oC,hi,hld,hst,hcm,hd,w1,w2,k1,k2,k3,c1',c2]
  ·have c1' : ¬(a:Int)<(j:Int)+1:=by omega
   rw[if_neg (by simp[c1])]
   simp (disch:=first|assumption|omega|(simp[*]<;>omega)|fail) [-getElem?_pos,gz_,gs_,hc,hl,oS,oC,c1']
theorem c_told_ins (a b:Nat) (d:Array Nat) (hd:d.size=N) (hb:b≤N) (ha:a≤N):
  vcall F nro k_zz5 [S,.int .i64 a,.int .i64 b,C] (H d)=some (.tuple #[],H (insertionSort (ltC cm) d a b)):=by
 have hl:=E.ln
 have oS:=E.oS
 have oC:=E.oC
 have hN:=E.hN
 have hc0:=fun q vs=>E.clean0 d q vs
 have lp: ∀(k i:Nat) (q:Array Nat),q.size=N→b≤i+k→i≤N+1→
   floop (vcall F nro) nro [0,1,2,3,8] i_zz5_B2 (H d) [S,.int .i64 a,.int .i64 b,C,.int .i64 i] (H q)=some (.exit 0,fl [],H (insOuter (ltC cm) a b i q)):=by
  intro k
  induction k with
  | zero =>
   intro i q hq hk hi
   have h1: ¬i<b:=by omega
   have h2: ¬(i:Int)<b:=by omega
   rw[insOuter,if_neg h1,floop_at i_zz5_B2.eq_1]
   simp (disch:=first|assumption|omega|(simp[*]<;>omega)|fail) [-getElem?_pos,gz_,gs_,hc0,hl,oS,oC,h2,h1]
  | succ k ih =>
   intro i q hq hk hi
   by_cases h1:i<b
   ·have h2:(i:Int)<b:=by omega
    have l1:=l_told_ins_1 E a b i q i q hq (by omega)
    have w1:IntKind.i64.wrap ((i:Int)+1)=(i:Int)+1:=wrap64 (by omega) (by omega)
    have ih2:=ih (i+1) (insInner (ltC cm) a i q) (by simpa using hq) (by omega) (by omega)
    rw[insOuter,if_pos h1,←ih2]
    clear ih ih2
    rw[floop_at i_zz5_B2.eq_1]
    simp (disch:=first|assumption|omega|(simp[*]<;>omega)|fail) [-getElem?_pos,gz_,gs_,hc0,hl,oS,oC,h2,h1,l1,w1]
   ·have h2: ¬(i:Int)<b:=by omega
    rw[insOuter,if_neg h1,floop_at i_zz5_B2.eq_1]
    simp (disch:=first|assumption|omega|(simp[*]<;>omega)|fail) [-getElem?_pos,gz_,gs_,hc0,hl,oS,oC,h2,h1]
 have l1:=lp b (a+1) d hd (by omega) (by omega)
 have w1:IntKind.i64.wrap ((a:Int)+1)=(a:Int)+1:=wrap64 (by omega) (by omega)
 refine v_zz5 (by simp[i_zz5]) ?_
 rw[fbody_eq]
 unfold insertionSort
 simp only[Int.natCast_add,Int.natCast_one]at l1
 simp (disch:=first|assumption|omega|(simp[*]<;>omega)|fail) [-getElem?_pos,gz_,gs_,i_zz5,w1,l1,hc0,fresults,fresL]
end
end

/- Sorting: heaps. -/
section
open Go Go.Sort
variable {nro:Nat} {S C:Value} {P:Int→Value} {ag:Nat→Value} {cm:Nat→Nat→Int} {N:Nat} {H:Array Nat→VH}
theorem siftDown_size (lt : Nat → Nat → Bool) (hi first : Nat) (root : Nat) (d : Array Nat) : (siftDown lt hi first root d).size = d.size := by
  rw[siftDown]
  split
  · rfl
  · split
    · split
      · rfl
      · split
        · rw[siftDown_size lt hi first (2 * root+2)];simp
        · rfl
    · split
      · rfl
      · rw[siftDown_size lt hi first (2 * root+1)];simp
 termination_by hi - root
section
variable (E:SE nro true 3 S C P ag cm N H)
include E
set_option maxHeartbeats 2000000 in
theorem l_told_sift (hi first:Nat) (hf:first+hi≤N) (d0:Array Nat) (root:Nat) (d:Array Nat) (hd:d.size=N) (hr:root≤N):
    ∃ x, (x = .exit 0 ∨ x = .ret) ∧ floop (vcall F nro) nro [0, 2, 3, 4, 10] i_zz16_B1 (H d0) [S, .int .i64 hi, .int .i64 first, C, .int .i64 root] (H d) =
      some (x,fl [],H (siftDown (ltC cm) hi first root d)):=by
  have hc:=fun q=>E.clean0 d0 q
  have hl:=E.ln
  have oS:=E.oS
  have oC:=E.oC
  have hN:=E.hN
  have hix:=E.idx
  have hld:=E.load
  have hst:=E.store
  have hcm:=E.cmp
  rw[siftDown]
  by_cases c0:2 * root+1≥hi
  · have c0' : (hi : Int) ≤ 2 * (root : Int) + 1 := by omega
    rw[dif_pos c0]
    refine⟨.exit 0,.inl rfl,?_⟩
    rw[floop_at i_zz16_B1.eq_1]
    simp (disch:=first|assumption|omega|(simp[*]<;>omega)|fail) [-getElem?_pos,gz_,gs_,hc,hl,oS,oC,wrap64,c0']
  · have c0' : ¬ (hi : Int) ≤ 2 * (root : Int) + 1 := by omega
    rw[dif_neg c0]
    have g0:=getI_nat d ((first:Int)+root) (first+root) (by omega)
    have g1:=getI_nat d ((first:Int)+(2 * (root:Int)+1)) (first+(2 * root+1)) (by omega)
    have g2:=getI_nat d ((first:Int)+(2 * (root:Int)+1)+1) (first+(2 * root+1)+1) (by omega)
    have g3:=getI_nat d ((first:Int)+(2 * (root:Int)+1+1)) (first+(2 * root+2)) (by omega)
    have g4:getI d ((first:Int)+(2 * (root:Int)+1)+1)=getI d ((first:Int)+(2 * (root:Int)+1+1)):=by rw[Int.add_assoc]
    rw[←g0,←g1,←g2,←g3]
    by_cases c1:2 * root+1+1<hi
    · have c1' : 2 * (root : Int) + 1 + 1 < hi := by omega
      by_cases c2:cm (getI d ((first:Int)+(2 * (root:Int)+1))) (getI d ((first:Int)+(2 * (root:Int)+1)+1))<0
      · have e2 : ltC cm (getI d ((first : Int) + (2 * (root : Int) + 1))) (getI d ((first : Int) + (2 * (root : Int) + 1) + 1)) = true := decide_eq_true c2
        rw[if_pos (by simp[e2,c1])]
        by_cases c3:cm (getI d ((first:Int)+root)) (getI d ((first:Int)+(2 * (root:Int)+1+1)))<0
        · have e3 : ltC cm (getI d ((first : Int) + root)) (getI d ((first : Int) + (2 * (root : Int) + 1 + 1))) = true := decide_eq_true c3
          rw[if_neg (by simp[e3]),dif_pos (by omega)]
          obtain⟨x,hx,ih⟩:=l_told_sift hi first hf d0 (2 * root+2) (Go.Sort.swp d (first+root) (first+(2 * root+2))) (by simpa using hd) (by omega)
          refine⟨x,hx,?_⟩
          have e4:swI d ((first:Int)+root) ((first:Int)+(2 * (root:Int)+1+1))=Go.Sort.swp d (first+root) (first+(2 * root+2)):=swI_swp _ _ _ _ _ (by omega) (by omega)
          unfold swI at e4
          rw[←ih,show((2 * root+2:Nat):Int)=2 * (root:Int)+1+1 by omega]
          clear ih g0 g1 g2 g3 e2 e3
          rw[floop_at i_zz16_B1.eq_1]
          simp (disch:=first|assumption|omega|(simp[*]<;>omega)|fail) [-getElem?_pos,gz_,gs_,hc,hl,oS,oC,hix,hld,hst,hcm,hd,wrap64,c0',c1',c2,c3,e4]
        · have e3 : ltC cm (getI d ((first : Int) + root)) (getI d ((first : Int) + (2 * (root : Int) + 1 + 1))) = false := decide_eq_false c3
          rw[if_pos (by simp[e3])]
          refine⟨.ret,.inr rfl,?_⟩
          clear g0 g1 g2 g3 e2 e3
          rw[floop_at i_zz16_B1.eq_1]
          simp (disch:=first|assumption|omega|(simp[*]<;>omega)|fail) [-getElem?_pos,gz_,gs_,hc,hl,oS,oC,hix,hld,hst,hcm,hd,wrap64,c0',c1',c2,c3]
      · have e2 : ltC cm (getI d ((first : Int) + (2 * (root : Int) + 1))) (getI d ((first : Int) + (2 * (root : Int) + 1) + 1)) = false := decide_eq_false c2
        rw[if_neg (by simp[e2])]
        by_cases c3:cm (getI d ((first:Int)+root)) (getI d ((first:Int)+(2 * (root:Int)+1)))<0
        · have e3 : ltC cm (getI d ((first : Int) + root)) (getI d ((first : Int) + (2 * (root : Int) + 1))) = true := decide_eq_true c3
          rw[if_neg (by simp[e3])]
          obtain⟨x,hx,ih⟩:=l_told_sift hi first hf d0 (2 * root+1) (Go.Sort.swp d (first+root) (first+(2 * root+1))) (by simpa using hd) (by omega)
          refine⟨x,hx,?_⟩
          have e4:swI d ((first:Int)+root) ((first:Int)+(2 * (root:Int)+1))=Go.Sort.swp d (first+root) (first+(2 * root+1)):=swI_swp _ _ _ _ _ (by omega) (by omega)
          unfold swI at e4
          rw[←ih,show((2 * root+1:Nat):Int)=2 * (root:Int)+1 by omega]
          clear ih g0 g1 g2 g3 e2 e3
          rw[floop_at i_zz16_B1.eq_1]
          simp (disch:=first|assumption|omega|(simp[*]<;>omega)|fail) [-getElem?_pos,gz_,gs_,hc,hl,oS,oC,hix,hld,hst,hcm,hd,wrap64,c0',c1',c2,c3,e4]
        · have e3 : ltC cm (getI d ((first : Int) + root)) (getI d ((first : Int) + (2 * (root : Int) + 1))) = false := decide_eq_false c3
          rw[if_pos (by simp[e3])]
          refine⟨.ret,.inr rfl,?_⟩
          clear g0 g1 g2 g3 e2 e3
          rw[floop_at i_zz16_B1.eq_1]
          simp (disch:=first|assumption|omega|(simp[*]<;>omega)|fail) [-getElem?_pos,gz_,gs_,hc,hl,oS,oC,hix,hld,hst,hcm,hd,wrap64,c0',c1',c2,c3]
    · have c1' : ¬ 2 * (root : Int) + 1 + 1 < hi := by omega
      rw[if_neg (by simp[c1])]
      by_cases c3:cm (getI d ((first:Int)+root)) (getI d ((first:Int)+(2 * (root:Int)+1)))<0
      · have e3 : ltC cm (getI d ((first : Int) + root)) (getI d ((first : Int) + (2 * (root : Int) + 1))) = true := decide_eq_true c3
        rw[if_neg (by simp[e3])]
        obtain⟨x,hx,ih⟩:=l_told_sift hi first hf d0 (2 * root+1) (Go.Sort.swp d (first+root) (first+(2 * root+1))) (by simpa using hd) (by omega)
        refine⟨x,hx,?_⟩
        have e4:swI d ((first:Int)+root) ((first:Int)+(2 * (root:Int)+1))=Go.Sort.swp d (first+root) (first+(2 * root+1)):=swI_swp _ _ _ _ _ (by omega) (by omega)
        unfold swI at e4
        rw[←ih,show((2 * root+1:Nat):Int)=2 * (root:Int)+1 by omega]
        clear ih g0 g1 g2 g3 e3
        rw[floop_at i_zz16_B1.eq_1]
        simp (disch:=first|assumption|omega|(simp[*]<;>omega)|fail) [-getElem?_pos,gz_,gs_,hc,hl,oS,oC,hix,hld,hst,hcm,hd,wrap64,c0',c1',c3,e4]
      · have e3 : ltC cm (getI d ((first : Int) + root)) (getI d ((first : Int) + (2 * (root : Int) + 1))) = false := decide_eq_false c3
        rw[if_pos (by simp[e3])]
        refine⟨.ret,.inr rfl,?_⟩
        clear g0 g1 g2 g3 e3
        rw[floop_at i_zz16_B1.eq_1]
        simp (disch:=first|assumption|omega|(simp[*]<;>omega)|fail) [-getElem?_pos,gz_,gs_,hc,hl,oS,oC,hix,hld,hst,hcm,hd,wrap64,c0',c1',c3]
 termination_by hi - root
theorem c_told_sift (hi first root:Nat) (hf:first+hi≤N) (d:Array Nat) (hd:d.size=N) (hr:root≤N):
  vcall F nro k_zz16 [S,.int .i64 root,.int .i64 hi,.int .i64 first,C] (H d)=some (.tuple #[],H (siftDown (ltC cm) hi first root d)):=by
 have hc0:=fun q vs=>E.clean0 d q vs
 obtain⟨x,hx,lp⟩:=l_told_sift E hi first hf d root d hd hr
 refine v_zz16 (by simp[i_zz16]) ?_
 rw[fbody_eq]
 rcases hx with rfl|rfl
 ·simp (disch:=first|assumption|omega|(simp[*]<;>omega)|fail) [-getElem?_pos,gz_,gs_,i_zz16,lp,hc0,fresults,fresL]
 ·simp (disch:=first|assumption|omega|(simp[*]<;>omega)|fail) [-getElem?_pos,gz_,gs_,i_zz16,lp,hc0,fresults,fresL]
omit E in
theorem heapBuild_size (lt:Nat→Nat→Bool) (hi first:Nat): ∀(k:Nat) (d:Array Nat),(heapBuild lt hi first k d).size=d.size
 | 0, d => rfl
 | k + 1, d => by rw [heapBuild, heapBuild_size lt hi first k, siftDown_size]
theorem c_told_heap (a b:Nat) (d:Array Nat) (hd:d.size=N) (hab:a≤b) (hb:b≤N):
  vcall F nro k_zz14 [S,.int .i64 a,.int .i64 b,C] (H d)=some (.tuple #[],H (heapSort (ltC cm) d a b)):=by
 have hc0:=fun q vs=>E.clean0 d q vs
 have hl:=E.ln
 have oS:=E.oS
 have oC:=E.oC
 have hN:=E.hN
 have hix:=E.idx
 have hld:=E.load
 have hst:=E.store
 obtain⟨hi,hhi⟩: ∃hi,hi=b - a:=⟨_,rfl⟩
 have lp1: ∀(k:Nat) (q:Array Nat),q.size=N→k≤N+1→
   floop (vcall F nro) nro [0,3,8,9,10,11] i_zz14_B1 (H d) [S,C,.int .i64 a,.int .i64 0,.int .i64 hi,.int .i64 ((k:Int) - 1)] (H q)=some (.exit 0,fl [(0,S),(3,C),(8,.int .i64 a),(9,.int .i64 0),(10,.int .i64 hi)],H (heapBuild (ltC cm) hi a k q)):=by
  intro k
  induction k with
  | zero =>
   intro q hq hk
   rw[floop_at i_zz14_B1.eq_1]
   simp (disch:=first|assumption|omega|(simp[*]<;>omega)|fail) [-getElem?_pos,gz_,gs_,heapBuild,hc0,hl,oS,oC]
  | succ k ih =>
   intro q hq hk
   have hcall:=c_told_sift E hi a k (by omega) q hq (by omega)
   have ih2:=ih (siftDown (ltC cm) hi a k q) (by rw[siftDown_size];exact hq) (by omega)
   rw[heapBuild,←ih2]
   have e1:((k+1:Nat):Int) - 1=k:=by omega
   rw[e1]
   clear ih ih2
   rw[floop_at i_zz14_B1.eq_1]
   simp (disch:=first|assumption|omega|(simp[*]<;>omega)|fail) [-getElem?_pos,gz_,gs_,hc0,hl,oS,oC,hcall,wrap64]
 have hc1:=fun q' q vs=>E.clean0 q' q vs
 have lp2: ∀(d1:Array Nat) (k:Nat) (q:Array Nat),q.size=N→k≤hi→
   floop (vcall F nro) nro [0,3,8,9,12] i_zz14_B2 (H d1) [S,C,.int .i64 a,.int .i64 0,.int .i64 ((k:Int) - 1)] (H q)=some (.exit 2,fl [],H (heapPop (ltC cm) a k q)):=by
  intro d1 k
  induction k with
  | zero =>
   intro q hq hk
   rw[floop_at i_zz14_B2.eq_1]
   simp (disch:=first|assumption|omega|(simp[*]<;>omega)|fail) [-getElem?_pos,gz_,gs_,heapPop,hc1,hl,oS,oC]
  | succ k ih =>
   intro q hq hk
   have e4:swI q (a:Int) ((a:Int)+k)=Go.Sort.swp q a (a+k):=swI_swp _ _ _ _ _ rfl (by omega)
   unfold swI at e4
   have hcall:=c_told_sift E k a 0 (by omega) (Go.Sort.swp q a (a+k)) (by simpa using hq) (by omega)
   have ih2:=ih (siftDown (ltC cm) k a 0 (Go.Sort.swp q a (a+k))) (by rw[siftDown_size];simpa using hq) (by omega)
   rw[heapPop,←ih2]
   have e1:((k+1:Nat):Int) - 1=k:=by omega
   rw[e1]
   simp only[Int.natCast_zero]at hcall
   clear ih ih2
   rw[floop_at i_zz14_B2.eq_1]
   simp (disch:=first|assumption|omega|(simp[*]<;>omega)|fail) [-getElem?_pos,gz_,gs_,hc1,hl,oS,oC,hix,hld,hst,hq,e4,hcall,wrap64]
 have e1:(((hi - 1) / 2+1:Nat):Int) - 1=((hi:Int) - 1).tdiv 2:=by
  by_cases c:hi=0
  ·subst c;rfl
  ·rw[Int.tdiv_eq_ediv_of_nonneg (by omega)];omega
 have l1:=lp1 ((hi - 1) / 2+1) d hd (by omega)
 rw[e1]at l1
 have l2:=lp2 (heapBuild (ltC cm) hi a ((hi - 1) / 2+1) d) hi (heapBuild (ltC cm) hi a ((hi - 1) / 2+1) d) (by rw[heapBuild_size];exact hd) (Nat.le_refl _)
 have w1:IntKind.i64.wrap ((b:Int) - a)=hi:=by rw[show(b:Int) - a=hi by omega];exact wrap64 (by omega) (by omega)
 have w2:IntKind.i64.wrap ((hi:Int) - 1)=(hi:Int) - 1:=wrap64 (by omega) (by omega)
 have w3:IntKind.i64.wrap (((hi:Int) - 1).tdiv 2)=((hi:Int) - 1).tdiv 2:=by rw[←e1];exact wrap64 (by omega) (by omega)
 refine v_zz14 (by simp[i_zz14]) ?_
 rw[fbody_eq]
 unfold heapSort
 rw[←hhi]
 clear lp1 lp2
 simp (disch:=first|assumption|omega|(simp[*]<;>omega)|fail) [-getElem?_pos,gz_,gs_,i_zz14,w1,w2,w3,l1,l2,hc0,fresults,fresL]
end
end

/- Sorting: reversing, breaking patterns, choosing a pivot. -/
section
open Go Go.Sort
variable {nro:Nat} {S C:Value} {P:Int→Value} {ag:Nat→Value} {cm:Nat→Nat→Int} {N:Nat} {H:Array Nat→VH}
section
variable (E:SE nro true 3 S C P ag cm N H)
include E
theorem l_told_rev (d0:Array Nat) (i:Nat) (j:Int) (hj0: -1≤j) (hjN:j<N) (hi:i≤N+1) (d:Array Nat) (hd:d.size=N):
    floop (vcall F nro) nro [0,8,9] i_zz6_B1 (H d0) [S,.int .i64 i,.int .i64 j] (H d)=some (.exit 0,fl [],H (reverseLoop i j.toNat d)):=by
  have hc:=fun q=>E.clean0 d0 q
  have hl:=E.ln
  have oS:=E.oS
  have oC:=E.oC
  have hN:=E.hN
  have hix:=E.idx
  have hld:=E.load
  have hst:=E.store
  rw[reverseLoop]
  by_cases c:(i:Int)<j
  · rw [if_pos (by omega)]
    have ih:=l_told_rev d0 (i+1) (j - 1) (by omega) (by omega) (by omega) (Go.Sort.swp d i j.toNat) (by simpa using hd)
    have e1:(j - 1).toNat=j.toNat - 1:=by omega
    rw[e1]at ih
    have e4:swI d (i:Int) j=Go.Sort.swp d i j.toNat:=swI_swp _ _ _ _ _ rfl (by omega)
    unfold swI at e4
    rw[←ih]
    clear ih
    rw[floop_at i_zz6_B1.eq_1]
    simp (disch:=first|assumption|omega|(simp[*]<;>omega)|fail) [-getElem?_pos,gz_,gs_,hc,hl,oS,oC,hix,hld,hst,hd,wrap64,c,e4]
  · rw [if_neg (by omega)]
    rw[floop_at i_zz6_B1.eq_1]
    simp (disch:=first|assumption|omega|(simp[*]<;>omega)|fail) [-getElem?_pos,gz_,gs_,hc,hl,oS,oC,c]
 termination_by (j - i).toNat
theorem c_told_rev (a b:Nat) (d:Array Nat) (hd:d.size=N) (hab:a<b) (hb:b≤N):
  vcall F nro k_zz6 [S,.int .i64 a,.int .i64 b,C] (H d)=some (.tuple #[],H (reverseRange d a b)):=by
 have hc0:=fun q vs=>E.clean0 d q vs
 have hN:=E.hN
 have l1:=l_told_rev E d a ((b:Int) - 1) (by omega) (by omega) (by omega) d hd
 rw[show((b:Int) - 1).toNat=b - 1 by omega]at l1
 refine v_zz6 (by simp[i_zz6]) ?_
 rw[fbody_eq]
 unfold reverseRange
 simp (disch:=first|assumption|omega|(simp[*]<;>omega)|fail) [-getElem?_pos,gz_,gs_,i_zz6,wrap64,l1,hc0,fresults,fresL]
end
theorem c_xorshift (K:VH) (hn:nro≤K.length) (r:Int): ∃r' :Nat,r' <18446744073709551616∧vcall F nro k_zz46 [.pointer (some ⟨K.length,0,some 1⟩)] (K++ [⟨0,[.int .u64 r]⟩])=some (.int .u64 r',K++ [⟨0,[.int .u64 r']⟩]):=by
 obtain⟨r1,h1⟩: ∃x,x=ixor .u64 r (ishl .u64 r 13):=⟨_,rfl⟩
 obtain⟨r2,h2⟩: ∃x,x=ixor .u64 r1 (ishr .u64 r1 7):=⟨_,rfl⟩
 obtain⟨r3,h3⟩: ∃x,x=ixor .u64 r2 (ishl .u64 r2 17):=⟨_,rfl⟩
 have h4:0≤r3∧r3<18446744073709551616:=by
  rw[h3,ixor_eq]
  have:=IntKind.wrap_u64 ((BitVec.ofInt IntKind.u64.bits r2 ^^^ BitVec.ofInt IntKind.u64.bits (ishl .u64 r2 17)).toNat:Int)
  rw[this]
  omega
 refine⟨r3.toNat,by omega,?_⟩
 rw[show((r3.toNat:Nat):Int)=r3 by omega]
 have hn' :=fun k=>Nat.le_trans hn (Nat.le_add_right K.length k)
 refine v_zz46 (by simp[i_zz46]) ?_
 rw[fbody_eq]
 simp (disch:=first|assumption|omega|(simp[*]<;>omega)|fail) [i_zz46,h1.symm,h2.symm,h3.symm,hn,hn']
set_option maxRecDepth 20000 in
theorem c_bits_Len64x (x:Nat) (hx:x≤255) (h:VH): ∃y:Nat,y≤8∧x<2 ^ y∧2 ^ y≤2 * x+1∧vcall F nro k_zz68 [.int .u64 x] h=some (.int .i64 y,h):=by
 have c1: ¬(4294967296:Int)≤x:=by omega
 have c2: ¬(65536:Int)≤x:=by omega
 have c3: ¬(256:Int)≤x:=by omega
 have w:IntKind.u8.wrap (x:Int)=x:=wrapu8 (by omega) (by omega)
 obtain⟨i,hi⟩: ∃i,i=i_zz68:=⟨_,rfl⟩
 have hr: ∃y:Nat,y≤8∧x<2 ^ y∧2 ^ y≤2 * x+1∧fbody (vcall F nro) nro i [.int .u64 x] h=some (.int .i64 y,h):=by
  unfold i_zz68 at hi
  generalize hS:(ByteArray.mk _)=S at hi
  have hsz:S.size=256:=by rw[←hS];rfl
  have hT: ∀x,x<256→(match S.data[x]? with|some b=>decide (b.toNat≤8) && decide (x<2 ^ b.toNat) && decide (2 ^ b.toNat≤2 * x+1)|none=>false)=true:=by
   rw[←hS];decide+kernel
  have hx2:x<S.size:=by omega
  obtain⟨b,hb⟩: ∃b:UInt8,S[x]? =some b:=⟨S[x],by simp[getElem?_pos,hx2]⟩
  have hb3:S.data[x]? =some b:=by
   rw[←hb]
   rw[getElem?_pos S x hx2,getElem?_pos S.data x hx2]
   rfl
  have hTx:=hT x (by omega)
  rw[hb3]at hTx
  simp only[Bool.and_eq_true,decide_eq_true_eq]at hTx
  obtain⟨⟨t1,t2⟩,t3⟩:=hTx
  clear hS hT
  refine⟨b.toNat,t1,t2,t3,?_⟩
  rw[fbody_eq,hi]
  have hb2:b.toNat<256:=b.toNat_lt
  have w2:IntKind.i64.wrap ((b.toNat:Nat):Int)=b.toNat:=wrap64 (by omega) (by omega)
  clear hi t1 t2 t3 hb3
  simp (disch:=first|assumption|omega|(simp[*]<;>omega)|fail) [-getElem?_pos,vop,c1,c2,c3,w,hb,w2]
 obtain⟨y,h1,h2,h3,hr⟩:=hr
 refine⟨y,h1,h2,h3,v_zz68 (by show 1≤25;omega) ?_⟩
 rw[←hi]
 exact hr
theorem c_pow2 (x:Nat) (hx:x≤255) (h:VH): ∃y:Nat,y≤8∧x<2 ^ y∧2 ^ y≤2 * x+1∧vcall F nro k_zz43 [.int .i64 x] h=some (.int .u64 (2 ^ y:Nat),h):=by
 obtain⟨y,h1,h2,h3,e⟩:=c_bits_Len64x (nro:=nro) x hx h
 have e2:vcall F nro k_zz82 [.int .u64 x] h=some (.int .i64 y,h):=by
  refine v_zz82 (by simp[i_zz82]) ?_
  rw[fbody_eq]
  simp (disch:=first|assumption|omega|(simp[*]<;>omega)|fail) [i_zz82,e]
 refine⟨y,h1,h2,h3,v_zz43 (by simp[i_zz43]) ?_⟩
 rw[fbody_eq]
 have w1:IntKind.u64.wrap (x:Int)=x:=wrapu64 (by omega) (by omega)
 have hs:ishl .u64 1 (y:Int)=((2 ^ y:Nat):Int):=by
  rw[ishl_eq]
  have hm:min (y:Int).toNat IntKind.u64.bits=y:=by
   rw[Int.toNat_natCast]
   show min y 64=y
   omega
  rw[hm,Int.one_mul]
  have:(2:Nat) ^ y≤511:=by omega
  have e3:((2:Int) ^ y)=((2 ^ y:Nat):Int):=by simp
  rw[e3]
  exact wrapu64 (by omega) (by omega)
 obtain⟨z,hz⟩: ∃z,z=2 ^ y:=⟨_,rfl⟩
 rw[←hz]at hs⊢
 clear h2 h3 hz
 have hy0: ¬(y:Int)<0:=by omega
 simp (disch:=first|assumption|omega|(simp[*]<;>omega)|fail) [i_zz43,w1,e2,hs,hy0]
end

/- Sorting: patterns are broken. -/
section
open Go Go.Sort
variable {nro:Nat} {S C:Value} {P:Int→Value} {ag:Nat→Value} {cm:Nat→Nat→Int} {N:Nat} {H:Array Nat→VH}
theorem iand_u64 (a:Int) (m:Nat) (hm:m<18446744073709551616):0≤iand .u64 a m∧iand .u64 a m≤m:=by
 rw[iand_eq]
 have h1:(BitVec.ofInt IntKind.u64.bits a &&& BitVec.ofInt IntKind.u64.bits (m:Int)).toNat≤m:=by
  rw[BitVec.toNat_and]
  refine Nat.le_trans Nat.and_le_right ?_
  show(BitVec.ofInt 64 (m:Int)).toNat≤m
  rw[BitVec.toNat_ofInt]
  omega
 obtain⟨t,ht⟩: ∃t,t=(BitVec.ofInt IntKind.u64.bits a &&& BitVec.ofInt IntKind.u64.bits (m:Int)).toNat:=⟨_,rfl⟩
 rw[←ht]at h1⊢
 clear ht
 have h2:IntKind.u64.wrap (t:Int)=t:=wrapu64 (by omega) (by omega)
 rw[h2]
 omega
theorem swp_permI {d:Array Nat} {a b i j:Nat} (h1:a≤i) (h2:i<b) (h3:a≤j) (h4:j<b) (h5:b≤d.size):PermIn a b d (Go.Sort.swp d i j):=swp_permIn d a b i j h1 h2 h3 h4 h5
theorem SX.get (E:SX nro true 3 S C P ag cm N H) (d:Array Nat) (o:VO):(H d++ [o])[(H #[]).length]? =some o:=by
 rw[←E.base.ln d];simp
section
variable (E:SX nro true 3 S C P ag cm N H)
include E
theorem l_told_break (a b m:Nat) (w:Nat) (hm:m=2 * w) (h8:8≤b - a) (hb:b≤N) (hN:N≤255) (hm2:b - a<m) (hm3:m≤2 * (b - a)+1) (d0:Array Nat) (r0:Int): ∀(k i:Nat) (r:Int) (d:Array Nat),d.size=N→i+k=a+(b - a) / 4 * 2+2→a+1≤i→
  ∃d' r',d'.size=N∧PermIn a b d d' ∧floop (vcall F nro) nro [0,1,8,9,10,11] i_zz4_B1 (H d0++ [⟨0,[.int .u64 r0]⟩]) [S,.int .i64 a,.int .i64 ((b - a:Nat):Int),.pointer (some ⟨(H #[]).length,0,some 1⟩),.int .u64 m,.int .i64 i] (H d++ [⟨0,[.int .u64 r]⟩])=
   some (.exit 0,fl [],H d' ++ [⟨0,[.int .u64 r']⟩])
 | 0, i, r, d, hd, hk, hi => by
  refine⟨d,r,hd,permIn_refl d a b,?_⟩
  have hcl:=fun vs=>E.clean d0 d ⟨0,[.int .u64 r0]⟩ ⟨0,[.int .u64 r]⟩ (fun n=>by intro q hq;simp[orefs,trefs,vrefs,crefs,arefs]at hq) [] vs
  have hl:=E.base.ln
  have oS:=E.base.oS
  obtain⟨len,hlen⟩: ∃len,len=b - a:=⟨_,rfl⟩
  rw[←hlen]
  obtain⟨q,hq⟩: ∃q:Nat,q=len / 4:=⟨_,rfl⟩
  have t1:((len:Nat):Int).tdiv 4=q:=by rw[Int.tdiv_eq_ediv_of_nonneg (by omega)];omega
  have hq2:q≤255:=by omega
  have w1:IntKind.i64.wrap (q:Int)=q:=wrap64 (by omega) (by omega)
  have w2:IntKind.i64.wrap ((q:Int) * 2)=(q:Int) * 2:=wrap64 (by omega) (by omega)
  have w3:IntKind.i64.wrap ((a:Int)+(q:Int) * 2)=(a:Int)+(q:Int) * 2:=wrap64 (by omega) (by omega)
  have w4:IntKind.i64.wrap ((a:Int)+(q:Int) * 2+1)=(a:Int)+(q:Int) * 2+1:=wrap64 (by omega) (by omega)
  have c1: ¬(i:Int)≤(a:Int)+(q:Int) * 2+1:=by omega
  rw[floop_at i_zz4_B1.eq_1]
  simp (disch:=first|assumption|omega|(simp[*]<;>omega)|fail) [-getElem?_pos,gz_,gs_,hcl,hl,oS,t1,w1,w2,w3,w4,c1]
 | k + 1, i, r, d, hd, hk, hi => by
  have hcl:=fun r' d' vs=>E.clean d0 d' ⟨0,[.int .u64 r0]⟩ ⟨0,[.int .u64 r']⟩ (fun n=>by intro q hq;simp[orefs,trefs,vrefs,crefs,arefs]at hq) [] vs
  have hl:=E.base.ln
  have oS:=E.base.oS
  have hnr:=E.base.nr #[]
  have hix:=E.idx
  have hld:=E.load
  have hst:=E.store
  obtain⟨r',hr',ex⟩:=c_xorshift (nro:=nro) (H d) (E.base.nr d) r
  rw[hl d]at ex
  obtain⟨len,hlen⟩: ∃len,len=b - a:=⟨_,rfl⟩
  rw[←hlen]
  obtain⟨q,hq⟩: ∃q:Nat,q=len / 4:=⟨_,rfl⟩
  have t1:((len:Nat):Int).tdiv 4=q:=by rw[Int.tdiv_eq_ediv_of_nonneg (by omega)];omega
  have hq2:q≤255:=by omega
  have w1:IntKind.i64.wrap (q:Int)=q:=wrap64 (by omega) (by omega)
  have w2:IntKind.i64.wrap ((q:Int) * 2)=(q:Int) * 2:=wrap64 (by omega) (by omega)
  have w3:IntKind.i64.wrap ((a:Int)+(q:Int) * 2)=(a:Int)+(q:Int) * 2:=wrap64 (by omega) (by omega)
  have w4:IntKind.i64.wrap ((a:Int)+(q:Int) * 2+1)=(a:Int)+(q:Int) * 2+1:=wrap64 (by omega) (by omega)
  have c1:(i:Int)≤(a:Int)+(q:Int) * 2+1:=by omega
  have w5:IntKind.u64.wrap ((m:Int) - 1)=((m - 1:Nat):Int):=by rw[show(m:Int) - 1=((m - 1:Nat):Int) by omega];exact wrapu64 (by omega) (by omega)
  obtain⟨a1,a2⟩:=iand_u64 (r' :Int) (m - 1) (by omega)
  obtain⟨x,hx⟩: ∃x,iand .u64 (r' :Int) ((m - 1:Nat):Int)=x:=⟨_,rfl⟩
  rw[hx]at a1 a2
  have w6:IntKind.i64.wrap x=x:=wrap64 (by omega) (by omega)
  have w9:IntKind.i64.wrap ((i:Int)+1)=(i:Int)+1:=wrap64 (by omega) (by omega)
  have i0:(0:Int)≤i:=by omega
  have i1:(i:Int)<N:=by omega
  by_cases c2:(len:Int)≤x
  ·have w7:IntKind.i64.wrap (x - len)=x - len:=wrap64 (by omega) (by omega)
   have w8:IntKind.i64.wrap ((a:Int)+(x - len))=(a:Int)+(x - len):=wrap64 (by omega) (by omega)
   have j0:(0:Int)≤(a:Int)+(x - len):=by omega
   have j1:(a:Int)+(x - len)<N:=by omega
   have e4:swI d (i:Int) ((a:Int)+(x - len))=Go.Sort.swp d i (a+(x.toNat - len)):=swI_swp _ _ _ _ _ rfl (by omega)
   unfold swI at e4
   have hp:=swp_permI (d:=d) (a:=a) (b:=b) (i:=i) (j:=a+(x.toNat - len)) (by omega) (by omega) (by omega) (by omega) (by omega)
   obtain⟨d',r2,p1,p2,ih⟩:=l_told_break a b m w hm (by omega) hb hN (by omega) (by omega) d0 r0 k (i+1) r' (Go.Sort.swp d i (a+(x.toNat - len))) (by simpa using hd) (by omega) (by omega)
   refine⟨d',r2,p1,permIn_trans _ _ _ a b hp p2,?_⟩
   rw[←hlen]at ih
   rw[←ih]
   clear ih p1 p2 hp hk hm hm2 hm3
   rw[floop_at i_zz4_B1.eq_1]
   simp (disch:=first|assumption|omega|(simp[*]<;>omega)|fail) [-getElem?_pos,gz_,gs_,hcl,hl,oS,hix,hld,hst,hd,t1,w1,w2,w3,w4,c1,ex,w5,hx,w6,c2,w7,w8,w9,i0,i1,j0,j1,e4]
  ·have w8:IntKind.i64.wrap ((a:Int)+x)=(a:Int)+x:=wrap64 (by omega) (by omega)
   have j0:(0:Int)≤(a:Int)+x:=by omega
   have j1:(a:Int)+x<N:=by omega
   have e4:swI d (i:Int) ((a:Int)+x)=Go.Sort.swp d i (a+x.toNat):=swI_swp _ _ _ _ _ rfl (by omega)
   unfold swI at e4
   have hp:=swp_permI (d:=d) (a:=a) (b:=b) (i:=i) (j:=a+x.toNat) (by omega) (by omega) (by omega) (by omega) (by omega)
   obtain⟨d',r2,p1,p2,ih⟩:=l_told_break a b m w hm (by omega) hb hN (by omega) (by omega) d0 r0 k (i+1) r' (Go.Sort.swp d i (a+x.toNat)) (by simpa using hd) (by omega) (by omega)
   refine⟨d',r2,p1,permIn_trans _ _ _ a b hp p2,?_⟩
   rw[←hlen]at ih
   rw[←ih]
   clear ih p1 p2 hp hk hm hm2 hm3
   rw[floop_at i_zz4_B1.eq_1]
   simp (disch:=first|assumption|omega|(simp[*]<;>omega)|fail) [-getElem?_pos,gz_,gs_,hcl,hl,oS,hix,hld,hst,hd,t1,w1,w2,w3,w4,c1,ex,w5,hx,w6,c2,w8,w9,i0,i1,j0,j1,e4]
theorem c_told_break (a b:Nat) (d:Array Nat) (hd:d.size=N) (hab:a≤b) (hb:b≤N) (hN:N≤255):
  ∃d',d'.size=N∧PermIn a b d d' ∧vcall F nro k_zz4 [S,.int .i64 a,.int .i64 b,C] (H d)=some (.tuple #[],H d'):=by
 have hc0:=fun q L vs=>E.base.clean d q L vs
 have hc1:=fun q vs=>E.base.clean0 d q vs
 have hl:=E.base.ln
 have hnr:=E.base.nr #[]
 have hgt:=E.get
 obtain⟨len,hlen⟩: ∃len,len=b - a:=⟨_,rfl⟩
 have w0:IntKind.i64.wrap ((b:Int) - a)=len:=by rw[show(b:Int) - a=len by omega];exact wrap64 (by omega) (by omega)
 by_cases c:(8:Int)≤len
 ·obtain⟨y,y1,y2,y3,ep⟩:=c_pow2 (nro:=nro) len (by omega) (H d++ [⟨0,[.int .u64 len]⟩])
  obtain⟨w,hw⟩: ∃w,2 ^ y=2 * w:=by
   cases y with
   | zero => simp at y2; omega
   | succ y => exact ⟨2 ^ y, by rw [Nat.pow_succ, Nat.mul_comm]⟩
  obtain⟨q,hq⟩: ∃q:Nat,q=len / 4:=⟨_,rfl⟩
  obtain⟨d',r',p1,p2,lp⟩:=l_told_break E a b (2 ^ y) w hw (by omega) hb hN (by omega) (by omega) d len 3 (a+q * 2 - 1) len d hd (by omega) (by omega)
  refine⟨d',p1,p2,?_⟩
  have t1:((len:Nat):Int).tdiv 4=q:=by rw[Int.tdiv_eq_ediv_of_nonneg (by omega)];omega
  have w1:IntKind.i64.wrap (q:Int)=q:=wrap64 (by omega) (by omega)
  have w2:IntKind.i64.wrap ((q:Int) * 2)=(q:Int) * 2:=wrap64 (by omega) (by omega)
  have w3:IntKind.i64.wrap ((a:Int)+(q:Int) * 2)=(a:Int)+(q:Int) * 2:=wrap64 (by omega) (by omega)
  have w4:IntKind.i64.wrap ((a:Int)+(q:Int) * 2 - 1)=((a+q * 2 - 1:Nat):Int):=by rw[show(a:Int)+(q:Int) * 2 - 1=((a+q * 2 - 1:Nat):Int) by omega];exact wrap64 (by omega) (by omega)
  have w5:IntKind.u64.wrap (len:Int)=len:=wrapu64 (by omega) (by omega)
  rw[←hlen]at lp
  obtain⟨z,hz⟩: ∃z,z=2 ^ y:=⟨_,rfl⟩
  rw[←hz]at lp ep
  obtain⟨i0,hi0⟩: ∃i0,i0=a+q * 2 - 1:=⟨_,rfl⟩
  rw[←hi0]at lp w4
  clear p1 p2 hw hq y1 y2 y3 hz hi0
  refine v_zz4 (by simp[i_zz4]) ?_
  rw[fbody_eq]
  simp (disch:=first|assumption|omega|(simp[*]<;>omega)|fail) [-getElem?_pos,gz_,gs_,i_zz4,w0,c,w5,hl,hnr,hgt,ep,t1,w1,w2,w3,w4,lp,hc0,fresults,fresL]
 ·refine⟨d,hd,permIn_refl d a b,?_⟩
  refine v_zz4 (by simp[i_zz4]) ?_
  rw[fbody_eq]
  simp (disch:=first|assumption|omega|(simp[*]<;>omega)|fail) [-getElem?_pos,gz_,gs_,i_zz4,w0,c,hc1,fresults,fresL]
end
end

end Go.Proofs.YtbomdghbblakoaaGreatDoor.Zv

