/- Part I of the proof: ZwTup, ZwFew, ZwCyc, ZwGirths1, ZwGirths2, ZwGirths3, ZwLead2, ZwConcat, ZwGp1, ZwGp3, ZwGp5, ZwGp7, ZwGp9, ZwGpC, ZwLawVertex, ZwCompC, ZwMap6, ZwLawCover, ZwMap7, ZwNbw, ZwFirst2, ZwLawFirst, ZwReg, ZwMoved, ZwTopA, ZwGreedy2, ZwTopB, ZwLawEdge, ZwProd, ZwTopC, ZwTopD, ZwCone, ZwRenum, ZwTopE, ZwRefI, ZwRefJ. Conditions: none. -/
import Derived.Test.YtbomdghbblakoaaGreatDoorZpE
import Derived.Test.YtbomdghbblakoaaGreatDoorZpF
import Derived.Test.YtbomdghbblakoaaGreatDoorZpG
import Derived.Test.YtbomdghbblakoaaGreatDoorZpH
set_option linter.unusedSimpArgs false
set_option linter.unusedVariables false
set_option linter.unusedSectionVars false
namespace Go.Proofs.YtbomdghbblakoaaGreatDoor.Zv
/- Counting tuples: closed walks are counted by where they begin. -/
section
open Go
open Classical
def tup (n:Nat):Nat→List (List Nat)
 | 0 => [[]]
 | k + 1 => (List.range n).flatMap fun v => (tup n k).map (v :: ·)
theorem mem_tup {n:Nat}: ∀ {k:Nat} {l:List Nat},l∈tup n k↔l.length=k∧ ∀x∈l,x<n
 | 0, l => by
  simp only[tup,List.mem_singleton]
  constructor
  ·rintro rfl;simp
  ·rintro⟨h,_⟩;exact List.length_eq_zero_iff.mp h
 | k + 1, l => by
  simp only[tup,List.mem_flatMap,List.mem_range,List.mem_map]
  constructor
  ·rintro⟨v,hv,m,hm,rfl⟩
   obtain⟨h1,h2⟩:=mem_tup.mp hm
   exact⟨by simp[h1],by simpa using⟨hv,h2⟩⟩
  ·rintro⟨h1,h2⟩
   cases l with
   | nil => simp at h1
   | cons v m =>
    refine⟨v,h2 v (by simp),m,mem_tup.mpr ⟨by simpa using h1,fun x hx=>h2 x (by simp[hx])⟩,rfl⟩
theorem nodup_tup (n:Nat): ∀k,(tup n k).Nodup
 | 0 => by simp [tup]
 | k + 1 => by
  unfold tup List.Nodup
  rw[List.pairwise_flatMap]
  refine⟨fun v _=> ?_,?_⟩
  ·rw[List.pairwise_map]
   exact(nodup_tup n k).imp (fun h e=>h (by simpa using e))
  ·refine List.nodup_range.imp ?_
   intro a b hab x hx y hy
   obtain⟨m,_,rfl⟩:=List.mem_map.mp hx
   obtain⟨m',_,rfl⟩:=List.mem_map.mp hy
   intro e
   exact hab (by simpa using(List.cons.inj e).1)
theorem tup_perm {n k:Nat} {f f' :List Nat→List Nat} (h1: ∀l∈tup n k,f l∈tup n k) (h2: ∀l∈tup n k,f' l∈tup n k) (h3: ∀l∈tup n k,f' (f l)=l) (h4: ∀l∈tup n k,f (f' l)=l):List.Perm ((tup n k).map f) (tup n k):=by
 refine(List.perm_ext_iff_of_nodup ?_ (nodup_tup n k)).mpr ?_
 ·unfold List.Nodup
  rw[List.pairwise_map]
  refine List.Pairwise.imp_of_mem ?_ (nodup_tup n k)
  intro a b ha hb hab e
  exact hab (by rw[←h3 a ha,←h3 b hb,e])
 ·intro a
  rw[List.mem_map]
  constructor
  ·rintro⟨b,hb,rfl⟩;exact h1 b hb
  ·intro ha;exact⟨f' a,h2 a ha,h4 a ha⟩
noncomputable def cn (p:List Nat→Prop) (ls:List (List Nat)):Int:=(ls.countP (fun l=>decide (p l)):Int)
theorem cn_cons (p:List Nat→Prop) (a:List Nat) (ls:List (List Nat)):cn p (a::ls)=cn p ls+oneIf (p a):=by
 unfold cn oneIf
 rw[List.countP_cons]
 by_cases h:p a<;>simp[h]
theorem cn_congr {p q:List Nat→Prop} {ls:List (List Nat)} (h: ∀l∈ls,(p l↔q l)):cn p ls=cn q ls:=by
 unfold cn
 rw[List.countP_congr]
 intro l hl
 simpa using h l hl
theorem cn_perm {p:List Nat→Prop} {n k:Nat} {f f' :List Nat→List Nat} (h1: ∀l∈tup n k,f l∈tup n k) (h2: ∀l∈tup n k,f' l∈tup n k) (h3: ∀l∈tup n k,f' (f l)=l) (h4: ∀l∈tup n k,f (f' l)=l):cn (fun l=>p (f l)) (tup n k)=cn p (tup n k):=by
 have e:=(tup_perm h1 h2 h3 h4).countP_eq (fun l=>decide (p l))
 rw[List.countP_map]at e
 unfold cn
 rw[←e]
 rfl
theorem cn_key (p:List Nat→Prop) (key:List Nat→Nat) (N:Nat): ∀(ls:List (List Nat)),(∀l∈ls,p l→key l<N)→sumF (fun v=>cn (fun l=>p l∧key l=v) ls) N=cn p ls
 | [], _ => by
  show sumF (fun v=>(0:Int)) N=0
  exact sumF_zero N
 | a :: ls, h => by
  rw[cn_cons,←cn_key p key N ls (fun l hl=>h l (by simp[hl]))]
  have:(fun v=>cn (fun l=>p l∧key l=v) (a::ls))=fun v=>cn (fun l=>p l∧key l=v) ls+oneIf (p a∧key a=v):=by
   funext v;rw[cn_cons]
  rw[this,sumF_add]
  congr 1
  by_cases c:p a
  ·rw[sumF_one (k:=key a) (h a (by simp) c) (fun i _ hi=>one_neg (fun e=>hi e.2.symm)),one_pos ⟨c,rfl⟩,one_pos c]
  ·rw[one_neg c,sumF_congr (g:=fun _=>0) (fun i _=>one_neg (fun e=>c e.1)),sumF_zero]
theorem cn_which (p:List Nat→Prop) (q:Nat→List Nat→Prop) (N:Nat): ∀(ls:List (List Nat)),(∀l∈ls,p l→ ∃k,k<N∧q k l∧ ∀i,i<N→q i l→i=k)→sumF (fun v=>cn (fun l=>p l∧q v l) ls) N=cn p ls
 | [], _ => by
  show sumF (fun v=>(0:Int)) N=0
  exact sumF_zero N
 | a :: ls, h => by
  rw[cn_cons,←cn_which p q N ls (fun l hl=>h l (by simp[hl]))]
  have:(fun v=>cn (fun l=>p l∧q v l) (a::ls))=fun v=>cn (fun l=>p l∧q v l) ls+oneIf (p a∧q v a):=by
   funext v;rw[cn_cons]
  rw[this,sumF_add]
  congr 1
  by_cases c:p a
  ·obtain⟨k,k1,k2,k3⟩:=h a (by simp) c
   rw[sumF_one (k:=k) k1 (fun i hi hne=>one_neg (fun e=>hne (k3 i hi e.2))),one_pos ⟨c,k2⟩,one_pos c]
  ·rw[one_neg c,sumF_congr (g:=fun _=>0) (fun i _=>one_neg (fun e=>c e.1)),sumF_zero]
def chn (r:Nat→Nat→Prop):List Nat→Prop
 | x :: y :: l => r x y ∧ chn r (y :: l)
 | _ => True
theorem chn_snoc {r:Nat→Nat→Prop} (x y:Nat): ∀(l:List Nat),chn r (l++ [x,y])↔chn r (l++ [x])∧r x y
 | [] => by simp [chn]
 | [a] => by simp [chn, and_assoc]
 | a :: b :: l => by
  have:=chn_snoc (r:=r) x y (b::l)
  simp only[List.cons_append]at this⊢
  simp only[chn]
  rw[this,and_assoc]
theorem chn_rev {r:Nat→Nat→Prop} (hs: ∀x y,r x y→r y x): ∀(l:List Nat),chn r l→chn r l.reverse
 | [], _ => by simp [chn]
 | [a], _ => by simp [chn]
 | a :: b :: l, h => by
  have h2:=chn_rev hs (b::l) h.2
  rw[List.reverse_cons,List.reverse_cons,List.append_assoc]
  rw[List.reverse_cons]at h2
  exact(chn_snoc b a _).mpr ⟨h2,hs _ _ h.1⟩
theorem chn_congr {r r' :Nat→Nat→Prop}: ∀ {l:List Nat},(∀x∈l,∀y∈l,r x y→r' x y)→chn r l→chn r' l
 | [], _, _ => trivial
 | [a], _, _ => trivial
 | a :: b :: l, h, hc => ⟨h a (by simp) b (by simp) hc.1, chn_congr (fun x hx y hy => h x (by simp [hx]) y (by simp [hy])) hc.2⟩
theorem chn_tail {r:Nat→Nat→Prop} {a:Nat} {l:List Nat} (h:chn r (a::l)):chn r l:=by
 cases l with
 | nil => trivial
 | cons b l => exact h.2
theorem chn_drop {r:Nat→Nat→Prop}: ∀(l m:List Nat),chn r (l++m)→chn r m
 | [], _, h => h
 | a :: l, m, h => chn_drop l m (chn_tail h)
theorem chn_cut {r:Nat→Nat→Prop} {x:Nat} {B C:List Nat}: ∀(A:List Nat),chn r (A++x::(B++x::C))→chn r (A++x::C)
 | [], h => chn_drop (x :: B) (x :: C) h
 | [a], h => by
  obtain⟨h1,h2⟩:=h
  exact⟨h1,chn_drop (x::B) (x::C) h2⟩
 | a :: b :: A, h => by
  obtain⟨h1,h2⟩:=h
  exact⟨h1,chn_cut (b::A) h2⟩
theorem snoc_last {l:List Nat} {x:Nat} (h:l.getLast? =some x):l.dropLast++ [x]=l:=by
 have hne:l≠ []:=by rintro rfl;simp at h
 rw[List.getLast?_eq_some_getLast hne]at h
 have:=List.dropLast_concat_getLast hne
 rw[Option.some.inj h]at this
 exact this
theorem nodup_at {l:List Nat} (h:l.Nodup) {i j:Nat} (hi:i<l.length) (hj:j<l.length) (e:l[i]=l[j]):i=j:=by
 have key: ∀i j (hi:i<l.length) (hj:j<l.length),i<j→l[i]≠l[j]:=fun i j hi hj hij=>List.pairwise_iff_getElem.mp h i j hi hj hij
 rcases Nat.lt_trichotomy i j with c|c|c
 ·exact absurd e (key i j hi hj c)
 ·exact c
 ·exact absurd e.symm (key j i hj hi c)
structure Cyc (r:Nat→Nat→Prop) (l:List Nat):Prop where
 nd:l.Nodup
 ch:chn r (l++l.take 1)
def rot:List Nat→List Nat
 | [] => []
 | x :: l => l ++ [x]
def rotB (l:List Nat):List Nat:=(rot l.reverse).reverse
theorem rot_rotB (l:List Nat):rot (rotB l)=l:=by
 unfold rotB
 rcases h:l.reverse with _|⟨x,m⟩
 ·have:l= []:=by simpa using h
  subst this;rfl
 ·have:l=m.reverse++ [x]:=by rw[←List.reverse_reverse l,h];simp
  simp[rot,this]
theorem rotB_rot (l:List Nat):rotB (rot l)=l:=by
 cases l with
 | nil => rfl
 | cons x l => simp [rot, rotB]
theorem rot_tup {n k:Nat} {l:List Nat} (h:l∈tup n k):rot l∈tup n k:=by
 rw[mem_tup]at h⊢
 cases l with
 | nil => exact h
 | cons x l =>
  obtain⟨h1,h2⟩:=h
  refine⟨by simpa [rot]using h1,?_⟩
  intro y hy
  simp only[rot,List.mem_append,List.mem_singleton]at hy
  rcases hy with hy|rfl
  ·exact h2 y (by simp[hy])
  ·exact h2 y (by simp)
theorem rev_tup {n k:Nat} {l:List Nat} (h:l∈tup n k):l.reverse∈tup n k:=by
 rw[mem_tup]at h⊢;simpa using h
theorem rotB_tup {n k:Nat} {l:List Nat} (h:l∈tup n k):rotB l∈tup n k:=rev_tup (rot_tup (rev_tup h))
theorem Cyc.rot {r:Nat→Nat→Prop} {l:List Nat} (h:Cyc r l):Cyc r (rot l):=by
 obtain⟨h1,h2⟩:=h
 match l,h1,h2 with
 | [], h1, h2 => exact ⟨h1, h2⟩
 | [x], h1, h2 => exact ⟨h1, h2⟩
 | x :: y :: l, h1, h2 =>
  refine⟨?_,?_⟩
  ·simp only[Zv.rot]
   exact(List.perm_append_comm (l₁:=y::l) (l₂:= [x])).nodup_iff.mpr h1
  ·have h3:r x y∧chn r ((y::l)++ [x]):=h2
   have:=(chn_snoc (r:=r) x y (y::l)).mpr ⟨h3.2,h3.1⟩
   simpa [Zv.rot]using this
theorem Cyc.rev {r:Nat→Nat→Prop} (hs: ∀x y,r x y→r y x) {l:List Nat} (h:Cyc r l):Cyc r l.reverse:=by
 have h0:=h.rot
 obtain⟨h1,h2⟩:=h
 refine⟨(List.reverse_perm l).nodup_iff.mpr h1,?_⟩
 match l,h1,h2,h0 with
 | [], h1, h2, h0 => simpa using h2
 | [x], h1, h2, h0 => simpa using h2
 | x :: y :: l, h1, h2, h0 =>
  -- reversed closed walk begins with the last
  have h3:=chn_rev hs _ h2
  simp only[List.take_succ_cons,List.take_zero,List.reverse_append,List.reverse_cons,List.reverse_nil,List.nil_append]at h3
  obtain⟨z,m,e⟩: ∃z m,(x::y::l).reverse=z::m:=by
   rcases hh:(x::y::l).reverse with _|⟨z,m⟩
   ·simp at hh
   ·exact⟨z,m,rfl⟩
  rw[e]
  simp only[List.reverse_cons]at e
  rw[e]at h3
  -- h3 : chn (x :: z :: m), m ends with x
  have h4:m≠ []:=by rintro rfl;have:=congrArg List.length e;simp at this
  obtain⟨m',rfl⟩: ∃m',m=m' ++ [x]:=by
   have hl:(z::m).getLast? =some x:=by rw[←e];simp
   rw[List.getLast?_cons_of_ne_nil h4]at hl
   exact⟨m.dropLast,(snoc_last hl).symm⟩
  have h5:r x z∧chn r (z::(m' ++ [x])):=h3
  show chn r ((z::(m' ++ [x]))++ [z])
  have:=(chn_snoc (r:=r) x z (z::m')).mpr ⟨by simpa using h5.2,h5.1⟩
  simpa using this
theorem Cyc.rev_iff {r:Nat→Nat→Prop} (hs: ∀x y,r x y→r y x) {l:List Nat}:Cyc r l.reverse↔Cyc r l:=
 ⟨fun h=>by simpa using h.rev hs,fun h=>h.rev hs⟩
theorem Cyc.rot_iff {r:Nat→Nat→Prop} (hs: ∀x y,r x y→r y x) {l:List Nat}:Cyc r (Zv.rot l)↔Cyc r l:=by
 refine⟨fun h=> ?_,fun h=>h.rot⟩
 have:=((h.rev hs).rot).rev hs
 have e:(Zv.rot (Zv.rot l).reverse).reverse=l:=rotB_rot l
 rwa [e]at this
def lstAt (j:Nat) (l:List Nat):Prop:=j<l.length∧ ∀y∈l,l.getD j 0≤y
theorem lstAt_rot {j:Nat} {l:List Nat} (h:j+1<l.length):lstAt j (rot l)↔lstAt (j+1) l:=by
 cases l with
 | nil => simp at h
 | cons x l =>
  simp only[List.length_cons]at h
  unfold lstAt
  simp only[rot,List.length_append,List.length_cons,List.length_nil,List.mem_append,List.mem_singleton,List.mem_cons]
  have e:(l++ [x]).getD j 0=l.getD j 0:=by simp[List.getD_eq_getElem?_getD,List.getElem?_append_left (show j<l.length by omega)]
  have e2:(x::l).getD (j+1) 0=l.getD j 0:=by simp[List.getD_eq_getElem?_getD]
  rw[e,e2]
  constructor
  ·rintro⟨_,b⟩;exact⟨by omega,fun y hy=>b y (by simpa [or_comm]using hy)⟩
  ·rintro⟨_,b⟩;exact⟨by omega,fun y hy=>b y (by simpa [or_comm]using hy)⟩
theorem exists_least: ∀(l:List Nat),l≠ []→ ∃m∈l,∀y∈l,m≤y
 | [], h => absurd rfl h
 | [a], _ => ⟨a, by simp, by simp⟩
 | a :: b :: l, _ => by
  obtain⟨m,h1,h2⟩:=exists_least (b::l) (by simp)
  by_cases c:a≤m
  ·refine⟨a,by simp,?_⟩
   intro y hy
   rcases List.mem_cons.mp hy with rfl|hy
   ·omega
   ·have:=h2 y hy;omega
  ·refine⟨m,by simp[h1],?_⟩
   intro y hy
   rcases List.mem_cons.mp hy with rfl|hy
   ·omega
   ·exact h2 y hy
theorem lstAt_which {l:List Nat} (hl:l≠ []) (hnd:l.Nodup): ∃k,k<l.length∧lstAt k l∧ ∀i,i<l.length→lstAt i l→i=k:=by
 obtain⟨m,h1,h2⟩:=exists_least l hl
 obtain⟨k,hk,rfl⟩:=List.getElem_of_mem h1
 have hg: ∀i (hi:i<l.length),l.getD i 0=l[i]:=fun i hi=>by simp[List.getD_eq_getElem?_getD,hi]
 refine⟨k,hk,⟨hk,fun y hy=>by rw[hg k hk];exact h2 y hy⟩,?_⟩
 intro i hi h
 have a1:=h.2 l[k] (List.getElem_mem hk)
 have a2:=h2 l[i] (List.getElem_mem hi)
 rw[hg i hi]at a1
 exact nodup_at hnd hi hk (by omega)
section
variable {r:Nat→Nat→Prop} (hs: ∀x y,r x y→r y x) (n L:Nat) (h3:3≤L)
include hs h3
theorem cyc_places:cn (Cyc r) (tup n L)=L * cn (fun l=>Cyc r l∧lstAt 0 l) (tup n L):=by
 have h1:=cn_which (Cyc r) lstAt L (tup n L) (fun l hl hc=>by
  have hl2:=(mem_tup.mp hl).1
  have:=lstAt_which (l:=l) (by rintro rfl;simp at hl2;omega) hc.nd
  rw[hl2]at this
  exact this)
 rw[←h1]
 have h2: ∀j,j<L→cn (fun l=>Cyc r l∧lstAt j l) (tup n L)=cn (fun l=>Cyc r l∧lstAt 0 l) (tup n L):=by
  intro j
  induction j with
  | zero => intro _; rfl
  | succ j ih =>
   intro hj
   rw[←ih (by omega),←cn_perm (p:=fun l=>Cyc r l∧lstAt j l) (f:=rot) (f' :=rotB) (fun l=>rot_tup) (fun l=>rotB_tup) (fun l _=>rotB_rot l) (fun l _=>rot_rotB l)]
   apply cn_congr
   intro l hl
   have hl2:=(mem_tup.mp hl).1
   rw[lstAt_rot (by omega),Cyc.rot_iff hs]
 rw[sumF_congr (g:=fun _=>cn (fun l=>Cyc r l∧lstAt 0 l) (tup n L) * 1) (fun i hi=>by rw[h2 i hi];omega),sumF_mul]
 have: ∀k:Nat,sumF (fun _=>(1:Int)) k=k:=by
  intro k;induction k with
  | zero => rfl
  | succ k ih => rw [sumF, ih]; omega
 rw[this,Int.mul_comm]
theorem cyc_ways: ∃M:Int,cn (fun l=>Cyc r l∧lstAt 0 l) (tup n L)=2 * M:=by
 let rf:List Nat→List Nat:=fun l=>l.take 1++(l.drop 1).reverse
 have f1: ∀l∈tup n L,rf l∈tup n L:=by
  intro l hl
  rw[mem_tup]at hl⊢
  cases l with
  | nil => exact hl
  | cons x l => simpa [rf] using hl
 have f2: ∀l∈tup n L,rf (rf l)=l:=by
  intro l hl
  cases l with
  | nil => rfl
  | cons x l => simp [rf]
 have hcy: ∀l,Cyc r l→Cyc r (rf l):=by
  intro l h
  cases l with
  | nil => exact h
  | cons x l =>
   have:=(h.rot).rev hs
   simpa [rf,Zv.rot]using this
 refine⟨cn (fun l=>(Cyc r l∧lstAt 0 l)∧l.getD 1 0<l.getD (L - 1) 0) (tup n L),?_⟩
 have e1:cn (fun l=>(Cyc r l∧lstAt 0 l)∧l.getD 1 0<l.getD (L - 1) 0) (tup n L)=cn (fun l=>(Cyc r l∧lstAt 0 l)∧l.getD (L - 1) 0<l.getD 1 0) (tup n L):=by
  rw[←cn_perm (p:=fun l=>(Cyc r l∧lstAt 0 l)∧l.getD (L - 1) 0<l.getD 1 0) (f:=rf) (f' :=rf) f1 f1 f2 f2]
  apply cn_congr
  intro l hl
  have hl2:=(mem_tup.mp hl).1
  have g0:lstAt 0 (rf l)↔lstAt 0 l:=by
   cases l with
   | nil => exact Iff.rfl
   | cons x l => simp [rf, lstAt]
  have g1:(rf l).getD 1 0=l.getD (L - 1) 0∧(rf l).getD (L - 1) 0=l.getD 1 0:=by
   cases l with
   | nil => simp at hl2; omega
   | cons x l =>
    simp only[List.length_cons]at hl2
    obtain⟨k,rfl⟩: ∃k,L=k+2:=⟨L - 2,by omega⟩
    have hk:l.length=k+1:=by omega
    simp only[rf,List.take_succ_cons,List.take_zero,List.drop_succ_cons,List.drop_zero,List.cons_append,List.nil_append,List.getD_eq_getElem?_getD]
    have:k+2 - 1=k+1:=by omega
    rw[this]
    simp only[List.getElem?_cons_succ]
    rw[List.getElem?_reverse (by omega),List.getElem?_reverse (by omega),hk]
    constructor
    ·congr 2
    ·congr 2;omega
  rw[g0,g1.1,g1.2]
  have:Cyc r (rf l)↔Cyc r l:=⟨fun h=>by have:=hcy _ h;rwa [f2 l hl]at this,hcy l⟩
  rw[this]
 have e2:=cn_which (fun l=>Cyc r l∧lstAt 0 l) (fun v l=>if v=0 then l.getD 1 0<l.getD (L - 1) 0 else l.getD (L - 1) 0<l.getD 1 0) 2 (tup n L) (by
  intro l hl hc
  have hl2:=(mem_tup.mp hl).1
  have hne:l.getD 1 0≠l.getD (L - 1) 0:=by
   have a1:1<l.length:=by omega
   have a2:L - 1<l.length:=by omega
   simp only[List.getD_eq_getElem?_getD,List.getElem?_eq_getElem a1,List.getElem?_eq_getElem a2,Option.getD_some]
   intro e
   have:=nodup_at hc.1.nd a1 a2 e
   omega
  by_cases c:l.getD 1 0<l.getD (L - 1) 0
  ·refine⟨0,by omega,by simpa using c,?_⟩
   intro i hi h
   by_cases c0:i=0
   ·exact c0
   ·rw[if_neg c0]at h;omega
  ·refine⟨1,by omega,by rw[if_neg (by omega)];omega,?_⟩
   intro i hi h
   by_cases c0:i=0
   ·rw[if_pos c0]at h;omega
   ·omega)
 rw[←e2]
 simp only[sumF,if_pos,Nat.succ_ne_zero,if_false]
 rw[←e1]
 omega
theorem cyc_half:cn (Cyc r) (tup n L)=2 * cn (fun l=>Cyc r l∧l.getD (L - 1) 0<l.getD 0 0) (tup n L):=by
 have e1:cn (fun l=>Cyc r l∧l.getD (L - 1) 0<l.getD 0 0) (tup n L)=cn (fun l=>Cyc r l∧l.getD 0 0<l.getD (L - 1) 0) (tup n L):=by
  rw[←cn_perm (p:=fun l=>Cyc r l∧l.getD 0 0<l.getD (L - 1) 0) (f:=List.reverse) (f' :=List.reverse) (fun l=>rev_tup) (fun l=>rev_tup) (fun l _=>List.reverse_reverse l) (fun l _=>List.reverse_reverse l)]
  apply cn_congr
  intro l hl
  have hl2:=(mem_tup.mp hl).1
  rw[Cyc.rev_iff hs]
  have g1:l.reverse.getD 0 0=l.getD (L - 1) 0:=by
   simp only[List.getD_eq_getElem?_getD]
   rw[List.getElem?_reverse (by omega),hl2,Nat.sub_zero]
  have g2:l.reverse.getD (L - 1) 0=l.getD 0 0:=by
   simp only[List.getD_eq_getElem?_getD]
   rw[List.getElem?_reverse (by omega),hl2]
   congr 2;omega
  rw[g1,g2]
 have e2:=cn_which (Cyc r) (fun v l=>if v=0 then l.getD (L - 1) 0<l.getD 0 0 else l.getD 0 0<l.getD (L - 1) 0) 2 (tup n L) (by
  intro l hl hc
  have hl2:=(mem_tup.mp hl).1
  have hne:l.getD 0 0≠l.getD (L - 1) 0:=by
   have a1:0<l.length:=by omega
   have a2:L - 1<l.length:=by omega
   simp only[List.getD_eq_getElem?_getD,List.getElem?_eq_getElem a1,List.getElem?_eq_getElem a2,Option.getD_some]
   intro e
   have:=nodup_at hc.nd a1 a2 e
   omega
  by_cases c:l.getD (L - 1) 0<l.getD 0 0
  ·refine⟨0,by omega,by simpa using c,?_⟩
   intro i hi h
   by_cases c0:i=0
   ·exact c0
   ·rw[if_neg c0]at h;omega
  ·refine⟨1,by omega,by rw[if_neg (by omega)];omega,?_⟩
   intro i hi h
   by_cases c0:i=0
   ·rw[if_pos c0]at h;omega
   ·omega)
 rw[←e2]
 simp only[sumF,Nat.zero_add,if_true,Nat.reduceEqDiff,if_false,Nat.succ_ne_zero]
 rw[←e1]
 omega
theorem cyc_div: ∃M:Int,cn (fun l=>Cyc r l∧l.getD (L - 1) 0<l.getD 0 0) (tup n L)=L * M:=by
 obtain⟨M,hM⟩:=cyc_ways hs n L h3
 have h1:=cyc_places hs n L h3
 have h2:=cyc_half hs n L h3
 rw[hM,h2]at h1
 refine⟨M,?_⟩
 have:(L:Int) * (2 * M)=2 * (L * M):=by rw[←Int.mul_assoc,Int.mul_comm (L:Int) 2,Int.mul_assoc]
 omega
end
end

/- Shortest walks are few: their numbers do not overflow. -/
section
open Go
open Classical
theorem cube_le: ∀n:Nat,n ^ 3≤3 ^ n
 | 0 => by decide
 | 1 => by decide
 | 2 => by decide
 | 3 => by decide
 | n + 4 => by
  have h:=cube_le (n+3)
  rw[Nat.pow_succ 3 (n+3)]
  obtain⟨m,hm⟩: ∃m,m=n+3:=⟨_,rfl⟩
  have e0:n+4=m+1:=by omega
  rw[e0]
  rw[←hm]at h⊢
  have h1:3 * m≤m * m:=Nat.mul_le_mul_right m (by omega)
  have h2:3 * (m * m)≤m * (m * m):=Nat.mul_le_mul_right (m * m) (by omega)
  have e1:(m+1) ^ 3=m * (m * m)+3 * (m * m)+3 * m+1:=by
   simp only[Nat.pow_succ,Nat.pow_zero,Nat.one_mul,Nat.add_mul,Nat.mul_add,Nat.mul_one,Nat.mul_assoc];omega
  have e2:m ^ 3=m * (m * m):=by
   simp only[Nat.pow_succ,Nat.pow_zero,Nat.one_mul,Nat.mul_assoc]
  rw[e2]at h
  rw[e1]
  have h3:3≤m:=by omega
  omega
noncomputable def lyr (rows:List Int) (n a j:Nat):Int:=sumF (fun y=>oneIf (Dst rows j a y)) n
theorem lyr_nonneg (rows:List Int) (n a j:Nat):0≤lyr rows n a j:=sumF_nonneg (fun _ _=>one_nonneg _)
theorem lyr_sum (rows:List Int) (n a k:Nat):sumF (fun j=>lyr rows n a j) k≤n:=by
 unfold lyr
 rw[sumF_swap]
 have h1: ∀i,i<n→sumF (fun j=>oneIf (Dst rows j a i)) k≤(fun _=>(1:Int)) i:=by
  intro i _
  exact sumF_most (fun j j' _ _ h h' =>h.unique h')
 refine Int.le_trans (sumF_le h1) ?_
 have: ∀k:Nat,sumF (fun _=>(1:Int)) k=k:=by
  intro k;induction k with
  | zero => rfl
  | succ k ih => rw [sumF, ih]; omega
 rw[this];omega
theorem wkN_nonneg (rows:List Int) (n a:Nat): ∀(k u:Nat),0≤wkN rows n a k u
 | 0, u => by rw [wkN]; split <;> omega
 | k + 1, u => by
  rw[wkN]
  refine sumF_nonneg (fun w _=> ?_)
  split
  ·exact wkN_nonneg rows n a k w
  ·omega
theorem wkN_few (rows:List Int) (n a:Nat): ∀(k:Nat),∃B S:Nat,B ^ 3≤3 ^ S∧(S:Int)=sumF (fun j=>lyr rows n a j) k∧ ∀y,Dst rows k a y→wkN rows n a k y≤B
 | 0 => ⟨1, 0, by decide, rfl, fun y _ => by rw [wkN]; split <;> decide⟩
 | k + 1 => by
  obtain⟨B,S,h1,h2,h3⟩:=wkN_few rows n a k
  obtain⟨l,hl⟩: ∃l:Nat,(l:Int)=lyr rows n a k:=⟨(lyr rows n a k).toNat,by have:=lyr_nonneg rows n a k;omega⟩
  refine⟨l * B,S+l,?_,?_,?_⟩
  ·rw[Nat.mul_pow,Nat.pow_add,Nat.mul_comm]
   exact Nat.mul_le_mul h1 (cube_le l)
  ·rw[sumF,←h2,←hl];omega
  ·intro y hy
   rw[wkN]
   have h4: ∀w,w<n→(if rbit rows w y=true then wkN rows n a k w else 0)≤(fun w=>(B:Int) * oneIf (Dst rows k a w)) w:=by
    intro w _
    by_cases hb:rbit rows w y=true
    ·rw[if_pos hb]
     by_cases hw:Wk rows k a w
     ·have hd:Dst rows k a w:=⟨hw,fun e he h=>hy.2 (e+1) (by omega) ⟨w,h,hb⟩⟩
      show _≤(B:Int) * oneIf (Dst rows k a w)
      rw[one_pos hd]
      have:=h3 w hd
      omega
     ·rw[wkN_none k w hw]
      exact Int.mul_nonneg (by omega) (one_nonneg _)
    ·rw[if_neg hb]
     exact Int.mul_nonneg (by omega) (one_nonneg _)
   refine Int.le_trans (sumF_le h4) ?_
   rw[sumF_mul]
   show(B:Int) * lyr rows n a k≤_
   rw[←hl]
   have:((l * B:Nat):Int)=(B:Int) * l:=by rw[Int.natCast_mul,Int.mul_comm]
   omega
theorem wkN_small {rows:List Int} {n a k y:Nat} (hn:n≤62) (h:Dst rows k a y):wkN rows n a k y<8589934592:=by
 obtain⟨B,S,h1,h2,h3⟩:=wkN_few rows n a k
 have h4:=lyr_sum rows n a k
 have hS:S≤62:=by omega
 have h5:B ^ 3<8589934592 ^ 3:=Nat.lt_of_le_of_lt (Nat.le_trans h1 (Nat.pow_le_pow_right (by omega) hS)) (by decide)
 have h6:B<8589934592:=by
  rcases Nat.lt_or_ge B 8589934592 with h|h
  ·exact h
  ·have:=Nat.pow_le_pow_left h 3
   omega
 have:=h3 y h
 omega
end

/- Shortest cycles through edges, counted as closed walks. -/
section
open Go
open Classical
def rr (rows:List Int) (x y:Nat):Prop:=rbit rows x y=true
theorem cn_tup (p:List Nat→Prop) (n k:Nat):cn p (tup n (k+1))=sumF (fun v=>cn (fun l=>p (v::l)) (tup n k)) n:=by
 have h1: ∀m,cn p ((List.range m).flatMap fun v=>(tup n k).map (v:: ·))=sumF (fun v=>cn (fun l=>p (v::l)) (tup n k)) m:=by
  intro m
  induction m with
  | zero => rfl
  | succ m ih =>
   rw[List.range_succ,List.flatMap_append,sumF,←ih]
   unfold cn
   rw[List.countP_append]
   simp only[List.flatMap_cons,List.flatMap_nil,List.append_nil,List.countP_map]
   rw[Int.natCast_add]
   rfl
 exact h1 n
theorem cn_none {p:List Nat→Prop} {ls:List (List Nat)} (h: ∀l∈ls,¬p l):cn p ls=0:=by
 unfold cn
 rw[List.countP_eq_zero.mpr]
 ·rfl
 ·intro l hl;simpa using h l hl
theorem wkN_tup {rows:List Int} {n a:Nat} (hs: ∀v w,rbit rows v w=true→rbit rows w v=true): ∀(k u:Nat),u<n→wkN rows n a k u=cn (fun l=>chn (rr rows) l∧l.getD 0 0=u∧l.getD k 0=a) (tup n (k+1))
 | 0, u, hu => by
  rw[wkN,cn_tup]
  have e: ∀v,cn (fun l=>chn (rr rows) (v::l)∧(v::l).getD 0 0=u∧(v::l).getD 0 0=a) (tup n 0)=oneIf (v=u∧v=a):=by
   intro v
   show cn _ [[]]=_
   rw[cn_cons]
   simp[chn,cn]
  rw[sumF_congr (fun v _=>e v)]
  rw[sumF_one hu (fun i _ hi=>one_neg (fun h=>hi h.1))]
  by_cases c:u=a
  ·rw[if_pos c,one_pos ⟨rfl,c⟩]
  ·rw[if_neg c,one_neg (fun h=>c h.2)]
 | k + 1, u, hu => by
  rw[wkN,cn_tup]
  rw[sumF_one (f:=fun v=>cn (fun l=>chn (rr rows) (v::l)∧(v::l).getD 0 0=u∧(v::l).getD (k+1) 0=a) (tup n (k+1))) hu (fun i _ hi=>cn_none (fun l _ h=>hi (by simpa using h.2.1)))]
  rw[←cn_key _ (fun l=>l.getD 0 0) n (tup n (k+1)) (by
   intro l hl _
   obtain⟨h1,h2⟩:=mem_tup.mp hl
   cases l with
   | nil => simp at h1
   | cons x l => simpa using h2 x (by simp))]
  apply sumF_congr
  intro w hw
  by_cases hb:rbit rows w u=true
  ·rw[if_pos hb,wkN_tup hs k w hw]
   apply cn_congr
   intro l hl
   obtain⟨h1,h2⟩:=mem_tup.mp hl
   cases l with
   | nil => simp at h1
   | cons x l =>
    simp only[chn,List.getD_cons_zero,List.getD_cons_succ]
    constructor
    ·rintro⟨a1,rfl,a3⟩
     exact⟨⟨⟨hs _ _ hb,a1⟩,trivial,a3⟩,rfl⟩
    ·rintro⟨⟨⟨a1,a2⟩,_,a3⟩,rfl⟩
     exact⟨a2,rfl,a3⟩
  ·rw[if_neg hb]
   symm
   apply cn_none
   intro l hl h
   obtain⟨h1,h2⟩:=mem_tup.mp hl
   cases l with
   | nil => simp at h1
   | cons x l =>
    simp only[chn,List.getD_cons_zero,List.getD_cons_succ]at h
    obtain⟨⟨⟨a1,_⟩,_⟩,rfl⟩:=h
    exact hb (hs _ _ a1)
theorem chn_wk {rows:List Int} (hs: ∀v w,rbit rows v w=true→rbit rows w v=true): ∀(l:List Nat) (b a:Nat),chn (rr rows) l→l.head? =some b→l.getLast? =some a→Wk rows (l.length - 1) a b
 | [], _, _, _, h, _ => by simp at h
 | [x], b, a, _, h1, h2 => by
  simp at h1 h2
  subst h1;subst h2
  exact rfl
 | x :: y :: l, b, a, hc, h1, h2 => by
  simp at h1
  subst h1
  have h3:=chn_wk hs (y::l) y a hc.2 rfl (by simpa using h2)
  exact⟨y,h3,hs _ _ hc.1⟩
theorem not_nodup: ∀ {l:List Nat},¬l.Nodup→ ∃A x B C,l=A++x::(B++x::C)
 | [], h => absurd (by simp) h
 | x :: l, h => by
  by_cases hx:x∈l
  ·obtain⟨B,C,rfl⟩:=List.append_of_mem hx
   exact⟨[],x,B,C,rfl⟩
  ·obtain⟨A,y,B,C,rfl⟩:=not_nodup (l:=l) (fun e=>h (List.nodup_cons.mpr ⟨hx,e⟩))
   exact⟨x::A,y,B,C,rfl⟩
theorem chn_nodup {rows:List Int} (hs: ∀v w,rbit rows v w=true→rbit rows w v=true) {l:List Nat} {a b:Nat} (hc:chn (rr rows) l) (h1:l.head? =some b) (h2:l.getLast? =some a) (hm: ∀m,m+1<l.length→ ¬Wk rows m a b):l.Nodup:=by
 by_cases hn:l.Nodup
 ·exact hn
 obtain⟨A,x,B,C,rfl⟩:=not_nodup hn
 have hc2:=chn_cut A hc
 have g1:(A++x::C).head? =some b:=by
  cases A with
  | nil => simpa using h1
  | cons y A => simpa using h1
 have g2:(A++x::C).getLast? =some a:=by
  rw[←h2]
  simp only[List.getLast?_append,List.getLast?_cons]
  cases C with
  | nil => simp
  | cons c C => simp [List.getLast?_cons]
 have:=chn_wk hs _ b a hc2 g1 g2
 exact absurd this (hm _ (by simp;omega))
theorem chn_front {r:Nat→Nat→Prop}: ∀(l m:List Nat),chn r (l++m)→chn r l
 | [], _, _ => trivial
 | [_], _, _ => trivial
 | a :: b :: l, m, h => ⟨h.1, chn_front (b :: l) m h.2⟩
section
variable {n:Nat} {rows:List Int} (g:GV n rows) {L:Nat} (h3:3≤L) (hL: ∀p q,rbit rows p q=true→arF rows p q≤0∨(L:Int)≤arF rows p q)
include g h3
omit g h3 in
theorem head_get {l:List Nat} {b:Nat} (hl:1≤l.length):l.head? =some b↔l.getD 0 0=b:=by
 cases l with
 | nil => simp at hl
 | cons x l => simp
omit g in
theorem last_get {l:List Nat} {a:Nat} (hl:l.length=L):l.getLast? =some a↔l.getD (L - 1) 0=a:=by
 rw[List.getLast?_eq_getElem?,List.getD_eq_getElem?_getD,hl,List.getElem?_eq_getElem (show L - 1<l.length by omega)]
 simp
theorem cyc_edge {a b:Nat} (hab:rbit rows a b=true) (hmin: ∀m,m+1<L→ ¬Wk (cut2 rows a b) m a b) {l:List Nat} (hl:l.length=L):
  (Cyc (rr rows) l∧l.getD (L - 1) 0=a)∧l.getD 0 0=b↔chn (rr (cut2 rows a b)) l∧l.getD 0 0=b∧l.getD (L - 1) 0=a:=by
 have hne:=g.ne hab
 constructor
 ·rintro⟨⟨hc,h1⟩,h2⟩
  refine⟨?_,h2,h1⟩
  have hch:=chn_front l _ hc.ch
  have hnd:=hc.nd
  rcases l with _|⟨x,_|⟨y,l⟩⟩
  ·trivial
  ·trivial
  ·simp only[List.getD_cons_zero]at h2
   subst h2
   have hyL:y≠a:=by
    intro e
    simp only[List.length_cons]at hl
    have h4:(x::y::l).getD 1 0=(x::y::l).getD (L - 1) 0:=by rw[h1];simpa using e
    have a1:1<(x::y::l).length:=by simp
    have a2:L - 1<(x::y::l).length:=by simp;omega
    simp only[List.getD_eq_getElem?_getD,List.getElem?_eq_getElem a1,List.getElem?_eq_getElem a2,Option.getD_some]at h4
    have:=nodup_at hnd a1 a2 h4
    omega
   have hxn:x ∉ y::l:=(List.nodup_cons.mp hnd).1
   refine⟨?_,chn_congr ?_ hch.2⟩
   ·show rbit (cut2 rows a x) x y=true
    rw[cut_iff g hab]
    refine⟨hch.1,?_⟩
    rintro(⟨h,_⟩|⟨_,h⟩)
    ·exact hne h.symm
    ·exact hyL h
   ·intro u hu v hv huv
    show rbit (cut2 rows a x) u v=true
    rw[cut_iff g hab]
    refine⟨huv,?_⟩
    rintro(⟨_,h⟩|⟨h,_⟩)
    ·exact hxn (h ▸ hv)
    ·exact hxn (h ▸ hu)
 ·rintro⟨hch,h2,h1⟩
  have k1:=(head_get (l:=l) (b:=b) (by omega)).mpr h2
  have k2:=(last_get h3 (l:=l) (a:=a) hl).mpr h1
  refine⟨⟨⟨chn_nodup (cut_sym g hab) hch k1 k2 (fun m hm=>hmin m (by omega)),?_⟩,h1⟩,h2⟩
  have hr:chn (rr rows) l:=chn_congr (fun x _ y _ h=>((cut_iff g hab x y).mp h).1) hch
  have e1:l.take 1= [b]:=by
   cases l with
   | nil => simp at k1
   | cons x l => simpa using k1
  rw[e1]
  have e2:l=l.dropLast++ [a]:=(snoc_last k2).symm
  rw[e2]at hr⊢
  have:=(chn_snoc (r:=rr rows) a b l.dropLast).mpr ⟨hr,hab⟩
  simpa using this
def cyE (rows:List Int) (n L a b:Nat):Int:=if arF rows a b=L then wkN (cut2 rows a b) n a (L - 1) b else 0
include hL
theorem cyE_tup {a b:Nat} (hab:rbit rows a b=true):cyE rows n L a b=cn (fun l=>(Cyc (rr rows) l∧l.getD (L - 1) 0=a)∧l.getD 0 0=b) (tup n L):=by
 obtain⟨ha,hb⟩:=rbit_lt g.rok hab
 obtain⟨R2,_⟩:=cut_rok g ha hb hab
 have hmin: ∀m,m+1<L→ ¬Wk (cut2 rows a b) m a b:=by
  intro m hm hw
  obtain⟨d,d1,d2⟩:=Wk.dst m hw
  have:=far_of R2 ha d2
  have h4:=hL a b hab
  unfold arF at h4
  rw[this]at h4
  omega
 have e1:cn (fun l=>(Cyc (rr rows) l∧l.getD (L - 1) 0=a)∧l.getD 0 0=b) (tup n L)=cn (fun l=>chn (rr (cut2 rows a b)) l∧l.getD 0 0=b∧l.getD (L - 1) 0=a) (tup n L):=
  cn_congr (fun l hl=>cyc_edge g h3 hab hmin (mem_tup.mp hl).1)
 rw[e1]
 have e2:=wkN_tup (rows:=cut2 rows a b) (n:=n) (a:=a) (cut_sym g hab) (L - 1) b hb
 have e3:L - 1+1=L:=by omega
 rw[e3]at e2
 rw[←e2]
 unfold cyE
 by_cases c:arF rows a b=L
 ·rw[if_pos c]
 ·rw[if_neg c,wkN_none]
  intro hw
  obtain⟨d,d1,d2⟩:=Wk.dst _ hw
  have:=far_of R2 ha d2
  have h4:=hL a b hab
  unfold arF at h4 c
  rw[this]at h4 c
  omega
theorem cyE_div: ∃M:Int,sumF (fun a=>sumF (fun b=>if a<b∧rbit rows a b=true then cyE rows n L a b else 0) n) n=L * M:=by
 obtain⟨M,hM⟩:=cyc_div (r:=rr rows) (fun _ _ h=>g.sym' h) n L h3
 refine⟨M,?_⟩
 rw[←hM]
 have key: ∀l∈tup n L,∀i,i<L→l.getD i 0<n:=by
  intro l hl i hi
  obtain⟨h1,h2⟩:=mem_tup.mp hl
  rw[List.getD_eq_getElem?_getD,List.getElem?_eq_getElem (show i<l.length by omega)]
  exact h2 _ (List.getElem_mem _)
 rw[←cn_key _ (fun l=>l.getD (L - 1) 0) n (tup n L) (fun l hl _=>key l hl _ (by omega))]
 apply sumF_congr
 intro a ha
 rw[←cn_key _ (fun l=>l.getD 0 0) n (tup n L) (fun l hl _=>key l hl _ (by omega))]
 apply sumF_congr
 intro b hb
 by_cases c:a<b∧rbit rows a b=true
 ·rw[if_pos c,cyE_tup g h3 hL c.2]
  apply cn_congr
  intro l _
  constructor
  ·rintro⟨⟨h1,h2⟩,h5⟩;exact⟨⟨⟨h1,by omega⟩,h2⟩,h5⟩
  ·rintro⟨⟨⟨h1,_⟩,h2⟩,h5⟩;exact⟨⟨h1,h2⟩,h5⟩
 ·rw[if_neg c]
  symm
  apply cn_none
  rintro l hl ⟨⟨⟨h1,h4⟩,h2⟩,h5⟩
  have hl2:=(mem_tup.mp hl).1
  refine c ⟨by omega,?_⟩
  have hch:=h1.ch
  have k1:=(head_get (l:=l) (b:=b) (by omega)).mpr h5
  have k2:=(last_get h3 (l:=l) (a:=a) hl2).mpr h2
  have e1:l.take 1= [b]:=by
   cases l with
   | nil => simp at k1
   | cons x l => simpa using k1
  rw[e1]at hch
  have e2:l=l.dropLast++ [a]:=(snoc_last k2).symm
  rw[e2]at hch
  exact((chn_snoc (r:=rr rows) a b l.dropLast).mp (by simpa using hch)).2
end
end

/- The sum of the shortest cycles of all edges, without overflow. -/
section
open Go
open Classical
def csF (rows:List Int) (n:Nat) (L:Int) (a b:Nat) (acc:Int):Int:=if rbit rows a b=true∧arF rows a b=L then IntKind.i64.wrap (acc+arN rows n a b)else acc
def csRow (rows:List Int) (n:Nat) (L:Int) (a:Nat) (acc:Int):Int:=upF (fun b x=>csF rows n L a b x) n (a+1) acc
def csAll (rows:List Int) (n:Nat) (L:Int):Int:=upF (fun a x=>csRow rows n L a x) n 0 0
def csL (rows:List Int) (n:Nat) (L:Int) (acc:Int) (es:List (List Int)):Int:=es.foldl (fun x e=>csF rows n L (e.getD 0 0).toNat (e.getD 1 0).toNat x) acc
theorem csL_app (rows:List Int) (n:Nat) (L acc:Int) (xs ys:List (List Int)):csL rows n L acc (xs++ys)=csL rows n L (csL rows n L acc xs) ys:=by simp[csL]
theorem csL_edg (rows:List Int) (n:Nat) (L:Int) (v:Nat) (w:Nat) (acc:Int):csL rows n L acc (edgF rows v n w)=upF (fun b x=>csF rows n L v b x) n w acc:=by
  by_cases h:w<n
  · rw [edgF_step h, csL_app, csL_edg rows n L v (w + 1), upF_step h]
    congr 1
    by_cases c:rbit rows v w=true
    · rw[if_pos c];simp[csL]
    · rw[if_neg c];simp[csL,csF,c]
  · rw[edgF_end h,upF_end h];rfl
 termination_by n - w
theorem csL_edges (rows:List Int) (n:Nat) (L:Int) (v:Nat) (acc:Int):csL rows n L acc (edgesF rows n v)=upF (fun a x=>csRow rows n L a x) n v acc:=by
  by_cases h:v<n
  · rw [edgesF_step h, csL_app, csL_edges rows n L (v + 1), upF_step h, csL_edg]
    rfl
  · rw[edgesF_end h,upF_end h];rfl
 termination_by n - v
theorem csL_all (rows:List Int) (n:Nat) (L:Int):csL rows n L 0 (edgesF rows n 0)=csAll rows n L:=csL_edges rows n L 0 0
section
variable {n:Nat} {rows:List Int} (g:GV n rows)
include g
theorem gir_min (c:Int) (hc:1≤c):(girF rows n 0 0=0∨c≤girF rows n 0 0)↔ ∀p q,rbit rows p q=true→arF rows p q≤0∨c≤arF rows p q:=by
 rw[girF_ok hc 0 0 (by omega)]
 constructor
 ·rintro⟨_,h⟩ p q hpq
  obtain⟨h1,h2⟩:=rbit_lt g.rok hpq
  have hle:=g.rok.le
  have:=h p (Nat.zero_le _) h1 (q:Int) ((nbL_mem rows p q).mpr ⟨by omega,by omega,by rw[Int.toNat_natCast];exact hpq⟩)
  rwa [Int.toNat_natCast]at this
 ·intro h
  refine⟨.inl rfl,fun u _ hu y hy=> ?_⟩
  obtain⟨h1,h2,h3⟩:=(nbL_mem rows u y).mp hy
  exact h u y.toNat h3
theorem gir_edge {L:Nat} (hL:girF rows n 0 0=L) (h0:L≠0): ∃p q,rbit rows p q=true∧arF rows p q=L:=by
 apply Classical.byContradiction
 intro hn
 have h1:=(gir_min g (L:Int) (by omega)).mp (by omega)
 have h2:=(gir_min g ((L:Int)+1) (by omega)).mpr (fun p q hpq=>by
  have a1:=h1 p q hpq
  have a2: ¬arF rows p q=L:=fun e=>hn ⟨p,q,hpq,e⟩
  omega)
 omega
theorem arF_3 {p q:Nat} (hpq:rbit rows p q=true):arF rows p q≤0∨3≤arF rows p q:=by
 obtain⟨hp,hq⟩:=rbit_lt g.rok hpq
 have R2:=(cut_rok g hp hq hpq).1
 unfold arF
 rcases far_dist R2 hp q with⟨h1,_⟩|⟨e,h1,h2⟩
 ·omega
 ·rw[h1]
  match e,h2 with
  | 0, h2 => exact absurd h2.1 (g.ne hpq)
  | 1, h2 =>
   obtain⟨c,hc,hb⟩:=h2.1
   have:p=c:=hc
   subst this
   rw[cut_iff g hpq]at hb
   exact absurd (.inl ⟨rfl,rfl⟩) hb.2
  | e + 2, _ => omega
theorem gir_3 {L:Nat} (hL:girF rows n 0 0=L) (h0:L≠0):3≤L:=by
 have:=(gir_min g 3 (by omega)).mpr (fun p q h=>arF_3 g h)
 omega
theorem arN_eq {L a b:Nat} (hab:rbit rows a b=true) (hl:arF rows a b=L) (h0:L≠0):arN rows n a b=cyE rows n L a b∧1≤cyE rows n L a b∧cyE rows n L a b<8589934592:=by
 obtain⟨ha,hb⟩:=rbit_lt g.rok hab
 have R2:=(cut_rok g ha hb hab).1
 unfold cyE
 rw[if_pos hl]
 unfold arF at hl
 have hd:Dst (cut2 rows a b) (L - 1) a b:=dist_far R2 ha (by omega)
 have h1:=wkN_small (n:=n) g.rok.le hd
 have h2: ∀(k u:Nat),u<n→Wk (cut2 rows a b) k a u→1≤wkN (cut2 rows a b) n a k u:=by
  intro k
  induction k with
  | zero =>
   intro u _ h
   have h' :a=u:=h
   rw[wkN,if_pos h'.symm];omega
  | succ k ih =>
   rintro u hu ⟨w,h3,h4⟩
   rw[wkN]
   have hw:=(rbit_lt R2 h4).1
   have h5:=ih w hw h3
   have h6:sumF (fun i=>if i=w then(1:Int)else 0) n≤sumF (fun w=>if rbit (cut2 rows a b) w u=true then wkN (cut2 rows a b) n a k w else 0) n:=by
    apply sumF_le
    intro i _
    by_cases c:i=w
    ·subst c;rw[if_pos rfl,if_pos h4];exact h5
    ·rw[if_neg c];split
     ·exact wkN_nonneg _ _ _ _ _
     ·omega
   rw[sumF_one hw (fun i _ hi=>if_neg hi),if_pos rfl]at h6
   exact h6
 have h3:=h2 _ b hb hd.1
 refine⟨?_,h3,h1⟩
 unfold arN
 rw[if_neg (by omega)]
 have e:(far (cut2 rows a b) a b).toNat=L - 1:=by omega
 rw[e]
 exact wrap64 (by omega) (by omega)
theorem cyE_rng {L a b:Nat} (hab:rbit rows a b=true) (h0:L≠0):0≤cyE rows n L a b∧cyE rows n L a b<8589934592:=by
 by_cases c:arF rows a b=L
 ·obtain⟨_,h1,h2⟩:=arN_eq g hab c h0
  omega
 ·unfold cyE;rw[if_neg c];omega
theorem csRow_at {L : Nat} (h0 : L ≠ 0) (a : Nat) (i : Nat) (acc : Int) (hi : i ≤ n) (h1 : 0 ≤ acc) (h2 : acc + (n - i : Nat) * 8589934592 ≤ 9223372036854775807) :
    upF (fun b x=>csF rows n L a b x) n i acc=acc+(sumF (fun b=>if rbit rows a b=true then cyE rows n L a b else 0) n - sumF (fun b=>if rbit rows a b=true then cyE rows n L a b else 0) i):=by
  by_cases hlt:i<n
  · rw [upF_step hlt]
    obtain⟨c,hc⟩: ∃c,c=if rbit rows a i=true then cyE rows n L a i else 0:=⟨_,rfl⟩
    have hcr:0≤c∧c<8589934592:=by
      rw[hc];split
      · rename_i hb;exact cyE_rng g hb h0
      · omega
    have e1:csF rows n L a i acc=acc+c:=by
      unfold csF
      by_cases hb:rbit rows a i=true
      · rw [if_pos hb] at hc
        by_cases hl:arF rows a i=L
        · rw [if_pos ⟨hb, hl⟩, (arN_eq g hb hl h0).1, ← hc]
          exact wrap64 (by omega) (by omega)
        · rw [if_neg (fun h => hl h.2)]
          unfold cyE at hc
          rw[if_neg hl]at hc
          omega
      · rw[if_neg (fun h=>hb h.1),hc,if_neg hb];omega
    rw[e1,csRow_at h0 a (i+1) (acc+c) hlt (by omega) (by omega)]
    have e2:sumF (fun b=>if rbit rows a b=true then cyE rows n L a b else 0) (i+1)=sumF (fun b=>if rbit rows a b=true then cyE rows n L a b else 0) i+c:=by rw[sumF,hc]
    rw[e2];omega
  · rw [upF_end hlt]
    have:i=n:=by omega
    subst this;omega
 termination_by n - i
omit g in
theorem sumF_from (f:Nat→Int) (a:Nat): ∀n,sumF (fun b=>if a<b then f b else 0) n=if a<n then sumF f n - sumF f (a+1)else 0
 | 0 => by simp [sumF]
 | n + 1 => by
  rw[sumF,sumF_from f a n]
  by_cases c:a<n
  ·have e:sumF f (n+1)=sumF f n+f n:=rfl
   rw[if_pos c,if_pos c,if_pos (by omega),e];omega
  ·rw[if_neg c,if_neg c]
   by_cases e:a=n
   ·subst e;rw[if_pos (by omega)];omega
   ·rw[if_neg (by omega)];omega
omit g in
theorem sumF_bound {f:Nat→Int} {B:Int}: ∀ {n:Nat},(∀i,i<n→0≤f i∧f i≤B)→0≤sumF f n∧sumF f n≤n * B
 | 0, _ => by simp [sumF]
 | n + 1, h => by
  have h1:=sumF_bound (f:=f) (B:=B) (n:=n) (fun i hi=>h i (by omega))
  have h2:=h n (by omega)
  rw[sumF]
  have:((n+1:Nat):Int) * B=n * B+B:=by rw[Int.natCast_add,Int.add_mul];simp
  omega
theorem csAll_at {L : Nat} (h0 : L ≠ 0) (i : Nat) (acc : Int) (hi : i ≤ n) (h1 : 0 ≤ acc) (h2 : acc + (n - i : Nat) * 532575944704 ≤ 532575944704 * 62) :
    upF (fun a x=>csRow rows n L a x) n i acc=acc+(sumF (fun a=>sumF (fun b=>if a<b∧rbit rows a b=true then cyE rows n L a b else 0) n) n - sumF (fun a=>sumF (fun b=>if a<b∧rbit rows a b=true then cyE rows n L a b else 0) n) i):=by
  have hle:=g.rok.le
  by_cases hlt:i<n
  · rw [upF_step hlt]
    obtain⟨c,hc⟩: ∃c,c=sumF (fun b=>if i<b∧rbit rows i b=true then cyE rows n L i b else 0) n:=⟨_,rfl⟩
    have hcr:0≤c∧c≤(n:Int) * 8589934592:=by
      rw[hc]
      apply sumF_bound
      intro b _
      split
      · rename_i hb;have:=cyE_rng g hb.2 h0;omega
      · omega
    have e1:csRow rows n L i acc=acc+c:=by
      unfold csRow
      rw[csRow_at g h0 i (i+1) acc hlt h1 (by omega),hc]
      have e3:(fun b=>if i<b∧rbit rows i b=true then cyE rows n L i b else 0)=fun b=>if i<b then(fun b=>if rbit rows i b=true then cyE rows n L i b else 0) b else 0:=by
        funext b
        by_cases c1:i<b<;>simp[c1]
      rw[e3,sumF_from,if_pos hlt]
    rw[e1,csAll_at h0 (i+1) (acc+c) hlt (by omega) (by omega)]
    have e2:sumF (fun a=>sumF (fun b=>if a<b∧rbit rows a b=true then cyE rows n L a b else 0) n) (i+1)=sumF (fun a=>sumF (fun b=>if a<b∧rbit rows a b=true then cyE rows n L a b else 0) n) i+c:=by rw[sumF,hc]
    rw[e2];omega
  · rw [upF_end hlt]
    have:i=n:=by omega
    subst this;omega
 termination_by n - i
theorem csAll_div {L:Nat} (hL:girF rows n 0 0=L) (h0:L≠0): ∃M:Int,csAll rows n L=L * M∧1≤M∧M≤33019708571648∧L * M≤33019708571648:=by
 have hle:=g.rok.le
 have h3:=gir_3 g hL h0
 have hmin:=(gir_min g (L:Int) (by omega)).mp (by omega)
 obtain⟨M,hM⟩:=cyE_div g h3 hmin
 have e:=csAll_at g h0 0 0 (Nat.zero_le _) (by omega) (by omega)
 have e2:csAll rows n L=sumF (fun a=>sumF (fun b=>if a<b∧rbit rows a b=true then cyE rows n L a b else 0) n) n:=by
  unfold csAll;rw[e];simp[sumF]
 obtain⟨S,hS⟩: ∃S,S=sumF (fun a=>sumF (fun b=>if a<b∧rbit rows a b=true then cyE rows n L a b else 0) n) n:=⟨_,rfl⟩
 have hb: ∀a,a<n→0≤sumF (fun b=>if a<b∧rbit rows a b=true then cyE rows n L a b else 0) n∧sumF (fun b=>if a<b∧rbit rows a b=true then cyE rows n L a b else 0) n≤n * 8589934592:=by
  intro a _
  apply sumF_bound
  intro b _
  split
  ·rename_i hb;have:=cyE_rng g hb.2 h0;omega
  ·omega
 have hS2:S≤33019708571648:=by
  have:=(sumF_bound (f:=fun a=>sumF (fun b=>if a<b∧rbit rows a b=true then cyE rows n L a b else 0) n) (B:=532575944704) (n:=n) (fun i hi=>by have:=hb i hi;omega)).2
  rw[←hS]at this
  omega
 have hS1 : 1 ≤ S := by
  obtain⟨p,q,hpq,har⟩:=gir_edge g hL h0
  -- the smaller of the two first
  have key : ∀ p q, p < q → rbit rows p q = true → arF rows p q = L → 1 ≤ S := by
   intro p q hlt hpq har
   obtain⟨hp,hq⟩:=rbit_lt g.rok hpq
   have h5:=(arN_eq g hpq har h0).2.1
   have h6:sumF (fun i=>if i=p then(1:Int)else 0) n≤S:=by
    rw[hS]
    apply sumF_le
    intro i hi
    by_cases c:i=p
    ·subst c
     rw[if_pos rfl]
     have h7:sumF (fun j=>if j=q then(1:Int)else 0) n≤sumF (fun b=>if i<b∧rbit rows i b=true then cyE rows n L i b else 0) n:=by
      apply sumF_le
      intro j _
      by_cases c2:j=q
      ·subst c2;rw[if_pos rfl,if_pos ⟨hlt,hpq⟩];exact h5
      ·rw[if_neg c2];split
       ·rename_i hb2;exact(cyE_rng g hb2.2 h0).1
       ·omega
     rw[sumF_one hq (fun i _ hi=>if_neg hi),if_pos rfl]at h7
     exact h7
    ·rw[if_neg c];exact(hb i hi).1
   rw[sumF_one hp (fun i _ hi=>if_neg hi),if_pos rfl]at h6
   exact h6
  have hne:=g.ne hpq
  rcases Nat.lt_or_ge p q with h|h
  ·exact key p q h hpq har
  ·exact key q p (by omega) (g.sym' hpq) (by rw[←arF_symm g hpq];exact har)
 rw[←hS]at hM e2
 have hM1:1≤M:=by
  apply Classical.byContradiction
  intro hn
  have:(L:Int) * M≤L * 0:=Int.mul_le_mul_of_nonneg_left (by omega) (by omega)
  omega
 refine⟨M,by omega,hM1,?_,by omega⟩
 have:(1:Int) * M≤L * M:=Int.mul_le_mul_of_nonneg_right (by omega) (by omega)
 omega
end
end

/- Shortest cycles through an edge in either direction; girths at vertices are not less than the girth. -/
section
open Go
open Classical
section
variable {n:Nat} {rows:List Int} (g:GV n rows)
include g
theorem cyE_symm {L a b:Nat} (h3:3≤L) (hL: ∀p q,rbit rows p q=true→arF rows p q≤0∨(L:Int)≤arF rows p q) (hab:rbit rows a b=true):cyE rows n L a b=cyE rows n L b a:=by
 rw[cyE_tup g h3 hL hab,cyE_tup g h3 hL (g.sym' hab)]
 rw[←cn_perm (p:=fun l=>(Cyc (rr rows) l∧l.getD (L - 1) 0=b)∧l.getD 0 0=a) (f:=List.reverse) (f' :=List.reverse) (fun l=>rev_tup) (fun l=>rev_tup) (fun l _=>List.reverse_reverse l) (fun l _=>List.reverse_reverse l)]
 apply cn_congr
 intro l hl
 have hl2:=(mem_tup.mp hl).1
 rw[Cyc.rev_iff (r:=rr rows) (fun _ _ h=>g.sym' h)]
 have g1:l.reverse.getD 0 0=l.getD (L - 1) 0:=by
  simp only[List.getD_eq_getElem?_getD]
  rw[List.getElem?_reverse (by omega),hl2,Nat.sub_zero]
 have g2:l.reverse.getD (L - 1) 0=l.getD 0 0:=by
  simp only[List.getD_eq_getElem?_getD]
  rw[List.getElem?_reverse (by omega),hl2]
  congr 2;omega
 rw[g1,g2]
 constructor
 ·rintro⟨⟨h1,h2⟩,h4⟩;exact⟨⟨h1,h4⟩,h2⟩
 ·rintro⟨⟨h1,h2⟩,h4⟩;exact⟨⟨h1,h4⟩,h2⟩
end
noncomputable def giA (n:Int) (rows:List Int):Int × Int:=if¬GV n rows then(0,1)else if girF rows n.toNat 0 0=0 then(0,4)else(girF rows n.toNat 0 0,0)
noncomputable def csA (n:Int) (rows:List Int):Int × Int:=if¬GV n rows then(0,1)else if girF rows n.toNat 0 0=0 then(0,4)else((csAll rows n.toNat (girF rows n.toNat 0 0)).tdiv (girF rows n.toNat 0 0),0)
end

/- GirthOf, GirthAt, CountShortest, EdgesOf. -/
section
open Go
open Classical
variable {nro:Nat}
theorem c_zz101 (x:Int) (h:VH):vcall F nro k_zz101 [.int .i64 x] h=some (.tuple #[.int .i64 x,.int .i64 (if x=0 then 4 else 0)],h):=by
 refine v_zz101 (by simp[i_zz101]) ?_
 rw[fbody_eq]
 by_cases c:x=0
 ·simp (disch:=first|assumption|omega|(simp[*]<;>omega)|fail) [i_zz101,c]
 ·simp (disch:=first|assumption|omega|(simp[*]<;>omega)|fail) [i_zz101,c]
theorem c_zz89 (n:Int) (s:Value) (rows:List Int) (h:VH) (hs:Sli h s rows) (hn:nro≤h.length):
  vcall F nro k_zz89 [gv n s] h=some (.tuple #[.int .i64 (giA n rows).1,.int .i64 (giA n rows).2],h):=by
 refine v_zz89 (by simp[i_zz89]) ?_
 rw[fbody_eq]
 have hn' :=fun k=>Nat.le_trans hn (Nat.le_add_right h.length k)
 have hso:=fun k=>hs.oldCk (k:=k)
 have hi:=c_zz104 (nro:=nro) n s rows (bx h n s) (hs.app _)
 unfold giA
 by_cases g:GV n rows
 ·have hlo:=g.lo
  obtain⟨N,rfl⟩: ∃N:Nat,n=N:=⟨n.toNat,by omega⟩
  have hg:=c_zz84 (nro:=nro) N (-1) s rows (bx h N s) (hs.app _) g (by simp;omega)
  rw[gAll_girF g]at hg
  rw[if_neg (fun h=>h g),Int.toNat_natCast]
  rw[decide_eq_true g]at hi
  obtain⟨x,hx⟩: ∃x,x=girF rows N 0 0:=⟨_,rfl⟩
  rw[←hx]at hg⊢
  clear hx g
  by_cases c2:x=0
  ·simp (disch:=first|assumption|omega|(simp[*]<;>omega)|fail) [i_zz89,hi,hg,c2,hn',hso]
  ·simp (disch:=first|assumption|omega|(simp[*]<;>omega)|fail) [i_zz89,hi,hg,c2,hn',hso]
 ·rw[if_pos g]
  rw[decide_eq_false g]at hi
  clear g
  simp (disch:=first|assumption|omega|(simp[*]<;>omega)|fail) [i_zz89,hi,hn',hso]
theorem c_zz85 (n:Int) (s:Value) (rows:List Int) (h:VH) (hs:Sli h s rows) (hn:nro≤h.length):
  vcall F nro k_zz85 [gv n s] h=some (.tuple #[.int .i64 (giA n rows).1,.int .i64 (giA n rows).2],h):=by
 refine v_zz85 (by simp[i_zz85]) ?_
 rw[fbody_eq]
 have hn' :=fun k=>Nat.le_trans hn (Nat.le_add_right h.length k)
 have hso:=fun k=>hs.oldCk (k:=k)
 have hi:=c_zz86 (nro:=nro) n s rows (bx h n s) (hs.app _)
 have hf:=fun x=>c_zz101 (nro:=nro) x (bx h n s)
 unfold giA
 by_cases g:GV n rows
 ·have hlo:=g.lo
  obtain⟨N,rfl⟩: ∃N:Nat,n=N:=⟨n.toNat,by omega⟩
  have hg:=c_zz60 (nro:=nro) N s rows (bx h N s) (hs.app _) g (by simp;omega)
  rw[if_neg (fun h=>h g),Int.toNat_natCast]
  rw[decide_eq_true g]at hi
  obtain⟨x,hx⟩: ∃x,x=girF rows N 0 0:=⟨_,rfl⟩
  rw[←hx]at hg⊢
  clear hx g
  by_cases c2:x=0
  ·subst c2
   simp (disch:=first|assumption|omega|(simp[*]<;>omega)|fail) [i_zz85,hi,hg,hf,hn',hso]
  ·simp (disch:=first|assumption|omega|(simp[*]<;>omega)|fail) [i_zz85,hi,hg,hf,c2,hn',hso]
 ·rw[if_pos g]
  rw[decide_eq_false g]at hi
  clear g
  simp (disch:=first|assumption|omega|(simp[*]<;>omega)|fail) [i_zz85,hi,hn',hso]
theorem upF_list {α:Type} (F' :List Int→α→α): ∀(pre es:List (List Int)) (a:α),upF (fun i x=>F' ((pre++es).getD i []) x) (pre++es).length pre.length a=es.foldl (fun x e=>F' e x) a
 | pre, [], a => by rw [List.append_nil, upF_end (by omega)]; rfl
 | pre, e :: es, a => by
  rw[upF_step (by simp)]
  have h1:(pre++e::es).getD pre.length []=e:=by simp[List.getD_eq_getElem?_getD]
  rw[h1]
  have:=upF_list F' (pre++ [e]) es (F' e a)
  rw[show pre++ [e]++es=pre++e::es by simp,show(pre++ [e]).length=pre.length+1 by simp]at this
  exact this
theorem l_zz49 (H:VH) (p n d:Nat) (q s:Value) (rows:List Int) (hs:Sli H s rows) (g:GV n rows) (hp:H[p]? =some ⟨0,[.int .i64 n,s]⟩) (hq:LL H q (edgesF rows n 0)) (hn:nro≤H.length):
  floop (vcall F nro) nro [1,4,5,16,17,18] i_zz49_B1 H [.pointer (some ⟨p,0,some 2⟩),.int .i64 ((d:Int)+1),.int .i64 0,q,.int .i64 (edgesF rows n 0).length,.int .i64 0] H=
   some (.exit 0,fl [(4,.int .i64 ((d:Int)+1)),(5,.int .i64 (csAll rows n ((d:Int)+1)))],H):=by
 obtain⟨vs,v1,v2,v3⟩:=hq
 have R:=g.rok
 have hle:=R.le
 have hel:=edges_len' rows n 0 hle
 have hpl: ∀k,p<H.length+k:=fun k=>by have:=(List.getElem?_eq_some_iff.mp hp).1;omega
 have hpl0:p<H.length:=by have:=hpl 0;omega
 have key:=for_up (call:=vcall F nro) (nro:=nro) (live:= [1,4,5,16,17,18]) (c:=i_zz49_B1) (h0:=H) (n:=(edgesF rows n 0).length) (fun j (x:Int)=> [.pointer (some ⟨p,0,some 2⟩),.int .i64 ((d:Int)+1),.int .i64 x,q,.int .i64 (edgesF rows n 0).length,.int .i64 j]) (fun _ _=>H) (fun j x=>csF rows n ((d:Int)+1) (((edgesF rows n 0).getD j []).getD 0 0).toNat (((edgesF rows n 0).getD j []).getD 1 0).toNat x) (fun _ _=>True)
  (fun x=>some (.exit 0,fl [(4,.int .i64 ((d:Int)+1)),(5,.int .i64 x)],H)) ?_ ?_ 0 0 (Nat.zero_le _) trivial
 ·have e:=upF_list (fun e x=>csF rows n ((d:Int)+1) (e.getD 0 0).toNat (e.getD 1 0).toNat x) [] (edgesF rows n 0) (0:Int)
  simp only[List.nil_append,List.length_nil]at e
  have e2:=csL_all rows n ((d:Int)+1)
  unfold csL at e2
  rw[←e2,←e]
  exact key.1
 ·intro j x hj hj2 _
  refine⟨trivial,?_⟩
  rw[getD_list hj]
  obtain⟨u,w,huw,hwn,hb,he⟩:=edges_shape (List.getElem_mem hj)
  have hjv:j<vs.length:=by omega
  have I:=v3 j hjv
  rw[getD_list hj,he]at I
  rw[he]
  have oq:=v2.old
  have vx:=v2.vidx (k:= .i64) (j:=(j:Int)) (by omega) (by omega)
  have vl:=v2.vload hjv
  have i0:=I.vidx (k:= .i64) (j:=0) (by omega) (by simp)
  have i1:=I.vidx (k:= .i64) (j:=1) (by omega) (by simp)
  have j0:=I.vload (j:=0) (by simp)
  have j1:=I.vload (j:=1) (by simp)
  simp at i0 i1 j0 j1
  have b1:(j:Int)<vs.length:=by omega
  have ca:=c_zz57 (nro:=nro) n u w s rows H hs g hb hn
  have eg:csF rows n ((d:Int)+1) (([(u:Int),(w:Int)].getD 0 0).toNat) (([(u:Int),(w:Int)].getD 1 0).toNat) x=if arF rows u w=(d:Int)+1 then IntKind.i64.wrap (x+arN rows n u w)else x:=by
   unfold csF
   by_cases c:arF rows u w=(d:Int)+1
   ·simp[hb,c]
   ·simp[c]
  rw[eg]
  obtain⟨N,hN⟩: ∃N,N=(edgesF rows n 0).length:=⟨_,rfl⟩
  rw[←hN]at hj2 hel⊢
  have wj:IntKind.i64.wrap ((j:Int)+1)=(j:Int)+1:=wrap64 (by omega) (by omega)
  rw[floop_at i_zz49_B1.eq_1]
  by_cases c:arF rows u w=(d:Int)+1
  ·have hun:u<n:=by omega
   have hsm:=far_small (cut_rok g hun hwn hb).1 hun hwn
   have hfd:far (cut2 rows u w) u w=d:=by unfold arF at c;omega
   have ct:=c_zz53 (nro:=nro) n u w d s rows H hs g hb (by omega) hn
   have e1:arN rows n u w=IntKind.i64.wrap (wkN (cut2 rows u w) n u d w):=by
    unfold arN
    rw[hfd,if_neg (by omega),Int.toNat_natCast]
   rw[if_pos c,e1]
   rw[c]at ca
   obtain⟨z,hz⟩: ∃z,z=IntKind.i64.wrap (wkN (cut2 rows u w) n u d w):=⟨_,rfl⟩
   rw[←hz]at ct⊢
   clear hz e1 hfd c hsm eg he I hN v3 hs g R
   simp (disch:=first|assumption|omega|(simp[*]<;>omega)|fail) [-getElem?_pos,gz_,gs_,hj2,vx,vl,i0,i1,j0,j1,hp,ca,ct,hn,hpl,hpl0,wj]
  ·rw[if_neg c]
   obtain⟨z,hz⟩: ∃z,z=arF rows u w:=⟨_,rfl⟩
   rw[←hz]at ca c
   clear hz eg he I hN v3 hs g R
   simp (disch:=first|assumption|omega|(simp[*]<;>omega)|fail) [-getElem?_pos,gz_,gs_,hj2,vx,vl,i0,i1,j0,j1,hp,ca,c,hn,hpl,hpl0,wj]
 ·intro x _
  rw[floop_at i_zz49_B1.eq_1]
  simp (disch:=first|assumption|omega|(simp[*]<;>omega)|fail) [-getElem?_pos,gz_,gs_,hpl,hpl0]
theorem c_zz49 (n:Int) (s:Value) (rows:List Int) (h:VH) (hs:Sli h s rows) (hn:nro≤h.length):
  vcall F nro k_zz49 [gv n s] h=some (.tuple #[.int .i64 (csA n rows).1,.int .i64 (csA n rows).2],h):=by
 refine v_zz49 (by simp[i_zz49]) ?_
 rw[fbody_eq]
 have hn' :=fun k=>Nat.le_trans hn (Nat.le_add_right h.length k)
 have hso:=fun k=>hs.oldCk (k:=k)
 have hi:=c_zz86 (nro:=nro) n s rows (bx h n s) (hs.app _)
 unfold csA
 by_cases g:GV n rows
 ·have hlo:=g.lo
  obtain⟨N,rfl⟩: ∃N:Nat,n=N:=⟨n.toNat,by omega⟩
  have hg:=c_zz60 (nro:=nro) N s rows (bx h N s) (hs.app _) g (by simp;omega)
  rw[if_neg (fun h=>h g),Int.toNat_natCast]
  rw[decide_eq_true g]at hi
  have hge:=girF_ge' (rows:=rows) (n:=N) 0 0 (by omega)
  by_cases c2:girF rows N 0 0=0
  ·rw[if_pos c2]
   rw[c2]at hg
   clear g
   simp (disch:=first|assumption|omega|(simp[*]<;>omega)|fail) [i_zz49,hi,hg,hn',hso]
  ·rw[if_neg c2]
   obtain⟨d,hL⟩: ∃d:Nat,girF rows N 0 0=(d:Int)+1:=⟨((girF rows N 0 0) - 1).toNat,by omega⟩
   obtain⟨m,hM,m1,m2,_⟩:=csAll_div g (L:=d+1) (by omega) (by omega)
   rw[show((d+1:Nat):Int)=(d:Int)+1 by omega]at hM
   rw[hL]at hg c2⊢
   obtain⟨q,M,e1,e2⟩:=c_zz59 (nro:=nro) N s rows (bx h N s) (hs.app _) (by simp;omega) g.rok
   have l2:=l_zz49 (nro:=nro) (bx h N s++M) h.length N d q s rows ((hs.app _).app _) g (by simp) e2.ll (by simp;omega)
   obtain⟨vs,v1,v2,_⟩:=e2.ll
   have vl:=v2.vlen
   rw[v1]at vl
   obtain⟨qa,qm,rfl⟩:=e2.shape
   have hq0:(csAll rows N ((d:Int)+1)).tdiv ((d:Int)+1)=m:=by rw[hM,Int.mul_tdiv_cancel_left _ c2]
   have w1:IntKind.i64.wrap m=m:=wrap64 (by omega) (by omega)
   obtain⟨x,hx⟩: ∃q,q=csAll rows N ((d:Int)+1):=⟨_,rfl⟩
   rw[←hx]at l2 hq0⊢
   rw[hq0]
   obtain⟨E,hE⟩: ∃E,E=(edgesF rows N 0).length:=⟨_,rfl⟩
   rw[←hE]at l2 vl
   have hk:=fun x y:Int=>kclean_take (h:=h) (H:=bx h N s++M) (vs:= [.tuple #[.int .i64 x,.int .i64 y]]) (by simp) (by simp)
   obtain⟨K,hK⟩: ∃K,K=bx h N s++M:=⟨_,rfl⟩
   rw[←hK]at e1 l2 vl hk
   clear hx hM g hge hL m1 m2 e2 v1 v2 hE hK hs
   simp (disch:=first|assumption|omega|(simp[*]<;>omega)|fail) [i_zz49,hi,hg,c2,e1,vl,l2,hq0,w1,hk,hn',hso]
 ·rw[if_pos g]
  rw[decide_eq_false g]at hi
  clear g
  simp (disch:=first|assumption|omega|(simp[*]<;>omega)|fail) [i_zz49,hi,hn',hso]
end

/- Parts are counted by their leaders; lifts' parts and edges. -/
section
open Go
variable {nro:Nat}
theorem LL.len {h:VH} {v:Value} {ess:List (List Int)} (hl:LL h v ess):vlen h v=some (.int .i64 ess.length,h):=by
 obtain⟨vs,e,h1,_⟩:=hl
 rw[h1.vlen,e]
end

/- The library's slices.Concat. -/
section
open Go
variable {nro:Nat}
theorem c_Grow (n:Nat) (h1:1≤n) (h2:n≤1048576) (h:VH):vcall F nro k_slices_Grow_int64_int64 [.slice none 0 0,.int .i64 n] h=some (.slice (some ⟨h.length,0,none⟩) 0 0,h++ [⟨1,[]⟩]):=by
 have hF:F k_slices_Grow_int64_int64=some (.ext growX):=by kernel_rfl
 rw[vcall,vstep,hF]
 show(if 1≤(n:Int)∧(n:Int)≤1048576 then some (Value.slice (some ⟨h.length,0,none⟩) 0 0,h++ [⟨1,[]⟩])else none)=_
 rw[if_pos ⟨by omega,by omega⟩]
theorem flat_take {ess:List (List Int)} {i:Nat} (hi:i<ess.length):(ess.take (i+1)).flatten=(ess.take i).flatten++ess[i]:=by
 rw[List.take_succ_eq_append_getElem hi,List.flatten_append]
 simp
theorem flat_le {ess:List (List Int)} (i:Nat):(ess.take i).flatten.length≤ess.flatten.length:=by
 have:ess.flatten=(ess.take i).flatten++(ess.drop i).flatten:=by rw[←List.flatten_append,List.take_append_drop]
 rw[this,List.length_append]
 omega
section
variable {h:VH} {q:Value} {ess:List (List Int)} (hq:LL h q ess) (hn:nro≤h.length) (h1:1≤ess.flatten.length) (h2:ess.flatten.length≤4000) (hl:ess.length≤4000)
include hq hn h1 h2 hl
theorem l_Concat_1:floop (vcall F nro) nro [0,3,9,10,11] i_zz30_B1 h [q,.int .i64 0,q,.int .i64 ess.length,.int .i64 0] h=some (.exit 0,fl [(0,q),(3,.int .i64 ess.flatten.length)],h):=by
 obtain⟨vs,v1,v2,v3⟩:=hq
 have oq:=v2.old
 have key:=for_up (call:=vcall F nro) (nro:=nro) (live:= [0,3,9,10,11]) (c:=i_zz30_B1) (h0:=h) (n:=ess.length)
  (fun i (_:Unit)=> [q,.int .i64 (ess.take i).flatten.length,q,.int .i64 ess.length,.int .i64 i]) (fun _ _=>h) (fun _ u=>u) (fun _ _=>True)
  (fun _=>some (.exit 0,fl [(0,q),(3,.int .i64 ess.flatten.length)],h)) (fun i u hi hi2 _=>⟨trivial,?_⟩) (fun u _=> ?_) 0 () (by omega) trivial
 ·simpa using key.1
 ·have hiv:i<vs.length:=by omega
  have I:=v3 i hiv
  rw[getD_list hi]at I
  have vx:=v2.vidx (k:= .i64) (j:=(i:Int)) (by omega) (by omega)
  have vl:=v2.vload hiv
  have ln:=I.vlen
  have e:=flat_take hi
  have hle:=flat_le (ess:=ess) (i+1)
  rw[e]at hle⊢
  rw[List.length_append]at hle⊢
  generalize(ess.take i).flatten.length=s at *
  generalize ess[i].length=t at *
  have w1:IntKind.i64.wrap ((i:Int)+1)=(i:Int)+1:=wrap64 (by omega) (by omega)
  have w2:IntKind.i64.wrap ((s:Int)+t)=(s:Int)+t:=wrap64 (by omega) (by omega)
  have hneg: ¬(s:Int)+t<0:=by omega
  have oe:=I.old
  clear e I v3
  rw[floop_at i_zz30_B1.eq_1]
  generalize vs[i]=x at *
  simp (disch:=first|assumption|omega|(simp[*]<;>omega)|fail) [-getElem?_pos,gz_,gs_,hi,hi2,vx,vl,ln,w1,w2,hneg,oq,oe]
 ·rw[List.take_length,floop_at i_zz30_B1.eq_1]
  clear v2 v3
  simp (disch:=first|assumption|omega|(simp[*]<;>omega)|fail) [-getElem?_pos,gz_,gs_,oq]
theorem l_Concat_2:floop (vcall F nro) nro [6,25,26,27] i_zz30_B2 (h++ [⟨1,[]⟩]) [.slice (some ⟨h.length,0,none⟩) 0 0,q,.int .i64 ess.length,.int .i64 0] (h++ [⟨1,[]⟩])=some (.exit 2,fl [(6,.slice (some ⟨h.length,0,none⟩) ess.flatten.length ess.flatten.length)],h++ [⟨1,ints ess.flatten⟩]):=by
 obtain⟨vs,v1,v2,v3⟩:=hq
 have oq:=fun k=>v2.old.le (Nat.le_add_right h.length k)
 have hn' :=fun k=>Nat.le_trans hn (Nat.le_add_right h.length k)
 have key:=for_up (call:=vcall F nro) (nro:=nro) (live:= [6,25,26,27]) (c:=i_zz30_B2) (h0:=h++ [⟨1,[]⟩]) (n:=ess.length)
  (fun i (_:Unit)=> [.slice (some ⟨h.length,0,none⟩) (ess.take i).flatten.length (ess.take i).flatten.length,q,.int .i64 ess.length,.int .i64 i]) (fun i _=>h++ [⟨1,ints (ess.take i).flatten⟩]) (fun _ u=>u) (fun _ _=>True)
  (fun _=>some (.exit 2,fl [(6,.slice (some ⟨h.length,0,none⟩) ess.flatten.length ess.flatten.length)],h++ [⟨1,ints ess.flatten⟩])) (fun i u hi hi2 _=>⟨trivial,?_⟩) (fun u _=> ?_) 0 () (by omega) trivial
 ·have:=key.1
  simp only[List.take_zero,List.flatten_nil,List.length_nil,Int.natCast_zero]at this
  exact this
 ·have hiv:i<vs.length:=by omega
  have I:=v3 i hiv
  rw[getD_list hi]at I
  have vx:=fun L=>(v2.app L).vidx (k:= .i64) (j:=(i:Int)) (by omega) (by omega)
  have vl:=fun L=>(v2.app L).vload hiv
  have e:=flat_take hi
  have hle:=flat_le (ess:=ess) (i+1)
  rw[e]at hle⊢
  have hcl:=fun(r:List Int) (vs:List Value)=>mk_clean (P:=h) (C:= []) (r0:= []) (r1:=r) (vs:=vs)
  have he0:ints ([]:List Int)= []:=rfl
  rw[he0]at hcl
  have hsrc: ∀L,vsrc 1 (h++L) vs[i]=some (ints ess[i],(ints ess[i]).length):=fun L=>I.app L
  have hap:ints ((ess.take i).flatten++ess[i])=ints (ess.take i).flatten++ints ess[i]:=by simp[ints]
  rw[hap]
  rw[List.length_append]at hle⊢
  have hj:=ints_nj ess[i]
  have hl1:(ints (ess.take i).flatten).length=(ess.take i).flatten.length:=ints_length _
  have hl2:(ints ess[i]).length=ess[i].length:=ints_length _
  have w1:IntKind.i64.wrap ((i:Int)+1)=(i:Int)+1:=wrap64 (by omega) (by omega)
  have hcl2:=fun vs=>hcl ((ess.take i).flatten++ess[i]) vs
  rw[hap]at hcl2
  generalize ints (ess.take i).flatten=A at *
  generalize ints ess[i]=B at *
  generalize(ess.take i).flatten.length=s at *
  generalize ess[i].length=t at *
  have b1:(s+t) * 8≤1099511627776:=by omega
  have b2:s+t≤1099511627776:=by omega
  clear e I v3 hap hcl
  rw[floop_at i_zz30_B2.eq_1]
  generalize vs[i]=x at *
  unfold isJunk at hj
  simp (disch:=first|assumption|omega|(simp[*]<;>omega)|fail) [-getElem?_pos,gz_,gs_,hi,hi2,vx,vl,hsrc,w1,oq,hl1,hl2,b1,b2,hn',hn,hcl2]
  intro y hy hjy
  rw[hj y hy]at hjy
  cases hjy
 ·rw[List.take_length,floop_at i_zz30_B2.eq_1]
  clear v2 v3
  simp (disch:=first|assumption|omega|(simp[*]<;>omega)|fail) [-getElem?_pos,gz_,gs_,oq]
theorem c_slices_Concat:vcall F nro k_zz30 [q] h=some (.slice (some ⟨h.length,0,none⟩) ess.flatten.length ess.flatten.length,h++ [⟨1,ints ess.flatten⟩]):=by
 have l1:=l_Concat_1 (nro:=nro) hq hn h1 h2 hl
 have l2:=l_Concat_2 (nro:=nro) hq hn h1 h2 hl
 have ln:=fun L=>(hq.app L).len
 have ln0:=hq.len
 have oq:=fun k=>hq.old.le (Nat.le_add_right h.length k)
 have oq0:=hq.old
 have g:=c_Grow (nro:=nro) ess.flatten.length h1 (by omega) h
 have hn' :=fun k=>Nat.le_trans hn (Nat.le_add_right h.length k)
 have hl2:(ints ess.flatten).length=ess.flatten.length:=ints_length _
 refine v_zz30 (by simp[i_zz30]) ?_
 rw[fbody_eq]
 generalize ess.flatten.length=N at *
 generalize hA:ints ess.flatten=A at *
 have hfin:kclean h [.slice (some ⟨h.length,0,none⟩) N N] (h++ [⟨1,A⟩])=([.slice (some ⟨h.length,0,none⟩) N N],h++ [⟨1,A⟩]):=by
  rw[←hA]
  have:=cleanup_one_upd (h:=h) (h' :=h) (L:= [⟨1,ints ess.flatten⟩]) (v:= .slice (some ⟨h.length,0,none⟩) N N) (k:=0) (o:=⟨1,ints ess.flatten⟩) (Upd.rfl' h) (by simp[trefs,vrefs,crefs,arefs]) rfl (flatO_ints _ _ _)
  rw[this]
  simp[tren,vren,cren,aren,renOf]
 clear hq hA
 simp (disch:=first|assumption|omega|(simp[*]<;>omega)|fail) [-getElem?_pos,gz_,gs_,i_zz30,l1,l2,ln,ln0,oq,oq0,g,hl2,hfin,hn',hn,fresults,fresL,fres1]
end
end

/- Groups as the program has them: sums, turns with mirrors, lines. What their products obey, in plain numbers. -/
section
open Go
def gord (k n:Nat):Nat:=if k=0 then n else if k=1 then 2 * n else n * (n - 1)
end

/- Groups: what tells them, their numbers of elements, their products. -/
section
open Go
variable {nro:Nat}
def gpB (K P:Int):Prop:=(K=0∧1≤P∧P≤62)∨(K=1∧1≤P∧P≤31)∨(K=2∧(P=2∨P=3∨P=5∨P=7))
instance (K P:Int):Decidable (gpB K P):=by unfold gpB;infer_instance
end

/- Groups: inverses, codes, products, orders, as the two programs reckon them. -/
section
open Go
variable {nro:Nat}
def gin (K P x:Int):Prop:=0≤x∧x<(gord K.toNat P.toNat:Nat)
instance (K P x:Int):Decidable (gin K P x):=by unfold gin;infer_instance
end

/- What is generated: plain. -/
section
open Go
inductive Gen (m:Nat→Nat→Nat) (ss:List Nat):Nat→Prop
 | zero : Gen m ss 0
 | step (x s : Nat) : Gen m ss x → s ∈ ss → Gen m ss (m x s)
end

/- What is generated, by the reference. -/
section
open Go
variable {nro:Nat}
def btb (N:Nat) (p:Nat→Bool):List Value:=(List.range N).map fun x=> .bool (p x)
@[simp] theorem btb_length (N : Nat) (p : Nat → Bool) : (btb N p).length = N := by simp [btb]
end

/- Closed sets, by the program. -/
section
open Go
variable {nro:Nat}
theorem ddN_ok {xs:List Int} (hs:SrtB 0 xs.length xs): ∀p,p≤xs.length→(ddN xs p).Pairwise (· < ·)∧(∀x,x∈ddN xs p↔ ∃q,q<p∧xs.getD q 0=x)
 | 0, _ => by simp [ddN]
 | p + 1, hp => by
  obtain⟨h1,h2⟩:=ddN_ok hs p (by omega)
  rw[ddN]
  by_cases c:p≠0∧xs.getD p 0=xs.getD (p - 1) 0
  ·rw[if_pos c]
   refine⟨h1,fun x=> ?_⟩
   rw[h2]
   constructor
   ·rintro⟨q,hq,e⟩;exact⟨q,by omega,e⟩
   ·rintro⟨q,hq,e⟩
    by_cases hqp:q=p
    ·exact⟨p - 1,by omega,by rw[←c.2,←hqp];exact e⟩
    ·exact⟨q,by omega,e⟩
  ·rw[if_neg c]
   refine⟨?_,fun x=> ?_⟩
   ·rw[List.pairwise_append]
    refine⟨h1,by simp,fun a ha b hb=> ?_⟩
    simp only[List.mem_singleton]at hb
    subst hb
    obtain⟨q,hq,rfl⟩:=(h2 a).mp ha
    have h3:=hs (p - 1) p (by omega) (by omega) (by omega)
    have h4:xs.getD q 0≤xs.getD (p - 1) 0:=by
     by_cases e:q=p - 1
     ·rw[e];exact Int.le_refl _
     ·exact hs q (p - 1) (by omega) (by omega) (by omega)
    have h5:xs.getD p 0≠xs.getD (p - 1) 0:=fun e=>c ⟨by omega,e⟩
    omega
   ·rw[List.mem_append,h2,List.mem_singleton]
    constructor
    ·rintro(⟨q,hq,e⟩|e)
     ·exact⟨q,by omega,e⟩
     ·exact⟨p,by omega,e.symm⟩
    ·rintro⟨q,hq,e⟩
     by_cases hqp:q=p
     ·exact .inr (by rw[←e,hqp])
     ·exact .inl ⟨q,by omega,e⟩
end

/- The law of TakeVertex. -/
section
open Go
variable {nro:Nat}
def rng (n:Nat):List Int:=(List.range n).map fun(i:Nat)=>(i:Int)
@[simp] theorem rng_length (n : Nat) : (rng n).length = n := by simp [rng]
@[simp] theorem rng_zero : rng 0 = [] := rfl
theorem rng_succ (n:Nat):rng (n+1)=rng n++ [(n:Int)]:=by simp[rng,List.range_succ]
theorem l_zz79 (N:Nat) (h:VH) (hn:nro≤h.length) (h1:N≤62) (y0:List Int) (i:Nat) (hi:i≤N):
    floop (vcall F nro) nro [3,6,7] i_zz79_B1 (h++ [⟨1,ints y0⟩]) [.slice (some ⟨h.length,0,none⟩) i i,.int .i64 N,.int .i64 i] (h++ [⟨1,ints (rng i)⟩])=
      some (.exit 0,fl [(3,.slice (some ⟨h.length,0,none⟩) N N)],h++ [⟨1,ints (rng N)⟩]):=by
  have hn' :=fun k=>Nat.le_trans hn (Nat.le_add_right h.length k)
  rw[floop_at i_zz79_B1.eq_1]
  by_cases hlt:i<N
  · have hlt' : (i : Int) < N := by omega
    have ih:=l_zz79 N h hn h1 y0 (i+1) hlt
    rw[show((i+1:Nat):Int)=(i:Int)+1 by omega,rng_succ]at ih
    have b1:(i+1) * 8≤1099511627776:=by omega
    have b2:i<1099511627776:=by omega
    simp (disch:=first|assumption|omega|(simp[*]<;>omega)|fail) [wrap64,hlt',hn,hn',b1,b2,ints_snoc,ih]
  · have e : i = N := by omega
    subst e
    simp (disch:=first|assumption|omega|(simp[*]<;>omega)|fail) []
 termination_by N - i
theorem c_zz79 (N:Nat) (h:VH) (hn:nro≤h.length) (h1:N≤62):
  vcall F nro k_zz79 [.int .i64 N] h=some (.slice (some ⟨h.length,0,none⟩) N N,h++ [⟨1,ints (rng N)⟩]):=by
 refine v_zz79 (by simp[i_zz79]) ?_
 rw[fbody_eq]
 have hl:=l_zz79 (nro:=nro) N h hn h1 [] 0 (by omega)
 simp at hl
 simp (disch:=first|assumption|omega|(simp[*]<;>omega)|fail) [i_zz79,hl,hn]
theorem sli_part {h:VH} {b N:Nat} {r ys:List Int} (hb:h[b]? =some ⟨1,ints r⟩) (hr:r.length=N) (hy:r.take ys.length=ys) (hle:ys.length≤N):Sli h (.slice (some ⟨b,0,none⟩) ys.length N) ys:=by
 have e:List.take ys.length (ints r)=ints ys:=by
  conv=>rhs;rw[←hy]
  unfold ints
  rw[List.map_take]
 unfold Sli Sl
 rw[vsrc_ref]
 dsimp only
 rw[hb]
 dsimp only
 rw[if_pos ⟨rfl,by rw[ints_length,hr],by omega⟩,Nat.mul_one,List.drop_zero,e,ints_length]
end

/- Colours told anew: the numbers from 0 on. -/
section
open Go
variable {nro:Nat}
theorem updL_updL (c:Nat→List Int) (i:Nat) (l l' :List Int):updL (updL c i l) i l' =updL c i l' :=by
 funext j
 unfold updL
 split<;>rfl
theorem updL_at (c:Nat→List Int) (i:Nat) (l:List Int):updL c i l i=l:=by simp[updL]
theorem updL_ne (c:Nat→List Int) {i j:Nat} (l:List Int) (h:j≠i):updL c i l j=c j:=by simp[updL,h]
theorem updL_self (c:Nat→List Int) (i:Nat):updL c i (c i)=c:=by
 funext j
 unfold updL
 split
 ·rename_i e;rw[e]
 ·rfl
section
variable {K n a bg bc:Nat} {q:Nat→Nat} {rs:Nat→Value} {rows:Nat→List Int} {gcs:List Value} {Hc:(Nat→List Int)→VH} (E:RG nro K n a bg bc q rs rows gcs Hc)
include E
section
variable {D Z:List Int} {N:Nat} (hDZ:(D++Z).length=N) (hN:N≤200)
include hDZ hN
theorem l_compact_1 (cI c:Nat→List Int) (i:Nat) (hi:i<K) (hci:(c i).length=n):
  ∃l:List Int,l=(c i).map (fun x=>idxF D x 0)∧
  floop (vcall F nro) nro [2,4,19,20,21,25,26,27] i_zz40_B1 (Hc c++ [⟨1,ints (D++Z)⟩]) [.slice (some ⟨(Hc cI).length,0,none⟩) D.length N,.slice (some ⟨q i,0,none⟩) n n,.slice (some ⟨bc,0,none⟩) K K,.int .i64 K,.int .i64 i,.slice (some ⟨q i,0,none⟩) n n,.int .i64 n,.int .i64 0] (Hc c++ [⟨1,ints (D++Z)⟩])=
   some (.exit 2,fl [(2,.slice (some ⟨(Hc cI).length,0,none⟩) D.length N),(19,.slice (some ⟨bc,0,none⟩) K K),(20,.int .i64 K),(21,.int .i64 i)],Hc (updL c i l)++ [⟨1,ints (D++Z)⟩]):=by
 have h62:n≤62:=(E.rok i hi).le
 have lq: ∀d,q i<(Hc d).length:=fun d=>E.lq d hi
 have lbc: ∀d,bc<(Hc d).length:=fun d=>E.lbc d
 have hlen:=fun d=>E.len d cI
 have nq:=E.nq i hi
 refine Exists.elim (for_upR (call:=vcall F nro) (nro:=nro) (live:= [2,4,19,20,21,25,26,27]) (c:=i_zz40_B1) (h0:=Hc c++ [⟨1,ints (D++Z)⟩]) (n:=n)
  (fun v (_:List Int)=> [.slice (some ⟨(Hc cI).length,0,none⟩) D.length N,.slice (some ⟨q i,0,none⟩) n n,.slice (some ⟨bc,0,none⟩) K K,.int .i64 K,.int .i64 i,.slice (some ⟨q i,0,none⟩) n n,.int .i64 n,.int .i64 v])
  (fun _ l=>Hc (updL c i l)++ [⟨1,ints (D++Z)⟩]) (fun v l=>l.length=n∧ ∀u,u<n→l.getD u 0=if u<v then idxF D ((c i).getD u 0) 0 else(c i).getD u 0)
  (fun l=>some (.exit 2,fl [(2,.slice (some ⟨(Hc cI).length,0,none⟩) D.length N),(19,.slice (some ⟨bc,0,none⟩) K K),(20,.int .i64 K),(21,.int .i64 i)],Hc (updL c i l)++ [⟨1,ints (D++Z)⟩])) ?_ ?_ 0 (c i) (Nat.zero_le _) ⟨hci,fun u hu=>by rw[if_neg (by omega)]⟩) ?_
 ·rintro v l hv hv2 ⟨hl,hI⟩
  have hlv:=hI v hv
  rw[if_neg (by omega)]at hlv
  refine⟨l.set v (idxF D ((c i).getD v 0) 0),⟨by rw[List.length_set,hl],fun u hu=> ?_⟩,?_⟩
  ·rw[set_getD (by omega)]
   by_cases e:u=v
   ·subst e;rw[if_pos rfl,if_pos (by omega)]
   ·rw[if_neg e,hI u hu]
    by_cases e2:u<v
    ·rw[if_pos e2,if_pos (by omega)]
    ·rw[if_neg e2,if_neg (by omega)]
  ·have hb:(Hc (updL c i l)++ [(⟨1,ints (D++Z)⟩:VO)])[(Hc cI).length]? =some ⟨1,ints (D++Z)⟩:=by rw[←hlen (updL c i l),hget0];rfl
   have sD:=sli_part hb hDZ (ys:=D) (by simp) (by rw[←hDZ];simp)
   have k1:=c_slices_Index (nro:=nro) _ D ((c i).getD v 0) _ sD (by rw[List.length_append]at hDZ;omega)
   have hq:=E.lt (updL c i l) (E.aq (updL c i l) i hi) [⟨1,ints (D++Z)⟩]
   rw[updL_at]at hq
   have hset:=E.setA (updL c i l) [⟨1,ints (D++Z)⟩] i (l.set v (idxF D ((c i).getD v 0) 0)) hi
   rw[updL_updL]at hset
   have tk:=take1_ints (xs:=l) (j:=v) (by omega)
   have sp:=splice_ints (xs:=l) (j:=v) (v:=idxF D ((c i).getD v 0) 0) (by omega)
   rw[←getD_at,hlv]at tk
   have hil:(ints l).length=n:=by rw[ints_length,hl]
   have hcl: ∀vs,(∀w∈vs,Old ((Hc cI).length+1) w)→kclean (Hc c++ [⟨1,ints (D++Z)⟩]) vs (Hc (updL c i (l.set v (idxF D ((c i).getD v 0) 0)))++ [⟨1,ints (D++Z)⟩])=(vs,Hc (updL c i (l.set v (idxF D ((c i).getD v 0) 0)))++ [⟨1,ints (D++Z)⟩]):=fun vs hvs=>by
    have:=cleanup_upd (L:= []) ((E.upd c (updL c i (l.set v (idxF D ((c i).getD v 0) 0)))).appR [⟨1,ints (D++Z)⟩]) (vs:=vs) (by
     rw[List.length_append,E.len c cI];exact hvs)
    rwa [List.append_nil]at this
   have w1:IntKind.i64.wrap ((v:Int)+1)=(v:Int)+1:=wrap64 (by omega) (by omega)
   have lq1:q i<(Hc cI).length:=lq cI
   have lbc1:bc<(Hc cI).length:=lbc cI
   generalize idxF D ((c i).getD v 0) 0=y at *
   generalize(c i).getD v 0=x at *
   have hsi:(ints (l.set v y)).length=n:=by rw[ints_length,List.length_set,hl]
   generalize Hc (updL c i (l.set v y))++ [(⟨1,ints (D++Z)⟩:VO)]=G1 at *
   generalize Hc (updL c i l)++ [(⟨1,ints (D++Z)⟩:VO)]=G at *
   generalize Hc c++ [(⟨1,ints (D++Z)⟩:VO)]=G0 at *
   generalize(Hc cI).length=b at *
   clear E hI sD hb hlv hlen lq lbc
   rw[floop_at i_zz40_B1.eq_1]
   simp (disch:=first|assumption|omega|(simp[*]<;>omega)|fail) [-getElem?_pos,gz_,gs_,hv,hv2,hq,hset,tk,sp,hil,k1,w1,hcl,nq,lq1,lbc1]
 ·rintro l _
  have lq1:q i<(Hc cI).length:=lq cI
  have lbc1:bc<(Hc cI).length:=lbc cI
  have e0:(Hc c++ [(⟨1,ints (D++Z)⟩:VO)]).length=(Hc cI).length+1:=by rw[List.length_append,E.len c cI];rfl
  generalize Hc (updL c i l)++ [(⟨1,ints (D++Z)⟩:VO)]=G at *
  generalize Hc c++ [(⟨1,ints (D++Z)⟩:VO)]=G0 at *
  generalize(Hc cI).length=b at *
  rw[floop_at i_zz40_B1.eq_1]
  clear E hlen lq lbc
  simp (disch:=first|assumption|omega|(simp[*]<;>omega)|fail) [-getElem?_pos,gz_,gs_,lq1,lbc1,e0]
 ·rintro l ⟨⟨h1,h2⟩,hf⟩
  refine⟨(c i).map (fun x=>idxF D x 0),rfl,?_⟩
  have e:l=(c i).map (fun x=>idxF D x 0):=by
   apply List.ext_getElem (by simp[h1,hci])
   intro u p1 p2
   have:=h2 u (by omega)
   rw[if_pos (by omega),getD_at _ p1,getD_at _ (by omega)]at this
   rw[this]
   simp
  rw[←e]
  rw[updL_self]at hf
  exact hf
theorem l_compact_2 (cI:Nat→List Int) (hci: ∀i,i<K→(cI i).length=n):
  ∃c' :Nat→List Int,(∀i,i<K→c' i=(cI i).map (fun x=>idxF D x 0))∧
  floop (vcall F nro) nro [2,19,20,21] i_zz40_B2 (Hc cI++ [⟨1,ints (D++Z)⟩]) [.slice (some ⟨(Hc cI).length,0,none⟩) D.length N,.slice (some ⟨bc,0,none⟩) K K,.int .i64 K,.int .i64 0] (Hc cI++ [⟨1,ints (D++Z)⟩])=
   some (.exit 0,fl [],Hc c' ++ [⟨1,ints (D++Z)⟩]):=by
 have hK2:=E.K2
 have lbc: ∀d,bc<(Hc d).length:=fun d=>E.lbc d
 have hlen:=fun d=>E.len d cI
 refine Exists.elim (for_upR (call:=vcall F nro) (nro:=nro) (live:= [2,19,20,21]) (c:=i_zz40_B2) (h0:=Hc cI++ [⟨1,ints (D++Z)⟩]) (n:=K)
  (fun i (_:Nat→List Int)=> [.slice (some ⟨(Hc cI).length,0,none⟩) D.length N,.slice (some ⟨bc,0,none⟩) K K,.int .i64 K,.int .i64 i])
  (fun _ c=>Hc c++ [⟨1,ints (D++Z)⟩]) (fun i c=> ∀j,j<K→c j=if j<i then(cI j).map (fun x=>idxF D x 0)else cI j)
  (fun c=>some (.exit 0,fl [],Hc c++ [⟨1,ints (D++Z)⟩])) ?_ ?_ 0 cI (Nat.zero_le _) (fun j hj=>by rw[if_neg (by omega)])) ?_
 ·rintro i c hi hi2 hI
  have hcl0:=hI i hi
  rw[if_neg (by omega)]at hcl0
  obtain⟨l,hl,l1⟩:=l_compact_1 (nro:=nro) E hDZ hN cI c i hi (by rw[hcl0];exact hci i hi)
  refine⟨updL c i l,fun j hj=> ?_,?_⟩
  ·by_cases e:j=i
   ·subst e;rw[updL_at,if_pos (by omega),hl,hcl0]
   ·rw[updL_ne _ _ e,hI j hj]
    by_cases e2:j<i
    ·rw[if_pos e2,if_pos (by omega)]
    ·rw[if_neg e2,if_neg (by omega)]
  ·have hac:=E.lt c (E.ac c) [⟨1,ints (D++Z)⟩]
   have hcc:=E.ccell i hi
   have haq:=E.lt c (E.aq c i hi) [⟨1,ints (D++Z)⟩]
   rw[hcl0]at haq
   have hil:(ints (cI i)).length=n:=by rw[ints_length,hci i hi]
   have lq1:q i<(Hc cI).length:=E.lq cI hi
   have lbc1:bc<(Hc cI).length:=lbc cI
   have w1:IntKind.i64.wrap ((i:Int)+1)=(i:Int)+1:=wrap64 (by omega) (by omega)
   have hcl: ∀vs,(∀w∈vs,Old ((Hc cI).length+1) w)→kclean (Hc cI++ [⟨1,ints (D++Z)⟩]) vs (Hc (updL c i l)++ [⟨1,ints (D++Z)⟩])=(vs,Hc (updL c i l)++ [⟨1,ints (D++Z)⟩]):=fun vs hvs=>by
    have:=cleanup_upd (L:= []) ((E.upd cI (updL c i l)).appR [⟨1,ints (D++Z)⟩]) (vs:=vs) (by
     rw[List.length_append];exact hvs)
    rwa [List.append_nil]at this
   have e0:(Hc c++ [(⟨1,ints (D++Z)⟩:VO)]).length=(Hc cI).length+1:=by rw[List.length_append,E.len c cI];rfl
   obtain⟨cl,hclx⟩: ∃cl,cl=(List.range K).map fun i=>(Value.slice (some ⟨q i,0,none⟩) n n):=⟨_,rfl⟩
   have hcll:cl.length=K:=by rw[hclx];simp
   rw[←hclx]at hac hcc
   generalize Hc (updL c i l)++ [(⟨1,ints (D++Z)⟩:VO)]=G1 at *
   generalize Hc c++ [(⟨1,ints (D++Z)⟩:VO)]=G at *
   generalize Hc cI++ [(⟨1,ints (D++Z)⟩:VO)]=G0 at *
   generalize(Hc cI).length=b at *
   clear E hI hl hlen lbc hcl0 hci hclx
   rw[floop_at i_zz40_B2.eq_1]
   simp (disch:=first|assumption|omega|(simp[*]<;>omega)|fail) [-getElem?_pos,gz_,gs_,hi,hi2,hac,hcc,haq,hil,hcll,l1,w1,hcl,lq1,lbc1,e0]
 ·rintro c _
  rw[floop_at i_zz40_B2.eq_1]
  generalize Hc c++ [(⟨1,ints (D++Z)⟩:VO)]=G at *
  generalize Hc cI++ [(⟨1,ints (D++Z)⟩:VO)]=G0 at *
  clear E hlen lbc
  simp (disch:=first|assumption|omega|(simp[*]<;>omega)|fail) [-getElem?_pos,gz_,gs_,]
 ·rintro c ⟨h1,hf⟩
  refine⟨c,fun i hi=> ?_,hf⟩
  rw[h1 i hi,if_pos hi]
end
def allC (K:Nat) (c:Nat→List Int):List Int:=((List.range K).map c).flatten
def dstC (K:Nat) (c:Nat→List Int):List Int:=ddN (insS 0 (allC K c).length (allC K c)) (allC K c).length
theorem allC_len (c:Nat→List Int) (hc: ∀i,i<K→(c i).length=n):(allC K c).length=K * n:=by
 have e: ∀k,k≤K→(((List.range k).map c).flatten).length=k * n:=by
  intro k
  induction k with
  | zero => simp
  | succ k ih =>
   intro hk
   rw[List.range_succ,List.map_append,List.flatten_append,List.length_append,ih (by omega)]
   simp[hc k (by omega),Nat.add_mul]
 exact e K (Nat.le_refl _)
theorem c_zz40 (c:Nat→List Int) (hc: ∀i,i<K→(c i).length=n):
  ∃c' :Nat→List Int,(∀i,i<K→c' i=(c i).map (fun x=>idxF (dstC K c) x 0))∧vcall F nro k_zz40 [.pointer (some ⟨a,0,some 2⟩)] (Hc c)=some (.tuple #[],Hc c'):=by
 have hK1:=E.K1
 have hK2:=E.K2
 have hn1:=E.n1
 have h62:n≤62:=(E.rok 0 (by omega)).le
 have hnr:=E.nr c
 have hal:=allC_len E c hc
 have hal1:1≤K * n:=Nat.mul_le_mul hK1 hn1
 have hal2:K * n≤2 * 62:=Nat.mul_le_mul hK2 h62
 have hLL:LL (Hc c) (.slice (some ⟨bc,0,none⟩) K K) ((List.range K).map c):=by
  refine⟨(List.range K).map fun i=> .slice (some ⟨q i,0,none⟩) n n,by simp,?_,fun i hi=> ?_⟩
  ·unfold Sl
   rw[vsrc_ref]
   simp only[E.ac c]
   simp
   exact List.take_of_length_le (by simp)
  ·have hi' :i<K:=by simpa using hi
   have:=sli_at (E.aq c i hi')
   rw[hc i hi']at this
   rw[getD_atG (by simpa using hi')]
   simpa using this
 have k1:=c_slices_Concat (nro:=nro) hLL hnr (by show 1≤(allC K c).length;omega) (by show(allC K c).length≤4000;omega) (by simp;omega)
 have k1:vcall F nro k_zz30 [.slice (some ⟨bc,0,none⟩) K K] (Hc c)=some (.slice (some ⟨(Hc c).length,0,none⟩) (allC K c).length (allC K c).length,Hc c++ [⟨1,ints (allC K c)⟩]):=k1
 have k2:=c_Sort (nro:=nro) (G:=Hc c++ [⟨1,ints (allC K c)⟩]) (blk:=(Hc c).length) (xs:=allC K c) (by simp) hnr (by omega)
 have hsl:(insS 0 (allC K c).length (allC K c)).length=(allC K c).length:=insS_length _ _ _
 have k3:=c_Compact (nro:=nro) (G:=Hc c++ [⟨1,ints (insS 0 (allC K c).length (allC K c))⟩]) (blk:=(Hc c).length) (xs:=insS 0 (allC K c).length (allC K c)) (by simp) hnr (by omega) (by omega)
 rw[hsl]at k3
 have hdl:(dstC K c).length≤(allC K c).length:=ddN_le _ _
 have k3:vcall F nro k_zz26 [.slice (some ⟨(Hc c).length,0,none⟩) (allC K c).length (allC K c).length] (Hc c++ [⟨1,ints (insS 0 (allC K c).length (allC K c))⟩])=some (.slice (some ⟨(Hc c).length,0,none⟩) (dstC K c).length (allC K c).length,(Hc c++ [(⟨1,ints (insS 0 (allC K c).length (allC K c))⟩:VO)]).set (Hc c).length ⟨1,ints (dstC K c++List.replicate ((allC K c).length - (dstC K c).length) 0)⟩):=k3
 obtain⟨c',h1,l2⟩:=l_compact_2 (nro:=nro) E (D:=dstC K c) (Z:=List.replicate ((allC K c).length - (dstC K c).length) 0) (N:=(allC K c).length) (by simp;omega) (by omega) c hc
 refine⟨c',h1,?_⟩
 have lax:=E.lax c
 have lbc:=E.lbc c
 have hax:=E.ax c
 have hax' :=fun L=>E.lt c (E.ax c) L
 have hac:=fun L=>E.lt c (E.ac c) L
 have hfin: ∀L:VH,kclean (Hc c) [.tuple #[]] (Hc c' ++L)=([.tuple #[]],Hc c'):=fun L=>cleanup_upd (E.upd c c') (by intro w hw;simp at hw;subst hw;intro r hr;simp[trefs,vrefs,crefs,arefs]at hr)
 have hn' :=fun k=>Nat.le_trans hnr (Nat.le_add_right (Hc c).length k)
 obtain⟨cl,hclx⟩: ∃cl,cl=(List.range K).map fun i=>(Value.slice (some ⟨q i,0,none⟩) n n):=⟨_,rfl⟩
 have hcll:cl.length=K:=by rw[hclx];simp
 rw[←hclx]at hac
 refine v_zz40 (by simp[i_zz40]) ?_
 rw[fbody_eq]
 generalize insS 0 (allC K c).length (allC K c)=u1 at *
 generalize dstC K c++List.replicate ((allC K c).length - (dstC K c).length) 0=u2 at *
 generalize(dstC K c).length=d at *
 generalize allC K c=u0 at *
 generalize u0.length=N at *
 generalize Hc c' =Y at *
 clear E hLL h1 hc hclx hsl
 generalize Hc c=X at *
 simp at k2 k3
 simp (disch:=first|assumption|omega|(simp[*]<;>omega)|fail) [-getElem?_pos,gz_,gs_,i_zz40,hax,hax',hac,hcll,k1,k2,k3,l2,hfin,hn',hnr,lax,lbc,fresults,fresL,fres1]
end
end

/- Renumberings that lead vertices to others. -/
section
open Go
open Classical
variable {nro:Nat}
theorem mem_allC {K:Nat} {c:Nat→List Int} {x:Int}:x∈allC K c↔ ∃i,i<K∧x∈c i:=by
 unfold allC
 rw[List.mem_flatten]
 constructor
 ·rintro⟨l,hl,hx⟩
  obtain⟨i,hi,rfl⟩:=List.mem_map.mp hl
  exact⟨i,List.mem_range.mp hi,hx⟩
 ·rintro⟨i,hi,hx⟩
  exact⟨c i,List.mem_map.mpr ⟨i,List.mem_range.mpr hi,rfl⟩,hx⟩
theorem dstC_ok {K:Nat} {c:Nat→List Int}:(dstC K c).Pairwise (· < ·)∧ ∀x,x∈dstC K c↔x∈allC K c:=by
 have hs:=insS_sorted (a:=0) (b:=(allC K c).length) (xs:=allC K c) (Nat.le_refl _)
 have hl:(insS 0 (allC K c).length (allC K c)).length=(allC K c).length:=insS_length _ _ _
 obtain⟨h1,h2⟩:=ddN_ok (xs:=insS 0 (allC K c).length (allC K c)) (by rw[hl];exact hs) (allC K c).length (by rw[hl];exact Nat.le_refl _)
 refine⟨h1,fun x=>(h2 x).trans ?_⟩
 have hp:=insS_perm (a:=0) (b:=(allC K c).length) (xs:=allC K c) (Nat.le_refl _)
 rw[←hp.mem_iff]
 constructor
 ·rintro⟨q,hq,rfl⟩
  rw[getD_at _ (by omega)]
  exact List.getElem_mem _
 ·intro hx
  obtain⟨q,hq,e⟩:=List.getElem_of_mem hx
  exact⟨q,by omega,by rw[getD_at _ hq];exact e⟩
theorem idx_of {D:List Int} {x:Int} (hx:x∈D):0≤idxF D x 0∧idxF D x 0<D.length∧D.getD (idxF D x 0).toNat 0=x:=by
 obtain⟨i0,i3⟩:=idxF_neg D x _ 0 rfl
 have h0: ¬idxF D x 0<0:=fun hneg=>by
  obtain⟨j,hj,hje⟩:=List.getElem_of_mem hx
  exact i0 hneg j (Nat.zero_le _) hj (by rw[getD_at _ hj];exact hje)
 obtain⟨i1,i2⟩:=i3 h0
 exact⟨by omega,i1,i2⟩
theorem idx_inj {D:List Int} {x y:Int} (hx:x∈D) (hy:y∈D):idxF D x 0=idxF D y 0↔x=y:=by
 refine⟨fun e=> ?_,fun e=>by rw[e]⟩
 have h1:=(idx_of hx).2.2
 rw[e,(idx_of hy).2.2]at h1
 exact h1.symm
theorem idx_at {D:List Int} (hp:D.Pairwise (· < ·)) {k:Nat} (hk:k<D.length):idxF D D[k] 0=k:=by
 obtain⟨h1,h2,h3⟩:=idx_of (List.getElem_mem hk)
 have hb:(idxF D D[k] 0).toNat<D.length:=by omega
 rw[getD_at _ hb]at h3
 have hpe:=List.pairwise_iff_getElem.mp hp
 rcases Nat.lt_trichotomy (idxF D D[k] 0).toNat k with c|c|c
 ·have:=hpe _ _ hb hk c;omega
 ·omega
 ·have:=hpe _ _ hk hb c;omega
section
variable {K n:Nat} {c c' :Nat→List Int} (hl: ∀i,i<K→(c i).length=n) (hc: ∀i,i<K→c' i=(c i).map (fun x=>idxF (dstC K c) x 0))
include hl hc
theorem comp_getD {i v:Nat} (hi:i<K) (hv:v<n):(c' i).getD v 0=idxF (dstC K c) ((c i).getD v 0) 0∧(c i).getD v 0∈dstC K c:=by
 have h1:=hl i hi
 refine⟨?_,(dstC_ok.2 _).mpr (mem_allC.mpr ⟨i,hi,?_⟩)⟩
 ·rw[hc i hi,getD_at _ (by simp;omega),getD_at _ (by omega)]
  simp
 ·rw[getD_at _ (by omega)]
  exact List.getElem_mem _
theorem comp_eq {i v j w:Nat} (hi:i<K) (hv:v<n) (hj:j<K) (hw:w<n):(c' i).getD v 0=(c' j).getD w 0↔(c i).getD v 0=(c j).getD w 0:=by
 obtain⟨a1,a2⟩:=comp_getD hl hc hi hv
 obtain⟨b1,b2⟩:=comp_getD hl hc hj hw
 rw[a1,b1]
 exact idx_inj a2 b2
theorem comp_ok (hn:1≤n) (hK:1≤K) (hK2:K≤2) (hn62:n≤62):CL K n c' ∧SurC K n c' :=by
 have hlen: ∀i,i<K→(c' i).length=n:=fun i hi=>by rw[hc i hi,List.length_map,hl i hi]
 have hal:(allC K c).length=K * n:=by
  have e: ∀k,k≤K→(((List.range k).map c).flatten).length=k * n:=by
   intro k
   induction k with
   | zero => simp
   | succ k ih =>
    intro hk
    rw[List.range_succ,List.map_append,List.flatten_append,List.length_append,ih (by omega)]
    simp[hl k (by omega),Nat.add_mul]
  exact e K (Nat.le_refl _)
 have hD:(dstC K c).length≤K * n:=by rw[←hal];exact ddN_le _ _
 have hKn:K * n≤2 * 62:=Nat.mul_le_mul hK2 hn62
 have hge: ∀i,i<K→ ∀x∈c' i,0≤x∧x<(dstC K c).length:=fun i hi x hx=>by
  obtain⟨v,hv,rfl⟩:=List.getElem_of_mem hx
  have hv2:v<n:=by rw[←hlen i hi];exact hv
  obtain⟨a1,a2⟩:=comp_getD hl hc hi hv2
  rw[←getD_at _ hv,a1]
  obtain⟨b1,b2,_⟩:=idx_of a2
  exact⟨b1,b2⟩
 have C:CL K n c' :=⟨hlen,fun i hi x hx=>⟨(hge i hi x hx).1,by have:=(hge i hi x hx).2;omega⟩⟩
 have hD1:1≤(dstC K c).length:=by
  have hx:(c' 0).getD 0 0∈c' 0:=C.getD (by omega) (by omega)
  have:=hge 0 (by omega) _ hx
  omega
 refine⟨C,fun x h0 h1=> ?_⟩
 have hm:manyN K c' ≤(dstC K c).length:=by
  have:=(mxK_le c' ((dstC K c).length - 1) (by omega) K (fun i hi=>C.ne hn i hi)).mpr (fun i hi x hx=>by have:=(hge i hi x hx).2;omega)
  have:=mxK_ge c' K
  unfold manyN
  omega
 obtain⟨k,rfl⟩: ∃k:Nat,x=k:=⟨_,(Int.toNat_of_nonneg h0).symm⟩
 have hk:k<(dstC K c).length:=by omega
 have hmem:=(dstC_ok.2 _).mp (List.getElem_mem hk)
 obtain⟨i,hi,hxi⟩:=mem_allC.mp hmem
 obtain⟨v,hv,e⟩:=List.getElem_of_mem hxi
 have hv2:v<n:=by rw[←hl i hi];exact hv
 refine⟨i,v,hi,hv2,?_⟩
 rw[(comp_getD hl hc hi hv2).1,getD_at _ hv,e,idx_at dstC_ok.1 hk]
end
theorem comp_iso {rows:Nat→List Int} {n:Nat} {c c' :Nat→List Int} (hl: ∀i,i<2→(c i).length=n) (hc: ∀i,i<2→c' i=(c i).map (fun x=>idxF (dstC 2 c) x 0)) (p:Nat→Nat):Iso rows n c p↔Iso rows n c' p:=by
 constructor
 ·intro I
  exact⟨I.lt,I.inj,I.adj,fun v hv=>(comp_eq hl hc (i:=0) (j:=1) (by omega) hv (by omega) (I.lt v hv)).mpr (I.col v hv)⟩
 ·intro I
  exact⟨I.lt,I.inj,I.adj,fun v hv=>(comp_eq hl hc (i:=0) (j:=1) (by omega) hv (by omega) (I.lt v hv)).mp (I.col v hv)⟩
def mkF (n:Nat) (F:List Int):Nat→List Int
 | 0 => List.replicate n 0
 | k + 1 => (mkF n F k).set (F.getD k 0).toNat ((k : Int) + 1)
theorem mkF_len (n:Nat) (F:List Int): ∀k,(mkF n F k).length=n
 | 0 => by simp [mkF]
 | k + 1 => by simp [mkF, mkF_len n F k]
def mkC (n:Nat) (Fr To:List Int):Nat→List Int:=fun i=>if i=0 then mkF n Fr Fr.length else mkF n To Fr.length
abbrev hM (h:VH) (n:Nat) (s t:Value) (d:Nat→List Int):VH:=h++ [⟨0,[.int .i64 n,s]⟩,⟨0,[.int .i64 n,t]⟩,⟨1,ints (d 0)⟩,⟨1,ints (d 1)⟩,⟨1,[.slice (some ⟨h.length+2,0,none⟩) n n,.slice (some ⟨h.length+3,0,none⟩) n n]⟩,⟨2,[.int .i64 n,s,.int .i64 n,t]⟩,⟨0,[.slice (some ⟨h.length+5,0,none⟩) 2 4,.slice (some ⟨h.length+4,0,none⟩) 2 2]⟩]
section
variable {h:VH} {n:Nat} {s t:Value} {r0 r1:List Int} (hs:Sli h s r0) (ht:Sli h t r1) (R0:Rok n r0) (R1:Rok n r1) (hn1:1≤n) (hn:nro≤h.length)
include hs ht R0 R1 hn1 hn
theorem rg_map : RG nro 2 n (h.length + 6) (h.length + 5) (h.length + 4) (fun i => h.length + 2 + i) (fun i => if i = 0 then s else t) (fun i => if i = 0 then r0 else r1) [.int .i64 n, s, .int .i64 n, t] (hM h n s t) where
  nr c:=by unfold hM;simp;omega
  nq i hi:=by omega
  len c c' :=by simp[hM]
  upd c c' :=by
    have e:hM h n s t c' =((hM h n s t c).set (h.length+2) ⟨1,ints (c' 0)⟩).set (h.length+3) ⟨1,ints (c' 1)⟩:=by unfold hM;rw[hsetk,hsetk];rfl
    rw[e]
    exact((Upd.rfl' _).set' (flatO_ints _ _ _)).set' (flatO_ints _ _ _)
  ax c:=by unfold hM;rw[hgetk];rfl
  ag c:=by unfold hM;rw[hgetk];rfl
  gl:=rfl
  ga i hi:=by rcases(show i=0∨i=1 by omega)with rfl|rfl<;>exact⟨rfl,rfl⟩
  ac c:=by unfold hM;rw[hgetk];rfl
  aq c i hi:=by rcases(show i=0∨i=1 by omega)with rfl|rfl<;>(unfold hM;rw[Nat.add_assoc,hgetk];rfl)
  st c i l hi:=by rcases(show i=0∨i=1 by omega)with rfl|rfl<;>(unfold hM;rw[Nat.add_assoc,hsetk];rfl)
  rr c i hi := by rcases (show i = 0 ∨ i = 1 by omega) with rfl | rfl
                  · exact hs.app _
                  · exact ht.app _
  rok i hi := by rcases (show i = 0 ∨ i = 1 by omega) with rfl | rfl
                 · exact R0
                 · exact R1
  n1:=hn1
  K1:=by omega
  K2:=by omega
variable {fs ts:Value} {Fr To:List Int} (hf:Sli h fs Fr) (htt:Sli h ts To) (hFT:Fr.length≤To.length) (hFl:Fr.length≤1000) (hFr: ∀i,i<Fr.length→0≤Fr.getD i 0∧Fr.getD i 0<n∧0≤To.getD i 0∧To.getD i 0<n)
include hf htt hFT hFl hFr
theorem l_zz88:floop (vcall F nro) nro [3,9,29,30,31] i_zz88_B1 (hM h n s t (fun _=>List.replicate n 0)) [ts,.pointer (some ⟨h.length+6,0,some 2⟩),fs,.int .i64 Fr.length,.int .i64 0] (hM h n s t (fun _=>List.replicate n 0))=
  some (.exit 0,fl [(9,.pointer (some ⟨h.length+6,0,some 2⟩))],hM h n s t (mkC n Fr To)):=by
 have key:=for_up (call:=vcall F nro) (nro:=nro) (live:= [3,9,29,30,31]) (c:=i_zz88_B1) (h0:=hM h n s t (fun _=>List.replicate n 0)) (n:=Fr.length)
  (fun i (_:Unit)=> [ts,.pointer (some ⟨h.length+6,0,some 2⟩),fs,.int .i64 Fr.length,.int .i64 i]) (fun i _=>hM h n s t (fun j=>if j=0 then mkF n Fr i else mkF n To i)) (fun _ u=>u) (fun _ _=>True)
  (fun _=>some (.exit 0,fl [(9,.pointer (some ⟨h.length+6,0,some 2⟩))],hM h n s t (mkC n Fr To))) (fun i u hi hi2 _=>⟨trivial,?_⟩) (fun u _=> ?_) 0 () (by omega) trivial
 ·have e0:(fun j:Nat=>if j=0 then mkF n Fr 0 else mkF n To 0)=fun _=>List.replicate n 0:=by
   funext j
   split<;>rfl
  have:=key.1
  simp only[e0,Int.natCast_zero]at this
  exact this
 ·obtain⟨f1,f2,f3,f4⟩:=hFr i hi
  have fx:=fun L=>(hf.app L).vidx (k:= .i64) (j:=(i:Int)) (by omega) (by omega)
  have fl_:=fun L=>(hf.app L).vload hi
  have tx:=fun L=>(htt.app L).vidx (k:= .i64) (j:=(i:Int)) (by omega) (by omega)
  have tl:=fun L=>(htt.app L).vload (j:=i) (by omega)
  rw[←getD_at]at tl fl_
  simp only[Int.toNat_natCast]at fx tx
  obtain⟨x,hx⟩: ∃x:Nat,Fr.getD i 0=x:=⟨_,(Int.toNat_of_nonneg f1).symm⟩
  obtain⟨y,hy⟩: ∃y:Nat,To.getD i 0=y:=⟨_,(Int.toNat_of_nonneg f3).symm⟩
  have g2:x<n:=by rw[hx]at f2;omega
  have g4:y<n:=by rw[hy]at f4;omega
  have m0:=mkF_len n Fr i
  have m1:=mkF_len n To i
  have e1:mkF n Fr (i+1)=(mkF n Fr i).set x ((i:Int)+1):=by rw[mkF,hx,Int.toNat_natCast]
  have e2:mkF n To (i+1)=(mkF n To i).set y ((i:Int)+1):=by rw[mkF,hy,Int.toNat_natCast]
  rw[hx]at f2
  rw[hy]at f4
  simp only[hx]at fl_
  simp only[hy]at tl
  have w1:IntKind.i64.wrap ((i:Int)+1)=(i:Int)+1:=wrap64 (by omega) (by omega)
  have sp0:=splice_ints (xs:=mkF n Fr i) (j:=x) (v:=(i:Int)+1) (by omega)
  have sp1:=splice_ints (xs:=mkF n To i) (j:=y) (v:=(i:Int)+1) (by omega)
  have i0:(ints (mkF n Fr i)).length=n:=by rw[ints_length,m0]
  have i1:(ints (mkF n To i)).length=n:=by rw[ints_length,m1]
  have i2:(ints ((mkF n Fr i).set x ((i:Int)+1))).length=n:=by rw[ints_length,List.length_set,m0]
  have of:=fun k=>hf.oldk (k:=k)
  have ot:=fun k=>htt.oldk (k:=k)
  have hcl:=fun vs (hv: ∀w∈vs,Old (hM h n s t (fun _=>List.replicate n 0)).length w)=>cleanup_upd (L:= []) ((rg_map (nro:=nro) hs ht R0 R1 hn1 hn).upd (fun _=>List.replicate n 0) (fun j=>if j=0 then mkF n Fr (i+1)else mkF n To (i+1))) (vs:=vs) hv
  simp only[List.append_nil]at hcl
  unfold hM at hcl⊢
  simp only[if_pos,if_neg,Nat.one_ne_zero,not_false_eq_true,if_true,if_false]at hcl⊢
  rw[e1,e2]at hcl⊢
  have hn' :=fun k=>Nat.le_trans hn (Nat.le_add_right h.length k)
  generalize(mkF n Fr i).set x ((i:Int)+1)=A1 at *
  generalize(mkF n To i).set y ((i:Int)+1)=B1 at *
  generalize mkF n Fr i=A at *
  generalize mkF n To i=B at *
  generalize List.replicate n (0:Int)=z at *
  simp at hcl
  clear hFr hf htt e1 e2 hs ht R0 R1
  rw[floop_at i_zz88_B1.eq_1]
  simp (disch:=first|assumption|omega|(simp[*]<;>omega)|fail) [hi,hi2,fx,fl_,tx,tl,w1,sp0,sp1,i0,i1,i2,of,ot,hcl,hn',hn,g2,g4]
 ·have e0:(fun j:Nat=>if j=0 then mkF n Fr Fr.length else mkF n To Fr.length)=mkC n Fr To:=rfl
  rw[e0,floop_at i_zz88_B1.eq_1]
  have of:=fun k=>hf.oldk (k:=k)
  have ot:=fun k=>htt.oldk (k:=k)
  unfold hM
  clear hFr hf htt hs ht R0 R1
  simp (disch:=first|assumption|omega|(simp[*]<;>omega)|fail) [of,ot]
theorem c_zz88: ∃pv L,vcall F nro k_zz88 [gv n s,gv n t,fs,ts] h=some (pv,h++L)∧MapRes (fun i=>if i=0 then r0 else r1) n (mkC n Fr To) h.length pv L:=by
 have hn' :=fun k=>Nat.le_trans hn (Nat.le_add_right h.length k)
 have h62:=R0.le
 have E:=rg_map (nro:=nro) hs ht R0 R1 hn1 hn
 have l1:=l_zz88 (nro:=nro) hs ht R0 R1 hn1 hn hf htt hFT hFl hFr
 have hlC: ∀i,i<2→(mkC n Fr To i).length=n:=fun i hi=>by unfold mkC;split<;>exact mkF_len _ _ _
 obtain⟨c1,d1,d2⟩:=c_zz40 E (mkC n Fr To) hlC
 obtain⟨C,S⟩:=comp_ok hlC d1 hn1 (by omega) (by omega) h62
 obtain⟨c2,pv,L,m1,m2⟩:=map_ok (nro:=nro) _ E c1 C S (Nat.le_refl _)
 have hiso:=comp_iso (rows:=fun i=>if i=0 then r0 else r1) hlC d1
 have hl7:(hM h n s t c1).length=h.length+7:=by unfold hM;simp
 rw[hl7]at m2
 have ln:=fun L=>(hf.app L).vlen
 have of:=fun k=>hf.oldk (k:=k)
 have ot:=fun k=>htt.oldk (k:=k)
 have sj:=hs.nj
 have tj:=ht.nj
 have e8:8 * (n:Int)≤140737488355328:=by omega
 have e9:(n:Int)≤140737488355328:=by omega
 have hz1:List.replicate n (Value.int .i64 0)=ints (List.replicate n 0):=by unfold ints;rw[List.map_replicate]
 unfold hM at l1 d2 m1
 simp only at l1
 generalize mkC n Fr To=cc at *
 generalize hzz:List.replicate n (0:Int)=z at *
 have hnil: ∀L:VH,kclean h [.slice none 0 0] (h++L)=([.slice none 0 0],h):=fun L=>cleanup_upd (Upd.rfl' h) (by intro w hw;simp at hw;subst hw;intro r hr;simp[trefs,vrefs,crefs,arefs]at hr)
 rcases m2 with⟨rfl,rfl,hno⟩|⟨p,rfl,rfl,p1,p2,p3⟩
 ·refine⟨.slice none 0 0,[],?_,.inl ⟨rfl,rfl,fun hi=>hno (hi.elim fun p I=>⟨p,(hiso p).mp I⟩)⟩⟩
  refine v_zz88 (by simp[i_zz88]) ?_
  rw[fbody_eq]
  simp at l1 d2 m1 sj tj
  clear E C S d1 hiso hno hlC hs ht R0 R1 hf htt hFr hzz
  simp (disch:=first|assumption|omega|(simp[*]<;>omega)|fail) [i_zz88,ln,of,ot,l1,d2,m1,hnil,e8,e9,hz1,sj,tj,hn',hn,fresults,fresL,fres1]
 ·refine⟨.slice (some ⟨h.length,0,none⟩) n n,[⟨1,ints p⟩],?_,.inr ⟨p,rfl,rfl,p1,p2,(hiso _).mpr p3⟩⟩
  have hfin: ∀(L:VH),L[7]? =some ⟨1,ints p⟩→kclean h [.slice (some ⟨h.length+7,0,none⟩) n n] (h++L)=([.slice (some ⟨h.length,0,none⟩) n n],h++ [⟨1,ints p⟩]):=fun L hL=>by
   rw[cleanup_one_upd (Upd.rfl' h) (k:=7) (by simp[trefs,vrefs,crefs,arefs]) hL (flatO_ints _ _ _)]
   simp[tren,vren,cren,aren,renOf_one]
  have hfin2:=hfin _ (show([⟨0,[.int .i64 n,s]⟩,⟨0,[.int .i64 n,t]⟩,⟨1,ints (c2 0)⟩,⟨1,ints (c2 1)⟩,⟨1,[.slice (some ⟨h.length+2,0,none⟩) n n,.slice (some ⟨h.length+3,0,none⟩) n n]⟩,⟨2,[.int .i64 n,s,.int .i64 n,t]⟩,⟨0,[.slice (some ⟨h.length+5,0,none⟩) 2 4,.slice (some ⟨h.length+4,0,none⟩) 2 2]⟩,⟨1,ints p⟩]:VH)[7]? =some ⟨1,ints p⟩ from rfl)
  refine v_zz88 (by simp[i_zz88]) ?_
  rw[fbody_eq]
  simp at l1 d2 m1 sj tj
  clear E C S d1 hiso hlC hs ht R0 R1 hf htt hFr hzz hfin p2 p3
  simp (disch:=first|assumption|omega|(simp[*]<;>omega)|fail) [i_zz88,ln,of,ot,l1,d2,m1,hfin2,e8,e9,hz1,sj,tj,p1,hn',hn,fresults,fresL,fres1]
end
end

/- Covers; the law of IsCover. -/
section
open Go
variable {nro:Nat}
theorem Sli.nj {h:VH} {v:Value} {xs:List Int} (hs:Sli h v xs):isJunk v=false:=by
 cases v<;>first|rfl|(simp[Sli,Sl,vsrc]at hs)
theorem c_impl_areGraphs2 (n m:Int) (s t:Value) (rows hrows:List Int) (b:Nat) (h:VH) (hs:Sli h s rows) (ht:Sli h t hrows) (hb:h[b]? =some ⟨2,[.int .i64 n,s,.int .i64 m,t]⟩) (hn:nro≤h.length):
  vcall F nro k_zz74 [.slice (some ⟨b,0,none⟩) 2 4] h=some (.bool (open Classical in decide (GV n rows∧GV m hrows)),h):=by
 refine v_zz74 (by simp[i_zz74]) ?_
 rw[fbody_eq]
 have hbl:=(List.getElem?_eq_some_iff.mp hb).1
 have ho: ∀k,Old (h.length+k) (.slice (some ⟨b,0,none⟩) 2 4):=fun k r hr=>by simp[trefs,vrefs,crefs,arefs]at hr;omega
 have ho0:Old h.length (.slice (some ⟨b,0,none⟩) 2 4):=ho 0
 have hn' :=fun k=>Nat.le_trans hn (Nat.le_add_right h.length k)
 clear hbl
 have js:=hs.nj
 have jt:=ht.nj
 unfold isJunk at js jt
 have hc1:=fun L=>c_zz86 (nro:=nro) n s rows (h++L) (hs.app _)
 have hc2:=fun L=>c_zz86 (nro:=nro) m t hrows (h++L) (ht.app _)
 have l2:floop (vcall F nro) nro [5,6,7] i_zz74_B1 h [.slice (some ⟨b,0,none⟩) 2 4,.int .i64 2,.int .i64 2] h=some (.exit 0,fl [],h):=by
  rw[floop_at i_zz74_B1.eq_1]
  simp (disch:=first|assumption|omega|(simp[*]<;>omega)|fail) []
 by_cases g:GV n rows
 ·by_cases gm:GV m hrows
  ·have l1:floop (vcall F nro) nro [5,6,7] i_zz74_B1 h [.slice (some ⟨b,0,none⟩) 2 4,.int .i64 2,.int .i64 1] h=some (.exit 0,fl [],h):=by
    rw[floop_at i_zz74_B1.eq_1]
    simp (disch:=first|assumption|omega|(simp[*]<;>omega)|fail) [hget_old hb,hb,hc2,gm,wrap64,l2,hn',hn,js,jt]
   have l0:floop (vcall F nro) nro [5,6,7] i_zz74_B1 h [.slice (some ⟨b,0,none⟩) 2 4,.int .i64 2,.int .i64 0] h=some (.exit 0,fl [],h):=by
    rw[floop_at i_zz74_B1.eq_1]
    simp (disch:=first|assumption|omega|(simp[*]<;>omega)|fail) [hget_old hb,hb,hc1,g,wrap64,l1,hn',hn,js,jt]
   simp (disch:=first|assumption|omega|(simp[*]<;>omega)|fail) [i_zz74,hb,l0,g,gm]
  ·have l1: ∃M,floop (vcall F nro) nro [5,6,7] i_zz74_B1 h [.slice (some ⟨b,0,none⟩) 2 4,.int .i64 2,.int .i64 1] h=some (.ret,fl [(2,.bool false)],h++M):=by
    refine⟨[⟨0,[.int .i64 m,t]⟩],?_⟩
    rw[floop_at i_zz74_B1.eq_1]
    simp (disch:=first|assumption|omega|(simp[*]<;>omega)|fail) [hget_old hb,hb,hc2,gm,wrap64,hn',hn,js,jt]
   obtain⟨M,l1⟩:=l1
   have l0:floop (vcall F nro) nro [5,6,7] i_zz74_B1 h [.slice (some ⟨b,0,none⟩) 2 4,.int .i64 2,.int .i64 0] h=some (.ret,fl [(2,.bool false)],h++M):=by
    rw[floop_at i_zz74_B1.eq_1]
    simp (disch:=first|assumption|omega|(simp[*]<;>omega)|fail) [hget_old hb,hb,hc1,g,wrap64,l1,hn',hn,js,jt]
   simp (disch:=first|assumption|omega|(simp[*]<;>omega)|fail) [i_zz74,hb,l0,g,gm]
 ·have l0: ∃M,floop (vcall F nro) nro [5,6,7] i_zz74_B1 h [.slice (some ⟨b,0,none⟩) 2 4,.int .i64 2,.int .i64 0] h=some (.ret,fl [(2,.bool false)],h++M):=by
   refine⟨[⟨0,[.int .i64 n,s]⟩],?_⟩
   rw[floop_at i_zz74_B1.eq_1]
   simp (disch:=first|assumption|omega|(simp[*]<;>omega)|fail) [hget_old hb,hb,hc1,g,wrap64,hn',hn,js,jt]
  obtain⟨M,l0⟩:=l0
  simp (disch:=first|assumption|omega|(simp[*]<;>omega)|fail) [i_zz74,hb,l0,g]
end

/- The program's AreIsomorphic. -/
section
open Go
open Classical
variable {nro:Nat}
def two (r0 r1:List Int):Nat→List Int:=fun i=>if i=0 then r0 else r1
def noC (n:Nat):Nat→List Int:=fun _=>List.replicate n 0
noncomputable def isoA (n:Int) (rows:List Int) (m:Int) (hrows:List Int):Bool × Int:=
 if GV n rows∧GV m hrows then(decide (n=m∧HasIso (two rows hrows) n.toNat (noC n.toNat)),0)else(false,1)
theorem mkC_nil (n:Nat):mkC n [] []=noC n:=by
 funext i
 unfold mkC noC
 split<;>rfl
theorem c_zz88_ne (h:VH) (n m:Int) (s t fs ts:Value) (hs:isJunk s=false) (ht:isJunk t=false) (so: ∀k,OldC (h.length+k) s) (to: ∀k,OldC (h.length+k) t) (hne:n≠m):vcall F nro k_zz88 [gv n s,gv m t,fs,ts] h=some (.slice none 0 0,h):=by
 refine v_zz88 (by simp[i_zz88]) ?_
 rw[fbody_eq]
 unfold isJunk at hs ht
 simp (disch:=first|assumption|omega|(simp[*]<;>omega)|fail) [i_zz88,hs,ht,hne,so,to,fresults,fresL,fres1]
theorem c_zz48 (n m:Int) (s t:Value) (rows hrows:List Int) (h:VH) (hs:Sli h s rows) (ht:Sli h t hrows) (hn:nro≤h.length):
  vcall F nro k_zz48 [gv n s,gv m t] h=some (.tuple #[.bool (isoA n rows m hrows).1,.int .i64 (isoA n rows m hrows).2],h):=by
 have hn' :=fun k=>Nat.le_trans hn (Nat.le_add_right h.length k)
 have hsc:=fun k=>hs.oldCk (k:=k)
 have htc:=fun k=>ht.oldCk (k:=k)
 have sj:=hs.nj
 have tj:=ht.nj
 have hA:=c_impl_areGraphs2 (nro:=nro) n m s t rows hrows (h.length+2) (h++ [⟨0,[.int .i64 n,s]⟩,⟨0,[.int .i64 m,t]⟩,⟨2,[.int .i64 n,s,.int .i64 m,t]⟩]) (hs.app _) (ht.app _) (by simp) (by simp;omega)
 have hcl: ∀(L:VH) (b:Bool) (c:Int),kclean h [.tuple #[.bool b,.int .i64 c]] (h++L)=([.tuple #[.bool b,.int .i64 c]],h):=fun L b c=>cleanup_upd (Upd.rfl' h) (by intro w hw;simp at hw;subst hw;intro r hr;simp[trefs,vrefs,crefs,arefs]at hr)
 refine v_zz48 (by simp[i_zz48]) ?_
 rw[fbody_eq]
 by_cases g:GV n rows∧GV m hrows
 ·have ea:isoA n rows m hrows=(decide (n=m∧HasIso (two rows hrows) n.toNat (noC n.toNat)),0):=by unfold isoA;rw[if_pos g]
  rw[decide_eq_true g]at hA
  rw[ea]
  by_cases e:n=m
  ·subst e
   obtain⟨N,rfl⟩: ∃N:Nat,n=N:=⟨n.toNat,by have:=g.1.lo;omega⟩
   rw[Int.toNat_natCast]
   have hlo:=g.1.lo
   obtain⟨pv,L,m1,m2⟩:=c_zz88 (nro:=nro) (h:=h++ [⟨0,[.int .i64 N,s]⟩,⟨0,[.int .i64 N,t]⟩,⟨2,[.int .i64 N,s,.int .i64 N,t]⟩]) (n:=N) (hs.app _) (ht.app _) g.1.rok g.2.rok (by omega) (by simp;omega) (fs:= .slice none 0 0) (ts:= .slice none 0 0) (Fr:= []) (To:= []) (by simp[Sli,Sl,vsrc,ints]) (by simp[Sli,Sl,vsrc,ints]) (by simp) (by simp) (fun i hi=>by simp at hi)
   rw[mkC_nil]at m2
   rcases m2 with⟨rfl,rfl,hno⟩|⟨p,rfl,rfl,p1,p2,p3⟩
   ·have hd:decide ((N:Int)=N∧HasIso (two rows hrows) N (noC N))=false:=decide_eq_false fun h=>hno h.2
    rw[hd]
    clear hs ht g ea hd hno
    simp at m1 sj tj
    simp (disch:=first|assumption|omega|(simp[*]<;>omega)|fail) [i_zz48,hA,m1,hcl,hsc,htc,sj,tj,hn',hn,fresults,fresL,fres1]
   ·have hd:decide ((N:Int)=N∧HasIso (two rows hrows) N (noC N))=true:=decide_eq_true ⟨rfl,_,p3⟩
    rw[hd]
    clear hs ht g ea hd p2 p3
    simp at m1 sj tj
    simp (disch:=first|assumption|omega|(simp[*]<;>omega)|fail) [i_zz48,hA,m1,p1,hcl,hsc,htc,sj,tj,hn',hn,fresults,fresL,fres1]
  ·have m1:=c_zz88_ne (nro:=nro) (h++ [⟨0,[.int .i64 n,s]⟩,⟨0,[.int .i64 m,t]⟩,⟨2,[.int .i64 n,s,.int .i64 m,t]⟩]) n m s t (.slice none 0 0) (.slice none 0 0) sj tj (fun k=>by rw[List.length_append,Nat.add_assoc];exact hsc _) (fun k=>by rw[List.length_append,Nat.add_assoc];exact htc _) e
   have hd:decide (n=m∧HasIso (two rows hrows) n.toNat (noC n.toNat))=false:=decide_eq_false fun h=>e h.1
   rw[hd]
   clear hs ht g ea hd
   simp at m1 sj tj
   simp (disch:=first|assumption|omega|(simp[*]<;>omega)|fail) [i_zz48,hA,m1,hcl,hsc,htc,sj,tj,hn',hn,fresults,fresL,fres1]
 ·have ea:isoA n rows m hrows=(false,1):=by unfold isoA;rw[if_neg g]
  rw[decide_eq_false g]at hA
  rw[ea]
  clear hs ht g ea
  simp at sj tj
  simp (disch:=first|assumption|omega|(simp[*]<;>omega)|fail) [i_zz48,hA,hcl,hsc,htc,sj,tj,hn',hn,fresults,fresL,fres1]
end

/- Closed walks that do not turn back, and the girth. -/
section
open Go
theorem least_gap {x:Nat→Nat} {L:Nat} (h1:1≤L) (h2:x 0=x L): ∃i d,1≤d∧i+d≤L∧x i=x (i+d)∧ ∀i' d',1≤d' →d' <d→i' +d' ≤L→x i' ≠x (i' +d'):=by
 have key: ∀d i,1≤d→i+d≤L→x i=x (i+d)→ ∃i d,1≤d∧i+d≤L∧x i=x (i+d)∧ ∀i' d',1≤d' →d' <d→i' +d' ≤L→x i' ≠x (i' +d'):=by
  intro d
  induction d using Nat.strongRecOn with
  | ind d ih =>
   intro i a1 a2 a3
   by_cases h: ∃i' d',1≤d' ∧d' <d∧i' +d' ≤L∧x i' =x (i' +d')
   ·obtain⟨i',d',b1,b2,b3,b4⟩:=h
    exact ih d' b2 i' b1 b3 b4
   ·exact⟨i,d,a1,a2,a3,fun i' d' b1 b2 b3 b4=>h ⟨i',d',b1,b2,b3,b4⟩⟩
 exact key L 0 h1 (by omega) (by rw[Nat.zero_add];exact h2)
section
variable {n:Nat} {rows:List Int} (g:GV n rows)
include g
theorem ar_of_walk {a b m:Nat} (hab:rbit rows a b=true) (h:Wk (cut2 rows a b) m a b):0<arF rows a b∧arF rows a b≤m+1:=by
 obtain⟨ha,hb⟩:=rbit_lt g.rok hab
 rcases far_dist (cut_rok g ha hb hab).1 ha b with⟨_,h2⟩|⟨d,h1,h2,h3⟩
 ·exact absurd h (h2 m)
 ·unfold arF
  rw[h1]
  have: ¬m<d:=fun hlt=>h3 m hlt h
  omega
theorem gir_of_walk {x:Nat→Nat} {L:Nat} (h1:1≤L) (h2:x 0=x L) (hE: ∀i,i<L→rbit rows (x i) (x (i+1))=true) (hN: ∀i,i+2≤L→x i≠x (i+2)):
  girF rows n 0 0≠0∧girF rows n 0 0≤L:=by
 obtain⟨i,d,d1,d2,d3,d4⟩:=least_gap h1 h2
 have e1:d≠1:=by
  rintro rfl
  have:=hE i (by omega)
  rw[←d3]at this
  exact g.ne this rfl
 have e2:d≠2:=by
  rintro rfl
  exact hN i d2 d3
 have ab:=hE i (by omega)
 have W : ∀ s, s + 1 ≤ d → Wk (cut2 rows (x i) (x (i + 1))) s (x (i + 1)) (x (i + 1 + s)) := by
  intro s
  induction s with
  | zero => intro _; rfl
  | succ s ih =>
   intro hs
   refine⟨x (i+1+s),ih (by omega),(cut_iff g ab _ _).mpr ⟨hE (i+1+s) (by omega),?_⟩⟩
   have k1:x (i+1+s)≠x i:=by
    have:=d4 i (1+s) (by omega) (by omega) (by omega)
    rw[←Nat.add_assoc]at this
    exact fun e=>this e.symm
   rintro(⟨a1,_⟩|⟨a1,a2⟩)
   ·exact k1 a1
   ·rcases Nat.eq_zero_or_pos s with rfl|hp
    ·by_cases h3:d=2
     ·exact e2 h3
     ·have:=d4 i 2 (by omega) (by omega) (by omega)
      exact this a2.symm
    ·have:=d4 (i+1) s hp (by omega) (by omega)
     exact this a1.symm
 have W1:=W (d - 1) (by omega)
 rw[show i+1+(d - 1)=i+d by omega,←d3]at W1
 obtain⟨r1,r2⟩:=ar_of_walk g ab (Wk.symm (fun v w h=>cut_sym g ab v w h) _ _ _ W1)
 have h0:=girF_ge' (rows:=rows) (n:=n) 0 0 (by omega)
 have key: ¬(girF rows n 0 0=0∨(L:Int)+1≤girF rows n 0 0):=by
  rw[gir_min g _ (by omega)]
  intro h
  have:=h _ _ ab
  omega
 omega
omit g in
theorem chn_at {r:Nat→Nat→Prop}: ∀ {l:List Nat} {i:Nat},chn r l→i+1<l.length→r (l.getD i 0) (l.getD (i+1) 0)
 | [], _, _, h => by simp at h
 | [_], _, _, h => by simp at h
 | _ :: _ :: _, 0, hc, _ => hc.1
 | _ :: y :: l, i + 1, hc, h => chn_at (l := y :: l) (i := i) hc.2 (by simpa using h)
theorem cyc_of_gir {L:Nat} (hL:girF rows n 0 0=L) (h0:L≠0):3≤L∧ ∃x:Nat→Nat,(∀i,rbit rows (x i) (x (i+1))=true)∧(∀i,x (i+2)≠x i)∧ ∀i,x (i+L)=x i:=by
 have h3:=gir_3 g hL h0
 obtain⟨p,q,hpq,har⟩:=gir_edge g hL h0
 have hmin:=(gir_min g (L:Int) (by omega)).mp (by omega)
 obtain⟨c1,c2,_⟩:=arN_eq g hpq har h0
 rw[cyE_tup g h3 hmin hpq]at c2
 refine⟨h3,?_⟩
 by_cases hx: ∃l∈tup n L,(Cyc (rr rows) l∧l.getD (L - 1) 0=p)∧l.getD 0 0=q
 ·obtain⟨l,hl,⟨hc,_⟩,_⟩:=hx
  have hll:=(mem_tup.mp hl).1
  have hmod: ∀i,i % L<L:=fun i=>Nat.mod_lt _ (by omega)
  have hsucc: ∀i,(i+1) % L=if i % L+1=L then 0 else i % L+1:=fun i=>by
   have:=hmod i
   rw[Nat.add_mod,Nat.mod_eq_of_lt (show 1<L by omega)]
   split
   ·rename_i h;rw[h,Nat.mod_self]
   ·exact Nat.mod_eq_of_lt (by omega)
  refine⟨fun i=>l.getD (i % L) 0,fun i=> ?_,fun i e=> ?_,fun i=> ?_⟩
  ·have hm:=hmod i
   have key:=chn_at (i:=i % L) hc.ch (by simp only[List.length_append,List.length_take];omega)
   have g1:(l++l.take 1).getD (i % L) 0=l.getD (i % L) 0:=by
    rw[List.getD_eq_getElem?_getD,List.getElem?_append_left (by omega),←List.getD_eq_getElem?_getD]
   have g2:(l++l.take 1).getD (i % L+1) 0=l.getD ((i+1) % L) 0:=by
    rw[hsucc]
    split
    ·rename_i h
     rw[List.getD_eq_getElem?_getD,List.getElem?_append_right (by omega),show i % L+1 - l.length=0 by omega,List.getElem?_take_of_lt (by omega),←List.getD_eq_getElem?_getD]
    ·rw[List.getD_eq_getElem?_getD,List.getElem?_append_left (by omega),←List.getD_eq_getElem?_getD]
   rw[g1,g2]at key
   exact key
  ·have hm:=hmod i
   have hm2:=hmod (i+2)
   simp only[List.getD_eq_getElem?_getD]at e
   rw[List.getElem?_eq_getElem (by omega),List.getElem?_eq_getElem (by omega)]at e
   have:=nodup_at hc.nd (i:=(i+2) % L) (j:=i % L) (by omega) (by omega) (by simpa using e)
   have s1:=hsucc i
   have s2:=hsucc (i+1)
   rw[show i+1+1=i+2 by omega,s1,this]at s2
   split at s2<;>split at s2<;>omega
  ·show l.getD ((i+L) % L) 0=_
   rw[Nat.add_mod_right]
 ·rw[cn_none fun l hl hp=>hx ⟨l,hl,hp⟩]at c2
  omega
end
end

/- The first cage graph: the program. -/
section
open Go
variable {nro:Nat}
attribute [simp] isAtom
@[simp] theorem vcells_func (f : Fn) (a b : Array Value) : vcells (.func f a b) = [.func f a b] := rfl
@[simp] theorem vcells_nilFunc : vcells .nilFunc = [.nilFunc] := rfl
end

/- The laws of FirstRegular and LeastVertices. -/
section
open Go
variable {nro:Nat}
def leastV:Unit ⊕ (Nat × List Int)→Int × Int
 | .inl _ => (0, 4)
 | .inr p => (p.1, 0)
def leastX (h:VH):Unit ⊕ (Nat × List Int)→Option (VX × FE × VH)
 | .inl _ => some (.exit 0, fl [], h)
 | .inr p => some (.ret, fl [(4, .int .i64 p.1), (5, .int .i64 0)], h ++ [⟨1, ints p.2⟩, ⟨0, [.int .i64 p.1, .slice (some ⟨h.length, 0, none⟩) p.1 p.1]⟩])
@[simp] theorem leastV_inl (x : Unit) : leastV (.inl x) = (0, 4) := rfl
@[simp] theorem leastV_inr (i : Nat) (r : List Int) : leastV (.inr (i, r)) = ((i : Int), 0) := rfl
@[simp] theorem leastX_inl (h : VH) (x : Unit) : leastX h (.inl x) = some (.exit 0, fl [], h) := rfl
@[simp] theorem leastX_inr (h : VH) (i : Nat) (r : List Int) : leastX h (.inr (i, r)) = some (.ret, fl [(4, .int .i64 i), (5, .int .i64 0)], h ++ [⟨1, ints r⟩, ⟨0, [.int .i64 i, .slice (some ⟨h.length, 0, none⟩) i i]⟩]) := rfl
end

/- Regular graphs: degrees' least and greatest; lists alike; a cage graph fits. -/
section
open Go
variable {nro:Nat}
def mnL (m:Int):List Int→Int
 | [] => m
 | x :: l => mnL (if x < m then x else m) l
theorem l_slices_Min (h:VH) (s:Value) (xs:List Int) (hs:Sli h s xs) (hl:xs.length≤1000) (k j:Nat) (hk:k=xs.length - j) (hj:j≤xs.length) (m:Int):
    floop (vcall F nro) nro [0,3,4] i_zz39_B1 h [s,.int .i64 m,.int .i64 j] h=some (.exit 0,fl [(3,.int .i64 (mnL m (xs.drop j)))],h):=by
  have hso:=hs.old
  rw[floop_at i_zz39_B1.eq_1]
  by_cases hlt:j<xs.length
  · have hlt' : (j : Int) < xs.length := by omega
    have vl:=hs.vlen
    have vx:=hs.vidx (k:= .i64) (j:=(j:Int)) (by omega) hlt'
    have vd:=hs.vload hlt
    have ih:=l_slices_Min h s xs hs hl (k - 1) (j+1) (by omega) hlt (if xs[j]<m then xs[j]else m)
    rw[show((j+1:Nat):Int)=(j:Int)+1 by omega]at ih
    rw[List.drop_eq_getElem_cons hlt,mnL]
    obtain⟨x,hx⟩: ∃x,x=xs[j]:=⟨_,rfl⟩
    rw[←hx]at vd ih⊢
    by_cases c1:x<m
    · rw [if_pos c1] at ih ⊢
      simp (disch:=first|assumption|omega|(simp[*]<;>omega)|fail) [wrap64,hlt',vl,vx,vd,ih,c1,vminmax,vminmaxL,vminmax2]
    · rw [if_neg c1] at ih ⊢
      simp (disch:=first|assumption|omega|(simp[*]<;>omega)|fail) [wrap64,hlt',vl,vx,vd,ih,c1,vminmax,vminmaxL,vminmax2]
  · have hlt' : ¬ (j : Int) < xs.length := by omega
    have vl:=hs.vlen
    rw[List.drop_eq_nil_of_le (by omega),mnL]
    simp (disch:=first|assumption|omega|(simp[*]<;>omega)|fail) [hlt',vl]
 termination_by k
 decreasing_by omega
theorem c_slices_Min (s:Value) (x:Int) (xs:List Int) (h:VH) (hs:Sli h s (x::xs)) (hl:xs.length≤999):
  vcall F nro k_zz39 [s] h=some (.int .i64 (mnL x xs),h):=by
 refine v_zz39 (by simp[i_zz39]) ?_
 rw[fbody_eq]
 have vl:=hs.vlen
 have vx:=hs.vidx (k:= .i64) (j:=0) (by omega) (by simp)
 have vd:=hs.vload (j:=0) (by simp)
 have lp:=l_slices_Min (nro:=nro) h s (x::xs) hs (by simp;omega) xs.length 1 (by simp) (by simp) x
 rw[List.drop_succ_cons,List.drop_zero]at lp
 simp only[Int.natCast_one]at lp
 simp at vl vd
 have e: ¬((xs.length:Int)+1<1):=by omega
 obtain⟨q,hq⟩: ∃q,q=mnL x xs:=⟨_,rfl⟩
 rw[←hq]at lp⊢
 clear hq
 simp (disch:=first|assumption|omega|(simp[*]<;>omega)|fail) [i_zz39,vl,vx,vd,lp,e]
theorem l_zz81 (s t:Value) (xs ys:List Int) (h:VH) (hs:Sli h s xs) (ht:Sli h t ys) (h3:xs.length≤9223372036854775806) (hl:xs.length=ys.length):
  floop (vcall F nro) nro [0,1,5] i_zz81_B1 h [s,t,.int .i64 0] h=if xs=ys then some (.exit 0,fl [],h)else some (.ret,fl [(4,.bool false)],h):=by
 have key:=search (fun i=>floop (vcall F nro) nro [0,1,5] i_zz81_B1 h [s,t,.int .i64 i] h) (fun i=>xs.getD i.toNat 0≠ys.getD i.toNat 0) (some (.ret,fl [(4,.bool false)],h)) (some (.exit 0,fl [],h)) xs.length 0 ?_ ?_ 0 (by omega)
 ·rw[key]
  by_cases e:xs=ys
  ·rw[if_pos e,if_neg]
   rintro⟨j,_,_,hj⟩
   exact hj (by rw[e])
  ·rw[if_neg e,if_pos]
   apply Classical.byContradiction
   intro hno
   apply e
   apply List.ext_getElem hl
   intro k h1 h2
   apply Classical.byContradiction
   intro hne
   exact hno ⟨k,by omega,by omega,by simpa [h1,h2]using hne⟩
 ·intro i h0 hi
  have hso:=hs.old
  have hto:=ht.old
  have e1:xs.getD i.toNat 0=xs[i.toNat]'(by omega):=getD_at _ (by omega)
  have e2:ys.getD i.toNat 0=ys[i.toNat]'(by omega):=getD_at _ (by omega)
  rw[e1,e2,floop_at i_zz81_B1.eq_1]
  constructor<;>intro hb<;>simp (disch:=first|assumption|omega|(simp[*]<;>omega)|fail) [hs.vlen,hs.vidx,hs.vload,ht.vlen,ht.vidx,ht.vload,wrap64,hi,hb]
 ·intro i h0 hi
  rw[floop_at i_zz81_B1.eq_1]
  simp (disch:=first|assumption|omega|(simp[*]<;>omega)|fail) [hs.vlen,hi]
theorem c_zz81 (s t:Value) (xs ys:List Int) (h:VH) (hs:Sli h s xs) (ht:Sli h t ys) (h3:xs.length≤9223372036854775806):
  vcall F nro k_zz81 [s,t] h=some (.bool (decide (xs=ys)),h):=by
 refine v_zz81 (by simp[i_zz81]) ?_
 rw[fbody_eq]
 by_cases hl:xs.length=ys.length
 ·simp (disch:=first|assumption|omega|(simp[*]<;>omega)|fail) [i_zz81,hs.vlen,ht.vlen,hl,l_zz81 s t xs ys h hs ht h3 hl]
  by_cases e:xs=ys<;>simp[e]
 ·have hl' : ¬(xs.length:Int)=ys.length:=by omega
  have:xs≠ys:=fun e=>hl (by rw[e])
  simp (disch:=first|assumption|omega|(simp[*]<;>omega)|fail) [i_zz81,hs.vlen,ht.vlen,hl',this]
def regF (rows:List Int) (n:Nat):Int:=if mnL (deg rows 0) (degF rows n 1)=mxL (deg rows 0) (degF rows n 1)then deg rows 0 else -1
theorem c_zz52 (n:Nat) (s:Value) (rows:List Int) (h:VH) (hs:Sli h s rows) (R:Rok n rows) (h1:1≤n) (hn:nro≤h.length):
  vcall F nro k_zz52 [gv n s] h=some (.int .i64 (regF rows n),h):=by
 have hn' :=fun k=>Nat.le_trans hn (Nat.le_add_right h.length k)
 have hle:=R.le
 refine v_zz52 (by simp[i_zz52]) ?_
 rw[fbody_eq]
 have hd:=c_zz50 (nro:=nro) n s rows (bx h n s) (hs.app _) R (by simp[bx];omega)
 have e:degF rows n 0=(deg rows 0:Int)::degF rows n 1:=degF_step (by omega)
 have hl:(degF rows n 1).length=n - 1:=degF_len ..
 rw[e]at hd
 unfold regF
 obtain⟨l,hll⟩: ∃l,l=degF rows n 1:=⟨_,rfl⟩
 obtain⟨x,hx⟩: ∃x,x=(deg rows 0:Int):=⟨_,rfl⟩
 rw[←hll]at hd hl⊢
 rw[←hx]at hd⊢
 clear hll hx e
 unfold bx at hd
 simp only[List.length_append,List.length_singleton,List.append_assoc,List.cons_append,List.nil_append]at hd
 have hS:Sli (h++ [⟨0,[.int .i64 n,s]⟩,⟨1,ints (x::l)⟩]) (.slice (some ⟨h.length+1,0,none⟩) n n) (x::l):=by
  have:=sli_at (h:=h++ [⟨0,[.int .i64 n,s]⟩,⟨1,ints (x::l)⟩]) (b:=h.length+1) (xs:=x::l) (by simp)
  rwa [show(x::l).length=n by simp;omega]at this
 have hM:=c_slices_Max (nro:=nro) _ x l _ hS (by omega)
 have hm:=c_slices_Min (nro:=nro) _ x l _ hS (by omega)
 have hi:=hS.vidx (k:= .i64) (j:=0) (by omega) (by simp)
 have hv:=hS.vload (j:=0) (by simp)
 obtain⟨A,hA⟩: ∃A,A=mxL x l:=⟨_,rfl⟩
 obtain⟨B,hB⟩: ∃B,B=mnL x l:=⟨_,rfl⟩
 rw[←hA]at hM⊢
 rw[←hB]at hm⊢
 clear hA hB
 have h0n:0<n:=by omega
 obtain⟨H,hH⟩: ∃H,H=(h++ [⟨0,[.int .i64 n,s]⟩,⟨1,ints (x::l)⟩]:VH):=⟨_,rfl⟩
 have hcl: ∀y:Int,kclean h [.int .i64 y] H=([.int .i64 y],h):=fun y=>by rw[hH];simp
 rw[←hH]at hd hM hm hi hv
 clear hS hH
 simp at hi hv
 by_cases c:B=A
 ·rw[if_pos c]
  simp (disch:=first|assumption|omega|(simp[*]<;>omega)|fail) [i_zz52,hd,hM,hm,hi,hv,c,hcl,hn',hn]
 ·rw[if_neg c]
  simp (disch:=first|assumption|omega|(simp[*]<;>omega)|fail) [i_zz52,hd,hM,hm,hi,hv,c,hcl,hn',hn]
end

/- Renumbered graphs have the same girths, degrees and numbers of shortest cycles. -/
section
open Go
open Classical
theorem rep0 (n v:Nat):(List.replicate n (0:Int)).getD v 0=0:=by
 rw[List.getD_eq_getElem?_getD,List.getElem?_replicate]
 split<;>rfl
abbrev IsoG (r0 r1:List Int) (n:Nat) (p:Nat→Nat):Prop:=Iso (two r0 r1) n (noC n) p
theorem isoG_of {r0 r1:List Int} {n:Nat} {p:Nat→Nat} (h1: ∀v,v<n→p v<n) (h2: ∀v w,v<n→w<n→p v=p w→v=w) (h3: ∀v w,v<n→w<n→(rbit r0 v w=true↔rbit r1 (p v) (p w)=true)):IsoG r0 r1 n p:=
 ⟨h1,h2,h3,fun v _=>by unfold noC;rw[rep0,rep0]⟩
section
variable {r0 r1:List Int} {n:Nat} {p:Nat→Nat}
theorem IsoG.ad (I:IsoG r0 r1 n p) {v w:Nat} (hv:v<n) (hw:w<n):rbit r0 v w=true↔rbit r1 (p v) (p w)=true:=I.adj v w hv hw
theorem IsoG.inv (I:IsoG r0 r1 n p): ∃q,IsoG r1 r0 n q∧ ∀v,v<n→p (q v)=v:=by
 obtain⟨q,hq⟩:=Classical.axiomOfChoice (r:=fun(x v:Nat)=>x<n→v<n∧p v=x) (fun x=>by
  by_cases hx:x<n
  ·obtain⟨v,h1,h2⟩:=inj_sur n p I.lt I.inj x hx
   exact⟨v,fun _=>⟨h1,h2⟩⟩
  ·exact⟨0,fun h=>absurd h hx⟩)
 refine⟨q,isoG_of (fun v hv=>(hq v hv).1) (fun v w hv hw e=> ?_) (fun v w hv hw=> ?_),fun v hv=>(hq v hv).2⟩
 ·rw[←(hq v hv).2,←(hq w hw).2,e]
 ·have:=I.ad (hq v hv).1 (hq w hw).1
  rw[(hq v hv).2,(hq w hw).2]at this
  exact this.symm
theorem gir_half (g0:GV n r0) (g1:GV n r1) (I:IsoG r0 r1 n p) (h0:girF r0 n 0 0≠0):girF r1 n 0 0≠0∧girF r1 n 0 0≤girF r0 n 0 0:=by
 have hge:=girF_ge' (rows:=r0) (n:=n) 0 0 (by omega)
 obtain⟨L,hL⟩: ∃L:Nat,girF r0 n 0 0=L:=⟨_,(Int.toNat_of_nonneg hge).symm⟩
 obtain⟨h3,x,x1,x2,x3⟩:=cyc_of_gir g0 hL (by omega)
 have hxn: ∀i,x i<n:=fun i=>(rbit_lt g0.rok (x1 i)).1
 rw[hL]
 refine gir_of_walk g1 (x:=fun i=>p (x i)) (by omega) ?_ (fun i _=>(I.ad (hxn i) (hxn (i+1))).mp (x1 i)) (fun i _ e=>x2 i (I.inj _ _ (hxn (i+2)) (hxn i) e.symm))
 have:=x3 0
 rw[Nat.zero_add]at this
 show p (x 0)=p (x L)
 rw[this]
theorem iso_gir (g0:GV n r0) (g1:GV n r1) (I:IsoG r0 r1 n p):girF r0 n 0 0=girF r1 n 0 0:=by
 obtain⟨q,J,_⟩:=I.inv
 have h0:=gir_half g0 g1 I
 have h1:=gir_half g1 g0 J
 have z0:=girF_ge' (rows:=r0) (n:=n) 0 0 (by omega)
 have z1:=girF_ge' (rows:=r1) (n:=n) 0 0 (by omega)
 by_cases c:girF r0 n 0 0=0
 ·by_cases d:girF r1 n 0 0=0
  ·omega
  ·exact absurd c (h1 d).1
 ·have a:=h0 c
  have b:=h1 a.1
  omega
theorem mnL_le (k:Int): ∀(l:List Int) (m:Int),k≤mnL m l↔k≤m∧ ∀x∈l,k≤x
 | [], m => by simp [mnL]
 | x :: l, m => by
  rw[mnL,mnL_le k l]
  simp only[List.mem_cons,forall_eq_or_imp]
  constructor
  ·rintro⟨a,b⟩
   split at a<;>exact⟨by omega,by omega,b⟩
  ·rintro⟨a,b,c⟩
   split<;>exact⟨by omega,c⟩
theorem degF_mem (rows:List Int) (n v u:Nat) (h1:v≤u) (h2:u<n):(deg rows u:Int)∈degF rows n v:=by
  have h:v<n:=by omega
  rw[degF_step h,List.mem_cons]
  by_cases e:u=v
  · subst e;exact .inl rfl
  · exact .inr (degF_mem rows n (v+1) u (by omega) h2)
 termination_by n - v
theorem regF_all {rows:List Int} {n:Nat} (h:0≤regF rows n): ∀u,u<n→(deg rows u:Int)=regF rows n:=by
 unfold regF at h⊢
 split at h
 ·rename_i e
  rw[if_pos e]
  have a:=(mnL_le (mnL (deg rows 0) (degF rows n 1)) (degF rows n 1) (deg rows 0)).mp (Int.le_refl _)
  have b:=(mxL_le (mxL (deg rows 0) (degF rows n 1)) (degF rows n 1) (deg rows 0)).mp (Int.le_refl _)
  intro u hu
  by_cases c:u=0
  ·rw[c]
  ·have hm:=degF_mem rows n 1 u (by omega) hu
   have a2:=a.2 _ hm
   have b2:=b.2 _ hm
   have a1:=a.1
   have b1:=b.1
   omega
 ·omega
section
variable {s0 s1:List Int} (R0:Rok n s0) (R1:Rok n s1) (hl: ∀v,v<n→p v<n) (hi: ∀v w,v<n→w<n→p v=p w→v=w) (ha: ∀v w,v<n→w<n→(rbit s0 v w=true↔rbit s1 (p v) (p w)=true))
include R0 R1 hl hi ha
theorem iso_wk: ∀(k u v:Nat),u<n→v<n→(Wk s0 k u v↔Wk s1 k (p u) (p v))
 | 0, u, v, hu, hv => ⟨fun e => congrArg p e, fun e => hi u v hu hv e⟩
 | k + 1, u, v, hu, hv => by
  constructor
  ·rintro⟨c,h1,h2⟩
   have hc:=(rbit_lt R0 h2).1
   exact⟨p c,(iso_wk k u c hu hc).mp h1,(ha c v hc hv).mp h2⟩
  ·rintro⟨c,h1,h2⟩
   have hc:=(rbit_lt R1 h2).1
   obtain⟨d,hd,rfl⟩:=inj_sur n p hl hi c hc
   exact⟨d,(iso_wk k u d hu hd).mpr h1,(ha d v hd hv).mpr h2⟩
theorem iso_wkN (a:Nat) (hA:a<n): ∀(k u:Nat),u<n→wkN s0 n a k u=wkN s1 n (p a) k (p u)
 | 0, u, hu => by
  rw[wkN,wkN]
  by_cases c:u=a
  ·rw[if_pos c,if_pos (by rw[c])]
  ·rw[if_neg c,if_neg fun h=>c (hi u a hu hA h)]
 | k + 1, u, hu => by
  rw[wkN,wkN]
  rw[←sumF_re hl hi (fun w=>if rbit s1 w (p u)=true then wkN s1 n (p a) k w else 0)]
  refine sumF_congr fun w hw=> ?_
  rw[iso_wkN a hA k w hw]
  by_cases c:rbit s0 w u=true
  ·rw[if_pos c,if_pos ((ha w u hw hu).mp c)]
  ·rw[if_neg c,if_neg fun h=>c ((ha w u hw hu).mpr h)]
end
theorem iso_cyE (g0:GV n r0) (g1:GV n r1) (I:IsoG r0 r1 n p) (L:Nat) {a b:Nat} (hab:rbit r0 a b=true):cyE r0 n L a b=cyE r1 n L (p a) (p b):=by
 obtain⟨ha,hb⟩:=rbit_lt g0.rok hab
 have hab1:=(I.ad ha hb).mp hab
 have C0:=(cut_rok g0 ha hb hab).1
 have C1:=(cut_rok g1 (I.lt a ha) (I.lt b hb) hab1).1
 have hcut: ∀v w,v<n→w<n→(rbit (cut2 r0 a b) v w=true↔rbit (cut2 r1 (p a) (p b)) (p v) (p w)=true):=fun v w hv hw=>by
  rw[cut_iff g0 hab,cut_iff g1 hab1,I.ad hv hw]
  have e: ∀u c,u<n→c<n→(p u=p c↔u=c):=fun u c hu hc=>⟨fun e=>I.inj u c hu hc e,fun e=>congrArg p e⟩
  rw[e v a hv ha,e w b hw hb,e v b hv hb,e w a hw ha]
 have hw:=iso_wk C0 C1 I.lt I.inj hcut
 have hf:arF r0 a b=arF r1 (p a) (p b):=by
  unfold arF
  rw[(far_dist C0 ha b).unique (far_dist C1 (I.lt a ha) (p b)) (fun k=>hw k a b ha hb)]
 unfold cyE
 rw[hf,iso_wkN C0 C1 I.lt I.inj hcut a ha (L - 1) b hb]
theorem csAll_two (g:GV n r0) {L:Nat} (hL:girF r0 n 0 0=L) (h0:L≠0):2 * csAll r0 n L=sumF (fun a=>sumF (fun b=>if rbit r0 a b=true then cyE r0 n L a b else 0) n) n:=by
 have hle:=g.rok.le
 have h3:=gir_3 g hL h0
 have hmin:=(gir_min g (L:Int) (by omega)).mp (by omega)
 have e:=csAll_at g h0 0 0 (Nat.zero_le _) (by omega) (by omega)
 have e2:csAll r0 n L=sumF (fun a=>sumF (fun b=>if a<b∧rbit r0 a b=true then cyE r0 n L a b else 0) n) n:=by
  unfold csAll;rw[e];simp[sumF]
 have e3:sumF (fun a=>sumF (fun b=>if b<a∧rbit r0 a b=true then cyE r0 n L a b else 0) n) n=csAll r0 n L:=by
  rw[e2,sumF_swap]
  refine sumF_congr fun b hb=>sumF_congr fun a ha=> ?_
  by_cases c:b<a∧rbit r0 a b=true
  ·rw[if_pos c,if_pos ⟨c.1,g.sym' c.2⟩,cyE_symm g h3 hmin c.2]
  ·rw[if_neg c,if_neg fun h=>c ⟨h.1,g.sym' h.2⟩]
 have e4:sumF (fun a=>sumF (fun b=>if rbit r0 a b=true then cyE r0 n L a b else 0) n) n=sumF (fun a=>sumF (fun b=>if a<b∧rbit r0 a b=true then cyE r0 n L a b else 0) n+sumF (fun b=>if b<a∧rbit r0 a b=true then cyE r0 n L a b else 0) n) n:=by
  refine sumF_congr fun a ha=> ?_
  rw[←sumF_add]
  refine sumF_congr fun b hb=> ?_
  by_cases c:rbit r0 a b=true
  ·have:=g.ne c
   rw[if_pos c]
   by_cases d:a<b
   ·rw[if_pos ⟨d,c⟩,if_neg (by omega)];omega
   ·rw[if_neg (by omega),if_pos ⟨by omega,c⟩];omega
  ·rw[if_neg c,if_neg (fun h=>c h.2),if_neg (fun h=>c h.2)];rfl
 rw[e4,sumF_add,e3,←e2]
 omega
theorem iso_csAll (g0:GV n r0) (g1:GV n r1) (I:IsoG r0 r1 n p) {L:Nat} (hL:girF r0 n 0 0=L) (h0:L≠0):csAll r0 n L=csAll r1 n L:=by
 have h1:=csAll_two g0 hL h0
 have h2:=csAll_two g1 ((iso_gir g0 g1 I).symm.trans hL) h0
 have e:sumF (fun a=>sumF (fun b=>if rbit r1 a b=true then cyE r1 n L a b else 0) n) n=sumF (fun a=>sumF (fun b=>if rbit r0 a b=true then cyE r0 n L a b else 0) n) n:=by
  rw[←sumF_re I.lt I.inj (fun a=>sumF (fun b=>if rbit r1 a b=true then cyE r1 n L a b else 0) n)]
  refine sumF_congr fun a ha=> ?_
  rw[←sumF_re I.lt I.inj (fun b=>if rbit r1 (p a) b=true then cyE r1 n L (p a) b else 0)]
  refine sumF_congr fun b hb=> ?_
  by_cases c:rbit r0 a b=true
  ·rw[if_pos ((I.ad ha hb).mp c),if_pos c,iso_cyE g0 g1 I L c]
  ·rw[if_neg fun h=>c ((I.ad ha hb).mpr h),if_neg c]
 omega
theorem iso_csA (g0:GV n r0) (g1:GV n r1) (I:IsoG r0 r1 n p):csA n r1=csA n r0∧giA n r1=giA n r0:=by
 have hg:=iso_gir g0 g1 I
 have hge:=girF_ge' (rows:=r0) (n:=n) 0 0 (by omega)
 obtain⟨L,hL⟩: ∃L:Nat,girF r0 n 0 0=L:=⟨_,(Int.toNat_of_nonneg hge).symm⟩
 have e1: ∀r,GV n r→csA n r=if girF r n 0 0=0 then(0,4)else((csAll r n (girF r n 0 0)).tdiv (girF r n 0 0),0):=fun r g=>by
  unfold csA
  rw[if_neg (not_not_intro g),Int.toNat_natCast]
 have e2: ∀r,GV n r→giA n r=if girF r n 0 0=0 then(0,4)else(girF r n 0 0,0):=fun r g=>by
  unfold giA
  rw[if_neg (not_not_intro g),Int.toNat_natCast]
 rw[e1 _ g0,e1 _ g1,e2 _ g0,e2 _ g1,←hg,hL]
 by_cases c:(L:Int)=0
 ·simp only[c,if_true,and_self]
 ·simp[if_neg c,iso_csAll g0 g1 I hL (by omega)]
end
theorem put_gir {n:Nat} {rows:List Int} (g:GV n rows) {v w:Nat} (hv:v<n) (hw:w<n) (gq:GV n (put2 rows v w)) (h0:girF rows n 0 0≠0):girF (put2 rows v w) n 0 0≠0∧girF (put2 rows v w) n 0 0≤girF rows n 0 0:=by
 have hge:=girF_ge' (rows:=rows) (n:=n) 0 0 (by omega)
 obtain⟨L,hL⟩: ∃L:Nat,girF rows n 0 0=L:=⟨_,(Int.toNat_of_nonneg hge).symm⟩
 obtain⟨h3,x,x1,x2,x3⟩:=cyc_of_gir g hL (by omega)
 rw[hL]
 refine gir_of_walk gq (x:=x) (by omega) ?_ (fun i _=>(put_iff g hv hw _ _).mpr (.inl (x1 i))) (fun i _ e=>x2 i e.symm)
 have:=x3 0
 rw[Nat.zero_add]at this
 exact this.symm
theorem reg_gir {n:Nat} {rows:List Int} (g:GV n rows) (hn:1≤n) (h: ∀v,v<n→(2:Int)≤deg rows v):girF rows n 0 0≠0:=by
 have R:=g.rok
 have hnb: ∀u v,v<n→ ∃w,rbit rows v w=true∧w≠u:=fun u v hv=>by
  apply Classical.byContradiction
  intro hno
  have hd:=deg_sum R hv
  have:=sumF_most (P:=fun w=>rbit rows v w=true) (n:=n) fun i j hi hj h1 h2=>by
   have a:i=u:=Classical.byContradiction fun c=>hno ⟨i,h1,c⟩
   have b:j=u:=Classical.byContradiction fun c=>hno ⟨j,h2,c⟩
   omega
  have:=h v hv
  omega
 obtain⟨nx,hnx⟩:=Classical.axiomOfChoice (r:=fun(e:Nat × Nat) (w:Nat)=>e.2<n→rbit rows e.2 w=true∧w≠e.1) (fun e=>by
  by_cases hv:e.2<n
  ·obtain⟨w,hw⟩:=hnb e.1 e.2 hv
   exact⟨w,fun _=>hw⟩
  ·exact⟨0,fun h=>absurd h hv⟩)
 obtain⟨b,hb,_⟩:=hnb n 0 (by omega)
 let s:Nat→Nat × Nat:=fun i=>Nat.rec (0,b) (fun _ e=>(e.2,nx e)) i
 have hs: ∀i,s (i+1)=((s i).2,nx (s i)):=fun i=>rfl
 have hE: ∀i,rbit rows (s i).1 (s i).2=true:=by
  intro i
  induction i with
  | zero => exact hb
  | succ i ih =>
   rw[hs]
   exact(hnx (s i) (rbit_lt R ih).2).1
 have hx: ∀i,(s i).1<n:=fun i=>(rbit_lt R (hE i)).1
 have hE2: ∀i,rbit rows (s i).1 (s (i+1)).1=true:=fun i=>by rw[hs];exact hE i
 have hN: ∀i,(s i).1≠(s (i+2)).1:=fun i e=>by
  have e2:(s (i+2)).1=nx (s i):=by
   show(s (i+1+1)).1=_
   rw[hs (i+1),hs i]
  rw[e2]at e
  exact(hnx (s i) (rbit_lt R (hE i)).2).2 e.symm
 have hpg: ∃i j,i<j∧j<n+1∧(s i).1=(s j).1:=by
  apply Classical.byContradiction
  intro hno
  have:=inj_le (n+1) n (fun i=>(s i).1) (fun i _=>hx i) fun i j hi hj e=>by
   rcases Nat.lt_trichotomy i j with c|c|c
   ·exact absurd ⟨i,j,c,hj,e⟩ hno
   ·exact c
   ·exact absurd ⟨j,i,c,hi,e.symm⟩ hno
  omega
 obtain⟨i,j,hij,_,e⟩:=hpg
 exact(gir_of_walk g (x:=fun k=>(s (i+k)).1) (L:=j - i) (by omega) (by
  show(s (i+0)).1=(s (i+(j - i))).1
  rw[Nat.add_zero,show i+(j - i)=j by omega]
  exact e) (fun k _=>hE2 (i+k)) (fun k _=>hN (i+k))).1
theorem exc_pos {n:Nat} {rows:List Int} (g:GV n rows) (h:2≤regF rows n):girF rows n 0 0≠0∧girF rows n 0 0≤62∧gB (regF rows n) (girF rows n 0 0).toNat≤n:=by
 have hlo:=g.lo
 have hle:=g.rok.le
 have ha:=regF_all (rows:=rows) (n:=n) (by omega)
 have hne:=reg_gir g (by omega) (fun v hv=>by rw[ha v hv];exact h)
 have hge:=girF_ge' (rows:=rows) (n:=n) 0 0 (by omega)
 obtain⟨L,hL⟩: ∃L:Nat,girF rows n 0 0=L:=⟨_,(Int.toNat_of_nonneg hge).symm⟩
 have h3:=gir_3 g hL (by omega)
 have hmin:=(gir_min g (girF rows n 0 0) (by omega)).mp (by omega)
 have hN:=noSh g hmin
 refine⟨hne,?_,moore g hN ha (by omega) (by omega)⟩
 obtain⟨a,b,hab,harf⟩:=gir_edge g hL (by omega)
 obtain⟨hA,hB⟩:=rbit_lt g.rok hab
 have:=far_small (cut_rok g hA hB hab).1 hA hB
 unfold arF at harf
 omega
end

/- Dice. -/
section
open Go
variable {nro:Nat}
theorem c_zz66 (H:VH) (b:Nat) (cd:Value) (xs:List Int) (s:SS) (n:Int) (hb:H[b]? =some (srcO cd s)) (hnb:nro≤b) (hx:Code' xs) (hs:SOK xs s) (hcd: ∀o,Sl (H.set b o) cd (bys xs)) (h1:n≤9223372036854775807):
  vcall F nro k_zz66 [.pointer (some ⟨b,0,some 3⟩),.int .i64 n] H=some (.int .i64 (srcN xs s n),H.set b (srcO cd (srcS xs s n))):=by
 refine v_zz66 (by simp[i_zz66]) ?_
 rw[fbody_eq]
 have hself:H.set b (srcO cd s)=H:=by
  apply List.ext_getElem?
  intro j
  rw[List.getElem?_set]
  split
  ·rename_i e
   subst e
   split
   ·exact hb.symm
   ·rename_i h;rw[List.getElem?_eq_none (by omega)]at hb;cases hb
  ·rfl
 have hlt:b<H.length:=(List.getElem?_eq_some_iff.mp hb).1
 have hg: ∀o,(H.set b o)[b]? =some o:=fun o=>by simp[hlt]
 have hss: ∀o o2,(H.set b o).set b o2=H.set b o2:=fun o o2=>by simp
 have hcl: ∀(p:Nat) (a:Int) (x:Int),kclean H [.int .i64 x] (H.set b ⟨0,[cd,.int .i64 p,.int .u64 a]⟩)=([.int .i64 x],H.set b ⟨0,[cd,.int .i64 p,.int .u64 a]⟩):=fun p a x=>by
  have hf:flatO H.length (srcO cd ⟨p,a⟩):=flatO_src (by
   have:=(hcd (srcO cd s)).old
   rwa [hself]at this) _
  have:=cleanup_upd (L:= []) (vs:= [.int .i64 x]) ((Upd.rfl' H).set' (b:=b) hf) (by simp)
  rwa [List.append_nil]at this
 have hN:IntKind.u64.wrap (IntKind.u64.wrap (s.hash * 6364136223846793005)+1442695040888963407)=hsN s:=rfl
 have hX:IntKind.i64.wrap (iand .u64 (ishr .u64 (hsN s) 33) 16777215)=hsX s:=rfl
 unfold srcN srcS
 by_cases hn:n<1
 ·rw[if_pos hn,if_pos hn,hself]
  simp (disch:=first|assumption|omega|(simp[*]<;>omega)|fail) [i_zz66,hn]
 ·rw[if_neg hn,if_neg hn]
  unfold srcO at hb⊢
  have hx1:=hsX_ok s
  have hx2:=hx.at s.pos
  obtain⟨A,hA⟩: ∃A,A=hsX s:=⟨_,rfl⟩
  obtain⟨B,hB⟩: ∃B,B=hsN s:=⟨_,rfl⟩
  by_cases hp:s.pos<xs.length
  ·have hl:=hx.len
   have e1:=fun o=>(hcd o).vlen
   have e2:=fun o=>(hcd o).vidx (k:= .i64) (j:=(s.pos:Int)) (by omega) (by rw[bys_length];omega)
   have e3:=fun o=>(hcd o).vload (j:=s.pos) (by rw[bys_length];omega)
   simp only[bys_get]at e3
   rw[if_pos hp,if_pos hp]
   obtain⟨y,hy⟩: ∃y,y=xs.getD s.pos 0:=⟨_,rfl⟩
   rw[←hy]at e3 hx2⊢
   rw[←hA]at hX hx1⊢
   rw[←hB]at hN hX⊢
   have w1:IntKind.i64.wrap y=y:=wrap64 (by omega) (by omega)
   have w2:IntKind.i64.wrap (A+y)=A+y:=wrap64 (by omega) (by omega)
   have w3:IntKind.i64.wrap ((s.pos:Int)+1)=((s.pos+1:Nat):Int):=by rw[wrap64 (by omega) (by omega)];omega
   have w4:IntKind.i64.wrap ((A+y).tmod n)=(A+y).tmod n:=by
    have h1:=Int.tmod_nonneg n (show 0≤A+y by omega)
    have h2:=Int.tmod_lt_of_pos (A+y) (show 0<n by omega)
    exact wrap64 (by omega) (by omega)
   obtain⟨p,hp2⟩: ∃p,p=s.pos+1:=⟨_,rfl⟩
   have hn0: ¬n=0:=by omega
   have hp3:(s.pos:Int)<xs.length:=by omega
   obtain⟨u,hu⟩: ∃u,u=(A+y).tmod n:=⟨_,rfl⟩
   rw[←hp2]at w3⊢
   rw[←hu]at w4⊢
   have hu2:=hu.symm
   clear hu hA hB hp2 hy hself
   simp (disch:=first|assumption|omega|(simp[*]<;>omega)|fail) [-getElem?_pos,gz_,gs_,i_zz66,hn,hn0,hb,hg,hss,hlt,hnb,e1,e2,e3,hp,hp3,hN,hX,w1,w2,w3,w4,hu2,hcl]
  ·have e1:=fun o=>(hcd o).vlen
   have hp3: ¬(s.pos:Int)<xs.length:=by omega
   rw[if_neg hp,if_neg hp,Int.add_zero]
   have hn0: ¬n=0:=by omega
   rw[←hA]at hX hx1⊢
   rw[←hB]at hN hX⊢
   have w4:IntKind.i64.wrap (A.tmod n)=A.tmod n:=by
    have h1:=Int.tmod_nonneg n (show 0≤A by omega)
    have h2:=Int.tmod_lt_of_pos A (show 0<n by omega)
    exact wrap64 (by omega) (by omega)
   obtain⟨u,hu⟩: ∃u,u=A.tmod n:=⟨_,rfl⟩
   rw[←hu]at w4⊢
   have hu2:=hu.symm
   clear hu hA hB hself
   simp (disch:=first|assumption|omega|(simp[*]<;>omega)|fail) [-getElem?_pos,gz_,gs_,i_zz66,hn,hn0,hb,hg,hss,hlt,hnb,e1,hp,hp3,hN,hX,w4,hu2,hcl]
theorem l_zz107 (h:VH) (cd:Value) (xs:List Int) (hs:Sl h cd (bys xs)) (hx:Code' xs) (hn:nro≤h.length) (g0:Int):
  ∃g1,floop (vcall F nro) nro [0,5,6] i_zz107_B1 (h++ [⟨0,[cd,.int .i64 0,.int .u64 g0]⟩]) [cd,.pointer (some ⟨h.length,0,some 3⟩),.int .i64 0] (h++ [⟨0,[cd,.int .i64 0,.int .u64 g0]⟩])=
   some (.exit 0,fl [(5,.pointer (some ⟨h.length,0,some 3⟩))],h++ [⟨0,[cd,.int .i64 0,.int .u64 g1]⟩]):=by
 have hn' :=fun k=>Nat.le_trans hn (Nat.le_add_right h.length k)
 have hl:=hx.len
 have hco: ∀k,OldC (h.length+k) cd:=fun k r hr=>Nat.lt_of_lt_of_le (hs.old r (crefs_sub hr)) (Nat.le_add_right _ _)
 have hol: ∀k,Old (h.length+k) cd:=fun k=>hs.old.le (Nat.le_add_right _ _)
 have e1:=fun L=>hs.vlen' (L:=L)
 simp only[bys_length]at e1
 refine Exists.elim (for_upR (call:=vcall F nro) (nro:=nro) (live:= [0,5,6]) (c:=i_zz107_B1) (h0:=h++ [⟨0,[cd,.int .i64 0,.int .u64 g0]⟩]) (n:=xs.length) (fun i (_:Int)=> [cd,.pointer (some ⟨h.length,0,some 3⟩),.int .i64 i]) (fun _ g=>h++ [⟨0,[cd,.int .i64 0,.int .u64 g]⟩])
  (fun _ _=>True) (fun g=>some (.exit 0,fl [(5,.pointer (some ⟨h.length,0,some 3⟩))],h++ [⟨0,[cd,.int .i64 0,.int .u64 g]⟩])) ?_ ?_ 0 g0 (Nat.zero_le _) trivial) ?_
 ·intro i g hi hi2 _
  have hi3:(i:Int)<xs.length:=by omega
  have e2:=fun L=>hs.vidx' (L:=L) (k:= .i64) (j:=(i:Int)) (by omega) (by rw[bys_length];omega)
  have e3:=fun L=>hs.vload' (L:=L) (j:=i) (by rw[bys_length];omega)
  simp only[bys_get]at e3
  obtain⟨y,hy⟩: ∃y,y=xs.getD i 0:=⟨_,rfl⟩
  rw[←hy]at e3
  have w1:IntKind.i64.wrap ((i:Int)+1)=(i:Int)+1:=wrap64 (by omega) (by omega)
  refine⟨IntKind.u64.wrap (IntKind.u64.wrap (IntKind.u64.wrap (g * 1099511628211)+IntKind.u64.wrap y)+5),trivial,?_⟩
  rw[floop_at i_zz107_B1.eq_1]
  simp (disch:=first|assumption|omega|(simp[*]<;>omega)|fail) [hi3,e1,e2,e3,w1,hn',hn,hco,hol]
 ·intro g _
  rw[floop_at i_zz107_B1.eq_1]
  simp (disch:=first|assumption|omega|(simp[*]<;>omega)|fail) [e1,hn',hn,hco,hol]
 ·rintro g1 ⟨_,hg⟩
  exact⟨g1,hg⟩
theorem c_zz107 (seed:Int) (h:VH) (cd:Value) (xs:List Int) (hs:Sl h cd (bys xs)) (hx:Code' xs) (hn:nro≤h.length):
  ∃s,SOK xs s∧vcall F nro k_zz107 [cd,.int .u64 seed] h=some (.pointer (some ⟨h.length,0,some 3⟩),h++ [srcO cd s]):=by
 have hn' :=fun k=>Nat.le_trans hn (Nat.le_add_right h.length k)
 have hl:=hx.len
 have e0:=hs.vlen
 simp only[bys_length]at e0
 obtain⟨g1,lp⟩:=l_zz107 (nro:=nro) h cd xs hs hx hn (IntKind.u64.wrap (IntKind.u64.wrap (seed * 8329)+IntKind.u64.wrap xs.length))
 refine⟨⟨0,g1⟩,Nat.zero_le _,?_⟩
 refine v_zz107 (by simp[i_zz107]) ?_
 rw[fbody_eq]
 have hol:Old h.length cd:=hs.old
 have hco:OldC h.length cd:=fun r hr=>hs.old r (crefs_sub hr)
 have hvc:=hs.cells
 have hj:=hs.junk
 unfold isJunk at hj
 have hcl:kclean h [.pointer (some ⟨h.length,0,some 3⟩)] (h++ [⟨0,[cd,.int .i64 0,.int .u64 g1]⟩])=([.pointer (some ⟨h.length,0,some 3⟩)],h++ [⟨0,[cd,.int .i64 0,.int .u64 g1]⟩]):=by
  rw[cleanup_one (k:=0) (o:=srcO cd ⟨0,g1⟩) (by simp[trefs,vrefs,crefs,arefs]) (by simp[srcO]) (flatO_src hs.old _)]
  simp[tren,vren,cren,aren,renOf_one0,srcO]
 unfold srcO
 simp (disch:=first|assumption|omega|(simp[*]<;>omega)|fail) [i_zz107,hcl,hvc,hj,splice,e0,lp,hn',hn,hol,hco]
section
variable {H:VH} {b:Nat} {cd:Value} {xs:List Int} {s:SS} (S:Srce nro H b cd xs s)
include S
theorem Srce.dice (n:Int) (h1:n≤9223372036854775807):vcall F nro k_zz66 [.pointer (some ⟨b,0,some 3⟩),.int .i64 n] H=some (.int .i64 (srcN xs s n),H.set b (srcO cd (srcS xs s n))):=
 c_zz66 H b cd xs s n S.at' S.nr S.code S.ok S.sl h1
end
end

/- FitsBoth, EdgesLeft, rows5, l07May at one vertex. -/
section
open Go
open Classical
variable {nro:Nat}
theorem deg_le62 {n:Nat} {rows:List Int} (R:Rok n rows) {v:Nat} (hv:v<n):(deg rows v:Int)≤62:=by
 have hle:=R.le
 rw[deg_sum R hv]
 have:sumF (fun w=>oneIf (rbit rows v w=true)) n≤sumF (fun _=>1) n:=sumF_le (fun i _=>one_le _)
 have e: ∀k:Nat,sumF (fun _=>(1:Int)) k=k:=by
  intro k;induction k with
  | zero => rfl
  | succ k ih => rw [sumF, ih]; omega
 rw[e]at this
 omega
end

/- Two graphs alike (the ninth), and by how much a regular graph is above the bound. -/
section
open Go
variable {nro:Nat}
theorem c_zz95 (n m:Int) (s t:Value) (xs ys:List Int) (h:VH) (hs:Sli h s xs) (ht:Sli h t ys) (h3:xs.length≤9223372036854775806):
  vcall F nro k_zz95 [gv n s,gv m t] h=some (.bool (decide (n=m∧xs=ys)),h):=by
 refine v_zz95 (by simp[i_zz95]) ?_
 rw[fbody_eq]
 have hc:=c_zz81 (nro:=nro) s t xs ys (h++ [⟨0,[.int .i64 n,s]⟩,⟨0,[.int .i64 m,t]⟩]) (hs.app _) (ht.app _) h3
 by_cases e1:n=m
 ·subst e1
  simp (disch:=first|assumption|omega|(simp[*]<;>omega)|fail) [i_zz95,hc]
 ·simp (disch:=first|assumption|omega|(simp[*]<;>omega)|fail) [i_zz95,hc,e1]
open Classical in
noncomputable def excA (n:Int) (rows:List Int):Int × Int:=if¬GV n rows then(0,1)else if regF rows n.toNat<2 then(0,5)else(n - gB (regF rows n.toNat) (girF rows n.toNat 0 0).toNat,0)
theorem exc_ge (n:Int) (rows:List Int):(excA n rows).2≠0∨0≤(excA n rows).1:=by
 unfold excA
 by_cases g:GV n rows
 ·have hlo:=g.lo
  obtain⟨N,rfl⟩: ∃N:Nat,n=N:=⟨n.toNat,by omega⟩
  rw[if_neg (fun h=>h g),Int.toNat_natCast]
  by_cases c:regF rows N<2
  ·rw[if_pos c];exact .inl (by decide)
  ·rw[if_neg c]
   have:=(exc_pos g (by omega)).2.2
   exact .inr (by show 0≤(N:Int) - _;omega)
 ·rw[if_pos g];exact .inl (by decide)
theorem gB_lo {k:Int} {c:Nat} (h:1≤k):0≤gB k c:=by
 unfold gB
 have a:=(pS_ok (q:=k - 1) (by omega) ((c - 1) / 2)).1
 have b:=(pS_ok (q:=k - 1) (by omega) (c / 2)).1
 have:=Int.mul_nonneg (show 0≤k by omega) a
 split<;>omega
open Classical in
theorem c_zz78 (n:Int) (s:Value) (rows:List Int) (h:VH) (hs:Sli h s rows) (hn:nro≤h.length):
  vcall F nro k_zz78 [gv n s] h=some (.tuple #[.int .i64 (excA n rows).1,.int .i64 (excA n rows).2],h):=by
 refine v_zz78 (by simp[i_zz78]) ?_
 rw[fbody_eq]
 have hn' :=fun k=>Nat.le_trans hn (Nat.le_add_right h.length k)
 have hso:=fun k=>hs.oldCk (k:=k)
 have hi:=c_zz86 (nro:=nro) n s rows (bx h n s) (hs.app _)
 unfold excA
 by_cases g:GV n rows
 ·have hlo:=g.lo
  obtain⟨N,rfl⟩: ∃N:Nat,n=N:=⟨n.toNat,by omega⟩
  have hle:=g.rok.le
  have hg:=c_zz60 (nro:=nro) N s rows (bx h N s) (hs.app _) g (by simp;omega)
  have hr:=c_zz52 (nro:=nro) N s rows (bx h N s) (hs.app _) g.rok (by omega) (by simp;omega)
  rw[if_neg (fun h=>h g),Int.toNat_natCast]
  rw[decide_eq_true g]at hi
  obtain⟨k,hk⟩: ∃k,k=regF rows N:=⟨_,rfl⟩
  obtain⟨x,hx⟩: ∃x,x=girF rows N 0 0:=⟨_,rfl⟩
  by_cases c:k<2
  ·rw[←hk]at hr⊢
   rw[if_pos c]
   clear hk hx g hg
   simp (disch:=first|assumption|omega|(simp[*]<;>omega)|fail) [i_zz78,hi,hr,c,hn',hso]
  ·obtain⟨p1,p2,p3⟩:=exc_pos g (by omega)
   have hk2:k≤62:=by
    have:=regF_all (rows:=rows) (n:=N) (by omega) 0 (by omega)
    have:=deg_le62 g.rok (show 0<N by omega)
    omega
   have p4:=girF_ge' (rows:=rows) (n:=N) 0 0 (by omega)
   rw[←hk]at hr p3⊢
   rw[←hx]at hg p1 p2 p3 p4⊢
   obtain⟨y,rfl⟩: ∃y:Nat,x=y:=⟨x.toNat,by omega⟩
   rw[Int.toNat_natCast]at p3⊢
   have hb:=c_zz65 (nro:=nro) k y (bx h N s) (by omega) (by omega) (by omega) (by omega)
   have p5:=gB_lo (k:=k) (c:=y) (by omega)
   rw[if_neg c]
   obtain⟨z,hz⟩: ∃z,z=gB k y:=⟨_,rfl⟩
   rw[←hz]at hb p3 p5⊢
   have w1:IntKind.i64.wrap ((N:Int) - z)=N - z:=wrap64 (by omega) (by omega)
   clear hk hx g hz
   simp (disch:=first|assumption|omega|(simp[*]<;>omega)|fail) [i_zz78,hi,hr,hg,hb,w1,c,hn',hso]
 ·rw[if_pos g]
  rw[decide_eq_false g]at hi
  clear g
  simp (disch:=first|assumption|omega|(simp[*]<;>omega)|fail) [i_zz78,hi,hn',hso]
end

/- The laws of PutEdge and TakeEdge. -/
section
open Go
variable {nro:Nat}
open Classical in
noncomputable def putAns (n:Int) (rows:List Int) (a b:Int):GAns:=if pairC n rows a b≠0 then .inr (pairC n rows a b)else if rbit rows a.toNat b.toNat=true then .inr 5 else .inl (n,put2 rows a b)
theorem pairC_zero {n:Int} {rows:List Int} {a b:Int} (h:pairC n rows a b=0):GV n rows∧(0≤a∧a<n)∧(0≤b∧b<n)∧a≠b:=by
 unfold pairC at h
 split at h
 ·rename_i g
  split at h
  ·rename_i h1;exact⟨g,h1⟩
  ·cases h
 ·cases h
theorem c_zz90 (n a b:Int) (s:Value) (rows:List Int) (h:VH) (hs:Sli h s rows) (hn:nro≤h.length):
  vcall F nro k_zz90 [gv n s,.int .i64 a,.int .i64 b] h=some (gres h (putAns n rows a b)):=by
 refine v_zz90 (by simp[i_zz90]) ?_
 rw[fbody_eq]
 have hn' :=fun k=>Nat.le_trans hn (Nat.le_add_right h.length k)
 have hc:=c_zz99 (nro:=nro) n a b s rows (h++ [⟨0,[.int .i64 n,s]⟩,⟨0,[.int .i64 0,.slice none 0 0]⟩]) (hs.app _) (by simp;omega)
 by_cases hz:pairC n rows a b=0
 ·obtain⟨g,⟨a1,a2⟩,⟨b1,b2⟩,hne⟩:=pairC_zero hz
  have hl:=g.len
  have hN:=g.hi
  have hp:=pow_le62 hN
  obtain⟨r1,r2,_⟩:=g.row a.toNat (by omega)
  have hh:=c_zz96' (nro:=nro) n a b s rows (h++ [⟨0,[.int .i64 n,s]⟩,⟨0,[.int .i64 0,.slice none 0 0]⟩]) (hs.app _) a1 (by omega) b1 (by omega) r1 (by omega)
  rw[hz]at hc
  by_cases hb:rbit rows a.toNat b.toNat=true
  ·have e:putAns n rows a b= .inr 5:=by simp[putAns,hz,hb]
   simp (disch:=first|assumption|omega|(simp[*]<;>omega)|fail) [i_zz90,hc,hh,hb,e,fresults,fresL,fres1,hn']
  ·have e:putAns n rows a b= .inl (n,put2 rows a b):=by simp[putAns,hz,hb]
   have hj:=c_zz92 (nro:=nro) n a b s rows (h++ [⟨0,[.int .i64 n,s]⟩,⟨0,[.int .i64 0,.slice none 0 0]⟩]) (hs.app _) (by simp;omega) (by omega) a1 (by omega) b1 (by omega)
   simp at hj
   simp (disch:=first|assumption|omega|(simp[*]<;>omega)|fail) [i_zz90,hc,hh,hb,hj,e,fresults,fresL,fres1,hn']
 ·have e:putAns n rows a b= .inr (pairC n rows a b):=by simp[putAns,hz]
  simp (disch:=first|assumption|omega|(simp[*]<;>omega)|fail) [i_zz90,hc,hz,e,fresults,fresL,fres1,hn']
theorem c_zz87 (n a b:Int) (s:Value) (rows:List Int) (h:VH) (hs:Sli h s rows) (hn:nro≤h.length):
  vcall F nro k_zz87 [gv n s,.int .i64 a,.int .i64 b] h=some (gres h (putAns n rows a b)):=by
 refine v_zz87 (by simp[i_zz87]) ?_
 rw[fbody_eq]
 have hn' :=fun k=>Nat.le_trans hn (Nat.le_add_right h.length k)
 have hc:=c_zz80 (nro:=nro) n a b s rows (h++ [⟨0,[.int .i64 n,s]⟩,⟨0,[.int .i64 0,.slice none 0 0]⟩]) (hs.app _) (by simp;omega)
 by_cases hz:pairC n rows a b=0
 ·obtain⟨g,⟨a1,a2⟩,⟨b1,b2⟩,hne⟩:=pairC_zero hz
  have hl:=g.len
  have hlo:=g.lo
  have hN:=g.hi
  have hp:=pow_le62 hN
  obtain⟨r1,r2,_⟩:=g.row a.toNat (by omega)
  have hh:=c_zz72 (nro:=nro) n a b s rows (h++ [⟨0,[.int .i64 n,s]⟩,⟨0,[.int .i64 0,.slice none 0 0]⟩]) (hs.app _) a1 (by omega) b1 (by omega) r1 (by omega)
  rw[hz]at hc
  by_cases hb:rbit rows a.toNat b.toNat=true
  ·have e:putAns n rows a b= .inr 5:=by simp[putAns,hz,hb]
   simp (disch:=first|assumption|omega|(simp[*]<;>omega)|fail) [i_zz87,hc,hh,hb,e,fresults,fresL,fres1,hn']
  ·have e:putAns n rows a b= .inl (n,put2 rows a b):=by simp[putAns,hz,hb]
   have hj:=c_zz108 (nro:=nro) n s rows (h++ [⟨0,[.int .i64 n,s]⟩,⟨0,[.int .i64 0,.slice none 0 0]⟩]) (hs.app _) (by intro e;simp[e]at hl;omega) (by omega) (by simp;omega)
   have hp:=c_zz73 (nro:=nro) n (h.length+2) rows.length a b rows (h++ [⟨0,[.int .i64 n,s]⟩,⟨0,[.int .i64 0,.slice none 0 0]⟩,⟨1,ints rows⟩,⟨0,[.int .i64 n,.slice (some ⟨h.length+2,0,none⟩) rows.length rows.length]⟩]) (by simp) rfl (by omega) a1 (by omega) b1 (by omega) (by omega)
   rw[if_neg hne]at hp
   simp at hj hp
   simp (disch:=first|assumption|omega|(simp[*]<;>omega)|fail) [i_zz87,hc,hh,hb,hj,hp,e,fresults,fresL,fres1,hn']
 ·have e:putAns n rows a b= .inr (pairC n rows a b):=by simp[putAns,hz]
  simp (disch:=first|assumption|omega|(simp[*]<;>omega)|fail) [i_zz87,hc,hz,e,fresults,fresL,fres1,hn']
end

/- Products of graphs: what the reference makes. -/
section
open Go
variable {nro:Nat}
theorem Sl.set_ne {h:VH} {v:Value} {cs:List Value} (hs:Sl h v cs) {b:Nat} (hb: ∀r∈arefs v,r≠b) (o:VO):Sl (h.set b o) v cs:=by
 rcases hs.inv with⟨rfl,rfl⟩|⟨rfl,rfl⟩|⟨a,n,tot,o',rfl,ho,hx⟩
 ·rfl
 ·rfl
 ·have hne:a.block≠b:=hb a.block (by simp[arefs])
  have e:(h.set b o)[a.block]? =h[a.block]? :=by rw[List.getElem?_set_ne (fun h=>hne h.symm)]
  unfold Sl at hs⊢
  rw[vsrc_ref]at hs⊢
  rw[e]
  exact hs
structure LLq (H:VH) (b0:Nat) (q:Value) (es:List (List Int)) (vs:List Value):Prop where
 len:vs.length=es.length
 out: ∀r,Sl (H.set b0 ⟨1,ints r⟩) q vs
 inn: ∀(i:Nat) (hi:i<vs.length) r,Sli (H.set b0 ⟨1,ints r⟩) vs[i] (es.getD i [])
theorem LLq.set {H:VH} {b0:Nat} {q:Value} {es:List (List Int)} {vs:List Value} (h:LLq H b0 q es vs) (r:List Int):LLq (H.set b0 ⟨1,ints r⟩) b0 q es vs:=
 ⟨h.len,fun r' =>by rw[List.set_set];exact h.out r',fun i hi r' =>by rw[List.set_set];exact h.inn i hi r'⟩
theorem LLq.of {h M L:VH} {q:Value} {es:List (List Int)} (hs:SL2 h.length M q es) {b0:Nat} (hb:b0<h.length): ∃vs,LLq (h++M++L) b0 q es vs:=by
 obtain⟨b,vs,rfl,h1,h2⟩:=hs
 have hset: ∀o,(h++M++L).set b0 o=h.set b0 o++M++L:=fun o=>by
  rw[List.append_assoc,List.append_assoc,List.set_append_left _ _ hb]
 have hget: ∀o k,(h.set b0 o++M++L)[h.length+k]? =(M++L)[k]? :=fun o k=>by
  rw[List.append_assoc,List.getElem?_append_right (by simp),List.length_set,Nat.add_sub_cancel_left]
 refine⟨vs,h2.len,fun r=> ?_,fun i hi r=> ?_⟩
 ·rw[hset]
  have h3:(M++L)[b]? =some ⟨1,vs⟩:=by rw[List.getElem?_append_left (List.getElem?_eq_some_iff.mp h1).1];exact h1
  unfold Sl
  rw[vsrc_ref]
  simp only[hget,h3,h2.len]
  simp[h2.len]
  rw[List.take_of_length_le (by rw[h2.len];exact Nat.le_refl _)]
 ·have hi' :i<es.length:=by rw[←h2.len];exact hi
  obtain⟨k,k1,k2⟩:=h2.at_ i hi'
  have e:vs[i]= .slice (some ⟨h.length+k,0,none⟩) (es.getD i []).length (es.getD i []).length:=(List.getElem?_eq_some_iff.mp k1).2
  rw[e,hset]
  refine sli_at ?_
  rw[hget,List.getElem?_append_left (List.getElem?_eq_some_iff.mp k2).1]
  exact k2
theorem edges_len (rows:List Int) (n v:Nat) (hn:n≤62):(edgesF rows n v).length≤(n - v) * 62:=by
  by_cases h:v<n
  · rw [edgesF_step h, List.length_append]
    have h1:=edges_len rows n (v+1) hn
    have h2:=edgF_len rows v n (v+1) h
    have e:n - v=(n - (v+1))+1:=by omega
    rw[e,Nat.add_mul]
    omega
  · rw[edgesF_end h];simp
 termination_by n - v
end

/- A graph that grows by edges: the loop of FnTop. -/
section
open Go
variable {nro:Nat}
theorem Sl.take {h:VH} {v:Value} {cs:List Value} {B:Nat} (hs:Sl h v cs) (ho:Old B v):Sl (h.take B) v cs:=by
 rcases hs.inv with⟨rfl,rfl⟩|⟨rfl,rfl⟩|⟨a,n,tot,o',rfl,ho',hx⟩
 ·rfl
 ·rfl
 ·have hb:a.block<B:=ho a.block (by simp[trefs,vrefs,crefs,arefs])
  unfold Sl vsrc at hs⊢
  simp only at hs⊢
  rw[List.getElem?_take,if_pos hb]
  exact hs
theorem girF_le {n:Nat} {rows:List Int} (g:GV n rows):girF rows n 0 0≤62:=by
 have hle:=g.rok.le
 have hge:=girF_ge' (rows:=rows) (n:=n) 0 0 (by omega)
 obtain⟨L,hL⟩: ∃L:Nat,girF rows n 0 0=L:=⟨_,(Int.toNat_of_nonneg hge).symm⟩
 by_cases c:L=0
 ·omega
 ·obtain⟨a,b,hab,harf⟩:=gir_edge g hL c
  obtain⟨hA,hB⟩:=rbit_lt g.rok hab
  have:=far_small (cut_rok g hA hB hab).1 hA hB
  unfold arF at harf
  omega
theorem Sl.ne0 {h:VH} {v:Value} {cs:List Value} (hs:Sl h v cs) {b:Nat} {o:VO} (hb:h[b]? =some o) (ho:o.sz≠1): ∀r∈arefs v,r≠b:=by
 rcases hs.inv with⟨rfl,rfl⟩|⟨rfl,rfl⟩|⟨a,n,tot,o',rfl,ho',hx⟩
 ·intro r hr;simp[arefs]at hr
 ·intro r hr;simp[arefs]at hr
 ·intro r hr e
  simp only[arefs,List.mem_singleton]at hr
  subst hr
  subst e
  rw[ho']at hb
  cases hb
  exact ho hx.1
structure TopI (nro:Nat) (h:VH) (B:Nat) (cd:Value) (xs:List Int) (N:Nat) (Q:VH) (s:SS) (rows:List Int) (last:Int):Prop where
 ok:SOK xs s
 hB:h.length+3≤B
 len:B≤Q.length
 tk:Q.take h.length=h
 dc:Q[h.length]? =some (srcO cd s)
 gr: ∃v,Q[h.length+2]? =some ⟨0,[.int .i64 N,v]⟩∧Sli Q v rows
 gv:GV N rows
 la:(girF rows N 0 0=0∧last=1000)∨(girF rows N 0 0≠0∧last=girF rows N 0 0)
section
variable {h:VH} {B:Nat} {cd:Value} {xs:List Int} {N:Nat} {Q:VH} {s:SS} {rows:List Int} {last:Int}
theorem TopI.split (T:TopI nro h B cd xs N Q s rows last):Q=h++Q.drop h.length:=by
 have:=(List.take_append_drop h.length Q).symm
 rwa [T.tk]at this
theorem TopI.src (T:TopI nro h B cd xs N Q s rows last) (hs:Sl h cd (bys xs)) (hx:Code' xs) (hn:nro≤h.length):Srce nro Q h.length cd xs s:=by
 refine⟨T.dc,hn,hx,T.ok,fun o=> ?_⟩
 rw[T.split,List.set_append_right _ _ (Nat.le_refl _)]
 exact hs.app _
theorem TopI.dice (T:TopI nro h B cd xs N Q s rows last) (hs:Sl h cd (bys xs)) (hx:Code' xs) (hn:nro≤h.length) (m:Int) (h1:1≤m) (h2:m≤1000):
  ∃x s' Q',TopI nro h B cd xs N Q' s' rows last∧0≤x∧x<m∧vcall F nro k_zz66 [.pointer (some ⟨h.length,0,some 3⟩),.int .i64 m] Q=some (.int .i64 x,Q'):=by
 have S:=T.src hs hx hn
 obtain⟨a1,a2,_⟩:=srcN_ok S.code s m
 have hlt:=S.lt
 obtain⟨v,g1,g2⟩:=T.gr
 refine⟨_,srcS xs s m,_,⟨srcS_ok S.ok m,T.hB,by rw[List.length_set];exact T.len,?_,?_,⟨v,?_,?_⟩,T.gv,T.la⟩,a1,a2 h1,S.dice m (by omega)⟩
 ·rw[List.take_set_of_le (Nat.le_refl _)];exact T.tk
 ·simp[hlt]
 ·rw[List.getElem?_set_ne (by omega)];exact g1
 ·exact Sl.set_ne g2 (Sl.ne0 g2 T.dc (by simp[srcO])) _
theorem TopI.app (T:TopI nro h B cd xs N Q s rows last) (L:VH):TopI nro h B cd xs N (Q++L) s rows last:=by
 obtain⟨v,g1,g2⟩:=T.gr
 have h1:=T.len
 have h2:=T.hB
 refine⟨T.ok,T.hB,by rw[List.length_append];omega,?_,?_,⟨v,?_,g2.app _⟩,T.gv,T.la⟩
 ·rw[List.take_append_of_le_length (by omega)];exact T.tk
 ·rw[List.getElem?_append_left (by omega)];exact T.dc
 ·rw[List.getElem?_append_left (by omega)];exact g1
theorem TopI.put (T:TopI nro h B cd xs N Q s rows last) {rows' :List Int} {last' :Int} (L:VH) {k:Nat} (h1:L[k]? =some ⟨1,ints rows'⟩) (g:GV N rows') (hl:(girF rows' N 0 0=0∧last' =1000)∨(girF rows' N 0 0≠0∧last' =girF rows' N 0 0)):
  TopI nro h B cd xs N (Q.set (h.length+2) ⟨0,[.int .i64 N,.slice (some ⟨Q.length+k,0,none⟩) rows'.length rows'.length]⟩++L) s rows' last' :=by
 have a1:=T.len
 have a2:=T.hB
 refine⟨T.ok,T.hB,by rw[List.length_append,List.length_set];omega,?_,?_,⟨.slice (some ⟨Q.length+k,0,none⟩) rows'.length rows'.length,?_,?_⟩,g,hl⟩
 ·rw[List.take_append_of_le_length (by rw[List.length_set];omega),List.take_set_of_le (by omega)];exact T.tk
 ·rw[List.getElem?_append_left (by rw[List.length_set];omega),List.getElem?_set_ne (by omega)];exact T.dc
 ·rw[List.getElem?_append_left (by rw[List.length_set];omega),List.getElem?_set_self (by omega)]
 ·unfold Sli Sl vsrc
  simp only
  rw[List.getElem?_append_right (by rw[List.length_set];omega),List.length_set,Nat.add_sub_cancel_left,h1]
  simp
theorem TopI.clean (T:TopI nro h B cd xs N Q s rows last) {P0:VH} (hP:P0.length=B) (h5: ∀o,P0[h.length+2]? =some o→ ∀r∈orefs o,r<B) {vs:List Value} (hv: ∀v∈vs,Old B v): ∃Q',TopI nro h B cd xs N Q' s rows last∧kclean P0 vs Q=(vs,Q'):=by
 subst hP
 rcases cleanup_old (h:=Q) hv with e|⟨hok,e⟩
 ·exact⟨Q,T,e⟩
 ·refine⟨_,?_,e⟩
  have a1:=T.len
  have a2:=T.hB
  obtain⟨v,g1,g2⟩:=T.gr
  have g3:(Q.take P0.length)[h.length+2]? =some ⟨0,[.int .i64 N,v]⟩:=by rw[List.getElem?_take,if_pos (by omega)];exact g1
  have ho: ∀r∈orefs (⟨0,[.int .i64 N,v]⟩:VO),r<P0.length:=by
   rcases hok _ _ g3 with c|c
   ·exact h5 _ c
   ·exact c
  refine⟨T.ok,T.hB,by rw[List.length_take];omega,?_,?_,⟨v,g3,g2.take ?_⟩,T.gv,T.la⟩
  ·rw[List.take_take,Nat.min_eq_left (by omega)];exact T.tk
  ·rw[List.getElem?_take,if_pos (by omega)];exact T.dc
  ·intro r hr
   refine ho r ?_
   simp only[orefs,List.flatMap_cons,List.mem_append]
   rcases Sl.inv g2 with⟨rfl,_⟩|⟨rfl,_⟩|⟨a,n,tot,o',rfl,_,_⟩<;>simp_all [trefs,vrefs,crefs,arefs]
end
end

/- The loop of FnTop in which the graph grows. -/
section
open Go
variable {nro:Nat}
theorem sli_nil (h:VH):Sli h (.slice none 0 0) []:=rfl
theorem put_cases {N:Nat} {rows:List Int} (g:GV N rows) (a b:Int):(∃c,putAns N rows a b= .inr c∧c≠0)∨
  (∃rows',putAns N rows a b= .inl ((N:Int),rows')∧GV N rows' ∧(girF rows N 0 0≠0→girF rows' N 0 0≠0∧girF rows' N 0 0≤girF rows N 0 0)):=by
 unfold putAns
 by_cases c:pairC N rows a b=0
 ·rw[if_neg (fun h=>h c)]
  obtain⟨_,⟨a1,a2⟩,⟨b1,b2⟩,hne⟩:=pairC_zero c
  by_cases d:rbit rows a.toNat b.toNat=true
  ·rw[if_pos d];exact .inl ⟨5,rfl,by decide⟩
  ·rw[if_neg d]
   have ha:a.toNat<N:=by omega
   have hb:b.toNat<N:=by omega
   have gq:GV N (put2 rows a.toNat b.toNat):=g.put2 ha hb (by omega)
   have e:put2 rows a b=put2 rows (a.toNat:Int) (b.toNat:Int):=by rw[Int.toNat_of_nonneg a1,Int.toNat_of_nonneg b1]
   rw[e]
   exact .inr ⟨_,rfl,gq,fun h0=>put_gir g ha hb gq h0⟩
 ·rw[if_pos c];exact .inl ⟨_,rfl,c⟩
theorem giA_gv {N:Nat} {rows:List Int} (g:GV N rows):giA N rows=if girF rows N 0 0=0 then(0,4)else(girF rows N 0 0,0):=by
 unfold giA
 rw[if_neg (not_not_intro g),Int.toNat_natCast]
section
variable {h P0:VH} {cd:Value} {xs:List Int} {N:Nat}
abbrev topV (h:VH) (N:Nat) (last k:Int):List Value:= [.pointer (some ⟨h.length,0,some 3⟩),.int .i64 N,.pointer (some ⟨h.length+2,0,some 2⟩),.int .i64 last,.int .i64 k]
set_option maxHeartbeats 4000000 in
theorem l_top_step {Q:VH} {s:SS} {rows:List Int} {last:Int} (T:TopI nro h P0.length cd xs N Q s rows last) (hs:Sl h cd (bys xs)) (hx:Code' xs) (hn:nro≤h.length)
  (h5: ∀o,P0[h.length+2]? =some o→ ∀r∈orefs o,r<P0.length) (k:Nat) (hk:k<1000):
  ∃Q' s' rows' last',TopI nro h P0.length cd xs N Q' s' rows' last' ∧
   floop (vcall F nro) nro [3,4,5,6,7] i_zz102_B1 P0 (topV h N last ((k+1:Nat):Int)) Q=floop (vcall F nro) nro [3,4,5,6,7] i_zz102_B1 P0 (topV h N last' k) Q' :=by
 have hlo:=T.gv.lo
 have hle:=T.gv.rok.le
 have hB:=T.hB
 obtain⟨x1,s1,Q1,T1,a1,a2,d1⟩:=T.dice hs hx hn N (by omega) (by omega)
 obtain⟨x2,s2,Q2,T2,b1,b2,d2⟩:=T1.dice hs hx hn N (by omega) (by omega)
 have hB2:=T2.len
 obtain⟨v,g1,g2⟩:=T2.gr
 have hn2:nro≤Q2.length:=by omega
 have hp1:=c_zz87 (nro:=nro) N x1 x2 v rows Q2 g2 hn2
 have w1:IntKind.i64.wrap (k:Int)=k:=wrap64 (by omega) (by omega)
 have hn3:=fun m=>Nat.le_trans hn2 (Nat.le_add_right Q2.length m)
 have kp:(0:Int)<((k+1:Nat):Int):=by omega
 have o1: ∀ {lst:Int},∀v∈topV h N lst k,Old P0.length v:=fun v hv=>by
  simp only[topV,List.mem_cons,List.not_mem_nil,or_false]at hv
  rcases hv with rfl|rfl|rfl|rfl|rfl<;>intro r hr<;>simp[trefs,vrefs,crefs,arefs]at hr<;>omega
 have lt5:h.length+2<Q2.length:=by omega
 have nr5:nro≤h.length+2:=by omega
 have lt3: ∀m,h.length<Q2.length+m:=fun m=>by omega
 have gA: ∀L,(Q2++L)[h.length+2]? =some ⟨0,[.int .i64 N,v]⟩:=fun L=>by rw[List.getElem?_append_left lt5];exact g1
 rcases put_cases T2.gv x1 x2 with⟨c,e,hc⟩|⟨rows',e,gq,hgir⟩
 ·rw[e,gres_inr]at hp1
  have hp2:=c_zz90 (nro:=nro) N x1 x2 v rows (Q2++ [⟨0,[.int .i64 0,.slice none 0 0]⟩]) (g2.app _) (by simp;omega)
  rw[e,gres_inr]at hp2
  have hgr:=c_zz95 (nro:=nro) 0 0 (.slice none 0 0) (.slice none 0 0) [] [] (Q2++ [⟨0,[.int .i64 0,.slice none 0 0]⟩,⟨0,[.int .i64 0,.slice none 0 0]⟩]) (sli_nil _) (sli_nil _) (by simp)
  rw[decide_eq_true (by simp)]at hgr
  obtain⟨Q',T',hcl⟩:=(T2.app [⟨0,[.int .i64 0,.slice none 0 0]⟩,⟨0,[.int .i64 0,.slice none 0 0]⟩]).clean rfl h5 (o1 (lst:=last))
  refine⟨Q',s2,rows,last,T',?_⟩
  unfold topV at hcl⊢
  clear T T1 T2 T' hs hx h5 g2
  rw[floop_at i_zz102_B1.eq_1]
  simp (disch:=first|assumption|omega|(simp[*]<;>omega)|fail) [-getElem?_pos,gz_,gs_,d1,d2,hp1,hp2,hgr,w1,kp,g1,gA,hc,hcl,hn2,hn3]
 ·rw[e,gres_inl]at hp1
  obtain⟨S,hS⟩: ∃S:Value,S= .slice (some ⟨Q2.length,0,none⟩) rows'.length rows'.length:=⟨_,rfl⟩
  have hp2:=c_zz90 (nro:=nro) N x1 x2 v rows (Q2++ [⟨1,ints rows'⟩,⟨0,[.int .i64 N,S]⟩]) (g2.app _) (by simp;omega)
  rw[e,gres_inl]at hp2
  obtain⟨S2,hS2⟩: ∃S3:Value,S3= .slice (some ⟨(Q2++([⟨1,ints rows'⟩,⟨0,[.int .i64 N,S]⟩]:VH)).length,0,none⟩) rows'.length rows'.length:=⟨_,rfl⟩
  rw[←hS2]at hp2
  rw[←hS]at hp1
  obtain⟨L,hL⟩: ∃L:VH,L= [⟨1,ints rows'⟩,⟨0,[.int .i64 N,S]⟩,⟨1,ints rows'⟩,⟨0,[.int .i64 N,S2]⟩]:=⟨_,rfl⟩
  have i1: ∀Z:VH,Z.length=Q2.length→Sli (Z++L) S rows' :=fun Z hZ=>by
   subst hS hL
   unfold Sli Sl vsrc
   simp only
   rw[List.getElem?_append_right (by omega),hZ]
   simp
  have i2:Sli (Q2++L) S2 rows' :=by
   subst hS2 hL
   unfold Sli Sl vsrc
   simp only
   rw[List.length_append,List.getElem?_append_right (by omega)]
   simp
  have hgr:=c_zz95 (nro:=nro) N N S S2 rows' rows' (Q2++L) (i1 Q2 rfl) i2 (by have:=gq.rok.len;have:=gq.rok.le;omega)
  rw[decide_eq_true ⟨rfl,rfl⟩]at hgr
  have i3:=i1 (Q2.set (h.length+2) ⟨0,[.int .i64 N,S]⟩) (by simp)
  have hi:=c_zz85 (nro:=nro) N S rows' _ i3 (by simp;omega)
  have hj:=c_zz89 (nro:=nro) N S rows' _ i3 (by simp;omega)
  rw[giA_gv gq]at hi hj
  have gB:(Q2.set (h.length+2) ⟨0,[.int .i64 N,S]⟩++L)[h.length+2]? =some ⟨0,[.int .i64 N,S]⟩:=by
   rw[List.getElem?_append_left (by simpa using lt5),List.getElem?_set_self lt5]
  have sj:isJunk S=false:=by subst hS;rfl
  have sj2:isJunk S2=false:=by subst hS2;rfl
  unfold isJunk at sj sj2
  have hset:(Q2++L).set (h.length+2) ⟨0,[.int .i64 N,S]⟩=Q2.set (h.length+2) ⟨0,[.int .i64 N,S]⟩++L:=List.set_append_left _ _ lt5
  have hl3:girF rows' N 0 0≤62:=girF_le gq
  have hl0:=girF_ge' (rows:=rows') (n:=N) 0 0 (by omega)
  by_cases z:girF rows' N 0 0=0
  ·have hla:last=1000:=by
    rcases T2.la with⟨_,c⟩|⟨c,_⟩
    ·exact c
    ·exact absurd z (hgir c).1
   have T3:=T2.put (rows' :=rows') (last' :=last) L (k:=0) (by subst hL;rfl) gq (.inl ⟨z,hla⟩)
   simp only[Nat.add_zero]at T3
   rw[←hS]at T3
   obtain⟨Q',T',hcl⟩:=T3.clean rfl h5 (o1 (lst:=last))
   refine⟨Q',s2,rows',last,T',?_⟩
   rw[if_pos z]at hi hj
   unfold topV at hcl⊢
   clear T T1 T2 T3 T' hs hx h5 g2 hgir z hla hl3 hl0 i1 i2 i3 gq e hS hS2
   subst hL
   rw[floop_at i_zz102_B1.eq_1]
   simp (disch:=first|assumption|omega|(simp[*]<;>omega)|fail) [-getElem?_pos,gz_,gs_,d1,d2,hp1,hp2,hgr,w1,kp,g1,gA,gB,nr5,sj,sj2,hset,hi,hj,hcl,hn2,hn3]
  ·obtain⟨G,hG⟩: ∃G,G=girF rows' N 0 0:=⟨_,rfl⟩
   have hla:G≤last:=by
    rcases T2.la with⟨_,c⟩|⟨c,c2⟩
    ·omega
    ·have:=(hgir c).2;omega
   have T3:=T2.put (rows' :=rows') (last' :=G) L (k:=0) (by subst hL;rfl) gq (.inr ⟨z,hG⟩)
   simp only[Nat.add_zero]at T3
   rw[←hS]at T3
   obtain⟨Q',T',hcl⟩:=T3.clean rfl h5 (o1 (lst:=G))
   refine⟨Q',s2,rows',G,T',?_⟩
   rw[if_neg z,←hG]at hi hj
   have hla2: ¬last<G:=by omega
   unfold topV at hcl⊢
   clear T T1 T2 T3 T' hs hx h5 g2 hgir z hla hl3 hl0 i1 i2 i3 gq e hS hS2 hG
   subst hL
   rw[floop_at i_zz102_B1.eq_1]
   simp (disch:=first|assumption|omega|(simp[*]<;>omega)|fail) [-getElem?_pos,gz_,gs_,d1,d2,hp1,hp2,hgr,w1,kp,g1,gA,gB,nr5,sj,sj2,hset,hi,hj,hcl,hla2,hn2,hn3]
theorem l_top (hs:Sl h cd (bys xs)) (hx:Code' xs) (hn:nro≤h.length) (h5: ∀o,P0[h.length+2]? =some o→ ∀r∈orefs o,r<P0.length): ∀(k:Nat) {Q:VH} {s:SS} {rows:List Int} {last:Int},TopI nro h P0.length cd xs N Q s rows last→k≤1000→
  ∃Q' s' rows' last',TopI nro h P0.length cd xs N Q' s' rows' last' ∧
   floop (vcall F nro) nro [3,4,5,6,7] i_zz102_B1 P0 (topV h N last k) Q=some (.exit 0,fl [(4,.int .i64 N),(5,.pointer (some ⟨h.length+2,0,some 2⟩))],Q')
 | 0, Q, s, rows, last, T, _ => by
  refine⟨Q,s,rows,last,T,?_⟩
  rw[floop_at i_zz102_B1.eq_1]
  simp (disch:=first|assumption|omega|(simp[*]<;>omega)|fail) [-getElem?_pos,gz_,gs_,]
 | k + 1, Q, s, rows, last, T, hk => by
  obtain⟨Q1,s1,r1,l1,T1,e1⟩:=l_top_step T hs hx hn h5 k (by omega)
  obtain⟨Q2,s2,r2,l2,T2,e2⟩:=l_top hs hx hn h5 k T1 (by omega)
  exact⟨Q2,s2,r2,l2,T2,e1.trans e2⟩
end
end

/- Cones of graphs, by both. -/
section
open Go
variable {nro:Nat}
abbrev ch (h:VH) (n:Int) (s:Value) (X:VH) (N b:Nat) (r:List Int):VH:=h++ [⟨0,[.int .i64 n,s]⟩,⟨0,[.int .i64 0,.slice none 0 0]⟩]++X++ [⟨1,ints r⟩,⟨0,[.int .i64 N,.slice (some ⟨b,0,none⟩) N N]⟩]
end

/- Renumbered graphs, by the program. -/
section
open Go
variable {nro:Nat}
def renAdj (rows ps:List Int) (n:Nat) (x y:Nat):Prop:= ∃a b,a<n∧b<n∧rbit rows a b=true∧(ps.getD a 0).toNat=x∧(ps.getD b 0).toNat=y
structure Perm0 (n:Nat) (ps:List Int):Prop where
 len:ps.length=n
 bd: ∀v,v<n→0≤ps.getD v 0∧ps.getD v 0<n
 inj: ∀v w,v<n→w<n→ps.getD v 0=ps.getD w 0→v=w
theorem Perm0.nodup {n:Nat} {ps:List Int} (P:Perm0 n ps):ps.Nodup:=by
 rw[List.nodup_iff_pairwise_ne,List.pairwise_iff_getElem]
 intro i j hi hj hij e
 have:=P.inj i j (by have:=P.len;omega) (by have:=P.len;omega) (by rw[getD_at ps hi,getD_at ps hj];exact e)
 omega
theorem Perm0.perm {n:Nat} {ps:List Int} (P:Perm0 n ps):ps.Perm (rng n):=by
 have hrl:(rng n).Nodup:=by
  unfold rng
  rw[List.nodup_iff_pairwise_ne,List.pairwise_map]
  exact List.pairwise_lt_range.imp fun h=>by omega
 refine(List.perm_ext_iff_of_nodup P.nodup hrl).mpr fun x=> ?_
 have hm:x∈rng n↔0≤x∧x<n:=by
  unfold rng
  rw[List.mem_map]
  constructor
  ·rintro⟨a,ha,rfl⟩
   have:=List.mem_range.mp ha
   omega
  ·rintro⟨h1,h2⟩
   exact⟨x.toNat,List.mem_range.mpr (by omega),by omega⟩
 rw[hm]
 constructor
 ·intro hx
  obtain⟨i,hi,rfl⟩:=List.mem_iff_getElem.mp hx
  have:=P.bd i (by have:=P.len;omega)
  rwa [getD_at ps hi]at this
 ·rintro⟨h1,h2⟩
  obtain⟨v,hv,e⟩:=inj_sur n (fun v=>(ps.getD v 0).toNat) (fun v hv=>by have:=P.bd v hv;omega) (fun v w hv hw e=>by
   have a:=P.bd v hv
   have b:=P.bd w hw
   exact P.inj v w hv hw (by omega)) x.toNat (by omega)
  have a:=P.bd v hv
  have hvl:v<ps.length:=by have:=P.len;omega
  rw[getD_at ps hvl]at e a
  have:x=ps[v]:=by omega
  rw[this]
  exact List.getElem_mem hvl
theorem rng_srt (n:Nat):(rng n).Pairwise (· ≤ ·):=by
 unfold rng
 rw[List.pairwise_map]
 exact List.pairwise_lt_range.imp fun h=>by omega
theorem Perm0.sorted {n:Nat} {ps:List Int} (P:Perm0 n ps):insS 0 ps.length ps=rng n:=by
 have q:=insS_perm (a:=0) (b:=ps.length) (xs:=ps) (Nat.le_refl _)
 have q2:=insS_sorted (a:=0) (b:=ps.length) (xs:=ps) (Nat.le_refl _)
 rw[←q.length_eq]at q2
 rw[q.length_eq]at q2
 exact perm_sorted_eq _ _ (q.trans P.perm) (srtB_pw.mp (by rw[q.length_eq];exact q2)) (rng_srt n)
structure RF (H:VH) (b0 N i7:Nat) (t:Value) (ps:List Int):Prop where
 b: ∃q0,H[b0]? =some ⟨1,ints q0⟩
 h7:H[i7]? =some ⟨0,[.int .i64 N,.slice (some ⟨b0,0,none⟩) N N]⟩
 n7:i7≠b0
 t: ∀r,Sli (H.set b0 ⟨1,ints r⟩) t ps
def rnE (ps:List Int) (e:List Int) (x y:Nat):Prop:= ∃u w:Nat,e= [(u:Int),(w:Int)]∧joins (ps.getD u 0).toNat (ps.getD w 0).toNat x y
set_option maxHeartbeats 1000000 in
theorem l_impl_Renumber (H:VH) (b0 N i7:Nat) (t p4 q:Value) (es:List (List Int)) (vs:List Value) (ps:List Int) (hP:RF H b0 N i7 t ps) (P:Perm0 N ps) (l1:LLq H b0 q es vs) (hes: ∀e∈es,∃u w:Nat,u<N∧w<N∧u≠w∧e= [(u:Int),(w:Int)]) (h4:Old H.length p4) (hn:nro≤b0) (hN2:N≤62) (hl:es.length≤100000)
  (r0:List Int) (A:Nat→Nat→Prop) (hA:IsAdj N r0 A):
  ∃r,IsAdj N r (fun x y=>A x y∨ ∃e∈es,rnE ps e x y)∧floop (vcall F nro) nro [1,4,7,29,30,31] i_zz54_B1 H [t,p4,.pointer (some ⟨i7,0,some 2⟩),q,.int .i64 es.length,.int .i64 0] (H.set b0 ⟨1,ints r0⟩)=
   some (.exit 0,fl [(4,p4),(7,.pointer (some ⟨i7,0,some 2⟩))],H.set b0 ⟨1,ints r⟩):=by
 obtain⟨q0,hb⟩:=hP.b
 have hbl:=(List.getElem?_eq_some_iff.mp hb).1
 have o7:i7<H.length:=(List.getElem?_eq_some_iff.mp hP.h7).1
 have po7:Old H.length (.pointer (some ⟨i7,0,some 2⟩)):=fun r hr=>by simp[trefs,vrefs,crefs,arefs]at hr;omega
 have oq:Old H.length q:=by have:=(l1.out r0).old;simpa using this
 have ot:Old H.length t:=by have:=(hP.t r0).old;simpa using this
 refine Exists.elim (for_upR (call:=vcall F nro) (nro:=nro) (live:= [1,4,7,29,30,31]) (c:=i_zz54_B1) (h0:=H) (n:=es.length) (fun k (_:List Int)=> [t,p4,.pointer (some ⟨i7,0,some 2⟩),q,.int .i64 es.length,.int .i64 k]) (fun _ r=>H.set b0 ⟨1,ints r⟩)
  (fun k r=>IsAdj N r (fun x y=>A x y∨ ∃e∈es.take k,rnE ps e x y)) (fun r=>some (.exit 0,fl [(4,p4),(7,.pointer (some ⟨i7,0,some 2⟩))],H.set b0 ⟨1,ints r⟩)) ?_ ?_ 0 r0 (Nat.zero_le _) (hA.congr fun x y _=>by simp)) ?_
 ·intro k r hk hk2 hI
  obtain⟨u,w,hu,hw,hne,he⟩:=hes _ (List.getElem_mem hk)
  have hge:es.getD k []=es[k]:=by rw[List.getD_eq_getElem?_getD,List.getElem?_eq_getElem hk];rfl
  have hkv:k<vs.length:=by rw[l1.len];exact hk
  have s6:=l1.out r
  have f6:=l1.inn k hkv r
  rw[hge,he]at f6
  have st:=hP.t r
  have hpl:=P.len
  have hul:u<ps.length:=by omega
  have hwl:w<ps.length:=by omega
  have ru:=P.bd u hu
  have rw' :=P.bd w hw
  have hpn:ps.getD u 0≠ps.getD w 0:=fun e=>hne (P.inj u w hu hw e)
  have hput:=c_zz73 (nro:=nro) N b0 N (ps.getD u 0) (ps.getD w 0) r (H.set b0 ⟨1,ints r⟩) (hget_set0 hb _) hI.1 hn ru.1 (by omega) rw'.1 (by omega) hN2
  rw[if_neg hpn,List.set_set]at hput
  have hI2:=hI.put2 (a:=ps.getD u 0) (b:=ps.getD w 0) ru.1 (by omega) rw'.1 (by omega) hN2
  refine⟨put2 r (ps.getD u 0) (ps.getD w 0),hI2.congr fun x y _=> ?_,?_⟩
  ·rw [List.take_succ_eq_append_getElem hk]
   constructor
   ·rintro((h|⟨e,h1,h2⟩)|h)
    ·exact .inl h
    ·exact .inr ⟨e,List.mem_append_left _ h1,h2⟩
    ·exact .inr ⟨es[k],List.mem_append_right _ (List.mem_singleton.mpr rfl),u,w,he,h⟩
   ·rintro(h|⟨e,h1,h2⟩)
    ·exact .inl (.inl h)
    ·rcases List.mem_append.mp h1 with h1|h1
     ·exact .inl (.inr ⟨e,h1,h2⟩)
     ·rw[List.mem_singleton]at h1
      obtain⟨u',w',e1,e2⟩:=h2
      rw[h1,he]at e1
      simp at e1
      obtain⟨e3,e4⟩:=e1
      have:u' =u:=by omega
      have:w' =w:=by omega
      subst u' w'
      exact .inr e2
  have x1:=s6.vidx (k:= .i64) (j:=(k:Int)) (by omega) (by rw[l1.len];omega)
  have x2:=s6.vload hkv
  have y1:=f6.vidx (k:= .i64) (j:=0) (by omega) (by simp)
  have y2:=f6.vload (j:=0) (by simp)
  have y3:=f6.vidx (k:= .i64) (j:=1) (by omega) (by simp)
  have y4:=f6.vload (j:=1) (by simp)
  have z1:=st.vidx (k:= .i64) (j:=(u:Int)) (by omega) (by omega)
  have z2:=st.vload hul
  have z3:=st.vidx (k:= .i64) (j:=(w:Int)) (by omega) (by omega)
  have z4:=st.vload hwl
  rw[←getD_at ps hul]at z2
  rw[←getD_at ps hwl]at z4
  have h7:(H.set b0 ⟨1,ints r⟩)[i7]? =some ⟨0,[.int .i64 N,.slice (some ⟨b0,0,none⟩) N N]⟩:=by
   rw[List.getElem?_set_ne (fun e=>hP.n7 e.symm)];exact hP.h7
  have w3:IntKind.i64.wrap ((k:Int)+1)=(k:Int)+1:=wrap64 (by omega) (by omega)
  obtain⟨r',hr'⟩: ∃r',r' =put2 r (ps.getD u 0) (ps.getD w 0):=⟨_,rfl⟩
  rw[←hr']at hput⊢
  have hcl:=fun(vs:List Value)=>cleanup_upd (L:= []) ((Upd.rfl' H).set' (b:=b0) (o:=⟨1,ints r'⟩) (flatO_ints _ _ _)) (vs:=vs)
  simp only[List.append_nil]at hcl
  simp only[Int.toNat_natCast,Int.toNat_zero,Int.toNat_one,List.getElem_cons_zero,List.getElem_cons_succ]at x1 y1 y2 y3 y4 z1 z3
  generalize ps.getD u 0=a at z2 hput
  generalize ps.getD w 0=b at z4 hput
  generalize vs[k]=vk at x2 y1 y2 y3 y4
  rw[floop_at i_zz54_B1.eq_1]
  clear hI hI2 hr' s6 f6 st hP P l1 hes hA he hge ru rw' hpn hb
  simp (disch:=first|assumption|omega|(simp[*]<;>omega)|fail) [-getElem?_pos,gz_,gs_,hk,hk2,x1,x2,y1,y2,y3,y4,z1,z2,z3,z4,h7,hput,w3,hcl,po7,oq,ot,h4]
 ·intro r _
  rw[floop_at i_zz54_B1.eq_1]
  simp (disch:=first|assumption|omega|(simp[*]<;>omega)|fail) [-getElem?_pos,gz_,gs_,]
 ·rintro r ⟨h1,h2⟩
  rw[List.take_length]at h1
  exact⟨r,h1,h2⟩
theorem ren_done {n:Nat} {rows ps r:List Int} (g:GV n rows) (h:IsAdj n r (fun x y=>False∨ ∃e∈edgesF rows n 0,rnE ps e x y)):IsAdj n r (renAdj rows ps n):=h.congr fun x y _=>by
 unfold renAdj rnE joins
 constructor
 ·rintro(h|⟨e,he,u,w,rfl,h⟩)
  ·exact h.elim
  ·obtain⟨u',w',_,h2,h3,h4,h5⟩:=(edgesF_mem rows n 0 _).mp he
   simp at h5
   have e1:u=u' :=by omega
   have e2:w=w' :=by omega
   subst e1 e2
   rcases h with⟨rfl,rfl⟩|⟨rfl,rfl⟩
   ·exact⟨u,w,by omega,h3,h4,rfl,rfl⟩
   ·exact⟨w,u,h3,by omega,g.sym' h4,rfl,rfl⟩
 ·rintro⟨a,b,ha,hb,hab,rfl,rfl⟩
  rcases Nat.lt_trichotomy a b with c|c|c
  ·exact .inr ⟨_,(edgesF_mem rows n 0 _).mpr ⟨a,b,Nat.zero_le _,c,hb,hab,rfl⟩,a,b,rfl,.inl ⟨rfl,rfl⟩⟩
  ·subst c
   have:=(g.row a (by have:=g.rok.len;omega)).2.2
   rw[this]at hab;cases hab
  ·exact .inr ⟨_,(edgesF_mem rows n 0 _).mpr ⟨b,a,Nat.zero_le _,c,ha,g.sym' hab,rfl⟩,b,a,rfl,.inr ⟨rfl,rfl⟩⟩
abbrev rnX (h:VH) (N:Nat) (s:Value) (r:List Int):VH:= [⟨0,[.int .i64 N,s]⟩,⟨0,[.int .i64 0,.slice none 0 0]⟩,⟨1,ints (rng N)⟩,⟨1,ints (rng N)⟩,⟨1,ints r⟩,⟨0,[.int .i64 N,.slice (some ⟨h.length+4,0,none⟩) N N]⟩]
open Classical in
set_option maxHeartbeats 1000000 in
theorem c_zz54 (N:Nat) (s t:Value) (rows ps:List Int) (h:VH) (hs:Sli h s rows) (ht:Sli h t ps) (g:GV N rows) (P:Perm0 N ps) (hn:nro≤h.length):
  vcall F nro k_zz54 [gv N s,t] h=some (gres h (.inl (N,adjRows N (renAdj rows ps N)))):=by
 have hn' :=fun k=>Nat.le_trans hn (Nat.le_add_right h.length k)
 have R:=g.rok
 have hle:=R.le
 have glo:=g.lo
 have hpl:=P.len
 have hg:=c_zz86 (nro:=nro) N s rows (h++ [⟨0,[.int .i64 N,s]⟩,⟨0,[.int .i64 0,.slice none 0 0]⟩]) (hs.app _)
 rw[decide_eq_true g]at hg
 have hcl:=c_slices_Clone (nro:=nro) t ps (h++ [⟨0,[.int .i64 N,s]⟩,⟨0,[.int .i64 0,.slice none 0 0]⟩]) (ht.app _) (fun e=>by rw[e]at hpl;simp at hpl;omega) (by omega) (by simp;omega)
 have hso:=c_Sort (nro:=nro) (G:=h++ [⟨0,[.int .i64 N,s]⟩,⟨0,[.int .i64 0,.slice none 0 0]⟩,⟨1,ints ps⟩]) (blk:=h.length+2) (xs:=ps) (by simp) (hn' 2) (by omega)
 rw[P.sorted]at hso
 have hct:=c_zz79 (nro:=nro) N (h++ [⟨0,[.int .i64 N,s]⟩,⟨0,[.int .i64 0,.slice none 0 0]⟩,⟨1,ints (rng N)⟩]) (by simp;omega) hle
 have hrl:(rng N).length=N:=by simp[rng]
 have s1:=sli_at (h:=h++ [⟨0,[.int .i64 N,s]⟩,⟨0,[.int .i64 0,.slice none 0 0]⟩,⟨1,ints (rng N)⟩,⟨1,ints (rng N)⟩]) (b:=h.length+2) (xs:=rng N) (by simp)
 have s2:=sli_at (h:=h++ [⟨0,[.int .i64 N,s]⟩,⟨0,[.int .i64 0,.slice none 0 0]⟩,⟨1,ints (rng N)⟩,⟨1,ints (rng N)⟩]) (b:=h.length+3) (xs:=rng N) (by simp)
 have heq:=c_slices_Equal (nro:=nro) _ _ (rng N) (rng N) _ s1 s2 (by omega)
 rw[decide_eq_true rfl]at heq
 rw[hrl]at heq
 rw[hpl]at hcl hso
 have hE:=c_zz100 (nro:=nro) N (h++ [⟨0,[.int .i64 N,s]⟩,⟨0,[.int .i64 0,.slice none 0 0]⟩,⟨1,ints (rng N)⟩,⟨1,ints (rng N)⟩]) (by omega) (by omega) (by simp;omega)
 rw[Int.toNat_natCast]at hE
 obtain⟨q,M,e1,e2⟩:=c_zz59 (nro:=nro) N s rows (h++rnX h N s (List.replicate N 0)) (hs.app _) (by simp;omega) R
 obtain⟨vs,l1⟩:=LLq.of (L:= []) e2 (b0:=h.length+4) (by simp)
 rw[List.append_nil]at l1
 have hps: ∀r,Sli ((h++rnX h N s (List.replicate N 0)++M).set (h.length+4) ⟨1,ints r⟩) t ps:=fun r=>by
  rw[List.append_assoc,hsetk]
  exact ht.app _
 have hel:(edgesF rows N 0).length≤100000:=by
  have:=edges_len rows N 0 hle
  omega
 obtain⟨r,a1,lp⟩:=l_impl_Renumber (nro:=nro) _ (h.length+4) N (h.length+5) t (cp1 h) q (edgesF rows N 0) vs ps ⟨⟨List.replicate N 0,by rw[List.append_assoc,hgetk];rfl⟩,by rw[List.append_assoc,hgetk];rfl,by omega,hps⟩ P l1
  (fun e he=>by
   obtain⟨u,k,_,h2,h3,_,rfl⟩:=(edgesF_mem rows N 0 e).mp he
   exact⟨u,k,by omega,h3,by omega,rfl⟩) (by simp) (hn' 4) hle hel (List.replicate N 0) _ (IsAdj.zero N)
 have hset:(h++rnX h N s (List.replicate N 0)++M).set (h.length+4) ⟨1,ints (List.replicate N 0)⟩=h++(rnX h N s (List.replicate N 0)++M):=by
  rw[List.append_assoc,hsetk];rfl
 have hset2:(h++rnX h N s (List.replicate N 0)++M).set (h.length+4) ⟨1,ints r⟩=h++(rnX h N s r++M):=by
  rw[List.append_assoc,hsetk];rfl
 rw[hset,hset2,List.append_assoc]at lp
 have a3:=ren_done g a1
 have e:adjRows N (renAdj rows ps N)=r:=a3.eq
 rw[e]
 have hrl2:=a1.1
 obtain⟨qa,qm,rfl⟩:=e2.shape
 have hln:qm=(edgesF rows N 0).length:=by
  obtain⟨b,vs',e5,_⟩:=e2
  cases e5;rfl
 have hql:vlen (h++(rnX h N s (List.replicate N 0)++M)) (.slice (some qa) qm qm)=some (.int .i64 (edgesF rows N 0).length,h++(rnX h N s (List.replicate N 0)++M)):=by
  have:=(l1.out (List.replicate N 0)).vlen
  rw[hset]at this
  rw[this,l1.len]
 simp only[gres,hrl2]
 generalize(edgesF rows N 0).length=E at lp hql hln hel
 unfold rnX at *
 generalize rng N=G at hso hct heq hE e1 lp hql hrl
 rw[List.append_assoc]at e1
 have hoh: ∀k,Old (h.length+k) s:=fun k=>hs.oldk
 have hot: ∀k,Old (h.length+k) t:=fun k=>ht.oldk
 simp at hcl hso hct heq hE e1 lp hql
 clear a1 a3 e g P hs ht R hps l1 e2 hset hset2 s1 s2
 refine v_zz54 (by simp[i_zz54]) ?_
 rw[fbody_eq]
 simp (disch:=first|assumption|omega|(simp[*]<;>omega)|fail) [i_zz54,hg,hcl,hso,hct,heq,hE,e1,hql,lp,hrl2,hrl,hn',hn,splice,fresults,fresL,fres1]
end

/- A renumbered graph; the order of FnTop. -/
section
open Go
variable {nro:Nat}
section
variable {N:Nat} {rows ps:List Int} (g:GV N rows) (P:Perm0 N ps)
include g P
theorem ren_is:IsAdj N (adjRows N (renAdj rows ps N)) (renAdj rows ps N):=adjRows_is fun v w _ h=>by
 obtain⟨a,b,ha,hb,_,_,e⟩:=h
 have:=P.bd b hb
 have:=g.rok.le
 omega
theorem ren_gv:GV N (adjRows N (renAdj rows ps N)):=by
 have hlo:=g.lo
 refine GV.of (ren_is g P) (by omega) g.rok.le (fun v w _ h=> ?_) (fun v h=> ?_) (fun v w h=> ?_)
 ·obtain⟨a,b,ha,hb,_,_,e⟩:=h
  have:=P.bd b hb
  omega
 ·obtain⟨a,b,ha,hb,hab,e1,e2⟩:=h
  have h1:=P.bd a ha
  have h2:=P.bd b hb
  have:=P.inj a b ha hb (by omega)
  exact g.ne hab this
 ·obtain⟨a,b,ha,hb,hab,e1,e2⟩:=h
  exact⟨b,a,hb,ha,g.sym' hab,e2,e1⟩
theorem ren_iso:IsoG rows (adjRows N (renAdj rows ps N)) N fun v=>(ps.getD v 0).toNat:=by
 refine isoG_of (fun v hv=> ?_) (fun v w hv hw e=> ?_) (fun v w hv hw=> ?_)
 ·have:=P.bd v hv
  omega
 ·have h1:=P.bd v hv
  have h2:=P.bd w hw
  exact P.inj v w hv hw (by omega)
 ·have h1:=P.bd v hv
  have h2:=P.bd w hw
  rw[((ren_is g P).2 _ (by omega)).2.2]
  constructor
  ·intro h;exact⟨v,w,hv,hw,h,rfl,rfl⟩
  ·rintro⟨a,b,ha,hb,hab,e1,e2⟩
   have h3:=P.bd a ha
   have h4:=P.bd b hb
   have:=P.inj a v ha hv (by omega)
   have:=P.inj b w hb hw (by omega)
   subst_vars
   exact hab
open Classical in
theorem ren_same:isoA N rows N (adjRows N (renAdj rows ps N))=(true,0):=by
 unfold isoA
 rw[if_pos ⟨g,ren_gv g P⟩,decide_eq_true ⟨rfl,_,by rw[Int.toNat_natCast];exact ren_iso g P⟩]
theorem ren_cs:csA N (adjRows N (renAdj rows ps N))=csA N rows∧giA N (adjRows N (renAdj rows ps N))=giA N rows:=iso_csA g (ren_gv g P) (ren_iso g P)
end
def topO (N k:Nat):List Int:=tbl k fun v=>(((v+N - 1) % N:Nat):Int)
theorem topO_perm {N:Nat} (h:1≤N):Perm0 N (topO N N):=by
 have e: ∀v,v<N→(v+N - 1) % N=if v=0 then N - 1 else v - 1:=fun v hv=>by
  split
  ·rename_i c;subst c;rw[Nat.zero_add];exact Nat.mod_eq_of_lt (by omega)
  ·rw[show v+N - 1=v - 1+N by omega,Nat.add_mod_right];exact Nat.mod_eq_of_lt (by omega)
 refine⟨by simp[topO],fun v hv=> ?_,fun v w hv hw h=> ?_⟩
 ·unfold topO
  rw[tbl_getD hv]
  have:=Nat.mod_lt (v+N - 1) (show N>0 by omega)
  omega
 ·unfold topO at h
  rw[tbl_getD hv,tbl_getD hw,e v hv,e w hw]at h
  split at h<;>split at h<;>omega
theorem topO_succ (N k:Nat):ints (topO N k)++ [.int .i64 (((k+N - 1) % N:Nat):Int)]=ints (topO N (k+1)):=by
 simp[topO,tbl,List.range_succ,ints]
theorem l_top_2 (H:VH) (N:Nat) (p5:Value) (h5:Old H.length p5) (hp:isJunk p5=false) (h1:1≤N) (h2:N≤62) (hn:nro≤H.length):
  floop (vcall F nro) nro [4,5,18,19] i_zz102_B2 (H++ [⟨1,[]⟩]) [.int .i64 N,p5,.slice (some ⟨H.length,0,none⟩) 0 0,.int .i64 0] (H++ [⟨1,[]⟩])=
   some (.exit 2,fl [(5,p5),(18,.slice (some ⟨H.length,0,none⟩) N N)],H++ [⟨1,ints (topO N N)⟩]):=by
 have hn' :=fun k=>Nat.le_trans hn (Nat.le_add_right H.length k)
 have ho:=fun k=>h5.le (Nat.le_add_right H.length k)
 have key:=for_up (call:=vcall F nro) (nro:=nro) (live:= [4,5,18,19]) (c:=i_zz102_B2) (h0:=H++ [⟨1,[]⟩]) (n:=N)
  (fun v (_:Unit)=> [.int .i64 N,p5,.slice (some ⟨H.length,0,none⟩) v v,.int .i64 v]) (fun v _=>H++ [⟨1,ints (topO N v)⟩]) (fun _ u=>u) (fun _ _=>True)
  (fun _=>some (.exit 2,fl [(5,p5),(18,.slice (some ⟨H.length,0,none⟩) N N)],H++ [⟨1,ints (topO N N)⟩]))
  (fun v u hv hv2 _=>⟨trivial,?_⟩) (fun u _=> ?_) 0 () (by omega) trivial
 ·exact key.1
 ·have w1:IntKind.i64.wrap ((v:Int)+1)=(v:Int)+1:=wrap64 (by omega) (by omega)
  have w0:IntKind.i64.wrap (v:Int)=(v:Int):=wrap64 (by omega) (by omega)
  have w2:IntKind.i64.wrap ((v:Int)+N)=(v:Int)+N:=wrap64 (by omega) (by omega)
  have w3:IntKind.i64.wrap ((v:Int)+N - 1)=(v:Int)+N - 1:=wrap64 (by omega) (by omega)
  have hn0: ¬(N:Int)=0:=by omega
  have t1:((v:Int)+N - 1).tmod N=(((v+N - 1) % N:Nat):Int):=by
   rw[Int.tmod_eq_emod_of_nonneg (by omega),show(v:Int)+N - 1=((v+N - 1:Nat):Int) by omega];simp
  have hmd:=Nat.mod_lt (v+N - 1) (show N>0 by omega)
  have hap:=topO_succ N v
  generalize(v+N - 1) % N=md at *
  have w4:IntKind.i64.wrap (md:Int)=md:=wrap64 (by omega) (by omega)
  have hil:(ints (topO N v)).length=v:=by simp[topO]
  have b1:(v+1) * 8≤1099511627776:=by omega
  have b2:v<1099511627776:=by omega
  have e0:ints ([]:List Int)= []:=rfl
  have hcl:=fun(vs:List Value) (hv: ∀w∈vs,Old (H++ [(⟨1,[]⟩:VO)]).length w) (L:VH)=>cleanup_upd (L:=L) (mk_upd H [] [] (topO N (v+1))) (vs:=vs) hv
  rw[e0]at hcl
  generalize topO N (v+1)=m2 at *
  generalize topO N v=m1 at *
  simp at hcl
  rw[floop_at i_zz102_B2.eq_1]
  simp (disch:=first|assumption|omega|(simp[*]<;>omega)|fail) [-getElem?_pos,gz_,gs_,hv,hv2,w0,w1,w2,w3,w4,hn0,t1,hil,hap,b1,b2,hn',hn,ho,hp,hcl]
 ·have hil:(ints (topO N N)).length=N:=by simp[topO]
  rw[floop_at i_zz102_B2.eq_1]
  simp (disch:=first|assumption|omega|(simp[*]<;>omega)|fail) [-getElem?_pos,gz_,gs_,hp]
end

/- The reference's step of a refinement. -/
section
open Go
variable {nro:Nat}
open Classical in
noncomputable def colW (sm:Nat→Prop) (out:List Int) (v w:Nat):Int:=if w<v then(if sm w then out.getD w 0 else colW sm out v (w+1))else -1
 termination_by v - w
theorem EI.shift {n:Nat} {vs:List Value} {G:VH} {ess:List (List Int)} (e:EI (n+1) vs G ess) (o:VO):EI n vs (o::G) ess:=by
 refine⟨e.len,fun i hi=> ?_,e.nd⟩
 obtain⟨k,h1,h2⟩:=e.at_ i hi
 exact⟨k+1,by rw[h1];congr 4;omega,h2⟩
end

/- The reference's step of a refinement: the whole. -/
section
open Go
variable {nro:Nat}
open Classical in
noncomputable def stp (rows cl:List Int) (n:Nat):Nat→List Int × Int
 | 0 => ([], 0)
 | v + 1 =>
  if colW (fun w=>cl.getD w 0=cl.getD v 0∧cnts rows cl n w=cnts rows cl n v) (stp rows cl n v).1 v 0<0 then((stp rows cl n v).1++ [(stp rows cl n v).2],(stp rows cl n v).2+1)
  else((stp rows cl n v).1++ [colW (fun w=>cl.getD w 0=cl.getD v 0∧cnts rows cl n w=cnts rows cl n v) (stp rows cl n v).1 v 0],(stp rows cl n v).2)
theorem stp_len (rows cl:List Int) (n:Nat): ∀v,(stp rows cl n v).1.length=v∧0≤(stp rows cl n v).2∧(stp rows cl n v).2≤v
 | 0 => ⟨rfl, Int.le_refl _, Int.le_refl _⟩
 | v + 1 => by
  obtain⟨h1,h2,h3⟩:=stp_len rows cl n v
  rw[stp]
  split
  ·exact⟨by simp[h1],by simp only;omega,by simp only;omega⟩
  ·exact⟨by simp[h1],by simp only;omega,by simp only;omega⟩
end

end Go.Proofs.YtbomdghbblakoaaGreatDoor.Zv

