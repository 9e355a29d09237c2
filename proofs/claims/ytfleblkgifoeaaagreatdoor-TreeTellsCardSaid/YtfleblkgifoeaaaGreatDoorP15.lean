/- Part of a proof (YG3 YG4 YX9 YX10 YX11 YH1 YRA YH2 YX12 YX13 YX14 YCl YNat L1 YDoor); no condition. -/
import Derived.OpenShut
import Derived.Shelf.LaysM
import Derived.Shelf.Strconv.Clone
import Derived.Test.YtfleblkgifoeaaaGreatDoorProg
import Derived.WalkKit
import Derived.Below
import Derived.ChangeSame
import Derived.ReadAgain
import Derived.ProofKit
import Derived.Test.YtfleblkgifoeaaaGreatDoorRows
import Derived.LaidLaws
import Derived.LaidHandle
import Derived.Lay
import Derived.Test.YtfleblkgifoeaaaGreatDoorP6
import Derived.Test.YtfleblkgifoeaaaGreatDoorP7
import Derived.Test.YtfleblkgifoeaaaGreatDoorP8
import Derived.Test.YtfleblkgifoeaaaGreatDoorP10
import Derived.Test.YtfleblkgifoeaaaGreatDoorP13
import Derived.Test.YtfleblkgifoeaaaGreatDoorP14
set_option linter.unusedSimpArgs false
set_option linter.unusedVariables false
set_option linter.unnecessarySimpa false
namespace Go.Proofs.Wo
open Go.Abs Go.Abs.S
def Py(n pg N:Nat):Prop:=∀(st:St) (c:List ab) (H:aa) (p:ab) (W:Bs) (lev:Nat),st.size<=N->yi st=true->pI st=true->nk H p c->(∀a,p=.ptr (some a)->a.b<n)->XS (·<n) H st c->pA n pg H W->W.length+(iX lev st).length<=1000000000->lev+st.deep<=1000 ->
  aq Tryz.prog aA 82 [ae pg 1 0,p,.int .i64 (lev:Int)] H fun _ H'=>pA n pg H' (W++iX lev st)/\aS n H H'
def LiG(n pg N:Nat):Prop:=∀(l:List St) (C:List ab) (H:aa) (v:ab) (W:Bs) (lev:Nat),az l<=N->cj l=true->ii l=true->eX (·<n) H 9 v l.length C->gc (·<n) H l C->pA n pg H W->W.length+(aL lev l).length<=1000000000->lev+bp l<=1000 ->
  aq Tryz.prog aA 37 [ae pg 1 0,v,.int .i64 (lev:Int)] H fun _ H'=>pA n pg H' (W++aL lev l)/\aS n H H'
theorem vq{e:St}:∀{l:List St},e∈l->e.deep<=bp l
 | [],h=>by simp at h
 | x::l,h=>by
  simp only[bp]
  rcases List.mem_cons.1 h with rfl | h
  ·omega
  ·have:=vq h; omega
theorem Am(lev:Nat)(l:List St):l.length<=(aL lev l).length:=by
 induction l with
 | nil=>simp
 | cons x l ih=>
  have:1<=(iX lev x).length:=by
   cases x
   rename_i k s e b el ln
   simp only[iX,eB]
   split
   ·simp; omega
   split
   ·simp; omega
   split
   ·simp; omega
   ·simp; omega
  simp only[aL,lA,QU]; omega
theorem liG{n pg N:Nat}(ih:Py n pg N):LiG n pg N:=by
 intro l C H v W lev h ho hr z1 z2 G hL hd
 refine af rfl P7 rfl ?_
 have ln:=z1.len
 have hlen:=Am lev l
 simp only[c37,sA,sB,seval,ln]
 refine aG (fun m (T:bG) K=>∃i,m=l.length-i/\i<=l.length/\T 0=ae pg 1 0/\T 1=v/\T 2=.int .i64 (lev:Int)/\T 8=.int .i64 (l.length:Int)/\T 9=.int .i64 (i:Int)/\pA n pg K (W++aL lev (l.take i))/\aS n H K) l.length
  ⟨0,rfl,Nat.zero_le _,by simp only[sA,sB,seval],by simp only[sA,sB,seval],by simp only[sA,sB,seval],by simp only[sA,sB,seval],by simp only[sA,sB,seval]; try rfl,by simpa[aL] using G,aS.refl _ _⟩ ?_
 rintro m T K ⟨i,rfl,hi,t0,t1,t2,t8,t9,GK,EK⟩
 by_cases hlt:i<l.length
 case neg=>
  obtain rfl:i=l.length:=om
  have hlt':¬(l.length:Int)<(l.length:Int):=om
  rw[List.take_length]at GK
  simp only[sA,sB,seval,t0,t1,t2,t8,t9,hlt']
  exact⟨[],rfl,GK,EK⟩
 have hlt':(i:Int)<(l.length:Int):=om
 obtain⟨x,hx'⟩:∃x,l[i]?=some x:=⟨_,QQ hlt⟩
 have hmem:=QY hx'
 have hsm:=eY hmem
 have hdm:=vq hmem
 have hts:l.take (i+1)=l.take i++[x]:=by rw[List.take_add_one,hx']; rfl
 have hall:aL lev l=aL lev (l.take i)++aL lev (l.drop i):=by rw[<- iW,List.take_append_drop]
 have hall2:aL lev l=aL lev (l.take (i+1))++aL lev (l.drop (i+1)):=by rw[<- iW,List.take_append_drop]
 have hs1:aL lev (l.take (i+1))=aL lev (l.take i)++iX lev x:=by rw[hts,iW]; simp[aL]
 have hl2:=congrArg List.length hall2
 rw[hs1,lA,lA]at hl2
 have wi:IntKind.i64.wrap ((i:Int)+1)=((i+1:Nat):Int):=xh
 obtain⟨g1,g2,v',Y,hrp,hv,hb,hc⟩:=id GK.pg
 have lp:am false 1 K (ae pg 1 0)=some v':=ah hrp rfl rfl
 have lY:=hv.len
 by_cases hy:16384<Y.length
 ·have hy':(16384:Int)<(Y.length:Int):=om
  simp only[sA,sB,seval,t0,t1,t2,t8,t9,hlt',aw,fld0,lp,lY,hy']
  refine⟨[],rfl,⟨⟨g1,g2,v',Y,hrp,hv,hb,?_⟩,GK.n1,GK.glo⟩,EK⟩
  rw[hall,<- Q3]
  exact hc.stop _ hy
 have hy':¬(16384:Int)<(Y.length:Int):=om
 have y1:=z1.mono (H':=K) fun b hb=>⟨hb,EK.old b hb⟩
 have y2:=z2.mono (H':=K) fun b hb=>⟨hb,EK.old b hb⟩
 have ix:=y1.idx hlt
 simp only[sA,sB,seval,t0,t1,t2,t8,t9,hlt',aw,fld0,lp,lY,hy',ix]
 refine (ih x _ K _ _ lev om (yf ho hmem) (uI hr hmem) (y1.pt hlt) (fun a ea=>y1.blk hlt a ea) (y2.at hx') GK (by rw[lA]; omega) om).mono ?_
 rintro _ K2 ⟨G2,E2⟩
 simp only[sA,sB,seval,t0,t1,t2,t8,t9,wi]
 refine⟨l.length-(i+1),om,i+1,rfl,om,tt,tt,tt,tt,tt,?_,EK.trans E2⟩
 rw[hs1,<- Q3]; exact G2
theorem stG{n pg N:Nat}(ih:LiG n pg N):Py n pg (N+1):=by
 rintro ⟨k,s,e,body,els,line⟩ c H p W lev h ho hr hp hpb hx G hL hd
 refine af rfl PJ rfl ?_
 have hsz:(St.mk k s e body els line).size=e.size+az body+az els+1:=rfl
 have hdp:(St.mk k s e body els line).deep=max e.deep (max (bp body) (bp els))+1:=rfl
 obtain⟨ce,vb,Cb,ve,Ce,hc,x1,z1,z2,y1,y2⟩:=hx
 subst hc
 obtain⟨c0,c1,c2,c3,rfl⟩:∃a b c d,ce=[a,b,c,d]:=by
  have:=x1.len
  match ce,this with
  | [a,b,c,d],_=>exact⟨a,b,c,d,rfl⟩
 have hok:bS k s body.length els.length=true/\kH e=true/\cj body=true/\cj els=true:=by simpa only [yi,QT] using ho
 have hrg:lC e=true/\ii body=true/\ii els=true:=by
  simp only[pI,QT]at hr
  exact⟨hr.1.1,hr.2.1,hr.2.2⟩
 have hpF:∀{K:aa},aS n H K->nk K p (.int .u8 (k:Int)::.str s::([c0,c1,c2,c3]++[vb,ve,.int .i64 line])):=fun q=>hp.ext q hpb
 have q0:=hp.fld0
 have q1:=hp.fld 1
 have q2:=hp.fld 2
 have q6:=hp.fld 6
 have q7:=hp.fld 7
 have qc:=hp.chk
 have le:=y1.len
 have wl:IntKind.i64.wrap ((lev:Int)+1)=((lev+1:Nat):Int):=xh
 have hsh:iX lev (.mk k s e body els line)=eB k s lev (dK e) (aL (lev+1) body) (aL (lev+1) els) els.isEmpty:=by rw[iX]
 obtain⟨X,hX⟩:∃X,X=dK e:=⟨_,rfl⟩
 obtain⟨B,hB⟩:∃B,B=aL (lev+1) body:=⟨_,rfl⟩
 obtain⟨EL,hEL⟩:∃EL,EL=aL (lev+1) els:=⟨_,rfl⟩
 rw[<- hX,<- hB,<- hEL]at hsh
 have htl:(dr lev).length=lev:=List.length_replicate
 obtain⟨Q,hQ⟩:∃Q:ab->aa->Prop,Q=fun _ H'=>pA n pg H' (W++iX lev (.mk k s e body els line))/\aS n H H':=⟨_,rfl⟩
 rw[<- hQ]
 rw[hsh]at hQ hL
 have ex:∀{K:aa} {W2:Bs},aS n H K->pA n pg K W2->W2.length+X.length<=1000000000->aq Tryz.prog aA 120 [ae pg 1 0,fp p 2] K fun _ K2=>pA n pg K2 (W2++X)/\aS n H K2:=by
  intro K W2 EK GK hl
  have pK:=hpF EK
  refine (CG n pg e.size e [c0,c1,c2,c3] K (fp p 2) W2 rL hok.2.1 hrg.1 (pK.part (o:=2) (k:=4) (by simp)) ?_ (x1.mono fun b hb=>⟨hb,EK.old b hb⟩) GK (by rw[<- hX]; exact hl)).mono ?_
  ·intro a ea
   obtain⟨a',ha',_⟩:=hp
   rw[ha']at ea
   simp only[fp,ab.ptr.injEq,sJ]at ea
   subst ea
   exact hpb a' ha'
  ·rintro _ K2 ⟨G2,E2⟩
   rw[<- hX]at G2
   exact⟨G2,EK.trans E2⟩
 have b0:0<[1].length:=by simp
 simp only[c82,sA,sB,seval]
 by_cases k1:k=1
 ·have i1:(k:Int)=1:=om
  have hs:eB k s lev X B EL els.isEmpty=dr lev++([108,101,116,32]++(s++([32,61,32]++(X++[59,10])))):=by unfold eB; rw[if_pos k1]
  rw[hs]at hQ hL
  simp only[lA,QU,QV,htl]at hL
  refine (dI G.pg lev om om).mono ?_
  rintro _ H1 ⟨g1,E1⟩
  have G1:=G.fwd E1 g1
  have p0a:=(hpF E1).load0 (x:=.int .u8 (k:Int)) rfl
  have p1a:=(hpF E1).load (o:=1) (x:=.str s) rfl
  simp only[sA,sB,seval,qc,q0,q1,p0a,p1a,i1,sl3]
  refine (Oj G1 [108,101,116,32] s [32,61,32] (by simp only[lA,QU,QV,htl]; omega)).mono ?_
  rintro _ H2 ⟨G2,E2⟩
  have E02:=E1.trans E2
  simp only[sA,sB,seval,qc,q2]
  refine (ex E02 G2 (by simp only[lA,QU,QV,htl]; omega)).mono ?_
  rintro _ H3 ⟨G3,E3⟩
  have p0b:=(hpF E3).load0 (x:=.int .u8 (k:Int)) rfl
  have p1b:=(hpF E3).load (o:=1) (x:=.str s) rfl
  simp only[sA,sB,seval,qc,q0,p0b,i1,tX]
  refine (jM G3 [59,10] (by simp only[lA,QU,QV,htl]; omega)).mono ?_
  rintro _ H4 ⟨G4,E4⟩
  simp only[sA,sB,seval,hQ]
  exact⟨[],rfl,by simpa only [Q3,List.nil_append,Q9] using G4,E3.trans E4⟩
 have i1:¬(k:Int)=1:=om
 by_cases k2:k=2
 ·have i2:(k:Int)=2:=om
  have hs:eB k s lev X B EL els.isEmpty=dr lev++([115,101,116,32]++(s++([32,61,32]++(X++[59,10])))):=by unfold eB; rw[if_neg k1,if_pos k2]
  rw[hs]at hQ hL
  simp only[lA,QU,QV,htl]at hL
  refine (dI G.pg lev om om).mono ?_
  rintro _ H1 ⟨g1,E1⟩
  have G1:=G.fwd E1 g1
  have p0a:=(hpF E1).load0 (x:=.int .u8 (k:Int)) rfl
  have p1a:=(hpF E1).load (o:=1) (x:=.str s) rfl
  simp only[sA,sB,seval,qc,q0,q1,p0a,p1a,i2,i1,sl3]
  refine (Oj G1 [115,101,116,32] s [32,61,32] (by simp only[lA,QU,QV,htl]; omega)).mono ?_
  rintro _ H2 ⟨G2,E2⟩
  have E02:=E1.trans E2
  simp only[sA,sB,seval,qc,q2]
  refine (ex E02 G2 (by simp only[lA,QU,QV,htl]; omega)).mono ?_
  rintro _ H3 ⟨G3,E3⟩
  have p0b:=(hpF E3).load0 (x:=.int .u8 (k:Int)) rfl
  have p1b:=(hpF E3).load (o:=1) (x:=.str s) rfl
  simp only[sA,sB,seval,qc,q0,p0b,i2,tX]
  refine (jM G3 [59,10] (by simp only[lA,QU,QV,htl]; omega)).mono ?_
  rintro _ H4 ⟨G4,E4⟩
  simp only[sA,sB,seval,hQ]
  exact⟨[],rfl,by simpa only [Q3,List.nil_append,Q9] using G4,E3.trans E4⟩
 have i2:¬(k:Int)=2:=om
 by_cases k5:k=5
 ·have i5:(k:Int)=5:=om
  have hs:eB k s lev X B EL els.isEmpty=dr lev++([114,101,116,117,114,110,32]++(X++[59,10])):=by unfold eB; rw[if_neg k1,if_neg k2,if_pos k5]
  rw[hs]at hQ hL
  simp only[lA,QU,QV,htl]at hL
  refine (dI G.pg lev om om).mono ?_
  rintro _ H1 ⟨g1,E1⟩
  have G1:=G.fwd E1 g1
  have p0a:=(hpF E1).load0 (x:=.int .u8 (k:Int)) rfl
  have p1a:=(hpF E1).load (o:=1) (x:=.str s) rfl
  simp only[sA,sB,seval,qc,q0,q1,p0a,p1a,i5,i1,i2,tX]
  refine (jM G1 [114,101,116,117,114,110,32] (by simp only[lA,QU,QV,htl]; omega)).mono ?_
  rintro _ H2 ⟨G2,E2⟩
  have E02:=E1.trans E2
  simp only[sA,sB,seval,qc,q2]
  refine (ex E02 G2 (by simp only[lA,QU,QV,htl]; omega)).mono ?_
  rintro _ H3 ⟨G3,E3⟩
  have p0b:=(hpF E3).load0 (x:=.int .u8 (k:Int)) rfl
  have p1b:=(hpF E3).load (o:=1) (x:=.str s) rfl
  simp only[sA,sB,seval,qc,q0,p0b,i5,tX]
  refine (jM G3 [59,10] (by simp only[lA,QU,QV,htl]; omega)).mono ?_
  rintro _ H4 ⟨G4,E4⟩
  simp only[sA,sB,seval,hQ]
  exact⟨[],rfl,by simpa only [Q3,List.nil_append,Q9] using G4,E3.trans E4⟩
 have i5:¬(k:Int)=5:=om
 by_cases k3:k=3
 ·have i3:(k:Int)=3:=om
  have hs:eB k s lev X B EL els.isEmpty=dr lev++([105,102,32,40]++(X++([41,32,123,10]++(B++((if els.isEmpty then [] else dr lev++([125,32,101,108,115,101,32,123,10]++EL))++(dr lev++[125,10])))))):=by unfold eB; rw[if_neg k1,if_neg k2,if_neg k5,if_pos k3]
  by_cases hel:els.isEmpty=true
  ·have hel':¬(0:Int)<(els.length:Int):=by rw[List.isEmpty_iff.1 hel]; simp
   rw[if_pos hel]at hs
   rw[hs]at hQ hL
   simp only[lA,QU,QV,htl]at hL
   refine (dI G.pg lev om om).mono ?_
   rintro _ H1 ⟨g1,E1⟩
   have G1:=G.fwd E1 g1
   have p0a:=(hpF E1).load0 (x:=.int .u8 (k:Int)) rfl
   have p1a:=(hpF E1).load (o:=1) (x:=.str s) rfl
   simp only[sA,sB,seval,qc,q0,p0a,i3,i1,i2,i5,tX]
   refine (jM G1 [105,102,32,40] (by simp only[lA,QU,QV,htl]; omega)).mono ?_
   rintro _ H2 ⟨G2,E2⟩
   have E02:=E1.trans E2
   simp only[sA,sB,seval,qc,q2]
   refine (ex E02 G2 (by simp only[lA,QU,QV,htl]; omega)).mono ?_
   rintro _ H3 ⟨G3,E3⟩
   have p0b:=(hpF E3).load0 (x:=.int .u8 (k:Int)) rfl
   have p1b:=(hpF E3).load (o:=1) (x:=.str s) rfl
   simp only[sA,sB,seval,qc,q0,p0b,i3,i1,i2,i5,tX]
   refine (jM G3 [41,32,123,10] (by simp only[lA,QU,QV,htl]; omega)).mono ?_
   rintro _ H4 ⟨G4,E4⟩
   have E04:=E3.trans E4
   have p6:=(hpF E04).load (o:=6) (x:=vb) rfl
   simp only[sA,sB,seval,qc,q6,p6,wl]
   refine (ih body Cb H4 vb _ (lev+1) om hok.2.2.1 hrg.2.1 (z1.mono fun b hb=>⟨hb,E04.old b hb⟩) (z2.mono fun b hb=>⟨hb,E04.old b hb⟩) G4 (by rw[<- hB]; simp only[lA,QU,QV,htl]; omega) om).mono ?_
   rintro _ H5 ⟨G5,E5⟩
   rw[<- hB]at G5
   have E05:=E04.trans E5
   have p7:=(hpF E05).load (o:=7) (x:=ve) rfl
   simp only[sA,sB,seval,qc,q7,p7,le,hel']
   refine (dI G5.pg lev (by simp only[lA,QU,QV,htl]; omega) om).mono ?_
   rintro _ H6 ⟨g6,E6⟩
   have G6:=G5.fwd E6 g6
   simp only[sA,sB,seval,tX]
   refine (jM G6 [125,10] (by simp only[lA,QU,QV,htl]; omega)).mono ?_
   rintro _ H7 ⟨G7,E7⟩
   simp only[sA,sB,seval,hQ]
   exact⟨[],rfl,by simpa only [Q3,List.nil_append,Q9] using G7,(E05.trans E6).trans E7⟩
  ·have hel':(0:Int)<(els.length:Int):=by
    have:=List.length_pos_iff.2 fun q=>hel (List.isEmpty_iff.2 q)
    omega
   rw[if_neg hel]at hs
   rw[hs]at hQ hL
   simp only[lA,QU,QV,htl]at hL
   refine (dI G.pg lev om om).mono ?_
   rintro _ H1 ⟨g1,E1⟩
   have G1:=G.fwd E1 g1
   have p0a:=(hpF E1).load0 (x:=.int .u8 (k:Int)) rfl
   have p1a:=(hpF E1).load (o:=1) (x:=.str s) rfl
   simp only[sA,sB,seval,qc,q0,p0a,i3,i1,i2,i5,tX]
   refine (jM G1 [105,102,32,40] (by simp only[lA,QU,QV,htl]; omega)).mono ?_
   rintro _ H2 ⟨G2,E2⟩
   have E02:=E1.trans E2
   simp only[sA,sB,seval,qc,q2]
   refine (ex E02 G2 (by simp only[lA,QU,QV,htl]; omega)).mono ?_
   rintro _ H3 ⟨G3,E3⟩
   have p0b:=(hpF E3).load0 (x:=.int .u8 (k:Int)) rfl
   have p1b:=(hpF E3).load (o:=1) (x:=.str s) rfl
   simp only[sA,sB,seval,qc,q0,p0b,i3,i1,i2,i5,tX]
   refine (jM G3 [41,32,123,10] (by simp only[lA,QU,QV,htl]; omega)).mono ?_
   rintro _ H4 ⟨G4,E4⟩
   have E04:=E3.trans E4
   have p6:=(hpF E04).load (o:=6) (x:=vb) rfl
   simp only[sA,sB,seval,qc,q6,p6,wl]
   refine (ih body Cb H4 vb _ (lev+1) om hok.2.2.1 hrg.2.1 (z1.mono fun b hb=>⟨hb,E04.old b hb⟩) (z2.mono fun b hb=>⟨hb,E04.old b hb⟩) G4 (by rw[<- hB]; simp only[lA,QU,QV,htl]; omega) om).mono ?_
   rintro _ H5 ⟨G5,E5⟩
   rw[<- hB]at G5
   have E05:=E04.trans E5
   have p7:=(hpF E05).load (o:=7) (x:=ve) rfl
   simp only[sA,sB,seval,qc,q7,p7,le,hel']
   refine (dI G5.pg lev (by simp only[lA,QU,QV,htl]; omega) om).mono ?_
   rintro _ H6 ⟨g6,E6⟩
   have G6:=G5.fwd E6 g6
   have E06:=E05.trans E6
   simp only[sA,sB,seval,tX]
   refine (jM G6 [125,32,101,108,115,101,32,123,10] (by simp only[lA,QU,QV,htl]; omega)).mono ?_
   rintro _ H7 ⟨G7,E7⟩
   have E07:=E06.trans E7
   have p7':=(hpF E07).load (o:=7) (x:=ve) rfl
   simp only[sA,sB,seval,qc,q7,p7',wl]
   refine (ih els Ce H7 ve _ (lev+1) om hok.2.2.2 hrg.2.2 (y1.mono fun b hb=>⟨hb,E07.old b hb⟩) (y2.mono fun b hb=>⟨hb,E07.old b hb⟩) G7 (by rw[<- hEL]; simp only[lA,QU,QV,htl]; omega) om).mono ?_
   rintro _ H8 ⟨G8,E8⟩
   rw[<- hEL]at G8
   have E08:=E07.trans E8
   simp only[sA,sB,seval]
   refine (dI G8.pg lev (by simp only[lA,QU,QV,htl]; omega) om).mono ?_
   rintro _ H9 ⟨g9,E9⟩
   have G9:=G8.fwd E9 g9
   simp only[sA,sB,seval,tX]
   refine (jM G9 [125,10] (by simp only[lA,QU,QV,htl]; omega)).mono ?_
   rintro _ Ha ⟨Ga,Ea⟩
   simp only[sA,sB,seval,hQ]
   exact⟨[],rfl,by simpa only [Q3,List.nil_append,Q9] using Ga,(E08.trans E9).trans Ea⟩
 have i3:¬(k:Int)=3:=om
 by_cases k4:k=4
 ·have i4:(k:Int)=4:=om
  have hs:eB k s lev X B EL els.isEmpty=dr lev++([119,104,105,108,101,32,40]++(X++([41,32,123,10]++(B++((if els.isEmpty then [] else dr lev++([125,32,101,108,115,101,32,123,10]++EL))++(dr lev++[125,10])))))):=by unfold eB; rw[if_neg k1,if_neg k2,if_neg k5,if_neg k3]
  have hle:bS k s body.length els.length=(s.isEmpty&&Nat.beq els.length 0):=by unfold bS; rw[if_neg om,if_neg k3,if_pos k4]
  have h0:els.length=0:=by
   have:=hok.1
   rw[hle,QT]at this
   exact QX this.2
  have hel:els.isEmpty=true:=List.isEmpty_iff.2 (List.length_eq_zero_iff.1 h0)
  have hel':¬(0:Int)<(els.length:Int):=om
  rw[if_pos hel]at hs
  rw[hs]at hQ hL
  simp only[lA,QU,QV,htl]at hL
  refine (dI G.pg lev om om).mono ?_
  rintro _ H1 ⟨g1,E1⟩
  have G1:=G.fwd E1 g1
  have p0a:=(hpF E1).load0 (x:=.int .u8 (k:Int)) rfl
  have p1a:=(hpF E1).load (o:=1) (x:=.str s) rfl
  simp only[sA,sB,seval,qc,q0,p0a,i4,i1,i2,i5,i3,tX]
  refine (jM G1 [119,104,105,108,101,32,40] (by simp only[lA,QU,QV,htl]; omega)).mono ?_
  rintro _ H2 ⟨G2,E2⟩
  have E02:=E1.trans E2
  simp only[sA,sB,seval,qc,q2]
  refine (ex E02 G2 (by simp only[lA,QU,QV,htl]; omega)).mono ?_
  rintro _ H3 ⟨G3,E3⟩
  have p0b:=(hpF E3).load0 (x:=.int .u8 (k:Int)) rfl
  have p1b:=(hpF E3).load (o:=1) (x:=.str s) rfl
  simp only[sA,sB,seval,qc,q0,p0b,i4,i1,i2,i5,i3,tX]
  refine (jM G3 [41,32,123,10] (by simp only[lA,QU,QV,htl]; omega)).mono ?_
  rintro _ H4 ⟨G4,E4⟩
  have E04:=E3.trans E4
  have p6:=(hpF E04).load (o:=6) (x:=vb) rfl
  simp only[sA,sB,seval,qc,q6,p6,wl]
  refine (ih body Cb H4 vb _ (lev+1) om hok.2.2.1 hrg.2.1 (z1.mono fun b hb=>⟨hb,E04.old b hb⟩) (z2.mono fun b hb=>⟨hb,E04.old b hb⟩) G4 (by rw[<- hB]; simp only[lA,QU,QV,htl]; omega) om).mono ?_
  rintro _ H5 ⟨G5,E5⟩
  rw[<- hB]at G5
  have E05:=E04.trans E5
  have p7:=(hpF E05).load (o:=7) (x:=ve) rfl
  simp only[sA,sB,seval,qc,q7,p7,le,hel']
  refine (dI G5.pg lev (by simp only[lA,QU,QV,htl]; omega) om).mono ?_
  rintro _ H6 ⟨g6,E6⟩
  have G6:=G5.fwd E6 g6
  simp only[sA,sB,seval,tX]
  refine (jM G6 [125,10] (by simp only[lA,QU,QV,htl]; omega)).mono ?_
  rintro _ H7 ⟨G7,E7⟩
  simp only[sA,sB,seval,hQ]
  exact⟨[],rfl,by simpa only [Q3,List.nil_append,Q9] using G7,(E05.trans E6).trans E7⟩
 have:bS k s body.length els.length=false:=by unfold bS; rw[if_neg om,if_neg k3,if_neg k4,if_neg k5]
 rw[this]at hok
 exact absurd hok.1 (by simp)
theorem Qm(n pg:Nat):Py n pg 0:=by
 intro st c H p W lev h
 have:=fV st
 omega
theorem B7(n pg:Nat):∀N,Py n pg N
 | 0=>Qm n pg
 | N+1=>stG (liG (B7 n pg N))
open Go.Abs Go.Abs.S
theorem yP{l:List St}(h:dG l=true):bp l<=40:=by
 unfold dG fW at h
 simp only[QT,Q2]at h
 exact h.2.2
theorem sx{l:List St}{C:List ab}{v:ab}{H:aa}(z1:eX (·<H.next) H 9 v l.length C)(z2:gc (·<H.next) H l C)(hr:ii l=true)(hlen:dG l=true->(aL 0 l).length<=1000000000)(h1:1<H.next)(hG:ru H 1 nM) :
  aq Tryz.prog aA 12 [v] H fun u H'=>u=.tuple [.str (gD l).1,.int .i64 ((gD l).2:Int)]/\aS H.next H H':=by
 refine af rfl Qj rfl ?_
 simp only[c12,sA,sB,seval]
 refine (lN z1 z2).mono ?_
 rintro _ H1 ⟨rfl,E1⟩
 have e1:=E1.next
 cases hR:dG l with
 | false=>
  have hs:gD l=([],103):=by unfold gD; rw[if_neg (by rw[hR]; simp)]
  simp only[sA,sB,seval,hs]
  exact⟨tt,E1⟩
 | true=>
 have hok:cj l=true:=by
  unfold dG at hR
  simp only[QT]at hR
  exact hR.1
 have b1:bB [.slice none 0 (.known 0)] []=some (.agg [.slice none 0 (.known 0)]):=rfl
 obtain⟨H2,m2,r2,n2,k2⟩:=au H1 [.slice none 0 (.known 0)] (n:=1) rfl
 have E2:aS H.next H H2:=E1.trans ⟨om,fun c hc=>k2 c om⟩
 have G2:pA H.next H1.next H2 []:=⟨⟨om,om,bP,[],r2,eI.nil _ _ _,wS _,.inl rfl,Nat.le_refl _⟩,h1,by unfold ru; rw[E2.old 1 h1]; exact hG⟩
 have ag:∀l:List ab,(ab.agg l).cells=l:=cq
 simp only[sA,sB,seval,b1,ag,m2]
 refine (liG (B7 H.next H1.next (az l)) l C H2 v [] 0 rL hok hr (z1.mono fun b hb=>⟨hb,E2.old b hb⟩) (z2.mono fun b hb=>⟨hb,E2.old b hb⟩) G2 (by simpa using hlen hR) (by have:=yP hR; omega)).mono ?_
 rintro _ H3 ⟨G3,E3⟩
 have E03:=E2.trans E3
 rw[List.nil_append]at G3
 obtain⟨g1,g2,v',Y,hrp,hv,hb,hc,hcl⟩:=G3.pg
 have lp:am false 1 H3 (ae H1.next 1 0)=some v':=ah hrp rfl rfl
 have lY:=hv.len
 have hYb:=hlen hR
 by_cases hy:16384<Y.length
 ·have hy':(16384:Int)<(Y.length:Int):=om
  have hs:gD l=([],3):=by unfold gD; rw[if_pos hR,if_pos om]
  simp only[sA,sB,seval,aw,fld0,lp,lY,hy',hs]
  exact⟨tt,E03⟩
 ·have hy':¬(16384:Int)<(Y.length:Int):=om
  have hYe:Y=aL 0 l:=by rcases hc with h | h; exact h; omega
  have hs:gD l=(Y,0):=by unfold gD; rw[if_pos hR,<- hYe,if_neg om]
  have hbs:EQ H3 v'=some (.str Y):=Mt (hv.cel1 hv.blk')
  simp only[sA,sB,seval,aw,fld0,lp,lY,hy',hbs,hs]
  exact⟨tt,E03⟩
open Go.Abs Go.Abs.S
theorem wh{n:Int}(h1:-9223372036854775808<=n)(h2:n<=9223372036854775807):(cm n).length<=100:=by
 have h3:=pa 9 (n.natAbs / 4294967296) om
 have h4:(ib (n.natAbs % 4294967296)).length<=33:=by
  unfold ib
  split
  ·simp
  ·have:=Eo 32 (n.natAbs % 4294967296)
   simp[gU]; omega
 unfold cm
 rw[lA,lA,pq]
 split
 ·simp; omega
 ·simp; omega
theorem Ey:∀l:List Bs,(cf l).length<=l.flatten.length+2*l.length
 | []=>by simp[cf]
 | a::l=>by
  have h:∀l:List Bs,(l.flatMap fun t=>(44:UInt8)::32::t).length<=l.flatten.length+2*l.length:=by
   intro l
   induction l with
   | nil=>simp
   | cons x l ih=>simp only[List.flatMap_cons,lA,QU,List.flatten_cons]; omega
  have:=h l
  simp only[cf,lA,List.flatten_cons,QU]; omega
theorem Ao{k:Nat}{s:Bs}{n:Int}{ts:List Bs}(h1:-9223372036854775808<=n)(h2:n<=9223372036854775807)(hs:s.length<=1000):(cI k s n ts).length<=1200+ts.flatten.length+2*ts.length:=by
 have:=wh h1 h2
 have:=Ey ts
 unfold cI
 split
 ·omega
 split
 ·omega
 split
 ·simp only[lA,QU,QV]; omega
 split
 ·simp only[lA,QU,List.flatten_cons,List.flatten_nil,QV]; omega
 ·simp only[lA,QU,List.flatten_cons,List.flatten_nil,QV]; omega
 ·simp
mutual
theorem iR:∀(e:Ex),DH e=true->lC e=true->(dK e).length+4<=1300*e.size
 | .mk k s n kids,h1,h2=>by
  simp only[DH,lC,QT,Q2]at h1 h2
  have h3:=rR kids h1.2 h2.2
  have h4:=Ao (k:=k) (ts:=iY kids) h2.1.1 h2.1.2 h1.1
  have h5:(iY kids).length=kids.length:=by rw[kB,Q5]
  have h6:=eQ kids
  simp only[dK,Ex.size]
  omega
theorem rR:∀(l:List Ex),oz l=true->oC l=true->(iY l).flatten.length+2*l.length<=1300*aQ l
 | [],_,_=>by simp[iY]
 | e::l,h1,h2=>by
  simp only[oz,oC,QT]at h1 h2
  have h3:=iR e h1.1 h2.1
  have h4:=rR l h1.2 h2.2
  simp only[iY,List.flatten_cons,lA,aQ,QU]
  split
  ·simp only[lA,QU,QV]; omega
  ·omega
end
open Go.Abs Go.Abs.S
def FtN(N:Nat):Prop:=∀{e:Ex} {c:List ab} {H:aa},e.size<=N->e.size<=1000000->kH e=true->DH e=true->lC e=true->XE (·<H.next) H e c ->
  aq Tryz.prog aA 83 [.agg c] H fun u H'=>u=.str (dK e)/\aS H.next H H'
theorem lZ{N:Nat}(ih:FtN N){e:Ex}{c:List ab}{H:aa}(h:e.size<=N)(hs:e.size<=1000000)(h1:kH e=true)(h2:DH e=true)(h3:lC e=true)(hx:XE (·<H.next) H e c) :
  aq Tryz.prog aA 122 [.agg c] H fun u H'=>u=.str (aW e)/\aS H.next H H':=by
 have hlen:=iR e h2 h3
 obtain⟨H1,m1,r1,n1,k1⟩:=au H c (n:=4) hx.len
 have E1:aS H.next H H1:=⟨om,fun c hc=>k1 c om⟩
 have km:∀b,b<H.next->b<H1.next/\H1.get b=H.get b:=fun b hb=>⟨om,E1.old b hb⟩
 have hx1:=hx.mono km
 have lw:am true 4 H1 (ae H.next 4 0)=some (.agg c):=al r1 hx.len
 have l0:am false 1 H1 (ae H.next 4 0)=some (.int .u8 (e.kind:Int)):=by
  cases e
  obtain⟨v,C,rfl,_⟩:=hx
  exact ah r1 rfl rfl
 have hm1:go H (ab.agg c).cells=(ae H.next 4 0,H1):=m1
 refine af rfl NE rfl ?_
 by_cases hk:e.kind=3
 ·have hk':(e.kind:Int)=3:=om
  have hsh:aW e=40::(dK e++[41]):=by unfold aW; rw[if_pos hk]
  have y1:be .add (.str [40]) (.str (dK e))=some (.str (40::dK e)):=aM (by simp; omega)
  have y2:be .add (.str (40::dK e)) (.str [41])=some (.str (40::(dK e++[41]))):=aM (by simp; omega)
  rw[hsh]
  simp only[Ml,sA,sB,seval,hm1,fld0,l0,hk',lw]
  refine (ih h hs h1 h2 h3 hx1).mono ?_
  rintro _ H2 ⟨rfl,E2⟩
  simp only[sA,sB,seval,y1,y2]
  exact⟨tt,E1.trans (E2.less E1.next)⟩
 ·have hk':¬(e.kind:Int)=3:=om
  have hsh:aW e=dK e:=by unfold aW; rw[if_neg hk]
  rw[hsh]
  simp only[Ml,sA,sB,seval,hm1,fld0,l0,hk',lw]
  refine (ih h hs h1 h2 h3 hx1).mono ?_
  rintro _ H2 ⟨rfl,E2⟩
  simp only[sA,sB,seval]
  exact⟨tt,E1.trans (E2.less E1.next)⟩
theorem FQ{l:List Ex}{e:Ex}(h:oz l=true)(he:e∈l):DH e=true:=by
 induction l with
 | nil=>simp at he
 | cons x l ih=>
  simp only[oz,QT]at h
  rcases List.mem_cons.1 he with rfl | he
  ·exact h.1
  ·exact ih h.2 he
theorem LY:∀N,FtN N:=by
 intro N
 induction N with
 | zero=>
  intro e c H h
  exact absurd (iQ e) om
 | succ N ih=>
  intro e c H h hs h1 h2 h3 hx
  obtain⟨k,s,z,kids⟩:=e
  obtain⟨v,C,rfl,z1,z2⟩:=hx
  have hsz:(Ex.mk k s z kids).size=aQ kids+1:=rfl
  have hlen:=iR _ h2 h3
  have hsh:dK (.mk k s z kids)=cI k s z (kids.map aW):=by rw[dK,kB]
  simp only[kH,DH,lC,QT,Q2]at h1 h2 h3
  have hP:er k s z kids.length=if k=1 then decide (0<=z)&&(s.isEmpty&&Nat.beq kids.length 0) else if k=2 then decide (z=0)&&(bW s&&Nat.beq kids.length 0) else if k=3 then decide (z=0)&&qM s kids.length else if k=4 then decide (z=0)&&bW s else false:=rfl
  rw[h1.1]at hP
  obtain⟨H1,m1,r1,n1,k1⟩:=au H [.int .u8 (k:Int),.str s,.int .i64 z,v] (n:=4) rfl
  have E1:aS H.next H H1:=⟨om,fun c hc=>k1 c om⟩
  have e1:=E1.next
  have rr:∀{J:aa},aS H1.next H1 J->aT J H.next [.int .u8 (k:Int),.str s,.int .i64 z,v]:=fun q=>r1.same (q.old _ om)
  have l0:∀{J:aa},aS H1.next H1 J->am false 1 J (ae H.next 4 0)=some (.int .u8 (k:Int)):=fun q=>ah (rr q) rfl rfl
  have l1:∀{J:aa},aS H1.next H1 J->am false 1 J (ae H.next 4 1)=some (.str s):=fun q=>ah (rr q) rfl rfl
  have l2:∀{J:aa},aS H1.next H1 J->am false 1 J (ae H.next 4 2)=some (.int .i64 z):=fun q=>ah (rr q) rfl rfl
  have l3:∀{J:aa},aS H1.next H1 J->am false 1 J (ae H.next 4 3)=some v:=fun q=>ah (rr q) rfl rfl
  have R1:=aS.refl H1.next H1
  have kk:∀{J:aa},aS H1.next H1 J->∀b,b<H.next->b<J.next/\J.get b=H.get b:=fun q b hb=>⟨by have:=q.next; omega,by rw[q.old b om,E1.old b hb]⟩
  have ln:=z1.len
  have hkid:∀{i:Nat} {x:Ex},kids[i]?=some x->kH x=true/\DH x=true/\lC x=true/\x.size<=aQ kids:=fun hi=>⟨lL h1.2 (QY hi),FQ h2.2 (QY hi),jX h3.2 (QY hi),ep (QY hi)⟩
  have hll:kids.length<=aQ kids:=eQ kids
  refine af rfl PI rfl ?_
  rw[hsh]
  rw[hsh]at hlen
  simp only[c83,sA,sB,seval,cq,m1]
  by_cases k1':k=1
  ·have k1i:(k:Int)=1:=om
   have e:cI k s z (kids.map aW)=cm z:=by unfold cI; rw[if_pos k1']
   rw[e]
   simp only[sA,sB,seval,aB,fld0,l0 R1,l2 R1,k1i]
   refine (Ar rfl h3.1.1 h3.1.2).mono ?_
   rintro _ H2 ⟨rfl,E2⟩
   simp only[sA,sB,seval]
   exact⟨tt,E1.trans (E2.less e1)⟩
  have k1i:¬(k:Int)=1:=om
  rw[if_neg k1']at hP
  by_cases k2:k=2
  ·have k2i:(k:Int)=2:=om
   have e:cI k s z (kids.map aW)=s:=by unfold cI; rw[if_neg k1',if_pos k2]
   rw[e]
   simp only[sA,sB,seval,aB,fld0,l0 R1,l1 R1,k1i,k2i]
   exact⟨tt,E1⟩
  have k2i:¬(k:Int)=2:=om
  rw[if_neg k2]at hP
  by_cases k3:k=3
  ·have k3i:(k:Int)=3:=om
   rw[if_pos k3]at hP
   have hop:qM s kids.length=true:=by
    have:=hP.symm
    simp only[QT]at this
    exact this.2
   have hcase:(∃a,kids=[a])∨∃a b,kids=[a,b]:=by
    match kids,hop with
    | [],hop=>simp[qM]at hop
    | [a],_=>exact .inl ⟨a,rfl⟩
    | [a,b],_=>exact .inr ⟨a,b,rfl⟩
    | a::b::c::l,hop=>simp[qM]at hop
   clear hop hP
   rcases hcase with⟨a,rfl⟩ | ⟨a,b,rfl⟩
   ·have z13:=z1.mono (kk R1)
    have ix:eH 4 v (.int .i64 0)=some (cF 4 v 0):=z13.idx (i:=0) (by simp)
    have ld:=z13.load (i:=0) (by simp)
    have he3:=(z2.mono (kk R1)).at (i:=0) rfl
    obtain⟨g1,g2,g3,g4⟩:=hkid (i:=0) rfl
    have e:cI k s z ([a].map aW)=s++32::aW a:=by unfold cI; rw[if_neg k1',if_neg k2,if_neg om]; rfl
    rw[e]at hlen ⊢
    simp only[lA,QU]at hlen
    have y1:be .add (.str s) (.str [32])=some (.str (s++[32])):=aM (by simp; omega)
    have y2:be .add (.str (s++[32])) (.str (aW a))=some (.str (s++32::aW a)):=by
     rw[aM (by simp; omega)]; simp
    have q1:(([a]:List Ex).length:Int)=1:=rfl
    rw[q1]at ln
    simp only[sA,sB,seval,aB,fld0,l0 R1,l3 R1,k1i,k2i,k3i,ln]
    refine cr rfl ?_
    simp only[sR,sA,sB,seval,aB,l1 R1,l3 R1,y1,ix,ld]
    refine (lZ ih om om g1 g2 g3 he3).mono ?_
    rintro _ H2 ⟨rfl,E2⟩
    simp only[sR,sA,sB,seval,y2]
    simp only[cw,cx,bR,cy,db,and_true,true_and,List.map_cons,List.map_nil,sA,sB,seval,aB]
    exact⟨⟨_,rfl,fun _=>⟨_,l1 E2,jH _⟩⟩,E1.trans (E2.less e1)⟩
   ·have z13:=z1.mono (kk R1)
    have ix:eH 4 v (.int .i64 0)=some (cF 4 v 0):=z13.idx (i:=0) (by simp)
    have ix1:eH 4 v (.int .i64 1)=some (cF 4 v 1):=z13.idx (i:=1) (by simp)
    have ld:=z13.load (i:=0) (by simp)
    have he3:=(z2.mono (kk R1)).at (i:=0) rfl
    obtain⟨g1,g2,g3,g4⟩:=hkid (i:=0) rfl
    obtain⟨f1,f2,f3,f4⟩:=hkid (i:=1) rfl
    have e:cI k s z ([a,b].map aW)=aW a++32::(s++32::aW b):=by unfold cI; rw[if_neg k1',if_neg k2,if_neg om]; rfl
    rw[e]at hlen ⊢
    simp only[lA,QU]at hlen
    have y1:be .add (.str (aW a)) (.str [32])=some (.str (aW a++[32])):=aM (by simp; omega)
    have y2:be .add (.str (aW a++[32])) (.str s)=some (.str (aW a++[32]++s)):=aM (by simp; omega)
    have y3:be .add (.str (aW a++[32]++s)) (.str [32])=some (.str (aW a++[32]++s++[32])):=aM (by simp; omega)
    have y4:be .add (.str (aW a++[32]++s++[32])) (.str (aW b))=some (.str (aW a++32::(s++32::aW b))):=by
     rw[aM (by simp; omega)]; simp
    have q1:(([a,b]:List Ex).length:Int)=2:=rfl
    rw[q1]at ln
    have n21:¬(2:Int)=1:=om
    simp only[sA,sB,seval,aB,fld0,l0 R1,l3 R1,k1i,k2i,k3i,ln]
    refine cr rfl ?_
    simp only[sR,sA,sB,seval,aB,l3 R1,ix,ld]
    refine (lZ ih om om g1 g2 g3 he3).mono ?_
    rintro _ H2 ⟨rfl,E2⟩
    have e2:=E2.next
    have z23:=z1.mono (kk E2)
    have ld1:=z23.load (i:=1) (by simp)
    have hf3:=(z2.mono (kk E2)).at (i:=1) rfl
    simp only[sR,sA,sB,seval,aB,l1 E2,l3 E2,y1,y2,y3,ix1,ld1]
    refine (lZ ih om om f1 f2 f3 hf3).mono ?_
    rintro _ H3 ⟨rfl,E3⟩
    have E13:=E2.trans (E3.less e2)
    simp only[sR,sA,sB,seval,y4]
    simp only[cw,cx,bR,cy,db,and_true,true_and,List.map_cons,List.map_nil,sA,sB,seval,aB]
    exact⟨⟨⟨⟨_,rfl,fun _=>⟨_,l1 R1,jH _⟩⟩,⟨_,rfl,fun _=>⟨_,l1 E13,jH _⟩⟩⟩,⟨_,rfl,fun _=>⟨_,l3 R1,z1.aeq⟩⟩,⟨_,rfl,fun _=>⟨_,z13.load (i:=1) (by simp),by rw[Go.Abs.aeq]; exact hf3.aeqs⟩⟩⟩,E1.trans (E13.less e1)⟩
  have k3i:¬(k:Int)=3:=om
  rw[if_neg k3]at hP
  have k4:k=4:=by
   by_cases k4:k=4
   ·exact k4
   ·rw[if_neg k4]at hP; simp at hP
  have e:cI k s z (kids.map aW)=s++40::(cf (kids.map aW)++[41]):=by unfold cI; rw[if_neg k1',if_neg k2,if_pos k4]
  rw[e]at hlen ⊢
  simp only[lA,QU,QV]at hlen
  have k4i:¬(k:Int)=3:=om
  have y0:be .add (.str s) (.str [40])=some (.str (s++[40])):=aM (by simp; omega)
  have hpre:∀i,(cf ((kids.take i).map aW)).length<=(cf (kids.map aW)).length:=by
   intro i
   have h0:kids.map aW=(kids.take i).map aW++(kids.drop i).map aW:=by rw[<- List.map_append,List.take_append_drop]
   generalize (kids.take i).map aW=A at *
   generalize (kids.drop i).map aW=B at *
   rw[h0]
   cases A with
   | nil=>simp[cf]
   | cons x A=>simp[cf]
  simp only[sA,sB,seval,aB,fld0,l0 R1,l1 R1,k1i,k2i,k3i,y0]
  refine aG (fun m (T:bG) K=>∃(i:Nat),m=kids.length-i/\i<=kids.length/\T 1=ae H.next 4 0/\T 3=.str (s++40::cf ((kids.take i).map aW))/\T 4=.int .i64 (i:Int)/\aS H1.next H1 K) kids.length
   ⟨0,rfl,Nat.zero_le _,by simp only[sA,sB,seval],by simp only[sA,sB,seval]; simp[cf],by simp only[sA,sB,seval]; try rfl,R1⟩ ?_
  rintro m T K ⟨i,rfl,hi,t1,t3,t4,FK⟩
  have eK:=FK.next
  have hpi:=hpre i
  by_cases hlt:i<kids.length
  case neg=>
   obtain rfl:i=kids.length:=om
   have hlt':¬(kids.length:Int)<(kids.length:Int):=om
   rw[List.take_length]at t3
   have y1:be .add (.str (s++40::cf (kids.map aW))) (.str [41])=some (.str (s++40::(cf (kids.map aW)++[41]))):=by
    rw[aM (by simp; omega)]; simp
   simp only[sA,sB,seval,t1,t3,t4,aB,l3 FK,ln,hlt',y1]
   exact⟨tt,E1.trans (FK.less e1)⟩
  have hlt':(i:Int)<(kids.length:Int):=om
  obtain⟨x,he⟩:∃e,kids[i]?=some e:=⟨_,QQ hlt⟩
  have hts:(kids.take (i+1)).map aW=(kids.take i).map aW++[aW x]:=by rw[List.take_add_one,he]; simp
  have z13:=z1.mono (kk FK)
  have ix:=z13.idx hlt
  have ld:=z13.load hlt
  have he3:=(z2.mono (kk FK)).at he
  obtain⟨g1,g2,g3,g4⟩:=hkid he
  have wi:IntKind.i64.wrap ((i:Int)+1)=((i+1:Nat):Int):=jT i 1 om
  have hKx:(aW x).length<=1300*x.size:=by
   have:=iR x g2 g3
   unfold aW
   split
   ·simp only[lA,QU,QV]; omega
   ·omega
  obtain⟨W,hW⟩:∃W,W=s++40::cf ((kids.take i).map aW):=⟨_,rfl⟩
  have lW:W.length<=s.length+1+(cf (kids.map aW)).length:=by rw[hW,lA,QU]; omega
  rw[<- hW]at t3
  by_cases h0:i=0
  ·have h0':¬(0:Int)<(i:Int):=om
   have y1:be .add (.str W) (.str (aW x))=some (.str (s++40::cf ((kids.take (i+1)).map aW))):=by
    rw[aM om,hts,ir,hW,h0]; simp[cf]
   simp only[sA,sB,seval,t1,t3,t4,aB,l3 FK,ln,hlt',h0',ix,ld]
   refine (lZ ih om om g1 g2 g3 he3).mono ?_
   rintro _ K2 ⟨rfl,E2⟩
   simp only[sA,sB,seval,t1,t3,t4,y1,wi]
   exact⟨kids.length-(i+1),om,i+1,rfl,om,tt,tt,tt,FK.trans (E2.less eK)⟩
  ·have h0':(0:Int)<(i:Int):=om
   have hne:((kids.take i).map aW).isEmpty=false:=by
    cases kids with
    | nil=>simp at hlt
    | cons a l=>cases i with
     | zero=>exact absurd rfl h0
     | succ i=>simp
   have y1:be .add (.str W) (.str [44,32])=some (.str (W++[44,32])):=aM (by simp only[QU,QV]; omega)
   have y2:be .add (.str (W++[44,32])) (.str (aW x))=some (.str (s++40::cf ((kids.take (i+1)).map aW))):=by
    rw[aM (by simp only[lA,QU,QV]; omega),hts,ir,hne,hW]
    simp only[Q1,if_false,Q3,Q9]
   simp only[sA,sB,seval,t1,t3,t4,aB,l3 FK,ln,hlt',h0',y1,ix,ld]
   refine (lZ ih om om g1 g2 g3 he3).mono ?_
   rintro _ K2 ⟨rfl,E2⟩
   simp only[sA,sB,seval,t1,t3,t4,y2,wi]
   exact⟨kids.length-(i+1),om,i+1,rfl,om,tt,tt,tt,FK.trans (E2.less eK)⟩
open Go.Abs Go.Abs.S
theorem uD(n:Nat):(dr n).length=n:=List.length_replicate
theorem Af(n:Nat):dr n++[9]=dr (n+1):=by
 unfold dr; rw[List.replicate_succ']
theorem An{k:Nat}{s:Bs}{lev:Nat}{x b c:Bs}{no:Bool}(hl:lev<=200)(hs:s.length<=1000):(eB k s lev x b c no).length<=1700+x.length+b.length+c.length:=by
 have ht:=uD lev
 unfold eB
 rw[lA]
 split
 ·simp only[lA,QU,QV]; omega
 split
 ·simp only[lA,QU,QV]; omega
 split
 ·simp only[lA,QU,QV]; omega
 ·cases no <;> split <;> simp only[lA,QU,QV,if_true,if_false,Q1] <;> omega
mutual
theorem FY:∀(lev:Nat) (x:St),MP x=true->pI x=true->lev+x.deep<=200->(iX lev x).length<=3000*x.size
 | lev,.mk k s e body els line,h1,h2,h3=>by
  simp only[MP,pI,St.deep,QT,Q2]at h1 h2 h3
  have a1:=iR e h1.2.1 h2.1.1
  have a2:=gJ (lev+1) body h1.2.2.1 h2.2.1 om
  have a3:=gJ (lev+1) els h1.2.2.2 h2.2.2 om
  have a4:=An (k:=k) (s:=s) (lev:=lev) (x:=dK e) (b:=aL (lev+1) body) (c:=aL (lev+1) els) (no:=els.isEmpty) om h1.1
  simp only[iX,St.size]
  omega
theorem gJ:∀(lev:Nat) (l:List St),iV l=true->ii l=true->lev+bp l<=200->(aL lev l).length<=3000*az l
 | lev,[],_,_,_=>by simp[aL]
 | lev,x::l,h1,h2,h3=>by
  simp only[iV,ii,bp,QT]at h1 h2 h3
  have a1:=FY lev x h1.1 h2.1 om
  have a2:=gJ lev l h1.2 h2.2 om
  simp only[aL,az,lA]; omega
end
theorem FO{l:List St}{e:St}(h:iV l=true)(he:e∈l):MP e=true:=by
 induction l with
 | nil=>simp at he
 | cons x l ih=>
  simp only[iV,QT]at h
  rcases List.mem_cons.1 he with rfl | he
  ·exact h.1
  ·exact ih h.2 he
theorem Bk{l:List St}{e:St}(he:e∈l):e.deep<=bp l:=by
 induction l with
 | nil=>simp at he
 | cons x l ih=>
  simp only[bp]
  rcases List.mem_cons.1 he with rfl | he
  ·omega
  ·have:=ih he; omega
theorem yI:∀(N:Nat) {l:List St} {C:List ab} {v:ab} {H:aa} {lev:Nat},az l<=N->az l<=1000000->cj l=true->iV l=true->ii l=true->lev+bp l<=200->eX (·<H.next) H 9 v l.length C->gc (·<H.next) H l C ->
  aq Tryz.prog aA 38 [v,.str (dr lev)] H fun u H'=>u=.str (aL lev l)/\aS H.next H H':=by
 intro N
 induction N with
 | zero=>
  intro l C v H lev h hs o1 o2 o3 o4 z1 z2
  have hl0:l=[]:=by
   cases l with
   | nil=>rfl
   | cons x l=>have:=fV x; simp only[az]at h; omega
  subst hl0
  have ln:=z1.len
  have h0:¬(0:Int)<(([]:List St).length:Int):=by simp
  refine af rfl M2 rfl ?_
  simp only[QC,sA,sB,seval]
  refine aG (fun m (T:bG) K=>H=K/\T 0=v/\T 5=.str []/\T 6=.int .i64 0) 0 ⟨rfl,by simp only[sA,sB,seval],by simp only[sA,sB,seval],by simp only[sA,sB,seval]⟩ ?_
  rintro m T K ⟨rfl,t0,t5,t6⟩
  simp only[sA,sB,seval,t0,t5,t6,ln,h0]
  exact⟨by simp[aL],aS.refl _ _⟩
 | succ N ih=>
  intro l C v H lev h hs o1 o2 o3 o4 z1 z2
  have ln:=z1.len
  refine af rfl M2 rfl ?_
  simp only[QC,sA,sB,seval]
  refine aG (fun m (T:bG) K=>∃(i:Nat),m=l.length-i/\i<=l.length/\T 0=v/\T 1=.str (dr lev)/\T 5=.str (aL lev (l.take i))/\T 6=.int .i64 (i:Int)/\aS H.next H K) l.length
   ⟨0,rfl,Nat.zero_le _,by simp only[sA,sB,seval],by simp only[sA,sB,seval],by simp only[sA,sB,seval]; simp[aL],by simp only[sA,sB,seval]; try rfl,aS.refl _ _⟩ ?_
  rintro m T K ⟨i,rfl,hi,t0,t1,t5,t6,EK⟩
  have eK:=EK.next
  by_cases hlt:i<l.length
  case neg=>
   obtain rfl:i=l.length:=om
   have hlt':¬(l.length:Int)<(l.length:Int):=om
   rw[List.take_length]at t5
   simp only[sA,sB,seval,t0,t5,t6,ln,hlt']
   exact⟨tt,EK⟩
  have hlt':(i:Int)<(l.length:Int):=om
  obtain⟨x,he⟩:∃e,l[i]?=some e:=⟨_,QQ hlt⟩
  have hme:=QY he
  have hts:aL lev (l.take (i+1))=aL lev (l.take i)++iX lev x:=by
   have:l.take (i+1)=l.take i++[x]:=by rw[List.take_add_one,he]; rfl
   rw[this,iW]; simp[aL]
  have km:∀b,b<H.next->b<K.next/\K.get b=H.get b:=fun b hb=>⟨om,EK.old b hb⟩
  have z13:=z1.mono km
  have ix:=z13.idx hlt
  have ld:=z13.load hlt
  have hsm:=eY hme
  have hdm:=Bk hme
  have p1:=yf o1 hme
  have p2:=FO o2 hme
  have p3:=uI o3 hme
  have hlen:=fN l
  have wi:IntKind.i64.wrap ((i:Int)+1)=((i+1:Nat):Int):=jT i 1 om
  have hx3:=(z2.mono km).at he
  have hone:=hx3.one
  have hO:(aL lev (l.take i)).length<=3000*az l:=by
   have h0:l=l.take i++l.drop i:=(List.take_append_drop i l).symm
   have h1:=gJ lev l o2 o3 om
   rw[h0,iW,lA]at h1
   rw[<- h0]at h1
   omega
  obtain⟨k,s,e,body,els,line⟩:=x
  obtain⟨ce,vb,Cb,ve,Ce,hcell,x1,y1,y2,y3,y4⟩:=hx3
  obtain⟨c0,c1,c2,c3,rfl⟩:∃a b c d,ce=[a,b,c,d]:=by
   have:=x1.len
   match ce,this with
   | [a,b,c,d],_=>exact⟨a,b,c,d,rfl⟩
  rw[hcell]at ld hone
  have hsz:(St.mk k s e body els line).size=e.size+az body+az els+1:=rfl
  simp only[yi,MP,pI,St.deep,QT,Q2]at p1 p2 p3 hdm
  obtain⟨p1a,p1b,p1c,p1d⟩:=p1
  obtain⟨p2a,p2b,p2c,p2d⟩:=p2
  obtain⟨⟨p3b,_⟩,p3c,p3d⟩:=p3
  have hshow:iX lev (.mk k s e body els line)=eB k s lev (dK e) (aL (lev+1) body) (aL (lev+1) els) els.isEmpty:=by simp only[iX]
  rw[hshow]at hts
  have hkk:k=1∨k=2∨k=3∨k=4∨k=5:=by
   unfold bS at p1a
   split at p1a
   ·omega
   split at p1a
   ·omega
   split at p1a
   ·omega
   split at p1a
   ·omega
   ·simp at p1a
  obtain⟨K1,m1,r1,n1,k1⟩:=au K [.int .u8 0,.str [],.int .u8 0,.str [],.int .i64 0,.slice none 0 (.known 0),.slice none 0 (.known 0),.slice none 0 (.known 0),.int .i64 0] (n:=9) rfl
  obtain⟨K2,m2,r2,n2,k2⟩:=aj r1 (n:=9) rfl (xs:=.int .u8 (k:Int)::.str s::([c0,c1,c2,c3]++[vb,ve,.int .i64 line])) rfl hone
  simp only[Q9,List.nil_append]at ld m2 r2 hone
  obtain⟨b5,hb5⟩:∃b,b=K.next:=⟨_,rfl⟩
  rw[<- hb5]at m1 m2 r2 k2 k1
  have E2:aS K.next K K2:=⟨om,fun c hc=>by rw[k2 c om,k1 c om]⟩
  have e2:=E2.next
  have kk:∀{K':aa},aS K2.next K2 K'->∀b,b<K.next->b<K'.next/\K'.get b=K.get b:=fun q b hb=>⟨by have:=q.next; omega,by rw[q.old b om,E2.old b hb]⟩
  have rr:∀{J:aa},aS K2.next K2 J->aT J b5 [.int .u8 (k:Int),.str s,c0,c1,c2,c3,vb,ve,.int .i64 line]:=fun q=>r2.same (q.old _ om)
  have l0:∀{J:aa},aS K2.next K2 J->am false 1 J (ae b5 9 0)=some (.int .u8 (k:Int)):=fun q=>ah (rr q) rfl rfl
  have l1:∀{J:aa},aS K2.next K2 J->am false 1 J (ae b5 9 1)=some (.str s):=fun q=>ah (rr q) rfl rfl
  have l2:∀{J:aa},aS K2.next K2 J->am true 4 J (ae b5 9 2)=some (.agg [c0,c1,c2,c3]):=fun q=>eA (rr q) (n:=9) rfl (i:=2) (k:=4) om
  have l6:∀{J:aa},aS K2.next K2 J->am false 1 J (ae b5 9 6)=some vb:=fun q=>ah (rr q) rfl rfl
  have l7:∀{J:aa},aS K2.next K2 J->am false 1 J (ae b5 9 7)=some ve:=fun q=>ah (rr q) rfl rfl
  have R2:=aS.refl K2.next K2
  have lb:=y1.len
  have le:=y3.len
  have hX:=iR e p2b p3b
  have hB:=gJ (lev+1) body p2c p3c om
  have hC:=gJ (lev+1) els p2d p3d om
  have hT:=uD lev
  have tb:be .add (.str (dr lev)) (.str [9])=some (.str (dr (lev+1))):=by rw[aM (by simp; omega),Af]
  simp only[sA,sB,seval,t0,t1,t5,t6,ln,hlt',ix,ld,m1,m2,aB,l2 R2]
  refine (LY e.size rL om p1b p2b p3b (x1.mono (kk R2))).mono ?_
  rintro _ K3 ⟨rfl,E3⟩
  have e3:=E3.next
  simp only[sA,sB,seval,t0,t1,t5,t6,aB,l6 E3,tb]
  refine (ih om om p1c p2c p3c om (y1.mono (kk E3)) (y2.mono (kk E3))).mono ?_
  rintro _ K4 ⟨rfl,E4⟩
  have e4:=E4.next
  have E24:=E3.trans (E4.less e3)
  obtain⟨O,hOd⟩:∃O,O=aL lev (l.take i):=⟨_,rfl⟩
  obtain⟨X,hXd⟩:∃X,X=dK e:=⟨_,rfl⟩
  obtain⟨B,hBd⟩:∃B,B=aL (lev+1) body:=⟨_,rfl⟩
  obtain⟨D,hDd⟩:∃D,D=aL (lev+1) els:=⟨_,rfl⟩
  obtain⟨TB,hTd⟩:∃TB,TB=dr lev:=⟨_,rfl⟩
  rw[<- hOd]at hO t5 hts
  rw[<- hXd]at hX hts
  rw[<- hBd]at hB hts
  rw[<- hDd]at hC hts
  rw[<- hTd]at hT t1 tb
  simp only[<- hXd,<- hBd]
  unfold eB at hts
  rw[<- hTd]at hts
  obtain⟨B1,hB1⟩:∃B1,B1=[32,123,10]++B:=⟨_,rfl⟩
  have hB1l:B1.length=B.length+3:=by rw[hB1,lA,Nat.add_comm]; rfl
  have b1:be .add (.str [32,123,10]) (.str B)=some (.str B1):=by rw[hB1]; exact aM (by simp; omega)
  have b2:be .add (.str B1) (.str TB)=some (.str (B1++TB)):=aM om
  obtain⟨BB,hBB'⟩:∃BB,BB=B1++TB++[125]:=⟨_,rfl⟩
  have hBB:BB=[32,123,10]++B++TB++[125]:=by rw[hBB',hB1]
  have b3:be .add (.str (B1++TB)) (.str [125])=some (.str BB):=by rw[hBB']; exact aM (by simp; omega)
  have hBl:BB.length<=B.length+TB.length+4:=by rw[hBB',lA,lA,hB1l]; simp; omega
  have a1:be .add (.str O) (.str TB)=some (.str (O++TB)):=aM om
  have dM:∀{J:aa},aS K2.next K2 J->aS H.next H J:=fun q=>EK.trans ((E2.trans (q.less e2)).less eK)
  rcases hkk with hk | hk | hk | hk | hk
  ·have hki:(k:Int)=1:=om
   have hts':aL lev (l.take (i+1))=O++TB++[108,101,116,32]++s++[32,61,32]++X++[59,10]:=by
    rw[hts,if_pos hk]; simp only[Q3]
   have a2:be .add (.str (O++TB)) (.str [108,101,116,32])=some (.str (O++TB++[108,101,116,32])):=aM (by simp; omega)
   have a3:be .add (.str (O++TB++[108,101,116,32])) (.str s)=some (.str (O++TB++[108,101,116,32]++s)):=aM (by simp; omega)
   have a4:be .add (.str (O++TB++[108,101,116,32]++s)) (.str [32,61,32])=some (.str (O++TB++[108,101,116,32]++s++[32,61,32])):=aM (by simp; omega)
   have a5:be .add (.str (O++TB++[108,101,116,32]++s++[32,61,32])) (.str X)=some (.str (O++TB++[108,101,116,32]++s++[32,61,32]++X)):=aM (by simp; omega)
   have a6:be .add (.str (O++TB++[108,101,116,32]++s++[32,61,32]++X)) (.str [59,10])=some (.str (aL lev (l.take (i+1)))):=by
    rw[hts']; exact aM (by simp; omega)
   simp only[sA,sB,seval,t0,t1,t5,t6,b1,b2,b3,aB,fld0,l0 E24,l1 E24,hki,a1,a2,a3,a4,a5,a6,wi]
   exact⟨l.length-(i+1),om,i+1,rfl,om,tt,by first | trivial | exact hTd | rw[hTd],tt,tt,dM E24⟩
  ·have hki:(k:Int)=2:=om
   have hk1:¬(k:Int)=1:=om
   have hts':aL lev (l.take (i+1))=O++TB++[115,101,116,32]++s++[32,61,32]++X++[59,10]:=by
    rw[hts,if_neg om,if_pos hk]; simp only[Q3]
   have a2:be .add (.str (O++TB)) (.str [115,101,116,32])=some (.str (O++TB++[115,101,116,32])):=aM (by simp; omega)
   have a3:be .add (.str (O++TB++[115,101,116,32])) (.str s)=some (.str (O++TB++[115,101,116,32]++s)):=aM (by simp; omega)
   have a4:be .add (.str (O++TB++[115,101,116,32]++s)) (.str [32,61,32])=some (.str (O++TB++[115,101,116,32]++s++[32,61,32])):=aM (by simp; omega)
   have a5:be .add (.str (O++TB++[115,101,116,32]++s++[32,61,32])) (.str X)=some (.str (O++TB++[115,101,116,32]++s++[32,61,32]++X)):=aM (by simp; omega)
   have a6:be .add (.str (O++TB++[115,101,116,32]++s++[32,61,32]++X)) (.str [59,10])=some (.str (aL lev (l.take (i+1)))):=by
    rw[hts']; exact aM (by simp; omega)
   simp only[sA,sB,seval,t0,t1,t5,t6,b1,b2,b3,aB,fld0,l0 E24,l1 E24,hki,a1,a2,a3,a4,a5,a6,wi]
   exact⟨l.length-(i+1),om,i+1,rfl,om,tt,by first | trivial | exact hTd | rw[hTd],tt,tt,dM E24⟩
  ·have hki:(k:Int)=3:=om
   have a2:be .add (.str (O++TB)) (.str [105,102,32,40])=some (.str (O++TB++[105,102,32,40])):=aM (by simp; omega)
   have a3:be .add (.str (O++TB++[105,102,32,40])) (.str X)=some (.str (O++TB++[105,102,32,40]++X)):=aM (by simp; omega)
   have a4:be .add (.str (O++TB++[105,102,32,40]++X)) (.str [41])=some (.str (O++TB++[105,102,32,40]++X++[41])):=aM (by simp; omega)
   by_cases q7:(0:Int)<(els.length:Int)
   ·have hne:els.isEmpty=false:=by cases els with
     | nil=>simp at q7
     | cons a l=>rfl
    have hts':aL lev (l.take (i+1))=O++TB++[105,102,32,40]++X++[41]++(BB++[32,101,108,115,101,32,123,10]++D++TB++[125])++[10]:=by
     rw[hts,if_neg om,if_neg om,if_neg om,if_pos hk,hne,hBB]
     simp only[Q3,Q9,List.nil_append,Q1,if_false]
    have g1:be .add (.str BB) (.str [32,101,108,115,101,32,123,10])=some (.str (BB++[32,101,108,115,101,32,123,10])):=aM (by simp; omega)
    have g2:be .add (.str (BB++[32,101,108,115,101,32,123,10])) (.str D)=some (.str (BB++[32,101,108,115,101,32,123,10]++D)):=aM (by simp; omega)
    have g3:be .add (.str (BB++[32,101,108,115,101,32,123,10]++D)) (.str TB)=some (.str (BB++[32,101,108,115,101,32,123,10]++D++TB)):=aM (by simp; omega)
    have g4:be .add (.str (BB++[32,101,108,115,101,32,123,10]++D++TB)) (.str [125])=some (.str (BB++[32,101,108,115,101,32,123,10]++D++TB++[125])):=aM (by simp; omega)
    have a5:be .add (.str (O++TB++[105,102,32,40]++X++[41])) (.str (BB++[32,101,108,115,101,32,123,10]++D++TB++[125]))=some (.str (O++TB++[105,102,32,40]++X++[41]++(BB++[32,101,108,115,101,32,123,10]++D++TB++[125]))):=aM (by simp; omega)
    have a6:be .add (.str (O++TB++[105,102,32,40]++X++[41]++(BB++[32,101,108,115,101,32,123,10]++D++TB++[125]))) (.str [10])=some (.str (aL lev (l.take (i+1)))):=by
     rw[hts']; exact aM (by simp; omega)
    simp only[sA,sB,seval,t0,t1,t5,t6,b1,b2,b3,aB,fld0,l0 E24,l7 E24,le,q7,hki,tb,g1]
    rw[hTd]
    refine (ih om om p1d p2d p3d om (y3.mono (kk E24)) (y4.mono (kk E24))).mono ?_
    rintro _ K5 ⟨rfl,E5⟩
    rw[<- hTd,<- hDd]
    have E25:=E24.trans (E5.less (by have:=E24.next; omega))
    simp only[sA,sB,seval,t0,t1,t5,t6,g2,g3,g4,a1,a2,a3,a4,a5,a6,wi]
    exact⟨l.length-(i+1),om,i+1,rfl,om,tt,by first | trivial | exact hTd | rw[hTd],tt,tt,dM E25⟩
   ·have hne:els.isEmpty=true:=by cases els with
     | nil=>rfl
     | cons a l=>exact absurd (show (0:Int)<((a::l).length:Int) by rw[QU]; omega) q7
    have hts':aL lev (l.take (i+1))=O++TB++[105,102,32,40]++X++[41]++BB++[10]:=by
     rw[hts,if_neg om,if_neg om,if_neg om,if_pos hk,hne,hBB]
     simp only[Q3,Q9,List.nil_append,if_true]
    have a5:be .add (.str (O++TB++[105,102,32,40]++X++[41])) (.str BB)=some (.str (O++TB++[105,102,32,40]++X++[41]++BB)):=aM (by simp; omega)
    have a6:be .add (.str (O++TB++[105,102,32,40]++X++[41]++BB)) (.str [10])=some (.str (aL lev (l.take (i+1)))):=by
     rw[hts']; exact aM (by simp; omega)
    simp only[sA,sB,seval,t0,t1,t5,t6,b1,b2,b3,aB,fld0,l0 E24,l7 E24,le,q7,hki,a1,a2,a3,a4,a5,a6,wi]
    exact⟨l.length-(i+1),om,i+1,rfl,om,tt,by first | trivial | exact hTd | rw[hTd],tt,tt,dM E24⟩
  ·have hki:(k:Int)=4:=om
   have hne:els.isEmpty=true:=by
    unfold bS at p1a
    rw[if_neg om,if_neg om,if_pos hk]at p1a
    cases els with
    | nil=>rfl
    | cons a l=>rw[QT,bD]at p1a; have:=of_decide_eq_true p1a.2; simp at this
   have hts':aL lev (l.take (i+1))=O++TB++[119,104,105,108,101,32,40]++X++[41]++BB++[10]:=by
    rw[hts,if_neg om,if_neg om,if_neg om,if_neg om,hne,hBB]
    simp only[Q3,Q9,List.nil_append,if_true]
   have a2:be .add (.str (O++TB)) (.str [119,104,105,108,101,32,40])=some (.str (O++TB++[119,104,105,108,101,32,40])):=aM (by simp; omega)
   have a3:be .add (.str (O++TB++[119,104,105,108,101,32,40])) (.str X)=some (.str (O++TB++[119,104,105,108,101,32,40]++X)):=aM (by simp; omega)
   have a4:be .add (.str (O++TB++[119,104,105,108,101,32,40]++X)) (.str [41])=some (.str (O++TB++[119,104,105,108,101,32,40]++X++[41])):=aM (by simp; omega)
   have a5:be .add (.str (O++TB++[119,104,105,108,101,32,40]++X++[41])) (.str BB)=some (.str (O++TB++[119,104,105,108,101,32,40]++X++[41]++BB)):=aM (by simp; omega)
   have a6:be .add (.str (O++TB++[119,104,105,108,101,32,40]++X++[41]++BB)) (.str [10])=some (.str (aL lev (l.take (i+1)))):=by
    rw[hts']; exact aM (by simp; omega)
   simp only[sA,sB,seval,t0,t1,t5,t6,b1,b2,b3,aB,fld0,l0 E24,hki,a1,a2,a3,a4,a5,a6,wi]
   exact⟨l.length-(i+1),om,i+1,rfl,om,tt,by first | trivial | exact hTd | rw[hTd],tt,tt,dM E24⟩
  ·have hki:(k:Int)=5:=om
   have hts':aL lev (l.take (i+1))=O++TB++[114,101,116,117,114,110,32]++X++[59,10]:=by
    rw[hts,if_neg om,if_neg om,if_pos hk]; simp only[Q3]
   have a2:be .add (.str (O++TB)) (.str [114,101,116,117,114,110,32])=some (.str (O++TB++[114,101,116,117,114,110,32])):=aM (by simp; omega)
   have a3:be .add (.str (O++TB++[114,101,116,117,114,110,32])) (.str X)=some (.str (O++TB++[114,101,116,117,114,110,32]++X)):=aM (by simp; omega)
   have a6:be .add (.str (O++TB++[114,101,116,117,114,110,32]++X)) (.str [59,10])=some (.str (aL lev (l.take (i+1)))):=by
    rw[hts']; exact aM (by simp; omega)
   simp only[sA,sB,seval,t0,t1,t5,t6,b1,b2,b3,aB,fld0,l0 E24,hki,a1,a2,a3,a6,wi]
   exact⟨l.length-(i+1),om,i+1,rfl,om,tt,by first | trivial | exact hTd | rw[hTd],tt,tt,dM E24⟩
theorem AZ{l:List St}{C:List ab}{v:ab}{H:aa}(z1:eX (·<H.next) H 9 v l.length C)(z2:gc (·<H.next) H l C)(hs:az l<=1000000)(hm:iV l=true)(hr:ii l=true) :
  aq Tryz.prog aA 13 [v] H fun u H'=>u=.tuple [.str (gD l).1,.int .i64 ((gD l).2:Int)]/\aS H.next H H':=by
 refine af rfl Qi rfl ?_
 simp only[c13,sA,sB,seval]
 refine (qD z1 z2 hs).mono ?_
 rintro _ H1 ⟨rfl,E1⟩
 have e1:=E1.next
 cases hR:dG l with
 | false=>
  have hsw:gD l=([],103):=by unfold gD; rw[if_neg (by rw[hR]; simp)]
  simp only[sA,sB,seval,hsw]
  exact⟨tt,E1⟩
 | true=>
  have hR':=hR
  simp only[dG,fW,QT,Q2]at hR'
  obtain⟨ho,_,hd⟩:=hR'
  have km:∀b,b<H.next->b<H1.next/\H1.get b=H.get b:=fun b hb=>⟨om,E1.old b hb⟩
  have ht:(ab.str [])=.str (dr 0):=rfl
  simp only[sA,sB,seval]
  rw[ht]
  refine (yI (az l) (lev:=0) rL hs ho hm hr om (z1.mono km) (z2.mono km)).mono ?_
  rintro _ H2 ⟨rfl,E2⟩
  have E02:=E1.trans (E2.less e1)
  by_cases hl:16384<(aL 0 l).length
  ·have hl':(16384:Int)<((aL 0 l).length:Int):=om
   have hsw:gD l=([],3):=by unfold gD; rw[if_pos hR,if_pos hl]
   simp only[sA,sB,seval,hl',hsw]
   exact⟨tt,E02⟩
  ·have hl':¬(16384:Int)<((aL 0 l).length:Int):=om
   have hsw:gD l=(aL 0 l,0):=by unfold gD; rw[if_pos hR,if_neg hl]
   simp only[sA,sB,seval,hl',hsw]
   exact⟨tt,E02⟩
open Go.Abs Go.Abs.S
abbrev Pr:List St:=[.mk 1 [97] (.mk 3 [43] 0 [.mk 1 [] 4294967296 [],.mk 3 [42] 0 [.mk 1 [] 8589934592 [],.mk 2 [98] 0 []]]) [] [] 1]
abbrev tr2:List St:=[.mk 5 [] (.mk 3 [60] 0 [.mk 3 [45] 0 [.mk 4 [120] 0 [.mk 2 [112] 0 []]],.mk 1 [] 2147483648 []]) [] [] 1]
abbrev tr3:List St:=[.mk 3 [] (.mk 2 [97] 0 []) [] [.mk 5 [] (.mk 1 [] 4294967296 []) [] [] 1] 1]
theorem ex1:eC [108,101,116,32,97,32,61,32,49,32,43,32,50,32,42,32,98,59]=.ok Pr:=by kernel_rfl
theorem ex2:eC [114,101,116,117,114,110,32,45,120,40,112,41,32,60,32,48,46,53,59]=.ok tr2:=by kernel_rfl
theorem ex3:eC [105,102,32,40,97,41,32,123,32,125,32,101,108,115,101,32,123,32,114,101,116,117,114,110,32,49,59,32,125]=.ok tr3:=by kernel_rfl
theorem ex4:eC [108,101,116,32,97,32,61,32,49]=.error (101,1):=by kernel_rfl
theorem Qq:cm 4294967296=[49]:=by
 have h:cm 4294967296=[]++(gU (eg 1)++ib 0):=by rw[cm]; rfl
 rw[h,iN om]; rfl
theorem Qp:cm 8589934592=[50]:=by
 have h:cm 8589934592=[]++(gU (eg 2)++ib 0):=by rw[cm]; rfl
 rw[h,iN om]; rfl
theorem KD:aL 0 Pr=[108,101,116,32,97,32,61,32,49,32,43,32,40,50,32,42,32,98,41,59,10]:=by
 simp only[aL,iX,dK,iY,cI,eB,Ex.kind,if_true,Qq,Qp]
 rfl
theorem LA:gD Pr=([108,101,116,32,97,32,61,32,49,32,43,32,40,50,32,42,32,98,41,59,10],0):=by
 have h:dG Pr=true:=by kernel_rfl
 unfold gD
 rw[if_pos h,KD,if_neg (by simp)]
theorem oG{s:Bs}{l:List St}(e:eC s=.ok l){H:aa}:aq Tryz.prog aA 9 [.str s] H fun u H'=>(∃v C,u=.tuple [v,.agg (dQ 0 0)]/\eX (In H.next H'.next) H' 9 v l.length C/\gc (In H.next H'.next) H' l C)/\aS H.next H H':=by
 have:=qu s (H:=H)
 rw[e]at this
 exact this
theorem uN{s:Bs}{f:gB}(e:eC s=.error f){H:aa}:aq Tryz.prog aA 9 [.str s] H fun u H'=>u=.tuple [bP,.agg (dQ f.1 f.2)]/\aS H.next H H':=by
 have:=qu s (H:=H)
 rw[e]at this
 exact this
theorem mS{H:aa}(e l:Nat):∃H1 H2,go H [.int .i64 0,.int .i64 0]=(ae H.next 2 0,H1)/\a8 2 H1 (ae H.next 2 0) (.agg (dQ e l))=some H2/\aT H2 H.next (dQ e l)/\H2.next=H.next+1/\∀c,c<H.next->H2.get c=H.get c:=by
 obtain⟨H1,m1,r1,n1,k1⟩:=au H [.int .i64 0,.int .i64 0] (n:=2) rfl
 obtain⟨H2,m2,r2,n2,k2⟩:=aj r1 (n:=2) rfl (xs:=dQ e l) rfl rfl
 exact⟨H1,H2,m1,m2,r2,om,fun c hc=>by rw[k2 c om,k1 c om]⟩
theorem sU{P:Nat->Prop}{H:aa}{v:ab}{C:List ab}{k:Nat}{s:Bs}{e:Ex}{body els r:List St}{line:Int}(z1:eX P H 9 v (St.mk k s e body els line::r).length C)(z2:gc P H (St.mk k s e body els line::r) C) :
  ∃ce vb Cb ve Ce,eH 9 v (.int .i64 0)=some (cF 9 v 0)/\nk H (cF 9 v 0) (.int .u8 (k:Int)::.str s::(ce++[vb,ve,.int .i64 line]))/\XE P H e ce/\eX P H 9 vb body.length Cb/\gc P H body Cb/\eX P H 9 ve els.length Ce/\gc P H els Ce:=by
 have hp:=z1.pt (i:=0) (by simp)
 obtain⟨ce,vb,Cb,ve,Ce,hc,q⟩:=z2.at (i:=0) rfl
 rw[hc]at hp
 exact⟨ce,vb,Cb,ve,Ce,z1.idx (i:=0) (by simp),hp,q⟩
theorem tA{H:aa}(h1:1<H.next)(hG:ru H 1 nM):aq Tryz.prog aA 8 [] H fun v H'=>v=.bool true/\aS H.next H H':=by
 refine af rfl za8 rfl ?_
 simp only[c8,sA,sB,seval]
 refine (oG ex1).mono ?_
 rintro _ H1 ⟨⟨v1,C1,rfl,a1,a2⟩,E1⟩
 have n1:=E1.next
 obtain⟨Ha,H2,ma,m2,r2,n2,k2⟩:=mS (H:=H1) 0 0
 simp only[sA,sB,seval,b9,b7,ma,m2]
 refine (oG ex2).mono ?_
 rintro _ H3 ⟨⟨v2,C2,rfl,b1,b2⟩,E3⟩
 have n3:=E3.next
 obtain⟨Hb,H4,mb,m4,r4,n4,k4⟩:=mS (H:=H3) 0 0
 simp only[sA,sB,seval,b9,b7,mb,m4]
 refine (oG ex3).mono ?_
 rintro _ H5 ⟨⟨v3,C3,rfl,d1,d2⟩,E5⟩
 have n5:=E5.next
 obtain⟨Hc,H6,mc,m6,r6,n6,k6⟩:=mS (H:=H5) 0 0
 simp only[sA,sB,seval,b9,b7,mc,m6]
 refine (uN ex4).mono ?_
 rintro _ H7 ⟨rfl,E7⟩
 have n7:=E7.next
 obtain⟨Hd,H8,md,m8,r8,n8,k8⟩:=mS (H:=H7) 101 1
 have o71:∀c,c<H1.next->H8.get c=H1.get c:=fun c hc=>by rw[k8 c om,E7.old c om,k6 c om,E5.old c om,k4 c om,E3.old c om,k2 c om]
 have o83:∀c,c<H3.next->H8.get c=H3.get c:=fun c hc=>by rw[k8 c om,E7.old c om,k6 c om,E5.old c om,k4 c om]
 have o85:∀c,c<H5.next->H8.get c=H5.get c:=fun c hc=>by rw[k8 c om,E7.old c om,k6 c om]
 have a18:=a1.mono (Q:=(·<H8.next)) (H':=H8) fun b hb=>⟨by have:=hb.2; omega,o71 b hb.2⟩
 have a28:=a2.mono (Q:=(·<H8.next)) (H':=H8) fun b hb=>⟨by have:=hb.2; omega,o71 b hb.2⟩
 have G8:ru H8 1 nM:=by unfold ru; rw[o71 1 om,E1.old 1 h1]; exact hG
 simp only[sA,sB,seval,b9,b7,md,m8]
 refine (sx a18 a28 (by kernel_rfl) (fun _=>by rw[KD]; simp) om G8).mono ?_
 rintro _ H9 ⟨rfl,E9⟩
 have n9:=E9.next
 rw[LA]
 have kk:∀c,c<H8.next->H9.get c=H8.get c:=fun c hc=>E9.old c hc
 have w2:am false 1 H9 (ae H1.next 2 0)=some (.int .i64 0):=ah (r2.same (by rw[kk _ om,k8 _ om,E7.old _ om,k6 _ om,E5.old _ om,k4 _ om,E3.old _ om])) rfl rfl
 have w4:am false 1 H9 (ae H3.next 2 0)=some (.int .i64 0):=ah (r4.same (by rw[kk _ om,k8 _ om,E7.old _ om,k6 _ om,E5.old _ om])) rfl rfl
 have w6:am false 1 H9 (ae H5.next 2 0)=some (.int .i64 0):=ah (r6.same (by rw[kk _ om,k8 _ om,E7.old _ om])) rfl rfl
 have w8:am true 2 H9 (ae H7.next 2 0)=some (.agg (dQ 101 1)):=al (r8.same (kk _ om)) rfl
 have A1:=a18.mono (Q:=(·<H9.next)) (H':=H9) fun b hb=>⟨om,kk b hb⟩
 have A2:=a28.mono (Q:=(·<H9.next)) (H':=H9) fun b hb=>⟨om,kk b hb⟩
 have B1:=b1.mono (Q:=(·<H9.next)) (H':=H9) fun b hb=>⟨by have:=hb.2; omega,by rw[kk b (by have:=hb.2; omega),o83 b hb.2]⟩
 have B2:=b2.mono (Q:=(·<H9.next)) (H':=H9) fun b hb=>⟨by have:=hb.2; omega,by rw[kk b (by have:=hb.2; omega),o83 b hb.2]⟩
 have D1:=d1.mono (Q:=(·<H9.next)) (H':=H9) fun b hb=>⟨by have:=hb.2; omega,by rw[kk b (by have:=hb.2; omega),o85 b hb.2]⟩
 have D2:=d2.mono (Q:=(·<H9.next)) (H':=H9) fun b hb=>⟨by have:=hb.2; omega,by rw[kk b (by have:=hb.2; omega),o85 b hb.2]⟩
 have l1:gv false v1=some (.int .i64 1):=A1.len
 have l2:gv false v2=some (.int .i64 1):=B1.len
 have l3:gv false v3=some (.int .i64 1):=D1.len
 obtain⟨ce,vb,Cb,ve,Ce,i1,p1,⟨kv,KC,rfl,kz1,kz2⟩,_⟩:=sU A1 A2
 obtain⟨ce',vb',Cb',ve',Ce',i2,p2,⟨kv',KC',rfl,kz1',kz2'⟩,_⟩:=sU B1 B2
 obtain⟨ce3,vb3,Cb3,ve3,Ce3,i3,p3,⟨kv3,KC3,rfl,_⟩,_,_,el1,_⟩:=sU D1 D2
 have g1:=p1.fld 2
 have g1':=(p1.part (o:=2) (k:=4) (by simp)).fld 1
 have h1':am false 1 H9 (fp (fp (cF 9 v1 0) 2) 1)=some (.str [43]):=(p1.part (o:=2) (k:=4) (by simp)).load (o:=1) rfl
 have g2:=p2.fld 2
 have pe2:=p2.part (o:=2) (k:=4) (by simp)
 have g2':=pe2.fld 1
 have g23:=pe2.fld 3
 have h2':am false 1 H9 (fp (fp (cF 9 v2 0) 2) 1)=some (.str [60]):=pe2.load (o:=1) rfl
 have h23:am false 1 H9 (fp (fp (cF 9 v2 0) 2) 3)=some kv':=pe2.load (o:=3) rfl
 have ik:eH 4 kv' (.int .i64 0)=some (cF 4 kv' 0):=kz1'.idx (i:=0) (by simp)
 obtain⟨kk2,KK2,hkc,_⟩:=kz2'.at (i:=0) rfl
 have pk:=kz1'.pt (i:=0) (by simp)
 rw[hkc]at pk
 have gk:=pk.fld 1
 have hk:am false 1 H9 (fp (cF 4 kv' 0) 1)=some (.str [45]):=pk.load (o:=1) rfl
 have g3:=p3.fld 7
 have h3':am false 1 H9 (fp (cF 9 v3 0) 7)=some ve3:=p3.load (o:=7) rfl
 have le3:gv false ve3=some (.int .i64 1):=el1.len
 have bf:bB [.int .i64 0,.int .i64 0] [(0,1,.int .i64 101),(1,1,.int .i64 1)]=some (.agg (dQ 101 1)):=rfl
 have eq:jt (.eqS false [(0,.int),(1,.int)]) [.agg (dQ 101 1),.agg (dQ 101 1)]=some (.bool true):=rfl
 simp only[sA,sB,seval,b9,b7,aB,fld0,w2,w4,w6,w8,l1,l2,l3,i1,i2,i3,g1,g1',h1',g2,g2',g23,h2',h23,ik,gk,hk,g3,h3',le3,bf,eq]
 exact⟨tt,om,fun c hc=>by rw[kk c om,o71 c om,E1.old c hc]⟩
open Go.Abs Go.Abs.S
theorem qE(s:Bs){H:aa}:aq Tryz.prog aA 10 [.str s] H fun u H'=>(match eC s with
   | .ok l=>∃v C,u=.tuple [v,.agg (dQ 0 0)]/\eX (In H.next H'.next) H' 9 v l.length C/\gc (In H.next H'.next) H' l C
   | .error e=>u=.tuple [bP,.agg (dQ e.1 e.2)])/\aS H.next H H':=by
 refine af rfl Qk rfl ?_
 obtain⟨H1,m1,r1,n1,k1⟩:=au H [.int .i64 0,.int .i64 0] (n:=2) rfl
 have bo:bB [.str [],.int .u8 0,.str [],.int .i64 0,.int .i64 0,.int .i64 0,.int .i64 0,.int .i64 0,.int .i64 0,.int .i64 0] [(0,1,.str s)]=some (.agg (gL s W0 0 0 0)):=rfl
 obtain⟨H2,m2,r2,n2,k2⟩:=au H1 (gL s W0 0 0 0) (n:=10) rfl
 obtain⟨rb,hrb⟩:∃rb,rb=H1.next:=⟨_,rfl⟩
 rw[<- hrb]at m2 r2 k2
 have ag:∀l:List ab,(ab.agg l).cells=l:=cq
 have k20:∀c,c<H.next->H2.get c=H.get c:=fun c hc=>by rw[k2 c om,k1 c om]
 have t2':aT H2 H.next [.int .i64 0,.int .i64 0]:=r1.same (k2 _ om)
 have s2:fA rb s H2 (.ok W0) 0:=r2
 simp only[c10,sW,sL,iZ,iI,nf,sB,seval,m1,bo,ag,m2]
 refine (rV s2 om (p:=0) om).mono ?_
 rintro _ H3 ⟨s3,F3⟩
 have e3:=F3.next
 have s3':fA rb s H3 (cW s 0) 0:=s3
 have b0:bB [.int .i64 0,.int .i64 0] []=some (.agg (dQ 0 0)):=rfl
 have bn:bB [.int .i64 0,.int .i64 0] [(0,1,.int .i64 102)]=some (.agg (dQ 102 0)):=rfl
 have t3:=t2'.same (F3.old _ om om)
 have k30:∀c,c<H.next->H3.get c=H.get c:=fun c hc=>by rw[F3.old c om om,k20 c hc]
 have hpf:∃rr:Except gB (List St),eC s=(match rr with
   | .error e=>.error e
   | .ok l=>if fW l then .ok l else .error (102,0))/\(∀l,rr=.ok l->az l<=100000)/\∃μ,((∃m out w8,μ=2*m+1/\0=out.length/\out.length+m<=1000000/\GS H3.next H3 bP out/\cW s 0=.ok w8/\fy s w8/\0=0/\j5 s m out w8=some rr)∨∃e,μ=0/\rr=.error e/\cW s 0=.error e):=by
  cases hn:cW s 0 with
  | error e=>exact⟨.error e,by unfold eC; rw[hn],fun l q=>by simp at q,0,.inr ⟨e,rfl,rfl,rfl⟩⟩
  | ok w=>
   obtain⟨hw,-,-⟩:=il hn
   obtain⟨r,hr⟩:=yE hn
   have hfu:nr s<=1000000:=by have:=hw.long; unfold nr; omega
   refine⟨r,?_,fun l q=>FC hn (q ▸ hr),_,.inl ⟨nr s,[],w,rfl,rfl,by simpa using hfu,GS.nil _ _,rfl,hw,rfl,hr⟩⟩
   unfold eC; rw[hn]; simp only[hr]; cases r <;> rfl
 obtain⟨rr,hp,hsz,μ0,start⟩:=hpf
 rw[hp]
 simp only[sW,sL,iZ,iI,nf,sB,seval]
 rw[dS]
 refine fu (fun (T:bG) H'=>T 3=ae H.next 2 0/\T 4=ae rb 10 0/\aT H' H.next [.int .i64 0,.int .i64 0]/\H3.next<=H'.next/\(∀c,c<H.next->H'.get c=H.get c)/\((∃l w8 d,rr=.ok l/\T 5=T 5/\GS H3.next H' (T 5) l/\fA rb s H' (.ok w8) d)∨∃e d,rr=.error e/\fA rb s H' (.error e) d)) (bH _ _) ?_ ?_
 rotate_left
 ·rintro T He ⟨t3',t4,re,ne,oe,⟨l,w8,d,rfl,-,G,se⟩ | ⟨e,d,rfl,se⟩⟩
  ·have l7:am false 1 He (ae rb 10 7)=some (.int .i64 0):=ah (show aT He rb (gL s w8 0 0 d) from se) rfl rfl
   obtain⟨C,z1,z2⟩:=G.sl
   simp only[sA,sB,seval,t3',t4,aw,aB,fld0,l7]
   refine (sV (z1.mono fun c hc=>⟨hc.2,rfl⟩) (z2.mono fun c hc=>⟨hc.2,rfl⟩) (by have:=hsz l rfl; omega)).mono ?_
   rintro _ Hf ⟨rfl,Ef⟩
   have xf:=Ef.next
   cases hfit:fW l with
   | true=>
    obtain⟨Hg,mg,rg,ng,kg⟩:=aj (re.same (Ef.old _ om)) (n:=2) rfl (xs:=dQ 0 0) rfl rfl
    have lg:=al rg (n:=2) rfl
    have km:∀c,In H3.next He.next c->In H.next Hg.next c/\Hg.get c=He.get c:=fun c hc=>by
     have h1:=hc.1
     have h2:=hc.2
     exact⟨⟨om,om⟩,by rw[kg c om,Ef.old c h2]⟩
    simp only[sA,sB,seval,t3',t4,b0,mg,nT,lg,aP]
    exact⟨⟨_,C,rfl,z1.mono km,z2.mono km⟩,om,fun c hc=>by rw[kg c om,Ef.old c om,oe c hc]⟩
   | false=>
    obtain⟨Hg,mg,rg,ng,kg⟩:=aj (re.same (Ef.old _ om)) (n:=2) rfl (xs:=dQ 102 0) rfl rfl
    have lg:=al rg (n:=2) rfl
    simp only[sA,sB,seval,t3',t4,bn,mg,nT,lg,aP]
    exact⟨tt,om,fun c hc=>by rw[kg c om,Ef.old c om,oe c hc]⟩
  ·obtain⟨hr,he0⟩:=se
   have l7:am false 1 He (ae rb 10 7)=some (.int .i64 (e.1:Int)):=ah hr rfl rfl
   have lf:am true 2 He (ae rb 10 7)=some (.agg (dQ e.1 e.2)):=eA hr (n:=10) rfl (i:=7) (k:=2) om
   have he':¬(e.1:Int)=0:=om
   obtain⟨Hg,mg,rg,ng,kg⟩:=aj re (n:=2) rfl (xs:=dQ e.1 e.2) rfl rfl
   have lg:=al rg (n:=2) rfl
   simp only[sA,sB,seval,t3',t4,aw,aB,fld0,l7,he',lf,mg,nT,lg,aP]
   exact⟨tt,om,fun c hc=>by rw[kg c om,oe c hc]⟩
 refine aG (fun μ (T:bG) K=>∃o d' v n,T 3=ae H.next 2 0/\T 4=ae rb 10 0/\T 5=v/\GB H3.next K v n/\fA rb s K o d'/\d'<=200/\Fp rb H3 K/\((∃m out w8,μ=2*m+1/\n=out.length/\out.length+m<=1000000/\GS H3.next K v out/\o=.ok w8/\fy s w8/\d'=0/\j5 s m out w8=some rr)∨∃e,μ=0/\rr=.error e/\o=.error e)) μ0
  ⟨cW s 0,0,bP,0,by simp only[sA,sB,seval],by simp only[sA,sB,seval],by simp only[sA,sB,seval]; rfl,(GS.nil _ _).ga,s3',om,Fp.refl _ _,start⟩ ?_
 rintro μ T K ⟨o,d',v,n,t3',t4,t5,gK,sK,y2,FK,hK⟩
 have eK:=FK.next
 have tK:=t3.same (FK.old _ om om)
 have oK:∀c,c<H.next->K.get c=H.get c:=fun c hc=>by rw[FK.old c om om,k30 c hc]
 obtain⟨e,l,hr0,he⟩:=sK.cells
 have l7:am false 1 K (ae rb 10 7)=some (.int .i64 e):=ah hr0 rfl rfl
 have l1:am false 1 K (ae rb 10 1)=some (.int .u8 ((oW o).k:Int)):=ah hr0 rfl rfl
 rcases hK with⟨m,out,w8,rfl,rfl,hm,gE,rfl,ok8,rfl,hp8⟩ | ⟨f',rfl,hrf,rfl⟩
 rotate_left
 ·have hne:e≠0:=fun q=>by obtain⟨w,hw⟩:=he.1 q; simp at hw
  simp only[sA,sB,seval,t3',t4,t5,aw,aB,fld0,l7,hne]
  exact⟨by simp only[sA,sB,seval,t3'],by simp only[sA,sB,seval,t4],tK,eK,oK,.inr ⟨f',d',hrf,sK⟩⟩
 obtain rfl:=he.2 ⟨w8,rfl⟩
 have l1':am false 1 K (ae rb 10 1)=some (.int .u8 (w8.k:Int)):=l1
 cases m with
 | zero=>simp[j5]at hp8
 | succ m=>
 unfold j5 at hp8
 by_cases hk:w8.k=5
 ·rw[if_pos hk]at hp8
  simp only[sJ]at hp8
  have hk':(w8.k:Int)=5:=om
  simp only[sA,sB,seval,t3',t4,t5,aw,aB,fld0,l7,l1',hk']
  exact⟨by simp only[sA,sB,seval,t3'],by simp only[sA,sB,seval,t4],tK,eK,oK,.inl ⟨out,w8,0,hp8.symm,tt,gE,sK⟩⟩
 rw[if_neg hk]at hp8
 have hk':¬(w8.k:Int)=5:=om
 obtain⟨r0,hr0'⟩:∃r0,pS s m .stmt 0 w8=some r0:=by
  cases hq:pS s m .stmt 0 w8 with
  | none=>rw[hq]at hp8; simp at hp8
  | some r=>exact⟨r,rfl⟩
 rw[hr0']at hp8
 simp only[sA,sB,seval,t3',t4,t5,aw,aB,fld0,l7,l1',hk']
 refine (yu rb s m om m rL K w8 0 r0 sK ok8 y2 om hr0').mono ?_
 rintro _ K1 ⟨xs,d1,o1,rfl,x9,z1,z2,sK1,FK1,hx⟩
 have eK1:=FK1.next
 have bm:=jp (z:=[.int .u8 0,.str [],.int .u8 0,.str [],.int .i64 0,.slice none 0 (.known 0),.slice none 0 (.known 0),.slice none 0 (.known 0),.int .i64 0]) (xs:=xs) (m:=9) K1 rfl x9.len
 have hbv:eJ v (In H3.next K.next):=by
  obtain⟨C,_,q,_⟩:=gE
  exact q
 have nb:∀c,c<H3.next->eJ v (c≠·):=fun c hc=>hbv.mono fun b hb=>by have:=hb.1; omega
 have GK:=gE.keep eK1 fun c hc=>FK1.old c hc.2 (by have:=hc.1; omega)
 have dM:∀K2,(∀c,c<K1.next->eJ v (c≠·)->K2.get c=K1.get c)->K1.next<=K2.next->fA rb s K2 o1 d1/\Fp rb H3 K2:=fun K2 q hn=>⟨sK1.same (q rb om (nb rb om)),om,fun c h1 h2=>by rw[q c om (nb c h1),FK1.old c om h2,FK.old c h1 h2]⟩
 rcases hx with⟨st,w9,rfl,rfl,rfl,ok9,h4⟩ | ⟨e,rfl,rfl⟩
 ·obtain⟨v',K2,a1,a2,a3,a4⟩:=GK.push h4 om om (hbv.mono fun c hc=>hc.2) om (bytes:=136) om om
  obtain⟨q1,q2⟩:=dM K2 a4 a3
  have ag2:=a2.ga
  rw[lA,QU,QV]at ag2
  simp only[sA,sB,seval,t3',t4,t5,bm,a1]
  exact⟨2*m+1,om,_,_,v',out.length+1,by simp only[sA,sB,seval,t3'],by simp only[sA,sB,seval,t4],by simp only[sA,sB,seval],ag2,q1,z2,q2,.inl ⟨m,out++[st],w9,rfl,by simp,by simp; omega,a2,rfl,ok9,rfl,hp8⟩⟩
 ·obtain⟨v',K2,a1,a2,a3,a4⟩:=GK.ga.push x9 om om (bytes:=136) om om
  obtain⟨q1,q2⟩:=dM K2 a4 a3
  simp only[sJ]at hp8
  simp only[sA,sB,seval,t3',t4,t5,bm,a1]
  exact⟨0,om,_,_,v',out.length+1,by simp only[sA,sB,seval,t3'],by simp only[sA,sB,seval,t4],by simp only[sA,sB,seval],a2,q1,z2,q2,.inr ⟨e,rfl,hp8.symm,rfl⟩⟩
open Go.Abs Go.Abs.S
theorem Ow(f g:Nat):jt (.eqS false [(0,.int),(1,.int)]) [.agg (dQ f g),.agg (dQ f g)]=some (.bool true):=by
 simp[jt,dQ,Dr,mE,Pt,L3,L0,kI]
open Go.Abs Go.Abs.S
theorem Bz(s:Bs):∃(e f:Nat) (L:List St),az L<=1000 /\
  (∀H,aq Tryz.prog aA 9 [.str s] H fun u H'=>(∃v C,u=.tuple [v,.agg (dQ e f)]/\eX (In H.next H'.next) H' 9 v L.length C/\gc (In H.next H'.next) H' L C)/\aS H.next H H') /\
  (∀H,aq Tryz.prog aA 10 [.str s] H fun u H'=>(∃v C,u=.tuple [v,.agg (dQ e f)]/\eX (In H.next H'.next) H' 9 v L.length C/\gc (In H.next H'.next) H' L C)/\aS H.next H H'):=by
 cases h:eC s with
 | ok t=>
  have hsz:az t<=1000:=by
   have:=xZ h
   simp only[dG,fW,QT,Q2]at this
   exact this.2.1
  refine⟨0,0,t,hsz,fun H=>oG h,fun H=>?_⟩
  have:=qE s (H:=H)
  rw[h]at this
  exact this
 | error g=>
  refine⟨g.1,g.2,[],by simp[az],fun H=>(uN h).mono ?_,fun H=>?_⟩
  ·rintro _ H' ⟨rfl,E⟩; exact⟨⟨bP,[],rfl,eX.nil _ _ _,rfl⟩,E⟩
  ·have:=qE s (H:=H)
   rw[h]at this
   refine this.mono ?_
   rintro _ H' ⟨rfl,E⟩; exact⟨⟨bP,[],rfl,eX.nil _ _ _,rfl⟩,E⟩
theorem Pi(b:Bool):(b==b)=true:=by cases b <;> rfl
theorem qy{H:aa}(t:Bs){l:List St}{C:List ab}{v:ab}(z1:eX (·<H.next) H 9 v l.length C)(z2:gc (·<H.next) H l C)(hr:ii l=true)(h1:1<H.next)(hG:ru H 1 nM) :
  aq Tryz.prog aA 3 [.str t,v] H fun u H'=>u=.bool true/\aS H.next H H':=by
 refine af rfl za3 rfl ?_
 have kk:∀{J:aa},aS H.next H J->∀b,b<H.next->b<J.next/\J.get b=H.get b:=fun q b hb=>⟨by have:=q.next; omega,q.old b hb⟩
 have gl:∀{J:aa},aS H.next H J->1<J.next/\ru J 1 nM:=fun q=>⟨by have:=q.next; omega,by unfold ru; rw[q.old 1 h1]; exact hG⟩
 by_cases hl:3000<t.length
 case' pos=>
  have hl':(3000:Int)<(t.length:Int):=om
  have sl:dT (.str t) none (some (.int .i64 3000))=some (.str (t.take 3000)):=ov (s:=t) (h:=3000) om
  simp only[c3,sA,sB,seval,hl',sl]
  generalize t.take 3000=s
 case' neg=>
  have hl':¬(3000:Int)<(t.length:Int):=om
  simp only[c3,sA,sB,seval,hl']
  generalize t=s
 all_goals
  refine (Em z1 z2).mono ?_
  rintro _ H1 ⟨E1,r,rfl,hsm⟩
  have e1:=E1.next
  cases r with
  | true=>
   simp only[sA,sB,seval]
   refine (tA (gl E1).1 (gl E1).2).mono ?_
   rintro _ H2 ⟨rfl,E2⟩
   simp only[sA,sB,seval]
   exact⟨tt,E1.trans (E2.less e1)⟩
  | false=>
  obtain⟨s1,s2,s3⟩:=hsm rfl
  obtain⟨e,f,L,hL,hp,hf⟩:=Bz s
  simp only[sA,sB,seval]
  refine (hp H1).mono ?_
  rintro _ H2 ⟨⟨va,Ca,rfl,a1,a2⟩,E2⟩
  have e2:=E2.next
  obtain⟨Ha,H3,ma,m3,r3,n3,k3⟩:=mS (H:=H2) e f
  have E3:aS H2.next H2 H3:=⟨om,k3⟩
  simp only[sA,sB,seval,b9,b7,ma,m3]
  refine (hf H3).mono ?_
  rintro _ H4 ⟨⟨vb,Cb,rfl,b1,b2⟩,E4⟩
  have e4:=E4.next
  obtain⟨Hb,H5,mb,m5,r5,n5,k5⟩:=mS (H:=H4) e f
  have E5:aS H4.next H4 H5:=⟨om,k5⟩
  have E05:aS H.next H H5:=E1.trans ((E2.trans ((E3.trans ((E4.trans (E5.less om)).less om)).less om)).less om)
  simp only[sA,sB,seval,b9,b7,mb,m5]
  refine (Bm (az l) rL om (z1.mono (kk E05)) (z2.mono (kk E05))).mono ?_
  rintro vc H6 ⟨⟨Cc,c1,c2⟩,E6⟩
  have e6:=E6.next
  have E06:=E05.trans (E6.less E05.next)
  have c1':eX (·<H6.next) H6 9 vc l.length Cc:=c1.mono fun b hb=>⟨hb.2,rfl⟩
  have c2':gc (·<H6.next) H6 l Cc:=c2.mono fun b hb=>⟨hb.2,rfl⟩
  have hlen:=gJ 0 l s3 hr om
  simp only[sA,sB,seval]
  refine (sx c1' c2' hr (fun _=>om) (gl E06).1 (gl E06).2).mono ?_
  rintro _ H7 ⟨rfl,E7⟩
  have e7:=E7.next
  have E07:=E06.trans (E7.less E06.next)
  simp only[sA,sB,seval,b9,b7]
  refine (AZ (z1.mono (kk E07)) (z2.mono (kk E07)) om s3 hr).mono ?_
  rintro _ H8 ⟨rfl,E8⟩
  have e8:=E8.next
  have E08:=E07.trans (E8.less E07.next)
  have X58:aS H5.next H5 H8:=E6.trans ((E7.trans (E8.less e7)).less e6)
  have X48:aS H4.next H4 H8:=E5.trans (X58.less om)
  have X38:aS H3.next H3 H8:=E4.trans (X48.less om)
  have X28:aS H2.next H2 H8:=E3.trans (X38.less om)
  have w3:am true 2 H8 (ae H2.next 2 0)=some (.agg (dQ e f)):=al (r3.same (X38.old _ om)) rfl
  have w5:am true 2 H8 (ae H4.next 2 0)=some (.agg (dQ e f)):=al (r5.same (X58.old _ om)) rfl
  simp only[sA,sB,seval,b9,b7,w3,w5,Ow]
  have ka:∀b,In H1.next H2.next b->b<H8.next/\H8.get b=H2.get b:=fun b hb=>⟨by have:=X28.next; have:=hb.2; omega,X28.old b hb.2⟩
  have kb:∀b,In H3.next H4.next b->b<H8.next/\H8.get b=H4.get b:=fun b hb=>⟨by have:=X48.next; have:=hb.2; omega,X48.old b hb.2⟩
  refine (rS (az L) rL om (a1.mono ka) (a2.mono ka) (b1.mono kb) (b2.mono kb)).mono ?_
  rintro _ H9 ⟨rfl,E9⟩
  have e9:=E9.next
  have E09:=E08.trans (E9.less E08.next)
  have kc:∀{J:aa},aS H6.next H6 J->∀b,b<H6.next->b<J.next/\J.get b=H6.get b:=fun q b hb=>⟨by have:=q.next; omega,q.old b hb⟩
  have X69:aS H6.next H6 H9:=(E7.trans (E8.less e7)).trans (E9.less om)
  simp only[sA,sB,seval]
  refine (lN (c1'.mono (kc X69)) (c2'.mono (kc X69))).mono ?_
  rintro _ H10 ⟨rfl,E10⟩
  have e10:=E10.next
  have E010:=E09.trans (E10.less E09.next)
  have X610:=X69.trans (E10.less X69.next)
  simp only[sA,sB,seval]
  refine (qD (z1.mono (kk E010)) (z2.mono (kk E010)) om).mono ?_
  rintro _ H11 ⟨rfl,E11⟩
  have e11:=E11.next
  have E011:=E010.trans (E11.less E010.next)
  have X611:=X610.trans (E11.less X610.next)
  simp only[sA,sB,seval,Eu,Pi]
  refine (rS (az l) rL om (c1'.mono (kc X611)) (c2'.mono (kc X611)) (z1.mono (kk E011)) (z2.mono (kk E011))).mono ?_
  rintro _ H12 ⟨rfl,E12⟩
  have E012:=E011.trans (E12.less E011.next)
  simp only[sA,sB,seval]
  refine (tA (gl E012).1 (gl E012).2).mono ?_
  rintro _ H13 ⟨rfl,E13⟩
  simp only[sA,sB,seval]
  exact⟨tt,E012.trans (E13.less E012.next)⟩
open Go.Abs Go.Abs.S
open Go.WideShapes Go.ChangeShapes
variable {K:Type} {enc:TypeId×Value->K}
theorem Ed{α:Type}{f:Nat->Option α}{m:Nat}(h:f 0=none)(hm:0<m):(List.range m).mapM f=none:=by
 obtain⟨m,rfl⟩:∃k,m=k+1:=⟨m-1,om⟩
 rw[List.range_succ_eq_map,List.mapM_cons,h]; rfl
theorem Bq{W:World}{c off:Nat}{q}{m:Nat}(hm:0<m):W.cells? 0 ⟨c,off,some q⟩ m=none:=by
 unfold World.cells?
 split
 ·refine Ed ?_ hm
  show W.cell? ⟨c,off,some q⟩=none
  unfold World.cell?
  split
  ·rfl
  ·rfl
 ·rfl
theorem eX.empty{W:World}{m:Nat}{a:Addr}:eX (·<(dL W).next) (dL W) m (lj W (.slice (some a) 0 0)) 0 []:=by
 obtain⟨c,off,spot⟩:=a
 cases spot with
 | some q=>exact .inl ⟨rfl,rfl,rfl⟩
 | none=>
  cases hr:kW W c with
  | none=>exact .inl ⟨by simp only[lj,Nat.le_refl,if_true,hr]; rfl,rfl,rfl⟩
  | some n=>
   by_cases ho:off<=n
   ·obtain⟨C,e',fz,g1,g2,g3⟩:=mO hr
    have hlt:c<(dL W).next:=(Array.getElem?_eq_some_iff.1 g1).1
    refine .inr ⟨⟨c,n,off⟩,.known 0,by simp only[lj,Nat.le_refl,if_true,hr,ho],hlt,?_⟩
    unfold bv
    rw[gO,g3]
    simp only[Q5,Array.length_toList,g2,Nat.mul_zero,Nat.add_zero,List.take_zero,QS (Nat.zero_le _),QS rL,QS ho,Bool.and_self,cond_true]
   ·exact .inl ⟨by simp only[lj,Nat.le_refl,if_true,hr]; rw[if_neg ho]; rfl,rfl,rfl⟩
theorem qS{P:Program}{W:World}{t e:TypeId}{m fuel:Nat}{cs:List Value}{x:DataW K×List MemPlace}(ht:P.underlying t=some (.slice e))(hm:P.cellsOf e=m)(h0:0<m)
  (hf:DataW.trod enc P W 0 (fun _=>true) true fuel t cs=some x) :
  ∃v k C,cs=[v]/\eX (·<(dL W).next) (dL W) m (lj W v) k C/\C.length=m*k/\∀i,i<k->∃f es y,f<fuel/\es.map (lj W)=(C.drop (i*m)).take m/\DataW.trod enc P W 0 (fun _=>true) true f e es=some y:=by
 subst hm
 rcases DataW.trod_slice ht hf with⟨rfl,_⟩ | ⟨a,len,cap,elems,rest,n',hfu,rfl,_,_,h3,h4,h5,h6,h7,_⟩
 ·exact⟨_,0,[],rfl,.inl ⟨by simp only[lj]; rfl,rfl,rfl⟩,rfl,fun i hi=>om⟩
 obtain⟨h7a,h7b⟩:=h7 rfl
 by_cases hc:cap=0
 ·obtain rfl:len=0:=om
  subst hc
  exact⟨_,0,[],rfl,eX.empty,rfl,fun i hi=>om⟩
 have hal:∀i,i<cap->∃es,W.cells? 0 (a.add (i*P.cellsOf e)) (P.cellsOf e)=some es:=by
  intro i hi
  by_cases hlt:i<len
  ·have:=h6 i hlt
   rw[QQ om]at this
   obtain⟨es,q,_⟩:=Option.bind_eq_some_iff.1 this
   exact⟨es,q⟩
  ·have:=h7b (i-len) om
   rw[QQ om,show len+(i-len)=i by omega]at this
   obtain⟨es,q,_⟩:=Option.bind_eq_some_iff.1 this
   exact⟨es,q⟩
 obtain⟨c,off,spot⟩:=a
 cases spot with
 | some q=>
  obtain⟨es,hes⟩:=hal 0 om
  rw[Nat.zero_mul,show (⟨c,off,some q⟩:Addr).add 0=⟨c,off,some q⟩ from rfl,Bq h0]at hes
  simp at hes
 | none=>
  have key:∀i,i<cap->∀es,W.cells? 0 ((⟨c,off,none⟩:Addr).add (i*P.cellsOf e)) (P.cellsOf e)=some es->es.length=P.cellsOf e/\∀j,j<P.cellsOf e->W.cell? ⟨c,off+i*P.cellsOf e+j,none⟩=es[j]?:=by
   intro i _ es hes
   rw[dC]at hes
   exact HK hes
  obtain⟨es0,hes0⟩:=hal (cap-1) om
  obtain⟨q1,q2⟩:=key (cap-1) om es0 hes0
  have q3:=q2 (P.cellsOf e-1) om
  rw[QQ om]at q3
  obtain⟨n,hn⟩:∃n,kW W c=some n:=by
   unfold World.cell? at q3
   unfold kW
   split at q3
   ·rename_i C _ _ hC; exact⟨C.size,by simp only at hC; rw[hC]⟩
   ·simp at q3
  obtain⟨C,e',fz,g1,g2,g3⟩:=mO hn
  rw[pj g1]at q3
  have hb:=(Array.getElem?_eq_some_iff.1 q3).1
  have hcap:(cap-1)*P.cellsOf e+P.cellsOf e=cap*P.cellsOf e:=by
   rw[<- Nat.succ_mul]; congr 1; omega
  have hlc:len*P.cellsOf e<=cap*P.cellsOf e:=Nat.mul_le_mul_right _ h3
  have hlt:c<(dL W).next:=(Array.getElem?_eq_some_iff.1 g1).1
  have hmul:P.cellsOf e*len=len*P.cellsOf e:=Nat.mul_comm _ _
  refine⟨_,len,((C.toList.map (lj W)).drop off).take (P.cellsOf e*len),rfl,.inr ⟨⟨c,n,off⟩,.known cap,?_,hlt,?_⟩,?_,?_⟩
  ·simp only[lj,h3,if_true,hn,show off<=n by omega]
  ·unfold bv
   rw[gO,g3]
   simp only[Q5,Array.length_toList,g2,QS (Nat.zero_le _),QS rL,QS (show off+P.cellsOf e*len<=n by omega),Bool.and_self,cond_true]
  ·rw[Rd,Ra,Q5,Array.length_toList]; omega
  ·intro i hi
   have:=h6 i hi
   rw[QQ om]at this
   obtain⟨es,r1,r2⟩:=Option.bind_eq_some_iff.1 this
   obtain⟨l1,l2⟩:=key i om es r1
   refine⟨n',es,_,om,?_,r2⟩
   apply List.ext_getElem?
   intro j
   have hil:i*P.cellsOf e+P.cellsOf e<=len*P.cellsOf e:=by
    rw[<- Nat.succ_mul]; exact Nat.mul_le_mul_right _ hi
   by_cases hj:j<P.cellsOf e
   ·rw[List.getElem?_take_of_lt hj,List.getElem?_drop,List.getElem?_take_of_lt om,List.getElem?_drop,List.getElem?_map,List.getElem?_map,<- l2 j hj,pj g1,Array.getElem?_toList,Nat.add_assoc]
   ·rw[Q8 (by rw[Q5]; omega),Q8 (by rw[Rd]; omega)]
theorem E0{P:Nat->Prop}{H:aa}{Q:Ex->Prop}:∀(k:Nat) (C:List ab),C.length=4*k->(∀i,i<k->∃e,XE P H e ((C.drop (i*4)).take 4)/\Q e)->∃l:List Ex,l.length=k/\qd P H l C/\∀e∈l,Q e
 | 0,C,h,_=>⟨[],rfl,by cases C with | nil=>rfl | cons a b=>simp at h,by simp⟩
 | k+1,C,h,hq=>by
  obtain⟨e,h1,h2⟩:=hq 0 om
  obtain⟨l,a1,a2,a3⟩:=E0 (Q:=Q) k (C.drop 4) (by rw[Ra]; omega) fun i hi=>by
   obtain⟨e,g1,g2⟩:=hq (i+1) om
   refine⟨e,?_,g2⟩
   rw[List.drop_drop,show 4+i*4=(i+1)*4 by omega]; exact g1
  rw[Nat.zero_mul,List.drop_zero]at h1
  exact⟨e::l,by simp[a1],⟨_,_,(List.take_append_drop 4 C).symm,h1,a2⟩,fun x hx=>by
   rcases List.mem_cons.1 hx with rfl | hx
   ·exact h2
   ·exact a3 x hx⟩
theorem vS{P:Nat->Prop}{H:aa}{Q:St->Prop}:∀(k:Nat) (C:List ab),C.length=9*k->(∀i,i<k->∃e,XS P H e ((C.drop (i*9)).take 9)/\Q e)->∃l:List St,l.length=k/\gc P H l C/\∀e∈l,Q e
 | 0,C,h,_=>⟨[],rfl,by cases C with | nil=>rfl | cons a b=>simp at h,by simp⟩
 | k+1,C,h,hq=>by
  obtain⟨e,h1,h2⟩:=hq 0 om
  obtain⟨l,a1,a2,a3⟩:=vS (Q:=Q) k (C.drop 9) (by rw[Ra]; omega) fun i hi=>by
   obtain⟨e,g1,g2⟩:=hq (i+1) om
   refine⟨e,?_,g2⟩
   rw[List.drop_drop,show 9+i*9=(i+1)*9 by omega]; exact g1
  rw[Nat.zero_mul,List.drop_zero]at h1
  exact⟨e::l,by simp[a1],⟨_,_,(List.take_append_drop 9 C).symm,h1,a2⟩,fun x hx=>by
   rcases List.mem_cons.1 hx with rfl | hx
   ·exact h2
   ·exact a3 x hx⟩
theorem Gd{l:List Ex}(h:∀e∈l,lC e=true):oC l=true:=by
 induction l with
 | nil=>rfl
 | cons x l ih=>simp only[oC,h x (by simp),ih fun e he=>h e (by simp[he]),Bool.and_self]
theorem rW{l:List St}(h:∀e∈l,pI e=true):ii l=true:=by
 induction l with
 | nil=>rfl
 | cons x l ih=>simp only[ii,h x (by simp),ih fun e he=>h e (by simp[he]),Bool.and_self]
open Go.Abs Go.Abs.S
open Go.WideShapes Go.ChangeShapes
variable {K:Type} {enc:TypeId×Value->K}
def Fd(P:Program)(fs:Array Field)(i off n:Nat)(T:TypeId->Prop):Prop:=∃f,fs[i]?=some f/\f.offset=off/\P.cellsOf f.type=n/\T f.type
structure zT(P:Program)(tl ts te tel:TypeId) where
 l:P.underlying tl=some (.slice ts)
 el:P.underlying tel=some (.slice te)
 cs:P.cellsOf ts=9
 ce:P.cellsOf te=4
 fe:∃fs:Array Field,P.underlying te=some (.struct fs)/\Fd P fs 0 0 1 (fun t=>P.underlying t=some (.int .u8))/\Fd P fs 1 1 1 (fun t=>P.underlying t=some .string)/\Fd P fs 2 2 1 (fun t=>P.underlying t=some (.int .i64))/\Fd P fs 3 3 1 (·=tel)
 fs:∃fs:Array Field,P.underlying ts=some (.struct fs)/\Fd P fs 0 0 1 (fun t=>P.underlying t=some (.int .u8))/\Fd P fs 1 1 1 (fun t=>P.underlying t=some .string)/\Fd P fs 2 2 4 (·=te)/\Fd P fs 3 6 1 (·=tl)/\Fd P fs 4 7 1 (·=tl)/\Fd P fs 5 8 1 (fun t=>P.underlying t=some (.int .i64))
theorem gZ{P:Program}{W:World}{fuel:Nat}{cs:List Value}{xs:List (DataW K×List MemPlace)}{fs:Array Field}{i off n:Nat}{T:TypeId->Prop}(h:Fd P fs i off n T)(hl:xs.length=fs.size)
  (hi:∀(i:Nat) (f:Field),fs[i]?=some f->DataW.trod enc P W 0 (fun _=>true) true fuel f.type ((cs.drop f.offset).take (P.cellsOf f.type))=xs[i]?) :
  ∃t y,T t/\DataW.trod enc P W 0 (fun _=>true) true fuel t ((cs.drop off).take n)=some y:=by
 obtain⟨f,h1,rfl,rfl,h4⟩:=h
 have h5:=hi i f h1
 have hlt:=(Array.getElem?_eq_some_iff.1 h1).1
 rw[QQ om]at h5
 exact⟨_,_,h4,h5⟩
theorem Ks{z:Int}(h:(Lit.int .u8 z).wf=true):∃k:Nat,z=(k:Int):=by
 simp only[Lit.wf,QT,Q2]at h
 have h1:(0:Int)<=z:=h.1
 exact⟨z.toNat,om⟩
theorem Fj{z:Int}(h:(Lit.int .i64 z).wf=true):-9223372036854775808<=z/\z<=9223372036854775807:=by
 simp only[Lit.wf,QT,Q2]at h
 exact h
theorem Lx{P:Program}{W:World}{tl ts te tel:TypeId}(Y:zT P tl ts te tel):∀(fuel:Nat) {cs:List Value} {x:DataW K×List MemPlace},DataW.trod enc P W 0 (fun _=>true) true fuel te cs=some x ->
  ∃e,XE (·<(dL W).next) (dL W) e (cs.map (lj W))/\lC e=true:=by
 intro fuel
 induction fuel using Nat.strongRecOn with
 | ind fuel ih=>
  intro cs x hf
  obtain⟨fs,hfs,d0,d1,d2,d3⟩:=Y.fe
  obtain⟨xs,n,hfu,_,hl,hn,hi⟩:=DataW.trod_struct hfs hf
  rw[Y.ce]at hl
  obtain⟨c0,c1,c2,c3,rfl⟩:∃a b c d,cs=[a,b,c,d]:=by
   match cs,hl with
   | [a,b,c,d],_=>exact⟨a,b,c,d,rfl⟩
  obtain⟨_,_,g0,t0⟩:=gZ d0 hn hi
  obtain⟨_,_,g1,t1⟩:=gZ d1 hn hi
  obtain⟨_,_,g2,t2⟩:=gZ d2 hn hi
  obtain⟨_,_,rfl,t3⟩:=gZ d3 hn hi
  obtain⟨z0,e0,_,w0⟩:=DataW.trod_int g0 t0
  obtain⟨s1,e1,_,_⟩:=DataW.trod_string g1 t1
  obtain⟨z2,e2,_,w2⟩:=DataW.trod_int g2 t2
  obtain⟨v,k,C,e3,q1,q2,q3⟩:=qS Y.el Y.ce om t3
  simp at e0 e1 e2 e3
  subst e0 e1 e2 e3
  obtain⟨k0,rfl⟩:=Ks w0
  obtain⟨l,hl1,hl2,hl3⟩:=E0 (P:=(·<(dL W).next)) (H:=dL W) (Q:=fun e=>lC e=true) k C q2 fun i hi=>by
   obtain⟨f,es,y,r1,r2,r3⟩:=q3 i hi
   obtain⟨e,a1,a2⟩:=ih f om r3
   exact⟨e,by rw[<- r2]; exact a1,a2⟩
  subst hl1
  have hz:=Fj w2
  refine⟨.mk k0 s1.data.toList z2 l,⟨_,C,rfl,q1,hl2⟩,?_⟩
  simp only[lC,decide_eq_true hz.1,decide_eq_true hz.2,Gd hl3,Bool.and_self]
theorem Lw{P:Program}{W:World}{tl ts te tel:TypeId}(Y:zT P tl ts te tel):∀(fuel:Nat) {cs:List Value} {x:DataW K×List MemPlace},DataW.trod enc P W 0 (fun _=>true) true fuel ts cs=some x ->
  ∃e,XS (·<(dL W).next) (dL W) e (cs.map (lj W))/\pI e=true:=by
 intro fuel
 induction fuel using Nat.strongRecOn with
 | ind fuel ih=>
  intro cs x hf
  obtain⟨fs,hfs,d0,d1,d2,d3,d4,d5⟩:=Y.fs
  obtain⟨xs,n,hfu,_,hl,hn,hi⟩:=DataW.trod_struct hfs hf
  rw[Y.cs]at hl
  obtain⟨c0,c1,c2,c3,c4,c5,c6,c7,c8,rfl⟩:∃a b c d e f g h i,cs=[a,b,c,d,e,f,g,h,i]:=by
   match cs,hl with
   | [a,b,c,d,e,f,g,h,i],_=>exact⟨a,b,c,d,e,f,g,h,i,rfl⟩
  obtain⟨_,_,g0,t0⟩:=gZ d0 hn hi
  obtain⟨_,_,g1,t1⟩:=gZ d1 hn hi
  obtain⟨_,_,rfl,t2⟩:=gZ d2 hn hi
  obtain⟨_,_,rfl,t3⟩:=gZ d3 hn hi
  obtain⟨_,_,rfl,t4⟩:=gZ d4 hn hi
  obtain⟨_,_,g5,t5⟩:=gZ d5 hn hi
  obtain⟨z0,e0,_,w0⟩:=DataW.trod_int g0 t0
  obtain⟨s1,e1,_,_⟩:=DataW.trod_string g1 t1
  obtain⟨e,x1,x2⟩:=Lx Y _ t2
  obtain⟨vb,kb,Cb,e3,q1,q2,q3⟩:=qS Y.l Y.cs om t3
  obtain⟨ve,ke,Ce,e4,p1,p2,p3⟩:=qS Y.l Y.cs om t4
  obtain⟨z5,e5,_,w5⟩:=DataW.trod_int g5 t5
  simp at e0 e1 e3 e4 e5
  subst e0 e1 e3 e4 e5
  obtain⟨k0,rfl⟩:=Ks w0
  obtain⟨lb,hl1,hl2,hl3⟩:=vS (P:=(·<(dL W).next)) (H:=dL W) (Q:=fun e=>pI e=true) kb Cb q2 fun i hi=>by
   obtain⟨f,es,y,r1,r2,r3⟩:=q3 i hi
   obtain⟨e,a1,a2⟩:=ih f om r3
   exact⟨e,by rw[<- r2]; exact a1,a2⟩
  obtain⟨le,hm1,hm2,hm3⟩:=vS (P:=(·<(dL W).next)) (H:=dL W) (Q:=fun e=>pI e=true) ke Ce p2 fun i hi=>by
   obtain⟨f,es,y,r1,r2,r3⟩:=p3 i hi
   obtain⟨e,a1,a2⟩:=ih f om r3
   exact⟨e,by rw[<- r2]; exact a1,a2⟩
  subst hl1 hm1
  have hz:=Fj w5
  refine⟨.mk k0 s1.data.toList e lb le z5,⟨_,_,Cb,_,Ce,rfl,x1,q1,hl2,p1,hm2⟩,?_⟩
  simp only[pI,x2,decide_eq_true hz.1,decide_eq_true hz.2,rW hl3,rW hm3,Bool.and_self]
theorem zG{P:Program}{W:World}{tl ts te tel:TypeId}(Y:zT P tl ts te tel){v:Value}{d:DataW K}{p:List MemPlace}(hv:v.cells.toList=[v])(h:DataW.Trod enc P W 0 (fun _=>true) true tl v d p) :
  ∃(l:List St) (C:List ab),eX (·<(dL W).next) (dL W) 9 (lj W v) l.length C/\gc (·<(dL W).next) (dL W) l C/\ii l=true:=by
 obtain⟨fuel,hf⟩:=h
 rw[hv]at hf
 obtain⟨v',k,C,e,q1,q2,q3⟩:=qS Y.l Y.cs om hf
 simp only[List.cons.injEq,and_true]at e
 subst e
 obtain⟨l,hl1,hl2,hl3⟩:=vS (P:=(·<(dL W).next)) (H:=dL W) (Q:=fun e=>pI e=true) k C q2 fun i hi=>by
  obtain⟨f,es,y,r1,r2,r3⟩:=q3 i hi
  obtain⟨e,a1,a2⟩:=Lw Y f r3
  exact⟨e,by rw[<- r2]; exact a1,a2⟩
 subst hl1
 exact⟨l,C,q1,hl2,rW hl3⟩
end Go.Proofs.Wo
namespace Go.Proofs
open Go.Shelf
def Tryz.laysM316_ren:Go.Shelf.Ren:=⟨fun | 316=>153 | n=>n,fun | 9=>9 | 3=>3 | 4=>4 | 37=>80 | 0=>0 | 127=>206 | 5=>5 | n=>n,fun | n=>n⟩
theorem Tryz.laysM316:Go.Proofs.LaysM.n316 Tryz.prog Tryz.laysM316_ren:={
 mixed:=by kernel_rfl
 f316:=Tryz.func153.trans (congrArg some (by kernel_rfl))
 t0:=Tryz.underlying0
 a0:=Tryz.isAgg0
 z0:=Tryz.sizeOf0
 v0:=Tryz.zeroValue0
 t3:=Tryz.underlying3
 a3:=Tryz.isAgg3
 z3:=Tryz.sizeOf3
 v3:=Tryz.zeroValue3
 t4:=Tryz.underlying4
 a4:=Tryz.isAgg4
 z4:=Tryz.sizeOf4
 v4:=Tryz.zeroValue4
 t9:=Tryz.underlying9
 a9:=Tryz.isAgg9
 z9:=Tryz.sizeOf9
 v9:=Tryz.zeroValue9
 t37:=Tryz.underlying80
 a37:=Tryz.isAgg80
 z37:=Tryz.sizeOf80
 v37:=Tryz.zeroValue80
 t127:=Tryz.underlying206
 a127:=Tryz.isAgg206
 z127:=Tryz.sizeOf206
 v127:=Tryz.zeroValue206
 t5:=Tryz.underlying5
 a5:=Tryz.isAgg5
 z5:=Tryz.sizeOf5
 v5:=Tryz.zeroValue5
 i0:=by kernel_rfl
 i3:=by kernel_rfl
 i4:=by kernel_rfl
 i5:=by kernel_rfl
 i9:=by kernel_rfl
 i37:=by kernel_rfl
 i127:=by kernel_rfl }
open Go.RowKit in
theorem Tryz.stringslite_Clone(s:ByteArray)(w:World)(hlim:s.size<=281474976710656) :
  Calls Tryz.prog 153 #[.string s] w fun e w'=>e=.returned (.string s)/\Below w.heap.size w w':=Any.stringslite_Clone Tryz.laysM316 s w hlim
end Go.Proofs
namespace Go.Proofs.Wo
open Go.Abs Go.Abs.S
theorem LN:tU Tryz.prog nat:=by
 refine⟨fun f h=>?_,fun f args H v H' _ hr Prot w0 ρ w vs R hv=>?_⟩
 ·obtain rfl:f=153:=QX h
  kernel_rfl
 ·show Calls Tryz.prog f vs w _
  have hr2:(bif Nat.beq f 153 then tM H args else none)=some (v,H'):=hr
  cases hb:Nat.beq f 153 with
  | false=>rw[hb]at hr2; simp at hr2
  | true=>
   obtain rfl:f=153:=QX hb
   rw[hb,cond_true]at hr2
   unfold tM at hr2
   split at hr2 <;> first | (simp at hr2; done) | skip
   rename_i s
   cases hl:Nat.ble s.length 281474976710656 with
   | false=>rw[hl]at hr2; simp at hr2
   | true=>
    rw[hl]at hr2
    simp only[cond_true,sJ,pJ]at hr2
    obtain⟨rfl,rfl⟩:=hr2
    simp only[ap,ak]at hv
    obtain⟨v1,r1,e1,rfl,rfl⟩:=hv
    have hvs:vs=#[.string (aU s)]:=Array.toList_inj.1 (by simpa using e1)
    subst hvs
    have hsz:(aU s).size=s.length:=by simp[aU,ByteArray.size]
    have:=QW hl
    exact (Tryz.stringslite_Clone (aU s) w (by rw[hsz]; exact this)).mono fun e w' ⟨he,hk⟩=>⟨ρ,_,Pl.le_refl _,he,R.keep hk,by simp only[ak]⟩
theorem Cs:tU Tryz.prog aA:=Jo LN mdT
end Go.Proofs.Wo
namespace Go.Abs
open Go.ChangeShapes Go.WideShapes Go.ChangeAt Go.RowKit
section
variable {H:Type} {enc:TypeId×Value->H} {P:Program}
theorem np{W W':World}{base:Nat}{sp:Nat->Bool}{held:Bool}(hb:Below W.heap.size W W'):∀{ts:List TypeId} {vs:List Value} {ds:List (DataW H)} {ps:List MemPlace},
  DataW.TrodAll enc P W base sp held ts vs ds ps->DataW.TrodAll enc P W' base sp held ts vs ds ps
 | [],[],[],_,h=>h
 | _::_,_::_,_::_,_,⟨p,q,⟨n,h1⟩,h2,e⟩=>by
  refine⟨p,q,⟨n,DataW.trod_carry n _ _ _ h1 fun x hx=>hb.same (DataW.trod_lt n _ _ _ h1 x hx)⟩,np hb h2,e⟩
theorem rH{W W':World}{sp:Nat->Bool}{gs:List (DataW H)}{q:List MemPlace}(h:DataW.TrodVars enc P W sp [] gs q):DataW.TrodVars enc P W' sp [] gs q:=by
 obtain⟨rfl,rfl⟩:=trodVars_none h
 exact h
theorem yw{f:Func}{s:ChangeSpec}{apart:Bool}{W W':World}{args:Array Value}{ds gs:List (DataW H)}{before:List MemPlace}{tb:TypeId}
  (hl:laidOutB P=true) (hm:mapsRowed P=true)
  (hz:((List.range P.types.size).all fun t=>match P.underlying t with | some (.slice e)=>decide (0<P.cellsOf e) | _=>true)=true)
  (hts:(f.params.toList.all fun t=>decide (t<P.types.size))=true) (hv:s.vars=[])
  (hW:DataW.Whole enc P f.params.toList s.vars apart W args.toList ds gs before)
  (hfn:s.fn H (ds++gs)={ results:=[.lit (.bool true)],args:=ds }) (hr:f.resultTypes=#[tb]) (ht:P.underlying tb=some .bool) (hb:Below W.heap.size W W') :
  s.post enc P f apart true false false W args (.bool true) W':=by
 have hlt:∀p∈before,p.block<W.heap.size:=fun p hp=>hW.lt p hp
 have hW0:=hW
 obtain⟨p,q,hA,hV,rfl,hfz,hnd⟩:=hW
 rw[hv]at hV
 obtain⟨rfl,rfl⟩:=trodVars_none hV
 have hT:∀t∈f.params.toList,t<P.types.size:=fun t ht=>by simpa using List.all_eq_true.1 hts t ht
 refine⟨ds,[],p++[],[],p,[],hW0,?_,?_,?_,World.keptBut_mono (fun x hx=>⟨hx,by simpa using hx⟩) (hb.frame (·∈p++[])),fun h=>by simp at h⟩
 ·rw[hfn,hr]
  exact trodAll_cons_mk (shut_bool ht _) trodAll_mk0
 ·rw[hfn]
  refine np hb (DataW.TrodAll.respare (kids_rows hl hm) (slices_full_of P hz) hT hA fun x hx=>?_)
  simpa using hlt x (by simpa using hx)
 ·rw[hfn,hv]
  exact rH (W:=W) hV
end
end Go.Abs
namespace Go.Proofs.YtfleblkgifoeaaaGreatDoor
open Go.ChangeShapes Go.WideShapes Go.RowKit
open Go.Abs Go.Abs.S Go.Proofs.Wo
theorem own:ownKnob Tryz.prog.godebug=none:=by kernel_rfl
theorem wB{H:Type}{enc:TypeId×Value->H}{P:Program}{w:World}{base:Nat}{spare:Nat->Bool}{held:Bool}{fuel n:Nat}{t e:TypeId}{k:IntKind}{cs:List Value}{p:List MemPlace}{l:List Int}
  (ht:P.underlying t=some (.array n e)) (he:P.underlying e=some (.int k)) (hc:P.cellsOf e=1) (hct:P.cellsOf t=n)
  (h:DataW.trod enc P w base spare held fuel t cs=some (.agg (l.map fun x=>.lit (.int k x)),p)):cs=l.map (.int k):=by
 obtain⟨xs,m,_,hx,hl,hn,hi⟩:=DataW.trod_array ht h
 simp only[pJ,DataW.agg.injEq]at hx
 have hll:l.length=n:=by
  have:=congrArg List.length hx.1
  simp at this; omega
 apply List.ext_getElem?
 intro i
 by_cases hlt:i<n
 ·have h1:=hi i hlt
  rw[hc,Nat.mul_one]at h1
  have hxi:∃x,xs[i]?=some x:=⟨xs[i]'om,QQ _⟩
  obtain⟨x,hxi⟩:=hxi
  rw[hxi]at h1
  obtain⟨y,hy,hyx,_⟩:=DataW.trod_int he h1
  have hli:l[i]?=some (l[i]'om):=QQ _
  have h2:=congrArg (·[i]?) hx.1
  simp only[List.getElem?_map,hxi,hli,Option.map_some,sJ,hyx]at h2
  simp only[DataW.lit.injEq,Lit.int.injEq,true_and]at h2
  have h3:cs[i]?=some (.int k y):=by
   have:=congrArg (·[0]?) hy
   simpa[List.getElem?_take,List.getElem?_drop] using this
  rw[h3,List.getElem?_map,hli,<- h2]
  rfl
 ·rw[Q8 om,Q8 (by simp; omega)]
theorem I0{P:Program}{w:World}{n:String}{g:Nat}{cs:Array Value}(hg:P.globalNamed n=some g)(h:w.var? P n=some cs):∃e fz,w.heap[g]?=some (.cells cs e fz):=by
 simp only[World.var?,hg,Option.bind_some]at h
 split at h
 ·rename_i C e fz hC
  simp only[sJ]at h
  subst h
  exact⟨_,_,hC⟩
 ·simp at h
abbrev GN:List (String×DataW Unit):=Rows.treeNestedRow.laid
theorem qB{W:World}(h:laidMetH Tryz.prog GN W):ru (dL W) 1 nM/\1<(dL W).next:=by
 have h':laidMet Tryz.prog GN W:=h
 obtain⟨ps,hl,_,_⟩:=h'
 obtain⟨_,_,_,_,_,_,_,_,_,_,hl,_⟩:=hl
 obtain⟨_,_,_,_,_,_,_,_,_,_,hl,_⟩:=hl
 obtain⟨g,t,cs,f,p,q,hg,ht,hv,htr,_,_⟩:=hl
 have e1:some 1=some g:=Eq.trans (by kernel_rfl) hg
 simp only[sJ]at e1
 subst e1
 have e2:some 226=some t:=Eq.trans (by kernel_rfl) ht
 simp only[sJ]at e2
 subst e2
 have hcs:=wB (l:=(List.range 20).map fun i=>((10 ^ i:Nat):Int)) Tryz.underlying226 (k:=.u64) Tryz.underlying152 (by kernel_rfl) (by kernel_rfl) htr
 obtain⟨e,fz,hrow⟩:=I0 hg hv
 refine⟨?_,(Array.getElem?_eq_some_iff.1 hrow).1⟩
 unfold ru
 rw[gO]
 unfold sq
 simp only[hrow,hcs]
 rfl
end Go.Proofs.YtfleblkgifoeaaaGreatDoor
