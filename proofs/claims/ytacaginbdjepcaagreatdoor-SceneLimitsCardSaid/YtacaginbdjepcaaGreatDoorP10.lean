/- Part of a proof (VD2 VD3 VD4 VD5 VD6 VD7 VD8 VD9 VD10 VD11 VD12); no condition. -/
import Derived.Test.YtacaginbdjepcaaGreatDoorP7
import Derived.Test.YtacaginbdjepcaaGreatDoorP9
set_option linter.unusedSimpArgs false
set_option linter.unusedVariables false
set_option linter.unnecessarySimpa false
namespace Go.Proofs.Wo
open Go.Abs Go.Abs.S
theorem JC(v w:Vc):jj (.eqS false [(0,.int),(1,.int),(2,.int)]) [.agg (gp v),.agg (gp w)]=some (.bool (decide (v.x=w.x)&&(decide (v.y=w.y)&&decide (v.z=w.z)))):=by
 have e:∀a b:Int,(a==b)=decide (a=b):=fun a b=>by by_cases h:a=b <;> simp[h]
 by_cases h1:v.x=w.x <;> by_cases h2:v.y=w.y <;> by_cases h3:v.z=w.z <;> simp[jj,gp,wK,dm,Kg,Ha,G9,iQ,e,h1,h2,h3]
theorem EY:bQ [.int .i64 0,.int .i64 0,.int .i64 0] []=some (.agg (gp ⟨0,0,0⟩)):=rfl
theorem zY{m:Mt}(h:m.k=1∨m.k=2):im m=(decide (m.sh=[])&&(decide (m.tx=[])&&wS m.c 0 4294967296)):=by rw[im,if_pos h]
theorem DV{m:Mt}(h:m.k=3):im m=(decide (m.sh=[])&&(decide (m.tx=[])&&wS m.c 0 274877906944)):=by rw[im,if_neg om,if_pos h]
theorem DU{m:Mt}(h:m.k=4):im m=(KG m.c&&(fg m.sh&&(decide (m.tx=[])||fg m.tx))):=by rw[im,if_neg om,if_neg om,if_pos h]
theorem zX{m:Mt}(h:¬(m.k=1∨m.k=2))(h3:m.k≠3)(h4:m.k≠4):im m=false:=by rw[im,if_neg h,if_neg h3,if_neg h4]
theorem vg{H:ae}{m:Mt}:an Tryz.prog aE 27 [.agg (jh m)] H fun r H'=>r=.bool (im m)/\bw H.next H H':=by
 refine ai rfl MM rfl ?_
 obtain⟨H1,m1,r1,n1,k1⟩:=aP H (jh m) (n:=6) rfl
 have e:=dJ n1 k1
 have ca:(af.agg (jh m)).cells=jh m:=rfl
 have l0:=ap 6 0 r1 rfl rfl
 have l4:=ap 6 4 r1 rfl rfl
 have l5:=ap 6 5 r1 rfl rfl
 have lv:=aW 6 1 3 r1 rfl (xs:=gp m.c) om rfl
 have col:∀{lo hi:Int} {K:af->ae->Prop},(∀H',bw H.next H H'->K (.bool (wS m.c lo hi)) H')->an Tryz.prog aE 26 [.agg (gp m.c),.int .i64 lo,.int .i64 hi] H1 K:=fun h=>(gv (v:=m.c)).mono fun r H' ⟨a,b⟩=>by subst a; exact h H' (e.trans (b.less om))
 by_cases k12:m.k=1∨m.k=2
 ·rw[zY k12]
  have hk:(((m.k:Nat):Int)=1/\¬((m.k:Nat):Int)=2)∨(¬((m.k:Nat):Int)=1/\((m.k:Nat):Int)=2):=om
  rcases hk with⟨a1,a2⟩ | ⟨a1,a2⟩
  ·by_cases c1:m.sh=[]
   ·by_cases c2:m.tx=[]
    ·simp only[CB,sA,sB,seval,ca,m1,aF,l0,a1,l4,l5,lv,c1,c2]
     refine col fun H' e'=>?_
     simp only[sA,sB,seval]; exact⟨tt,e'⟩
    ·simp only[CB,sA,sB,seval,ca,m1,aF,l0,a1,l4,l5,lv,c1,c2]
     exact⟨tt,e⟩
   ·simp only[CB,sA,sB,seval,ca,m1,aF,l0,a1,l4,l5,lv,c1]
    exact⟨tt,e⟩
  ·by_cases c1:m.sh=[]
   ·by_cases c2:m.tx=[]
    ·simp only[CB,sA,sB,seval,ca,m1,aF,l0,a1,a2,l4,l5,lv,c1,c2]
     refine col fun H' e'=>?_
     simp only[sA,sB,seval]; exact⟨tt,e'⟩
    ·simp only[CB,sA,sB,seval,ca,m1,aF,l0,a1,a2,l4,l5,lv,c1,c2]
     exact⟨tt,e⟩
   ·simp only[CB,sA,sB,seval,ca,m1,aF,l0,a1,a2,l4,l5,lv,c1]
    exact⟨tt,e⟩
 have a1:¬((m.k:Nat):Int)=1:=om
 have a2:¬((m.k:Nat):Int)=2:=om
 by_cases k3:m.k=3
 ·rw[DV k3]
  have a3:((m.k:Nat):Int)=3:=om
  by_cases c1:m.sh=[]
  ·by_cases c2:m.tx=[]
   ·simp only[CB,sA,sB,seval,ca,m1,aF,l0,a1,a2,a3,l4,l5,lv,c1,c2]
    refine col fun H' e'=>?_
    simp only[sA,sB,seval]; exact⟨tt,e'⟩
   ·simp only[CB,sA,sB,seval,ca,m1,aF,l0,a1,a2,a3,l4,l5,lv,c1,c2]
    exact⟨tt,e⟩
  ·simp only[CB,sA,sB,seval,ca,m1,aF,l0,a1,a2,a3,l4,l5,lv,c1]
   exact⟨tt,e⟩
 have a3:¬((m.k:Nat):Int)=3:=om
 by_cases k4:m.k=4
 ·rw[DU k4]
  have a4:((m.k:Nat):Int)=4:=om
  have ev:jj (.eqS false [(0,.int),(1,.int),(2,.int)]) [.agg (gp m.c),.agg (gp ⟨0,0,0⟩)]=some (.bool (KG m.c)):=JC _ _
  simp only[CB,sA,sB,seval,ca,m1,aF,l0,a1,a2,a3,a4,lv,EY,ev]
  cases hv:KG m.c with
  | false=>simp only[sA,sB,seval]; exact⟨tt,e⟩
  | true=>
   simp only[sA,sB,seval,aF,l4]
   refine jX.mono ?_
   rintro _ _ ⟨rfl,rfl⟩
   cases hn:fg m.sh with
   | false=>simp only[sA,sB,seval]; exact⟨tt,e⟩
   | true=>
    by_cases c2:m.tx=[]
    ·simp only[sA,sB,seval,aF,l5,c2]; exact⟨tt,e⟩
    ·simp only[sA,sB,seval,aF,l5,c2]
     refine jX.mono ?_
     rintro _ _ ⟨rfl,rfl⟩
     simp only[sA,sB,seval]; exact⟨by simp[c2],e⟩
 ·rw[zX k12 k3 k4]
  have a4:¬((m.k:Nat):Int)=4:=om
  simp only[CB,sA,sB,seval,ca,m1,aF,l0,a1,a2,a3,a4]
  exact⟨tt,e⟩
theorem uS{H:ae}{b:Rd}:an Tryz.prog aE 28 [.agg (rB b)] H fun r H'=>r=.bool (mz b)/\bw H.next H H':=by
 refine ai rfl ML rfl ?_
 obtain⟨H1,m1,r1,n1,k1⟩:=aP H (rB b) (n:=5) rfl
 have e:=dJ n1 k1
 have ca:(af.agg (rB b)).cells=rB b:=rfl
 have lv:=aW 5 0 3 r1 rfl (xs:=gp b.c) om rfl
 simp only[c28,sA,sB,seval,ca,m1,aF,lv]
 refine (eB (v:=b.c)).mono ?_
 rintro _ H2 ⟨rfl,e2⟩
 have l3:=ap 5 3 (r1.up e2 om) rfl rfl
 have e':=e.trans (e2.less om)
 unfold mz
 cases hf:gT b.c with
 | false=>simp only[sA,sB,seval]; exact⟨tt,e'⟩
 | true=>
  by_cases c1:0<b.r
  ·by_cases c2:b.r<=42949672960000
   ·simp only[sA,sB,seval,aF,l3,c1,c2]; exact⟨tt,e'⟩
   ·simp only[sA,sB,seval,aF,l3,c1,c2]; exact⟨tt,e'⟩
  ·simp only[sA,sB,seval,aF,l3,c1]; exact⟨tt,e'⟩
def fH(s:Sc)(vm vb vu:af):List af:=[.int .i64 s.w,.int .i64 s.h,.int .i64 s.sm,.int .i64 s.bo,.int .u64 (s.seed:Int),.int .i64 s.eye.x,.int .i64 s.eye.y,.int .i64 s.eye.z,.int .i64 s.at_.x,.int .i64 s.at_.y,.int .i64 s.at_.z,.int .i64 s.up.x,.int .i64 s.up.y,.int .i64 s.up.z,.int .i64 s.wide,.int .i64 s.sky.x,.int .i64 s.sky.y,.int .i64 s.sky.z,vm,vb,vu]
structure jP(P:Nat->Prop)(H:ae)(s:Sc)(vm vb vu:af):Prop where
 m:gY P H 6 vm s.ms.length (s.ms.flatMap jh)
 b:gY P H 5 vb s.bs.length (s.bs.flatMap rB)
 u:gY P H 5 vu s.us.length (s.us.flatMap wR)
theorem jP.mono{P Q:Nat->Prop}{H H':ae}{s:Sc}{vm vb vu:af}(h:jP P H s vm vb vu)(q:∀b,P b->Q b/\H'.get b=H.get b):jP Q H' s vm vb vu:=⟨h.m.mono q,h.b.mono q,h.u.mono q⟩
theorem jP.up{n:Nat}{H H':ae}{s:Sc}{vm vb vu:af}(h:jP (·<n) H s vm vb vu)(e:bw n H H'):jP (·<n) H' s vm vb vu:=h.mono fun b hb=>⟨hb,e.old b hb⟩
theorem vE{H:ae}{b:Nat}{s:Sc}{vm vb vu:af}{k:Nat}(r:Row H b (fH s vm vb vu))(hm:fD false vm=some (.int .i64 (k:Int))){x:Int} :
  an Tryz.prog aE 65 [.int .i64 x,ak b 21 0] H fun v H'=>v=.bool (kj k x)/\H=H':=by
 refine ai rfl Mf rfl ?_
 have l1:=ap 21 18 r rfl rfl
 by_cases c1:0<=x
 ·by_cases c2:x<k
  ·simp only[LG,sA,sB,seval,aF,l1,hm,c1,c2]; exact⟨by simp[kj,c1,c2],tt⟩
  ·simp only[LG,sA,sB,seval,aF,l1,hm,c1,c2]; exact⟨by simp[kj,c2],tt⟩
 ·simp only[LG,sA,sB,seval,c1]; exact⟨by simp[kj,c1],tt⟩
theorem rW{H:ae}{s:Sc}{vm vb vu:af}(I:jP (·<H.next) H s vm vb vu)(hb:s.bs.length<=4611686018427387904)(hu:s.us.length<=4611686018427387904) :
  an Tryz.prog aE 23 [.agg (fH s vm vb vu)] H fun r H'=>r=.bool (mZ s)/\bw H.next H H':=by
 refine ai rfl MQ rfl ?_
 obtain⟨H1,m1,r1,n1,k1⟩:=aP H (fH s vm vb vu) (n:=21) rfl
 have e1:=dJ n1 k1
 have ca:(af.agg (fH s vm vb vu)).cells=fH s vm vb vu:=rfl
 have l19:=ap 21 19 r1 rfl rfl
 have lb:=I.b.len
 have lm:=I.m.len
 have lu:=I.u.len
 have rb:∀x:Rd,(rB x).length=5:=fun _=>rfl
 have ru:∀x:Us,(wR x).length=5:=fun _=>rfl
 simp only[c23,sA,sB,seval,ca,m1,aF,l19,lb]
 refine ft (fun (T:bK) H'=>bw (H.next+1) H1 H'/\s.bs.all (fun b=>kj s.ms.length b.m)=true/\T 1=ak H.next 21 0/\T 3=.func (.func 65) [] [ak H.next 21 0]) (bP _ _) ?_ ?_
 ·refine bL (fun m (T:bK) H'=>∃i:Nat,bw (H.next+1) H1 H'/\i<=s.bs.length/\m=s.bs.length-i/\(s.bs.take i).all (fun b=>kj s.ms.length b.m)=true/\T 1=ak H.next 21 0/\T 3=.func (.func 65) [] [ak H.next 21 0]/\T 10=vb/\T 11=.int .i64 (s.bs.length:Int)/\T 12=.int .i64 (i:Int)) s.bs.length
   ⟨0,bw.refl _ _,om,om,rfl,by simp only[sA,sB,seval],by simp only[sA,sB,seval],by simp only[sA,sB,seval],by simp only[sA,sB,seval],by simp only[sA,sB,seval]⟩ ?_
  rintro m T H2 ⟨i,e2,hi,rfl,ha,g1,g3,g10,g11,g12⟩
  by_cases hlt:i<s.bs.length
  ·have hlt':(i:Int)<(s.bs.length:Int):=om
   obtain⟨x,hx⟩:=aO hlt
   have w1:=cF i om
   have I2:=I.up (e1.trans (e2.less om))
   have ix:=I2.b.idx hlt
   have lx:=I2.b.loadE rb hx
   obtain⟨H3,m3,r3,n3,k3⟩:=aP H2 [.int .i64 0,.int .i64 0,.int .i64 0,.int .i64 0,.int .i64 0] (n:=5) rfl
   obtain⟨H4,m4,r4,n4,k4⟩:=bA (n:=5) r3 rfl (xs:=rB x) rfl rfl
   have hn2:=e2.next
   have e4:bw (H.next+1) H1 H4:=⟨om,fun b hb=>by rw[k4 b om,k3 b om,e2.old b hb]⟩
   have rr:Row H4 H.next (fH s vm vb vu):=r1.up e4 om
   have l4:=ap 5 4 r4 rfl rfl
   simp only[sA,sB,seval,g10,g11,g12,g3,hlt',ix,lx,m3,m4,aF,l4]
   refine (vE rr lm).mono ?_
   rintro _ _ ⟨rfl,rfl⟩
   cases hh:kj s.ms.length x.m with
   | false=>
    simp only[sA,sB,seval]
    exact⟨by simp only[mZ,kT (p:=fun b:Rd=>kj s.ms.length b.m) hx hh,Bool.false_and],e1.trans (e4.less om)⟩
   | true=>
    simp only[sA,sB,seval,g12,w1]
    exact⟨_,om,i+1,e4,om,rfl,by rw[iA hx ha]; exact hh,g1,g3,g10,g11,tt⟩
  ·have hlt':¬(i:Int)<(s.bs.length:Int):=om
   simp only[sA,sB,seval,g11,g12,hlt']
   rw[List.take_of_length_le om]at ha
   exact⟨e2,ha,g1,g3⟩
 rintro T H2 ⟨e2,ha,g1,g3⟩
 have hn2:=e2.next
 have rr:=r1.up e2 om
 have l20:=ap 21 20 rr rfl rfl
 simp only[sA,sB,seval,g1,aF,l20,lu]
 refine bL (fun m (T:bK) H'=>∃i:Nat,bw (H.next+1) H1 H'/\i<=s.us.length/\m=s.us.length-i/\(s.us.take i).all (fun b=>kj s.ms.length b.m)=true/\T 3=.func (.func 65) [] [ak H.next 21 0]/\T 23=vu/\T 24=.int .i64 (s.us.length:Int)/\T 25=.int .i64 (i:Int)) s.us.length
  ⟨0,e2,om,om,rfl,by simp only[sA,sB,seval,g3],by simp only[sA,sB,seval],by simp only[sA,sB,seval],by simp only[sA,sB,seval]⟩ ?_
 rintro m T H2 ⟨i,e2,hi,rfl,hau,g3,g10,g11,g12⟩
 by_cases hlt:i<s.us.length
 ·have hlt':(i:Int)<(s.us.length:Int):=om
  obtain⟨x,hx⟩:=aO hlt
  have w1:=cF i om
  have I2:=I.up (e1.trans (e2.less om))
  have ix:=I2.u.idx hlt
  have lx:=I2.u.loadE ru hx
  obtain⟨H3,m3,r3,n3,k3⟩:=aP H2 [.str [],.int .i64 0,.int .i64 0,.int .i64 0,.int .i64 0] (n:=5) rfl
  obtain⟨H4,m4,r4,n4,k4⟩:=bA (n:=5) r3 rfl (xs:=wR x) rfl rfl
  have hn2:=e2.next
  have e4:bw (H.next+1) H1 H4:=⟨om,fun b hb=>by rw[k4 b om,k3 b om,e2.old b hb]⟩
  have rr:Row H4 H.next (fH s vm vb vu):=r1.up e4 om
  have l4:=ap 5 4 r4 rfl rfl
  simp only[sA,sB,seval,g10,g11,g12,g3,hlt',ix,lx,m3,m4,aF,l4]
  refine (vE rr lm).mono ?_
  rintro _ _ ⟨rfl,rfl⟩
  cases hh:kj s.ms.length x.m with
  | false=>
   simp only[sA,sB,seval]
   exact⟨by simp only[mZ,kT (p:=fun b:Us=>kj s.ms.length b.m) hx hh,Bool.and_false],e1.trans (e4.less om)⟩
  | true=>
   simp only[sA,sB,seval,g12,w1]
   exact⟨_,om,i+1,e4,om,rfl,by rw[iA hx hau]; exact hh,g3,g10,g11,tt⟩
 ·have hlt':¬(i:Int)<(s.us.length:Int):=om
  simp only[sA,sB,seval,g11,g12,hlt']
  rw[List.take_of_length_le om]at hau
  exact⟨by simp only[mZ,ha,hau,Bool.and_self],e1.trans (e2.less om)⟩
open Go.Abs Go.Abs.S
theorem j8{H:ae}{x lo hi:Int}:an Tryz.prog aE 24 [.int .i64 x,.int .i64 lo,.int .i64 hi] H fun v H'=>v=.bool (kY x lo hi)/\H=H':=by
 refine ai rfl MP rfl ?_
 by_cases c1:lo<=x
 ·by_cases c2:x<=hi
  ·simp only[LK,sA,sB,seval,c1,c2]; exact⟨by simp[kY,c1,c2],tt⟩
  ·simp only[LK,sA,sB,seval,c1,c2]; exact⟨by simp[kY,c2],tt⟩
 ·simp only[LK,sA,sB,seval,c1]; exact⟨by simp[kY,c1],tt⟩
def Hb(b:Bool):af:=.int .i64 (bif b then 0 else 130)
theorem kF{α:Type}{l:List α}{i:Nat}{x:α}(h:l[i]?=some x):x∈l:=NH h
set_option maxHeartbeats 1000000 in
theorem vV{H:ae}{s:Sc}{vm vb vu:af}(I:jP (·<H.next) H s vm vb vu) :
  an Tryz.prog aE 9 [.agg (fH s vm vb vu)] H fun r H'=>r=Hb (kP s)/\bw H.next H H':=by
 refine ai rfl za9 rfl ?_
 obtain⟨H1,m1,r1,n1,k1⟩:=aP H (fH s vm vb vu) (n:=21) rfl
 have e1:=dJ n1 k1
 have ca:(af.agg (fH s vm vb vu)).cells=fH s vm vb vu:=rfl
 have lb:=I.b.len
 have lm:=I.m.len
 have lu:=I.u.len
 have rm:∀x:Mt,(jh x).length=6:=fun _=>rfl
 have rb:∀x:Rd,(rB x).length=5:=fun _=>rfl
 have ru:∀x:Us,(wR x).length=5:=fun _=>rfl
 have L1:=ap 21 0 r1 rfl rfl
 have L2:=ap 21 1 r1 rfl rfl
 have L3:=ap 21 2 r1 rfl rfl
 have L4:=ap 21 3 r1 rfl rfl
 have L5:=aW 21 5 3 r1 rfl (xs:=gp s.eye) om rfl
 unfold kP Ae ng
 simp only[c9,sA,sB,seval,ca,m1,aF,L1]
 refine j8.mono ?_
 rintro _ _ ⟨rfl,rfl⟩
 cases h1:kY s.w 1 1024
 ·simp only[sA,sB,seval]; exact⟨rfl,e1⟩
 simp only[sA,sB,seval,aF,L2]
 refine j8.mono ?_
 rintro _ _ ⟨rfl,rfl⟩
 cases h2:kY s.h 1 1024
 ·simp only[sA,sB,seval]; exact⟨rfl,e1⟩
 simp only[sA,sB,seval,aF,L3]
 refine j8.mono ?_
 rintro _ _ ⟨rfl,rfl⟩
 cases h3:kY s.sm 1 64
 ·simp only[sA,sB,seval]; exact⟨rfl,e1⟩
 simp only[sA,sB,seval,aF,L4]
 refine j8.mono ?_
 rintro _ _ ⟨rfl,rfl⟩
 cases h4:kY s.bo 0 8
 ·simp only[sA,sB,seval]; exact⟨rfl,e1⟩
 simp only[sA,sB,seval,aF,L5]
 refine (eB (v:=s.eye)).mono ?_
 rintro _ K1 ⟨rfl,x1⟩
 have r2:=r1.up x1 om
 have L6:=aW 21 8 3 r2 rfl (xs:=gp s.at_) om rfl
 cases h5:gT s.eye
 ·simp only[sA,sB,seval]; exact⟨rfl,e1.trans (x1.less om)⟩
 simp only[sA,sB,seval,aF,L6]
 refine (eB (v:=s.at_)).mono ?_
 rintro _ K2 ⟨rfl,x2⟩
 have x2:=x1.trans (x2.less x1.next)
 have r2:=r1.up x2 om
 have L7:=aW 21 11 3 r2 rfl (xs:=gp s.up) om rfl
 cases h6:gT s.at_
 ·simp only[sA,sB,seval]; exact⟨rfl,e1.trans (x2.less om)⟩
 simp only[sA,sB,seval,aF,L7]
 refine (eB (v:=s.up)).mono ?_
 rintro _ K3 ⟨rfl,x3⟩
 have x3:=x2.trans (x3.less x2.next)
 have r3:=r1.up x3 om
 have L8:=ap 21 14 r3 rfl rfl
 cases h7:gT s.up
 ·simp only[sA,sB,seval]; exact⟨rfl,e1.trans (x3.less om)⟩
 by_cases h8:0<s.wide
 rotate_left
 ·simp only[sA,sB,seval,aF,L8,h8]; exact⟨tt,e1.trans (x3.less om)⟩
 by_cases h9:s.wide<=429496729600
 rotate_left
 ·simp only[sA,sB,seval,aF,L8,h8,h9]; exact⟨tt,e1.trans (x3.less om)⟩
 have L9:=aW 21 15 3 r3 rfl (xs:=gp s.sky) om rfl
 simp only[sA,sB,seval,aF,L8,h8,h9,L9]
 refine (gv (v:=s.sky)).mono ?_
 rintro _ K4 ⟨rfl,x4⟩
 have x4:=x3.trans (x4.less x3.next)
 have r4:=r1.up x4 om
 have L10:=ap 21 18 r4 rfl rfl
 have L11:=ap 21 19 r4 rfl rfl
 have L12:=ap 21 20 r4 rfl rfl
 have q4:=e1.trans (x4.less om)
 cases h10:wS s.sky 0 274877906944
 ·simp only[sA,sB,seval]; exact⟨rfl,q4⟩
 by_cases h11:s.ms.length<=64
 rotate_left
 ·have h11':¬(s.ms.length:Int)<=64:=om
  simp only[sA,sB,seval,aF,L10,lm,h11',h11]; exact⟨tt,q4⟩
 have h11':(s.ms.length:Int)<=64:=om
 by_cases h12:s.bs.length<=256
 rotate_left
 ·have h12':¬(s.bs.length:Int)<=256:=om
  simp only[sA,sB,seval,aF,L10,L11,lm,lb,h11',h12',h11,h12]; exact⟨tt,q4⟩
 have h12':(s.bs.length:Int)<=256:=om
 by_cases h13:s.us.length<=16
 rotate_left
 ·have h13':¬(s.us.length:Int)<=16:=om
  simp only[sA,sB,seval,aF,L10,L11,L12,lm,lb,lu,h11',h12',h13',h11,h12,h13]; exact⟨tt,q4⟩
 have h13':(s.us.length:Int)<=16:=om
 simp only[sA,sB,seval,aF,L10,L11,L12,lm,lb,lu,h11',h12',h13',h11,h12,h13]
 refine ft (fun (T:bK) H'=>bw (H.next+1) H1 H'/\s.ms.all im=true/\T 1=ak H.next 21 0) (bP _ _) ?_ ?_
 ·refine bL (fun m (T:bK) H'=>∃i:Nat,bw (H.next+1) H1 H'/\i<=s.ms.length/\m=s.ms.length-i/\(s.ms.take i).all im=true/\T 1=ak H.next 21 0/\T 84=vm/\T 85=.int .i64 (s.ms.length:Int)/\T 86=.int .i64 (i:Int)) s.ms.length
   ⟨0,n1 ▸ x4,om,om,rfl,by simp only[sA,sB,seval],by simp only[sA,sB,seval],by simp only[sA,sB,seval],by simp only[sA,sB,seval]⟩ ?_
  rintro m T H2 ⟨i,e2,hi,rfl,ha,g1,g10,g11,g12⟩
  by_cases hlt:i<s.ms.length
  ·have hlt':(i:Int)<(s.ms.length:Int):=om
   obtain⟨x,hx⟩:=aO hlt
   have w1:=cF i om
   have I2:=I.up (e1.trans (e2.less om))
   have ix:=I2.m.idx hlt
   have lx:=I2.m.loadE rm hx
   obtain⟨H3,m3,r3,n3,k3⟩:=aP H2 [.int .u8 0,.int .i64 0,.int .i64 0,.int .i64 0,.str [],.str []] (n:=6) rfl
   obtain⟨H4,m4,r4,n4,k4⟩:=bA (n:=6) r3 rfl (xs:=jh x) rfl rfl
   have hn2:=e2.next
   have e4:bw (H.next+1) H1 H4:=⟨om,fun b hb=>by rw[k4 b om,k3 b om,e2.old b hb]⟩
   have l4:=aW 6 0 6 r4 rfl (xs:=jh x) om rfl
   simp only[sA,sB,seval,g10,g11,g12,hlt',ix,lx,m3,m4,aF,l4]
   refine vg.mono ?_
   rintro _ H5 ⟨rfl,e5⟩
   have e5:=e4.trans (e5.less e4.next |>.less om)
   cases hh:im x with
   | false=>
    simp only[sA,sB,seval]
    exact⟨by rw[kT hx hh]; rfl,e1.trans (e5.less om)⟩
   | true=>
    simp only[sA,sB,seval,g12,w1]
    exact⟨_,om,i+1,e5,om,rfl,by rw[iA hx ha]; exact hh,g1,g10,g11,tt⟩
  ·have hlt':¬(i:Int)<(s.ms.length:Int):=om
   simp only[sA,sB,seval,g11,g12,hlt']
   rw[List.take_of_length_le om]at ha
   exact⟨e2,ha,g1⟩
 rintro T H2 ⟨y2,hma,g1⟩
 have hn2:=y2.next
 have rr:=r1.up y2 om
 have l19:=ap 21 19 rr rfl rfl
 simp only[sA,sB,seval,g1,aF,l19,lb]
 refine ft (fun (T:bK) H'=>bw (H.next+1) H1 H'/\s.bs.all mz=true/\T 1=ak H.next 21 0) (bP _ _) ?_ ?_
 ·refine bL (fun m (T:bK) H'=>∃i:Nat,bw (H.next+1) H1 H'/\i<=s.bs.length/\m=s.bs.length-i/\(s.bs.take i).all mz=true/\T 1=ak H.next 21 0/\T 95=vb/\T 96=.int .i64 (s.bs.length:Int)/\T 97=.int .i64 (i:Int)) s.bs.length
   ⟨0,y2,om,om,rfl,by simp only[sA,sB,seval,g1],by simp only[sA,sB,seval],by simp only[sA,sB,seval],by simp only[sA,sB,seval]⟩ ?_
  rintro m T H2 ⟨i,e2,hi,rfl,ha,g1,g10,g11,g12⟩
  by_cases hlt:i<s.bs.length
  ·have hlt':(i:Int)<(s.bs.length:Int):=om
   obtain⟨x,hx⟩:=aO hlt
   have w1:=cF i om
   have I2:=I.up (e1.trans (e2.less om))
   have ix:=I2.b.idx hlt
   have lx:=I2.b.loadE rb hx
   obtain⟨H3,m3,r3,n3,k3⟩:=aP H2 [.int .i64 0,.int .i64 0,.int .i64 0,.int .i64 0,.int .i64 0] (n:=5) rfl
   obtain⟨H4,m4,r4,n4,k4⟩:=bA (n:=5) r3 rfl (xs:=rB x) rfl rfl
   have hn2:=e2.next
   have e4:bw (H.next+1) H1 H4:=⟨om,fun b hb=>by rw[k4 b om,k3 b om,e2.old b hb]⟩
   have l4:=aW 5 0 5 r4 rfl (xs:=rB x) om rfl
   simp only[sA,sB,seval,g10,g11,g12,hlt',ix,lx,m3,m4,aF,l4]
   refine (uS (b:=x)).mono ?_
   rintro _ H5 ⟨rfl,e5⟩
   have e5:=e4.trans (e5.less om)
   cases hh:mz x with
   | false=>
    simp only[sA,sB,seval]
    exact⟨by rw[hma,kT hx hh]; rfl,e1.trans (e5.less om)⟩
   | true=>
    simp only[sA,sB,seval,g12,w1]
    exact⟨_,om,i+1,e5,om,rfl,by rw[iA hx ha]; exact hh,g1,g10,g11,tt⟩
  ·have hlt':¬(i:Int)<(s.bs.length:Int):=om
   simp only[sA,sB,seval,g11,g12,hlt']
   rw[List.take_of_length_le om]at ha
   exact⟨e2,ha,g1⟩
 clear y2 hn2 rr l19
 rintro T H2 ⟨y2,hba,g1⟩
 have hn2:=y2.next
 have rr:=r1.up y2 om
 have l20:=ap 21 20 rr rfl rfl
 simp only[sA,sB,seval,g1,aF,l20,lu]
 refine ft (fun (T:bK) H'=>bw (H.next+1) H1 H'/\s.us.all jm=true/\T 1=ak H.next 21 0) (bP _ _) ?_ ?_
 ·refine bL (fun m (T:bK) H'=>∃i:Nat,bw (H.next+1) H1 H'/\i<=s.us.length/\m=s.us.length-i/\(s.us.take i).all jm=true/\T 1=ak H.next 21 0/\T 106=vu/\T 107=.int .i64 (s.us.length:Int)/\T 108=.int .i64 (i:Int)) s.us.length
   ⟨0,y2,om,om,rfl,by simp only[sA,sB,seval,g1],by simp only[sA,sB,seval],by simp only[sA,sB,seval],by simp only[sA,sB,seval]⟩ ?_
  rintro m T H2 ⟨i,e2,hi,rfl,ha,g1,g10,g11,g12⟩
  by_cases hlt:i<s.us.length
  ·have hlt':(i:Int)<(s.us.length:Int):=om
   obtain⟨x,hx⟩:=aO hlt
   have w1:=cF i om
   have I2:=I.up (e1.trans (e2.less om))
   have ix:=I2.u.idx hlt
   have lx:=I2.u.loadE ru hx
   obtain⟨H3,m3,r3,n3,k3⟩:=aP H2 [.str [],.int .i64 0,.int .i64 0,.int .i64 0,.int .i64 0] (n:=5) rfl
   obtain⟨H4,m4,r4,n4,k4⟩:=bA (n:=5) r3 rfl (xs:=wR x) rfl rfl
   have hn2:=e2.next
   have e4:bw (H.next+1) H1 H4:=⟨om,fun b hb=>by rw[k4 b om,k3 b om,e2.old b hb]⟩
   have l4:=ap 5 0 r4 rfl rfl
   have l5:=aW 5 1 3 r4 rfl (xs:=gp x.p) om rfl
   simp only[sA,sB,seval,g10,g11,g12,hlt',ix,lx,m3,m4,aF,l4]
   refine jX.mono ?_
   rintro _ _ ⟨rfl,rfl⟩
   cases hn:fg x.n with
   | false=>
    simp only[sA,sB,seval]
    have hu:jm x=false:=by simp only[jm,hn,Bool.false_and]
    exact⟨by rw[hma,hba,kT hx hu]; rfl,e1.trans (e4.less om)⟩
   | true=>
    simp only[sA,sB,seval,aF,l5]
    refine (eB (v:=x.p)).mono ?_
    rintro _ H5 ⟨rfl,e5⟩
    have e5:=e4.trans (e5.less om)
    cases hf:gT x.p with
    | false=>
     simp only[sA,sB,seval]
     have hu:jm x=false:=by simp only[jm,hf,Bool.and_false]
     exact⟨by rw[hma,hba,kT hx hu]; rfl,e1.trans (e5.less om)⟩
    | true=>
     simp only[sA,sB,seval,g12,w1]
     exact⟨_,om,i+1,e5,om,rfl,by rw[iA hx ha]; simp only[jm,hn,hf,Bool.and_self],g1,g10,g11,tt⟩
  ·have hlt':¬(i:Int)<(s.us.length:Int):=om
   simp only[sA,sB,seval,g11,g12,hlt']
   rw[List.take_of_length_le om]at ha
   exact⟨e2,ha,g1⟩
 clear y2 hn2 rr l20
 rintro T H2 ⟨y2,hua,g1⟩
 have hn2:=y2.next
 have rr:=r1.up y2 om
 have l0:=aW 21 0 21 rr rfl (xs:=fH s vm vb vu) om rfl
 have I2:=(I.up (e1.trans (y2.less om))).mono (Q:=(·<H2.next)) fun b hb=>⟨om,rfl⟩
 simp only[sA,sB,seval,g1,l0]
 refine (rW I2 om om).mono ?_
 rintro _ H3 ⟨rfl,e3⟩
 have e3:=e1.trans ((y2.trans (e3.less om)).less om)
 rw[hma,hba,hua]
 cases ha:mZ s
 ·simp only[sA,sB,seval]; exact⟨rfl,e3⟩
 ·simp only[sA,sB,seval]; exact⟨rfl,e3⟩
open Go.Abs Go.Abs.S
structure Fp(pb:Nat)(H H':ae):Prop where
 next:H.next<=H'.next
 old:∀c,c<H.next->c≠pb->H'.get c=H.get c
theorem Fp.refl(pb:Nat)(H:ae):Fp pb H H:=⟨Nat.le_refl _,fun _ _ _=>rfl⟩
theorem Fp.trans{pb:Nat}{H H' H2:ae}(a:Fp pb H H')(b:Fp pb H' H2):Fp pb H H2:=
 ⟨Nat.le_trans a.next b.next,fun c h1 h2=>by rw[b.old c (NN h1 a.next) h2,a.old c h1 h2]⟩
theorem Fp.of_ext{pb:Nat}{H H':ae}(e:bw H.next H H'):Fp pb H H':=⟨e.next,fun c h _=>e.old c h⟩
theorem Fp.of_set{pb:Nat}{H H':ae}(hn:H'.next=H.next)(k:∀c,c≠pb->H'.get c=H.get c):Fp pb H H':=⟨om,fun c _ h=>k c h⟩
def kN:Option Nat->af
 | some n=>.tuple [.int .u64 (((if n<18446744073709551616 then n else 18446744073709551615):Nat):Int),.bool (decide (n<18446744073709551616)),.bool true]
 | none=>.tuple [.int .u64 0,.bool false,.bool false]
theorem tU{c:UInt8}:fr c=true↔48<=c.toNat/\c.toNat<=57:=by simp only[fr,NC,NL]
set_option maxRecDepth 20000 in
theorem pP{s:Bs}(hs:s.length<=4611686018427387904){H:ae}:an Tryz.prog aE 77 [.str s] H fun v H'=>v=kN (ga s)/\H=H':=by
 refine ai rfl LY rfl ?_
 simp only[c77,sA,sB,seval]
 refine ft (fun (T:bK) H'=>H=H'/\s.all fr=true/\T 0=.str s/\T 2=.int .u64 ((cR s % 18446744073709551616:Nat):Int)/\T 3=.bool (decide (cR s<18446744073709551616))) (bP _ _) ?_ ?_
 ·refine bL (fun m (T:bK) H'=>∃i:Nat,H=H'/\i<=s.length/\m=s.length-i/\(s.take i).all fr=true/\T 0=.str s/\T 2=.int .u64 ((cR (s.take i) % 18446744073709551616:Nat):Int)/\T 3=.bool (decide (cR (s.take i)<18446744073709551616))/\T 8=.int .i64 (s.length:Int)/\T 9=.int .i64 (i:Int)) s.length
   ⟨0,rfl,om,om,rfl,by simp only[sA,sB,seval],by simp only[sA,sB,seval]; rfl,by simp only[sA,sB,seval]; rfl,by simp only[sA,sB,seval],by simp only[sA,sB,seval]⟩ ?_
  rintro m T _ ⟨i,rfl,hi,rfl,ha,g0,g2,g3,g8,g9⟩
  by_cases hlt:i<s.length
  ·have hlt':(i:Int)<(s.length:Int):=om
   obtain⟨c,hc⟩:=aO hlt
   have w1:=cF i om
   have hat:=iA hc ha
   have hno:fr c=false->ga s=none:=fun h=>by
    rw[ga,if_neg]
    rintro ⟨_,h2⟩
    rw[kT hc h]at h2; simp at h2
   by_cases c1:c.toNat<48
   ·have c1':(c.toNat:Int)<48:=om
    simp only[sA,sB,seval,g0,g8,g9,hlt',bi hc,c1']
    exact⟨by rw[hno (Bool.eq_false_iff.2 fun h=>by have:=tU.1 h; omega)]; rfl,tt⟩
   have c1':¬(c.toNat:Int)<48:=om
   by_cases c2:57<c.toNat
   ·have c2':(57:Int)<(c.toNat:Int):=om
    simp only[sA,sB,seval,g0,g8,g9,hlt',bi hc,c1',c2']
    exact⟨by rw[hno (Bool.eq_false_iff.2 fun h=>by have:=tU.1 h; omega)]; rfl,tt⟩
   have c2':¬(57:Int)<(c.toNat:Int):=om
   have hd:fr c=true:=tU.2 om
   have hv:cR (s.take (i+1))=cR (s.take i)*10+dv c:=by rw[List.take_add_one,hc]; exact uw _ _
   have hdv:dv c<=9:=by simp only[dv]; omega
   have e1:IntKind.u8.wrap ((c.toNat:Int)-48)=((dv c:Nat):Int):=by rw[dz om om]; simp only[dv]; omega
   have e2:IntKind.u64.wrap ((dv c:Nat):Int)=((dv c:Nat):Int):=jk om om
   have e3:IntKind.u64.wrap (18446744073709551615-((dv c:Nat):Int))=((18446744073709551615-dv c:Nat):Int):=by rw[jk om om]; omega
   have e4:=DD (a:=18446744073709551615-dv c) 10 om om
   simp only[Int.cast_ofNat_Int]at e4
   generalize hn:cR (s.take i)=n at *
   have e5:IntKind.u64.wrap (((n % 18446744073709551616:Nat):Int)*10)=((n*10 % 18446744073709551616:Nat):Int):=by
    have:=yM .u64 (by simp) (n % 18446744073709551616*10)
    rw[show ((n % 18446744073709551616:Nat):Int)*10=((n % 18446744073709551616*10:Nat):Int) by omega,this]
    show ((n % 18446744073709551616*10 % 18446744073709551616:Nat):Int)=_
    omega
   have e6:IntKind.u64.wrap (((n*10 % 18446744073709551616:Nat):Int)+((dv c:Nat):Int))=(((n*10+dv c) % 18446744073709551616:Nat):Int):=by
    have:=yM .u64 (by simp) (n*10 % 18446744073709551616+dv c)
    rw[show ((n*10 % 18446744073709551616:Nat):Int)+((dv c:Nat):Int)=((n*10 % 18446744073709551616+dv c:Nat):Int) by omega,this]
    show (((n*10 % 18446744073709551616+dv c) % 18446744073709551616:Nat):Int)=_
    omega
   by_cases c3:n<18446744073709551616
   ·have e7:n % 18446744073709551616=n:=Nat.mod_eq_of_lt c3
    by_cases c4:n*10+dv c<18446744073709551616
    ·have c4':((n % 18446744073709551616:Nat):Int)<=(((18446744073709551615-dv c) / 10:Nat):Int):=om
     simp only[sA,sB,seval,g0,g2,g3,g8,g9,hlt',bi hc,c1',c2',e1,e2,c3,e3,e4,c4',e5,e6,w1]
     exact⟨_,om,i+1,tt,om,rfl,by rw[hat]; exact hd,tt,by rw[hv],by rw[hv,decide_eq_true c4],tt,tt⟩
    ·have c4':¬((n % 18446744073709551616:Nat):Int)<=(((18446744073709551615-dv c) / 10:Nat):Int):=om
     simp only[sA,sB,seval,g0,g2,g3,g8,g9,hlt',bi hc,c1',c2',e1,e2,c3,e3,e4,c4',e5,e6,w1]
     exact⟨_,om,i+1,tt,om,rfl,by rw[hat]; exact hd,tt,by rw[hv],by rw[hv,decide_eq_false c4],tt,tt⟩
   ·simp only[sA,sB,seval,g0,g2,g3,g8,g9,hlt',bi hc,c1',c2',e1,e2,c3,e5,e6,w1]
    exact⟨_,om,i+1,tt,om,rfl,by rw[hat]; exact hd,tt,by rw[hv],by rw[hv,decide_eq_false om],tt,tt⟩
  ·have hlt':¬(i:Int)<(s.length:Int):=om
   simp only[sA,sB,seval,g8,g9,hlt']
   rw[List.take_of_length_le om]at ha g2 g3
   exact⟨tt,ha,g0,g2,g3⟩
 rintro T _ ⟨rfl,ha,g0,g2,g3⟩
 by_cases h0:s=[]
 ·subst h0
  simp only[sA,sB,seval,g0]
  exact⟨rfl,tt⟩
 have hc:ga s=some (cR s):=by rw[ga,if_pos ⟨h0,ha⟩]
 rw[hc]
 by_cases c3:cR s<18446744073709551616
 ·simp only[sA,sB,seval,g0,h0,g2,g3,c3]
  exact⟨by simp only[kN,c3,if_true,decide_true,Nat.mod_eq_of_lt c3],tt⟩
 ·simp only[sA,sB,seval,g0,h0,g2,g3,c3]
  exact⟨by simp only[kN,c3,if_false,decide_false]; rfl,tt⟩
def Je:Option Int->af
 | some n=>.tuple [.int .i64 n,.bool true]
 | none=>.tuple [.int .i64 0,.bool false]
theorem Gn{s:Bs}{n:Nat}(h:fA s=some n):n<9223372036854775808:=by
 unfold fA at h
 split at h <;> first | (simp at h; done) | skip
 rename_i hs
 simp only[sJ]at h
 have:=Aj (oj (vf hs.1).2)
 omega
theorem KF{s:Bs}:(∃r,s=45::r/\pre s [45]=true)∨((∀r,s≠45::r)/\pre s [45]=false):=by
 rcases s with _ | ⟨c,r⟩
 ·exact .inr ⟨by simp,by decide⟩
 ·by_cases h:c=45
  ·subst h; exact .inl ⟨r,rfl,by simp[pre]⟩
  ·refine .inr ⟨fun r' he=>h (List.cons.inj he).1,?_⟩
   simp only[pre,List.take_succ_cons,ND,NE,List.take_zero]
   exact decide_eq_false fun he=>h (List.cons.inj he).1
theorem Jd{s:Bs}(hs:s.length<=4611686018427387904){H:ae}:an Tryz.prog aE 78 [.str s] H fun v H'=>v=Je (fX s)/\bw H.next H H':=by
 refine ai rfl LX rfl ?_
 simp only[c78,sA,sB,seval]
 have hp:∀(s:Bs) {H:ae},an Tryz.prog aE 35 [.str s,.str [45]] H fun v H'=>v=.bool (pre s [45])/\H=H':=fun s H=>rF rfl s [45]
 have key:∀{K:af->ae->Prop},K (.tuple [.str (if pre s [45]=true then s.drop 1 else s),.bool (pre s [45])]) H->an Tryz.prog aE 93 [.str s,.str [45]] H K:=by
  intro K hK
  refine ai rfl LO rfl ?_
  simp only[c93,sA,sB,seval]
  refine ai rfl Ks rfl ?_
  simp only[Lc,sA,sB,seval]
  refine (hp s).mono ?_
  rintro _ _ ⟨rfl,rfl⟩
  cases h:pre s [45] with
  | false=>
   rw[h]at hK
   simp only[sA,sB,seval,bT,bS]
   exact hK
  | true=>
   rw[h]at hK
   have hl:1<=s.length:=by
    rcases s with _ | ⟨c,r⟩
    ·simp[pre]at h
    ·simp
   have e1:=nX (s:=s) (l:=1) hl
   have hl1:((List.length [(45:UInt8)]:Nat):Int)=1:=rfl
   simp only[Int.cast_ofNat_Int]at e1
   simp only[sA,sB,seval,hl1,e1,bT,bS]
   exact hK
 refine key ?_
 rcases KF (s:=s) with⟨r,rfl,h⟩ | ⟨hne,h⟩
 ·simp only[h,sA,sB,seval,bT,bS]
  refine (nB rfl rfl rfl rfl rfl rfl rfl rfl rfl (s:=r) (by simp at hs; omega)).mono ?_
  rintro _ H1 ⟨rfl,e⟩
  cases hn:fA r with
  | none=>
   have w:CC .neg (.int .i64 0)=some (.int .i64 0):=rfl
   simp only[Bn,sA,sB,seval,w,bT,bS]
   refine⟨by simp only[fX,hn,Option.map_none]; rfl,e⟩
  | some n=>
   have hlt:=Gn hn
   have w:CC .neg (.int .i64 (n:Int))=some (.int .i64 (-(n:Int))):=by
    rw[C4,aR om om,Int.zero_sub]
   simp only[Bn,sA,sB,seval,w,bT,bS]
   refine⟨by simp only[fX,hn,Option.map_some]; rfl,e⟩
 ·have e0:fX s=(fA s).map fun (n:Nat)=>(n:Int):=GF hne
  simp only[h,sA,sB,seval,bT,bS]
  refine (nB rfl rfl rfl rfl rfl rfl rfl rfl rfl (s:=s) hs).mono ?_
  rintro _ H1 ⟨rfl,e⟩
  rw[e0]
  cases hn:fA s with
  | none=>simp only[Bn,sA,sB,seval,bT,bS]; exact⟨rfl,e⟩
  | some n=>simp only[Bn,sA,sB,seval,bT,bS]; exact⟨rfl,e⟩
open Go.Abs Go.Abs.S
def eH(f:Bs->Option Int):List Bs->Option (List Int)
 | []=>some []
 | a::l=>match f a with
  | none=>none
  | some x=>(eH f l).map (x::·)
theorem mX{f:Bs->Option Int}:∀{l:List Bs} {ns:List Int} {a:Bs} {x:Int},eH f l=some ns->f a=some x->eH f (l++[a])=some (ns++[x])
 | [],ns,a,x,h,h2=>by
  simp only[eH,sJ]at h
  subst h
  simp only[List.nil_append,eH,h2,Option.map_some]
 | b::l,ns,a,x,h,h2=>by
  simp only[eH]at h
  split at h <;> first | (simp at h; done) | skip
  rename_i y hy
  obtain⟨m,hm,rfl⟩:=Option.map_eq_some_iff.1 h
  simp only[List.cons_append,eH,hy,mX hm h2,Option.map_some]
theorem mY{f:Bs->Option Int}:∀{l:List Bs} {a:Bs},a∈l->f a=none->eH f l=none
 | [],a,h,_=>by simp at h
 | b::l,a,h,h2=>by
  simp only[eH]
  rcases List.mem_cons.1 h with rfl | h
  ·rw[h2]
  ·split
   ·rfl
   ·rw[mY h h2]; rfl
abbrev Wl(P:Nat->Prop)(H:ae)(v:af)(ws:List Bs):Prop:=gY P H 1 v ws.length (bM ws)
theorem Ja{H:ae}{a:Ad}{n:Nat}{xs:List af}(h:aT H a n=some xs):xs.length=n:=by
 obtain⟨l,low,ro,h1,h2,h3,h4,rfl⟩:=iJ h
 rw[NR,List.length_drop]; omega
theorem gY.load1{P:Nat->Prop}{H:ae}{k:Nat}{v:af}{C:List af}(h:gY P H 1 v k C){i:Nat}{x:af}(hi:C[i]?=some x):bg false 1 H (mC 1 v i)=some x:=by
 rcases h with⟨_,rfl,rfl⟩ | ⟨a,r,rfl,_,h3⟩
 ·simp at hi
 ·have hlt:=(NA.1 hi).1
  have hl:C.length=1*k:=Ja h3
  obtain⟨y,q1,q2⟩:=DA h3 (i:=i) om
  rw[hi]at q1
  simp only[sJ]at q1
  subst q1
  simp only[bg,mC,Nat.mul_one,q2,cond_false]
def uZ(b n o k:Nat):List af:=(List.range k).map fun j=>ak b n (o+j)
theorem zJ{b n o k i:Nat}(h:i<k):(uZ b n o k)[i]?=some (ak b n (o+i)):=by
 simp only[uZ,List.getElem?_map,List.getElem?_range h,Option.map_some]
def lw(C:List af)(o:Nat)(ns:List Int):List af:=C.take o++(vA ns++C.drop (o+ns.length))
theorem uY(C:List af)(o:Nat):lw C o []=C:=by simp[lw,vA]
theorem ic{C:List af}{o:Nat}{ns:List Int}(h:o+ns.length<=C.length):(lw C o ns).length=C.length:=by
 simp only[lw,lA,NR,List.length_drop,vz]; omega
theorem rD{C:List af}{o:Nat}{ns:List Int}{x:Int}(h:o+ns.length<C.length):(lw C o ns).set (o+ns.length) (.int .i64 x)=lw C o (ns++[x]):=by
 obtain⟨y,hy⟩:∃y,C[o+ns.length]?=some y:=⟨_,Nz h⟩
 have h1:(C.take o).length=o:=by rw[NR]; omega
 have h2:(C.take o++vA ns).length=o+ns.length:=by rw[lA,h1,vz]
 rw[lw,iu hy,<- NM,<- h2,List.set_append,if_neg om,Nat.sub_self,List.set_cons_zero,h2,lw,BT]
 simp only[NM,List.cons_append,List.nil_append,lA,ND,NE,Nat.zero_add,Nat.add_assoc]
def Nv(f:Bs->Option Int)(ws:List Bs)(b n o k:Nat)(C:List af)(H:ae)(v:af)(H':ae):Prop:=
 Fp b H H'/\∃C',Row H' b C'/\C'.length=n/\((v=.bool true/\ws.length=k/\∃ns,eH f ws=some ns/\C'=lw C o ns)∨(v=.bool false/\(ws.length=k->eH f ws=none)))
theorem iM{P Q:Nat->Prop}{vl vt:af}{ws:List Bs}{b n o k:Nat}{C:List af}{H:ae}(hl:Wl P H vl ws)(hP:∀c,P c->c<H.next/\c≠b)(ht:gY Q H 1 vt k (uZ b n o k))(hQ:∀c,Q c->c<H.next/\c≠b)
  (r:Row H b C) (hC:C.length=n) (ho:o+k<=n) (hw:∀w∈ws,w.length<=4611686018427387904) (hb:b<H.next) (hk:k<=100):an Tryz.prog aE 51 [vl,vt] H (Nv fX ws b n o k C H):=by
 refine ai rfl Ms rfl ?_
 have ll:=hl.len
 have lt:=ht.len
 by_cases hlen:ws.length=k
 rotate_left
 ·have hlen':¬(ws.length:Int)=(k:Int):=om
  simp only[Nk,sA,sB,seval,ll,lt,hlen']
  exact⟨Fp.refl _ _,C,r,hC,.inr ⟨tt,fun h=>absurd h hlen⟩⟩
 have hlen':(ws.length:Int)=(k:Int):=om
 simp only[Nk,sA,sB,seval,ll,lt,hlen']
 refine bL (fun m (T:bK) H'=>∃(i:Nat) (ns:List Int),Fp b H H'/\i<=k/\m=k-i/\eH fX (ws.take i)=some ns/\ns.length=i/\Row H' b (lw C o ns)/\T 1=vt/\T 14=vl/\T 15=.int .i64 (k:Int)/\T 16=.int .i64 (i:Int)) k
  ⟨0,[],Fp.refl _ _,om,om,rfl,rfl,by rw[uY]; exact r,by simp only[sA,sB,seval],by simp only[sA,sB,seval],by simp only[sA,sB,seval],by simp only[sA,sB,seval]⟩ ?_
 rintro m T H1 ⟨i,ns,f1,hi,rfl,ha,hnl,r1,g1,g14,g15,g16⟩
 have hn1:=f1.next
 by_cases hlt:i<k
 ·have hlt':(i:Int)<(k:Int):=om
  obtain⟨w,hwi⟩:=aO (show i<ws.length by omega)
  have w1:=cF i om
  have hl1:=hl.mono (Q:=P) fun c hc=>⟨hc,f1.old c (hP c hc).1 (hP c hc).2⟩
  have ix:=hl1.idx (show i<ws.length by omega)
  have lx:=hl1.load1 (dB hwi)
  simp only[sA,sB,seval,g1,g14,g15,g16,hlt',ix,lx]
  refine (Jd (hw w (NH hwi))).mono ?_
  rintro _ H2 ⟨rfl,e2⟩
  have r2:=r1.up e2 om
  have f2:=f1.trans (Fp.of_ext (pb:=b) e2)
  cases hx:fX w with
  | none=>
   simp only[Je,sA,sB,seval,bT,bS]
   exact⟨f2,_,r2,by rw[ic om,hC],.inr ⟨rfl,fun _=>mY (NH hwi) hx⟩⟩
  | some x=>
   have ht2:=ht.mono (Q:=Q) fun c hc=>⟨hc,f2.old c (hQ c hc).1 (hQ c hc).2⟩
   have ix2:=ht2.idx hlt
   have lx2:=ht2.load1 (zJ hlt)
   obtain⟨H3,m3,r3,n3,k3⟩:=bj r2 (by rw[ic om,hC]) (i:=o+ns.length) (n:=n) om (x:=.int .i64 x) rfl
   rw[hnl]at m3
   rw[rD om]at r3
   simp only[Je,sA,sB,seval,bT,bS,g1,ix2,lx2,aG,m3,g16,w1]
   exact⟨_,om,i+1,ns++[x],f2.trans (Fp.of_set n3 k3),om,rfl,by rw[List.take_add_one,hwi]; exact mX ha hx,by rw[lA,hnl]; rfl,r3,tt,g14,g15,tt⟩
 ·have hlt':¬(i:Int)<(k:Int):=om
  simp only[sA,sB,seval,g14,g15,g16,hlt']
  rw[List.take_of_length_le om]at ha
  exact⟨f1,_,r1,by rw[ic om,hC],.inl ⟨tt,hlen,ns,ha,rfl⟩⟩
theorem nH{P Q:Nat->Prop}{vl vt:af}{ws:List Bs}{b n o k lo hi:Nat}{C:List af}{H:ae}(hl:Wl P H vl ws)(hP:∀c,P c->c<H.next/\c≠b)(ht:gY Q H 1 vt k (uZ b n o k))(hQ:∀c,Q c->c<H.next/\c≠b)
  (r:Row H b C) (hC:C.length=n) (ho:o+k<=n) (hw:∀w∈ws,w.length<=4611686018427387904) (hb:b<H.next) (hk:k<=100) (hhi:hi<=1000000):an Tryz.prog aE 41 [vl,.int .u64 (lo:Int),.int .u64 (hi:Int),vt] H (Nv (fk lo hi) ws b n o k C H):=by
 refine ai rfl MD rfl ?_
 have ll:=hl.len
 have lt:=ht.len
 by_cases hlen:ws.length=k
 rotate_left
 ·have hlen':¬(ws.length:Int)=(k:Int):=om
  simp only[Np,sA,sB,seval,ll,lt,hlen']
  exact⟨Fp.refl _ _,C,r,hC,.inr ⟨tt,fun h=>absurd h hlen⟩⟩
 have hlen':(ws.length:Int)=(k:Int):=om
 simp only[Np,sA,sB,seval,ll,lt,hlen']
 refine bL (fun m (T:bK) H'=>∃(i:Nat) (ns:List Int),Fp b H H'/\i<=k/\m=k-i/\eH (fk lo hi) (ws.take i)=some ns/\ns.length=i/\Row H' b (lw C o ns)/\T 1=.int .u64 (lo:Int)/\T 2=.int .u64 (hi:Int)/\T 3=vt/\T 19=vl/\T 20=.int .i64 (k:Int)/\T 21=.int .i64 (i:Int)) k
  ⟨0,[],Fp.refl _ _,om,om,rfl,rfl,by rw[uY]; exact r,by simp only[sA,sB,seval],by simp only[sA,sB,seval],by simp only[sA,sB,seval],by simp only[sA,sB,seval],by simp only[sA,sB,seval],by simp only[sA,sB,seval]⟩ ?_
 rintro m T H1 ⟨i,ns,f1,hi',rfl,ha,hnl,r1,g1,g2,g3,g19,g20,g21⟩
 have hn1:=f1.next
 by_cases hlt:i<k
 ·have hlt':(i:Int)<(k:Int):=om
  obtain⟨w,hwi⟩:=aO (show i<ws.length by omega)
  have w1:=cF i om
  have hl1:=hl.mono (Q:=P) fun c hc=>⟨hc,f1.old c (hP c hc).1 (hP c hc).2⟩
  have ix:=hl1.idx (show i<ws.length by omega)
  have lx:=hl1.load1 (dB hwi)
  simp only[sA,sB,seval,g1,g2,g3,g19,g20,g21,hlt',ix,lx]
  refine (pP (hw w (NH hwi))).mono ?_
  rintro _ _ ⟨rfl,rfl⟩
  have stop:fk lo hi w=none->Nv (fk lo hi) ws b n o k C H (.bool false) H1:=fun hx=>⟨f1,_,r1,by rw[ic om,hC],.inr ⟨rfl,fun _=>mY (NH hwi) hx⟩⟩
  cases hx:ga w with
  | none=>
   simp only[kN,sA,sB,seval,bT,bS,fB]
   exact stop (by simp only[fk,hx])
  | some x=>
   by_cases c1:x<lo
   ·have c1':(((if x<18446744073709551616 then x else 18446744073709551615):Nat):Int)<(lo:Int)∨¬lo<=hi:=by
     split <;> omega
    by_cases c0:(((if x<18446744073709551616 then x else 18446744073709551615):Nat):Int)<(lo:Int)
    ·simp only[kN,sA,sB,seval,bT,bS,fB,g1,g2,c0]
     exact stop (by simp only[fk,hx]; rw[if_neg om])
    ·have c2:(hi:Int)<(((if x<18446744073709551616 then x else 18446744073709551615):Nat):Int):=by split at c0 <;> split <;> omega
     simp only[kN,sA,sB,seval,bT,bS,fB,g1,g2,c0,c2]
     exact stop (by simp only[fk,hx]; rw[if_neg om])
   by_cases c2:hi<x
   ·have c2':(hi:Int)<(((if x<18446744073709551616 then x else 18446744073709551615):Nat):Int):=by split <;> omega
    by_cases c0:(((if x<18446744073709551616 then x else 18446744073709551615):Nat):Int)<(lo:Int)
    ·simp only[kN,sA,sB,seval,bT,bS,fB,g1,g2,c0]
     exact stop (by simp only[fk,hx]; rw[if_neg om])
    ·simp only[kN,sA,sB,seval,bT,bS,fB,g1,g2,c0,c2']
     exact stop (by simp only[fk,hx]; rw[if_neg om])
   have hs:(if x<18446744073709551616 then x else 18446744073709551615)=x:=if_pos om
   have c1':¬(x:Int)<(lo:Int):=om
   have c2':¬(hi:Int)<(x:Int):=om
   have hcx:fk lo hi w=some (x:Int):=by simp only[fk,hx]; rw[if_pos om]
   have ht2:=ht.mono (Q:=Q) fun c hc=>⟨hc,f1.old c (hQ c hc).1 (hQ c hc).2⟩
   have ix2:=ht2.idx hlt
   have lx2:=ht2.load1 (zJ hlt)
   have wx:IntKind.i64.wrap (x:Int)=(x:Int):=aR om om
   obtain⟨H3,m3,r3,n3,k3⟩:=bj r1 (by rw[ic om,hC]) (i:=o+ns.length) (n:=n) om (x:=.int .i64 (x:Int)) rfl
   rw[hnl]at m3
   rw[rD om]at r3
   simp only[kN,sA,sB,seval,bT,bS,fB,hs,g1,g2,g3,c1',c2',ix2,lx2,aG,wx,m3,g21,w1]
   exact⟨_,om,i+1,ns++[(x:Int)],f1.trans (Fp.of_set n3 k3),om,rfl,by rw[List.take_add_one,hwi]; exact mX ha hcx,by rw[lA,hnl]; rfl,r3,tt,tt,tt,g19,g20,tt⟩
 ·have hlt':¬(i:Int)<(k:Int):=om
  simp only[sA,sB,seval,g19,g20,g21,hlt']
  rw[List.take_of_length_le om]at ha
  exact⟨f1,_,r1,by rw[ic om,hC],.inl ⟨tt,hlen,ns,ha,rfl⟩⟩
open Go.Abs Go.Abs.S
theorem Bk{ws:List Bs}{ns:List Int}(hl:ws.length=3)(h:eH fX ws=some ns):∃v:Vc,ns=[v.x,v.y,v.z]/\iG ws=some v:=by
 obtain⟨a,b,c,rfl⟩:∃a b c,ws=[a,b,c]:=by
  rcases ws with _ | ⟨a,_ | ⟨b,_ | ⟨c,_ | ⟨d,r⟩⟩⟩⟩ <;> simp at hl
  exact⟨a,b,c,rfl⟩
 simp only[eH]at h
 split at h <;> first | (simp at h; done) | skip
 rename_i x hx
 split at h <;> first | (simp at h; done) | skip
 rename_i y hy
 split at h <;> first | (simp at h; done) | skip
 rename_i z hz
 simp only[Option.map_some,sJ]at h
 subst h
 exact⟨⟨x,y,z⟩,rfl,by simp only[iG,hx,hy,hz]⟩
theorem Bl{ws:List Bs}(h:ws.length=3->eH fX ws=none):iG ws=none:=by
 unfold iG
 split
 ·rename_i a b c
  have h:=h rfl
  simp only[eH]at h
  split
  ·rfl
  ·rename_i x hx
   rw[hx]at h
   simp only at h
   split
   ·rfl
   ·rename_i y hy
    rw[hy]at h
    simp only at h
    split
    ·rfl
    ·rename_i z hz
     rw[hz]at h
     simp at h
 ·rfl
theorem Hl(H:ae)(b n i j k:Nat):bU 3 [.ptr none] H [(0,1,ak b n i),(1,1,ak b n j),(2,1,ak b n k)]=some (jU H.next 3 (.known 3),H.push (.cells [ak b n i,ak b n j,ak b n k] 0 false)):=rfl
theorem ub(H:ae)(b n i:Nat):bU 1 [.ptr none] H [(0,1,ak b n i)]=some (jU H.next 1 (.known 1),H.push (.cells [ak b n i] 0 false)):=rfl
theorem Hm(H:ae)(b n i j:Nat):bU 2 [.ptr none] H [(0,1,ak b n i),(1,1,ak b n j)]=some (jU H.next 2 (.known 2),H.push (.cells [ak b n i,ak b n j] 0 false)):=rfl
theorem Hk(H:ae)(b n i j k l:Nat):bU 4 [.ptr none] H [(0,1,ak b n i),(1,1,ak b n j),(2,1,ak b n k),(3,1,ak b n l)]=some (jU H.next 4 (.known 4),H.push (.cells [ak b n i,ak b n j,ak b n k,ak b n l] 0 false)):=rfl
theorem lR(b:Nat)(H:ae)(o:dh):Fp b H (H.push o):=⟨by rw[aN]; omega,fun c hc _=>aS hc⟩
theorem lB{H:ae}{b n o k:Nat}(l:List af)(hl:l=uZ b n o k):gY (·=H.next) (H.push (.cells l 0 false)) 1 (jU H.next k (.known k)) k (uZ b n o k):=by
 subst hl
 have hk:(uZ b n o k).length=k:=by simp[uZ]
 exact gY.row (jq H _) hk om rfl
def Nu(o':Option Vc)(b n o:Nat)(C:List af)(H:ae)(v:af)(H':ae):Prop:=
 Fp b H H'/\∃C',Row H' b C'/\C'.length=n/\((∃x,o'=some x/\v=.bool true/\C'=lw C o [x.x,x.y,x.z])∨(o'=none/\v=.bool false))
theorem oN{P:Nat->Prop}{vl:af}{ws:List Bs}{b n o:Nat}{C:List af}{H:ae}(hl:Wl P H vl ws)(hP:∀c,P c->c<H.next/\c≠b)
  (r:Row H b C) (hC:C.length=n) (ho:o+3<=n) (hw:∀w∈ws,w.length<=4611686018427387904) (hb:b<H.next):an Tryz.prog aE 47 [vl,ak b n o] H (Nu (iG ws) b n o C H):=by
 refine ai rfl Mx rfl ?_
 simp only[c47,sA,sB,seval,aG,aF,Hl]
 have f0:=lR b H (.cells [ak b n (o+0),ak b n (o+1),ak b n (o+2)] 0 false)
 have ht:=lB (H:=H) (b:=b) (n:=n) (o:=o) (k:=3) [ak b n (o+0),ak b n (o+1),ak b n (o+2)] rfl
 rw[Nat.add_zero]at f0 ht
 refine (iM (Q:=(·=H.next)) (hl.mono (Q:=P) fun c hc=>⟨hc,f0.old c (hP c hc).1 (hP c hc).2⟩) (fun c hc=>⟨by rw[aN]; have:=(hP c hc).1; omega,(hP c hc).2⟩) ht (fun c hc=>⟨by rw[aN]; omega,om⟩)
  (r.same (aS hb)) hC ho hw (by rw[aN]; omega) om).mono ?_
 rintro v H' ⟨f,C',r',hC',h⟩
 simp only[sA,sB,seval]
 refine⟨f0.trans f,C',r',hC',?_⟩
 rcases h with⟨rfl,h1,ns,h2,rfl⟩ | ⟨rfl,h1⟩
 ·obtain⟨x,rfl,hx⟩:=Bk h1 h2
  exact .inl ⟨x,hx,rfl,rfl⟩
 ·exact .inr ⟨Bl h1,rfl⟩
def oZ(ws:List Bs):Option Nat:=match ws with
 | [a]=>match ga a with
  | some n=>if n<18446744073709551616 then some n else none
  | none=>none
 | _=>none
theorem Bx{P:Nat->Prop}{vl:af}{ws:List Bs}{b n o:Nat}{C:List af}{H:ae}(hl:Wl P H vl ws)(hP:∀c,P c->c<H.next/\c≠b)
  (r:Row H b C) (hC:C.length=n) (ho:o<n) (hw:∀w∈ws,w.length<=4611686018427387904):an Tryz.prog aE 45 [vl,ak b n o] H fun v H'=>Fp b H H'/\∃C',Row H' b C'/\C'.length=n/\((∃x:Nat,oZ ws=some x/\v=.bool true/\C'=C.set o (.int .u64 (x:Int)))∨(oZ ws=none/\v=.bool false)):=by
 refine ai rfl Mz rfl ?_
 have ll:=hl.len
 rcases ws with _ | ⟨a,_ | ⟨d,ws⟩⟩
 ·have e:((List.length ([]:List Bs):Nat):Int)=0:=rfl
  simp only[LI,sA,sB,seval,ll,e]
  exact⟨Fp.refl _ _,C,r,hC,.inr ⟨rfl,tt⟩⟩
 ·have e:((List.length [a]:Nat):Int)=1:=rfl
  have ix:=hl.idx (i:=0) (by simp)
  have lx:=hl.load1 (dB (l:=[a]) (i:=0) rfl)
  simp only[Int.cast_ofNat_Int]at ix
  simp only[LI,sA,sB,seval,ll,e,ix,lx]
  refine (pP (hw a (by simp))).mono ?_
  rintro _ _ ⟨rfl,rfl⟩
  cases hx:ga a with
  | none=>
   obtain⟨H1,m1,r1,n1,k1⟩:=bj r hC (i:=o) ho (x:=.int .u64 0) rfl
   simp only[kN,sA,sB,seval,bT,bS,fB,aG,m1]
   exact⟨Fp.of_set n1 k1,_,r1,by rw[List.length_set,hC],.inr ⟨by simp only[oZ,hx],tt⟩⟩
  | some x=>
   by_cases hlt:x<18446744073709551616
   ·obtain⟨H1,m1,r1,n1,k1⟩:=bj r hC (i:=o) ho (x:=.int .u64 (x:Int)) rfl
    simp only[kN,sA,sB,seval,bT,bS,fB,aG,hlt,m1]
    exact⟨Fp.of_set n1 k1,_,r1,by rw[List.length_set,hC],.inl ⟨x,by simp only[oZ,hx]; rw[if_pos hlt],tt,rfl⟩⟩
   ·obtain⟨H1,m1,r1,n1,k1⟩:=bj r hC (i:=o) ho (x:=.int .u64 ((18446744073709551615:Nat):Int)) rfl
    simp only[Int.cast_ofNat_Int]at m1
    simp only[kN,sA,sB,seval,bT,bS,fB,aG,hlt,m1]
    exact⟨Fp.of_set n1 k1,_,r1,by rw[List.length_set,hC],.inr ⟨by simp only[oZ,hx]; rw[if_neg hlt],tt⟩⟩
 ·have e:¬((List.length (a::d::ws):Nat):Int)=1:=by simp only[ND]; omega
  simp only[LI,sA,sB,seval,ll,e]
  exact⟨Fp.refl _ _,C,r,hC,.inr ⟨rfl,tt⟩⟩
theorem pi{s:Bs}{b n o:Nat}{C:List af}{H:ae}(r:Row H b C)(hC:C.length=n)(ho:o<n)(hs:s.length<=4611686018427387904) :
  an Tryz.prog aE 81 [.str s,ak b n o] H fun v H'=>Fp b H H'/\∃C',Row H' b C'/\C'.length=n/\((∃x:Int,kD s=some x/\v=.bool true/\C'=C.set o (.int .i64 x))∨(kD s=none/\v=.bool false)):=by
 refine ai rfl LU rfl ?_
 simp only[c81,sA,sB,seval]
 refine (pP hs).mono ?_
 rintro _ _ ⟨rfl,rfl⟩
 cases hx:ga s with
 | none=>
  simp only[kN,sA,sB,seval,bT,bS,fB]
  exact⟨Fp.refl _ _,C,r,hC,.inr ⟨by simp only[kD,fk,hx],tt⟩⟩
 | some x=>
  by_cases hlt:x<=1073741824
  ·have hs:(if x<18446744073709551616 then x else 18446744073709551615)=x:=if_pos om
   have c2:¬(1073741824:Int)<(x:Int):=om
   have wx:IntKind.i64.wrap (x:Int)=(x:Int):=aR om om
   obtain⟨H1,m1,r1,n1,k1⟩:=bj r hC (i:=o) ho (x:=.int .i64 (x:Int)) rfl
   simp only[kN,sA,sB,seval,bT,bS,fB,hs,c2,wx,aG,m1]
   exact⟨Fp.of_set n1 k1,_,r1,by rw[List.length_set,hC],.inl ⟨x,by simp only[kD,fk,hx]; rw[if_pos ⟨Nat.zero_le _,hlt⟩],tt,rfl⟩⟩
  ·have c2:(1073741824:Int)<(((if x<18446744073709551616 then x else 18446744073709551615):Nat):Int):=by split <;> omega
   simp only[kN,sA,sB,seval,bT,bS,fB,c2]
   exact⟨Fp.refl _ _,C,r,hC,.inr ⟨by simp only[kD,fk,hx]; rw[if_neg om],tt⟩⟩
open Go.Abs Go.Abs.S
def tn(r:Nat):Bool:=decide (r=9)||(decide (r=13)||decide (r=32))
def mt(s:Bs)(pos:Nat):Option (Nat×Nat):=match tA s pos with
 | Option.none=>Option.none
 | some c=>bif Nat.ble 128 c.toNat then some (Utf8.decode (aD s) pos) else some (c.toNat,1)
def hX(s:Bs):Nat->Nat->Option Nat->List (Nat×Nat)->Option Nat×List (Nat×Nat)
 | 0,_,b,l=>(b,l)
 | f+1,pos,b,l=>match mt s pos with
  | Option.none=>(b,l)
  | some (r,n)=>if tn r then (match b with
    | some i=>hX s f (pos+n) Option.none (l++[(i,pos)])
    | Option.none=>hX s f (pos+n) Option.none l)
   else (match b with
    | some i=>hX s f (pos+n) (some i) l
    | Option.none=>hX s f (pos+n) (some pos) l)
def b9(s:Bs):List (Nat×Nat):=match hX s (s.length+1) 0 Option.none [] with
 | (some i,l)=>l++[(i,s.length)]
 | (Option.none,l)=>l
theorem yn(s:ByteArray)(pos:Nat):1<=(Utf8.decode s pos).2:=by
 simp only[Utf8.decode]
 repeat' split
 all_goals simp
theorem rt{s:Bs}{pos:Nat}:mt s pos=none↔s.length<=pos:=by
 unfold mt
 rw[lJ]
 cases h:s[pos]? with
 | none=>simp[List.getElem?_eq_none_iff.1 h]
 | some c=>
  have hlt:=(NA.1 h).1
  have:¬s.length<=pos:=om
  cases hb:Nat.ble 128 c.toNat <;> simp[hb] <;> omega
theorem uQ{s:Bs}{pos r n:Nat}(h:mt s pos=some (r,n)):1<=n/\pos<s.length:=by
 constructor
 ·unfold mt at h
  split at h
  ·simp at h
  ·rename_i c _
   cases hb:Nat.ble 128 c.toNat with
   | true=>
    rw[hb]at h
    simp only[cond_true,sJ]at h
    have:=yn (aD s) pos
    rw[h]at this; exact this
   | false=>
    rw[hb]at h
    simp only[cond_false,sJ,pJ]at h
    omega
 ·by_cases hl:s.length<=pos
  ·rw[rt.2 hl]at h; simp at h
  ·omega
def LB(b:Nat):af:=.ptr (some ⟨b,0,0⟩)
theorem DC(H:ae)(s:Bs):me .strRange H [.str s]=some (LB H.next,H.push (.iter s 0)):=_root_.id rfl
theorem DP{H:ae}{b:Nat}{s:Bs}{pos:Nat}(h:H.get b=some (.iter s pos))(hr:mt s pos=none):me .strNext H [LB b]=some (.tuple [.bool false],H):=by
 unfold mt at hr
 show qq H [.ptr (some ⟨b,0,0⟩)]=_
 unfold qq
 simp only[h]
 cases hn:tA s pos with
 | none=>rfl
 | some c=>
  rw[hn]at hr
  cases hb:Nat.ble 128 c.toNat <;> simp[hb]at hr
theorem BF{H:ae}{b:Nat}{s:Bs}{pos r n:Nat}(h:H.get b=some (.iter s pos))(hr:mt s pos=some (r,n)):me .strNext H [LB b]=some (.tuple [.bool true,.int .i64 (pos:Int),.int .i32 (r:Int)],H.set b (.iter s (pos+n))):=by
 unfold mt at hr
 show qq H [.ptr (some ⟨b,0,0⟩)]=_
 unfold qq
 simp only[h]
 cases hn:tA s pos with
 | none=>rw[hn]at hr; simp at hr
 | some c=>
  rw[hn]at hr
  cases hb:Nat.ble 128 c.toNat with
  | true=>
   simp only[hb,cond_true,sJ]at hr
   simp only[hb,cond_true,hr]
   rfl
  | false=>
   simp only[hb,cond_false,sJ,pJ]at hr
   obtain⟨rfl,rfl⟩:=hr
   simp only[hb,cond_false]
   rfl
theorem IQ{i:Nat}(h:i<2 ^ 63):∃z:Int,CC .xor (.int .i64 (i:Int))=some (.int .i64 z)/\z<0:=by
 refine⟨_,rfl,?_⟩
 have e:(BitVec.ofInt IntKind.i64.bits (if IntKind.i64.signed then -1 else IntKind.i64.max) ^^^ BitVec.ofInt IntKind.i64.bits (i:Int)).toNat=2 ^ 64-1-i:=by
  show (BitVec.ofInt 64 (-1) ^^^ BitVec.ofInt 64 (i:Int)).toNat=_
  have h1:BitVec.ofInt 64 (-1)=BitVec.allOnes 64:=by decide
  rw[h1,BitVec.allOnes_xor,BitVec.toNat_not,ik,Nat.mod_eq_of_lt om]
 rw[e,IntKind.wrap_i64]
 omega
theorem Dq(r:Nat){H:ae}:an Tryz.prog aE 64 [.int .i32 (r:Int)] H fun v H'=>v=.bool (tn r)/\H=H':=by
 refine ai rfl Mg rfl ?_
 have e:tn r=(decide ((r:Int)=9)||(decide ((r:Int)=13)||decide ((r:Int)=32))):=by
  rw[Bool.eq_iff_iff]; simp only[tn,Bool.or_eq_true,NL]; omega
 rw[e]
 by_cases h1:(r:Int)=9 <;> by_cases h2:(r:Int)=13 <;> by_cases h3:(r:Int)=32
 all_goals first
  | (exfalso; omega)
  | (simp only [c64, sA, sB, seval, h1, h2, h3]
     exact ⟨by simp, tt⟩)
theorem oY{α:Type}(a b:List α)(x y:α):(a++x::b).set a.length y=a++y::b:=by simp
def Cz(l:List (Nat×Nat)):List af:=l.flatMap fun p=>[.int .i64 (p.1:Int),.int .i64 (p.2:Int)]
theorem uO(l:List (Nat×Nat))(p:Nat×Nat):Cz (l++[p])=Cz l++[.int .i64 (p.1:Int),.int .i64 (p.2:Int)]:=by simp[Cz]
theorem IX{l:List (Nat×Nat)}{i:Nat}{p:Nat×Nat}(h:l[i]?=some p):((Cz l).drop (i*2)).take 2=[.int .i64 (p.1:Int),.int .i64 (p.2:Int)]:=by
 induction l generalizing i with
 | nil=>simp at h
 | cons q l ih=>
  cases i with
  | zero=>simp at h; subst h; simp[Cz]
  | succ i=>
   have:=ih (by simpa using h)
   have e:(i+1)*2=i*2+2:=om
   rw[e]
   simpa[Cz] using this
def dL(s:Bs)(p:Nat×Nat):Bs:=(s.drop p.1).take (p.2-p.1)
theorem G8(s:Bs)(hs:s.length<=1000000){H:ae}:an Tryz.prog aE 63 [.str s,.func (.func 64) [] []] H fun v H'=>(∃b,v=jU b (b9 s).length (.known (b9 s).length)/\Row H' b (bM ((b9 s).map (dL s)))/\H.next<=b/\b<H'.next)/\(b9 s).length<=s.length+1/\bw H.next H H':=by
 refine ai rfl Mh rfl ?_
 obtain⟨v0,H0,m0,G0,E0,k0,B0⟩:=qD.make (m:=2) (bytes:=16) (cap:=32) (z:=[.int .i64 0,.int .i64 0]) H rfl om om (Nat.zero_le _)
 have m0':gh 16 [.int .i64 0,.int .i64 0] H (.int .i64 0) (.int .i64 32)=some (v0,H0):=m0
 simp only[c63,sA,sB,seval,m0',DC]
 have G1:qD 2 0 (H0.push (.iter s 0)) v0 [] 0:=G0.same (by rw[aN]; omega) (G0.blk.mono fun b hb=>aS hb)
 refine ft (fun (T:bK) H'=>∃(l:List (Nat×Nat)) (b:Option Nat) (z:Int),T 0=.str s/\T 6=.int .i64 z/\(match b with | some i=>z=(i:Int)/\i<=s.length | none=>z<0)/\qD 2 0 H' (T 5) (Cz l) l.length/\dP (T 5) (H.next<=·)/\(∀p∈l,p.1<=p.2/\p.2<=s.length)/\l.length<=s.length/\hX s (s.length+1) 0 none []=(b,l)/\bw H.next H H') (bP _ _) ?_ ?_
 ·refine bL (fun q (T:bK) H'=>∃(l:List (Nat×Nat)) (b:Option Nat) (z:Int) (pos f:Nat),q=s.length-pos/\s.length+1<=f+pos/\T 0=.str s/\T 1=.func (.func 64) [] []/\T 6=.int .i64 z/\T 14=LB H0.next/\H'.get H0.next=some (.iter s pos)/\H0.next<H'.next/\dP (T 5) (H0.next≠·)/\dP (T 5) (H.next<=·)/\(match b with | some i=>z=(i:Int)/\i<=pos/\i<=s.length | none=>z<0)/\qD 2 0 H' (T 5) (Cz l) l.length/\(∀p∈l,p.1<=p.2/\p.2<=s.length)/\l.length<=pos/\l.length<=s.length/\hX s f pos b l=hX s (s.length+1) 0 none []/\bw H.next H H') s.length
   ⟨[],none,-1,0,s.length+1,rfl,om,by simp only[sA,sB,seval]; try rfl,by simp only[sA,sB,seval]; try rfl,by simp only[sA,sB,seval]; try rfl,by simp only[sA,sB,seval]; try rfl,by rw[ae.get_push]; exact if_pos rfl,Nat.lt_succ_self _,by simp only[sA,sB,seval]; exact B0.mono fun b hb=>om,by simp only[sA,sB,seval]; exact B0.mono fun b hb=>om,by show (-1:Int)<0; omega,by simp only[sA,sB,seval]; exact G1,by simp,by simp,by simp,rfl,(E0.push (by have:=E0.next; omega) _)⟩ ?_
  rintro q T H' ⟨l,b,z,pos,f,rfl,hf,g0,g1,g6,g14,hit,hlt,hd,hlo,hz,hG,hp,hl,hl2,hsp,E⟩
  by_cases hr:mt s pos=none
  ·have e:hX s f pos b l=(b,l):=by
    cases f with
    | zero=>rfl
    | succ f=>simp only[hX,hr]
   rw[e]at hsp
   have e0:dl 0 (.tuple [.bool false])=some (.bool false):=rfl
   simp only[sA,sB,seval,g0,g1,g6,g14,DP hit hr,e0]
   refine⟨l,b,z,tt,tt,?_,hG,hlo,hp,hl2,hsp.symm,E⟩
   cases b with
   | none=>exact hz
   | some i=>exact⟨hz.1,hz.2.2⟩
  ·obtain⟨⟨r,n⟩,hr⟩:=Option.ne_none_iff_exists'.1 hr
   obtain⟨hn1,hpl⟩:=uQ hr
   obtain⟨f,rfl⟩:∃k,f=k+1:=⟨f-1,om⟩
   obtain⟨H1,e1⟩:∃K,K=H'.set H0.next (.iter s (pos+n)):=⟨_,rfl⟩
   have k1:H1.next=H'.next:=by rw[e1]; rfl
   have i1:H1.get H0.next=some (.iter s (pos+n)):=by rw[e1,ae.get_set,if_pos rfl]
   have o1:∀c,c≠H0.next->H1.get c=H'.get c:=fun c hc=>by rw[e1,ae.get_set,if_neg hc]
   have hG1:qD 2 0 H1 (T 5) (Cz l) l.length:=hG.same om (hd.mono fun c hc=>o1 c hc.symm)
   have E1:bw H.next H H1:=⟨by have:=E.next; omega,fun c hc=>by rw[o1 c om]; exact E.old c hc⟩
   simp only[sA,sB,seval,g0,g1,g6,g14,BF hit hr,<- e1,bT,bS,fB]
   refine (Dq r).mono ?_
   rintro v _ ⟨rfl,rfl⟩
   rw[hX,hr]at hsp
   cases hb:tn r with
   | true=>
    simp only[hb,if_true]at hsp
    cases b with
    | none=>
     have hz':¬(0:Int)<=z:=by
      have:z<0:=hz
      omega
     simp only[sA,sB,seval,g0,g1,g6,g14,hz']
     exact⟨_,om,l,none,z,pos+n,f,rfl,om,tt,tt,tt,tt,i1,om,hd,hlo,hz,hG1,hp,om,hl2,hsp,E1⟩
    | some i=>
     obtain⟨rfl,hi1,hi2⟩:=hz
     have hz':(0:Int)<=(i:Int):=om
     obtain⟨zx,x1,x2⟩:=IQ (i:=i) om
     obtain⟨s',H2,m2,G2,n2,b2,o2⟩:=hG1.push (xs:=[.int .i64 (i:Int),.int .i64 (pos:Int)]) rfl rfl om (bytes:=16) om om
     have bp:bQ [.int .i64 0,.int .i64 0] [(0,1,.int .i64 (i:Int)),(1,1,.int .i64 (pos:Int))]=some (.agg [.int .i64 (i:Int),.int .i64 (pos:Int)]):=rfl
     have bm:=p7 (m:=2) (z:=[.int .i64 0,.int .i64 0]) (xs:=[.int .i64 (i:Int),.int .i64 (pos:Int)]) H1 rfl rfl
     simp only[sA,sB,seval,g0,g1,g6,g14,hz',bp,bm,m2,x1]
     refine⟨_,om,l++[(i,pos)],none,zx,pos+n,f,rfl,om,tt,tt,tt,tt,by rw[o2 _ om hd]; exact i1,om,(b2 _ hd).mono fun c hc=>om,(b2 _ hlo).mono fun c hc=>by have:=E1.next; omega,x2,by rw[uO,lA]; exact G2,?_,by simp; omega,?_,hsp,⟨by have:=E1.next; omega,fun c hc=>by rw[o2 c (by have:=E1.next; omega) (hlo.mono fun d hd=>om)]; exact E1.old c hc⟩⟩
     ·intro p hpm
      rcases List.mem_append.1 hpm with h | h
      ·exact hp p h
      ·have:p=(i,pos):=by simpa using h
       rw[this]; exact⟨hi1,by show pos<=s.length; omega⟩
     ·simp; omega
   | false=>
    simp only[hb,NK,if_false]at hsp
    cases b with
    | none=>
     have hz':z<0:=hz
     simp only[sA,sB,seval,g0,g1,g6,g14,hz']
     exact⟨_,om,l,some pos,(pos:Int),pos+n,f,rfl,om,tt,tt,tt,tt,i1,om,hd,hlo,⟨rfl,om,om⟩,hG1,hp,om,hl2,hsp,E1⟩
    | some i=>
     obtain⟨rfl,hi1,hi2⟩:=hz
     have hz':¬(i:Int)<0:=om
     simp only[sA,sB,seval,g0,g1,g6,g14,hz']
     exact⟨_,om,l,some i,(i:Int),pos+n,f,rfl,om,tt,tt,tt,tt,i1,om,hd,hlo,⟨rfl,om,hi2⟩,hG1,hp,om,hl2,hsp,E1⟩
 ·rintro T H' ⟨l,b,z,g0,g6,hz,hG,hlo,hp,hl,hsp,E⟩
  rw[iN]
  refine Hu (fun (T:bK) H'=>T 0=.str s/\qD 2 0 H' (T 5) (Cz (b9 s)) (b9 s).length/\(∀p∈b9 s,p.1<=p.2/\p.2<=s.length)/\(b9 s).length<=s.length+1/\bw H.next H H') (bP _ _) ?_ ?_
  ·cases b with
   | none=>
    have e:b9 s=l:=by rw[b9,hsp]
    have hz':¬(0:Int)<=z:=by
     have:z<0:=hz
     omega
    simp only[sA,sB,seval,g0,g6,hz']
    exact⟨tt,by rw[e]; exact hG,by rw[e]; exact hp,by rw[e]; omega,E⟩
   | some i=>
    have e:b9 s=l++[(i,s.length)]:=by rw[b9,hsp]
    obtain⟨rfl,hi2⟩:=hz
    have hz':(0:Int)<=(i:Int):=om
    obtain⟨s',H2,m2,G2,n2,b2,o2⟩:=hG.push (xs:=[.int .i64 (i:Int),.int .i64 (s.length:Int)]) rfl rfl om (bytes:=16) om om
    have bp:bQ [.int .i64 0,.int .i64 0] [(0,1,.int .i64 (i:Int)),(1,1,.int .i64 (s.length:Int))]=some (.agg [.int .i64 (i:Int),.int .i64 (s.length:Int)]):=rfl
    have bm:=p7 (m:=2) (z:=[.int .i64 0,.int .i64 0]) (xs:=[.int .i64 (i:Int),.int .i64 (s.length:Int)]) H' rfl rfl
    simp only[sA,sB,seval,g0,g6,hz',bp,bm,m2]
    refine⟨tt,by rw[e,uO,lA]; exact G2,?_,by rw[e]; simp; omega,⟨by have:=E.next; omega,fun c hc=>by rw[o2 c (by have:=E.next; omega) (hlo.mono fun d hd=>om)]; exact E.old c hc⟩⟩
    rw[e]
    intro p hpm
    rcases List.mem_append.1 hpm with h | h
    ·exact hp p h
    ·have:p=(i,s.length):=by simpa using h
     rw[this]; exact⟨hi2,Nat.le_refl _⟩
  ·clear hsp hp hl hG hlo hz g0 g6 E T H'
   rintro T H' ⟨g0,hG,hp,hl,E⟩
   generalize hfl:b9 s=l at *
   obtain⟨H1,m1,R1,k1,o1⟩:=rx (H:=H') (z:=.str []) (bytes:=16) (k:=l.length) om om
   have E1:bw H.next H H1:=⟨by have:=E.next; omega,fun c hc=>by rw[o1 _ (by have:=E.next; omega)]; exact E.old c hc⟩
   have hG1:qD 2 0 H1 (T 5) (Cz l) l.length:=hG.same om (hG.blk.mono fun c hc=>o1 c om)
   simp only[sA,sB,seval,g0,hG.len,m1]
   refine bL (fun q (T2:bK) H2=>∃j:Nat,j<=l.length/\q=l.length-j/\T2 0=.str s/\T2 9=jU H'.next l.length (.known l.length)/\T2 47=T 5/\T2 48=.int .i64 (l.length:Int)/\T2 49=.int .i64 (j:Int)/\Row H2 H'.next (bM ((l.take j).map (dL s))++List.replicate (l.length-j) (.str []))/\qD 2 0 H2 (T 5) (Cz l) l.length/\H'.next<H2.next/\bw H.next H H2) l.length
    ⟨0,Nat.zero_le _,rfl,by simp only[sA,sB,seval,g0]; try rfl,by simp only[sA,sB,seval]; try rfl,by simp only[sA,sB,seval]; try rfl,by simp only[sA,sB,seval]; try rfl,by simp only[sA,sB,seval]; try rfl,by simpa[bM] using R1,hG1,om,E1⟩ ?_
   rintro q T2 H2 ⟨j,hj,rfl,f0,f9,f47,f48,f49,hR,hG2,hn2,E2⟩
   have hlen:(bM ((l.take j).map (dL s))++List.replicate (l.length-j) (af.str [])).length=l.length:=by simp[bM]; omega
   by_cases hlt:j<l.length
   ·have hlt':(j:Int)<(l.length:Int):=om
    obtain⟨p,hpj⟩:=aO hlt
    obtain⟨hp1,hp2⟩:=hp p (NH hpj)
    obtain⟨b,lim,a1,a2⟩:=hG2.at hlt
    rw[IX hpj]at a2
    obtain⟨H3,m3,r3,k3,o3⟩:=aP H2 [.int .i64 0,.int .i64 0] (n:=2) rfl
    obtain⟨H4,m4,r4,k4,o4⟩:=bA r3 (n:=2) rfl (xs:=[.int .i64 (p.1:Int),.int .i64 (p.2:Int)]) rfl rfl
    have R4:=hR.same (H':=H4) (by rw[o4 _ om,o3 _ om])
    have hj4:j<(bM ((l.take j).map (dL s))++List.replicate (l.length-j) (af.str [])).length:=om
    obtain⟨H5,m5,r5,k5,o5⟩:=bj R4 hlen hlt (x:=.str (dL s p)) rfl
    have hsl:=wZ (s:=s) hp1 hp2
    simp only[sA,sB,seval,f0,f9,f47,f48,f49,hlt',a1,a2,m3,m4,M8,ib r4 (n:=2) rfl (i:=0) rfl,ib r4 (n:=2) rfl (i:=1) rfl,hsl,li .i64 hlt]
    have m5':bB 1 H4 (ak H'.next l.length j) (.str ((s.drop p.1).take (p.2-p.1)))=some H5:=m5
    simp only[sA,sB,seval,m5',f49,cF j om]
    have hbk:dP (T 5) (·<H'.next):=hG.blk
    refine⟨_,om,j+1,om,rfl,tt,tt,tt,tt,tt,?_,hG2.same om (hbk.mono fun c hc=>by rw[o5 _ om,o4 _ om,o3 _ om]),om,⟨by have:=E2.next; omega,fun c hc=>by rw[o5 _ (by have:=E.next; omega),o4 _ (by have:=E2.next; omega),o3 _ (by have:=E2.next; omega)]; exact E2.old c hc⟩⟩
    have e:(bM ((l.take j).map (dL s))++List.replicate (l.length-j) (af.str [])).set j (.str (dL s p))=bM ((l.take (j+1)).map (dL s))++List.replicate (l.length-(j+1)) (af.str []):=by
     have h1:(bM ((l.take j).map (dL s))).length=j:=by simp[bM]; omega
     have h2:List.replicate (l.length-j) (af.str [])=.str []::List.replicate (l.length-(j+1)) (af.str []):=by
      rw[show l.length-j=(l.length-(j+1))+1 by omega,List.replicate_succ]
     rw[h2]
     have h3:=oY (bM ((l.take j).map (dL s))) (List.replicate (l.length-(j+1)) (af.str [])) (af.str []) (.str (dL s p))
     rw[h1]at h3
     rw[h3,List.take_add_one,hpj]
     simp[bM]
    rw[e]at r5
    exact r5
   ·have hlt':¬(j:Int)<(l.length:Int):=om
    have hj:j=l.length:=om
    subst hj
    rw[List.take_length,Nat.sub_self,List.replicate_zero,List.append_nil]at hR
    simp only[sA,sB,seval,f0,f9,f47,f48,f49,hlt']
    exact⟨⟨H'.next,rfl,hR,E.next,hn2⟩,hl,E2⟩
open Go.Abs Go.Abs.S
theorem Ai(s:Bs){i:Nat}{c:UInt8}(h:s[i]?=some c):(aD s).get! i=c:=by
 obtain⟨hl,he⟩:=NA.1 h
 show s.toArray[i]! = c
 simp[hl,he]
theorem Dp(s:Bs):(aD s).size=s.length:=by simp[aD,ByteArray.size]
theorem EM{s:Bs}{pos r n:Nat}{c:UInt8}(hc:s[pos]?=some c)(h128:128<=c.toNat)(h:Utf8.decode (aD s) pos=(r,n)):128<=r/\∀k,k<n->∃d,s[pos+k]?=some d/\128<=d.toNat:=by
 have hget:∀k,pos+k<(aD s).size->∃d,s[pos+k]?=some d/\(aD s).get! (pos+k)=d:=by
  intro k hk
  rw[Dp]at hk
  obtain⟨d,hd⟩:=aO hk
  exact⟨d,hd,Ai s hd⟩
 have cont:∀k,(decide (pos+k<(aD s).size)&&((aD s).get! (pos+k)).toNat / 64==2)=true->∃d,s[pos+k]?=some d/\128<=d.toNat:=by
  intro k hk
  simp only[NC,NL,beq_iff_eq]at hk
  obtain⟨d,h1,h2⟩:=hget k hk.1
  rw[h2]at hk
  exact⟨d,h1,om⟩
 have zero:∃d,s[pos+0]?=some d/\128<=d.toNat:=⟨c,by rw[Nat.add_zero]; exact hc,h128⟩
 have e0:((aD s).get! (pos+0)).toNat=c.toNat:=by rw[Nat.add_zero,Ai s hc]
 simp only[Utf8.decode,e0,Utf8.runeError]at h
 rw[if_neg om]at h
 have one:∀k,k<1->∃d,s[pos+k]?=some d/\128<=d.toNat:=fun k hk=>by
  obtain rfl:k=0:=om
  exact zero
 split at h
 ·rename_i h1
  simp only[NC]at h1
  split at h <;> simp only[pJ]at h <;> obtain⟨rfl,rfl⟩:=h
  ·refine⟨om,fun k hk=>?_⟩
   obtain rfl | rfl:k=0∨k=1:=om
   ·exact zero
   ·exact cont 1 (by simpa using h1.2)
  ·exact⟨om,one⟩
 split at h
 ·rename_i h1
  simp only[NC]at h1
  split at h <;> simp only[pJ]at h <;> obtain⟨rfl,rfl⟩:=h
  ·rename_i h2
   simp only[NC,NL]at h2
   refine⟨om,fun k hk=>?_⟩
   obtain rfl | rfl | rfl:k=0∨k=1∨k=2:=om
   ·exact zero
   ·exact cont 1 (by simpa using h1.1.2)
   ·exact cont 2 (by simpa using h1.2)
  ·exact⟨om,one⟩
 split at h
 ·rename_i h1
  simp only[NC]at h1
  split at h <;> simp only[pJ]at h <;> obtain⟨rfl,rfl⟩:=h
  ·rename_i h2
   simp only[NC,NL]at h2
   refine⟨om,fun k hk=>?_⟩
   obtain rfl | rfl | rfl | rfl:k=0∨k=1∨k=2∨k=3:=om
   ·exact zero
   ·exact cont 1 (by simpa using h1.1.1.2)
   ·exact cont 2 (by simpa using h1.1.2)
   ·exact cont 3 (by simpa using h1.2)
  ·exact⟨om,one⟩
 ·simp only[pJ]at h
  obtain⟨rfl,rfl⟩:=h
  exact⟨om,one⟩
theorem JU{d:UInt8}(h:128<=d.toNat):bk d=false:=by
 simp only[bk,Bool.or_eq_false_iff,decide_eq_false_iff_not]; omega
theorem Gp{s:Bs}{pos r n:Nat}(h:mt s pos=some (r,n)):(tn r=true/\n=1/\∃c,s[pos]?=some c/\bk c=true)∨(tn r=false/\∀k,k<n->∃d,s[pos+k]?=some d/\bk d=false):=by
 unfold mt at h
 rw[lJ]at h
 split at h <;> first | (simp at h; done) | skip
 rename_i c hc
 cases hb:Nat.ble 128 c.toNat with
 | true=>
  rw[hb]at h
  simp only[cond_true,sJ]at h
  obtain⟨h1,h2⟩:=EM hc (NF hb) h
  refine .inr ⟨by simp only[tn,Bool.or_eq_false_iff,decide_eq_false_iff_not]; omega,fun k hk=>?_⟩
  obtain⟨d,q1,q2⟩:=h2 k hk
  exact⟨d,q1,JU q2⟩
 | false=>
  rw[hb]at h
  simp only[cond_false,sJ,pJ]at h
  obtain⟨rfl,rfl⟩:=h
  have e:tn c.toNat=bk c:=rfl
  cases hs:bk c with
  | true=>exact .inl ⟨by rw[e,hs],rfl,c,hc,hs⟩
  | false=>
   refine .inr ⟨by rw[e,hs],fun k hk=>⟨c,?_,hs⟩⟩
   obtain rfl:k=0:=om
   rw[Nat.add_zero]; exact hc
theorem Am:∀(n:Nat) {s:Bs} {pos:Nat} (cur:Bs),(∀k,k<n->∃d,s[pos+k]?=some d/\bk d=false)->fl cur (s.drop pos)=fl (cur++(s.drop pos).take n) (s.drop (pos+n))
 | 0,s,pos,cur,_=>by rw[List.take_zero,List.append_nil,Nat.add_zero]
 | n+1,s,pos,cur,h=>by
  obtain⟨d,h1,h2⟩:=h 0 om
  rw[Nat.add_zero]at h1
  have ih:=Am n (s:=s) (pos:=pos+1) (cur++[d]) fun k hk=>by
   obtain⟨d,q1,q2⟩:=h (k+1) om
   exact⟨d,by rw[show pos+1+k=pos+(k+1) by omega]; exact q1,q2⟩
  rw[iu h1,fl,if_neg (by rw[h2]; simp),ih,List.take_succ_cons,NM,show pos+1+n=pos+(n+1) by omega]
  rfl
def vT(s:Bs)(pos:Nat):Option Nat->Bs
 | none=>[]
 | some i=>dL s (i,pos)
def He(s:Bs):Option Nat×List (Nat×Nat)->List Bs
 | (some i,l)=>(l++[(i,s.length)]).map (dL s)
 | (none,l)=>l.map (dL s)
theorem BC{s:Bs}{i pos n:Nat}(h:i<=pos):dL s (i,pos)++(s.drop pos).take n=dL s (i,pos+n):=by
 simp only[dL]
 rw[show pos+n-i=(pos-i)+n by omega,List.take_add,List.drop_drop,show i+(pos-i)=pos by omega]
theorem zM{s:Bs}{i pos:Nat}(h:i<pos)(hp:pos<=s.length):dL s (i,pos)≠[]:=fun e=>by
 have:=congrArg List.length e
 simp only[dL,NR,List.length_drop,NE]at this; omega
theorem KO{cur:Bs}(h:cur≠[]):fl cur []=[cur]:=by rw[fl,if_neg h]
theorem KP{cur r:Bs}{c:UInt8}(hb:bk c=true)(h:cur≠[]):fl cur (c::r)=cur::fl [] r:=by rw[fl,if_pos hb,if_neg h]
theorem jp(s:Bs):∀(f pos:Nat) (b:Option Nat) (l:List (Nat×Nat)),s.length+1<=f+pos->pos<=s.length->(∀i,b=some i->i<pos)->He s (hX s f pos b l)=l.map (dL s)++fl (vT s pos b) (s.drop pos)
 | 0,pos,b,l,h,h2,_=>om
 | f+1,pos,b,l,h,hp,hb=>by
  rw[hX]
  cases hr:mt s pos with
  | none=>
   have hl:=rt.1 hr
   have e:s.drop pos=[]:=List.drop_eq_nil_of_le hl
   obtain rfl:pos=s.length:=om
   rw[e]
   cases b with
   | none=>simp only[He,vT,fl,if_true,List.append_nil]
   | some i=>
    have hi:=hb i rfl
    simp only[He,vT,KO (zM hi hp),List.map_append,List.map_cons,List.map_nil]
  | some p=>
   obtain⟨r,n⟩:=p
   obtain⟨hn,hlt⟩:=uQ hr
   rcases Gp hr with⟨hs,rfl,c,hc,hbk⟩ | ⟨hs,hk⟩
   ·simp only[hs,if_true]
    rw[iu hc]
    cases b with
    | none=>
     have ih:=jp s f (pos+1) none l om om (by simp)
     simp only[ih,vT,fl,hbk,if_true]
    | some i=>
     have hi:=hb i rfl
     have ih:=jp s f (pos+1) none (l++[(i,pos)]) om om (by simp)
     simp only[ih,vT,KP hbk (zM hi hp),List.map_append,List.map_cons,List.map_nil,NM,List.cons_append,List.nil_append]
   ·simp only[hs,NK,if_false]
    have hle:pos+n<=s.length:=by
     obtain⟨d,q1,_⟩:=hk (n-1) om
     have:=(NA.1 q1).1
     omega
    rw[Am n _ hk]
    cases b with
    | none=>
     have ih:=jp s f (pos+n) (some pos) l om hle (fun i hi=>by simp only[sJ]at hi; omega)
     simp only[ih,vT,List.nil_append]
     congr 2
     simp only[dL]; rw[show pos+n-pos=n by omega]
    | some i=>
     have hi:=hb i rfl
     have ih:=jp s f (pos+n) (some i) l om hle (fun j hj=>by simp only[sJ]at hj; omega)
     simp only[ih,vT]
     rw[BC om]
theorem rZ(s:Bs):(b9 s).map (dL s)=fl [] s:=by
 have:=jp s (s.length+1) 0 none [] om om (by simp)
 simp only[List.map_nil,List.nil_append,vT,List.drop_zero]at this
 rw[<- this,b9]
 split <;> simp only[*,He]
theorem tL(c:UInt8):∀(s:Bs) (n:Nat),vC c s n=if (s.all fun x=>!decide (x.toNat=c.toNat))=true then -1 else ((n+(s.takeWhile fun x=>!decide (x.toNat=c.toNat)).length:Nat):Int)
 | [],n=>rfl
 | b::s,n=>by
  rw[vC]
  by_cases h:b.toNat=c.toNat
  ·have e:Nat.beq b.toNat c.toNat=true:=by rw[h]; exact Nat.beq_refl _
   simp[e,h]
  ·have e:Nat.beq b.toNat c.toNat=false:=by
    cases hb:Nat.beq b.toNat c.toNat with
    | false=>rfl
    | true=>exact absurd (NG hb) h
   rw[e,cond_false,tL c s (n+1)]
   simp only[List.all_cons,h,decide_false,Bool.not_false,Bool.true_and,List.takeWhile_cons,if_true,ND]
   split
   ·rfl
   ·rw[show n+1+(s.takeWhile fun x=>!decide (x.toNat=c.toNat)).length=n+((s.takeWhile fun x=>!decide (x.toNat=c.toNat)).length+1) by omega]
theorem Eg(c:UInt8){H:ae}{s:Bs}:an Tryz.prog aE 107 [.str s,.int .u8 (c.toNat:Int)] H fun v H'=>v=.int .i64 (vC c s 0)/\H=H':=by
 refine ai rfl HM rfl ?_
 have e:jj .ibs [.str s,.int .u8 (c.toNat:Int)]=some (.int .i64 (vC c s 0)):=by
  show some (af.int .i64 (vC (c.toNat).toUInt8 s 0))=_
  rw[show (c.toNat).toUInt8=c from UInt8.ofNat_toNat]
 simp only[JO,sA,sB,seval,e]
 exact⟨tt,tt⟩
theorem vB(c:UInt8){H:ae}{s:Bs}:an Tryz.prog aE 99 [.str s,.str [c]] H fun v H'=>v=.int .i64 (vC c s 0)/\H=H':=by
 refine ai rfl Kl rfl ?_
 have i0:iC (.str [c]) (.int .i64 0)=some (.int .u8 (c.toNat:Int)):=rfl
 have hl1:((List.length [c]:Nat):Int)=1:=rfl
 by_cases hs:[c]=s
 ·subst hs
  have e:vC c [c] 0=0:=by rw[tL]; simp
  rw[e]
  simp only[KX,sA,sB,seval,hl1]
  exact⟨tt,tt⟩
 ·simp only[KX,sA,sB,seval,hl1,hs,i0]
  refine (Eg c).mono ?_
  rintro v _ ⟨rfl,rfl⟩
  simp only[sA,sB,seval]
  exact⟨tt,tt⟩
theorem vj{s:Bs}(hs:s.length<=1000000){H:ae}:an Tryz.prog aE 22 [.str s] H fun v H'=>(∃b,v=jU b (jl s).length (.known (jl s).length)/\Row H' b (bM (jl s))/\H.next<=b/\b<H'.next)/\bw H.next H H':=by
 refine ai rfl MR rfl ?_
 simp only[c22,sA,sB,seval]
 have hcut:∀{K:af->ae->Prop},(∀a b,K (.tuple [.str (s.takeWhile mE),a,b]) H)->an Tryz.prog aE 62 [.str s,.str [35]] H K:=by
  intro K hK
  refine ai rfl Kn rfl ?_
  simp only[Ng,sA,sB,seval]
  refine ai rfl Km rfl ?_
  simp only[Nc,sA,sB,seval]
  refine (vB 35).mono ?_
  rintro v _ ⟨rfl,rfl⟩
  have hl1:((List.length [(35:UInt8)]:Nat):Int)=1:=rfl
  have en:(fun x:UInt8=>!decide (x.toNat=(35:UInt8).toNat))=mE:=rfl
  rw[tL,en]
  by_cases ha:s.all mE=true
  ·have e:s.takeWhile mE=s:=by
    have:=uJ (l:=s) (r:=[]) (fun c hc=>List.all_eq_true.1 ha c hc) (.inl rfl)
    rwa [List.append_nil]at this
   have hK:=hK
   rw[e]at hK
   rw[if_pos ha]
   have c1:¬(0:Int)<=-1:=om
   simp only[sA,sB,seval,c1,bT,bS,fB]
   exact hK _ _
  ·rw[if_neg ha]
   have hlt:(s.takeWhile mE).length<s.length:=by
    rcases Nat.lt_or_ge (s.takeWhile mE).length s.length with h | h
    ·exact h
    ·exfalso
     apply ha
     have e:s.takeWhile mE=s:=(List.takeWhile_prefix mE).eq_of_length_le h
     rw[<- e]
     exact List.all_takeWhile
   have et:s.take (0+(s.takeWhile mE).length)=s.takeWhile mE:=by rw[Nat.zero_add]; exact (List.prefix_iff_eq_take.1 (List.takeWhile_prefix mE)).symm
   have c1:(0:Int)<=((0+(s.takeWhile mE).length:Nat):Int):=om
   have s1:=nY (s:=s) (h:=0+(s.takeWhile mE).length) om
   have s2:=nX (s:=s) (l:=0+(s.takeWhile mE).length+1) om
   have w:=cF (0+(s.takeWhile mE).length) om
   rw[et]at s1
   simp only[sA,sB,seval,c1,s1,hl1,w,s2,bT,bS,fB]
   exact hK _ _
 refine hcut fun a b=>?_
 simp only[sA,sB,seval,bT,bS,fB]
 have hlt:(s.takeWhile mE).length<=s.length:=(List.takeWhile_prefix mE).length_le
 refine (G8 (s.takeWhile mE) om).mono ?_
 rintro v H1 ⟨⟨b,rfl,r1,n1,n2⟩,_,e1⟩
 rw[rZ]at r1
 have hl:(b9 (s.takeWhile mE)).length=(jl s).length:=by
  have:=congrArg List.length (rZ (s.takeWhile mE))
  rw[List.length_map]at this
  exact this
 simp only[sA,sB,seval]
 rw[hl]
 exact⟨⟨b,rfl,r1,n1,n2⟩,e1⟩
open Go.Abs Go.Abs.S
def Jf(x:UInt8):Bool:=!decide (x.toNat=10)
theorem xi:∀(s cur:Bs),sp cur s=match sp [] s with | []=>[] | a::l=>(cur++a)::l
 | [],cur=>by simp only[sp,List.append_nil]
 | c::s,cur=>by
  by_cases h:c.toNat=10
  ·simp only[sp,if_pos h,List.append_nil]
  ·rw[sp,if_neg h,xi s (cur++[c]),sp,if_neg h,xi s ([]++[c])]
   cases sp [] s with
   | nil=>rfl
   | cons a l=>simp
theorem tl:∀(s cur:Bs),(sp cur s).length=s.count 10+1
 | [],cur=>rfl
 | c::s,cur=>by
  by_cases h:c.toNat=10
  ·have:c=10:=UInt8.toNat_inj.1 h
   subst this
   rw[sp,if_pos h,ND,tl s [],List.count_cons_self]
  ·rw[sp,if_neg h,tl s _,List.count_cons_of_ne (fun e=>h (by rw[e]; rfl))]
theorem IW{s:Bs}(h:s.count 10=0)(cur:Bs):sp cur s=[cur++s]:=by
 have hne:∀c∈s,c.toNat≠10:=fun c hc e=>by
  have:c=10:=UInt8.toNat_inj.1 e
  subst this
  exact absurd hc (List.count_eq_zero.1 h)
 induction s generalizing cur with
 | nil=>simp[sp]
 | cons c s ih=>
  have hc:=hne c (by simp)
  rw[sp,if_neg hc,ih (by rw[List.count_cons_of_ne (fun e=>hc (by rw[e]; rfl))]at h; exact h) _ (fun d hd=>hne d (by simp[hd]))]
  simp
theorem Dj:∀{s:Bs},0<s.count 10->∃k,(s.takeWhile Jf).length=k/\k+1<=s.length/\s.all Jf=false/\sp [] s=s.take k::sp [] (s.drop (k+1))/\s.count 10=(s.drop (k+1)).count 10+1
 | [],h=>by simp at h
 | c::s,h=>by
  by_cases hc:c.toNat=10
  ·have:c=10:=UInt8.toNat_inj.1 hc
   subst this
   refine⟨0,by simp[Jf],by simp,by simp[Jf],?_,by simp⟩
   rw[sp,if_pos hc]; rfl
  ·have hn:Jf c=true:=by simp[Jf,hc]
   have hcc:(c::s).count 10=s.count 10:=List.count_cons_of_ne (fun e=>hc (by rw[e]; rfl))
   rw[hcc]at h ⊢
   obtain⟨k,h1,h2,h3,h4,h5⟩:=Dj h
   refine⟨k+1,by rw[List.takeWhile_cons_of_pos hn,ND,h1],by simp; omega,by rw[List.all_cons,h3,Bool.and_false],?_,by simpa using h5⟩
   rw[sp,if_neg hc,xi,h4]
   simp
def WK(b:Nat)(H:ae)(v:af)(ws:List Bs):Prop:=∃a c,v=.slice (some a) ws.length (.known c)/\ws.length<=c/\a.b=b/\aT H a ws.length=some (bM ws)
theorem WK.wl{b:Nat}{H:ae}{v:af}{ws:List Bs}(h:WK b H v ws):Wl (·=b) H v ws:=by
 obtain⟨a,c,rfl,_,hb,hr⟩:=h
 exact .inr ⟨a,_,rfl,hb,by rw[Nat.one_mul]; exact hr⟩
theorem WK.row{b n:Nat}{H:ae}{ws:List Bs}(h:Row H b (bM ws))(hn:ws.length=n):WK b H (jU b n (.known n)) ws:=by
 subst hn
 obtain⟨low,h1,h2⟩:=h
 rw[dS]at h2
 refine⟨⟨b,ws.length,0⟩,ws.length,rfl,Nat.le_refl _,rfl,?_⟩
 have:=ew h1 (by rw[dS]; exact h2)
 rw[dS]at this
 exact this
theorem WK.same{b:Nat}{H H':ae}{v:af}{ws:List Bs}(h:WK b H v ws)(e:H'.get b=H.get b):WK b H' v ws:=by
 obtain⟨a,c,h1,h2,rfl,hr⟩:=h
 exact⟨a,c,h1,h2,rfl,by rw[uV e]; exact hr⟩
theorem rq{a:Ad}{k c lo hi:Nat}{lo' hi':Option af}(e:iD k c lo' hi' none=some (lo,hi,none)):FG 1 (.slice (some a) k (.known c)) lo' hi' none=some (bif Nat.beq c lo then .slice (some a) (hi-lo) (.known (c-lo)) else .slice (some ⟨a.b,a.lim,a.o+lo⟩) (hi-lo) (.known (c-lo))):=by
 simp only[FG,e,Option.getD_none,Nat.mul_one]
 cases Nat.beq c lo <;> rfl
theorem WK.sub{b:Nat}{H:ae}{v:af}{ws:List Bs}(h:WK b H v ws){lo hi:Nat}{lo' hi':Option af}(h1:lo<=hi)(h2:hi<=ws.length)(e:∀k c,k=ws.length->k<=c->iD k c lo' hi' none=some (lo,hi,none)):∃v',FG 1 v lo' hi' none=some v'/\WK b H v' ((ws.drop lo).take (hi-lo)):=by
 obtain⟨a,c,rfl,hc,rfl,hr⟩:=h
 have hl:((ws.drop lo).take (hi-lo)).length=hi-lo:=by rw[NR,List.length_drop]; omega
 refine⟨_,rq (e _ c rfl hc),?_⟩
 cases hb:Nat.beq c lo with
 | true=>
  have:=NG hb
  obtain rfl:hi=lo:=om
  refine⟨a,c-hi,by rw[hl]; rfl,by rw[hl]; omega,rfl,?_⟩
  rw[hl,Nat.sub_self]
  exact I9 hr (Nat.zero_le _)
 | false=>
  refine⟨⟨a.b,a.lim,a.o+lo⟩,c-lo,by rw[hl]; rfl,by rw[hl]; omega,rfl,?_⟩
  rw[hl]
  have:=zG hr (i:=lo) (j:=hi-lo) om
  rw[this]
  simp only[bM,List.map_take,List.map_drop]
theorem JS{lo k c:Nat}(h:lo<=k):iD k c (some (.int .i64 (lo:Int))) none none=some (lo,k,none):=by
 have:bd (.int .i64 (lo:Int)) k=some lo:=ja h
 simp only[iD,Ci,this]
theorem Fb{hi k c:Nat}(h:hi<=c):iD k c none (some (.int .i64 (hi:Int))) none=some (0,hi,none):=by
 have:bd (.int .i64 (hi:Int)) c=some hi:=ja h
 simp only[iD,Ci,this]
theorem wf{lo hi k c:Nat}(h:lo<=hi)(h2:hi<=c):iD k c (some (.int .i64 (lo:Int))) (some (.int .i64 (hi:Int))) none=some (lo,hi,none):=by
 have e1:bd (.int .i64 (hi:Int)) c=some hi:=ja h2
 have e2:bd (.int .i64 (lo:Int)) hi=some lo:=ja h
 simp only[iD,Ci,e1,e2]
theorem IY{b n:Nat}(hn:0<n):FG 1 (jU b n (.known n)) none (some (.int .i64 (n:Int))) none=some (jU b n (.known n)):=by
 have hb:Nat.beq n 0=false:=by cases n with | zero=>omega | succ n=>rfl
 rw[jU,rq (Fb rL),hb]
 rfl
set_option maxRecDepth 20000 in
theorem xf{s:Bs}(hs:s.length<=1000000){H:ae}:an Tryz.prog aE 21 [.str s,.str [10]] H fun v H'=>(∃b,v=jU b (sp [] s).length (.known (sp [] s).length)/\Row H' b (bM (sp [] s))/\H.next<=b/\b<H'.next)/\bw H.next H H':=by
 refine ai rfl MS rfl ?_
 simp only[c21,sA,sB,seval]
 have hcl:s.count 10<=s.length:=List.count_le_length
 obtain⟨n,hn⟩:∃n,n=s.count 10+1:=⟨_,rfl⟩
 have hsl:(sp [] s).length=n:=by rw[tl,hn]
 rw[hsl]
 obtain⟨H1,m1,r1,n1,k1⟩:=rx (H:=H) (z:=.str []) (bytes:=16) (k:=n) om om
 have e1:=dJ n1 k1
 have key:an Tryz.prog aE 61 [.str s,.str [10],.int .i64 0,.int .i64 (Int.negSucc 0)] H fun v H'=>(∃b,v=jU b n (.known n)/\Row H' b (bM (sp [] s))/\H.next<=b/\b<H'.next)/\bw H.next H H':=by
  refine ai rfl Mi rfl ?_
  have a1:¬(Int.negSucc 0)=0:=om
  have a2:(Int.negSucc 0)<0:=om
  have w1:IntKind.i64.wrap ((s.count 10:Int)+1)=(n:Int):=by rw[hn]; exact cF _ om
  have w2:=cF s.length om
  have hmin:(if ((s.length+1:Nat):Int)<(n:Int) then ((s.length+1:Nat):Int) else (n:Int))=(n:Int):=if_neg om
  have w3:IntKind.i64.wrap ((n:Int)-1)=((n-1:Nat):Int):=by rw[aR om om]; omega
  simp only[c61,sA,sB,seval,a1,a2]
  refine (yo rfl s).mono ?_
  rintro _ _ ⟨rfl,rfl⟩
  simp only[sA,sB,seval,w1,w2,xB,hmin,m1,w3]
  refine ft (fun (T:bK) H'=>∃(s':Bs) (L:List Bs),T 0=.str s'/\T 9=jU H.next n (.known n)/\T 10=.int .i64 ((n-1:Nat):Int)/\s'.count 10=0/\sp [] s=L++sp [] s'/\L.length=n-1/\Row H' H.next (bM L++List.replicate 1 (.str []))/\bw H.next H H'/\H.next<H'.next) (bP _ _) ?_ ?_
  ·refine bL (fun m (T:bK) H'=>∃(i:Nat) (s':Bs) (L:List Bs),m=n-i/\i+1+s'.count 10=n/\s'.length<=s.length/\T 0=.str s'/\T 1=.str [10]/\T 2=.int .i64 0/\T 3=.int .i64 ((n-1:Nat):Int)/\T 9=jU H.next n (.known n)/\T 10=.int .i64 (i:Int)/\sp [] s=L++sp [] s'/\L.length=i/\Row H' H.next (bM L++List.replicate (n-i) (.str []))/\bw H.next H H'/\H.next<H'.next) n
    ⟨0,s,[],om,om,om,by simp only[sA,sB,seval],by simp only[sA,sB,seval],by simp only[sA,sB,seval],by simp only[sA,sB,seval],by simp only[sA,sB,seval],by simp only[sA,sB,seval],rfl,rfl,by simpa[bM] using r1,e1,om⟩ ?_
   rintro m T H2 ⟨i,s',L,rfl,hi,hsl',g0,g1,g2,g3,g9,g10,hsp,hL,r2,e2,hn2⟩
   by_cases hlt:i<n-1
   ·have hlt':(i:Int)<((n-1:Nat):Int):=om
    obtain⟨k,q1,q2,q3,q4,q5⟩:=Dj (s:=s') om
    simp only[sA,sB,seval,g0,g1,g2,g3,g9,g10,hlt']
    refine ai rfl LS rfl ?_
    simp only[c84,sA,sB,seval]
    refine (vB 10).mono ?_
    rintro _ _ ⟨rfl,rfl⟩
    have en:(fun x:UInt8=>!decide (x.toNat=(10:UInt8).toNat))=Jf:=rfl
    rw[tL,en,q3,if_neg (by simp),q1,Nat.zero_add]
    have c1:¬((k:Nat):Int)<0:=om
    have w4:IntKind.i64.wrap ((k:Int)+0)=(k:Int):=by rw[aR om om]; omega
    have s1:=nY (s:=s') (h:=k) om
    have s2:=nX (s:=s') (l:=k+1) q2
    have hl1:((List.length [(10:UInt8)]:Nat):Int)=1:=rfl
    have w5:=cF k om
    have w6:=cF i om
    have hlen:(bM L++List.replicate (n-i) (af.str [])).length=n:=by simp[dS,hL]; omega
    obtain⟨H3,m3,r3,n3,k3⟩:=bj r2 hlen (i:=i) om (x:=.str (s'.take k)) rfl
    have er:(bM L++List.replicate (n-i) (af.str [])).set i (.str (s'.take k))=bM (L++[s'.take k])++List.replicate (n-(i+1)) (af.str []):=by
     have h1:(bM L).length=i:=by rw[dS,hL]
     have h2:List.replicate (n-i) (af.str [])=.str []::List.replicate (n-(i+1)) (af.str []):=by
      rw[show n-i=(n-(i+1))+1 by omega,List.replicate_succ]
     have h3:=oY (bM L) (List.replicate (n-(i+1)) (af.str [])) (af.str []) (.str (s'.take k))
     rw[h1]at h3
     rw[h2,h3,ri]
     simp
    rw[er]at r3
    simp only[sA,sB,seval,g0,g1,g2,g3,g9,g10,c1,w4,s1,li .i64 (show i<n by omega),m3,hl1,w5,s2,w6]
    refine⟨_,om,i+1,s'.drop (k+1),L++[s'.take k],rfl,om,by rw[List.length_drop]; omega,tt,tt,tt,tt,tt,tt,by rw[hsp,q4]; simp,by rw[lA,hL]; rfl,r3,⟨by have:=e2.next; omega,fun c hc=>by rw[k3 c om]; exact e2.old c hc⟩,om⟩
   ·have hlt':¬(i:Int)<((n-1:Nat):Int):=om
    obtain rfl:i=n-1:=om
    simp only[sA,sB,seval,g3,g10,hlt']
    exact⟨s',L,g0,g9,tt,om,hsp,hL,by rw[show n-(n-1)=1 by omega]at r2; exact r2,e2,hn2⟩
  ·rintro T H2 ⟨s',L,g0,g9,g10,hz,hsp,hL,r2,e2,hn2⟩
   have hlen:(bM L++List.replicate 1 (af.str [])).length=n:=by simp[dS,hL]; omega
   obtain⟨H3,m3,r3,n3,k3⟩:=bj r2 hlen (i:=n-1) om (x:=.str s') rfl
   have er:(bM L++List.replicate 1 (af.str [])).set (n-1) (.str s')=bM (sp [] s):=by
    have h1:(bM L).length=n-1:=by rw[dS,hL]
    have h3:=oY (bM L) [] (af.str []) (.str s')
    rw[h1]at h3
    rw[show List.replicate 1 (af.str [])=[af.str []] from rfl,h3,hsp,IW hz,List.nil_append,ri]
   rw[er]at r3
   have w7:IntKind.i64.wrap (((n-1:Nat):Int)+1)=(n:Int):=by rw[aR om om]; omega
   have sl:FG 1 (jU H.next n (.known n)) none (some (.int .i64 (n:Int))) none=some (jU H.next n (.known n)):=by
    exact IY om
   simp only[sA,sB,seval,g0,g9,g10,li .i64 (show n-1<n by omega),m3,w7,sl]
   exact⟨⟨H.next,rfl,r3,Nat.le_refl _,om⟩,⟨by have:=e2.next; omega,fun c hc=>by rw[k3 c om]; exact e2.old c hc⟩⟩
 refine key.mono ?_
 rintro v H' h
 simp only[sA,sB,seval]
 exact h
open Go.Abs Go.Abs.S
theorem jY(k:Bs):∀(es:List fP) (j:Nat),(∀e∈es,∃s,e.1=.str s) ->
  (∃i e,e∈es/\e.1=.str k/\bR .str (.str k) es j=some (some (j+i,e))/\∀x n,bR .str (.str k) (jA es i (.str k,x,n)) j=some (some (j+i,(.str k,x,n))))∨((∀e∈es,e.1≠.str k)/\bR .str (.str k) es j=some none)
 | [],j,_=>.inr ⟨by simp,rfl⟩
 | e::r,j,h=>by
  obtain⟨s,hs⟩:=h e (by simp)
  by_cases hk:k=s
  ·subst hk
   refine .inl ⟨0,e,by simp,hs,?_,fun x n=>?_⟩
   ·simp[bR,hs,qC]
   ·simp[jA,bR,qC]
  ·have hq:qC .str (.str k) e.1=some false:=by rw[hs]; simp[qC,hk]
   rcases jY k r (j+1) (fun e' he=>h e' (by simp[he])) with⟨i,e',h1,h2,h3,h4⟩ | ⟨h1,h2⟩
   ·refine .inl ⟨i+1,e',by simp[h1],h2,?_,fun x n=>?_⟩
    ·simp only[bR,hq,h3]; rw[show j+1+i=j+(i+1) by omega]
    ·simp only[jA,bR,hq,h4]; rw[show j+1+i=j+(i+1) by omega]
   ·refine .inr ⟨fun e' he=>?_,?_⟩
    ·rcases List.mem_cons.1 he with rfl | he
     ·rw[hs]; intro e'; simp only[af.str.injEq]at e'; exact hk e'.symm
     ·exact h1 e' he
    ·simp only[bR,hq,h2]
structure qv(es:List fP)(l:List Nat):Prop where
 mem:∀e∈es,∃i,i<9/\e.1=.str (eK i)/\i∈l/\e.2.1=.int .i64 1
 has:∀i∈l,∃e∈es,e.1=.str (eK i)
theorem CL{i j:Nat}(hi:i<9)(hj:j<9)(h:eK i=eK j):i=j:=by
 have:∀i j:Fin 9,eK i.1=eK j.1->i.1=j.1:=by decide
 exact this ⟨i,hi⟩ ⟨j,hj⟩ h
structure fy(F:Nat->Prop)(H:ae)(rb mb:Nat)(ps:PS)(vm vb vu:af):Prop where
 row:Row H rb (fH ps.1 vm vb vu++[.map (some mb)])
 am:dq 6 0 H vm (ps.1.ms.flatMap jh) ps.1.ms.length
 ab:dq 5 0 H vb (ps.1.bs.flatMap rB) ps.1.bs.length
 au:dq 5 0 H vu (ps.1.us.flatMap wR) ps.1.us.length
 fm:dP vm fun c=>¬F c/\c≠rb/\c≠mb
 fb:dP vb fun c=>¬F c/\c≠rb/\c≠mb
 fu:dP vu fun c=>¬F c/\c≠rb/\c≠mb
 d1:FZ vm vb
 d2:FZ vm vu
 d3:FZ vb vu
 rn:rb<H.next
 mn:mb<H.next
 ne:rb≠mb
 nr:¬F rb
 nm:¬F mb
 fn:∀c,F c->c<H.next
 seen:∃es n,H.get mb=some (.map es n)/\qv es ps.2
structure Fx(F:Nat->Prop)(H H':ae):Prop where
 next:H.next<=H'.next
 old:∀c,F c->H'.get c=H.get c
theorem Fx.refl(F:Nat->Prop)(H:ae):Fx F H H:=⟨Nat.le_refl _,fun _ _=>rfl⟩
theorem Fx.trans{F:Nat->Prop}{H H' H2:ae}(a:Fx F H H')(b:Fx F H' H2):Fx F H H2:=⟨Nat.le_trans a.next b.next,fun c h=>(b.old c h).trans (a.old c h)⟩
section
variable {F:Nat->Prop} {H H':ae} {rb mb:Nat} {ps:PS} {vm vb vu:af}
theorem fy.fx(S:fy F H rb mb ps vm vb vu)(f:Fp rb H H'):Fx F H H':=⟨f.next,fun c hc=>f.old c (S.fn c hc) (fun e=>S.nr (e ▸ hc))⟩
theorem dc(S:fy F H rb mb ps vm vb vu)(e:bw H.next H H'):Fx F H H':=⟨e.next,fun c hc=>e.old c (S.fn c hc)⟩
theorem fy.hd(S:fy F H rb mb ps vm vb vu)(f:Fp rb H H'){s:Sc}(hm:s.ms=ps.1.ms)(hb:s.bs=ps.1.bs)(hu:s.us=ps.1.us)(r:Row H' rb (fH s vm vb vu++[.map (some mb)])):fy F H' rb mb (s,ps.2) vm vb vu:=by
 have hk:∀{v:af},dP v (·<H.next)->dP v (fun c=>¬F c/\c≠rb/\c≠mb)->dP v fun c=>H'.get c=H.get c:=fun h1 h2 a m q e=>f.old _ (h1 a m q e) (h2 a m q e).2.1
 obtain⟨es,n,h1,h2⟩:=S.seen
 exact⟨r,by simp only[hm]; exact S.am.same f.next (hk S.am.blk' S.fm),by simp only[hb]; exact S.ab.same f.next (hk S.ab.blk' S.fb),by simp only[hu]; exact S.au.same f.next (hk S.au.blk' S.fu),S.fm,S.fb,S.fu,S.d1,S.d2,S.d3,NN S.rn f.next,NN S.mn f.next,S.ne,S.nr,S.nm,fun c hc=>NN (S.fn c hc) f.next,es,n,by rw[f.old _ S.mn S.ne.symm]; exact h1,h2⟩
theorem fy.ext(S:fy F H rb mb ps vm vb vu)(e:bw H.next H H'):fy F H' rb mb ps vm vb vu:=
 S.hd (Fp.of_ext e) rfl rfl rfl (S.row.up e S.rn)
theorem fy.len(S:fy F H rb mb ps vm vb vu):(fH ps.1 vm vb vu++[af.map (some mb)]).length=22:=rfl
end
def gu(F:Nat->Prop)(H:ae)(rb mb:Nat)(seen:List Nat)(o:Option Sc)(v:af)(H':ae):Prop:=
 Fx F H H'/\((∃s vm vb vu,o=some s/\v=.bool true/\fy F H' rb mb (s,seen) vm vb vu)∨(o=none/\v=.bool false))
structure nT(rb mb:Nat)(H:ae)(v:af)(ws:List Bs):Prop where
 wk:∃b,WK b H v ws/\b<H.next/\b≠rb/\b≠mb
 len:∀w∈ws,w.length<=1000000
theorem nT.big{rb mb:Nat}{H:ae}{v:af}{ws:List Bs}(h:nT rb mb H v ws):∀w∈ws,w.length<=4611686018427387904:=fun w hw=>by have:=h.len w hw; omega
section
variable {F:Nat->Prop} {H:ae} {rb mb sb:Nat} {ps:PS} {vm vb vu vl:af} {ws:List Bs}
theorem CF{wb:Nat}(h:WK wb H vl ws){H':ae}(f:Fp rb H H')(h1:wb<H.next)(h2:wb≠rb):Wl (·=wb) H' vl ws:=(h.same (f.old _ h1 h2)).wl
theorem KU{lo hi:Nat}{ns:List Int}(hl:ws.length=2)(h:eH (fk lo hi) ws=some ns):∃a b x y,ws=[a,b]/\ns=[x,y]/\fk lo hi a=some x/\fk lo hi b=some y:=by
 obtain⟨a,b,rfl⟩:∃a b,ws=[a,b]:=by
  rcases ws with _ | ⟨a,_ | ⟨b,_ | ⟨c,r⟩⟩⟩ <;> simp at hl
  exact⟨a,b,rfl⟩
 simp only[eH]at h
 split at h <;> first | (simp at h; done) | skip
 rename_i x hx
 split at h <;> first | (simp at h; done) | skip
 rename_i y hy
 simp only[Option.map_some,sJ]at h
 subst h
 exact⟨a,b,x,y,rfl,rfl,hx,hy⟩
theorem Ix{f:Bs->Option Int}{ns:List Int}(hl:ws.length=1)(h:eH f ws=some ns):∃a x,ws=[a]/\ns=[x]/\f a=some x:=by
 obtain⟨a,rfl⟩:∃a,ws=[a]:=by
  rcases ws with _ | ⟨a,_ | ⟨b,r⟩⟩ <;> simp at hl
  exact⟨a,rfl⟩
 simp only[eH]at h
 split at h <;> first | (simp at h; done) | skip
 rename_i x hx
 simp only[Option.map_some,sJ]at h
 subst h
 exact⟨a,x,rfl,rfl,hx⟩
theorem EP{f:Bs->Option Int}{α:Type}{g:Int->α}(h:ws.length=1->eH f ws=none):(match ws with | [a]=>(f a).map g | _=>none)=none:=by
 rcases ws with _ | ⟨a,_ | ⟨b,r⟩⟩
 ·rfl
 ·have:=h rfl
  simp only[eH]at this
  split at this
  ·rename_i hx; simp only[hx,Option.map_none]
  ·simp at this
 ·rfl
theorem CX(S:fy F H rb mb ps vm vb vu)(W:nT rb mb H vl ws)(B:Row H sb [ak rb 22 0]):an Tryz.prog aE 40 [vl,ak sb 1 0] H (gu F H rb mb ps.2 (cS 0 ps.1 ws)):=by
 refine ai rfl ME rfl ?_
 obtain⟨wb,hw,w1,w2,w3⟩:=W.wk
 have l0:=ap 1 0 B rfl rfl
 simp only[c40,sA,sB,seval,l0,aG,aF,Hm]
 have f0:=lR rb H (.cells [ak rb 22 0,ak rb 22 1] 0 false)
 have ht:=lB (H:=H) (b:=rb) (n:=22) (o:=0) (k:=2) [ak rb 22 0,ak rb 22 1] rfl
 refine (nH (lo:=1) (hi:=1024) (Q:=(·=H.next)) (CF hw f0 w1 w2) (fun c hc=>by subst hc; exact⟨by rw[aN]; omega,w2⟩) ht (fun c hc=>⟨by rw[aN]; omega,by have:=S.rn; omega⟩) (S.row.same (aS S.rn)) S.len om W.big (by rw[aN]; have:=S.rn; omega) om om).mono ?_
 rintro v H' ⟨f,C',r',hC',h⟩
 have f:=f0.trans f
 simp only[sA,sB,seval]
 refine⟨S.fx f,?_⟩
 rcases h with⟨rfl,h1,ns,h2,rfl⟩ | ⟨rfl,h1⟩
 ·obtain⟨a,b,x,y,rfl,rfl,hx,hy⟩:=KU h1 h2
  exact .inl ⟨_,vm,vb,vu,by simp only[cS,hx,hy],rfl,S.hd f (s:={ ps.1 with w:=x,h:=y }) rfl rfl rfl r'⟩
 ·refine .inr ⟨?_,rfl⟩
  simp only[cS]
  split
  ·rename_i a b
   have:=h1 rfl
   simp only[eH]at this
   split at this
   ·rename_i hx; simp only[hx]
   ·rename_i x hx
    simp only[hx]
    split at this
    ·rename_i hy; simp only[hy]
    ·simp at this
  ·rfl
theorem uA{f:Nat}{o lo hi:Nat}{c:bW}(S:fy F H rb mb ps vm vb vu)(W:nT rb mb H vl ws)(ho:o<18)(hhi:hi<=1000000){g:Int->Sc}(hg:∀x,(g x).ms=ps.1.ms/\(g x).bs=ps.1.bs/\(g x).us=ps.1.us/\lw (fH ps.1 vm vb vu++[.map (some mb)]) o [x]=fH (g x) vm vb vu++[.map (some mb)]){K:af->ae->Prop}
  (hK:∀v H',gu F H rb mb ps.2 (match ws with | [a]=>(fk lo hi a).map g | _=>none) v H'->K v H') :
  an Tryz.prog aE 41 [vl,.int .u64 (lo:Int),.int .u64 (hi:Int),jU H.next 1 (.known 1)] (H.push (.cells [ak rb 22 o] 0 false)) K:=by
 obtain⟨wb,hw,w1,w2,w3⟩:=W.wk
 have f0:=lR rb H (.cells [ak rb 22 o] 0 false)
 have ht:=lB (H:=H) (b:=rb) (n:=22) (o:=o) (k:=1) [ak rb 22 o] rfl
 refine (nH (lo:=lo) (hi:=hi) (Q:=(·=H.next)) (CF hw f0 w1 w2) (fun c hc=>by subst hc; exact⟨by rw[aN]; omega,w2⟩) ht (fun c hc=>⟨by rw[aN]; omega,by have:=S.rn; omega⟩) (S.row.same (aS S.rn)) S.len om W.big (by rw[aN]; have:=S.rn; omega) om hhi).mono ?_
 rintro v H' ⟨f,C',r',hC',h⟩
 have f:=f0.trans f
 refine hK _ _ ⟨S.fx f,?_⟩
 rcases h with⟨rfl,h1,ns,h2,rfl⟩ | ⟨rfl,h1⟩
 ·obtain⟨a,x,rfl,rfl,hx⟩:=Ix h1 h2
  obtain⟨g1,g2,g3,g4⟩:=hg x
  exact .inl ⟨_,vm,vb,vu,by simp only[hx,Option.map_some],rfl,S.hd f g1 g2 g3 (by rw[<- g4]; exact r')⟩
 ·exact .inr ⟨EP h1,rfl⟩
theorem CW(S:fy F H rb mb ps vm vb vu)(W:nT rb mb H vl ws)(B:Row H sb [ak rb 22 0]):an Tryz.prog aE 42 [vl,ak sb 1 0] H (gu F H rb mb ps.2 (cS 1 ps.1 ws)):=by
 refine ai rfl MC rfl ?_
 have l0:=ap 1 0 B rfl rfl
 simp only[Nn,sA,sB,seval,l0,aG,aF,ub]
 refine uA (f:=0) (c:=Nn) (lo:=1) (hi:=64) (o:=2) S W om om (g:=fun x=>{ ps.1 with sm:=x }) (fun x=>⟨rfl,rfl,rfl,rfl⟩) fun v H' h=>?_
 simp only[sA,sB,seval]
 exact h
theorem CV(S:fy F H rb mb ps vm vb vu)(W:nT rb mb H vl ws)(B:Row H sb [ak rb 22 0]):an Tryz.prog aE 43 [vl,ak sb 1 0] H (gu F H rb mb ps.2 (cS 2 ps.1 ws)):=by
 refine ai rfl MB rfl ?_
 have l0:=ap 1 0 B rfl rfl
 simp only[Nl,sA,sB,seval,l0,aG,aF,ub]
 refine uA (f:=0) (c:=Nl) (lo:=0) (hi:=8) (o:=3) S W om om (g:=fun x=>{ ps.1 with bo:=x }) (fun x=>⟨rfl,rfl,rfl,rfl⟩) fun v H' h=>?_
 simp only[sA,sB,seval]
 exact h
theorem CU(S:fy F H rb mb ps vm vb vu)(W:nT rb mb H vl ws)(B:Row H sb [ak rb 22 0]):an Tryz.prog aE 44 [vl,ak sb 1 0] H (gu F H rb mb ps.2 (cS 3 ps.1 ws)):=by
 refine ai rfl MA rfl ?_
 obtain⟨wb,hw,w1,w2,w3⟩:=W.wk
 have l0:=ap 1 0 B rfl rfl
 simp only[c44,sA,sB,seval,l0,aG,aF]
 refine (Bx (b:=rb) (n:=22) (o:=4) hw.wl (fun c hc=>by subst hc; exact⟨w1,w2⟩) S.row S.len om W.big).mono ?_
 rintro v H' ⟨f,C',r',hC',h⟩
 simp only[sA,sB,seval]
 refine⟨S.fx f,?_⟩
 rcases h with⟨x,h1,rfl,rfl⟩ | ⟨h1,rfl⟩
 ·refine .inl ⟨_,vm,vb,vu,?_,rfl,S.hd f (s:={ ps.1 with seed:=x }) rfl rfl rfl r'⟩
  simp only[cS]
  unfold oZ at h1
  split at h1 <;> first | (simp at h1; done) | skip
  rename_i a
  simp only
  split at h1 <;> first | (simp at h1; done) | skip
  split at h1 <;> first | (simp at h1; done) | skip
  simp only[sJ]at h1
  subst h1
  simp only[*,if_true]
 ·refine .inr ⟨?_,rfl⟩
  simp only[cS]
  unfold oZ at h1
  split
  ·simp only at h1
   split at h1
   ·split at h1
    ·simp at h1
    ·rename_i n hn hlt; simp only[hn,if_neg hlt]
   ·rename_i hn; simp only[hn]
  ·rfl
theorem la{f:Nat}{o:Nat}(S:fy F H rb mb ps vm vb vu)(W:nT rb mb H vl ws)(ho:o<16){g:Vc->Sc}(hg:∀x,(g x).ms=ps.1.ms/\(g x).bs=ps.1.bs/\(g x).us=ps.1.us/\lw (fH ps.1 vm vb vu++[.map (some mb)]) o [x.x,x.y,x.z]=fH (g x) vm vb vu++[.map (some mb)]){K:af->ae->Prop}
  (hK:∀v H',Fx F H H'->H.next<=H'.next->((∃x,iG ws=some x/\v=.bool true/\fy F H' rb mb (g x,ps.2) vm vb vu)∨(iG ws=none/\v=.bool false))->(∀c,c<H.next->c≠rb->H'.get c=H.get c)->K v H'):an Tryz.prog aE 47 [vl,ak rb 22 o] H K:=by
 obtain⟨wb,hw,w1,w2,w3⟩:=W.wk
 refine (oN (b:=rb) (n:=22) (o:=o) hw.wl (fun c hc=>by subst hc; exact⟨w1,w2⟩) S.row S.len om W.big S.rn).mono ?_
 rintro v H' ⟨f,C',r',hC',h⟩
 refine hK v H' (S.fx f) f.next ?_ f.old
 rcases h with⟨x,h1,rfl,rfl⟩ | ⟨h1,rfl⟩
 ·obtain⟨g1,g2,g3,g4⟩:=hg x
  exact .inl ⟨x,h1,rfl,S.hd f g1 g2 g3 (by rw[<- g4]; exact r')⟩
 ·exact .inr ⟨h1,rfl⟩
end
open Go.Abs Go.Abs.S
section
variable {F:Nat->Prop} {H:ae} {rb mb sb:Nat} {ps:PS} {vm vb vu vl:af} {ws:List Bs}
theorem CT(S:fy F H rb mb ps vm vb vu)(W:nT rb mb H vl ws)(B:Row H sb [ak rb 22 0])(hsb:sb<H.next/\sb≠rb):an Tryz.prog aE 46 [vl,ak sb 1 0] H (gu F H rb mb ps.2 (cS 4 ps.1 ws)):=by
 refine ai rfl My rfl ?_
 have l0:=ap 1 0 B rfl rfl
 simp only[c46,sA,sB,seval,l0,aG,aF]
 refine la (f:=0) (o:=5) S W om (g:=fun x=>{ ps.1 with eye:=x }) (fun x=>⟨rfl,rfl,rfl,rfl⟩) fun v H' fx hn h old=>?_
 have l1:=ap 1 0 (B.same (old _ hsb.1 hsb.2)) rfl rfl
 rcases h with⟨x,h1,rfl,S1⟩ | ⟨h1,rfl⟩
 ·have l2:=aW 22 5 3 S1.row S1.len (xs:=gp x) om rfl
  simp only[sA,sB,seval,l1,aG,aF,l2]
  refine (eB (v:=x)).mono ?_
  rintro _ H2 ⟨rfl,e2⟩
  have S2:=S1.ext e2
  simp only[sA,sB,seval]
  refine⟨fx.trans (dc S1 e2),?_⟩
  cases hf:gT x with
  | true=>exact .inl ⟨_,vm,vb,vu,by simp only[cS,lT,h1,hf,if_true,Option.map_some],rfl,S2⟩
  | false=>exact .inr ⟨by simp[cS,lT,h1,hf],rfl⟩
 ·simp only[sA,sB,seval]
  exact⟨fx,.inr ⟨by simp only[cS,lT,h1,Option.map_none],rfl⟩⟩
theorem CR(S:fy F H rb mb ps vm vb vu)(W:nT rb mb H vl ws)(B:Row H sb [ak rb 22 0])(hsb:sb<H.next/\sb≠rb):an Tryz.prog aE 48 [vl,ak sb 1 0] H (gu F H rb mb ps.2 (cS 5 ps.1 ws)):=by
 refine ai rfl Mw rfl ?_
 have l0:=ap 1 0 B rfl rfl
 simp only[c48,sA,sB,seval,l0,aG,aF]
 refine la (f:=0) (o:=8) S W om (g:=fun x=>{ ps.1 with at_:=x }) (fun x=>⟨rfl,rfl,rfl,rfl⟩) fun v H' fx hn h old=>?_
 have l1:=ap 1 0 (B.same (old _ hsb.1 hsb.2)) rfl rfl
 rcases h with⟨x,h1,rfl,S1⟩ | ⟨h1,rfl⟩
 ·have l2:=aW 22 8 3 S1.row S1.len (xs:=gp x) om rfl
  simp only[sA,sB,seval,l1,aG,aF,l2]
  refine (eB (v:=x)).mono ?_
  rintro _ H2 ⟨rfl,e2⟩
  have S2:=S1.ext e2
  simp only[sA,sB,seval]
  refine⟨fx.trans (dc S1 e2),?_⟩
  cases hf:gT x with
  | true=>exact .inl ⟨_,vm,vb,vu,by simp only[cS,lT,h1,hf,if_true,Option.map_some],rfl,S2⟩
  | false=>exact .inr ⟨by simp[cS,lT,h1,hf],rfl⟩
 ·simp only[sA,sB,seval]
  exact⟨fx,.inr ⟨by simp only[cS,lT,h1,Option.map_none],rfl⟩⟩
theorem CQ(S:fy F H rb mb ps vm vb vu)(W:nT rb mb H vl ws)(B:Row H sb [ak rb 22 0])(hsb:sb<H.next/\sb≠rb):an Tryz.prog aE 49 [vl,ak sb 1 0] H (gu F H rb mb ps.2 (cS 6 ps.1 ws)):=by
 refine ai rfl Mv rfl ?_
 have l0:=ap 1 0 B rfl rfl
 simp only[c49,sA,sB,seval,l0,aG,aF]
 refine la (f:=0) (o:=11) S W om (g:=fun x=>{ ps.1 with up:=x }) (fun x=>⟨rfl,rfl,rfl,rfl⟩) fun v H' fx hn h old=>?_
 have l1:=ap 1 0 (B.same (old _ hsb.1 hsb.2)) rfl rfl
 rcases h with⟨x,h1,rfl,S1⟩ | ⟨h1,rfl⟩
 ·have l2:=aW 22 11 3 S1.row S1.len (xs:=gp x) om rfl
  simp only[sA,sB,seval,l1,aG,aF,l2]
  refine (eB (v:=x)).mono ?_
  rintro _ H2 ⟨rfl,e2⟩
  have S2:=S1.ext e2
  simp only[sA,sB,seval]
  refine⟨fx.trans (dc S1 e2),?_⟩
  cases hf:gT x with
  | true=>exact .inl ⟨_,vm,vb,vu,by simp only[cS,lT,h1,hf,if_true,Option.map_some],rfl,S2⟩
  | false=>exact .inr ⟨by simp[cS,lT,h1,hf],rfl⟩
 ·simp only[sA,sB,seval]
  exact⟨fx,.inr ⟨by simp only[cS,lT,h1,Option.map_none],rfl⟩⟩
theorem CP(S:fy F H rb mb ps vm vb vu)(W:nT rb mb H vl ws)(B:Row H sb [ak rb 22 0])(hsb:sb<H.next/\sb≠rb):an Tryz.prog aE 50 [vl,ak sb 1 0] H (gu F H rb mb ps.2 (cS 7 ps.1 ws)):=by
 refine ai rfl Mu rfl ?_
 obtain⟨wb,hw,w1,w2,w3⟩:=W.wk
 have l0:=ap 1 0 B rfl rfl
 simp only[c50,sA,sB,seval,l0,aG,aF,ub]
 have f0:=lR rb H (.cells [ak rb 22 14] 0 false)
 have ht:=lB (H:=H) (b:=rb) (n:=22) (o:=14) (k:=1) [ak rb 22 14] rfl
 refine (iM (Q:=(·=H.next)) (CF hw f0 w1 w2) (fun c hc=>by subst hc; exact⟨by rw[aN]; omega,w2⟩) ht (fun c hc=>⟨by rw[aN]; omega,by have:=S.rn; omega⟩) (S.row.same (aS S.rn)) S.len om W.big (by rw[aN]; have:=S.rn; omega) om).mono ?_
 rintro v H' ⟨f,C',r',hC',h⟩
 have f:=f0.trans f
 have l1:=ap 1 0 (B.same (f.old _ hsb.1 hsb.2)) rfl rfl
 rcases h with⟨rfl,h1,ns,h2,rfl⟩ | ⟨rfl,h1⟩
 ·obtain⟨a,x,rfl,rfl,hx⟩:=Ix h1 h2
  have S1:=S.hd f (s:={ ps.1 with wide:=x }) rfl rfl rfl r'
  have l2:bg false 1 H' (ak rb 22 14)=some (.int .i64 x):=ap 22 14 S1.row S1.len rfl
  by_cases c1:0<x
  ·by_cases c2:x<=429496729600
   ·simp only[sA,sB,seval,l1,aG,aF,l2,c1,c2]
    exact⟨S.fx f,.inl ⟨_,vm,vb,vu,by simp[cS,hx,ng,c1,c2],tt,S1⟩⟩
   ·simp only[sA,sB,seval,l1,aG,aF,l2,c1,c2]
    exact⟨S.fx f,.inr ⟨by simp[cS,hx,ng,c2],tt⟩⟩
  ·simp only[sA,sB,seval,l1,aG,aF,l2,c1]
   exact⟨S.fx f,.inr ⟨by simp[cS,hx,ng,c1],tt⟩⟩
 ·simp only[sA,sB,seval]
  refine⟨S.fx f,.inr ⟨?_,rfl⟩⟩
  simp only[cS]
  rcases ws with _ | ⟨a,_ | ⟨b,r⟩⟩
  ·rfl
  ·have:=h1 rfl
   simp only[eH]at this
   split at this
   ·rename_i hx; simp only[hx]
   ·simp at this
  ·rfl
theorem CO(S:fy F H rb mb ps vm vb vu)(W:nT rb mb H vl ws)(B:Row H sb [ak rb 22 0])(hsb:sb<H.next/\sb≠rb):an Tryz.prog aE 52 [vl,ak sb 1 0] H (gu F H rb mb ps.2 (cS 8 ps.1 ws)):=by
 refine ai rfl Mr rfl ?_
 have l0:=ap 1 0 B rfl rfl
 simp only[c52,sA,sB,seval,l0,aG,aF]
 refine la (f:=0) (o:=15) S W om (g:=fun x=>{ ps.1 with sky:=x }) (fun x=>⟨rfl,rfl,rfl,rfl⟩) fun v H' fx hn h old=>?_
 have l1:=ap 1 0 (B.same (old _ hsb.1 hsb.2)) rfl rfl
 rcases h with⟨x,h1,rfl,S1⟩ | ⟨h1,rfl⟩
 ·have l2:=aW 22 15 3 S1.row S1.len (xs:=gp x) om rfl
  simp only[sA,sB,seval,l1,aG,aF,l2]
  refine (gv (v:=x)).mono ?_
  rintro _ H2 ⟨rfl,e2⟩
  have S2:=S1.ext e2
  simp only[sA,sB,seval]
  refine⟨fx.trans (dc S1 e2),?_⟩
  cases hf:wS x 0 274877906944 with
  | true=>exact .inl ⟨_,vm,vb,vu,by simp only[cS,h1,hf,if_true],rfl,S2⟩
  | false=>exact .inr ⟨by simp[cS,h1,hf],rfl⟩
 ·simp only[sA,sB,seval]
  exact⟨fx,.inr ⟨by simp only[cS,h1],rfl⟩⟩
end
open Go.Abs Go.Abs.S
theorem ov{s:Bs}(hs:s.length<=281474976710656){H:ae}:an Tryz.prog aE 80 [.str s] H fun v H'=>v=.str s/\H=H':=by
 refine ai rfl LV rfl ?_
 simp only[c80,sA,sB,seval]
 refine jd (v:=.str s) (H':=H) rfl ?_ ?_
 ·show qt H [.str s]=_
  simp only[qt,NB hs,cond_true]
 ·simp only[sA,sB,seval]; exact⟨tt,tt⟩
section
variable {F:Nat->Prop} {H:ae} {rb mb sb:Nat} {ps:PS} {vm vb vu vl:af} {ws:List Bs}
theorem j2{v w v':af}{n:Nat}(h:FZ v w)(hw:dP w (·<n))(hp:∀P,dP v P->dP v' fun b=>P b∨n<=b):FZ v' w:=by
 intro a m r b m' r' e1 e2
 have h1:dP v fun c=>c≠b.b:=fun a m r e=>h a m r b m' r' e e2
 have:=hp _ h1 a m r e1
 have:=hw b m' r' e2
 omega
theorem mP{v w:af}(h:FZ v w){a:Ad}{m:Nat}{r:qR}(e:w=.slice (some a) m r):dP v (a.b≠·):=fun a' m' r' e'=>(h a' m' r' a m r e' e).symm
theorem fy.growM(S:fy F H rb mb ps vm vb vu){x:Mt}(hk:ps.1.ms.length<=1000):∃v' H2 H3,bD 6 64 (H.push (.cells (jh x) 0 false)) vm (po H 6)=some (v',H2)/\bB 1 H2 (ak rb 22 18) v'=some H3 /\
  fy F H3 rb mb ({ ps.1 with ms:=ps.1.ms++[x] },ps.2) v' vb vu/\Fx F H H3/\∀c,c<H.next->c≠rb->dP vm (c≠·)->H3.get c=H.get c:=by
 obtain⟨v',H2,a1,G,a2,a3,a4⟩:=S.am.pushB (xs:=jh x) rfl rfl om (bytes:=64) om om
 have br:dP vm (rb≠·):=S.fm.mono fun c hc=>hc.2.1.symm
 have bm:dP vm (mb≠·):=S.fm.mono fun c hc=>hc.2.2.symm
 obtain⟨H3,m3,r3,n3,k3⟩:=bj (S.row.same (a4 rb S.rn br)) S.len (i:=18) (n:=22) om (x:=v') G.one
 have old:∀c,c<H.next->c≠rb->dP vm (c≠·)->H3.get c=H.get c:=fun c h1 h2 h3=>(k3 c h2).trans (a4 c h1 h3)
 have fx:Fx F H H3:=⟨om,fun c hc=>old c (S.fn c hc) (fun e=>S.nr (e ▸ hc)) (S.fm.mono fun d hd e=>hd.1 (e ▸ hc))⟩
 obtain⟨es,n,q1,q2⟩:=S.seen
 have keepb:dP vb fun c=>H3.get c=H.get c:=fun a m r e=>old _ (S.ab.blk' a m r e) (S.fb a m r e).2.1 (mP S.d1 e)
 have keepu:dP vu fun c=>H3.get c=H.get c:=fun a m r e=>old _ (S.au.blk' a m r e) (S.fu a m r e).2.1 (mP S.d2 e)
 refine⟨v',H2,H3,a1,m3,⟨r3,?_,S.ab.same fx.next keepb,S.au.same fx.next keepu,?_,S.fb,S.fu,j2 S.d1 S.ab.blk' a3,j2 S.d2 S.au.blk' a3,S.d3,NN S.rn fx.next,NN S.mn fx.next,S.ne,S.nr,S.nm,fun c hc=>NN (S.fn c hc) fx.next,es,n,by rw[old mb S.mn S.ne.symm bm]; exact q1,q2⟩,fx,old⟩
 ·have G3:=G.same (H':=H3) om ((a3 _ br).mono fun c hc=>k3 c (by have:=S.rn; omega))
  simp only[List.flatMap_append,List.flatMap_cons,List.flatMap_nil,List.append_nil,lA,ND,NE]
  exact G3
 ·refine (a3 _ S.fm).mono fun c hc=>?_
  rcases hc with hc | hc
  ·exact hc
  ·exact⟨fun h=>by have:=S.fn c h; omega,by have:=S.rn; omega,by have:=S.mn; omega⟩
theorem wG(S:fy F H rb mb ps vm vb vu)(m:Mt)(h1:m.sh.length<=1000000)(h2:m.tx.length<=1000000)(hk:ps.1.ms.length<=64):an Tryz.prog aE 79 [ak rb 22 0,.agg (jh m)] H (gu F H rb mb ps.2 (l9 ps.1 m)):=by
 refine ai rfl LW rfl ?_
 obtain⟨H1,m1,r1,n1,k1⟩:=aP H (jh m) (n:=6) rfl
 have e1:=dJ n1 k1
 have S1:=S.ext e1
 have ca:(af.agg (jh m)).cells=jh m:=rfl
 obtain⟨v',H2,H3,a1,a2,S3,f3,old⟩:=S1.growM (x:=m) om
 have lv:bg false 1 H1 (ak rb 22 18)=some vm:=ap 22 18 S1.row S1.len rfl
 have lvP:bg false 1 (H1.push (.cells (jh m) 0 false)) (ak rb 22 18)=some vm:=ap 22 18 (S1.row.same (aS S1.rn)) S1.len rfl
 have lx:=aW 6 0 6 r1 rfl (xs:=jh m) om rfl
 have bm:=p7 (m:=6) (z:=[.int .u8 0,.int .i64 0,.int .i64 0,.int .i64 0,.str [],.str []]) (xs:=jh m) H1 rfl rfl
 have hae:aeq vm vm=true:=(gY.app S1.am (P:=fun _=>True) (fun _ _ _ _=>trivial)).aeq
 simp only[c79,sA,sB,seval,ca,m1]
 refine eG rfl ?_
 simp only[sR,sA,sB,seval,aG,aF,lv,lx,bm,a1,a2]
 simp only[fK,fL,eF,fM,iV,and_true,true_and,List.map_cons,List.map_nil,sA,sB,seval,aF]
 refine⟨⟨_,rfl,fun _=>⟨_,lvP,hae⟩⟩,?_⟩
 have r3:Row H3 H.next (jh m):=r1.same (old H.next om (by have:=S.rn; omega) (S.am.blk'.mono fun c hc=>om))
 have lx3:=aW 6 0 6 r3 rfl (xs:=jh m) om rfl
 simp only[sA,sB,seval,lx3]
 refine (vg (m:=m)).mono ?_
 rintro _ H4 ⟨rfl,e4⟩
 have S4:=S3.ext e4
 have fx:Fx F H H4:=(dc S e1).trans (f3.trans (dc S3 e4))
 have l4:bg false 1 H4 (ak rb 22 18)=some v':=ap 22 18 S4.row S4.len rfl
 have ln:=S4.am.len
 simp only[lA,ND,NE]at ln
 cases hm:im m with
 | false=>
  simp only[sA,sB,seval]
  exact⟨fx,.inr ⟨by simp[l9,hm],rfl⟩⟩
 | true=>
  by_cases hl:ps.1.ms.length+1<=64
  ·have hl':((ps.1.ms.length+(0+1):Nat):Int)<=64:=om
   simp only[sA,sB,seval,aG,aF,l4,ln,hl']
   exact⟨fx,.inl ⟨_,v',vb,vu,by rw[l9,if_pos ⟨hm,hl⟩],tt,S4⟩⟩
  ·have hl':¬((ps.1.ms.length+(0+1):Nat):Int)<=64:=om
   simp only[sA,sB,seval,aG,aF,l4,ln,hl']
   exact⟨fx,.inr ⟨by rw[l9,if_neg (fun h=>hl h.2)],tt⟩⟩
end
end Go.Proofs.Wo
