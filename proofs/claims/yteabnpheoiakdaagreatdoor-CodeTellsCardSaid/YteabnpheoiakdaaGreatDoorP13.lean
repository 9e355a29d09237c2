/- Part of a proof (YH1 YH2 YH3 YH4 YH5 YH6 YH7 YJ1); no condition. -/
import Derived.Test.YteabnpheoiakdaaGreatDoorP12
set_option linter.unusedSimpArgs false
set_option linter.unusedVariables false
set_option linter.defProp false
set_option linter.unnecessarySimpa false
namespace Go.Proofs.Wo
open Go.Abs Go.Abs.S
def Gp(o:Nat):Nat:=if o∈Bt then 2 else if o∈mZ then 3 else 0
def tF{o:Nat}{H:aa}:aq Tryz.prog aF 93 [.int .u8 (o:Int)] H λu H'=>u=.int .i64 (Gp o:Int)/\H=H':=by
 unfold Gp;by_cases h2:o∈Bt
 ·rw[if_pos h2];simp only[Bt,List.mem_cons,List.not_mem_nil,or_false]at h2;rcases h2 with rfl|rfl|rfl|rfl|rfl|rfl|rfl|rfl|rfl|rfl|rfl|rfl
  all_goals
   refine ak rfl Qt rfl ?_;simp only[VP,sC,seval,Int.cast_ofNat_Int];exact⟨tt,tt⟩
 rw[if_neg h2];by_cases h3:o∈mZ
 ·rw[if_pos h3];simp only[mZ,List.mem_cons,List.not_mem_nil,or_false]at h3;rcases h3 with rfl|rfl|rfl|rfl|rfl|rfl|rfl|rfl|rfl|rfl|rfl|rfl|rfl|rfl|rfl|rfl|rfl
  all_goals
   refine ak rfl Qt rfl ?_;simp only[VP,sC,seval,Int.cast_ofNat_Int];exact⟨tt,tt⟩
 rw[if_neg h3];simp only[Bt,mZ,List.mem_cons,List.not_mem_nil,or_false]at h2 h3;have z:¬(o:Int)=2/\¬(o:Int)=7/\¬(o:Int)=8/\¬(o:Int)=18/\¬(o:Int)=19/\¬(o:Int)=20/\¬(o:Int)=23/\¬(o:Int)=24/\¬(o:Int)=25/\¬(o:Int)=26/\¬(o:Int)=27/\¬(o:Int)=28/\¬(o:Int)=3/\¬(o:Int)=4/\¬(o:Int)=5/\¬(o:Int)=6/\¬(o:Int)=9/\¬(o:Int)=10/\¬(o:Int)=11/\¬(o:Int)=12/\¬(o:Int)=13/\¬(o:Int)=14/\¬(o:Int)=15/\¬(o:Int)=16/\¬(o:Int)=21/\¬(o:Int)=22/\¬(o:Int)=29/\¬(o:Int)=30/\¬(o:Int)=31:=om;refine ak rfl Qt rfl ?_;simp only[VP,sC,seval,z];exact⟨tt,tt⟩
def bS{vc vd:ae}{R x:Int}{H:aa}:aq Tryz.prog aF 94 [.agg [vc,.int .i64 R,vd],.int .i64 x] H λu H'=>u=.bool (dj R x)/\aS H.next H H':=by
 obtain⟨H1,m1,r1,n1,k1⟩:=aC H [vc,.int .i64 R,vd] (n:=3) rfl;have l1:al false 1 H1 (ah H.next 3 1)=some (.int .i64 R):=aj r1 rfl rfl;have E1:aS H.next H H1:=⟨om,λc hc=>k1 c om⟩;refine ak rfl VX rfl ?_;unfold dj;by_cases h1:0<=x
 ·simp only[W4,sC,seval,aG,m1,h1,aA,l1];exact⟨by simp,E1⟩
 ·simp only[W4,sC,seval,aG,m1,h1];exact⟨by simp,E1⟩
structure ZLd(cb ib:Nat)(vc vd:ae)(R:Int)(o:Nat)(a b c:Int)(K:aa):Prop where
 f0:al false 1 K (ah ib 4 0)=some (.int .u8 (o:Int))
 fa:al false 1 K (ah ib 4 1)=some (.int .i64 a)
 fb:al false 1 K (ah ib 4 2)=some (.int .i64 b)
 fc:al false 1 K (ah ib 4 3)=some (.int .i64 c)
 lw:al true 3 K (ah cb 3 0)=some (.agg [vc,.int .i64 R,vd])
 l0:al false 1 K (ah cb 3 0)=some vc
 l1:al false 1 K (ah cb 3 1)=some (.int .i64 R)
 l2:al false 1 K (ah cb 3 2)=some vd
def Io{i:xP}{vc vd:ae}{R:Int}{nk nc:Nat}{H:aa}(hc:ez false vc=some (.int .i64 (nk:Int)))(hd:ez false vd=some (.int .i64 (nc:Int)))(hR:4<=R/\R<=250) :
  aq Tryz.prog aF 50 [.agg [vc,.int .i64 R,vd],DG i] H λu H'=>u=.bool (jB R nk nc i)/\aS H.next H H':=by
 obtain⟨o,a,b,c⟩:=i;obtain⟨H1,m1,r1,n1,k1⟩:=aC H [vc,.int .i64 R,vd] (n:=3) rfl;obtain⟨H2,m2,r2,n2,k2⟩:=aC H1 [.int .u8 (o:Int),.int .i64 a,.int .i64 b,.int .i64 c] (n:=4) rfl;have r12:be H2 H.next [vc,.int .i64 R,vd]:=r1.same (k2 _ om);have E2:aS H.next H H2:=⟨om,λc hc=>by rw[k2 c om,k1 c om]⟩;have LD:∀{K:aa},aS H2.next H2 K->ZLd H.next H1.next vc vd R o a b c K:=λe=>by have q1:=r12.same (e.old _ om);have q2:=r2.same (e.old _ om);exact⟨aj q2 rfl rfl,aj q2 rfl rfl,aj q2 rfl rfl,aj q2 rfl rfl,aw q1 rfl,aj q1 rfl rfl,aj q1 rfl rfl,aj q1 rfl rfl⟩
 have to:∀{K:aa},aS H2.next H2 K->aS H.next H K:=λe=>⟨by have:=e.next;omega,λc hc=>by rw[e.old c om,E2.old c hc]⟩;have tr:∀{K L:aa},aS H2.next H2 K->aS K.next K L->aS H2.next H2 L:=λe f=>e.trans ⟨f.next,λc hc=>f.old c (by have:=e.next;omega)⟩;have e2:aS H2.next H2 H2:=⟨Nat.le_refl _,λ_ _=>rfl⟩;obtain⟨f0,fa,fb,fc,lw,l0,l1,l2⟩:=LD e2;refine ak rfl Wn rfl ?_;unfold DG;by_cases hc0:0<=c
 case pos=>
  obtain⟨w,hw⟩:∃w,w=decide (c<(nc:Int)):=⟨_,rfl⟩;have hj:dj nc c=w:=by rw[hw];simp[dj,hc0]
  simp only[Xd,sC,seval,aG,m1,m2,fld0,aA,fc,hc0,l2,hd,f0,<- hw];refine tF.mono ?_;rintro _ _ ⟨rfl,rfl⟩;by_cases h2:o∈Bt
  ·have hok:jB R nk nc ⟨o,a,b,c⟩=(dj R a&&(dj R b&&decide (c=0))):=by
    simp only[jB];rw[if_neg (λh=>by rw[h]at h2;exact absurd h2 dD),if_pos h2]
   have ht:((Gp o:Nat):Int)=2:=by unfold Gp;rw[if_pos h2];rfl
   rw[hok];simp only[sC,seval,fld0,aA,ht,lw,fa];refine bS.mono ?_;rintro _ K ⟨rfl,e⟩;have e:=tr e2 e;cases ha:dj R a with
   |false=>simp only[sC,seval];exact⟨by simp,to e⟩
   |true=>
    obtain⟨f0,fa,fb,fc,lw,l0,l1,l2⟩:=LD e;simp only[sC,seval,aA,lw,fb];refine bS.mono ?_;rintro _ L ⟨rfl,g⟩;have g:=tr e g;cases hb:dj R b with
    |false=>simp only[sC,seval];exact⟨by simp,to g⟩
    |true=>obtain⟨f0,fa,fb,fc,lw,l0,l1,l2⟩:=LD g;simp only[sC,seval,aA,fc];exact⟨by simp,to g⟩
  by_cases h3:o∈mZ
  ·have hok:jB R nk nc ⟨o,a,b,c⟩=(dj R a&&(dj R b&&dj R c)):=by
    simp only[jB];rw[if_neg (λh=>by rw[h]at h3;exact absurd h3 dD),if_neg h2,if_pos h3]
   have ht:((Gp o:Nat):Int)=3:=by unfold Gp;rw[if_neg h2,if_pos h3];rfl
   rw[hok];simp only[sC,seval,fld0,aA,ht,lw,fa];refine bS.mono ?_;rintro _ K ⟨rfl,e⟩;have e:=tr e2 e;cases ha:dj R a with
   |false=>simp only[sC,seval];exact⟨by simp,to e⟩
   |true=>
    obtain⟨f0,fa,fb,fc,lw,l0,l1,l2⟩:=LD e;simp only[sC,seval,aA,lw,fb];refine bS.mono ?_;rintro _ L ⟨rfl,g⟩;have g:=tr e g;cases hb:dj R b with
    |false=>simp only[sC,seval];exact⟨by simp,to g⟩
    |true=>obtain⟨f0,fa,fb,fc,lw,l0,l1,l2⟩:=LD g;simp only[sC,seval,aA,lw,fc];refine bS.mono ?_;rintro _ M ⟨rfl,k⟩;simp only[sC,seval];exact⟨by simp,to (tr g k)⟩
  have ht:((Gp o:Nat):Int)=0:=by unfold Gp;rw[if_neg h2,if_neg h3];rfl
  by_cases h1:o=1
  ·have hok:jB R nk nc ⟨o,a,b,c⟩=(dj R a&&(dj nk b&&decide (c=0))):=by simp only[jB];rw[if_pos h1]
   have h1':(o:Int)=1:=om;rw[hok];simp only[sC,seval,fld0,aA,ht,f0,h1',lw,fa];refine bS.mono ?_;rintro _ K ⟨rfl,e⟩;have e:=tr e2 e;cases ha:dj R a with
   |false=>simp only[sC,seval];exact⟨by simp,to e⟩
   |true=>
    obtain⟨f0,fa,fb,fc,lw,l0,l1,l2⟩:=LD e;by_cases hb0:0<=b
    ·by_cases hb1:b<(nk:Int)
     ·simp only[sC,seval,fld0,aA,fb,hb0,l0,hc,hb1,fc];exact⟨by simp[dj,hb0,hb1],to e⟩
     ·simp only[sC,seval,fld0,aA,fb,hb0,l0,hc,hb1];exact⟨by simp[dj,hb0,hb1],to e⟩
    ·simp only[sC,seval,aA,fb,hb0];exact⟨by simp[dj,hb0],to e⟩
  have h1':¬(o:Int)=1:=om;by_cases h17:o=17
  ·have hok:jB R nk nc ⟨o,a,b,c⟩=(dj R a&&(dj R b&&(decide (b+2<R)&&decide (c=0)))):=by simp only[jB];rw[if_neg h1,if_neg h2,if_neg h3,if_pos h17]
   have h17':(o:Int)=17:=om;have wR:IntKind.i64.wrap (R-2)=R-2:=iP;rw[hok];simp only[sC,seval,fld0,aA,ht,f0,h17',lw,fa];refine bS.mono ?_;rintro _ K ⟨rfl,e⟩;have e:=tr e2 e;cases ha:dj R a with
   |false=>simp only[sC,seval];exact⟨by simp,to e⟩
   |true=>
    obtain⟨f0,fa,fb,fc,lw,l0,l1,l2⟩:=LD e;simp only[sC,seval,aA,lw,fb];refine bS.mono ?_;rintro _ L ⟨rfl,g⟩;have g:=tr e g;cases hb:dj R b with
    |false=>simp only[sC,seval];exact⟨by simp,to g⟩
    |true=>
     obtain⟨f0,fa,fb,fc,lw,l0,l1,l2⟩:=LD g;by_cases hb2:b<R-2
     ·have hb3:b+2<R:=om;simp only[sC,seval,aA,fb,l1,wR,hb2,fc];exact⟨by simp[hb3],to g⟩
     ·have hb3:¬b+2<R:=om;simp only[sC,seval,aA,fb,l1,wR,hb2];exact⟨by simp[hb3],to g⟩
  have h17':¬(o:Int)=17:=om;by_cases h32:o=32
  ·have hok:jB R nk nc ⟨o,a,b,c⟩=(decide (a=0)&&(decide (b=0)&&dj nc c)):=by simp only[jB];rw[if_neg h1,if_neg h2,if_neg h3,if_neg h17,if_pos h32]
   have h32':(o:Int)=32:=om;rw[hok,hj];by_cases ha:a=0
   ·by_cases hb:b=0
    ·simp only[sC,seval,fld0,aA,ht,f0,h32',fa,ha,fb,hb];exact⟨by simp[ha,hb],to e2⟩
    ·simp only[sC,seval,fld0,aA,ht,f0,h32',fa,ha,fb,hb];exact⟨by simp[ha,hb],to e2⟩
   ·simp only[sC,seval,fld0,aA,ht,f0,h32',fa,ha];exact⟨by simp[ha],to e2⟩
  have h32':¬(o:Int)=32:=om;by_cases h33:o=33
  ·have hok:jB R nk nc ⟨o,a,b,c⟩=(dj R a&&(decide (b=0)&&dj nc c)):=by simp only[jB];rw[if_neg h1,if_neg h2,if_neg h3,if_neg h17,if_neg h32,if_pos h33]
   have h33':(o:Int)=33:=om;rw[hok,hj];simp only[sC,seval,fld0,aA,ht,f0,h33',lw,fa];refine bS.mono ?_;rintro _ K ⟨rfl,e⟩;have e:=tr e2 e;cases ha:dj R a with
   |false=>simp only[sC,seval];exact⟨by simp,to e⟩
   |true=>
    obtain⟨f0,fa,fb,fc,lw,l0,l1,l2⟩:=LD e;by_cases hb:b=0
    ·simp only[sC,seval,aA,fb,hb];exact⟨by simp[hb],to e⟩
    ·simp only[sC,seval,aA,fb,hb];exact⟨by simp[hb],to e⟩
  have h33':¬(o:Int)=33:=om;by_cases h34:o=34
  ·have hok:jB R nk nc ⟨o,a,b,c⟩=(dj R a&&(decide (b=0)&&decide (c=0))):=by simp only[jB];rw[if_neg h1,if_neg h2,if_neg h3,if_neg h17,if_neg h32,if_neg h33,if_pos h34]
   have h34':(o:Int)=34:=om;rw[hok];simp only[sC,seval,fld0,aA,ht,f0,h34',lw,fa];refine bS.mono ?_;rintro _ K ⟨rfl,e⟩;have e:=tr e2 e;cases ha:dj R a with
   |false=>simp only[sC,seval];exact⟨by simp,to e⟩
   |true=>
    obtain⟨f0,fa,fb,fc,lw,l0,l1,l2⟩:=LD e;by_cases hb:b=0
    ·simp only[sC,seval,aA,fb,hb,fc];exact⟨by simp[hb],to e⟩
    ·simp only[sC,seval,aA,fb,hb];exact⟨by simp[hb],to e⟩
  have h34':¬(o:Int)=34:=om;have hok:jB R nk nc ⟨o,a,b,c⟩=false:=by simp only[jB];rw[if_neg h1,if_neg h2,if_neg h3,if_neg h17,if_neg h32,if_neg h33,if_neg h34]
  rw[hok];simp only[sC,seval,fld0,aA,ht,f0,h1',h17',h32',h33',h34'];exact⟨tt,to e2⟩
 case neg=>
  have hj:dj nc c=false:=by simp[dj,hc0]
  simp only[Xd,sC,seval,aG,m1,m2,fld0,aA,fc,hc0,f0];refine tF.mono ?_;rintro _ _ ⟨rfl,rfl⟩;by_cases h2:o∈Bt
  ·have hok:jB R nk nc ⟨o,a,b,c⟩=(dj R a&&(dj R b&&decide (c=0))):=by
    simp only[jB];rw[if_neg (λh=>by rw[h]at h2;exact absurd h2 dD),if_pos h2]
   have ht:((Gp o:Nat):Int)=2:=by unfold Gp;rw[if_pos h2];rfl
   rw[hok];simp only[sC,seval,fld0,aA,ht,lw,fa];refine bS.mono ?_;rintro _ K ⟨rfl,e⟩;have e:=tr e2 e;cases ha:dj R a with
   |false=>simp only[sC,seval];exact⟨by simp,to e⟩
   |true=>
    obtain⟨f0,fa,fb,fc,lw,l0,l1,l2⟩:=LD e;simp only[sC,seval,aA,lw,fb];refine bS.mono ?_;rintro _ L ⟨rfl,g⟩;have g:=tr e g;cases hb:dj R b with
    |false=>simp only[sC,seval];exact⟨by simp,to g⟩
    |true=>obtain⟨f0,fa,fb,fc,lw,l0,l1,l2⟩:=LD g;simp only[sC,seval,aA,fc];exact⟨by simp,to g⟩
  by_cases h3:o∈mZ
  ·have hok:jB R nk nc ⟨o,a,b,c⟩=(dj R a&&(dj R b&&dj R c)):=by
    simp only[jB];rw[if_neg (λh=>by rw[h]at h3;exact absurd h3 dD),if_neg h2,if_pos h3]
   have ht:((Gp o:Nat):Int)=3:=by unfold Gp;rw[if_neg h2,if_pos h3];rfl
   rw[hok];simp only[sC,seval,fld0,aA,ht,lw,fa];refine bS.mono ?_;rintro _ K ⟨rfl,e⟩;have e:=tr e2 e;cases ha:dj R a with
   |false=>simp only[sC,seval];exact⟨by simp,to e⟩
   |true=>
    obtain⟨f0,fa,fb,fc,lw,l0,l1,l2⟩:=LD e;simp only[sC,seval,aA,lw,fb];refine bS.mono ?_;rintro _ L ⟨rfl,g⟩;have g:=tr e g;cases hb:dj R b with
    |false=>simp only[sC,seval];exact⟨by simp,to g⟩
    |true=>obtain⟨f0,fa,fb,fc,lw,l0,l1,l2⟩:=LD g;simp only[sC,seval,aA,lw,fc];refine bS.mono ?_;rintro _ M ⟨rfl,k⟩;simp only[sC,seval];exact⟨by simp,to (tr g k)⟩
  have ht:((Gp o:Nat):Int)=0:=by unfold Gp;rw[if_neg h2,if_neg h3];rfl
  by_cases h1:o=1
  ·have hok:jB R nk nc ⟨o,a,b,c⟩=(dj R a&&(dj nk b&&decide (c=0))):=by simp only[jB];rw[if_pos h1]
   have h1':(o:Int)=1:=om;rw[hok];simp only[sC,seval,fld0,aA,ht,f0,h1',lw,fa];refine bS.mono ?_;rintro _ K ⟨rfl,e⟩;have e:=tr e2 e;cases ha:dj R a with
   |false=>simp only[sC,seval];exact⟨by simp,to e⟩
   |true=>
    obtain⟨f0,fa,fb,fc,lw,l0,l1,l2⟩:=LD e;by_cases hb0:0<=b
    ·by_cases hb1:b<(nk:Int)
     ·simp only[sC,seval,fld0,aA,fb,hb0,l0,hc,hb1,fc];exact⟨by simp[dj,hb0,hb1],to e⟩
     ·simp only[sC,seval,fld0,aA,fb,hb0,l0,hc,hb1];exact⟨by simp[dj,hb0,hb1],to e⟩
    ·simp only[sC,seval,aA,fb,hb0];exact⟨by simp[dj,hb0],to e⟩
  have h1':¬(o:Int)=1:=om;by_cases h17:o=17
  ·have hok:jB R nk nc ⟨o,a,b,c⟩=(dj R a&&(dj R b&&(decide (b+2<R)&&decide (c=0)))):=by simp only[jB];rw[if_neg h1,if_neg h2,if_neg h3,if_pos h17]
   have h17':(o:Int)=17:=om;have wR:IntKind.i64.wrap (R-2)=R-2:=iP;rw[hok];simp only[sC,seval,fld0,aA,ht,f0,h17',lw,fa];refine bS.mono ?_;rintro _ K ⟨rfl,e⟩;have e:=tr e2 e;cases ha:dj R a with
   |false=>simp only[sC,seval];exact⟨by simp,to e⟩
   |true=>
    obtain⟨f0,fa,fb,fc,lw,l0,l1,l2⟩:=LD e;simp only[sC,seval,aA,lw,fb];refine bS.mono ?_;rintro _ L ⟨rfl,g⟩;have g:=tr e g;cases hb:dj R b with
    |false=>simp only[sC,seval];exact⟨by simp,to g⟩
    |true=>
     obtain⟨f0,fa,fb,fc,lw,l0,l1,l2⟩:=LD g;by_cases hb2:b<R-2
     ·have hb3:b+2<R:=om;simp only[sC,seval,aA,fb,l1,wR,hb2,fc];exact⟨by simp[hb3],to g⟩
     ·have hb3:¬b+2<R:=om;simp only[sC,seval,aA,fb,l1,wR,hb2];exact⟨by simp[hb3],to g⟩
  have h17':¬(o:Int)=17:=om;by_cases h32:o=32
  ·have hok:jB R nk nc ⟨o,a,b,c⟩=(decide (a=0)&&(decide (b=0)&&dj nc c)):=by simp only[jB];rw[if_neg h1,if_neg h2,if_neg h3,if_neg h17,if_pos h32]
   have h32':(o:Int)=32:=om;rw[hok,hj];by_cases ha:a=0
   ·by_cases hb:b=0
    ·simp only[sC,seval,fld0,aA,ht,f0,h32',fa,ha,fb,hb];exact⟨by simp[ha,hb],to e2⟩
    ·simp only[sC,seval,fld0,aA,ht,f0,h32',fa,ha,fb,hb];exact⟨by simp[ha,hb],to e2⟩
   ·simp only[sC,seval,fld0,aA,ht,f0,h32',fa,ha];exact⟨by simp[ha],to e2⟩
  have h32':¬(o:Int)=32:=om;by_cases h33:o=33
  ·have hok:jB R nk nc ⟨o,a,b,c⟩=(dj R a&&(decide (b=0)&&dj nc c)):=by simp only[jB];rw[if_neg h1,if_neg h2,if_neg h3,if_neg h17,if_neg h32,if_pos h33]
   have h33':(o:Int)=33:=om;rw[hok,hj];simp only[sC,seval,fld0,aA,ht,f0,h33',lw,fa];refine bS.mono ?_;rintro _ K ⟨rfl,e⟩;have e:=tr e2 e;cases ha:dj R a with
   |false=>simp only[sC,seval];exact⟨by simp,to e⟩
   |true=>
    obtain⟨f0,fa,fb,fc,lw,l0,l1,l2⟩:=LD e;by_cases hb:b=0
    ·simp only[sC,seval,aA,fb,hb];exact⟨by simp[hb],to e⟩
    ·simp only[sC,seval,aA,fb,hb];exact⟨by simp[hb],to e⟩
  have h33':¬(o:Int)=33:=om;by_cases h34:o=34
  ·have hok:jB R nk nc ⟨o,a,b,c⟩=(dj R a&&(decide (b=0)&&decide (c=0))):=by simp only[jB];rw[if_neg h1,if_neg h2,if_neg h3,if_neg h17,if_neg h32,if_neg h33,if_pos h34]
   have h34':(o:Int)=34:=om;rw[hok];simp only[sC,seval,fld0,aA,ht,f0,h34',lw,fa];refine bS.mono ?_;rintro _ K ⟨rfl,e⟩;have e:=tr e2 e;cases ha:dj R a with
   |false=>simp only[sC,seval];exact⟨by simp,to e⟩
   |true=>
    obtain⟨f0,fa,fb,fc,lw,l0,l1,l2⟩:=LD e;by_cases hb:b=0
    ·simp only[sC,seval,aA,fb,hb,fc];exact⟨by simp[hb],to e⟩
    ·simp only[sC,seval,aA,fb,hb];exact⟨by simp[hb],to e⟩
  have h34':¬(o:Int)=34:=om;have hok:jB R nk nc ⟨o,a,b,c⟩=false:=by simp only[jB];rw[if_neg h1,if_neg h2,if_neg h3,if_neg h17,if_neg h32,if_neg h33,if_neg h34]
  rw[hok];simp only[sC,seval,fld0,aA,ht,f0,h1',h17',h32',h33',h34'];exact⟨tt,to e2⟩
def Bh{l:List xP}{vc vd:ae}{R:Int}{nk n0:Nat}{H:aa}(hc:ez false vc=some (.int .i64 (nk:Int)))(z:eM (·<n0) H 4 vd l.length (Lu l))(hn:n0<=H.next)(hl:l.length<=1000000) :
  aq Tryz.prog aF 24 [.agg [vc,.int .i64 R,vd]] H λu H'=>u=.int .i64 (Aj R nk l:Int)/\aS H.next H H':=by
 have hd:=z.len;obtain⟨H1,m1,r1,n1,k1⟩:=aC H [vc,.int .i64 R,vd] (n:=3) rfl;have E1:aS H.next H H1:=⟨om,λc hc=>k1 c om⟩;obtain⟨bb,hbb⟩:∃b,b=H.next:=⟨_,rfl⟩;rw[<- hbb]at m1 r1 k1;have l0:al false 1 H1 (ah bb 3 0)=some vc:=aj r1 rfl rfl;have l1:al false 1 H1 (ah bb 3 1)=some (.int .i64 R):=aj r1 rfl rfl;have l2:al false 1 H1 (ah bb 3 2)=some vd:=aj r1 rfl rfl;refine ak rfl WJ rfl ?_;unfold Aj;by_cases h4:R<4
 ·rw[if_pos (.inl h4)];simp only[Rq,sC,seval,aG,m1,aA,l1,l2,hd,h4];exact⟨tt,E1⟩
 by_cases h250:250<R
 ·rw[if_pos (.inr h250)];simp only[Rq,sC,seval,aG,m1,aA,l1,l2,hd,h4,h250];exact⟨tt,E1⟩
 rw[if_neg om];by_cases h0:l.length=0
 ·have h0':(l.length:Int)<1:=om;rw[if_pos (.inl h0)];simp only[Rq,sC,seval,aG,m1,aA,l1,h4,h250,l2,hd,h0'];exact⟨tt,E1⟩
 have h0':¬(l.length:Int)<1:=om;by_cases h6:65536<l.length
 ·have h6':(65536:Int)<(l.length:Int):=om;rw[if_pos (.inr (.inl h6))];simp only[Rq,sC,seval,aG,m1,aA,l1,h4,h250,l2,hd,h0',h6'];exact⟨tt,E1⟩
 have h6':¬(65536:Int)<(l.length:Int):=om;by_cases h7:65536<nk
 ·have h7':(65536:Int)<(nk:Int):=om;rw[if_pos (.inr (.inr h7))];simp only[Rq,sC,seval,aG,m1,fld0,aA,l1,h4,h250,l2,hd,h0',h6',l0,hc,h7'];exact⟨tt,E1⟩
 have h7':¬(65536:Int)<(nk:Int):=om;rw[if_neg om];simp only[Rq,sC,seval,aG,m1,fld0,aA,l1,h4,h250,l2,hd,h0',h6',l0,hc,h7'];refine aM (λm (T:bZ) K=>∃i:Nat,m=l.length-i/\i<=l.length/\T 1=ah bb 3 0/\T 3=.int .i64 (l.length:Int)/\T 4=.int .i64 (i:Int)/\aS H1.next H1 K/\(l.take i).all (jB R nk l.length)=true) l.length
  ⟨0,rfl,Nat.zero_le _,by simp only[sC,seval];try rfl,by simp only[sC,seval];try rfl,by simp only[sC,seval];try rfl,⟨Nat.le_refl _,λ_ _=>rfl⟩,rfl⟩ ?_
 rintro m T K ⟨i,rfl,hi,t1,t3,t4,EK,hx⟩;have eK:=EK.next;have rK:=r1.same (EK.old bb om);have zK:eM (·<n0) K 4 vd l.length (Lu l):=z.mono λc hcc=>⟨hcc,by have:c<n0:=hcc;rw[EK.old c om,E1.old c om]⟩;have to:∀{K':aa},aS K.next K K'->aS H.next H K':=λe=>⟨by have:=e.next;omega,λc hcc=>by rw[e.old c om,EK.old c om,E1.old c hcc]⟩;have lK2:al false 1 K (ah bb 3 2)=some vd:=aj rK rfl rfl;by_cases hlt:i<l.length
 case neg=>
  obtain rfl:i=l.length:=om;have hlt':¬(l.length:Int)<(l.length:Int):=om;rw[List.take_length]at hx;rw[if_pos hx];obtain⟨x,hx2⟩:∃x,l[l.length-1]?=some x:=⟨_,Xx om⟩;have hlo:yE l=x.o:=by unfold yE;rw[List.getLast?_eq_getElem?,hx2]
  have wj:IntKind.i64.wrap ((l.length:Int)-1)=((l.length-1:Nat):Int):=iP;have ix:=zK.idx (i:=l.length-1) om;have pt:=zK.pt (i:=l.length-1) om;rw[wo hx2]at pt;have lo:al false 1 K (cz 4 vd (l.length-1))=some (.int .u8 (x.o:Int)):=pt.load0 rfl;have f0:=pt.fld0;rw[hlo];by_cases h32:x.o=32
  ·have q:(x.o:Int)=32:=om;rw[if_pos (.inl h32)];simp only[sC,seval,t1,t3,t4,hlt',aA,lK2,hd,wj,ix,f0,lo,q];exact⟨tt,to ⟨Nat.le_refl _,λ_ _=>rfl⟩⟩
  have q:¬(x.o:Int)=32:=om;by_cases h34:x.o=34
  ·have q2:(x.o:Int)=34:=om;rw[if_pos (.inr h34)];simp only[sC,seval,t1,t3,t4,hlt',aA,lK2,hd,wj,ix,f0,lo,q2];exact⟨tt,to ⟨Nat.le_refl _,λ_ _=>rfl⟩⟩
  ·have q2:¬(x.o:Int)=34:=om;rw[if_neg om];simp only[sC,seval,t1,t3,t4,hlt',aA,lK2,hd,wj,ix,f0,lo,q,q2];exact⟨tt,to ⟨Nat.le_refl _,λ_ _=>rfl⟩⟩
 have hlt':(i:Int)<(l.length:Int):=om;obtain⟨x,hx2⟩:∃x,l[i]?=some x:=⟨_,Xx hlt⟩;have ix:=zK.idx hlt;have ld:al true 4 K (cz 4 vd i)=some (DG x):=by have:=zK.load hlt;rw[wo hx2]at this;exact this
 have wk:IntKind.i64.wrap ((i:Int)+1)=((i+1:Nat):Int):=fT i 1 om;have lb:al true 3 K (ah bb 3 0)=some (.agg [vc,.int .i64 R,vd]):=aw rK rfl;simp only[sC,seval,t1,t3,t4,hlt',lb,aA,lK2,ix,ld];refine(Io (nk:=nk) (nc:=l.length) hc hd ⟨om,om⟩).mono ?_;rintro _ H4 ⟨rfl,E4⟩;have e4:=E4.next;cases hok:jB R nk l.length x with
 |false=>rw[if_neg (λh=>by rw[List.all_eq_true]at h;rw[h x (XG hx2)]at hok;exact absurd hok (by simp))];simp only[sC,seval];exact⟨tt,to E4⟩
 |true=>simp only[sC,seval,t1,t3,t4,wk];refine⟨l.length-(i+1),om,i+1,rfl,om,tt,tt,tt,⟨om,λc hcc=>by rw[E4.old c om,EK.old c hcc]⟩,?_⟩;rw[List.take_add_one,hx2,List.all_append,hx];simp[hok]
open Go.Abs Go.Abs.S
def yW{L:List Bs}{s:Bs}{v:ae}{n:Nat}{H:aa}(c:fo n H v (L.map .str))(hl:L.length<=1000000):aq Tryz.prog aF 137 [.str s,v] H λu H'=>u=.bool (decide (s∈L))/\H=H':=by
 have ln:=c.len;rw[XM]at ln;refine ak rfl Tx rfl ?_;simp only[UW,sC,seval];refine aM (λm (T:bZ) H'=>H=H'/\∃i:Nat,m=L.length-i/\i<=L.length/\T 0=.str s/\T 1=v/\T 5=.int .i64 (i:Int)/\s∉L.take i) L.length
  ⟨rfl,0,rfl,Nat.zero_le _,by simp only[sC,seval];try rfl,by simp only[sC,seval];try rfl,by simp only[sC,seval];try rfl,by simp⟩ ?_
 rintro m T _ ⟨rfl,i,rfl,hi,t0,t1,t5,hx⟩;by_cases hlt:i<L.length
 case neg=>obtain rfl:i=L.length:=om;have hlt':¬(L.length:Int)<(L.length:Int):=om;rw[List.take_length]at hx;have hd:decide (s∈L)=false:=decide_eq_false hx;simp only[sC,seval,t0,t1,t5,ln,hlt',hd];exact⟨tt,tt⟩
 have hlt':(i:Int)<(L.length:Int):=om;obtain⟨y,hy⟩:∃y,L[i]?=some y:=⟨_,Xx hlt⟩;have io:=c.idx .i64 (i:=i) (by rw[XM];exact hlt);have lo:=c.load (i:=i) (x:=.str y) (by simp[hy]);have wk:IntKind.i64.wrap ((i:Int)+1)=((i+1:Nat):Int):=iP;by_cases he:y=s
 ·subst he;have hd:decide (y∈L)=true:=decide_eq_true (XG hy);simp only[sC,seval,t0,t1,t5,ln,hlt',io,lo,hd];exact⟨tt,tt⟩
 ·simp only[sC,seval,t0,t1,t5,ln,hlt',io,lo,he,wk];refine⟨L.length-(i+1),om,tt,i+1,rfl,om,tt,tt,tt,?_⟩;rw[List.take_add_one,hy];simp only[Option.toList_some,List.mem_append,List.mem_singleton,not_or];exact⟨hx,λe=>he e.symm⟩
def th(s:Bs)(E:aO):Nat:=match bB s E with
 |some i=>(E[i]?.map (·.2)).getD 0
 |none=>0
def Fw{E:aO}{s:Bs}{vn vk:ae}{n:Nat}{H:aa}(cn:fo n H vn (gh E))(ck:fo n H vk (iu E))(hl:E.length<=1000000):aq Tryz.prog aF 136 [.str s,vn,vk] H λu H'=>u=co (th s E)/\H=H':=by
 have ln:=cn.len;rw[eR]at ln;refine ak rfl Tz rfl ?_;unfold th;simp only[UX,sC,seval];refine aM (λm (T:bZ) H'=>H=H'/\∃i:Nat,m=E.length-i/\i<=E.length/\T 0=.str s/\T 1=vn/\T 2=vk/\T 7=.int .i64 (i:Int)/\bB s (E.take i)=none) E.length
  ⟨rfl,0,rfl,Nat.zero_le _,by simp only[sC,seval];try rfl,by simp only[sC,seval];try rfl,by simp only[sC,seval];try rfl,by simp only[sC,seval];try rfl,rfl⟩ ?_
 rintro m T _ ⟨rfl,i,rfl,hi,t0,t1,t2,t7,hx⟩;by_cases hlt:i<E.length
 case neg=>obtain rfl:i=E.length:=om;have hlt':¬(E.length:Int)<(E.length:Int):=om;rw[List.take_length]at hx;rw[hx];simp only[sC,seval,t0,t1,t2,t7,ln,hlt'];exact⟨tt,tt⟩
 have hlt':(i:Int)<(E.length:Int):=om;obtain⟨y,hy⟩:∃y,E[i]?=some y:=⟨_,Xx hlt⟩;have io:=cn.idx .i64 (i:=i) (by rw[eR];exact hlt);have lo:=cn.load (i:=i) (x:=.str y.1) (by simp[gh,hy]);have io2:=ck.idx .i64 (i:=i) (by rw[kI];exact hlt);have lo2:=ck.load (i:=i) (x:=co y.2) (by simp[iu,hy]);have wk:IntKind.i64.wrap ((i:Int)+1)=((i+1:Nat):Int):=iP;have hf:=nQ E i y hx hy;by_cases he:y.1=s
 ·rw[if_pos he]at hf;rw[hf];simp only[sC,seval,t0,t1,t2,t7,ln,hlt',io,lo,he,io2,lo2,hy];exact⟨tt,tt⟩
 ·simp only[sC,seval,t0,t1,t2,t7,ln,hlt',io,lo,he,wk];refine⟨E.length-(i+1),om,tt,i+1,rfl,om,tt,tt,tt,tt,?_⟩;rw[List.take_add_one,hy];exact nR he _ hx
def dd{H:aa}{xs:List ae}:fo (H.next+1) (H.push (.cells xs 0 false)) (.slice (some ⟨H.next,xs.length,0⟩) xs.length (.known xs.length)) xs:=by refine .inr ⟨⟨H.next,xs.length,0⟩,.known xs.length,rfl,by show H.next<H.next+1;omega,?_⟩;have:=iF (H:=H.push (.cells xs 0 false)) (b:=H.next) (l:=xs) ⟨0,by rw[aa.get_push,if_pos rfl],Nat.zero_le _⟩ (n:=xs.length) rfl (i:=0) (k:=xs.length) om;rw[this,List.drop_zero,List.take_of_length_le rL]
def BtO(o:Option (List Nat×Nat))(u:ae)(H':aa):Prop:=match o with
 |some (args,own)=>∃v,u=.tuple [v,co own]/\fo H'.next H' v (gW args)
 |none=>u=.tuple [aX,co 0]
def Ji{s:Bs}{H:aa}:aq Tryz.prog aF 193 [.str s] H λu H'=>BtO (ew iq s) u H'/\aS H.next H H':=by
 refine ak rfl SE rfl ?_;have E1:∀xs:List ae,aS H.next H (H.push (.cells xs 0 false)):=λxs=>⟨by show _<=H.next+1;omega,λc hc=>aB hc⟩;by_cases h0:s=[118,101,99]
 ·subst h0;have bs:aL 3 [.int .u8 0] H [(0,1,.int .u8 1),(1,1,.int .u8 1),(2,1,.int .u8 1)]=some (.slice (some ⟨H.next,3,0⟩) 3 (.known 3),H.push (.cells (gW [1,1,1]) 0 false)):=rfl;simp only[ol,sC,seval,bs];exact⟨⟨_,rfl,dd (xs:=gW [1,1,1])⟩,E1 _⟩
 by_cases h1:s=[120]
 ·subst h1;have bs:aL 1 [.int .u8 0] H [(0,1,.int .u8 2)]=some (.slice (some ⟨H.next,1,0⟩) 1 (.known 1),H.push (.cells (gW [2]) 0 false)):=rfl;simp only[ol,sC,seval,bs];exact⟨⟨_,rfl,dd (xs:=gW [2])⟩,E1 _⟩
 by_cases h2:s=[121]
 ·subst h2;have bs:aL 1 [.int .u8 0] H [(0,1,.int .u8 2)]=some (.slice (some ⟨H.next,1,0⟩) 1 (.known 1),H.push (.cells (gW [2]) 0 false)):=rfl;simp only[ol,sC,seval,bs];exact⟨⟨_,rfl,dd (xs:=gW [2])⟩,E1 _⟩
 by_cases h3:s=[122]
 ·subst h3;have bs:aL 1 [.int .u8 0] H [(0,1,.int .u8 2)]=some (.slice (some ⟨H.next,1,0⟩) 1 (.known 1),H.push (.cells (gW [2]) 0 false)):=rfl;simp only[ol,sC,seval,bs];exact⟨⟨_,rfl,dd (xs:=gW [2])⟩,E1 _⟩
 by_cases h4:s=[100,111,116]
 ·subst h4;have bs:aL 2 [.int .u8 0] H [(0,1,.int .u8 2),(1,1,.int .u8 2)]=some (.slice (some ⟨H.next,2,0⟩) 2 (.known 2),H.push (.cells (gW [2,2]) 0 false)):=rfl;simp only[ol,sC,seval,bs];exact⟨⟨_,rfl,dd (xs:=gW [2,2])⟩,E1 _⟩
 by_cases h5:s=[99,114,111,115,115]
 ·subst h5;have bs:aL 2 [.int .u8 0] H [(0,1,.int .u8 2),(1,1,.int .u8 2)]=some (.slice (some ⟨H.next,2,0⟩) 2 (.known 2),H.push (.cells (gW [2,2]) 0 false)):=rfl;simp only[ol,sC,seval,bs];exact⟨⟨_,rfl,dd (xs:=gW [2,2])⟩,E1 _⟩
 by_cases h6:s=[117,110,105,116]
 ·subst h6;have bs:aL 1 [.int .u8 0] H [(0,1,.int .u8 2)]=some (.slice (some ⟨H.next,1,0⟩) 1 (.known 1),H.push (.cells (gW [2]) 0 false)):=rfl;simp only[ol,sC,seval,bs];exact⟨⟨_,rfl,dd (xs:=gW [2])⟩,E1 _⟩
 by_cases h7:s=[115,113,114,116]
 ·subst h7;have bs:aL 1 [.int .u8 0] H [(0,1,.int .u8 1)]=some (.slice (some ⟨H.next,1,0⟩) 1 (.known 1),H.push (.cells (gW [1]) 0 false)):=rfl;simp only[ol,sC,seval,bs];exact⟨⟨_,rfl,dd (xs:=gW [1])⟩,E1 _⟩
 by_cases h8:s=[115,105,110]
 ·subst h8;have bs:aL 1 [.int .u8 0] H [(0,1,.int .u8 1)]=some (.slice (some ⟨H.next,1,0⟩) 1 (.known 1),H.push (.cells (gW [1]) 0 false)):=rfl;simp only[ol,sC,seval,bs];exact⟨⟨_,rfl,dd (xs:=gW [1])⟩,E1 _⟩
 by_cases h9:s=[99,111,115]
 ·subst h9;have bs:aL 1 [.int .u8 0] H [(0,1,.int .u8 1)]=some (.slice (some ⟨H.next,1,0⟩) 1 (.known 1),H.push (.cells (gW [1]) 0 false)):=rfl;simp only[ol,sC,seval,bs];exact⟨⟨_,rfl,dd (xs:=gW [1])⟩,E1 _⟩
 by_cases h10:s=[97,98,115]
 ·subst h10;have bs:aL 1 [.int .u8 0] H [(0,1,.int .u8 1)]=some (.slice (some ⟨H.next,1,0⟩) 1 (.known 1),H.push (.cells (gW [1]) 0 false)):=rfl;simp only[ol,sC,seval,bs];exact⟨⟨_,rfl,dd (xs:=gW [1])⟩,E1 _⟩
 by_cases h11:s=[102,108,111,111,114]
 ·subst h11;have bs:aL 1 [.int .u8 0] H [(0,1,.int .u8 1)]=some (.slice (some ⟨H.next,1,0⟩) 1 (.known 1),H.push (.cells (gW [1]) 0 false)):=rfl;simp only[ol,sC,seval,bs];exact⟨⟨_,rfl,dd (xs:=gW [1])⟩,E1 _⟩
 by_cases h12:s=[109,105,110]
 ·subst h12;have bs:aL 2 [.int .u8 0] H [(0,1,.int .u8 1),(1,1,.int .u8 1)]=some (.slice (some ⟨H.next,2,0⟩) 2 (.known 2),H.push (.cells (gW [1,1]) 0 false)):=rfl;simp only[ol,sC,seval,bs];exact⟨⟨_,rfl,dd (xs:=gW [1,1])⟩,E1 _⟩
 by_cases h13:s=[109,97,120]
 ·subst h13;have bs:aL 2 [.int .u8 0] H [(0,1,.int .u8 1),(1,1,.int .u8 1)]=some (.slice (some ⟨H.next,2,0⟩) 2 (.known 2),H.push (.cells (gW [1,1]) 0 false)):=rfl;simp only[ol,sC,seval,bs];exact⟨⟨_,rfl,dd (xs:=gW [1,1])⟩,E1 _⟩
 by_cases h14:s=[115,97,109,112,108,101]
 ·subst h14;have bs:aL 2 [.int .u8 0] H [(0,1,.int .u8 1),(1,1,.int .u8 1)]=some (.slice (some ⟨H.next,2,0⟩) 2 (.known 2),H.push (.cells (gW [1,1]) 0 false)):=rfl;simp only[ol,sC,seval,bs];exact⟨⟨_,rfl,dd (xs:=gW [1,1])⟩,E1 _⟩
 have g0:¬([118,101,99]:Bs)=s:=λe=>h0 e.symm;have g1:¬([120]:Bs)=s:=λe=>h1 e.symm;have g2:¬([121]:Bs)=s:=λe=>h2 e.symm;have g3:¬([122]:Bs)=s:=λe=>h3 e.symm;have g4:¬([100,111,116]:Bs)=s:=λe=>h4 e.symm;have g5:¬([99,114,111,115,115]:Bs)=s:=λe=>h5 e.symm;have g6:¬([117,110,105,116]:Bs)=s:=λe=>h6 e.symm;have g7:¬([115,113,114,116]:Bs)=s:=λe=>h7 e.symm;have g8:¬([115,105,110]:Bs)=s:=λe=>h8 e.symm;have g9:¬([99,111,115]:Bs)=s:=λe=>h9 e.symm;have g10:¬([97,98,115]:Bs)=s:=λe=>h10 e.symm;have g11:¬([102,108,111,111,114]:Bs)=s:=λe=>h11 e.symm;have g12:¬([109,105,110]:Bs)=s:=λe=>h12 e.symm;have g13:¬([109,97,120]:Bs)=s:=λe=>h13 e.symm;have g14:¬([115,97,109,112,108,101]:Bs)=s:=λe=>h14 e.symm;have hn:ew iq s=none:=by simp only[iq,ew,g0,g1,g2,g3,g4,g5,g6,g7,g8,g9,g10,g11,g12,g13,g14,if_false]
 rw[hn];simp only[ol,sC,seval,h0,h1,h2,h3,h4,h5,h6,h7,h8,h9,h10,h11,h12,h13,h14];exact⟨tt,aS.refl _ _⟩
def Fu{s:Bs}{ts:List Nat}{v:ae}{n:Nat}{H:aa}(c:fo n H v (gW ts))(hn:n<=H.next)(ht:∀t∈ts,t=1∨t=2):aq Tryz.prog aF 194 [.str s,v] H λu H'=>u=co (yw s ts)/\aS H.next H H':=by
 have ln:=c.len;rw[gY]at ln;refine ak rfl SD rfl ?_
 match ts,c,ht,ln with
 | [],c,ht,ln=>have l0:(([]:List Nat).length:Int)=0:=rfl;simp only[C7,sC,seval,ln,l0];exact⟨tt,aS.refl _ _⟩
 | [a],c,ht,ln=>
  have i0:=c.idx .i64 (i:=0) (by simp[gW]);have l0:=c.load (i:=0) (x:=co a) rfl;simp only[Int.cast_ofNat_Int,XB,XC,Nat.zero_add]at i0 ln;have ha:=ht a (by simp);by_cases h1:s=[45]
  ·subst h1;simp only[C7,sC,seval,ln,i0,l0];exact⟨tt,aS.refl _ _⟩
  by_cases h2:s=[33]
  ·subst h2;rcases ha with rfl|rfl
   ·simp only[co,Int.cast_ofNat_Int]at l0;simp only[C7,co,Int.cast_ofNat_Int,sC,seval,ln,i0,l0];exact⟨by first|trivial|rfl,aS.refl _ _⟩
   ·simp only[co,Int.cast_ofNat_Int]at l0;simp only[C7,co,Int.cast_ofNat_Int,sC,seval,ln,i0,l0];exact⟨by first|trivial|rfl,aS.refl _ _⟩
  ·have ho:yw s [a]=0:=by simp only[yw];rw[if_neg (by rintro(h|h);exact h1 h;exact h2 h.1)]
   rw[ho];simp only[C7,sC,seval,ln,h1,h2];exact⟨tt,aS.refl _ _⟩
 | [a,b],c,ht,ln=>
  have i0:=c.idx .i64 (i:=0) (by simp[gW]);have l0:=c.load (i:=0) (x:=co a) rfl;have i1:=c.idx .i64 (i:=1) (by simp[gW]);have l1:=c.load (i:=1) (x:=co b) rfl;simp only[Int.cast_ofNat_Int,XB,XC,Nat.zero_add,Nat.reduceAdd]at i0 i1 ln;have ha:=ht a (by simp);have hb:=ht b (by simp);obtain⟨H1,hH1⟩:∃J,J=H.push (.cells (FB.map .str) 0 false):=⟨_,rfl⟩;have E1:aS H.next H H1:=by rw[hH1];exact⟨by show _<=H.next+1;omega,λc hc=>aB hc⟩
  have bs:aL 8 [.str []] H [(0,1,.str [124,124]),(1,1,.str [38,38]),(2,1,.str [61,61]),(3,1,.str [33,61]),(4,1,.str [60,61]),(5,1,.str [62,61]),(6,1,.str [60]),(7,1,.str [62])]=some (.slice (some ⟨H.next,8,0⟩) 8 (.known 8),H1):=by rw[hH1];rfl
  have c8:fo (H.next+1) H1 (.slice (some ⟨H.next,8,0⟩) 8 (.known 8)) (FB.map .str):=by rw[hH1];exact dd (xs:=FB.map .str)
  have ho:yw s [a,b]=ja s a b:=rfl;rw[ho];simp only[C7,sC,seval,ln,i0,l0,i1,l1,bs];refine(yW c8 dD).mono ?_;rintro _ _ ⟨rfl,rfl⟩;unfold ja;by_cases hc:s∈FB
  ·have hd:decide (s∈FB)=true:=decide_eq_true hc;rw[if_pos hc];rcases ha with rfl|rfl<;>rcases hb with rfl|rfl<;>(simp only[co,Int.cast_ofNat_Int,sC,seval,hd];exact⟨by first|trivial|rfl,E1⟩)
  have hd:decide (s∈FB)=false:=decide_eq_false hc;rw[if_neg hc];by_cases h1:s=[43]
  ·rw[if_pos (.inl h1)];rcases ha with rfl|rfl<;>rcases hb with rfl|rfl<;>(simp only[co,Int.cast_ofNat_Int,sC,seval,hd,h1];exact⟨by first|trivial|rfl,E1⟩)
  by_cases h2:s=[45]
  ·rw[if_pos (.inr h2)];rcases ha with rfl|rfl<;>rcases hb with rfl|rfl<;>(simp only[co,Int.cast_ofNat_Int,sC,seval,hd,h1,h2];exact⟨by first|trivial|rfl,E1⟩)
  rw[if_neg (by rintro(h|h);exact h1 h;exact h2 h)];by_cases h3:s=[42]
  ·rw[if_pos h3];rcases ha with rfl|rfl<;>rcases hb with rfl|rfl<;>(simp only[co,Int.cast_ofNat_Int,sC,seval,hd,h1,h2,h3];exact⟨by first|trivial|rfl,E1⟩)
  rw[if_neg h3];by_cases h4:s=[47]
  ·rw[if_pos h4];rcases ha with rfl|rfl<;>rcases hb with rfl|rfl<;>(simp only[co,Int.cast_ofNat_Int,sC,seval,hd,h1,h2,h3,h4];exact⟨by first|trivial|rfl,E1⟩)
  rw[if_neg h4];simp only[sC,seval,hd,h1,h2,h3,h4];exact⟨tt,E1⟩
 |a::b::d::l,c,ht,ln=>
  have q1:¬((a::b::d::l).length:Int)=1:=by simp only[XB];omega
  have q2:¬((a::b::d::l).length:Int)=2:=by simp only[XB];omega
  simp only[C7,sC,seval,ln,q1,q2];exact⟨tt,aS.refl _ _⟩
def wF:∀(N:Nat) {e:Ex} {c:List ae} {H:aa} {n:Nat},e.size<=N->XE (·<H.next) H e c->n<=1000->e.size<=1000000->aq Tryz.prog aF 171 [.agg c,.int .i64 (n:Int)] H λu H'=>u=.bool (decide (n<e.deep))/\aS H.next H H'
 |0,e,_,_,_,h,_,_,_=>absurd (fg e) om
 |N+1,.mk k s z kids,c,H,n,h,hx,hl,hs=>by
  obtain⟨v,C,rfl,z1,z2⟩:=hx;have hsz:(Ex.mk k s z kids).size=aU kids+1:=rfl;have hdp:(Ex.mk k s z kids).deep=bG kids+1:=rfl;refine ak rfl SV rfl ?_;obtain⟨H1,m1,r1,n1,k1⟩:=aC H [.int .u8 (k:Int),.str s,.int .i64 z,v] (n:=4) rfl;have E1:aS H.next H H1:=⟨om,λc hc=>k1 c om⟩;by_cases hl0:n=0
  ·subst hl0;have hl':((0:Nat):Int)<1:=om;have hd:decide (0<(Ex.mk k s z kids).deep)=true:=decide_eq_true om;simp only[RE,sC,seval,aG,m1,hl',hd];exact⟨tt,E1⟩
  have hl':¬(n:Int)<1:=om;have hlw:IntKind.i64.wrap ((n:Int)-1)=((n-1:Nat):Int):=iP;have l3:∀{K:aa},aS H1.next H1 K->al false 1 K (ah H.next 4 3)=some v:=λq=>aj (r1.same (q.old _ om)) rfl rfl;have ln:=z1.len;simp only[RE,sC,seval,aG,m1,hl'];refine aM (λm (T:bZ) K=>∃i:Nat,m=kids.length-i/\i<=kids.length/\T 1=.int .i64 (n:Int)/\T 2=ah H.next 4 0/\T 5=.int .i64 (i:Int)/\aS H1.next H1 K/\bG (kids.take i)<n) kids.length
   ⟨0,rfl,Nat.zero_le _,by simp only[sC,seval];try rfl,by simp only[sC,seval],by simp only[sC,seval];try rfl,aS.refl _ _,by simp only[List.take_zero,bG];omega⟩ ?_
  rintro m T K ⟨i,rfl,hi,t1,t2,t5,EK,hd⟩;have eK:=EK.next;have l3K:=l3 EK;by_cases hlt:i<kids.length
  case neg=>obtain rfl:i=kids.length:=om;have hlt':¬(kids.length:Int)<(kids.length:Int):=om;rw[List.take_length]at hd;have hd2:decide (n<(Ex.mk k s z kids).deep)=false:=decide_eq_false om;simp only[sC,seval,t1,t2,t5,aA,l3K,ln,hlt',hd2];exact⟨tt,om,λc hc=>by rw[EK.old c om,E1.old c hc]⟩
  have hlt':(i:Int)<(kids.length:Int):=om;obtain⟨e,he⟩:∃e,kids[i]?=some e:=⟨_,Xx hlt⟩;have hts:kids.take (i+1)=kids.take i++[e]:=by rw[List.take_add_one,he];rfl
  have km:∀b,b<H.next->b<K.next/\K.get b=H.get b:=λb hb=>⟨om,by rw[EK.old b om,E1.old b hb]⟩;have z13:=z1.mono km;have z23:=z2.mono km;have ix:=z13.idx hlt;have ld:=z13.load hlt;have he3:=z23.at he;have hsm:=iZ (XG he);have hdm:=kL (XG he);have hlen:=cO kids;have wi:IntKind.i64.wrap ((i:Int)+1)=((i+1:Nat):Int):=fT i 1 om;simp only[sC,seval,t1,t2,t5,aA,l3K,ln,hlt',ix,ld,hlw];refine(wF N om he3 om om).mono ?_;rintro _ K2 ⟨rfl,E2⟩;have e2:=E2.next;by_cases hde:n-1<e.deep
  ·have hd1:decide (n-1<e.deep)=true:=decide_eq_true hde;have hd2:decide (n<(Ex.mk k s z kids).deep)=true:=decide_eq_true om;simp only[sC,seval,hd1,hd2];exact⟨tt,om,λc hc=>by rw[E2.old c om,EK.old c om,E1.old c hc]⟩
  ·have hd1:decide (n-1<e.deep)=false:=decide_eq_false hde;simp only[sC,seval,hd1,t1,t2,t5,wi];refine⟨kids.length-(i+1),om,i+1,rfl,om,tt,tt,tt,EK.trans (E2.less om),?_⟩;rw[hts,gI];simp only[bG];omega
open Go.Abs Go.Abs.S
def EM{E:aO}{s:Bs}{j:Nat}{y:Bs×Nat}(hy:E[j]?=some y):fk (E.take (j+1)) s=if y.1=s then some y.2 else fk (E.take j) s:=by rw[List.take_add_one,hy,Option.toList_some,pV]
def CO{E:aO}(hE:kW E)(hEl:E.length<=1000000):∀(N:Nat) {e:Ex} {c:List ae} {vn vk:ae} {H:aa},e.size<=N->XE (·<H.next) H e c->fo H.next H vn (gh E)->fo H.next H vk (iu E)->e.size<=100000->aq Tryz.prog aF 172 [.agg c,vn,vk] H λu H'=>u=oJ (lB E e)/\aS H.next H H'
 |0,e,_,_,_,_,h,_,_,_,_=>absurd (fg e) om
 |N+1,.mk k s z kids,c,vn,vk,H,h,hx,cn,ck,hs=>by
  obtain⟨v,C,rfl,z1,z2⟩:=hx;have hsz:(Ex.mk k s z kids).size=aU kids+1:=rfl;refine ak rfl SU rfl ?_;obtain⟨H1,m1,r1,n1,k1⟩:=aC H [.int .u8 (k:Int),.str s,.int .i64 z,v] (n:=4) rfl;have E1:aS H.next H H1:=⟨om,λc hc=>k1 c om⟩;have ln:=z1.len;have lnn:=cn.len;rw[eR]at lnn;have lnk:=ck.len;rw[kI]at lnk;have hlen:=cO kids;simp only[UC,sC,seval,aG,m1];refine aM (λm (T:bZ) K=>∃(i:Nat) (ts:List Nat) (vt:ae),m=kids.length-i/\i<=kids.length/\T 1=vn/\T 2=vk/\T 3=ah H.next 4 0/\T 8=vt/\T 9=.int .i64 (i:Int)/\aS H1.next H1 K/\aT 1 K vt (gW ts) ts.length/\bx vt (λb=>H1.next<=b)/\eA E (kids.take i)=.ok ts) kids.length
   ⟨0,[],aX,rfl,Nat.zero_le _,by simp only[sC,seval];try rfl,by simp only[sC,seval];try rfl,by simp only[sC,seval];try rfl,by simp only[sC,seval];try rfl,by simp only[sC,seval];try rfl,aS.refl _ _,.inl ⟨rfl,rfl,rfl⟩,cP _,rfl⟩ ?_
  rintro m T K ⟨i,ts,vt,rfl,hi,t1,t2,t3,t8,t9,EK,lt,bt,hts⟩;have eK:=EK.next;have rK:=r1.same (EK.old H.next om);have f0:al false 1 K (ah H.next 4 0)=some (.int .u8 (k:Int)):=aj rK rfl rfl;have f1:al false 1 K (ah H.next 4 1)=some (.str s):=aj rK rfl rfl;have f3:al false 1 K (ah H.next 4 3)=some v:=aj rK rfl rfl;have toK:∀{L:aa},aS K.next K L->aS H.next H L:=λq=>⟨by have:=q.next;omega,λc hc=>by rw[q.old c om,EK.old c om,E1.old c hc]⟩;have EHK:=toK (aS.refl _ _);by_cases hlt:i<kids.length
  ·have hlt':(i:Int)<(kids.length:Int):=om;obtain⟨e,he⟩:∃e,kids[i]?=some e:=⟨_,Xx hlt⟩;have hti:kids.take (i+1)=kids.take i++[e]:=by rw[List.take_add_one,he];rfl
   have km:∀b,b<H.next->b<K.next/\K.get b=H.get b:=λb hb=>⟨om,EHK.old b hb⟩;have z13:=z1.mono km;have z23:=z2.mono km;have ix:=z13.idx hlt;have ld:=z13.load hlt;have he3:=z23.at he;have hsm:=nu (XG he);have wi:IntKind.i64.wrap ((i:Int)+1)=((i+1:Nat):Int):=fT i 1 om;have hE2:aS H.next H K:=EHK;simp only[sC,seval,t1,t2,t3,t8,t9,aA,f3,ln,hlt',ix,ld];refine(CO hE hEl N om he3 (fo.more (cn.ext EHK) om) (fo.more (ck.ext EHK) om) om).mono ?_;rintro _ K2 ⟨rfl,E2⟩;have e2:=E2.next;cases hty:lB E e with
   |error f=>
    have hf:=oK hty;have hf':¬(f:Int)=0:=om;have hb:lB E (.mk k s z kids)=.error f:=by simp only[lB];rw[Bq i ⟨ts,hts⟩ he hty]
    rw[hb];simp only[sC,seval,oJ,bv,bu,hf'];exact⟨tt,toK E2⟩
   |ok t=>
    have lt2:aT 1 K2 vt (gW ts) ts.length:=lt.same om (lt.blk.mono λb hb=>E2.old b hb);have tl:=lF hts;rw[XT]at tl;have bs:aL 1 [.int .u8 0] K2 [(0,1,co t)]=some (.slice (some ⟨K2.next,1,0⟩) 1 (.known 1),K2.push (.cells [co t] 0 false)):=rfl;obtain⟨vt',K3,a3,L3,n3,b3,k3⟩:=lt2.add (j:=1) (xs:=[co t]) rfl rfl om (bytes:=1) om om;have a3':a8 1 1 (K2.push (.cells [co t] 0 false)) vt (.slice (some ⟨K2.next,1,0⟩) 1 (.known 1))=some (vt',K3):=a3;rw[Bp,show ts.length+1=(ts++[t]).length by simp]at L3;simp only[sC,seval,oJ,bv,bu,t1,t2,t3,t8,t9,bs,a3',wi];refine⟨kids.length-(i+1),om,i+1,ts++[t],vt',rfl,om,tt,tt,tt,tt,tt,EK.trans ⟨om,λc hc=>?_⟩,L3,?_,?_⟩
    ·rw[k3 c om (bt.mono λb hb=>om),E2.old c om]
    ·exact(b3 _ bt).mono λb hb=>by rcases hb with hb|hb<;>omega
    ·rw[hti,ye hts,hty]
  obtain rfl:i=kids.length:=om;have hlt':¬(kids.length:Int)<(kids.length:Int):=om;rw[List.take_length]at hts;have htl:=lF hts;have h2:=qz hE hts;have hty:lB E (.mk k s z kids)=jT E k s ts:=by simp only[lB];rw[hts]
  have lnt:=lt.len;have ct:=(aT.cel1 lt lt.blk).1;have cnK:=(cn.ext EHK);have ckK:=(ck.ext EHK);rw[hty];simp only[sC,seval,t1,t2,t3,t8,t9,fld0,aA,f3,ln,hlt',f0];unfold jT;by_cases h1:k=1
  ·have h1':(k:Int)=1:=om;rw[if_pos h1];simp only[sC,seval,h1',oJ];exact⟨tt,EHK⟩
  have h1':¬(k:Int)=1:=om;rw[if_neg h1];by_cases h2k:k=2
  ·have h2':(k:Int)=2:=om;rw[if_pos h2k];have wl:IntKind.i64.wrap ((E.length:Int)-1)=(E.length:Int)-1:=iP;simp only[sC,seval,h2',t1,t2,lnn,lnk,ite_self,wl];refine aM (λm (T:bZ) L=>L=K/\∃j:Nat,m=j/\j<=E.length/\T 1=vn/\T 2=vk/\T 3=ah H.next 4 0/\T 12=.int .i64 ((j:Int)-1)/\fk E s=fk (E.take j) s) E.length
    ⟨rfl,E.length,rfl,Nat.le_refl _,by simp only[sC,seval];try exact t1,by simp only[sC,seval];try exact t2,by simp only[sC,seval];try exact t3,by simp only[sC,seval];try rfl,by rw[List.take_length]⟩ ?_
   rintro j U L ⟨rfl,j',hm,hj,u1,u2,u3,u12,hls⟩;subst hm;cases j with
   |zero=>have hz:¬(0:Int)<=((0:Nat):Int)-1:=om;rw[hls];simp only[sC,seval,u1,u2,u3,u12,hz,List.take_zero,fk,oJ];exact⟨tt,EHK⟩
   |succ j=>
    have hcast:((j+1:Nat):Int)-1=(j:Int):=om;rw[hcast]at u12;have hz:(0:Int)<=(j:Int):=om;obtain⟨y,hy⟩:∃y,E[j]?=some y:=⟨_,Xx om⟩;have i1:=cnK.idx .i64 (i:=j) (by rw[eR];omega);have q1:=cnK.load (i:=j) (x:=.str y.1) (by simp[gh,hy]);have i2:=ckK.idx .i64 (i:=j) (by rw[kI];omega);have q2:=ckK.load (i:=j) (x:=co y.2) (by simp[iu,hy]);have wj:IntKind.i64.wrap ((j:Int)-1)=(j:Int)-1:=iP;rw[EM hy]at hls;by_cases he:y.1=s
    ·rw[if_pos he]at hls;rw[hls];simp only[sC,seval,u1,u2,u3,u12,hz,i1,q1,aA,f1,he,i2,q2,oJ];exact⟨tt,EHK⟩
    ·rw[if_neg he]at hls;simp only[sC,seval,u1,u2,u3,u12,hz,i1,q1,aA,f1,he,wj];exact⟨j,om,tt,j,rfl,om,tt,tt,tt,tt,hls⟩
  have h2':¬(k:Int)=2:=om;rw[if_neg h2k];by_cases h4:k=4
  ·have h4':(k:Int)=4:=om;rw[if_neg (show¬k=3 by omega),if_pos h4];simp only[sC,seval,h4',aA,f1];refine Ji.mono ?_;rintro u K2 ⟨ho,E2⟩;have e2:=E2.next;unfold js;cases ha:ew iq s with
   |none=>rw[ha]at ho;obtain rfl:u=.tuple [aX,co 0]:=ho;simp only[sC,seval,bv,bu,co,Int.cast_ofNat_Int,oJ];exact⟨tt,toK E2⟩
   |some x=>
    obtain⟨args,own⟩:=x;rw[ha]at ho;obtain⟨va,rfl,ca⟩:=ho;have how:=wW _ (iK ha);obtain⟨ha3,_⟩:=wX _ (iK ha);simp only at how ha3;have how':¬(own:Int)=0:=om;have la:=ca.len;rw[gY]at la;have ct2:fo K.next K2 vt (gW ts):=ct.ext E2;simp only;by_cases hl:ts.length≠args.length
    ·have hl':¬(args.length:Int)=(ts.length:Int):=om;rw[if_pos hl];simp only[sC,seval,bv,bu,co,how',t8,la,lnt,hl',oJ];exact⟨tt,toK E2⟩
    rw[if_neg hl];have hl2:ts.length=args.length:=by simpa using hl
    have hl':(args.length:Int)=(ts.length:Int):=om;have hll:(ts.length:Int)=(args.length:Int):=om;rw[hll]at lnt;simp only[sC,seval,bv,bu,co,how',t8,la,lnt];refine aM (λm (T:bZ) L=>L=K2/\∃j:Nat,m=args.length-j/\j<=args.length/\T 8=vt/\T 13=va/\T 14=.int .u8 (own:Int)/\T 15=.int .i64 (j:Int)/\ts.take j=args.take j) args.length
     ⟨rfl,0,rfl,Nat.zero_le _,by simp only[sC,seval];try exact t8,by simp only[sC,seval];try rfl,by simp only[sC,seval];try rfl,by simp only[sC,seval];try rfl,rfl⟩ ?_
    rintro m U L ⟨rfl,j,rfl,hj,u8,u13,u14,u15,he⟩;by_cases hjl:j<args.length
    case neg=>obtain rfl:j=args.length:=om;have hjl':¬(args.length:Int)<(args.length:Int):=om;rw[List.take_length,<- hl2,List.take_length]at he;rw[if_neg (λq:ts≠args=>q he)];simp only[sC,seval,u8,u13,u14,u15,la,hjl',oJ,co];exact⟨tt,toK E2⟩
    have hjl':(j:Int)<(args.length:Int):=om;obtain⟨a,hja⟩:∃a,args[j]?=some a:=⟨_,Xx hjl⟩;obtain⟨b,hjb⟩:∃b,ts[j]?=some b:=⟨_,Xx om⟩;have i1:=ca.idx .i64 (i:=j) (by rw[gY];exact hjl);have q1:=ca.load (i:=j) (x:=co a) (by simp[gW,hja]);have i2:=ct2.idx .i64 (i:=j) (by rw[gY];omega);have q2:=ct2.load (i:=j) (x:=co b) (by simp[gW,hjb]);have wj:IntKind.i64.wrap ((j:Int)+1)=((j+1:Nat):Int):=iP;simp only[co]at q1 q2;by_cases hab:a=b
    ·subst hab;simp only[sC,seval,u8,u13,u14,u15,la,hjl',i1,q1,i2,q2,wj];refine⟨args.length-(j+1),om,tt,j+1,rfl,om,tt,tt,tt,tt,?_⟩;rw[List.take_add_one,List.take_add_one,hja,hjb,he]
    ·have hab':¬(a:Int)=(b:Int):=om;have hne:ts≠args:=λq=>by
      rw[q,hja]at hjb;exact hab (Option.some.inj hjb)
     rw[if_pos hne];simp only[sC,seval,u8,u13,u14,u15,la,hjl',i1,q1,i2,q2,hab',oJ,co];exact⟨tt,toK E2⟩
  have h4':¬(k:Int)=4:=om;by_cases h3:k=3
  ·have h3':(k:Int)=3:=om;rw[if_pos h3];simp only[sC,seval,h3',aA,f1,t8];refine(Fu ct rL h2).mono ?_;rintro _ K2 ⟨rfl,E2⟩;by_cases h0:yw s ts=0
   ·have h0':((yw s ts:Nat):Int)=0:=om;rw[if_pos h0];simp only[sC,seval,co,h0',oJ];exact⟨tt,toK E2⟩
   ·have h0':¬((yw s ts:Nat):Int)=0:=om;rw[if_neg h0];simp only[sC,seval,co,h0',oJ];exact⟨tt,toK E2⟩
  ·have h3':¬(k:Int)=3:=om;rw[if_neg h3,if_neg h4];simp only[sC,seval,h1',h2',h3',h4',oJ];exact⟨tt,EHK⟩
def tp{E:aO}(hE:kW E)(hEl:E.length<=1000000){e:Ex}{c:List ae}{vn vk:ae}{H:aa}(hx:XE (·<H.next) H e c)(cn:fo H.next H vn (gh E))(ck:fo H.next H vk (iu E))(hs:e.size<=100000)(hd:e.deep<=40) :
  aq Tryz.prog aF 135 [.agg c,vn,vk] H λu H'=>u=oJ (lB E e)/\aS H.next H H':=by
 refine ak rfl TA rfl ?_;obtain⟨H1,m1,r1,n1,k1⟩:=aC H c (n:=4) hx.len;have E1:aS H.next H H1:=⟨om,λc hc=>k1 c om⟩;have l4:al true 4 H1 (ah H.next 4 0)=some (.agg c):=aw r1 hx.len;have km:∀b,b<H.next->b<H1.next/\H1.get b=H.get b:=λb hb=>⟨om,E1.old b hb⟩;simp only[UY,sC,seval,aG,m1,l4];refine(wF e.size (n:=40) rL (hx.mono km) om om).mono ?_;rintro _ H2 ⟨rfl,E2⟩;have e2:=E2.next;have hd':decide (40<e.deep)=false:=decide_eq_false om;have E12:aS H.next H H2:=⟨om,λc hc=>by rw[E2.old c om,E1.old c hc]⟩;have l42:al true 4 H2 (ah H.next 4 0)=some (.agg c):=aw (r1.same (E2.old _ om)) hx.len;have km2:∀b,b<H.next->b<H2.next/\H2.get b=H.get b:=λb hb=>⟨om,E12.old b hb⟩;simp only[sC,seval,hd',l42];refine(CO hE hEl e.size rL (hx.mono km2) (fo.more (cn.ext E12) om) (fo.more (ck.ext E12) om) hs).mono ?_;rintro _ H3 ⟨rfl,E3⟩;cases hty:lB E e with
 |error f=>simp only[sC,seval,oJ,bv,bu];exact⟨tt,by have:=E3.next;omega,λc hc=>by rw[E3.old c om,E12.old c hc]⟩
 |ok t=>simp only[sC,seval,oJ,bv,bu];exact⟨tt,by have:=E3.next;omega,λc hc=>by rw[E3.old c om,E12.old c hc]⟩
open Go.Abs Go.Abs.S
def yS(x:lY)(f:Nat)(line:Int):lY:=if x.1=0/\f≠0 then(f,line)else x
def dQ{x:lY}{f:Nat}{line:Int}{cb:Nat}{H:aa}(r:be H cb (iA x))(hcb:cb<H.next):aq Tryz.prog aF 134 [ah cb 2 0,.int .i64 (f:Int),.int .i64 line] H λ_ H'=>be H' cb (iA (yS x f line))/\H'.next=H.next/\∀c,c≠cb->H'.get c=H.get c:=by
 have l0:al false 1 H (ah cb 2 0)=some (.int .i64 (x.1:Int)):=aj r rfl rfl;refine ak rfl TB rfl ?_;unfold yS;by_cases h0:x.1=0
 ·have h0':(x.1:Int)=0:=om;by_cases hf:f=0
  ·have hf':(f:Int)=0:=om;rw[if_neg (λh=>h.2 hf)];simp only[OZ,sC,seval,az,fld0,l0,h0',hf'];exact⟨_,rfl,r,rfl,λ_ _=>rfl⟩
  ·have hf':¬(f:Int)=0:=om;have bb:aJ [.int .i64 0,.int .i64 0] [(0,1,.int .i64 (f:Int)),(1,1,.int .i64 line)]=some (.agg [.int .i64 (f:Int),.int .i64 line]):=rfl;obtain⟨H1,m1,r1,n1,k1⟩:=am r (n:=2) rfl (xs:=iA (f,line)) rfl rfl;have m1':bh 2 H (ah cb 2 0) (.agg [.int .i64 (f:Int),.int .i64 line])=some H1:=m1;rw[if_pos ⟨h0,hf⟩];simp only[OZ,sC,seval,az,fld0,l0,h0',hf',bb,m1'];exact⟨_,rfl,r1,n1,k1⟩
 ·have h0':¬(x.1:Int)=0:=om;rw[if_neg (λh=>h0 h.1)];simp only[OZ,sC,seval,az,fld0,l0,h0'];exact⟨_,rfl,r,rfl,λ_ _=>rfl⟩
def wG{x:lY}{v vn vk:ae}{k cb:Nat}{H:aa}(r:be H cb (iA x))(hx:x.1≠0)(hv:ez false v=some (.int .i64 (k:Int))):aq Tryz.prog aF 88 [ah cb 2 0,v,vn,vk] H λ_ H'=>H=H':=by
 have l0:al false 1 H (ah cb 2 0)=some (.int .i64 (x.1:Int)):=aj r rfl rfl;have hx':¬(x.1:Int)=0:=om;refine ak rfl Su rfl ?_;simp only[W6,sC,seval];refine aM (λm (T:bZ) K=>K=H/\T 0=ah cb 2 0/\T 1=v/\T 8=.int .i64 0) 0 ⟨rfl,by simp only[sC,seval];try rfl,by simp only[sC,seval];try rfl,by simp only[sC,seval];try rfl⟩ ?_;rintro m T K ⟨rfl,t0,t1,t8⟩;by_cases h0:(0:Int)<(k:Int)
 ·simp only[sC,seval,t0,t1,t8,hv,h0,az,fld0,l0,hx'];exact⟨_,rfl,rfl⟩
 ·simp only[sC,seval,t0,t1,t8,hv,h0];exact⟨_,rfl,rfl⟩
def xG:∀(N:Nat) {l:List St} {C:List ae} {v:ae} {H:aa},au l<=N->N<=1000000->eM (·<H.next) H 9 v l.length C->lV (·<H.next) H l C->aq Tryz.prog aF 89 [v] H λu H'=>u=.bool (gt l)/\aS H.next H H':=by
 intro N;induction N with
 |zero=>
  intro l C v H hsz hN z1 z2;have hl0:l=[]:=by
   cases l with
   |nil=>rfl
   |cons x l=>have:=ee x;simp only[au]at hsz;omega
  subst hl0;have ln:=z1.len;have h0:(([]:List St).length:Int)=0:=rfl;refine ak rfl Qu rfl ?_;simp only[Sp,sC,seval,ln,h0];exact⟨tt,aS.refl _ _⟩
 |succ N ih=>
  intro l C v H hsz hN z1 z2;have ln:=z1.len;by_cases hl0:l=[]
  ·subst hl0;have h0:(([]:List St).length:Int)=0:=rfl;refine ak rfl Qu rfl ?_;simp only[Sp,sC,seval,ln,h0];exact⟨tt,aS.refl _ _⟩
  obtain⟨x,j,hj,he,hr⟩:=uF hl0;have hjl:j<l.length:=om;have hlen:=db l;have hn0:¬(l.length:Int)=0:=om;have wj:IntKind.i64.wrap ((l.length:Int)-1)=(j:Int):=iP;have ix:=z1.idx hjl;have ld:=z1.load hjl;have hsm:=dl (XG he);have hx:=z2.at he;obtain⟨k,s,e,body,els,line⟩:=x;obtain⟨ce,vb,Cb,ve,Ce,hcell,x1,y1,y2,y3,y4⟩:=hx;obtain⟨c0,c1,c2,c3,rfl⟩:∃a b c d,ce=[a,b,c,d]:=by
   have:=x1.len
   match ce,this with
   | [a,b,c,d],_=>exact⟨a,b,c,d,rfl⟩
  have hone:((C.drop (j*9)).take 9).all ae.one=true:=(z2.at he).one;rw[hcell]at ld hone;have hsz2:(St.mk k s e body els line).size=e.size+au body+au els+1:=rfl;have hrs:Ev (.mk k s e body els line)=(decide (k=5)||(decide (k=3)&&(gt body&&gt els))):=rfl;obtain⟨H1,m1,r1,n1,k1⟩:=aC H [.int .u8 0,.str [],.int .u8 0,.str [],.int .i64 0,.slice none 0 (.known 0),.slice none 0 (.known 0),.slice none 0 (.known 0),.int .i64 0] (n:=9) rfl;obtain⟨H2,m2,r2,n2,k2⟩:=am r1 (n:=9) rfl (xs:=.int .u8 (k:Int)::.str s::([c0,c1,c2,c3]++[vb,ve,.int .i64 line])) rfl hone;have m2':bh 9 H1 (ah H.next 9 0) (.agg [.int .u8 (k:Int),.str s,c0,c1,c2,c3,vb,ve,.int .i64 line])=some H2:=m2;have E2:aS H.next H H2:=⟨om,λc hc=>by rw[k2 c om,k1 c om]⟩;have km:∀b,b<H.next->b<H2.next/\H2.get b=H.get b:=λb hb=>⟨om,E2.old b hb⟩;have l0:al false 1 H2 (ah H.next 9 0)=some (.int .u8 (k:Int)):=aj r2 rfl rfl;have l6:al false 1 H2 (ah H.next 9 6)=some vb:=aj r2 rfl rfl;rw[hr,hrs];refine ak rfl Qu rfl ?_;by_cases h5:k=5
  ·subst h5;simp only[Int.cast_ofNat_Int]at ld m2' l0;simp only[Sp,sC,seval,ln,hn0,wj,ix,ld,m1,m2',fld0,l0,Int.cast_ofNat_Int];exact⟨tt,E2⟩
  have h5':¬(k:Int)=5:=om;by_cases h3:k=3
  ·subst h3;simp only[Int.cast_ofNat_Int]at ld m2' l0;simp only[Sp,sC,seval,ln,hn0,wj,ix,ld,m1,m2',fld0,aA,l0,l6,Int.cast_ofNat_Int];refine(ih om om (y1.mono km) (y2.mono km)).mono ?_;rintro _ H3 ⟨rfl,E3⟩;have e3:=E3.next;have E23:aS H.next H H3:=⟨om,λc hc=>by rw[E3.old c om,E2.old c hc]⟩;cases hb:gt body with
   |false=>simp only[sC,seval];exact⟨tt,E23⟩
   |true=>have l7:al false 1 H3 (ah H.next 9 7)=some ve:=aj (r2.same (E3.old _ om)) rfl rfl;have km3:∀b,b<H.next->b<H3.next/\H3.get b=H.get b:=λb hb=>⟨om,E23.old b hb⟩;simp only[sC,seval,aA,l7];refine(ih om om (y3.mono km3) (y4.mono km3)).mono ?_;rintro _ H4 ⟨rfl,E4⟩;have e4:=E4.next;simp only[sC,seval];exact⟨by simp,om,λc hc=>by rw[E4.old c om,E23.old c hc]⟩
  ·have h3':¬(k:Int)=3:=om;simp only[Sp,sC,seval,ln,hn0,wj,ix,ld,m1,m2',fld0,l0,h5',h3',h5,h3];exact⟨tt,E2⟩
open Go.Abs Go.Abs.S
def QR(E:aO):(gh E).all ae.one=true:=by rw[List.all_eq_true];intro x hx;simp only[gh,List.mem_map]at hx;obtain⟨_,_,rfl⟩:=hx;rfl
def Q5(E:aO):(iu E).all ae.one=true:=by rw[List.all_eq_true];intro x hx;simp only[iu,List.mem_map]at hx;obtain⟨_,_,rfl⟩:=hx;rfl
def GT{H:aa}{v:ae}{L:List ae}{k:Nat}(h:aT 1 H v L k):gz 1 H v=some (k,L):=by obtain⟨c,hl⟩:=aT.cel1 h h.blk;have:=c.src;rwa [hl]at this
def GU{H:aa}{b:Nat}(g:H.get b=some (.cells [] 0 false))(hb:b<H.next):aT 1 H (.slice (some ⟨b,0,0⟩) 0 (.known 0)) [] 0:=.inr ⟨b,[],0,.known 0,rfl,.inr ⟨0,rfl,Nat.le_refl _,rfl⟩,g,Nat.le_refl _,rfl,rfl,Nat.le_refl _,hb⟩
def Ht{E:aO}{vn vk:ae}{H Hr:aa}(ln:aT 1 H vn (gh E) E.length)(lk:aT 1 H vk (iu E) E.length)(hHr:Hr=(H.push (.cells [] 0 false)).push (.cells [] 0 false))(s:Bs)(t:Nat)(hEl:E.length<=200000) :
  ∃H2 v1 H3 H4 v2 H5 w1 H6 w2 H7,kj (.fill H.next (.lit 0 [.str []] [])) Hr []=some (.slice (some ⟨H.next,0,0⟩) 0 (.known 0),H2)/\a8 1 16 H2 (.slice (some ⟨H.next,0,0⟩) 0 (.known 0)) vn=some (v1,H3) /\
   kj (.fill (H.next+1) (.lit 1 [.str []] [(0,1)])) H3 [.str s]=some (.slice (some ⟨H.next+1,1,0⟩) 1 (.known 1),H4)/\a8 1 16 H4 v1 (.slice (some ⟨H.next+1,1,0⟩) 1 (.known 1))=some (v2,H5) /\
   a8 1 1 (H5.push (.cells [] 0 false)) (.slice (some ⟨H5.next,0,0⟩) 0 (.known 0)) vk=some (w1,H6)/\a8 1 1 (H6.push (.cells [co t] 0 false)) w1 (.slice (some ⟨H6.next,1,0⟩) 1 (.known 1))=some (w2,H7) /\
   (∀c,cg vn=some c->H.next+1≠c)/\(∀c,cg v1=some c->H.next+1≠c)/\(∀c,c<H.next->Hr.get c=H.get c)/\(∀c,c<H.next->H2.get c=H.get c)/\(∀c,c<H.next->H3.get c=H.get c) /\
   aT 1 H7 v2 (gh (E++[(s,t)])) (E++[(s,t)]).length/\aT 1 H7 w2 (iu (E++[(s,t)])) (E++[(s,t)]).length/\bx v2 (H.next<=·)/\bx w2 (H.next<=·)/\aS H.next H H7:=by
 have nr:Hr.next=H.next+2:=by rw[hHr];rfl
 have kr:∀c,c<H.next->Hr.get c=H.get c:=λc hc=>by rw[hHr,aa.get_push,if_neg (by rw[aV];omega),aB hc]
 have gr0:Hr.get H.next=some (.cells [] 0 false):=by rw[hHr,aa.get_push,if_neg (by rw[aV];omega),aa.get_push,if_pos rfl]
 have gr1:Hr.get (H.next+1)=some (.cells [] 0 false):=by rw[hHr,aa.get_push,if_pos (by rw[aV])]
 have bN:=ln.blk;have bK:=lk.blk;obtain⟨H2,fl1,n2,g2,k2⟩:=ju gr0 (len:=0) (z:=[.str []]) (ofs:=[]) (l:=[]) (xs:=[]) rfl;have k02:∀c,c<H.next->H2.get c=H.get c:=λc hc=>by rw[k2 c om,kr c hc]
 have L2:aT 1 H2 (.slice (some ⟨H.next,0,0⟩) 0 (.known 0)) [] 0:=GU g2 om;have ln2:aT 1 H2 vn (gh E) E.length:=ln.same om (bN.mono λb hb=>k02 b hb);obtain⟨v1,H3,a3,L3,n3,b3,k3⟩:=L2.many (GT ln2) (by rw[eR];omega) (QR E) om (bytes:=16) om om;have bE:bx (.slice (some ⟨H.next,0,0⟩) 0 (.known 0)) (·=H.next):=cp rfl;have bv1:=b3 _ bE;have k03:∀c,c<H.next->H3.get c=H.get c:=λc hc=>by rw[k3 c om (bE.mono λb hb=>om),k02 c hc]
 have gr13:H3.get (H.next+1)=some (.cells [] 0 false):=by rw[k3 _ om (bE.mono λb hb=>om),k2 _ om];exact gr1
 rw[List.nil_append,Nat.zero_add]at L3;have bL3:=L3.blk;obtain⟨H4,fl2,n4,g4,k4⟩:=ju gr13 (len:=1) (z:=[.str []]) (ofs:=[(0,1)]) (l:=[.str s]) (xs:=[.str s]) rfl;have L4:aT 1 H4 v1 (gh E) E.length:=L3.same om (bv1.mono λb hb=>k4 b (by rcases hb with hb|hb<;>omega));obtain⟨v2,H5,a5,L5,n5,b5,k5⟩:=L4.many (kz g4) rfl rfl om (bytes:=16) om om;rw[ux E s t]at L5;have bv2:=b5 _ bv1;have k05:∀c,c<H.next->H5.get c=H.get c:=λc hc=>by rw[k5 c om (bv1.mono λb hb=>by rcases hb with hb|hb<;>omega),k4 c om,k03 c hc]
 have gp:(H5.push (.cells [] 0 false)).get H5.next=some (.cells [] 0 false):=by rw[aa.get_push,if_pos rfl]
 have np:(H5.push (.cells [] 0 false)).next=H5.next+1:=rfl;have M5:aT 1 (H5.push (.cells [] 0 false)) (.slice (some ⟨H5.next,0,0⟩) 0 (.known 0)) [] 0:=GU gp om;have lk5:aT 1 (H5.push (.cells [] 0 false)) vk (iu E) E.length:=lk.same om (bK.mono λb hb=>by show _=_;rw[aB om,k05 b hb]);obtain⟨w1,H6,a6,M6,n6,c6,k6⟩:=M5.many (GT lk5) (by rw[kI];omega) (Q5 E) om (bytes:=1) om om;have bF:bx (.slice (some ⟨H5.next,0,0⟩) 0 (.known 0)) (·=H5.next):=cp rfl;have bw1:=c6 _ bF;rw[List.nil_append,Nat.zero_add]at M6;obtain⟨w2,H7,a7,M7,n7,c7,k7⟩:=M6.add (j:=1) (xs:=[co t]) rfl rfl om (bytes:=1) om om;have a7':a8 1 1 (H6.push (.cells [co t] 0 false)) w1 (.slice (some ⟨H6.next,1,0⟩) 1 (.known 1))=some (w2,H7):=a7;rw[uy E s t]at M7;have bw2:=c7 _ bw1;have k57:∀c,c<H5.next->H7.get c=H5.get c:=λc hc=>by rw[k7 c om (bw1.mono λb hb=>by rcases hb with hb|hb<;>omega),k6 c om (bF.mono λb hb=>om),aB hc]
 have hEl2:(E++[(s,t)]).length=E.length+1:=by simp
 refine⟨H2,v1,H3,H4,v2,H5,w1,H6,w2,H7,fl1,a3,fl2,a5,a6,a7',?_,?_,kr,k02,k03,by rw[hEl2];exact L5.same om (L5.blk.mono λb hb=>k57 b hb),by rw[hEl2];exact M7,?_,?_,om,λc hc=>by rw[k57 c om,k05 c hc]⟩
 ·intro c hc;have:=fh bN ln c hc;omega
 ·intro c hc;have:=fh bv1 L3 c hc;rcases this with this|this<;>omega
 ·exact bv2.mono λb hb=>by rcases hb with(hb|hb)|hb<;>omega
 ·exact bw2.mono λb hb=>by rcases hb with(hb|hb)|hb<;>omega
def Hl{s:Bs}{E:aO}(hE:kW E):th s E=0↔bB s E=none:=by
 unfold th;cases hf:bB s E with
 |none=>simp
 |some i=>
  obtain⟨t,ht⟩:=jD hf;have:=hE.kind _ (XG ht);simp only at this;simp only[ht,Option.map_some,Option.getD_some];constructor
  ·intro h;omega
  ·intro h;simp at h
def LC{s:Bs}{E:aO}{i:Nat}(hf:bB s E=some i):E[i]?=some (s,th s E):=by obtain⟨t,ht⟩:=jD hf;unfold th;rw[hf];simp only[ht,Option.map_some,Option.getD_some]
def Sn:List Bs:=[[117],[118],[112],[110]]
def wB{s:Bs}{n:Nat}:∀{E:aO} {i:Nat},bB s E=some i->(s∈(E.take n).map (·.1)↔i<n)
 | [],i,h=>by simp[bB]at h
 |x::E,i,h=>by
  cases n with
  |zero=>simp
  |succ n=>
   simp only[bB]at h;simp only[List.take_succ_cons,List.map_cons,List.mem_cons];by_cases hx:x.1=s
   ·rw[if_pos hx]at h;simp only[sJ]at h;subst h;simp[hx]
   ·rw[if_neg hx]at h;cases hf:bB s E with
    |none=>rw[hf]at h;simp at h
    |some j=>
     rw[hf]at h;simp only[Option.map_some,sJ]at h;subst h;have:=wB (n:=n) hf;rw[this];constructor
     ·rintro(h|h)
      ·exact absurd h.symm hx
      ·omega
     ·intro h;exact .inr om
def N9{s:Bs}{E:aO}(hE:kW E){i:Nat}(hf:bB s E=some i):s∈Sn↔i<4:=by rw[<- wB hf,hE.four];rfl
def I8{E:aO}{k:Nat}{s:Bs}{t g:Nat}(h:dc E k s t=.error g):g≠0:=by
 simp only[dc]at h
 repeat' split at h
 all_goals first|(simp at h;done)|(simp only[Except.error.injEq]at h;omega)
def jv{f:Nat}{line:Int}(h:f≠0):yS (0,0) f line=(f,line):=by unfold yS;rw[if_pos ⟨rfl,h⟩]
def OL{line:Int}:yS (0,0) 0 line=(0,0):=by unfold yS;rw[if_neg (λh=>h.2 rfl)]
open Go.Abs Go.Abs.S
def Xt(N:Nat):Prop:=∀{l:List St} {C:List ae} {v vn vk:ae} {E:aO} {cb:Nat} {H:aa},au l<=N->be H cb (iA (0,0))->cb<H.next->eM (λb=>b<H.next/\b≠cb) H 9 v l.length C->lV (λb=>b<H.next/\b≠cb) H l C->aT 1 H vn (gh E) E.length->aT 1 H vk (iu E) E.length->bx vn (·≠cb)->bx vk (·≠cb) ->
 cA l=true->au l<=1000->bw l<=40->kW E->E.length+au l<=100000->aq Tryz.prog aF 88 [ah cb 2 0,v,vn,vk] H λ_ H'=>be H' cb (iA (fi (ft E false l)))/\Fp cb H H'
structure DSt(l:List St)(E0:aO)(cb:Nat)(H K:aa)(i:Nat)(Ei:aO)(vn vk:ae):Prop where
 ck:ft E0 false l=ft Ei (jr l i) (l.drop i)
 ln:aT 1 K vn (gh Ei) Ei.length
 lk:aT 1 K vk (iu Ei) Ei.length
 bn:bx vn (·≠cb)
 bk:bx vk (·≠cb)
 sc:kW Ei
 len:Ei.length<=E0.length+au (l.take i)
set_option maxHeartbeats 2000000 in
def LW{N:Nat}(ih:∀M,M<N->Xt M):Xt N:=by
 intro l C v vn vk E cb H hsz rc hcb z1 z2 ln lk bn bk hok hs hd hE hl;have lv:=z1.len;have hlenl:=db l;refine ak rfl Su rfl ?_;simp only[W6,sC,seval];refine aM (λm (T:bZ) K=>∃(i:Nat) (f:lY) (vn1 vk1:ae),m=l.length-i/\i<=l.length/\T 0=ah cb 2 0/\T 1=v/\T 2=vn1/\T 3=vk1/\T 8=.int .i64 (i:Int)/\be K cb (iA f)/\Fp cb H K/\((f.1≠0/\fi (ft E false l)=f)∨(f=(0,0)/\∃Ei,DSt l E cb H K i Ei vn1 vk1))) l.length
  ⟨0,(0,0),vn,vk,rfl,Nat.zero_le _,by simp only[sC,seval];try rfl,by simp only[sC,seval];try rfl,by simp only[sC,seval];try rfl,by simp only[sC,seval];try rfl,by simp only[sC,seval];try rfl,rc,Fp.refl _ _,.inr ⟨rfl,E,rfl,ln,lk,bn,bk,hE,by simp[au]⟩⟩ ?_
 rintro m T K ⟨i,f,vn1,vk1,rfl,hi,t0,t1,t2,t3,t8,rK,FK,hst⟩;have nK:=FK.next;have lf:al false 1 K (ah cb 2 0)=some (.int .i64 (f.1:Int)):=aj rK rfl rfl;rcases hst with⟨hf,hfl⟩|⟨rfl,Ei,D⟩
 ·have hf':¬(f.1:Int)=0:=om;by_cases hlt:(i:Int)<(l.length:Int)
  ·simp only[sC,seval,t0,t1,t8,lv,hlt,az,fld0,lf,hf'];exact⟨_,rfl,by rw[hfl];exact rK,FK⟩
  ·simp only[sC,seval,t0,t1,t8,lv,hlt];exact⟨_,rfl,by rw[hfl];exact rK,FK⟩
 have lf0:al false 1 K (ah cb 2 0)=some (.int .i64 0):=lf;by_cases hlt:i<l.length
 case neg=>
  obtain rfl:i=l.length:=om;have hlt':¬(l.length:Int)<(l.length:Int):=om;have hfl:fi (ft E false l)=(0,0):=by rw[D.ck,List.drop_length];rfl
  simp only[sC,seval,t0,t1,t8,lv,hlt'];exact⟨_,rfl,by rw[hfl];exact rK,FK⟩
 have hlt':(i:Int)<(l.length:Int):=om;obtain⟨x,he⟩:∃e,l[i]?=some e:=⟨_,Xx hlt⟩;have hts:l.take (i+1)=l.take i++[x]:=by rw[List.take_add_one,he];rfl
 have hdrop:l.drop i=x::l.drop (i+1):=by rw[<- (Xy.1 he).2,<- List.drop_eq_getElem_cons hlt]
 have hmem:=XG he;have hsm:=dl hmem;have hdm:=mz hmem;have km:∀{K:aa},Fp cb H K->∀b,(b<H.next/\b≠cb)->(b<K.next/\b≠cb)/\K.get b=H.get b:=λF b hb=>⟨⟨by have:=F.next;omega,hb.2⟩,F.old b hb.1 hb.2⟩;have z1K:=z1.mono (km FK);have z2K:=z2.mono (km FK);have ix:=z1K.idx hlt;have ld:=z1K.load hlt;have wi:IntKind.i64.wrap ((i:Int)+1)=((i+1:Nat):Int):=fT i 1 om;have hx3:=z2K.at he;have hone:=hx3.one;have hokx:=Ah hok hmem;have hszt:au (l.take i)+x.size<=au l:=by
  have:au (l.take (i+1))<=au l:=by
   conv=>rhs;rw[<- List.take_append_drop (i+1) l,cZ]
   omega
  rw[hts,cZ]at this;simp only[au]at this;omega
 have hck:=D.ck;rw[hdrop]at hck;have hnl:=D.len;obtain⟨k,s,e,body,els,line⟩:=x;obtain⟨ce,vb,Cb,ve,Ce,hcell,x1,y1,y2,y3,y4⟩:=hx3;obtain⟨c0,c1,c2,c3,rfl⟩:∃a b c d,ce=[a,b,c,d]:=by
  have:=x1.len
  match ce,this with
  | [a,b,c,d],_=>exact⟨a,b,c,d,rfl⟩
 rw[hcell]at ld hone;obtain⟨hlf,hokE,hokB,hokL⟩:=oT hokx;have hk5:=uE hlf;have hS:(St.mk k s e body els line).size=e.size+au body+au els+1:=rfl;have hD:(St.mk k s e body els line).deep=max e.deep (max (bw body) (bw els))+1:=rfl;obtain⟨H1,m1,r1,n1,k1⟩:=aC K [.int .u8 0,.str [],.int .u8 0,.str [],.int .i64 0,.slice none 0 (.known 0),.slice none 0 (.known 0),.slice none 0 (.known 0),.int .i64 0] (n:=9) rfl;obtain⟨H2,m2,r2,n2,k2⟩:=am r1 (n:=9) rfl (xs:=.int .u8 (k:Int)::.str s::([c0,c1,c2,c3]++[vb,ve,.int .i64 line])) rfl hone;have m2':bh 9 H1 (ah K.next 9 0) (.agg [.int .u8 (k:Int),.str s,c0,c1,c2,c3,vb,ve,.int .i64 line])=some H2:=m2;obtain⟨sb,hsb⟩:∃b,b=K.next:=⟨_,rfl⟩;rw[<- hsb]at m1 r1 k1 m2' r2 k2;have E2:aS K.next K H2:=⟨om,λc hc=>by rw[k2 c om,k1 c om]⟩;have F2:Fp cb H H2:=⟨om,λc h1 h2=>by rw[E2.old c om,FK.old c h1 h2]⟩;have rc2:=rK.same (E2.old cb om);have ldS:∀{L:aa},L.get sb=H2.get sb->al false 1 L (ah sb 9 0)=some (.int .u8 (k:Int))/\al false 1 L (ah sb 9 1)=some (.str s)/\al true 4 L (ah sb 9 2)=some (.agg [c0,c1,c2,c3])/\al false 1 L (ah sb 9 6)=some vb/\al false 1 L (ah sb 9 7)=some ve/\al false 1 L (ah sb 9 8)=some (.int .i64 line):=λq=>by have r:=r2.same q;refine⟨aj r rfl rfl,aj r rfl rfl,?_,aj r rfl rfl,aj r rfl rfl,aj r rfl rfl⟩;have h:=iF r (n:=9) rfl (i:=2) (k:=4) (by simp);simp only[al,ah];rw[h];rfl
 obtain⟨q0,q1,q2,q6,q7,q8⟩:=ldS (L:=H2) rfl;have ln2:aT 1 H2 vn1 (gh Ei) Ei.length:=D.ln.same om λa j r e=>E2.old _ (D.ln.blk a j r e);have lk2:aT 1 H2 vk1 (iu Ei) Ei.length:=D.lk.same om λa j r e=>E2.old _ (D.lk.blk a j r e);have cn2:=(aT.cel1 ln2 ln2.blk).1;have ck2:=(aT.cel1 lk2 lk2.blk).1;by_cases hi0:i=0
 case' pos=>
  have h0:¬(0:Int)<(i:Int):=om;have hprev:jr l i=false:=by rw[hi0];rfl
  simp only[sC,seval,t0,t1,t2,t3,t8,lv,hlt',az,fld0,lf0,ix,ld,m1,m2',h0,aA,q2]
 case' neg=>
  have h0:(0:Int)<(i:Int):=om;obtain⟨y,hy⟩:∃y,l[i-1]?=some y:=⟨_,Xx om⟩;have z12:=z1.mono (km F2);have z22:=z2.mono (km F2);have wj:IntKind.i64.wrap ((i:Int)-1)=((i-1:Nat):Int):=iP;have ixy:=z12.idx (i:=i-1) om;have pty:=z12.pt (i:=i-1) om;have hxy:=z22.at hy;have hpr:jr l i=decide (y.kind=5):=by rw[show i=(i-1)+1 by omega];simp only[jr,hy]
  obtain⟨ky,sy,ey,by_,ly,ny⟩:=y;obtain⟨cy,vby,Cby,vey,Cey,hcy,_⟩:=hxy;rw[hcy]at pty;have f0y:=pty.fld0;have l0y:al false 1 H2 (cz 9 v (i-1))=some (.int .u8 (ky:Int)):=pty.load0 rfl;have hkd:(St.mk ky sy ey by_ ly ny).kind=ky:=rfl;rw[hkd]at hpr;by_cases h5:ky=5
  ·have h5':(ky:Int)=5:=om;have hprev:jr l i=true:=by rw[hpr];exact decide_eq_true h5
   have hfl:fi (ft E false l)=(113,line):=by rw[hck,hprev];rfl
   simp only[sC,seval,t0,t1,t2,t3,t8,lv,hlt',az,fld0,lf0,ix,ld,m1,m2',h0,wj,ixy,f0y,l0y,h5',aA,q8];refine(dQ (f:=113) rc2 om).mono ?_;rintro _ H5 ⟨rJ,n5,k5⟩;rw[jv dD]at rJ;simp only[sC,seval];exact⟨_,rfl,by rw[hfl];exact rJ,F2.trans ⟨om,λc _ h2=>k5 c h2⟩⟩
  have h5':¬(ky:Int)=5:=om;have hprev:jr l i=false:=by rw[hpr];exact decide_eq_false h5
  simp only[sC,seval,t0,t1,t2,t3,t8,lv,hlt',az,fld0,lf0,ix,ld,m1,m2',h0,wj,ixy,f0y,l0y,h5',aA,q2]
 all_goals
  refine(tp D.sc om (x1.mono λb hb=>⟨om,E2.old b hb.1⟩) cn2 ck2 om om).mono ?_;rintro _ H3 ⟨rfl,E3⟩;have e3:=E3.next;have rc3:=rc2.same (E3.old cb om);have F3:Fp cb K H3:=⟨om,λc h1 _=>by rw[E3.old c om,E2.old c h1]⟩;have g3:=E3.old sb om;obtain⟨q0,q1,q2,q6,q7,q8⟩:=ldS g3;cases hty:lB Ei e with
  |error g=>
   have hg:=oK hty;have hg':¬(g:Int)=0:=om;have hfl:fi (ft E false l)=(g,line):=by rw[hck,hprev];simp only[ft,xJ,Ba,hty];rfl
   simp only[sC,seval,oJ,bv,bu,t0,t1,t2,t3,t8,aA,q8];refine(dQ rc3 om).mono ?_;rintro _ H4 ⟨rc4,n4,k4⟩;rw[jv hg]at rc4;have lg:al false 1 H4 (ah cb 2 0)=some (.int .i64 (g:Int)):=aj rc4 rfl rfl;simp only[sC,seval,t0,t1,t2,t3,t8,az,fld0,lg,hg'];exact⟨_,rfl,by rw[hfl];exact rc4,FK.trans (F3.trans ⟨om,λc _ h2=>k4 c h2⟩)⟩
  |ok t=>
   have ht2:=qB D.sc hty;simp only[sC,seval,oJ,bv,bu,t0,t1,t2,t3,t8,aA,q8];refine(dQ (f:=0) rc3 om).mono ?_;rintro _ H4 ⟨rc4,n4,k4⟩;rw[OL]at rc4;have F4:Fp cb K H4:=F3.trans ⟨om,λc _ h2=>k4 c h2⟩;have g4:H4.get sb=H2.get sb:=(k4 sb om).trans g3;have lg:al false 1 H4 (ah cb 2 0)=some (.int .i64 0):=aj rc4 rfl rfl;have ln4:aT 1 H4 vn1 (gh Ei) Ei.length:=D.ln.same om λa j r e=>F4.old _ (D.ln.blk a j r e) (D.bn a j r e);have lk4:aT 1 H4 vk1 (iu Ei) Ei.length:=D.lk.same om λa j r e=>F4.old _ (D.lk.blk a j r e) (D.bk a j r e);obtain⟨q0,q1,q2,q6,q7,q8⟩:=ldS g4;simp only[sC,seval,t0,t1,t2,t3,t8,az,fld0,aA,lg,q1];refine(Fw (aT.cel1 ln4 ln4.blk).1 (aT.cel1 lk4 lk4.blk).1 om).mono ?_;rintro _ _ ⟨rfl,rfl⟩;simp only[sW,sL,lC,kB,rY,sB,seval,t0,t1,t2,t3,t8,fld0,q0];rw[ip];refine im (λ(U:bZ) L=>U 0=ah cb 2 0/\U 1=v/\U 8=.int .i64 (i:Int)/\U 9=ah sb 9 0/\L.get sb=H2.get sb/\Fp cb K L/\H2.next<=L.next/\((∃g,dc Ei k s t=.error g/\be L cb (iA (g,line)))∨(∃E',dc Ei k s t=.ok E'/\be L cb (iA (0,0))/\∃vn2 vk2,U 2=vn2/\U 3=vk2/\aT 1 L vn2 (gh E') E'.length/\aT 1 L vk2 (iu E') E'.length/\bx vn2 (·≠cb)/\bx vk2 (·≠cb)))) (cU _ _) ?_ ?_;rotate_left
   ·rintro U L ⟨u0,u1,u8,u9,gs,FL,nL,ho⟩;obtain⟨q0,q1,q2,q6,q7,q8⟩:=ldS gs;have kmL:∀{L':aa},Fp cb K L'->∀b,(b<K.next/\b≠cb)->(b<L'.next/\b≠cb)/\L'.get b=K.get b:=λF b hb=>⟨⟨by have:=F.next;omega,hb.2⟩,F.old b hb.1 hb.2⟩;have lb:=y1.len;have le:=y3.len;have next:∀{L':aa} {g:lY} {w1 w2:ae},Fp cb K L'->be L' cb (iA g)->g.1≠0->fi (ft E false l)=g->∃n',n'<l.length-i/\∃(i':Nat) (f:lY) (vn1 vk1:ae),n'=l.length-i'/\i'<=l.length/\ah cb 2 0=ah cb 2 0/\v=v/\w1=vn1/\w2=vk1/\ae.int .i64 ((i+1:Nat):Int)=.int .i64 (i':Int)/\be L' cb (iA f)/\Fp cb H L'/\((f.1≠0/\fi (ft E false l)=f)∨(f=(0,0)/\∃Ei,DSt l E cb H L' i' Ei vn1 vk1)):=λF r h1 h2=>
     ⟨l.length-(i+1),om,i+1,_,_,_,rfl,om,rfl,rfl,rfl,rfl,rfl,r,FK.trans F,.inl ⟨h1,h2⟩⟩
    rcases ho with⟨g,hh,rQ⟩|⟨E',hh,rQ,vn2,vk2,u2,u3,ln2,lk2,bn2,bk2⟩
    ·have hg:g≠0:=I8 hh;have hfl:fi (ft E false l)=(g,line):=by rw[hck,hprev];simp only[ft,xJ,Ba,hty,hh];rfl
     simp only[sC,seval,u0,u1,u8,u9,aA,q6];refine(wG (x:=(g,line)) rQ hg lb).mono ?_;rintro _ _ rfl;simp only[sC,seval,u0,u1,u8,u9,aA,q7];refine(wG (x:=(g,line)) rQ hg le).mono ?_;rintro _ _ rfl;simp only[sC,seval,u0,u1,u8,u9,wi];exact⟨l.length-(i+1),om,i+1,(g,line),_,_,rfl,om,tt,tt,rfl,rfl,tt,rQ,FK.trans FL,.inl ⟨hg,hfl⟩⟩
    ·have hE':=td D.sc ht2 hh;have hst:Ba Ei k s e=.ok E':=by simp only[Ba,hty];exact hh
     have hln:=Gv hst;simp only[sC,seval,u0,u1,u2,u3,u8,u9,aA,q6];refine(ih (au body) om rL rQ om (y1.mono (kmL FL)) (y2.mono (kmL FL)) ln2 lk2 bn2 bk2 hokB om om hE' om).mono ?_;rintro _ L2 ⟨rL2,FL2⟩;have nL2:=FL2.next;have gs2:L2.get sb=H2.get sb:=(FL2.old sb om om).trans gs;have FK2:=FL.trans FL2;obtain⟨q0,q1,q2,q6,q7,q8⟩:=ldS gs2;cases hb:ft E' false body with
     |error g=>
      rw[hb]at rL2;have hg:=iR hb;have hfl:fi (ft E false l)=g:=by rw[hck,hprev];simp only[ft,xJ,hst,hb];rfl
      simp only[sC,seval,u0,u1,u2,u3,u8,u9,aA,q7];refine(wG (x:=g) rL2 hg le).mono ?_;rintro _ _ rfl;simp only[sC,seval,u0,u1,u2,u3,u8,u9,wi];exact⟨l.length-(i+1),om,i+1,g,_,_,rfl,om,tt,tt,rfl,rfl,tt,rL2,FK.trans FK2,.inl ⟨hg,hfl⟩⟩
     |ok Eb=>
      rw[hb]at rL2;have ln3:aT 1 L2 vn2 (gh E') E'.length:=ln2.same om λa j r e=>FL2.old _ (ln2.blk a j r e) (bn2 a j r e);have lk3:aT 1 L2 vk2 (iu E') E'.length:=lk2.same om λa j r e=>FL2.old _ (lk2.blk a j r e) (bk2 a j r e);simp only[sC,seval,u0,u1,u2,u3,u8,u9,aA,q7];refine(ih (au els) om rL rL2 om (y3.mono (kmL FK2)) (y4.mono (kmL FK2)) ln3 lk3 bn2 bk2 hokL om om hE' om).mono ?_;rintro _ L3 ⟨rL3,FL3⟩;have FK3:=FK2.trans FL3;have nL3:=FL3.next;simp only[sC,seval,u0,u1,u2,u3,u8,u9,wi];cases hl2:ft E' false els with
      |error g=>
       rw[hl2]at rL3;have hg:=iR hl2;have hfl:fi (ft E false l)=g:=by rw[hck,hprev];simp only[ft,xJ,hst,hb,hl2];rfl
       exact⟨l.length-(i+1),om,i+1,g,_,_,rfl,om,tt,tt,rfl,rfl,tt,rL3,FK.trans FK3,.inl ⟨hg,hfl⟩⟩
      |ok El=>
       rw[hl2]at rL3;have hnx:jr l (i+1)=decide (k=5):=by simp only[jr,he];rfl
       exact⟨l.length-(i+1),om,i+1,(0,0),_,_,rfl,om,tt,tt,rfl,rfl,tt,rL3,FK.trans FK3,.inr ⟨rfl,E',by rw[hck,hprev,hnx];simp only[ft,xJ,hst,hb,hl2];rfl,
        ln3.same om λa j r e=>FL3.old _ (ln3.blk a j r e) (bn2 a j r e),lk3.same om λa j r e=>FL3.old _ (lk3.blk a j r e) (bk2 a j r e),bn2,bk2,hE',by rw[hts,cZ];simp only[au];omega⟩⟩
   ·have keepS:∀{L:aa},(∀c,c≠cb->L.get c=H4.get c)->L.next=H4.next->aT 1 L vn1 (gh Ei) Ei.length/\aT 1 L vk1 (iu Ei) Ei.length:=λh hn=>⟨ln4.same om (D.bn.mono λc hc=>h c hc),lk4.same om (D.bk.mono λc hc=>h c hc)⟩;have bad:∀{L:aa} {g:Nat},(∀c,c≠cb->L.get c=H4.get c)->L.next=H4.next->L.get sb=H2.get sb/\Fp cb K L/\H2.next<=L.next:=λh hn=>⟨(h sb om).trans g4,F4.trans ⟨om,λc _ h2=>h c h2⟩,om⟩;rcases hk5 with rfl|rfl|rfl|rfl|rfl
    ·by_cases hin:bB s Ei=none
     ·have h0:((th s Ei:Nat):Int)=0:=by rw[(Hl D.sc).2 hin];rfl
      have hh:dc Ei 1 s t=.ok (Ei++[(s,t)]):=by simp only[dc,if_true];rw[if_neg (gT.1 hin)]
      have lnJ:=ln4;have lkJ:=lk4;have gJ:=g4;have FJ:=F4;have rJ:=rc4;simp only[sC,seval,t0,t1,t2,t3,t8,Int.cast_ofNat_Int,co,h0,aA,q8];obtain⟨Jr,hJr⟩:∃X,X=(H4.push (.cells [] 0 false)).push (.cells [] 0 false):=⟨_,rfl⟩;obtain⟨A2,v1,A3,A4,v2,A5,w1,A6,w2,A7,fl1,a3,fl2,a5,a6,a7,ap1,ap2,kr,kq,ks,M1,M2,bm1,bm2,EJ⟩:=Ht lnJ lkJ hJr s t om;have s1r:=(ldS (L:=Jr) ((kr sb om).trans gJ)).2.1;have s12:=(ldS (L:=A2) ((kq sb om).trans gJ)).2.1;have s13:=(ldS (L:=A3) ((ks sb om).trans gJ)).2.1;have apN:∀{x:ae},(∀c,cg x=some c->H4.next+1≠c)->mV .apart [.slice (some ⟨H4.next+1,1,0⟩) 1 (.known 1),x]=some (.bool true):=λh=>jH (pa _ h);have p1:=apN (x:=.slice (some ⟨H4.next,0,0⟩) 0 (.known 0)) λc hc=>by simp only[cg,sJ]at hc;omega
      have p2:=apN (x:=vn1) ap1;have p3:=apN (x:=v1) ap2;have b0:aL 0 [.int .u8 0] A5 []=some (.slice (some ⟨A5.next,0,0⟩) 0 (.known 0),A5.push (.cells [] 0 false)):=rfl;have b1:aL 1 [.int .u8 0] A6 [(0,1,.int .u8 (t:Int))]=some (.slice (some ⟨A6.next,1,0⟩) 1 (.known 1),A6.push (.cells [co t] 0 false)):=rfl;refine er ?_;simp only[aH,dT,bp,iE,jF,<- hJr];simp only[sR,sC,seval,t0,t1,t2,t3,t8,aA,fl1,a3,s13,fl2,a5];simp only[ci,cj,bP,dE,cm,cQ,and_true,true_and,List.map_cons,List.map_nil,sC,seval,t0,t1,t2,t3,t8,aA];refine⟨⟨⟨_,rfl,λ_=>⟨_,s1r,by simp[aeq]⟩⟩,⟨_,rfl,λ_=>⟨_,s12,by simp[aeq]⟩⟩⟩,?_⟩;simp only[sC,seval,t0,t1,t2,t3,t8,p1,p2,p3,b0,a6,b1,a7];exact⟨tt,tt,tt,tt,(EJ.old sb om).trans gJ,FJ.trans ⟨EJ.next,λc h1 _=>EJ.old c h1⟩,by have:=EJ.next;omega,.inr ⟨_,hh,rJ.same (EJ.old cb om),v2,w2,tt,tt,M1,M2,bm1.mono λc hc=>om,bm2.mono λc hc=>om⟩⟩
     ·have h0:¬((th s Ei:Nat):Int)=0:=by
       have:=mt (Hl D.sc).1 hin;omega
      have hh:dc Ei 1 s t=.error 110:=by simp only[dc,if_true];rw[if_pos (Classical.byContradiction λq=>hin (gT.2 q))]
      simp only[sC,seval,t0,t1,t2,t3,t8,Int.cast_ofNat_Int,co,h0,aA,q8];refine(dQ (f:=110) rc4 om).mono ?_;rintro _ H5 ⟨rJ,n5,k5⟩;rw[jv dD]at rJ;obtain⟨lnJ,lkJ⟩:=keepS k5 n5;obtain⟨gJ,FJ,_⟩:=bad (g:=0) k5 n5;simp only[sC,seval,t0,t1,t2,t3,t8];obtain⟨Jr,hJr⟩:∃X,X=(H5.push (.cells [] 0 false)).push (.cells [] 0 false):=⟨_,rfl⟩;obtain⟨A2,v1,A3,A4,v2,A5,w1,A6,w2,A7,fl1,a3,fl2,a5,a6,a7,ap1,ap2,kr,kq,ks,M1,M2,bm1,bm2,EJ⟩:=Ht lnJ lkJ hJr s t om;have s1r:=(ldS (L:=Jr) ((kr sb om).trans gJ)).2.1;have s12:=(ldS (L:=A2) ((kq sb om).trans gJ)).2.1;have s13:=(ldS (L:=A3) ((ks sb om).trans gJ)).2.1;have apN:∀{x:ae},(∀c,cg x=some c->H5.next+1≠c)->mV .apart [.slice (some ⟨H5.next+1,1,0⟩) 1 (.known 1),x]=some (.bool true):=λh=>jH (pa _ h);have p1:=apN (x:=.slice (some ⟨H5.next,0,0⟩) 0 (.known 0)) λc hc=>by simp only[cg,sJ]at hc;omega
      have p2:=apN (x:=vn1) ap1;have p3:=apN (x:=v1) ap2;have b0:aL 0 [.int .u8 0] A5 []=some (.slice (some ⟨A5.next,0,0⟩) 0 (.known 0),A5.push (.cells [] 0 false)):=rfl;have b1:aL 1 [.int .u8 0] A6 [(0,1,.int .u8 (t:Int))]=some (.slice (some ⟨A6.next,1,0⟩) 1 (.known 1),A6.push (.cells [co t] 0 false)):=rfl;refine er ?_;simp only[aH,dT,bp,iE,jF,<- hJr];simp only[sR,sC,seval,t0,t1,t2,t3,t8,aA,fl1,a3,s13,fl2,a5];simp only[ci,cj,bP,dE,cm,cQ,and_true,true_and,List.map_cons,List.map_nil,sC,seval,t0,t1,t2,t3,t8,aA];refine⟨⟨⟨_,rfl,λ_=>⟨_,s1r,by simp[aeq]⟩⟩,⟨_,rfl,λ_=>⟨_,s12,by simp[aeq]⟩⟩⟩,?_⟩;simp only[sC,seval,t0,t1,t2,t3,t8,p1,p2,p3,b0,a6,b1,a7];exact⟨tt,tt,tt,tt,(EJ.old sb om).trans gJ,FJ.trans ⟨EJ.next,λc h1 _=>EJ.old c h1⟩,by have:=EJ.next;omega,.inl ⟨110,hh,rJ.same (EJ.old cb om)⟩⟩
    ·obtain⟨Hq,hHq⟩:∃X,X=H4.push (.cells (Sn.map .str) 0 false):=⟨_,rfl⟩;have Eq:aS H4.next H4 Hq:=by rw[hHq];exact⟨by show _<=H4.next+1;omega,λc hc=>aB hc⟩
     have nq:Hq.next=H4.next+1:=by rw[hHq];rfl
     have bq:aL 4 [.str []] H4 [(0,1,.str [117]),(1,1,.str [118]),(2,1,.str [112]),(3,1,.str [110])]=some (.slice (some ⟨H4.next,4,0⟩) 4 (.known 4),Hq):=by rw[hHq];rfl
     have cq:fo (H4.next+1) Hq (.slice (some ⟨H4.next,4,0⟩) 4 (.known 4)) (Sn.map .str):=by rw[hHq];exact dd (xs:=Sn.map .str)
     cases hin:bB s Ei with
     |none=>
      have h0:((th s Ei:Nat):Int)=0:=by rw[(Hl D.sc).2 hin];rfl
      have hh:dc Ei 2 s t=.error 110:=by simp only[dc,hin];rfl
      simp only[sC,seval,t0,t1,t2,t3,t8,Int.cast_ofNat_Int,co,h0,aA,q8];refine(dQ (f:=110) rc4 om).mono ?_;rintro _ H5 ⟨rJ,n5,k5⟩;rw[jv dD]at rJ;obtain⟨gJ,FJ,nJ⟩:=bad (g:=0) k5 n5;simp only[sC,seval,t0,t1,t2,t3,t8];exact⟨tt,tt,tt,tt,gJ,FJ,nJ,.inl ⟨110,hh,rJ⟩⟩
     |some n=>
      have h0:¬((th s Ei:Nat):Int)=0:=by have:=mt (Hl D.sc).1 (by rw[hin];simp);omega
      have hei:=LC hin;have h4i:=N9 D.sc hin;have rq:=rc4.same (Eq.old cb om);simp only[sC,seval,t0,t1,t2,t3,t8,Int.cast_ofNat_Int,co,h0,aA,q1,bq];refine(yW cq dD).mono ?_;rintro _ _ ⟨rfl,rfl⟩;by_cases h4:n<4
      ·have hd:decide (s∈Sn)=true:=decide_eq_true (h4i.2 h4);have hh:dc Ei 2 s t=.error 110:=by simp only[dc,hin,if_pos h4];rfl
       obtain⟨q0,q1,q2,q6,q7,q8⟩:=ldS (L:=Hq) ((Eq.old sb om).trans g4);simp only[sC,seval,t0,t1,t2,t3,t8,hd,aA,q8];refine(dQ (f:=110) rq om).mono ?_;rintro _ H5 ⟨rJ,n5,k5⟩;rw[jv dD]at rJ;simp only[sC,seval,t0,t1,t2,t3,t8];exact⟨tt,tt,tt,tt,by rw[k5 sb om,Eq.old sb om,g4],F4.trans ⟨om,λc h1 h2=>by rw[k5 c h2,Eq.old c h1]⟩,om,.inl ⟨110,hh,rJ⟩⟩
      ·have hd:decide (s∈Sn)=false:=decide_eq_false (mt h4i.1 h4);by_cases hkt:th s Ei=t
       ·have hkt':((th s Ei:Nat):Int)=(t:Int):=om;have hh:dc Ei 2 s t=.ok Ei:=by simp only[dc,hin,if_neg h4,hei,if_pos hkt];rfl
        simp only[sC,seval,t0,t1,t2,t3,t8,hd,hkt'];exact⟨tt,tt,tt,tt,by rw[Eq.old sb om,g4],F4.trans ⟨om,λc h1 _=>Eq.old c h1⟩,om,.inr ⟨_,hh,rq,vn1,vk1,tt,tt,ln4.same om (ln4.blk.mono λc hc=>Eq.old c hc),lk4.same om (lk4.blk.mono λc hc=>Eq.old c hc),D.bn,D.bk⟩⟩
       ·have hkt':¬((th s Ei:Nat):Int)=(t:Int):=om;have hh:dc Ei 2 s t=.error 111:=by simp only[dc,hin,if_neg h4,hei,if_neg hkt];rfl
        obtain⟨q0,q1,q2,q6,q7,q8⟩:=ldS (L:=Hq) ((Eq.old sb om).trans g4);simp only[sC,seval,t0,t1,t2,t3,t8,hd,hkt',aA,q8];refine(dQ (f:=111) rq om).mono ?_;rintro _ H5 ⟨rJ,n5,k5⟩;rw[jv dD]at rJ;simp only[sC,seval,t0,t1,t2,t3,t8];exact⟨tt,tt,tt,tt,by rw[k5 sb om,Eq.old sb om,g4],F4.trans ⟨om,λc h1 h2=>by rw[k5 c h2,Eq.old c h1]⟩,om,.inl ⟨111,hh,rJ⟩⟩
    ·rcases ht2 with rfl|rfl
     ·have hh:dc Ei 3 s 1=.ok Ei:=rfl;simp only[sC,seval,t0,t1,t2,t3,t8,Int.cast_ofNat_Int,co];exact⟨tt,tt,tt,tt,g4,F4,om,.inr ⟨_,hh,rc4,vn1,vk1,tt,tt,ln4,lk4,D.bn,D.bk⟩⟩
     ·have hh:dc Ei 3 s 2=.error 111:=rfl;simp only[sC,seval,t0,t1,t2,t3,t8,Int.cast_ofNat_Int,co,aA,q8];refine(dQ (f:=111) rc4 om).mono ?_;rintro _ H5 ⟨rJ,n5,k5⟩;rw[jv dD]at rJ;obtain⟨gJ,FJ,nJ⟩:=bad (g:=0) k5 n5;simp only[sC,seval,t0,t1,t2,t3,t8];exact⟨tt,tt,tt,tt,gJ,FJ,nJ,.inl ⟨111,hh,rJ⟩⟩
    ·rcases ht2 with rfl|rfl
     ·have hh:dc Ei 4 s 1=.ok Ei:=rfl;simp only[sC,seval,t0,t1,t2,t3,t8,Int.cast_ofNat_Int,co];exact⟨tt,tt,tt,tt,g4,F4,om,.inr ⟨_,hh,rc4,vn1,vk1,tt,tt,ln4,lk4,D.bn,D.bk⟩⟩
     ·have hh:dc Ei 4 s 2=.error 111:=rfl;simp only[sC,seval,t0,t1,t2,t3,t8,Int.cast_ofNat_Int,co,aA,q8];refine(dQ (f:=111) rc4 om).mono ?_;rintro _ H5 ⟨rJ,n5,k5⟩;rw[jv dD]at rJ;obtain⟨gJ,FJ,nJ⟩:=bad (g:=0) k5 n5;simp only[sC,seval,t0,t1,t2,t3,t8];exact⟨tt,tt,tt,tt,gJ,FJ,nJ,.inl ⟨111,hh,rJ⟩⟩
    ·rcases ht2 with rfl|rfl
     ·have hh:dc Ei 5 s 1=.error 111:=rfl;simp only[sC,seval,t0,t1,t2,t3,t8,Int.cast_ofNat_Int,co,aA,q8];refine(dQ (f:=111) rc4 om).mono ?_;rintro _ H5 ⟨rJ,n5,k5⟩;rw[jv dD]at rJ;obtain⟨gJ,FJ,nJ⟩:=bad (g:=0) k5 n5;simp only[sC,seval,t0,t1,t2,t3,t8];exact⟨tt,tt,tt,tt,gJ,FJ,nJ,.inl ⟨111,hh,rJ⟩⟩
     ·have hh:dc Ei 5 s 2=.ok Ei:=rfl;simp only[sC,seval,t0,t1,t2,t3,t8,Int.cast_ofNat_Int,co];exact⟨tt,tt,tt,tt,g4,F4,om,.inr ⟨_,hh,rc4,vn1,vk1,tt,tt,ln4,lk4,D.bn,D.bk⟩⟩
def OP(N:Nat):Xt N:=by
 induction N using Nat.strongRecOn with
 |_ N ih=>exact LW ih
open Go.Abs Go.Abs.S
def CR{l:List St}{C:List ae}{v:ae}{H:aa}(z1:eM (·<H.next) H 9 v l.length C)(z2:lV (·<H.next) H l C)(hsz:au l<=1000000) :
  aq Tryz.prog aF 46 [v] H λu H'=>u=.agg (iA (dm l))/\aS H.next H H':=by
 refine ak rfl Ws rfl ?_;obtain⟨H1,m1,r1,n1,k1⟩:=aC H [.int .i64 0,.int .i64 0] (n:=2) rfl;have k1':∀c,c<H.next->H1.get c=H.get c:=λc hc=>k1 c om;have km1:∀b,b<H.next->b<H1.next/\H1.get b=H.get b:=λb hb=>⟨om,k1' b hb⟩;obtain⟨rb,hrb⟩:∃b,b=H.next:=⟨_,rfl⟩;rw[<- hrb]at m1 r1 k1;simp only[c46,sC,seval,m1];refine(CG (z1.mono km1) (z2.mono km1) hsz).mono ?_;rintro _ H2 ⟨rfl,E2⟩;have e2:=E2.next;have r2:=r1.same (E2.old rb om);unfold dm;cases hr:d8 l with
 |false=>have bb:aJ [.int .i64 0,.int .i64 0] [(0,1,.int .i64 103)]=some (.agg [.int .i64 103,.int .i64 0]):=rfl;obtain⟨H3,m3,r3,n3,k3⟩:=am r2 (n:=2) rfl (xs:=[.int .i64 103,.int .i64 0]) rfl rfl;simp only[sC,seval,bb,m3];refine gb _ _ _ _ (v:=.agg [.int .i64 103,.int .i64 0]) (by simp only[sC,seval];exact aw r3 rfl) ?_;exact⟨rfl,om,λc hc=>by rw[k3 c om,E2.old c om,k1' c hc]⟩
 |true=>
 have hok:cA l=true:=by simp only[d8,XA]at hr;exact hr.1
 have hfit:au l<=1000/\bw l<=40:=by simp only[d8,hX,XA,XK]at hr;exact hr.2
 have b0:aJ [.int .i64 0,.int .i64 0] []=some (.agg [.int .i64 0,.int .i64 0]):=rfl;obtain⟨Hc,mc,rc,nc,kc⟩:=aC H2 [.int .i64 0,.int .i64 0] (n:=2) rfl;obtain⟨H3,hH3⟩:∃J,J=Hc.push (.cells (gh ba) 0 false):=⟨_,rfl⟩;have n3:H3.next=Hc.next+1:=by rw[hH3];rfl
 obtain⟨H4,hH4⟩:∃J,J=H3.push (.cells (iu ba) 0 false):=⟨_,rfl⟩;have n4:H4.next=H3.next+1:=by rw[hH4];rfl
 have b3:aL 4 [.str []] Hc [(0,1,.str [117]),(1,1,.str [118]),(2,1,.str [112]),(3,1,.str [110])]=some (.slice (some ⟨Hc.next,4,0⟩) 4 (.known 4),H3):=by rw[hH3];rfl
 have b4:aL 4 [.int .u8 0] H3 [(0,1,.int .u8 1),(1,1,.int .u8 1),(2,1,.int .u8 2),(3,1,.int .u8 2)]=some (.slice (some ⟨H3.next,4,0⟩) 4 (.known 4),H4):=by rw[hH4];rfl
 have L3:aT 1 H3 (.slice (some ⟨Hc.next,4,0⟩) 4 (.known 4)) (gh ba) 4:=by rw[hH3];exact aT.built (m:=1) (k:=4) Hc (xs:=gh ba) rfl
 have L4:aT 1 H4 (.slice (some ⟨H3.next,4,0⟩) 4 (.known 4)) (iu ba) 4:=by rw[hH4];exact aT.built (m:=1) (k:=4) H3 (xs:=iu ba) rfl
 have k34:∀c,c<Hc.next->H4.get c=Hc.get c:=λc hc=>by rw[hH4,aB om,hH3,aB hc]
 have bN:bx (.slice (some ⟨Hc.next,4,0⟩) 4 (.known 4)) (·=Hc.next):=cp rfl;have bK:bx (.slice (some ⟨H3.next,4,0⟩) 4 (.known 4)) (·=H3.next):=cp rfl;have k04:∀c,c<H2.next->H4.get c=H2.get c:=λc hc=>by rw[k34 c om,kc c om]
 have k04':∀c,c<H.next->H4.get c=H.get c:=λc hc=>by rw[k04 c om,E2.old c om,k1' c hc]
 have rc4:be H4 H2.next (iA (0,0)):=rc.same (k34 _ om);have km4:∀b,b<H.next->(b<H4.next/\b≠H2.next)/\H4.get b=H.get b:=λb hb=>⟨⟨om,om⟩,k04' b hb⟩;simp only[sC,seval,b0,aG,mc,b3,b4];refine(OP (au l) (E:=ba) rL rc4 om (z1.mono km4) (z2.mono km4) (L3.same om (bN.mono λc hc=>by show H4.get c=H3.get c;rw[hH4,aB om])) L4 (bN.mono λc hc=>om) (bK.mono λc hc=>om) hok hfit.1 hfit.2 kW.given (by show 4+_<=_;omega)).mono ?_;rintro _ H5 ⟨r5,F5⟩;have e5:=F5.next;have old5:∀c,c<H.next->H5.get c=H.get c:=λc hc=>by rw[F5.old c om om,k04' c hc]
 have ra5:be H5 rb [.int .i64 0,.int .i64 0]:=r2.same (by rw[F5.old rb om om,k04 rb om]);have l5:al false 1 H5 (ah H2.next 2 0)=some (.int .i64 ((fi (ft ba false l)).1:Int)):=aj r5 rfl rfl;have l5a:al true 2 H5 (ah H2.next 2 0)=some (.agg (iA (fi (ft ba false l)))):=aw r5 rfl;simp only[sC,seval,az,fld0,l5];cases hck:ft ba false l with
 |error f=>have hf0:=iR hck;have hf':¬(f.1:Int)=0:=om;rw[hck]at l5a;obtain⟨H9,m9,r9,n9,k9⟩:=am ra5 (n:=2) rfl (xs:=iA f) rfl rfl;simp only[sC,seval,fi,hf',az,fld0,l5a,m9];refine gb _ _ _ _ (v:=.agg (iA f)) (by simp only[sC,seval];exact aw r9 rfl) ?_;exact⟨rfl,om,λc hc=>by rw[k9 c om,old5 c hc]⟩
 |ok Ef=>
  have km5:∀b,b<H.next->b<H5.next/\H5.get b=H.get b:=λb hb=>⟨om,old5 b hb⟩;rw[hck]at l5a;simp only[sC,seval,fi,Int.cast_ofNat_Int];refine(xG (au l) rL om (z1.mono km5) (z2.mono km5)).mono ?_;rintro _ H6 ⟨rfl,E6⟩;have e6:=E6.next;have ra6:=ra5.same (E6.old rb om);have old6:∀c,c<H.next->H6.get c=H.get c:=λc hc=>by rw[E6.old c om,old5 c hc]
  cases hret:gt l with
  |false=>have bb2:aJ [.int .i64 0,.int .i64 0] [(0,1,.int .i64 113)]=some (.agg [.int .i64 113,.int .i64 0]):=rfl;obtain⟨H9,m9,r9,n9,k9⟩:=am ra6 (n:=2) rfl (xs:=[.int .i64 113,.int .i64 0]) rfl rfl;simp only[sC,seval,bb2,m9];refine gb _ _ _ _ (v:=.agg [.int .i64 113,.int .i64 0]) (by simp only[sC,seval];exact aw r9 rfl) ?_;exact⟨rfl,om,λc hc=>by rw[k9 c om,old6 c hc]⟩
  |true=>have l6a:al true 2 H6 (ah H2.next 2 0)=some (.agg [.int .i64 0,.int .i64 0]):=aw (r5.same (E6.old _ om)) (by rfl) |>.trans (by rw[hck];rfl);obtain⟨H9,m9,r9,n9,k9⟩:=am ra6 (n:=2) rfl (xs:=[.int .i64 0,.int .i64 0]) rfl rfl;simp only[sC,seval,az,fld0,l6a,m9];refine gb _ _ _ _ (v:=.agg [.int .i64 0,.int .i64 0]) (by simp only[sC,seval];exact aw r9 rfl) ?_;exact⟨rfl,om,λc hc=>by rw[k9 c om,old6 c hc]⟩
open Go.Abs Go.Abs.S
def BR(n:Nat):List ae:=(List.range n).map λ(i:Nat)=>ae.int .i64 (i:Int)
def NU(n:Nat):(BR n).length=n:=by simp[BR]
def QM{n i:Nat}(h:i<n):(BR n)[i]?=some (.int .i64 (i:Int)):=by simp[BR,h]
def Ku(n:Nat):BR n++[.int .i64 (n:Int)]=BR (n+1):=by simp[BR,List.range_succ]
def Kt{n k:Nat}(h:k<=n):(BR n).take k=BR k:=by simp[BR,<- List.map_take,List.take_range,Nat.min_eq_left h]
structure Nn(E:aO)(x:Cs)(cb n0:Nat)(O:Nat->Prop)(vc vd vn vk vr:ae)(H:aa):Prop where
 row:be H cb [vc,.int .i64 (x.regs:Int),vd,vn,vk,vr,.int .i64 (E.length:Int)]
 lc:aT 1 H vc (mO x.cons) x.cons.length
 ld:aT 4 H vd (jo x.code) x.code.length
 ln:aT 1 H vn (gh E) E.length
 lk:aT 1 H vk (iu E) E.length
 lr:aT 1 H vr (BR E.length) E.length
 oc:O cb
 oN:∀c,O c->n0<=c/\c<H.next
 bc:bx vc λb=>O b/\b≠cb
 bd:bx vd λb=>O b/\b≠cb
 bn:bx vn λb=>O b/\b≠cb
 bk:bx vk λb=>O b/\b≠cb
 br:bx vr λb=>O b/\b≠cb
 cd:Dj vc vd
 cn:Dj vc vn
 ck:Dj vc vk
 cr:Dj vc vr
 dn:Dj vd vn
 dk:Dj vd vk
 dr:Dj vd vr
 nk:Dj vn vk
 nr:Dj vn vr
 kr:Dj vk vr
def po(E:aO)(x:Cs)(cb n0:Nat)(O:Nat->Prop)(H:aa):Prop:=∃vc vd vn vk vr,Nn E x cb n0 O vc vd vn vk vr H
def Nn.keep{E:aO}{x:Cs}{cb n0:Nat}{O:Nat->Prop}{vc vd vn vk vr:ae}{H H':aa}(A:Nn E x cb n0 O vc vd vn vk vr H)(hn:H.next<=H'.next)(h:∀c,O c->H'.get c=H.get c):Nn E x cb n0 O vc vd vn vk vr H':={ A with row:=A.row.same (h _ A.oc),lc:=A.lc.same hn (A.bc.mono λc hc=>h c hc.1),ld:=A.ld.same hn (A.bd.mono λc hc=>h c hc.1),ln:=A.ln.same hn (A.bn.mono λc hc=>h c hc.1),lk:=A.lk.same hn (A.bk.mono λc hc=>h c hc.1),lr:=A.lr.same hn (A.br.mono λc hc=>h c hc.1),oN:=λc hc=>⟨(A.oN c hc).1,XL (A.oN c hc).2 hn⟩ }
def po.keep{E:aO}{x:Cs}{cb n0:Nat}{O:Nat->Prop}{H H':aa}(A:po E x cb n0 O H)(hn:H.next<=H'.next)(h:∀c,O c->H'.get c=H.get c):po E x cb n0 O H':=by obtain⟨vc,vd,vn,vk,vr,A⟩:=A;exact⟨_,_,_,_,_,A.keep hn h⟩
def po.oN{E:aO}{x:Cs}{cb n0:Nat}{O:Nat->Prop}{H:aa}(A:po E x cb n0 O H):∀c,O c->n0<=c/\c<H.next:=by obtain⟨vc,vd,vn,vk,vr,A⟩:=A;exact A.oN
def po.lt{E:aO}{x:Cs}{cb n0:Nat}{O:Nat->Prop}{H:aa}(A:po E x cb n0 O H):n0<=cb/\cb<H.next:=by obtain⟨vc,vd,vn,vk,vr,A⟩:=A;exact A.oN _ A.oc
def po.exts{E:aO}{x:Cs}{cb n0:Nat}{O:Nat->Prop}{H H':aa}(A:po E x cb n0 O H)(e:aS H.next H H'):po E x cb n0 O H':=A.keep e.next λc hc=>e.old c (A.oN c hc).2
def Nn.cell{E:aO}{x x':Cs}{cb n0:Nat}{O:Nat->Prop}{vc vd vn vk vr:ae}{H H':aa}(A:Nn E x cb n0 O vc vd vn vk vr H)(hc:x'.cons=x.cons)(hd:x'.code=x.code)(r:be H' cb [vc,.int .i64 (x'.regs:Int),vd,vn,vk,vr,.int .i64 (E.length:Int)])(hn:H'.next=H.next)(k:∀c,c≠cb->H'.get c=H.get c):Nn E x' cb n0 O vc vd vn vk vr H':={ A with row:=r,lc:=by rw[hc];exact A.lc.same om (A.bc.mono λc hc=>k c hc.2),ld:=by rw[hd];exact A.ld.same om (A.bd.mono λc hc=>k c hc.2),ln:=A.ln.same om (A.bn.mono λc hc=>k c hc.2),lk:=A.lk.same om (A.bk.mono λc hc=>k c hc.2),lr:=A.lr.same om (A.br.mono λc hc=>k c hc.2),oN:=λc hc=>by have:=A.oN c hc;omega }
def Im{E:aO}{x:Cs}{cb n0:Nat}{O:Nat->Prop}{H:aa}(A:po E x cb n0 O H)(r:Nat)(hr:r<=100000):aq Tryz.prog aF 173 [ah cb 7 0,.int .i64 (r:Int)] H λ_ H'=>po E (x.use r) cb n0 O H'/\H'.next=H.next/\∀c,¬O c->H'.get c=H.get c:=by
 obtain⟨vc,vd,vn,vk,vr,A⟩:=A;have lr:al false 1 H (ah cb 7 1)=some (.int .i64 (x.regs:Int)):=aj A.row rfl rfl;have wr:IntKind.i64.wrap ((r:Int)+1)=((r+1:Nat):Int):=iP;refine ak rfl SS rfl ?_;by_cases h:x.regs<=r
 ·have h':(x.regs:Int)<=(r:Int):=om;have hm:max x.regs (r+1)=r+1:=om;obtain⟨H1,m1,q1,n1,k1⟩:=bQ A.row (n:=7) rfl (i:=1) om (x:=.int .i64 ((r+1:Nat):Int)) rfl (l':=[vc,.int .i64 ((r+1:Nat):Int),vd,vn,vk,vr,.int .i64 (E.length:Int)]) rfl;simp only[RD,sC,seval,az,fld0,aA,lr,h',wr,m1];exact⟨_,rfl,⟨_,_,_,_,_,A.cell (x':=x.use r) rfl rfl (by show be _ _ [_,.int .i64 ((max x.regs (r+1):Nat):Int),_,_,_,_,_];rw[hm];exact q1) n1 k1⟩,n1,λc hc=>k1 c λe=>hc (e ▸ A.oc)⟩
 ·have h':¬(x.regs:Int)<=(r:Int):=om;have hm:max x.regs (r+1)=x.regs:=om;simp only[RD,sC,seval,az,fld0,aA,lr,h'];exact⟨_,rfl,⟨_,_,_,_,_,A.cell (x':=x.use r) rfl rfl (by show be _ _ [_,.int .i64 ((max x.regs (r+1):Nat):Int),_,_,_,_,_];rw[hm];exact A.row) rfl λ_ _=>rfl⟩,rfl,λ_ _=>rfl⟩
def de{E:aO}{x:Cs}{cb n0:Nat}{O:Nat->Prop}{H:aa}(A:po E x cb n0 O H)(o a b c:Nat)(hl:x.code.length<=100000) :
  aq Tryz.prog aF 139 [ah cb 7 0,.int .u8 (o:Int),.int .i64 (a:Int),.int .i64 (b:Int),.int .i64 (c:Int)] H λu H'=>u=.int .i64 (x.code.length:Int)/\∃O',po E (x.put o a b c) cb n0 O' H'/\fU O H O' H':=by
 obtain⟨vc,vd,vn,vk,vr,A⟩:=A;have hcb:=A.oN _ A.oc;refine ak rfl Tv rfl ?_;have l2:al false 1 H (ah cb 7 2)=some vd:=aj A.row rfl rfl;have bb:aJ [.int .u8 0,.int .i64 0,.int .i64 0,.int .i64 0] [(0,1,.int .u8 (o:Int)),(1,1,.int .i64 (a:Int)),(2,1,.int .i64 (b:Int)),(3,1,.int .i64 (c:Int))]=some (.agg (xr ⟨o,a,b,c⟩)):=rfl;have bm:=ot (z:=[.int .u8 0,.int .i64 0,.int .i64 0,.int .i64 0]) (m:=4) (xs:=xr ⟨o,a,b,c⟩) H rfl rfl;obtain⟨vd',H1,a1,L1,n1,b1,k1⟩:=A.ld.add (j:=1) (xs:=xr ⟨o,a,b,c⟩) rfl rfl om (bytes:=32) om om;have a1':a8 4 32 (H.push (.cells (xr ⟨o,a,b,c⟩) 0 false)) vd (pU H 4)=some (vd',H1):=a1;have hbl:∀{w:ae},bx w (λb=>O b/\b≠cb)->bx w (·<H.next):=λh=>h.mono λc hc=>(A.oN c hc.1).2;have dcb:bx vd (cb≠·):=A.bd.mono λc hc=>hc.2.symm;obtain⟨H2,m2,r2,n2,k2⟩:=bQ (A.row.same (k1 cb hcb.2 dcb)) (n:=7) rfl (i:=2) om (x:=vd') L1.one (l':=[vc,.int .i64 (x.regs:Int),vd',vn,vk,vr,.int .i64 (E.length:Int)]) rfl;have l2':al false 1 H2 (ah cb 7 2)=some vd':=aj r2 rfl rfl;have lv:=L1.len;have wl:IntKind.i64.wrap (((x.code.length+1:Nat):Int)-1)=(x.code.length:Int):=iP;simp only[UU,sC,seval,az,fld0,aA,l2,bb,bm,a1',m2,l2',lv,wl];have hc':jo x.code++xr ⟨o,a,b,c⟩=jo (x.put o a b c).code:=by simp only[Cs.put,wJ,jo,List.append_nil]
 have hl':x.code.length+1=(x.put o a b c).code.length:=by simp[Cs.put]
 rw[hc',hl']at L1;have bd':=b1 _ A.bd;have hL:=L1.blk;have kk:∀c,c<H.next->c≠cb->bx vd (c≠·)->H2.get c=H.get c:=λc h1 h2 h3=>by rw[k2 c h2,k1 c h1 h3]
 have same:∀{w:ae},bx w (λb=>O b/\b≠cb)->Dj w vd->bx w λc=>H2.get c=H.get c:=λh d a j r e=>kk _ (A.oN _ (h a j r e).1).2 (h a j r e).2 (d a j r e);have mono:∀{w:ae},bx w (λb=>O b/\b≠cb)->bx w (λb=>OX O H.next H2.next b/\b≠cb):=λh=>h.mono λc hc=>⟨.inl hc.1,hc.2⟩;have ld2:aT 4 H2 vd' (jo (x.put o a b c).code) (x.put o a b c).code.length:=L1.same om λa j r e=>k2 _ (by
  have q:(O a.b/\a.b≠cb)∨H.next<=a.b:=bd' a j r e;rcases q with q|q
  ·exact q.2
  ·omega)
 refine⟨tt,OX O H.next H2.next,⟨vc,vd',vn,vk,vr,r2,A.lc.same om (same A.bc A.cd),ld2,A.ln.same om (same A.bn A.dn.symm),A.lk.same om (same A.bk A.dk.symm),A.lr.same om (same A.br A.dr.symm),
  .inl A.oc,λc hc=>?_,mono A.bc,?_,mono A.bn,mono A.bk,mono A.br,(A.cd.symm.fresh b1 (hbl A.bc)).symm,A.cn,A.ck,A.cr,A.dn.fresh b1 (hbl A.bn),A.dk.fresh b1 (hbl A.bk),A.dr.fresh b1 (hbl A.br),A.nk,A.nr,A.kr⟩,⟨om,λc h1 h2=>?_,λc hc=>?_⟩⟩
 ·rcases hc with hc|hc
  ·have:=A.oN c hc;omega
  ·omega
 ·intro a j r e;have q:(O a.b/\a.b≠cb)∨H.next<=a.b:=bd' a j r e;have q2:=hL a j r e;rcases q with q|q
  ·exact⟨.inl q.1,q.2⟩
  ·exact⟨.inr ⟨q,om⟩,om⟩
 ·exact kk c h1 (λe=>h2 (e ▸ A.oc)) (A.bd.mono λd hd e=>h2 (e ▸ hd.1))
 ·rcases hc with hc|hc
  ·exact .inl hc
  ·exact .inr hc.1
def jI{E:aO}{x:Cs}{cb n0 i:Nat}{O:Nat->Prop}{H:aa}(A:po E x cb n0 O H)(hi:i<x.code.length) :
  aq Tryz.prog aF 143 [ah cb 7 0,.int .i64 (i:Int)] H λ_ H'=>po E (x.land i) cb n0 O H'/\H'.next=H.next/\∀c,¬O c->H'.get c=H.get c:=by
 obtain⟨vc,vd,vn,vk,vr,A⟩:=A;refine ak rfl Tq rfl ?_;have l2:al false 1 H (ah cb 7 2)=some vd:=aj A.row rfl rfl;have lv:=A.ld.len;obtain⟨b,n,H1,ix,hb,m1,L1,n1,k1⟩:=aT.write A.ld hi (j:=3) om (x:=.int .i64 (x.code.length:Int)) rfl;simp only[UR,sC,seval,az,fld0,aA,l2,lv,ix,m1];have hbd:∃a j r,vd=.slice (some a) j r/\a.b=b:=by
  rcases A.ld with⟨_,_,h0⟩|⟨b',C,low,r,rfl,_⟩
  ·omega
  ·exact⟨_,_,_,rfl,(hb _ _ _ rfl).symm⟩
 obtain⟨a,j,r,ev,ea⟩:=hbd;have ob:=A.bd a j r ev;rw[ea]at ob;have kO:∀c,¬O c->H1.get c=H.get c:=λc hc=>k1 c λe=>hc (e ▸ ob.1);have same:∀{w:ae},Dj w vd->bx w λc=>H1.get c=H.get c:=λd a' j' r' e=>k1 _ (by have:=d a' j' r' e a j r ev;rw[ea]at this;exact this);rw[tu _ _ _ hi]at L1;have hl:x.code.length=(x.land i).code.length:=by simp[Cs.land,oV]
 refine⟨_,rfl,⟨vc,vd,vn,vk,vr,{ A with row:=A.row.same (k1 cb ob.2.symm),lc:=A.lc.same om (same A.cd),ld:=by rw[<- hl];exact L1,ln:=A.ln.same om (same A.dn.symm),lk:=A.lk.same om (same A.dk.symm),lr:=A.lr.same om (same A.dr.symm),oN:=λc hc=>by have:=A.oN c hc;omega }⟩,n1,kO⟩
def uc{s:Bs}:∀{E:aO} {j:Nat} {t:Nat},(E.map (·.1)).Nodup->E[j]?=some (s,t)->bB s E=some j
 | [],_,_,_,h=>by simp at h
 |x::E,0,t,_,h=>by simp only[XH,sJ]at h;subst h;simp[bB]
 |x::E,j+1,t,hn,h=>by simp only[XI]at h;simp only[List.map_cons,List.nodup_cons]at hn;have hx:x.1≠s:=λe=>hn.1 (by rw[e];exact List.mem_map_of_mem (f:=(·.1)) (XG h));simp only[bB,if_neg hx,uc hn.2 h,Option.map_some]
def xU{E:aO}(hE:kW E){x:Cs}{cb n0:Nat}{O:Nat->Prop}{H:aa}(A:po E x cb n0 O H){s:Bs}{i:Nat}(hi:bB s E=some i)(hEl:E.length<=1000000):aq Tryz.prog aF 140 [ah cb 7 0,.str s] H λu H'=>u=.int .i64 (i:Int)/\H=H':=by
 obtain⟨vc,vd,vn,vk,vr,A⟩:=A;have l3:al false 1 H (ah cb 7 3)=some vn:=aj A.row rfl rfl;have l5:al false 1 H (ah cb 7 5)=some vr:=aj A.row rfl rfl;have ln:=A.ln.len;have cn:=(aT.cel1 A.ln A.ln.blk).1;have cr:=(aT.cel1 A.lr A.lr.blk).1;have wl:IntKind.i64.wrap ((E.length:Int)-1)=(E.length:Int)-1:=iP;obtain⟨ti,hti⟩:=jD hi;have hil:=(Xy.1 hti).1;refine ak rfl Tt rfl ?_;simp only[UT,sC,seval,az,aA,l3,ln,wl];refine aM (λm (T:bZ) L=>L=H/\∃j:Nat,m=j/\j<=E.length/\i<j/\T 0=ah cb 7 0/\T 1=.str s/\T 5=.int .i64 ((j:Int)-1)) E.length
  ⟨rfl,E.length,rfl,Nat.le_refl _,hil,by simp only[sC,seval];try rfl,by simp only[sC,seval];try rfl,by simp only[sC,seval];try rfl⟩ ?_
 rintro j U L ⟨rfl,j',hm,hj,hij,u0,u1,u5⟩;subst hm;obtain⟨j,rfl⟩:∃j',j=j'+1:=⟨j-1,om⟩;have hcast:((j+1:Nat):Int)-1=(j:Int):=om;rw[hcast]at u5;have hz:(0:Int)<=(j:Int):=om;obtain⟨y,hy⟩:∃y,E[j]?=some y:=⟨_,Xx om⟩;have i1:=cn.idx .i64 (i:=j) (by rw[eR];omega);have q1:=cn.load (i:=j) (x:=.str y.1) (by simp[gh,hy]);have i2:=cr.idx .i64 (i:=j) (by rw[NU];omega);have q2:=cr.load (i:=j) (x:=.int .i64 (j:Int)) (QM om);have wj:IntKind.i64.wrap ((j:Int)-1)=(j:Int)-1:=iP;by_cases he:y.1=s
 ·have:=uc (s:=s) (t:=y.2) hE.once (by rw[hy,<- he]);rw[this]at hi;simp only[sJ]at hi;subst hi;simp only[sC,seval,u0,u1,u5,hz,az,aA,l3,i1,q1,he,l5,i2,q2];exact⟨tt,tt⟩
 ·have hne:i≠j:=λe=>by
   subst e;rw[hti]at hy;simp only[sJ]at hy;exact he (by rw[<- hy])
  simp only[sC,seval,u0,u1,u5,hz,az,aA,l3,i1,q1,he,wj];exact⟨j,om,tt,j,rfl,om,om,tt,tt,tt⟩
def gP:aO:=[([43],3),([45],4),([42],5),([47],6),([61,61],9),([33,61],10),([60,61],11),([62,61],12),([60],13),([62],14),([38,38],15),([124,124],16)]
def mR:aO:=[([118,101,99],17),([120],18),([121],19),([122],20),([100,111,116],21),([99,114,111,115,115],22),([117,110,105,116],23),([115,113,114,116],24),([115,105,110],25),([99,111,115],26),([97,98,115],27),([102,108,111,111,114],28),([109,105,110],29),([109,97,120],30),([115,97,109,112,108,101],31)]
def Kl:∀y∈gP,fy y.1=y.2:=by decide
def Pj:∀y∈mR,lQ y.1=y.2:=by decide
def Pk:∀i,i<15->mR[i]?.map (·.2)=some (17+i):=by decide
def uV{s:Bs}(hs:nC s 2=true){H:aa}:aq Tryz.prog aF 174 [.str s] H λu H'=>u=.int .u8 (fy s:Int)/\aS H.next H H':=by
 have hm:s∈gP.map (·.1):=by
  have:s∈([[124,124],[38,38],[61,61],[33,61],[60,61],[62,61],[60],[62],[43],[45],[42],[47]]:List Bs):=by simpa[nC]using hs
  simp only[List.mem_cons,List.not_mem_nil,or_false]at this;simp only[gP,List.map_cons,List.map_nil,List.mem_cons,List.not_mem_nil,or_false];rcases this with rfl|rfl|rfl|rfl|rfl|rfl|rfl|rfl|rfl|rfl|rfl|rfl<;>simp
 obtain⟨H1,hH1⟩:∃J,J=H.push (.cells (gh gP) 0 false):=⟨_,rfl⟩;obtain⟨H2,hH2⟩:∃J,J=H1.push (.cells (iu gP) 0 false):=⟨_,rfl⟩;have n1:H1.next=H.next+1:=by rw[hH1];rfl
 have E2:aS H.next H H2:=by rw[hH2];exact⟨by show _<=H1.next+1;omega,λc hc=>by rw[aB om,hH1,aB hc]⟩
 have b1:aL 12 [.str []] H [(0,1,.str [43]),(1,1,.str [45]),(2,1,.str [42]),(3,1,.str [47]),(4,1,.str [61,61]),(5,1,.str [33,61]),(6,1,.str [60,61]),(7,1,.str [62,61]),(8,1,.str [60]),(9,1,.str [62]),(10,1,.str [38,38]),(11,1,.str [124,124])]=some (.slice (some ⟨H.next,12,0⟩) 12 (.known 12),H1):=by rw[hH1];rfl
 have b2:aL 12 [.int .u8 0] H1 [(0,1,.int .u8 3),(1,1,.int .u8 4),(2,1,.int .u8 5),(3,1,.int .u8 6),(4,1,.int .u8 9),(5,1,.int .u8 10),(6,1,.int .u8 11),(7,1,.int .u8 12),(8,1,.int .u8 13),(9,1,.int .u8 14),(10,1,.int .u8 15),(11,1,.int .u8 16)]=some (.slice (some ⟨H1.next,12,0⟩) 12 (.known 12),H2):=by rw[hH2];rfl
 have c1:fo (H.next+1) H2 (.slice (some ⟨H.next,12,0⟩) 12 (.known 12)) (gh gP):=by
  have:fo (H.next+1) H1 (.slice (some ⟨H.next,12,0⟩) 12 (.known 12)) (gh gP):=by rw[hH1];exact dd (xs:=gh gP)
  exact this.ext (by rw[hH2];exact⟨by show _<=H1.next+1;omega,λc hc=>aB om⟩)
 have c2:fo (H1.next+1) H2 (.slice (some ⟨H1.next,12,0⟩) 12 (.known 12)) (iu gP):=by rw[hH2];exact dd (xs:=iu gP)
 refine ak rfl SR rfl ?_;have ln:=c1.len;simp only[eR]at ln;simp only[UB,sC,seval,b1,b2];refine aM (λm (T:bZ) L=>L=H2/\∃i:Nat,m=gP.length-i/\i<=gP.length/\T 0=.str s/\T 3=.slice (some ⟨H.next,12,0⟩) 12 (.known 12)/\T 4=.slice (some ⟨H1.next,12,0⟩) 12 (.known 12)/\T 5=.int .i64 (i:Int)/\s∉(gP.take i).map (·.1)) gP.length
  ⟨rfl,0,rfl,Nat.zero_le _,by simp only[sC,seval];try rfl,by simp only[sC,seval];try rfl,by simp only[sC,seval];try rfl,by simp only[sC,seval];try rfl,by simp⟩ ?_
 rintro m U L ⟨rfl,i,rfl,hi,u0,u3,u4,u5,hx⟩;by_cases hlt:i<gP.length
 case neg=>obtain rfl:i=gP.length:=om;rw[List.take_length]at hx;exact absurd hm hx
 have hlt':(i:Int)<(gP.length:Int):=om;obtain⟨y,hy⟩:∃y,gP[i]?=some y:=⟨_,Xx hlt⟩;have i1:=c1.idx .i64 (i:=i) (by rw[eR];exact hlt);have q1:=c1.load (i:=i) (x:=.str y.1) (by simp[gh,hy]);have i2:=c2.idx .i64 (i:=i) (by rw[kI];exact hlt);have q2:=c2.load (i:=i) (x:=co y.2) (by simp[iu,hy]);have wk:IntKind.i64.wrap ((i:Int)+1)=((i+1:Nat):Int):=by have:gP.length=12:=rfl;rw[IntKind.wrap_i64];omega
 by_cases he:y.1=s
 ·have:=Kl y (XG hy);rw[he]at this;rw[this];simp only[sC,seval,u0,u3,u4,u5,ln,hlt',i1,q1,he,i2,q2];exact⟨tt,E2⟩
 ·simp only[sC,seval,u0,u3,u4,u5,ln,hlt',i1,q1,he,wk];refine⟨gP.length-(i+1),om,tt,i+1,rfl,om,tt,tt,tt,tt,?_⟩;rw[List.take_add_one,hy];simp only[Option.toList_some,List.map_append,List.map_cons,List.map_nil,List.mem_append,List.mem_singleton,not_or];exact⟨hx,λe=>he e.symm⟩
def xV{s:Bs}(hm:s∈mR.map (·.1)){H:aa}:aq Tryz.prog aF 175 [.str s] H λu H'=>u=.int .u8 (lQ s:Int)/\aS H.next H H':=by
 obtain⟨H1,hH1⟩:∃J,J=H.push (.cells (gh mR) 0 false):=⟨_,rfl⟩;have E1:aS H.next H H1:=by rw[hH1];exact⟨by show _<=H.next+1;omega,λc hc=>aB hc⟩
 have b1:aL 15 [.str []] H [(0,1,.str [118,101,99]),(1,1,.str [120]),(2,1,.str [121]),(3,1,.str [122]),(4,1,.str [100,111,116]),(5,1,.str [99,114,111,115,115]),(6,1,.str [117,110,105,116]),(7,1,.str [115,113,114,116]),(8,1,.str [115,105,110]),(9,1,.str [99,111,115]),(10,1,.str [97,98,115]),(11,1,.str [102,108,111,111,114]),(12,1,.str [109,105,110]),(13,1,.str [109,97,120]),(14,1,.str [115,97,109,112,108,101])]=some (.slice (some ⟨H.next,15,0⟩) 15 (.known 15),H1):=by rw[hH1];rfl
 have c1:fo (H.next+1) H1 (.slice (some ⟨H.next,15,0⟩) 15 (.known 15)) (gh mR):=by rw[hH1];exact dd (xs:=gh mR)
 refine ak rfl SQ rfl ?_;have ln:=c1.len;simp only[eR]at ln;simp only[UA,sC,seval,b1];refine aM (λm (T:bZ) L=>L=H1/\∃i:Nat,m=mR.length-i/\i<=mR.length/\T 0=.str s/\T 3=.slice (some ⟨H.next,15,0⟩) 15 (.known 15)/\T 4=.int .i64 (i:Int)/\s∉(mR.take i).map (·.1)) mR.length
  ⟨rfl,0,rfl,Nat.zero_le _,by simp only[sC,seval];try rfl,by simp only[sC,seval];try rfl,by simp only[sC,seval];try rfl,by simp⟩ ?_
 rintro m U L ⟨rfl,i,rfl,hi,u0,u3,u4,hx⟩;by_cases hlt:i<mR.length
 case neg=>obtain rfl:i=mR.length:=om;rw[List.take_length]at hx;exact absurd hm hx
 have h15:mR.length=15:=rfl;have hlt':(i:Int)<(mR.length:Int):=om;obtain⟨y,hy⟩:∃y,mR[i]?=some y:=⟨_,Xx hlt⟩;have i1:=c1.idx .i64 (i:=i) (by rw[eR];exact hlt);have q1:=c1.load (i:=i) (x:=.str y.1) (by simp[gh,hy]);have wk:IntKind.i64.wrap ((i:Int)+1)=((i+1:Nat):Int):=iP;by_cases he:y.1=s
 ·have ho:=Pj y (XG hy);have ha:=Pk i om;rw[hy]at ha;simp only[Option.map_some,sJ]at ha;rw[he]at ho;have w1:IntKind.u8.wrap (i:Int)=(i:Int):=by rw[IntKind.wrap_u8];omega
  have w2:IntKind.u8.wrap (17+(i:Int))=((17+i:Nat):Int):=by rw[IntKind.wrap_u8];omega
  rw[ho,ha];simp only[sC,seval,u0,u3,u4,ln,hlt',i1,q1,he,w1,w2];exact⟨tt,E1⟩
 ·simp only[sC,seval,u0,u3,u4,ln,hlt',i1,q1,he,wk];refine⟨mR.length-(i+1),om,tt,i+1,rfl,om,tt,tt,tt,?_⟩;rw[List.take_add_one,hy];simp only[Option.toList_some,List.map_append,List.map_cons,List.map_nil,List.mem_append,List.mem_singleton,not_or];exact⟨hx,λe=>he e.symm⟩
end Go.Proofs.Wo
