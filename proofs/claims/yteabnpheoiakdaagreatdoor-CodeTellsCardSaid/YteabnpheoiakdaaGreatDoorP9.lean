/- Part of a proof (YQ1 YQ2 YPN YQ3 YC5 YPZ YR9 YX1 YX2 YT6 YT7 YT8); no condition. -/
import Derived.Test.YteabnpheoiakdaaGreatDoorProg
import Derived.KernelRfl
import Derived.Test.YteabnpheoiakdaaGreatDoorP6
import Derived.Test.YteabnpheoiakdaaGreatDoorP7
import Derived.Test.YteabnpheoiakdaaGreatDoorP8
set_option linter.unusedSimpArgs false
set_option linter.unusedVariables false
set_option linter.defProp false
set_option linter.unnecessarySimpa false
namespace Go.Proofs.Wo
open Go.Abs Go.Abs.S
def mS(H:aa)(p:ae)(c:List ae):Prop:=∃a,p=.ptr (some a)/\bH H a c.length=some c
def fp(p:ae)(o:Nat):ae:=match p with
 | .ptr (some a)=>.ptr (some ⟨a.b,a.lim,a.o+o⟩)
 |_=>cF
def mS.chk{H:aa}{p:ae}{c:List ae}(h:mS H p c):dt p=some p:=by obtain⟨a,rfl,_⟩:=h;rfl
def mS.fld{H:aa}{p:ae}{c:List ae}(h:mS H p c)(o:Nat):jq o p=some (fp p o):=by obtain⟨a,rfl,_⟩:=h;rfl
def mS.fld0{H:aa}{p:ae}{c:List ae}(h:mS H p c):jq 0 p=some p:=by obtain⟨a,rfl,_⟩:=h;rfl
def mS.part{H:aa}{p:ae}{c:List ae}(h:mS H p c){o k:Nat}(hk:o+k<=c.length):mS H (fp p o) ((c.drop o).take k):=by obtain⟨a,rfl,h1⟩:=h;refine⟨_,rfl,?_⟩;rw[show((c.drop o).take k).length=k by rw[XT,XR];omega];exact uB h1 hk
def mS.load{H:aa}{p:ae}{c:List ae}(h:mS H p c){o:Nat}{x:ae}(hx:c[o]?=some x):al false 1 H (fp p o)=some x:=by
 obtain⟨a,rfl,h1⟩:=h;have hlt:=(Xy.1 hx).1;have:=uB h1 (i:=o) (j:=1) om;have e:(c.drop o).take 1=[x]:=by rw[List.drop_eq_getElem_cons hlt,List.take_succ_cons,List.take_zero,(Xy.1 hx).2]
 rw[e]at this;simp only[fp,al,this,cond_false]
def mS.load0{H:aa}{p:ae}{c:List ae}(h:mS H p c){x:ae}(hx:c[0]?=some x):al false 1 H p=some x:=by have:=h.load hx;obtain⟨a,rfl,_⟩:=h;exact this
def mS.same{H H':aa}{p:ae}{c:List ae}(h:mS H p c)(e:∀a,p=.ptr (some a)->H'.get a.b=H.get a.b):mS H' p c:=by obtain⟨a,rfl,h1⟩:=h;exact⟨a,rfl,by rw[vN (e a rfl)];exact h1⟩
def eM.pt{P:Nat->Prop}{H:aa}{m k:Nat}{v:ae}{C:List ae}(h:eM P H m v k C){i:Nat}(hi:i<k):mS H (cz m v i) ((C.drop (i*m)).take m):=by
 rcases h with⟨_,rfl,_⟩|⟨a,r,rfl,_,h3⟩
 ·omega
 ·have hm:i*m+m<=m*k:=by
   have:(i+1)*m<=k*m:=Nat.mul_le_mul_right m hi;rw[Nat.mul_comm m k];rw[Nat.add_mul,Nat.one_mul]at this;exact this
  have hl:C.length=m*k:=by obtain⟨l,low,ro,mk,h1,h2,h3',h4,rfl⟩:=qI h3;rw[XT,XR];omega
  refine⟨_,rfl,?_⟩;rw[show((C.drop (i*m)).take m).length=m by rw[XT,XR];omega];exact uB h3 hm
def kJ(s:Bs){H:aa}:aq Tryz.prog aF 124 [.str s] H λu H'=>u=.bool (cH s)/\aS H.next H H':=by
 refine ak rfl TJ rfl ?_;simp only[U6,sC,seval];refine(yA QQ (s:=s) (p:=((0:Nat):Int)) om om).mono ?_;rintro v H1 ⟨rfl,E1⟩;have e1:=E1.next;obtain⟨H2,m2,r2,n2,k2⟩:=aC H1 [.int .u8 0,.str [],.int .i64 0,.int .i64 0,.int .i64 0,.int .i64 0] (n:=6) rfl;obtain⟨H3,m3,r3,n3,k3⟩:=aC H2 [.int .i64 0,.int .i64 0] (n:=2) rfl;cases hn:fC s 0 with
 |error e=>
  rw[sP hn];have he:=sN hn;have he':¬(e.1:Int)=0:=om;obtain⟨H4,m4,r4,n4,k4⟩:=am (H:=H3) (r2.same (k3 _ om)) (n:=6) rfl (xs:=iN 0 [] 0 0 0 0) rfl rfl;obtain⟨H5,m5,r5,n5,k5⟩:=am (H:=H4) (r3.same (k4 _ om)) (n:=2) rfl (xs:=jt e.1 e.2) rfl rfl;have l5:al false 1 H5 (ah H2.next 2 0)=some (.int .i64 (e.1:Int)):=aj r5 rfl rfl;have hf:cH s=false:=by unfold cH;rw[hn]
  simp only[sC,seval,eh,bv,bu,m2,m3,m4,m5,fld0,l5,he',hf];exact⟨tt,om,λc hc=>by rw[k5 c om,k4 c om,k3 c om,k2 c om,E1.old c hc]⟩
 |ok w=>
  rw[vX hn];obtain⟨H4,m4,r4,n4,k4⟩:=am (H:=H3) (r2.same (k3 _ om)) (n:=6) rfl (xs:=iN w.k w.S w.n w.line w.at_ w.en) rfl rfl;obtain⟨H5,m5,r5,n5,k5⟩:=am (H:=H4) (r3.same (k4 _ om)) (n:=2) rfl (xs:=jt 0 0) rfl rfl;have r45:=r4.same (k5 _ om);have l5:al false 1 H5 (ah H2.next 2 0)=some (.int .i64 0):=aj r5 rfl rfl;have q0:al false 1 H5 (ah H1.next 6 0)=some (.int .u8 (w.k:Int)):=aj r45 rfl rfl;have q1:al false 1 H5 (ah H1.next 6 1)=some (.str w.S):=aj r45 rfl rfl;have E5:aS H.next H H5:=⟨om,λc hc=>by rw[k5 c om,k4 c om,k3 c om,k2 c om,E1.old c hc]⟩;by_cases hk:w.k=2
  ·have hk':(w.k:Int)=2:=om;have hf:cH s=decide (w.S=s):=by unfold cH;rw[hn];simp only[hk];rfl
   simp only[sC,seval,eh,bv,bu,m2,m3,m4,m5,fld0,aA,l5,q0,q1,hk',hf];exact⟨tt,E5⟩
  ·have hk':¬(w.k:Int)=2:=om;have hf:cH s=false:=by
    unfold cH;rw[hn];have:Nat.beq w.k 2=false:=by rw[ch];exact decide_eq_false hk
    simp only[this];rfl
   simp only[sC,seval,eh,bv,bu,m2,m3,m4,m5,fld0,aA,l5,q0,q1,hk',hf];exact⟨tt,E5⟩
def Cu(s:Bs)(n:Nat){H:aa}:aq Tryz.prog aF 164 [.str s,.int .i64 (n:Int)] H λu H'=>u=.bool (nC s n)/\H=H':=by
 refine ak rfl Tb rfl ?_;by_cases h1:n=1
 ·subst h1;by_cases e1:s=[45]
  ·subst e1;simp only[mP,sC,seval];exact⟨tt,tt⟩
  by_cases e2:s=[33]
  ·subst e2;simp only[mP,sC,seval,e1];exact⟨tt,tt⟩
  have:nC s 1=false:=by simp[nC,e1,e2]
  simp only[mP,sC,seval,e1,e2,this];exact⟨tt,tt⟩
 have h1':¬(n:Int)=1:=om;by_cases h2:n=2
 ·subst h2;have op:nC s 2=[[124,124],[38,38],[61,61],[33,61],[60,61],[62,61],[60],[62],[43],[45],[42],[47]].contains s:=rfl;rw[op];by_cases e0:s=[124,124]
  ·subst e0;simp only[mP,sC,seval];exact⟨by rfl,tt⟩
  by_cases e1:s=[38,38]
  ·subst e1;simp only[mP,sC,seval];exact⟨by rfl,tt⟩
  by_cases e2:s=[61,61]
  ·subst e2;simp only[mP,sC,seval];exact⟨by rfl,tt⟩
  by_cases e3:s=[33,61]
  ·subst e3;simp only[mP,sC,seval];exact⟨by rfl,tt⟩
  by_cases e4:s=[60,61]
  ·subst e4;simp only[mP,sC,seval];exact⟨by rfl,tt⟩
  by_cases e5:s=[62,61]
  ·subst e5;simp only[mP,sC,seval];exact⟨by rfl,tt⟩
  by_cases e6:s=[60]
  ·subst e6;simp only[mP,sC,seval];exact⟨by rfl,tt⟩
  by_cases e7:s=[62]
  ·subst e7;simp only[mP,sC,seval];exact⟨by rfl,tt⟩
  by_cases e8:s=[43]
  ·subst e8;simp only[mP,sC,seval];exact⟨by rfl,tt⟩
  by_cases e9:s=[45]
  ·subst e9;simp only[mP,sC,seval];exact⟨by rfl,tt⟩
  by_cases e10:s=[42]
  ·subst e10;simp only[mP,sC,seval];exact⟨by rfl,tt⟩
  by_cases e11:s=[47]
  ·subst e11;simp only[mP,sC,seval];exact⟨by rfl,tt⟩
  have:([[124,124],[38,38],[61,61],[33,61],[60,61],[62,61],[60],[62],[43],[45],[42],[47]]:List Bs).contains s=false:=by simp[e0,e1,e2,e3,e4,e5,e6,e7,e8,e9,e10,e11]
  simp only[mP,sC,seval,e0,e1,e2,e3,e4,e5,e6,e7,e8,e9,e10,e11,this];exact⟨tt,tt⟩
 have h2':¬(n:Int)=2:=om;have:nC s n=false:=by
  unfold nC;split
  ·exact absurd rfl h1
  ·exact absurd rfl h2
  ·rfl
 simp only[mP,sC,seval,h1',h2',this];exact⟨tt,tt⟩
def iZ{e:Ex}:∀{l:List Ex},e∈l->e.size<=aU l
 | [],h=>by simp at h
 |x::l,h=>by
  simp only[aU];rcases List.mem_cons.1 h with rfl|h
  ·omega
  ·have:=iZ h;omega
def fx(l m:List Ex):aU (l++m)=aU l+aU m:=by
 induction l with
 |nil=>simp[aU]
 |cons x l ih=>simp only[XQ,aU,ih];omega
def gI(l m:List Ex):bG (l++m)=max (bG l) (bG m):=by
 induction l with
 |nil=>simp[bG]
 |cons x l ih=>simp only[XQ,bG,ih];omega
def vT(l m:List Ex):eY (l++m)=(eY l&&eY m):=by
 induction l with
 |nil=>simp[eY]
 |cons x l ih=>simp only[XQ,eY,ih,Bool.and_assoc]
def cO(l:List Ex):l.length<=aU l:=by
 induction l with
 |nil=>simp
 |cons x l ih=>cases x;simp only[XB,aU,Ex.size];omega
def Po(n deep:Nat)(e:Ex):Prop:=lD e=true/\n+e.size<=1000/\deep+e.deep<=41
def xO(n deep:Nat)(l:List Ex):Prop:=eY l=true/\n+aU l<=1000/\deep+bG l<=41
def yo{n deep:Nat}{l:List Ex}{e:Ex}:xO n deep (l++[e])↔xO n deep l/\Po (n+aU l) deep e:=by
 unfold xO Po;rw[vT,fx,gI];simp only[eY,aU,bG,Bool.and_true,XA];constructor
 ·rintro⟨⟨a,b⟩,c,d⟩;exact⟨⟨a,om,om⟩,b,om,om⟩
 ·rintro⟨⟨a,b,c⟩,d,e,f⟩;exact⟨⟨a,d⟩,om,om⟩
def IH{n deep:Nat}{l:List Ex}(h:xO n deep l)(i:Nat):xO n deep (l.take i):=by have:=List.take_append_drop i l;unfold xO at *;rw[<- this,vT,fx,gI]at h;simp only[XA]at h;obtain⟨⟨a,b⟩,c,d⟩:=h;exact⟨a,om,om⟩
def yB{H:aa}{mb:Nat}{n deep:Nat}(hm:be H mb [.int .i64 (n:Int)])(hn:n<=1000000):aq Tryz.prog aF 123 [ah mb 1 0,.int .i64 (deep:Int)] H λu H'=>(∃b,u=.bool b/\(b=true↔n+1<=1000/\deep<=40))/\be H' mb [.int .i64 ((n+1:Nat):Int)]/\H'.next=H.next/\∀c,c≠mb->H'.get c=H.get c:=by
 refine ak rfl TK rfl ?_;have l0:al false 1 H (ah mb 1 0)=some (.int .i64 (n:Int)):=aj hm rfl rfl;have wk:IntKind.i64.wrap ((n:Int)+1)=((n+1:Nat):Int):=iP;obtain⟨H1,m1,r1,n1,k1⟩:=bQ hm (n:=1) rfl (i:=0) om (x:=.int .i64 ((n+1:Nat):Int)) rfl (l':=[.int .i64 ((n+1:Nat):Int)]) rfl;have l1:al false 1 H1 (ah mb 1 0)=some (.int .i64 ((n+1:Nat):Int)):=aj r1 rfl rfl;by_cases h1:n+1<=1000
 ·have h1':((n+1:Nat):Int)<=1000:=om;by_cases h2:deep<=40
  ·have h2':(deep:Int)<=40:=om;simp only[O0,sC,seval,az,fld0,l0,wk,m1,l1,h1',h2'];exact⟨⟨true,tt,λ_=>⟨om,om⟩,λ_=>rfl⟩,r1,n1,k1⟩
  ·have h2':¬(deep:Int)<=40:=om;simp only[O0,sC,seval,az,fld0,l0,wk,m1,l1,h1',h2'];exact⟨⟨false,tt,by simp;omega⟩,r1,n1,k1⟩
 ·have h1':¬((n+1:Nat):Int)<=1000:=om;simp only[O0,sC,seval,az,fld0,l0,wk,m1,l1,h1'];exact⟨⟨false,tt,by simp;omega⟩,r1,n1,k1⟩
def JC(mb:Nat)(n size:Nat)(ok:Prop)(H:aa)(u:ae)(H':aa):Prop:=((ok/\u=.bool true/\be H' mb [.int .i64 ((n+size:Nat):Int)])∨(¬ok/\u=.bool false))/\Fp mb H H'
def mS.fp{H H':aa}{mb:Nat}{p:ae}{c:List ae}(h:mS H p c)(f:Fp mb H H')(hp:∀a,p=.ptr (some a)->a.b<H.next/\a.b≠mb):mS H' p c:=h.same λa e=>f.old _ (hp a e).1 (hp a e).2
def vZ:∀(N:Nat) {e:Ex} {c:List ae} {H:aa} {mb n deep:Nat} {p:ae},e.size<=N->mS H p c->(∀a,p=.ptr (some a)->a.b<H.next/\a.b≠mb)->XE (λb=>b<H.next/\b≠mb) H e c->be H mb [.int .i64 (n:Int)]->mb<H.next->n<=1000->deep<=41 ->
  aq Tryz.prog aF 125 [ah mb 1 0,p,.int .i64 (deep:Int)] H (JC mb n e.size (Po n deep e) H)
 |0,e,_,_,_,_,_,_,h,_,_,_,_,_,_,_=>by cases e;simp[Ex.size]at h
 |N+1,.mk k s z kids,c,H,mb,n,deep,p,h,hp,hpb,hx,hm,hmb,hn,hd=>by
  obtain⟨v,C,rfl,z1,z2⟩:=hx;obtain⟨Q,hQ⟩:∃Q,Q=JC mb n (Ex.mk k s z kids).size (Po n deep (Ex.mk k s z kids)) H:=⟨_,rfl⟩;obtain⟨PF,hPF⟩:∃PF:Prop,PF↔fB k s z kids.length=true:=⟨_,Iff.rfl⟩;rw[<- hQ];refine ak rfl TI rfl ?_;have hsz:(Ex.mk k s z kids).size=aU kids+1:=rfl;have hdp:(Ex.mk k s z kids).deep=bG kids+1:=rfl;simp only[U5,sC,seval];refine(yB (deep:=deep) hm om).mono ?_;rintro _ H1 ⟨⟨b,rfl,hb⟩,r1,n1,k1⟩;have F1:Fp mb H H1:=⟨om,λc _ hc=>k1 c hc⟩;have pp:=hp.fp F1 hpb;have p0:=pp.load0 (x:=.int .u8 (k:Int)) rfl;have p1:=pp.load (o:=1) (x:=.str s) rfl;have p2:=pp.load (o:=2) (x:=.int .i64 z) rfl;have p3:=pp.load (o:=3) (x:=v) rfl;have q0:=pp.fld0;have q1:=pp.fld 1;have q2:=pp.fld 2;have q3:=pp.fld 3;have qc:=pp.chk;have ln:=z1.len;cases b with
  |false=>
   have hno:¬Po n deep (.mk k s z kids):=by rintro⟨_,q1,q2⟩;exact absurd (hb.2 ⟨om,om⟩) (by simp)
   simp only[sC,seval];rw[hQ];exact⟨.inr ⟨hno,tt⟩,F1⟩
  |true=>
  obtain⟨h01,h02⟩:=hb.1 rfl;have hok:lD (.mk k s z kids)=(fB k s z kids.length&&eY kids):=by simp only[lD]
  have hR:Po n deep (.mk k s z kids)↔fB k s z kids.length=true/\xO (n+1) (deep+1) kids:=by
   unfold Po xO;rw[hok,hsz,hdp,XA];constructor
   ·rintro⟨⟨a,b⟩,c,d⟩;exact⟨a,b,om,om⟩
   ·rintro⟨a,b,c,d⟩;exact⟨⟨a,b⟩,om,om⟩
  have leaf:kids=[]->xO (n+1) (deep+1) kids:=by rintro rfl;exact⟨rfl,by simp only[aU];omega,by simp only[bG];omega⟩
  have fq:∀(b:Bool) (H2:aa),fB k s z kids.length=b->(b=true->kids=[])->Fp mb H H2->be H2 mb [.int .i64 ((n+1:Nat):Int)]->Q (.bool b) H2:=by
   intro b H2 h1 h2 h3 h4;rw[hQ];refine⟨?_,h3⟩;cases b with
   |false=>exact .inr ⟨λq=>by rw[(hR.1 q).1]at h1;simp at h1,rfl⟩
   |true=>have hk:=h2 rfl;refine .inl ⟨hR.2 ⟨h1,leaf hk⟩,rfl,?_⟩;rw[hsz,hk];exact h4
  simp only[sW,sL,lC,kB,rY,sB,seval,qc,q0,p0];rw[ip];refine im (λ(T:bZ) H'=>T 0=ah mb 1 0/\T 1=p/\T 2=.int .i64 (deep:Int)/\Fp mb H H'/\be H' mb [.int .i64 ((n+1:Nat):Int)]/\PF) (cU _ _) ?_ ?_;rotate_left
  ·rintro T H2 ⟨t0,t1,t2,F2,r2,hpt⟩;have e2:=F2.next;have pp2:=hp.fp F2 hpb;have p32:=pp2.load (o:=3) (x:=v) rfl;simp only[sC,seval,t0,t1,t2,qc,q3,p32,ln];refine aM (λm (T:bZ) H'=>∃i:Nat,m=kids.length-i/\i<=kids.length/\T 0=ah mb 1 0/\T 1=p/\T 2=.int .i64 (deep:Int)/\T 99=.int .i64 (kids.length:Int)/\T 100=.int .i64 (i:Int)/\Fp mb H H'/\be H' mb [.int .i64 ((n+1+aU (kids.take i):Nat):Int)]/\xO (n+1) (deep+1) (kids.take i)) kids.length
    ⟨0,rfl,Nat.zero_le _,by simp only[sC,seval,t0],by simp only[sC,seval,t1],by simp only[sC,seval,t2],by simp only[sC,seval],by simp only[sC,seval];try rfl,F2,r2,rfl,by simp only[List.take_zero,aU];omega,by simp only[List.take_zero,bG];omega⟩ ?_
   rintro m T H3 ⟨i,rfl,hi,t0,t1,t2,t99,t100,F3,r3,hR3⟩;have e3:=F3.next;by_cases hlt:i<kids.length
   case neg=>obtain rfl:i=kids.length:=om;have hlt':¬(kids.length:Int)<(kids.length:Int):=om;rw[List.take_length]at hR3 r3;simp only[sC,seval,t99,t100,hlt'];rw[hQ];refine⟨.inl ⟨hR.2 ⟨hPF.1 hpt,hR3⟩,tt,?_⟩,F3⟩;rw[hsz,show n+(aU kids+1)=n+1+aU kids by omega];exact r3
   have hlt':(i:Int)<(kids.length:Int):=om;obtain⟨e,he⟩:∃e,kids[i]?=some e:=⟨_,Xx hlt⟩;have hts:kids.take (i+1)=kids.take i++[e]:=by rw[List.take_add_one,he];rfl
   have pp3:=hp.fp F3 hpb;have p33:=pp3.load (o:=3) (x:=v) rfl;have km:∀b,(b<H.next/\b≠mb)->(b<H3.next/\b≠mb)/\H3.get b=H.get b:=λb hb=>⟨⟨om,hb.2⟩,F3.old b hb.1 hb.2⟩;have z13:=z1.mono km;have z23:=z2.mono km;have ix:=z13.idx hlt;have hk:=z13.pt hlt;have he3:=z23.at he;have hmem:e∈kids:=XG he;have hsm:=iZ hmem;have wd:IntKind.i64.wrap ((deep:Int)+1)=((deep+1:Nat):Int):=iP;have wi:IntKind.i64.wrap ((i:Int)+1)=((i+1:Nat):Int):=by have e1:=cO (kids.take i);have e2:=hR3.2.1;rw[XT,Nat.min_eq_left hi]at e1;rw[IntKind.wrap_i64];omega
   simp only[sC,seval,t0,t1,t2,t99,t100,hlt',qc,q3,p33,ix,wd];refine(vZ N (by rw[hsz]at h;omega) hk ?_ he3 r3 om hR3.2.1 om).mono ?_
   ·intro a ea;rcases z13 with⟨_,h0,_⟩|⟨a',r,rfl,h0,_⟩
    ·omega
    ·simp only[cz,ae.ptr.injEq,sJ]at ea;subst ea;exact h0
   rintro u H4 ⟨ho,F4⟩;have F04:=F3.trans F4;rcases ho with⟨hgo,rfl,r4⟩|⟨hgo,rfl⟩
   ·simp only[sC,seval,t0,t1,t2,t99,t100,wi];refine⟨kids.length-(i+1),om,i+1,rfl,om,tt,tt,tt,tt,tt,F04,?_,?_⟩
    ·rw[hts,fx];simp only[aU,Nat.add_zero];rw[<- Nat.add_assoc];exact r4
    ·rw[hts,yo];exact⟨hR3,hgo⟩
   ·simp only[sC,seval];rw[hQ];refine⟨.inr ⟨λq=>hgo ?_,tt⟩,F04⟩;have:=IH (hR.1 q).2 (i+1);rw[hts,yo]at this;exact this.2
  by_cases k1':k=1
  ·have k1i:(k:Int)=1:=om;have hpart:fB k s z kids.length=(decide (0<=z)&&(s.isEmpty&&Nat.beq kids.length 0)):=by unfold fB;rw[if_pos k1']
   by_cases a1:0<=z
   ·by_cases a2:s=[]
    ·by_cases a3:kids=[]
     ·have a3':(kids.length:Int)=0:=by rw[a3];rfl
      simp only[sC,seval,qc,q0,q1,q2,q3,p0,p1,p2,p3,ln,k1i,a1,a2,a3'];exact fq true H1 (by rw[hpart,a2,a3,decide_eq_true a1];rfl) (λ_=>a3) F1 r1
     ·have a3':¬(kids.length:Int)=0:=by have:=List.length_pos_iff.2 a3;omega
      simp only[sC,seval,qc,q0,q1,q2,q3,p0,p1,p2,p3,ln,k1i,a1,a2,a3'];exact fq false H1 (by rw[hpart,show Nat.beq kids.length 0=false by rw[ch];exact decide_eq_false om];simp) (by simp) F1 r1
    ·simp only[sC,seval,qc,q0,q1,q2,q3,p0,p1,p2,p3,ln,k1i,a1,a2];exact fq false H1 (by rw[hpart,show s.isEmpty=false by cases s<;>simp_all];simp) (by simp) F1 r1
   ·simp only[sC,seval,qc,q0,q1,q2,q3,p0,p1,p2,p3,ln,k1i,a1];exact fq false H1 (by rw[hpart,decide_eq_false a1];rfl) (by simp) F1 r1
  have k1i:¬(k:Int)=1:=om;by_cases k2':k=2
  ·have k2i:(k:Int)=2:=om;have hpart:fB k s z kids.length=(decide (z=0)&&(cH s&&Nat.beq kids.length 0)):=by unfold fB;rw[if_neg k1',if_pos k2']
   by_cases a1:z=0
   ·simp only[sC,seval,qc,q0,q1,q2,q3,p0,p1,p2,p3,ln,k1i,k2i,a1];refine(kJ s).mono ?_;rintro _ H2 ⟨rfl,E2⟩;have F12:Fp mb H1 H2:=⟨E2.next,λc hc _=>E2.old c hc⟩;have pp2:=hp.fp (F1.trans F12) hpb;have p32:=pp2.load (o:=3) (x:=v) rfl;have r2:=r1.same (E2.old mb om);cases a2:cH s with
    |false=>simp only[sC,seval];exact fq false H2 (by rw[hpart,a2];simp) (by simp) (F1.trans F12) r2
    |true=>
     by_cases a3:kids=[]
     ·have a3':(kids.length:Int)=0:=by rw[a3];rfl
      simp only[sC,seval,qc,q3,p32,ln,a3'];exact fq true H2 (by rw[hpart,a2,a3,decide_eq_true a1];rfl) (λ_=>a3) (F1.trans F12) r2
     ·have a3':¬(kids.length:Int)=0:=by have:=List.length_pos_iff.2 a3;omega
      simp only[sC,seval,qc,q3,p32,ln,a3'];exact fq false H2 (by rw[hpart,show Nat.beq kids.length 0=false by rw[ch];exact decide_eq_false om];simp) (by simp) (F1.trans F12) r2
   ·simp only[sC,seval,qc,q0,q1,q2,q3,p0,p1,p2,p3,ln,k1i,k2i,a1];exact fq false H1 (by rw[hpart,decide_eq_false a1];rfl) (by simp) F1 r1
  have k2i:¬(k:Int)=2:=om;by_cases k3':k=3
  ·have k3i:(k:Int)=3:=om;have hpart:fB k s z kids.length=(decide (z=0)&&nC s kids.length):=by unfold fB;rw[if_neg k1',if_neg k2',if_pos k3']
   by_cases a1:z=0
   ·simp only[sC,seval,qc,q0,q1,q2,q3,p0,p1,p2,p3,ln,k1i,k2i,k3i,a1];refine(Cu s kids.length).mono ?_;rintro _ _ ⟨rfl,rfl⟩;cases a2:nC s kids.length with
    |false=>simp only[sC,seval];exact fq false H1 (by rw[hpart,a2];simp) (by simp) F1 r1
    |true=>simp only[sC,seval];exact⟨tt,tt,tt,F1,r1,hPF.2 (by rw[hpart,a2,decide_eq_true a1];rfl)⟩
   ·simp only[sC,seval,qc,q0,q1,q2,q3,p0,p1,p2,p3,ln,k1i,k2i,k3i,a1];exact fq false H1 (by rw[hpart,decide_eq_false a1];rfl) (by simp) F1 r1
  have k3i:¬(k:Int)=3:=om;by_cases k4':k=4
  ·have k4i:(k:Int)=4:=om;have hpart:fB k s z kids.length=(decide (z=0)&&cH s):=by unfold fB;rw[if_neg k1',if_neg k2',if_neg k3',if_pos k4']
   by_cases a1:z=0
   ·simp only[sC,seval,qc,q0,q1,q2,q3,p0,p1,p2,p3,ln,k1i,k2i,k3i,k4i,a1];refine(kJ s).mono ?_;rintro _ H2 ⟨rfl,E2⟩;have F12:Fp mb H1 H2:=⟨E2.next,λc hc _=>E2.old c hc⟩;have r2:=r1.same (E2.old mb om);cases a2:cH s with
    |false=>simp only[sC,seval];exact fq false H2 (by rw[hpart,a2];simp) (by simp) (F1.trans F12) r2
    |true=>simp only[sC,seval];exact⟨tt,tt,tt,F1.trans F12,r2,hPF.2 (by rw[hpart,a2,decide_eq_true a1];rfl)⟩
   ·simp only[sC,seval,qc,q0,q1,q2,q3,p0,p1,p2,p3,ln,k1i,k2i,k3i,k4i,a1];exact fq false H1 (by rw[hpart,decide_eq_false a1];rfl) (by simp) F1 r1
  have k4i:¬(k:Int)=4:=om;simp only[sC,seval,k1i,k2i,k3i,k4i];exact fq false H1 (by unfold fB;rw[if_neg k1',if_neg k2',if_neg k3',if_neg k4']) (by simp) F1 r1
open Go.Abs Go.Abs.S
def dl{e:St}:∀{l:List St},e∈l->e.size<=au l
 | [],h=>by simp at h
 |x::l,h=>by
  simp only[au];rcases List.mem_cons.1 h with rfl|h
  ·omega
  ·have:=dl h;omega
def cZ(l m:List St):au (l++m)=au l+au m:=by
 induction l with
 |nil=>simp[au]
 |cons x l ih=>simp only[XQ,au,ih];omega
def jZ(l m:List St):bw (l++m)=max (bw l) (bw m):=by
 induction l with
 |nil=>simp[bw]
 |cons x l ih=>simp only[XQ,bw,ih];omega
def vS(l m:List St):cA (l++m)=(cA l&&cA m):=by
 induction l with
 |nil=>simp[cA]
 |cons x l ih=>simp only[XQ,cA,ih,Bool.and_assoc]
def db(l:List St):l.length<=au l:=by
 induction l with
 |nil=>simp
 |cons x l ih=>cases x;simp only[XB,au,St.size];omega
def Se(n deep:Nat)(e:St):Prop:=Bb e=true/\n+e.size<=1000/\deep+e.deep<=41
def rW(n deep:Nat)(l:List St):Prop:=cA l=true/\n+au l<=1000/\deep+bw l<=41
def yn{n deep:Nat}{l:List St}{e:St}:rW n deep (l++[e])↔rW n deep l/\Se (n+au l) deep e:=by
 unfold rW Se;rw[vS,cZ,jZ];simp only[cA,au,bw,Bool.and_true,XA];constructor
 ·rintro⟨⟨a,b⟩,c,d⟩;exact⟨⟨a,om,om⟩,b,om,om⟩
 ·rintro⟨⟨a,b,c⟩,d,e,f⟩;exact⟨⟨a,d⟩,om,om⟩
def IG{n deep:Nat}{l:List St}(h:rW n deep l)(i:Nat):rW n deep (l.take i):=by have:=List.take_append_drop i l;unfold rW at *;rw[<- this,vS,cZ,jZ]at h;simp only[XA]at h;obtain⟨⟨a,b⟩,c,d⟩:=h;exact⟨a,om,om⟩
def eM.blk{P:Nat->Prop}{H:aa}{m k:Nat}{v:ae}{C:List ae}(h:eM P H m v k C){i:Nat}(hi:i<k):∀a,cz m v i=.ptr (some a)->P a.b:=by
 intro a ea;rcases h with⟨_,h0,_⟩|⟨a',r,rfl,h0,_⟩
 ·omega
 ·simp only[cz,ae.ptr.injEq,sJ]at ea;subst ea;exact h0
def VR(N:Nat):Prop:=∀{e:St} {c:List ae} {H:aa} {mb n deep:Nat} {p:ae},e.size<=N->mS H p c->(∀a,p=.ptr (some a)->a.b<H.next/\a.b≠mb)->XS (λb=>b<H.next/\b≠mb) H e c->be H mb [.int .i64 (n:Int)]->mb<H.next->n<=1000->deep<=41 ->
  aq Tryz.prog aF 84 [ah mb 1 0,p,.int .i64 (deep:Int)] H (JC mb n e.size (Se n deep e) H)
def LiR(N:Nat):Prop:=∀{l:List St} {C:List ae} {H:aa} {mb n deep:Nat} {v:ae},au l<=N->eM (λb=>b<H.next/\b≠mb) H 9 v l.length C->lV (λb=>b<H.next/\b≠mb) H l C->be H mb [.int .i64 (n:Int)]->mb<H.next->n<=1000->deep<=41 ->
  aq Tryz.prog aF 40 [ah mb 1 0,v,.int .i64 (deep:Int)] H (JC mb n (au l) (rW n deep l) H)
def liR{N:Nat}(ih:VR N):LiR N:=by
 intro l C H mb n deep v h z1 z2 hm hmb hn hd;obtain⟨Q,hQ⟩:∃Q,Q=JC mb n (au l) (rW n deep l) H:=⟨_,rfl⟩;rw[<- hQ];refine ak rfl Wx rfl ?_;have ln:=z1.len;simp only[c40,sC,seval,ln];refine aM (λm (T:bZ) H'=>∃i:Nat,m=l.length-i/\i<=l.length/\T 0=ah mb 1 0/\T 1=v/\T 2=.int .i64 (deep:Int)/\T 9=.int .i64 (l.length:Int)/\T 10=.int .i64 (i:Int)/\Fp mb H H'/\be H' mb [.int .i64 ((n+au (l.take i):Nat):Int)]/\rW n deep (l.take i)) l.length
  ⟨0,rfl,Nat.zero_le _,by simp only[sC,seval],by simp only[sC,seval],by simp only[sC,seval],by simp only[sC,seval],by simp only[sC,seval];try rfl,Fp.refl _ _,hm,rfl,by simp only[List.take_zero,au];omega,by simp only[List.take_zero,bw];omega⟩ ?_
 rintro m T H3 ⟨i,rfl,hi,t0,t1,t2,t9,t10,F3,r3,hR3⟩;have e3:=F3.next;by_cases hlt:i<l.length
 case neg=>obtain rfl:i=l.length:=om;have hlt':¬(l.length:Int)<(l.length:Int):=om;rw[List.take_length]at hR3 r3;simp only[sC,seval,t9,t10,hlt'];rw[hQ];exact⟨.inl ⟨hR3,tt,r3⟩,F3⟩
 have hlt':(i:Int)<(l.length:Int):=om;obtain⟨e,he⟩:∃e,l[i]?=some e:=⟨_,Xx hlt⟩;have hts:l.take (i+1)=l.take i++[e]:=by rw[List.take_add_one,he];rfl
 have km:∀b,(b<H.next/\b≠mb)->(b<H3.next/\b≠mb)/\H3.get b=H.get b:=λb hb=>⟨⟨om,hb.2⟩,F3.old b hb.1 hb.2⟩;have z13:=z1.mono km;have z23:=z2.mono km;have ix:=z13.idx hlt;have hk:=z13.pt hlt;have he3:=z23.at he;have hsm:=dl (XG he);have wi:IntKind.i64.wrap ((i:Int)+1)=((i+1:Nat):Int):=by have e1:=db (l.take i);have e2:=hR3.2.1;rw[XT,Nat.min_eq_left hi]at e1;rw[IntKind.wrap_i64];omega
 simp only[sC,seval,t0,t1,t2,t9,t10,hlt',ix];refine(ih om hk (z13.blk hlt) he3 r3 om hR3.2.1 hd).mono ?_;rintro u H4 ⟨ho,F4⟩;have F04:=F3.trans F4;rcases ho with⟨hgo,rfl,r4⟩|⟨hgo,rfl⟩
 ·simp only[sC,seval,t0,t1,t2,t9,t10,wi];refine⟨l.length-(i+1),om,i+1,rfl,om,tt,tt,tt,tt,tt,F04,?_,?_⟩
  ·rw[hts,cZ];simp only[au,Nat.add_zero];rw[<- Nat.add_assoc];exact r4
  ·rw[hts,yn];exact⟨hR3,hgo⟩
 ·simp only[sC,seval];rw[hQ];refine⟨.inr ⟨λq=>hgo ?_,tt⟩,F04⟩;have:=IG q (i+1);rw[hts,yn]at this;exact this.2
def stR{N:Nat}(ih:LiR N):VR (N+1):=by
 rintro⟨k,s,e,body,els,line⟩ c H mb n deep p h hp hpb hx hm hmb hn hd;obtain⟨ce,vb,Cb,ve,Ce,rfl,x1,z1,z2,y1,y2⟩:=hx;obtain⟨c0,c1,c2,c3,rfl⟩:∃a b c d,ce=[a,b,c,d]:=by
  have:=x1.len
  match ce,this with
  | [a,b,c,d],_=>exact⟨a,b,c,d,rfl⟩
 obtain⟨Q,hQ⟩:∃Q,Q=JC mb n (St.mk k s e body els line).size (Se n deep (St.mk k s e body els line)) H:=⟨_,rfl⟩;obtain⟨PF,hPF⟩:∃PF:Prop,PF↔cM k s body.length els.length=true:=⟨_,Iff.rfl⟩;rw[<- hQ];refine ak rfl V4 rfl ?_;have hsz:(St.mk k s e body els line).size=e.size+au body+au els+1:=rfl;have hdp:(St.mk k s e body els line).deep=max e.deep (max (bw body) (bw els))+1:=rfl;simp only[c84,sW,sL,lC,kB,rY,sB,seval];refine(yB (deep:=deep) hm om).mono ?_;rintro _ H1 ⟨⟨b,rfl,hb⟩,r1,n1,k1⟩;have F1:Fp mb H H1:=⟨om,λc _ hc=>k1 c hc⟩;have pp:=hp.fp F1 hpb;have p0:=pp.load0 (x:=.int .u8 (k:Int)) rfl;have p1:=pp.load (o:=1) (x:=.str s) rfl;have p6:=pp.load (o:=6) (x:=vb) rfl;have p7:=pp.load (o:=7) (x:=ve) rfl;have q0:=pp.fld0;have q1:=pp.fld 1;have q2:=pp.fld 2;have q6:=pp.fld 6;have q7:=pp.fld 7;have qc:=pp.chk;have lb:=z1.len;have le:=y1.len;cases b with
 |false=>
  have hno:¬Se n deep (.mk k s e body els line):=by rintro⟨_,q1,q2⟩;exact absurd (hb.2 ⟨om,om⟩) (by simp)
  simp only[sC,seval];rw[hQ];exact⟨.inr ⟨hno,tt⟩,F1⟩
 |true=>
 obtain⟨h01,h02⟩:=hb.1 rfl;have hok:Bb (.mk k s e body els line)=(cM k s body.length els.length&&(lD e&&(cA body&&cA els))):=by simp only[Bb]
 have hR:Se n deep (.mk k s e body els line)↔cM k s body.length els.length=true/\Po (n+1) (deep+1) e/\rW (n+1+e.size) (deep+1) body/\rW (n+1+e.size+au body) (deep+1) els:=by
  unfold Se Po rW;rw[hok,hsz,hdp,XA,XA,XA];constructor
  ·rintro⟨⟨a,b,c,d⟩,e,f⟩;exact⟨a,⟨b,om,om⟩,⟨c,om,om⟩,d,om,om⟩
  ·rintro⟨a,⟨b,_,_⟩,⟨c,_,_⟩,d,_,_⟩;exact⟨⟨a,b,c,d⟩,om,om⟩
 have fq:∀(H2:aa),cM k s body.length els.length=false->Fp mb H H2->Q (.bool false) H2:=by intro H2 h1 h3;rw[hQ];exact⟨.inr ⟨λq=>by rw[(hR.1 q).1]at h1;simp at h1,rfl⟩,h3⟩
 simp only[sW,sL,lC,kB,rY,sB,seval,qc,q0,p0];rw[ip];refine im (λ(T:bZ) H'=>T 0=ah mb 1 0/\T 1=p/\T 2=.int .i64 (deep:Int)/\Fp mb H H'/\be H' mb [.int .i64 ((n+1:Nat):Int)]/\PF) (cU _ _) ?_ ?_;rotate_left
 ·rintro T H2 ⟨t0,t1,t2,F2,r2,hpt⟩;have e2:=F2.next;have km:∀{K:aa},Fp mb H K->∀b,(b<H.next/\b≠mb)->(b<K.next/\b≠mb)/\K.get b=H.get b:=λF b hb=>⟨⟨by have:=F.next;omega,hb.2⟩,F.old b hb.1 hb.2⟩;have pp2:=hp.fp F2 hpb;have pe:=pp2.part (o:=2) (k:=4) (by simp);have wd:IntKind.i64.wrap ((deep:Int)+1)=((deep+1:Nat):Int):=iP;simp only[sC,seval,t0,t1,t2,qc,q2,wd];refine(vZ e.size rL pe ?_ (x1.mono (km F2)) r2 om om om).mono ?_
  ·intro a ea;obtain⟨a',rfl,_⟩:=hp;simp only[fp,ae.ptr.injEq,sJ]at ea;subst ea;have:=hpb a' rfl;exact⟨by show a'.b<H2.next;omega,this.2⟩
  rintro u H3 ⟨ho,F3⟩;have F03:=F2.trans F3;have e3:=F03.next;rcases ho with⟨g1,rfl,r3⟩|⟨g1,rfl⟩
  case inr=>simp only[sC,seval,t0,t1,t2];rw[hQ];exact⟨.inr ⟨λq=>g1 (hR.1 q).2.1,tt⟩,F03⟩
  have pp3:=hp.fp F03 hpb;have p63:=pp3.load (o:=6) (x:=vb) rfl;simp only[sC,seval,t0,t1,t2,qc,q6,p63,wd];refine(ih (by rw[hsz]at h;omega) (z1.mono (km F03)) (z2.mono (km F03)) r3 om g1.2.1 om).mono ?_;rintro u H4 ⟨ho,F4⟩;have F04:=F03.trans F4;have e4:=F04.next;rcases ho with⟨g2,rfl,r4⟩|⟨g2,rfl⟩
  case inr=>simp only[sC,seval,t0,t1,t2];rw[hQ];exact⟨.inr ⟨λq=>g2 (hR.1 q).2.2.1,tt⟩,F04⟩
  have pp4:=hp.fp F04 hpb;have p74:=pp4.load (o:=7) (x:=ve) rfl;simp only[sC,seval,t0,t1,t2,qc,q7,p74,wd];refine(ih (by rw[hsz]at h;omega) (y1.mono (km F04)) (y2.mono (km F04)) r4 om g2.2.1 om).mono ?_;rintro u H5 ⟨ho,F5⟩;have F05:=F04.trans F5;rcases ho with⟨g3,rfl,r5⟩|⟨g3,rfl⟩
  ·simp only[sC,seval];rw[hQ];refine⟨.inl ⟨hR.2 ⟨hPF.1 hpt,g1,g2,g3⟩,tt,?_⟩,F05⟩;rw[hsz,show n+(e.size+au body+au els+1)=n+1+e.size+au body+au els by omega];exact r5
  ·simp only[sC,seval];rw[hQ];exact⟨.inr ⟨λq=>g3 (hR.1 q).2.2.2,tt⟩,F05⟩
 have nb0:∀{α:Type} {l:List α},l≠[]->Nat.beq l.length 0=false:=λq=>by rw[ch];exact decide_eq_false (by have:=List.length_pos_iff.2 q;omega)
 have pos:∀{α:Type} {l:List α},l≠[]->(0:Int)<(l.length:Int):=λq=>by have:=List.length_pos_iff.2 q;omega
 have emp:s≠[]->s.isEmpty=false:=λq=>by cases s<;>simp_all
 have nil0:¬(0:Int)<((([]:List St)).length:Int):=by simp
 by_cases k1:k=1
 ·have i1:(k:Int)=1:=om;have hpart:cM k s body.length els.length=(cH s&&(Nat.beq body.length 0&&Nat.beq els.length 0)):=by unfold cM;rw[if_pos (.inl k1)]
  simp only[sC,seval,qc,q0,q1,q6,q7,p0,p1,p6,p7,lb,le,i1];refine(kJ s).mono ?_;rintro _ H2 ⟨rfl,E2⟩;have F12:Fp mb H1 H2:=⟨E2.next,λc hc _=>E2.old c hc⟩;have F02:=F1.trans F12;have pp2:=hp.fp F02 hpb;have p62:=pp2.load (o:=6) (x:=vb) rfl;have p72:=pp2.load (o:=7) (x:=ve) rfl;have r2:=r1.same (E2.old mb om);cases a2:cH s with
  |false=>simp only[sC,seval];exact fq H2 (by rw[hpart,a2];rfl) F02
  |true=>
  by_cases a3:body=[]
  ·by_cases a4:els=[]
   ·have b3:¬(0:Int)<(body.length:Int):=by rw[a3];simp
    have b4:¬(0:Int)<(els.length:Int):=by rw[a4];simp
    simp only[sC,seval,qc,q6,q7,p62,p72,lb,le,b3,b4];exact⟨tt,tt,tt,F02,r2,hPF.2 (by rw[hpart,a2,a3,a4];rfl)⟩
   ·have b3:¬(0:Int)<(body.length:Int):=by rw[a3];simp
    have b4:=pos a4;simp only[sC,seval,qc,q6,q7,p62,p72,lb,le,b3,b4];exact fq H2 (by rw[hpart,nb0 a4];simp) F02
  ·have b3:=pos a3;simp only[sC,seval,qc,q6,q7,p62,p72,lb,le,b3];exact fq H2 (by rw[hpart,nb0 a3];simp) F02
 have i1:¬(k:Int)=1:=om;by_cases k2:k=2
 ·have i2:(k:Int)=2:=om;have hpart:cM k s body.length els.length=(cH s&&(Nat.beq body.length 0&&Nat.beq els.length 0)):=by unfold cM;rw[if_pos (.inr k2)]
  simp only[sC,seval,qc,q0,q1,q6,q7,p0,p1,p6,p7,lb,le,i1,i2];refine(kJ s).mono ?_;rintro _ H2 ⟨rfl,E2⟩;have F12:Fp mb H1 H2:=⟨E2.next,λc hc _=>E2.old c hc⟩;have F02:=F1.trans F12;have pp2:=hp.fp F02 hpb;have p62:=pp2.load (o:=6) (x:=vb) rfl;have p72:=pp2.load (o:=7) (x:=ve) rfl;have r2:=r1.same (E2.old mb om);cases a2:cH s with
  |false=>simp only[sC,seval];exact fq H2 (by rw[hpart,a2];rfl) F02
  |true=>
  by_cases a3:body=[]
  ·by_cases a4:els=[]
   ·have b3:¬(0:Int)<(body.length:Int):=by rw[a3];simp
    have b4:¬(0:Int)<(els.length:Int):=by rw[a4];simp
    simp only[sC,seval,qc,q6,q7,p62,p72,lb,le,b3,b4];exact⟨tt,tt,tt,F02,r2,hPF.2 (by rw[hpart,a2,a3,a4];rfl)⟩
   ·have b3:¬(0:Int)<(body.length:Int):=by rw[a3];simp
    have b4:=pos a4;simp only[sC,seval,qc,q6,q7,p62,p72,lb,le,b3,b4];exact fq H2 (by rw[hpart,nb0 a4];simp) F02
  ·have b3:=pos a3;simp only[sC,seval,qc,q6,q7,p62,p72,lb,le,b3];exact fq H2 (by rw[hpart,nb0 a3];simp) F02
 have i2:¬(k:Int)=2:=om;have i12:¬(k=1∨k=2):=om;by_cases k3:k=3
 ·have i3:(k:Int)=3:=om;have hpart:cM k s body.length els.length=s.isEmpty:=by unfold cM;rw[if_neg i12,if_pos k3]
  by_cases a2:s=[]
  ·simp only[sC,seval,qc,q0,q1,q6,q7,p0,p1,p6,p7,lb,le,i1,i2,i3,a2];exact⟨tt,tt,tt,F1,r1,hPF.2 (by rw[hpart,a2];rfl)⟩
  ·simp only[sC,seval,qc,q0,q1,q6,q7,p0,p1,p6,p7,lb,le,i1,i2,i3,a2];exact fq H1 (by rw[hpart,emp a2]) F1
 have i3:¬(k:Int)=3:=om;by_cases k4:k=4
 ·have i4:(k:Int)=4:=om;have hpart:cM k s body.length els.length=(s.isEmpty&&Nat.beq els.length 0):=by unfold cM;rw[if_neg i12,if_neg k3,if_pos k4]
  by_cases a2:s=[]
  ·by_cases a4:els=[]
   ·have b4:¬(0:Int)<(els.length:Int):=by rw[a4];simp
    simp only[sC,seval,qc,q0,q1,q6,q7,p0,p1,p6,p7,lb,le,i1,i2,i3,i4,a2,b4];exact⟨tt,tt,tt,F1,r1,hPF.2 (by rw[hpart,a2,a4];rfl)⟩
   ·have b4:=pos a4;simp only[sC,seval,qc,q0,q1,q6,q7,p0,p1,p6,p7,lb,le,i1,i2,i3,i4,a2,b4];exact fq H1 (by rw[hpart,nb0 a4];simp) F1
  ·simp only[sC,seval,qc,q0,q1,q6,q7,p0,p1,p6,p7,lb,le,i1,i2,i3,i4,a2];exact fq H1 (by rw[hpart,emp a2];rfl) F1
 have i4:¬(k:Int)=4:=om;by_cases k5:k=5
 ·have i5:(k:Int)=5:=om;have hpart:cM k s body.length els.length=(s.isEmpty&&(Nat.beq body.length 0&&Nat.beq els.length 0)):=by unfold cM;rw[if_neg i12,if_neg k3,if_neg k4,if_pos k5]
  by_cases a2:s=[]
  ·by_cases a3:body=[]
   ·have b3:¬(0:Int)<(body.length:Int):=by rw[a3];simp
    by_cases a4:els=[]
    ·have b4:¬(0:Int)<(els.length:Int):=by rw[a4];simp
     simp only[sC,seval,qc,q0,q1,q6,q7,p0,p1,p6,p7,lb,le,i1,i2,i3,i4,i5,a2,b3,b4];exact⟨tt,tt,tt,F1,r1,hPF.2 (by rw[hpart,a2,a3,a4];rfl)⟩
    ·have b4:=pos a4;simp only[sC,seval,qc,q0,q1,q6,q7,p0,p1,p6,p7,lb,le,i1,i2,i3,i4,i5,a2,b3,b4];exact fq H1 (by rw[hpart,nb0 a4];simp) F1
   ·have b3:=pos a3;simp only[sC,seval,qc,q0,q1,q6,q7,p0,p1,p6,p7,lb,le,i1,i2,i3,i4,i5,a2,b3];exact fq H1 (by rw[hpart,nb0 a3];simp) F1
  ·simp only[sC,seval,qc,q0,q1,q6,q7,p0,p1,p6,p7,lb,le,i1,i2,i3,i4,i5,a2];exact fq H1 (by rw[hpart,emp a2];rfl) F1
 have i5:¬(k:Int)=5:=om;simp only[sC,seval,i1,i2,i3,i4,i5];exact fq H1 (by unfold cM;rw[if_neg i12,if_neg k3,if_neg k4,if_neg k5]) F1
def ee(e:St):0<e.size:=by cases e;simp only[St.size];omega
def WR:VR 0:=by intro e c H mb n deep p h;exact absurd h (Nat.not_le.2 (ee e))
def Gx:∀(N:Nat),VR N
 |0=>WR
 |N+1=>stR (liR (Gx N))
def tT{l:List St}{C:List ae}{H:aa}{v:ae}(z1:eM (·<H.next) H 9 v l.length C)(z2:lV (·<H.next) H l C):aq Tryz.prog aF 15 [v] H λu H'=>u=.bool (d8 l)/\aS H.next H H':=by
 refine ak rfl WQ rfl ?_;obtain⟨H1,m1,r1,n1,k1⟩:=aC H [.int .i64 0] (n:=1) rfl;have b1:aJ [.int .i64 0] []=some (.agg [.int .i64 0]):=rfl;simp only[c15,sC,seval,b1,aG,m1];have km:∀b,b<H.next->(b<H1.next/\b≠H.next)/\H1.get b=H.get b:=λb hb=>⟨⟨om,om⟩,k1 b om⟩;refine(liR (Gx (au l)) (n:=0) (deep:=1) rL (z1.mono km) (z2.mono km) r1 om om om).mono ?_;rintro u H2 ⟨ho,F2⟩;have E:aS H.next H H2:=⟨by have:=F2.next;omega,λc hc=>by rw[F2.old c om om,k1 c om]⟩;have hr:rW 0 1 l↔d8 l=true:=by
  unfold rW d8 hX;simp only[XA,XK];constructor
  ·rintro⟨a,b,c⟩;exact⟨a,om,om⟩
  ·rintro⟨a,b,c⟩;exact⟨a,om,om⟩
 rcases ho with⟨h,rfl,_⟩|⟨h,rfl⟩
 ·rw[hr.1 h];simp only[sC,seval];exact⟨tt,E⟩
 ·have:d8 l=false:=by
   cases hh:d8 l with
   |false=>rfl
   |true=>exact absurd (hr.2 hh) h
  rw[this];simp only[sC,seval];exact⟨tt,E⟩
open Go.Abs Go.Abs.S
structure Nm(S:Bs):Prop where
 beg:∃c r,S=c::r/\beg c=true
 all:∀c∈S,jp c=true
 key:qV S=false
 len:S.length<=16384
def Pi{c:UInt8}(h:beg c=true):dP c=false/\blk c=false/\c.toNat≠35:=by
 simp only[beg,Bool.or_eq_true,XA,XK]at h;refine⟨?_,?_,?_⟩
 ·simp only[dP,Bool.and_eq_false_iff,decide_eq_false_iff_not];omega
 ·simp only[blk,Bool.or_eq_false_iff,decide_eq_false_iff_not];omega
 ·omega
def JV{p:UInt8->Bool}{l:Bs}(h:∀c∈l,p c=true):l.takeWhile p=l:=by
 induction l with
 |nil=>rfl
 |cons a l ih=>rw[List.takeWhile_cons_of_pos (h a (by simp)),ih λc hc=>h c (by simp[hc])]
def Nm.name{S:Bs}(h:Nm S):cH S=true:=by
 obtain⟨c,r,rfl,hc⟩:=h.beg;obtain⟨h1,h2,h3⟩:=Pi hc;have hs:bI (c::r) 0=0:=sF (s:=c::r) (i:=0) (c:=c) rfl h2 h3;have hr:bO jp (c::r) 0=(c::r).length:=by unfold bO;rw[List.drop_zero,JV h.all];omega
 have hsub:sub (c::r) 0 (c::r).length=c::r:=by unfold sub;rw[List.drop_zero,Nat.sub_zero,List.take_length]
 have ho:jP (c::r) 0=some ⟨2,c::r,0,(c::r).length⟩:=by unfold jP;simp only[XH,h1,XJ,if_false,hc,if_true,hr,hsub,h.key]
 have hn:fC (c::r) 0=.ok ⟨2,c::r,0,bT (c::r) 0,0,(c::r).length⟩:=by unfold fC;have:=h.len;rw[if_neg om,if_neg om,hs,if_neg (by simp),ho]
 unfold cH;rw[hn];simp
def GN{s:Bs}{p:Nat}{w:Wd}(h:fC s p=.ok w)(hk:w.k=2):Nm w.S:=by
 have hlen:=(qQ h).1.long;unfold fC at h;rw[if_neg om]at h;by_cases a2:s.length<p
 ·rw[if_pos a2]at h;simp at h
 rw[if_neg a2]at h;by_cases a3:bI s p=s.length
 ·rw[if_pos a3]at h;simp only[Except.ok.injEq]at h;subst h;simp at hk
 rw[if_neg a3]at h;have hj:=nn s p;generalize bI s p=j at *;cases ho:jP s j with
 |none=>rw[ho]at h;simp at h
 |some t=>
  rw[ho]at h;simp only[Except.ok.injEq]at h;subst h;simp only at hk ⊢;unfold jP at ho;cases hc:s[j]? with
  |none=>rw[hc]at ho;simp at ho
  |some c=>
   rw[hc]at ho;simp only at ho;by_cases hd:dP c=true
   ·rw[if_pos hd]at ho;split at ho
    ·simp only[sJ]at ho;subst ho;simp at hk
    ·simp at ho
   rw[if_neg hd]at ho;by_cases hb:beg c=true
   ·rw[if_pos hb]at ho;simp only[sJ]at ho;subst ho;simp only at hk ⊢;have hkey:qV (sub s j (bO jp s j))=false:=by
     cases hh:qV (sub s j (bO jp s j))with
     |false=>rfl
     |true=>rw[hh]at hk;simp at hk
    have hsub:sub s j (bO jp s j)=(s.drop j).takeWhile jp:=by unfold sub bO;rw[Nat.add_sub_cancel_left];exact(List.prefix_iff_eq_take.1 (List.takeWhile_prefix jp)).symm
    have hg:jp c=true:=by simp[jp,hb]
    rw[hsub]at hkey ⊢;refine⟨?_,λd hd=>List.all_eq_true.1 List.all_takeWhile d hd,hkey,?_⟩
    ·rw[eF hc,List.takeWhile_cons_of_pos hg];exact⟨c,_,rfl,hb⟩
    ·have:=(List.takeWhile_prefix jp (l:=s.drop j)).length_le;rw[XR]at this;omega
   ·rw[if_neg hb]at ho;split at ho
    ·simp at ho
    ·simp only[sJ]at ho;subst ho;simp at hk
def MY(w:Wd):Prop:=w.k=2->cH w.S=true
def fj{s:Bs}{w w':Wd}(h:eD s w=.ok w'):MY w':=λhk=>(GN h hk).name
def ku{s c:Bs}{w w':Wd}(h:fu s c w=.ok w'):MY w':=by
 unfold fu at h;split at h
 ·exact fj h
 ·simp at h
def JA{α:Type}(o:Option (iU α))(P:α->Prop):Prop:=∀a w',o=some (.ok (a,w'))->P a/\MY w'
def cW{α:Type}{o:Except JG Wd}{f:Wd->Option (iU α)}{P:α->Prop}(h:∀w',o=.ok w'->JA (f w') P):JA (nD o f) P:=by
 cases o with
 |error e=>intro a w' q;simp[nD]at q
 |ok w=>exact h w rfl
def hG{α β:Type}{o:Option (iU α)}{f:α->Wd->Option (iU β)}{P:α->Prop}{Q:β->Prop}(ho:JA o P)(h:∀a w',P a->MY w'->JA (f a w') Q):JA (xq o f) Q:=by
 cases o with
 |none=>intro a w' q;simp[xq]at q
 |some o=>
  cases o with
  |error e=>intro a w' q;simp[xq]at q
  |ok p=>obtain⟨a,w⟩:=p;exact h a w (ho a w rfl).1 (ho a w rfl).2
def eg{α:Type}{a:α}{w:Wd}{P:α->Prop}(h:P a)(hw:MY w):JA (dC a w) P:=by intro a' w' q;simp only[dC,sJ,Except.ok.injEq,pJ]at q;rw[<- q.1,<- q.2];exact⟨h,hw⟩
def qC{α:Type}{e:Nat}{w:Wd}{P:α->Prop}:JA (tB (α:=α) e w) P:=by intro a w' q;simp[tB]at q
def GA{w:Wd}{l:List Bs}(h:mU w l=true):w.S∈l:=by simp only[mU,XA]at h;simpa using h.2
def op2{k:Nat}{S:Bs}(hk:1<=k)(hk5:k<=5)(h:S∈Lc k):nC S 2=true:=by
 have key:∀k,1<=k->k<=5->∀S∈Lc k,nC S 2=true:=by
  intro k h1 h5
  match k,h1,h5 with
  |1,_,_|2,_,_|3,_,_|4,_,_|5,_,_=>decide
 exact key k hk hk5 S h
def op1{S:Bs}(h:S∈([[45],[33]]:List Bs)):nC S 1=true:=by
 have key:∀S∈([[45],[33]]:List Bs),nC S 1=true:=by decide
 exact key S h
def KS{S:Bs}{kids:List Ex}(h:nC S kids.length=true)(hk:eY kids=true):lD (.mk 3 S 0 kids)=true:=by simp[lD,fB,h,hk]
def Cf{S:Bs}{kids:List Ex}(h:cH S=true)(hk:eY kids=true):lD (.mk 4 S 0 kids)=true:=by simp[lD,fB,h,hk]
def yy{l:List Ex}{e:Ex}(h:eY l=true)(he:lD e=true):eY (l++[e])=true:=by
 induction l with
 |nil=>simp[eY,he]
 |cons x l ih=>simp only[eY,XA]at h;simp only[XQ,eY,h.1,ih h.2,Bool.and_self]
def yx{l m:List St}(h:cA l=true)(he:cA m=true):cA (l++m)=true:=by
 induction l with
 |nil=>exact he
 |cons x l ih=>simp only[cA,XA]at h;simp only[XQ,cA,h.1,ih h.2,Bool.and_self]
def Cd:NT->Prop
 | .rule k=>k<=5
 | .loop k e=>1<=k/\k<=5/\lD e=true
 | .prim=>True
 | .args S out=>cH S=true/\eY out=true
def PP(s:Bs):∀(f:Nat) (nt:NT) (g:Nat) (w:Wd),MY w->Cd nt->JA (pE s f nt g w) λe=>lD e=true
 |0,_,_,_,_,_=>by intro a w' q;simp[pE]at q
 |f+1,nt,g,w,hw,hk=>by
  have ih:=PP s f;rw[mn];cases nt with
  |rule k=>
   cases k with
   |zero=>
    simp only[iX];split
    ·exact qC
    split
    ·rename_i hs;refine cW λw1 h1=>hG (ih (.rule 0) (g+1) w1 (fj h1) (by simp only[Cd];omega)) λe w2 he hw2=>?_;exact eg (KS (op1 (GA hs)) (by simp[eY,he])) hw2
    ·exact ih .prim (g+1) w hw trivial
   |succ k=>simp only[iX];simp only[Cd]at hk;refine hG (ih (.rule k) g w hw (by simp only[Cd];omega)) λe w1 he hw1=>?_;exact ih (.loop (k+1) e) g w1 hw1 ⟨om,hk,he⟩
  |loop k e=>
   simp only[iX];obtain⟨k1,k5,he⟩:=hk;split
   ·rename_i hs;refine cW λw1 h1=>hG (ih (.rule (k-1)) g w1 (fj h1) (by simp only[Cd];omega)) λr w2 hr hw2=>?_;have hok:lD (.mk 3 w.S 0 [e,r])=true:=KS (op2 k1 k5 (GA hs)) (by simp[eY,he,hr]);split
    ·exact eg hok hw2
    ·exact ih (.loop k _) g w2 hw2 ⟨k1,k5,hok⟩
   ·exact eg he hw
  |prim=>
   simp only[iX];split
   ·refine cW λw1 h1=>eg ?_ (fj h1);simp[lD,fB,eY]
   split
   ·rename_i h2;refine cW λw1 h1=>?_;split
    ·refine cW λw2 h2'=>?_;split
     ·exact cW λw3 h3=>eg (Cf (hw h2) rfl) (fj h3)
     ·exact ih (.args w.S []) g w2 (fj h2') ⟨hw h2,rfl⟩
    ·refine eg ?_ (fj h1);simp[lD,fB,eY,hw h2]
   split
   ·refine cW λw1 h1=>hG (ih (.rule 5) g w1 (fj h1) (by simp only[Cd];omega)) λe w2 he hw2=>?_;exact cW λw3 h3=>eg he (ku h3)
   ·exact qC
  |args S out=>
   simp only[iX];obtain⟨hS,ho⟩:=hk;refine hG (ih (.rule 5) g w hw (by simp only[Cd];omega)) λe w1 he hw1=>?_;split
   ·exact cW λw2 h2=>ih (.args S (out++[e])) g w2 (fj h2) ⟨hS,yy ho he⟩
   ·exact cW λw2 h2=>eg (Cf hS (yy ho he)) (ku h2)
def WW:NS->Prop
 | .more out=>cA out=true
 |_=>True
def PO(s:Bs):∀(f:Nat) (nt:NS) (g:Nat) (w:Wd),MY w->WW nt->JA (pS s f nt g w) λl=>cA l=true
 |0,_,_,_,_,_=>by intro a w' q;simp[pS]at q
 |f+1,nt,g,w,hw,hk=>by
  have ih:=PO s f;have pe:∀g w1,MY w1->JA (pE s f (.rule 5) g w1) λe=>lD e=true:=λg w1 h=>PP s f (.rule 5) g w1 h (by simp only[Cd];omega);rw[qL];have named:∀k line g w1,(k=1∨k=2)->MY w1->JA (nE s (pE s f) k line g w1) λl=>cA l=true:=by
   intro k line g w1 hk h1;unfold nE;split
   ·rename_i c;refine cW λw2 h2=>cW λw3 h3=>hG (pe g w3 (ku h3)) λe w4 he hw4=>cW λw5 h5=>eg ?_ (ku h5);have:cM k w1.S ([]:List St).length ([]:List St).length=true:=by
     unfold cM;rw[if_pos hk,h1 c];rfl
    simp only[cA,Bb,this,he,Bool.and_self]
   ·exact qC
  have asked:∀g w1 F,(∀e l w4,lD e=true->cA l=true->MY w4->JA (F e l w4) λl=>cA l=true)->JA (ow s (pE s f) (pS s f) g w1 F) λl=>cA l=true:=by intro g w1 F hF;unfold ow;refine cW λw2 h2=>hG (pe g w2 (ku h2)) λe w3 he hw3=>cW λw4 h4=>hG (ih .body g w4 (ku h4) trivial) λl w5 hl hw5=>hF e l w5 he hl hw5
  cases nt with
  |stmt=>
   simp only[nj];split
   ·exact qC
   split
   ·exact cW λw1 h1=>named _ _ _ w1 (.inl rfl) (fj h1)
   split
   ·exact cW λw1 h1=>named _ _ _ w1 (.inr rfl) (fj h1)
   split
   ·refine cW λw1 h1=>asked _ w1 _ λe l w2 he hl hw2=>?_;split
    ·refine cW λw3 h3=>hG (ih .body _ w3 (fj h3) trivial) λm w4 hm hw4=>eg ?_ hw4;simp[cA,Bb,he,hl,hm,cM]
    ·refine eg ?_ hw2;simp[cA,Bb,he,hl,cM]
   split
   ·refine cW λw1 h1=>asked _ w1 _ λe l w2 he hl hw2=>eg ?_ hw2;simp[cA,Bb,he,hl,cM]
   split
   ·refine cW λw1 h1=>hG (pe _ w1 (fj h1)) λe w2 he hw2=>cW λw3 h3=>eg ?_ (ku h3);simp[cA,Bb,he,cM]
   ·exact qC
  |body=>simp only[nj];exact cW λw1 h1=>ih (.more []) g w1 (ku h1) rfl
  |more out=>
   simp only[nj];split
   ·exact cW λw1 h1=>eg hk (fj h1)
   ·exact hG (ih .stmt g w hw trivial) λx w1 hx hw1=>ih (.more (out++x)) g w1 hw1 (yx hk hx)
def Gq(s:Bs):∀(f:Nat) (out:List St) (w:Wd) (l:List St),MY w->cA out=true->ul s f out w=some (.ok l)->cA l=true
 |0,_,_,_,_,_,h=>by simp[ul]at h
 |f+1,out,w,l,hw,ho,h=>by
  unfold ul at h;by_cases c:w.k=5
  ·rw[if_pos c]at h;simp only[sJ,Except.ok.injEq]at h;subst h;exact ho
  rw[if_neg c]at h;cases hp:pS s f .stmt 0 w with
  |none=>rw[hp]at h;simp at h
  |some r=>
   rw[hp]at h;cases r with
   |error e=>simp at h
   |ok p=>obtain⟨x,w1⟩:=p;obtain⟨h1,h2⟩:=PO s f .stmt 0 w hw trivial x w1 hp;exact Gq s f (out++x) w1 l h2 (yx ho h1) h
def It{s:Bs}{w:Wd}{f:Nat}{l:List St}(hn:fC s 0=.ok w)(hp:ul s f [] w=some (.ok l)):d8 l=hX l:=by have:=Gq s _ [] w l (λhk=>(GN hn hk).name) rfl hp;unfold d8;rw[this];rfl
open Go.Abs Go.Abs.S
def Ax{T:bZ}{H:aa}(g:Bool)(n i j:Nat)(K:ae->aa->Prop):fq [.t i,.cell g n j] K .ret T H=dW (al g n H (T j)) λv=>K (.tuple [T i,v]) H:=by
 rw[Ay];simp only[pj];cases al g n H (T j)with
 |none=>simp[dW]
 |some v=>simp only[aQ];rfl
def lH{n pb k b m:Nat}{H:aa}{vb:ae}(hv:DL n pb H k vb)(hn:n<=H.next)(hpb:pb<n)(hb:be H b ((Lc (k+1)).map ae.str))(hm:((Lc (k+1)).map ae.str).length=m)(hbn:b<H.next)(hbp:b≠pb) :
  aq Tryz.prog aF 29 [ah pb 11 0,vb,.bool (!Nat.beq (k+1) 3),BJ b m (.known m)] H λu H'=>DL H'.next pb H' (k+1) u/\aS H.next H H':=by
 refine ak rfl WF rfl ?_;obtain⟨H1,m1,r1,n1,k1⟩:=aC H [ah pb 11 0] (n:=1) rfl;have hvo:vb.cells=[vb]:=by
  cases k with
  |zero=>rw[show vb=_ from hv];rfl
  |succ k=>obtain⟨c0,c1,c2,c3,b,m,vb',rfl,_⟩:=hv;rfl
 obtain⟨H2,m2,r2,n2,k2⟩:=aC H1 [vb] (n:=1) rfl;obtain⟨H3,m3,r3,n3,k3⟩:=aC H2 [.bool (!Nat.beq (k+1) 3)] (n:=1) rfl;obtain⟨H4,m4,r4,n4,k4⟩:=aC H3 [BJ b m (.known m)] (n:=1) rfl;have k04:∀c,c<H.next->H4.get c=H.get c:=λc hc=>by rw[k4 c om,k3 c om,k2 c om,k1 c om]
 have c3:∀x:Bool,(ae.bool x).cells=[.bool x]:=λ_=>rfl;have c4:(BJ b m (.known m)).cells=[BJ b m (.known m)]:=rfl;simp only[c29,sC,seval,fH,m1,hvo,m2,c3,m3,c4,m4];refine⟨⟨H1.next,H.next,H3.next,H2.next,b,m,vb,tt,r2.same (by rw[k4 _ om,k3 _ om]),r1.same (by rw[k4 _ om,k3 _ om,k2 _ om]),r4,r3.same (k4 _ om),hb.same (k04 b hbn),hm,?_,(hv.keep λc hc _=>k04 c om).more om⟩,om,k04⟩;rintro c (rfl|rfl|rfl|rfl|rfl)<;>omega
def qv.bound{n m:Nat}{H:aa}{v:ae}{l:List St}(h:qv n H v l)(hn:m<=n):qv m H v l:=by obtain⟨C,h1,h2,h3⟩:=h;exact⟨C,h1,h2.mono λc hc=>⟨by have:=hc.1;omega,hc.2⟩,h3.mono λc hc=>⟨⟨⟨by have:=hc.1.1;omega,hc.1.2⟩,hc.2⟩,rfl⟩⟩
def BX(s:Bs){H:aa}:aq Tryz.prog aF 9 [.str s] H λu H'=>(match jM s with
   | .ok l=>∃v C,u=.tuple [v,.agg (jt 0 0)]/\eM (In H.next H'.next) H' 9 v l.length C/\dY (In H.next H'.next) H' l C
   | .error e=>u=.tuple [aX,.agg (jt e.1 e.2)])/\aS H.next H H':=by
 refine ak rfl za9 rfl ?_;obtain⟨H1,m1,r1,n1,k1⟩:=aC H [.int .i64 0,.int .i64 0] (n:=2) rfl;have bo:aJ [.str [],.int .u8 0,.str [],.int .i64 0,.int .i64 0,.int .i64 0,.int .i64 0,.int .i64 0,.int .i64 0,.int .i64 0,.nilFunc] [(0,1,.str s)]=some (.agg (du s ⟨0,[],0,0,0,0⟩ 0 0 0 .nilFunc)):=rfl;obtain⟨H2,m2,r2,n2,k2⟩:=aC H1 (du s ⟨0,[],0,0,0,0⟩ 0 0 0 .nilFunc) (n:=11) rfl;obtain⟨pb,hpb⟩:∃pb,pb=H1.next:=⟨_,rfl⟩;rw[<- hpb]at m2 r2 k2;have sg:∀{K:aa} (L:List ae),aS H2.next H2 K->(be (K.push (.cells L 0 false)) K.next L/\aS H2.next H2 (K.push (.cells L 0 false))/\(K.push (.cells L 0 false)).next=K.next+1/\∀k v,DL K.next pb K k v->DL K.next pb (K.push (.cells L 0 false)) k v):=λ{K} L E=>⟨gq _ _,E.push E.next _,rfl,λk v h=>h.keep λc hc _=>aB hc⟩
 have s6:∀K:aa,aL 6 [.str []] K [(0,1,.str [61,61]),(1,1,.str [33,61]),(2,1,.str [60,61]),(3,1,.str [62,61]),(4,1,.str [60]),(5,1,.str [62])]=some (BJ K.next 6 (.known 6),K.push (.cells [.str [61,61],.str [33,61],.str [60,61],.str [62,61],.str [60],.str [62]] 0 false)):=λ_=>rfl;have s1:∀(K:aa) (c:Bs),aL 1 [.str []] K [(0,1,.str c)]=some (BJ K.next 1 (.known 1),K.push (.cells [.str c] 0 false)):=λ_ _=>rfl;have ag:∀l:List ae,(ae.agg l).cells=l:=aG;simp only[c9,sW,sL,lC,kB,rY,sB,seval,m1,bo,ag,m2,NQ];obtain⟨p1,E1,e1,u1⟩:=sg [.str [42],.str [47]] (aS.refl H2.next H2);refine(lH (k:=0) (b:=H2.next) (m:=2) (u1 0 (.func (.func 30) [ah pb 11 0] []) rfl) om om p1 rfl om om).mono ?_;rintro u1 H3 ⟨R3,X3⟩;have E3:=E1.trans (X3.less (by have:=E1.next;omega));generalize H2.push (.cells [.str [42],.str [47]] 0 false)=K1 at *;simp only[sW,sL,lC,kB,rY,sB,seval,NQ];obtain⟨p2,E4,e4,u4⟩:=sg [.str [43],.str [45]] E3;have x3:=E3.next;refine(lH (k:=1) (b:=H3.next) (m:=2) (u4 1 _ R3) om om p2 rfl om om).mono ?_;rintro u2 H5 ⟨R5,X5⟩;have E5:=E4.trans (X5.less (by have:=E4.next;omega));simp only[sW,sL,lC,kB,rY,sB,seval,s6];obtain⟨p3,E6,e6,u6⟩:=sg [.str [61,61],.str [33,61],.str [60,61],.str [62,61],.str [60],.str [62]] E5;have x5:=E5.next;refine(lH (k:=2) (b:=H5.next) (m:=6) (u6 2 _ R5) om om p3 rfl om om).mono ?_;rintro u3 H7 ⟨R7,X7⟩;have E7:=E6.trans (X7.less (by have:=E6.next;omega));simp only[sW,sL,lC,kB,rY,sB,seval,s1];obtain⟨p4,E8,e8,u8⟩:=sg [.str [38,38]] E7;have x7:=E7.next;refine(lH (k:=3) (b:=H7.next) (m:=1) (u8 3 _ R7) om om p4 rfl om om).mono ?_;rintro u4' H9 ⟨R9,X9⟩;have E9:=E8.trans (X9.less (by have:=E8.next;omega));simp only[sW,sL,lC,kB,rY,sB,seval,s1];obtain⟨p5,Ea,ea,ua⟩:=sg [.str [124,124]] E9;have x9:=E9.next;refine(lH (k:=4) (b:=H9.next) (m:=1) (ua 4 _ R9) om om p5 rfl om om).mono ?_;rintro orv Hb ⟨Rb,Xb⟩;have Eb:=Ea.trans (Xb.less (by have:=Ea.next;omega));have xb:=Eb.next;have oo:orv.one=true:=by obtain⟨c0,c1,c2,c3,b,m,vb',rfl,_⟩:=Rb;rfl
 have q2:be Hb pb (du s ⟨0,[],0,0,0,0⟩ 0 0 0 .nilFunc):=r2.same (Eb.old pb om);obtain⟨Hc,mc,rc,nc,kc⟩:=bQ q2 (n:=11) rfl (i:=10) om (x:=orv) oo (l':=du s ⟨0,[],0,0,0,0⟩ 0 0 0 orv) rfl;have Rc:DL Hb.next pb Hc 5 orv:=Rb.keep λc _ hc=>kc c hc;have rt:be Hc H.next [.int .i64 0,.int .i64 0]:=r1.same (by rw[kc _ om,Eb.old _ om,k2 _ om]);have hold:∀c,c<H.next->Hc.get c=H.get c:=λc hc=>by rw[kc c om,Eb.old c om,k2 c om,k1 c om]
 simp only[sW,sL,lC,kB,rY,sB,seval,az,aA,mc];refine(cG rc om (by simp)).mono ?_;rintro u Hd ⟨ho,Fd⟩;have xd:=Fd.next;have b0:aJ [.int .i64 0,.int .i64 0] []=some (.agg (jt 0 0)):=rfl;have bn:aJ [.int .i64 0,.int .i64 0] [(0,1,.int .i64 102)]=some (.agg (jt 102 0)):=rfl;have hst:eD s ⟨0,[],0,0,0,0⟩=fC s 0:=rfl;rw[hst]at ho;cases hn:fC s 0 with
 |error e=>
  rw[hn]at ho;obtain⟨rfl,rd⟩:=ho;have hp:jM s=.error e:=by unfold jM;rw[hn]
  have lf:al true 2 Hd (ah pb 11 8)=some (.agg (jt e.1 e.2)):=gQ rd (n:=11) rfl (i:=8) (k:=2) om;obtain⟨He,me,re,ne,ke⟩:=am (rt.same (Fd.old _ om om)) (n:=2) rfl (xs:=jt e.1 e.2) rfl rfl;have le:=aw re (n:=2) rfl;rw[hp];simp only[sC,seval,az,aA,lf,me,Ax,le,aQ];exact⟨tt,om,λc hc=>by rw[ke c om,Fd.old c om om,hold c hc]⟩
 |ok w=>
 rw[hn]at ho;obtain⟨rfl,rd⟩:=ho;obtain⟨hw,-,-⟩:=qQ hn;obtain⟨r,hr⟩:=LA hn;have A:PA Hb.next pb s Hd w 0 0 0 orv:=⟨rd,om,om,Rc.keep λc hc hp=>Fd.old c om hp,hw,om⟩;have hfu:wz s<=1000000:=by have:=hw.long;unfold wz;omega
 have hp:jM s=match r with
   | .error e=>.error e
   | .ok l=>if hX l then .ok l else .error (102,0):=by
  unfold jM;rw[hn];simp only[hr];cases r<;>rfl
 have holdd:∀c,c<H.next->Hd.get c=H.get c:=λc hc=>by rw[Fd.old c om om,hold c hc]
 have rtd:=rt.same (Fd.old _ om om);rw[hp];simp only[sW,sL,lC,kB,rY,sB,seval];rw[ip];refine im (λ(T:bZ) H'=>T 3=ah H.next 2 0/\be H' H.next [.int .i64 0,.int .i64 0]/\H.next<H'.next/\(∀c,c<H.next->H'.get c=H.get c)/\∃l,r=.ok l/\T 9=T 9/\qv (H.next+1) H' (T 9) l) (cU _ _) ?_ ?_;rotate_left
 ·rintro T He ⟨t3,re,ne,oe,l,rfl,-,G⟩;have hrf:=It hn hr;obtain⟨C,z1,z2⟩:=G.sl;simp only[sC,seval];refine(tT (z1.mono λc hc=>⟨hc.2,rfl⟩) (z2.xss.mono λc hc=>⟨hc.2,rfl⟩)).mono ?_;rintro _ Hf ⟨rfl,Ef⟩;have xf:=Ef.next;rw[hrf];cases hfit:hX l with
  |true=>
   obtain⟨Hg,mg,rg,ng,kg⟩:=am (re.same (Ef.old _ ne)) (n:=2) rfl (xs:=jt 0 0) rfl rfl;have lg:=aw rg (n:=2) rfl;have km:∀c,In (H.next+1) He.next c->In H.next Hg.next c/\Hg.get c=He.get c:=λc hc=>by have h1:=hc.1;have h2:=hc.2;exact⟨⟨om,om⟩,by rw[kg c om,Ef.old c h2]⟩
   simp only[sC,seval,t3,b0,mg,Ax,lg,aQ];exact⟨⟨_,C,rfl,z1.mono km,z2.mono km⟩,om,λc hc=>by rw[kg c om,Ef.old c om,oe c hc]⟩
  |false=>obtain⟨Hg,mg,rg,ng,kg⟩:=am (re.same (Ef.old _ ne)) (n:=2) rfl (xs:=jt 102 0) rfl rfl;have lg:=aw rg (n:=2) rfl;simp only[sC,seval,t3,bn,mg,Ax,lg,aQ];exact⟨tt,om,λc hc=>by rw[kg c om,Ef.old c om,oe c hc]⟩
 refine aM (λm (T:bZ) H'=>∃out w' v,T 3=ah H.next 2 0/\T 4=ah pb 11 0/\T 9=v/\qv Hd.next H' v out/\out.length+m<=wz s/\PA Hb.next pb s H' w' 0 0 0 orv/\Fp pb Hd H'/\ul s m out w'=some r) (wz s)
  ⟨[],w,aX,by simp only[sC,seval],by simp only[sC,seval],by simp only[sC,seval];rfl,qv.nil _ _,by simp,A,Fp.refl _ _,hr⟩ ?_
 rintro m T He ⟨out,w',v,t3,t4,t9,G,hm,Ae,Fe,hpt⟩;have xe:=Fe.next;have rte:=rtd.same (Fe.old _ om om);cases m with
 |zero=>simp[ul]at hpt
 |succ m=>
 unfold ul at hpt;have lk:al false 1 He (ah pb 11 1)=some (.int .u8 (w'.k:Int)):=aj Ae.row rfl rfl;by_cases hk:w'.k=5
 ·rw[if_pos hk]at hpt;simp only[sJ]at hpt;subst hpt;have hk':(w'.k:Int)=5:=om;simp only[sC,seval,t3,t4,t9,az,aA,fld0,lk,hk'];exact⟨tt,rte,om,λc hc=>by rw[Fe.old c om om,holdd c hc],out,rfl,tt,G.bound om⟩
 rw[if_neg hk]at hpt;have hk':¬(w'.k:Int)=5:=om;obtain⟨r0,hr0⟩:∃r0,pS s m .stmt 0 w'=some r0:=by
  cases hq:pS s m .stmt 0 w' with
  |none=>rw[hq]at hpt;simp at hpt
  |some r=>exact⟨r,rfl⟩
 rw[hr0]at hpt;simp only[sC,seval,t3,t4,t9,az,aA,fld0,lk,hk'];refine((Ic Hb.next pb s m om m rL).stmt He w' 0 0 0 orv r0 Ae hr0).mono ?_;rintro u Hf ⟨ho,Ff⟩;have xf:=Ff.next;cases r0 with
 |error e=>simp only[sJ]at hpt;subst hpt;obtain⟨rfl,w2,rf⟩:=ho;obtain⟨Hg,mg,rg,ng,kg⟩:=aC Hf [.int .u8 0,.str [],.int .u8 0,.str [],.int .i64 0,.slice none 0 (.known 0),.slice none 0 (.known 0),.slice none 0 (.known 0),.int .i64 0] (n:=9) rfl;obtain⟨Hh,mh,rh,nh,kh⟩:=am rg (n:=9) rfl (xs:=Z9) rfl rfl;have lf:al true 2 Hh (ah pb 11 8)=some (.agg (jt e.1 e.2)):=gQ (rf.same (by rw[kh _ om,kg _ om])) (n:=11) rfl (i:=8) (k:=2) om;obtain⟨Hi,mi,ri,ni,ki⟩:=am (H:=Hh) (rte.same (by rw[kh _ om,kg _ om,Ff.old _ om om])) (n:=2) rfl (xs:=jt e.1 e.2) rfl rfl;have li:=aw ri (n:=2) rfl;simp only[sC,seval,bv,bu,t3,t4,mg,mh,az,aA,lf,mi,Ax,li,aQ];exact⟨tt,om,λc hc=>by rw[ki c om,kh c om,kg c om,Ff.old c om om,Fe.old c om om,holdd c hc]⟩
 |ok p=>
  obtain⟨st',w2⟩:=p;obtain⟨st,xs,rfl,rfl,hx,rf,of⟩:=ho;obtain⟨Hg,mg,rg,ng,kg⟩:=aC Hf [.int .u8 0,.str [],.int .u8 0,.str [],.int .i64 0,.slice none 0 (.known 0),.slice none 0 (.known 0),.slice none 0 (.known 0),.int .i64 0] (n:=9) rfl;obtain⟨Hh,mh,rh,nh,kh⟩:=am rg (n:=9) rfl hx.len hx.one;have lh:=aw rh hx.len;have khf:∀c,c<Hf.next->Hh.get c=Hf.get c:=λc hc=>by rw[kh c om,kg c om]
  have bm:=ot (z:=[.int .u8 0,.str [],.int .u8 0,.str [],.int .i64 0,.slice none 0 (.known 0),.slice none 0 (.known 0),.slice none 0 (.known 0),.int .i64 0]) (xs:=xs) (m:=9) Hh rfl hx.len;have hbs:bx v (In Hd.next He.next):=by obtain⟨C,_,q,_⟩:=G;exact q
  have Gh:qv Hd.next Hh v out:=G.keep om λc hc=>by have h1:=hc.1;have h2:=hc.2;rw[khf c om,Ff.old c h2 om]
  have hxh:uU (In He.next Hh.next) Hh st xs:=hx.mono λc hc=>⟨⟨hc.1,by have:=hc.2;omega⟩,khf c hc.2⟩;obtain⟨v',Hi,ai,Gi,ni,ki⟩:=Gh.push hxh om om (hbs.mono λc hc=>hc.2) om (bytes:=136) om om;have bpb:bx v (pb≠·):=hbs.mono λc hc=>by have:=hc.1;omega
  have Fi:Fp pb Hd Hi:=⟨om,λc hc hp=>by rw[ki c om (hbs.mono λd hd=>by have:=hd.1;omega),khf c om,Ff.old c om hp,Fe.old c hc hp]⟩
  simp only[sC,seval,bv,bu,t3,t4,t9,mg,mh,lh,bm,ai];refine⟨m,om,out++[st],w2,v',by simp only[sC,seval,t3],by simp only[sC,seval,t4],by simp only[sC,seval],Gi,by simp;omega,?_,Fi,hpt⟩;refine⟨rf.same (by rw[ki pb om bpb,khf pb om]),om,om,A.or.keep λc hc hp=>Fi.old c om hp,of,om⟩
open Go.Abs Go.Abs.S
noncomputable section
set_option maxRecDepth 100000
def c7:cf:=⟨12,zq [zo 6 (.mv (.c (.bool false)))] (zq [zo 7 (.new [zI 0]),zp (.store 1 (.t 7) (zi 0))] (zq [zm 8 0,zm 9 1,zm 10 2,zx 11 28 [.t 8,.t 9,.t 10,.t 7],zm 6 11] .ret)),[.t 6]⟩
def za7:cN Tryz.prog 7=some c7:=by kernel_rfl
def Xh:cf:=by
 refine(λx (_:cN Tryz.prog 28=some x)=>x) ?a ?b
 case b=>cbv;rfl
def Sy:cN Tryz.prog 28=some Xh:=by kernel_rfl
def Us:cf:=by
 refine(λx (_:cN Tryz.prog 56=some x)=>x) ?a ?b
 case b=>cbv;rfl
def Wi:cN Tryz.prog 56=some Us:=by kernel_rfl
def Xj:cf:=⟨33,zq [zo 2 (.mv zn)] (zq [zo 3 (.mv zn)] (.seq (zq [zo 4 (.mv (zi 0))] (.block 0 (.loop (zr [zm 6 4,zm 7 0,zh 8 7,zb 9 .lss 6 8] 9 .skip (.exit 0) (.seq (.block 1 (zq [zm 12 0,zm 13 4,zo 14 (.idxA 9 (.t 12) (.t 13)),zt 15 9 14,zo 5 (.new [zU 0,.str [],zU 0,.str [],zI 0,zN,zN,zN,zI 0]),zp (.store 9 (.t 5) (.t 15))] (.seq (.draw [zf 16 2 5,zt 17 4 16,zx 18 36 [.t 17],zf 19 6 5,zl 20 19,zx 21 11 [.t 20],zf 22 7 5,zl 23 22,zx 24 11 [.t 23],zf 25 2 5,zp (.store 4 (.t 25) (.t 18)),zf 26 6 5,zs 26 21,zf 27 7 5,zs 27 24] [[],[],[],[],[2],[],[],[2,5],[],[],[],[],[],[],[]]) (.reg [zm 28 3,zt 29 9 5,zo 30 (.buildSl 1 [zU 0,.str [],zU 0,.str [],zI 0,zN,zN,zN,zI 0] [(0,9,.t 29)]),zo 31 (.append 9 136 (.t 28) (.t 30)),zm 3 31])))) (.reg [zm 10 4,zk 11 .add 10 1,zm 4 11])))))) (zq [zm 32 3,zm 2 32] .ret))),[.t 2]⟩
def TR:cN Tryz.prog 11=some Xj:=by kernel_rfl
def c36:cf:=⟨31,zq [zo 1 (.box (.t 0)),zo 2 (.new [zU 0,.str [],zI 0,zN])] (zq [zf 5 0 1,zl 6 5,zf 7 1 1,zl 8 7,zf 9 2 1,zl 10 9,zo 11 (.build [zU 0,.str [],zI 0,zN] [(0,1,.t 6),(1,1,.t 8),(2,1,.t 10)]),zo 3 (.new [zU 0,.str [],zI 0,zN]),zp (.store 4 (.t 3) (.t 11))] (.seq (zq [zo 4 (.mv (zi 0))] (.block 0 (.loop (zr [zm 12 4,zf 13 3 1,zl 14 13,zh 15 14,zb 16 .lss 12 15] 16 .skip (.exit 0) (.seq (.block 1 (.draw [zf 19 3 3,zl 20 19,zf 21 3 1,zl 22 21,zm 23 4,zo 24 (.idxA 4 (.t 22) (.t 23)),zt 25 4 24,zx 26 36 [.t 25],zo 27 (.buildSl 1 [zU 0,.str [],zI 0,zN] [(0,4,.t 26)]),zo 28 (.append 4 56 (.t 20) (.t 27)),zf 29 3 3,zs 29 28] [[],[8,9],[],[],[],[],[],[],[],[],[],[]])) (.reg [zm 17 4,zk 18 .add 17 1,zm 4 18])))))) (zq [zt 30 4 3,zp (.store 4 (.t 2) (.t 30))] .ret))),[.cell true 4 2]⟩
def Wz:cN Tryz.prog 36=some c36:=by kernel_rfl
def c16:cf:=by
 refine(λx (_:cN Tryz.prog 16=some x)=>x) ?a ?b
 case b=>cbv;rfl
def WP:cN Tryz.prog 16=some c16:=by kernel_rfl
def c35:cf:=by
 refine(λx (_:cN Tryz.prog 35=some x)=>x) ?a ?b
 case b=>cbv;rfl
def WA:cN Tryz.prog 35=some c35:=by kernel_rfl
def Ur:cf:=by
 refine(λx (_:cN Tryz.prog 81=some x)=>x) ?a ?b
 case b=>cbv;rfl
def Sv:cN Tryz.prog 81=some Ur:=by kernel_rfl
def RJ:cf:=by
 refine(λx (_:cN Tryz.prog 117=some x)=>x) ?a ?b
 case b=>cbv;rfl
def TL:cN Tryz.prog 117=some RJ:=by kernel_rfl
def Xe:cf:=by
 refine(λx (_:cN Tryz.prog 41=some x)=>x) ?a ?b
 case b=>cbv;rfl
def Sx:cN Tryz.prog 41=some Xe:=by kernel_rfl
def c85:cf:=by
 refine(λx (_:cN Tryz.prog 85=some x)=>x) ?a ?b
 case b=>cbv;rfl
def V3:cN Tryz.prog 85=some c85:=by kernel_rfl
def c86:cf:=by
 refine(λx (_:cN Tryz.prog 86=some x)=>x) ?a ?b
 case b=>cbv;rfl
def V2:cN Tryz.prog 86=some c86:=by kernel_rfl
def U4:cf:=by
 refine(λx (_:cN Tryz.prog 126=some x)=>x) ?a ?b
 case b=>cbv;rfl
def TH:cN Tryz.prog 126=some U4:=by kernel_rfl
def Xi:cf:=⟨77,zq [zo 6 (.mv (.c (.bool false)))] (zr [zm 10 0,zh 11 10,zm 12 1,zh 13 12,zb 14 .neq 11 13] 14 (zq [zo 6 (.mv (.c (.bool false)))] .ret) .skip (.seq (zq [zo 7 (.mv (zi 0))] (.block 0 (.loop (zr [zm 15 7,zm 16 0,zh 17 16,zb 18 .lss 15 17] 18 .skip (.exit 0) (.seq (.block 1 (.seq (.draw [zm 21 0,zm 22 7,zo 23 (.idxA 9 (.t 21) (.t 22)),zt 24 9 23,zm 25 1,zm 26 7,zo 27 (.idxA 9 (.t 25) (.t 26)),zt 28 9 27,zo 8 (.new [zU 0,.str [],zU 0,.str [],zI 0,zN,zN,zN,zI 0]),zo 9 (.new [zU 0,.str [],zU 0,.str [],zI 0,zN,zN,zN,zI 0]),zp (.store 9 (.t 8) (.t 24)),zp (.store 9 (.t 9) (.t 28))] [[],[],[],[],[],[],[],[11],[],[],[],[]]) (zq [zf 29 0 8,zl 30 29,zf 31 0 9,zl 32 31,zb 33 .neq 30 32,zm 34 33,zg 35 (.fieldA 1 (.t 8)) 34 false,zg 36 (.load false 1 (.t 35)) 34 false,zg 37 (.fieldA 1 (.t 9)) 34 false,zg 38 (.load false 1 (.t 37)) 34 false,zg 39 (.bin .neq (.t 36) (.t 38)) 34 false,zo 40 (.pick (.t 34) (.c (.bool true)) (.t 39)),zm 41 40,zg 42 (.mv (.t 2)) 41 false,zg 43 (.mv (.t 42)) 41 false,zg 44 (.fieldA 8 (.t 8)) 43 true,zg 45 (.load false 1 (.t 44)) 43 true,zg 46 (.fieldA 8 (.t 9)) 43 true,zg 47 (.load false 1 (.t 46)) 43 true,zg 48 (.bin .neq (.t 45) (.t 47)) 43 true,zg 49 (.pick (.t 43) (.t 48) (.c (.bool false))) 41 false,zo 50 (.pick (.t 41) (.c (.bool true)) (.t 49)),zm 51 50,zg 52 (.fieldA 2 (.t 8)) 51 false,zg 53 (.load true 4 (.t 52)) 51 false,zg 54 (.fieldA 2 (.t 9)) 51 false,zg 55 (.load true 4 (.t 54)) 51 false,zg 56 (.call 39 [.t 53,.t 55]) 51 false,zg 57 (.un .not (.t 56)) 51 false,zo 58 (.pick (.t 51) (.c (.bool true)) (.t 57)),zm 59 58,zg 60 (.fieldA 6 (.t 8)) 59 false,zg 61 (.load false 1 (.t 60)) 59 false,zg 62 (.fieldA 6 (.t 9)) 59 false,zg 63 (.load false 1 (.t 62)) 59 false,zg 64 (.mv (.t 2)) 59 false,zg 65 (.call 14 [.t 61,.t 63,.t 64]) 59 false,zg 66 (.un .not (.t 65)) 59 false,zo 67 (.pick (.t 59) (.c (.bool true)) (.t 66)),zm 68 67,zg 69 (.fieldA 7 (.t 8)) 68 false,zg 70 (.load false 1 (.t 69)) 68 false,zg 71 (.fieldA 7 (.t 9)) 68 false,zg 72 (.load false 1 (.t 71)) 68 false,zg 73 (.mv (.t 2)) 68 false,zg 74 (.call 14 [.t 70,.t 72,.t 73]) 68 false,zg 75 (.un .not (.t 74)) 68 false,zo 76 (.pick (.t 68) (.c (.bool true)) (.t 75))] (.cond (.t 76) (zq [zo 6 (.mv (.c (.bool false)))] .ret) .skip)))) (.reg [zm 19 7,zk 20 .add 19 1,zm 7 20])))))) (zq [zo 6 (.mv (.c (.bool true)))] .ret))),[.t 6]⟩
def Tu:cN Tryz.prog 14=some Xi:=by kernel_rfl
def c39:cf:=by
 refine(λx (_:cN Tryz.prog 39=some x)=>x) ?a ?b
 case b=>cbv;rfl
def Wy:cN Tryz.prog 39=some c39:=by kernel_rfl
end
open Go.Abs Go.Abs.S
end Go.Proofs.Wo
namespace Go.Proofs.Wo
open Go.Abs Go.Abs.S
def oQ(a b:Nat):mV (.mm true) [.int .i64 (a:Int),.int .i64 (b:Int)]=some (.int .i64 ((max a b:Nat):Int)):=by
 have:mV (.mm true) [.int .i64 (a:Int),.int .i64 (b:Int)]=some (.int .i64 (if (a:Int)<(b:Int)then(b:Int)else a)):=by simp only[mV,MS,Sa,MU,v6,cond_true];by_cases h:(a:Int)<b<;>simp[h]
 rw[this];congr 2;split<;>omega
def fT(a b:Nat)(h:a+b<=1000000000):IntKind.i64.wrap ((a:Int)+(b:Int))=((a+b:Nat):Int):=iP
def fg(e:Ex):1<=e.size:=by cases e;simp only[Ex.size];omega
def ub:∀(N:Nat) {e:Ex} {c:List ae} {H:aa} {lv:Nat},e.size<=N->XE (·<H.next) H e c->lv<=100->e.size<=1000000 ->
  aq Tryz.prog aF 117 [.agg c,.int .i64 (lv:Int)] H λu H'=>(∃n d:Nat,u=.tuple [.int .i64 (n:Int),.int .i64 (d:Int)]/\n<=e.size/\d=min lv e.deep/\(e.deep<=lv->n=e.size))/\aS H.next H H'
 |0,e,_,_,_,h,_,_,_=>absurd (fg e) om
 |N+1,.mk k s z kids,c,H,lv,h,hx,hl,hs=>by
  obtain⟨v,C,rfl,z1,z2⟩:=hx;have hsz:(Ex.mk k s z kids).size=aU kids+1:=rfl;have hdp:(Ex.mk k s z kids).deep=bG kids+1:=rfl;refine ak rfl TL rfl ?_;obtain⟨H1,m1,r1,n1,k1⟩:=aC H [.int .u8 (k:Int),.str s,.int .i64 z,v] (n:=4) rfl;have E1:aS H.next H H1:=⟨om,λc hc=>k1 c om⟩;by_cases hl0:lv=0
  ·subst hl0;have hl':((0:Nat):Int)<1:=om;simp only[RJ,sC,seval,aG,m1,hl'];exact⟨⟨0,0,tt,om,om,om⟩,E1⟩
  have hl':¬(lv:Int)<1:=om;have hlw:IntKind.i64.wrap ((lv:Int)-1)=((lv-1:Nat):Int):=iP;have l3:∀{K:aa},aS H1.next H1 K->al false 1 K (ah H.next 4 3)=some v:=λq=>aj (r1.same (q.old _ om)) rfl rfl;have ln:=z1.len;simp only[RJ,sC,seval,aG,m1,hl'];refine aM (λm (T:bZ) K=>∃i n d:Nat,m=kids.length-i/\i<=kids.length/\T 1=.int .i64 (lv:Int)/\T 2=ah H.next 4 0/\T 6=.int .i64 (n:Int)/\T 7=.int .i64 (d:Int)/\T 8=.int .i64 (i:Int)/\aS H1.next H1 K/\n<=1+aU (kids.take i)/\d=min (lv-1) (bG (kids.take i))/\(bG (kids.take i)<=lv-1->n=1+aU (kids.take i))) kids.length
   ⟨0,1,0,rfl,Nat.zero_le _,by simp only[sC,seval];try rfl,by simp only[sC,seval],by simp only[sC,seval];try rfl,by simp only[sC,seval];try rfl,by simp only[sC,seval];try rfl,aS.refl _ _,by simp[aU],by simp[bG],λ_=>by simp[aU]⟩ ?_
  rintro m T K ⟨i,n,d,rfl,hi,t1,t2,t6,t7,t8,EK,hn,hd,hnd⟩;have eK:=EK.next;have l3K:=l3 EK;by_cases hlt:i<kids.length
  case neg=>obtain rfl:i=kids.length:=om;have hlt':¬(kids.length:Int)<(kids.length:Int):=om;rw[List.take_length]at hn hd hnd;have wd:IntKind.i64.wrap ((d:Int)+1)=((d+1:Nat):Int):=fT d 1 om;simp only[sC,seval,t1,t2,t6,t7,t8,aA,l3K,ln,hlt',wd];refine⟨⟨n,d+1,tt,om,om,λq=>by rw[hnd om];omega⟩,om,λc hc=>by rw[EK.old c om,E1.old c hc]⟩
  have hlt':(i:Int)<(kids.length:Int):=om;obtain⟨e,he⟩:∃e,kids[i]?=some e:=⟨_,Xx hlt⟩;have hts:kids.take (i+1)=kids.take i++[e]:=by rw[List.take_add_one,he];rfl
  have km:∀b,b<H.next->b<K.next/\K.get b=H.get b:=λb hb=>⟨om,by rw[EK.old b om,E1.old b hb]⟩;have z13:=z1.mono km;have z23:=z2.mono km;have ix:=z13.idx hlt;have ld:=z13.load hlt;have he3:=z23.at he;have hsm:=iZ (XG he);have hlen:=cO kids;have wi:IntKind.i64.wrap ((i:Int)+1)=((i+1:Nat):Int):=fT i 1 om;simp only[sC,seval,t1,t2,t6,t7,t8,aA,l3K,ln,hlt',ix,ld,hlw];refine(ub N om he3 om om).mono ?_;rintro _ K2 ⟨⟨n2,d2,rfl,a1,a2,a3⟩,E2⟩;have htk:aU (kids.take (i+1))<=aU kids:=by
   have:=List.take_append_drop (i+1) kids;have h2:aU kids=aU (kids.take (i+1))+aU (kids.drop (i+1)):=by rw[<- fx,this]
   omega
  rw[hts,fx]at htk;simp only[aU]at htk;have wn:IntKind.i64.wrap ((n:Int)+(n2:Int))=((n+n2:Nat):Int):=fT n n2 om;simp only[sC,seval,bv,bu,t1,t2,t6,t7,t8,wn,oQ,wi];refine⟨kids.length-(i+1),om,i+1,n+n2,max d d2,rfl,om,tt,tt,tt,tt,tt,EK.trans (E2.less om),?_,?_,?_⟩
  ·rw[hts,fx];simp only[aU];omega
  ·rw[hts,gI];simp only[bG];omega
  ·rw[hts,fx,gI];simp only[aU,bG];intro q;rw[hnd om,a3 om];omega
def arD{lv D e b s d d1 d2 d3:Nat}(hd:d=min (lv-1) (D-1))(a2:d1=min (lv-1) e)(b2:d2=min (lv-1) b)(g2:d3=min (lv-1) s):max (max (max d d1) d2) d3=min (lv-1) (max D (max (max e (max b s)+1) 0)-1):=om
def arN{lv D e b s n n1 n2 n3 i L S E B Q:Nat}(hl:1<=lv)(hn:D<=lv->n+i=L+S)(a:e<=lv-1->n1=E)(b':b<=lv-1->n2=B)(g:s<=lv-1->n3=Q):max D (max (max e (max b s)+1) 0)<=lv->n+n1+n2+n3+(i+1)=L+(S+(E+B+Q+1+0)):=by intro q;have h1:=hn om;have h2:=a om;have h3:=b' om;have h4:=g om;omega
set_option maxHeartbeats 1000000 in
def CF:∀(N:Nat) {l:List St} {C:List ae} {v:ae} {H:aa} {lv:Nat},au l<=N->eM (·<H.next) H 9 v l.length C->lV (·<H.next) H l C->lv<=100->au l<=1000000 ->
  aq Tryz.prog aF 81 [v,.int .i64 (lv:Int)] H λu H'=>(∃n d:Nat,u=.tuple [.int .i64 (n:Int),.int .i64 (d:Int)]/\n<=au l/\d=min lv (bw l)/\(bw l<=lv->n=au l))/\aS H.next H H':=by
 intro N;induction N with
 |zero=>
  intro l C v H lv h z1 z2 hl hs;have hl0:l=[]:=by
   cases l with
   |nil=>rfl
   |cons x l=>have:=ee x;simp only[au]at h;omega
  subst hl0;have ln:=z1.len;have h0:(([]:List St).length:Int)=0:=rfl;refine ak rfl Sv rfl ?_;simp only[Ur,sC,seval,ln,h0];exact⟨⟨0,0,tt,om,by simp[bw],λ_=>rfl⟩,aS.refl _ _⟩
 |succ N ih=>
  intro l C v H lv h z1 z2 hl hs;have ln:=z1.len;refine ak rfl Sv rfl ?_;by_cases hl0:l=[]
  ·subst hl0;have h0:(([]:List St).length:Int)=0:=rfl;simp only[Ur,sC,seval,ln,h0];exact⟨⟨0,0,tt,om,by simp[bw],λ_=>rfl⟩,aS.refl _ _⟩
  have h0:¬(l.length:Int)=0:=by have:=List.length_pos_iff.2 hl0;omega
  have hdl:1<=bw l:=by
   cases l with
   |nil=>exact absurd rfl hl0
   |cons x l=>cases x;simp only[bw,St.deep];omega
  by_cases hlv:lv=0
  ·subst hlv;have hl':((0:Nat):Int)<1:=om;simp only[Ur,sC,seval,ln,h0,hl'];exact⟨⟨0,0,tt,om,om,om⟩,aS.refl _ _⟩
  have hl':¬(lv:Int)<1:=om;have hlw:IntKind.i64.wrap ((lv:Int)-1)=((lv-1:Nat):Int):=iP;have hlen:=db l;simp only[Ur,sC,seval,ln,h0,hl'];refine aM (λm (T:bZ) K=>∃i n d:Nat,m=l.length-i/\i<=l.length/\T 0=v/\T 1=.int .i64 (lv:Int)/\T 6=.int .i64 (n:Int)/\T 7=.int .i64 (d:Int)/\T 8=.int .i64 (i:Int)/\aS H.next H K/\n+i<=l.length+au (l.take i)/\d=min (lv-1) (bw (l.take i)-1)/\(bw (l.take i)<=lv->n+i=l.length+au (l.take i))) l.length
   ⟨0,l.length,0,rfl,Nat.zero_le _,by simp only[sC,seval],by simp only[sC,seval];try rfl,by simp only[sC,seval],by simp only[sC,seval];try rfl,by simp only[sC,seval];try rfl,aS.refl _ _,by simp[au],by simp[bw],λ_=>by simp[au]⟩ ?_
  rintro m T K ⟨i,n,d,rfl,hi,t0,t1,t6,t7,t8,EK,hn,hd,hnd⟩;have eK:=EK.next;by_cases hlt:i<l.length
  case neg=>obtain rfl:i=l.length:=om;have hlt':¬(l.length:Int)<(l.length:Int):=om;rw[List.take_length]at hn hd hnd;have wd:IntKind.i64.wrap ((d:Int)+1)=((d+1:Nat):Int):=fT d 1 om;simp only[sC,seval,t0,t1,t6,t7,t8,ln,hlt',wd];exact⟨⟨n,d+1,tt,om,om,λq=>by have:=hnd q;omega⟩,EK⟩
  have hlt':(i:Int)<(l.length:Int):=om;obtain⟨x,he⟩:∃e,l[i]?=some e:=⟨_,Xx hlt⟩;have hts:l.take (i+1)=l.take i++[x]:=by rw[List.take_add_one,he];rfl
  have km:∀{K:aa},aS H.next H K->∀b,b<H.next->b<K.next/\K.get b=H.get b:=λq b hb=>⟨by have:=q.next;omega,q.old b hb⟩;have z13:=z1.mono (km EK);have ix:=z13.idx hlt;have pt:=z13.pt hlt;have hsm:=dl (XG he);have wi:IntKind.i64.wrap ((i:Int)+1)=((i+1:Nat):Int):=fT i 1 om;have htk:au (l.take (i+1))<=au l:=by
   have:=List.take_append_drop (i+1) l;have h2:au l=au (l.take (i+1))+au (l.drop (i+1)):=by rw[<- cZ,this]
   omega
  rw[hts,cZ]at htk;simp only[au]at htk;have hx3:=(z2.mono (km EK)).at he;obtain⟨k,s,e,body,els,line⟩:=x;obtain⟨ce,vb,Cb,ve,Ce,hcell,x1,y1,y2,y3,y4⟩:=hx3;obtain⟨c0,c1,c2,c3,rfl⟩:∃a b c d,ce=[a,b,c,d]:=by
   have:=x1.len
   match ce,this with
   | [a,b,c,d],_=>exact⟨a,b,c,d,rfl⟩
  rw[hcell]at pt;have hsz:(St.mk k s e body els line).size=e.size+au body+au els+1:=rfl;have hdp:(St.mk k s e body els line).deep=max e.deep (max (bw body) (bw els))+1:=rfl;have fl2:=pt.fld 2;have le:al true 4 K (fp (cz 9 v i) 2)=some (.agg [c0,c1,c2,c3]):=by have pe:=pt.part (o:=2) (k:=4) (by simp);obtain⟨a,ea,hrd⟩:=pe;rw[ea];simp only[al];have hrd':bH K a 4=some [c0,c1,c2,c3]:=hrd;rw[hrd'];rfl
  simp only[sC,seval,t0,t1,t6,t7,t8,ln,hlt',ix,fl2,le,hlw];refine(ub e.size rL x1 om om).mono ?_;rintro _ K1 ⟨⟨n1,d1,rfl,a1,a2,a3⟩,E1⟩;have e1:=E1.next;have EK1:=EK.trans (E1.less om);have kk:∀{K':aa},aS K.next K K'->∀b,b<K.next->b<K'.next/\K'.get b=K.get b:=λq b hb=>⟨by have:=q.next;omega,q.old b hb⟩;have pk:∀{K':aa},aS H.next H K'->mS K' (cz 9 v i) (.int .u8 (k:Int)::.str s::([c0,c1,c2,c3]++[vb,ve,.int .i64 line])):=by intro K' q;refine pt.same λa ea=>?_;have hb:=z1.blk hlt a ea;rw[q.old _ hb,EK.old _ hb]
  have p6:=(pk EK1).load (o:=6) (x:=vb) rfl;have fl6:=pt.fld 6;have w1:IntKind.i64.wrap ((n:Int)+(n1:Int))=((n+n1:Nat):Int):=fT n n1 om;simp only[sC,seval,bv,bu,t0,t1,t6,t7,t8,w1,oQ,ix,fl6,p6,hlw];refine(ih om (y1.mono (kk E1)) (y2.mono (kk E1)) om om).mono ?_;rintro _ K2 ⟨⟨n2,d2,rfl,b1,b2,b3⟩,E2⟩;have e2:=E2.next;have EK2:=EK1.trans (E2.less om);have E12:=E1.trans (E2.less om);have p7:=(pk EK2).load (o:=7) (x:=ve) rfl;have fl7:=pt.fld 7;have w2:IntKind.i64.wrap (((n+n1:Nat):Int)+(n2:Int))=((n+n1+n2:Nat):Int):=fT (n+n1) n2 om;simp only[sC,seval,bv,bu,t0,t1,t6,t7,t8,w2,oQ,ix,fl7,p7,hlw];refine(ih om (y3.mono (kk E12)) (y4.mono (kk E12)) om om).mono ?_;rintro _ K3 ⟨⟨n3,d3,rfl,g1,g2,g3⟩,E3⟩;have EK3:=EK2.trans (E3.less om);have w3:IntKind.i64.wrap (((n+n1+n2:Nat):Int)+(n3:Int))=((n+n1+n2+n3:Nat):Int):=fT (n+n1+n2) n3 om;simp only[sC,seval,bv,bu,t0,t1,t6,t7,t8,w3,oQ,wi];refine⟨l.length-(i+1),om,i+1,n+n1+n2+n3,max (max (max d d1) d2) d3,rfl,om,tt,tt,tt,tt,tt,EK3,?_,?_,?_⟩
  ·rw[hts,cZ];simp only[au];omega
  ·rw[hts,jZ];simp only[bw];rw[hdp];exact arD hd a2 b2 g2
  ·rw[hts,cZ,jZ];simp only[au,bw];rw[hsz,hdp];exact arN om hnd a3 b3 g3
def Fc{l:List St}{C:List ae}{v:ae}{H:aa}(z1:eM (·<H.next) H 9 v l.length C)(z2:lV (·<H.next) H l C)(hs:au l<=1000000) :
  aq Tryz.prog aF 35 [v] H λu H'=>u=.bool (hX l)/\aS H.next H H':=by
 refine ak rfl WA rfl ?_;simp only[c35,sC,seval];refine(CF (au l) (lv:=41) rL z1 z2 om hs).mono ?_;rintro _ H1 ⟨⟨n,d,rfl,a1,a2,a3⟩,E1⟩;simp only[sC,seval,bv,bu];by_cases h1:n<=1000
 ·have h1':(n:Int)<=1000:=om;by_cases h2:d<=40
  ·have h2':(d:Int)<=40:=om;have hf:hX l=true:=by
    unfold hX;rw[decide_eq_true (by have:=a3 om;omega),decide_eq_true om];rfl
   simp only[sC,seval,h1',h2',hf];exact⟨tt,E1⟩
  ·have h2':¬(d:Int)<=40:=om;have hf:hX l=false:=by
    unfold hX;rw[show decide (bw l<=40)=false from decide_eq_false om,Bool.and_false]
   simp only[sC,seval,h1',h2',hf];exact⟨tt,E1⟩
 ·have h1':¬(n:Int)<=1000:=om;have hf:hX l=false:=by
   unfold hX;rw[show decide (au l<=1000)=false from decide_eq_false om];rfl
  simp only[sC,seval,h1',hf];exact⟨tt,E1⟩
open Go.Abs Go.Abs.S
mutual
def Sl:Ex->Bool
 | .mk _ s _ kids=>decide (s.length<=1000)&&xz kids
def xz:List Ex->Bool
 | []=>true
 |e::l=>Sl e&&xz l
end
mutual
def smS:St->Bool
 | .mk _ s e body els _=>decide (s.length<=1000)&&(Sl e&&(nl body&&nl els))
def nl:List St->Bool
 | []=>true
 |e::l=>smS e&&nl l
end
def Kf(l m:List Ex):xz (l++m)=(xz l&&xz m):=by
 induction l with
 |nil=>simp[xz]
 |cons x l ih=>simp only[XQ,xz,ih,Bool.and_assoc]
def Ke(l m:List St):nl (l++m)=(nl l&&nl m):=by
 induction l with
 |nil=>simp[nl]
 |cons x l ih=>simp only[XQ,nl,ih,Bool.and_assoc]
def Sg(b n sz lv dp:Nat)(sm:Bool)(H:aa)(u:ae)(H':aa):Prop:=Fp b H H'/\∃(r:Bool) (n':Nat),u=.bool r/\be H' b [.int .i64 (n':Int)]/\(r=false->n'=n+sz/\n'<=1500/\dp<=lv/\sm=true)
def wv:∀(N:Nat) {e:Ex} {c:List ae} {H:aa} {lv n b:Nat},e.size<=N->XE (λx=>x<H.next/\x≠b) H e c->be H b [.int .i64 (n:Int)]->b<H.next->n<=1500->lv<=100 ->
  aq Tryz.prog aF 56 [.agg c,.int .i64 (lv:Int),.int .i64 1500,ah b 1 0] H (Sg b n e.size lv e.deep (Sl e) H)
 |0,e,_,_,_,_,_,h,_,_,_,_,_=>absurd (fg e) om
 |N+1,.mk k s z kids,c,H,lv,n,b,h,hx,hr,hb,hn,hl=>by
  obtain⟨v,C,rfl,z1,z2⟩:=hx;have hsz:(Ex.mk k s z kids).size=aU kids+1:=rfl;have hdp:(Ex.mk k s z kids).deep=bG kids+1:=rfl;obtain⟨Q,hQ⟩:∃Q,Q=Sg b n (Ex.mk k s z kids).size lv (Ex.mk k s z kids).deep (Sl (.mk k s z kids)) H:=⟨_,rfl⟩;rw[<- hQ];refine ak rfl Wi rfl ?_;obtain⟨H1,m1,r1,n1,k1⟩:=aC H [.int .u8 (k:Int),.str s,.int .i64 z,v] (n:=4) rfl;have hr1:be H1 b [.int .i64 (n:Int)]:=hr.same (k1 b om);have lb1:al false 1 H1 (ah b 1 0)=some (.int .i64 (n:Int)):=aj hr1 rfl rfl;have wn:IntKind.i64.wrap ((n:Int)+1)=((n+1:Nat):Int):=fT n 1 om;obtain⟨H2,m2,r2,n2,k2⟩:=bQ hr1 (n:=1) rfl (i:=0) om (x:=.int .i64 ((n+1:Nat):Int)) rfl (l':=[.int .i64 ((n+1:Nat):Int)]) rfl;have hr2:be H2 b [.int .i64 ((n+1:Nat):Int)]:=r2;have lb2:al false 1 H2 (ah b 1 0)=some (.int .i64 ((n+1:Nat):Int)):=aj hr2 rfl rfl;have f2:Fp b H H2:=⟨om,λc hc hne=>by rw[k2 c hne,k1 c om]⟩;have x2:be H2 H.next [.int .u8 (k:Int),.str s,.int .i64 z,v]:=r1.same (k2 _ om);have s1:al false 1 H2 (ah H.next 4 1)=some (.str s):=aj x2 rfl rfl;by_cases hn1:1500<n+1
  ·have hn':((n+1:Nat):Int) > 1500:=om;simp only[Us,sC,seval,aG,az,fld0,m1,lb1,wn,m2,lb2,hn'];rw[hQ];exact⟨f2,true,n+1,tt,hr2,by simp⟩
  have hn':¬((n+1:Nat):Int) > 1500:=om;by_cases hl0:lv=0
  ·subst hl0;have hl':((0:Nat):Int)<1:=om;simp only[Us,sC,seval,aG,az,fld0,m1,lb1,wn,m2,lb2,hn',hl'];rw[hQ];exact⟨f2,true,n+1,tt,hr2,by simp⟩
  have hl':¬(lv:Int)<1:=om;by_cases hs0:1000<s.length
  ·have hs':(s.length:Int) > 1000:=om;simp only[Us,sC,seval,aG,az,fld0,m1,lb1,wn,m2,lb2,hn',hl',aA,s1,hs'];rw[hQ];exact⟨f2,true,n+1,tt,hr2,by simp⟩
  have hs':¬(s.length:Int) > 1000:=om;have hlw:IntKind.i64.wrap ((lv:Int)-1)=((lv-1:Nat):Int):=iP;have ln:=z1.len;simp only[Us,sC,seval,aG,az,fld0,m1,lb1,wn,m2,lb2,hn',hl',aA,s1,hs'];refine aM (λm (T:bZ) K=>∃i n':Nat,m=kids.length-i/\i<=kids.length/\T 1=.int .i64 (lv:Int)/\T 2=.int .i64 1500/\T 3=ah b 1 0/\T 4=ah H.next 4 0/\T 9=.int .i64 (i:Int)/\Fp b H2 K/\be K b [.int .i64 (n':Int)]/\n'=n+1+aU (kids.take i)/\n'<=1500/\bG (kids.take i)<=lv-1/\xz (kids.take i)=true) kids.length
   ⟨0,n+1,rfl,Nat.zero_le _,by simp only[sC,seval];try rfl,by simp only[sC,seval];try rfl,by simp only[sC,seval],by simp only[sC,seval],by simp only[sC,seval];try rfl,Fp.refl _ _,hr2,by simp[aU],om,by simp[bG],by simp[xz]⟩ ?_
  rintro m T K ⟨i,n',rfl,hi,t1,t2,t3,t4,t9,FK,rK,hn2,hn3,hdk,hsk⟩;have eK:=FK.next;have l3K:al false 1 K (ah H.next 4 3)=some v:=aj (x2.same (FK.old _ om om)) rfl rfl;have F0K:Fp b H K:=f2.trans FK;by_cases hlt:i<kids.length
  case neg=>obtain rfl:i=kids.length:=om;have hlt':¬(kids.length:Int)<(kids.length:Int):=om;rw[List.take_length]at hn2 hdk hsk;simp only[sC,seval,t1,t2,t3,t4,t9,aA,l3K,ln,hlt'];rw[hQ];refine⟨F0K,false,n',tt,rK,λ_=>⟨om,hn3,om,?_⟩⟩;simp only[Sl,hsk,Bool.and_true,XK];omega
  have hlt':(i:Int)<(kids.length:Int):=om;obtain⟨e,he⟩:∃e,kids[i]?=some e:=⟨_,Xx hlt⟩;have hts:kids.take (i+1)=kids.take i++[e]:=by rw[List.take_add_one,he];rfl
  have km:∀c,(c<H.next/\c≠b)->(c<K.next/\c≠b)/\K.get c=H.get c:=λc hc=>⟨⟨by have:=F0K.next;omega,hc.2⟩,F0K.old c hc.1 hc.2⟩;have z13:=z1.mono km;have z23:=z2.mono km;have ix:=z13.idx hlt;have ld:=z13.load hlt;have he3:=z23.at he;have hsm:=iZ (XG he);have hlen:=cO (kids.take i);rw[XT,Nat.min_eq_left hi]at hlen;have wi:IntKind.i64.wrap ((i:Int)+1)=((i+1:Nat):Int):=fT i 1 om;simp only[sC,seval,t1,t2,t3,t4,t9,aA,l3K,ln,hlt',ix,ld,hlw];refine(wv N om he3 rK (by have:=f2.next;omega) hn3 om).mono ?_;rintro _ K2 ⟨F2,r,n3,rfl,rK2,hgo⟩;cases r with
  |true=>simp only[sC,seval];rw[hQ];exact⟨F0K.trans F2,true,n3,tt,rK2,by simp⟩
  |false=>
   obtain⟨g1,g2,g3,g4⟩:=hgo rfl;simp only[sC,seval,t1,t2,t3,t4,t9,wi];refine⟨kids.length-(i+1),om,i+1,n3,rfl,om,tt,tt,tt,tt,tt,FK.trans F2,rK2,?_,g2,?_,?_⟩
   ·rw[hts,fx];simp only[aU];omega
   ·rw[hts,gI];simp only[bG];omega
   ·rw[hts,Kf,hsk];simp only[xz,g4];rfl
open Go.Abs Go.Abs.S
def Sg.more{b n sz lv dp n1 sz1 lv1 dp1:Nat}{sm sm1:Bool}{H H1 H2:aa}{u:ae}(f:Fp b H H1)(h:Sg b n1 sz1 lv1 dp1 sm1 H1 u H2):u=.bool true->Sg b n sz lv dp sm H u H2:=by rintro rfl;obtain⟨F,r,n',hu,hr,_⟩:=h;exact⟨f.trans F,true,n',rfl,hr,by simp⟩
def EU:∀(N:Nat) {l:List St} {C:List ae} {v:ae} {H:aa} {lv n b:Nat},au l<=N->eM (λx=>x<H.next/\x≠b) H 9 v l.length C->lV (λx=>x<H.next/\x≠b) H l C->be H b [.int .i64 (n:Int)]->b<H.next->n<=1500->lv<=100 ->
  aq Tryz.prog aF 28 [v,.int .i64 (lv:Int),.int .i64 1500,ah b 1 0] H (Sg b n (au l) lv (bw l) (nl l) H):=by
 intro N;induction N with
 |zero=>
  intro l C v H lv n b h z1 z2 hr hb hn hl;have hl0:l=[]:=by
   cases l with
   |nil=>rfl
   |cons x l=>have:=ee x;simp only[au]at h;omega
  subst hl0;have ln:=z1.len;have h0:¬(0:Int)<(([]:List St).length:Int):=by simp
  refine ak rfl Sy rfl ?_;simp only[Xh,sC,seval];refine aM (λm (T:bZ) K=>H=K/\T 0=v/\T 9=.int .i64 0) 0 ⟨rfl,by simp only[sC,seval],by simp only[sC,seval]⟩ ?_;rintro m T K ⟨rfl,t0,t9⟩;simp only[sC,seval,t0,t9,ln,h0];exact⟨Fp.refl _ _,false,n,tt,hr,λ_=>⟨by simp[au],hn,by simp[bw],by simp[nl]⟩⟩
 |succ N ih=>
  intro l C v H lv n b h z1 z2 hr hb hn hl;have ln:=z1.len;obtain⟨Q,hQ⟩:∃Q,Q=Sg b n (au l) lv (bw l) (nl l) H:=⟨_,rfl⟩;rw[<- hQ];refine ak rfl Sy rfl ?_;simp only[Xh,sC,seval];refine aM (λm (T:bZ) K=>∃i n':Nat,m=l.length-i/\i<=l.length/\T 0=v/\T 1=.int .i64 (lv:Int)/\T 2=.int .i64 1500/\T 3=ah b 1 0/\T 9=.int .i64 (i:Int)/\Fp b H K/\be K b [.int .i64 (n':Int)]/\n'=n+au (l.take i)/\n'<=1500/\bw (l.take i)<=lv/\nl (l.take i)=true) l.length
   ⟨0,n,rfl,Nat.zero_le _,by simp only[sC,seval],by simp only[sC,seval];try rfl,by simp only[sC,seval];try rfl,by simp only[sC,seval],by simp only[sC,seval];try rfl,Fp.refl _ _,hr,by simp[au],hn,by simp[bw],by simp[nl]⟩ ?_
  rintro m T K ⟨i,n',rfl,hi,t0,t1,t2,t3,t9,FK,rK,hn2,hn3,hdk,hsk⟩;have eK:=FK.next;by_cases hlt:i<l.length
  case neg=>obtain rfl:i=l.length:=om;have hlt':¬(l.length:Int)<(l.length:Int):=om;rw[List.take_length]at hn2 hdk hsk;simp only[sC,seval,t0,t1,t2,t3,t9,ln,hlt'];rw[hQ];exact⟨FK,false,n',tt,rK,λ_=>⟨hn2,hn3,hdk,hsk⟩⟩
  have hlt':(i:Int)<(l.length:Int):=om;obtain⟨x,he⟩:∃e,l[i]?=some e:=⟨_,Xx hlt⟩;have hts:l.take (i+1)=l.take i++[x]:=by rw[List.take_add_one,he];rfl
  have lbK:al false 1 K (ah b 1 0)=some (.int .i64 (n':Int)):=aj rK rfl rfl;have wn:IntKind.i64.wrap ((n':Int)+1)=((n'+1:Nat):Int):=fT n' 1 om;obtain⟨H2,m2,r2,n2,k2⟩:=bQ rK (n:=1) rfl (i:=0) om (x:=.int .i64 ((n'+1:Nat):Int)) rfl (l':=[.int .i64 ((n'+1:Nat):Int)]) rfl;have lb2:al false 1 H2 (ah b 1 0)=some (.int .i64 ((n'+1:Nat):Int)):=aj r2 rfl rfl;have F2:Fp b H H2:=FK.trans ⟨om,λc hc hne=>k2 c hne⟩;have km:∀{K:aa},Fp b H K->∀c,(c<H.next/\c≠b)->(c<K.next/\c≠b)/\K.get c=H.get c:=λq c hc=>⟨⟨by have:=q.next;omega,hc.2⟩,q.old c hc.1 hc.2⟩;have z13:=z1.mono (km F2);have ix:=z13.idx hlt;have pt:=z13.pt hlt;have hsm:=dl (XG he);have hlen:=db (l.take i);rw[XT,Nat.min_eq_left hi]at hlen;have wi:IntKind.i64.wrap ((i:Int)+1)=((i+1:Nat):Int):=fT i 1 om;have hx3:=(z2.mono (km F2)).at he;obtain⟨k,s,e,body,els,line⟩:=x;obtain⟨ce,vb,Cb,ve,Ce,hcell,x1,y1,y2,y3,y4⟩:=hx3;obtain⟨c0,c1,c2,c3,rfl⟩:∃a b c d,ce=[a,b,c,d]:=by
   have:=x1.len
   match ce,this with
   | [a,b,c,d],_=>exact⟨a,b,c,d,rfl⟩
  rw[hcell]at pt;have hsz:(St.mk k s e body els line).size=e.size+au body+au els+1:=rfl;have hdp:(St.mk k s e body els line).deep=max e.deep (max (bw body) (bw els))+1:=rfl;have hss:smS (St.mk k s e body els line)=(decide (s.length<=1000)&&(Sl e&&(nl body&&nl els))):=rfl;have fl1:=pt.fld 1;have ls:al false 1 H2 (fp (cz 9 v i) 1)=some (.str s):=pt.load (o:=1) rfl;have fl2:=pt.fld 2;have le:al true 4 H2 (fp (cz 9 v i) 2)=some (.agg [c0,c1,c2,c3]):=by have pe:=pt.part (o:=2) (k:=4) (by simp);obtain⟨a,ea,hrd⟩:=pe;rw[ea];simp only[al];have hrd':bH H2 a 4=some [c0,c1,c2,c3]:=hrd;rw[hrd'];rfl
  by_cases hn1:1500<n'+1
  ·have hn':(1500:Int)<((n'+1:Nat):Int):=om;simp only[sC,seval,t0,t1,t2,t3,t9,az,ln,hlt',lbK,wn,m2,lb2,hn'];rw[hQ];exact⟨F2,true,n'+1,tt,r2,by simp⟩
  have hn':¬(1500:Int)<((n'+1:Nat):Int):=om;by_cases hl0:lv=0
  ·subst hl0;have hl':((0:Nat):Int)<1:=om;simp only[sC,seval,t0,t1,t2,t3,t9,az,ln,hlt',lbK,wn,m2,lb2,hn',hl'];rw[hQ];exact⟨F2,true,n'+1,tt,r2,by simp⟩
  have hl':¬(lv:Int)<1:=om;by_cases hs0:1000<s.length
  ·have hs':(1000:Int)<(s.length:Int):=om;simp only[sC,seval,t0,t1,t2,t3,t9,az,ln,hlt',lbK,wn,m2,lb2,hn',hl',ix,fl1,ls,hs'];rw[hQ];exact⟨F2,true,n'+1,tt,r2,by simp⟩
  have hs':¬(1000:Int)<(s.length:Int):=om;have hlw:IntKind.i64.wrap ((lv:Int)-1)=((lv-1:Nat):Int):=iP;simp only[sC,seval,t0,t1,t2,t3,t9,az,ln,hlt',lbK,wn,m2,lb2,hn',hl',ix,fl1,ls,hs',fl2,le,hlw];have bK:b<H2.next:=by have:=F2.next;omega
  refine(wv e.size rL x1 r2 bK om om).mono ?_;rintro u K3 hO;obtain⟨F3,r,n3,rfl,r3,hgo⟩:=id hO;cases r with
  |true=>simp only[sC,seval];rw[hQ];exact hO.more F2 rfl
  |false=>
  obtain⟨g1,g2,g3,g4⟩:=hgo rfl;have e3:=F3.next;have F03:=F2.trans F3;have kk:∀{K:aa},Fp b H2 K->∀c,(c<H2.next/\c≠b)->(c<K.next/\c≠b)/\K.get c=H2.get c:=λq c hc=>⟨⟨by have:=q.next;omega,hc.2⟩,q.old c hc.1 hc.2⟩;have pk:∀{K':aa},Fp b H2 K'->mS K' (cz 9 v i) (.int .u8 (k:Int)::.str s::([c0,c1,c2,c3]++[vb,ve,.int .i64 line])):=by intro K' q;exact pt.same λa ea=>q.old _ (z13.blk hlt a ea).1 (z13.blk hlt a ea).2
  have p6:=(pk F3).load (o:=6) (x:=vb) rfl;have fl6:=pt.fld 6;simp only[sC,seval,t0,t1,t2,t3,t9,ix,fl6,p6,hlw];refine(ih om (y1.mono (kk F3)) (y2.mono (kk F3)) r3 om g2 om).mono ?_;rintro u K4 hO4;obtain⟨F4,r,n4,rfl,r4,hgo4⟩:=id hO4;cases r with
  |true=>simp only[sC,seval];rw[hQ];exact hO4.more F03 rfl
  |false=>
  obtain⟨j1,j2,j3,j4⟩:=hgo4 rfl;have e4:=F4.next;have F24:=F3.trans F4;have F04:=F03.trans F4;have p7:=(pk F24).load (o:=7) (x:=ve) rfl;have fl7:=pt.fld 7;simp only[sC,seval,t0,t1,t2,t3,t9,ix,fl7,p7,hlw];refine(ih om (y3.mono (kk F24)) (y4.mono (kk F24)) r4 om j2 om).mono ?_;rintro u K5 hO5;obtain⟨F5,r,n5,rfl,r5,hgo5⟩:=id hO5;cases r with
  |true=>simp only[sC,seval];rw[hQ];exact hO5.more F04 rfl
  |false=>
  obtain⟨q1,q2,q3,q4⟩:=hgo5 rfl;simp only[sC,seval,t0,t1,t2,t3,t9,wi];refine⟨l.length-(i+1),om,i+1,n5,rfl,om,tt,tt,tt,tt,tt,F04.trans F5,r5,?_,q2,?_,?_⟩
  ·rw[hts,cZ];simp only[au];omega
  ·rw[hts,jZ];simp only[bw];omega
  ·rw[hts,Ke,hsk];simp only[nl,hss,g4,j4,q4,Bool.and_true,Bool.true_and,XK];omega
def I7{l:List St}{C:List ae}{v:ae}{H:aa}(z1:eM (·<H.next) H 9 v l.length C)(z2:lV (·<H.next) H l C) :
  aq Tryz.prog aF 7 [v,.int .i64 100,.int .i64 1500] H λu H'=>aS H.next H H'/\∃r:Bool,u=.bool r/\(r=false->au l<=1500/\bw l<=100/\nl l=true):=by
 refine ak rfl za7 rfl ?_;obtain⟨H1,m1,r1,n1,k1⟩:=aC H [.int .i64 0] (n:=1) rfl;obtain⟨H2,m2,r2,n2,k2⟩:=bQ r1 (n:=1) rfl (i:=0) om (x:=.int .i64 0) rfl (l':=[.int .i64 ((0:Nat):Int)]) rfl;have km:∀b,b<H.next->(b<H2.next/\b≠H.next)/\H2.get b=H.get b:=λb hb=>⟨⟨om,om⟩,by rw[k2 b om,k1 b om]⟩;simp only[c7,sC,seval,m1,m2];refine(EU (au l) (lv:=100) rL (z1.mono km) (z2.mono km) r2 om om om).mono ?_;rintro _ H3 ⟨F,r,n',rfl,_,hgo⟩;simp only[sC,seval];refine⟨⟨by have:=F.next;omega,λc hc=>by rw[F.old c om om,k2 c om,k1 c om]⟩,r,tt,λq=>?_⟩;obtain⟨g1,g2,g3,g4⟩:=hgo q;exact⟨om,g3,g4⟩
open Go.Abs Go.Abs.S
def eE(b n k:Nat):ae:=.agg [.ptr (some ⟨b,n,0⟩),.int .i64 (k:Int)]
abbrev Q6:iV×iV:=(.p,.i)
def uG(b n k:Nat):xE Q6 (eE b n k)=true:=rfl
def Nc(P:Nat->Prop)(H:aa)(f:List Ex->ae->Prop)(e:kX):Prop:=∃b C low kids,e.1=eE b C.length kids.length/\P b/\H.get b=some (.cells C low false)/\ed P H kids C/\f kids e.2.1
def Uf{P Q:Nat->Prop}{H:aa}{b b' low low':Nat}{C C':List ae}{kids kids':List Ex}(h:H.get b=some (.cells C low false))(hx:ed P H kids C)(h':H.get b'=some (.cells C' low' false))(hx':ed Q H kids' C') :
  IP H.get Q6 (eE b C.length kids.length) (eE b' C'.length kids'.length)=some (Nat.beq b b')/\(b=b'->kids=kids'):=by
 by_cases hb:b=b'
 ·subst hb;rw[h]at h';simp only[sJ,di.cells.injEq]at h';obtain⟨rfl,_⟩:=h';have hl:kids.length=kids'.length:=by have:=hx.len;have:=hx'.len;omega
  refine⟨?_,λ_=>ed.same hl hx hx'⟩;simp only[IP,eE,B1,KI,Nat.beq_refl,cond_true,hl,if_true,gd,beq_self_eq_true]
 ·have e:Nat.beq b b'=false:=by rw[ch];exact decide_eq_false hb
  refine⟨?_,λe'=>absurd e' hb⟩;simp only[IP,eE,B1,KI,e,cond_false,h,h']
def pT{P Q:Nat->Prop}{H:aa}{f:List Ex->ae->Prop}{b low:Nat}{C:List ae}{kids:List Ex}(h:H.get b=some (.cells C low false))(hx:ed Q H kids C):∀(es:List kX) (i:Nat),(∀e∈es,Nc P H f e) ->
  kC H.get Q6 (eE b C.length kids.length) es i=some none∨∃j e,es[j]?=some e/\f kids e.2.1/\kC H.get Q6 (eE b C.length kids.length) es i=some (some (i+j,e))
 | [],i,_=>.inl rfl
 |e::r,i,he=>by
  obtain⟨b',C',low',kids',h1,h2,h3,h4,h5⟩:=he e (by simp);obtain⟨q1,q2⟩:=Uf h hx h3 h4;by_cases hb:b=b'
  ·refine .inr ⟨0,e,rfl,by rw[q2 hb];exact h5,?_⟩;rw[show Nat.beq b b'=true by rw[hb];exact Nat.beq_refl _]at q1;simp only[kC,h1,q1,Nat.add_zero]
  ·rw[show Nat.beq b b'=false by rw[ch];exact decide_eq_false hb]at q1;have ih:=pT h hx r (i+1) λx hx=>he x (by simp[hx]);rcases ih with ih|⟨j,x,g1,g2,g3⟩
   ·exact .inl (by simp only[kC,h1,q1];exact ih)
   ·refine .inr ⟨j+1,x,by rw[XI];exact g1,g2,?_⟩;simp only[kC,h1,q1];rw[g3,show i+1+j=i+(j+1) by omega]
def iB(P:Nat->Prop)(f:aa->List Ex->ae->Prop)(mt:Nat)(H:aa):Prop:=mt<H.next/\∃es c,H.get mt=some (.map es c)/\∀e∈es,Nc P H (f H) e
def iB.new{P:Nat->Prop}{f:aa->List Ex->ae->Prop}{mt:Nat}{H:aa}(h:H.get mt=some (.map [] 0))(hn:mt<H.next):iB P f mt H:=⟨hn,[],0,h,λe he=>by simp at he⟩
def Nc.mono{P Q:Nat->Prop}{H H':aa}{f f':List Ex->ae->Prop}{e:kX}(h:Nc P H f e)(q:∀b,P b->Q b/\H'.get b=H.get b)(hf:∀k y,f k y->f' k y):Nc Q H' f' e:=by obtain⟨b,C,low,kids,h1,h2,h3,h4,h5⟩:=h;exact⟨b,C,low,kids,h1,(q b h2).1,(q b h2).2.trans h3,h4.mono q,hf _ _ h5⟩
def iB.keep{P Q:Nat->Prop}{f f':aa->List Ex->ae->Prop}{mt:Nat}{H H':aa}(h:iB P f mt H)(hn:H.next<=H'.next)(hm:H'.get mt=H.get mt)(q:∀b,P b->Q b/\H'.get b=H.get b)(hf:∀k y,f H k y->f' H' k y):iB Q f' mt H':=by obtain⟨h0,es,c,h1,h2⟩:=h;exact⟨om,es,c,hm.trans h1,λe he=>(h2 e he).mono q hf⟩
def iB.look{P Q:Nat->Prop}{f:aa->List Ex->ae->Prop}{mt:Nat}{H:aa}(h:iB P f mt H){b low:Nat}{C:List ae}{kids:List Ex}(hb:H.get b=some (.cells C low false))(hx:ed Q H kids C)(z:ae) :
  qq Q6 true z H [.map (some mt),eE b C.length kids.length]=some (.tuple [z,.bool false],H)∨∃y,f H kids y/\qq Q6 true z H [.map (some mt),eE b C.length kids.length]=some (.tuple [y,.bool true],H):=by
 obtain⟨h0,es,c,h1,h2⟩:=h;rcases pT hb hx es 0 h2 with q|⟨j,e,_,g2,g3⟩
 ·exact .inl (by simp only[qq,h1,uT,uG,cond_true,q];rfl)
 ·exact .inr ⟨e.2.1,g2,by simp only[qq,h1,uT,uG,cond_true,g3];rfl⟩
def iB.upd{P:Nat->Prop}{f:aa->List Ex->ae->Prop}{mt:Nat}{H:aa}(h:iB P f mt H){b low:Nat}{C:List ae}{kids:List Ex}(hb:H.get b=some (.cells C low false))(hx:ed P H kids C)(hp:P b)(hm:∀c,P c->c≠mt){y:ae}
  (hf:∀H':aa,(∀c,c≠mt->H'.get c=H.get c)->H'.next=H.next->∀k x,(f H k x∨k=kids/\x=y)->f H' k x) :
  ∃H',zF Q6 H [.map (some mt),eE b C.length kids.length,y]=some (.tuple [],H')/\iB P f mt H'/\H'.next=H.next/\∀c,c≠mt->H'.get c=H.get c:=by
 obtain⟨h0,es,c,h1,h2⟩:=h;have key:∀es' c',(∀e∈es',e∈es∨e.1=eE b C.length kids.length/\e.2.1=y)->iB P f mt (H.set mt (.map es' c')):=by
  intro es' c' he;have g:∀c,c≠mt->(H.set mt (.map es' c')).get c=H.get c:=λc hc=>by rw[aa.get_set,if_neg hc]
  refine⟨h0,es',c',by rw[aa.get_set,if_pos rfl],λe q=>?_⟩;rcases he e q with q|⟨q1,q2⟩
  ·exact(h2 e q).mono (λb hb=>⟨hb,g b (hm b hb)⟩) λk x hk=>hf _ g (by rw[eX]) k x (.inl hk)
  ·exact⟨b,C,low,kids,q1,hp,(g b (hm b hp)).trans hb,hx.mono λb hb=>⟨hb,g b (hm b hb)⟩,by rw[q2];exact hf _ g (by rw[eX]) kids y (.inr ⟨rfl,rfl⟩)⟩
 rcases pT hb hx es 0 h2 with q|⟨j,e,g1,g2,g3⟩
 ·refine⟨H.set mt (.map (es++[(eE b C.length kids.length,y,c)]) (c+1)),by simp only[zF,h1,AV,uG,cond_true,q],key _ _ ?_,eX ..,λc hc=>by rw[aa.get_set,if_neg hc]⟩;intro e he;rcases List.mem_append.1 he with he|he
  ·exact .inl he
  ·rw[List.mem_singleton.1 he];exact .inr ⟨rfl,rfl⟩
 ·refine⟨H.set mt (.map (qU es (0+j) (eE b C.length kids.length,y,e.2.2)) c),by simp only[zF,h1,AV,uG,cond_true,g3],key _ _ ?_,eX ..,λc hc=>by rw[aa.get_set,if_neg hc]⟩;intro x hx;have ms:∀(es:List kX) (i:Nat) (z x:kX),x∈qU es i z->x∈es∨x=z:=by
   intro es;induction es with
   |nil=>intro i z x h;cases i<;>simp[qU]at h
   |cons a r ih=>
    intro i z x h;cases i with
    |zero=>
     simp only[qU,List.mem_cons]at h;rcases h with h|h
     ·exact .inr h
     ·exact .inl (by simp[h])
    |succ i=>
     simp only[qU,List.mem_cons]at h;rcases h with h|h
     ·exact .inl (by simp[h])
     ·rcases ih i z x h with h|h
      ·exact .inl (by simp[h])
      ·exact .inr h
  rcases ms _ _ _ _ hx with h|h
  ·exact .inl h
  ·rw[h];exact .inr ⟨rfl,rfl⟩
open Go.Abs Go.Abs.S
def zQ.aeq{n:Nat}{H:aa}{v:ae}{l:List Ex}(h:zQ n H v l):Go.Abs.aeq v v=true:=by obtain⟨C,h1,_⟩:=h.sl;exact h1.sl.aeq
def zQ.one{n:Nat}{H:aa}{v:ae}{l:List Ex}(h:zQ n H v l):v.one=true:=by obtain⟨C,h1,_⟩:=h.sl;exact h1.sl.one
def wH:∀(N:Nat) {e:Ex} {c:List ae} {H:aa},e.size<=N->e.size<=1000000->XE (·<H.next) H e c ->
  aq Tryz.prog aF 36 [.agg c] H λu H'=>(∃c',u=.agg c'/\mL (In H.next H'.next) H' e c')/\aS H.next H H'
 |0,e,_,_,h,_,_=>absurd (fg e) om
 |N+1,.mk k s z kids,c,H,h,hs,hx=>by
  obtain⟨v0,C,rfl,z1,z2⟩:=hx;have hsz:(Ex.mk k s z kids).size=aU kids+1:=rfl;refine ak rfl Wz rfl ?_;obtain⟨H1,m1,r1,n1,k1⟩:=aC H [.int .u8 (k:Int),.str s,.int .i64 z,v0] (n:=4) rfl;obtain⟨H2,m2,r2,n2,k2⟩:=aC H1 [.int .u8 0,.str [],.int .i64 0,.slice none 0 (.known 0)] (n:=4) rfl;obtain⟨H3,m3,r3,n3,k3⟩:=aC H2 [.int .u8 0,.str [],.int .i64 0,.slice none 0 (.known 0)] (n:=4) rfl;obtain⟨H4,m4,r4,n4,k4⟩:=am r3 (n:=4) rfl (xs:=[.int .u8 (k:Int),.str s,.int .i64 z,aX]) rfl rfl;have r12:be H2 H.next [.int .u8 (k:Int),.str s,.int .i64 z,v0]:=r1.same (k2 _ om);have q0:al false 1 H2 (ah H.next 4 0)=some (.int .u8 (k:Int)):=aj r12 rfl rfl;have q1:al false 1 H2 (ah H.next 4 1)=some (.str s):=aj r12 rfl rfl;have q2:al false 1 H2 (ah H.next 4 2)=some (.int .i64 z):=aj r12 rfl rfl;have bo:aJ [.int .u8 0,.str [],.int .i64 0,.slice none 0 (.known 0)] [(0,1,.int .u8 (k:Int)),(1,1,.str s),(2,1,.int .i64 z)]=some (.agg [.int .u8 (k:Int),.str s,.int .i64 z,aX]):=rfl;have E4:aS H.next H H4:=⟨om,λc hc=>by rw[k4 c om,k3 c om,k2 c om,k1 c om]⟩;have r14:be H4 H.next [.int .u8 (k:Int),.str s,.int .i64 z,v0]:=r12.same (by rw[k4 _ om,k3 _ om]);have r24:be H4 H1.next [.int .u8 0,.str [],.int .i64 0,.slice none 0 (.known 0)]:=r2.same (by rw[k4 _ om,k3 _ om]);obtain⟨b3,hb3⟩:∃b,b=H2.next:=⟨_,rfl⟩;rw[<- hb3]at m3 r4 m4 k4;have ln:=z1.len;have hlen:=cO kids;simp only[c36,sC,seval,aG,m1,m2,m3,m4,fld0,aA,q0,q1,q2,bo];refine aM (λm (T:bZ) K=>∃(i:Nat) (v:ae),m=kids.length-i/\i<=kids.length/\T 1=ah H.next 4 0/\T 2=ah H1.next 4 0/\T 3=ah b3 4 0/\T 4=.int .i64 (i:Int)/\Fp b3 H4 K/\be K b3 [.int .u8 (k:Int),.str s,.int .i64 z,v]/\zQ (b3+1) K v (kids.take i)) kids.length
   ⟨0,aX,rfl,Nat.zero_le _,by simp only[sC,seval],by simp only[sC,seval],by simp only[sC,seval],by simp only[sC,seval];try rfl,Fp.refl _ _,r4,zQ.nil _ _⟩ ?_
  rintro m T K ⟨i,v,rfl,hi,t1,t2,t3,t4,FK,rK,gK⟩;have eK:=FK.next;have l3K:al false 1 K (ah H.next 4 3)=some v0:=aj (r14.same (FK.old _ om om)) rfl rfl;have EK:aS H.next H K:=E4.trans ⟨om,λc hc=>FK.old c om om⟩;by_cases hlt:i<kids.length
  case neg=>obtain rfl:i=kids.length:=om;have hlt':¬(kids.length:Int)<(kids.length:Int):=om;rw[List.take_length]at gK;obtain⟨Cv,g1,g2⟩:=gK.sl;have lw:al true 4 K (ah b3 4 0)=some (.agg [.int .u8 (k:Int),.str s,.int .i64 z,v]):=aw rK rfl;obtain⟨H5,m5,r5,n5,k5⟩:=am (H:=K) (r24.same (FK.old _ om om)) (n:=4) rfl (xs:=[.int .u8 (k:Int),.str s,.int .i64 z,v]) rfl (by simp only[List.all_cons,List.all_nil,g1.sl.one];rfl);have l5:al true 4 H5 (ah H1.next 4 0)=some (.agg [.int .u8 (k:Int),.str s,.int .i64 z,v]):=aw r5 rfl;simp only[sC,seval,t1,t2,t3,t4,aA,l3K,ln,hlt',lw,m5];refine gb _ _ _ _ (by simp only[sC,seval,t2];exact l5) ?_;have km:∀b,In (b3+1) K.next b->In H.next H5.next b/\H5.get b=K.get b:=λb hb=>⟨⟨by have:=hb.1;omega,by have:=hb.2;omega⟩,k5 b (by have:=hb.1;omega)⟩;exact⟨⟨_,rfl,v,Cv,rfl,g1.mono km,g2.mono km⟩,by have:=EK.next;omega,λc hc=>by rw[k5 c om,EK.old c hc]⟩
  have hlt':(i:Int)<(kids.length:Int):=om;obtain⟨e,he⟩:∃e,kids[i]?=some e:=⟨_,Xx hlt⟩;have hts:kids.take (i+1)=kids.take i++[e]:=by rw[List.take_add_one,he];rfl
  have km:∀b,b<H.next->b<K.next/\K.get b=H.get b:=λb hb=>⟨by have:=EK.next;omega,EK.old b hb⟩;have z13:=z1.mono km;have z23:=z2.mono km;have ix:=z13.idx hlt;have ld:=z13.load hlt;have he3:=z23.at he;have hsm:=iZ (XG he);have wi:IntKind.i64.wrap ((i:Int)+1)=((i+1:Nat):Int):=fT i 1 om;have l3v:al false 1 K (ah b3 4 3)=some v:=aj rK rfl rfl;simp only[sC,seval,t1,t2,t3,t4,aA,l3K,ln,hlt'];refine dI rfl ?_;simp only[sR,sC,seval,t1,t2,t3,t4,aA,l3K,l3v,ix,ld];refine(wH N om om he3).mono ?_;rintro _ K2 ⟨⟨ys,rfl,xy⟩,E2⟩;have e2:=E2.next;have hbv:bx v (In (b3+1) K.next):=by obtain⟨C,_,q,_⟩:=gK;exact q
  have bb:bx v (b3≠·):=hbv.mono λc hc=>by have:=hc.1;omega
  have rK2:=rK.same (H':=K2) (E2.old b3 om);have rKP:=rK2.same (H':=K2.push (.cells ys 0 false)) (aB om);have gE2:=gK.keep E2.next λc hc=>E2.old c hc.2;have hv:=gK.aeq;obtain⟨v',K3,a3,G3,n3',k3'⟩:=gE2.push xy om om (hbv.mono λc hc=>hc.2) (by rw[XT];omega) (bytes:=56) om om;obtain⟨K4,m4',r4',n4',k4'⟩:=bQ (H:=K3) (rK2.same (k3' b3 om bb)) (n:=4) rfl (i:=3) om (x:=v') G3.one (l':=[.int .u8 (k:Int),.str s,.int .i64 z,v']) rfl;have G4:=G3.keep (H':=K4) om λc hc=>k4' c (by have:=hc.1;omega);have z2':al false 1 K2 (ah b3 4 3)=some v:=aj rK2 rfl rfl;have z3':al false 1 (K2.push (.cells ys 0 false)) (ah b3 4 3)=some v:=aj rKP rfl rfl;have bm:=ot (z:=[.int .u8 0,.str [],.int .i64 0,.slice none 0 (.known 0)]) (m:=4) K2 rfl xy.len;simp only[sR,sC,seval,t1,t2,t3,t4,aA,bm,a3,m4'];simp only[ci,cj,bP,cm,cQ,and_true,true_and,List.map_cons,List.map_nil,sC,seval,t1,t2,t3,t4,aA,wi];refine⟨⟨⟨_,rfl,λ_=>⟨_,z2',hv⟩⟩,⟨_,rfl,λ_=>⟨_,z3',hv⟩⟩⟩,kids.length-(i+1),om,i+1,v',rfl,om,tt,⟨om,λc h1 h2=>?_⟩,r4',?_⟩
  ·rw[k4' c h2,k3' c om (hbv.mono λx hx=>by have:=hx.1;omega),E2.old c om,FK.old c h1 h2]
  ·rw[hts];exact G4
open Go.Abs Go.Abs.S
def Fz:∀(N:Nat) {l:List St} {C:List ae} {v:ae} {H:aa},au l<=N->au l<=1000000->eM (·<H.next) H 9 v l.length C->lV (·<H.next) H l C ->
  aq Tryz.prog aF 11 [v] H λu H'=>(∃C',eM (In H.next H'.next) H' 9 u l.length C'/\dY (In H.next H'.next) H' l C')/\aS H.next H H':=by
 intro N;induction N with
 |zero=>
  intro l C v H h hs z1 z2;have hl0:l=[]:=by
   cases l with
   |nil=>rfl
   |cons x l=>have:=ee x;simp only[au]at h;omega
  subst hl0;have ln:=z1.len;have h0:¬(0:Int)<(([]:List St).length:Int):=by simp
  refine ak rfl TR rfl ?_;simp only[Xj,sC,seval];refine aM (λm (T:bZ) K=>H=K/\T 0=v/\T 3=aX/\T 4=.int .i64 0) 0 ⟨rfl,by simp only[sC,seval],by simp only[sC,seval];try rfl,by simp only[sC,seval]⟩ ?_;rintro m T K ⟨rfl,t0,t3,t4⟩;simp only[sC,seval,t0,t3,t4,ln,h0];exact⟨⟨[],eM.nil _ _ _,rfl⟩,aS.refl _ _⟩
 |succ N ih=>
  intro l C v H h hs z1 z2;have ln:=z1.len;refine ak rfl TR rfl ?_;simp only[Xj,sC,seval];refine aM (λm (T:bZ) K=>∃(i:Nat) (w:ae),m=l.length-i/\i<=l.length/\T 0=v/\T 3=w/\T 4=.int .i64 (i:Int)/\aS H.next H K/\qv H.next K w (l.take i)) l.length
   ⟨0,aX,rfl,Nat.zero_le _,by simp only[sC,seval],by simp only[sC,seval];try rfl,by simp only[sC,seval];try rfl,aS.refl _ _,qv.nil _ _⟩ ?_
  rintro m T K ⟨i,w,rfl,hi,t0,t3,t4,EK,gK⟩;have eK:=EK.next;by_cases hlt:i<l.length
  case neg=>obtain rfl:i=l.length:=om;have hlt':¬(l.length:Int)<(l.length:Int):=om;rw[List.take_length]at gK;obtain⟨Cv,g1,g2⟩:=gK.sl;simp only[sC,seval,t0,t3,t4,ln,hlt'];exact⟨⟨Cv,g1,g2⟩,EK⟩
  have hlt':(i:Int)<(l.length:Int):=om;obtain⟨x,he⟩:∃e,l[i]?=some e:=⟨_,Xx hlt⟩;have hts:l.take (i+1)=l.take i++[x]:=by rw[List.take_add_one,he];rfl
  have km:∀b,b<H.next->b<K.next/\K.get b=H.get b:=λb hb=>⟨om,EK.old b hb⟩;have z13:=z1.mono km;have ix:=z13.idx hlt;have ld:=z13.load hlt;have hsm:=dl (XG he);have hlen:=db l;have wi:IntKind.i64.wrap ((i:Int)+1)=((i+1:Nat):Int):=fT i 1 om;have hx3:=(z2.mono km).at he;have hone:=hx3.one;obtain⟨k,s,e,body,els,line⟩:=x;obtain⟨ce,vb,Cb,ve,Ce,hcell,x1,y1,y2,y3,y4⟩:=hx3;obtain⟨c0,c1,c2,c3,rfl⟩:∃a b c d,ce=[a,b,c,d]:=by
   have:=x1.len
   match ce,this with
   | [a,b,c,d],_=>exact⟨a,b,c,d,rfl⟩
  rw[hcell]at ld hone;have hsz:(St.mk k s e body els line).size=e.size+au body+au els+1:=rfl;obtain⟨K1,m1,r1,n1,k1⟩:=aC K [.int .u8 0,.str [],.int .u8 0,.str [],.int .i64 0,.slice none 0 (.known 0),.slice none 0 (.known 0),.slice none 0 (.known 0),.int .i64 0] (n:=9) rfl;obtain⟨K2,m2,r2,n2,k2⟩:=am r1 (n:=9) rfl (xs:=.int .u8 (k:Int)::.str s::([c0,c1,c2,c3]++[vb,ve,.int .i64 line])) rfl hone;simp only[XQ,List.nil_append]at ld m2 r2 hone;obtain⟨b5,hb5⟩:∃b,b=K.next:=⟨_,rfl⟩;rw[<- hb5]at m1 m2 r2 k2 k1;have E2:aS K.next K K2:=⟨om,λc hc=>by rw[k2 c om,k1 c om]⟩;have le:al true 4 K2 (ah b5 9 2)=some (.agg [c0,c1,c2,c3]):=gQ r2 (n:=9) rfl (i:=2) (k:=4) om;have kk:∀{K':aa},aS K.next K K'->∀b,b<K.next->b<K'.next/\K'.get b=K.get b:=λq b hb=>⟨by have:=q.next;omega,q.old b hb⟩;simp only[sC,seval,t0,t3,t4,ln,hlt',ix,ld,m1,m2];refine dI rfl ?_;simp only[sR,sC,seval,aA,le];refine(wH e.size rL om (x1.mono (kk E2))).mono ?_;rintro _ K3 ⟨⟨ce',rfl,xe⟩,E3⟩;have e2:=E2.next;have e3:=E3.next;have r3:=r2.same (E3.old b5 om);have l6:∀{J:aa},be J b5 [.int .u8 (k:Int),.str s,c0,c1,c2,c3,vb,ve,.int .i64 line]->al false 1 J (ah b5 9 6)=some vb:=λq=>aj q rfl rfl;have l7:∀{J:aa},be J b5 [.int .u8 (k:Int),.str s,c0,c1,c2,c3,vb,ve,.int .i64 line]->al false 1 J (ah b5 9 7)=some ve:=λq=>aj q rfl rfl;have E03:=E2.trans (E3.less om);simp only[sR,sC,seval,aA,l6 r3];refine(ih om om (y1.mono (kk E03)) (y2.mono (kk E03))).mono ?_;rintro vb' K4 ⟨⟨Cb',xb1,xb2⟩,E4⟩;have e4:=E4.next;have r4:=r3.same (E4.old b5 om);have E04:=E03.trans (E4.less om);simp only[sR,sC,seval,aA,l7 r4];refine(ih om om (y3.mono (kk E04)) (y4.mono (kk E04))).mono ?_;rintro ve' K5 ⟨⟨Ce',xs1,xs2⟩,E5⟩;have e5:=E5.next;have r5:=r4.same (E5.old b5 om);have E05:=E04.trans (E5.less om);obtain⟨d0,d1,d2,d3,rfl⟩:∃a b c d,ce'=[a,b,c,d]:=by
   have:=xe.len
   match ce',this with
   | [a,b,c,d],_=>exact⟨a,b,c,d,rfl⟩
  obtain⟨K6,m6,r6,n6,k6⟩:=oO r5 (n:=9) rfl (i:=2) (k:=4) om (xs:=[d0,d1,d2,d3]) rfl xe.xe.one (l':=[.int .u8 (k:Int),.str s,d0,d1,d2,d3,vb,ve,.int .i64 line]) rfl;obtain⟨K7,m7,r7,n7,k7⟩:=bQ r6 (n:=9) rfl (i:=6) om (x:=vb') xb1.one (l':=[.int .u8 (k:Int),.str s,d0,d1,d2,d3,vb',ve,.int .i64 line]) rfl;obtain⟨K8,m8,r8,n8,k8⟩:=bQ r7 (n:=9) rfl (i:=7) om (x:=ve') xs1.one (l':=[.int .u8 (k:Int),.str s,d0,d1,d2,d3,vb',ve',.int .i64 line]) rfl;have k58:∀c,c≠b5->K8.get c=K5.get c:=λc hc=>by rw[k8 c hc,k7 c hc,k6 c hc]
  have kx:∀{a:Nat} {J:aa},K2.next<=a->J.next<=K5.next->aS J.next J K5->∀b,In a J.next b->In K.next K8.next b/\K8.get b=J.get b:=λh1 h2 q b hb=>⟨⟨by have:=hb.1;omega,by have:=hb.2;omega⟩,by rw[k58 b (by have:=hb.1;omega),q.old b hb.2]⟩;have E35:aS K3.next K3 K5:=E4.trans (E5.less om);have xS:uU (In K.next K8.next) K8 (.mk k s e body els line) [.int .u8 (k:Int),.str s,d0,d1,d2,d3,vb',ve',.int .i64 line]:=⟨[d0,d1,d2,d3],vb',Cb',ve',Ce',rfl,xe.mono (kx rL om E35),xb1.mono (kx e3 om E5),xb2.mono (kx e3 om E5),xs1.mono (kx om rL (aS.refl _ _)),xs2.mono (kx om rL (aS.refl _ _))⟩
  have E08:aS K.next K K8:=⟨om,λc hc=>by rw[k58 c om,E05.old c hc]⟩;have gK8:=gK.keep E08.next λc hc=>E08.old c hc.2;have hbw:bx w (In H.next K.next):=by obtain⟨C,_,q,_⟩:=gK;exact q
  obtain⟨w',K9,a9,G9,n9,k9⟩:=gK8.push xS om om (hbw.mono λc hc=>hc.2) (by rw[XT];omega) (bytes:=136) om om;have l9:al true 9 K8 (ah b5 9 0)=some (.agg [.int .u8 (k:Int),.str s,d0,d1,d2,d3,vb',ve',.int .i64 line]):=aw r8 rfl;have bm:=ot (z:=[.int .u8 0,.str [],.int .u8 0,.str [],.int .i64 0,.slice none 0 (.known 0),.slice none 0 (.known 0),.slice none 0 (.known 0),.int .i64 0]) (m:=9) K8 rfl xS.xs.len;simp only[sR,sC,seval,aA,m6,m7,m8];simp only[ci,cj,bP,cm,cQ,and_true,true_and,List.map_cons,List.map_nil,sC,seval,aA,l9,bm,a9,t0,t3,t4,wi];refine⟨⟨⟨_,rfl,λ_=>⟨vb,l6 r2,y1.aeq⟩⟩,⟨_,rfl,λ_=>⟨ve,l7 r2,y3.aeq⟩⟩,⟨_,rfl,λ_=>⟨ve,l7 r3,y3.aeq⟩⟩⟩,l.length-(i+1),om,i+1,w',rfl,om,tt,tt,⟨om,λc hc=>by rw[k9 c om (hbw.mono λx hx=>by have:=hx.1;omega),E08.old c om,EK.old c hc]⟩,?_⟩;rw[hts];exact G9
end Go.Proofs.Wo
