/- Part of a proof (YF4 YF5 YF6 YF7 YF8 YG1 YG2 YD3); no condition. -/
import Derived.Test.YteabnpheoiakdaaGreatDoorProg
import Derived.KernelRfl
import Derived.Test.YteabnpheoiakdaaGreatDoorP6
import Derived.Test.YteabnpheoiakdaaGreatDoorP11
set_option linter.unusedSimpArgs false
set_option linter.unusedVariables false
set_option linter.defProp false
set_option linter.unnecessarySimpa false
namespace Go.Proofs.Wo
open Go.Abs Go.Abs.S
def QJ{P:Nat->Prop}{H:aa}{m k:Nat}{v:ae}{C:List ae}(h:eM P H m v k C){i:Nat}(hi:i<k):∀a,cz m v i=.ptr (some a)->P a.b:=by
 rcases h with⟨_,h,_⟩|⟨b,r,rfl,hb,_⟩
 ·omega
 ·intro a e;simp only[cz,ae.ptr.injEq,sJ]at e;rw[<- e];exact hb
def Eg{α:Type}(g:α->ae){H:aa}{mb c:Nat}{L:List (Bs×α)}(h:H.get mb=some (.map (xx g L 0) c)){s:Bs}{x:α}(ha:ew L s=some x)(z:ae) :
  kj (.mLook .str false z) H [.map (some mb),.str s]=some (g x,H):=by
 obtain⟨_,h2⟩:=sE g s L 0 0;obtain⟨k,b,q⟩:=h2 x ha;simp only[kj,oB,h,qt,yI,cond_true,q,sU];rfl
def IQ:∀y∈iq,ew KP y.1=some (lQ y.1,y.2.1.length):=by decide
def Mg{s:Bs}{ts:List Nat}{t:Nat}(h:js s ts=.ok t):ew KP s=some (lQ s,ts.length):=by
 unfold js at h;cases ha:ew iq s with
 |none=>rw[ha]at h;simp at h
 |some x=>
  obtain⟨args,own⟩:=x;rw[ha]at h;simp only at h;by_cases h1:ts.length≠args.length
  ·rw[if_pos h1]at h;simp at h
  ·have:=IQ _ (iK ha);rw[this];simp only[ne_eq,Decidable.not_not]at h1;rw[h1]
def Br{E:aO}{k:Nat}{s:Bs}{n:Int}{kids:List Ex}{t:Nat}(h:lB E (.mk k s n kids)=.ok t):∃ts,eA E kids=.ok ts/\jT E k s ts=.ok t:=by
 simp only[lB]at h;cases hk:eA E kids with
 |error f=>rw[hk]at h;simp at h
 |ok ts=>rw[hk]at h;exact⟨ts,rfl,h⟩
def qA{E:aO}:∀{l:List Ex} {ts:List Nat},eA E l=.ok ts->∀e∈l,∃t,lB E e=.ok t
 | [],_,_,e,h=>by simp at h
 |x::l,ts,h,e,he=>by
  simp only[eA]at h;cases hx:lB E x with
  |error f=>rw[hx]at h;simp at h
  |ok t=>
   rw[hx]at h;cases hl:eA E l with
   |error f=>rw[hl]at h;simp at h
   |ok us=>
    rcases List.mem_cons.1 he with rfl|he
    ·exact⟨t,hx⟩
    ·exact qA hl e he
def tX{s:Bs}{t:Nat}:∀{E:aO},fk E s=some t->∃i,bB s E=some i/\i<E.length:=by
 intro E h;cases hf:bB s E with
 |some i=>exact⟨i,rfl,by obtain⟨t,ht⟩:=jD hf;exact(Xy.1 ht).1⟩
 |none=>exact absurd (List.mem_map_of_mem (f:=(·.1)) (sZ h)) (gT.1 hf)
def B7{l:List Ex}(h:eY l=true){e:Ex}(he:e∈l):lD e=true:=by
 induction l with
 |nil=>simp at he
 |cons x l ih=>
  simp only[eY,XA]at h;rcases List.mem_cons.1 he with rfl|he
  ·exact h.1
  ·exact ih h.2 he
def C5{E:aO}{kids:List Ex}{i:Nat}{e:Ex}(he:kids[i]?=some e)(r:Nat)(x:Cs):oi E (kids.take (i+1)) r x=cE E e (r+i) (oi E (kids.take i) r x):=by have hlt:i<kids.length:=(Xy.1 he).1;rw[List.take_add_one,he,Option.toList_some,HC,XT,Nat.min_eq_left om];simp only[oi]
def vE(l:List Ex)(i:Nat):aU (l.take i)<=aU l:=by
 induction l generalizing i with
 |nil=>simp
 |cons x l ih=>
  cases i with
  |zero=>simp[aU]
  |succ i=>simp only[List.take_succ_cons,aU];have:=ih i;omega
def BL{l:List Ex}{i:Nat}{e:Ex}(he:l[i]?=some e):aU (l.take i)+e.size<=aU l:=by
 induction l generalizing i with
 |nil=>simp at he
 |cons x l ih=>
  cases i with
  |zero=>simp only[XH,sJ]at he;subst he;simp[aU]
  |succ i=>simp only[XI]at he;simp only[List.take_succ_cons,aU];have:=ih he;omega
structure Rm(x:Cs)(n:Nat):Prop where
 code:x.code.length+n<=50000
 cons:x.cons.length+n<=50000
def wg{E:aO}(hE:kW E)(hEl:E.length<=100000){cb n0:Nat}:∀(N:Nat) {e:Ex} {x:Cs} {O:Nat->Prop} {H:aa} {p:ae} {c:List ae} {r t:Nat},e.size<=N->pi E x cb n0 O H->mS H p c->(∀a,p=.ptr (some a)->a.b<n0)->mL (·<n0) H e c->lD e=true->lB E e=.ok t->e.size<=1000->e.deep<=40->Rm x e.size->r+e.size<=50000 ->
  aq Tryz.prog aF 127 [ah cb 7 0,p,.int .i64 (r:Int)] H λ_ H'=>∃O',pi E (cE E e r x) cb n0 O' H'/\fU O H O' H'
 |0,e,_,_,_,_,_,_,_,h,_,_,_,_,_,_,_,_,_,_=>absurd (fg e) om
 |N+1,.mk k s n kids,x,O,H,p,c,r,t,h,A,pt,hp,hx,hok,hty,hs,hd,hr,hrr=>by
  obtain⟨v,C,rfl,z1,z2⟩:=hx;have hsz:(Ex.mk k s n kids).size=aU kids+1:=rfl;have hdp:(Ex.mk k s n kids).deep=bG kids+1:=rfl;have hr1:=hr.code;have hr2:=hr.cons;obtain⟨ts,hts,hkt⟩:=Br hty;obtain⟨hpf,hks⟩:=qN hok;have hlen:=cO kids;have nc:=pt.chk;have f0:=pt.fld0;have f1:=pt.fld 1;have f2:=pt.fld 2;have f3:=pt.fld 3;obtain⟨vc,vd,vn,vk,mb,mp,A⟩:=A;have hcb:=A.oN _ A.oc.1;have lr:al false 1 H (ah cb 7 1)=some (.int .i64 (x.regs:Int)):=aj A.row rfl rfl;have wr:IntKind.i64.wrap ((r:Int)+1)=((r+1:Nat):Int):=iP;obtain⟨H1,m1,q1,n1,k1⟩:=bQ A.row (n:=7) rfl (i:=1) om (x:=.int .i64 ((max x.regs (r+1):Nat):Int)) rfl (l':=[vc,.int .i64 ((max x.regs (r+1):Nat):Int),vd,.map (some mb),.map (some mp),vn,vk]) rfl;have A1:pi E (x.use r) cb n0 O H1:=⟨_,_,_,_,_,_,A.regs q1 n1 k1⟩;have F1:fU O H O H1:=⟨om,λc _ h2=>k1 c (λe=>h2 (e ▸ A.oc.1)),λ_ h=>.inl h⟩;have pt1:mS H1 p [.int .u8 (k:Int),.str s,.int .i64 n,v]:=pt.same λa e=>k1 _ (by have:=hp a e;omega);have l3:al false 1 H1 (fp p 3)=some v:=pt1.load (o:=3) rfl;have ln:=z1.sl.len;refine ak rfl TG rfl ?_;simp only[U3,sC,seval,az,fld0,aA,lr,wr,oQ,m1,nc,f3,l3,ln];refine aM (λm (T:bZ) K=>∃(i:Nat) (O1:Nat->Prop),m=kids.length-i/\i<=kids.length/\T 0=ah cb 7 0/\T 1=p/\T 2=.int .i64 (r:Int)/\T 24=.int .i64 (kids.length:Int)/\T 25=.int .i64 (i:Int)/\pi E (oi E (kids.take i) r (x.use r)) cb n0 O1 K/\fU O H O1 K) kids.length
   ⟨0,O,rfl,Nat.zero_le _,by simp only[sC,seval];try rfl,by simp only[sC,seval];try rfl,by simp only[sC,seval];try rfl,by simp only[sC,seval];try rfl,by simp only[sC,seval];try rfl,A1,F1⟩ ?_
  rintro m T K ⟨i,O1,rfl,hi,t0,t1,t2,t24,t25,AK,FK⟩;have nK:=FK.next;have kmK:∀c,c<n0->c<n0/\K.get c=H.get c:=λc hc=>⟨hc,FK.old c om (λq=>by have:=A.oN c q;omega)⟩;have ptK:mS K p [.int .u8 (k:Int),.str s,.int .i64 n,v]:=pt.same λa e=>(kmK _ (hp a e)).2;have z1K:=z1.mono kmK;have z2K:=z2.mono kmK;obtain⟨q1,q2,q3⟩:=uM E (kids.take i) r (x.use r);have hst:=vE kids i;have u1:(x.use r).code=x.code:=rfl;have u2:(x.use r).cons=x.cons:=rfl;rw[u1]at q1;rw[u2]at q2;by_cases hlt:i<kids.length
  ·have hlt':(i:Int)<(kids.length:Int):=om;obtain⟨e,he⟩:∃e,kids[i]?=some e:=⟨_,Xx hlt⟩;have hmem:=XG he;have hsm:=BL he;have hdm:=kL hmem;obtain⟨te,hte⟩:=qA hts e hmem;have ix:=z1K.sl.idx hlt;have l3K:al false 1 K (fp p 3)=some v:=ptK.load (o:=3) rfl;have wi:IntKind.i64.wrap ((i:Int)+1)=((i+1:Nat):Int):=fT i 1 om;have wri:IntKind.i64.wrap ((r:Int)+(i:Int))=((r+i:Nat):Int):=fT r i om;have hil:i+e.size<=aU kids:=by
    have:i=(kids.take i).length:=by rw[XT];omega
    have:=cO (kids.take i);omega
   simp only[sC,seval,t0,t1,t2,t24,t25,hlt',nc,f3,l3K,ix,wri];refine(wg hE hEl N om AK (z1K.sl.pt hlt) (QJ z1K.sl hlt) (z2K.at he) (B7 hks hmem) hte om om ⟨om,om⟩ om).mono ?_;rintro _ K2 ⟨O2,A2,F2⟩;simp only[sC,seval,t0,t1,t2,t24,t25,wi];refine⟨kids.length-(i+1),om,i+1,O2,rfl,om,tt,tt,tt,tt,tt,?_,FK.trans F2⟩;rw[C5 he];exact A2
  obtain rfl:i=kids.length:=om;have hlt':¬(kids.length:Int)<(kids.length:Int):=om;rw[List.take_length]at AK q1 q2 q3;have l0:al false 1 K p=some (.int .u8 (k:Int)):=ptK.load0 rfl;have l1:al false 1 K (fp p 1)=some (.str s):=ptK.load (o:=1) rfl;have l2:al false 1 K (fp p 2)=some (.int .i64 n):=ptK.load (o:=2) rfl;have hc:cE E (.mk k s n kids) r x=je E k s n kids r (oi E kids r (x.use r)):=rfl;rw[hc];by_cases h1:k=1
  ·subst h1;simp only[Int.cast_ofNat_Int]at l0;simp only[sC,seval,t0,t1,t2,t24,t25,hlt',nc,f0,f2,l0,l2];refine(Cr AK n om).mono ?_;rintro _ H2 ⟨rfl,O2,A2,F2⟩;obtain⟨g1,g2,g3⟩:=rC n (oi E kids r (x.use r));simp only[sC,seval,t0,t1,t2];refine(dA A2 1 r _ 0 (by rw[g1];omega)).mono ?_;rintro _ H3 ⟨rfl,O3,A3,F3⟩;simp only[sC,seval];exact⟨_,rfl,O3,A3,FK.trans (F2.trans F3)⟩
  have h1':¬(k:Int)=1:=om;by_cases h2:k=2
  ·subst h2;obtain⟨t',ht'⟩:∃t',fk E s=some t':=by
    unfold jT at hkt;cases hl:fk E s with
    |none=>rw[hl]at hkt;simp at hkt
    |some u=>exact⟨u,rfl⟩
   obtain⟨i,hi1,hi2⟩:=tX ht';have hreg:mI s E=i:=by unfold mI;rw[hi1];rfl
   have hix:xF s E=(i:Int):=by unfold xF;rw[hi1]
   obtain⟨vn',vk',ln5,ln6,Ln,Lk,bn,bk⟩:=qR AK;have hcel:=(aT.cel1 Ln bn).1;simp only[Int.cast_ofNat_Int]at l0;simp only[sC,seval,t0,t1,t2,t24,t25,hlt',nc,f0,f1,l0,l1,az,aA,ln5];refine(uz hcel s om).mono ?_;rintro _ _ ⟨rfl,rfl⟩;rw[hix];simp only[sC,seval,t0,t1,t2];refine(dA AK 2 r i 0 om).mono ?_;rintro _ H3 ⟨rfl,O3,A3,F3⟩;simp only[sC,seval];refine⟨_,rfl,O3,?_,FK.trans F3⟩;have:je E 2 s n kids r (oi E kids r (x.use r))=Cs.put 2 r i 0 (oi E kids r (x.use r)):=by rw[<- hreg];rfl
   rw[this];exact A3
  have h2':¬(k:Int)=2:=om;by_cases h3:k=3
  ·subst h3;simp only[Int.cast_ofNat_Int]at l0;simp only[sC,seval,t0,t1,t2,t24,t25,hlt',nc,f0,l0];refine(EP hE hEl AK (by simpa using ptK) hp z1K z2K hok om om om om).mono ?_;rintro _ H3 ⟨O3,A3,F3⟩;simp only[sC,seval];exact⟨_,rfl,O3,A3,FK.trans F3⟩
  have h3':¬(k:Int)=3:=om;have h4:k=4:=by
   unfold jT at hkt;rw[if_neg h1,if_neg h2,if_neg h3]at hkt;by_cases h4:k=4
   ·exact h4
   ·rw[if_neg h4]at hkt;simp at hkt
  subst h4;have hct:js s ts=.ok t:=hkt;have hop:=Mg hct;have htl:=lF hts;rw[htl]at hop;obtain⟨wc,wd,wn,wk,mb2,mp2,AK⟩:=AK;have hcbK:=AK.oN _ AK.oc.1;obtain⟨H4,hH4⟩:∃J,J=K.push (.cells [.int .u8 0,.int .i64 0] 0 false):=⟨_,rfl⟩;have n4:H4.next=K.next+1:=by rw[hH4];rfl
  have g4:H4.get K.next=some (.cells [.int .u8 0,.int .i64 0] 0 false):=by rw[hH4,aa.get_push,if_pos rfl]
  have k4:∀c,c<K.next->H4.get c=K.get c:=λc hc=>by rw[hH4,aB hc]
  have A4:=AK.keep (H':=H4) om λc hc=>k4 c (AK.oN c hc).2;have lm:al false 1 H4 (ah cb 7 3)=some (.map (some mb2)):=aj A4.row rfl rfl;have l14:al false 1 H4 (fp p 1)=some (.str s):=(ptK.same (H':=H4) λa e=>k4 _ (by have:=hp a e;omega)).load (o:=1) rfl;have lk:=Eg gK A4.bl hop (.agg [.int .u8 0,.int .i64 0]);have cl4:ec H4 K.next _ none=some (ah K.next 2 0):=fG g4 rfl;obtain⟨H5,m5,r5,n5,k5⟩:=am (H:=H4) (b:=K.next) ⟨0,g4,Nat.zero_le _⟩ (n:=2) rfl (xs:=[.int .u8 (lQ s:Int),.int .i64 (kids.length:Int)]) rfl rfl;have l50:al false 1 H5 (ah K.next 2 0)=some (.int .u8 (lQ s:Int)):=aj r5 rfl rfl;have l51:al false 1 H5 (ah K.next 2 1)=some (.int .i64 (kids.length:Int)):=aj r5 rfl rfl;have A5:pi E (oi E kids r (x.use r)) cb n0 O1 H5:=⟨_,_,_,_,_,_,A4.keep om λc hc=>k5 c (by have:=AK.oN c hc;omega)⟩;have E5:aS K.next K H5:=⟨om,λc hc=>by rw[k5 c om,k4 c hc]⟩;have F5:fU O1 K O1 H5:=fU.exts E5;simp only[gK]at lk;simp only[Int.cast_ofNat_Int]at l0;simp only[sC,seval,t0,t1,t2,t24,t25,hlt',nc,f0,l0];refine er ?_;simp only[aH,dT,bp,iE,j6,<- hH4];simp only[sR,sC,seval,t0,t1,t2,nc,az,aA,lm,f1,l14,lk,gj,cl4,m5];simp only[ci,cj,bP,dE,cm,cQ,and_true,true_and,List.map_cons,List.map_nil,sC,seval];refine⟨⟨_,rfl,λ_=>⟨_,cl4,fS _ _ _⟩⟩,?_⟩;have hl4:je E 4 s n kids r (oi E kids r (x.use r))=Cs.put (lQ s) r r (if kids.length=2 then r+1 else 0) (oi E kids r (x.use r)):=rfl;rw[hl4];by_cases hk2:kids.length=2
  ·have hk2':(kids.length:Int)=2:=om;simp only[sC,seval,fld0,aA,l50,l51,hk2',t0,t1,t2,wr];rw[if_pos hk2];refine(dA A5 (lQ s) r r (r+1) om).mono ?_;rintro _ H6 ⟨rfl,O6,A6,F6⟩;simp only[sC,seval];exact⟨_,rfl,O6,A6,FK.trans (F5.trans F6)⟩
  ·have hk2':¬(kids.length:Int)=2:=om;simp only[sC,seval,fld0,aA,l50,l51,hk2',t0,t1,t2];rw[if_neg hk2];refine(dA A5 (lQ s) r r 0 om).mono ?_;rintro _ H6 ⟨rfl,O6,A6,F6⟩;simp only[sC,seval];exact⟨_,rfl,O6,A6,FK.trans (F5.trans F6)⟩
open Go.Abs Go.Abs.S
def xD:∀(N:Nat) {l:List St} {C:List ae} {v:ae} {P:Nat->Prop} {H:aa},au l<=N->N<=1000000->eM P H 9 v l.length C->lV P H l C->aq Tryz.prog aF 133 [v] H λu H'=>u=.bool (gt l)/\H=H':=by
 intro N;induction N with
 |zero=>
  intro l C v P H hsz hN z1 z2;have hl0:l=[]:=by
   cases l with
   |nil=>rfl
   |cons x l=>have:=ee x;simp only[au]at hsz;omega
  subst hl0;have ln:=z1.len;have h0:(([]:List St).length:Int)=0:=rfl;refine ak rfl JL rfl ?_;simp only[Jp,sC,seval,ln,h0];exact⟨tt,tt⟩
 |succ N ih=>
  intro l C v P H hsz hN z1 z2;have ln:=z1.len;by_cases hl0:l=[]
  ·subst hl0;have h0:(([]:List St).length:Int)=0:=rfl;refine ak rfl JL rfl ?_;simp only[Jp,sC,seval,ln,h0];exact⟨tt,tt⟩
  obtain⟨x,j,hj,he,hr⟩:=uF hl0;have hjl:j<l.length:=om;have hlen:=db l;have hn0:¬(l.length:Int)=0:=om;have wj:IntKind.i64.wrap ((l.length:Int)-1)=(j:Int):=iP;have ix:=z1.idx hjl;have pt:=z1.pt hjl;have hsm:=dl (XG he);have hx:=z2.at he;obtain⟨k,s,e,body,els,line⟩:=x;obtain⟨ce,vb,Cb,ve,Ce,hcell,x1,y1,y2,y3,y4⟩:=hx;obtain⟨c0,c1,c2,c3,rfl⟩:∃a b c d,ce=[a,b,c,d]:=by
   have:=x1.len
   match ce,this with
   | [a,b,c,d],_=>exact⟨a,b,c,d,rfl⟩
  rw[hcell]at pt;have hsz2:(St.mk k s e body els line).size=e.size+au body+au els+1:=rfl;have hrs:Ev (.mk k s e body els line)=(decide (k=5)||(decide (k=3)&&(gt body&&gt els))):=rfl;have nc:=pt.chk;have f0:=pt.fld0;have f6:=pt.fld 6;have f7:=pt.fld 7;have l0:al false 1 H (cz 9 v j)=some (.int .u8 (k:Int)):=pt.load0 rfl;have l6:al false 1 H (fp (cz 9 v j) 6)=some vb:=pt.load (o:=6) rfl;have l7:al false 1 H (fp (cz 9 v j) 7)=some ve:=pt.load (o:=7) rfl;rw[hr,hrs];refine ak rfl JL rfl ?_;by_cases h5:k=5
  ·subst h5;simp only[Jp,sC,seval,ln,hn0,wj,ix,nc,f0,l0,Int.cast_ofNat_Int];exact⟨tt,tt⟩
  have h5':¬(k:Int)=5:=om;by_cases h3:k=3
  ·subst h3;simp only[Jp,sC,seval,ln,hn0,wj,ix,nc,f0,l0,Int.cast_ofNat_Int,f6,l6];refine(ih om om y1 y2).mono ?_;rintro _ _ ⟨rfl,rfl⟩;cases hb:gt body with
   |false=>simp only[sC,seval];exact⟨tt,tt⟩
   |true=>simp only[sC,seval,nc,f7,l7];refine(ih om om y3 y4).mono ?_;rintro _ _ ⟨rfl,rfl⟩;simp only[sC,seval];exact⟨by simp,tt⟩
  ·have h3':¬(k:Int)=3:=om;simp only[Jp,sC,seval,ln,hn0,wj,ix,nc,f0,l0,h5',h3',h5,h3];exact⟨tt,tt⟩
set_option maxRecDepth 100000 in
def I5{H:aa}:aq Tryz.prog aF 44 [] H λu H'=>u=.map (some H.next)/\Vm H.next H'/\H'.next=H.next+1/\∀c,c≠H.next->H'.get c=H.get c:=by
 refine ak rfl Wu rfl ?_;have mm:kj .mkMap H []=some (.map (some H.next),H.push (.map [] 0)):=rfl;have q0:(H.push (.map [] 0)).get H.next=some (.map [] 0):=by rw[aa.get_push,if_pos rfl]
 have o0:∀b,b≠H.next->(H.push (.map [] 0)).get b=H.get b:=λb hb=>by rw[aa.get_push,if_neg hb]
 obtain⟨K1,m1,n1,q1,o1⟩:=bU (H:=H.push (.map [] 0)) (v:=.agg [.int .u8 17,.int .i64 3]) q0 (k:=[118,101,99]) rfl;have b0:aJ [.int .u8 0,.int .i64 0] [(0,1,.int .u8 17),(1,1,.int .i64 3)]=some (.agg [.int .u8 17,.int .i64 3]):=rfl;obtain⟨K2,m2,n2,q2,o2⟩:=bU (H:=K1) (v:=.agg [.int .u8 18,.int .i64 1]) q1 (k:=[120]) rfl;have b1:aJ [.int .u8 0,.int .i64 0] [(0,1,.int .u8 18),(1,1,.int .i64 1)]=some (.agg [.int .u8 18,.int .i64 1]):=rfl;obtain⟨K3,m3,n3,q3,o3⟩:=bU (H:=K2) (v:=.agg [.int .u8 19,.int .i64 1]) q2 (k:=[121]) rfl;have b2:aJ [.int .u8 0,.int .i64 0] [(0,1,.int .u8 19),(1,1,.int .i64 1)]=some (.agg [.int .u8 19,.int .i64 1]):=rfl;obtain⟨K4,m4,n4,q4,o4⟩:=bU (H:=K3) (v:=.agg [.int .u8 20,.int .i64 1]) q3 (k:=[122]) rfl;have b3:aJ [.int .u8 0,.int .i64 0] [(0,1,.int .u8 20),(1,1,.int .i64 1)]=some (.agg [.int .u8 20,.int .i64 1]):=rfl;obtain⟨K5,m5,n5,q5,o5⟩:=bU (H:=K4) (v:=.agg [.int .u8 21,.int .i64 2]) q4 (k:=[100,111,116]) rfl;have b4:aJ [.int .u8 0,.int .i64 0] [(0,1,.int .u8 21),(1,1,.int .i64 2)]=some (.agg [.int .u8 21,.int .i64 2]):=rfl;obtain⟨K6,m6,n6,q6,o6⟩:=bU (H:=K5) (v:=.agg [.int .u8 22,.int .i64 2]) q5 (k:=[99,114,111,115,115]) rfl;have b5:aJ [.int .u8 0,.int .i64 0] [(0,1,.int .u8 22),(1,1,.int .i64 2)]=some (.agg [.int .u8 22,.int .i64 2]):=rfl;obtain⟨K7,m7,n7,q7,o7⟩:=bU (H:=K6) (v:=.agg [.int .u8 23,.int .i64 1]) q6 (k:=[117,110,105,116]) rfl;have b6:aJ [.int .u8 0,.int .i64 0] [(0,1,.int .u8 23),(1,1,.int .i64 1)]=some (.agg [.int .u8 23,.int .i64 1]):=rfl;obtain⟨K8,m8,n8,q8,o8⟩:=bU (H:=K7) (v:=.agg [.int .u8 24,.int .i64 1]) q7 (k:=[115,113,114,116]) rfl;have b7:aJ [.int .u8 0,.int .i64 0] [(0,1,.int .u8 24),(1,1,.int .i64 1)]=some (.agg [.int .u8 24,.int .i64 1]):=rfl;obtain⟨K9,m9,n9,q9,o9⟩:=bU (H:=K8) (v:=.agg [.int .u8 25,.int .i64 1]) q8 (k:=[115,105,110]) rfl;have b8:aJ [.int .u8 0,.int .i64 0] [(0,1,.int .u8 25),(1,1,.int .i64 1)]=some (.agg [.int .u8 25,.int .i64 1]):=rfl;obtain⟨K10,m10,n10,q10,o10⟩:=bU (H:=K9) (v:=.agg [.int .u8 26,.int .i64 1]) q9 (k:=[99,111,115]) rfl;have b9:aJ [.int .u8 0,.int .i64 0] [(0,1,.int .u8 26),(1,1,.int .i64 1)]=some (.agg [.int .u8 26,.int .i64 1]):=rfl;obtain⟨K11,m11,n11,q11,o11⟩:=bU (H:=K10) (v:=.agg [.int .u8 27,.int .i64 1]) q10 (k:=[97,98,115]) rfl;have b10:aJ [.int .u8 0,.int .i64 0] [(0,1,.int .u8 27),(1,1,.int .i64 1)]=some (.agg [.int .u8 27,.int .i64 1]):=rfl;obtain⟨K12,m12,n12,q12,o12⟩:=bU (H:=K11) (v:=.agg [.int .u8 28,.int .i64 1]) q11 (k:=[102,108,111,111,114]) rfl;have b11:aJ [.int .u8 0,.int .i64 0] [(0,1,.int .u8 28),(1,1,.int .i64 1)]=some (.agg [.int .u8 28,.int .i64 1]):=rfl;obtain⟨K13,m13,n13,q13,o13⟩:=bU (H:=K12) (v:=.agg [.int .u8 29,.int .i64 2]) q12 (k:=[109,105,110]) rfl;have b12:aJ [.int .u8 0,.int .i64 0] [(0,1,.int .u8 29),(1,1,.int .i64 2)]=some (.agg [.int .u8 29,.int .i64 2]):=rfl;obtain⟨K14,m14,n14,q14,o14⟩:=bU (H:=K13) (v:=.agg [.int .u8 30,.int .i64 2]) q13 (k:=[109,97,120]) rfl;have b13:aJ [.int .u8 0,.int .i64 0] [(0,1,.int .u8 30),(1,1,.int .i64 2)]=some (.agg [.int .u8 30,.int .i64 2]):=rfl;obtain⟨K15,m15,n15,q15,o15⟩:=bU (H:=K14) (v:=.agg [.int .u8 31,.int .i64 2]) q14 (k:=[115,97,109,112,108,101]) rfl;have b14:aJ [.int .u8 0,.int .i64 0] [(0,1,.int .u8 31),(1,1,.int .i64 2)]=some (.agg [.int .u8 31,.int .i64 2]):=rfl;simp only[c44,sC,seval,mm,b0,b1,b2,b3,b4,b5,b6,b7,b8,b9,b10,b11,b12,b13,b14,m1,m2,m3,m4,m5,m6,m7,m8,m9,m10,m11,m12,m13,m14,m15];refine⟨tt,q15,?_,λb hb=>?_⟩
 ·rw[n15,n14,n13,n12,n11,n10,n9,n8,n7,n6,n5,n4,n3,n2,n1];rfl
 ·rw[o15 b hb,o14 b hb,o13 b hb,o12 b hb,o11 b hb,o10 b hb,o9 b hb,o8 b hb,o7 b hb,o6 b hb,o5 b hb,o4 b hb,o3 b hb,o2 b hb,o1 b hb,o0 b hb]
open Go.Abs Go.Abs.S
mutual
def uN(E:aO):∀(e:Ex) (r:Nat) (x:Cs),x.code.length<=(cE E e r x).code.length
 | .mk k s n kids,r,x=>by
  have g:=C6 E kids r (x.use r);have u1:(x.use r).code=x.code:=rfl;rw[u1]at g;have h:∀y:Cs,y.code.length<=(je E k s n kids r y).code.length:=by
   intro y;obtain⟨h1,_,_⟩:=rC n y;unfold je
   repeat' split
   all_goals first|(simp only[Cs.put,lA,h1];omega)|exact Nat.le_refl _
  exact Nat.le_trans g (h _)
def C6(E:aO):∀(l:List Ex) (r:Nat) (x:Cs),x.code.length<=(oi E l r x).code.length
 | [],_,x=>Nat.le_refl _
 |e::l,r,x=>Nat.le_trans (uN E e r x) (C6 E l (r+1) _)
end
def iG(o a b c:Nat)(x:Cs):(x.put o a b c).code.length=x.code.length+1/\(x.put o a b c).cons=x.cons:=by simp[Cs.put]
def hU(i:Nat)(x:Cs):(x.land i).code.length=x.code.length/\(x.land i).cons=x.cons:=by simp[Cs.land,oV]
mutual
def OU(E:aO):∀(s:St) (x:Cs),x.code.length<=(cS E s x).code.length
 | .mk k s e body els line,x=>by
  have h:=uN E e E.length x;have b:=iS E body ((cE E e E.length x).put 33 E.length 0 0);rw[(iG _ _ _ _ _).1]at b;simp only[cS];split
  ·exact h
  split
  ·rw[(iG _ _ _ _ _).1];omega
  split
  ·split
   ·rw[(hU _ _).1];omega
   split
   ·have c:=iS E els ((cL E body ((cE E e E.length x).put 33 E.length 0 0)).land (cE E e E.length x).code.length);rw[(hU _ _).1]at c;omega
   ·have c:=iS E els (((cL E body ((cE E e E.length x).put 33 E.length 0 0)).put 32 0 0 0).land (cE E e E.length x).code.length);rw[(hU _ _).1,(iG _ _ _ _ _).1]at c;rw[(hU _ _).1];omega
  split
  ·rw[(hU _ _).1,(iG _ _ _ _ _).1];omega
  ·rw[(iG _ _ _ _ _).1];omega
def iS(E:aO):∀(l:List St) (x:Cs),x.code.length<=(cL E l x).code.length
 | [],x=>Nat.le_refl _
 |s::l,x=>Nat.le_trans (OU E s x) (iS (eo E s) l _)
end
def oZ{E E':aO}{k:Nat}{s:Bs}{e:Ex}{body els:List St}{line:Int}(h:xJ E (.mk k s e body els line)=.ok E'):∃t,lB E e=.ok t/\dc E k s t=.ok E'/\(∃F,ft E' false body=.ok F)/\∃F,ft E' false els=.ok F:=by
 simp only[xJ,Ba]at h;cases ht:lB E e with
 |error f=>rw[ht]at h;simp at h
 |ok t=>
  rw[ht]at h;simp only at h;cases hh:dc E k s t with
  |error f=>rw[hh]at h;simp at h
  |ok E2=>
   rw[hh]at h;simp only at h;cases hb:ft E2 false body with
   |error f=>rw[hb]at h;simp at h
   |ok F=>
    rw[hb]at h;simp only at h;cases hl:ft E2 false els with
    |error f=>rw[hl]at h;simp at h
    |ok F2=>rw[hl]at h;simp only[Except.ok.injEq]at h;subst h;exact⟨t,rfl,hh,⟨F,hb⟩,F2,hl⟩
def p8{E E':aO}{k:Nat}{s:Bs}{t:Nat}(h:dc E k s t=.ok E'):E'=if k=1 then E++[(s,t)]else E:=by
 unfold dc at h
 repeat' split at h
 all_goals first
  |(simp at h;done)
  |(simp only[Except.ok.injEq]at h;subst h;simp_all)
def Ma{E E':aO}{x:St}(h:xJ E x=.ok E'):E'=eo E x:=by
 obtain⟨k,s,e,body,els,line⟩:=x;obtain⟨t,h1,h2,_,_⟩:=oZ h;rw[p8 h2];simp only[eo];by_cases hk:k=1
 ·rw[if_pos hk,if_pos hk];unfold ef;rw[h1]
 ·rw[if_neg hk,if_neg hk]
def HB{E E':aO}(hE:kW E){x:St}(h:xJ E x=.ok E'):kW E':=by obtain⟨k,s,e,body,els,line⟩:=x;obtain⟨t,h1,h2,_,_⟩:=oZ h;exact td hE (qB hE h1) h2
def CW{E:aO}{b:Bool}{x:St}{l:List St}{F:aO}(h:ft E b (x::l)=.ok F):xJ E x=.ok (eo E x)/\∃b',ft (eo E x) b' l=.ok F:=by
 simp only[ft]at h;cases b with
 |true=>simp at h
 |false=>
  simp only[XJ,if_false]at h;cases hx:xJ E x with
  |error f=>rw[hx]at h;simp at h
  |ok E'=>rw[hx]at h;rw[Ma hx]at h ⊢;exact⟨rfl,_,h⟩
def QW{E:aO}{x:Cs}{cb n0:Nat}{O:Nat->Prop}{vc vd vn vk:ae}{mb mp:Nat}{H1 Hr:aa}(A:Pq E x cb n0 O vc vd vn vk mb mp H1)(hHr:Hr=(H1.push (.cells [] 0 false)).push (.cells [] 0 false))(s:Bs)(t:Nat)(hEl:E.length<=100000) :
  ∃H2 vn' H3 H4 vk' H5 H6 H7,kj (.fill H1.next (.lit 1 [.str []] [(0,1)])) Hr [.str s]=some (.slice (some ⟨H1.next,1,0⟩) 1 (.known 1),H2)/\a8 1 16 H2 vn (.slice (some ⟨H1.next,1,0⟩) 1 (.known 1))=some (vn',H3) /\
   kj (.fill (H1.next+1) (.lit 1 [.int .u8 0] [(0,1)])) H3 [co t]=some (.slice (some ⟨H1.next+1,1,0⟩) 1 (.known 1),H4)/\a8 1 1 H4 vk (.slice (some ⟨H1.next+1,1,0⟩) 1 (.known 1))=some (vk',H5) /\
   bh 1 H5 (ah cb 7 5) vn'=some H6/\bh 1 H6 (ah cb 7 6) vk'=some H7 /\
   (al false 1 Hr (ah cb 7 5)=some vn/\al false 1 Hr (ah cb 7 6)=some vk/\al false 1 H2 (ah cb 7 5)=some vn/\al false 1 H2 (ah cb 7 6)=some vk/\al false 1 H3 (ah cb 7 6)=some vk/\al false 1 H4 (ah cb 7 6)=some vk) /\
   (∀c,cg vn=some c->H1.next+1≠c)/\(∀c,cg vn'=some c->H1.next+1≠c)/\(∀c,c<H1.next->Hr.get c=H1.get c) /\
   ∃O',pi (E++[(s,t)]) x cb n0 O' H7/\fU O H1 O' H7:=by
 have hcb:=A.oN _ A.oc.1;have hmb:=A.oN _ A.oc.2.1;have hmp:=A.oN _ A.oc.2.2;have nr:Hr.next=H1.next+2:=by rw[hHr];rfl
 have kr:∀c,c<H1.next->Hr.get c=H1.get c:=λc hc=>by rw[hHr,aa.get_push,if_neg (by rw[aV];omega),aB hc]
 have gr0:Hr.get H1.next=some (.cells [] 0 false):=by rw[hHr,aa.get_push,if_neg (by rw[aV];omega),aa.get_push,if_pos rfl]
 have gr1:Hr.get (H1.next+1)=some (.cells [] 0 false):=by rw[hHr,aa.get_push,if_pos (by rw[aV])]
 have bN:=A.ln.blk;have bK:=A.lk.blk;have bC:=A.lc.blk;have bD:=A.ld.blk;obtain⟨H2,fl1,n2,g2,k2⟩:=ju gr0 (len:=1) (z:=[.str []]) (ofs:=[(0,1)]) (l:=[.str s]) (xs:=[.str s]) rfl;have k02:∀c,c<H1.next->H2.get c=H1.get c:=λc hc=>by rw[k2 c om,kr c hc]
 have s2:gz 1 H2 (.slice (some ⟨H1.next,1,0⟩) 1 (.known 1))=some (1,[.str s]):=kz g2;have ln2:aT 1 H2 vn (gh E) E.length:=A.ln.same om (bN.mono λb hb=>k02 b hb);obtain⟨vn',H3,a3,L3,n3,b3,k3⟩:=ln2.many s2 rfl rfl om (bytes:=16) om om;have bcb:bx vn (cb≠·):=A.bn.mono λb hb=>hb.2.1.symm;have r2:be H2 cb [vc,.int .i64 (x.regs:Int),vd,.map (some mb),.map (some mp),vn,vk]:=A.row.same (k02 cb hcb.2);have rr:be Hr cb [vc,.int .i64 (x.regs:Int),vd,.map (some mb),.map (some mp),vn,vk]:=A.row.same (kr cb hcb.2);have r3:be H3 cb [vc,.int .i64 (x.regs:Int),vd,.map (some mb),.map (some mp),vn,vk]:=r2.same (k3 cb om bcb);have gr13:H3.get (H1.next+1)=some (.cells [] 0 false):=by rw[k3 _ om (bN.mono λb hb=>om),k2 _ om];exact gr1
 obtain⟨H4,fl2,n4,g4,k4⟩:=ju gr13 (len:=1) (z:=[.int .u8 0]) (ofs:=[(0,1)]) (l:=[co t]) (xs:=[co t]) rfl;have s4:gz 1 H4 (.slice (some ⟨H1.next+1,1,0⟩) 1 (.known 1))=some (1,[co t]):=kz g4;have lk4:aT 1 H4 vk (iu E) E.length:=A.lk.same om λa j r e=>by have h1:=bK a j r e;show H4.get a.b=H1.get a.b;rw[k4 _ om,k3 _ om (A.nk.symm a j r e),k02 _ h1]
 obtain⟨vk',H5,a5,L5,n5,b5,k5⟩:=lk4.many s4 rfl rfl om (bytes:=1) om om;have ckb:bx vk (cb≠·):=A.bk.mono λb hb=>hb.2.1.symm;have r4:=r3.same (H':=H4) (k4 cb om);have r5:=r4.same (H':=H5) (k5 cb om ckb);obtain⟨H6,m6,r6,n6,k6⟩:=bQ r5 (n:=7) rfl (i:=5) om (x:=vn') L3.one (l':=[vc,.int .i64 (x.regs:Int),vd,.map (some mb),.map (some mp),vn',vk]) rfl;obtain⟨H7,m7,r7,n7,k7⟩:=bQ r6 (n:=7) rfl (i:=6) om (x:=vk') L5.one (l':=[vc,.int .i64 (x.regs:Int),vd,.map (some mb),.map (some mp),vn',vk']) rfl;have bv3:=b3 (λx=>x<H1.next/\(O x/\x≠cb/\x≠mb/\x≠mp)/\bx vk (x≠·)) (λa j r e=>⟨bN a j r e,A.bn a j r e,A.nk a j r e⟩);have bv5:=b5 (λx=>x<H1.next/\(O x/\x≠cb/\x≠mb/\x≠mp)) (λa j r e=>⟨bK a j r e,A.bk a j r e⟩);have hL3:=L3.blk;have hL5:=L5.blk;rw[ux E s t]at L3;rw[uy]at L5;have hEl2:(E++[(s,t)]).length=E.length+1:=by simp
 have kn:bx vn' λc=>H7.get c=H3.get c:=λa j r e=>by
  have h3:=hL3 a j r e;have hc:=bv3 a j r e;have hb:a.b≠cb:=by
   rcases hc with⟨_,⟨_,hc,_⟩,_⟩|hc
   ·exact hc
   ·omega
  have hv:bx vk (a.b≠·):=by
   rcases hc with⟨_,_,hc⟩|hc
   ·exact hc
   ·exact bK.mono λb hb=>om
  have h1:a.b≠H1.next+1:=by rcases hc with⟨hc,_⟩|hc<;>omega
  show H7.get a.b=H3.get a.b;rw[k7 _ hb,k6 _ hb,k5 _ om hv,k4 _ h1]
 have kk:bx vk' λc=>H7.get c=H5.get c:=λa j r e=>by
  have hc:=bv5 a j r e;have hb:a.b≠cb:=by
   rcases hc with⟨_,_,hc,_⟩|hc
   ·exact hc
   ·omega
  show H7.get a.b=H5.get a.b;rw[k7 _ hb,k6 _ hb]
 have old:∀c,c<H1.next->c≠cb->bx vn (c≠·)->bx vk (c≠·)->H7.get c=H1.get c:=λc h1 h2 h3 h4=>by rw[k7 c h2,k6 c h2,k5 c om h4,k4 c om,k3 c om h3,k02 c h1]
 have same:∀{w:ae},bx w (λb=>O b/\b≠cb/\b≠mb/\b≠mp)->Dj w vn->Dj w vk->bx w λc=>H7.get c=H1.get c:=λh d d2 a j r e=>old _ (A.oN _ (h a j r e).1).2 (h a j r e).2.1 (d a j r e) (d2 a j r e);have mono:∀{w:ae},bx w (λb=>O b/\b≠cb/\b≠mb/\b≠mp)->bx w (λb=>OX O H1.next H7.next b/\b≠cb/\b≠mb/\b≠mp):=λh=>h.mono λc hc=>⟨.inl hc.1,hc.2⟩;have hbl:∀{w:ae},bx w (λb=>O b/\b≠cb/\b≠mb/\b≠mp)->bx w (·<H2.next):=λh=>h.mono λc hc=>by have:=(A.oN c hc.1).2;omega
 have hbl4:∀{w:ae},bx w (λb=>O b/\b≠cb/\b≠mb/\b≠mp)->bx w (·<H4.next):=λh=>h.mono λc hc=>by have:=(A.oN c hc.1).2;omega
 have bmb:bx vn (mb≠·):=A.bn.mono λb hb=>hb.2.2.1.symm;have bmp:bx vn (mp≠·):=A.bn.mono λb hb=>hb.2.2.2.symm;have kmb:bx vk (mb≠·):=A.bk.mono λb hb=>hb.2.2.1.symm;have kmp:bx vk (mp≠·):=A.bk.mono λb hb=>hb.2.2.2.symm;refine⟨H2,vn',H3,H4,vk',H5,H6,H7,fl1,a3,fl2,a5,m6,m7,⟨aj rr rfl rfl,aj rr rfl rfl,aj r2 rfl rfl,aj r2 rfl rfl,aj r3 rfl rfl,aj r4 rfl rfl⟩,?_,?_,kr,OX O H1.next H7.next,⟨vc,vd,vn',vk',mb,mp,
  r7,A.lc.same om (same A.bc A.cn A.ck),A.ld.same om (same A.bd A.dn A.dk),by rw[hEl2];exact L3.same om kn,by rw[hEl2];exact L5.same om kk,(old _ hmb.2 A.ne.1.symm bmb kmb).trans A.bl,(old _ hmp.2 A.ne.2.1.symm bmp kmp).trans A.pl,
  ⟨.inl A.oc.1,.inl A.oc.2.1,.inl A.oc.2.2⟩,A.ne,?_,mono A.bc,mono A.bd,?_,?_,A.cd,(A.cn.symm.fresh b3 (hbl A.bc)).symm,(A.ck.symm.fresh b5 (hbl4 A.bc)).symm,(A.dn.symm.fresh b3 (hbl A.bd)).symm,(A.dk.symm.fresh b5 (hbl4 A.bd)).symm,?_⟩,om,?_,?_⟩
 ·intro c hc;have:=fh bN A.ln c hc;omega
 ·intro c hc;have:=fh bv3 L3 c hc;rcases this with⟨this,_⟩|this<;>omega
 ·intro c hc;rcases hc with hc|hc
  ·have:=A.oN c hc;omega
  ·omega
 ·intro a j r e;have h3:=hL3 a j r e;have hc:=bv3 a j r e;rcases hc with⟨_,hc,_⟩|hc
  ·exact⟨.inl hc.1,hc.2⟩
  ·exact⟨.inr ⟨om,om⟩,om,om,om⟩
 ·intro a j r e;have h5:=hL5 a j r e;have hc:=bv5 a j r e;rcases hc with⟨_,hc⟩|hc
  ·exact⟨.inl hc.1,hc.2⟩
  ·exact⟨.inr ⟨om,om⟩,om,om,om⟩
 ·intro a j r e;have h3:=hL3 a j r e;have hc:=bv3 a j r e;refine(b5 (a.b≠·) ?_).mono λx hx=>?_
  ·rcases hc with⟨_,_,hc⟩|hc
   ·exact hc
   ·exact bK.mono λb hb=>om
  ·rcases hx with hx|hx
   ·exact hx
   ·omega
 ·intro c h1 h2;exact old c h1 (λe=>h2 (e ▸ A.oc.1)) (A.bn.mono λd hd e=>h2 (e ▸ hd.1)) (A.bk.mono λd hd e=>h2 (e ▸ hd.1))
 ·intro c hc;rcases hc with hc|hc
  ·exact .inl hc
  ·exact .inr hc.1
open Go.Abs Go.Abs.S
def KL(N:Nat):Prop:=∀{l:List St} {C:List ae} {v:ae} {E F:aO} {b:Bool} {x:Cs} {cb n0:Nat} {O:Nat->Prop} {H:aa},au l<=N->pi E x cb n0 O H->eM (·<n0) H 9 v l.length C->dY (·<n0) H l C->cA l=true->au l<=1000->bw l<=40->kW E->ft E b l=.ok F ->
 x.code.length+3*au l<=40000->x.cons.length+au l<=40000->E.length+au l<=40000->aq Tryz.prog aF 45 [ah cb 7 0,v] H λ_ H'=>∃O',pi E (cL E l x) cb n0 O' H'/\fU O H O' H'
def DX{H:aa}:aq Tryz.prog aF 132 [] H λ_ H'=>H=H':=by refine ak rfl TC rfl ?_;simp only[UZ,sC,seval];exact⟨_,rfl,rfl⟩
def Um{P:Nat->Prop}{p:ae}(hp:∀a,p=.ptr (some a)->P a.b)(o:Nat):∀a,fp p o=.ptr (some a)->P a.b:=by
 intro a e;unfold fp at e;split at e
 ·simp only[ae.ptr.injEq,sJ]at e;have q:=hp _ rfl;rw[<- e];exact q
 ·simp[cF]at e
def fU.not{O O':Nat->Prop}{H H':aa}(f:fU O H O' H'){c:Nat}(h1:c<H.next)(h2:¬O c):¬O' c:=λh=>by
 rcases f.own c h with h|h
 ·exact h2 h
 ·omega
def Ll{N:Nat}(ih:∀M,M<N->KL M){k:Nat}{s:Bs}{e:Ex}{body els:List St}{line:Int}{ce Cb Ce:List ae}{vb ve p:ae}{E E':aO}{x:Cs}{cb n0:Nat}{O:Nat->Prop}{H:aa}
  (hsz:(St.mk k s e body els line).size<=N) (A:pi E x cb n0 O H) (pt:mS H p (.int .u8 (k:Int)::.str s::(ce++[vb,ve,.int .i64 line]))) (hp:∀a,p=.ptr (some a)->a.b<n0) (hx:mL (·<n0) H e ce)
  (y1:eM (·<n0) H 9 vb body.length Cb) (y2:dY (·<n0) H body Cb) (y3:eM (·<n0) H 9 ve els.length Ce) (y4:dY (·<n0) H els Ce) (hok:Bb (.mk k s e body els line)=true) (hs:(St.mk k s e body els line).size<=1000) (hd:(St.mk k s e body els line).deep<=40)
  (hE:kW E) (hck:xJ E (.mk k s e body els line)=.ok E') (hc1:x.code.length+3*(St.mk k s e body els line).size<=40000) (hc2:x.cons.length+(St.mk k s e body els line).size<=40000) (hc3:E.length+(St.mk k s e body els line).size<=40000) :
  aq Tryz.prog aF 87 [ah cb 7 0,p] H λ_ H'=>∃O',pi (eo E (.mk k s e body els line)) (cS E (.mk k s e body els line) x) cb n0 O' H'/\fU O H O' H':=by
 obtain⟨hlf,hokE,hokB,hokL⟩:=oT hok;have hk5:=uE hlf;have hS:(St.mk k s e body els line).size=e.size+au body+au els+1:=rfl;have hD:(St.mk k s e body els line).deep=max e.deep (max (bw body) (bw els))+1:=rfl;obtain⟨t,hty,hhd,⟨Fb,hFb⟩,Fl,hFl⟩:=oZ hck;have hnx:=p8 hhd;obtain⟨c0,c1,c2,c3,rfl⟩:∃a b c d,ce=[a,b,c,d]:=by
  have:=hx.len
  match ce,this with
  | [a,b,c,d],_=>exact⟨a,b,c,d,rfl⟩
 have hcb:=A.lt;have hON:=A.oN;have nc:=pt.chk;have g0:=pt.fld0;have g1:=pt.fld 1;have g2:=pt.fld 2;have g6:=pt.fld 6;have g7:=pt.fld 7;have pe:mS H (fp p 2) [c0,c1,c2,c3]:=pt.part (o:=2) (k:=4) (by simp);obtain⟨vn,vk,ln5,ln6,Ln,Lk,bn,bk⟩:=qR A;have lnn:=Ln.len;obtain⟨vd,l2,Ld⟩:∃vd,al false 1 H (ah cb 7 2)=some vd/\aT 4 H vd (jo x.code) x.code.length:=by obtain⟨vc,vd,vn,vk,mb,mp,A⟩:=A;exact⟨vd,aj A.row rfl rfl,A.ld⟩
 have ldd:=Ld.len;refine ak rfl V1 rfl ?_;simp only[c87,sC,seval,az,fld0,aA,ln5,lnn,l2,ldd,nc,g2];refine(wg hE om e.size rL A pe (Um (P:=(·<n0)) hp 2) hx hokE hty om om ⟨om,om⟩ om).mono ?_;rintro _ H1 ⟨O1,A1,F1⟩;obtain⟨q1,q2,q3⟩:=AO E e E.length x;have q4:=uN E e E.length x;obtain⟨y,hy⟩:∃y,y=cE E e E.length x:=⟨_,rfl⟩;rw[<- hy]at A1 q1 q2 q3 q4;have e1:=F1.next;have low:∀{O2:Nat->Prop} {K:aa},fU O H O2 K->∀c,c<n0->K.get c=H.get c:=λF c hc=>F.old c om λq=>by have:=hON c q;omega
 have ptK:∀{O2:Nat->Prop} {K:aa},fU O H O2 K->mS K p _:=λF=>pt.same λa ea=>low F _ (hp a ea);have l0:al false 1 H1 p=some (.int .u8 (k:Int)):=(ptK F1).load0 rfl;have l1:al false 1 H1 (fp p 1)=some (.str s):=(ptK F1).load (o:=1) rfl;have ld6:∀{O2:Nat->Prop} {K:aa},fU O H O2 K->al false 1 K (fp p 6)=some vb:=λF=>(ptK F).load (o:=6) rfl;have ld7:∀{O2:Nat->Prop} {K:aa},fU O H O2 K->al false 1 K (fp p 7)=some ve:=λF=>(ptK F).load (o:=7) rfl;have km:∀{O2:Nat->Prop} {K:aa},fU O H O2 K->∀c,c<n0->c<n0/\K.get c=H.get c:=λF c hc=>⟨hc,low F c hc⟩;have nxE:k≠1->E'=E:=λh=>by rw[hnx,if_neg h]
 simp only[sC,seval,nc,g0,l0];rcases hk5 with rfl|rfl|rfl|rfl|rfl
 ·-- let
  have hcS:cS E (.mk 1 s e body els line) x=y:=by rw[hy];rfl
  have hnn:eo E (.mk 1 s e body els line)=E++[(s,t)]:=by
   have:ef E e=t:=by unfold ef;rw[hty]
   rw[<- this];rfl
  rw[hcS,hnn];obtain⟨vc1,vd1,vn1,vk1,mb1,mp1,A1⟩:=A1;have hON1:=A1.oN;have le:al true 4 H1 (fp p 2)=some (.agg [c0,c1,c2,c3]):=by obtain⟨a,ea,hrd⟩:=(ptK F1).part (o:=2) (k:=4) (by simp);rw[ea];simp only[al];have hrd':bH H1 a 4=some [c0,c1,c2,c3]:=hrd;rw[hrd'];rfl
  have l15:al false 1 H1 (ah cb 7 5)=some vn1:=aj A1.row rfl rfl;have l16:al false 1 H1 (ah cb 7 6)=some vk1:=aj A1.row rfl rfl;simp only[sC,seval,Int.cast_ofNat_Int,nc,g2,le,az,aA,l15,l16];refine(vA hE om A1.ln A1.lk A1.ln.blk A1.lk.blk rL om (hx.mono (km F1)) hokE om om).mono ?_;rintro _ H2 ⟨rfl,E2⟩;rw[hty];have e2:=E2.next;have A2:=A1.keep E2.next λc hc=>E2.old c (hON1 c hc).2;have F02:=F1.trans (fU.exts E2);obtain⟨Hr,hHr⟩:∃J,J=(H2.push (.cells [] 0 false)).push (.cells [] 0 false):=⟨_,rfl⟩;obtain⟨H3,vn',H4,H5,vk',H6,H7,H8,fl1,a3,fl2,a5,m6,m7,⟨u1,u2,u3,u4,u5,u6⟩,ap1,ap2,kr,O8,A8,F8⟩:=QW A2 hHr s t om;have ptr:mS Hr p _:=(ptK F02).same λa ea=>kr _ (by have:=hp a ea;omega);have qr1:al false 1 Hr (fp p 1)=some (.str s):=ptr.load (o:=1) rfl;have apN:∀{x:ae},(∀c,cg x=some c->H2.next+1≠c)->mV .apart [.slice (some ⟨H2.next+1,1,0⟩) 1 (.known 1),x]=some (.bool true):=λh=>jH (pa _ h);have p1:=apN (x:=.slice (some ⟨H2.next,1,0⟩) 1 (.known 1)) λc hc=>by simp only[cg,sJ]at hc;omega
  have p2:=apN (x:=ah cb 7 5) λc hc=>by simp only[cg,ah,sJ]at hc;omega
  have p3:=apN (x:=ah cb 7 6) λc hc=>by simp only[cg,ah,sJ]at hc;omega
  have p4:=apN (x:=fp p 1) λc hc=>by have:c<n0:=y6 (P:=(·<n0)) hp 1 c hc;omega
  have p5:=apN (x:=vn1) ap1;have p6:=apN (x:=vn') ap2;have aN:=aT.aeq A2.ln;have aK:=aT.aeq A2.lk;simp only[sC,seval,oJ,bv,bu];refine er ?_;simp only[aH,dT,bp,iE,jF,<- hHr];simp only[sR,sC,seval,nc,az,fld0,aA,u1,g1,qr1,fl1,a3,u5,fl2,a5,m6,m7];simp only[ci,cj,bP,dE,cm,cQ,and_true,true_and,List.map_cons,List.map_nil,sC,seval,nc,az,fld0,aA];refine⟨⟨⟨_,rfl,λ_=>⟨_,u3,aN⟩⟩,⟨_,rfl,λ_=>⟨_,u2,aK⟩⟩,⟨_,rfl,λ_=>⟨_,u4,aK⟩⟩,⟨_,rfl,λ_=>⟨_,u6,aK⟩⟩⟩,?_⟩;simp only[sC,seval,p1,p2,p3,p4,p5,p6];exact⟨_,rfl,O8,A8,F02.trans F8⟩
 ·have hEE:=nxE dD;subst hEE;have hcS:cS E' (.mk 2 s e body els line) x=y.put 2 (mI s E') E'.length 0:=by rw[hy];rfl
  have hnn:eo E' (.mk 2 s e body els line)=E':=rfl;rw[hcS,hnn];obtain⟨i,hi1⟩:∃i,bB s E'=some i:=by
   cases hf:bB s E' with
   |some i=>exact⟨i,rfl⟩
   |none=>simp[dc,hf]at hhd
  have hreg:mI s E'=i:=by unfold mI;rw[hi1];rfl
  have hix:xF s E'=(i:Int):=by unfold xF;rw[hi1]
  obtain⟨vn',vk',ln5',ln6',Ln',Lk',bn',bk'⟩:=qR A1;have hcel:=(aT.cel1 Ln' bn').1;simp only[sC,seval,Int.cast_ofNat_Int,nc,az,aA,ln5',g1,l1];refine(uz hcel s om).mono ?_;rintro _ _ ⟨rfl,rfl⟩;rw[hix,hreg];simp only[sC,seval];refine(dA A1 2 i E'.length 0 om).mono ?_;rintro _ H3 ⟨rfl,O3,A3,F3⟩;simp only[sC,seval];exact⟨_,rfl,O3,A3,F1.trans F3⟩
 ·have hEE:=nxE dD;subst hEE;have hcS:cS E' (.mk 3 s e body els line) x=(if els.length=0 then(cL E' body (y.put 33 E'.length 0 0)).land y.code.length else if gt body then cL E' els ((cL E' body (y.put 33 E'.length 0 0)).land y.code.length)
   else(cL E' els (((cL E' body (y.put 33 E'.length 0 0)).put 32 0 0 0).land y.code.length)).land (cL E' body (y.put 33 E'.length 0 0)).code.length):=by rw[hy];rfl
  have hnn:eo E' (.mk 3 s e body els line)=E':=rfl;rw[hcS,hnn];simp only[sC,seval,Int.cast_ofNat_Int];refine(pX A1 33 E'.length om).mono ?_;rintro _ H2 ⟨O2,jb,sb,rfl,j1,j2,s1,s2,jO,sO,rj,rs,A2,F2⟩;have F02:=F1.trans F2;have e2:=F2.next;obtain⟨p1,p2⟩:=iG 33 E'.length 0 0 y;simp only[sC,seval,nc,g6,ld6 F02];refine(ih (au body) om rL A2 (y1.mono (km F02)) (y2.mono (km F02)) hokB om om hE hFb om (by rw[p2];omega) om).mono ?_;rintro _ H3 ⟨O3,A3,F3⟩;have F03:=F02.trans F3;have e3:=F3.next;obtain⟨b1,b2,b3⟩:=mB E' body (y.put 33 E'.length 0 0);have b4:=iS E' body (y.put 33 E'.length 0 0);obtain⟨z,hz⟩:∃z,z=cL E' body (y.put 33 E'.length 0 0):=⟨_,rfl⟩;rw[<- hz]at A3 b1 b2 b3 b4 ⊢;rw[p1]at b1 b4;rw[p2]at b2;have rj3:=rj.same (F3.old jb j2 jO);have rs3:=rs.same (F3.old sb s2 sO);have jO3:=F3.not j2 jO;have sO3:=F3.not s2 sO;have lel:=(y3.mono (km F03)).len;by_cases h0:els.length=0
  ·have h0':(els.length:Int)=0:=om;simp only[sC,seval,nc,g7,ld7 F03,lel,h0'];rw[if_pos h0];refine(jf A3 rj3 rs3 om).mono ?_;rintro _ H4 ⟨A4,n4,k4⟩;simp only[sC,seval];exact⟨_,rfl,O3,A4,F03.trans ⟨om,λc _ hc=>k4 c hc,λ_ h=>.inl h⟩⟩
  ·have h0':¬(els.length:Int)=0:=om;rw[if_neg h0];simp only[sC,seval,nc,g7,ld7 F03,lel,h0',g6,ld6 F03];refine(xD (au body) rL om (y1.mono (km F03)) (y2.xss.mono (km F03))).mono ?_;rintro _ _ ⟨rfl,rfl⟩;obtain⟨z1,z2⟩:=hU y.code.length z;cases hr:gt body with
   |true=>rw[if_pos rfl];simp only[sC,seval];refine(jf A3 rj3 rs3 om).mono ?_;rintro _ H4 ⟨A4,n4,k4⟩;have F04:fU O H O3 H4:=F03.trans ⟨om,λc _ hc=>k4 c hc,λ_ h=>.inl h⟩;simp only[sC,seval,nc,g7,ld7 F04];refine(ih (au els) om rL A4 (y3.mono (km F04)) (y4.mono (km F04)) hokL om om hE hFl om (by rw[z2];omega) om).mono ?_;rintro _ H5 ⟨O5,A5,F5⟩;simp only[sC,seval];refine DX.mono ?_;rintro _ _ rfl;simp only[sC,seval];exact⟨_,rfl,O5,A5,F04.trans F5⟩
   |false=>rw[if_neg (by simp)];simp only[sC,seval];refine(pX A3 32 0 om).mono ?_;rintro _ H4 ⟨O4,jc,sc,rfl,i1,i2,v1,v2,iO,vO,ri,rv,A4,F4⟩;obtain⟨w1,w2⟩:=iG 32 0 0 0 z;have e4:=F4.next;have F04:=F03.trans F4;have rj4:=rj3.same (F4.old jb om jO3);have rs4:=rs3.same (F4.old sb om sO3);simp only[sC,seval];refine(jf A4 rj4 rs4 om).mono ?_;rintro _ H5 ⟨A5,n5,k5⟩;have F45:fU O4 H4 O4 H5:=⟨om,λc _ hc=>k5 c hc,λ_ h=>.inl h⟩;have F05:=F04.trans F45;have ri5:=ri.same (k5 _ iO);have rv5:=rv.same (k5 _ vO);obtain⟨u1,u2⟩:=hU y.code.length (z.put 32 0 0 0);simp only[sC,seval,nc,g7,ld7 F05];refine(ih (au els) om rL A5 (y3.mono (km F05)) (y4.mono (km F05)) hokL om om hE hFl om (by rw[u2,w2];omega) om).mono ?_;rintro _ H6 ⟨O6,A6,F6⟩;have gr:=iS E' els ((z.put 32 0 0 0).land y.code.length);simp only[sC,seval];refine(jf A6 (ri5.same (F6.old _ om iO)) (rv5.same (F6.old _ om vO)) om).mono ?_;rintro _ H7 ⟨A7,n7,k7⟩;simp only[sC,seval];exact⟨_,rfl,O6,A7,F05.trans (F6.trans ⟨om,λc _ hc=>k7 c hc,λ_ h=>.inl h⟩)⟩
 ·have hEE:=nxE dD;subst hEE;have hcS:cS E' (.mk 4 s e body els line) x=((cL E' body (y.put 33 E'.length 0 0)).put 32 0 0 x.code.length).land y.code.length:=by rw[hy];rfl
  have hnn:eo E' (.mk 4 s e body els line)=E':=rfl;rw[hcS,hnn];simp only[sC,seval,Int.cast_ofNat_Int];refine(pX A1 33 E'.length om).mono ?_;rintro _ H2 ⟨O2,jb,sb,rfl,j1,j2,s1,s2,jO,sO,rj,rs,A2,F2⟩;have F02:=F1.trans F2;have e2:=F2.next;obtain⟨p1,p2⟩:=iG 33 E'.length 0 0 y;simp only[sC,seval,nc,g6,ld6 F02];refine(ih (au body) om rL A2 (y1.mono (km F02)) (y2.mono (km F02)) hokB om om hE hFb om (by rw[p2];omega) om).mono ?_;rintro _ H3 ⟨O3,A3,F3⟩;have F03:=F02.trans F3;have e3:=F3.next;obtain⟨b1,b2,b3⟩:=mB E' body (y.put 33 E'.length 0 0);have b4:=iS E' body (y.put 33 E'.length 0 0);obtain⟨z,hz⟩:∃z,z=cL E' body (y.put 33 E'.length 0 0):=⟨_,rfl⟩;rw[<- hz]at A3 b1 b2 b3 b4 ⊢;rw[p1]at b1 b4;have rj3:=rj.same (F3.old jb j2 jO);have rs3:=rs.same (F3.old sb s2 sO);have jO3:=F3.not j2 jO;have sO3:=F3.not s2 sO;simp only[sC,seval];refine(dA A3 32 0 0 x.code.length om).mono ?_;rintro _ H4 ⟨rfl,O4,A4,F4⟩;obtain⟨w1,w2⟩:=iG 32 0 0 x.code.length z;simp only[sC,seval];refine(jf A4 (rj3.same (F4.old jb om jO3)) (rs3.same (F4.old sb om sO3)) om).mono ?_;rintro _ H5 ⟨A5,n5,k5⟩;simp only[sC,seval];exact⟨_,rfl,O4,A5,F03.trans (F4.trans ⟨om,λc _ hc=>k5 c hc,λ_ h=>.inl h⟩)⟩
 ·have hEE:=nxE dD;subst hEE;have hcS:cS E' (.mk 5 s e body els line) x=y.put 34 E'.length 0 0:=by rw[hy];rfl
  have hnn:eo E' (.mk 5 s e body els line)=E':=rfl;rw[hcS,hnn];simp only[sC,seval,Int.cast_ofNat_Int];refine(dA A1 34 E'.length 0 0 om).mono ?_;rintro _ H3 ⟨rfl,O3,A3,F3⟩;simp only[sC,seval];exact⟨_,rfl,O3,A3,F1.trans F3⟩
open Go.Abs Go.Abs.S
def Cj(E:aO)(n:Nat):(gh E).take n=gh (E.take n):=by simp[gh,List.map_take]
def Cq(E:aO)(n:Nat):(iu E).take n=iu (E.take n):=by simp[iu,List.map_take]
def vW(E:aO)(x:St){n:Nat}(hn:n<=E.length):(eo E x).take n=E.take n:=by
 obtain⟨k,s,e,body,els,line⟩:=x;simp only[eo];by_cases hk:k=1
 ·rw[if_pos hk,List.take_append_of_le_length hn]
 ·rw[if_neg hk]
def QY{E Ei:aO}{x:Cs}{cb n0:Nat}{O:Nat->Prop}{vc vd vn vk:ae}{mb mp:Nat}{H:aa}(A:Pq Ei x cb n0 O vc vd vn vk mb mp H)(htk:Ei.take E.length=E)(hl:E.length<=Ei.length) :
  ∃vn' vk' H1 H2,Ii 1 vn none (some (.int .i64 (E.length:Int))) none=some vn'/\Ii 1 vk none (some (.int .i64 (E.length:Int))) none=some vk'/\bh 1 H (ah cb 7 5) vn'=some H1/\bh 1 H1 (ah cb 7 6) vk'=some H2/\pi E x cb n0 O H2/\fU O H O H2:=by
 obtain⟨vn',s1,L1,b1⟩:=A.ln.cut om hl;obtain⟨vk',s2,L2,b2⟩:=A.lk.cut om hl;rw[Nat.mul_one,Cj,htk]at L1;rw[Nat.mul_one,Cq,htk]at L2;obtain⟨H1,m1,r1,n1,k1⟩:=bQ A.row (n:=7) rfl (i:=5) om (x:=vn') L1.one (l':=[vc,.int .i64 (x.regs:Int),vd,.map (some mb),.map (some mp),vn',vk]) rfl;obtain⟨H2,m2,r2,n2,k2⟩:=bQ r1 (n:=7) rfl (i:=6) om (x:=vk') L2.one (l':=[vc,.int .i64 (x.regs:Int),vd,.map (some mb),.map (some mp),vn',vk']) rfl;have k:∀c,c≠cb->H2.get c=H.get c:=λc hc=>by rw[k2 c hc,k1 c hc]
 refine⟨vn',vk',H1,H2,s1,s2,m1,m2,⟨vc,vd,vn',vk',mb,mp,r2,A.lc.same om (A.bc.mono λc hc=>k c hc.2.1),A.ld.same om (A.bd.mono λc hc=>k c hc.2.1),L1.same om ((b1 _ A.bn).mono λc hc=>k c hc.2.1),L2.same om ((b2 _ A.bk).mono λc hc=>k c hc.2.1),
  (k _ A.ne.1.symm).trans A.bl,(k _ A.ne.2.1.symm).trans A.pl,A.oc,A.ne,λc hc=>by have:=A.oN c hc;omega,A.bc,A.bd,b1 _ A.bn,b2 _ A.bk,A.cd,(show Dj vc vn' from A.cn.mono λc hc=>b1 _ hc),(show Dj vc vk' from A.ck.mono λc hc=>b2 _ hc),(show Dj vd vn' from A.dn.mono λc hc=>b1 _ hc),(show Dj vd vk' from A.dk.mono λc hc=>b2 _ hc),?_⟩,⟨om,λc _ h2=>k c λe=>h2 (e ▸ A.oc.1),λ_ h=>.inl h⟩⟩
 exact b1 _ (A.nk.mono λc hc=>b2 _ hc)
def Oy{N:Nat}(ih:∀M,M<N->KL M):KL N:=by
 intro l C v E F b x cb n0 O H hsz A z1 z2 hok hs hd hE hck hc1 hc2 hc3;obtain⟨vn,vk,ln5,ln6,Ln,Lk,bn,bk⟩:=qR A;have lnn:=Ln.len;have ln:=z1.len;have hcb:=A.lt;have hON:=A.oN;have hlenl:=db l;refine ak rfl Wt rfl ?_;simp only[c45,sC,seval,az,aA,ln5,lnn,ln];refine aM (λm (T:bZ) K=>∃(i:Nat) (Ei:aO) (xi:Cs) (Oi:Nat->Prop),m=l.length-i/\i<=l.length/\T 0=ah cb 7 0/\T 1=v/\T 4=.int .i64 (E.length:Int)/\T 12=.int .i64 (l.length:Int)/\T 13=.int .i64 (i:Int)/\pi Ei xi cb n0 Oi K/\fU O H Oi K/\Ei.take E.length=E/\E.length<=Ei.length/\kW Ei /\
   cL E l x=cL Ei (l.drop i) xi/\(∃b' F',ft Ei b' (l.drop i)=.ok F')/\xi.code.length+3*au (l.drop i)<=40000/\xi.cons.length+au (l.drop i)<=40000/\Ei.length+au (l.drop i)<=40000) l.length
  ⟨0,E,x,O,rfl,Nat.zero_le _,by simp only[sC,seval];try rfl,by simp only[sC,seval];try rfl,by simp only[sC,seval];try rfl,by simp only[sC,seval];try rfl,by simp only[sC,seval];try rfl,A,fU.refl _ _,by rw[List.take_length],Nat.le_refl _,hE,rfl,⟨b,F,hck⟩,hc1,hc2,hc3⟩ ?_
 rintro m T K ⟨i,Ei,xi,Oi,rfl,hi,t0,t1,t4,t12,t13,AK,FK,htk,hlE,hEi,hcl,⟨b',F',hckK⟩,hd1,hd2,hd3⟩;by_cases hlt:i<l.length
 case neg=>obtain rfl:i=l.length:=om;have hlt':¬(l.length:Int)<(l.length:Int):=om;rw[List.drop_length]at hcl;obtain⟨vc1,vd1,vn1,vk1,mb1,mp1,AK⟩:=AK;have l5:al false 1 K (ah cb 7 5)=some vn1:=aj AK.row rfl rfl;have l6:al false 1 K (ah cb 7 6)=some vk1:=aj AK.row rfl rfl;obtain⟨vn',vk',H1,H2,s1,s2,m1,m2,A2,F2⟩:=QY AK htk hlE;simp only[sC,seval,t0,t1,t4,t12,t13,hlt',az,aA,l5,l6,s1,s2,m1,m2];refine⟨_,rfl,Oi,?_,FK.trans F2⟩;rw[hcl];exact A2
 have hlt':(i:Int)<(l.length:Int):=om;obtain⟨y,he⟩:∃e,l[i]?=some e:=⟨_,Xx hlt⟩;have hdrop:l.drop i=y::l.drop (i+1):=by rw[<- (Xy.1 he).2,<- List.drop_eq_getElem_cons hlt]
 rw[hdrop]at hcl hckK hd1 hd2 hd3;obtain⟨hcy,b2,hck2⟩:=CW hckK;have hmem:=XG he;have hsm:=dl hmem;have hdm:=mz hmem;have low:∀c,c<n0->c<n0/\K.get c=H.get c:=λc hc=>⟨hc,FK.old c om λq=>by have:=hON c q;omega⟩;have z1K:=z1.mono low;have z2K:=z2.mono low;have ix:=z1K.idx hlt;have pt:=z1K.pt hlt;have pblk:=z1K.blk hlt;have hx3:=z2K.at he;have hokx:=Ah hok hmem;have wi:IntKind.i64.wrap ((i:Int)+1)=((i+1:Nat):Int):=fT i 1 om;have hscp:=HB hEi hcy;have hnl:=lM Ei y;have hnt:=vW Ei y hlE;have hlim:=FF Ei y xi;have hpos:=ee y;simp only[au]at hd1 hd2 hd3;obtain⟨k,sx,e,body,els,line⟩:=y;obtain⟨ce,vb,Cb,ve,Ce,hcell,x1,y1,y2,y3,y4⟩:=hx3;rw[hcell]at pt;simp only[sC,seval,t0,t1,t4,t12,t13,hlt',ix];refine(Ll ih om AK pt pblk x1 y1 y2 y3 y4 hokx om om hEi hcy om om om).mono ?_;rintro _ K2 ⟨O2,A2,F2⟩;simp only[sC,seval,t0,t1,t4,t12,t13,wi];exact⟨l.length-(i+1),om,i+1,eo Ei (.mk k sx e body els line),cS Ei (.mk k sx e body els line) xi,O2,rfl,om,tt,tt,tt,tt,tt,A2,FK.trans F2,by rw[hnt];exact htk,om,hscp,hcl,⟨b2,F',hck2⟩,om,om,om⟩
def Q3(N:Nat):KL N:=by
 induction N using Nat.strongRecOn with
 |_ N ih=>exact Oy ih
def CX{l:List St}(h:(dm l).1=0):dm l=(0,0)/\d8 l=true/\gt l=true/\∃F,ft ba false l=.ok F:=by
 unfold dm at h ⊢;by_cases hr:d8 l=true
 ·rw[if_pos hr]at h ⊢;cases hc:ft ba false l with
  |error f=>rw[hc]at h;exact absurd h (iR hc)
  |ok F=>
   rw[hc]at h;simp only at h ⊢;by_cases ht:gt l=true
   ·rw[if_pos ht];exact⟨rfl,hr,ht,F,rfl⟩
   ·rw[if_neg ht]at h;simp at h
 ·rw[if_neg hr]at h;simp at h
structure Ik(x:Cs)(vc vd:ae)(P:Nat->Prop)(H:aa):Prop where
 lc:aT 1 H vc (mO x.cons) x.cons.length
 ld:aT 4 H vd (jo x.code) x.code.length
 bc:bx vc P
 bd:bx vd P
 cd:Dj vc vd
def Ik.nil(P:Nat->Prop)(H:aa):Ik WZ aX aX P H:=⟨.inl ⟨rfl,rfl,rfl⟩,.inl ⟨rfl,rfl,rfl⟩,cP _,cP _,cP _⟩
def Ga(x:Cs)(vc vd:ae):ae:=.agg [vc,.int .i64 (x.regs:Int),vd]
def pC{l:List St}{C:List ae}{v:ae}{n0:Nat}{H:aa}(z1:eM (·<n0) H 9 v l.length C)(z2:dY (·<n0) H l C)(hn:n0<=H.next) :
  aq Tryz.prog aF 20 [v] H λu H'=>(∃vc vd,u=.tuple [Ga (cI l).1 vc vd,.agg (iA (cI l).2)]/\Ik (cI l).1 vc vd (In H.next H'.next) H')/\aS H.next H H':=by
 refine ak rfl WN rfl ?_;obtain⟨H1,m1,r1,n1,k1⟩:=aC H [aX,.int .i64 0,aX] (n:=3) rfl;obtain⟨H2,m2,r2,n2,k2⟩:=aC H1 [.int .i64 0,.int .i64 0] (n:=2) rfl;have k02:∀c,c<H.next->H2.get c=H.get c:=λc hc=>by rw[k2 c om,k1 c om]
 have km:∀{K:aa},(∀c,c<H.next->K.get c=H.get c)->∀c,c<n0->c<H.next/\K.get c=H.get c:=λh c hc=>⟨om,h c om⟩;obtain⟨ab,hab⟩:∃b,b=H.next:=⟨_,rfl⟩;obtain⟨fb,hfb⟩:∃b,b=H1.next:=⟨_,rfl⟩;rw[<- hab]at m1 r1 k1;rw[<- hfb]at m2 r2 k2;have m1':ga H [.slice none 0 (.known 0),.int .i64 0,.slice none 0 (.known 0)]=_:=m1;simp only[c20,sC,seval,m1',m2];refine(BF (z1.mono (km k02)) (z2.mono (km k02)) om).mono ?_;rintro _ H3 ⟨rfl,E3⟩;have e3:=E3.next;obtain⟨H4,m4,r4,n4,k4⟩:=aC H3 [.int .i64 0,.int .i64 0] (n:=2) rfl;obtain⟨H5,m5,r5,n5,k5⟩:=am r4 (n:=2) rfl (xs:=iA (dm l)) rfl rfl;have k05:∀c,c<H.next->H5.get c=H.get c:=λc hc=>by rw[k5 c om,k4 c om,E3.old c om,k02 c hc]
 have rA:be H5 ab [aX,.int .i64 0,aX]:=r1.same (by rw[k5 ab om,k4 ab om,E3.old ab om,k2 ab om]);have rF:be H5 fb [.int .i64 0,.int .i64 0]:=r2.same (by rw[k5 fb om,k4 fb om,E3.old fb om]);have l5:al false 1 H5 (ah H3.next 2 0)=some (.int .i64 ((dm l).1:Int)):=aj r5 rfl rfl;simp only[sC,seval,m4,m5,fld0,l5];unfold cI;by_cases hc:(dm l).1=0
 case neg=>have hc':¬((dm l).1:Int)=0:=om;obtain⟨H6,m6,r6,n6,k6⟩:=am rA (n:=3) rfl (xs:=[aX,.int .i64 0,aX]) rfl rfl;obtain⟨H7,m7,r7,n7,k7⟩:=am (rF.same (k6 fb om)) (n:=2) rfl (xs:=iA (dm l)) rfl rfl;have l5a:al true 2 H5 (ah H3.next 2 0)=some (.agg (iA (dm l))):=aw r5 rfl;have l6a:al true 2 H6 (ah H3.next 2 0)=some (.agg (iA (dm l))):=aw (r5.same (k6 _ om)) rfl;have bz:aJ [.slice none 0 (.known 0),.int .i64 0,.slice none 0 (.known 0)] []=some (.agg [aX,.int .i64 0,aX]):=rfl;rw[if_neg hc];simp only[sC,seval,hc'];refine dI rfl ?_;simp only[sR,sC,seval,bz,l5a,m6,m7];simp only[ci,cj,bP,cm,cQ,and_true,true_and,List.map_cons,List.map_nil,sC,seval];refine⟨⟨_,rfl,λ_=>⟨_,l6a,by simp[aeq,iA,aeqs,gd]⟩⟩,?_⟩;refine nT _ _ _ _ _ _ _ (v:=.agg [aX,.int .i64 0,aX]) (v':=.agg (iA (dm l))) (by simp only[sC,seval];exact aw (r6.same (k7 ab om)) rfl) (by simp only[sC,seval];exact aw r7 rfl) ?_;exact⟨⟨aX,aX,rfl,Ik.nil _ _⟩,om,λc hcc=>by rw[k7 c om,k6 c om,k05 c om]⟩
 obtain⟨hc0,hr,hret,F,hck⟩:=CX hc;have hok:cA l=true:=by simp only[d8,XA]at hr;exact hr.1
 have hfit:au l<=1000/\bw l<=40:=by simp only[d8,hX,XA,XK]at hr;exact hr.2
 have hc':((dm l).1:Int)=0:=om;have bt:aJ [.slice none 0 (.known 0),.int .i64 0,.slice none 0 (.known 0)] [(1,1,.int .i64 4)]=some (.agg [aX,.int .i64 4,aX]):=rfl;rw[if_pos hc];simp only[sC,seval,hc',bt];refine I5.mono ?_;rintro _ H6 ⟨rfl,hB,n6,k6⟩;obtain⟨H7,hH7⟩:∃J,J=H6.push (.map [] 0):=⟨_,rfl⟩;have n7:H7.next=H6.next+1:=by rw[hH7];rfl
 obtain⟨H8,hH8⟩:∃J,J=H7.push (.cells (gh ba) 0 false):=⟨_,rfl⟩;have n8:H8.next=H7.next+1:=by rw[hH8];rfl
 obtain⟨H9,hH9⟩:∃J,J=H8.push (.cells (iu ba) 0 false):=⟨_,rfl⟩;have n9:H9.next=H8.next+1:=by rw[hH9];rfl
 have mm:kj .mkMap H6 []=some (.map (some H6.next),H7):=by rw[hH7];rfl
 have b8:aL 4 [.str []] H7 [(0,1,.str [117]),(1,1,.str [118]),(2,1,.str [112]),(3,1,.str [110])]=some (.slice (some ⟨H7.next,4,0⟩) 4 (.known 4),H8):=by rw[hH8];rfl
 have b9:aL 4 [.int .u8 0] H8 [(0,1,.int .u8 1),(1,1,.int .u8 1),(2,1,.int .u8 2),(3,1,.int .u8 2)]=some (.slice (some ⟨H8.next,4,0⟩) 4 (.known 4),H9):=by rw[hH9];rfl
 have L8:aT 1 H8 (.slice (some ⟨H7.next,4,0⟩) 4 (.known 4)) (gh ba) 4:=by rw[hH8];exact aT.built (m:=1) (k:=4) H7 (xs:=gh ba) rfl
 have L9:aT 1 H9 (.slice (some ⟨H8.next,4,0⟩) 4 (.known 4)) (iu ba) 4:=by rw[hH9];exact aT.built (m:=1) (k:=4) H8 (xs:=iu ba) rfl
 have g7:H7.get H6.next=some (.map [] 0):=by rw[hH7,aa.get_push,if_pos rfl]
 have k69:∀c,c<H6.next->H9.get c=H6.get c:=λc hc=>by rw[hH9,aB om,hH8,aB om,hH7,aB hc]
 have k79:∀c,c<H7.next->H9.get c=H7.get c:=λc hc=>by rw[hH9,aB om,hH8,aB om]
 obtain⟨H10,m10,r10,n10,k10⟩:=aC H9 [aX,.int .i64 4,aX,.map (some H5.next),.map (some H6.next),.slice (some ⟨H7.next,4,0⟩) 4 (.known 4),.slice (some ⟨H8.next,4,0⟩) 4 (.known 4)] (n:=7) rfl;have bb:aJ [.slice none 0 (.known 0),.int .i64 0,.slice none 0 (.known 0),.map none,.map none,.slice none 0 (.known 0),.slice none 0 (.known 0)] [(0,3,.agg [aX,.int .i64 4,aX]),(3,1,.map (some H5.next)),(4,1,.map (some H6.next)),(5,1,.slice (some ⟨H7.next,4,0⟩) 4 (.known 4)),(6,1,.slice (some ⟨H8.next,4,0⟩) 4 (.known 4))] =
  some (.agg [aX,.int .i64 4,aX,.map (some H5.next),.map (some H6.next),.slice (some ⟨H7.next,4,0⟩) 4 (.known 4),.slice (some ⟨H8.next,4,0⟩) 4 (.known 4)]):=rfl
 have bN:bx (.slice (some ⟨H7.next,4,0⟩) 4 (.known 4)) (·=H7.next):=cp rfl;have bK:bx (.slice (some ⟨H8.next,4,0⟩) 4 (.known 4)) (·=H8.next):=cp rfl;have ob:∀c,H5.next<=c->c<H10.next->c≠H9.next->c≠H5.next->c≠H6.next->(H5.next<=c/\c<H10.next)/\c≠H9.next/\c≠H5.next/\c≠H6.next:=λc a1 a2 a3 a4 a5=>⟨⟨a1,a2⟩,a3,a4,a5⟩;have k05':∀c,c<H5.next->H10.get c=H5.get c:=λc hc=>by rw[k10 c om,k69 c om,k6 c om]
 have A10:pi ba uo H9.next H.next (λc=>H5.next<=c/\c<H10.next) H10:=
  ⟨aX,aX,_,_,H5.next,H6.next,r10,.inl ⟨rfl,rfl,rfl⟩,.inl ⟨rfl,rfl,rfl⟩,L8.same om (bN.mono λc hc=>by show H10.get c=H8.get c;rw[k10 c om,hH9,aB om]),L9.same om (bK.mono λc hc=>k10 c om),
   ((k10 _ om).trans (k69 _ om)).trans hB,((k10 _ om).trans (k79 _ om)).trans g7,⟨⟨om,om⟩,⟨om,om⟩,⟨om,om⟩⟩,⟨om,om,om⟩,λc hc=>om,cP _,cP _,
   bN.mono λc hc=>ob c om om om om om,bK.mono λc hc=>ob c om om om om om,cP _,cP _,cP _,cP _,cP _,bN.mono λc hc=>bK.mono λd hd=>om⟩
 have k0A:∀c,c<H.next->H10.get c=H.get c:=λc hc=>by rw[k05' c om,k05 c hc]
 simp only[sC,seval,mm,b8,b9,bb,aG,m10];refine(Q3 (au l) rL A10 (z1.mono (km k0A)) (z2.mono (km k0A)) hok hfit.1 hfit.2 kW.given hck (by show 0+_<=_;omega) (by show 0+_<=_;omega) (by show 4+_<=_;omega)).mono ?_;rintro _ H11 ⟨O11,A11,F11⟩;have n11:=F11.next;have kOld:∀c,c<H5.next->H11.get c=H5.get c:=λc hc=>by rw[F11.old c om (by show¬(H5.next<=c/\c<H10.next);omega),k05' c hc]
 obtain⟨vc,vd,vn,vk,mb,mp,A11⟩:=A11;have lr:al false 1 H11 (ah H9.next 7 1)=some (.int .i64 ((cL ba l uo).regs:Int)):=aj A11.row rfl rfl;have rA11:=rA.same (kOld ab om);have rF11:=rF.same (kOld fb om);simp only[sC,seval,az,fld0,aA,lr];by_cases h250:250<(cL ba l uo).regs
 ·have h250':(250:Int)<((cL ba l uo).regs:Int):=om;have bz:aJ [.slice none 0 (.known 0),.int .i64 0,.slice none 0 (.known 0)] []=some (.agg [aX,.int .i64 0,aX]):=rfl;have bf:aJ [.int .i64 0,.int .i64 0] [(0,1,.int .i64 102)]=some (.agg [.int .i64 102,.int .i64 0]):=rfl;obtain⟨H12,m12,r12,n12,k12⟩:=am rA11 (n:=3) rfl (xs:=[aX,.int .i64 0,aX]) rfl rfl;obtain⟨H13,m13,r13,n13,k13⟩:=am (rF11.same (k12 fb om)) (n:=2) rfl (xs:=[.int .i64 102,.int .i64 0]) rfl rfl;rw[if_pos h250];simp only[sC,seval,h250',bz,bf,m12,m13];refine nT _ _ _ _ _ _ _ (v:=.agg [aX,.int .i64 0,aX]) (v':=.agg [.int .i64 102,.int .i64 0]) (by simp only[sC,seval];exact aw (r12.same (k13 ab om)) rfl) (by simp only[sC,seval];exact aw r13 rfl) ?_;exact⟨⟨aX,aX,rfl,Ik.nil _ _⟩,om,λc hcc=>by rw[k13 c om,k12 c om,kOld c om,k05 c om]⟩
 ·have h250':¬(250:Int)<((cL ba l uo).regs:Int):=om;have l3:al true 3 H11 (ah H9.next 7 0)=some (Ga (cL ba l uo) vc vd):=by
   have h:=iF A11.row (n:=7) rfl (i:=0) (k:=3) (by simp);simp only[al,ah];rw[h];rfl
  have bf:aJ [.int .i64 0,.int .i64 0] []=some (.agg [.int .i64 0,.int .i64 0]):=rfl;obtain⟨H12,m12,r12,n12,k12⟩:=am rA11 (n:=3) rfl (xs:=[vc,.int .i64 ((cL ba l uo).regs:Int),vd]) rfl (by simp only[List.all_cons,List.all_nil,A11.lc.one,A11.ld.one];rfl);obtain⟨H13,m13,r13,n13,k13⟩:=am (rF11.same (k12 fb om)) (n:=2) rfl (xs:=[.int .i64 0,.int .i64 0]) rfl rfl;have m12':bh 3 H11 (ah ab 3 0) (Ga (cL ba l uo) vc vd)=some H12:=m12;have kk:∀c,c≠ab->c≠fb->H13.get c=H11.get c:=λc h1 h2=>by rw[k13 c h2,k12 c h1]
  have bIn:∀{w:ae},bx w (λb=>O11 b/\b≠H9.next/\b≠mb/\b≠mp)->bx w λc=>In H.next H13.next c/\c≠ab/\c≠fb:=λh=>h.mono λc hc=>by
   have q1:=A11.oN c hc.1;have q2:=F11.own c hc.1;have q3:H5.next<=c:=by
    rcases q2 with q2|q2
    ·exact q2.1
    ·omega
   exact⟨⟨q1.1,om⟩,om,om⟩
  rw[if_neg h250];simp only[sC,seval,h250',l3,bf,m12',m13];refine nT _ _ _ _ _ _ _ (v:=Ga (cL ba l uo) vc vd) (v':=.agg [.int .i64 0,.int .i64 0]) (by simp only[sC,seval];exact aw (r12.same (k13 ab om)) rfl) (by simp only[sC,seval];exact aw r13 rfl) ?_;have i1:=bIn A11.bc;have i2:=bIn A11.bd;exact⟨⟨vc,vd,rfl,⟨A11.lc.same om (i1.mono λc hc=>kk c hc.2.1 hc.2.2),A11.ld.same om (i2.mono λc hc=>kk c hc.2.1 hc.2.2),i1.mono λc hc=>hc.1,i2.mono λc hc=>hc.1,A11.cd⟩⟩,om,λc hcc=>by rw[kk c om om,kOld c om,k05 c om]⟩
open Go.Abs Go.Abs.S
def zL(xs:List Int):List ae:=xs.map (.int .i64)
def sd(xs:List Int):(zL xs).length=xs.length:=by simp[zL]
def mw{xs:List Int}{v vc vd:ae}{R:Int}{n bb:Nat}{H:aa}(c:fo n H v (zL xs))(r:be H bb [vc,.int .i64 R,vd])(hl:xs.length<=3):aq Tryz.prog aF 91 [v,ah bb 3 0] H λu H'=>u=.bool (xs.all (dj R))/\H=H':=by
 have ln:=c.len;rw[sd]at ln;refine ak rfl VZ rfl ?_;simp only[c91,sC,seval,ln];refine aM (λm (T:bZ) H'=>H=H'/\∃i:Nat,m=xs.length-i/\i<=xs.length/\T 1=ah bb 3 0/\T 6=v/\T 7=.int .i64 (xs.length:Int)/\T 8=.int .i64 (i:Int)/\(xs.take i).all (dj R)=true) xs.length
  ⟨rfl,0,rfl,Nat.zero_le _,by simp only[sC,seval];try rfl,by simp only[sC,seval];try rfl,by simp only[sC,seval];try rfl,by simp only[sC,seval];try rfl,rfl⟩ ?_
 rintro m T _ ⟨rfl,i,rfl,hi,t1,t6,t7,t8,hx⟩;by_cases hlt:i<xs.length
 case neg=>obtain rfl:i=xs.length:=om;have hlt':¬(xs.length:Int)<(xs.length:Int):=om;rw[List.take_length]at hx;simp only[sC,seval,t1,t6,t7,t8,hlt',hx];exact⟨tt,tt⟩
 have hlt':(i:Int)<(xs.length:Int):=om;obtain⟨y,hy⟩:∃y,xs[i]?=some y:=⟨_,Xx hlt⟩;have io:=c.idx .i64 (i:=i) (by rw[sd];exact hlt);have lo:=c.load (i:=i) (x:=.int .i64 y) (by simp[zL,hy]);have lR:al false 1 H (ah bb 3 1)=some (.int .i64 R):=aj r rfl rfl;have wk:IntKind.i64.wrap ((i:Int)+1)=((i+1:Nat):Int):=iP;have hts:(xs.take (i+1)).all (dj R)=dj R y:=by rw[List.take_add_one,hy,List.all_append,hx];simp
 have bad:dj R y=false->xs.all (dj R)=false:=λh=>by rw[List.all_eq_false];exact⟨y,XG hy,by rw[h];simp⟩
 by_cases h1:y<0
 ·have hb:=bad (by simp only[dj];rw[decide_eq_false om];rfl);simp only[sC,seval,t1,t6,t7,t8,hlt',io,lo,h1,hb];exact⟨tt,tt⟩
 by_cases h2:R<=y
 ·have hb:=bad (by simp only[dj];rw[decide_eq_false (by omega:¬y<R)];simp);simp only[sC,seval,t1,t6,t7,t8,hlt',io,lo,h1,aA,lR,h2,hb];exact⟨tt,tt⟩
 ·have hb:dj R y=true:=by simp only[dj];rw[decide_eq_true om,decide_eq_true (by omega:y<R)];rfl
  rw[hb]at hts;simp only[sC,seval,t1,t6,t7,t8,hlt',io,lo,h1,aA,lR,h2,wk];exact⟨xs.length-(i+1),om,tt,i+1,rfl,om,tt,tt,tt,tt,hts⟩
def mr{x n:Int}{H:aa}:aq Tryz.prog aF 92 [.int .i64 x,.int .i64 n] H λu H'=>u=.bool (dj n x)/\H=H':=by
 refine ak rfl VY rfl ?_;unfold dj;by_cases h1:0<=x
 ·simp only[W5,sC,seval,h1];exact⟨by simp,tt⟩
 ·simp only[W5,sC,seval,h1];exact⟨by simp,tt⟩
def bs_cel{H:aa}{xs:List Int}:fo (H.next+1) (H.push (.cells (zL xs) 0 false)) (.slice (some ⟨H.next,xs.length,0⟩) xs.length (.known xs.length)) (zL xs):=by refine .inr ⟨⟨H.next,xs.length,0⟩,.known xs.length,by rw[sd],by show H.next<H.next+1;omega,?_⟩;have:=iF (H:=H.push (.cells (zL xs) 0 false)) (b:=H.next) (l:=zL xs) ⟨0,by rw[aa.get_push,if_pos rfl],Nat.zero_le _⟩ (n:=xs.length) (by rw[sd]) (i:=0) (k:=xs.length) om;rw[sd,this,List.drop_zero,List.take_of_length_le (by rw[sd];omega)]
def DG(i:xP):ae:=.agg [.int .u8 (i.o:Int),.int .i64 i.a,.int .i64 i.b,.int .i64 i.c]
def Co{i:xP}{vc vd:ae}{R:Int}{nk nc:Nat}{H:aa}(hc:ez false vc=some (.int .i64 (nk:Int)))(hd:ez false vd=some (.int .i64 (nc:Int)))(hR:R<=250)(o1:vc.one=true)(o2:vd.one=true) :
  aq Tryz.prog aF 49 [DG i,.agg [vc,.int .i64 R,vd]] H λu H'=>u=.bool (jB R nk nc i)/\aS H.next H H':=by
 obtain⟨o,a,b,c⟩:=i;obtain⟨H1,m1,r1,n1,k1⟩:=aC H [.int .u8 (o:Int),.int .i64 a,.int .i64 b,.int .i64 c] (n:=4) rfl;obtain⟨H2,m2,r2,n2,k2⟩:=aC H1 [vc,.int .i64 R,vd] (n:=3) rfl;have r12:be H2 H.next [.int .u8 (o:Int),.int .i64 a,.int .i64 b,.int .i64 c]:=r1.same (k2 _ om);have E2:aS H.next H H2:=⟨om,λc hc=>by rw[k2 c om,k1 c om]⟩;have f0:al false 1 H2 (ah H.next 4 0)=some (.int .u8 (o:Int)):=aj r12 rfl rfl;obtain⟨H3,hH3⟩:∃J,J=H2.push (.cells (zL [a]) 0 false):=⟨_,rfl⟩;obtain⟨H4,hH4⟩:∃J,J=H2.push (.cells (zL [a,b]) 0 false):=⟨_,rfl⟩;obtain⟨H5,hH5⟩:∃J,J=H2.push (.cells (zL [a,b,c]) 0 false):=⟨_,rfl⟩;have E3:aS H2.next H2 H3:=by rw[hH3];exact⟨by show _<=H2.next+1;omega,λc hc=>aB hc⟩
 have E4:aS H2.next H2 H4:=by rw[hH4];exact⟨by show _<=H2.next+1;omega,λc hc=>aB hc⟩
 have E5:aS H2.next H2 H5:=by rw[hH5];exact⟨by show _<=H2.next+1;omega,λc hc=>aB hc⟩
 have to:∀{K:aa},aS H2.next H2 K->aS H.next H K:=λe=>⟨by have:=e.next;omega,λc hc=>by rw[e.old c om,E2.old c hc]⟩;have bs3:aL 1 [.int .i64 0] H2 [(0,1,.int .i64 a)]=some (.slice (some ⟨H2.next,1,0⟩) 1 (.known 1),H3):=by rw[hH3];rfl
 have bs4:aL 2 [.int .i64 0] H2 [(0,1,.int .i64 a),(1,1,.int .i64 b)]=some (.slice (some ⟨H2.next,2,0⟩) 2 (.known 2),H4):=by rw[hH4];rfl
 have bs5:aL 3 [.int .i64 0] H2 [(0,1,.int .i64 a),(1,1,.int .i64 b),(2,1,.int .i64 c)]=some (.slice (some ⟨H2.next,3,0⟩) 3 (.known 3),H5):=by rw[hH5];rfl
 have c3:fo (H2.next+1) H3 (.slice (some ⟨H2.next,1,0⟩) 1 (.known 1)) (zL [a]):=by rw[hH3];exact bs_cel (xs:=[a])
 have c4:fo (H2.next+1) H4 (.slice (some ⟨H2.next,2,0⟩) 2 (.known 2)) (zL [a,b]):=by rw[hH4];exact bs_cel (xs:=[a,b])
 have c5:fo (H2.next+1) H5 (.slice (some ⟨H2.next,3,0⟩) 3 (.known 3)) (zL [a,b,c]):=by rw[hH5];exact bs_cel (xs:=[a,b,c])
 have p3:=r2.same (E3.old _ om);have p4:=r2.same (E4.old _ om);have p5:=r2.same (E5.old _ om);have q3:=r12.same (E3.old _ om);have q4:=r12.same (E4.old _ om);have la2:al false 1 H2 (ah H.next 4 1)=some (.int .i64 a):=aj r12 rfl rfl;have lb2:al false 1 H2 (ah H.next 4 2)=some (.int .i64 b):=aj r12 rfl rfl;have lc2:al false 1 H2 (ah H.next 4 3)=some (.int .i64 c):=aj r12 rfl rfl;have lb3:al false 1 H3 (ah H.next 4 2)=some (.int .i64 b):=aj q3 rfl rfl;have lc3:al false 1 H3 (ah H.next 4 3)=some (.int .i64 c):=aj q3 rfl rfl;have lb4:al false 1 H4 (ah H.next 4 2)=some (.int .i64 b):=aj q4 rfl rfl;have lc4:al false 1 H4 (ah H.next 4 3)=some (.int .i64 c):=aj q4 rfl rfl;have lk3:al false 1 H3 (ah H1.next 3 0)=some vc:=aj p3 rfl rfl;have ld3:al false 1 H3 (ah H1.next 3 2)=some vd:=aj p3 rfl rfl;have ld2:al false 1 H2 (ah H1.next 3 2)=some vd:=aj r2 rfl rfl;have lR4:al false 1 H4 (ah H1.next 3 1)=some (.int .i64 R):=aj p4 rfl rfl;have F2:=E2;have F3:=to E3;have F4:=to E4;have F5:=to E5;have w3:=mw c3 p3 (by simp);have w4:=mw c4 p4 (by simp);have w5:=mw c5 p5 (by simp);have e3:[a].all (dj R)=dj R a:=by simp
 have e4:[a,b].all (dj R)=(dj R a&&dj R b):=by simp
 have e5:[a,b,c].all (dj R)=(dj R a&&(dj R b&&dj R c)):=by simp
 rw[e3]at w3;rw[e4]at w4;rw[e5]at w5;unfold DG;refine ak rfl Wp rfl ?_;by_cases h:o=1
 ·have hok:jB R nk nc ⟨o,a,b,c⟩=(dj R a&&(dj nk b&&decide (c=0))):=by rw[h];rfl
  rw[hok];subst h;simp only[Int.cast_ofNat_Int]at m1 f0;simp only[Mk,sC,seval,Int.cast_ofNat_Int,aG,m1,m2,fld0,aA,f0,la2,bs3];refine w3.mono ?_;rintro _ _ ⟨rfl,rfl⟩;cases ha:dj R a with
  |false=>simp only[sC,seval];exact⟨by simp,F3⟩
  |true=>
   simp only[sC,seval,fld0,aA,lb3,lk3,hc];refine mr.mono ?_;rintro _ _ ⟨rfl,rfl⟩;cases hb:dj nk b with
   |false=>simp only[sC,seval];exact⟨by simp,F3⟩
   |true=>simp only[sC,seval,aA,lc3];exact⟨by simp,F3⟩
 by_cases h:o=2∨o=7∨o=8∨o=18∨o=19∨o=20∨o=23∨o=24∨o=25∨o=26∨o=27∨o=28
 ·rcases h with h|h|h|h|h|h|h|h|h|h|h|h
  all_goals
   have hok:jB R nk nc ⟨o,a,b,c⟩=(dj R a&&(dj R b&&decide (c=0))):=by rw[h];rfl
   rw[hok];subst h;simp only[Int.cast_ofNat_Int]at m1 f0;simp only[Mk,sC,seval,Int.cast_ofNat_Int,aG,m1,m2,fld0,aA,f0,la2,lb2,bs4];refine w4.mono ?_;rintro _ _ ⟨rfl,rfl⟩;cases ha:(dj R a&&dj R b)with
   |false=>simp only[sC,seval];exact⟨by rw[<- Bool.and_assoc,ha];simp,F4⟩
   |true=>simp only[sC,seval,aA,lc4];exact⟨by rw[<- Bool.and_assoc,ha];simp,F4⟩
 by_cases h:o=3∨o=4∨o=5∨o=6∨o=9∨o=10∨o=11∨o=12∨o=13∨o=14∨o=15∨o=16∨o=21∨o=22∨o=29∨o=30∨o=31
 ·rcases h with h|h|h|h|h|h|h|h|h|h|h|h|h|h|h|h|h
  all_goals
   have hok:jB R nk nc ⟨o,a,b,c⟩=(dj R a&&(dj R b&&dj R c)):=by rw[h];rfl
   rw[hok];subst h;simp only[Int.cast_ofNat_Int]at m1 f0;simp only[Mk,sC,seval,Int.cast_ofNat_Int,aG,m1,m2,fld0,aA,f0,la2,lb2,lc2,bs5];refine w5.mono ?_;rintro _ _ ⟨rfl,rfl⟩;simp only[sC,seval];exact⟨tt,F5⟩
 by_cases h:o=17
 ·have hok:jB R nk nc ⟨o,a,b,c⟩=(dj R a&&(dj R b&&(decide (b+2<R)&&decide (c=0)))):=by rw[h];rfl
  rw[hok];subst h;simp only[Int.cast_ofNat_Int]at m1 f0;simp only[Mk,sC,seval,Int.cast_ofNat_Int,aG,m1,m2,fld0,aA,f0,la2,lb2,bs4];refine w4.mono ?_;rintro _ _ ⟨rfl,rfl⟩;cases ha:(dj R a&&dj R b)with
  |false=>simp only[sC,seval];exact⟨by rw[<- Bool.and_assoc,ha];simp,F4⟩
  |true=>
   have hb:0<=b/\b<R:=by simp only[XA,dj,XK]at ha;exact ha.2
   have wb:IntKind.i64.wrap (b+2)=b+2:=iP;by_cases h2:b+2<R
   ·simp only[sC,seval,aA,lb4,lR4,wb,h2,lc4];exact⟨by rw[<- Bool.and_assoc,ha];simp,F4⟩
   ·simp only[sC,seval,aA,lb4,lR4,wb,h2];exact⟨by rw[<- Bool.and_assoc,ha];simp,F4⟩
 by_cases h:o=32
 ·have hok:jB R nk nc ⟨o,a,b,c⟩=(decide (a=0)&&(decide (b=0)&&dj nc c)):=by rw[h];rfl
  rw[hok];subst h;simp only[Int.cast_ofNat_Int]at m1 f0;by_cases ha:a=0
  ·subst ha;by_cases hb:b=0
   ·subst hb;simp only[Mk,sC,seval,Int.cast_ofNat_Int,aG,m1,m2,fld0,aA,f0,la2,lb2,lc2,ld2,hd];refine mr.mono ?_;rintro _ _ ⟨rfl,rfl⟩;simp only[sC,seval];exact⟨by simp,F2⟩
   ·simp only[Mk,sC,seval,Int.cast_ofNat_Int,aG,m1,m2,fld0,aA,f0,la2,lb2,hb];exact⟨by simp,F2⟩
  ·simp only[Mk,sC,seval,Int.cast_ofNat_Int,aG,m1,m2,fld0,aA,f0,la2,ha];exact⟨by simp,F2⟩
 by_cases h:o=33
 ·have hok:jB R nk nc ⟨o,a,b,c⟩=(dj R a&&(decide (b=0)&&dj nc c)):=by rw[h];rfl
  rw[hok];subst h;simp only[Int.cast_ofNat_Int]at m1 f0;simp only[Mk,sC,seval,Int.cast_ofNat_Int,aG,m1,m2,fld0,aA,f0,la2,bs3];refine w3.mono ?_;rintro _ _ ⟨rfl,rfl⟩;cases ha:dj R a with
  |false=>simp only[sC,seval];exact⟨by simp,F3⟩
  |true=>
   by_cases hb:b=0
   ·simp only[sC,seval,fld0,aA,lb3,hb,lc3,ld3,hd];refine mr.mono ?_;rintro _ _ ⟨rfl,rfl⟩;simp only[sC,seval];exact⟨by simp,F3⟩
   ·simp only[sC,seval,fld0,aA,lb3,hb];exact⟨by simp,F3⟩
 by_cases h:o=34
 ·have hok:jB R nk nc ⟨o,a,b,c⟩=(dj R a&&(decide (b=0)&&decide (c=0))):=by rw[h];rfl
  rw[hok];subst h;simp only[Int.cast_ofNat_Int]at m1 f0;simp only[Mk,sC,seval,Int.cast_ofNat_Int,aG,m1,m2,fld0,aA,f0,la2,bs3];refine w3.mono ?_;rintro _ _ ⟨rfl,rfl⟩;cases ha:dj R a with
  |false=>simp only[sC,seval];exact⟨by simp,F3⟩
  |true=>
   by_cases hb:b=0
   ·simp only[sC,seval,fld0,aA,lb3,hb,lc3];exact⟨by simp,F3⟩
   ·simp only[sC,seval,fld0,aA,lb3,hb];exact⟨by simp,F3⟩
 have hok:jB R nk nc ⟨o,a,b,c⟩=false:=by unfold jB;rw[if_neg (by assumption),if_neg (by simp only[Bt,List.mem_cons,List.not_mem_nil,or_false];omega),if_neg (by simp only[mZ,List.mem_cons,List.not_mem_nil,or_false];omega),if_neg (by assumption),if_neg (by assumption),if_neg (by assumption),if_neg (by assumption)]
 rw[hok];have z:¬(o:Int)=1/\¬(o:Int)=2/\¬(o:Int)=7/\¬(o:Int)=8/\¬(o:Int)=18/\¬(o:Int)=19/\¬(o:Int)=20/\¬(o:Int)=23/\¬(o:Int)=24/\¬(o:Int)=25/\¬(o:Int)=26/\¬(o:Int)=27/\¬(o:Int)=28/\¬(o:Int)=3/\¬(o:Int)=4/\¬(o:Int)=5/\¬(o:Int)=6/\¬(o:Int)=9/\¬(o:Int)=10/\¬(o:Int)=11/\¬(o:Int)=12/\¬(o:Int)=13/\¬(o:Int)=14/\¬(o:Int)=15/\¬(o:Int)=16/\¬(o:Int)=21/\¬(o:Int)=22/\¬(o:Int)=29/\¬(o:Int)=30/\¬(o:Int)=31/\¬(o:Int)=17/\¬(o:Int)=32/\¬(o:Int)=33/\¬(o:Int)=34:=om;simp only[Mk,sC,seval,aG,m1,m2,fld0,aA,f0,z];exact⟨tt,F2⟩
open Go.Abs Go.Abs.S
def GX(i:xP):List ae:=[.int .u8 (i.o:Int),.int .i64 i.a,.int .i64 i.b,.int .i64 i.c]
def Lu:List xP->List ae
 | []=>[]
 |i::l=>GX i++Lu l
def wo:∀{l:List xP} {i:Nat} {x:xP},l[i]?=some x->((Lu l).drop (i*4)).take 4=GX x
 | [],i,x,h=>by simp at h
 |y::l,0,x,h=>by simp only[XH,sJ]at h;subst h;rfl
 |y::l,i+1,x,h=>by simp only[XI]at h;have:=wo h;rw[show(i+1)*4=(GX y).length+i*4 by simp[GX];omega];simp only[Lu];rw[List.drop_append,List.drop_of_length_le om,List.nil_append,show(GX y).length+i*4-(GX y).length=i*4 by omega];exact this
def Ct{l:List xP}{vc vd:ae}{R:Int}{nk n0:Nat}{H:aa}(hc:ez false vc=some (.int .i64 (nk:Int)))(z:eM (·<n0) H 4 vd l.length (Lu l))(hn:n0<=H.next)(o1:vc.one=true)(hl:l.length<=1000000) :
  aq Tryz.prog aF 23 [.agg [vc,.int .i64 R,vd]] H λu H'=>u=.int .i64 (Aj R nk l:Int)/\aS H.next H H':=by
 have o2:=z.one;have hd:=z.len;obtain⟨H1,m1,r1,n1,k1⟩:=aC H [vc,.int .i64 R,vd] (n:=3) (by rfl);have E1:aS H.next H H1:=⟨om,λc hc=>k1 c om⟩;obtain⟨bb,hbb⟩:∃b,b=H.next:=⟨_,rfl⟩;rw[<- hbb]at m1 r1 k1;have l0:al false 1 H1 (ah bb 3 0)=some vc:=aj r1 rfl rfl;have l1:al false 1 H1 (ah bb 3 1)=some (.int .i64 R):=aj r1 rfl rfl;have l2:al false 1 H1 (ah bb 3 2)=some vd:=aj r1 rfl rfl;refine ak rfl WK rfl ?_;unfold Aj;by_cases h4:R<4
 ·rw[if_pos (.inl h4)];simp only[Rr,sC,seval,aG,m1,aA,l1,h4];exact⟨tt,E1⟩
 by_cases h250:250<R
 ·rw[if_pos (.inr h250)];simp only[Rr,sC,seval,aG,m1,aA,l1,h4,h250];exact⟨tt,E1⟩
 rw[if_neg om];by_cases h0:l.length=0
 ·have h0':(l.length:Int)=0:=om;rw[if_pos (.inl h0)];simp only[Rr,sC,seval,aG,m1,aA,l1,h4,h250,l2,hd,h0'];exact⟨tt,E1⟩
 have h0':¬(l.length:Int)=0:=om;by_cases h6:65536<l.length
 ·have h6':(65536:Int)<(l.length:Int):=om;rw[if_pos (.inr (.inl h6))];simp only[Rr,sC,seval,aG,m1,aA,l1,h4,h250,l2,hd,h0',h6'];exact⟨tt,E1⟩
 have h6':¬(65536:Int)<(l.length:Int):=om;by_cases h7:65536<nk
 ·have h7':(65536:Int)<(nk:Int):=om;rw[if_pos (.inr (.inr h7))];simp only[Rr,sC,seval,aG,m1,fld0,aA,l1,h4,h250,l2,hd,h0',h6',l0,hc,h7'];exact⟨tt,E1⟩
 have h7':¬(65536:Int)<(nk:Int):=om;rw[if_neg om];simp only[Rr,sC,seval,aG,m1,fld0,aA,l1,h4,h250,l2,hd,h0',h6',l0,hc,h7'];refine aM (λm (T:bZ) K=>∃i:Nat,m=l.length-i/\i<=l.length/\T 1=ah bb 3 0/\T 31=vd/\T 32=.int .i64 (l.length:Int)/\T 33=.int .i64 (i:Int)/\aS H1.next H1 K/\(l.take i).all (jB R nk l.length)=true) l.length
  ⟨0,rfl,Nat.zero_le _,by simp only[sC,seval];try rfl,by simp only[sC,seval];try rfl,by simp only[sC,seval];try rfl,by simp only[sC,seval];try rfl,⟨Nat.le_refl _,λ_ _=>rfl⟩,rfl⟩ ?_
 rintro m T K ⟨i,rfl,hi,t1,t31,t32,t33,EK,hx⟩;have eK:=EK.next;have rK:=r1.same (EK.old bb om);have zK:eM (·<n0) K 4 vd l.length (Lu l):=z.mono λc hcc=>⟨hcc,by have:c<n0:=hcc;rw[EK.old c om,E1.old c om]⟩;have to:∀{K':aa},aS K.next K K'->aS H.next H K':=λe=>⟨by have:=e.next;omega,λc hcc=>by rw[e.old c om,EK.old c om,E1.old c hcc]⟩;by_cases hlt:i<l.length
 case neg=>
  obtain rfl:i=l.length:=om;have hlt':¬(l.length:Int)<(l.length:Int):=om;rw[List.take_length]at hx;rw[if_pos hx];obtain⟨x,hx2⟩:∃x,l[l.length-1]?=some x:=⟨_,Xx om⟩;have hlo:yE l=x.o:=by unfold yE;rw[List.getLast?_eq_getElem?,hx2]
  have wj:IntKind.i64.wrap ((l.length:Int)-1)=((l.length-1:Nat):Int):=iP;have ix:=zK.idx (i:=l.length-1) om;have pt:=zK.pt (i:=l.length-1) om;rw[wo hx2]at pt;have lo:al false 1 K (cz 4 vd (l.length-1))=some (.int .u8 (x.o:Int)):=pt.load0 rfl;have f0:=pt.fld0;have lK2:al false 1 K (ah bb 3 2)=some vd:=aj rK rfl rfl;rw[hlo];by_cases h32:x.o=32
  ·have q:(x.o:Int)=32:=om;rw[if_pos (.inl h32)];simp only[sC,seval,t1,t31,t32,t33,hlt',aA,lK2,hd,wj,ix,f0,lo,q];exact⟨tt,to ⟨Nat.le_refl _,λ_ _=>rfl⟩⟩
  have q:¬(x.o:Int)=32:=om;by_cases h34:x.o=34
  ·have q2:(x.o:Int)=34:=om;rw[if_pos (.inr h34)];simp only[sC,seval,t1,t31,t32,t33,hlt',aA,lK2,hd,wj,ix,f0,lo,q2];exact⟨tt,to ⟨Nat.le_refl _,λ_ _=>rfl⟩⟩
  ·have q2:¬(x.o:Int)=34:=om;rw[if_neg om];simp only[sC,seval,t1,t31,t32,t33,hlt',aA,lK2,hd,wj,ix,f0,lo,q,q2];exact⟨tt,to ⟨Nat.le_refl _,λ_ _=>rfl⟩⟩
 have hlt':(i:Int)<(l.length:Int):=om;obtain⟨x,hx2⟩:∃x,l[i]?=some x:=⟨_,Xx hlt⟩;have ix:=zK.idx hlt;have ld:=zK.load hlt;rw[wo hx2]at ld;have wk:IntKind.i64.wrap ((i:Int)+1)=((i+1:Nat):Int):=fT i 1 om;obtain⟨H2,m2,r2,n2,k2⟩:=aC K [.int .u8 0,.int .i64 0,.int .i64 0,.int .i64 0] (n:=4) rfl;obtain⟨H3,m3,r3,n3,k3⟩:=am r2 (n:=4) rfl (xs:=GX x) rfl rfl;have la:al true 4 H3 (ah K.next 4 0)=some (DG x):=aw r3 rfl;have k03:∀c,c<K.next->H3.get c=K.get c:=λc hcc=>by rw[k3 c om,k2 c om]
 have lb:al true 3 H3 (ah bb 3 0)=some (.agg [vc,.int .i64 R,vd]):=aw (rK.same (k03 bb om)) rfl;have m3':bh 4 H2 (ah K.next 4 0) (.agg (GX x))=some H3:=m3;simp only[sC,seval,t1,t31,t32,t33,hlt',ix,ld,m2,m3',la,lb];refine(Co (nk:=nk) (nc:=l.length) hc hd om o1 o2).mono ?_;rintro _ H4 ⟨rfl,E4⟩;have e4:=E4.next;have EK4:aS K.next K H4:=⟨om,λc hcc=>by rw[E4.old c om,k03 c hcc]⟩;cases hok:jB R nk l.length x with
 |false=>rw[if_neg (λh=>by rw[List.all_eq_true]at h;rw[h x (XG hx2)]at hok;exact absurd hok (by simp))];simp only[sC,seval];exact⟨tt,to EK4⟩
 |true=>simp only[sC,seval,t1,t31,t32,t33,wk];refine⟨l.length-(i+1),om,i+1,rfl,om,tt,tt,tt,tt,⟨om,λc hcc=>by rw[EK4.old c om,EK.old c hcc]⟩,?_⟩;rw[List.take_add_one,hx2,List.all_append,hx];simp[hok]
open Go.Abs Go.Abs.S
noncomputable section
set_option maxRecDepth 100000
def c21:cf:=by
 refine(λx (_:cN Tryz.prog 21=some x)=>x) ?a ?b
 case b=>cbv;rfl
def WM:cN Tryz.prog 21=some c21:=by kernel_rfl
def c46:cf:=by
 refine(λx (_:cN Tryz.prog 46=some x)=>x) ?a ?b
 case b=>cbv;rfl
def Ws:cN Tryz.prog 46=some c46:=by kernel_rfl
def W6:cf:=by
 refine(λx (_:cN Tryz.prog 88=some x)=>x) ?a ?b
 case b=>cbv;rfl
def Su:cN Tryz.prog 88=some W6:=by kernel_rfl
def OZ:cf:=by
 refine(λx (_:cN Tryz.prog 134=some x)=>x) ?a ?b
 case b=>cbv;rfl
def TB:cN Tryz.prog 134=some OZ:=by kernel_rfl
def UY:cf:=by
 refine(λx (_:cN Tryz.prog 135=some x)=>x) ?a ?b
 case b=>cbv;rfl
def TA:cN Tryz.prog 135=some UY:=by kernel_rfl
def RE:cf:=by
 refine(λx (_:cN Tryz.prog 171=some x)=>x) ?a ?b
 case b=>cbv;rfl
def SV:cN Tryz.prog 171=some RE:=by kernel_rfl
def UC:cf:=by
 refine(λx (_:cN Tryz.prog 172=some x)=>x) ?a ?b
 case b=>cbv;rfl
def SU:cN Tryz.prog 172=some UC:=by kernel_rfl
def ol:cf:=by
 refine(λx (_:cN Tryz.prog 193=some x)=>x) ?a ?b
 case b=>cbv;rfl
def SE:cN Tryz.prog 193=some ol:=by kernel_rfl
def C7:cf:=by
 refine(λx (_:cN Tryz.prog 194=some x)=>x) ?a ?b
 case b=>cbv;rfl
def SD:cN Tryz.prog 194=some C7:=by kernel_rfl
def UW:cf:=by
 refine(λx (_:cN Tryz.prog 137=some x)=>x) ?a ?b
 case b=>cbv;rfl
def Tx:cN Tryz.prog 137=some UW:=by kernel_rfl
def UX:cf:=by
 refine(λx (_:cN Tryz.prog 136=some x)=>x) ?a ?b
 case b=>cbv;rfl
def Tz:cN Tryz.prog 136=some UX:=by kernel_rfl
def Sp:cf:=by
 refine(λx (_:cN Tryz.prog 89=some x)=>x) ?a ?b
 case b=>cbv;rfl
def Qu:cN Tryz.prog 89=some Sp:=by kernel_rfl
def c47:cf:=by
 refine(λx (_:cN Tryz.prog 47=some x)=>x) ?a ?b
 case b=>cbv;rfl
def Wr:cN Tryz.prog 47=some c47:=by kernel_rfl
def c90:cf:=⟨141,zq [zo 3 (.box (.t 1))] (zq [zm 11 0,zc 12 11,zf 13 6 12,zl 14 13,zm 4 14] (zq [zm 15 0,zc 16 15,zf 17 0 16,zf 18 2 17,zl 19 18,zh 20 19,zm 5 20] (zq [zm 21 0,zm 22 4,zf 23 2 3,zt 24 4 23,zx 25 138 [.t 21,.t 22,.t 24]] (zq [zf 26 0 3,zl 27 26] (.block 0 (zq [zo 32 (.bin .eql (.t 27) (zu 1)),zm 31 32] (.cond (.t 31) (zq [zf 34 2 3,zt 35 4 34,zm 36 0,zc 37 36,zf 38 3 37,zl 39 38,zm 40 0,zc 41 40,zf 42 4 41,zl 43 42,zx 44 135 [.t 35,.t 39,.t 43],zm 33 44,ze 45 0 33,ze 46 1 33,zm 6 45,zm 7 46] (.seq (.seq (.draw [zm 47 0,zm 48 0,zm 49 0,zm 50 0,zc 51 50,zf 52 3 51,zl 53 52,zf 54 1 3,zl 55 54,zo 56 (.hf (.fill 0 (.lit 1 [.str []] [(0,1)])) [.t 55]),zo 57 (.append 1 16 (.t 53) (.t 56)),zm 58 0,zc 59 58,zf 60 4 59,zl 61 60,zm 62 6,zo 63 (.hf (.fill 0 (.lit 1 [zU 0] [(0,1)])) [.t 62]),zy 64 61 63,zm 65 0,zc 66 65,zf 67 5 66,zl 68 67,zm 69 4,zo 70 (.hf (.fill 0 (.lit 1 [zI 0] [(0,1)])) [.t 69]),zo 71 (.append 1 8 (.t 68) (.t 70)),zc 72 47,zf 73 3 72,zs 73 57,zc 74 48,zf 75 4 74,zs 75 64,zc 76 49,zf 77 5 76,zs 77 71] [[],[],[],[],[],[],[10],[],[],[],[],[],[],[],[9,10,17],[],[],[],[],[],[],[9,10,16,17,24],[],[],[],[],[],[],[],[],[],[],[],[]]) (.reg [zp (.pf .apart [.t 63,.t 56]),zp (.pf .apart [.t 63,.t 52]),zp (.pf .apart [.t 63,.t 54]),zp (.pf .apart [.t 63,.t 60]),zp (.pf .apart [.t 63,.t 67]),zp (.pf .apart [.t 63,.t 53]),zp (.pf .apart [.t 63,.t 56]),zp (.pf .apart [.t 63,.t 57]),zp (.pf .apart [.t 63,.t 52]),zp (.pf .apart [.t 63,.t 54]),zp (.pf .apart [.t 63,.t 60]),zp (.pf .apart [.t 63,.t 67]),zp (.pf .apart [.t 70,.t 56]),zp (.pf .apart [.t 70,.t 52]),zp (.pf .apart [.t 70,.t 54]),zp (.pf .apart [.t 70,.t 60]),zp (.pf .apart [.t 70,.t 67]),zp (.pf .apart [.t 70,.t 53]),zp (.pf .apart [.t 70,.t 56]),zp (.pf .apart [.t 70,.t 57]),zp (.pf .apart [.t 70,.t 52]),zp (.pf .apart [.t 70,.t 54]),zp (.pf .apart [.t 70,.t 60]),zp (.pf .apart [.t 70,.t 67]),zp (.pf .apart [.t 70,.t 63]),zp (.pf .apart [.t 70,.t 52]),zp (.pf .apart [.t 70,.t 54]),zp (.pf .apart [.t 70,.t 60]),zp (.pf .apart [.t 70,.t 67]),zp (.pf .apart [.t 70,.t 61]),zp (.pf .apart [.t 70,.t 63]),zp (.pf .apart [.t 70,.t 64]),zp (.pf .apart [.t 70,.t 52]),zp (.pf .apart [.t 70,.t 54]),zp (.pf .apart [.t 70,.t 60]),zp (.pf .apart [.t 70,.t 67])])) (.reg [zm 78 0,zc 79 78,zf 80 6 79,zl 81 80,zk 82 .add 81 1,zc 83 78,zf 84 6 83,zs 84 82]))) (zq [zo 86 (.bin .eql (.t 27) (zu 2)),zm 85 86] (.cond (.t 85) (.reg [zm 87 0,zm 88 0,zf 89 1 3,zl 90 89,zx 91 140 [.t 88,.t 90],zm 92 4,zx 93 139 [.t 87,zu 2,.t 91,.t 92,zi 0]]) (zq [zo 95 (.bin .eql (.t 27) (zu 3)),zm 94 95] (.cond (.t 94) (zq [zm 96 0,zm 97 4,zx 98 139 [.t 96,zu 33,.t 97,zi 0,zi 0],zm 8 98] (zq [zm 99 0,zf 100 6 3,zl 101 100,zx 102 141 [.t 99,.t 101]] (zr [zf 103 7 3,zl 104 103,zh 105 104,zk 106 .gtr 105 0] 106 (zq [zo 9 (.mv (.c (.int .i64 (.negSucc 0))))] (zr [zf 107 6 3,zl 108 107,zx 109 142 [.t 108],zo 110 (.un .not (.t 109))] 110 (.reg [zm 111 0,zx 112 139 [.t 111,zu 32,zi 0,zi 0,zi 0],zm 9 112]) .skip (zq [zm 113 0,zm 114 8,zx 115 143 [.t 113,.t 114]] (zq [zm 116 9,zm 8 116] (.reg [zm 117 0,zf 118 7 3,zl 119 118,zx 120 141 [.t 117,.t 119]]))))) .skip (zq [zm 121 8,zk 122 .geq 121 0] (.cond (.t 122) (.reg [zm 123 0,zm 124 8,zx 125 143 [.t 123,.t 124]]) .skip))))) (zq [zo 127 (.bin .eql (.t 27) (zu 4)),zm 126 127] (.cond (.t 126) (zq [zm 128 0,zm 129 4,zx 130 139 [.t 128,zu 33,.t 129,zi 0,zi 0],zm 10 130] (zq [zm 131 0,zf 132 6 3,zl 133 132,zx 134 141 [.t 131,.t 133]] (zq [zm 135 0,zm 136 5,zx 137 139 [.t 135,zu 32,zi 0,zi 0,.t 136]] (.reg [zm 138 0,zm 139 10,zx 140 143 [.t 138,.t 139]])))) (.reg [zm 28 0,zm 29 4,zx 30 139 [.t 28,zu 34,.t 29,zi 0,zi 0]])))))))))))))),[]⟩
def V0:cN Tryz.prog 90=some c90:=by kernel_rfl
def UV:cf:=⟨165,zq [zo 5 (.box (.t 2))] (zq [zm 12 0,zm 13 1,zx 14 173 [.t 12,.t 13]] (.seq (zq [zf 15 0 5,zl 16 15] (.block 0 (zq [zo 18 (.bin .eql (.t 16) (zu 1)),zm 17 18] (.cond (.t 17) (zq [zo 6 (.mv (zi 0))] (.seq (.block 1 (.loop (zr [zm 19 6,zm 20 0,zc 21 20,zf 22 0 21,zf 23 0 22,zl 24 23,zh 25 24,zb 26 .lss 19 25,zm 27 26,zg 28 (.mv (.t 0)) 27 true,zg 29 (.nilChk (.t 28)) 27 true,zg 30 (.fieldA 0 (.t 29)) 27 true,zg 31 (.fieldA 0 (.t 30)) 27 true,zg 32 (.load false 1 (.t 31)) 27 true,zg 33 (.mv (.t 6)) 27 true,zg 34 (.idxA 1 (.t 32) (.t 33)) 27 true,zg 35 (.load false 1 (.t 34)) 27 true,zg 36 (.fieldA 2 (.t 5)) 27 true,zg 37 (.load false 1 (.t 36)) 27 true,zg 38 (.bin .neq (.t 35) (.t 37)) 27 true,zo 39 (.pick (.t 27) (.t 38) (.c (.bool false)))] 39 .skip (.exit 1) (.block 2 (.reg [zm 40 6,zk 41 .add 40 1,zm 6 41]))))) (zr [zm 42 6,zm 43 0,zc 44 43,zf 45 0 44,zf 46 0 45,zl 47 46,zh 48 47,zb 49 .eql 42 48] 49 (.draw [zm 50 0,zm 51 0,zc 52 51,zf 53 0 52,zf 54 0 53,zl 55 54,zf 56 2 5,zl 57 56,zo 58 (.buildSl 1 [zI 0] [(0,1,.t 57)]),zo 59 (.append 1 8 (.t 55) (.t 58)),zc 60 50,zf 61 0 60,zf 62 0 61,zs 62 59] [[],[],[],[],[],[9],[],[],[],[],[],[],[],[]]) .skip (zq [zm 63 0,zm 64 1,zm 65 6,zx 66 139 [.t 63,zu 1,.t 64,.t 65,zi 0]] .ret)))) (zq [zo 68 (.bin .eql (.t 16) (zu 2)),zm 67 68] (.cond (.t 67) (zq [zm 69 0,zm 70 1,zm 71 0,zf 72 1 5,zl 73 72,zx 74 140 [.t 71,.t 73],zx 75 139 [.t 69,zu 2,.t 70,.t 74,zi 0]] .ret) .skip)))))) (.seq (zq [zo 7 (.mv (zi 0))] (.block 3 (.loop (zr [zm 76 7,zf 77 3 5,zl 78 77,zh 79 78,zb 80 .lss 76 79] 80 .skip (.exit 3) (.seq (.block 4 (.reg [zm 83 0,zm 84 1,zm 85 7,zb 86 .add 84 85,zf 87 3 5,zl 88 87,zm 89 7,zo 90 (.idxA 4 (.t 88) (.t 89)),zt 91 4 90,zx 92 138 [.t 83,.t 86,.t 91]])) (.reg [zm 81 7,zk 82 .add 81 1,zm 7 82])))))) (zr [zf 93 0 5,zl 94 93,zo 95 (.bin .eql (.t 94) (zu 3)),zm 96 95,zg 97 (.fieldA 3 (.t 5)) 96 true,zg 98 (.load false 1 (.t 97)) 96 true,zg 99 (.len false (.t 98)) 96 true,zg 100 (.bin .eql (.t 99) (zi 1)) 96 true,zo 101 (.pick (.t 96) (.t 100) (.c (.bool false)))] 101 (zq [zo 8 (.mv (zu 7))] (zr [zf 102 1 5,zl 103 102,zo 104 (.bin .eql (.t 103) (.c (.str [33])))] 104 (.reg [zo 8 (.mv (zu 8))]) .skip (zq [zm 105 0,zm 106 8,zm 107 1,zm 108 1,zx 109 139 [.t 105,.t 106,.t 107,.t 108,zi 0]] .ret))) .skip (zr [zf 110 0 5,zl 111 110,zo 112 (.bin .eql (.t 111) (zu 3))] 112 (zq [zf 114 3 5,zl 115 114,zo 116 (.idxA 4 (.t 115) (zi 0)),zt 117 4 116,zm 118 0,zc 119 118,zf 120 3 119,zl 121 120,zm 122 0,zc 123 122,zf 124 4 123,zl 125 124,zx 126 135 [.t 117,.t 121,.t 125],zm 113 126,ze 127 0 113,ze 128 1 113,zm 9 127,zm 10 128] (zr [zf 129 1 5,zl 130 129,zo 131 (.bin .eql (.t 130) (.c (.str [42]))),zm 132 131,zg 133 (.mv (.t 9)) 132 true,zg 134 (.bin .eql (.t 133) (zu 2)) 132 true,zo 135 (.pick (.t 132) (.t 134) (.c (.bool false)))] 135 (.reg [zm 136 0,zm 137 1,zm 138 1,zk 139 .add 138 1,zm 140 1,zx 141 139 [.t 136,zu 5,.t 137,.t 139,.t 140]]) (.reg [zm 142 0,zf 143 1 5,zl 144 143,zx 145 174 [.t 144],zm 146 1,zm 147 1,zm 148 1,zk 149 .add 148 1,zx 150 139 [.t 142,.t 145,.t 146,.t 147,.t 149]]) .ret)) .skip (zq [zo 11 (.mv (zi 0))] (zr [zf 151 3 5,zl 152 151,zh 153 152,zk 154 .eql 153 2] 154 (.reg [zm 155 1,zk 156 .add 155 1,zm 11 156]) .skip (.reg [zm 157 0,zf 158 1 5,zl 159 158,zx 160 175 [.t 159],zm 161 1,zm 162 1,zm 163 11,zx 164 139 [.t 157,.t 160,.t 161,.t 162,.t 163]])))))))),[]⟩
def Tw:cN Tryz.prog 138=some UV:=by kernel_rfl
def RD:cf:=⟨17,zq [zm 4 1,zm 5 0,zc 6 5,zf 7 0 6,zf 8 1 7,zl 9 8,zb 10 .geq 4 9] (.cond (.t 10) (.reg [zm 11 0,zm 12 1,zk 13 .add 12 1,zc 14 11,zf 15 0 14,zf 16 1 15,zs 16 13]) .skip),[]⟩
def SS:cN Tryz.prog 173=some RD:=by kernel_rfl
def UU:cf:=by
 refine(λx (_:cN Tryz.prog 139=some x)=>x) ?a ?b
 case b=>cbv;rfl
def Tv:cN Tryz.prog 139=some UU:=by kernel_rfl
def UT:cf:=by
 refine(λx (_:cN Tryz.prog 140=some x)=>x) ?a ?b
 case b=>cbv;rfl
def Tt:cN Tryz.prog 140=some UT:=by kernel_rfl
def UB:cf:=by
 refine(λx (_:cN Tryz.prog 174=some x)=>x) ?a ?b
 case b=>cbv;rfl
def SR:cN Tryz.prog 174=some UB:=by kernel_rfl
def UA:cf:=by
 refine(λx (_:cN Tryz.prog 175=some x)=>x) ?a ?b
 case b=>cbv;rfl
def SQ:cN Tryz.prog 175=some UA:=by kernel_rfl
def US:cf:=⟨49,zq [zm 6 0,zc 7 6,zf 8 3 7,zl 9 8,zh 10 9,zm 11 0,zc 12 11,zf 13 6 12,zl 14 13,zm 4 10,zm 5 14] (zq [zm 15 0,zm 16 1,zx 17 47 [.t 15,.t 16]] (.reg [zm 18 0,zm 19 0,zm 20 0,zm 21 0,zm 22 0,zc 23 22,zf 24 3 23,zl 25 24,zm 26 4,zo 27 (.sl 1 (.t 25) none (some (.t 26)) none),zm 28 0,zc 29 28,zf 30 4 29,zl 31 30,zm 32 4,zo 33 (.sl 1 (.t 31) none (some (.t 32)) none),zm 34 0,zc 35 34,zf 36 5 35,zl 37 36,zm 38 4,zo 39 (.sl 1 (.t 37) none (some (.t 38)) none),zm 40 5,zc 41 18,zf 42 3 41,zs 42 27,zc 43 19,zf 44 4 43,zs 44 33,zc 45 20,zf 46 5 45,zs 46 39,zc 47 21,zf 48 6 47,zs 48 40])),[]⟩
def Ts:cN Tryz.prog 141=some US:=by kernel_rfl
def Jo:cf:=by
 refine(λx (_:cN Tryz.prog 142=some x)=>x) ?a ?b
 case b=>cbv;rfl
def JK:cN Tryz.prog 142=some Jo:=by kernel_rfl
def UR:cf:=⟨18,.reg [zm 4 0,zc 5 4,zf 6 0 5,zf 7 2 6,zl 8 7,zm 9 1,zm 10 0,zc 11 10,zf 12 0 11,zf 13 2 12,zl 14 13,zh 15 14,zo 16 (.idxA 4 (.t 8) (.t 9)),zf 17 3 16,zs 17 15],[]⟩
def Tq:cN Tryz.prog 143=some UR:=by kernel_rfl
def Rq:cf:=by
 refine(λx (_:cN Tryz.prog 24=some x)=>x) ?a ?b
 case b=>cbv;rfl
def WJ:cN Tryz.prog 24=some Rq:=by kernel_rfl
def Xd:cf:=by
 refine(λx (_:cN Tryz.prog 50=some x)=>x) ?a ?b
 case b=>cbv;rfl
def Wn:cN Tryz.prog 50=some Xd:=by kernel_rfl
def VP:cf:=by
 refine(λx (_:cN Tryz.prog 93=some x)=>x) ?a ?b
 case b=>cbv;rfl
def Qt:cN Tryz.prog 93=some VP:=by kernel_rfl
def W4:cf:=by
 refine(λx (_:cN Tryz.prog 94=some x)=>x) ?a ?b
 case b=>cbv;rfl
def VX:cN Tryz.prog 94=some W4:=by kernel_rfl
def c26:cf:=⟨44,zq [zo 1 (.box (.t 0)),zo 2 (.mv (.c (.str [])))] (zq [zo 5 (.buildSl 34 [.str []] [(0,1,.c (.str [99,111,110,115,116])),(1,1,.c (.str [109,111,118,101])),(2,1,.c (.str [97,100,100])),(3,1,.c (.str [115,117,98])),(4,1,.c (.str [116,105,109,101,115])),(5,1,.c (.str [111,118,101,114])),(6,1,.c (.str [110,101,103])),(7,1,.c (.str [110,111,116])),(8,1,.c (.str [101,113])),(9,1,.c (.str [110,101])),(10,1,.c (.str [108,101])),(11,1,.c (.str [103,101])),(12,1,.c (.str [108,116])),(13,1,.c (.str [103,116])),(14,1,.c (.str [97,110,100])),(15,1,.c (.str [111,114])),(16,1,.c (.str [118,101,99])),(17,1,.c (.str [120])),(18,1,.c (.str [121])),(19,1,.c (.str [122])),(20,1,.c (.str [100,111,116])),(21,1,.c (.str [99,114,111,115,115])),(22,1,.c (.str [117,110,105,116])),(23,1,.c (.str [115,113,114,116])),(24,1,.c (.str [115,105,110])),(25,1,.c (.str [99,111,115])),(26,1,.c (.str [97,98,115])),(27,1,.c (.str [102,108,111,111,114])),(28,1,.c (.str [109,105,110])),(29,1,.c (.str [109,97,120])),(30,1,.c (.str [115,97,109,112,108,101])),(31,1,.c (.str [106,117,109,112])),(32,1,.c (.str [117,110,108,101,115,115])),(33,1,.c (.str [114,101,116,117,114,110]))]),zm 3 5] (zq [zf 6 0 1,zl 7 6,zv 8 .i64 7,zx 9 53 [.t 8],zo 10 (.bin .add (.c (.str [111,112])) (.t 9)),zm 4 10] (zr [zf 11 0 1,zl 12 11,zo 13 (.bin .geq (.t 12) (zu 1)),zm 14 13,zg 15 (.fieldA 0 (.t 1)) 14 true,zg 16 (.load false 1 (.t 15)) 14 true,zg 17 (.conv .i64 (.t 16)) 14 true,zg 18 (.mv (.t 3)) 14 true,zg 19 (.len false (.t 18)) 14 true,zg 20 (.bin .leq (.t 17) (.t 19)) 14 true,zo 21 (.pick (.t 14) (.t 20) (.c (.bool false)))] 21 (.reg [zm 22 3,zf 23 0 1,zl 24 23,zo 25 (.bin .sub (.t 24) (zu 1)),zd 26 22 25,zl 27 26,zm 4 27]) .skip (.seq (.draw [zm 28 4,zo 29 (.bin .add (.t 28) (.c (.str [32]))),zf 30 1 1,zl 31 30,zx 32 53 [.t 31],zb 33 .add 29 32,zo 34 (.bin .add (.t 33) (.c (.str [32]))),zf 35 2 1,zl 36 35,zx 37 53 [.t 36],zb 38 .add 34 37,zo 39 (.bin .add (.t 38) (.c (.str [32]))),zf 40 3 1,zl 41 40,zx 42 53 [.t 41],zb 43 .add 39 42,zm 2 43] [[],[],[],[],[],[],[],[],[4],[],[],[],[],[4,9],[],[],[]]) .ret)))),[.t 2]⟩
def WH:cN Tryz.prog 26=some c26:=by kernel_rfl
def Xc:cf:=by
 refine(λx (_:cN Tryz.prog 53=some x)=>x) ?a ?b
 case b=>cbv;rfl
def Wk:cN Tryz.prog 53=some Xc:=by kernel_rfl
end
end Go.Proofs.Wo
