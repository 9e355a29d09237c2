/- Part of a proof (YX5 YX6 YX7 YX8 YD1 YT5 YE1 YE2 YE3); no condition. -/
import Derived.Test.YteabnpheoiakdaaGreatDoorProg
import Derived.KernelRfl
import Derived.Test.YteabnpheoiakdaaGreatDoorP6
import Derived.Test.YteabnpheoiakdaaGreatDoorP7
import Derived.Test.YteabnpheoiakdaaGreatDoorP9
set_option linter.unusedSimpArgs false
set_option linter.unusedVariables false
set_option linter.defProp false
set_option linter.unnecessarySimpa false
namespace Go.Proofs.Wo
open Go.Abs Go.Abs.S
def vH:∀(N:Nat) {e:Ex} {c c':List ae} {H:aa},e.size<=N->e.size<=1000000->XE (·<H.next) H e c->XE (·<H.next) H e c' ->
  aq Tryz.prog aF 39 [.agg c,.agg c'] H λu H'=>u=.bool true/\aS H.next H H'
 |0,e,_,_,_,h,_,_,_=>absurd (fg e) om
 |N+1,.mk k s z kids,c,c',H,h,hs,hx,hx'=>by
  obtain⟨v,C,rfl,z1,z2⟩:=hx;obtain⟨v',C',rfl,y1,y2⟩:=hx';have hsz:(Ex.mk k s z kids).size=aU kids+1:=rfl;refine ak rfl Wy rfl ?_;obtain⟨H1,m1,r1,n1,k1⟩:=aC H [.int .u8 (k:Int),.str s,.int .i64 z,v] (n:=4) rfl;obtain⟨H2,m2,r2,n2,k2⟩:=aC H1 [.int .u8 (k:Int),.str s,.int .i64 z,v'] (n:=4) rfl;have E2:aS H.next H H2:=⟨om,λc hc=>by rw[k2 c om,k1 c om]⟩;have r12:be H2 H.next [.int .u8 (k:Int),.str s,.int .i64 z,v]:=r1.same (k2 _ om);have p0:al false 1 H2 (ah H.next 4 0)=some (.int .u8 (k:Int)):=aj r12 rfl rfl;have p1:al false 1 H2 (ah H.next 4 1)=some (.str s):=aj r12 rfl rfl;have p2:al false 1 H2 (ah H.next 4 2)=some (.int .i64 z):=aj r12 rfl rfl;have p3:al false 1 H2 (ah H.next 4 3)=some v:=aj r12 rfl rfl;have q0:al false 1 H2 (ah H1.next 4 0)=some (.int .u8 (k:Int)):=aj r2 rfl rfl;have q1:al false 1 H2 (ah H1.next 4 1)=some (.str s):=aj r2 rfl rfl;have q2:al false 1 H2 (ah H1.next 4 2)=some (.int .i64 z):=aj r2 rfl rfl;have q3:al false 1 H2 (ah H1.next 4 3)=some v':=aj r2 rfl rfl;have ln:=z1.len;have ln':=y1.len;have hlen:=cO kids;simp only[c39,sC,seval,aG,m1,m2,fld0,aA,p0,p1,p2,p3,q0,q1,q2,q3,ln,ln'];refine aM (λm (T:bZ) K=>∃(i:Nat),m=kids.length-i/\i<=kids.length/\T 2=ah H.next 4 0/\T 3=ah H1.next 4 0/\T 5=.int .i64 (i:Int)/\aS H2.next H2 K) kids.length
   ⟨0,rfl,Nat.zero_le _,by simp only[sC,seval],by simp only[sC,seval],by simp only[sC,seval];try rfl,aS.refl _ _⟩ ?_
  rintro m T K ⟨i,rfl,hi,t2,t3,t5,FK⟩;have eK:=FK.next;have l1K:al false 1 K (ah H.next 4 3)=some v:=aj (r12.same (FK.old _ om)) rfl rfl;have l2K:al false 1 K (ah H1.next 4 3)=some v':=aj (r2.same (FK.old _ om)) rfl rfl;have EK:aS H.next H K:=E2.trans (FK.less om);by_cases hlt:i<kids.length
  case neg=>obtain rfl:i=kids.length:=om;have hlt':¬(kids.length:Int)<(kids.length:Int):=om;simp only[sC,seval,t2,t3,t5,aA,l1K,ln,hlt'];exact⟨tt,EK⟩
  have hlt':(i:Int)<(kids.length:Int):=om;obtain⟨e,he⟩:∃e,kids[i]?=some e:=⟨_,Xx hlt⟩;have km:∀b,b<H.next->b<K.next/\K.get b=H.get b:=λb hb=>⟨by have:=EK.next;omega,EK.old b hb⟩;have z13:=z1.mono km;have y13:=y1.mono km;have ix:=z13.idx hlt;have iy:=y13.idx hlt;have ld:=z13.load hlt;have ly:=y13.load hlt;have he3:=(z2.mono km).at he;have hy3:=(y2.mono km).at he;have hsm:=iZ (XG he);have wi:IntKind.i64.wrap ((i:Int)+1)=((i+1:Nat):Int):=fT i 1 om;simp only[sC,seval,t2,t3,t5,aA,l1K,l2K,ln,hlt',ix,ld,iy,ly];refine(vH N om om he3 hy3).mono ?_;rintro _ K2 ⟨rfl,E3⟩;simp only[sC,seval,t2,t3,t5,wi];exact⟨kids.length-(i+1),om,i+1,rfl,om,tt,tt,tt,FK.trans (E3.less om)⟩
def En:∀(N:Nat) {l:List St} {C C':List ae} {v v':ae} {H:aa},au l<=N->au l<=1000000->eM (·<H.next) H 9 v l.length C->lV (·<H.next) H l C->eM (·<H.next) H 9 v' l.length C'->lV (·<H.next) H l C' ->
  aq Tryz.prog aF 14 [v,v',.bool true] H λu H'=>u=.bool true/\aS H.next H H':=by
 intro N;induction N with
 |zero=>
  intro l C C' v v' H h hs z1 z2 w1 w2;have hl0:l=[]:=by
   cases l with
   |nil=>rfl
   |cons x l=>have:=ee x;simp only[au]at h;omega
  subst hl0;have ln:=z1.len;have ln':=w1.len;have h0:¬(0:Int)<(([]:List St).length:Int):=by simp
  refine ak rfl Tu rfl ?_;simp only[Xi,sC,seval,ln,ln'];refine aM (λm (T:bZ) K=>H=K/\T 0=v/\T 7=.int .i64 0) 0 ⟨rfl,by simp only[sC,seval],by simp only[sC,seval]⟩ ?_;rintro m T K ⟨rfl,t0,t7⟩;simp only[sC,seval,t0,t7,ln,h0];exact⟨tt,aS.refl _ _⟩
 |succ N ih=>
  intro l C C' v v' H h hs z1 z2 w1 w2;have ln:=z1.len;have ln':=w1.len;refine ak rfl Tu rfl ?_;simp only[Xi,sC,seval,ln,ln'];refine aM (λm (T:bZ) K=>∃(i:Nat),m=l.length-i/\i<=l.length/\T 0=v/\T 1=v'/\T 2=.bool true/\T 7=.int .i64 (i:Int)/\aS H.next H K) l.length
   ⟨0,rfl,Nat.zero_le _,by simp only[sC,seval],by simp only[sC,seval],by simp only[sC,seval];try rfl,by simp only[sC,seval];try rfl,aS.refl _ _⟩ ?_
  rintro m T K ⟨i,rfl,hi,t0,t1,t2,t7,EK⟩;have eK:=EK.next;by_cases hlt:i<l.length
  case neg=>obtain rfl:i=l.length:=om;have hlt':¬(l.length:Int)<(l.length:Int):=om;simp only[sC,seval,t0,t1,t2,t7,ln,hlt'];exact⟨tt,EK⟩
  have hlt':(i:Int)<(l.length:Int):=om;obtain⟨x,he⟩:∃e,l[i]?=some e:=⟨_,Xx hlt⟩;have km:∀b,b<H.next->b<K.next/\K.get b=H.get b:=λb hb=>⟨om,EK.old b hb⟩;have z13:=z1.mono km;have ix:=z13.idx hlt;have ld:∀{J:aa},aS K.next K J->al true 9 J (cz 9 v i)=some (.agg ((C.drop (i*9)).take 9)):=λ{J} q=>(z13.mono (Q:=(·<J.next)) λb hb=>⟨by have:=q.next;omega,q.old b hb⟩).load hlt;have w13:=w1.mono km;have iw:=w13.idx hlt;have lw:∀{J:aa},aS K.next K J->al true 9 J (cz 9 v' i)=some (.agg ((C'.drop (i*9)).take 9)):=λ{J} q=>(w13.mono (Q:=(·<J.next)) λb hb=>⟨by have:=q.next;omega,q.old b hb⟩).load hlt;have hsm:=dl (XG he);have hlen:=db l;have wi:IntKind.i64.wrap ((i:Int)+1)=((i+1:Nat):Int):=fT i 1 om;have hx3:=(z2.mono km).at he;have hy3:=(w2.mono km).at he;have hone:=hx3.one;have hone':=hy3.one;have hae:=hy3.aeqs;obtain⟨k,s,e,body,els,line⟩:=x;obtain⟨ce,vb,Cb,ve,Ce,hcell,x1,y1,y2,y3,y4⟩:=hx3;obtain⟨c0,c1,c2,c3,rfl⟩:∃a b c d,ce=[a,b,c,d]:=by
   have:=x1.len
   match ce,this with
   | [a,b,c,d],_=>exact⟨a,b,c,d,rfl⟩
  obtain⟨ce',vb',Cb',ve',Ce',hcell',e1,y1',y2',y3',y4'⟩:=hy3;obtain⟨d0,d1,d2,d3,rfl⟩:∃a b c d,ce'=[a,b,c,d]:=by
   have:=e1.len
   match ce',this with
   | [a,b,c,d],_=>exact⟨a,b,c,d,rfl⟩
  rw[hcell]at hone;simp only[hcell]at ld;rw[hcell']at hone' hae;simp only[hcell']at lw;have hsz:(St.mk k s e body els line).size=e.size+au body+au els+1:=rfl;obtain⟨K2,hK2⟩:∃K2,K2=(K.push (.cells [.int .u8 0,.str [],.int .u8 0,.str [],.int .i64 0,.slice none 0 (.known 0),.slice none 0 (.known 0),.slice none 0 (.known 0),.int .i64 0] 0 false)).push (.cells [.int .u8 0,.str [],.int .u8 0,.str [],.int .i64 0,.slice none 0 (.known 0),.slice none 0 (.known 0),.slice none 0 (.known 0),.int .i64 0] 0 false):=⟨_,rfl⟩;have n2:K2.next=K.next+2:=by rw[hK2];rfl
  have k2:∀c,c<K.next->K2.get c=K.get c:=λc hc=>by rw[hK2,aa.get_push,if_neg (by rw[aV];omega),aB hc]
  have g8:K2.get K.next=some (.cells [.int .u8 0,.str [],.int .u8 0,.str [],.int .i64 0,.slice none 0 (.known 0),.slice none 0 (.known 0),.slice none 0 (.known 0),.int .i64 0] 0 false):=by rw[hK2,aa.get_push,if_neg (by rw[aV];omega),aa.get_push,if_pos rfl]
  have g9:K2.get (K.next+1)=some (.cells [.int .u8 0,.str [],.int .u8 0,.str [],.int .i64 0,.slice none 0 (.known 0),.slice none 0 (.known 0),.slice none 0 (.known 0),.int .i64 0] 0 false):=by rw[hK2,aa.get_push,if_pos (by rw[aV])]
  have cl8:ec K2 K.next _ none=some (ah K.next 9 0):=fG g8 rfl;have cl9:ec K2 (K.next+1) _ none=some (ah (K.next+1) 9 0):=fG g9 rfl;obtain⟨K3,m3,r3,n3,k3⟩:=am (H:=K2) (b:=K.next) ⟨0,g8,Nat.zero_le _⟩ (n:=9) rfl (xs:=.int .u8 (k:Int)::.str s::([c0,c1,c2,c3]++[vb,ve,.int .i64 line])) rfl hone;obtain⟨K4,m4,r4,n4,k4⟩:=am (H:=K3) (b:=K.next+1) ⟨0,(k3 _ om).trans g9,Nat.zero_le _⟩ (n:=9) rfl (xs:=.int .u8 (k:Int)::.str s::([d0,d1,d2,d3]++[vb',ve',.int .i64 line])) rfl hone';simp only[XQ,List.nil_append]at ld lw m3 m4 r3 r4 hae;have E2:aS K.next K K2:=⟨om,k2⟩;have E3:aS K.next K K3:=⟨om,λc hc=>by rw[k3 c om,k2 c hc]⟩;have E4:aS K.next K K4:=⟨om,λc hc=>by rw[k4 c om,E3.old c hc]⟩;have ld2:=ld E2;have lw2:=lw E2;have lw3:=lw E3;have q3:be K4 K.next _:=r3.same (k4 _ om);have hba:aeq (.agg [.int .u8 (k:Int),.str s,d0,d1,d2,d3,vb',ve',.int .i64 line]) (.agg [.int .u8 (k:Int),.str s,d0,d1,d2,d3,vb',ve',.int .i64 line])=true:=by rw[aeq];exact hae
  simp only[sC,seval,t0,t1,t2,t7,ln,hlt'];refine er ?_;simp only[aH,dT,bp,iE,j6,<- hK2];simp only[sR,sC,seval,gj,t0,t1,t2,t7,ix,ld2,iw,lw2,cl8,cl9,m3,m4];simp only[ci,cj,bP,dE,cm,cQ,and_true,true_and,List.map_cons,List.map_nil,sC,seval,aA,t0,t1,t2,t7];refine⟨⟨_,rfl,λ_=>⟨_,lw3,hba⟩⟩,?_⟩;have a0:∀{J:aa},aS K4.next K4 J->be J K.next [.int .u8 (k:Int),.str s,c0,c1,c2,c3,vb,ve,.int .i64 line]:=λq=>q3.same (q.old _ om);have b0:∀{J:aa},aS K4.next K4 J->be J (K.next+1) [.int .u8 (k:Int),.str s,d0,d1,d2,d3,vb',ve',.int .i64 line]:=λq=>r4.same (q.old _ om);have R0:=aS.refl K4.next K4;have u0:al false 1 K4 (ah K.next 9 0)=some (.int .u8 (k:Int)):=aj (a0 R0) rfl rfl;have u1:al false 1 K4 (ah K.next 9 1)=some (.str s):=aj (a0 R0) rfl rfl;have u8:al false 1 K4 (ah K.next 9 8)=some (.int .i64 line):=aj (a0 R0) rfl rfl;have u2:al true 4 K4 (ah K.next 9 2)=some (.agg [c0,c1,c2,c3]):=gQ (a0 R0) (n:=9) rfl (i:=2) (k:=4) om;have x0:al false 1 K4 (ah (K.next+1) 9 0)=some (.int .u8 (k:Int)):=aj (b0 R0) rfl rfl;have x1':al false 1 K4 (ah (K.next+1) 9 1)=some (.str s):=aj (b0 R0) rfl rfl;have x8:al false 1 K4 (ah (K.next+1) 9 8)=some (.int .i64 line):=aj (b0 R0) rfl rfl;have x2:al true 4 K4 (ah (K.next+1) 9 2)=some (.agg [d0,d1,d2,d3]):=gQ (b0 R0) (n:=9) rfl (i:=2) (k:=4) om;have kk:∀{K':aa},aS K.next K K'->∀b,b<K.next->b<K'.next/\K'.get b=K.get b:=λq b hb=>⟨by have:=q.next;omega,q.old b hb⟩;simp only[sC,seval,aA,fld0,u0,u1,u8,u2,x0,x1',x8,x2,t0,t1,t2,t7];refine(vH e.size rL om (x1.mono (kk E4)) (e1.mono (kk E4))).mono ?_;rintro _ K5 ⟨rfl,E5⟩;have e4:=E4.next;have e5:=E5.next;have E05:=E4.trans (E5.less om);have u6:al false 1 K5 (ah K.next 9 6)=some vb:=aj (a0 E5) rfl rfl;have x6:al false 1 K5 (ah (K.next+1) 9 6)=some vb':=aj (b0 E5) rfl rfl;simp only[sC,seval,aA,fld0,u6,x6,t0,t1,t2,t7];refine(ih om om (y1.mono (kk E05)) (y2.mono (kk E05)) (y1'.mono (kk E05)) (y2'.mono (kk E05))).mono ?_;rintro _ K6 ⟨rfl,E6⟩;have e6:=E6.next;have E46:=E5.trans (E6.less om);have E06:=E05.trans (E6.less om);have u7:al false 1 K6 (ah K.next 9 7)=some ve:=aj (a0 E46) rfl rfl;have x7:al false 1 K6 (ah (K.next+1) 9 7)=some ve':=aj (b0 E46) rfl rfl;simp only[sC,seval,aA,fld0,u7,x7,t0,t1,t2,t7];refine(ih om om (y3.mono (kk E06)) (y4.mono (kk E06)) (y3'.mono (kk E06)) (y4'.mono (kk E06))).mono ?_;rintro _ K7 ⟨rfl,E7⟩;have e7:=E7.next;have E07:=E06.trans (E7.less om);simp only[sC,seval,t0,t1,t2,t7,wi];exact⟨l.length-(i+1),om,i+1,rfl,om,tt,tt,tt,tt,EK.trans (E07.less om)⟩
open Go.Abs Go.Abs.S
def yR{H:aa}{v:ae}{l:List Bs}{n:Nat}(c:fo n H v (l.map ae.str))(x:Bs)(hl:l.length<=1000):aq Tryz.prog aF 126 [.str x,v] H λu H'=>H=H'/\u=.bool (l.contains x):=by
 refine ak rfl TH rfl ?_;have ln:ez false v=some (.int .i64 (l.length:Int)):=by have:=c.len;rwa [XM]at this
 simp only[U4,sC,seval];refine aM (λm (T:bZ) H'=>H=H'/\∃i:Nat,m=l.length-i/\i<=l.length/\T 0=.str x/\T 1=v/\T 5=.int .i64 (i:Int)/\(l.take i).contains x=false) l.length
  ⟨rfl,0,rfl,om,by simp only[sC,seval],by simp only[sC,seval],by simp only[sC,seval];try rfl,by simp⟩ ?_
 rintro m T _ ⟨rfl,i,rfl,hi,t0,t1,t5,hx⟩;by_cases hlt:i<l.length
 case neg=>obtain rfl:i=l.length:=om;have hlt':¬(l.length:Int)<(l.length:Int):=om;rw[List.take_length]at hx;simp only[sC,seval,t0,t1,t5,ln,hlt'];exact⟨tt,by rw[hx]⟩
 have hlt':(i:Int)<(l.length:Int):=om;obtain⟨y,hy⟩:∃y,l[i]?=some y:=⟨_,Xx hlt⟩;have io:=c.idx .i64 (i:=i) (by rw[XM];exact hlt);have lo:=c.load (i:=i) (x:=.str y) (by rw[List.getElem?_map,hy];rfl);have wk:IntKind.i64.wrap ((i:Int)+1)=((i+1:Nat):Int):=fT i 1 om;by_cases he:y=x
 ·subst he;simp only[sC,seval,t0,t1,t5,ln,hlt',io,lo];refine⟨tt,?_⟩;have:l.contains y=true:=by simpa using XG hy
  rw[this]
 ·simp only[sC,seval,t0,t1,t5,ln,hlt',io,lo,he,wk];refine⟨l.length-(i+1),om,tt,i+1,rfl,om,tt,tt,tt,?_⟩;rw[List.take_add_one,hy];simp only[Option.toList_some,List.contains_eq_mem,List.mem_append,List.mem_singleton,decide_eq_false_iff_not]at hx ⊢;rintro(h|h)
  ·exact hx h
  ·exact he h.symm
def ED{s:Bs}{w:Wd}(hn:fC s 0=.ok w)(hk:w.k=2):(w.at_=0/\w.en=s.length)↔w.S=s:=by
 unfold fC at hn;split at hn
 ·simp at hn
 split at hn
 ·simp at hn
 split at hn
 ·simp only[Except.ok.injEq]at hn;subst hn;simp at hk
 rename_i h3;have hle:=nn s 0;generalize bI s 0=j at *;split at hn
 ·rename_i t ht;simp only[Except.ok.injEq]at hn;subst hn;simp only at hk ⊢;unfold jP at ht;split at ht
  ·simp at ht
  rename_i c hc;split at ht
  ·split at ht
   ·simp only[sJ]at ht;subst ht;simp at hk
   ·simp at ht
  split at ht
  ·simp only[sJ]at ht;subst ht;have h1:=fM jp s j;have h2:=fL (p:=jp) hle;simp only at hk ⊢;generalize bO jp s j=e at *;constructor
   ·rintro⟨rfl,rfl⟩;simp[sub]
   ·intro h;have hl:=congrArg List.length h;simp only[sub,XT,XR]at hl;omega
  ·split at ht
   ·simp at ht
   ·simp only[sJ]at ht;subst ht;simp at hk
 ·simp at hn
def fE(s:Bs){H:aa}:aq Tryz.prog aF 85 [.str s] H λu H'=>u=.bool (cH s)/\aS H.next H H':=by
 refine ak rfl V3 rfl ?_;simp only[c85,sC,seval];refine(Et QQ (s:=s) (p:=((0:Nat):Int)) om om).mono ?_;rintro v H1 ⟨rfl,E1⟩;have e1:=E1.next;obtain⟨H2,m2,r2,n2,k2⟩:=aC H1 [.int .u8 0,.str [],.int .i64 0,.int .i64 0,.int .i64 0,.int .i64 0] (n:=6) rfl;obtain⟨H3,m3,r3,n3,k3⟩:=aC H2 [.int .i64 0,.int .i64 0] (n:=2) rfl;cases hn:fC s 0 with
 |error e=>
  rw[sP hn];have he:=sN hn;have he':¬(e.1:Int)=0:=om;obtain⟨H4,m4,r4,n4,k4⟩:=am (H:=H3) (r2.same (k3 _ om)) (n:=6) rfl (xs:=iN 0 [] 0 0 0 0) rfl rfl;obtain⟨H5,m5,r5,n5,k5⟩:=am (H:=H4) (r3.same (k4 _ om)) (n:=2) rfl (xs:=jt e.1 e.2) rfl rfl;have l5:al false 1 H5 (ah H2.next 2 0)=some (.int .i64 (e.1:Int)):=aj r5 rfl rfl;have hf:cH s=false:=by unfold cH;rw[hn]
  simp only[sC,seval,eh,bv,bu,m2,m3,m4,m5,fld0,l5,he',hf];exact⟨tt,om,λc hc=>by rw[k5 c om,k4 c om,k3 c om,k2 c om,E1.old c hc]⟩
 |ok w=>
  rw[vX hn];obtain⟨H4,m4,r4,n4,k4⟩:=am (H:=H3) (r2.same (k3 _ om)) (n:=6) rfl (xs:=iN w.k w.S w.n w.line w.at_ w.en) rfl rfl;obtain⟨H5,m5,r5,n5,k5⟩:=am (H:=H4) (r3.same (k4 _ om)) (n:=2) rfl (xs:=jt 0 0) rfl rfl;have r45:=r4.same (k5 _ om);have l5:al false 1 H5 (ah H2.next 2 0)=some (.int .i64 0):=aj r5 rfl rfl;have q0:al false 1 H5 (ah H1.next 6 0)=some (.int .u8 (w.k:Int)):=aj r45 rfl rfl;have q4:al false 1 H5 (ah H1.next 6 4)=some (.int .i64 (w.at_:Int)):=aj r45 rfl rfl;have q5:al false 1 H5 (ah H1.next 6 5)=some (.int .i64 (w.en:Int)):=aj r45 rfl rfl;have E5:aS H.next H H5:=⟨om,λc hc=>by rw[k5 c om,k4 c om,k3 c om,k2 c om,E1.old c hc]⟩;by_cases hk:w.k=2
  ·have hk':(w.k:Int)=2:=om;have hf:cH s=decide (w.S=s):=by unfold cH;rw[hn];simp only[hk];rfl
   have hw:=ED hn hk;by_cases ha:w.at_=0
   ·have ha':(w.at_:Int)=0:=om;by_cases hb:w.en=s.length
    ·have hb':(w.en:Int)=(s.length:Int):=om;have hf':cH s=true:=by rw[hf,decide_eq_true (hw.1 ⟨ha,hb⟩)]
     simp only[sC,seval,eh,bv,bu,m2,m3,m4,m5,fld0,aA,l5,q0,q4,q5,hk',ha',hb',hf'];exact⟨tt,E5⟩
    ·have hb':¬(w.en:Int)=(s.length:Int):=om;have hf':cH s=false:=by rw[hf,decide_eq_false λh=>hb (hw.2 h).2]
     simp only[sC,seval,eh,bv,bu,m2,m3,m4,m5,fld0,aA,l5,q0,q4,q5,hk',ha',hb',hf'];exact⟨tt,E5⟩
   ·have ha':¬(w.at_:Int)=0:=om;have hf':cH s=false:=by rw[hf,decide_eq_false λh=>ha (hw.2 h).1]
    simp only[sC,seval,eh,bv,bu,m2,m3,m4,m5,fld0,aA,l5,q0,q4,hk',ha',hf'];exact⟨tt,E5⟩
  ·have hk':¬(w.k:Int)=2:=om;have hf:cH s=false:=by
    unfold cH;rw[hn];have:Nat.beq w.k 2=false:=by rw[ch];exact decide_eq_false hk
    simp only[this];rfl
   simp only[sC,seval,eh,bv,bu,m2,m3,m4,m5,fld0,aA,l5,q0,hk',hf];exact⟨tt,E5⟩
open Go.Abs Go.Abs.S
def IV{l:List Ex}{i:Nat}{e:Ex}(h:l[i]?=some e):eY (l.take (i+1))=(eY (l.take i)&&lD e):=by
 have hts:l.take (i+1)=l.take i++[e]:=by rw[List.take_add_one,h];rfl
 rw[hts,vT];simp[eY]
def B9:∀{l:List Ex} {i:Nat} {e:Ex},l[i]?=some e->lD e=false->eY l=false
 | [],_,_,h,_=>by simp at h
 |x::l,0,e,h,h2=>by simp only[XH,sJ]at h;subst h;simp[eY,h2]
 |x::l,i+1,e,h,h2=>by rw[XI]at h;simp[eY,B9 h h2]
def WU(H:aa):aL 12 [.str []] H [(0,1,.str [124,124]),(1,1,.str [38,38]),(2,1,.str [61,61]),(3,1,.str [33,61]),(4,1,.str [60,61]),(5,1,.str [62,61]),(6,1,.str [60]),(7,1,.str [62]),(8,1,.str [43]),(9,1,.str [45]),(10,1,.str [42]),(11,1,.str [47])] =
  some (BJ H.next 12 (.known 12),H.push (.cells (([[124,124],[38,38],[61,61],[33,61],[60,61],[62,61],[60],[62],[43],[45],[42],[47]]:List Bs).map ae.str) 0 false)):=rfl
def iI:∀(N:Nat) {e:Ex} {c:List ae} {H:aa},e.size<=N->e.size<=1000000->XE (·<H.next) H e c ->
  aq Tryz.prog aF 86 [.agg c] H λu H'=>u=.bool (lD e)/\aS H.next H H'
 |0,e,_,_,h,_,_=>absurd (fg e) om
 |N+1,.mk k s z kids,c,H,h,hs,hx=>by
  obtain⟨v,C,rfl,z1,z2⟩:=hx;have hsz:(Ex.mk k s z kids).size=aU kids+1:=rfl;have hok:lD (.mk k s z kids)=(fB k s z kids.length&&eY kids):=rfl;refine ak rfl V2 rfl ?_;obtain⟨H1,m1,r1,n1,k1⟩:=aC H [.int .u8 (k:Int),.str s,.int .i64 z,v] (n:=4) rfl;have E1:aS H.next H H1:=⟨om,λc hc=>k1 c om⟩;have ln:=z1.len;have hlen:=cO kids;simp only[c86,sC,seval,aG,m1];refine aM (λm (T:bZ) K=>∃(i:Nat),m=kids.length-i/\i<=kids.length/\T 1=ah H.next 4 0/\T 3=.int .i64 (i:Int)/\aS H1.next H1 K/\eY (kids.take i)=true) kids.length
   ⟨0,rfl,Nat.zero_le _,by simp only[sC,seval],by simp only[sC,seval];try rfl,aS.refl _ _,by simp[eY]⟩ ?_
  rintro m T K ⟨i,rfl,hi,t1,t3,FK,hK⟩;have eK:=FK.next;have rK:=r1.same (FK.old _ om);have l0:al false 1 K (ah H.next 4 0)=some (.int .u8 (k:Int)):=aj rK rfl rfl;have l1:al false 1 K (ah H.next 4 1)=some (.str s):=aj rK rfl rfl;have l2:al false 1 K (ah H.next 4 2)=some (.int .i64 z):=aj rK rfl rfl;have l3:al false 1 K (ah H.next 4 3)=some v:=aj rK rfl rfl;have EK:aS H.next H K:=E1.trans (FK.less om);by_cases hlt:i<kids.length
  ·have hlt':(i:Int)<(kids.length:Int):=om;obtain⟨e,he⟩:∃e,kids[i]?=some e:=⟨_,Xx hlt⟩;have km:∀b,b<H.next->b<K.next/\K.get b=H.get b:=λb hb=>⟨by have:=EK.next;omega,EK.old b hb⟩;have z13:=z1.mono km;have ix:=z13.idx hlt;have ld:=z13.load hlt;have he3:=(z2.mono km).at he;have hsm:=iZ (XG he);have wi:IntKind.i64.wrap ((i:Int)+1)=((i+1:Nat):Int):=fT i 1 om;simp only[sC,seval,t1,t3,aA,l3,ln,hlt',ix,ld];refine(iI N om om he3).mono ?_;rintro _ K2 ⟨rfl,E3⟩;cases hb:lD e with
   |true=>simp only[sC,seval,t1,t3,wi];exact⟨kids.length-(i+1),om,i+1,rfl,om,tt,tt,FK.trans (E3.less om),by rw[IV he,hK,hb];rfl⟩
   |false=>
    have hf:lD (.mk k s z kids)=false:=by rw[hok,B9 he hb,Bool.and_false]
    simp only[sC,seval,hf];exact⟨tt,EK.trans (E3.less EK.next)⟩
  obtain rfl:i=kids.length:=om;have hlt':¬(kids.length:Int)<(kids.length:Int):=om;rw[List.take_length]at hK;rw[hok,hK,Bool.and_true];obtain⟨P,hPd⟩:∃P,P=fB k s z kids.length:=⟨_,rfl⟩;rw[<- hPd];have hP:P=if k=1 then decide (0<=z)&&(s.isEmpty&&Nat.beq kids.length 0)else if k=2 then decide (z=0)&&(cH s&&Nat.beq kids.length 0)else if k=3 then decide (z=0)&&nC s kids.length else if k=4 then decide (z=0)&&cH s else false:=hPd;clear hPd hok;rw[ch]at hP;have hfin:∀{b:Bool} {K2:aa},P=b->aS K.next K K2->b=P/\aS H.next H K2:=λh q=>⟨h.symm,EK.trans (q.less EK.next)⟩;have R:=aS.refl K.next K;by_cases k1':k=1
  ·have k1i:(k:Int)=1:=om;rw[if_pos k1']at hP;by_cases hz:0<=z
   ·by_cases hse:s=[]
    ·by_cases hk0:(kids.length:Int)=0
     ·simp only[sC,seval,t1,t3,aA,fld0,l0,l1,l2,l3,ln,hlt',k1i,hz,hse,hk0];refine hfin ?_ R;rw[hP,decide_eq_true hz,hse,decide_eq_true (show kids.length=0 by omega)];rfl
     ·simp only[sC,seval,t1,t3,aA,fld0,l0,l1,l2,l3,ln,hlt',k1i,hz,hse,hk0];refine hfin ?_ R;rw[hP,decide_eq_false (show¬kids.length=0 by omega),Bool.and_false,Bool.and_false]
    ·simp only[sC,seval,t1,t3,aA,fld0,l0,l1,l2,l3,ln,hlt',k1i,hz,hse];refine hfin ?_ R;rw[hP,show s.isEmpty=false by cases s<;>simp_all,Bool.false_and,Bool.and_false]
   ·simp only[sC,seval,t1,t3,aA,fld0,l0,l1,l2,l3,ln,hlt',k1i,hz];refine hfin ?_ R;rw[hP,decide_eq_false hz,Bool.false_and]
  have k1i:¬(k:Int)=1:=om;rw[if_neg k1']at hP;by_cases hz:z=0;rotate_left
  ·have hP':P=false:=by
    rw[hP,decide_eq_false hz];simp
   by_cases k2:(k:Int)=2
   ·simp only[sC,seval,t1,t3,aA,fld0,l0,l1,l2,l3,ln,hlt',k1i,k2,hz];exact hfin hP' R
   by_cases k3:(k:Int)=3
   ·simp only[sC,seval,t1,t3,aA,fld0,l0,l1,l2,l3,ln,hlt',k1i,k2,k3,hz];exact hfin hP' R
   by_cases k4:(k:Int)=4
   ·simp only[sC,seval,t1,t3,aA,fld0,l0,l1,l2,l3,ln,hlt',k1i,k2,k3,k4,hz];exact hfin hP' R
   simp only[sC,seval,t1,t3,aA,fld0,l0,l1,l2,l3,ln,hlt',k1i,k2,k3,k4];exact hfin hP' R
  rw[decide_eq_true hz,Bool.true_and,Bool.true_and,Bool.true_and]at hP;by_cases k2:k=2
  ·have k2i:(k:Int)=2:=om;rw[if_pos k2]at hP;simp only[sC,seval,t1,t3,aA,fld0,l0,l1,l2,l3,ln,hlt',k1i,k2i,hz];refine(fE s).mono ?_;rintro _ K2 ⟨rfl,E3⟩;have l3':al false 1 K2 (ah H.next 4 3)=some v:=aj (rK.same (E3.old _ (by have:=E1.next;omega))) rfl rfl;cases hb:cH s with
   |true=>
    rw[hb,Bool.true_and]at hP;by_cases hk0:(kids.length:Int)=0
    ·simp only[sC,seval,t1,t3,aA,l3',ln,hk0];exact hfin (by rw[hP];exact decide_eq_true om) E3
    ·simp only[sC,seval,t1,t3,aA,l3',ln,hk0];exact hfin (by rw[hP];exact decide_eq_false om) E3
   |false=>rw[hb,Bool.false_and]at hP;simp only[sC,seval];exact hfin hP E3
  have k2i:¬(k:Int)=2:=om;rw[if_neg k2]at hP;by_cases k3:k=3
  ·have k3i:(k:Int)=3:=om;rw[if_pos k3]at hP;have ql:∀{K2:aa},aS K.next K K2->al false 1 K2 (ah H.next 4 3)=some v:=λq=>aj (rK.same (q.old _ (by have:=E1.next;omega))) rfl rfl;by_cases q2:kids.length=2
   ·have q2i:(kids.length:Int)=2:=om;rw[q2]at hP;have hop:nC s 2=([[124,124],[38,38],[61,61],[33,61],[60,61],[62,61],[60],[62],[43],[45],[42],[47]]:List Bs).contains s:=rfl;rw[hop]at hP;simp only[sC,seval,t1,t3,aA,fld0,l0,l1,l2,l3,ln,hlt',k1i,k2i,k3i,hz,q2i,WU];have E3:=(aS.refl K.next K).push rL (.cells (([[124,124],[38,38],[61,61],[33,61],[60,61],[62,61],[60],[62],[43],[45],[42],[47]]:List Bs).map ae.str) 0 false);refine(yR (l:=[[124,124],[38,38],[61,61],[33,61],[60,61],[62,61],[60],[62],[43],[45],[42],[47]]) ((gq K _).cel rfl (Nat.lt_succ_self _)) s (by simp)).mono ?_;rintro _ _ ⟨rfl,rfl⟩;generalize ([[124,124],[38,38],[61,61],[33,61],[60,61],[62,61],[60],[62],[43],[45],[42],[47]]:List Bs).contains s=b at *;cases b with
    |true=>simp only[sC,seval];exact hfin hP E3
    |false=>simp only[sC,seval,t1,t3,aA,ql E3,ln,q2i];exact hfin hP E3
   have q2i:¬(kids.length:Int)=2:=om;by_cases q1:kids.length=1
   ·have q1i:(kids.length:Int)=1:=om;rw[q1]at hP;have hop:nC s 1=([[45],[33]]:List Bs).contains s:=rfl;rw[hop]at hP;simp only[sC,seval,t1,t3,aA,fld0,l0,l1,l2,l3,ln,hlt',k1i,k2i,k3i,hz,q2i,q1i,NQ];have E3:=(aS.refl K.next K).push rL (.cells [.str [45],.str [33]] 0 false);refine(yR (l:=[[45],[33]]) ((gq K _).cel rfl (Nat.lt_succ_self _)) s (by simp)).mono ?_;rintro _ _ ⟨rfl,rfl⟩;generalize ([[45],[33]]:List Bs).contains s=b at *;cases b with
    |true=>simp only[sC,seval];exact hfin hP E3
    |false=>simp only[sC,seval];exact hfin hP E3
   have q1i:¬(kids.length:Int)=1:=om;have hop:nC s kids.length=false:=by
    unfold nC;split
    ·omega
    ·omega
    ·rfl
   rw[hop]at hP;simp only[sC,seval,t1,t3,aA,fld0,l0,l1,l2,l3,ln,hlt',k1i,k2i,k3i,hz,q2i,q1i];exact hfin hP R
  have k3i:¬(k:Int)=3:=om;rw[if_neg k3]at hP;by_cases k4:k=4
  ·have k4i:(k:Int)=4:=om;rw[if_pos k4]at hP;simp only[sC,seval,t1,t3,aA,fld0,l0,l1,l2,l3,ln,hlt',k1i,k2i,k3i,k4i,hz];refine(fE s).mono ?_;rintro _ K2 ⟨rfl,E3⟩;generalize cH s=b at *;cases b with
   |true=>simp only[sC,seval];exact hfin hP E3
   |false=>simp only[sC,seval];exact hfin hP E3
  have k4i:¬(k:Int)=4:=om;rw[if_neg k4]at hP;simp only[sC,seval,t1,t3,aA,fld0,l0,l1,l2,l3,ln,hlt',k1i,k2i,k3i,k4i];exact hfin hP R
open Go.Abs Go.Abs.S
def dx(a b:Bool):mV (.eqv true .bool) [.bool a,.bool b]=some (.bool (a != b)):=by cases a<;>cases b<;>rfl
def Bu:(true != true)=false:=rfl
def Bv:(true != false)=true:=rfl
def rz:(false != true)=true:=rfl
def hY:(false != false)=false:=rfl
def sS:cH []=false:=rfl
def IU{l:List St}{i:Nat}{e:St}(h:l[i]?=some e):cA (l.take (i+1))=(cA (l.take i)&&Bb e):=by
 have hts:l.take (i+1)=l.take i++[e]:=by rw[List.take_add_one,h];rfl
 rw[hts,vS];simp[cA]
def B6:∀{l:List St} {i:Nat} {e:St},l[i]?=some e->Bb e=false->cA l=false
 | [],_,_,h,_=>by simp at h
 |x::l,0,e,h,h2=>by simp only[XH,sJ]at h;subst h;simp[cA,h2]
 |x::l,i+1,e,h,h2=>by rw[XI]at h;simp[cA,B6 h h2]
def CE:∀(N:Nat) {l:List St} {C:List ae} {v:ae} {H:aa},au l<=N->au l<=1000000->eM (·<H.next) H 9 v l.length C->lV (·<H.next) H l C ->
  aq Tryz.prog aF 41 [v] H λu H'=>u=.bool (cA l)/\aS H.next H H':=by
 intro N;induction N with
 |zero=>
  intro l C v H h hs z1 z2;have hl0:l=[]:=by
   cases l with
   |nil=>rfl
   |cons x l=>have:=ee x;simp only[au]at h;omega
  subst hl0;have ln:=z1.len;have h0:¬(0:Int)<(([]:List St).length:Int):=by simp
  refine ak rfl Sx rfl ?_;simp only[Xe,sC,seval];refine aM (λm (T:bZ) K=>H=K/\T 0=v/\T 3=.int .i64 0) 0 ⟨rfl,by simp only[sC,seval],by simp only[sC,seval]⟩ ?_;rintro m T K ⟨rfl,t0,t3⟩;simp only[sC,seval,t0,t3,ln,h0];exact⟨rfl,aS.refl _ _⟩
 |succ N ih=>
  intro l C v H h hs z1 z2;have ln:=z1.len;refine ak rfl Sx rfl ?_;simp only[Xe,sC,seval];refine aM (λm (T:bZ) K=>∃(i:Nat),m=l.length-i/\i<=l.length/\T 0=v/\T 3=.int .i64 (i:Int)/\aS H.next H K/\cA (l.take i)=true) l.length
   ⟨0,rfl,Nat.zero_le _,by simp only[sC,seval],by simp only[sC,seval];try rfl,aS.refl _ _,by simp[cA]⟩ ?_
  rintro m T K ⟨i,rfl,hi,t0,t3,EK,hK⟩;have eK:=EK.next;by_cases hlt:i<l.length
  case neg=>obtain rfl:i=l.length:=om;have hlt':¬(l.length:Int)<(l.length:Int):=om;rw[List.take_length]at hK;rw[hK];simp only[sC,seval,t0,t3,ln,hlt'];exact⟨tt,EK⟩
  have hlt':(i:Int)<(l.length:Int):=om;obtain⟨x,he⟩:∃e,l[i]?=some e:=⟨_,Xx hlt⟩;have km:∀b,b<H.next->b<K.next/\K.get b=H.get b:=λb hb=>⟨om,EK.old b hb⟩;have z13:=z1.mono km;have ix:=z13.idx hlt;have ld:=z13.load hlt;have hsm:=dl (XG he);have hlen:=db l;have wi:IntKind.i64.wrap ((i:Int)+1)=((i+1:Nat):Int):=fT i 1 om;have hx3:=(z2.mono km).at he;have hone:=hx3.one;have hbad:=λh=>B6 he h;have htk:=IU he;obtain⟨k,s,e,body,els,line⟩:=x;obtain⟨ce,vb,Cb,ve,Ce,hcell,x1,y1,y2,y3,y4⟩:=hx3;obtain⟨c0,c1,c2,c3,rfl⟩:∃a b c d,ce=[a,b,c,d]:=by
   have:=x1.len
   match ce,this with
   | [a,b,c,d],_=>exact⟨a,b,c,d,rfl⟩
  rw[hcell]at ld hone;have hsz:(St.mk k s e body els line).size=e.size+au body+au els+1:=rfl;have hok:Bb (St.mk k s e body els line)=(cM k s body.length els.length&&(lD e&&(cA body&&cA els))):=rfl;obtain⟨K1,m1,r1,n1,k1⟩:=aC K [.int .u8 0,.str [],.int .u8 0,.str [],.int .i64 0,.slice none 0 (.known 0),.slice none 0 (.known 0),.slice none 0 (.known 0),.int .i64 0] (n:=9) rfl;obtain⟨K2,m2,r2,n2,k2⟩:=am r1 (n:=9) rfl (xs:=.int .u8 (k:Int)::.str s::([c0,c1,c2,c3]++[vb,ve,.int .i64 line])) rfl hone;simp only[XQ,List.nil_append]at ld m2 r2 hone;obtain⟨b5,hb5⟩:∃b,b=K.next:=⟨_,rfl⟩;rw[<- hb5]at m1 m2 r2 k2 k1;have E2:aS K.next K K2:=⟨om,λc hc=>by rw[k2 c om,k1 c om]⟩;have e2:=E2.next;have kk:∀{K':aa},aS K.next K K'->∀b,b<K.next->b<K'.next/\K'.get b=K.get b:=λq b hb=>⟨by have:=q.next;omega,q.old b hb⟩;have rr:∀{J:aa},aS K2.next K2 J->be J b5 [.int .u8 (k:Int),.str s,c0,c1,c2,c3,vb,ve,.int .i64 line]:=λq=>r2.same (q.old _ om);have l0:∀{J:aa},aS K2.next K2 J->al false 1 J (ah b5 9 0)=some (.int .u8 (k:Int)):=λq=>aj (rr q) rfl rfl;have l1:∀{J:aa},aS K2.next K2 J->al false 1 J (ah b5 9 1)=some (.str s):=λq=>aj (rr q) rfl rfl;have l2:∀{J:aa},aS K2.next K2 J->al true 4 J (ah b5 9 2)=some (.agg [c0,c1,c2,c3]):=λq=>gQ (rr q) (n:=9) rfl (i:=2) (k:=4) om;have l6:∀{J:aa},aS K2.next K2 J->al false 1 J (ah b5 9 6)=some vb:=λq=>aj (rr q) rfl rfl;have l7:∀{J:aa},aS K2.next K2 J->al false 1 J (ah b5 9 7)=some ve:=λq=>aj (rr q) rfl rfl;have R2:=aS.refl K2.next K2;have lb:=y1.len;have le:=y3.len;obtain⟨P,hP⟩:∃P,P=cA l:=⟨_,rfl⟩;rw[<- hP]at hbad ⊢;have bad:∀{J:aa},Bb (St.mk k s e body els line)=false->aS K2.next K2 J->false=P/\aS H.next H J:=λh q=>⟨(hbad h).symm,EK.trans ((E2.trans (q.less e2)).less eK)⟩;have up2:∀{J:aa},aS K2.next K2 J->aS K.next K J:=λq=>E2.trans (q.less e2);by_cases kk1:k=1
  ·have k1i:(k:Int)=1:=om;have hl:cM k s body.length els.length=(cH s&&(Nat.beq body.length 0&&Nat.beq els.length 0)):=by
    obtain rfl:k=1:=om;rfl
   rw[hl]at hok;rw[k1i]at ld m2;simp only[sC,seval,t0,t3,ln,hlt',ix,ld,m1,m2,aA,fld0,l0 R2,l1 R2,k1i];refine(fE s).mono ?_;rintro _ K3 ⟨rfl,E3⟩;have e3:=E3.next;cases hn:cH s with
   |false=>simp only[sC,seval,dx,Bv];exact bad (by rw[hok,hn,Bool.false_and,Bool.false_and]) E3
   |true=>
   simp only[sC,seval,dx,Bu,aA,fld0,l0 E3,l1 E3,l2 E3,k1i];refine(iI e.size rL om (x1.mono (kk (up2 E3)))).mono ?_;rintro _ K4 ⟨rfl,E4⟩;have e4:=E4.next;have E24:=E3.trans (E4.less e3);cases hx:lD e with
   |false=>simp only[sC,seval];exact bad (by rw[hok,hx,Bool.false_and,Bool.and_false]) E24
   |true=>
   rw[hx,Bool.true_and]at hok;by_cases q7:(0:Int)<(els.length:Int)
   ·simp only[sC,seval,aA,fld0,l0 E24,l6 E24,l7 E24,le,q7,k1i];exact bad (by rw[hok,ch els.length,show decide (els.length=0)=false from decide_eq_false om];simp) E24
   by_cases q6:(0:Int)<(body.length:Int)
   ·simp only[sC,seval,aA,fld0,l0 E24,l6 E24,l7 E24,le,lb,q7,q6,k1i];exact bad (by rw[hok,ch body.length,show decide (body.length=0)=false from decide_eq_false om];simp) E24
   simp only[sC,seval,aA,fld0,l0 E24,l6 E24,l7 E24,le,lb,q7,q6,k1i];refine(ih om om (y1.mono (kk (up2 E24))) (y2.mono (kk (up2 E24)))).mono ?_;rintro _ K5 ⟨rfl,E5⟩;have e5:=E5.next;have E25:=E24.trans (E5.less om);cases hy:cA body with
   |false=>simp only[sC,seval];exact bad (by rw[hok,hy,Bool.false_and,Bool.and_false]) E25
   |true=>
   rw[hy,Bool.true_and]at hok;simp only[sC,seval,aA,fld0,l7 E25];refine(ih om om (y3.mono (kk (up2 E25))) (y4.mono (kk (up2 E25)))).mono ?_;rintro _ K6 ⟨rfl,E6⟩;have e6:=E6.next;have E26:=E25.trans (E6.less om);cases hz:cA els with
   |false=>simp only[sC,seval];exact bad (by rw[hok,hz,Bool.and_false]) E26
   |true=>
   simp only[sC,seval,t0,t3,wi];exact⟨l.length-(i+1),om,i+1,rfl,om,tt,tt,EK.trans ((up2 E26).less eK),by rw[htk,hK,hok,hz,hn,show body.length=0 by omega,show els.length=0 by omega];rfl⟩
  by_cases kk2:k=2
  ·have k2i:(k:Int)=2:=om;have k1i:¬(k:Int)=1:=om;have hl:cM k s body.length els.length=(cH s&&(Nat.beq body.length 0&&Nat.beq els.length 0)):=by
    obtain rfl:k=2:=om;rfl
   rw[hl]at hok;rw[k2i]at ld m2;simp only[sC,seval,t0,t3,ln,hlt',ix,ld,m1,m2,aA,fld0,l0 R2,l1 R2,k1i,k2i];refine(fE s).mono ?_;rintro _ K3 ⟨rfl,E3⟩;have e3:=E3.next;cases hn:cH s with
   |false=>simp only[sC,seval,dx,Bv];exact bad (by rw[hok,hn,Bool.false_and,Bool.false_and]) E3
   |true=>
   simp only[sC,seval,dx,Bu,aA,fld0,l0 E3,l1 E3,l2 E3,k1i,k2i];refine(iI e.size rL om (x1.mono (kk (up2 E3)))).mono ?_;rintro _ K4 ⟨rfl,E4⟩;have e4:=E4.next;have E24:=E3.trans (E4.less e3);cases hx:lD e with
   |false=>simp only[sC,seval];exact bad (by rw[hok,hx,Bool.false_and,Bool.and_false]) E24
   |true=>
   rw[hx,Bool.true_and]at hok;by_cases q7:(0:Int)<(els.length:Int)
   ·simp only[sC,seval,aA,fld0,l0 E24,l6 E24,l7 E24,le,q7,k1i,k2i];exact bad (by rw[hok,ch els.length,show decide (els.length=0)=false from decide_eq_false om];simp) E24
   by_cases q6:(0:Int)<(body.length:Int)
   ·simp only[sC,seval,aA,fld0,l0 E24,l6 E24,l7 E24,le,lb,q7,q6,k1i,k2i];exact bad (by rw[hok,ch body.length,show decide (body.length=0)=false from decide_eq_false om];simp) E24
   simp only[sC,seval,aA,fld0,l0 E24,l6 E24,l7 E24,le,lb,q7,q6,k1i,k2i];refine(ih om om (y1.mono (kk (up2 E24))) (y2.mono (kk (up2 E24)))).mono ?_;rintro _ K5 ⟨rfl,E5⟩;have e5:=E5.next;have E25:=E24.trans (E5.less om);cases hy:cA body with
   |false=>simp only[sC,seval];exact bad (by rw[hok,hy,Bool.false_and,Bool.and_false]) E25
   |true=>
   rw[hy,Bool.true_and]at hok;simp only[sC,seval,aA,fld0,l7 E25];refine(ih om om (y3.mono (kk (up2 E25))) (y4.mono (kk (up2 E25)))).mono ?_;rintro _ K6 ⟨rfl,E6⟩;have e6:=E6.next;have E26:=E25.trans (E6.less om);cases hz:cA els with
   |false=>simp only[sC,seval];exact bad (by rw[hok,hz,Bool.and_false]) E26
   |true=>
   simp only[sC,seval,t0,t3,wi];exact⟨l.length-(i+1),om,i+1,rfl,om,tt,tt,EK.trans ((up2 E26).less eK),by rw[htk,hK,hok,hz,hn,show body.length=0 by omega,show els.length=0 by omega];rfl⟩
  by_cases kk3:k=3
  ·have k3i:(k:Int)=3:=om;have k1i:¬(k:Int)=1:=om;have k2i:¬(k:Int)=2:=om;have hl:cM k s body.length els.length=(s.isEmpty):=by
    obtain rfl:k=3:=om;rfl
   rw[hl]at hok;rw[k3i]at ld m2;simp only[sC,seval,t0,t3,ln,hlt',ix,ld,m1,m2,aA,fld0,l0 R2,l1 R2,k1i,k2i,k3i];refine(fE s).mono ?_;rintro _ K3 ⟨rfl,E3⟩;have e3:=E3.next;cases hn:cH s with
   |true=>
    simp only[sC,seval,dx,rz];have hse:s.isEmpty=false:=by
     cases s with
     |nil=>rw[sS]at hn;exact absurd hn (by simp)
     |cons a b=>rfl
    exact bad (by rw[hok,hse];simp) E3
   |false=>
   by_cases hse:s=[];rotate_left
   ·simp only[sC,seval,dx,hY,aA,fld0,l1 E3,hse];exact bad (by rw[hok,show s.isEmpty=false by cases s<;>simp_all];simp) E3
   simp only[sC,seval,dx,hY,aA,fld0,l0 E3,l1 E3,l2 E3,k1i,k2i,k3i,hse];refine(iI e.size rL om (x1.mono (kk (up2 E3)))).mono ?_;rintro _ K4 ⟨rfl,E4⟩;have e4:=E4.next;have E24:=E3.trans (E4.less e3);cases hx:lD e with
   |false=>simp only[sC,seval];exact bad (by rw[hok,hx,Bool.false_and,Bool.and_false]) E24
   |true=>
   rw[hx,Bool.true_and]at hok;by_cases q7:(0:Int)<(els.length:Int)
   ·by_cases q6:(0:Int)<(body.length:Int)
    ·simp only[sC,seval,aA,fld0,l0 E24,l6 E24,l7 E24,le,lb,q7,q6,k1i,k2i,k3i];refine(ih om om (y1.mono (kk (up2 E24))) (y2.mono (kk (up2 E24)))).mono ?_;rintro _ K5 ⟨rfl,E5⟩;have e5:=E5.next;have E25:=E24.trans (E5.less om);cases hy:cA body with
     |false=>simp only[sC,seval];exact bad (by rw[hok,hy,Bool.false_and,Bool.and_false]) E25
     |true=>
     rw[hy,Bool.true_and]at hok;simp only[sC,seval,aA,fld0,l7 E25];refine(ih om om (y3.mono (kk (up2 E25))) (y4.mono (kk (up2 E25)))).mono ?_;rintro _ K6 ⟨rfl,E6⟩;have e6:=E6.next;have E26:=E25.trans (E6.less om);cases hz:cA els with
     |false=>simp only[sC,seval];exact bad (by rw[hok,hz,Bool.and_false]) E26
     |true=>
     simp only[sC,seval,t0,t3,wi];exact⟨l.length-(i+1),om,i+1,rfl,om,tt,tt,EK.trans ((up2 E26).less eK),by rw[htk,hK,hok,hz,hse];rfl⟩
    ·simp only[sC,seval,aA,fld0,l0 E24,l6 E24,l7 E24,le,lb,q7,q6,k1i,k2i,k3i];refine(ih om om (y1.mono (kk (up2 E24))) (y2.mono (kk (up2 E24)))).mono ?_;rintro _ K5 ⟨rfl,E5⟩;have e5:=E5.next;have E25:=E24.trans (E5.less om);cases hy:cA body with
     |false=>simp only[sC,seval];exact bad (by rw[hok,hy,Bool.false_and,Bool.and_false]) E25
     |true=>
     rw[hy,Bool.true_and]at hok;simp only[sC,seval,aA,fld0,l7 E25];refine(ih om om (y3.mono (kk (up2 E25))) (y4.mono (kk (up2 E25)))).mono ?_;rintro _ K6 ⟨rfl,E6⟩;have e6:=E6.next;have E26:=E25.trans (E6.less om);cases hz:cA els with
     |false=>simp only[sC,seval];exact bad (by rw[hok,hz,Bool.and_false]) E26
     |true=>
     simp only[sC,seval,t0,t3,wi];exact⟨l.length-(i+1),om,i+1,rfl,om,tt,tt,EK.trans ((up2 E26).less eK),by rw[htk,hK,hok,hz,hse];rfl⟩
   ·by_cases q6:(0:Int)<(body.length:Int)
    ·simp only[sC,seval,aA,fld0,l0 E24,l6 E24,l7 E24,le,lb,q7,q6,k1i,k2i,k3i];refine(ih om om (y1.mono (kk (up2 E24))) (y2.mono (kk (up2 E24)))).mono ?_;rintro _ K5 ⟨rfl,E5⟩;have e5:=E5.next;have E25:=E24.trans (E5.less om);cases hy:cA body with
     |false=>simp only[sC,seval];exact bad (by rw[hok,hy,Bool.false_and,Bool.and_false]) E25
     |true=>
     rw[hy,Bool.true_and]at hok;simp only[sC,seval,aA,fld0,l7 E25];refine(ih om om (y3.mono (kk (up2 E25))) (y4.mono (kk (up2 E25)))).mono ?_;rintro _ K6 ⟨rfl,E6⟩;have e6:=E6.next;have E26:=E25.trans (E6.less om);cases hz:cA els with
     |false=>simp only[sC,seval];exact bad (by rw[hok,hz,Bool.and_false]) E26
     |true=>
     simp only[sC,seval,t0,t3,wi];exact⟨l.length-(i+1),om,i+1,rfl,om,tt,tt,EK.trans ((up2 E26).less eK),by rw[htk,hK,hok,hz,hse];rfl⟩
    ·simp only[sC,seval,aA,fld0,l0 E24,l6 E24,l7 E24,le,lb,q7,q6,k1i,k2i,k3i];refine(ih om om (y1.mono (kk (up2 E24))) (y2.mono (kk (up2 E24)))).mono ?_;rintro _ K5 ⟨rfl,E5⟩;have e5:=E5.next;have E25:=E24.trans (E5.less om);cases hy:cA body with
     |false=>simp only[sC,seval];exact bad (by rw[hok,hy,Bool.false_and,Bool.and_false]) E25
     |true=>
     rw[hy,Bool.true_and]at hok;simp only[sC,seval,aA,fld0,l7 E25];refine(ih om om (y3.mono (kk (up2 E25))) (y4.mono (kk (up2 E25)))).mono ?_;rintro _ K6 ⟨rfl,E6⟩;have e6:=E6.next;have E26:=E25.trans (E6.less om);cases hz:cA els with
     |false=>simp only[sC,seval];exact bad (by rw[hok,hz,Bool.and_false]) E26
     |true=>
     simp only[sC,seval,t0,t3,wi];exact⟨l.length-(i+1),om,i+1,rfl,om,tt,tt,EK.trans ((up2 E26).less eK),by rw[htk,hK,hok,hz,hse];rfl⟩
  by_cases kk4:k=4
  ·have k4i:(k:Int)=4:=om;have k1i:¬(k:Int)=1:=om;have k2i:¬(k:Int)=2:=om;have k3i:¬(k:Int)=3:=om;have hl:cM k s body.length els.length=(s.isEmpty&&Nat.beq els.length 0):=by
    obtain rfl:k=4:=om;rfl
   rw[hl]at hok;rw[k4i]at ld m2;simp only[sC,seval,t0,t3,ln,hlt',ix,ld,m1,m2,aA,fld0,l0 R2,l1 R2,k1i,k2i,k3i,k4i];refine(fE s).mono ?_;rintro _ K3 ⟨rfl,E3⟩;have e3:=E3.next;cases hn:cH s with
   |true=>
    simp only[sC,seval,dx,rz];have hse:s.isEmpty=false:=by
     cases s with
     |nil=>rw[sS]at hn;exact absurd hn (by simp)
     |cons a b=>rfl
    exact bad (by rw[hok,hse];simp) E3
   |false=>
   by_cases hse:s=[];rotate_left
   ·simp only[sC,seval,dx,hY,aA,fld0,l1 E3,hse];exact bad (by rw[hok,show s.isEmpty=false by cases s<;>simp_all];simp) E3
   simp only[sC,seval,dx,hY,aA,fld0,l0 E3,l1 E3,l2 E3,k1i,k2i,k3i,k4i,hse];refine(iI e.size rL om (x1.mono (kk (up2 E3)))).mono ?_;rintro _ K4 ⟨rfl,E4⟩;have e4:=E4.next;have E24:=E3.trans (E4.less e3);cases hx:lD e with
   |false=>simp only[sC,seval];exact bad (by rw[hok,hx,Bool.false_and,Bool.and_false]) E24
   |true=>
   rw[hx,Bool.true_and]at hok;by_cases q7:(0:Int)<(els.length:Int)
   ·simp only[sC,seval,aA,fld0,l0 E24,l6 E24,l7 E24,le,q7,k1i,k2i,k3i,k4i];exact bad (by rw[hok,ch els.length,show decide (els.length=0)=false from decide_eq_false om];simp) E24
   by_cases q6:(0:Int)<(body.length:Int)
   ·simp only[sC,seval,aA,fld0,l0 E24,l6 E24,l7 E24,le,lb,q7,q6,k1i,k2i,k3i,k4i];refine(ih om om (y1.mono (kk (up2 E24))) (y2.mono (kk (up2 E24)))).mono ?_;rintro _ K5 ⟨rfl,E5⟩;have e5:=E5.next;have E25:=E24.trans (E5.less om);cases hy:cA body with
    |false=>simp only[sC,seval];exact bad (by rw[hok,hy,Bool.false_and,Bool.and_false]) E25
    |true=>
    rw[hy,Bool.true_and]at hok;simp only[sC,seval,aA,fld0,l7 E25];refine(ih om om (y3.mono (kk (up2 E25))) (y4.mono (kk (up2 E25)))).mono ?_;rintro _ K6 ⟨rfl,E6⟩;have e6:=E6.next;have E26:=E25.trans (E6.less om);cases hz:cA els with
    |false=>simp only[sC,seval];exact bad (by rw[hok,hz,Bool.and_false]) E26
    |true=>
    simp only[sC,seval,t0,t3,wi];exact⟨l.length-(i+1),om,i+1,rfl,om,tt,tt,EK.trans ((up2 E26).less eK),by rw[htk,hK,hok,hz,hse,show els.length=0 by omega];rfl⟩
   ·simp only[sC,seval,aA,fld0,l0 E24,l6 E24,l7 E24,le,lb,q7,q6,k1i,k2i,k3i,k4i];refine(ih om om (y1.mono (kk (up2 E24))) (y2.mono (kk (up2 E24)))).mono ?_;rintro _ K5 ⟨rfl,E5⟩;have e5:=E5.next;have E25:=E24.trans (E5.less om);cases hy:cA body with
    |false=>simp only[sC,seval];exact bad (by rw[hok,hy,Bool.false_and,Bool.and_false]) E25
    |true=>
    rw[hy,Bool.true_and]at hok;simp only[sC,seval,aA,fld0,l7 E25];refine(ih om om (y3.mono (kk (up2 E25))) (y4.mono (kk (up2 E25)))).mono ?_;rintro _ K6 ⟨rfl,E6⟩;have e6:=E6.next;have E26:=E25.trans (E6.less om);cases hz:cA els with
    |false=>simp only[sC,seval];exact bad (by rw[hok,hz,Bool.and_false]) E26
    |true=>
    simp only[sC,seval,t0,t3,wi];exact⟨l.length-(i+1),om,i+1,rfl,om,tt,tt,EK.trans ((up2 E26).less eK),by rw[htk,hK,hok,hz,hse,show els.length=0 by omega];rfl⟩
  by_cases kk5:k=5
  ·have k5i:(k:Int)=5:=om;have k1i:¬(k:Int)=1:=om;have k2i:¬(k:Int)=2:=om;have k3i:¬(k:Int)=3:=om;have k4i:¬(k:Int)=4:=om;have hl:cM k s body.length els.length=(s.isEmpty&&(Nat.beq body.length 0&&Nat.beq els.length 0)):=by
    obtain rfl:k=5:=om;rfl
   rw[hl]at hok;rw[k5i]at ld m2;simp only[sC,seval,t0,t3,ln,hlt',ix,ld,m1,m2,aA,fld0,l0 R2,l1 R2,k1i,k2i,k3i,k4i,k5i];refine(fE s).mono ?_;rintro _ K3 ⟨rfl,E3⟩;have e3:=E3.next;cases hn:cH s with
   |true=>
    simp only[sC,seval,dx,rz];have hse:s.isEmpty=false:=by
     cases s with
     |nil=>rw[sS]at hn;exact absurd hn (by simp)
     |cons a b=>rfl
    exact bad (by rw[hok,hse];simp) E3
   |false=>
   by_cases hse:s=[];rotate_left
   ·simp only[sC,seval,dx,hY,aA,fld0,l1 E3,hse];exact bad (by rw[hok,show s.isEmpty=false by cases s<;>simp_all];simp) E3
   simp only[sC,seval,dx,hY,aA,fld0,l0 E3,l1 E3,l2 E3,k1i,k2i,k3i,k4i,k5i,hse];refine(iI e.size rL om (x1.mono (kk (up2 E3)))).mono ?_;rintro _ K4 ⟨rfl,E4⟩;have e4:=E4.next;have E24:=E3.trans (E4.less e3);cases hx:lD e with
   |false=>simp only[sC,seval];exact bad (by rw[hok,hx,Bool.false_and,Bool.and_false]) E24
   |true=>
   rw[hx,Bool.true_and]at hok;by_cases q7:(0:Int)<(els.length:Int)
   ·simp only[sC,seval,aA,fld0,l0 E24,l6 E24,l7 E24,le,q7,k1i,k2i,k3i,k4i,k5i];exact bad (by rw[hok,ch els.length,show decide (els.length=0)=false from decide_eq_false om];simp) E24
   by_cases q6:(0:Int)<(body.length:Int)
   ·simp only[sC,seval,aA,fld0,l0 E24,l6 E24,l7 E24,le,lb,q7,q6,k1i,k2i,k3i,k4i,k5i];exact bad (by rw[hok,ch body.length,show decide (body.length=0)=false from decide_eq_false om];simp) E24
   simp only[sC,seval,aA,fld0,l0 E24,l6 E24,l7 E24,le,lb,q7,q6,k1i,k2i,k3i,k4i,k5i];refine(ih om om (y1.mono (kk (up2 E24))) (y2.mono (kk (up2 E24)))).mono ?_;rintro _ K5 ⟨rfl,E5⟩;have e5:=E5.next;have E25:=E24.trans (E5.less om);cases hy:cA body with
   |false=>simp only[sC,seval];exact bad (by rw[hok,hy,Bool.false_and,Bool.and_false]) E25
   |true=>
   rw[hy,Bool.true_and]at hok;simp only[sC,seval,aA,fld0,l7 E25];refine(ih om om (y3.mono (kk (up2 E25))) (y4.mono (kk (up2 E25)))).mono ?_;rintro _ K6 ⟨rfl,E6⟩;have e6:=E6.next;have E26:=E25.trans (E6.less om);cases hz:cA els with
   |false=>simp only[sC,seval];exact bad (by rw[hok,hz,Bool.and_false]) E26
   |true=>
   simp only[sC,seval,t0,t3,wi];exact⟨l.length-(i+1),om,i+1,rfl,om,tt,tt,EK.trans ((up2 E26).less eK),by rw[htk,hK,hok,hz,hse,show body.length=0 by omega,show els.length=0 by omega];rfl⟩
  have k1i:¬(k:Int)=1:=om;have k2i:¬(k:Int)=2:=om;have k3i:¬(k:Int)=3:=om;have k4i:¬(k:Int)=4:=om;have k5i:¬(k:Int)=5:=om;have hl:cM k s body.length els.length=false:=by unfold cM;rw[if_neg om,if_neg om,if_neg om,if_neg om]
  rw[hl]at hok;simp only[sC,seval,t0,t3,ln,hlt',ix,ld,m1,m2,aA,fld0,l0 R2,l1 R2,k1i,k2i,k3i,k4i,k5i];refine(fE s).mono ?_;rintro _ K3 ⟨rfl,E3⟩;have e3:=E3.next;cases hn:cH s with
  |true=>simp only[sC,seval,dx,rz];exact bad (by rw[hok];simp) E3
  |false=>
  by_cases hse:s=[];rotate_left
  ·simp only[sC,seval,dx,hY,aA,fld0,l1 E3,hse];exact bad (by rw[hok];simp) E3
  by_cases k0:(k:Int)<1
  ·simp only[sC,seval,dx,hY,aA,fld0,l0 E3,l1 E3,k0,hse];exact bad (by rw[hok];simp) E3
  have k5:(5:Int)<(k:Int):=om;simp only[sC,seval,dx,hY,aA,fld0,l0 E3,l1 E3,k0,k5,hse];exact bad (by rw[hok];simp) E3
def CG{l:List St}{C:List ae}{v:ae}{H:aa}(z1:eM (·<H.next) H 9 v l.length C)(z2:lV (·<H.next) H l C)(hs:au l<=1000000) :
  aq Tryz.prog aF 16 [v] H λu H'=>u=.bool (d8 l)/\aS H.next H H':=by
 refine ak rfl WP rfl ?_;simp only[c16,sC,seval];refine(Fc z1 z2 hs).mono ?_;rintro _ H1 ⟨rfl,E1⟩;have hr:d8 l=(cA l&&hX l):=rfl;cases hf:hX l with
 |false=>rw[hr,hf,Bool.and_false];simp only[sC,seval];exact⟨tt,E1⟩
 |true=>rw[hr,hf,Bool.and_true];have km:∀b,b<H.next->b<H1.next/\H1.get b=H.get b:=λb hb=>⟨by have:=E1.next;omega,E1.old b hb⟩;simp only[sC,seval];refine(CE (au l) rL hs (z1.mono km) (z2.mono km)).mono ?_;rintro _ H2 ⟨rfl,E2⟩;simp only[sC,seval];exact⟨tt,E1.trans (E2.less E1.next)⟩
open Go.Abs Go.Abs.S
noncomputable section
set_option maxRecDepth 100000
def c27:cf:=by
 refine(λx (_:cN Tryz.prog 27=some x)=>x) ?a ?b
 case b=>cbv;rfl
def WG:cN Tryz.prog 27=some c27:=by kernel_rfl
def c54:cf:=⟨76,zq [zo 2 (.box (.t 0)),zo 4 (.new [zI 0,zI 0])] (zq [zl 11 2,zc 12 11,zf 13 0 12,zl 14 13,zh 15 14,zo 5 (.new [zI 0]),zs 5 15] (zq [zo 16 (.mkFunc (.func 97) [] [.t 2,.t 5])] (.dfr (.t 16) (.seq (zq [zm 17 1,zh 18 17,zo 19 (.mv (zi 0))] (.block 0 (.loop (zq [zb 20 .lss 19 18] (.seq (.cond (.t 20) .skip (.exit 0)) (.seq (.block 1 (zq [zm 21 19,zm 6 21] (zq [zm 22 1,zm 23 6,zo 24 (.idxA 9 (.t 22) (.t 23)),zm 7 24] (zr [zm 25 6,zk 26 .gtr 25 0,zm 27 26,zg 28 (.mv (.t 1)) 27 true,zg 29 (.mv (.t 6)) 27 true,zg 30 (.bin .sub (.t 29) (zi 1)) 27 true,zg 31 (.idxA 9 (.t 28) (.t 30)) 27 true,zg 32 (.fieldA 0 (.t 31)) 27 true,zg 33 (.load false 1 (.t 32)) 27 true,zg 34 (.bin .eql (.t 33) (zu 5)) 27 true,zo 35 (.pick (.t 27) (.t 34) (.c (.bool false)))] 35 (.seq (.draw [zm 36 7,zc 37 36,zf 38 8 37,zl 39 38,zp (.store 2 (.t 4) (.c (.agg [zI 0,zI 0]))),zf 40 0 4,zp (.store 1 (.t 40) (zi 113)),zf 41 1 4,zs 41 39] [[],[],[],[6,8],[],[],[],[],[]]) .ret) .skip (.seq (zq [zl 42 2,zm 43 7,zx 44 98 [.t 42,.t 43],zm 8 44] (zq [zm 45 8,zk 46 .neq 45 0] (.cond (.t 46) (.seq (.draw [zm 47 8,zm 48 7,zc 49 48,zf 50 8 49,zl 51 50,zp (.store 2 (.t 4) (.c (.agg [zI 0,zI 0]))),zf 52 0 4,zs 52 47,zf 53 1 4,zs 53 51] [[],[],[],[],[7,9],[],[],[],[],[]]) .ret) .skip))) (.seq (.seq (.draw [zl 54 2,zm 55 7,zc 56 55,zf 57 6 56,zl 58 57,zx 59 54 [.t 54,.t 58],zo 9 (.new [zI 0,zI 0]),zp (.store 2 (.t 9) (.t 59))] [[],[],[],[],[],[],[5],[]]) (zq [zf 60 0 9,zl 61 60,zk 62 .neq 61 0] (.cond (.t 62) (zq [zt 63 2 9,zp (.store 2 (.t 4) (.t 63))] .ret) .skip))) (.seq (.draw [zl 64 2,zm 65 7,zc 66 65,zf 67 7 66,zl 68 67,zx 69 54 [.t 64,.t 68],zo 10 (.new [zI 0,zI 0]),zp (.store 2 (.t 10) (.t 69))] [[],[],[],[],[],[],[5],[]]) (zq [zf 70 0 10,zl 71 70,zk 72 .neq 71 0] (.cond (.t 72) (zq [zt 73 2 10,zp (.store 2 (.t 4) (.t 73))] .ret) .skip))))))))) (.reg [zk 74 .add 19 1,zm 19 74]))))))) (zq [zo 75 (.build [zI 0,zI 0] []),zp (.store 2 (.t 4) (.t 75))] .ret))))),[.cell true 2 4]⟩
def Wj:cN Tryz.prog 54=some c54:=by kernel_rfl
def c98:cf:=⟨96,zq [zo 4 (.mv (zi 0))] (zq [zm 9 1,zc 10 9,zf 11 2 10,zt 12 4 11,zm 13 0,zc 14 13,zf 15 0 14,zl 16 15,zm 17 0,zc 18 17,zf 19 1 18,zl 20 19,zx 21 128 [.t 12,.t 16,.t 20],zm 8 21,ze 22 0 8,ze 23 1 8,zm 5 22,zm 6 23] (zr [zm 24 6,zk 25 .neq 24 0] 25 (zq [zm 26 6,zm 4 26] .ret) .skip (.seq (zq [zm 27 1,zc 28 27,zf 29 0 28,zl 30 29] (.block 0 (zq [zo 32 (.bin .eql (.t 30) (zu 1)),zm 31 32] (.cond (.t 31) (zr [zm 33 0,zc 34 33,zf 35 0 34,zl 36 35,zm 37 1,zc 38 37,zf 39 1 38,zl 40 39,zx 41 99 [.t 36,.t 40]] 41 (zq [zo 4 (.mv (zi 110))] .ret) .skip (.seq (.draw [zm 42 0,zm 43 0,zm 44 0,zc 45 44,zf 46 0 45,zl 47 46,zm 48 1,zc 49 48,zf 50 1 49,zl 51 50,zo 52 (.hf (.fill 0 (.lit 1 [.str []] [(0,1)])) [.t 51]),zo 53 (.append 1 16 (.t 47) (.t 52)),zm 54 0,zc 55 54,zf 56 1 55,zl 57 56,zm 58 5,zo 59 (.hf (.fill 0 (.lit 1 [zU 0] [(0,1)])) [.t 58]),zy 60 57 59,zc 61 42,zf 62 0 61,zs 62 53,zc 63 43,zf 64 1 63,zs 64 60] [[],[],[],[],[],[11],[],[],[],[],[],[],[],[],[],[10,11,18],[],[],[],[],[],[],[],[],[]]) (.reg [zp (.pf .apart [.t 59,.t 52]),zp (.pf .apart [.t 59,.t 46]),zp (.pf .apart [.t 59,.t 50]),zp (.pf .apart [.t 59,.t 56]),zp (.pf .apart [.t 59,.t 47]),zp (.pf .apart [.t 59,.t 52]),zp (.pf .apart [.t 59,.t 53]),zp (.pf .apart [.t 59,.t 46]),zp (.pf .apart [.t 59,.t 50]),zp (.pf .apart [.t 59,.t 56])]))) (zq [zo 66 (.bin .eql (.t 30) (zu 2)),zm 65 66] (.cond (.t 65) (zq [zm 67 0,zc 68 67,zf 69 0 68,zl 70 69,zm 71 1,zc 72 71,zf 73 1 72,zl 74 73,zx 75 130 [.t 70,.t 74],zm 7 75] (zr [zm 76 7,zk 77 .lss 76 4] 77 (zq [zo 4 (.mv (zi 110))] .ret) .skip (zq [zm 78 0,zc 79 78,zf 80 1 79,zl 81 80,zm 82 7,zd 83 81 82,zl 84 83,zm 85 5,zb 86 .neq 84 85] (.cond (.t 86) (zq [zo 4 (.mv (zi 111))] .ret) .skip)))) (zr [zo 88 (.bin .eql (.t 30) (zu 3)),zm 87 88] 87 .skip (.reg [zo 89 (.bin .eql (.t 30) (zu 4)),zm 87 89]) (.cond (.t 87) (zq [zm 90 5,zo 91 (.bin .eql (.t 90) (zu 2))] (.cond (.t 91) (zq [zo 4 (.mv (zi 111))] .ret) .skip)) (zq [zo 93 (.bin .eql (.t 30) (zu 5)),zm 92 93] (.cond (.t 92) (zq [zm 94 5,zo 95 (.bin .eql (.t 94) (zu 1))] (.cond (.t 95) (zq [zo 4 (.mv (zi 111))] .ret) .skip)) .skip)))))))))) (zq [zo 4 (.mv (zi 0))] .ret)))),[.t 4]⟩
def VU:cN Tryz.prog 98=some c98:=by kernel_rfl
def U2:cf:=by
 refine(λx (_:cN Tryz.prog 128=some x)=>x) ?a ?b
 case b=>cbv;rfl
def TF:cN Tryz.prog 128=some U2:=by kernel_rfl
def UF:cf:=by
 refine(λx (_:cN Tryz.prog 167=some x)=>x) ?a ?b
 case b=>cbv;rfl
def SZ:cN Tryz.prog 167=some UF:=by kernel_rfl
def Uw:cf:=by
 refine(λx (_:cN Tryz.prog 188=some x)=>x) ?a ?b
 case b=>cbv;rfl
def SH:cN Tryz.prog 188=some Uw:=by kernel_rfl
def OW:cf:=by
 refine(λx (_:cN Tryz.prog 168=some x)=>x) ?a ?b
 case b=>cbv;rfl
def JJ:cN Tryz.prog 168=some OW:=by kernel_rfl
def Uv:cf:=by
 refine(λx (_:cN Tryz.prog 189=some x)=>x) ?a ?b
 case b=>cbv;rfl
def SG:cN Tryz.prog 189=some Uv:=by kernel_rfl
def UE:cf:=by
 refine(λx (_:cN Tryz.prog 169=some x)=>x) ?a ?b
 case b=>cbv;rfl
def SY:cN Tryz.prog 169=some UE:=by kernel_rfl
def Rw:cf:=⟨66,zq [zo 4 (.mv zn),zo 5 (.mv (zi 0))] (zr [zm 13 1,zh 14 13,zk 15 .eql 14 0] 15 (zq [zo 4 (.mv zn),zo 5 (.mv (zi 0))] .ret) .skip (zq [zm 16 1,zx 17 189 [.t 16],zo 6 (.new [.ptr none,zI 0]),zp (.store 2 (.t 6) (.t 17))] (.seq (.seq (.draw [zm 19 0,zc 20 19,zf 21 4 20,zl 22 21,zt 23 2 6,zo 24 (.hf (.pLook (.p,.i) true (.agg [zN,zI 0])) [.t 22,.t 23]),zm 18 24,ze 25 0 18,ze 26 1 18,zo 7 (.new [zN,zI 0]),zp (.store 2 (.t 7) (.t 25)),zm 8 26] [[],[],[],[],[],[],[],[],[],[5],[],[]]) (zq [zm 27 8] (.cond (.t 27) (zq [zf 28 0 7,zl 29 28,zf 30 1 7,zl 31 30,zm 4 29,zm 5 31] .ret) .skip))) (zq [zo 9 (.new [zN,zI 0])] (.seq (zq [zm 32 1,zh 33 32,zo 34 (.mv (zi 0))] (.block 0 (.loop (zq [zb 35 .lss 34 33] (.seq (.cond (.t 35) .skip (.exit 0)) (.seq (.block 1 (zq [zm 36 34,zm 10 36] (zq [zm 38 0,zm 39 1,zm 40 10,zo 41 (.idxA 4 (.t 39) (.t 40)),zx 42 169 [.t 38,.t 41],zm 37 42,ze 43 0 37,ze 44 1 37,zm 11 43,zm 12 44] (zr [zm 45 12,zk 46 .neq 45 0] 46 (zq [zm 47 12,zo 48 (.build [zN,zI 0] [(1,1,.t 47)]),zp (.store 2 (.t 9) (.t 48))] (.exit 0)) .skip (.reg [zf 49 0 9,zl 50 49,zm 51 11,zo 52 (.buildSl 1 [zU 0] [(0,1,.t 51)]),zy 53 50 52,zf 54 0 9,zs 54 53]))))) (.reg [zk 55 .add 34 1,zm 34 55]))))))) (zq [zm 56 0,zc 57 56,zf 58 4 57,zl 59 58,zt 60 2 6,zt 61 2 9,zp (.hf (.pUpd (.p,.i)) [.t 59,.t 60,.t 61])] (zq [zf 62 0 9,zl 63 62,zf 64 1 9,zl 65 64,zm 4 63,zm 5 65] .ret))))))),[.t 4,.t 5]⟩
def Pu:cN Tryz.prog 190=some Rw:=by kernel_rfl
def Rv:cf:=by
 refine(λx (_:cN Tryz.prog 191=some x)=>x) ?a ?b
 case b=>cbv;rfl
def Pt:cN Tryz.prog 191=some Rv:=by kernel_rfl
def tw:cf:=by
 refine(λx (_:cN Tryz.prog 205=some x)=>x) ?a ?b
 case b=>cbv;rfl
def mF:cN Tryz.prog 205=some tw:=by kernel_rfl
def Ru:cf:=by
 refine(λx (_:cN Tryz.prog 192=some x)=>x) ?a ?b
 case b=>cbv;rfl
def SF:cN Tryz.prog 192=some Ru:=by kernel_rfl
def Rs:cf:=by
 refine(λx (_:cN Tryz.prog 206=some x)=>x) ?a ?b
 case b=>cbv;rfl
def Sz:cN Tryz.prog 206=some Rs:=by kernel_rfl
def Sq:cf:=by
 refine(λx (_:cN Tryz.prog 55=some x)=>x) ?a ?b
 case b=>cbv;rfl
def Qv:cN Tryz.prog 55=some Sq:=by kernel_rfl
def Qc:cf:=⟨20,.reg [zl 2 0,zl 3 0,zl 4 0,zc 5 4,zf 6 0 5,zl 7 6,zl 8 1,zo 9 (.sl 1 (.t 7) none (some (.t 8)) none),zl 10 0,zc 11 10,zf 12 1 11,zl 13 12,zl 14 1,zo 15 (.sl 1 (.t 13) none (some (.t 14)) none),zc 16 2,zf 17 0 16,zs 17 9,zc 18 3,zf 19 1 18,zs 19 15],[]⟩
def Qw:cN Tryz.prog 3169=some Qc:=by kernel_rfl
end
end Go.Proofs.Wo
namespace Go.Abs.S
open Go.Abs
def aT.cut{m k:Nat}{H:aa}{s:ae}{L:List ae}(h:aT m H s L k)(hm:0<m){n:Nat}(hn:n<=k) :
  ∃s',Ii m s none (some (.int .i64 (n:Int))) none=some s'/\aT m H s' (L.take (n*m)) n/\∀P,bx s P->bx s' P:=by
 have b0:∀l c,n<=c->rU l c none (some (.int .i64 (n:Int))) none=some (0,n,none):=by
  intro l c hc;show(match DK (some (ae.int .i64 (Int.ofNat n))) c l with|some h=>(match DK none h 0 with|some l=>some (l,h,none)|none=>none)|none=>none)=_;simp only[DK,bd,Xz hc,cond_true]
 rcases h with⟨rfl,rfl,rfl⟩|⟨b,C,low,r,rfl,h2,h3,h4,h5,h6,h7,h8⟩
 ·obtain rfl:n=0:=om;exact⟨aX,rfl,.inl ⟨rfl,by simp,rfl⟩,λP h=>h⟩
 ·have hnm:n*m<=k*m:=Nat.mul_le_mul_right _ hn;have hL:C.take (n*m)=L.take (n*m):=by rw[<- h5,List.take_take,Nat.min_eq_left hnm]
  have hLl:(L.take (n*m)).length=n*m:=by rw[XT];omega
  rcases h2 with rfl|⟨cap,rfl,hkc,hcap⟩
  ·refine⟨.slice (some ⟨b,C.length,0⟩) n (.open_ m),?_,.inr ⟨b,C,low,.open_ m,rfl,.inl rfl,h3,h4,hL,hLl,om,h8⟩,λP hP=>(have q:P b:=hP _ _ _ rfl;cp q)⟩;have hd:n<=C.length / m:=by rw[Nat.le_div_iff_mul_le hm];omega
   simp only[Ii,Nat.beq_refl,cond_true,b0 _ _ hd,Nat.zero_mul,Nat.zero_add,Nat.sub_zero,Xz (show n*m<=C.length by omega)]
  ·have hc:(bif Nat.beq cap 0 then some (ae.slice (some ⟨b,C.length,0⟩) n (.known cap))else some (ae.slice (some ⟨b,C.length,0⟩) n (.known cap)))=some (ae.slice (some ⟨b,C.length,0⟩) n (.known cap)):=by cases Nat.beq cap 0<;>rfl
   refine⟨.slice (some ⟨b,C.length,0⟩) n (.known cap),?_,.inr ⟨b,C,low,.known cap,rfl,.inr ⟨cap,rfl,om,hcap⟩,h3,h4,hL,hLl,om,h8⟩,λP hP=>(have q:P b:=hP _ _ _ rfl;cp q)⟩;simp only[Ii,b0 _ _ (show n<=cap by omega),Option.getD_none,Nat.zero_mul,Nat.add_zero,Nat.sub_zero,hc]
end Go.Abs.S
namespace Go.Proofs.Wo
open Go.Abs Go.Abs.S
def bPl(x y:ae)(hx:x.cells=[x])(hy:y.cells=[y]):aJ [.ptr none,.int .i64 0] [(0,1,x),(1,1,y)]=some (.agg [x,y]):=by simp[aJ,kV,hx,hy,pM];rfl
def rZ.pos{P:Nat->Prop}{H:aa}{m k:Nat}{v:ae}{C:List ae}(h:rZ P H m v k C)(hk:0<k):∃b low r,v=.slice (some ⟨b,C.length,0⟩) k r/\P b/\H.get b=some (.cells C low false)/\low<=C.length/\C.length=m*k:=by
 rcases h with⟨_,h,_⟩|h
 ·omega
 ·exact h
def tM{b n k:Nat}{r:xj}{H:aa}(hk:0<k):aq Tryz.prog aF 189 [.slice (some ⟨b,n,0⟩) k r] H λu H'=>u=eE b n k/\aS H.next H H':=by
 refine ak rfl SG rfl ?_;obtain⟨H1,m1,r1,n1,k1⟩:=aC H [.ptr none,.int .i64 0] (n:=2) rfl;obtain⟨H2,m2,r2,n2,k2⟩:=am r1 (n:=2) rfl (xs:=[.ptr (some ⟨b,n,0⟩),.int .i64 (k:Int)]) rfl rfl;have ln:ez false (.slice (some ⟨b,n,0⟩) k r)=some (.int .i64 (k:Int)):=rfl;have hk0:¬(k:Int)=0:=om;have ix:jk 4 (.slice (some ⟨b,n,0⟩) k r) (.int .i64 0)=some (.ptr (some ⟨b,n,0⟩)):=by show(bif Nat.blt 0 k then some (ae.ptr (some ⟨b,n,0+0*4⟩))else none)=_;rw[show Nat.blt 0 k=true by simpa[Nat.blt_eq]using hk];rfl
 have bb:=bPl (.ptr (some ⟨b,n,0⟩)) (.int .i64 (k:Int)) rfl rfl;have l2:al true 2 H2 (ah H.next 2 0)=some (.agg [.ptr (some ⟨b,n,0⟩),.int .i64 (k:Int)]):=aw r2 rfl;simp only[Uv,sC,seval,m1,ln,hk0,ix,bb,m2];refine gb _ _ _ _ (by simp only[sC,seval];exact l2) ?_;exact⟨rfl,om,λc hc=>by rw[k2 c om,k1 c om]⟩
def Nf(ab:Nat)(vn vk:ae)(mb mt mk:Nat)(H:aa):Prop:=be H ab [vn,vk,.map (some mb),.map (some mt),.map (some mk)]
def CJ(_:aa)(kids:List Ex)(x:ae):Prop:=x=.int .i64 (bG kids:Int)
def kL{e:Ex}{l:List Ex}(h:e∈l):e.deep<=bG l:=by
 induction l with
 |nil=>simp at h
 |cons x l ih=>
  simp only[bG];rcases List.mem_cons.1 h with rfl|h
  ·omega
  ·have:=ih h;omega
def nu{e:Ex}{l:List Ex}(h:e∈l):e.size<=aU l:=by
 induction l with
 |nil=>simp at h
 |cons x l ih=>
  simp only[aU];rcases List.mem_cons.1 h with rfl|h
  ·omega
  ·have:=ih h;omega
def Fx{l:List Ex}(h:l≠[]):1<=bG l:=by
 cases l with
 |nil=>exact absurd rfl h
 |cons x l=>cases x;simp only[bG,Ex.deep];omega
def zY{ab mb mt mk n0:Nat}{vn vk:ae}(hmt:n0<=mt)(hab:ab≠mt):∀(N:Nat) {kids:List Ex} {C:List ae} {v:ae} {H:aa} {deep:Nat},aU kids<=N->N<=1000000->Nf ab vn vk mb mt mk H->ab<H.next->n0<=H.next->iB (·<n0) CJ mt H->rZ (·<n0) H 4 v kids.length C->ed (·<n0) H kids C->deep+bG kids<=40 ->
  aq Tryz.prog aF 168 [ah ab 5 0,v,.int .i64 (deep:Int)] H λu H'=>u=.int .i64 (bG kids:Int)/\Fp mt H H'/\iB (·<n0) CJ mt H':=by
 intro N;induction N with
 |zero=>
  intro kids C v H deep h hN hA _ _ hM z1 z2 hd;have hk0:kids=[]:=by
   cases kids with
   |nil=>rfl
   |cons x l=>cases x;simp only[aU,Ex.size]at h;omega
  subst hk0;have ln:=z1.sl.len;have h0:(([]:List Ex).length:Int)=0:=rfl;refine ak rfl JJ rfl ?_;simp only[OW,sC,seval,ln,h0];exact⟨tt,Fp.refl _ _,hM⟩
 |succ N ih=>
  intro kids C v H deep h hN hA hab1 hn0 hM z1 z2 hd;have ln:=z1.sl.len;by_cases hk0:kids=[]
  ·subst hk0;have h0:(([]:List Ex).length:Int)=0:=rfl;refine ak rfl JJ rfl ?_;simp only[OW,sC,seval,ln,h0];exact⟨tt,Fp.refl _ _,hM⟩
  have hkp:0<kids.length:=List.length_pos_iff.2 hk0;have hkn:¬(kids.length:Int)=0:=om;have hdp:=Fx hk0;have hd40:¬(40:Int)<=(deep:Int):=om;obtain⟨b,low,r,rfl,hb,hg,hlow,hC⟩:=z1.pos hkp;refine ak rfl JJ rfl ?_;simp only[OW,sC,seval,ln,hkn,hd40];refine(tM hkp).mono ?_;rintro _ H1 ⟨rfl,E1⟩;have e1:=E1.next;have n1b:=E1.next;obtain⟨H2,m2,r2,n2,k2⟩:=aC H1 [.ptr none,.int .i64 0] (n:=2) rfl;obtain⟨H3,m3,r3,n3,k3⟩:=am r2 (n:=2) rfl (xs:=[.ptr (some ⟨b,C.length,0⟩),.int .i64 (kids.length:Int)]) rfl rfl;have k13:∀c,c<H1.next->H3.get c=H1.get c:=λc hc=>by rw[k3 c om,k2 c om]
  have k03:∀c,c<H.next->H3.get c=H.get c:=λc hc=>by rw[k13 c om,E1.old c hc]
  have hA3:Nf ab vn vk mb mt mk H3:=hA.same (k03 ab hab1);have lt:al false 1 H3 (ah ab 5 3)=some (.map (some mt)):=aj hA3 rfl rfl;have lp:al true 2 H3 (ah H1.next 2 0)=some (eE b C.length kids.length):=aw r3 rfl;have hmtn:=hM.1;have km:∀c,c<n0->c<n0/\H3.get c=H.get c:=λc hc=>⟨hc,k03 c om⟩;have hM3:iB (·<n0) CJ mt H3:=hM.keep om (k03 mt hmtn) km λ_ _ q=>q;have hg3:H3.get b=some (.cells C low false):=(k03 b (by have:b<n0:=hb;omega)).trans hg;have z23:=z2.mono km;have m3':bh 2 H2 (ah H1.next 2 0) (eE b C.length kids.length)=some H3:=m3;simp only[sC,seval,m2,m3',az,aA,lt,lp];rcases hM3.look hg3 z23 (.int .i64 0)with q|⟨y,hy,q⟩
  case inr=>have q':kj (.pLook (.p,.i) true (.int .i64 0)) H3 [.map (some mt),eE b C.length kids.length]=some (.tuple [y,.bool true],H3):=q;obtain rfl:y=.int .i64 (bG kids:Int):=hy;have wd:IntKind.i64.wrap ((deep:Int)+(bG kids:Int))=((deep+bG kids:Nat):Int):=iP;have hd':¬(40:Int)<((deep+bG kids:Nat):Int):=om;simp only[sC,seval,q',bv,bu,wd,hd'];exact⟨tt,⟨om,λc hc _=>k03 c hc⟩,hM3⟩
  have q':kj (.pLook (.p,.i) true (.int .i64 0)) H3 [.map (some mt),eE b C.length kids.length]=some (.tuple [.int .i64 0,.bool false],H3):=q;have ln':ez false (.slice (some ⟨b,C.length,0⟩) kids.length r)=some (.int .i64 (kids.length:Int)):=rfl;simp only[sC,seval,q',bv,bu,ln'];obtain⟨kb,hkb⟩:∃kb,kb=H1.next:=⟨_,rfl⟩;rw[<- hkb]at r3 lp m3';refine aM (λm (T:bZ) K=>∃i:Nat,m=kids.length-i/\i<=kids.length/\T 0=ah ab 5 0/\T 1=.slice (some ⟨b,C.length,0⟩) kids.length r/\T 2=.int .i64 (deep:Int)/\T 7=ah kb 2 0/\T 8=.int .i64 (bG (kids.take i):Int)/\T 35=.int .i64 (kids.length:Int)/\T 36=.int .i64 (i:Int)/\Fp mt H3 K/\iB (·<n0) CJ mt K) kids.length
   ⟨0,rfl,Nat.zero_le _,by simp only[sC,seval];try rfl,by simp only[sC,seval];try rfl,by simp only[sC,seval];try rfl,by simp only[sC,seval,hkb];try rfl,by simp only[sC,seval];try rfl,by simp only[sC,seval];try rfl,by simp only[sC,seval];try rfl,Fp.refl _ _,hM3⟩ ?_
  rintro m T K ⟨i,rfl,hi,t0,t1,t2,t7,t8,t35,t36,FK,MK⟩;have eK:=FK.next;have hAK:Nf ab vn vk mb mt mk K:=hA3.same (FK.old ab om hab);have kmK:∀c,c<n0->c<n0/\K.get c=H3.get c:=λc hc=>⟨hc,FK.old c om om⟩;have hgK:K.get b=some (.cells C low false):=((kmK b hb).2).trans hg3;by_cases hlt:i<kids.length
  case neg=>
   obtain rfl:i=kids.length:=om;have hlt':¬(kids.length:Int)<(kids.length:Int):=om;rw[List.take_length]at t8;have ltK:al false 1 K (ah ab 5 3)=some (.map (some mt)):=aj hAK rfl rfl;have lpK:al true 2 K (ah kb 2 0)=some (eE b C.length kids.length):=aw (r3.same (FK.old kb om om)) rfl;obtain⟨K2,u1,u2,u3,u4⟩:=MK.upd hgK (z23.mono kmK) hb (λc hc=>by have:c<n0:=hc;omega) (y:=.int .i64 (bG kids:Int)) (by
    rintro H' _ _ k x (h|⟨rfl,rfl⟩)
    ·exact h
    ·rfl)
   have u1':kj (.pUpd (.p,.i)) K [.map (some mt),eE b C.length kids.length,.int .i64 (bG kids:Int)]=some (.tuple [],K2):=u1;simp only[sC,seval,t0,t1,t2,t7,t8,t35,t36,hlt',az,aA,ltK,lpK,u1'];exact⟨tt,⟨om,λc hc hne=>by rw[u4 c hne,FK.old c om hne,k03 c hc]⟩,u2⟩
  have hlt':(i:Int)<(kids.length:Int):=om;obtain⟨e,he⟩:∃e,kids[i]?=some e:=⟨_,Xx hlt⟩;have hts:kids.take (i+1)=kids.take i++[e]:=by rw[List.take_add_one,he];rfl
  have hmem:=XG he;have hsm:=nu hmem;have hdm:=kL hmem;have z1K:rZ (·<n0) K 4 (.slice (some ⟨b,C.length,0⟩) kids.length r) kids.length C:=.inr ⟨b,low,r,rfl,hb,hgK,hlow,hC⟩;have ix:=z1K.sl.idx hlt;have pt:=z1K.sl.pt hlt;have fl3:=pt.fld 3;have hx:=(z23.mono kmK).at he;obtain⟨ek,es,en,ekids⟩:=e;obtain⟨v',C',hc,y1,y2⟩:=hx;rw[hc]at pt;have l3:al false 1 K (fp (cz 4 (.slice (some ⟨b,C.length,0⟩) kids.length r) i) 3)=some v':=pt.load (o:=3) rfl;have hsz:(Ex.mk ek es en ekids).size=aU ekids+1:=rfl;have hdp2:(Ex.mk ek es en ekids).deep=bG ekids+1:=rfl;have wd:IntKind.i64.wrap ((deep:Int)+1)=((deep+1:Nat):Int):=iP;have wi:IntKind.i64.wrap ((i:Int)+1)=((i+1:Nat):Int):=fT i 1 (by have:=cO kids;omega);have wk:IntKind.i64.wrap ((bG ekids:Int)+1)=((bG ekids+1:Nat):Int):=iP;have hneg:¬(bG ekids:Int)<0:=om;simp only[sC,seval,t0,t1,t2,t7,t8,t35,t36,hlt',ix,fl3,l3,wd];refine(ih (deep:=deep+1) om om hAK om om MK y1 y2 om).mono ?_;rintro _ K2 ⟨rfl,F2,M2⟩;simp only[sC,seval,t0,t1,t2,t7,t8,t35,t36,hneg,wk,oQ,wi];refine⟨kids.length-(i+1),om,i+1,rfl,om,tt,tt,tt,tt,?_,tt,tt,FK.trans F2,M2⟩;rw[hts,gI];simp only[bG,hdp2,Nat.max_zero]
open Go.Abs Go.Abs.S
def aT.cel1{H:aa}{s:ae}{L:List ae}{k n:Nat}(h:aT 1 H s L k)(hb:bx s (·<n)):fo n H s L/\L.length=k:=by
 rcases h with⟨rfl,rfl,rfl⟩|⟨b,C,low,r,rfl,h2,h3,h4,h5,h6,h7,h8⟩
 ·exact⟨.inl ⟨rfl,rfl⟩,rfl⟩
 ·rw[Nat.mul_one]at h5 h6 h7;refine⟨.inr ⟨⟨b,C.length,0⟩,r,by rw[h6],hb _ _ _ rfl,?_⟩,h6⟩;have:=iF (H:=H) ⟨low,h3,h4⟩ rfl (i:=0) (k:=k) om;rw[h6,this,List.drop_zero,h5]
def gh(E:aO):List ae:=(E.map (·.1)).map .str
def co(t:Nat):ae:=.int .u8 (t:Int)
def iu(E:aO):List ae:=E.map λx=>co x.2
def gW(ts:List Nat):List ae:=ts.map co
def eR(E:aO):(gh E).length=E.length:=by simp[gh]
def kI(E:aO):(iu E).length=E.length:=by simp[iu]
def gY(ts:List Nat):(gW ts).length=ts.length:=by simp[gW]
def nQ{s:Bs}:∀(E:aO) (i:Nat) (x:Bs×Nat),bB s (E.take i)=none->E[i]?=some x->bB s E=if x.1=s then some i else bB s E
 | [],i,x,_,h=>by simp at h
 |y::E,0,x,_,h=>by simp only[XH,sJ]at h;subst h;simp only[bB];split<;>rfl
 |y::E,i+1,x,h0,h=>by
  simp only[XI]at h;simp only[List.take_succ_cons,bB]at h0;by_cases hy:y.1=s
  ·rw[if_pos hy]at h0;simp at h0
  ·rw[if_neg hy]at h0;have h0':bB s (E.take i)=none:=by
    cases hf:bB s (E.take i)with
    |none=>rfl
    |some j=>rw[hf]at h0;simp at h0
   have:=nQ E i x h0' h;simp only[bB,if_neg hy];by_cases hx:x.1=s
   ·rw[if_pos hx]at this ⊢;rw[this];rfl
   ·rw[if_neg hx]
def nR{s:Bs}{x:Bs×Nat}(hx:x.1≠s):∀(E:aO),bB s E=none->bB s (E++[x])=none
 | [],_=>by simp[bB,hx]
 |y::E,h=>by
  simp only[bB]at h;by_cases hy:y.1=s
  ·rw[if_pos hy]at h;simp at h
  ·rw[if_neg hy]at h;have:bB s E=none:=by
    cases hf:bB s E with
    |none=>rfl
    |some j=>rw[hf]at h;simp at h
   simp only[XQ,bB,if_neg hy,nR hx E this,Option.map_none]
def xF(s:Bs)(E:aO):Int:=match bB s E with
 |some i=>(i:Int)
 |none=>-1
def uz{H:aa}{v:ae}{E:aO}{n:Nat}(c:fo n H v (gh E))(x:Bs)(hl:E.length<=1000000):aq Tryz.prog aF 130 [v,.str x] H λu H'=>H=H'/\u=.int .i64 (xF x E):=by
 refine ak rfl Pw rfl ?_;simp only[RI,sC,seval,c.len,eR];refine aM (λm (T:bZ) H'=>H=H'/\∃i:Nat,m=E.length-i/\i<=E.length/\T 0=v/\T 1=.str x/\T 7=.int .i64 (E.length:Int)/\T 8=.int .i64 (i:Int)/\bB x (E.take i)=none) E.length
  ⟨rfl,0,rfl,om,by simp only[sC,seval],by simp only[sC,seval],by simp only[sC,seval],by simp only[sC,seval];try rfl,rfl⟩ ?_
 rintro m T _ ⟨rfl,i,rfl,hi,t0,t1,t7,t8,hx⟩;by_cases hlt:i<E.length
 case neg=>obtain rfl:i=E.length:=om;have hlt':¬(E.length:Int)<(E.length:Int):=om;rw[List.take_length]at hx;simp only[sC,seval,t7,t8,hlt',xF,hx];exact⟨tt,tt⟩
 have hlt':(i:Int)<(E.length:Int):=om;obtain⟨y,hy⟩:∃y,E[i]?=some y:=⟨_,Xx hlt⟩;have io:=c.idx .i64 (i:=i) (by rw[eR];exact hlt);have lo:=c.load (i:=i) (x:=.str y.1) (by simp[gh,hy]);have wk:IntKind.i64.wrap ((i:Int)+1)=((i+1:Nat):Int):=iP;have hf:=nQ E i y hx hy;by_cases he:x=y.1
 ·rw[if_pos he.symm]at hf;simp only[sC,seval,t0,t1,t7,t8,hlt',io,lo,he,HW,xF];rw[<- he,hf];exact⟨tt,tt⟩
 ·simp only[sC,seval,t0,t1,t7,t8,hlt',io,lo,he,wk];refine⟨E.length-(i+1),om,tt,i+1,rfl,om,tt,tt,tt,tt,?_⟩;rw[List.take_add_one,hy];exact nR (λe=>he e.symm) _ hx
def NH{a b:Nat}(ha:a=1∨a=2)(hb:b=1∨b=2){H:aa}:aq Tryz.prog aF 205 [.str [124,124],co a,co b] H λv H'=>v=co (ja [124,124] a b)/\H=H':=by rcases ha with rfl|rfl<;>rcases hb with rfl|rfl<;>(refine ak rfl mF rfl ?_;simp only[tw,co,Int.cast_ofNat_Int,sC,seval];exact⟨by rfl,tt⟩)
def NG{a b:Nat}(ha:a=1∨a=2)(hb:b=1∨b=2){H:aa}:aq Tryz.prog aF 205 [.str [38,38],co a,co b] H λv H'=>v=co (ja [38,38] a b)/\H=H':=by rcases ha with rfl|rfl<;>rcases hb with rfl|rfl<;>(refine ak rfl mF rfl ?_;simp only[tw,co,Int.cast_ofNat_Int,sC,seval];exact⟨by rfl,tt⟩)
def NF{a b:Nat}(ha:a=1∨a=2)(hb:b=1∨b=2){H:aa}:aq Tryz.prog aF 205 [.str [61,61],co a,co b] H λv H'=>v=co (ja [61,61] a b)/\H=H':=by rcases ha with rfl|rfl<;>rcases hb with rfl|rfl<;>(refine ak rfl mF rfl ?_;simp only[tw,co,Int.cast_ofNat_Int,sC,seval];exact⟨by rfl,tt⟩)
def NE{a b:Nat}(ha:a=1∨a=2)(hb:b=1∨b=2){H:aa}:aq Tryz.prog aF 205 [.str [33,61],co a,co b] H λv H'=>v=co (ja [33,61] a b)/\H=H':=by rcases ha with rfl|rfl<;>rcases hb with rfl|rfl<;>(refine ak rfl mF rfl ?_;simp only[tw,co,Int.cast_ofNat_Int,sC,seval];exact⟨by rfl,tt⟩)
def ND{a b:Nat}(ha:a=1∨a=2)(hb:b=1∨b=2){H:aa}:aq Tryz.prog aF 205 [.str [60,61],co a,co b] H λv H'=>v=co (ja [60,61] a b)/\H=H':=by rcases ha with rfl|rfl<;>rcases hb with rfl|rfl<;>(refine ak rfl mF rfl ?_;simp only[tw,co,Int.cast_ofNat_Int,sC,seval];exact⟨by rfl,tt⟩)
def NC{a b:Nat}(ha:a=1∨a=2)(hb:b=1∨b=2){H:aa}:aq Tryz.prog aF 205 [.str [62,61],co a,co b] H λv H'=>v=co (ja [62,61] a b)/\H=H':=by rcases ha with rfl|rfl<;>rcases hb with rfl|rfl<;>(refine ak rfl mF rfl ?_;simp only[tw,co,Int.cast_ofNat_Int,sC,seval];exact⟨by rfl,tt⟩)
def NB{a b:Nat}(ha:a=1∨a=2)(hb:b=1∨b=2){H:aa}:aq Tryz.prog aF 205 [.str [60],co a,co b] H λv H'=>v=co (ja [60] a b)/\H=H':=by rcases ha with rfl|rfl<;>rcases hb with rfl|rfl<;>(refine ak rfl mF rfl ?_;simp only[tw,co,Int.cast_ofNat_Int,sC,seval];exact⟨by rfl,tt⟩)
def NA{a b:Nat}(ha:a=1∨a=2)(hb:b=1∨b=2){H:aa}:aq Tryz.prog aF 205 [.str [62],co a,co b] H λv H'=>v=co (ja [62] a b)/\H=H':=by rcases ha with rfl|rfl<;>rcases hb with rfl|rfl<;>(refine ak rfl mF rfl ?_;simp only[tw,co,Int.cast_ofNat_Int,sC,seval];exact⟨by rfl,tt⟩)
def Nz{a b:Nat}(ha:a=1∨a=2)(hb:b=1∨b=2){H:aa}:aq Tryz.prog aF 205 [.str [43],co a,co b] H λv H'=>v=co (ja [43] a b)/\H=H':=by rcases ha with rfl|rfl<;>rcases hb with rfl|rfl<;>(refine ak rfl mF rfl ?_;simp only[tw,co,Int.cast_ofNat_Int,sC,seval];exact⟨by rfl,tt⟩)
def Ny{a b:Nat}(ha:a=1∨a=2)(hb:b=1∨b=2){H:aa}:aq Tryz.prog aF 205 [.str [45],co a,co b] H λv H'=>v=co (ja [45] a b)/\H=H':=by rcases ha with rfl|rfl<;>rcases hb with rfl|rfl<;>(refine ak rfl mF rfl ?_;simp only[tw,co,Int.cast_ofNat_Int,sC,seval];exact⟨by rfl,tt⟩)
def J4{a b:Nat}(ha:a=1∨a=2)(hb:b=1∨b=2){H:aa}:aq Tryz.prog aF 205 [.str [42],co a,co b] H λv H'=>v=co (ja [42] a b)/\H=H':=by rcases ha with rfl|rfl<;>rcases hb with rfl|rfl<;>(refine ak rfl mF rfl ?_;simp only[tw,co,Int.cast_ofNat_Int,sC,seval];exact⟨by rfl,tt⟩)
def J3{a b:Nat}(ha:a=1∨a=2)(hb:b=1∨b=2){H:aa}:aq Tryz.prog aF 205 [.str [47],co a,co b] H λv H'=>v=co (ja [47] a b)/\H=H':=by rcases ha with rfl|rfl<;>rcases hb with rfl|rfl<;>(refine ak rfl mF rfl ?_;simp only[tw,co,Int.cast_ofNat_Int,sC,seval];exact⟨by rfl,tt⟩)
def DV{s:Bs}{a b:Nat}(hs:nC s 2=true)(ha:a=1∨a=2)(hb:b=1∨b=2){H:aa}:aq Tryz.prog aF 205 [.str s,co a,co b] H λv H'=>v=co (ja s a b)/\H=H':=by
 have hm:s∈([[124,124],[38,38],[61,61],[33,61],[60,61],[62,61],[60],[62],[43],[45],[42],[47]]:List Bs):=by simpa[nC]using hs
 simp only[List.mem_cons,List.not_mem_nil,or_false]at hm;rcases hm with rfl|rfl|rfl|rfl|rfl|rfl|rfl|rfl|rfl|rfl|rfl|rfl
 ·exact NH ha hb
 ·exact NG ha hb
 ·exact NF ha hb
 ·exact NE ha hb
 ·exact ND ha hb
 ·exact NC ha hb
 ·exact NB ha hb
 ·exact NA ha hb
 ·exact Nz ha hb
 ·exact Ny ha hb
 ·exact J4 ha hb
 ·exact J3 ha hb
def DW{s:Bs}{ts:List Nat}{v:ae}{n:Nat}{H:aa}(c:fo n H v (gW ts))(hs:nC s ts.length=true)(ht:∀t∈ts,t=1∨t=2):aq Tryz.prog aF 191 [.str s,v] H λu H'=>u=co (yw s ts)/\H=H':=by
 have ln:=c.len;rw[gY]at ln
 match ts,c,hs,ht,ln with
 | [],_,hs,_,_=>simp[nC]at hs
 | [a],c,hs,ht,ln=>
  have i0:=c.idx .i64 (i:=0) (by simp[gW]);have l0:=c.load (i:=0) (x:=co a) rfl;simp only[Int.cast_ofNat_Int,XB,XC,Nat.zero_add]at i0 ln;have hm:s∈([[45],[33]]:List Bs):=by simpa[nC]using hs
  simp only[List.mem_cons,List.not_mem_nil,or_false]at hm;have ha:=ht a (by simp);rcases hm with rfl|rfl<;>rcases ha with rfl|rfl<;>(refine ak rfl Pt rfl ?_;simp only[co,Int.cast_ofNat_Int]at l0;simp only[Rv,co,Int.cast_ofNat_Int,sC,seval,ln,i0,l0];exact⟨by rfl,tt⟩)
 | [a,b],c,hs,ht,ln=>have i0:=c.idx .i64 (i:=0) (by simp[gW]);have l0:=c.load (i:=0) (x:=co a) rfl;have i1:=c.idx .i64 (i:=1) (by simp[gW]);have l1:=c.load (i:=1) (x:=co b) rfl;simp only[Int.cast_ofNat_Int,XB,XC,Nat.zero_add,Nat.reduceAdd]at i0 i1 ln;refine ak rfl Pt rfl ?_;simp only[Rv,sC,seval,ln,i0,l0,i1,l1];refine(DV (by simpa[nC]using hs) (ht a (by simp)) (ht b (by simp))).mono ?_;rintro u _ ⟨rfl,rfl⟩;simp only[sC,seval];exact⟨tt,tt⟩
 |_::_::_::_,_,hs,_,_=>simp[nC]at hs
def BP{x y:List Nat}{v w:ae}{n m:Nat}{H:aa}(c:fo n H v (gW x))(d:fo m H w (gW y))(hl:x.length<=1000000):aq Tryz.prog aF 206 [v,w] H λu H'=>u=.bool (decide (x=y))/\H=H':=by
 have lx:=c.len;have ly:=d.len;rw[gY]at lx ly;refine ak rfl Sz rfl ?_;by_cases hne:x.length=y.length
 case neg=>have h1:¬(x.length:Int)=(y.length:Int):=om;have h2:decide (x=y)=false:=decide_eq_false λe=>hne (by rw[e]);simp only[Rs,sC,seval,lx,ly,h1,h2];exact⟨tt,tt⟩
 have h1:(x.length:Int)=(y.length:Int):=om;simp only[Rs,sC,seval,lx,ly,h1];refine aM (λk (T:bZ) H'=>H=H'/\∃i:Nat,k=x.length-i/\i<=x.length/\T 0=v/\T 1=w/\T 12=.int .i64 (y.length:Int)/\T 13=.int .i64 (i:Int)/\x.take i=y.take i) x.length
  ⟨rfl,0,rfl,Nat.zero_le _,by simp only[sC,seval],by simp only[sC,seval];try rfl,by simp only[sC,seval],by simp only[sC,seval];try rfl,rfl⟩ ?_
 rintro k T _ ⟨rfl,i,rfl,hi,t0,t1,t12,t13,he⟩;by_cases hlt:i<x.length
 case neg=>obtain rfl:i=x.length:=om;have hlt':¬(x.length:Int)<(y.length:Int):=om;rw[List.take_length,hne,List.take_length]at he;have h2:decide (x=y)=true:=decide_eq_true he;simp only[sC,seval,t0,t1,t12,t13,hlt',h2];exact⟨tt,tt⟩
 have hlt':(i:Int)<(y.length:Int):=om;obtain⟨a,ha⟩:∃a,x[i]?=some a:=⟨_,Xx hlt⟩;obtain⟨b,hb⟩:∃b,y[i]?=some b:=⟨_,Xx om⟩;have i1:=c.idx .i64 (i:=i) (by rw[gY];exact hlt);have l1:=c.load (i:=i) (x:=co a) (by simp[gW,ha]);have i2:=d.idx .i64 (i:=i) (by rw[gY];omega);have l2:=d.load (i:=i) (x:=co b) (by simp[gW,hb]);have wk:IntKind.i64.wrap ((i:Int)+1)=((i+1:Nat):Int):=iP;simp only[co]at l1 l2;by_cases hab:a=b
 ·subst hab;simp only[sC,seval,t0,t1,t12,t13,hlt',i1,l1,i2,l2,wk];refine⟨x.length-(i+1),om,tt,i+1,rfl,om,tt,tt,tt,tt,?_⟩;rw[List.take_add_one,List.take_add_one,ha,hb,he]
 ·have hz:¬(a:Int)=(b:Int):=om;have h2:decide (x=y)=false:=decide_eq_false λe=>by
   rw[e]at ha;rw[ha]at hb;exact hab (Option.some.inj hb)
  simp only[sC,seval,t0,t1,t12,t13,hlt',i1,l1,i2,l2,hz,h2];exact⟨tt,tt⟩
def xx{α:Type}(g:α->ae):List (Bs×α)->Nat->List kX
 | [],_=>[]
 |p::l,i=>(.str p.1,g p.2,i)::xx g l (i+1)
def sE{α:Type}(g:α->ae)(s:Bs):∀(L:List (Bs×α)) (i j:Nat),(ew L s=none->jd .str (.str s) (xx g L i) j=some none)/\∀x,ew L s=some x->∃k b,jd .str (.str s) (xx g L i) j=some (some (k,(.str s,g x,b)))
 | [],i,j=>⟨λ_=>rfl,λx h=>by simp[ew]at h⟩
 |p::L,i,j=>by
  obtain⟨h1,h2⟩:=sE g s L (i+1) (j+1);by_cases hp:p.1=s
  ·have e:(s==p.1)=true:=by rw[hp];exact beq_self_eq_true _
   refine⟨λh=>by simp[ew,hp]at h,λx h=>⟨j,i,?_⟩⟩;simp only[ew,if_pos hp,sJ]at h;subst h;simp only[xx,jd,I6,e,hp,beq_self_eq_true]
  ·have e:(s==p.1)=false:=by rw[beq_eq_false_iff_ne];exact λq=>hp q.symm
   constructor
   ·intro h;simp only[ew,if_neg hp]at h;simp only[xx,jd,I6,e,h1 h]
   ·intro x h;simp only[ew,if_neg hp]at h;obtain⟨k,b,q⟩:=h2 x h;exact⟨k,b,by simp only[xx,jd,I6,e,q]⟩
def Ix{α:Type}(g:α->ae){H:aa}{mb c:Nat}{L:List (Bs×α)}(h:H.get mb=some (.map (xx g L 0) c))(s:Bs)(z:ae) :
  kj (.mLook .str true z) H [.map (some mb),.str s]=some (.tuple [match ew L s with|some x=>g x|none=>z,.bool (ew L s).isSome],H):=by
 obtain⟨h1,h2⟩:=sE g s L 0 0;cases ha:ew L s with
 |none=>simp only[kj,oB,h,qt,yI,cond_true,h1 ha,sU,Option.isSome]
 |some x=>obtain⟨k,b,q⟩:=h2 x ha;simp only[kj,oB,h,qt,yI,cond_true,q,sU,Option.isSome]
def bU{H:aa}{m:Nat}{es:List kX}{c:Nat}{k:List UInt8}{v:ae}(hg:H.get m=some (.map es c))(hf:jd .str (.str k) es 0=some none) :
  ∃H',kj (.mf (.upd .str)) H [.map (some m),.str k,v]=some (.tuple [],H')/\H'.next=H.next/\H'.get m=some (.map (es++[(.str k,v,c)]) (c+1))/\∀b,b≠m->H'.get b=H.get b:=
 ⟨H.set m (.map (es++[(.str k,v,c)]) (c+1)),by simp only[kj,Vw,hg,VQ,yI,cond_true,hf],rfl,by rw[aa.get_set,if_pos rfl],λb hb=>by rw[aa.get_set,if_neg hb]⟩
def gB(x:List Nat×Nat):ae:=.agg [.int .i64 (x.1.length:Int),co (x.1.getD 0 0),co (x.1.getD 1 0),co (x.1.getD 2 0),co x.2]
def RU(mb:Nat)(H:aa):Prop:=H.get mb=some (.map (xx gB iq 0) 15)
set_option maxRecDepth 100000 in
def Iw{H:aa}:aq Tryz.prog aF 188 [] H λu H'=>u=.map (some H.next)/\RU H.next H'/\H'.next=H.next+1/\∀c,c≠H.next->H'.get c=H.get c:=by
 refine ak rfl SH rfl ?_;have mm:kj .mkMap H []=some (.map (some H.next),H.push (.map [] 0)):=rfl;have q0:(H.push (.map [] 0)).get H.next=some (.map [] 0):=by rw[aa.get_push,if_pos rfl]
 have o0:∀b,b≠H.next->(H.push (.map [] 0)).get b=H.get b:=λb hb=>by rw[aa.get_push,if_neg hb]
 obtain⟨K1,m1,n1,q1,o1⟩:=bU (H:=H.push (.map [] 0)) (v:=.agg [.int .i64 3,.int .u8 1,.int .u8 1,.int .u8 1,.int .u8 2]) q0 (k:=[118,101,99]) rfl;obtain⟨K2,m2,n2,q2,o2⟩:=bU (H:=K1) (v:=.agg [.int .i64 1,.int .u8 2,.int .u8 0,.int .u8 0,.int .u8 1]) q1 (k:=[120]) rfl;obtain⟨K3,m3,n3,q3,o3⟩:=bU (H:=K2) (v:=.agg [.int .i64 1,.int .u8 2,.int .u8 0,.int .u8 0,.int .u8 1]) q2 (k:=[121]) rfl;obtain⟨K4,m4,n4,q4,o4⟩:=bU (H:=K3) (v:=.agg [.int .i64 1,.int .u8 2,.int .u8 0,.int .u8 0,.int .u8 1]) q3 (k:=[122]) rfl;obtain⟨K5,m5,n5,q5,o5⟩:=bU (H:=K4) (v:=.agg [.int .i64 2,.int .u8 2,.int .u8 2,.int .u8 0,.int .u8 1]) q4 (k:=[100,111,116]) rfl;obtain⟨K6,m6,n6,q6,o6⟩:=bU (H:=K5) (v:=.agg [.int .i64 2,.int .u8 2,.int .u8 2,.int .u8 0,.int .u8 2]) q5 (k:=[99,114,111,115,115]) rfl;obtain⟨K7,m7,n7,q7,o7⟩:=bU (H:=K6) (v:=.agg [.int .i64 1,.int .u8 2,.int .u8 0,.int .u8 0,.int .u8 2]) q6 (k:=[117,110,105,116]) rfl;obtain⟨K8,m8,n8,q8,o8⟩:=bU (H:=K7) (v:=.agg [.int .i64 1,.int .u8 1,.int .u8 0,.int .u8 0,.int .u8 1]) q7 (k:=[115,113,114,116]) rfl;obtain⟨K9,m9,n9,q9,o9⟩:=bU (H:=K8) (v:=.agg [.int .i64 1,.int .u8 1,.int .u8 0,.int .u8 0,.int .u8 1]) q8 (k:=[115,105,110]) rfl;obtain⟨K10,m10,n10,q10,o10⟩:=bU (H:=K9) (v:=.agg [.int .i64 1,.int .u8 1,.int .u8 0,.int .u8 0,.int .u8 1]) q9 (k:=[99,111,115]) rfl;obtain⟨K11,m11,n11,q11,o11⟩:=bU (H:=K10) (v:=.agg [.int .i64 1,.int .u8 1,.int .u8 0,.int .u8 0,.int .u8 1]) q10 (k:=[97,98,115]) rfl;obtain⟨K12,m12,n12,q12,o12⟩:=bU (H:=K11) (v:=.agg [.int .i64 1,.int .u8 1,.int .u8 0,.int .u8 0,.int .u8 1]) q11 (k:=[102,108,111,111,114]) rfl;obtain⟨K13,m13,n13,q13,o13⟩:=bU (H:=K12) (v:=.agg [.int .i64 2,.int .u8 1,.int .u8 1,.int .u8 0,.int .u8 1]) q12 (k:=[109,105,110]) rfl;obtain⟨K14,m14,n14,q14,o14⟩:=bU (H:=K13) (v:=.agg [.int .i64 2,.int .u8 1,.int .u8 1,.int .u8 0,.int .u8 1]) q13 (k:=[109,97,120]) rfl;obtain⟨K15,m15,n15,q15,o15⟩:=bU (H:=K14) (v:=.agg [.int .i64 2,.int .u8 1,.int .u8 1,.int .u8 0,.int .u8 2]) q14 (k:=[115,97,109,112,108,101]) rfl;have b0:aJ [.int .u8 0,.int .u8 0,.int .u8 0] [(0,1,.int .u8 1),(1,1,.int .u8 1),(2,1,.int .u8 1)]=some (.agg [.int .u8 1,.int .u8 1,.int .u8 1]):=rfl;have b1:aJ [.int .u8 0,.int .u8 0,.int .u8 0] [(0,1,.int .u8 2)]=some (.agg [.int .u8 2,.int .u8 0,.int .u8 0]):=rfl;have b2:aJ [.int .u8 0,.int .u8 0,.int .u8 0] [(0,1,.int .u8 2),(1,1,.int .u8 2)]=some (.agg [.int .u8 2,.int .u8 2,.int .u8 0]):=rfl;have b3:aJ [.int .u8 0,.int .u8 0,.int .u8 0] [(0,1,.int .u8 1)]=some (.agg [.int .u8 1,.int .u8 0,.int .u8 0]):=rfl;have b4:aJ [.int .u8 0,.int .u8 0,.int .u8 0] [(0,1,.int .u8 1),(1,1,.int .u8 1)]=some (.agg [.int .u8 1,.int .u8 1,.int .u8 0]):=rfl;have b5:aJ [.int .i64 0,.int .u8 0,.int .u8 0,.int .u8 0,.int .u8 0] [(0,1,.int .i64 3),(1,3,.agg [.int .u8 1,.int .u8 1,.int .u8 1]),(4,1,.int .u8 2)]=some (.agg [.int .i64 3,.int .u8 1,.int .u8 1,.int .u8 1,.int .u8 2]):=rfl;have b6:aJ [.int .i64 0,.int .u8 0,.int .u8 0,.int .u8 0,.int .u8 0] [(0,1,.int .i64 1),(1,3,.agg [.int .u8 2,.int .u8 0,.int .u8 0]),(4,1,.int .u8 1)]=some (.agg [.int .i64 1,.int .u8 2,.int .u8 0,.int .u8 0,.int .u8 1]):=rfl;have b7:aJ [.int .i64 0,.int .u8 0,.int .u8 0,.int .u8 0,.int .u8 0] [(0,1,.int .i64 2),(1,3,.agg [.int .u8 2,.int .u8 2,.int .u8 0]),(4,1,.int .u8 1)]=some (.agg [.int .i64 2,.int .u8 2,.int .u8 2,.int .u8 0,.int .u8 1]):=rfl;have b8:aJ [.int .i64 0,.int .u8 0,.int .u8 0,.int .u8 0,.int .u8 0] [(0,1,.int .i64 2),(1,3,.agg [.int .u8 2,.int .u8 2,.int .u8 0]),(4,1,.int .u8 2)]=some (.agg [.int .i64 2,.int .u8 2,.int .u8 2,.int .u8 0,.int .u8 2]):=rfl;have b9:aJ [.int .i64 0,.int .u8 0,.int .u8 0,.int .u8 0,.int .u8 0] [(0,1,.int .i64 1),(1,3,.agg [.int .u8 2,.int .u8 0,.int .u8 0]),(4,1,.int .u8 2)]=some (.agg [.int .i64 1,.int .u8 2,.int .u8 0,.int .u8 0,.int .u8 2]):=rfl;have b10:aJ [.int .i64 0,.int .u8 0,.int .u8 0,.int .u8 0,.int .u8 0] [(0,1,.int .i64 1),(1,3,.agg [.int .u8 1,.int .u8 0,.int .u8 0]),(4,1,.int .u8 1)]=some (.agg [.int .i64 1,.int .u8 1,.int .u8 0,.int .u8 0,.int .u8 1]):=rfl;have b11:aJ [.int .i64 0,.int .u8 0,.int .u8 0,.int .u8 0,.int .u8 0] [(0,1,.int .i64 2),(1,3,.agg [.int .u8 1,.int .u8 1,.int .u8 0]),(4,1,.int .u8 1)]=some (.agg [.int .i64 2,.int .u8 1,.int .u8 1,.int .u8 0,.int .u8 1]):=rfl;have b12:aJ [.int .i64 0,.int .u8 0,.int .u8 0,.int .u8 0,.int .u8 0] [(0,1,.int .i64 2),(1,3,.agg [.int .u8 1,.int .u8 1,.int .u8 0]),(4,1,.int .u8 2)]=some (.agg [.int .i64 2,.int .u8 1,.int .u8 1,.int .u8 0,.int .u8 2]):=rfl;simp only[Uw,sC,seval,mm,b0,b1,b2,b3,b4,b5,b6,b7,b8,b9,b10,b11,b12,m1,m2,m3,m4,m5,m6,m7,m8,m9,m10,m11,m12,m13,m14,m15];refine⟨tt,q15,?_,λb hb=>?_⟩
 ·rw[n15,n14,n13,n12,n11,n10,n9,n8,n7,n6,n5,n4,n3,n2,n1];rfl
 ·rw[o15 b hb,o14 b hb,o13 b hb,o12 b hb,o11 b hb,o10 b hb,o9 b hb,o8 b hb,o7 b hb,o6 b hb,o5 b hb,o4 b hb,o3 b hb,o2 b hb,o1 b hb,o0 b hb]
def wX:∀x∈iq,x.2.1.length<=3/\1<=x.2.1.length:=by decide
def aS3{b n:Nat}(h:n<=3):j9 3 1 (ah b 5 1) none (some (.int .i64 (n:Int))) none=some (.slice (some ⟨b,5,1⟩) n (.known 3)):=by
 match n,h with
 |0,_=>rfl
 |1,_=>rfl
 |2,_=>rfl
 |3,_=>rfl
def DY{s:Bs}{ts:List Nat}{v vn vk:ae}{n ab mb mt mk:Nat}{H:aa}(hA:Nf ab vn vk mb mt mk H)(hab:ab<H.next)(hB:RU mb H)(c:fo n H v (gW ts))(hn:n<=H.next)(hl:ts.length<=1000000) :
  aq Tryz.prog aF 192 [ah ab 5 0,.str s,v] H λu H'=>u=(match js s ts with | .ok t=>.tuple [co t,.int .i64 0] | .error f=>.tuple [co 0,.int .i64 (f:Int)])/\aS H.next H H':=by
 refine ak rfl SF rfl ?_;have lb:al false 1 H (ah ab 5 2)=some (.map (some mb)):=aj hA rfl rfl;have lk:=Ix gB hB s (.agg [.int .i64 0,.int .u8 0,.int .u8 0,.int .u8 0,.int .u8 0]);have ln:=c.len;rw[gY]at ln;unfold js;cases ha:ew iq s with
 |none=>rw[ha]at lk;simp only[Option.isSome]at lk;obtain⟨H1,m1,r1,n1,k1⟩:=aC H [.int .i64 0,.int .u8 0,.int .u8 0,.int .u8 0,.int .u8 0] (n:=5) rfl;obtain⟨H2,m2,r2,n2,k2⟩:=am r1 (n:=5) rfl (xs:=[.int .i64 0,.int .u8 0,.int .u8 0,.int .u8 0,.int .u8 0]) rfl rfl;simp only[Ru,sC,seval,aA,az,lb,lk,bv,bu,m1,m2];exact⟨tt,om,λc hc=>by rw[k2 c om,k1 c om]⟩
 |some x=>
  obtain⟨args,own⟩:=x;rw[ha]at lk;simp only[Option.isSome,gB]at lk;obtain⟨h3,h1⟩:=wX _ (iK ha);simp only at h3 h1;obtain⟨H1,m1,r1,n1,k1⟩:=aC H [.int .i64 0,.int .u8 0,.int .u8 0,.int .u8 0,.int .u8 0] (n:=5) rfl;obtain⟨H2,m2,r2,n2,k2⟩:=am r1 (n:=5) rfl (xs:=[.int .i64 (args.length:Int),co (args.getD 0 0),co (args.getD 1 0),co (args.getD 2 0),co own]) rfl rfl;have kk:∀c,c<H.next->H2.get c=H.get c:=λc hc=>by rw[k2 c om,k1 c om]
  have E2:aS H.next H H2:=⟨om,kk⟩;have l0:al false 1 H2 (ah H.next 5 0)=some (.int .i64 (args.length:Int)):=aj r2 rfl rfl;have l4:al false 1 H2 (ah H.next 5 4)=some (co own):=aj r2 rfl rfl;have c2:fo n H2 v (gW ts):=c.ext ⟨om,λb hb=>kk b om⟩;have s3:=aS3 (b:=H.next) h3;have d2:fo (H.next+1) H2 (.slice (some ⟨H.next,5,1⟩) args.length (.known 3)) (gW args):=by
   refine .inr ⟨⟨H.next,5,1⟩,.known 3,by rw[gY],by show H.next<H.next+1;omega,?_⟩;have:=iF r2 (n:=5) rfl (i:=1) (k:=args.length) om;rw[gY,this]
   match args,h3 with
   | [],_=>rfl
   | [_],_=>rfl
   | [_,_],_=>rfl
   | [_,_,_],_=>rfl
  simp only[Ru,sC,seval,aA,fld0,az,lb,lk,bv,bu,m1,m2,ln,l0];by_cases hne:ts.length=args.length
  case neg=>have hne':¬(ts.length:Int)=(args.length:Int):=om;simp only[sC,seval,hne,hne',ne_eq,not_false_eq_true,if_true];exact⟨tt,E2⟩
  have hne':(ts.length:Int)=(args.length:Int):=om;simp only[sC,seval,hne',s3,aA,fld0,l0];refine(BP c2 d2 hl).mono ?_;rintro u _ ⟨rfl,rfl⟩;by_cases he:ts=args
  ·subst he;simp only[sC,seval,aA,l4];simp;exact E2
  ·have hd:decide (ts=args)=false:=decide_eq_false he;simp only[sC,seval,hd];simp[hne,he];exact⟨rfl,E2⟩
open Go.Abs Go.Abs.S
def Jn{s:Bs}{ts:List Nat}{f:Nat}(h:js s ts=.error f):f≠0:=by
 unfold js at h
 repeat' split at h
 all_goals first|(simp at h;done)|(simp only[Except.error.injEq]at h;omega)
def I3{E:aO}{k:Nat}{s:Bs}{ts:List Nat}{f:Nat}(h:jT E k s ts=.error f):f≠0:=by
 unfold jT at h
 repeat' split at h
 all_goals first|(simp at h;done)|exact Jn h|(simp only[Except.error.injEq]at h;omega)
mutual
def oK{E:aO}:∀{e:Ex} {f:Nat},lB E e=.error f->f≠0
 | .mk k s n kids,f,h=>by
  simp only[lB]at h;cases hk:eA E kids with
  |error g=>rw[hk]at h;simp only[Except.error.injEq]at h;subst h;exact vj hk
  |ok ts=>rw[hk]at h;exact I3 h
def vj{E:aO}:∀{l:List Ex} {f:Nat},eA E l=.error f->f≠0
 | [],f,h=>by simp[eA]at h
 |e::l,f,h=>by
  simp only[eA]at h;cases he:lB E e with
  |error g=>rw[he]at h;simp only[Except.error.injEq]at h;subst h;exact oK he
  |ok t=>
   rw[he]at h;cases hl:eA E l with
   |error g=>rw[hl]at h;simp only[Except.error.injEq]at h;subst h;exact vj hl
   |ok ts=>rw[hl]at h;simp at h
end
def DI(E:aO)(Q:Nat->Prop)(H:aa)(kids:List Ex)(x:ae):Prop:=match eA E kids with
 | .ok ts=>∃v,x=.agg [v,.int .i64 0]/\aT 1 H v (gW ts) ts.length/\bx v Q
 | .error f=>x=.agg [aX,.int .i64 (f:Int)]
def DI.keep{E:aO}{Q Q':Nat->Prop}{H H':aa}{kids:List Ex}{x:ae}(h:DI E Q H kids x)(hn:H.next<=H'.next)(q:∀b,Q b->b<H.next->Q' b/\H'.get b=H.get b):DI E Q' H' kids x:=by
 unfold DI at h ⊢;split at h
 ·obtain⟨v,h1,h2,h3⟩:=h;have hb:=h2.blk;exact⟨v,h1,h2.same hn λa j r e=>(q _ (h3 a j r e) (hb a j r e)).2,λa j r e=>(q _ (h3 a j r e) (hb a j r e)).1⟩
 ·exact h
structure jx(E:aO)(n0 n1 ab:Nat)(vn vk:ae)(mb mt mk:Nat)(Q:Nat->Prop)(H:aa):Prop where
 ask:Nf ab vn vk mb mt mk H
 abl:ab<H.next/\ab≠mk
 n0l:n0<=mk/\n0<=H.next
 blt:RU mb H
 mbl:mb<H.next/\mb≠mk
 n1l:n1<=mk/\n1<=H.next
 nm:fo n1 H vn (gh E)
 kd:fo n1 H vk (iu E)
 kn:iB (·<n0) (DI E Q) mk H
 hQ:∀b,Q b->b<H.next/\b≠mk
def jx.step{E:aO}{n0 n1 ab mb mt mk:Nat}{vn vk:ae}{Q Q':Nat->Prop}{H H':aa}(A:jx E n0 n1 ab vn vk mb mt mk Q H)(hn:H.next<=H'.next)(hab:H'.get ab=H.get ab)(hmb:H'.get mb=H.get mb)(hold:∀c,c<n0∨c<n1->H'.get c=H.get c)
  (hk:iB (·<n0) (DI E Q') mk H') (hQ':∀b,Q' b->b<H'.next/\b≠mk):jx E n0 n1 ab vn vk mb mt mk Q' H':=by
 have h1:=A.abl;have h2:=A.n0l;have h3:=A.mbl;have h4:=A.n1l;have e1:aS n1 H H':=⟨hn,λc hc=>hold c (.inr hc)⟩;exact⟨A.ask.same hab,⟨om,h1.2⟩,⟨h2.1,om⟩,hmb.trans A.blt,⟨om,h3.2⟩,⟨h4.1,om⟩,A.nm.ext e1,A.kd.ext e1,hk,hQ'⟩
def jx.ext{E:aO}{n0 n1 ab mb mt mk:Nat}{vn vk:ae}{Q Q':Nat->Prop}{H H':aa}(A:jx E n0 n1 ab vn vk mb mt mk Q H)(hn:H.next<=H'.next)(hold:∀c,c<H.next->(Q c∨c=ab∨c=mb∨c=mk∨c<n0∨c<n1)->H'.get c=H.get c)(hQ:∀b,Q b->Q' b)(hQ':∀b,Q' b->b<H'.next/\b≠mk):jx E n0 n1 ab vn vk mb mt mk Q' H':=by
 have h1:=A.abl;have h2:=A.n0l;have h3:=A.mbl;have h4:=A.n1l;have h5:=A.kn.1;refine A.step hn (hold _ h1.1 (.inr (.inl rfl))) (hold _ h3.1 (.inr (.inr (.inl rfl)))) (λc hc=>?_) (A.kn.keep hn (hold _ h5 (.inr (.inr (.inr (.inl rfl))))) (λb hb=>⟨hb,hold b (by have:b<n0:=hb;omega) (.inr (.inr (.inr (.inr (.inl hb)))))⟩) λk y q=>q.keep hn λb hb hl=>⟨hQ b hb,hold b hl (.inl hb)⟩) hQ';rcases hc with hc|hc
 ·exact hold c om (.inr (.inr (.inr (.inr (.inl hc)))))
 ·exact hold c om (.inr (.inr (.inr (.inr (.inr hc)))))
def QX(Q:Nat->Prop)(n m:Nat)(b:Nat):Prop:=Q b∨n<=b/\b<m
def oJ(o:Except Nat Nat):ae:=match o with
 | .ok t=>.tuple [co t,.int .i64 0]
 | .error f=>.tuple [co 0,.int .i64 (f:Int)]
def VS(E:aO)(n0 n1 ab:Nat)(vn vk:ae)(mb mt mk:Nat)(N:Nat):Prop:=∀{e:Ex} {c:List ae} {p:ae} {H:aa} {Q:Nat->Prop},e.size<=N->jx E n0 n1 ab vn vk mb mt mk Q H->mS H p c->(∀a,p=.ptr (some a)->a.b<H.next/\a.b≠mk)->mL (·<n0) H e c->lD e=true ->
 aq Tryz.prog aF 169 [ah ab 5 0,p] H λu H'=>u=oJ (lB E e)/\Fp mk H H'/\jx E n0 n1 ab vn vk mb mt mk (QX Q H.next H'.next) H'
def Qn(E:aO)(n0 n1 ab:Nat)(vn vk:ae)(mb mt mk:Nat)(Q:Nat->Prop)(H:aa)(kids:List Ex)(u:ae)(H':aa):Prop:=(match eA E kids with
  | .ok ts=>∃w,u=.tuple [w,.int .i64 0]/\aT 1 H' w (gW ts) ts.length/\bx w (QX Q H.next H'.next)
  | .error f=>u=.tuple [aX,.int .i64 (f:Int)])/\Fp mk H H'/\jx E n0 n1 ab vn vk mb mt mk (QX Q H.next H'.next) H'
def M9(E:aO)(n0 n1 ab:Nat)(vn vk:ae)(mb mt mk:Nat)(N:Nat):Prop:=∀{kids:List Ex} {C:List ae} {v:ae} {H:aa} {Q:Nat->Prop},aU kids<=N->jx E n0 n1 ab vn vk mb mt mk Q H->rZ (·<n0) H 4 v kids.length C->ed (·<n0) H kids C->eY kids=true ->
 aq Tryz.prog aF 190 [ah ab 5 0,v] H (Qn E n0 n1 ab vn vk mb mt mk Q H kids)
def jx.qx{E:aO}{n0 n1 ab mb mt mk:Nat}{vn vk:ae}{Q:Nat->Prop}{H:aa}(A:jx E n0 n1 ab vn vk mb mt mk Q H){n m:Nat}(hn:H.next<=n)(hm:n<=m):∀b,QX Q n m b->b<m/\b≠mk:=by
 intro b hb;have:=A.kn.1;rcases hb with hb|hb
 ·have:=A.hQ b hb;omega
 ·omega
def QX.sub{Q:Nat->Prop}{a b c d:Nat}(hab:b<=a)(hbd:c<=d){x:Nat}(h:QX Q a c x):QX Q b d x:=by
 rcases h with h|⟨h1,h2⟩
 ·exact .inl h
 ·exact .inr ⟨om,om⟩
def qN{k:Nat}{s:Bs}{n:Int}{kids:List Ex}(h:lD (.mk k s n kids)=true):fB k s n kids.length=true/\eY kids=true:=by simpa[lD]using h
def Ac{k:Nat}{s:Bs}{n:Int}{m:Nat}(h:fB k s n m=true):(k=1∨k=2∨k=3∨k=4)/\(k=3->nC s m=true)/\((k=1∨k=2)->m=0):=by
 unfold fB at h;by_cases h1:k=1
 ·rw[if_pos h1]at h;simp at h;exact⟨.inl h1,λe=>om,λ_=>h.2.2⟩
 rw[if_neg h1]at h;by_cases h2:k=2
 ·rw[if_pos h2]at h;simp at h;exact⟨.inr (.inl h2),λe=>om,λ_=>h.2.2⟩
 rw[if_neg h2]at h;by_cases h3:k=3
 ·rw[if_pos h3]at h;simp at h;exact⟨.inr (.inr (.inl h3)),λ_=>h.2,λe=>om⟩
 rw[if_neg h3]at h;by_cases h4:k=4
 ·exact⟨.inr (.inr (.inr h4)),λe=>om,λe=>om⟩
 ·rw[if_neg h4]at h;simp at h
def ofP{E:aO}(hE:kW E){n0 n1 ab mb mt mk:Nat}{vn vk:ae}{N:Nat}(hEl:E.length<=1000000)(hN:N<=1000000)(ih:M9 E n0 n1 ab vn vk mb mt mk N):VS E n0 n1 ab vn vk mb mt mk (N+1):=by
 intro e c p H Q hsz A pt hp hx hok;obtain⟨k,s,n,kids⟩:=e;obtain⟨v,C,rfl,z1,z2⟩:=hx;obtain⟨hpf,hks⟩:=qN hok;obtain⟨hk4,hop,hk0⟩:=Ac hpf;have hs1:(Ex.mk k s n kids).size=aU kids+1:=rfl;have l3:al false 1 H (fp p 3)=some v:=pt.load (o:=3) rfl;have f3:=pt.fld 3;have nc:=pt.chk;refine ak rfl SY rfl ?_;simp only[UE,sC,seval,nc,f3,l3];refine(ih om A z1 z2 hks).mono ?_;rintro u H1 ⟨hu,F1,A1⟩;have e1:=F1.next;have pt1:mS H1 p [.int .u8 (k:Int),.str s,.int .i64 n,v]:=pt.fp F1 hp;have f0:=pt1.fld0;have f1:=pt1.fld 1;have l0:al false 1 H1 p=some (.int .u8 (k:Int)):=pt1.load0 rfl;have l1:al false 1 H1 (fp p 1)=some (.str s):=pt1.load (o:=1) rfl;simp only[lB];cases hty:eA E kids with
 |error f=>rw[hty]at hu;subst hu;have hf:=vj hty;have hf':¬(f:Int)=0:=om;simp only[sC,seval,bv,bu,hf'];exact⟨tt,F1,A1⟩
 |ok ts=>
  rw[hty]at hu;obtain⟨w,rfl,hw,hwb⟩:=hu;have htl:=lF hty;have ht2:=qz hE hty;simp only[sC,seval,bv,bu,nc,f0,l0];rcases hk4 with rfl|rfl|rfl|rfl
  ·have e1:jT E 1 s ts=.ok 1:=rfl;simp only[sC,seval,e1,Int.cast_ofNat_Int];exact⟨tt,F1,A1⟩
  ·-- a name
   have e2:jT E 2 s ts=match fk E s with|some t=>.ok t|none=>.error 110:=rfl
   have la0:al false 1 H1 (ah ab 5 0)=some vn:=aj A1.ask rfl rfl;have la1:al false 1 H1 (ah ab 5 1)=some vk:=aj A1.ask rfl rfl;have lnn:=A1.nm.len;rw[eR]at lnn;have w0:IntKind.i64.wrap ((E.length:Int)-1)=(E.length:Int)-1:=iP;simp only[sC,seval,Int.cast_ofNat_Int,az,fld0,la0,lnn,w0];refine aM (λm (T:bZ) K=>H1=K/\∃i:Nat,m=i/\i<=E.length/\T 0=ah ab 5 0/\T 1=p/\T 8=.int .i64 ((i:Int)-1)/\fk E s=fk (E.take i) s) E.length
    ⟨rfl,E.length,rfl,Nat.le_refl _,by simp only[sC,seval],by simp only[sC,seval];try rfl,by simp only[sC,seval],by rw[List.take_length]⟩ ?_
   rintro m T _ ⟨rfl,i,rfl,hi,t0,t1,t8,hl⟩;cases m with
   |zero=>
    have h0:¬(0:Int)<=((0:Nat):Int)-1:=om;have hn:fk E s=none:=by rw[hl];rfl
    simp only[sC,seval,t0,t1,t8,h0,e2,hn];exact⟨tt,F1,A1⟩
   |succ i=>
    have h0:(0:Int)<=((i+1:Nat):Int)-1:=om;obtain⟨y,hy⟩:∃y,E[i]?=some y:=⟨_,Xx om⟩;have hts:E.take (i+1)=E.take i++[y]:=by rw[List.take_add_one,hy];rfl
    rw[hts,pV]at hl;have ie:((i+1:Nat):Int)-1=(i:Int):=om;rw[ie]at h0 t8;have i1:=A1.nm.idx .i64 (i:=i) (by rw[eR];omega);have q1:=A1.nm.load (i:=i) (x:=.str y.1) (by simp[gh,hy]);have i2:=A1.kd.idx .i64 (i:=i) (by rw[kI];omega);have q2:=A1.kd.load (i:=i) (x:=co y.2) (by simp[iu,hy]);have wi:IntKind.i64.wrap ((i:Int)-1)=(i:Int)-1:=iP;by_cases hs:y.1=s
    ·rw[if_pos hs]at hl;simp only[sC,seval,t0,t1,t8,h0,az,fld0,aA,la0,la1,i1,q1,i2,q2,nc,f1,l1,hs,e2,hl];exact⟨tt,F1,A1⟩
    ·rw[if_neg hs]at hl;simp only[sC,seval,t0,t1,t8,h0,az,fld0,aA,la0,la1,i1,q1,i2,q2,nc,f1,l1,hs,wi];exact⟨i,om,tt,i,rfl,om,tt,tt,tt,hl⟩
  ·-- an operation
   have e3:jT E 3 s ts=if yw s ts=0 then .error 111 else .ok (yw s ts):=rfl;have hc:=(aT.cel1 hw hw.blk).1;simp only[sC,seval,Int.cast_ofNat_Int,nc,f1,l1];refine(DW hc (by rw[htl];exact hop rfl) ht2).mono ?_;rintro _ _ ⟨rfl,rfl⟩;by_cases h0:yw s ts=0
   ·rw[e3,if_pos h0];simp only[sC,seval,co,h0,Int.cast_ofNat_Int];exact⟨tt,F1,A1⟩
   ·have h0':¬(yw s ts:Int)=0:=om;rw[e3,if_neg h0];simp only[sC,seval,co,h0'];exact⟨tt,F1,A1⟩
  ·-- a call
   have e4:jT E 4 s ts=js s ts:=rfl;have hc:=(aT.cel1 hw hw.blk).1;simp only[sC,seval,Int.cast_ofNat_Int,nc,f1,l1];refine(DY (s:=s) A1.ask A1.abl.1 A1.blt hc rL (by have:=cO kids;omega)).mono ?_;rintro _ H2 ⟨rfl,E2⟩;have e2:=E2.next;have A2:jx E n0 n1 ab vn vk mb mt mk (QX Q H.next H2.next) H2:=A1.ext e2 (λc hc _=>E2.old c hc) (λb hb=>hb.sub rL e2) (A.qx rL om);rw[e4];cases hct:js s ts with
   |ok t=>simp only[sC,seval,bv,bu];exact⟨tt,F1.trans ⟨e2,λc hc _=>E2.old c hc⟩,A2⟩
   |error f=>simp only[sC,seval,bv,bu];exact⟨tt,F1.trans ⟨e2,λc hc _=>E2.old c hc⟩,A2⟩
end Go.Proofs.Wo
