/- Part of a proof (YX2 YX3 YX4 YX5 YX6 YX7 YX8 YPS YG1 YG2); no condition. -/
import Derived.Test.YtfleblkgifoeaaaGreatDoorP9
import Derived.Test.YtfleblkgifoeaaaGreatDoorP11
import Derived.Test.YtfleblkgifoeaaaGreatDoorP13
set_option linter.unusedSimpArgs false
set_option linter.unusedVariables false
set_option linter.unnecessarySimpa false
namespace Go.Proofs.Wo
open Go.Abs Go.Abs.S
theorem MM.more{b n sz lv dp n1 sz1 lv1 dp1:Nat}{sm sm1:Bool}{H H1 H2:aa}{u:ab}(f:Fp b H H1)(h:MM b n1 sz1 lv1 dp1 sm1 H1 u H2):u=.bool true->MM b n sz lv dp sm H u H2:=by
 rintro rfl
 obtain⟨F,r,n',hu,hr,_⟩:=h
 exact⟨f.trans F,true,n',rfl,hr,by simp⟩
theorem AV:∀(N:Nat) {l:List St} {C:List ab} {v:ab} {H:aa} {lv n b:Nat},az l<=N->eX (fun x=>x<H.next/\x≠b) H 9 v l.length C->gc (fun x=>x<H.next/\x≠b) H l C->aT H b [.int .i64 (n:Int)]->b<H.next->n<=2000->lv<=100 ->
  aq Tryz.prog aA 28 [v,.int .i64 (lv:Int),.int .i64 2000,ae b 1 0] H (MM b n (az l) lv (bp l) (iV l) H):=by
 intro N
 induction N with
 | zero=>
  intro l C v H lv n b h z1 z2 hr hb hn hl
  have hl0:l=[]:=by
   cases l with
   | nil=>rfl
   | cons x l=>have:=fV x; simp only[az]at h; omega
  subst hl0
  have ln:=z1.len
  have h0:¬(0:Int)<(([]:List St).length:Int):=by simp
  refine af rfl M3 rfl ?_
  simp only[QG,sA,sB,seval]
  refine aG (fun m (T:bG) K=>H=K/\T 0=v/\T 9=.int .i64 0) 0 ⟨rfl,by simp only[sA,sB,seval],by simp only[sA,sB,seval]⟩ ?_
  rintro m T K ⟨rfl,t0,t9⟩
  simp only[sA,sB,seval,t0,t9,ln,h0]
  exact⟨Fp.refl _ _,false,n,tt,hr,fun _=>⟨by simp[az],hn,by simp[bp],by simp[iV]⟩⟩
 | succ N ih=>
  intro l C v H lv n b h z1 z2 hr hb hn hl
  have ln:=z1.len
  obtain⟨Q,hQ⟩:∃Q,Q=MM b n (az l) lv (bp l) (iV l) H:=⟨_,rfl⟩
  rw[<- hQ]
  refine af rfl M3 rfl ?_
  simp only[QG,sA,sB,seval]
  refine aG (fun m (T:bG) K=>∃i n':Nat,m=l.length-i/\i<=l.length/\T 0=v/\T 1=.int .i64 (lv:Int)/\T 2=.int .i64 2000/\T 3=ae b 1 0/\T 9=.int .i64 (i:Int)/\Fp b H K/\aT K b [.int .i64 (n':Int)]/\n'=n+az (l.take i)/\n'<=2000/\bp (l.take i)<=lv/\iV (l.take i)=true) l.length
   ⟨0,n,rfl,Nat.zero_le _,by simp only[sA,sB,seval],by simp only[sA,sB,seval]; try rfl,by simp only[sA,sB,seval]; try rfl,by simp only[sA,sB,seval],by simp only[sA,sB,seval]; try rfl,Fp.refl _ _,hr,by simp[az],hn,by simp[bp],by simp[iV]⟩ ?_
  rintro m T K ⟨i,n',rfl,hi,t0,t1,t2,t3,t9,FK,rK,hn2,hn3,hdk,hsk⟩
  have eK:=FK.next
  by_cases hlt:i<l.length
  case neg=>
   obtain rfl:i=l.length:=om
   have hlt':¬(l.length:Int)<(l.length:Int):=om
   rw[List.take_length]at hn2 hdk hsk
   simp only[sA,sB,seval,t0,t1,t2,t3,t9,ln,hlt']
   rw[hQ]
   exact⟨FK,false,n',tt,rK,fun _=>⟨hn2,hn3,hdk,hsk⟩⟩
  have hlt':(i:Int)<(l.length:Int):=om
  obtain⟨x,he⟩:∃e,l[i]?=some e:=⟨_,QQ hlt⟩
  have hts:l.take (i+1)=l.take i++[x]:=by rw[List.take_add_one,he]; rfl
  have lbK:am false 1 K (ae b 1 0)=some (.int .i64 (n':Int)):=ah rK rfl rfl
  have wn:IntKind.i64.wrap ((n':Int)+1)=((n'+1:Nat):Int):=jT n' 1 om
  obtain⟨H2,m2,r2,n2,k2⟩:=cE rK (n:=1) rfl (i:=0) om (x:=.int .i64 ((n'+1:Nat):Int)) rfl (l':=[.int .i64 ((n'+1:Nat):Int)]) rfl
  have lb2:am false 1 H2 (ae b 1 0)=some (.int .i64 ((n'+1:Nat):Int)):=ah r2 rfl rfl
  have F2:Fp b H H2:=FK.trans ⟨om,fun c hc hne=>k2 c hne⟩
  have km:∀{K:aa},Fp b H K->∀c,(c<H.next/\c≠b)->(c<K.next/\c≠b)/\K.get c=H.get c:=fun q c hc=>⟨⟨by have:=q.next; omega,hc.2⟩,q.old c hc.1 hc.2⟩
  have z13:=z1.mono (km F2)
  have ix:=z13.idx hlt
  have pt:=z13.pt hlt
  have hsm:=eY (QY he)
  have hlen:=fN (l.take i)
  rw[Rd,Nat.min_eq_left hi]at hlen
  have wi:IntKind.i64.wrap ((i:Int)+1)=((i+1:Nat):Int):=jT i 1 om
  have hx3:=(z2.mono (km F2)).at he
  obtain⟨k,s,e,body,els,line⟩:=x
  obtain⟨ce,vb,Cb,ve,Ce,hcell,x1,y1,y2,y3,y4⟩:=hx3
  obtain⟨c0,c1,c2,c3,rfl⟩:∃a b c d,ce=[a,b,c,d]:=by
   have:=x1.len
   match ce,this with
   | [a,b,c,d],_=>exact⟨a,b,c,d,rfl⟩
  rw[hcell]at pt
  have hsz:(St.mk k s e body els line).size=e.size+az body+az els+1:=rfl
  have hdp:(St.mk k s e body els line).deep=max e.deep (max (bp body) (bp els))+1:=rfl
  have hss:MP (St.mk k s e body els line)=(decide (s.length<=1000)&&(DH e&&(iV body&&iV els))):=rfl
  have fl1:=pt.fld 1
  have ls:am false 1 H2 (fp (cF 9 v i) 1)=some (.str s):=pt.load (o:=1) rfl
  have fl2:=pt.fld 2
  have le:am true 4 H2 (fp (cF 9 v i) 2)=some (.agg [c0,c1,c2,c3]):=by
   have pe:=pt.part (o:=2) (k:=4) (by simp)
   obtain⟨a,ea,hrd⟩:=pe
   rw[ea]
   simp only[am]
   have hrd':bv H2 a 4=some [c0,c1,c2,c3]:=hrd
   rw[hrd']; rfl
  by_cases hn1:2000<n'+1
  ·have hn':(2000:Int)<((n'+1:Nat):Int):=om
   simp only[sA,sB,seval,t0,t1,t2,t3,t9,aw,ln,hlt',lbK,wn,m2,lb2,hn']
   rw[hQ]
   exact⟨F2,true,n'+1,tt,r2,by simp⟩
  have hn':¬(2000:Int)<((n'+1:Nat):Int):=om
  by_cases hl0:lv=0
  ·subst hl0
   have hl':((0:Nat):Int)<1:=om
   simp only[sA,sB,seval,t0,t1,t2,t3,t9,aw,ln,hlt',lbK,wn,m2,lb2,hn',hl']
   rw[hQ]
   exact⟨F2,true,n'+1,tt,r2,by simp⟩
  have hl':¬(lv:Int)<1:=om
  by_cases hs0:1000<s.length
  ·have hs':(1000:Int)<(s.length:Int):=om
   simp only[sA,sB,seval,t0,t1,t2,t3,t9,aw,ln,hlt',lbK,wn,m2,lb2,hn',hl',ix,fl1,ls,hs']
   rw[hQ]
   exact⟨F2,true,n'+1,tt,r2,by simp⟩
  have hs':¬(1000:Int)<(s.length:Int):=om
  have hlw:IntKind.i64.wrap ((lv:Int)-1)=((lv-1:Nat):Int):=xh
  simp only[sA,sB,seval,t0,t1,t2,t3,t9,aw,ln,hlt',lbK,wn,m2,lb2,hn',hl',ix,fl1,ls,hs',fl2,le,hlw]
  have bK:b<H2.next:=by have:=F2.next; omega
  refine (sO e.size rL x1 r2 bK om om).mono ?_
  rintro u K3 hO
  obtain⟨F3,r,n3,rfl,r3,hgo⟩:=id hO
  cases r with
  | true=>
   simp only[sA,sB,seval]
   rw[hQ]
   exact hO.more F2 rfl
  | false=>
  obtain⟨g1,g2,g3,g4⟩:=hgo rfl
  have e3:=F3.next
  have F03:=F2.trans F3
  have kk:∀{K:aa},Fp b H2 K->∀c,(c<H2.next/\c≠b)->(c<K.next/\c≠b)/\K.get c=H2.get c:=fun q c hc=>⟨⟨by have:=q.next; omega,hc.2⟩,q.old c hc.1 hc.2⟩
  have pk:∀{K':aa},Fp b H2 K'->nk K' (cF 9 v i) (.int .u8 (k:Int)::.str s::([c0,c1,c2,c3]++[vb,ve,.int .i64 line])):=by
   intro K' q
   exact pt.same fun a ea=>q.old _ (z13.blk hlt a ea).1 (z13.blk hlt a ea).2
  have p6:=(pk F3).load (o:=6) (x:=vb) rfl
  have fl6:=pt.fld 6
  simp only[sA,sB,seval,t0,t1,t2,t3,t9,ix,fl6,p6,hlw]
  refine (ih om (y1.mono (kk F3)) (y2.mono (kk F3)) r3 om g2 om).mono ?_
  rintro u K4 hO4
  obtain⟨F4,r,n4,rfl,r4,hgo4⟩:=id hO4
  cases r with
  | true=>
   simp only[sA,sB,seval]
   rw[hQ]
   exact hO4.more F03 rfl
  | false=>
  obtain⟨j1,j2,j3,j4⟩:=hgo4 rfl
  have e4:=F4.next
  have F24:=F3.trans F4
  have F04:=F03.trans F4
  have p7:=(pk F24).load (o:=7) (x:=ve) rfl
  have fl7:=pt.fld 7
  simp only[sA,sB,seval,t0,t1,t2,t3,t9,ix,fl7,p7,hlw]
  refine (ih om (y3.mono (kk F24)) (y4.mono (kk F24)) r4 om j2 om).mono ?_
  rintro u K5 hO5
  obtain⟨F5,r,n5,rfl,r5,hgo5⟩:=id hO5
  cases r with
  | true=>
   simp only[sA,sB,seval]
   rw[hQ]
   exact hO5.more F04 rfl
  | false=>
  obtain⟨q1,q2,q3,q4⟩:=hgo5 rfl
  simp only[sA,sB,seval,t0,t1,t2,t3,t9,wi]
  refine⟨l.length-(i+1),om,i+1,n5,rfl,om,tt,tt,tt,tt,tt,F04.trans F5,r5,?_,q2,?_,?_⟩
  ·rw[hts,eM]; simp only[az]; omega
  ·rw[hts,jk]; simp only[bp]; omega
  ·rw[hts,FP,hsk]
   simp only[iV,hss,g4,j4,q4,Bool.and_true,Bool.true_and,Q2]
   omega
theorem Em{l:List St}{C:List ab}{v:ab}{H:aa}(z1:eX (·<H.next) H 9 v l.length C)(z2:gc (·<H.next) H l C) :
  aq Tryz.prog aA 7 [v,.int .i64 100,.int .i64 2000] H fun u H'=>aS H.next H H'/\∃r:Bool,u=.bool r/\(r=false->az l<=2000/\bp l<=100/\iV l=true):=by
 refine af rfl za7 rfl ?_
 obtain⟨H1,m1,r1,n1,k1⟩:=au H [.int .i64 0] (n:=1) rfl
 obtain⟨H2,m2,r2,n2,k2⟩:=cE r1 (n:=1) rfl (i:=0) om (x:=.int .i64 0) rfl (l':=[.int .i64 ((0:Nat):Int)]) rfl
 have km:∀b,b<H.next->(b<H2.next/\b≠H.next)/\H2.get b=H.get b:=fun b hb=>⟨⟨om,om⟩,by rw[k2 b om,k1 b om]⟩
 simp only[c7,sA,sB,seval,m1,m2]
 refine (AV (az l) (lv:=100) rL (z1.mono km) (z2.mono km) r2 om om om).mono ?_
 rintro _ H3 ⟨F,r,n',rfl,_,hgo⟩
 simp only[sA,sB,seval]
 refine⟨⟨by have:=F.next; omega,fun c hc=>by rw[F.old c om om,k2 c om,k1 c om]⟩,r,tt,fun q=>?_⟩
 obtain⟨g1,g2,g3,g4⟩:=hgo q
 exact⟨om,g3,g4⟩
open Go.Abs Go.Abs.S
theorem ta:∀(N:Nat) {e:Ex} {c:List ab} {H:aa},e.size<=N->e.size<=1000000->XE (·<H.next) H e c ->
  aq Tryz.prog aA 36 [.agg c] H fun u H'=>(∃c',u=.agg c'/\XE (In H.next H'.next) H' e c')/\aS H.next H H'
 | 0,e,_,_,h,_,_=>absurd (iQ e) om
 | N+1,.mk k s z kids,c,H,h,hs,hx=>by
  obtain⟨v0,C,rfl,z1,z2⟩:=hx
  have hsz:(Ex.mk k s z kids).size=aQ kids+1:=rfl
  refine af rfl P8 rfl ?_
  obtain⟨H1,m1,r1,n1,k1⟩:=au H [.int .u8 (k:Int),.str s,.int .i64 z,v0] (n:=4) rfl
  obtain⟨H2,m2,r2,n2,k2⟩:=au H1 [.int .u8 0,.str [],.int .i64 0,.slice none 0 (.known 0)] (n:=4) rfl
  obtain⟨H3,m3,r3,n3,k3⟩:=au H2 [.int .u8 0,.str [],.int .i64 0,.slice none 0 (.known 0)] (n:=4) rfl
  obtain⟨H4,m4,r4,n4,k4⟩:=aj r3 (n:=4) rfl (xs:=[.int .u8 (k:Int),.str s,.int .i64 z,bP]) rfl rfl
  have r12:aT H2 H.next [.int .u8 (k:Int),.str s,.int .i64 z,v0]:=r1.same (k2 _ om)
  have q0:am false 1 H2 (ae H.next 4 0)=some (.int .u8 (k:Int)):=ah r12 rfl rfl
  have q1:am false 1 H2 (ae H.next 4 1)=some (.str s):=ah r12 rfl rfl
  have q2:am false 1 H2 (ae H.next 4 2)=some (.int .i64 z):=ah r12 rfl rfl
  have bo:bB [.int .u8 0,.str [],.int .i64 0,.slice none 0 (.known 0)] [(0,1,.int .u8 (k:Int)),(1,1,.str s),(2,1,.int .i64 z)]=some (.agg [.int .u8 (k:Int),.str s,.int .i64 z,bP]):=rfl
  have E4:aS H.next H H4:=⟨om,fun c hc=>by rw[k4 c om,k3 c om,k2 c om,k1 c om]⟩
  have r14:aT H4 H.next [.int .u8 (k:Int),.str s,.int .i64 z,v0]:=r12.same (by rw[k4 _ om,k3 _ om])
  have r24:aT H4 H1.next [.int .u8 0,.str [],.int .i64 0,.slice none 0 (.known 0)]:=r2.same (by rw[k4 _ om,k3 _ om])
  obtain⟨b3,hb3⟩:∃b,b=H2.next:=⟨_,rfl⟩
  rw[<- hb3]at m3 r4 m4 k4
  have ln:=z1.len
  have hlen:=eQ kids
  simp only[c36,sA,sB,seval,cq,m1,m2,m3,m4,fld0,aB,q0,q1,q2,bo]
  refine aG (fun m (T:bG) K=>∃(i:Nat) (v:ab),m=kids.length-i/\i<=kids.length/\T 1=ae H.next 4 0/\T 2=ae H1.next 4 0/\T 3=ae b3 4 0/\T 4=.int .i64 (i:Int)/\Fp b3 H4 K/\aT K b3 [.int .u8 (k:Int),.str s,.int .i64 z,v]/\GE (b3+1) K v (kids.take i)) kids.length
   ⟨0,bP,rfl,Nat.zero_le _,by simp only[sA,sB,seval],by simp only[sA,sB,seval],by simp only[sA,sB,seval],by simp only[sA,sB,seval]; try rfl,Fp.refl _ _,r4,GE.nil _ _⟩ ?_
  rintro m T K ⟨i,v,rfl,hi,t1,t2,t3,t4,FK,rK,gK⟩
  have eK:=FK.next
  have l3K:am false 1 K (ae H.next 4 3)=some v0:=ah (r14.same (FK.old _ om om)) rfl rfl
  have EK:aS H.next H K:=E4.trans ⟨om,fun c hc=>FK.old c om om⟩
  by_cases hlt:i<kids.length
  case neg=>
   obtain rfl:i=kids.length:=om
   have hlt':¬(kids.length:Int)<(kids.length:Int):=om
   rw[List.take_length]at gK
   obtain⟨Cv,g1,g2⟩:=gK.sl
   have lw:am true 4 K (ae b3 4 0)=some (.agg [.int .u8 (k:Int),.str s,.int .i64 z,v]):=al rK rfl
   obtain⟨H5,m5,r5,n5,k5⟩:=aj (H:=K) (r24.same (FK.old _ om om)) (n:=4) rfl (xs:=[.int .u8 (k:Int),.str s,.int .i64 z,v]) rfl (by simp only[List.all_cons,List.all_nil,g1.one]; rfl)
   have l5:am true 4 H5 (ae H1.next 4 0)=some (.agg [.int .u8 (k:Int),.str s,.int .i64 z,v]):=al r5 rfl
   simp only[sA,sB,seval,t1,t2,t3,t4,aB,l3K,ln,hlt',lw,m5]
   refine bL _ _ _ _ (by simp only[sA,sB,seval,t2]; exact l5) ?_
   have km:∀b,In (b3+1) K.next b->In H.next H5.next b/\H5.get b=K.get b:=fun b hb=>⟨⟨by have:=hb.1; omega,by have:=hb.2; omega⟩,k5 b (by have:=hb.1; omega)⟩
   exact⟨⟨_,rfl,v,Cv,rfl,g1.mono km,g2.mono km⟩,by have:=EK.next; omega,fun c hc=>by rw[k5 c om,EK.old c hc]⟩
  have hlt':(i:Int)<(kids.length:Int):=om
  obtain⟨e,he⟩:∃e,kids[i]?=some e:=⟨_,QQ hlt⟩
  have hts:kids.take (i+1)=kids.take i++[e]:=by rw[List.take_add_one,he]; rfl
  have km:∀b,b<H.next->b<K.next/\K.get b=H.get b:=fun b hb=>⟨by have:=EK.next; omega,EK.old b hb⟩
  have z13:=z1.mono km
  have z23:=z2.mono km
  have ix:=z13.idx hlt
  have ld:=z13.load hlt
  have he3:=z23.at he
  have hsm:=ep (QY he)
  have wi:IntKind.i64.wrap ((i:Int)+1)=((i+1:Nat):Int):=jT i 1 om
  have l3v:am false 1 K (ae b3 4 3)=some v:=ah rK rfl rfl
  simp only[sA,sB,seval,t1,t2,t3,t4,aB,l3K,ln,hlt']
  refine cr rfl ?_
  simp only[sR,sA,sB,seval,t1,t2,t3,t4,aB,l3K,l3v,ix,ld]
  refine (ta N om om he3).mono ?_
  rintro _ K2 ⟨⟨ys,rfl,xy⟩,E2⟩
  have e2:=E2.next
  have hbv:eJ v (In (b3+1) K.next):=by
   obtain⟨C,_,q,_⟩:=gK
   exact q
  have bb:eJ v (b3≠·):=hbv.mono fun c hc=>by have:=hc.1; omega
  have rK2:=rK.same (H':=K2) (E2.old b3 om)
  have rKP:=rK2.same (H':=K2.push (.cells ys 0 false)) (aE om)
  have gE2:=gK.keep E2.next fun c hc=>E2.old c hc.2
  have hv:=gK.ga.aeq
  obtain⟨v',K3,a3,G3,n3',k3'⟩:=gE2.push xy om om (hbv.mono fun c hc=>hc.2) (by rw[Rd]; omega) (bytes:=56) om om
  obtain⟨K4,m4',r4',n4',k4'⟩:=cE (H:=K3) (rK2.same (k3' b3 om bb)) (n:=4) rfl (i:=3) om (x:=v') G3.ga.one (l':=[.int .u8 (k:Int),.str s,.int .i64 z,v']) rfl
  have G4:=G3.keep (H':=K4) om fun c hc=>k4' c (by have:=hc.1; omega)
  have z2':am false 1 K2 (ae b3 4 3)=some v:=ah rK2 rfl rfl
  have z3':am false 1 (K2.push (.cells ys 0 false)) (ae b3 4 3)=some v:=ah rKP rfl rfl
  have bm:=jp (z:=[.int .u8 0,.str [],.int .i64 0,.slice none 0 (.known 0)]) (m:=4) K2 rfl xy.len
  simp only[sR,sA,sB,seval,t1,t2,t3,t4,aB,bm,a3,m4']
  simp only[cw,cx,bR,cy,db,and_true,true_and,List.map_cons,List.map_nil,sA,sB,seval,t1,t2,t3,t4,aB,wi]
  refine⟨⟨⟨_,rfl,fun _=>⟨_,z2',hv⟩⟩,⟨_,rfl,fun _=>⟨_,z3',hv⟩⟩⟩,kids.length-(i+1),om,i+1,v',rfl,om,tt,⟨om,fun c h1 h2=>?_⟩,r4',?_⟩
  ·rw[k4' c h2,k3' c om (hbv.mono fun x hx=>by have:=hx.1; omega),E2.old c om,FK.old c h1 h2]
  ·rw[hts]; exact G4
open Go.Abs Go.Abs.S
theorem Bm:∀(N:Nat) {l:List St} {C:List ab} {v:ab} {H:aa},az l<=N->az l<=1000000->eX (·<H.next) H 9 v l.length C->gc (·<H.next) H l C ->
  aq Tryz.prog aA 11 [v] H fun u H'=>(∃C',eX (In H.next H'.next) H' 9 u l.length C'/\gc (In H.next H'.next) H' l C')/\aS H.next H H':=by
 intro N
 induction N with
 | zero=>
  intro l C v H h hs z1 z2
  have hl0:l=[]:=by
   cases l with
   | nil=>rfl
   | cons x l=>have:=fV x; simp only[az]at h; omega
  subst hl0
  have ln:=z1.len
  have h0:¬(0:Int)<(([]:List St).length:Int):=by simp
  refine af rfl NQ rfl ?_
  simp only[QI,sA,sB,seval]
  refine aG (fun m (T:bG) K=>H=K/\T 0=v/\T 3=bP/\T 4=.int .i64 0) 0 ⟨rfl,by simp only[sA,sB,seval],by simp only[sA,sB,seval]; try rfl,by simp only[sA,sB,seval]⟩ ?_
  rintro m T K ⟨rfl,t0,t3,t4⟩
  simp only[sA,sB,seval,t0,t3,t4,ln,h0]
  exact⟨⟨[],eX.nil _ _ _,rfl⟩,aS.refl _ _⟩
 | succ N ih=>
  intro l C v H h hs z1 z2
  have ln:=z1.len
  refine af rfl NQ rfl ?_
  simp only[QI,sA,sB,seval]
  refine aG (fun m (T:bG) K=>∃(i:Nat) (w:ab),m=l.length-i/\i<=l.length/\T 0=v/\T 3=w/\T 4=.int .i64 (i:Int)/\aS H.next H K/\GS H.next K w (l.take i)) l.length
   ⟨0,bP,rfl,Nat.zero_le _,by simp only[sA,sB,seval],by simp only[sA,sB,seval]; try rfl,by simp only[sA,sB,seval]; try rfl,aS.refl _ _,GS.nil _ _⟩ ?_
  rintro m T K ⟨i,w,rfl,hi,t0,t3,t4,EK,gK⟩
  have eK:=EK.next
  by_cases hlt:i<l.length
  case neg=>
   obtain rfl:i=l.length:=om
   have hlt':¬(l.length:Int)<(l.length:Int):=om
   rw[List.take_length]at gK
   obtain⟨Cv,g1,g2⟩:=gK.sl
   simp only[sA,sB,seval,t0,t3,t4,ln,hlt']
   exact⟨⟨Cv,g1,g2⟩,EK⟩
  have hlt':(i:Int)<(l.length:Int):=om
  obtain⟨x,he⟩:∃e,l[i]?=some e:=⟨_,QQ hlt⟩
  have hts:l.take (i+1)=l.take i++[x]:=by rw[List.take_add_one,he]; rfl
  have km:∀b,b<H.next->b<K.next/\K.get b=H.get b:=fun b hb=>⟨om,EK.old b hb⟩
  have z13:=z1.mono km
  have ix:=z13.idx hlt
  have ld:=z13.load hlt
  have hsm:=eY (QY he)
  have hlen:=fN l
  have wi:IntKind.i64.wrap ((i:Int)+1)=((i+1:Nat):Int):=jT i 1 om
  have hx3:=(z2.mono km).at he
  have hone:=hx3.one
  obtain⟨k,s,e,body,els,line⟩:=x
  obtain⟨ce,vb,Cb,ve,Ce,hcell,x1,y1,y2,y3,y4⟩:=hx3
  obtain⟨c0,c1,c2,c3,rfl⟩:∃a b c d,ce=[a,b,c,d]:=by
   have:=x1.len
   match ce,this with
   | [a,b,c,d],_=>exact⟨a,b,c,d,rfl⟩
  rw[hcell]at ld hone
  have hsz:(St.mk k s e body els line).size=e.size+az body+az els+1:=rfl
  obtain⟨K1,m1,r1,n1,k1⟩:=au K [.int .u8 0,.str [],.int .u8 0,.str [],.int .i64 0,.slice none 0 (.known 0),.slice none 0 (.known 0),.slice none 0 (.known 0),.int .i64 0] (n:=9) rfl
  obtain⟨K2,m2,r2,n2,k2⟩:=aj r1 (n:=9) rfl (xs:=.int .u8 (k:Int)::.str s::([c0,c1,c2,c3]++[vb,ve,.int .i64 line])) rfl hone
  simp only[Q9,List.nil_append]at ld m2 r2 hone
  obtain⟨b5,hb5⟩:∃b,b=K.next:=⟨_,rfl⟩
  rw[<- hb5]at m1 m2 r2 k2 k1
  have E2:aS K.next K K2:=⟨om,fun c hc=>by rw[k2 c om,k1 c om]⟩
  have le:am true 4 K2 (ae b5 9 2)=some (.agg [c0,c1,c2,c3]):=eA r2 (n:=9) rfl (i:=2) (k:=4) om
  have kk:∀{K':aa},aS K.next K K'->∀b,b<K.next->b<K'.next/\K'.get b=K.get b:=fun q b hb=>⟨by have:=q.next; omega,q.old b hb⟩
  simp only[sA,sB,seval,t0,t3,t4,ln,hlt',ix,ld,m1,m2]
  refine cr rfl ?_
  simp only[sR,sA,sB,seval,aB,le]
  refine (ta e.size rL om (x1.mono (kk E2))).mono ?_
  rintro _ K3 ⟨⟨ce',rfl,xe⟩,E3⟩
  have e2:=E2.next
  have e3:=E3.next
  have r3:=r2.same (E3.old b5 om)
  have l6:∀{J:aa},aT J b5 [.int .u8 (k:Int),.str s,c0,c1,c2,c3,vb,ve,.int .i64 line]->am false 1 J (ae b5 9 6)=some vb:=fun q=>ah q rfl rfl
  have l7:∀{J:aa},aT J b5 [.int .u8 (k:Int),.str s,c0,c1,c2,c3,vb,ve,.int .i64 line]->am false 1 J (ae b5 9 7)=some ve:=fun q=>ah q rfl rfl
  have E03:=E2.trans (E3.less om)
  simp only[sR,sA,sB,seval,aB,l6 r3]
  refine (ih om om (y1.mono (kk E03)) (y2.mono (kk E03))).mono ?_
  rintro vb' K4 ⟨⟨Cb',xb1,xb2⟩,E4⟩
  have e4:=E4.next
  have r4:=r3.same (E4.old b5 om)
  have E04:=E03.trans (E4.less om)
  simp only[sR,sA,sB,seval,aB,l7 r4]
  refine (ih om om (y3.mono (kk E04)) (y4.mono (kk E04))).mono ?_
  rintro ve' K5 ⟨⟨Ce',xs1,xs2⟩,E5⟩
  have e5:=E5.next
  have r5:=r4.same (E5.old b5 om)
  have E05:=E04.trans (E5.less om)
  obtain⟨d0,d1,d2,d3,rfl⟩:∃a b c d,ce'=[a,b,c,d]:=by
   have:=xe.len
   match ce',this with
   | [a,b,c,d],_=>exact⟨a,b,c,d,rfl⟩
  obtain⟨K6,m6,r6,n6,k6⟩:=gn r5 (n:=9) rfl (i:=2) (k:=4) om (xs:=[d0,d1,d2,d3]) rfl xe.one (l':=[.int .u8 (k:Int),.str s,d0,d1,d2,d3,vb,ve,.int .i64 line]) rfl
  obtain⟨K7,m7,r7,n7,k7⟩:=cE r6 (n:=9) rfl (i:=6) om (x:=vb') xb1.one (l':=[.int .u8 (k:Int),.str s,d0,d1,d2,d3,vb',ve,.int .i64 line]) rfl
  obtain⟨K8,m8,r8,n8,k8⟩:=cE r7 (n:=9) rfl (i:=7) om (x:=ve') xs1.one (l':=[.int .u8 (k:Int),.str s,d0,d1,d2,d3,vb',ve',.int .i64 line]) rfl
  have k58:∀c,c≠b5->K8.get c=K5.get c:=fun c hc=>by rw[k8 c hc,k7 c hc,k6 c hc]
  have kx:∀{a:Nat} {J:aa},K2.next<=a->J.next<=K5.next->aS J.next J K5->∀b,In a J.next b->In K.next K8.next b/\K8.get b=J.get b:=fun h1 h2 q b hb=>⟨⟨by have:=hb.1; omega,by have:=hb.2; omega⟩,by rw[k58 b (by have:=hb.1; omega),q.old b hb.2]⟩
  have E35:aS K3.next K3 K5:=E4.trans (E5.less om)
  have xS:XS (In K.next K8.next) K8 (.mk k s e body els line) [.int .u8 (k:Int),.str s,d0,d1,d2,d3,vb',ve',.int .i64 line]:=
   ⟨[d0,d1,d2,d3],vb',Cb',ve',Ce',rfl,xe.mono (kx rL om E35),xb1.mono (kx e3 om E5),xb2.mono (kx e3 om E5),xs1.mono (kx om rL (aS.refl _ _)),xs2.mono (kx om rL (aS.refl _ _))⟩
  have E08:aS K.next K K8:=⟨om,fun c hc=>by rw[k58 c om,E05.old c hc]⟩
  have gK8:=gK.keep E08.next fun c hc=>E08.old c hc.2
  have hbw:eJ w (In H.next K.next):=by
   obtain⟨C,_,q,_⟩:=gK
   exact q
  obtain⟨w',K9,a9,G9,n9,k9⟩:=gK8.push xS om om (hbw.mono fun c hc=>hc.2) (by rw[Rd]; omega) (bytes:=136) om om
  have l9:am true 9 K8 (ae b5 9 0)=some (.agg [.int .u8 (k:Int),.str s,d0,d1,d2,d3,vb',ve',.int .i64 line]):=al r8 rfl
  have bm:=jp (z:=[.int .u8 0,.str [],.int .u8 0,.str [],.int .i64 0,.slice none 0 (.known 0),.slice none 0 (.known 0),.slice none 0 (.known 0),.int .i64 0]) (m:=9) K8 rfl xS.len
  simp only[sR,sA,sB,seval,aB,m6,m7,m8]
  simp only[cw,cx,bR,cy,db,and_true,true_and,List.map_cons,List.map_nil,sA,sB,seval,aB,l9,bm,a9,t0,t3,t4,wi]
  refine⟨⟨⟨_,rfl,fun _=>⟨vb,l6 r2,y1.aeq⟩⟩,⟨_,rfl,fun _=>⟨ve,l7 r2,y3.aeq⟩⟩,⟨_,rfl,fun _=>⟨ve,l7 r3,y3.aeq⟩⟩⟩,l.length-(i+1),om,i+1,w',rfl,om,tt,tt,⟨om,fun c hc=>by rw[k9 c om (hbw.mono fun x hx=>by have:=hx.1; omega),E08.old c om,EK.old c hc]⟩,?_⟩
  rw[hts]; exact G9
open Go.Abs Go.Abs.S
theorem rT:∀(N:Nat) {e:Ex} {c c':List ab} {H:aa},e.size<=N->e.size<=1000000->XE (·<H.next) H e c->XE (·<H.next) H e c' ->
  aq Tryz.prog aA 39 [.agg c,.agg c'] H fun u H'=>u=.bool true/\aS H.next H H'
 | 0,e,_,_,_,h,_,_,_=>absurd (iQ e) om
 | N+1,.mk k s z kids,c,c',H,h,hs,hx,hx'=>by
  obtain⟨v,C,rfl,z1,z2⟩:=hx
  obtain⟨v',C',rfl,y1,y2⟩:=hx'
  have hsz:(Ex.mk k s z kids).size=aQ kids+1:=rfl
  refine af rfl P6 rfl ?_
  obtain⟨H1,m1,r1,n1,k1⟩:=au H [.int .u8 (k:Int),.str s,.int .i64 z,v] (n:=4) rfl
  obtain⟨H2,m2,r2,n2,k2⟩:=au H1 [.int .u8 (k:Int),.str s,.int .i64 z,v'] (n:=4) rfl
  have E2:aS H.next H H2:=⟨om,fun c hc=>by rw[k2 c om,k1 c om]⟩
  have r12:aT H2 H.next [.int .u8 (k:Int),.str s,.int .i64 z,v]:=r1.same (k2 _ om)
  have p0:am false 1 H2 (ae H.next 4 0)=some (.int .u8 (k:Int)):=ah r12 rfl rfl
  have p1:am false 1 H2 (ae H.next 4 1)=some (.str s):=ah r12 rfl rfl
  have p2:am false 1 H2 (ae H.next 4 2)=some (.int .i64 z):=ah r12 rfl rfl
  have p3:am false 1 H2 (ae H.next 4 3)=some v:=ah r12 rfl rfl
  have q0:am false 1 H2 (ae H1.next 4 0)=some (.int .u8 (k:Int)):=ah r2 rfl rfl
  have q1:am false 1 H2 (ae H1.next 4 1)=some (.str s):=ah r2 rfl rfl
  have q2:am false 1 H2 (ae H1.next 4 2)=some (.int .i64 z):=ah r2 rfl rfl
  have q3:am false 1 H2 (ae H1.next 4 3)=some v':=ah r2 rfl rfl
  have ln:=z1.len
  have ln':=y1.len
  have hlen:=eQ kids
  simp only[c39,sA,sB,seval,cq,m1,m2,fld0,aB,p0,p1,p2,p3,q0,q1,q2,q3,ln,ln']
  refine aG (fun m (T:bG) K=>∃(i:Nat),m=kids.length-i/\i<=kids.length/\T 2=ae H.next 4 0/\T 3=ae H1.next 4 0/\T 5=.int .i64 (i:Int)/\aS H2.next H2 K) kids.length
   ⟨0,rfl,Nat.zero_le _,by simp only[sA,sB,seval],by simp only[sA,sB,seval],by simp only[sA,sB,seval]; try rfl,aS.refl _ _⟩ ?_
  rintro m T K ⟨i,rfl,hi,t2,t3,t5,FK⟩
  have eK:=FK.next
  have l1K:am false 1 K (ae H.next 4 3)=some v:=ah (r12.same (FK.old _ om)) rfl rfl
  have l2K:am false 1 K (ae H1.next 4 3)=some v':=ah (r2.same (FK.old _ om)) rfl rfl
  have EK:aS H.next H K:=E2.trans (FK.less om)
  by_cases hlt:i<kids.length
  case neg=>
   obtain rfl:i=kids.length:=om
   have hlt':¬(kids.length:Int)<(kids.length:Int):=om
   simp only[sA,sB,seval,t2,t3,t5,aB,l1K,ln,hlt']
   exact⟨tt,EK⟩
  have hlt':(i:Int)<(kids.length:Int):=om
  obtain⟨e,he⟩:∃e,kids[i]?=some e:=⟨_,QQ hlt⟩
  have km:∀b,b<H.next->b<K.next/\K.get b=H.get b:=fun b hb=>⟨by have:=EK.next; omega,EK.old b hb⟩
  have z13:=z1.mono km
  have y13:=y1.mono km
  have ix:=z13.idx hlt
  have iy:=y13.idx hlt
  have ld:=z13.load hlt
  have ly:=y13.load hlt
  have he3:=(z2.mono km).at he
  have hy3:=(y2.mono km).at he
  have hsm:=ep (QY he)
  have wi:IntKind.i64.wrap ((i:Int)+1)=((i+1:Nat):Int):=jT i 1 om
  simp only[sA,sB,seval,t2,t3,t5,aB,l1K,l2K,ln,hlt',ix,ld,iy,ly]
  refine (rT N om om he3 hy3).mono ?_
  rintro _ K2 ⟨rfl,E3⟩
  simp only[sA,sB,seval,t2,t3,t5,wi]
  exact⟨kids.length-(i+1),om,i+1,rfl,om,tt,tt,tt,FK.trans (E3.less om)⟩
theorem rS:∀(N:Nat) {l:List St} {C C':List ab} {v v':ab} {H:aa},az l<=N->az l<=1000000->eX (·<H.next) H 9 v l.length C->gc (·<H.next) H l C->eX (·<H.next) H 9 v' l.length C'->gc (·<H.next) H l C' ->
  aq Tryz.prog aA 14 [v,v',.bool true] H fun u H'=>u=.bool true/\aS H.next H H':=by
 intro N
 induction N with
 | zero=>
  intro l C C' v v' H h hs z1 z2 w1 w2
  have hl0:l=[]:=by
   cases l with
   | nil=>rfl
   | cons x l=>have:=fV x; simp only[az]at h; omega
  subst hl0
  have ln:=z1.len
  have ln':=w1.len
  have h0:¬(0:Int)<(([]:List St).length:Int):=by simp
  refine af rfl Ny rfl ?_
  simp only[QH,sA,sB,seval,ln,ln']
  refine aG (fun m (T:bG) K=>H=K/\T 0=v/\T 7=.int .i64 0) 0 ⟨rfl,by simp only[sA,sB,seval],by simp only[sA,sB,seval]⟩ ?_
  rintro m T K ⟨rfl,t0,t7⟩
  simp only[sA,sB,seval,t0,t7,ln,h0]
  exact⟨tt,aS.refl _ _⟩
 | succ N ih=>
  intro l C C' v v' H h hs z1 z2 w1 w2
  have ln:=z1.len
  have ln':=w1.len
  refine af rfl Ny rfl ?_
  simp only[QH,sA,sB,seval,ln,ln']
  refine aG (fun m (T:bG) K=>∃(i:Nat),m=l.length-i/\i<=l.length/\T 0=v/\T 1=v'/\T 2=.bool true/\T 7=.int .i64 (i:Int)/\aS H.next H K) l.length
   ⟨0,rfl,Nat.zero_le _,by simp only[sA,sB,seval],by simp only[sA,sB,seval],by simp only[sA,sB,seval]; try rfl,by simp only[sA,sB,seval]; try rfl,aS.refl _ _⟩ ?_
  rintro m T K ⟨i,rfl,hi,t0,t1,t2,t7,EK⟩
  have eK:=EK.next
  by_cases hlt:i<l.length
  case neg=>
   obtain rfl:i=l.length:=om
   have hlt':¬(l.length:Int)<(l.length:Int):=om
   simp only[sA,sB,seval,t0,t1,t2,t7,ln,hlt']
   exact⟨tt,EK⟩
  have hlt':(i:Int)<(l.length:Int):=om
  obtain⟨x,he⟩:∃e,l[i]?=some e:=⟨_,QQ hlt⟩
  have km:∀b,b<H.next->b<K.next/\K.get b=H.get b:=fun b hb=>⟨om,EK.old b hb⟩
  have z13:=z1.mono km
  have ix:=z13.idx hlt
  have ld:∀{J:aa},aS K.next K J->am true 9 J (cF 9 v i)=some (.agg ((C.drop (i*9)).take 9)):=fun {J} q=>(z13.mono (Q:=(·<J.next)) fun b hb=>⟨by have:=q.next; omega,q.old b hb⟩).load hlt
  have w13:=w1.mono km
  have iw:=w13.idx hlt
  have lw:∀{J:aa},aS K.next K J->am true 9 J (cF 9 v' i)=some (.agg ((C'.drop (i*9)).take 9)):=fun {J} q=>(w13.mono (Q:=(·<J.next)) fun b hb=>⟨by have:=q.next; omega,q.old b hb⟩).load hlt
  have hsm:=eY (QY he)
  have hlen:=fN l
  have wi:IntKind.i64.wrap ((i:Int)+1)=((i+1:Nat):Int):=jT i 1 om
  have hx3:=(z2.mono km).at he
  have hy3:=(w2.mono km).at he
  have hone:=hx3.one
  have hone':=hy3.one
  have hae:=hy3.aeqs
  obtain⟨k,s,e,body,els,line⟩:=x
  obtain⟨ce,vb,Cb,ve,Ce,hcell,x1,y1,y2,y3,y4⟩:=hx3
  obtain⟨c0,c1,c2,c3,rfl⟩:∃a b c d,ce=[a,b,c,d]:=by
   have:=x1.len
   match ce,this with
   | [a,b,c,d],_=>exact⟨a,b,c,d,rfl⟩
  obtain⟨ce',vb',Cb',ve',Ce',hcell',e1,y1',y2',y3',y4'⟩:=hy3
  obtain⟨d0,d1,d2,d3,rfl⟩:∃a b c d,ce'=[a,b,c,d]:=by
   have:=e1.len
   match ce',this with
   | [a,b,c,d],_=>exact⟨a,b,c,d,rfl⟩
  rw[hcell]at hone
  simp only[hcell]at ld
  rw[hcell']at hone' hae
  simp only[hcell']at lw
  have hsz:(St.mk k s e body els line).size=e.size+az body+az els+1:=rfl
  obtain⟨K2,hK2⟩:∃K2,K2=(K.push (.cells [.int .u8 0,.str [],.int .u8 0,.str [],.int .i64 0,.slice none 0 (.known 0),.slice none 0 (.known 0),.slice none 0 (.known 0),.int .i64 0] 0 false)).push (.cells [.int .u8 0,.str [],.int .u8 0,.str [],.int .i64 0,.slice none 0 (.known 0),.slice none 0 (.known 0),.slice none 0 (.known 0),.int .i64 0] 0 false):=⟨_,rfl⟩
  have n2:K2.next=K.next+2:=by rw[hK2]; rfl
  have k2:∀c,c<K.next->K2.get c=K.get c:=fun c hc=>by rw[hK2,aa.get_push,if_neg (by rw[aZ]; omega),aE hc]
  have g8:K2.get K.next=some (.cells [.int .u8 0,.str [],.int .u8 0,.str [],.int .i64 0,.slice none 0 (.known 0),.slice none 0 (.known 0),.slice none 0 (.known 0),.int .i64 0] 0 false):=by rw[hK2,aa.get_push,if_neg (by rw[aZ]; omega),aa.get_push,if_pos rfl]
  have g9:K2.get (K.next+1)=some (.cells [.int .u8 0,.str [],.int .u8 0,.str [],.int .i64 0,.slice none 0 (.known 0),.slice none 0 (.known 0),.slice none 0 (.known 0),.int .i64 0] 0 false):=by rw[hK2,aa.get_push,if_pos (by rw[aZ])]
  have cl8:fT K2 K.next _ none=some (ae K.next 9 0):=j9 g8 rfl
  have cl9:fT K2 (K.next+1) _ none=some (ae (K.next+1) 9 0):=j9 g9 rfl
  obtain⟨K3,m3,r3,n3,k3⟩:=aj (H:=K2) (b:=K.next) ⟨0,g8,Nat.zero_le _⟩ (n:=9) rfl (xs:=.int .u8 (k:Int)::.str s::([c0,c1,c2,c3]++[vb,ve,.int .i64 line])) rfl hone
  obtain⟨K4,m4,r4,n4,k4⟩:=aj (H:=K3) (b:=K.next+1) ⟨0,(k3 _ om).trans g9,Nat.zero_le _⟩ (n:=9) rfl (xs:=.int .u8 (k:Int)::.str s::([d0,d1,d2,d3]++[vb',ve',.int .i64 line])) rfl hone'
  simp only[Q9,List.nil_append]at ld lw m3 m4 r3 r4 hae
  have E2:aS K.next K K2:=⟨om,k2⟩
  have E3:aS K.next K K3:=⟨om,fun c hc=>by rw[k3 c om,k2 c hc]⟩
  have E4:aS K.next K K4:=⟨om,fun c hc=>by rw[k4 c om,E3.old c hc]⟩
  have ld2:=ld E2
  have lw2:=lw E2
  have lw3:=lw E3
  have q3:aT K4 K.next _:=r3.same (k4 _ om)
  have hba:aeq (.agg [.int .u8 (k:Int),.str s,d0,d1,d2,d3,vb',ve',.int .i64 line]) (.agg [.int .u8 (k:Int),.str s,d0,d1,d2,d3,vb',ve',.int .i64 line])=true:=by
   rw[aeq]; exact hae
  simp only[sA,sB,seval,t0,t1,t2,t7,ln,hlt']
  refine zE ?_
  simp only[aF,et,bY,<- hK2]
  simp only[sR,sA,sB,seval,ol,t0,t1,t2,t7,ix,ld2,iw,lw2,cl8,cl9,m3,m4]
  simp only[cw,cx,bR,pV,cy,db,and_true,true_and,List.map_cons,List.map_nil,sA,sB,seval,aB,t0,t1,t2,t7]
  refine⟨⟨_,rfl,fun _=>⟨_,lw3,hba⟩⟩,?_⟩
  have a0:∀{J:aa},aS K4.next K4 J->aT J K.next [.int .u8 (k:Int),.str s,c0,c1,c2,c3,vb,ve,.int .i64 line]:=fun q=>q3.same (q.old _ om)
  have b0:∀{J:aa},aS K4.next K4 J->aT J (K.next+1) [.int .u8 (k:Int),.str s,d0,d1,d2,d3,vb',ve',.int .i64 line]:=fun q=>r4.same (q.old _ om)
  have R0:=aS.refl K4.next K4
  have u0:am false 1 K4 (ae K.next 9 0)=some (.int .u8 (k:Int)):=ah (a0 R0) rfl rfl
  have u1:am false 1 K4 (ae K.next 9 1)=some (.str s):=ah (a0 R0) rfl rfl
  have u8:am false 1 K4 (ae K.next 9 8)=some (.int .i64 line):=ah (a0 R0) rfl rfl
  have u2:am true 4 K4 (ae K.next 9 2)=some (.agg [c0,c1,c2,c3]):=eA (a0 R0) (n:=9) rfl (i:=2) (k:=4) om
  have x0:am false 1 K4 (ae (K.next+1) 9 0)=some (.int .u8 (k:Int)):=ah (b0 R0) rfl rfl
  have x1':am false 1 K4 (ae (K.next+1) 9 1)=some (.str s):=ah (b0 R0) rfl rfl
  have x8:am false 1 K4 (ae (K.next+1) 9 8)=some (.int .i64 line):=ah (b0 R0) rfl rfl
  have x2:am true 4 K4 (ae (K.next+1) 9 2)=some (.agg [d0,d1,d2,d3]):=eA (b0 R0) (n:=9) rfl (i:=2) (k:=4) om
  have kk:∀{K':aa},aS K.next K K'->∀b,b<K.next->b<K'.next/\K'.get b=K.get b:=fun q b hb=>⟨by have:=q.next; omega,q.old b hb⟩
  simp only[sA,sB,seval,aB,fld0,u0,u1,u8,u2,x0,x1',x8,x2,t0,t1,t2,t7]
  refine (rT e.size rL om (x1.mono (kk E4)) (e1.mono (kk E4))).mono ?_
  rintro _ K5 ⟨rfl,E5⟩
  have e4:=E4.next
  have e5:=E5.next
  have E05:=E4.trans (E5.less om)
  have u6:am false 1 K5 (ae K.next 9 6)=some vb:=ah (a0 E5) rfl rfl
  have x6:am false 1 K5 (ae (K.next+1) 9 6)=some vb':=ah (b0 E5) rfl rfl
  simp only[sA,sB,seval,aB,fld0,u6,x6,t0,t1,t2,t7]
  refine (ih om om (y1.mono (kk E05)) (y2.mono (kk E05)) (y1'.mono (kk E05)) (y2'.mono (kk E05))).mono ?_
  rintro _ K6 ⟨rfl,E6⟩
  have e6:=E6.next
  have E46:=E5.trans (E6.less om)
  have E06:=E05.trans (E6.less om)
  have u7:am false 1 K6 (ae K.next 9 7)=some ve:=ah (a0 E46) rfl rfl
  have x7:am false 1 K6 (ae (K.next+1) 9 7)=some ve':=ah (b0 E46) rfl rfl
  simp only[sA,sB,seval,aB,fld0,u7,x7,t0,t1,t2,t7]
  refine (ih om om (y3.mono (kk E06)) (y4.mono (kk E06)) (y3'.mono (kk E06)) (y4'.mono (kk E06))).mono ?_
  rintro _ K7 ⟨rfl,E7⟩
  have e7:=E7.next
  have E07:=E06.trans (E7.less om)
  simp only[sA,sB,seval,t0,t1,t2,t7,wi]
  exact⟨l.length-(i+1),om,i+1,rfl,om,tt,tt,tt,tt,EK.trans (E07.less om)⟩
open Go.Abs Go.Abs.S
theorem vm{H:aa}{v:ab}{l:List Bs}{n:Nat}(c:xj n H v (l.map ab.str))(x:Bs)(hl:l.length<=1000):aq Tryz.prog aA 126 [.str x,v] H fun u H'=>H=H'/\u=.bool (l.contains x):=by
 refine af rfl NA rfl ?_
 have ln:gv false v=some (.int .i64 (l.length:Int)):=by have:=c.len; rwa [Q5]at this
 simp only[OV,sA,sB,seval]
 refine aG (fun m (T:bG) H'=>H=H'/\∃i:Nat,m=l.length-i/\i<=l.length/\T 0=.str x/\T 1=v/\T 5=.int .i64 (i:Int)/\(l.take i).contains x=false) l.length
  ⟨rfl,0,rfl,om,by simp only[sA,sB,seval],by simp only[sA,sB,seval],by simp only[sA,sB,seval]; try rfl,by simp⟩ ?_
 rintro m T _ ⟨rfl,i,rfl,hi,t0,t1,t5,hx⟩
 by_cases hlt:i<l.length
 case neg=>
  obtain rfl:i=l.length:=om
  have hlt':¬(l.length:Int)<(l.length:Int):=om
  rw[List.take_length]at hx
  simp only[sA,sB,seval,t0,t1,t5,ln,hlt']
  exact⟨tt,by rw[hx]⟩
 have hlt':(i:Int)<(l.length:Int):=om
 obtain⟨y,hy⟩:∃y,l[i]?=some y:=⟨_,QQ hlt⟩
 have io:=c.idx .i64 (i:=i) (by rw[Q5]; exact hlt)
 have lo:=c.load (i:=i) (x:=.str y) (by rw[List.getElem?_map,hy]; rfl)
 have wk:IntKind.i64.wrap ((i:Int)+1)=((i+1:Nat):Int):=jT i 1 om
 by_cases he:y=x
 ·subst he
  simp only[sA,sB,seval,t0,t1,t5,ln,hlt',io,lo]
  refine⟨tt,?_⟩
  have:l.contains y=true:=by simpa using QY hy
  rw[this]
 ·simp only[sA,sB,seval,t0,t1,t5,ln,hlt',io,lo,he,wk]
  refine⟨l.length-(i+1),om,tt,i+1,rfl,om,tt,tt,tt,?_⟩
  rw[List.take_add_one,hy]
  simp only[Option.toList_some,List.contains_eq_mem,List.mem_append,List.mem_singleton,decide_eq_false_iff_not]at hx ⊢
  rintro (h | h)
  ·exact hx h
  ·exact he h.symm
theorem AH{s:Bs}{w:Wd}(hn:cW s 0=.ok w)(hk:w.k=2):(w.at_=0/\w.en=s.length)↔w.S=s:=by
 unfold cW at hn
 split at hn
 ·simp at hn
 split at hn
 ·simp at hn
 split at hn
 ·simp only[Except.ok.injEq]at hn; subst hn; simp at hk
 rename_i h3
 have hle:=lr s 0
 generalize ba s 0=j at *
 split at hn
 ·rename_i t ht
  simp only[Except.ok.injEq]at hn
  subst hn
  simp only at hk ⊢
  unfold je at ht
  split at ht
  ·simp at ht
  rename_i c hc
  split at ht
  ·split at ht
   ·simp only[sJ]at ht; subst ht; simp at hk
   ·simp at ht
  split at ht
  ·simp only[sJ]at ht
   subst ht
   have h1:=fd iE s j
   have h2:=eZ (p:=iE) hle
   simp only at hk ⊢
   generalize bk iE s j=e at *
   constructor
   ·rintro ⟨rfl,rfl⟩
    simp[sub]
   ·intro h
    have hl:=congrArg List.length h
    simp only[sub,Rd,Ra]at hl
    omega
  ·split at ht
   ·simp at ht
   ·simp only[sJ]at ht; subst ht; simp at hk
 ·simp at hn
theorem eR(s:Bs){H:aa}:aq Tryz.prog aA 85 [.str s] H fun u H'=>u=.bool (bW s)/\aS H.next H H':=by
 refine af rfl PG rfl ?_
 simp only[c85,sA,sB,seval]
 refine (rX Gu (s:=s) (p:=((0:Nat):Int)) om om).mono ?_
 rintro v H1 ⟨rfl,E1⟩
 have e1:=E1.next
 obtain⟨H2,m2,r2,n2,k2⟩:=au H1 [.int .u8 0,.str [],.int .i64 0,.int .i64 0,.int .i64 0,.int .i64 0] (n:=6) rfl
 obtain⟨H3,m3,r3,n3,k3⟩:=au H2 [.int .i64 0,.int .i64 0] (n:=2) rfl
 cases hn:cW s 0 with
 | error e=>
  rw[mQ hn]
  have he:=mP hn
  have he':¬(e.1:Int)=0:=om
  obtain⟨H4,m4,r4,n4,k4⟩:=aj (H:=H3) (r2.same (k3 _ om)) (n:=6) rfl (xs:=fx 0 [] 0 0 0 0) rfl rfl
  obtain⟨H5,m5,r5,n5,k5⟩:=aj (H:=H4) (r3.same (k4 _ om)) (n:=2) rfl (xs:=dQ e.1 e.2) rfl rfl
  have l5:am false 1 H5 (ae H2.next 2 0)=some (.int .i64 (e.1:Int)):=ah r5 rfl rfl
  have hf:bW s=false:=by unfold bW; rw[hn]
  simp only[sA,sB,seval,dg,b9,b7,m2,m3,m4,m5,fld0,l5,he',hf]
  exact⟨tt,om,fun c hc=>by rw[k5 c om,k4 c om,k3 c om,k2 c om,E1.old c hc]⟩
 | ok w=>
  rw[lM hn]
  obtain⟨H4,m4,r4,n4,k4⟩:=aj (H:=H3) (r2.same (k3 _ om)) (n:=6) rfl (xs:=fx w.k w.S w.n w.line w.at_ w.en) rfl rfl
  obtain⟨H5,m5,r5,n5,k5⟩:=aj (H:=H4) (r3.same (k4 _ om)) (n:=2) rfl (xs:=dQ 0 0) rfl rfl
  have r45:=r4.same (k5 _ om)
  have l5:am false 1 H5 (ae H2.next 2 0)=some (.int .i64 0):=ah r5 rfl rfl
  have q0:am false 1 H5 (ae H1.next 6 0)=some (.int .u8 (w.k:Int)):=ah r45 rfl rfl
  have q4:am false 1 H5 (ae H1.next 6 4)=some (.int .i64 (w.at_:Int)):=ah r45 rfl rfl
  have q5:am false 1 H5 (ae H1.next 6 5)=some (.int .i64 (w.en:Int)):=ah r45 rfl rfl
  have E5:aS H.next H H5:=⟨om,fun c hc=>by rw[k5 c om,k4 c om,k3 c om,k2 c om,E1.old c hc]⟩
  by_cases hk:w.k=2
  ·have hk':(w.k:Int)=2:=om
   have hf:bW s=decide (w.S=s):=by unfold bW; rw[hn]; simp only[hk]; rfl
   have hw:=AH hn hk
   by_cases ha:w.at_=0
   ·have ha':(w.at_:Int)=0:=om
    by_cases hb:w.en=s.length
    ·have hb':(w.en:Int)=(s.length:Int):=om
     have hf':bW s=true:=by rw[hf,decide_eq_true (hw.1 ⟨ha,hb⟩)]
     simp only[sA,sB,seval,dg,b9,b7,m2,m3,m4,m5,fld0,aB,l5,q0,q4,q5,hk',ha',hb',hf']
     exact⟨tt,E5⟩
    ·have hb':¬(w.en:Int)=(s.length:Int):=om
     have hf':bW s=false:=by rw[hf,decide_eq_false fun h=>hb (hw.2 h).2]
     simp only[sA,sB,seval,dg,b9,b7,m2,m3,m4,m5,fld0,aB,l5,q0,q4,q5,hk',ha',hb',hf']
     exact⟨tt,E5⟩
   ·have ha':¬(w.at_:Int)=0:=om
    have hf':bW s=false:=by rw[hf,decide_eq_false fun h=>ha (hw.2 h).1]
    simp only[sA,sB,seval,dg,b9,b7,m2,m3,m4,m5,fld0,aB,l5,q0,q4,hk',ha',hf']
    exact⟨tt,E5⟩
  ·have hk':¬(w.k:Int)=2:=om
   have hf:bW s=false:=by
    unfold bW; rw[hn]
    have:Nat.beq w.k 2=false:=by rw[bD]; exact decide_eq_false hk
    simp only[this]; rfl
   simp only[sA,sB,seval,dg,b9,b7,m2,m3,m4,m5,fld0,aB,l5,q0,hk',hf]
   exact⟨tt,E5⟩
open Go.Abs Go.Abs.S
theorem DW{l:List Ex}{i:Nat}{e:Ex}(h:l[i]?=some e):ff (l.take (i+1))=(ff (l.take i)&&kH e):=by
 have hts:l.take (i+1)=l.take i++[e]:=by rw[List.take_add_one,h]; rfl
 rw[hts,sn]; simp[ff]
theorem yh:∀{l:List Ex} {i:Nat} {e:Ex},l[i]?=some e->kH e=false->ff l=false
 | [],_,_,h,_=>by simp at h
 | x::l,0,e,h,h2=>by simp only[QZ,sJ]at h; subst h; simp[ff,h2]
 | x::l,i+1,e,h,h2=>by rw[Q0]at h; simp[ff,yh h h2]
theorem Qn(H:aa):cD 12 [.str []] H [(0,1,.str [124,124]),(1,1,.str [38,38]),(2,1,.str [61,61]),(3,1,.str [33,61]),(4,1,.str [60,61]),(5,1,.str [62,61]),(6,1,.str [60]),(7,1,.str [62]),(8,1,.str [43]),(9,1,.str [45]),(10,1,.str [42]),(11,1,.str [47])] =
  some (qL H.next 12 (.known 12),H.push (.cells (([[124,124],[38,38],[61,61],[33,61],[60,61],[62,61],[60],[62],[43],[45],[42],[47]]:List Bs).map ab.str) 0 false)):=rfl
theorem gQ:∀(N:Nat) {e:Ex} {c:List ab} {H:aa},e.size<=N->e.size<=1000000->XE (·<H.next) H e c ->
  aq Tryz.prog aA 86 [.agg c] H fun u H'=>u=.bool (kH e)/\aS H.next H H'
 | 0,e,_,_,h,_,_=>absurd (iQ e) om
 | N+1,.mk k s z kids,c,H,h,hs,hx=>by
  obtain⟨v,C,rfl,z1,z2⟩:=hx
  have hsz:(Ex.mk k s z kids).size=aQ kids+1:=rfl
  have hok:kH (.mk k s z kids)=(er k s z kids.length&&ff kids):=rfl
  refine af rfl PE rfl ?_
  obtain⟨H1,m1,r1,n1,k1⟩:=au H [.int .u8 (k:Int),.str s,.int .i64 z,v] (n:=4) rfl
  have E1:aS H.next H H1:=⟨om,fun c hc=>k1 c om⟩
  have ln:=z1.len
  have hlen:=eQ kids
  simp only[c86,sA,sB,seval,cq,m1]
  refine aG (fun m (T:bG) K=>∃(i:Nat),m=kids.length-i/\i<=kids.length/\T 1=ae H.next 4 0/\T 3=.int .i64 (i:Int)/\aS H1.next H1 K/\ff (kids.take i)=true) kids.length
   ⟨0,rfl,Nat.zero_le _,by simp only[sA,sB,seval],by simp only[sA,sB,seval]; try rfl,aS.refl _ _,by simp[ff]⟩ ?_
  rintro m T K ⟨i,rfl,hi,t1,t3,FK,hK⟩
  have eK:=FK.next
  have rK:=r1.same (FK.old _ om)
  have l0:am false 1 K (ae H.next 4 0)=some (.int .u8 (k:Int)):=ah rK rfl rfl
  have l1:am false 1 K (ae H.next 4 1)=some (.str s):=ah rK rfl rfl
  have l2:am false 1 K (ae H.next 4 2)=some (.int .i64 z):=ah rK rfl rfl
  have l3:am false 1 K (ae H.next 4 3)=some v:=ah rK rfl rfl
  have EK:aS H.next H K:=E1.trans (FK.less om)
  by_cases hlt:i<kids.length
  ·have hlt':(i:Int)<(kids.length:Int):=om
   obtain⟨e,he⟩:∃e,kids[i]?=some e:=⟨_,QQ hlt⟩
   have km:∀b,b<H.next->b<K.next/\K.get b=H.get b:=fun b hb=>⟨by have:=EK.next; omega,EK.old b hb⟩
   have z13:=z1.mono km
   have ix:=z13.idx hlt
   have ld:=z13.load hlt
   have he3:=(z2.mono km).at he
   have hsm:=ep (QY he)
   have wi:IntKind.i64.wrap ((i:Int)+1)=((i+1:Nat):Int):=jT i 1 om
   simp only[sA,sB,seval,t1,t3,aB,l3,ln,hlt',ix,ld]
   refine (gQ N om om he3).mono ?_
   rintro _ K2 ⟨rfl,E3⟩
   cases hb:kH e with
   | true=>
    simp only[sA,sB,seval,t1,t3,wi]
    exact⟨kids.length-(i+1),om,i+1,rfl,om,tt,tt,FK.trans (E3.less om),by rw[DW he,hK,hb]; rfl⟩
   | false=>
    have hf:kH (.mk k s z kids)=false:=by rw[hok,yh he hb,Bool.and_false]
    simp only[sA,sB,seval,hf]
    exact⟨tt,EK.trans (E3.less EK.next)⟩
  obtain rfl:i=kids.length:=om
  have hlt':¬(kids.length:Int)<(kids.length:Int):=om
  rw[List.take_length]at hK
  rw[hok,hK,Bool.and_true]
  obtain⟨P,hPd⟩:∃P,P=er k s z kids.length:=⟨_,rfl⟩
  rw[<- hPd]
  have hP:P=if k=1 then decide (0<=z)&&(s.isEmpty&&Nat.beq kids.length 0) else if k=2 then decide (z=0)&&(bW s&&Nat.beq kids.length 0) else if k=3 then decide (z=0)&&qM s kids.length else if k=4 then decide (z=0)&&bW s else false:=hPd
  clear hPd hok
  rw[bD]at hP
  have hfin:∀{b:Bool} {K2:aa},P=b->aS K.next K K2->b=P/\aS H.next H K2:=fun h q=>⟨h.symm,EK.trans (q.less EK.next)⟩
  have R:=aS.refl K.next K
  by_cases k1':k=1
  ·have k1i:(k:Int)=1:=om
   rw[if_pos k1']at hP
   by_cases hz:0<=z
   ·by_cases hse:s=[]
    ·by_cases hk0:(kids.length:Int)=0
     ·simp only[sA,sB,seval,t1,t3,aB,fld0,l0,l1,l2,l3,ln,hlt',k1i,hz,hse,hk0]
      refine hfin ?_ R
      rw[hP,decide_eq_true hz,hse,decide_eq_true (show kids.length=0 by omega)]; rfl
     ·simp only[sA,sB,seval,t1,t3,aB,fld0,l0,l1,l2,l3,ln,hlt',k1i,hz,hse,hk0]
      refine hfin ?_ R
      rw[hP,decide_eq_false (show ¬kids.length=0 by omega),Bool.and_false,Bool.and_false]
    ·simp only[sA,sB,seval,t1,t3,aB,fld0,l0,l1,l2,l3,ln,hlt',k1i,hz,hse]
     refine hfin ?_ R
     rw[hP,show s.isEmpty=false by cases s <;> simp_all,Bool.false_and,Bool.and_false]
   ·simp only[sA,sB,seval,t1,t3,aB,fld0,l0,l1,l2,l3,ln,hlt',k1i,hz]
    refine hfin ?_ R
    rw[hP,decide_eq_false hz,Bool.false_and]
  have k1i:¬(k:Int)=1:=om
  rw[if_neg k1']at hP
  by_cases hz:z=0
  rotate_left
  ·have hP':P=false:=by
    rw[hP,decide_eq_false hz]; simp
   by_cases k2:(k:Int)=2
   ·simp only[sA,sB,seval,t1,t3,aB,fld0,l0,l1,l2,l3,ln,hlt',k1i,k2,hz]
    exact hfin hP' R
   by_cases k3:(k:Int)=3
   ·simp only[sA,sB,seval,t1,t3,aB,fld0,l0,l1,l2,l3,ln,hlt',k1i,k2,k3,hz]
    exact hfin hP' R
   by_cases k4:(k:Int)=4
   ·simp only[sA,sB,seval,t1,t3,aB,fld0,l0,l1,l2,l3,ln,hlt',k1i,k2,k3,k4,hz]
    exact hfin hP' R
   simp only[sA,sB,seval,t1,t3,aB,fld0,l0,l1,l2,l3,ln,hlt',k1i,k2,k3,k4]
   exact hfin hP' R
  rw[decide_eq_true hz,Bool.true_and,Bool.true_and,Bool.true_and]at hP
  by_cases k2:k=2
  ·have k2i:(k:Int)=2:=om
   rw[if_pos k2]at hP
   simp only[sA,sB,seval,t1,t3,aB,fld0,l0,l1,l2,l3,ln,hlt',k1i,k2i,hz]
   refine (eR s).mono ?_
   rintro _ K2 ⟨rfl,E3⟩
   have l3':am false 1 K2 (ae H.next 4 3)=some v:=ah (rK.same (E3.old _ (by have:=E1.next; omega))) rfl rfl
   cases hb:bW s with
   | true=>
    rw[hb,Bool.true_and]at hP
    by_cases hk0:(kids.length:Int)=0
    ·simp only[sA,sB,seval,t1,t3,aB,l3',ln,hk0]
     exact hfin (by rw[hP]; exact decide_eq_true om) E3
    ·simp only[sA,sB,seval,t1,t3,aB,l3',ln,hk0]
     exact hfin (by rw[hP]; exact decide_eq_false om) E3
   | false=>
    rw[hb,Bool.false_and]at hP
    simp only[sA,sB,seval]
    exact hfin hP E3
  have k2i:¬(k:Int)=2:=om
  rw[if_neg k2]at hP
  by_cases k3:k=3
  ·have k3i:(k:Int)=3:=om
   rw[if_pos k3]at hP
   have ql:∀{K2:aa},aS K.next K K2->am false 1 K2 (ae H.next 4 3)=some v:=fun q=>ah (rK.same (q.old _ (by have:=E1.next; omega))) rfl rfl
   by_cases q2:kids.length=2
   ·have q2i:(kids.length:Int)=2:=om
    rw[q2]at hP
    have hop:qM s 2=([[124,124],[38,38],[61,61],[33,61],[60,61],[62,61],[60],[62],[43],[45],[42],[47]]:List Bs).contains s:=rfl
    rw[hop]at hP
    simp only[sA,sB,seval,t1,t3,aB,fld0,l0,l1,l2,l3,ln,hlt',k1i,k2i,k3i,hz,q2i,Qn]
    have E3:=(aS.refl K.next K).push rL (.cells (([[124,124],[38,38],[61,61],[33,61],[60,61],[62,61],[60],[62],[43],[45],[42],[47]]:List Bs).map ab.str) 0 false)
    refine (vm (l:=[[124,124],[38,38],[61,61],[33,61],[60,61],[62,61],[60],[62],[43],[45],[42],[47]]) ((dA K _).cel rfl (Nat.lt_succ_self _)) s (by simp)).mono ?_
    rintro _ _ ⟨rfl,rfl⟩
    generalize ([[124,124],[38,38],[61,61],[33,61],[60,61],[62,61],[60],[62],[43],[45],[42],[47]]:List Bs).contains s=b at *
    cases b with
    | true=>simp only[sA,sB,seval]; exact hfin hP E3
    | false=>
     simp only[sA,sB,seval,t1,t3,aB,ql E3,ln,q2i]
     exact hfin hP E3
   have q2i:¬(kids.length:Int)=2:=om
   by_cases q1:kids.length=1
   ·have q1i:(kids.length:Int)=1:=om
    rw[q1]at hP
    have hop:qM s 1=([[45],[33]]:List Bs).contains s:=rfl
    rw[hop]at hP
    simp only[sA,sB,seval,t1,t3,aB,fld0,l0,l1,l2,l3,ln,hlt',k1i,k2i,k3i,hz,q2i,q1i,Aj]
    have E3:=(aS.refl K.next K).push rL (.cells [.str [45],.str [33]] 0 false)
    refine (vm (l:=[[45],[33]]) ((dA K _).cel rfl (Nat.lt_succ_self _)) s (by simp)).mono ?_
    rintro _ _ ⟨rfl,rfl⟩
    generalize ([[45],[33]]:List Bs).contains s=b at *
    cases b with
    | true=>simp only[sA,sB,seval]; exact hfin hP E3
    | false=>simp only[sA,sB,seval]; exact hfin hP E3
   have q1i:¬(kids.length:Int)=1:=om
   have hop:qM s kids.length=false:=by
    unfold qM
    split
    ·omega
    ·omega
    ·rfl
   rw[hop]at hP
   simp only[sA,sB,seval,t1,t3,aB,fld0,l0,l1,l2,l3,ln,hlt',k1i,k2i,k3i,hz,q2i,q1i]
   exact hfin hP R
  have k3i:¬(k:Int)=3:=om
  rw[if_neg k3]at hP
  by_cases k4:k=4
  ·have k4i:(k:Int)=4:=om
   rw[if_pos k4]at hP
   simp only[sA,sB,seval,t1,t3,aB,fld0,l0,l1,l2,l3,ln,hlt',k1i,k2i,k3i,k4i,hz]
   refine (eR s).mono ?_
   rintro _ K2 ⟨rfl,E3⟩
   generalize bW s=b at *
   cases b with
   | true=>simp only[sA,sB,seval]; exact hfin hP E3
   | false=>simp only[sA,sB,seval]; exact hfin hP E3
  have k4i:¬(k:Int)=4:=om
  rw[if_neg k4]at hP
  simp only[sA,sB,seval,t1,t3,aB,fld0,l0,l1,l2,l3,ln,hlt',k1i,k2i,k3i,k4i]
  exact hfin hP R
open Go.Abs Go.Abs.S
theorem cO(a b:Bool):jt (.eqv true .bool) [.bool a,.bool b]=some (.bool (a != b)):=by
 cases a <;> cases b <;> rfl
theorem Eu(a b:Bool):jt (.eqv false .bool) [.bool a,.bool b]=some (.bool (a==b)):=by
 cases a <;> cases b <;> rfl
theorem xz:(true != true)=false:=rfl
theorem xA:(true != false)=true:=rfl
theorem oY:(false != true)=true:=rfl
theorem gt:(false != false)=false:=rfl
theorem pN:bW []=false:=rfl
theorem DV{l:List St}{i:Nat}{e:St}(h:l[i]?=some e):cj (l.take (i+1))=(cj (l.take i)&&yi e):=by
 have hts:l.take (i+1)=l.take i++[e]:=by rw[List.take_add_one,h]; rfl
 rw[hts,sk]; simp[cj]
theorem yg:∀{l:List St} {i:Nat} {e:St},l[i]?=some e->yi e=false->cj l=false
 | [],_,_,h,_=>by simp at h
 | x::l,0,e,h,h2=>by simp only[QZ,sJ]at h; subst h; simp[cj,h2]
 | x::l,i+1,e,h,h2=>by rw[Q0]at h; simp[cj,yg h h2]
theorem yF:∀(N:Nat) {l:List St} {C:List ab} {v:ab} {H:aa},az l<=N->az l<=1000000->eX (·<H.next) H 9 v l.length C->gc (·<H.next) H l C ->
  aq Tryz.prog aA 41 [v] H fun u H'=>u=.bool (cj l)/\aS H.next H H':=by
 intro N
 induction N with
 | zero=>
  intro l C v H h hs z1 z2
  have hl0:l=[]:=by
   cases l with
   | nil=>rfl
   | cons x l=>have:=fV x; simp only[az]at h; omega
  subst hl0
  have ln:=z1.len
  have h0:¬(0:Int)<(([]:List St).length:Int):=by simp
  refine af rfl M1 rfl ?_
  simp only[QB,sA,sB,seval]
  refine aG (fun m (T:bG) K=>H=K/\T 0=v/\T 3=.int .i64 0) 0 ⟨rfl,by simp only[sA,sB,seval],by simp only[sA,sB,seval]⟩ ?_
  rintro m T K ⟨rfl,t0,t3⟩
  simp only[sA,sB,seval,t0,t3,ln,h0]
  exact⟨rfl,aS.refl _ _⟩
 | succ N ih=>
  intro l C v H h hs z1 z2
  have ln:=z1.len
  refine af rfl M1 rfl ?_
  simp only[QB,sA,sB,seval]
  refine aG (fun m (T:bG) K=>∃(i:Nat),m=l.length-i/\i<=l.length/\T 0=v/\T 3=.int .i64 (i:Int)/\aS H.next H K/\cj (l.take i)=true) l.length
   ⟨0,rfl,Nat.zero_le _,by simp only[sA,sB,seval],by simp only[sA,sB,seval]; try rfl,aS.refl _ _,by simp[cj]⟩ ?_
  rintro m T K ⟨i,rfl,hi,t0,t3,EK,hK⟩
  have eK:=EK.next
  by_cases hlt:i<l.length
  case neg=>
   obtain rfl:i=l.length:=om
   have hlt':¬(l.length:Int)<(l.length:Int):=om
   rw[List.take_length]at hK
   rw[hK]
   simp only[sA,sB,seval,t0,t3,ln,hlt']
   exact⟨tt,EK⟩
  have hlt':(i:Int)<(l.length:Int):=om
  obtain⟨x,he⟩:∃e,l[i]?=some e:=⟨_,QQ hlt⟩
  have km:∀b,b<H.next->b<K.next/\K.get b=H.get b:=fun b hb=>⟨om,EK.old b hb⟩
  have z13:=z1.mono km
  have ix:=z13.idx hlt
  have ld:=z13.load hlt
  have hsm:=eY (QY he)
  have hlen:=fN l
  have wi:IntKind.i64.wrap ((i:Int)+1)=((i+1:Nat):Int):=jT i 1 om
  have hx3:=(z2.mono km).at he
  have hone:=hx3.one
  have hbad:=fun h=>yg he h
  have htk:=DV he
  obtain⟨k,s,e,body,els,line⟩:=x
  obtain⟨ce,vb,Cb,ve,Ce,hcell,x1,y1,y2,y3,y4⟩:=hx3
  obtain⟨c0,c1,c2,c3,rfl⟩:∃a b c d,ce=[a,b,c,d]:=by
   have:=x1.len
   match ce,this with
   | [a,b,c,d],_=>exact⟨a,b,c,d,rfl⟩
  rw[hcell]at ld hone
  have hsz:(St.mk k s e body els line).size=e.size+az body+az els+1:=rfl
  have hok:yi (St.mk k s e body els line)=(bS k s body.length els.length&&(kH e&&(cj body&&cj els))):=rfl
  obtain⟨K1,m1,r1,n1,k1⟩:=au K [.int .u8 0,.str [],.int .u8 0,.str [],.int .i64 0,.slice none 0 (.known 0),.slice none 0 (.known 0),.slice none 0 (.known 0),.int .i64 0] (n:=9) rfl
  obtain⟨K2,m2,r2,n2,k2⟩:=aj r1 (n:=9) rfl (xs:=.int .u8 (k:Int)::.str s::([c0,c1,c2,c3]++[vb,ve,.int .i64 line])) rfl hone
  simp only[Q9,List.nil_append]at ld m2 r2 hone
  obtain⟨b5,hb5⟩:∃b,b=K.next:=⟨_,rfl⟩
  rw[<- hb5]at m1 m2 r2 k2 k1
  have E2:aS K.next K K2:=⟨om,fun c hc=>by rw[k2 c om,k1 c om]⟩
  have e2:=E2.next
  have kk:∀{K':aa},aS K.next K K'->∀b,b<K.next->b<K'.next/\K'.get b=K.get b:=fun q b hb=>⟨by have:=q.next; omega,q.old b hb⟩
  have rr:∀{J:aa},aS K2.next K2 J->aT J b5 [.int .u8 (k:Int),.str s,c0,c1,c2,c3,vb,ve,.int .i64 line]:=fun q=>r2.same (q.old _ om)
  have l0:∀{J:aa},aS K2.next K2 J->am false 1 J (ae b5 9 0)=some (.int .u8 (k:Int)):=fun q=>ah (rr q) rfl rfl
  have l1:∀{J:aa},aS K2.next K2 J->am false 1 J (ae b5 9 1)=some (.str s):=fun q=>ah (rr q) rfl rfl
  have l2:∀{J:aa},aS K2.next K2 J->am true 4 J (ae b5 9 2)=some (.agg [c0,c1,c2,c3]):=fun q=>eA (rr q) (n:=9) rfl (i:=2) (k:=4) om
  have l6:∀{J:aa},aS K2.next K2 J->am false 1 J (ae b5 9 6)=some vb:=fun q=>ah (rr q) rfl rfl
  have l7:∀{J:aa},aS K2.next K2 J->am false 1 J (ae b5 9 7)=some ve:=fun q=>ah (rr q) rfl rfl
  have R2:=aS.refl K2.next K2
  have lb:=y1.len
  have le:=y3.len
  obtain⟨P,hP⟩:∃P,P=cj l:=⟨_,rfl⟩
  rw[<- hP]at hbad ⊢
  have bad:∀{J:aa},yi (St.mk k s e body els line)=false->aS K2.next K2 J->false=P/\aS H.next H J:=fun h q=>⟨(hbad h).symm,EK.trans ((E2.trans (q.less e2)).less eK)⟩
  have up2:∀{J:aa},aS K2.next K2 J->aS K.next K J:=fun q=>E2.trans (q.less e2)
  by_cases kk1:k=1
  ·have k1i:(k:Int)=1:=om
   have hl:bS k s body.length els.length=(bW s&&(Nat.beq body.length 0&&Nat.beq els.length 0)):=by
    obtain rfl:k=1:=om
    rfl
   rw[hl]at hok
   rw[k1i]at ld m2
   simp only[sA,sB,seval,t0,t3,ln,hlt',ix,ld,m1,m2,aB,fld0,l0 R2,l1 R2,k1i]
   refine (eR s).mono ?_
   rintro _ K3 ⟨rfl,E3⟩
   have e3:=E3.next
   cases hn:bW s with
   | false=>
    simp only[sA,sB,seval,cO,xA]
    exact bad (by rw[hok,hn,Bool.false_and,Bool.false_and]) E3
   | true=>
   simp only[sA,sB,seval,cO,xz,aB,fld0,l0 E3,l1 E3,l2 E3,k1i]
   refine (gQ e.size rL om (x1.mono (kk (up2 E3)))).mono ?_
   rintro _ K4 ⟨rfl,E4⟩
   have e4:=E4.next
   have E24:=E3.trans (E4.less e3)
   cases hx:kH e with
   | false=>
    simp only[sA,sB,seval]
    exact bad (by rw[hok,hx,Bool.false_and,Bool.and_false]) E24
   | true=>
   rw[hx,Bool.true_and]at hok
   by_cases q7:(0:Int)<(els.length:Int)
   ·simp only[sA,sB,seval,aB,fld0,l0 E24,l6 E24,l7 E24,le,q7,k1i]
    exact bad (by rw[hok,bD els.length,show decide (els.length=0)=false from decide_eq_false om]; simp) E24
   by_cases q6:(0:Int)<(body.length:Int)
   ·simp only[sA,sB,seval,aB,fld0,l0 E24,l6 E24,l7 E24,le,lb,q7,q6,k1i]
    exact bad (by rw[hok,bD body.length,show decide (body.length=0)=false from decide_eq_false om]; simp) E24
   simp only[sA,sB,seval,aB,fld0,l0 E24,l6 E24,l7 E24,le,lb,q7,q6,k1i]
   refine (ih om om (y1.mono (kk (up2 E24))) (y2.mono (kk (up2 E24)))).mono ?_
   rintro _ K5 ⟨rfl,E5⟩
   have e5:=E5.next
   have E25:=E24.trans (E5.less om)
   cases hy:cj body with
   | false=>
    simp only[sA,sB,seval]
    exact bad (by rw[hok,hy,Bool.false_and,Bool.and_false]) E25
   | true=>
   rw[hy,Bool.true_and]at hok
   simp only[sA,sB,seval,aB,fld0,l7 E25]
   refine (ih om om (y3.mono (kk (up2 E25))) (y4.mono (kk (up2 E25)))).mono ?_
   rintro _ K6 ⟨rfl,E6⟩
   have e6:=E6.next
   have E26:=E25.trans (E6.less om)
   cases hz:cj els with
   | false=>
    simp only[sA,sB,seval]
    exact bad (by rw[hok,hz,Bool.and_false]) E26
   | true=>
   simp only[sA,sB,seval,t0,t3,wi]
   exact⟨l.length-(i+1),om,i+1,rfl,om,tt,tt,EK.trans ((up2 E26).less eK),by rw[htk,hK,hok,hz,hn,show body.length=0 by omega,show els.length=0 by omega]; rfl⟩
  by_cases kk2:k=2
  ·have k2i:(k:Int)=2:=om
   have k1i:¬(k:Int)=1:=om
   have hl:bS k s body.length els.length=(bW s&&(Nat.beq body.length 0&&Nat.beq els.length 0)):=by
    obtain rfl:k=2:=om
    rfl
   rw[hl]at hok
   rw[k2i]at ld m2
   simp only[sA,sB,seval,t0,t3,ln,hlt',ix,ld,m1,m2,aB,fld0,l0 R2,l1 R2,k1i,k2i]
   refine (eR s).mono ?_
   rintro _ K3 ⟨rfl,E3⟩
   have e3:=E3.next
   cases hn:bW s with
   | false=>
    simp only[sA,sB,seval,cO,xA]
    exact bad (by rw[hok,hn,Bool.false_and,Bool.false_and]) E3
   | true=>
   simp only[sA,sB,seval,cO,xz,aB,fld0,l0 E3,l1 E3,l2 E3,k1i,k2i]
   refine (gQ e.size rL om (x1.mono (kk (up2 E3)))).mono ?_
   rintro _ K4 ⟨rfl,E4⟩
   have e4:=E4.next
   have E24:=E3.trans (E4.less e3)
   cases hx:kH e with
   | false=>
    simp only[sA,sB,seval]
    exact bad (by rw[hok,hx,Bool.false_and,Bool.and_false]) E24
   | true=>
   rw[hx,Bool.true_and]at hok
   by_cases q7:(0:Int)<(els.length:Int)
   ·simp only[sA,sB,seval,aB,fld0,l0 E24,l6 E24,l7 E24,le,q7,k1i,k2i]
    exact bad (by rw[hok,bD els.length,show decide (els.length=0)=false from decide_eq_false om]; simp) E24
   by_cases q6:(0:Int)<(body.length:Int)
   ·simp only[sA,sB,seval,aB,fld0,l0 E24,l6 E24,l7 E24,le,lb,q7,q6,k1i,k2i]
    exact bad (by rw[hok,bD body.length,show decide (body.length=0)=false from decide_eq_false om]; simp) E24
   simp only[sA,sB,seval,aB,fld0,l0 E24,l6 E24,l7 E24,le,lb,q7,q6,k1i,k2i]
   refine (ih om om (y1.mono (kk (up2 E24))) (y2.mono (kk (up2 E24)))).mono ?_
   rintro _ K5 ⟨rfl,E5⟩
   have e5:=E5.next
   have E25:=E24.trans (E5.less om)
   cases hy:cj body with
   | false=>
    simp only[sA,sB,seval]
    exact bad (by rw[hok,hy,Bool.false_and,Bool.and_false]) E25
   | true=>
   rw[hy,Bool.true_and]at hok
   simp only[sA,sB,seval,aB,fld0,l7 E25]
   refine (ih om om (y3.mono (kk (up2 E25))) (y4.mono (kk (up2 E25)))).mono ?_
   rintro _ K6 ⟨rfl,E6⟩
   have e6:=E6.next
   have E26:=E25.trans (E6.less om)
   cases hz:cj els with
   | false=>
    simp only[sA,sB,seval]
    exact bad (by rw[hok,hz,Bool.and_false]) E26
   | true=>
   simp only[sA,sB,seval,t0,t3,wi]
   exact⟨l.length-(i+1),om,i+1,rfl,om,tt,tt,EK.trans ((up2 E26).less eK),by rw[htk,hK,hok,hz,hn,show body.length=0 by omega,show els.length=0 by omega]; rfl⟩
  by_cases kk3:k=3
  ·have k3i:(k:Int)=3:=om
   have k1i:¬(k:Int)=1:=om
   have k2i:¬(k:Int)=2:=om
   have hl:bS k s body.length els.length=(s.isEmpty):=by
    obtain rfl:k=3:=om
    rfl
   rw[hl]at hok
   rw[k3i]at ld m2
   simp only[sA,sB,seval,t0,t3,ln,hlt',ix,ld,m1,m2,aB,fld0,l0 R2,l1 R2,k1i,k2i,k3i]
   refine (eR s).mono ?_
   rintro _ K3 ⟨rfl,E3⟩
   have e3:=E3.next
   cases hn:bW s with
   | true=>
    simp only[sA,sB,seval,cO,oY]
    have hse:s.isEmpty=false:=by
     cases s with
     | nil=>rw[pN]at hn; exact absurd hn (by simp)
     | cons a b=>rfl
    exact bad (by rw[hok,hse]; simp) E3
   | false=>
   by_cases hse:s=[]
   rotate_left
   ·simp only[sA,sB,seval,cO,gt,aB,fld0,l1 E3,hse]
    exact bad (by rw[hok,show s.isEmpty=false by cases s <;> simp_all]; simp) E3
   simp only[sA,sB,seval,cO,gt,aB,fld0,l0 E3,l1 E3,l2 E3,k1i,k2i,k3i,hse]
   refine (gQ e.size rL om (x1.mono (kk (up2 E3)))).mono ?_
   rintro _ K4 ⟨rfl,E4⟩
   have e4:=E4.next
   have E24:=E3.trans (E4.less e3)
   cases hx:kH e with
   | false=>
    simp only[sA,sB,seval]
    exact bad (by rw[hok,hx,Bool.false_and,Bool.and_false]) E24
   | true=>
   rw[hx,Bool.true_and]at hok
   by_cases q7:(0:Int)<(els.length:Int)
   ·by_cases q6:(0:Int)<(body.length:Int)
    ·simp only[sA,sB,seval,aB,fld0,l0 E24,l6 E24,l7 E24,le,lb,q7,q6,k1i,k2i,k3i]
     refine (ih om om (y1.mono (kk (up2 E24))) (y2.mono (kk (up2 E24)))).mono ?_
     rintro _ K5 ⟨rfl,E5⟩
     have e5:=E5.next
     have E25:=E24.trans (E5.less om)
     cases hy:cj body with
     | false=>
      simp only[sA,sB,seval]
      exact bad (by rw[hok,hy,Bool.false_and,Bool.and_false]) E25
     | true=>
     rw[hy,Bool.true_and]at hok
     simp only[sA,sB,seval,aB,fld0,l7 E25]
     refine (ih om om (y3.mono (kk (up2 E25))) (y4.mono (kk (up2 E25)))).mono ?_
     rintro _ K6 ⟨rfl,E6⟩
     have e6:=E6.next
     have E26:=E25.trans (E6.less om)
     cases hz:cj els with
     | false=>
      simp only[sA,sB,seval]
      exact bad (by rw[hok,hz,Bool.and_false]) E26
     | true=>
     simp only[sA,sB,seval,t0,t3,wi]
     exact⟨l.length-(i+1),om,i+1,rfl,om,tt,tt,EK.trans ((up2 E26).less eK),by rw[htk,hK,hok,hz,hse]; rfl⟩
    ·simp only[sA,sB,seval,aB,fld0,l0 E24,l6 E24,l7 E24,le,lb,q7,q6,k1i,k2i,k3i]
     refine (ih om om (y1.mono (kk (up2 E24))) (y2.mono (kk (up2 E24)))).mono ?_
     rintro _ K5 ⟨rfl,E5⟩
     have e5:=E5.next
     have E25:=E24.trans (E5.less om)
     cases hy:cj body with
     | false=>
      simp only[sA,sB,seval]
      exact bad (by rw[hok,hy,Bool.false_and,Bool.and_false]) E25
     | true=>
     rw[hy,Bool.true_and]at hok
     simp only[sA,sB,seval,aB,fld0,l7 E25]
     refine (ih om om (y3.mono (kk (up2 E25))) (y4.mono (kk (up2 E25)))).mono ?_
     rintro _ K6 ⟨rfl,E6⟩
     have e6:=E6.next
     have E26:=E25.trans (E6.less om)
     cases hz:cj els with
     | false=>
      simp only[sA,sB,seval]
      exact bad (by rw[hok,hz,Bool.and_false]) E26
     | true=>
     simp only[sA,sB,seval,t0,t3,wi]
     exact⟨l.length-(i+1),om,i+1,rfl,om,tt,tt,EK.trans ((up2 E26).less eK),by rw[htk,hK,hok,hz,hse]; rfl⟩
   ·by_cases q6:(0:Int)<(body.length:Int)
    ·simp only[sA,sB,seval,aB,fld0,l0 E24,l6 E24,l7 E24,le,lb,q7,q6,k1i,k2i,k3i]
     refine (ih om om (y1.mono (kk (up2 E24))) (y2.mono (kk (up2 E24)))).mono ?_
     rintro _ K5 ⟨rfl,E5⟩
     have e5:=E5.next
     have E25:=E24.trans (E5.less om)
     cases hy:cj body with
     | false=>
      simp only[sA,sB,seval]
      exact bad (by rw[hok,hy,Bool.false_and,Bool.and_false]) E25
     | true=>
     rw[hy,Bool.true_and]at hok
     simp only[sA,sB,seval,aB,fld0,l7 E25]
     refine (ih om om (y3.mono (kk (up2 E25))) (y4.mono (kk (up2 E25)))).mono ?_
     rintro _ K6 ⟨rfl,E6⟩
     have e6:=E6.next
     have E26:=E25.trans (E6.less om)
     cases hz:cj els with
     | false=>
      simp only[sA,sB,seval]
      exact bad (by rw[hok,hz,Bool.and_false]) E26
     | true=>
     simp only[sA,sB,seval,t0,t3,wi]
     exact⟨l.length-(i+1),om,i+1,rfl,om,tt,tt,EK.trans ((up2 E26).less eK),by rw[htk,hK,hok,hz,hse]; rfl⟩
    ·simp only[sA,sB,seval,aB,fld0,l0 E24,l6 E24,l7 E24,le,lb,q7,q6,k1i,k2i,k3i]
     refine (ih om om (y1.mono (kk (up2 E24))) (y2.mono (kk (up2 E24)))).mono ?_
     rintro _ K5 ⟨rfl,E5⟩
     have e5:=E5.next
     have E25:=E24.trans (E5.less om)
     cases hy:cj body with
     | false=>
      simp only[sA,sB,seval]
      exact bad (by rw[hok,hy,Bool.false_and,Bool.and_false]) E25
     | true=>
     rw[hy,Bool.true_and]at hok
     simp only[sA,sB,seval,aB,fld0,l7 E25]
     refine (ih om om (y3.mono (kk (up2 E25))) (y4.mono (kk (up2 E25)))).mono ?_
     rintro _ K6 ⟨rfl,E6⟩
     have e6:=E6.next
     have E26:=E25.trans (E6.less om)
     cases hz:cj els with
     | false=>
      simp only[sA,sB,seval]
      exact bad (by rw[hok,hz,Bool.and_false]) E26
     | true=>
     simp only[sA,sB,seval,t0,t3,wi]
     exact⟨l.length-(i+1),om,i+1,rfl,om,tt,tt,EK.trans ((up2 E26).less eK),by rw[htk,hK,hok,hz,hse]; rfl⟩
  by_cases kk4:k=4
  ·have k4i:(k:Int)=4:=om
   have k1i:¬(k:Int)=1:=om
   have k2i:¬(k:Int)=2:=om
   have k3i:¬(k:Int)=3:=om
   have hl:bS k s body.length els.length=(s.isEmpty&&Nat.beq els.length 0):=by
    obtain rfl:k=4:=om
    rfl
   rw[hl]at hok
   rw[k4i]at ld m2
   simp only[sA,sB,seval,t0,t3,ln,hlt',ix,ld,m1,m2,aB,fld0,l0 R2,l1 R2,k1i,k2i,k3i,k4i]
   refine (eR s).mono ?_
   rintro _ K3 ⟨rfl,E3⟩
   have e3:=E3.next
   cases hn:bW s with
   | true=>
    simp only[sA,sB,seval,cO,oY]
    have hse:s.isEmpty=false:=by
     cases s with
     | nil=>rw[pN]at hn; exact absurd hn (by simp)
     | cons a b=>rfl
    exact bad (by rw[hok,hse]; simp) E3
   | false=>
   by_cases hse:s=[]
   rotate_left
   ·simp only[sA,sB,seval,cO,gt,aB,fld0,l1 E3,hse]
    exact bad (by rw[hok,show s.isEmpty=false by cases s <;> simp_all]; simp) E3
   simp only[sA,sB,seval,cO,gt,aB,fld0,l0 E3,l1 E3,l2 E3,k1i,k2i,k3i,k4i,hse]
   refine (gQ e.size rL om (x1.mono (kk (up2 E3)))).mono ?_
   rintro _ K4 ⟨rfl,E4⟩
   have e4:=E4.next
   have E24:=E3.trans (E4.less e3)
   cases hx:kH e with
   | false=>
    simp only[sA,sB,seval]
    exact bad (by rw[hok,hx,Bool.false_and,Bool.and_false]) E24
   | true=>
   rw[hx,Bool.true_and]at hok
   by_cases q7:(0:Int)<(els.length:Int)
   ·simp only[sA,sB,seval,aB,fld0,l0 E24,l6 E24,l7 E24,le,q7,k1i,k2i,k3i,k4i]
    exact bad (by rw[hok,bD els.length,show decide (els.length=0)=false from decide_eq_false om]; simp) E24
   by_cases q6:(0:Int)<(body.length:Int)
   ·simp only[sA,sB,seval,aB,fld0,l0 E24,l6 E24,l7 E24,le,lb,q7,q6,k1i,k2i,k3i,k4i]
    refine (ih om om (y1.mono (kk (up2 E24))) (y2.mono (kk (up2 E24)))).mono ?_
    rintro _ K5 ⟨rfl,E5⟩
    have e5:=E5.next
    have E25:=E24.trans (E5.less om)
    cases hy:cj body with
    | false=>
     simp only[sA,sB,seval]
     exact bad (by rw[hok,hy,Bool.false_and,Bool.and_false]) E25
    | true=>
    rw[hy,Bool.true_and]at hok
    simp only[sA,sB,seval,aB,fld0,l7 E25]
    refine (ih om om (y3.mono (kk (up2 E25))) (y4.mono (kk (up2 E25)))).mono ?_
    rintro _ K6 ⟨rfl,E6⟩
    have e6:=E6.next
    have E26:=E25.trans (E6.less om)
    cases hz:cj els with
    | false=>
     simp only[sA,sB,seval]
     exact bad (by rw[hok,hz,Bool.and_false]) E26
    | true=>
    simp only[sA,sB,seval,t0,t3,wi]
    exact⟨l.length-(i+1),om,i+1,rfl,om,tt,tt,EK.trans ((up2 E26).less eK),by rw[htk,hK,hok,hz,hse,show els.length=0 by omega]; rfl⟩
   ·simp only[sA,sB,seval,aB,fld0,l0 E24,l6 E24,l7 E24,le,lb,q7,q6,k1i,k2i,k3i,k4i]
    refine (ih om om (y1.mono (kk (up2 E24))) (y2.mono (kk (up2 E24)))).mono ?_
    rintro _ K5 ⟨rfl,E5⟩
    have e5:=E5.next
    have E25:=E24.trans (E5.less om)
    cases hy:cj body with
    | false=>
     simp only[sA,sB,seval]
     exact bad (by rw[hok,hy,Bool.false_and,Bool.and_false]) E25
    | true=>
    rw[hy,Bool.true_and]at hok
    simp only[sA,sB,seval,aB,fld0,l7 E25]
    refine (ih om om (y3.mono (kk (up2 E25))) (y4.mono (kk (up2 E25)))).mono ?_
    rintro _ K6 ⟨rfl,E6⟩
    have e6:=E6.next
    have E26:=E25.trans (E6.less om)
    cases hz:cj els with
    | false=>
     simp only[sA,sB,seval]
     exact bad (by rw[hok,hz,Bool.and_false]) E26
    | true=>
    simp only[sA,sB,seval,t0,t3,wi]
    exact⟨l.length-(i+1),om,i+1,rfl,om,tt,tt,EK.trans ((up2 E26).less eK),by rw[htk,hK,hok,hz,hse,show els.length=0 by omega]; rfl⟩
  by_cases kk5:k=5
  ·have k5i:(k:Int)=5:=om
   have k1i:¬(k:Int)=1:=om
   have k2i:¬(k:Int)=2:=om
   have k3i:¬(k:Int)=3:=om
   have k4i:¬(k:Int)=4:=om
   have hl:bS k s body.length els.length=(s.isEmpty&&(Nat.beq body.length 0&&Nat.beq els.length 0)):=by
    obtain rfl:k=5:=om
    rfl
   rw[hl]at hok
   rw[k5i]at ld m2
   simp only[sA,sB,seval,t0,t3,ln,hlt',ix,ld,m1,m2,aB,fld0,l0 R2,l1 R2,k1i,k2i,k3i,k4i,k5i]
   refine (eR s).mono ?_
   rintro _ K3 ⟨rfl,E3⟩
   have e3:=E3.next
   cases hn:bW s with
   | true=>
    simp only[sA,sB,seval,cO,oY]
    have hse:s.isEmpty=false:=by
     cases s with
     | nil=>rw[pN]at hn; exact absurd hn (by simp)
     | cons a b=>rfl
    exact bad (by rw[hok,hse]; simp) E3
   | false=>
   by_cases hse:s=[]
   rotate_left
   ·simp only[sA,sB,seval,cO,gt,aB,fld0,l1 E3,hse]
    exact bad (by rw[hok,show s.isEmpty=false by cases s <;> simp_all]; simp) E3
   simp only[sA,sB,seval,cO,gt,aB,fld0,l0 E3,l1 E3,l2 E3,k1i,k2i,k3i,k4i,k5i,hse]
   refine (gQ e.size rL om (x1.mono (kk (up2 E3)))).mono ?_
   rintro _ K4 ⟨rfl,E4⟩
   have e4:=E4.next
   have E24:=E3.trans (E4.less e3)
   cases hx:kH e with
   | false=>
    simp only[sA,sB,seval]
    exact bad (by rw[hok,hx,Bool.false_and,Bool.and_false]) E24
   | true=>
   rw[hx,Bool.true_and]at hok
   by_cases q7:(0:Int)<(els.length:Int)
   ·simp only[sA,sB,seval,aB,fld0,l0 E24,l6 E24,l7 E24,le,q7,k1i,k2i,k3i,k4i,k5i]
    exact bad (by rw[hok,bD els.length,show decide (els.length=0)=false from decide_eq_false om]; simp) E24
   by_cases q6:(0:Int)<(body.length:Int)
   ·simp only[sA,sB,seval,aB,fld0,l0 E24,l6 E24,l7 E24,le,lb,q7,q6,k1i,k2i,k3i,k4i,k5i]
    exact bad (by rw[hok,bD body.length,show decide (body.length=0)=false from decide_eq_false om]; simp) E24
   simp only[sA,sB,seval,aB,fld0,l0 E24,l6 E24,l7 E24,le,lb,q7,q6,k1i,k2i,k3i,k4i,k5i]
   refine (ih om om (y1.mono (kk (up2 E24))) (y2.mono (kk (up2 E24)))).mono ?_
   rintro _ K5 ⟨rfl,E5⟩
   have e5:=E5.next
   have E25:=E24.trans (E5.less om)
   cases hy:cj body with
   | false=>
    simp only[sA,sB,seval]
    exact bad (by rw[hok,hy,Bool.false_and,Bool.and_false]) E25
   | true=>
   rw[hy,Bool.true_and]at hok
   simp only[sA,sB,seval,aB,fld0,l7 E25]
   refine (ih om om (y3.mono (kk (up2 E25))) (y4.mono (kk (up2 E25)))).mono ?_
   rintro _ K6 ⟨rfl,E6⟩
   have e6:=E6.next
   have E26:=E25.trans (E6.less om)
   cases hz:cj els with
   | false=>
    simp only[sA,sB,seval]
    exact bad (by rw[hok,hz,Bool.and_false]) E26
   | true=>
   simp only[sA,sB,seval,t0,t3,wi]
   exact⟨l.length-(i+1),om,i+1,rfl,om,tt,tt,EK.trans ((up2 E26).less eK),by rw[htk,hK,hok,hz,hse,show body.length=0 by omega,show els.length=0 by omega]; rfl⟩
  have k1i:¬(k:Int)=1:=om
  have k2i:¬(k:Int)=2:=om
  have k3i:¬(k:Int)=3:=om
  have k4i:¬(k:Int)=4:=om
  have k5i:¬(k:Int)=5:=om
  have hl:bS k s body.length els.length=false:=by
   unfold bS
   rw[if_neg om,if_neg om,if_neg om,if_neg om]
  rw[hl]at hok
  simp only[sA,sB,seval,t0,t3,ln,hlt',ix,ld,m1,m2,aB,fld0,l0 R2,l1 R2,k1i,k2i,k3i,k4i,k5i]
  refine (eR s).mono ?_
  rintro _ K3 ⟨rfl,E3⟩
  have e3:=E3.next
  cases hn:bW s with
  | true=>
   simp only[sA,sB,seval,cO,oY]
   exact bad (by rw[hok]; simp) E3
  | false=>
  by_cases hse:s=[]
  rotate_left
  ·simp only[sA,sB,seval,cO,gt,aB,fld0,l1 E3,hse]
   exact bad (by rw[hok]; simp) E3
  by_cases k0:(k:Int)<1
  ·simp only[sA,sB,seval,cO,gt,aB,fld0,l0 E3,l1 E3,k0,hse]
   exact bad (by rw[hok]; simp) E3
  have k5:(5:Int)<(k:Int):=om
  simp only[sA,sB,seval,cO,gt,aB,fld0,l0 E3,l1 E3,k0,k5,hse]
  exact bad (by rw[hok]; simp) E3
theorem qD{l:List St}{C:List ab}{v:ab}{H:aa}(z1:eX (·<H.next) H 9 v l.length C)(z2:gc (·<H.next) H l C)(hs:az l<=1000000) :
  aq Tryz.prog aA 16 [v] H fun u H'=>u=.bool (dG l)/\aS H.next H H':=by
 refine af rfl Qg rfl ?_
 simp only[c16,sA,sB,seval]
 refine (sV z1 z2 hs).mono ?_
 rintro _ H1 ⟨rfl,E1⟩
 have hr:dG l=(cj l&&fW l):=rfl
 cases hf:fW l with
 | false=>
  rw[hr,hf,Bool.and_false]
  simp only[sA,sB,seval]
  exact⟨tt,E1⟩
 | true=>
  rw[hr,hf,Bool.and_true]
  have km:∀b,b<H.next->b<H1.next/\H1.get b=H.get b:=fun b hb=>⟨by have:=E1.next; omega,E1.old b hb⟩
  simp only[sA,sB,seval]
  refine (yF (az l) rL hs (z1.mono km) (z2.mono km)).mono ?_
  rintro _ H2 ⟨rfl,E2⟩
  simp only[sA,sB,seval]
  exact⟨tt,E1.trans (E2.less E1.next)⟩
open Go.Abs Go.Abs.S
def Ex.kind:Ex->Nat
 | .mk k _ _ _=>k
def cf:List Bs->Bs
 | []=>[]
 | a::l=>a++l.flatMap fun t=>44::32::t
theorem ir(l:List Bs)(t:Bs):cf (l++[t])=cf l++((if l.isEmpty then [] else [44,32])++t):=by
 cases l with
 | nil=>simp[cf]
 | cons a l=>simp[cf]
def cI(k:Nat)(s:Bs)(n:Int)(ts:List Bs):Bs:=
 if k=1 then cm n else if k=2 then s else if k=4 then s++40::(cf ts++[41])
 else match ts with
  | [a]=>s++32::a
  | [a,b]=>a++32::(s++32::b)
  | _=>[]
mutual
def dK:Ex->Bs
 | .mk k s n kids=>cI k s n (iY kids)
def iY:List Ex->List Bs
 | []=>[]
 | e::l=>(if e.kind=3 then 40::(dK e++[41]) else dK e)::iY l
end
def aW(e:Ex):Bs:=if e.kind=3 then 40::(dK e++[41]) else dK e
theorem kB:∀l:List Ex,iY l=l.map aW
 | []=>by simp[iY]
 | e::l=>by rw[iY,List.map_cons,kB l,aW]
def dr(n:Nat):Bs:=List.replicate n 9
def eB(k:Nat)(s:Bs)(lev:Nat)(x b c:Bs)(noElse:Bool):Bs:=
 dr lev++(if k=1 then [108,101,116,32]++(s++([32,61,32]++(x++[59,10])))
 else if k=2 then [115,101,116,32]++(s++([32,61,32]++(x++[59,10])))
 else if k=5 then [114,101,116,117,114,110,32]++(x++[59,10])
 else (if k=3 then [105,102,32,40] else [119,104,105,108,101,32,40])++(x++([41,32,123,10]++(b++((if noElse then [] else dr lev++([125,32,101,108,115,101,32,123,10]++c))++(dr lev++[125,10]))))))
mutual
def iX:Nat->St->Bs
 | lev,.mk k s e body els _=>eB k s lev (dK e) (aL (lev+1) body) (aL (lev+1) els) els.isEmpty
def aL:Nat->List St->Bs
 | _,[]=>[]
 | lev,x::l=>iX lev x++aL lev l
end
theorem iW(lev:Nat)(l m:List St):aL lev (l++m)=aL lev l++aL lev m:=by
 induction l with
 | nil=>simp[aL]
 | cons x l ih=>simp only[Q9,aL,ih,Q3]
def gD(l:List St):Bs×Nat:=if dG l then (if 16384<(aL 0 l).length then ([],3) else (aL 0 l,0)) else ([],103)
mutual
def lC:Ex->Bool
 | .mk _ _ n kids=>(decide (-9223372036854775808<=n)&&decide (n<=9223372036854775807))&&oC kids
def oC:List Ex->Bool
 | []=>true
 | e::l=>lC e&&oC l
end
mutual
def pI:St->Bool
 | .mk _ _ e body els line=>(lC e&&(decide (-9223372036854775808<=line)&&decide (line<=9223372036854775807)))&&(ii body&&ii els)
def ii:List St->Bool
 | []=>true
 | e::l=>pI e&&ii l
end
theorem jX{l:List Ex}{e:Ex}(h:oC l=true)(he:e∈l):lC e=true:=by
 induction l with
 | nil=>simp at he
 | cons x l ih=>
  simp only[oC,QT]at h
  rcases List.mem_cons.1 he with rfl | he
  ·exact h.1
  ·exact ih h.2 he
theorem uI{l:List St}{e:St}(h:ii l=true)(he:e∈l):pI e=true:=by
 induction l with
 | nil=>simp at he
 | cons x l ih=>
  simp only[ii,QT]at h
  rcases List.mem_cons.1 he with rfl | he
  ·exact h.1
  ·exact ih h.2 he
theorem lL{l:List Ex}{e:Ex}(h:ff l=true)(he:e∈l):kH e=true:=by
 induction l with
 | nil=>simp at he
 | cons x l ih=>
  simp only[ff,QT]at h
  rcases List.mem_cons.1 he with rfl | he
  ·exact h.1
  ·exact ih h.2 he
theorem yf{l:List St}{e:St}(h:cj l=true)(he:e∈l):yi e=true:=by
 induction l with
 | nil=>simp at he
 | cons x l ih=>
  simp only[cj,QT]at h
  rcases List.mem_cons.1 he with rfl | he
  ·exact h.1
  ·exact ih h.2 he
open Go.Abs Go.Abs.S
def Kg(W Y:Bs):Prop:=(Y=W∨16384<Y.length)/\Y.length<=W.length
theorem Kg.app{W Y:Bs}(h:Kg W Y)(z:Bs):Kg (W++z) (Y++z):=by
 refine⟨h.1.imp (fun e=>by rw[e]) fun q=>by rw[lA]; omega,?_⟩
 have:=h.2
 simp only[lA]; omega
theorem Kg.stop{W Y:Bs}(h:Kg W Y)(z:Bs)(hy:16384<Y.length):Kg (W++z) Y:=⟨.inr hy,by have:=h.2; rw[lA]; omega⟩
def Pg(n pg:Nat)(H:aa)(W:Bs):Prop:=n<=pg/\pg<H.next/\∃v Y,aT H pg [v]/\eI 1 0 H v (dB Y) Y.length/\eJ v (fun b=>n<=b/\b≠pg)/\Kg W Y
theorem EE(s:Bs):(dB s).all ab.one=true:=by
 simp only[dB,List.all_map,List.all_eq_true]; intro x _; rfl
theorem za(a b:Bs):dB (a++b)=dB a++dB b:=by simp[dB]
theorem pT{n pg:Nat}{K:aa}{W:Bs}(G:Pg n pg K W)(L:List Bs)(hL:W.length+L.flatten.length<=1000000000)(hL2:L.length<=100) :
  aq Tryz.prog aA 119 [ae pg 1 0,qL K.next L.length (.known L.length)] (K.push (.cells (L.map ab.str) 0 false)) fun _ H'=>Pg n pg H' (W++L.flatten)/\aS n K H':=by
 refine af rfl NH rfl ?_
 obtain⟨g1,g2,v,Y,hr,hv,hb,hc⟩:=G
 obtain⟨H0,hH0⟩:∃H0,H0=K.push (.cells (L.map ab.str) 0 false):=⟨_,rfl⟩
 have n0:H0.next=K.next+1:=by rw[hH0]; rfl
 have q0:∀c,c<K.next->H0.get c=K.get c:=fun c hc=>by rw[hH0]; exact aE hc
 have rb:aT H0 K.next (L.map ab.str):=by rw[hH0]; exact dA _ _
 have hln:(L.map ab.str).length=L.length:=Q5 _
 have hbK:=hv.blk'
 rw[<- hH0]
 simp only[OY,sA,sB,seval,oB]
 refine aG (fun m (T:bG) H'=>∃i v Y',m=L.length-i/\i<=L.length/\T 0=ae pg 1 0/\T 6=qL K.next L.length (.known L.length)/\T 7=.int .i64 (L.length:Int)/\T 8=.int .i64 (i:Int)/\aT H' K.next (L.map ab.str)/\aT H' pg [v]/\eI 1 0 H' v (dB Y') Y'.length/\eJ v (fun b=>n<=b/\b≠pg)/\eJ v (K.next≠·)/\Kg (W++(L.take i).flatten) Y'/\H0.next<=H'.next/\∀c,c<n->H'.get c=K.get c) L.length
  ⟨0,v,Y,rfl,Nat.zero_le _,by simp only[sA,sB,seval],by simp only[sA,sB,seval],by simp only[sA,sB,seval],by simp only[sA,sB,seval]; try rfl,rb,hr.same (q0 pg g2),hv.same om (hbK.mono fun b hb=>q0 b hb),hb,hbK.mono fun b hb=>om,by simpa using hc,Nat.le_refl _,fun c hc=>q0 c om⟩ ?_
 rintro m T H1 ⟨i,v,Y',rfl,hi,t0,t6,t7,t8,rK,rp,A,b1,b2,hC,n1,k1⟩
 by_cases hlt:i<L.length
 case neg=>
  obtain rfl:i=L.length:=om
  have hlt':¬(L.length:Int)<(L.length:Int):=om
  rw[List.take_length]at hC
  simp only[sA,sB,seval,t7,t8,hlt']
  exact⟨[],rfl,⟨g1,om,v,Y',rp,A,b1,hC⟩,om,k1⟩
 have hlt':(i:Int)<(L.length:Int):=om
 obtain⟨x,hx⟩:∃x,L[i]?=some x:=⟨_,QQ hlt⟩
 have hts:(L.take (i+1)).flatten=(L.take i).flatten++x:=by rw[List.take_add_one,hx]; simp
 have ix:=Jb (b:=K.next) (n:=L.length) (r:=.known L.length) .i64 hlt
 have lx:am false 1 H1 (ae K.next L.length i)=some (.str x):=ah rK hln (by rw[List.getElem?_map,hx]; rfl)
 have lp:am false 1 H1 (ae pg 1 0)=some v:=ah rp rfl rfl
 have wi:IntKind.i64.wrap ((i:Int)+1)=((i+1:Nat):Int):=xh
 have hle:(L.take (i+1)).flatten.length<=L.flatten.length:=by
  have:L.flatten=(L.take (i+1)).flatten++(L.drop (i+1)).flatten:=by rw[<- List.flatten_append,List.take_append_drop]
  rw[this,lA]; omega
 rw[hts,lA]at hle
 have hC2:=hC.2
 rw[lA]at hC2
 have hs:jU 1 H1 (.str x)=some (x.length,dB x):=rfl
 obtain⟨v',H2,a2,A2,n2,b3,k2⟩:=A.many (j:=x.length) hs (by rw[pm]; omega) (EE x) om (bytes:=1) om om
 have hpv:eJ v (pg≠·):=b1.mono fun b hb=>om
 obtain⟨H3,m3,r3,n3,k3⟩:=cE (rp.same (k2 pg om hpv)) (n:=1) rfl (i:=0) om (x:=v') A2.one (l':=[v']) rfl
 have b1':=b3 _ b1
 have b2':=b3 _ b2
 have ne3:eJ v' (·≠pg):=b1'.mono fun b hb=>by
  rcases hb with hb | hb
  ·exact hb.2
  ·intro e; rw[e]at hb; omega
 simp only[sA,sB,seval,t0,t6,t7,t8,hlt',ix,lx,aw,fld0,lp,a2,m3,wi]
 refine⟨L.length-(i+1),om,i+1,v',Y'++x,rfl,om,tt,tt,tt,tt,rK.same (by rw[k3 _ om,k2 _ om b2]),r3,?_,?_,?_,?_,om,fun c hc=>by rw[k3 c om,k2 c om (b1.mono fun b hb=>om),k1 c hc]⟩
 ·rw[za,lA]
  exact A2.same om (ne3.mono fun b hb=>k3 b hb)
 ·refine (b1'.and ne3).mono fun b hb=>⟨?_,hb.2⟩
  rcases hb.1 with h | h
  ·exact h.1
  ·exact Nat.le_trans om h
 ·refine b2'.mono fun b hb=>?_
  rcases hb with h | h
  ·exact h
  ·intro e; rw[<- e]at h; omega
 ·rw[hts,<- Q3]; exact hC.app x
theorem dI{n pg:Nat}{K:aa}{W:Bs}(G:Pg n pg K W)(lev:Nat)(hL:W.length+lev<=1000000000)(hl2:lev<=1000) :
  aq Tryz.prog aA 118 [ae pg 1 0,.int .i64 (lev:Int)] K fun _ H'=>Pg n pg H' (W++dr lev)/\aS n K H':=by
 refine af rfl NI rfl ?_
 obtain⟨g1,g2,v,Y,hr,hv,hb,hc⟩:=G
 simp only[OZ,sA,sB,seval]
 refine aG (fun m (T:bG) H'=>∃i v Y',m=lev-i/\i<=lev/\T 0=ae pg 1 0/\T 4=.int .i64 (lev:Int)/\T 5=.int .i64 (i:Int)/\aT H' pg [v]/\eI 1 0 H' v (dB Y') Y'.length/\eJ v (fun b=>n<=b/\b≠pg)/\Kg (W++dr i) Y'/\K.next<=H'.next/\∀c,c<n->H'.get c=K.get c) lev
  ⟨0,v,Y,rfl,Nat.zero_le _,by simp only[sA,sB,seval],by simp only[sA,sB,seval]; try rfl,by simp only[sA,sB,seval]; try rfl,hr,hv,hb,by simpa[dr] using hc,Nat.le_refl _,fun c hc=>rfl⟩ ?_
 rintro m T H1 ⟨i,v,Y',rfl,hi,t0,t4,t5,rp,A,b1,hC,n1,k1⟩
 by_cases hlt:i<lev
 case neg=>
  obtain rfl:i=lev:=om
  have hlt':¬(i:Int)<(i:Int):=om
  simp only[sA,sB,seval,t4,t5,hlt']
  exact⟨[],rfl,⟨g1,om,v,Y',rp,A,b1,hC⟩,om,k1⟩
 have hlt':(i:Int)<(lev:Int):=om
 have lp:am false 1 H1 (ae pg 1 0)=some v:=ah rp rfl rfl
 have wi:IntKind.i64.wrap ((i:Int)+1)=((i+1:Nat):Int):=xh
 have hC2:=hC.2
 rw[lA,dr,List.length_replicate]at hC2
 have bs:=fS (.int .u8 0) H1 (x:=.int .u8 9) rfl
 have n1':(H1.push (.cells [.int .u8 9] 0 false)).next=H1.next+1:=rfl
 have A1:=A.same (H':=H1.push (.cells [.int .u8 9] 0 false)) om (A.blk'.mono fun b hb=>aE hb)
 obtain⟨v',H2,a2,A2,n2,b3,k2⟩:=A1.many (j:=1) (DF H1 (.int .u8 9)) (by simp) rfl om (bytes:=1) om om
 have hpv:eJ v (pg≠·):=b1.mono fun b hb=>om
 have kp:∀c,c<H1.next->eJ v (c≠·)->H2.get c=H1.get c:=fun c hc hd=>by rw[k2 c om hd,aE hc]
 obtain⟨H3,m3,r3,n3,k3⟩:=cE (rp.same (kp pg om hpv)) (n:=1) rfl (i:=0) om (x:=v') A2.one (l':=[v']) rfl
 have b1':=b3 _ b1
 have ne3:eJ v' (·≠pg):=b1'.mono fun b hb=>by
  rcases hb with hb | hb
  ·exact hb.2
  ·intro e; rw[e]at hb; omega
 have ht:dr (i+1)=dr i++[9]:=by unfold dr; rw[List.replicate_succ']
 have e9:dB Y'++[ab.int .u8 9]=dB (Y'++[9]):=by rw[za]; rfl
 simp only[sA,sB,seval,t0,t4,t5,hlt',aw,fld0,lp,bs,a2,m3,wi]
 refine⟨lev-(i+1),om,i+1,v',Y'++[9],rfl,om,tt,tt,tt,r3,?_,?_,?_,om,fun c hc=>by rw[k3 c om,kp c om (b1.mono fun b hb=>om),k1 c hc]⟩
 ·rw[<- e9,lA]
  exact A2.same om (ne3.mono fun b hb=>k3 b hb)
 ·refine (b1'.and ne3).mono fun b hb=>⟨?_,hb.2⟩
  rcases hb.1 with h | h
  ·exact h.1
  ·exact Nat.le_trans om h
 ·rw[ht,<- Q3]; exact hC.app [9]
open Go.Abs Go.Abs.S
theorem tX(K:aa)(c:Bs):cD 1 [.str []] K [(0,1,.str c)]=some (qL K.next 1 (.known 1),K.push (.cells [.str c] 0 false)):=_root_.id rfl
theorem sl3(K:aa)(a b c:Bs):cD 3 [.str []] K [(0,1,.str a),(1,1,.str b),(2,1,.str c)]=some (qL K.next 3 (.known 3),K.push (.cells [.str a,.str b,.str c] 0 false)):=_root_.id rfl
structure pA(n pg:Nat)(H:aa)(W:Bs):Prop where
 pg:Pg n pg H W
 n1:1<n
 glo:ru H 1 nM
theorem pA.lt{n pg:Nat}{H:aa}{W:Bs}(h:pA n pg H W):n<=H.next:=by
 obtain⟨h1,h2,_⟩:=h.pg; omega
theorem pA.fwd{n pg:Nat}{H H':aa}{W W':Bs}(h:pA n pg H W)(e:aS n H H')(g:Pg n pg H' W'):pA n pg H' W':=⟨g,h.n1,by unfold ru; rw[e.old 1 h.n1]; exact h.glo⟩
theorem jM{n pg:Nat}{K:aa}{W:Bs}(G:pA n pg K W)(a:Bs)(hL:W.length+a.length<=1000000000):aq Tryz.prog aA 119 [ae pg 1 0,qL K.next 1 (.known 1)] (K.push (.cells [.str a] 0 false)) fun _ H'=>pA n pg H' (W++a)/\aS n K H':=by
 refine (pT G.pg [a] (by simpa using hL) (by simp)).mono ?_
 rintro _ H' ⟨g,e⟩
 exact⟨G.fwd e (by simpa using g),e⟩
theorem LI{n pg:Nat}{K:aa}{W:Bs}(G:pA n pg K W)(a b:Bs)(hL:W.length+(a.length+b.length)<=1000000000):aq Tryz.prog aA 119 [ae pg 1 0,qL K.next 2 (.known 2)] (K.push (.cells [.str a,.str b] 0 false)) fun _ H'=>pA n pg H' (W++(a++b))/\aS n K H':=by
 refine (pT G.pg [a,b] (by simpa using hL) (by simp)).mono ?_
 rintro _ H' ⟨g,e⟩
 exact⟨G.fwd e (by simpa using g),e⟩
theorem Oj{n pg:Nat}{K:aa}{W:Bs}(G:pA n pg K W)(a b c:Bs)(hL:W.length+(a.length+(b.length+c.length))<=1000000000):aq Tryz.prog aA 119 [ae pg 1 0,qL K.next 3 (.known 3)] (K.push (.cells [.str a,.str b,.str c] 0 false)) fun _ H'=>pA n pg H' (W++(a++(b++c)))/\aS n K H':=by
 refine (pT G.pg [a,b,c] (by simpa using hL) (by simp)).mono ?_
 rintro _ H' ⟨g,e⟩
 exact⟨G.fwd e (by simpa using g),e⟩
def Pz(n pg N:Nat):Prop:=∀(e:Ex) (c:List ab) (H:aa) (p:ab) (W:Bs),e.size<=N->kH e=true->lC e=true->nk H p c->(∀a,p=.ptr (some a)->a.b<n)->XE (·<n) H e c->pA n pg H W->W.length+(dK e).length<=1000000000 ->
  aq Tryz.prog aA 120 [ae pg 1 0,p] H fun _ H'=>pA n pg H' (W++dK e)/\aS n H H'
def KiG(n pg N:Nat):Prop:=∀(e:Ex) (c:List ab) (H:aa) (p:ab) (W:Bs),e.size<=N->kH e=true->lC e=true->nk H p c->(∀a,p=.ptr (some a)->a.b<n)->XE (·<n) H e c->pA n pg H W->W.length+(aW e).length<=1000000000 ->
  aq Tryz.prog aA 163 [ae pg 1 0,p] H fun _ H'=>pA n pg H' (W++aW e)/\aS n H H'
theorem nk.ext{n:Nat}{H H':aa}{p:ab}{c:List ab}(h:nk H p c)(e:aS n H H')(hp:∀a,p=.ptr (some a)->a.b<n):nk H' p c:=h.same fun a ea=>e.old _ (hp a ea)
theorem XE.ext{n:Nat}{H H':aa}{e:Ex}{c:List ab}(h:XE (·<n) H e c)(q:aS n H H'):XE (·<n) H' e c:=h.mono fun b hb=>⟨hb,q.old b hb⟩
theorem kiG{n pg N:Nat}(ih:Pz n pg N):KiG n pg N:=by
 rintro ⟨k,s,z,kids⟩ c H p W h ho hr hp hpb hx G hL
 refine af rfl Nh rfl ?_
 obtain⟨v,C,hc,z1,z2⟩:=id hx
 subst hc
 have p0:=hp.load0 (x:=.int .u8 (k:Int)) rfl
 have q0:=hp.fld0
 have qc:=hp.chk
 unfold aW at hL ⊢
 by_cases hk:k=3
 ·have hk':(k:Int)=3:=om
  have e3:(Ex.mk k s z kids).kind=3:=hk
  rw[if_pos e3]at hL ⊢
  have hl:(40::(dK (Ex.mk k s z kids)++[41])).length=(dK (Ex.mk k s z kids)).length+2:=by simp
  rw[hl]at hL
  simp only[Mi,sA,sB,seval,qc,q0,p0,hk',tX]
  refine (jM G [40] (by simp; omega)).mono ?_
  rintro _ H1 ⟨G1,E1⟩
  simp only[sA,sB,seval]
  refine (ih _ _ H1 p (W++[40]) h ho hr (hp.ext E1 hpb) hpb (hx.ext E1) G1 (by simp; omega)).mono ?_
  rintro _ H2 ⟨G2,E2⟩
  simp only[sA,sB,seval,tX]
  refine (jM G2 [41] (by simp; omega)).mono ?_
  rintro _ H3 ⟨G3,E3⟩
  simp only[sA,sB,seval]
  refine⟨[],rfl,?_,(E1.trans E2).trans E3⟩
  simpa using G3
 ·have hk':¬(k:Int)=3:=om
  have e3:¬(Ex.mk k s z kids).kind=3:=hk
  rw[if_neg e3]at hL ⊢
  simp only[Mi,sA,sB,seval,qc,q0,p0,hk']
  refine (ih _ _ H p W h ho hr hp hpb hx G hL).mono ?_
  rintro _ H1 ⟨G1,E1⟩
  simp only[sA,sB,seval]
  exact⟨[],rfl,G1,E1⟩
theorem td(ts:List Bs)(i:Nat):(cf (ts.take i)).length<=(cf ts).length:=by
 have h:=List.take_append_drop i ts
 generalize ts.take i=a at *
 generalize ts.drop i=b at *
 subst h
 cases a with
 | nil=>simp[cf]
 | cons x a=>simp[cf]
theorem Al(e:Ex):1<=e.size:=by cases e; simp only[Ex.size]; omega
theorem Bn(ts:List Bs):ts.length<=(cf ts).length+1:=by
 cases ts with
 | nil=>simp
 | cons a l=>
  have h2:(cf (a::l)).length=a.length+(l.flatMap fun t:Bs=>44::32::t).length:=by rw[cf,lA]
  rw[h2]
  clear h2
  have:l.length<=(l.flatMap fun t:Bs=>44::32::t).length:=by
   induction l with
   | nil=>simp
   | cons b l ih=>simp only[List.flatMap_cons,lA,QU]; omega
  simp only[QU]; omega
theorem Qs(n pg:Nat):Pz n pg 0:=by
 intro e c H p W h
 have:=Al e
 omega
theorem exG{n pg N:Nat}(ih:KiG n pg N):Pz n pg (N+1):=by
 rintro ⟨k,s,z,kids⟩ c H p W h ho hr hp hpb hx G hL
 refine af rfl NG rfl ?_
 obtain⟨v,C,hc,z1,z2⟩:=id hx
 subst hc
 have hsz:(Ex.mk k s z kids).size=aQ kids+1:=rfl
 have p0:=hp.load0 (x:=.int .u8 (k:Int)) rfl
 have p1:=hp.load (o:=1) (x:=.str s) rfl
 have p2:=hp.load (o:=2) (x:=.int .i64 z) rfl
 have p3:=hp.load (o:=3) (x:=v) rfl
 have q0:=hp.fld0
 have q1:=hp.fld 1
 have q2:=hp.fld 2
 have q3:=hp.fld 3
 have qc:=hp.chk
 have ln:=z1.len
 have hG:=G.lt
 have hsh:dK (Ex.mk k s z kids)=cI k s z (kids.map aW):=by rw[dK,kB]
 rw[hsh]at hL ⊢
 have hok:er k s z kids.length=true/\ff kids=true:=by simpa only [kH,QT] using ho
 have hrg:(-9223372036854775808<=z/\z<=9223372036854775807)/\oC kids=true:=by simpa only [lC,QT,Q2] using hr
 obtain⟨Q,hQ⟩:∃Q:ab->aa->Prop,Q=fun _ H'=>pA n pg H' (W++cI k s z (kids.map aW))/\aS n H H':=⟨_,rfl⟩
 rw[<- hQ]
 have tm:∀{K:aa},aS n H K->eX (·<n) K 4 v kids.length C/\qd (·<n) K kids C/\nk K p _:=fun q=>⟨z1.mono fun b hb=>⟨hb,q.old b hb⟩,z2.mono fun b hb=>⟨hb,q.old b hb⟩,hp.ext q hpb⟩
 by_cases k1:k=1
 ·have i1:(k:Int)=1:=om
  have e:cI k s z (kids.map aW)=cm z:=by unfold cI; rw[if_pos k1]
  rw[e]at hQ hL
  simp only[ED,sA,sB,seval,qc,q0,q2,p0,p2,i1]
  refine (DN Gu.str rfl hrg.1.1 hrg.1.2 (by have:=G.n1; omega) G.glo).mono ?_
  rintro _ H1 ⟨rfl,E1⟩
  have E1':=E1.less hG
  have G1:pA n pg H1 W:=G.fwd E1' (by
   obtain⟨a1,a2,v,Y,b1,b2,b3,b4⟩:=G.pg
   exact⟨a1,by have:=E1.next; omega,v,Y,b1.same (E1.old _ a2),b2.same E1.next (b2.blk'.mono fun b hb=>E1.old b hb),b3,b4⟩)
  simp only[sA,sB,seval,tX]
  refine (jM G1 (cm z) hL).mono ?_
  rintro _ H2 ⟨G2,E2⟩
  simp only[sA,sB,seval,hQ]
  exact⟨[],rfl,G2,E1'.trans E2⟩
 have i1:¬(k:Int)=1:=om
 by_cases k2:k=2
 ·have i2:(k:Int)=2:=om
  have e:cI k s z (kids.map aW)=s:=by unfold cI; rw[if_neg k1,if_pos k2]
  rw[e]at hQ hL
  simp only[ED,sA,sB,seval,qc,q0,q1,p0,p1,i1,i2,tX]
  refine (jM G s hL).mono ?_
  rintro _ H2 ⟨G2,E2⟩
  simp only[sA,sB,seval,hQ]
  exact⟨[],rfl,G2,E2⟩
 have i2:¬(k:Int)=2:=om
 by_cases k4:k=4
 ·have i4:(k:Int)=4:=om
  have e:cI k s z (kids.map aW)=s++40::(cf (kids.map aW)++[41]):=by unfold cI; rw[if_neg k1,if_neg k2,if_pos k4]
  rw[e]at hQ hL
  simp only[lA,QU,QV]at hL
  simp only[ED,sA,sB,seval,qc,q0,q1,p0,p1,i1,i2,i4,Aj]
  refine (LI G s [40] (by simp; omega)).mono ?_
  rintro _ H1 ⟨G1,E1⟩
  obtain⟨_,_,pp1⟩:=tm E1
  have p31:=pp1.load (o:=3) (x:=v) rfl
  simp only[sA,sB,seval,qc,q3,p31,ln]
  refine aG (fun m (T:bG) K=>∃i,m=kids.length-i/\i<=kids.length/\T 0=ae pg 1 0/\T 1=p/\T 41=.int .i64 (kids.length:Int)/\T 42=.int .i64 (i:Int)/\pA n pg K (W++(s++40::cf ((kids.map aW).take i)))/\aS n H K) kids.length
   ⟨0,rfl,Nat.zero_le _,by simp only[sA,sB,seval],by simp only[sA,sB,seval],by simp only[sA,sB,seval],by simp only[sA,sB,seval]; try rfl,by simpa[cf] using G1,E1⟩ ?_
  rintro m T K ⟨i,rfl,hi,t0,t1,t41,t42,GK,EK⟩
  by_cases hlt:i<kids.length
  case neg=>
   obtain rfl:i=kids.length:=om
   have hlt':¬(kids.length:Int)<(kids.length:Int):=om
   rw[List.take_of_length_le (by simp)]at GK
   simp only[sA,sB,seval,t0,t1,t41,t42,hlt',tX]
   refine (jM GK [41] (by simp; omega)).mono ?_
   rintro _ H2 ⟨G2,E2⟩
   simp only[sA,sB,seval,hQ]
   exact⟨[],rfl,by simpa using G2,EK.trans E2⟩
  have hlt':(i:Int)<(kids.length:Int):=om
  obtain⟨x,hx'⟩:∃x,kids[i]?=some x:=⟨_,QQ hlt⟩
  have hmem:=QY hx'
  have hsm:=ep hmem
  have hts:(kids.map aW).take (i+1)=(kids.map aW).take i++[aW x]:=by rw[List.take_add_one,List.getElem?_map,hx']; rfl
  have hle:=td (kids.map aW) (i+1)
  rw[hts,ir,lA]at hle
  have wi:IntKind.i64.wrap ((i:Int)+1)=((i+1:Nat):Int):=by
   have:=Bn (kids.map aW)
   rw[Q5]at this
   rw[IntKind.wrap_i64]; omega
  obtain⟨zz1,zz2,ppK⟩:=tm EK
  have p3K:=ppK.load (o:=3) (x:=v) rfl
  have rest:∀(K2:aa) (W2:Bs),pA n pg K2 W2->aS n H K2->W2++aW x=W++(s++40::cf ((kids.map aW).take (i+1)))->∃a,eH 4 v (.int .i64 (i:Int))=some a/\am false 1 K2 (fp p 3)=some v/\aq Tryz.prog aA 163 [ae pg 1 0,a] K2 fun _ K3=>pA n pg K3 (W++(s++40::cf ((kids.map aW).take (i+1))))/\aS n H K3:=by
   intro K2 W2 G2 E2 hW
   obtain⟨y1,y2,pp2⟩:=tm E2
   refine⟨_,y1.idx hlt,pp2.load (o:=3) (x:=v) rfl,?_⟩
   have hl:W2.length+(aW x).length<=1000000000:=by
    have:=congrArg List.length hW
    simp only[lA,QU]at this
    rw[hts,ir,lA]at this
    omega
   refine (ih x _ K2 _ W2 om (lL hok.2 hmem) (jX hrg.2 hmem) (y1.pt hlt) (fun a ea=>y1.blk hlt a ea) (y2.at hx') G2 hl).mono ?_
   rintro _ K3 ⟨G3,E3⟩
   rw[hW]at G3
   exact⟨G3,E2.trans E3⟩
  by_cases h0:i=0
  ·have h0':¬(0:Int)<(i:Int):=om
   obtain⟨a,a1,a2,a3⟩:=rest K _ GK EK (by subst h0; rw[hts]; simp[cf])
   simp only[sA,sB,seval,t0,t1,t41,t42,hlt',h0',qc,q3,a2,a1]
   refine a3.mono ?_
   rintro _ K3 ⟨G3,E3⟩
   simp only[sA,sB,seval,t0,t1,t41,t42,wi]
   exact⟨kids.length-(i+1),om,i+1,rfl,om,tt,tt,tt,tt,G3,E3⟩
  ·have h0':(0:Int)<(i:Int):=om
   simp only[sA,sB,seval,t0,t1,t41,t42,hlt',h0',tX]
   have htk:¬((kids.map aW).take i).isEmpty=true:=fun q=>by
    have:=congrArg List.length (List.isEmpty_iff.1 q)
    rw[Rd,Q5,QV]at this
    omega
   rw[if_neg htk]at hle
   refine (jM GK [44,32] (by simp only[lA,QU,QV]at hle ⊢; omega)).mono ?_
   rintro _ K2 ⟨G2,E2⟩
   obtain⟨a,a1,a2,a3⟩:=rest K2 _ G2 (EK.trans E2) (by rw[hts,ir,if_neg htk]; simp)
   simp only[sA,sB,seval,t0,t1,t41,t42,qc,q3,a2,a1]
   refine a3.mono ?_
   rintro _ K3 ⟨G3,E3⟩
   simp only[sA,sB,seval,t0,t1,t41,t42,wi]
   exact⟨kids.length-(i+1),om,i+1,rfl,om,tt,tt,tt,tt,G3,E3⟩
 have i4:¬(k:Int)=4:=om
 by_cases k3:k=3
 case neg=>
  have:er k s z kids.length=false:=by unfold er; rw[if_neg k1,if_neg k2,if_neg k3,if_neg k4]
  rw[this]at hok
  exact absurd hok.1 (by simp)
 have i3:(k:Int)=3:=om
 have hop:qM s kids.length=true:=by
  have:=hok.1
  unfold er at this
  rw[if_neg k1,if_neg k2,if_pos k3]at this
  simp only[QT]at this
  exact this.2
 have hcase:kids.length=1∨kids.length=2:=by
  unfold qM at hop
  split at hop
  ·left; assumption
  ·right; assumption
  ·simp at hop
 rcases hcase with h1 | h2
 ·obtain⟨x,hkx⟩:∃x,kids=[x]:=List.length_eq_one_iff.1 h1
  have hk0:kids[0]?=some x:=by rw[hkx]; rfl
  have hm:=QY hk0
  have e:cI k s z (kids.map aW)=s++32::aW x:=by rw[hkx]; unfold cI; rw[if_neg k1,if_neg k2,if_neg k4]; rfl
  rw[e]at hQ hL
  simp only[lA,QU]at hL
  have n2:¬(kids.length:Int)=2:=om
  have n1:IntKind.i64.wrap ((kids.length:Int)-1)=0:=by rw[h1]; rfl
  simp only[ED,sA,sB,seval,qc,q0,q1,q3,p0,p1,p3,i1,i2,i4,i3,ln,n2,Aj]
  refine (LI G s [32] (by simp; omega)).mono ?_
  rintro _ H1 ⟨G1,E1⟩
  obtain⟨y1,y2,pp1⟩:=tm E1
  have p31:=pp1.load (o:=3) (x:=v) rfl
  have ix:eH 4 v (.int .i64 0)=some (cF 4 v 0):=y1.idx (i:=0) om
  simp only[sA,sB,seval,qc,q3,p31,ln,n1,ix]
  have hsm:=ep hm
  refine (ih x _ H1 _ _ om (lL hok.2 hm) (jX hrg.2 hm) (y1.pt om) (fun a ea=>y1.blk om a ea) (y2.at (i:=0) hk0) G1 (by simp; omega)).mono ?_
  rintro _ H2 ⟨G2,E2⟩
  simp only[sA,sB,seval,hQ]
  exact⟨[],rfl,by simpa using G2,E1.trans E2⟩
 ·obtain⟨x,y,hkx⟩:∃x y,kids=[x,y]:=by
   match kids,h2 with
   | [x,y],_=>exact⟨x,y,rfl⟩
  have hk0:kids[0]?=some x:=by rw[hkx]; rfl
  have hk1:kids[1]?=some y:=by rw[hkx]; rfl
  have hm0:=QY hk0
  have hm1:=QY hk1
  have e:cI k s z (kids.map aW)=aW x++32::(s++32::aW y):=by rw[hkx]; unfold cI; rw[if_neg k1,if_neg k2,if_neg k4]; rfl
  rw[e]at hQ hL
  simp only[lA,QU]at hL
  have n2:(kids.length:Int)=2:=om
  have n1:IntKind.i64.wrap ((2:Int)-1)=1:=rfl
  have n1':IntKind.i64.wrap 1=1:=rfl
  have ix0:eH 4 v (.int .i64 0)=some (cF 4 v 0):=z1.idx (i:=0) om
  have hsx:=ep hm0
  have hsy:=ep hm1
  simp only[ED,sA,sB,seval,qc,q0,q1,q3,p0,p1,p3,i1,i2,i4,i3,ln,n2,ix0]
  refine (ih x _ H _ _ om (lL hok.2 hm0) (jX hrg.2 hm0) (z1.pt om) (fun a ea=>z1.blk om a ea) (z2.at (i:=0) hk0) G om).mono ?_
  rintro _ H1 ⟨G1,E1⟩
  simp only[sA,sB,seval,tX]
  refine (jM G1 [32] (by simp; omega)).mono ?_
  rintro _ H2 ⟨G2,E2⟩
  have E02:=E1.trans E2
  obtain⟨y1,y2,pp2⟩:=tm E02
  have p12:=pp2.load (o:=1) (x:=.str s) rfl
  simp only[sA,sB,seval,qc,q1,p12,Aj]
  refine (LI G2 s [32] (by simp; omega)).mono ?_
  rintro _ H3 ⟨G3,E3⟩
  have E03:=E02.trans E3
  obtain⟨x1,x2,pp3⟩:=tm E03
  have p33:=pp3.load (o:=3) (x:=v) rfl
  have ix1:eH 4 v (.int .i64 1)=some (cF 4 v 1):=x1.idx (i:=1) om
  simp only[sA,sB,seval,qc,q3,p33,ln,n2,n1,n1',ix1]
  refine (ih y _ H3 _ _ om (lL hok.2 hm1) (jX hrg.2 hm1) (x1.pt om) (fun a ea=>x1.blk om a ea) (x2.at (i:=1) hk1) G3 (by simp; omega)).mono ?_
  rintro _ H4 ⟨G4,E4⟩
  simp only[sA,sB,seval,hQ]
  exact⟨[],rfl,by simpa using G4,E03.trans E4⟩
theorem CG(n pg:Nat):∀N,Pz n pg N
 | 0=>Qs n pg
 | N+1=>exG (kiG (CG n pg N))
end Go.Proofs.Wo
