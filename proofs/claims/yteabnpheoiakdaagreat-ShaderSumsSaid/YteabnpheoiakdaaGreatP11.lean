/- Part of a proof (QP6 QP7 QP8 QP9 QC3 QQ1 QQ2); no condition. -/
import Derived.Test.YteabnpheoiakdaaGreatProg
import Derived.KernelRfl
import Derived.Test.YteabnpheoiakdaaGreatP8
import Derived.Test.YteabnpheoiakdaaGreatP9
import Derived.Test.YteabnpheoiakdaaGreatP10
set_option linter.unusedSimpArgs false
set_option linter.unusedVariables false
set_option linter.unnecessarySimpa false
namespace Go.Proofs.Wo
open Go.Abs Go.Abs.S
theorem Ol(n:aa)(hn:n.one=true):aL [.int .u8 0,.str [],.int .i64 0,.slice none 0 (.known 0)] [(0,1,.int .u8 1),(2,1,n)]=some (.agg [.int .u8 1,.str [],n,.slice none 0 (.known 0)]):=by
 cases n <;> first | rfl | (simp[aa.one]at hn)
theorem LF(S:Bs):aL [.int .u8 0,.str [],.int .i64 0,.slice none 0 (.known 0)] [(0,1,.int .u8 2),(1,1,.str S)]=some (.agg [.int .u8 2,.str S,.int .i64 0,.slice none 0 (.known 0)]):=_root_.id rfl
theorem Dr(S:Bs)(v:aa)(hv:v.one=true):aL [.int .u8 0,.str [],.int .i64 0,.slice none 0 (.known 0)] [(0,1,.int .u8 4),(1,1,.str S),(3,1,v)]=some (.agg [.int .u8 4,.str S,.int .i64 0,v]):=by
 cases v <;> first | rfl | (simp[aa.one]at hv)
theorem Nz(k:Int)(S:Bs)(n:Int){v:aa}(h:v.one=true):([.int .u8 k,.str S,.int .i64 n,v]:List aa).all aa.one=true:=by
 simp only[List.all_cons,List.all_nil,h]; rfl
theorem Qy(k:Int)(S:Bs)(n:Int){v:aa}(h:aeq v v=true):aeqs [.int .u8 k,.str S,.int .i64 n,v] [.int .u8 k,.str S,.int .i64 n,v]=true:=by
 simp only[aeqs,dE,rN,h,Bool.and_self]
theorem B8(P:Nat->Prop)(H:ae)(k:Nat)(S:Bs)(n:Int):lU P H (.mk k S n []) [.int .u8 (k:Int),.str S,.int .i64 n,.slice none 0 (.known 0)]:=⟨bJ,[],rfl,.nil _ _ _,rfl⟩
theorem Kz{n pb:Nat}{s:Bs}{f:Nat}(ihr:lW n pb s f 5)(iha:JU n pb s f):JK n pb s (f+1):=by
 intro H w g x y orv r A hr
 rw[j2]at hr
 simp only[gO]at hr
 refine aj rfl RA rfl ?_
 have hlt:=A.lt
 obtain⟨H1,m1,r1,n1,k1⟩:=aw H [.int .u8 0,.str [],.int .i64 0,.slice none 0 (.known 0)] (n:=4) rfl
 obtain⟨H2,m2,r2,n2,k2⟩:=aw H1 [.int .u8 0,.str [],.int .i64 0,.int .i64 0,.int .i64 0,.int .i64 0] (n:=6) rfl
 obtain⟨H3,m3,r3,n3,k3⟩:=ak r2 (n:=6) rfl (xs:=lZ w.k w.S w.n w.line w.at_ w.en) rfl rfl
 have lw:au true 6 H1 (af pb 11 1)=some (.agg (lZ w.k w.S w.n w.line w.at_ w.en)):=cK (A.row.same (k1 pb om)) (n:=11) rfl (i:=1) (k:=6) om
 have F3:Fp pb H H3:=⟨om,fun c hc _=>by rw[k3 c om,k2 c om,k1 c om]⟩
 have A3:=A.fwd F3 (A.row.same (by rw[k3 pb om,k2 pb om,k1 pb om])) A.ok A.hg
 have q1:a6 H3 H.next _:=r1.same (by rw[k3 _ om,k2 _ om])
 have f0:∀{K:ae},Fp pb H3 K->au false 1 K (af H1.next 6 0)=some (.int .u8 (w.k:Int)):=fun q=>am (r3.same (q.old _ om om)) rfl rfl
 have f1:∀{K:ae},Fp pb H3 K->au false 1 K (af H1.next 6 1)=some (.str w.S):=fun q=>am (r3.same (q.old _ om om)) rfl rfl
 have f2:∀{K:ae},Fp pb H3 K->au false 1 K (af H1.next 6 2)=some (.int .i64 (w.n:Int)):=fun q=>am (r3.same (q.old _ om om)) rfl rfl
 have b0:=Om
 have f03:=f0 (Fp.refl pb H3)
 have f23:=f2 (Fp.refl pb H3)
 have eD:∀{K:ae},Fp pb H3 K->∀(xs:List aa),xs.length=4->xs.all aa.one=true->∃K',bu 4 K (af H.next 4 0) (.agg xs)=some K'/\au true 4 K' (af H.next 4 0)=some (.agg xs)/\K'.next=K.next/\(∀c,c≠H.next->K'.get c=K.get c)/\Fp pb H K':=by
  intro K q xs h1 h2
  obtain⟨K',a1,a2,a3,a4⟩:=ak (q1.same (q.old _ om om)) (n:=4) rfl h1 h2
  exact⟨K',a1,aA a2 h1,a3,a4,by have:=q.next; omega,fun c hc hp=>by rw[a4 c om,q.old c om hp,F3.old c hc hp]⟩
 simp only[c31,sA,sB,seval,m1,aF,aZ,fld0,lw,m2,m3,f03]
 by_cases c1:w.k=1
 ·have c1':(w.k:Int)=1:=om
  rw[if_pos c1]at hr
  simp only[sA,sB,seval,c1']
  refine cI rfl ?_
  simp only[sR,sA,sB,seval,aZ,fld0,f23,Ol (.int .i64 (w.n:Int)) rfl]
  refine (bR A3.row A3.lt A3.en).mono ?_
  rintro u H4 ⟨ho,F4⟩
  have f24:=f2 F4
  obtain⟨H5,m5,l5,n5,k5,F5⟩:=eD F4 [.int .u8 1,.str [],.int .i64 (w.n:Int),.slice none 0 (.known 0)] rfl rfl
  have hp5:H5.get pb=H4.get pb:=k5 pb om
  simp only[sR,sA,sB,seval,m5]
  simp only[bG,bH,bg,bI,co,and_true,true_and,List.map_cons,List.map_nil,sA,sB,seval,aZ,fld0]
  refine⟨⟨_,rfl,fun _=>⟨_,f24,dE _ _⟩⟩,?_⟩
  rcases dd hr with⟨e,he,rfl⟩ | ⟨w1,he,hr⟩
  ·rw[he]at ho
   obtain⟨rfl,r4⟩:=ho
   simp only[sA,sB,seval,fe,l5,aD]
   exact⟨⟨_,w,tt,rfl,⟨rfl,by simp[aeqs,dE,rN]; rfl⟩,r4.same hp5⟩,F5⟩
  ·rw[he]at ho
   obtain⟨rfl,r4⟩:=ho
   simp only[cW,sJ]at hr
   subst hr
   simp only[sA,sB,seval,fe,l5,aD]
   exact⟨⟨_,tt,B8 _ _ 1 [] (w.n:Int),r4.same hp5,(aW he A.ok om).1⟩,F5⟩
 have c1':¬(w.k:Int)=1:=om
 rw[if_neg c1]at hr
 by_cases c2:w.k=2
 ·have c2':(w.k:Int)=2:=om
  rw[if_pos c2]at hr
  simp only[sA,sB,seval,c1',c2',fld0,f03]
  refine (bR A3.row A3.lt A3.en).mono ?_
  rintro u H4 ⟨ho,F4⟩
  rcases dd hr with⟨e,he,rfl⟩ | ⟨w1,he,hr⟩
  ·rw[he]at ho
   obtain⟨rfl,r4⟩:=ho
   obtain⟨H5,m5,l5,n5,k5,F5⟩:=eD F4 [.int .u8 0,.str [],.int .i64 0,.slice none 0 (.known 0)] rfl rfl
   simp only[sA,sB,seval,b0,m5,fe,l5,aD]
   exact⟨⟨_,w,tt,rfl,⟨rfl,rfl⟩,r4.same (k5 pb om)⟩,F5⟩
  rw[he]at ho
  obtain⟨rfl,r4⟩:=ho
  have hw1:=(aW he A.ok om).1
  have A4:=A3.fwd F4 r4 hw1 A.hg
  have bs:=p9 (.str []) H4 (x:=.str [40]) rfl
  have A5:=A4.push (.cells [.str [40]] 0 false)
  have F5:Fp pb H3 (H4.push (.cells [.str [40]] 0 false)):=F4.trans (mr _)
  simp only[sA,sB,seval,bs]
  refine (gT A5.row (my H4 [40]) (by simp)).mono ?_
  rintro _ _ ⟨rfl,rfl⟩
  generalize H4.push (.cells [.str [40]] 0 false)=H5 at *
  have f15:=f1 F5
  cases hs:kM w1 [[40]] with
  | false=>
   rw[if_neg (by rw[hs]; simp)]at hr
   simp only[cW,sJ]at hr
   subst hr
   obtain⟨H6,m6,l6,n6,k6,F6⟩:=eD F5 [.int .u8 2,.str w.S,.int .i64 0,.slice none 0 (.known 0)] rfl rfl
   simp only[sA,sB,seval,aZ,f15,LF,m6,fe,l6,aD]
   exact⟨⟨_,tt,B8 _ _ 2 w.S 0,A5.row.same (k6 pb om),hw1⟩,F6⟩
  | true=>
   rw[if_pos hs]at hr
   simp only[sA,sB,seval]
   refine (iha w.S H5 w1 g x y orv r A5 hs hr).mono ?_
   rintro u H6 ⟨ho,F6⟩
   have F56:=F5.trans F6
   have f16:=f1 F56
   cases r with
   | error e=>
    obtain⟨v,w',rfl,⟨v1,v2⟩,r6⟩:=ho
    obtain⟨H7,m7,l7,n7,k7,F7⟩:=eD F56 [.int .u8 4,.str w.S,.int .i64 0,v] rfl (Nz _ _ _ v1)
    simp only[sA,sB,seval,bA,bx,aZ,f16,Dr w.S v v1,m7,fe,l7,aD]
    exact⟨⟨_,w',tt,rfl,⟨Nz _ _ _ v1,Qy _ _ _ v2⟩,r6.same (k7 pb om)⟩,F7⟩
   | ok p=>
    obtain⟨e,w'⟩:=p
    obtain⟨kids,v,C,rfl,rfl,z1,z2,r6,o6⟩:=ho
    obtain⟨H7,m7,l7,n7,k7,F7⟩:=eD F56 [.int .u8 4,.str w.S,.int .i64 0,v] rfl (Nz _ _ _ z1.one)
    simp only[sA,sB,seval,bA,bx,aZ,f16,Dr w.S v z1.one,m7,fe,l7,aD]
    have e5:=F5.next
    have km:∀b,In H5.next H6.next b->In H.next H7.next b/\H7.get b=H6.get b:=fun b hb=>⟨⟨by have:=hb.1; omega,by have:=hb.2; omega⟩,k7 b (by have:=hb.1; omega)⟩
    exact⟨⟨_,tt,⟨v,C,rfl,z1.mono km,z2.mono km⟩,r6.same (k7 pb om),o6⟩,F7⟩
 have c2':¬(w.k:Int)=2:=om
 rw[if_neg c2]at hr
 have bs:=p9 (.str []) H3 (x:=.str [40]) rfl
 have A5:=A3.push (.cells [.str [40]] 0 false)
 have F5:Fp pb H3 (H3.push (.cells [.str [40]] 0 false)):=mr _
 simp only[sA,sB,seval,c1',c2',fld0,f03,bs]
 refine (gT A5.row (my H3 [40]) (by simp)).mono ?_
 rintro _ _ ⟨rfl,rfl⟩
 generalize H3.push (.cells [.str [40]] 0 false)=H5 at *
 have e5:=F5.next
 cases hs:kM w [[40]] with
 | false=>
  rw[if_neg (by rw[hs]; simp)]at hr
  simp only[qf,sJ]at hr
  subst hr
  simp only[sA,sB,seval,b0]
  refine (iE A5.row 101).mono ?_
  rintro _ H6 ⟨rfl,r6,F6⟩
  obtain⟨H7,m7,l7,n7,k7,F7⟩:=eD (F5.trans F6) [.int .u8 0,.str [],.int .i64 0,.slice none 0 (.known 0)] rfl rfl
  simp only[sA,sB,seval,m7,fe,l7,aD]
  exact⟨⟨_,w,tt,rfl,⟨rfl,rfl⟩,r6.same (k7 pb om)⟩,F7⟩
 | true=>
  rw[if_pos hs]at hr
  simp only[sA,sB,seval]
  refine (bR A5.row A5.lt A5.en).mono ?_
  rintro u H6 ⟨ho,F6⟩
  have F56:=F5.trans F6
  rcases dd hr with⟨e,he,rfl⟩ | ⟨w1,he,hr⟩
  ·rw[he]at ho
   obtain⟨rfl,r6⟩:=ho
   obtain⟨H7,m7,l7,n7,k7,F7⟩:=eD F56 [.int .u8 0,.str [],.int .i64 0,.slice none 0 (.known 0)] rfl rfl
   simp only[sA,sB,seval,b0,m7,fe,l7,aD]
   exact⟨⟨_,w,tt,rfl,⟨rfl,rfl⟩,r6.same (k7 pb om)⟩,F7⟩
  rw[he]at ho
  obtain⟨rfl,r6⟩:=ho
  have hw1:=(aW he A.ok (by rw[iC hs]; omega)).1
  have A6:=A5.fwd F6 r6 hw1 A.hg
  have lo:=A6.lor
  have e6:=F6.next
  simp only[sA,sB,seval,aF,aZ,lo]
  obtain⟨r0,hr0⟩:∃r0,pE s f (.rule 5) g w1=some r0:=by
   rcases cP hr with⟨e,he,rfl⟩ | ⟨e1,w2,he,_⟩
   ·exact⟨_,he⟩
   ·exact⟨_,he⟩
  refine (ihr H6 w1 g x y orv orv r0 A6 A6.or hr0).mono ?_
  rintro u H7 ⟨ho,F7⟩
  have e7:=F7.next
  have F57:=F56.trans F7
  have start:∃xs ok,u=.tuple [.agg xs,.bool ok]/\xs.length=4/\xs.all aa.one=true/\aeqs xs xs=true:=by
   cases r0 with
   | error e=>obtain⟨xs,w',rfl,x1,⟨x2,x3⟩,_⟩:=ho; exact⟨xs,false,rfl,x1,x2,x3⟩
   | ok p=>obtain⟨e,w'⟩:=p; obtain⟨xs,rfl,x1,_⟩:=ho; exact⟨xs,true,rfl,x1.len,x1.one,x1.aeqs⟩
  obtain⟨xs,ok,rfl,x1,x2,x3⟩:=start
  obtain⟨H8,m8,r8,n8,k8⟩:=aw H7 [.int .u8 0,.str [],.int .i64 0,.slice none 0 (.known 0)] (n:=4) rfl
  obtain⟨H9,m9,r9,n9,k9⟩:=ak r8 (n:=4) rfl x1 x2
  have l9:=aA r9 x1
  have k97:∀c,c<H7.next->H9.get c=H7.get c:=fun c hc=>by rw[k9 c om,k8 c om]
  have F79:Fp pb H7 H9:=⟨om,fun c hc _=>k97 c hc⟩
  have F39:=F57.trans F79
  simp only[sA,sB,seval,bA,bx,m8,m9]
  rcases cP hr with⟨e,he',rfl⟩ | ⟨e1,w2,he',hr⟩
  ·rw[hr0]at he'
   simp only[sJ]at he'
   subst he'
   obtain⟨xs',w2,hu,_,_,r7⟩:=ho
   simp only[aa.tuple.injEq,List.cons.injEq,aa.agg.injEq,aa.bool.injEq,and_true]at hu
   obtain⟨rfl,rfl⟩:=hu
   obtain⟨Ha,ma,la,na,ka,Fa⟩:=eD F39 xs x1 x2
   refine cI rfl ?_
   simp only[sR,sA,sB,seval,l9,ma]
   simp only[bG,bH,bg,bI,co,and_true,true_and,List.map_cons,List.map_nil,sA,sB,seval]
   refine⟨⟨_,rfl,fun _=>⟨_,l9,by simpa[aeq] using x3⟩⟩,?_⟩
   simp only[sA,sB,seval,fe,la,aD]
   exact⟨⟨xs,w2,tt,x1,⟨x2,x3⟩,r7.same (by rw[ka pb om,k97 pb om])⟩,Fa⟩
  rw[hr0]at he'
  simp only[sJ]at he'
  subst he'
  obtain⟨xs',hu,hx,r7,o7⟩:=ho
  simp only[aa.tuple.injEq,List.cons.injEq,aa.agg.injEq,aa.bool.injEq,and_true]at hu
  obtain⟨rfl,rfl⟩:=hu
  have A9:=A6.fwd (F7.trans F79) (r7.same (k97 pb om)) o7 A.hg
  refine cI rfl ?_
  simp only[sR,sA,sB,seval,l9]
  refine (dZ A9.row A9.lt A9.en [41]).mono ?_
  rintro u Ha ⟨ho,Fa⟩
  have ea:=Fa.next
  have la:=aA (r9.same (Fa.old _ om om)) x1
  obtain⟨Hb,mb,lb,nb,kb,Fb⟩:=eD (F39.trans Fa) xs x1 x2
  rcases dd hr with⟨e,he,rfl⟩ | ⟨w3,he,hr⟩
  ·rw[he]at ho
   obtain⟨rfl,ra⟩:=ho
   simp only[sR,sA,sB,seval,mb]
   simp only[bG,bH,bg,bI,co,and_true,true_and,List.map_cons,List.map_nil,sA,sB,seval]
   refine⟨⟨_,rfl,fun _=>⟨_,la,by simpa[aeq] using x3⟩⟩,?_⟩
   simp only[sA,sB,seval,fe,lb,aD]
   exact⟨⟨xs,w2,tt,x1,⟨x2,x3⟩,ra.same (kb pb om)⟩,Fb⟩
  ·rw[he]at ho
   obtain⟨rfl,ra⟩:=ho
   simp only[cW,sJ]at hr
   subst hr
   simp only[sR,sA,sB,seval,mb]
   simp only[bG,bH,bg,bI,co,and_true,true_and,List.map_cons,List.map_nil,sA,sB,seval]
   refine⟨⟨_,rfl,fun _=>⟨_,la,by simpa[aeq] using x3⟩⟩,?_⟩
   simp only[sA,sB,seval,fe,lb,aD]
   refine⟨⟨xs,tt,hx.mono fun c hc=>?_,ra.same (kb pb om),(cY he o7).2.2.1⟩,Fb⟩
   have h1:=hc.1
   have h2:=hc.2
   exact⟨⟨om,om⟩,by rw[kb c om,Fa.old c om om,k97 c h2]⟩
structure SA(n pb:Nat)(s:Bs)(f:Nat):Prop where
 rule:∀k,k<=5->lW n pb s f k
 prim:JK n pb s f
 args:JU n pb s f
theorem Ju(n pb:Nat)(s:Bs):∀(f:Nat),f<=1000000->∀f',f'<=f->SA n pb s f'
 | 0,_,f',h=>by
  obtain rfl:f'=0:=om
  exact⟨fun k _ H w g x y orv v r _ _ hr=>by simp[pE]at hr,fun H w g x y orv r _ hr=>by simp[pE]at hr,DK om fun f' h=>absurd h (Nat.not_lt_zero _)⟩
 | f+1,hf,f',h=>by
  have ih:=Ju n pb s f om
  by_cases he:f'<=f
  ·exact ih f' he
  obtain rfl:f'=f+1:=om
  refine⟨fun k hk=>?_,Kz ((ih f rL).rule 5 om) (ih f rL).args,DK hf fun f' h=>(ih f' om).rule 5 om⟩
  cases k with
  | zero=>exact GJ ((ih f rL).rule 0 om) (ih f rL).prim
  | succ k=>exact Nq hk fun f' h=>(ih f' h).rule k om
open Go.Abs Go.Abs.S
abbrev Z9:List aa:=[.int .u8 0,.str [],.int .u8 0,.str [],.int .i64 0,.slice none 0 (.known 0),.slice none 0 (.known 0),.slice none 0 (.known 0),.int .i64 0]
theorem pv.pushZ{n m:Nat}{H:ae}{v:aa}{l:List St}(h:pv n H v l){e:St}{xs:List aa}(hx:ut (In m H.next) H e xs)(hm:n<=m)(hn:n<=H.next)(hv:da v (·<m))(hl:l.length<=1000000) :
  ∃v' H1 H' b lim,bQ 9 136 (H.push (.cells Z9 0 false)) v (pP H 9)=some (v',H1)/\iU 9 v' (.int .i64 (l.length:Int))=some (af b lim (l.length*9))/\bu 9 H1 (af b lim (l.length*9)) (.agg xs)=some H'/\v'.one=true/\pv n H' v' (l++[e])/\n<=b/\H.next<=H1.next/\H1.next=H'.next/\(∀c,c<H.next->da v (c≠·)->H1.get c=H.get c)/\(∀c,c<H.next->da v (c≠·)->c≠b)/\∀c,c<H.next->da v (c≠·)->H'.get c=H.get c:=by
 obtain⟨C,h1,h2,h3⟩:=h
 have hlC:C.length=9*l.length:=h3.len
 obtain⟨v',H1,a1,a2,a3,a4,a5⟩:=h1.pushB (xs:=Z9) rfl rfl om (bytes:=136) om om
 have hb2:=a4 _ h2
 have hb3:=fun c (hc:da v (c≠·))=>a4 _ hc
 rcases a2 with⟨_,_,hk⟩ | ⟨b,low,rfl,q2,q3,q4,q5,q6,q7⟩
 ·omega
 have hbn:n<=b:=by
  rcases hb2 _ _ _ rfl with hb | hb
  ·exact hb.1
  ·exact Nat.le_trans hn hb
 have hR:a6 H1 b (C++Z9):=⟨low,q5,q6⟩
 have hlz:(C++Z9).length=C.length+9:=by simp
 obtain⟨H',m1,r1,n1,k1⟩:=mq hR (n:=(C++Z9).length) rfl (i:=l.length*9) (k:=9) om (xs:=xs) hx.len hx.one (l':=C++xs) (by
  rw[show l.length*9=C.length by omega,List.take_left',List.drop_of_length_le om,List.append_nil]; rfl)
 have hlx:(C++xs).length=(C++Z9).length:=by simp[hx.len]
 have ne:∀c,c<H.next->da v (c≠·)->c≠b:=fun c hc hd=>by
  rcases hb3 c hd _ _ _ rfl with hb | hb
  ·exact hb
  ·have hb':H.next<=b:=hb
   omega
 have k:∀c,In n H.next c->da v (c≠·)->In n H'.next c/\da (aa.slice (some ⟨b,(C++Z9).length,0⟩) (l.length+1) (.open_ 9)) (c≠·):=fun c hc hd=>
  ⟨⟨hc.1,by have:=hc.2; omega⟩,cH (ne c hc.2 hd)⟩
 have fr:∀c,c<H.next->da v (c≠·)->H'.get c=H.get c:=fun c hc hd=>by rw[k1 c (ne c hc hd),a5 c hc hd]
 refine⟨_,H1,H',b,_,a1,NO .i64 om,m1,rfl,⟨C++xs,?_,cH ⟨hbn,(by omega:b<H'.next)⟩,dL.app (dL.sing ?_) ?_⟩,hbn,a3,om,a5,ne,fr⟩
 ·obtain⟨low',g1,g2⟩:=r1
  rw[<- hlx]
  exact .inr ⟨b,low',by simp,by simp[hx.len]; omega,Nat.zero_le _,om,g1,g2,by simp⟩
 ·refine hx.mono fun c hc=>⟨?_,fr c hc.2 ?_⟩
  ·exact k c ⟨Nat.le_trans hm hc.1,hc.2⟩ (hv.mono fun d hd=>by have:=hc.1; omega)
  ·exact hv.mono fun d hd=>by have:=hc.1; omega
 ·exact h3.mono fun c hc=>⟨k c hc.1 hc.2,fr c hc.1.2 hc.2⟩
structure Fs(pb sb:Nat)(H H':ae):Prop where
 next:H.next<=H'.next
 old:∀c,c<H.next->c≠pb->c≠sb->H'.get c=H.get c
theorem Fs.of{pb sb:Nat}{H H':ae}(f:Fp pb H H'):Fs pb sb H H':=⟨f.next,fun c h1 h2 _=>f.old c h1 h2⟩
theorem Fs.trans{pb sb:Nat}{H H' H2:ae}(a:Fs pb sb H H')(b:Fs pb sb H' H2):Fs pb sb H H2:=
 ⟨Nat.le_trans a.next b.next,fun c h1 h2 h3=>by rw[b.old c (SR h1 a.next) h2 h3,a.old c h1 h2 h3]⟩
theorem PA.fws{n pb sb:Nat}{s:Bs}{H H':ae}{w w':Wd}{g g':Nat}{x y x' y':Int}{orv:aa}(h:PA n pb s H w g x y orv)(hs:n<=sb)(f:Fs pb sb H H')(r:a6 H' pb (cO s w' g' x' y' orv))(hw:pm s w')(hg:g'<=200):PA n pb s H' w' g' x' y' orv:=
 ⟨r,h.hpb,Nat.le_trans h.hn f.next,h.or.keep fun c hc hp=>f.old c (SR hc h.hn) hp om,hw,hg⟩
theorem nq{n pb sb:Nat}{s:Bs}{f:Nat}(ihr:lW n pb s f 5){H:ae}{w:Wd}{g:Nat}{x y:Int}{orv:aa}{r:gK Ex}(A:PA n pb s H w g x y orv)(hr:pE s f (.rule 5) g w=some r){l:List aa}(hl:a6 H sb l)(hl9:l.length=9)(hs:n<=sb)(hsb:sb<H.next){i:Nat}(hi:i+4<=9) :
  az Tryz.prog aH 38 [af pb 11 0,af sb 9 i] H fun u H'=>(match r with
   | .ok (e,w')=>u=.bool true/\∃xs,a6 H' sb (l.take i++(xs++l.drop (i+4)))/\lU (In H.next H'.next) H' e xs/\a6 H' pb (cO s w' g x y orv)/\pm s w'
   | .error e=>u=.bool false/\∃w',a6 H' pb (cO s w' g e.1 e.2 orv))/\Fs pb sb H H':=by
 refine aj rfl Rt rfl ?_
 have lo:=A.lor
 have hlt:=A.lt
 have hpn:=A.hpb
 simp only[c38,sA,sB,seval,aF,aZ,lo]
 refine (ihr H w g x y orv orv r A A.or hr).mono ?_
 rintro u H1 ⟨ho,F1⟩
 have e1:=F1.next
 cases r with
 | error e=>
  obtain⟨xs,w',rfl,x1,⟨x2,_⟩,r1⟩:=ho
  obtain⟨H2,m2,r2,n2,k2⟩:=aw H1 [.int .u8 0,.str [],.int .i64 0,.slice none 0 (.known 0)] (n:=4) rfl
  obtain⟨H3,m3,r3,n3,k3⟩:=ak r2 (n:=4) rfl x1 x2
  simp only[sA,sB,seval,bA,bx,m2,m3]
  exact⟨⟨tt,w',r1.same (by rw[k3 _ om,k2 _ om])⟩,om,fun c h1 h2 _=>by rw[k3 c om,k2 c om,F1.old c h1 h2]⟩
 | ok p=>
  obtain⟨e,w'⟩:=p
  obtain⟨xs,rfl,hx,r1,o1⟩:=ho
  obtain⟨H2,m2,r2,n2,k2⟩:=aw H1 [.int .u8 0,.str [],.int .i64 0,.slice none 0 (.known 0)] (n:=4) rfl
  obtain⟨H3,m3,r3,n3,k3⟩:=ak r2 (n:=4) rfl hx.len hx.one
  have l3:=aA r3 hx.len
  obtain⟨H4,m4,r4,n4,k4⟩:=mq (hl.same (H':=H3) (by rw[k3 _ om,k2 _ om,F1.old sb hsb om])) hl9 (i:=i) (k:=4) hi hx.len hx.one rfl
  simp only[sA,sB,seval,bA,bx,m2,m3,l3,aF,m4]
  refine⟨⟨tt,xs,r4,hx.mono fun c hc=>?_,r1.same (by rw[k4 _ om,k3 _ om,k2 _ om]),o1⟩,om,fun c h1 h2 h3=>by rw[k4 c h3,k3 c om,k2 c om,F1.old c h1 h2]⟩
  have h1:=hc.1
  have h2:=hc.2
  exact⟨⟨h1,om⟩,by rw[k4 c om,k3 c om,k2 c om]⟩
def kG(k:Int)(S:Bs)(xs:List aa)(vb ve:aa)(line:Int):List aa:=.int .u8 k::.str S::(xs++[vb,ve,.int .i64 line])
abbrev Zx:List aa:=[.int .u8 0,.str [],.int .i64 0,.slice none 0 (.known 0)]
theorem qG{n pb sb:Nat}{s:Bs}{f:Nat}(ihr:lW n pb s f 5){H:ae}{w:Wd}{g:Nat}{x y:Int}{orv:aa}{k line:Nat}{r:gK (List St)}(A:PA n pb s H w g x y orv)(hr:lj s (pE s f) k line g w=some r)(hl:a6 H sb (kG k [] Zx bJ bJ line))(hs:n<=sb)(hsb:sb<H.next) :
  az Tryz.prog aH 35 [af pb 11 0,af sb 9 0] H fun u H'=>(match r with
   | .ok (l,w')=>u=.bool true/\∃e xs,l=[.mk k w.S e [] [] line]/\a6 H' sb (kG k w.S xs bJ bJ line)/\lU (In H.next H'.next) H' e xs/\a6 H' pb (cO s w' g x y orv)/\pm s w'
   | .error e=>u=.bool false/\∃w',a6 H' pb (cO s w' g e.1 e.2 orv))/\Fs pb sb H H':=by
 refine aj rfl Rw rfl ?_
 unfold lj at hr
 have hlt:=A.lt
 have hpn:=A.hpb
 have l1:au false 1 H (af pb 11 1)=some (.int .u8 (w.k:Int)):=am A.row rfl rfl
 have l2:au false 1 H (af pb 11 2)=some (.str w.S):=am A.row rfl rfl
 by_cases hk:w.k=2
 case neg=>
  have hk':¬(w.k:Int)=2:=om
  rw[if_neg hk]at hr
  simp only[qf,sJ]at hr
  subst hr
  simp only[Sm,sA,sB,seval,aF,aZ,fld0,l1,hk']
  refine (iE A.row 101).mono ?_
  rintro _ H1 ⟨rfl,r1,F1⟩
  simp only[sA,sB,seval]
  exact⟨⟨tt,w,r1⟩,.of F1⟩
 have hk':(w.k:Int)=2:=om
 rw[if_pos hk]at hr
 obtain⟨H1,m1,r1,n1,k1⟩:=cu hl (n:=9) rfl (i:=1) om (x:=.str w.S) rfl (l':=kG k w.S Zx bJ bJ line) rfl
 have F1:Fs pb sb H H1:=⟨om,fun c _ _ h=>k1 c h⟩
 have A1:=A.fws hs F1 (A.row.same (k1 pb om)) A.ok A.hg
 simp only[Sm,sA,sB,seval,aF,aZ,fld0,l1,hk',l2,m1]
 refine (bR A1.row A1.lt A1.en).mono ?_
 rintro u H2 ⟨ho,F2⟩
 have e2:=F2.next
 rcases dd hr with⟨e,he,rfl⟩ | ⟨w1,he,hr⟩
 ·rw[he]at ho
  obtain⟨rfl,r2⟩:=ho
  simp only[sA,sB,seval]
  exact⟨⟨tt,w,r2⟩,F1.trans (.of F2)⟩
 rw[he]at ho
 obtain⟨rfl,r2⟩:=ho
 have A2:=A1.fwd F2 r2 (aW he A.ok om).1 A.hg
 simp only[sA,sB,seval]
 refine (dZ A2.row A2.lt A2.en [61]).mono ?_
 rintro u H3 ⟨ho,F3⟩
 have e3:=F3.next
 have F13:=F2.trans F3
 rcases dd hr with⟨e,he,rfl⟩ | ⟨w2,he,hr⟩
 ·rw[he]at ho
  obtain⟨rfl,r3⟩:=ho
  simp only[sA,sB,seval]
  exact⟨⟨tt,w1,r3⟩,F1.trans (.of F13)⟩
 rw[he]at ho
 obtain⟨rfl,r3⟩:=ho
 have A3:=A2.fwd F3 r3 (cY he A2.ok).2.2.1 A.hg
 have q3:=r1.same (F13.old sb om om)
 obtain⟨r0,hr0⟩:∃r0,pE s f (.rule 5) g w2=some r0:=by
  rcases cP hr with⟨e,he,rfl⟩ | ⟨e1,w3,he,_⟩
  ·exact⟨_,he⟩
  ·exact⟨_,he⟩
 simp only[sA,sB,seval,aF,aZ]
 refine (nq ihr A3 hr0 q3 rfl hs om (i:=2) om).mono ?_
 rintro u H4 ⟨ho,F4⟩
 have e4:=F4.next
 have F04:=(F1.trans (.of F13)).trans F4
 rcases cP hr with⟨e,he,rfl⟩ | ⟨e1,w3,he,hr⟩
 ·rw[hr0]at he
  simp only[sJ]at he
  subst he
  obtain⟨rfl,w',r4⟩:=ho
  simp only[sA,sB,seval]
  exact⟨⟨tt,w',r4⟩,F04⟩
 rw[hr0]at he
 simp only[sJ]at he
 subst he
 obtain⟨rfl,xs,q4,hx,r4,o4⟩:=ho
 have A4:=A3.fws hs F4 r4 o4 A.hg
 simp only[sA,sB,seval]
 refine (dZ A4.row A4.lt A4.en [59]).mono ?_
 rintro u H5 ⟨ho,F5⟩
 rcases dd hr with⟨e,he,rfl⟩ | ⟨w4,he,hr⟩
 ·rw[he]at ho
  obtain⟨rfl,r5⟩:=ho
  simp only[sA,sB,seval]
  exact⟨⟨tt,w3,r5⟩,F04.trans (.of F5)⟩
 rw[he]at ho
 obtain⟨rfl,r5⟩:=ho
 simp only[cW,sJ]at hr
 subst hr
 have e5:=F5.next
 simp only[sA,sB,seval]
 refine⟨⟨tt,e1,xs,rfl,q4.same (F5.old _ om om),hx.mono fun c hc=>?_,r5,(cY he o4).2.2.1⟩,F04.trans (.of F5)⟩
 have h1:=hc.1
 have h2:=hc.2
 exact⟨⟨om,om⟩,F5.old c h2 om⟩
open Go.Abs Go.Abs.S
def Su(pb:Nat)(s:Bs)(g:Nat)(x y:Int)(orv:aa)(H:ae)(r:gK (List St))(u:aa)(H':ae):Prop:=
 (match r with
 | .ok (l,w')=>∃st xs,l=[st]/\u=.tuple [.agg xs,.bool true]/\ut (In H.next H'.next) H' st xs/\a6 H' pb (cO s w' g x y orv)/\pm s w'
 | .error e=>u=.tuple [.agg Z9,.bool false]/\∃w',a6 H' pb (cO s w' g e.1 e.2 orv))/\Fp pb H H'
def JJ(n pb:Nat)(s:Bs)(f:Nat):Prop:=∀(H:ae) (w:Wd) (g:Nat) (x y:Int) (orv:aa) (r:gK (List St)),PA n pb s H w g x y orv->pS s f .stmt g w=some r->az Tryz.prog aH 16 [af pb 11 0] H (Su pb s g x y orv H r)
def Ek(n pb:Nat)(s:Bs)(f:Nat):Prop:=∀(H:ae) (w:Wd) (g:Nat) (x y:Int) (orv:aa) (r:gK (List St)) (sb i:Nat) (l:List aa),PA n pb s H w g x y orv->a6 H sb l->l.length=9->n<=sb->sb<H.next->l[i]?=some bJ->pS s f .body g w=some r ->
  az Tryz.prog aH 37 [af pb 11 0,af sb 9 i] H fun u H'=>(match r with
   | .ok (out,w')=>u=.bool true/\∃v C,a6 H' sb (l.set i v)/\jt (In H.next H'.next) H' 9 v out.length C/\dL (In H.next H'.next) H' out C/\a6 H' pb (cO s w' g x y orv)/\pm s w'
   | .error e=>u=.bool false/\∃w',a6 H' pb (cO s w' g e.1 e.2 orv))/\Fs pb sb H H'
theorem HJ{a b n m i j:Nat}(h:a≠b):gJ .apart [af a n i,af b m j]=some (.bool true):=by
 show (bif Gd (af a n i) (af b m j) then some (aa.bool true) else none)=_
 have:Gd (af a n i) (af b m j)=true:=by
  simp only[Gd,du,af]
  rw[show Nat.beq a b=false by rw[cE]; exact decide_eq_false h]; rfl
 rw[this]; rfl
theorem pv.len{n:Nat}{H:ae}{v:aa}{l:List St}(h:pv n H v l):iT false v=some (.int .i64 (l.length:Int)):=by
 obtain⟨C,h1,_⟩:=h; exact h1.len
theorem pv.aeq{n:Nat}{H:ae}{v:aa}{l:List St}(h:pv n H v l):aeq v v=true:=by
 obtain⟨C,h1,_⟩:=h.sl; exact h1.aeq
theorem Hu{l:List aa}{i:Nat}{x:aa}(h:l[i]?=some x):l.set i x=l:=by
 apply List.ext_getElem?
 intro j
 rw[List.getElem?_set]
 by_cases e:i=j
 ·subst e
  have:=(SC.1 h).1
  rw[if_pos rfl,if_pos this,h]
 ·rw[if_neg e]
theorem Dp{n pb:Nat}{s:Bs}{f:Nat}(hf:f<=1000000)(ihs:∀f',f'<f->JJ n pb s f'):Ek n pb s f:=by
 intro H w g x y orv r sb i l A hl hl9 hs hsb hi hr
 refine aj rfl Ru rfl ?_
 have hlt:=A.lt
 have hpn:=A.hpb
 have hi9:i<9:=by have:=(SC.1 hi).1; omega
 cases f with
 | zero=>simp[pS]at hr
 | succ f=>
 rw[oB]at hr
 simp only[kP]at hr
 simp only[c37,sA,sB,seval]
 refine (dZ A.row hlt A.en [123]).mono ?_
 rintro u H1 ⟨ho,F1⟩
 have e1:=F1.next
 rcases dd hr with⟨e,he,rfl⟩ | ⟨w1,he,hr⟩
 ·rw[he]at ho
  obtain⟨rfl,r1⟩:=ho
  simp only[sA,sB,seval]
  exact⟨⟨tt,w,r1⟩,.of F1⟩
 rw[he]at ho
 obtain⟨rfl,r1⟩:=ho
 have A1:=A.fwd F1 r1 (cY he A.ok).2.2.1 A.hg
 simp only[sA,sB,seval]
 refine cg (fun m (T:cD) H'=>∃out w' v,T 0=af pb 11 0/\T 1=af sb 9 i/\pv H.next H' v out/\out.length+m<=f/\PA n pb s H' w' g x y orv/\a6 H' sb (l.set i v)/\Fs pb sb H H'/\pS s m (.more out) g w'=some r) f
  ⟨[],w1,bJ,by simp only[sA,sB,seval],by simp only[sA,sB,seval],pv.nil _ _,by simp,A1,by
   rw[Hu hi]; exact hl.same (F1.old sb hsb om),.of F1,hr⟩ ?_
 rintro m T H2 ⟨out,w',v,t0,t1,G2,hm,A2,q2,F2,hp⟩
 have e2:=F2.next
 cases m with
 | zero=>simp[pS]at hp
 | succ m=>
 rw[oB]at hp
 simp only[kP]at hp
 have bs:=p9 (.str []) H2 (x:=.str [125]) rfl
 have A3:=A2.push (.cells [.str [125]] 0 false)
 have F3:Fp pb H2 (H2.push (.cells [.str [125]] 0 false)):=mr _
 simp only[sA,sB,seval,t0,t1,bs]
 refine (gT A3.row (my H2 [125]) (by simp)).mono ?_
 rintro _ _ ⟨rfl,rfl⟩
 generalize H2.push (.cells [.str [125]] 0 false)=H3 at *
 have e3:=F3.next
 have F03:=F2.trans (.of F3)
 have q3:=q2.same (F3.old sb om om)
 have G3:pv H.next H3 v out:=G2.keep e3 fun c hc=>F3.old c hc.2 (by have:=hc.1; omega)
 cases hs2:kM w' [[125]] with
 | true=>
  rw[if_pos hs2]at hp
  simp only[sA,sB,seval,t0]
  refine (bR A3.row A3.lt A3.en).mono ?_
  rintro u H4 ⟨ho,F4⟩
  have e4:=F4.next
  rcases dd hp with⟨e,he,rfl⟩ | ⟨w2,he,hp⟩
  ·rw[he]at ho
   obtain⟨rfl,r4⟩:=ho
   simp only[sA,sB,seval]
   exact⟨⟨tt,w',r4⟩,F03.trans (.of F4)⟩
  ·rw[he]at ho
   obtain⟨rfl,r4⟩:=ho
   simp only[cW,sJ]at hp
   subst hp
   have G4:=G3.keep e4 fun c hc=>F4.old c hc.2 (by have:=hc.1; omega)
   obtain⟨C,z1,z2⟩:=G4.sl
   simp only[sA,sB,seval]
   exact⟨⟨tt,v,C,q3.same (F4.old sb om om),z1,z2,r4,(aW he A3.ok (by rw[iC hs2]; omega)).1⟩,F03.trans (.of F4)⟩
 | false=>
 rw[if_neg (by rw[hs2]; simp)]at hp
 obtain⟨r0,hr0⟩:∃r0,pS s m .stmt g w'=some r0:=by
  rcases cP hp with⟨e,he,rfl⟩ | ⟨e1,w2,he,_⟩
  ·exact⟨_,he⟩
  ·exact⟨_,he⟩
 simp only[sA,sB,seval,t0]
 refine (ihs m om H3 w' g x y orv r0 A3 hr0).mono ?_
 rintro u H4 ⟨ho,F4⟩
 have e4:=F4.next
 have F04:=F03.trans (.of F4)
 rcases cP hp with⟨e,he,rfl⟩ | ⟨st',w2,he,hp⟩
 ·rw[hr0]at he
  simp only[sJ]at he
  subst he
  obtain⟨rfl,w2,r4⟩:=ho
  obtain⟨H5,m5,r5,n5,k5⟩:=aw H4 [.int .u8 0,.str [],.int .u8 0,.str [],.int .i64 0,.slice none 0 (.known 0),.slice none 0 (.known 0),.slice none 0 (.known 0),.int .i64 0] (n:=9) rfl
  obtain⟨H6,m6,r6,n6,k6⟩:=ak r5 (n:=9) rfl (xs:=Z9) rfl rfl
  simp only[sA,sB,seval,bA,bx,m5,m6]
  exact⟨⟨tt,w2,r4.same (by rw[k6 _ om,k5 _ om])⟩,om,fun c h1 h2 h3=>by rw[k6 c om,k5 c om,F04.old c h1 h2 h3]⟩
 rw[hr0]at he
 simp only[sJ]at he
 subst he
 obtain⟨st,xs,rfl,rfl,hx,r4,o4⟩:=ho
 obtain⟨H5,m5,r5,n5,k5⟩:=aw H4 [.int .u8 0,.str [],.int .u8 0,.str [],.int .i64 0,.slice none 0 (.known 0),.slice none 0 (.known 0),.slice none 0 (.known 0),.int .i64 0] (n:=9) rfl
 obtain⟨H6,m6,r6,n6,k6⟩:=ak r5 (n:=9) rfl hx.len hx.one
 have k64:∀c,c<H4.next->H6.get c=H4.get c:=fun c hc=>by rw[k6 c om,k5 c om]
 have l6:=aA r6 hx.len
 have F06:Fs pb sb H H6:=F04.trans ⟨om,fun c h1 _ _=>k64 c h1⟩
 have q6:=q3.same (H':=H6) (by rw[k64 sb om,F4.old sb om om])
 have lv:au false 1 H6 (af sb 9 i)=some v:=am q6 (by rw[List.length_set]; exact hl9) (by rw[List.getElem?_set]; simp[hl9,hi9])
 have G6:pv H.next H6 v out:=G3.keep om fun c hc=>by
  have h1:=hc.1
  have h2:=hc.2
  rw[k64 c om,F4.old c h2 om]
 have hx6:ut (In H3.next H6.next) H6 st xs:=hx.mono fun c hc=>⟨⟨hc.1,by have:=hc.2; omega⟩,k64 c hc.2⟩
 have hbs:da v (In H.next H3.next):=by
  obtain⟨C,_,q,_⟩:=G3
  exact q
 have bm:=yb (z:=[.int .u8 0,.str [],.int .u8 0,.str [],.int .i64 0,.slice none 0 (.known 0),.slice none 0 (.known 0),.slice none 0 (.known 0),.int .i64 0]) (xs:=[.int .u8 0,.str [],.int .u8 0,.str [],.int .i64 0,.slice none 0 (.known 0),.slice none 0 (.known 0),.slice none 0 (.known 0),.int .i64 0]) (m:=9) H6 rfl rfl
 obtain⟨v',H7,H8,b,lim,a7,i7,s7,o7,G8,hbn,e67,e78,fr7,neb,fr8⟩:=G6.pushZ hx6 om om (hbs.mono fun c hc=>hc.2) om
 have bsb:da v (sb≠·):=hbs.mono fun c hc=>by have:=hc.1; omega
 have bpb:da v (pb≠·):=hbs.mono fun c hc=>by have:=hc.1; omega
 have nsb:sb≠b:=om
 have npb:pb≠b:=om
 obtain⟨H9,m9,r9,n9,k9⟩:=cu (q6.same (fr8 sb om bsb)) (n:=9) (by rw[List.length_set]; exact hl9) (i:=i) hi9 (x:=v') o7 (l':=l.set i v') (by rw[List.set_set])
 have lvP:au false 1 (H6.push (.cells Z9 0 false)) (af sb 9 i)=some v:=am (q6.same (aI om)) (by rw[List.length_set]; exact hl9) (by rw[List.getElem?_set]; simp[hl9,hi9])
 have lxP:au true 9 (H6.push (.cells Z9 0 false)) (af H4.next 9 0)=some (.agg xs):=aA (r6.same (aI om)) hx.len
 obtain⟨Hr,hHr⟩:∃J,J=H6.push (.cells [] 0 false):=⟨_,rfl⟩
 have fl:mV (.fill H6.next (.lit 1 [.int .u8 0,.str [],.int .u8 0,.str [],.int .i64 0,.slice none 0 (.known 0),.slice none 0 (.known 0),.slice none 0 (.known 0),.int .i64 0] [(0,9)])) Hr [.agg [.int .u8 0,.str [],.int .u8 0,.str [],.int .i64 0,.slice none 0 (.known 0),.slice none 0 (.known 0),.slice none 0 (.known 0),.int .i64 0]]=some (pP H6 9,H6.push (.cells [.int .u8 0,.str [],.int .u8 0,.str [],.int .i64 0,.slice none 0 (.known 0),.slice none 0 (.known 0),.slice none 0 (.known 0),.int .i64 0] 0 false)):=by
  rw[hHr]; exact IK (H:=H6) (len:=1) (z:=Z9) (ofs:=[(0,9)]) (l:=[.agg Z9]) (xs:=Z9) rfl
 have lvR:au false 1 Hr (af sb 9 i)=some v:=by rw[hHr]; exact am (q6.same (aI om)) (by rw[List.length_set]; exact hl9) (by rw[List.getElem?_set]; simp[hl9,hi9])
 have lxR:au true 9 Hr (af H4.next 9 0)=some (.agg xs):=by rw[hHr]; exact aA (r6.same (aI om)) hx.len
 simp only[Z9]at a7 lvP lxP
 have ln:=G6.len
 simp only[sA,sB,seval,bA,bx,m5,m6]
 refine fq ?_
 simp only[aB,cG,aQ,jY,wt,<- hHr]
 simp only[sR,sA,sB,seval,t0,t1,aF,lvR,lxR,ln,fl,a7,i7,s7,m9]
 simp only[bG,bH,bg,bI,co,and_true,true_and,List.map_cons,List.map_nil,sA,sB,seval,t0,t1]
 refine⟨⟨⟨_,rfl,fun _=>⟨_,lvP,G6.aeq⟩⟩,⟨_,rfl,fun _=>⟨_,lxP,by simpa[aeq] using hx.aeqs⟩⟩⟩,?_⟩
 simp only[sA,sB,seval,HJ nsb]
 have F9:Fs pb sb H H9:=⟨om,fun c h1 h2 h3=>by
  rw[k9 c h3,fr8 c om (hbs.mono fun d hd=>by have:=hd.1; omega),F06.old c h1 h2 h3]⟩
 refine⟨m,om,out++[st],w2,v',by simp only[sA,sB,seval,t0],by simp only[sA,sB,seval,t1],G8.keep om fun c hc=>k9 c (by have:=hc.1; omega),by simp; omega,A.fws hs F9 ?_ o4 A.hg,r9,F9,hp⟩
 exact r4.same (by rw[k9 pb om,fr8 pb om bpb,k64 pb om])
open Go.Abs Go.Abs.S
def F0(s:Bs)(pe:NT->Nat->Wd->Option (gK Ex))(rec:NS->Nat->Wd->Option (gK (List St)))(g:Nat)(w:Wd):Option (gK (Ex×List St)):=
 kZ (eF s [40] w) fun w1=>uF (pe (.rule 5) g w1) fun e w2=>kZ (eF s [41] w2) fun w3=>uF (rec .body g w3) fun l w4=>cW (e,l) w4
theorem wD(s:Bs)(pe:NT->Nat->Wd->Option (gK Ex))(rec:NS->Nat->Wd->Option (gK (List St)))(g:Nat)(w:Wd)(f:Ex->List St->Wd->Option (gK (List St))):lO s pe rec g w f=uF (F0 s pe rec g w) fun p w4=>f p.1 p.2 w4:=by
 unfold lO F0
 cases eF s [40] w with
 | error e=>rfl
 | ok w1=>
  simp only[kZ]
  cases pe (.rule 5) g w1 with
  | none=>rfl
  | some o=>
   cases o with
   | error e=>rfl
   | ok p=>
    obtain⟨e,w2⟩:=p
    simp only[uF]
    cases eF s [41] w2 with
    | error e=>rfl
    | ok w3=>
     simp only[kZ]
     cases rec .body g w3 with
     | none=>rfl
     | some o=>
      cases o with
      | error e=>rfl
      | ok p=>obtain⟨l,w4⟩:=p; rfl
theorem qH{n pb sb:Nat}{s:Bs}{f:Nat}(ihr:lW n pb s f 5)(ihb:Ek n pb s f){H:ae}{w:Wd}{g:Nat}{x y:Int}{orv:aa}{k line:Nat}{r:gK (Ex×List St)}(A:PA n pb s H w g x y orv)(hr:F0 s (pE s f) (pS s f) g w=some r)(hl:a6 H sb (kG k [] Zx bJ bJ line))(hs:n<=sb)(hsb:sb<H.next) :
  az Tryz.prog aH 36 [af pb 11 0,af sb 9 0] H fun u H'=>(match r with
   | .ok (p,w')=>u=.bool true/\∃xs v C,a6 H' sb (kG k [] xs v bJ line)/\lU (In H.next H'.next) H' p.1 xs/\jt (In H.next H'.next) H' 9 v p.2.length C/\dL (In H.next H'.next) H' p.2 C/\a6 H' pb (cO s w' g x y orv)/\pm s w'
   | .error e=>u=.bool false/\∃w',a6 H' pb (cO s w' g e.1 e.2 orv))/\Fs pb sb H H':=by
 refine aj rfl Rv rfl ?_
 unfold F0 at hr
 have hlt:=A.lt
 have hpn:=A.hpb
 simp only[c36,sA,sB,seval]
 refine (dZ A.row A.lt A.en [40]).mono ?_
 rintro u H3 ⟨ho,F3⟩
 have e3:=F3.next
 rcases dd hr with⟨e,he,rfl⟩ | ⟨w2,he,hr⟩
 ·rw[he]at ho
  obtain⟨rfl,r3⟩:=ho
  simp only[sA,sB,seval]
  exact⟨⟨tt,w,r3⟩,.of F3⟩
 rw[he]at ho
 obtain⟨rfl,r3⟩:=ho
 have A3:=A.fwd F3 r3 (cY he A.ok).2.2.1 A.hg
 have q3:=hl.same (F3.old sb om om)
 obtain⟨r0,hr0⟩:∃r0,pE s f (.rule 5) g w2=some r0:=by
  rcases cP hr with⟨e,he,rfl⟩ | ⟨e1,w3,he,_⟩
  ·exact⟨_,he⟩
  ·exact⟨_,he⟩
 simp only[sA,sB,seval,aF,aZ]
 refine (nq ihr A3 hr0 q3 rfl hs om (i:=2) om).mono ?_
 rintro u H4 ⟨ho,F4⟩
 have e4:=F4.next
 have F04:Fs pb sb H H4:=(Fs.of F3).trans F4
 rcases cP hr with⟨e,he,rfl⟩ | ⟨e1,w3,he,hr⟩
 ·rw[hr0]at he
  simp only[sJ]at he
  subst he
  obtain⟨rfl,w',r4⟩:=ho
  simp only[sA,sB,seval]
  exact⟨⟨tt,w',r4⟩,F04⟩
 rw[hr0]at he
 simp only[sJ]at he
 subst he
 obtain⟨rfl,xs,q4,hx,r4,o4⟩:=ho
 have q4':a6 H4 sb (kG k [] xs bJ bJ line):=q4
 have A4:=A3.fws hs F4 r4 o4 A.hg
 simp only[sA,sB,seval]
 refine (dZ A4.row A4.lt A4.en [41]).mono ?_
 rintro u H5 ⟨ho,F5⟩
 have e5:=F5.next
 have F05:=F04.trans (.of F5)
 rcases dd hr with⟨e,he,rfl⟩ | ⟨w4,he,hr⟩
 ·rw[he]at ho
  obtain⟨rfl,r5⟩:=ho
  simp only[sA,sB,seval]
  exact⟨⟨tt,w3,r5⟩,F05⟩
 rw[he]at ho
 obtain⟨rfl,r5⟩:=ho
 have A5:=A4.fwd F5 r5 (cY he o4).2.2.1 A.hg
 have q5:=q4'.same (F5.old _ om om)
 obtain⟨r1,hr1⟩:∃r1,pS s f .body g w4=some r1:=by
  rcases cP hr with⟨e,he,rfl⟩ | ⟨e1,w3,he,_⟩
  ·exact⟨_,he⟩
  ·exact⟨_,he⟩
 have l9:(kG (k:Int) [] xs bJ bJ line).length=9:=by simp[kG,hx.len]
 obtain⟨a,b,c,d,rfl⟩:∃a b c d,xs=[a,b,c,d]:=by
  have:=hx.len
  match xs,this with
  | [a,b,c,d],_=>exact⟨a,b,c,d,rfl⟩
 simp only[sA,sB,seval,aF,aZ]
 refine (ihb H5 w4 g x y orv r1 sb 6 _ A5 q5 l9 hs om rfl hr1).mono ?_
 rintro u H6 ⟨ho,F6⟩
 have e6:=F6.next
 have F06:=F05.trans F6
 rcases cP hr with⟨e,he,rfl⟩ | ⟨out,w5,he,hr⟩
 ·rw[hr1]at he
  simp only[sJ]at he
  subst he
  obtain⟨rfl,w',r6⟩:=ho
  simp only[sA,sB,seval]
  exact⟨⟨tt,w',r6⟩,F06⟩
 rw[hr1]at he
 simp only[sJ]at he
 subst he
 obtain⟨rfl,v,C,q6,z1,z2,r6,o6⟩:=ho
 simp only[cW,sJ]at hr
 subst hr
 simp only[sA,sB,seval]
 have km:∀c,In H5.next H6.next c->In H.next H6.next c/\H6.get c=H6.get c:=fun c hc=>⟨⟨by have:=hc.1; omega,hc.2⟩,rfl⟩
 refine⟨⟨tt,[a,b,c,d],v,C,q6,hx.mono fun c hc=>?_,z1.mono km,z2.mono km,r6,o6⟩,F06⟩
 have h1:=hc.1
 have h2:=hc.2
 exact⟨⟨om,om⟩,by rw[F6.old c om om om,F5.old c h2 om]⟩
theorem zS{H:ae}{pb c:Nat}{s:Bs}{w:Wd}{g:Nat}{x y:Int}{orv:aa}(hc:a6 H c [af pb 11 0])(hr:a6 H pb (cO s w ((g+1:Nat):Int) x y orv))(hg:g<=1000):az Tryz.prog aH 3105 [af c 1 0] H fun _ H'=>a6 H' pb (cO s w (g:Int) x y orv)/\H'.next=H.next/\∀k,k≠pb->H'.get k=H.get k:=by
 refine gF rfl Nl rfl ?_
 have lc:au false 1 H (af c 1 0)=some (af pb 11 0):=am hc rfl rfl
 have l7:au false 1 H (af pb 11 7)=some (.int .i64 ((g+1:Nat):Int)):=am hr rfl rfl
 have wk:IntKind.i64.wrap (((g+1:Nat):Int)-1)=(g:Int):=kJ
 obtain⟨H5,m5,r5,n5,k5⟩:=cu hr (n:=11) rfl (i:=7) om (x:=.int .i64 (g:Int)) rfl (l':=cO s w (g:Int) x y orv) rfl
 simp only[MU,sA,sB,seval,lc,aF,aZ,l7,wk,m5]
 exact⟨[],rfl,r5,n5,k5⟩
theorem Qv:aL [.int .u8 0,.str [],.int .u8 0,.str [],.int .i64 0,.slice none 0 (.known 0),.slice none 0 (.known 0),.slice none 0 (.known 0),.int .i64 0] []=some (.agg [.int .u8 0,.str [],.int .u8 0,.str [],.int .i64 0,.slice none 0 (.known 0),.slice none 0 (.known 0),.slice none 0 (.known 0),.int .i64 0]):=_root_.id rfl
theorem Qu(n:Int):aL [.int .u8 0,.str [],.int .u8 0,.str [],.int .i64 0,.slice none 0 (.known 0),.slice none 0 (.known 0),.slice none 0 (.known 0),.int .i64 0] [(8,1,.int .i64 n)]=some (.agg (kG 0 [] Zx bJ bJ n)):=_root_.id rfl
theorem pw{P:Nat->Prop}{H:ae}{k line:Nat}{S:Bs}{e:Ex}{xs:List aa}{vb ve:aa}{Cb Ce:List aa}{body els:List St}(h1:lU P H e xs)(h2:jt P H 9 vb body.length Cb)(h3:dL P H body Cb)(h4:jt P H 9 ve els.length Ce)(h5:dL P H els Ce):ut P H (.mk k S e body els line) (kG k S xs vb ve line):=
 ⟨xs,vb,Cb,ve,Ce,rfl,h1,h2,h3,h4,h5⟩
theorem Kq{n pb:Nat}{s:Bs}{f:Nat}(ihr:lW n pb s f 5)(ihb:Ek n pb s f):JJ n pb s (f+1):=by
 intro H w g x y orv r A hr
 refine gF rfl RL rfl ?_
 rw[oB]at hr
 simp only[kP]at hr
 have hlt:=A.lt
 have hpn:=A.hpb
 have hnn:=A.hn
 obtain⟨H1,m1,r1,n1,k1⟩:=aw H [af pb 11 0] (n:=1) rfl
 obtain⟨H2,m2,r2,n2,k2⟩:=aw H1 [.int .u8 0,.str [],.int .u8 0,.str [],.int .i64 0,.slice none 0 (.known 0),.slice none 0 (.known 0),.slice none 0 (.known 0),.int .i64 0] (n:=9) rfl
 have g90:mL [af pb 11 0] 90=.tuple []:=rfl
 have g91:mL [af pb 11 0] 91=.tuple []:=rfl
 have F2:Fp pb H H2:=⟨om,fun c hc _=>by rw[k2 c om,k1 c om]⟩
 have A2:=A.fwd F2 (A.row.same (by rw[k2 pb om,k1 pb om])) A.ok A.hg
 have c1:a6 H2 H.next [af pb 11 0]:=r1.same (k2 _ om)
 have l1:∀{K:ae},Fp pb H2 K->au false 1 K (af H.next 1 0)=some (af pb 11 0):=fun q=>am (c1.same (q.old _ om om)) rfl rfl
 have l1':=l1 (Fp.refl pb H2)
 have b0:=Qv
 by_cases hg:200<=g
 ·rw[if_pos hg]at hr
  simp only[qf,sJ]at hr
  subst hr
  simp only[Sp,sA,sB,seval,fN,m1,m2,l1']
  refine (vG A2.row hg).mono ?_
  rintro _ H3 ⟨rfl,r3,F3⟩
  obtain⟨H4,m4,r4,n4,k4⟩:=ak (r2.same (F3.old _ om om)) (n:=9) rfl (xs:=Z9) rfl rfl
  have l4:=aA r4 (n:=9) rfl
  have f3:=F3.next
  simp only[sA,sB,seval,b0,m4,g90,g91,eG,gX,l4,im]
  exact⟨⟨tt,w,r3.same (k4 _ om)⟩,om,fun c hc hp=>by rw[k4 c om,F3.old c om hp,F2.old c hc hp]⟩
 rw[if_neg hg]at hr
 simp only[Sp,sW,sL,jA,jc,pu,sB,seval]
 rw[gd]
 simp only[sW,sL,jA,jc,pu,sB,seval,fN,m1,m2,l1']
 refine (vF A2.row hg).mono ?_
 rintro _ H3 ⟨rfl,r3,F3,n3⟩
 have A3:=A2.fwd F3 r3 A.ok om
 have l3:=l1 F3
 have ll:au false 1 H3 (af pb 11 4)=some (.int .i64 (w.line:Int)):=am A3.row rfl rfl
 obtain⟨H4,m4,r4,n4,k4⟩:=aw H3 [.int .u8 0,.str [],.int .u8 0,.str [],.int .i64 0,.slice none 0 (.known 0),.slice none 0 (.known 0),.slice none 0 (.known 0),.int .i64 0] (n:=9) rfl
 obtain⟨H5,m5,r5,n5,k5⟩:=ak r4 (n:=9) rfl (xs:=kG 0 [] Zx bJ bJ w.line) rfl rfl
 have F35:Fp pb H3 H5:=⟨om,fun c hc _=>by rw[k5 c om,k4 c om]⟩
 have A5:=A3.fwd F35 (r3.same (by rw[k5 pb om,k4 pb om])) A.ok om
 have F25:=F3.trans F35
 obtain⟨sb,hsb⟩:∃sb,sb=H3.next:=⟨_,rfl⟩
 rw[<- hsb]at m4 r4 k4 m5 r5 k5
 have bl:=Qu (w.line:Int)
 simp only[sW,sL,jA,jc,pu,sB,seval,g91,xw,l3,aF,aZ,ll,bl,m4,m5]
 rw[gd]
 have l1s:∀{K:ae},Fs pb sb H5 K->au false 1 K (af H.next 1 0)=some (af pb 11 0):=fun q=>am (c1.same (by rw[q.old _ om om om,F25.old _ om om])) rfl rfl
 refine qg (fun (T:cD) H'=>T 1=af H.next 1 0/\T 2=af H1.next 9 0/\T 4=af sb 9 0/\T 90=.tuple []/\T 91=.func (.func 33) [] [af H.next 1 0]/\Fs pb sb H5 H'/\((∃st w' xs,r=.ok ([st],w')/\T 5=.bool true/\a6 H' sb xs/\ut (In H5.next H'.next) H' st xs/\a6 H' pb (cO s w' ((g+1:Nat):Int) x y orv)/\pm s w')∨∃e w',r=.error e/\T 5=.bool false/\a6 H' pb (cO s w' ((g+1:Nat):Int) e.1 e.2 orv))) (dJ _ _) ?_ ?_
 rotate_left
 ·rintro T H6 ⟨t1,t2,t4,t90,t91,F6,⟨st,w',xs,rfl,t5,rx,hx,rp,hw⟩ | ⟨e,w',rfl,t5,rp⟩⟩
  ·have e6:=F6.next
   have lx:=aA rx hx.len
   obtain⟨H7,m7,r7,n7,k7⟩:=ak (H:=H6) (b:=H1.next) (r2.same (by rw[F6.old _ om om om,F25.old _ om om])) (n:=9) rfl hx.len hx.one
   simp only[sA,sB,seval,t1,t2,t4,t5,t90,t91,lx,m7,eG,dm,gX,jZ,iF]
   refine (zS (c1.same (by rw[k7 _ om,F6.old _ om om om,F25.old _ om om])) (rp.same (k7 _ om)) om).mono ?_
   rintro _ H8 ⟨r8,n8,k8⟩
   have l8:=aA (r7.same (k8 _ om)) hx.len
   simp only[sA,sB,seval,t2,l8,im]
   refine⟨⟨st,xs,rfl,tt,hx.mono fun c hc=>?_,r8,hw⟩,om,fun c hc hp=>by rw[k8 c hp,k7 c om,F6.old c om hp om,F25.old c om hp,F2.old c hc hp]⟩
   have h1:=hc.1
   have h2:=hc.2
   exact⟨⟨om,om⟩,by rw[k8 c om,k7 c om]⟩
  ·have e6:=F6.next
   obtain⟨H7,m7,r7,n7,k7⟩:=ak (H:=H6) (b:=H1.next) (r2.same (by rw[F6.old _ om om om,F25.old _ om om])) (n:=9) rfl (xs:=Z9) rfl rfl
   simp only[sA,sB,seval,t1,t2,t4,t5,t90,t91,b0,m7,eG,dm,gX,jZ,iF]
   refine (zS (c1.same (by rw[k7 _ om,F6.old _ om om om,F25.old _ om om])) (rp.same (k7 _ om)) om).mono ?_
   rintro _ H8 ⟨r8,n8,k8⟩
   have l8:=aA (r7.same (k8 _ om)) (n:=9) rfl
   simp only[sA,sB,seval,t2,l8,im]
   exact⟨⟨tt,w',r8⟩,om,fun c hc hp=>by rw[k8 c hp,k7 c om,F6.old c om hp om,F25.old c om hp,F2.old c hc hp]⟩
 have hns:n<=sb:=om
 have l5:=l1s (Fs.of (Fp.refl pb H5))
 simp only[sA,sB,seval,l5]
 refine (ir A5.row [108,101,116]).mono ?_
 rintro _ _ ⟨rfl,rfl⟩
 cases ca:qY w [108,101,116] with
 | true=>
  rw[if_pos ca]at hr
  obtain⟨H6,m6,r6,n6,k6⟩:=cu r5 (n:=9) rfl (i:=0) om (x:=.int .u8 1) rfl (l':=kG (1:Nat) [] Zx bJ bJ w.line) rfl
  have F6:Fs pb sb H5 H6:=⟨om,fun c _ _ h=>k6 c h⟩
  have A6:=A5.fws hns F6 (A5.row.same (k6 pb om)) A.ok om
  have l6:=l1s F6
  simp only[sA,sB,seval,fld0,m6,l6]
  refine (bR A6.row A6.lt A6.en).mono ?_
  rintro u H7 ⟨ho,F7⟩
  have e7:=F7.next
  have F57:=F6.trans (.of F7)
  rcases dd hr with⟨e,he,rfl⟩ | ⟨w1,he,hr⟩
  ·rw[he]at ho
   obtain⟨rfl,r7⟩:=ho
   simp only[sA,sB,seval,g90]
   exact⟨tt,tt,tt,tt,tt,F57,.inr ⟨e,w,rfl,tt,r7⟩⟩
  rw[he]at ho
  obtain⟨rfl,r7⟩:=ho
  have A7:=A6.fwd F7 r7 (aW he A.ok (by rw[kC ca]; omega)).1 om
  have l7:=l1s F57
  simp only[sA,sB,seval,l7]
  refine (qG ihr A7 hr (r6.same (F7.old sb om om)) hns om).mono ?_
  rintro u H8 ⟨ho,F8⟩
  have F58:=F57.trans F8
  cases r with
  | error e=>
   obtain⟨rfl,w',r8⟩:=ho
   simp only[sA,sB,seval,g90]
   exact⟨tt,tt,tt,tt,tt,F58,.inr ⟨e,w',rfl,tt,r8⟩⟩
  | ok p=>
   obtain⟨l,w'⟩:=p
   obtain⟨rfl,e,xs,rfl,q8,hx,r8,o8⟩:=ho
   simp only[sA,sB,seval,g90]
   exact⟨tt,tt,tt,tt,tt,F58,.inl ⟨_,w',_,rfl,tt,q8,pw (hx.mono fun c hc=>⟨⟨by have:=hc.1; omega,hc.2⟩,rfl⟩) (.nil _ _ _) rfl (.nil _ _ _) rfl,r8,o8⟩⟩
 | false=>
 rw[if_neg (by rw[ca]; simp)]at hr
 simp only[sA,sB,seval,l5]
 refine (ir A5.row [115,101,116]).mono ?_
 rintro _ _ ⟨rfl,rfl⟩
 cases cb:qY w [115,101,116] with
 | true=>
  rw[if_pos cb]at hr
  obtain⟨H6,m6,r6,n6,k6⟩:=cu r5 (n:=9) rfl (i:=0) om (x:=.int .u8 2) rfl (l':=kG (2:Nat) [] Zx bJ bJ w.line) rfl
  have F6:Fs pb sb H5 H6:=⟨om,fun c _ _ h=>k6 c h⟩
  have A6:=A5.fws hns F6 (A5.row.same (k6 pb om)) A.ok om
  have l6:=l1s F6
  simp only[sA,sB,seval,fld0,m6,l6]
  refine (bR A6.row A6.lt A6.en).mono ?_
  rintro u H7 ⟨ho,F7⟩
  have e7:=F7.next
  have F57:=F6.trans (.of F7)
  rcases dd hr with⟨e,he,rfl⟩ | ⟨w1,he,hr⟩
  ·rw[he]at ho
   obtain⟨rfl,r7⟩:=ho
   simp only[sA,sB,seval,g90]
   exact⟨tt,tt,tt,tt,tt,F57,.inr ⟨e,w,rfl,tt,r7⟩⟩
  rw[he]at ho
  obtain⟨rfl,r7⟩:=ho
  have A7:=A6.fwd F7 r7 (aW he A.ok (by rw[kC cb]; omega)).1 om
  have l7:=l1s F57
  simp only[sA,sB,seval,l7]
  refine (qG ihr A7 hr (r6.same (F7.old sb om om)) hns om).mono ?_
  rintro u H8 ⟨ho,F8⟩
  have F58:=F57.trans F8
  cases r with
  | error e=>
   obtain⟨rfl,w',r8⟩:=ho
   simp only[sA,sB,seval,g90]
   exact⟨tt,tt,tt,tt,tt,F58,.inr ⟨e,w',rfl,tt,r8⟩⟩
  | ok p=>
   obtain⟨l,w'⟩:=p
   obtain⟨rfl,e,xs,rfl,q8,hx,r8,o8⟩:=ho
   simp only[sA,sB,seval,g90]
   exact⟨tt,tt,tt,tt,tt,F58,.inl ⟨_,w',_,rfl,tt,q8,pw (hx.mono fun c hc=>⟨⟨by have:=hc.1; omega,hc.2⟩,rfl⟩) (.nil _ _ _) rfl (.nil _ _ _) rfl,r8,o8⟩⟩
 | false=>
 rw[if_neg (by rw[cb]; simp)]at hr
 simp only[sA,sB,seval,l5]
 refine (ir A5.row [105,102]).mono ?_
 rintro _ _ ⟨rfl,rfl⟩
 cases cc:qY w [105,102] with
 | true=>
  rw[if_pos cc]at hr
  obtain⟨H6,m6,r6,n6,k6⟩:=cu r5 (n:=9) rfl (i:=0) om (x:=.int .u8 3) rfl (l':=kG (3:Nat) [] Zx bJ bJ w.line) rfl
  have F6:Fs pb sb H5 H6:=⟨om,fun c _ _ h=>k6 c h⟩
  have A6:=A5.fws hns F6 (A5.row.same (k6 pb om)) A.ok om
  have l6:=l1s F6
  simp only[sA,sB,seval,fld0,m6,l6]
  refine (bR A6.row A6.lt A6.en).mono ?_
  rintro u H7 ⟨ho,F7⟩
  have e7:=F7.next
  have F57:=F6.trans (.of F7)
  rcases dd hr with⟨e,he,rfl⟩ | ⟨w1,he,hr⟩
  ·rw[he]at ho
   obtain⟨rfl,r7⟩:=ho
   simp only[sA,sB,seval,g90]
   exact⟨tt,tt,tt,tt,tt,F57,.inr ⟨e,w,rfl,tt,r7⟩⟩
  rw[he]at ho
  obtain⟨rfl,r7⟩:=ho
  have A7:=A6.fwd F7 r7 (aW he A.ok (by rw[kC cc]; omega)).1 om
  have l7:=l1s F57
  rw[wD]at hr
  obtain⟨r0,hr0⟩:∃r0,F0 s (pE s f) (pS s f) (g+1) w1=some r0:=by
   rcases cP hr with⟨e,he,rfl⟩ | ⟨e1,w3,he,_⟩
   ·exact⟨_,he⟩
   ·exact⟨_,he⟩
  simp only[sA,sB,seval,l7]
  refine (qH ihr ihb A7 hr0 (r6.same (F7.old sb om om)) hns om).mono ?_
  rintro u H8 ⟨ho,F8⟩
  have e8:=F8.next
  have F58:=F57.trans F8
  rcases cP hr with⟨e,he,rfl⟩ | ⟨⟨e1,body⟩,w2,he,hr⟩
  ·rw[hr0]at he
   simp only[sJ]at he
   subst he
   obtain⟨rfl,w',r8⟩:=ho
   simp only[sA,sB,seval,g90]
   exact⟨tt,tt,tt,tt,tt,F58,.inr ⟨e,w',rfl,tt,r8⟩⟩
  rw[hr0]at he
  simp only[sJ]at he
  subst he
  obtain⟨rfl,xs,v,C,q8,hx,z1,z2,r8,o8⟩:=ho
  simp only at hx z1 z2 hr
  have km:∀c,In H7.next H8.next c->In H5.next H8.next c/\H8.get c=H8.get c:=fun c hc=>⟨⟨by have:=hc.1; omega,hc.2⟩,rfl⟩
  have hx5:=hx.mono km
  have z15:=z1.mono km
  have z25:=z2.mono km
  have A8:=A7.fws hns F8 r8 o8 om
  have l8:=l1s F58
  simp only[sA,sB,seval,l8]
  refine (ir A8.row [101,108,115,101]).mono ?_
  rintro _ _ ⟨rfl,rfl⟩
  cases ce:qY w2 [101,108,115,101] with
  | false=>
   rw[if_neg (by rw[ce]; simp)]at hr
   simp only[cW,sJ]at hr
   subst hr
   simp only[sA,sB,seval,g90]
   exact⟨tt,tt,tt,tt,tt,F58,.inl ⟨_,w2,_,rfl,tt,q8,pw hx5 z15 z25 (.nil _ _ _) rfl,r8,o8⟩⟩
  | true=>
  rw[if_pos ce]at hr
  simp only[sA,sB,seval,l8]
  refine (bR A8.row A8.lt A8.en).mono ?_
  rintro u H9 ⟨ho,F9⟩
  have e9:=F9.next
  have F59:=F58.trans (.of F9)
  rcases dd hr with⟨e,he,rfl⟩ | ⟨w3,he,hr⟩
  ·rw[he]at ho
   obtain⟨rfl,r9⟩:=ho
   simp only[sA,sB,seval,g90]
   exact⟨tt,tt,tt,tt,tt,F59,.inr ⟨e,w2,rfl,tt,r9⟩⟩
  rw[he]at ho
  obtain⟨rfl,r9⟩:=ho
  have A9:=A8.fwd F9 r9 (aW he o8 (by rw[kC ce]; omega)).1 om
  have l9:=l1s F59
  obtain⟨r1,hr1⟩:∃r1,pS s f .body (g+1) w3=some r1:=by
   rcases cP hr with⟨e,he,rfl⟩ | ⟨e1,w3,he,_⟩
   ·exact⟨_,he⟩
   ·exact⟨_,he⟩
  obtain⟨a,b,c,d,rfl⟩:∃a b c d,xs=[a,b,c,d]:=by
   have:=hx.len
   match xs,this with
   | [a,b,c,d],_=>exact⟨a,b,c,d,rfl⟩
  simp only[sA,sB,seval,l9,aZ]
  refine (ihb H9 w3 (g+1) x y orv r1 sb 7 _ A9 (q8.same (F9.old sb om om)) rfl hns om rfl hr1).mono ?_
  rintro u Ha ⟨ho,Fa⟩
  have ea:=Fa.next
  have F5a:=F59.trans Fa
  rcases cP hr with⟨e,he,rfl⟩ | ⟨els,w4,he,hr⟩
  ·rw[hr1]at he
   simp only[sJ]at he
   subst he
   obtain⟨rfl,w',ra⟩:=ho
   simp only[sA,sB,seval,g90]
   exact⟨tt,tt,tt,tt,tt,F5a,.inr ⟨e,w',rfl,tt,ra⟩⟩
  rw[hr1]at he
  simp only[sJ]at he
  subst he
  obtain⟨rfl,v2,C2,qa,y1,y2,ra,oa⟩:=ho
  simp only[cW,sJ]at hr
  subst hr
  have kn:∀c,In H7.next H8.next c->In H5.next Ha.next c/\Ha.get c=H8.get c:=fun c hc=>by
   have h1:=hc.1
   have h2:=hc.2
   exact⟨⟨om,om⟩,by rw[Fa.old c om om om,F9.old c h2 om]⟩
  have kb:∀c,In H9.next Ha.next c->In H5.next Ha.next c/\Ha.get c=Ha.get c:=fun c hc=>⟨⟨by have:=hc.1; omega,hc.2⟩,rfl⟩
  simp only[sA,sB,seval,g90]
  exact⟨tt,tt,tt,tt,tt,F5a,.inl ⟨_,w4,kG (3:Nat) [] [a,b,c,d] v v2 w.line,rfl,tt,qa,pw (hx.mono kn) (z1.mono kn) (z2.mono kn) (y1.mono kb) (y2.mono kb),ra,oa⟩⟩
 | false=>
 rw[if_neg (by rw[cc]; simp)]at hr
 simp only[sA,sB,seval,l5]
 refine (ir A5.row [119,104,105,108,101]).mono ?_
 rintro _ _ ⟨rfl,rfl⟩
 cases cd:qY w [119,104,105,108,101] with
 | true=>
  rw[if_pos cd]at hr
  obtain⟨H6,m6,r6,n6,k6⟩:=cu r5 (n:=9) rfl (i:=0) om (x:=.int .u8 4) rfl (l':=kG (4:Nat) [] Zx bJ bJ w.line) rfl
  have F6:Fs pb sb H5 H6:=⟨om,fun c _ _ h=>k6 c h⟩
  have A6:=A5.fws hns F6 (A5.row.same (k6 pb om)) A.ok om
  have l6:=l1s F6
  simp only[sA,sB,seval,fld0,m6,l6]
  refine (bR A6.row A6.lt A6.en).mono ?_
  rintro u H7 ⟨ho,F7⟩
  have e7:=F7.next
  have F57:=F6.trans (.of F7)
  rcases dd hr with⟨e,he,rfl⟩ | ⟨w1,he,hr⟩
  ·rw[he]at ho
   obtain⟨rfl,r7⟩:=ho
   simp only[sA,sB,seval,g90]
   exact⟨tt,tt,tt,tt,tt,F57,.inr ⟨e,w,rfl,tt,r7⟩⟩
  rw[he]at ho
  obtain⟨rfl,r7⟩:=ho
  have A7:=A6.fwd F7 r7 (aW he A.ok (by rw[kC cd]; omega)).1 om
  have l7:=l1s F57
  rw[wD]at hr
  obtain⟨r0,hr0⟩:∃r0,F0 s (pE s f) (pS s f) (g+1) w1=some r0:=by
   rcases cP hr with⟨e,he,rfl⟩ | ⟨e1,w3,he,_⟩
   ·exact⟨_,he⟩
   ·exact⟨_,he⟩
  simp only[sA,sB,seval,l7]
  refine (qH ihr ihb A7 hr0 (r6.same (F7.old sb om om)) hns om).mono ?_
  rintro u H8 ⟨ho,F8⟩
  have e8:=F8.next
  have F58:=F57.trans F8
  rcases cP hr with⟨e,he,rfl⟩ | ⟨⟨e1,body⟩,w2,he,hr⟩
  ·rw[hr0]at he
   simp only[sJ]at he
   subst he
   obtain⟨rfl,w',r8⟩:=ho
   simp only[sA,sB,seval,g90]
   exact⟨tt,tt,tt,tt,tt,F58,.inr ⟨e,w',rfl,tt,r8⟩⟩
  rw[hr0]at he
  simp only[sJ]at he
  subst he
  obtain⟨rfl,xs,v,C,q8,hx,z1,z2,r8,o8⟩:=ho
  simp only at hx z1 z2 hr
  have km:∀c,In H7.next H8.next c->In H5.next H8.next c/\H8.get c=H8.get c:=fun c hc=>⟨⟨by have:=hc.1; omega,hc.2⟩,rfl⟩
  have hx5:=hx.mono km
  have z15:=z1.mono km
  have z25:=z2.mono km
  simp only[cW,sJ]at hr
  subst hr
  simp only[sA,sB,seval,g90]
  exact⟨tt,tt,tt,tt,tt,F58,.inl ⟨_,w2,_,rfl,tt,q8,pw hx5 z15 z25 (.nil _ _ _) rfl,r8,o8⟩⟩
 | false=>
 rw[if_neg (by rw[cd]; simp)]at hr
 simp only[sA,sB,seval,l5]
 refine (ir A5.row [114,101,116,117,114,110]).mono ?_
 rintro _ _ ⟨rfl,rfl⟩
 cases c5:qY w [114,101,116,117,114,110] with
 | true=>
  rw[if_pos c5]at hr
  obtain⟨H6,m6,r6,n6,k6⟩:=cu r5 (n:=9) rfl (i:=0) om (x:=.int .u8 5) rfl (l':=kG (5:Nat) [] Zx bJ bJ w.line) rfl
  have F6:Fs pb sb H5 H6:=⟨om,fun c _ _ h=>k6 c h⟩
  have A6:=A5.fws hns F6 (A5.row.same (k6 pb om)) A.ok om
  have l6:=l1s F6
  simp only[sA,sB,seval,fld0,m6,l6]
  refine (bR A6.row A6.lt A6.en).mono ?_
  rintro u H7 ⟨ho,F7⟩
  have e7:=F7.next
  have F57:=F6.trans (.of F7)
  rcases dd hr with⟨e,he,rfl⟩ | ⟨w1,he,hr⟩
  ·rw[he]at ho
   obtain⟨rfl,r7⟩:=ho
   simp only[sA,sB,seval,g90]
   exact⟨tt,tt,tt,tt,tt,F57,.inr ⟨e,w,rfl,tt,r7⟩⟩
  rw[he]at ho
  obtain⟨rfl,r7⟩:=ho
  have A7:=A6.fwd F7 r7 (aW he A.ok (by rw[kC c5]; omega)).1 om
  have l7:=l1s F57
  obtain⟨r0,hr0⟩:∃r0,pE s f (.rule 5) (g+1) w1=some r0:=by
   rcases cP hr with⟨e,he,rfl⟩ | ⟨e1,w3,he,_⟩
   ·exact⟨_,he⟩
   ·exact⟨_,he⟩
  simp only[sA,sB,seval,l7,aZ]
  refine (nq ihr A7 hr0 (r6.same (F7.old sb om om)) rfl hns om (i:=2) om).mono ?_
  rintro u H8 ⟨ho,F8⟩
  have e8:=F8.next
  have F58:=F57.trans F8
  rcases cP hr with⟨e,he,rfl⟩ | ⟨e1,w2,he,hr⟩
  ·rw[hr0]at he
   simp only[sJ]at he
   subst he
   obtain⟨rfl,w',r8⟩:=ho
   simp only[sA,sB,seval,g90]
   exact⟨tt,tt,tt,tt,tt,F58,.inr ⟨e,w',rfl,tt,r8⟩⟩
  rw[hr0]at he
  simp only[sJ]at he
  subst he
  obtain⟨rfl,xs,q8,hx,r8,o8⟩:=ho
  have q8':a6 H8 sb (kG (5:Nat) [] xs bJ bJ w.line):=q8
  have A8:=A7.fws hns F8 r8 o8 om
  have l8:=l1s F58
  simp only[sA,sB,seval,l8]
  refine (dZ A8.row A8.lt A8.en [59]).mono ?_
  rintro u H9 ⟨ho,F9⟩
  have F59:=F58.trans (.of F9)
  rcases dd hr with⟨e,he,rfl⟩ | ⟨w3,he,hr⟩
  ·rw[he]at ho
   obtain⟨rfl,r9⟩:=ho
   simp only[sA,sB,seval,g90]
   exact⟨tt,tt,tt,tt,tt,F59,.inr ⟨e,w2,rfl,tt,r9⟩⟩
  rw[he]at ho
  obtain⟨rfl,r9⟩:=ho
  simp only[cW,sJ]at hr
  subst hr
  have e9:=F9.next
  simp only[sA,sB,seval,g90]
  refine⟨tt,tt,tt,tt,tt,F59,.inl ⟨_,w3,_,rfl,tt,q8'.same (F9.old sb om om),pw (hx.mono fun c hc=>?_) (.nil _ _ _) rfl (.nil _ _ _) rfl,r9,(cY he o8).2.2.1⟩⟩
  have h1:=hc.1
  have h2:=hc.2
  exact⟨⟨om,om⟩,F9.old c h2 om⟩
 | false=>
 rw[if_neg (by rw[c5]; simp)]at hr
 simp only[qf,sJ]at hr
 subst hr
 simp only[sA,sB,seval,l5]
 refine (iE A5.row 101).mono ?_
 rintro _ H6 ⟨rfl,r6,F6⟩
 simp only[sA,sB,seval,g90]
 exact⟨tt,tt,tt,tt,tt,.of F6,.inr ⟨_,w,rfl,tt,r6⟩⟩
structure Sz(n pb:Nat)(s:Bs)(f:Nat):Prop where
 stmt:JJ n pb s f
 body:Ek n pb s f
theorem DW(n pb:Nat)(s:Bs):∀(f:Nat),f<=1000000->∀f',f'<=f->Sz n pb s f'
 | 0,_,f',h=>by
  obtain rfl:f'=0:=om
  exact⟨fun H w g x y orv r _ hr=>by simp[pS]at hr,Dp om fun f' h=>absurd h (Nat.not_lt_zero _)⟩
 | f+1,hf,f',h=>by
  have ih:=DW n pb s f om
  by_cases he:f'<=f
  ·exact ih f' he
  obtain rfl:f'=f+1:=om
  exact⟨Kq ((Ju n pb s f om f rL).rule 5 om) (ih f rL).body,Dp hf fun f' h=>(ih f' om).stmt⟩
open Go.Abs Go.Abs.S
noncomputable section
def c17:bY:=⟨9,zq [zo 2 (.mv (.c (.bool false)))] (zq [zo 4 (.build [zI 0] []),zo 5 (.box (.t 4)),zm 3 5] (zq [zm 6 3,zm 7 0,zx 8 41 [.t 6,.t 7,zi 1],zm 2 8] .ret)),[.t 2]⟩
theorem RJ:cN Tryz.prog 17=some c17:=by kernel_rfl
def c41:bY:=⟨21,zq [zo 6 (.mv (.c (.bool false)))] (.seq (zq [zm 8 1,zh 9 8,zo 10 (.mv (zi 0))] (.block 0 (.loop (zq [zb 11 .lss 10 9] (.seq (.cond (.t 11) .skip (.exit 0)) (.seq (.block 1 (zq [zm 12 10,zm 7 12] (zq [zm 13 0,zm 14 1,zm 15 7,zo 16 (.idxA 9 (.t 14) (.t 15)),zm 17 2,zx 18 72 [.t 13,.t 16,.t 17],zo 19 (.un .not (.t 18))] (.cond (.t 19) (zq [zo 6 (.mv (.c (.bool false)))] .ret) .skip)))) (.reg [zk 20 .add 10 1,zm 10 20]))))))) (zq [zo 6 (.mv (.c (.bool true)))] .ret)),[.t 6]⟩
theorem Rq:cN Tryz.prog 41=some c41:=by kernel_rfl
def c72:bY:=⟨112,zq [zo 6 (.mv (.c (.bool false)))] (zr [zm 7 0,zm 8 2,zx 9 118 [.t 7,.t 8],zo 10 (.un .not (.t 9))] 10 (zq [zo 6 (.mv (.c (.bool false)))] .ret) .skip (.seq (zq [zm 11 1,zc 12 11,zf 13 0 12,zl 14 13] (.block 0 (zr [zo 16 (.bin .eql (.t 14) (zu 1)),zm 15 16] 15 .skip (.reg [zo 17 (.bin .eql (.t 14) (zu 2)),zm 15 17]) (.cond (.t 15) (zq [zm 18 1,zc 19 18,zf 20 1 19,zl 21 20,zx 22 119 [.t 21],zo 23 (.un .not (.t 22)),zm 24 23,zg 25 (.mv (.t 1)) 24 false,zg 26 (.nilChk (.t 25)) 24 false,zg 27 (.fieldA 6 (.t 26)) 24 false,zg 28 (.load false 1 (.t 27)) 24 false,zg 29 (.len false (.t 28)) 24 false,zg 30 (.bin .gtr (.t 29) (zi 0)) 24 false,zo 31 (.pick (.t 24) (.c (.bool true)) (.t 30)),zm 32 31,zg 33 (.mv (.t 1)) 32 false,zg 34 (.nilChk (.t 33)) 32 false,zg 35 (.fieldA 7 (.t 34)) 32 false,zg 36 (.load false 1 (.t 35)) 32 false,zg 37 (.len false (.t 36)) 32 false,zg 38 (.bin .gtr (.t 37) (zi 0)) 32 false,zo 39 (.pick (.t 32) (.c (.bool true)) (.t 38))] (.cond (.t 39) (zq [zo 6 (.mv (.c (.bool false)))] .ret) .skip)) (zq [zo 41 (.bin .eql (.t 14) (zu 3)),zm 40 41] (.cond (.t 40) (zq [zm 42 1,zc 43 42,zf 44 1 43,zl 45 44,zo 46 (.bin .neq (.t 45) (.c (.str [])))] (.cond (.t 46) (zq [zo 6 (.mv (.c (.bool false)))] .ret) .skip)) (zq [zo 48 (.bin .eql (.t 14) (zu 4)),zm 47 48] (.cond (.t 47) (zq [zm 49 1,zc 50 49,zf 51 1 50,zl 52 51,zo 53 (.bin .neq (.t 52) (.c (.str []))),zm 54 53,zg 55 (.mv (.t 1)) 54 false,zg 56 (.nilChk (.t 55)) 54 false,zg 57 (.fieldA 7 (.t 56)) 54 false,zg 58 (.load false 1 (.t 57)) 54 false,zg 59 (.len false (.t 58)) 54 false,zg 60 (.bin .gtr (.t 59) (zi 0)) 54 false,zo 61 (.pick (.t 54) (.c (.bool true)) (.t 60))] (.cond (.t 61) (zq [zo 6 (.mv (.c (.bool false)))] .ret) .skip)) (zq [zo 63 (.bin .eql (.t 14) (zu 5)),zm 62 63] (.cond (.t 62) (zq [zm 64 1,zc 65 64,zf 66 1 65,zl 67 66,zo 68 (.bin .neq (.t 67) (.c (.str []))),zm 69 68,zg 70 (.mv (.t 1)) 69 false,zg 71 (.nilChk (.t 70)) 69 false,zg 72 (.fieldA 6 (.t 71)) 69 false,zg 73 (.load false 1 (.t 72)) 69 false,zg 74 (.len false (.t 73)) 69 false,zg 75 (.bin .gtr (.t 74) (zi 0)) 69 false,zo 76 (.pick (.t 69) (.c (.bool true)) (.t 75)),zm 77 76,zg 78 (.mv (.t 1)) 77 false,zg 79 (.nilChk (.t 78)) 77 false,zg 80 (.fieldA 7 (.t 79)) 77 false,zg 81 (.load false 1 (.t 80)) 77 false,zg 82 (.len false (.t 81)) 77 false,zg 83 (.bin .gtr (.t 82) (zi 0)) 77 false,zo 84 (.pick (.t 77) (.c (.bool true)) (.t 83))] (.cond (.t 84) (zq [zo 6 (.mv (.c (.bool false)))] .ret) .skip)) (zq [zo 6 (.mv (.c (.bool false)))] .ret))))))))))) (zq [zm 85 0,zm 86 1,zc 87 86,zf 88 2 87,zm 89 2,zk 90 .add 89 1,zx 91 120 [.t 85,.t 88,.t 90],zm 92 91,zg 93 (.mv (.t 0)) 92 true,zg 94 (.mv (.t 1)) 92 true,zg 95 (.nilChk (.t 94)) 92 true,zg 96 (.fieldA 6 (.t 95)) 92 true,zg 97 (.load false 1 (.t 96)) 92 true,zg 98 (.mv (.t 2)) 92 true,zg 99 (.bin .add (.t 98) (zi 1)) 92 true,zg 100 (.call 41 [.t 93,.t 97,.t 99]) 92 true,zo 101 (.pick (.t 92) (.t 100) (.c (.bool false))),zm 102 101,zg 103 (.mv (.t 0)) 102 true,zg 104 (.mv (.t 1)) 102 true,zg 105 (.nilChk (.t 104)) 102 true,zg 106 (.fieldA 7 (.t 105)) 102 true,zg 107 (.load false 1 (.t 106)) 102 true,zg 108 (.mv (.t 2)) 102 true,zg 109 (.bin .add (.t 108) (zi 1)) 102 true,zg 110 (.call 41 [.t 103,.t 107,.t 109]) 102 true,zo 111 (.pick (.t 102) (.t 110) (.c (.bool false))),zm 6 111] .ret))),[.t 6]⟩
theorem Q2:cN Tryz.prog 72=some c72:=by kernel_rfl
def LC:bY:=⟨21,zq [zo 4 (.mv (.c (.bool false)))] (zq [zm 5 0,zc 6 5,zf 7 0 6,zl 8 7,zk 9 .add 8 1,zc 10 5,zf 11 0 10,zs 11 9] (zq [zm 12 0,zc 13 12,zf 14 0 13,zl 15 14,zk 16 .leq 15 1000,zm 17 16,zg 18 (.mv (.t 1)) 17 true,zg 19 (.bin .leq (.t 18) (zi 40)) 17 true,zo 20 (.pick (.t 17) (.t 19) (.c (.bool false))),zm 4 20] .ret)),[.t 4]⟩
theorem Ph:cN Tryz.prog 118=some LC:=by kernel_rfl
def Ql:bY:=⟨24,zq [zo 2 (.mv (.c (.bool false)))] (zq [zm 6 0,zx 7 32 [.t 6,zi 0],zm 5 7,ze 8 0 5,ze 9 1 5,zo 3 (.new [zU 0,.str [],zI 0,zI 0,zI 0,zI 0]),zo 4 (.new [zI 0,zI 0]),zp (.store 6 (.t 3) (.t 8)),zp (.store 2 (.t 4) (.t 9))] (zq [zf 10 0 4,zl 11 10,zk 12 .eql 11 0,zm 13 12,zg 14 (.fieldA 0 (.t 3)) 13 true,zg 15 (.load false 1 (.t 14)) 13 true,zg 16 (.bin .eql (.t 15) (zu 2)) 13 true,zo 17 (.pick (.t 13) (.t 16) (.c (.bool false))),zm 18 17,zg 19 (.fieldA 1 (.t 3)) 18 true,zg 20 (.load false 1 (.t 19)) 18 true,zg 21 (.mv (.t 0)) 18 true,zg 22 (.bin .eql (.t 20) (.t 21)) 18 true,zo 23 (.pick (.t 18) (.t 22) (.c (.bool false))),zm 2 23] .ret)),[.t 2]⟩
theorem Pg:cN Tryz.prog 119=some Ql:=by kernel_rfl
def Qk:bY:=⟨115,zq [zo 6 (.mv (.c (.bool false)))] (zr [zm 8 0,zm 9 2,zx 10 118 [.t 8,.t 9],zo 11 (.un .not (.t 10))] 11 (zq [zo 6 (.mv (.c (.bool false)))] .ret) .skip (.seq (zq [zm 12 1,zc 13 12,zf 14 0 13,zl 15 14] (.block 0 (zq [zo 17 (.bin .eql (.t 15) (zu 1)),zm 16 17] (.cond (.t 16) (zq [zm 18 1,zc 19 18,zf 20 2 19,zl 21 20,zk 22 .geq 21 0,zm 23 22,zg 24 (.mv (.t 1)) 23 true,zg 25 (.nilChk (.t 24)) 23 true,zg 26 (.fieldA 1 (.t 25)) 23 true,zg 27 (.load false 1 (.t 26)) 23 true,zg 28 (.bin .eql (.t 27) (.c (.str []))) 23 true,zo 29 (.pick (.t 23) (.t 28) (.c (.bool false))),zm 30 29,zg 31 (.mv (.t 1)) 30 true,zg 32 (.nilChk (.t 31)) 30 true,zg 33 (.fieldA 3 (.t 32)) 30 true,zg 34 (.load false 1 (.t 33)) 30 true,zg 35 (.len false (.t 34)) 30 true,zg 36 (.bin .eql (.t 35) (zi 0)) 30 true,zo 37 (.pick (.t 30) (.t 36) (.c (.bool false))),zm 6 37] .ret) (zq [zo 39 (.bin .eql (.t 15) (zu 2)),zm 38 39] (.cond (.t 38) (zq [zm 40 1,zc 41 40,zf 42 2 41,zl 43 42,zk 44 .eql 43 0,zm 45 44,zg 46 (.mv (.t 1)) 45 true,zg 47 (.nilChk (.t 46)) 45 true,zg 48 (.fieldA 1 (.t 47)) 45 true,zg 49 (.load false 1 (.t 48)) 45 true,zg 50 (.call 119 [.t 49]) 45 true,zo 51 (.pick (.t 45) (.t 50) (.c (.bool false))),zm 52 51,zg 53 (.mv (.t 1)) 52 true,zg 54 (.nilChk (.t 53)) 52 true,zg 55 (.fieldA 3 (.t 54)) 52 true,zg 56 (.load false 1 (.t 55)) 52 true,zg 57 (.len false (.t 56)) 52 true,zg 58 (.bin .eql (.t 57) (zi 0)) 52 true,zo 59 (.pick (.t 52) (.t 58) (.c (.bool false))),zm 6 59] .ret) (zq [zo 61 (.bin .eql (.t 15) (zu 3)),zm 60 61] (.cond (.t 60) (zq [zm 62 1,zc 63 62,zf 64 2 63,zl 65 64,zk 66 .neq 65 0,zm 67 66,zg 68 (.mv (.t 1)) 67 false,zg 69 (.nilChk (.t 68)) 67 false,zg 70 (.fieldA 1 (.t 69)) 67 false,zg 71 (.load false 1 (.t 70)) 67 false,zg 72 (.mv (.t 1)) 67 false,zg 73 (.nilChk (.t 72)) 67 false,zg 74 (.fieldA 3 (.t 73)) 67 false,zg 75 (.load false 1 (.t 74)) 67 false,zg 76 (.len false (.t 75)) 67 false,zg 77 (.call 138 [.t 71,.t 76]) 67 false,zg 78 (.un .not (.t 77)) 67 false,zo 79 (.pick (.t 67) (.c (.bool true)) (.t 78))] (.cond (.t 79) (zq [zo 6 (.mv (.c (.bool false)))] .ret) .skip)) (zq [zo 81 (.bin .eql (.t 15) (zu 4)),zm 80 81] (.cond (.t 80) (zq [zm 82 1,zc 83 82,zf 84 2 83,zl 85 84,zk 86 .neq 85 0,zm 87 86,zg 88 (.mv (.t 1)) 87 false,zg 89 (.nilChk (.t 88)) 87 false,zg 90 (.fieldA 1 (.t 89)) 87 false,zg 91 (.load false 1 (.t 90)) 87 false,zg 92 (.call 119 [.t 91]) 87 false,zg 93 (.un .not (.t 92)) 87 false,zo 94 (.pick (.t 87) (.c (.bool true)) (.t 93))] (.cond (.t 94) (zq [zo 6 (.mv (.c (.bool false)))] .ret) .skip)) (zq [zo 6 (.mv (.c (.bool false)))] .ret))))))))))) (.seq (zq [zm 95 1,zc 96 95,zf 97 3 96,zl 98 97,zh 99 98,zo 100 (.mv (zi 0))] (.block 1 (.loop (zq [zb 101 .lss 100 99] (.seq (.cond (.t 101) .skip (.exit 1)) (.seq (.block 2 (zq [zm 102 100,zm 7 102] (zq [zm 103 0,zm 104 1,zc 105 104,zf 106 3 105,zl 107 106,zm 108 7,zo 109 (.idxA 4 (.t 107) (.t 108)),zm 110 2,zk 111 .add 110 1,zx 112 120 [.t 103,.t 109,.t 111],zo 113 (.un .not (.t 112))] (.cond (.t 113) (zq [zo 6 (.mv (.c (.bool false)))] .ret) .skip)))) (.reg [zk 114 .add 100 1,zm 100 114]))))))) (zq [zo 6 (.mv (.c (.bool true)))] .ret)))),[.t 6]⟩
theorem Pf:cN Tryz.prog 120=some Qk:=by kernel_rfl
def kH:bY:=⟨30,zq [zo 4 (.mv (.c (.bool false)))] (.seq (zq [zm 5 1] (.block 0 (zq [zk 7 .eql 5 1,zm 6 7] (.cond (.t 6) (zq [zm 8 0,zo 9 (.bin .eql (.t 8) (.c (.str [45]))),zm 10 9,zg 11 (.mv (.t 0)) 10 false,zg 12 (.bin .eql (.t 11) (.c (.str [33]))) 10 false,zo 13 (.pick (.t 10) (.c (.bool true)) (.t 12)),zm 4 13] .ret) (zq [zk 15 .eql 5 2,zm 14 15] (.cond (.t 14) (zq [zm 16 0] (.block 1 (zr [zo 18 (.bin .eql (.t 16) (.c (.str [124,124]))),zm 17 18] 17 .skip (zq [zo 19 (.bin .eql (.t 16) (.c (.str [38,38]))),zm 17 19] (.cond (.t 17) .skip (zq [zo 20 (.bin .eql (.t 16) (.c (.str [61,61]))),zm 17 20] (.cond (.t 17) .skip (zq [zo 21 (.bin .eql (.t 16) (.c (.str [33,61]))),zm 17 21] (.cond (.t 17) .skip (zq [zo 22 (.bin .eql (.t 16) (.c (.str [60,61]))),zm 17 22] (.cond (.t 17) .skip (zq [zo 23 (.bin .eql (.t 16) (.c (.str [62,61]))),zm 17 23] (.cond (.t 17) .skip (zq [zo 24 (.bin .eql (.t 16) (.c (.str [60]))),zm 17 24] (.cond (.t 17) .skip (zq [zo 25 (.bin .eql (.t 16) (.c (.str [62]))),zm 17 25] (.cond (.t 17) .skip (zq [zo 26 (.bin .eql (.t 16) (.c (.str [43]))),zm 17 26] (.cond (.t 17) .skip (zq [zo 27 (.bin .eql (.t 16) (.c (.str [45]))),zm 17 27] (.cond (.t 17) .skip (zq [zo 28 (.bin .eql (.t 16) (.c (.str [42]))),zm 17 28] (.cond (.t 17) .skip (.reg [zo 29 (.bin .eql (.t 16) (.c (.str [47]))),zm 17 29]))))))))))))))))))))) (.cond (.t 17) (zq [zo 4 (.mv (.c (.bool true)))] .ret) .skip)))) .skip)))))) (zq [zo 4 (.mv (.c (.bool false)))] .ret)),[.t 4]⟩
theorem O3:cN Tryz.prog 138=some kH:=by kernel_rfl
end
open Go.Abs Go.Abs.S
def nU(H:ae)(p:aa)(c:List aa):Prop:=∃a,p=.ptr (some a)/\bE H a c.length=some c
def fp(p:aa)(o:Nat):aa:=match p with
 | .ptr (some a)=>.ptr (some ⟨a.b,a.lim,a.o+o⟩)
 | _=>aR
theorem nU.chk{H:ae}{p:aa}{c:List aa}(h:nU H p c):cF p=some p:=by
 obtain⟨a,rfl,_⟩:=h; rfl
theorem nU.fld{H:ae}{p:aa}{c:List aa}(h:nU H p c)(o:Nat):ic o p=some (fp p o):=by
 obtain⟨a,rfl,_⟩:=h; rfl
theorem nU.fld0{H:ae}{p:aa}{c:List aa}(h:nU H p c):ic 0 p=some p:=by
 obtain⟨a,rfl,_⟩:=h; rfl
theorem nU.part{H:ae}{p:aa}{c:List aa}(h:nU H p c){o k:Nat}(hk:o+k<=c.length):nU H (fp p o) ((c.drop o).take k):=by
 obtain⟨a,rfl,h1⟩:=h
 refine⟨_,rfl,?_⟩
 rw[show ((c.drop o).take k).length=k by rw[SZ,SY]; omega]
 exact xp h1 hk
theorem nU.load{H:ae}{p:aa}{c:List aa}(h:nU H p c){o:Nat}{x:aa}(hx:c[o]?=some x):au false 1 H (fp p o)=some x:=by
 obtain⟨a,rfl,h1⟩:=h
 have hlt:=(SC.1 hx).1
 have:=xp h1 (i:=o) (j:=1) om
 have e:(c.drop o).take 1=[x]:=by
  rw[List.drop_eq_getElem_cons hlt,List.take_succ_cons,List.take_zero,(SC.1 hx).2]
 rw[e]at this
 simp only[fp,au,this,cond_false]
theorem nU.load0{H:ae}{p:aa}{c:List aa}(h:nU H p c){x:aa}(hx:c[0]?=some x):au false 1 H p=some x:=by
 have:=h.load hx
 obtain⟨a,rfl,_⟩:=h
 exact this
theorem nU.same{H H':ae}{p:aa}{c:List aa}(h:nU H p c)(e:∀a,p=.ptr (some a)->H'.get a.b=H.get a.b):nU H' p c:=by
 obtain⟨a,rfl,h1⟩:=h
 exact⟨a,rfl,by rw[td (e a rfl)]; exact h1⟩
theorem jt.pt{P:Nat->Prop}{H:ae}{m k:Nat}{v:aa}{C:List aa}(h:jt P H m v k C){i:Nat}(hi:i<k):nU H (cC m v i) ((C.drop (i*m)).take m):=by
 rcases h with⟨_,rfl,_⟩ | ⟨a,r,rfl,_,h3⟩
 ·omega
 ·have hm:i*m+m<=m*k:=by
   have:(i+1)*m<=k*m:=Nat.mul_le_mul_right m hi
   rw[Nat.mul_comm m k]; rw[Nat.add_mul,Nat.one_mul]at this; exact this
  have hl:C.length=m*k:=by
   obtain⟨l,low,ro,mk,h1,h2,h3',h4,rfl⟩:=oz h3
   rw[SZ,SY]; omega
  refine⟨_,rfl,?_⟩
  rw[show ((C.drop (i*m)).take m).length=m by rw[SZ,SY]; omega]
  exact xp h3 hm
theorem jl(s:Bs){H:ae}:az Tryz.prog aH 119 [.str s] H fun u H'=>u=.bool (eH s)/\cZ H.next H H':=by
 refine aj rfl Pg rfl ?_
 simp only[Ql,sA,sB,seval]
 refine (vN PQ (s:=s) (p:=((0:Nat):Int)) om om).mono ?_
 rintro v H1 ⟨rfl,E1⟩
 have e1:=E1.next
 obtain⟨H2,m2,r2,n2,k2⟩:=aw H1 [.int .u8 0,.str [],.int .i64 0,.int .i64 0,.int .i64 0,.int .i64 0] (n:=6) rfl
 obtain⟨H3,m3,r3,n3,k3⟩:=aw H2 [.int .i64 0,.int .i64 0] (n:=2) rfl
 cases hn:fL s 0 with
 | error e=>
  rw[vP hn]
  have he:=vO hn
  have he':¬(e.1:Int)=0:=om
  obtain⟨H4,m4,r4,n4,k4⟩:=ak (H:=H3) (r2.same (k3 _ om)) (n:=6) rfl (xs:=lZ 0 [] 0 0 0 0) rfl rfl
  obtain⟨H5,m5,r5,n5,k5⟩:=ak (H:=H4) (r3.same (k4 _ om)) (n:=2) rfl (xs:=jS e.1 e.2) rfl rfl
  have l5:au false 1 H5 (af H2.next 2 0)=some (.int .i64 (e.1:Int)):=am r5 rfl rfl
  have hf:eH s=false:=by unfold eH; rw[hn]
  simp only[sA,sB,seval,fK,bA,bx,m2,m3,m4,m5,fld0,l5,he',hf]
  exact⟨tt,om,fun c hc=>by rw[k5 c om,k4 c om,k3 c om,k2 c om,E1.old c hc]⟩
 | ok w=>
  rw[zC hn]
  obtain⟨H4,m4,r4,n4,k4⟩:=ak (H:=H3) (r2.same (k3 _ om)) (n:=6) rfl (xs:=lZ w.k w.S w.n w.line w.at_ w.en) rfl rfl
  obtain⟨H5,m5,r5,n5,k5⟩:=ak (H:=H4) (r3.same (k4 _ om)) (n:=2) rfl (xs:=jS 0 0) rfl rfl
  have r45:=r4.same (k5 _ om)
  have l5:au false 1 H5 (af H2.next 2 0)=some (.int .i64 0):=am r5 rfl rfl
  have q0:au false 1 H5 (af H1.next 6 0)=some (.int .u8 (w.k:Int)):=am r45 rfl rfl
  have q1:au false 1 H5 (af H1.next 6 1)=some (.str w.S):=am r45 rfl rfl
  have E5:cZ H.next H H5:=⟨om,fun c hc=>by rw[k5 c om,k4 c om,k3 c om,k2 c om,E1.old c hc]⟩
  by_cases hk:w.k=2
  ·have hk':(w.k:Int)=2:=om
   have hf:eH s=decide (w.S=s):=by unfold eH; rw[hn]; simp only[hk]; rfl
   simp only[sA,sB,seval,fK,bA,bx,m2,m3,m4,m5,fld0,aZ,l5,q0,q1,hk',hf]
   exact⟨tt,E5⟩
  ·have hk':¬(w.k:Int)=2:=om
   have hf:eH s=false:=by
    unfold eH; rw[hn]
    have:Nat.beq w.k 2=false:=by rw[cE]; exact decide_eq_false hk
    simp only[this]; rfl
   simp only[sA,sB,seval,fK,bA,bx,m2,m3,m4,m5,fld0,aZ,l5,q0,q1,hk',hf]
   exact⟨tt,E5⟩
theorem zJ(s:Bs)(n:Nat){H:ae}:az Tryz.prog aH 138 [.str s,.int .i64 (n:Int)] H fun u H'=>u=.bool (uE s n)/\H=H':=by
 refine aj rfl O3 rfl ?_
 by_cases h1:n=1
 ·subst h1
  by_cases e1:s=[45]
  ·subst e1; simp only[kH,sA,sB,seval]; exact⟨tt,tt⟩
  by_cases e2:s=[33]
  ·subst e2; simp only[kH,sA,sB,seval,e1]; exact⟨tt,tt⟩
  have:uE s 1=false:=by simp[uE,e1,e2]
  simp only[kH,sA,sB,seval,e1,e2,this]
  exact⟨tt,tt⟩
 have h1':¬(n:Int)=1:=om
 by_cases h2:n=2
 ·subst h2
  have op:uE s 2=[[124,124],[38,38],[61,61],[33,61],[60,61],[62,61],[60],[62],[43],[45],[42],[47]].contains s:=rfl
  rw[op]
  by_cases e0:s=[124,124]
  ·subst e0; simp only[kH,sA,sB,seval]; exact⟨by rfl,tt⟩
  by_cases e1:s=[38,38]
  ·subst e1; simp only[kH,sA,sB,seval]; exact⟨by rfl,tt⟩
  by_cases e2:s=[61,61]
  ·subst e2; simp only[kH,sA,sB,seval]; exact⟨by rfl,tt⟩
  by_cases e3:s=[33,61]
  ·subst e3; simp only[kH,sA,sB,seval]; exact⟨by rfl,tt⟩
  by_cases e4:s=[60,61]
  ·subst e4; simp only[kH,sA,sB,seval]; exact⟨by rfl,tt⟩
  by_cases e5:s=[62,61]
  ·subst e5; simp only[kH,sA,sB,seval]; exact⟨by rfl,tt⟩
  by_cases e6:s=[60]
  ·subst e6; simp only[kH,sA,sB,seval]; exact⟨by rfl,tt⟩
  by_cases e7:s=[62]
  ·subst e7; simp only[kH,sA,sB,seval]; exact⟨by rfl,tt⟩
  by_cases e8:s=[43]
  ·subst e8; simp only[kH,sA,sB,seval]; exact⟨by rfl,tt⟩
  by_cases e9:s=[45]
  ·subst e9; simp only[kH,sA,sB,seval]; exact⟨by rfl,tt⟩
  by_cases e10:s=[42]
  ·subst e10; simp only[kH,sA,sB,seval]; exact⟨by rfl,tt⟩
  by_cases e11:s=[47]
  ·subst e11; simp only[kH,sA,sB,seval]; exact⟨by rfl,tt⟩
  have:([[124,124],[38,38],[61,61],[33,61],[60,61],[62,61],[60],[62],[43],[45],[42],[47]]:List Bs).contains s=false:=by simp[e0,e1,e2,e3,e4,e5,e6,e7,e8,e9,e10,e11]
  simp only[kH,sA,sB,seval,e0,e1,e2,e3,e4,e5,e6,e7,e8,e9,e10,e11,this]
  exact⟨tt,tt⟩
 have h2':¬(n:Int)=2:=om
 have:uE s n=false:=by
  unfold uE
  split
  ·exact absurd rfl h1
  ·exact absurd rfl h2
  ·rfl
 simp only[kH,sA,sB,seval,h1',h2',this]
 exact⟨tt,tt⟩
theorem sP{e:Ex}:∀{l:List Ex},e∈l->e.size<=bZ l
 | [],h=>by simp at h
 | x::l,h=>by
  simp only[bZ]
  rcases List.mem_cons.1 h with rfl | h
  ·omega
  ·have:=sP h; omega
theorem nj(l m:List Ex):bZ (l++m)=bZ l+bZ m:=by
 induction l with
 | nil=>simp[bZ]
 | cons x l ih=>simp only[SX,bZ,ih]; omega
theorem nI(l m:List Ex):bV (l++m)=max (bV l) (bV m):=by
 induction l with
 | nil=>simp[bV]
 | cons x l ih=>simp only[SX,bV,ih]; omega
theorem y9(l m:List Ex):gU (l++m)=(gU l&&gU m):=by
 induction l with
 | nil=>simp[gU]
 | cons x l ih=>simp only[SX,gU,ih,Bool.and_assoc]
theorem iK(l:List Ex):l.length<=bZ l:=by
 induction l with
 | nil=>simp
 | cons x l ih=>cases x; simp only[SF,bZ,Ex.size]; omega
def LS(n deep:Nat)(e:Ex):Prop:=qX e=true/\n+e.size<=1000/\deep+e.deep<=41
def u9(n deep:Nat)(l:List Ex):Prop:=gU l=true/\n+bZ l<=1000/\deep+bV l<=41
theorem vA{n deep:Nat}{l:List Ex}{e:Ex}:u9 n deep (l++[e])↔u9 n deep l/\LS (n+bZ l) deep e:=by
 unfold u9 LS
 rw[y9,nj,nI]
 simp only[gU,bZ,bV,Bool.and_true,SE]
 constructor
 ·rintro ⟨⟨a,b⟩,c,d⟩; exact⟨⟨a,om,om⟩,b,om,om⟩
 ·rintro ⟨⟨a,b,c⟩,d,e,f⟩; exact⟨⟨a,d⟩,om,om⟩
theorem ER{n deep:Nat}{l:List Ex}(h:u9 n deep l)(i:Nat):u9 n deep (l.take i):=by
 have:=List.take_append_drop i l
 unfold u9 at *
 rw[<- this,y9,nj,nI]at h
 simp only[SE]at h
 obtain⟨⟨a,b⟩,c,d⟩:=h
 exact⟨a,om,om⟩
theorem vQ{H:ae}{mb:Nat}{n deep:Nat}(hm:a6 H mb [.int .i64 (n:Int)])(hn:n<=1000000):az Tryz.prog aH 118 [af mb 1 0,.int .i64 (deep:Int)] H fun u H'=>(∃b,u=.bool b/\(b=true↔n+1<=1000/\deep<=40))/\a6 H' mb [.int .i64 ((n+1:Nat):Int)]/\H'.next=H.next/\∀c,c≠mb->H'.get c=H.get c:=by
 refine aj rfl Ph rfl ?_
 have l0:au false 1 H (af mb 1 0)=some (.int .i64 (n:Int)):=am hm rfl rfl
 have wk:IntKind.i64.wrap ((n:Int)+1)=((n+1:Nat):Int):=kJ
 obtain⟨H1,m1,r1,n1,k1⟩:=cu hm (n:=1) rfl (i:=0) om (x:=.int .i64 ((n+1:Nat):Int)) rfl (l':=[.int .i64 ((n+1:Nat):Int)]) rfl
 have l1:au false 1 H1 (af mb 1 0)=some (.int .i64 ((n+1:Nat):Int)):=am r1 rfl rfl
 by_cases h1:n+1<=1000
 ·have h1':((n+1:Nat):Int)<=1000:=om
  by_cases h2:deep<=40
  ·have h2':(deep:Int)<=40:=om
   simp only[LC,sA,sB,seval,aF,fld0,l0,wk,m1,l1,h1',h2']
   exact⟨⟨true,tt,fun _=>⟨om,om⟩,fun _=>rfl⟩,r1,n1,k1⟩
  ·have h2':¬(deep:Int)<=40:=om
   simp only[LC,sA,sB,seval,aF,fld0,l0,wk,m1,l1,h1',h2']
   exact⟨⟨false,tt,by simp; omega⟩,r1,n1,k1⟩
 ·have h1':¬((n+1:Nat):Int)<=1000:=om
  simp only[LC,sA,sB,seval,aF,fld0,l0,wk,m1,l1,h1']
  exact⟨⟨false,tt,by simp; omega⟩,r1,n1,k1⟩
def Gp(mb:Nat)(n size:Nat)(ok:Prop)(H:ae)(u:aa)(H':ae):Prop:=
 ((ok/\u=.bool true/\a6 H' mb [.int .i64 ((n+size:Nat):Int)])∨(¬ok/\u=.bool false))/\Fp mb H H'
theorem nU.fp{H H':ae}{mb:Nat}{p:aa}{c:List aa}(h:nU H p c)(f:Fp mb H H')(hp:∀a,p=.ptr (some a)->a.b<H.next/\a.b≠mb):nU H' p c:=h.same fun a e=>f.old _ (hp a e).1 (hp a e).2
theorem tn:∀(N:Nat) {e:Ex} {c:List aa} {H:ae} {mb n deep:Nat} {p:aa},e.size<=N->nU H p c->(∀a,p=.ptr (some a)->a.b<H.next/\a.b≠mb)->XE (fun b=>b<H.next/\b≠mb) H e c->a6 H mb [.int .i64 (n:Int)]->mb<H.next->n<=1000->deep<=41 ->
  az Tryz.prog aH 120 [af mb 1 0,p,.int .i64 (deep:Int)] H (Gp mb n e.size (LS n deep e) H)
 | 0,e,_,_,_,_,_,_,h,_,_,_,_,_,_,_=>by cases e; simp[Ex.size]at h
 | N+1,.mk k s z kids,c,H,mb,n,deep,p,h,hp,hpb,hx,hm,hmb,hn,hd=>by
  obtain⟨v,C,rfl,z1,z2⟩:=hx
  obtain⟨Q,hQ⟩:∃Q,Q=Gp mb n (Ex.mk k s z kids).size (LS n deep (Ex.mk k s z kids)) H:=⟨_,rfl⟩
  obtain⟨PF,hPF⟩:∃PF:Prop,PF↔fj k s z kids.length=true:=⟨_,Iff.rfl⟩
  rw[<- hQ]
  refine aj rfl Pf rfl ?_
  have hsz:(Ex.mk k s z kids).size=bZ kids+1:=rfl
  have hdp:(Ex.mk k s z kids).deep=bV kids+1:=rfl
  simp only[Qk,sA,sB,seval]
  refine (vQ (deep:=deep) hm om).mono ?_
  rintro _ H1 ⟨⟨b,rfl,hb⟩,r1,n1,k1⟩
  have F1:Fp mb H H1:=⟨om,fun c _ hc=>k1 c hc⟩
  have pp:=hp.fp F1 hpb
  have p0:=pp.load0 (x:=.int .u8 (k:Int)) rfl
  have p1:=pp.load (o:=1) (x:=.str s) rfl
  have p2:=pp.load (o:=2) (x:=.int .i64 z) rfl
  have p3:=pp.load (o:=3) (x:=v) rfl
  have q0:=pp.fld0
  have q1:=pp.fld 1
  have q2:=pp.fld 2
  have q3:=pp.fld 3
  have qc:=pp.chk
  have ln:=z1.len
  cases b with
  | false=>
   have hno:¬LS n deep (.mk k s z kids):=by
    rintro ⟨_,q1,q2⟩; exact absurd (hb.2 ⟨om,om⟩) (by simp)
   simp only[sA,sB,seval]
   rw[hQ]
   exact⟨.inr ⟨hno,tt⟩,F1⟩
  | true=>
  obtain⟨h01,h02⟩:=hb.1 rfl
  have hok:qX (.mk k s z kids)=(fj k s z kids.length&&gU kids):=by simp only[qX]
  have hR:LS n deep (.mk k s z kids)↔fj k s z kids.length=true/\u9 (n+1) (deep+1) kids:=by
   unfold LS u9
   rw[hok,hsz,hdp,SE]
   constructor
   ·rintro ⟨⟨a,b⟩,c,d⟩; exact⟨a,b,om,om⟩
   ·rintro ⟨a,b,c,d⟩; exact⟨⟨a,b⟩,om,om⟩
  have leaf:kids=[]->u9 (n+1) (deep+1) kids:=by
   rintro rfl; exact⟨rfl,by simp only[bZ]; omega,by simp only[bV]; omega⟩
  have eD:∀(b:Bool) (H2:ae),fj k s z kids.length=b->(b=true->kids=[])->Fp mb H H2->a6 H2 mb [.int .i64 ((n+1:Nat):Int)]->Q (.bool b) H2:=by
   intro b H2 h1 h2 h3 h4
   rw[hQ]
   refine⟨?_,h3⟩
   cases b with
   | false=>exact .inr ⟨fun q=>by rw[(hR.1 q).1]at h1; simp at h1,rfl⟩
   | true=>
    have hk:=h2 rfl
    refine .inl ⟨hR.2 ⟨h1,leaf hk⟩,rfl,?_⟩
    rw[hsz,hk]
    exact h4
  simp only[sW,sL,jA,jc,pu,sB,seval,qc,q0,p0]
  rw[gd]
  refine qg (fun (T:cD) H'=>T 0=af mb 1 0/\T 1=p/\T 2=.int .i64 (deep:Int)/\Fp mb H H'/\a6 H' mb [.int .i64 ((n+1:Nat):Int)]/\PF) (dJ _ _) ?_ ?_
  rotate_left
  ·rintro T H2 ⟨t0,t1,t2,F2,r2,hpt⟩
   have e2:=F2.next
   have pp2:=hp.fp F2 hpb
   have p32:=pp2.load (o:=3) (x:=v) rfl
   simp only[sA,sB,seval,t0,t1,t2,qc,q3,p32,ln]
   refine cg (fun m (T:cD) H'=>∃i:Nat,m=kids.length-i/\i<=kids.length/\T 0=af mb 1 0/\T 1=p/\T 2=.int .i64 (deep:Int)/\T 99=.int .i64 (kids.length:Int)/\T 100=.int .i64 (i:Int)/\Fp mb H H'/\a6 H' mb [.int .i64 ((n+1+bZ (kids.take i):Nat):Int)]/\u9 (n+1) (deep+1) (kids.take i)) kids.length
    ⟨0,rfl,Nat.zero_le _,by simp only[sA,sB,seval,t0],by simp only[sA,sB,seval,t1],by simp only[sA,sB,seval,t2],by simp only[sA,sB,seval],by simp only[sA,sB,seval]; try rfl,F2,r2,rfl,by simp only[List.take_zero,bZ]; omega,by simp only[List.take_zero,bV]; omega⟩ ?_
   rintro m T H3 ⟨i,rfl,hi,t0,t1,t2,t99,t100,F3,r3,hR3⟩
   have e3:=F3.next
   by_cases hlt:i<kids.length
   case neg=>
    obtain rfl:i=kids.length:=om
    have hlt':¬(kids.length:Int)<(kids.length:Int):=om
    rw[List.take_length]at hR3 r3
    simp only[sA,sB,seval,t99,t100,hlt']
    rw[hQ]
    refine⟨.inl ⟨hR.2 ⟨hPF.1 hpt,hR3⟩,tt,?_⟩,F3⟩
    rw[hsz,show n+(bZ kids+1)=n+1+bZ kids by omega]; exact r3
   have hlt':(i:Int)<(kids.length:Int):=om
   obtain⟨e,he⟩:∃e,kids[i]?=some e:=⟨_,SB hlt⟩
   have hts:kids.take (i+1)=kids.take i++[e]:=by rw[List.take_add_one,he]; rfl
   have pp3:=hp.fp F3 hpb
   have p33:=pp3.load (o:=3) (x:=v) rfl
   have km:∀b,(b<H.next/\b≠mb)->(b<H3.next/\b≠mb)/\H3.get b=H.get b:=fun b hb=>⟨⟨om,hb.2⟩,F3.old b hb.1 hb.2⟩
   have z13:=z1.mono km
   have z23:=z2.mono km
   have ix:=z13.idx hlt
   have hk:=z13.pt hlt
   have he3:=z23.at he
   have hmem:e∈kids:=SJ he
   have hsm:=sP hmem
   have wd:IntKind.i64.wrap ((deep:Int)+1)=((deep+1:Nat):Int):=kJ
   have wi:IntKind.i64.wrap ((i:Int)+1)=((i+1:Nat):Int):=by
    have e1:=iK (kids.take i)
    have e2:=hR3.2.1
    rw[SZ,Nat.min_eq_left hi]at e1
    rw[IntKind.wrap_i64]; omega
   simp only[sA,sB,seval,t0,t1,t2,t99,t100,hlt',qc,q3,p33,ix,wd]
   refine (tn N (by rw[hsz]at h; omega) hk ?_ he3 r3 om hR3.2.1 om).mono ?_
   ·intro a ea
    rcases z13 with⟨_,h0,_⟩ | ⟨a',r,rfl,h0,_⟩
    ·omega
    ·simp only[cC,aa.ptr.injEq,sJ]at ea
     subst ea; exact h0
   rintro u H4 ⟨ho,F4⟩
   have F04:=F3.trans F4
   rcases ho with⟨hgo,rfl,r4⟩ | ⟨hgo,rfl⟩
   ·simp only[sA,sB,seval,t0,t1,t2,t99,t100,wi]
    refine⟨kids.length-(i+1),om,i+1,rfl,om,tt,tt,tt,tt,tt,F04,?_,?_⟩
    ·rw[hts,nj]
     simp only[bZ,Nat.add_zero]
     rw[<- Nat.add_assoc]; exact r4
    ·rw[hts,vA]; exact⟨hR3,hgo⟩
   ·simp only[sA,sB,seval]
    rw[hQ]
    refine⟨.inr ⟨fun q=>hgo ?_,tt⟩,F04⟩
    have:=ER (hR.1 q).2 (i+1)
    rw[hts,vA]at this
    exact this.2
  by_cases k1':k=1
  ·have k1i:(k:Int)=1:=om
   have hpart:fj k s z kids.length=(decide (0<=z)&&(s.isEmpty&&Nat.beq kids.length 0)):=by unfold fj; rw[if_pos k1']
   by_cases a1:0<=z
   ·by_cases a2:s=[]
    ·by_cases a3:kids=[]
     ·have a3':(kids.length:Int)=0:=by rw[a3]; rfl
      simp only[sA,sB,seval,qc,q0,q1,q2,q3,p0,p1,p2,p3,ln,k1i,a1,a2,a3']
      exact eD true H1 (by rw[hpart,a2,a3,decide_eq_true a1]; rfl) (fun _=>a3) F1 r1
     ·have a3':¬(kids.length:Int)=0:=by have:=List.length_pos_iff.2 a3; omega
      simp only[sA,sB,seval,qc,q0,q1,q2,q3,p0,p1,p2,p3,ln,k1i,a1,a2,a3']
      exact eD false H1 (by rw[hpart,show Nat.beq kids.length 0=false by rw[cE]; exact decide_eq_false om]; simp) (by simp) F1 r1
    ·simp only[sA,sB,seval,qc,q0,q1,q2,q3,p0,p1,p2,p3,ln,k1i,a1,a2]
     exact eD false H1 (by rw[hpart,show s.isEmpty=false by cases s <;> simp_all]; simp) (by simp) F1 r1
   ·simp only[sA,sB,seval,qc,q0,q1,q2,q3,p0,p1,p2,p3,ln,k1i,a1]
    exact eD false H1 (by rw[hpart,decide_eq_false a1]; rfl) (by simp) F1 r1
  have k1i:¬(k:Int)=1:=om
  by_cases k2':k=2
  ·have k2i:(k:Int)=2:=om
   have hpart:fj k s z kids.length=(decide (z=0)&&(eH s&&Nat.beq kids.length 0)):=by unfold fj; rw[if_neg k1',if_pos k2']
   by_cases a1:z=0
   ·simp only[sA,sB,seval,qc,q0,q1,q2,q3,p0,p1,p2,p3,ln,k1i,k2i,a1]
    refine (jl s).mono ?_
    rintro _ H2 ⟨rfl,E2⟩
    have F12:Fp mb H1 H2:=⟨E2.next,fun c hc _=>E2.old c hc⟩
    have pp2:=hp.fp (F1.trans F12) hpb
    have p32:=pp2.load (o:=3) (x:=v) rfl
    have r2:=r1.same (E2.old mb om)
    cases a2:eH s with
    | false=>
     simp only[sA,sB,seval]
     exact eD false H2 (by rw[hpart,a2]; simp) (by simp) (F1.trans F12) r2
    | true=>
     by_cases a3:kids=[]
     ·have a3':(kids.length:Int)=0:=by rw[a3]; rfl
      simp only[sA,sB,seval,qc,q3,p32,ln,a3']
      exact eD true H2 (by rw[hpart,a2,a3,decide_eq_true a1]; rfl) (fun _=>a3) (F1.trans F12) r2
     ·have a3':¬(kids.length:Int)=0:=by have:=List.length_pos_iff.2 a3; omega
      simp only[sA,sB,seval,qc,q3,p32,ln,a3']
      exact eD false H2 (by rw[hpart,show Nat.beq kids.length 0=false by rw[cE]; exact decide_eq_false om]; simp) (by simp) (F1.trans F12) r2
   ·simp only[sA,sB,seval,qc,q0,q1,q2,q3,p0,p1,p2,p3,ln,k1i,k2i,a1]
    exact eD false H1 (by rw[hpart,decide_eq_false a1]; rfl) (by simp) F1 r1
  have k2i:¬(k:Int)=2:=om
  by_cases k3':k=3
  ·have k3i:(k:Int)=3:=om
   have hpart:fj k s z kids.length=(decide (z=0)&&uE s kids.length):=by unfold fj; rw[if_neg k1',if_neg k2',if_pos k3']
   by_cases a1:z=0
   ·simp only[sA,sB,seval,qc,q0,q1,q2,q3,p0,p1,p2,p3,ln,k1i,k2i,k3i,a1]
    refine (zJ s kids.length).mono ?_
    rintro _ _ ⟨rfl,rfl⟩
    cases a2:uE s kids.length with
    | false=>
     simp only[sA,sB,seval]
     exact eD false H1 (by rw[hpart,a2]; simp) (by simp) F1 r1
    | true=>
     simp only[sA,sB,seval]
     exact⟨tt,tt,tt,F1,r1,hPF.2 (by rw[hpart,a2,decide_eq_true a1]; rfl)⟩
   ·simp only[sA,sB,seval,qc,q0,q1,q2,q3,p0,p1,p2,p3,ln,k1i,k2i,k3i,a1]
    exact eD false H1 (by rw[hpart,decide_eq_false a1]; rfl) (by simp) F1 r1
  have k3i:¬(k:Int)=3:=om
  by_cases k4':k=4
  ·have k4i:(k:Int)=4:=om
   have hpart:fj k s z kids.length=(decide (z=0)&&eH s):=by unfold fj; rw[if_neg k1',if_neg k2',if_neg k3',if_pos k4']
   by_cases a1:z=0
   ·simp only[sA,sB,seval,qc,q0,q1,q2,q3,p0,p1,p2,p3,ln,k1i,k2i,k3i,k4i,a1]
    refine (jl s).mono ?_
    rintro _ H2 ⟨rfl,E2⟩
    have F12:Fp mb H1 H2:=⟨E2.next,fun c hc _=>E2.old c hc⟩
    have r2:=r1.same (E2.old mb om)
    cases a2:eH s with
    | false=>
     simp only[sA,sB,seval]
     exact eD false H2 (by rw[hpart,a2]; simp) (by simp) (F1.trans F12) r2
    | true=>
     simp only[sA,sB,seval]
     exact⟨tt,tt,tt,F1.trans F12,r2,hPF.2 (by rw[hpart,a2,decide_eq_true a1]; rfl)⟩
   ·simp only[sA,sB,seval,qc,q0,q1,q2,q3,p0,p1,p2,p3,ln,k1i,k2i,k3i,k4i,a1]
    exact eD false H1 (by rw[hpart,decide_eq_false a1]; rfl) (by simp) F1 r1
  have k4i:¬(k:Int)=4:=om
  simp only[sA,sB,seval,k1i,k2i,k3i,k4i]
  exact eD false H1 (by unfold fj; rw[if_neg k1',if_neg k2',if_neg k3',if_neg k4']) (by simp) F1 r1
open Go.Abs Go.Abs.S
theorem ml{e:St}:∀{l:List St},e∈l->e.size<=aS l
 | [],h=>by simp at h
 | x::l,h=>by
  simp only[aS]
  rcases List.mem_cons.1 h with rfl | h
  ·omega
  ·have:=ml h; omega
theorem fx(l m:List St):aS (l++m)=aS l+aS m:=by
 induction l with
 | nil=>simp[aS]
 | cons x l ih=>simp only[SX,aS,ih]; omega
theorem tO(l m:List St):dR (l++m)=max (dR l) (dR m):=by
 induction l with
 | nil=>simp[dR]
 | cons x l ih=>simp only[SX,dR,ih]; omega
theorem y8(l m:List St):eq (l++m)=(eq l&&eq m):=by
 induction l with
 | nil=>simp[eq]
 | cons x l ih=>simp only[SX,eq,ih,Bool.and_assoc]
theorem nC(l:List St):l.length<=aS l:=by
 induction l with
 | nil=>simp
 | cons x l ih=>cases x; simp only[SF,aS,St.size]; omega
def OA(n deep:Nat)(e:St):Prop:=Gu e=true/\n+e.size<=1000/\deep+e.deep<=41
def pn(n deep:Nat)(l:List St):Prop:=eq l=true/\n+aS l<=1000/\deep+dR l<=41
theorem vz{n deep:Nat}{l:List St}{e:St}:pn n deep (l++[e])↔pn n deep l/\OA (n+aS l) deep e:=by
 unfold pn OA
 rw[y8,fx,tO]
 simp only[eq,aS,dR,Bool.and_true,SE]
 constructor
 ·rintro ⟨⟨a,b⟩,c,d⟩; exact⟨⟨a,om,om⟩,b,om,om⟩
 ·rintro ⟨⟨a,b,c⟩,d,e,f⟩; exact⟨⟨a,d⟩,om,om⟩
theorem EQ{n deep:Nat}{l:List St}(h:pn n deep l)(i:Nat):pn n deep (l.take i):=by
 have:=List.take_append_drop i l
 unfold pn at *
 rw[<- this,y8,fx,tO]at h
 simp only[SE]at h
 obtain⟨⟨a,b⟩,c,d⟩:=h
 exact⟨a,om,om⟩
theorem jt.blk{P:Nat->Prop}{H:ae}{m k:Nat}{v:aa}{C:List aa}(h:jt P H m v k C){i:Nat}(hi:i<k):∀a,cC m v i=.ptr (some a)->P a.b:=by
 intro a ea
 rcases h with⟨_,h0,_⟩ | ⟨a',r,rfl,h0,_⟩
 ·omega
 ·simp only[cC,aa.ptr.injEq,sJ]at ea
  subst ea; exact h0
def QL(N:Nat):Prop:=∀{e:St} {c:List aa} {H:ae} {mb n deep:Nat} {p:aa},e.size<=N->nU H p c->(∀a,p=.ptr (some a)->a.b<H.next/\a.b≠mb)->XS (fun b=>b<H.next/\b≠mb) H e c->a6 H mb [.int .i64 (n:Int)]->mb<H.next->n<=1000->deep<=41 ->
  az Tryz.prog aH 72 [af mb 1 0,p,.int .i64 (deep:Int)] H (Gp mb n e.size (OA n deep e) H)
def LiR(N:Nat):Prop:=∀{l:List St} {C:List aa} {H:ae} {mb n deep:Nat} {v:aa},aS l<=N->jt (fun b=>b<H.next/\b≠mb) H 9 v l.length C->uu (fun b=>b<H.next/\b≠mb) H l C->a6 H mb [.int .i64 (n:Int)]->mb<H.next->n<=1000->deep<=41 ->
  az Tryz.prog aH 41 [af mb 1 0,v,.int .i64 (deep:Int)] H (Gp mb n (aS l) (pn n deep l) H)
theorem liR{N:Nat}(ih:QL N):LiR N:=by
 intro l C H mb n deep v h z1 z2 hm hmb hn hd
 obtain⟨Q,hQ⟩:∃Q,Q=Gp mb n (aS l) (pn n deep l) H:=⟨_,rfl⟩
 rw[<- hQ]
 refine aj rfl Rq rfl ?_
 have ln:=z1.len
 simp only[c41,sA,sB,seval,ln]
 refine cg (fun m (T:cD) H'=>∃i:Nat,m=l.length-i/\i<=l.length/\T 0=af mb 1 0/\T 1=v/\T 2=.int .i64 (deep:Int)/\T 9=.int .i64 (l.length:Int)/\T 10=.int .i64 (i:Int)/\Fp mb H H'/\a6 H' mb [.int .i64 ((n+aS (l.take i):Nat):Int)]/\pn n deep (l.take i)) l.length
  ⟨0,rfl,Nat.zero_le _,by simp only[sA,sB,seval],by simp only[sA,sB,seval],by simp only[sA,sB,seval],by simp only[sA,sB,seval],by simp only[sA,sB,seval]; try rfl,Fp.refl _ _,hm,rfl,by simp only[List.take_zero,aS]; omega,by simp only[List.take_zero,dR]; omega⟩ ?_
 rintro m T H3 ⟨i,rfl,hi,t0,t1,t2,t9,t10,F3,r3,hR3⟩
 have e3:=F3.next
 by_cases hlt:i<l.length
 case neg=>
  obtain rfl:i=l.length:=om
  have hlt':¬(l.length:Int)<(l.length:Int):=om
  rw[List.take_length]at hR3 r3
  simp only[sA,sB,seval,t9,t10,hlt']
  rw[hQ]
  exact⟨.inl ⟨hR3,tt,r3⟩,F3⟩
 have hlt':(i:Int)<(l.length:Int):=om
 obtain⟨e,he⟩:∃e,l[i]?=some e:=⟨_,SB hlt⟩
 have hts:l.take (i+1)=l.take i++[e]:=by rw[List.take_add_one,he]; rfl
 have km:∀b,(b<H.next/\b≠mb)->(b<H3.next/\b≠mb)/\H3.get b=H.get b:=fun b hb=>⟨⟨om,hb.2⟩,F3.old b hb.1 hb.2⟩
 have z13:=z1.mono km
 have z23:=z2.mono km
 have ix:=z13.idx hlt
 have hk:=z13.pt hlt
 have he3:=z23.at he
 have hsm:=ml (SJ he)
 have wi:IntKind.i64.wrap ((i:Int)+1)=((i+1:Nat):Int):=by
  have e1:=nC (l.take i)
  have e2:=hR3.2.1
  rw[SZ,Nat.min_eq_left hi]at e1
  rw[IntKind.wrap_i64]; omega
 simp only[sA,sB,seval,t0,t1,t2,t9,t10,hlt',ix]
 refine (ih om hk (z13.blk hlt) he3 r3 om hR3.2.1 hd).mono ?_
 rintro u H4 ⟨ho,F4⟩
 have F04:=F3.trans F4
 rcases ho with⟨hgo,rfl,r4⟩ | ⟨hgo,rfl⟩
 ·simp only[sA,sB,seval,t0,t1,t2,t9,t10,wi]
  refine⟨l.length-(i+1),om,i+1,rfl,om,tt,tt,tt,tt,tt,F04,?_,?_⟩
  ·rw[hts,fx]
   simp only[aS,Nat.add_zero]
   rw[<- Nat.add_assoc]; exact r4
  ·rw[hts,vz]; exact⟨hR3,hgo⟩
 ·simp only[sA,sB,seval]
  rw[hQ]
  refine⟨.inr ⟨fun q=>hgo ?_,tt⟩,F04⟩
  have:=EQ q (i+1)
  rw[hts,vz]at this
  exact this.2
theorem stR{N:Nat}(ih:LiR N):QL (N+1):=by
 rintro ⟨k,s,e,body,els,line⟩ c H mb n deep p h hp hpb hx hm hmb hn hd
 obtain⟨ce,vb,Cb,ve,Ce,rfl,x1,z1,z2,y1,y2⟩:=hx
 obtain⟨c0,c1,c2,c3,rfl⟩:∃a b c d,ce=[a,b,c,d]:=by
  have:=x1.len
  match ce,this with
  | [a,b,c,d],_=>exact⟨a,b,c,d,rfl⟩
 obtain⟨Q,hQ⟩:∃Q,Q=Gp mb n (St.mk k s e body els line).size (OA n deep (St.mk k s e body els line)) H:=⟨_,rfl⟩
 obtain⟨PF,hPF⟩:∃PF:Prop,PF↔cX k s body.length els.length=true:=⟨_,Iff.rfl⟩
 rw[<- hQ]
 refine aj rfl Q2 rfl ?_
 have hsz:(St.mk k s e body els line).size=e.size+aS body+aS els+1:=rfl
 have hdp:(St.mk k s e body els line).deep=max e.deep (max (dR body) (dR els))+1:=rfl
 simp only[c72,sW,sL,jA,jc,pu,sB,seval]
 refine (vQ (deep:=deep) hm om).mono ?_
 rintro _ H1 ⟨⟨b,rfl,hb⟩,r1,n1,k1⟩
 have F1:Fp mb H H1:=⟨om,fun c _ hc=>k1 c hc⟩
 have pp:=hp.fp F1 hpb
 have p0:=pp.load0 (x:=.int .u8 (k:Int)) rfl
 have p1:=pp.load (o:=1) (x:=.str s) rfl
 have p6:=pp.load (o:=6) (x:=vb) rfl
 have p7:=pp.load (o:=7) (x:=ve) rfl
 have q0:=pp.fld0
 have q1:=pp.fld 1
 have q2:=pp.fld 2
 have q6:=pp.fld 6
 have q7:=pp.fld 7
 have qc:=pp.chk
 have lb:=z1.len
 have le:=y1.len
 cases b with
 | false=>
  have hno:¬OA n deep (.mk k s e body els line):=by
   rintro ⟨_,q1,q2⟩; exact absurd (hb.2 ⟨om,om⟩) (by simp)
  simp only[sA,sB,seval]
  rw[hQ]
  exact⟨.inr ⟨hno,tt⟩,F1⟩
 | true=>
 obtain⟨h01,h02⟩:=hb.1 rfl
 have hok:Gu (.mk k s e body els line)=(cX k s body.length els.length&&(qX e&&(eq body&&eq els))):=by simp only[Gu]
 have hR:OA n deep (.mk k s e body els line)↔cX k s body.length els.length=true/\LS (n+1) (deep+1) e/\pn (n+1+e.size) (deep+1) body/\pn (n+1+e.size+aS body) (deep+1) els:=by
  unfold OA LS pn
  rw[hok,hsz,hdp,SE,SE,SE]
  constructor
  ·rintro ⟨⟨a,b,c,d⟩,e,f⟩; exact⟨a,⟨b,om,om⟩,⟨c,om,om⟩,d,om,om⟩
  ·rintro ⟨a,⟨b,_,_⟩,⟨c,_,_⟩,d,_,_⟩; exact⟨⟨a,b,c,d⟩,om,om⟩
 have eD:∀(H2:ae),cX k s body.length els.length=false->Fp mb H H2->Q (.bool false) H2:=by
  intro H2 h1 h3
  rw[hQ]
  exact⟨.inr ⟨fun q=>by rw[(hR.1 q).1]at h1; simp at h1,rfl⟩,h3⟩
 simp only[sW,sL,jA,jc,pu,sB,seval,qc,q0,p0]
 rw[gd]
 refine qg (fun (T:cD) H'=>T 0=af mb 1 0/\T 1=p/\T 2=.int .i64 (deep:Int)/\Fp mb H H'/\a6 H' mb [.int .i64 ((n+1:Nat):Int)]/\PF) (dJ _ _) ?_ ?_
 rotate_left
 ·rintro T H2 ⟨t0,t1,t2,F2,r2,hpt⟩
  have e2:=F2.next
  have km:∀{K:ae},Fp mb H K->∀b,(b<H.next/\b≠mb)->(b<K.next/\b≠mb)/\K.get b=H.get b:=fun F b hb=>⟨⟨by have:=F.next; omega,hb.2⟩,F.old b hb.1 hb.2⟩
  have pp2:=hp.fp F2 hpb
  have pe:=pp2.part (o:=2) (k:=4) (by simp)
  have wd:IntKind.i64.wrap ((deep:Int)+1)=((deep+1:Nat):Int):=kJ
  simp only[sA,sB,seval,t0,t1,t2,qc,q2,wd]
  refine (tn e.size rL pe ?_ (x1.mono (km F2)) r2 om om om).mono ?_
  ·intro a ea
   obtain⟨a',rfl,_⟩:=hp
   simp only[fp,aa.ptr.injEq,sJ]at ea
   subst ea
   have:=hpb a' rfl
   exact⟨by show a'.b<H2.next; omega,this.2⟩
  rintro u H3 ⟨ho,F3⟩
  have F03:=F2.trans F3
  have e3:=F03.next
  rcases ho with⟨g1,rfl,r3⟩ | ⟨g1,rfl⟩
  case inr=>
   simp only[sA,sB,seval,t0,t1,t2]
   rw[hQ]
   exact⟨.inr ⟨fun q=>g1 (hR.1 q).2.1,tt⟩,F03⟩
  have pp3:=hp.fp F03 hpb
  have p63:=pp3.load (o:=6) (x:=vb) rfl
  simp only[sA,sB,seval,t0,t1,t2,qc,q6,p63,wd]
  refine (ih (by rw[hsz]at h; omega) (z1.mono (km F03)) (z2.mono (km F03)) r3 om g1.2.1 om).mono ?_
  rintro u H4 ⟨ho,F4⟩
  have F04:=F03.trans F4
  have e4:=F04.next
  rcases ho with⟨g2,rfl,r4⟩ | ⟨g2,rfl⟩
  case inr=>
   simp only[sA,sB,seval,t0,t1,t2]
   rw[hQ]
   exact⟨.inr ⟨fun q=>g2 (hR.1 q).2.2.1,tt⟩,F04⟩
  have pp4:=hp.fp F04 hpb
  have p74:=pp4.load (o:=7) (x:=ve) rfl
  simp only[sA,sB,seval,t0,t1,t2,qc,q7,p74,wd]
  refine (ih (by rw[hsz]at h; omega) (y1.mono (km F04)) (y2.mono (km F04)) r4 om g2.2.1 om).mono ?_
  rintro u H5 ⟨ho,F5⟩
  have F05:=F04.trans F5
  rcases ho with⟨g3,rfl,r5⟩ | ⟨g3,rfl⟩
  ·simp only[sA,sB,seval]
   rw[hQ]
   refine⟨.inl ⟨hR.2 ⟨hPF.1 hpt,g1,g2,g3⟩,tt,?_⟩,F05⟩
   rw[hsz,show n+(e.size+aS body+aS els+1)=n+1+e.size+aS body+aS els by omega]; exact r5
  ·simp only[sA,sB,seval]
   rw[hQ]
   exact⟨.inr ⟨fun q=>g3 (hR.1 q).2.2.2,tt⟩,F05⟩
 have nb0:∀{α:Type} {l:List α},l≠[]->Nat.beq l.length 0=false:=fun q=>by rw[cE]; exact decide_eq_false (by have:=List.length_pos_iff.2 q; omega)
 have pos:∀{α:Type} {l:List α},l≠[]->(0:Int)<(l.length:Int):=fun q=>by have:=List.length_pos_iff.2 q; omega
 have emp:s≠[]->s.isEmpty=false:=fun q=>by cases s <;> simp_all
 have nil0:¬(0:Int)<((([]:List St)).length:Int):=by simp
 by_cases k1:k=1
 ·have i1:(k:Int)=1:=om
  have hpart:cX k s body.length els.length=(eH s&&(Nat.beq body.length 0&&Nat.beq els.length 0)):=by unfold cX; rw[if_pos (.inl k1)]
  simp only[sA,sB,seval,qc,q0,q1,q6,q7,p0,p1,p6,p7,lb,le,i1]
  refine (jl s).mono ?_
  rintro _ H2 ⟨rfl,E2⟩
  have F12:Fp mb H1 H2:=⟨E2.next,fun c hc _=>E2.old c hc⟩
  have F02:=F1.trans F12
  have pp2:=hp.fp F02 hpb
  have p62:=pp2.load (o:=6) (x:=vb) rfl
  have p72:=pp2.load (o:=7) (x:=ve) rfl
  have r2:=r1.same (E2.old mb om)
  cases a2:eH s with
  | false=>
   simp only[sA,sB,seval]
   exact eD H2 (by rw[hpart,a2]; rfl) F02
  | true=>
  by_cases a3:body=[]
  ·by_cases a4:els=[]
   ·have b3:¬(0:Int)<(body.length:Int):=by rw[a3]; simp
    have b4:¬(0:Int)<(els.length:Int):=by rw[a4]; simp
    simp only[sA,sB,seval,qc,q6,q7,p62,p72,lb,le,b3,b4]
    exact⟨tt,tt,tt,F02,r2,hPF.2 (by rw[hpart,a2,a3,a4]; rfl)⟩
   ·have b3:¬(0:Int)<(body.length:Int):=by rw[a3]; simp
    have b4:=pos a4
    simp only[sA,sB,seval,qc,q6,q7,p62,p72,lb,le,b3,b4]
    exact eD H2 (by rw[hpart,nb0 a4]; simp) F02
  ·have b3:=pos a3
   simp only[sA,sB,seval,qc,q6,q7,p62,p72,lb,le,b3]
   exact eD H2 (by rw[hpart,nb0 a3]; simp) F02
 have i1:¬(k:Int)=1:=om
 by_cases k2:k=2
 ·have i2:(k:Int)=2:=om
  have hpart:cX k s body.length els.length=(eH s&&(Nat.beq body.length 0&&Nat.beq els.length 0)):=by unfold cX; rw[if_pos (.inr k2)]
  simp only[sA,sB,seval,qc,q0,q1,q6,q7,p0,p1,p6,p7,lb,le,i1,i2]
  refine (jl s).mono ?_
  rintro _ H2 ⟨rfl,E2⟩
  have F12:Fp mb H1 H2:=⟨E2.next,fun c hc _=>E2.old c hc⟩
  have F02:=F1.trans F12
  have pp2:=hp.fp F02 hpb
  have p62:=pp2.load (o:=6) (x:=vb) rfl
  have p72:=pp2.load (o:=7) (x:=ve) rfl
  have r2:=r1.same (E2.old mb om)
  cases a2:eH s with
  | false=>
   simp only[sA,sB,seval]
   exact eD H2 (by rw[hpart,a2]; rfl) F02
  | true=>
  by_cases a3:body=[]
  ·by_cases a4:els=[]
   ·have b3:¬(0:Int)<(body.length:Int):=by rw[a3]; simp
    have b4:¬(0:Int)<(els.length:Int):=by rw[a4]; simp
    simp only[sA,sB,seval,qc,q6,q7,p62,p72,lb,le,b3,b4]
    exact⟨tt,tt,tt,F02,r2,hPF.2 (by rw[hpart,a2,a3,a4]; rfl)⟩
   ·have b3:¬(0:Int)<(body.length:Int):=by rw[a3]; simp
    have b4:=pos a4
    simp only[sA,sB,seval,qc,q6,q7,p62,p72,lb,le,b3,b4]
    exact eD H2 (by rw[hpart,nb0 a4]; simp) F02
  ·have b3:=pos a3
   simp only[sA,sB,seval,qc,q6,q7,p62,p72,lb,le,b3]
   exact eD H2 (by rw[hpart,nb0 a3]; simp) F02
 have i2:¬(k:Int)=2:=om
 have i12:¬(k=1∨k=2):=om
 by_cases k3:k=3
 ·have i3:(k:Int)=3:=om
  have hpart:cX k s body.length els.length=s.isEmpty:=by unfold cX; rw[if_neg i12,if_pos k3]
  by_cases a2:s=[]
  ·simp only[sA,sB,seval,qc,q0,q1,q6,q7,p0,p1,p6,p7,lb,le,i1,i2,i3,a2]
   exact⟨tt,tt,tt,F1,r1,hPF.2 (by rw[hpart,a2]; rfl)⟩
  ·simp only[sA,sB,seval,qc,q0,q1,q6,q7,p0,p1,p6,p7,lb,le,i1,i2,i3,a2]
   exact eD H1 (by rw[hpart,emp a2]) F1
 have i3:¬(k:Int)=3:=om
 by_cases k4:k=4
 ·have i4:(k:Int)=4:=om
  have hpart:cX k s body.length els.length=(s.isEmpty&&Nat.beq els.length 0):=by unfold cX; rw[if_neg i12,if_neg k3,if_pos k4]
  by_cases a2:s=[]
  ·by_cases a4:els=[]
   ·have b4:¬(0:Int)<(els.length:Int):=by rw[a4]; simp
    simp only[sA,sB,seval,qc,q0,q1,q6,q7,p0,p1,p6,p7,lb,le,i1,i2,i3,i4,a2,b4]
    exact⟨tt,tt,tt,F1,r1,hPF.2 (by rw[hpart,a2,a4]; rfl)⟩
   ·have b4:=pos a4
    simp only[sA,sB,seval,qc,q0,q1,q6,q7,p0,p1,p6,p7,lb,le,i1,i2,i3,i4,a2,b4]
    exact eD H1 (by rw[hpart,nb0 a4]; simp) F1
  ·simp only[sA,sB,seval,qc,q0,q1,q6,q7,p0,p1,p6,p7,lb,le,i1,i2,i3,i4,a2]
   exact eD H1 (by rw[hpart,emp a2]; rfl) F1
 have i4:¬(k:Int)=4:=om
 by_cases k5:k=5
 ·have i5:(k:Int)=5:=om
  have hpart:cX k s body.length els.length=(s.isEmpty&&(Nat.beq body.length 0&&Nat.beq els.length 0)):=by unfold cX; rw[if_neg i12,if_neg k3,if_neg k4,if_pos k5]
  by_cases a2:s=[]
  ·by_cases a3:body=[]
   ·have b3:¬(0:Int)<(body.length:Int):=by rw[a3]; simp
    by_cases a4:els=[]
    ·have b4:¬(0:Int)<(els.length:Int):=by rw[a4]; simp
     simp only[sA,sB,seval,qc,q0,q1,q6,q7,p0,p1,p6,p7,lb,le,i1,i2,i3,i4,i5,a2,b3,b4]
     exact⟨tt,tt,tt,F1,r1,hPF.2 (by rw[hpart,a2,a3,a4]; rfl)⟩
    ·have b4:=pos a4
     simp only[sA,sB,seval,qc,q0,q1,q6,q7,p0,p1,p6,p7,lb,le,i1,i2,i3,i4,i5,a2,b3,b4]
     exact eD H1 (by rw[hpart,nb0 a4]; simp) F1
   ·have b3:=pos a3
    simp only[sA,sB,seval,qc,q0,q1,q6,q7,p0,p1,p6,p7,lb,le,i1,i2,i3,i4,i5,a2,b3]
    exact eD H1 (by rw[hpart,nb0 a3]; simp) F1
  ·simp only[sA,sB,seval,qc,q0,q1,q6,q7,p0,p1,p6,p7,lb,le,i1,i2,i3,i4,i5,a2]
   exact eD H1 (by rw[hpart,emp a2]; rfl) F1
 have i5:¬(k:Int)=5:=om
 simp only[sA,sB,seval,i1,i2,i3,i4,i5]
 exact eD H1 (by unfold cX; rw[if_neg i12,if_neg k3,if_neg k4,if_neg k5]) F1
theorem vy(e:St):0<e.size:=by cases e; simp only[St.size]; omega
theorem RX:QL 0:=by
 intro e c H mb n deep p h
 exact absurd h (Nat.not_le.2 (vy e))
theorem Cv:∀(N:Nat),QL N
 | 0=>RX
 | N+1=>stR (liR (Cv N))
theorem qJ{l:List St}{C:List aa}{H:ae}{v:aa}(z1:jt (·<H.next) H 9 v l.length C)(z2:uu (·<H.next) H l C):az Tryz.prog aH 17 [v] H fun u H'=>u=.bool (iD l)/\cZ H.next H H':=by
 refine aj rfl RJ rfl ?_
 obtain⟨H1,m1,r1,n1,k1⟩:=aw H [.int .i64 0] (n:=1) rfl
 have b1:aL [.int .i64 0] []=some (.agg [.int .i64 0]):=rfl
 simp only[c17,sA,sB,seval,b1,cB,m1]
 have km:∀b,b<H.next->(b<H1.next/\b≠H.next)/\H1.get b=H.get b:=fun b hb=>⟨⟨om,om⟩,k1 b om⟩
 refine (liR (Cv (aS l)) (n:=0) (deep:=1) rL (z1.mono km) (z2.mono km) r1 om om om).mono ?_
 rintro u H2 ⟨ho,F2⟩
 have E:cZ H.next H H2:=⟨by have:=F2.next; omega,fun c hc=>by rw[F2.old c om om,k1 c om]⟩
 have hr:pn 0 1 l↔iD l=true:=by
  unfold pn iD tJ
  simp only[SE,SP]
  constructor
  ·rintro ⟨a,b,c⟩; exact⟨a,om,om⟩
  ·rintro ⟨a,b,c⟩; exact⟨a,om,om⟩
 rcases ho with⟨h,rfl,_⟩ | ⟨h,rfl⟩
 ·rw[hr.1 h]
  simp only[sA,sB,seval]
  exact⟨tt,E⟩
 ·have:iD l=false:=by
   cases hh:iD l with
   | false=>rfl
   | true=>exact absurd (hr.2 hh) h
  rw[this]
  simp only[sA,sB,seval]
  exact⟨tt,E⟩
end Go.Proofs.Wo
