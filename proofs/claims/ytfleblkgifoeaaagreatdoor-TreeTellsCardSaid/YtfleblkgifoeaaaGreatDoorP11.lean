/- Part of a proof (YP9 YC3 YQ1 YQ2 YPN YQ3); no condition. -/
import Derived.Test.YtfleblkgifoeaaaGreatDoorProg
import Derived.KernelRfl
import Derived.Test.YtfleblkgifoeaaaGreatDoorP7
import Derived.Test.YtfleblkgifoeaaaGreatDoorP9
import Derived.Test.YtfleblkgifoeaaaGreatDoorP10
set_option linter.unusedSimpArgs false
set_option linter.unusedVariables false
set_option linter.unnecessarySimpa false
namespace Go.Proofs.Wo
open Go.Abs Go.Abs.S
def EJ(s:Bs)(pe:NT->Nat->Wd->Option (dt Ex))(rec:NS->Nat->Wd->Option (dt (List St)))(g:Nat)(w:Wd):Option (dt (Ex×List St)):=
 dn (bE s [40] w) fun w1=>fF (pe (.rule 5) g w1) fun e w2=>dn (bE s [41] w2) fun w3=>fF (rec .body g w3) fun l w4=>aV (e,l) w4
theorem vC(s:Bs)(pe:NT->Nat->Wd->Option (dt Ex))(rec:NS->Nat->Wd->Option (dt (List St)))(g:Nat)(w:Wd)(f:Ex->List St->Wd->Option (dt (List St))):jS s pe rec g w f=fF (EJ s pe rec g w) fun p w4=>f p.1 p.2 w4:=by
 unfold jS EJ
 cases bE s [40] w with
 | error e=>rfl
 | ok w1=>
  simp only[dn]
  cases pe (.rule 5) g w1 with
  | none=>rfl
  | some o=>
   cases o with
   | error e=>rfl
   | ok p=>
    obtain⟨e,w2⟩:=p
    simp only[fF]
    cases bE s [41] w2 with
    | error e=>rfl
    | ok w3=>
     simp only[dn]
     cases rec .body g w3 with
     | none=>rfl
     | some o=>
      cases o with
      | error e=>rfl
      | ok p=>obtain⟨l,w4⟩:=p; rfl
theorem qw{n pb sb:Nat}{s:Bs}{f:Nat}(ihr:mG n pb s f 5)(ihb:Dv n pb s f){H:aa}{w:Wd}{g:Nat}{x y:Int}{orv:ab}{k line:Nat}{r:dt (Ex×List St)}(A:PA n pb s H w g x y orv)(hr:EJ s (pE s f) (pS s f) g w=some r)(hl:aT H sb (ee k [] Zx bP bP line))(hs:n<=sb)(hsb:sb<H.next) :
  aq Tryz.prog aA 66 [ae pb 11 0,ae sb 9 0] H fun u H'=>(match r with
   | .ok (p,w')=>u=.bool true/\∃xs v C,aT H' sb (ee k [] xs v bP line)/\XE (In H.next H'.next) H' p.1 xs/\eX (In H.next H'.next) H' 9 v p.2.length C/\gc (In H.next H'.next) H' p.2 C/\aT H' pb (cM s w' g x y orv)/\fy s w'
   | .error e=>u=.bool false/\∃w',aT H' pb (cM s w' g e.1 e.2 orv))/\Fs pb sb H H':=by
 refine af rfl PX rfl ?_
 unfold EJ at hr
 have hlt:=A.lt
 have hpn:=A.hpb
 simp only[c66,sA,sB,seval]
 refine (ef A.row A.lt A.en [40]).mono ?_
 rintro u H3 ⟨ho,F3⟩
 have e3:=F3.next
 rcases cJ hr with⟨e,he,rfl⟩ | ⟨w2,he,hr⟩
 ·rw[he]at ho
  obtain⟨rfl,r3⟩:=ho
  simp only[sA,sB,seval]
  exact⟨⟨tt,w,r3⟩,.of F3⟩
 rw[he]at ho
 obtain⟨rfl,r3⟩:=ho
 have A3:=A.fwd F3 r3 (bQ he A.ok).2.2.1 A.hg
 have q3:=hl.same (F3.old sb om om)
 obtain⟨r0,hr0⟩:∃r0,pE s f (.rule 5) g w2=some r0:=by
  rcases cG hr with⟨e,he,rfl⟩ | ⟨e1,w3,he,_⟩
  ·exact⟨_,he⟩
  ·exact⟨_,he⟩
 simp only[sA,sB,seval,aw,aB]
 refine (nN ihr A3 hr0 q3 rfl hs om (i:=2) om).mono ?_
 rintro u H4 ⟨ho,F4⟩
 have e4:=F4.next
 have F04:Fs pb sb H H4:=(Fs.of F3).trans F4
 rcases cG hr with⟨e,he,rfl⟩ | ⟨e1,w3,he,hr⟩
 ·rw[hr0]at he
  simp only[sJ]at he
  subst he
  obtain⟨rfl,w',r4⟩:=ho
  simp only[sA,sB,seval]
  exact⟨⟨tt,w',r4⟩,F04⟩
 rw[hr0]at he
 simp only[sJ]at he
 subst he
 obtain⟨rfl,xs,q4,hx,r4,o4⟩:=ho
 have q4':aT H4 sb (ee k [] xs bP bP line):=q4
 have A4:=A3.fws hs F4 r4 o4 A.hg
 simp only[sA,sB,seval]
 refine (ef A4.row A4.lt A4.en [41]).mono ?_
 rintro u H5 ⟨ho,F5⟩
 have e5:=F5.next
 have F05:=F04.trans (.of F5)
 rcases cJ hr with⟨e,he,rfl⟩ | ⟨w4,he,hr⟩
 ·rw[he]at ho
  obtain⟨rfl,r5⟩:=ho
  simp only[sA,sB,seval]
  exact⟨⟨tt,w3,r5⟩,F05⟩
 rw[he]at ho
 obtain⟨rfl,r5⟩:=ho
 have A5:=A4.fwd F5 r5 (bQ he o4).2.2.1 A.hg
 have q5:=q4'.same (F5.old _ om om)
 obtain⟨r1,hr1⟩:∃r1,pS s f .body g w4=some r1:=by
  rcases cG hr with⟨e,he,rfl⟩ | ⟨e1,w3,he,_⟩
  ·exact⟨_,he⟩
  ·exact⟨_,he⟩
 have l9:(ee (k:Int) [] xs bP bP line).length=9:=by simp[ee,hx.len]
 obtain⟨a,b,c,d,rfl⟩:∃a b c d,xs=[a,b,c,d]:=by
  have:=hx.len
  match xs,this with
  | [a,b,c,d],_=>exact⟨a,b,c,d,rfl⟩
 simp only[sA,sB,seval,aw,aB]
 refine (ihb H5 w4 g x y orv r1 sb 6 _ A5 q5 l9 hs om rfl hr1).mono ?_
 rintro u H6 ⟨ho,F6⟩
 have e6:=F6.next
 have F06:=F05.trans F6
 rcases cG hr with⟨e,he,rfl⟩ | ⟨out,w5,he,hr⟩
 ·rw[hr1]at he
  simp only[sJ]at he
  subst he
  obtain⟨rfl,w',r6⟩:=ho
  simp only[sA,sB,seval]
  exact⟨⟨tt,w',r6⟩,F06⟩
 rw[hr1]at he
 simp only[sJ]at he
 subst he
 obtain⟨rfl,v,C,q6,z1,z2,r6,o6⟩:=ho
 simp only[aV,sJ]at hr
 subst hr
 simp only[sA,sB,seval]
 have km:∀c,In H5.next H6.next c->In H.next H6.next c/\H6.get c=H6.get c:=fun c hc=>⟨⟨by have:=hc.1; omega,hc.2⟩,rfl⟩
 refine⟨⟨tt,[a,b,c,d],v,C,q6,hx.mono fun c hc=>?_,z1.mono km,z2.mono km,r6,o6⟩,F06⟩
 have h1:=hc.1
 have h2:=hc.2
 exact⟨⟨om,om⟩,by rw[F6.old c om om om,F5.old c h2 om]⟩
theorem yM{H:aa}{pb c:Nat}{s:Bs}{w:Wd}{g:Nat}{x y:Int}{orv:ab}(hc:aT H c [ae pb 11 0])(hr:aT H pb (cM s w ((g+1:Nat):Int) x y orv))(hg:g<=1000):aq Tryz.prog aA 3135 [ae c 1 0] H fun _ H'=>aT H' pb (cM s w (g:Int) x y orv)/\H'.next=H.next/\∀k,k≠pb->H'.get k=H.get k:=by
 refine kU rfl Lt rfl ?_
 have lc:am false 1 H (ae c 1 0)=some (ae pb 11 0):=ah hc rfl rfl
 have l7:am false 1 H (ae pb 11 7)=some (.int .i64 ((g+1:Nat):Int)):=ah hr rfl rfl
 have wk:IntKind.i64.wrap (((g+1:Nat):Int)-1)=(g:Int):=xh
 obtain⟨H5,m5,r5,n5,k5⟩:=cE hr (n:=11) rfl (i:=7) om (x:=.int .i64 (g:Int)) rfl (l':=cM s w (g:Int) x y orv) rfl
 simp only[Ld,sA,sB,seval,lc,aw,aB,l7,wk,m5]
 exact⟨[],rfl,r5,n5,k5⟩
theorem Ph:bB [.int .u8 0,.str [],.int .u8 0,.str [],.int .i64 0,.slice none 0 (.known 0),.slice none 0 (.known 0),.slice none 0 (.known 0),.int .i64 0] []=some (.agg [.int .u8 0,.str [],.int .u8 0,.str [],.int .i64 0,.slice none 0 (.known 0),.slice none 0 (.known 0),.slice none 0 (.known 0),.int .i64 0]):=_root_.id rfl
theorem Pf(n:Int):bB [.int .u8 0,.str [],.int .u8 0,.str [],.int .i64 0,.slice none 0 (.known 0),.slice none 0 (.known 0),.slice none 0 (.known 0),.int .i64 0] [(8,1,.int .i64 n)]=some (.agg (ee 0 [] Zx bP bP n)):=_root_.id rfl
theorem iC{P:Nat->Prop}{H:aa}{k line:Nat}{S:Bs}{e:Ex}{xs:List ab}{vb ve:ab}{Cb Ce:List ab}{body els:List St}(h1:XE P H e xs)(h2:eX P H 9 vb body.length Cb)(h3:gc P H body Cb)(h4:eX P H 9 ve els.length Ce)(h5:gc P H els Ce):XS P H (.mk k S e body els line) (ee k S xs vb ve line):=
 ⟨xs,vb,Cb,ve,Ce,rfl,h1,h2,h3,h4,h5⟩
theorem I7{n pb:Nat}{s:Bs}{f:Nat}(ihr:mG n pb s f 5)(ihb:Dv n pb s f):IG n pb s (f+1):=by
 intro H w g x y orv r A hr
 refine kU rfl Qc rfl ?_
 rw[iM]at hr
 simp only[ic]at hr
 have hlt:=A.lt
 have hpn:=A.hpb
 have hnn:=A.hn
 obtain⟨H1,m1,r1,n1,k1⟩:=au H [ae pb 11 0] (n:=1) rfl
 obtain⟨H2,m2,r2,n2,k2⟩:=au H1 [.int .u8 0,.str [],.int .u8 0,.str [],.int .i64 0,.slice none 0 (.known 0),.slice none 0 (.known 0),.slice none 0 (.known 0),.int .i64 0] (n:=9) rfl
 have g90:pv [ae pb 11 0] 90=.tuple []:=rfl
 have g91:pv [ae pb 11 0] 91=.tuple []:=rfl
 have F2:Fp pb H H2:=⟨om,fun c hc _=>by rw[k2 c om,k1 c om]⟩
 have A2:=A.fwd F2 (A.row.same (by rw[k2 pb om,k1 pb om])) A.ok A.hg
 have c1:aT H2 H.next [ae pb 11 0]:=r1.same (k2 _ om)
 have l1:∀{K:aa},Fp pb H2 K->am false 1 K (ae H.next 1 0)=some (ae pb 11 0):=fun q=>ah (c1.same (q.old _ om om)) rfl rfl
 have l1':=l1 (Fp.refl pb H2)
 have b0:=Ph
 by_cases hg:200<=g
 ·rw[if_pos hg]at hr
  simp only[jq,sJ]at hr
  subst hr
  simp only[QE,sA,sB,seval,iu,m1,m2,l1']
  refine (uM A2.row hg).mono ?_
  rintro _ H3 ⟨rfl,r3,F3⟩
  obtain⟨H4,m4,r4,n4,k4⟩:=aj (r2.same (F3.old _ om om)) (n:=9) rfl (xs:=Z9) rfl rfl
  have l4:=al r4 (n:=9) rfl
  have f3:=F3.next
  simp only[sA,sB,seval,b0,m4,g90,g91,kF,oS,l4,iK]
  exact⟨⟨tt,w,r3.same (k4 _ om)⟩,om,fun c hc hp=>by rw[k4 c om,F3.old c om hp,F2.old c hc hp]⟩
 rw[if_neg hg]at hr
 simp only[QE,sW,sL,iZ,iI,nf,sB,seval]
 rw[dS]
 simp only[sW,sL,iZ,iI,nf,sB,seval,iu,m1,m2,l1']
 refine (uL A2.row hg).mono ?_
 rintro _ H3 ⟨rfl,r3,F3,n3⟩
 have A3:=A2.fwd F3 r3 A.ok om
 have l3:=l1 F3
 have ll:am false 1 H3 (ae pb 11 4)=some (.int .i64 (w.line:Int)):=ah A3.row rfl rfl
 obtain⟨H4,m4,r4,n4,k4⟩:=au H3 [.int .u8 0,.str [],.int .u8 0,.str [],.int .i64 0,.slice none 0 (.known 0),.slice none 0 (.known 0),.slice none 0 (.known 0),.int .i64 0] (n:=9) rfl
 obtain⟨H5,m5,r5,n5,k5⟩:=aj r4 (n:=9) rfl (xs:=ee 0 [] Zx bP bP w.line) rfl rfl
 have F35:Fp pb H3 H5:=⟨om,fun c hc _=>by rw[k5 c om,k4 c om]⟩
 have A5:=A3.fwd F35 (r3.same (by rw[k5 pb om,k4 pb om])) A.ok om
 have F25:=F3.trans F35
 obtain⟨sb,hsb⟩:∃sb,sb=H3.next:=⟨_,rfl⟩
 rw[<- hsb]at m4 r4 k4 m5 r5 k5
 have bl:=Pf (w.line:Int)
 simp only[sW,sL,iZ,iI,nf,sB,seval,g91,Cl,l3,aw,aB,ll,bl,m4,m5]
 rw[dS]
 have l1s:∀{K:aa},Fs pb sb H5 K->am false 1 K (ae H.next 1 0)=some (ae pb 11 0):=fun q=>ah (c1.same (by rw[q.old _ om om om,F25.old _ om om])) rfl rfl
 refine fu (fun (T:bG) H'=>T 1=ae H.next 1 0/\T 2=ae H1.next 9 0/\T 4=ae sb 9 0/\T 90=.tuple []/\T 91=.func (.func 63) [] [ae H.next 1 0]/\Fs pb sb H5 H'/\((∃st w' xs,r=.ok ([st],w')/\T 5=.bool true/\aT H' sb xs/\XS (In H5.next H'.next) H' st xs/\aT H' pb (cM s w' ((g+1:Nat):Int) x y orv)/\fy s w')∨∃e w',r=.error e/\T 5=.bool false/\aT H' pb (cM s w' ((g+1:Nat):Int) e.1 e.2 orv))) (bH _ _) ?_ ?_
 rotate_left
 ·rintro T H6 ⟨t1,t2,t4,t90,t91,F6,⟨st,w',xs,rfl,t5,rx,hx,rp,hw⟩ | ⟨e,w',rfl,t5,rp⟩⟩
  ·have e6:=F6.next
   have lx:=al rx hx.len
   obtain⟨H7,m7,r7,n7,k7⟩:=aj (H:=H6) (b:=H1.next) (r2.same (by rw[F6.old _ om om om,F25.old _ om om])) (n:=9) rfl hx.len hx.one
   simp only[sA,sB,seval,t1,t2,t4,t5,t90,t91,lx,m7,kF,jh,oS,kG,jc]
   refine (yM (c1.same (by rw[k7 _ om,F6.old _ om om om,F25.old _ om om])) (rp.same (k7 _ om)) om).mono ?_
   rintro _ H8 ⟨r8,n8,k8⟩
   have l8:=al (r7.same (k8 _ om)) hx.len
   simp only[sA,sB,seval,t2,l8,iK]
   refine⟨⟨st,xs,rfl,tt,hx.mono fun c hc=>?_,r8,hw⟩,om,fun c hc hp=>by rw[k8 c hp,k7 c om,F6.old c om hp om,F25.old c om hp,F2.old c hc hp]⟩
   have h1:=hc.1
   have h2:=hc.2
   exact⟨⟨om,om⟩,by rw[k8 c om,k7 c om]⟩
  ·have e6:=F6.next
   obtain⟨H7,m7,r7,n7,k7⟩:=aj (H:=H6) (b:=H1.next) (r2.same (by rw[F6.old _ om om om,F25.old _ om om])) (n:=9) rfl (xs:=Z9) rfl rfl
   simp only[sA,sB,seval,t1,t2,t4,t5,t90,t91,b0,m7,kF,jh,oS,kG,jc]
   refine (yM (c1.same (by rw[k7 _ om,F6.old _ om om om,F25.old _ om om])) (rp.same (k7 _ om)) om).mono ?_
   rintro _ H8 ⟨r8,n8,k8⟩
   have l8:=al (r7.same (k8 _ om)) (n:=9) rfl
   simp only[sA,sB,seval,t2,l8,iK]
   exact⟨⟨tt,w',r8⟩,om,fun c hc hp=>by rw[k8 c hp,k7 c om,F6.old c om hp om,F25.old c om hp,F2.old c hc hp]⟩
 have hns:n<=sb:=om
 have l5:=l1s (Fs.of (Fp.refl pb H5))
 simp only[sA,sB,seval,l5]
 refine (iS A5.row [108,101,116]).mono ?_
 rintro _ _ ⟨rfl,rfl⟩
 cases ca:j6 w [108,101,116] with
 | true=>
  rw[if_pos ca]at hr
  obtain⟨H6,m6,r6,n6,k6⟩:=cE r5 (n:=9) rfl (i:=0) om (x:=.int .u8 1) rfl (l':=ee (1:Nat) [] Zx bP bP w.line) rfl
  have F6:Fs pb sb H5 H6:=⟨om,fun c _ _ h=>k6 c h⟩
  have A6:=A5.fws hns F6 (A5.row.same (k6 pb om)) A.ok om
  have l6:=l1s F6
  simp only[sA,sB,seval,fld0,m6,l6]
  refine (bZ A6.row A6.lt A6.en).mono ?_
  rintro u H7 ⟨ho,F7⟩
  have e7:=F7.next
  have F57:=F6.trans (.of F7)
  rcases cJ hr with⟨e,he,rfl⟩ | ⟨w1,he,hr⟩
  ·rw[he]at ho
   obtain⟨rfl,r7⟩:=ho
   simp only[sA,sB,seval,g90]
   exact⟨tt,tt,tt,tt,tt,F57,.inr ⟨e,w,rfl,tt,r7⟩⟩
  rw[he]at ho
  obtain⟨rfl,r7⟩:=ho
  have A7:=A6.fwd F7 r7 (aK he A.ok (by rw[gF ca]; omega)).1 om
  have l7:=l1s F57
  simp only[sA,sB,seval,l7]
  refine (qv ihr A7 hr (r6.same (F7.old sb om om)) hns om).mono ?_
  rintro u H8 ⟨ho,F8⟩
  have F58:=F57.trans F8
  cases r with
  | error e=>
   obtain⟨rfl,w',r8⟩:=ho
   simp only[sA,sB,seval,g90]
   exact⟨tt,tt,tt,tt,tt,F58,.inr ⟨e,w',rfl,tt,r8⟩⟩
  | ok p=>
   obtain⟨l,w'⟩:=p
   obtain⟨rfl,e,xs,rfl,q8,hx,r8,o8⟩:=ho
   simp only[sA,sB,seval,g90]
   exact⟨tt,tt,tt,tt,tt,F58,.inl ⟨_,w',_,rfl,tt,q8,iC (hx.mono fun c hc=>⟨⟨by have:=hc.1; omega,hc.2⟩,rfl⟩) (.nil _ _ _) rfl (.nil _ _ _) rfl,r8,o8⟩⟩
 | false=>
 rw[if_neg (by rw[ca]; simp)]at hr
 simp only[sA,sB,seval,l5]
 refine (iS A5.row [115,101,116]).mono ?_
 rintro _ _ ⟨rfl,rfl⟩
 cases cb:j6 w [115,101,116] with
 | true=>
  rw[if_pos cb]at hr
  obtain⟨H6,m6,r6,n6,k6⟩:=cE r5 (n:=9) rfl (i:=0) om (x:=.int .u8 2) rfl (l':=ee (2:Nat) [] Zx bP bP w.line) rfl
  have F6:Fs pb sb H5 H6:=⟨om,fun c _ _ h=>k6 c h⟩
  have A6:=A5.fws hns F6 (A5.row.same (k6 pb om)) A.ok om
  have l6:=l1s F6
  simp only[sA,sB,seval,fld0,m6,l6]
  refine (bZ A6.row A6.lt A6.en).mono ?_
  rintro u H7 ⟨ho,F7⟩
  have e7:=F7.next
  have F57:=F6.trans (.of F7)
  rcases cJ hr with⟨e,he,rfl⟩ | ⟨w1,he,hr⟩
  ·rw[he]at ho
   obtain⟨rfl,r7⟩:=ho
   simp only[sA,sB,seval,g90]
   exact⟨tt,tt,tt,tt,tt,F57,.inr ⟨e,w,rfl,tt,r7⟩⟩
  rw[he]at ho
  obtain⟨rfl,r7⟩:=ho
  have A7:=A6.fwd F7 r7 (aK he A.ok (by rw[gF cb]; omega)).1 om
  have l7:=l1s F57
  simp only[sA,sB,seval,l7]
  refine (qv ihr A7 hr (r6.same (F7.old sb om om)) hns om).mono ?_
  rintro u H8 ⟨ho,F8⟩
  have F58:=F57.trans F8
  cases r with
  | error e=>
   obtain⟨rfl,w',r8⟩:=ho
   simp only[sA,sB,seval,g90]
   exact⟨tt,tt,tt,tt,tt,F58,.inr ⟨e,w',rfl,tt,r8⟩⟩
  | ok p=>
   obtain⟨l,w'⟩:=p
   obtain⟨rfl,e,xs,rfl,q8,hx,r8,o8⟩:=ho
   simp only[sA,sB,seval,g90]
   exact⟨tt,tt,tt,tt,tt,F58,.inl ⟨_,w',_,rfl,tt,q8,iC (hx.mono fun c hc=>⟨⟨by have:=hc.1; omega,hc.2⟩,rfl⟩) (.nil _ _ _) rfl (.nil _ _ _) rfl,r8,o8⟩⟩
 | false=>
 rw[if_neg (by rw[cb]; simp)]at hr
 simp only[sA,sB,seval,l5]
 refine (iS A5.row [105,102]).mono ?_
 rintro _ _ ⟨rfl,rfl⟩
 cases cc:j6 w [105,102] with
 | true=>
  rw[if_pos cc]at hr
  obtain⟨H6,m6,r6,n6,k6⟩:=cE r5 (n:=9) rfl (i:=0) om (x:=.int .u8 3) rfl (l':=ee (3:Nat) [] Zx bP bP w.line) rfl
  have F6:Fs pb sb H5 H6:=⟨om,fun c _ _ h=>k6 c h⟩
  have A6:=A5.fws hns F6 (A5.row.same (k6 pb om)) A.ok om
  have l6:=l1s F6
  simp only[sA,sB,seval,fld0,m6,l6]
  refine (bZ A6.row A6.lt A6.en).mono ?_
  rintro u H7 ⟨ho,F7⟩
  have e7:=F7.next
  have F57:=F6.trans (.of F7)
  rcases cJ hr with⟨e,he,rfl⟩ | ⟨w1,he,hr⟩
  ·rw[he]at ho
   obtain⟨rfl,r7⟩:=ho
   simp only[sA,sB,seval,g90]
   exact⟨tt,tt,tt,tt,tt,F57,.inr ⟨e,w,rfl,tt,r7⟩⟩
  rw[he]at ho
  obtain⟨rfl,r7⟩:=ho
  have A7:=A6.fwd F7 r7 (aK he A.ok (by rw[gF cc]; omega)).1 om
  have l7:=l1s F57
  rw[vC]at hr
  obtain⟨r0,hr0⟩:∃r0,EJ s (pE s f) (pS s f) (g+1) w1=some r0:=by
   rcases cG hr with⟨e,he,rfl⟩ | ⟨e1,w3,he,_⟩
   ·exact⟨_,he⟩
   ·exact⟨_,he⟩
  simp only[sA,sB,seval,l7]
  refine (qw ihr ihb A7 hr0 (r6.same (F7.old sb om om)) hns om).mono ?_
  rintro u H8 ⟨ho,F8⟩
  have e8:=F8.next
  have F58:=F57.trans F8
  rcases cG hr with⟨e,he,rfl⟩ | ⟨⟨e1,body⟩,w2,he,hr⟩
  ·rw[hr0]at he
   simp only[sJ]at he
   subst he
   obtain⟨rfl,w',r8⟩:=ho
   simp only[sA,sB,seval,g90]
   exact⟨tt,tt,tt,tt,tt,F58,.inr ⟨e,w',rfl,tt,r8⟩⟩
  rw[hr0]at he
  simp only[sJ]at he
  subst he
  obtain⟨rfl,xs,v,C,q8,hx,z1,z2,r8,o8⟩:=ho
  simp only at hx z1 z2 hr
  have km:∀c,In H7.next H8.next c->In H5.next H8.next c/\H8.get c=H8.get c:=fun c hc=>⟨⟨by have:=hc.1; omega,hc.2⟩,rfl⟩
  have hx5:=hx.mono km
  have z15:=z1.mono km
  have z25:=z2.mono km
  have A8:=A7.fws hns F8 r8 o8 om
  have l8:=l1s F58
  simp only[sA,sB,seval,l8]
  refine (iS A8.row [101,108,115,101]).mono ?_
  rintro _ _ ⟨rfl,rfl⟩
  cases ce:j6 w2 [101,108,115,101] with
  | false=>
   rw[if_neg (by rw[ce]; simp)]at hr
   simp only[aV,sJ]at hr
   subst hr
   simp only[sA,sB,seval,g90]
   exact⟨tt,tt,tt,tt,tt,F58,.inl ⟨_,w2,_,rfl,tt,q8,iC hx5 z15 z25 (.nil _ _ _) rfl,r8,o8⟩⟩
  | true=>
  rw[if_pos ce]at hr
  simp only[sA,sB,seval,l8]
  refine (bZ A8.row A8.lt A8.en).mono ?_
  rintro u H9 ⟨ho,F9⟩
  have e9:=F9.next
  have F59:=F58.trans (.of F9)
  rcases cJ hr with⟨e,he,rfl⟩ | ⟨w3,he,hr⟩
  ·rw[he]at ho
   obtain⟨rfl,r9⟩:=ho
   simp only[sA,sB,seval,g90]
   exact⟨tt,tt,tt,tt,tt,F59,.inr ⟨e,w2,rfl,tt,r9⟩⟩
  rw[he]at ho
  obtain⟨rfl,r9⟩:=ho
  have A9:=A8.fwd F9 r9 (aK he o8 (by rw[gF ce]; omega)).1 om
  have l9:=l1s F59
  obtain⟨r1,hr1⟩:∃r1,pS s f .body (g+1) w3=some r1:=by
   rcases cG hr with⟨e,he,rfl⟩ | ⟨e1,w3,he,_⟩
   ·exact⟨_,he⟩
   ·exact⟨_,he⟩
  obtain⟨a,b,c,d,rfl⟩:∃a b c d,xs=[a,b,c,d]:=by
   have:=hx.len
   match xs,this with
   | [a,b,c,d],_=>exact⟨a,b,c,d,rfl⟩
  simp only[sA,sB,seval,l9,aB]
  refine (ihb H9 w3 (g+1) x y orv r1 sb 7 _ A9 (q8.same (F9.old sb om om)) rfl hns om rfl hr1).mono ?_
  rintro u Ha ⟨ho,Fa⟩
  have ea:=Fa.next
  have F5a:=F59.trans Fa
  rcases cG hr with⟨e,he,rfl⟩ | ⟨els,w4,he,hr⟩
  ·rw[hr1]at he
   simp only[sJ]at he
   subst he
   obtain⟨rfl,w',ra⟩:=ho
   simp only[sA,sB,seval,g90]
   exact⟨tt,tt,tt,tt,tt,F5a,.inr ⟨e,w',rfl,tt,ra⟩⟩
  rw[hr1]at he
  simp only[sJ]at he
  subst he
  obtain⟨rfl,v2,C2,qa,y1,y2,ra,oa⟩:=ho
  simp only[aV,sJ]at hr
  subst hr
  have kn:∀c,In H7.next H8.next c->In H5.next Ha.next c/\Ha.get c=H8.get c:=fun c hc=>by
   have h1:=hc.1
   have h2:=hc.2
   exact⟨⟨om,om⟩,by rw[Fa.old c om om om,F9.old c h2 om]⟩
  have kb:∀c,In H9.next Ha.next c->In H5.next Ha.next c/\Ha.get c=Ha.get c:=fun c hc=>⟨⟨by have:=hc.1; omega,hc.2⟩,rfl⟩
  simp only[sA,sB,seval,g90]
  exact⟨tt,tt,tt,tt,tt,F5a,.inl ⟨_,w4,ee (3:Nat) [] [a,b,c,d] v v2 w.line,rfl,tt,qa,iC (hx.mono kn) (z1.mono kn) (z2.mono kn) (y1.mono kb) (y2.mono kb),ra,oa⟩⟩
 | false=>
 rw[if_neg (by rw[cc]; simp)]at hr
 simp only[sA,sB,seval,l5]
 refine (iS A5.row [119,104,105,108,101]).mono ?_
 rintro _ _ ⟨rfl,rfl⟩
 cases cd:j6 w [119,104,105,108,101] with
 | true=>
  rw[if_pos cd]at hr
  obtain⟨H6,m6,r6,n6,k6⟩:=cE r5 (n:=9) rfl (i:=0) om (x:=.int .u8 4) rfl (l':=ee (4:Nat) [] Zx bP bP w.line) rfl
  have F6:Fs pb sb H5 H6:=⟨om,fun c _ _ h=>k6 c h⟩
  have A6:=A5.fws hns F6 (A5.row.same (k6 pb om)) A.ok om
  have l6:=l1s F6
  simp only[sA,sB,seval,fld0,m6,l6]
  refine (bZ A6.row A6.lt A6.en).mono ?_
  rintro u H7 ⟨ho,F7⟩
  have e7:=F7.next
  have F57:=F6.trans (.of F7)
  rcases cJ hr with⟨e,he,rfl⟩ | ⟨w1,he,hr⟩
  ·rw[he]at ho
   obtain⟨rfl,r7⟩:=ho
   simp only[sA,sB,seval,g90]
   exact⟨tt,tt,tt,tt,tt,F57,.inr ⟨e,w,rfl,tt,r7⟩⟩
  rw[he]at ho
  obtain⟨rfl,r7⟩:=ho
  have A7:=A6.fwd F7 r7 (aK he A.ok (by rw[gF cd]; omega)).1 om
  have l7:=l1s F57
  rw[vC]at hr
  obtain⟨r0,hr0⟩:∃r0,EJ s (pE s f) (pS s f) (g+1) w1=some r0:=by
   rcases cG hr with⟨e,he,rfl⟩ | ⟨e1,w3,he,_⟩
   ·exact⟨_,he⟩
   ·exact⟨_,he⟩
  simp only[sA,sB,seval,l7]
  refine (qw ihr ihb A7 hr0 (r6.same (F7.old sb om om)) hns om).mono ?_
  rintro u H8 ⟨ho,F8⟩
  have e8:=F8.next
  have F58:=F57.trans F8
  rcases cG hr with⟨e,he,rfl⟩ | ⟨⟨e1,body⟩,w2,he,hr⟩
  ·rw[hr0]at he
   simp only[sJ]at he
   subst he
   obtain⟨rfl,w',r8⟩:=ho
   simp only[sA,sB,seval,g90]
   exact⟨tt,tt,tt,tt,tt,F58,.inr ⟨e,w',rfl,tt,r8⟩⟩
  rw[hr0]at he
  simp only[sJ]at he
  subst he
  obtain⟨rfl,xs,v,C,q8,hx,z1,z2,r8,o8⟩:=ho
  simp only at hx z1 z2 hr
  have km:∀c,In H7.next H8.next c->In H5.next H8.next c/\H8.get c=H8.get c:=fun c hc=>⟨⟨by have:=hc.1; omega,hc.2⟩,rfl⟩
  have hx5:=hx.mono km
  have z15:=z1.mono km
  have z25:=z2.mono km
  simp only[aV,sJ]at hr
  subst hr
  simp only[sA,sB,seval,g90]
  exact⟨tt,tt,tt,tt,tt,F58,.inl ⟨_,w2,_,rfl,tt,q8,iC hx5 z15 z25 (.nil _ _ _) rfl,r8,o8⟩⟩
 | false=>
 rw[if_neg (by rw[cd]; simp)]at hr
 simp only[sA,sB,seval,l5]
 refine (iS A5.row [114,101,116,117,114,110]).mono ?_
 rintro _ _ ⟨rfl,rfl⟩
 cases c5:j6 w [114,101,116,117,114,110] with
 | true=>
  rw[if_pos c5]at hr
  obtain⟨H6,m6,r6,n6,k6⟩:=cE r5 (n:=9) rfl (i:=0) om (x:=.int .u8 5) rfl (l':=ee (5:Nat) [] Zx bP bP w.line) rfl
  have F6:Fs pb sb H5 H6:=⟨om,fun c _ _ h=>k6 c h⟩
  have A6:=A5.fws hns F6 (A5.row.same (k6 pb om)) A.ok om
  have l6:=l1s F6
  simp only[sA,sB,seval,fld0,m6,l6]
  refine (bZ A6.row A6.lt A6.en).mono ?_
  rintro u H7 ⟨ho,F7⟩
  have e7:=F7.next
  have F57:=F6.trans (.of F7)
  rcases cJ hr with⟨e,he,rfl⟩ | ⟨w1,he,hr⟩
  ·rw[he]at ho
   obtain⟨rfl,r7⟩:=ho
   simp only[sA,sB,seval,g90]
   exact⟨tt,tt,tt,tt,tt,F57,.inr ⟨e,w,rfl,tt,r7⟩⟩
  rw[he]at ho
  obtain⟨rfl,r7⟩:=ho
  have A7:=A6.fwd F7 r7 (aK he A.ok (by rw[gF c5]; omega)).1 om
  have l7:=l1s F57
  obtain⟨r0,hr0⟩:∃r0,pE s f (.rule 5) (g+1) w1=some r0:=by
   rcases cG hr with⟨e,he,rfl⟩ | ⟨e1,w3,he,_⟩
   ·exact⟨_,he⟩
   ·exact⟨_,he⟩
  simp only[sA,sB,seval,l7,aB]
  refine (nN ihr A7 hr0 (r6.same (F7.old sb om om)) rfl hns om (i:=2) om).mono ?_
  rintro u H8 ⟨ho,F8⟩
  have e8:=F8.next
  have F58:=F57.trans F8
  rcases cG hr with⟨e,he,rfl⟩ | ⟨e1,w2,he,hr⟩
  ·rw[hr0]at he
   simp only[sJ]at he
   subst he
   obtain⟨rfl,w',r8⟩:=ho
   simp only[sA,sB,seval,g90]
   exact⟨tt,tt,tt,tt,tt,F58,.inr ⟨e,w',rfl,tt,r8⟩⟩
  rw[hr0]at he
  simp only[sJ]at he
  subst he
  obtain⟨rfl,xs,q8,hx,r8,o8⟩:=ho
  have q8':aT H8 sb (ee (5:Nat) [] xs bP bP w.line):=q8
  have A8:=A7.fws hns F8 r8 o8 om
  have l8:=l1s F58
  simp only[sA,sB,seval,l8]
  refine (ef A8.row A8.lt A8.en [59]).mono ?_
  rintro u H9 ⟨ho,F9⟩
  have F59:=F58.trans (.of F9)
  rcases cJ hr with⟨e,he,rfl⟩ | ⟨w3,he,hr⟩
  ·rw[he]at ho
   obtain⟨rfl,r9⟩:=ho
   simp only[sA,sB,seval,g90]
   exact⟨tt,tt,tt,tt,tt,F59,.inr ⟨e,w2,rfl,tt,r9⟩⟩
  rw[he]at ho
  obtain⟨rfl,r9⟩:=ho
  simp only[aV,sJ]at hr
  subst hr
  have e9:=F9.next
  simp only[sA,sB,seval,g90]
  refine⟨tt,tt,tt,tt,tt,F59,.inl ⟨_,w3,_,rfl,tt,q8'.same (F9.old sb om om),iC (hx.mono fun c hc=>?_) (.nil _ _ _) rfl (.nil _ _ _) rfl,r9,(bQ he o8).2.2.1⟩⟩
  have h1:=hc.1
  have h2:=hc.2
  exact⟨⟨om,om⟩,F9.old c h2 om⟩
 | false=>
 rw[if_neg (by rw[c5]; simp)]at hr
 simp only[jq,sJ]at hr
 subst hr
 simp only[sA,sB,seval,l5]
 refine (ja A5.row 101).mono ?_
 rintro _ H6 ⟨rfl,r6,F6⟩
 simp only[sA,sB,seval,g90]
 exact⟨tt,tt,tt,tt,tt,.of F6,.inr ⟨_,w,rfl,tt,r6⟩⟩
structure QN(n pb:Nat)(s:Bs)(f:Nat):Prop where
 stmt:IG n pb s f
 body:Dv n pb s f
theorem Dm(n pb:Nat)(s:Bs):∀(f:Nat),f<=1000000->∀f',f'<=f->QN n pb s f'
 | 0,_,f',h=>by
  obtain rfl:f'=0:=om
  exact⟨fun H w g x y orv r _ hr=>by simp[pS]at hr,CR om fun f' h=>absurd h (Nat.not_lt_zero _)⟩
 | f+1,hf,f',h=>by
  have ih:=Dm n pb s f om
  by_cases he:f'<=f
  ·exact ih f' he
  obtain rfl:f'=f+1:=om
  exact⟨I7 ((Ir n pb s f om f rL).rule 5 om) (ih f rL).body,CR hf fun f' h=>(ih f' om).stmt⟩
open Go.Abs Go.Abs.S
noncomputable section
def c15:bV:=⟨9,zq [zo 2 (.mv (.c (.bool false)))] (zq [zo 4 (.build [zI 0] []),zo 5 (.box (.t 4)),zm 3 5] (zq [zm 6 3,zm 7 0,zx 8 40 [.t 6,.t 7,zi 1],zm 2 8] .ret)),[.t 2]⟩
theorem Qh:cN Tryz.prog 15=some c15:=by kernel_rfl
def c40:bV:=⟨21,zq [zo 6 (.mv (.c (.bool false)))] (.seq (zq [zm 8 1,zh 9 8,zo 10 (.mv (zi 0))] (.block 0 (.loop (zq [zb 11 .lss 10 9] (.seq (.cond (.t 11) .skip (.exit 0)) (.seq (.block 1 (zq [zm 12 10,zm 7 12] (zq [zm 13 0,zm 14 1,zm 15 7,zo 16 (.idxA 9 (.t 14) (.t 15)),zm 17 2,zx 18 84 [.t 13,.t 16,.t 17],zo 19 (.un .not (.t 18))] (.cond (.t 19) (zq [zo 6 (.mv (.c (.bool false)))] .ret) .skip)))) (.reg [zk 20 .add 10 1,zm 10 20]))))))) (zq [zo 6 (.mv (.c (.bool true)))] .ret)),[.t 6]⟩
theorem P5:cN Tryz.prog 40=some c40:=by kernel_rfl
def c84:bV:=⟨112,zq [zo 6 (.mv (.c (.bool false)))] (zr [zm 7 0,zm 8 2,zx 9 123 [.t 7,.t 8],zo 10 (.un .not (.t 9))] 10 (zq [zo 6 (.mv (.c (.bool false)))] .ret) .skip (.seq (zq [zm 11 1,zc 12 11,zf 13 0 12,zl 14 13] (.block 0 (zr [zo 16 (.bin .eql (.t 14) (zu 1)),zm 15 16] 15 .skip (.reg [zo 17 (.bin .eql (.t 14) (zu 2)),zm 15 17]) (.cond (.t 15) (zq [zm 18 1,zc 19 18,zf 20 1 19,zl 21 20,zx 22 124 [.t 21],zo 23 (.un .not (.t 22)),zm 24 23,zg 25 (.mv (.t 1)) 24 false,zg 26 (.nilChk (.t 25)) 24 false,zg 27 (.fieldA 6 (.t 26)) 24 false,zg 28 (.load false 1 (.t 27)) 24 false,zg 29 (.len false (.t 28)) 24 false,zg 30 (.bin .gtr (.t 29) (zi 0)) 24 false,zo 31 (.pick (.t 24) (.c (.bool true)) (.t 30)),zm 32 31,zg 33 (.mv (.t 1)) 32 false,zg 34 (.nilChk (.t 33)) 32 false,zg 35 (.fieldA 7 (.t 34)) 32 false,zg 36 (.load false 1 (.t 35)) 32 false,zg 37 (.len false (.t 36)) 32 false,zg 38 (.bin .gtr (.t 37) (zi 0)) 32 false,zo 39 (.pick (.t 32) (.c (.bool true)) (.t 38))] (.cond (.t 39) (zq [zo 6 (.mv (.c (.bool false)))] .ret) .skip)) (zq [zo 41 (.bin .eql (.t 14) (zu 3)),zm 40 41] (.cond (.t 40) (zq [zm 42 1,zc 43 42,zf 44 1 43,zl 45 44,zo 46 (.bin .neq (.t 45) (.c (.str [])))] (.cond (.t 46) (zq [zo 6 (.mv (.c (.bool false)))] .ret) .skip)) (zq [zo 48 (.bin .eql (.t 14) (zu 4)),zm 47 48] (.cond (.t 47) (zq [zm 49 1,zc 50 49,zf 51 1 50,zl 52 51,zo 53 (.bin .neq (.t 52) (.c (.str []))),zm 54 53,zg 55 (.mv (.t 1)) 54 false,zg 56 (.nilChk (.t 55)) 54 false,zg 57 (.fieldA 7 (.t 56)) 54 false,zg 58 (.load false 1 (.t 57)) 54 false,zg 59 (.len false (.t 58)) 54 false,zg 60 (.bin .gtr (.t 59) (zi 0)) 54 false,zo 61 (.pick (.t 54) (.c (.bool true)) (.t 60))] (.cond (.t 61) (zq [zo 6 (.mv (.c (.bool false)))] .ret) .skip)) (zq [zo 63 (.bin .eql (.t 14) (zu 5)),zm 62 63] (.cond (.t 62) (zq [zm 64 1,zc 65 64,zf 66 1 65,zl 67 66,zo 68 (.bin .neq (.t 67) (.c (.str []))),zm 69 68,zg 70 (.mv (.t 1)) 69 false,zg 71 (.nilChk (.t 70)) 69 false,zg 72 (.fieldA 6 (.t 71)) 69 false,zg 73 (.load false 1 (.t 72)) 69 false,zg 74 (.len false (.t 73)) 69 false,zg 75 (.bin .gtr (.t 74) (zi 0)) 69 false,zo 76 (.pick (.t 69) (.c (.bool true)) (.t 75)),zm 77 76,zg 78 (.mv (.t 1)) 77 false,zg 79 (.nilChk (.t 78)) 77 false,zg 80 (.fieldA 7 (.t 79)) 77 false,zg 81 (.load false 1 (.t 80)) 77 false,zg 82 (.len false (.t 81)) 77 false,zg 83 (.bin .gtr (.t 82) (zi 0)) 77 false,zo 84 (.pick (.t 77) (.c (.bool true)) (.t 83))] (.cond (.t 84) (zq [zo 6 (.mv (.c (.bool false)))] .ret) .skip)) (zq [zo 6 (.mv (.c (.bool false)))] .ret))))))))))) (zq [zm 85 0,zm 86 1,zc 87 86,zf 88 2 87,zm 89 2,zk 90 .add 89 1,zx 91 125 [.t 85,.t 88,.t 90],zm 92 91,zg 93 (.mv (.t 0)) 92 true,zg 94 (.mv (.t 1)) 92 true,zg 95 (.nilChk (.t 94)) 92 true,zg 96 (.fieldA 6 (.t 95)) 92 true,zg 97 (.load false 1 (.t 96)) 92 true,zg 98 (.mv (.t 2)) 92 true,zg 99 (.bin .add (.t 98) (zi 1)) 92 true,zg 100 (.call 40 [.t 93,.t 97,.t 99]) 92 true,zo 101 (.pick (.t 92) (.t 100) (.c (.bool false))),zm 102 101,zg 103 (.mv (.t 0)) 102 true,zg 104 (.mv (.t 1)) 102 true,zg 105 (.nilChk (.t 104)) 102 true,zg 106 (.fieldA 7 (.t 105)) 102 true,zg 107 (.load false 1 (.t 106)) 102 true,zg 108 (.mv (.t 2)) 102 true,zg 109 (.bin .add (.t 108) (zi 1)) 102 true,zg 110 (.call 40 [.t 103,.t 107,.t 109]) 102 true,zo 111 (.pick (.t 102) (.t 110) (.c (.bool false))),zm 6 111] .ret))),[.t 6]⟩
theorem PH:cN Tryz.prog 84=some c84:=by kernel_rfl
def JT:bV:=⟨21,zq [zo 4 (.mv (.c (.bool false)))] (zq [zm 5 0,zc 6 5,zf 7 0 6,zl 8 7,zk 9 .add 8 1,zc 10 5,zf 11 0 10,zs 11 9] (zq [zm 12 0,zc 13 12,zf 14 0 13,zl 15 14,zk 16 .leq 15 1000,zm 17 16,zg 18 (.mv (.t 1)) 17 true,zg 19 (.bin .leq (.t 18) (zi 40)) 17 true,zo 20 (.pick (.t 17) (.t 19) (.c (.bool false))),zm 4 20] .ret)),[.t 4]⟩
theorem ND:cN Tryz.prog 123=some JT:=by kernel_rfl
def OX:bV:=⟨24,zq [zo 2 (.mv (.c (.bool false)))] (zq [zm 6 0,zx 7 62 [.t 6,zi 0],zm 5 7,ze 8 0 5,ze 9 1 5,zo 3 (.new [zU 0,.str [],zI 0,zI 0,zI 0,zI 0]),zo 4 (.new [zI 0,zI 0]),zp (.store 6 (.t 3) (.t 8)),zp (.store 2 (.t 4) (.t 9))] (zq [zf 10 0 4,zl 11 10,zk 12 .eql 11 0,zm 13 12,zg 14 (.fieldA 0 (.t 3)) 13 true,zg 15 (.load false 1 (.t 14)) 13 true,zg 16 (.bin .eql (.t 15) (zu 2)) 13 true,zo 17 (.pick (.t 13) (.t 16) (.c (.bool false))),zm 18 17,zg 19 (.fieldA 1 (.t 3)) 18 true,zg 20 (.load false 1 (.t 19)) 18 true,zg 21 (.mv (.t 0)) 18 true,zg 22 (.bin .eql (.t 20) (.t 21)) 18 true,zo 23 (.pick (.t 18) (.t 22) (.c (.bool false))),zm 2 23] .ret)),[.t 2]⟩
theorem NC:cN Tryz.prog 124=some OX:=by kernel_rfl
def OW:bV:=⟨115,zq [zo 6 (.mv (.c (.bool false)))] (zr [zm 8 0,zm 9 2,zx 10 123 [.t 8,.t 9],zo 11 (.un .not (.t 10))] 11 (zq [zo 6 (.mv (.c (.bool false)))] .ret) .skip (.seq (zq [zm 12 1,zc 13 12,zf 14 0 13,zl 15 14] (.block 0 (zq [zo 17 (.bin .eql (.t 15) (zu 1)),zm 16 17] (.cond (.t 16) (zq [zm 18 1,zc 19 18,zf 20 2 19,zl 21 20,zk 22 .geq 21 0,zm 23 22,zg 24 (.mv (.t 1)) 23 true,zg 25 (.nilChk (.t 24)) 23 true,zg 26 (.fieldA 1 (.t 25)) 23 true,zg 27 (.load false 1 (.t 26)) 23 true,zg 28 (.bin .eql (.t 27) (.c (.str []))) 23 true,zo 29 (.pick (.t 23) (.t 28) (.c (.bool false))),zm 30 29,zg 31 (.mv (.t 1)) 30 true,zg 32 (.nilChk (.t 31)) 30 true,zg 33 (.fieldA 3 (.t 32)) 30 true,zg 34 (.load false 1 (.t 33)) 30 true,zg 35 (.len false (.t 34)) 30 true,zg 36 (.bin .eql (.t 35) (zi 0)) 30 true,zo 37 (.pick (.t 30) (.t 36) (.c (.bool false))),zm 6 37] .ret) (zq [zo 39 (.bin .eql (.t 15) (zu 2)),zm 38 39] (.cond (.t 38) (zq [zm 40 1,zc 41 40,zf 42 2 41,zl 43 42,zk 44 .eql 43 0,zm 45 44,zg 46 (.mv (.t 1)) 45 true,zg 47 (.nilChk (.t 46)) 45 true,zg 48 (.fieldA 1 (.t 47)) 45 true,zg 49 (.load false 1 (.t 48)) 45 true,zg 50 (.call 124 [.t 49]) 45 true,zo 51 (.pick (.t 45) (.t 50) (.c (.bool false))),zm 52 51,zg 53 (.mv (.t 1)) 52 true,zg 54 (.nilChk (.t 53)) 52 true,zg 55 (.fieldA 3 (.t 54)) 52 true,zg 56 (.load false 1 (.t 55)) 52 true,zg 57 (.len false (.t 56)) 52 true,zg 58 (.bin .eql (.t 57) (zi 0)) 52 true,zo 59 (.pick (.t 52) (.t 58) (.c (.bool false))),zm 6 59] .ret) (zq [zo 61 (.bin .eql (.t 15) (zu 3)),zm 60 61] (.cond (.t 60) (zq [zm 62 1,zc 63 62,zf 64 2 63,zl 65 64,zk 66 .neq 65 0,zm 67 66,zg 68 (.mv (.t 1)) 67 false,zg 69 (.nilChk (.t 68)) 67 false,zg 70 (.fieldA 1 (.t 69)) 67 false,zg 71 (.load false 1 (.t 70)) 67 false,zg 72 (.mv (.t 1)) 67 false,zg 73 (.nilChk (.t 72)) 67 false,zg 74 (.fieldA 3 (.t 73)) 67 false,zg 75 (.load false 1 (.t 74)) 67 false,zg 76 (.len false (.t 75)) 67 false,zg 77 (.call 164 [.t 71,.t 76]) 67 false,zg 78 (.un .not (.t 77)) 67 false,zo 79 (.pick (.t 67) (.c (.bool true)) (.t 78))] (.cond (.t 79) (zq [zo 6 (.mv (.c (.bool false)))] .ret) .skip)) (zq [zo 81 (.bin .eql (.t 15) (zu 4)),zm 80 81] (.cond (.t 80) (zq [zm 82 1,zc 83 82,zf 84 2 83,zl 85 84,zk 86 .neq 85 0,zm 87 86,zg 88 (.mv (.t 1)) 87 false,zg 89 (.nilChk (.t 88)) 87 false,zg 90 (.fieldA 1 (.t 89)) 87 false,zg 91 (.load false 1 (.t 90)) 87 false,zg 92 (.call 124 [.t 91]) 87 false,zg 93 (.un .not (.t 92)) 87 false,zo 94 (.pick (.t 87) (.c (.bool true)) (.t 93))] (.cond (.t 94) (zq [zo 6 (.mv (.c (.bool false)))] .ret) .skip)) (zq [zo 6 (.mv (.c (.bool false)))] .ret))))))))))) (.seq (zq [zm 95 1,zc 96 95,zf 97 3 96,zl 98 97,zh 99 98,zo 100 (.mv (zi 0))] (.block 1 (.loop (zq [zb 101 .lss 100 99] (.seq (.cond (.t 101) .skip (.exit 1)) (.seq (.block 2 (zq [zm 102 100,zm 7 102] (zq [zm 103 0,zm 104 1,zc 105 104,zf 106 3 105,zl 107 106,zm 108 7,zo 109 (.idxA 4 (.t 107) (.t 108)),zm 110 2,zk 111 .add 110 1,zx 112 125 [.t 103,.t 109,.t 111],zo 113 (.un .not (.t 112))] (.cond (.t 113) (zq [zo 6 (.mv (.c (.bool false)))] .ret) .skip)))) (.reg [zk 114 .add 100 1,zm 100 114]))))))) (zq [zo 6 (.mv (.c (.bool true)))] .ret)))),[.t 6]⟩
theorem NB:cN Tryz.prog 125=some OW:=by kernel_rfl
def kZ:bV:=⟨30,zq [zo 4 (.mv (.c (.bool false)))] (.seq (zq [zm 5 1] (.block 0 (zq [zk 7 .eql 5 1,zm 6 7] (.cond (.t 6) (zq [zm 8 0,zo 9 (.bin .eql (.t 8) (.c (.str [45]))),zm 10 9,zg 11 (.mv (.t 0)) 10 false,zg 12 (.bin .eql (.t 11) (.c (.str [33]))) 10 false,zo 13 (.pick (.t 10) (.c (.bool true)) (.t 12)),zm 4 13] .ret) (zq [zk 15 .eql 5 2,zm 14 15] (.cond (.t 14) (zq [zm 16 0] (.block 1 (zr [zo 18 (.bin .eql (.t 16) (.c (.str [124,124]))),zm 17 18] 17 .skip (zq [zo 19 (.bin .eql (.t 16) (.c (.str [38,38]))),zm 17 19] (.cond (.t 17) .skip (zq [zo 20 (.bin .eql (.t 16) (.c (.str [61,61]))),zm 17 20] (.cond (.t 17) .skip (zq [zo 21 (.bin .eql (.t 16) (.c (.str [33,61]))),zm 17 21] (.cond (.t 17) .skip (zq [zo 22 (.bin .eql (.t 16) (.c (.str [60,61]))),zm 17 22] (.cond (.t 17) .skip (zq [zo 23 (.bin .eql (.t 16) (.c (.str [62,61]))),zm 17 23] (.cond (.t 17) .skip (zq [zo 24 (.bin .eql (.t 16) (.c (.str [60]))),zm 17 24] (.cond (.t 17) .skip (zq [zo 25 (.bin .eql (.t 16) (.c (.str [62]))),zm 17 25] (.cond (.t 17) .skip (zq [zo 26 (.bin .eql (.t 16) (.c (.str [43]))),zm 17 26] (.cond (.t 17) .skip (zq [zo 27 (.bin .eql (.t 16) (.c (.str [45]))),zm 17 27] (.cond (.t 17) .skip (zq [zo 28 (.bin .eql (.t 16) (.c (.str [42]))),zm 17 28] (.cond (.t 17) .skip (.reg [zo 29 (.bin .eql (.t 16) (.c (.str [47]))),zm 17 29]))))))))))))))))))))) (.cond (.t 17) (zq [zo 4 (.mv (.c (.bool true)))] .ret) .skip)))) .skip)))))) (zq [zo 4 (.mv (.c (.bool false)))] .ret)),[.t 4]⟩
theorem Ng:cN Tryz.prog 164=some kZ:=by kernel_rfl
def c12:bV:=⟨24,zq [zo 2 (.mv (.c (.str []))),zo 3 (.mv (zi 0))] (zr [zm 5 0,zx 6 15 [.t 5],zo 7 (.un .not (.t 6))] 7 (zq [zo 2 (.mv (.c (.str []))),zo 3 (.mv (zi 103))] .ret) .skip (zq [zo 8 (.build [zN] []),zo 9 (.box (.t 8)),zm 4 9] (zq [zm 10 4,zm 11 0,zx 12 37 [.t 10,.t 11,zi 0]] (zr [zm 13 4,zc 14 13,zf 15 0 14,zl 16 15,zh 17 16,zk 18 .gtr 17 16384] 18 (zq [zo 2 (.mv (.c (.str []))),zo 3 (.mv (zi 3))] .ret) .skip (zq [zm 19 4,zc 20 19,zf 21 0 20,zl 22 21,zo 23 (.convBS (.t 22)),zm 2 23,zo 3 (.mv (zi 0))] .ret))))),[.t 2,.t 3]⟩
theorem Qj:cN Tryz.prog 12=some c12:=by kernel_rfl
def c37:bV:=⟨25,zq [zm 7 1,zh 8 7,zo 9 (.mv (zi 0))] (.block 0 (.loop (zq [zb 10 .lss 9 8] (.seq (.cond (.t 10) .skip (.exit 0)) (.seq (.block 1 (zq [zm 11 9,zm 6 11] (zr [zm 12 0,zc 13 12,zf 14 0 13,zl 15 14,zh 16 15,zk 17 .gtr 16 16384] 17 .ret .skip (.reg [zm 18 0,zm 19 1,zm 20 6,zo 21 (.idxA 9 (.t 19) (.t 20)),zm 22 2,zx 23 82 [.t 18,.t 21,.t 22]])))) (.reg [zk 24 .add 9 1,zm 9 24])))))),[]⟩
theorem P7:cN Tryz.prog 37=some c37:=by kernel_rfl
def c82:bV:=⟨103,zq [zm 6 0,zm 7 2,zx 8 118 [.t 6,.t 7]] (.seq (zq [zm 9 1,zc 10 9,zf 11 0 10,zl 12 11] (.block 0 (zq [zo 14 (.bin .eql (.t 12) (zu 1)),zm 13 14] (.cond (.t 13) (.reg [zm 15 0,zm 16 1,zc 17 16,zf 18 1 17,zl 19 18,zo 20 (.buildSl 3 [.str []] [(0,1,.c (.str [108,101,116,32])),(1,1,.t 19),(2,1,.c (.str [32,61,32]))]),zx 21 119 [.t 15,.t 20]]) (zq [zo 23 (.bin .eql (.t 12) (zu 2)),zm 22 23] (.cond (.t 22) (.reg [zm 24 0,zm 25 1,zc 26 25,zf 27 1 26,zl 28 27,zo 29 (.buildSl 3 [.str []] [(0,1,.c (.str [115,101,116,32])),(1,1,.t 28),(2,1,.c (.str [32,61,32]))]),zx 30 119 [.t 24,.t 29]]) (zq [zo 32 (.bin .eql (.t 12) (zu 5)),zm 31 32] (.cond (.t 31) (.reg [zm 33 0,zo 34 (.buildSl 1 [.str []] [(0,1,.c (.str [114,101,116,117,114,110,32]))]),zx 35 119 [.t 33,.t 34]]) (zq [zo 37 (.bin .eql (.t 12) (zu 3)),zm 36 37] (.cond (.t 36) (.reg [zm 38 0,zo 39 (.buildSl 1 [.str []] [(0,1,.c (.str [105,102,32,40]))]),zx 40 119 [.t 38,.t 39]]) (zq [zo 42 (.bin .eql (.t 12) (zu 4)),zm 41 42] (.cond (.t 41) (.reg [zm 43 0,zo 44 (.buildSl 1 [.str []] [(0,1,.c (.str [119,104,105,108,101,32,40]))]),zx 45 119 [.t 43,.t 44]]) .skip)))))))))))) (zq [zm 46 0,zm 47 1,zc 48 47,zf 49 2 48,zx 50 120 [.t 46,.t 49]] (zr [zm 51 1,zc 52 51,zf 53 0 52,zl 54 53,zo 55 (.bin .neq (.t 54) (zu 3)),zm 56 55,zg 57 (.mv (.t 1)) 56 true,zg 58 (.nilChk (.t 57)) 56 true,zg 59 (.fieldA 0 (.t 58)) 56 true,zg 60 (.load false 1 (.t 59)) 56 true,zg 61 (.bin .neq (.t 60) (zu 4)) 56 true,zo 62 (.pick (.t 56) (.t 61) (.c (.bool false)))] 62 (zq [zm 63 0,zo 64 (.buildSl 1 [.str []] [(0,1,.c (.str [59,10]))]),zx 65 119 [.t 63,.t 64]] .ret) .skip (zq [zm 66 0,zo 67 (.buildSl 1 [.str []] [(0,1,.c (.str [41,32,123,10]))]),zx 68 119 [.t 66,.t 67]] (zq [zm 69 0,zm 70 1,zc 71 70,zf 72 6 71,zl 73 72,zm 74 2,zk 75 .add 74 1,zx 76 37 [.t 69,.t 73,.t 75]] (zr [zm 77 1,zc 78 77,zf 79 7 78,zl 80 79,zh 81 80,zk 82 .gtr 81 0] 82 (zq [zm 83 0,zm 84 2,zx 85 118 [.t 83,.t 84]] (zq [zm 86 0,zo 87 (.buildSl 1 [.str []] [(0,1,.c (.str [125,32,101,108,115,101,32,123,10]))]),zx 88 119 [.t 86,.t 87]] (.reg [zm 89 0,zm 90 1,zc 91 90,zf 92 7 91,zl 93 92,zm 94 2,zk 95 .add 94 1,zx 96 37 [.t 89,.t 93,.t 95]]))) .skip (zq [zm 97 0,zm 98 2,zx 99 118 [.t 97,.t 98]] (.reg [zm 100 0,zo 101 (.buildSl 1 [.str []] [(0,1,.c (.str [125,10]))]),zx 102 119 [.t 100,.t 101]])))))))),[]⟩
theorem PJ:cN Tryz.prog 82=some c82:=by kernel_rfl
def OZ:bV:=⟨17,zq [zm 4 1,zo 5 (.mv (zi 0))] (.block 0 (.loop (zq [zb 6 .lss 5 4] (.seq (.cond (.t 6) .skip (.exit 0)) (.seq (.block 1 (.reg [zm 7 0,zm 8 0,zc 9 8,zf 10 0 9,zl 11 10,zo 12 (.buildSl 1 [zU 0] [(0,1,zu 9)]),zy 13 11 12,zc 14 7,zf 15 0 14,zs 15 13])) (.reg [zk 16 .add 5 1,zm 5 16])))))),[]⟩
theorem NI:cN Tryz.prog 118=some OZ:=by kernel_rfl
def OY:bV:=⟨22,zq [zm 6 1,zh 7 6,zo 8 (.mv (zi 0))] (.block 0 (.loop (zq [zb 9 .lss 8 7] (.seq (.cond (.t 9) .skip (.exit 0)) (.seq (.block 1 (zq [zd 10 6 8,zl 11 10,zm 5 11] (.reg [zm 12 0,zm 13 0,zc 14 13,zf 15 0 14,zl 16 15,zm 17 5,zy 18 16 17,zc 19 12,zf 20 0 19,zs 20 18]))) (.reg [zk 21 .add 8 1,zm 8 21])))))),[]⟩
theorem NH:cN Tryz.prog 119=some OY:=by kernel_rfl
def ED:bV:=⟨100,zq [zm 5 1,zc 6 5,zf 7 0 6,zl 8 7] (.block 0 (zq [zo 10 (.bin .eql (.t 8) (zu 1)),zm 9 10] (.cond (.t 9) (.reg [zm 11 0,zm 12 1,zc 13 12,zf 14 2 13,zl 15 14,zx 16 162 [.t 15],zo 17 (.buildSl 1 [.str []] [(0,1,.t 16)]),zx 18 119 [.t 11,.t 17]]) (zq [zo 20 (.bin .eql (.t 8) (zu 2)),zm 19 20] (.cond (.t 19) (.reg [zm 21 0,zm 22 1,zc 23 22,zf 24 1 23,zl 25 24,zo 26 (.buildSl 1 [.str []] [(0,1,.t 25)]),zx 27 119 [.t 21,.t 26]]) (zq [zo 29 (.bin .eql (.t 8) (zu 4)),zm 28 29] (.cond (.t 28) (zq [zm 30 0,zm 31 1,zc 32 31,zf 33 1 32,zl 34 33,zo 35 (.buildSl 2 [.str []] [(0,1,.t 34),(1,1,.c (.str [40]))]),zx 36 119 [.t 30,.t 35]] (.seq (zq [zm 37 1,zc 38 37,zf 39 3 38,zl 40 39,zh 41 40,zo 42 (.mv (zi 0))] (.block 1 (.loop (zq [zb 43 .lss 42 41] (.seq (.cond (.t 43) .skip (.exit 1)) (.seq (.block 2 (zq [zm 44 42,zm 4 44] (zr [zm 45 4,zk 46 .gtr 45 0] 46 (.reg [zm 47 0,zo 48 (.buildSl 1 [.str []] [(0,1,.c (.str [44,32]))]),zx 49 119 [.t 47,.t 48]]) .skip (.reg [zm 50 0,zm 51 1,zc 52 51,zf 53 3 52,zl 54 53,zm 55 4,zo 56 (.idxA 4 (.t 54) (.t 55)),zx 57 163 [.t 50,.t 56]])))) (.reg [zk 58 .add 42 1,zm 42 58]))))))) (.reg [zm 59 0,zo 60 (.buildSl 1 [.str []] [(0,1,.c (.str [41]))]),zx 61 119 [.t 59,.t 60]]))) (zq [zo 63 (.bin .eql (.t 8) (zu 3)),zm 62 63] (.cond (.t 62) (zr [zm 64 1,zc 65 64,zf 66 3 65,zl 67 66,zh 68 67,zk 69 .eql 68 2] 69 (zq [zm 70 0,zm 71 1,zc 72 71,zf 73 3 72,zl 74 73,zo 75 (.idxA 4 (.t 74) (zi 0)),zx 76 163 [.t 70,.t 75]] (.reg [zm 77 0,zo 78 (.buildSl 1 [.str []] [(0,1,.c (.str [32]))]),zx 79 119 [.t 77,.t 78]])) .skip (zq [zm 80 0,zm 81 1,zc 82 81,zf 83 1 82,zl 84 83,zo 85 (.buildSl 2 [.str []] [(0,1,.t 84),(1,1,.c (.str [32]))]),zx 86 119 [.t 80,.t 85]] (.reg [zm 87 0,zm 88 1,zc 89 88,zf 90 3 89,zl 91 90,zm 92 1,zc 93 92,zf 94 3 93,zl 95 94,zh 96 95,zk 97 .sub 96 1,zo 98 (.idxA 4 (.t 91) (.t 97)),zx 99 163 [.t 87,.t 98]]))) .skip))))))))),[]⟩
theorem NG:cN Tryz.prog 120=some ED:=by kernel_rfl
def Mi:bV:=⟨21,zr [zm 4 1,zc 5 4,zf 6 0 5,zl 7 6,zo 8 (.bin .neq (.t 7) (zu 3))] 8 (zq [zm 9 0,zm 10 1,zx 11 120 [.t 9,.t 10]] .ret) .skip (zq [zm 12 0,zo 13 (.buildSl 1 [.str []] [(0,1,.c (.str [40]))]),zx 14 119 [.t 12,.t 13]] (zq [zm 15 0,zm 16 1,zx 17 120 [.t 15,.t 16]] (.reg [zm 18 0,zo 19 (.buildSl 1 [.str []] [(0,1,.c (.str [41]))]),zx 20 119 [.t 18,.t 19]]))),[]⟩
theorem Nh:cN Tryz.prog 163=some Mi:=by kernel_rfl
end
open Go.Abs Go.Abs.S
def nk(H:aa)(p:ab)(c:List ab):Prop:=∃a,p=.ptr (some a)/\bv H a c.length=some c
def fp(p:ab)(o:Nat):ab:=match p with
 | .ptr (some a)=>.ptr (some ⟨a.b,a.lim,a.o+o⟩)
 | _=>aX
theorem nk.chk{H:aa}{p:ab}{c:List ab}(h:nk H p c):cL p=some p:=by
 obtain⟨a,rfl,_⟩:=h; rfl
theorem nk.fld{H:aa}{p:ab}{c:List ab}(h:nk H p c)(o:Nat):iG o p=some (fp p o):=by
 obtain⟨a,rfl,_⟩:=h; rfl
theorem nk.fld0{H:aa}{p:ab}{c:List ab}(h:nk H p c):iG 0 p=some p:=by
 obtain⟨a,rfl,_⟩:=h; rfl
theorem nk.part{H:aa}{p:ab}{c:List ab}(h:nk H p c){o k:Nat}(hk:o+k<=c.length):nk H (fp p o) ((c.drop o).take k):=by
 obtain⟨a,rfl,h1⟩:=h
 refine⟨_,rfl,?_⟩
 rw[show ((c.drop o).take k).length=k by rw[Rd,Ra]; omega]
 exact qU h1 hk
theorem nk.load{H:aa}{p:ab}{c:List ab}(h:nk H p c){o:Nat}{x:ab}(hx:c[o]?=some x):am false 1 H (fp p o)=some x:=by
 obtain⟨a,rfl,h1⟩:=h
 have hlt:=(QR.1 hx).1
 have:=qU h1 (i:=o) (j:=1) om
 have e:(c.drop o).take 1=[x]:=by
  rw[List.drop_eq_getElem_cons hlt,List.take_succ_cons,List.take_zero,(QR.1 hx).2]
 rw[e]at this
 simp only[fp,am,this,cond_false]
theorem nk.load0{H:aa}{p:ab}{c:List ab}(h:nk H p c){x:ab}(hx:c[0]?=some x):am false 1 H p=some x:=by
 have:=h.load hx
 obtain⟨a,rfl,_⟩:=h
 exact this
theorem nk.same{H H':aa}{p:ab}{c:List ab}(h:nk H p c)(e:∀a,p=.ptr (some a)->H'.get a.b=H.get a.b):nk H' p c:=by
 obtain⟨a,rfl,h1⟩:=h
 exact⟨a,rfl,by rw[xU (e a rfl)]; exact h1⟩
theorem eX.pt{P:Nat->Prop}{H:aa}{m k:Nat}{v:ab}{C:List ab}(h:eX P H m v k C){i:Nat}(hi:i<k):nk H (cF m v i) ((C.drop (i*m)).take m):=by
 rcases h with⟨_,rfl,_⟩ | ⟨a,r,rfl,_,h3⟩
 ·omega
 ·have hm:i*m+m<=m*k:=by
   have:(i+1)*m<=k*m:=Nat.mul_le_mul_right m hi
   rw[Nat.mul_comm m k]; rw[Nat.add_mul,Nat.one_mul]at this; exact this
  have hl:C.length=m*k:=by
   obtain⟨l,low,ro,h1,h2,h3',h4,rfl⟩:=oE h3
   rw[Rd,Ra]; omega
  refine⟨_,rfl,?_⟩
  rw[show ((C.drop (i*m)).take m).length=m by rw[Rd,Ra]; omega]
  exact qU h3 hm
theorem jB(s:Bs){H:aa}:aq Tryz.prog aA 124 [.str s] H fun u H'=>u=.bool (bW s)/\aS H.next H H':=by
 refine af rfl NC rfl ?_
 simp only[OX,sA,sB,seval]
 refine (uT Gu (s:=s) (p:=((0:Nat):Int)) om om).mono ?_
 rintro v H1 ⟨rfl,E1⟩
 have e1:=E1.next
 obtain⟨H2,m2,r2,n2,k2⟩:=au H1 [.int .u8 0,.str [],.int .i64 0,.int .i64 0,.int .i64 0,.int .i64 0] (n:=6) rfl
 obtain⟨H3,m3,r3,n3,k3⟩:=au H2 [.int .i64 0,.int .i64 0] (n:=2) rfl
 cases hn:cW s 0 with
 | error e=>
  rw[mQ hn]
  have he:=mP hn
  have he':¬(e.1:Int)=0:=om
  obtain⟨H4,m4,r4,n4,k4⟩:=aj (H:=H3) (r2.same (k3 _ om)) (n:=6) rfl (xs:=fx 0 [] 0 0 0 0) rfl rfl
  obtain⟨H5,m5,r5,n5,k5⟩:=aj (H:=H4) (r3.same (k4 _ om)) (n:=2) rfl (xs:=dQ e.1 e.2) rfl rfl
  have l5:am false 1 H5 (ae H2.next 2 0)=some (.int .i64 (e.1:Int)):=ah r5 rfl rfl
  have hf:bW s=false:=by unfold bW; rw[hn]
  simp only[sA,sB,seval,dg,b9,b7,m2,m3,m4,m5,fld0,l5,he',hf]
  exact⟨tt,om,fun c hc=>by rw[k5 c om,k4 c om,k3 c om,k2 c om,E1.old c hc]⟩
 | ok w=>
  rw[lM hn]
  obtain⟨H4,m4,r4,n4,k4⟩:=aj (H:=H3) (r2.same (k3 _ om)) (n:=6) rfl (xs:=fx w.k w.S w.n w.line w.at_ w.en) rfl rfl
  obtain⟨H5,m5,r5,n5,k5⟩:=aj (H:=H4) (r3.same (k4 _ om)) (n:=2) rfl (xs:=dQ 0 0) rfl rfl
  have r45:=r4.same (k5 _ om)
  have l5:am false 1 H5 (ae H2.next 2 0)=some (.int .i64 0):=ah r5 rfl rfl
  have q0:am false 1 H5 (ae H1.next 6 0)=some (.int .u8 (w.k:Int)):=ah r45 rfl rfl
  have q1:am false 1 H5 (ae H1.next 6 1)=some (.str w.S):=ah r45 rfl rfl
  have E5:aS H.next H H5:=⟨om,fun c hc=>by rw[k5 c om,k4 c om,k3 c om,k2 c om,E1.old c hc]⟩
  by_cases hk:w.k=2
  ·have hk':(w.k:Int)=2:=om
   have hf:bW s=decide (w.S=s):=by unfold bW; rw[hn]; simp only[hk]; rfl
   simp only[sA,sB,seval,dg,b9,b7,m2,m3,m4,m5,fld0,aB,l5,q0,q1,hk',hf]
   exact⟨tt,E5⟩
  ·have hk':¬(w.k:Int)=2:=om
   have hf:bW s=false:=by
    unfold bW; rw[hn]
    have:Nat.beq w.k 2=false:=by rw[bD]; exact decide_eq_false hk
    simp only[this]; rfl
   simp only[sA,sB,seval,dg,b9,b7,m2,m3,m4,m5,fld0,aB,l5,q0,q1,hk',hf]
   exact⟨tt,E5⟩
theorem yz(s:Bs)(n:Nat){H:aa}:aq Tryz.prog aA 164 [.str s,.int .i64 (n:Int)] H fun u H'=>u=.bool (qM s n)/\H=H':=by
 refine af rfl Ng rfl ?_
 by_cases h1:n=1
 ·subst h1
  by_cases e1:s=[45]
  ·subst e1; simp only[kZ,sA,sB,seval]; exact⟨tt,tt⟩
  by_cases e2:s=[33]
  ·subst e2; simp only[kZ,sA,sB,seval,e1]; exact⟨tt,tt⟩
  have:qM s 1=false:=by simp[qM,e1,e2]
  simp only[kZ,sA,sB,seval,e1,e2,this]
  exact⟨tt,tt⟩
 have h1':¬(n:Int)=1:=om
 by_cases h2:n=2
 ·subst h2
  have op:qM s 2=[[124,124],[38,38],[61,61],[33,61],[60,61],[62,61],[60],[62],[43],[45],[42],[47]].contains s:=rfl
  rw[op]
  by_cases e0:s=[124,124]
  ·subst e0; simp only[kZ,sA,sB,seval]; exact⟨by rfl,tt⟩
  by_cases e1:s=[38,38]
  ·subst e1; simp only[kZ,sA,sB,seval]; exact⟨by rfl,tt⟩
  by_cases e2:s=[61,61]
  ·subst e2; simp only[kZ,sA,sB,seval]; exact⟨by rfl,tt⟩
  by_cases e3:s=[33,61]
  ·subst e3; simp only[kZ,sA,sB,seval]; exact⟨by rfl,tt⟩
  by_cases e4:s=[60,61]
  ·subst e4; simp only[kZ,sA,sB,seval]; exact⟨by rfl,tt⟩
  by_cases e5:s=[62,61]
  ·subst e5; simp only[kZ,sA,sB,seval]; exact⟨by rfl,tt⟩
  by_cases e6:s=[60]
  ·subst e6; simp only[kZ,sA,sB,seval]; exact⟨by rfl,tt⟩
  by_cases e7:s=[62]
  ·subst e7; simp only[kZ,sA,sB,seval]; exact⟨by rfl,tt⟩
  by_cases e8:s=[43]
  ·subst e8; simp only[kZ,sA,sB,seval]; exact⟨by rfl,tt⟩
  by_cases e9:s=[45]
  ·subst e9; simp only[kZ,sA,sB,seval]; exact⟨by rfl,tt⟩
  by_cases e10:s=[42]
  ·subst e10; simp only[kZ,sA,sB,seval]; exact⟨by rfl,tt⟩
  by_cases e11:s=[47]
  ·subst e11; simp only[kZ,sA,sB,seval]; exact⟨by rfl,tt⟩
  have:([[124,124],[38,38],[61,61],[33,61],[60,61],[62,61],[60],[62],[43],[45],[42],[47]]:List Bs).contains s=false:=by simp[e0,e1,e2,e3,e4,e5,e6,e7,e8,e9,e10,e11]
  simp only[kZ,sA,sB,seval,e0,e1,e2,e3,e4,e5,e6,e7,e8,e9,e10,e11,this]
  exact⟨tt,tt⟩
 have h2':¬(n:Int)=2:=om
 have:qM s n=false:=by
  unfold qM
  split
  ·exact absurd rfl h1
  ·exact absurd rfl h2
  ·rfl
 simp only[kZ,sA,sB,seval,h1',h2',this]
 exact⟨tt,tt⟩
theorem ep{e:Ex}:∀{l:List Ex},e∈l->e.size<=aQ l
 | [],h=>by simp at h
 | x::l,h=>by
  simp only[aQ]
  rcases List.mem_cons.1 h with rfl | h
  ·omega
  ·have:=ep h; omega
theorem eN(l m:List Ex):aQ (l++m)=aQ l+aQ m:=by
 induction l with
 | nil=>simp[aQ]
 | cons x l ih=>simp only[Q9,aQ,ih]; omega
theorem jl(l m:List Ex):dx (l++m)=max (dx l) (dx m):=by
 induction l with
 | nil=>simp[dx]
 | cons x l ih=>simp only[Q9,dx,ih]; omega
theorem sn(l m:List Ex):ff (l++m)=(ff l&&ff m):=by
 induction l with
 | nil=>simp[ff]
 | cons x l ih=>simp only[Q9,ff,ih,Bool.and_assoc]
theorem eQ(l:List Ex):l.length<=aQ l:=by
 induction l with
 | nil=>simp
 | cons x l ih=>cases x; simp only[QU,aQ,Ex.size]; omega
def Kc(n deep:Nat)(e:Ex):Prop:=kH e=true/\n+e.size<=1000/\deep+e.deep<=41
def ul(n deep:Nat)(l:List Ex):Prop:=ff l=true/\n+aQ l<=1000/\deep+dx l<=41
theorem uG{n deep:Nat}{l:List Ex}{e:Ex}:ul n deep (l++[e])↔ul n deep l/\Kc (n+aQ l) deep e:=by
 unfold ul Kc
 rw[sn,eN,jl]
 simp only[ff,aQ,dx,Bool.and_true,QT]
 constructor
 ·rintro ⟨⟨a,b⟩,c,d⟩; exact⟨⟨a,om,om⟩,b,om,om⟩
 ·rintro ⟨⟨a,b,c⟩,d,e,f⟩; exact⟨⟨a,d⟩,om,om⟩
theorem DP{n deep:Nat}{l:List Ex}(h:ul n deep l)(i:Nat):ul n deep (l.take i):=by
 have:=List.take_append_drop i l
 unfold ul at *
 rw[<- this,sn,eN,jl]at h
 simp only[QT]at h
 obtain⟨⟨a,b⟩,c,d⟩:=h
 exact⟨a,om,om⟩
theorem uU{H:aa}{mb:Nat}{n deep:Nat}(hm:aT H mb [.int .i64 (n:Int)])(hn:n<=1000000):aq Tryz.prog aA 123 [ae mb 1 0,.int .i64 (deep:Int)] H fun u H'=>(∃b,u=.bool b/\(b=true↔n+1<=1000/\deep<=40))/\aT H' mb [.int .i64 ((n+1:Nat):Int)]/\H'.next=H.next/\∀c,c≠mb->H'.get c=H.get c:=by
 refine af rfl ND rfl ?_
 have l0:am false 1 H (ae mb 1 0)=some (.int .i64 (n:Int)):=ah hm rfl rfl
 have wk:IntKind.i64.wrap ((n:Int)+1)=((n+1:Nat):Int):=xh
 obtain⟨H1,m1,r1,n1,k1⟩:=cE hm (n:=1) rfl (i:=0) om (x:=.int .i64 ((n+1:Nat):Int)) rfl (l':=[.int .i64 ((n+1:Nat):Int)]) rfl
 have l1:am false 1 H1 (ae mb 1 0)=some (.int .i64 ((n+1:Nat):Int)):=ah r1 rfl rfl
 by_cases h1:n+1<=1000
 ·have h1':((n+1:Nat):Int)<=1000:=om
  by_cases h2:deep<=40
  ·have h2':(deep:Int)<=40:=om
   simp only[JT,sA,sB,seval,aw,fld0,l0,wk,m1,l1,h1',h2']
   exact⟨⟨true,tt,fun _=>⟨om,om⟩,fun _=>rfl⟩,r1,n1,k1⟩
  ·have h2':¬(deep:Int)<=40:=om
   simp only[JT,sA,sB,seval,aw,fld0,l0,wk,m1,l1,h1',h2']
   exact⟨⟨false,tt,by simp; omega⟩,r1,n1,k1⟩
 ·have h1':¬((n+1:Nat):Int)<=1000:=om
  simp only[JT,sA,sB,seval,aw,fld0,l0,wk,m1,l1,h1']
  exact⟨⟨false,tt,by simp; omega⟩,r1,n1,k1⟩
def EV(mb:Nat)(n size:Nat)(ok:Prop)(H:aa)(u:ab)(H':aa):Prop:=
 ((ok/\u=.bool true/\aT H' mb [.int .i64 ((n+size:Nat):Int)])∨(¬ok/\u=.bool false))/\Fp mb H H'
theorem nk.fp{H H':aa}{mb:Nat}{p:ab}{c:List ab}(h:nk H p c)(f:Fp mb H H')(hp:∀a,p=.ptr (some a)->a.b<H.next/\a.b≠mb):nk H' p c:=h.same fun a e=>f.old _ (hp a e).1 (hp a e).2
theorem sy:∀(N:Nat) {e:Ex} {c:List ab} {H:aa} {mb n deep:Nat} {p:ab},e.size<=N->nk H p c->(∀a,p=.ptr (some a)->a.b<H.next/\a.b≠mb)->XE (fun b=>b<H.next/\b≠mb) H e c->aT H mb [.int .i64 (n:Int)]->mb<H.next->n<=1000->deep<=41 ->
  aq Tryz.prog aA 125 [ae mb 1 0,p,.int .i64 (deep:Int)] H (EV mb n e.size (Kc n deep e) H)
 | 0,e,_,_,_,_,_,_,h,_,_,_,_,_,_,_=>by cases e; simp[Ex.size]at h
 | N+1,.mk k s z kids,c,H,mb,n,deep,p,h,hp,hpb,hx,hm,hmb,hn,hd=>by
  obtain⟨v,C,rfl,z1,z2⟩:=hx
  obtain⟨Q,hQ⟩:∃Q,Q=EV mb n (Ex.mk k s z kids).size (Kc n deep (Ex.mk k s z kids)) H:=⟨_,rfl⟩
  obtain⟨PF,hPF⟩:∃PF:Prop,PF↔er k s z kids.length=true:=⟨_,Iff.rfl⟩
  rw[<- hQ]
  refine af rfl NB rfl ?_
  have hsz:(Ex.mk k s z kids).size=aQ kids+1:=rfl
  have hdp:(Ex.mk k s z kids).deep=dx kids+1:=rfl
  simp only[OW,sA,sB,seval]
  refine (uU (deep:=deep) hm om).mono ?_
  rintro _ H1 ⟨⟨b,rfl,hb⟩,r1,n1,k1⟩
  have F1:Fp mb H H1:=⟨om,fun c _ hc=>k1 c hc⟩
  have pp:=hp.fp F1 hpb
  have p0:=pp.load0 (x:=.int .u8 (k:Int)) rfl
  have p1:=pp.load (o:=1) (x:=.str s) rfl
  have p2:=pp.load (o:=2) (x:=.int .i64 z) rfl
  have p3:=pp.load (o:=3) (x:=v) rfl
  have q0:=pp.fld0
  have q1:=pp.fld 1
  have q2:=pp.fld 2
  have q3:=pp.fld 3
  have qc:=pp.chk
  have ln:=z1.len
  cases b with
  | false=>
   have hno:¬Kc n deep (.mk k s z kids):=by
    rintro ⟨_,q1,q2⟩; exact absurd (hb.2 ⟨om,om⟩) (by simp)
   simp only[sA,sB,seval]
   rw[hQ]
   exact⟨.inr ⟨hno,tt⟩,F1⟩
  | true=>
  obtain⟨h01,h02⟩:=hb.1 rfl
  have hok:kH (.mk k s z kids)=(er k s z kids.length&&ff kids):=by simp only[kH]
  have hR:Kc n deep (.mk k s z kids)↔er k s z kids.length=true/\ul (n+1) (deep+1) kids:=by
   unfold Kc ul
   rw[hok,hsz,hdp,QT]
   constructor
   ·rintro ⟨⟨a,b⟩,c,d⟩; exact⟨a,b,om,om⟩
   ·rintro ⟨a,b,c,d⟩; exact⟨⟨a,b⟩,om,om⟩
  have leaf:kids=[]->ul (n+1) (deep+1) kids:=by
   rintro rfl; exact⟨rfl,by simp only[aQ]; omega,by simp only[dx]; omega⟩
  have dM:∀(b:Bool) (H2:aa),er k s z kids.length=b->(b=true->kids=[])->Fp mb H H2->aT H2 mb [.int .i64 ((n+1:Nat):Int)]->Q (.bool b) H2:=by
   intro b H2 h1 h2 h3 h4
   rw[hQ]
   refine⟨?_,h3⟩
   cases b with
   | false=>exact .inr ⟨fun q=>by rw[(hR.1 q).1]at h1; simp at h1,rfl⟩
   | true=>
    have hk:=h2 rfl
    refine .inl ⟨hR.2 ⟨h1,leaf hk⟩,rfl,?_⟩
    rw[hsz,hk]
    exact h4
  simp only[sW,sL,iZ,iI,nf,sB,seval,qc,q0,p0]
  rw[dS]
  refine fu (fun (T:bG) H'=>T 0=ae mb 1 0/\T 1=p/\T 2=.int .i64 (deep:Int)/\Fp mb H H'/\aT H' mb [.int .i64 ((n+1:Nat):Int)]/\PF) (bH _ _) ?_ ?_
  rotate_left
  ·rintro T H2 ⟨t0,t1,t2,F2,r2,hpt⟩
   have e2:=F2.next
   have pp2:=hp.fp F2 hpb
   have p32:=pp2.load (o:=3) (x:=v) rfl
   simp only[sA,sB,seval,t0,t1,t2,qc,q3,p32,ln]
   refine aG (fun m (T:bG) H'=>∃i:Nat,m=kids.length-i/\i<=kids.length/\T 0=ae mb 1 0/\T 1=p/\T 2=.int .i64 (deep:Int)/\T 99=.int .i64 (kids.length:Int)/\T 100=.int .i64 (i:Int)/\Fp mb H H'/\aT H' mb [.int .i64 ((n+1+aQ (kids.take i):Nat):Int)]/\ul (n+1) (deep+1) (kids.take i)) kids.length
    ⟨0,rfl,Nat.zero_le _,by simp only[sA,sB,seval,t0],by simp only[sA,sB,seval,t1],by simp only[sA,sB,seval,t2],by simp only[sA,sB,seval],by simp only[sA,sB,seval]; try rfl,F2,r2,rfl,by simp only[List.take_zero,aQ]; omega,by simp only[List.take_zero,dx]; omega⟩ ?_
   rintro m T H3 ⟨i,rfl,hi,t0,t1,t2,t99,t100,F3,r3,hR3⟩
   have e3:=F3.next
   by_cases hlt:i<kids.length
   case neg=>
    obtain rfl:i=kids.length:=om
    have hlt':¬(kids.length:Int)<(kids.length:Int):=om
    rw[List.take_length]at hR3 r3
    simp only[sA,sB,seval,t99,t100,hlt']
    rw[hQ]
    refine⟨.inl ⟨hR.2 ⟨hPF.1 hpt,hR3⟩,tt,?_⟩,F3⟩
    rw[hsz,show n+(aQ kids+1)=n+1+aQ kids by omega]; exact r3
   have hlt':(i:Int)<(kids.length:Int):=om
   obtain⟨e,he⟩:∃e,kids[i]?=some e:=⟨_,QQ hlt⟩
   have hts:kids.take (i+1)=kids.take i++[e]:=by rw[List.take_add_one,he]; rfl
   have pp3:=hp.fp F3 hpb
   have p33:=pp3.load (o:=3) (x:=v) rfl
   have km:∀b,(b<H.next/\b≠mb)->(b<H3.next/\b≠mb)/\H3.get b=H.get b:=fun b hb=>⟨⟨om,hb.2⟩,F3.old b hb.1 hb.2⟩
   have z13:=z1.mono km
   have z23:=z2.mono km
   have ix:=z13.idx hlt
   have hk:=z13.pt hlt
   have he3:=z23.at he
   have hmem:e∈kids:=QY he
   have hsm:=ep hmem
   have wd:IntKind.i64.wrap ((deep:Int)+1)=((deep+1:Nat):Int):=xh
   have wi:IntKind.i64.wrap ((i:Int)+1)=((i+1:Nat):Int):=by
    have e1:=eQ (kids.take i)
    have e2:=hR3.2.1
    rw[Rd,Nat.min_eq_left hi]at e1
    rw[IntKind.wrap_i64]; omega
   simp only[sA,sB,seval,t0,t1,t2,t99,t100,hlt',qc,q3,p33,ix,wd]
   refine (sy N (by rw[hsz]at h; omega) hk ?_ he3 r3 om hR3.2.1 om).mono ?_
   ·intro a ea
    rcases z13 with⟨_,h0,_⟩ | ⟨a',r,rfl,h0,_⟩
    ·omega
    ·simp only[cF,ab.ptr.injEq,sJ]at ea
     subst ea; exact h0
   rintro u H4 ⟨ho,F4⟩
   have F04:=F3.trans F4
   rcases ho with⟨hgo,rfl,r4⟩ | ⟨hgo,rfl⟩
   ·simp only[sA,sB,seval,t0,t1,t2,t99,t100,wi]
    refine⟨kids.length-(i+1),om,i+1,rfl,om,tt,tt,tt,tt,tt,F04,?_,?_⟩
    ·rw[hts,eN]
     simp only[aQ,Nat.add_zero]
     rw[<- Nat.add_assoc]; exact r4
    ·rw[hts,uG]; exact⟨hR3,hgo⟩
   ·simp only[sA,sB,seval]
    rw[hQ]
    refine⟨.inr ⟨fun q=>hgo ?_,tt⟩,F04⟩
    have:=DP (hR.1 q).2 (i+1)
    rw[hts,uG]at this
    exact this.2
  by_cases k1':k=1
  ·have k1i:(k:Int)=1:=om
   have hpart:er k s z kids.length=(decide (0<=z)&&(s.isEmpty&&Nat.beq kids.length 0)):=by unfold er; rw[if_pos k1']
   by_cases a1:0<=z
   ·by_cases a2:s=[]
    ·by_cases a3:kids=[]
     ·have a3':(kids.length:Int)=0:=by rw[a3]; rfl
      simp only[sA,sB,seval,qc,q0,q1,q2,q3,p0,p1,p2,p3,ln,k1i,a1,a2,a3']
      exact dM true H1 (by rw[hpart,a2,a3,decide_eq_true a1]; rfl) (fun _=>a3) F1 r1
     ·have a3':¬(kids.length:Int)=0:=by have:=List.length_pos_iff.2 a3; omega
      simp only[sA,sB,seval,qc,q0,q1,q2,q3,p0,p1,p2,p3,ln,k1i,a1,a2,a3']
      exact dM false H1 (by rw[hpart,show Nat.beq kids.length 0=false by rw[bD]; exact decide_eq_false om]; simp) (by simp) F1 r1
    ·simp only[sA,sB,seval,qc,q0,q1,q2,q3,p0,p1,p2,p3,ln,k1i,a1,a2]
     exact dM false H1 (by rw[hpart,show s.isEmpty=false by cases s <;> simp_all]; simp) (by simp) F1 r1
   ·simp only[sA,sB,seval,qc,q0,q1,q2,q3,p0,p1,p2,p3,ln,k1i,a1]
    exact dM false H1 (by rw[hpart,decide_eq_false a1]; rfl) (by simp) F1 r1
  have k1i:¬(k:Int)=1:=om
  by_cases k2':k=2
  ·have k2i:(k:Int)=2:=om
   have hpart:er k s z kids.length=(decide (z=0)&&(bW s&&Nat.beq kids.length 0)):=by unfold er; rw[if_neg k1',if_pos k2']
   by_cases a1:z=0
   ·simp only[sA,sB,seval,qc,q0,q1,q2,q3,p0,p1,p2,p3,ln,k1i,k2i,a1]
    refine (jB s).mono ?_
    rintro _ H2 ⟨rfl,E2⟩
    have F12:Fp mb H1 H2:=⟨E2.next,fun c hc _=>E2.old c hc⟩
    have pp2:=hp.fp (F1.trans F12) hpb
    have p32:=pp2.load (o:=3) (x:=v) rfl
    have r2:=r1.same (E2.old mb om)
    cases a2:bW s with
    | false=>
     simp only[sA,sB,seval]
     exact dM false H2 (by rw[hpart,a2]; simp) (by simp) (F1.trans F12) r2
    | true=>
     by_cases a3:kids=[]
     ·have a3':(kids.length:Int)=0:=by rw[a3]; rfl
      simp only[sA,sB,seval,qc,q3,p32,ln,a3']
      exact dM true H2 (by rw[hpart,a2,a3,decide_eq_true a1]; rfl) (fun _=>a3) (F1.trans F12) r2
     ·have a3':¬(kids.length:Int)=0:=by have:=List.length_pos_iff.2 a3; omega
      simp only[sA,sB,seval,qc,q3,p32,ln,a3']
      exact dM false H2 (by rw[hpart,show Nat.beq kids.length 0=false by rw[bD]; exact decide_eq_false om]; simp) (by simp) (F1.trans F12) r2
   ·simp only[sA,sB,seval,qc,q0,q1,q2,q3,p0,p1,p2,p3,ln,k1i,k2i,a1]
    exact dM false H1 (by rw[hpart,decide_eq_false a1]; rfl) (by simp) F1 r1
  have k2i:¬(k:Int)=2:=om
  by_cases k3':k=3
  ·have k3i:(k:Int)=3:=om
   have hpart:er k s z kids.length=(decide (z=0)&&qM s kids.length):=by unfold er; rw[if_neg k1',if_neg k2',if_pos k3']
   by_cases a1:z=0
   ·simp only[sA,sB,seval,qc,q0,q1,q2,q3,p0,p1,p2,p3,ln,k1i,k2i,k3i,a1]
    refine (yz s kids.length).mono ?_
    rintro _ _ ⟨rfl,rfl⟩
    cases a2:qM s kids.length with
    | false=>
     simp only[sA,sB,seval]
     exact dM false H1 (by rw[hpart,a2]; simp) (by simp) F1 r1
    | true=>
     simp only[sA,sB,seval]
     exact⟨tt,tt,tt,F1,r1,hPF.2 (by rw[hpart,a2,decide_eq_true a1]; rfl)⟩
   ·simp only[sA,sB,seval,qc,q0,q1,q2,q3,p0,p1,p2,p3,ln,k1i,k2i,k3i,a1]
    exact dM false H1 (by rw[hpart,decide_eq_false a1]; rfl) (by simp) F1 r1
  have k3i:¬(k:Int)=3:=om
  by_cases k4':k=4
  ·have k4i:(k:Int)=4:=om
   have hpart:er k s z kids.length=(decide (z=0)&&bW s):=by unfold er; rw[if_neg k1',if_neg k2',if_neg k3',if_pos k4']
   by_cases a1:z=0
   ·simp only[sA,sB,seval,qc,q0,q1,q2,q3,p0,p1,p2,p3,ln,k1i,k2i,k3i,k4i,a1]
    refine (jB s).mono ?_
    rintro _ H2 ⟨rfl,E2⟩
    have F12:Fp mb H1 H2:=⟨E2.next,fun c hc _=>E2.old c hc⟩
    have r2:=r1.same (E2.old mb om)
    cases a2:bW s with
    | false=>
     simp only[sA,sB,seval]
     exact dM false H2 (by rw[hpart,a2]; simp) (by simp) (F1.trans F12) r2
    | true=>
     simp only[sA,sB,seval]
     exact⟨tt,tt,tt,F1.trans F12,r2,hPF.2 (by rw[hpart,a2,decide_eq_true a1]; rfl)⟩
   ·simp only[sA,sB,seval,qc,q0,q1,q2,q3,p0,p1,p2,p3,ln,k1i,k2i,k3i,k4i,a1]
    exact dM false H1 (by rw[hpart,decide_eq_false a1]; rfl) (by simp) F1 r1
  have k4i:¬(k:Int)=4:=om
  simp only[sA,sB,seval,k1i,k2i,k3i,k4i]
  exact dM false H1 (by unfold er; rw[if_neg k1',if_neg k2',if_neg k3',if_neg k4']) (by simp) F1 r1
open Go.Abs Go.Abs.S
theorem eY{e:St}:∀{l:List St},e∈l->e.size<=az l
 | [],h=>by simp at h
 | x::l,h=>by
  simp only[az]
  rcases List.mem_cons.1 h with rfl | h
  ·omega
  ·have:=eY h; omega
theorem eM(l m:List St):az (l++m)=az l+az m:=by
 induction l with
 | nil=>simp[az]
 | cons x l ih=>simp only[Q9,az,ih]; omega
theorem jk(l m:List St):bp (l++m)=max (bp l) (bp m):=by
 induction l with
 | nil=>simp[bp]
 | cons x l ih=>simp only[Q9,bp,ih]; omega
theorem sk(l m:List St):cj (l++m)=(cj l&&cj m):=by
 induction l with
 | nil=>simp[cj]
 | cons x l ih=>simp only[Q9,cj,ih,Bool.and_assoc]
theorem fN(l:List St):l.length<=az l:=by
 induction l with
 | nil=>simp
 | cons x l ih=>cases x; simp only[QU,az,St.size]; omega
def MG(n deep:Nat)(e:St):Prop:=yi e=true/\n+e.size<=1000/\deep+e.deep<=41
def py(n deep:Nat)(l:List St):Prop:=cj l=true/\n+az l<=1000/\deep+bp l<=41
theorem uF{n deep:Nat}{l:List St}{e:St}:py n deep (l++[e])↔py n deep l/\MG (n+az l) deep e:=by
 unfold py MG
 rw[sk,eM,jk]
 simp only[cj,az,bp,Bool.and_true,QT]
 constructor
 ·rintro ⟨⟨a,b⟩,c,d⟩; exact⟨⟨a,om,om⟩,b,om,om⟩
 ·rintro ⟨⟨a,b,c⟩,d,e,f⟩; exact⟨⟨a,d⟩,om,om⟩
theorem DO{n deep:Nat}{l:List St}(h:py n deep l)(i:Nat):py n deep (l.take i):=by
 have:=List.take_append_drop i l
 unfold py at *
 rw[<- this,sk,eM,jk]at h
 simp only[QT]at h
 obtain⟨⟨a,b⟩,c,d⟩:=h
 exact⟨a,om,om⟩
theorem eX.blk{P:Nat->Prop}{H:aa}{m k:Nat}{v:ab}{C:List ab}(h:eX P H m v k C){i:Nat}(hi:i<k):∀a,cF m v i=.ptr (some a)->P a.b:=by
 intro a ea
 rcases h with⟨_,h0,_⟩ | ⟨a',r,rfl,h0,_⟩
 ·omega
 ·simp only[cF,ab.ptr.injEq,sJ]at ea
  subst ea; exact h0
def Px(N:Nat):Prop:=∀{e:St} {c:List ab} {H:aa} {mb n deep:Nat} {p:ab},e.size<=N->nk H p c->(∀a,p=.ptr (some a)->a.b<H.next/\a.b≠mb)->XS (fun b=>b<H.next/\b≠mb) H e c->aT H mb [.int .i64 (n:Int)]->mb<H.next->n<=1000->deep<=41 ->
  aq Tryz.prog aA 84 [ae mb 1 0,p,.int .i64 (deep:Int)] H (EV mb n e.size (MG n deep e) H)
def LiR(N:Nat):Prop:=∀{l:List St} {C:List ab} {H:aa} {mb n deep:Nat} {v:ab},az l<=N->eX (fun b=>b<H.next/\b≠mb) H 9 v l.length C->gc (fun b=>b<H.next/\b≠mb) H l C->aT H mb [.int .i64 (n:Int)]->mb<H.next->n<=1000->deep<=41 ->
  aq Tryz.prog aA 40 [ae mb 1 0,v,.int .i64 (deep:Int)] H (EV mb n (az l) (py n deep l) H)
theorem liR{N:Nat}(ih:Px N):LiR N:=by
 intro l C H mb n deep v h z1 z2 hm hmb hn hd
 obtain⟨Q,hQ⟩:∃Q,Q=EV mb n (az l) (py n deep l) H:=⟨_,rfl⟩
 rw[<- hQ]
 refine af rfl P5 rfl ?_
 have ln:=z1.len
 simp only[c40,sA,sB,seval,ln]
 refine aG (fun m (T:bG) H'=>∃i:Nat,m=l.length-i/\i<=l.length/\T 0=ae mb 1 0/\T 1=v/\T 2=.int .i64 (deep:Int)/\T 9=.int .i64 (l.length:Int)/\T 10=.int .i64 (i:Int)/\Fp mb H H'/\aT H' mb [.int .i64 ((n+az (l.take i):Nat):Int)]/\py n deep (l.take i)) l.length
  ⟨0,rfl,Nat.zero_le _,by simp only[sA,sB,seval],by simp only[sA,sB,seval],by simp only[sA,sB,seval],by simp only[sA,sB,seval],by simp only[sA,sB,seval]; try rfl,Fp.refl _ _,hm,rfl,by simp only[List.take_zero,az]; omega,by simp only[List.take_zero,bp]; omega⟩ ?_
 rintro m T H3 ⟨i,rfl,hi,t0,t1,t2,t9,t10,F3,r3,hR3⟩
 have e3:=F3.next
 by_cases hlt:i<l.length
 case neg=>
  obtain rfl:i=l.length:=om
  have hlt':¬(l.length:Int)<(l.length:Int):=om
  rw[List.take_length]at hR3 r3
  simp only[sA,sB,seval,t9,t10,hlt']
  rw[hQ]
  exact⟨.inl ⟨hR3,tt,r3⟩,F3⟩
 have hlt':(i:Int)<(l.length:Int):=om
 obtain⟨e,he⟩:∃e,l[i]?=some e:=⟨_,QQ hlt⟩
 have hts:l.take (i+1)=l.take i++[e]:=by rw[List.take_add_one,he]; rfl
 have km:∀b,(b<H.next/\b≠mb)->(b<H3.next/\b≠mb)/\H3.get b=H.get b:=fun b hb=>⟨⟨om,hb.2⟩,F3.old b hb.1 hb.2⟩
 have z13:=z1.mono km
 have z23:=z2.mono km
 have ix:=z13.idx hlt
 have hk:=z13.pt hlt
 have he3:=z23.at he
 have hsm:=eY (QY he)
 have wi:IntKind.i64.wrap ((i:Int)+1)=((i+1:Nat):Int):=by
  have e1:=fN (l.take i)
  have e2:=hR3.2.1
  rw[Rd,Nat.min_eq_left hi]at e1
  rw[IntKind.wrap_i64]; omega
 simp only[sA,sB,seval,t0,t1,t2,t9,t10,hlt',ix]
 refine (ih om hk (z13.blk hlt) he3 r3 om hR3.2.1 hd).mono ?_
 rintro u H4 ⟨ho,F4⟩
 have F04:=F3.trans F4
 rcases ho with⟨hgo,rfl,r4⟩ | ⟨hgo,rfl⟩
 ·simp only[sA,sB,seval,t0,t1,t2,t9,t10,wi]
  refine⟨l.length-(i+1),om,i+1,rfl,om,tt,tt,tt,tt,tt,F04,?_,?_⟩
  ·rw[hts,eM]
   simp only[az,Nat.add_zero]
   rw[<- Nat.add_assoc]; exact r4
  ·rw[hts,uF]; exact⟨hR3,hgo⟩
 ·simp only[sA,sB,seval]
  rw[hQ]
  refine⟨.inr ⟨fun q=>hgo ?_,tt⟩,F04⟩
  have:=DO q (i+1)
  rw[hts,uF]at this
  exact this.2
theorem stR{N:Nat}(ih:LiR N):Px (N+1):=by
 rintro ⟨k,s,e,body,els,line⟩ c H mb n deep p h hp hpb hx hm hmb hn hd
 obtain⟨ce,vb,Cb,ve,Ce,rfl,x1,z1,z2,y1,y2⟩:=hx
 obtain⟨c0,c1,c2,c3,rfl⟩:∃a b c d,ce=[a,b,c,d]:=by
  have:=x1.len
  match ce,this with
  | [a,b,c,d],_=>exact⟨a,b,c,d,rfl⟩
 obtain⟨Q,hQ⟩:∃Q,Q=EV mb n (St.mk k s e body els line).size (MG n deep (St.mk k s e body els line)) H:=⟨_,rfl⟩
 obtain⟨PF,hPF⟩:∃PF:Prop,PF↔bS k s body.length els.length=true:=⟨_,Iff.rfl⟩
 rw[<- hQ]
 refine af rfl PH rfl ?_
 have hsz:(St.mk k s e body els line).size=e.size+az body+az els+1:=rfl
 have hdp:(St.mk k s e body els line).deep=max e.deep (max (bp body) (bp els))+1:=rfl
 simp only[c84,sW,sL,iZ,iI,nf,sB,seval]
 refine (uU (deep:=deep) hm om).mono ?_
 rintro _ H1 ⟨⟨b,rfl,hb⟩,r1,n1,k1⟩
 have F1:Fp mb H H1:=⟨om,fun c _ hc=>k1 c hc⟩
 have pp:=hp.fp F1 hpb
 have p0:=pp.load0 (x:=.int .u8 (k:Int)) rfl
 have p1:=pp.load (o:=1) (x:=.str s) rfl
 have p6:=pp.load (o:=6) (x:=vb) rfl
 have p7:=pp.load (o:=7) (x:=ve) rfl
 have q0:=pp.fld0
 have q1:=pp.fld 1
 have q2:=pp.fld 2
 have q6:=pp.fld 6
 have q7:=pp.fld 7
 have qc:=pp.chk
 have lb:=z1.len
 have le:=y1.len
 cases b with
 | false=>
  have hno:¬MG n deep (.mk k s e body els line):=by
   rintro ⟨_,q1,q2⟩; exact absurd (hb.2 ⟨om,om⟩) (by simp)
  simp only[sA,sB,seval]
  rw[hQ]
  exact⟨.inr ⟨hno,tt⟩,F1⟩
 | true=>
 obtain⟨h01,h02⟩:=hb.1 rfl
 have hok:yi (.mk k s e body els line)=(bS k s body.length els.length&&(kH e&&(cj body&&cj els))):=by simp only[yi]
 have hR:MG n deep (.mk k s e body els line)↔bS k s body.length els.length=true/\Kc (n+1) (deep+1) e/\py (n+1+e.size) (deep+1) body/\py (n+1+e.size+az body) (deep+1) els:=by
  unfold MG Kc py
  rw[hok,hsz,hdp,QT,QT,QT]
  constructor
  ·rintro ⟨⟨a,b,c,d⟩,e,f⟩; exact⟨a,⟨b,om,om⟩,⟨c,om,om⟩,d,om,om⟩
  ·rintro ⟨a,⟨b,_,_⟩,⟨c,_,_⟩,d,_,_⟩; exact⟨⟨a,b,c,d⟩,om,om⟩
 have dM:∀(H2:aa),bS k s body.length els.length=false->Fp mb H H2->Q (.bool false) H2:=by
  intro H2 h1 h3
  rw[hQ]
  exact⟨.inr ⟨fun q=>by rw[(hR.1 q).1]at h1; simp at h1,rfl⟩,h3⟩
 simp only[sW,sL,iZ,iI,nf,sB,seval,qc,q0,p0]
 rw[dS]
 refine fu (fun (T:bG) H'=>T 0=ae mb 1 0/\T 1=p/\T 2=.int .i64 (deep:Int)/\Fp mb H H'/\aT H' mb [.int .i64 ((n+1:Nat):Int)]/\PF) (bH _ _) ?_ ?_
 rotate_left
 ·rintro T H2 ⟨t0,t1,t2,F2,r2,hpt⟩
  have e2:=F2.next
  have km:∀{K:aa},Fp mb H K->∀b,(b<H.next/\b≠mb)->(b<K.next/\b≠mb)/\K.get b=H.get b:=fun F b hb=>⟨⟨by have:=F.next; omega,hb.2⟩,F.old b hb.1 hb.2⟩
  have pp2:=hp.fp F2 hpb
  have pe:=pp2.part (o:=2) (k:=4) (by simp)
  have wd:IntKind.i64.wrap ((deep:Int)+1)=((deep+1:Nat):Int):=xh
  simp only[sA,sB,seval,t0,t1,t2,qc,q2,wd]
  refine (sy e.size rL pe ?_ (x1.mono (km F2)) r2 om om om).mono ?_
  ·intro a ea
   obtain⟨a',rfl,_⟩:=hp
   simp only[fp,ab.ptr.injEq,sJ]at ea
   subst ea
   have:=hpb a' rfl
   exact⟨by show a'.b<H2.next; omega,this.2⟩
  rintro u H3 ⟨ho,F3⟩
  have F03:=F2.trans F3
  have e3:=F03.next
  rcases ho with⟨g1,rfl,r3⟩ | ⟨g1,rfl⟩
  case inr=>
   simp only[sA,sB,seval,t0,t1,t2]
   rw[hQ]
   exact⟨.inr ⟨fun q=>g1 (hR.1 q).2.1,tt⟩,F03⟩
  have pp3:=hp.fp F03 hpb
  have p63:=pp3.load (o:=6) (x:=vb) rfl
  simp only[sA,sB,seval,t0,t1,t2,qc,q6,p63,wd]
  refine (ih (by rw[hsz]at h; omega) (z1.mono (km F03)) (z2.mono (km F03)) r3 om g1.2.1 om).mono ?_
  rintro u H4 ⟨ho,F4⟩
  have F04:=F03.trans F4
  have e4:=F04.next
  rcases ho with⟨g2,rfl,r4⟩ | ⟨g2,rfl⟩
  case inr=>
   simp only[sA,sB,seval,t0,t1,t2]
   rw[hQ]
   exact⟨.inr ⟨fun q=>g2 (hR.1 q).2.2.1,tt⟩,F04⟩
  have pp4:=hp.fp F04 hpb
  have p74:=pp4.load (o:=7) (x:=ve) rfl
  simp only[sA,sB,seval,t0,t1,t2,qc,q7,p74,wd]
  refine (ih (by rw[hsz]at h; omega) (y1.mono (km F04)) (y2.mono (km F04)) r4 om g2.2.1 om).mono ?_
  rintro u H5 ⟨ho,F5⟩
  have F05:=F04.trans F5
  rcases ho with⟨g3,rfl,r5⟩ | ⟨g3,rfl⟩
  ·simp only[sA,sB,seval]
   rw[hQ]
   refine⟨.inl ⟨hR.2 ⟨hPF.1 hpt,g1,g2,g3⟩,tt,?_⟩,F05⟩
   rw[hsz,show n+(e.size+az body+az els+1)=n+1+e.size+az body+az els by omega]; exact r5
  ·simp only[sA,sB,seval]
   rw[hQ]
   exact⟨.inr ⟨fun q=>g3 (hR.1 q).2.2.2,tt⟩,F05⟩
 have nb0:∀{α:Type} {l:List α},l≠[]->Nat.beq l.length 0=false:=fun q=>by rw[bD]; exact decide_eq_false (by have:=List.length_pos_iff.2 q; omega)
 have pos:∀{α:Type} {l:List α},l≠[]->(0:Int)<(l.length:Int):=fun q=>by have:=List.length_pos_iff.2 q; omega
 have emp:s≠[]->s.isEmpty=false:=fun q=>by cases s <;> simp_all
 have nil0:¬(0:Int)<((([]:List St)).length:Int):=by simp
 by_cases k1:k=1
 ·have i1:(k:Int)=1:=om
  have hpart:bS k s body.length els.length=(bW s&&(Nat.beq body.length 0&&Nat.beq els.length 0)):=by unfold bS; rw[if_pos (.inl k1)]
  simp only[sA,sB,seval,qc,q0,q1,q6,q7,p0,p1,p6,p7,lb,le,i1]
  refine (jB s).mono ?_
  rintro _ H2 ⟨rfl,E2⟩
  have F12:Fp mb H1 H2:=⟨E2.next,fun c hc _=>E2.old c hc⟩
  have F02:=F1.trans F12
  have pp2:=hp.fp F02 hpb
  have p62:=pp2.load (o:=6) (x:=vb) rfl
  have p72:=pp2.load (o:=7) (x:=ve) rfl
  have r2:=r1.same (E2.old mb om)
  cases a2:bW s with
  | false=>
   simp only[sA,sB,seval]
   exact dM H2 (by rw[hpart,a2]; rfl) F02
  | true=>
  by_cases a3:body=[]
  ·by_cases a4:els=[]
   ·have b3:¬(0:Int)<(body.length:Int):=by rw[a3]; simp
    have b4:¬(0:Int)<(els.length:Int):=by rw[a4]; simp
    simp only[sA,sB,seval,qc,q6,q7,p62,p72,lb,le,b3,b4]
    exact⟨tt,tt,tt,F02,r2,hPF.2 (by rw[hpart,a2,a3,a4]; rfl)⟩
   ·have b3:¬(0:Int)<(body.length:Int):=by rw[a3]; simp
    have b4:=pos a4
    simp only[sA,sB,seval,qc,q6,q7,p62,p72,lb,le,b3,b4]
    exact dM H2 (by rw[hpart,nb0 a4]; simp) F02
  ·have b3:=pos a3
   simp only[sA,sB,seval,qc,q6,q7,p62,p72,lb,le,b3]
   exact dM H2 (by rw[hpart,nb0 a3]; simp) F02
 have i1:¬(k:Int)=1:=om
 by_cases k2:k=2
 ·have i2:(k:Int)=2:=om
  have hpart:bS k s body.length els.length=(bW s&&(Nat.beq body.length 0&&Nat.beq els.length 0)):=by unfold bS; rw[if_pos (.inr k2)]
  simp only[sA,sB,seval,qc,q0,q1,q6,q7,p0,p1,p6,p7,lb,le,i1,i2]
  refine (jB s).mono ?_
  rintro _ H2 ⟨rfl,E2⟩
  have F12:Fp mb H1 H2:=⟨E2.next,fun c hc _=>E2.old c hc⟩
  have F02:=F1.trans F12
  have pp2:=hp.fp F02 hpb
  have p62:=pp2.load (o:=6) (x:=vb) rfl
  have p72:=pp2.load (o:=7) (x:=ve) rfl
  have r2:=r1.same (E2.old mb om)
  cases a2:bW s with
  | false=>
   simp only[sA,sB,seval]
   exact dM H2 (by rw[hpart,a2]; rfl) F02
  | true=>
  by_cases a3:body=[]
  ·by_cases a4:els=[]
   ·have b3:¬(0:Int)<(body.length:Int):=by rw[a3]; simp
    have b4:¬(0:Int)<(els.length:Int):=by rw[a4]; simp
    simp only[sA,sB,seval,qc,q6,q7,p62,p72,lb,le,b3,b4]
    exact⟨tt,tt,tt,F02,r2,hPF.2 (by rw[hpart,a2,a3,a4]; rfl)⟩
   ·have b3:¬(0:Int)<(body.length:Int):=by rw[a3]; simp
    have b4:=pos a4
    simp only[sA,sB,seval,qc,q6,q7,p62,p72,lb,le,b3,b4]
    exact dM H2 (by rw[hpart,nb0 a4]; simp) F02
  ·have b3:=pos a3
   simp only[sA,sB,seval,qc,q6,q7,p62,p72,lb,le,b3]
   exact dM H2 (by rw[hpart,nb0 a3]; simp) F02
 have i2:¬(k:Int)=2:=om
 have i12:¬(k=1∨k=2):=om
 by_cases k3:k=3
 ·have i3:(k:Int)=3:=om
  have hpart:bS k s body.length els.length=s.isEmpty:=by unfold bS; rw[if_neg i12,if_pos k3]
  by_cases a2:s=[]
  ·simp only[sA,sB,seval,qc,q0,q1,q6,q7,p0,p1,p6,p7,lb,le,i1,i2,i3,a2]
   exact⟨tt,tt,tt,F1,r1,hPF.2 (by rw[hpart,a2]; rfl)⟩
  ·simp only[sA,sB,seval,qc,q0,q1,q6,q7,p0,p1,p6,p7,lb,le,i1,i2,i3,a2]
   exact dM H1 (by rw[hpart,emp a2]) F1
 have i3:¬(k:Int)=3:=om
 by_cases k4:k=4
 ·have i4:(k:Int)=4:=om
  have hpart:bS k s body.length els.length=(s.isEmpty&&Nat.beq els.length 0):=by unfold bS; rw[if_neg i12,if_neg k3,if_pos k4]
  by_cases a2:s=[]
  ·by_cases a4:els=[]
   ·have b4:¬(0:Int)<(els.length:Int):=by rw[a4]; simp
    simp only[sA,sB,seval,qc,q0,q1,q6,q7,p0,p1,p6,p7,lb,le,i1,i2,i3,i4,a2,b4]
    exact⟨tt,tt,tt,F1,r1,hPF.2 (by rw[hpart,a2,a4]; rfl)⟩
   ·have b4:=pos a4
    simp only[sA,sB,seval,qc,q0,q1,q6,q7,p0,p1,p6,p7,lb,le,i1,i2,i3,i4,a2,b4]
    exact dM H1 (by rw[hpart,nb0 a4]; simp) F1
  ·simp only[sA,sB,seval,qc,q0,q1,q6,q7,p0,p1,p6,p7,lb,le,i1,i2,i3,i4,a2]
   exact dM H1 (by rw[hpart,emp a2]; rfl) F1
 have i4:¬(k:Int)=4:=om
 by_cases k5:k=5
 ·have i5:(k:Int)=5:=om
  have hpart:bS k s body.length els.length=(s.isEmpty&&(Nat.beq body.length 0&&Nat.beq els.length 0)):=by unfold bS; rw[if_neg i12,if_neg k3,if_neg k4,if_pos k5]
  by_cases a2:s=[]
  ·by_cases a3:body=[]
   ·have b3:¬(0:Int)<(body.length:Int):=by rw[a3]; simp
    by_cases a4:els=[]
    ·have b4:¬(0:Int)<(els.length:Int):=by rw[a4]; simp
     simp only[sA,sB,seval,qc,q0,q1,q6,q7,p0,p1,p6,p7,lb,le,i1,i2,i3,i4,i5,a2,b3,b4]
     exact⟨tt,tt,tt,F1,r1,hPF.2 (by rw[hpart,a2,a3,a4]; rfl)⟩
    ·have b4:=pos a4
     simp only[sA,sB,seval,qc,q0,q1,q6,q7,p0,p1,p6,p7,lb,le,i1,i2,i3,i4,i5,a2,b3,b4]
     exact dM H1 (by rw[hpart,nb0 a4]; simp) F1
   ·have b3:=pos a3
    simp only[sA,sB,seval,qc,q0,q1,q6,q7,p0,p1,p6,p7,lb,le,i1,i2,i3,i4,i5,a2,b3]
    exact dM H1 (by rw[hpart,nb0 a3]; simp) F1
  ·simp only[sA,sB,seval,qc,q0,q1,q6,q7,p0,p1,p6,p7,lb,le,i1,i2,i3,i4,i5,a2]
   exact dM H1 (by rw[hpart,emp a2]; rfl) F1
 have i5:¬(k:Int)=5:=om
 simp only[sA,sB,seval,i1,i2,i3,i4,i5]
 exact dM H1 (by unfold bS; rw[if_neg i12,if_neg k3,if_neg k4,if_neg k5]) F1
theorem fV(e:St):0<e.size:=by cases e; simp only[St.size]; omega
theorem Ql:Px 0:=by
 intro e c H mb n deep p h
 exact absurd h (Nat.not_le.2 (fV e))
theorem B6:∀(N:Nat),Px N
 | 0=>Ql
 | N+1=>stR (liR (B6 N))
theorem lN{l:List St}{C:List ab}{H:aa}{v:ab}(z1:eX (·<H.next) H 9 v l.length C)(z2:gc (·<H.next) H l C):aq Tryz.prog aA 15 [v] H fun u H'=>u=.bool (dG l)/\aS H.next H H':=by
 refine af rfl Qh rfl ?_
 obtain⟨H1,m1,r1,n1,k1⟩:=au H [.int .i64 0] (n:=1) rfl
 have b1:bB [.int .i64 0] []=some (.agg [.int .i64 0]):=rfl
 simp only[c15,sA,sB,seval,b1,cq,m1]
 have km:∀b,b<H.next->(b<H1.next/\b≠H.next)/\H1.get b=H.get b:=fun b hb=>⟨⟨om,om⟩,k1 b om⟩
 refine (liR (B6 (az l)) (n:=0) (deep:=1) rL (z1.mono km) (z2.mono km) r1 om om om).mono ?_
 rintro u H2 ⟨ho,F2⟩
 have E:aS H.next H H2:=⟨by have:=F2.next; omega,fun c hc=>by rw[F2.old c om om,k1 c om]⟩
 have hr:py 0 1 l↔dG l=true:=by
  unfold py dG fW
  simp only[QT,Q2]
  constructor
  ·rintro ⟨a,b,c⟩; exact⟨a,om,om⟩
  ·rintro ⟨a,b,c⟩; exact⟨a,om,om⟩
 rcases ho with⟨h,rfl,_⟩ | ⟨h,rfl⟩
 ·rw[hr.1 h]
  simp only[sA,sB,seval]
  exact⟨tt,E⟩
 ·have:dG l=false:=by
   cases hh:dG l with
   | false=>rfl
   | true=>exact absurd (hr.2 hh) h
  rw[this]
  simp only[sA,sB,seval]
  exact⟨tt,E⟩
open Go.Abs Go.Abs.S
structure Nm(S:Bs):Prop where
 beg:∃c r,S=c::r/\beg c=true
 all:∀c∈S,iE c=true
 key:kY S=false
 len:S.length<=16384
theorem J2{c:UInt8}(h:beg c=true):dq c=false/\blk c=false/\c.toNat≠35:=by
 simp only[beg,Bool.or_eq_true,QT,Q2]at h
 refine⟨?_,?_,?_⟩
 ·simp only[dq,Bool.and_eq_false_iff,decide_eq_false_iff_not]; omega
 ·simp only[blk,Bool.or_eq_false_iff,decide_eq_false_iff_not]; omega
 ·omega
theorem Fu{p:UInt8->Bool}{l:Bs}(h:∀c∈l,p c=true):l.takeWhile p=l:=by
 induction l with
 | nil=>rfl
 | cons a l ih=>rw[List.takeWhile_cons_of_pos (h a (by simp)),ih fun c hc=>h c (by simp[hc])]
theorem Nm.name{S:Bs}(h:Nm S):bW S=true:=by
 obtain⟨c,r,rfl,hc⟩:=h.beg
 obtain⟨h1,h2,h3⟩:=J2 hc
 have hs:ba (c::r) 0=0:=pH (s:=c::r) (i:=0) (c:=c) rfl h2 h3
 have hr:bk iE (c::r) 0=(c::r).length:=by unfold bk; rw[List.drop_zero,Fu h.all]; omega
 have hsub:sub (c::r) 0 (c::r).length=c::r:=by
  unfold sub; rw[List.drop_zero,Nat.sub_zero,List.take_length]
 have ho:je (c::r) 0=some ⟨2,c::r,0,(c::r).length⟩:=by
  unfold je
  simp only[QZ,h1,Q1,if_false,hc,if_true,hr,hsub,h.key]
 have hn:cW (c::r) 0=.ok ⟨2,c::r,0,bz (c::r) 0,0,(c::r).length⟩:=by
  unfold cW
  have:=h.len
  rw[if_neg om,if_neg om,hs,if_neg (by simp),ho]
 unfold bW
 rw[hn]
 simp
theorem wm{s:Bs}{p:Nat}{w:Wd}(h:cW s p=.ok w)(hk:w.k=2):Nm w.S:=by
 have hlen:=(il h).1.long
 unfold cW at h
 rw[if_neg om]at h
 by_cases a2:s.length<p
 ·rw[if_pos a2]at h; simp at h
 rw[if_neg a2]at h
 by_cases a3:ba s p=s.length
 ·rw[if_pos a3]at h
  simp only[Except.ok.injEq]at h
  subst h
  simp at hk
 rw[if_neg a3]at h
 have hj:=lr s p
 generalize ba s p=j at *
 cases ho:je s j with
 | none=>rw[ho]at h; simp at h
 | some t=>
  rw[ho]at h
  simp only[Except.ok.injEq]at h
  subst h
  simp only at hk ⊢
  unfold je at ho
  cases hc:s[j]? with
  | none=>rw[hc]at ho; simp at ho
  | some c=>
   rw[hc]at ho
   simp only at ho
   by_cases hd:dq c=true
   ·rw[if_pos hd]at ho
    split at ho
    ·simp only[sJ]at ho; subst ho; simp at hk
    ·simp at ho
   rw[if_neg hd]at ho
   by_cases hb:beg c=true
   ·rw[if_pos hb]at ho
    simp only[sJ]at ho
    subst ho
    simp only at hk ⊢
    have hkey:kY (sub s j (bk iE s j))=false:=by
     cases hh:kY (sub s j (bk iE s j)) with
     | false=>rfl
     | true=>rw[hh]at hk; simp at hk
    have hsub:sub s j (bk iE s j)=(s.drop j).takeWhile iE:=by
     unfold sub bk
     rw[Nat.add_sub_cancel_left]
     exact (List.prefix_iff_eq_take.1 (List.takeWhile_prefix iE)).symm
    have hg:iE c=true:=by simp[iE,hb]
    rw[hsub]at hkey ⊢
    refine⟨?_,fun d hd=>List.all_eq_true.1 List.all_takeWhile d hd,hkey,?_⟩
    ·rw[dR hc,List.takeWhile_cons_of_pos hg]
     exact⟨c,_,rfl,hb⟩
    ·have:=(List.takeWhile_prefix iE (l:=s.drop j)).length_le
     rw[Ra]at this
     omega
   ·rw[if_neg hb]at ho
    split at ho
    ·simp at ho
    ·simp only[sJ]at ho; subst ho; simp at hk
def ID(w:Wd):Prop:=w.k=2->bW w.S=true
theorem eD{s:Bs}{w w':Wd}(h:bC s w=.ok w'):ID w':=fun hk=>(wm h hk).name
theorem jw{s c:Bs}{w w':Wd}(h:bE s c w=.ok w'):ID w':=by
 unfold bE at h
 split at h
 ·exact eD h
 ·simp at h
def ER{α:Type}(o:Option (dt α))(P:α->Prop):Prop:=∀a w',o=some (.ok (a,w'))->P a/\ID w'
theorem cB{α:Type}{o:Except gB Wd}{f:Wd->Option (dt α)}{P:α->Prop}(h:∀w',o=.ok w'->ER (f w') P):ER (dn o f) P:=by
 cases o with
 | error e=>intro a w' q; simp[dn]at q
 | ok w=>exact h w rfl
theorem gj{α β:Type}{o:Option (dt α)}{f:α->Wd->Option (dt β)}{P:α->Prop}{Q:β->Prop}(ho:ER o P)(h:∀a w',P a->ID w'->ER (f a w') Q):ER (fF o f) Q:=by
 cases o with
 | none=>intro a w' q; simp[fF]at q
 | some o=>
  cases o with
  | error e=>intro a w' q; simp[fF]at q
  | ok p=>obtain⟨a,w⟩:=p; exact h a w (ho a w rfl).1 (ho a w rfl).2
theorem dz{α:Type}{a:α}{w:Wd}{P:α->Prop}(h:P a)(hw:ID w):ER (aV a w) P:=by
 intro a' w' q
 simp only[aV,sJ,Except.ok.injEq,pJ]at q
 rw[<- q.1,<- q.2]; exact⟨h,hw⟩
theorem ot{α:Type}{e:Nat}{w:Wd}{P:α->Prop}:ER (jq (α:=α) e w) P:=by intro a w' q; simp[jq]at q
theorem vZ{w:Wd}{l:List Bs}(h:fq w l=true):w.S∈l:=by
 simp only[fq,QT]at h
 simpa using h.2
theorem op2{k:Nat}{S:Bs}(hk:1<=k)(hk5:k<=5)(h:S∈yr k):qM S 2=true:=by
 have key:∀k,1<=k->k<=5->∀S∈yr k,qM S 2=true:=by
  intro k h1 h5
  match k,h1,h5 with
  | 1,_,_ | 2,_,_ | 3,_,_ | 4,_,_ | 5,_,_=>decide
 exact key k hk hk5 S h
theorem op1{S:Bs}(h:S∈([[45],[33]]:List Bs)):qM S 1=true:=by
 have key:∀S∈([[45],[33]]:List Bs),qM S 1=true:=by decide
 exact key S h
theorem Gt{S:Bs}{kids:List Ex}(h:qM S kids.length=true)(hk:ff kids=true):kH (.mk 3 S 0 kids)=true:=by
 simp[kH,er,h,hk]
theorem yl{S:Bs}{kids:List Ex}(h:bW S=true)(hk:ff kids=true):kH (.mk 4 S 0 kids)=true:=by
 simp[kH,er,h,hk]
theorem uQ{l:List Ex}{e:Ex}(h:ff l=true)(he:kH e=true):ff (l++[e])=true:=by
 induction l with
 | nil=>simp[ff,he]
 | cons x l ih=>simp only[ff,QT]at h; simp only[Q9,ff,h.1,ih h.2,Bool.and_self]
theorem uP{l m:List St}(h:cj l=true)(he:cj m=true):cj (l++m)=true:=by
 induction l with
 | nil=>exact he
 | cons x l ih=>simp only[cj,QT]at h; simp only[Q9,cj,h.1,ih h.2,Bool.and_self]
def yk:NT->Prop
 | .rule k=>k<=5
 | .loop k e=>1<=k/\k<=5/\kH e=true
 | .prim=>True
 | .args S out=>bW S=true/\ff out=true
theorem KA(s:Bs):∀(f:Nat) (nt:NT) (g:Nat) (w:Wd),ID w->yk nt->ER (pE s f nt g w) fun e=>kH e=true
 | 0,_,_,_,_,_=>by intro a w' q; simp[pE]at q
 | f+1,nt,g,w,hw,hk=>by
  have ih:=KA s f
  rw[cH]
  cases nt with
  | rule k=>
   cases k with
   | zero=>
    simp only[cK]
    split
    ·exact ot
    split
    ·rename_i hs
     refine cB fun w1 h1=>gj (ih (.rule 0) (g+1) w1 (eD h1) (by simp only[yk]; omega)) fun e w2 he hw2=>?_
     exact dz (Gt (op1 (vZ hs)) (by simp[ff,he])) hw2
    ·exact ih .prim (g+1) w hw trivial
   | succ k=>
    simp only[cK]
    simp only[yk]at hk
    refine gj (ih (.rule k) g w hw (by simp only[yk]; omega)) fun e w1 he hw1=>?_
    exact ih (.loop (k+1) e) g w1 hw1 ⟨om,hk,he⟩
  | loop k e=>
   simp only[cK]
   obtain⟨k1,k5,he⟩:=hk
   split
   ·rename_i hs
    refine cB fun w1 h1=>gj (ih (.rule (k-1)) g w1 (eD h1) (by simp only[yk]; omega)) fun r w2 hr hw2=>?_
    have hok:kH (.mk 3 w.S 0 [e,r])=true:=Gt (op2 k1 k5 (vZ hs)) (by simp[ff,he,hr])
    split
    ·exact dz hok hw2
    ·exact ih (.loop k _) g w2 hw2 ⟨k1,k5,hok⟩
   ·exact dz he hw
  | prim=>
   simp only[cK]
   split
   ·refine cB fun w1 h1=>dz ?_ (eD h1)
    simp[kH,er,ff]
   split
   ·rename_i h2
    refine cB fun w1 h1=>?_
    split
    ·refine cB fun w2 h2'=>?_
     split
     ·exact cB fun w3 h3=>dz (yl (hw h2) rfl) (eD h3)
     ·exact ih (.args w.S []) g w2 (eD h2') ⟨hw h2,rfl⟩
    ·refine dz ?_ (eD h1)
     simp[kH,er,ff,hw h2]
   split
   ·refine cB fun w1 h1=>gj (ih (.rule 5) g w1 (eD h1) (by simp only[yk]; omega)) fun e w2 he hw2=>?_
    exact cB fun w3 h3=>dz he (jw h3)
   ·exact ot
  | args S out=>
   simp only[cK]
   obtain⟨hS,ho⟩:=hk
   refine gj (ih (.rule 5) g w hw (by simp only[yk]; omega)) fun e w1 he hw1=>?_
   split
   ·exact cB fun w2 h2=>ih (.args S (out++[e])) g w2 (eD h2) ⟨hS,uQ ho he⟩
   ·exact cB fun w2 h2=>dz (yl hS (uQ ho he)) (jw h2)
def Qo:NS->Prop
 | .more out=>cj out=true
 | _=>True
theorem Kz(s:Bs):∀(f:Nat) (nt:NS) (g:Nat) (w:Wd),ID w->Qo nt->ER (pS s f nt g w) fun l=>cj l=true
 | 0,_,_,_,_,_=>by intro a w' q; simp[pS]at q
 | f+1,nt,g,w,hw,hk=>by
  have ih:=Kz s f
  have pe:∀g w1,ID w1->ER (pE s f (.rule 5) g w1) fun e=>kH e=true:=fun g w1 h=>KA s f (.rule 5) g w1 h (by simp only[yk]; omega)
  rw[iM]
  have named:∀k line g w1,(k=1∨k=2)->ID w1->ER (jP s (pE s f) k line g w1) fun l=>cj l=true:=by
   intro k line g w1 hk h1
   unfold jP
   split
   ·rename_i c
    refine cB fun w2 h2=>cB fun w3 h3=>gj (pe g w3 (jw h3)) fun e w4 he hw4=>cB fun w5 h5=>dz ?_ (jw h5)
    have:bS k w1.S ([]:List St).length ([]:List St).length=true:=by
     unfold bS; rw[if_pos hk,h1 c]; rfl
    simp only[cj,yi,this,he,Bool.and_self]
   ·exact ot
  have asked:∀g w1 F,(∀e l w4,kH e=true->cj l=true->ID w4->ER (F e l w4) fun l=>cj l=true)->ER (jS s (pE s f) (pS s f) g w1 F) fun l=>cj l=true:=by
   intro g w1 F hF
   unfold jS
   refine cB fun w2 h2=>gj (pe g w2 (jw h2)) fun e w3 he hw3=>cB fun w4 h4=>gj (ih .body g w4 (jw h4) trivial) fun l w5 hl hw5=>hF e l w5 he hl hw5
  cases nt with
  | stmt=>
   simp only[ic]
   split
   ·exact ot
   split
   ·exact cB fun w1 h1=>named _ _ _ w1 (.inl rfl) (eD h1)
   split
   ·exact cB fun w1 h1=>named _ _ _ w1 (.inr rfl) (eD h1)
   split
   ·refine cB fun w1 h1=>asked _ w1 _ fun e l w2 he hl hw2=>?_
    split
    ·refine cB fun w3 h3=>gj (ih .body _ w3 (eD h3) trivial) fun m w4 hm hw4=>dz ?_ hw4
     simp[cj,yi,he,hl,hm,bS]
    ·refine dz ?_ hw2
     simp[cj,yi,he,hl,bS]
   split
   ·refine cB fun w1 h1=>asked _ w1 _ fun e l w2 he hl hw2=>dz ?_ hw2
    simp[cj,yi,he,hl,bS]
   split
   ·refine cB fun w1 h1=>gj (pe _ w1 (eD h1)) fun e w2 he hw2=>cB fun w3 h3=>dz ?_ (jw h3)
    simp[cj,yi,he,bS]
   ·exact ot
  | body=>
   simp only[ic]
   exact cB fun w1 h1=>ih (.more []) g w1 (jw h1) rfl
  | more out=>
   simp only[ic]
   split
   ·exact cB fun w1 h1=>dz hk (eD h1)
   ·exact gj (ih .stmt g w hw trivial) fun x w1 hx hw1=>ih (.more (out++x)) g w1 hw1 (uP hk hx)
theorem vY(s:Bs):∀(f:Nat) (out:List St) (w:Wd) (l:List St),ID w->cj out=true->j5 s f out w=some (.ok l)->cj l=true
 | 0,_,_,_,_,_,h=>by simp[j5]at h
 | f+1,out,w,l,hw,ho,h=>by
  unfold j5 at h
  by_cases c:w.k=5
  ·rw[if_pos c]at h
   simp only[sJ,Except.ok.injEq]at h
   subst h; exact ho
  rw[if_neg c]at h
  cases hp:pS s f .stmt 0 w with
  | none=>rw[hp]at h; simp at h
  | some r=>
   rw[hp]at h
   cases r with
   | error e=>simp at h
   | ok p=>
    obtain⟨x,w1⟩:=p
    obtain⟨h1,h2⟩:=Kz s f .stmt 0 w hw trivial x w1 hp
    exact vY s f (out++x) w1 l h2 (uP ho h1) h
theorem xZ{s:Bs}{l:List St}(h:eC s=.ok l):dG l=true:=by
 unfold eC at h
 cases hn:cW s 0 with
 | error e=>rw[hn]at h; simp at h
 | ok w=>
  rw[hn]at h
  simp only at h
  split at h
  ·simp at h
  ·simp at h
  ·rename_i l' hp
   split at h
   ·rename_i hf
    simp only[Except.ok.injEq]at h
    subst h
    have:=vY s _ [] w l' (fun hk=>(wm hn hk).name) rfl hp
    unfold dG
    rw[this,hf]; rfl
   ·simp at h
theorem DA{s:Bs}{w:Wd}{f:Nat}{l:List St}(hn:cW s 0=.ok w)(hp:j5 s f [] w=some (.ok l)):dG l=fW l:=by
 have:=vY s _ [] w l (fun hk=>(wm hn hk).name) rfl hp
 unfold dG
 rw[this]; rfl
open Go.Abs Go.Abs.S
theorem nT{T:bG}{H:aa}(g:Bool)(n i j:Nat)(K:ab->aa->Prop):dM [.t i,.cell g n j] K .ret T H=dy (am g n H (T j)) fun v=>K (.tuple [T i,v]) H:=by
 rw[CE]
 simp only[nB]
 cases am g n H (T j) with
 | none=>simp[dy]
 | some v=>simp only[aP]; rfl
theorem jY{n pb k b m:Nat}{H:aa}{vb:ab}(hv:Aa n pb H k vb)(hn:n<=H.next)(hpb:pb<n)(hb:aT H b ((yr (k+1)).map ab.str))(hm:((yr (k+1)).map ab.str).length=m)(hbn:b<H.next)(hbp:b≠pb) :
  aq Tryz.prog aA 29 [ae pb 11 0,vb,.bool (!Nat.beq (k+1) 3),qL b m (.known m)] H fun u H'=>Aa H'.next pb H' (k+1) u/\aS H.next H H':=by
 refine af rfl Qf rfl ?_
 obtain⟨H1,m1,r1,n1,k1⟩:=au H [ae pb 11 0] (n:=1) rfl
 have hvo:vb.cells=[vb]:=by
  cases k with
  | zero=>rw[show vb=_ from hv]; rfl
  | succ k=>obtain⟨c0,c1,c2,c3,b,m,vb',rfl,_⟩:=hv; rfl
 obtain⟨H2,m2,r2,n2,k2⟩:=au H1 [vb] (n:=1) rfl
 obtain⟨H3,m3,r3,n3,k3⟩:=au H2 [.bool (!Nat.beq (k+1) 3)] (n:=1) rfl
 obtain⟨H4,m4,r4,n4,k4⟩:=au H3 [qL b m (.known m)] (n:=1) rfl
 have k04:∀c,c<H.next->H4.get c=H.get c:=fun c hc=>by rw[k4 c om,k3 c om,k2 c om,k1 c om]
 have c3:∀x:Bool,(ab.bool x).cells=[.bool x]:=fun _=>rfl
 have c4:(qL b m (.known m)).cells=[qL b m (.known m)]:=rfl
 simp only[c29,sA,sB,seval,iu,m1,hvo,m2,c3,m3,c4,m4]
 refine⟨⟨H1.next,H.next,H3.next,H2.next,b,m,vb,tt,r2.same (by rw[k4 _ om,k3 _ om]),r1.same (by rw[k4 _ om,k3 _ om,k2 _ om]),r4,r3.same (k4 _ om),hb.same (k04 b hbn),hm,?_,(hv.keep fun c hc _=>k04 c om).more om⟩,om,k04⟩
 rintro c (rfl | rfl | rfl | rfl | rfl) <;> omega
theorem GS.bound{n m:Nat}{H:aa}{v:ab}{l:List St}(h:GS n H v l)(hn:m<=n):GS m H v l:=by
 obtain⟨C,h1,h2,h3⟩:=h
 exact⟨C,h1,h2.mono fun c hc=>⟨by have:=hc.1; omega,hc.2⟩,h3.mono fun c hc=>⟨⟨⟨by have:=hc.1.1; omega,hc.1.2⟩,hc.2⟩,rfl⟩⟩
theorem qu(s:Bs){H:aa}:aq Tryz.prog aA 9 [.str s] H fun u H'=>(match eC s with
   | .ok l=>∃v C,u=.tuple [v,.agg (dQ 0 0)]/\eX (In H.next H'.next) H' 9 v l.length C/\gc (In H.next H'.next) H' l C
   | .error e=>u=.tuple [bP,.agg (dQ e.1 e.2)])/\aS H.next H H':=by
 refine af rfl za9 rfl ?_
 obtain⟨H1,m1,r1,n1,k1⟩:=au H [.int .i64 0,.int .i64 0] (n:=2) rfl
 have bo:bB [.str [],.int .u8 0,.str [],.int .i64 0,.int .i64 0,.int .i64 0,.int .i64 0,.int .i64 0,.int .i64 0,.int .i64 0,.nilFunc] [(0,1,.str s)]=some (.agg (cM s ⟨0,[],0,0,0,0⟩ 0 0 0 .nilFunc)):=rfl
 obtain⟨H2,m2,r2,n2,k2⟩:=au H1 (cM s ⟨0,[],0,0,0,0⟩ 0 0 0 .nilFunc) (n:=11) rfl
 obtain⟨pb,hpb⟩:∃pb,pb=H1.next:=⟨_,rfl⟩
 rw[<- hpb]at m2 r2 k2
 have sg:∀{K:aa} (L:List ab),aS H2.next H2 K->(aT (K.push (.cells L 0 false)) K.next L/\aS H2.next H2 (K.push (.cells L 0 false))/\(K.push (.cells L 0 false)).next=K.next+1/\∀k v,Aa K.next pb K k v->Aa K.next pb (K.push (.cells L 0 false)) k v):=fun {K} L E=>
  ⟨dA _ _,E.push E.next _,rfl,fun k v h=>h.keep fun c hc _=>aE hc⟩
 have s6:∀K:aa,cD 6 [.str []] K [(0,1,.str [61,61]),(1,1,.str [33,61]),(2,1,.str [60,61]),(3,1,.str [62,61]),(4,1,.str [60]),(5,1,.str [62])]=some (qL K.next 6 (.known 6),K.push (.cells [.str [61,61],.str [33,61],.str [60,61],.str [62,61],.str [60],.str [62]] 0 false)):=fun _=>rfl
 have s1:∀(K:aa) (c:Bs),cD 1 [.str []] K [(0,1,.str c)]=some (qL K.next 1 (.known 1),K.push (.cells [.str c] 0 false)):=fun _ _=>rfl
 have ag:∀l:List ab,(ab.agg l).cells=l:=cq
 simp only[c9,sW,sL,iZ,iI,nf,sB,seval,m1,bo,ag,m2,Aj]
 obtain⟨p1,E1,e1,u1⟩:=sg [.str [42],.str [47]] (aS.refl H2.next H2)
 refine (jY (k:=0) (b:=H2.next) (m:=2) (u1 0 (.func (.func 30) [ae pb 11 0] []) rfl) om om p1 rfl om om).mono ?_
 rintro u1 H3 ⟨R3,X3⟩
 have E3:=E1.trans (X3.less (by have:=E1.next; omega))
 generalize H2.push (.cells [.str [42],.str [47]] 0 false)=K1 at *
 simp only[sW,sL,iZ,iI,nf,sB,seval,Aj]
 obtain⟨p2,E4,e4,u4⟩:=sg [.str [43],.str [45]] E3
 have x3:=E3.next
 refine (jY (k:=1) (b:=H3.next) (m:=2) (u4 1 _ R3) om om p2 rfl om om).mono ?_
 rintro u2 H5 ⟨R5,X5⟩
 have E5:=E4.trans (X5.less (by have:=E4.next; omega))
 simp only[sW,sL,iZ,iI,nf,sB,seval,s6]
 obtain⟨p3,E6,e6,u6⟩:=sg [.str [61,61],.str [33,61],.str [60,61],.str [62,61],.str [60],.str [62]] E5
 have x5:=E5.next
 refine (jY (k:=2) (b:=H5.next) (m:=6) (u6 2 _ R5) om om p3 rfl om om).mono ?_
 rintro u3 H7 ⟨R7,X7⟩
 have E7:=E6.trans (X7.less (by have:=E6.next; omega))
 simp only[sW,sL,iZ,iI,nf,sB,seval,s1]
 obtain⟨p4,E8,e8,u8⟩:=sg [.str [38,38]] E7
 have x7:=E7.next
 refine (jY (k:=3) (b:=H7.next) (m:=1) (u8 3 _ R7) om om p4 rfl om om).mono ?_
 rintro u4' H9 ⟨R9,X9⟩
 have E9:=E8.trans (X9.less (by have:=E8.next; omega))
 simp only[sW,sL,iZ,iI,nf,sB,seval,s1]
 obtain⟨p5,Ea,ea,ua⟩:=sg [.str [124,124]] E9
 have x9:=E9.next
 refine (jY (k:=4) (b:=H9.next) (m:=1) (ua 4 _ R9) om om p5 rfl om om).mono ?_
 rintro orv Hb ⟨Rb,Xb⟩
 have Eb:=Ea.trans (Xb.less (by have:=Ea.next; omega))
 have xb:=Eb.next
 have oo:orv.one=true:=by obtain⟨c0,c1,c2,c3,b,m,vb',rfl,_⟩:=Rb; rfl
 have q2:aT Hb pb (cM s ⟨0,[],0,0,0,0⟩ 0 0 0 .nilFunc):=r2.same (Eb.old pb om)
 obtain⟨Hc,mc,rc,nc,kc⟩:=cE q2 (n:=11) rfl (i:=10) om (x:=orv) oo (l':=cM s ⟨0,[],0,0,0,0⟩ 0 0 0 orv) rfl
 have Rc:Aa Hb.next pb Hc 5 orv:=Rb.keep fun c _ hc=>kc c hc
 have rt:aT Hc H.next [.int .i64 0,.int .i64 0]:=r1.same (by rw[kc _ om,Eb.old _ om,k2 _ om])
 have hold:∀c,c<H.next->Hc.get c=H.get c:=fun c hc=>by rw[kc c om,Eb.old c om,k2 c om,k1 c om]
 simp only[sW,sL,iZ,iI,nf,sB,seval,aw,aB,mc]
 refine (bZ rc om (by simp)).mono ?_
 rintro u Hd ⟨ho,Fd⟩
 have xd:=Fd.next
 have b0:bB [.int .i64 0,.int .i64 0] []=some (.agg (dQ 0 0)):=rfl
 have bn:bB [.int .i64 0,.int .i64 0] [(0,1,.int .i64 102)]=some (.agg (dQ 102 0)):=rfl
 have hst:bC s ⟨0,[],0,0,0,0⟩=cW s 0:=rfl
 rw[hst]at ho
 cases hn:cW s 0 with
 | error e=>
  rw[hn]at ho
  obtain⟨rfl,rd⟩:=ho
  have hp:eC s=.error e:=by unfold eC; rw[hn]
  have lf:am true 2 Hd (ae pb 11 8)=some (.agg (dQ e.1 e.2)):=eA rd (n:=11) rfl (i:=8) (k:=2) om
  obtain⟨He,me,re,ne,ke⟩:=aj (rt.same (Fd.old _ om om)) (n:=2) rfl (xs:=dQ e.1 e.2) rfl rfl
  have le:=al re (n:=2) rfl
  rw[hp]
  simp only[sA,sB,seval,aw,aB,lf,me,nT,le,aP]
  exact⟨tt,om,fun c hc=>by rw[ke c om,Fd.old c om om,hold c hc]⟩
 | ok w=>
 rw[hn]at ho
 obtain⟨rfl,rd⟩:=ho
 obtain⟨hw,-,-⟩:=il hn
 obtain⟨r,hr⟩:=yE hn
 have A:PA Hb.next pb s Hd w 0 0 0 orv:=⟨rd,om,om,Rc.keep fun c hc hp=>Fd.old c om hp,hw,om⟩
 have hfu:nr s<=1000000:=by have:=hw.long; unfold nr; omega
 have hp:eC s=match r with
   | .error e=>.error e
   | .ok l=>if fW l then .ok l else .error (102,0):=by
  unfold eC; rw[hn]; simp only[hr]; cases r <;> rfl
 have holdd:∀c,c<H.next->Hd.get c=H.get c:=fun c hc=>by rw[Fd.old c om om,hold c hc]
 have rtd:=rt.same (Fd.old _ om om)
 rw[hp]
 simp only[sW,sL,iZ,iI,nf,sB,seval]
 rw[dS]
 refine fu (fun (T:bG) H'=>T 3=ae H.next 2 0/\aT H' H.next [.int .i64 0,.int .i64 0]/\H.next<H'.next/\(∀c,c<H.next->H'.get c=H.get c)/\∃l,r=.ok l/\T 9=T 9/\GS (H.next+1) H' (T 9) l) (bH _ _) ?_ ?_
 rotate_left
 ·rintro T He ⟨t3,re,ne,oe,l,rfl,-,G⟩
  have hrf:=DA hn hr
  obtain⟨C,z1,z2⟩:=G.sl
  simp only[sA,sB,seval]
  refine (lN (z1.mono fun c hc=>⟨hc.2,rfl⟩) (z2.mono fun c hc=>⟨hc.2,rfl⟩)).mono ?_
  rintro _ Hf ⟨rfl,Ef⟩
  have xf:=Ef.next
  rw[hrf]
  cases hfit:fW l with
  | true=>
   obtain⟨Hg,mg,rg,ng,kg⟩:=aj (re.same (Ef.old _ ne)) (n:=2) rfl (xs:=dQ 0 0) rfl rfl
   have lg:=al rg (n:=2) rfl
   have km:∀c,In (H.next+1) He.next c->In H.next Hg.next c/\Hg.get c=He.get c:=fun c hc=>by
    have h1:=hc.1
    have h2:=hc.2
    exact⟨⟨om,om⟩,by rw[kg c om,Ef.old c h2]⟩
   simp only[sA,sB,seval,t3,b0,mg,nT,lg,aP]
   exact⟨⟨_,C,rfl,z1.mono km,z2.mono km⟩,om,fun c hc=>by rw[kg c om,Ef.old c om,oe c hc]⟩
  | false=>
   obtain⟨Hg,mg,rg,ng,kg⟩:=aj (re.same (Ef.old _ ne)) (n:=2) rfl (xs:=dQ 102 0) rfl rfl
   have lg:=al rg (n:=2) rfl
   simp only[sA,sB,seval,t3,bn,mg,nT,lg,aP]
   exact⟨tt,om,fun c hc=>by rw[kg c om,Ef.old c om,oe c hc]⟩
 refine aG (fun m (T:bG) H'=>∃out w' v,T 3=ae H.next 2 0/\T 4=ae pb 11 0/\T 9=v/\GS Hd.next H' v out/\out.length+m<=nr s/\PA Hb.next pb s H' w' 0 0 0 orv/\Fp pb Hd H'/\j5 s m out w'=some r) (nr s)
  ⟨[],w,bP,by simp only[sA,sB,seval],by simp only[sA,sB,seval],by simp only[sA,sB,seval]; rfl,GS.nil _ _,by simp,A,Fp.refl _ _,hr⟩ ?_
 rintro m T He ⟨out,w',v,t3,t4,t9,G,hm,Ae,Fe,hpt⟩
 have xe:=Fe.next
 have rte:=rtd.same (Fe.old _ om om)
 cases m with
 | zero=>simp[j5]at hpt
 | succ m=>
 unfold j5 at hpt
 have lk:am false 1 He (ae pb 11 1)=some (.int .u8 (w'.k:Int)):=ah Ae.row rfl rfl
 by_cases hk:w'.k=5
 ·rw[if_pos hk]at hpt
  simp only[sJ]at hpt
  subst hpt
  have hk':(w'.k:Int)=5:=om
  simp only[sA,sB,seval,t3,t4,t9,aw,aB,fld0,lk,hk']
  exact⟨tt,rte,om,fun c hc=>by rw[Fe.old c om om,holdd c hc],out,rfl,tt,G.bound om⟩
 rw[if_neg hk]at hpt
 have hk':¬(w'.k:Int)=5:=om
 obtain⟨r0,hr0⟩:∃r0,pS s m .stmt 0 w'=some r0:=by
  cases hq:pS s m .stmt 0 w' with
  | none=>rw[hq]at hpt; simp at hpt
  | some r=>exact⟨r,rfl⟩
 rw[hr0]at hpt
 simp only[sA,sB,seval,t3,t4,t9,aw,aB,fld0,lk,hk']
 refine ((Dm Hb.next pb s m om m rL).stmt He w' 0 0 0 orv r0 Ae hr0).mono ?_
 rintro u Hf ⟨ho,Ff⟩
 have xf:=Ff.next
 cases r0 with
 | error e=>
  simp only[sJ]at hpt
  subst hpt
  obtain⟨rfl,w2,rf⟩:=ho
  obtain⟨Hg,mg,rg,ng,kg⟩:=au Hf [.int .u8 0,.str [],.int .u8 0,.str [],.int .i64 0,.slice none 0 (.known 0),.slice none 0 (.known 0),.slice none 0 (.known 0),.int .i64 0] (n:=9) rfl
  obtain⟨Hh,mh,rh,nh,kh⟩:=aj rg (n:=9) rfl (xs:=Z9) rfl rfl
  have lf:am true 2 Hh (ae pb 11 8)=some (.agg (dQ e.1 e.2)):=eA (rf.same (by rw[kh _ om,kg _ om])) (n:=11) rfl (i:=8) (k:=2) om
  obtain⟨Hi,mi,ri,ni,ki⟩:=aj (H:=Hh) (rte.same (by rw[kh _ om,kg _ om,Ff.old _ om om])) (n:=2) rfl (xs:=dQ e.1 e.2) rfl rfl
  have li:=al ri (n:=2) rfl
  simp only[sA,sB,seval,b9,b7,t3,t4,mg,mh,aw,aB,lf,mi,nT,li,aP]
  exact⟨tt,om,fun c hc=>by rw[ki c om,kh c om,kg c om,Ff.old c om om,Fe.old c om om,holdd c hc]⟩
 | ok p=>
  obtain⟨st',w2⟩:=p
  obtain⟨st,xs,rfl,rfl,hx,rf,of⟩:=ho
  obtain⟨Hg,mg,rg,ng,kg⟩:=au Hf [.int .u8 0,.str [],.int .u8 0,.str [],.int .i64 0,.slice none 0 (.known 0),.slice none 0 (.known 0),.slice none 0 (.known 0),.int .i64 0] (n:=9) rfl
  obtain⟨Hh,mh,rh,nh,kh⟩:=aj rg (n:=9) rfl hx.len hx.one
  have lh:=al rh hx.len
  have khf:∀c,c<Hf.next->Hh.get c=Hf.get c:=fun c hc=>by rw[kh c om,kg c om]
  have bm:=jp (z:=[.int .u8 0,.str [],.int .u8 0,.str [],.int .i64 0,.slice none 0 (.known 0),.slice none 0 (.known 0),.slice none 0 (.known 0),.int .i64 0]) (xs:=xs) (m:=9) Hh rfl hx.len
  have hbs:eJ v (In Hd.next He.next):=by
   obtain⟨C,_,q,_⟩:=G
   exact q
  have Gh:GS Hd.next Hh v out:=G.keep om fun c hc=>by
   have h1:=hc.1
   have h2:=hc.2
   rw[khf c om,Ff.old c h2 om]
  have hxh:XS (In He.next Hh.next) Hh st xs:=hx.mono fun c hc=>⟨⟨hc.1,by have:=hc.2; omega⟩,khf c hc.2⟩
  obtain⟨v',Hi,ai,Gi,ni,ki⟩:=Gh.push hxh om om (hbs.mono fun c hc=>hc.2) om (bytes:=136) om om
  have bpb:eJ v (pb≠·):=hbs.mono fun c hc=>by have:=hc.1; omega
  have Fi:Fp pb Hd Hi:=⟨om,fun c hc hp=>by
   rw[ki c om (hbs.mono fun d hd=>by have:=hd.1; omega),khf c om,Ff.old c om hp,Fe.old c hc hp]⟩
  simp only[sA,sB,seval,b9,b7,t3,t4,t9,mg,mh,lh,bm,ai]
  refine⟨m,om,out++[st],w2,v',by simp only[sA,sB,seval,t3],by simp only[sA,sB,seval,t4],by simp only[sA,sB,seval],Gi,by simp; omega,?_,Fi,hpt⟩
  refine⟨rf.same (by rw[ki pb om bpb,khf pb om]),om,om,A.or.keep fun c hc hp=>Fi.old c om hp,of,om⟩
end Go.Proofs.Wo
