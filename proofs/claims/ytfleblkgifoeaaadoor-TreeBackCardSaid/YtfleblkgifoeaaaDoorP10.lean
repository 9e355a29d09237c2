/- Part of a proof (YP8 YP9 YC3 YQ1 YQ2 YPS YG1 YPN); no condition. -/
import Derived.Test.YtfleblkgifoeaaaDoorProg
import Derived.KernelRfl
import Derived.Test.YtfleblkgifoeaaaDoorP7
import Derived.Test.YtfleblkgifoeaaaDoorP8
import Derived.Test.YtfleblkgifoeaaaDoorP9
set_option linter.unusedSimpArgs false
set_option linter.unusedVariables false
set_option linter.unnecessarySimpa false
namespace Go.Proofs.Wo
open Go.Abs Go.Abs.S
def NV(pb:Nat)(s:Bs)(g:Nat)(x y:Int)(orv:aa)(H:ab)(r:eD (List St))(u:aa)(H':ab):Prop:=
 (match r with
 | .ok (l,w')=>∃st xs,l=[st]/\u=.tuple [.agg xs,.bool true]/\XS (In H.next H'.next) H' st xs/\bc H' pb (cj s w' g x y orv)/\nQ s w'
 | .error e=>u=.tuple [.agg Z9,.bool false]/\∃w',bc H' pb (cj s w' g e.1 e.2 orv))/\Fp pb H H'
def GQ(n pb:Nat)(s:Bs)(f:Nat):Prop:=∀(H:ab) (w:Wd) (g:Nat) (x y:Int) (orv:aa) (r:eD (List St)),PA n pb s H w g x y orv->pS s f .stmt g w=some r->an Tryd.prog aB 15 [af pb 11 0] H (NV pb s g x y orv H r)
def B0(n pb:Nat)(s:Bs)(f:Nat):Prop:=∀(H:ab) (w:Wd) (g:Nat) (x y:Int) (orv:aa) (r:eD (List St)) (sb i:Nat) (l:List aa),PA n pb s H w g x y orv->bc H sb l->l.length=9->n<=sb->sb<H.next->l[i]?=some cp->pS s f .body g w=some r ->
  an Tryd.prog aB 30 [af pb 11 0,af sb 9 i] H fun u H'=>(match r with
   | .ok (out,w')=>u=.bool true/\∃v C,bc H' sb (l.set i v)/\fw (In H.next H'.next) H' 9 v out.length C/\gr (In H.next H'.next) H' out C/\bc H' pb (cj s w' g x y orv)/\nQ s w'
   | .error e=>u=.bool false/\∃w',bc H' pb (cj s w' g e.1 e.2 orv))/\Fs pb sb H H'
theorem Es{a b n m i j:Nat}(h:a≠b):jJ .apart [af a n i,af b m j]=some (.bool true):=by
 show (bif IL (af a n i) (af b m j) then some (aa.bool true) else none)=_
 have:IL (af a n i) (af b m j)=true:=by
  simp only[IL,ge,af]
  rw[show Nat.beq a b=false by rw[b9]; exact decide_eq_false h]; rfl
 rw[this]; rfl
theorem GS.len{n:Nat}{H:ab}{v:aa}{l:List St}(h:GS n H v l):gh false v=some (.int .i64 (l.length:Int)):=by
 obtain⟨C,h1,_⟩:=h; exact h1.len
theorem GS.aeq{n:Nat}{H:ab}{v:aa}{l:List St}(h:GS n H v l):aeq v v=true:=by
 obtain⟨C,h1,_⟩:=h.sl; exact h1.aeq
theorem Ed{l:List aa}{i:Nat}{x:aa}(h:l[i]?=some x):l.set i x=l:=by
 apply List.ext_getElem?
 intro j
 rw[List.getElem?_set]
 by_cases e:i=j
 ·subst e
  have:=(N2.1 h).1
  rw[if_pos rfl,if_pos this,h]
 ·rw[if_neg e]
theorem Bu{n pb:Nat}{s:Bs}{f:Nat}(hf:f<=1000000)(ihs:∀f',f'<f->GQ n pb s f'):B0 n pb s f:=by
 intro H w g x y orv r sb i l A hl hl9 hs hsb hi hr
 refine ak rfl M8 rfl ?_
 have hlt:=A.lt
 have hpn:=A.hpb
 have hi9:i<9:=by have:=(N2.1 hi).1; omega
 cases f with
 | zero=>simp[pS]at hr
 | succ f=>
 rw[gB]at hr
 simp only[dk]at hr
 simp only[c30,sA,sB,seval]
 refine (dB A.row hlt A.en [123]).mono ?_
 rintro u H1 ⟨ho,F1⟩
 have e1:=F1.next
 rcases cG hr with⟨e,he,rfl⟩ | ⟨w1,he,hr⟩
 ·rw[he]at ho
  obtain⟨rfl,r1⟩:=ho
  simp only[sA,sB,seval]
  exact⟨⟨tt,w,r1⟩,.of F1⟩
 rw[he]at ho
 obtain⟨rfl,r1⟩:=ho
 have A1:=A.fwd F1 r1 (cy he A.ok).2.2.1 A.hg
 simp only[sA,sB,seval]
 refine bD (fun m (T:bU) H'=>∃out w' v,T 0=af pb 11 0/\T 1=af sb 9 i/\GS H.next H' v out/\out.length+m<=f/\PA n pb s H' w' g x y orv/\bc H' sb (l.set i v)/\Fs pb sb H H'/\pS s m (.more out) g w'=some r) f
  ⟨[],w1,cp,by simp only[sA,sB,seval],by simp only[sA,sB,seval],GS.nil _ _,by simp,A1,by
   rw[Ed hi]; exact hl.same (F1.old sb hsb om),.of F1,hr⟩ ?_
 rintro m T H2 ⟨out,w',v,t0,t1,G2,hm,A2,q2,F2,hp⟩
 have e2:=F2.next
 cases m with
 | zero=>simp[pS]at hp
 | succ m=>
 rw[gB]at hp
 simp only[dk]at hp
 have bs:=iK (.str []) H2 (x:=.str [125]) rfl
 have A3:=A2.push (.cells [.str [125]] 0 false)
 have F3:Fp pb H2 (H2.push (.cells [.str [125]] 0 false)):=kS _
 simp only[sA,sB,seval,t0,t1,bs]
 refine (fZ A3.row (kT H2 [125]) (by simp)).mono ?_
 rintro _ _ ⟨rfl,rfl⟩
 generalize H2.push (.cells [.str [125]] 0 false)=H3 at *
 have e3:=F3.next
 have F03:=F2.trans (.of F3)
 have q3:=q2.same (F3.old sb om om)
 have G3:GS H.next H3 v out:=G2.keep e3 fun c hc=>F3.old c hc.2 (by have:=hc.1; omega)
 cases hs2:dN w' [[125]] with
 | true=>
  rw[if_pos hs2]at hp
  simp only[sA,sB,seval,t0]
  refine (bu A3.row A3.lt A3.en).mono ?_
  rintro u H4 ⟨ho,F4⟩
  have e4:=F4.next
  rcases cG hp with⟨e,he,rfl⟩ | ⟨w2,he,hp⟩
  ·rw[he]at ho
   obtain⟨rfl,r4⟩:=ho
   simp only[sA,sB,seval]
   exact⟨⟨tt,w',r4⟩,F03.trans (.of F4)⟩
  ·rw[he]at ho
   obtain⟨rfl,r4⟩:=ho
   simp only[bp,sJ]at hp
   subst hp
   have G4:=G3.keep e4 fun c hc=>F4.old c hc.2 (by have:=hc.1; omega)
   obtain⟨C,z1,z2⟩:=G4.sl
   simp only[sA,sB,seval]
   exact⟨⟨tt,v,C,q3.same (F4.old sb om om),z1,z2,r4,(aQ he A3.ok (by rw[gG hs2]; omega)).1⟩,F03.trans (.of F4)⟩
 | false=>
 rw[if_neg (by rw[hs2]; simp)]at hp
 obtain⟨r0,hr0⟩:∃r0,pS s m .stmt g w'=some r0:=by
  rcases ck hp with⟨e,he,rfl⟩ | ⟨e1,w2,he,_⟩
  ·exact⟨_,he⟩
  ·exact⟨_,he⟩
 simp only[sA,sB,seval,t0]
 refine (ihs m om H3 w' g x y orv r0 A3 hr0).mono ?_
 rintro u H4 ⟨ho,F4⟩
 have e4:=F4.next
 have F04:=F03.trans (.of F4)
 rcases ck hp with⟨e,he,rfl⟩ | ⟨st',w2,he,hp⟩
 ·rw[hr0]at he
  simp only[sJ]at he
  subst he
  obtain⟨rfl,w2,r4⟩:=ho
  obtain⟨H5,m5,r5,n5,k5⟩:=aG H4 [.int .u8 0,.str [],.int .u8 0,.str [],.int .i64 0,.slice none 0 (.known 0),.slice none 0 (.known 0),.slice none 0 (.known 0),.int .i64 0] (n:=9) rfl
  obtain⟨H6,m6,r6,n6,k6⟩:=aq r5 (n:=9) rfl (xs:=Z9) rfl rfl
  simp only[sA,sB,seval,bZ,bY,m5,m6]
  exact⟨⟨tt,w2,r4.same (by rw[k6 _ om,k5 _ om])⟩,om,fun c h1 h2 h3=>by rw[k6 c om,k5 c om,F04.old c h1 h2 h3]⟩
 rw[hr0]at he
 simp only[sJ]at he
 subst he
 obtain⟨st,xs,rfl,rfl,hx,r4,o4⟩:=ho
 obtain⟨H5,m5,r5,n5,k5⟩:=aG H4 [.int .u8 0,.str [],.int .u8 0,.str [],.int .i64 0,.slice none 0 (.known 0),.slice none 0 (.known 0),.slice none 0 (.known 0),.int .i64 0] (n:=9) rfl
 obtain⟨H6,m6,r6,n6,k6⟩:=aq r5 (n:=9) rfl hx.len hx.one
 have k64:∀c,c<H4.next->H6.get c=H4.get c:=fun c hc=>by rw[k6 c om,k5 c om]
 have l6:=aD r6 hx.len
 have F06:Fs pb sb H H6:=F04.trans ⟨om,fun c h1 _ _=>k64 c h1⟩
 have q6:=q3.same (H':=H6) (by rw[k64 sb om,F4.old sb om om])
 have lv:am false 1 H6 (af sb 9 i)=some v:=al q6 (by rw[List.length_set]; exact hl9) (by rw[List.getElem?_set]; simp[hl9,hi9])
 have G6:GS H.next H6 v out:=G3.keep om fun c hc=>by
  have h1:=hc.1
  have h2:=hc.2
  rw[k64 c om,F4.old c h2 om]
 have hx6:XS (In H3.next H6.next) H6 st xs:=hx.mono fun c hc=>⟨⟨hc.1,by have:=hc.2; omega⟩,k64 c hc.2⟩
 have hbs:fx v (In H.next H3.next):=by
  obtain⟨C,_,q,_⟩:=G3
  exact q
 have bm:=vr (z:=[.int .u8 0,.str [],.int .u8 0,.str [],.int .i64 0,.slice none 0 (.known 0),.slice none 0 (.known 0),.slice none 0 (.known 0),.int .i64 0]) (xs:=[.int .u8 0,.str [],.int .u8 0,.str [],.int .i64 0,.slice none 0 (.known 0),.slice none 0 (.known 0),.slice none 0 (.known 0),.int .i64 0]) (m:=9) H6 rfl rfl
 obtain⟨v',H7,H8,b,lim,a7,i7,s7,o7,G8,hbn,e67,e78,fr7,neb,fr8⟩:=G6.pushZ hx6 om om (hbs.mono fun c hc=>hc.2) om
 have bsb:fx v (sb≠·):=hbs.mono fun c hc=>by have:=hc.1; omega
 have bpb:fx v (pb≠·):=hbs.mono fun c hc=>by have:=hc.1; omega
 have nsb:sb≠b:=om
 have npb:pb≠b:=om
 obtain⟨H9,m9,r9,n9,k9⟩:=dW (q6.same (fr8 sb om bsb)) (n:=9) (by rw[List.length_set]; exact hl9) (i:=i) hi9 (x:=v') o7 (l':=l.set i v') (by rw[List.set_set])
 have lvP:am false 1 (H6.push (.cells Z9 0 false)) (af sb 9 i)=some v:=al (q6.same (aE om)) (by rw[List.length_set]; exact hl9) (by rw[List.getElem?_set]; simp[hl9,hi9])
 have lxP:am true 9 (H6.push (.cells Z9 0 false)) (af H4.next 9 0)=some (.agg xs):=aD (r6.same (aE om)) hx.len
 simp only[Z9]at a7 lvP lxP
 have ln:=G6.len
 simp only[sA,sB,seval,bZ,bY,m5,m6]
 refine jh rfl ?_
 simp only[sR,sA,sB,seval,t0,t1,aC,lv,l6,ln,bm,a7,i7,s7,m9]
 simp only[fN,fO,ez,fP,iJ,and_true,true_and,List.map_cons,List.map_nil,sA,sB,seval,t0,t1]
 refine⟨⟨⟨_,rfl,fun _=>⟨_,lvP,G6.aeq⟩⟩,⟨_,rfl,fun _=>⟨_,lxP,by simpa[aeq] using hx.aeqs⟩⟩⟩,?_⟩
 simp only[sA,sB,seval,Es nsb]
 have F9:Fs pb sb H H9:=⟨om,fun c h1 h2 h3=>by
  rw[k9 c h3,fr8 c om (hbs.mono fun d hd=>by have:=hd.1; omega),F06.old c h1 h2 h3]⟩
 refine⟨m,om,out++[st],w2,v',by simp only[sA,sB,seval,t0],by simp only[sA,sB,seval,t1],G8.keep om fun c hc=>k9 c (by have:=hc.1; omega),by simp; omega,A.fws hs F9 ?_ o4 A.hg,r9,F9,hp⟩
 exact r4.same (by rw[k9 pb om,fr8 pb om bpb,k64 pb om])
open Go.Abs Go.Abs.S
def C8(s:Bs)(pe:NT->Nat->Wd->Option (eD Ex))(rec:NS->Nat->Wd->Option (eD (List St)))(g:Nat)(w:Wd):Option (eD (Ex×List St)):=
 fK (cJ s [40] w) fun w1=>jw (pe (.rule 5) g w1) fun e w2=>fK (cJ s [41] w2) fun w3=>jw (rec .body g w3) fun l w4=>bp (e,l) w4
theorem tZ(s:Bs)(pe:NT->Nat->Wd->Option (eD Ex))(rec:NS->Nat->Wd->Option (eD (List St)))(g:Nat)(w:Wd)(f:Ex->List St->Wd->Option (eD (List St))):eM s pe rec g w f=jw (C8 s pe rec g w) fun p w4=>f p.1 p.2 w4:=by
 unfold eM C8
 cases cJ s [40] w with
 | error e=>rfl
 | ok w1=>
  simp only[fK]
  cases pe (.rule 5) g w1 with
  | none=>rfl
  | some o=>
   cases o with
   | error e=>rfl
   | ok p=>
    obtain⟨e,w2⟩:=p
    simp only[jw]
    cases cJ s [41] w2 with
    | error e=>rfl
    | ok w3=>
     simp only[fK]
     cases rec .body g w3 with
     | none=>rfl
     | some o=>
      cases o with
      | error e=>rfl
      | ok p=>obtain⟨l,w4⟩:=p; rfl
theorem oS{n pb sb:Nat}{s:Bs}{f:Nat}(ihr:kJ n pb s f 5)(ihb:B0 n pb s f){H:ab}{w:Wd}{g:Nat}{x y:Int}{orv:aa}{k line:Nat}{r:eD (Ex×List St)}(A:PA n pb s H w g x y orv)(hr:C8 s (pE s f) (pS s f) g w=some r)(hl:bc H sb (jP k [] Zx cp cp line))(hs:n<=sb)(hsb:sb<H.next) :
  an Tryd.prog aB 29 [af pb 11 0,af sb 9 0] H fun u H'=>(match r with
   | .ok (p,w')=>u=.bool true/\∃xs v C,bc H' sb (jP k [] xs v cp line)/\XE (In H.next H'.next) H' p.1 xs/\fw (In H.next H'.next) H' 9 v p.2.length C/\gr (In H.next H'.next) H' p.2 C/\bc H' pb (cj s w' g x y orv)/\nQ s w'
   | .error e=>u=.bool false/\∃w',bc H' pb (cj s w' g e.1 e.2 orv))/\Fs pb sb H H':=by
 refine ak rfl M9 rfl ?_
 unfold C8 at hr
 have hlt:=A.lt
 have hpn:=A.hpb
 simp only[c29,sA,sB,seval]
 refine (dB A.row A.lt A.en [40]).mono ?_
 rintro u H3 ⟨ho,F3⟩
 have e3:=F3.next
 rcases cG hr with⟨e,he,rfl⟩ | ⟨w2,he,hr⟩
 ·rw[he]at ho
  obtain⟨rfl,r3⟩:=ho
  simp only[sA,sB,seval]
  exact⟨⟨tt,w,r3⟩,.of F3⟩
 rw[he]at ho
 obtain⟨rfl,r3⟩:=ho
 have A3:=A.fwd F3 r3 (cy he A.ok).2.2.1 A.hg
 have q3:=hl.same (F3.old sb om om)
 obtain⟨r0,hr0⟩:∃r0,pE s f (.rule 5) g w2=some r0:=by
  rcases ck hr with⟨e,he,rfl⟩ | ⟨e1,w3,he,_⟩
  ·exact⟨_,he⟩
  ·exact⟨_,he⟩
 simp only[sA,sB,seval,aC,cz]
 refine (mn ihr A3 hr0 q3 rfl hs om (i:=2) om).mono ?_
 rintro u H4 ⟨ho,F4⟩
 have e4:=F4.next
 have F04:Fs pb sb H H4:=(Fs.of F3).trans F4
 rcases ck hr with⟨e,he,rfl⟩ | ⟨e1,w3,he,hr⟩
 ·rw[hr0]at he
  simp only[sJ]at he
  subst he
  obtain⟨rfl,w',r4⟩:=ho
  simp only[sA,sB,seval]
  exact⟨⟨tt,w',r4⟩,F04⟩
 rw[hr0]at he
 simp only[sJ]at he
 subst he
 obtain⟨rfl,xs,q4,hx,r4,o4⟩:=ho
 have q4':bc H4 sb (jP k [] xs cp cp line):=q4
 have A4:=A3.fws hs F4 r4 o4 A.hg
 simp only[sA,sB,seval]
 refine (dB A4.row A4.lt A4.en [41]).mono ?_
 rintro u H5 ⟨ho,F5⟩
 have e5:=F5.next
 have F05:=F04.trans (.of F5)
 rcases cG hr with⟨e,he,rfl⟩ | ⟨w4,he,hr⟩
 ·rw[he]at ho
  obtain⟨rfl,r5⟩:=ho
  simp only[sA,sB,seval]
  exact⟨⟨tt,w3,r5⟩,F05⟩
 rw[he]at ho
 obtain⟨rfl,r5⟩:=ho
 have A5:=A4.fwd F5 r5 (cy he o4).2.2.1 A.hg
 have q5:=q4'.same (F5.old _ om om)
 obtain⟨r1,hr1⟩:∃r1,pS s f .body g w4=some r1:=by
  rcases ck hr with⟨e,he,rfl⟩ | ⟨e1,w3,he,_⟩
  ·exact⟨_,he⟩
  ·exact⟨_,he⟩
 have l9:(jP (k:Int) [] xs cp cp line).length=9:=by simp[jP,hx.len]
 obtain⟨a,b,c,d,rfl⟩:∃a b c d,xs=[a,b,c,d]:=by
  have:=hx.len
  match xs,this with
  | [a,b,c,d],_=>exact⟨a,b,c,d,rfl⟩
 simp only[sA,sB,seval,aC,cz]
 refine (ihb H5 w4 g x y orv r1 sb 6 _ A5 q5 l9 hs om rfl hr1).mono ?_
 rintro u H6 ⟨ho,F6⟩
 have e6:=F6.next
 have F06:=F05.trans F6
 rcases ck hr with⟨e,he,rfl⟩ | ⟨out,w5,he,hr⟩
 ·rw[hr1]at he
  simp only[sJ]at he
  subst he
  obtain⟨rfl,w',r6⟩:=ho
  simp only[sA,sB,seval]
  exact⟨⟨tt,w',r6⟩,F06⟩
 rw[hr1]at he
 simp only[sJ]at he
 subst he
 obtain⟨rfl,v,C,q6,z1,z2,r6,o6⟩:=ho
 simp only[bp,sJ]at hr
 subst hr
 simp only[sA,sB,seval]
 have km:∀c,In H5.next H6.next c->In H.next H6.next c/\H6.get c=H6.get c:=fun c hc=>⟨⟨by have:=hc.1; omega,hc.2⟩,rfl⟩
 refine⟨⟨tt,[a,b,c,d],v,C,q6,hx.mono fun c hc=>?_,z1.mono km,z2.mono km,r6,o6⟩,F06⟩
 have h1:=hc.1
 have h2:=hc.2
 exact⟨⟨om,om⟩,by rw[F6.old c om om om,F5.old c h2 om]⟩
theorem wV{H:ab}{pb c:Nat}{s:Bs}{w:Wd}{g:Nat}{x y:Int}{orv:aa}(hc:bc H c [af pb 11 0])(hr:bc H pb (cj s w ((g+1:Nat):Int) x y orv))(hg:g<=1000):an Tryd.prog aB 3098 [af c 1 0] H fun _ H'=>bc H' pb (cj s w (g:Int) x y orv)/\H'.next=H.next/\∀k,k≠pb->H'.get k=H.get k:=by
 refine jI rfl J0 rfl ?_
 have lc:am false 1 H (af c 1 0)=some (af pb 11 0):=al hc rfl rfl
 have l7:am false 1 H (af pb 11 7)=some (.int .i64 ((g+1:Nat):Int)):=al hr rfl rfl
 have wk:IntKind.i64.wrap (((g+1:Nat):Int)-1)=(g:Int):=Ah
 obtain⟨H5,m5,r5,n5,k5⟩:=dW hr (n:=11) rfl (i:=7) om (x:=.int .i64 (g:Int)) rfl (l':=cj s w (g:Int) x y orv) rfl
 simp only[JH,sA,sB,seval,lc,aC,cz,l7,wk,m5]
 exact⟨[],rfl,r5,n5,k5⟩
theorem L4:bT [.int .u8 0,.str [],.int .u8 0,.str [],.int .i64 0,.slice none 0 (.known 0),.slice none 0 (.known 0),.slice none 0 (.known 0),.int .i64 0] []=some (.agg [.int .u8 0,.str [],.int .u8 0,.str [],.int .i64 0,.slice none 0 (.known 0),.slice none 0 (.known 0),.slice none 0 (.known 0),.int .i64 0]):=_root_.id rfl
theorem L3(n:Int):bT [.int .u8 0,.str [],.int .u8 0,.str [],.int .i64 0,.slice none 0 (.known 0),.slice none 0 (.known 0),.slice none 0 (.known 0),.int .i64 0] [(8,1,.int .i64 n)]=some (.agg (jP 0 [] Zx cp cp n)):=_root_.id rfl
theorem nX{P:Nat->Prop}{H:ab}{k line:Nat}{S:Bs}{e:Ex}{xs:List aa}{vb ve:aa}{Cb Ce:List aa}{body els:List St}(h1:XE P H e xs)(h2:fw P H 9 vb body.length Cb)(h3:gr P H body Cb)(h4:fw P H 9 ve els.length Ce)(h5:gr P H els Ce):XS P H (.mk k S e body els line) (jP k S xs vb ve line):=
 ⟨xs,vb,Cb,ve,Ce,rfl,h1,h2,h3,h4,h5⟩
theorem HD{n pb:Nat}{s:Bs}{f:Nat}(ihr:kJ n pb s f 5)(ihb:B0 n pb s f):GQ n pb s (f+1):=by
 intro H w g x y orv r A hr
 refine jI rfl Nl rfl ?_
 rw[gB]at hr
 simp only[dk]at hr
 have hlt:=A.lt
 have hpn:=A.hpb
 have hnn:=A.hn
 obtain⟨H1,m1,r1,n1,k1⟩:=aG H [af pb 11 0] (n:=1) rfl
 obtain⟨H2,m2,r2,n2,k2⟩:=aG H1 [.int .u8 0,.str [],.int .u8 0,.str [],.int .i64 0,.slice none 0 (.known 0),.slice none 0 (.known 0),.slice none 0 (.known 0),.int .i64 0] (n:=9) rfl
 have g90:nN [af pb 11 0] 90=.tuple []:=rfl
 have g91:nN [af pb 11 0] 91=.tuple []:=rfl
 have F2:Fp pb H H2:=⟨om,fun c hc _=>by rw[k2 c om,k1 c om]⟩
 have A2:=A.fwd F2 (A.row.same (by rw[k2 pb om,k1 pb om])) A.ok A.hg
 have c1:bc H2 H.next [af pb 11 0]:=r1.same (k2 _ om)
 have l1:∀{K:ab},Fp pb H2 K->am false 1 K (af H.next 1 0)=some (af pb 11 0):=fun q=>al (c1.same (q.old _ om om)) rfl rfl
 have l1':=l1 (Fp.refl pb H2)
 have b0:=L4
 by_cases hg:200<=g
 ·rw[if_pos hg]at hr
  simp only[mG,sJ]at hr
  subst hr
  simp only[NP,sA,sB,seval,gc,m1,m2,l1']
  refine (tn A2.row hg).mono ?_
  rintro _ H3 ⟨rfl,r3,F3⟩
  obtain⟨H4,m4,r4,n4,k4⟩:=aq (r2.same (F3.old _ om om)) (n:=9) rfl (xs:=Z9) rfl rfl
  have l4:=aD r4 (n:=9) rfl
  have f3:=F3.next
  simp only[sA,sB,seval,b0,m4,g90,g91,ju,nB,l4,gw]
  exact⟨⟨tt,w,r3.same (k4 _ om)⟩,om,fun c hc hp=>by rw[k4 c om,F3.old c om hp,F2.old c hc hp]⟩
 rw[if_neg hg]at hr
 simp only[NP,sW,sL,iO,ic,nW,sB,seval]
 rw[fj]
 simp only[sW,sL,iO,ic,nW,sB,seval,gc,m1,m2,l1']
 refine (tk A2.row hg).mono ?_
 rintro _ H3 ⟨rfl,r3,F3,n3⟩
 have A3:=A2.fwd F3 r3 A.ok om
 have l3:=l1 F3
 have ll:am false 1 H3 (af pb 11 4)=some (.int .i64 (w.line:Int)):=al A3.row rfl rfl
 obtain⟨H4,m4,r4,n4,k4⟩:=aG H3 [.int .u8 0,.str [],.int .u8 0,.str [],.int .i64 0,.slice none 0 (.known 0),.slice none 0 (.known 0),.slice none 0 (.known 0),.int .i64 0] (n:=9) rfl
 obtain⟨H5,m5,r5,n5,k5⟩:=aq r4 (n:=9) rfl (xs:=jP 0 [] Zx cp cp w.line) rfl rfl
 have F35:Fp pb H3 H5:=⟨om,fun c hc _=>by rw[k5 c om,k4 c om]⟩
 have A5:=A3.fwd F35 (r3.same (by rw[k5 pb om,k4 pb om])) A.ok om
 have F25:=F3.trans F35
 obtain⟨sb,hsb⟩:∃sb,sb=H3.next:=⟨_,rfl⟩
 rw[<- hsb]at m4 r4 k4 m5 r5 k5
 have bl:=L3 (w.line:Int)
 simp only[sW,sL,iO,ic,nW,sB,seval,g91,AJ,l3,aC,cz,ll,bl,m4,m5]
 rw[fj]
 have l1s:∀{K:ab},Fs pb sb H5 K->am false 1 K (af H.next 1 0)=some (af pb 11 0):=fun q=>al (c1.same (by rw[q.old _ om om om,F25.old _ om om])) rfl rfl
 refine oC (fun (T:bU) H'=>T 1=af H.next 1 0/\T 2=af H1.next 9 0/\T 4=af sb 9 0/\T 90=.tuple []/\T 91=.func (.func 26) [] [af H.next 1 0]/\Fs pb sb H5 H'/\((∃st w' xs,r=.ok ([st],w')/\T 5=.bool true/\bc H' sb xs/\XS (In H5.next H'.next) H' st xs/\bc H' pb (cj s w' ((g+1:Nat):Int) x y orv)/\nQ s w')∨∃e w',r=.error e/\T 5=.bool false/\bc H' pb (cj s w' ((g+1:Nat):Int) e.1 e.2 orv))) (d7 _ _) ?_ ?_
 rotate_left
 ·rintro T H6 ⟨t1,t2,t4,t90,t91,F6,⟨st,w',xs,rfl,t5,rx,hx,rp,hw⟩ | ⟨e,w',rfl,t5,rp⟩⟩
  ·have e6:=F6.next
   have lx:=aD rx hx.len
   obtain⟨H7,m7,r7,n7,k7⟩:=aq (H:=H6) (b:=H1.next) (r2.same (by rw[F6.old _ om om om,F25.old _ om om])) (n:=9) rfl hx.len hx.one
   simp only[sA,sB,seval,t1,t2,t4,t5,t90,t91,lx,m7,ju,gP,nB,jv,gI]
   refine (wV (c1.same (by rw[k7 _ om,F6.old _ om om om,F25.old _ om om])) (rp.same (k7 _ om)) om).mono ?_
   rintro _ H8 ⟨r8,n8,k8⟩
   have l8:=aD (r7.same (k8 _ om)) hx.len
   simp only[sA,sB,seval,t2,l8,gw]
   refine⟨⟨st,xs,rfl,tt,hx.mono fun c hc=>?_,r8,hw⟩,om,fun c hc hp=>by rw[k8 c hp,k7 c om,F6.old c om hp om,F25.old c om hp,F2.old c hc hp]⟩
   have h1:=hc.1
   have h2:=hc.2
   exact⟨⟨om,om⟩,by rw[k8 c om,k7 c om]⟩
  ·have e6:=F6.next
   obtain⟨H7,m7,r7,n7,k7⟩:=aq (H:=H6) (b:=H1.next) (r2.same (by rw[F6.old _ om om om,F25.old _ om om])) (n:=9) rfl (xs:=Z9) rfl rfl
   simp only[sA,sB,seval,t1,t2,t4,t5,t90,t91,b0,m7,ju,gP,nB,jv,gI]
   refine (wV (c1.same (by rw[k7 _ om,F6.old _ om om om,F25.old _ om om])) (rp.same (k7 _ om)) om).mono ?_
   rintro _ H8 ⟨r8,n8,k8⟩
   have l8:=aD (r7.same (k8 _ om)) (n:=9) rfl
   simp only[sA,sB,seval,t2,l8,gw]
   exact⟨⟨tt,w',r8⟩,om,fun c hc hp=>by rw[k8 c hp,k7 c om,F6.old c om hp om,F25.old c om hp,F2.old c hc hp]⟩
 have hns:n<=sb:=om
 have l5:=l1s (Fs.of (Fp.refl pb H5))
 simp only[sA,sB,seval,l5]
 refine (gE A5.row [108,101,116]).mono ?_
 rintro _ _ ⟨rfl,rfl⟩
 cases ca:il w [108,101,116] with
 | true=>
  rw[if_pos ca]at hr
  obtain⟨H6,m6,r6,n6,k6⟩:=dW r5 (n:=9) rfl (i:=0) om (x:=.int .u8 1) rfl (l':=jP (1:Nat) [] Zx cp cp w.line) rfl
  have F6:Fs pb sb H5 H6:=⟨om,fun c _ _ h=>k6 c h⟩
  have A6:=A5.fws hns F6 (A5.row.same (k6 pb om)) A.ok om
  have l6:=l1s F6
  simp only[sA,sB,seval,fld0,m6,l6]
  refine (bu A6.row A6.lt A6.en).mono ?_
  rintro u H7 ⟨ho,F7⟩
  have e7:=F7.next
  have F57:=F6.trans (.of F7)
  rcases cG hr with⟨e,he,rfl⟩ | ⟨w1,he,hr⟩
  ·rw[he]at ho
   obtain⟨rfl,r7⟩:=ho
   simp only[sA,sB,seval,g90]
   exact⟨tt,tt,tt,tt,tt,F57,.inr ⟨e,w,rfl,tt,r7⟩⟩
  rw[he]at ho
  obtain⟨rfl,r7⟩:=ho
  have A7:=A6.fwd F7 r7 (aQ he A.ok (by rw[jN ca]; omega)).1 om
  have l7:=l1s F57
  simp only[sA,sB,seval,l7]
  refine (oR ihr A7 hr (r6.same (F7.old sb om om)) hns om).mono ?_
  rintro u H8 ⟨ho,F8⟩
  have F58:=F57.trans F8
  cases r with
  | error e=>
   obtain⟨rfl,w',r8⟩:=ho
   simp only[sA,sB,seval,g90]
   exact⟨tt,tt,tt,tt,tt,F58,.inr ⟨e,w',rfl,tt,r8⟩⟩
  | ok p=>
   obtain⟨l,w'⟩:=p
   obtain⟨rfl,e,xs,rfl,q8,hx,r8,o8⟩:=ho
   simp only[sA,sB,seval,g90]
   exact⟨tt,tt,tt,tt,tt,F58,.inl ⟨_,w',_,rfl,tt,q8,nX (hx.mono fun c hc=>⟨⟨by have:=hc.1; omega,hc.2⟩,rfl⟩) (.nil _ _ _) rfl (.nil _ _ _) rfl,r8,o8⟩⟩
 | false=>
 rw[if_neg (by rw[ca]; simp)]at hr
 simp only[sA,sB,seval,l5]
 refine (gE A5.row [115,101,116]).mono ?_
 rintro _ _ ⟨rfl,rfl⟩
 cases cb:il w [115,101,116] with
 | true=>
  rw[if_pos cb]at hr
  obtain⟨H6,m6,r6,n6,k6⟩:=dW r5 (n:=9) rfl (i:=0) om (x:=.int .u8 2) rfl (l':=jP (2:Nat) [] Zx cp cp w.line) rfl
  have F6:Fs pb sb H5 H6:=⟨om,fun c _ _ h=>k6 c h⟩
  have A6:=A5.fws hns F6 (A5.row.same (k6 pb om)) A.ok om
  have l6:=l1s F6
  simp only[sA,sB,seval,fld0,m6,l6]
  refine (bu A6.row A6.lt A6.en).mono ?_
  rintro u H7 ⟨ho,F7⟩
  have e7:=F7.next
  have F57:=F6.trans (.of F7)
  rcases cG hr with⟨e,he,rfl⟩ | ⟨w1,he,hr⟩
  ·rw[he]at ho
   obtain⟨rfl,r7⟩:=ho
   simp only[sA,sB,seval,g90]
   exact⟨tt,tt,tt,tt,tt,F57,.inr ⟨e,w,rfl,tt,r7⟩⟩
  rw[he]at ho
  obtain⟨rfl,r7⟩:=ho
  have A7:=A6.fwd F7 r7 (aQ he A.ok (by rw[jN cb]; omega)).1 om
  have l7:=l1s F57
  simp only[sA,sB,seval,l7]
  refine (oR ihr A7 hr (r6.same (F7.old sb om om)) hns om).mono ?_
  rintro u H8 ⟨ho,F8⟩
  have F58:=F57.trans F8
  cases r with
  | error e=>
   obtain⟨rfl,w',r8⟩:=ho
   simp only[sA,sB,seval,g90]
   exact⟨tt,tt,tt,tt,tt,F58,.inr ⟨e,w',rfl,tt,r8⟩⟩
  | ok p=>
   obtain⟨l,w'⟩:=p
   obtain⟨rfl,e,xs,rfl,q8,hx,r8,o8⟩:=ho
   simp only[sA,sB,seval,g90]
   exact⟨tt,tt,tt,tt,tt,F58,.inl ⟨_,w',_,rfl,tt,q8,nX (hx.mono fun c hc=>⟨⟨by have:=hc.1; omega,hc.2⟩,rfl⟩) (.nil _ _ _) rfl (.nil _ _ _) rfl,r8,o8⟩⟩
 | false=>
 rw[if_neg (by rw[cb]; simp)]at hr
 simp only[sA,sB,seval,l5]
 refine (gE A5.row [105,102]).mono ?_
 rintro _ _ ⟨rfl,rfl⟩
 cases cc:il w [105,102] with
 | true=>
  rw[if_pos cc]at hr
  obtain⟨H6,m6,r6,n6,k6⟩:=dW r5 (n:=9) rfl (i:=0) om (x:=.int .u8 3) rfl (l':=jP (3:Nat) [] Zx cp cp w.line) rfl
  have F6:Fs pb sb H5 H6:=⟨om,fun c _ _ h=>k6 c h⟩
  have A6:=A5.fws hns F6 (A5.row.same (k6 pb om)) A.ok om
  have l6:=l1s F6
  simp only[sA,sB,seval,fld0,m6,l6]
  refine (bu A6.row A6.lt A6.en).mono ?_
  rintro u H7 ⟨ho,F7⟩
  have e7:=F7.next
  have F57:=F6.trans (.of F7)
  rcases cG hr with⟨e,he,rfl⟩ | ⟨w1,he,hr⟩
  ·rw[he]at ho
   obtain⟨rfl,r7⟩:=ho
   simp only[sA,sB,seval,g90]
   exact⟨tt,tt,tt,tt,tt,F57,.inr ⟨e,w,rfl,tt,r7⟩⟩
  rw[he]at ho
  obtain⟨rfl,r7⟩:=ho
  have A7:=A6.fwd F7 r7 (aQ he A.ok (by rw[jN cc]; omega)).1 om
  have l7:=l1s F57
  rw[tZ]at hr
  obtain⟨r0,hr0⟩:∃r0,C8 s (pE s f) (pS s f) (g+1) w1=some r0:=by
   rcases ck hr with⟨e,he,rfl⟩ | ⟨e1,w3,he,_⟩
   ·exact⟨_,he⟩
   ·exact⟨_,he⟩
  simp only[sA,sB,seval,l7]
  refine (oS ihr ihb A7 hr0 (r6.same (F7.old sb om om)) hns om).mono ?_
  rintro u H8 ⟨ho,F8⟩
  have e8:=F8.next
  have F58:=F57.trans F8
  rcases ck hr with⟨e,he,rfl⟩ | ⟨⟨e1,body⟩,w2,he,hr⟩
  ·rw[hr0]at he
   simp only[sJ]at he
   subst he
   obtain⟨rfl,w',r8⟩:=ho
   simp only[sA,sB,seval,g90]
   exact⟨tt,tt,tt,tt,tt,F58,.inr ⟨e,w',rfl,tt,r8⟩⟩
  rw[hr0]at he
  simp only[sJ]at he
  subst he
  obtain⟨rfl,xs,v,C,q8,hx,z1,z2,r8,o8⟩:=ho
  simp only at hx z1 z2 hr
  have km:∀c,In H7.next H8.next c->In H5.next H8.next c/\H8.get c=H8.get c:=fun c hc=>⟨⟨by have:=hc.1; omega,hc.2⟩,rfl⟩
  have hx5:=hx.mono km
  have z15:=z1.mono km
  have z25:=z2.mono km
  have A8:=A7.fws hns F8 r8 o8 om
  have l8:=l1s F58
  simp only[sA,sB,seval,l8]
  refine (gE A8.row [101,108,115,101]).mono ?_
  rintro _ _ ⟨rfl,rfl⟩
  cases ce:il w2 [101,108,115,101] with
  | false=>
   rw[if_neg (by rw[ce]; simp)]at hr
   simp only[bp,sJ]at hr
   subst hr
   simp only[sA,sB,seval,g90]
   exact⟨tt,tt,tt,tt,tt,F58,.inl ⟨_,w2,_,rfl,tt,q8,nX hx5 z15 z25 (.nil _ _ _) rfl,r8,o8⟩⟩
  | true=>
  rw[if_pos ce]at hr
  simp only[sA,sB,seval,l8]
  refine (bu A8.row A8.lt A8.en).mono ?_
  rintro u H9 ⟨ho,F9⟩
  have e9:=F9.next
  have F59:=F58.trans (.of F9)
  rcases cG hr with⟨e,he,rfl⟩ | ⟨w3,he,hr⟩
  ·rw[he]at ho
   obtain⟨rfl,r9⟩:=ho
   simp only[sA,sB,seval,g90]
   exact⟨tt,tt,tt,tt,tt,F59,.inr ⟨e,w2,rfl,tt,r9⟩⟩
  rw[he]at ho
  obtain⟨rfl,r9⟩:=ho
  have A9:=A8.fwd F9 r9 (aQ he o8 (by rw[jN ce]; omega)).1 om
  have l9:=l1s F59
  obtain⟨r1,hr1⟩:∃r1,pS s f .body (g+1) w3=some r1:=by
   rcases ck hr with⟨e,he,rfl⟩ | ⟨e1,w3,he,_⟩
   ·exact⟨_,he⟩
   ·exact⟨_,he⟩
  obtain⟨a,b,c,d,rfl⟩:∃a b c d,xs=[a,b,c,d]:=by
   have:=hx.len
   match xs,this with
   | [a,b,c,d],_=>exact⟨a,b,c,d,rfl⟩
  simp only[sA,sB,seval,l9,cz]
  refine (ihb H9 w3 (g+1) x y orv r1 sb 7 _ A9 (q8.same (F9.old sb om om)) rfl hns om rfl hr1).mono ?_
  rintro u Ha ⟨ho,Fa⟩
  have ea:=Fa.next
  have F5a:=F59.trans Fa
  rcases ck hr with⟨e,he,rfl⟩ | ⟨els,w4,he,hr⟩
  ·rw[hr1]at he
   simp only[sJ]at he
   subst he
   obtain⟨rfl,w',ra⟩:=ho
   simp only[sA,sB,seval,g90]
   exact⟨tt,tt,tt,tt,tt,F5a,.inr ⟨e,w',rfl,tt,ra⟩⟩
  rw[hr1]at he
  simp only[sJ]at he
  subst he
  obtain⟨rfl,v2,C2,qa,y1,y2,ra,oa⟩:=ho
  simp only[bp,sJ]at hr
  subst hr
  have kn:∀c,In H7.next H8.next c->In H5.next Ha.next c/\Ha.get c=H8.get c:=fun c hc=>by
   have h1:=hc.1
   have h2:=hc.2
   exact⟨⟨om,om⟩,by rw[Fa.old c om om om,F9.old c h2 om]⟩
  have kb:∀c,In H9.next Ha.next c->In H5.next Ha.next c/\Ha.get c=Ha.get c:=fun c hc=>⟨⟨by have:=hc.1; omega,hc.2⟩,rfl⟩
  simp only[sA,sB,seval,g90]
  exact⟨tt,tt,tt,tt,tt,F5a,.inl ⟨_,w4,jP (3:Nat) [] [a,b,c,d] v v2 w.line,rfl,tt,qa,nX (hx.mono kn) (z1.mono kn) (z2.mono kn) (y1.mono kb) (y2.mono kb),ra,oa⟩⟩
 | false=>
 rw[if_neg (by rw[cc]; simp)]at hr
 simp only[sA,sB,seval,l5]
 refine (gE A5.row [119,104,105,108,101]).mono ?_
 rintro _ _ ⟨rfl,rfl⟩
 cases cd:il w [119,104,105,108,101] with
 | true=>
  rw[if_pos cd]at hr
  obtain⟨H6,m6,r6,n6,k6⟩:=dW r5 (n:=9) rfl (i:=0) om (x:=.int .u8 4) rfl (l':=jP (4:Nat) [] Zx cp cp w.line) rfl
  have F6:Fs pb sb H5 H6:=⟨om,fun c _ _ h=>k6 c h⟩
  have A6:=A5.fws hns F6 (A5.row.same (k6 pb om)) A.ok om
  have l6:=l1s F6
  simp only[sA,sB,seval,fld0,m6,l6]
  refine (bu A6.row A6.lt A6.en).mono ?_
  rintro u H7 ⟨ho,F7⟩
  have e7:=F7.next
  have F57:=F6.trans (.of F7)
  rcases cG hr with⟨e,he,rfl⟩ | ⟨w1,he,hr⟩
  ·rw[he]at ho
   obtain⟨rfl,r7⟩:=ho
   simp only[sA,sB,seval,g90]
   exact⟨tt,tt,tt,tt,tt,F57,.inr ⟨e,w,rfl,tt,r7⟩⟩
  rw[he]at ho
  obtain⟨rfl,r7⟩:=ho
  have A7:=A6.fwd F7 r7 (aQ he A.ok (by rw[jN cd]; omega)).1 om
  have l7:=l1s F57
  rw[tZ]at hr
  obtain⟨r0,hr0⟩:∃r0,C8 s (pE s f) (pS s f) (g+1) w1=some r0:=by
   rcases ck hr with⟨e,he,rfl⟩ | ⟨e1,w3,he,_⟩
   ·exact⟨_,he⟩
   ·exact⟨_,he⟩
  simp only[sA,sB,seval,l7]
  refine (oS ihr ihb A7 hr0 (r6.same (F7.old sb om om)) hns om).mono ?_
  rintro u H8 ⟨ho,F8⟩
  have e8:=F8.next
  have F58:=F57.trans F8
  rcases ck hr with⟨e,he,rfl⟩ | ⟨⟨e1,body⟩,w2,he,hr⟩
  ·rw[hr0]at he
   simp only[sJ]at he
   subst he
   obtain⟨rfl,w',r8⟩:=ho
   simp only[sA,sB,seval,g90]
   exact⟨tt,tt,tt,tt,tt,F58,.inr ⟨e,w',rfl,tt,r8⟩⟩
  rw[hr0]at he
  simp only[sJ]at he
  subst he
  obtain⟨rfl,xs,v,C,q8,hx,z1,z2,r8,o8⟩:=ho
  simp only at hx z1 z2 hr
  have km:∀c,In H7.next H8.next c->In H5.next H8.next c/\H8.get c=H8.get c:=fun c hc=>⟨⟨by have:=hc.1; omega,hc.2⟩,rfl⟩
  have hx5:=hx.mono km
  have z15:=z1.mono km
  have z25:=z2.mono km
  simp only[bp,sJ]at hr
  subst hr
  simp only[sA,sB,seval,g90]
  exact⟨tt,tt,tt,tt,tt,F58,.inl ⟨_,w2,_,rfl,tt,q8,nX hx5 z15 z25 (.nil _ _ _) rfl,r8,o8⟩⟩
 | false=>
 rw[if_neg (by rw[cd]; simp)]at hr
 simp only[sA,sB,seval,l5]
 refine (gE A5.row [114,101,116,117,114,110]).mono ?_
 rintro _ _ ⟨rfl,rfl⟩
 cases c5:il w [114,101,116,117,114,110] with
 | true=>
  rw[if_pos c5]at hr
  obtain⟨H6,m6,r6,n6,k6⟩:=dW r5 (n:=9) rfl (i:=0) om (x:=.int .u8 5) rfl (l':=jP (5:Nat) [] Zx cp cp w.line) rfl
  have F6:Fs pb sb H5 H6:=⟨om,fun c _ _ h=>k6 c h⟩
  have A6:=A5.fws hns F6 (A5.row.same (k6 pb om)) A.ok om
  have l6:=l1s F6
  simp only[sA,sB,seval,fld0,m6,l6]
  refine (bu A6.row A6.lt A6.en).mono ?_
  rintro u H7 ⟨ho,F7⟩
  have e7:=F7.next
  have F57:=F6.trans (.of F7)
  rcases cG hr with⟨e,he,rfl⟩ | ⟨w1,he,hr⟩
  ·rw[he]at ho
   obtain⟨rfl,r7⟩:=ho
   simp only[sA,sB,seval,g90]
   exact⟨tt,tt,tt,tt,tt,F57,.inr ⟨e,w,rfl,tt,r7⟩⟩
  rw[he]at ho
  obtain⟨rfl,r7⟩:=ho
  have A7:=A6.fwd F7 r7 (aQ he A.ok (by rw[jN c5]; omega)).1 om
  have l7:=l1s F57
  obtain⟨r0,hr0⟩:∃r0,pE s f (.rule 5) (g+1) w1=some r0:=by
   rcases ck hr with⟨e,he,rfl⟩ | ⟨e1,w3,he,_⟩
   ·exact⟨_,he⟩
   ·exact⟨_,he⟩
  simp only[sA,sB,seval,l7,cz]
  refine (mn ihr A7 hr0 (r6.same (F7.old sb om om)) rfl hns om (i:=2) om).mono ?_
  rintro u H8 ⟨ho,F8⟩
  have e8:=F8.next
  have F58:=F57.trans F8
  rcases ck hr with⟨e,he,rfl⟩ | ⟨e1,w2,he,hr⟩
  ·rw[hr0]at he
   simp only[sJ]at he
   subst he
   obtain⟨rfl,w',r8⟩:=ho
   simp only[sA,sB,seval,g90]
   exact⟨tt,tt,tt,tt,tt,F58,.inr ⟨e,w',rfl,tt,r8⟩⟩
  rw[hr0]at he
  simp only[sJ]at he
  subst he
  obtain⟨rfl,xs,q8,hx,r8,o8⟩:=ho
  have q8':bc H8 sb (jP (5:Nat) [] xs cp cp w.line):=q8
  have A8:=A7.fws hns F8 r8 o8 om
  have l8:=l1s F58
  simp only[sA,sB,seval,l8]
  refine (dB A8.row A8.lt A8.en [59]).mono ?_
  rintro u H9 ⟨ho,F9⟩
  have F59:=F58.trans (.of F9)
  rcases cG hr with⟨e,he,rfl⟩ | ⟨w3,he,hr⟩
  ·rw[he]at ho
   obtain⟨rfl,r9⟩:=ho
   simp only[sA,sB,seval,g90]
   exact⟨tt,tt,tt,tt,tt,F59,.inr ⟨e,w2,rfl,tt,r9⟩⟩
  rw[he]at ho
  obtain⟨rfl,r9⟩:=ho
  simp only[bp,sJ]at hr
  subst hr
  have e9:=F9.next
  simp only[sA,sB,seval,g90]
  refine⟨tt,tt,tt,tt,tt,F59,.inl ⟨_,w3,_,rfl,tt,q8'.same (F9.old sb om om),nX (hx.mono fun c hc=>?_) (.nil _ _ _) rfl (.nil _ _ _) rfl,r9,(cy he o8).2.2.1⟩⟩
  have h1:=hc.1
  have h2:=hc.2
  exact⟨⟨om,om⟩,F9.old c h2 om⟩
 | false=>
 rw[if_neg (by rw[c5]; simp)]at hr
 simp only[mG,sJ]at hr
 subst hr
 simp only[sA,sB,seval,l5]
 refine (gH A5.row 101).mono ?_
 rintro _ H6 ⟨rfl,r6,F6⟩
 simp only[sA,sB,seval,g90]
 exact⟨tt,tt,tt,tt,tt,.of F6,.inr ⟨_,w,rfl,tt,r6⟩⟩
structure NY(n pb:Nat)(s:Bs)(f:Nat):Prop where
 stmt:GQ n pb s f
 body:B0 n pb s f
theorem BS(n pb:Nat)(s:Bs):∀(f:Nat),f<=1000000->∀f',f'<=f->NY n pb s f'
 | 0,_,f',h=>by
  obtain rfl:f'=0:=om
  exact⟨fun H w g x y orv r _ hr=>by simp[pS]at hr,Bu om fun f' h=>absurd h (Nat.not_lt_zero _)⟩
 | f+1,hf,f',h=>by
  have ih:=BS n pb s f om
  by_cases he:f'<=f
  ·exact ih f' he
  obtain rfl:f'=f+1:=om
  exact⟨HD ((Gz n pb s f om f rL).rule 5 om) (ih f rL).body,Bu hf fun f' h=>(ih f' om).stmt⟩
open Go.Abs Go.Abs.S
noncomputable section
def c9:cw:=⟨9,zq [zo 2 (.mv (.c (.bool false)))] (zq [zo 4 (.build [zI 0] []),zo 5 (.box (.t 4)),zm 3 5] (zq [zm 6 3,zm 7 0,zx 8 17 [.t 6,.t 7,zi 1],zm 2 8] .ret)),[.t 2]⟩
theorem za9:cN Tryd.prog 9=some c9:=by kernel_rfl
def c17:cw:=⟨21,zq [zo 6 (.mv (.c (.bool false)))] (.seq (zq [zm 8 1,zh 9 8,zo 10 (.mv (zi 0))] (.block 0 (.loop (zq [zb 11 .lss 10 9] (.seq (.cond (.t 11) .skip (.exit 0)) (.seq (.block 1 (zq [zm 12 10,zm 7 12] (zq [zm 13 0,zm 14 1,zm 15 7,zo 16 (.idxA 9 (.t 14) (.t 15)),zm 17 2,zx 18 34 [.t 13,.t 16,.t 17],zo 19 (.un .not (.t 18))] (.cond (.t 19) (zq [zo 6 (.mv (.c (.bool false)))] .ret) .skip)))) (.reg [zk 20 .add 10 1,zm 10 20]))))))) (zq [zo 6 (.mv (.c (.bool true)))] .ret)),[.t 6]⟩
theorem Nj:cN Tryd.prog 17=some c17:=by kernel_rfl
def c34:cw:=⟨112,zq [zo 6 (.mv (.c (.bool false)))] (zr [zm 7 0,zm 8 2,zx 9 51 [.t 7,.t 8],zo 10 (.un .not (.t 9))] 10 (zq [zo 6 (.mv (.c (.bool false)))] .ret) .skip (.seq (zq [zm 11 1,zc 12 11,zf 13 0 12,zl 14 13] (.block 0 (zr [zo 16 (.bin .eql (.t 14) (zu 1)),zm 15 16] 15 .skip (.reg [zo 17 (.bin .eql (.t 14) (zu 2)),zm 15 17]) (.cond (.t 15) (zq [zm 18 1,zc 19 18,zf 20 1 19,zl 21 20,zx 22 52 [.t 21],zo 23 (.un .not (.t 22)),zm 24 23,zg 25 (.mv (.t 1)) 24 false,zg 26 (.nilChk (.t 25)) 24 false,zg 27 (.fieldA 6 (.t 26)) 24 false,zg 28 (.load false 1 (.t 27)) 24 false,zg 29 (.len false (.t 28)) 24 false,zg 30 (.bin .gtr (.t 29) (zi 0)) 24 false,zo 31 (.pick (.t 24) (.c (.bool true)) (.t 30)),zm 32 31,zg 33 (.mv (.t 1)) 32 false,zg 34 (.nilChk (.t 33)) 32 false,zg 35 (.fieldA 7 (.t 34)) 32 false,zg 36 (.load false 1 (.t 35)) 32 false,zg 37 (.len false (.t 36)) 32 false,zg 38 (.bin .gtr (.t 37) (zi 0)) 32 false,zo 39 (.pick (.t 32) (.c (.bool true)) (.t 38))] (.cond (.t 39) (zq [zo 6 (.mv (.c (.bool false)))] .ret) .skip)) (zq [zo 41 (.bin .eql (.t 14) (zu 3)),zm 40 41] (.cond (.t 40) (zq [zm 42 1,zc 43 42,zf 44 1 43,zl 45 44,zo 46 (.bin .neq (.t 45) (.c (.str [])))] (.cond (.t 46) (zq [zo 6 (.mv (.c (.bool false)))] .ret) .skip)) (zq [zo 48 (.bin .eql (.t 14) (zu 4)),zm 47 48] (.cond (.t 47) (zq [zm 49 1,zc 50 49,zf 51 1 50,zl 52 51,zo 53 (.bin .neq (.t 52) (.c (.str []))),zm 54 53,zg 55 (.mv (.t 1)) 54 false,zg 56 (.nilChk (.t 55)) 54 false,zg 57 (.fieldA 7 (.t 56)) 54 false,zg 58 (.load false 1 (.t 57)) 54 false,zg 59 (.len false (.t 58)) 54 false,zg 60 (.bin .gtr (.t 59) (zi 0)) 54 false,zo 61 (.pick (.t 54) (.c (.bool true)) (.t 60))] (.cond (.t 61) (zq [zo 6 (.mv (.c (.bool false)))] .ret) .skip)) (zq [zo 63 (.bin .eql (.t 14) (zu 5)),zm 62 63] (.cond (.t 62) (zq [zm 64 1,zc 65 64,zf 66 1 65,zl 67 66,zo 68 (.bin .neq (.t 67) (.c (.str []))),zm 69 68,zg 70 (.mv (.t 1)) 69 false,zg 71 (.nilChk (.t 70)) 69 false,zg 72 (.fieldA 6 (.t 71)) 69 false,zg 73 (.load false 1 (.t 72)) 69 false,zg 74 (.len false (.t 73)) 69 false,zg 75 (.bin .gtr (.t 74) (zi 0)) 69 false,zo 76 (.pick (.t 69) (.c (.bool true)) (.t 75)),zm 77 76,zg 78 (.mv (.t 1)) 77 false,zg 79 (.nilChk (.t 78)) 77 false,zg 80 (.fieldA 7 (.t 79)) 77 false,zg 81 (.load false 1 (.t 80)) 77 false,zg 82 (.len false (.t 81)) 77 false,zg 83 (.bin .gtr (.t 82) (zi 0)) 77 false,zo 84 (.pick (.t 77) (.c (.bool true)) (.t 83))] (.cond (.t 84) (zq [zo 6 (.mv (.c (.bool false)))] .ret) .skip)) (zq [zo 6 (.mv (.c (.bool false)))] .ret))))))))))) (zq [zm 85 0,zm 86 1,zc 87 86,zf 88 2 87,zm 89 2,zk 90 .add 89 1,zx 91 53 [.t 85,.t 88,.t 90],zm 92 91,zg 93 (.mv (.t 0)) 92 true,zg 94 (.mv (.t 1)) 92 true,zg 95 (.nilChk (.t 94)) 92 true,zg 96 (.fieldA 6 (.t 95)) 92 true,zg 97 (.load false 1 (.t 96)) 92 true,zg 98 (.mv (.t 2)) 92 true,zg 99 (.bin .add (.t 98) (zi 1)) 92 true,zg 100 (.call 17 [.t 93,.t 97,.t 99]) 92 true,zo 101 (.pick (.t 92) (.t 100) (.c (.bool false))),zm 102 101,zg 103 (.mv (.t 0)) 102 true,zg 104 (.mv (.t 1)) 102 true,zg 105 (.nilChk (.t 104)) 102 true,zg 106 (.fieldA 7 (.t 105)) 102 true,zg 107 (.load false 1 (.t 106)) 102 true,zg 108 (.mv (.t 2)) 102 true,zg 109 (.bin .add (.t 108) (zi 1)) 102 true,zg 110 (.call 17 [.t 103,.t 107,.t 109]) 102 true,zo 111 (.pick (.t 102) (.t 110) (.c (.bool false))),zm 6 111] .ret))),[.t 6]⟩
theorem M4:cN Tryd.prog 34=some c34:=by kernel_rfl
def Mg:cw:=⟨21,zq [zo 4 (.mv (.c (.bool false)))] (zq [zm 5 0,zc 6 5,zf 7 0 6,zl 8 7,zk 9 .add 8 1,zc 10 5,zf 11 0 10,zs 11 9] (zq [zm 12 0,zc 13 12,zf 14 0 13,zl 15 14,zk 16 .leq 15 1000,zm 17 16,zg 18 (.mv (.t 1)) 17 true,zg 19 (.bin .leq (.t 18) (zi 40)) 17 true,zo 20 (.pick (.t 17) (.t 19) (.c (.bool false))),zm 4 20] .ret)),[.t 4]⟩
theorem MN:cN Tryd.prog 51=some Mg:=by kernel_rfl
def c52:cw:=⟨24,zq [zo 2 (.mv (.c (.bool false)))] (zq [zm 6 0,zx 7 25 [.t 6,zi 0],zm 5 7,ze 8 0 5,ze 9 1 5,zo 3 (.new [zU 0,.str [],zI 0,zI 0,zI 0,zI 0]),zo 4 (.new [zI 0,zI 0]),zp (.store 6 (.t 3) (.t 8)),zp (.store 2 (.t 4) (.t 9))] (zq [zf 10 0 4,zl 11 10,zk 12 .eql 11 0,zm 13 12,zg 14 (.fieldA 0 (.t 3)) 13 true,zg 15 (.load false 1 (.t 14)) 13 true,zg 16 (.bin .eql (.t 15) (zu 2)) 13 true,zo 17 (.pick (.t 13) (.t 16) (.c (.bool false))),zm 18 17,zg 19 (.fieldA 1 (.t 3)) 18 true,zg 20 (.load false 1 (.t 19)) 18 true,zg 21 (.mv (.t 0)) 18 true,zg 22 (.bin .eql (.t 20) (.t 21)) 18 true,zo 23 (.pick (.t 18) (.t 22) (.c (.bool false))),zm 2 23] .ret)),[.t 2]⟩
theorem MM:cN Tryd.prog 52=some c52:=by kernel_rfl
def c53:cw:=⟨115,zq [zo 6 (.mv (.c (.bool false)))] (zr [zm 8 0,zm 9 2,zx 10 51 [.t 8,.t 9],zo 11 (.un .not (.t 10))] 11 (zq [zo 6 (.mv (.c (.bool false)))] .ret) .skip (.seq (zq [zm 12 1,zc 13 12,zf 14 0 13,zl 15 14] (.block 0 (zq [zo 17 (.bin .eql (.t 15) (zu 1)),zm 16 17] (.cond (.t 16) (zq [zm 18 1,zc 19 18,zf 20 2 19,zl 21 20,zk 22 .geq 21 0,zm 23 22,zg 24 (.mv (.t 1)) 23 true,zg 25 (.nilChk (.t 24)) 23 true,zg 26 (.fieldA 1 (.t 25)) 23 true,zg 27 (.load false 1 (.t 26)) 23 true,zg 28 (.bin .eql (.t 27) (.c (.str []))) 23 true,zo 29 (.pick (.t 23) (.t 28) (.c (.bool false))),zm 30 29,zg 31 (.mv (.t 1)) 30 true,zg 32 (.nilChk (.t 31)) 30 true,zg 33 (.fieldA 3 (.t 32)) 30 true,zg 34 (.load false 1 (.t 33)) 30 true,zg 35 (.len false (.t 34)) 30 true,zg 36 (.bin .eql (.t 35) (zi 0)) 30 true,zo 37 (.pick (.t 30) (.t 36) (.c (.bool false))),zm 6 37] .ret) (zq [zo 39 (.bin .eql (.t 15) (zu 2)),zm 38 39] (.cond (.t 38) (zq [zm 40 1,zc 41 40,zf 42 2 41,zl 43 42,zk 44 .eql 43 0,zm 45 44,zg 46 (.mv (.t 1)) 45 true,zg 47 (.nilChk (.t 46)) 45 true,zg 48 (.fieldA 1 (.t 47)) 45 true,zg 49 (.load false 1 (.t 48)) 45 true,zg 50 (.call 52 [.t 49]) 45 true,zo 51 (.pick (.t 45) (.t 50) (.c (.bool false))),zm 52 51,zg 53 (.mv (.t 1)) 52 true,zg 54 (.nilChk (.t 53)) 52 true,zg 55 (.fieldA 3 (.t 54)) 52 true,zg 56 (.load false 1 (.t 55)) 52 true,zg 57 (.len false (.t 56)) 52 true,zg 58 (.bin .eql (.t 57) (zi 0)) 52 true,zo 59 (.pick (.t 52) (.t 58) (.c (.bool false))),zm 6 59] .ret) (zq [zo 61 (.bin .eql (.t 15) (zu 3)),zm 60 61] (.cond (.t 60) (zq [zm 62 1,zc 63 62,zf 64 2 63,zl 65 64,zk 66 .neq 65 0,zm 67 66,zg 68 (.mv (.t 1)) 67 false,zg 69 (.nilChk (.t 68)) 67 false,zg 70 (.fieldA 1 (.t 69)) 67 false,zg 71 (.load false 1 (.t 70)) 67 false,zg 72 (.mv (.t 1)) 67 false,zg 73 (.nilChk (.t 72)) 67 false,zg 74 (.fieldA 3 (.t 73)) 67 false,zg 75 (.load false 1 (.t 74)) 67 false,zg 76 (.len false (.t 75)) 67 false,zg 77 (.call 67 [.t 71,.t 76]) 67 false,zg 78 (.un .not (.t 77)) 67 false,zo 79 (.pick (.t 67) (.c (.bool true)) (.t 78))] (.cond (.t 79) (zq [zo 6 (.mv (.c (.bool false)))] .ret) .skip)) (zq [zo 81 (.bin .eql (.t 15) (zu 4)),zm 80 81] (.cond (.t 80) (zq [zm 82 1,zc 83 82,zf 84 2 83,zl 85 84,zk 86 .neq 85 0,zm 87 86,zg 88 (.mv (.t 1)) 87 false,zg 89 (.nilChk (.t 88)) 87 false,zg 90 (.fieldA 1 (.t 89)) 87 false,zg 91 (.load false 1 (.t 90)) 87 false,zg 92 (.call 52 [.t 91]) 87 false,zg 93 (.un .not (.t 92)) 87 false,zo 94 (.pick (.t 87) (.c (.bool true)) (.t 93))] (.cond (.t 94) (zq [zo 6 (.mv (.c (.bool false)))] .ret) .skip)) (zq [zo 6 (.mv (.c (.bool false)))] .ret))))))))))) (.seq (zq [zm 95 1,zc 96 95,zf 97 3 96,zl 98 97,zh 99 98,zo 100 (.mv (zi 0))] (.block 1 (.loop (zq [zb 101 .lss 100 99] (.seq (.cond (.t 101) .skip (.exit 1)) (.seq (.block 2 (zq [zm 102 100,zm 7 102] (zq [zm 103 0,zm 104 1,zc 105 104,zf 106 3 105,zl 107 106,zm 108 7,zo 109 (.idxA 4 (.t 107) (.t 108)),zm 110 2,zk 111 .add 110 1,zx 112 53 [.t 103,.t 109,.t 111],zo 113 (.un .not (.t 112))] (.cond (.t 113) (zq [zo 6 (.mv (.c (.bool false)))] .ret) .skip)))) (.reg [zk 114 .add 100 1,zm 100 114]))))))) (zq [zo 6 (.mv (.c (.bool true)))] .ret)))),[.t 6]⟩
theorem ML:cN Tryd.prog 53=some c53:=by kernel_rfl
def vD:cw:=⟨30,zq [zo 4 (.mv (.c (.bool false)))] (.seq (zq [zm 5 1] (.block 0 (zq [zk 7 .eql 5 1,zm 6 7] (.cond (.t 6) (zq [zm 8 0,zo 9 (.bin .eql (.t 8) (.c (.str [45]))),zm 10 9,zg 11 (.mv (.t 0)) 10 false,zg 12 (.bin .eql (.t 11) (.c (.str [33]))) 10 false,zo 13 (.pick (.t 10) (.c (.bool true)) (.t 12)),zm 4 13] .ret) (zq [zk 15 .eql 5 2,zm 14 15] (.cond (.t 14) (zq [zm 16 0] (.block 1 (zr [zo 18 (.bin .eql (.t 16) (.c (.str [124,124]))),zm 17 18] 17 .skip (zq [zo 19 (.bin .eql (.t 16) (.c (.str [38,38]))),zm 17 19] (.cond (.t 17) .skip (zq [zo 20 (.bin .eql (.t 16) (.c (.str [61,61]))),zm 17 20] (.cond (.t 17) .skip (zq [zo 21 (.bin .eql (.t 16) (.c (.str [33,61]))),zm 17 21] (.cond (.t 17) .skip (zq [zo 22 (.bin .eql (.t 16) (.c (.str [60,61]))),zm 17 22] (.cond (.t 17) .skip (zq [zo 23 (.bin .eql (.t 16) (.c (.str [62,61]))),zm 17 23] (.cond (.t 17) .skip (zq [zo 24 (.bin .eql (.t 16) (.c (.str [60]))),zm 17 24] (.cond (.t 17) .skip (zq [zo 25 (.bin .eql (.t 16) (.c (.str [62]))),zm 17 25] (.cond (.t 17) .skip (zq [zo 26 (.bin .eql (.t 16) (.c (.str [43]))),zm 17 26] (.cond (.t 17) .skip (zq [zo 27 (.bin .eql (.t 16) (.c (.str [45]))),zm 17 27] (.cond (.t 17) .skip (zq [zo 28 (.bin .eql (.t 16) (.c (.str [42]))),zm 17 28] (.cond (.t 17) .skip (.reg [zo 29 (.bin .eql (.t 16) (.c (.str [47]))),zm 17 29]))))))))))))))))))))) (.cond (.t 17) (zq [zo 4 (.mv (.c (.bool true)))] .ret) .skip)))) .skip)))))) (zq [zo 4 (.mv (.c (.bool false)))] .ret)),[.t 4]⟩
theorem MA:cN Tryd.prog 67=some vD:=by kernel_rfl
def c6:cw:=⟨24,zq [zo 2 (.mv (.c (.str []))),zo 3 (.mv (zi 0))] (zr [zm 5 0,zx 6 9 [.t 5],zo 7 (.un .not (.t 6))] 7 (zq [zo 2 (.mv (.c (.str []))),zo 3 (.mv (zi 103))] .ret) .skip (zq [zo 8 (.build [zN] []),zo 9 (.box (.t 8)),zm 4 9] (zq [zm 10 4,zm 11 0,zx 12 11 [.t 10,.t 11,zi 0]] (zr [zm 13 4,zc 14 13,zf 15 0 14,zl 16 15,zh 17 16,zk 18 .gtr 17 16384] 18 (zq [zo 2 (.mv (.c (.str []))),zo 3 (.mv (zi 3))] .ret) .skip (zq [zm 19 4,zc 20 19,zf 21 0 20,zl 22 21,zo 23 (.convBS (.t 22)),zm 2 23,zo 3 (.mv (zi 0))] .ret))))),[.t 2,.t 3]⟩
theorem za6:cN Tryd.prog 6=some c6:=by kernel_rfl
def c11:cw:=⟨25,zq [zm 7 1,zh 8 7,zo 9 (.mv (zi 0))] (.block 0 (.loop (zq [zb 10 .lss 9 8] (.seq (.cond (.t 10) .skip (.exit 0)) (.seq (.block 1 (zq [zm 11 9,zm 6 11] (zr [zm 12 0,zc 13 12,zf 14 0 13,zl 15 14,zh 16 15,zk 17 .gtr 16 16384] 17 .ret .skip (.reg [zm 18 0,zm 19 1,zm 20 6,zo 21 (.idxA 9 (.t 19) (.t 20)),zm 22 2,zx 23 19 [.t 18,.t 21,.t 22]])))) (.reg [zk 24 .add 9 1,zm 9 24])))))),[]⟩
theorem Nr:cN Tryd.prog 11=some c11:=by kernel_rfl
def c19:cw:=⟨103,zq [zm 6 0,zm 7 2,zx 8 35 [.t 6,.t 7]] (.seq (zq [zm 9 1,zc 10 9,zf 11 0 10,zl 12 11] (.block 0 (zq [zo 14 (.bin .eql (.t 12) (zu 1)),zm 13 14] (.cond (.t 13) (.reg [zm 15 0,zm 16 1,zc 17 16,zf 18 1 17,zl 19 18,zo 20 (.buildSl 3 [.str []] [(0,1,.c (.str [108,101,116,32])),(1,1,.t 19),(2,1,.c (.str [32,61,32]))]),zx 21 36 [.t 15,.t 20]]) (zq [zo 23 (.bin .eql (.t 12) (zu 2)),zm 22 23] (.cond (.t 22) (.reg [zm 24 0,zm 25 1,zc 26 25,zf 27 1 26,zl 28 27,zo 29 (.buildSl 3 [.str []] [(0,1,.c (.str [115,101,116,32])),(1,1,.t 28),(2,1,.c (.str [32,61,32]))]),zx 30 36 [.t 24,.t 29]]) (zq [zo 32 (.bin .eql (.t 12) (zu 5)),zm 31 32] (.cond (.t 31) (.reg [zm 33 0,zo 34 (.buildSl 1 [.str []] [(0,1,.c (.str [114,101,116,117,114,110,32]))]),zx 35 36 [.t 33,.t 34]]) (zq [zo 37 (.bin .eql (.t 12) (zu 3)),zm 36 37] (.cond (.t 36) (.reg [zm 38 0,zo 39 (.buildSl 1 [.str []] [(0,1,.c (.str [105,102,32,40]))]),zx 40 36 [.t 38,.t 39]]) (zq [zo 42 (.bin .eql (.t 12) (zu 4)),zm 41 42] (.cond (.t 41) (.reg [zm 43 0,zo 44 (.buildSl 1 [.str []] [(0,1,.c (.str [119,104,105,108,101,32,40]))]),zx 45 36 [.t 43,.t 44]]) .skip)))))))))))) (zq [zm 46 0,zm 47 1,zc 48 47,zf 49 2 48,zx 50 37 [.t 46,.t 49]] (zr [zm 51 1,zc 52 51,zf 53 0 52,zl 54 53,zo 55 (.bin .neq (.t 54) (zu 3)),zm 56 55,zg 57 (.mv (.t 1)) 56 true,zg 58 (.nilChk (.t 57)) 56 true,zg 59 (.fieldA 0 (.t 58)) 56 true,zg 60 (.load false 1 (.t 59)) 56 true,zg 61 (.bin .neq (.t 60) (zu 4)) 56 true,zo 62 (.pick (.t 56) (.t 61) (.c (.bool false)))] 62 (zq [zm 63 0,zo 64 (.buildSl 1 [.str []] [(0,1,.c (.str [59,10]))]),zx 65 36 [.t 63,.t 64]] .ret) .skip (zq [zm 66 0,zo 67 (.buildSl 1 [.str []] [(0,1,.c (.str [41,32,123,10]))]),zx 68 36 [.t 66,.t 67]] (zq [zm 69 0,zm 70 1,zc 71 70,zf 72 6 71,zl 73 72,zm 74 2,zk 75 .add 74 1,zx 76 11 [.t 69,.t 73,.t 75]] (zr [zm 77 1,zc 78 77,zf 79 7 78,zl 80 79,zh 81 80,zk 82 .gtr 81 0] 82 (zq [zm 83 0,zm 84 2,zx 85 35 [.t 83,.t 84]] (zq [zm 86 0,zo 87 (.buildSl 1 [.str []] [(0,1,.c (.str [125,32,101,108,115,101,32,123,10]))]),zx 88 36 [.t 86,.t 87]] (.reg [zm 89 0,zm 90 1,zc 91 90,zf 92 7 91,zl 93 92,zm 94 2,zk 95 .add 94 1,zx 96 11 [.t 89,.t 93,.t 95]]))) .skip (zq [zm 97 0,zm 98 2,zx 99 35 [.t 97,.t 98]] (.reg [zm 100 0,zo 101 (.buildSl 1 [.str []] [(0,1,.c (.str [125,10]))]),zx 102 36 [.t 100,.t 101]])))))))),[]⟩
theorem Nh:cN Tryd.prog 19=some c19:=by kernel_rfl
def c35:cw:=⟨17,zq [zm 4 1,zo 5 (.mv (zi 0))] (.block 0 (.loop (zq [zb 6 .lss 5 4] (.seq (.cond (.t 6) .skip (.exit 0)) (.seq (.block 1 (.reg [zm 7 0,zm 8 0,zc 9 8,zf 10 0 9,zl 11 10,zo 12 (.buildSl 1 [zU 0] [(0,1,zu 9)]),zy 13 11 12,zc 14 7,zf 15 0 14,zs 15 13])) (.reg [zk 16 .add 5 1,zm 5 16])))))),[]⟩
theorem M3:cN Tryd.prog 35=some c35:=by kernel_rfl
def c36:cw:=⟨22,zq [zm 6 1,zh 7 6,zo 8 (.mv (zi 0))] (.block 0 (.loop (zq [zb 9 .lss 8 7] (.seq (.cond (.t 9) .skip (.exit 0)) (.seq (.block 1 (zq [zd 10 6 8,zl 11 10,zm 5 11] (.reg [zm 12 0,zm 13 0,zc 14 13,zf 15 0 14,zl 16 15,zm 17 5,zy 18 16 17,zc 19 12,zf 20 0 19,zs 20 18]))) (.reg [zk 21 .add 8 1,zm 8 21])))))),[]⟩
theorem M2:cN Tryd.prog 36=some c36:=by kernel_rfl
def Ln:cw:=⟨100,zq [zm 5 1,zc 6 5,zf 7 0 6,zl 8 7] (.block 0 (zq [zo 10 (.bin .eql (.t 8) (zu 1)),zm 9 10] (.cond (.t 9) (.reg [zm 11 0,zm 12 1,zc 13 12,zf 14 2 13,zl 15 14,zx 16 54 [.t 15],zo 17 (.buildSl 1 [.str []] [(0,1,.t 16)]),zx 18 36 [.t 11,.t 17]]) (zq [zo 20 (.bin .eql (.t 8) (zu 2)),zm 19 20] (.cond (.t 19) (.reg [zm 21 0,zm 22 1,zc 23 22,zf 24 1 23,zl 25 24,zo 26 (.buildSl 1 [.str []] [(0,1,.t 25)]),zx 27 36 [.t 21,.t 26]]) (zq [zo 29 (.bin .eql (.t 8) (zu 4)),zm 28 29] (.cond (.t 28) (zq [zm 30 0,zm 31 1,zc 32 31,zf 33 1 32,zl 34 33,zo 35 (.buildSl 2 [.str []] [(0,1,.t 34),(1,1,.c (.str [40]))]),zx 36 36 [.t 30,.t 35]] (.seq (zq [zm 37 1,zc 38 37,zf 39 3 38,zl 40 39,zh 41 40,zo 42 (.mv (zi 0))] (.block 1 (.loop (zq [zb 43 .lss 42 41] (.seq (.cond (.t 43) .skip (.exit 1)) (.seq (.block 2 (zq [zm 44 42,zm 4 44] (zr [zm 45 4,zk 46 .gtr 45 0] 46 (.reg [zm 47 0,zo 48 (.buildSl 1 [.str []] [(0,1,.c (.str [44,32]))]),zx 49 36 [.t 47,.t 48]]) .skip (.reg [zm 50 0,zm 51 1,zc 52 51,zf 53 3 52,zl 54 53,zm 55 4,zo 56 (.idxA 4 (.t 54) (.t 55)),zx 57 55 [.t 50,.t 56]])))) (.reg [zk 58 .add 42 1,zm 42 58]))))))) (.reg [zm 59 0,zo 60 (.buildSl 1 [.str []] [(0,1,.c (.str [41]))]),zx 61 36 [.t 59,.t 60]]))) (zq [zo 63 (.bin .eql (.t 8) (zu 3)),zm 62 63] (.cond (.t 62) (zr [zm 64 1,zc 65 64,zf 66 3 65,zl 67 66,zh 68 67,zk 69 .eql 68 2] 69 (zq [zm 70 0,zm 71 1,zc 72 71,zf 73 3 72,zl 74 73,zo 75 (.idxA 4 (.t 74) (zi 0)),zx 76 55 [.t 70,.t 75]] (.reg [zm 77 0,zo 78 (.buildSl 1 [.str []] [(0,1,.c (.str [32]))]),zx 79 36 [.t 77,.t 78]])) .skip (zq [zm 80 0,zm 81 1,zc 82 81,zf 83 1 82,zl 84 83,zo 85 (.buildSl 2 [.str []] [(0,1,.t 84),(1,1,.c (.str [32]))]),zx 86 36 [.t 80,.t 85]] (.reg [zm 87 0,zm 88 1,zc 89 88,zf 90 3 89,zl 91 90,zm 92 1,zc 93 92,zf 94 3 93,zl 95 94,zh 96 95,zk 97 .sub 96 1,zo 98 (.idxA 4 (.t 91) (.t 97)),zx 99 55 [.t 87,.t 98]]))) .skip))))))))),[]⟩
theorem M1:cN Tryd.prog 37=some Ln:=by kernel_rfl
def NJ:cw:=⟨21,zr [zm 4 1,zc 5 4,zf 6 0 5,zl 7 6,zo 8 (.bin .neq (.t 7) (zu 3))] 8 (zq [zm 9 0,zm 10 1,zx 11 37 [.t 9,.t 10]] .ret) .skip (zq [zm 12 0,zo 13 (.buildSl 1 [.str []] [(0,1,.c (.str [40]))]),zx 14 36 [.t 12,.t 13]] (zq [zm 15 0,zm 16 1,zx 17 37 [.t 15,.t 16]] (.reg [zm 18 0,zo 19 (.buildSl 1 [.str []] [(0,1,.c (.str [41]))]),zx 20 36 [.t 18,.t 19]]))),[]⟩
theorem MJ:cN Tryd.prog 55=some NJ:=by kernel_rfl
end
open Go.Abs Go.Abs.S
def lR(H:ab)(p:aa)(c:List aa):Prop:=∃a,p=.ptr (some a)/\aY H a c.length=some c
def fp(p:aa)(o:Nat):aa:=match p with
 | .ptr (some a)=>.ptr (some ⟨a.b,a.lim,a.o+o⟩)
 | _=>aN
theorem lR.chk{H:ab}{p:aa}{c:List aa}(h:lR H p c):cf p=some p:=by
 obtain⟨a,rfl,_⟩:=h; rfl
theorem lR.fld{H:ab}{p:aa}{c:List aa}(h:lR H p c)(o:Nat):gp o p=some (fp p o):=by
 obtain⟨a,rfl,_⟩:=h; rfl
theorem lR.fld0{H:ab}{p:aa}{c:List aa}(h:lR H p c):gp 0 p=some p:=by
 obtain⟨a,rfl,_⟩:=h; rfl
theorem lR.part{H:ab}{p:aa}{c:List aa}(h:lR H p c){o k:Nat}(hk:o+k<=c.length):lR H (fp p o) ((c.drop o).take k):=by
 obtain⟨a,rfl,h1⟩:=h
 refine⟨_,rfl,?_⟩
 rw[show ((c.drop o).take k).length=k by rw[Ol,Ok]; omega]
 exact pz h1 hk
theorem lR.load{H:ab}{p:aa}{c:List aa}(h:lR H p c){o:Nat}{x:aa}(hx:c[o]?=some x):am false 1 H (fp p o)=some x:=by
 obtain⟨a,rfl,h1⟩:=h
 have hlt:=(N2.1 hx).1
 have:=pz h1 (i:=o) (j:=1) om
 have e:(c.drop o).take 1=[x]:=by
  rw[List.drop_eq_getElem_cons hlt,List.take_succ_cons,List.take_zero,(N2.1 hx).2]
 rw[e]at this
 simp only[fp,am,this,cond_false]
theorem lR.load0{H:ab}{p:aa}{c:List aa}(h:lR H p c){x:aa}(hx:c[0]?=some x):am false 1 H p=some x:=by
 have:=h.load hx
 obtain⟨a,rfl,_⟩:=h
 exact this
theorem lR.same{H H':ab}{p:aa}{c:List aa}(h:lR H p c)(e:∀a,p=.ptr (some a)->H'.get a.b=H.get a.b):lR H' p c:=by
 obtain⟨a,rfl,h1⟩:=h
 exact⟨a,rfl,by rw[wm (e a rfl)]; exact h1⟩
theorem fw.pt{P:Nat->Prop}{H:ab}{m k:Nat}{v:aa}{C:List aa}(h:fw P H m v k C){i:Nat}(hi:i<k):lR H (cL m v i) ((C.drop (i*m)).take m):=by
 rcases h with⟨_,rfl,_⟩ | ⟨a,r,rfl,_,h3⟩
 ·omega
 ·have hm:i*m+m<=m*k:=by
   have:(i+1)*m<=k*m:=Nat.mul_le_mul_right m hi
   rw[Nat.mul_comm m k]; rw[Nat.add_mul,Nat.one_mul]at this; exact this
  have hl:C.length=m*k:=by
   obtain⟨l,low,ro,h1,h2,h3',h4,rfl⟩:=nf h3
   rw[Ol,Ok]; omega
  refine⟨_,rfl,?_⟩
  rw[show ((C.drop (i*m)).take m).length=m by rw[Ol,Ok]; omega]
  exact pz h3 hm
theorem ip(s:Bs){H:ab}:an Tryd.prog aB 52 [.str s] H fun u H'=>u=.bool (dI s)/\b7 H.next H H':=by
 refine ak rfl MM rfl ?_
 simp only[c52,sA,sB,seval]
 refine (tw Kk (s:=s) (p:=((0:Nat):Int)) om om).mono ?_
 rintro v H1 ⟨rfl,E1⟩
 have e1:=E1.next
 obtain⟨H2,m2,r2,n2,k2⟩:=aG H1 [.int .u8 0,.str [],.int .i64 0,.int .i64 0,.int .i64 0,.int .i64 0] (n:=6) rfl
 obtain⟨H3,m3,r3,n3,k3⟩:=aG H2 [.int .i64 0,.int .i64 0] (n:=2) rfl
 cases hn:cM s 0 with
 | error e=>
  rw[tz hn]
  have he:=tx hn
  have he':¬(e.1:Int)=0:=om
  obtain⟨H4,m4,r4,n4,k4⟩:=aq (H:=H3) (r2.same (k3 _ om)) (n:=6) rfl (xs:=kM 0 [] 0 0 0 0) rfl rfl
  obtain⟨H5,m5,r5,n5,k5⟩:=aq (H:=H4) (r3.same (k4 _ om)) (n:=2) rfl (xs:=gq e.1 e.2) rfl rfl
  have l5:am false 1 H5 (af H2.next 2 0)=some (.int .i64 (e.1:Int)):=al r5 rfl rfl
  have hf:dI s=false:=by unfold dI; rw[hn]
  simp only[sA,sB,seval,eP,bZ,bY,m2,m3,m4,m5,fld0,l5,he',hf]
  exact⟨tt,om,fun c hc=>by rw[k5 c om,k4 c om,k3 c om,k2 c om,E1.old c hc]⟩
 | ok w=>
  rw[wJ hn]
  obtain⟨H4,m4,r4,n4,k4⟩:=aq (H:=H3) (r2.same (k3 _ om)) (n:=6) rfl (xs:=kM w.k w.S w.n w.line w.at_ w.en) rfl rfl
  obtain⟨H5,m5,r5,n5,k5⟩:=aq (H:=H4) (r3.same (k4 _ om)) (n:=2) rfl (xs:=gq 0 0) rfl rfl
  have r45:=r4.same (k5 _ om)
  have l5:am false 1 H5 (af H2.next 2 0)=some (.int .i64 0):=al r5 rfl rfl
  have q0:am false 1 H5 (af H1.next 6 0)=some (.int .u8 (w.k:Int)):=al r45 rfl rfl
  have q1:am false 1 H5 (af H1.next 6 1)=some (.str w.S):=al r45 rfl rfl
  have E5:b7 H.next H H5:=⟨om,fun c hc=>by rw[k5 c om,k4 c om,k3 c om,k2 c om,E1.old c hc]⟩
  by_cases hk:w.k=2
  ·have hk':(w.k:Int)=2:=om
   have hf:dI s=decide (w.S=s):=by unfold dI; rw[hn]; simp only[hk]; rfl
   simp only[sA,sB,seval,eP,bZ,bY,m2,m3,m4,m5,fld0,cz,l5,q0,q1,hk',hf]
   exact⟨tt,E5⟩
  ·have hk':¬(w.k:Int)=2:=om
   have hf:dI s=false:=by
    unfold dI; rw[hn]
    have:Nat.beq w.k 2=false:=by rw[b9]; exact decide_eq_false hk
    simp only[this]; rfl
   simp only[sA,sB,seval,eP,bZ,bY,m2,m3,m4,m5,fld0,cz,l5,q0,q1,hk',hf]
   exact⟨tt,E5⟩
theorem wN(s:Bs)(n:Nat){H:ab}:an Tryd.prog aB 67 [.str s,.int .i64 (n:Int)] H fun u H'=>u=.bool (oT s n)/\H=H':=by
 refine ak rfl MA rfl ?_
 by_cases h1:n=1
 ·subst h1
  by_cases e1:s=[45]
  ·subst e1; simp only[vD,sA,sB,seval]; exact⟨tt,tt⟩
  by_cases e2:s=[33]
  ·subst e2; simp only[vD,sA,sB,seval,e1]; exact⟨tt,tt⟩
  have:oT s 1=false:=by simp[oT,e1,e2]
  simp only[vD,sA,sB,seval,e1,e2,this]
  exact⟨tt,tt⟩
 have h1':¬(n:Int)=1:=om
 by_cases h2:n=2
 ·subst h2
  have op:oT s 2=[[124,124],[38,38],[61,61],[33,61],[60,61],[62,61],[60],[62],[43],[45],[42],[47]].contains s:=rfl
  rw[op]
  by_cases e0:s=[124,124]
  ·subst e0; simp only[vD,sA,sB,seval]; exact⟨by rfl,tt⟩
  by_cases e1:s=[38,38]
  ·subst e1; simp only[vD,sA,sB,seval]; exact⟨by rfl,tt⟩
  by_cases e2:s=[61,61]
  ·subst e2; simp only[vD,sA,sB,seval]; exact⟨by rfl,tt⟩
  by_cases e3:s=[33,61]
  ·subst e3; simp only[vD,sA,sB,seval]; exact⟨by rfl,tt⟩
  by_cases e4:s=[60,61]
  ·subst e4; simp only[vD,sA,sB,seval]; exact⟨by rfl,tt⟩
  by_cases e5:s=[62,61]
  ·subst e5; simp only[vD,sA,sB,seval]; exact⟨by rfl,tt⟩
  by_cases e6:s=[60]
  ·subst e6; simp only[vD,sA,sB,seval]; exact⟨by rfl,tt⟩
  by_cases e7:s=[62]
  ·subst e7; simp only[vD,sA,sB,seval]; exact⟨by rfl,tt⟩
  by_cases e8:s=[43]
  ·subst e8; simp only[vD,sA,sB,seval]; exact⟨by rfl,tt⟩
  by_cases e9:s=[45]
  ·subst e9; simp only[vD,sA,sB,seval]; exact⟨by rfl,tt⟩
  by_cases e10:s=[42]
  ·subst e10; simp only[vD,sA,sB,seval]; exact⟨by rfl,tt⟩
  by_cases e11:s=[47]
  ·subst e11; simp only[vD,sA,sB,seval]; exact⟨by rfl,tt⟩
  have:([[124,124],[38,38],[61,61],[33,61],[60,61],[62,61],[60],[62],[43],[45],[42],[47]]:List Bs).contains s=false:=by simp[e0,e1,e2,e3,e4,e5,e6,e7,e8,e9,e10,e11]
  simp only[vD,sA,sB,seval,e0,e1,e2,e3,e4,e5,e6,e7,e8,e9,e10,e11,this]
  exact⟨tt,tt⟩
 have h2':¬(n:Int)=2:=om
 have:oT s n=false:=by
  unfold oT
  split
  ·exact absurd rfl h1
  ·exact absurd rfl h2
  ·rfl
 simp only[vD,sA,sB,seval,h1',h2',this]
 exact⟨tt,tt⟩
theorem fW{e:Ex}:∀{l:List Ex},e∈l->e.size<=br l
 | [],h=>by simp at h
 | x::l,h=>by
  simp only[br]
  rcases List.mem_cons.1 h with rfl | h
  ·omega
  ·have:=fW h; omega
theorem js(l m:List Ex):br (l++m)=br l+br m:=by
 induction l with
 | nil=>simp[br]
 | cons x l ih=>simp only[Oj,br,ih]; omega
theorem mD(l m:List Ex):de (l++m)=max (de l) (de m):=by
 induction l with
 | nil=>simp[de]
 | cons x l ih=>simp only[Oj,de,ih]; omega
theorem wA(l m:List Ex):fl (l++m)=(fl l&&fl m):=by
 induction l with
 | nil=>simp[fl]
 | cons x l ih=>simp only[Oj,fl,ih,Bool.and_assoc]
theorem my(l:List Ex):l.length<=br l:=by
 induction l with
 | nil=>simp
 | cons x l ih=>cases x; simp only[N5,br,Ex.size]; omega
def I0(n deep:Nat)(e:Ex):Prop:=iX e=true/\n+e.size<=1000/\deep+e.deep<=41
def sE(n deep:Nat)(l:List Ex):Prop:=fl l=true/\n+br l<=1000/\deep+de l<=41
theorem tg{n deep:Nat}{l:List Ex}{e:Ex}:sE n deep (l++[e])↔sE n deep l/\I0 (n+br l) deep e:=by
 unfold sE I0
 rw[wA,js,mD]
 simp only[fl,br,de,Bool.and_true,N4]
 constructor
 ·rintro ⟨⟨a,b⟩,c,d⟩; exact⟨⟨a,om,om⟩,b,om,om⟩
 ·rintro ⟨⟨a,b,c⟩,d,e,f⟩; exact⟨⟨a,d⟩,om,om⟩
theorem Co{n deep:Nat}{l:List Ex}(h:sE n deep l)(i:Nat):sE n deep (l.take i):=by
 have:=List.take_append_drop i l
 unfold sE at *
 rw[<- this,wA,js,mD]at h
 simp only[N4]at h
 obtain⟨⟨a,b⟩,c,d⟩:=h
 exact⟨a,om,om⟩
theorem tA{H:ab}{mb:Nat}{n deep:Nat}(hm:bc H mb [.int .i64 (n:Int)])(hn:n<=1000000):an Tryd.prog aB 51 [af mb 1 0,.int .i64 (deep:Int)] H fun u H'=>(∃b,u=.bool b/\(b=true↔n+1<=1000/\deep<=40))/\bc H' mb [.int .i64 ((n+1:Nat):Int)]/\H'.next=H.next/\∀c,c≠mb->H'.get c=H.get c:=by
 refine ak rfl MN rfl ?_
 have l0:am false 1 H (af mb 1 0)=some (.int .i64 (n:Int)):=al hm rfl rfl
 have wk:IntKind.i64.wrap ((n:Int)+1)=((n+1:Nat):Int):=Ah
 obtain⟨H1,m1,r1,n1,k1⟩:=dW hm (n:=1) rfl (i:=0) om (x:=.int .i64 ((n+1:Nat):Int)) rfl (l':=[.int .i64 ((n+1:Nat):Int)]) rfl
 have l1:am false 1 H1 (af mb 1 0)=some (.int .i64 ((n+1:Nat):Int)):=al r1 rfl rfl
 by_cases h1:n+1<=1000
 ·have h1':((n+1:Nat):Int)<=1000:=om
  by_cases h2:deep<=40
  ·have h2':(deep:Int)<=40:=om
   simp only[Mg,sA,sB,seval,aC,fld0,l0,wk,m1,l1,h1',h2']
   exact⟨⟨true,tt,fun _=>⟨om,om⟩,fun _=>rfl⟩,r1,n1,k1⟩
  ·have h2':¬(deep:Int)<=40:=om
   simp only[Mg,sA,sB,seval,aC,fld0,l0,wk,m1,l1,h1',h2']
   exact⟨⟨false,tt,by simp; omega⟩,r1,n1,k1⟩
 ·have h1':¬((n+1:Nat):Int)<=1000:=om
  simp only[Mg,sA,sB,seval,aC,fld0,l0,wk,m1,l1,h1']
  exact⟨⟨false,tt,by simp; omega⟩,r1,n1,k1⟩
def Dj(mb:Nat)(n size:Nat)(ok:Prop)(H:ab)(u:aa)(H':ab):Prop:=
 ((ok/\u=.bool true/\bc H' mb [.int .i64 ((n+size:Nat):Int)])∨(¬ok/\u=.bool false))/\Fp mb H H'
theorem lR.fp{H H':ab}{mb:Nat}{p:aa}{c:List aa}(h:lR H p c)(f:Fp mb H H')(hp:∀a,p=.ptr (some a)->a.b<H.next/\a.b≠mb):lR H' p c:=h.same fun a e=>f.old _ (hp a e).1 (hp a e).2
theorem qE:∀(N:Nat) {e:Ex} {c:List aa} {H:ab} {mb n deep:Nat} {p:aa},e.size<=N->lR H p c->(∀a,p=.ptr (some a)->a.b<H.next/\a.b≠mb)->XE (fun b=>b<H.next/\b≠mb) H e c->bc H mb [.int .i64 (n:Int)]->mb<H.next->n<=1000->deep<=41 ->
  an Tryd.prog aB 53 [af mb 1 0,p,.int .i64 (deep:Int)] H (Dj mb n e.size (I0 n deep e) H)
 | 0,e,_,_,_,_,_,_,h,_,_,_,_,_,_,_=>by cases e; simp[Ex.size]at h
 | N+1,.mk k s z kids,c,H,mb,n,deep,p,h,hp,hpb,hx,hm,hmb,hn,hd=>by
  obtain⟨v,C,rfl,z1,z2⟩:=hx
  obtain⟨Q,hQ⟩:∃Q,Q=Dj mb n (Ex.mk k s z kids).size (I0 n deep (Ex.mk k s z kids)) H:=⟨_,rfl⟩
  obtain⟨PF,hPF⟩:∃PF:Prop,PF↔dX k s z kids.length=true:=⟨_,Iff.rfl⟩
  rw[<- hQ]
  refine ak rfl ML rfl ?_
  have hsz:(Ex.mk k s z kids).size=br kids+1:=rfl
  have hdp:(Ex.mk k s z kids).deep=de kids+1:=rfl
  simp only[c53,sA,sB,seval]
  refine (tA (deep:=deep) hm om).mono ?_
  rintro _ H1 ⟨⟨b,rfl,hb⟩,r1,n1,k1⟩
  have F1:Fp mb H H1:=⟨om,fun c _ hc=>k1 c hc⟩
  have pp:=hp.fp F1 hpb
  have p0:=pp.load0 (x:=.int .u8 (k:Int)) rfl
  have p1:=pp.load (o:=1) (x:=.str s) rfl
  have p2:=pp.load (o:=2) (x:=.int .i64 z) rfl
  have p3:=pp.load (o:=3) (x:=v) rfl
  have q0:=pp.fld0
  have q1:=pp.fld 1
  have q2:=pp.fld 2
  have q3:=pp.fld 3
  have qc:=pp.chk
  have ln:=z1.len
  cases b with
  | false=>
   have hno:¬I0 n deep (.mk k s z kids):=by
    rintro ⟨_,q1,q2⟩; exact absurd (hb.2 ⟨om,om⟩) (by simp)
   simp only[sA,sB,seval]
   rw[hQ]
   exact⟨.inr ⟨hno,tt⟩,F1⟩
  | true=>
  obtain⟨h01,h02⟩:=hb.1 rfl
  have hok:iX (.mk k s z kids)=(dX k s z kids.length&&fl kids):=by simp only[iX]
  have hR:I0 n deep (.mk k s z kids)↔dX k s z kids.length=true/\sE (n+1) (deep+1) kids:=by
   unfold I0 sE
   rw[hok,hsz,hdp,N4]
   constructor
   ·rintro ⟨⟨a,b⟩,c,d⟩; exact⟨a,b,om,om⟩
   ·rintro ⟨a,b,c,d⟩; exact⟨⟨a,b⟩,om,om⟩
  have leaf:kids=[]->sE (n+1) (deep+1) kids:=by
   rintro rfl; exact⟨rfl,by simp only[br]; omega,by simp only[de]; omega⟩
  have fin:∀(b:Bool) (H2:ab),dX k s z kids.length=b->(b=true->kids=[])->Fp mb H H2->bc H2 mb [.int .i64 ((n+1:Nat):Int)]->Q (.bool b) H2:=by
   intro b H2 h1 h2 h3 h4
   rw[hQ]
   refine⟨?_,h3⟩
   cases b with
   | false=>exact .inr ⟨fun q=>by rw[(hR.1 q).1]at h1; simp at h1,rfl⟩
   | true=>
    have hk:=h2 rfl
    refine .inl ⟨hR.2 ⟨h1,leaf hk⟩,rfl,?_⟩
    rw[hsz,hk]
    exact h4
  simp only[sW,sL,iO,ic,nW,sB,seval,qc,q0,p0]
  rw[fj]
  refine oC (fun (T:bU) H'=>T 0=af mb 1 0/\T 1=p/\T 2=.int .i64 (deep:Int)/\Fp mb H H'/\bc H' mb [.int .i64 ((n+1:Nat):Int)]/\PF) (d7 _ _) ?_ ?_
  rotate_left
  ·rintro T H2 ⟨t0,t1,t2,F2,r2,hpt⟩
   have e2:=F2.next
   have pp2:=hp.fp F2 hpb
   have p32:=pp2.load (o:=3) (x:=v) rfl
   simp only[sA,sB,seval,t0,t1,t2,qc,q3,p32,ln]
   refine bD (fun m (T:bU) H'=>∃i:Nat,m=kids.length-i/\i<=kids.length/\T 0=af mb 1 0/\T 1=p/\T 2=.int .i64 (deep:Int)/\T 99=.int .i64 (kids.length:Int)/\T 100=.int .i64 (i:Int)/\Fp mb H H'/\bc H' mb [.int .i64 ((n+1+br (kids.take i):Nat):Int)]/\sE (n+1) (deep+1) (kids.take i)) kids.length
    ⟨0,rfl,Nat.zero_le _,by simp only[sA,sB,seval,t0],by simp only[sA,sB,seval,t1],by simp only[sA,sB,seval,t2],by simp only[sA,sB,seval],by simp only[sA,sB,seval]; try rfl,F2,r2,rfl,by simp only[List.take_zero,br]; omega,by simp only[List.take_zero,de]; omega⟩ ?_
   rintro m T H3 ⟨i,rfl,hi,t0,t1,t2,t99,t100,F3,r3,hR3⟩
   have e3:=F3.next
   by_cases hlt:i<kids.length
   case neg=>
    obtain rfl:i=kids.length:=om
    have hlt':¬(kids.length:Int)<(kids.length:Int):=om
    rw[List.take_length]at hR3 r3
    simp only[sA,sB,seval,t99,t100,hlt']
    rw[hQ]
    refine⟨.inl ⟨hR.2 ⟨hPF.1 hpt,hR3⟩,tt,?_⟩,F3⟩
    rw[hsz,show n+(br kids+1)=n+1+br kids by omega]; exact r3
   have hlt':(i:Int)<(kids.length:Int):=om
   obtain⟨e,he⟩:∃e,kids[i]?=some e:=⟨_,N1 hlt⟩
   have hts:kids.take (i+1)=kids.take i++[e]:=by rw[List.take_add_one,he]; rfl
   have pp3:=hp.fp F3 hpb
   have p33:=pp3.load (o:=3) (x:=v) rfl
   have km:∀b,(b<H.next/\b≠mb)->(b<H3.next/\b≠mb)/\H3.get b=H.get b:=fun b hb=>⟨⟨om,hb.2⟩,F3.old b hb.1 hb.2⟩
   have z13:=z1.mono km
   have z23:=z2.mono km
   have ix:=z13.idx hlt
   have hk:=z13.pt hlt
   have he3:=z23.at he
   have hmem:e∈kids:=N9 he
   have hsm:=fW hmem
   have wd:IntKind.i64.wrap ((deep:Int)+1)=((deep+1:Nat):Int):=Ah
   have wi:IntKind.i64.wrap ((i:Int)+1)=((i+1:Nat):Int):=by
    have e1:=my (kids.take i)
    have e2:=hR3.2.1
    rw[Ol,Nat.min_eq_left hi]at e1
    rw[IntKind.wrap_i64]; omega
   simp only[sA,sB,seval,t0,t1,t2,t99,t100,hlt',qc,q3,p33,ix,wd]
   refine (qE N (by rw[hsz]at h; omega) hk ?_ he3 r3 om hR3.2.1 om).mono ?_
   ·intro a ea
    rcases z13 with⟨_,h0,_⟩ | ⟨a',r,rfl,h0,_⟩
    ·omega
    ·simp only[cL,aa.ptr.injEq,sJ]at ea
     subst ea; exact h0
   rintro u H4 ⟨ho,F4⟩
   have F04:=F3.trans F4
   rcases ho with⟨hgo,rfl,r4⟩ | ⟨hgo,rfl⟩
   ·simp only[sA,sB,seval,t0,t1,t2,t99,t100,wi]
    refine⟨kids.length-(i+1),om,i+1,rfl,om,tt,tt,tt,tt,tt,F04,?_,?_⟩
    ·rw[hts,js]
     simp only[br,Nat.add_zero]
     rw[<- Nat.add_assoc]; exact r4
    ·rw[hts,tg]; exact⟨hR3,hgo⟩
   ·simp only[sA,sB,seval]
    rw[hQ]
    refine⟨.inr ⟨fun q=>hgo ?_,tt⟩,F04⟩
    have:=Co (hR.1 q).2 (i+1)
    rw[hts,tg]at this
    exact this.2
  by_cases k1':k=1
  ·have k1i:(k:Int)=1:=om
   have hpart:dX k s z kids.length=(decide (0<=z)&&(s.isEmpty&&Nat.beq kids.length 0)):=by unfold dX; rw[if_pos k1']
   by_cases a1:0<=z
   ·by_cases a2:s=[]
    ·by_cases a3:kids=[]
     ·have a3':(kids.length:Int)=0:=by rw[a3]; rfl
      simp only[sA,sB,seval,qc,q0,q1,q2,q3,p0,p1,p2,p3,ln,k1i,a1,a2,a3']
      exact fin true H1 (by rw[hpart,a2,a3,decide_eq_true a1]; rfl) (fun _=>a3) F1 r1
     ·have a3':¬(kids.length:Int)=0:=by have:=List.length_pos_iff.2 a3; omega
      simp only[sA,sB,seval,qc,q0,q1,q2,q3,p0,p1,p2,p3,ln,k1i,a1,a2,a3']
      exact fin false H1 (by rw[hpart,show Nat.beq kids.length 0=false by rw[b9]; exact decide_eq_false om]; simp) (by simp) F1 r1
    ·simp only[sA,sB,seval,qc,q0,q1,q2,q3,p0,p1,p2,p3,ln,k1i,a1,a2]
     exact fin false H1 (by rw[hpart,show s.isEmpty=false by cases s <;> simp_all]; simp) (by simp) F1 r1
   ·simp only[sA,sB,seval,qc,q0,q1,q2,q3,p0,p1,p2,p3,ln,k1i,a1]
    exact fin false H1 (by rw[hpart,decide_eq_false a1]; rfl) (by simp) F1 r1
  have k1i:¬(k:Int)=1:=om
  by_cases k2':k=2
  ·have k2i:(k:Int)=2:=om
   have hpart:dX k s z kids.length=(decide (z=0)&&(dI s&&Nat.beq kids.length 0)):=by unfold dX; rw[if_neg k1',if_pos k2']
   by_cases a1:z=0
   ·simp only[sA,sB,seval,qc,q0,q1,q2,q3,p0,p1,p2,p3,ln,k1i,k2i,a1]
    refine (ip s).mono ?_
    rintro _ H2 ⟨rfl,E2⟩
    have F12:Fp mb H1 H2:=⟨E2.next,fun c hc _=>E2.old c hc⟩
    have pp2:=hp.fp (F1.trans F12) hpb
    have p32:=pp2.load (o:=3) (x:=v) rfl
    have r2:=r1.same (E2.old mb om)
    cases a2:dI s with
    | false=>
     simp only[sA,sB,seval]
     exact fin false H2 (by rw[hpart,a2]; simp) (by simp) (F1.trans F12) r2
    | true=>
     by_cases a3:kids=[]
     ·have a3':(kids.length:Int)=0:=by rw[a3]; rfl
      simp only[sA,sB,seval,qc,q3,p32,ln,a3']
      exact fin true H2 (by rw[hpart,a2,a3,decide_eq_true a1]; rfl) (fun _=>a3) (F1.trans F12) r2
     ·have a3':¬(kids.length:Int)=0:=by have:=List.length_pos_iff.2 a3; omega
      simp only[sA,sB,seval,qc,q3,p32,ln,a3']
      exact fin false H2 (by rw[hpart,show Nat.beq kids.length 0=false by rw[b9]; exact decide_eq_false om]; simp) (by simp) (F1.trans F12) r2
   ·simp only[sA,sB,seval,qc,q0,q1,q2,q3,p0,p1,p2,p3,ln,k1i,k2i,a1]
    exact fin false H1 (by rw[hpart,decide_eq_false a1]; rfl) (by simp) F1 r1
  have k2i:¬(k:Int)=2:=om
  by_cases k3':k=3
  ·have k3i:(k:Int)=3:=om
   have hpart:dX k s z kids.length=(decide (z=0)&&oT s kids.length):=by unfold dX; rw[if_neg k1',if_neg k2',if_pos k3']
   by_cases a1:z=0
   ·simp only[sA,sB,seval,qc,q0,q1,q2,q3,p0,p1,p2,p3,ln,k1i,k2i,k3i,a1]
    refine (wN s kids.length).mono ?_
    rintro _ _ ⟨rfl,rfl⟩
    cases a2:oT s kids.length with
    | false=>
     simp only[sA,sB,seval]
     exact fin false H1 (by rw[hpart,a2]; simp) (by simp) F1 r1
    | true=>
     simp only[sA,sB,seval]
     exact⟨tt,tt,tt,F1,r1,hPF.2 (by rw[hpart,a2,decide_eq_true a1]; rfl)⟩
   ·simp only[sA,sB,seval,qc,q0,q1,q2,q3,p0,p1,p2,p3,ln,k1i,k2i,k3i,a1]
    exact fin false H1 (by rw[hpart,decide_eq_false a1]; rfl) (by simp) F1 r1
  have k3i:¬(k:Int)=3:=om
  by_cases k4':k=4
  ·have k4i:(k:Int)=4:=om
   have hpart:dX k s z kids.length=(decide (z=0)&&dI s):=by unfold dX; rw[if_neg k1',if_neg k2',if_neg k3',if_pos k4']
   by_cases a1:z=0
   ·simp only[sA,sB,seval,qc,q0,q1,q2,q3,p0,p1,p2,p3,ln,k1i,k2i,k3i,k4i,a1]
    refine (ip s).mono ?_
    rintro _ H2 ⟨rfl,E2⟩
    have F12:Fp mb H1 H2:=⟨E2.next,fun c hc _=>E2.old c hc⟩
    have r2:=r1.same (E2.old mb om)
    cases a2:dI s with
    | false=>
     simp only[sA,sB,seval]
     exact fin false H2 (by rw[hpart,a2]; simp) (by simp) (F1.trans F12) r2
    | true=>
     simp only[sA,sB,seval]
     exact⟨tt,tt,tt,F1.trans F12,r2,hPF.2 (by rw[hpart,a2,decide_eq_true a1]; rfl)⟩
   ·simp only[sA,sB,seval,qc,q0,q1,q2,q3,p0,p1,p2,p3,ln,k1i,k2i,k3i,k4i,a1]
    exact fin false H1 (by rw[hpart,decide_eq_false a1]; rfl) (by simp) F1 r1
  have k4i:¬(k:Int)=4:=om
  simp only[sA,sB,seval,k1i,k2i,k3i,k4i]
  exact fin false H1 (by unfold dX; rw[if_neg k1',if_neg k2',if_neg k3',if_neg k4']) (by simp) F1 r1
open Go.Abs Go.Abs.S
theorem iR{e:St}:∀{l:List St},e∈l->e.size<=aI l
 | [],h=>by simp at h
 | x::l,h=>by
  simp only[aI]
  rcases List.mem_cons.1 h with rfl | h
  ·omega
  ·have:=iR h; omega
theorem jr(l m:List St):aI (l++m)=aI l+aI m:=by
 induction l with
 | nil=>simp[aI]
 | cons x l ih=>simp only[Oj,aI,ih]; omega
theorem mC(l m:List St):bj (l++m)=max (bj l) (bj m):=by
 induction l with
 | nil=>simp[bj]
 | cons x l ih=>simp only[Oj,bj,ih]; omega
theorem wz(l m:List St):cH (l++m)=(cH l&&cH m):=by
 induction l with
 | nil=>simp[cH]
 | cons x l ih=>simp only[Oj,cH,ih,Bool.and_assoc]
theorem mw(l:List St):l.length<=aI l:=by
 induction l with
 | nil=>simp
 | cons x l ih=>cases x; simp only[N5,aI,St.size]; omega
def Lb(n deep:Nat)(e:St):Prop:=pn e=true/\n+e.size<=1000/\deep+e.deep<=41
def nR(n deep:Nat)(l:List St):Prop:=cH l=true/\n+aI l<=1000/\deep+bj l<=41
theorem tf{n deep:Nat}{l:List St}{e:St}:nR n deep (l++[e])↔nR n deep l/\Lb (n+aI l) deep e:=by
 unfold nR Lb
 rw[wz,jr,mC]
 simp only[cH,aI,bj,Bool.and_true,N4]
 constructor
 ·rintro ⟨⟨a,b⟩,c,d⟩; exact⟨⟨a,om,om⟩,b,om,om⟩
 ·rintro ⟨⟨a,b,c⟩,d,e,f⟩; exact⟨⟨a,d⟩,om,om⟩
theorem Cn{n deep:Nat}{l:List St}(h:nR n deep l)(i:Nat):nR n deep (l.take i):=by
 have:=List.take_append_drop i l
 unfold nR at *
 rw[<- this,wz,jr,mC]at h
 simp only[N4]at h
 obtain⟨⟨a,b⟩,c,d⟩:=h
 exact⟨a,om,om⟩
theorem fw.blk{P:Nat->Prop}{H:ab}{m k:Nat}{v:aa}{C:List aa}(h:fw P H m v k C){i:Nat}(hi:i<k):∀a,cL m v i=.ptr (some a)->P a.b:=by
 intro a ea
 rcases h with⟨_,h0,_⟩ | ⟨a',r,rfl,h0,_⟩
 ·omega
 ·simp only[cL,aa.ptr.injEq,sJ]at ea
  subst ea; exact h0
def Mj(N:Nat):Prop:=∀{e:St} {c:List aa} {H:ab} {mb n deep:Nat} {p:aa},e.size<=N->lR H p c->(∀a,p=.ptr (some a)->a.b<H.next/\a.b≠mb)->XS (fun b=>b<H.next/\b≠mb) H e c->bc H mb [.int .i64 (n:Int)]->mb<H.next->n<=1000->deep<=41 ->
  an Tryd.prog aB 34 [af mb 1 0,p,.int .i64 (deep:Int)] H (Dj mb n e.size (Lb n deep e) H)
def LiR(N:Nat):Prop:=∀{l:List St} {C:List aa} {H:ab} {mb n deep:Nat} {v:aa},aI l<=N->fw (fun b=>b<H.next/\b≠mb) H 9 v l.length C->gr (fun b=>b<H.next/\b≠mb) H l C->bc H mb [.int .i64 (n:Int)]->mb<H.next->n<=1000->deep<=41 ->
  an Tryd.prog aB 17 [af mb 1 0,v,.int .i64 (deep:Int)] H (Dj mb n (aI l) (nR n deep l) H)
theorem liR{N:Nat}(ih:Mj N):LiR N:=by
 intro l C H mb n deep v h z1 z2 hm hmb hn hd
 obtain⟨Q,hQ⟩:∃Q,Q=Dj mb n (aI l) (nR n deep l) H:=⟨_,rfl⟩
 rw[<- hQ]
 refine ak rfl Nj rfl ?_
 have ln:=z1.len
 simp only[c17,sA,sB,seval,ln]
 refine bD (fun m (T:bU) H'=>∃i:Nat,m=l.length-i/\i<=l.length/\T 0=af mb 1 0/\T 1=v/\T 2=.int .i64 (deep:Int)/\T 9=.int .i64 (l.length:Int)/\T 10=.int .i64 (i:Int)/\Fp mb H H'/\bc H' mb [.int .i64 ((n+aI (l.take i):Nat):Int)]/\nR n deep (l.take i)) l.length
  ⟨0,rfl,Nat.zero_le _,by simp only[sA,sB,seval],by simp only[sA,sB,seval],by simp only[sA,sB,seval],by simp only[sA,sB,seval],by simp only[sA,sB,seval]; try rfl,Fp.refl _ _,hm,rfl,by simp only[List.take_zero,aI]; omega,by simp only[List.take_zero,bj]; omega⟩ ?_
 rintro m T H3 ⟨i,rfl,hi,t0,t1,t2,t9,t10,F3,r3,hR3⟩
 have e3:=F3.next
 by_cases hlt:i<l.length
 case neg=>
  obtain rfl:i=l.length:=om
  have hlt':¬(l.length:Int)<(l.length:Int):=om
  rw[List.take_length]at hR3 r3
  simp only[sA,sB,seval,t9,t10,hlt']
  rw[hQ]
  exact⟨.inl ⟨hR3,tt,r3⟩,F3⟩
 have hlt':(i:Int)<(l.length:Int):=om
 obtain⟨e,he⟩:∃e,l[i]?=some e:=⟨_,N1 hlt⟩
 have hts:l.take (i+1)=l.take i++[e]:=by rw[List.take_add_one,he]; rfl
 have km:∀b,(b<H.next/\b≠mb)->(b<H3.next/\b≠mb)/\H3.get b=H.get b:=fun b hb=>⟨⟨om,hb.2⟩,F3.old b hb.1 hb.2⟩
 have z13:=z1.mono km
 have z23:=z2.mono km
 have ix:=z13.idx hlt
 have hk:=z13.pt hlt
 have he3:=z23.at he
 have hsm:=iR (N9 he)
 have wi:IntKind.i64.wrap ((i:Int)+1)=((i+1:Nat):Int):=by
  have e1:=mw (l.take i)
  have e2:=hR3.2.1
  rw[Ol,Nat.min_eq_left hi]at e1
  rw[IntKind.wrap_i64]; omega
 simp only[sA,sB,seval,t0,t1,t2,t9,t10,hlt',ix]
 refine (ih om hk (z13.blk hlt) he3 r3 om hR3.2.1 hd).mono ?_
 rintro u H4 ⟨ho,F4⟩
 have F04:=F3.trans F4
 rcases ho with⟨hgo,rfl,r4⟩ | ⟨hgo,rfl⟩
 ·simp only[sA,sB,seval,t0,t1,t2,t9,t10,wi]
  refine⟨l.length-(i+1),om,i+1,rfl,om,tt,tt,tt,tt,tt,F04,?_,?_⟩
  ·rw[hts,jr]
   simp only[aI,Nat.add_zero]
   rw[<- Nat.add_assoc]; exact r4
  ·rw[hts,tf]; exact⟨hR3,hgo⟩
 ·simp only[sA,sB,seval]
  rw[hQ]
  refine⟨.inr ⟨fun q=>hgo ?_,tt⟩,F04⟩
  have:=Cn q (i+1)
  rw[hts,tf]at this
  exact this.2
theorem stR{N:Nat}(ih:LiR N):Mj (N+1):=by
 rintro ⟨k,s,e,body,els,line⟩ c H mb n deep p h hp hpb hx hm hmb hn hd
 obtain⟨ce,vb,Cb,ve,Ce,rfl,x1,z1,z2,y1,y2⟩:=hx
 obtain⟨c0,c1,c2,c3,rfl⟩:∃a b c d,ce=[a,b,c,d]:=by
  have:=x1.len
  match ce,this with
  | [a,b,c,d],_=>exact⟨a,b,c,d,rfl⟩
 obtain⟨Q,hQ⟩:∃Q,Q=Dj mb n (St.mk k s e body els line).size (Lb n deep (St.mk k s e body els line)) H:=⟨_,rfl⟩
 obtain⟨PF,hPF⟩:∃PF:Prop,PF↔bV k s body.length els.length=true:=⟨_,Iff.rfl⟩
 rw[<- hQ]
 refine ak rfl M4 rfl ?_
 have hsz:(St.mk k s e body els line).size=e.size+aI body+aI els+1:=rfl
 have hdp:(St.mk k s e body els line).deep=max e.deep (max (bj body) (bj els))+1:=rfl
 simp only[c34,sW,sL,iO,ic,nW,sB,seval]
 refine (tA (deep:=deep) hm om).mono ?_
 rintro _ H1 ⟨⟨b,rfl,hb⟩,r1,n1,k1⟩
 have F1:Fp mb H H1:=⟨om,fun c _ hc=>k1 c hc⟩
 have pp:=hp.fp F1 hpb
 have p0:=pp.load0 (x:=.int .u8 (k:Int)) rfl
 have p1:=pp.load (o:=1) (x:=.str s) rfl
 have p6:=pp.load (o:=6) (x:=vb) rfl
 have p7:=pp.load (o:=7) (x:=ve) rfl
 have q0:=pp.fld0
 have q1:=pp.fld 1
 have q2:=pp.fld 2
 have q6:=pp.fld 6
 have q7:=pp.fld 7
 have qc:=pp.chk
 have lb:=z1.len
 have le:=y1.len
 cases b with
 | false=>
  have hno:¬Lb n deep (.mk k s e body els line):=by
   rintro ⟨_,q1,q2⟩; exact absurd (hb.2 ⟨om,om⟩) (by simp)
  simp only[sA,sB,seval]
  rw[hQ]
  exact⟨.inr ⟨hno,tt⟩,F1⟩
 | true=>
 obtain⟨h01,h02⟩:=hb.1 rfl
 have hok:pn (.mk k s e body els line)=(bV k s body.length els.length&&(iX e&&(cH body&&cH els))):=by simp only[pn]
 have hR:Lb n deep (.mk k s e body els line)↔bV k s body.length els.length=true/\I0 (n+1) (deep+1) e/\nR (n+1+e.size) (deep+1) body/\nR (n+1+e.size+aI body) (deep+1) els:=by
  unfold Lb I0 nR
  rw[hok,hsz,hdp,N4,N4,N4]
  constructor
  ·rintro ⟨⟨a,b,c,d⟩,e,f⟩; exact⟨a,⟨b,om,om⟩,⟨c,om,om⟩,d,om,om⟩
  ·rintro ⟨a,⟨b,_,_⟩,⟨c,_,_⟩,d,_,_⟩; exact⟨⟨a,b,c,d⟩,om,om⟩
 have fin:∀(H2:ab),bV k s body.length els.length=false->Fp mb H H2->Q (.bool false) H2:=by
  intro H2 h1 h3
  rw[hQ]
  exact⟨.inr ⟨fun q=>by rw[(hR.1 q).1]at h1; simp at h1,rfl⟩,h3⟩
 simp only[sW,sL,iO,ic,nW,sB,seval,qc,q0,p0]
 rw[fj]
 refine oC (fun (T:bU) H'=>T 0=af mb 1 0/\T 1=p/\T 2=.int .i64 (deep:Int)/\Fp mb H H'/\bc H' mb [.int .i64 ((n+1:Nat):Int)]/\PF) (d7 _ _) ?_ ?_
 rotate_left
 ·rintro T H2 ⟨t0,t1,t2,F2,r2,hpt⟩
  have e2:=F2.next
  have km:∀{K:ab},Fp mb H K->∀b,(b<H.next/\b≠mb)->(b<K.next/\b≠mb)/\K.get b=H.get b:=fun F b hb=>⟨⟨by have:=F.next; omega,hb.2⟩,F.old b hb.1 hb.2⟩
  have pp2:=hp.fp F2 hpb
  have pe:=pp2.part (o:=2) (k:=4) (by simp)
  have wd:IntKind.i64.wrap ((deep:Int)+1)=((deep+1:Nat):Int):=Ah
  simp only[sA,sB,seval,t0,t1,t2,qc,q2,wd]
  refine (qE e.size rL pe ?_ (x1.mono (km F2)) r2 om om om).mono ?_
  ·intro a ea
   obtain⟨a',rfl,_⟩:=hp
   simp only[fp,aa.ptr.injEq,sJ]at ea
   subst ea
   have:=hpb a' rfl
   exact⟨by show a'.b<H2.next; omega,this.2⟩
  rintro u H3 ⟨ho,F3⟩
  have F03:=F2.trans F3
  have e3:=F03.next
  rcases ho with⟨g1,rfl,r3⟩ | ⟨g1,rfl⟩
  case inr=>
   simp only[sA,sB,seval,t0,t1,t2]
   rw[hQ]
   exact⟨.inr ⟨fun q=>g1 (hR.1 q).2.1,tt⟩,F03⟩
  have pp3:=hp.fp F03 hpb
  have p63:=pp3.load (o:=6) (x:=vb) rfl
  simp only[sA,sB,seval,t0,t1,t2,qc,q6,p63,wd]
  refine (ih (by rw[hsz]at h; omega) (z1.mono (km F03)) (z2.mono (km F03)) r3 om g1.2.1 om).mono ?_
  rintro u H4 ⟨ho,F4⟩
  have F04:=F03.trans F4
  have e4:=F04.next
  rcases ho with⟨g2,rfl,r4⟩ | ⟨g2,rfl⟩
  case inr=>
   simp only[sA,sB,seval,t0,t1,t2]
   rw[hQ]
   exact⟨.inr ⟨fun q=>g2 (hR.1 q).2.2.1,tt⟩,F04⟩
  have pp4:=hp.fp F04 hpb
  have p74:=pp4.load (o:=7) (x:=ve) rfl
  simp only[sA,sB,seval,t0,t1,t2,qc,q7,p74,wd]
  refine (ih (by rw[hsz]at h; omega) (y1.mono (km F04)) (y2.mono (km F04)) r4 om g2.2.1 om).mono ?_
  rintro u H5 ⟨ho,F5⟩
  have F05:=F04.trans F5
  rcases ho with⟨g3,rfl,r5⟩ | ⟨g3,rfl⟩
  ·simp only[sA,sB,seval]
   rw[hQ]
   refine⟨.inl ⟨hR.2 ⟨hPF.1 hpt,g1,g2,g3⟩,tt,?_⟩,F05⟩
   rw[hsz,show n+(e.size+aI body+aI els+1)=n+1+e.size+aI body+aI els by omega]; exact r5
  ·simp only[sA,sB,seval]
   rw[hQ]
   exact⟨.inr ⟨fun q=>g3 (hR.1 q).2.2.2,tt⟩,F05⟩
 have nb0:∀{α:Type} {l:List α},l≠[]->Nat.beq l.length 0=false:=fun q=>by rw[b9]; exact decide_eq_false (by have:=List.length_pos_iff.2 q; omega)
 have pos:∀{α:Type} {l:List α},l≠[]->(0:Int)<(l.length:Int):=fun q=>by have:=List.length_pos_iff.2 q; omega
 have emp:s≠[]->s.isEmpty=false:=fun q=>by cases s <;> simp_all
 have nil0:¬(0:Int)<((([]:List St)).length:Int):=by simp
 by_cases k1:k=1
 ·have i1:(k:Int)=1:=om
  have hpart:bV k s body.length els.length=(dI s&&(Nat.beq body.length 0&&Nat.beq els.length 0)):=by unfold bV; rw[if_pos (.inl k1)]
  simp only[sA,sB,seval,qc,q0,q1,q6,q7,p0,p1,p6,p7,lb,le,i1]
  refine (ip s).mono ?_
  rintro _ H2 ⟨rfl,E2⟩
  have F12:Fp mb H1 H2:=⟨E2.next,fun c hc _=>E2.old c hc⟩
  have F02:=F1.trans F12
  have pp2:=hp.fp F02 hpb
  have p62:=pp2.load (o:=6) (x:=vb) rfl
  have p72:=pp2.load (o:=7) (x:=ve) rfl
  have r2:=r1.same (E2.old mb om)
  cases a2:dI s with
  | false=>
   simp only[sA,sB,seval]
   exact fin H2 (by rw[hpart,a2]; rfl) F02
  | true=>
  by_cases a3:body=[]
  ·by_cases a4:els=[]
   ·have b3:¬(0:Int)<(body.length:Int):=by rw[a3]; simp
    have b4:¬(0:Int)<(els.length:Int):=by rw[a4]; simp
    simp only[sA,sB,seval,qc,q6,q7,p62,p72,lb,le,b3,b4]
    exact⟨tt,tt,tt,F02,r2,hPF.2 (by rw[hpart,a2,a3,a4]; rfl)⟩
   ·have b3:¬(0:Int)<(body.length:Int):=by rw[a3]; simp
    have b4:=pos a4
    simp only[sA,sB,seval,qc,q6,q7,p62,p72,lb,le,b3,b4]
    exact fin H2 (by rw[hpart,nb0 a4]; simp) F02
  ·have b3:=pos a3
   simp only[sA,sB,seval,qc,q6,q7,p62,p72,lb,le,b3]
   exact fin H2 (by rw[hpart,nb0 a3]; simp) F02
 have i1:¬(k:Int)=1:=om
 by_cases k2:k=2
 ·have i2:(k:Int)=2:=om
  have hpart:bV k s body.length els.length=(dI s&&(Nat.beq body.length 0&&Nat.beq els.length 0)):=by unfold bV; rw[if_pos (.inr k2)]
  simp only[sA,sB,seval,qc,q0,q1,q6,q7,p0,p1,p6,p7,lb,le,i1,i2]
  refine (ip s).mono ?_
  rintro _ H2 ⟨rfl,E2⟩
  have F12:Fp mb H1 H2:=⟨E2.next,fun c hc _=>E2.old c hc⟩
  have F02:=F1.trans F12
  have pp2:=hp.fp F02 hpb
  have p62:=pp2.load (o:=6) (x:=vb) rfl
  have p72:=pp2.load (o:=7) (x:=ve) rfl
  have r2:=r1.same (E2.old mb om)
  cases a2:dI s with
  | false=>
   simp only[sA,sB,seval]
   exact fin H2 (by rw[hpart,a2]; rfl) F02
  | true=>
  by_cases a3:body=[]
  ·by_cases a4:els=[]
   ·have b3:¬(0:Int)<(body.length:Int):=by rw[a3]; simp
    have b4:¬(0:Int)<(els.length:Int):=by rw[a4]; simp
    simp only[sA,sB,seval,qc,q6,q7,p62,p72,lb,le,b3,b4]
    exact⟨tt,tt,tt,F02,r2,hPF.2 (by rw[hpart,a2,a3,a4]; rfl)⟩
   ·have b3:¬(0:Int)<(body.length:Int):=by rw[a3]; simp
    have b4:=pos a4
    simp only[sA,sB,seval,qc,q6,q7,p62,p72,lb,le,b3,b4]
    exact fin H2 (by rw[hpart,nb0 a4]; simp) F02
  ·have b3:=pos a3
   simp only[sA,sB,seval,qc,q6,q7,p62,p72,lb,le,b3]
   exact fin H2 (by rw[hpart,nb0 a3]; simp) F02
 have i2:¬(k:Int)=2:=om
 have i12:¬(k=1∨k=2):=om
 by_cases k3:k=3
 ·have i3:(k:Int)=3:=om
  have hpart:bV k s body.length els.length=s.isEmpty:=by unfold bV; rw[if_neg i12,if_pos k3]
  by_cases a2:s=[]
  ·simp only[sA,sB,seval,qc,q0,q1,q6,q7,p0,p1,p6,p7,lb,le,i1,i2,i3,a2]
   exact⟨tt,tt,tt,F1,r1,hPF.2 (by rw[hpart,a2]; rfl)⟩
  ·simp only[sA,sB,seval,qc,q0,q1,q6,q7,p0,p1,p6,p7,lb,le,i1,i2,i3,a2]
   exact fin H1 (by rw[hpart,emp a2]) F1
 have i3:¬(k:Int)=3:=om
 by_cases k4:k=4
 ·have i4:(k:Int)=4:=om
  have hpart:bV k s body.length els.length=(s.isEmpty&&Nat.beq els.length 0):=by unfold bV; rw[if_neg i12,if_neg k3,if_pos k4]
  by_cases a2:s=[]
  ·by_cases a4:els=[]
   ·have b4:¬(0:Int)<(els.length:Int):=by rw[a4]; simp
    simp only[sA,sB,seval,qc,q0,q1,q6,q7,p0,p1,p6,p7,lb,le,i1,i2,i3,i4,a2,b4]
    exact⟨tt,tt,tt,F1,r1,hPF.2 (by rw[hpart,a2,a4]; rfl)⟩
   ·have b4:=pos a4
    simp only[sA,sB,seval,qc,q0,q1,q6,q7,p0,p1,p6,p7,lb,le,i1,i2,i3,i4,a2,b4]
    exact fin H1 (by rw[hpart,nb0 a4]; simp) F1
  ·simp only[sA,sB,seval,qc,q0,q1,q6,q7,p0,p1,p6,p7,lb,le,i1,i2,i3,i4,a2]
   exact fin H1 (by rw[hpart,emp a2]; rfl) F1
 have i4:¬(k:Int)=4:=om
 by_cases k5:k=5
 ·have i5:(k:Int)=5:=om
  have hpart:bV k s body.length els.length=(s.isEmpty&&(Nat.beq body.length 0&&Nat.beq els.length 0)):=by unfold bV; rw[if_neg i12,if_neg k3,if_neg k4,if_pos k5]
  by_cases a2:s=[]
  ·by_cases a3:body=[]
   ·have b3:¬(0:Int)<(body.length:Int):=by rw[a3]; simp
    by_cases a4:els=[]
    ·have b4:¬(0:Int)<(els.length:Int):=by rw[a4]; simp
     simp only[sA,sB,seval,qc,q0,q1,q6,q7,p0,p1,p6,p7,lb,le,i1,i2,i3,i4,i5,a2,b3,b4]
     exact⟨tt,tt,tt,F1,r1,hPF.2 (by rw[hpart,a2,a3,a4]; rfl)⟩
    ·have b4:=pos a4
     simp only[sA,sB,seval,qc,q0,q1,q6,q7,p0,p1,p6,p7,lb,le,i1,i2,i3,i4,i5,a2,b3,b4]
     exact fin H1 (by rw[hpart,nb0 a4]; simp) F1
   ·have b3:=pos a3
    simp only[sA,sB,seval,qc,q0,q1,q6,q7,p0,p1,p6,p7,lb,le,i1,i2,i3,i4,i5,a2,b3]
    exact fin H1 (by rw[hpart,nb0 a3]; simp) F1
  ·simp only[sA,sB,seval,qc,q0,q1,q6,q7,p0,p1,p6,p7,lb,le,i1,i2,i3,i4,i5,a2]
   exact fin H1 (by rw[hpart,emp a2]; rfl) F1
 have i5:¬(k:Int)=5:=om
 simp only[sA,sB,seval,i1,i2,i3,i4,i5]
 exact fin H1 (by unfold bV; rw[if_neg i12,if_neg k3,if_neg k4,if_neg k5]) F1
theorem kO(e:St):0<e.size:=by cases e; simp only[St.size]; omega
theorem Ns:Mj 0:=by
 intro e c H mb n deep p h
 exact absurd h (Nat.not_le.2 (kO e))
theorem Av:∀(N:Nat),Mj N
 | 0=>Ns
 | N+1=>stR (liR (Av N))
theorem ij{l:List St}{C:List aa}{H:ab}{v:aa}(z1:fw (·<H.next) H 9 v l.length C)(z2:gr (·<H.next) H l C):an Tryd.prog aB 9 [v] H fun u H'=>u=.bool (cE l)/\b7 H.next H H':=by
 refine ak rfl za9 rfl ?_
 obtain⟨H1,m1,r1,n1,k1⟩:=aG H [.int .i64 0] (n:=1) rfl
 have b1:bT [.int .i64 0] []=some (.agg [.int .i64 0]):=rfl
 simp only[c9,sA,sB,seval,b1,dq,m1]
 have km:∀b,b<H.next->(b<H1.next/\b≠H.next)/\H1.get b=H.get b:=fun b hb=>⟨⟨om,om⟩,k1 b om⟩
 refine (liR (Av (aI l)) (n:=0) (deep:=1) rL (z1.mono km) (z2.mono km) r1 om om om).mono ?_
 rintro u H2 ⟨ho,F2⟩
 have E:b7 H.next H H2:=⟨by have:=F2.next; omega,fun c hc=>by rw[F2.old c om om,k1 c om]⟩
 have hr:nR 0 1 l↔cE l=true:=by
  unfold nR cE jO
  simp only[N4,Od]
  constructor
  ·rintro ⟨a,b,c⟩; exact⟨a,om,om⟩
  ·rintro ⟨a,b,c⟩; exact⟨a,om,om⟩
 rcases ho with⟨h,rfl,_⟩ | ⟨h,rfl⟩
 ·rw[hr.1 h]
  simp only[sA,sB,seval]
  exact⟨tt,E⟩
 ·have:cE l=false:=by
   cases hh:cE l with
   | false=>rfl
   | true=>exact absurd (hr.2 hh) h
  rw[this]
  simp only[sA,sB,seval]
  exact⟨tt,E⟩
open Go.Abs Go.Abs.S
def Ex.kind:Ex->Nat
 | .mk k _ _ _=>k
def bz:List Bs->Bs
 | []=>[]
 | a::l=>a++l.flatMap fun t=>44::32::t
theorem kz(l:List Bs)(t:Bs):bz (l++[t])=bz l++((if l.isEmpty then [] else [44,32])++t):=by
 cases l with
 | nil=>simp[bz]
 | cons a l=>simp[bz]
def cC(k:Nat)(s:Bs)(n:Int)(ts:List Bs):Bs:=
 if k=1 then bb n else if k=2 then s else if k=4 then s++40::(bz ts++[41])
 else match ts with
  | [a]=>s++32::a
  | [a,b]=>a++32::(s++32::b)
  | _=>[]
mutual
def bF:Ex->Bs
 | .mk k s n kids=>cC k s n (gn kids)
def gn:List Ex->List Bs
 | []=>[]
 | e::l=>(if e.kind=3 then 40::(bF e++[41]) else bF e)::gn l
end
def aP(e:Ex):Bs:=if e.kind=3 then 40::(bF e++[41]) else bF e
theorem fA:∀l:List Ex,gn l=l.map aP
 | []=>by simp[gn]
 | e::l=>by rw[gn,List.map_cons,fA l,aP]
def cg(n:Nat):Bs:=List.replicate n 9
def dA(k:Nat)(s:Bs)(lev:Nat)(x b c:Bs)(noElse:Bool):Bs:=
 cg lev++(if k=1 then [108,101,116,32]++(s++([32,61,32]++(x++[59,10])))
 else if k=2 then [115,101,116,32]++(s++([32,61,32]++(x++[59,10])))
 else if k=5 then [114,101,116,117,114,110,32]++(x++[59,10])
 else (if k=3 then [105,102,32,40] else [119,104,105,108,101,32,40])++(x++([41,32,123,10]++(b++((if noElse then [] else cg lev++([125,32,101,108,115,101,32,123,10]++c))++(cg lev++[125,10]))))))
mutual
def ft:Nat->St->Bs
 | lev,.mk k s e body els _=>dA k s lev (bF e) (aF (lev+1) body) (aF (lev+1) els) els.isEmpty
def aF:Nat->List St->Bs
 | _,[]=>[]
 | lev,x::l=>ft lev x++aF lev l
end
theorem lW(lev:Nat)(l m:List St):aF lev (l++m)=aF lev l++aF lev m:=by
 induction l with
 | nil=>simp[aF]
 | cons x l ih=>simp only[Oj,aF,ih,Oe]
def fX(l:List St):Bs×Nat:=if cE l then (if 16384<(aF 0 l).length then ([],3) else (aF 0 l,0)) else ([],103)
mutual
def dj:Ex->Bool
 | .mk _ _ n kids=>(decide (-9223372036854775808<=n)&&decide (n<=9223372036854775807))&&eY kids
def eY:List Ex->Bool
 | []=>true
 | e::l=>dj e&&eY l
end
mutual
def lX:St->Bool
 | .mk _ _ e body els line=>(dj e&&(decide (-9223372036854775808<=line)&&decide (line<=9223372036854775807)))&&(bR body&&bR els)
def bR:List St->Bool
 | []=>true
 | e::l=>lX e&&bR l
end
theorem cK{l:List Ex}{e:Ex}(h:eY l=true)(he:e∈l):dj e=true:=by
 induction l with
 | nil=>simp at he
 | cons x l ih=>
  simp only[eY,N4]at h
  rcases List.mem_cons.1 he with rfl | he
  ·exact h.1
  ·exact ih h.2 he
theorem kR{l:List St}{e:St}(h:bR l=true)(he:e∈l):lX e=true:=by
 induction l with
 | nil=>simp at he
 | cons x l ih=>
  simp only[bR,N4]at h
  rcases List.mem_cons.1 he with rfl | he
  ·exact h.1
  ·exact ih h.2 he
theorem dm{l:List Ex}{e:Ex}(h:fl l=true)(he:e∈l):iX e=true:=by
 induction l with
 | nil=>simp at he
 | cons x l ih=>
  simp only[fl,N4]at h
  rcases List.mem_cons.1 he with rfl | he
  ·exact h.1
  ·exact ih h.2 he
theorem gK{l:List St}{e:St}(h:cH l=true)(he:e∈l):pn e=true:=by
 induction l with
 | nil=>simp at he
 | cons x l ih=>
  simp only[cH,N4]at h
  rcases List.mem_cons.1 he with rfl | he
  ·exact h.1
  ·exact ih h.2 he
open Go.Abs Go.Abs.S
def I2(W Y:Bs):Prop:=(Y=W∨16384<Y.length)/\Y.length<=W.length
theorem I2.app{W Y:Bs}(h:I2 W Y)(z:Bs):I2 (W++z) (Y++z):=by
 refine⟨h.1.imp (fun e=>by rw[e]) fun q=>by rw[lA]; omega,?_⟩
 have:=h.2
 simp only[lA]; omega
theorem I2.stop{W Y:Bs}(h:I2 W Y)(z:Bs)(hy:16384<Y.length):I2 (W++z) Y:=⟨.inr hy,by have:=h.2; rw[lA]; omega⟩
def Pg(n pg:Nat)(H:ab)(W:Bs):Prop:=n<=pg/\pg<H.next/\∃v Y,bc H pg [v]/\eh 1 0 H v (cX Y) Y.length/\fx v (fun b=>n<=b/\b≠pg)/\I2 W Y
theorem CZ(s:Bs):(cX s).all aa.one=true:=by
 simp only[cX,List.all_map,List.all_eq_true]; intro x _; rfl
theorem xq(a b:Bs):cX (a++b)=cX a++cX b:=by simp[cX]
theorem ou{n pg:Nat}{K:ab}{W:Bs}(G:Pg n pg K W)(L:List Bs)(hL:W.length+L.flatten.length<=1000000000)(hL2:L.length<=100) :
  an Tryd.prog aB 36 [af pg 1 0,sd K.next L.length (.known L.length)] (K.push (.cells (L.map aa.str) 0 false)) fun _ H'=>Pg n pg H' (W++L.flatten)/\b7 n K H':=by
 refine ak rfl M2 rfl ?_
 obtain⟨g1,g2,v,Y,hr,hv,hb,hc⟩:=G
 obtain⟨H0,hH0⟩:∃H0,H0=K.push (.cells (L.map aa.str) 0 false):=⟨_,rfl⟩
 have n0:H0.next=K.next+1:=by rw[hH0]; rfl
 have q0:∀c,c<K.next->H0.get c=K.get c:=fun c hc=>by rw[hH0]; exact aE hc
 have rb:bc H0 K.next (L.map aa.str):=by rw[hH0]; exact fY _ _
 have hln:(L.map aa.str).length=L.length:=List.length_map _
 have hbK:=hv.blk'
 rw[<- hH0]
 simp only[c36,sA,sB,seval,HJ]
 refine bD (fun m (T:bU) H'=>∃i v Y',m=L.length-i/\i<=L.length/\T 0=af pg 1 0/\T 6=sd K.next L.length (.known L.length)/\T 7=.int .i64 (L.length:Int)/\T 8=.int .i64 (i:Int)/\bc H' K.next (L.map aa.str)/\bc H' pg [v]/\eh 1 0 H' v (cX Y') Y'.length/\fx v (fun b=>n<=b/\b≠pg)/\fx v (K.next≠·)/\I2 (W++(L.take i).flatten) Y'/\H0.next<=H'.next/\∀c,c<n->H'.get c=K.get c) L.length
  ⟨0,v,Y,rfl,Nat.zero_le _,by simp only[sA,sB,seval],by simp only[sA,sB,seval],by simp only[sA,sB,seval],by simp only[sA,sB,seval]; try rfl,rb,hr.same (q0 pg g2),hv.same om (hbK.mono fun b hb=>q0 b hb),hb,hbK.mono fun b hb=>om,by simpa using hc,Nat.le_refl _,fun c hc=>q0 c om⟩ ?_
 rintro m T H1 ⟨i,v,Y',rfl,hi,t0,t6,t7,t8,rK,rp,A,b1,b2,hC,n1,k1⟩
 by_cases hlt:i<L.length
 case neg=>
  obtain rfl:i=L.length:=om
  have hlt':¬(L.length:Int)<(L.length:Int):=om
  rw[List.take_length]at hC
  simp only[sA,sB,seval,t7,t8,hlt']
  exact⟨[],rfl,⟨g1,om,v,Y',rp,A,b1,hC⟩,om,k1⟩
 have hlt':(i:Int)<(L.length:Int):=om
 obtain⟨x,hx⟩:∃x,L[i]?=some x:=⟨_,N1 hlt⟩
 have hts:(L.take (i+1)).flatten=(L.take i).flatten++x:=by rw[List.take_add_one,hx]; simp
 have ix:=HK (b:=K.next) (n:=L.length) (r:=.known L.length) .i64 hlt
 have lx:am false 1 H1 (af K.next L.length i)=some (.str x):=al rK hln (by rw[List.getElem?_map,hx]; rfl)
 have lp:am false 1 H1 (af pg 1 0)=some v:=al rp rfl rfl
 have wi:IntKind.i64.wrap ((i:Int)+1)=((i+1:Nat):Int):=Ah
 have hle:(L.take (i+1)).flatten.length<=L.flatten.length:=by
  have:L.flatten=(L.take (i+1)).flatten++(L.drop (i+1)).flatten:=by rw[<- List.flatten_append,List.take_append_drop]
  rw[this,lA]; omega
 rw[hts,lA]at hle
 have hC2:=hC.2
 rw[lA]at hC2
 have hs:iN 1 H1 (.str x)=some (x.length,cX x):=rfl
 obtain⟨v',H2,a2,A2,n2,b3,k2⟩:=A.many (j:=x.length) hs (by rw[nI]; omega) (CZ x) om (bytes:=1) om om
 have hpv:fx v (pg≠·):=b1.mono fun b hb=>om
 obtain⟨H3,m3,r3,n3,k3⟩:=dW (rp.same (k2 pg om hpv)) (n:=1) rfl (i:=0) om (x:=v') A2.one (l':=[v']) rfl
 have b1':=b3 _ b1
 have b2':=b3 _ b2
 have ne3:fx v' (·≠pg):=b1'.mono fun b hb=>by
  rcases hb with hb | hb
  ·exact hb.2
  ·intro e; rw[e]at hb; omega
 simp only[sA,sB,seval,t0,t6,t7,t8,hlt',ix,lx,aC,fld0,lp,a2,m3,wi]
 refine⟨L.length-(i+1),om,i+1,v',Y'++x,rfl,om,tt,tt,tt,tt,rK.same (by rw[k3 _ om,k2 _ om b2]),r3,?_,?_,?_,?_,om,fun c hc=>by rw[k3 c om,k2 c om (b1.mono fun b hb=>om),k1 c hc]⟩
 ·rw[xq,lA]
  exact A2.same om (ne3.mono fun b hb=>k3 b hb)
 ·refine (b1'.and ne3).mono fun b hb=>⟨?_,hb.2⟩
  rcases hb.1 with h | h
  ·exact h.1
  ·exact Nat.le_trans om h
 ·refine b2'.mono fun b hb=>?_
  rcases hb with h | h
  ·exact h
  ·intro e; rw[<- e]at h; omega
 ·rw[hts,<- Oe]; exact hC.app x
theorem dd{n pg:Nat}{K:ab}{W:Bs}(G:Pg n pg K W)(lev:Nat)(hL:W.length+lev<=1000000000)(hl2:lev<=1000) :
  an Tryd.prog aB 35 [af pg 1 0,.int .i64 (lev:Int)] K fun _ H'=>Pg n pg H' (W++cg lev)/\b7 n K H':=by
 refine ak rfl M3 rfl ?_
 obtain⟨g1,g2,v,Y,hr,hv,hb,hc⟩:=G
 simp only[c35,sA,sB,seval]
 refine bD (fun m (T:bU) H'=>∃i v Y',m=lev-i/\i<=lev/\T 0=af pg 1 0/\T 4=.int .i64 (lev:Int)/\T 5=.int .i64 (i:Int)/\bc H' pg [v]/\eh 1 0 H' v (cX Y') Y'.length/\fx v (fun b=>n<=b/\b≠pg)/\I2 (W++cg i) Y'/\K.next<=H'.next/\∀c,c<n->H'.get c=K.get c) lev
  ⟨0,v,Y,rfl,Nat.zero_le _,by simp only[sA,sB,seval],by simp only[sA,sB,seval]; try rfl,by simp only[sA,sB,seval]; try rfl,hr,hv,hb,by simpa[cg] using hc,Nat.le_refl _,fun c hc=>rfl⟩ ?_
 rintro m T H1 ⟨i,v,Y',rfl,hi,t0,t4,t5,rp,A,b1,hC,n1,k1⟩
 by_cases hlt:i<lev
 case neg=>
  obtain rfl:i=lev:=om
  have hlt':¬(i:Int)<(i:Int):=om
  simp only[sA,sB,seval,t4,t5,hlt']
  exact⟨[],rfl,⟨g1,om,v,Y',rp,A,b1,hC⟩,om,k1⟩
 have hlt':(i:Int)<(lev:Int):=om
 have lp:am false 1 H1 (af pg 1 0)=some v:=al rp rfl rfl
 have wi:IntKind.i64.wrap ((i:Int)+1)=((i+1:Nat):Int):=Ah
 have hC2:=hC.2
 rw[lA,cg,List.length_replicate]at hC2
 have bs:=iK (.int .u8 0) H1 (x:=.int .u8 9) rfl
 have n1':(H1.push (.cells [.int .u8 9] 0 false)).next=H1.next+1:=rfl
 have A1:=A.same (H':=H1.push (.cells [.int .u8 9] 0 false)) om (A.blk'.mono fun b hb=>aE hb)
 obtain⟨v',H2,a2,A2,n2,b3,k2⟩:=A1.many (j:=1) (HG H1 (.int .u8 9)) (by simp) rfl om (bytes:=1) om om
 have hpv:fx v (pg≠·):=b1.mono fun b hb=>om
 have kp:∀c,c<H1.next->fx v (c≠·)->H2.get c=H1.get c:=fun c hc hd=>by rw[k2 c om hd,aE hc]
 obtain⟨H3,m3,r3,n3,k3⟩:=dW (rp.same (kp pg om hpv)) (n:=1) rfl (i:=0) om (x:=v') A2.one (l':=[v']) rfl
 have b1':=b3 _ b1
 have ne3:fx v' (·≠pg):=b1'.mono fun b hb=>by
  rcases hb with hb | hb
  ·exact hb.2
  ·intro e; rw[e]at hb; omega
 have ht:cg (i+1)=cg i++[9]:=by unfold cg; rw[List.replicate_succ']
 have e9:cX Y'++[aa.int .u8 9]=cX (Y'++[9]):=by rw[xq]; rfl
 simp only[sA,sB,seval,t0,t4,t5,hlt',aC,fld0,lp,bs,a2,m3,wi]
 refine⟨lev-(i+1),om,i+1,v',Y'++[9],rfl,om,tt,tt,tt,r3,?_,?_,?_,om,fun c hc=>by rw[k3 c om,kp c om (b1.mono fun b hb=>om),k1 c hc]⟩
 ·rw[<- e9,lA]
  exact A2.same om (ne3.mono fun b hb=>k3 b hb)
 ·refine (b1'.and ne3).mono fun b hb=>⟨?_,hb.2⟩
  rcases hb.1 with h | h
  ·exact h.1
  ·exact Nat.le_trans om h
 ·rw[ht,<- Oe]; exact hC.app [9]
open Go.Abs Go.Abs.S
structure Nm(S:Bs):Prop where
 beg:∃c r,S=c::r/\beg c=true
 all:∀c∈S,iM c=true
 key:ot S=false
 len:S.length<=16384
theorem BH{c:UInt8}(h:beg c=true):dig c=false/\blk c=false/\c.toNat≠35:=by
 simp only[beg,Bool.or_eq_true,N4,Od]at h
 refine⟨?_,?_,?_⟩
 ·simp only[dig,Bool.and_eq_false_iff,decide_eq_false_iff_not]; omega
 ·simp only[blk,Bool.or_eq_false_iff,decide_eq_false_iff_not]; omega
 ·omega
theorem Dy{p:UInt8->Bool}{l:Bs}(h:∀c∈l,p c=true):l.takeWhile p=l:=by
 induction l with
 | nil=>rfl
 | cons a l ih=>rw[List.takeWhile_cons_of_pos (h a (by simp)),ih fun c hc=>h c (by simp[hc])]
theorem Nm.name{S:Bs}(h:Nm S):dI S=true:=by
 obtain⟨c,r,rfl,hc⟩:=h.beg
 obtain⟨h1,h2,h3⟩:=BH hc
 have hs:a6 (c::r) 0=0:=og (s:=c::r) (i:=0) (c:=c) rfl h2 h3
 have hr:bg iM (c::r) 0=(c::r).length:=by unfold bg; rw[List.drop_zero,Dy h.all]; omega
 have hsub:sub (c::r) 0 (c::r).length=c::r:=by
  unfold sub; rw[List.drop_zero,Nat.sub_zero,List.take_length]
 have ho:jQ (c::r) 0=some ⟨2,c::r,0,(c::r).length⟩:=by
  unfold jQ
  simp only[Oa,h1,Oc,if_false,hc,if_true,hr,hsub,h.key]
 have hn:cM (c::r) 0=.ok ⟨2,c::r,0,bC (c::r) 0,0,(c::r).length⟩:=by
  unfold cM
  have:=h.len
  rw[if_neg om,if_neg om,hs,if_neg (by simp),ho]
 unfold dI
 rw[hn]
 simp
theorem pA{s:Bs}{p:Nat}{w:Wd}(h:cM s p=.ok w)(hk:w.k=2):Nm w.S:=by
 have hlen:=(iZ h).1.long
 unfold cM at h
 rw[if_neg om]at h
 by_cases a2:s.length<p
 ·rw[if_pos a2]at h; simp at h
 rw[if_neg a2]at h
 by_cases a3:a6 s p=s.length
 ·rw[if_pos a3]at h
  simp only[Except.ok.injEq]at h
  subst h
  simp at hk
 rw[if_neg a3]at h
 have hj:=qj s p
 generalize a6 s p=j at *
 cases ho:jQ s j with
 | none=>rw[ho]at h; simp at h
 | some t=>
  rw[ho]at h
  simp only[Except.ok.injEq]at h
  subst h
  simp only at hk ⊢
  unfold jQ at ho
  cases hc:s[j]? with
  | none=>rw[hc]at ho; simp at ho
  | some c=>
   rw[hc]at ho
   simp only at ho
   by_cases hd:dig c=true
   ·rw[if_pos hd]at ho
    split at ho
    ·simp only[sJ]at ho; subst ho; simp at hk
    ·simp at ho
   rw[if_neg hd]at ho
   by_cases hb:beg c=true
   ·rw[if_pos hb]at ho
    simp only[sJ]at ho
    subst ho
    simp only at hk ⊢
    have hkey:ot (sub s j (bg iM s j))=false:=by
     cases hh:ot (sub s j (bg iM s j)) with
     | false=>rfl
     | true=>rw[hh]at hk; simp at hk
    have hsub:sub s j (bg iM s j)=(s.drop j).takeWhile iM:=by
     unfold sub bg
     rw[Nat.add_sub_cancel_left]
     exact (List.prefix_iff_eq_take.1 (List.takeWhile_prefix iM)).symm
    have hg:iM c=true:=by simp[iM,hb]
    rw[hsub]at hkey ⊢
    refine⟨?_,fun d hd=>List.all_eq_true.1 List.all_takeWhile d hd,hkey,?_⟩
    ·rw[dn hc,List.takeWhile_cons_of_pos hg]
     exact⟨c,_,rfl,hb⟩
    ·have:=(List.takeWhile_prefix iM (l:=s.drop j)).length_le
     rw[Ok]at this
     omega
   ·rw[if_neg hb]at ho
    split at ho
    ·simp at ho
    ·simp only[sJ]at ho; subst ho; simp at hk
def GN(w:Wd):Prop:=w.k=2->dI w.S=true
theorem dS{s:Bs}{w w':Wd}(h:aZ s w=.ok w'):GN w':=fun hk=>(pA h hk).name
theorem hY{s c:Bs}{w w':Wd}(h:cJ s c w=.ok w'):GN w':=by
 unfold cJ at h
 split at h
 ·exact dS h
 ·simp at h
def Df{α:Type}(o:Option (eD α))(P:α->Prop):Prop:=∀a w',o=some (.ok (a,w'))->P a/\GN w'
theorem bP{α:Type}{o:Except Aa Wd}{f:Wd->Option (eD α)}{P:α->Prop}(h:∀w',o=.ok w'->Df (f w') P):Df (fK o f) P:=by
 cases o with
 | error e=>intro a w' q; simp[fK]at q
 | ok w=>exact h w rfl
theorem eX{α β:Type}{o:Option (eD α)}{f:α->Wd->Option (eD β)}{P:α->Prop}{Q:β->Prop}(ho:Df o P)(h:∀a w',P a->GN w'->Df (f a w') Q):Df (jw o f) Q:=by
 cases o with
 | none=>intro a w' q; simp[jw]at q
 | some o=>
  cases o with
  | error e=>intro a w' q; simp[jw]at q
  | ok p=>obtain⟨a,w⟩:=p; exact h a w (ho a w rfl).1 (ho a w rfl).2
theorem cV{α:Type}{a:α}{w:Wd}{P:α->Prop}(h:P a)(hw:GN w):Df (bp a w) P:=by
 intro a' w' q
 simp only[bp,sJ,Except.ok.injEq,pJ]at q
 rw[<- q.1,<- q.2]; exact⟨h,hw⟩
theorem mR{α:Type}{e:Nat}{w:Wd}{P:α->Prop}:Df (mG (α:=α) e w) P:=by intro a w' q; simp[mG]at q
theorem Az{w:Wd}{l:List Bs}(h:dN w l=true):w.S∈l:=by
 simp only[dN,N4]at h
 simpa using h.2
theorem op2{k:Nat}{S:Bs}(hk:1<=k)(hk5:k<=5)(h:S∈mt k):oT S 2=true:=by
 have key:∀k,1<=k->k<=5->∀S∈mt k,oT S 2=true:=by
  intro k h1 h5
  match k,h1,h5 with
  | 1,_,_ | 2,_,_ | 3,_,_ | 4,_,_ | 5,_,_=>decide
 exact key k hk hk5 S h
theorem op1{S:Bs}(h:S∈([[45],[33]]:List Bs)):oT S 1=true:=by
 have key:∀S∈([[45],[33]]:List Bs),oT S 1=true:=by decide
 exact key S h
theorem EA{S:Bs}{kids:List Ex}(h:oT S kids.length=true)(hk:fl kids=true):iX (.mk 3 S 0 kids)=true:=by
 simp[iX,dX,h,hk]
theorem wD{S:Bs}{kids:List Ex}(h:dI S=true)(hk:fl kids=true):iX (.mk 4 S 0 kids)=true:=by
 simp[iX,dX,h,hk]
theorem tv{l:List Ex}{e:Ex}(h:fl l=true)(he:iX e=true):fl (l++[e])=true:=by
 induction l with
 | nil=>simp[fl,he]
 | cons x l ih=>simp only[fl,N4]at h; simp only[Oj,fl,h.1,ih h.2,Bool.and_self]
theorem tu{l m:List St}(h:cH l=true)(he:cH m=true):cH (l++m)=true:=by
 induction l with
 | nil=>exact he
 | cons x l ih=>simp only[cH,N4]at h; simp only[Oj,cH,h.1,ih h.2,Bool.and_self]
def wC:NT->Prop
 | .rule k=>k<=5
 | .loop k e=>1<=k/\k<=5/\iX e=true
 | .prim=>True
 | .args S out=>dI S=true/\fl out=true
theorem Jf(s:Bs):∀(f:Nat) (nt:NT) (g:Nat) (w:Wd),GN w->wC nt->Df (pE s f nt g w) fun e=>iX e=true
 | 0,_,_,_,_,_=>by intro a w' q; simp[pE]at q
 | f+1,nt,g,w,hw,hk=>by
  have ih:=Jf s f
  rw[fd]
  cases nt with
  | rule k=>
   cases k with
   | zero=>
    simp only[bJ]
    split
    ·exact mR
    split
    ·rename_i hs
     refine bP fun w1 h1=>eX (ih (.rule 0) (g+1) w1 (dS h1) (by simp only[wC]; omega)) fun e w2 he hw2=>?_
     exact cV (EA (op1 (Az hs)) (by simp[fl,he])) hw2
    ·exact ih .prim (g+1) w hw trivial
   | succ k=>
    simp only[bJ]
    simp only[wC]at hk
    refine eX (ih (.rule k) g w hw (by simp only[wC]; omega)) fun e w1 he hw1=>?_
    exact ih (.loop (k+1) e) g w1 hw1 ⟨om,hk,he⟩
  | loop k e=>
   simp only[bJ]
   obtain⟨k1,k5,he⟩:=hk
   split
   ·rename_i hs
    refine bP fun w1 h1=>eX (ih (.rule (k-1)) g w1 (dS h1) (by simp only[wC]; omega)) fun r w2 hr hw2=>?_
    have hok:iX (.mk 3 w.S 0 [e,r])=true:=EA (op2 k1 k5 (Az hs)) (by simp[fl,he,hr])
    split
    ·exact cV hok hw2
    ·exact ih (.loop k _) g w2 hw2 ⟨k1,k5,hok⟩
   ·exact cV he hw
  | prim=>
   simp only[bJ]
   split
   ·refine bP fun w1 h1=>cV ?_ (dS h1)
    simp[iX,dX,fl]
   split
   ·rename_i h2
    refine bP fun w1 h1=>?_
    split
    ·refine bP fun w2 h2'=>?_
     split
     ·exact bP fun w3 h3=>cV (wD (hw h2) rfl) (dS h3)
     ·exact ih (.args w.S []) g w2 (dS h2') ⟨hw h2,rfl⟩
    ·refine cV ?_ (dS h1)
     simp[iX,dX,fl,hw h2]
   split
   ·refine bP fun w1 h1=>eX (ih (.rule 5) g w1 (dS h1) (by simp only[wC]; omega)) fun e w2 he hw2=>?_
    exact bP fun w3 h3=>cV he (hY h3)
   ·exact mR
  | args S out=>
   simp only[bJ]
   obtain⟨hS,ho⟩:=hk
   refine eX (ih (.rule 5) g w hw (by simp only[wC]; omega)) fun e w1 he hw1=>?_
   split
   ·exact bP fun w2 h2=>ih (.args S (out++[e])) g w2 (dS h2) ⟨hS,tv ho he⟩
   ·exact bP fun w2 h2=>cV (wD hS (tv ho he)) (hY h2)
def Nw:NS->Prop
 | .more out=>cH out=true
 | _=>True
theorem Je(s:Bs):∀(f:Nat) (nt:NS) (g:Nat) (w:Wd),GN w->Nw nt->Df (pS s f nt g w) fun l=>cH l=true
 | 0,_,_,_,_,_=>by intro a w' q; simp[pS]at q
 | f+1,nt,g,w,hw,hk=>by
  have ih:=Je s f
  have pe:∀g w1,GN w1->Df (pE s f (.rule 5) g w1) fun e=>iX e=true:=fun g w1 h=>Jf s f (.rule 5) g w1 h (by simp only[wC]; omega)
  rw[gB]
  have named:∀k line g w1,(k=1∨k=2)->GN w1->Df (ff s (pE s f) k line g w1) fun l=>cH l=true:=by
   intro k line g w1 hk h1
   unfold ff
   split
   ·rename_i c
    refine bP fun w2 h2=>bP fun w3 h3=>eX (pe g w3 (hY h3)) fun e w4 he hw4=>bP fun w5 h5=>cV ?_ (hY h5)
    have:bV k w1.S ([]:List St).length ([]:List St).length=true:=by
     unfold bV; rw[if_pos hk,h1 c]; rfl
    simp only[cH,pn,this,he,Bool.and_self]
   ·exact mR
  have asked:∀g w1 F,(∀e l w4,iX e=true->cH l=true->GN w4->Df (F e l w4) fun l=>cH l=true)->Df (eM s (pE s f) (pS s f) g w1 F) fun l=>cH l=true:=by
   intro g w1 F hF
   unfold eM
   refine bP fun w2 h2=>eX (pe g w2 (hY h2)) fun e w3 he hw3=>bP fun w4 h4=>eX (ih .body g w4 (hY h4) trivial) fun l w5 hl hw5=>hF e l w5 he hl hw5
  cases nt with
  | stmt=>
   simp only[dk]
   split
   ·exact mR
   split
   ·exact bP fun w1 h1=>named _ _ _ w1 (.inl rfl) (dS h1)
   split
   ·exact bP fun w1 h1=>named _ _ _ w1 (.inr rfl) (dS h1)
   split
   ·refine bP fun w1 h1=>asked _ w1 _ fun e l w2 he hl hw2=>?_
    split
    ·refine bP fun w3 h3=>eX (ih .body _ w3 (dS h3) trivial) fun m w4 hm hw4=>cV ?_ hw4
     simp[cH,pn,he,hl,hm,bV]
    ·refine cV ?_ hw2
     simp[cH,pn,he,hl,bV]
   split
   ·refine bP fun w1 h1=>asked _ w1 _ fun e l w2 he hl hw2=>cV ?_ hw2
    simp[cH,pn,he,hl,bV]
   split
   ·refine bP fun w1 h1=>eX (pe _ w1 (dS h1)) fun e w2 he hw2=>bP fun w3 h3=>cV ?_ (hY h3)
    simp[cH,pn,he,bV]
   ·exact mR
  | body=>
   simp only[dk]
   exact bP fun w1 h1=>ih (.more []) g w1 (hY h1) rfl
  | more out=>
   simp only[dk]
   split
   ·exact bP fun w1 h1=>cV hk (dS h1)
   ·exact eX (ih .stmt g w hw trivial) fun x w1 hx hw1=>ih (.more (out++x)) g w1 hw1 (tu hk hx)
theorem uB(s:Bs):∀(f:Nat) (out:List St) (w:Wd) (l:List St),GN w->cH out=true->gA s f out w=some (.ok l)->cH l=true
 | 0,_,_,_,_,_,h=>by simp[gA]at h
 | f+1,out,w,l,hw,ho,h=>by
  unfold gA at h
  by_cases c:w.k=5
  ·rw[if_pos c]at h
   simp only[sJ,Except.ok.injEq]at h
   subst h; exact ho
  rw[if_neg c]at h
  cases hp:pS s f .stmt 0 w with
  | none=>rw[hp]at h; simp at h
  | some r=>
   rw[hp]at h
   cases r with
   | error e=>simp at h
   | ok p=>
    obtain⟨x,w1⟩:=p
    obtain⟨h1,h2⟩:=Je s f .stmt 0 w hw trivial x w1 hp
    exact uB s f (out++x) w1 l h2 (tu ho h1) h
theorem wt{s:Bs}{l:List St}(h:dC s=.ok l):cE l=true:=by
 unfold dC at h
 cases hn:cM s 0 with
 | error e=>rw[hn]at h; simp at h
 | ok w=>
  rw[hn]at h
  simp only at h
  split at h
  ·simp at h
  ·simp at h
  ·rename_i l' hp
   split at h
   ·rename_i hf
    simp only[Except.ok.injEq]at h
    subst h
    have:=uB s _ [] w l' (fun hk=>(pA hn hk).name) rfl hp
    unfold cE
    rw[this,hf]; rfl
   ·simp at h
theorem B7{s:Bs}{w:Wd}{f:Nat}{l:List St}(hn:cM s 0=.ok w)(hp:gA s f [] w=some (.ok l)):cE l=jO l:=by
 have:=uB s _ [] w l (fun hk=>(pA hn hk).name) rfl hp
 unfold cE
 rw[this]; rfl
end Go.Proofs.Wo
