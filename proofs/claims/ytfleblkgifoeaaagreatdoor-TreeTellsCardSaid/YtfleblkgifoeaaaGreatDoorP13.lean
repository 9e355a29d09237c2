/- Part of a proof (YR6 YR7 YR8 YPZ YR9 YC5 YX1); no condition. -/
import Derived.Test.YtfleblkgifoeaaaGreatDoorProg
import Derived.KernelRfl
import Derived.Test.YtfleblkgifoeaaaGreatDoorP7
import Derived.Test.YtfleblkgifoeaaaGreatDoorP9
import Derived.Test.YtfleblkgifoeaaaGreatDoorP12
set_option linter.unusedSimpArgs false
set_option linter.unusedVariables false
set_option linter.unnecessarySimpa false
namespace Go.Proofs.Wo
open Go.Abs Go.Abs.S
def KH(s:Bs)(pe:NT->Nat->Wd->Option (dt Ex))(S:Bs)(d:Nat)(out:List Ex)(w:Wd):Option (dt Ex):=
 if out.isEmpty then (if fq w [[41]] then dn (bC s w) fun w3=>aV (.mk 4 S 0 []) w3 else pe (.args S []) d w)
 else if fq w [[44]] then dn (bC s w) fun w2=>pe (.args S out) d w2 else dn (bE s [41] w) fun w2=>aV (.mk 4 S 0 out) w2
theorem BN(s:Bs)(pe:NT->Nat->Wd->Option (dt Ex))(S:Bs)(d:Nat)(w:Wd):KH s pe S d [] w=if fq w [[41]] then dn (bC s w) fun w3=>aV (.mk 4 S 0 []) w3 else pe (.args S []) d w:=if_pos rfl
theorem wX{s:Bs}{pe:NT->Nat->Wd->Option (dt Ex)}{S:Bs}{d:Nat}{w:Wd}{out:List Ex}(h:out≠[]):KH s pe S d out w=if fq w [[44]] then dn (bC s w) fun w2=>pe (.args S out) d w2 else dn (bE s [41] w) fun w2=>aV (.mk 4 S 0 out) w2:=if_neg (by cases out <;> simp_all)
theorem I9{w:Wd}{a b:Bs}(h:fq w [a]=true)(hab:a≠b):fq w [b]=false:=by
 have h1:=vZ h
 simp only[List.mem_singleton]at h1
 unfold fq
 rw[h1]
 cases Nat.beq w.k 4 <;> simp[hab]
theorem ML{s:Bs}{pe:NT->Nat->Wd->Option (dt Ex)}{S:Bs}{d:Nat}{w:Wd}{out:List Ex}(h:fq w [[41]]=true):KH s pe S d out w=dn (bE s [41] w) fun w2=>aV (.mk 4 S 0 out) w2:=by
 by_cases ho:out=[]
 ·subst ho
  rw[BN,if_pos h,bE,if_pos h]
 ·rw[wX ho,if_neg (by rw[I9 h (by simp)]; simp)]
theorem Kd{s:Bs}{pe:NT->Nat->Wd->Option (dt Ex)}{S:Bs}{d:Nat}{w:Wd}{out:List Ex}(h:fq w [[41]]=false)(ho:out≠[]):KH s pe S d out w=dn (bE s [44] w) fun w2=>pe (.args S out) d w2:=by
 rw[wX ho]
 unfold bE
 by_cases hs:fq w [[44]]=true
 ·rw[if_pos hs,if_pos hs]
 ·rw[if_neg hs,if_neg hs,if_neg (by rw[h]; simp)]; rfl
theorem Ke(s:Bs)(m:Nat)(S:Bs)(d:Nat)(w:Wd)(out:List Ex):pE s (m+1) (.args S out) d w=fF (pE s m (.rule 5) d w) fun e w1=>KH s (pE s m) S d (out++[e]) w1:=by
 rw[cH]
 simp only[cK]
 congr 1
 funext e w1
 rw[wX (by simp)]
def GA(n:Nat)(H:aa)(v:ab)(k:Nat):Prop:=∃C,eI 4 0 H v C k/\eJ v (In n H.next)
theorem GE.ga{n:Nat}{H:aa}{v:ab}{l:List Ex}(h:GE n H v l):GA n H v l.length:=by
 obtain⟨C,h1,h2,_⟩:=h; exact⟨C,h1,h2⟩
theorem GA.keep{n:Nat}{H H':aa}{v:ab}{k:Nat}(h:GA n H v k)(hn:H.next<=H'.next)(e:∀c,In n H.next c->H'.get c=H.get c):GA n H' v k:=by
 obtain⟨C,h1,h2⟩:=h
 exact⟨C,h1.same hn (h2.mono fun b hb=>e b hb),h2.mono fun b hb=>⟨hb.1,Q4 hb.2 hn⟩⟩
theorem GA.len{n:Nat}{H:aa}{v:ab}{k:Nat}(h:GA n H v k):gv false v=some (.int .i64 (k:Int)):=by
 obtain⟨C,h1,_⟩:=h; exact h1.len
theorem GA.one{n:Nat}{H:aa}{v:ab}{k:Nat}(h:GA n H v k):v.one=true:=by
 obtain⟨C,h1,_⟩:=h; exact h1.one
theorem GA.aeq{n:Nat}{H:aa}{v:ab}{k:Nat}(h:GA n H v k):aeq v v=true:=by
 obtain⟨C,h1,_⟩:=h
 rcases h1 with⟨rfl,_⟩ | ⟨b,low,rfl,_⟩
 ·exact tI
 ·exact zR _ _ _
theorem GA.push{n:Nat}{H:aa}{v:ab}{k:Nat}(h:GA n H v k){xs:List ab}(hx:tT xs)(hn:n<=H.next)(hk:k<=1000000){bytes:Nat}(hb1:0<bytes)(hb2:bytes<=1000) :
  ∃v' H',bJ 4 bytes (H.push (.cells xs 0 false)) v (jO H 4)=some (v',H')/\GA n H' v' (k+1)/\H.next<=H'.next/\∀c,c<H.next->eJ v (c≠·)->H'.get c=H.get c:=by
 obtain⟨C,h1,h2⟩:=h
 have hb:2*(k+1)*bytes<=281474976710656:=by
  have:2*(k+1)*bytes<=2*(1000000+1)*1000:=Nat.mul_le_mul om hb2
  omega
 obtain⟨v',H',a1,a2,a3,a4,a5⟩:=h1.pushB hx.len hx.one om hb hb1
 refine⟨v',H',a1,⟨C++xs,a2,fun a j r e=>?_⟩,a3,a5⟩
 refine⟨?_,a2.blk' a j r e⟩
 rcases (a4 _ h2) a j r e with hb | hb
 ·exact hb.1
 ·omega
theorem wx{rb:Nat}{s:Bs}{f:Nat}(hf:f<=1000000)(ih:∀f',f'<=f->ew rb s 77 fun d w=>pE s f' (.rule 5) d w):ew rb s 211 fun d w=>pE s (f+1) .prim d w:=by
 intro H w d r hsA ok hd hrb hr
 have dead:gz rb s 77:=ip rb s 5 om
 refine af rfl M4 rfl ?_
 simp only[cH,cK]at hr
 obtain⟨H1,m1,r1,n1,k1⟩:=au H [.int .u8 0,.str [],.int .i64 0,.slice none 0 (.known 0)] (n:=4) rfl
 obtain⟨H2,m2,r2,n2,k2⟩:=au H1 [.int .u8 0,.str [],.int .i64 0,.int .i64 0,.int .i64 0,.int .i64 0] (n:=6) rfl
 obtain⟨H3,m3,r3,n3,k3⟩:=aj r2 (n:=6) rfl (xs:=fx w.k w.S w.n w.line w.at_ w.en) rfl rfl
 have lw:am true 6 H1 (ae rb 10 1)=some (.agg (fx w.k w.S w.n w.line w.at_ w.en)):=eA (show aT H1 rb (gL s w 0 0 d) from hsA.same (k1 rb om)) (n:=10) rfl (i:=1) (k:=6) om
 have F3:Fp rb H H3:=⟨om,fun c hc _=>by rw[k3 c om,k2 c om,k1 c om]⟩
 have s3:=hsA.same (H':=H3) (by rw[k3 rb om,k2 rb om,k1 rb om])
 have q1:aT H3 H.next _:=r1.same (by rw[k3 _ om,k2 _ om])
 have f0:∀{K:aa},Fp rb H3 K->am false 1 K (ae H1.next 6 0)=some (.int .u8 (w.k:Int)):=fun q=>ah (r3.same (q.old _ om om)) rfl rfl
 have f1:∀{K:aa},Fp rb H3 K->am false 1 K (ae H1.next 6 1)=some (.str w.S):=fun q=>ah (r3.same (q.old _ om om)) rfl rfl
 have f2:∀{K:aa},Fp rb H3 K->am false 1 K (ae H1.next 6 2)=some (.int .i64 (w.n:Int)):=fun q=>ah (r3.same (q.old _ om om)) rfl rfl
 have b0:=EG
 have f03:=f0 (Fp.refl rb H3)
 have dM:∀{K:aa},Fp rb H3 K->∀{xs:List ab},tT xs->∃K',a8 4 K (ae H.next 4 0) (.agg xs)=some K'/\am true 4 K' (ae H.next 4 0)=some (.agg xs)/\K'.next=K.next/\(∀c,c≠H.next->K'.get c=K.get c)/\Fp rb H K':=by
  intro K q xs h
  obtain⟨K',a1,a2,a3,a4⟩:=aj (q1.same (q.old _ om om)) (n:=4) rfl h.len h.one
  exact⟨K',a1,al a2 h.len,a3,a4,by have:=q.next; omega,fun c hc hp=>by rw[a4 c om,q.old c om hp,F3.old c hc hp]⟩
 have hsA':∀(k:Wd->Option (dt Ex)),k w=some r->Go s (Except.ok w) d d r k:=fun k hk=>.inl ⟨w,rfl,rfl,ok,hk⟩
 simp only[OC,sA,sB,seval,m1,aw,aB,fld0,lw,m2,m3,f03]
 by_cases c1:w.k=1
 ·have c1':(w.k:Int)=1:=om
  rw[if_pos c1]at hr
  obtain⟨N,hN⟩:∃N,N=w.n:=⟨_,rfl⟩
  have g0:Go s (Except.ok w) d d r fun w=>dn (bC s w) fun w1=>aV (.mk 1 [] (N:Int) []) w1:=.inl ⟨w,rfl,rfl,ok,by rw[hN]; exact hr⟩
  rw[<- hN]at f2
  simp only[sA,sB,seval,c1']
  refine (bO s3 om (Go.en g0)).mono ?_
  rintro _ H4 ⟨s4,F4⟩
  have g4:=Go.take g0
  have f24:=f2 F4
  have x4:tT [.int .u8 1,.str [],.int .i64 (N:Int),.slice none 0 (.known 0)]:=⟨rfl,rfl,vL _ _ _ rfl⟩
  obtain⟨H5,m5,l5,n5,k5,F5⟩:=dM F4 x4
  simp only[sA,sB,seval,aB,f24,HS (.int .i64 (N:Int)) rfl,m5]
  refine bL _ _ _ _ (by simp only[sA,sB,seval]; exact l5) ?_
  refine⟨_,d,_,rfl,x4,Nat.le_refl _,hd,s4.same (k5 rb om),F5,?_⟩
  rcases g4 with⟨w4,e4,_,ok4,hp⟩ | ⟨e,e4,rfl⟩
  ·simp only[aV,sJ]at hp
   subst hp
   exact .inl ⟨_,w4,rfl,e4,rfl,ok4,qQ _ _ 1 [] (N:Int)⟩
  ·exact .inr ⟨e,rfl,e4⟩
 have c1':¬(w.k:Int)=1:=om
 rw[if_neg c1]at hr
 by_cases c2:w.k=2
 ·have c2':(w.k:Int)=2:=om
  rw[if_pos c2]at hr
  obtain⟨SG,hSG⟩:∃SG,SG=w.S:=⟨_,rfl⟩
  have g0:Go s (Except.ok w) d d r fun w=>dn (bC s w) fun w1=>if fq w1 [[40]] then dn (bC s w1) fun w2=>KH s (pE s f) SG d [] w2 else aV (.mk 2 SG 0 []) w1:=.inl ⟨w,rfl,rfl,ok,by simp only[BN]; rw[hSG]; exact hr⟩
  rw[<- hSG]at f1
  simp only[sA,sB,seval,c1',c2',fld0,f03]
  refine (bO s3 om (Go.en g0)).mono ?_
  rintro _ H4 ⟨s4,F4⟩
  have g4:=Go.take g0
  have e4:=F4.next
  have f14:=f1 F4
  generalize kV s (Except.ok w)=o4 at *
  simp only[sA,sB,seval]
  refine (aJ s4 _).mono ?_
  rintro _ _ ⟨rfl,rfl⟩
  cases hi:gd o4 [40] with
  | false=>
   have x4:tT [.int .u8 2,.str SG,.int .i64 0,.slice none 0 (.known 0)]:=⟨rfl,rfl,vL _ _ _ rfl⟩
   obtain⟨H5,m5,l5,n5,k5,F5⟩:=dM F4 x4
   simp only[sA,sB,seval,aB,f14,CU,m5]
   refine bL _ _ _ _ (by simp only[sA,sB,seval]; exact l5) ?_
   refine⟨_,d,o4,rfl,x4,Nat.le_refl _,hd,s4.same (k5 rb om),F5,?_⟩
   rcases g4 with⟨w4,rfl,_,ok4,hp⟩ | ⟨e,rfl,rfl⟩
   ·dsimp only at hp
    rw[if_neg (by rw[<- dP ok4 rfl]; exact fun q=>by rw[show gd (.ok w4) [40]=jV w4 [40] from rfl,q]at hi; simp at hi)]at hp
    simp only[aV,sJ]at hp
    subst hp
    exact .inl ⟨_,w4,rfl,rfl,rfl,ok4,qQ _ _ 2 SG 0⟩
   ·exact .inr ⟨e,rfl,rfl⟩
  | true=>
  rcases g4 with⟨w4,rfl,_,ok4,hp⟩ | ⟨e,rfl,_⟩
  rotate_left
  ·exact absurd hi (by simp[gd])
  have hs40:fq w4 [[40]]=true:=by rw[<- dP ok4 rfl]; exact hi
  dsimp only at hp
  rw[if_pos hs40]at hp
  have g4:Go s (Except.ok w4) d d r fun w=>dn (bC s w) fun w2=>KH s (pE s f) SG d [] w2:=.inl ⟨w4,rfl,rfl,ok4,hp⟩
  simp only[sA,sB,seval]
  refine (bO s4 om (Go.en g4)).mono ?_
  rintro _ H5 ⟨s5,F5⟩
  have g5:=Go.take g4
  have e5:=F5.next
  have F35:=F4.trans F5
  have f15:=f1 F35
  generalize kV s (Except.ok w4)=o5 at *
  have bc:bB [.int .u8 0,.str [],.int .i64 0,.slice none 0 (.known 0)] [(0,1,.int .u8 4),(1,1,.str SG)]=some (.agg [.int .u8 4,.str SG,.int .i64 0,.slice none 0 (.known 0)]):=rfl
  obtain⟨H6,m6,r6,n6,k6⟩:=au H5 [.int .u8 0,.str [],.int .i64 0,.slice none 0 (.known 0)] (n:=4) rfl
  obtain⟨H7,m7,r7,n7,k7⟩:=aj r6 (n:=4) rfl (xs:=[.int .u8 4,.str SG,.int .i64 0,.slice none 0 (.known 0)]) rfl rfl
  obtain⟨b4,hb4⟩:∃b4,b4=H5.next:=⟨_,rfl⟩
  rw[<- hb4]at m6 r6 k6 m7 r7 k7
  have F57:Fp rb H5 H7:=⟨om,fun c hc _=>by rw[k7 c om,k6 c om]⟩
  have s7:=s5.same (H':=H7) (by rw[k7 rb om,k6 rb om])
  have F37:=F35.trans F57
  simp only[sA,sB,seval,aB,f15,bc,m6,m7]
  have tail:∀(T:bG) (K:aa) (v:ab) (k:Nat) (o:Except gB Wd) (d':Nat),T 0=ae rb 10 0->T 2=ae H.next 4 0->T 4=ae b4 4 0->aT K b4 [.int .u8 4,.str SG,.int .i64 0,v]->GA (b4+1) K v k->fA rb s K o d'->d<=d'->d'<=200->Fp rb H3 K->b4<K.next ->
    ((∃out,GE (b4+1) K v out/\Go s o d' d r fun w=>dn (bE s [41] w) fun w2=>aV (.mk 4 SG 0 out) w2)∨∃e,r=.error e/\o=.error e) ->
    aq Tryz.prog aA 76 [ae rb 10 0,.str [41]] K fun _ K'=>∃K2,am true 4 K' (ae b4 4 0)=some (.agg [.int .u8 4,.str SG,.int .i64 0,v])/\a8 4 K' (ae H.next 4 0) (.agg [.int .u8 4,.str SG,.int .i64 0,v])=some K2/\am true 4 K2 (ae H.next 4 0)=some (.agg [.int .u8 4,.str SG,.int .i64 0,v])/\∃xs d' o',ab.agg [.int .u8 4,.str SG,.int .i64 0,v]=.agg xs/\tT xs/\d<=d'/\d'<=200/\fA rb s K2 o' d'/\Fp rb H K2/\((∃e w',r=.ok (e,w')/\o'=.ok w'/\d'=d/\fy s w'/\XE (In H.next K2.next) K2 e xs)∨∃e,r=.error e/\o'=.error e):=by
   intro T K v k o d' t0 t2 t4 rK gK sK y1 y2 FK ltK hK
   have hen:∀w,o=.ok w->w.en<=1000000:=by
    rcases hK with⟨e,_,g⟩ | ⟨e,_,rfl⟩
    ·exact g.en
    ·intro w hw; simp at hw
   refine (dj sK om hen [41]).mono ?_
   rintro _ K1 ⟨sK1,FK1⟩
   have eK1:=FK1.next
   have x4:tT [.int .u8 4,.str SG,.int .i64 0,v]:=⟨rfl,DU _ _ _ gK.one,vL _ _ _ gK.aeq⟩
   obtain⟨K2,mK,lK,nK,kK,FK2⟩:=dM (FK.trans FK1) x4
   refine⟨K2,al (rK.same (FK1.old _ ltK om)) (n:=4) rfl,mK,lK,_,d',_,rfl,x4,y1,y2,sK1.same (kK rb om),FK2,?_⟩
   rcases hK with⟨out,gE,g⟩ | ⟨e,rfl,rfl⟩
   ·rcases g.must rfl with⟨w8,e8,h8,ok8,hp8⟩ | ⟨e,e8,rfl⟩
    ·simp only[aV,sJ]at hp8
     subst hp8
     obtain⟨C,z1,z2⟩:=gE.sl
     have km:∀c,In (b4+1) K.next c->In H.next K2.next c/\K2.get c=K.get c:=fun c hc=>by
      have c1:=hc.1
      have c2:=hc.2
      exact⟨⟨om,om⟩,by rw[kK c om,FK1.old c c2 om]⟩
     exact .inl ⟨_,w8,rfl,e8,h8,ok8,v,C,rfl,z1.mono km,z2.mono km⟩
    ·exact .inr ⟨e,rfl,e8⟩
   ·exact .inr ⟨e,rfl,rfl⟩
  have start:∃μ,((∃m out w8,μ=2*m+1/\0=out.length/\out.length+m<=f/\GE (b4+1) H7 bP out/\o5=.ok w8/\fy s w8/\d=d/\KH s (pE s m) SG d out w8=some r)∨∃e,μ=0/\r=.error e/\o5=.error e):=by
   rcases g5 with⟨w8,e8,h8,ok8,hp8⟩ | ⟨f',e8,h8⟩
   ·exact⟨_,.inl ⟨f,[],w8,rfl,rfl,by simp,GE.nil _ _,e8,ok8,rfl,hp8⟩⟩
   ·exact⟨_,.inr ⟨f',rfl,h8,e8⟩⟩
  obtain⟨μ0,start⟩:=start
  refine aG (fun μ (T:bG) K=>∃o d' v k,T 0=ae rb 10 0/\T 2=ae H.next 4 0/\T 4=ae b4 4 0/\aT K b4 [.int .u8 4,.str SG,.int .i64 0,v]/\GA (b4+1) K v k/\fA rb s K o d'/\d<=d'/\d'<=200/\Fp rb H3 K/\b4<K.next/\((∃m out w8,μ=2*m+1/\k=out.length/\out.length+m<=f/\GE (b4+1) K v out/\o=.ok w8/\fy s w8/\d'=d/\KH s (pE s m) SG d out w8=some r)∨∃e,μ=0/\r=.error e/\o=.error e)) μ0
   ⟨o5,d,bP,0,by simp only[sA,sB,seval],by simp only[sA,sB,seval],by simp only[sA,sB,seval],r7,(GE.nil _ _).ga,s7,Nat.le_refl _,hd,F37,om,start⟩ ?_
  rintro μ T K ⟨o,d',v,k,t0,t2,t4,rK,gK,sK,y1,y2,FK,ltK,hK⟩
  obtain⟨e,l,hr0,he⟩:=sK.cells
  have l7:am false 1 K (ae rb 10 7)=some (.int .i64 e):=ah hr0 rfl rfl
  have lv:am false 1 K (ae b4 4 3)=some v:=ah rK rfl rfl
  have ln:=gK.len
  have dead':∀f',o=.error f'->r=.error f'->e≠0:=fun f' ho _ q=>by
   obtain⟨w,hw⟩:=he.1 q
   rw[ho]at hw; simp at hw
  have hcase:(∃f',r=.error f'/\o=.error f')∨∃m out w8,μ=2*m+1/\o=.ok w8/\e=0/\fy s w8/\d'=d/\k=out.length/\out.length+m<=f/\GE (b4+1) K v out/\KH s (pE s m) SG d out w8=some r:=by
   rcases hK with⟨m,out,w8,h0,hk,hk2,gE,e8,ok8,h8,hp8⟩ | ⟨f',_,h1,h2⟩
   ·exact .inr ⟨m,out,w8,h0,e8,he.2 ⟨w8,e8⟩,ok8,h8,hk,hk2,gE,hp8⟩
   ·exact .inl ⟨f',h1,h2⟩
  rcases hcase with⟨f',hrf,rfl⟩ | ⟨m,out,w8,rfl,rfl,rfl,ok8,hd8,rfl,hk2,gE,hp8⟩
  ·have hne:=dead' f' rfl hrf
   simp only[sA,sB,seval,t0,t2,t4,aw,aB,fld0,l7,hne]
   refine (tail T K v k _ d' t0 t2 t4 rK gK sK y1 y2 FK ltK (.inr ⟨f',hrf,rfl⟩)).mono ?_
   rintro _ K' ⟨K2,p1,p2,p3,p4⟩
   simp only[sA,sB,seval,t0,t2,t4,p1,p2]
   exact bL _ _ _ _ (by simp only[sA,sB,seval,t2]; exact p3) p4
  simp only[sA,sB,seval,t0,t2,t4,aw,aB,fld0,l7]
  refine (aJ sK _).mono ?_
  rintro _ _ ⟨rfl,rfl⟩
  have hi8:gd (.ok w8) [41]=fq w8 [[41]]:=dP ok8 rfl
  rw[hi8]
  cases hs41:fq w8 [[41]] with
  | true=>
   rw[ML hs41]at hp8
   simp only[sA,sB,seval,t0,t2,t4]
   refine (tail T K v out.length _ d' t0 t2 t4 rK gK sK y1 y2 FK ltK (.inl ⟨out,gE,.inl ⟨w8,rfl,hd8,ok8,hp8⟩⟩)).mono ?_
   rintro _ K' ⟨K2,p1,p2,p3,p4⟩
   simp only[sA,sB,seval,t0,t2,t4,p1,p2]
   exact bL _ _ _ _ (by simp only[sA,sB,seval,t2]; exact p3) p4
  | false=>
  have rest:∀(T:bG) (K1:aa) (o9:Except gB Wd),T 0=ae rb 10 0->T 2=ae H.next 4 0->T 4=ae b4 4 0->fA rb s K1 o9 d'->Fp rb K K1->(Go s o9 d' d r fun w=>pE s m (.args SG out) d w) ->
    aq Tryz.prog aA 77 [ae rb 10 0] K1 fun u K2=>∃ys d9 o10 v' K3 K4,u=.agg ys/\tT ys/\am false 1 K1 (ae b4 4 3)=some v/\am false 1 K2 (ae b4 4 3)=some v/\am false 1 (K2.push (.cells ys 0 false)) (ae b4 4 3)=some v/\bJ 4 56 (K2.push (.cells ys 0 false)) v (jO K2 4)=some (v',K3)/\a8 1 K3 (ae b4 4 3) v'=some K4/\aT K4 b4 [.int .u8 4,.str SG,.int .i64 0,v']/\GA (b4+1) K4 v' (out.length+1)/\fA rb s K4 o10 d9/\d<=d9/\d9<=200/\Fp rb H3 K4/\b4<K4.next/\∃μ',μ'<2*m+1/\((∃m' out' w8,μ'=2*m'+1/\out.length+1=out'.length/\out'.length+m'<=f/\GE (b4+1) K4 v' out'/\o10=.ok w8/\fy s w8/\d9=d/\KH s (pE s m') SG d out' w8=some r)∨∃e,μ'=0/\r=.error e/\o10=.error e):=by
   intro T K1 o9 t0 t2 t4 s9 FK1 g9
   have eK1:=FK1.next
   have g9':(Go s o9 d' d r fun w=>fF (pE s (m-1) (.rule 5) d w) fun e w1=>KH s (pE s (m-1)) SG d (out++[e]) w1)/\((∃e,o9=.error e/\r=.error e)∨1<=m):=by
    rcases g9 with⟨w9,e9,h9,ok9,hp9⟩ | ⟨e,e9,h9⟩
    ·cases m with
     | zero=>simp[pE]at hp9
     | succ m=>exact⟨.inl ⟨w9,e9,h9,ok9,(Ke s m SG d w9 out).symm.trans hp9⟩,.inr om⟩
    ·exact⟨.inr ⟨e,e9,h9⟩,.inl ⟨e,e9,h9⟩⟩
   obtain⟨g9',hm1⟩:=g9'
   refine (HM dead (ih (m-1) om) s9 y1 y2 om g9').mono ?_
   rintro _ K2 ⟨ys,d9,o10,rfl,y4,y5,y6,s10,FK2,hy,hdd⟩
   have eK2:=FK2.next
   have FK12:=FK1.trans FK2
   have rK1:=rK.same (FK1.old b4 ltK om)
   have rK2:=rK.same (FK12.old b4 ltK om)
   have rKP:=rK2.same (H':=K2.push (.cells ys 0 false)) (aE om)
   have gE2:=gE.keep FK12.next fun c hc=>FK12.old c hc.2 (by have:=hc.1; omega)
   have hbv:eJ v (In (b4+1) K.next):=by
    obtain⟨C,_,q,_⟩:=gE
    exact q
   have bb:eJ v (b4≠·):=hbv.mono fun c hc=>by have:=hc.1; omega
   have brb:eJ v (rb≠·):=hbv.mono fun c hc=>by have:=hc.1; omega
   have o4:∀{K3:aa},(∀c,c<K2.next->eJ v (c≠·)->K3.get c=K2.get c)->∀c,c<H3.next->c≠rb->K3.get c=H3.get c:=fun q c h1 h2=>by
    have:=FK.next
    rw[q c om (hbv.mono fun x hx=>by have:=hx.1; omega),FK12.old c om h2,FK.old c h1 h2]
   by_cases hal:∃e w10,Go s o10 d9 d r (KH s (pE s (m-1)) SG d (out++[e]))/\XE (In K1.next K2.next) K2 e ys/\o10=.ok w10
   ·obtain⟨e2,w10,gy,xy,rfl⟩:=hal
    have hm:1<=m:=by
     rcases hm1 with⟨e,he,_⟩ | h
     ·exact absurd (hdd e he) (by simp)
     ·exact h
    rcases gy with⟨w10',e10,h10,ok10,hp10⟩ | ⟨e,e10,_⟩
    rotate_left
    ·simp at e10
    simp only[Except.ok.injEq]at e10
    subst e10
    obtain⟨v',K3,a3,G3,n3,k3⟩:=gE2.push xy om om (hbv.mono fun c hc=>by have:=hc.2; omega) om (bytes:=56) om om
    obtain⟨K4,m4,r4,n4,k4⟩:=cE (H:=K3) (rK2.same (k3 b4 om bb)) (n:=4) rfl (i:=3) om (x:=v') G3.ga.one (l':=[.int .u8 4,.str SG,.int .i64 0,v']) rfl
    have G4:=G3.keep (H':=K4) om fun c hc=>k4 c (by have:=hc.1; omega)
    have G4a:=G4.ga
    rw[lA,QU,QV]at G4a
    refine⟨ys,d9,_,v',K3,K4,rfl,y4,ah rK1 rfl rfl,ah rK2 rfl rfl,ah rKP rfl rfl,a3,m4,r4,G4a,s10.same (by rw[k4 rb om,k3 rb om brb]),y5,y6,⟨by have:=FK.next; omega,fun c h1 h2=>by rw[k4 c om,o4 k3 c h1 h2]⟩,om,2*(m-1)+1,om,.inl ⟨m-1,out++[e2],w10,rfl,by simp,by simp; omega,G4,rfl,ok10,h10,hp10⟩⟩
   ·obtain⟨e,hre,rfl⟩:∃e,r=.error e/\o10=.error e:=by
     rcases hy with⟨e2,gy,xy⟩ | h
     ·rcases gy with⟨w10,e10,h10,ok10,hp10⟩ | ⟨e,e10,h10⟩
      ·exact absurd ⟨e2,w10,.inl ⟨w10,e10,h10,ok10,hp10⟩,xy,e10⟩ hal
      ·exact⟨e,h10,e10⟩
     ·exact h
    have gA2:=gE2.ga
    obtain⟨v',K3,a3,G3,n3,k3⟩:=gA2.push y4 om om (bytes:=56) om om
    obtain⟨K4,m4,r4,n4,k4⟩:=cE (H:=K3) (rK2.same (k3 b4 om bb)) (n:=4) rfl (i:=3) om (x:=v') G3.one (l':=[.int .u8 4,.str SG,.int .i64 0,v']) rfl
    have G4:=G3.keep (H':=K4) om fun c hc=>k4 c (by have:=hc.1; omega)
    exact⟨ys,d9,_,v',K3,K4,rfl,y4,ah rK1 rfl rfl,ah rK2 rfl rfl,ah rKP rfl rfl,a3,m4,r4,G4,s10.same (by rw[k4 rb om,k3 rb om brb]),y5,y6,⟨by have:=FK.next; omega,fun c h1 h2=>by rw[k4 c om,o4 k3 c h1 h2]⟩,om,0,om,.inr ⟨e,rfl,hre,rfl⟩⟩
  have hv:=gK.aeq
  by_cases ho:out=[]
  ·have ho':¬(0:Int)<(out.length:Int):=by rw[ho]; simp
   simp only[sA,sB,seval,t0,t2,t4,aB,lv,ln,ho']
   refine cr rfl ?_
   simp only[sR,sA,sB,seval,t0,t2,t4,aB,lv]
   refine (rest T K _ t0 t2 t4 sK (Fp.refl _ _) (.inl ⟨w8,rfl,hd8,ok8,by rw[ho,BN,if_neg (by rw[hs41]; simp)]at hp8; rw[ho]; exact hp8⟩)).mono ?_
   rintro _ K2 ⟨ys,d9,o10,v',K3,K4,rfl,y4,z1,z2,z3,a3,m4,r4,G4,s4,w1,w2,F4,lt4,μ',hμ,hst⟩
   have bm:=jp (z:=[.int .u8 0,.str [],.int .i64 0,.slice none 0 (.known 0)]) (m:=4) K2 rfl y4.len
   simp only[sR,sA,sB,seval,t0,t2,t4,aB,bm,a3,m4]
   simp only[cw,cx,bR,cy,db,and_true,true_and,List.map_cons,List.map_nil,sA,sB,seval,t0,t2,t4,aB]
   exact⟨⟨⟨_,rfl,fun _=>⟨_,z2,hv⟩⟩,⟨_,rfl,fun _=>⟨_,z3,hv⟩⟩⟩,μ',hμ,o10,d9,v',out.length+1,r4,G4,s4,w1,w2,F4,lt4,hst⟩
  ·have ho':(0:Int)<(out.length:Int):=by have:=List.length_pos_iff.2 ho; omega
   rw[Kd hs41 ho]at hp8
   have g8:Go s (Except.ok w8) d' d r fun w=>dn (bE s [44] w) fun w2=>pE s m (.args SG out) d w2:=.inl ⟨w8,rfl,hd8,ok8,hp8⟩
   simp only[sA,sB,seval,t0,t2,t4,aB,lv,ln,ho']
   refine (dj sK om g8.en [44]).mono ?_
   rintro _ K1 ⟨s9,FK1⟩
   have g9:=g8.must rfl
   have lv1:am false 1 K1 (ae b4 4 3)=some v:=ah (rK.same (FK1.old b4 ltK om)) rfl rfl
   simp only[sA,sB,seval,t0,t2,t4]
   refine cr rfl ?_
   simp only[sR,sA,sB,seval,t0,t2,t4,aB,lv1]
   refine (rest T K1 _ t0 t2 t4 s9 FK1 g9).mono ?_
   rintro _ K2 ⟨ys,d9,o10,v',K3,K4,rfl,y4,z1,z2,z3,a3,m4,r4,G4,s4,w1,w2,F4,lt4,μ',hμ,hst⟩
   have bm:=jp (z:=[.int .u8 0,.str [],.int .i64 0,.slice none 0 (.known 0)]) (m:=4) K2 rfl y4.len
   simp only[sR,sA,sB,seval,t0,t2,t4,aB,bm,a3,m4]
   simp only[cw,cx,bR,cy,db,and_true,true_and,List.map_cons,List.map_nil,sA,sB,seval,t0,t2,t4,aB]
   exact⟨⟨⟨_,rfl,fun _=>⟨_,z2,hv⟩⟩,⟨_,rfl,fun _=>⟨_,z3,hv⟩⟩⟩,μ',hμ,o10,d9,v',out.length+1,r4,G4,s4,w1,w2,F4,lt4,hst⟩
 have c2':¬(w.k:Int)=2:=om
 rw[if_neg c2]at hr
 simp only[sA,sB,seval,c1',c2',fld0,f03]
 refine (aJ s3 _).mono ?_
 rintro _ _ ⟨rfl,rfl⟩
 have hi8:gd (.ok w) [40]=fq w [[40]]:=dP ok rfl
 rw[hi8]
 cases hs40:fq w [[40]] with
 | false=>
  rw[if_neg (by rw[hs40]; simp)]at hr
  simp only[jq,sJ]at hr
  subst hr
  simp only[sA,sB,seval]
  refine (i6 s3 (c:=101) om).mono ?_
  rintro _ H4 ⟨s4,F4,n4⟩
  obtain⟨H5,m5,l5,n5,k5,F5⟩:=dM F4 uR
  simp only[sA,sB,seval,b0,m5]
  refine bL _ _ _ _ (by simp only[sA,sB,seval]; exact l5) ?_
  exact⟨_,d,_,rfl,uR,Nat.le_refl _,hd,s4.same (k5 rb om),F5,.inr ⟨_,rfl,rfl⟩⟩
 | true=>
  rw[if_pos hs40]at hr
  have g0:Go s (Except.ok w) d d r fun w=>dn (bE s [40] w) fun w1=>fF (pE s f (.rule 5) d w1) fun e w2=>dn (bE s [41] w2) fun w3=>aV e w3:=.inl ⟨w,rfl,rfl,ok,by
   have e:bE s [40] w=bC s w:=by unfold bE; rw[if_pos hs40]
   dsimp only
   rw[e]; exact hr⟩
  simp only[sA,sB,seval]
  refine (nJ (ih f rL) s3 rL hd om g0).mono ?_
  rintro _ H4 ⟨ys,d4,o4,rfl,y4,y5,y6,s4,F4,hy⟩
  have e4:=F4.next
  obtain⟨H5,m5,l5,n5,k5,F5⟩:=dM F4 y4
  simp only[sA,sB,seval,m5]
  refine bL _ _ _ _ (by simp only[sA,sB,seval]; exact l5) ?_
  refine⟨_,d4,_,rfl,y4,y5,y6,s4.same (k5 rb om),F5,?_⟩
  rcases hy with⟨e,g,xy⟩ | ⟨e,rfl,rfl⟩
  case inr=>exact .inr ⟨e,rfl,rfl⟩
  rcases g with⟨w8,rfl,rfl,ok8,hp8⟩ | ⟨e,rfl,rfl⟩
  case inr=>exact .inr ⟨e,rfl,rfl⟩
  simp only[aV,sJ]at hp8
  subst hp8
  refine .inl ⟨e,w8,rfl,rfl,rfl,ok8,xy.mono fun c hc=>?_⟩
  have c1:=hc.1
  have c2:=hc.2
  exact⟨⟨om,om⟩,k5 c om⟩
structure QP(rb:Nat)(s:Bs)(f:Nat):Prop where
 rule:∀k,k<=5->ew rb s (IP k) fun d w=>pE s f (.rule k) d w
 prim:ew rb s 211 fun d w=>pE s f .prim d w
theorem Dn(rb:Nat)(s:Bs):∀(f:Nat),f<=1000000->∀f',f'<=f->QP rb s f'
 | 0,_,f',h=>by
  obtain rfl:f'=0:=om
  exact⟨fun k _ H w d r _ _ _ _ hr=>by simp[pE]at hr,fun H w d r _ _ _ _ hr=>by simp[pE]at hr⟩
 | f+1,hf,f',h=>by
  have ih:=Dn rb s f om
  by_cases he:f'<=f
  ·exact ih f' he
  obtain rfl:f'=f+1:=om
  refine⟨fun k hk=>?_,wx om fun f' h=>(ih f' h).rule 5 om⟩
  match k,hk with
  | 0,_=>exact AN ((ih f rL).rule 0 om) (ih f rL).prim
  | 1,_=>exact GG fun f' h=>(ih f' h).rule 0 om
  | 2,_=>exact GJ fun f' h=>(ih f' h).rule 1 om
  | 3,_=>exact GH fun f' h=>(ih f' h).rule 2 om
  | 4,_=>exact GI fun f' h=>(ih f' h).rule 3 om
  | 5,_=>exact Jw fun f' h=>(ih f' h).rule 4 om
open Go.Abs Go.Abs.S
structure MX(xs:List ab):Prop where
 len:xs.length=9
 one:xs.all ab.one=true
 aeq:aeqs xs xs=true
theorem jz{k:Int}{S:Bs}{xs:List ab}{vb ve:ab}{line:Int}(h:tT xs)(b1:vb.one=true)(b2:aeq vb vb=true)(e1:ve.one=true)(e2:aeq ve ve=true):MX (ee k S xs vb ve line):=by
 refine⟨by simp[ee,h.len],?_,?_⟩
 ·simp only[ee,List.all_cons,List.all_append,List.all_nil,h.one,b1,e1]; rfl
 ·simp only[ee,aeqs,jI,jH,Bool.true_and]
  exact tH h.aeq (by simp[aeqs,b2,e2,jI])
def Dt(rb:Nat)(s:Bs)(f:Nat):Prop:=∀(H:aa) (w:Wd) (d:Nat) (r:dt (List St)),fA rb s H (.ok w) d->fy s w->d<=200->rb<H.next->pS s f .stmt d w=some r ->
  aq Tryz.prog aA 34 [ae rb 10 0] H fun u H'=>∃xs d' o',u=.agg xs/\MX xs/\d<=d'/\d'<=200/\fA rb s H' o' d'/\Fp rb H H'/\((∃st w',r=.ok ([st],w')/\o'=.ok w'/\d'=d/\fy s w'/\XS (In H.next H'.next) H' st xs)∨∃e,r=.error e/\o'=.error e)
def GB(n:Nat)(H:aa)(v:ab)(k:Nat):Prop:=∃C,eI 9 0 H v C k/\eJ v (In n H.next)
theorem GS.ga{n:Nat}{H:aa}{v:ab}{l:List St}(h:GS n H v l):GB n H v l.length:=by
 obtain⟨C,h1,h2,_⟩:=h; exact⟨C,h1,h2⟩
theorem GB.one{n:Nat}{H:aa}{v:ab}{k:Nat}(h:GB n H v k):v.one=true:=by
 obtain⟨C,h1,_⟩:=h; exact h1.one
theorem GB.aeq{n:Nat}{H:aa}{v:ab}{k:Nat}(h:GB n H v k):aeq v v=true:=by
 obtain⟨C,h1,_⟩:=h
 rcases h1 with⟨rfl,_⟩ | ⟨b,low,rfl,_⟩
 ·exact tI
 ·exact zR _ _ _
theorem GB.push{n:Nat}{H:aa}{v:ab}{k:Nat}(h:GB n H v k){xs:List ab}(hx:MX xs)(hn:n<=H.next)(hk:k<=1000000){bytes:Nat}(hb1:0<bytes)(hb2:bytes<=1000) :
  ∃v' H',bJ 9 bytes (H.push (.cells xs 0 false)) v (jO H 9)=some (v',H')/\GB n H' v' (k+1)/\H.next<=H'.next/\∀c,c<H.next->eJ v (c≠·)->H'.get c=H.get c:=by
 obtain⟨C,h1,h2⟩:=h
 have hb:2*(k+1)*bytes<=281474976710656:=by
  have:2*(k+1)*bytes<=2*(1000000+1)*1000:=Nat.mul_le_mul om hb2
  omega
 obtain⟨v',H',a1,a2,a3,a4,a5⟩:=h1.pushB hx.len hx.one om hb hb1
 refine⟨v',H',a1,⟨C++xs,a2,fun a j r e=>?_⟩,a3,a5⟩
 refine⟨?_,a2.blk' a j r e⟩
 rcases (a4 _ h2) a j r e with hb | hb
 ·exact hb.1
 ·omega
theorem Ec{rb:Nat}{s:Bs}{n d d':Nat}{H K:aa}{v:ab}{out:List St}{xs:List ab}{β:Type}{r0:dt (List St)}{o':Except gB Wd}{r:dt β}{k:List St->Wd->Option (dt β)}(hG:GS n H v out)(hn:n<=H.next)(hrb:rb<n)(hlen:out.length<=1000000)(F:Fp rb H K)(hx:MX xs)
  (h:(∃st w',r0=.ok ([st],w')/\o'=.ok w'/\d'=d/\fy s w'/\XS (In H.next K.next) K st xs)∨∃e,r0=.error e/\o'=.error e) (hr:fF (some r0) k=some r) :
  ∃v' K',bJ 9 136 (K.push (.cells xs 0 false)) v (jO K 9)=some (v',K')/\GB n K' v' (out.length+1)/\K.next<=K'.next/\(∀c,c<K.next->(In n H.next c->False)->K'.get c=K.get c)/\((∃st w',o'=.ok w'/\d'=d/\fy s w'/\k [st] w'=some r/\GS n K' v' (out++[st]))∨∃e,r=.error e/\o'=.error e):=by
 have fn:=F.next
 have hbv:eJ v (In n H.next):=by
  obtain⟨C,_,q,_⟩:=hG
  exact q
 have GK:=hG.keep fn fun c hc=>F.old c hc.2 (by have:=hc.1; omega)
 have nb:∀c,(In n H.next c->False)->eJ v (c≠·):=fun c hc=>hbv.mono fun b hb e=>hc (e ▸ hb)
 rcases h with⟨st,w',rfl,rfl,h2,h3,h4⟩ | ⟨e,rfl,rfl⟩
 ·obtain⟨v',K',a1,a2,a3,a4⟩:=GK.push h4 hn om (hbv.mono fun c hc=>hc.2) om (bytes:=136) om om
  have ag:=a2.ga
  rw[lA,QU,QV]at ag
  exact⟨v',K',a1,ag,a3,fun c h1 h2=>a4 c h1 (nb c h2),.inl ⟨st,w',rfl,h2,h3,hr,a2⟩⟩
 ·obtain⟨v',K',a1,a2,a3,a4⟩:=GK.ga.push hx om om (bytes:=136) om om
  simp only[fF,sJ]at hr
  subst hr
  exact⟨v',K',a1,a2,a3,fun c h1 h2=>a4 c h1 (nb c h2),.inr ⟨e,rfl,rfl⟩⟩
theorem nL{β:Type}{rb:Nat}{s:Bs}{f:Nat}(hf:f<=1000000)(live:∀f',f'<f->Dt rb s f'){H:aa}{o:Except gB Wd}{d' d:Nat}{r:dt β}{k:List St->Wd->Option (dt β)}(hs:fA rb s H o d')(h1:d<=d')(h2:d'<=200)(hrb:rb<H.next)(h:Go s o d' d r fun w=>fF (pS s f .body d w) k) :
  aq Tryz.prog aA 79 [ae rb 10 0] H fun v H'=>∃d2 o2,v.one=true/\aeq v v=true/\d<=d2/\d2<=200/\fA rb s H' o2 d2/\Fp rb H H'/\((∃l C,Go s o2 d2 d r (k l)/\eX (In H.next H'.next) H' 9 v l.length C/\gc (In H.next H'.next) H' l C)∨∃e,r=.error e/\o2=.error e):=by
 refine af rfl PL rfl ?_
 have h':Go s o d' d r fun w=>dn (bE s [123] w) fun w1=>fF (pS s (f-1) (.more []) d w1) k:=by
  rcases h with⟨w,rfl,hd,ok,hk⟩ | h
  ·cases f with
   | zero=>simp[pS,fF]at hk
   | succ f=>
    refine .inl ⟨w,rfl,hd,ok,?_⟩
    rw[iM]at hk
    simp only[ic]at hk
    simp only[Nat.add_one_sub_one]
    cases ht:bE s [123] w with
    | error e=>rw[ht]at hk; exact hk
    | ok w1=>rw[ht]at hk; exact hk
  ·exact .inr h
 simp only[c79,sA,sB,seval]
 refine (dj hs hrb h'.en [123]).mono ?_
 rintro _ H1 ⟨s1,F1⟩
 have e1:=F1.next
 have g1:=h'.must rfl
 generalize oQ s o [123]=o1 at *
 simp only[sA,sB,seval]
 have tail:∀(K:aa) (v:ab) (n:Nat) (o:Except gB Wd) (d':Nat),GB H.next K v n->fA rb s K o d'->d<=d'->d'<=200->Fp rb H K ->
   ((∃out,GS H.next K v out/\Go s o d' d r fun w=>dn (bE s [125] w) fun w2=>k out w2)∨∃e,r=.error e/\o=.error e) ->
   aq Tryz.prog aA 76 [ae rb 10 0,.str [125]] K fun _ H'=>∃d2 o2,v.one=true/\aeq v v=true/\d<=d2/\d2<=200/\fA rb s H' o2 d2/\Fp rb H H'/\((∃l C,Go s o2 d2 d r (k l)/\eX (In H.next H'.next) H' 9 v l.length C/\gc (In H.next H'.next) H' l C)∨∃e,r=.error e/\o2=.error e):=by
  intro K v n o d' gK sK y1 y2 FK hK
  have hen:∀w,o=.ok w->w.en<=1000000:=by
   rcases hK with⟨e,_,g⟩ | ⟨e,_,rfl⟩
   ·exact g.en
   ·intro w hw; simp at hw
  refine (dj sK (by have:=FK.next; omega) hen [125]).mono ?_
  rintro _ K1 ⟨sK1,FK1⟩
  refine⟨d',_,gK.one,gK.aeq,y1,y2,sK1,FK.trans FK1,?_⟩
  rcases hK with⟨out,gE,g⟩ | ⟨e,rfl,rfl⟩
  ·have gE1:=gE.keep FK1.next fun c hc=>FK1.old c hc.2 (by have:=hc.1; omega)
   obtain⟨C,z1,z2⟩:=gE1.sl
   exact .inl ⟨out,C,g.must rfl,z1,z2⟩
  ·exact .inr ⟨e,rfl,rfl⟩
 have start:∃μ,((∃m out w8,μ=2*m+1/\0=out.length/\out.length+m<=f/\GS H.next H1 bP out/\o1=.ok w8/\fy s w8/\d'=d/\fF (pS s m (.more out) d w8) k=some r)∨∃e,μ=0/\r=.error e/\o1=.error e):=by
  rcases g1 with⟨w8,e8,h8,ok8,hp8⟩ | ⟨f',e8,h8⟩
  ·exact⟨_,.inl ⟨f-1,[],w8,rfl,rfl,by simp,GS.nil _ _,e8,ok8,h8,hp8⟩⟩
  ·exact⟨_,.inr ⟨f',rfl,h8,e8⟩⟩
 obtain⟨μ0,start⟩:=start
 refine aG (fun μ (T:bG) K=>∃o d' v n,T 0=ae rb 10 0/\T 3=v/\GB H.next K v n/\fA rb s K o d'/\d<=d'/\d'<=200/\Fp rb H K/\((∃m out w8,μ=2*m+1/\n=out.length/\out.length+m<=f/\GS H.next K v out/\o=.ok w8/\fy s w8/\d'=d/\fF (pS s m (.more out) d w8) k=some r)∨∃e,μ=0/\r=.error e/\o=.error e)) μ0
  ⟨o1,d',bP,0,by simp only[sA,sB,seval],by simp only[sA,sB,seval]; rfl,(GS.nil _ _).ga,s1,h1,h2,F1,start⟩ ?_
 rintro μ T K ⟨o,d',v,n,t0,t3,gK,sK,y1,y2,FK,hK⟩
 have eK:=FK.next
 obtain⟨e,l,hr0,he⟩:=sK.cells
 have l7:am false 1 K (ae rb 10 7)=some (.int .i64 e):=ah hr0 rfl rfl
 rcases hK with⟨m,out,w8,rfl,rfl,hm,gE,rfl,ok8,hd8,hp8⟩ | ⟨f',rfl,hrf,rfl⟩
 rotate_left
 ·have hne:e≠0:=fun q=>by obtain⟨w,hw⟩:=he.1 q; simp at hw
  simp only[sA,sB,seval,t0,t3,aw,aB,fld0,l7,hne]
  refine (tail K v n _ d' gK sK y1 y2 FK (.inr ⟨f',hrf,rfl⟩)).mono ?_
  rintro _ K' q
  simp only[sA,sB,seval,t3]
  exact q
 obtain rfl:=he.2 ⟨w8,rfl⟩
 cases m with
 | zero=>simp[pS,fF]at hp8
 | succ m=>
 rw[iM]at hp8
 simp only[ic]at hp8
 simp only[sA,sB,seval,t0,t3,aw,aB,fld0,l7]
 refine (aJ sK _).mono ?_
 rintro _ _ ⟨rfl,rfl⟩
 have hi8:gd (.ok w8) [125]=fq w8 [[125]]:=dP ok8 rfl
 rw[hi8]
 cases hs41:fq w8 [[125]] with
 | true=>
  rw[if_pos hs41]at hp8
  have hq:dn (bE s [125] w8) (fun w2=>k out w2)=some r:=by
   unfold bE; rw[if_pos hs41]
   cases hst:bC s w8 with
   | error e=>rw[hst]at hp8; exact hp8
   | ok w1=>rw[hst]at hp8; exact hp8
  simp only[sA,sB,seval,t0,t3]
  refine (tail K v out.length _ d' gK sK y1 y2 FK (.inl ⟨out,gE,.inl ⟨w8,rfl,hd8,ok8,hq⟩⟩)).mono ?_
  rintro _ K' q
  simp only[sA,sB,seval,t3]
  exact q
 | false=>
 rw[if_neg (by rw[hs41]; simp)]at hp8
 obtain⟨r0,hr0⟩:∃r0,pS s m .stmt d w8=some r0:=by
  cases hq:pS s m .stmt d w8 with
  | none=>rw[hq]at hp8; simp[fF]at hp8
  | some r=>exact⟨r,rfl⟩
 rw[hr0]at hp8
 have hp9:fF (some r0) (fun x w1=>fF (pS s m (.more (out++x)) d w1) k)=some r:=by
  cases r0 with
  | error e=>exact hp8
  | ok p=>obtain⟨x,w1⟩:=p; exact hp8
 subst hd8
 simp only[sA,sB,seval,t0,t3]
 refine (live m om K w8 d' r0 sK ok8 y2 om hr0).mono ?_
 rintro _ K1 ⟨xs,d1,o1,rfl,x9,z1,z2,sK1,FK1,hx⟩
 have eK1:=FK1.next
 have bm:=jp (z:=[.int .u8 0,.str [],.int .u8 0,.str [],.int .i64 0,.slice none 0 (.known 0),.slice none 0 (.known 0),.slice none 0 (.known 0),.int .i64 0]) (xs:=xs) (m:=9) K1 rfl x9.len
 obtain⟨v',K2,a2,G2,n2,k2,hst⟩:=Ec (n:=H.next) gE om hrb om FK1 x9 hx hp9
 simp only[sA,sB,seval,t0,t3,bm,a2]
 have c1:∀c,c<H.next->c≠rb->K2.get c=H.get c:=fun c h1 h2=>by
  rw[k2 c om (fun q=>by have:=q.1; omega),FK1.old c om h2,FK.old c h1 h2]
 have s2:=sK1.same (k2 rb om fun q=>by have:=q.1; omega)
 rcases hst with⟨st,w9,rfl,q2,ok9,hp10,G9⟩ | ⟨e,rfl,rfl⟩
 ·exact⟨2*m+1,om,_,d1,v',out.length+1,by simp only[sA,sB,seval,t0],by simp only[sA,sB,seval],G2,s2,z1,z2,⟨om,c1⟩,.inl ⟨m,out++[st],w9,rfl,by simp,by simp; omega,G9,rfl,ok9,q2,hp10⟩⟩
 ·exact⟨0,om,_,d1,v',out.length+1,by simp only[sA,sB,seval,t0],by simp only[sA,sB,seval],G2,s2,z1,z2,⟨om,c1⟩,.inr ⟨e,rfl,rfl,rfl⟩⟩
open Go.Abs Go.Abs.S
theorem Go.name{β:Type}{s:Bs}{o:Except gB Wd}{d' d:Nat}{r:dt β}{K:Bs->Wd->Option (dt β)}(h:Go s o d' d r fun w=>if w.k=2 then dn (bC s w) (K w.S) else jq 101 w):Go s (sw s o) d' d r (K (if (oW o).k=2 then (oW o).S else [])):=by
 rcases h with⟨w,rfl,hd,ok,hk⟩ | ⟨e,rfl,rfl⟩
 ·dsimp only at hk
  unfold sw
  by_cases h2:w.k=2
  ·rw[if_pos h2]at hk
   have h2':(oW (.ok w)).k=2:=h2
   rw[if_pos h2',if_pos h2']
   rcases cJ hk with⟨e,he,rfl⟩ | ⟨w1,he,hk⟩
   ·exact .inr ⟨e,he,rfl⟩
   ·exact .inl ⟨w1,he,hd,(il he).1,hk⟩
  ·rw[if_neg h2]at hk
   have h2':¬(oW (.ok w)).k=2:=h2
   rw[if_neg h2']
   simp only[jq,sJ]at hk
   exact .inr ⟨_,rfl,hk.symm⟩
 ·refine .inr ⟨e,?_,rfl⟩
  unfold sw
  rw[if_neg (by simp[oW])]; rfl
theorem Mu(n:Int):bB [.int .u8 0,.str [],.int .u8 0,.str [],.int .i64 0,.slice none 0 (.known 0),.slice none 0 (.known 0),.slice none 0 (.known 0),.int .i64 0] [(8,1,.int .i64 n)]=some (.agg (ee 0 [] Zx bP bP n)):=_root_.id rfl
theorem uS{H:aa}{b:Nat}{k k':Int}{S:Bs}{xs:List ab}{vb ve:ab}{line:Int}(h:aT H b (ee k S xs vb ve line))(hx:xs.length=4):∃H',a8 1 H (ae b 9 0) (.int .u8 k')=some H'/\aT H' b (ee k' S xs vb ve line)/\H'.next=H.next/\∀c,c≠b->H'.get c=H.get c:=
 cE h (n:=9) (by simp[ee,hx]) (i:=0) om rfl rfl
theorem KP{H:aa}{b:Nat}{k:Int}{S S':Bs}{xs:List ab}{vb ve:ab}{line:Int}(h:aT H b (ee k S xs vb ve line))(hx:xs.length=4):∃H',a8 1 H (ae b 9 1) (.str S')=some H'/\aT H' b (ee k S' xs vb ve line)/\H'.next=H.next/\∀c,c≠b->H'.get c=H.get c:=
 cE h (n:=9) (by simp[ee,hx]) (i:=1) om rfl rfl
theorem yn{H:aa}{b:Nat}{k:Int}{S:Bs}{xs ys:List ab}{vb ve:ab}{line:Int}(h:aT H b (ee k S xs vb ve line))(hx:xs.length=4)(hy:tT ys):∃H',a8 4 H (ae b 9 2) (.agg ys)=some H'/\aT H' b (ee k S ys vb ve line)/\H'.next=H.next/\∀c,c≠b->H'.get c=H.get c:=by
 obtain⟨a,b',c,d,rfl⟩:∃a b c d,xs=[a,b,c,d]:=by
  match xs,hx with
  | [a,b,c,d],_=>exact⟨a,b,c,d,rfl⟩
 exact gn h (n:=9) rfl (i:=2) (k:=4) om hy.len hy.one rfl
theorem KO{H:aa}{b:Nat}{k:Int}{S:Bs}{xs:List ab}{vb ve v:ab}{line:Int}(h:aT H b (ee k S xs vb ve line))(hx:xs.length=4)(hv:v.one=true):∃H',a8 1 H (ae b 9 6) v=some H'/\aT H' b (ee k S xs v ve line)/\H'.next=H.next/\∀c,c≠b->H'.get c=H.get c:=by
 obtain⟨a,b',c,d,rfl⟩:∃a b c d,xs=[a,b,c,d]:=by
  match xs,hx with
  | [a,b,c,d],_=>exact⟨a,b,c,d,rfl⟩
 exact cE h (n:=9) rfl (i:=6) om hv rfl
theorem Ok{H:aa}{b:Nat}{k:Int}{S:Bs}{xs:List ab}{vb ve v:ab}{line:Int}(h:aT H b (ee k S xs vb ve line))(hx:xs.length=4)(hv:v.one=true):∃H',a8 1 H (ae b 9 7) v=some H'/\aT H' b (ee k S xs vb v line)/\H'.next=H.next/\∀c,c≠b->H'.get c=H.get c:=by
 obtain⟨a,b',c,d,rfl⟩:∃a b c d,xs=[a,b,c,d]:=by
  match xs,hx with
  | [a,b,c,d],_=>exact⟨a,b,c,d,rfl⟩
 exact cE h (n:=9) rfl (i:=7) om hv rfl
structure wZ(rb b3:Nat)(H H':aa):Prop where
 next:H.next<=H'.next
 old:∀c,c<H.next->c≠rb->c≠b3->H'.get c=H.get c
theorem wZ.fp{rb b3:Nat}{H H' H2:aa}(f:wZ rb b3 H H')(g:Fp rb H' H2):wZ rb b3 H H2:=⟨Nat.le_trans f.next g.next,fun c h1 h2 h3=>by rw[g.old c (Q4 h1 f.next) h2,f.old c h1 h2 h3]⟩
theorem Ei{rb:Nat}{s:Bs}{f:Nat}(hf:f<=1000000)(le:ew rb s 77 fun d w=>pE s f (.rule 5) d w)(ls:∀f',f'<f->Dt rb s f'):Dt rb s (f+1):=by
 intro H w d r hsA ok hd hrb hr
 have dead:gz rb s 77:=ip rb s 5 om
 refine af rfl Qa rfl ?_
 rw[iM]at hr
 simp only[ic]at hr
 obtain⟨H1,m1,r1,n1,k1⟩:=au H [.int .u8 0,.str [],.int .u8 0,.str [],.int .i64 0,.slice none 0 (.known 0),.slice none 0 (.known 0),.slice none 0 (.known 0),.int .i64 0] (n:=9) rfl
 obtain⟨H2,m2,r2,n2,k2⟩:=au H1 [.int .u8 0,.str [],.int .u8 0,.str [],.int .i64 0,.slice none 0 (.known 0),.slice none 0 (.known 0),.slice none 0 (.known 0),.int .i64 0] (n:=9) rfl
 obtain⟨L,hL⟩:∃L,L=w.line:=⟨_,rfl⟩
 rw[<- hL]at hr
 obtain⟨H3,m3,r3,n3,k3⟩:=aj r2 (n:=9) rfl (xs:=ee 0 [] Zx bP bP (L:Int)) rfl rfl
 have ll:am false 1 H1 (ae rb 10 4)=some (.int .i64 (L:Int)):=by
  rw[hL]; exact ah (show aT H1 rb (gL s w 0 0 d) from hsA.same (k1 rb om)) rfl rfl
 have k30:∀c,c<H.next->H3.get c=H.get c:=fun c hc=>by rw[k3 c om,k2 c om,k1 c om]
 have bl:=Mu (L:Int)
 simp only[c34,sW,sL,iZ,iI,nf,sB,seval,m1,aw,aB,ll,bl,m2,m3]
 obtain⟨b3,hb3⟩:∃b3,b3=H1.next:=⟨_,rfl⟩
 rw[<- hb3]at r2 k2 m3 r3 k3
 rw[<- hb3]
 refine (lG (hsA.same (k30 rb om)) hd).mono ?_
 rintro _ H4 ⟨⟨b,rfl,⟨rfl,hlt,_,h3⟩ | ⟨rfl,d',h1,h2,hge,h3⟩⟩,F4,n4⟩
 rotate_left
 ·have hg:=hge ⟨w,rfl⟩
  rw[if_pos hg]at hr
  simp only[jq,sJ]at hr
  subst hr
  have l3:=al (r3.same (F4.old b3 om om)) (n:=9) rfl
  have x9:MX (ee 0 [] Zx bP bP (L:Int)):=jz uR rfl rfl rfl rfl
  obtain⟨H5,m5,r5,n5,k5⟩:=aj (H:=H4) (b:=H.next) (r1.same (by rw[F4.old _ om om,k3 _ om,k2 _ om])) (n:=9) rfl x9.len x9.one
  simp only[sW,sL,iZ,iI,nf,sB,seval,l3,m5]
  refine bL _ _ _ _ (v:=.agg (ee 0 [] Zx bP bP (L:Int))) (by simp only[sA,sB,seval]; exact al r5 x9.len) ?_
  exact⟨_,d',_,rfl,x9,h1,h2,h3.same (k5 rb om),⟨om,fun c hc hp=>by rw[k5 c om,F4.old c om hp,k30 c hc]⟩,.inr ⟨_,rfl,rfl⟩⟩
 rw[if_neg om]at hr
 have F04:Fp rb H H4:=⟨om,fun c hc hp=>by rw[F4.old c om hp,k30 c hc]⟩
 have o3:aT H4 b3 (ee 0 [] Zx bP bP (L:Int)):=r3.same (F4.old b3 om om)
 have q1:aT H4 H.next _:=r1.same (by rw[F4.old _ om om,k3 _ om,k2 _ om])
 obtain⟨D,hD⟩:∃D,D=d+1:=⟨_,rfl⟩
 rw[<- hD]at h3 hr
 simp only[sW,sL,iZ,iI,nf,sB,seval]
 rw[dS]
 refine fu (fun (T:bG) H'=>T 0=ae rb 10 0/\T 2=ae H.next 9 0/\T 3=ae b3 9 0/\∃xs o' d',aT H' b3 xs/\MX xs/\fA rb s H' o' d'/\D<=d'/\d'<=200/\wZ rb b3 H4 H'/\((∃st w',r=.ok ([st],w')/\o'=.ok w'/\d'=D/\fy s w'/\XS (In H4.next H'.next) H' st xs)∨∃e,r=.error e/\o'=.error e)) (bH _ _) ?_ ?_
 rotate_left
 ·rintro T H5 ⟨t0,t2,t3,xs,o',d',rx,x9,s5,y1,y2,F5,hx⟩
  have e5:=F5.next
  have F5o:∀c,c<H4.next->c≠rb->c≠b3->H5.get c=H4.get c:=F5.old
  obtain⟨d6,rfl⟩:∃d6,d'=d6+1:=⟨d'-1,om⟩
  obtain⟨z1,z2,H6,m6,s6,n6,k6⟩:=s5.deep om
  have l6:=al (rx.same (k6 b3 om)) x9.len
  obtain⟨H7,m7,r7,n7,k7⟩:=aj (H:=H6) (b:=H.next) (q1.same (by rw[k6 _ om,F5o _ om om om])) (n:=9) rfl x9.len x9.one
  simp only[sA,sB,seval,t0,t2,t3,aw,aB,z1,z2,m6,l6,m7]
  refine bL _ _ _ _ (v:=.agg xs) (by simp only[sA,sB,seval,t2]; exact al r7 x9.len) ?_
  refine⟨xs,d6,o',rfl,x9,om,om,s6.same (k7 rb om),⟨om,fun c hc hp=>by rw[k7 c om,k6 c hp,F5o c om hp om,F04.old c hc hp]⟩,?_⟩
  refine hx.imp (fun ⟨st,w',a,b,c,g,h⟩=>⟨st,w',a,b,om,g,h.mono fun c hc=>?_⟩) fun q=>q
  have c1:=hc.1
  have c2:=hc.2
  exact⟨⟨om,om⟩,by rw[k7 c om,k6 c om]⟩
 have okz:tT Zx:=uR
 have iskw:∀t:Bs,t∉eO->gd (.ok w) t=j6 w t:=fun t ht=>wA ok ht
 simp only[sA,sB,seval]
 refine (aJ h3 [108,101,116]).mono ?_
 rintro _ _ ⟨rfl,rfl⟩
 rw[iskw [108,101,116] dD]
 have kset:j6 w [108,101,116]=true->j6 w [115,101,116]=false:=fun q=>by
  simp only[j6,QT,Q2]at q
  simp[j6,q.2]
 cases ca:j6 w [108,101,116] with
 | true=>
  rw[if_pos ca]at hr
  simp only[sA,sB,seval]
  obtain⟨H5,m5,o5,n5,k5⟩:=uS (k':=1) o3 rfl
  have s5:=h3.same (k5 rb om)
  simp only[sA,sB,seval,fld0,m5]
  refine (aJ s5 [115,101,116]).mono ?_
  rintro _ _ ⟨rfl,rfl⟩
  rw[iskw [115,101,116] dD,kset ca]
  have F5:wZ rb b3 H4 H5:=⟨om,fun c _ _ h=>k5 c h⟩
  simp only[sA,sB,seval]
  have g0:Go s (Except.ok w) D D r fun w=>dn (bC s w) fun w1=>if w1.k=2 then dn (bC s w1) ((fun S w1=>dn (bE s [61] w1) fun w2=>fF (pE s f (.rule 5) D w2) fun e w3=>dn (bE s [59] w3) fun w4=>aV [.mk 1 S e [] [] L] w4) w1.S) else jq 101 w1:=.inl ⟨w,rfl,rfl,ok,hr⟩
  have e5:=F5.next
  refine (bO s5 om g0.en).mono ?_
  rintro _ H6 ⟨s6,F6⟩
  have e6:=F6.next
  have g6:=g0.take
  generalize kV s (Except.ok w)=u6 at *
  simp only[sA,sB,seval]
  refine (rY s6 om g6.en).mono ?_
  rintro _ H7 ⟨rfl,s7,F7⟩
  have e7:=F7.next
  have g7:=Go.name (K:=fun (S:Bs) w1=>dn (bE s [61] w1) fun w2=>fF (pE s f (.rule 5) D w2) fun e w3=>dn (bE s [59] w3) fun w4=>aV [St.mk 1 S e [] [] (L:Int)] w4) g6
  generalize (if (oW u6).k=2 then (oW u6).S else [])=SN at *
  generalize sw s u6=u7 at *
  obtain⟨H8,m8,o8,n8,k8⟩:=KP (S':=SN) (o5.same (H':=H7) (by rw[F7.old _ om om,F6.old _ om om])) rfl
  have s8:=s7.same (k8 rb om)
  have F8:wZ rb b3 H4 H8:=⟨om,fun c h1 h2 h3=>by rw[k8 c h3,F7.old c om h2,F6.old c om h2,F5.old c h1 h2 h3]⟩
  simp only[sA,sB,seval,aB,m8]
  refine (dj s8 om g7.en [61]).mono ?_
  rintro _ H9 ⟨s9,F9⟩
  have e9:=F9.next
  have g9:=g7.must rfl
  generalize oQ s u7 [61]=u9 at *
  simp only[sA,sB,seval]
  refine (iA dead le s9 rL om om g9).mono ?_
  rintro _ Ha ⟨xs,da,ua,rfl,x4,y1,y2,sa,Fa,hx⟩
  have ea:=Fa.next
  obtain⟨Hb,mb,ob,nb,kb⟩:=yn (o8.same (H':=Ha) (by rw[Fa.old _ om om,F9.old _ om om])) rfl x4
  have sb:=sa.same (kb rb om)
  have hen:∀w,ua=.ok w->w.en<=1000000:=by
   rcases hx with⟨e,g,_⟩ | ⟨e,_,rfl⟩
   ·exact g.en
   ·intro w hw; simp at hw
  have Fb:wZ rb b3 H4 Hb:=⟨om,fun c h1 h2 h3=>by rw[kb c h3,Fa.old c om h2,F9.old c om h2,F8.old c h1 h2 h3]⟩
  simp only[sA,sB,seval,aB,mb]
  refine (dj sb om hen [59]).mono ?_
  rintro _ Hc ⟨sc,Fc⟩
  have ec:=Fc.next
  simp only[sA,sB,seval]
  refine⟨tt,tt,tt,_,_,da,ob.same (Fc.old b3 om om),jz x4 rfl rfl rfl rfl,sc,y1,y2,Fb.fp Fc,?_⟩
  rcases hx with⟨e,g,xe⟩ | ⟨e,rfl,rfl⟩
  case inr=>exact .inr ⟨e,rfl,rfl⟩
  rcases g.must rfl with⟨wc,ec',hdc,okc,hpc⟩ | ⟨e,ec',hrc⟩
  case inr=>exact .inr ⟨e,hrc,ec'⟩
  simp only[aV,sJ]at hpc
  subst hpc
  refine .inl ⟨_,wc,rfl,ec',hdc,okc,iC (xe.mono fun c hc=>?_) (.nil _ _ _) rfl (.nil _ _ _) rfl⟩
  have c1:=hc.1
  have c2:=hc.2
  exact⟨⟨om,om⟩,by rw[Fc.old c om om,kb c om]⟩
 | false=>
 rw[if_neg (by rw[ca]; simp)]at hr
 simp only[sA,sB,seval]
 refine (aJ h3 [115,101,116]).mono ?_
 rintro _ _ ⟨rfl,rfl⟩
 rw[iskw [115,101,116] dD]
 cases cb:j6 w [115,101,116] with
 | true=>
  rw[if_pos cb]at hr
  simp only[sA,sB,seval]
  obtain⟨H5,m5,o5,n5,k5⟩:=uS (k':=1) o3 rfl
  have s5:=h3.same (k5 rb om)
  simp only[sA,sB,seval,fld0,m5]
  refine (aJ s5 [115,101,116]).mono ?_
  rintro _ _ ⟨rfl,rfl⟩
  rw[iskw [115,101,116] dD,cb]
  obtain⟨H5b,m5b,o5b,n5b,k5b⟩:=uS (k':=2) o5 rfl
  have s5b:=s5.same (k5b rb om)
  simp only[sA,sB,seval,fld0,m5b]
  have F5:wZ rb b3 H4 H5b:=⟨om,fun c _ _ h=>by rw[k5b c h,k5 c h]⟩
  have g0:Go s (Except.ok w) D D r fun w=>dn (bC s w) fun w1=>if w1.k=2 then dn (bC s w1) ((fun S w1=>dn (bE s [61] w1) fun w2=>fF (pE s f (.rule 5) D w2) fun e w3=>dn (bE s [59] w3) fun w4=>aV [.mk 2 S e [] [] L] w4) w1.S) else jq 101 w1:=.inl ⟨w,rfl,rfl,ok,hr⟩
  have e5:=F5.next
  refine (bO s5b om g0.en).mono ?_
  rintro _ H6 ⟨s6,F6⟩
  have e6:=F6.next
  have g6:=g0.take
  generalize kV s (Except.ok w)=u6 at *
  simp only[sA,sB,seval]
  refine (rY s6 om g6.en).mono ?_
  rintro _ H7 ⟨rfl,s7,F7⟩
  have e7:=F7.next
  have g7:=Go.name (K:=fun (S:Bs) w1=>dn (bE s [61] w1) fun w2=>fF (pE s f (.rule 5) D w2) fun e w3=>dn (bE s [59] w3) fun w4=>aV [St.mk 2 S e [] [] (L:Int)] w4) g6
  generalize (if (oW u6).k=2 then (oW u6).S else [])=SN at *
  generalize sw s u6=u7 at *
  obtain⟨H8,m8,o8,n8,k8⟩:=KP (S':=SN) (o5b.same (H':=H7) (by rw[F7.old _ om om,F6.old _ om om])) rfl
  have s8:=s7.same (k8 rb om)
  have F8:wZ rb b3 H4 H8:=⟨om,fun c h1 h2 h3=>by rw[k8 c h3,F7.old c om h2,F6.old c om h2,F5.old c h1 h2 h3]⟩
  simp only[sA,sB,seval,aB,m8]
  refine (dj s8 om g7.en [61]).mono ?_
  rintro _ H9 ⟨s9,F9⟩
  have e9:=F9.next
  have g9:=g7.must rfl
  generalize oQ s u7 [61]=u9 at *
  simp only[sA,sB,seval]
  refine (iA dead le s9 rL om om g9).mono ?_
  rintro _ Ha ⟨xs,da,ua,rfl,x4,y1,y2,sa,Fa,hx⟩
  have ea:=Fa.next
  obtain⟨Hb,mb,ob,nb,kb⟩:=yn (o8.same (H':=Ha) (by rw[Fa.old _ om om,F9.old _ om om])) rfl x4
  have sb:=sa.same (kb rb om)
  have hen:∀w,ua=.ok w->w.en<=1000000:=by
   rcases hx with⟨e,g,_⟩ | ⟨e,_,rfl⟩
   ·exact g.en
   ·intro w hw; simp at hw
  have Fb:wZ rb b3 H4 Hb:=⟨om,fun c h1 h2 h3=>by rw[kb c h3,Fa.old c om h2,F9.old c om h2,F8.old c h1 h2 h3]⟩
  simp only[sA,sB,seval,aB,mb]
  refine (dj sb om hen [59]).mono ?_
  rintro _ Hc ⟨sc,Fc⟩
  have ec:=Fc.next
  simp only[sA,sB,seval]
  refine⟨tt,tt,tt,_,_,da,ob.same (Fc.old b3 om om),jz x4 rfl rfl rfl rfl,sc,y1,y2,Fb.fp Fc,?_⟩
  rcases hx with⟨e,g,xe⟩ | ⟨e,rfl,rfl⟩
  case inr=>exact .inr ⟨e,rfl,rfl⟩
  rcases g.must rfl with⟨wc,ec',hdc,okc,hpc⟩ | ⟨e,ec',hrc⟩
  case inr=>exact .inr ⟨e,hrc,ec'⟩
  simp only[aV,sJ]at hpc
  subst hpc
  refine .inl ⟨_,wc,rfl,ec',hdc,okc,iC (xe.mono fun c hc=>?_) (.nil _ _ _) rfl (.nil _ _ _) rfl⟩
  have c1:=hc.1
  have c2:=hc.2
  exact⟨⟨om,om⟩,by rw[Fc.old c om om,kb c om]⟩
 | false=>
 rw[if_neg (by rw[cb]; simp)]at hr
 simp only[sA,sB,seval]
 refine (aJ h3 [105,102]).mono ?_
 rintro _ _ ⟨rfl,rfl⟩
 rw[iskw [105,102] dD]
 cases cc:j6 w [105,102] with
 | true=>
  rw[if_pos cc]at hr
  have g0:Go s (Except.ok w) D D r fun w=>dn (bC s w) fun w1=>dn (bE s [40] w1) fun w1=>fF (pE s f (.rule 5) D w1) fun e w2=>dn (bE s [41] w2) fun w3=>fF (pS s f .body D w3) fun l w2=>if j6 w2 [101,108,115,101] then dn (bC s w2) fun w3=>fF (pS s f .body D w3) fun m w4=>aV [.mk 3 [] e l m L] w4 else aV [.mk 3 [] e l [] L] w2:=.inl ⟨w,rfl,rfl,ok,hr⟩
  simp only[sA,sB,seval]
  refine (bO h3 om g0.en).mono ?_
  rintro _ H5 ⟨s5,F5⟩
  have e5:=F5.next
  have g5:=g0.take
  generalize kV s (Except.ok w)=u5 at *
  obtain⟨H6,m6,o6,n6,k6⟩:=uS (k':=3) (o3.same (F5.old _ om om)) rfl
  have s6:=s5.same (k6 rb om)
  have F6:wZ rb b3 H4 H6:=⟨om,fun c h1 h2 h3=>by rw[k6 c h3,F5.old c h1 h2]⟩
  simp only[sA,sB,seval,fld0,m6]
  refine (nJ le s6 rL om om g5).mono ?_
  rintro _ H7 ⟨xs,d7,u7,rfl,x4,y1,y2,s7,F7,hx⟩
  have e7:=F7.next
  obtain⟨H8,m8,o8,n8,k8⟩:=yn (o6.same (F7.old _ om om)) rfl x4
  have s8:=s7.same (k8 rb om)
  have F8:wZ rb b3 H4 H8:=⟨om,fun c h1 h2 h3=>by rw[k8 c h3,F7.old c om h2,F6.old c h1 h2 h3]⟩
  simp only[sA,sB,seval,aB,m8]
  have hg8:∃e,(Go s u7 d7 D r fun w3=>fF (pS s f .body D w3) fun l w2=>if j6 w2 [101,108,115,101] then dn (bC s w2) fun w3=>fF (pS s f .body D w3) fun m w4=>aV [.mk 3 [] e l m L] w4 else aV [.mk 3 [] e l [] L] w2)/\((∀f',u7≠.error f')->XE (In H6.next H7.next) H7 e xs):=by
   rcases hx with⟨e,g,xe⟩ | ⟨e,h1,h2⟩
   ·exact⟨e,g,fun _=>xe⟩
   ·exact⟨.mk 0 [] 0 [],.inr ⟨e,h2,h1⟩,fun q=>absurd h2 (q e)⟩
  obtain⟨e,g8,hxe⟩:=hg8
  refine (nL hf ls s8 y1 y2 om g8).mono ?_
  rintro v H9 ⟨d9,u9,v1,v2,y3,y4,s9,F9,hl⟩
  have e9:=F9.next
  obtain⟨Ha,ma,oa,na,ka⟩:=KO (o8.same (F9.old _ om om)) x4.len v1
  have sa:=s9.same (ka rb om)
  have Fa:wZ rb b3 H4 Ha:=⟨om,fun c h1 h2 h3=>by rw[ka c h3,F9.old c om h2,F8.old c h1 h2 h3]⟩
  simp only[sA,sB,seval,aB,ma]
  have hen:∀w,u9=.ok w->fy s w:=by
   rcases hl with⟨l,C,g,_⟩ | ⟨e,_,rfl⟩
   ·rcases g with⟨w9,rfl,_,ok9,_⟩ | ⟨e,rfl,_⟩
    ·intro w hw; simp only[Except.ok.injEq]at hw; subst hw; exact ok9
    ·intro w hw; simp at hw
   ·intro w hw; simp at hw
  refine (aJ sa [101,108,115,101]).mono ?_
  rintro _ _ ⟨rfl,rfl⟩
  have h7:(∃f',u7=.error f')->∃e,r=.error e:=by
   rintro ⟨f',rfl⟩
   rcases g8 with⟨w7,q,_⟩ | ⟨f'',q,q2⟩
   ·simp at q
   ·exact⟨f'',q2⟩
  have h7':(∀e,r≠.error e)->∀f',u7≠.error f':=fun q f' hf'=>by
   obtain⟨e,he⟩:=h7 ⟨f',hf'⟩
   exact q e he
  cases hi:gd u9 [101,108,115,101] with
  | false=>
   simp only[sA,sB,seval]
   refine⟨tt,tt,tt,_,_,d9,oa,jz x4 v1 v2 rfl rfl,sa,y3,y4,Fa,?_⟩
   rcases hl with⟨l,C,g,z1,z2⟩ | ⟨e,rfl,rfl⟩
   case inr=>exact .inr ⟨e,rfl,rfl⟩
   rcases g with⟨w9,rfl,hd9,ok9,hp9⟩ | ⟨e,rfl,rfl⟩
   case inr=>exact .inr ⟨e,rfl,rfl⟩
   dsimp only at hp9
   have hky:j6 w9 [101,108,115,101]=false:=by rw[<- wA ok9 dD]; exact hi
   rw[if_neg (by rw[hky]; simp)]at hp9
   simp only[aV,sJ]at hp9
   subst hp9
   have km:∀c,In H8.next H9.next c->In H4.next Ha.next c/\Ha.get c=H9.get c:=fun c hc=>by
    have c1:=hc.1
    have c2:=hc.2
    exact⟨⟨om,om⟩,ka c om⟩
   refine .inl ⟨_,w9,rfl,rfl,hd9,ok9,iC ((hxe (h7' (by simp))).mono fun c hc=>?_) (z1.mono km) (z2.mono km) (.nil _ _ _) rfl⟩
   have c1:=hc.1
   have c2:=hc.2
   exact⟨⟨om,om⟩,by rw[ka c om,F9.old c om om,k8 c om]⟩
  | true=>
  rcases hl with⟨l,C,g,z1,z2⟩ | ⟨e,_,rfl⟩
  rotate_left
  ·exact absurd hi (by simp[gd])
  rcases g with⟨w9,rfl,hd9,ok9,hp9⟩ | ⟨e,rfl,_⟩
  rotate_left
  ·exact absurd hi (by simp[gd])
  dsimp only at hp9
  have hky:j6 w9 [101,108,115,101]=true:=by rw[<- wA ok9 dD]; exact hi
  rw[if_pos hky]at hp9
  have g9:Go s (Except.ok w9) d9 D r fun w2=>dn (bC s w2) fun w3=>fF (pS s f .body D w3) fun m w4=>aV [.mk 3 [] e l m L] w4:=.inl ⟨w9,rfl,hd9,ok9,hp9⟩
  simp only[sA,sB,seval]
  refine (bO sa om g9.en).mono ?_
  rintro _ Hb ⟨sb,Fb⟩
  have eb:=Fb.next
  have gb:=g9.take
  generalize kV s (Except.ok w9)=ub at *
  simp only[sA,sB,seval]
  refine (nL hf ls sb y3 y4 om gb).mono ?_
  rintro v' Hc ⟨dc,uc,p1,p2,p3,p4,sc,Fc,hl2⟩
  have ec:=Fc.next
  obtain⟨Hd,md,od,nd,kd⟩:=Ok (oa.same (H':=Hc) (by rw[Fc.old _ om om,Fb.old _ om om])) x4.len p1
  have Fd:wZ rb b3 H4 Hd:=⟨om,fun c h1 h2 h3=>by rw[kd c h3,Fc.old c om h2,Fb.old c om h2,Fa.old c h1 h2 h3]⟩
  simp only[sA,sB,seval,aB,md]
  refine⟨tt,tt,tt,_,_,dc,od,jz x4 v1 v2 p1 p2,sc.same (kd rb om),p3,p4,Fd,?_⟩
  rcases hl2 with⟨l2,C2,g2,q1,q2⟩ | ⟨e,rfl,rfl⟩
  case inr=>exact .inr ⟨e,rfl,rfl⟩
  rcases g2 with⟨wc,rfl,hdc,okc,hpc⟩ | ⟨e,rfl,rfl⟩
  case inr=>exact .inr ⟨e,rfl,rfl⟩
  simp only[aV,sJ]at hpc
  subst hpc
  have k9:∀c,c<H9.next->c≠rb->c≠b3->Hd.get c=H9.get c:=fun c h1 h2 h3=>by rw[kd c h3,Fc.old c om h2,Fb.old c om h2,ka c h3]
  have km:∀c,In H8.next H9.next c->In H4.next Hd.next c/\Hd.get c=H9.get c:=fun c hc=>by
   have c1:=hc.1
   have c2:=hc.2
   exact⟨⟨om,om⟩,k9 c c2 om om⟩
  have kn:∀c,In Hb.next Hc.next c->In H4.next Hd.next c/\Hd.get c=Hc.get c:=fun c hc=>by
   have c1:=hc.1
   have c2:=hc.2
   exact⟨⟨om,om⟩,kd c om⟩
  refine .inl ⟨_,wc,rfl,rfl,hdc,okc,iC ((hxe (h7' (by simp))).mono fun c hc=>?_) (z1.mono km) (z2.mono km) (q1.mono kn) (q2.mono kn)⟩
  have c1:=hc.1
  have c2:=hc.2
  exact⟨⟨om,om⟩,by rw[k9 c om om om,F9.old c om om,k8 c om]⟩
 | false=>
 rw[if_neg (by rw[cc]; simp)]at hr
 simp only[sA,sB,seval]
 refine (aJ h3 [119,104,105,108,101]).mono ?_
 rintro _ _ ⟨rfl,rfl⟩
 rw[iskw [119,104,105,108,101] dD]
 cases cd:j6 w [119,104,105,108,101] with
 | true=>
  rw[if_pos cd]at hr
  have g0:Go s (Except.ok w) D D r fun w=>dn (bC s w) fun w1=>dn (bE s [40] w1) fun w1=>fF (pE s f (.rule 5) D w1) fun e w2=>dn (bE s [41] w2) fun w3=>fF (pS s f .body D w3) fun l w2=>aV [.mk 4 [] e l [] L] w2:=.inl ⟨w,rfl,rfl,ok,hr⟩
  simp only[sA,sB,seval]
  refine (bO h3 om g0.en).mono ?_
  rintro _ H5 ⟨s5,F5⟩
  have e5:=F5.next
  have g5:=g0.take
  generalize kV s (Except.ok w)=u5 at *
  obtain⟨H6,m6,o6,n6,k6⟩:=uS (k':=4) (o3.same (F5.old _ om om)) rfl
  have s6:=s5.same (k6 rb om)
  have F6:wZ rb b3 H4 H6:=⟨om,fun c h1 h2 h3=>by rw[k6 c h3,F5.old c h1 h2]⟩
  simp only[sA,sB,seval,fld0,m6]
  refine (nJ le s6 rL om om g5).mono ?_
  rintro _ H7 ⟨xs,d7,u7,rfl,x4,y1,y2,s7,F7,hx⟩
  have e7:=F7.next
  obtain⟨H8,m8,o8,n8,k8⟩:=yn (o6.same (F7.old _ om om)) rfl x4
  have s8:=s7.same (k8 rb om)
  have F8:wZ rb b3 H4 H8:=⟨om,fun c h1 h2 h3=>by rw[k8 c h3,F7.old c om h2,F6.old c h1 h2 h3]⟩
  simp only[sA,sB,seval,aB,m8]
  have hg8:∃e,(Go s u7 d7 D r fun w3=>fF (pS s f .body D w3) fun l w2=>aV [.mk 4 [] e l [] L] w2)/\((∀f',u7≠.error f')->XE (In H6.next H7.next) H7 e xs):=by
   rcases hx with⟨e,g,xe⟩ | ⟨e,h1,h2⟩
   ·exact⟨e,g,fun _=>xe⟩
   ·exact⟨.mk 0 [] 0 [],.inr ⟨e,h2,h1⟩,fun q=>absurd h2 (q e)⟩
  obtain⟨e,g8,hxe⟩:=hg8
  refine (nL hf ls s8 y1 y2 om g8).mono ?_
  rintro v H9 ⟨d9,u9,v1,v2,y3,y4,s9,F9,hl⟩
  have e9:=F9.next
  obtain⟨Ha,ma,oa,na,ka⟩:=KO (o8.same (F9.old _ om om)) x4.len v1
  have sa:=s9.same (ka rb om)
  have Fa:wZ rb b3 H4 Ha:=⟨om,fun c h1 h2 h3=>by rw[ka c h3,F9.old c om h2,F8.old c h1 h2 h3]⟩
  simp only[sA,sB,seval,aB,ma]
  refine⟨tt,tt,tt,_,_,d9,oa,jz x4 v1 v2 rfl rfl,sa,y3,y4,Fa,?_⟩
  rcases hl with⟨l,C,g,z1,z2⟩ | ⟨e,rfl,rfl⟩
  case inr=>exact .inr ⟨e,rfl,rfl⟩
  rcases g with⟨w9,rfl,hd9,ok9,hp9⟩ | ⟨e,rfl,rfl⟩
  case inr=>exact .inr ⟨e,rfl,rfl⟩
  simp only[aV,sJ]at hp9
  subst hp9
  have h7:∀f',u7≠.error f':=by
   rintro f' rfl
   rcases g8 with⟨w7,q,_⟩ | ⟨f'',q,q2⟩
   ·simp at q
   ·simp at q2
  have km:∀c,In H8.next H9.next c->In H4.next Ha.next c/\Ha.get c=H9.get c:=fun c hc=>by
   have c1:=hc.1
   have c2:=hc.2
   exact⟨⟨om,om⟩,ka c om⟩
  refine .inl ⟨_,w9,rfl,rfl,hd9,ok9,iC ((hxe h7).mono fun c hc=>?_) (z1.mono km) (z2.mono km) (.nil _ _ _) rfl⟩
  have c1:=hc.1
  have c2:=hc.2
  exact⟨⟨om,om⟩,by rw[ka c om,F9.old c om om,k8 c om]⟩
 | false=>
 rw[if_neg (by rw[cd]; simp)]at hr
 simp only[sA,sB,seval]
 refine (aJ h3 [114,101,116,117,114,110]).mono ?_
 rintro _ _ ⟨rfl,rfl⟩
 rw[iskw [114,101,116,117,114,110] dD]
 cases c5:j6 w [114,101,116,117,114,110] with
 | true=>
  rw[if_pos c5]at hr
  have g0:Go s (Except.ok w) D D r fun w=>dn (bC s w) fun w1=>fF (pE s f (.rule 5) D w1) fun e w2=>dn (bE s [59] w2) fun w3=>aV [.mk 5 [] e [] [] L] w3:=.inl ⟨w,rfl,rfl,ok,hr⟩
  simp only[sA,sB,seval]
  refine (bO h3 om g0.en).mono ?_
  rintro _ H5 ⟨s5,F5⟩
  have e5:=F5.next
  have g5:=g0.take
  generalize kV s (Except.ok w)=u5 at *
  obtain⟨H6,m6,o6,n6,k6⟩:=uS (k':=5) (o3.same (F5.old _ om om)) rfl
  have s6:=s5.same (k6 rb om)
  have F6:wZ rb b3 H4 H6:=⟨om,fun c h1 h2 h3=>by rw[k6 c h3,F5.old c h1 h2]⟩
  simp only[sA,sB,seval,fld0,m6]
  refine (iA dead le s6 rL om om g5).mono ?_
  rintro _ Ha ⟨xs,da,ua,rfl,x4,y1,y2,sa,Fa,hx⟩
  have ea:=Fa.next
  obtain⟨Hb,mb,ob,nb,kb⟩:=yn (o6.same (Fa.old _ om om)) rfl x4
  have sb:=sa.same (kb rb om)
  have hen:∀w,ua=.ok w->w.en<=1000000:=by
   rcases hx with⟨e,g,_⟩ | ⟨e,_,rfl⟩
   ·exact g.en
   ·intro w hw; simp at hw
  have Fb:wZ rb b3 H4 Hb:=⟨om,fun c h1 h2 h3=>by rw[kb c h3,Fa.old c om h2,F6.old c h1 h2 h3]⟩
  simp only[sA,sB,seval,aB,mb]
  refine (dj sb om hen [59]).mono ?_
  rintro _ Hc ⟨sc,Fc⟩
  have ec:=Fc.next
  simp only[sA,sB,seval]
  refine⟨tt,tt,tt,_,_,da,ob.same (Fc.old b3 om om),jz x4 rfl rfl rfl rfl,sc,y1,y2,Fb.fp Fc,?_⟩
  rcases hx with⟨e,g,xe⟩ | ⟨e,rfl,rfl⟩
  case inr=>exact .inr ⟨e,rfl,rfl⟩
  rcases g.must rfl with⟨wc,ec',hdc,okc,hpc⟩ | ⟨e,ec',hrc⟩
  case inr=>exact .inr ⟨e,hrc,ec'⟩
  simp only[aV,sJ]at hpc
  subst hpc
  refine .inl ⟨_,wc,rfl,ec',hdc,okc,iC (xe.mono fun c hc=>?_) (.nil _ _ _) rfl (.nil _ _ _) rfl⟩
  have c1:=hc.1
  have c2:=hc.2
  exact⟨⟨om,om⟩,by rw[Fc.old c om om,kb c om]⟩
 | false=>
 rw[if_neg (by rw[c5]; simp)]at hr
 simp only[jq,sJ]at hr
 subst hr
 simp only[sA,sB,seval]
 refine (i6 h3 (c:=101) om).mono ?_
 rintro _ H5 ⟨s5,F5,n5⟩
 simp only[sA,sB,seval]
 exact⟨tt,tt,tt,_,_,D,o3.same (F5.old b3 om om),jz okz rfl rfl rfl rfl,s5,Nat.le_refl _,om,⟨om,fun c h1 h2 _=>F5.old c h1 h2⟩,.inr ⟨_,rfl,rfl⟩⟩
theorem yu(rb:Nat)(s:Bs):∀(f:Nat),f<=1000000->∀f',f'<=f->Dt rb s f'
 | 0,_,f',h=>by
  obtain rfl:f'=0:=om
  exact fun H w d r _ _ _ _ hr=>by simp[pS]at hr
 | f+1,hf,f',h=>by
  have ih:=yu rb s f om
  by_cases he:f'<=f
  ·exact ih f' he
  obtain rfl:f'=f+1:=om
  exact Ei om ((Dn rb s f om f rL).rule 5 om) fun f' h=>ih f' om
open Go.Abs Go.Abs.S
def nj{α:Type}(o:Option (dt α))(P:α->Wd->Prop):Prop:=∀a w',o=some (.ok (a,w'))->P a w'
theorem bT{α:Type}{o:Except gB Wd}{f:Wd->Option (dt α)}{P:α->Wd->Prop}(h:∀w',o=.ok w'->nj (f w') P):nj (dn o f) P:=by
 cases o with
 | error e=>intro a w' q; simp[dn]at q
 | ok w=>exact h w rfl
theorem eL{α β:Type}{o:Option (dt α)}{f:α->Wd->Option (dt β)}{P:α->Wd->Prop}{Q:β->Wd->Prop}(ho:nj o P)(h:∀a w',P a w'->nj (f a w') Q):nj (fF o f) Q:=by
 cases o with
 | none=>intro a w' q; simp[fF]at q
 | some o=>
  cases o with
  | error e=>intro a w' q; simp[fF]at q
  | ok p=>obtain⟨a,w⟩:=p; exact h a w (ho a w rfl)
theorem cU{α:Type}{a:α}{w:Wd}{P:α->Wd->Prop}(h:P a w):nj (aV a w) P:=by
 intro a' w' q
 simp only[aV,sJ,Except.ok.injEq,pJ]at q
 rw[<- q.1,<- q.2]; exact h
theorem lm{α:Type}{e:Nat}{w:Wd}{P:α->Wd->Prop}:nj (jq (α:=α) e w) P:=by intro a w' q; simp[jq]at q
theorem nj.imp{α:Type}{o:Option (dt α)}{P Q:α->Wd->Prop}(h:nj o P)(k:∀a w,P a w->Q a w):nj o Q:=fun a w q=>k a w (h a w q)
theorem oA(l:List Ex)(e:Ex):aQ (l++[e])=aQ l+e.size:=by
 induction l with
 | nil=>simp[aQ]
 | cons x l ih=>simp only[Q9,aQ,ih]; omega
theorem qp(l m:List St):az (l++m)=az l+az m:=by
 induction l with
 | nil=>simp[az]
 | cons x l ih=>simp only[Q9,az,ih]; omega
def Be:NT->Nat
 | .loop _ e=>e.size
 | .args _ out=>aQ out+1
 | _=>0
theorem Oc(s:Bs):∀(f:Nat) (nt:NT) (g:Nat) (w:Wd),fy s w->nj (pE s f nt g w) fun e w'=>fy s w'/\e.size+mW s w'<=mW s w+Be nt
 | 0,_,_,_,_=>by intro a w' q; simp[pE]at q
 | f+1,nt,g,w,hw=>by
  have ih:=Oc s f
  rw[cH]
  cases nt with
  | rule k=>
   cases k with
   | zero=>
    simp only[cK,Be]
    split
    ·exact lm
    split
    ·rename_i hs
     refine bT fun w1 h1=>?_
     obtain⟨k1,k2⟩:=aK h1 hw (by rw[fl hs]; omega)
     refine eL (ih (.rule 0) (g+1) w1 k1) fun e w2 ⟨h2,h3⟩=>cU ⟨h2,?_⟩
     simp only[Ex.size,aQ,Be]at h3 ⊢; omega
    ·exact ih .prim (g+1) w hw
   | succ k=>
    simp only[cK,Be]
    refine eL (ih (.rule k) g w hw) fun e w1 ⟨h2,h3⟩=>(ih (.loop (k+1) e) g w1 h2).imp fun a w' ⟨h4,h5⟩=>⟨h4,?_⟩
    simp only[Be]at h3 h5 ⊢; omega
  | loop k e=>
   simp only[cK,Be]
   split
   ·rename_i hs
    refine bT fun w1 h1=>?_
    obtain⟨k1,k2⟩:=aK h1 hw (by rw[fl hs]; omega)
    refine eL (ih (.rule (k-1)) g w1 k1) fun r w2 ⟨h2,h3⟩=>?_
    simp only[Be]at h3
    split
    ·refine cU ⟨h2,?_⟩
     simp only[Ex.size,aQ]; omega
    ·refine (ih (.loop k _) g w2 h2).imp fun a w' ⟨h4,h5⟩=>⟨h4,?_⟩
     simp only[Be,Ex.size,aQ]at h5; omega
   ·exact cU ⟨hw,om⟩
  | prim=>
   simp only[cK,Be]
   split
   ·refine bT fun w1 h1=>?_
    obtain⟨k1,k2⟩:=aK h1 hw om
    exact cU ⟨k1,by simp only[Ex.size,aQ]; omega⟩
   split
   ·refine bT fun w1 h1=>?_
    obtain⟨k1,k2⟩:=aK h1 hw om
    split
    ·rename_i hs
     refine bT fun w2 h2=>?_
     obtain⟨k3,k4⟩:=aK h2 k1 (by rw[fl hs]; omega)
     split
     ·rename_i hs2
      refine bT fun w3 h3=>?_
      obtain⟨k5,k6⟩:=aK h3 k3 (by rw[fl hs2]; omega)
      exact cU ⟨k5,by simp only[Ex.size,aQ]; omega⟩
     ·refine (ih (.args _ []) g w2 k3).imp fun a w' ⟨h4,h5⟩=>⟨h4,?_⟩
      simp only[Be,aQ]at h5; omega
    ·exact cU ⟨k1,by simp only[Ex.size,aQ]; omega⟩
   split
   ·rename_i hs
    refine bT fun w1 h1=>?_
    obtain⟨k1,k2⟩:=aK h1 hw (by rw[fl hs]; omega)
    refine eL (ih (.rule 5) g w1 k1) fun e w2 ⟨h2,h3⟩=>bT fun w3 h4=>?_
    obtain⟨_,_,k3,k4⟩:=bQ h4 h2
    simp only[Be]at h3
    exact cU ⟨k3,om⟩
   ·exact lm
  | args S out=>
   simp only[cK,Be]
   refine eL (ih (.rule 5) g w hw) fun e w1 ⟨h2,h3⟩=>?_
   simp only[Be]at h3
   split
   ·rename_i hs
    refine bT fun w2 h1=>?_
    obtain⟨k1,k2⟩:=aK h1 h2 (by rw[fl hs]; omega)
    refine (ih (.args S (out++[e])) g w2 k1).imp fun a w' ⟨h4,h5⟩=>⟨h4,?_⟩
    simp only[Be,oA]at h5; omega
   ·refine bT fun w2 h1=>?_
    obtain⟨_,_,k1,k2⟩:=bQ h1 h2
    exact cU ⟨k1,by simp only[Ex.size,oA]; omega⟩
def JN:NS->Nat
 | .more out=>az out
 | _=>0
theorem Ob(s:Bs):∀(f:Nat) (nt:NS) (g:Nat) (w:Wd),fy s w->nj (pS s f nt g w) fun l w'=>fy s w'/\az l+mW s w'<=mW s w+JN nt
 | 0,_,_,_,_=>by intro a w' q; simp[pS]at q
 | f+1,nt,g,w,hw=>by
  have ih:=Ob s f
  have pe:∀g w1,fy s w1->nj (pE s f (.rule 5) g w1) fun e w'=>fy s w'/\e.size+mW s w'<=mW s w1:=fun g w1 h=>(Oc s f (.rule 5) g w1 h).imp fun a w' ⟨h1,h2⟩=>⟨h1,by simpa[Be] using h2⟩
  rw[iM]
  have named:∀k line g w1,fy s w1->mW s w1<mW s w->nj (jP s (pE s f) k line g w1) fun l w'=>fy s w'/\az l+mW s w'<=mW s w:=by
   intro k line g w1 k1 k2
   unfold jP
   split
   ·refine bT fun w2 h2=>?_
    obtain⟨k3,k4⟩:=aK h2 k1 om
    refine bT fun w3 h3=>?_
    obtain⟨_,_,k5,k6⟩:=bQ h3 k3
    refine eL (pe g w3 k5) fun e w4 ⟨l1,l2⟩=>bT fun w5 h5=>?_
    obtain⟨_,_,k7,k8⟩:=bQ h5 l1
    exact cU ⟨k7,by simp only[az,St.size]; omega⟩
   ·exact lm
  have asked:∀g w1 F,fy s w1->mW s w1<mW s w->(∀e l w4,fy s w4->e.size+az l+mW s w4<mW s w->nj (F e l w4) fun l w'=>fy s w'/\az l+mW s w'<=mW s w)->nj (jS s (pE s f) (pS s f) g w1 F) fun l w'=>fy s w'/\az l+mW s w'<=mW s w:=by
   intro g w1 F k1 k2 hF
   unfold jS
   refine bT fun w2 h2=>?_
   obtain⟨_,_,k3,k4⟩:=bQ h2 k1
   refine eL (pe g w2 k3) fun e w3 ⟨l1,l2⟩=>bT fun w4 h4=>?_
   obtain⟨_,_,k5,k6⟩:=bQ h4 l1
   refine eL (ih .body g w4 k5) fun l w5 ⟨m1,m2⟩=>hF e l w5 m1 ?_
   simp only[JN]at m2; omega
  cases nt with
  | stmt=>
   simp only[ic,JN]
   split
   ·exact lm
   split
   ·rename_i c
    refine bT fun w1 h1=>?_
    obtain⟨k1,k2⟩:=aK h1 hw (by rw[gF c]; omega)
    exact named _ _ _ w1 k1 k2
   split
   ·rename_i c
    refine bT fun w1 h1=>?_
    obtain⟨k1,k2⟩:=aK h1 hw (by rw[gF c]; omega)
    exact named _ _ _ w1 k1 k2
   split
   ·rename_i c
    refine bT fun w1 h1=>?_
    obtain⟨k1,k2⟩:=aK h1 hw (by rw[gF c]; omega)
    refine asked _ w1 _ k1 k2 fun e l w2 l1 l2=>?_
    split
    ·rename_i c
     refine bT fun w3 h3=>?_
     obtain⟨k3,k4⟩:=aK h3 l1 (by rw[gF c]; omega)
     refine eL (ih .body _ w3 k3) fun m w4 ⟨m1,m2⟩=>cU ⟨m1,?_⟩
     simp only[JN]at m2
     simp only[az,St.size]; omega
    ·exact cU ⟨l1,by simp only[az,St.size]; omega⟩
   split
   ·rename_i c
    refine bT fun w1 h1=>?_
    obtain⟨k1,k2⟩:=aK h1 hw (by rw[gF c]; omega)
    exact asked _ w1 _ k1 k2 fun e l w2 l1 l2=>cU ⟨l1,by simp only[az,St.size]; omega⟩
   split
   ·rename_i c
    refine bT fun w1 h1=>?_
    obtain⟨k1,k2⟩:=aK h1 hw (by rw[gF c]; omega)
    refine eL (pe _ w1 k1) fun e w2 ⟨l1,l2⟩=>bT fun w3 h3=>?_
    obtain⟨_,_,k5,k6⟩:=bQ h3 l1
    exact cU ⟨k5,by simp only[az,St.size]; omega⟩
   ·exact lm
  | body=>
   simp only[ic,JN]
   refine bT fun w1 h1=>?_
   obtain⟨_,_,k1,k2⟩:=bQ h1 hw
   refine (ih (.more []) g w1 k1).imp fun a w' ⟨h4,h5⟩=>⟨h4,?_⟩
   simp only[JN,az]at h5; omega
  | more out=>
   simp only[ic,JN]
   split
   ·rename_i c
    refine bT fun w1 h1=>?_
    obtain⟨k1,k2⟩:=aK h1 hw (by rw[fl c]; omega)
    exact cU ⟨k1,om⟩
   ·refine eL (ih .stmt g w hw) fun x w1 ⟨h2,h3⟩=>(ih (.more (out++x)) g w1 h2).imp fun a w' ⟨h4,h5⟩=>⟨h4,?_⟩
    simp only[JN,qp]at h3 h5; omega
theorem FX(s:Bs):∀(f:Nat) (out:List St) (w:Wd) (l:List St),fy s w->j5 s f out w=some (.ok l)->az l<=mW s w+az out
 | 0,_,_,_,_,h=>by simp[j5]at h
 | f+1,out,w,l,hw,h=>by
  unfold j5 at h
  by_cases c:w.k=5
  ·rw[if_pos c]at h
   simp only[sJ,Except.ok.injEq]at h
   subst h; omega
  rw[if_neg c]at h
  cases hp:pS s f .stmt 0 w with
  | none=>rw[hp]at h; simp at h
  | some r=>
   rw[hp]at h
   cases r with
   | error e=>simp at h
   | ok p=>
    obtain⟨x,w1⟩:=p
    obtain⟨h1,h2⟩:=Ob s f .stmt 0 w hw x w1 hp
    have:=FX s f (out++x) w1 l h1 h
    simp only[JN,qp]at h2 this
    omega
theorem FC{s:Bs}{w:Wd}{f:Nat}{l:List St}(hn:cW s 0=.ok w)(hp:j5 s f [] w=some (.ok l)):az l<=100000:=by
 obtain⟨hw,_,_⟩:=il hn
 have:=FX s f [] w l hw hp
 have h2:mW s w<=s.length+1:=by unfold mW; split <;> omega
 have:=hw.long
 simp only[az]at *
 omega
open Go.Abs Go.Abs.S
theorem qV(a b:Nat):jt (.mm true) [.int .i64 (a:Int),.int .i64 (b:Int)]=some (.int .i64 ((max a b:Nat):Int)):=by
 have:jt (.mm true) [.int .i64 (a:Int),.int .i64 (b:Int)]=some (.int .i64 (if (a:Int)<(b:Int) then (b:Int) else a)):=by
  simp only[jt,Ix,Mx,Iy,sC,cond_true]
  by_cases h:(a:Int)<b <;> simp[h]
 rw[this]
 congr 2
 split <;> omega
theorem jT(a b:Nat)(h:a+b<=1000000000):IntKind.i64.wrap ((a:Int)+(b:Int))=((a+b:Nat):Int):=xh
theorem iQ(e:Ex):1<=e.size:=by cases e; simp only[Ex.size]; omega
theorem qC:∀(N:Nat) {e:Ex} {c:List ab} {H:aa} {lv:Nat},e.size<=N->XE (·<H.next) H e c->lv<=100->e.size<=1000000 ->
  aq Tryz.prog aA 117 [.agg c,.int .i64 (lv:Int)] H fun u H'=>(∃n d:Nat,u=.tuple [.int .i64 (n:Int),.int .i64 (d:Int)]/\n<=e.size/\d=min lv e.deep/\(e.deep<=lv->n=e.size))/\aS H.next H H'
 | 0,e,_,_,_,h,_,_,_=>absurd (iQ e) om
 | N+1,.mk k s z kids,c,H,lv,h,hx,hl,hs=>by
  obtain⟨v,C,rfl,z1,z2⟩:=hx
  have hsz:(Ex.mk k s z kids).size=aQ kids+1:=rfl
  have hdp:(Ex.mk k s z kids).deep=dx kids+1:=rfl
  refine af rfl NJ rfl ?_
  obtain⟨H1,m1,r1,n1,k1⟩:=au H [.int .u8 (k:Int),.str s,.int .i64 z,v] (n:=4) rfl
  have E1:aS H.next H H1:=⟨om,fun c hc=>k1 c om⟩
  by_cases hl0:lv=0
  ·subst hl0
   have hl':((0:Nat):Int)<1:=om
   simp only[Mm,sA,sB,seval,cq,m1,hl']
   exact⟨⟨0,0,tt,om,om,om⟩,E1⟩
  have hl':¬(lv:Int)<1:=om
  have hlw:IntKind.i64.wrap ((lv:Int)-1)=((lv-1:Nat):Int):=xh
  have l3:∀{K:aa},aS H1.next H1 K->am false 1 K (ae H.next 4 3)=some v:=fun q=>ah (r1.same (q.old _ om)) rfl rfl
  have ln:=z1.len
  simp only[Mm,sA,sB,seval,cq,m1,hl']
  refine aG (fun m (T:bG) K=>∃i n d:Nat,m=kids.length-i/\i<=kids.length/\T 1=.int .i64 (lv:Int)/\T 2=ae H.next 4 0/\T 6=.int .i64 (n:Int)/\T 7=.int .i64 (d:Int)/\T 8=.int .i64 (i:Int)/\aS H1.next H1 K/\n<=1+aQ (kids.take i)/\d=min (lv-1) (dx (kids.take i))/\(dx (kids.take i)<=lv-1->n=1+aQ (kids.take i))) kids.length
   ⟨0,1,0,rfl,Nat.zero_le _,by simp only[sA,sB,seval]; try rfl,by simp only[sA,sB,seval],by simp only[sA,sB,seval]; try rfl,by simp only[sA,sB,seval]; try rfl,by simp only[sA,sB,seval]; try rfl,aS.refl _ _,by simp[aQ],by simp[dx],fun _=>by simp[aQ]⟩ ?_
  rintro m T K ⟨i,n,d,rfl,hi,t1,t2,t6,t7,t8,EK,hn,hd,hnd⟩
  have eK:=EK.next
  have l3K:=l3 EK
  by_cases hlt:i<kids.length
  case neg=>
   obtain rfl:i=kids.length:=om
   have hlt':¬(kids.length:Int)<(kids.length:Int):=om
   rw[List.take_length]at hn hd hnd
   have wd:IntKind.i64.wrap ((d:Int)+1)=((d+1:Nat):Int):=jT d 1 om
   simp only[sA,sB,seval,t1,t2,t6,t7,t8,aB,l3K,ln,hlt',wd]
   refine⟨⟨n,d+1,tt,om,om,fun q=>by rw[hnd om]; omega⟩,om,fun c hc=>by rw[EK.old c om,E1.old c hc]⟩
  have hlt':(i:Int)<(kids.length:Int):=om
  obtain⟨e,he⟩:∃e,kids[i]?=some e:=⟨_,QQ hlt⟩
  have hts:kids.take (i+1)=kids.take i++[e]:=by rw[List.take_add_one,he]; rfl
  have km:∀b,b<H.next->b<K.next/\K.get b=H.get b:=fun b hb=>⟨om,by rw[EK.old b om,E1.old b hb]⟩
  have z13:=z1.mono km
  have z23:=z2.mono km
  have ix:=z13.idx hlt
  have ld:=z13.load hlt
  have he3:=z23.at he
  have hsm:=ep (QY he)
  have hlen:=eQ kids
  have wi:IntKind.i64.wrap ((i:Int)+1)=((i+1:Nat):Int):=jT i 1 om
  simp only[sA,sB,seval,t1,t2,t6,t7,t8,aB,l3K,ln,hlt',ix,ld,hlw]
  refine (qC N om he3 om om).mono ?_
  rintro _ K2 ⟨⟨n2,d2,rfl,a1,a2,a3⟩,E2⟩
  have htk:aQ (kids.take (i+1))<=aQ kids:=by
   have:=List.take_append_drop (i+1) kids
   have h2:aQ kids=aQ (kids.take (i+1))+aQ (kids.drop (i+1)):=by rw[<- eN,this]
   omega
  rw[hts,eN]at htk
  simp only[aQ]at htk
  have wn:IntKind.i64.wrap ((n:Int)+(n2:Int))=((n+n2:Nat):Int):=jT n n2 om
  simp only[sA,sB,seval,b9,b7,t1,t2,t6,t7,t8,wn,qV,wi]
  refine⟨kids.length-(i+1),om,i+1,n+n2,max d d2,rfl,om,tt,tt,tt,tt,tt,EK.trans (E2.less om),?_,?_,?_⟩
  ·rw[hts,eN]; simp only[aQ]; omega
  ·rw[hts,jl]; simp only[dx]; omega
  ·rw[hts,eN,jl]; simp only[aQ,dx]; intro q
   rw[hnd om,a3 om]; omega
theorem arD{lv D e b s d d1 d2 d3:Nat}(hd:d=min (lv-1) (D-1))(a2:d1=min (lv-1) e)(b2:d2=min (lv-1) b)(g2:d3=min (lv-1) s):max (max (max d d1) d2) d3=min (lv-1) (max D (max (max e (max b s)+1) 0)-1):=om
theorem arN{lv D e b s n n1 n2 n3 i L S E B Q:Nat}(hl:1<=lv)(hn:D<=lv->n+i=L+S)(a:e<=lv-1->n1=E)(b':b<=lv-1->n2=B)(g:s<=lv-1->n3=Q):max D (max (max e (max b s)+1) 0)<=lv->n+n1+n2+n3+(i+1)=L+(S+(E+B+Q+1+0)):=by
 intro q
 have h1:=hn om
 have h2:=a om
 have h3:=b' om
 have h4:=g om
 omega
set_option maxHeartbeats 1000000 in
theorem yG:∀(N:Nat) {l:List St} {C:List ab} {v:ab} {H:aa} {lv:Nat},az l<=N->eX (·<H.next) H 9 v l.length C->gc (·<H.next) H l C->lv<=100->az l<=1000000 ->
  aq Tryz.prog aA 81 [v,.int .i64 (lv:Int)] H fun u H'=>(∃n d:Nat,u=.tuple [.int .i64 (n:Int),.int .i64 (d:Int)]/\n<=az l/\d=min lv (bp l)/\(bp l<=lv->n=az l))/\aS H.next H H':=by
 intro N
 induction N with
 | zero=>
  intro l C v H lv h z1 z2 hl hs
  have hl0:l=[]:=by
   cases l with
   | nil=>rfl
   | cons x l=>have:=fV x; simp only[az]at h; omega
  subst hl0
  have ln:=z1.len
  have h0:(([]:List St).length:Int)=0:=rfl
  refine af rfl MY rfl ?_
  simp only[OA,sA,sB,seval,ln,h0]
  exact⟨⟨0,0,tt,om,by simp[bp],fun _=>rfl⟩,aS.refl _ _⟩
 | succ N ih=>
  intro l C v H lv h z1 z2 hl hs
  have ln:=z1.len
  refine af rfl MY rfl ?_
  by_cases hl0:l=[]
  ·subst hl0
   have h0:(([]:List St).length:Int)=0:=rfl
   simp only[OA,sA,sB,seval,ln,h0]
   exact⟨⟨0,0,tt,om,by simp[bp],fun _=>rfl⟩,aS.refl _ _⟩
  have h0:¬(l.length:Int)=0:=by have:=List.length_pos_iff.2 hl0; omega
  have hdl:1<=bp l:=by
   cases l with
   | nil=>exact absurd rfl hl0
   | cons x l=>cases x; simp only[bp,St.deep]; omega
  by_cases hlv:lv=0
  ·subst hlv
   have hl':((0:Nat):Int)<1:=om
   simp only[OA,sA,sB,seval,ln,h0,hl']
   exact⟨⟨0,0,tt,om,om,om⟩,aS.refl _ _⟩
  have hl':¬(lv:Int)<1:=om
  have hlw:IntKind.i64.wrap ((lv:Int)-1)=((lv-1:Nat):Int):=xh
  have hlen:=fN l
  simp only[OA,sA,sB,seval,ln,h0,hl']
  refine aG (fun m (T:bG) K=>∃i n d:Nat,m=l.length-i/\i<=l.length/\T 0=v/\T 1=.int .i64 (lv:Int)/\T 6=.int .i64 (n:Int)/\T 7=.int .i64 (d:Int)/\T 8=.int .i64 (i:Int)/\aS H.next H K/\n+i<=l.length+az (l.take i)/\d=min (lv-1) (bp (l.take i)-1)/\(bp (l.take i)<=lv->n+i=l.length+az (l.take i))) l.length
   ⟨0,l.length,0,rfl,Nat.zero_le _,by simp only[sA,sB,seval],by simp only[sA,sB,seval]; try rfl,by simp only[sA,sB,seval],by simp only[sA,sB,seval]; try rfl,by simp only[sA,sB,seval]; try rfl,aS.refl _ _,by simp[az],by simp[bp],fun _=>by simp[az]⟩ ?_
  rintro m T K ⟨i,n,d,rfl,hi,t0,t1,t6,t7,t8,EK,hn,hd,hnd⟩
  have eK:=EK.next
  by_cases hlt:i<l.length
  case neg=>
   obtain rfl:i=l.length:=om
   have hlt':¬(l.length:Int)<(l.length:Int):=om
   rw[List.take_length]at hn hd hnd
   have wd:IntKind.i64.wrap ((d:Int)+1)=((d+1:Nat):Int):=jT d 1 om
   simp only[sA,sB,seval,t0,t1,t6,t7,t8,ln,hlt',wd]
   exact⟨⟨n,d+1,tt,om,om,fun q=>by have:=hnd q; omega⟩,EK⟩
  have hlt':(i:Int)<(l.length:Int):=om
  obtain⟨x,he⟩:∃e,l[i]?=some e:=⟨_,QQ hlt⟩
  have hts:l.take (i+1)=l.take i++[x]:=by rw[List.take_add_one,he]; rfl
  have km:∀{K:aa},aS H.next H K->∀b,b<H.next->b<K.next/\K.get b=H.get b:=fun q b hb=>⟨by have:=q.next; omega,q.old b hb⟩
  have z13:=z1.mono (km EK)
  have ix:=z13.idx hlt
  have pt:=z13.pt hlt
  have hsm:=eY (QY he)
  have wi:IntKind.i64.wrap ((i:Int)+1)=((i+1:Nat):Int):=jT i 1 om
  have htk:az (l.take (i+1))<=az l:=by
   have:=List.take_append_drop (i+1) l
   have h2:az l=az (l.take (i+1))+az (l.drop (i+1)):=by rw[<- eM,this]
   omega
  rw[hts,eM]at htk
  simp only[az]at htk
  have hx3:=(z2.mono (km EK)).at he
  obtain⟨k,s,e,body,els,line⟩:=x
  obtain⟨ce,vb,Cb,ve,Ce,hcell,x1,y1,y2,y3,y4⟩:=hx3
  obtain⟨c0,c1,c2,c3,rfl⟩:∃a b c d,ce=[a,b,c,d]:=by
   have:=x1.len
   match ce,this with
   | [a,b,c,d],_=>exact⟨a,b,c,d,rfl⟩
  rw[hcell]at pt
  have hsz:(St.mk k s e body els line).size=e.size+az body+az els+1:=rfl
  have hdp:(St.mk k s e body els line).deep=max e.deep (max (bp body) (bp els))+1:=rfl
  have fl2:=pt.fld 2
  have le:am true 4 K (fp (cF 9 v i) 2)=some (.agg [c0,c1,c2,c3]):=by
   have pe:=pt.part (o:=2) (k:=4) (by simp)
   obtain⟨a,ea,hrd⟩:=pe
   rw[ea]
   simp only[am]
   have hrd':bv K a 4=some [c0,c1,c2,c3]:=hrd
   rw[hrd']; rfl
  simp only[sA,sB,seval,t0,t1,t6,t7,t8,ln,hlt',ix,fl2,le,hlw]
  refine (qC e.size rL x1 om om).mono ?_
  rintro _ K1 ⟨⟨n1,d1,rfl,a1,a2,a3⟩,E1⟩
  have e1:=E1.next
  have EK1:=EK.trans (E1.less om)
  have kk:∀{K':aa},aS K.next K K'->∀b,b<K.next->b<K'.next/\K'.get b=K.get b:=fun q b hb=>⟨by have:=q.next; omega,q.old b hb⟩
  have pk:∀{K':aa},aS H.next H K'->nk K' (cF 9 v i) (.int .u8 (k:Int)::.str s::([c0,c1,c2,c3]++[vb,ve,.int .i64 line])):=by
   intro K' q
   refine pt.same fun a ea=>?_
   have hb:=z1.blk hlt a ea
   rw[q.old _ hb,EK.old _ hb]
  have p6:=(pk EK1).load (o:=6) (x:=vb) rfl
  have fl6:=pt.fld 6
  have w1:IntKind.i64.wrap ((n:Int)+(n1:Int))=((n+n1:Nat):Int):=jT n n1 om
  simp only[sA,sB,seval,b9,b7,t0,t1,t6,t7,t8,w1,qV,ix,fl6,p6,hlw]
  refine (ih om (y1.mono (kk E1)) (y2.mono (kk E1)) om om).mono ?_
  rintro _ K2 ⟨⟨n2,d2,rfl,b1,b2,b3⟩,E2⟩
  have e2:=E2.next
  have EK2:=EK1.trans (E2.less om)
  have E12:=E1.trans (E2.less om)
  have p7:=(pk EK2).load (o:=7) (x:=ve) rfl
  have fl7:=pt.fld 7
  have w2:IntKind.i64.wrap (((n+n1:Nat):Int)+(n2:Int))=((n+n1+n2:Nat):Int):=jT (n+n1) n2 om
  simp only[sA,sB,seval,b9,b7,t0,t1,t6,t7,t8,w2,qV,ix,fl7,p7,hlw]
  refine (ih om (y3.mono (kk E12)) (y4.mono (kk E12)) om om).mono ?_
  rintro _ K3 ⟨⟨n3,d3,rfl,g1,g2,g3⟩,E3⟩
  have EK3:=EK2.trans (E3.less om)
  have w3:IntKind.i64.wrap (((n+n1+n2:Nat):Int)+(n3:Int))=((n+n1+n2+n3:Nat):Int):=jT (n+n1+n2) n3 om
  simp only[sA,sB,seval,b9,b7,t0,t1,t6,t7,t8,w3,qV,wi]
  refine⟨l.length-(i+1),om,i+1,n+n1+n2+n3,max (max (max d d1) d2) d3,rfl,om,tt,tt,tt,tt,tt,EK3,?_,?_,?_⟩
  ·rw[hts,eM]; simp only[az]; omega
  ·rw[hts,jk]; simp only[bp]; rw[hdp]; exact arD hd a2 b2 g2
  ·rw[hts,eM,jk]; simp only[az,bp]; rw[hsz,hdp]; exact arN om hnd a3 b3 g3
theorem sV{l:List St}{C:List ab}{v:ab}{H:aa}(z1:eX (·<H.next) H 9 v l.length C)(z2:gc (·<H.next) H l C)(hs:az l<=1000000) :
  aq Tryz.prog aA 35 [v] H fun u H'=>u=.bool (fW l)/\aS H.next H H':=by
 refine af rfl P9 rfl ?_
 simp only[c35,sA,sB,seval]
 refine (yG (az l) (lv:=41) rL z1 z2 om hs).mono ?_
 rintro _ H1 ⟨⟨n,d,rfl,a1,a2,a3⟩,E1⟩
 simp only[sA,sB,seval,b9,b7]
 by_cases h1:n<=1000
 ·have h1':(n:Int)<=1000:=om
  by_cases h2:d<=40
  ·have h2':(d:Int)<=40:=om
   have hf:fW l=true:=by
    unfold fW
    rw[decide_eq_true (by have:=a3 om; omega),decide_eq_true om]; rfl
   simp only[sA,sB,seval,h1',h2',hf]
   exact⟨tt,E1⟩
  ·have h2':¬(d:Int)<=40:=om
   have hf:fW l=false:=by
    unfold fW
    rw[show decide (bp l<=40)=false from decide_eq_false om,Bool.and_false]
   simp only[sA,sB,seval,h1',h2',hf]
   exact⟨tt,E1⟩
 ·have h1':¬(n:Int)<=1000:=om
  have hf:fW l=false:=by
   unfold fW
   rw[show decide (az l<=1000)=false from decide_eq_false om]; rfl
  simp only[sA,sB,seval,h1',hf]
  exact⟨tt,E1⟩
open Go.Abs Go.Abs.S
noncomputable section
def c3:bV:=⟨77,zq [zo 4 (.mv (.c (.bool false)))] (zr [zm 14 0,zo 15 (.len true (.t 14)),zk 16 .gtr 15 3000] 16 (.reg [zm 17 0,zo 18 (.slStr (.t 17) none (some (zi 3000))),zm 0 18]) .skip (zr [zm 19 1,zx 20 7 [.t 19,zi 100,zi 2000]] 20 (zq [zx 21 8 [],zm 4 21] .ret) .skip (zq [zm 23 0,zx 24 9 [.t 23],zm 22 24,ze 25 0 22,ze 26 1 22,zo 6 (.new [zI 0,zI 0]),zm 5 25,zp (.store 2 (.t 6) (.t 26))] (zq [zm 28 0,zx 29 10 [.t 28],zm 27 29,ze 30 0 27,ze 31 1 27,zo 8 (.new [zI 0,zI 0]),zm 7 30,zp (.store 2 (.t 8) (.t 31))] (zq [zm 32 1,zx 33 11 [.t 32],zm 9 33] (zq [zm 35 9,zx 36 12 [.t 35],zm 34 36,ze 37 0 34,ze 38 1 34,zm 10 37,zm 11 38] (zq [zm 40 1,zx 41 13 [.t 40],zm 39 41,ze 42 0 39,ze 43 1 39,zm 12 42,zm 13 43] (zq [zt 44 2 6,zt 45 2 8,zo 46 (.pf (.eqS false [(0,.int),(1,.int)]) [.t 44,.t 45]),zm 47 46,zg 48 (.mv (.t 5)) 47 true,zg 49 (.mv (.t 7)) 47 true,zg 50 (.call 14 [.t 48,.t 49,.c (.bool true)]) 47 true,zo 51 (.pick (.t 47) (.t 50) (.c (.bool false))),zm 52 51,zg 53 (.mv (.t 9)) 52 true,zg 54 (.call 15 [.t 53]) 52 true,zg 55 (.mv (.t 1)) 52 true,zg 56 (.call 16 [.t 55]) 52 true,zg 57 (.pf (.eqv false .bool) [.t 54,.t 56]) 52 true,zo 58 (.pick (.t 52) (.t 57) (.c (.bool false))),zm 59 58,zg 60 (.mv (.t 10)) 59 true,zg 61 (.mv (.t 12)) 59 true,zg 62 (.bin .eql (.t 60) (.t 61)) 59 true,zo 63 (.pick (.t 59) (.t 62) (.c (.bool false))),zm 64 63,zg 65 (.mv (.t 11)) 64 true,zg 66 (.mv (.t 13)) 64 true,zg 67 (.bin .eql (.t 65) (.t 66)) 64 true,zo 68 (.pick (.t 64) (.t 67) (.c (.bool false))),zm 69 68,zg 70 (.mv (.t 9)) 69 true,zg 71 (.mv (.t 1)) 69 true,zg 72 (.call 14 [.t 70,.t 71,.c (.bool true)]) 69 true,zo 73 (.pick (.t 69) (.t 72) (.c (.bool false))),zm 74 73,zg 75 (.call 8 []) 74 true,zo 76 (.pick (.t 74) (.t 75) (.c (.bool false))),zm 4 76] .ret)))))))),[.t 4]⟩
theorem za3:cN Tryz.prog 3=some c3:=by kernel_rfl
def c7:bV:=⟨12,zq [zo 6 (.mv (.c (.bool false)))] (zq [zo 7 (.new [zI 0]),zp (.store 1 (.t 7) (zi 0))] (zq [zm 8 0,zm 9 1,zm 10 2,zx 11 28 [.t 8,.t 9,.t 10,.t 7],zm 6 11] .ret)),[.t 6]⟩
theorem za7:cN Tryz.prog 7=some c7:=by kernel_rfl
def QG:bV:=⟨76,zq [zo 8 (.mv (.c (.bool false)))] (.seq (zq [zo 9 (.mv (zi 0))] (.block 0 (.loop (zr [zm 10 9,zm 11 0,zh 12 11,zb 13 .lss 10 12] 13 .skip (.exit 0) (.seq (.block 1 (zq [zm 16 3,zm 17 3,zc 18 17,zl 19 18,zk 20 .add 19 1,zc 21 16,zs 21 20] (zq [zm 22 3,zc 23 22,zl 24 23,zm 25 2,zb 26 .gtr 24 25,zm 27 26,zg 28 (.mv (.t 1)) 27 false,zg 29 (.bin .lss (.t 28) (zi 1)) 27 false,zo 30 (.pick (.t 27) (.c (.bool true)) (.t 29)),zm 31 30,zg 32 (.mv (.t 0)) 31 false,zg 33 (.mv (.t 9)) 31 false,zg 34 (.idxA 9 (.t 32) (.t 33)) 31 false,zg 35 (.fieldA 1 (.t 34)) 31 false,zg 36 (.load false 1 (.t 35)) 31 false,zg 37 (.len true (.t 36)) 31 false,zg 38 (.bin .gtr (.t 37) (zi 1000)) 31 false,zo 39 (.pick (.t 31) (.c (.bool true)) (.t 38)),zm 40 39,zg 41 (.mv (.t 0)) 40 false,zg 42 (.mv (.t 9)) 40 false,zg 43 (.idxA 9 (.t 41) (.t 42)) 40 false,zg 44 (.fieldA 2 (.t 43)) 40 false,zg 45 (.load true 4 (.t 44)) 40 false,zg 46 (.mv (.t 1)) 40 false,zg 47 (.bin .sub (.t 46) (zi 1)) 40 false,zg 48 (.mv (.t 2)) 40 false,zg 49 (.mv (.t 3)) 40 false,zg 50 (.call 56 [.t 45,.t 47,.t 48,.t 49]) 40 false,zo 51 (.pick (.t 40) (.c (.bool true)) (.t 50)),zm 52 51,zg 53 (.mv (.t 0)) 52 false,zg 54 (.mv (.t 9)) 52 false,zg 55 (.idxA 9 (.t 53) (.t 54)) 52 false,zg 56 (.fieldA 6 (.t 55)) 52 false,zg 57 (.load false 1 (.t 56)) 52 false,zg 58 (.mv (.t 1)) 52 false,zg 59 (.bin .sub (.t 58) (zi 1)) 52 false,zg 60 (.mv (.t 2)) 52 false,zg 61 (.mv (.t 3)) 52 false,zg 62 (.call 28 [.t 57,.t 59,.t 60,.t 61]) 52 false,zo 63 (.pick (.t 52) (.c (.bool true)) (.t 62)),zm 64 63,zg 65 (.mv (.t 0)) 64 false,zg 66 (.mv (.t 9)) 64 false,zg 67 (.idxA 9 (.t 65) (.t 66)) 64 false,zg 68 (.fieldA 7 (.t 67)) 64 false,zg 69 (.load false 1 (.t 68)) 64 false,zg 70 (.mv (.t 1)) 64 false,zg 71 (.bin .sub (.t 70) (zi 1)) 64 false,zg 72 (.mv (.t 2)) 64 false,zg 73 (.mv (.t 3)) 64 false,zg 74 (.call 28 [.t 69,.t 71,.t 72,.t 73]) 64 false,zo 75 (.pick (.t 64) (.c (.bool true)) (.t 74))] (.cond (.t 75) (zq [zo 8 (.mv (.c (.bool true)))] .ret) .skip)))) (.reg [zm 14 9,zk 15 .add 14 1,zm 9 15])))))) (zq [zo 8 (.mv (.c (.bool false)))] .ret)),[.t 8]⟩
theorem M3:cN Tryz.prog 28=some QG:=by kernel_rfl
def OB:bV:=⟨48,zq [zo 4 (.box (.t 0)),zo 8 (.mv (.c (.bool false)))] (zq [zm 10 3,zm 11 3,zc 12 11,zl 13 12,zk 14 .add 13 1,zc 15 10,zs 15 14] (zr [zm 16 3,zc 17 16,zl 18 17,zm 19 2,zb 20 .gtr 18 19,zm 21 20,zg 22 (.mv (.t 1)) 21 false,zg 23 (.bin .lss (.t 22) (zi 1)) 21 false,zo 24 (.pick (.t 21) (.c (.bool true)) (.t 23)),zm 25 24,zg 26 (.fieldA 1 (.t 4)) 25 false,zg 27 (.load false 1 (.t 26)) 25 false,zg 28 (.len true (.t 27)) 25 false,zg 29 (.bin .gtr (.t 28) (zi 1000)) 25 false,zo 30 (.pick (.t 25) (.c (.bool true)) (.t 29))] 30 (zq [zo 8 (.mv (.c (.bool true)))] .ret) .skip (.seq (zq [zo 9 (.mv (zi 0))] (.block 0 (.loop (zr [zm 31 9,zf 32 3 4,zl 33 32,zh 34 33,zb 35 .lss 31 34] 35 .skip (.exit 0) (.seq (.block 1 (zq [zf 38 3 4,zl 39 38,zm 40 9,zo 41 (.idxA 4 (.t 39) (.t 40)),zt 42 4 41,zm 43 1,zk 44 .sub 43 1,zm 45 2,zm 46 3,zx 47 56 [.t 42,.t 44,.t 45,.t 46]] (.cond (.t 47) (zq [zo 8 (.mv (.c (.bool true)))] .ret) .skip))) (.reg [zm 36 9,zk 37 .add 36 1,zm 9 37])))))) (zq [zo 8 (.mv (.c (.bool false)))] .ret)))),[.t 8]⟩
theorem P4:cN Tryz.prog 56=some OB:=by kernel_rfl
def c8:bV:=⟨108,zq [zo 0 (.mv (.c (.bool false)))] (zq [zx 12 9 [.c (.str [108,101,116,32,97,32,61,32,49,32,43,32,50,32,42,32,98,59])],zm 11 12,ze 13 0 11,ze 14 1 11,zo 2 (.new [zI 0,zI 0]),zm 1 13,zp (.store 2 (.t 2) (.t 14))] (zq [zx 16 9 [.c (.str [114,101,116,117,114,110,32,45,120,40,112,41,32,60,32,48,46,53,59])],zm 15 16,ze 17 0 15,ze 18 1 15,zo 4 (.new [zI 0,zI 0]),zm 3 17,zp (.store 2 (.t 4) (.t 18))] (zq [zx 20 9 [.c (.str [105,102,32,40,97,41,32,123,32,125,32,101,108,115,101,32,123,32,114,101,116,117,114,110,32,49,59,32,125])],zm 19 20,ze 21 0 19,ze 22 1 19,zo 6 (.new [zI 0,zI 0]),zm 5 21,zp (.store 2 (.t 6) (.t 22))] (zq [zx 24 9 [.c (.str [108,101,116,32,97,32,61,32,49])],zm 23 24,ze 25 0 23,ze 26 1 23,zo 8 (.new [zI 0,zI 0]),zm 7 25,zp (.store 2 (.t 8) (.t 26))] (zq [zm 28 1,zx 29 12 [.t 28],zm 27 29,ze 30 0 27,ze 31 1 27,zm 9 30,zm 10 31] (zq [zf 32 0 2,zl 33 32,zk 34 .eql 33 0,zm 35 34,zg 36 (.mv (.t 1)) 35 true,zg 37 (.len false (.t 36)) 35 true,zg 38 (.bin .eql (.t 37) (zi 1)) 35 true,zo 39 (.pick (.t 35) (.t 38) (.c (.bool false))),zm 40 39,zg 41 (.mv (.t 1)) 40 true,zg 42 (.idxA 9 (.t 41) (zi 0)) 40 true,zg 43 (.fieldA 2 (.t 42)) 40 true,zg 44 (.fieldA 1 (.t 43)) 40 true,zg 45 (.load false 1 (.t 44)) 40 true,zg 46 (.bin .eql (.t 45) (.c (.str [43]))) 40 true,zo 47 (.pick (.t 40) (.t 46) (.c (.bool false))),zm 48 47,zg 49 (.fieldA 0 (.t 4)) 48 true,zg 50 (.load false 1 (.t 49)) 48 true,zg 51 (.bin .eql (.t 50) (zi 0)) 48 true,zo 52 (.pick (.t 48) (.t 51) (.c (.bool false))),zm 53 52,zg 54 (.mv (.t 3)) 53 true,zg 55 (.len false (.t 54)) 53 true,zg 56 (.bin .eql (.t 55) (zi 1)) 53 true,zo 57 (.pick (.t 53) (.t 56) (.c (.bool false))),zm 58 57,zg 59 (.mv (.t 3)) 58 true,zg 60 (.idxA 9 (.t 59) (zi 0)) 58 true,zg 61 (.fieldA 2 (.t 60)) 58 true,zg 62 (.fieldA 1 (.t 61)) 58 true,zg 63 (.load false 1 (.t 62)) 58 true,zg 64 (.bin .eql (.t 63) (.c (.str [60]))) 58 true,zo 65 (.pick (.t 58) (.t 64) (.c (.bool false))),zm 66 65,zg 67 (.mv (.t 3)) 66 true,zg 68 (.idxA 9 (.t 67) (zi 0)) 66 true,zg 69 (.fieldA 2 (.t 68)) 66 true,zg 70 (.fieldA 3 (.t 69)) 66 true,zg 71 (.load false 1 (.t 70)) 66 true,zg 72 (.idxA 4 (.t 71) (zi 0)) 66 true,zg 73 (.fieldA 1 (.t 72)) 66 true,zg 74 (.load false 1 (.t 73)) 66 true,zg 75 (.bin .eql (.t 74) (.c (.str [45]))) 66 true,zo 76 (.pick (.t 66) (.t 75) (.c (.bool false))),zm 77 76,zg 78 (.fieldA 0 (.t 6)) 77 true,zg 79 (.load false 1 (.t 78)) 77 true,zg 80 (.bin .eql (.t 79) (zi 0)) 77 true,zo 81 (.pick (.t 77) (.t 80) (.c (.bool false))),zm 82 81,zg 83 (.mv (.t 5)) 82 true,zg 84 (.len false (.t 83)) 82 true,zg 85 (.bin .eql (.t 84) (zi 1)) 82 true,zo 86 (.pick (.t 82) (.t 85) (.c (.bool false))),zm 87 86,zg 88 (.mv (.t 5)) 87 true,zg 89 (.idxA 9 (.t 88) (zi 0)) 87 true,zg 90 (.fieldA 7 (.t 89)) 87 true,zg 91 (.load false 1 (.t 90)) 87 true,zg 92 (.len false (.t 91)) 87 true,zg 93 (.bin .eql (.t 92) (zi 1)) 87 true,zo 94 (.pick (.t 87) (.t 93) (.c (.bool false))),zm 95 94,zg 96 (.load true 2 (.t 8)) 95 true,zg 97 (.build [zI 0,zI 0] [(0,1,zi 101),(1,1,zi 1)]) 95 true,zg 98 (.pf (.eqS false [(0,.int),(1,.int)]) [.t 96,.t 97]) 95 true,zo 99 (.pick (.t 95) (.t 98) (.c (.bool false))),zm 100 99,zg 101 (.mv (.t 10)) 100 true,zg 102 (.bin .eql (.t 101) (zi 0)) 100 true,zo 103 (.pick (.t 100) (.t 102) (.c (.bool false))),zm 104 103,zg 105 (.mv (.t 9)) 104 true,zg 106 (.bin .eql (.t 105) (.c (.str [108,101,116,32,97,32,61,32,49,32,43,32,40,50,32,42,32,98,41,59,10]))) 104 true,zo 107 (.pick (.t 104) (.t 106) (.c (.bool false))),zm 0 107] .ret)))))),[.t 0]⟩
theorem za8:cN Tryz.prog 8=some c8:=by kernel_rfl
def QI:bV:=⟨33,zq [zo 2 (.mv zn)] (zq [zo 3 (.mv zn)] (.seq (zq [zo 4 (.mv (zi 0))] (.block 0 (.loop (zr [zm 6 4,zm 7 0,zh 8 7,zb 9 .lss 6 8] 9 .skip (.exit 0) (.seq (.block 1 (zq [zm 12 0,zm 13 4,zo 14 (.idxA 9 (.t 12) (.t 13)),zt 15 9 14,zo 5 (.new [zU 0,.str [],zU 0,.str [],zI 0,zN,zN,zN,zI 0]),zp (.store 9 (.t 5) (.t 15))] (.seq (.draw [zf 16 2 5,zt 17 4 16,zx 18 36 [.t 17],zf 19 6 5,zl 20 19,zx 21 11 [.t 20],zf 22 7 5,zl 23 22,zx 24 11 [.t 23],zf 25 2 5,zp (.store 4 (.t 25) (.t 18)),zf 26 6 5,zs 26 21,zf 27 7 5,zs 27 24] [[],[],[],[],[2],[],[],[2,5],[],[],[],[],[],[],[]]) (.reg [zm 28 3,zt 29 9 5,zo 30 (.buildSl 1 [zU 0,.str [],zU 0,.str [],zI 0,zN,zN,zN,zI 0] [(0,9,.t 29)]),zo 31 (.append 9 136 (.t 28) (.t 30)),zm 3 31])))) (.reg [zm 10 4,zk 11 .add 10 1,zm 4 11])))))) (zq [zm 32 3,zm 2 32] .ret))),[.t 2]⟩
theorem NQ:cN Tryz.prog 11=some QI:=by kernel_rfl
def c36:bV:=⟨31,zq [zo 1 (.box (.t 0)),zo 2 (.new [zU 0,.str [],zI 0,zN])] (zq [zf 5 0 1,zl 6 5,zf 7 1 1,zl 8 7,zf 9 2 1,zl 10 9,zo 11 (.build [zU 0,.str [],zI 0,zN] [(0,1,.t 6),(1,1,.t 8),(2,1,.t 10)]),zo 3 (.new [zU 0,.str [],zI 0,zN]),zp (.store 4 (.t 3) (.t 11))] (.seq (zq [zo 4 (.mv (zi 0))] (.block 0 (.loop (zr [zm 12 4,zf 13 3 1,zl 14 13,zh 15 14,zb 16 .lss 12 15] 16 .skip (.exit 0) (.seq (.block 1 (.draw [zf 19 3 3,zl 20 19,zf 21 3 1,zl 22 21,zm 23 4,zo 24 (.idxA 4 (.t 22) (.t 23)),zt 25 4 24,zx 26 36 [.t 25],zo 27 (.buildSl 1 [zU 0,.str [],zI 0,zN] [(0,4,.t 26)]),zo 28 (.append 4 56 (.t 20) (.t 27)),zf 29 3 3,zs 29 28] [[],[8,9],[],[],[],[],[],[],[],[],[],[]])) (.reg [zm 17 4,zk 18 .add 17 1,zm 4 18])))))) (zq [zt 30 4 3,zp (.store 4 (.t 2) (.t 30))] .ret))),[.cell true 4 2]⟩
theorem P8:cN Tryz.prog 36=some c36:=by kernel_rfl
def QH:bV:=⟨77,zq [zo 6 (.mv (.c (.bool false)))] (zr [zm 10 0,zh 11 10,zm 12 1,zh 13 12,zb 14 .neq 11 13] 14 (zq [zo 6 (.mv (.c (.bool false)))] .ret) .skip (.seq (zq [zo 7 (.mv (zi 0))] (.block 0 (.loop (zr [zm 15 7,zm 16 0,zh 17 16,zb 18 .lss 15 17] 18 .skip (.exit 0) (.seq (.block 1 (.seq (.draw [zm 21 0,zm 22 7,zo 23 (.idxA 9 (.t 21) (.t 22)),zt 24 9 23,zm 25 1,zm 26 7,zo 27 (.idxA 9 (.t 25) (.t 26)),zt 28 9 27,zo 8 (.new [zU 0,.str [],zU 0,.str [],zI 0,zN,zN,zN,zI 0]),zo 9 (.new [zU 0,.str [],zU 0,.str [],zI 0,zN,zN,zN,zI 0]),zp (.store 9 (.t 8) (.t 24)),zp (.store 9 (.t 9) (.t 28))] [[],[],[],[],[],[],[],[11],[],[],[],[]]) (zq [zf 29 0 8,zl 30 29,zf 31 0 9,zl 32 31,zb 33 .neq 30 32,zm 34 33,zg 35 (.fieldA 1 (.t 8)) 34 false,zg 36 (.load false 1 (.t 35)) 34 false,zg 37 (.fieldA 1 (.t 9)) 34 false,zg 38 (.load false 1 (.t 37)) 34 false,zg 39 (.bin .neq (.t 36) (.t 38)) 34 false,zo 40 (.pick (.t 34) (.c (.bool true)) (.t 39)),zm 41 40,zg 42 (.mv (.t 2)) 41 false,zg 43 (.mv (.t 42)) 41 false,zg 44 (.fieldA 8 (.t 8)) 43 true,zg 45 (.load false 1 (.t 44)) 43 true,zg 46 (.fieldA 8 (.t 9)) 43 true,zg 47 (.load false 1 (.t 46)) 43 true,zg 48 (.bin .neq (.t 45) (.t 47)) 43 true,zg 49 (.pick (.t 43) (.t 48) (.c (.bool false))) 41 false,zo 50 (.pick (.t 41) (.c (.bool true)) (.t 49)),zm 51 50,zg 52 (.fieldA 2 (.t 8)) 51 false,zg 53 (.load true 4 (.t 52)) 51 false,zg 54 (.fieldA 2 (.t 9)) 51 false,zg 55 (.load true 4 (.t 54)) 51 false,zg 56 (.call 39 [.t 53,.t 55]) 51 false,zg 57 (.un .not (.t 56)) 51 false,zo 58 (.pick (.t 51) (.c (.bool true)) (.t 57)),zm 59 58,zg 60 (.fieldA 6 (.t 8)) 59 false,zg 61 (.load false 1 (.t 60)) 59 false,zg 62 (.fieldA 6 (.t 9)) 59 false,zg 63 (.load false 1 (.t 62)) 59 false,zg 64 (.mv (.t 2)) 59 false,zg 65 (.call 14 [.t 61,.t 63,.t 64]) 59 false,zg 66 (.un .not (.t 65)) 59 false,zo 67 (.pick (.t 59) (.c (.bool true)) (.t 66)),zm 68 67,zg 69 (.fieldA 7 (.t 8)) 68 false,zg 70 (.load false 1 (.t 69)) 68 false,zg 71 (.fieldA 7 (.t 9)) 68 false,zg 72 (.load false 1 (.t 71)) 68 false,zg 73 (.mv (.t 2)) 68 false,zg 74 (.call 14 [.t 70,.t 72,.t 73]) 68 false,zg 75 (.un .not (.t 74)) 68 false,zo 76 (.pick (.t 68) (.c (.bool true)) (.t 75))] (.cond (.t 76) (zq [zo 6 (.mv (.c (.bool false)))] .ret) .skip)))) (.reg [zm 19 7,zk 20 .add 19 1,zm 7 20])))))) (zq [zo 6 (.mv (.c (.bool true)))] .ret))),[.t 6]⟩
theorem Ny:cN Tryz.prog 14=some QH:=by kernel_rfl
def c39:bV:=⟨53,zq [zo 2 (.box (.t 0)),zo 3 (.box (.t 1)),zo 4 (.mv (.c (.bool false)))] (zr [zf 6 0 2,zl 7 6,zf 8 0 3,zl 9 8,zb 10 .neq 7 9,zm 11 10,zg 12 (.fieldA 1 (.t 2)) 11 false,zg 13 (.load false 1 (.t 12)) 11 false,zg 14 (.fieldA 1 (.t 3)) 11 false,zg 15 (.load false 1 (.t 14)) 11 false,zg 16 (.bin .neq (.t 13) (.t 15)) 11 false,zo 17 (.pick (.t 11) (.c (.bool true)) (.t 16)),zm 18 17,zg 19 (.fieldA 2 (.t 2)) 18 false,zg 20 (.load false 1 (.t 19)) 18 false,zg 21 (.fieldA 2 (.t 3)) 18 false,zg 22 (.load false 1 (.t 21)) 18 false,zg 23 (.bin .neq (.t 20) (.t 22)) 18 false,zo 24 (.pick (.t 18) (.c (.bool true)) (.t 23)),zm 25 24,zg 26 (.fieldA 3 (.t 2)) 25 false,zg 27 (.load false 1 (.t 26)) 25 false,zg 28 (.len false (.t 27)) 25 false,zg 29 (.fieldA 3 (.t 3)) 25 false,zg 30 (.load false 1 (.t 29)) 25 false,zg 31 (.len false (.t 30)) 25 false,zg 32 (.bin .neq (.t 28) (.t 31)) 25 false,zo 33 (.pick (.t 25) (.c (.bool true)) (.t 32))] 33 (zq [zo 4 (.mv (.c (.bool false)))] .ret) .skip (.seq (zq [zo 5 (.mv (zi 0))] (.block 0 (.loop (zr [zm 34 5,zf 35 3 2,zl 36 35,zh 37 36,zb 38 .lss 34 37] 38 .skip (.exit 0) (.seq (.block 1 (zq [zf 41 3 2,zl 42 41,zm 43 5,zo 44 (.idxA 4 (.t 42) (.t 43)),zt 45 4 44,zf 46 3 3,zl 47 46,zm 48 5,zo 49 (.idxA 4 (.t 47) (.t 48)),zt 50 4 49,zx 51 39 [.t 45,.t 50],zo 52 (.un .not (.t 51))] (.cond (.t 52) (zq [zo 4 (.mv (.c (.bool false)))] .ret) .skip))) (.reg [zm 39 5,zk 40 .add 39 1,zm 5 40])))))) (zq [zo 4 (.mv (.c (.bool true)))] .ret))),[.t 4]⟩
theorem P6:cN Tryz.prog 39=some c39:=by kernel_rfl
def c4:bV:=⟨69,zq [zo 2 (.mv (.c (.bool false)))] (zq [zm 12 0,zx 13 17 [.t 12,zi 201],zo 14 (.bin .add (zi 30) (.t 13)),zm 0 14] (zq [zo 3 (.mv (.c (.str []))),zo 4 (.mv (.c (.str []))),zo 5 (.mv (.c (.str []))),zo 6 (.mv (.c (.str []))),zo 7 (.mv (.c (.str [])))] (.seq (zq [zo 8 (.mv (zi 0))] (.block 0 (.loop (zr [zm 15 8,zm 16 0,zb 17 .lss 15 16] 17 .skip (.exit 0) (.seq (.block 1 (zq [zm 20 3,zo 21 (.bin .add (.t 20) (.c (.str [40]))),zm 22 4,zo 23 (.bin .add (.t 22) (.c (.str [45]))),zm 24 5,zo 25 (.bin .add (.t 24) (.c (.str [105,102,32,40,97,41,32,123]))),zm 26 6,zo 27 (.bin .add (.t 26) (.c (.str [125]))),zm 3 21,zm 4 23,zm 5 25,zm 6 27] (.reg [zm 28 7,zo 29 (.bin .add (.t 28) (.c (.str [41]))),zm 7 29]))) (.reg [zm 18 8,zk 19 .add 18 1,zm 8 19])))))) (zq [zo 9 (.mv (.c (.str [])))] (.seq (zq [zo 10 (.mv (zi 0))] (.block 2 (.loop (zr [zm 30 10,zm 31 0,zk 32 .rem 31 41,zo 33 (.bin .add (zi 480) (.t 32)),zb 34 .lss 30 33] 34 .skip (.exit 2) (.seq (.block 3 (.reg [zm 37 9,zo 38 (.bin .add (.t 37) (.c (.str [114,101,116,117,114,110,32,49,59]))),zm 9 38])) (.reg [zm 35 10,zk 36 .add 35 1,zm 10 36])))))) (zq [zo 11 (.mv (.f 18))] (zq [zm 39 11,zm 40 3,zo 41 (.bin .add (.c (.str [114,101,116,117,114,110,32])) (.t 40)),zo 42 (.bin .add (.t 41) (.c (.str [49]))),zm 43 7,zb 44 .add 42 43,zo 45 (.bin .add (.t 44) (.c (.str [59]))),zo 46 (.callv (.t 39) [.t 45]),zm 47 46,zg 48 (.mv (.t 11)) 47 true,zg 49 (.mv (.t 4)) 47 true,zg 50 (.bin .add (.c (.str [114,101,116,117,114,110,32])) (.t 49)) 47 true,zg 51 (.bin .add (.t 50) (.c (.str [49,59]))) 47 true,zg 52 (.callv (.t 48) [.t 51]) 47 true,zo 53 (.pick (.t 47) (.t 52) (.c (.bool false))),zm 54 53,zg 55 (.mv (.t 11)) 54 true,zg 56 (.mv (.t 5)) 54 true,zg 57 (.mv (.t 6)) 54 true,zg 58 (.bin .add (.t 56) (.t 57)) 54 true,zg 59 (.callv (.t 55) [.t 58]) 54 true,zo 60 (.pick (.t 54) (.t 59) (.c (.bool false))),zm 61 60,zg 62 (.mv (.t 11)) 61 true,zg 63 (.mv (.t 9)) 61 true,zg 64 (.callv (.t 62) [.t 63]) 61 true,zo 65 (.pick (.t 61) (.t 64) (.c (.bool false))),zm 66 65,zg 67 (.call 8 []) 66 true,zo 68 (.pick (.t 66) (.t 67) (.c (.bool false))),zm 2 68] .ret))))))),[.t 2]⟩
end
open Go.Abs Go.Abs.S
mutual
def DH:Ex->Bool
 | .mk _ s _ kids=>decide (s.length<=1000)&&oz kids
def oz:List Ex->Bool
 | []=>true
 | e::l=>DH e&&oz l
end
mutual
def MP:St->Bool
 | .mk _ s e body els _=>decide (s.length<=1000)&&(DH e&&(iV body&&iV els))
def iV:List St->Bool
 | []=>true
 | e::l=>MP e&&iV l
end
theorem FR(l m:List Ex):oz (l++m)=(oz l&&oz m):=by
 induction l with
 | nil=>simp[oz]
 | cons x l ih=>simp only[Q9,oz,ih,Bool.and_assoc]
theorem FP(l m:List St):iV (l++m)=(iV l&&iV m):=by
 induction l with
 | nil=>simp[iV]
 | cons x l ih=>simp only[Q9,iV,ih,Bool.and_assoc]
def MM(b n sz lv dp:Nat)(sm:Bool)(H:aa)(u:ab)(H':aa):Prop:=
 Fp b H H'/\∃(r:Bool) (n':Nat),u=.bool r/\aT H' b [.int .i64 (n':Int)]/\(r=false->n'=n+sz/\n'<=2000/\dp<=lv/\sm=true)
theorem sO:∀(N:Nat) {e:Ex} {c:List ab} {H:aa} {lv n b:Nat},e.size<=N->XE (fun x=>x<H.next/\x≠b) H e c->aT H b [.int .i64 (n:Int)]->b<H.next->n<=2000->lv<=100 ->
  aq Tryz.prog aA 56 [.agg c,.int .i64 (lv:Int),.int .i64 2000,ae b 1 0] H (MM b n e.size lv e.deep (DH e) H)
 | 0,e,_,_,_,_,_,h,_,_,_,_,_=>absurd (iQ e) om
 | N+1,.mk k s z kids,c,H,lv,n,b,h,hx,hr,hb,hn,hl=>by
  obtain⟨v,C,rfl,z1,z2⟩:=hx
  have hsz:(Ex.mk k s z kids).size=aQ kids+1:=rfl
  have hdp:(Ex.mk k s z kids).deep=dx kids+1:=rfl
  obtain⟨Q,hQ⟩:∃Q,Q=MM b n (Ex.mk k s z kids).size lv (Ex.mk k s z kids).deep (DH (.mk k s z kids)) H:=⟨_,rfl⟩
  rw[<- hQ]
  refine af rfl P4 rfl ?_
  obtain⟨H1,m1,r1,n1,k1⟩:=au H [.int .u8 (k:Int),.str s,.int .i64 z,v] (n:=4) rfl
  have hr1:aT H1 b [.int .i64 (n:Int)]:=hr.same (k1 b om)
  have lb1:am false 1 H1 (ae b 1 0)=some (.int .i64 (n:Int)):=ah hr1 rfl rfl
  have wn:IntKind.i64.wrap ((n:Int)+1)=((n+1:Nat):Int):=jT n 1 om
  obtain⟨H2,m2,r2,n2,k2⟩:=cE hr1 (n:=1) rfl (i:=0) om (x:=.int .i64 ((n+1:Nat):Int)) rfl (l':=[.int .i64 ((n+1:Nat):Int)]) rfl
  have hr2:aT H2 b [.int .i64 ((n+1:Nat):Int)]:=r2
  have lb2:am false 1 H2 (ae b 1 0)=some (.int .i64 ((n+1:Nat):Int)):=ah hr2 rfl rfl
  have f2:Fp b H H2:=⟨om,fun c hc hne=>by rw[k2 c hne,k1 c om]⟩
  have x2:aT H2 H.next [.int .u8 (k:Int),.str s,.int .i64 z,v]:=r1.same (k2 _ om)
  have s1:am false 1 H2 (ae H.next 4 1)=some (.str s):=ah x2 rfl rfl
  by_cases hn1:2000<n+1
  ·have hn':((n+1:Nat):Int) > 2000:=om
   simp only[OB,sA,sB,seval,cq,aw,fld0,m1,lb1,wn,m2,lb2,hn']
   rw[hQ]
   exact⟨f2,true,n+1,tt,hr2,by simp⟩
  have hn':¬((n+1:Nat):Int) > 2000:=om
  by_cases hl0:lv=0
  ·subst hl0
   have hl':((0:Nat):Int)<1:=om
   simp only[OB,sA,sB,seval,cq,aw,fld0,m1,lb1,wn,m2,lb2,hn',hl']
   rw[hQ]
   exact⟨f2,true,n+1,tt,hr2,by simp⟩
  have hl':¬(lv:Int)<1:=om
  by_cases hs0:1000<s.length
  ·have hs':(s.length:Int) > 1000:=om
   simp only[OB,sA,sB,seval,cq,aw,fld0,m1,lb1,wn,m2,lb2,hn',hl',aB,s1,hs']
   rw[hQ]
   exact⟨f2,true,n+1,tt,hr2,by simp⟩
  have hs':¬(s.length:Int) > 1000:=om
  have hlw:IntKind.i64.wrap ((lv:Int)-1)=((lv-1:Nat):Int):=xh
  have ln:=z1.len
  simp only[OB,sA,sB,seval,cq,aw,fld0,m1,lb1,wn,m2,lb2,hn',hl',aB,s1,hs']
  refine aG (fun m (T:bG) K=>∃i n':Nat,m=kids.length-i/\i<=kids.length/\T 1=.int .i64 (lv:Int)/\T 2=.int .i64 2000/\T 3=ae b 1 0/\T 4=ae H.next 4 0/\T 9=.int .i64 (i:Int)/\Fp b H2 K/\aT K b [.int .i64 (n':Int)]/\n'=n+1+aQ (kids.take i)/\n'<=2000/\dx (kids.take i)<=lv-1/\oz (kids.take i)=true) kids.length
   ⟨0,n+1,rfl,Nat.zero_le _,by simp only[sA,sB,seval]; try rfl,by simp only[sA,sB,seval]; try rfl,by simp only[sA,sB,seval],by simp only[sA,sB,seval],by simp only[sA,sB,seval]; try rfl,Fp.refl _ _,hr2,by simp[aQ],om,by simp[dx],by simp[oz]⟩ ?_
  rintro m T K ⟨i,n',rfl,hi,t1,t2,t3,t4,t9,FK,rK,hn2,hn3,hdk,hsk⟩
  have eK:=FK.next
  have l3K:am false 1 K (ae H.next 4 3)=some v:=ah (x2.same (FK.old _ om om)) rfl rfl
  have F0K:Fp b H K:=f2.trans FK
  by_cases hlt:i<kids.length
  case neg=>
   obtain rfl:i=kids.length:=om
   have hlt':¬(kids.length:Int)<(kids.length:Int):=om
   rw[List.take_length]at hn2 hdk hsk
   simp only[sA,sB,seval,t1,t2,t3,t4,t9,aB,l3K,ln,hlt']
   rw[hQ]
   refine⟨F0K,false,n',tt,rK,fun _=>⟨om,hn3,om,?_⟩⟩
   simp only[DH,hsk,Bool.and_true,Q2]
   omega
  have hlt':(i:Int)<(kids.length:Int):=om
  obtain⟨e,he⟩:∃e,kids[i]?=some e:=⟨_,QQ hlt⟩
  have hts:kids.take (i+1)=kids.take i++[e]:=by rw[List.take_add_one,he]; rfl
  have km:∀c,(c<H.next/\c≠b)->(c<K.next/\c≠b)/\K.get c=H.get c:=fun c hc=>⟨⟨by have:=F0K.next; omega,hc.2⟩,F0K.old c hc.1 hc.2⟩
  have z13:=z1.mono km
  have z23:=z2.mono km
  have ix:=z13.idx hlt
  have ld:=z13.load hlt
  have he3:=z23.at he
  have hsm:=ep (QY he)
  have hlen:=eQ (kids.take i)
  rw[Rd,Nat.min_eq_left hi]at hlen
  have wi:IntKind.i64.wrap ((i:Int)+1)=((i+1:Nat):Int):=jT i 1 om
  simp only[sA,sB,seval,t1,t2,t3,t4,t9,aB,l3K,ln,hlt',ix,ld,hlw]
  refine (sO N om he3 rK (by have:=f2.next; omega) hn3 om).mono ?_
  rintro _ K2 ⟨F2,r,n3,rfl,rK2,hgo⟩
  cases r with
  | true=>
   simp only[sA,sB,seval]
   rw[hQ]
   exact⟨F0K.trans F2,true,n3,tt,rK2,by simp⟩
  | false=>
   obtain⟨g1,g2,g3,g4⟩:=hgo rfl
   simp only[sA,sB,seval,t1,t2,t3,t4,t9,wi]
   refine⟨kids.length-(i+1),om,i+1,n3,rfl,om,tt,tt,tt,tt,tt,FK.trans F2,rK2,?_,g2,?_,?_⟩
   ·rw[hts,eN]; simp only[aQ]; omega
   ·rw[hts,jl]; simp only[dx]; omega
   ·rw[hts,FR,hsk]; simp only[oz,g4]; rfl
end Go.Proofs.Wo
