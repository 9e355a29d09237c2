/- Part of a proof (YQ3 YG2 YG3 YG4 YC5 YH1 YR9 YX1 YX2 YB0 YB1); no condition. -/
import Derived.Test.YtfleblkgifoeaaaDoorProg
import Derived.KernelRfl
import Derived.Test.YtfleblkgifoeaaaDoorP7
import Derived.Test.YtfleblkgifoeaaaDoorP10
set_option linter.unusedSimpArgs false
set_option linter.unusedVariables false
set_option linter.unnecessarySimpa false
namespace Go.Proofs.Wo
open Go.Abs Go.Abs.S
theorem u5{T:bU}{H:ab}(g:Bool)(n i j:Nat)(K:aa->ab->Prop):fin [.t i,.cell g n j] K .ret T H=cS (am g n H (T j)) fun v=>K (.tuple [T i,v]) H:=by
 rw[Be]
 simp only[mL]
 cases am g n H (T j) with
 | none=>simp[cS]
 | some v=>simp only[aM]; rfl
theorem iU{n pb k b m:Nat}{H:ab}{vb:aa}(hv:yc n pb H k vb)(hn:n<=H.next)(hpb:pb<n)(hb:bc H b ((mt (k+1)).map aa.str))(hm:((mt (k+1)).map aa.str).length=m)(hbn:b<H.next)(hbp:b≠pb) :
  an Tryd.prog aB 12 [af pb 11 0,vb,.bool (!Nat.beq (k+1) 3),sd b m (.known m)] H fun u H'=>yc H'.next pb H' (k+1) u/\b7 H.next H H':=by
 refine ak rfl Nq rfl ?_
 obtain⟨H1,m1,r1,n1,k1⟩:=aG H [af pb 11 0] (n:=1) rfl
 have hvo:vb.cells=[vb]:=by
  cases k with
  | zero=>rw[show vb=_ from hv]; rfl
  | succ k=>obtain⟨c0,c1,c2,c3,b,m,vb',rfl,_⟩:=hv; rfl
 obtain⟨H2,m2,r2,n2,k2⟩:=aG H1 [vb] (n:=1) rfl
 obtain⟨H3,m3,r3,n3,k3⟩:=aG H2 [.bool (!Nat.beq (k+1) 3)] (n:=1) rfl
 obtain⟨H4,m4,r4,n4,k4⟩:=aG H3 [sd b m (.known m)] (n:=1) rfl
 have k04:∀c,c<H.next->H4.get c=H.get c:=fun c hc=>by rw[k4 c om,k3 c om,k2 c om,k1 c om]
 have c3:∀x:Bool,(aa.bool x).cells=[.bool x]:=fun _=>rfl
 have c4:(sd b m (.known m)).cells=[sd b m (.known m)]:=rfl
 simp only[c12,sA,sB,seval,gc,m1,hvo,m2,c3,m3,c4,m4]
 refine⟨⟨H1.next,H.next,H3.next,H2.next,b,m,vb,tt,r2.same (by rw[k4 _ om,k3 _ om]),r1.same (by rw[k4 _ om,k3 _ om,k2 _ om]),r4,r3.same (k4 _ om),hb.same (k04 b hbn),hm,?_,(hv.keep fun c hc _=>k04 c om).more om⟩,om,k04⟩
 rintro c (rfl | rfl | rfl | rfl | rfl) <;> omega
theorem GS.bound{n m:Nat}{H:ab}{v:aa}{l:List St}(h:GS n H v l)(hn:m<=n):GS m H v l:=by
 obtain⟨C,h1,h2,h3⟩:=h
 exact⟨C,h1,h2.mono fun c hc=>⟨by have:=hc.1; omega,hc.2⟩,h3.mono fun c hc=>⟨⟨⟨by have:=hc.1.1; omega,hc.1.2⟩,hc.2⟩,rfl⟩⟩
theorem oQ(s:Bs){H:ab}:an Tryd.prog aB 7 [.str s] H fun u H'=>(match dC s with
   | .ok l=>∃v C,u=.tuple [v,.agg (gq 0 0)]/\fw (In H.next H'.next) H' 9 v l.length C/\gr (In H.next H'.next) H' l C
   | .error e=>u=.tuple [cp,.agg (gq e.1 e.2)])/\b7 H.next H H':=by
 refine ak rfl za7 rfl ?_
 obtain⟨H1,m1,r1,n1,k1⟩:=aG H [.int .i64 0,.int .i64 0] (n:=2) rfl
 have bo:bT [.str [],.int .u8 0,.str [],.int .i64 0,.int .i64 0,.int .i64 0,.int .i64 0,.int .i64 0,.int .i64 0,.int .i64 0,.nilFunc] [(0,1,.str s)]=some (.agg (cj s ⟨0,[],0,0,0,0⟩ 0 0 0 .nilFunc)):=rfl
 obtain⟨H2,m2,r2,n2,k2⟩:=aG H1 (cj s ⟨0,[],0,0,0,0⟩ 0 0 0 .nilFunc) (n:=11) rfl
 obtain⟨pb,hpb⟩:∃pb,pb=H1.next:=⟨_,rfl⟩
 rw[<- hpb]at m2 r2 k2
 have sg:∀{K:ab} (L:List aa),b7 H2.next H2 K->(bc (K.push (.cells L 0 false)) K.next L/\b7 H2.next H2 (K.push (.cells L 0 false))/\(K.push (.cells L 0 false)).next=K.next+1/\∀k v,yc K.next pb K k v->yc K.next pb (K.push (.cells L 0 false)) k v):=fun {K} L E=>
  ⟨fY _ _,E.push E.next _,rfl,fun k v h=>h.keep fun c hc _=>aE hc⟩
 have s6:∀K:ab,cA 6 [.str []] K [(0,1,.str [61,61]),(1,1,.str [33,61]),(2,1,.str [60,61]),(3,1,.str [62,61]),(4,1,.str [60]),(5,1,.str [62])]=some (sd K.next 6 (.known 6),K.push (.cells [.str [61,61],.str [33,61],.str [60,61],.str [62,61],.str [60],.str [62]] 0 false)):=fun _=>rfl
 have s1:∀(K:ab) (c:Bs),cA 1 [.str []] K [(0,1,.str c)]=some (sd K.next 1 (.known 1),K.push (.cells [.str c] 0 false)):=fun _ _=>rfl
 have ag:∀l:List aa,(aa.agg l).cells=l:=dq
 simp only[c7,sW,sL,iO,ic,nW,sB,seval,m1,bo,ag,m2,Cg]
 obtain⟨p1,E1,e1,u1⟩:=sg [.str [42],.str [47]] (b7.refl H2.next H2)
 refine (iU (k:=0) (b:=H2.next) (m:=2) (u1 0 (.func (.func 13) [af pb 11 0] []) rfl) om om p1 rfl om om).mono ?_
 rintro u1 H3 ⟨R3,X3⟩
 have E3:=E1.trans (X3.less (by have:=E1.next; omega))
 generalize H2.push (.cells [.str [42],.str [47]] 0 false)=K1 at *
 simp only[sW,sL,iO,ic,nW,sB,seval,Cg]
 obtain⟨p2,E4,e4,u4⟩:=sg [.str [43],.str [45]] E3
 have x3:=E3.next
 refine (iU (k:=1) (b:=H3.next) (m:=2) (u4 1 _ R3) om om p2 rfl om om).mono ?_
 rintro u2 H5 ⟨R5,X5⟩
 have E5:=E4.trans (X5.less (by have:=E4.next; omega))
 simp only[sW,sL,iO,ic,nW,sB,seval,s6]
 obtain⟨p3,E6,e6,u6⟩:=sg [.str [61,61],.str [33,61],.str [60,61],.str [62,61],.str [60],.str [62]] E5
 have x5:=E5.next
 refine (iU (k:=2) (b:=H5.next) (m:=6) (u6 2 _ R5) om om p3 rfl om om).mono ?_
 rintro u3 H7 ⟨R7,X7⟩
 have E7:=E6.trans (X7.less (by have:=E6.next; omega))
 simp only[sW,sL,iO,ic,nW,sB,seval,s1]
 obtain⟨p4,E8,e8,u8⟩:=sg [.str [38,38]] E7
 have x7:=E7.next
 refine (iU (k:=3) (b:=H7.next) (m:=1) (u8 3 _ R7) om om p4 rfl om om).mono ?_
 rintro u4' H9 ⟨R9,X9⟩
 have E9:=E8.trans (X9.less (by have:=E8.next; omega))
 simp only[sW,sL,iO,ic,nW,sB,seval,s1]
 obtain⟨p5,Ea,ea,ua⟩:=sg [.str [124,124]] E9
 have x9:=E9.next
 refine (iU (k:=4) (b:=H9.next) (m:=1) (ua 4 _ R9) om om p5 rfl om om).mono ?_
 rintro orv Hb ⟨Rb,Xb⟩
 have Eb:=Ea.trans (Xb.less (by have:=Ea.next; omega))
 have xb:=Eb.next
 have oo:orv.one=true:=by obtain⟨c0,c1,c2,c3,b,m,vb',rfl,_⟩:=Rb; rfl
 have q2:bc Hb pb (cj s ⟨0,[],0,0,0,0⟩ 0 0 0 .nilFunc):=r2.same (Eb.old pb om)
 obtain⟨Hc,mc,rc,nc,kc⟩:=dW q2 (n:=11) rfl (i:=10) om (x:=orv) oo (l':=cj s ⟨0,[],0,0,0,0⟩ 0 0 0 orv) rfl
 have Rc:yc Hb.next pb Hc 5 orv:=Rb.keep fun c _ hc=>kc c hc
 have rt:bc Hc H.next [.int .i64 0,.int .i64 0]:=r1.same (by rw[kc _ om,Eb.old _ om,k2 _ om])
 have hold:∀c,c<H.next->Hc.get c=H.get c:=fun c hc=>by rw[kc c om,Eb.old c om,k2 c om,k1 c om]
 simp only[sW,sL,iO,ic,nW,sB,seval,aC,cz,mc]
 refine (bu rc om (by simp)).mono ?_
 rintro u Hd ⟨ho,Fd⟩
 have xd:=Fd.next
 have b0:bT [.int .i64 0,.int .i64 0] []=some (.agg (gq 0 0)):=rfl
 have bn:bT [.int .i64 0,.int .i64 0] [(0,1,.int .i64 102)]=some (.agg (gq 102 0)):=rfl
 have hst:aZ s ⟨0,[],0,0,0,0⟩=cM s 0:=rfl
 rw[hst]at ho
 cases hn:cM s 0 with
 | error e=>
  rw[hn]at ho
  obtain⟨rfl,rd⟩:=ho
  have hp:dC s=.error e:=by unfold dC; rw[hn]
  have lf:am true 2 Hd (af pb 11 8)=some (.agg (gq e.1 e.2)):=iS rd (n:=11) rfl (i:=8) (k:=2) om
  obtain⟨He,me,re,ne,ke⟩:=aq (rt.same (Fd.old _ om om)) (n:=2) rfl (xs:=gq e.1 e.2) rfl rfl
  have le:=aD re (n:=2) rfl
  rw[hp]
  simp only[sA,sB,seval,aC,cz,lf,me,u5,le,aM]
  exact⟨tt,om,fun c hc=>by rw[ke c om,Fd.old c om om,hold c hc]⟩
 | ok w=>
 rw[hn]at ho
 obtain⟨rfl,rd⟩:=ho
 obtain⟨hw,-,-⟩:=iZ hn
 obtain⟨r,hr⟩:=wQ hn
 have A:PA Hb.next pb s Hd w 0 0 0 orv:=⟨rd,om,om,Rc.keep fun c hc hp=>Fd.old c om hp,hw,om⟩
 have hfu:oY s<=1000000:=by have:=hw.long; unfold oY; omega
 have hp:dC s=match r with
   | .error e=>.error e
   | .ok l=>if jO l then .ok l else .error (102,0):=by
  unfold dC; rw[hn]; simp only[hr]; cases r <;> rfl
 have holdd:∀c,c<H.next->Hd.get c=H.get c:=fun c hc=>by rw[Fd.old c om om,hold c hc]
 have rtd:=rt.same (Fd.old _ om om)
 rw[hp]
 simp only[sW,sL,iO,ic,nW,sB,seval]
 rw[fj]
 refine oC (fun (T:bU) H'=>T 3=af H.next 2 0/\bc H' H.next [.int .i64 0,.int .i64 0]/\H.next<H'.next/\(∀c,c<H.next->H'.get c=H.get c)/\∃l,r=.ok l/\T 9=T 9/\GS (H.next+1) H' (T 9) l) (d7 _ _) ?_ ?_
 rotate_left
 ·rintro T He ⟨t3,re,ne,oe,l,rfl,-,G⟩
  have hrf:=B7 hn hr
  obtain⟨C,z1,z2⟩:=G.sl
  simp only[sA,sB,seval]
  refine (ij (z1.mono fun c hc=>⟨hc.2,rfl⟩) (z2.mono fun c hc=>⟨hc.2,rfl⟩)).mono ?_
  rintro _ Hf ⟨rfl,Ef⟩
  have xf:=Ef.next
  rw[hrf]
  cases hfit:jO l with
  | true=>
   obtain⟨Hg,mg,rg,ng,kg⟩:=aq (re.same (Ef.old _ ne)) (n:=2) rfl (xs:=gq 0 0) rfl rfl
   have lg:=aD rg (n:=2) rfl
   have km:∀c,In (H.next+1) He.next c->In H.next Hg.next c/\Hg.get c=He.get c:=fun c hc=>by
    have h1:=hc.1
    have h2:=hc.2
    exact⟨⟨om,om⟩,by rw[kg c om,Ef.old c h2]⟩
   simp only[sA,sB,seval,t3,b0,mg,u5,lg,aM]
   exact⟨⟨_,C,rfl,z1.mono km,z2.mono km⟩,om,fun c hc=>by rw[kg c om,Ef.old c om,oe c hc]⟩
  | false=>
   obtain⟨Hg,mg,rg,ng,kg⟩:=aq (re.same (Ef.old _ ne)) (n:=2) rfl (xs:=gq 102 0) rfl rfl
   have lg:=aD rg (n:=2) rfl
   simp only[sA,sB,seval,t3,bn,mg,u5,lg,aM]
   exact⟨tt,om,fun c hc=>by rw[kg c om,Ef.old c om,oe c hc]⟩
 refine bD (fun m (T:bU) H'=>∃out w' v,T 3=af H.next 2 0/\T 4=af pb 11 0/\T 9=v/\GS Hd.next H' v out/\out.length+m<=oY s/\PA Hb.next pb s H' w' 0 0 0 orv/\Fp pb Hd H'/\gA s m out w'=some r) (oY s)
  ⟨[],w,cp,by simp only[sA,sB,seval],by simp only[sA,sB,seval],by simp only[sA,sB,seval]; rfl,GS.nil _ _,by simp,A,Fp.refl _ _,hr⟩ ?_
 rintro m T He ⟨out,w',v,t3,t4,t9,G,hm,Ae,Fe,hpt⟩
 have xe:=Fe.next
 have rte:=rtd.same (Fe.old _ om om)
 cases m with
 | zero=>simp[gA]at hpt
 | succ m=>
 unfold gA at hpt
 have lk:am false 1 He (af pb 11 1)=some (.int .u8 (w'.k:Int)):=al Ae.row rfl rfl
 by_cases hk:w'.k=5
 ·rw[if_pos hk]at hpt
  simp only[sJ]at hpt
  subst hpt
  have hk':(w'.k:Int)=5:=om
  simp only[sA,sB,seval,t3,t4,t9,aC,cz,fld0,lk,hk']
  exact⟨tt,rte,om,fun c hc=>by rw[Fe.old c om om,holdd c hc],out,rfl,tt,G.bound om⟩
 rw[if_neg hk]at hpt
 have hk':¬(w'.k:Int)=5:=om
 obtain⟨r0,hr0⟩:∃r0,pS s m .stmt 0 w'=some r0:=by
  cases hq:pS s m .stmt 0 w' with
  | none=>rw[hq]at hpt; simp at hpt
  | some r=>exact⟨r,rfl⟩
 rw[hr0]at hpt
 simp only[sA,sB,seval,t3,t4,t9,aC,cz,fld0,lk,hk']
 refine ((BS Hb.next pb s m om m rL).stmt He w' 0 0 0 orv r0 Ae hr0).mono ?_
 rintro u Hf ⟨ho,Ff⟩
 have xf:=Ff.next
 cases r0 with
 | error e=>
  simp only[sJ]at hpt
  subst hpt
  obtain⟨rfl,w2,rf⟩:=ho
  obtain⟨Hg,mg,rg,ng,kg⟩:=aG Hf [.int .u8 0,.str [],.int .u8 0,.str [],.int .i64 0,.slice none 0 (.known 0),.slice none 0 (.known 0),.slice none 0 (.known 0),.int .i64 0] (n:=9) rfl
  obtain⟨Hh,mh,rh,nh,kh⟩:=aq rg (n:=9) rfl (xs:=Z9) rfl rfl
  have lf:am true 2 Hh (af pb 11 8)=some (.agg (gq e.1 e.2)):=iS (rf.same (by rw[kh _ om,kg _ om])) (n:=11) rfl (i:=8) (k:=2) om
  obtain⟨Hi,mi,ri,ni,ki⟩:=aq (H:=Hh) (rte.same (by rw[kh _ om,kg _ om,Ff.old _ om om])) (n:=2) rfl (xs:=gq e.1 e.2) rfl rfl
  have li:=aD ri (n:=2) rfl
  simp only[sA,sB,seval,bZ,bY,t3,t4,mg,mh,aC,cz,lf,mi,u5,li,aM]
  exact⟨tt,om,fun c hc=>by rw[ki c om,kh c om,kg c om,Ff.old c om om,Fe.old c om om,holdd c hc]⟩
 | ok p=>
  obtain⟨st',w2⟩:=p
  obtain⟨st,xs,rfl,rfl,hx,rf,of⟩:=ho
  obtain⟨Hg,mg,rg,ng,kg⟩:=aG Hf [.int .u8 0,.str [],.int .u8 0,.str [],.int .i64 0,.slice none 0 (.known 0),.slice none 0 (.known 0),.slice none 0 (.known 0),.int .i64 0] (n:=9) rfl
  obtain⟨Hh,mh,rh,nh,kh⟩:=aq rg (n:=9) rfl hx.len hx.one
  have lh:=aD rh hx.len
  have khf:∀c,c<Hf.next->Hh.get c=Hf.get c:=fun c hc=>by rw[kh c om,kg c om]
  have bm:=vr (z:=[.int .u8 0,.str [],.int .u8 0,.str [],.int .i64 0,.slice none 0 (.known 0),.slice none 0 (.known 0),.slice none 0 (.known 0),.int .i64 0]) (xs:=xs) (m:=9) Hh rfl hx.len
  have hbs:fx v (In Hd.next He.next):=by
   obtain⟨C,_,q,_⟩:=G
   exact q
  have Gh:GS Hd.next Hh v out:=G.keep om fun c hc=>by
   have h1:=hc.1
   have h2:=hc.2
   rw[khf c om,Ff.old c h2 om]
  have hxh:XS (In He.next Hh.next) Hh st xs:=hx.mono fun c hc=>⟨⟨hc.1,by have:=hc.2; omega⟩,khf c hc.2⟩
  obtain⟨v',Hi,ai,Gi,ni,ki⟩:=Gh.push hxh om om (hbs.mono fun c hc=>hc.2) om (bytes:=136) om om
  have bpb:fx v (pb≠·):=hbs.mono fun c hc=>by have:=hc.1; omega
  have Fi:Fp pb Hd Hi:=⟨om,fun c hc hp=>by
   rw[ki c om (hbs.mono fun d hd=>by have:=hd.1; omega),khf c om,Ff.old c om hp,Fe.old c hc hp]⟩
  simp only[sA,sB,seval,bZ,bY,t3,t4,t9,mg,mh,lh,bm,ai]
  refine⟨m,om,out++[st],w2,v',by simp only[sA,sB,seval,t3],by simp only[sA,sB,seval,t4],by simp only[sA,sB,seval],Gi,by simp; omega,?_,Fi,hpt⟩
  refine⟨rf.same (by rw[ki pb om bpb,khf pb om]),om,om,A.or.keep fun c hc hp=>Fi.old c om hp,of,om⟩
open Go.Abs Go.Abs.S
theorem se(K:ab)(c:Bs):cA 1 [.str []] K [(0,1,.str c)]=some (sd K.next 1 (.known 1),K.push (.cells [.str c] 0 false)):=_root_.id rfl
theorem sl3(K:ab)(a b c:Bs):cA 3 [.str []] K [(0,1,.str a),(1,1,.str b),(2,1,.str c)]=some (sd K.next 3 (.known 3),K.push (.cells [.str a,.str b,.str c] 0 false)):=_root_.id rfl
structure nU(n pg:Nat)(H:ab)(W:Bs):Prop where
 pg:Pg n pg H W
 n1:1<n
 glo:pM H 1 ml
theorem nU.lt{n pg:Nat}{H:ab}{W:Bs}(h:nU n pg H W):n<=H.next:=by
 obtain⟨h1,h2,_⟩:=h.pg; omega
theorem nU.fwd{n pg:Nat}{H H':ab}{W W':Bs}(h:nU n pg H W)(e:b7 n H H')(g:Pg n pg H' W'):nU n pg H' W':=⟨g,h.n1,by unfold pM; rw[e.old 1 h.n1]; exact h.glo⟩
theorem iE{n pg:Nat}{K:ab}{W:Bs}(G:nU n pg K W)(a:Bs)(hL:W.length+a.length<=1000000000):an Tryd.prog aB 36 [af pg 1 0,sd K.next 1 (.known 1)] (K.push (.cells [.str a] 0 false)) fun _ H'=>nU n pg H' (W++a)/\b7 n K H':=by
 refine (ou G.pg [a] (by simpa using hL) (by simp)).mono ?_
 rintro _ H' ⟨g,e⟩
 exact⟨G.fwd e (by simpa using g),e⟩
theorem Kg{n pg:Nat}{K:ab}{W:Bs}(G:nU n pg K W)(a b:Bs)(hL:W.length+(a.length+b.length)<=1000000000):an Tryd.prog aB 36 [af pg 1 0,sd K.next 2 (.known 2)] (K.push (.cells [.str a,.str b] 0 false)) fun _ H'=>nU n pg H' (W++(a++b))/\b7 n K H':=by
 refine (ou G.pg [a,b] (by simpa using hL) (by simp)).mono ?_
 rintro _ H' ⟨g,e⟩
 exact⟨G.fwd e (by simpa using g),e⟩
theorem LI{n pg:Nat}{K:ab}{W:Bs}(G:nU n pg K W)(a b c:Bs)(hL:W.length+(a.length+(b.length+c.length))<=1000000000):an Tryd.prog aB 36 [af pg 1 0,sd K.next 3 (.known 3)] (K.push (.cells [.str a,.str b,.str c] 0 false)) fun _ H'=>nU n pg H' (W++(a++(b++c)))/\b7 n K H':=by
 refine (ou G.pg [a,b,c] (by simpa using hL) (by simp)).mono ?_
 rintro _ H' ⟨g,e⟩
 exact⟨G.fwd e (by simpa using g),e⟩
def Mm(n pg N:Nat):Prop:=∀(e:Ex) (c:List aa) (H:ab) (p:aa) (W:Bs),e.size<=N->iX e=true->dj e=true->lR H p c->(∀a,p=.ptr (some a)->a.b<n)->XE (·<n) H e c->nU n pg H W->W.length+(bF e).length<=1000000000 ->
  an Tryd.prog aB 37 [af pg 1 0,p] H fun _ H'=>nU n pg H' (W++bF e)/\b7 n H H'
def KiG(n pg N:Nat):Prop:=∀(e:Ex) (c:List aa) (H:ab) (p:aa) (W:Bs),e.size<=N->iX e=true->dj e=true->lR H p c->(∀a,p=.ptr (some a)->a.b<n)->XE (·<n) H e c->nU n pg H W->W.length+(aP e).length<=1000000000 ->
  an Tryd.prog aB 55 [af pg 1 0,p] H fun _ H'=>nU n pg H' (W++aP e)/\b7 n H H'
theorem lR.ext{n:Nat}{H H':ab}{p:aa}{c:List aa}(h:lR H p c)(e:b7 n H H')(hp:∀a,p=.ptr (some a)->a.b<n):lR H' p c:=h.same fun a ea=>e.old _ (hp a ea)
theorem XE.ext{n:Nat}{H H':ab}{e:Ex}{c:List aa}(h:XE (·<n) H e c)(q:b7 n H H'):XE (·<n) H' e c:=h.mono fun b hb=>⟨hb,q.old b hb⟩
theorem kiG{n pg N:Nat}(ih:Mm n pg N):KiG n pg N:=by
 rintro ⟨k,s,z,kids⟩ c H p W h ho hr hp hpb hx G hL
 refine ak rfl MJ rfl ?_
 obtain⟨v,C,hc,z1,z2⟩:=id hx
 subst hc
 have p0:=hp.load0 (x:=.int .u8 (k:Int)) rfl
 have q0:=hp.fld0
 have qc:=hp.chk
 unfold aP at hL ⊢
 by_cases hk:k=3
 ·have hk':(k:Int)=3:=om
  have e3:(Ex.mk k s z kids).kind=3:=hk
  rw[if_pos e3]at hL ⊢
  have hl:(40::(bF (Ex.mk k s z kids)++[41])).length=(bF (Ex.mk k s z kids)).length+2:=by simp
  rw[hl]at hL
  simp only[NJ,sA,sB,seval,qc,q0,p0,hk',se]
  refine (iE G [40] (by simp; omega)).mono ?_
  rintro _ H1 ⟨G1,E1⟩
  simp only[sA,sB,seval]
  refine (ih _ _ H1 p (W++[40]) h ho hr (hp.ext E1 hpb) hpb (hx.ext E1) G1 (by simp; omega)).mono ?_
  rintro _ H2 ⟨G2,E2⟩
  simp only[sA,sB,seval,se]
  refine (iE G2 [41] (by simp; omega)).mono ?_
  rintro _ H3 ⟨G3,E3⟩
  simp only[sA,sB,seval]
  refine⟨[],rfl,?_,(E1.trans E2).trans E3⟩
  simpa using G3
 ·have hk':¬(k:Int)=3:=om
  have e3:¬(Ex.mk k s z kids).kind=3:=hk
  rw[if_neg e3]at hL ⊢
  simp only[NJ,sA,sB,seval,qc,q0,p0,hk']
  refine (ih _ _ H p W h ho hr hp hpb hx G hL).mono ?_
  rintro _ H1 ⟨G1,E1⟩
  simp only[sA,sB,seval]
  exact⟨[],rfl,G1,E1⟩
theorem qZ(ts:List Bs)(i:Nat):(bz (ts.take i)).length<=(bz ts).length:=by
 have h:=List.take_append_drop i ts
 generalize ts.take i=a at *
 generalize ts.drop i=b at *
 subst h
 cases a with
 | nil=>simp[bz]
 | cons x a=>simp[bz]
theorem yl(e:Ex):1<=e.size:=by cases e; simp only[Ex.size]; omega
theorem zF(ts:List Bs):ts.length<=(bz ts).length+1:=by
 cases ts with
 | nil=>simp
 | cons a l=>
  have h2:(bz (a::l)).length=a.length+(l.flatMap fun t:Bs=>44::32::t).length:=by rw[bz,lA]
  rw[h2]
  clear h2
  have:l.length<=(l.flatMap fun t:Bs=>44::32::t).length:=by
   induction l with
   | nil=>simp
   | cons b l ih=>simp only[List.flatMap_cons,lA,N5]; omega
  simp only[N5]; omega
theorem NC(n pg:Nat):Mm n pg 0:=by
 intro e c H p W h
 have:=yl e
 omega
theorem exG{n pg N:Nat}(ih:KiG n pg N):Mm n pg (N+1):=by
 rintro ⟨k,s,z,kids⟩ c H p W h ho hr hp hpb hx G hL
 refine ak rfl M1 rfl ?_
 obtain⟨v,C,hc,z1,z2⟩:=id hx
 subst hc
 have hsz:(Ex.mk k s z kids).size=br kids+1:=rfl
 have p0:=hp.load0 (x:=.int .u8 (k:Int)) rfl
 have p1:=hp.load (o:=1) (x:=.str s) rfl
 have p2:=hp.load (o:=2) (x:=.int .i64 z) rfl
 have p3:=hp.load (o:=3) (x:=v) rfl
 have q0:=hp.fld0
 have q1:=hp.fld 1
 have q2:=hp.fld 2
 have q3:=hp.fld 3
 have qc:=hp.chk
 have ln:=z1.len
 have hG:=G.lt
 have hsh:bF (Ex.mk k s z kids)=cC k s z (kids.map aP):=by rw[bF,fA]
 rw[hsh]at hL ⊢
 have hok:dX k s z kids.length=true/\fl kids=true:=by simpa only [iX,N4] using ho
 have hrg:(-9223372036854775808<=z/\z<=9223372036854775807)/\eY kids=true:=by simpa only [dj,N4,Od] using hr
 obtain⟨Q,hQ⟩:∃Q:aa->ab->Prop,Q=fun _ H'=>nU n pg H' (W++cC k s z (kids.map aP))/\b7 n H H':=⟨_,rfl⟩
 rw[<- hQ]
 have tm:∀{K:ab},b7 n H K->fw (·<n) K 4 v kids.length C/\oG (·<n) K kids C/\lR K p _:=fun q=>⟨z1.mono fun b hb=>⟨hb,q.old b hb⟩,z2.mono fun b hb=>⟨hb,q.old b hb⟩,hp.ext q hpb⟩
 by_cases k1:k=1
 ·have i1:(k:Int)=1:=om
  have e:cC k s z (kids.map aP)=bb z:=by unfold cC; rw[if_pos k1]
  rw[e]at hQ hL
  simp only[Ln,sA,sB,seval,qc,q0,q2,p0,p2,i1]
  refine (Cl Kk.str rfl hrg.1.1 hrg.1.2 (by have:=G.n1; omega) G.glo).mono ?_
  rintro _ H1 ⟨rfl,E1⟩
  have E1':=E1.less hG
  have G1:nU n pg H1 W:=G.fwd E1' (by
   obtain⟨a1,a2,v,Y,b1,b2,b3,b4⟩:=G.pg
   exact⟨a1,by have:=E1.next; omega,v,Y,b1.same (E1.old _ a2),b2.same E1.next (b2.blk'.mono fun b hb=>E1.old b hb),b3,b4⟩)
  simp only[sA,sB,seval,se]
  refine (iE G1 (bb z) hL).mono ?_
  rintro _ H2 ⟨G2,E2⟩
  simp only[sA,sB,seval,hQ]
  exact⟨[],rfl,G2,E1'.trans E2⟩
 have i1:¬(k:Int)=1:=om
 by_cases k2:k=2
 ·have i2:(k:Int)=2:=om
  have e:cC k s z (kids.map aP)=s:=by unfold cC; rw[if_neg k1,if_pos k2]
  rw[e]at hQ hL
  simp only[Ln,sA,sB,seval,qc,q0,q1,p0,p1,i1,i2,se]
  refine (iE G s hL).mono ?_
  rintro _ H2 ⟨G2,E2⟩
  simp only[sA,sB,seval,hQ]
  exact⟨[],rfl,G2,E2⟩
 have i2:¬(k:Int)=2:=om
 by_cases k4:k=4
 ·have i4:(k:Int)=4:=om
  have e:cC k s z (kids.map aP)=s++40::(bz (kids.map aP)++[41]):=by unfold cC; rw[if_neg k1,if_neg k2,if_pos k4]
  rw[e]at hQ hL
  simp only[lA,N5,N6]at hL
  simp only[Ln,sA,sB,seval,qc,q0,q1,p0,p1,i1,i2,i4,Cg]
  refine (Kg G s [40] (by simp; omega)).mono ?_
  rintro _ H1 ⟨G1,E1⟩
  obtain⟨_,_,pp1⟩:=tm E1
  have p31:=pp1.load (o:=3) (x:=v) rfl
  simp only[sA,sB,seval,qc,q3,p31,ln]
  refine bD (fun m (T:bU) K=>∃i,m=kids.length-i/\i<=kids.length/\T 0=af pg 1 0/\T 1=p/\T 41=.int .i64 (kids.length:Int)/\T 42=.int .i64 (i:Int)/\nU n pg K (W++(s++40::bz ((kids.map aP).take i)))/\b7 n H K) kids.length
   ⟨0,rfl,Nat.zero_le _,by simp only[sA,sB,seval],by simp only[sA,sB,seval],by simp only[sA,sB,seval],by simp only[sA,sB,seval]; try rfl,by simpa[bz] using G1,E1⟩ ?_
  rintro m T K ⟨i,rfl,hi,t0,t1,t41,t42,GK,EK⟩
  by_cases hlt:i<kids.length
  case neg=>
   obtain rfl:i=kids.length:=om
   have hlt':¬(kids.length:Int)<(kids.length:Int):=om
   rw[List.take_of_length_le (by simp)]at GK
   simp only[sA,sB,seval,t0,t1,t41,t42,hlt',se]
   refine (iE GK [41] (by simp; omega)).mono ?_
   rintro _ H2 ⟨G2,E2⟩
   simp only[sA,sB,seval,hQ]
   exact⟨[],rfl,by simpa using G2,EK.trans E2⟩
  have hlt':(i:Int)<(kids.length:Int):=om
  obtain⟨x,hx'⟩:∃x,kids[i]?=some x:=⟨_,N1 hlt⟩
  have hmem:=N9 hx'
  have hsm:=fW hmem
  have hts:(kids.map aP).take (i+1)=(kids.map aP).take i++[aP x]:=by rw[List.take_add_one,List.getElem?_map,hx']; rfl
  have hle:=qZ (kids.map aP) (i+1)
  rw[hts,kz,lA]at hle
  have wi:IntKind.i64.wrap ((i:Int)+1)=((i+1:Nat):Int):=by
   have:=zF (kids.map aP)
   rw[List.length_map]at this
   rw[IntKind.wrap_i64]; omega
  obtain⟨zz1,zz2,ppK⟩:=tm EK
  have p3K:=ppK.load (o:=3) (x:=v) rfl
  have rest:∀(K2:ab) (W2:Bs),nU n pg K2 W2->b7 n H K2->W2++aP x=W++(s++40::bz ((kids.map aP).take (i+1)))->∃a,eB 4 v (.int .i64 (i:Int))=some a/\am false 1 K2 (fp p 3)=some v/\an Tryd.prog aB 55 [af pg 1 0,a] K2 fun _ K3=>nU n pg K3 (W++(s++40::bz ((kids.map aP).take (i+1))))/\b7 n H K3:=by
   intro K2 W2 G2 E2 hW
   obtain⟨y1,y2,pp2⟩:=tm E2
   refine⟨_,y1.idx hlt,pp2.load (o:=3) (x:=v) rfl,?_⟩
   have hl:W2.length+(aP x).length<=1000000000:=by
    have:=congrArg List.length hW
    simp only[lA,N5]at this
    rw[hts,kz,lA]at this
    omega
   refine (ih x _ K2 _ W2 om (dm hok.2 hmem) (cK hrg.2 hmem) (y1.pt hlt) (fun a ea=>y1.blk hlt a ea) (y2.at hx') G2 hl).mono ?_
   rintro _ K3 ⟨G3,E3⟩
   rw[hW]at G3
   exact⟨G3,E2.trans E3⟩
  by_cases h0:i=0
  ·have h0':¬(0:Int)<(i:Int):=om
   obtain⟨a,a1,a2,a3⟩:=rest K _ GK EK (by subst h0; rw[hts]; simp[bz])
   simp only[sA,sB,seval,t0,t1,t41,t42,hlt',h0',qc,q3,a2,a1]
   refine a3.mono ?_
   rintro _ K3 ⟨G3,E3⟩
   simp only[sA,sB,seval,t0,t1,t41,t42,wi]
   exact⟨kids.length-(i+1),om,i+1,rfl,om,tt,tt,tt,tt,G3,E3⟩
  ·have h0':(0:Int)<(i:Int):=om
   simp only[sA,sB,seval,t0,t1,t41,t42,hlt',h0',se]
   have htk:¬((kids.map aP).take i).isEmpty=true:=fun q=>by
    have:=congrArg List.length (List.isEmpty_iff.1 q)
    rw[Ol,List.length_map,N6]at this
    omega
   rw[if_neg htk]at hle
   refine (iE GK [44,32] (by simp only[lA,N5,N6]at hle ⊢; omega)).mono ?_
   rintro _ K2 ⟨G2,E2⟩
   obtain⟨a,a1,a2,a3⟩:=rest K2 _ G2 (EK.trans E2) (by rw[hts,kz,if_neg htk]; simp)
   simp only[sA,sB,seval,t0,t1,t41,t42,qc,q3,a2,a1]
   refine a3.mono ?_
   rintro _ K3 ⟨G3,E3⟩
   simp only[sA,sB,seval,t0,t1,t41,t42,wi]
   exact⟨kids.length-(i+1),om,i+1,rfl,om,tt,tt,tt,tt,G3,E3⟩
 have i4:¬(k:Int)=4:=om
 by_cases k3:k=3
 case neg=>
  have:dX k s z kids.length=false:=by unfold dX; rw[if_neg k1,if_neg k2,if_neg k3,if_neg k4]
  rw[this]at hok
  exact absurd hok.1 (by simp)
 have i3:(k:Int)=3:=om
 have hop:oT s kids.length=true:=by
  have:=hok.1
  unfold dX at this
  rw[if_neg k1,if_neg k2,if_pos k3]at this
  simp only[N4]at this
  exact this.2
 have hcase:kids.length=1∨kids.length=2:=by
  unfold oT at hop
  split at hop
  ·left; assumption
  ·right; assumption
  ·simp at hop
 rcases hcase with h1 | h2
 ·obtain⟨x,hkx⟩:∃x,kids=[x]:=List.length_eq_one_iff.1 h1
  have hk0:kids[0]?=some x:=by rw[hkx]; rfl
  have hm:=N9 hk0
  have e:cC k s z (kids.map aP)=s++32::aP x:=by rw[hkx]; unfold cC; rw[if_neg k1,if_neg k2,if_neg k4]; rfl
  rw[e]at hQ hL
  simp only[lA,N5]at hL
  have n2:¬(kids.length:Int)=2:=om
  have n1:IntKind.i64.wrap ((kids.length:Int)-1)=0:=by rw[h1]; rfl
  simp only[Ln,sA,sB,seval,qc,q0,q1,q3,p0,p1,p3,i1,i2,i4,i3,ln,n2,Cg]
  refine (Kg G s [32] (by simp; omega)).mono ?_
  rintro _ H1 ⟨G1,E1⟩
  obtain⟨y1,y2,pp1⟩:=tm E1
  have p31:=pp1.load (o:=3) (x:=v) rfl
  have ix:eB 4 v (.int .i64 0)=some (cL 4 v 0):=y1.idx (i:=0) om
  simp only[sA,sB,seval,qc,q3,p31,ln,n1,ix]
  have hsm:=fW hm
  refine (ih x _ H1 _ _ om (dm hok.2 hm) (cK hrg.2 hm) (y1.pt om) (fun a ea=>y1.blk om a ea) (y2.at (i:=0) hk0) G1 (by simp; omega)).mono ?_
  rintro _ H2 ⟨G2,E2⟩
  simp only[sA,sB,seval,hQ]
  exact⟨[],rfl,by simpa using G2,E1.trans E2⟩
 ·obtain⟨x,y,hkx⟩:∃x y,kids=[x,y]:=by
   match kids,h2 with
   | [x,y],_=>exact⟨x,y,rfl⟩
  have hk0:kids[0]?=some x:=by rw[hkx]; rfl
  have hk1:kids[1]?=some y:=by rw[hkx]; rfl
  have hm0:=N9 hk0
  have hm1:=N9 hk1
  have e:cC k s z (kids.map aP)=aP x++32::(s++32::aP y):=by rw[hkx]; unfold cC; rw[if_neg k1,if_neg k2,if_neg k4]; rfl
  rw[e]at hQ hL
  simp only[lA,N5]at hL
  have n2:(kids.length:Int)=2:=om
  have n1:IntKind.i64.wrap ((2:Int)-1)=1:=rfl
  have n1':IntKind.i64.wrap 1=1:=rfl
  have ix0:eB 4 v (.int .i64 0)=some (cL 4 v 0):=z1.idx (i:=0) om
  have hsx:=fW hm0
  have hsy:=fW hm1
  simp only[Ln,sA,sB,seval,qc,q0,q1,q3,p0,p1,p3,i1,i2,i4,i3,ln,n2,ix0]
  refine (ih x _ H _ _ om (dm hok.2 hm0) (cK hrg.2 hm0) (z1.pt om) (fun a ea=>z1.blk om a ea) (z2.at (i:=0) hk0) G om).mono ?_
  rintro _ H1 ⟨G1,E1⟩
  simp only[sA,sB,seval,se]
  refine (iE G1 [32] (by simp; omega)).mono ?_
  rintro _ H2 ⟨G2,E2⟩
  have E02:=E1.trans E2
  obtain⟨y1,y2,pp2⟩:=tm E02
  have p12:=pp2.load (o:=1) (x:=.str s) rfl
  simp only[sA,sB,seval,qc,q1,p12,Cg]
  refine (Kg G2 s [32] (by simp; omega)).mono ?_
  rintro _ H3 ⟨G3,E3⟩
  have E03:=E02.trans E3
  obtain⟨x1,x2,pp3⟩:=tm E03
  have p33:=pp3.load (o:=3) (x:=v) rfl
  have ix1:eB 4 v (.int .i64 1)=some (cL 4 v 1):=x1.idx (i:=1) om
  simp only[sA,sB,seval,qc,q3,p33,ln,n2,n1,n1',ix1]
  refine (ih y _ H3 _ _ om (dm hok.2 hm1) (cK hrg.2 hm1) (x1.pt om) (fun a ea=>x1.blk om a ea) (x2.at (i:=1) hk1) G3 (by simp; omega)).mono ?_
  rintro _ H4 ⟨G4,E4⟩
  simp only[sA,sB,seval,hQ]
  exact⟨[],rfl,by simpa using G4,E03.trans E4⟩
theorem Bf(n pg:Nat):∀N,Mm n pg N
 | 0=>NC n pg
 | N+1=>exG (kiG (Bf n pg N))
open Go.Abs Go.Abs.S
def Mk(n pg N:Nat):Prop:=∀(st:St) (c:List aa) (H:ab) (p:aa) (W:Bs) (lev:Nat),st.size<=N->pn st=true->lX st=true->lR H p c->(∀a,p=.ptr (some a)->a.b<n)->XS (·<n) H st c->nU n pg H W->W.length+(ft lev st).length<=1000000000->lev+st.deep<=1000 ->
  an Tryd.prog aB 19 [af pg 1 0,p,.int .i64 (lev:Int)] H fun _ H'=>nU n pg H' (W++ft lev st)/\b7 n H H'
def LiG(n pg N:Nat):Prop:=∀(l:List St) (C:List aa) (H:ab) (v:aa) (W:Bs) (lev:Nat),aI l<=N->cH l=true->bR l=true->fw (·<n) H 9 v l.length C->gr (·<n) H l C->nU n pg H W->W.length+(aF lev l).length<=1000000000->lev+bj l<=1000 ->
  an Tryd.prog aB 11 [af pg 1 0,v,.int .i64 (lev:Int)] H fun _ H'=>nU n pg H' (W++aF lev l)/\b7 n H H'
theorem tP{e:St}:∀{l:List St},e∈l->e.deep<=bj l
 | [],h=>by simp at h
 | x::l,h=>by
  simp only[bj]
  rcases List.mem_cons.1 h with rfl | h
  ·omega
  ·have:=tP h; omega
theorem ym(lev:Nat)(l:List St):l.length<=(aF lev l).length:=by
 induction l with
 | nil=>simp
 | cons x l ih=>
  have:1<=(ft lev x).length:=by
   cases x
   rename_i k s e b el ln
   simp only[ft,dA]
   split
   ·simp; omega
   split
   ·simp; omega
   split
   ·simp; omega
   ·simp; omega
  simp only[aF,lA,N5]; omega
theorem liG{n pg N:Nat}(ih:Mk n pg N):LiG n pg N:=by
 intro l C H v W lev h ho hr z1 z2 G hL hd
 refine ak rfl Nr rfl ?_
 have ln:=z1.len
 have hlen:=ym lev l
 simp only[c11,sA,sB,seval,ln]
 refine bD (fun m (T:bU) K=>∃i,m=l.length-i/\i<=l.length/\T 0=af pg 1 0/\T 1=v/\T 2=.int .i64 (lev:Int)/\T 8=.int .i64 (l.length:Int)/\T 9=.int .i64 (i:Int)/\nU n pg K (W++aF lev (l.take i))/\b7 n H K) l.length
  ⟨0,rfl,Nat.zero_le _,by simp only[sA,sB,seval],by simp only[sA,sB,seval],by simp only[sA,sB,seval],by simp only[sA,sB,seval],by simp only[sA,sB,seval]; try rfl,by simpa[aF] using G,b7.refl _ _⟩ ?_
 rintro m T K ⟨i,rfl,hi,t0,t1,t2,t8,t9,GK,EK⟩
 by_cases hlt:i<l.length
 case neg=>
  obtain rfl:i=l.length:=om
  have hlt':¬(l.length:Int)<(l.length:Int):=om
  rw[List.take_length]at GK
  simp only[sA,sB,seval,t0,t1,t2,t8,t9,hlt']
  exact⟨[],rfl,GK,EK⟩
 have hlt':(i:Int)<(l.length:Int):=om
 obtain⟨x,hx'⟩:∃x,l[i]?=some x:=⟨_,N1 hlt⟩
 have hmem:=N9 hx'
 have hsm:=iR hmem
 have hdm:=tP hmem
 have hts:l.take (i+1)=l.take i++[x]:=by rw[List.take_add_one,hx']; rfl
 have hall:aF lev l=aF lev (l.take i)++aF lev (l.drop i):=by rw[<- lW,List.take_append_drop]
 have hall2:aF lev l=aF lev (l.take (i+1))++aF lev (l.drop (i+1)):=by rw[<- lW,List.take_append_drop]
 have hs1:aF lev (l.take (i+1))=aF lev (l.take i)++ft lev x:=by rw[hts,lW]; simp[aF]
 have hl2:=congrArg List.length hall2
 rw[hs1,lA,lA]at hl2
 have wi:IntKind.i64.wrap ((i:Int)+1)=((i+1:Nat):Int):=Ah
 obtain⟨g1,g2,v',Y,hrp,hv,hb,hc⟩:=id GK.pg
 have lp:am false 1 K (af pg 1 0)=some v':=al hrp rfl rfl
 have lY:=hv.len
 by_cases hy:16384<Y.length
 ·have hy':(16384:Int)<(Y.length:Int):=om
  simp only[sA,sB,seval,t0,t1,t2,t8,t9,hlt',aC,fld0,lp,lY,hy']
  refine⟨[],rfl,⟨⟨g1,g2,v',Y,hrp,hv,hb,?_⟩,GK.n1,GK.glo⟩,EK⟩
  rw[hall,<- Oe]
  exact hc.stop _ hy
 have hy':¬(16384:Int)<(Y.length:Int):=om
 have y1:=z1.mono (H':=K) fun b hb=>⟨hb,EK.old b hb⟩
 have y2:=z2.mono (H':=K) fun b hb=>⟨hb,EK.old b hb⟩
 have ix:=y1.idx hlt
 simp only[sA,sB,seval,t0,t1,t2,t8,t9,hlt',aC,fld0,lp,lY,hy',ix]
 refine (ih x _ K _ _ lev om (gK ho hmem) (kR hr hmem) (y1.pt hlt) (fun a ea=>y1.blk hlt a ea) (y2.at hx') GK (by rw[lA]; omega) om).mono ?_
 rintro _ K2 ⟨G2,E2⟩
 simp only[sA,sB,seval,t0,t1,t2,t8,t9,wi]
 refine⟨l.length-(i+1),om,i+1,rfl,om,tt,tt,tt,tt,tt,?_,EK.trans E2⟩
 rw[hs1,<- Oe]; exact G2
theorem stG{n pg N:Nat}(ih:LiG n pg N):Mk n pg (N+1):=by
 rintro ⟨k,s,e,body,els,line⟩ c H p W lev h ho hr hp hpb hx G hL hd
 refine ak rfl Nh rfl ?_
 have hsz:(St.mk k s e body els line).size=e.size+aI body+aI els+1:=rfl
 have hdp:(St.mk k s e body els line).deep=max e.deep (max (bj body) (bj els))+1:=rfl
 obtain⟨ce,vb,Cb,ve,Ce,hc,x1,z1,z2,y1,y2⟩:=hx
 subst hc
 obtain⟨c0,c1,c2,c3,rfl⟩:∃a b c d,ce=[a,b,c,d]:=by
  have:=x1.len
  match ce,this with
  | [a,b,c,d],_=>exact⟨a,b,c,d,rfl⟩
 have hok:bV k s body.length els.length=true/\iX e=true/\cH body=true/\cH els=true:=by simpa only [pn,N4] using ho
 have hrg:dj e=true/\bR body=true/\bR els=true:=by
  simp only[lX,N4]at hr
  exact⟨hr.1.1,hr.2.1,hr.2.2⟩
 have hpF:∀{K:ab},b7 n H K->lR K p (.int .u8 (k:Int)::.str s::([c0,c1,c2,c3]++[vb,ve,.int .i64 line])):=fun q=>hp.ext q hpb
 have q0:=hp.fld0
 have q1:=hp.fld 1
 have q2:=hp.fld 2
 have q6:=hp.fld 6
 have q7:=hp.fld 7
 have qc:=hp.chk
 have le:=y1.len
 have wl:IntKind.i64.wrap ((lev:Int)+1)=((lev+1:Nat):Int):=Ah
 have hsh:ft lev (.mk k s e body els line)=dA k s lev (bF e) (aF (lev+1) body) (aF (lev+1) els) els.isEmpty:=by rw[ft]
 obtain⟨X,hX⟩:∃X,X=bF e:=⟨_,rfl⟩
 obtain⟨B,hB⟩:∃B,B=aF (lev+1) body:=⟨_,rfl⟩
 obtain⟨EL,hEL⟩:∃EL,EL=aF (lev+1) els:=⟨_,rfl⟩
 rw[<- hX,<- hB,<- hEL]at hsh
 have htl:(cg lev).length=lev:=List.length_replicate
 obtain⟨Q,hQ⟩:∃Q:aa->ab->Prop,Q=fun _ H'=>nU n pg H' (W++ft lev (.mk k s e body els line))/\b7 n H H':=⟨_,rfl⟩
 rw[<- hQ]
 rw[hsh]at hQ hL
 have ex:∀{K:ab} {W2:Bs},b7 n H K->nU n pg K W2->W2.length+X.length<=1000000000->an Tryd.prog aB 37 [af pg 1 0,fp p 2] K fun _ K2=>nU n pg K2 (W2++X)/\b7 n H K2:=by
  intro K W2 EK GK hl
  have pK:=hpF EK
  refine (Bf n pg e.size e [c0,c1,c2,c3] K (fp p 2) W2 rL hok.2.1 hrg.1 (pK.part (o:=2) (k:=4) (by simp)) ?_ (x1.mono fun b hb=>⟨hb,EK.old b hb⟩) GK (by rw[<- hX]; exact hl)).mono ?_
  ·intro a ea
   obtain⟨a',ha',_⟩:=hp
   rw[ha']at ea
   simp only[fp,aa.ptr.injEq,sJ]at ea
   subst ea
   exact hpb a' ha'
  ·rintro _ K2 ⟨G2,E2⟩
   rw[<- hX]at G2
   exact⟨G2,EK.trans E2⟩
 have b0:0<[1].length:=by simp
 simp only[c19,sA,sB,seval]
 by_cases k1:k=1
 ·have i1:(k:Int)=1:=om
  have hs:dA k s lev X B EL els.isEmpty=cg lev++([108,101,116,32]++(s++([32,61,32]++(X++[59,10])))):=by unfold dA; rw[if_pos k1]
  rw[hs]at hQ hL
  simp only[lA,N5,N6,htl]at hL
  refine (dd G.pg lev om om).mono ?_
  rintro _ H1 ⟨g1,E1⟩
  have G1:=G.fwd E1 g1
  have p0a:=(hpF E1).load0 (x:=.int .u8 (k:Int)) rfl
  have p1a:=(hpF E1).load (o:=1) (x:=.str s) rfl
  simp only[sA,sB,seval,qc,q0,q1,p0a,p1a,i1,sl3]
  refine (LI G1 [108,101,116,32] s [32,61,32] (by simp only[lA,N5,N6,htl]; omega)).mono ?_
  rintro _ H2 ⟨G2,E2⟩
  have E02:=E1.trans E2
  simp only[sA,sB,seval,qc,q2]
  refine (ex E02 G2 (by simp only[lA,N5,N6,htl]; omega)).mono ?_
  rintro _ H3 ⟨G3,E3⟩
  have p0b:=(hpF E3).load0 (x:=.int .u8 (k:Int)) rfl
  have p1b:=(hpF E3).load (o:=1) (x:=.str s) rfl
  simp only[sA,sB,seval,qc,q0,p0b,i1,se]
  refine (iE G3 [59,10] (by simp only[lA,N5,N6,htl]; omega)).mono ?_
  rintro _ H4 ⟨G4,E4⟩
  simp only[sA,sB,seval,hQ]
  exact⟨[],rfl,by simpa only [Oe,List.nil_append,Oj] using G4,E3.trans E4⟩
 have i1:¬(k:Int)=1:=om
 by_cases k2:k=2
 ·have i2:(k:Int)=2:=om
  have hs:dA k s lev X B EL els.isEmpty=cg lev++([115,101,116,32]++(s++([32,61,32]++(X++[59,10])))):=by unfold dA; rw[if_neg k1,if_pos k2]
  rw[hs]at hQ hL
  simp only[lA,N5,N6,htl]at hL
  refine (dd G.pg lev om om).mono ?_
  rintro _ H1 ⟨g1,E1⟩
  have G1:=G.fwd E1 g1
  have p0a:=(hpF E1).load0 (x:=.int .u8 (k:Int)) rfl
  have p1a:=(hpF E1).load (o:=1) (x:=.str s) rfl
  simp only[sA,sB,seval,qc,q0,q1,p0a,p1a,i2,i1,sl3]
  refine (LI G1 [115,101,116,32] s [32,61,32] (by simp only[lA,N5,N6,htl]; omega)).mono ?_
  rintro _ H2 ⟨G2,E2⟩
  have E02:=E1.trans E2
  simp only[sA,sB,seval,qc,q2]
  refine (ex E02 G2 (by simp only[lA,N5,N6,htl]; omega)).mono ?_
  rintro _ H3 ⟨G3,E3⟩
  have p0b:=(hpF E3).load0 (x:=.int .u8 (k:Int)) rfl
  have p1b:=(hpF E3).load (o:=1) (x:=.str s) rfl
  simp only[sA,sB,seval,qc,q0,p0b,i2,se]
  refine (iE G3 [59,10] (by simp only[lA,N5,N6,htl]; omega)).mono ?_
  rintro _ H4 ⟨G4,E4⟩
  simp only[sA,sB,seval,hQ]
  exact⟨[],rfl,by simpa only [Oe,List.nil_append,Oj] using G4,E3.trans E4⟩
 have i2:¬(k:Int)=2:=om
 by_cases k5:k=5
 ·have i5:(k:Int)=5:=om
  have hs:dA k s lev X B EL els.isEmpty=cg lev++([114,101,116,117,114,110,32]++(X++[59,10])):=by unfold dA; rw[if_neg k1,if_neg k2,if_pos k5]
  rw[hs]at hQ hL
  simp only[lA,N5,N6,htl]at hL
  refine (dd G.pg lev om om).mono ?_
  rintro _ H1 ⟨g1,E1⟩
  have G1:=G.fwd E1 g1
  have p0a:=(hpF E1).load0 (x:=.int .u8 (k:Int)) rfl
  have p1a:=(hpF E1).load (o:=1) (x:=.str s) rfl
  simp only[sA,sB,seval,qc,q0,q1,p0a,p1a,i5,i1,i2,se]
  refine (iE G1 [114,101,116,117,114,110,32] (by simp only[lA,N5,N6,htl]; omega)).mono ?_
  rintro _ H2 ⟨G2,E2⟩
  have E02:=E1.trans E2
  simp only[sA,sB,seval,qc,q2]
  refine (ex E02 G2 (by simp only[lA,N5,N6,htl]; omega)).mono ?_
  rintro _ H3 ⟨G3,E3⟩
  have p0b:=(hpF E3).load0 (x:=.int .u8 (k:Int)) rfl
  have p1b:=(hpF E3).load (o:=1) (x:=.str s) rfl
  simp only[sA,sB,seval,qc,q0,p0b,i5,se]
  refine (iE G3 [59,10] (by simp only[lA,N5,N6,htl]; omega)).mono ?_
  rintro _ H4 ⟨G4,E4⟩
  simp only[sA,sB,seval,hQ]
  exact⟨[],rfl,by simpa only [Oe,List.nil_append,Oj] using G4,E3.trans E4⟩
 have i5:¬(k:Int)=5:=om
 by_cases k3:k=3
 ·have i3:(k:Int)=3:=om
  have hs:dA k s lev X B EL els.isEmpty=cg lev++([105,102,32,40]++(X++([41,32,123,10]++(B++((if els.isEmpty then [] else cg lev++([125,32,101,108,115,101,32,123,10]++EL))++(cg lev++[125,10])))))):=by unfold dA; rw[if_neg k1,if_neg k2,if_neg k5,if_pos k3]
  by_cases hel:els.isEmpty=true
  ·have hel':¬(0:Int)<(els.length:Int):=by rw[List.isEmpty_iff.1 hel]; simp
   rw[if_pos hel]at hs
   rw[hs]at hQ hL
   simp only[lA,N5,N6,htl]at hL
   refine (dd G.pg lev om om).mono ?_
   rintro _ H1 ⟨g1,E1⟩
   have G1:=G.fwd E1 g1
   have p0a:=(hpF E1).load0 (x:=.int .u8 (k:Int)) rfl
   have p1a:=(hpF E1).load (o:=1) (x:=.str s) rfl
   simp only[sA,sB,seval,qc,q0,p0a,i3,i1,i2,i5,se]
   refine (iE G1 [105,102,32,40] (by simp only[lA,N5,N6,htl]; omega)).mono ?_
   rintro _ H2 ⟨G2,E2⟩
   have E02:=E1.trans E2
   simp only[sA,sB,seval,qc,q2]
   refine (ex E02 G2 (by simp only[lA,N5,N6,htl]; omega)).mono ?_
   rintro _ H3 ⟨G3,E3⟩
   have p0b:=(hpF E3).load0 (x:=.int .u8 (k:Int)) rfl
   have p1b:=(hpF E3).load (o:=1) (x:=.str s) rfl
   simp only[sA,sB,seval,qc,q0,p0b,i3,i1,i2,i5,se]
   refine (iE G3 [41,32,123,10] (by simp only[lA,N5,N6,htl]; omega)).mono ?_
   rintro _ H4 ⟨G4,E4⟩
   have E04:=E3.trans E4
   have p6:=(hpF E04).load (o:=6) (x:=vb) rfl
   simp only[sA,sB,seval,qc,q6,p6,wl]
   refine (ih body Cb H4 vb _ (lev+1) om hok.2.2.1 hrg.2.1 (z1.mono fun b hb=>⟨hb,E04.old b hb⟩) (z2.mono fun b hb=>⟨hb,E04.old b hb⟩) G4 (by rw[<- hB]; simp only[lA,N5,N6,htl]; omega) om).mono ?_
   rintro _ H5 ⟨G5,E5⟩
   rw[<- hB]at G5
   have E05:=E04.trans E5
   have p7:=(hpF E05).load (o:=7) (x:=ve) rfl
   simp only[sA,sB,seval,qc,q7,p7,le,hel']
   refine (dd G5.pg lev (by simp only[lA,N5,N6,htl]; omega) om).mono ?_
   rintro _ H6 ⟨g6,E6⟩
   have G6:=G5.fwd E6 g6
   simp only[sA,sB,seval,se]
   refine (iE G6 [125,10] (by simp only[lA,N5,N6,htl]; omega)).mono ?_
   rintro _ H7 ⟨G7,E7⟩
   simp only[sA,sB,seval,hQ]
   exact⟨[],rfl,by simpa only [Oe,List.nil_append,Oj] using G7,(E05.trans E6).trans E7⟩
  ·have hel':(0:Int)<(els.length:Int):=by
    have:=List.length_pos_iff.2 fun q=>hel (List.isEmpty_iff.2 q)
    omega
   rw[if_neg hel]at hs
   rw[hs]at hQ hL
   simp only[lA,N5,N6,htl]at hL
   refine (dd G.pg lev om om).mono ?_
   rintro _ H1 ⟨g1,E1⟩
   have G1:=G.fwd E1 g1
   have p0a:=(hpF E1).load0 (x:=.int .u8 (k:Int)) rfl
   have p1a:=(hpF E1).load (o:=1) (x:=.str s) rfl
   simp only[sA,sB,seval,qc,q0,p0a,i3,i1,i2,i5,se]
   refine (iE G1 [105,102,32,40] (by simp only[lA,N5,N6,htl]; omega)).mono ?_
   rintro _ H2 ⟨G2,E2⟩
   have E02:=E1.trans E2
   simp only[sA,sB,seval,qc,q2]
   refine (ex E02 G2 (by simp only[lA,N5,N6,htl]; omega)).mono ?_
   rintro _ H3 ⟨G3,E3⟩
   have p0b:=(hpF E3).load0 (x:=.int .u8 (k:Int)) rfl
   have p1b:=(hpF E3).load (o:=1) (x:=.str s) rfl
   simp only[sA,sB,seval,qc,q0,p0b,i3,i1,i2,i5,se]
   refine (iE G3 [41,32,123,10] (by simp only[lA,N5,N6,htl]; omega)).mono ?_
   rintro _ H4 ⟨G4,E4⟩
   have E04:=E3.trans E4
   have p6:=(hpF E04).load (o:=6) (x:=vb) rfl
   simp only[sA,sB,seval,qc,q6,p6,wl]
   refine (ih body Cb H4 vb _ (lev+1) om hok.2.2.1 hrg.2.1 (z1.mono fun b hb=>⟨hb,E04.old b hb⟩) (z2.mono fun b hb=>⟨hb,E04.old b hb⟩) G4 (by rw[<- hB]; simp only[lA,N5,N6,htl]; omega) om).mono ?_
   rintro _ H5 ⟨G5,E5⟩
   rw[<- hB]at G5
   have E05:=E04.trans E5
   have p7:=(hpF E05).load (o:=7) (x:=ve) rfl
   simp only[sA,sB,seval,qc,q7,p7,le,hel']
   refine (dd G5.pg lev (by simp only[lA,N5,N6,htl]; omega) om).mono ?_
   rintro _ H6 ⟨g6,E6⟩
   have G6:=G5.fwd E6 g6
   have E06:=E05.trans E6
   simp only[sA,sB,seval,se]
   refine (iE G6 [125,32,101,108,115,101,32,123,10] (by simp only[lA,N5,N6,htl]; omega)).mono ?_
   rintro _ H7 ⟨G7,E7⟩
   have E07:=E06.trans E7
   have p7':=(hpF E07).load (o:=7) (x:=ve) rfl
   simp only[sA,sB,seval,qc,q7,p7',wl]
   refine (ih els Ce H7 ve _ (lev+1) om hok.2.2.2 hrg.2.2 (y1.mono fun b hb=>⟨hb,E07.old b hb⟩) (y2.mono fun b hb=>⟨hb,E07.old b hb⟩) G7 (by rw[<- hEL]; simp only[lA,N5,N6,htl]; omega) om).mono ?_
   rintro _ H8 ⟨G8,E8⟩
   rw[<- hEL]at G8
   have E08:=E07.trans E8
   simp only[sA,sB,seval]
   refine (dd G8.pg lev (by simp only[lA,N5,N6,htl]; omega) om).mono ?_
   rintro _ H9 ⟨g9,E9⟩
   have G9:=G8.fwd E9 g9
   simp only[sA,sB,seval,se]
   refine (iE G9 [125,10] (by simp only[lA,N5,N6,htl]; omega)).mono ?_
   rintro _ Ha ⟨Ga,Ea⟩
   simp only[sA,sB,seval,hQ]
   exact⟨[],rfl,by simpa only [Oe,List.nil_append,Oj] using Ga,(E08.trans E9).trans Ea⟩
 have i3:¬(k:Int)=3:=om
 by_cases k4:k=4
 ·have i4:(k:Int)=4:=om
  have hs:dA k s lev X B EL els.isEmpty=cg lev++([119,104,105,108,101,32,40]++(X++([41,32,123,10]++(B++((if els.isEmpty then [] else cg lev++([125,32,101,108,115,101,32,123,10]++EL))++(cg lev++[125,10])))))):=by unfold dA; rw[if_neg k1,if_neg k2,if_neg k5,if_neg k3]
  have hle:bV k s body.length els.length=(s.isEmpty&&Nat.beq els.length 0):=by unfold bV; rw[if_neg om,if_neg k3,if_pos k4]
  have h0:els.length=0:=by
   have:=hok.1
   rw[hle,N4]at this
   exact N8 this.2
  have hel:els.isEmpty=true:=List.isEmpty_iff.2 (List.length_eq_zero_iff.1 h0)
  have hel':¬(0:Int)<(els.length:Int):=om
  rw[if_pos hel]at hs
  rw[hs]at hQ hL
  simp only[lA,N5,N6,htl]at hL
  refine (dd G.pg lev om om).mono ?_
  rintro _ H1 ⟨g1,E1⟩
  have G1:=G.fwd E1 g1
  have p0a:=(hpF E1).load0 (x:=.int .u8 (k:Int)) rfl
  have p1a:=(hpF E1).load (o:=1) (x:=.str s) rfl
  simp only[sA,sB,seval,qc,q0,p0a,i4,i1,i2,i5,i3,se]
  refine (iE G1 [119,104,105,108,101,32,40] (by simp only[lA,N5,N6,htl]; omega)).mono ?_
  rintro _ H2 ⟨G2,E2⟩
  have E02:=E1.trans E2
  simp only[sA,sB,seval,qc,q2]
  refine (ex E02 G2 (by simp only[lA,N5,N6,htl]; omega)).mono ?_
  rintro _ H3 ⟨G3,E3⟩
  have p0b:=(hpF E3).load0 (x:=.int .u8 (k:Int)) rfl
  have p1b:=(hpF E3).load (o:=1) (x:=.str s) rfl
  simp only[sA,sB,seval,qc,q0,p0b,i4,i1,i2,i5,i3,se]
  refine (iE G3 [41,32,123,10] (by simp only[lA,N5,N6,htl]; omega)).mono ?_
  rintro _ H4 ⟨G4,E4⟩
  have E04:=E3.trans E4
  have p6:=(hpF E04).load (o:=6) (x:=vb) rfl
  simp only[sA,sB,seval,qc,q6,p6,wl]
  refine (ih body Cb H4 vb _ (lev+1) om hok.2.2.1 hrg.2.1 (z1.mono fun b hb=>⟨hb,E04.old b hb⟩) (z2.mono fun b hb=>⟨hb,E04.old b hb⟩) G4 (by rw[<- hB]; simp only[lA,N5,N6,htl]; omega) om).mono ?_
  rintro _ H5 ⟨G5,E5⟩
  rw[<- hB]at G5
  have E05:=E04.trans E5
  have p7:=(hpF E05).load (o:=7) (x:=ve) rfl
  simp only[sA,sB,seval,qc,q7,p7,le,hel']
  refine (dd G5.pg lev (by simp only[lA,N5,N6,htl]; omega) om).mono ?_
  rintro _ H6 ⟨g6,E6⟩
  have G6:=G5.fwd E6 g6
  simp only[sA,sB,seval,se]
  refine (iE G6 [125,10] (by simp only[lA,N5,N6,htl]; omega)).mono ?_
  rintro _ H7 ⟨G7,E7⟩
  simp only[sA,sB,seval,hQ]
  exact⟨[],rfl,by simpa only [Oe,List.nil_append,Oj] using G7,(E05.trans E6).trans E7⟩
 have:bV k s body.length els.length=false:=by unfold bV; rw[if_neg om,if_neg k3,if_neg k4,if_neg k5]
 rw[this]at hok
 exact absurd hok.1 (by simp)
theorem Nt(n pg:Nat):Mk n pg 0:=by
 intro st c H p W lev h
 have:=kO st
 omega
theorem Aw(n pg:Nat):∀N,Mk n pg N
 | 0=>Nt n pg
 | N+1=>stG (liG (Aw n pg N))
open Go.Abs Go.Abs.S
theorem wZ{l:List St}(h:cE l=true):bj l<=40:=by
 unfold cE jO at h
 simp only[N4,Od]at h
 exact h.2.2
theorem mq{l:List St}{C:List aa}{v:aa}{H:ab}(z1:fw (·<H.next) H 9 v l.length C)(z2:gr (·<H.next) H l C)(hr:bR l=true)(hlen:cE l=true->(aF 0 l).length<=1000000000)(h1:1<H.next)(hG:pM H 1 ml) :
  an Tryd.prog aB 6 [v] H fun u H'=>u=.tuple [.str (fX l).1,.int .i64 ((fX l).2:Int)]/\b7 H.next H H':=by
 refine ak rfl za6 rfl ?_
 simp only[c6,sA,sB,seval]
 refine (ij z1 z2).mono ?_
 rintro _ H1 ⟨rfl,E1⟩
 have e1:=E1.next
 cases hR:cE l with
 | false=>
  have hs:fX l=([],103):=by unfold fX; rw[if_neg (by rw[hR]; simp)]
  simp only[sA,sB,seval,hs]
  exact⟨tt,E1⟩
 | true=>
 have hok:cH l=true:=by
  unfold cE at hR
  simp only[N4]at hR
  exact hR.1
 have b1:bT [.slice none 0 (.known 0)] []=some (.agg [.slice none 0 (.known 0)]):=rfl
 obtain⟨H2,m2,r2,n2,k2⟩:=aG H1 [.slice none 0 (.known 0)] (n:=1) rfl
 have E2:b7 H.next H H2:=E1.trans ⟨om,fun c hc=>k2 c om⟩
 have G2:nU H.next H1.next H2 []:=⟨⟨om,om,cp,[],r2,eh.nil _ _ _,vt _,.inl rfl,Nat.le_refl _⟩,h1,by unfold pM; rw[E2.old 1 h1]; exact hG⟩
 have ag:∀l:List aa,(aa.agg l).cells=l:=dq
 simp only[sA,sB,seval,b1,ag,m2]
 refine (liG (Aw H.next H1.next (aI l)) l C H2 v [] 0 rL hok hr (z1.mono fun b hb=>⟨hb,E2.old b hb⟩) (z2.mono fun b hb=>⟨hb,E2.old b hb⟩) G2 (by simpa using hlen hR) (by have:=wZ hR; omega)).mono ?_
 rintro _ H3 ⟨G3,E3⟩
 have E03:=E2.trans E3
 rw[List.nil_append]at G3
 obtain⟨g1,g2,v',Y,hrp,hv,hb,hc,hcl⟩:=G3.pg
 have lp:am false 1 H3 (af H1.next 1 0)=some v':=al hrp rfl rfl
 have lY:=hv.len
 have hYb:=hlen hR
 by_cases hy:16384<Y.length
 ·have hy':(16384:Int)<(Y.length:Int):=om
  have hs:fX l=([],3):=by unfold fX; rw[if_pos hR,if_pos om]
  simp only[sA,sB,seval,aC,fld0,lp,lY,hy',hs]
  exact⟨tt,E03⟩
 ·have hy':¬(16384:Int)<(Y.length:Int):=om
  have hYe:Y=aF 0 l:=by rcases hc with h | h; exact h; omega
  have hs:fX l=(Y,0):=by unfold fX; rw[if_pos hR,<- hYe,if_neg om]
  have hbs:GL H3 v'=some (.str Y):=KP (hv.cel1 hv.blk')
  simp only[sA,sB,seval,aC,fld0,lp,lY,hy',hbs,hs]
  exact⟨tt,E03⟩
open Go.Abs Go.Abs.S
noncomputable section
def c3:cw:=⟨95,zq [zo 4 (.mv (.c (.bool false)))] (zr [zm 15 0,zx 16 4 [.t 15,zi 100,zi 2000],zm 17 16,zg 18 (.mv (.t 1)) 17 false,zg 19 (.len true (.t 18)) 17 false,zg 20 (.bin .gtr (.t 19) (zi 3000)) 17 false,zo 21 (.pick (.t 17) (.c (.bool true)) (.t 20))] 21 (zq [zx 22 5 [],zm 4 22] .ret) .skip (.seq (zq [zm 24 0,zx 25 6 [.t 24],zm 23 25,ze 26 0 23,ze 27 1 23,zm 5 26,zm 6 27] (zq [zm 28 6,zk 29 .eql 28 0] (.cond (.t 29) (zq [zm 31 5,zx 32 7 [.t 31],zm 30 32,ze 33 0 30,ze 34 1 30,zo 8 (.new [zI 0,zI 0]),zm 7 33,zp (.store 2 (.t 8) (.t 34))] (zq [zf 35 0 8,zl 36 35,zk 37 .neq 36 0,zm 38 37,zg 39 (.mv (.t 0)) 38 false,zg 40 (.mv (.t 7)) 38 false,zg 41 (.call 8 [.t 39,.t 40,.c (.bool false)]) 38 false,zg 42 (.un .not (.t 41)) 38 false,zo 43 (.pick (.t 38) (.c (.bool true)) (.t 42))] (.cond (.t 43) (zq [zo 4 (.mv (.c (.bool false)))] .ret) .skip))) .skip))) (zq [zm 45 1,zx 46 7 [.t 45],zm 44 46,ze 47 0 44,ze 48 1 44,zo 10 (.new [zI 0,zI 0]),zm 9 47,zp (.store 2 (.t 10) (.t 48))] (zr [zf 49 0 10,zl 50 49,zk 51 .neq 50 0] 51 (zq [zm 52 9,zh 53 52,zk 54 .eql 53 0,zm 55 54,zg 56 (.call 5 []) 55 true,zo 57 (.pick (.t 55) (.t 56) (.c (.bool false))),zm 4 57] .ret) .skip (zq [zm 59 9,zx 60 6 [.t 59],zm 58 60,ze 61 0 58,ze 62 1 58,zm 11 61,zm 12 62] (zr [zm 63 9,zx 64 9 [.t 63],zo 65 (.un .not (.t 64)),zm 66 65,zg 67 (.mv (.t 12)) 66 false,zg 68 (.bin .neq (.t 67) (zi 0)) 66 false,zo 69 (.pick (.t 66) (.c (.bool true)) (.t 68))] 69 (zq [zm 70 9,zx 71 9 [.t 70],zm 72 71,zg 73 (.mv (.t 12)) 72 true,zg 74 (.bin .eql (.t 73) (zi 3)) 72 true,zo 75 (.pick (.t 72) (.t 74) (.c (.bool false))),zm 76 75,zg 77 (.call 5 []) 76 true,zo 78 (.pick (.t 76) (.t 77) (.c (.bool false))),zm 4 78] .ret) .skip (zq [zm 80 11,zx 81 7 [.t 80],zm 79 81,ze 82 0 79,ze 83 1 79,zo 14 (.new [zI 0,zI 0]),zm 13 82,zp (.store 2 (.t 14) (.t 83))] (zq [zf 84 0 14,zl 85 84,zk 86 .eql 85 0,zm 87 86,zg 88 (.mv (.t 9)) 87 true,zg 89 (.mv (.t 13)) 87 true,zg 90 (.call 8 [.t 88,.t 89,.c (.bool false)]) 87 true,zo 91 (.pick (.t 87) (.t 90) (.c (.bool false))),zm 92 91,zg 93 (.call 5 []) 92 true,zo 94 (.pick (.t 92) (.t 93) (.c (.bool false))),zm 4 94] .ret)))))))),[.t 4]⟩
theorem za3:cN Tryd.prog 3=some c3:=by kernel_rfl
def c4:cw:=⟨12,zq [zo 6 (.mv (.c (.bool false)))] (zq [zo 7 (.new [zI 0]),zp (.store 1 (.t 7) (zi 0))] (zq [zm 8 0,zm 9 1,zm 10 2,zx 11 10 [.t 8,.t 9,.t 10,.t 7],zm 6 11] .ret)),[.t 6]⟩
theorem za4:cN Tryd.prog 4=some c4:=by kernel_rfl
def NR:cw:=⟨76,zq [zo 8 (.mv (.c (.bool false)))] (.seq (zq [zo 9 (.mv (zi 0))] (.block 0 (.loop (zr [zm 10 9,zm 11 0,zh 12 11,zb 13 .lss 10 12] 13 .skip (.exit 0) (.seq (.block 1 (zq [zm 16 3,zm 17 3,zc 18 17,zl 19 18,zk 20 .add 19 1,zc 21 16,zs 21 20] (zq [zm 22 3,zc 23 22,zl 24 23,zm 25 2,zb 26 .gtr 24 25,zm 27 26,zg 28 (.mv (.t 1)) 27 false,zg 29 (.bin .lss (.t 28) (zi 1)) 27 false,zo 30 (.pick (.t 27) (.c (.bool true)) (.t 29)),zm 31 30,zg 32 (.mv (.t 0)) 31 false,zg 33 (.mv (.t 9)) 31 false,zg 34 (.idxA 9 (.t 32) (.t 33)) 31 false,zg 35 (.fieldA 1 (.t 34)) 31 false,zg 36 (.load false 1 (.t 35)) 31 false,zg 37 (.len true (.t 36)) 31 false,zg 38 (.bin .gtr (.t 37) (zi 1000)) 31 false,zo 39 (.pick (.t 31) (.c (.bool true)) (.t 38)),zm 40 39,zg 41 (.mv (.t 0)) 40 false,zg 42 (.mv (.t 9)) 40 false,zg 43 (.idxA 9 (.t 41) (.t 42)) 40 false,zg 44 (.fieldA 2 (.t 43)) 40 false,zg 45 (.load true 4 (.t 44)) 40 false,zg 46 (.mv (.t 1)) 40 false,zg 47 (.bin .sub (.t 46) (zi 1)) 40 false,zg 48 (.mv (.t 2)) 40 false,zg 49 (.mv (.t 3)) 40 false,zg 50 (.call 18 [.t 45,.t 47,.t 48,.t 49]) 40 false,zo 51 (.pick (.t 40) (.c (.bool true)) (.t 50)),zm 52 51,zg 53 (.mv (.t 0)) 52 false,zg 54 (.mv (.t 9)) 52 false,zg 55 (.idxA 9 (.t 53) (.t 54)) 52 false,zg 56 (.fieldA 6 (.t 55)) 52 false,zg 57 (.load false 1 (.t 56)) 52 false,zg 58 (.mv (.t 1)) 52 false,zg 59 (.bin .sub (.t 58) (zi 1)) 52 false,zg 60 (.mv (.t 2)) 52 false,zg 61 (.mv (.t 3)) 52 false,zg 62 (.call 10 [.t 57,.t 59,.t 60,.t 61]) 52 false,zo 63 (.pick (.t 52) (.c (.bool true)) (.t 62)),zm 64 63,zg 65 (.mv (.t 0)) 64 false,zg 66 (.mv (.t 9)) 64 false,zg 67 (.idxA 9 (.t 65) (.t 66)) 64 false,zg 68 (.fieldA 7 (.t 67)) 64 false,zg 69 (.load false 1 (.t 68)) 64 false,zg 70 (.mv (.t 1)) 64 false,zg 71 (.bin .sub (.t 70) (zi 1)) 64 false,zg 72 (.mv (.t 2)) 64 false,zg 73 (.mv (.t 3)) 64 false,zg 74 (.call 10 [.t 69,.t 71,.t 72,.t 73]) 64 false,zo 75 (.pick (.t 64) (.c (.bool true)) (.t 74))] (.cond (.t 75) (zq [zo 8 (.mv (.c (.bool true)))] .ret) .skip)))) (.reg [zm 14 9,zk 15 .add 14 1,zm 9 15])))))) (zq [zo 8 (.mv (.c (.bool false)))] .ret)),[.t 8]⟩
theorem Lt:cN Tryd.prog 10=some NR:=by kernel_rfl
def LY:cw:=⟨48,zq [zo 4 (.box (.t 0)),zo 8 (.mv (.c (.bool false)))] (zq [zm 10 3,zm 11 3,zc 12 11,zl 13 12,zk 14 .add 13 1,zc 15 10,zs 15 14] (zr [zm 16 3,zc 17 16,zl 18 17,zm 19 2,zb 20 .gtr 18 19,zm 21 20,zg 22 (.mv (.t 1)) 21 false,zg 23 (.bin .lss (.t 22) (zi 1)) 21 false,zo 24 (.pick (.t 21) (.c (.bool true)) (.t 23)),zm 25 24,zg 26 (.fieldA 1 (.t 4)) 25 false,zg 27 (.load false 1 (.t 26)) 25 false,zg 28 (.len true (.t 27)) 25 false,zg 29 (.bin .gtr (.t 28) (zi 1000)) 25 false,zo 30 (.pick (.t 25) (.c (.bool true)) (.t 29))] 30 (zq [zo 8 (.mv (.c (.bool true)))] .ret) .skip (.seq (zq [zo 9 (.mv (zi 0))] (.block 0 (.loop (zr [zm 31 9,zf 32 3 4,zl 33 32,zh 34 33,zb 35 .lss 31 34] 35 .skip (.exit 0) (.seq (.block 1 (zq [zf 38 3 4,zl 39 38,zm 40 9,zo 41 (.idxA 4 (.t 39) (.t 40)),zt 42 4 41,zm 43 1,zk 44 .sub 43 1,zm 45 2,zm 46 3,zx 47 18 [.t 42,.t 44,.t 45,.t 46]] (.cond (.t 47) (zq [zo 8 (.mv (.c (.bool true)))] .ret) .skip))) (.reg [zm 36 9,zk 37 .add 36 1,zm 9 37])))))) (zq [zo 8 (.mv (.c (.bool false)))] .ret)))),[.t 8]⟩
theorem Ni:cN Tryd.prog 18=some LY:=by kernel_rfl
def c5:cw:=⟨108,zq [zo 0 (.mv (.c (.bool false)))] (zq [zx 12 7 [.c (.str [108,101,116,32,97,32,61,32,49,32,43,32,50,32,42,32,98,59])],zm 11 12,ze 13 0 11,ze 14 1 11,zo 2 (.new [zI 0,zI 0]),zm 1 13,zp (.store 2 (.t 2) (.t 14))] (zq [zx 16 7 [.c (.str [114,101,116,117,114,110,32,45,120,40,112,41,32,60,32,48,46,53,59])],zm 15 16,ze 17 0 15,ze 18 1 15,zo 4 (.new [zI 0,zI 0]),zm 3 17,zp (.store 2 (.t 4) (.t 18))] (zq [zx 20 7 [.c (.str [105,102,32,40,97,41,32,123,32,125,32,101,108,115,101,32,123,32,114,101,116,117,114,110,32,49,59,32,125])],zm 19 20,ze 21 0 19,ze 22 1 19,zo 6 (.new [zI 0,zI 0]),zm 5 21,zp (.store 2 (.t 6) (.t 22))] (zq [zx 24 7 [.c (.str [108,101,116,32,97,32,61,32,49])],zm 23 24,ze 25 0 23,ze 26 1 23,zo 8 (.new [zI 0,zI 0]),zm 7 25,zp (.store 2 (.t 8) (.t 26))] (zq [zm 28 1,zx 29 6 [.t 28],zm 27 29,ze 30 0 27,ze 31 1 27,zm 9 30,zm 10 31] (zq [zf 32 0 2,zl 33 32,zk 34 .eql 33 0,zm 35 34,zg 36 (.mv (.t 1)) 35 true,zg 37 (.len false (.t 36)) 35 true,zg 38 (.bin .eql (.t 37) (zi 1)) 35 true,zo 39 (.pick (.t 35) (.t 38) (.c (.bool false))),zm 40 39,zg 41 (.mv (.t 1)) 40 true,zg 42 (.idxA 9 (.t 41) (zi 0)) 40 true,zg 43 (.fieldA 2 (.t 42)) 40 true,zg 44 (.fieldA 1 (.t 43)) 40 true,zg 45 (.load false 1 (.t 44)) 40 true,zg 46 (.bin .eql (.t 45) (.c (.str [43]))) 40 true,zo 47 (.pick (.t 40) (.t 46) (.c (.bool false))),zm 48 47,zg 49 (.fieldA 0 (.t 4)) 48 true,zg 50 (.load false 1 (.t 49)) 48 true,zg 51 (.bin .eql (.t 50) (zi 0)) 48 true,zo 52 (.pick (.t 48) (.t 51) (.c (.bool false))),zm 53 52,zg 54 (.mv (.t 3)) 53 true,zg 55 (.len false (.t 54)) 53 true,zg 56 (.bin .eql (.t 55) (zi 1)) 53 true,zo 57 (.pick (.t 53) (.t 56) (.c (.bool false))),zm 58 57,zg 59 (.mv (.t 3)) 58 true,zg 60 (.idxA 9 (.t 59) (zi 0)) 58 true,zg 61 (.fieldA 2 (.t 60)) 58 true,zg 62 (.fieldA 1 (.t 61)) 58 true,zg 63 (.load false 1 (.t 62)) 58 true,zg 64 (.bin .eql (.t 63) (.c (.str [60]))) 58 true,zo 65 (.pick (.t 58) (.t 64) (.c (.bool false))),zm 66 65,zg 67 (.mv (.t 3)) 66 true,zg 68 (.idxA 9 (.t 67) (zi 0)) 66 true,zg 69 (.fieldA 2 (.t 68)) 66 true,zg 70 (.fieldA 3 (.t 69)) 66 true,zg 71 (.load false 1 (.t 70)) 66 true,zg 72 (.idxA 4 (.t 71) (zi 0)) 66 true,zg 73 (.fieldA 1 (.t 72)) 66 true,zg 74 (.load false 1 (.t 73)) 66 true,zg 75 (.bin .eql (.t 74) (.c (.str [45]))) 66 true,zo 76 (.pick (.t 66) (.t 75) (.c (.bool false))),zm 77 76,zg 78 (.fieldA 0 (.t 6)) 77 true,zg 79 (.load false 1 (.t 78)) 77 true,zg 80 (.bin .eql (.t 79) (zi 0)) 77 true,zo 81 (.pick (.t 77) (.t 80) (.c (.bool false))),zm 82 81,zg 83 (.mv (.t 5)) 82 true,zg 84 (.len false (.t 83)) 82 true,zg 85 (.bin .eql (.t 84) (zi 1)) 82 true,zo 86 (.pick (.t 82) (.t 85) (.c (.bool false))),zm 87 86,zg 88 (.mv (.t 5)) 87 true,zg 89 (.idxA 9 (.t 88) (zi 0)) 87 true,zg 90 (.fieldA 7 (.t 89)) 87 true,zg 91 (.load false 1 (.t 90)) 87 true,zg 92 (.len false (.t 91)) 87 true,zg 93 (.bin .eql (.t 92) (zi 1)) 87 true,zo 94 (.pick (.t 87) (.t 93) (.c (.bool false))),zm 95 94,zg 96 (.load true 2 (.t 8)) 95 true,zg 97 (.build [zI 0,zI 0] [(0,1,zi 101),(1,1,zi 1)]) 95 true,zg 98 (.pf (.eqS false [(0,.int),(1,.int)]) [.t 96,.t 97]) 95 true,zo 99 (.pick (.t 95) (.t 98) (.c (.bool false))),zm 100 99,zg 101 (.mv (.t 10)) 100 true,zg 102 (.bin .eql (.t 101) (zi 0)) 100 true,zo 103 (.pick (.t 100) (.t 102) (.c (.bool false))),zm 104 103,zg 105 (.mv (.t 9)) 104 true,zg 106 (.bin .eql (.t 105) (.c (.str [108,101,116,32,97,32,61,32,49,32,43,32,40,50,32,42,32,98,41,59,10]))) 104 true,zo 107 (.pick (.t 104) (.t 106) (.c (.bool false))),zm 0 107] .ret)))))),[.t 0]⟩
theorem za5:cN Tryd.prog 5=some c5:=by kernel_rfl
def c8:cw:=⟨77,zq [zo 6 (.mv (.c (.bool false)))] (zr [zm 10 0,zh 11 10,zm 12 1,zh 13 12,zb 14 .neq 11 13] 14 (zq [zo 6 (.mv (.c (.bool false)))] .ret) .skip (.seq (zq [zo 7 (.mv (zi 0))] (.block 0 (.loop (zr [zm 15 7,zm 16 0,zh 17 16,zb 18 .lss 15 17] 18 .skip (.exit 0) (.seq (.block 1 (.seq (.draw [zm 21 0,zm 22 7,zo 23 (.idxA 9 (.t 21) (.t 22)),zt 24 9 23,zm 25 1,zm 26 7,zo 27 (.idxA 9 (.t 25) (.t 26)),zt 28 9 27,zo 8 (.new [zU 0,.str [],zU 0,.str [],zI 0,zN,zN,zN,zI 0]),zo 9 (.new [zU 0,.str [],zU 0,.str [],zI 0,zN,zN,zN,zI 0]),zp (.store 9 (.t 8) (.t 24)),zp (.store 9 (.t 9) (.t 28))] [[],[],[],[],[],[],[],[11],[],[],[],[]]) (zq [zf 29 0 8,zl 30 29,zf 31 0 9,zl 32 31,zb 33 .neq 30 32,zm 34 33,zg 35 (.fieldA 1 (.t 8)) 34 false,zg 36 (.load false 1 (.t 35)) 34 false,zg 37 (.fieldA 1 (.t 9)) 34 false,zg 38 (.load false 1 (.t 37)) 34 false,zg 39 (.bin .neq (.t 36) (.t 38)) 34 false,zo 40 (.pick (.t 34) (.c (.bool true)) (.t 39)),zm 41 40,zg 42 (.mv (.t 2)) 41 false,zg 43 (.mv (.t 42)) 41 false,zg 44 (.fieldA 8 (.t 8)) 43 true,zg 45 (.load false 1 (.t 44)) 43 true,zg 46 (.fieldA 8 (.t 9)) 43 true,zg 47 (.load false 1 (.t 46)) 43 true,zg 48 (.bin .neq (.t 45) (.t 47)) 43 true,zg 49 (.pick (.t 43) (.t 48) (.c (.bool false))) 41 false,zo 50 (.pick (.t 41) (.c (.bool true)) (.t 49)),zm 51 50,zg 52 (.fieldA 2 (.t 8)) 51 false,zg 53 (.load true 4 (.t 52)) 51 false,zg 54 (.fieldA 2 (.t 9)) 51 false,zg 55 (.load true 4 (.t 54)) 51 false,zg 56 (.call 16 [.t 53,.t 55]) 51 false,zg 57 (.un .not (.t 56)) 51 false,zo 58 (.pick (.t 51) (.c (.bool true)) (.t 57)),zm 59 58,zg 60 (.fieldA 6 (.t 8)) 59 false,zg 61 (.load false 1 (.t 60)) 59 false,zg 62 (.fieldA 6 (.t 9)) 59 false,zg 63 (.load false 1 (.t 62)) 59 false,zg 64 (.mv (.t 2)) 59 false,zg 65 (.call 8 [.t 61,.t 63,.t 64]) 59 false,zg 66 (.un .not (.t 65)) 59 false,zo 67 (.pick (.t 59) (.c (.bool true)) (.t 66)),zm 68 67,zg 69 (.fieldA 7 (.t 8)) 68 false,zg 70 (.load false 1 (.t 69)) 68 false,zg 71 (.fieldA 7 (.t 9)) 68 false,zg 72 (.load false 1 (.t 71)) 68 false,zg 73 (.mv (.t 2)) 68 false,zg 74 (.call 8 [.t 70,.t 72,.t 73]) 68 false,zg 75 (.un .not (.t 74)) 68 false,zo 76 (.pick (.t 68) (.c (.bool true)) (.t 75))] (.cond (.t 76) (zq [zo 6 (.mv (.c (.bool false)))] .ret) .skip)))) (.reg [zm 19 7,zk 20 .add 19 1,zm 7 20])))))) (zq [zo 6 (.mv (.c (.bool true)))] .ret))),[.t 6]⟩
theorem za8:cN Tryd.prog 8=some c8:=by kernel_rfl
def c16:cw:=⟨53,zq [zo 2 (.box (.t 0)),zo 3 (.box (.t 1)),zo 4 (.mv (.c (.bool false)))] (zr [zf 6 0 2,zl 7 6,zf 8 0 3,zl 9 8,zb 10 .neq 7 9,zm 11 10,zg 12 (.fieldA 1 (.t 2)) 11 false,zg 13 (.load false 1 (.t 12)) 11 false,zg 14 (.fieldA 1 (.t 3)) 11 false,zg 15 (.load false 1 (.t 14)) 11 false,zg 16 (.bin .neq (.t 13) (.t 15)) 11 false,zo 17 (.pick (.t 11) (.c (.bool true)) (.t 16)),zm 18 17,zg 19 (.fieldA 2 (.t 2)) 18 false,zg 20 (.load false 1 (.t 19)) 18 false,zg 21 (.fieldA 2 (.t 3)) 18 false,zg 22 (.load false 1 (.t 21)) 18 false,zg 23 (.bin .neq (.t 20) (.t 22)) 18 false,zo 24 (.pick (.t 18) (.c (.bool true)) (.t 23)),zm 25 24,zg 26 (.fieldA 3 (.t 2)) 25 false,zg 27 (.load false 1 (.t 26)) 25 false,zg 28 (.len false (.t 27)) 25 false,zg 29 (.fieldA 3 (.t 3)) 25 false,zg 30 (.load false 1 (.t 29)) 25 false,zg 31 (.len false (.t 30)) 25 false,zg 32 (.bin .neq (.t 28) (.t 31)) 25 false,zo 33 (.pick (.t 25) (.c (.bool true)) (.t 32))] 33 (zq [zo 4 (.mv (.c (.bool false)))] .ret) .skip (.seq (zq [zo 5 (.mv (zi 0))] (.block 0 (.loop (zr [zm 34 5,zf 35 3 2,zl 36 35,zh 37 36,zb 38 .lss 34 37] 38 .skip (.exit 0) (.seq (.block 1 (zq [zf 41 3 2,zl 42 41,zm 43 5,zo 44 (.idxA 4 (.t 42) (.t 43)),zt 45 4 44,zf 46 3 3,zl 47 46,zm 48 5,zo 49 (.idxA 4 (.t 47) (.t 48)),zt 50 4 49,zx 51 16 [.t 45,.t 50],zo 52 (.un .not (.t 51))] (.cond (.t 52) (zq [zo 4 (.mv (.c (.bool false)))] .ret) .skip))) (.reg [zm 39 5,zk 40 .add 39 1,zm 5 40])))))) (zq [zo 4 (.mv (.c (.bool true)))] .ret))),[.t 4]⟩
theorem Nk:cN Tryd.prog 16=some c16:=by kernel_rfl
end
open Go.Abs Go.Abs.S
abbrev Me:List St:=[.mk 1 [97] (.mk 3 [43] 0 [.mk 1 [] 4294967296 [],.mk 3 [42] 0 [.mk 1 [] 8589934592 [],.mk 2 [98] 0 []]]) [] [] 1]
abbrev tr2:List St:=[.mk 5 [] (.mk 3 [60] 0 [.mk 3 [45] 0 [.mk 4 [120] 0 [.mk 2 [112] 0 []]],.mk 1 [] 2147483648 []]) [] [] 1]
abbrev tr3:List St:=[.mk 3 [] (.mk 2 [97] 0 []) [] [.mk 5 [] (.mk 1 [] 4294967296 []) [] [] 1] 1]
theorem ex1:dC [108,101,116,32,97,32,61,32,49,32,43,32,50,32,42,32,98,59]=.ok Me:=by kernel_rfl
theorem ex2:dC [114,101,116,117,114,110,32,45,120,40,112,41,32,60,32,48,46,53,59]=.ok tr2:=by kernel_rfl
theorem ex3:dC [105,102,32,40,97,41,32,123,32,125,32,101,108,115,101,32,123,32,114,101,116,117,114,110,32,49,59,32,125]=.ok tr3:=by kernel_rfl
theorem ex4:dC [108,101,116,32,97,32,61,32,49]=.error (101,1):=by kernel_rfl
theorem Nz:bb 4294967296=[49]:=by
 have h:bb 4294967296=[]++(cQ (ef 1)++hZ 0):=by rw[bb]; rfl
 rw[h,fM om]; rfl
theorem Ny:bb 8589934592=[50]:=by
 have h:bb 8589934592=[]++(cQ (ef 2)++hZ 0):=by rw[bb]; rfl
 rw[h,fM om]; rfl
theorem Jh:aF 0 Me=[108,101,116,32,97,32,61,32,49,32,43,32,40,50,32,42,32,98,41,59,10]:=by
 simp only[aF,ft,bF,gn,cC,dA,Ex.kind,if_true,Nz,Ny]
 rfl
theorem J8:fX Me=([108,101,116,32,97,32,61,32,49,32,43,32,40,50,32,42,32,98,41,59,10],0):=by
 have h:cE Me=true:=by kernel_rfl
 unfold fX
 rw[if_pos h,Jh,if_neg (by simp)]
theorem iW{s:Bs}{l:List St}(e:dC s=.ok l){H:ab}:an Tryd.prog aB 7 [.str s] H fun u H'=>(∃v C,u=.tuple [v,.agg (gq 0 0)]/\fw (In H.next H'.next) H' 9 v l.length C/\gr (In H.next H'.next) H' l C)/\b7 H.next H H':=by
 have:=oQ s (H:=H)
 rw[e]at this
 exact this
theorem tp{s:Bs}{f:Aa}(e:dC s=.error f){H:ab}:an Tryd.prog aB 7 [.str s] H fun u H'=>u=.tuple [cp,.agg (gq f.1 f.2)]/\b7 H.next H H':=by
 have:=oQ s (H:=H)
 rw[e]at this
 exact this
theorem jx{H:ab}(e l:Nat):∃H1 H2,fm H [.int .i64 0,.int .i64 0]=(af H.next 2 0,H1)/\bx 2 H1 (af H.next 2 0) (.agg (gq e l))=some H2/\bc H2 H.next (gq e l)/\H2.next=H.next+1/\∀c,c<H.next->H2.get c=H.get c:=by
 obtain⟨H1,m1,r1,n1,k1⟩:=aG H [.int .i64 0,.int .i64 0] (n:=2) rfl
 obtain⟨H2,m2,r2,n2,k2⟩:=aq r1 (n:=2) rfl (xs:=gq e l) rfl rfl
 exact⟨H1,H2,m1,m2,r2,om,fun c hc=>by rw[k2 c om,k1 c om]⟩
theorem qQ{P:Nat->Prop}{H:ab}{v:aa}{C:List aa}{k:Nat}{s:Bs}{e:Ex}{body els r:List St}{line:Int}(z1:fw P H 9 v (St.mk k s e body els line::r).length C)(z2:gr P H (St.mk k s e body els line::r) C) :
  ∃ce vb Cb ve Ce,eB 9 v (.int .i64 0)=some (cL 9 v 0)/\lR H (cL 9 v 0) (.int .u8 (k:Int)::.str s::(ce++[vb,ve,.int .i64 line]))/\XE P H e ce/\fw P H 9 vb body.length Cb/\gr P H body Cb/\fw P H 9 ve els.length Ce/\gr P H els Ce:=by
 have hp:=z1.pt (i:=0) (by simp)
 obtain⟨ce,vb,Cb,ve,Ce,hc,q⟩:=z2.at (i:=0) rfl
 rw[hc]at hp
 exact⟨ce,vb,Cb,ve,Ce,z1.idx (i:=0) (by simp),hp,q⟩
theorem gU{H:ab}(h1:1<H.next)(hG:pM H 1 ml):an Tryd.prog aB 5 [] H fun v H'=>v=.bool true/\b7 H.next H H':=by
 refine ak rfl za5 rfl ?_
 simp only[c5,sA,sB,seval]
 refine (iW ex1).mono ?_
 rintro _ H1 ⟨⟨v1,C1,rfl,a1,a2⟩,E1⟩
 have n1:=E1.next
 obtain⟨Ha,H2,ma,m2,r2,n2,k2⟩:=jx (H:=H1) 0 0
 simp only[sA,sB,seval,bZ,bY,ma,m2]
 refine (iW ex2).mono ?_
 rintro _ H3 ⟨⟨v2,C2,rfl,b1,b2⟩,E3⟩
 have n3:=E3.next
 obtain⟨Hb,H4,mb,m4,r4,n4,k4⟩:=jx (H:=H3) 0 0
 simp only[sA,sB,seval,bZ,bY,mb,m4]
 refine (iW ex3).mono ?_
 rintro _ H5 ⟨⟨v3,C3,rfl,d1,d2⟩,E5⟩
 have n5:=E5.next
 obtain⟨Hc,H6,mc,m6,r6,n6,k6⟩:=jx (H:=H5) 0 0
 simp only[sA,sB,seval,bZ,bY,mc,m6]
 refine (tp ex4).mono ?_
 rintro _ H7 ⟨rfl,E7⟩
 have n7:=E7.next
 obtain⟨Hd,H8,md,m8,r8,n8,k8⟩:=jx (H:=H7) 101 1
 have o71:∀c,c<H1.next->H8.get c=H1.get c:=fun c hc=>by rw[k8 c om,E7.old c om,k6 c om,E5.old c om,k4 c om,E3.old c om,k2 c om]
 have o83:∀c,c<H3.next->H8.get c=H3.get c:=fun c hc=>by rw[k8 c om,E7.old c om,k6 c om,E5.old c om,k4 c om]
 have o85:∀c,c<H5.next->H8.get c=H5.get c:=fun c hc=>by rw[k8 c om,E7.old c om,k6 c om]
 have a18:=a1.mono (Q:=(·<H8.next)) (H':=H8) fun b hb=>⟨by have:=hb.2; omega,o71 b hb.2⟩
 have a28:=a2.mono (Q:=(·<H8.next)) (H':=H8) fun b hb=>⟨by have:=hb.2; omega,o71 b hb.2⟩
 have G8:pM H8 1 ml:=by unfold pM; rw[o71 1 om,E1.old 1 h1]; exact hG
 simp only[sA,sB,seval,bZ,bY,md,m8]
 refine (mq a18 a28 (by kernel_rfl) (fun _=>by rw[Jh]; simp) om G8).mono ?_
 rintro _ H9 ⟨rfl,E9⟩
 have n9:=E9.next
 rw[J8]
 have kk:∀c,c<H8.next->H9.get c=H8.get c:=fun c hc=>E9.old c hc
 have w2:am false 1 H9 (af H1.next 2 0)=some (.int .i64 0):=al (r2.same (by rw[kk _ om,k8 _ om,E7.old _ om,k6 _ om,E5.old _ om,k4 _ om,E3.old _ om])) rfl rfl
 have w4:am false 1 H9 (af H3.next 2 0)=some (.int .i64 0):=al (r4.same (by rw[kk _ om,k8 _ om,E7.old _ om,k6 _ om,E5.old _ om])) rfl rfl
 have w6:am false 1 H9 (af H5.next 2 0)=some (.int .i64 0):=al (r6.same (by rw[kk _ om,k8 _ om,E7.old _ om])) rfl rfl
 have w8:am true 2 H9 (af H7.next 2 0)=some (.agg (gq 101 1)):=aD (r8.same (kk _ om)) rfl
 have A1:=a18.mono (Q:=(·<H9.next)) (H':=H9) fun b hb=>⟨om,kk b hb⟩
 have A2:=a28.mono (Q:=(·<H9.next)) (H':=H9) fun b hb=>⟨om,kk b hb⟩
 have B1:=b1.mono (Q:=(·<H9.next)) (H':=H9) fun b hb=>⟨by have:=hb.2; omega,by rw[kk b (by have:=hb.2; omega),o83 b hb.2]⟩
 have B2:=b2.mono (Q:=(·<H9.next)) (H':=H9) fun b hb=>⟨by have:=hb.2; omega,by rw[kk b (by have:=hb.2; omega),o83 b hb.2]⟩
 have D1:=d1.mono (Q:=(·<H9.next)) (H':=H9) fun b hb=>⟨by have:=hb.2; omega,by rw[kk b (by have:=hb.2; omega),o85 b hb.2]⟩
 have D2:=d2.mono (Q:=(·<H9.next)) (H':=H9) fun b hb=>⟨by have:=hb.2; omega,by rw[kk b (by have:=hb.2; omega),o85 b hb.2]⟩
 have l1:gh false v1=some (.int .i64 1):=A1.len
 have l2:gh false v2=some (.int .i64 1):=B1.len
 have l3:gh false v3=some (.int .i64 1):=D1.len
 obtain⟨ce,vb,Cb,ve,Ce,i1,p1,⟨kv,KC,rfl,kz1,kz2⟩,_⟩:=qQ A1 A2
 obtain⟨ce',vb',Cb',ve',Ce',i2,p2,⟨kv',KC',rfl,kz1',kz2'⟩,_⟩:=qQ B1 B2
 obtain⟨ce3,vb3,Cb3,ve3,Ce3,i3,p3,⟨kv3,KC3,rfl,_⟩,_,_,el1,_⟩:=qQ D1 D2
 have g1:=p1.fld 2
 have g1':=(p1.part (o:=2) (k:=4) (by simp)).fld 1
 have h1':am false 1 H9 (fp (fp (cL 9 v1 0) 2) 1)=some (.str [43]):=(p1.part (o:=2) (k:=4) (by simp)).load (o:=1) rfl
 have g2:=p2.fld 2
 have pe2:=p2.part (o:=2) (k:=4) (by simp)
 have g2':=pe2.fld 1
 have g23:=pe2.fld 3
 have h2':am false 1 H9 (fp (fp (cL 9 v2 0) 2) 1)=some (.str [60]):=pe2.load (o:=1) rfl
 have h23:am false 1 H9 (fp (fp (cL 9 v2 0) 2) 3)=some kv':=pe2.load (o:=3) rfl
 have ik:eB 4 kv' (.int .i64 0)=some (cL 4 kv' 0):=kz1'.idx (i:=0) (by simp)
 obtain⟨kk2,KK2,hkc,_⟩:=kz2'.at (i:=0) rfl
 have pk:=kz1'.pt (i:=0) (by simp)
 rw[hkc]at pk
 have gk:=pk.fld 1
 have hk:am false 1 H9 (fp (cL 4 kv' 0) 1)=some (.str [45]):=pk.load (o:=1) rfl
 have g3:=p3.fld 7
 have h3':am false 1 H9 (fp (cL 9 v3 0) 7)=some ve3:=p3.load (o:=7) rfl
 have le3:gh false ve3=some (.int .i64 1):=el1.len
 have bf:bT [.int .i64 0,.int .i64 0] [(0,1,.int .i64 101),(1,1,.int .i64 1)]=some (.agg (gq 101 1)):=rfl
 have eq:jJ (.eqS false [(0,.int),(1,.int)]) [.agg (gq 101 1),.agg (gq 101 1)]=some (.bool true):=rfl
 simp only[sA,sB,seval,bZ,bY,cz,fld0,w2,w4,w6,w8,l1,l2,l3,i1,i2,i3,g1,g1',h1',g2,g2',g23,h2',h23,ik,gk,hk,g3,h3',le3,bf,eq]
 exact⟨tt,om,fun c hc=>by rw[kk c om,o71 c om,E1.old c hc]⟩
open Go.Abs Go.Abs.S
theorem Db(a b:Nat)(h:a+b<=1000000000):IntKind.i64.wrap ((a:Int)+(b:Int))=((a+b:Nat):Int):=Ah
theorem s0(e:Ex):1<=e.size:=by cases e; simp only[Ex.size]; omega
open Go.Abs Go.Abs.S
mutual
def Li:Ex->Bool
 | .mk _ s _ kids=>decide (s.length<=1000)&&sa kids
def sa:List Ex->Bool
 | []=>true
 | e::l=>Li e&&sa l
end
mutual
def smS:St->Bool
 | .mk _ s e body els _=>decide (s.length<=1000)&&(Li e&&(jU body&&jU els))
def jU:List St->Bool
 | []=>true
 | e::l=>smS e&&jU l
end
theorem DS(l m:List Ex):sa (l++m)=(sa l&&sa m):=by
 induction l with
 | nil=>simp[sa]
 | cons x l ih=>simp only[Oj,sa,ih,Bool.and_assoc]
theorem DR(l m:List St):jU (l++m)=(jU l&&jU m):=by
 induction l with
 | nil=>simp[jU]
 | cons x l ih=>simp only[Oj,jU,ih,Bool.and_assoc]
def Lf(b n sz lv dp:Nat)(sm:Bool)(H:ab)(u:aa)(H':ab):Prop:=
 Fp b H H'/\∃(r:Bool) (n':Nat),u=.bool r/\bc H' b [.int .i64 (n':Int)]/\(r=false->n'=n+sz/\n'<=2000/\dp<=lv/\sm=true)
theorem qN:∀(N:Nat) {e:Ex} {c:List aa} {H:ab} {lv n b:Nat},e.size<=N->XE (fun x=>x<H.next/\x≠b) H e c->bc H b [.int .i64 (n:Int)]->b<H.next->n<=2000->lv<=100 ->
  an Tryd.prog aB 18 [.agg c,.int .i64 (lv:Int),.int .i64 2000,af b 1 0] H (Lf b n e.size lv e.deep (Li e) H)
 | 0,e,_,_,_,_,_,h,_,_,_,_,_=>absurd (s0 e) om
 | N+1,.mk k s z kids,c,H,lv,n,b,h,hx,hr,hb,hn,hl=>by
  obtain⟨v,C,rfl,z1,z2⟩:=hx
  have hsz:(Ex.mk k s z kids).size=br kids+1:=rfl
  have hdp:(Ex.mk k s z kids).deep=de kids+1:=rfl
  obtain⟨Q,hQ⟩:∃Q,Q=Lf b n (Ex.mk k s z kids).size lv (Ex.mk k s z kids).deep (Li (.mk k s z kids)) H:=⟨_,rfl⟩
  rw[<- hQ]
  refine ak rfl Ni rfl ?_
  obtain⟨H1,m1,r1,n1,k1⟩:=aG H [.int .u8 (k:Int),.str s,.int .i64 z,v] (n:=4) rfl
  have hr1:bc H1 b [.int .i64 (n:Int)]:=hr.same (k1 b om)
  have lb1:am false 1 H1 (af b 1 0)=some (.int .i64 (n:Int)):=al hr1 rfl rfl
  have wn:IntKind.i64.wrap ((n:Int)+1)=((n+1:Nat):Int):=Db n 1 om
  obtain⟨H2,m2,r2,n2,k2⟩:=dW hr1 (n:=1) rfl (i:=0) om (x:=.int .i64 ((n+1:Nat):Int)) rfl (l':=[.int .i64 ((n+1:Nat):Int)]) rfl
  have hr2:bc H2 b [.int .i64 ((n+1:Nat):Int)]:=r2
  have lb2:am false 1 H2 (af b 1 0)=some (.int .i64 ((n+1:Nat):Int)):=al hr2 rfl rfl
  have f2:Fp b H H2:=⟨om,fun c hc hne=>by rw[k2 c hne,k1 c om]⟩
  have x2:bc H2 H.next [.int .u8 (k:Int),.str s,.int .i64 z,v]:=r1.same (k2 _ om)
  have s1:am false 1 H2 (af H.next 4 1)=some (.str s):=al x2 rfl rfl
  by_cases hn1:2000<n+1
  ·have hn':((n+1:Nat):Int) > 2000:=om
   simp only[LY,sA,sB,seval,dq,aC,fld0,m1,lb1,wn,m2,lb2,hn']
   rw[hQ]
   exact⟨f2,true,n+1,tt,hr2,by simp⟩
  have hn':¬((n+1:Nat):Int) > 2000:=om
  by_cases hl0:lv=0
  ·subst hl0
   have hl':((0:Nat):Int)<1:=om
   simp only[LY,sA,sB,seval,dq,aC,fld0,m1,lb1,wn,m2,lb2,hn',hl']
   rw[hQ]
   exact⟨f2,true,n+1,tt,hr2,by simp⟩
  have hl':¬(lv:Int)<1:=om
  by_cases hs0:1000<s.length
  ·have hs':(s.length:Int) > 1000:=om
   simp only[LY,sA,sB,seval,dq,aC,fld0,m1,lb1,wn,m2,lb2,hn',hl',cz,s1,hs']
   rw[hQ]
   exact⟨f2,true,n+1,tt,hr2,by simp⟩
  have hs':¬(s.length:Int) > 1000:=om
  have hlw:IntKind.i64.wrap ((lv:Int)-1)=((lv-1:Nat):Int):=Ah
  have ln:=z1.len
  simp only[LY,sA,sB,seval,dq,aC,fld0,m1,lb1,wn,m2,lb2,hn',hl',cz,s1,hs']
  refine bD (fun m (T:bU) K=>∃i n':Nat,m=kids.length-i/\i<=kids.length/\T 1=.int .i64 (lv:Int)/\T 2=.int .i64 2000/\T 3=af b 1 0/\T 4=af H.next 4 0/\T 9=.int .i64 (i:Int)/\Fp b H2 K/\bc K b [.int .i64 (n':Int)]/\n'=n+1+br (kids.take i)/\n'<=2000/\de (kids.take i)<=lv-1/\sa (kids.take i)=true) kids.length
   ⟨0,n+1,rfl,Nat.zero_le _,by simp only[sA,sB,seval]; try rfl,by simp only[sA,sB,seval]; try rfl,by simp only[sA,sB,seval],by simp only[sA,sB,seval],by simp only[sA,sB,seval]; try rfl,Fp.refl _ _,hr2,by simp[br],om,by simp[de],by simp[sa]⟩ ?_
  rintro m T K ⟨i,n',rfl,hi,t1,t2,t3,t4,t9,FK,rK,hn2,hn3,hdk,hsk⟩
  have eK:=FK.next
  have l3K:am false 1 K (af H.next 4 3)=some v:=al (x2.same (FK.old _ om om)) rfl rfl
  have F0K:Fp b H K:=f2.trans FK
  by_cases hlt:i<kids.length
  case neg=>
   obtain rfl:i=kids.length:=om
   have hlt':¬(kids.length:Int)<(kids.length:Int):=om
   rw[List.take_length]at hn2 hdk hsk
   simp only[sA,sB,seval,t1,t2,t3,t4,t9,cz,l3K,ln,hlt']
   rw[hQ]
   refine⟨F0K,false,n',tt,rK,fun _=>⟨om,hn3,om,?_⟩⟩
   simp only[Li,hsk,Bool.and_true,Od]
   omega
  have hlt':(i:Int)<(kids.length:Int):=om
  obtain⟨e,he⟩:∃e,kids[i]?=some e:=⟨_,N1 hlt⟩
  have hts:kids.take (i+1)=kids.take i++[e]:=by rw[List.take_add_one,he]; rfl
  have km:∀c,(c<H.next/\c≠b)->(c<K.next/\c≠b)/\K.get c=H.get c:=fun c hc=>⟨⟨by have:=F0K.next; omega,hc.2⟩,F0K.old c hc.1 hc.2⟩
  have z13:=z1.mono km
  have z23:=z2.mono km
  have ix:=z13.idx hlt
  have ld:=z13.load hlt
  have he3:=z23.at he
  have hsm:=fW (N9 he)
  have hlen:=my (kids.take i)
  rw[Ol,Nat.min_eq_left hi]at hlen
  have wi:IntKind.i64.wrap ((i:Int)+1)=((i+1:Nat):Int):=Db i 1 om
  simp only[sA,sB,seval,t1,t2,t3,t4,t9,cz,l3K,ln,hlt',ix,ld,hlw]
  refine (qN N om he3 rK (by have:=f2.next; omega) hn3 om).mono ?_
  rintro _ K2 ⟨F2,r,n3,rfl,rK2,hgo⟩
  cases r with
  | true=>
   simp only[sA,sB,seval]
   rw[hQ]
   exact⟨F0K.trans F2,true,n3,tt,rK2,by simp⟩
  | false=>
   obtain⟨g1,g2,g3,g4⟩:=hgo rfl
   simp only[sA,sB,seval,t1,t2,t3,t4,t9,wi]
   refine⟨kids.length-(i+1),om,i+1,n3,rfl,om,tt,tt,tt,tt,tt,FK.trans F2,rK2,?_,g2,?_,?_⟩
   ·rw[hts,js]; simp only[br]; omega
   ·rw[hts,mD]; simp only[de]; omega
   ·rw[hts,DS,hsk]; simp only[sa,g4]; rfl
open Go.Abs Go.Abs.S
theorem Lf.more{b n sz lv dp n1 sz1 lv1 dp1:Nat}{sm sm1:Bool}{H H1 H2:ab}{u:aa}(f:Fp b H H1)(h:Lf b n1 sz1 lv1 dp1 sm1 H1 u H2):u=.bool true->Lf b n sz lv dp sm H u H2:=by
 rintro rfl
 obtain⟨F,r,n',hu,hr,_⟩:=h
 exact⟨f.trans F,true,n',rfl,hr,by simp⟩
theorem yY:∀(N:Nat) {l:List St} {C:List aa} {v:aa} {H:ab} {lv n b:Nat},aI l<=N->fw (fun x=>x<H.next/\x≠b) H 9 v l.length C->gr (fun x=>x<H.next/\x≠b) H l C->bc H b [.int .i64 (n:Int)]->b<H.next->n<=2000->lv<=100 ->
  an Tryd.prog aB 10 [v,.int .i64 (lv:Int),.int .i64 2000,af b 1 0] H (Lf b n (aI l) lv (bj l) (jU l) H):=by
 intro N
 induction N with
 | zero=>
  intro l C v H lv n b h z1 z2 hr hb hn hl
  have hl0:l=[]:=by
   cases l with
   | nil=>rfl
   | cons x l=>have:=kO x; simp only[aI]at h; omega
  subst hl0
  have ln:=z1.len
  have h0:¬(0:Int)<(([]:List St).length:Int):=by simp
  refine ak rfl Lt rfl ?_
  simp only[NR,sA,sB,seval]
  refine bD (fun m (T:bU) K=>H=K/\T 0=v/\T 9=.int .i64 0) 0 ⟨rfl,by simp only[sA,sB,seval],by simp only[sA,sB,seval]⟩ ?_
  rintro m T K ⟨rfl,t0,t9⟩
  simp only[sA,sB,seval,t0,t9,ln,h0]
  exact⟨Fp.refl _ _,false,n,tt,hr,fun _=>⟨by simp[aI],hn,by simp[bj],by simp[jU]⟩⟩
 | succ N ih=>
  intro l C v H lv n b h z1 z2 hr hb hn hl
  have ln:=z1.len
  obtain⟨Q,hQ⟩:∃Q,Q=Lf b n (aI l) lv (bj l) (jU l) H:=⟨_,rfl⟩
  rw[<- hQ]
  refine ak rfl Lt rfl ?_
  simp only[NR,sA,sB,seval]
  refine bD (fun m (T:bU) K=>∃i n':Nat,m=l.length-i/\i<=l.length/\T 0=v/\T 1=.int .i64 (lv:Int)/\T 2=.int .i64 2000/\T 3=af b 1 0/\T 9=.int .i64 (i:Int)/\Fp b H K/\bc K b [.int .i64 (n':Int)]/\n'=n+aI (l.take i)/\n'<=2000/\bj (l.take i)<=lv/\jU (l.take i)=true) l.length
   ⟨0,n,rfl,Nat.zero_le _,by simp only[sA,sB,seval],by simp only[sA,sB,seval]; try rfl,by simp only[sA,sB,seval]; try rfl,by simp only[sA,sB,seval],by simp only[sA,sB,seval]; try rfl,Fp.refl _ _,hr,by simp[aI],hn,by simp[bj],by simp[jU]⟩ ?_
  rintro m T K ⟨i,n',rfl,hi,t0,t1,t2,t3,t9,FK,rK,hn2,hn3,hdk,hsk⟩
  have eK:=FK.next
  by_cases hlt:i<l.length
  case neg=>
   obtain rfl:i=l.length:=om
   have hlt':¬(l.length:Int)<(l.length:Int):=om
   rw[List.take_length]at hn2 hdk hsk
   simp only[sA,sB,seval,t0,t1,t2,t3,t9,ln,hlt']
   rw[hQ]
   exact⟨FK,false,n',tt,rK,fun _=>⟨hn2,hn3,hdk,hsk⟩⟩
  have hlt':(i:Int)<(l.length:Int):=om
  obtain⟨x,he⟩:∃e,l[i]?=some e:=⟨_,N1 hlt⟩
  have hts:l.take (i+1)=l.take i++[x]:=by rw[List.take_add_one,he]; rfl
  have lbK:am false 1 K (af b 1 0)=some (.int .i64 (n':Int)):=al rK rfl rfl
  have wn:IntKind.i64.wrap ((n':Int)+1)=((n'+1:Nat):Int):=Db n' 1 om
  obtain⟨H2,m2,r2,n2,k2⟩:=dW rK (n:=1) rfl (i:=0) om (x:=.int .i64 ((n'+1:Nat):Int)) rfl (l':=[.int .i64 ((n'+1:Nat):Int)]) rfl
  have lb2:am false 1 H2 (af b 1 0)=some (.int .i64 ((n'+1:Nat):Int)):=al r2 rfl rfl
  have F2:Fp b H H2:=FK.trans ⟨om,fun c hc hne=>k2 c hne⟩
  have km:∀{K:ab},Fp b H K->∀c,(c<H.next/\c≠b)->(c<K.next/\c≠b)/\K.get c=H.get c:=fun q c hc=>⟨⟨by have:=q.next; omega,hc.2⟩,q.old c hc.1 hc.2⟩
  have z13:=z1.mono (km F2)
  have ix:=z13.idx hlt
  have pt:=z13.pt hlt
  have hsm:=iR (N9 he)
  have hlen:=mw (l.take i)
  rw[Ol,Nat.min_eq_left hi]at hlen
  have wi:IntKind.i64.wrap ((i:Int)+1)=((i+1:Nat):Int):=Db i 1 om
  have hx3:=(z2.mono (km F2)).at he
  obtain⟨k,s,e,body,els,line⟩:=x
  obtain⟨ce,vb,Cb,ve,Ce,hcell,x1,y1,y2,y3,y4⟩:=hx3
  obtain⟨c0,c1,c2,c3,rfl⟩:∃a b c d,ce=[a,b,c,d]:=by
   have:=x1.len
   match ce,this with
   | [a,b,c,d],_=>exact⟨a,b,c,d,rfl⟩
  rw[hcell]at pt
  have hsz:(St.mk k s e body els line).size=e.size+aI body+aI els+1:=rfl
  have hdp:(St.mk k s e body els line).deep=max e.deep (max (bj body) (bj els))+1:=rfl
  have hss:smS (St.mk k s e body els line)=(decide (s.length<=1000)&&(Li e&&(jU body&&jU els))):=rfl
  have fl1:=pt.fld 1
  have ls:am false 1 H2 (fp (cL 9 v i) 1)=some (.str s):=pt.load (o:=1) rfl
  have fl2:=pt.fld 2
  have le:am true 4 H2 (fp (cL 9 v i) 2)=some (.agg [c0,c1,c2,c3]):=by
   have pe:=pt.part (o:=2) (k:=4) (by simp)
   obtain⟨a,ea,hrd⟩:=pe
   rw[ea]
   simp only[am]
   have hrd':aY H2 a 4=some [c0,c1,c2,c3]:=hrd
   rw[hrd']; rfl
  by_cases hn1:2000<n'+1
  ·have hn':(2000:Int)<((n'+1:Nat):Int):=om
   simp only[sA,sB,seval,t0,t1,t2,t3,t9,aC,ln,hlt',lbK,wn,m2,lb2,hn']
   rw[hQ]
   exact⟨F2,true,n'+1,tt,r2,by simp⟩
  have hn':¬(2000:Int)<((n'+1:Nat):Int):=om
  by_cases hl0:lv=0
  ·subst hl0
   have hl':((0:Nat):Int)<1:=om
   simp only[sA,sB,seval,t0,t1,t2,t3,t9,aC,ln,hlt',lbK,wn,m2,lb2,hn',hl']
   rw[hQ]
   exact⟨F2,true,n'+1,tt,r2,by simp⟩
  have hl':¬(lv:Int)<1:=om
  by_cases hs0:1000<s.length
  ·have hs':(1000:Int)<(s.length:Int):=om
   simp only[sA,sB,seval,t0,t1,t2,t3,t9,aC,ln,hlt',lbK,wn,m2,lb2,hn',hl',ix,fl1,ls,hs']
   rw[hQ]
   exact⟨F2,true,n'+1,tt,r2,by simp⟩
  have hs':¬(1000:Int)<(s.length:Int):=om
  have hlw:IntKind.i64.wrap ((lv:Int)-1)=((lv-1:Nat):Int):=Ah
  simp only[sA,sB,seval,t0,t1,t2,t3,t9,aC,ln,hlt',lbK,wn,m2,lb2,hn',hl',ix,fl1,ls,hs',fl2,le,hlw]
  have bK:b<H2.next:=by have:=F2.next; omega
  refine (qN e.size rL x1 r2 bK om om).mono ?_
  rintro u K3 hO
  obtain⟨F3,r,n3,rfl,r3,hgo⟩:=id hO
  cases r with
  | true=>
   simp only[sA,sB,seval]
   rw[hQ]
   exact hO.more F2 rfl
  | false=>
  obtain⟨g1,g2,g3,g4⟩:=hgo rfl
  have e3:=F3.next
  have F03:=F2.trans F3
  have kk:∀{K:ab},Fp b H2 K->∀c,(c<H2.next/\c≠b)->(c<K.next/\c≠b)/\K.get c=H2.get c:=fun q c hc=>⟨⟨by have:=q.next; omega,hc.2⟩,q.old c hc.1 hc.2⟩
  have pk:∀{K':ab},Fp b H2 K'->lR K' (cL 9 v i) (.int .u8 (k:Int)::.str s::([c0,c1,c2,c3]++[vb,ve,.int .i64 line])):=by
   intro K' q
   exact pt.same fun a ea=>q.old _ (z13.blk hlt a ea).1 (z13.blk hlt a ea).2
  have p6:=(pk F3).load (o:=6) (x:=vb) rfl
  have fl6:=pt.fld 6
  simp only[sA,sB,seval,t0,t1,t2,t3,t9,ix,fl6,p6,hlw]
  refine (ih om (y1.mono (kk F3)) (y2.mono (kk F3)) r3 om g2 om).mono ?_
  rintro u K4 hO4
  obtain⟨F4,r,n4,rfl,r4,hgo4⟩:=id hO4
  cases r with
  | true=>
   simp only[sA,sB,seval]
   rw[hQ]
   exact hO4.more F03 rfl
  | false=>
  obtain⟨j1,j2,j3,j4⟩:=hgo4 rfl
  have e4:=F4.next
  have F24:=F3.trans F4
  have F04:=F03.trans F4
  have p7:=(pk F24).load (o:=7) (x:=ve) rfl
  have fl7:=pt.fld 7
  simp only[sA,sB,seval,t0,t1,t2,t3,t9,ix,fl7,p7,hlw]
  refine (ih om (y3.mono (kk F24)) (y4.mono (kk F24)) r4 om j2 om).mono ?_
  rintro u K5 hO5
  obtain⟨F5,r,n5,rfl,r5,hgo5⟩:=id hO5
  cases r with
  | true=>
   simp only[sA,sB,seval]
   rw[hQ]
   exact hO5.more F04 rfl
  | false=>
  obtain⟨q1,q2,q3,q4⟩:=hgo5 rfl
  simp only[sA,sB,seval,t0,t1,t2,t3,t9,wi]
  refine⟨l.length-(i+1),om,i+1,n5,rfl,om,tt,tt,tt,tt,tt,F04.trans F5,r5,?_,q2,?_,?_⟩
  ·rw[hts,jr]; simp only[aI]; omega
  ·rw[hts,mC]; simp only[bj]; omega
  ·rw[hts,DR,hsk]
   simp only[jU,hss,g4,j4,q4,Bool.and_true,Bool.true_and,Od]
   omega
theorem CG{l:List St}{C:List aa}{v:aa}{H:ab}(z1:fw (·<H.next) H 9 v l.length C)(z2:gr (·<H.next) H l C) :
  an Tryd.prog aB 4 [v,.int .i64 100,.int .i64 2000] H fun u H'=>b7 H.next H H'/\∃r:Bool,u=.bool r/\(r=false->aI l<=2000/\bj l<=100/\jU l=true):=by
 refine ak rfl za4 rfl ?_
 obtain⟨H1,m1,r1,n1,k1⟩:=aG H [.int .i64 0] (n:=1) rfl
 obtain⟨H2,m2,r2,n2,k2⟩:=dW r1 (n:=1) rfl (i:=0) om (x:=.int .i64 0) rfl (l':=[.int .i64 ((0:Nat):Int)]) rfl
 have km:∀b,b<H.next->(b<H2.next/\b≠H.next)/\H2.get b=H.get b:=fun b hb=>⟨⟨om,om⟩,by rw[k2 b om,k1 b om]⟩
 simp only[c4,sA,sB,seval,m1,m2]
 refine (yY (aI l) (lv:=100) rL (z1.mono km) (z2.mono km) r2 om om om).mono ?_
 rintro _ H3 ⟨F,r,n',rfl,_,hgo⟩
 simp only[sA,sB,seval]
 refine⟨⟨by have:=F.next; omega,fun c hc=>by rw[F.old c om om,k2 c om,k1 c om]⟩,r,tt,fun q=>?_⟩
 obtain⟨g1,g2,g3,g4⟩:=hgo q
 exact⟨om,g3,g4⟩
open Go.Abs Go.Abs.S
theorem pG{l:List Nat}(h:∀d∈l,d<=9):∀c∈cQ l,dig c=true:=by
 intro c hc
 obtain⟨d,hd,rfl⟩:=List.mem_map.1 hc
 have:=h d hd
 have e:(UInt8.ofNat (48+d)).toNat=48+d:=by rw[UInt8.toNat_ofNat']; omega
 simp only[dig,e,N4,Od]; omega
theorem qV{l:List Nat}(h:∀d∈l,d<=9):iI (cQ l)=l:=by
 simp only[iI,cQ,List.map_map]
 conv=>rhs; rw[<- List.map_id l]
 apply List.map_congr_left
 intro d hd
 have:=h d hd
 have e:(UInt8.ofNat (48+d)).toNat=48+d:=by rw[UInt8.toNat_ofNat']; omega
 simp only[Function.comp_apply,dv,e,id]; omega
theorem sN(s:Bs):eu s=db (iI s):=by
 simp only[eu,db,iI,List.foldl_map]
theorem mS{p:UInt8->Bool}{l r:Bs}(h:∀c∈l,p c=true)(hr:r=[]∨∃c t,r=c::t/\p c=false):(l++r).takeWhile p=l:=by
 rw[List.takeWhile_append_of_pos h]
 rcases hr with rfl | ⟨c,t,rfl,hc⟩
 ·simp
 ·rw[List.takeWhile_cons_of_neg (by simp[hc])]; simp
theorem wW{p:UInt8->Bool}{l r:Bs}(h:∀c∈l,p c=true)(hr:r=[]∨∃c t,r=c::t/\p c=false):(l++r).dropWhile p=r:=by
 rw[List.dropWhile_append_of_pos h]
 rcases hr with rfl | ⟨c,t,rfl,hc⟩
 ·simp
 ·rw[List.dropWhile_cons_of_neg (by simp[hc])]
theorem KG:dig 46=false:=by decide
theorem Bj:sq 46=false:=by decide
theorem xE{ds:List Nat}(hd:∀d∈ds,d<=9)(hne:ds≠[]):∃c t,cQ ds=c::t/\dig c=true:=by
 cases ds with
 | nil=>exact absurd rfl hne
 | cons d ds=>exact⟨_,_,rfl,pG hd _ (by simp[cQ])⟩
theorem yu{ds es:List Nat}(hd:∀d∈ds,d<=9)(he:∀d∈es,d<=9)(h1:ds≠[])(h2:es≠[])(hv:db ds<2147483648) :
  ek (cQ ds++46::cQ es)=some (db ds*2 ^ 32+iH es):=by
 have hA:=pG hd
 have hB:=pG he
 have hr:(46::cQ es:Bs)=[]∨∃c t,(46::cQ es:Bs)=c::t/\dig c=false:=.inr ⟨46,cQ es,rfl,KG⟩
 have hw:bW (cQ ds++46::cQ es)=cQ ds:=mS (fun c hc=>lj (hA c hc)) (.inr ⟨46,cQ es,rfl,Bj⟩)
 have hb:behind (cQ ds++46::cQ es)=cQ es:=by
  rw[behind,wW (fun c hc=>lj (hA c hc)) (.inr ⟨46,cQ es,rfl,Bj⟩)]; rfl
 have hrun:bg dig (cQ ds++46::cQ es) 0=(cQ ds).length:=by rw[bg,List.drop_zero,mS hA hr]; omega
 have hlen:(cQ ds++46::cQ es).length=(cQ ds).length+1+(cQ es).length:=by simp; omega
 have hdr:(cQ ds++46::cQ es).drop ((cQ ds).length+1)=cQ es:=by simp[List.drop_append]
 have hrun2:bg dig (cQ ds++46::cQ es) ((cQ ds).length+1)=(cQ ds++46::cQ es).length:=by
  have:=mS (l:=cQ es) (r:=[]) hB (.inl rfl)
  rw[List.append_nil]at this
  rw[bg,hdr,this,hlen]
 have hat:(cQ ds++46::cQ es)[(cQ ds).length]?=some 46:=by simp
 have hdl:0<(cQ ds).length:=by rw[lB]; exact List.length_pos_iff.2 h1
 have hel:0<(cQ es).length:=by rw[lB]; exact List.length_pos_iff.2 h2
 have hnum:ep (cQ ds++46::cQ es) 0=(cQ ds++46::cQ es).length:=by
  rw[ep,hrun,if_neg (by rw[hat]; rintro (h | h); omega; exact h rfl),hrun2,if_pos om]
 have hnm:iq (cQ ds++46::cQ es)=true:=by
  obtain⟨c,t,hct,hcd⟩:=xE hd h1
  unfold iq
  rw[hnum,hct]
  simp[hcd]
 rw[ek,hw,hb,sN,qV hd,qV he,if_pos ⟨hnm,hv⟩]
theorem yr{ds:List Nat}(hd:∀d∈ds,d<=9)(h1:ds≠[])(hv:db ds<2147483648):ek (cQ ds)=some (db ds*2 ^ 32):=by
 have hA:=pG hd
 have ha:∀{p:UInt8->Bool},(∀c∈cQ ds,p c=true)->(cQ ds).takeWhile p=cQ ds:=fun h=>by
  have:=mS (r:=[]) h (.inl rfl)
  rwa [List.append_nil]at this
 have hw:bW (cQ ds)=cQ ds:=ha fun c hc=>lj (hA c hc)
 have hb:behind (cQ ds)=[]:=by
  have:=wW (r:=[]) (fun c hc=>lj (hA c hc)) (.inl rfl)
  rw[List.append_nil]at this
  rw[behind,this]; rfl
 have hrun:bg dig (cQ ds) 0=(cQ ds).length:=by rw[bg,List.drop_zero,ha hA]; omega
 have hnum:ep (cQ ds) 0=(cQ ds).length:=by
  rw[ep,hrun,if_pos (.inr (by simp))]
 have hnm:iq (cQ ds)=true:=by
  obtain⟨c,t,hct,hcd⟩:=xE hd h1
  unfold iq
  rw[hnum,hct]
  simp[hcd]
 rw[ek,hw,hb,sN,qV hd,if_pos ⟨hnm,hv⟩]
 have:iH (iI [])=0:=by decide
 rw[this,Nat.add_zero]
theorem CL(k:Nat):∀r,r<4294967296->∀d∈dJ k r,d<=9:=by
 induction k with
 | zero=>intro r _ d h; simp[dJ]at h
 | succ k ih=>
  intro r hr d h
  rw[dJ]at h
  split at h
  ·simp at h
  ·rcases List.mem_cons.1 h with rfl | h
   ·omega
   ·exact ih _ om d h
theorem CJ(k:Nat):∀r,k<=32->r<4294967296->2 ^ (32-k) ∣ r->db (dJ k r)*4294967296=r*10 ^ (dJ k r).length:=by
 induction k with
 | zero=>
  intro r _ hr hd
  obtain⟨c,hc⟩:=hd
  have:c=0:=by
   rcases Nat.eq_zero_or_pos c with h | h
   ·exact h
   ·exfalso
    have:2 ^ (32-0)*1<=2 ^ (32-0)*c:=Nat.mul_le_mul_left _ h
    simp only[Nat.sub_zero]at this hc
    omega
  subst this
  simp[dJ,hc,db]
 | succ k ih=>
  intro r hk hr hd
  by_cases h0:r=0
  ·subst h0; simp[dJ,db]
  ·obtain⟨k',hk',hf,hd'⟩:=tK hk hr hd h0
   obtain rfl:k=k':=om
   have h1:=ih (r*10 % 4294967296) om om hd'
   rw[hf,kN,N5,Nat.pow_succ,Nat.add_mul,h1]
   generalize 10 ^ (dJ k (r*10 % 4294967296)).length=p
   have h2:=Nat.div_add_mod (r*10) 4294967296
   generalize r*10 / 4294967296=q at *
   generalize r*10 % 4294967296=t at *
   have e1:q*p*4294967296=4294967296*q*p:=by rw[Nat.mul_comm (q*p),<- Nat.mul_assoc]
   have e2:r*(p*10)=r*10*p:=by rw[Nat.mul_comm p,<- Nat.mul_assoc]
   rw[e1,e2,<- h2,Nat.add_mul]
theorem y7{r:Nat}(hr:r<4294967296):iH (dJ 32 r)=r:=by
 have h:=CJ 32 r rL hr (by simp)
 have hp:0<10 ^ (dJ 32 r).length:=Nat.pos_of_ne_zero (by simp)
 rw[iH,Nat.mul_comm,show (2:Nat) ^ 32=4294967296 by rfl,h,Nat.mul_div_cancel _ hp]
theorem Bk(n:Nat):ef n≠[]:=fun h=>zS n (by rw[h]; rfl)
theorem wF(m:Nat):bb (m:Int)=cQ (ef (m / 4294967296))++hZ (m % 4294967296):=by
 rw[bb,if_neg om]; rfl
theorem Cm{m:Nat}(hm:m<9223372036854775808):ek (bb (m:Int))=some m:=by
 have hv:db (ef (m / 4294967296))<2147483648:=by rw[qW]; omega
 have hdm:=Nat.div_add_mod m 4294967296
 rw[wF]
 by_cases hr:m % 4294967296=0
 ·rw[hZ,if_pos hr,List.append_nil,yr (w9 _) (Bk _) hv,qW]
  congr 1; omega
 ·have hr':m % 4294967296<4294967296:=om
  have hne:dJ 32 (m % 4294967296)≠[]:=by rw[dJ,if_neg hr]; simp
  rw[hZ,if_neg hr,yu (w9 _) (CL 32 _ hr') (Bk _) hne hv,qW,y7 hr']
  congr 1; omega
def iY(l:Bs):Nat:=
 if (l.takeWhile dig).length=0∨l[(l.takeWhile dig).length]?≠some 46 then (l.takeWhile dig).length
 else if 0<((l.drop ((l.takeWhile dig).length+1)).takeWhile dig).length then (l.takeWhile dig).length+1+((l.drop ((l.takeWhile dig).length+1)).takeWhile dig).length else (l.takeWhile dig).length
theorem yM(s:Bs)(i:Nat):ep s i=i+iY (s.drop i):=by
 have e1:bg dig s i=i+((s.drop i).takeWhile dig).length:=rfl
 have e2:bg dig s (bg dig s i+1)=i+((s.drop i).takeWhile dig).length+1+(((s.drop i).drop (((s.drop i).takeWhile dig).length+1)).takeWhile dig).length:=by
  rw[e1,bg,List.drop_drop]
  rw[show i+(((s.drop i).takeWhile dig).length+1)=i+((s.drop i).takeWhile dig).length+1 by omega]
 have e3:s[bg dig s i]?=(s.drop i)[((s.drop i).takeWhile dig).length]?:=by rw[e1,List.getElem?_drop]
 rw[ep,iY,e2,e3,e1]
 generalize ((s.drop i).takeWhile dig).length=a at *
 generalize (((s.drop i).drop (a+1)).takeWhile dig).length=b at *
 by_cases h1:a=0∨(s.drop i)[a]?≠some 46
 ·rw[if_pos h1,if_pos]
  rcases h1 with h | h
  ·left; omega
  ·right; exact h
 ·rw[if_neg h1,if_neg]
  ·by_cases h2:0<b
   ·rw[if_pos h2,if_pos om]; omega
   ·rw[if_neg h2,if_neg om]
  ·rintro (h | h)
   ·exact h1 (.inl om)
   ·exact h1 (.inr h)
structure NU where
 k:Nat
 S:Bs
 n:Nat
 m:Nat
def Ct:Bs->Option NU
 | []=>none
 | c::r=>
  if dig c=true then (match ek ((c::r).take (iY (c::r))) with | some n=>some ⟨1,[],n,iY (c::r)⟩ | none=>none)
  else if beg c=true then some ⟨if ot ((c::r).takeWhile iM)=true then 3 else 2,(c::r).takeWhile iM,0,((c::r).takeWhile iM).length⟩
  else if dl (c::r)=[] then none else some ⟨4,dl (c::r),0,(dl (c::r)).length⟩
theorem uC{α:Type}(p:α->Bool)(l:List α):l.take (l.takeWhile p).length=l.takeWhile p:=
 (List.prefix_iff_eq_take.1 (List.takeWhile_prefix p)).symm
theorem Ki(s:Bs)(i:Nat):jQ s i=(Ct (s.drop i)).map fun t=>⟨t.k,t.S,t.n,i+t.m⟩:=by
 rw[jQ]
 cases hs:s[i]? with
 | none=>
  have:s.drop i=[]:=List.drop_eq_nil_of_le (List.getElem?_eq_none_iff.1 hs)
  rw[this]; rfl
 | some c=>
  have hd:=dn hs
  have e1:sub s i (ep s i)=(s.drop i).take (iY (s.drop i)):=by rw[sub,yM,Nat.add_sub_cancel_left]
  have e2:sub s i (bg iM s i)=(s.drop i).takeWhile iM:=by rw[sub,bg,Nat.add_sub_cancel_left,uC]
  have e3:bg iM s i=i+((s.drop i).takeWhile iM).length:=rfl
  simp only[e1,e2]
  simp only[e3,yM]
  rw[hd]
  simp only[Ct]
  by_cases h1:dig c=true
  ·rw[if_pos h1,if_pos h1]
   cases ek (List.take (iY (c::List.drop (i+1) s)) (c::List.drop (i+1) s)) <;> rfl
  ·rw[if_neg h1,if_neg h1]
   by_cases h2:beg c=true
   ·rw[if_pos h2,if_pos h2]; rfl
   ·rw[if_neg h2,if_neg h2]
    by_cases h3:dl (c::List.drop (i+1) s)=[]
    ·rw[if_pos h3,if_pos h3]; rfl
    ·rw[if_neg h3,if_neg h3]; rfl
theorem pX{p:UInt8->Bool}{l r:Bs}{d:UInt8}(h:∀c∈l,p c=true)(hd:p d=false):(l++d::r).takeWhile p=l:=by
 rw[List.takeWhile_append_of_pos h,List.takeWhile_cons_of_neg (by simp[hd])]; simp
theorem Dz{p:UInt8->Bool}{l:Bs}:∀c∈l.takeWhile p,p c=true:=fun c hc=>List.all_eq_true.1 List.all_takeWhile c hc
theorem LV:dig 46=false:=by decide
theorem yL(l r:Bs){d:UInt8}(hd:dig d=false)(h46:d≠46):iY (l.take (iY l)++d::r)=iY l:=by
 have ha:∀c∈l.takeWhile dig,dig c=true:=Dz
 have hta:=uC dig l
 by_cases h1:(l.takeWhile dig).length=0∨l[(l.takeWhile dig).length]?≠some 46
 ·have e:iY l=(l.takeWhile dig).length:=by rw[iY,if_pos h1]
  rw[e,hta]
  have htw:=pX (r:=r) ha hd
  rw[iY,htw,if_pos (.inr (by simp[h46]))]
 ·by_cases h2:0<((l.drop ((l.takeWhile dig).length+1)).takeWhile dig).length
  ·have e:iY l=(l.takeWhile dig).length+1+((l.drop ((l.takeWhile dig).length+1)).takeWhile dig).length:=by rw[iY,if_neg h1,if_pos h2]
   have h46':l[(l.takeWhile dig).length]?=some 46:=by
    by_cases c:l[(l.takeWhile dig).length]?=some 46
    ·exact c
    ·exact absurd (.inr c) h1
   have hb:∀c∈(l.drop ((l.takeWhile dig).length+1)).takeWhile dig,dig c=true:=Dz
   have htb:=uC dig (l.drop ((l.takeWhile dig).length+1))
   have hx:l.take (iY l)=l.takeWhile dig++46::(l.drop ((l.takeWhile dig).length+1)).takeWhile dig:=by
    rw[e,List.take_add,List.take_add_one,hta,h46',htb]
    simp
   rw[hx,Oe,Oj,e]
   generalize l.takeWhile dig=ds at *
   generalize (l.drop (ds.length+1)).takeWhile dig=es at *
   have t1:(ds++46::(es++d::r)).takeWhile dig=ds:=pX ha LV
   have t2:(es++d::r).takeWhile dig=es:=pX hb hd
   have t3:(ds++46::(es++d::r)).drop (ds.length+1)=es++d::r:=by simp[List.drop_append]
   have t4:(ds++46::(es++d::r))[ds.length]?=some 46:=by simp
   rw[iY,t1,t3,t2,t4,if_neg (by rintro (h | h); exact h1 (.inl h); exact h rfl),if_pos h2]
  ·have e:iY l=(l.takeWhile dig).length:=by rw[iY,if_neg h1,if_neg h2]
   rw[e,hta]
   have htw:=pX (r:=r) ha hd
   rw[iY,htw,if_pos (.inr (by simp[h46]))]
theorem v7{t r:Bs}(h:t∈eo):dl (t++32::r)=t:=by
 have:∀t∈eo,(t.length=2/\t∈fS)∨(t.length=1/\∀c∈t,c∈sn/\∀u∈fS,u≠[c,32]):=by decide
 rcases this t h with⟨h1,h2⟩ | ⟨h1,h2⟩
 ·have hf:fS.find? (pre (t++32::r))=some t:=by
   have hpre:∀u∈fS,pre (t++32::r) u=decide (u=t):=by
    intro u hu
    have hu2:∀u∈fS,u.length=2:=by decide
    unfold pre
    rw[hu2 u hu,<- h1,List.take_left]
    by_cases e:t=u
    ·subst e; simp
    ·rw[decide_eq_false e,decide_eq_false (fun h:u=t=>e h.symm)]
   have key:∀L:List Bs,(∀u∈L,pre (t++32::r) u=decide (u=t))->t∈L->L.find? (pre (t++32::r))=some t:=by
    intro L
    induction L with
    | nil=>intro _ h; simp at h
    | cons u L ih=>
     intro hL hm
     by_cases e:u=t
     ·rw[List.find?_cons_of_pos (by rw[hL u (by simp)]; simpa using e),e]
     ·rw[List.find?_cons_of_neg (by rw[hL u (by simp)]; simpa using e)]
      refine ih (fun v hv=>hL v (by simp[hv])) ?_
      rcases List.mem_cons.1 hm with h | h
      ·exact absurd h.symm e
      ·exact h
   exact key fS hpre h2
  unfold dl
  simp only[hf]
 ·obtain⟨c,rfl⟩:∃c,t=[c]:=by
   match t,h1 with
   | [c],_=>exact⟨c,rfl⟩
  obtain⟨h3,h4⟩:=h2 c (by simp)
  have hf:fS.find? (pre ([c]++32::r))=none:=by
   rw[List.find?_eq_none]
   intro u hu
   have hu2:∀u∈fS,u.length=2:=by decide
   have e0:([c]++32::r:Bs).take 2=[c,32]:=rfl
   unfold pre
   rw[hu2 u hu,e0]
   simp only[Od]
   intro e
   exact h4 u hu e.symm
  unfold dl
  rw[hf]
  simp only[Oj,List.nil_append,h3,if_true]
open Go.Abs Go.Abs.S
def ur(r:Bs):Prop:=∃d t,r=d::t/\iM d=false/\d≠46
theorem ur.dig{r:Bs}(h:ur r):∃d t,r=d::t/\iM d=false/\dig d=false/\d≠46:=by
 obtain⟨d,t,h1,h2,h3⟩:=h
 refine⟨d,t,h1,h2,?_,h3⟩
 simp only[iM,Bool.or_eq_false_iff]at h2
 exact h2.2
structure Sh(x r:Bs)(k:Nat)(S:Bs)(n:Nat):Prop where
 one:Ct (x++r)=some ⟨k,S,n,x.length⟩
 hd:∃c t,x=c::t/\blk c=false/\c.toNat≠35
theorem CF{s:Bs}(h:iq s=true):iY s=s.length/\∃c t,s=c::t/\dig c=true:=by
 simp only[iq,N4,Od]at h
 obtain⟨h0,h1⟩:=h
 rw[yM,List.drop_zero,Nat.zero_add]at h1
 refine⟨h1,?_⟩
 cases s with
 | nil=>simp at h0
 | cons c t=>exact⟨c,t,rfl,h0⟩
theorem DZ{m:Nat}(hm:m<9223372036854775808){r:Bs}(hr:ur r):Sh (bb (m:Int)) r 1 [] m:=by
 have hs:=Cm hm
 have hn:iq (bb (m:Int))=true:=by
  unfold ek at hs
  split at hs
  ·rename_i h; exact h.1
  ·simp at hs
 obtain⟨d,u,rfl,_,hd,h46⟩:=hr.dig
 obtain⟨hl,c,t,hx,hc⟩:=CF hn
 have ha:=yL (bb (m:Int)) u hd h46
 rw[hl,List.take_length]at ha
 have ht:(bb (m:Int)++d::u).take (bb (m:Int)).length=bb (m:Int):=List.take_left
 have hb:blk c=false/\c.toNat≠35:=by
  simp only[dig,N4,Od]at hc
  exact⟨by simp[blk]; omega,om⟩
 refine⟨?_,c,t,hx,hb⟩
 generalize bb (m:Int)=x at *
 subst hx
 simp only[Oj]at ha ht ⊢
 simp only[Ct,hc,if_true,ha,ht,hs]
theorem KU{c:UInt8}(h:beg c=true):dig c=false/\blk c=false/\c.toNat≠35:=BH h
theorem Ay{S:Bs}(hb:∃c r,S=c::r/\beg c=true)(hall:∀c∈S,iM c=true){r:Bs}(hr:ur r):Sh S r (if ot S=true then 3 else 2) S 0:=by
 obtain⟨d,u,rfl,hd,_⟩:=hr
 obtain⟨c,t,rfl,hc⟩:=hb
 obtain⟨h1,h2,h3⟩:=KU hc
 refine⟨?_,c,t,rfl,h2,h3⟩
 have htw:=pX (r:=u) hall hd
 simp only[Oj]at htw ⊢
 simp only[Ct,h1,hc,htw,if_true,if_false]
 simp
theorem mX{S:Bs}(h:Nm S){r:Bs}(hr:ur r):Sh S r 2 S 0:=by
 have:=Ay h.beg h.all hr
 rw[h.key]at this
 exact this
theorem ED{S:Bs}(h:dI S=true):Nm S:=by
 unfold dI at h
 split at h
 ·rename_i w hw
  simp only[N4,Od]at h
  have:=pA hw (N8 h.1)
  rwa [h.2]at this
 ·simp at h
theorem yp{S:Bs}(hS:S∈([[108,101,116],[115,101,116],[105,102],[101,108,115,101],[119,104,105,108,101],[114,101,116,117,114,110]]:List Bs))(r:Bs):Sh S (32::r) 3 S 0:=by
 have key:∀S∈([[108,101,116],[115,101,116],[105,102],[101,108,115,101],[119,104,105,108,101],[114,101,116,117,114,110]]:List Bs),ot S=true/\(∀c∈S,iM c=true)/\(∀c∈S.head?,beg c=true)/\S≠[]:=by decide
 obtain⟨k1,k2,k3,k4⟩:=key S hS
 have hb:∃c r,S=c::r/\beg c=true:=by
  cases S with
  | nil=>exact absurd rfl k4
  | cons c t=>exact⟨c,t,rfl,k3 c (by simp)⟩
 have:=Ay hb k2 (r:=32::r) ⟨32,r,rfl,by decide,by decide⟩
 rw[k1]at this
 exact this
theorem qp{t r:Bs}(ht:t∈eo)(h:dl (t++r)=t):Sh t r 4 t 0:=by
 have key:∀t∈eo,(∀c∈t.head?,dig c=false/\beg c=false/\blk c=false/\c.toNat≠35)/\t≠[]:=by decide
 obtain⟨k1,k2⟩:=key t ht
 cases t with
 | nil=>exact absurd rfl k2
 | cons c t=>
  obtain⟨h1,h2,h3,h4⟩:=k1 c (by simp)
  refine⟨?_,c,t,rfl,h3,h4⟩
  simp only[Oj]at h ⊢
  simp only[Ct,h1,h2,h]
  simp
theorem mV{t:Bs}(ht:t∈eo)(r:Bs):Sh t (32::r) 4 t 0:=qp ht (v7 ht)
theorem dP{c:UInt8}(hc:c∈([40,41,44,59,123,125]:Bs))(r:Bs):Sh [c] r 4 [c] 0:=by
 have key:∀c∈([40,41,44,59,123,125]:Bs),[c]∈eo/\c∈sn/\∀u∈fS,u.head?≠some c:=by decide
 obtain⟨k1,k2,k3⟩:=key c hc
 refine qp k1 ?_
 have hf:fS.find? (pre ([c]++r))=none:=by
  rw[List.find?_eq_none]
  intro u hu
  have hu2:∀u∈fS,u.length=2:=by decide
  have h3:=k3 u hu
  unfold pre
  rw[hu2 u hu]
  simp only[Od]
  intro e
  rw[<- e]at h3
  simp at h3
 unfold dl
 rw[hf]
 simp only[Oj,List.nil_append,k2,if_true]
def Tk(s r:Bs)(w:Wd):Prop:=r <:+ s/\cM s (s.length-r.length)=.ok w
theorem Tk.fn{s r:Bs}{w w':Wd}(h:Tk s r w)(h':Tk s r w'):w=w':=by
 have:=h.2.symm.trans h'.2
 simpa using this
theorem Tk.long{s r:Bs}{w:Wd}(h:Tk s r w):s.length<=16384:=(iZ h.2).1.long
theorem wg{s r:Bs}(h:r <:+ s):s.drop (s.length-r.length)=r:=(List.suffix_iff_eq_drop.1 h).symm
theorem aJ{s x r:Bs}(h:x++r <:+ s):r <:+ s:=(List.suffix_append x r).trans h
theorem Ec{s r:Bs}{c:UInt8}(h:c::r <:+ s):s[s.length-(c::r).length]?=some c:=by
 have h1:=wg h
 have h2:(s.drop (s.length-(c::r).length))[0]?=some c:=by rw[h1]; rfl
 rw[List.getElem?_drop]at h2
 simpa using h2
theorem yP{s:Bs}{p q:Nat}(hp:p<=s.length)(hq:q<=s.length)(h:a6 s p=a6 s q):cM s p=cM s q:=by
 unfold cM
 rw[if_neg (show ¬s.length<p by omega),if_neg (show ¬s.length<q by omega),h]
theorem bX{s r:Bs}{w:Wd}{c:UInt8}(hs:c::r <:+ s)(hb:blk c=true):Tk s (c::r) w↔Tk s r w:=by
 have hl:=hs.length_le
 have hr:r <:+ s:=(List.suffix_cons c r).trans hs
 have hk:=yj (Ec hs) hb
 simp only[N5]at hl hk
 have e:s.length-(r.length+1)+1=s.length-r.length:=om
 rw[e]at hk
 have hn:=yP (s:=s) om om hk
 unfold Tk
 rw[N5,hn]
 exact⟨fun h=>⟨hr,h.2⟩,fun h=>⟨hs,h.2⟩⟩
theorem hD{s r:Bs}{w:Wd}:∀{n:Nat},cg n++r <:+ s->(Tk s (cg n++r) w↔Tk s r w)
 | 0,_=>by simp[cg]
 | n+1,hs=>by
  have e:cg (n+1)++r=9::(cg n++r):=rfl
  rw[e]at hs ⊢
  rw[bX hs dD]
  exact hD ((List.suffix_cons _ _).trans hs)
theorem dQ{s x r:Bs}{k n:Nat}{S:Bs}(hl:s.length<=16384)(hs:x++r <:+ s)(h:Sh x r k S n) :
  ∃w,Tk s (x++r) w/\w.k=k/\w.S=S/\w.n=n/\∀w',Tk s r w'->aZ s w=.ok w':=by
 obtain⟨c,t,hx,hb,hc⟩:=h.hd
 have hle:=hs.length_le
 have hdr:=wg hs
 have hat:s[s.length-(x++r).length]?=some c:=by
  have hs':=hs
  rw[hx,Oj]at hs'
  have:=Ec hs'
  rw[<- Oj,<- hx]at this
  exact this
 have hxl:0<x.length:=by rw[hx]; simp
 have hsk:=og hat hb hc
 have ho:jQ s (s.length-(x++r).length)=some ⟨k,S,n,s.length-(x++r).length+x.length⟩:=by
  rw[Ki,hdr,h.one]; rfl
 have hlen:(x++r).length=x.length+r.length:=lA
 refine⟨⟨k,S,n,bC s (s.length-(x++r).length),s.length-(x++r).length,s.length-(x++r).length+x.length⟩,⟨hs,?_⟩,rfl,rfl,rfl,fun w' h'=>?_⟩
 ·unfold cM
  rw[if_neg om,if_neg om,hsk,if_neg om,ho]
 ·unfold aZ
  rw[show s.length-(x++r).length+x.length=s.length-r.length by omega]
  exact h'.2
theorem qe{s x r:Bs}{k n:Nat}{S:Bs}{w:Wd}(ht:Tk s (x++r) w)(h:Sh x r k S n) :
  w.k=k/\w.S=S/\w.n=n/\∀w',Tk s r w'->aZ s w=.ok w':=by
 obtain⟨w1,h1,h2⟩:=dQ ht.long ht.1 h
 rw[ht.fn h1]; exact h2
theorem yf{s:Bs}(hl:s.length<=16384):∃w,Tk s [] w/\w.k=5:=by
 refine⟨⟨5,[],0,bC s (a6 s s.length),a6 s s.length,a6 s s.length⟩,⟨List.nil_suffix,?_⟩,rfl⟩
 unfold cM
 rw[N6,Nat.sub_zero,if_neg om,if_neg om,if_pos (vY rfl)]
end Go.Proofs.Wo
