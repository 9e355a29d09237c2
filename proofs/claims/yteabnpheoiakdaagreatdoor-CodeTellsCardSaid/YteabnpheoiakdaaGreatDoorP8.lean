/- Part of a proof (YP2 YP3 YP4 YP5 YP6 YP7 YP8 YP9 YC3); no condition. -/
import Derived.Test.YteabnpheoiakdaaGreatDoorProg
import Derived.KernelRfl
import Derived.Test.YteabnpheoiakdaaGreatDoorP6
import Derived.Test.YteabnpheoiakdaaGreatDoorP7
set_option linter.unusedSimpArgs false
set_option linter.unusedVariables false
set_option linter.defProp false
set_option linter.unnecessarySimpa false
namespace Go.Proofs.Wo
open Go.Abs Go.Abs.S
def sN{s:Bs}{p:Nat}{e:JG}(h:fC s p=.error e):e.1≠0:=by
 unfold fC at h;split at h
 ·simp only[Except.error.injEq]at h;subst h;simp
 split at h
 ·simp only[Except.error.injEq]at h;subst h;simp
 split at h
 ·simp at h
 split at h
 ·simp at h
 ·simp only[Except.error.injEq]at h;subst h;simp
def cG{H:aa}{pb:Nat}{s:Bs}{w:Wd}{g x y:Int}{orv:ae}(hr:be H pb (du s w g x y orv))(hpb:pb<H.next)(hw:w.en<=9223372036854775807) :
  aq Tryz.prog aF 31 [ah pb 11 0] H λv H'=>(match eD s w with
   | .ok w'=>v=.bool true/\be H' pb (du s w' g x y orv)
   | .error e=>v=.bool false/\be H' pb (du s w g e.1 e.2 orv))/\Fp pb H H':=by
 refine ak rfl WC rfl ?_;obtain⟨H1,hH1⟩:∃H1,H1=(H.push (.cells ZW 0 false)).push (.cells Z2 0 false):=⟨_,rfl⟩;have n1:H1.next=H.next+2:=by rw[hH1];rfl
 have k1:∀c,c<H.next->H1.get c=H.get c:=λc hc=>by rw[hH1,aa.get_push,if_neg (by rw[aV];omega),aB hc]
 have g3:H1.get H.next=some (.cells ZW 0 false):=by rw[hH1,aa.get_push,if_neg (by rw[aV];omega),aa.get_push,if_pos rfl]
 have g4:H1.get (H.next+1)=some (.cells Z2 0 false):=by rw[hH1,aa.get_push,if_pos (by rw[aV])]
 have r1:=hr.same (k1 pb hpb);have l0:al false 1 H1 (ah pb 11 0)=some (.str s):=aj r1 rfl rfl;have l6:al false 1 H1 (ah pb 11 6)=some (.int .i64 (w.en:Int)):=aj r1 rfl rfl;simp only[ZW,Z2]at hH1 g3 g4;simp only[c31,sC,seval];refine er ?_;simp only[aH,dT,bp,iE,j6,<- hH1];simp only[sC,seval,sR,gj,az,aA,fld0,l0,l6];refine(yA QQ (s:=s) (p:=(w.en:Int)) om om).mono ?_;rintro v H2 ⟨rfl,E2⟩;have e2:=E2.next;have r2:=r1.same (E2.old pb om);have q3:H2.get H.next=_:=(E2.old _ om).trans g3;have q4:H2.get (H.next+1)=_:=(E2.old _ om).trans g4;have cl3:ec H2 H.next _ none=some (ah H.next 6 0):=fG q3 rfl;have dl3:ec H1 H.next _ none=some (ah H.next 6 0):=fG g3 rfl;have dl4:ec H1 (H.next+1) _ none=some (ah (H.next+1) 2 0):=fG g4 rfl;have cl4:ec H2 (H.next+1) _ none=some (ah (H.next+1) 2 0):=fG q4 rfl;cases hn:eD s w with
 |ok w'=>rw[vX hn];obtain⟨H3,m3,r3,n3,k3⟩:=am (H:=H2) (b:=H.next) ⟨0,q3,Nat.zero_le _⟩ (n:=6) rfl (xs:=iN w'.k w'.S w'.n w'.line w'.at_ w'.en) rfl rfl;obtain⟨H4,m4,r4,n4,k4⟩:=am (H:=H3) (b:=H.next+1) ⟨0,(k3 _ om).trans q4,Nat.zero_le _⟩ (n:=2) rfl (xs:=jt 0 0) rfl rfl;have s4:=r2.same (H':=H4) (by rw[k4 _ om,k3 _ om]);have z4:al false 1 H4 (ah (H.next+1) 2 0)=some (.int .i64 0):=aj r4 rfl rfl;have w4:=aw (r3.same (k4 _ om)) (n:=6) rfl;obtain⟨H5,m5,r5,n5,k5⟩:=oO s4 (n:=11) rfl (i:=1) (k:=6) om (xs:=iN w'.k w'.S w'.n w'.line w'.at_ w'.en) rfl rfl (l':=du s w' g x y orv) rfl;simp only[sC,seval,sR,eh,bv,bu,gj,cl3,cl4,m3,m4];simp only[ci,cj,bP,dE,cm,cQ,and_true,true_and,List.map_cons,List.map_nil,sC,seval];refine⟨⟨⟨_,rfl,λ_=>⟨_,dl3,fS _ _ _⟩⟩,⟨_,rfl,λ_=>⟨_,dl4,fS _ _ _⟩⟩⟩,?_⟩;simp only[sC,seval,az,aA,fld0,z4,w4,m5];exact⟨⟨tt,r5⟩,om,λc hc hp=>by rw[k5 c hp,k4 c om,k3 c om,E2.old c om,k1 c hc]⟩
 |error e=>rw[sP hn];have he:=sN hn;obtain⟨H3,m3,r3,n3,k3⟩:=am (H:=H2) (b:=H.next) ⟨0,q3,Nat.zero_le _⟩ (n:=6) rfl (xs:=iN 0 [] 0 0 0 0) rfl rfl;obtain⟨H4,m4,r4,n4,k4⟩:=am (H:=H3) (b:=H.next+1) ⟨0,(k3 _ om).trans q4,Nat.zero_le _⟩ (n:=2) rfl (xs:=jt e.1 e.2) rfl rfl;have s4:=r2.same (H':=H4) (by rw[k4 _ om,k3 _ om]);have z4:al false 1 H4 (ah (H.next+1) 2 0)=some (.int .i64 (e.1:Int)):=aj r4 rfl rfl;have w4:=aw r4 (n:=2) rfl;have he':¬(e.1:Int)=0:=om;obtain⟨H5,m5,r5,n5,k5⟩:=oO s4 (n:=11) rfl (i:=8) (k:=2) om (xs:=jt e.1 e.2) rfl rfl (l':=du s w g e.1 e.2 orv) rfl;simp only[sC,seval,sR,eh,bv,bu,gj,cl3,cl4,m3,m4];simp only[ci,cj,bP,dE,cm,cQ,and_true,true_and,List.map_cons,List.map_nil,sC,seval];refine⟨⟨⟨_,rfl,λ_=>⟨_,dl3,fS _ _ _⟩⟩,⟨_,rfl,λ_=>⟨_,dl4,fS _ _ _⟩⟩⟩,?_⟩;simp only[sC,seval,az,aA,fld0,z4,he',w4,m5];exact⟨⟨tt,r5⟩,om,λc hc hp=>by rw[k5 c hp,k4 c om,k3 c om,E2.old c om,k1 c hc]⟩
def IF{H:aa}{v:ae}{l:List Bs}{n:Nat}(c:fo n H v (l.map ae.str))(x:Bs)(hl:l.length<=1000):aq Tryz.prog aF 130 [v,.str x] H λu H'=>H=H'/\∃i:Int,u=.int .i64 i/\(0<=i↔l.contains x=true):=by
 refine ak rfl Pw rfl ?_;simp only[RI,sC,seval,c.len,XM];refine aM (λm (T:bZ) H'=>H=H'/\∃i:Nat,m=l.length-i/\i<=l.length/\T 0=v/\T 1=.str x/\T 7=.int .i64 (l.length:Int)/\T 8=.int .i64 (i:Int)/\(l.take i).contains x=false) l.length
  ⟨rfl,0,rfl,om,by simp only[sC,seval],by simp only[sC,seval],by simp only[sC,seval],by simp only[sC,seval];try rfl,by simp⟩ ?_
 rintro m T _ ⟨rfl,i,rfl,hi,t0,t1,t7,t8,hx⟩;by_cases hlt:i<l.length
 case neg=>obtain rfl:i=l.length:=om;have hlt':¬(l.length:Int)<(l.length:Int):=om;rw[List.take_length]at hx;simp only[sC,seval,t7,t8,hlt'];exact⟨tt,_,rfl,by rw[hx];simp⟩
 have hlt':(i:Int)<(l.length:Int):=om;obtain⟨y,hy⟩:∃y,l[i]?=some y:=⟨_,Xx hlt⟩;have io:=c.idx .i64 (i:=i) (by rw[XM];exact hlt);have lo:=c.load (i:=i) (x:=.str y) (by rw[List.getElem?_map,hy];rfl);have wk:IntKind.i64.wrap ((i:Int)+1)=((i+1:Nat):Int):=iP;by_cases he:x=y
 ·subst he;simp only[sC,seval,t0,t1,t7,t8,hlt',io,lo,HW];refine⟨tt,_,rfl,?_⟩;have:l.contains x=true:=by simpa using XG hy
  simp only[this,iff_true];omega
 ·simp only[sC,seval,t0,t1,t7,t8,hlt',io,lo,he,wk];refine⟨l.length-(i+1),om,tt,i+1,rfl,om,tt,tt,tt,tt,?_⟩;rw[List.take_add_one,hy];simp only[Option.toList_some,List.contains_eq_mem,List.mem_append,List.mem_singleton,decide_eq_false_iff_not]at hx ⊢;rintro(h|h)
  ·exact hx h
  ·exact he h
def xI{H:aa}{v:ae}{l:List Bs}{n:Nat}(c:fo n H v (l.map ae.str))(x:Bs)(hl:l.length<=1000):aq Tryz.prog aF 99 [v,.str x] H λu H'=>H=H'/\u=.bool (l.contains x):=by refine ak rfl Ss rfl ?_;simp only[W2,sC,seval];refine(IF c x hl).mono ?_;rintro _ _ ⟨rfl,i,rfl,hi⟩;simp only[sC,seval];refine⟨tt,?_⟩;congr 1;rw[<- Bool.coe_iff_coe,<- hi];simp
def i6{H:aa}{pb:Nat}{s:Bs}{w:Wd}{g x y:Int}{orv v:ae}{l:List Bs}{n:Nat}(hr:be H pb (du s w g x y orv))(c:fo n H v (l.map ae.str))(hl:l.length<=1000):aq Tryz.prog aF 58 [ah pb 11 0,v] H λu H'=>H=H'/\u=.bool (mU w l):=by
 refine ak rfl Wg rfl ?_;have l1:al false 1 H (ah pb 11 1)=some (.int .u8 (w.k:Int)):=aj hr rfl rfl;have l2:al false 1 H (ah pb 11 2)=some (.str w.S):=aj hr rfl rfl;by_cases hk:w.k=4
 ·have hk':(w.k:Int)=4:=om;simp only[Xa,sC,seval,az,aA,fld0,l1,hk',l2];refine(xI c w.S hl).mono ?_;rintro _ _ ⟨rfl,rfl⟩;have e:mU w l=l.contains w.S:=by simp only[mU,hk];rfl
  rw[e];simp only[sC,seval];exact⟨tt,tt⟩
 ·have hk':¬(w.k:Int)=4:=om;have e:mU w l=false:=by
   have:Nat.beq w.k 4=false:=by rw[ch];exact decide_eq_false hk
   simp only[mU,this];rfl
  simp only[Xa,sC,seval,az,aA,fld0,l1,hk',e];exact⟨tt,tt⟩
def jA{H:aa}{pb:Nat}{s:Bs}{w:Wd}{g x y:Int}{orv:ae}(hr:be H pb (du s w g x y orv))(t:Bs):aq Tryz.prog aF 64 [ah pb 11 0,.str t] H λu H'=>H=H'/\u=.bool (um w t):=by
 refine ak rfl Wc rfl ?_;have l1:al false 1 H (ah pb 11 1)=some (.int .u8 (w.k:Int)):=aj hr rfl rfl;have l2:al false 1 H (ah pb 11 2)=some (.str w.S):=aj hr rfl rfl;by_cases hk:w.k=3
 ·have hk':(w.k:Int)=3:=om;have e:um w t=decide (w.S=t):=by simp only[um,hk];rfl
  simp only[W8,sC,seval,az,aA,fld0,l1,hk',l2,e];exact⟨tt,tt⟩
 ·have hk':¬(w.k:Int)=3:=om;have e:um w t=false:=by
   have:Nat.beq w.k 3=false:=by rw[ch];exact decide_eq_false hk
   simp only[um,this];rfl
  simp only[W8,sC,seval,az,aA,fld0,l1,hk',e];exact⟨tt,tt⟩
def jL{H:aa}{pb:Nat}{s:Bs}{w:Wd}{g x y:Int}{orv:ae}(hr:be H pb (du s w g x y orv))(e:Nat):aq Tryz.prog aF 70 [ah pb 11 0,.int .i64 (e:Int)] H λu H'=>u=.bool false/\be H' pb (du s w g e w.line orv)/\Fp pb H H':=by refine ak rfl V6 rfl ?_;have l4:al false 1 H (ah pb 11 4)=some (.int .i64 (w.line:Int)):=aj hr rfl rfl;have bf:aJ [.int .i64 0,.int .i64 0] [(0,1,.int .i64 (e:Int)),(1,1,.int .i64 (w.line:Int))]=some (.agg (jt e w.line)):=rfl;obtain⟨H5,m5,r5,n5,k5⟩:=oO hr (n:=11) rfl (i:=8) (k:=2) om (xs:=jt e w.line) rfl rfl (l':=du s w g e w.line orv) rfl;simp only[c70,sC,seval,az,aA,fld0,l4,bf,m5];exact⟨tt,r5,om,λc _ hp=>k5 c hp⟩
def yu{H:aa}{pb:Nat}{s:Bs}{w:Wd}{g:Nat}{x y:Int}{orv:ae}(hr:be H pb (du s w g x y orv))(h:200<=g):aq Tryz.prog aF 59 [ah pb 11 0] H λu H'=>u=.bool false/\be H' pb (du s w g 102 w.line orv)/\Fp pb H H':=by refine ak rfl Sw rfl ?_;have l7:al false 1 H (ah pb 11 7)=some (.int .i64 (g:Int)):=aj hr rfl rfl;have h':(200:Int)<=(g:Int):=om;simp only[W9,sC,seval,az,aA,fld0,l7,h'];refine(jL hr 102).mono ?_;rintro _ H1 ⟨rfl,r1,f1⟩;simp only[sC,seval];exact⟨tt,r1,f1⟩
def yr{H:aa}{pb:Nat}{s:Bs}{w:Wd}{g:Nat}{x y:Int}{orv:ae}(hr:be H pb (du s w g x y orv))(h:¬200<=g):aq Tryz.prog aF 59 [ah pb 11 0] H λu H'=>u=.bool true/\be H' pb (du s w ((g+1:Nat):Int) x y orv)/\Fp pb H H'/\H'.next=H.next:=by refine ak rfl Sw rfl ?_;have l7:al false 1 H (ah pb 11 7)=some (.int .i64 (g:Int)):=aj hr rfl rfl;have h':¬(200:Int)<=(g:Int):=om;have wk:IntKind.i64.wrap ((g:Int)+1)=((g+1:Nat):Int):=iP;obtain⟨H5,m5,r5,n5,k5⟩:=bQ hr (n:=11) rfl (i:=7) om (x:=.int .i64 ((g+1:Nat):Int)) rfl (l':=du s w ((g+1:Nat):Int) x y orv) rfl;simp only[W9,sC,seval,az,aA,fld0,l7,h',wk,m5];exact⟨tt,r5,⟨om,λc _ hp=>k5 c hp⟩,n5⟩
def oS(H:aa)(c:Bs):fo (H.push (.cells [.str c] 0 false)).next (H.push (.cells [.str c] 0 false)) (B5 H) ([c].map ae.str):=(gq H [.str c]).cel rfl (Nat.lt_succ_self _)
def eQ{H:aa}{pb:Nat}{s:Bs}{w:Wd}{g x y:Int}{orv:ae}(hr:be H pb (du s w g x y orv))(hpb:pb<H.next)(hw:w.en<=9223372036854775807)(c:Bs) :
  aq Tryz.prog aF 69 [ah pb 11 0,.str c] H λv H'=>(match fu s c w with
   | .ok w'=>v=.bool true/\be H' pb (du s w' g x y orv)
   | .error e=>v=.bool false/\be H' pb (du s w g e.1 e.2 orv))/\Fp pb H H':=by
 refine ak rfl V7 rfl ?_;have bs:=lu (.str []) H (x:=.str c) rfl;have r1:=hr.same (H':=H.push (.cells [.str c] 0 false)) (aB hpb);have f1:Fp pb H (H.push (.cells [.str c] 0 false)):=⟨by rw[aV];omega,λc hc _=>aB hc⟩;simp only[c69,sC,seval,bs];refine(i6 r1 (oS H c) (by simp)).mono ?_;rintro _ _ ⟨rfl,rfl⟩;cases hs:mU w [c]with
 |true=>
  simp only[sC,seval];refine(cG r1 (by rw[aV];omega) hw).mono ?_;rintro v H2 ⟨h2,f2⟩;have e:fu s c w=eD s w:=by unfold fu;rw[if_pos hs]
  rw[e];simp only[sC,seval];exact⟨h2,f1.trans f2⟩
 |false=>
  simp only[sC,seval];refine(jL r1 101).mono ?_;rintro v H2 ⟨rfl,h2,f2⟩;have e:fu s c w=.error (101,w.line):=by unfold fu;rw[if_neg (by rw[hs];simp)]
  rw[e];simp only[sC,seval];exact⟨⟨tt,h2⟩,f1.trans f2⟩
open Go.Abs Go.Abs.S
def DL(n pb:Nat)(H:aa):Nat->ae->Prop
 |0,v=>v=.func (.func 30) [ah pb 11 0] []
 |k+1,v=>∃c0 c1 c2 c3 b m vb,v=.func (.func 57) [] [ah c0 1 0,ah c1 1 0,ah c2 1 0,ah c3 1 0]/\be H c0 [vb]/\be H c1 [ah pb 11 0]/\be H c2 [BJ b m (.known m)]/\be H c3 [.bool (!Nat.beq (k+1) 3)]/\be H b ((Lc (k+1)).map ae.str)/\((Lc (k+1)).map ae.str).length=m/\(∀c,c=c0∨c=c1∨c=c2∨c=c3∨c=b->c<n/\c≠pb)/\DL n pb H k vb
def DL.keep{n pb:Nat}{H H':aa}(q:∀c,c<n->c≠pb->H'.get c=H.get c):∀{k:Nat} {v:ae},DL n pb H k v->DL n pb H' k v
 |0,_,h=>h
 |k+1,_,h=>by obtain⟨c0,c1,c2,c3,b,m,vb,h1,h2,h3,h4,h5,h6,h7,h8,h9⟩:=h;have q':∀c,c=c0∨c=c1∨c=c2∨c=c3∨c=b->H'.get c=H.get c:=λc hc=>q c (h8 c hc).1 (h8 c hc).2;exact⟨c0,c1,c2,c3,b,m,vb,h1,h2.same (q' _ (by simp)),h3.same (q' _ (by simp)),h4.same (q' _ (by simp)),h5.same (q' _ (by simp)),h6.same (q' _ (by simp)),h7,h8,DL.keep q h9⟩
def DL.more{n n' pb:Nat}{H:aa}(hn:n<=n'):∀{k:Nat} {v:ae},DL n pb H k v->DL n' pb H k v
 |0,_,h=>h
 |k+1,_,h=>by obtain⟨c0,c1,c2,c3,b,m,vb,h1,h2,h3,h4,h5,h6,h7,h8,h9⟩:=h;exact⟨c0,c1,c2,c3,b,m,vb,h1,h2,h3,h4,h5,h6,h7,λc hc=>⟨XL (h8 c hc).1 hn,(h8 c hc).2⟩,DL.more hn h9⟩
structure PA(n pb:Nat)(s:Bs)(H:aa)(w:Wd)(g:Nat)(x y:Int)(orv:ae):Prop where
 row:be H pb (du s w g x y orv)
 hpb:pb<n
 hn:n<=H.next
 or:DL n pb H 5 orv
 ok:rV s w
 hg:g<=200
def PA.fwd{n pb:Nat}{s:Bs}{H H':aa}{w w':Wd}{g g':Nat}{x y x' y':Int}{orv:ae}(h:PA n pb s H w g x y orv)(f:Fp pb H H')(r:be H' pb (du s w' g' x' y' orv))(hw:rV s w')(hg:g'<=200):PA n pb s H' w' g' x' y' orv:=⟨r,h.hpb,Nat.le_trans h.hn f.next,h.or.keep λc hc hp=>f.old c (XL hc h.hn) hp,hw,hg⟩
def PA.lt{n pb:Nat}{s:Bs}{H:aa}{w:Wd}{g:Nat}{x y:Int}{orv:ae}(h:PA n pb s H w g x y orv):pb<H.next:=XL h.hpb h.hn
def PA.en{n pb:Nat}{s:Bs}{H:aa}{w:Wd}{g:Nat}{x y:Int}{orv:ae}(h:PA n pb s H w g x y orv):w.en<=9223372036854775807:=by have h1:=h.ok.en;have h2:=h.ok.long;omega
def Sf(pb:Nat)(s:Bs)(g:Nat)(x y:Int)(orv:ae)(H:aa)(r:iU Ex)(u:ae)(H':aa):Prop:=
 (match r with
 | .ok (e,w')=>∃xs,u=.tuple [.agg xs,.bool true]/\mL (In H.next H'.next) H' e xs/\be H' pb (du s w' g x y orv)/\rV s w'
 | .error e=>∃xs w',u=.tuple [.agg xs,.bool false]/\xs.length=4/\(xs.all ae.one=true/\aeqs xs xs=true)/\be H' pb (du s w' g e.1 e.2 orv))/\Fp pb H H'
def Xr(pb:Nat)(s:Bs)(g:Nat)(x y:Int)(orv:ae)(S:Bs)(H:aa)(r:iU Ex)(u:ae)(H':aa):Prop:=
 (match r with
 | .ok (e,w')=>∃kids v C,e=.mk 4 S 0 kids/\u=.tuple [v,.bool true]/\rZ (In H.next H'.next) H' 4 v kids.length C/\ed (In H.next H'.next) H' kids C/\be H' pb (du s w' g x y orv)/\rV s w'
 | .error e=>∃v w',u=.tuple [v,.bool false]/\(v.one=true/\aeq v v=true)/\be H' pb (du s w' g e.1 e.2 orv))/\Fp pb H H'
def CV(v:ae)(H:aa)(K:ae->aa->Prop):Prop:=qf (aq Tryz.prog aF) v [] H K
def CV.mono{v:ae}{H:aa}{K K':ae->aa->Prop}(h:CV v H K)(k:∀u H',K u H'->K' u H'):CV v H K':=by obtain⟨g,a,b,h1,h2,h3⟩:=h;exact⟨g,a,b,h1,h2,h3.mono k⟩
def oC(n pb:Nat)(s:Bs)(f k:Nat):Prop:=∀(H:aa) (w:Wd) (g:Nat) (x y:Int) (orv v:ae) (r:iU Ex),PA n pb s H w g x y orv->DL n pb H k v->pE s f (.rule k) g w=some r->CV v H (Sf pb s g x y orv H r)
def M8(n pb:Nat)(s:Bs)(f:Nat):Prop:=∀(H:aa) (w:Wd) (g:Nat) (x y:Int) (orv:ae) (r:iU Ex),PA n pb s H w g x y orv->pE s f .prim g w=some r->aq Tryz.prog aF 61 [ah pb 11 0] H (Sf pb s g x y orv H r)
def Qh(s:Bs)(pe:NT->Nat->Wd->Option (iU Ex))(S:Bs)(g:Nat)(w:Wd):Option (iU Ex):=nD (eD s w) λw2=>if mU w2 [[41]]then nD (eD s w2) λw3=>dC (.mk 4 S 0 []) w3 else pe (.args S []) g w2
def Ng(n pb:Nat)(s:Bs)(f:Nat):Prop:=∀(S:Bs) (H:aa) (w:Wd) (g:Nat) (x y:Int) (orv:ae) (r:iU Ex),PA n pb s H w g x y orv->mU w [[40]]=true->Qh s (pE s f) S g w=some r->aq Tryz.prog aF 100 [ah pb 11 0] H (Xr pb s g x y orv S H r)
def dJ{α:Type}{o:Except JG Wd}{f:Wd->Option (iU α)}{r:iU α}(h:nD o f=some r):(∃e,o=.error e/\r=.error e)∨∃w,o=.ok w/\f w=some r:=by
 cases o with
 |error e=>simp only[nD,sJ]at h;exact .inl ⟨e,rfl,h.symm⟩
 |ok w=>exact .inr ⟨w,rfl,h⟩
def dw{α β:Type}{o:Option (iU α)}{f:α->Wd->Option (iU β)}{r:iU β}(h:xq o f=some r):(∃e,o=some (.error e)/\r=.error e)∨∃a w,o=some (.ok (a,w))/\f a w=some r:=by
 cases o with
 |none=>simp[xq]at h
 |some o=>
  cases o with
  |error e=>simp only[xq,sJ]at h;exact .inl ⟨e,rfl,h.symm⟩
  |ok p=>obtain⟨a,w⟩:=p;exact .inr ⟨a,w,rfl,h⟩
def dU{T:bZ}{H:aa}(g:Bool)(n i j:Nat)(K:ae->aa->Prop):fq [.cell g n i,.t j] K .ret T H=dW (al g n H (T i)) λv=>K (.tuple [v,T j]) H:=by
 rw[Ay];simp only[pj];cases al g n H (T i)with
 |none=>simp[dW]
 |some v=>simp only[aQ];rfl
def nU{H:aa}{pb c:Nat}{s:Bs}{w:Wd}{g:Nat}{x y:Int}{orv:ae}(hc:be H c [ah pb 11 0])(hr:be H pb (du s w ((g+1:Nat):Int) x y orv))(hg:g<=1000):aq Tryz.prog aF 3132 [ah c 1 0] H λ_ H'=>be H' pb (du s w (g:Int) x y orv)/\H'.next=H.next/\∀k,k≠pb->H'.get k=H.get k:=by refine ak rfl Qy rfl ?_;have lc:al false 1 H (ah c 1 0)=some (ah pb 11 0):=aj hc rfl rfl;have l7:al false 1 H (ah pb 11 7)=some (.int .i64 ((g+1:Nat):Int)):=aj hr rfl rfl;have wk:IntKind.i64.wrap (((g+1:Nat):Int)-1)=(g:Int):=iP;obtain⟨H5,m5,r5,n5,k5⟩:=bQ hr (n:=11) rfl (i:=7) om (x:=.int .i64 (g:Int)) rfl (l':=du s w (g:Int) x y orv) rfl;simp only[Qe,sC,seval,lc,az,aA,l7,wk,m5];exact⟨[],rfl,r5,n5,k5⟩
def fH(b n i:Nat):(ah b n i).cells=[ah b n i]:=_root_.id rfl
def RX:aJ [.int .u8 0,.str [],.int .i64 0,.slice none 0 (.known 0)] []=some (.agg [.int .u8 0,.str [],.int .i64 0,.slice none 0 (.known 0)]):=_root_.id rfl
def Qf(S:Bs)(v:ae)(hv:v.one=true):aJ [.int .u8 0,.str [],.int .i64 0,.slice none 0 (.known 0)] [(0,1,.int .u8 3),(1,1,.str S),(3,1,v)]=some (.agg [.int .u8 3,.str S,.int .i64 0,v]):=by
 cases v<;>first|rfl|(simp[ae.one]at hv)
def NQ(H:aa)(a b:Bs):aL 2 [.str []] H [(0,1,.str a),(1,1,.str b)]=some (BJ H.next 2 (.known 2),H.push (.cells [.str a,.str b] 0 false)):=_root_.id rfl
def JS{n pb:Nat}{s:Bs}{f:Nat}(ihr:oC n pb s f 0)(ihp:M8 n pb s f):oC n pb s (f+1) 0:=by
 intro H w g x y orv v r A hv hr;rw[show v=.func (.func 30) [ah pb 11 0] []from hv];show qf _ _ _ _ _;rw[ji _ _ _ _ _ dD];refine ak rfl WE rfl ?_;rw[mn]at hr;simp only[iX]at hr;have hlt:=A.lt;obtain⟨H1,m1,r1,n1,k1⟩:=aC H [ah pb 11 0] (n:=1) rfl;obtain⟨H2,m2,r2,n2,k2⟩:=aC H1 [.int .u8 0,.str [],.int .i64 0,.slice none 0 (.known 0)] (n:=4) rfl;have F2:Fp pb H H2:=⟨om,λc hc _=>by rw[k2 c om,k1 c om]⟩;have A2:=A.fwd F2 (A.row.same (by rw[k2 pb om,k1 pb om])) A.ok A.hg;have c1:be H2 H.next [ah pb 11 0]:=r1.same (k2 _ om);have l1:∀{K:aa},Fp pb H2 K->al false 1 K (ah H.next 1 0)=some (ah pb 11 0):=λq=>aj (c1.same (q.old _ om om)) rfl rfl;have l1':=l1 (Fp.refl pb H2);have b0:=RX;by_cases hg:200<=g
 ·rw[if_pos hg]at hr;simp only[tB,sJ]at hr;subst hr;simp only[List.nil_append,XQ,List.append_nil,Xg,sC,seval,fH,m1,m2,l1'];refine(yu A2.row hg).mono ?_;rintro _ H3 ⟨rfl,r3,F3⟩;obtain⟨H4,m4,r4,n4,k4⟩:=am (r2.same (F3.old _ om om)) (n:=4) rfl (xs:=[.int .u8 0,.str [],.int .i64 0,.slice none 0 (.known 0)]) rfl rfl;have l4:=aw r4 (n:=4) rfl;have f3:=F3.next;simp only[sC,seval,b0,m4,l4,dU,aQ];refine⟨⟨_,w,tt,rfl,⟨rfl,rfl⟩,r3.same (k4 _ om)⟩,om,λc hc hp=>by rw[k4 c om,F3.old c om hp,F2.old c hc hp]⟩
 rw[if_neg hg]at hr;simp only[List.nil_append,XQ,List.append_nil,Xg,sC,seval,fH,m1,m2,l1'];refine(yr A2.row hg).mono ?_;rintro _ H3 ⟨rfl,r3,F3,n3⟩;have A3:=A2.fwd F3 r3 A.ok om;have l3:=l1 F3;have F4:Fp pb H3 (H3.push (.cells [.str [45],.str [33]] 0 false)):=⟨by rw[aV];omega,λc hc _=>aB hc⟩;have A4:=A3.fwd F4 (r3.same (aB A3.lt)) A.ok om;have c4:fo (H3.push (.cells [.str [45],.str [33]] 0 false)).next (H3.push (.cells [.str [45],.str [33]] 0 false)) (BJ H3.next 2 (.known 2)) ([[45],[33]].map ae.str):=(gq H3 [.str [45],.str [33]]).cel rfl (Nat.lt_succ_self _);simp only[sC,seval,l3,NQ];refine(i6 A4.row c4 (by simp)).mono ?_;rintro _ _ ⟨rfl,rfl⟩;have l4:=l1 (F3.trans F4);have F24:=F3.trans F4;generalize H3.push (.cells [.str [45],.str [33]] 0 false)=H4 at *;have e4:=F24.next;cases hs:mU w [[45],[33]]with
 |false=>
  rw[if_neg (by rw[hs];simp)]at hr;simp only[sC,seval,l4];refine(ihp H4 w (g+1) x y orv r A4 hr).mono ?_;rintro u H5 ⟨ho,F5⟩;have e5:=F5.next;have F25:=F24.trans F5;have r2':be H5 H1.next _:=r2.same (F25.old _ om om);have fq:∀(xs:List ae),xs.length=4->xs.all ae.one=true->∃H6,bh 4 H5 (ah H1.next 4 0) (.agg xs)=some H6/\be H6 H1.next xs/\H6.next=H5.next/\∀c,c≠H1.next->H6.get c=H5.get c:=λxs h1 h2=>am r2' (n:=4) rfl h1 h2;cases r with
  |error e=>obtain⟨xs,w',rfl,x1,⟨x2,x3⟩,r5⟩:=ho;obtain⟨H6,m6,r6,n6,k6⟩:=fq xs x1 x2;simp only[sC,seval,bv,bu,m6];refine(nU (c1.same (by rw[k6 _ om,F25.old _ om om])) (r5.same (k6 _ om)) om).mono ?_;rintro _ H7 ⟨r7,n7,k7⟩;have l7:=aw (r6.same (k7 _ om)) x1;simp only[sC,seval,l7,dU,aQ];exact⟨⟨xs,w',tt,x1,⟨x2,x3⟩,r7⟩,om,λc hc hp=>by rw[k7 c hp,k6 c om,F25.old c om hp,F2.old c hc hp]⟩
  |ok p=>obtain⟨e,w'⟩:=p;obtain⟨xs,rfl,x1,r5,o5⟩:=ho;obtain⟨H6,m6,r6,n6,k6⟩:=fq xs x1.len x1.one;simp only[sC,seval,bv,bu,m6];refine(nU (c1.same (by rw[k6 _ om,F25.old _ om om])) (r5.same (k6 _ om)) om).mono ?_;rintro _ H7 ⟨r7,n7,k7⟩;have l7:=aw (r6.same (k7 _ om)) x1.len;simp only[sC,seval,l7,dU,aQ];refine⟨⟨xs,tt,x1.mono λb hb=>?_,r7,o5⟩,om,λc hc hp=>by rw[k7 c hp,k6 c om,F25.old c om hp,F2.old c hc hp]⟩;have h1:=hb.1;have h2:=hb.2;exact⟨⟨om,om⟩,by rw[k7 b om,k6 b om]⟩
 |true=>
  rw[if_pos hs]at hr;have l2:al false 1 H4 (ah pb 11 2)=some (.str w.S):=aj A4.row rfl rfl;simp only[sC,seval,l4,az,aA,l2];refine(cG A4.row A4.lt A4.en).mono ?_;rintro u H5 ⟨ho,F5⟩;have e5:=F5.next;have F25:=F24.trans F5;have l5:=l1 F25;rcases dJ hr with⟨e,he,rfl⟩|⟨w1,he,hr⟩
  ·rw[he]at ho;obtain⟨rfl,r5⟩:=ho;obtain⟨H6,m6,r6,n6,k6⟩:=am (r2.same (F25.old _ om om)) (n:=4) rfl (xs:=[.int .u8 0,.str [],.int .i64 0,.slice none 0 (.known 0)]) rfl rfl;simp only[sC,seval,b0,m6];refine(nU (c1.same (by rw[k6 _ om,F25.old _ om om])) (r5.same (k6 _ om)) om).mono ?_;rintro _ H7 ⟨r7,n7,k7⟩;have l7:=aw (r6.same (k7 _ om)) (n:=4) rfl;simp only[sC,seval,l7,dU,aQ];exact⟨⟨_,w,tt,rfl,⟨rfl,rfl⟩,r7⟩,om,λc hc hp=>by rw[k7 c hp,k6 c om,F25.old c om hp,F2.old c hc hp]⟩
  rw[he]at ho;obtain⟨rfl,r5⟩:=ho;have A5:=A4.fwd F5 r5 (bJ he A.ok (by rw[jK hs];omega)).1 om;simp only[sC,seval,l5];have hc:∀{r':iU Ex},pE s f (.rule 0) (g+1) w1=some r'->aq Tryz.prog aF 30 [ah pb 11 0] H5 (Sf pb s ((g+1:Nat)) x y orv H5 r'):=by intro r' h';have:=ihr H5 w1 (g+1) x y orv _ r' A5 rfl h';rw[CV,ji _ _ _ _ _ dD]at this;exact this
  rcases dw hr with⟨e,he2,rfl⟩|⟨e1,w2,he2,hr⟩
  ·refine(hc he2).mono ?_;rintro u H6 ⟨⟨xs,w',rfl,x1,⟨x2,_⟩,r6⟩,F6⟩;have e6:=F6.next;have F26:=F25.trans F6;obtain⟨H7,m7,r7,n7,k7⟩:=aC H6 [.int .u8 0,.str [],.int .i64 0,.slice none 0 (.known 0)] (n:=4) rfl;obtain⟨H8,m8,r8,n8,k8⟩:=am r7 (n:=4) rfl x1 x2;obtain⟨H9,m9,r9,n9,k9⟩:=am (r2.same (H':=H8) (by rw[k8 _ om,k7 _ om,F26.old _ om om])) (n:=4) rfl (xs:=[.int .u8 0,.str [],.int .i64 0,.slice none 0 (.known 0)]) rfl rfl;have e29:∀c,c<H2.next->c≠pb->c≠H1.next->H9.get c=H2.get c:=λc h1 h2 h3=>by rw[k9 c h3,k8 c om,k7 c om,F26.old c h1 h2]
   simp only[sC,seval,bv,bu,m7,m8,b0,m9];refine(nU (c1.same (e29 _ om om om)) (r6.same (by rw[k9 _ om,k8 _ om,k7 _ om])) om).mono ?_;rintro _ Ha ⟨ra,na,ka⟩;have la:=aw (r9.same (ka _ om)) (n:=4) rfl;simp only[sC,seval,la,dU,aQ];exact⟨⟨_,w',tt,rfl,⟨rfl,rfl⟩,ra⟩,om,λc hc hp=>by rw[ka c hp,e29 c om hp om,F2.old c hc hp]⟩
  simp only[dC,sJ]at hr;subst hr;refine(hc he2).mono ?_;rintro u H6 ⟨⟨xs,rfl,x1,r6,o6⟩,F6⟩;have e6:=F6.next;have F26:=F25.trans F6;obtain⟨H7,m7,r7,n7,k7⟩:=aC H6 [.int .u8 0,.str [],.int .i64 0,.slice none 0 (.known 0)] (n:=4) rfl;obtain⟨H8,m8,r8,n8,k8⟩:=am r7 (n:=4) rfl x1.len x1.one;have l8:=aw r8 x1.len;have bs:=ot (z:=[.int .u8 0,.str [],.int .i64 0,.slice none 0 (.known 0)]) (m:=4) H8 rfl x1.len;have rP:be (H8.push (.cells xs 0 false)) H8.next xs:=gq _ _;obtain⟨H9,m9,r9,n9,k9⟩:=am (H:=H8.push (.cells xs 0 false)) (r2.same (by rw[aB om,k8 _ om,k7 _ om,F26.old _ om om])) (n:=4) rfl (xs:=[.int .u8 3,.str w.S,.int .i64 0,pU H8 4]) rfl rfl;rw[aV]at n9;have k9':∀c,c<H8.next->c≠H1.next->H9.get c=H8.get c:=λc h1 h2=>by rw[k9 c h2,aB h1]
  have e29:∀c,c<H2.next->c≠pb->c≠H1.next->H9.get c=H2.get c:=λc h1 h2 h3=>by rw[k9' c om h3,k8 c om,k7 c om,F26.old c h1 h2]
  simp only[sC,seval,bv,bu,m7,m8,l8,bs,Qf _ (pU H8 4) rfl,m9];refine(nU (c1.same (e29 _ om om om)) (r6.same (by rw[k9' _ om om,k8 _ om,k7 _ om])) om).mono ?_;rintro _ Ha ⟨ra,na,ka⟩;have la:=aw (r9.same (ka _ om)) (n:=4) rfl;have rk:be Ha H8.next xs:=rP.same (by rw[ka _ om,k9 _ om]);simp only[sC,seval,la,dU,aQ];refine⟨⟨_,tt,⟨pU H8 4,xs,rfl,.row rk x1.len rfl ⟨om,om⟩,.sing (x1.mono λb hb=>?_)⟩,ra,o6⟩,om,λc hc hp=>by rw[ka c hp,e29 c om hp om,F2.old c hc hp]⟩;have h1:=hb.1;have h2:=hb.2;exact⟨⟨om,om⟩,by rw[ka b om,k9' b om om,k8 b om,k7 b om]⟩
open Go.Abs Go.Abs.S
def WT(H:aa){xs ys:List ae}(hx:xs.length=4)(hy:ys.length=4):aL 2 [.int .u8 0,.str [],.int .i64 0,.slice none 0 (.known 0)] H [(0,4,.agg xs),(4,4,.agg ys)]=some (.slice (some ⟨H.next,8,0⟩) 2 (.known 2),H.push (.cells (xs++ys) 0 false)):=by
 match xs,hx with
 | [a,b,c,d],_=>
  match ys,hy with
  | [e,f,g,h],_=>rfl
def QD{n pb:Nat}{s:Bs}{f k:Nat}(hk:k+1<=5)(ihr:∀f',f'<=f->oC n pb s f' k):oC n pb s (f+1) (k+1):=by
 intro H w g x y orv v r A hv hr;obtain⟨c0,c1,c2,c3,b,m,vb,rfl,R0,R1,R2,R3,Rb,hm,hc,hvb⟩:=id hv;show qf _ _ _ _ _;rw[ji _ _ _ _ _ dD];refine ak rfl Wh rfl ?_;rw[mn]at hr;simp only[iX]at hr;have hlt:=A.lt;have hnn:=A.hn;obtain⟨hc0,hp0⟩:=hc c0 (by simp);obtain⟨hc1,hp1⟩:=hc c1 (by simp);obtain⟨hc2,hp2⟩:=hc c2 (by simp);obtain⟨hc3,hp3⟩:=hc c3 (by simp);obtain⟨hcb,hpb'⟩:=hc b (by simp);obtain⟨H1,m1,r1,n1,k1⟩:=aC H [.int .u8 0,.str [],.int .i64 0,.slice none 0 (.known 0)] (n:=4) rfl;have F1:Fp pb H H1:=⟨om,λc hc _=>k1 c om⟩;have A1:=A.fwd F1 (A.row.same (k1 pb om)) A.ok A.hg;have l0:∀{K:aa},Fp pb H K->al false 1 K (ah c0 1 0)=some vb:=λq=>aj (R0.same (q.old _ om hp0)) rfl rfl;have l1:∀{K:aa},Fp pb H K->al false 1 K (ah c1 1 0)=some (ah pb 11 0):=λq=>aj (R1.same (q.old _ om hp1)) rfl rfl;have l2:∀{K:aa},Fp pb H K->al false 1 K (ah c2 1 0)=some (BJ b m (.known m)):=λq=>aj (R2.same (q.old _ om hp2)) rfl rfl;have l3:∀{K:aa},Fp pb H K->al false 1 K (ah c3 1 0)=some (.bool (!Nat.beq (k+1) 3)):=λq=>aj (R3.same (q.old _ om hp3)) rfl rfl;have lb:∀{K:aa},Fp pb H K->fo K.next K (BJ b m (.known m)) ((Lc (k+1)).map ae.str):=λq=>(Rb.same (q.old _ om hpb')).cel hm (by have:=q.next;omega);have hlv:(Lc (k+1)).length<=1000:=by
  match k,hk with
  |0,_|1,_|2,_|3,_|4,_=>decide
 have l01:=l0 F1;have b0:=RX;simp only[List.nil_append,XQ,List.append_nil,c57,sW,sL,lC,kB,rY,sB,seval,m1,l01];obtain⟨r0,hr0⟩:∃r0,pE s f (.rule k) g w=some r0:=by
  rcases dw hr with⟨e,he,rfl⟩|⟨e1,w2,he,_⟩
  ·exact⟨_,he⟩
  ·exact⟨_,he⟩
 refine(ihr f rL H1 w g x y orv vb r0 A1 (hvb.keep λc h1 h2=>F1.old c om h2) hr0).mono ?_;rintro u H2 ⟨ho,F2⟩;have e2:=F2.next;have start:∃xs ok,u=.tuple [.agg xs,.bool ok]/\xs.length=4/\xs.all ae.one=true:=by
  cases r0 with
  |error e=>obtain⟨xs,w',rfl,x1,⟨x2,_⟩,_⟩:=ho;exact⟨xs,false,rfl,x1,x2⟩
  |ok p=>obtain⟨e,w'⟩:=p;obtain⟨xs,rfl,x1,_⟩:=ho;exact⟨xs,true,rfl,x1.len,x1.one⟩
 obtain⟨xs,ok,rfl,x1,x2⟩:=start;obtain⟨H3,m3,r3,n3,k3⟩:=aC H2 [.int .u8 0,.str [],.int .i64 0,.slice none 0 (.known 0)] (n:=4) rfl;obtain⟨H4,m4,r4,n4,k4⟩:=am r3 (n:=4) rfl x1 x2;simp only[sW,sL,lC,kB,rY,sB,seval,bv,bu,m3,m4];rw[ip];have k42:∀c,c<H2.next->H4.get c=H2.get c:=λc hc=>by rw[k4 c om,k3 c om]
 have F4:Fp pb H H4:=⟨om,λc hc hp=>by rw[k42 c om,F2.old c om hp,F1.old c hc hp]⟩;have r14:be H4 H.next _:=r1.same (by rw[k42 _ om,F2.old _ om om]);refine im (λ(T:bZ) H'=>T 4=ah H.next 4 0/\T 6=ah H2.next 4 0/\be H' H.next [.int .u8 0,.str [],.int .i64 0,.slice none 0 (.known 0)]/\Fp pb H H'/\H.next<H'.next/\((∃e w' xs,r=.ok (e,w')/\T 7=.bool true/\be H' H2.next xs/\mL (In (H.next+1) H'.next) H' e xs/\be H' pb (du s w' g x y orv)/\rV s w')∨∃e w',r=.error e/\T 7=.bool false/\be H' pb (du s w' g e.1 e.2 orv))) (cU _ _) ?_ ?_;rotate_left
 ·rintro T H5 ⟨t4,t6,q4,F5,lt5,⟨e,w',xs,rfl,t7,rx,hx,rp,hw⟩|⟨e,w',rfl,t7,rp⟩⟩
  ·have lx:=aw rx hx.len;obtain⟨H6,m6,r6,n6,k6⟩:=am q4 (n:=4) rfl hx.len hx.one;have l6:=aw r6 hx.len;simp only[sC,seval,t4,t6,t7,lx,m6,dU,l6,aQ];refine⟨⟨xs,tt,hx.mono λc hc=>⟨⟨Nat.le_of_succ_le hc.1,by rw[n6];exact hc.2⟩,k6 c (by have:=hc.1;omega)⟩,rp.same (k6 _ om),hw⟩,by rw[n6];exact F5.next,λc hc hp=>by rw[k6 c om,F5.old c hc hp]⟩
  ·obtain⟨H6,m6,r6,n6,k6⟩:=am q4 (n:=4) rfl (xs:=[.int .u8 0,.str [],.int .i64 0,.slice none 0 (.known 0)]) rfl rfl;have l6:=aw r6 (n:=4) rfl;simp only[sC,seval,t4,t6,t7,b0,m6,dU,l6,aQ];exact⟨⟨_,w',tt,rfl,⟨rfl,rfl⟩,rp.same (k6 _ om)⟩,by rw[n6];exact F5.next,λc hc hp=>by rw[k6 c om,F5.old c hc hp]⟩
 refine aM (λm' (T:bZ) H'=>m'<=f/\T 0=ah c0 1 0/\T 1=ah c1 1 0/\T 2=ah c2 1 0/\T 3=ah c3 1 0/\T 4=ah H.next 4 0/\T 6=ah H2.next 4 0/\be H' H.next [.int .u8 0,.str [],.int .i64 0,.slice none 0 (.known 0)]/\Fp pb H H'/\H2.next<H'.next/\((∃e w' xs,pE s m' (.loop (k+1) e) g w'=some r/\T 7=.bool true/\be H' H2.next xs/\mL (λc=>In (H.next+1) H'.next c/\c≠H2.next) H' e xs/\be H' pb (du s w' g x y orv)/\rV s w')∨∃e w' xs,r=.error e/\T 7=.bool false/\be H' H2.next xs/\be H' pb (du s w' g e.1 e.2 orv))) f ?_ ?_
 ·refine⟨Nat.le_refl _,by simp only[sC,seval];try rfl,by simp only[sC,seval];try rfl,by simp only[sC,seval];try rfl,by simp only[sC,seval];try rfl,by simp only[sC,seval],by simp only[sC,seval],r14,F4,om,?_⟩;rcases dw hr with⟨e,he,rfl⟩|⟨e1,w2,he,hr'⟩
  ·rw[hr0]at he;simp only[sJ]at he;subst he;obtain⟨xs',w',hu,_,_,rp⟩:=ho;simp only[ae.tuple.injEq,List.cons.injEq,ae.agg.injEq,ae.bool.injEq,and_true]at hu;obtain⟨rfl,rfl⟩:=hu;exact .inr ⟨e,w',xs,rfl,by simp only[sC,seval],r4,rp.same (k42 _ om)⟩
  ·rw[hr0]at he;simp only[sJ]at he;subst he;obtain⟨xs',hu,hx,rp,hw⟩:=ho;simp only[ae.tuple.injEq,List.cons.injEq,ae.agg.injEq,ae.bool.injEq,and_true]at hu;obtain⟨rfl,rfl⟩:=hu;refine .inl ⟨e1,w2,xs,hr',by simp only[sC,seval],r4,hx.mono λc hc=>?_,rp.same (k42 _ om),hw⟩;have h1:=hc.1;have h2:=hc.2;exact⟨⟨⟨om,om⟩,om⟩,k42 c h2⟩
 rintro m' T H5 ⟨hm',t0,t1,t2,t3,t4,t6,q4,F5,lt5,⟨e,w',xs,hp,t7,rx,hx,rp,hw⟩|⟨e,w',xs,rfl,t7,rx,rp⟩⟩;rotate_left
 ·simp only[sC,seval,t7];exact⟨t4,t6,q4,F5,om,.inr ⟨e,w',rfl,tt,rp⟩⟩
 cases m' with
 |zero=>simp[pE]at hp
 |succ m'=>
 rw[mn]at hp;simp only[iX,Nat.add_sub_cancel]at hp;have A5:=A.fwd F5 rp hw A.hg;have l15:=l1 F5;have l25:=l2 F5;simp only[sC,seval,t0,t1,t2,t3,t4,t6,t7,l15,l25];refine(i6 rp (lb F5) hlv).mono ?_;rintro _ _ ⟨rfl,rfl⟩;cases hs:mU w' (Lc (k+1))with
 |false=>rw[if_neg (by rw[hs];simp)]at hp;simp only[dC,sJ]at hp;subst hp;simp only[sC,seval];exact⟨by simp only[sC,seval,t4],by simp only[sC,seval,t6],q4,F5,om,.inl ⟨e,w',xs,rfl,by simp only[sC,seval,t7],rx,hx.mono λc hc=>⟨hc.1,rfl⟩,rp,hw⟩⟩
 |true=>
 rw[if_pos hs]at hp;have lS:al false 1 H5 (ah pb 11 2)=some (.str w'.S):=aj rp rfl rfl;simp only[sC,seval,t0,t1,t2,t3,t4,t6,t7,l15,az,aA,lS];refine(cG rp A5.lt A5.en).mono ?_;rintro u H6 ⟨h6,F6⟩;have e6:=F6.next;have F56:=F5.trans F6;rcases dJ hp with⟨e',he,rfl⟩|⟨w1,he,hp⟩
 ·rw[he]at h6;obtain⟨rfl,r6⟩:=h6;obtain⟨H7,m7,r7,n7,k7⟩:=am (q4.same (F6.old _ om om)) (n:=4) rfl (xs:=[.int .u8 0,.str [],.int .i64 0,.slice none 0 (.known 0)]) rfl rfl;have l7:=aw r7 (n:=4) rfl;simp only[sC,seval,t0,t1,t2,t3,t4,t6,t7,b0,m7,dU,l7,aQ];exact⟨⟨_,w',tt,rfl,⟨rfl,rfl⟩,r6.same (k7 _ om)⟩,by have:=F5.next;omega,λc hc hp=>by rw[k7 c om,F56.old c hc hp]⟩
 rw[he]at h6;obtain⟨rfl,r6⟩:=h6;obtain⟨hw1,-⟩:=bJ he hw (by rw[jK hs];omega);obtain⟨H7,m7,r7,n7,k7⟩:=aC H6 [.int .u8 0,.str [],.int .i64 0,.slice none 0 (.known 0)] (n:=4) rfl;have F7:Fp pb H H7:=⟨by have:=F56.next;omega,λc hc hp=>by rw[k7 c (by have:=F56.next;omega),F56.old c hc hp]⟩;have r67:=r6.same (k7 pb om);have A7:=A.fwd F7 r67 hw1 A.hg;have l07:=l0 F7;simp only[sC,seval,t0,t1,t2,t3,t4,t6,t7,m7,l07];obtain⟨r2,hr2⟩:∃r2,pE s m' (.rule k) g w1=some r2:=by
  rcases dw hp with⟨e,he,rfl⟩|⟨e1,w2,he,_⟩
  ·exact⟨_,he⟩
  ·exact⟨_,he⟩
 refine(ihr m' om H7 w1 g x y orv vb r2 A7 (hvb.keep λc h1 h2=>F7.old c om h2) hr2).mono ?_;rintro u H8 ⟨h8,F8⟩;have e8:=F8.next;have F78:=F7.trans F8;have start:∃ys ok,u=.tuple [.agg ys,.bool ok]/\ys.length=4/\ys.all ae.one=true:=by
  cases r2 with
  |error e=>obtain⟨xs,w',rfl,x1,⟨x2,_⟩,_⟩:=h8;exact⟨xs,false,rfl,x1,x2⟩
  |ok p=>obtain⟨e,w'⟩:=p;obtain⟨xs,rfl,x1,_⟩:=h8;exact⟨xs,true,rfl,x1.len,x1.one⟩
 obtain⟨ys,ok2,rfl,y1,y2⟩:=start;obtain⟨H9,m9,r9,n9,k9⟩:=am (r7.same (F8.old _ om om)) (n:=4) rfl y1 y2;have l9:=aw r9 y1;have k97:∀c,c<H6.next->c≠pb->H9.get c=H6.get c:=λc h1 h2=>by rw[k9 c om,F8.old c om h2,k7 c om]
 have k95:∀c,c<H5.next->c≠pb->H9.get c=H5.get c:=λc h1 h2=>by rw[k97 c om h2,F6.old c h1 h2]
 have rx9:=rx.same (k95 H2.next lt5 om);have lx9:=aw rx9 hx.len;have bs:=WT H9 hx.len y1;have rP:be (H9.push (.cells (xs++ys) 0 false)) H9.next (xs++ys):=gq _ _;obtain⟨Ha,ma,ra,na,ka⟩:=am (H:=H9.push (.cells (xs++ys) 0 false)) (rx9.same (aB om)) (n:=4) hx.len (xs:=[.int .u8 3,.str w'.S,.int .i64 0,.slice (some ⟨H9.next,8,0⟩) 2 (.known 2)]) rfl rfl;rw[aV]at na;have ka9:∀c,c<H9.next->c≠H2.next->Ha.get c=H9.get c:=λc h1 h2=>by rw[ka c h2,aB h1]
 have Fa:Fp pb H Ha:=⟨by have:=F78.next;omega,λc hc hp=>by rw[ka9 c (by have:=F78.next;omega) om,k9 c (by have:=F7.next;omega),F78.old c hc hp]⟩;have l3a:=l3 Fa;have q4a:be Ha H.next _:=q4.same (by rw[ka9 _ om om,k95 _ om om]);have hpa:Ha.get pb=H8.get pb:=by rw[ka9 _ om om,k9 _ om]
 simp only[sC,seval,bv,bu,t0,t1,t2,t3,t4,t6,t7,m9,lx9,l9,bs,Qf w'.S (.slice (some ⟨H9.next,8,0⟩) 2 (.known 2)) rfl,ma,l3a];have eb:∀q:Ex×Wd,r2=.ok q->mL (λc=>In (H.next+1) Ha.next c/\c≠H2.next) Ha (.mk 3 w'.S 0 [e,q.1]) [.int .u8 3,.str w'.S,.int .i64 0,.slice (some ⟨H9.next,8,0⟩) 2 (.known 2)]/\be Ha pb (du s q.2 g x y orv)/\rV s q.2:=by
  rintro⟨e2,w2⟩ rfl;obtain⟨ys',hu,hy,rp2,hw2⟩:=h8;simp only[ae.tuple.injEq,List.cons.injEq,ae.agg.injEq,ae.bool.injEq,and_true]at hu;obtain⟨rfl,rfl⟩:=hu;refine⟨⟨_,xs++ys,rfl,.row (rP.same (ka _ om)) (by rw[lA,hx.len,y1]) rfl ⟨⟨om,om⟩,om⟩,xs,ys,rfl,hx.mono λc hc=>?_,.sing (hy.mono λc hc=>?_)⟩,rp2.same hpa,hw2⟩
  ·have h1:=hc.1.1;have h2:=hc.1.2;exact⟨⟨⟨h1,om⟩,hc.2⟩,by rw[ka9 c om hc.2,k95 c h2 om]⟩
  ·have h1:=hc.1;have h2:=hc.2;exact⟨⟨⟨om,om⟩,om⟩,by rw[ka9 c om om,k9 c om]⟩
 cases hb3:Nat.beq (k+1) 3 with
 |false=>
  rw[hb3]at hp;simp only[cond_false,XJ,if_false]at hp;simp only[sC,seval,Bool.not_false];refine⟨m',om,om,by simp only[sC,seval,t0],by simp only[sC,seval,t1],by simp only[sC,seval,t2],by simp only[sC,seval,t3],by simp only[sC,seval,t4],by simp only[sC,seval,t6],q4a,Fa,om,?_⟩;rcases dw hp with⟨e',he',rfl⟩|⟨e1,w2,he',hp'⟩
  ·rw[hr2]at he';simp only[sJ]at he';subst he';obtain⟨ys',w2,hu,_,_,rp2⟩:=h8;simp only[ae.tuple.injEq,List.cons.injEq,ae.agg.injEq,ae.bool.injEq,and_true]at hu;obtain⟨rfl,rfl⟩:=hu;exact .inr ⟨e',w2,_,rfl,by simp only[sC,seval],ra,rp2.same hpa⟩
  ·rw[hr2]at he';simp only[sJ]at he';subst he';obtain⟨z1,z2,z3⟩:=eb _ rfl;obtain⟨ys',hu,_⟩:=h8;simp only[ae.tuple.injEq,List.cons.injEq,ae.agg.injEq,ae.bool.injEq,and_true]at hu;obtain⟨rfl,rfl⟩:=hu;exact .inl ⟨_,w2,_,hp',by simp only[sC,seval],ra,z1,z2,z3⟩
 |true=>
  rw[hb3]at hp;simp only[if_true]at hp;simp only[sC,seval,Bool.not_true];refine⟨by simp only[sC,seval,t4],by simp only[sC,seval,t6],q4a,Fa,om,?_⟩;rcases dw hp with⟨e',he',rfl⟩|⟨e1,w2,he',hp'⟩
  ·rw[hr2]at he';simp only[sJ]at he';subst he';obtain⟨ys',w2,hu,_,_,rp2⟩:=h8;simp only[ae.tuple.injEq,List.cons.injEq,ae.agg.injEq,ae.bool.injEq,and_true]at hu;obtain⟨rfl,rfl⟩:=hu;exact .inr ⟨e',w2,rfl,by simp only[sC,seval],rp2.same hpa⟩
  ·rw[hr2]at he';simp only[sJ]at he';subst he';obtain⟨z1,z2,z3⟩:=eb _ rfl;obtain⟨ys',hu,_⟩:=h8;simp only[ae.tuple.injEq,List.cons.injEq,ae.agg.injEq,ae.bool.injEq,and_true]at hu;obtain⟨rfl,rfl⟩:=hu;simp only[dC,sJ]at hp';subst hp';exact .inl ⟨_,w2,_,rfl,by simp only[sC,seval],ra,z1.mono λc hc=>⟨hc.1,rfl⟩,z2,z3⟩
open Go.Abs Go.Abs.S
def oP{pb:Nat}{H:aa}(o:di):Fp pb H (H.push o):=⟨by rw[aV];omega,λc hc _=>aB hc⟩
def PA.push{n pb:Nat}{s:Bs}{H:aa}{w:Wd}{g:Nat}{x y:Int}{orv:ae}(h:PA n pb s H w g x y orv)(o:di):PA n pb s (H.push o) w g x y orv:=h.fwd (oP o) (h.row.same (aB h.lt)) h.ok h.hg
def PA.lor{n pb:Nat}{s:Bs}{H:aa}{w:Wd}{g:Nat}{x y:Int}{orv:ae}(h:PA n pb s H w g x y orv):al false 1 H (ah pb 11 10)=some orv:=aj h.row rfl rfl
def HU{n pb:Nat}{s:Bs}{f:Nat}(hf:f<=1000000)(ihr:∀f',f'<f->oC n pb s f' 5):Ng n pb s f:=by
 intro S H w g x y orv r A hs hr;refine ak rfl T4 rfl ?_;have hlt:=A.lt;have t1:fu s [40] w=eD s w:=by unfold fu;rw[if_pos hs]
 simp only[Vj,sC,seval];refine(eQ A.row hlt A.en [40]).mono ?_;rintro u H1 ⟨ho,F1⟩;rw[t1]at ho;have e1:=F1.next;unfold Qh at hr;rcases dJ hr with⟨e,he,rfl⟩|⟨w1,he,hr⟩
 ·rw[he]at ho;obtain⟨rfl,r1⟩:=ho;simp only[sC,seval];exact⟨⟨_,w,tt,⟨rfl,rfl⟩,r1⟩,F1⟩
 rw[he]at ho;obtain⟨rfl,r1⟩:=ho;have hw1:=(bJ he A.ok (by rw[jK hs];omega)).1;have A1:=A.fwd F1 r1 hw1 A.hg;have bs:=lu (.str []) H1 (x:=.str [41]) rfl;have A2:=A1.push (.cells [.str [41]] 0 false);have F2:Fp pb H (H1.push (.cells [.str [41]] 0 false)):=F1.trans (oP _);simp only[sC,seval,bs];refine(i6 A2.row (oS H1 [41]) (by simp)).mono ?_;rintro _ _ ⟨rfl,rfl⟩;generalize H1.push (.cells [.str [41]] 0 false)=H2 at *;cases hs2:mU w1 [[41]]with
 |true=>
  rw[if_pos hs2]at hr;simp only[sC,seval];refine(cG A2.row A2.lt A2.en).mono ?_;rintro u H3 ⟨ho,F3⟩;rcases dJ hr with⟨e,he,rfl⟩|⟨w2,he,hr⟩
  ·rw[he]at ho;obtain⟨rfl,r3⟩:=ho;simp only[sC,seval];exact⟨⟨_,w1,tt,⟨rfl,rfl⟩,r3⟩,F2.trans F3⟩
  ·rw[he]at ho;obtain⟨rfl,r3⟩:=ho;simp only[dC,sJ]at hr;subst hr;simp only[sC,seval];exact⟨⟨[],aX,[],rfl,tt,.nil _ _ _,rfl,r3,(bJ he hw1 (by rw[jK hs2];omega)).1⟩,F2.trans F3⟩
 |false=>
 rw[if_neg (by rw[hs2];simp)]at hr;have e2:=F2.next;simp only[sC,seval];refine aM (λm (T:bZ) H'=>∃out w' v,T 0=ah pb 11 0/\T 4=v/\zQ H.next H' v out/\out.length+m<=f/\PA n pb s H' w' g x y orv/\Fp pb H H'/\pE s m (.args S out) g w'=some r) f
  ⟨[],w1,aX,by simp only[sC,seval],by simp only[sC,seval];rfl,zQ.nil _ _,by simp,A2,F2,hr⟩ ?_
 rintro m T H3 ⟨out,w',v,t0,t4,G3,hm,A3,F3,hp⟩;cases m with
 |zero=>simp[pE]at hp
 |succ m=>
 rw[mn]at hp;simp only[iX]at hp;have l3:=A3.lor;simp only[sC,seval,t0,t4,az,aA,l3];obtain⟨r0,hr0⟩:∃r0,pE s m (.rule 5) g w'=some r0:=by
  rcases dw hp with⟨e,he,rfl⟩|⟨e1,w2,he,_⟩
  ·exact⟨_,he⟩
  ·exact⟨_,he⟩
 have e3:=F3.next;refine(ihr m om H3 w' g x y orv orv r0 A3 A3.or hr0).mono ?_;rintro u H4 ⟨ho,F4⟩;have e4:=F4.next;have F34:=F3.trans F4;rcases dw hp with⟨e,he,rfl⟩|⟨e1,w2,he,hp⟩
 ·rw[hr0]at he;simp only[sJ]at he;subst he;obtain⟨xs,w2,rfl,x1,⟨x2,_⟩,r4⟩:=ho;obtain⟨H5,m5,r5,n5,k5⟩:=aC H4 [.int .u8 0,.str [],.int .i64 0,.slice none 0 (.known 0)] (n:=4) rfl;obtain⟨H6,m6,r6,n6,k6⟩:=am r5 (n:=4) rfl x1 x2;have k64:∀c,c<H4.next->H6.get c=H4.get c:=λc hc=>by rw[k6 c om,k5 c om]
  simp only[sC,seval,bv,bu,m5,m6];exact⟨⟨_,w2,tt,⟨rfl,rfl⟩,r4.same (k64 _ om)⟩,om,λc hc hp=>by rw[k64 c om,F34.old c hc hp]⟩
 rw[hr0]at he;simp only[sJ]at he;subst he;obtain⟨xs,rfl,hx,r4,hw2⟩:=ho;obtain⟨H5,m5,r5,n5,k5⟩:=aC H4 [.int .u8 0,.str [],.int .i64 0,.slice none 0 (.known 0)] (n:=4) rfl;obtain⟨H6,m6,r6,n6,k6⟩:=am r5 (n:=4) rfl hx.len hx.one;have l6:=aw r6 hx.len;have k64:∀c,c<H4.next->H6.get c=H4.get c:=λc hc=>by rw[k6 c om,k5 c om]
 have F46:Fp pb H4 H6:=⟨om,λc hc _=>k64 c hc⟩;have F36:=F34.trans F46;have bm:=ot (z:=[.int .u8 0,.str [],.int .i64 0,.slice none 0 (.known 0)]) (m:=4) H6 rfl hx.len;have G6:zQ H.next H6 v out:=G3.keep om λc hc=>by have h1:=hc.1;have h2:=hc.2;rw[k64 c om,F4.old c h2 om]
 have hx6:mL (In H3.next H6.next) H6 e1 xs:=hx.mono λc hc=>⟨⟨hc.1,by have:=hc.2;omega⟩,k64 c hc.2⟩;have hb3:bx v (·<H3.next):=by obtain⟨C,_,q,_⟩:=G3;exact q.mono λc hc=>hc.2
 obtain⟨v',H7,a7,G7,n7,k7⟩:=G6.push hx6 e3 om hb3 om (bytes:=56) om om;have hvp:bx v (pb≠·):=by obtain⟨C,_,q,_⟩:=G3;exact q.mono λc hc=>by have:=hc.1;omega
 have F67:Fp pb H H7:=⟨om,λc hc hp=>by rw[k7 c om (by obtain⟨C,_,q,_⟩:=G3;exact q.mono λd hd=>by have:=hd.1;omega),F36.old c hc hp]⟩
 have r7:be H7 pb (du s w2 g x y orv):=r4.same (by rw[k7 pb om hvp,k64 pb om]);have A7:=A.fwd F67 r7 hw2 A.hg;have bs7:=lu (.str []) H7 (x:=.str [44]) rfl;have A8:=A7.push (.cells [.str [44]] 0 false);have F8:Fp pb H (H7.push (.cells [.str [44]] 0 false)):=F67.trans (oP _);have G8:zQ H.next (H7.push (.cells [.str [44]] 0 false)) v' (out++[e1]):=G7.keep (by rw[aV];omega) λc hc=>aB hc.2;simp only[sC,seval,bv,bu,t0,t4,m5,m6,l6,bm,a7,bs7];refine(i6 A8.row (oS H7 [44]) (by simp)).mono ?_;rintro _ _ ⟨rfl,rfl⟩;have e8:=F8.next;generalize H7.push (.cells [.str [44]] 0 false)=H8 at *;cases hs3:mU w2 [[44]]with
 |false=>
  rw[if_neg (by rw[hs3];simp)]at hp;simp only[sC,seval,t0];refine(eQ A8.row A8.lt A8.en [41]).mono ?_;rintro u H9 ⟨ho,F9⟩;rcases dJ hp with⟨e,he,rfl⟩|⟨w3,he,hp⟩
  ·rw[he]at ho;obtain⟨rfl,r9⟩:=ho;obtain⟨C,q1,_⟩:=G8.sl;simp only[sC,seval];exact⟨⟨_,w2,tt,⟨q1.one,q1.aeq⟩,r9⟩,F8.trans F9⟩
  ·rw[he]at ho;obtain⟨rfl,r9⟩:=ho;simp only[dC,sJ]at hp;subst hp;have G9:=G8.keep F9.next λc hc=>F9.old c hc.2 (by have:=hc.1;omega);obtain⟨C,q1,q2⟩:=G9.sl;simp only[sC,seval];exact⟨⟨_,v',C,rfl,tt,q1,q2,r9,(dH he hw2).2.2.1⟩,F8.trans F9⟩
 |true=>
  rw[if_pos hs3]at hp;simp only[sC,seval,t0];refine(cG A8.row A8.lt A8.en).mono ?_;rintro u H9 ⟨ho,F9⟩;rcases dJ hp with⟨e,he,rfl⟩|⟨w3,he,hp⟩
  ·rw[he]at ho;obtain⟨rfl,r9⟩:=ho;simp only[sC,seval];exact⟨⟨_,w2,tt,⟨rfl,rfl⟩,r9⟩,F8.trans F9⟩
  ·rw[he]at ho;obtain⟨rfl,r9⟩:=ho;have G9:=G8.keep F9.next λc hc=>F9.old c hc.2 (by have:=hc.1;omega);simp only[sC,seval];exact⟨m,om,out++[e1],w3,v',by simp only[sC,seval,t0],by simp only[sC,seval],G9,by simp;omega,A8.fwd F9 r9 (bJ he hw2 (by rw[jK hs3];omega)).1 A.hg,F8.trans F9,hp⟩
open Go.Abs Go.Abs.S
def RV(n:ae)(hn:n.one=true):aJ [.int .u8 0,.str [],.int .i64 0,.slice none 0 (.known 0)] [(0,1,.int .u8 1),(2,1,n)]=some (.agg [.int .u8 1,.str [],n,.slice none 0 (.known 0)]):=by
 cases n<;>first|rfl|(simp[ae.one]at hn)
def Pf(S:Bs):aJ [.int .u8 0,.str [],.int .i64 0,.slice none 0 (.known 0)] [(0,1,.int .u8 2),(1,1,.str S)]=some (.agg [.int .u8 2,.str S,.int .i64 0,.slice none 0 (.known 0)]):=_root_.id rfl
def HG(S:Bs)(v:ae)(hv:v.one=true):aJ [.int .u8 0,.str [],.int .i64 0,.slice none 0 (.known 0)] [(0,1,.int .u8 4),(1,1,.str S),(3,1,v)]=some (.agg [.int .u8 4,.str S,.int .i64 0,v]):=by
 cases v<;>first|rfl|(simp[ae.one]at hv)
def QP(k:Int)(S:Bs)(n:Int){v:ae}(h:v.one=true):([.int .u8 k,.str S,.int .i64 n,v]:List ae).all ae.one=true:=by simp only[List.all_cons,List.all_nil,h];rfl
def Vs(k:Int)(S:Bs)(n:Int){v:ae}(h:aeq v v=true):aeqs [.int .u8 k,.str S,.int .i64 n,v] [.int .u8 k,.str S,.int .i64 n,v]=true:=by simp only[aeqs,dM,uR,h,Bool.and_self]
def Gb(P:Nat->Prop)(H:aa)(k:Nat)(S:Bs)(n:Int):mL P H (.mk k S n []) [.int .u8 (k:Int),.str S,.int .i64 n,.slice none 0 (.known 0)]:=⟨aX,[],rfl,.nil _ _ _,rfl⟩
def NY{n pb:Nat}{s:Bs}{f:Nat}(ihr:oC n pb s f 5)(iha:Ng n pb s f):M8 n pb s (f+1):=by
 intro H w g x y orv r A hr;rw[mn]at hr;simp only[iX]at hr;refine ak rfl Wf rfl ?_;have hlt:=A.lt;obtain⟨H1,m1,r1,n1,k1⟩:=aC H [.int .u8 0,.str [],.int .i64 0,.slice none 0 (.known 0)] (n:=4) rfl;obtain⟨H2,m2,r2,n2,k2⟩:=aC H1 [.int .u8 0,.str [],.int .i64 0,.int .i64 0,.int .i64 0,.int .i64 0] (n:=6) rfl;obtain⟨H3,m3,r3,n3,k3⟩:=am r2 (n:=6) rfl (xs:=iN w.k w.S w.n w.line w.at_ w.en) rfl rfl;have lw:al true 6 H1 (ah pb 11 1)=some (.agg (iN w.k w.S w.n w.line w.at_ w.en)):=gQ (A.row.same (k1 pb om)) (n:=11) rfl (i:=1) (k:=6) om;have F3:Fp pb H H3:=⟨om,λc hc _=>by rw[k3 c om,k2 c om,k1 c om]⟩;have A3:=A.fwd F3 (A.row.same (by rw[k3 pb om,k2 pb om,k1 pb om])) A.ok A.hg;have q1:be H3 H.next _:=r1.same (by rw[k3 _ om,k2 _ om]);have f0:∀{K:aa},Fp pb H3 K->al false 1 K (ah H1.next 6 0)=some (.int .u8 (w.k:Int)):=λq=>aj (r3.same (q.old _ om om)) rfl rfl;have f1:∀{K:aa},Fp pb H3 K->al false 1 K (ah H1.next 6 1)=some (.str w.S):=λq=>aj (r3.same (q.old _ om om)) rfl rfl;have f2:∀{K:aa},Fp pb H3 K->al false 1 K (ah H1.next 6 2)=some (.int .i64 (w.n:Int)):=λq=>aj (r3.same (q.old _ om om)) rfl rfl;have b0:=RX;have f03:=f0 (Fp.refl pb H3);have f23:=f2 (Fp.refl pb H3);have fq:∀{K:aa},Fp pb H3 K->∀(xs:List ae),xs.length=4->xs.all ae.one=true->∃K',bh 4 K (ah H.next 4 0) (.agg xs)=some K'/\al true 4 K' (ah H.next 4 0)=some (.agg xs)/\K'.next=K.next/\(∀c,c≠H.next->K'.get c=K.get c)/\Fp pb H K':=by intro K q xs h1 h2;obtain⟨K',a1,a2,a3,a4⟩:=am (q1.same (q.old _ om om)) (n:=4) rfl h1 h2;exact⟨K',a1,aw a2 h1,a3,a4,by have:=q.next;omega,λc hc hp=>by rw[a4 c om,q.old c om hp,F3.old c hc hp]⟩
 simp only[c61,sC,seval,m1,az,aA,fld0,lw,m2,m3,f03];by_cases c1:w.k=1
 ·have c1':(w.k:Int)=1:=om;rw[if_pos c1]at hr;simp only[sC,seval,c1'];refine dI rfl ?_;simp only[sR,sC,seval,aA,fld0,f23,RV (.int .i64 (w.n:Int)) rfl];refine(cG A3.row A3.lt A3.en).mono ?_;rintro u H4 ⟨ho,F4⟩;have f24:=f2 F4;obtain⟨H5,m5,l5,n5,k5,F5⟩:=fq F4 [.int .u8 1,.str [],.int .i64 (w.n:Int),.slice none 0 (.known 0)] rfl rfl;have hp5:H5.get pb=H4.get pb:=k5 pb om;simp only[sR,sC,seval,m5];simp only[ci,cj,bP,cm,cQ,and_true,true_and,List.map_cons,List.map_nil,sC,seval,aA,fld0];refine⟨⟨_,rfl,λ_=>⟨_,f24,dM _ _⟩⟩,?_⟩;rcases dJ hr with⟨e,he,rfl⟩|⟨w1,he,hr⟩
  ·rw[he]at ho;obtain⟨rfl,r4⟩:=ho;simp only[sC,seval,dU,l5,aQ];exact⟨⟨_,w,tt,rfl,⟨rfl,by simp[aeqs,dM,uR];rfl⟩,r4.same hp5⟩,F5⟩
  ·rw[he]at ho;obtain⟨rfl,r4⟩:=ho;simp only[dC,sJ]at hr;subst hr;simp only[sC,seval,dU,l5,aQ];exact⟨⟨_,tt,Gb _ _ 1 [] (w.n:Int),r4.same hp5,(bJ he A.ok om).1⟩,F5⟩
 have c1':¬(w.k:Int)=1:=om;rw[if_neg c1]at hr;by_cases c2:w.k=2
 ·have c2':(w.k:Int)=2:=om;rw[if_pos c2]at hr;simp only[sC,seval,c1',c2',fld0,f03];refine(cG A3.row A3.lt A3.en).mono ?_;rintro u H4 ⟨ho,F4⟩;rcases dJ hr with⟨e,he,rfl⟩|⟨w1,he,hr⟩
  ·rw[he]at ho;obtain⟨rfl,r4⟩:=ho;obtain⟨H5,m5,l5,n5,k5,F5⟩:=fq F4 [.int .u8 0,.str [],.int .i64 0,.slice none 0 (.known 0)] rfl rfl;simp only[sC,seval,b0,m5,dU,l5,aQ];exact⟨⟨_,w,tt,rfl,⟨rfl,rfl⟩,r4.same (k5 pb om)⟩,F5⟩
  rw[he]at ho;obtain⟨rfl,r4⟩:=ho;have hw1:=(bJ he A.ok om).1;have A4:=A3.fwd F4 r4 hw1 A.hg;have bs:=lu (.str []) H4 (x:=.str [40]) rfl;have A5:=A4.push (.cells [.str [40]] 0 false);have F5:Fp pb H3 (H4.push (.cells [.str [40]] 0 false)):=F4.trans (oP _);simp only[sC,seval,bs];refine(i6 A5.row (oS H4 [40]) (by simp)).mono ?_;rintro _ _ ⟨rfl,rfl⟩;generalize H4.push (.cells [.str [40]] 0 false)=H5 at *;have f15:=f1 F5;cases hs:mU w1 [[40]]with
  |false=>rw[if_neg (by rw[hs];simp)]at hr;simp only[dC,sJ]at hr;subst hr;obtain⟨H6,m6,l6,n6,k6,F6⟩:=fq F5 [.int .u8 2,.str w.S,.int .i64 0,.slice none 0 (.known 0)] rfl rfl;simp only[sC,seval,aA,f15,Pf,m6,dU,l6,aQ];exact⟨⟨_,tt,Gb _ _ 2 w.S 0,A5.row.same (k6 pb om),hw1⟩,F6⟩
  |true=>
   rw[if_pos hs]at hr;simp only[sC,seval];refine(iha w.S H5 w1 g x y orv r A5 hs hr).mono ?_;rintro u H6 ⟨ho,F6⟩;have F56:=F5.trans F6;have f16:=f1 F56;cases r with
   |error e=>obtain⟨v,w',rfl,⟨v1,v2⟩,r6⟩:=ho;obtain⟨H7,m7,l7,n7,k7,F7⟩:=fq F56 [.int .u8 4,.str w.S,.int .i64 0,v] rfl (QP _ _ _ v1);simp only[sC,seval,bv,bu,aA,f16,HG w.S v v1,m7,dU,l7,aQ];exact⟨⟨_,w',tt,rfl,⟨QP _ _ _ v1,Vs _ _ _ v2⟩,r6.same (k7 pb om)⟩,F7⟩
   |ok p=>obtain⟨e,w'⟩:=p;obtain⟨kids,v,C,rfl,rfl,z1,z2,r6,o6⟩:=ho;obtain⟨H7,m7,l7,n7,k7,F7⟩:=fq F56 [.int .u8 4,.str w.S,.int .i64 0,v] rfl (QP _ _ _ z1.one);simp only[sC,seval,bv,bu,aA,f16,HG w.S v z1.one,m7,dU,l7,aQ];have e5:=F5.next;have km:∀b,In H5.next H6.next b->In H.next H7.next b/\H7.get b=H6.get b:=λb hb=>⟨⟨by have:=hb.1;omega,by have:=hb.2;omega⟩,k7 b (by have:=hb.1;omega)⟩;exact⟨⟨_,tt,⟨v,C,rfl,z1.mono km,z2.mono km⟩,r6.same (k7 pb om),o6⟩,F7⟩
 have c2':¬(w.k:Int)=2:=om;rw[if_neg c2]at hr;have bs:=lu (.str []) H3 (x:=.str [40]) rfl;have A5:=A3.push (.cells [.str [40]] 0 false);have F5:Fp pb H3 (H3.push (.cells [.str [40]] 0 false)):=oP _;simp only[sC,seval,c1',c2',fld0,f03,bs];refine(i6 A5.row (oS H3 [40]) (by simp)).mono ?_;rintro _ _ ⟨rfl,rfl⟩;generalize H3.push (.cells [.str [40]] 0 false)=H5 at *;have e5:=F5.next;cases hs:mU w [[40]]with
 |false=>rw[if_neg (by rw[hs];simp)]at hr;simp only[tB,sJ]at hr;subst hr;simp only[sC,seval,b0];refine(jL A5.row 101).mono ?_;rintro _ H6 ⟨rfl,r6,F6⟩;obtain⟨H7,m7,l7,n7,k7,F7⟩:=fq (F5.trans F6) [.int .u8 0,.str [],.int .i64 0,.slice none 0 (.known 0)] rfl rfl;simp only[sC,seval,m7,dU,l7,aQ];exact⟨⟨_,w,tt,rfl,⟨rfl,rfl⟩,r6.same (k7 pb om)⟩,F7⟩
 |true=>
  rw[if_pos hs]at hr;simp only[sC,seval];refine(cG A5.row A5.lt A5.en).mono ?_;rintro u H6 ⟨ho,F6⟩;have F56:=F5.trans F6;rcases dJ hr with⟨e,he,rfl⟩|⟨w1,he,hr⟩
  ·rw[he]at ho;obtain⟨rfl,r6⟩:=ho;obtain⟨H7,m7,l7,n7,k7,F7⟩:=fq F56 [.int .u8 0,.str [],.int .i64 0,.slice none 0 (.known 0)] rfl rfl;simp only[sC,seval,b0,m7,dU,l7,aQ];exact⟨⟨_,w,tt,rfl,⟨rfl,rfl⟩,r6.same (k7 pb om)⟩,F7⟩
  rw[he]at ho;obtain⟨rfl,r6⟩:=ho;have hw1:=(bJ he A.ok (by rw[jK hs];omega)).1;have A6:=A5.fwd F6 r6 hw1 A.hg;have lo:=A6.lor;have e6:=F6.next;simp only[sC,seval,az,aA,lo];obtain⟨r0,hr0⟩:∃r0,pE s f (.rule 5) g w1=some r0:=by
   rcases dw hr with⟨e,he,rfl⟩|⟨e1,w2,he,_⟩
   ·exact⟨_,he⟩
   ·exact⟨_,he⟩
  refine(ihr H6 w1 g x y orv orv r0 A6 A6.or hr0).mono ?_;rintro u H7 ⟨ho,F7⟩;have e7:=F7.next;have F57:=F56.trans F7;have start:∃xs ok,u=.tuple [.agg xs,.bool ok]/\xs.length=4/\xs.all ae.one=true/\aeqs xs xs=true:=by
   cases r0 with
   |error e=>obtain⟨xs,w',rfl,x1,⟨x2,x3⟩,_⟩:=ho;exact⟨xs,false,rfl,x1,x2,x3⟩
   |ok p=>obtain⟨e,w'⟩:=p;obtain⟨xs,rfl,x1,_⟩:=ho;exact⟨xs,true,rfl,x1.len,x1.one,x1.aeqs⟩
  obtain⟨xs,ok,rfl,x1,x2,x3⟩:=start;obtain⟨H8,m8,r8,n8,k8⟩:=aC H7 [.int .u8 0,.str [],.int .i64 0,.slice none 0 (.known 0)] (n:=4) rfl;obtain⟨H9,m9,r9,n9,k9⟩:=am r8 (n:=4) rfl x1 x2;have l9:=aw r9 x1;have k97:∀c,c<H7.next->H9.get c=H7.get c:=λc hc=>by rw[k9 c om,k8 c om]
  have F79:Fp pb H7 H9:=⟨om,λc hc _=>k97 c hc⟩;have F39:=F57.trans F79;simp only[sC,seval,bv,bu,m8,m9];rcases dw hr with⟨e,he',rfl⟩|⟨e1,w2,he',hr⟩
  ·rw[hr0]at he';simp only[sJ]at he';subst he';obtain⟨xs',w2,hu,_,_,r7⟩:=ho;simp only[ae.tuple.injEq,List.cons.injEq,ae.agg.injEq,ae.bool.injEq,and_true]at hu;obtain⟨rfl,rfl⟩:=hu;obtain⟨Ha,ma,la,na,ka,Fa⟩:=fq F39 xs x1 x2;refine dI rfl ?_;simp only[sR,sC,seval,l9,ma];simp only[ci,cj,bP,cm,cQ,and_true,true_and,List.map_cons,List.map_nil,sC,seval];refine⟨⟨_,rfl,λ_=>⟨_,l9,by simpa[aeq]using x3⟩⟩,?_⟩;simp only[sC,seval,dU,la,aQ];exact⟨⟨xs,w2,tt,x1,⟨x2,x3⟩,r7.same (by rw[ka pb om,k97 pb om])⟩,Fa⟩
  rw[hr0]at he';simp only[sJ]at he';subst he';obtain⟨xs',hu,hx,r7,o7⟩:=ho;simp only[ae.tuple.injEq,List.cons.injEq,ae.agg.injEq,ae.bool.injEq,and_true]at hu;obtain⟨rfl,rfl⟩:=hu;have A9:=A6.fwd (F7.trans F79) (r7.same (k97 pb om)) o7 A.hg;refine dI rfl ?_;simp only[sR,sC,seval,l9];refine(eQ A9.row A9.lt A9.en [41]).mono ?_;rintro u Ha ⟨ho,Fa⟩;have ea:=Fa.next;have la:=aw (r9.same (Fa.old _ om om)) x1;obtain⟨Hb,mb,lb,nb,kb,Fb⟩:=fq (F39.trans Fa) xs x1 x2;rcases dJ hr with⟨e,he,rfl⟩|⟨w3,he,hr⟩
  ·rw[he]at ho;obtain⟨rfl,ra⟩:=ho;simp only[sR,sC,seval,mb];simp only[ci,cj,bP,cm,cQ,and_true,true_and,List.map_cons,List.map_nil,sC,seval];refine⟨⟨_,rfl,λ_=>⟨_,la,by simpa[aeq]using x3⟩⟩,?_⟩;simp only[sC,seval,dU,lb,aQ];exact⟨⟨xs,w2,tt,x1,⟨x2,x3⟩,ra.same (kb pb om)⟩,Fb⟩
  ·rw[he]at ho;obtain⟨rfl,ra⟩:=ho;simp only[dC,sJ]at hr;subst hr;simp only[sR,sC,seval,mb];simp only[ci,cj,bP,cm,cQ,and_true,true_and,List.map_cons,List.map_nil,sC,seval];refine⟨⟨_,rfl,λ_=>⟨_,la,by simpa[aeq]using x3⟩⟩,?_⟩;simp only[sC,seval,dU,lb,aQ];refine⟨⟨xs,tt,hx.mono λc hc=>?_,ra.same (kb pb om),(dH he o7).2.2.1⟩,Fb⟩;have h1:=hc.1;have h2:=hc.2;exact⟨⟨om,om⟩,by rw[kb c om,Fa.old c om om,k97 c h2]⟩
structure Xw(n pb:Nat)(s:Bs)(f:Nat):Prop where
 rule:∀k,k<=5->oC n pb s f k
 prim:M8 n pb s f
 args:Ng n pb s f
def MO(n pb:Nat)(s:Bs):∀(f:Nat),f<=1000000->∀f',f'<=f->Xw n pb s f'
 |0,_,f',h=>by obtain rfl:f'=0:=om;exact⟨λk _ H w g x y orv v r _ _ hr=>by simp[pE]at hr,λH w g x y orv r _ hr=>by simp[pE]at hr,HU om λf' h=>absurd h (Nat.not_lt_zero _)⟩
 |f+1,hf,f',h=>by
  have ih:=MO n pb s f om;by_cases he:f'<=f
  ·exact ih f' he
  obtain rfl:f'=f+1:=om;refine⟨λk hk=>?_,NY ((ih f rL).rule 5 om) (ih f rL).args,HU hf λf' h=>(ih f' om).rule 5 om⟩;cases k with
  |zero=>exact JS ((ih f rL).rule 0 om) (ih f rL).prim
  |succ k=>exact QD hk λf' h=>(ih f' h).rule k om
open Go.Abs Go.Abs.S
abbrev Z9:List ae:=[.int .u8 0,.str [],.int .u8 0,.str [],.int .i64 0,.slice none 0 (.known 0),.slice none 0 (.known 0),.slice none 0 (.known 0),.int .i64 0]
def qv.pushZ{n m:Nat}{H:aa}{v:ae}{l:List St}(h:qv n H v l){e:St}{xs:List ae}(hx:uU (In m H.next) H e xs)(hm:n<=m)(hn:n<=H.next)(hv:bx v (·<m))(hl:l.length<=1000000) :
  ∃v' H1 H' b lim,a8 9 136 (H.push (.cells Z9 0 false)) v (pU H 9)=some (v',H1)/\jk 9 v' (.int .i64 (l.length:Int))=some (ah b lim (l.length*9))/\bh 9 H1 (ah b lim (l.length*9)) (.agg xs)=some H'/\v'.one=true/\qv n H' v' (l++[e])/\n<=b/\H.next<=H1.next/\H1.next=H'.next/\(∀c,c<H.next->bx v (c≠·)->H1.get c=H.get c)/\(∀c,c<H.next->bx v (c≠·)->c≠b)/\∀c,c<H.next->bx v (c≠·)->H'.get c=H.get c:=by
 obtain⟨C,h1,h2,h3⟩:=h;have hlC:C.length=9*l.length:=h3.len;obtain⟨v',H1,a1,a2,a3,a4,a5⟩:=h1.pushB (xs:=Z9) rfl rfl om (bytes:=136) om om;have hb2:=a4 _ h2;have hb3:=λc (hc:bx v (c≠·))=>a4 _ hc;rcases a2 with⟨_,_,hk⟩|⟨b,low,rfl,q2,q3,q4,q5,q6,q7⟩
 ·omega
 have hbn:n<=b:=by
  rcases hb2 _ _ _ rfl with hb|hb
  ·exact hb.1
  ·exact Nat.le_trans hn hb
 have hR:be H1 b (C++Z9):=⟨low,q5,q6⟩;have hlz:(C++Z9).length=C.length+9:=by simp
 obtain⟨H',m1,r1,n1,k1⟩:=oO hR (n:=(C++Z9).length) rfl (i:=l.length*9) (k:=9) om (xs:=xs) hx.len hx.one (l':=C++xs) (by rw[show l.length*9=C.length by omega,List.take_left',List.drop_of_length_le om,List.append_nil];rfl)
 have hlx:(C++xs).length=(C++Z9).length:=by simp[hx.len]
 have ne:∀c,c<H.next->bx v (c≠·)->c≠b:=λc hc hd=>by
  rcases hb3 c hd _ _ _ rfl with hb|hb
  ·exact hb
  ·have hb':H.next<=b:=hb;omega
 have k:∀c,In n H.next c->bx v (c≠·)->In n H'.next c/\bx (ae.slice (some ⟨b,(C++Z9).length,0⟩) (l.length+1) (.open_ 9)) (c≠·):=λc hc hd=>⟨⟨hc.1,by have:=hc.2;omega⟩,cp (ne c hc.2 hd)⟩
 have fr:∀c,c<H.next->bx v (c≠·)->H'.get c=H.get c:=λc hc hd=>by rw[k1 c (ne c hc hd),a5 c hc hd]
 refine⟨_,H1,H',b,_,a1,Ra .i64 om,m1,rfl,⟨C++xs,?_,cp ⟨hbn,(by omega:b<H'.next)⟩,dY.app (dY.sing ?_) ?_⟩,hbn,a3,om,a5,ne,fr⟩
 ·obtain⟨low',g1,g2⟩:=r1;rw[<- hlx];exact .inr ⟨b,low',by simp,by simp[hx.len];omega,Nat.zero_le _,om,g1,g2,by simp⟩
 ·refine hx.mono λc hc=>⟨?_,fr c hc.2 ?_⟩
  ·exact k c ⟨Nat.le_trans hm hc.1,hc.2⟩ (hv.mono λd hd=>by have:=hc.1;omega)
  ·exact hv.mono λd hd=>by have:=hc.1;omega
 ·exact h3.mono λc hc=>⟨k c hc.1 hc.2,fr c hc.1.2 hc.2⟩
structure Fs(pb sb:Nat)(H H':aa):Prop where
 next:H.next<=H'.next
 old:∀c,c<H.next->c≠pb->c≠sb->H'.get c=H.get c
def Fs.of{pb sb:Nat}{H H':aa}(f:Fp pb H H'):Fs pb sb H H':=⟨f.next,λc h1 h2 _=>f.old c h1 h2⟩
def Fs.trans{pb sb:Nat}{H H' H2:aa}(a:Fs pb sb H H')(b:Fs pb sb H' H2):Fs pb sb H H2:=⟨Nat.le_trans a.next b.next,λc h1 h2 h3=>by rw[b.old c (XL h1 a.next) h2 h3,a.old c h1 h2 h3]⟩
def PA.fws{n pb sb:Nat}{s:Bs}{H H':aa}{w w':Wd}{g g':Nat}{x y x' y':Int}{orv:ae}(h:PA n pb s H w g x y orv)(hs:n<=sb)(f:Fs pb sb H H')(r:be H' pb (du s w' g' x' y' orv))(hw:rV s w')(hg:g'<=200):PA n pb s H' w' g' x' y' orv:=⟨r,h.hpb,Nat.le_trans h.hn f.next,h.or.keep λc hc hp=>f.old c (XL hc h.hn) hp om,hw,hg⟩
def pQ{n pb sb:Nat}{s:Bs}{f:Nat}(ihr:oC n pb s f 5){H:aa}{w:Wd}{g:Nat}{x y:Int}{orv:ae}{r:iU Ex}(A:PA n pb s H w g x y orv)(hr:pE s f (.rule 5) g w=some r){l:List ae}(hl:be H sb l)(hl9:l.length=9)(hs:n<=sb)(hsb:sb<H.next){i:Nat}(hi:i+4<=9) :
  aq Tryz.prog aF 68 [ah pb 11 0,ah sb 9 i] H λu H'=>(match r with
   | .ok (e,w')=>u=.bool true/\∃xs,be H' sb (l.take i++(xs++l.drop (i+4)))/\mL (In H.next H'.next) H' e xs/\be H' pb (du s w' g x y orv)/\rV s w'
   | .error e=>u=.bool false/\∃w',be H' pb (du s w' g e.1 e.2 orv))/\Fs pb sb H H':=by
 refine ak rfl V8 rfl ?_;have lo:=A.lor;have hlt:=A.lt;have hpn:=A.hpb;simp only[c68,sC,seval,az,aA,lo];refine(ihr H w g x y orv orv r A A.or hr).mono ?_;rintro u H1 ⟨ho,F1⟩;have e1:=F1.next;cases r with
 |error e=>obtain⟨xs,w',rfl,x1,⟨x2,_⟩,r1⟩:=ho;obtain⟨H2,m2,r2,n2,k2⟩:=aC H1 [.int .u8 0,.str [],.int .i64 0,.slice none 0 (.known 0)] (n:=4) rfl;obtain⟨H3,m3,r3,n3,k3⟩:=am r2 (n:=4) rfl x1 x2;simp only[sC,seval,bv,bu,m2,m3];exact⟨⟨tt,w',r1.same (by rw[k3 _ om,k2 _ om])⟩,om,λc h1 h2 _=>by rw[k3 c om,k2 c om,F1.old c h1 h2]⟩
 |ok p=>obtain⟨e,w'⟩:=p;obtain⟨xs,rfl,hx,r1,o1⟩:=ho;obtain⟨H2,m2,r2,n2,k2⟩:=aC H1 [.int .u8 0,.str [],.int .i64 0,.slice none 0 (.known 0)] (n:=4) rfl;obtain⟨H3,m3,r3,n3,k3⟩:=am r2 (n:=4) rfl hx.len hx.one;have l3:=aw r3 hx.len;obtain⟨H4,m4,r4,n4,k4⟩:=oO (hl.same (H':=H3) (by rw[k3 _ om,k2 _ om,F1.old sb hsb om])) hl9 (i:=i) (k:=4) hi hx.len hx.one rfl;simp only[sC,seval,bv,bu,m2,m3,l3,az,m4];refine⟨⟨tt,xs,r4,hx.mono λc hc=>?_,r1.same (by rw[k4 _ om,k3 _ om,k2 _ om]),o1⟩,om,λc h1 h2 h3=>by rw[k4 c h3,k3 c om,k2 c om,F1.old c h1 h2]⟩;have h1:=hc.1;have h2:=hc.2;exact⟨⟨h1,om⟩,by rw[k4 c om,k3 c om,k2 c om]⟩
def mN(k:Int)(S:Bs)(xs:List ae)(vb ve:ae)(line:Int):List ae:=.int .u8 k::.str S::(xs++[vb,ve,.int .i64 line])
abbrev Zx:List ae:=[.int .u8 0,.str [],.int .i64 0,.slice none 0 (.known 0)]
def tQ{n pb sb:Nat}{s:Bs}{f:Nat}(ihr:oC n pb s f 5){H:aa}{w:Wd}{g:Nat}{x y:Int}{orv:ae}{k line:Nat}{r:iU (List St)}(A:PA n pb s H w g x y orv)(hr:nE s (pE s f) k line g w=some r)(hl:be H sb (mN k [] Zx aX aX line))(hs:n<=sb)(hsb:sb<H.next) :
  aq Tryz.prog aF 65 [ah pb 11 0,ah sb 9 0] H λu H'=>(match r with
   | .ok (l,w')=>u=.bool true/\∃e xs,l=[.mk k w.S e [] [] line]/\be H' sb (mN k w.S xs aX aX line)/\mL (In H.next H'.next) H' e xs/\be H' pb (du s w' g x y orv)/\rV s w'
   | .error e=>u=.bool false/\∃w',be H' pb (du s w' g e.1 e.2 orv))/\Fs pb sb H H':=by
 refine ak rfl Wb rfl ?_;unfold nE at hr;have hlt:=A.lt;have hpn:=A.hpb;have l1:al false 1 H (ah pb 11 1)=some (.int .u8 (w.k:Int)):=aj A.row rfl rfl;have l2:al false 1 H (ah pb 11 2)=some (.str w.S):=aj A.row rfl rfl;by_cases hk:w.k=2
 case neg=>have hk':¬(w.k:Int)=2:=om;rw[if_neg hk]at hr;simp only[tB,sJ]at hr;subst hr;simp only[W7,sC,seval,az,aA,fld0,l1,hk'];refine(jL A.row 101).mono ?_;rintro _ H1 ⟨rfl,r1,F1⟩;simp only[sC,seval];exact⟨⟨tt,w,r1⟩,.of F1⟩
 have hk':(w.k:Int)=2:=om;rw[if_pos hk]at hr;obtain⟨H1,m1,r1,n1,k1⟩:=bQ hl (n:=9) rfl (i:=1) om (x:=.str w.S) rfl (l':=mN k w.S Zx aX aX line) rfl;have F1:Fs pb sb H H1:=⟨om,λc _ _ h=>k1 c h⟩;have A1:=A.fws hs F1 (A.row.same (k1 pb om)) A.ok A.hg;simp only[W7,sC,seval,az,aA,fld0,l1,hk',l2,m1];refine(cG A1.row A1.lt A1.en).mono ?_;rintro u H2 ⟨ho,F2⟩;have e2:=F2.next;rcases dJ hr with⟨e,he,rfl⟩|⟨w1,he,hr⟩
 ·rw[he]at ho;obtain⟨rfl,r2⟩:=ho;simp only[sC,seval];exact⟨⟨tt,w,r2⟩,F1.trans (.of F2)⟩
 rw[he]at ho;obtain⟨rfl,r2⟩:=ho;have A2:=A1.fwd F2 r2 (bJ he A.ok om).1 A.hg;simp only[sC,seval];refine(eQ A2.row A2.lt A2.en [61]).mono ?_;rintro u H3 ⟨ho,F3⟩;have e3:=F3.next;have F13:=F2.trans F3;rcases dJ hr with⟨e,he,rfl⟩|⟨w2,he,hr⟩
 ·rw[he]at ho;obtain⟨rfl,r3⟩:=ho;simp only[sC,seval];exact⟨⟨tt,w1,r3⟩,F1.trans (.of F13)⟩
 rw[he]at ho;obtain⟨rfl,r3⟩:=ho;have A3:=A2.fwd F3 r3 (dH he A2.ok).2.2.1 A.hg;have q3:=r1.same (F13.old sb om om);obtain⟨r0,hr0⟩:∃r0,pE s f (.rule 5) g w2=some r0:=by
  rcases dw hr with⟨e,he,rfl⟩|⟨e1,w3,he,_⟩
  ·exact⟨_,he⟩
  ·exact⟨_,he⟩
 simp only[sC,seval,az,aA];refine(pQ ihr A3 hr0 q3 rfl hs om (i:=2) om).mono ?_;rintro u H4 ⟨ho,F4⟩;have e4:=F4.next;have F04:=(F1.trans (.of F13)).trans F4;rcases dw hr with⟨e,he,rfl⟩|⟨e1,w3,he,hr⟩
 ·rw[hr0]at he;simp only[sJ]at he;subst he;obtain⟨rfl,w',r4⟩:=ho;simp only[sC,seval];exact⟨⟨tt,w',r4⟩,F04⟩
 rw[hr0]at he;simp only[sJ]at he;subst he;obtain⟨rfl,xs,q4,hx,r4,o4⟩:=ho;have A4:=A3.fws hs F4 r4 o4 A.hg;simp only[sC,seval];refine(eQ A4.row A4.lt A4.en [59]).mono ?_;rintro u H5 ⟨ho,F5⟩;rcases dJ hr with⟨e,he,rfl⟩|⟨w4,he,hr⟩
 ·rw[he]at ho;obtain⟨rfl,r5⟩:=ho;simp only[sC,seval];exact⟨⟨tt,w3,r5⟩,F04.trans (.of F5)⟩
 rw[he]at ho;obtain⟨rfl,r5⟩:=ho;simp only[dC,sJ]at hr;subst hr;have e5:=F5.next;simp only[sC,seval];refine⟨⟨tt,e1,xs,rfl,q4.same (F5.old _ om om),hx.mono λc hc=>?_,r5,(dH he o4).2.2.1⟩,F04.trans (.of F5)⟩;have h1:=hc.1;have h2:=hc.2;exact⟨⟨om,om⟩,F5.old c h2 om⟩
open Go.Abs Go.Abs.S
def Xq(pb:Nat)(s:Bs)(g:Nat)(x y:Int)(orv:ae)(H:aa)(r:iU (List St))(u:ae)(H':aa):Prop:=
 (match r with
 | .ok (l,w')=>∃st xs,l=[st]/\u=.tuple [.agg xs,.bool true]/\uU (In H.next H'.next) H' st xs/\be H' pb (du s w' g x y orv)/\rV s w'
 | .error e=>u=.tuple [.agg Z9,.bool false]/\∃w',be H' pb (du s w' g e.1 e.2 orv))/\Fp pb H H'
def M4(n pb:Nat)(s:Bs)(f:Nat):Prop:=∀(H:aa) (w:Wd) (g:Nat) (x y:Int) (orv:ae) (r:iU (List St)),PA n pb s H w g x y orv->pS s f .stmt g w=some r->aq Tryz.prog aF 32 [ah pb 11 0] H (Xq pb s g x y orv H r)
def Il(n pb:Nat)(s:Bs)(f:Nat):Prop:=∀(H:aa) (w:Wd) (g:Nat) (x y:Int) (orv:ae) (r:iU (List St)) (sb i:Nat) (l:List ae),PA n pb s H w g x y orv->be H sb l->l.length=9->n<=sb->sb<H.next->l[i]?=some aX->pS s f .body g w=some r ->
  aq Tryz.prog aF 67 [ah pb 11 0,ah sb 9 i] H λu H'=>(match r with
   | .ok (out,w')=>u=.bool true/\∃v C,be H' sb (l.set i v)/\eM (In H.next H'.next) H' 9 v out.length C/\dY (In H.next H'.next) H' out C/\be H' pb (du s w' g x y orv)/\rV s w'
   | .error e=>u=.bool false/\∃w',be H' pb (du s w' g e.1 e.2 orv))/\Fs pb sb H H'
def KB{a b n m i j:Nat}(h:a≠b):mV .apart [ah a n i,ah b m j]=some (.bool true):=by
 show(bif Jx (ah a n i) (ah b m j)then some (ae.bool true)else none)=_;have:Jx (ah a n i) (ah b m j)=true:=by simp only[Jx,cg,ah];rw[show Nat.beq a b=false by rw[ch];exact decide_eq_false h];rfl
 rw[this];rfl
def qv.len{n:Nat}{H:aa}{v:ae}{l:List St}(h:qv n H v l):ez false v=some (.int .i64 (l.length:Int)):=by obtain⟨C,h1,_⟩:=h;exact h1.len
def qv.aeq{n:Nat}{H:aa}{v:ae}{l:List St}(h:qv n H v l):aeq v v=true:=by obtain⟨C,h1,_⟩:=h.sl;exact h1.aeq
def Km{l:List ae}{i:Nat}{x:ae}(h:l[i]?=some x):l.set i x=l:=by
 apply List.ext_getElem?;intro j;rw[List.getElem?_set];by_cases e:i=j
 ·subst e;have:=(Xy.1 h).1;rw[if_pos rfl,if_pos this,h]
 ·rw[if_neg e]
def HD{n pb:Nat}{s:Bs}{f:Nat}(hf:f<=1000000)(ihs:∀f',f'<f->M4 n pb s f'):Il n pb s f:=by
 intro H w g x y orv r sb i l A hl hl9 hs hsb hi hr;refine ak rfl V9 rfl ?_;have hlt:=A.lt;have hpn:=A.hpb;have hi9:i<9:=by have:=(Xy.1 hi).1;omega
 cases f with
 |zero=>simp[pS]at hr
 |succ f=>
 rw[qL]at hr;simp only[nj]at hr;simp only[c67,sC,seval];refine(eQ A.row hlt A.en [123]).mono ?_;rintro u H1 ⟨ho,F1⟩;have e1:=F1.next;rcases dJ hr with⟨e,he,rfl⟩|⟨w1,he,hr⟩
 ·rw[he]at ho;obtain⟨rfl,r1⟩:=ho;simp only[sC,seval];exact⟨⟨tt,w,r1⟩,.of F1⟩
 rw[he]at ho;obtain⟨rfl,r1⟩:=ho;have A1:=A.fwd F1 r1 (dH he A.ok).2.2.1 A.hg;simp only[sC,seval];refine aM (λm (T:bZ) H'=>∃out w' v,T 0=ah pb 11 0/\T 1=ah sb 9 i/\qv H.next H' v out/\out.length+m<=f/\PA n pb s H' w' g x y orv/\be H' sb (l.set i v)/\Fs pb sb H H'/\pS s m (.more out) g w'=some r) f
  ⟨[],w1,aX,by simp only[sC,seval],by simp only[sC,seval],qv.nil _ _,by simp,A1,by rw[Km hi];exact hl.same (F1.old sb hsb om),.of F1,hr⟩ ?_
 rintro m T H2 ⟨out,w',v,t0,t1,G2,hm,A2,q2,F2,hp⟩;have e2:=F2.next;cases m with
 |zero=>simp[pS]at hp
 |succ m=>
 rw[qL]at hp;simp only[nj]at hp;have bs:=lu (.str []) H2 (x:=.str [125]) rfl;have A3:=A2.push (.cells [.str [125]] 0 false);have F3:Fp pb H2 (H2.push (.cells [.str [125]] 0 false)):=oP _;simp only[sC,seval,t0,t1,bs];refine(i6 A3.row (oS H2 [125]) (by simp)).mono ?_;rintro _ _ ⟨rfl,rfl⟩;generalize H2.push (.cells [.str [125]] 0 false)=H3 at *;have e3:=F3.next;have F03:=F2.trans (.of F3);have q3:=q2.same (F3.old sb om om);have G3:qv H.next H3 v out:=G2.keep e3 λc hc=>F3.old c hc.2 (by have:=hc.1;omega);cases hs2:mU w' [[125]]with
 |true=>
  rw[if_pos hs2]at hp;simp only[sC,seval,t0];refine(cG A3.row A3.lt A3.en).mono ?_;rintro u H4 ⟨ho,F4⟩;have e4:=F4.next;rcases dJ hp with⟨e,he,rfl⟩|⟨w2,he,hp⟩
  ·rw[he]at ho;obtain⟨rfl,r4⟩:=ho;simp only[sC,seval];exact⟨⟨tt,w',r4⟩,F03.trans (.of F4)⟩
  ·rw[he]at ho;obtain⟨rfl,r4⟩:=ho;simp only[dC,sJ]at hp;subst hp;have G4:=G3.keep e4 λc hc=>F4.old c hc.2 (by have:=hc.1;omega);obtain⟨C,z1,z2⟩:=G4.sl;simp only[sC,seval];exact⟨⟨tt,v,C,q3.same (F4.old sb om om),z1,z2,r4,(bJ he A3.ok (by rw[jK hs2];omega)).1⟩,F03.trans (.of F4)⟩
 |false=>
 rw[if_neg (by rw[hs2];simp)]at hp;obtain⟨r0,hr0⟩:∃r0,pS s m .stmt g w'=some r0:=by
  rcases dw hp with⟨e,he,rfl⟩|⟨e1,w2,he,_⟩
  ·exact⟨_,he⟩
  ·exact⟨_,he⟩
 simp only[sC,seval,t0];refine(ihs m om H3 w' g x y orv r0 A3 hr0).mono ?_;rintro u H4 ⟨ho,F4⟩;have e4:=F4.next;have F04:=F03.trans (.of F4);rcases dw hp with⟨e,he,rfl⟩|⟨st',w2,he,hp⟩
 ·rw[hr0]at he;simp only[sJ]at he;subst he;obtain⟨rfl,w2,r4⟩:=ho;obtain⟨H5,m5,r5,n5,k5⟩:=aC H4 [.int .u8 0,.str [],.int .u8 0,.str [],.int .i64 0,.slice none 0 (.known 0),.slice none 0 (.known 0),.slice none 0 (.known 0),.int .i64 0] (n:=9) rfl;obtain⟨H6,m6,r6,n6,k6⟩:=am r5 (n:=9) rfl (xs:=Z9) rfl rfl;simp only[sC,seval,bv,bu,m5,m6];exact⟨⟨tt,w2,r4.same (by rw[k6 _ om,k5 _ om])⟩,om,λc h1 h2 h3=>by rw[k6 c om,k5 c om,F04.old c h1 h2 h3]⟩
 rw[hr0]at he;simp only[sJ]at he;subst he;obtain⟨st,xs,rfl,rfl,hx,r4,o4⟩:=ho;obtain⟨H5,m5,r5,n5,k5⟩:=aC H4 [.int .u8 0,.str [],.int .u8 0,.str [],.int .i64 0,.slice none 0 (.known 0),.slice none 0 (.known 0),.slice none 0 (.known 0),.int .i64 0] (n:=9) rfl;obtain⟨H6,m6,r6,n6,k6⟩:=am r5 (n:=9) rfl hx.len hx.one;have k64:∀c,c<H4.next->H6.get c=H4.get c:=λc hc=>by rw[k6 c om,k5 c om]
 have l6:=aw r6 hx.len;have F06:Fs pb sb H H6:=F04.trans ⟨om,λc h1 _ _=>k64 c h1⟩;have q6:=q3.same (H':=H6) (by rw[k64 sb om,F4.old sb om om]);have lv:al false 1 H6 (ah sb 9 i)=some v:=aj q6 (by rw[List.length_set];exact hl9) (by rw[List.getElem?_set];simp[hl9,hi9]);have G6:qv H.next H6 v out:=G3.keep om λc hc=>by have h1:=hc.1;have h2:=hc.2;rw[k64 c om,F4.old c h2 om]
 have hx6:uU (In H3.next H6.next) H6 st xs:=hx.mono λc hc=>⟨⟨hc.1,by have:=hc.2;omega⟩,k64 c hc.2⟩;have hbs:bx v (In H.next H3.next):=by obtain⟨C,_,q,_⟩:=G3;exact q
 have bm:=ot (z:=[.int .u8 0,.str [],.int .u8 0,.str [],.int .i64 0,.slice none 0 (.known 0),.slice none 0 (.known 0),.slice none 0 (.known 0),.int .i64 0]) (xs:=[.int .u8 0,.str [],.int .u8 0,.str [],.int .i64 0,.slice none 0 (.known 0),.slice none 0 (.known 0),.slice none 0 (.known 0),.int .i64 0]) (m:=9) H6 rfl rfl;obtain⟨v',H7,H8,b,lim,a7,i7,s7,o7,G8,hbn,e67,e78,fr7,neb,fr8⟩:=G6.pushZ hx6 om om (hbs.mono λc hc=>hc.2) om;have bsb:bx v (sb≠·):=hbs.mono λc hc=>by have:=hc.1;omega
 have bpb:bx v (pb≠·):=hbs.mono λc hc=>by have:=hc.1;omega
 have nsb:sb≠b:=om;have npb:pb≠b:=om;obtain⟨H9,m9,r9,n9,k9⟩:=bQ (q6.same (fr8 sb om bsb)) (n:=9) (by rw[List.length_set];exact hl9) (i:=i) hi9 (x:=v') o7 (l':=l.set i v') (by rw[List.set_set]);have lvP:al false 1 (H6.push (.cells Z9 0 false)) (ah sb 9 i)=some v:=aj (q6.same (aB om)) (by rw[List.length_set];exact hl9) (by rw[List.getElem?_set];simp[hl9,hi9]);have lxP:al true 9 (H6.push (.cells Z9 0 false)) (ah H4.next 9 0)=some (.agg xs):=aw (r6.same (aB om)) hx.len;obtain⟨Hr,hHr⟩:∃J,J=H6.push (.cells [] 0 false):=⟨_,rfl⟩;have fl:kj (.fill H6.next (.lit 1 [.int .u8 0,.str [],.int .u8 0,.str [],.int .i64 0,.slice none 0 (.known 0),.slice none 0 (.known 0),.slice none 0 (.known 0),.int .i64 0] [(0,9)])) Hr [.agg [.int .u8 0,.str [],.int .u8 0,.str [],.int .i64 0,.slice none 0 (.known 0),.slice none 0 (.known 0),.slice none 0 (.known 0),.int .i64 0]]=some (pU H6 9,H6.push (.cells [.int .u8 0,.str [],.int .u8 0,.str [],.int .i64 0,.slice none 0 (.known 0),.slice none 0 (.known 0),.slice none 0 (.known 0),.int .i64 0] 0 false)):=by rw[hHr];exact LM (H:=H6) (len:=1) (z:=Z9) (ofs:=[(0,9)]) (l:=[.agg Z9]) (xs:=Z9) rfl
 have lvR:al false 1 Hr (ah sb 9 i)=some v:=by rw[hHr];exact aj (q6.same (aB om)) (by rw[List.length_set];exact hl9) (by rw[List.getElem?_set];simp[hl9,hi9])
 have lxR:al true 9 Hr (ah H4.next 9 0)=some (.agg xs):=by rw[hHr];exact aw (r6.same (aB om)) hx.len
 simp only[Z9]at a7 lvP lxP;have ln:=G6.len;simp only[sC,seval,bv,bu,m5,m6];refine er ?_;simp only[aH,dT,bp,iE,jF,<- hHr];simp only[sR,sC,seval,t0,t1,az,lvR,lxR,ln,fl,a7,i7,s7,m9];simp only[ci,cj,bP,cm,cQ,and_true,true_and,List.map_cons,List.map_nil,sC,seval,t0,t1];refine⟨⟨⟨_,rfl,λ_=>⟨_,lvP,G6.aeq⟩⟩,⟨_,rfl,λ_=>⟨_,lxP,by simpa[aeq]using hx.aeqs⟩⟩⟩,?_⟩;simp only[sC,seval,KB nsb];have F9:Fs pb sb H H9:=⟨om,λc h1 h2 h3=>by rw[k9 c h3,fr8 c om (hbs.mono λd hd=>by have:=hd.1;omega),F06.old c h1 h2 h3]⟩
 refine⟨m,om,out++[st],w2,v',by simp only[sC,seval,t0],by simp only[sC,seval,t1],G8.keep om λc hc=>k9 c (by have:=hc.1;omega),by simp;omega,A.fws hs F9 ?_ o4 A.hg,r9,F9,hp⟩;exact r4.same (by rw[k9 pb om,fr8 pb om bpb,k64 pb om])
open Go.Abs Go.Abs.S
def Jt(s:Bs)(pe:NT->Nat->Wd->Option (iU Ex))(rec:NS->Nat->Wd->Option (iU (List St)))(g:Nat)(w:Wd):Option (iU (Ex×List St)):=nD (fu s [40] w) λw1=>xq (pe (.rule 5) g w1) λe w2=>nD (fu s [41] w2) λw3=>xq (rec .body g w3) λl w4=>dC (e,l) w4
def y8(s:Bs)(pe:NT->Nat->Wd->Option (iU Ex))(rec:NS->Nat->Wd->Option (iU (List St)))(g:Nat)(w:Wd)(f:Ex->List St->Wd->Option (iU (List St))):ow s pe rec g w f=xq (Jt s pe rec g w) λp w4=>f p.1 p.2 w4:=by
 unfold ow Jt;cases fu s [40] w with
 |error e=>rfl
 |ok w1=>
  simp only[nD];cases pe (.rule 5) g w1 with
  |none=>rfl
  |some o=>
   cases o with
   |error e=>rfl
   |ok p=>
    obtain⟨e,w2⟩:=p;simp only[xq];cases fu s [41] w2 with
    |error e=>rfl
    |ok w3=>
     simp only[nD];cases rec .body g w3 with
     |none=>rfl
     |some o=>
      cases o with
      |error e=>rfl
      |ok p=>obtain⟨l,w4⟩:=p;rfl
def tR{n pb sb:Nat}{s:Bs}{f:Nat}(ihr:oC n pb s f 5)(ihb:Il n pb s f){H:aa}{w:Wd}{g:Nat}{x y:Int}{orv:ae}{k line:Nat}{r:iU (Ex×List St)}(A:PA n pb s H w g x y orv)(hr:Jt s (pE s f) (pS s f) g w=some r)(hl:be H sb (mN k [] Zx aX aX line))(hs:n<=sb)(hsb:sb<H.next) :
  aq Tryz.prog aF 66 [ah pb 11 0,ah sb 9 0] H λu H'=>(match r with
   | .ok (p,w')=>u=.bool true/\∃xs v C,be H' sb (mN k [] xs v aX line)/\mL (In H.next H'.next) H' p.1 xs/\eM (In H.next H'.next) H' 9 v p.2.length C/\dY (In H.next H'.next) H' p.2 C/\be H' pb (du s w' g x y orv)/\rV s w'
   | .error e=>u=.bool false/\∃w',be H' pb (du s w' g e.1 e.2 orv))/\Fs pb sb H H':=by
 refine ak rfl Wa rfl ?_;unfold Jt at hr;have hlt:=A.lt;have hpn:=A.hpb;simp only[c66,sC,seval];refine(eQ A.row A.lt A.en [40]).mono ?_;rintro u H3 ⟨ho,F3⟩;have e3:=F3.next;rcases dJ hr with⟨e,he,rfl⟩|⟨w2,he,hr⟩
 ·rw[he]at ho;obtain⟨rfl,r3⟩:=ho;simp only[sC,seval];exact⟨⟨tt,w,r3⟩,.of F3⟩
 rw[he]at ho;obtain⟨rfl,r3⟩:=ho;have A3:=A.fwd F3 r3 (dH he A.ok).2.2.1 A.hg;have q3:=hl.same (F3.old sb om om);obtain⟨r0,hr0⟩:∃r0,pE s f (.rule 5) g w2=some r0:=by
  rcases dw hr with⟨e,he,rfl⟩|⟨e1,w3,he,_⟩
  ·exact⟨_,he⟩
  ·exact⟨_,he⟩
 simp only[sC,seval,az,aA];refine(pQ ihr A3 hr0 q3 rfl hs om (i:=2) om).mono ?_;rintro u H4 ⟨ho,F4⟩;have e4:=F4.next;have F04:Fs pb sb H H4:=(Fs.of F3).trans F4;rcases dw hr with⟨e,he,rfl⟩|⟨e1,w3,he,hr⟩
 ·rw[hr0]at he;simp only[sJ]at he;subst he;obtain⟨rfl,w',r4⟩:=ho;simp only[sC,seval];exact⟨⟨tt,w',r4⟩,F04⟩
 rw[hr0]at he;simp only[sJ]at he;subst he;obtain⟨rfl,xs,q4,hx,r4,o4⟩:=ho;have q4':be H4 sb (mN k [] xs aX aX line):=q4;have A4:=A3.fws hs F4 r4 o4 A.hg;simp only[sC,seval];refine(eQ A4.row A4.lt A4.en [41]).mono ?_;rintro u H5 ⟨ho,F5⟩;have e5:=F5.next;have F05:=F04.trans (.of F5);rcases dJ hr with⟨e,he,rfl⟩|⟨w4,he,hr⟩
 ·rw[he]at ho;obtain⟨rfl,r5⟩:=ho;simp only[sC,seval];exact⟨⟨tt,w3,r5⟩,F05⟩
 rw[he]at ho;obtain⟨rfl,r5⟩:=ho;have A5:=A4.fwd F5 r5 (dH he o4).2.2.1 A.hg;have q5:=q4'.same (F5.old _ om om);obtain⟨r1,hr1⟩:∃r1,pS s f .body g w4=some r1:=by
  rcases dw hr with⟨e,he,rfl⟩|⟨e1,w3,he,_⟩
  ·exact⟨_,he⟩
  ·exact⟨_,he⟩
 have l9:(mN (k:Int) [] xs aX aX line).length=9:=by simp[mN,hx.len]
 obtain⟨a,b,c,d,rfl⟩:∃a b c d,xs=[a,b,c,d]:=by
  have:=hx.len
  match xs,this with
  | [a,b,c,d],_=>exact⟨a,b,c,d,rfl⟩
 simp only[sC,seval,az,aA];refine(ihb H5 w4 g x y orv r1 sb 6 _ A5 q5 l9 hs om rfl hr1).mono ?_;rintro u H6 ⟨ho,F6⟩;have e6:=F6.next;have F06:=F05.trans F6;rcases dw hr with⟨e,he,rfl⟩|⟨out,w5,he,hr⟩
 ·rw[hr1]at he;simp only[sJ]at he;subst he;obtain⟨rfl,w',r6⟩:=ho;simp only[sC,seval];exact⟨⟨tt,w',r6⟩,F06⟩
 rw[hr1]at he;simp only[sJ]at he;subst he;obtain⟨rfl,v,C,q6,z1,z2,r6,o6⟩:=ho;simp only[dC,sJ]at hr;subst hr;simp only[sC,seval];have km:∀c,In H5.next H6.next c->In H.next H6.next c/\H6.get c=H6.get c:=λc hc=>⟨⟨by have:=hc.1;omega,hc.2⟩,rfl⟩;refine⟨⟨tt,[a,b,c,d],v,C,q6,hx.mono λc hc=>?_,z1.mono km,z2.mono km,r6,o6⟩,F06⟩;have h1:=hc.1;have h2:=hc.2;exact⟨⟨om,om⟩,by rw[F6.old c om om om,F5.old c h2 om]⟩
def CN{H:aa}{pb c:Nat}{s:Bs}{w:Wd}{g:Nat}{x y:Int}{orv:ae}(hc:be H c [ah pb 11 0])(hr:be H pb (du s w ((g+1:Nat):Int) x y orv))(hg:g<=1000):aq Tryz.prog aF 3135 [ah c 1 0] H λ_ H'=>be H' pb (du s w (g:Int) x y orv)/\H'.next=H.next/\∀k,k≠pb->H'.get k=H.get k:=by refine ak rfl Qx rfl ?_;have lc:al false 1 H (ah c 1 0)=some (ah pb 11 0):=aj hc rfl rfl;have l7:al false 1 H (ah pb 11 7)=some (.int .i64 ((g+1:Nat):Int)):=aj hr rfl rfl;have wk:IntKind.i64.wrap (((g+1:Nat):Int)-1)=(g:Int):=iP;obtain⟨H5,m5,r5,n5,k5⟩:=bQ hr (n:=11) rfl (i:=7) om (x:=.int .i64 (g:Int)) rfl (l':=du s w (g:Int) x y orv) rfl;simp only[Qd,sC,seval,lc,az,aA,l7,wk,m5];exact⟨[],rfl,r5,n5,k5⟩
def Vo:aJ [.int .u8 0,.str [],.int .u8 0,.str [],.int .i64 0,.slice none 0 (.known 0),.slice none 0 (.known 0),.slice none 0 (.known 0),.int .i64 0] []=some (.agg [.int .u8 0,.str [],.int .u8 0,.str [],.int .i64 0,.slice none 0 (.known 0),.slice none 0 (.known 0),.slice none 0 (.known 0),.int .i64 0]):=_root_.id rfl
def Vn(n:Int):aJ [.int .u8 0,.str [],.int .u8 0,.str [],.int .i64 0,.slice none 0 (.known 0),.slice none 0 (.known 0),.slice none 0 (.known 0),.int .i64 0] [(8,1,.int .i64 n)]=some (.agg (mN 0 [] Zx aX aX n)):=_root_.id rfl
def se{P:Nat->Prop}{H:aa}{k line:Nat}{S:Bs}{e:Ex}{xs:List ae}{vb ve:ae}{Cb Ce:List ae}{body els:List St}(h1:mL P H e xs)(h2:eM P H 9 vb body.length Cb)(h3:dY P H body Cb)(h4:eM P H 9 ve els.length Ce)(h5:dY P H els Ce):uU P H (.mk k S e body els line) (mN k S xs vb ve line):=⟨xs,vb,Cb,ve,Ce,rfl,h1,h2,h3,h4,h5⟩
def NM{n pb:Nat}{s:Bs}{f:Nat}(ihr:oC n pb s f 5)(ihb:Il n pb s f):M4 n pb s (f+1):=by
 intro H w g x y orv r A hr;refine ak rfl WB rfl ?_;rw[qL]at hr;simp only[nj]at hr;have hlt:=A.lt;have hpn:=A.hpb;have hnn:=A.hn;obtain⟨H1,m1,r1,n1,k1⟩:=aC H [ah pb 11 0] (n:=1) rfl;obtain⟨H2,m2,r2,n2,k2⟩:=aC H1 [.int .u8 0,.str [],.int .u8 0,.str [],.int .i64 0,.slice none 0 (.known 0),.slice none 0 (.known 0),.slice none 0 (.known 0),.int .i64 0] (n:=9) rfl;have F2:Fp pb H H2:=⟨om,λc hc _=>by rw[k2 c om,k1 c om]⟩;have A2:=A.fwd F2 (A.row.same (by rw[k2 pb om,k1 pb om])) A.ok A.hg;have c1:be H2 H.next [ah pb 11 0]:=r1.same (k2 _ om);have l1:∀{K:aa},Fp pb H2 K->al false 1 K (ah H.next 1 0)=some (ah pb 11 0):=λq=>aj (c1.same (q.old _ om om)) rfl rfl;have l1':=l1 (Fp.refl pb H2);have b0:=Vo;by_cases hg:200<=g
 ·rw[if_pos hg]at hr;simp only[tB,sJ]at hr;subst hr;simp only[Xf,sC,seval,fH,m1,m2,l1'];refine(yu A2.row hg).mono ?_;rintro _ H3 ⟨rfl,r3,F3⟩;obtain⟨H4,m4,r4,n4,k4⟩:=am (r2.same (F3.old _ om om)) (n:=9) rfl (xs:=Z9) rfl rfl;have l4:=aw r4 (n:=9) rfl;have f3:=F3.next;simp only[sC,seval,b0,m4,l4,dU,aQ];exact⟨⟨tt,w,r3.same (k4 _ om)⟩,om,λc hc hp=>by rw[k4 c om,F3.old c om hp,F2.old c hc hp]⟩
 rw[if_neg hg]at hr;simp only[Xf,sW,sL,lC,kB,rY,sB,seval,fH,m1,m2,l1'];refine(yr A2.row hg).mono ?_;rintro _ H3 ⟨rfl,r3,F3,n3⟩;have A3:=A2.fwd F3 r3 A.ok om;have l3:=l1 F3;have ll:al false 1 H3 (ah pb 11 4)=some (.int .i64 (w.line:Int)):=aj A3.row rfl rfl;obtain⟨H4,m4,r4,n4,k4⟩:=aC H3 [.int .u8 0,.str [],.int .u8 0,.str [],.int .i64 0,.slice none 0 (.known 0),.slice none 0 (.known 0),.slice none 0 (.known 0),.int .i64 0] (n:=9) rfl;obtain⟨H5,m5,r5,n5,k5⟩:=am r4 (n:=9) rfl (xs:=mN 0 [] Zx aX aX w.line) rfl rfl;have F35:Fp pb H3 H5:=⟨om,λc hc _=>by rw[k5 c om,k4 c om]⟩;have A5:=A3.fwd F35 (r3.same (by rw[k5 pb om,k4 pb om])) A.ok om;have F25:=F3.trans F35;obtain⟨sb,hsb⟩:∃sb,sb=H3.next:=⟨_,rfl⟩;rw[<- hsb]at m4 r4 k4 m5 r5 k5;have bl:=Vn (w.line:Int);simp only[sW,sL,lC,kB,rY,sB,seval,l3,az,aA,ll,bl,m4,m5];rw[ip];have l1s:∀{K:aa},Fs pb sb H5 K->al false 1 K (ah H.next 1 0)=some (ah pb 11 0):=λq=>aj (c1.same (by rw[q.old _ om om om,F25.old _ om om])) rfl rfl;refine im (λ(T:bZ) H'=>T 1=ah H.next 1 0/\T 2=ah H1.next 9 0/\T 4=ah sb 9 0/\Fs pb sb H5 H'/\((∃st w' xs,r=.ok ([st],w')/\T 5=.bool true/\be H' sb xs/\uU (In H5.next H'.next) H' st xs/\be H' pb (du s w' ((g+1:Nat):Int) x y orv)/\rV s w')∨∃e w',r=.error e/\T 5=.bool false/\be H' pb (du s w' ((g+1:Nat):Int) e.1 e.2 orv))) (cU _ _) ?_ ?_;rotate_left
 ·rintro T H6 ⟨t1,t2,t4,F6,⟨st,w',xs,rfl,t5,rx,hx,rp,hw⟩|⟨e,w',rfl,t5,rp⟩⟩
  ·have e6:=F6.next;have lx:=aw rx hx.len;obtain⟨H7,m7,r7,n7,k7⟩:=am (H:=H6) (b:=H1.next) (r2.same (by rw[F6.old _ om om om,F25.old _ om om])) (n:=9) rfl hx.len hx.one;simp only[sC,seval,t1,t2,t4,t5,lx,m7];refine(CN (c1.same (by rw[k7 _ om,F6.old _ om om om,F25.old _ om om])) (rp.same (k7 _ om)) om).mono ?_;rintro _ H8 ⟨r8,n8,k8⟩;have l8:=aw (r7.same (k8 _ om)) hx.len;simp only[sC,seval,t2,l8,dU,aQ];refine⟨⟨st,xs,rfl,tt,hx.mono λc hc=>?_,r8,hw⟩,om,λc hc hp=>by rw[k8 c hp,k7 c om,F6.old c om hp om,F25.old c om hp,F2.old c hc hp]⟩;have h1:=hc.1;have h2:=hc.2;exact⟨⟨om,om⟩,by rw[k8 c om,k7 c om]⟩
  ·have e6:=F6.next;obtain⟨H7,m7,r7,n7,k7⟩:=am (H:=H6) (b:=H1.next) (r2.same (by rw[F6.old _ om om om,F25.old _ om om])) (n:=9) rfl (xs:=Z9) rfl rfl;simp only[sC,seval,t1,t2,t4,t5,b0,m7];refine(CN (c1.same (by rw[k7 _ om,F6.old _ om om om,F25.old _ om om])) (rp.same (k7 _ om)) om).mono ?_;rintro _ H8 ⟨r8,n8,k8⟩;have l8:=aw (r7.same (k8 _ om)) (n:=9) rfl;simp only[sC,seval,t2,l8,dU,aQ];exact⟨⟨tt,w',r8⟩,om,λc hc hp=>by rw[k8 c hp,k7 c om,F6.old c om hp om,F25.old c om hp,F2.old c hc hp]⟩
 have hns:n<=sb:=om;have l5:=l1s (Fs.of (Fp.refl pb H5));simp only[sC,seval,l5];refine(jA A5.row [108,101,116]).mono ?_;rintro _ _ ⟨rfl,rfl⟩;cases ca:um w [108,101,116]with
 |true=>
  rw[if_pos ca]at hr;obtain⟨H6,m6,r6,n6,k6⟩:=bQ r5 (n:=9) rfl (i:=0) om (x:=.int .u8 1) rfl (l':=mN (1:Nat) [] Zx aX aX w.line) rfl;have F6:Fs pb sb H5 H6:=⟨om,λc _ _ h=>k6 c h⟩;have A6:=A5.fws hns F6 (A5.row.same (k6 pb om)) A.ok om;have l6:=l1s F6;simp only[sC,seval,fld0,m6,l6];refine(cG A6.row A6.lt A6.en).mono ?_;rintro u H7 ⟨ho,F7⟩;have e7:=F7.next;have F57:=F6.trans (.of F7);rcases dJ hr with⟨e,he,rfl⟩|⟨w1,he,hr⟩
  ·rw[he]at ho;obtain⟨rfl,r7⟩:=ho;simp only[sC,seval];exact⟨tt,tt,tt,F57,.inr ⟨e,w,rfl,tt,r7⟩⟩
  rw[he]at ho;obtain⟨rfl,r7⟩:=ho;have A7:=A6.fwd F7 r7 (bJ he A.ok (by rw[mJ ca];omega)).1 om;have l7:=l1s F57;simp only[sC,seval,l7];refine(tQ ihr A7 hr (r6.same (F7.old sb om om)) hns om).mono ?_;rintro u H8 ⟨ho,F8⟩;have F58:=F57.trans F8;cases r with
  |error e=>obtain⟨rfl,w',r8⟩:=ho;simp only[sC,seval];exact⟨tt,tt,tt,F58,.inr ⟨e,w',rfl,tt,r8⟩⟩
  |ok p=>obtain⟨l,w'⟩:=p;obtain⟨rfl,e,xs,rfl,q8,hx,r8,o8⟩:=ho;simp only[sC,seval];exact⟨tt,tt,tt,F58,.inl ⟨_,w',_,rfl,tt,q8,se (hx.mono λc hc=>⟨⟨by have:=hc.1;omega,hc.2⟩,rfl⟩) (.nil _ _ _) rfl (.nil _ _ _) rfl,r8,o8⟩⟩
 |false=>
 rw[if_neg (by rw[ca];simp)]at hr;simp only[sC,seval,l5];refine(jA A5.row [115,101,116]).mono ?_;rintro _ _ ⟨rfl,rfl⟩;cases cb:um w [115,101,116]with
 |true=>
  rw[if_pos cb]at hr;obtain⟨H6,m6,r6,n6,k6⟩:=bQ r5 (n:=9) rfl (i:=0) om (x:=.int .u8 2) rfl (l':=mN (2:Nat) [] Zx aX aX w.line) rfl;have F6:Fs pb sb H5 H6:=⟨om,λc _ _ h=>k6 c h⟩;have A6:=A5.fws hns F6 (A5.row.same (k6 pb om)) A.ok om;have l6:=l1s F6;simp only[sC,seval,fld0,m6,l6];refine(cG A6.row A6.lt A6.en).mono ?_;rintro u H7 ⟨ho,F7⟩;have e7:=F7.next;have F57:=F6.trans (.of F7);rcases dJ hr with⟨e,he,rfl⟩|⟨w1,he,hr⟩
  ·rw[he]at ho;obtain⟨rfl,r7⟩:=ho;simp only[sC,seval];exact⟨tt,tt,tt,F57,.inr ⟨e,w,rfl,tt,r7⟩⟩
  rw[he]at ho;obtain⟨rfl,r7⟩:=ho;have A7:=A6.fwd F7 r7 (bJ he A.ok (by rw[mJ cb];omega)).1 om;have l7:=l1s F57;simp only[sC,seval,l7];refine(tQ ihr A7 hr (r6.same (F7.old sb om om)) hns om).mono ?_;rintro u H8 ⟨ho,F8⟩;have F58:=F57.trans F8;cases r with
  |error e=>obtain⟨rfl,w',r8⟩:=ho;simp only[sC,seval];exact⟨tt,tt,tt,F58,.inr ⟨e,w',rfl,tt,r8⟩⟩
  |ok p=>obtain⟨l,w'⟩:=p;obtain⟨rfl,e,xs,rfl,q8,hx,r8,o8⟩:=ho;simp only[sC,seval];exact⟨tt,tt,tt,F58,.inl ⟨_,w',_,rfl,tt,q8,se (hx.mono λc hc=>⟨⟨by have:=hc.1;omega,hc.2⟩,rfl⟩) (.nil _ _ _) rfl (.nil _ _ _) rfl,r8,o8⟩⟩
 |false=>
 rw[if_neg (by rw[cb];simp)]at hr;simp only[sC,seval,l5];refine(jA A5.row [105,102]).mono ?_;rintro _ _ ⟨rfl,rfl⟩;cases cc:um w [105,102]with
 |true=>
  rw[if_pos cc]at hr;obtain⟨H6,m6,r6,n6,k6⟩:=bQ r5 (n:=9) rfl (i:=0) om (x:=.int .u8 3) rfl (l':=mN (3:Nat) [] Zx aX aX w.line) rfl;have F6:Fs pb sb H5 H6:=⟨om,λc _ _ h=>k6 c h⟩;have A6:=A5.fws hns F6 (A5.row.same (k6 pb om)) A.ok om;have l6:=l1s F6;simp only[sC,seval,fld0,m6,l6];refine(cG A6.row A6.lt A6.en).mono ?_;rintro u H7 ⟨ho,F7⟩;have e7:=F7.next;have F57:=F6.trans (.of F7);rcases dJ hr with⟨e,he,rfl⟩|⟨w1,he,hr⟩
  ·rw[he]at ho;obtain⟨rfl,r7⟩:=ho;simp only[sC,seval];exact⟨tt,tt,tt,F57,.inr ⟨e,w,rfl,tt,r7⟩⟩
  rw[he]at ho;obtain⟨rfl,r7⟩:=ho;have A7:=A6.fwd F7 r7 (bJ he A.ok (by rw[mJ cc];omega)).1 om;have l7:=l1s F57;rw[y8]at hr;obtain⟨r0,hr0⟩:∃r0,Jt s (pE s f) (pS s f) (g+1) w1=some r0:=by
   rcases dw hr with⟨e,he,rfl⟩|⟨e1,w3,he,_⟩
   ·exact⟨_,he⟩
   ·exact⟨_,he⟩
  simp only[sC,seval,l7];refine(tR ihr ihb A7 hr0 (r6.same (F7.old sb om om)) hns om).mono ?_;rintro u H8 ⟨ho,F8⟩;have e8:=F8.next;have F58:=F57.trans F8;rcases dw hr with⟨e,he,rfl⟩|⟨⟨e1,body⟩,w2,he,hr⟩
  ·rw[hr0]at he;simp only[sJ]at he;subst he;obtain⟨rfl,w',r8⟩:=ho;simp only[sC,seval];exact⟨tt,tt,tt,F58,.inr ⟨e,w',rfl,tt,r8⟩⟩
  rw[hr0]at he;simp only[sJ]at he;subst he;obtain⟨rfl,xs,v,C,q8,hx,z1,z2,r8,o8⟩:=ho;simp only at hx z1 z2 hr;have km:∀c,In H7.next H8.next c->In H5.next H8.next c/\H8.get c=H8.get c:=λc hc=>⟨⟨by have:=hc.1;omega,hc.2⟩,rfl⟩;have hx5:=hx.mono km;have z15:=z1.mono km;have z25:=z2.mono km;have A8:=A7.fws hns F8 r8 o8 om;have l8:=l1s F58;simp only[sC,seval,l8];refine(jA A8.row [101,108,115,101]).mono ?_;rintro _ _ ⟨rfl,rfl⟩;cases ce:um w2 [101,108,115,101]with
  |false=>rw[if_neg (by rw[ce];simp)]at hr;simp only[dC,sJ]at hr;subst hr;simp only[sC,seval];exact⟨tt,tt,tt,F58,.inl ⟨_,w2,_,rfl,tt,q8,se hx5 z15 z25 (.nil _ _ _) rfl,r8,o8⟩⟩
  |true=>
  rw[if_pos ce]at hr;simp only[sC,seval,l8];refine(cG A8.row A8.lt A8.en).mono ?_;rintro u H9 ⟨ho,F9⟩;have e9:=F9.next;have F59:=F58.trans (.of F9);rcases dJ hr with⟨e,he,rfl⟩|⟨w3,he,hr⟩
  ·rw[he]at ho;obtain⟨rfl,r9⟩:=ho;simp only[sC,seval];exact⟨tt,tt,tt,F59,.inr ⟨e,w2,rfl,tt,r9⟩⟩
  rw[he]at ho;obtain⟨rfl,r9⟩:=ho;have A9:=A8.fwd F9 r9 (bJ he o8 (by rw[mJ ce];omega)).1 om;have l9:=l1s F59;obtain⟨r1,hr1⟩:∃r1,pS s f .body (g+1) w3=some r1:=by
   rcases dw hr with⟨e,he,rfl⟩|⟨e1,w3,he,_⟩
   ·exact⟨_,he⟩
   ·exact⟨_,he⟩
  obtain⟨a,b,c,d,rfl⟩:∃a b c d,xs=[a,b,c,d]:=by
   have:=hx.len
   match xs,this with
   | [a,b,c,d],_=>exact⟨a,b,c,d,rfl⟩
  simp only[sC,seval,l9,aA];refine(ihb H9 w3 (g+1) x y orv r1 sb 7 _ A9 (q8.same (F9.old sb om om)) rfl hns om rfl hr1).mono ?_;rintro u Ha ⟨ho,Fa⟩;have ea:=Fa.next;have F5a:=F59.trans Fa;rcases dw hr with⟨e,he,rfl⟩|⟨els,w4,he,hr⟩
  ·rw[hr1]at he;simp only[sJ]at he;subst he;obtain⟨rfl,w',ra⟩:=ho;simp only[sC,seval];exact⟨tt,tt,tt,F5a,.inr ⟨e,w',rfl,tt,ra⟩⟩
  rw[hr1]at he;simp only[sJ]at he;subst he;obtain⟨rfl,v2,C2,qa,y1,y2,ra,oa⟩:=ho;simp only[dC,sJ]at hr;subst hr;have kn:∀c,In H7.next H8.next c->In H5.next Ha.next c/\Ha.get c=H8.get c:=λc hc=>by have h1:=hc.1;have h2:=hc.2;exact⟨⟨om,om⟩,by rw[Fa.old c om om om,F9.old c h2 om]⟩
  have kb:∀c,In H9.next Ha.next c->In H5.next Ha.next c/\Ha.get c=Ha.get c:=λc hc=>⟨⟨by have:=hc.1;omega,hc.2⟩,rfl⟩;simp only[sC,seval];exact⟨tt,tt,tt,F5a,.inl ⟨_,w4,mN (3:Nat) [] [a,b,c,d] v v2 w.line,rfl,tt,qa,se (hx.mono kn) (z1.mono kn) (z2.mono kn) (y1.mono kb) (y2.mono kb),ra,oa⟩⟩
 |false=>
 rw[if_neg (by rw[cc];simp)]at hr;simp only[sC,seval,l5];refine(jA A5.row [119,104,105,108,101]).mono ?_;rintro _ _ ⟨rfl,rfl⟩;cases cd:um w [119,104,105,108,101]with
 |true=>
  rw[if_pos cd]at hr;obtain⟨H6,m6,r6,n6,k6⟩:=bQ r5 (n:=9) rfl (i:=0) om (x:=.int .u8 4) rfl (l':=mN (4:Nat) [] Zx aX aX w.line) rfl;have F6:Fs pb sb H5 H6:=⟨om,λc _ _ h=>k6 c h⟩;have A6:=A5.fws hns F6 (A5.row.same (k6 pb om)) A.ok om;have l6:=l1s F6;simp only[sC,seval,fld0,m6,l6];refine(cG A6.row A6.lt A6.en).mono ?_;rintro u H7 ⟨ho,F7⟩;have e7:=F7.next;have F57:=F6.trans (.of F7);rcases dJ hr with⟨e,he,rfl⟩|⟨w1,he,hr⟩
  ·rw[he]at ho;obtain⟨rfl,r7⟩:=ho;simp only[sC,seval];exact⟨tt,tt,tt,F57,.inr ⟨e,w,rfl,tt,r7⟩⟩
  rw[he]at ho;obtain⟨rfl,r7⟩:=ho;have A7:=A6.fwd F7 r7 (bJ he A.ok (by rw[mJ cd];omega)).1 om;have l7:=l1s F57;rw[y8]at hr;obtain⟨r0,hr0⟩:∃r0,Jt s (pE s f) (pS s f) (g+1) w1=some r0:=by
   rcases dw hr with⟨e,he,rfl⟩|⟨e1,w3,he,_⟩
   ·exact⟨_,he⟩
   ·exact⟨_,he⟩
  simp only[sC,seval,l7];refine(tR ihr ihb A7 hr0 (r6.same (F7.old sb om om)) hns om).mono ?_;rintro u H8 ⟨ho,F8⟩;have e8:=F8.next;have F58:=F57.trans F8;rcases dw hr with⟨e,he,rfl⟩|⟨⟨e1,body⟩,w2,he,hr⟩
  ·rw[hr0]at he;simp only[sJ]at he;subst he;obtain⟨rfl,w',r8⟩:=ho;simp only[sC,seval];exact⟨tt,tt,tt,F58,.inr ⟨e,w',rfl,tt,r8⟩⟩
  rw[hr0]at he;simp only[sJ]at he;subst he;obtain⟨rfl,xs,v,C,q8,hx,z1,z2,r8,o8⟩:=ho;simp only at hx z1 z2 hr;have km:∀c,In H7.next H8.next c->In H5.next H8.next c/\H8.get c=H8.get c:=λc hc=>⟨⟨by have:=hc.1;omega,hc.2⟩,rfl⟩;have hx5:=hx.mono km;have z15:=z1.mono km;have z25:=z2.mono km;simp only[dC,sJ]at hr;subst hr;simp only[sC,seval];exact⟨tt,tt,tt,F58,.inl ⟨_,w2,_,rfl,tt,q8,se hx5 z15 z25 (.nil _ _ _) rfl,r8,o8⟩⟩
 |false=>
 rw[if_neg (by rw[cd];simp)]at hr;simp only[sC,seval,l5];refine(jA A5.row [114,101,116,117,114,110]).mono ?_;rintro _ _ ⟨rfl,rfl⟩;cases c5:um w [114,101,116,117,114,110]with
 |true=>
  rw[if_pos c5]at hr;obtain⟨H6,m6,r6,n6,k6⟩:=bQ r5 (n:=9) rfl (i:=0) om (x:=.int .u8 5) rfl (l':=mN (5:Nat) [] Zx aX aX w.line) rfl;have F6:Fs pb sb H5 H6:=⟨om,λc _ _ h=>k6 c h⟩;have A6:=A5.fws hns F6 (A5.row.same (k6 pb om)) A.ok om;have l6:=l1s F6;simp only[sC,seval,fld0,m6,l6];refine(cG A6.row A6.lt A6.en).mono ?_;rintro u H7 ⟨ho,F7⟩;have e7:=F7.next;have F57:=F6.trans (.of F7);rcases dJ hr with⟨e,he,rfl⟩|⟨w1,he,hr⟩
  ·rw[he]at ho;obtain⟨rfl,r7⟩:=ho;simp only[sC,seval];exact⟨tt,tt,tt,F57,.inr ⟨e,w,rfl,tt,r7⟩⟩
  rw[he]at ho;obtain⟨rfl,r7⟩:=ho;have A7:=A6.fwd F7 r7 (bJ he A.ok (by rw[mJ c5];omega)).1 om;have l7:=l1s F57;obtain⟨r0,hr0⟩:∃r0,pE s f (.rule 5) (g+1) w1=some r0:=by
   rcases dw hr with⟨e,he,rfl⟩|⟨e1,w3,he,_⟩
   ·exact⟨_,he⟩
   ·exact⟨_,he⟩
  simp only[sC,seval,l7,aA];refine(pQ ihr A7 hr0 (r6.same (F7.old sb om om)) rfl hns om (i:=2) om).mono ?_;rintro u H8 ⟨ho,F8⟩;have e8:=F8.next;have F58:=F57.trans F8;rcases dw hr with⟨e,he,rfl⟩|⟨e1,w2,he,hr⟩
  ·rw[hr0]at he;simp only[sJ]at he;subst he;obtain⟨rfl,w',r8⟩:=ho;simp only[sC,seval];exact⟨tt,tt,tt,F58,.inr ⟨e,w',rfl,tt,r8⟩⟩
  rw[hr0]at he;simp only[sJ]at he;subst he;obtain⟨rfl,xs,q8,hx,r8,o8⟩:=ho;have q8':be H8 sb (mN (5:Nat) [] xs aX aX w.line):=q8;have A8:=A7.fws hns F8 r8 o8 om;have l8:=l1s F58;simp only[sC,seval,l8];refine(eQ A8.row A8.lt A8.en [59]).mono ?_;rintro u H9 ⟨ho,F9⟩;have F59:=F58.trans (.of F9);rcases dJ hr with⟨e,he,rfl⟩|⟨w3,he,hr⟩
  ·rw[he]at ho;obtain⟨rfl,r9⟩:=ho;simp only[sC,seval];exact⟨tt,tt,tt,F59,.inr ⟨e,w2,rfl,tt,r9⟩⟩
  rw[he]at ho;obtain⟨rfl,r9⟩:=ho;simp only[dC,sJ]at hr;subst hr;have e9:=F9.next;simp only[sC,seval];refine⟨tt,tt,tt,F59,.inl ⟨_,w3,_,rfl,tt,q8'.same (F9.old sb om om),se (hx.mono λc hc=>?_) (.nil _ _ _) rfl (.nil _ _ _) rfl,r9,(dH he o8).2.2.1⟩⟩;have h1:=hc.1;have h2:=hc.2;exact⟨⟨om,om⟩,F9.old c h2 om⟩
 |false=>
 rw[if_neg (by rw[c5];simp)]at hr;simp only[tB,sJ]at hr;subst hr;simp only[sC,seval,l5];refine(jL A5.row 101).mono ?_;rintro _ H6 ⟨rfl,r6,F6⟩;simp only[sC,seval];exact⟨tt,tt,tt,.of F6,.inr ⟨_,w,rfl,tt,r6⟩⟩
structure Xv(n pb:Nat)(s:Bs)(f:Nat):Prop where
 stmt:M4 n pb s f
 body:Il n pb s f
def Ic(n pb:Nat)(s:Bs):∀(f:Nat),f<=1000000->∀f',f'<=f->Xv n pb s f'
 |0,_,f',h=>by obtain rfl:f'=0:=om;exact⟨λH w g x y orv r _ hr=>by simp[pS]at hr,HD om λf' h=>absurd h (Nat.not_lt_zero _)⟩
 |f+1,hf,f',h=>by
  have ih:=Ic n pb s f om;by_cases he:f'<=f
  ·exact ih f' he
  obtain rfl:f'=f+1:=om;exact⟨NM ((MO n pb s f om f rL).rule 5 om) (ih f rL).body,HD hf λf' h=>(ih f' om).stmt⟩
open Go.Abs Go.Abs.S
noncomputable section
set_option maxRecDepth 100000
def c15:cf:=⟨9,zq [zo 2 (.mv (.c (.bool false)))] (zq [zo 4 (.build [zI 0] []),zo 5 (.box (.t 4)),zm 3 5] (zq [zm 6 3,zm 7 0,zx 8 40 [.t 6,.t 7,zi 1],zm 2 8] .ret)),[.t 2]⟩
def WQ:cN Tryz.prog 15=some c15:=by kernel_rfl
def c40:cf:=by
 refine(λx (_:cN Tryz.prog 40=some x)=>x) ?a ?b
 case b=>cbv;rfl
def Wx:cN Tryz.prog 40=some c40:=by kernel_rfl
def c84:cf:=by
 refine(λx (_:cN Tryz.prog 84=some x)=>x) ?a ?b
 case b=>cbv;rfl
def V4:cN Tryz.prog 84=some c84:=by kernel_rfl
def O0:cf:=by
 refine(λx (_:cN Tryz.prog 123=some x)=>x) ?a ?b
 case b=>cbv;rfl
def TK:cN Tryz.prog 123=some O0:=by kernel_rfl
def U6:cf:=by
 refine(λx (_:cN Tryz.prog 124=some x)=>x) ?a ?b
 case b=>cbv;rfl
def TJ:cN Tryz.prog 124=some U6:=by kernel_rfl
def U5:cf:=⟨115,zq [zo 6 (.mv (.c (.bool false)))] (zr [zm 8 0,zm 9 2,zx 10 123 [.t 8,.t 9],zo 11 (.un .not (.t 10))] 11 (zq [zo 6 (.mv (.c (.bool false)))] .ret) .skip (.seq (zq [zm 12 1,zc 13 12,zf 14 0 13,zl 15 14] (.block 0 (zq [zo 17 (.bin .eql (.t 15) (zu 1)),zm 16 17] (.cond (.t 16) (zq [zm 18 1,zc 19 18,zf 20 2 19,zl 21 20,zk 22 .geq 21 0,zm 23 22,zg 24 (.mv (.t 1)) 23 true,zg 25 (.nilChk (.t 24)) 23 true,zg 26 (.fieldA 1 (.t 25)) 23 true,zg 27 (.load false 1 (.t 26)) 23 true,zg 28 (.bin .eql (.t 27) (.c (.str []))) 23 true,zo 29 (.pick (.t 23) (.t 28) (.c (.bool false))),zm 30 29,zg 31 (.mv (.t 1)) 30 true,zg 32 (.nilChk (.t 31)) 30 true,zg 33 (.fieldA 3 (.t 32)) 30 true,zg 34 (.load false 1 (.t 33)) 30 true,zg 35 (.len false (.t 34)) 30 true,zg 36 (.bin .eql (.t 35) (zi 0)) 30 true,zo 37 (.pick (.t 30) (.t 36) (.c (.bool false))),zm 6 37] .ret) (zq [zo 39 (.bin .eql (.t 15) (zu 2)),zm 38 39] (.cond (.t 38) (zq [zm 40 1,zc 41 40,zf 42 2 41,zl 43 42,zk 44 .eql 43 0,zm 45 44,zg 46 (.mv (.t 1)) 45 true,zg 47 (.nilChk (.t 46)) 45 true,zg 48 (.fieldA 1 (.t 47)) 45 true,zg 49 (.load false 1 (.t 48)) 45 true,zg 50 (.call 124 [.t 49]) 45 true,zo 51 (.pick (.t 45) (.t 50) (.c (.bool false))),zm 52 51,zg 53 (.mv (.t 1)) 52 true,zg 54 (.nilChk (.t 53)) 52 true,zg 55 (.fieldA 3 (.t 54)) 52 true,zg 56 (.load false 1 (.t 55)) 52 true,zg 57 (.len false (.t 56)) 52 true,zg 58 (.bin .eql (.t 57) (zi 0)) 52 true,zo 59 (.pick (.t 52) (.t 58) (.c (.bool false))),zm 6 59] .ret) (zq [zo 61 (.bin .eql (.t 15) (zu 3)),zm 60 61] (.cond (.t 60) (zq [zm 62 1,zc 63 62,zf 64 2 63,zl 65 64,zk 66 .neq 65 0,zm 67 66,zg 68 (.mv (.t 1)) 67 false,zg 69 (.nilChk (.t 68)) 67 false,zg 70 (.fieldA 1 (.t 69)) 67 false,zg 71 (.load false 1 (.t 70)) 67 false,zg 72 (.mv (.t 1)) 67 false,zg 73 (.nilChk (.t 72)) 67 false,zg 74 (.fieldA 3 (.t 73)) 67 false,zg 75 (.load false 1 (.t 74)) 67 false,zg 76 (.len false (.t 75)) 67 false,zg 77 (.call 164 [.t 71,.t 76]) 67 false,zg 78 (.un .not (.t 77)) 67 false,zo 79 (.pick (.t 67) (.c (.bool true)) (.t 78))] (.cond (.t 79) (zq [zo 6 (.mv (.c (.bool false)))] .ret) .skip)) (zq [zo 81 (.bin .eql (.t 15) (zu 4)),zm 80 81] (.cond (.t 80) (zq [zm 82 1,zc 83 82,zf 84 2 83,zl 85 84,zk 86 .neq 85 0,zm 87 86,zg 88 (.mv (.t 1)) 87 false,zg 89 (.nilChk (.t 88)) 87 false,zg 90 (.fieldA 1 (.t 89)) 87 false,zg 91 (.load false 1 (.t 90)) 87 false,zg 92 (.call 124 [.t 91]) 87 false,zg 93 (.un .not (.t 92)) 87 false,zo 94 (.pick (.t 87) (.c (.bool true)) (.t 93))] (.cond (.t 94) (zq [zo 6 (.mv (.c (.bool false)))] .ret) .skip)) (zq [zo 6 (.mv (.c (.bool false)))] .ret))))))))))) (.seq (zq [zm 95 1,zc 96 95,zf 97 3 96,zl 98 97,zh 99 98,zo 100 (.mv (zi 0))] (.block 1 (.loop (zq [zb 101 .lss 100 99] (.seq (.cond (.t 101) .skip (.exit 1)) (.seq (.block 2 (zq [zm 102 100,zm 7 102] (zq [zm 103 0,zm 104 1,zc 105 104,zf 106 3 105,zl 107 106,zm 108 7,zo 109 (.idxA 4 (.t 107) (.t 108)),zm 110 2,zk 111 .add 110 1,zx 112 125 [.t 103,.t 109,.t 111],zo 113 (.un .not (.t 112))] (.cond (.t 113) (zq [zo 6 (.mv (.c (.bool false)))] .ret) .skip)))) (.reg [zk 114 .add 100 1,zm 100 114]))))))) (zq [zo 6 (.mv (.c (.bool true)))] .ret)))),[.t 6]⟩
def TI:cN Tryz.prog 125=some U5:=by kernel_rfl
def mP:cf:=by
 refine(λx (_:cN Tryz.prog 164=some x)=>x) ?a ?b
 case b=>cbv;rfl
def Tb:cN Tryz.prog 164=some mP:=by kernel_rfl
end
end Go.Proofs.Wo
