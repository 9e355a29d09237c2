/- Part of a proof (YB2 YB3 YB4 YBS YB5 YX13 YX14 YCl YNat L1 YDoor); no condition. -/
import Derived.OpenShut
import Derived.Shelf.LaysM
import Derived.Shelf.Strconv.Clone
import Derived.Test.YtfleblkgifoeaaaDoorProg
import Derived.WalkKit
import Derived.Below
import Derived.ChangeSame
import Derived.ReadAgain
import Derived.ProofKit
import Derived.Test.YtfleblkgifoeaaaDoorRows
import Derived.LaidLaws
import Derived.LaidHandle
import Derived.Lay
import Derived.Test.YtfleblkgifoeaaaDoorP6
import Derived.Test.YtfleblkgifoeaaaDoorP7
import Derived.Test.YtfleblkgifoeaaaDoorP8
import Derived.Test.YtfleblkgifoeaaaDoorP9
import Derived.Test.YtfleblkgifoeaaaDoorP11
set_option linter.unusedSimpArgs false
set_option linter.unusedVariables false
set_option linter.unnecessarySimpa false
namespace Go.Proofs.Wo
open Go.Abs Go.Abs.S
def PE(s:Bs)(nt:NT)(g:Nat)(w:Wd)(e:Ex)(w':Wd):Prop:=∃F,∀f,F<=f->pE s f nt g w=some (.ok (e,w'))
theorem PE.of{s:Bs}{nt:NT}{g:Nat}{w w':Wd}{e:Ex}(F:Nat)(h:∀f,F<=f->bJ s (pE s f) nt g w=some (.ok (e,w'))):PE s nt g w e w':=
 ⟨F+1,fun f hf=>by
  obtain⟨f,rfl⟩:∃k,f=k+1:=⟨f-1,om⟩
  rw[fd]
  exact h f om⟩
variable {s:Bs} {g:Nat} {w w1 w2 w3 w':Wd} {e r:Ex}
theorem PE.num(h:w.k=1)(h1:aZ s w=.ok w1):PE s .prim g w (.mk 1 [] w.n []) w1:=
 .of 0 fun f _=>by simp only[bJ,h,h1,if_true,fK,bp]
theorem PE.name(h:w.k=2)(h1:aZ s w=.ok w1)(h2:dN w1 [[40]]=false):PE s .prim g w (.mk 2 w.S 0 []) w1:=
 .of 0 fun f _=>by simp[bJ,h,h1,fK,bp,h2]
theorem PE.call0(h:w.k=2)(h1:aZ s w=.ok w1)(h2:dN w1 [[40]]=true)(h3:aZ s w1=.ok w2)(h4:dN w2 [[41]]=true)(h5:aZ s w2=.ok w3):PE s .prim g w (.mk 4 w.S 0 []) w3:=
 .of 0 fun f _=>by simp[bJ,h,h1,fK,bp,h2,h3,h4,h5]
theorem PE.call(h:w.k=2)(h1:aZ s w=.ok w1)(h2:dN w1 [[40]]=true)(h3:aZ s w1=.ok w2)(h4:dN w2 [[41]]=false)(h5:PE s (.args w.S []) g w2 e w'):PE s .prim g w e w':=by
 obtain⟨F,hF⟩:=h5
 exact .of F fun f hf=>by simp[bJ,h,h1,fK,h2,h3,h4,hF f hf]
theorem PE.par(h:w.k=4)(h2:dN w [[40]]=true)(h1:aZ s w=.ok w1)(h5:PE s (.rule 5) g w1 e w2)(h4:dN w2 [[41]]=true)(h3:aZ s w2=.ok w3):PE s .prim g w e w3:=by
 obtain⟨F,hF⟩:=h5
 exact .of F fun f hf=>by simp[bJ,h,h1,fK,jw,cJ,bp,h2,h3,h4,hF f hf]
theorem PE.last{S:Bs}{out:List Ex}(h5:PE s (.rule 5) g w e w1)(h2:dN w1 [[44]]=false)(h4:dN w1 [[41]]=true)(h3:aZ s w1=.ok w2):PE s (.args S out) g w (.mk 4 S 0 (out++[e])) w2:=by
 obtain⟨F,hF⟩:=h5
 exact .of F fun f hf=>by simp[bJ,fK,jw,cJ,bp,h2,h3,h4,hF f hf]
theorem PE.more{S:Bs}{out:List Ex}(h5:PE s (.rule 5) g w e w1)(h2:dN w1 [[44]]=true)(h3:aZ s w1=.ok w2)(h6:PE s (.args S (out++[e])) g w2 r w'):PE s (.args S out) g w r w':=by
 obtain⟨F,hF⟩:=h5
 obtain⟨F',hF'⟩:=h6
 exact .of (F+F') fun f hf=>by simp[bJ,fK,jw,h2,h3,hF f om,hF' f om]
theorem PE.un(hg:g<200)(h:dN w [[45],[33]]=true)(h1:aZ s w=.ok w1)(h5:PE s (.rule 0) (g+1) w1 e w2):PE s (.rule 0) g w (.mk 3 w.S 0 [e]) w2:=by
 obtain⟨F,hF⟩:=h5
 exact .of F fun f hf=>by simp[bJ,fK,jw,bp,h,h1,hF f hf,show ¬200<=g by omega]
theorem PE.pr(hg:g<200)(h:dN w [[45],[33]]=false)(h5:PE s .prim (g+1) w e w'):PE s (.rule 0) g w e w':=by
 obtain⟨F,hF⟩:=h5
 exact .of F fun f hf=>by simp[bJ,h,hF f hf,show ¬200<=g by omega]
theorem PE.up{k:Nat}(h5:PE s (.rule k) g w e w1)(h6:PE s (.loop (k+1) e) g w1 r w'):PE s (.rule (k+1)) g w r w':=by
 obtain⟨F,hF⟩:=h5
 obtain⟨F',hF'⟩:=h6
 exact .of (F+F') fun f hf=>by simp[bJ,jw,hF f om,hF' f om]
theorem PE.stop{k:Nat}(h:dN w (mt k)=false):PE s (.loop k e) g w e w:=
 .of 0 fun f _=>by simp[bJ,h,bp]
theorem PE.bin{k:Nat}(h:dN w (mt k)=true)(h1:aZ s w=.ok w1)(h5:PE s (.rule (k-1)) g w1 r w2)(h2:dN w2 (mt k)=false):PE s (.loop k e) g w (.mk 3 w.S 0 [e,r]) w2:=by
 obtain⟨F,hF⟩:=h5
 obtain⟨F',hF'⟩:=PE.stop (s:=s) (g:=g) (e:=.mk 3 w.S 0 [e,r]) h2
 exact .of (F+F') fun f hf=>by simp[bJ,fK,jw,bp,h,h1,hF f om,hF' f om]
theorem PE.lift{j:Nat}(h:PE s (.rule j) g w e w'):∀{m:Nat},j<=m->(∀i,j<i->i<=m->dN w' (mt i)=false)->PE s (.rule m) g w e w'
 | 0, hj, _ => by obtain rfl : j = 0 := by omega
                  exact h
 | m+1,hj,hq=>by
  by_cases c:j=m+1
  ·subst c; exact h
  ·exact PE.up (PE.lift h (m:=m) om fun i h1 h2=>hq i h1 om) (PE.stop (hq (m+1) om om))
def nS(w:Wd):Prop:=w.k=4->w.S∈([[41],[44],[59]]:List Bs)
theorem fB{w:Wd}(h:nS w)(i:Nat):dN w (mt i)=false:=by
 cases hh:dN w (mt i) with
 | false=>rfl
 | true=>
  simp only[dN,N4]at hh
  have h4:=h (N8 hh.1)
  have key:∀S∈([[41],[44],[59]]:List Bs),(mt i).contains S=false:=by
   match i with
   | 1 | 2 | 3 | 4=>decide
   | 0=>decide
   | n+5=>
    show ∀S∈([[41],[44],[59]]:List Bs),([[124,124]]:List Bs).contains S=false
    decide
  rw[key _ h4]at hh
  simp at hh
theorem iT{w:Wd}(h:nS w):dN w [[40]]=false:=by
 cases hh:dN w [[40]] with
 | false=>rfl
 | true=>
  simp only[dN,N4]at hh
  have h4:=h (N8 hh.1)
  have key:∀S∈([[41],[44],[59]]:List Bs),([[40]]:List Bs).contains S=false:=by decide
  rw[key _ h4]at hh
  simp at hh
theorem cD{w:Wd}{S:Bs}{l:List Bs}(hk:w.k=4)(hS:w.S=S):dN w l=l.contains S:=by
 unfold dN
 rw[hk,hS]; rfl
theorem D0{w:Wd}{l:List Bs}(hk:w.k≠4):dN w l=false:=by
 unfold dN
 rw[Bool.and_eq_false_iff]
 left
 cases h:Nat.beq w.k 4 with
 | false=>rfl
 | true=>exact absurd (N8 h) hk
def Ml(w:Wd):Prop:=w.k=4->w.S=[40]
theorem Ml.no{w:Wd}(h:Ml w){l:List Bs}(hl:l.contains [40]=false):dN w l=false:=by
 by_cases c:w.k=4
 ·rw[cD c (h c),hl]
 ·exact D0 c
def Dl(e:Ex):Prop:=∀(s r:Bs) (w w':Wd) (g:Nat),Tk s (aP e++r) w->Tk s r w'->ur r->dN w' [[40]]=false->g+2*e.deep<=201->PE s .prim g w e w'
def OpP(b:Nat)(e:Ex):Prop:=∀(s r:Bs) (w w':Wd) (g:Nat),Tk s (bF e++r) w->Tk s r w'->ur r->nS w'->g+2*e.deep<=b->PE s (.rule 5) g w e w'
theorem gL{k:Nat}{s:Bs}{n:Int}{kids:List Ex}(h:iX (.mk k s n kids)=true) :
  fl kids=true/\((k=1/\0<=n/\s=[]/\kids=[])∨(k=2/\n=0/\Nm s/\kids=[])∨(k=3/\n=0/\oT s kids.length=true)∨(k=4/\n=0/\Nm s)):=by
 simp only[iX,N4]at h
 obtain⟨h1,h2⟩:=h
 refine⟨h2,?_⟩
 unfold dX at h1
 by_cases c1:k=1
 ·rw[if_pos c1]at h1
  simp only[N4,Od]at h1
  exact .inl ⟨c1,h1.1,by simpa using h1.2.1,List.length_eq_zero_iff.1 (N8 h1.2.2)⟩
 rw[if_neg c1]at h1
 by_cases c2:k=2
 ·rw[if_pos c2]at h1
  simp only[N4,Od]at h1
  exact .inr (.inl ⟨c2,h1.1,ED h1.2.1,List.length_eq_zero_iff.1 (N8 h1.2.2)⟩)
 rw[if_neg c2]at h1
 by_cases c3:k=3
 ·rw[if_pos c3]at h1
  simp only[N4,Od]at h1
  exact .inr (.inr (.inl ⟨c3,h1.1,h1.2⟩))
 rw[if_neg c3]at h1
 by_cases c4:k=4
 ·rw[if_pos c4]at h1
  simp only[N4,Od]at h1
  exact .inr (.inr (.inr ⟨c4,h1.1,ED h1.2⟩))
 rw[if_neg c4]at h1
 simp at h1
theorem FZ{c:UInt8}{t:Bs}(h:iM c=false)(h':c≠46):ur (c::t):=⟨c,t,rfl,h,h'⟩
theorem Br{t:Bs}:ur (32::t):=FZ dD dD
theorem JJ{t:Bs}:ur (40::t):=FZ dD dD
theorem tW{t:Bs}:ur (41::t):=FZ dD dD
theorem FY{t:Bs}:ur (44::t):=FZ dD dD
theorem Bq{t:Bs}:ur (59::t):=FZ dD dD
theorem uJ{S:Bs}{n:Nat}(h:oT S n=true):(n=1/\S∈([[45],[33]]:List Bs))∨(n=2/\∃k,1<=k/\k<=5/\S∈mt k):=by
 match n,h with
 | 1,h=>exact .inl ⟨rfl,by simpa[oT] using h⟩
 | 2,h=>
  right
  refine⟨rfl,?_⟩
  have key:∀S∈([[124,124],[38,38],[61,61],[33,61],[60,61],[62,61],[60],[62],[43],[45],[42],[47]]:List Bs),S∈mt 1∨S∈mt 2∨S∈mt 3∨S∈mt 4∨S∈mt 5:=by decide
  have hm:S∈([[124,124],[38,38],[61,61],[33,61],[60,61],[62,61],[60],[62],[43],[45],[42],[47]]:List Bs):=by simpa[oT] using h
  rcases key S hm with h | h | h | h | h
  ·exact⟨1,om,om,h⟩
  ·exact⟨2,om,om,h⟩
  ·exact⟨3,om,om,h⟩
  ·exact⟨4,om,om,h⟩
  ·exact⟨5,om,om,h⟩
 | 0,h=>simp[oT]at h
 | n+3,h=>simp[oT]at h
theorem Kq{S:Bs}{i k:Nat}(hi:1<=i)(hk:k<=5)(hik:i<k)(h:S∈mt k):(mt i).contains S=false:=by
 have key:∀i k,1<=i->k<=5->i<k->∀S∈mt k,(mt i).contains S=false:=by
  intro i k h1 h2 h3
  have hc:(i=1∨i=2∨i=3∨i=4)/\(k=2∨k=3∨k=4∨k=5):=om
  obtain⟨rfl | rfl | rfl | rfl,rfl | rfl | rfl | rfl⟩:=hc <;> first | decide | omega
 exact key i k hi hk hik S h
theorem EQ{S:Bs}{k:Nat}(h1:1<=k)(hk:k<=5)(h:S∈mt k):S∈eo/\([[40]]:List Bs).contains S=false:=by
 have key:∀k,1<=k->k<=5->∀S∈mt k,S∈eo/\([[40]]:List Bs).contains S=false:=by
  intro k h1 h2
  match k,h1,h2 with
  | 1,_,_ | 2,_,_ | 3,_,_ | 4,_,_ | 5,_,_=>decide
 exact key k h1 hk S h
theorem qC{n:Int}(h0:0<=n)(h:n<=9223372036854775807):∃m:Nat,n=(m:Int)/\m<9223372036854775808:=⟨n.toNat,om,om⟩
theorem CC{e:Ex}(ho:iX e=true)(hr:dj e=true){r:Bs}(hb:ur r):∃x r' k S n,aP e++r=x++r'/\Sh x r' k S n/\(k=4->S=[40]):=by
 obtain⟨k,s,n,kids⟩:=e
 obtain⟨_,h⟩:=gL ho
 simp only[dj,N4,Od]at hr
 rcases h with⟨rfl,h1,rfl,rfl⟩ | ⟨rfl,rfl,h1,rfl⟩ | ⟨rfl,rfl,h1⟩ | ⟨rfl,rfl,h1⟩
 ·obtain⟨m,rfl,hm⟩:=qC h1 hr.1.2
  exact⟨bb (m:Int),r,1,[],m,by simp[aP,Ex.kind,bF,cC],DZ hm hb,by simp⟩
 ·exact⟨s,r,2,s,0,by simp[aP,Ex.kind,bF,cC],mX h1 hb,by simp⟩
 ·exact⟨[40],bF (.mk 3 s 0 kids)++([41]++r),4,[40],0,by simp[aP,Ex.kind],dP dD _,fun _=>rfl⟩
 ·exact⟨s,40::(bz (gn kids)++41::r),2,s,0,by simp[aP,Ex.kind,bF,cC],mX h1 JJ,by simp⟩
theorem im{e:Ex}(ho:iX e=true)(hr:dj e=true){r:Bs}(hb:ur r){s:Bs}(hl:s.length<=16384)(hs:aP e++r <:+ s):∃w,Tk s (aP e++r) w/\Ml w:=by
 obtain⟨x,r',k,S,n,he,hsh,hf⟩:=CC ho hr hb
 rw[he]at hs ⊢
 obtain⟨w,h1,h2,h3,_⟩:=dQ hl hs hsh
 exact⟨w,h1,fun h=>by rw[h3]; exact hf (by rw[<- h2]; exact h)⟩
theorem Ir{e:Ex}(ho:iX e=true)(hr:dj e=true){r:Bs}(hb:ur r){s:Bs}{w:Wd}(h:Tk s (aP e++r) w):Ml w:=by
 obtain⟨w1,h1,h2⟩:=im ho hr hb h.long h.1
 rw[h.fn h1]; exact h2
theorem Dl.rule{e:Ex}(hk:Dl e)(ho:iX e=true)(hr:dj e=true){s r:Bs}{w w':Wd}{g m:Nat}(h:Tk s (aP e++r) w)(h':Tk s r w')(hb:ur r)
  (hp:dN w' [[40]]=false) (hg:g+2*e.deep<=200) (hq:∀i,0<i->i<=m->dN w' (mt i)=false):PE s (.rule m) g w e w':=by
 have hd:0<e.deep:=by cases e; simp only[Ex.deep]; omega
 exact PE.lift (PE.pr om ((Ir ho hr hb h).no dD) (hk s r w w' (g+1) h h' hb hp om)) (Nat.zero_le _) hq
theorem uL{S:Bs}{n:Int}{a:Ex}:bF (.mk 3 S n [a])=S++32::aP a:=by
 simp only[bF,cC,fA,List.map_cons,List.map_nil]
 simp
theorem uK{S:Bs}{n:Int}{a b:Ex}:bF (.mk 3 S n [a,b])=aP a++32::(S++32::aP b):=by
 simp only[bF,cC,fA,List.map_cons,List.map_nil]
 simp
theorem uy{S:Bs}(h:S∈([[45],[33]]:List Bs)):S∈eo/\([[45],[33]]:List Bs).contains S=true:=by
 have key:∀S∈([[45],[33]]:List Bs),S∈eo/\([[45],[33]]:List Bs).contains S=true:=by decide
 exact key S h
theorem ci{s:Bs}{c:UInt8}{r:Bs}(h:c::r <:+ s):r <:+ s:=(List.suffix_cons c r).trans h
theorem Ew{k:Nat}{S:Bs}{n:Int}{kids:List Ex}(h3:k=3)(ho:iX (.mk k S n kids)=true)(hr:dj (.mk k S n kids)=true)(hk:∀a∈kids,Dl a):OpP 201 (.mk k S n kids):=by
 subst h3
 intro s r w w' g ht ht' hb hq hg
 obtain⟨hok,hp⟩:=gL ho
 obtain⟨rfl,hop⟩:n=0/\oT S kids.length=true:=by
  rcases hp with⟨h,_⟩ | ⟨h,_⟩ | ⟨_,h⟩ | ⟨h,_⟩
  ·omega
  ·omega
  ·exact h
  ·omega
 simp only[dj,N4]at hr
 have hrk:=hr.2
 rcases uJ hop with⟨hn,hS⟩ | ⟨hn,k,k1,k5,hS⟩
 ·obtain⟨a,rfl⟩:∃a,kids=[a]:=by
   match kids,hn with
   | [a],_=>exact⟨a,rfl⟩
  have hda:(Ex.mk 3 S 0 [a]).deep=a.deep+1:=by simp[Ex.deep,de]
  have hoa:iX a=true:=dm hok (by simp)
  have hra:dj a=true:=cK hrk (by simp)
  rw[uL,Oe,Oj]at ht
  obtain⟨q1,q2⟩:=uy hS
  obtain⟨t1,t2,_,t4⟩:=qe ht (mV q1 _)
  have hsf:=aJ ht.1
  obtain⟨w1,hw1,hf⟩:=im hoa hra hb ht.long (ci hsf)
  have hst:=t4 w1 ((bX hsf dD).2 hw1)
  have hpa:0<a.deep:=by cases a; simp only[Ex.deep]; omega
  have:=PE.un (g:=g) om (by rw[cD t1 t2]; exact q2) hst ((hk a (by simp)).rule hoa hra hw1 ht' hb (iT hq) (g:=g+1) (m:=0) om om)
  rw[t2]at this
  exact PE.lift this (Nat.zero_le _) fun i _ _=>fB hq i
 ·obtain⟨a,b,rfl⟩:∃a b,kids=[a,b]:=by
   match kids,hn with
   | [a,b],_=>exact⟨a,b,rfl⟩
  have hda:(Ex.mk 3 S 0 [a,b]).deep=max a.deep b.deep+1:=by simp[Ex.deep,de]
  have hoa:iX a=true:=dm hok (by simp)
  have hra:dj a=true:=cK hrk (by simp)
  have hob:iX b=true:=dm hok (by simp)
  have hrb:dj b=true:=cK hrk (by simp)
  obtain⟨q1,q2⟩:=EQ k1 k5 hS
  have e0:bF (.mk 3 S 0 [a,b])++r=aP a++32::(S++32::(aP b++r)):=by rw[uK]; simp
  rw[e0]at ht
  have hsf:=aJ ht.1
  have hsf2:=ci hsf
  obtain⟨w1,hw1,t1,t2,_,t4⟩:=dQ ht.long hsf2 (mV q1 _)
  have hsf3:=aJ hsf2
  obtain⟨w2,hw2,hf⟩:=im hob hrb hb ht.long (ci hsf3)
  have hst:=t4 w2 ((bX hsf3 dD).2 hw2)
  have pa:=(hk a (by simp)).rule hoa hra ht ((bX hsf dD).2 hw1) Br (by rw[cD t1 t2]; exact q2) (g:=g) (m:=k-1) om
   (fun i h1 h2=>by rw[cD t1 t2]; exact Kq h1 k5 om hS)
  have pb:=(hk b (by simp)).rule hob hrb hw2 ht' hb (iT hq) (g:=g) (m:=k-1) om (fun i _ _=>fB hq i)
  have pl:=PE.bin (e:=a) (k:=k) (by rw[cD t1 t2]; simpa using hS) hst pb (fB hq k)
  rw[t2]at pl
  obtain⟨j,rfl⟩:∃j,k=j+1:=⟨k-1,om⟩
  exact PE.lift (PE.up pa pl) k5 fun i _ _=>fB hq i
theorem xF(s r:Bs)(w':Wd)(g:Nat)(S:Bs)(ht':Tk s r w'):∀(l:List Ex) (e:Ex) (out:List Ex) (w:Wd),(∀a∈e::l,Dl a/\iX a=true/\dj a=true/\g+2*a.deep<=200) ->
  Tk s (bz ((e::l).map aP)++41::r) w->PE s (.args S out) g w (.mk 4 S 0 (out++e::l)) w'
 | [],e,out,w,hk,ht=>by
  obtain⟨k1,k2,k3,k4⟩:=hk e (by simp)
  have e0:bz (([e]:List Ex).map aP)++41::r=aP e++([41]++r):=by simp[bz]
  rw[e0]at ht
  have hsf:=aJ ht.1
  obtain⟨w1,hw1,t1,t2,_,t4⟩:=dQ ht.long hsf (dP (c:=41) dD r)
  have hq:nS w1:=fun _=>by rw[t2]; decide
  exact PE.last (k1.rule k2 k3 ht hw1 tW (iT hq) k4 fun i _ _=>fB hq i) (by rw[cD t1 t2]; decide) (by rw[cD t1 t2]; decide) (t4 w' ht')
 | b::l,e,out,w,hk,ht=>by
  obtain⟨k1,k2,k3,k4⟩:=hk e (by simp)
  obtain⟨b1,b2,b3,b4⟩:=hk b (by simp)
  have e0:bz ((e::b::l).map aP)++41::r=aP e++([44]++32::(bz ((b::l).map aP)++41::r)):=by simp[bz]
  rw[e0]at ht
  have hsf:=aJ ht.1
  obtain⟨w1,hw1,t1,t2,_,t4⟩:=dQ ht.long hsf (dP (c:=44) dD _)
  have hq:nS w1:=fun _=>by rw[t2]; decide
  have hsf2:=aJ hsf
  have e1:bz ((b::l).map aP)++41::r=aP b++((l.map aP).flatMap (fun t=>44::32::t)++41::r):=by simp[bz]
  have hbr:ur ((l.map aP).flatMap (fun t=>44::32::t)++41::r):=by
   cases l with
   | nil=>exact tW
   | cons c l=>exact FY
  obtain⟨w2,hw2,_⟩:=im b2 b3 hbr ht.long (by rw[<- e1]; exact ci hsf2)
  rw[<- e1]at hw2
  have hst:=t4 w2 ((bX hsf2 dD).2 hw2)
  have ih:=xF s r w' g S ht' l b (out++[e]) w2 (fun a ha=>hk a (by simp at ha ⊢; exact .inr ha)) hw2
  rw[Oe]at ih
  exact PE.more (k1.rule k2 k3 ht hw1 FY (iT hq) k4 fun i _ _=>fB hq i) (by rw[cD t1 t2]; decide) hst ih
theorem FJ{a:Ex}:∀{l:List Ex},a∈l->a.deep<=de l
 | x::l,h=>by
  simp only[de]
  rcases List.mem_cons.1 h with rfl | h
  ·omega
  ·have:=FJ h; omega
theorem DX{a:Ex}:∀{l:List Ex},a∈l->a.size<=br l
 | x::l,h=>by
  simp only[br]
  rcases List.mem_cons.1 h with rfl | h
  ·omega
  ·have:=DX h; omega
theorem uW:∀(N:Nat) (e:Ex),e.size<=N->iX e=true->dj e=true->Dl e
 | 0,.mk k S n kids,h,_,_=>by simp only[Ex.size]at h; omega
 | N+1,.mk k S n kids,h,ho,hr=>by
  obtain⟨hok,hp⟩:=gL ho
  have hr0:=hr
  simp only[dj,N4,Od]at hr
  have hsz:(Ex.mk k S n kids).size=br kids+1:=by simp only[Ex.size]
  have hdp:(Ex.mk k S n kids).deep=de kids+1:=by simp only[Ex.deep]
  have ih:∀a∈kids,Dl a:=fun a ha=>uW N a (by have:=DX ha; omega) (dm hok ha) (cK hr.2 ha)
  intro s r w w' g ht ht' hb hpar hg
  rcases hp with⟨rfl,h1,rfl,rfl⟩ | ⟨rfl,rfl,h1,rfl⟩ | ⟨rfl,rfl,h1⟩ | ⟨rfl,rfl,h1⟩
  ·obtain⟨m,rfl,hm⟩:=qC h1 hr.1.2
   have e0:aP (.mk 1 [] (m:Int) [])=bb (m:Int):=by simp[aP,Ex.kind,bF,cC]
   rw[e0]at ht
   obtain⟨t1,_,t3,t4⟩:=qe ht (DZ hm hb)
   have:=PE.num (g:=g) t1 (t4 w' ht')
   rw[t3]at this
   exact this
  ·have e0:aP (.mk 2 S 0 [])=S:=by simp[aP,Ex.kind,bF,cC]
   rw[e0]at ht
   obtain⟨t1,t2,_,t4⟩:=qe ht (mX h1 hb)
   have:=PE.name (g:=g) t1 (t4 w' ht') hpar
   rw[t2]at this
   exact this
  ·have e0:aP (.mk 3 S 0 kids)++r=[40]++(bF (.mk 3 S 0 kids)++([41]++r)):=by simp[aP,Ex.kind]
   rw[e0]at ht
   obtain⟨t1,t2,_,t4⟩:=qe ht (dP (c:=40) dD _)
   have hsf:=aJ ht.1
   have hsf2:=aJ hsf
   obtain⟨w2,hw2,u1,u2,_,u4⟩:=dQ ht.long hsf2 (dP (c:=41) dD r)
   have hq:nS w2:=fun _=>by rw[u2]; decide
   have hw1:∃w1,Tk s (bF (.mk 3 S 0 kids)++([41]++r)) w1:=by
    rcases uJ h1 with⟨hn,hS⟩ | ⟨hn,_⟩
    ·obtain⟨a,rfl⟩:∃a,kids=[a]:=by
      match kids,hn with
      | [a],_=>exact⟨a,rfl⟩
     rw[uL,Oe,Oj]at hsf ⊢
     obtain⟨w1,hw1,_⟩:=dQ ht.long hsf (mV (uy hS).1 _)
     exact⟨w1,hw1⟩
    ·obtain⟨a,b,rfl⟩:∃a b,kids=[a,b]:=by
      match kids,hn with
      | [a,b],_=>exact⟨a,b,rfl⟩
     rw[uK,Oe,Oj]at hsf ⊢
     obtain⟨w1,hw1,_⟩:=im (dm hok (by simp)) (cK hr.2 (by simp)) Br ht.long hsf
     exact⟨w1,hw1⟩
   obtain⟨w1,hw1⟩:=hw1
   exact PE.par t1 (by rw[cD t1 t2]; decide) (t4 w1 hw1) (Ew rfl ho hr0 ih s _ w1 w2 g hw1 hw2 tW hq om) (by rw[cD u1 u2]; decide) (u4 w' ht')
  ·have e0:aP (.mk 4 S 0 kids)++r=S++([40]++(bz (kids.map aP)++41::r)):=by simp[aP,Ex.kind,bF,cC,fA]
   rw[e0]at ht
   obtain⟨t1,t2,_,t4⟩:=qe ht (mX h1 JJ)
   have hsf:=aJ ht.1
   have hsf2:=aJ hsf
   obtain⟨w1,hw1,u1,u2,_,u4⟩:=dQ ht.long hsf (dP (c:=40) dD _)
   cases kids with
   | nil=>
    have e1:bz (([]:List Ex).map aP)++41::r=[41]++r:=rfl
    rw[e1]at hsf2 u4
    obtain⟨w2,hw2,v1,v2,_,v4⟩:=dQ ht.long hsf2 (dP (c:=41) dD r)
    have:=PE.call0 (g:=g) t1 (t4 w1 hw1) (by rw[cD u1 u2]; decide) (u4 w2 hw2) (by rw[cD v1 v2]; decide) (v4 w' ht')
    rw[t2]at this
    exact this
   | cons a l=>
    have e1:bz ((a::l).map aP)++41::r=aP a++((l.map aP).flatMap (fun t=>44::32::t)++41::r):=by simp[bz]
    have hbr:ur ((l.map aP).flatMap (fun t=>44::32::t)++41::r):=by
     cases l with
     | nil=>exact tW
     | cons c l=>exact FY
    have hoa:iX a=true:=dm hok (by simp)
    have hra:dj a=true:=cK hr.2 (by simp)
    obtain⟨w2,hw2,hf⟩:=im hoa hra hbr ht.long (by rw[<- e1]; exact hsf2)
    rw[<- e1]at hw2
    have:=PE.call (g:=g) t1 (t4 w1 hw1) (by rw[cD u1 u2]; decide) (u4 w2 hw2) (hf.no dD)
     (xF s r w' g w.S ht' l a [] w2 (fun b hbm=>⟨ih b hbm,dm hok hbm,cK hr.2 hbm,by have:=FJ hbm; omega⟩) hw2)
    rw[t2]at this
    exact this
theorem qR{e:Ex}(ho:iX e=true)(hr:dj e=true){r:Bs}(hb:ur r){s:Bs}(hl:s.length<=16384)(hs:bF e++r <:+ s):∃w,Tk s (bF e++r) w:=by
 by_cases h3:e.kind=3
 ·obtain⟨k,S,n,kids⟩:=e
  obtain⟨hok,hp⟩:=gL ho
  simp only[Ex.kind]at h3
  subst h3
  simp only[dj,N4]at hr
  obtain⟨rfl,hop⟩:n=0/\oT S kids.length=true:=by
   rcases hp with⟨h,_⟩ | ⟨h,_⟩ | ⟨_,h⟩ | ⟨h,_⟩
   ·omega
   ·omega
   ·exact h
   ·omega
  rcases uJ hop with⟨hn,hS⟩ | ⟨hn,_⟩
  ·obtain⟨a,rfl⟩:∃a,kids=[a]:=by
    match kids,hn with
    | [a],_=>exact⟨a,rfl⟩
   rw[uL,Oe,Oj]at hs ⊢
   obtain⟨w1,hw1,_⟩:=dQ hl hs (mV (uy hS).1 _)
   exact⟨w1,hw1⟩
  ·obtain⟨a,b,rfl⟩:∃a b,kids=[a,b]:=by
    match kids,hn with
    | [a,b],_=>exact⟨a,b,rfl⟩
   rw[uK,Oe,Oj]at hs ⊢
   obtain⟨w1,hw1,_⟩:=im (dm hok (by simp)) (cK hr.2 (by simp)) Br hl hs
   exact⟨w1,hw1⟩
 ·have e0:bF e=aP e:=by simp[aP,h3]
  rw[e0]at hs ⊢
  obtain⟨w,h,_⟩:=im ho hr hb hl hs
  exact⟨w,h⟩
theorem qS{e:Ex}(ho:iX e=true)(hr:dj e=true):OpP 200 e:=by
 by_cases h3:e.kind=3
 ·obtain⟨k,S,n,kids⟩:=e
  simp only[Ex.kind]at h3
  subst h3
  obtain⟨hok,_⟩:=gL ho
  have hr2:=hr
  simp only[dj,N4]at hr2
  exact fun s r w w' g q1 q2 q3 q4 q5=>Ew rfl ho hr (fun a ha=>uW _ a rL (dm hok ha) (cK hr2.2 ha)) s r w w' g q1 q2 q3 q4 om
 ·have e0:bF e=aP e:=by simp[aP,h3]
  intro s r w w' g ht ht' hb hq hg
  rw[e0]at ht
  exact (uW _ e rL ho hr).rule ho hr ht ht' hb (iT hq) hg fun i _ _=>fB hq i
open Go.Abs Go.Abs.S
mutual
def St.nl:St->St
 | .mk k s e body els _=>.mk k s e (lH body) (lH els) 0
def lH:List St->List St
 | []=>[]
 | x::l=>x.nl::lH l
end
theorem AO(l:List St):(lH l).length=l.length:=by
 induction l with
 | nil=>simp[lH]
 | cons x l ih=>simp only[lH,N5,ih]
mutual
theorem Ia:∀x:St,x.nl.size=x.size
 | .mk k s e body els line=>by simp only[St.nl,St.size,j7 body,j7 els]
theorem j7:∀l:List St,aI (lH l)=aI l
 | []=>by simp[lH]
 | x::l=>by simp only[lH,aI,Ia x,j7 l]
end
mutual
theorem Ib:∀x:St,x.nl.deep=x.deep
 | .mk k s e body els line=>by simp only[St.nl,St.deep,j8 body,j8 els]
theorem j8:∀l:List St,bj (lH l)=bj l
 | []=>by simp[lH]
 | x::l=>by simp only[lH,bj,Ib x,j8 l]
end
def PS(s:Bs)(nt:NS)(g:Nat)(w:Wd)(l:List St)(w':Wd):Prop:=∃F,∀f,F<=f->pS s f nt g w=some (.ok (l,w'))
theorem PS.of{s:Bs}{nt:NS}{g:Nat}{w w':Wd}{l:List St}(F:Nat)(h:∀f,F<=f->dk s (pE s f) (pS s f) nt g w=some (.ok (l,w'))):PS s nt g w l w':=
 ⟨F+1,fun f hf=>by
  obtain⟨f,rfl⟩:∃k,f=k+1:=⟨f-1,om⟩
  rw[gB]
  exact h f om⟩
variable {s:Bs} {g:Nat} {w w1 w2 w3 w4 w5 w':Wd} {e:Ex}
theorem PS.named{k:Nat}{K:Bs}(hk:(k=1/\K=[108,101,116])∨(k=2/\K=[115,101,116]))(hg:g<200)(h:w.k=3)(hK:w.S=K)(h1:aZ s w=.ok w1)(hn:w1.k=2)(h2:aZ s w1=.ok w2)
  (e1:dN w2 [[61]]=true) (h3:aZ s w2=.ok w3) (he:PE s (.rule 5) (g+1) w3 e w4) (e2:dN w4 [[59]]=true) (h4:aZ s w4=.ok w5):PS s .stmt g w [.mk k w1.S e [] [] w.line] w5:=by
 obtain⟨F,hF⟩:=he
 refine .of F fun f hf=>?_
 have hF:=hF f hf
 rcases hk with⟨rfl,rfl⟩ | ⟨rfl,rfl⟩ <;>
  simp[dk,il,ff,fK,jw,cJ,bp,h,hK,h1,hn,h2,e1,h3,hF,e2,h4,show ¬200<=g by omega]
theorem PS.ret(hg:g<200)(h:w.k=3)(hK:w.S=[114,101,116,117,114,110])(h1:aZ s w=.ok w1)(he:PE s (.rule 5) (g+1) w1 e w2)(e2:dN w2 [[59]]=true)(h4:aZ s w2=.ok w3) :
  PS s .stmt g w [.mk 5 [] e [] [] w.line] w3:=by
 obtain⟨F,hF⟩:=he
 refine .of F fun f hf=>?_
 have hF:=hF f hf
 simp[dk,il,fK,jw,cJ,bp,h,hK,h1,hF,e2,h4,show ¬200<=g by omega]
theorem PS.body{l:List St}(e1:dN w [[123]]=true)(h1:aZ s w=.ok w1)(hm:PS s (.more []) g w1 l w'):PS s .body g w l w':=by
 obtain⟨F,hF⟩:=hm
 exact .of F fun f hf=>by simp[dk,fK,cJ,e1,h1,hF f hf]
theorem PS.fin{out:List St}(e1:dN w [[125]]=true)(h1:aZ s w=.ok w1):PS s (.more out) g w out w1:=
 .of 0 fun f _=>by simp[dk,fK,bp,e1,h1]
theorem PS.next{out x l:List St}(e1:dN w [[125]]=false)(hx:PS s .stmt g w x w1)(hm:PS s (.more (out++x)) g w1 l w'):PS s (.more out) g w l w':=by
 obtain⟨F,hF⟩:=hx
 obtain⟨F',hF'⟩:=hm
 exact .of (F+F') fun f hf=>by simp[dk,jw,e1,hF f om,hF' f om]
theorem PS.loop{k:Nat}{K:Bs}{l:List St}(hk:(k=3/\K=[105,102])∨(k=4/\K=[119,104,105,108,101]))(hg:g<200)(h:w.k=3)(hK:w.S=K)(h1:aZ s w=.ok w1)(e1:dN w1 [[40]]=true)(h2:aZ s w1=.ok w2)
  (he:PE s (.rule 5) (g+1) w2 e w3) (e2:dN w3 [[41]]=true) (h3:aZ s w3=.ok w4) (hb:PS s .body (g+1) w4 l w5) (hl:il w5 [101,108,115,101]=false):PS s .stmt g w [.mk k [] e l [] w.line] w5:=by
 obtain⟨F,hF⟩:=he
 obtain⟨F',hF'⟩:=hb
 refine .of (F+F') fun f hf=>?_
 have hF:=hF f om
 have hF':=hF' f om
 have ky:∀S,il w S=decide (K=S):=fun S=>by unfold il; rw[h,hK]; rfl
 rcases hk with⟨rfl,rfl⟩ | ⟨rfl,rfl⟩ <;>
  simp[dk,ky,eM,fK,jw,cJ,bp,h1,h2,e1,h3,hF,hF',e2,hl,show ¬200<=g by omega]
theorem PS.cond{l m:List St}(hg:g<200)(h:w.k=3)(hK:w.S=[105,102])(h1:aZ s w=.ok w1)(e1:dN w1 [[40]]=true)(h2:aZ s w1=.ok w2)
  (he:PE s (.rule 5) (g+1) w2 e w3) (e2:dN w3 [[41]]=true) (h3:aZ s w3=.ok w4) (hb:PS s .body (g+1) w4 l w5) (hl:il w5 [101,108,115,101]=true) {w6:Wd} (h5:aZ s w5=.ok w6)
  (hm:PS s .body (g+1) w6 m w'):PS s .stmt g w [.mk 3 [] e l m w.line] w':=by
 obtain⟨F,hF⟩:=he
 obtain⟨F',hF'⟩:=hb
 obtain⟨F'',hF''⟩:=hm
 refine .of (F+F'+F'') fun f hf=>?_
 have hF:=hF f om
 have hF':=hF' f om
 have hF'':=hF'' f om
 have ky:∀S,il w S=decide (([105,102]:Bs)=S):=fun S=>by unfold il; rw[h,hK]; rfl
 simp[dk,ky,eM,fK,jw,cJ,bp,h1,h2,e1,h3,hF,hF',hF'',e2,hl,h5,show ¬200<=g by omega]
def nA(k:Nat):Bs:=if k=1 then [108,101,116] else if k=2 then [115,101,116] else if k=3 then [105,102] else if k=4 then [119,104,105,108,101] else [114,101,116,117,114,110]
def lM(k:Nat)(s:Bs)(lev:Nat)(x b c:Bs)(noElse:Bool):Bs:=
 if k=1∨k=2 then s++32::([61]++32::(x++([59]++[10])))
 else if k=5 then x++([59]++[10])
 else [40]++(x++([41]++32::([123]++10::(b++((if noElse then [] else cg lev++([125]++32::([101,108,115,101]++32::([123]++10::c))))++(cg lev++([125]++[10])))))))
theorem td{k:Nat}(h1:1<=k)(h5:k<=5)(s:Bs)(lev:Nat)(x b c:Bs)(noElse:Bool):dA k s lev x b c noElse=cg lev++(nA k++32::lM k s lev x b c noElse):=by
 match k,h1,h5 with
 | 1,_,_ | 2,_,_ | 5,_,_=>simp[dA,nA,lM]
 | 3,_,_ | 4,_,_=>cases noElse <;> simp[dA,nA,lM]
theorem kU{k:Nat}{s:Bs}{e:Ex}{body els:List St}{line:Int}(h:pn (.mk k s e body els line)=true) :
  iX e=true/\cH body=true/\cH els=true/\(((k=1∨k=2)/\Nm s/\body=[]/\els=[])∨(k=3/\s=[])∨(k=4/\s=[]/\els=[])∨(k=5/\s=[]/\body=[]/\els=[])):=by
 simp only[pn,N4]at h
 obtain⟨h1,h2,h3,h4⟩:=h
 refine⟨h2,h3,h4,?_⟩
 have nil:∀{l:List St},Nat.beq l.length 0=true->l=[]:=fun h=>List.length_eq_zero_iff.1 (N8 h)
 unfold bV at h1
 by_cases c1:k=1∨k=2
 ·rw[if_pos c1]at h1
  simp only[N4]at h1
  exact .inl ⟨c1,ED h1.1,nil h1.2.1,nil h1.2.2⟩
 rw[if_neg c1]at h1
 by_cases c3:k=3
 ·rw[if_pos c3]at h1
  exact .inr (.inl ⟨c3,by simpa using h1⟩)
 rw[if_neg c3]at h1
 by_cases c4:k=4
 ·rw[if_pos c4]at h1
  simp only[N4]at h1
  exact .inr (.inr (.inl ⟨c4,by simpa using h1.1,nil h1.2⟩))
 rw[if_neg c4]at h1
 by_cases c5:k=5
 ·rw[if_pos c5]at h1
  simp only[N4]at h1
  exact .inr (.inr (.inr ⟨c5,by simpa using h1.1,nil h1.2.1,nil h1.2.2⟩))
 rw[if_neg c5]at h1
 simp at h1
theorem AU{k:Nat}{s:Bs}{body els:List St}(h:((k=1∨k=2)/\Nm s/\body=[]/\els=[])∨(k=3/\s=[])∨(k=4/\s=[]/\els=[])∨(k=5/\s=[]/\body=[]/\els=[])):1<=k/\k<=5:=by
 rcases h with⟨h,_⟩ | ⟨h,_⟩ | ⟨h,_⟩ | ⟨h,_⟩ <;> omega
theorem AV{k:Nat}(h1:1<=k)(h5:k<=5):nA k∈([[108,101,116],[115,101,116],[105,102],[101,108,115,101],[119,104,105,108,101],[114,101,116,117,114,110]]:List Bs)/\nA k≠[101,108,115,101]:=by
 match k,h1,h5 with
 | 1,_,_ | 2,_,_ | 3,_,_ | 4,_,_ | 5,_,_=>decide
theorem qg{x:St}(ho:pn x=true){lev:Nat}{r:Bs}(hl:s.length<=16384)(hs:ft lev x++r <:+ s):∃w,Tk s (ft lev x++r) w/\w.k=3/\w.S≠[101,108,115,101]:=by
 obtain⟨k,S,e,body,els,line⟩:=x
 obtain⟨_,_,_,hp⟩:=kU ho
 obtain⟨h1,h5⟩:=AU hp
 obtain⟨m1,m2⟩:=AV h1 h5
 simp only[ft]at hs ⊢
 rw[td h1 h5,Oe,Oe,Oj]at hs ⊢
 obtain⟨w,t1,t2,t3,_⟩:=dQ hl (aJ hs) (yp m1 _)
 exact⟨w,(hD hs).2 t1,t2,by rw[t3]; exact m2⟩
theorem jV(lev:Nat)(x:St)(l:List St):aF lev (x::l)=ft lev x++aF lev l:=rfl
theorem i6{lev:Nat}:∀{l:List St} {r:Bs},cH l=true->s.length<=16384->aF lev l++r <:+ s->(∃w,Tk s r w/\il w [101,108,115,101]=false)->∃w,Tk s (aF lev l++r) w/\il w [101,108,115,101]=false
 | [],r,_,_,_,h=>by simpa[aF] using h
 | x::l,r,ho,hl,hs,_=>by
  simp only[cH,N4]at ho
  rw[jV,Oe]at hs ⊢
  obtain⟨w,h1,_,h3⟩:=qg ho.1 hl hs
  exact⟨w,h1,by unfold il; rw[decide_eq_false h3,Bool.and_false]⟩
def JV(x:St):Prop:=∀(s r:Bs) (lev g:Nat) (w w':Wd),Tk s (ft lev x++r) w->Tk s r w'->il w' [101,108,115,101]=false->g+2*x.deep<=200->∃x',PS s .stmt g w [x'] w'/\x'.nl=x.nl
theorem ny{lev lev':Nat}{r:Bs}(ht':Tk s r w'):∀(l:List St) (out:List St) (w:Wd),(∀x∈l,JV x/\pn x=true/\g+2*x.deep<=200) ->
  Tk s (aF lev l++(cg lev'++([125]++r))) w->∃l',PS s (.more out) g w (out++l') w'/\lH l'=lH l
 | [],out,w,_,ht=>by
  simp only[aF,List.nil_append]at ht
  have ht2:=(hD ht.1).1 ht
  obtain⟨t1,t2,_,t4⟩:=qe ht2 (dP (c:=125) dD r)
  refine⟨[],?_,rfl⟩
  rw[List.append_nil]
  exact PS.fin (by rw[cD t1 t2]; decide) (t4 w' ht')
 | x::l,out,w,hk,ht=>by
  obtain⟨k1,k2,k3⟩:=hk x (by simp)
  have hok:cH l=true:=by
   have:∀l:List St,(∀x∈l,pn x=true)->cH l=true:=by
    intro l
    induction l with
    | nil=>intro _; rfl
    | cons y l ih=>intro h; simp only[cH,h y (by simp),ih fun z hz=>h z (by simp[hz]),Bool.and_self]
   exact this l fun y hy=>(hk y (by simp[hy])).2.1
  rw[jV,Oe]at ht
  obtain⟨w0,hw0,hk0,_⟩:=qg k2 ht.long ht.1
  have hk3:w.k=3:=by rw[ht.fn hw0]; exact hk0
  have hsf:=aJ ht.1
  have hsf2:=aJ hsf
  obtain⟨wb,hwb,b1,_⟩:=dQ ht.long (aJ hsf2) (dP (c:=125) dD r)
  obtain⟨w1,hw1,hne⟩:=i6 (lev:=lev) hok ht.long hsf ⟨wb,(hD hsf2).2 hwb,by unfold il; rw[b1]; rfl⟩
  obtain⟨x',hx,nx⟩:=k1 s _ lev g w w1 ht hw1 hne k3
  obtain⟨l',hl',nl'⟩:=ny ht' l (out++[x']) w1 (fun y hy=>hk y (by simp[hy])) hw1
  refine⟨x'::l',?_,by simp only[lH,nx,nl']⟩
  rw[Oe]at hl'
  exact PS.next (D0 om) hx hl'
theorem qu{k:Nat}{S:Bs}{e:Ex}{body els:List St}{line:Int}(h:lX (.mk k S e body els line)=true):dj e=true/\bR body=true/\bR els=true:=by
 simp only[lX,N4]at h
 exact⟨h.1.1,h.2⟩
theorem vk{x:St}:∀{l:List St},x∈l->x.deep<=bj l
 | y::l,h=>by
  simp only[bj]
  rcases List.mem_cons.1 h with rfl | h
  ·omega
  ·have:=vk h; omega
theorem yk{x:St}:∀{l:List St},x∈l->x.size<=aI l
 | y::l,h=>by
  simp only[aI]
  rcases List.mem_cons.1 h with rfl | h
  ·omega
  ·have:=yk h; omega
theorem qh:∀(N:Nat) (x:St),x.size<=N->pn x=true->lX x=true->JV x
 | 0,.mk k S e body els line,h,_,_=>by simp only[St.size]at h; omega
 | N+1,.mk k S e body els line,h,ho,hr=>by
  obtain⟨oe,ob,oel,hp⟩:=kU ho
  obtain⟨re,rb,rel⟩:=qu hr
  obtain⟨h1,h5⟩:=AU hp
  obtain⟨m1,m2⟩:=AV h1 h5
  have hsz:(St.mk k S e body els line).size=e.size+aI body+aI els+1:=by simp only[St.size]
  have hdp:(St.mk k S e body els line).deep=max e.deep (max (bj body) (bj els))+1:=by simp only[St.deep]
  have ihb:∀x∈body,JV x:=fun x hx=>qh N x (by have:=yk hx; omega) (gK ob hx) (kR rb hx)
  have ihe:∀x∈els,JV x:=fun x hx=>qh N x (by have:=yk hx; omega) (gK oel hx) (kR rel hx)
  intro s r lev g w w' ht ht' hel hg
  simp only[ft]at ht
  rw[td h1 h5,Oe,Oe,Oj]at ht
  have ht2:=(hD ht.1).1 ht
  obtain⟨t1,t2,_,t4⟩:=qe ht2 (yp m1 _)
  have hsf:=aJ ht2.1
  have hsf0:=ci hsf
  have hl:=ht.long
  have st1:∀w1,Tk s (lM k S lev (bF e) (aF (lev+1) body) (aF (lev+1) els) els.isEmpty++r) w1->aZ s w=.ok w1:=fun w1 h=>t4 w1 ((bX hsf dD).2 h)
  rcases hp with⟨hk,hS,rfl,rfl⟩ | hp
  ·have e0:lM k S lev (bF e) (aF (lev+1) []) (aF (lev+1) []) ([]:List St).isEmpty++r=S++32::([61]++32::(bF e++([59]++10::r))):=by simp[lM,hk]
   rw[e0]at st1 hsf0
   obtain⟨w1,hw1,a1,a2,_,a4⟩:=dQ hl hsf0 (mX hS Br)
   have f1:=aJ hsf0
   obtain⟨w2,hw2,b1,b2,_,b4⟩:=dQ hl (ci f1) (mV (t:=[61]) dD _)
   have f2:=aJ (ci f1)
   have f3:=aJ (ci f2)
   obtain⟨w3,hw3⟩:=qR oe re (r:=[59]++10::r) Bq hl (ci f2)
   obtain⟨w4,hw4,c1,c2,_,c4⟩:=dQ hl f3 (dP (c:=59) dD _)
   have f4:=aJ f3
   have hq:nS w4:=fun _=>by rw[c2]; decide
   have he:=qS oe re s _ w3 w4 (g+1) hw3 hw4 Bq hq om
   have hkk:(k=1/\nA k=[108,101,116])∨(k=2/\nA k=[115,101,116]):=by
    rcases hk with rfl | rfl
    ·exact .inl ⟨rfl,rfl⟩
    ·exact .inr ⟨rfl,rfl⟩
   have:=PS.named hkk (g:=g) om t1 t2 (st1 w1 hw1) a1 (a4 w2 ((bX f1 dD).2 hw2)) (by rw[cD b1 b2]; decide) (b4 w3 ((bX f2 dD).2 hw3)) he (by rw[cD c1 c2]; decide)
    (c4 w' ((bX f4 dD).2 ht'))
   exact⟨_,this,by simp only[St.nl,lH,a2]⟩
  by_cases k5:k=5
  ·subst k5
   obtain⟨rfl,rfl,rfl⟩:S=[]/\body=[]/\els=[]:=by
    rcases hp with⟨h,_⟩ | ⟨h,_⟩ | ⟨_,h⟩
    ·omega
    ·omega
    ·exact h
   have e0:lM 5 [] lev (bF e) (aF (lev+1) []) (aF (lev+1) []) ([]:List St).isEmpty++r=bF e++([59]++10::r):=by simp[lM]
   rw[e0]at st1 hsf0
   obtain⟨w3,hw3⟩:=qR oe re (r:=[59]++10::r) Bq hl hsf0
   have f3:=aJ hsf0
   obtain⟨w4,hw4,c1,c2,_,c4⟩:=dQ hl f3 (dP (c:=59) dD _)
   have f4:=aJ f3
   have hq:nS w4:=fun _=>by rw[c2]; decide
   have he:=qS oe re s _ w3 w4 (g+1) hw3 hw4 Bq hq om
   have:=PS.ret (g:=g) om t1 t2 (st1 w3 hw3) he (by rw[cD c1 c2]; decide) (c4 w' ((bX f4 dD).2 ht'))
   exact⟨_,this,by simp only[St.nl,lH]⟩
  have hS:S=[]:=by
   rcases hp with⟨_,h⟩ | ⟨_,h,_⟩ | ⟨_,h,_⟩ <;> exact h
  subst hS
  have hkk:(k=3/\nA k=[105,102])∨(k=4/\nA k=[119,104,105,108,101]):=by
   rcases hp with⟨rfl,_⟩ | ⟨rfl,_⟩ | ⟨h,_⟩
   ·exact .inl ⟨rfl,rfl⟩
   ·exact .inr ⟨rfl,rfl⟩
   ·omega
  have k12:¬(k=1∨k=2):=by rcases hkk with⟨h,_⟩ | ⟨h,_⟩ <;> omega
  obtain⟨R,hR⟩:∃R,R=(if els.isEmpty then [] else cg lev++([125]++32::([101,108,115,101]++32::([123]++10::aF (lev+1) els))))++(cg lev++([125]++10::r)):=⟨_,rfl⟩
  have e0:lM k [] lev (bF e) (aF (lev+1) body) (aF (lev+1) els) els.isEmpty++r=[40]++(bF e++([41]++32::([123]++10::(aF (lev+1) body++R)))):=by
   rw[hR,lM,if_neg k12,if_neg k5]
   simp
  rw[e0]at st1 hsf0
  obtain⟨w1,hw1,a1,a2,_,a4⟩:=dQ hl hsf0 (dP (c:=40) dD _)
  have f1:=aJ hsf0
  obtain⟨w2,hw2⟩:=qR oe re (r:=[41]++32::([123]++10::(aF (lev+1) body++R))) tW hl f1
  have f2:=aJ f1
  obtain⟨w3,hw3,b1,b2,_,b4⟩:=dQ hl f2 (dP (c:=41) dD _)
  have f3:=aJ f2
  obtain⟨w4,hw4,c1,c2,_,c4⟩:=dQ hl (ci f3) (dP (c:=123) dD _)
  have f4:=aJ (ci f3)
  have f5:=ci f4
  have f6:=aJ f5
  have hq:nS w3:=fun _=>by rw[b2]; decide
  have he:=qS oe re s _ w2 w3 (g+1) hw2 hw3 tW hq om
  have hkb:∀x∈body,JV x/\pn x=true/\g+1+2*x.deep<=200:=fun x hx=>⟨ihb x hx,gK ob hx,by have:=vk hx; omega⟩
  have hke:∀x∈els,JV x/\pn x=true/\g+1+2*x.deep<=200:=fun x hx=>⟨ihe x hx,gK oel hx,by have:=vk hx; omega⟩
  have hs3:=b4 w4 ((bX f3 dD).2 hw4)
  by_cases hem:els=[]
  ·subst hem
   have hR':R=cg lev++([125]++10::r):=by rw[hR]; simp
   rw[hR']at f6 f5 f4 c4
   obtain⟨wb,hwb,d1,_⟩:=dQ hl (aJ f6) (dP (c:=125) dD (10::r))
   obtain⟨w5,hw5,_⟩:=i6 ob hl f5 ⟨wb,(hD f6).2 hwb,by unfold il; rw[d1]; rfl⟩
   have f7:=aJ (aJ f6)
   obtain⟨l',hl',nl'⟩:=ny (g:=g+1) ((bX f7 dD).2 ht') body [] w5 hkb hw5
   have:=PS.loop hkk (g:=g) om t1 t2 (st1 w1 hw1) (by rw[cD a1 a2]; decide) (a4 w2 hw2) he (by rw[cD b1 b2]; decide) hs3 (PS.body (by rw[cD c1 c2]; decide) (c4 w5 ((bX f4 dD).2 hw5)) hl') hel
   exact⟨_,this,by simp only[St.nl,nl',List.nil_append]⟩
  ·have hk3:k=3:=by
    rcases hp with⟨h,_⟩ | ⟨_,_,h⟩ | ⟨h,_⟩
    ·exact h
    ·exact absurd h hem
    ·omega
   subst hk3
   have hie:els.isEmpty=false:=by cases els with
    | nil=>exact absurd rfl hem
    | cons _ _=>rfl
   have hR':R=cg lev++([125]++32::([101,108,115,101]++32::([123]++10::(aF (lev+1) els++(cg lev++([125]++10::r)))))):=by
    rw[hR,hie]; simp
   rw[hR']at f6 f5 f4 c4
   obtain⟨wb,hwb,d1,_⟩:=dQ hl (aJ f6) (dP (c:=125) dD _)
   obtain⟨w5,hw5,_⟩:=i6 ob hl f5 ⟨wb,(hD f6).2 hwb,by unfold il; rw[d1]; rfl⟩
   have f7:=aJ (aJ f6)
   obtain⟨w6,hw6,u1,u2,_,u4⟩:=dQ hl (ci f7) (yp (S:=[101,108,115,101]) dD _)
   have f8:=aJ (ci f7)
   obtain⟨w7,hw7,v1,v2,_,v4⟩:=dQ hl (ci f8) (dP (c:=123) dD _)
   have f9:=aJ (ci f8)
   have f10:=ci f9
   have f11:=aJ f10
   obtain⟨wc,hwc,x1,_⟩:=dQ hl (aJ f11) (dP (c:=125) dD (10::r))
   obtain⟨w8,hw8,_⟩:=i6 oel hl f10 ⟨wc,(hD f11).2 hwc,by unfold il; rw[x1]; rfl⟩
   have f12:=aJ (aJ f11)
   obtain⟨l',hl',nl'⟩:=ny (g:=g+1) ((bX f7 dD).2 hw6) body [] w5 hkb hw5
   obtain⟨m',hm',nm'⟩:=ny (g:=g+1) ((bX f12 dD).2 ht') els [] w8 hke hw8
   have:=PS.cond (g:=g) om t1 t2 (st1 w1 hw1) (by rw[cD a1 a2]; decide) (a4 w2 hw2) he (by rw[cD b1 b2]; decide) hs3 (PS.body (by rw[cD c1 c2]; decide) (c4 w5 ((bX f4 dD).2 hw5)) hl')
    (by unfold il; rw[u1,u2]; rfl) (u4 w7 ((bX f8 dD).2 hw7)) (PS.body (by rw[cD v1 v2]; decide) (v4 w8 ((bX f9 dD).2 hw8)) hm')
   exact⟨_,this,by simp only[St.nl,nl',nm',List.nil_append]⟩
theorem Aq{lev:Nat}:∀(l:List St) (out:List St) (w:Wd),(∀x∈l,JV x/\pn x=true/\2*x.deep<=200)->Tk s (aF lev l) w->∃l',(∃F,∀f,F<=f->gA s f out w=some (.ok (out++l')))/\lH l'=lH l
 | [],out,w,_,ht=>by
  simp only[aF]at ht
  obtain⟨w1,h1,h2⟩:=yf ht.long
  have h5:w.k=5:=by rw[ht.fn h1]; exact h2
  refine⟨[],⟨1,fun f hf=>?_⟩,rfl⟩
  obtain⟨f,rfl⟩:∃k,f=k+1:=⟨f-1,om⟩
  rw[gA,if_pos h5,List.append_nil]
 | x::l,out,w,hk,ht=>by
  obtain⟨k1,k2,k3⟩:=hk x (by simp)
  have hok:cH l=true:=by
   have:∀l:List St,(∀x∈l,pn x=true)->cH l=true:=by
    intro l
    induction l with
    | nil=>intro _; rfl
    | cons y l ih=>intro h; simp only[cH,h y (by simp),ih fun z hz=>h z (by simp[hz]),Bool.and_self]
   exact this l fun y hy=>(hk y (by simp[hy])).2.1
  rw[jV]at ht
  obtain⟨w0,hw0,hk0,_⟩:=qg k2 ht.long ht.1
  have hk3:w.k=3:=by rw[ht.fn hw0]; exact hk0
  have hsf:=aJ ht.1
  obtain⟨wb,hwb,b1⟩:=yf ht.long
  obtain⟨w1,hw1,hne⟩:=i6 (lev:=lev) (r:=[]) hok ht.long (by rw[List.append_nil]; exact hsf) ⟨wb,hwb,by unfold il; rw[b1]; rfl⟩
  rw[List.append_nil]at hw1
  obtain⟨x',⟨F,hF⟩,nx⟩:=k1 s _ lev 0 w w1 ht hw1 hne om
  obtain⟨l',⟨F',hF'⟩,nl'⟩:=Aq l (out++[x']) w1 (fun y hy=>hk y (by simp[hy])) hw1
  refine⟨x'::l',⟨F+F'+1,fun f hf=>?_⟩,by simp only[lH,nx,nl']⟩
  obtain⟨f,rfl⟩:∃k,f=k+1:=⟨f-1,om⟩
  have:=hF' f om
  rw[Oe]at this
  rw[gA,if_neg om,hF f om]
  exact this
open Go.Abs Go.Abs.S
theorem uM{n:Int}(h1:-9223372036854775808<=n)(h2:n<=9223372036854775807):(bb n).length<=100:=by
 have h3:=qX 9 (n.natAbs / 4294967296) om
 have h4:(hZ (n.natAbs % 4294967296)).length<=33:=by
  unfold hZ
  split
  ·simp
  ·have:=CK 32 (n.natAbs % 4294967296)
   simp[cQ]; omega
 unfold bb
 rw[lA,lA,lB]
 split
 ·simp; omega
 ·simp; omega
theorem CT:∀l:List Bs,(bz l).length<=l.flatten.length+2*l.length
 | []=>by simp[bz]
 | a::l=>by
  have h:∀l:List Bs,(l.flatMap fun t=>(44:UInt8)::32::t).length<=l.flatten.length+2*l.length:=by
   intro l
   induction l with
   | nil=>simp
   | cons x l ih=>simp only[List.flatMap_cons,lA,N5,List.flatten_cons]; omega
  have:=h l
  simp only[bz,lA,List.flatten_cons,N5]; omega
theorem yo{k:Nat}{s:Bs}{n:Int}{ts:List Bs}(h1:-9223372036854775808<=n)(h2:n<=9223372036854775807)(hs:s.length<=16384):(cC k s n ts).length<=17000+ts.flatten.length+2*ts.length:=by
 have:=uM h1 h2
 have:=CT ts
 unfold cC
 split
 ·omega
 split
 ·omega
 split
 ·simp only[lA,N5,N6]; omega
 split
 ·simp only[lA,N5,List.flatten_cons,List.flatten_nil,N6]; omega
 ·simp only[lA,N5,List.flatten_cons,List.flatten_nil,N6]; omega
 ·simp
theorem HX{k:Nat}{s:Bs}{n:Int}{kids:List Ex}(h:iX (.mk k s n kids)=true):s.length<=16384:=by
 obtain⟨_,h⟩:=gL h
 rcases h with⟨_,_,rfl,_⟩ | ⟨_,_,h,_⟩ | ⟨_,_,h⟩ | ⟨_,_,h⟩
 ·simp
 ·exact h.len
 ·have key:∀S∈([[124,124],[38,38],[61,61],[33,61],[60,61],[62,61],[60],[62],[43],[45],[42],[47],[33]]:List Bs),S.length<=16384:=by decide
  refine key s ?_
  rcases uJ h with⟨hn,_⟩ | ⟨hn,_⟩
  ·rw[hn]at h
   simp only[oT,List.contains_eq_mem,Od]at h
   revert s
   intro s _ hs
   simp only[List.mem_cons,List.not_mem_nil,or_false]at hs ⊢
   rcases hs with rfl | rfl <;> simp
  ·rw[hn]at h
   simp only[oT,List.contains_eq_mem,Od]at h
   simp only[List.mem_cons,List.not_mem_nil,or_false]at h ⊢
   rcases h with rfl | rfl | rfl | rfl | rfl | rfl | rfl | rfl | rfl | rfl | rfl | rfl <;> simp
 ·exact h.len
theorem oV:∀l:List Ex,l.length<=br l
 | []=>by simp[br]
 | e::l=>by
  have:=oV l
  have h:0<e.size:=by cases e; simp only[Ex.size]; omega
  simp only[br,N5]; omega
mutual
theorem ta:∀(e:Ex),iX e=true->dj e=true->(bF e).length+4<=20000*e.size
 | .mk k s n kids,h1,h2=>by
  have ht:=HX h1
  have h1:=(gL h1).1
  simp only[dj,N4,Od]at h2
  have h3:=qo kids h1 h2.2
  have h4:=yo (k:=k) (ts:=gn kids) h2.1.1 h2.1.2 ht
  have h5:(gn kids).length=kids.length:=by rw[fA,List.length_map]
  have h6:=oV kids
  simp only[bF,Ex.size]
  omega
theorem qo:∀(l:List Ex),fl l=true->eY l=true->(gn l).flatten.length+2*l.length<=20000*br l
 | [],_,_=>by simp[gn]
 | e::l,h1,h2=>by
  simp only[fl,eY,N4]at h1 h2
  have h3:=ta e h1.1 h2.1
  have h4:=qo l h1.2 h2.2
  simp only[gn,List.flatten_cons,lA,br,N5]
  split
  ·simp only[lA,N5,N6]; omega
  ·omega
end
theorem B8(n:Nat):(cg n).length=n:=List.length_replicate
theorem yn{k:Nat}{s:Bs}{lev:Nat}{x b c:Bs}{no:Bool}(hl:lev<=200)(hs:s.length<=16384):(dA k s lev x b c no).length<=17000+x.length+b.length+c.length:=by
 have ht:=B8 lev
 unfold dA
 rw[lA]
 split
 ·simp only[lA,N5,N6]; omega
 split
 ·simp only[lA,N5,N6]; omega
 split
 ·simp only[lA,N5,N6]; omega
 ·cases no <;> split <;> simp only[lA,N5,N6,if_true,if_false,Oc] <;> omega
theorem Ez{k:Nat}{s:Bs}{e:Ex}{body els:List St}{line:Int}(h:pn (.mk k s e body els line)=true):s.length<=16384:=by
 obtain⟨_,_,_,h⟩:=kU h
 rcases h with⟨_,h,_⟩ | ⟨_,rfl⟩ | ⟨_,rfl,_⟩ | ⟨_,rfl,_⟩
 ·exact h.len
 ·simp
 ·simp
 ·simp
mutual
theorem DY:∀(lev:Nat) (x:St),pn x=true->lX x=true->lev+x.deep<=200->(ft lev x).length<=40000*x.size
 | lev,.mk k s e body els line,h1,h2,h3=>by
  have ht:=Ez h1
  obtain⟨o1,o2,o3,_⟩:=kU h1
  obtain⟨r1,r2,r3⟩:=qu h2
  simp only[St.deep]at h3
  have a1:=ta e o1 r1
  have a2:=kP (lev+1) body o2 r2 om
  have a3:=kP (lev+1) els o3 r3 om
  have a4:=yn (k:=k) (s:=s) (lev:=lev) (x:=bF e) (b:=aF (lev+1) body) (c:=aF (lev+1) els) (no:=els.isEmpty) om ht
  simp only[ft,St.size]
  omega
theorem kP:∀(lev:Nat) (l:List St),cH l=true->bR l=true->lev+bj l<=200->(aF lev l).length<=40000*aI l
 | lev,[],_,_,_=>by simp[aF]
 | lev,x::l,h1,h2,h3=>by
  simp only[cH,bR,bj,N4]at h1 h2 h3
  have a1:=DY lev x h1.1 h2.1 om
  have a2:=kP lev l h1.2 h2.2 om
  simp only[aF,aI,lA]; omega
end
theorem v8{l:List St}(h:cE l=true)(hr:bR l=true):(aF 0 l).length<=1000000000:=by
 simp only[cE,jO,N4,Od]at h
 have:=kP 0 l h.1 hr om
 omega
def Mo{α:Type}(o o':Option α):Prop:=∀r,o=some r->o'=some r
theorem Mo.refl{α:Type}(o:Option α):Mo o o:=fun _ h=>h
theorem dY{α:Type}{o:Except Aa Wd}{f f':Wd->Option (eD α)}(h:∀w,Mo (f w) (f' w)):Mo (fK o f) (fK o f'):=by
 cases o with
 | error e=>exact .refl _
 | ok w=>exact h w
theorem gN{α β:Type}{o o':Option (eD α)}{f f':α->Wd->Option (eD β)}(ho:Mo o o')(h:∀a w,Mo (f a w) (f' a w)):Mo (jw o f) (jw o' f'):=by
 cases o with
 | none=>intro r q; simp[jw]at q
 | some x=>
  rw[ho x rfl]
  cases x with
  | error e=>exact .refl _
  | ok p=>exact h p.1 p.2
theorem EI{s:Bs}{rec rec':NT->Nat->Wd->Option (eD Ex)}(h:∀nt g w,Mo (rec nt g w) (rec' nt g w)):∀nt g w,Mo (bJ s rec nt g w) (bJ s rec' nt g w):=by
 intro nt g w
 cases nt with
 | rule k=>
  cases k with
  | zero=>
   simp only[bJ]
   split
   ·exact .refl _
   split
   ·exact dY fun w1=>gN (h _ _ _) fun e w2=>.refl _
   ·exact h _ _ _
  | succ k=>
   simp only[bJ]
   exact gN (h _ _ _) fun e w1=>h _ _ _
 | loop k e=>
  simp only[bJ]
  split
  ·refine dY fun w1=>gN (h _ _ _) fun r w2=>?_
   split
   ·exact .refl _
   ·exact h _ _ _
  ·exact .refl _
 | prim=>
  simp only[bJ]
  split
  ·exact .refl _
  split
  ·refine dY fun w1=>?_
   split
   ·refine dY fun w2=>?_
    split
    ·exact .refl _
    ·exact h _ _ _
   ·exact .refl _
  split
  ·exact dY fun w1=>gN (h _ _ _) fun e w2=>.refl _
  ·exact .refl _
 | args S out=>
  simp only[bJ]
  refine gN (h _ _ _) fun e w1=>?_
  split
  ·exact dY fun w2=>h _ _ _
  ·exact .refl _
theorem Jt(s:Bs):∀(f:Nat) (nt:NT) (g:Nat) (w:Wd),Mo (pE s f nt g w) (pE s (f+1) nt g w)
 | 0,_,_,_=>fun r q=>by simp[pE]at q
 | f+1,nt,g,w=>by
  rw[fd,fd s (f+1)]
  exact EI (Jt s f) nt g w
theorem EH{s:Bs}{pe pe':NT->Nat->Wd->Option (eD Ex)}(he:∀nt g w,Mo (pe nt g w) (pe' nt g w)){rec rec':NS->Nat->Wd->Option (eD (List St))}(h:∀nt g w,Mo (rec nt g w) (rec' nt g w)) :
  ∀nt g w,Mo (dk s pe rec nt g w) (dk s pe' rec' nt g w):=by
 intro nt g w
 have named:∀k line g w,Mo (ff s pe k line g w) (ff s pe' k line g w):=by
  intro k line g w
  unfold ff
  split
  ·exact dY fun w1=>dY fun w2=>gN (he _ _ _) fun e w3=>.refl _
  ·exact .refl _
 have asked:∀g w (F F':Ex->List St->Wd->Option (eD (List St))),(∀e l w,Mo (F e l w) (F' e l w))->Mo (eM s pe rec g w F) (eM s pe' rec' g w F'):=by
  intro g w F F' hF
  unfold eM
  exact dY fun w1=>gN (he _ _ _) fun e w2=>dY fun w3=>gN (h _ _ _) fun l w4=>hF e l w4
 cases nt with
 | stmt=>
  simp only[dk]
  split
  ·exact .refl _
  split
  ·exact dY fun w1=>named _ _ _ _
  split
  ·exact dY fun w1=>named _ _ _ _
  split
  ·refine dY fun w1=>asked _ _ _ _ fun e l w2=>?_
   split
   ·exact dY fun w3=>gN (h _ _ _) fun m w4=>.refl _
   ·exact .refl _
  split
  ·exact dY fun w1=>asked _ _ _ _ fun e l w2=>.refl _
  split
  ·exact dY fun w1=>gN (he _ _ _) fun e w2=>.refl _
  ·exact .refl _
 | body=>
  simp only[dk]
  exact dY fun w1=>h _ _ _
 | more out=>
  simp only[dk]
  split
  ·exact .refl _
  ·exact gN (h _ _ _) fun x w1=>h _ _ _
theorem Js(s:Bs):∀(f:Nat) (nt:NS) (g:Nat) (w:Wd),Mo (pS s f nt g w) (pS s (f+1) nt g w)
 | 0,_,_,_=>fun r q=>by simp[pS]at q
 | f+1,nt,g,w=>by
  rw[gB,gB s (f+1)]
  exact EH (Jt s f) (Js s f) nt g w
theorem EG(s:Bs):∀(f:Nat) (out:List St) (w:Wd),Mo (gA s f out w) (gA s (f+1) out w)
 | 0,_,_=>fun r q=>by simp[gA]at q
 | f+1,out,w=>by
  intro r q
  unfold gA at q ⊢
  by_cases c:w.k=5
  ·rw[if_pos c]at q ⊢; exact q
  rw[if_neg c]at q ⊢
  cases hp:pS s f .stmt 0 w with
  | none=>rw[hp]at q; simp at q
  | some x=>
   rw[hp]at q
   rw[Js s f .stmt 0 w x hp]
   cases x with
   | error e=>exact q
   | ok p=>exact EG s f _ _ r q
theorem tB{s:Bs}{out:List St}{w:Wd}{f:Nat}:∀{k:Nat},Mo (gA s f out w) (gA s (f+k) out w)
 | 0=>.refl _
 | k+1=>fun r q=>EG s (f+k) out w r (tB (k:=k) r q)
theorem yG{l:List St}(h:cE l=true)(hr:bR l=true)(hl:(aF 0 l).length<=16384):∃l',dC (aF 0 l)=.ok l'/\lH l'=lH l:=by
 have hp:=h
 simp only[cE,jO,N4,Od]at hp
 obtain⟨ho,hz,hd⟩:=hp
 have hk:∀x∈l,JV x/\pn x=true/\2*x.deep<=200:=fun x hx=>⟨qh _ x rL (gK ho hx) (kR hr hx),gK ho hx,by have:=vk hx; omega⟩
 obtain⟨we,he,hk5⟩:=yf hl
 obtain⟨w,hw,_⟩:=i6 (s:=aF 0 l) (lev:=0) (l:=l) (r:=[]) ho hl (by rw[List.append_nil]; exact List.suffix_refl _) ⟨we,he,by unfold il; rw[hk5]; rfl⟩
 rw[List.append_nil]at hw
 obtain⟨l',⟨F,hF⟩,hn⟩:=Aq l [] w hk hw
 have hw0:cM (aF 0 l) 0=.ok w:=by have:=hw.2; rwa [Nat.sub_self]at this
 obtain⟨r,hr'⟩:=wQ hw0
 have e1:=hF (oY (aF 0 l)+F) om
 rw[tB r hr']at e1
 rw[List.nil_append,sJ]at e1
 subst e1
 refine⟨l',?_,hn⟩
 have hfit:jO l'=true:=by
  unfold jO
  rw[<- j7,<- j8,hn,j7,j8,decide_eq_true hz,decide_eq_true hd]; rfl
 unfold dC
 rw[hw0]
 simp only[hr',hfit,if_true]
def WR(w:Wd):Prop:=w.n<9223372036854775808/\w.line<=20000
theorem HI{s:Bs}{n:Nat}(h:ek s=some n):n<9223372036854775808:=by
 unfold ek at h
 split at h
 ·rename_i hc
  simp only[sJ]at h
  have hf:iH (iI (behind s))<2 ^ 32:=Bb fun d hd=>by
   obtain⟨c,hc',rfl⟩:=List.mem_map.1 hd
   have:=(wH hc.1).2 c hc'
   simp only[dig,N4,Od]at this
   simp only[dv]; omega
  have h2:=hc.2
  rw[<- h]
  have:(2:Nat) ^ 32=4294967296:=by decide
  omega
 ·simp at h
theorem Ip(s:Bs)(i:Nat):bC s i<=s.length+1:=by
 unfold bC
 have h1:=List.count_le_length (a:=(10:UInt8)) (l:=s.take i)
 have h2:(s.take i).length<=s.length:=by simp; omega
 omega
theorem AP{s:Bs}{p:Nat}{w:Wd}(h:cM s p=.ok w):WR w:=by
 have hlen:=(iZ h).1.long
 unfold cM at h
 rw[if_neg om]at h
 by_cases a2:s.length<p
 ·rw[if_pos a2]at h; simp at h
 rw[if_neg a2]at h
 have hli:=Ip s (a6 s p)
 by_cases a3:a6 s p=s.length
 ·rw[if_pos a3]at h
  simp only[Except.ok.injEq]at h
  subst h
  exact⟨by simp only; omega,by simp only; omega⟩
 rw[if_neg a3]at h
 generalize a6 s p=j at *
 cases ho:jQ s j with
 | none=>rw[ho]at h; simp at h
 | some t=>
  rw[ho]at h
  simp only[Except.ok.injEq]at h
  subst h
  refine⟨?_,by simp only; omega⟩
  simp only
  unfold jQ at ho
  cases hc:s[j]? with
  | none=>rw[hc]at ho; simp at ho
  | some c=>
   rw[hc]at ho
   simp only at ho
   by_cases hd:dig c=true
   ·rw[if_pos hd]at ho
    split at ho
    ·rename_i n hn
     simp only[sJ]at ho; subst ho; exact HI hn
    ·simp at ho
   rw[if_neg hd]at ho
   by_cases hb:beg c=true
   ·rw[if_pos hb]at ho
    simp only[sJ]at ho
    subst ho
    simp
   ·rw[if_neg hb]at ho
    split at ho
    ·simp at ho
    ·simp only[sJ]at ho; subst ho; simp
theorem dR{s:Bs}{w w':Wd}(h:aZ s w=.ok w'):WR w':=AP h
theorem hJ{s c:Bs}{w w':Wd}(h:cJ s c w=.ok w'):WR w':=by
 unfold cJ at h
 split at h
 ·exact dR h
 ·simp at h
def De{α:Type}(o:Option (eD α))(P:α->Prop):Prop:=∀a w',o=some (.ok (a,w'))->P a/\WR w'
theorem bO{α:Type}{o:Except Aa Wd}{f:Wd->Option (eD α)}{P:α->Prop}(h:∀w',o=.ok w'->De (f w') P):De (fK o f) P:=by
 cases o with
 | error e=>intro a w' q; simp[fK]at q
 | ok w=>exact h w rfl
theorem eW{α β:Type}{o:Option (eD α)}{f:α->Wd->Option (eD β)}{P:α->Prop}{Q:β->Prop}(ho:De o P)(h:∀a w',P a->WR w'->De (f a w') Q):De (jw o f) Q:=by
 cases o with
 | none=>intro a w' q; simp[jw]at q
 | some o=>
  cases o with
  | error e=>intro a w' q; simp[jw]at q
  | ok p=>obtain⟨a,w⟩:=p; exact h a w (ho a w rfl).1 (ho a w rfl).2
theorem cU{α:Type}{a:α}{w:Wd}{P:α->Prop}(h:P a)(hw:WR w):De (bp a w) P:=by
 intro a' w' q
 simp only[bp,sJ,Except.ok.injEq,pJ]at q
 rw[<- q.1,<- q.2]; exact⟨h,hw⟩
theorem mQ{α:Type}{e:Nat}{w:Wd}{P:α->Prop}:De (mG (α:=α) e w) P:=by intro a w' q; simp[mG]at q
theorem Ek{k:Nat}{S:Bs}{kids:List Ex}(h:eY kids=true):dj (.mk k S 0 kids)=true:=by simp[dj,h]
theorem qv{l:List Ex}{e:Ex}(h:eY l=true)(he:dj e=true):eY (l++[e])=true:=by
 induction l with
 | nil=>simp[eY,he]
 | cons x l ih=>simp only[eY,N4]at h; simp only[Oj,eY,h.1,ih h.2,Bool.and_self]
theorem qt{l m:List St}(h:bR l=true)(he:bR m=true):bR (l++m)=true:=by
 induction l with
 | nil=>exact he
 | cons x l ih=>simp only[bR,N4]at h; simp only[Oj,bR,h.1,ih h.2,Bool.and_self]
def Kc:NT->Prop
 | .loop _ e=>dj e=true
 | .args _ out=>eY out=true
 | _=>True
theorem LA(s:Bs):∀(f:Nat) (nt:NT) (g:Nat) (w:Wd),WR w->Kc nt->De (pE s f nt g w) fun e=>dj e=true
 | 0,_,_,_,_,_=>by intro a w' q; simp[pE]at q
 | f+1,nt,g,w,hw,hk=>by
  have ih:=LA s f
  rw[fd]
  cases nt with
  | rule k=>
   cases k with
   | zero=>
    simp only[bJ]
    split
    ·exact mQ
    split
    ·exact bO fun w1 h1=>eW (ih (.rule 0) (g+1) w1 (dR h1) trivial) fun e w2 he hw2=>cU (Ek (by simp[eY,he])) hw2
    ·exact ih .prim (g+1) w hw trivial
   | succ k=>
    simp only[bJ]
    exact eW (ih (.rule k) g w hw trivial) fun e w1 he hw1=>ih (.loop (k+1) e) g w1 hw1 he
  | loop k e=>
   simp only[bJ]
   simp only[Kc]at hk
   split
   ·refine bO fun w1 h1=>eW (ih (.rule (k-1)) g w1 (dR h1) trivial) fun r w2 hr hw2=>?_
    have hok:dj (.mk 3 w.S 0 [e,r])=true:=Ek (by simp[eY,hk,hr])
    split
    ·exact cU hok hw2
    ·exact ih (.loop k _) g w2 hw2 hok
   ·exact cU hk hw
  | prim=>
   simp only[bJ]
   split
   ·refine bO fun w1 h1=>cU ?_ (dR h1)
    have:=hw.1
    simp only[dj,eY,Bool.and_true,N4,Od]; omega
   split
   ·refine bO fun w1 h1=>?_
    split
    ·refine bO fun w2 h2'=>?_
     split
     ·exact bO fun w3 h3=>cU (Ek rfl) (dR h3)
     ·exact ih (.args w.S []) g w2 (dR h2') rfl
    ·exact cU (Ek rfl) (dR h1)
   split
   ·refine bO fun w1 h1=>eW (ih (.rule 5) g w1 (dR h1) trivial) fun e w2 he hw2=>?_
    exact bO fun w3 h3=>cU he (hJ h3)
   ·exact mQ
  | args S out=>
   simp only[bJ]
   simp only[Kc]at hk
   refine eW (ih (.rule 5) g w hw trivial) fun e w1 he hw1=>?_
   split
   ·exact bO fun w2 h2=>ih (.args S (out++[e])) g w2 (dR h2) (qv hk he)
   ·exact bO fun w2 h2=>cU (Ek (qv hk he)) (hJ h2)
def Nv:NS->Prop
 | .more out=>bR out=true
 | _=>True
theorem m0{k:Nat}{S:Bs}{e:Ex}{body els:List St}{line:Nat}(he:dj e=true)(hb:bR body=true)(hl:bR els=true)(h:line<=20000):bR [.mk k S e body els (line:Int)]=true:=by
 simp only[bR,lX,he,hb,hl,Bool.and_true,Bool.true_and,N4,Od]; omega
theorem Lz(s:Bs):∀(f:Nat) (nt:NS) (g:Nat) (w:Wd),WR w->Nv nt->De (pS s f nt g w) fun l=>bR l=true
 | 0,_,_,_,_,_=>by intro a w' q; simp[pS]at q
 | f+1,nt,g,w,hw,hk=>by
  have ih:=Lz s f
  have pe:∀g w1,WR w1->De (pE s f (.rule 5) g w1) fun e=>dj e=true:=fun g w1 h=>LA s f (.rule 5) g w1 h trivial
  rw[gB]
  have named:∀k (line:Nat) g w1,line<=20000->WR w1->De (ff s (pE s f) k line g w1) fun l=>bR l=true:=by
   intro k line g w1 hl h1
   unfold ff
   split
   ·exact bO fun w2 h2=>bO fun w3 h3=>eW (pe g w3 (hJ h3)) fun e w4 he hw4=>bO fun w5 h5=>cU (m0 he rfl rfl hl) (hJ h5)
   ·exact mQ
  have asked:∀g w1 F,(∀e l w4,dj e=true->bR l=true->WR w4->De (F e l w4) fun l=>bR l=true)->De (eM s (pE s f) (pS s f) g w1 F) fun l=>bR l=true:=by
   intro g w1 F hF
   unfold eM
   refine bO fun w2 h2=>eW (pe g w2 (hJ h2)) fun e w3 he hw3=>bO fun w4 h4=>eW (ih .body g w4 (hJ h4) trivial) fun l w5 hl hw5=>hF e l w5 he hl hw5
  cases nt with
  | stmt=>
   simp only[dk]
   split
   ·exact mQ
   split
   ·exact bO fun w1 h1=>named _ _ _ w1 hw.2 (dR h1)
   split
   ·exact bO fun w1 h1=>named _ _ _ w1 hw.2 (dR h1)
   split
   ·refine bO fun w1 h1=>asked _ w1 _ fun e l w2 he hl hw2=>?_
    split
    ·exact bO fun w3 h3=>eW (ih .body _ w3 (dR h3) trivial) fun m w4 hm hw4=>cU (m0 he hl hm hw.2) hw4
    ·exact cU (m0 he hl rfl hw.2) hw2
   split
   ·exact bO fun w1 h1=>asked _ w1 _ fun e l w2 he hl hw2=>cU (m0 he hl rfl hw.2) hw2
   split
   ·exact bO fun w1 h1=>eW (pe _ w1 (dR h1)) fun e w2 he hw2=>bO fun w3 h3=>cU (m0 he rfl rfl hw.2) (hJ h3)
   ·exact mQ
  | body=>
   simp only[dk]
   exact bO fun w1 h1=>ih (.more []) g w1 (hJ h1) rfl
  | more out=>
   simp only[dk]
   split
   ·exact bO fun w1 h1=>cU hk (dR h1)
   ·exact eW (ih .stmt g w hw trivial) fun x w1 hx hw1=>ih (.more (out++x)) g w1 hw1 (qt hk hx)
theorem DH(s:Bs):∀(f:Nat) (out:List St) (w:Wd) (l:List St),WR w->bR out=true->gA s f out w=some (.ok l)->bR l=true
 | 0,_,_,_,_,_,h=>by simp[gA]at h
 | f+1,out,w,l,hw,ho,h=>by
  unfold gA at h
  by_cases c:w.k=5
  ·rw[if_pos c]at h
   simp only[sJ,Except.ok.injEq]at h
   subst h; exact ho
  rw[if_neg c]at h
  cases hp:pS s f .stmt 0 w with
  | none=>rw[hp]at h; simp at h
  | some r=>
   rw[hp]at h
   cases r with
   | error e=>simp at h
   | ok p=>
    obtain⟨x,w1⟩:=p
    obtain⟨h1,h2⟩:=Lz s f .stmt 0 w hw trivial x w1 hp
    exact DH s f (out++x) w1 l h2 (qt ho h1) h
theorem Cs{s:Bs}{l:List St}(h:dC s=.ok l):bR l=true:=by
 unfold dC at h
 cases hn:cM s 0 with
 | error e=>rw[hn]at h; simp at h
 | ok w=>
  rw[hn]at h
  simp only at h
  split at h
  ·simp at h
  ·simp at h
  ·rename_i l' hp
   split at h
   ·simp only[Except.ok.injEq]at h
    subst h
    exact DH s _ [] w l' (AP hn) rfl hp
   ·simp at h
open Go.Abs Go.Abs.S
theorem qq:∀(N:Nat) {e:Ex} {c c':List aa} {H:ab},e.size<=N->e.size<=1000000->XE (·<H.next) H e c->XE (·<H.next) H e c' ->
  an Tryd.prog aB 16 [.agg c,.agg c'] H fun u H'=>u=.bool true/\b7 H.next H H'
 | 0,e,_,_,_,h,_,_,_=>absurd (s0 e) om
 | N+1,.mk k s z kids,c,c',H,h,hs,hx,hx'=>by
  obtain⟨v,C,rfl,z1,z2⟩:=hx
  obtain⟨v',C',rfl,y1,y2⟩:=hx'
  have hsz:(Ex.mk k s z kids).size=br kids+1:=rfl
  refine ak rfl Nk rfl ?_
  obtain⟨H1,m1,r1,n1,k1⟩:=aG H [.int .u8 (k:Int),.str s,.int .i64 z,v] (n:=4) rfl
  obtain⟨H2,m2,r2,n2,k2⟩:=aG H1 [.int .u8 (k:Int),.str s,.int .i64 z,v'] (n:=4) rfl
  have E2:b7 H.next H H2:=⟨om,fun c hc=>by rw[k2 c om,k1 c om]⟩
  have r12:bc H2 H.next [.int .u8 (k:Int),.str s,.int .i64 z,v]:=r1.same (k2 _ om)
  have p0:am false 1 H2 (af H.next 4 0)=some (.int .u8 (k:Int)):=al r12 rfl rfl
  have p1:am false 1 H2 (af H.next 4 1)=some (.str s):=al r12 rfl rfl
  have p2:am false 1 H2 (af H.next 4 2)=some (.int .i64 z):=al r12 rfl rfl
  have p3:am false 1 H2 (af H.next 4 3)=some v:=al r12 rfl rfl
  have q0:am false 1 H2 (af H1.next 4 0)=some (.int .u8 (k:Int)):=al r2 rfl rfl
  have q1:am false 1 H2 (af H1.next 4 1)=some (.str s):=al r2 rfl rfl
  have q2:am false 1 H2 (af H1.next 4 2)=some (.int .i64 z):=al r2 rfl rfl
  have q3:am false 1 H2 (af H1.next 4 3)=some v':=al r2 rfl rfl
  have ln:=z1.len
  have ln':=y1.len
  have hlen:=my kids
  simp only[c16,sA,sB,seval,dq,m1,m2,fld0,cz,p0,p1,p2,p3,q0,q1,q2,q3,ln,ln']
  refine bD (fun m (T:bU) K=>∃(i:Nat),m=kids.length-i/\i<=kids.length/\T 2=af H.next 4 0/\T 3=af H1.next 4 0/\T 5=.int .i64 (i:Int)/\b7 H2.next H2 K) kids.length
   ⟨0,rfl,Nat.zero_le _,by simp only[sA,sB,seval],by simp only[sA,sB,seval],by simp only[sA,sB,seval]; try rfl,b7.refl _ _⟩ ?_
  rintro m T K ⟨i,rfl,hi,t2,t3,t5,FK⟩
  have eK:=FK.next
  have l1K:am false 1 K (af H.next 4 3)=some v:=al (r12.same (FK.old _ om)) rfl rfl
  have l2K:am false 1 K (af H1.next 4 3)=some v':=al (r2.same (FK.old _ om)) rfl rfl
  have EK:b7 H.next H K:=E2.trans (FK.less om)
  by_cases hlt:i<kids.length
  case neg=>
   obtain rfl:i=kids.length:=om
   have hlt':¬(kids.length:Int)<(kids.length:Int):=om
   simp only[sA,sB,seval,t2,t3,t5,cz,l1K,ln,hlt']
   exact⟨tt,EK⟩
  have hlt':(i:Int)<(kids.length:Int):=om
  obtain⟨e,he⟩:∃e,kids[i]?=some e:=⟨_,N1 hlt⟩
  have km:∀b,b<H.next->b<K.next/\K.get b=H.get b:=fun b hb=>⟨by have:=EK.next; omega,EK.old b hb⟩
  have z13:=z1.mono km
  have y13:=y1.mono km
  have ix:=z13.idx hlt
  have iy:=y13.idx hlt
  have ld:=z13.load hlt
  have ly:=y13.load hlt
  have he3:=(z2.mono km).at he
  have hy3:=(y2.mono km).at he
  have hsm:=fW (N9 he)
  have wi:IntKind.i64.wrap ((i:Int)+1)=((i+1:Nat):Int):=Db i 1 om
  simp only[sA,sB,seval,t2,t3,t5,cz,l1K,l2K,ln,hlt',ix,ld,iy,ly]
  refine (qq N om om he3 hy3).mono ?_
  rintro _ K2 ⟨rfl,E3⟩
  simp only[sA,sB,seval,t2,t3,t5,wi]
  exact⟨kids.length-(i+1),om,i+1,rfl,om,tt,tt,tt,FK.trans (E3.less om)⟩
theorem Ic{l:List St}(h:lH l=[]):l=[]:=by
 cases l with
 | nil=>rfl
 | cons x l=>simp[lH]at h
theorem EE:∀{l l':List St} {i:Nat} {x:St},lH l=lH l'->l[i]?=some x->∃x',l'[i]?=some x'/\x.nl=x'.nl
 | [],_,_,_,_,h=>by simp at h
 | y::l,[],_,_,h,_=>by simp[lH]at h
 | y::l,y'::l',0,x,h,he=>by
  simp only[lH,List.cons.injEq]at h
  simp only[Oa,sJ]at he
  subst he
  exact⟨y',rfl,h.1⟩
 | y::l,y'::l',i+1,x,h,he=>by
  simp only[lH,List.cons.injEq]at h
  simp only[Ob]at he ⊢
  exact EE h.2 he
theorem oM:∀(N:Nat) {l l':List St} {C C':List aa} {v v':aa} {H:ab},lH l=lH l'->aI l<=N->aI l<=1000000->fw (·<H.next) H 9 v l.length C->gr (·<H.next) H l C->fw (·<H.next) H 9 v' l'.length C'->gr (·<H.next) H l' C' ->
  an Tryd.prog aB 8 [v,v',.bool false] H fun u H'=>u=.bool true/\b7 H.next H H':=by
 intro N
 induction N with
 | zero=>
  intro l l' C C' v v' H hnl h hs z1 z2 w1 w2
  have hl0:l=[]:=by
   cases l with
   | nil=>rfl
   | cons x l=>have:=kO x; simp only[aI]at h; omega
  subst hl0
  obtain rfl:l'=[]:=Ic (by rw[<- hnl]; rfl)
  have ln:=z1.len
  have ln':=w1.len
  have h0:¬(0:Int)<(([]:List St).length:Int):=by simp
  refine ak rfl za8 rfl ?_
  simp only[c8,sA,sB,seval,ln,ln']
  refine bD (fun m (T:bU) K=>H=K/\T 0=v/\T 7=.int .i64 0) 0 ⟨rfl,by simp only[sA,sB,seval],by simp only[sA,sB,seval]⟩ ?_
  rintro m T K ⟨rfl,t0,t7⟩
  simp only[sA,sB,seval,t0,t7,ln,h0]
  exact⟨tt,b7.refl _ _⟩
 | succ N ih=>
  intro l l' C C' v v' H hnl h hs z1 z2 w1 w2
  have hll:l'.length=l.length:=by rw[<- AO l',<- hnl,AO]
  rw[hll]at w1
  have ln:=z1.len
  have ln':=w1.len
  refine ak rfl za8 rfl ?_
  simp only[c8,sA,sB,seval,ln,ln']
  refine bD (fun m (T:bU) K=>∃(i:Nat),m=l.length-i/\i<=l.length/\T 0=v/\T 1=v'/\T 2=.bool false/\T 7=.int .i64 (i:Int)/\b7 H.next H K) l.length
   ⟨0,rfl,Nat.zero_le _,by simp only[sA,sB,seval],by simp only[sA,sB,seval],by simp only[sA,sB,seval]; try rfl,by simp only[sA,sB,seval]; try rfl,b7.refl _ _⟩ ?_
  rintro m T K ⟨i,rfl,hi,t0,t1,t2,t7,EK⟩
  have eK:=EK.next
  by_cases hlt:i<l.length
  case neg=>
   obtain rfl:i=l.length:=om
   have hlt':¬(l.length:Int)<(l.length:Int):=om
   simp only[sA,sB,seval,t0,t1,t2,t7,ln,hlt']
   exact⟨tt,EK⟩
  have hlt':(i:Int)<(l.length:Int):=om
  obtain⟨x,he⟩:∃e,l[i]?=some e:=⟨_,N1 hlt⟩
  have km:∀b,b<H.next->b<K.next/\K.get b=H.get b:=fun b hb=>⟨om,EK.old b hb⟩
  have z13:=z1.mono km
  have ix:=z13.idx hlt
  have ld:∀{J:ab},b7 K.next K J->am true 9 J (cL 9 v i)=some (.agg ((C.drop (i*9)).take 9)):=fun {J} q=>(z13.mono (Q:=(·<J.next)) fun b hb=>⟨by have:=q.next; omega,q.old b hb⟩).load hlt
  have w13:=w1.mono km
  have iw:=w13.idx hlt
  have lw:∀{J:ab},b7 K.next K J->am true 9 J (cL 9 v' i)=some (.agg ((C'.drop (i*9)).take 9)):=fun {J} q=>(w13.mono (Q:=(·<J.next)) fun b hb=>⟨by have:=q.next; omega,q.old b hb⟩).load hlt
  have hsm:=iR (N9 he)
  have hlen:=mw l
  have wi:IntKind.i64.wrap ((i:Int)+1)=((i+1:Nat):Int):=Db i 1 om
  have hx3:=(z2.mono km).at he
  obtain⟨x',he',hx'⟩:=EE hnl he
  have hy3:=(w2.mono km).at he'
  have hone:=hx3.one
  have hone':=hy3.one
  have hae:=hy3.aeqs
  obtain⟨k,s,e,body,els,line⟩:=x
  obtain⟨k',s',e',body',els',line'⟩:=x'
  simp only[St.nl,St.mk.injEq]at hx'
  obtain⟨rfl,rfl,rfl,nb,ne,_⟩:=hx'
  obtain⟨ce,vb,Cb,ve,Ce,hcell,x1,y1,y2,y3,y4⟩:=hx3
  obtain⟨c0,c1,c2,c3,rfl⟩:∃a b c d,ce=[a,b,c,d]:=by
   have:=x1.len
   match ce,this with
   | [a,b,c,d],_=>exact⟨a,b,c,d,rfl⟩
  obtain⟨ce',vb',Cb',ve',Ce',hcell',e1,y1',y2',y3',y4'⟩:=hy3
  obtain⟨d0,d1,d2,d3,rfl⟩:∃a b c d,ce'=[a,b,c,d]:=by
   have:=e1.len
   match ce',this with
   | [a,b,c,d],_=>exact⟨a,b,c,d,rfl⟩
  rw[hcell]at hone
  simp only[hcell]at ld
  rw[hcell']at hone' hae
  simp only[hcell']at lw
  have hsz:(St.mk k s e body els line).size=e.size+aI body+aI els+1:=rfl
  obtain⟨K2,hK2⟩:∃K2,K2=(K.push (.cells [.int .u8 0,.str [],.int .u8 0,.str [],.int .i64 0,.slice none 0 (.known 0),.slice none 0 (.known 0),.slice none 0 (.known 0),.int .i64 0] 0 false)).push (.cells [.int .u8 0,.str [],.int .u8 0,.str [],.int .i64 0,.slice none 0 (.known 0),.slice none 0 (.known 0),.slice none 0 (.known 0),.int .i64 0] 0 false):=⟨_,rfl⟩
  have n2:K2.next=K.next+2:=by rw[hK2]; rfl
  have k2:∀c,c<K.next->K2.get c=K.get c:=fun c hc=>by rw[hK2,ab.get_push,if_neg (by rw[a8]; omega),aE hc]
  have g8:K2.get K.next=some (.cells [.int .u8 0,.str [],.int .u8 0,.str [],.int .i64 0,.slice none 0 (.known 0),.slice none 0 (.known 0),.slice none 0 (.known 0),.int .i64 0] 0 false):=by rw[hK2,ab.get_push,if_neg (by rw[a8]; omega),ab.get_push,if_pos rfl]
  have g9:K2.get (K.next+1)=some (.cells [.int .u8 0,.str [],.int .u8 0,.str [],.int .i64 0,.slice none 0 (.known 0),.slice none 0 (.known 0),.slice none 0 (.known 0),.int .i64 0] 0 false):=by rw[hK2,ab.get_push,if_pos (by rw[a8])]
  have cl8:eN K2 K.next _ none=some (af K.next 9 0):=jd g8 rfl
  have cl9:eN K2 (K.next+1) _ none=some (af (K.next+1) 9 0):=jd g9 rfl
  obtain⟨K3,m3,r3,n3,k3⟩:=aq (H:=K2) (b:=K.next) ⟨0,g8,Nat.zero_le _⟩ (n:=9) rfl (xs:=.int .u8 (k:Int)::.str s::([c0,c1,c2,c3]++[vb,ve,.int .i64 line])) rfl hone
  obtain⟨K4,m4,r4,n4,k4⟩:=aq (H:=K3) (b:=K.next+1) ⟨0,(k3 _ om).trans g9,Nat.zero_le _⟩ (n:=9) rfl (xs:=.int .u8 (k:Int)::.str s::([d0,d1,d2,d3]++[vb',ve',.int .i64 line'])) rfl hone'
  simp only[Oj,List.nil_append]at ld lw m3 m4 r3 r4 hae
  have E2:b7 K.next K K2:=⟨om,k2⟩
  have E3:b7 K.next K K3:=⟨om,fun c hc=>by rw[k3 c om,k2 c hc]⟩
  have E4:b7 K.next K K4:=⟨om,fun c hc=>by rw[k4 c om,E3.old c hc]⟩
  have ld2:=ld E2
  have lw2:=lw E2
  have lw3:=lw E3
  have q3:bc K4 K.next _:=r3.same (k4 _ om)
  have hba:aeq (.agg [.int .u8 (k:Int),.str s,d0,d1,d2,d3,vb',ve',.int .i64 line']) (.agg [.int .u8 (k:Int),.str s,d0,d1,d2,d3,vb',ve',.int .i64 line'])=true:=by
   rw[aeq]; exact hae
  simp only[sA,sB,seval,t0,t1,t2,t7,ln,hlt']
  refine xC ?_
  simp only[aw,dH,bt,<- hK2]
  simp only[sR,sA,sB,seval,mP,t0,t1,t2,t7,ix,ld2,iw,lw2,cl8,cl9,m3,m4]
  simp only[fN,fO,ez,ow,fP,iJ,and_true,true_and,List.map_cons,List.map_nil,sA,sB,seval,cz,t0,t1,t2,t7]
  refine⟨⟨_,rfl,fun _=>⟨_,lw3,hba⟩⟩,?_⟩
  have a0:∀{J:ab},b7 K4.next K4 J->bc J K.next [.int .u8 (k:Int),.str s,c0,c1,c2,c3,vb,ve,.int .i64 line]:=fun q=>q3.same (q.old _ om)
  have b0:∀{J:ab},b7 K4.next K4 J->bc J (K.next+1) [.int .u8 (k:Int),.str s,d0,d1,d2,d3,vb',ve',.int .i64 line']:=fun q=>r4.same (q.old _ om)
  have R0:=b7.refl K4.next K4
  have u0:am false 1 K4 (af K.next 9 0)=some (.int .u8 (k:Int)):=al (a0 R0) rfl rfl
  have u1:am false 1 K4 (af K.next 9 1)=some (.str s):=al (a0 R0) rfl rfl
  have u8:am false 1 K4 (af K.next 9 8)=some (.int .i64 line):=al (a0 R0) rfl rfl
  have u2:am true 4 K4 (af K.next 9 2)=some (.agg [c0,c1,c2,c3]):=iS (a0 R0) (n:=9) rfl (i:=2) (k:=4) om
  have x0:am false 1 K4 (af (K.next+1) 9 0)=some (.int .u8 (k:Int)):=al (b0 R0) rfl rfl
  have x1':am false 1 K4 (af (K.next+1) 9 1)=some (.str s):=al (b0 R0) rfl rfl
  have x8:am false 1 K4 (af (K.next+1) 9 8)=some (.int .i64 line'):=al (b0 R0) rfl rfl
  have x2:am true 4 K4 (af (K.next+1) 9 2)=some (.agg [d0,d1,d2,d3]):=iS (b0 R0) (n:=9) rfl (i:=2) (k:=4) om
  have kk:∀{K':ab},b7 K.next K K'->∀b,b<K.next->b<K'.next/\K'.get b=K.get b:=fun q b hb=>⟨by have:=q.next; omega,q.old b hb⟩
  simp only[sA,sB,seval,cz,fld0,u0,u1,u8,u2,x0,x1',x8,x2,t0,t1,t2,t7]
  refine (qq e.size rL om (x1.mono (kk E4)) (e1.mono (kk E4))).mono ?_
  rintro _ K5 ⟨rfl,E5⟩
  have e4:=E4.next
  have e5:=E5.next
  have E05:=E4.trans (E5.less om)
  have u6:am false 1 K5 (af K.next 9 6)=some vb:=al (a0 E5) rfl rfl
  have x6:am false 1 K5 (af (K.next+1) 9 6)=some vb':=al (b0 E5) rfl rfl
  simp only[sA,sB,seval,cz,fld0,u6,x6,t0,t1,t2,t7]
  refine (ih nb om om (y1.mono (kk E05)) (y2.mono (kk E05)) (y1'.mono (kk E05)) (y2'.mono (kk E05))).mono ?_
  rintro _ K6 ⟨rfl,E6⟩
  have e6:=E6.next
  have E46:=E5.trans (E6.less om)
  have E06:=E05.trans (E6.less om)
  have u7:am false 1 K6 (af K.next 9 7)=some ve:=al (a0 E46) rfl rfl
  have x7:am false 1 K6 (af (K.next+1) 9 7)=some ve':=al (b0 E46) rfl rfl
  simp only[sA,sB,seval,cz,fld0,u7,x7,t0,t1,t2,t7]
  refine (ih ne om om (y3.mono (kk E06)) (y4.mono (kk E06)) (y3'.mono (kk E06)) (y4'.mono (kk E06))).mono ?_
  rintro _ K7 ⟨rfl,E7⟩
  have e7:=E7.next
  have E07:=E06.trans (E7.less om)
  simp only[sA,sB,seval,t0,t1,t2,t7,wi]
  exact⟨l.length-(i+1),om,i+1,rfl,om,tt,tt,tt,tt,EK.trans (E07.less om)⟩
open Go.Abs Go.Abs.S
theorem yD(s:Bs):∃(e f:Nat) (L:List St),(e≠0->L=[])/\cE L=true/\bR L=true /\
  ∀H,an Tryd.prog aB 7 [.str s] H fun u H'=>(∃v C,u=.tuple [v,.agg (gq e f)]/\fw (In H.next H'.next) H' 9 v L.length C/\gr (In H.next H'.next) H' L C)/\b7 H.next H H':=by
 cases h:dC s with
 | ok t=>exact⟨0,0,t,fun h=>absurd rfl h,wt h,Cs h,fun H=>iW h⟩
 | error g=>
  refine⟨g.1,g.2,[],fun _=>rfl,rfl,rfl,fun H=>(tp h).mono ?_⟩
  rintro _ H' ⟨rfl,E⟩; exact⟨⟨cp,[],rfl,fw.nil _ _ _,rfl⟩,E⟩
theorem ql(l:List St)(hr:bR l=true):((fX l).2≠0/\(cE l=true->(fX l).2=3))∨((fX l).2=0/\∃l',dC (fX l).1=.ok l'/\lH l'=lH l):=by
 unfold fX
 cases h:cE l with
 | false=>left; simp
 | true=>
  simp only[if_true]
  by_cases hl:16384<(aF 0 l).length
  ·rw[if_pos hl]; left; simp
  ·rw[if_neg hl]; right
   exact⟨rfl,yG h hr om⟩
theorem qF{H:ab}(t:Bs){l:List St}{C:List aa}{v:aa}(z1:fw (·<H.next) H 9 v l.length C)(z2:gr (·<H.next) H l C)(hr:bR l=true)(h1:1<H.next)(hG:pM H 1 ml) :
  an Tryd.prog aB 3 [v,.str t] H fun u H'=>u=.bool true/\b7 H.next H H':=by
 refine ak rfl za3 rfl ?_
 have kk:∀{J:ab},b7 H.next H J->∀b,b<H.next->b<J.next/\J.get b=H.get b:=fun q b hb=>⟨by have:=q.next; omega,q.old b hb⟩
 have gl:∀{J:ab},b7 H.next H J->1<J.next/\pM J 1 ml:=fun q=>⟨by have:=q.next; omega,by unfold pM; rw[q.old 1 h1]; exact hG⟩
 simp only[c3,sA,sB,seval]
 refine (CG z1 z2).mono ?_
 rintro _ H1 ⟨E1,r,rfl,hsm⟩
 have e1:=E1.next
 cases r with
 | true=>
  simp only[sA,sB,seval]
  refine (gU (gl E1).1 (gl E1).2).mono ?_
  rintro _ H2 ⟨rfl,E2⟩
  simp only[sA,sB,seval]
  exact⟨tt,E1.trans (E2.less e1)⟩
 | false=>
 obtain⟨s1,_,_⟩:=hsm rfl
 by_cases hl:3000<t.length
 ·have hl':(3000:Int)<(t.length:Int):=om
  simp only[sA,sB,seval,hl']
  refine (gU (gl E1).1 (gl E1).2).mono ?_
  rintro _ H2 ⟨rfl,E2⟩
  simp only[sA,sB,seval]
  exact⟨tt,E1.trans (E2.less e1)⟩
 have hl':¬(3000:Int)<(t.length:Int):=om
 simp only[sA,sB,seval,hl']
 refine (mq (z1.mono (kk E1)) (z2.mono (kk E1)) hr (fun h=>v8 h hr) (gl E1).1 (gl E1).2).mono ?_
 rintro _ H2 ⟨rfl,E2⟩
 have e2:=E2.next
 have E02:=E1.trans (E2.less e1)
 have hsc:=ql l hr
 generalize fX l=p at *
 obtain⟨S,e⟩:=p
 simp only at hsc ⊢
 rcases hsc with⟨he,_⟩ | ⟨rfl,l',hp,hnl⟩
 case' inl=>
  have he':¬(e:Int)=0:=om
  simp only[sA,sB,seval,bZ,bY,he']
  obtain⟨K,hK⟩:∃K,K=H2:=⟨_,rfl⟩
  have E0:b7 H.next H K:=by rw[hK]; exact E02
  rw[<- hK]
  clear hK he he'
 case' inr=>
  simp only[sA,sB,seval,bZ,bY]
  refine (iW hp).mono ?_
  rintro _ H3 ⟨⟨v3,C3,rfl,a1,a2⟩,E3⟩
  have e3:=E3.next
  obtain⟨Ha,H4,ma,m4,r4,n4,k4⟩:=jx (H:=H3) 0 0
  have E4:b7 H3.next H3 H4:=⟨om,k4⟩
  have E04:=E02.trans ((E3.trans (E4.less e3)).less (by have:=E02.next; omega))
  have ka:∀b,In H2.next H3.next b->b<H4.next/\H4.get b=H3.get b:=fun b hb=>⟨by have:=hb.2; omega,k4 b hb.2⟩
  have lw:am false 1 H4 (af H3.next 2 0)=some (.int .i64 ((0:Nat):Int)):=al r4 rfl rfl
  simp only[sA,sB,seval,bZ,bY,ma,m4,fld0,lw]
  refine (oM (aI l) hnl.symm rL om (z1.mono (kk E04)) (z2.mono (kk E04)) (a1.mono ka) (a2.mono ka)).mono ?_
  rintro _ H5 ⟨rfl,E5⟩
  have E05:=E04.trans (E5.less E04.next)
  simp only[sA,sB,seval]
  obtain⟨K,hK⟩:∃K,K=H5:=⟨_,rfl⟩
  have E0:b7 H.next H K:=by rw[hK]; exact E05
  rw[<- hK]
  clear hK
 all_goals
  have e0:=E0.next
  obtain⟨e,f,L,hne,hR,hrL,hp⟩:=yD t
  refine (hp K).mono ?_
  rintro _ K1 ⟨⟨v1,C1,rfl,b1,b2⟩,F1⟩
  have f1:=F1.next
  obtain⟨Hb,K2,mb,mk2,rk2,nk2,kk2⟩:=jx (H:=K1) e f
  have F2:b7 K1.next K1 K2:=⟨om,kk2⟩
  have E2':b7 H.next H K2:=E0.trans ((F1.trans (F2.less f1)).less e0)
  have e2':=E2'.next
  have lw2:am false 1 K2 (af K1.next 2 0)=some (.int .i64 (e:Int)):=al rk2 rfl rfl
  by_cases hz:e=0
  case neg=>
   have hz':¬(e:Int)=0:=om
   obtain rfl:=hne hz
   have ln:=b1.len
   simp only[sA,sB,seval,bZ,bY,mb,mk2,fld0,lw2,hz',ln]
   refine (gU (gl E2').1 (gl E2').2).mono ?_
   rintro _ K3 ⟨rfl,F3⟩
   simp only[sA,sB,seval]
   exact⟨tt,E2'.trans (F3.less e2')⟩
  subst hz
  have hz':((0:Nat):Int)=0:=rfl
  simp only[sA,sB,seval,bZ,bY,mb,mk2,fld0,lw2,hz']
  have c1:fw (·<K2.next) K2 9 v1 L.length C1:=b1.mono fun b hb=>⟨by have:=hb.2; omega,kk2 b hb.2⟩
  have c2:gr (·<K2.next) K2 L C1:=b2.mono fun b hb=>⟨by have:=hb.2; omega,kk2 b hb.2⟩
  have kc:∀{J:ab},b7 K2.next K2 J->∀b,b<K2.next->b<J.next/\J.get b=K2.get b:=fun q b hb=>⟨by have:=q.next; omega,q.old b hb⟩
  refine (mq c1 c2 hrL (fun h=>v8 h hrL) (gl E2').1 (gl E2').2).mono ?_
  rintro _ K3 ⟨rfl,F3⟩
  have f3:=F3.next
  have E3':=E2'.trans (F3.less e2')
  have hsc:=ql L hrL
  generalize fX L=p at *
  obtain⟨S',e'⟩:=p
  simp only at hsc ⊢
  simp only[sA,sB,seval,bZ,bY]
  refine (ij (c1.mono (kc F3)) (c2.mono (kc F3))).mono ?_
  rintro _ K4 ⟨rfl,F4⟩
  have f4:=F4.next
  have F24:=F3.trans (F4.less f3)
  have E4':=E2'.trans (F24.less e2')
  rw[hR]
  rcases hsc with⟨h3,h3'⟩ | ⟨rfl,L',hp',hnl'⟩
  ·obtain rfl:=h3' hR
   simp only[sA,sB,seval]
   refine (ij (c1.mono (kc F24)) (c2.mono (kc F24))).mono ?_
   rintro _ K5 ⟨rfl,F5⟩
   have F25:=F24.trans (F5.less F24.next)
   have E5':=E2'.trans (F25.less e2')
   rw[hR]
   simp only[sA,sB,seval]
   refine (gU (gl E5').1 (gl E5').2).mono ?_
   rintro _ K6 ⟨rfl,F6⟩
   simp only[sA,sB,seval]
   exact⟨tt,E5'.trans (F6.less E5'.next)⟩
  ·simp only[sA,sB,seval]
   refine (iW hp').mono ?_
   rintro _ K5 ⟨⟨v5,C5,rfl,d1,d2⟩,F5⟩
   have f5:=F5.next
   obtain⟨Hc,K6,mc,mk6,rk6,nk6,kk6⟩:=jx (H:=K5) 0 0
   have F6:b7 K5.next K5 K6:=⟨om,kk6⟩
   have F26:=F24.trans ((F5.trans (F6.less f5)).less F24.next)
   have E6':=E2'.trans (F26.less e2')
   have lw6:am false 1 K6 (af K5.next 2 0)=some (.int .i64 ((0:Nat):Int)):=al rk6 rfl rfl
   have kd:∀b,In K4.next K5.next b->b<K6.next/\K6.get b=K5.get b:=fun b hb=>⟨by have:=hb.2; omega,kk6 b hb.2⟩
   have hsL:aI L<=1000000:=by
    simp only[cE,jO,N4,Od]at hR
    omega
   simp only[sA,sB,seval,bZ,bY,mc,mk6,fld0,lw6]
   refine (oM (aI L) hnl'.symm rL hsL (c1.mono (kc F26)) (c2.mono (kc F26)) (d1.mono kd) (d2.mono kd)).mono ?_
   rintro _ K7 ⟨rfl,F7⟩
   have E7':=E6'.trans (F7.less E6'.next)
   simp only[sA,sB,seval]
   refine (gU (gl E7').1 (gl E7').2).mono ?_
   rintro _ K8 ⟨rfl,F8⟩
   simp only[sA,sB,seval]
   exact⟨tt,E7'.trans (F8.less E7'.next)⟩
open Go.Abs Go.Abs.S
open Go.WideShapes Go.ChangeShapes
variable {K:Type} {enc:TypeId×Value->K}
theorem Cy{α:Type}{f:Nat->Option α}{m:Nat}(h:f 0=none)(hm:0<m):(List.range m).mapM f=none:=by
 obtain⟨m,rfl⟩:∃k,m=k+1:=⟨m-1,om⟩
 rw[List.range_succ_eq_map,List.mapM_cons,h]; rfl
theorem zJ{W:World}{c off:Nat}{q}{m:Nat}(hm:0<m):W.cells? 0 ⟨c,off,some q⟩ m=none:=by
 unfold World.cells?
 split
 ·refine Cy ?_ hm
  show W.cell? ⟨c,off,some q⟩=none
  unfold World.cell?
  split
  ·rfl
  ·rfl
 ·rfl
theorem fw.empty{W:World}{m:Nat}{a:Addr}:fw (·<(dh W).next) (dh W) m (jR W (.slice (some a) 0 0)) 0 []:=by
 obtain⟨c,off,spot⟩:=a
 cases spot with
 | some q=>exact .inl ⟨rfl,rfl,rfl⟩
 | none=>
  cases hr:jK W c with
  | none=>exact .inl ⟨by simp only[jR,Nat.le_refl,if_true,hr]; rfl,rfl,rfl⟩
  | some n=>
   by_cases ho:off<=n
   ·obtain⟨C,e',fz,g1,g2,g3⟩:=kX hr
    have hlt:c<(dh W).next:=(Array.getElem?_eq_some_iff.1 g1).1
    refine .inr ⟨⟨c,n,off⟩,.known 0,by simp only[jR,Nat.le_refl,if_true,hr,ho],hlt,?_⟩
    unfold aY
    rw[fE,g3]
    simp only[List.length_map,Array.length_toList,g2,Nat.mul_zero,Nat.add_zero,List.take_zero,N3 (Nat.zero_le _),N3 rL,N3 ho,Bool.and_self,cond_true]
   ·exact .inl ⟨by simp only[jR,Nat.le_refl,if_true,hr]; rw[if_neg ho]; rfl,rfl,rfl⟩
theorem pw{P:Program}{W:World}{t e:TypeId}{m fuel:Nat}{cs:List Value}{x:DataW K×List MemPlace}(ht:P.underlying t=some (.slice e))(hm:P.cellsOf e=m)(h0:0<m)
  (hf:DataW.trod enc P W 0 (fun _=>true) true fuel t cs=some x) :
  ∃v k C,cs=[v]/\fw (·<(dh W).next) (dh W) m (jR W v) k C/\C.length=m*k/\∀i,i<k->∃f es y,f<fuel/\es.map (jR W)=(C.drop (i*m)).take m/\DataW.trod enc P W 0 (fun _=>true) true f e es=some y:=by
 subst hm
 rcases DataW.trod_slice ht hf with⟨rfl,_⟩ | ⟨a,len,cap,elems,rest,n',hfu,rfl,_,_,h3,h4,h5,h6,h7,_⟩
 ·exact⟨_,0,[],rfl,.inl ⟨by simp only[jR]; rfl,rfl,rfl⟩,rfl,fun i hi=>om⟩
 obtain⟨h7a,h7b⟩:=h7 rfl
 by_cases hc:cap=0
 ·obtain rfl:len=0:=om
  subst hc
  exact⟨_,0,[],rfl,fw.empty,rfl,fun i hi=>om⟩
 have hal:∀i,i<cap->∃es,W.cells? 0 (a.add (i*P.cellsOf e)) (P.cellsOf e)=some es:=by
  intro i hi
  by_cases hlt:i<len
  ·have:=h6 i hlt
   rw[N1 om]at this
   obtain⟨es,q,_⟩:=Option.bind_eq_some_iff.1 this
   exact⟨es,q⟩
  ·have:=h7b (i-len) om
   rw[N1 om,show len+(i-len)=i by omega]at this
   obtain⟨es,q,_⟩:=Option.bind_eq_some_iff.1 this
   exact⟨es,q⟩
 obtain⟨c,off,spot⟩:=a
 cases spot with
 | some q=>
  obtain⟨es,hes⟩:=hal 0 om
  rw[Nat.zero_mul,show (⟨c,off,some q⟩:Addr).add 0=⟨c,off,some q⟩ from rfl,zJ h0]at hes
  simp at hes
 | none=>
  have key:∀i,i<cap->∀es,W.cells? 0 ((⟨c,off,none⟩:Addr).add (i*P.cellsOf e)) (P.cellsOf e)=some es->es.length=P.cellsOf e/\∀j,j<P.cellsOf e->W.cell? ⟨c,off+i*P.cellsOf e+j,none⟩=es[j]?:=by
   intro i _ es hes
   rw[cY]at hes
   exact FP hes
  obtain⟨es0,hes0⟩:=hal (cap-1) om
  obtain⟨q1,q2⟩:=key (cap-1) om es0 hes0
  have q3:=q2 (P.cellsOf e-1) om
  rw[N1 om]at q3
  obtain⟨n,hn⟩:∃n,jK W c=some n:=by
   unfold World.cell? at q3
   unfold jK
   split at q3
   ·rename_i C _ _ hC; exact⟨C.size,by simp only at hC; rw[hC]⟩
   ·simp at q3
  obtain⟨C,e',fz,g1,g2,g3⟩:=kX hn
  rw[nH g1]at q3
  have hb:=(Array.getElem?_eq_some_iff.1 q3).1
  have hcap:(cap-1)*P.cellsOf e+P.cellsOf e=cap*P.cellsOf e:=by
   rw[<- Nat.succ_mul]; congr 1; omega
  have hlc:len*P.cellsOf e<=cap*P.cellsOf e:=Nat.mul_le_mul_right _ h3
  have hlt:c<(dh W).next:=(Array.getElem?_eq_some_iff.1 g1).1
  have hmul:P.cellsOf e*len=len*P.cellsOf e:=Nat.mul_comm _ _
  refine⟨_,len,((C.toList.map (jR W)).drop off).take (P.cellsOf e*len),rfl,.inr ⟨⟨c,n,off⟩,.known cap,?_,hlt,?_⟩,?_,?_⟩
  ·simp only[jR,h3,if_true,hn,show off<=n by omega]
  ·unfold aY
   rw[fE,g3]
   simp only[List.length_map,Array.length_toList,g2,N3 (Nat.zero_le _),N3 rL,N3 (show off+P.cellsOf e*len<=n by omega),Bool.and_self,cond_true]
  ·rw[Ol,Ok,List.length_map,Array.length_toList]; omega
  ·intro i hi
   have:=h6 i hi
   rw[N1 om]at this
   obtain⟨es,r1,r2⟩:=Option.bind_eq_some_iff.1 this
   obtain⟨l1,l2⟩:=key i om es r1
   refine⟨n',es,_,om,?_,r2⟩
   apply List.ext_getElem?
   intro j
   have hil:i*P.cellsOf e+P.cellsOf e<=len*P.cellsOf e:=by
    rw[<- Nat.succ_mul]; exact Nat.mul_le_mul_right _ hi
   by_cases hj:j<P.cellsOf e
   ·rw[List.getElem?_take_of_lt hj,List.getElem?_drop,List.getElem?_take_of_lt om,List.getElem?_drop,List.getElem?_map,List.getElem?_map,<- l2 j hj,nH g1,Array.getElem?_toList,Nat.add_assoc]
   ·rw[Oi (by rw[List.length_map]; omega),Oi (by rw[Ol]; omega)]
theorem Do{P:Nat->Prop}{H:ab}{Q:Ex->Prop}:∀(k:Nat) (C:List aa),C.length=4*k->(∀i,i<k->∃e,XE P H e ((C.drop (i*4)).take 4)/\Q e)->∃l:List Ex,l.length=k/\oG P H l C/\∀e∈l,Q e
 | 0,C,h,_=>⟨[],rfl,by cases C with | nil=>rfl | cons a b=>simp at h,by simp⟩
 | k+1,C,h,hq=>by
  obtain⟨e,h1,h2⟩:=hq 0 om
  obtain⟨l,a1,a2,a3⟩:=Do (Q:=Q) k (C.drop 4) (by rw[Ok]; omega) fun i hi=>by
   obtain⟨e,g1,g2⟩:=hq (i+1) om
   refine⟨e,?_,g2⟩
   rw[List.drop_drop,show 4+i*4=(i+1)*4 by omega]; exact g1
  rw[Nat.zero_mul,List.drop_zero]at h1
  exact⟨e::l,by simp[a1],⟨_,_,(List.take_append_drop 4 C).symm,h1,a2⟩,fun x hx=>by
   rcases List.mem_cons.1 hx with rfl | hx
   ·exact h2
   ·exact a3 x hx⟩
theorem ut{P:Nat->Prop}{H:ab}{Q:St->Prop}:∀(k:Nat) (C:List aa),C.length=9*k->(∀i,i<k->∃e,XS P H e ((C.drop (i*9)).take 9)/\Q e)->∃l:List St,l.length=k/\gr P H l C/\∀e∈l,Q e
 | 0,C,h,_=>⟨[],rfl,by cases C with | nil=>rfl | cons a b=>simp at h,by simp⟩
 | k+1,C,h,hq=>by
  obtain⟨e,h1,h2⟩:=hq 0 om
  obtain⟨l,a1,a2,a3⟩:=ut (Q:=Q) k (C.drop 9) (by rw[Ok]; omega) fun i hi=>by
   obtain⟨e,g1,g2⟩:=hq (i+1) om
   refine⟨e,?_,g2⟩
   rw[List.drop_drop,show 9+i*9=(i+1)*9 by omega]; exact g1
  rw[Nat.zero_mul,List.drop_zero]at h1
  exact⟨e::l,by simp[a1],⟨_,_,(List.take_append_drop 9 C).symm,h1,a2⟩,fun x hx=>by
   rcases List.mem_cons.1 hx with rfl | hx
   ·exact h2
   ·exact a3 x hx⟩
theorem Ej{l:List Ex}(h:∀e∈l,dj e=true):eY l=true:=by
 induction l with
 | nil=>rfl
 | cons x l ih=>simp only[eY,h x (by simp),ih fun e he=>h e (by simp[he]),Bool.and_self]
theorem qr{l:List St}(h:∀e∈l,lX e=true):bR l=true:=by
 induction l with
 | nil=>rfl
 | cons x l ih=>simp only[bR,h x (by simp),ih fun e he=>h e (by simp[he]),Bool.and_self]
open Go.Abs Go.Abs.S
open Go.WideShapes Go.ChangeShapes
variable {K:Type} {enc:TypeId×Value->K}
def Fd(P:Program)(fs:Array Field)(i off n:Nat)(T:TypeId->Prop):Prop:=∃f,fs[i]?=some f/\f.offset=off/\P.cellsOf f.type=n/\T f.type
structure xU(P:Program)(tl ts te tel:TypeId) where
 l:P.underlying tl=some (.slice ts)
 el:P.underlying tel=some (.slice te)
 cs:P.cellsOf ts=9
 ce:P.cellsOf te=4
 fe:∃fs:Array Field,P.underlying te=some (.struct fs)/\Fd P fs 0 0 1 (fun t=>P.underlying t=some (.int .u8))/\Fd P fs 1 1 1 (fun t=>P.underlying t=some .string)/\Fd P fs 2 2 1 (fun t=>P.underlying t=some (.int .i64))/\Fd P fs 3 3 1 (·=tel)
 fs:∃fs:Array Field,P.underlying ts=some (.struct fs)/\Fd P fs 0 0 1 (fun t=>P.underlying t=some (.int .u8))/\Fd P fs 1 1 1 (fun t=>P.underlying t=some .string)/\Fd P fs 2 2 4 (·=te)/\Fd P fs 3 6 1 (·=tl)/\Fd P fs 4 7 1 (·=tl)/\Fd P fs 5 8 1 (fun t=>P.underlying t=some (.int .i64))
theorem fL{P:Program}{W:World}{fuel:Nat}{cs:List Value}{xs:List (DataW K×List MemPlace)}{fs:Array Field}{i off n:Nat}{T:TypeId->Prop}(h:Fd P fs i off n T)(hl:xs.length=fs.size)
  (hi:∀(i:Nat) (f:Field),fs[i]?=some f->DataW.trod enc P W 0 (fun _=>true) true fuel f.type ((cs.drop f.offset).take (P.cellsOf f.type))=xs[i]?) :
  ∃t y,T t/\DataW.trod enc P W 0 (fun _=>true) true fuel t ((cs.drop off).take n)=some y:=by
 obtain⟨f,h1,rfl,rfl,h4⟩:=h
 have h5:=hi i f h1
 have hlt:=(Array.getElem?_eq_some_iff.1 h1).1
 rw[N1 om]at h5
 exact⟨_,_,h4,h5⟩
theorem I7{z:Int}(h:(Lit.int .u8 z).wf=true):∃k:Nat,z=(k:Int):=by
 simp only[Lit.wf,N4,Od]at h
 have h1:(0:Int)<=z:=h.1
 exact⟨z.toNat,om⟩
theorem Dr{z:Int}(h:(Lit.int .i64 z).wf=true):-9223372036854775808<=z/\z<=9223372036854775807:=by
 simp only[Lit.wf,N4,Od]at h
 exact h
theorem J5{P:Program}{W:World}{tl ts te tel:TypeId}(Y:xU P tl ts te tel):∀(fuel:Nat) {cs:List Value} {x:DataW K×List MemPlace},DataW.trod enc P W 0 (fun _=>true) true fuel te cs=some x ->
  ∃e,XE (·<(dh W).next) (dh W) e (cs.map (jR W))/\dj e=true:=by
 intro fuel
 induction fuel using Nat.strongRecOn with
 | ind fuel ih=>
  intro cs x hf
  obtain⟨fs,hfs,d0,d1,d2,d3⟩:=Y.fe
  obtain⟨xs,n,hfu,_,hl,hn,hi⟩:=DataW.trod_struct hfs hf
  rw[Y.ce]at hl
  obtain⟨c0,c1,c2,c3,rfl⟩:∃a b c d,cs=[a,b,c,d]:=by
   match cs,hl with
   | [a,b,c,d],_=>exact⟨a,b,c,d,rfl⟩
  obtain⟨_,_,g0,t0⟩:=fL d0 hn hi
  obtain⟨_,_,g1,t1⟩:=fL d1 hn hi
  obtain⟨_,_,g2,t2⟩:=fL d2 hn hi
  obtain⟨_,_,rfl,t3⟩:=fL d3 hn hi
  obtain⟨z0,e0,_,w0⟩:=DataW.trod_int g0 t0
  obtain⟨s1,e1,_,_⟩:=DataW.trod_string g1 t1
  obtain⟨z2,e2,_,w2⟩:=DataW.trod_int g2 t2
  obtain⟨v,k,C,e3,q1,q2,q3⟩:=pw Y.el Y.ce om t3
  simp at e0 e1 e2 e3
  subst e0 e1 e2 e3
  obtain⟨k0,rfl⟩:=I7 w0
  obtain⟨l,hl1,hl2,hl3⟩:=Do (P:=(·<(dh W).next)) (H:=dh W) (Q:=fun e=>dj e=true) k C q2 fun i hi=>by
   obtain⟨f,es,y,r1,r2,r3⟩:=q3 i hi
   obtain⟨e,a1,a2⟩:=ih f om r3
   exact⟨e,by rw[<- r2]; exact a1,a2⟩
  subst hl1
  have hz:=Dr w2
  refine⟨.mk k0 s1.data.toList z2 l,⟨_,C,rfl,q1,hl2⟩,?_⟩
  simp only[dj,decide_eq_true hz.1,decide_eq_true hz.2,Ej hl3,Bool.and_self]
theorem J4{P:Program}{W:World}{tl ts te tel:TypeId}(Y:xU P tl ts te tel):∀(fuel:Nat) {cs:List Value} {x:DataW K×List MemPlace},DataW.trod enc P W 0 (fun _=>true) true fuel ts cs=some x ->
  ∃e,XS (·<(dh W).next) (dh W) e (cs.map (jR W))/\lX e=true:=by
 intro fuel
 induction fuel using Nat.strongRecOn with
 | ind fuel ih=>
  intro cs x hf
  obtain⟨fs,hfs,d0,d1,d2,d3,d4,d5⟩:=Y.fs
  obtain⟨xs,n,hfu,_,hl,hn,hi⟩:=DataW.trod_struct hfs hf
  rw[Y.cs]at hl
  obtain⟨c0,c1,c2,c3,c4,c5,c6,c7,c8,rfl⟩:∃a b c d e f g h i,cs=[a,b,c,d,e,f,g,h,i]:=by
   match cs,hl with
   | [a,b,c,d,e,f,g,h,i],_=>exact⟨a,b,c,d,e,f,g,h,i,rfl⟩
  obtain⟨_,_,g0,t0⟩:=fL d0 hn hi
  obtain⟨_,_,g1,t1⟩:=fL d1 hn hi
  obtain⟨_,_,rfl,t2⟩:=fL d2 hn hi
  obtain⟨_,_,rfl,t3⟩:=fL d3 hn hi
  obtain⟨_,_,rfl,t4⟩:=fL d4 hn hi
  obtain⟨_,_,g5,t5⟩:=fL d5 hn hi
  obtain⟨z0,e0,_,w0⟩:=DataW.trod_int g0 t0
  obtain⟨s1,e1,_,_⟩:=DataW.trod_string g1 t1
  obtain⟨e,x1,x2⟩:=J5 Y _ t2
  obtain⟨vb,kb,Cb,e3,q1,q2,q3⟩:=pw Y.l Y.cs om t3
  obtain⟨ve,ke,Ce,e4,p1,p2,p3⟩:=pw Y.l Y.cs om t4
  obtain⟨z5,e5,_,w5⟩:=DataW.trod_int g5 t5
  simp at e0 e1 e3 e4 e5
  subst e0 e1 e3 e4 e5
  obtain⟨k0,rfl⟩:=I7 w0
  obtain⟨lb,hl1,hl2,hl3⟩:=ut (P:=(·<(dh W).next)) (H:=dh W) (Q:=fun e=>lX e=true) kb Cb q2 fun i hi=>by
   obtain⟨f,es,y,r1,r2,r3⟩:=q3 i hi
   obtain⟨e,a1,a2⟩:=ih f om r3
   exact⟨e,by rw[<- r2]; exact a1,a2⟩
  obtain⟨le,hm1,hm2,hm3⟩:=ut (P:=(·<(dh W).next)) (H:=dh W) (Q:=fun e=>lX e=true) ke Ce p2 fun i hi=>by
   obtain⟨f,es,y,r1,r2,r3⟩:=p3 i hi
   obtain⟨e,a1,a2⟩:=ih f om r3
   exact⟨e,by rw[<- r2]; exact a1,a2⟩
  subst hl1 hm1
  have hz:=Dr w5
  refine⟨.mk k0 s1.data.toList e lb le z5,⟨_,_,Cb,_,Ce,rfl,x1,q1,hl2,p1,hm2⟩,?_⟩
  simp only[lX,x2,decide_eq_true hz.1,decide_eq_true hz.2,qr hl3,qr hm3,Bool.and_self]
theorem xG{P:Program}{W:World}{tl ts te tel:TypeId}(Y:xU P tl ts te tel){v:Value}{d:DataW K}{p:List MemPlace}(hv:v.cells.toList=[v])(h:DataW.Trod enc P W 0 (fun _=>true) true tl v d p) :
  ∃(l:List St) (C:List aa),fw (·<(dh W).next) (dh W) 9 (jR W v) l.length C/\gr (·<(dh W).next) (dh W) l C/\bR l=true:=by
 obtain⟨fuel,hf⟩:=h
 rw[hv]at hf
 obtain⟨v',k,C,e,q1,q2,q3⟩:=pw Y.l Y.cs om hf
 simp only[List.cons.injEq,and_true]at e
 subst e
 obtain⟨l,hl1,hl2,hl3⟩:=ut (P:=(·<(dh W).next)) (H:=dh W) (Q:=fun e=>lX e=true) k C q2 fun i hi=>by
  obtain⟨f,es,y,r1,r2,r3⟩:=q3 i hi
  obtain⟨e,a1,a2⟩:=J4 Y f r3
  exact⟨e,by rw[<- r2]; exact a1,a2⟩
 subst hl1
 exact⟨l,C,q1,hl2,qr hl3⟩
end Go.Proofs.Wo
namespace Go.Proofs
open Go.Shelf
def Tryd.laysM316_ren:Go.Shelf.Ren:=⟨fun | 316=>64 | n=>n,fun | 9=>9 | 3=>3 | 4=>4 | 37=>45 | 0=>0 | 127=>111 | 5=>5 | n=>n,fun | n=>n⟩
theorem Tryd.laysM316:Go.Proofs.LaysM.n316 Tryd.prog Tryd.laysM316_ren:={
 mixed:=by kernel_rfl
 f316:=Tryd.func64.trans (congrArg some (by kernel_rfl))
 t0:=Tryd.underlying0
 a0:=Tryd.isAgg0
 z0:=Tryd.sizeOf0
 v0:=Tryd.zeroValue0
 t3:=Tryd.underlying3
 a3:=Tryd.isAgg3
 z3:=Tryd.sizeOf3
 v3:=Tryd.zeroValue3
 t4:=Tryd.underlying4
 a4:=Tryd.isAgg4
 z4:=Tryd.sizeOf4
 v4:=Tryd.zeroValue4
 t9:=Tryd.underlying9
 a9:=Tryd.isAgg9
 z9:=Tryd.sizeOf9
 v9:=Tryd.zeroValue9
 t37:=Tryd.underlying45
 a37:=Tryd.isAgg45
 z37:=Tryd.sizeOf45
 v37:=Tryd.zeroValue45
 t127:=Tryd.underlying111
 a127:=Tryd.isAgg111
 z127:=Tryd.sizeOf111
 v127:=Tryd.zeroValue111
 t5:=Tryd.underlying5
 a5:=Tryd.isAgg5
 z5:=Tryd.sizeOf5
 v5:=Tryd.zeroValue5
 i0:=by kernel_rfl
 i3:=by kernel_rfl
 i4:=by kernel_rfl
 i5:=by kernel_rfl
 i9:=by kernel_rfl
 i37:=by kernel_rfl
 i127:=by kernel_rfl }
open Go.RowKit in
theorem Tryd.stringslite_Clone(s:ByteArray)(w:World)(hlim:s.size<=281474976710656) :
  Calls Tryd.prog 64 #[.string s] w fun e w'=>e=.returned (.string s)/\Below w.heap.size w w':=Any.stringslite_Clone Tryd.laysM316 s w hlim
end Go.Proofs
namespace Go.Proofs.Wo
open Go.Abs Go.Abs.S
theorem Ko:rX Tryd.prog nat:=by
 refine⟨fun f h=>?_,fun f args H v H' _ hr Prot w0 ρ w vs R hv=>?_⟩
 ·obtain rfl:f=64:=N8 h
  kernel_rfl
 ·show Calls Tryd.prog f vs w _
  have hr2:(bif Nat.beq f 64 then rQ H args else none)=some (v,H'):=hr
  cases hb:Nat.beq f 64 with
  | false=>rw[hb]at hr2; simp at hr2
  | true=>
   obtain rfl:f=64:=N8 hb
   rw[hb,cond_true]at hr2
   unfold rQ at hr2
   split at hr2 <;> first | (simp at hr2; done) | skip
   rename_i s
   cases hl:Nat.ble s.length 281474976710656 with
   | false=>rw[hl]at hr2; simp at hr2
   | true=>
    rw[hl]at hr2
    simp only[cond_true,sJ,pJ]at hr2
    obtain⟨rfl,rfl⟩:=hr2
    simp only[aj,ae]at hv
    obtain⟨v1,r1,e1,rfl,rfl⟩:=hv
    have hvs:vs=#[.string (aL s)]:=Array.toList_inj.1 (by simpa using e1)
    subst hvs
    have hsz:(aL s).size=s.length:=by simp[aL,ByteArray.size]
    have:=N7 hl
    exact (Tryd.stringslite_Clone (aL s) w (by rw[hsz]; exact this)).mono fun e w' ⟨he,hk⟩=>⟨ρ,_,Pl.le_refl _,he,R.keep hk,by simp only[ae]⟩
theorem AQ:rX Tryd.prog aB:=Ig Ko mdT
end Go.Proofs.Wo
namespace Go.Abs
open Go.ChangeShapes Go.WideShapes Go.ChangeAt Go.RowKit
section
variable {H:Type} {enc:TypeId×Value->H} {P:Program}
theorem lL{W W':World}{base:Nat}{sp:Nat->Bool}{held:Bool}(hb:Below W.heap.size W W'):∀{ts:List TypeId} {vs:List Value} {ds:List (DataW H)} {ps:List MemPlace},
  DataW.TrodAll enc P W base sp held ts vs ds ps->DataW.TrodAll enc P W' base sp held ts vs ds ps
 | [],[],[],_,h=>h
 | _::_,_::_,_::_,_,⟨p,q,⟨n,h1⟩,h2,e⟩=>by
  refine⟨p,q,⟨n,DataW.trod_carry n _ _ _ h1 fun x hx=>hb.same (DataW.trod_lt n _ _ _ h1 x hx)⟩,lL hb h2,e⟩
theorem pY{W W':World}{sp:Nat->Bool}{gs:List (DataW H)}{q:List MemPlace}(h:DataW.TrodVars enc P W sp [] gs q):DataW.TrodVars enc P W' sp [] gs q:=by
 obtain⟨rfl,rfl⟩:=trodVars_none h
 exact h
theorem wK{f:Func}{s:ChangeSpec}{apart:Bool}{W W':World}{args:Array Value}{ds gs:List (DataW H)}{before:List MemPlace}{tb:TypeId}
  (hl:laidOutB P=true) (hm:mapsRowed P=true)
  (hz:((List.range P.types.size).all fun t=>match P.underlying t with | some (.slice e)=>decide (0<P.cellsOf e) | _=>true)=true)
  (hts:(f.params.toList.all fun t=>decide (t<P.types.size))=true) (hv:s.vars=[])
  (hW:DataW.Whole enc P f.params.toList s.vars apart W args.toList ds gs before)
  (hfn:s.fn H (ds++gs)={ results:=[.lit (.bool true)],args:=ds }) (hr:f.resultTypes=#[tb]) (ht:P.underlying tb=some .bool) (hb:Below W.heap.size W W') :
  s.post enc P f apart true false false W args (.bool true) W':=by
 have hlt:∀p∈before,p.block<W.heap.size:=fun p hp=>hW.lt p hp
 have hW0:=hW
 obtain⟨p,q,hA,hV,rfl,hfz,hnd⟩:=hW
 rw[hv]at hV
 obtain⟨rfl,rfl⟩:=trodVars_none hV
 have hT:∀t∈f.params.toList,t<P.types.size:=fun t ht=>by simpa using List.all_eq_true.1 hts t ht
 refine⟨ds,[],p++[],[],p,[],hW0,?_,?_,?_,World.keptBut_mono (fun x hx=>⟨hx,by simpa using hx⟩) (hb.frame (·∈p++[])),fun h=>by simp at h⟩
 ·rw[hfn,hr]
  exact trodAll_cons_mk (shut_bool ht _) trodAll_mk0
 ·rw[hfn]
  refine lL hb (DataW.TrodAll.respare (kids_rows hl hm) (slices_full_of P hz) hT hA fun x hx=>?_)
  simpa using hlt x (by simpa using hx)
 ·rw[hfn,hv]
  exact pY (W:=W) hV
end
end Go.Abs
namespace Go.Proofs.YtfleblkgifoeaaaDoor
open Go.ChangeShapes Go.WideShapes Go.RowKit
open Go.Abs Go.Abs.S Go.Proofs.Wo
theorem own:ownKnob Tryd.prog.godebug=none:=by kernel_rfl
theorem uZ{H:Type}{enc:TypeId×Value->H}{P:Program}{w:World}{base:Nat}{spare:Nat->Bool}{held:Bool}{fuel n:Nat}{t e:TypeId}{k:IntKind}{cs:List Value}{p:List MemPlace}{l:List Int}
  (ht:P.underlying t=some (.array n e)) (he:P.underlying e=some (.int k)) (hc:P.cellsOf e=1) (hct:P.cellsOf t=n)
  (h:DataW.trod enc P w base spare held fuel t cs=some (.agg (l.map fun x=>.lit (.int k x)),p)):cs=l.map (.int k):=by
 obtain⟨xs,m,_,hx,hl,hn,hi⟩:=DataW.trod_array ht h
 simp only[pJ,DataW.agg.injEq]at hx
 have hll:l.length=n:=by
  have:=congrArg List.length hx.1
  simp at this; omega
 apply List.ext_getElem?
 intro i
 by_cases hlt:i<n
 ·have h1:=hi i hlt
  rw[hc,Nat.mul_one]at h1
  have hxi:∃x,xs[i]?=some x:=⟨xs[i]'om,N1 _⟩
  obtain⟨x,hxi⟩:=hxi
  rw[hxi]at h1
  obtain⟨y,hy,hyx,_⟩:=DataW.trod_int he h1
  have hli:l[i]?=some (l[i]'om):=N1 _
  have h2:=congrArg (·[i]?) hx.1
  simp only[List.getElem?_map,hxi,hli,Option.map_some,sJ,hyx]at h2
  simp only[DataW.lit.injEq,Lit.int.injEq,true_and]at h2
  have h3:cs[i]?=some (.int k y):=by
   have:=congrArg (·[0]?) hy
   simpa[List.getElem?_take,List.getElem?_drop] using this
  rw[h3,List.getElem?_map,hli,<- h2]
  rfl
 ·rw[Oi om,Oi (by simp; omega)]
theorem Hs{P:Program}{w:World}{n:String}{g:Nat}{cs:Array Value}(hg:P.globalNamed n=some g)(h:w.var? P n=some cs):∃e fz,w.heap[g]?=some (.cells cs e fz):=by
 simp only[World.var?,hg,Option.bind_some]at h
 split at h
 ·rename_i C e fz hC
  simp only[sJ]at h
  subst h
  exact⟨_,_,hC⟩
 ·simp at h
abbrev EV:List (String×DataW Unit):=Rows.treeBackRow.laid
theorem oX{W:World}(h:laidMetH Tryd.prog EV W):pM (dh W) 1 ml/\1<(dh W).next:=by
 have h':laidMet Tryd.prog EV W:=h
 obtain⟨ps,hl,_,_⟩:=h'
 obtain⟨_,_,_,_,_,_,_,_,_,_,hl,_⟩:=hl
 obtain⟨_,_,_,_,_,_,_,_,_,_,hl,_⟩:=hl
 obtain⟨g,t,cs,f,p,q,hg,ht,hv,htr,_,_⟩:=hl
 have e1:some 1=some g:=Eq.trans (by kernel_rfl) hg
 simp only[sJ]at e1
 subst e1
 have e2:some 123=some t:=Eq.trans (by kernel_rfl) ht
 simp only[sJ]at e2
 subst e2
 have hcs:=uZ (l:=(List.range 20).map fun i=>((10 ^ i:Nat):Int)) Tryd.underlying123 (k:=.u64) Tryd.underlying108 (by kernel_rfl) (by kernel_rfl) htr
 obtain⟨e,fz,hrow⟩:=Hs hg hv
 refine⟨?_,(Array.getElem?_eq_some_iff.1 hrow).1⟩
 unfold pM
 rw[fE]
 unfold qB
 simp only[hrow,hcs]
 rfl
end Go.Proofs.YtfleblkgifoeaaaDoor
