/- Part of a proof (D7 D6b D8 D9 A11 A11b A12); no condition. -/
import Derived.LoopN
import Derived.Defers
import Derived.Test.YteabnpheoiakdaaGreatDoorP3
set_option linter.unusedSimpArgs false
set_option linter.unusedVariables false
set_option linter.defProp false
set_option linter.unnecessarySimpa false
namespace Go.Abs
def mo(ms:List Nat)(i j:Nat)(a b:aD):Bool:=mQ ms j i||(xH a b&&(!(aW a.op&&aW b.op)||(nH b.op&&(qW a.op&&(a.guard.isNone&&b.guard.isNone)))))
def gu(l:List aD)(ms:List Nat):Bool:=
 (List.range l.length).all λj=>match l[j]? with
  |some b=>(List.range j).all λi=>match l[i]? with
   |some a=>mo ms i j a b
   |none=>true
  |none=>true
def eS(l:List aD)(ms:List Nat)(i j:Nat):Bool:=match l[i]?,l[j]? with
 |some a,some b=>Nat.blt i j&&(aW a.op&&(aW b.op&&!mQ ms j i))
 |_,_=>false
def jR(l:List aD)(ms:List Nat):Bool:=
 (List.range l.length).all λj=>(List.range j).all λi=>!eS l ms i j||(List.range l.length).all λk=>match l[k]? with
  |some o=>!d9 o.op||(!mQ ms k j||mQ ms k i)
  |none=>true
def cY(l:List aD)(ss:List (ae×aa))(T0:Tr ae)(q:Nat):List Nat:=match l[q]?,ss[q]? with
 |some o,some (v,_)=>gN (cx (λi=>Nat.blt i (0+q)) 0 l ss T0) o.op v
 |_,_=>[]
section
variable {tb:FuncId->Bool} {call:FuncId->List ae->aa->Option (ae×aa)}
theorem sV{l:List aD}{ms:List Nat}{i j:Nat}{a b:aD}(hi:l[i]?=some a)(hj:l[j]?=some b)(h:i<j)(ha:aW a.op=true)(hb:aW b.op=true)(hn:mQ ms j i=false):eS l ms i j=true:=by unfold eS;rw[hi,hj];have:Nat.blt i j=true:=Xz h;simp only[ha,hb,hn,this,Bool.not_false,Bool.and_self]
def eO(l:List aD)(m:Nat->Bool)(q:Nat):Prop:=m q=true/\∃o,l[q]?=some o/\aW o.op=true
structure xQ(l:List aD)(ss:List (ae×aa))(T0:Tr ae)(H0:aa)(m:Nat->Bool)(p:Nat)(Hx:aa):Prop where
 next:Hx.next=(fX H0 ss p).next
 base:∀x,(∀q,p<=q->eO l m q->x∉cY l ss T0 q)->Hx.get x=(fX H0 ss p).get x
 late:∀q x,p<=q->eO l m q->x∈cY l ss T0 q->(∀q',q<q'->eO l m q'->x∉cY l ss T0 q')->Hx.get x=(fX H0 ss (q+1)).get x
theorem wD{P:Nat->Prop}{n q:Nat}(hq:P q)(hn:∀q,P q->q<n):∃q,P q/\∀q',q<q'->¬P q':=by
 induction hk:n-q using Nat.strongRecOn generalizing q with
 |_ k ih=>
  rcases Classical.em (∃q',q<q'/\P q')with⟨q',h1,h2⟩|h
  ·have:=hn q' h2;exact ih (n-q') om h2 rfl
  ·exact⟨q,hq,λq' h1 h2=>h ⟨q',h1,h2⟩⟩
theorem BH{H0:aa}{ss:List (ae×aa)}{x:Nat}:∀(d a:Nat),(∀c,a<=c->c<a+d->(fX H0 ss (c+1)).get x=(fX H0 ss c).get x)->(fX H0 ss (a+d)).get x=(fX H0 ss a).get x:=by
 intro d;induction d with
 |zero=>intro a _;rfl
 |succ d ih=>intro a h;rw[show a+(d+1)=a+d+1 by omega,h (a+d) om om];exact ih a λc h1 h2=>h c h1 om
theorem IB{H0:aa}{ss:List (ae×aa)}:∀(d a:Nat),(∀c,a<=c->c<a+d->(fX H0 ss (c+1)).next=(fX H0 ss c).next)->(fX H0 ss (a+d)).next=(fX H0 ss a).next:=by
 intro d;induction d with
 |zero=>intro a _;rfl
 |succ d ih=>intro a h;rw[show a+(d+1)=a+d+1 by omega,h (a+d) om om];exact ih a λc h1 h2=>h c h1 om
variable {l:List aD} {ms:List Nat} {T0:Tr ae} {H0:aa} {ss:List (ae×aa)}
theorem Aq(htr:eG tb call l T0 H0=some ss){c:Nat}{o:aD}(hc:l[c]?=some o)(hg:o.guard=none)(ht:qW o.op=true){x:Nat}(hx:x∉cY l ss T0 c):(fX H0 ss (c+1)).get x=(fX H0 ss c).get x:=by obtain⟨_,hat⟩:=jJ l T0 H0 ss 0 htr;obtain⟨v,H1,hs,hst⟩:=hat c o hc;simp only[cY,hc,hs]at hx;have:=J5 hg ht hst hx;simpa only [fX,hs]using this
theorem QS(htr:eG tb call l T0 H0=some ss){c:Nat}{o:aD}(hc:l[c]?=some o)(hg:o.guard=none)(ht:nH o.op=true):(fX H0 ss (c+1)).next=(fX H0 ss c).next:=by obtain⟨_,hat⟩:=jJ l T0 H0 ss 0 htr;obtain⟨v,H1,hs,hst⟩:=hat c o hc;have:=((su hg (Al ht) hst).2 ht).1;simpa only [fX,hs]using this
theorem Aa(htr:eG tb call l T0 H0=some ss){c:Nat}{o:aD}(hc:l[c]?=some o)(hn:aW o.op=false):fX H0 ss (c+1)=fX H0 ss c:=eT htr 1 c (by have:=(Xy.1 hc).1;omega) λc' o' h1 h2 h3=>by obtain rfl:c'=c:=om;rw[hc]at h3;simp only[sJ]at h3;subst h3;exact hn
theorem gH(hp:gu l ms=true){i j:Nat}(h:eS l ms i j=true):∃a b,l[i]?=some a/\l[j]?=some b/\i<j/\nH b.op=true/\qW a.op=true/\a.guard=none/\b.guard=none:=by
 unfold eS at h;split at h
 ·rename_i a b hi hj;simp only[XA,Bool.not_eq_true']at h;obtain⟨h1,h2,h3,h4⟩:=h;have hij:i<j:=XD h1;unfold gu at hp;rw[List.all_eq_true]at hp;have q:=hp j (List.mem_range.2 (Xy.1 hj).1);rw[hj]at q;simp only at q;rw[List.all_eq_true]at q;have q2:=q i (List.mem_range.2 hij);rw[hi]at q2;simp only[mo,h4,h2,h3,Bool.false_or,Bool.and_self,Bool.not_true,XA,Option.isNone_iff_eq_none]at q2;exact⟨a,b,hi,hj,hij,q2.2.1,q2.2.2.1,q2.2.2.2.1,q2.2.2.2.2⟩
 ·simp at h
def Sj(l:List aD)(ms:List Nat)(m:Nat->Bool):Prop:=∀j,j<l.length->m j=true->∀i,i<j->mQ ms j i=true->m i=true
section
variable {m:Nat->Bool} (hd:Sj l ms m)
include hd
theorem eL{c q:Nat}{o:aD}(hc:l[c]?=some o)(hcc:aW o.op=true)(hcm:m c=false)(hcq:c<q)(he:eO l m q):eS l ms c q=true:=by
 obtain⟨h1,b,h2,h3⟩:=he;refine sV hc h2 hcq hcc h3 ?_;cases hb:mQ ms q c with
 |false=>rfl
 |true=>have:=hd q (Xy.1 h2).1 h1 c hcq hb;rw[hcm]at this;simp at this
end
def eI(m:Nat->Bool)(i:Nat):Nat->Bool:=λj=>if j=i then true else m j
theorem iJ{m:Nat->Bool}{i q:Nat}:eO l (eI m i) q↔(eO l m q∨(q=i/\∃o,l[q]?=some o/\aW o.op=true)):=by
 unfold eO eI;constructor
 ·rintro⟨h1,h2⟩;by_cases e:q=i
  ·exact .inr ⟨e,h2⟩
  ·rw[if_neg e]at h1;exact .inl ⟨h1,h2⟩
 ·rintro(⟨h1,h2⟩|⟨e,h2⟩)
  ·exact⟨by split<;>simp_all,h2⟩
  ·exact⟨by rw[if_pos e],h2⟩
section
variable (htr:eG tb call l T0 H0=some ss) (hp:gu l ms=true) (hap:∀i j,eS l ms i j=true->∀x∈cY l ss T0 j,x∉cY l ss T0 i)
 {m:Nat->Bool} (hd:Sj l ms m) {p:Nat}
include htr hp hap hd
set_option linter.unusedSectionVars false in
theorem CM{q:Nat}(h:eO l m q):q<l.length:=by obtain⟨_,o,h,_⟩:=h;exact(Xy.1 h).1
theorem Oe{op:aD}(hlp:l[p]?=some op)(hcp:aW op.op=true)(hmp:m p=false){i:Nat}{o:aD}(hi:l[i]?=some o)(hc:aW o.op=true)(hmi:m i=false)
  (hready:∀c,c<i->mQ ms i c=true->m c=true) (hpi:p<i) {Hx:aa} (R:xQ l ss T0 H0 m p Hx) {v:ae} {H1:aa} (hs:ss[i]?=some (v,H1))
  (hst:dh tb call o (cx (λj=>Nat.blt j (0+i)) 0 l ss T0) (fX H0 ss i)=some (v,H1)) :
  ∃H3,dh tb call o (cx (λj=>Nat.blt j (0+i)) 0 l ss T0) Hx=some (v,H3)/\xQ l ss T0 H0 (eI m i) p H3:=by
 have hlo:∀c oc,l[c]?=some oc->aW oc.op=true->m c=false->c<i->eS l ms c i=true:=by
  intro c oc h1 h2 h3 h4;refine sV h1 hi h4 h2 hc ?_;cases hb:mQ ms i c with
  |false=>rfl
  |true=>have:=hready c h4 hb;rw[h3]at this;simp at this
 obtain⟨_,b,_,hb,_,hmv,_,_,hgb⟩:=gH hp (hlo p op hlp hcp hmp hpi);rw[hi]at hb;obtain rfl:=Option.some.inj hb;have htc:cY l ss T0 i=gN (cx (λj=>Nat.blt j (0+i)) 0 l ss T0) o.op v:=by simp only[cY,hi,hs]
 have hspan:∀x∈cY l ss T0 i,∀a,p<=a->a<=i->(∀c,a<=c->c<i->eO l m c->x∉cY l ss T0 c)->(fX H0 ss i).get x=(fX H0 ss a).get x:=by
  intro x hx a ha hai hno;have:=BH (H0:=H0) (ss:=ss) (x:=x) (i-a) a λc h1 h2=>by
   have hcl:c<l.length:=by have:=(Xy.1 hi).1;omega
   have hlc:l[c]?=some l[c]:=Xx hcl;cases hcc:aW l[c].op with
   |false=>rw[Aa htr hlc hcc]
   |true=>
    cases hcm:m c with
    |true=>
     have he:eO l m c:=⟨hcm,_,hlc,hcc⟩;have hpc:p<c:=by
      rcases Nat.lt_or_ge p c with h|h
      ·exact h
      ·obtain rfl:c=p:=om;rw[hmp]at hcm;simp at hcm
     obtain⟨_,b,_,hb,_,hmv2,_,_,hgb2⟩:=gH hp (eL hd hlp hcp hmp hpc he);rw[hlc]at hb;obtain rfl:=Option.some.inj hb;exact Aq htr hlc hgb2 (Al hmv2) (hno c h1 om he)
    |false=>have hl:=hlo c _ hlc hcc hcm om;obtain⟨a',_,ha',_,_,_,htc',hga,_⟩:=gH hp hl;rw[hlc]at ha';obtain rfl:=Option.some.inj ha';exact Aq htr hlc hga htc' (hap c i hl x hx)
  rwa [show a+(i-a)=i by omega]at this
 have hget:∀x∈cY l ss T0 i,Hx.get x=(fX H0 ss i).get x:=by
  intro x hx;rcases Classical.em (∃q,p<=q/\eO l m q/\x∈cY l ss T0 q)with⟨q,hq⟩|hno
  ·obtain⟨q,⟨q1,q2,q3⟩,qm⟩:=wD (P:=λq=>p<=q/\eO l m q/\x∈cY l ss T0 q) (n:=l.length) hq λq h=>CM htr hp hap hd h.2.1;have hqi:q<i:=by
    rcases Nat.lt_trichotomy q i with h|h|h
    ·exact h
    ·subst h;rw[q2.1]at hmi;simp at hmi
    ·exact absurd hx (hap i q (eL hd hi hc hmi h q2) x q3)
   rw[R.late q x q1 q2 q3 λq' h1 h2 h3=>qm q' h1 ⟨om,h2,h3⟩];exact(hspan x hx (q+1) om om λc h1 h2 h3 h4=>qm c om ⟨om,h3,h4⟩).symm
  ·rw[R.base x λq h1 h2 h3=>hno ⟨q,h1,h2,h3⟩];exact(hspan x hx p rL om λc h1 h2 h3 h4=>hno ⟨c,h1,h3,h4⟩).symm
 rw[htc]at hget;obtain⟨H3,e1,e2,e3,e4⟩:=IY hgb hmv hst hget;rw[<- htc]at e3 e4;have hi1:fX H0 ss (i+1)=H1:=by simp only[fX,hs]
 refine⟨H3,e1,?_,?_,?_⟩
 ·rw[e2];exact R.next
 ·intro x hx;have hxi:=hx i om (iJ.2 (.inr ⟨rfl,o,hi,hc⟩));rw[e4 x hxi];exact R.base x λq h1 h2=>hx q h1 (iJ.2 (.inl h2))
 ·intro q x h1 h2 h3 h4;rcases iJ.1 h2 with h2|⟨rfl,_⟩
  ·have hxi:x∉cY l ss T0 i:=by
    rcases Nat.lt_trichotomy q i with h|h|h
    ·exact h4 i h (iJ.2 (.inr ⟨rfl,o,hi,hc⟩))
    ·have h9:=h2.1;rw[h,hmi]at h9;simp at h9
    ·exact hap i q (eL hd hi hc hmi h h2) x h3
   rw[e4 x hxi];exact R.late q x h1 h2 h3 λq' a b=>h4 q' a (iJ.2 (.inl b))
  ·rw[e3 x h3,hi1]
theorem Oc{o:aD}(hi:l[p]?=some o)(hc:aW o.op=true)(hmi:m p=false){p':Nat}(hpp:p<p')(hpl:p'<=l.length)
  (hdone:∀c oc,p<c->c<p'->l[c]?=some oc->aW oc.op=true->m c=true) {Hx:aa} (R:xQ l ss T0 H0 m p Hx) {v:ae} {H1:aa} (hs:ss[p]?=some (v,H1))
  (hst:dh tb call o (cx (λj=>Nat.blt j (0+p)) 0 l ss T0) (fX H0 ss p)=some (v,H1)) :
  ∃Hy H3,Hy.next=Hx.next/\(∀x,Hy.get x=Hx.get x)/\dh tb call o (cx (λj=>Nat.blt j (0+p)) 0 l ss T0) Hy=some (v,H3)/\xQ l ss T0 H0 (eI m p) p' H3:=by
 have hi1:fX H0 ss (p+1)=H1:=by simp only[fX,hs]
 have hE:∀q,p'<=q->(eO l (eI m p) q↔eO l m q):=λq hq=>by
  rw[iJ];constructor
  ·rintro(h|⟨rfl,_⟩)
   ·exact h
   ·omega
  ·exact .inl
 have hspan:∀x a,p<a->a<=p'->(∀c,a<=c->c<p'->eO l m c->x∉cY l ss T0 c)->(fX H0 ss p').get x=(fX H0 ss a).get x:=by
  intro x a ha hap' hno;have:=BH (H0:=H0) (ss:=ss) (x:=x) (p'-a) a λc h1 h2=>by
   have hcl:c<l.length:=om;have hlc:l[c]?=some l[c]:=Xx hcl;cases hcc:aW l[c].op with
   |false=>rw[Aa htr hlc hcc]
   |true=>have he:eO l m c:=⟨hdone c _ om om hlc hcc,_,hlc,hcc⟩;obtain⟨_,b,_,hb,_,hmv2,_,_,hgb2⟩:=gH hp (eL hd hi hc hmi om he);rw[hlc]at hb;obtain rfl:=Option.some.inj hb;exact Aq htr hlc hgb2 (Al hmv2) (hno c h1 om he)
  rwa [show a+(p'-a)=p' by omega]at this
 have hnx:(fX H0 ss p').next=(fX H0 ss (p+1)).next:=by
  have:=IB (H0:=H0) (ss:=ss) (p'-(p+1)) (p+1) λc h1 h2=>by
   have hcl:c<l.length:=om;have hlc:l[c]?=some l[c]:=Xx hcl;cases hcc:aW l[c].op with
   |false=>rw[Aa htr hlc hcc]
   |true=>have he:eO l m c:=⟨hdone c _ om om hlc hcc,_,hlc,hcc⟩;obtain⟨_,b,_,hb,_,hmv2,_,_,hgb2⟩:=gH hp (eL hd hi hc hmi om he);rw[hlc]at hb;obtain rfl:=Option.some.inj hb;exact QS htr hlc hgb2 hmv2
  rwa [show p+1+(p'-(p+1))=p' by omega]at this
 have hne:∀q,p<=q->eO l m q->p<q:=λq h1 h2=>by
  rcases Nat.lt_or_ge p q with h|h
  ·exact h
  ·obtain rfl:q=p:=om;rw[h2.1]at hmi;simp at hmi
 rcases Classical.em (∃q,p<=q/\eO l m q)with⟨q0,hq0,he0⟩|hno
 ·-- some are done early
  obtain⟨a,_,ha,_,_,_,htc,hga,_⟩:=gH hp (eL hd hi hc hmi (hne q0 hq0 he0) he0);rw[hi]at ha;obtain rfl:=Option.some.inj ha;have htp:cY l ss T0 p=gN (cx (λj=>Nat.blt j (0+p)) 0 l ss T0) o.op v:=by simp only[cY,hi,hs]
  have hap':∀q,p<=q->eO l m q->∀x∈cY l ss T0 q,x∉cY l ss T0 p:=λq h1 h2=>hap p q (eL hd hi hc hmi (hne q h1 h2) h2);obtain⟨H3,e1,e2⟩:=(su hga htc hst).1.1 Hx R.next λx hx=>R.base x λq h1 h2 h3=>hap' q h1 h2 x h3 (by rw[htp];exact hx);rw[<- htp]at e2;have hkeep:∀x,x∉cY l ss T0 p->(fX H0 ss (p+1)).get x=(fX H0 ss p).get x:=λx hx=>Aq htr hi hga htc hx;refine⟨Hx,H3,rfl,λ_=>rfl,e1,?_,?_,?_⟩
  ·rw[e2.next,hnx,hi1]
  ·intro x hx;have hx':∀q,p'<=q->eO l m q->x∉cY l ss T0 q:=λq h1 h2=>hx q h1 ((hE q h1).2 h2);rcases Classical.em (∃q,p<q/\eO l m q/\x∈cY l ss T0 q)with⟨q,hq⟩|hnone
   ·obtain⟨q,⟨q1,q2,q3⟩,qm⟩:=wD (P:=λq=>p<q/\eO l m q/\x∈cY l ss T0 q) (n:=l.length) hq λq h=>CM htr hp hap hd h.2.1;have hqp:q<p':=by
     rcases Nat.lt_or_ge q p' with h|h
     ·exact h
     ·exact absurd q3 (hx' q h q2)
    rw[e2.rest x (hap' q om q2 x q3),R.late q x om q2 q3 λq' h1 h2 h3=>qm q' h1 ⟨om,h2,h3⟩];exact(hspan x (q+1) om om λc h1 h2 h3 h4=>qm c om ⟨om,h3,h4⟩).symm
   ·rw[hspan x (p+1) om om λc h1 h2 h3 h4=>hnone ⟨c,om,h3,h4⟩];rcases Classical.em (x∈cY l ss T0 p)with hxp|hxp
    ·rw[e2.same x hxp,hi1]
    ·rw[e2.rest x hxp,hkeep x hxp];exact R.base x λq h1 h2 h3=>hnone ⟨q,hne q h1 h2,h2,h3⟩
  ·intro q x h1 h2 h3 h4;have h2':=(hE q h1).1 h2;rw[e2.rest x (hap' q om h2' x h3)];exact R.late q x om h2' h3 λq' a b=>h4 q' a ((hE q' om).2 b)
 ·-- none
  have hh:fX H0 ss p'=H1:=by
   rw[<- hi1];have:=eT htr (p'-(p+1)) (p+1) om λc oc h1 h2 h3=>by
    cases hcc:aW oc.op with
    |false=>rfl
    |true=>exact absurd ⟨c,om,hdone c oc om om h3 hcc,oc,h3,hcc⟩ hno
   rwa [show p+1+(p'-(p+1))=p' by omega]at this
  refine⟨fX H0 ss p,H1,R.next.symm,λx=>(R.base x λq h1 h2=>absurd ⟨q,h1,h2⟩ hno).symm,hst,?_,?_,?_⟩
  ·rw[hh]
  ·intro x _;rw[hh]
  ·intro q x h1 h2;exact absurd ⟨q,om,(hE q h1).1 h2⟩ hno
end
theorem Od{m:Nat->Bool}{p i:Nat}{o:aD}(hi:l[i]?=some o)(hc:aW o.op=false){Hx:aa}(R:xQ l ss T0 H0 m p Hx):xQ l ss T0 H0 (eI m i) p Hx:=by
 have hE:∀q,eO l (eI m i) q↔eO l m q:=λq=>by
  rw[iJ];constructor
  ·rintro(h|⟨rfl,o',h1,h2⟩)
   ·exact h
   ·rw[hi]at h1;obtain rfl:=Option.some.inj h1;rw[hc]at h2;simp at h2
  ·exact .inl
 exact⟨R.next,λx hx=>R.base x λq h1 h2=>hx q h1 ((hE q).2 h2),λq x h1 h2 h3 h4=>R.late q x h1 ((hE q).1 h2) h3 λq' a b=>h4 q' a ((hE q').2 b)⟩
end
end Go.Abs
namespace Go.Abs
section
variable {P:Program} {Prot:Gh} {w0:World} {ρ:Pl} {H:aa} {w:World}
def cX.set_dead(R:cX Prot w0 ρ H w){b:Nat}(hd:Prot.dead b)(o:di)(ho:o.rw=true):cX Prot w0 ρ (H.set b o) w:=by
 obtain⟨hbn,hnone⟩:=R.dead b hd;have hne:∀{b' l L},ρ b' l=some L->b'≠b:=λ{b' l L} h e=>by subst e;rw[hnone]at h;simp at h
 have hget:∀{b'},b'≠b->(H.set b o).get b'=H.get b':=λh=>by rw[aa.get_set,if_neg h]
 refine⟨R.os,R.tape,R.output,R.size,R.prot,R.dom,λb' l L q=>?_,λb' l L x q hx=>?_,λb1 l1 L1 b2 l2 L2 x q1 q2 e hx=>?_,R.dead,λb' l low' hx=>?_⟩
 ·rw[hget (hne q)];exact R.obj b' l L q
 ·rw[hget (hne q)]at hx;exact R.free b' l L x q hx
 ·rw[hget (hne q1)]at hx;exact R.inj b1 l1 L1 b2 l2 L2 x q1 q2 e hx
 ·by_cases e:b'=b
  ·subst e;rw[aa.get_set,if_pos rfl]at hx;rw[Option.some.inj hx]at ho;simp[di.rw]at ho
  ·rw[hget e]at hx;exact R.glob b' l low' hx
def EZ(R:cX Prot w0 ρ H w){sT elem:TypeId}{size:Nat}{agg:Bool}{z:List ae}(hu:P.underlying sT=some (.slice elem))(T:Ty P elem agg size)(hz:gX P elem=some z)
  (hzl:z.length=size) {len:Nat} (hsm:len*size<=16777216) {ps:List (Nat×Nat×ae)} {qs:Array (Nat×Value)} (hp:fJ ρ (λi=>some (i*size,size)) ps qs.toList) {xs:List ae}
  (hxs:kV (BS z len) ps=some xs) {b:Nat} (hd:Prot.dead b) :
  ∃ρ' w' u,ρ.le ρ'/\(Instr.buildSlice sT len qs).run P w=.ok u w'/\cX ⟨Prot.prot,λd=>Prot.dead d/\d≠b⟩ w0 ρ' (H.set b (.cells xs 0 false)) w'/\ar ρ' (.slice (some ⟨b,xs.length,0⟩) len (.known len)) u:=by
 obtain⟨zv,hzr,hzl'⟩:=oG hz;have hlen:=aE.len (hzl' ρ);simp only[Array.length_toList]at hlen;obtain⟨C,f1,f2⟩:=uI hp (Cm (hzl' ρ) len) hxs;rw[hzl]at f1;obtain⟨ρ',q1,q3,q4⟩:=II (R.set_dead hd (.cells xs 0 false) rfl) elem f2 hd (by rw[aa.get_set,if_pos rfl]);have q2:(newRow elem C).run P w=.ok ⟨w.heap.size,0,none⟩ (w.alloc (.cells C elem)):=rfl;have hsm':¬16777216<len*size:=om;refine⟨ρ',_,.slice (some ⟨w.heap.size,0,none⟩) len len,q1,?_,q3,?_⟩
 ·by_cases hn:len*size=0
  ·have hm:mq zv.cells (len*size)=#[]:=by rw[hn];simp[mq]
   rw[hm]at f1;simp only[Instr.buildSlice,Sem.run_bind,run_underlying hu,Result.andThen_ok,T.size];simp[hn,show Array.range 0=#[] by simp,f1,q2]
  ·unfold mq at f1;simp only[Instr.buildSlice,Sem.run_bind,run_underlying hu,Result.andThen_ok,T.size];simp[hsm',hn,hzr,f1,q2]
 ·simp only[ar];exact⟨_,q4,Nat.zero_le _,Nat.le_refl _,rfl⟩
def AJ{c:Call}{n:Nat}{z:List ae}{l:List (Nat×Nat×bW)}(h:lP P c=some (.buildSl n z l)):False:=by
 unfold lP at h
 repeat' split at h
 all_goals first
  |(simp at h;done)
  |(cases hb:(Nat.beq _ _&&pY P _)<;>simp[hb]at h;done)
  |skip
 all_goals (revert h;intro h;simp only[cond_eq_ite]at h;split at h<;>simp at h)
def AM{o:Op}{n:Nat}{z:List ae}{l:List (Nat×Nat×bW)}(h:tv P o=some (.buildSl n z l)):False:=by
 unfold tv at h
 repeat' split at h
 all_goals first
  |(simp at h;done)
  |(simp only[cond_eq_ite]at h;split at h<;>first|(simp at h;done)|(split at h<;>simp at h))
def RQ{o:Op}{len:Nat}{z:List ae}{l:List (Nat×Nat×bW)}(h:AN P o=some (.buildSl len z l)) :
  ∃t e ps g k,o=.buildSlice t len ps/\P.underlying t=some (.slice e)/\ef P e=some (g,k)/\gX P e=some z/\oh (λi=>some (i*k,k)) ps.toList=some l/\z.length=k/\len*k<=16777216:=by
 unfold AN at h;split at h
 ·rename_i a ha;simp only[sJ]at h;subst h;exact(AM ha).elim
 ·split at h
  ·rename_i a ha;simp only[sJ]at h;subst h;cases o<;>simp only[C3,reduceCtorEq]at ha
   case buildSlice t len' ps _=>
    split at ha
    ·rename_i e hu;split at ha
     ·rename_i g k z' hk hz;split at ha
      ·rename_i l' hl;cases hg:(Nat.beq z'.length k&&Nat.ble (len'*k) 16777216)with
       |false=>rw[hg]at ha;simp at ha
       |true=>rw[hg]at ha;simp only[XA,Nat.ble_eq]at hg;simp only[cond_true,sJ,jz.buildSl.injEq]at ha;obtain⟨rfl,rfl,rfl⟩:=ha;exact⟨t,e,ps,g,k,rfl,hu,hk,hz,hl,XF hg.1,hg.2⟩
      ·simp at ha
     ·simp at ha
    ·simp at ha
   case call c=>exact(AJ ha).elim
   all_goals
    exfalso
    repeat' split at ha
    all_goals first
     |(simp at ha;done)
     |(simp only[cond_eq_ite]at ha;split at ha<;>simp at ha)
  ·simp at h
def KU(l:List (Nat×Nat×bW)):List (Nat×Nat):=l.map λq=>(q.1,q.2.1)
def KM(l:List (Nat×Nat×bW)):List bW:=l.map λq=>q.2.2
def Be(T:Tr ae):∀l:List (Nat×Nat×bW),Ip (KU l) (pF T (KM l))=Jg T l
 | []=>rfl
 |(a,b,x)::r=>by have:=Be T r;simp only[KU,KM,List.map_cons,pF,Ip,Jg]at this ⊢;rw[this]
def jW:jz->Option (lX×List bW)
 | .buildSl len z l=>some (.lit len z (KU l),KM l)
 | .hf .mkMap []=>some (.map,[])
 | .new z=>some (.new z,[])
 |_=>none
def Na(P:Program)(n:Nat)(ops:Array Oper)(o:Oper)(a:aD)(b:Nat):Prop:=∃ao k xs g,AN P o.op=some ao/\jW ao=some (k,xs)/\qg n ops o.guard=some g/\lL n o.dst=true/\a=⟨o.dst,.hf (.fill b k) xs,g⟩
def LL(R:cX Prot w0 ρ H w){n:Nat}{T:Tr ae}{a:Act}(ht:bY ρ n T a.tmps){o:Oper}{ao:jz}(hc:AN P o.op=some ao){k:lX}{xs:List bW}(hf:jW ao=some (k,xs))
  {b:Nat} (hd:Prot.dead b) {v:ae} {H':aa} (hx:iL k b H (pF T xs)=some (v,H')) :
  ∃ρ' w' u,ρ.le ρ'/\(execOp a.eval o).run P w=.ok (.value u) w'/\cX ⟨Prot.prot,λd=>Prot.dead d/\d≠b⟩ w0 ρ' H' w'/\ar ρ' v u:=by
 obtain⟨c,ob,hg,ho,rfl⟩:=qd hx;obtain⟨dst,op,type,pos,after,guard⟩:=o;simp only at hc;unfold jW at hf;split at hf<;>first|(simp at hf;done)|skip
 ·rename_i len z l;simp only[sJ,pJ]at hf;obtain⟨rfl,rfl⟩:=hf;obtain⟨t,e,ps,g,k,rfl,hu,hk,hz,hl,hzl,hsm⟩:=RQ hc;simp only[pD]at ho;split at ho<;>first|(simp at ho;done)|skip
  rename_i xs hxs;simp only[sJ,pJ]at ho;obtain⟨rfl,rfl⟩:=ho;rw[Be]at hxs;obtain⟨ρ1,w1,u,q1,q2,q3,q4⟩:=EZ (P:=P) (qs:=ps.map λp=>(p.1,a.eval p.2)) R hu (eB hk) hz hzl hsm (by simpa using qK ht hl) hxs hd;refine⟨ρ1,w1,u,q1,?_,q3,q4⟩;show(do pure (Next.value (<- Instr.buildSlice t len (ps.map λp=>(p.1,a.eval p.2)))):Sem Next).run P w=_;simp only[Sem.run_bind,q2,Result.andThen_ok];rfl
 ·simp only[sJ,pJ]at hf;obtain⟨rfl,rfl⟩:=hf;obtain⟨t,rfl⟩:=P3 hc;simp only[pF,pD,sJ,pJ]at ho;obtain⟨rfl,rfl⟩:=ho;obtain⟨ρ1,w1,u,q1,q2,q3,q4⟩:=yD (P:=P) (R.set_dead hd (.map [] 0) rfl) t hd (by rw[aa.get_set,if_pos rfl]);refine⟨ρ1,w1,u,q1,?_,q3,q4⟩;show(do pure (Next.value (<- Instr.makeMap t none)):Sem Next).run P w=_;simp only[Sem.run_bind,q2,Result.andThen_ok];rfl
 ·rename_i z;simp only[sJ,pJ]at hf;obtain⟨rfl,rfl⟩:=hf;obtain⟨e,rfl,hz⟩:=KW hc;simp only[pF,pD,sJ,pJ]at ho;obtain⟨rfl,rfl⟩:=ho;obtain⟨ρ1,w1,u,q1,q2,q3,q4⟩:=uh (P:=P) (R.set_dead hd (.cells z 0 false) rfl) hz hd (by rw[aa.get_set,if_pos rfl]);refine⟨ρ1,w1,u,q1,?_,q3,q4⟩;show(do pure (Next.value (<- Instr.alloc e true (.tuple #[]))):Sem Next).run P w=_;simp only[Sem.run_bind,q2,Result.andThen_ok];rfl
end
end Go.Abs
namespace Go.Abs
section
variable {P:Program} {Prot:Gh} {w0:World} {tb:FuncId->Bool} {call:FuncId->List ae->aa->Option (ae×aa)}
def mK:jz->Option Nat
 | .hf (.fill b _) _=>some b
 |_=>none
def qi(D:Nat->Prop)(l:List aD)(m:Nat->Bool):Nat->Prop:=λd=>D d∨∃(i:Nat) (a:aD),l[i]?=some a/\mK a.op=some d/\m i=false
set_option maxHeartbeats 2000000 in
def LU(htb:∀f,Nat.blt f mT=true->tb f=true->ep P f=true)(hcall:oE P call){ds:List Deferred}{n:Nat}{ops:Array Oper}{l:List aD}{base:Nat}{ms:List Nat}
  (hlen:l.length=ops.toList.length) (hopers:∀(j:Nat) (o:Oper),ops.toList[j]?=some o->∃a,l[j]?=some a/\(jj P n ops o=some a∨∃c,base<=c/\Na P n ops o a c))
  (hbase:∀d,Prot.dead d->d<base) (hdis:∀(i j:Nat) (a b:aD) (c:Nat),l[i]?=some a->l[j]?=some b->mK a.op=some c->mK b.op=some c->i=j) (hno:Pp l)
  (hm:kZ (ops.toList.map cR) ms=true) (hp:gu l ms=true) (hol:jR l ms=true) {T0:Tr ae} {H0:aa} {ss:List (ae×aa)} (htr:eG tb call l T0 H0=some ss)
  (hck:lq tb (H0::ss.map (·.2)) l ((List.range l.length).map (ii l ms)) ss T0=true)
  (hap:∀i j,eS l ms i j=true->∀x∈cY l ss T0 j,x∉cY l ss T0 i)
  (hal:∀i j k o,eS l ms i j=true->l[k]?=some o->d9 o.op=true->mQ ms k j=false->mQ ms j k=false->∀x∈cY l ss T0 j,x∉cY l ss T0 k) {ρ0:Pl} {Q:Exit->Act->World->Prop}
  (hQ:∀a w,(∃ρ,ρ0.le ρ/\cX Prot w0 ρ (fX H0 ss l.length) w/\bY ρ n (cx (λ_=>true) 0 l ss T0) a.tmps/\a.defers=ds)->Q .normal a w) :
  ∀(fuel:Nat) (listed:Array Bool) (a:Act) (w:World),listed.size=ops.size->zV (λi=>listed.getD i false) ops.size=fuel ->
   (∀j,j<ops.size->listed.getD j false=true->∀e∈(ops.toList.map cR).getD j [],listed.getD e false=true) ->
   (∃ρ Hx,ρ0.le ρ/\xQ l ss T0 H0 (λi=>listed.getD i false) (aI (λi=>listed.getD i false) 0 l) Hx/\cX ⟨Prot.prot,qi Prot.dead l λi=>listed.getD i false⟩ w0 ρ Hx w /\
    bY ρ n (cx (λi=>listed.getD i false) 0 l ss T0) a.tmps/\a.defers=ds) ->
   wpAny P .any ops Q fuel listed a w:=by
 have hN:l.length=ops.size:=by simpa using hlen
 obtain⟨hsl,hat⟩:=jJ l T0 H0 ss 0 htr;have hes:(ops.toList.map cR).length=ops.size:=by simp
 have hpair:∀i j a b,i<j->l[i]?=some a->l[j]?=some b->mo ms i j a b=true:=by intro i j a b hij hi hj;have hp:=hp;unfold gu at hp;rw[List.all_eq_true]at hp;have hjl:=(Xy.1 hj).1;have h1:=hp j (List.mem_range.2 hjl);rw[hj]at h1;simp only at h1;rw[List.all_eq_true]at h1;have h2:=h1 i (List.mem_range.2 hij);rw[hi]at h2;exact h2
 have hload:∀i j k o,eS l ms i j=true->l[k]?=some o->d9 o.op=true->mQ ms k j=true->mQ ms k i=true:=by intro i j k o h1 h2 h3 h4;obtain⟨_,_,hi,hj,hij,_⟩:=gH hp h1;unfold jR at hol;rw[List.all_eq_true]at hol;have q:=hol j (List.mem_range.2 (Xy.1 hj).1);rw[List.all_eq_true]at q;have q2:=q i (List.mem_range.2 hij);rw[h1]at q2;simp only[Bool.not_true,Bool.false_or]at q2;rw[List.all_eq_true]at q2;have q3:=q2 k (List.mem_range.2 (Xy.1 h2).1);rw[h2]at q3;simpa[h3,h4]using q3
 intro fuel;induction fuel with
 |zero=>
  intro listed a w hsz hu _ hinv;have hall:∀i,i<ops.size->listed.getD i false=true:=vg hu;refine⟨?_,hQ a w ?_⟩
  ·unfold Region.ready;rw[List.filter_eq_nil_iff];intro i hi;have:=hall i (List.mem_range.1 hi);have e:listed.getD i true=true:=by
    rw[Array.getD_eq_getD_getElem?]at this ⊢;rw[Array.getElem?_eq_getElem (by rw[hsz];exact List.mem_range.1 hi)]at this ⊢;simpa using this
   simp[e]
  ·obtain⟨ρ,Hx,h1,hH,h2,h3,h4⟩:=hinv;have hst:aI (λi=>listed.getD i false) 0 l=l.length:=by
    obtain⟨q1,q2,q3,q4⟩:=fw (λi=>listed.getD i false) l 0;rcases Nat.lt_or_ge (aI (λi=>listed.getD i false) 0 l) l.length with q|q
    ·have ho:l[aI (λi=>listed.getD i false) 0 l-0]?=some l[aI (λi=>listed.getD i false) 0 l]:=by simp
     have:=(q4 _ (by simpa using q) ho).2;rw[hall _ om]at this;simp at this
    ·omega
   rw[hst]at hH;refine⟨ρ,h1,?_,h3.congr λt=>?_,h4⟩
   ·have:=h2.ext_heap (H':=fX H0 ss l.length) hH.next.symm λx=>(hH.base x λq q1 q2=>by
     obtain⟨_,o,q3,_⟩:=q2;have:=(Xy.1 q3).1;omega).symm
    exact this.fewer (D:=Prot.dead) λd hd=>.inl hd
   ·refine gZ l ss 0 T0 T0 rfl λi o hi _=>?_;have:=(Xy.1 hi).1;simp only[Nat.zero_add];exact(hall i om).symm
 |succ fuel ih=>
  intro listed a w hsz hu hdown hinv;obtain⟨ρ,Hx,hle,hH,R,ht,hd⟩:=hinv;have hml:=tU hm (m:=λi=>listed.getD i false) (λj hj hjl e he=>hdown j om hjl e he);have hmask:∀j,j<ops.size->(∀e∈(ops.toList.map cR).getD j [],listed.getD e false=true)->∀i,i<j->mQ ms j i=true->listed.getD i false=true:=λj hj he i hi hb=>hml j om he i hi hb
  have hDn:Sj l ms (λi=>listed.getD i false):=λj hj hjl i hi hb=>hmask j om (hdown j om hjl) i hi hb;refine⟨λhnone=>?_,λi hi=>?_⟩
  ·-- there is one that is ready
   exfalso;have hex:∃i,i<ops.size/\listed.getD i false=false:=by
    rcases Classical.em (∃i,i<ops.size/\listed.getD i false=false)with h|h
    ·exact h
    ·exfalso;have:zV (λi=>listed.getD i false) ops.size=0:=zT λi hi=>by
      cases hb:listed.getD i false with
      |true=>rfl
      |false=>exact(h ⟨i,hi,hb⟩).elim
     omega
   have hmin:∃i,i<ops.size/\listed.getD i false=false/\∀j,j<i->listed.getD j false=true:=by
    obtain⟨i,hi1,hi2⟩:=hex;induction i using Nat.strongRecOn with
    |_ i ihm=>
     rcases Classical.em (∃j,j<i/\listed.getD j false=false)with⟨j,hj,hj2⟩|h
     ·exact ihm j hj om hj2
     ·refine⟨i,hi1,hi2,λj hj=>?_⟩;cases hb:listed.getD j false with
      |true=>rfl
      |false=>exact(h ⟨j,hj,hb⟩).elim
   obtain⟨i,hi1,hi2,hi3⟩:=hmin;have:i∈Region.ready .any ops listed:=by
    rw[mem_ready];refine⟨?_,ops[i],Array.getElem?_eq_getElem hi1,λe he hb=>?_⟩
    ·rw[Array.getD_eq_getD_getElem?]at hi2 ⊢;rw[Array.getElem?_eq_getElem om]at hi2 ⊢;simpa using hi2
    ·refine hi3 _ ?_;unfold kZ at hm;rw[List.all_eq_true]at hm;have h1:=hm i (List.mem_range.2 om);simp only[XA,List.all_eq_true]at h1;refine XD (h1.1 e.on ?_);have:(ops.toList.map cR).getD i []=cR ops[i]:=by simp[List.getD,hi1]
     rw[this];unfold cR;rw[List.mem_map];exact⟨e,by rw[List.mem_filter];exact⟨by simpa using he,hb⟩,rfl⟩
   rw[hnone]at this;simp at this
  ·obtain⟨hi1,o,ho,hedge⟩:=mem_ready.1 hi;have hiN:i<ops.size:=(Array.getElem?_eq_some_iff.1 ho).1;have hmi:listed.getD i false=false:=by
    rw[Array.getD_eq_getD_getElem?]at hi1 ⊢;rw[Array.getElem?_eq_getElem om]at hi1 ⊢;simpa using hi1
   obtain⟨ao,hao,hco⟩:=hopers i o (by simpa using ho);have hedges:∀e∈(ops.toList.map cR).getD i [],listed.getD e false=true:=by
    have:(ops.toList.map cR).getD i []=cR o:=by
     have:ops[i]=o:=by simpa[Array.getElem?_eq_getElem hiN]using ho
     simp[List.getD,hiN,this]
    rw[this];intro e he;unfold cR at he;rw[List.mem_map]at he;obtain⟨x,hx,rfl⟩:=he;rw[List.mem_filter]at hx;exact hedge x (by simpa using hx.1) hx.2
   have hafter:∀c b,i<c->l[c]?=some b->mQ ms c i=true->listed.getD c false=false:=by
    intro c b hc hb hbit;cases hx:listed.getD c false with
    |false=>rfl
    |true=>have hcN:=(Xy.1 hb).1;have:=hmask c om (hdown c om hx) i hc hbit;rw[hmi]at this;simp at this
   have hagree:∀t∈jn ao,(cx (λi=>listed.getD i false) 0 l ss T0).get t=(cx (λj=>Nat.blt j (0+i)) 0 l ss T0).get t:=by
    intro t htr';refine gZ l ss 0 T0 T0 rfl λc b hc hdst=>?_;have hcN:=(Xy.1 hc).1;simp only[Nat.zero_add];rcases Nat.lt_trichotomy c i with h|h|h
    ·have e:Nat.blt c i=true:=Xz h;rw[e];have hpr:=hpair c i b ao h hc hao;simp only[mo,Bool.or_eq_true,XA]at hpr;rcases hpr with hpr|⟨hpr,_⟩
     ·exact hmask i hiN hedges c h hpr
     ·exfalso;simp only[xH,hdst,XA,Bool.not_eq_true',List.contains_eq_mem,decide_eq_false_iff_not]at hpr;exact hpr.1.1 htr'
    ·subst h;have e:Nat.blt c c=false:=by
      cases hb:Nat.blt c c with
      |false=>rfl
      |true=>have:=XD hb;omega
     rw[e];exact hmi
    ·have e:Nat.blt c i=false:=by
      cases hb:Nat.blt c i with
      |false=>rfl
      |true=>have:=XD hb;omega
     rw[e];have hpr:=hpair i c ao b h hao hc;simp only[mo,Bool.or_eq_true,XA]at hpr;rcases hpr with hpr|⟨hpr,_⟩
     ·exact hafter c b h hc hpr
     ·exfalso;simp only[xH,hdst,XA,Bool.not_eq_true',List.contains_eq_mem,decide_eq_false_iff_not]at hpr;exact hpr.2 htr'
   have hgd:pm (cx (λi=>listed.getD i false) 0 l ss T0) ao.guard=pm (cx (λj=>Nat.blt j (0+i)) 0 l ss T0) ao.guard:=by
    cases hg:ao.guard with
    |none=>rfl
    |some g=>obtain⟨t,b⟩:=g;simp only[pm,ev];rw[hagree t (by simp[jn,hg])]
   have hop:∀H,dZ tb (cx (λi=>listed.getD i false) 0 l ss T0) H ao.op=dZ tb (cx (λj=>Nat.blt j (0+i)) 0 l ss T0) H ao.op:=λH=>zD λt h=>hagree t (by simp only[jn,List.mem_append];exact .inl h)
   obtain⟨v,H1,hss,hstep⟩:=hat i ao hao;obtain⟨st1,st2,st3,st4⟩:=fw (λi=>listed.getD i false) l 0;have hready:∀c,c<i->mQ ms i c=true->listed.getD c false=true:=λc h1 h2=>hmask i hiN hedges c h1 h2;have hm':∀j,(listed.setIfInBounds i true).getD j false=eI (λi=>listed.getD i false) i j:=by
    intro j;unfold eI;by_cases e:j=i
    ·subst e;rw[if_pos rfl,Array.getD_eq_getD_getElem?];have:j<listed.size:=om;simp[this]
    ·rw[if_neg e];exact getD_set_ne false (λq=>e q.symm)
   have hmf:(λj=>(listed.setIfInBounds i true).getD j false)=eI (λi=>listed.getD i false) i:=funext hm';have hnext:∀(ρ':Pl) (w':World) (a':Act) (H3:aa),ρ.le ρ'->xQ l ss T0 H0 (eI (λi=>listed.getD i false) i) (aI (eI (λi=>listed.getD i false) i) 0 l) H3 ->
     cX ⟨Prot.prot,qi Prot.dead l (eI (λi=>listed.getD i false) i)⟩ w0 ρ' H3 w' ->
     bY ρ' n (ko (cx (λi=>listed.getD i false) 0 l ss T0) ao.dst v) a'.tmps->a'.defers=ds->wpAny P .any ops Q fuel (listed.setIfInBounds i true) a' w':=by
    intro ρ' w' a' H3 hle' hH' R' ht' hd';refine ih _ a' w' (by simpa using hsz) ?_ ?_ ⟨ρ',H3,Pl.le_trans hle hle',by rw[hmf];exact hH',by rw[hmf];exact R',?_,hd'⟩
    ·have:=zS (m:=λi=>listed.getD i false) (m':=λj=>(listed.setIfInBounds i true).getD j false) (i:=i) (n:=ops.size) hiN hmi (by rw[hm'];simp[eI]) (λj hj=>by rw[hm'];simp[eI,hj]);omega
    ·intro j hj hjl e he;rw[hm']at hjl ⊢;simp only[eI]at hjl ⊢;by_cases q:e=i
     ·rw[if_pos q]
     ·rw[if_neg q];by_cases q2:j=i
      ·subst q2;exact hedges e he
      ·rw[if_neg q2]at hjl;exact hdown j hj hjl e he
    ·refine ht'.congr λt=>?_;rw[hmf,nO];by_cases e:ao.dst=some t
     ·rw[if_pos e];refine sq l ss 0 i T0 ao v H1 hao hss e (by simp[eI]) λc b hc hcb hdst=>?_;simp only[Nat.zero_add,eI];rw[if_neg om];have hpr:=hpair i c ao b hc hao hcb;simp only[mo,Bool.or_eq_true,XA]at hpr;rcases hpr with hpr|⟨hpr,_⟩
      ·exact hafter c b hc hcb hpr
      ·exfalso;simp only[xH,e,XA,Bool.not_eq_true',beq_eq_false_iff_ne]at hpr;exact hpr.1.2 hdst
     ·rw[if_neg e];refine gZ l ss 0 T0 T0 rfl λc b hc hdst=>?_;simp only[Nat.zero_add,eI];rw[if_neg];intro q;subst q;rw[hao]at hc;simp only[sJ]at hc;subst hc;exact e hdst
   have hge:aW ao.op=true->aI (λi=>listed.getD i false) 0 l<=i:=by
    intro hc;rcases Nat.lt_or_ge i (aI (λi=>listed.getD i false) 0 l)with h|h
    ·have:=st3 i ao hao hc (by simpa using h);simp only[Nat.zero_add]at this;rw[hmi]at this;simp at this
    ·exact h
   have hlink:aW ao.op=true->∃Hy H3,Hy.next=Hx.next/\(∀x,Hy.get x=Hx.get x)/\dh tb call ao (cx (λj=>Nat.blt j (0+i)) 0 l ss T0) Hy=some (v,H3) /\
     xQ l ss T0 H0 (eI (λi=>listed.getD i false) i) (aI (eI (λi=>listed.getD i false) i) 0 l) H3:=by
    intro hc;have h1:=hge hc;have hpl:aI (λi=>listed.getD i false) 0 l<l.length:=om;have hob2:l[aI (λi=>listed.getD i false) 0 l]?=some (l[aI (λi=>listed.getD i false) 0 l]'hpl):=Xx hpl;obtain⟨q1,q2⟩:=st4 _ om (by rw[Nat.sub_zero];exact hob2);obtain⟨s1,s2,s3,s4⟩:=fw (eI (λi=>listed.getD i false) i) l 0;rcases Nat.lt_or_ge (aI (λi=>listed.getD i false) 0 l) i with h|h
    ·obtain⟨H3,e1,e2⟩:=Oe htr hp hap hDn hob2 q1 q2 hao hc hmi hready h hH hss hstep;have e3:aI (eI (λi=>listed.getD i false) i) 0 l=aI (λi=>listed.getD i false) 0 l:=by
      rcases Nat.lt_trichotomy (aI (eI (λi=>listed.getD i false) i) 0 l) (aI (λi=>listed.getD i false) 0 l)with k|k|k
      ·exfalso;have hob3:l[aI (eI (λi=>listed.getD i false) i) 0 l]?=some (l[aI (eI (λi=>listed.getD i false) i) 0 l]'om):=Xx om;obtain⟨r1,r2⟩:=s4 _ om (by rw[Nat.sub_zero];exact hob3);have:=st3 _ _ hob3 r1 om;simp only[Nat.zero_add]at this;simp only[eI]at r2;split at r2
       ·simp at r2
       ·rw[r2]at this;simp at this
      ·exact k
      ·exfalso;have:=s3 _ _ hob2 q1 om;simp only[Nat.zero_add,eI]at this;rw[if_neg om,q2]at this;simp at this
     exact⟨Hx,H3,rfl,λ_=>rfl,e1,by rw[e3];exact e2⟩
    ·have hpi:aI (λi=>listed.getD i false) 0 l=i:=om;rw[hpi]at hH;refine Oc htr hp hap hDn hao hc hmi ?_ om (λc oc k1 k2 k3 k4=>?_) hH hss hstep
     ·rcases Nat.lt_or_ge i (aI (eI (λi=>listed.getD i false) i) 0 l)with k|k
      ·exact k
      ·exfalso;have hob3:l[aI (eI (λi=>listed.getD i false) i) 0 l]?=some (l[aI (eI (λi=>listed.getD i false) i) 0 l]'om):=Xx om;obtain⟨r1,r2⟩:=s4 _ om (by rw[Nat.sub_zero];exact hob3);simp only[eI]at r2;split at r2
       ·simp at r2
       ·have:=st3 _ _ hob3 r1 om;simp only[Nat.zero_add]at this;rw[r2]at this;simp at this
     ·have:=s3 c oc k3 k4 om;simp only[Nat.zero_add,eI]at this;rwa [if_neg om]at this
   have hplain:aW ao.op=false->xQ l ss T0 H0 (eI (λi=>listed.getD i false) i) (aI (eI (λi=>listed.getD i false) i) 0 l) Hx:=by
    intro hc;have e3:aI (eI (λi=>listed.getD i false) i) 0 l=aI (λi=>listed.getD i false) 0 l:=kw l 0 λc b hcb hcc=>by simp only[Nat.zero_add,eI];rw[if_neg];intro e;subst e;rw[hao]at hcb;simp only[sJ]at hcb;subst hcb;rw[hc]at hcc;simp at hcc
    rw[e3];exact Od hao hc hH
   have hval:aW ao.op=false->pm (cx (λj=>Nat.blt j (0+i)) 0 l ss T0) ao.guard=true->dZ tb (cx (λj=>Nat.blt j (0+i)) 0 l ss T0) Hx ao.op=some (.val v,Hx):=by
    intro hc hgo;unfold dh at hstep;rw[hgo]at hstep;simp only[cond_true]at hstep;cases hpu:my ao.op with
    |true=>
     split at hstep
     ·rename_i u H2 hu;simp only[sJ,pJ]at hstep;obtain⟨rfl,rfl⟩:=hstep;exact(gG hpu hu).2.2 _
     ·rename_i f args H2 hu;obtain⟨_,⟨x,hx⟩,_⟩:=gG hpu hu;simp at hx
     ·simp at hstep
    |false=>
     have hld:d9 ao.op=true:=by
      unfold aW at hc;cases h1:d9 ao.op with
      |true=>rfl
      |false=>rw[hpu,h1]at hc;simp at hc
     have hw:∃H2,dZ tb (cx (λj=>Nat.blt j (0+i)) 0 l ss T0) (fX H0 ss (aI (λi=>listed.getD i false) 0 l)) ao.op=some (.val v,H2):=by
      cases hsm:tP l i (aI (λi=>listed.getD i false) 0 l)with
      |true=>
       unfold tP at hsm;rw[XA,List.all_eq_true]at hsm;have hij:=XD hsm.1;have hb:=eT htr (aI (λi=>listed.getD i false) 0 l-i) i om λc b c1 c2 c3=>by
        have:=hsm.2 c (List.mem_range.2 om);rw[c3]at this;simp only[Bool.or_eq_true,Bool.not_eq_true']at this;rcases this with h|h
        ·have:=XD h;omega
        ·exact h
       rw[show i+(aI (λi=>listed.getD i false) 0 l-i)=aI (λi=>listed.getD i false) 0 l by omega]at hb;rw[hb];split at hstep
       ·rename_i u H2 hu;simp only[sJ,pJ]at hstep;obtain⟨rfl,rfl⟩:=hstep;exact⟨_,hu⟩
       ·rename_i f args H2 hu;obtain⟨_,x,hx⟩:=jS hld hu;simp at hx
       ·simp at hstep
      |false=>
       have hmem:aI (λi=>listed.getD i false) 0 l∈ii l ms i:=by
        unfold ii;rw[hao];simp only[hld,cond_true];rw[List.mem_filter];refine⟨List.mem_range.2 om,?_⟩;rw[hsm];simp only[Bool.not_false,Bool.true_and];unfold yC;rw[XA];refine⟨?_,?_⟩
        ·unfold oW;rcases Nat.lt_or_ge (aI (λi=>listed.getD i false) 0 l) l.length with h|h
         ·have hob:l[aI (λi=>listed.getD i false) 0 l]?=some l[aI (λi=>listed.getD i false) 0 l]:=Xx h;rw[hob];exact(st4 _ om (by simp)).1
         ·rw[XP h];have:aI (λi=>listed.getD i false) 0 l=l.length:=om;rw[this];exact Nat.beq_refl _
        ·rw[List.all_eq_true];intro c hcr;have hcl:=List.mem_range.1 hcr;rw[Xx hcl];simp only[Bool.or_eq_true,Bool.not_eq_true'];cases hcc:aW l[c].op with
         |false=>exact .inl rfl
         |true=>
          right;have hlc:l[c]?=some l[c]:=Xx hcl;cases hb:Nat.blt c (aI (λi=>listed.getD i false) 0 l)with
          |true=>
           simp only[cond_true,Bool.not_eq_true'];have hlt:c<aI (λi=>listed.getD i false) 0 l:=XD hb;have hcm:=st3 c _ hlc hcc om;simp only[Nat.zero_add]at hcm;cases hbit:mQ ms c i with
           |false=>rfl
           |true=>
            exfalso;rcases Nat.lt_trichotomy i c with h|h|h
            ·have:=hafter c _ h hlc hbit;rw[hcm]at this;simp at this
            ·subst h;rw[hmi]at hcm;simp at hcm
            ·have:=qh hbit;omega
          |false=>
           simp only[cond_false,Bool.not_eq_true'];have hge:aI (λi=>listed.getD i false) 0 l<=c:=by
            rcases Nat.lt_or_ge c (aI (λi=>listed.getD i false) 0 l)with h|h
            ·have:Nat.blt c (aI (λi=>listed.getD i false) 0 l)=true:=Xz h;rw[hb]at this;simp at this
            ·exact h
           cases hbit:mQ ms i c with
           |false=>rfl
           |true=>
            exfalso;have hlc2:=hmask i hiN hedges c (qh hbit) hbit;have hpl:aI (λi=>listed.getD i false) 0 l<l.length:=om;have hob2:l[aI (λi=>listed.getD i false) 0 l]?=some (l[aI (λi=>listed.getD i false) 0 l]'hpl):=Xx hpl;obtain⟨q1,q2⟩:=st4 _ om (by rw[Nat.sub_zero];exact hob2);rcases Nat.lt_trichotomy (aI (λi=>listed.getD i false) 0 l) c with h|h|h
            ·cases hpr:mQ ms c (aI (λi=>listed.getD i false) 0 l)with
             |true=>have:=hmask c om (hdown c om hlc2) _ h hpr;rw[q2]at this;simp at this
             |false=>have hlp:=sV hob2 hlc h q1 hcc hpr;have:=hload _ _ i ao hlp hao hld hbit;have:=hready _ (qh this) this;rw[q2]at this;simp at this
            ·rw[h]at q2;rw[q2]at hlc2;simp at hlc2
            ·omega
       obtain⟨Hp,hHp,hrun⟩:=Mb l _ ss T0 0 hck i _ (ii l ms i) v H1 hao (by simp[hN,hiN]) hss _ hmem;obtain⟨H2,hH2⟩:=hrun hgo;refine⟨H2,?_⟩;have:Hp=fX H0 ss (aI (λi=>listed.getD i false) 0 l):=by
        cases hstg:aI (λi=>listed.getD i false) 0 l with
        |zero=>rw[hstg]at hHp;simpa[fX]using hHp.symm
        |succ q=>
         rw[hstg]at hHp;simp only[XI,List.getElem?_map]at hHp;simp only[fX];cases hq:ss[q]? with
         |none=>rw[hq]at hHp;simp at hHp
         |some z=>rw[hq]at hHp;obtain⟨z1,z2⟩:=z;simpa using hHp.symm
       rw[<- this];exact hH2
     obtain⟨H2,hH2⟩:=hw;have hE:∀q,aI (λi=>listed.getD i false) 0 l<=q->eO l (λi=>listed.getD i false) q->∀x∈cY l ss T0 q,x∉cY l ss T0 i:=by
      intro q hq he;obtain⟨he1,oq,he2,he3⟩:=he;have hql:=(Xy.1 he2).1;have hpl:aI (λi=>listed.getD i false) 0 l<l.length:=om;have hob2:l[aI (λi=>listed.getD i false) 0 l]?=some (l[aI (λi=>listed.getD i false) 0 l]'hpl):=Xx hpl;obtain⟨q1,q2⟩:=st4 _ om (by rw[Nat.sub_zero];exact hob2);have hpq:aI (λi=>listed.getD i false) 0 l<q:=by
       rcases Nat.lt_or_ge (aI (λi=>listed.getD i false) 0 l) q with k|k
       ·exact k
       ·exfalso;have e9:q=aI (λi=>listed.getD i false) 0 l:=om;have h9:listed.getD q false=true:=he1;rw[e9,q2]at h9;simp at h9
      have hlp:=eL hDn hob2 q1 q2 hpq ⟨he1,oq,he2,he3⟩;refine hal _ q i ao hlp hao hld ?_ ?_
      ·cases hb:mQ ms i q with
       |false=>rfl
       |true=>have:=hload _ _ i ao hlp hao hld hb;have:=hready _ (qh this) this;rw[q2]at this;simp at this
      ·cases hb:mQ ms q i with
       |false=>rfl
       |true=>have h9:listed.getD i false=true:=hDn q hql he1 i (qh hb) hb;rw[hmi]at h9;simp at h9
     cases hop':ao.op<;>rw[hop']at hld<;>simp only[d9,XJ]at hld
     case load agg k x=>
      rw[hop']at hH2;simp only[dZ]at hH2 ⊢;have htc:cY l ss T0 i=gN (cx (λj=>Nat.blt j (0+i)) 0 l ss T0) ao.op v:=by simp only[cY,hao,hss]
      have hfr:al agg k Hx (ev (cx (λj=>Nat.blt j (0+i)) 0 l ss T0) x)=al agg k (fX H0 ss (aI (λi=>listed.getD i false) 0 l)) (ev (cx (λj=>Nat.blt j (0+i)) 0 l ss T0) x):=EH λb hb=>hH.base b λq k1 k2 k3=>hE q k1 k2 b k3 (by rw[htc,hop'];exact lT (List.mem_singleton.2 rfl) hb)
      rw[hfr];obtain⟨e1,e2,e3⟩:=qy hH2;exact e3 _
     case claim b z s=>exact absurd hop' (hno ao (XG hao) b z s)
   have hfew:∀d,qi Prot.dead l (eI (λi=>listed.getD i false) i) d->qi Prot.dead l (λi=>listed.getD i false) d:=by
    rintro d (hd|⟨i',a',x1,x2,x3⟩)
    ·exact .inl hd
    ·refine .inr ⟨i',a',x1,x2,?_⟩;simp only[eI]at x3;split at x3
     ·simp at x3
     ·exact x3
   have hord:(∃ax g,AN P o.op=some ax/\lL n o.dst=true/\ao=⟨o.dst,ax,g⟩/\qg n ops o.guard=some g)∨(∃c,base<=c/\Na P n ops o ao c):=by
    rcases hco with hco|hco
    ·unfold jj at hco;split at hco
     ·rename_i ax g hopc hgc;cases hdst:lL n o.dst with
      |false=>rw[hdst]at hco;simp at hco
      |true=>rw[hdst]at hco;simp only[cond_true,sJ]at hco;exact .inl ⟨ax,g,hopc,rfl,hco.symm,hgc⟩
     ·simp at hco
    ·exact .inr hco
   rcases hord with⟨ax,g,hopc,hdst,rfl,hgc⟩|⟨cb,hcb,ao',k,lx,g,hopc,hfo,hgc,hdst,rfl⟩
   ·simp only at hgd hop hnext hao hlink hplain hval;unfold wpOp;simp only[ho];rw[nN ht hgc,hgd];have hd':∀u,(a.put o.dst u).defers=ds:=λu=>by cases hx:o.dst<;>simpa[Act.put]using hd
    cases hc:aW ax with
    |true=>
     obtain⟨Hy,H3,y1,y2,y3,y4⟩:=hlink hc;have Ry:=R.ext_heap y1 y2;unfold dh at y3;simp only at y3;cases hgo:pm (cx (λj=>Nat.blt j (0+i)) 0 l ss T0) g with
     |false=>rw[hgo]at y3;simp only[cond_false,sJ,pJ]at y3;obtain⟨rfl,rfl⟩:=y3;simp only[XJ,if_false];exact hnext ρ w _ Hy (Pl.le_refl _) y4 (Ry.fewer hfew) (dq ht hdst iC) (hd' _)
     |true=>
      rw[hgo]at y3;simp only[cond_true]at y3;simp only[if_true];left;rw[<- hop]at y3;split at y3
      ·rename_i u H2 hu;simp only[sJ,pJ]at y3;obtain⟨rfl,rfl⟩:=y3;obtain⟨ρ1,w1,nx,q1,q2,q3,q4⟩:=nB htb Ry ht o hopc hu;simp only[Oper.wp,q2];cases nx<;>simp only[oD]at q4
       case value u=>exact hnext ρ1 w1 _ _ q1 y4 (q3.fewer hfew) (dq (ht.mono q1) hdst q4) (hd' _)
       case skip=>exact hnext ρ1 w1 _ _ q1 y4 (q3.fewer hfew) (dq (ht.mono q1) hdst q4) (hd' _)
      ·rename_i f args H2 hu;obtain⟨ρ1,w1,nx,q1,q2,q3,q4⟩:=nB htb Ry ht o hopc hu;simp only[Oper.wp,q2];cases nx<;>simp only[oD]at q4
       case enter gf vs=>obtain⟨rfl,hbig,q5⟩:=q4;simp only[Oper.upon];refine(hcall _ _ _ _ _ hbig y3 ⟨Prot.prot,qi Prot.dead l λi=>listed.getD i false⟩ w0 ρ1 w1 vs q3 q5).mono λe w' hr=>?_;obtain⟨ρ2,u,r1,rfl,r3,r4⟩:=hr;exact hnext ρ2 w' _ _ (Pl.le_trans q1 r1) y4 (r3.fewer hfew) (dq ((ht.mono q1).mono r1) hdst r4) (hd' _)
      ·simp at y3
    |false=>
     have y4:=hplain hc;cases hgo:pm (cx (λj=>Nat.blt j (0+i)) 0 l ss T0) g with
     |false=>unfold dh at hstep;simp only at hstep;rw[hgo]at hstep;simp only[cond_false,sJ,pJ]at hstep;obtain⟨rfl,rfl⟩:=hstep;simp only[XJ,if_false];exact hnext ρ w _ Hx (Pl.le_refl _) y4 (R.fewer hfew) (dq ht hdst iC) (hd' _)
     |true=>
      simp only[if_true];left;have hH2:=hval hc hgo;rw[<- hop]at hH2;obtain⟨ρ1,w1,nx,q1,q2,q3,q4⟩:=nB htb R ht o hopc hH2;simp only[Oper.wp,q2];cases nx<;>simp only[oD]at q4
      case value u=>exact hnext ρ1 w1 _ Hx q1 y4 (q3.fewer hfew) (dq (ht.mono q1) hdst q4) (hd' _)
      case skip=>exact hnext ρ1 w1 _ Hx q1 y4 (q3.fewer hfew) (dq (ht.mono q1) hdst q4) (hd' _)
   ·-- a row,in a block that was laid rM
    simp only at hgd hop hnext hao hlink;unfold wpOp;simp only[ho];rw[nN ht hgc,hgd];have hd':∀u,(a.put o.dst u).defers=ds:=λu=>by cases hx:o.dst<;>simpa[Act.put]using hd
    obtain⟨Hy,H3,y1,y2,y3,y4⟩:=hlink rfl;have Ry:=R.ext_heap y1 y2;unfold dh at y3;simp only at y3;cases hgo:pm (cx (λj=>Nat.blt j (0+i)) 0 l ss T0) g with
    |false=>rw[hgo]at y3;simp only[cond_false,sJ,pJ]at y3;obtain⟨rfl,rfl⟩:=y3;simp only[XJ,if_false];exact hnext ρ w _ Hy (Pl.le_refl _) y4 (Ry.fewer hfew) (dq ht hdst iC) (hd' _)
    |true=>
     rw[hgo]at y3;simp only[cond_true]at y3;simp only[if_true];left;rw[<- hop]at y3;simp only[dZ,kj]at y3;cases hf:iL k cb Hy (pF (cx (λi=>listed.getD i false) 0 l ss T0) lx)with
     |none=>rw[hf]at y3;simp[vh]at y3
     |some q=>
      obtain⟨u0,H4⟩:=q;rw[hf]at y3;simp only[vh,sJ,pJ]at y3;obtain⟨rfl,rfl⟩:=y3;obtain⟨ρ1,w1,u,q1,hrun,q3,q4⟩:=LL Ry ht hopc hfo (.inr ⟨i,_,hao,rfl,hmi⟩) hf;simp only[Oper.wp,hrun];refine hnext ρ1 w1 _ _ q1 y4 (q3.fewer ?_) (dq (ht.mono q1) hdst q4) (hd' _);intro d hd0;refine⟨hfew d hd0,?_⟩;rintro rfl;rcases hd0 with hd0|⟨i',a',x1,x2,x3⟩
      ·have:=hbase _ hd0;omega
      ·have:=hdis i' i a' _ _ x1 hao x2 rfl;subst this;simp[eI]at x3
end
end Go.Abs
namespace Go.Abs
def dO:Option Nat->List bW
 |some d=>[.t d]
 |none=>[]
def sw(o:aD):List bW:=match o.op with
 | .store _ a _=>[a]
 | .append _ _ s x=>s::x::dO o.dst
 | .hf (.fill ..) _=>dO o.dst
 | .load _ _ x=>[x]
 |_=>[]
def pI(l:List aD)(c t:Nat):Bool:=match l[c]? with
 |some o=>match o.dst with
  |some d=>Nat.beq d t
  |none=>false
 |none=>false
def qF(l:List aD)(q:Nat):bW->Bool
 | .t t=>(List.range l.length).all λc=>Nat.blt c q||!pI l c t
 |_=>true
def hZ(l:List aD)(q:Nat):Option Nat->Bool
 |some d=>(List.range l.length).all λc=>Nat.ble c q||!pI l c d
 |none=>false
def Ag(l:List aD)(q:Nat):Bool:=match l[q]? with
 |some o=>match o.op with
  | .store _ a _=>qF l q a
  | .append _ _ s x=>qF l q s&&(qF l q x&&hZ l q o.dst)
  | .hf (.fill ..) _=>hZ l q o.dst
  | .load _ _ x=>qF l q x
  |_=>true
 |none=>true
def kF(l:List aD):Bool:=(List.range l.length).all (Ag l)
def pR(l:List aD)(j i:Nat):List (bW×bW):=match l[j]?,l[i]? with
 |some b,some a=>(sw b).flatMap λy=>(sw a).map λx=>(y,x)
 |_,_=>[]
def jC(l:List aD)(ms:List Nat)(j k:Nat):Bool:=match l[k]? with
 |some o=>d9 o.op&&(!mQ ms k j&&!mQ ms j k)
 |none=>false
def kP(l:List aD)(ms:List Nat):List (bW×bW):=
 (List.range l.length).flatMap λj=>(List.range j).flatMap λi=>bif eS l ms i j then
  pR l j i++(List.range l.length).flatMap λk=>bif jC l ms j k then pR l j k else []else []
def uL(p:bW×bW):aD:=⟨none,.pf .apart [p.1,p.2],none⟩
section
variable {tb:FuncId->Bool} {call:FuncId->List ae->aa->Option (ae×aa)} {l:List aD} {ms:List Nat} {T0:Tr ae} {H0:aa} {ss:List (ae×aa)}
def xW{c t:Nat}{o:aD}(h:l[c]?=some o)(hd:o.dst=some t):pI l c t=true:=by unfold pI;simp only[h,hd];exact Nat.beq_refl t
def qE{q:Nat}{x:bW}(h:qF l q x=true):ev (cx (λ_=>true) 0 l ss T0) x=ev (cx (λi=>Nat.blt i (0+q)) 0 l ss T0) x:=by
 cases x with
 |t t=>simp only[ev];rw[gZ l ss 0 T0 T0 rfl λc o hc hd=>?_];simp only[qF]at h;rw[List.all_eq_true]at h;have:=h c (List.mem_range.2 (Xy.1 hc).1);rw[xW hc hd]at this;simp only[Bool.not_true,Bool.or_false]at this;simp only[Nat.zero_add];exact this.symm
 |_=>rfl
def Rl{q d:Nat}{o:aD}{v:ae}{H':aa}(hq:l[q]?=some o)(hs:ss[q]?=some (v,H'))(hd:o.dst=some d)(h:hZ l q o.dst=true):ev (cx (λ_=>true) 0 l ss T0) (.t d)=v:=by
 rw[hd]at h;simp only[hZ]at h;rw[List.all_eq_true]at h;have hn:∀c oc,q<c->l[c]?=some oc->oc.dst=some d->False:=by intro c oc hc h1 h2;have:=h c (List.mem_range.2 (Xy.1 h1).1);rw[xW h1 h2]at this;simp only[Bool.not_true,Bool.or_false]at this;have:=XD this;omega
 have e:(cx (λ_=>true) 0 l ss T0).get d=some v:=by
  have e1:=sq (m:=λi=>Nat.ble i q) l ss 0 q T0 o v H' hq hs hd (by simp only[Nat.zero_add];exact Xz (Nat.le_refl q)) λi o' h1 h2 h3=>(hn i o' h1 h2 h3).elim;rw[<- e1];refine gZ l ss 0 T0 T0 rfl λc oc hc hdc=>?_;simp only[Nat.zero_add];rcases Nat.lt_or_ge q c with k|k
  ·exact(hn c oc k hc hdc).elim
  ·exact(Xz k).symm
 simp only[ev,e]
def uv(htr:eG tb call l T0 H0=some ss)(hok:kF l=true){q:Nat}{o:aD}(hq:l[q]?=some o){b:Nat}(hb:b∈cY l ss T0 q):∃x∈sw o,cg (ev (cx (λ_=>true) 0 l ss T0) x)=some b:=by
 obtain⟨_,hat⟩:=jJ l T0 H0 ss 0 htr;obtain⟨v,H1,hs,hs0⟩:=hat q o hq;clear hs0 hat
 simp only[cY,hq,hs]at hb;have hst:Ag l q=true:=by unfold kF at hok;rw[List.all_eq_true]at hok;exact hok q (List.mem_range.2 (Xy.1 hq).1)
 unfold Ag at hst;rw[hq]at hst;obtain⟨d,op,g⟩:=o;have hdst:hZ l q d=true->∃d',d=some d'/\ev (cx (λ_=>true) 0 l ss T0) (.t d')=v:=by
  intro h;cases d with
  |none=>simp[hZ]at h
  |some d'=>exact⟨d',rfl,Rl (o:=⟨some d',op,g⟩) hq hs rfl h⟩
 cases op<;>simp only[gN,List.not_mem_nil]at hb
 case store n a x=>obtain⟨y,h1,h2⟩:=qS hb;obtain rfl:=List.mem_singleton.1 h1;exact⟨a,by simp[sw],by rw[qE hst];exact h2⟩
 case load n a x=>obtain⟨y,h1,h2⟩:=qS hb;obtain rfl:=List.mem_singleton.1 h1;exact⟨x,by simp[sw],by rw[qE hst];exact h2⟩
 case append n k s x=>
  simp only[XA]at hst;obtain⟨d',hd1,hd2⟩:=hdst hst.2.2;obtain⟨y,h1,h2⟩:=qS hb;simp only[List.mem_cons,List.not_mem_nil,or_false]at h1;rcases h1 with rfl|rfl|rfl
  ·exact⟨s,by simp[sw],by rw[qE hst.1];exact h2⟩
  ·exact⟨x,by simp[sw],by rw[qE hst.2.1];exact h2⟩
  ·exact⟨.t d',by simp[sw,hd1,dO],by rw[hd2];exact h2⟩
 case hf f xs=>
  cases f<;>first|(simp only[List.not_mem_nil]at hb;done)|skip
  obtain⟨d',hd1,hd2⟩:=hdst hst;obtain⟨y,h1,h2⟩:=qS hb;obtain rfl:=List.mem_singleton.1 h1;exact⟨.t d',by simp[sw,hd1,dO],by rw[hd2];exact h2⟩
def yv{i j:Nat}{a b:aD}(hi:l[i]?=some a)(hj:l[j]?=some b){x y:bW}(hx:x∈sw a)(hy:y∈sw b):(y,x)∈pR l j i:=by unfold pR;rw[hi,hj];simp only[List.mem_flatMap,List.mem_map];exact⟨y,hy,x,hx,rfl⟩
def MM{x y:ae}{b:Nat}(h:Jx y x=true)(hx:cg x=some b)(hy:cg y=some b):False:=by unfold Jx at h;rw[hx,hy]at h;simp[Nat.beq_refl]at h
def Rh(htr:eG tb call l T0 H0=some ss)(hok:kF l=true)(hck:∀p∈kP l ms,Jx (ev (cx (λ_=>true) 0 l ss T0) p.1) (ev (cx (λ_=>true) 0 l ss T0) p.2)=true) :
  (∀i j,eS l ms i j=true->∀x∈cY l ss T0 j,x∉cY l ss T0 i) /\
  ∀i j k o,eS l ms i j=true->l[k]?=some o->d9 o.op=true->mQ ms k j=false->mQ ms j k=false->∀x∈cY l ss T0 j,x∉cY l ss T0 k:=by
 have hl:∀i j,eS l ms i j=true->∃a b,l[i]?=some a/\l[j]?=some b/\i<j:=by
  intro i j h;unfold eS at h;split at h
  ·rename_i a b hi hj;simp only[XA]at h;exact⟨a,b,hi,hj,XD h.1⟩
  ·simp at h
 constructor
 ·intro i j h x hx hx';obtain⟨a,b,hi,hj,hij⟩:=hl i j h;obtain⟨y,y1,y2⟩:=uv htr hok hj hx;obtain⟨z,z1,z2⟩:=uv htr hok hi hx';refine MM (hck (y,z) ?_) z2 y2;unfold kP;rw[List.mem_flatMap];refine⟨j,List.mem_range.2 (Xy.1 hj).1,?_⟩;rw[List.mem_flatMap];refine⟨i,List.mem_range.2 hij,?_⟩;rw[h,cond_true,List.mem_append];exact .inl (yv hi hj z1 y1)
 ·intro i j k o h hk hld h1 h2 x hx hx';obtain⟨a,b,hi,hj,hij⟩:=hl i j h;obtain⟨y,y1,y2⟩:=uv htr hok hj hx;obtain⟨z,z1,z2⟩:=uv htr hok hk hx';refine MM (hck (y,z) ?_) z2 y2;unfold kP;rw[List.mem_flatMap];refine⟨j,List.mem_range.2 (Xy.1 hj).1,?_⟩;rw[List.mem_flatMap];refine⟨i,List.mem_range.2 hij,?_⟩;rw[h,cond_true,List.mem_append,List.mem_flatMap];refine .inr ⟨k,List.mem_range.2 (Xy.1 hk).1,?_⟩;have:jC l ms j k=true:=by unfold jC;rw[hk];simp[hld,h1,h2]
  rw[this,cond_true];exact yv hk hj z1 y1
end
def ry{o:jz}(h:fD o=false):mK o=none:=by
 unfold mK;split
 ·simp[fD]at h
 ·rfl
def bX(o:aD):aD:=match jW o.op with
 |some (k,xs)=>⟨o.dst,.hf (.fill 0 k) xs,o.guard⟩
 |none=>o
def Ck{o:jz}(h:fD o=false)(hf:jW o=none):dT o=none:=by
 unfold dT;split
 ·simp[jW]at hf
 ·simp[fD]at h
 ·simp[jW]at hf
 ·rfl
def jV(b:Nat)(o:aD)(r:List aD)(hi:fD o.op=false):(∃k xs,jW o.op=some (k,xs)/\aH b ((o::r).map bX)=⟨o.dst,.hf (.fill b k) xs,o.guard⟩::aH (b+1) (r.map bX) /\
  ∀H,bp H ((o::r).map bX)=bp (H.push (.cells [] 0 false)) (r.map bX)) ∨
  (jW o.op=none/\aH b ((o::r).map bX)=o::aH b (r.map bX)/\∀H,bp H ((o::r).map bX)=bp H (r.map bX)):=by
 cases h:jW o.op with
 |some p=>obtain⟨k,xs⟩:=p;exact .inl ⟨k,xs,rfl,by simp only[List.map_cons,bX,h,aH,dT,AG],λH=>by simp only[List.map_cons,bX,h,bp,dT];rfl⟩
 |none=>have hn:=Ck hi h;exact .inr ⟨rfl,by simp only[List.map_cons,bX,h,aH,hn],λH=>by simp only[List.map_cons,bX,h,bp,hn]⟩
def LK{P:Program}{n:Nat}{ops:Array Oper}:∀{rest:List Oper} {l:List aD},dL P n ops rest=some l->∀b,(aH b (l.map bX)).length=rest.length /\
  ∀(j:Nat) (o:Oper),rest[j]?=some o->∃a,(aH b (l.map bX))[j]?=some a/\(jj P n ops o=some a∨∃c,b<=c/\Na P n ops o a c):=by
 intro rest;induction rest with
 |nil=>intro l h b;simp only[dL,sJ]at h;subst h;exact⟨rfl,λj o h=>by simp at h⟩
 |cons o r ih=>
  intro l h b;have hno:=vR h;simp only[dL]at h;split at h
  ·rename_i a l' ha hl';simp only[sJ]at h;subst h;have key:∀(x:aD) (b':Nat),b<=b'->(jj P n ops o=some x∨∃c,b<=c/\Na P n ops o x c)->aH b ((a::l').map bX)=x::aH b' (l'.map bX) ->
     (aH b ((a::l').map bX)).length=(o::r).length/\∀(j:Nat) (o':Oper),(o::r)[j]?=some o'->∃a',(aH b ((a::l').map bX))[j]?=some a'/\(jj P n ops o'=some a'∨∃c,b<=c/\Na P n ops o' a' c):=by
    intro x b' hb hx he;rw[he];obtain⟨i1,i2⟩:=ih hl' b';refine⟨by simp[i1],λj o' hj=>?_⟩;cases j with
    |zero=>simp at hj;subst hj;exact⟨x,by simp,hx⟩
    |succ j=>
     simp at hj;obtain⟨a',h1,h2⟩:=i2 j o' hj;refine⟨a',by simpa using h1,?_⟩;rcases h2 with h2|⟨c,h2,h3⟩
     ·exact .inl h2
     ·exact .inr ⟨c,om,h3⟩
   rcases jV b a l' (hno a (List.mem_cons_self ..))with⟨k,xs,hf,e,_⟩|⟨_,e,_⟩
   ·refine key _ (b+1) om ?_ e;unfold jj at ha;split at ha
    ·rename_i ax g hopc hg;cases hdst:lL n o.dst with
     |false=>rw[hdst]at ha;simp at ha
     |true=>rw[hdst]at ha;simp only[cond_true,sJ]at ha;subst ha;exact .inr ⟨b,Nat.le_refl _,ax,k,xs,g,hopc,hf,hg,hdst,rfl⟩
    ·simp at ha
   ·exact key a b rL (.inl ha) e
  ·simp at h
def p9:∀(l:List aD) (b:Nat),eV l->Pp (aH b (l.map bX))
 | [],b,_=>by intro a ha;simp[aH]at ha
 |o::r,b,hn=>by
  rcases jV b o r (hn.2 o (List.mem_cons_self ..))with⟨k,xs,_,e,_⟩|⟨_,e,_⟩
  ·rw[e];intro a ha;rcases List.mem_cons.1 ha with rfl|ha
   ·intro c z s h;simp at h
   ·exact p9 r _ hn.tail a ha
  ·rw[e];intro a ha;rcases List.mem_cons.1 ha with rfl|ha
   ·exact hn.1 _ (List.mem_cons_self ..)
   ·exact p9 r _ hn.tail a ha
def ru:∀(l:List aD) (b:Nat),eV l->∀(i:Nat) (a:aD) (c:Nat),(aH b (l.map bX))[i]?=some a->mK a.op=some c->b<=c
 | [],b,_,i,a,c,h,_=>by simp[aH]at h
 |o::r,b,hn,i,a,c,h,hc=>by
  rcases jV b o r (hn.2 o (List.mem_cons_self ..))with⟨k,xs,_,e,_⟩|⟨_,e,_⟩
  ·rw[e]at h;cases i with
   |zero=>simp only[XH,sJ]at h;subst h;simp only[mK,sJ]at hc;omega
   |succ i=>simp only[XI]at h;have:=ru r (b+1) hn.tail i a c h hc;omega
  ·rw[e]at h;cases i with
   |zero=>simp only[XH,sJ]at h;subst h;rw[ry (hn.2 o (List.mem_cons_self ..))]at hc;simp at hc
   |succ i=>simp only[XI]at h;exact ru r b hn.tail i a c h hc
def tk:∀(l:List aD) (b:Nat),eV l->∀(i j:Nat) (a a':aD) (c:Nat),(aH b (l.map bX))[i]?=some a->(aH b (l.map bX))[j]?=some a'->mK a.op=some c->mK a'.op=some c->i=j
 | [],b,_,i,j,a,a',c,h,_,_,_=>by simp[aH]at h
 |o::r,b,hn,i,j,a,a',c,h,k,hc,kc=>by
  rcases jV b o r (hn.2 o (List.mem_cons_self ..))with⟨kk,xs,_,e,_⟩|⟨_,e,_⟩
  ·rw[e]at h k;cases i with
   |zero=>
    cases j with
    |zero=>rfl
    |succ j=>simp only[XH,sJ,XI]at h k;subst h;simp only[mK,sJ]at hc;have:=ru r (b+1) hn.tail j a' c k kc;omega
   |succ i=>
    cases j with
    |zero=>simp only[XH,sJ,XI]at h k;subst k;simp only[mK,sJ]at kc;have:=ru r (b+1) hn.tail i a c h hc;omega
    |succ j=>simp only[XI]at h k;rw[tk r (b+1) hn.tail i j a a' c h k hc kc]
  ·rw[e]at h k;cases i with
   |zero=>simp only[XH,sJ]at h;subst h;rw[ry (hn.2 o (List.mem_cons_self ..))]at hc;simp at hc
   |succ i=>
    cases j with
    |zero=>simp only[XH,sJ]at k;subst k;rw[ry (hn.2 o (List.mem_cons_self ..))]at kc;simp at kc
    |succ j=>simp only[XI]at h k;rw[tk r b hn.tail i j a a' c h k hc kc]
def tj{w0:World}{ρ:Pl}{w:World}{pr:Nat->Prop}:∀(l:List aD) (D:Nat->Prop) (H:aa),eV l->cX ⟨pr,D⟩ w0 ρ H w->cX ⟨pr,qi D (aH H.next (l.map bX)) λ_=>false⟩ w0 ρ (bp H (l.map bX)) w
 | [],D,H,_,R=>R.fewer (D:=qi D [] λ_=>false) λd hd=>by
  rcases hd with hd|⟨i,a,h,_⟩
  ·exact hd
  ·simp at h
 |o::r,D,H,hn,R=>by
  rcases jV H.next o r (hn.2 o (List.mem_cons_self ..))with⟨kk,xs,_,e,f⟩|⟨_,e,f⟩
  ·rw[e,f];have:=tj r _ _ hn.tail (R.reserve (.cells [] 0 false) rfl);refine cX.fewer this λd hd=>?_;rcases hd with hd|⟨i,a,h,k,_⟩
   ·exact .inl (.inl hd)
   ·cases i with
    |zero=>simp only[XH,sJ]at h;subst h;simp only[mK,sJ]at k;exact .inl (.inr k.symm)
    |succ i=>simp only[XI]at h;exact .inr ⟨i,a,h,k,rfl⟩
  ·rw[e,f];have:=tj r _ _ hn.tail R;refine cX.fewer this λd hd=>?_;rcases hd with hd|⟨i,a,h,k,_⟩
   ·exact .inl hd
   ·cases i with
    |zero=>simp only[XH,sJ]at h;subst h;rw[ry (hn.2 o (List.mem_cons_self ..))]at k;simp at k
    |succ i=>simp only[XI]at h;exact .inr ⟨i,a,h,k,rfl⟩
def iz(o:aD):aD:=match o.op with
 | .hf (.fill _ k) xs=>⟨o.dst,.hf (.fill 0 k) xs,o.guard⟩
 |_=>o
def tS(o:aD):iz o=o∨∃b k xs,o.op=.hf (.fill b k) xs/\iz o=⟨o.dst,.hf (.fill 0 k) xs,o.guard⟩:=by
 obtain⟨d,op,g⟩:=o;unfold iz;simp only;split
 ·exact .inr ⟨_,_,_,rfl,rfl⟩
 ·exact .inl rfl
structure Vz(a b:aD):Prop where
 dst:a.dst=b.dst
 guard:a.guard=b.guard
 chain:aW a.op=aW b.op
 load:d9 a.op=d9 b.op
 reads:jn a=jn b
 mov:nH a.op=nH b.op
 tch:qW a.op=qW b.op
 tops:sw a=sw b
def fO(o:aD):Vz (iz o) o:=by
 rcases tS o with e|⟨b,k,xs,h,e⟩
 ·rw[e];exact⟨rfl,rfl,rfl,rfl,rfl,rfl,rfl,rfl⟩
 ·rw[e];obtain⟨d,op,g⟩:=o;simp only at h;subst h;exact⟨rfl,rfl,rfl,rfl,rfl,rfl,rfl,rfl⟩
def nY:∀(l:List aD) (b c:Nat),(∀o∈l,dT o.op=none∨fD o.op=true)->(aH b l).map iz=(aH c l).map iz
 | [],b,c,_=>rfl
 |o::r,b,c,h=>by
  have hr:∀o∈r,dT o.op=none∨fD o.op=true:=λx hx=>h x (List.mem_cons_of_mem _ hx);cases hz:dT o.op with
  |none=>simp only[aH,hz,List.map_cons,nY r b c hr]
  |some p=>
   obtain⟨z,s⟩:=p;have hfl:fD o.op=true:=by
    rcases h o (List.mem_cons_self ..)with h|h
    ·rw[hz]at h;simp at h
    ·exact h
   simp only[aH,hz,List.map_cons];congr 1
   ·obtain⟨d,op,g⟩:=o;simp only at hfl;unfold fD at hfl;split at hfl
    ·rfl
    ·simp at hfl
   ·exact nY r _ _ hr
def gv(l:List aD)(i:Nat):(l.map iz)[i]?=(l[i]?).map iz:=List.getElem?_map ..
def pA(l:List aD)(ms:List Nat):gu (l.map iz) ms=gu l ms:=by
 unfold gu;rw[XM];congr 1;funext j;rw[gv];cases l[j]? with
 |none=>rfl
 |some b=>
  simp only[Option.map_some];congr 1;funext i;rw[gv];cases l[i]? with
  |none=>rfl
  |some a=>have A:=fO a;have B:=fO b;simp only[Option.map_some,mo,xH,A.dst,B.dst,A.reads,B.reads,A.chain,B.chain,B.mov,A.tch,A.guard,B.guard]
def tV(l:List aD)(ms:List Nat)(i j:Nat):eS (l.map iz) ms i j=eS l ms i j:=by
 unfold eS;rw[gv,gv];cases l[i]? with
 |none=>cases l[j]?<;>rfl
 |some a=>cases l[j]? with
  |none=>rfl
  |some b=>simp only[Option.map_some,(fO a).chain,(fO b).chain]
def pB(l:List aD)(ms:List Nat):jR (l.map iz) ms=jR l ms:=by
 unfold jR;rw[XM];congr 1;funext j;congr 1;funext i;rw[tV];congr 2;funext k;rw[gv];cases l[k]? with
 |none=>rfl
 |some o=>simp only[Option.map_some,(fO o).load]
def tG(l:List aD)(c t:Nat):pI (l.map iz) c t=pI l c t:=by
 unfold pI;rw[gv];cases l[c]? with
 |none=>rfl
 |some o=>simp only[Option.map_some,(fO o).dst]
def Eh(l:List aD)(q:Nat)(x:bW):qF (l.map iz) q x=qF l q x:=by
 cases x<;>first|rfl|skip
 simp only[qF,XM,tG]
def pG(l:List aD)(q:Nat)(d:Option Nat):hZ (l.map iz) q d=hZ l q d:=by
 cases d<;>first|rfl|skip
 simp only[hZ,XM,tG]
def qM(l:List aD):kF (l.map iz)=kF l:=by
 unfold kF;rw[XM];congr 1;funext q;unfold Ag;rw[gv];cases l[q]? with
 |none=>rfl
 |some o=>
  simp only[Option.map_some];rcases tS o with e|⟨b,k,xs,h,e⟩
  ·rw[e];simp only[Eh,pG]
  ·rw[e];simp only[h,pG]
def B0(l:List aD)(j i:Nat):pR (l.map iz) j i=pR l j i:=by
 unfold pR;rw[gv,gv];cases l[j]? with
 |none=>cases l[i]?<;>rfl
 |some b=>cases l[i]? with
  |none=>rfl
  |some a=>simp only[Option.map_some,(fO a).tops,(fO b).tops]
def v7(l:List aD)(ms:List Nat)(j k:Nat):jC (l.map iz) ms j k=jC l ms j k:=by
 unfold jC;rw[gv];cases l[k]? with
 |none=>rfl
 |some o=>simp only[Option.map_some,(fO o).load]
def rE(l:List aD)(ms:List Nat):kP (l.map iz) ms=kP l ms:=by unfold kP;simp only[XM,tV,B0,v7]
def Jd{l:List aD}(hn:eV l):∀o∈l.map bX,dT o.op=none∨fD o.op=true:=by
 intro o ho;obtain⟨a,ha,rfl⟩:=List.mem_map.1 ho;unfold bX;cases h:jW a.op with
 |some p=>exact .inr rfl
 |none=>exact .inl (Ck (hn.2 a ha) h)
end Go.Abs
namespace Go.Abs
inductive cK where
 |skip
 |reg (ops:List aD)
 |draw (ops:List aD) (chk:List (List Nat))
 |seq (a b:cK)
 |cond (c:bW) (a b:cK)
 |block (id:Nat) (c:cK)
 |loop (c:cK)
 |exit (id:Nat)
 |ret
 |dfr (y:bW) (b:cK)
inductive JH where
 |normal
 |exit (id:Nat)
 |ret
inductive xR where
 |t (i:Nat)
 |cell (agg:Bool) (size:Nat) (i:Nat)
structure cf where
 nt:Nat
 body:cK
 res:List xR
section
variable (tb:FuncId->Bool) (call:FuncId->List ae->aa->Option (ae×aa))
def gw:List aD->Tr ae->aa->Option (Tr ae×aa)
 | [],T,H=>some (T,H)
 | o::r,T,H=>bif pm T o.guard then
   match dZ tb T H o.op with
   |some (.val v,H')=>gw r (ko T o.dst v) H'
   |some (.enter f args,H')=>match call f args H' with
    |some (v,H'')=>gw r (ko T o.dst v) H''
    |none=>none
   |none=>none
  else gw r (ko T o.dst cF) H
def oA(body:Tr ae->aa->Option (JH×Tr ae×aa)):Nat->Tr ae->aa->Option (JH×Tr ae×aa)
 |0,_,_=>none
 |n+1,T,H=>match body T H with
  |some (.normal,T',H')=>oA body n T' H'
  |some (e,T',H')=>some (e,T',H')
  |none=>none
def Dr(ops:List aD)(chk:List (List Nat))(T:Tr ae)(H:aa):Option (JH×Tr ae×aa):=
 match eG tb call ops T H with
 |some ss=>bif lq tb (H::ss.map (·.2)) ops chk ss T then some (.normal,cx (λ_=>true) 0 ops ss T,fX H ss ops.length)else none
 |none=>none
def cu(k:Nat):cK->Tr ae->aa->Option (JH×Tr ae×aa)
 | .skip,T,H=>some (.normal,T,H)
 | .reg ops,T,H=>match gw tb call ops T H with
  |some (T',H')=>some (.normal,T',H')
  |none=>none
 | .draw ops chk,T,H=>Dr tb call (aH H.next ops) chk T (bp H ops)
 | .seq a b,T,H=>match cu k a T H with
  |some (.normal,T',H')=>cu k b T' H'
  |some (e,T',H')=>some (e,T',H')
  |none=>none
 | .cond c a b,T,H=>match ev T c with
  | .bool true=>cu k a T H
  | .bool false=>cu k b T H
  |_=>none
 | .block id c,T,H=>match cu k c T H with
  |some (.exit j,T',H')=>bif Nat.beq j id then some (.normal,T',H')else some (.exit j,T',H')
  |some (e,T',H')=>some (e,T',H')
  |none=>none
 | .loop c,T,H=>oA (cu k c) k T H
 | .exit id,T,H=>some (.exit id,T,H)
 | .ret,T,H=>some (.ret,T,H)
 | .dfr y b,T,H=>match ev T y with
  | .func (.func g) [] l=>match cu k b T H with
   |some (.exit _,_,_)=>none
   |some (_,T',H')=>match call (3*mT+g) l H' with
    |some (_,H'')=>some (.ret,T',H'')
    |none=>none
   |none=>none
  |_=>none
end
def qj(T:Tr ae)(H:aa):List xR->Option (List ae)
 | []=>some []
 | .t i::r=>match qj T H r with
  |some l=>some (ev T (.t i)::l)
  |none=>none
 | .cell g n i::r=>match al g n H (ev T (.t i)),qj T H r with
  |some x,some l=>some (x::l)
  |_,_=>none
def kQ:List ae->ae
 | [x]=>x
 |l=>.tuple l
def hJ:List ae->Nat->Tr ae->Tr ae
 | [],_,T=>T
 |x::r,i,T=>hJ r (i+1) (T.set i x)
structure oF where
 is:FuncId->Bool
 run:FuncId->List ae->aa->Option (ae×aa)
def DZ(N:oF)(A:Tr cf):FuncId->Bool:=λf=>bif N.is f then true else match A.get f with|some _=>true|none=>false
def d6(N:oF)(tab:Tr cf):Nat->FuncId->List ae->aa->Option (ae×aa)
 |0,_,_,_=>none
 |n+1,f,args,H=>bif N.is f then N.run f args H else match tab.get f with
  | some fn=>bif Nat.ble args.length fn.nt then
    match cu (DZ N tab) (d6 N tab n) n fn.body (hJ args 0 .e) H with
    |some (.exit _,_,_)=>none
    |some (_,T,H')=>match qj T H' fn.res with
     |some l=>some (kQ l,H')
     |none=>none
    |none=>none
   else none
  |none=>none
section
variable (P:Program)
def Ed:cK:=.reg [⟨none,.bad,none⟩]
def Mi(es:List (List Nat))(l:List aD)(ms:List Nat):cK:=
 bif kZ es ms&&(gu (aH 0 (l.map bX)) ms&&(jR (aH 0 (l.map bX)) ms&&kF (aH 0 (l.map bX))))then
  .seq (.draw (l.map bX) ((List.range l.length).map (ii (aH 0 (l.map bX)) ms))) (.reg ((kP (aH 0 (l.map bX)) ms).map uL))else Ed
def fY(n:Nat):Code->Option cK
 | .skip=>some .skip
 | .region _ ops false=>match dL P n ops ops.toList with
  |some l=>some (.reg l)
  |none=>none
 | .region _ ops true=>match dL P n ops ops.toList with
  | some l=>bif kZ (ops.toList.map cR) (dX [] (ops.toList.map cR))&&kG (aH 0 l) (dX [] (ops.toList.map cR)) then
    some (.draw l ((List.range l.length).map (ii (aH 0 l) (dX [] (ops.toList.map cR)))))else some (Mi (ops.toList.map cR) l (dX [] (ops.toList.map cR)))
  |none=>none
 | .seq a b=>match fY n a,fY n b with
  |some a,some b=>some (.seq a b)
  |_,_=>none
 | .cond c a b=>match dF c,fY n a,fY n b with
  |some c,some a,some b=>some (.cond c a b)
  |_,_,_=>none
 | .block id c=>match fY n c with
  |some c=>some (.block id c)
  |none=>none
 | .loop c=>match fY n c with
  |some c=>some (.loop c)
  |none=>none
 | .exit id=>some (.exit id)
 | .ret=>some .ret
 |_=>some Ed
def xL:List ResultVar->Option (List xR)
 | []=>some []
 | .tmp t::r=>match xL r with
  |some l=>some (.t t::l)
  |none=>none
 | .cell a t::r=>match ef P t,xL r with
  |some (g,n),some l=>some (.cell g n a::l)
  |_,_=>none
def Rp(n:Nat):Code->Option (List aD×bW)
 | .region _ ops false=>match ops.toList.getLast? with
  |some ⟨none,.defer ⟨.value x,as,_⟩,_,_,_,none⟩=>match as.toList,dF x,dL P n ops ops.toList.dropLast with
   | [],some y,some l=>some (l,y)
   |_,_,_=>none
  |_=>none
 |_=>none
def wQ(n:Nat):Code->Option cK
 | .seq a b=>match Rp P n a with
  |some (l,y)=>match fY P n b with
   |some b=>some (.seq (.reg l) (.dfr y b))
   |none=>none
  |none=>match wQ n b with
   |some b=>match fY P n a with
    |some a=>some (.seq a b)
    |none=>none
   |none=>none
 |_=>none
def Mj(n:Nat)(c:Code):Option cK:=match wQ P n c with
 |some b=>some b
 |none=>fY P n c
def FG(cc:Nat->Code->Option cK)(f:FuncId):Option cf:=
 match P.funcs[f]? with
 |some fn=>match fn.body with
  | some c => bif fn.name == "runtime.NumGoroutine" then none else
   match cc fn.ntmps c,xL P fn.results.toList with
   |some b,some r=>some ⟨fn.ntmps,b,r⟩
   |_,_=>none
  |none=>none
 |none=>none
def DJ(i:Nat):Option cf:=bif Nat.blt i mT then FG P (Mj P) i else bif Nat.blt i (3*mT)then none else bif Nat.blt i (4*mT)then FG P (fY P) (i-3*mT)else none
def M0(tab:Tr cf):Prop:=∀f fn,tab.get f=some fn->DJ P f=some fn
end
section
variable {P:Program} {Prot:Gh} {w0:World} {ρ:Pl} {H H':aa} {w:World}
def JB(P:Program)(Prot:Gh)(w0:World)(ds:List Deferred)(ρ:Pl)(n:Nat)(e:JH)(T:Tr ae)(H:aa):Exit->Act->World->Prop:=λe' a w=>
 (match e with | .normal=>e'=.normal | .exit id=>e'=.exit id | .ret=>e'=.ret)/\∃ρ',ρ.le ρ'/\cX Prot w0 ρ' H w/\bY ρ' n T a.tmps/\a.defers=ds
def BU{tb:FuncId->Bool}(htb:∀f,Nat.blt f mT=true->tb f=true->ep P f=true){call:FuncId->List ae->aa->Option (ae×aa)}(hcall:oE P call){ds:List Deferred}{n:Nat}{ops:Array Oper}{Q:Exit->Act->World->Prop}{tl:List Nat} :
  ∀(rest:List Oper) (i:Nat) (l:List aD),(∀j,j<rest.length->rest[j]?=ops[i+j]?)->dL P n ops rest=some l->∀(ρ0 ρ:Pl) (T T':Tr ae) (H H':aa) (a:Act) (w:World),ρ0.le ρ ->
   cX Prot w0 ρ H w->bY ρ n T a.tmps->a.defers=ds->gw tb call l T H=some (T',H') ->
   (∀a' w',(∃ρ',ρ0.le ρ'/\cX Prot w0 ρ' H' w'/\bY ρ' n T' a'.tmps/\a'.defers=ds)->wpOps P ops Q tl a' w')->wpOps P ops Q (List.range' i rest.length++tl) a w:=by
 intro rest;induction rest with
 |nil=>intro i l _ hc ρ0 ρ T T' H H' a w hle R ht hd h hQ;simp only[dL,sJ]at hc;subst hc;simp only[gw,sJ,pJ]at h;obtain⟨rfl,rfl⟩:=h;exact hQ a w ⟨ρ,hle,R,ht,hd⟩
 |cons o rest ih=>
  intro i l hi hc ρ0 ρ T T' H H' a w hle R ht hd h hQ;simp only[dL]at hc;split at hc
  ·rename_i ao l' ha hl;simp only[sJ]at hc;subst hc;have ho:ops[i]?=some o:=by have:=hi 0 (by simp);simpa using this.symm
   have hnext:∀j,j<rest.length->rest[j]?=ops[i+1+j]?:=λj hj=>by have:=hi (j+1) (by simpa using hj);simp only[XI]at this;rw[this];congr 1;omega
   unfold jj at ha;split at ha
   ·rename_i ax g hop hg;cases hdst:lL n o.dst with
    |false=>rw[hdst]at ha;simp at ha
    |true=>
     rw[hdst]at ha;simp only[cond_true,sJ]at ha;subst ha;simp only[XB,List.range'_succ,XQ,wpOps,ho];simp only[gw]at h;rw[nN ht hg];cases hgo:pm T g with
     |false=>rw[hgo]at h;simp only[cond_false]at h;simp only[XJ,if_false];refine ih (i+1) l' hnext hl ρ0 ρ _ _ _ _ _ _ hle R (dq ht hdst iC) ?_ h hQ;cases hx:o.dst<;>simpa[Act.put]using hd
     |true=>
      rw[hgo]at h;simp only[cond_true]at h;simp only[if_true];left;split at h
      ·rename_i v H1 hv;obtain⟨ρ1,w1,nx,q1,q2,q3,q4⟩:=nB htb R ht o hop hv;simp only[Oper.wp,q2];have hd':∀u,(a.put o.dst u).defers=ds:=λu=>by cases hx:o.dst<;>simpa[Act.put]using hd
       cases nx<;>simp only[oD]at q4
       case value u=>exact ih (i+1) l' hnext hl ρ0 ρ1 _ _ _ _ _ _ (Pl.le_trans hle q1) q3 (dq (ht.mono q1) hdst q4) (hd' _) h hQ
       case skip=>exact ih (i+1) l' hnext hl ρ0 ρ1 _ _ _ _ _ _ (Pl.le_trans hle q1) q3 (dq (ht.mono q1) hdst q4) (hd' _) h hQ
      ·rename_i f args H1 hv;split at h
       ·rename_i v H2 hcl;obtain⟨ρ1,w1,nx,q1,q2,q3,q4⟩:=nB htb R ht o hop hv;simp only[Oper.wp,q2];have hd':∀u,(a.put o.dst u).defers=ds:=λu=>by cases hx:o.dst<;>simpa[Act.put]using hd
        cases nx<;>simp only[oD]at q4
        case enter g vs=>obtain⟨rfl,hbig,q5⟩:=q4;simp only[Oper.upon];refine(hcall _ _ _ _ _ hbig hcl Prot w0 ρ1 w1 vs q3 q5).mono λe w' hr=>?_;obtain⟨ρ2,u,r1,rfl,r3,r4⟩:=hr;exact ih (i+1) l' hnext hl ρ0 ρ2 _ _ _ _ _ _ (Pl.le_trans hle (Pl.le_trans q1 r1)) r3 (dq ((ht.mono q1).mono r1) hdst r4) (hd' _) h hQ
       ·simp at h
      ·simp at h
   ·simp at ha
  ·simp at hc
def JB.weaken{ds:List Deferred}{ρ ρ':Pl}{n:Nat}{e:JH}{T:Tr ae}{H:aa}(h:ρ.le ρ'){e':Exit}{a:Act}{w:World}(q:JB P Prot w0 ds ρ' n e T H e' a w):JB P Prot w0 ds ρ n e T H e' a w:=by obtain⟨h1,ρ2,h2,h3⟩:=q;exact⟨h1,ρ2,Pl.le_trans h h2,h3⟩
def vB{tb:FuncId->Bool}{call:FuncId->List ae->aa->Option (ae×aa)}{k:Nat}{T:Tr ae}{H:aa}:cu tb call k Ed T H=none:=rfl
def rR{tb:FuncId->Bool}{call:FuncId->List ae->aa->Option (ae×aa)}:∀(ps:List (bW×bW)) {T T':Tr ae} {H H':aa},gw tb call (ps.map uL) T H=some (T',H') ->
  T'=T/\H'=H/\∀p∈ps,Jx (ev T p.1) (ev T p.2)=true
 | [],T,T',H,H',h=>by simp only[List.map_nil,gw,sJ,pJ]at h;exact⟨h.1.symm,h.2.symm,by simp⟩
 |p::r,T,T',H,H',h=>by
  simp only[List.map_cons,gw,uL,pm,cond_true,dZ,mV,pF,MX]at h;cases hp:Jx (ev T p.1) (ev T p.2)with
  |false=>rw[hp]at h;simp[vv]at h
  |true=>
   rw[hp]at h;simp only[cond_true,vv,ko]at h;obtain⟨h1,h2,h3⟩:=rR r h;refine⟨h1,h2,λq hq=>?_⟩;rcases List.mem_cons.1 hq with rfl|hq
   ·exact hp
   ·exact h3 q hq
def nW(hfol:P.follows .mixedOrders=true){tb:FuncId->Bool}(htb:∀f,Nat.blt f mT=true->tb f=true->ep P f=true){call:FuncId->List ae->aa->Option (ae×aa)}(hcall:oE P call){ds:List Deferred}{n k:Nat} :
  ∀(c:Code) (ac:cK),fY P n c=some ac->∀(ρ:Pl) (T T':Tr ae) (H H':aa) (e:JH) (a:Act) (w:World),
   cX Prot w0 ρ H w->bY ρ n T a.tmps->a.defers=ds->cu tb call k ac T H=some (e,T',H')->c.wp P (JB P Prot w0 ds ρ n e T' H') a w:=by
 intro c;induction c with
 |skip=>intro ac hc ρ T T' H H' e a w R ht hd h;simp only[fY,sJ]at hc;subst hc;simp only[cu,sJ,pJ]at h;obtain⟨rfl,rfl,rfl⟩:=h;exact wp_skip ⟨rfl,ρ,Pl.le_refl _,R,ht,hd⟩
 |region id ops draw=>
  intro ac hc ρ T T' H H' e a w R ht hd h;cases draw with
  |true=>
   simp only[fY]at hc;split at hc
   ·rename_i l hl;cases hck:(kZ (ops.toList.map cR) (dX [] (ops.toList.map cR))&&kG (aH 0 l) (dX [] (ops.toList.map cR)))with
    |false=>
     rw[hck]at hc;simp only[cond_false,sJ]at hc;subst hc;clear hck;unfold Mi at h;cases hck:(kZ (ops.toList.map cR) (dX [] (ops.toList.map cR))&&(gu (aH 0 (l.map bX)) (dX [] (ops.toList.map cR))&&(jR (aH 0 (l.map bX)) (dX [] (ops.toList.map cR))&&kF (aH 0 (l.map bX)))))with
     |false=>rw[hck]at h;simp[vB]at h
     |true=>
      rw[hck,cond_true]at h;simp only[XA]at hck;obtain⟨c1,c2,c3,c4⟩:=hck;have hnc:=pz hl;have hnm:=nY (l.map bX) H.next 0 (Jd hnc);rw[<- pA,<- hnm,pA]at c2;rw[<- pB,<- hnm,pB]at c3;rw[<- qM,<- hnm,qM]at c4;rw[<- rE (aH 0 (l.map bX)),<- hnm,rE]at h;have hops:=LK hl H.next;have hlen:(aH H.next (l.map bX)).length=ops.toList.length:=hops.1;have hlk:=kN (l.map bX) H.next 0;have hll:l.length=(aH H.next (l.map bX)).length:=by rw[hlen];exact(B2 hl).1
      have hchk:(List.range l.length).map (ii (aH 0 (l.map bX)) (dX [] (ops.toList.map cR)))=(List.range (aH H.next (l.map bX)).length).map (ii (aH H.next (l.map bX)) (dX [] (ops.toList.map cR))):=by rw[hll];exact List.map_congr_left λj _=>(wL hlk _ j).symm
      have hbase:∀d,Prot.dead d->d<H.next:=λd hd=>(R.dead d hd).1;have hdis:=tk l H.next hnc;have hnocl:=p9 l H.next hnc;have RF:=tj (pr:=Prot.prot) l Prot.dead H hnc R;simp only[cu,Dr]at h;rw[hchk]at h;generalize hcl:aH H.next (l.map bX)=m at *;generalize hrv:bp H (l.map bX)=K at *;cases hss:eG tb call m T K with
      |none=>rw[hss]at h;simp at h
      |some ss=>
      rw[hss]at h;simp only at h;cases hr:lq tb (K::ss.map (·.2)) m ((List.range m.length).map (ii m (dX [] (ops.toList.map cR)))) ss T with
      |false=>rw[hr]at h;simp at h
      |true=>
       rw[hr]at h;simp only[cond_true]at h;cases hg:gw tb call ((kP m (dX [] (ops.toList.map cR))).map uL) (cx (λ_=>true) 0 m ss T) (fX K ss m.length)with
       |none=>rw[hg]at h;simp at h
       |some q=>
       obtain⟨T2,H2⟩:=q;rw[hg]at h;simp only[sJ,pJ]at h;obtain⟨rfl,rfl,rfl⟩:=h;obtain⟨rfl,rfl,hchecks⟩:=rR _ hg;obtain⟨hap,hal⟩:=Rh hss c4 hchecks;refine wp_region_any hfol ?_;have hN:m.length=ops.size:=by simpa using hlen
       have hrep:∀i,(Array.replicate ops.size false).getD i false=false:=λi=>by rw[Array.getD_eq_getD_getElem?,Array.getElem?_replicate];split<;>rfl
       have hm0:(λi=>(Array.replicate ops.size false).getD i false)=λ_=>false:=funext hrep;have hst:aI (λi=>(Array.replicate ops.size false).getD i false) 0 m=aI (λ_=>false) 0 m:=kw m 0 λc o _ _=>by simp only[hrep]
       have hH:fX K ss (aI (λ_=>false) 0 m)=K:=by
        obtain⟨q1,q2,q3,q4⟩:=fw (λ_=>false) m 0;have:=eT hss (aI (λ_=>false) 0 m) 0 om λc o _ hlt ho=>by
         cases hx:aW o.op with
         |false=>rfl
         |true=>have:=q3 c o ho hx om;simp at this
        rw[Nat.zero_add]at this;rw[this];rfl
       refine LU (Prot:=Prot) (w0:=w0) htb hcall (base:=H.next) hlen hops.2 hbase hdis hnocl c1 c2 c3 hss hr hap hal (ρ0:=ρ) (λa' w' hx=>⟨rfl,hx⟩) ops.size _ a _ (by simp) ?_ (λj _ hj=>by rw[hrep]at hj;simp at hj) ⟨ρ,K,Pl.le_refl _,?_,?_,?_,hd⟩
       ·rw[hm0];have:∀k,zV (λ_=>false) k=k:=by
         intro k;induction k with
         |zero=>rfl
         |succ k ih=>simp only[zV,ih,cond_false]
        exact this _
       ·rw[hst,hm0];refine⟨by rw[hH],λx _=>by rw[hH],λq x _ h2=>?_⟩;exact absurd h2.1 (by simp)
       ·rw[hm0];exact RF.drew
       ·refine ht.congr λt=>?_;rw[hm0];have:∀(l:List aD) (ss:List (ae×aa)) (k:Nat) (T:Tr ae),cx (λ_=>false) k l ss T=T:=by
         intro l;induction l with
         |nil=>intro ss k T;cases ss<;>rfl
         |cons o r ih=>intro ss k T;cases ss with
          |nil=>rfl
          |cons s ss=>obtain⟨x,y⟩:=s;simp only[cx,cond_false,ih]
        rw[this]
    |true=>
     rw[hck]at hc;simp only[cond_true,sJ]at hc;subst hc;simp only[XA]at hck;have hnc:=pz hl;have hlk:=kN l H.next 0;have hok:kG (aH H.next l) (dX [] (ops.toList.map cR))=true:=by rw[Ai hlk];exact hck.2
     have hlen:(aH H.next l).length=ops.toList.length:=(yZ hl H.next).1;have hll:l.length=(aH H.next l).length:=by rw[hlen];exact(B2 hl).1
     have hchk:(List.range l.length).map (ii (aH 0 l) (dX [] (ops.toList.map cR)))=(List.range (aH H.next l).length).map (ii (aH H.next l) (dX [] (ops.toList.map cR))):=by rw[hll];exact List.map_congr_left λj _=>(wL hlk _ j).symm
     have hbase:∀d,Prot.dead d->d<H.next:=λd hd=>(R.dead d hd).1;have R:=mj (pr:=Prot.prot) l Prot.dead H hnc R;simp only[cu,Dr]at h;rw[hchk]at h;generalize hcl:aH H.next l=m at *;generalize hrv:bp H l=K at *;split at h
     ·rename_i ss hss;cases hr:lq tb (K::ss.map (·.2)) m ((List.range m.length).map (ii m (dX [] (ops.toList.map cR)))) ss T with
      |false=>rw[hr]at h;simp at h
      |true=>
       rw[hr]at h;simp only[cond_true,sJ,pJ]at h;obtain⟨rfl,rfl,rfl⟩:=h;refine wp_region_any hfol ?_;have hN:m.length=ops.size:=by simpa using hlen
       have hrep:∀i,(Array.replicate ops.size false).getD i false=false:=λi=>by rw[Array.getD_eq_getD_getElem?,Array.getElem?_replicate];split<;>rfl
       have hm0:(λi=>(Array.replicate ops.size false).getD i false)=λ_=>false:=funext hrep;have hst:aI (λi=>(Array.replicate ops.size false).getD i false) 0 m=aI (λ_=>false) 0 m:=kw m 0 λc o _ _=>by simp only[hrep]
       have hH:fX K ss (aI (λ_=>false) 0 m)=K:=by
        obtain⟨q1,q2,q3,q4⟩:=fw (λ_=>false) m 0;have:=eT hss (aI (λ_=>false) 0 m) 0 om λc o _ hlt ho=>by
         cases hx:aW o.op with
         |false=>rfl
         |true=>have:=q3 c o ho hx om;simp at this
        rw[Nat.zero_add]at this;rw[this];rfl
       refine LV (Prot:=Prot) (w0:=w0) htb hcall (base:=H.next) hlen (by rw[<- hcl];exact(yZ hl H.next).2) hbase (by rw[<- hcl];exact qe l H.next hnc) hck.1 hok hss hr (ρ0:=ρ) (λa' w' hx=>⟨rfl,hx⟩) ops.size _ a _ (by simp) ?_ (λj _ hj=>by rw[hrep]at hj;simp at hj) ⟨ρ,Pl.le_refl _,?_,?_,hd⟩
       ·rw[hm0];have:∀k,zV (λ_=>false) k=k:=by
         intro k;induction k with
         |zero=>rfl
         |succ k ih=>simp only[zV,ih,cond_false]
        exact this _
       ·rw[hst,hH,hm0];exact R.drew
       ·refine ht.congr λt=>?_;rw[hm0];have:∀(l:List aD) (ss:List (ae×aa)) (k:Nat) (T:Tr ae),cx (λ_=>false) k l ss T=T:=by
         intro l;induction l with
         |nil=>intro ss k T;cases ss<;>rfl
         |cons o r ih=>intro ss k T;cases ss with
          |nil=>rfl
          |cons s ss=>obtain⟨x,y⟩:=s;simp only[cx,cond_false,ih]
        rw[this]
     ·simp at h
   ·simp at hc
  |false=>
   simp only[fY]at hc;split at hc
   ·rename_i l hl;simp only[sJ]at hc;subst hc;simp only[cu]at h;split at h
    ·rename_i T1 H1 h1;simp only[sJ,pJ]at h;obtain⟨rfl,rfl,rfl⟩:=h;refine wp_region ?_;have:=BU (Prot:=Prot) (w0:=w0) htb hcall (Q:=JB P Prot w0 ds ρ n .normal T1 H1) (tl:=[]) ops.toList 0 l (λj _=>by simp) hl ρ ρ T T1 H H1 a w (Pl.le_refl _) R ht hd h1 (λa' w' h=>⟨rfl,h⟩);rw[List.range_eq_range'];simpa using this
    ·simp at h
   ·simp at hc
 |seq x y ihx ihy=>
  intro ac hc ρ T T' H H' e a w R ht hd h;simp only[fY]at hc;split at hc
  ·rename_i ax ay hx hy;simp only[sJ]at hc;subst hc;simp only[cu]at h;split at h
   ·rename_i T1 H1 h1;refine wp_seq (wp_mono (ihx _ hx ρ T T1 H H1 .normal a w R ht hd h1) ?_);rintro e1 a1 w1 ⟨he,ρ1,hl,R1,ht1,hd1⟩;simp only at he;subst he;exact wp_mono (ihy _ hy ρ1 T1 T' H1 H' e a1 w1 R1 ht1 hd1 h) λ_ _ _ q=>q.weaken hl
   ·rename_i e1 T1 H1 hne h1;simp only[sJ,pJ]at h;obtain⟨rfl,rfl,rfl⟩:=h;refine wp_seq (wp_mono (ihx _ hx ρ T T1 H H1 e1 a w R ht hd h1) ?_);rintro e2 a1 w1 q;cases e1 with
    |normal=>exact(hne rfl).elim
    |exit id=>have:=q.1;simp only at this;subst this;exact q
    |ret=>have:=q.1;simp only at this;subst this;exact q
   ·simp at h
  ·simp at hc
 |cond c x y ihx ihy=>
  intro ac hc ρ T T' H H' e a w R ht hd h;simp only[fY]at hc;split at hc
  ·rename_i c' ax ay hcc hx hy;simp only[sJ]at hc;subst hc;simp only[cu]at h;have hv:=aY ht hcc;split at h
   ·rename_i hb;rw[hb]at hv;simp only[ar]at hv;exact wp_cond_true hv (ihx _ hx ρ T T' H H' e a w R ht hd h)
   ·rename_i hb;rw[hb]at hv;simp only[ar]at hv;exact wp_cond_false hv (ihy _ hy ρ T T' H H' e a w R ht hd h)
   ·simp at h
  ·simp at hc
 |block id c ih=>
  intro ac hc ρ T T' H H' e a w R ht hd h;simp only[fY]at hc;split at hc
  ·rename_i ax hx;simp only[sJ]at hc;subst hc;simp only[cu]at h;split at h
   ·rename_i j T1 H1 h1;refine wp_block (wp_mono (ih _ hx ρ T T1 H H1 (.exit j) a w R ht hd h1) ?_);rintro e1 a1 w1 q;have he:=q.1;simp only at he;subst he;cases hb:Nat.beq j id with
    |true=>rw[hb]at h;simp only[cond_true,sJ,pJ]at h;obtain⟨rfl,rfl,rfl⟩:=h;have:=XF hb;simp only[Exit.inBlock,this,if_true];exact⟨rfl,q.2⟩
    |false=>
     rw[hb]at h;simp only[cond_false,sJ,pJ]at h;obtain⟨rfl,rfl,rfl⟩:=h;have:¬j=id:=λe=>by rw[e,Nat.beq_refl]at hb;simp at hb
     simp only[Exit.inBlock,this,if_false];exact q
   ·rename_i e1 T1 H1 hne h1;simp only[sJ,pJ]at h;obtain⟨rfl,rfl,rfl⟩:=h;refine wp_block (wp_mono (ih _ hx ρ T T1 H H1 e1 a w R ht hd h1) ?_);rintro e2 a1 w1 q;cases e1 with
    |normal=>have:=q.1;simp only at this;subst this;exact q
    |exit j=>exact(hne _ rfl).elim
    |ret=>have:=q.1;simp only at this;subst this;exact q
   ·simp at h
  ·simp at hc
 |loop c ih=>
  intro ac hc ρ T T' H H' e a w R ht hd h;simp only[fY]at hc;split at hc
  ·rename_i ax hx;simp only[sJ]at hc; subst hc;simp only[cu]at h;refine wp_loop_rounds k ?_;have key:∀(m:Nat) (T:Tr ae) (H:aa) (ρ1:Pl) (a:Act) (w:World),ρ.le ρ1->cX Prot w0 ρ1 H w->bY ρ1 n T a.tmps->a.defers=ds ->
     oA (cu tb call k ax) m T H=some (e,T',H')->Code.rounds P c (JB P Prot w0 ds ρ n e T' H') m a w:=by
    intro m;induction m with
    |zero=>intro T H ρ1 a w _ _ _ _ h;simp[oA]at h
    |succ m ihm=>
     intro T H ρ1 a w hl R ht hd h;rw[rounds_succ];simp only[oA]at h;split at h
     ·rename_i T1 H1 h1;refine wp_mono (ih _ hx ρ1 T T1 H H1 .normal a w R ht hd h1) ?_;rintro e1 a1 w1 ⟨he,ρ2,hl2,R1,ht1,hd1⟩;simp only at he;subst he;exact ihm T1 H1 ρ2 a1 w1 (Pl.le_trans hl hl2) R1 ht1 hd1 h
     ·rename_i e1 T1 H1 hne h1;simp only[sJ,pJ]at h;obtain⟨rfl,rfl,rfl⟩:=h;refine wp_mono (ih _ hx ρ1 T T1 H H1 e1 a w R ht hd h1) ?_;rintro e2 a1 w1 q;have q':=q.weaken hl;cases e1 with
      |normal=>exact(hne rfl).elim
      |exit id=>have:=q.1;simp only at this;subst this;exact q'
      |ret=>have:=q.1;simp only at this;subst this;exact q'
     ·simp at h
   exact key k T H ρ a w (Pl.le_refl _) R ht hd h
  ·simp at hc
 |exit id=>intro ac hc ρ T T' H H' e a w R ht hd h;simp only[fY,sJ]at hc;subst hc;simp only[cu,sJ,pJ]at h;obtain⟨rfl,rfl,rfl⟩:=h;exact wp_exit ⟨rfl,ρ,Pl.le_refl _,R,ht,hd⟩
 |ret=>intro ac hc ρ T T' H H' e a w R ht hd h;simp only[fY,sJ]at hc;subst hc;simp only[cu,sJ,pJ]at h;obtain⟨rfl,rfl,rfl⟩:=h;exact wp_ret ⟨rfl,ρ,Pl.le_refl _,R,ht,hd⟩
 |_=>intro ac hc ρ T T' H H' e a w R ht hd h;simp only[fY,sJ]at hc;subst hc;simp[vB]at h
def NX{n:Nat}(R:cX Prot w0 ρ H w){T:Tr ae}{tmps:Array Value}(ht:bY ρ n T tmps):∀{rs:List ResultVar} {l:List xR},xL P rs=some l->∀{xs:List ae},qj T H l=some xs ->
  ∃vs:List Value,(rs.mapM (λr=>match r with
   | .tmp t=>Pure.pure (tmps.getD t undef)
   | .cell a t=>do loadVar t (<- asAddr (tmps.getD a undef))):Sem (List Value)).run P w=.ok vs w/\aE ρ xs vs:=by
 intro rs;induction rs with
 |nil=>intro l hc xs h;simp only[xL,sJ]at hc;subst hc;simp only[qj,sJ]at h;subst h;exact⟨[],rfl,by simp[aE]⟩
 |cons r rs ih=>
  intro l hc xs h;cases r with
  |tmp t=>
   simp only[xL]at hc;split at hc
   ·rename_i l' hl;simp only[sJ]at hc;subst hc;simp only[qj]at h;split at h
    ·rename_i ys hy;simp only[sJ]at h;subst h;obtain⟨vs,h1,h2⟩:=ih hl hy;refine⟨tmps.getD t undef::vs,?_,by simp only[aE];exact⟨_,_,rfl,ht.at_ t,h2⟩⟩;simp only[List.mapM_cons,Sem.run_bind,Sem.run_pure,Result.andThen_ok,h1]
    ·simp at h
   ·simp at hc
  |cell a t=>
   simp only[xL]at hc;split at hc
   ·rename_i g k l' hk hl;simp only[sJ]at hc;subst hc;simp only[qj]at h;split at h
    ·rename_i x ys hx hy;simp only[sJ]at h;subst h;obtain⟨vs,h1,h2⟩:=ih hl hy;obtain⟨u,u1,u2⟩:=An (P:=P) R (eB hk) (ht.at_ a) hx;have hp:∃ad,tmps.getD a undef=.pointer (some ad):=by
      have hat:=ht.at_ a;unfold al at hx;split at hx
      ·rename_i ad heq;rw[heq]at hat
       simp only[ar]at hat
       obtain⟨L,_,_,e⟩:=hat
       exact⟨_,e⟩
      ·simp at hx
     obtain⟨ad,had⟩:=hp;refine⟨u::vs,?_,by simp only[aE];exact⟨_,_,rfl,u2,h2⟩⟩;have:(loadVar t ad).run P w=.ok u w:=by rw[had]at u1;simpa[Instr.loadAt,Instr.sureAddr]using u1
     have hA:(asAddr (tmps.getD a undef)).run P w=.ok ad w:=by rw[had];rfl
     simp only[List.mapM_cons,Sem.run_bind,hA,Sem.run_pure,Result.andThen_ok,this,h1]
    ·simp at h
   ·simp at hc
def nz{n:Nat}(R:cX Prot w0 ρ H w){T:Tr ae}{tmps:Array Value}(ht:bY ρ n T tmps){fn:Func}{l:List xR}(hc:xL P fn.results.toList=some l){xs:List ae}(h:qj T H l=some xs) :
  ∃v,(results fn tmps).run P w=.ok v w/\ar ρ (kQ xs) v:=by
 obtain⟨vs,h1,h2⟩:=NX (P:=P) R ht hc h;have hl:=aE.len h2;have hm:(fn.results.mapM (λr=>match r with
   | .tmp t=>Pure.pure (tmps.getD t undef)
   | .cell a t=>do loadVar t (<- asAddr (tmps.getD a undef))):Sem (Array Value)).run P w=.ok vs.toArray w:=by
  rw[Array.mapM_eq_mapM_toList];simp only[Sem.run_map,h1,Result.andThen_ok]
 refine⟨if h:vs.toArray.size=1 then vs.toArray[0]else .tuple vs.toArray,?_,?_⟩
 ·have e:results fn tmps=(fn.results.mapM (λr=>match r with
   | .tmp t=>Pure.pure (tmps.getD t undef)
   | .cell a t=>do loadVar t (<- asAddr (tmps.getD a undef))):Sem (Array Value)) >>= λvs=>Pure.pure (if h:vs.size=1 then vs[0]else .tuple vs):=rfl
  rw[e,Sem.run_bind,hm];rfl
 ·match xs,vs,h2,hl with
  | [x],[v],h2,_=>simp only[aE]at h2;obtain⟨v',r,e,h3,_⟩:=h2;simp only[List.cons.injEq]at e;obtain⟨rfl,rfl⟩:=e;exact h3
  | [],[],h2,_=>simp only[kQ,ar];exact⟨_,rfl,h2⟩
  |x::y::xs,v::u::vs,h2,_=>simp only[kQ,ar];exact⟨_,rfl,h2⟩
def Mx:∀(args:List ae) (vs:List Value) (i:Nat) (T:Tr ae),aE ρ args vs->(∀t,i<=t->T.get t=none) ->
  ∀t,ev (hJ args i T) (.t t)=if t<i then ev T (.t t)else match args[t-i]? with|some x=>x|none=>cF:=by
 intro args;induction args with
 |nil=>
  intro vs i T _ hn t;simp only[hJ];split
  ·rfl
  ·rename_i h;simp[ev,hn t om]
 |cons x r ih=>
  intro vs i T hv hn t;simp only[aE]at hv;obtain⟨v,vs',rfl,h1,h2⟩:=hv;simp only[hJ];rw[ih vs' (i+1) (T.set i x) h2 (λt ht=>by rw[Tr.get_set,if_neg om];exact hn t om) t];by_cases c1:t<i
  ·rw[if_pos om,if_pos c1];simp only[ev,Tr.get_set];rw[if_neg om]
  ·by_cases c2:t=i
   ·subst c2;rw[if_pos om,if_neg c1];simp[ev,Tr.get_set]
   ·rw[if_neg om,if_neg c1,show t-i=(t-(i+1))+1 by omega];simp
def ym{args:List ae}{vs:Array Value}(hv:aE ρ args vs.toList){n:Nat}(hn:args.length<=n):bY ρ n (hJ args 0 .e) (vs++Array.replicate (n-vs.size) undef):=by
 have hl:=aE.len hv;simp only[Array.length_toList]at hl;refine⟨by simp;omega,λt=>?_⟩;rw[Mx args vs.toList 0 .e hv (λ_ _=>rfl) t];rw[if_neg om,Nat.sub_zero];by_cases ht:t<args.length
 ·have hx:args[t]?=some args[t]:=Xx ht;obtain⟨v,h1,h2⟩:=hv.nth _ _ hx;rw[hx];rw[Array.getElem?_toList]at h1;have:(vs++Array.replicate (n-vs.size) undef).getD t undef=v:=by
   rw[Array.getD_eq_getD_getElem?,Array.getElem?_append_left om,h1];rfl
  rw[this];exact h2
 ·have hx:args[t]?=none:=XP om;rw[hx];have:(vs++Array.replicate (n-vs.size) undef).getD t undef=undef:=by
   rw[Array.getD_eq_getD_getElem?,Array.getElem?_append_right om];by_cases h:t-vs.size<n-vs.size
   ·simp[h]
   ·simp[h]
  rw[this];exact iC
def wP {cc : Nat → Code → Option cK} {f : FuncId} {fn : cf} (h : FG P cc f = some fn) : ∃ fc code, P.funcs[f]? = some fc ∧ fc.body = some code ∧ (fc.name == "runtime.NumGoroutine") = false ∧ fc.ntmps = fn.nt ∧ cc fn.nt code = some fn.body ∧ xL P fc.results.toList = some fn.res := by
 unfold FG at h;split at h
 ·rename_i fc hf;split at h
  ·rename_i c hb;cases hn : (fc.name == "runtime.NumGoroutine") with
   |true=>rw[hn]at h;simp at h
   |false=>
    rw[hn]at h;simp only[cond_false]at h;split at h
    ·rename_i b r h1 h2;simp only[sJ]at h;subst h;exact⟨fc,c,hf,hb,hn,rfl,h1,h2⟩
    ·simp at h
  ·simp at h
 ·simp at h
structure Dy(P:Program)(N:oF):Prop where
 body:∀f,N.is f=true->ep P f=true
 run:oE P N.run
end
end Go.Abs
namespace Go.Abs
section
variable {P:Program} {Prot:Gh} {w0:World} {ρ:Pl} {H H':aa} {w:World}
def Qo(P:Program)(call:FuncId->List ae->aa->Option (ae×aa)):Prop:=
 ∀G args H v H',call (3*mT+G) args H=some (v,H')->ep P G=true/\∀Prot w0 ρ w (vs:Array Value),cX Prot w0 ρ H w->aE ρ args vs.toList ->
  CallsD P G vs .returning w λe u' w'=>u'=.returning/\∃ρ' y,ρ.le ρ'/\e=.returned y/\cX Prot w0 ρ' H' w'
def VA(Prot:Gh)(w0:World)(ρ:Pl)(H:aa)(v:ae):Ending->World->Prop:=λe w'=>∃ρ' u,ρ.le ρ'/\e=.returned u/\cX Prot w0 ρ' H w'/\ar ρ' v u
def LX{n:Nat}{c:Code}{l:List aD}{y:bW}(h:Rp P n c=some (l,y)):∃i ops os o x ats t p f,c=.region i ops false/\ops.toList=os++[o]/\o=⟨none,.defer ⟨.value x,#[],ats⟩,t,p,f,none⟩/\dF x=some y/\dL P n ops os=some l:=by
 unfold Rp at h;split at h
 ·rename_i i ops;split at h
  ·rename_i x as ats t p f ho;split at h
   ·rename_i y' l' h1 h2 h3;simp only[sJ,pJ]at h;obtain⟨rfl,rfl⟩:=h;have ha:as=#[]:=Array.toList_inj.1 (by simpa using h1);subst ha;have hne:ops.toList≠[]:=by intro e;rw[e]at ho;simp at ho
    rw[List.getLast?_eq_some_getLast hne,sJ]at ho;exact⟨i,ops,ops.toList.dropLast,_,x,ats,t,p,f,rfl,by rw[<- ho];exact(List.dropLast_concat_getLast hne).symm,rfl,h2,h3⟩
   ·simp at h
  ·simp at h
 ·simp at h
def Jj(hfol:P.follows .mixedOrders=true){tb:FuncId->Bool}(htb:∀f,Nat.blt f mT=true->tb f=true->ep P f=true){call:FuncId->List ae->aa->Option (ae×aa)}(hc:oE P call)(hcD:Qo P call)
  {n k:Nat} {fc:Func} {res:List xR} (hres:xL P fc.results.toList=some res) {xs:List ae}:∀(c:Code) (ac:cK),wQ P n c=some ac->∀(ρ1:Pl) (T T':Tr ae) (H H':aa) (e:JH) (a:Act) (w:World),ρ.le ρ1 ->
   cX Prot w0 ρ1 H w->bY ρ1 n T a.tmps->a.defers=[]->cu tb call k ac T H=some (e,T',H')->(∀i,e≠.exit i)->qj T' H' res=some xs->c.wp P (bodyPostD P fc (VA Prot w0 ρ H' (kQ xs))) a w:=by
 have fq:∀{ρ1:Pl} {T:Tr ae} {H:aa} {a:Act} {w:World},ρ.le ρ1->cX Prot w0 ρ1 H w->bY ρ1 n T a.tmps->qj T H res=some xs->Leaves P fc a.tmps (VA Prot w0 ρ H (kQ xs)) [] .returning w:=by intro ρ1 T H a w hle R ht hx;obtain⟨v,r1,r2⟩:=nz (P:=P) R ht hres hx;exact⟨v,r1,ρ1,v,hle,rfl,R,r2⟩
 intro c;induction c with
 |seq x z ihx ihz=>
  intro ac hac ρ1 T T' H H' e a w hle R ht hd h hne hxs;simp only[wQ]at hac;split at hac
  ·rename_i l y hdf;split at hac
   ·rename_i b hb;simp only[sJ]at hac;subst hac;obtain⟨i,ops,os,o,xo,ats,ty,ps,af,rfl,hops,rfl,hy,hl⟩:=LX hdf;simp only[cu]at h;cases h1:gw tb call l T H with
    |none=>rw[h1]at h;simp at h
    |some q=>
    obtain⟨T1,H1⟩:=q;rw[h1]at h;simp only at h;split at h
    ·rename_i g cs hg;split at h
     ·simp at h
     ·rename_i e2 T2 H2 hne2 h2;split at h
      ·rename_i v H3 h3;simp only[sJ,pJ]at h;obtain⟨rfl,rfl,rfl⟩:=h;have hsz:ops.size=os.length+1:=by have:=congrArg List.length hops;simpa using this
       have hat:∀j,j<os.length->os[j]?=ops[0+j]?:=λj hj=>by
        have:ops.toList[j]?=os[j]?:=by rw[hops,XN hj]
        rw[<- this,Nat.zero_add];simp
       have hlast:ops[os.length]?=some ⟨none,.defer ⟨.value xo,#[],ats⟩,ty,ps,af,none⟩:=by
        have:ops.toList[os.length]?=some ⟨none,.defer ⟨.value xo,#[],ats⟩,ty,ps,af,none⟩:=by rw[hops];simp
        simpa using this
       refine wp_seq (wp_region ?_);rw[List.range_eq_range',hsz,<- List.range'_append_1,List.range'_one,Nat.zero_add];refine BU (Prot:=Prot) (w0:=w0) (ds:=[]) htb hc os 0 l hat hl ρ1 ρ1 T T1 H H1 a w (Pl.le_refl _) R ht hd h1 ?_;rintro a1 w1 ⟨ρ2,q1,R2,t2,d2⟩;have hx:=aY t2 hy;rw[hg]at hx;simp only[ar]at hx;obtain⟨fv,cap,hfv,hv1,hv2⟩:=hx;simp only[aE]at hv1;have hfv0:fv=#[]:=Array.toList_inj.1 (by simpa using hv1);subst hfv0;have hrun:(execOp a1.eval ⟨none,.defer ⟨.value xo,#[],ats⟩,ty,ps,af,none⟩).run P w1=.ok (.defer { target:=.fn (.func g) cap,args:=#[] }) w1:=by simp[execOp,resolve,hfv,Deferred.ofValue]
       simp only[wpOps,hlast];rw[if_pos (by simp[Region.wanted])];left;simp only[Oper.wp,hrun,Oper.upon];refine wp_mono (nW hfol (Prot:=Prot) (w0:=w0) (ds:=[{ target:=.fn (.func g) cap,args:=#[] }]) htb hc _ _ hb ρ2 _ _ _ _ e2 _ w1 R2 t2 (by simp[Act.put,d2]) h2) ?_;rintro e' a' w' ⟨he,ρ3,q3,R3,t3,d3⟩;have hL:Leaves P fc a'.tmps (VA Prot w0 ρ H3 (kQ xs)) a'.defers .returning w':=by rw[d3];obtain⟨b1,b2⟩:=hcD g cs H2 v H3 h3;refine⟨by simp,.func g,cap,g,#[]++cap,rfl,nZ b1 _,?_⟩;refine(b2 Prot w0 ρ3 w' (#[]++cap) R3 (by simpa using aE.mono q3 _ _ hv2)).mono ?_;rintro e' u' w' ⟨rfl,ρ4,y,q4,rfl,R4⟩;exact fq (Pl.le_trans hle (Pl.le_trans q1 (Pl.le_trans q3 q4))) R4 (t3.mono q4) hxs
       cases e2 with
       |normal=>simp only at he;subst he;exact hL
       |exit i=>exact(hne2 _ rfl).elim
       |ret=>simp only at he;subst he;exact hL
      ·simp at h
     ·simp at h
    ·simp at h
   ·simp at hac
  ·split at hac
   ·rename_i b hb;split at hac
    ·rename_i b' ha;simp only[sJ]at hac;subst hac;simp only[cu]at h;split at h
     ·rename_i T1 H1 h1;refine wp_seq (wp_mono (nW hfol (Prot:=Prot) (w0:=w0) (ds:=[]) htb hc _ _ ha ρ1 T T1 H H1 .normal a w R ht hd h1) ?_);rintro e1 a1 w1 ⟨he,ρ2,hl,R1,ht1,hd1⟩;simp only at he;subst he;exact ihz _ hb ρ2 T1 T' H1 H' e a1 w1 (Pl.le_trans hle hl) R1 ht1 hd1 h hne hxs
     ·rename_i e1 T1 H1 hn1 h1;simp only[sJ,pJ]at h;obtain⟨rfl,rfl,rfl⟩:=h;refine wp_seq (wp_mono (nW hfol (Prot:=Prot) (w0:=w0) (ds:=[]) htb hc _ _ ha ρ1 T T1 H H1 e1 a w R ht hd h1) ?_);rintro e2 a1 w1 ⟨he,ρ2,hl,R1,ht1,hd1⟩;cases e1 with
      |normal=>exact(hn1 rfl).elim
      |exit id=>exact(hne _ rfl).elim
      |ret=>simp only at he;subst he;show Leaves P fc a1.tmps _ a1.defers .returning w1;rw[hd1];exact fq (Pl.le_trans hle hl) R1 ht1 hxs
     ·simp at h
    ·simp at hac
   ·simp at hac
 |_=>intro ac hac;simp[wQ]at hac
def zE{N:oF}{tab:Tr cf}{n:Nat}{f:FuncId}{args:List ae}{v:ae}(hi:N.is f=false)(h:d6 N tab (n+1) f args H=some (v,H')) :
  ∃fn e T xs,tab.get f=some fn/\args.length<=fn.nt/\cu (DZ N tab) (d6 N tab n) n fn.body (hJ args 0 .e) H=some (e,T,H')/\(∀i,e≠.exit i)/\qj T H' fn.res=some xs/\v=kQ xs:=by
 simp only[d6,hi,cond_false]at h;split at h
 ·rename_i fn hf;cases hb:Nat.ble args.length fn.nt with
  |false=>rw[hb]at h;simp at h
  |true=>
   rw[hb]at h;simp only[cond_true]at h;split at h
   ·simp at h
   ·rename_i e T H1 hne hx;split at h
    ·rename_i xs hxs;simp only[sJ,pJ]at h;obtain⟨rfl,rfl⟩:=h;exact⟨fn,e,T,xs,hf,XD hb,hx,λi q=>hne i q,hxs,rfl⟩
    ·simp at h
   ·simp at h
 ·simp at h
def Mo{a b:Nat}(h:Nat.blt a b=true):a<b:=XD h
def mC(a b:Nat):Nat.blt a b=decide (a<b):=by
 cases h:Nat.blt a b with
 |true=>exact(decide_eq_true (Mo h)).symm
 |false=>exact(decide_eq_false λq=>by rw[show Nat.blt a b=true from Xz q]at h;simp at h).symm
def Qb{f:Nat}(hf:Nat.blt f mT=true):DJ P f=FG P (Mj P) f:=by unfold DJ;rw[hf];rfl
def Up{f:Nat}{fn:cf}(h:DJ P (3*mT+f)=some fn):Nat.blt f mT=true/\FG P (fY P) f=some fn:=by
 unfold DJ at h;rw[mC,mC,mC,decide_eq_false om,decide_eq_false om]at h;simp only[cond_false,Nat.add_sub_cancel_left]at h;by_cases hf:f<mT
 ·rw[decide_eq_true om]at h;exact⟨by rw[mC];exact decide_eq_true hf,h⟩
 ·rw[decide_eq_false om]at h;simp at h
def HE{cc:Nat->Code->Option cK}{f:Nat}(hf:Nat.blt f mT=true){fn:cf}(h:FG P cc f=some fn):ep P f=true:=by obtain⟨fc,c,h1,h2,h3,_⟩:=wP h;simp[ep,hf,h1,h2,h3]
def Jz(hfol:P.follows .mixedOrders=true){N:oF}(hN:Dy P N){tab:Tr cf}(hT:M0 P tab):∀n,oE P (d6 N tab n)/\Qo P (d6 N tab n):=by
 have htb:∀f,Nat.blt f mT=true->DZ N tab f=true->ep P f=true:=by
  intro f hf h;unfold DZ at h;cases hi:N.is f with
  |true=>exact hN.body f hi
  |false=>
   rw[hi]at h;simp only[cond_false]at h;split at h
   ·rename_i fn hg;have:=hT _ _ hg;rw[Qb hf]at this;exact HE hf this
   ·simp at h
 intro n;induction n with
 |zero=>exact⟨λf args H v H' _ h=>by simp[d6]at h,λf args H v H' h=>by simp[d6]at h⟩
 |succ n ih=>
  obtain⟨i1,i2⟩:=ih;refine⟨λf args H v H' hf h Prot w0 ρ w vs R hv=>?_,λG args H v H' h=>?_⟩
  ·cases hi:N.is f with
   |true=>simp only[d6,hi,cond_true]at h;exact hN.run f args H v H' hf h Prot w0 ρ w vs R hv
   |false=>
    obtain⟨fn,e,T,xs,hg,hl,hx,hne,hxs,rfl⟩:=zE hi h;have he:=hT _ _ hg;rw[Qb hf]at he;obtain⟨fc,c,h1,h2,h3,h4,h5,h6⟩:=wP he;have hst:=ym (ρ:=ρ) hv hl;unfold Mj at h5;split at h5
    ·rename_i b hb;simp only[sJ]at h5;subst h5;refine(calls_of_wp_defers h1 h2 (R:=VA Prot w0 ρ H' (kQ xs)) ?_).mono ?_
     ·rw[h4];exact Jj hfol htb i1 i2 h6 c _ hb ρ _ T H H' e _ w (Pl.le_refl _) R hst rfl hx hne hxs
     ·rintro e' w' ⟨ρ',u,r1,r2,r3,r4⟩;exact⟨ρ',u,r1,r2,r3,r4⟩
    ·refine calls_of_wp h1 h2 ?_;rw[h4];refine wp_mono (nW hfol (Prot:=Prot) (w0:=w0) (ds:=[]) htb i1 _ _ h5 ρ _ T H H' e _ w R hst rfl hx) ?_;rintro e' a' w' ⟨he,ρ',hl,R',ht',hd'⟩;obtain⟨u,r1,r2⟩:=nz (P:=P) R' ht' h6 hxs;cases e with
     |normal=>simp only at he;subst he;exact⟨hd',u,r1,ρ',u,hl,rfl,R',r2⟩
     |exit id=>exact(hne _ rfl).elim
     |ret=>simp only at he;subst he;exact⟨hd',u,r1,ρ',u,hl,rfl,R',r2⟩
  ·have hi:N.is (3*mT+G)=false:=by
    cases hi:N.is (3*mT+G)with
    |false=>rfl
    |true=>have:=hN.body _ hi;simp only[ep,XA]at this;have:=Mo this.1;omega
   obtain⟨fn,e,T,xs,hg,hl,hx,hne,hxs,rfl⟩:=zE hi h;obtain⟨hf,he⟩:=Up (hT _ _ hg);refine⟨HE hf he,λProt w0 ρ w vs R hv=>?_⟩;obtain⟨fc,c,h1,h2,h3,h4,h5,h6⟩:=wP he;have hst:=ym (ρ:=ρ) hv hl;refine(callsD_of_wp (u:=.returning) (R:=VA Prot w0 ρ H' (kQ xs)) h1 h2 ?_).mono ?_
   ·rw[h4];refine wp_mono (nW hfol (Prot:=Prot) (w0:=w0) (ds:=[]) htb i1 _ _ h5 ρ _ T H H' e _ w R hst rfl hx) ?_;rintro e' a' w' ⟨he,ρ',hl,R',ht',hd'⟩;obtain⟨u,r1,r2⟩:=nz (P:=P) R' ht' h6 hxs;cases e with
    |normal=>simp only at he;subst he;exact⟨hd',u,r1,ρ',u,hl,rfl,R',r2⟩
    |exit id=>exact(hne _ rfl).elim
    |ret=>simp only at he;subst he;exact⟨hd',u,r1,ρ',u,hl,rfl,R',r2⟩
   ·rintro e' u' w' ⟨rfl,ρ',y,r1,rfl,r2,_⟩;exact⟨rfl,ρ',y,r1,rfl,r2⟩
def MP(hfol:P.follows .mixedOrders=true){N:oF}(hN:Dy P N){tab:Tr cf}(hT:M0 P tab)(n:Nat):oE P (d6 N tab n):=(Jz hfol hN hT n).1
end
end Go.Abs
namespace Go.Abs
section
variable {P:Program}
def H0:aa:=⟨0,.e⟩
def cX.below{w0:World}{ρ:Pl}{H:aa}{w:World}(R:cX ⟨λc=>c<w0.heap.size,λ_=>False⟩ w0 ρ H w):RowKit.Below w0.heap.size w0 w:=⟨R.os,R.tape,R.output,R.size,λk hk=>(R.prot k hk).2⟩
end
end Go.Abs
