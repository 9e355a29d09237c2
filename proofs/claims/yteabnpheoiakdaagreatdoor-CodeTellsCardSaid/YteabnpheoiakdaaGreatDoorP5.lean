/- Part of a proof (S1 S2 S3 S4 S5 N0 S6 S7 S8 S9 S10 S11 S12 S15 S13 S16 S17 S14 S18 S19 S20 S21 S22 S23 S24); no condition. -/
import Derived.IntWalk
import Derived.Below
import Derived.OpenShut
import Derived.ChangeSlices
import Derived.WideShapes
import Derived.SizedLaws
import Derived.ChangeArms
import Derived.ChangeSame
import Derived.Test.YteabnpheoiakdaaGreatDoorP4
set_option linter.unusedSimpArgs false
set_option linter.unusedVariables false
set_option linter.defProp false
set_option linter.unnecessarySimpa false
namespace Go.Abs.S
open Go.Abs
abbrev bZ:=Nat->ae
def en(T:Tr ae):bZ:=λi=>ev T (.t i)
def up(T:bZ)(i:Nat)(v:ae):bZ:=λj=>bif Nat.beq j i then v else T j
def kl(T:bZ):Option Nat->ae->bZ
 |some d,v=>up T d v
 |none,_=>T
def LS(T:Tr ae)(i:Nat)(v:ae):en (T.set i v)=up (en T) i v:=by
 funext j;simp only[en,up,ev,Tr.get_set,ch];by_cases h:j=i
 ·rw[if_pos h,decide_eq_true h];rfl
 ·rw[if_neg h,decide_eq_false h];rfl
def Fo(T:Tr ae)(d:Option Nat)(v:ae):en (ko T d v)=kl (en T) d v:=by cases d<;>simp only[ko,kl,LS]
def sX(T:bZ):bW->ae
 | .t i=>T i
 | .c v=>v
 | .f id=>.func (.func id) [] []
def lC(T:bZ):List bW->List ae
 | []=>[]
 |x::r=>sX T x::lC T r
def kB(T:bZ):Option bW->Option ae
 |none=>none
 |some x=>some (sX T x)
def rY(T:bZ):List (Nat×Nat×bW)->List (Nat×Nat×ae)
 | []=>[]
 |(o,n,x)::r=>(o,n,sX T x)::rY T r
def qH(T:Tr ae)(x:bW):sX (en T) x=ev T x:=by cases x<;>rfl
def zZ(T:Tr ae):∀l:List bW,lC (en T) l=pF T l
 | []=>rfl
 |x::r=>by simp only[lC,pF,qH,zZ T r]
def QL(T:Tr ae)(x:Option bW):kB (en T) x=Hm T x:=by cases x<;>simp only[kB,Hm,qH]
def Ko(T:Tr ae):∀l:List (Nat×Nat×bW),rY (en T) l=Jg T l
 | []=>rfl
 |(o,n,x)::r=>by simp only[rY,Jg,qH,Ko T r]
abbrev Sm(b:Bool):ae->Bool:=VN b
def sG(T:bZ):Option (Nat×Bool)->Bool
 |none=>true
 |some (t,b)=>Sm b (T t)
def Kp(T:Tr ae)(g:Option (Nat×Bool)):sG (en T) g=pm T g:=by
 cases g with
 |none=>rfl
 |some p=>rfl
def PW(T:bZ)(t:Nat)(b:Bool):sG T (some (t,b))=Sm b (T t):=rfl
def dW{α:Type}(o:Option α)(K:α->Prop):Prop:=∃v,o=some v/\K v
def aQ{α:Type}(x:α)(K:α->Prop):dW (some x) K=K x:=by simp[dW]
def dW.mono{α:Type}{o:Option α}{K K':α->Prop}(h:dW o K)(hk:∀v,K v->K' v):dW o K':=by obtain⟨v,h1,h2⟩:=h;exact⟨v,h1,hk v h2⟩
abbrev CS:=FuncId->List ae->aa->(ae->aa->Prop)->Prop
section
variable (C:CS)
def Is(T:bZ)(H:aa)(K:ae->aa->Prop):jz->Prop
 | .mv x=>K (sX T x) H
 | .pick c a b=>∃b',sX T c=.bool b'/\K (bif b' then sX T a else sX T b) H
 | .new z=>K (ga H z).1 (ga H z).2
 | .box x=>K (ga H (sX T x).cells).1 (ga H (sX T x).cells).2
 | .build z ps=>dW (aJ z (rY T ps)) λv=>K v H
 | .buildSl n z ps=>dW (aL n z H (rY T ps)) λp=>K p.1 p.2
 | .load a n x=>dW (al a n H (sX T x)) λv=>K v H
 | .store n a x=>dW (bh n H (sX T a) (sX T x)) λH'=>K cF H'
 | .nilChk x=>dW (dt (sX T x)) λv=>K v H
 | .bin op x y=>dW (cT op (sX T x) (sX T y)) λv=>K v H
 | .un op x=>dW (MQ op (sX T x)) λv=>K v H
 | .conv k x=>dW (uj k (sX T x)) λv=>K v H
 | .convSB x=>dW (RZ H (sX T x)) λp=>K p.1 p.2
 | .convBS x=>dW (FX H (sX T x)) λv=>K v H
 | .mkFunc fn a b=>K (.func fn (lC T a) (lC T b)) H
 | .mkIface t x=>K (.iface t (sX T x)) H
 | .mkSlice b z l c=>dW (Ij b z H (sX T l) (sX T c)) λp=>K p.1 p.2
 | .sl n x lo hi mx=>dW (Ii n (sX T x) (kB T lo) (kB T hi) (kB T mx)) λv=>K v H
 | .slStr x lo hi=>dW (eU (sX T x) (kB T lo) (kB T hi)) λv=>K v H
 | .fieldA o x=>dW (jq o (sX T x)) λv=>K v H
 | .field a n o x=>dW (pg a n o (sX T x)) λv=>K v H
 | .idxA n x i=>dW (jk n (sX T x) (sX T i)) λv=>K v H
 | .idxArr m n x i=>dW (kU m n (sX T x) (sX T i)) λv=>K v H
 | .idx m n a x i=>dW (Dt m n a (sX T x) (sX T i)) λv=>K v H
 | .idxS x i=>dW (lU (sX T x) (sX T i)) λv=>K v H
 | .extract i x=>dW (gA i (sX T x)) λv=>K v H
 | .append n b s x=>dW (a8 n b H (sX T s) (sX T x)) λp=>K p.1 p.2
 | .len s x=>dW (ez s (sX T x)) λv=>K v H
 | .call f args=>C f (lC T args) H K
 | .callv f args=>∃g a b,sX T f=.func (.func g) a b/\Nat.blt g mT=true/\C g (a++lC T args++b) H K
 | .pf f xs=>dW (mV f (lC T xs)) λv=>K v H
 | .hf f xs=>dW (kj f H (lC T xs)) λp=>K p.1 p.2
 | .bad=>False
 | .claim b z s=>dW (ec H b z s) λv=>K v H
 | .slA m n x lo hi mx=>dW (j9 m n (sX T x) (kB T lo) (kB T hi) (kB T mx)) λv=>K v H
def bM:List aD->bZ->aa->(bZ->aa->Prop)->Prop
 | [],T,H,K=>K T H
 |o::r,T,H,K=>bif sG T o.guard then Is C T H (λv H'=>bM r (kl T o.dst v) H' K) o.op else bM r (kl T o.dst cF) H K
def fV:List aD->bZ->aa->(List (ae×aa)->bZ->aa->Prop)->Prop
 | [],T,H,K=>K [] T H
 |o::r,T,H,K=>bif sG T o.guard then Is C T H (λv H'=>fV r (kl T o.dst v) H' λss=>K ((v,H')::ss)) o.op else fV r (kl T o.dst cF) H λss=>K ((cF,H)::ss)
end
def T5(T:bZ)(H:aa):jz->Option ae
 | .load a n x=>al a n H (sX T x)
 | .claim b z s=>ec H b z s
 |_=>none
def DC(hs:List aa):List aD->List (List Nat)->List (ae×aa)->bZ->Prop
 |o::os,ps::pss,(v,_)::ss,T=>(∀p∈ps,∃Hp,hs[p]?=some Hp/\(sG T o.guard=true->∃u,T5 T Hp o.op=some u/\aeq u v=true))/\DC hs os pss ss (kl T o.dst v)
 |_,_,_,_=>True
def Gc(C:CS)(l:List aD)(chk:List (List Nat))(T:bZ)(H:aa)(K:bZ->aa->Prop):Prop:=fV C l T H λss T' H'=>DC (H::ss.map (·.2)) l chk ss T/\K T' H'
abbrev pq:=JH->bZ->aa->Prop
def nM(id:Nat)(Q:pq):pq:=λe T H=>match e with
 | .exit j=>bif Nat.beq j id then Q .normal T H else Q (.exit j) T H
 |e=>Q e T H
def nI(Q:pq)(K:bZ->aa->Prop):pq:=λe T H=>match e with
 | .normal=>K T H
 |e=>Q e T H
def Cx(K:bZ->aa->Prop):pq:=λe T H=>match e with
 | .exit _=>False
 |_=>K T H
def wp(C:CS):cK->pq->bZ->aa->Prop
 | .skip,Q,T,H=>Q .normal T H
 | .reg ops,Q,T,H=>bM C ops T H (Q .normal)
 | .draw ops chk,Q,T,H=>Gc C (aH H.next ops) chk T (bp H ops) (Q .normal)
 | .seq a b,Q,T,H=>wp C a (nI Q (wp C b Q)) T H
 | .cond c a b,Q,T,H=>∃v,sX T c=.bool v/\bif v then wp C a Q T H else wp C b Q T H
 | .block id c,Q,T,H=>wp C c (nM id Q) T H
 | .loop c,Q,T,H=>∃(I:Nat->bZ->aa->Prop),(∃m,I m T H)/\∀m T H,I m T H->wp C c (nI Q λT' H'=>∃m',m'<m/\I m' T' H') T H
 | .exit id,Q,T,H=>Q (.exit id) T H
 | .ret,Q,T,H=>Q .ret T H
 | .dfr y b,Q,T,H=>∃g l,sX T y=.func (.func g) [] l/\wp C b (Cx λT' H'=>C (3*mT+g) l H' λ_ H''=>Q .ret T' H'') T H
section
variable {tb:FuncId->Bool}
def Nq(c d:FuncId->List ae->aa->Option (ae×aa)):Prop:=∀f a H r,c f a H=some r->d f a H=some r
def Nq.refl(c):Nq c c:=λ_ _ _ _ h=>h
def mE{c d}(h:Nq c d){o:aD}{T:Tr ae}{H:aa}{r}(e:dh tb c o T H=some r):dh tb d o T H=some r:=by
 unfold dh at e ⊢;cases hg:pm T o.guard with
 |false=>rw[hg]at e;exact e
 |true=>
  rw[hg]at e;simp only[cond_true]at e ⊢;split at e
  ·exact e
  ·exact h _ _ _ _ e
  ·simp at e
def qk{c d}(h:Nq c d):∀(l:List aD) {T:Tr ae} {H:aa} {r},gw tb c l T H=some r->gw tb d l T H=some r
 | [],_,_,_,e=>e
 |o::l,T,H,r,e=>by
  have hs:∀c,gw tb c (o::l) T H=match dh tb c o T H with|some (v,H')=>gw tb c l (ko T o.dst v) H'|none=>none:=by
   intro c;simp only[gw,dh];cases pm T o.guard with
   |false=>rfl
   |true=>
    simp only[cond_true];cases dZ tb T H o.op with
    |none=>rfl
    |some p=>obtain⟨nx,H'⟩:=p;cases nx<;>rfl
  rw[hs]at e ⊢;split at e
  ·rename_i v H' hv;rw[mE h hv];exact qk h l e
  ·simp at e
def ov{c d}(h:Nq c d):∀(l:List aD) {T:Tr ae} {H:aa} {r},eG tb c l T H=some r->eG tb d l T H=some r
 | [],_,_,_,e=>e
 |o::l,T,H,r,e=>by
  simp only[eG]at e ⊢;split at e
  ·rename_i v H' hv;rw[mE h hv];split at e
   ·rename_i s hs;simp only[ov h l hs];exact e
   ·simp at e
  ·simp at e
def qo{f g:Tr ae->aa->Option (JH×Tr ae×aa)}(h:∀T H r,f T H=some r->g T H=some r):∀(n m:Nat) (T:Tr ae) (H:aa) (r),n<=m->oA f n T H=some r->oA g m T H=some r
 |0,_,_,_,_,_,e=>by simp[oA]at e
 |n+1,0,_,_,_,hl,_=>om
 |n+1,m+1,T,H,r,hl,e=>by
  simp only[oA]at e ⊢;split at e
  ·rename_i T' H' hv;rw[h _ _ _ hv];exact qo h n m T' H' r om e
  ·rename_i e' T' H' hne hv;rw[h _ _ _ hv];cases e' with
   |normal=>exact absurd rfl hne
   |exit i=>exact e
   |ret=>exact e
  ·simp at e
def gL{c d}(h:Nq c d){k k':Nat}(hk:k<=k'):∀(x:cK) (T:Tr ae) (H:aa) (r),cu tb c k x T H=some r->cu tb d k' x T H=some r:=by
 intro x;induction x with
 |skip=>intro T H r e;exact e
 |reg l=>
  intro T H r e;simp only[cu]at e ⊢;split at e
  ·rename_i T' H' hv;rw[qk h l hv];exact e
  ·simp at e
 |draw l chk=>
  intro T H r e;simp only[cu,Dr]at e ⊢;split at e
  ·rename_i ss hv;rw[ov h _ hv];exact e
  ·simp at e
 |seq a b iha ihb=>
  intro T H r e;simp only[cu]at e ⊢;split at e
  ·rename_i T' H' hv;rw[iha _ _ _ hv];exact ihb _ _ _ e
  ·rename_i e' T' H' hne hv;rw[iha _ _ _ hv];cases e' with
   |normal=>exact absurd rfl hne
   |exit i=>exact e
   |ret=>exact e
  ·simp at e
 |cond c a b iha ihb=>
  intro T H r e;simp only[cu]at e ⊢;split at e
  ·exact iha _ _ _ e
  ·exact ihb _ _ _ e
  ·simp at e
 |block id c ih=>
  intro T H r e;simp only[cu]at e ⊢;split at e
  ·rename_i j T' H' hv;rw[ih _ _ _ hv];exact e
  ·rename_i e' T' H' hne hv;rw[ih _ _ _ hv];cases e' with
   |exit i=>exact absurd rfl (hne i)
   |normal=>exact e
   |ret=>exact e
  ·simp at e
 |loop c ih=>intro T H r e;simp only[cu]at e ⊢;exact qo (λT H r hr=>ih T H r hr) k k' T H r hk e
 |exit id=>intro T H r e;exact e
 |ret=>intro T H r e;exact e
 |dfr y b ih=>
  intro T H r e;simp only[cu]at e ⊢;split at e
  ·split at e
   ·simp at e
   ·rename_i e' T' H' hne hv;rw[ih _ _ _ hv];split at e
    ·rename_i v H'' hc;cases e' with
     |exit i=>exact(hne i rfl).elim
     |normal=>simp only[h _ _ _ _ hc];exact e
     |ret=>simp only[h _ _ _ _ hc];exact e
    ·simp at e
   ·simp at e
  ·simp at e
def ui{N:oF}{tab:Tr cf}:∀(n:Nat),Nq (d6 N tab n) (d6 N tab (n+1))
 |0=>λf a H r e=>by simp[d6]at e
 |n+1=>λf a H r e=>by
  have ih:=ui (N:=N) (tab:=tab) n;rw[d6]at e ⊢;cases hn:N.is f with
  |true=>rw[hn]at e;exact e
  |false=>
   rw[hn]at e;simp only[cond_false]at e ⊢;split at e
   ·rename_i fn hf;cases hb:Nat.ble a.length fn.nt with
    |false=>rw[hb]at e;simp at e
    |true=>
     rw[hb]at e;simp only[cond_true]at e ⊢;split at e
     ·simp at e
     ·rename_i e' T' H' hne hv;rw[gL ih (Nat.le_succ n) _ _ _ _ hv];cases e' with
      |exit i=>exact(hne i rfl).elim
      |normal=>exact e
      |ret=>exact e
     ·simp at e
   ·simp at e
def dV{N:oF}{tab:Tr cf}{n m:Nat}(h:n<=m):Nq (d6 N tab n) (d6 N tab m):=by
 induction m with
 | zero => obtain rfl : n = 0 := by omega
           exact Nq.refl _
 |succ m ih=>
  by_cases e:n=m+1
  ·subst e;exact Nq.refl _
  ·exact λf a H r hr=>ui m _ _ _ _ (ih om _ _ _ _ hr)
end
end Go.Abs.S
namespace Go.Abs.S
open Go.Abs
def J7(P:Program):Nat->Tr cf
 |0=>.e
 |n+1=>match DJ P n with
  |some c=>(J7 P n).set n c
  |none=>J7 P n
def jm(P:Program):Tr cf:=J7 P (4*mT)
def qD(P:Program):∀(n f:Nat),(J7 P n).get f=if f<n then DJ P f else none
 |0,f=>by rw[if_neg om];cases f<;>rfl
 |n+1,f=>by
  simp only[J7];by_cases e:f=n
  ·subst e;rw[if_pos om];cases hc:DJ P f with
   |none=>rw[qD P f f,if_neg om]
   |some c=>rw[Tr.get_set,if_pos rfl]
  ·have hx:(if f<n+1 then DJ P f else none)=if f<n then DJ P f else none:=by
    by_cases h:f<n
    ·rw[if_pos h,if_pos om]
    ·rw[if_neg h,if_neg om]
   rw[hx,<- qD P n f];cases DJ P n with
   |none=>rfl
   |some c=>rw[Tr.get_set,if_neg e]
def NL(P:Program):M0 P (jm P):=by
 intro f fn h;rw[jm,qD]at h;split at h
 ·exact h
 ·simp at h
def J6{P:Program}{f:Nat}{c:cf}(h:DJ P f=some c):(jm P).get f=some c:=by
 have hf:f<4*mT:=by
  unfold DJ at h;rw[mC,mC,mC]at h;by_cases h4:f<4*mT
  ·exact h4
  ·rw[decide_eq_false om,decide_eq_false om,decide_eq_false h4]at h;simp at h
 rw[jm,qD,if_pos hf,h]
def aq(P:Program)(N:oF)(f:FuncId)(args:List ae)(H:aa)(K:ae->aa->Prop):Prop:=∃n v H',d6 N (jm P) n f args H=some (v,H')/\K v H'
def aq.mono{P:Program}{N:oF}{f:FuncId}{args:List ae}{H:aa}{K K':ae->aa->Prop}(h:aq P N f args H K)(hk:∀v H',K v H'->K' v H'):aq P N f args H K':=by obtain⟨n,v,H',h1,h2⟩:=h;exact⟨n,v,H',h1,hk _ _ h2⟩
section
variable {P:Program} {N:oF}
def Ds{n:Nat}{f:FuncId}{args:List ae}{H:aa}{r}(h:d6 N (jm P) n f args H=some r):DZ N (jm P) f=true:=by
 cases n with
 |zero=>simp[d6]at h
 |succ n=>
  rw[d6]at h;unfold DZ;cases hn:N.is f with
  |true=>rfl
  |false=>
   rw[hn]at h;simp only[cond_false]at h ⊢;cases ht:(jm P).get f with
   |none=>rw[ht]at h;simp at h
   |some c=>rfl
def Ir{T:Tr ae}{H:aa}{o:jz}{K:ae->aa->Prop}(h:Is (aq P N) (en T) H K o) :
  (∃v H',dZ (DZ N (jm P)) T H o=some (.val v,H')/\K v H')∨(∃f args H' n v H'',dZ (DZ N (jm P)) T H o=some (.enter f args,H')/\d6 N (jm P) n f args H'=some (v,H'')/\K v H''):=by
 cases o
 case call f args=>right;simp only[Is,zZ]at h;obtain⟨n,v,H',h1,h2⟩:=h;exact⟨f,_,H,n,v,H',by simp only[dZ,Ds h1,cond_true],h1,h2⟩
 case callv f args=>right;simp only[Is,qH,zZ]at h;obtain⟨g,a,b,hf,hgb,n,v,H',h1,h2⟩:=h;exact⟨g,_,H,n,v,H',by simp only[dZ,hf,hgb,Ds h1,Bool.and_true,cond_true],h1,h2⟩
 case pick c a b=>simp only[Is,qH]at h;obtain⟨b',h1,h2⟩:=h;exact .inl ⟨_,_,by simp only[dZ,h1],h2⟩
 case bad=>simp[Is]at h
 all_goals
  left;simp only[Is,qH,zZ,QL,Ko,dW]at h
  first
   |exact⟨_,_,rfl,h⟩
   | (obtain ⟨v, h1, h2⟩ := h
      refine⟨_, _, ?_, h2⟩;simp only [dZ, h1];try rfl)
def tI{T:Tr ae}{H:aa}{o:aD}{K:ae->aa->Prop}(h:Is (aq P N) (en T) H K o.op)(hg:pm T o.guard=true) :
  ∃n v H',dh (DZ N (jm P)) (d6 N (jm P) n) o T H=some (v,H')/\K v H':=by
 rcases Ir h with⟨v,H',h1,h2⟩|⟨f,args,H',n,v,H'',h1,h2,h3⟩
 ·exact⟨0,v,H',by simp only[dh,hg,cond_true,h1],h2⟩
 ·exact⟨n,v,H'',by simp only[dh,hg,cond_true,h1,h2],h3⟩
def FR(tb:FuncId->Bool)(c)(o:aD)(l:List aD)(T:Tr ae)(H:aa):gw tb c (o::l) T H=match dh tb c o T H with|some (v,H')=>gw tb c l (ko T o.dst v) H'|none=>none:=by
 simp only[gw,dh];cases pm T o.guard with
 |false=>rfl
 |true=>
  simp only[cond_true];cases dZ tb T H o.op with
  |none=>rfl
  |some p=>obtain⟨nx,H'⟩:=p;cases nx<;>rfl
def tJ:∀(l:List aD) {T:Tr ae} {H:aa} {K:bZ->aa->Prop},bM (aq P N) l (en T) H K ->
  ∃n T' H',gw (DZ N (jm P)) (d6 N (jm P) n) l T H=some (T',H')/\K (en T') H'
 | [],T,H,K,h=>⟨0,T,H,rfl,h⟩
 |o::l,T,H,K,h=>by
  simp only[bM,Kp]at h;have:∃n v H',dh (DZ N (jm P)) (d6 N (jm P) n) o T H=some (v,H')/\bM (aq P N) l (kl (en T) o.dst v) H' K:=by
   cases hg:pm T o.guard with
   |true=>rw[hg]at h;exact tI h hg
   |false=>rw[hg]at h;exact⟨0,cF,H,by simp only[dh,hg,cond_false],h⟩
  obtain⟨n,v,H',h1,h2⟩:=this;rw[<- Fo]at h2;obtain⟨m,T2,H2,h3,h4⟩:=tJ l h2;refine⟨max n m,T2,H2,?_,h4⟩;rw[FR,mE (dV (Nat.le_max_left n m)) h1];exact qk (dV (Nat.le_max_right n m)) l h3
def xY:∀(l:List aD) {T:Tr ae} {H:aa} {K:List (ae×aa)->bZ->aa->Prop},fV (aq P N) l (en T) H K->∀j,
  ∃n ss,eG (DZ N (jm P)) (d6 N (jm P) n) l T H=some ss/\K ss (en (cx (λ_=>true) j l ss T)) (fX H ss l.length)
 | [],T,H,K,h,j=>⟨0,[],rfl,h⟩
 |o::l,T,H,K,h,j=>by
  simp only[fV,Kp]at h;have:∃n v H',dh (DZ N (jm P)) (d6 N (jm P) n) o T H=some (v,H')/\fV (aq P N) l (kl (en T) o.dst v) H' λss=>K ((v,H')::ss):=by
   cases hg:pm T o.guard with
   |true=>rw[hg]at h;exact tI h hg
   |false=>rw[hg]at h;exact⟨0,cF,H,by simp only[dh,hg,cond_false],h⟩
  obtain⟨n,v,H',h1,h2⟩:=this;rw[<- Fo]at h2;obtain⟨m,ss,h3,h4⟩:=xY l h2 (j+1);refine⟨max n m,(v,H')::ss,?_,?_⟩
  ·simp only[eG,mE (dV (Nat.le_max_left n m)) h1,ov (dV (Nat.le_max_right n m)) l h3]
  ·have hl:=(jJ l _ H' ss 0 h3).1;have e:fX H' ss l.length=fX H ((v,H')::ss) (o::l).length:=by
    simp only[XB];cases hr:l.length with
    |zero=>rfl
    |succ q=>simp only[fX,XI];rw[Xx om]
   rw[<- e];exact h4
def x4{tb:FuncId->Bool}{hs:List aa}:∀(l:List aD) (chk:List (List Nat)) (ss:List (ae×aa)) (T:Tr ae),DC hs l chk ss (en T)->lq tb hs l chk ss T=true
 | [],_,_,_,_=>rfl
 |o::l,[],_,_,_=>rfl
 |o::l,p::ps,[],_,_=>rfl
 |o::l,p::ps,(v,Hv)::ss,T,h=>by
  simp only[DC]at h;obtain⟨h1,h2⟩:=h;simp only[lq,XA];refine⟨List.all_eq_true.2 λq hq=>?_,x4 l ps ss _ (by rw[Fo];exact h2)⟩;obtain⟨Hp,e1,e2⟩:=h1 q hq;rw[e1];simp only;cases hg:pm T o.guard with
  |false=>rfl
  |true=>
   obtain⟨u,u1,u2⟩:=e2 (by rw[Kp];exact hg);simp only[cond_true];cases ho:o.op<;>rw[ho]at u1<;>simp only[T5,reduceCtorEq,qH]at u1
   ·simp only[dZ,u1,vv];exact u2
   ·simp only[dZ,u1,vv];exact u2
def tY{Q:pq}{K:bZ->aa->Prop}{e:JH}{T:bZ}{H:aa}(h:nI Q K e T H):(e=.normal/\K T H)∨(e≠.normal/\Q e T H):=by
 cases e with
 |normal=>exact .inl ⟨rfl,h⟩
 |exit i=>exact .inr ⟨by simp,h⟩
 |ret=>exact .inr ⟨by simp,h⟩
def JO:∀(c:cK) (Q:pq) (T:Tr ae) (H:aa),wp (aq P N) c Q (en T) H ->
  ∃n e T' H',cu (DZ N (jm P)) (d6 N (jm P) n) n c T H=some (e,T',H')/\Q e (en T') H':=by
 intro c;induction c with
 |skip=>intro Q T H h;exact⟨0,_,_,_,rfl,h⟩
 |reg l=>intro Q T H h;obtain⟨n,T',H',h1,h2⟩:=tJ l h;exact⟨n,.normal,T',H',by simp only[cu,h1],h2⟩
 |draw l chk=>intro Q T H h;simp only[wp,Gc]at h;obtain⟨n,ss,h1,h2,h3⟩:=xY (aH H.next l) h 0;exact⟨n,.normal,_,_,by simp only[cu,Dr,h1,x4 (aH H.next l) chk ss T h2,cond_true],h3⟩
 |seq a b iha ihb=>
  intro Q T H h;obtain⟨n,e,T1,H1,h1,h2⟩:=iha _ T H h;rcases tY h2 with⟨rfl,h2⟩|⟨hne,h2⟩
  ·obtain⟨m,e2,T2,H2,h3,h4⟩:=ihb _ T1 H1 h2;refine⟨max n m,e2,T2,H2,?_,h4⟩;simp only[cu,gL (dV (Nat.le_max_left n m)) (Nat.le_max_left n m) a _ _ _ h1];exact gL (dV (Nat.le_max_right n m)) (Nat.le_max_right n m) b _ _ _ h3
  ·refine⟨n,e,T1,H1,?_,h2⟩;cases e with
   |normal=>exact absurd rfl hne
   |exit i=>simp only[cu,h1]
   |ret=>simp only[cu,h1]
 |cond c a b iha ihb=>
  intro Q T H h;simp only[wp,qH]at h;obtain⟨v,hv,h⟩:=h;cases v with
  |true=>obtain⟨n,e,T1,H1,h1,h2⟩:=iha _ T H h;exact⟨n,e,T1,H1,by simp only[cu,hv,h1],h2⟩
  |false=>obtain⟨n,e,T1,H1,h1,h2⟩:=ihb _ T H h;exact⟨n,e,T1,H1,by simp only[cu,hv,h1],h2⟩
 |block id c ih=>
  intro Q T H h;obtain⟨n,e,T1,H1,h1,h2⟩:=ih _ T H h;cases e with
  |exit j=>
   simp only[nM]at h2;cases hb:Nat.beq j id with
   |true=>rw[hb]at h2;exact⟨n,.normal,T1,H1,by simp only[cu,h1,hb,cond_true],h2⟩
   |false=>rw[hb]at h2;exact⟨n,.exit j,T1,H1,by simp only[cu,h1,hb,cond_false],h2⟩
  |normal=>exact⟨n,.normal,T1,H1,by simp only[cu,h1],h2⟩
  |ret=>exact⟨n,.ret,T1,H1,by simp only[cu,h1],h2⟩
 |loop c ih=>
  intro Q T H h;simp only[wp]at h;obtain⟨I,⟨m,hm⟩,hI⟩:=h;have key:∀(m:Nat) (T:Tr ae) (H:aa),I m (en T) H->∃n e T' H',cu (DZ N (jm P)) (d6 N (jm P) n) n (.loop c) T H=some (e,T',H')/\Q e (en T') H':=by
   intro m;induction m using Nat.strongRecOn with
   |ind m ihm=>
    intro T H hi;obtain⟨n,e,T1,H1,h1,h2⟩:=ih _ T H (hI m _ _ hi);rcases tY h2 with⟨rfl,m',hm',h2⟩|⟨hne,h2⟩
    ·obtain⟨k,e2,T2,H2,h3,h4⟩:=ihm m' hm' T1 H1 h2;refine⟨max n k+1,e2,T2,H2,?_,h4⟩;simp only[cu,oA];rw[gL (dV (show n<=max n k+1 by omega)) (show n<=max n k+1 by omega) c _ _ _ h1];simp only[cu]at h3;exact qo (λT H r hr=>gL (dV (show k<=max n k+1 by omega)) (show k<=max n k+1 by omega) c T H r hr) k (max n k) T1 H1 _ (Nat.le_max_right n k) h3
    ·refine⟨n+1,e,T1,H1,?_,h2⟩;simp only[cu,oA];rw[gL (dV (Nat.le_succ n)) (Nat.le_succ n) c _ _ _ h1];cases e with
     |normal=>exact absurd rfl hne
     |exit i=>rfl
     |ret=>rfl
  exact key m T H hm
 |exit id=>intro Q T H h;exact⟨0,_,_,_,rfl,h⟩
 |ret=>intro Q T H h;exact⟨0,_,_,_,rfl,h⟩
 |dfr y b ih=>
  intro Q T H h;simp only[wp,qH]at h;obtain⟨g,l,hg,h⟩:=h;obtain⟨n,e,T1,H1,h1,h2⟩:=ih _ T H h;have hne:(∀i,e≠.exit i)/\aq P N (3*mT+g) l H1 λ_ H''=>Q .ret (en T1) H'':=by
   cases e with
   |exit i=>exact h2.elim
   |normal=>exact⟨λi=>by simp,h2⟩
   |ret=>exact⟨λi=>by simp,h2⟩
  obtain⟨hne,m,v,H2,h3,h4⟩:=hne;refine⟨max n m,.ret,T1,H2,?_,h4⟩;simp only[cu,hg];rw[gL (dV (Nat.le_max_left n m)) (Nat.le_max_left n m) b _ _ _ h1];have h5:=dV (Nat.le_max_right n m) _ _ _ _ h3;cases e with
  |exit i=>exact(hne i rfl).elim
  |normal=>simp only[h5]
  |ret=>simp only[h5]
def AR(args:List ae):bZ:=λi=>match args[i]? with
 |some v=>v
 |none=>cF
def vP:∀(args:List ae) (i:Nat) (T:Tr ae),en (hJ args i T)=λj=>if i<=j then(match args[j-i]? with|some v=>v|none=>en T j)else en T j
 | [],i,T=>by funext j;simp[hJ]
 |x::r,i,T=>by
  rw[hJ,vP r (i+1),LS];funext j;by_cases h:i+1<=j
  ·rw[if_pos h,if_pos om,show j-i=(j-(i+1))+1 by omega];simp only[XI];split
   ·rfl
   ·have hb:Nat.beq j i=false:=by rw[ch];exact decide_eq_false om
    simp only[up,hb,cond_false]
  ·rw[if_neg h];by_cases e:i=j
   ·subst e;simp[up]
   ·rw[if_neg om];have hb:Nat.beq j i=false:=by rw[ch];exact decide_eq_false om
    simp only[up,hb,cond_false]
def IK(args:List ae):en (hJ args 0 .e)=AR args:=by
 rw[vP];funext j;simp only[Nat.zero_le,if_true,Nat.sub_zero,AR];split
 ·rfl
 ·rfl
def pj(T:bZ)(H:aa):List xR->Option (List ae)
 | []=>some []
 | .t i::r=>match pj T H r with
  |some l=>some (T i::l)
  |none=>none
 | .cell g n i::r=>match al g n H (T i),pj T H r with
  |some x,some l=>some (x::l)
  |_,_=>none
def ut(T:Tr ae)(H:aa):∀l:List xR,pj (en T) H l=qj T H l
 | []=>rfl
 | .t i::r=>by simp only[pj,qj,ut T H r];rfl
 | .cell g n i::r=>by simp only[pj,qj,ut T H r];rfl
def fq(res:List xR)(K:ae->aa->Prop):pq:=λe T H=>match e with
 | .exit _=>False
 |_=>dW (pj T H res) λl=>K (kQ l) H
def Jy{f:FuncId}{c:cf}{args:List ae}{H:aa}{K:ae->aa->Prop}(hn:N.is f=false)(hc:DJ P f=some c)(hl:Nat.ble args.length c.nt=true)(h:wp (aq P N) c.body (fq c.res K) (AR args) H):aq P N f args H K:=by
 rw[<- IK]at h;obtain⟨n,e,T',H',h1,h2⟩:=JO _ _ _ _ h;have:∃l,qj T' H' c.res=some l/\K (kQ l) H'/\∀i,e≠.exit i:=by
  cases e with
  |exit i=>exact h2.elim
  |normal=>obtain⟨l,q1,q2⟩:=h2;rw[ut]at q1;exact⟨l,q1,q2,λi=>by simp⟩
  |ret=>obtain⟨l,q1,q2⟩:=h2;rw[ut]at q1;exact⟨l,q1,q2,λi=>by simp⟩
 obtain⟨l,q1,q2,q3⟩:=this;refine⟨n+1,kQ l,H',?_,q2⟩;rw[d6,hn,J6 hc];simp only[cond_false,hl,cond_true,h1];cases e with
 |exit i=>exact absurd rfl (q3 i)
 |normal=>simp only[q1]
 |ret=>simp only[q1]
def FU{f:FuncId}{args:List ae}{H H':aa}{v:ae}{K:ae->aa->Prop}(hn:N.is f=true)(hr:N.run f args H=some (v,H'))(hk:K v H'):aq P N f args H K:=⟨1,v,H',by rw[d6,hn];exact hr,hk⟩
def aq.calls(hfol:P.follows .mixedOrders=true)(hN:Dy P N){f:FuncId}{args:List ae}{H:aa}{K:ae->aa->Prop}(h:aq P N f args H K)
  {Prot:Gh} {w0 w:World} {ρ:Pl} {vs:Array Value} (R:cX Prot w0 ρ H w) (hv:aE ρ args vs.toList) (hfb:Nat.blt f mT=true:=by rfl) :
  Calls P f vs w λe w'=>∃ρ' v H' u,ρ.le ρ'/\e=.returned u/\K v H'/\cX Prot w0 ρ' H' w'/\ar ρ' v u:=by
 obtain⟨n,v,H',h1,h2⟩:=h;refine(MP hfol hN (NL P) n _ _ _ _ _ hfb h1 _ _ _ _ _ R hv).mono λe w' hx=>?_;obtain⟨ρ',u,q1,rfl,q2,q3⟩:=hx;exact⟨ρ',v,H',u,q1,rfl,h2,q2,q3⟩
end
end Go.Abs.S
namespace Go.Abs.S
open Go.Abs
def Ls{ρ:Pl}{p:Value->Prop}(h:∀v,p v->∃x,∀ρ,ar ρ x v):∀(vs:List Value),(∀v∈vs,p v)->∃l,∀ρ,aE ρ l vs
 | [],_=>⟨[],λρ=>by simp[aE]⟩
 |v::vs,hv=>by obtain⟨x,hx⟩:=h v (hv v (by simp));obtain⟨l,hl⟩:=Ls (ρ:=ρ) h vs λu hu=>hv u (by simp[hu]);exact⟨x::l,λρ=>by simp only[aE];exact⟨v,vs,rfl,hx ρ,hl ρ⟩⟩
def Ui:∀(n:Nat) (v:Value),SizeOf.sizeOf v<=n->∃x,∀ρ,ar ρ x v:=by
 intro n;induction n with
 |zero=>intro v h;cases v<;>simp at h
 |succ n ih=>
  intro v h;cases v
  case bool b=>exact⟨.bool b,λρ=>by simp[ar]⟩
  case agg vs=>
   obtain⟨l,hl⟩:=Ls (ρ:=λ_ _=>none) (p:=λv=>SizeOf.sizeOf v<=n) ih vs.toList λv hv=>by have:=Array.sizeOf_lt_of_mem (Array.mem_toList_iff.1 hv);simp at h;omega
   exact⟨.agg l,λρ=>by simp only[ar];exact⟨vs,rfl,hl ρ⟩⟩
  case tuple vs=>
   obtain⟨l,hl⟩:=Ls (ρ:=λ_ _=>none) (p:=λv=>SizeOf.sizeOf v<=n) ih vs.toList λv hv=>by have:=Array.sizeOf_lt_of_mem (Array.mem_toList_iff.1 hv);simp at h;omega
   exact⟨.tuple l,λρ=>by simp only[ar];exact⟨vs,rfl,hl ρ⟩⟩
  all_goals exact⟨.val _,λρ=>by simp only[ar];exact⟨rfl,rfl⟩⟩
noncomputable def EQ(v:Value):ae:=Classical.choose (Ui (SizeOf.sizeOf v) v rL)
def wm(v:Value)(ρ:Pl):ar ρ (EQ v) v:=Classical.choose_spec (Ui (SizeOf.sizeOf v) v rL) ρ
def mH(w:World)(c:Nat):Option Nat:=match w.heap[c]? with
 |some (.cells C _ _)=>some C.size
 |_=>none
noncomputable def j8(w:World):Value->ae
 | .bool b=>.bool b
 | .int k n=>.int k n
 | .string s=>.str s.data.toList
 | .pointer none=>.ptr none
 | .pointer (some ⟨c,off,none⟩)=>match mH w c with
  |some n=>.ptr (some ⟨c,n,off⟩)
  |none=>EQ (.pointer (some ⟨c,off,none⟩))
 | .slice none 0 0=>.slice none 0 (.known 0)
 | .slice (some ⟨c,off,none⟩) len cap=>if len<=cap then(match mH w c with
  |some n=>if off<=n then .slice (some ⟨c,n,off⟩) len (.known cap)else .val (.slice (some ⟨c,off,none⟩) len cap)
  |none=>.val (.slice (some ⟨c,off,none⟩) len cap))else .val (.slice (some ⟨c,off,none⟩) len cap)
 | .slice (some ⟨c,off,some q⟩) len cap=>.val (.slice (some ⟨c,off,some q⟩) len cap)
 | .map none=>.map none
 | .nilFunc=>.nilFunc
 | .nilIface=>.nilIface
 |v=>EQ v
def QN(w:World):Pl:=λb l=>match mH w b with
 |some n=>if l=n then some ⟨b,0,n,false⟩else none
 |none=>none
def vQ{w:World}{b n:Nat}(h:mH w b=some n):QN w b n=some ⟨b,0,n,false⟩:=by simp[QN,h]
def Ee(s:ByteArray):bV s.data.toList=s:=by cases s;simp[bV]
def rT(w:World)(v:Value):ar (QN w) (j8 w v) v:=by
 unfold j8;split
 ·simp[ar]
 ·simp[ar]
 ·simp[ar,Ee]
 ·simp[ar]
 ·split
  ·rename_i n hn;simp only[ar];exact⟨_,vQ hn,Nat.zero_le _,by simp⟩
  ·exact wm _ _
 ·simp[ar]
 ·split
  ·rename_i hl;split
   ·rename_i n hn;split
    ·simp only[ar];exact⟨_,vQ hn,Nat.zero_le _,by simp only[cJ];exact⟨hl,by simp⟩⟩
    ·simp only[ar];exact⟨trivial,rfl⟩
   ·simp only[ar];exact⟨trivial,rfl⟩
  ·simp only[ar];exact⟨trivial,rfl⟩
 ·simp only[ar];exact⟨trivial,rfl⟩
 ·simp[ar]
 ·simp[ar]
 ·simp[ar]
 ·exact wm _ _
noncomputable def vU(w:World)(c:Nat):Option di:=match w.heap[c]? with
 |some (.cells C _ _)=>some (.cells (C.toList.map (j8 w)) 0 true)
 |_=>none
noncomputable def Sk(w:World):Nat->Tr di
 |0=>.e
 |n+1=>match vU w n with
  |some o=>(Sk w n).set n o
  |none=>Sk w n
def zX(w:World):∀(n b:Nat),(Sk w n).get b=if b<n then vU w b else none
 |0,b=>by rw[if_neg om];cases b<;>rfl
 |n+1,b=>by
  simp only[Sk];cases hc:vU w n with
  |none=>
   simp only[zX w n b];by_cases h:b<n
   ·rw[if_pos h,if_pos om]
   ·by_cases e:b=n
    ·subst e;rw[if_neg h,if_pos om,hc]
    ·rw[if_neg h,if_neg om]
  |some c=>
   simp only[Tr.get_set,zX w n b];by_cases e:b=n
   ·subst e;rw[if_pos rfl,if_pos om,hc]
   ·rw[if_neg e];by_cases h:b<n
    ·rw[if_pos h,if_pos om]
    ·rw[if_neg h,if_neg om]
noncomputable def dN(w:World):aa:=⟨w.heap.size,Sk w w.heap.size⟩
def iH(w:World)(b:Nat):(dN w).get b=vU w b:=by
 show(Sk w w.heap.size).get b=_;rw[zX];by_cases h:b<w.heap.size
 ·rw[if_pos h]
 ·rw[if_neg h];unfold vU;rw[Array.getElem?_eq_none om]
def oU{w:World}{c n:Nat}(h:mH w c=some n):∃C e fz,w.heap[c]?=some (.cells C e fz)/\C.size=n/\vU w c=some (.cells (C.toList.map (j8 w)) 0 true):=by
 unfold mH at h;unfold vU;split at h
 ·rename_i C e fz hC;simp only[sJ]at h;exact⟨C,e,fz,hC,h,rfl⟩
 ·simp at h
def GG{w:World}{b l:Nat}{L:DN}(h:QN w b l=some L):mH w b=some l/\L=⟨b,0,l,false⟩:=by
 unfold QN at h;split at h
 ·rename_i n hn;split at h
  ·rename_i e;subst e;simp only[sJ]at h;exact⟨hn,h.symm⟩
  ·simp at h
 ·simp at h
def GL{w:World}{b:Nat}{x:di}(h:vU w b=some x):x.rw=false:=by
 unfold vU at h;split at h
 ·simp only[sJ]at h;subst h;rfl
 ·simp at h
def yq(w:World):cX ⟨λc=>c<w.heap.size,λ_=>False⟩ w (QN w) (dN w) w:=by
 refine⟨rfl,rfl,rfl,Nat.le_refl _,λ_ hc=>⟨hc,rfl⟩,λb l L h=>?_,λb l L h=>?_,λb l L x h hx hr=>?_,λb l L b' l' L' x h h' he hx hr=>?_,λ_ h=>h.elim,λb l low h=>?_⟩
 ·obtain⟨h1,rfl⟩:=GG h;obtain⟨C,e,fz,h2,_,_⟩:=oU h1;have:=(Array.getElem?_eq_some_iff.1 h2).1;exact⟨this,this⟩
 ·obtain⟨h1,rfl⟩:=GG h;obtain⟨C,e,fz,h2,h3,h4⟩:=oU h1;obtain⟨lo,hi⟩:=fz;refine⟨_,_,by rw[iH,h4],h2,?_⟩;simp only[gM];refine⟨C,e,lo,hi,rfl,h3,λh=>by simp at h,by simp;omega,λ_ i _ hi=>?_⟩;have hlt:i<C.size:=om;refine⟨j8 w C[i],C[i],?_,by simp[hlt],rT w _⟩;simp[hlt]
 ·rw[iH]at hx;rw[GL hx]at hr;simp at hr
 ·rw[iH]at hx;rw[GL hx]at hr;simp at hr
 ·rw[iH]at h;have hr:mH w b=some l.length:=by
   unfold vU at h;unfold mH;split at h
   ·rename_i C e fz hC;simp only[sJ,di.cells.injEq]at h;simp[<- h.1]
   ·simp at h
  exact⟨_,vQ hr,rfl,rfl,rfl⟩
end Go.Abs.S
namespace Go.Abs.S
open Go.Abs
def Gd(T:bZ)(i:Nat)(v:ae):up T i v i=v:=by simp[up]
def PG(T:bZ)(i j:Nat)(v:ae)(h:j≠i):up T i v j=T j:=by
 have:Nat.beq j i=false:=by rw[ch];exact decide_eq_false h
 simp[up,this]
structure aS(n:Nat)(H H':aa):Prop where
 next:H.next<=H'.next
 old:∀b,b<n->H'.get b=H.get b
def aS.refl(n:Nat)(H:aa):aS n H H:=⟨Nat.le_refl _,λ_ _=>rfl⟩
def aS.trans{n:Nat}{H H' H'':aa}(h:aS n H H')(k:aS n H' H''):aS n H H'':=⟨Nat.le_trans h.next k.next,λb hb=>(k.old b hb).trans (h.old b hb)⟩
def aS.less{n m:Nat}{H H':aa}(h:aS n H H')(hm:m<=n):aS m H H':=⟨h.next,λb hb=>h.old b om⟩
def aS.push{n:Nat}{H H':aa}(h:aS n H H')(hn:n<=H'.next)(o:di):aS n H (H'.push o):=⟨Nat.le_trans h.next (by simp[aa.push]),λb hb=>by rw[aa.get_push,if_neg om,h.old b hb]⟩
def aS.set{n:Nat}{H H':aa}(h:aS n H H'){b:Nat}(hn:n<=b)(o:di):aS n H (H'.set b o):=⟨h.next,λc hc=>by rw[aa.get_set,if_neg om,h.old c hc]⟩
def aV(H:aa)(o:di):(H.push o).next=H.next+1:=rfl
def eX(H:aa)(b:Nat)(o:di):(H.set b o).next=H.next:=rfl
def aX:ae:=.slice none 0 (.known 0)
def CY(s:ae)(i:Nat):ae:=match s with
 | .slice (some a) _ _=>.ptr (some ⟨a.b,a.lim,a.o+i*1⟩)
 |_=>cF
def Q7:ae->Bool
 | .slice none 0 (.known 0)=>true
 | .val (.slice (some _) 0 0)=>true
 |_=>false
def gS{s:ae}(h:Q7 s=true):s=aX∨∃a,s=.val (.slice (some a) 0 0):=by
 unfold Q7 at h;split at h
 ·exact .inl rfl
 ·exact .inr ⟨_,rfl⟩
 ·simp at h
def OD{s:ae}(h:s=aX):Q7 s=true:=by subst h;rfl
def fo(n:Nat)(H:aa)(s:ae)(l:List ae):Prop:=(Q7 s=true/\l=[])∨∃a r,s=.slice (some a) l.length r/\a.b<n/\bH H a l.length=some l
def vN{H H':aa}{a:Ad}(h:H'.get a.b=H.get a.b)(n:Nat):bH H' a n=bH H a n:=by unfold bH;rw[h]
def fo.ext{n:Nat}{H H':aa}{s:ae}{l:List ae}(h:fo n H s l)(e:aS n H H'):fo n H' s l:=by
 rcases h with h|⟨a,r,h1,h2,h3⟩
 ·exact .inl h
 ·exact .inr ⟨a,r,h1,h2,by rw[vN (e.old _ h2)];exact h3⟩
def fo.more{n m:Nat}{H:aa}{s:ae}{l:List ae}(h:fo n H s l)(hm:n<=m):fo m H s l:=by
 rcases h with h|⟨a,r,h1,h2,h3⟩
 ·exact .inl h
 ·exact .inr ⟨a,r,h1,om,h3⟩
def fo.len{n:Nat}{H:aa}{s:ae}{l:List ae}(h:fo n H s l):ez false s=some (.int .i64 l.length):=by
 rcases h with⟨h,rfl⟩|⟨a,r,rfl,_⟩
 ·rcases gS h with rfl|⟨a,rfl⟩<;>rfl
 ·rfl
def Kw{H:aa}{a:Ad}{n i:Nat}{xs:List ae}(h:bH H a n=some xs)(hi:i<n):∃x,xs[i]?=some x/\bH H ⟨a.b,a.lim,a.o+i⟩ 1=some [x]:=by
 obtain⟨l,low,ro,_,h1,h2,h3,h4,rfl⟩:=qI h;have hlt:a.o+i<l.length:=om;refine⟨l[a.o+i],?_,?_⟩
 ·rw[List.getElem?_take_of_lt hi,List.getElem?_drop,Xx hlt]
 ·unfold bH;simp only[h1,Xz h2,Xz h3,Xz (show a.o+i+1<=a.lim by omega),Bool.and_self,cond_true];rw[List.drop_eq_getElem_cons hlt];rfl
def fo.idx{n:Nat}{H:aa}{s:ae}{l:List ae}(h:fo n H s l)(k:IntKind){i:Nat}(hi:i<l.length):jk 1 s (.int k (i:Int))=some (CY s i):=by
 rcases h with⟨_,rfl⟩|⟨a,r,rfl,_⟩
 ·simp at hi
 ·show(bif Nat.blt i l.length then _ else none)=_;have:Nat.blt i l.length=true:=by simpa[Nat.blt_eq]using hi
  rw[this];rfl
def fo.load{n:Nat}{H:aa}{s:ae}{l:List ae}(h:fo n H s l){i:Nat}{x:ae}(hi:l[i]?=some x):al false 1 H (CY s i)=some x:=by
 have hlt:=(Xy.1 hi).1;rcases h with⟨_,rfl⟩|⟨a,r,rfl,_,h3⟩
 ·simp at hi
 ·obtain⟨y,h4,h5⟩:=Kw h3 hlt;rw[hi]at h4;simp only[sJ]at h4;subst h4;simp only[al,CY,Nat.mul_one,h5,cond_false]
def AZ(n:Nat)(H:aa)(s:ae)(l:List ae):Prop:=(s=aX/\l=[])∨∃b low,s=.slice (some ⟨b,l.length,0⟩) l.length (.open_ 1)/\n<=b/\b<H.next/\H.get b=some (.cells l low false)/\low<=l.length
def AZ.nil(n:Nat)(H:aa):AZ n H aX []:=.inl ⟨rfl,rfl⟩
def fA{H:aa}{b low:Nat}{l:List ae}{ro:Bool}(h:H.get b=some (.cells l low ro))(hl:low<=l.length):bH H ⟨b,l.length,0⟩ l.length=some l:=by unfold bH;simp only[h,Xz hl,Xz rL,Nat.zero_add,Bool.and_self,cond_true,List.drop_zero,List.take_length]
def AZ.cel{n:Nat}{H:aa}{s:ae}{l:List ae}(h:AZ n H s l):fo H.next H s l:=by
 rcases h with h|⟨b,low,h1,h2,h3,h4,h5⟩
 ·exact .inl ⟨OD h.1,h.2⟩
 ·exact .inr ⟨_,_,h1,h3,fA h4 h5⟩
def AZ.ext{n:Nat}{H H':aa}{s:ae}{l:List ae}(h:AZ n H s l)(e:aS H.next H H'):AZ n H' s l:=by
 rcases h with h|⟨b,low,h1,h2,h3,h4,h5⟩
 ·exact .inl h
 ·exact .inr ⟨b,low,h1,h2,XL h3 e.next,by rw[e.old b h3];exact h4,h5⟩
def y5{x:ae}(h:x.one=true):x.cells=[x]:=by cases x<;>first|rfl|(simp[ae.one]at h)
def B5(H:aa):ae:=.slice (some ⟨H.next,1,0⟩) 1 (.known 1)
def lu(z:ae)(H:aa){x:ae}(h:x.one=true):aL 1 [z] H [(0,1,x)]=some (B5 H,H.push (.cells [x] 0 false)):=by simp only[aL,BS,List.append_nil,kV,y5 h];rfl
def QI(H:aa)(x:ae):gz 1 (H.push (.cells [x] 0 false)) (B5 H)=some (1,[x]):=by have:=fA (H:=H.push (.cells [x] 0 false)) (b:=H.next) (l:=[x]) (low:=0) (ro:=false) (by rw[aa.get_push,if_pos rfl]) (by simp);simp only[XB,XC,Nat.zero_add]at this;simp only[gz,B5,Nat.mul_one,this]
def AZ.push{n:Nat}{H:aa}{s:ae}{l:List ae}(h:AZ n H s l)(hn:n<=H.next){x:ae}(hx:x.one=true){bytes:Nat}(hb:2*(l.length+1)*bytes<=281474976710656)(hb1:0<bytes) :
  ∃s' H',a8 1 bytes (H.push (.cells [x] 0 false)) s (B5 H)=some (s',H')/\AZ n H' s' (l++[x])/\aS n H H':=by
 have hlen:l.length+1<=9223372036854775807:=by have:2*(l.length+1)<=2*(l.length+1)*bytes:=Nat.le_mul_of_pos_right _ hb1;omega
 have c1:∀k,k=l.length->(Nat.blt 0 1&&(Nat.ble ((2*(k+1)+0)*bytes) 281474976710656&&(Nat.ble (k+1) 9223372036854775807&&(Nat.beq [x].length (1*1)&&[x].all ae.one))))=true:=by intro k hk;subst hk;simp only[Nat.add_zero,Xz hb,Xz hlen,List.all_cons,List.all_nil,hx];rfl
 rcases h with⟨rfl,rfl⟩|⟨b,low,rfl,h2,h3,h4,h5⟩
 ·refine⟨.slice (some ⟨H.next+1,1,0⟩) 1 (.open_ 1),(H.push (.cells [x] 0 false)).push (.cells [x] 0 false),?_,.inr ⟨H.next+1,0,rfl,om,Nat.lt_succ_self _,?_,Nat.zero_le _⟩,((aS.refl n H).push hn _).push (by rw[aV];omega) _⟩
  ·simp only[a8,QI,aX];rw[show Nat.beq 1 0=false from rfl,cond_false,c1 0 rfl,cond_true];rfl
  ·rw[aa.get_push];exact if_pos rfl
 ·have hg:(H.push (.cells [x] 0 false)).get b=some (.cells l low false):=by rw[aa.get_push,if_neg om];exact h4
  have hgrow:df (H.push (.cells [x] 0 false)) ⟨b,l.length,0⟩ l.length [x]=some ((H.push (.cells [x] 0 false)).set b (.cells (l++[x]) low false)):=by unfold df;simp only[hg,Xz h5,Xz rL,Xz (Nat.zero_le _),Nat.beq_refl,XB,XC,Nat.zero_add,List.all_cons,List.all_nil,hx,Bool.and_self,cond_true,List.take_length]
  refine⟨.slice (some ⟨b,l.length+1,0⟩) (l.length+1) (.open_ 1),(H.push (.cells [x] 0 false)).set b (.cells (l++[x]) low false),?_,.inr ⟨b,low,by simp,h2,by rw[eX,aV];omega,by rw[aa.get_set,if_pos rfl],by simp;omega⟩,((aS.refl n H).push hn _).set h2 _⟩;simp only[a8,QI];rw[show Nat.beq 1 0=false from rfl,cond_false,c1 l.length rfl,cond_true];have e1:Nat.ble (l.length+1) l.length=false:=by rw[iT];exact decide_eq_false om
  simp only[Nat.beq_refl,cond_true,Nat.zero_add,Nat.mul_one,e1,cond_false,hgrow,XB,XC]
def Bi{H:aa}{b low i:Nat}{l:List ae}(h:H.get b=some (.cells l low false))(hl:low<=l.length)(hi:i<l.length){x:ae}(hx:x.one=true) :
  bh 1 H (.ptr (some ⟨b,l.length,i⟩)) x=some (H.set b (.cells (l.set i x) l.length false)):=by
 simp only[bh,y5 hx,XB,XC,Nat.zero_add,Nat.beq_refl,cond_true];unfold eP;simp only[h,Xz hl,Nat.beq_refl,XB,XC,Nat.zero_add,Xz (show i+1<=l.length by omega),List.all_cons,List.all_nil,hx,Bool.and_self,cond_true];congr 3;rw[List.set_eq_take_append_cons_drop,if_pos hi];rfl
def BJ(b n:Nat)(r:xj):ae:=.slice (some ⟨b,n,0⟩) n r
def ah(b n i:Nat):ae:=.ptr (some ⟨b,n,i⟩)
def be(H:aa)(b:Nat)(l:List ae):Prop:=∃low,H.get b=some (.cells l low false)/\low<=l.length
def uA(b n:Nat)(r:xj):ez false (BJ b n r)=some (.int .i64 (n:Int)):=_root_.id rfl
def aj{H:aa}{b n:Nat}{l:List ae}(h:be H b l)(hn:l.length=n){i:Nat}{x:ae}(hi:l[i]?=some x):al false 1 H (ah b n i)=some x:=by subst hn;obtain⟨low,h1,h2⟩:=h;have hlt:=(Xy.1 hi).1;obtain⟨y,h4,h5⟩:=Kw (fA h1 h2) hlt;rw[hi]at h4;simp only[sJ]at h4;subst h4;simp only[Nat.zero_add]at h5;simp only[al,ah,h5,cond_false]
def cD{H:aa}{b n:Nat}{l:List ae}(h:be H b l)(hn:l.length=n){i:Nat}(hi:i<n){x:ae}(hx:x.one=true) :
  ∃H',bh 1 H (ah b n i) x=some H'/\be H' b (l.set i x)/\H'.next=H.next/\∀c,c≠b->H'.get c=H.get c:=by
 subst hn;obtain⟨low,h1,h2⟩:=h;exact⟨_,Bi h1 h2 hi hx,⟨l.length,by rw[aa.get_set,if_pos rfl],by simp⟩,rfl,λc hc=>by rw[aa.get_set,if_neg hc]⟩
def be.same{H H':aa}{b:Nat}{l:List ae}(h:be H b l)(e:H'.get b=H.get b):be H' b l:=by obtain⟨low,h1,h2⟩:=h;exact⟨low,e.trans h1,h2⟩
def gq(H:aa)(l:List ae):be (H.push (.cells l 0 false)) H.next l:=⟨0,by rw[aa.get_push,if_pos rfl],Nat.zero_le _⟩
def aB{H:aa}{o:di}{c:Nat}(h:c<H.next):(H.push o).get c=H.get c:=by rw[aa.get_push,if_neg om]
def be.cel{H:aa}{b n m:Nat}{l:List ae}{r:xj}(h:be H b l)(hn:l.length=n)(hb:b<m):fo m H (BJ b n r) l:=by subst hn;obtain⟨low,h1,h2⟩:=h;exact .inr ⟨_,_,rfl,hb,fA h1 h2⟩
end Go.Abs.S
namespace Go.Abs.S
open Go.Abs
section
variable {C:CS} {Q:pq} {T:bZ} {H:aa} {K:bZ->aa->Prop} {r:List aD} {d:Option Nat}
def HR:wp C .skip Q T H=Q .normal T H:=_root_.id rfl
def QB(C:CS)(b:cK)(Q:pq)(T:bZ)(H:aa):ae->Prop
 | .func (.func g) [] l=>wp C b (Cx λT' H'=>C (3072+g) l H' λ_ H''=>Q .ret T' H'') T H
 |_=>False
def Mv(y:bW)(b:cK):wp C (.dfr y b) Q T H=QB C b Q T H (sX T y):=by
 refine propext ⟨λ⟨g,l,hg,h⟩=>by rw[hg];exact h,λh=>?_⟩;unfold QB at h;split at h
 ·rename_i g l hg;exact⟨g,l,hg,h⟩
 ·exact h.elim
def xZ(b:cK)(g:Nat)(l:List ae):QB C b Q T H (.func (.func g) [] l)=wp C b (Cx λT' H'=>C (3072+g) l H' λ_ H''=>Q .ret T' H'') T H:=_root_.id rfl
def yK(K:bZ->aa->Prop):Cx K .ret T H=K T H:=_root_.id rfl
def qZ(K:bZ->aa->Prop):Cx K .normal T H=K T H:=_root_.id rfl
def Mu(ops:List aD):wp C (.reg ops) Q T H=bM C ops T H (Q .normal):=_root_.id rfl
def Ms(a b:cK):wp C (.seq a b) Q T H=wp C a (nI Q (wp C b Q)) T H:=_root_.id rfl
open Classical in
def HT(c:bW)(a b:cK):wp C (.cond c a b) Q T H=if sX T c=.bool true then wp C a Q T H else if sX T c=.bool false then wp C b Q T H else False:=by
 simp only[wp];by_cases h:sX T c=.bool true
 ·rw[if_pos h,h];simp
 ·rw[if_neg h];by_cases h':sX T c=.bool false
  ·rw[if_pos h',h'];simp
  ·rw[if_neg h'];simp only[eq_iff_iff,iff_false,not_exists,not_and];intro v hv;cases v
   ·exact absurd hv h'
   ·exact absurd hv h
def ip(id:Nat)(c:cK):wp C (.block id c) Q T H=wp C c (nM id Q) T H:=_root_.id rfl
def HS(id:Nat):wp C (.exit id) Q T H=Q (.exit id) T H:=_root_.id rfl
def Mt:wp C .ret Q T H=Q .ret T H:=_root_.id rfl
def qY:nI Q K .normal T H=K T H:=_root_.id rfl
def wt(i:Nat):nI Q K (.exit i) T H=Q (.exit i) T H:=_root_.id rfl
def yJ:nI Q K .ret T H=Q .ret T H:=_root_.id rfl
def wu(id i:Nat):nM id Q (.exit i) T H=if i=id then Q .normal T H else Q (.exit i) T H:=by
 simp only[nM];by_cases h:i=id
 ·subst h;rw[if_pos rfl,Nat.beq_refl];rfl
 ·rw[if_neg h,show Nat.beq i id=false by rw[ch];exact decide_eq_false h];rfl
def rl(id:Nat):nM id Q .normal T H=Q .normal T H:=_root_.id rfl
def yL(id:Nat):nM id Q .ret T H=Q .ret T H:=_root_.id rfl
def aM{c:cK}(I:Nat->bZ->aa->Prop)(m:Nat)(h0:I m T H)(h:∀m T H,I m T H->wp C c (nI Q λT' H'=>∃m',m'<m/\I m' T' H') T H):wp C (.loop c) Q T H:=⟨I,⟨m,h0⟩,h⟩
def lW(o:Option ae)(C:CS)(r:List aD)(T:bZ)(d:Option Nat)(H:aa)(K:bZ->aa->Prop):Prop:=dW o λv=>bM C r (kl T d v) H K
def JD(o:Option (ae×aa))(C:CS)(r:List aD)(T:bZ)(d:Option Nat)(K:bZ->aa->Prop):Prop:=dW o λp=>bM C r (kl T d p.1) p.2 K
def VB(o:Option aa)(C:CS)(r:List aD)(T:bZ)(d:Option Nat)(K:bZ->aa->Prop):Prop:=dW o λH'=>bM C r (kl T d cF) H' K
def Q2(C:CS)(r:List aD)(T:bZ)(d:Option Nat)(K:bZ->aa->Prop):ae->aa->Prop:=λv H'=>bM C r (kl T d v) H' K
def zJ(v:ae):lW (some v) C r T d H K=bM C r (kl T d v) H K:=aQ _ _
def zM(v:ae)(H':aa):JD (some (v,H')) C r T d K=bM C r (kl T d v) H' K:=aQ _ _
def zH(H':aa):VB (some H') C r T d K=bM C r (kl T d cF) H' K:=aQ _ _
def Cp(v:ae):Q2 C r T d K v H=bM C r (kl T d v) H K:=_root_.id rfl
def ME:bM C [] T H K=K T H:=_root_.id rfl
open Classical in
def Dl(o:jz)(t:Nat)(b:Bool):bM C (⟨d,o,some (t,b)⟩::r) T H K=if T t=.bool b then bM C (⟨d,o,none⟩::r) T H K else bM C r (kl T d cF) H K:=by
 simp only[bM,PW T t];by_cases h:T t=.bool b
 ·rw[if_pos h,h];cases b<;>rfl
 ·rw[if_neg h];have:Sm b (T t)=false:=by
   unfold Sm;cases hv:T t<;>simp only[VN];rename_i v;rw[hv]at h;cases b<;>cases v<;>simp at h ⊢
  rw[this];rfl
def HW(x:bW):bM C (⟨d,.mv x,none⟩::r) T H K=bM C r (kl T d (sX T x)) H K:=_root_.id rfl
open Classical in
def HV(c a b:bW):bM C (⟨d,.pick c a b,none⟩::r) T H K=if sX T c=.bool true then bM C r (kl T d (sX T a)) H K else if sX T c=.bool false then bM C r (kl T d (sX T b)) H K else False:=by
 simp only[bM,sG,Is,cond_true];by_cases h:sX T c=.bool true
 ·rw[if_pos h,h];simp
 ·rw[if_neg h];by_cases h':sX T c=.bool false
  ·rw[if_pos h',h'];simp
  ·rw[if_neg h'];simp only[eq_iff_iff,iff_false,not_exists,not_and];intro v hv;cases v
   ·exact absurd hv h'
   ·exact absurd hv h
def MG(z:List ae):bM C (⟨d,.new z,none⟩::r) T H K=bM C r (kl T d (ga H z).1) (ga H z).2 K:=_root_.id rfl
def MJ(x:bW):bM C (⟨d,.box x,none⟩::r) T H K=bM C r (kl T d (ga H (sX T x).cells).1) (ga H (sX T x).cells).2 K:=_root_.id rfl
def Do(z:List ae)(ps:List (Nat×Nat×bW)):bM C (⟨d,.build z ps,none⟩::r) T H K=lW (aJ z (rY T ps)) C r T d H K:=_root_.id rfl
def w7(n:Nat)(z:List ae)(ps:List (Nat×Nat×bW)):bM C (⟨d,.buildSl n z ps,none⟩::r) T H K=JD (aL n z H (rY T ps)) C r T d K:=_root_.id rfl
def HX(a:Bool)(n:Nat)(x:bW):bM C (⟨d,.load a n x,none⟩::r) T H K=lW (al a n H (sX T x)) C r T d H K:=_root_.id rfl
def Di(n:Nat)(a x:bW):bM C (⟨d,.store n a x,none⟩::r) T H K=VB (bh n H (sX T a) (sX T x)) C r T d K:=_root_.id rfl
def y9(x:bW):bM C (⟨d,.nilChk x,none⟩::r) T H K=lW (dt (sX T x)) C r T d H K:=_root_.id rfl
def ML(op:BinOp)(x y:bW):bM C (⟨d,.bin op x y,none⟩::r) T H K=lW (cT op (sX T x) (sX T y)) C r T d H K:=_root_.id rfl
def Qi(op:UnOp)(x:bW):bM C (⟨d,.un op x,none⟩::r) T H K=lW (MQ op (sX T x)) C r T d H K:=_root_.id rfl
def Ia(k:IntKind)(x:bW):bM C (⟨d,.conv k x,none⟩::r) T H K=lW (uj k (sX T x)) C r T d H K:=_root_.id rfl
def zz(x:bW):bM C (⟨d,.convSB x,none⟩::r) T H K=JD (RZ H (sX T x)) C r T d K:=_root_.id rfl
def zA(x:bW):bM C (⟨d,.convBS x,none⟩::r) T H K=lW (FX H (sX T x)) C r T d H K:=_root_.id rfl
def za(fn:Fn)(a b:List bW):bM C (⟨d,.mkFunc fn a b,none⟩::r) T H K=bM C r (kl T d (.func fn (lC T a) (lC T b))) H K:=_root_.id rfl
def wZ(t:TypeId)(x:bW):bM C (⟨d,.mkIface t x,none⟩::r) T H K=bM C r (kl T d (.iface t (sX T x))) H K:=_root_.id rfl
def wY(b:Nat)(z:List ae)(l c:bW):bM C (⟨d,.mkSlice b z l c,none⟩::r) T H K=JD (Ij b z H (sX T l) (sX T c)) C r T d K:=_root_.id rfl
def Qj(n:Nat)(x:bW)(lo hi mx:Option bW):bM C (⟨d,.sl n x lo hi mx,none⟩::r) T H K=lW (Ii n (sX T x) (kB T lo) (kB T hi) (kB T mx)) C r T d H K:=_root_.id rfl
def Dk(x:bW)(lo hi:Option bW):bM C (⟨d,.slStr x lo hi,none⟩::r) T H K=lW (eU (sX T x) (kB T lo) (kB T hi)) C r T d H K:=_root_.id rfl
def zw(o:Nat)(x:bW):bM C (⟨d,.fieldA o x,none⟩::r) T H K=lW (jq o (sX T x)) C r T d H K:=_root_.id rfl
def Dm(a:Bool)(n o:Nat)(x:bW):bM C (⟨d,.field a n o x,none⟩::r) T H K=lW (pg a n o (sX T x)) C r T d H K:=_root_.id rfl
def HZ(n:Nat)(x i:bW):bM C (⟨d,.idxA n x i,none⟩::r) T H K=lW (jk n (sX T x) (sX T i)) C r T d H K:=_root_.id rfl
def zj(m n:Nat)(x i:bW):bM C (⟨d,.idxArr m n x i,none⟩::r) T H K=lW (kU m n (sX T x) (sX T i)) C r T d H K:=_root_.id rfl
def MI(m n:Nat)(a:Bool)(x i:bW):bM C (⟨d,.idx m n a x i,none⟩::r) T H K=lW (Dt m n a (sX T x) (sX T i)) C r T d H K:=_root_.id rfl
def HY(x i:bW):bM C (⟨d,.idxS x i,none⟩::r) T H K=lW (lU (sX T x) (sX T i)) C r T d H K:=_root_.id rfl
def w6(i:Nat)(x:bW):bM C (⟨d,.extract i x,none⟩::r) T H K=lW (gA i (sX T x)) C r T d H K:=_root_.id rfl
def zB(n b:Nat)(s x:bW):bM C (⟨d,.append n b s x,none⟩::r) T H K=JD (a8 n b H (sX T s) (sX T x)) C r T d K:=_root_.id rfl
def MH(s:Bool)(x:bW):bM C (⟨d,.len s x,none⟩::r) T H K=lW (ez s (sX T x)) C r T d H K:=_root_.id rfl
def Ib(f:FuncId)(args:List bW):bM C (⟨d,.call f args,none⟩::r) T H K=C f (lC T args) H (Q2 C r T d K):=_root_.id rfl
def qf(C:CS)(f:ae)(args:List ae)(H:aa)(K:ae->aa->Prop):Prop:=∃g a b,f=.func (.func g) a b/\Nat.blt g mT=true/\C g (a++args++b) H K
def ji(g:Nat)(a b args:List ae)(K:ae->aa->Prop)(hg:g<1024):qf C (.func (.func g) a b) args H K=C g (a++args++b) H K:=by
 simp only[qf,ae.func.injEq,Fn.func.injEq];apply propext;constructor
 ·rintro⟨g,a,b,⟨rfl,rfl,rfl⟩,_,h⟩;exact h
 ·intro h;exact⟨_,_,_,⟨rfl,rfl,rfl⟩,Xz hg,h⟩
def Dn(f:bW)(args:List bW):bM C (⟨d,.callv f args,none⟩::r) T H K=qf C (sX T f) (lC T args) H (Q2 C r T d K):=_root_.id rfl
def Qk(f:PF)(xs:List bW):bM C (⟨d,.pf f xs,none⟩::r) T H K=lW (mV f (lC T xs)) C r T d H K:=_root_.id rfl
def Ql(f:HF)(xs:List bW):bM C (⟨d,.hf f xs,none⟩::r) T H K=JD (kj f H (lC T xs)) C r T d K:=_root_.id rfl
def MD(m n:Nat)(x:bW)(lo hi mx:Option bW):bM C (⟨d,.slA m n x lo hi mx,none⟩::r) T H K=lW (j9 m n (sX T x) (kB T lo) (kB T hi) (kB T mx)) C r T d H K:=_root_.id rfl
def Bm(i:Nat)(v:ae):kl T (some i) v=up T i v:=_root_.id rfl
def Bn(v:ae):kl T none v=T:=_root_.id rfl
def Ub(i:Nat):sX T (.t i)=T i:=_root_.id rfl
def Ud(v:ae):sX T (.c v)=v:=_root_.id rfl
def Uc(i:Nat):sX T (.f i)=.func (.func i) [] []:=_root_.id rfl
def Ay(res:List xR)(K:ae->aa->Prop):fq res K .ret T H=dW (pj T H res) λl=>K (kQ l) H:=_root_.id rfl
def P8(i:Nat)(K:ae->aa->Prop):fq [.t i] K .ret T H=K (T i) H:=by simp only[fq,pj,aQ];rfl
def LJ(i j:Nat)(K:ae->aa->Prop):fq [.t i,.t j] K .ret T H=K (.tuple [T i,T j]) H:=by simp only[fq,pj,aQ];rfl
def LI(i j k:Nat)(K:ae->aa->Prop):fq [.t i,.t j,.t k] K .ret T H=K (.tuple [T i,T j,T k]) H:=by simp only[fq,pj,aQ];rfl
def uk(C:CS):Prop:=∀f a H (K K':ae->aa->Prop),(∀v H,K v H->K' v H)->C f a H K->C f a H K'
def cU(P:Program)(N:oF):uk (aq P N):=λ_ _ _ _ _ h hc=>hc.mono h
def uZ(hC:uk C){K K':ae->aa->Prop}(h:∀v H,K v H->K' v H){o:jz}(hw:Is C T H K o):Is C T H K' o:=by
 cases o
 case call f args=>exact hC _ _ _ _ _ h hw
 case callv f args=>obtain⟨g,a,b,h1,h0,h2⟩:=hw;exact⟨g,a,b,h1,h0,hC _ _ _ _ _ h h2⟩
 case pick c a b=>obtain⟨v,h1,h2⟩:=hw;exact⟨v,h1,h _ _ h2⟩
 case bad=>exact hw
 all_goals first
  |exact h _ _ hw
  |exact dW.mono hw λv hv=>h _ _ hv
def JQ(hC:uk C):∀(l:List aD) {T:bZ} {H:aa} {K:List (ae×aa)->bZ->aa->Prop} {K':bZ->aa->Prop},(∀ss T H,K' T H->K ss T H)->bM C l T H K'->fV C l T H K:=by
 intro l;induction l with
 |nil=>intro T H K K' h hw;exact h _ _ _ hw
 |cons o l ih=>
  intro T H K K' h hw;simp only[bM,fV]at hw ⊢;cases hg:sG T o.guard with
  |false=>rw[hg]at hw;exact ih (λss T H=>h _ T H) hw
  |true=>rw[hg]at hw;simp only[cond_true]at hw ⊢;exact uZ hC (λv H' hw=>ih (λss T H=>h _ T H) hw) hw
def w9:List (List Nat)->Bool
 | []=>true
 | []::r=>w9 r
 |_::_=>false
def L6{hs:List aa}:∀(l:List aD) (ps:List (List Nat)) (ss:List (ae×aa)) (T:bZ),w9 ps=true->DC hs l ps ss T
 | [],_,_,_,_=>trivial
 |o::l,[],_,_,_=>trivial
 |o::l,[]::ps,[],_,_=>trivial
 |o::l,[]::ps,(v,Hv)::ss,T,h=>⟨λp hp=>by simp at hp,L6 l ps ss _ h⟩
 |o::l,(q::p)::ps,_,_,h=>by simp[w9]at h
def vV:List aD->Bool
 | []=>true
 |o::r=>match dT o.op with
  |some _=>false
  |none=>vV r
def fR:∀(l:List aD),vV l=true->∀(b:Nat) (H:aa),aH b l=l/\bp H l=H
 | [],_,b,H=>⟨rfl,rfl⟩
 |o::r,h,b,H=>by
  cases hz:dT o.op with
  |some p=>simp[vV,hz]at h
  |none=>simp only[vV,hz]at h;exact⟨by simp only[aH,hz,(fR r h b H).1],by simp only[bp,hz,(fR r h b H).2]⟩
def JR(hC:uk C):∀(l:List aD) {T:bZ} {H:aa} {K K':List (ae×aa)->bZ->aa->Prop},(∀ss T H,K ss T H->K' ss T H)->fV C l T H K->fV C l T H K':=by
 intro l;induction l with
 |nil=>intro T H K K' h hw;exact h _ _ _ hw
 |cons o l ih=>
  intro T H K K' h hw;simp only[fV]at hw ⊢;cases hg:sG T o.guard with
  |false=>rw[hg]at hw;exact ih (λss T H=>h _ T H) hw
  |true=>rw[hg]at hw;simp only[cond_true]at hw ⊢;exact uZ hC (λv H' hw=>ih (λss T H=>h _ T H) hw) hw
def DU(hC:uk C):∀(l:List aD) {T:bZ} {H:aa} {K K':bZ->aa->Prop},(∀T H,K T H->K' T H)->bM C l T H K->bM C l T H K':=by
 intro l;induction l with
 |nil=>intro T H K K' h hw;exact h _ _ hw
 |cons o l ih=>
  intro T H K K' h hw;simp only[bM]at hw ⊢;cases hg:sG T o.guard with
  |false=>rw[hg]at hw;exact ih h hw
  |true=>rw[hg]at hw;simp only[cond_true]at hw ⊢;exact uZ hC (λv H' hw=>ih h hw) hw
def pZ{Q Q':pq}{K K':bZ->aa->Prop}(h:∀e T H,Q e T H->Q' e T H)(hk:∀T H,K T H->K' T H)(e:JH)(T:bZ)(H:aa)(hq:nI Q K e T H):nI Q' K' e T H:=by
 cases e with
 |normal=>exact hk _ _ hq
 |exit i=>exact h _ _ _ hq
 |ret=>exact h _ _ _ hq
def Bj(hC:uk C):∀(c:cK) {Q Q':pq} {T:bZ} {H:aa},(∀e T H,Q e T H->Q' e T H)->wp C c Q T H->wp C c Q' T H:=by
 intro c;induction c with
 |skip=>intro Q Q' T H h hw;exact h _ _ _ hw
 |reg l=>intro Q Q' T H h hw;exact DU hC l (h .normal) hw
 |draw l chk=>intro Q Q' T H h hw;exact JR hC _ (λss T' H' hk=>⟨hk.1,h _ _ _ hk.2⟩) hw
 |seq a b iha ihb=>intro Q Q' T H h hw;exact iha (pZ h λT H hk=>ihb h hk) hw
 |cond c a b iha ihb=>
  intro Q Q' T H h hw;obtain⟨v,h1,h2⟩:=hw;refine⟨v,h1,?_⟩;cases v with
  |true=>exact iha h h2
  |false=>exact ihb h h2
 |block id c ih=>
  intro Q Q' T H h hw;refine ih (λe T H hk=>?_) hw;cases e with
  |exit j=>
   simp only[nM]at hk ⊢;cases hb:Nat.beq j id with
   |true=>rw[hb]at hk;exact h _ _ _ hk
   |false=>rw[hb]at hk;exact h _ _ _ hk
  |normal=>exact h _ _ _ hk
  |ret=>exact h _ _ _ hk
 |loop c ih=>intro Q Q' T H h hw;obtain⟨I,hm,hI⟩:=hw;exact⟨I,hm,λm T H hi=>ih (pZ h λ_ _ hk=>hk) (hI m T H hi)⟩
 |exit id=>intro Q Q' T H h hw;exact h _ _ _ hw
 |ret=>intro Q Q' T H h hw;exact h _ _ _ hw
 |dfr y b ih=>
  intro Q Q' T H h hw;obtain⟨g,l,hg,hw⟩:=hw;refine⟨g,l,hg,ih (λe T H hk=>?_) hw⟩;cases e with
  |exit i=>exact hk
  |normal=>exact hC _ _ _ _ _ (λ_ _ q=>h _ _ _ q) hk
  |ret=>exact hC _ _ _ _ _ (λ_ _ q=>h _ _ _ q) hk
def xB:cK->cK
 | .draw l chk=>bif w9 chk&&vV l then .reg l else .draw l chk
 | .seq a b=>.seq (xB a) (xB b)
 | .cond c a b=>.cond c (xB a) (xB b)
 | .block id c=>.block id (xB c)
 | .loop c=>.loop (xB c)
 | .dfr y b=>.dfr y (xB b)
 |c=>c
def Nu(hC:uk C):∀(c:cK) {Q:pq} {T:bZ} {H:aa},wp C (xB c) Q T H->wp C c Q T H:=by
 intro c;induction c with
 |skip=>intro Q T H hw;exact hw
 |reg l=>intro Q T H hw;exact hw
 |draw l chk=>
  intro Q T H hw;simp only[xB]at hw;cases hb:w9 chk&&vV l with
  |false=>rw[hb]at hw;exact hw
  |true=>rw[hb]at hw;simp only[XA]at hb;simp only[wp,Gc,(fR l hb.2 H.next H).1,(fR l hb.2 H.next H).2];exact JQ hC l (K:=λss T' H'=>DC (H::ss.map (·.2)) l chk ss T/\Q .normal T' H') (λss T' H' hk=>⟨L6 l chk ss T hb.1,hk⟩) hw
 |seq a b iha ihb=>intro Q T H hw;exact Bj hC a (pZ (λ_ _ _ h=>h) λT H hk=>ihb hk) (iha hw)
 |cond c a b iha ihb=>
  intro Q T H hw;obtain⟨v,h1,h2⟩:=hw;refine⟨v,h1,?_⟩;cases v with
  |true=>exact iha h2
  |false=>exact ihb h2
 |block id c ih=>intro Q T H hw;exact ih hw
 |loop c ih=>intro Q T H hw;obtain⟨I,hm,hI⟩:=hw;exact⟨I,hm,λm T H hi=>ih (hI m T H hi)⟩
 |exit id=>intro Q T H hw;exact hw
 |ret=>intro Q T H hw;exact hw
 |dfr y b ih=>intro Q T H hw;obtain⟨g,l,hg,hw⟩:=hw;exact⟨g,l,hg,ih hw⟩
def cN(P:Program)(f:FuncId):Option cf:=match DJ P f with
 |some c=>some ⟨c.nt,xB c.body,c.res⟩
 |none=>none
def ak{P:Program}{N:oF}{f:FuncId}{c:cf}{args:List ae}{H:aa}{K:ae->aa->Prop}(hn:N.is f=false)(hc:cN P f=some c)(hl:Nat.ble args.length c.nt=true)(h:wp (aq P N) c.body (fq c.res K) (AR args) H):aq P N f args H K:=by
 unfold cN at hc;cases hf:DJ P f with
 |none=>rw[hf]at hc;simp at hc
 |some c'=>rw[hf]at hc;simp only[sJ]at hc;subst hc;exact Jy hn hf hl (Nu (cU P N) _ h)
def dI{l:List aD}{chk:List (List Nat)}(h2:vV l=true)(h:fV C l T H λss T' H'=>DC (H::ss.map (·.2)) l chk ss T/\Q .normal T' H'):wp C (.draw l chk) Q T H:=by simp only[wp,Gc,(fR l h2 H.next H).1,(fR l h2 H.next H).2];exact h
end
def MC(a:ae)(r:List ae):AR (a::r) 0=a:=_root_.id rfl
def MB(a b:ae)(r:List ae):AR (a::b::r) 1=b:=_root_.id rfl
def MA(a b c:ae)(r:List ae):AR (a::b::c::r) 2=c:=_root_.id rfl
def Mz(a b c d:ae)(r:List ae):AR (a::b::c::d::r) 3=d:=_root_.id rfl
def My(a b c d e:ae)(r:List ae):AR (a::b::c::d::e::r) 4=e:=_root_.id rfl
def HM(k:IntKind)(a b:Int):cT .lss (.int k a) (.int k b)=some (.bool (decide (a<b))):=by simp[cT,dK,eH,pn]
def HN(k:IntKind)(a b:Int):cT .leq (.int k a) (.int k b)=some (.bool (decide (a<=b))):=by simp[cT,dK,eH,pn]
def HO(k:IntKind)(a b:Int):cT .gtr (.int k a) (.int k b)=some (.bool (decide (b<a))):=by simp[cT,dK,eH,pn]
def HP(k:IntKind)(a b:Int):cT .geq (.int k a) (.int k b)=some (.bool (decide (b<=a))):=by simp[cT,dK,eH,pn]
def HQ(k:IntKind)(a b:Int):cT .eql (.int k a) (.int k b)=some (.bool (decide (a=b))):=by simp only[cT,dK,eH,pn,cond_false,if_true];by_cases h:a=b<;>simp[h]
def HK(k:IntKind)(a b:Int):cT .neq (.int k a) (.int k b)=some (.bool (!decide (a=b))):=by simp only[cT,dK,eH,pn,cond_false,if_true];by_cases h:a=b<;>simp[h,bne]
def AP(k:IntKind)(a b:Int):cT .add (.int k a) (.int k b)=some (.int k (k.wrap (a+b))):=by simp[cT,dK,eH,pn]
def HI(k:IntKind)(a b:Int):cT .sub (.int k a) (.int k b)=some (.int k (k.wrap (a-b))):=by simp[cT,dK,eH,pn]
def HL(k:IntKind)(a b:Int):cT .mul (.int k a) (.int k b)=some (.int k (k.wrap (a*b))):=by simp[cT,dK,eH,pn]
def uO(k:IntKind)(a b:Int)(h:b≠0):cT .rem (.int k a) (.int k b)=some (.int k (a.tmod b)):=by simp[cT,dK,eH,pn,h]
def PC(a b:Nat)(h:a+b<=9223372036854775807):IntKind.i64.wrap ((a:Int)+(b:Int))=((a+b:Nat):Int):=by rw[IntKind.wrap_i64];omega
def dG(a:Nat)(h:a+1<=9223372036854775807):IntKind.i64.wrap ((a:Int)+1)=((a+1:Nat):Int):=by rw[IntKind.wrap_i64];omega
def aZ{α:Type}{l:List α}{i:Nat}(h:i<l.length):∃x,l[i]?=some x:=⟨_,Xx h⟩
def bi{a:Int}(h1:-9223372036854775808<=a)(h2:a<=9223372036854775807):IntKind.i64.wrap a=a:=by rw[IntKind.wrap_i64];omega
end Go.Abs.S
namespace Go.Abs
section
variable {P:Program} {Prot:Gh} {w0:World} {ρ:Pl} {H:aa} {w:World}
def cX.keep(R:cX Prot w0 ρ H w){w':World}(hb:RowKit.Below w.heap.size w w'):cX Prot w0 ρ H w':=by
 refine⟨hb.os.trans R.os,hb.tape.trans R.tape,hb.output.trans R.output,Nat.le_trans R.size hb.size,λc hc=>?_,λb l L h=>?_,λb l L h=>?_,R.free,R.inj,R.dead,R.glob⟩
 ·obtain⟨h1,h2⟩:=R.prot c hc;exact⟨h1,(hb.block c (XL h1 R.size)).trans h2⟩
 ·obtain⟨h1,h2⟩:=R.dom b l L h;exact⟨h1,XL h2 hb.size⟩
 ·obtain⟨x,o,h1,h2,h3⟩:=R.obj b l L h;exact⟨x,o,h1,(hb.block _ (R.dom b l L h).2).trans h2,h3⟩
end
end Go.Abs
namespace Go.Abs.S
open Go.Abs
section
variable {C:CS} {T:bZ} {H:aa} {r:List aD} {d:Option Nat}
abbrev KT:=List (ae×aa)->bZ->aa->Prop
variable {K:KT}
def jg(v:ae)(H:aa)(K:KT):KT:=λss=>K ((v,H)::ss)
def yX(v:ae)(H':aa)(ss:List (ae×aa)):jg v H' K ss T H=K ((v,H')::ss) T H:=_root_.id rfl
def gC(o:Option ae)(C:CS)(r:List aD)(T:bZ)(d:Option Nat)(H:aa)(K:KT):Prop:=dW o λv=>fV C r (kl T d v) H (jg v H K)
def zO(o:Option (ae×aa))(C:CS)(r:List aD)(T:bZ)(d:Option Nat)(K:KT):Prop:=dW o λp=>fV C r (kl T d p.1) p.2 (jg p.1 p.2 K)
def Qm(o:Option aa)(C:CS)(r:List aD)(T:bZ)(d:Option Nat)(K:KT):Prop:=dW o λH'=>fV C r (kl T d cF) H' (jg cF H' K)
def Lp(C:CS)(r:List aD)(T:bZ)(d:Option Nat)(K:KT):ae->aa->Prop:=λv H'=>fV C r (kl T d v) H' (jg v H' K)
def xm(v:ae):gC (some v) C r T d H K=fV C r (kl T d v) H (jg v H K):=aQ _ _
def xn(v:ae)(H':aa):zO (some (v,H')) C r T d K=fV C r (kl T d v) H' (jg v H' K):=aQ _ _
def xk(H':aa):Qm (some H') C r T d K=fV C r (kl T d cF) H' (jg cF H' K):=aQ _ _
def yG(v:ae):Lp C r T d K v H=fV C r (kl T d v) H (jg v H K):=_root_.id rfl
def JX:fV C [] T H K=K [] T H:=_root_.id rfl
open Classical in
def BA(o:jz)(t:Nat)(b:Bool):fV C (⟨d,o,some (t,b)⟩::r) T H K=if T t=.bool b then fV C (⟨d,o,none⟩::r) T H K else fV C r (kl T d cF) H (jg cF H K):=by
 simp only[fV,PW T t];by_cases h:T t=.bool b
 ·rw[if_pos h,h];cases b<;>rfl
 ·rw[if_neg h];have:Sm b (T t)=false:=by
   unfold Sm;cases hv:T t<;>simp only[VN];rename_i v;rw[hv]at h;cases b<;>cases v<;>simp at h ⊢
  rw[this];rfl
open Classical in
def Gf(c a b:bW):fV C (⟨d,.pick c a b,none⟩::r) T H K=if sX T c=.bool true then fV C r (kl T d (sX T a)) H (jg (sX T a) H K)else if sX T c=.bool false then fV C r (kl T d (sX T b)) H (jg (sX T b) H K)else False:=by
 simp only[fV,sG,Is,cond_true];by_cases h:sX T c=.bool true
 ·rw[if_pos h,h];simp;rfl
 ·rw[if_neg h];by_cases h':sX T c=.bool false
  ·rw[if_pos h',h'];simp;rfl
  ·rw[if_neg h'];simp only[eq_iff_iff,iff_false,not_exists,not_and];intro v hv;cases v
   ·exact absurd hv h'
   ·exact absurd hv h
def PM(x:bW):fV C (⟨d,.mv x,none⟩::r) T H K=fV C r (kl T d (sX T x)) H (jg (sX T x) H K):=_root_.id rfl
def JY(z:List ae):fV C (⟨d,.new z,none⟩::r) T H K=fV C r (kl T d (ga H z).1) (ga H z).2 (jg (ga H z).1 (ga H z).2 K):=_root_.id rfl
def J1(x:bW):fV C (⟨d,.box x,none⟩::r) T H K=fV C r (kl T d (ga H (sX T x).cells).1) (ga H (sX T x).cells).2 (jg (ga H (sX T x).cells).1 (ga H (sX T x).cells).2 K):=_root_.id rfl
def BD(z:List ae)(ps:List (Nat×Nat×bW)):fV C (⟨d,.build z ps,none⟩::r) T H K=gC (aJ z (rY T ps)) C r T d H K:=_root_.id rfl
def vz(n:Nat)(z:List ae)(ps:List (Nat×Nat×bW)):fV C (⟨d,.buildSl n z ps,none⟩::r) T H K=zO (aL n z H (rY T ps)) C r T d K:=_root_.id rfl
def Gg(a:Bool)(n:Nat)(x:bW):fV C (⟨d,.load a n x,none⟩::r) T H K=gC (al a n H (sX T x)) C r T d H K:=_root_.id rfl
def Bw(n:Nat)(a x:bW):fV C (⟨d,.store n a x,none⟩::r) T H K=Qm (bh n H (sX T a) (sX T x)) C r T d K:=_root_.id rfl
def yf(x:bW):fV C (⟨d,.nilChk x,none⟩::r) T H K=gC (dt (sX T x)) C r T d H K:=_root_.id rfl
def J2(op:BinOp)(x y:bW):fV C (⟨d,.bin op x y,none⟩::r) T H K=gC (cT op (sX T x) (sX T y)) C r T d H K:=_root_.id rfl
def PH(op:UnOp)(x:bW):fV C (⟨d,.un op x,none⟩::r) T H K=gC (MQ op (sX T x)) C r T d H K:=_root_.id rfl
def Gl(k:IntKind)(x:bW):fV C (⟨d,.conv k x,none⟩::r) T H K=gC (uj k (sX T x)) C r T d H K:=_root_.id rfl
def yj(x:bW):fV C (⟨d,.convSB x,none⟩::r) T H K=zO (RZ H (sX T x)) C r T d K:=_root_.id rfl
def yk(x:bW):fV C (⟨d,.convBS x,none⟩::r) T H K=gC (FX H (sX T x)) C r T d H K:=_root_.id rfl
def yg(fn:Fn)(a b:List bW):fV C (⟨d,.mkFunc fn a b,none⟩::r) T H K=fV C r (kl T d (.func fn (lC T a) (lC T b))) H (jg (.func fn (lC T a) (lC T b)) H K):=_root_.id rfl
def vx(t:TypeId)(x:bW):fV C (⟨d,.mkIface t x,none⟩::r) T H K=fV C r (kl T d (.iface t (sX T x))) H (jg (.iface t (sX T x)) H K):=_root_.id rfl
def vw(b:Nat)(z:List ae)(l c:bW):fV C (⟨d,.mkSlice b z l c,none⟩::r) T H K=zO (Ij b z H (sX T l) (sX T c)) C r T d K:=_root_.id rfl
def PI(n:Nat)(x:bW)(lo hi mx:Option bW):fV C (⟨d,.sl n x lo hi mx,none⟩::r) T H K=gC (Ii n (sX T x) (kB T lo) (kB T hi) (kB T mx)) C r T d H K:=_root_.id rfl
def Bz(x:bW)(lo hi:Option bW):fV C (⟨d,.slStr x lo hi,none⟩::r) T H K=gC (eU (sX T x) (kB T lo) (kB T hi)) C r T d H K:=_root_.id rfl
def yi(o:Nat)(x:bW):fV C (⟨d,.fieldA o x,none⟩::r) T H K=gC (jq o (sX T x)) C r T d H K:=_root_.id rfl
def BB(a:Bool)(n o:Nat)(x:bW):fV C (⟨d,.field a n o x,none⟩::r) T H K=gC (pg a n o (sX T x)) C r T d H K:=_root_.id rfl
def Gk(n:Nat)(x i:bW):fV C (⟨d,.idxA n x i,none⟩::r) T H K=gC (jk n (sX T x) (sX T i)) C r T d H K:=_root_.id rfl
def yh(m n:Nat)(x i:bW):fV C (⟨d,.idxArr m n x i,none⟩::r) T H K=gC (kU m n (sX T x) (sX T i)) C r T d H K:=_root_.id rfl
def J0(m n:Nat)(a:Bool)(x i:bW):fV C (⟨d,.idx m n a x i,none⟩::r) T H K=gC (Dt m n a (sX T x) (sX T i)) C r T d H K:=_root_.id rfl
def Gj(x i:bW):fV C (⟨d,.idxS x i,none⟩::r) T H K=gC (lU (sX T x) (sX T i)) C r T d H K:=_root_.id rfl
def vy(i:Nat)(x:bW):fV C (⟨d,.extract i x,none⟩::r) T H K=gC (gA i (sX T x)) C r T d H K:=_root_.id rfl
def yl(n b:Nat)(s x:bW):fV C (⟨d,.append n b s x,none⟩::r) T H K=zO (a8 n b H (sX T s) (sX T x)) C r T d K:=_root_.id rfl
def JZ(s:Bool)(x:bW):fV C (⟨d,.len s x,none⟩::r) T H K=gC (ez s (sX T x)) C r T d H K:=_root_.id rfl
def Gm(f:FuncId)(args:List bW):fV C (⟨d,.call f args,none⟩::r) T H K=C f (lC T args) H (Lp C r T d K):=_root_.id rfl
def BC(f:bW)(args:List bW):fV C (⟨d,.callv f args,none⟩::r) T H K=qf C (sX T f) (lC T args) H (Lp C r T d K):=_root_.id rfl
def PL(f:PF)(xs:List bW):fV C (⟨d,.pf f xs,none⟩::r) T H K=gC (mV f (lC T xs)) C r T d H K:=_root_.id rfl
def PN(f:HF)(xs:List bW):fV C (⟨d,.hf f xs,none⟩::r) T H K=zO (kj f H (lC T xs)) C r T d K:=_root_.id rfl
def JW(m n:Nat)(x:bW)(lo hi mx:Option bW):fV C (⟨d,.slA m n x lo hi mx,none⟩::r) T H K=gC (j9 m n (sX T x) (kB T lo) (kB T hi) (kB T mx)) C r T d H K:=_root_.id rfl
def ci(hs:List aa)(o:aD)(l:List aD)(ps:List (List Nat))(v:ae)(Hv:aa)(ss:List (ae×aa)):DC hs (o::l) ([]::ps) ((v,Hv)::ss) T=DC hs l ps ss (kl T o.dst v):=by simp[DC]
def Nk(hs:List aa)(ps:List Nat)(T:bZ)(o:aD)(v:ae):Prop:=∀p∈ps,∃Hp,hs[p]?=some Hp/\(sG T o.guard=true->∃u,T5 T Hp o.op=some u/\aeq u v=true)
def cj(hs:List aa)(o:aD)(l:List aD)(p:Nat)(q:List Nat)(ps:List (List Nat))(v:ae)(Hv:aa)(ss:List (ae×aa)):DC hs (o::l) ((p::q)::ps) ((v,Hv)::ss) T=(Nk hs (p::q) T o v/\DC hs l ps ss (kl T o.dst v)):=by simp[DC,Nk]
def cQ(hs:List aa)(ps:List (List Nat))(ss:List (ae×aa)):DC hs [] ps ss T=True:=by cases ps<;>simp[DC]
def cm(hs:List aa)(o:aD)(v:ae):Nk hs [] T o v=True:=by simp[Nk]
def bP(hs:List aa)(p:Nat)(q:List Nat)(a:Bool)(n:Nat)(x:bW)(g:Option (Nat×Bool))(v:ae):Nk hs (p::q) T ⟨d,.load a n x,g⟩ v=((∃Hp,hs[p]?=some Hp/\(sG T g=true->∃u,al a n Hp (sX T x)=some u/\aeq u v=true))/\Nk hs q T ⟨d,.load a n x,g⟩ v):=by simp[Nk,T5]
def dM(k:IntKind)(a:Int):aeq (.int k a) (.int k a)=true:=by simp[aeq,gd]
def uR(a:List UInt8):aeq (.str a) (.str a)=true:=by simp[aeq]
end
end Go.Abs.S
namespace Go.Abs.S
open Go.Abs
def aC(H:aa)(l:List ae){n:Nat}(hn:l.length=n):∃H',ga H l=(ah H.next n 0,H')/\be H' H.next l/\H'.next=H.next+1/\∀c,c≠H.next->H'.get c=H.get c:=by subst hn;exact⟨_,rfl,gq _ _,rfl,λc hc=>by rw[aa.get_push,if_neg hc]⟩
def aG(l:List ae):(ae.agg l).cells=l:=_root_.id rfl
def bv(x:ae)(r:List ae):gA 0 (.tuple (x::r))=some x:=_root_.id rfl
def bu(x y:ae)(r:List ae):gA 1 (.tuple (x::y::r))=some y:=_root_.id rfl
def uQ{b n i:Nat}(h:i<n)(k:IntKind):kU n 1 (ah b n 0) (.int k (i:Int))=some (ah b n i):=by
 show(bif Nat.blt i n then some (ae.ptr (some ⟨b,n,0+i*1⟩))else none)=_;have:Nat.blt i n=true:=by simpa[Nat.blt_eq]using h
 rw[this,Nat.zero_add,Nat.mul_one];rfl
def aS.of_new{H H':aa}{b:Nat}(hn:H'.next=H.next+1)(h:∀c,c≠b->H'.get c=H.get c){n:Nat}(hb:n<=b):aS n H H':=⟨om,λc hc=>h c om⟩
end Go.Abs.S
namespace Go.Abs.S
open Go.Abs Go.WideShapes Go.ChangeShapes
variable {H:Type} {enc:TypeId×Value->H}
end Go.Abs.S
namespace Go.Abs.S
open Go.Abs
def fo.src{n:Nat}{H:aa}{s:ae}{l:List ae}(h:fo n H s l):gz 1 H s=some (l.length,l):=by
 rcases h with⟨h,rfl⟩|⟨a,r,rfl,_,h⟩
 ·rcases gS h with rfl|⟨a,rfl⟩<;>rfl
 ·simp only[gz,Nat.mul_one,h]
def im{C:CS}{c:cK}{id:Nat}{Q:pq}{T:bZ}{H:aa}(F:bZ->aa->Prop)(hC:uk C)(h:wp C c (nM id (nI Q F)) T H)(k:∀T H,F T H->Q .normal T H):wp C c (nM id Q) T H:=by
 refine Bj hC c (λe T H hq=>?_) h;cases e with
 |normal=>exact k _ _ hq
 |ret=>exact hq
 |exit j=>
  simp only[nM]at hq ⊢;cases hb:Nat.beq j id with
  |true=>rw[hb]at hq;exact k _ _ hq
  |false=>rw[hb]at hq;exact hq
end Go.Abs.S
namespace Go.Abs.S
open Go.Abs
def Gt(s:List UInt8):ez true (.str s)=some (.int .i64 (s.length:Int)):=_root_.id rfl
def bA{s:List UInt8}{i:Nat}{b:UInt8}(h:s[i]?=some b)(k:IntKind):lU (.str s) (.int k (i:Int))=some (.int .u8 (b.toNat:Int)):=by
 show(match (s[i]?:Option UInt8)with|some b=>some (ae.int .u8 b.toNat)|none=>none)=_;rw[h]
def wV{y n:Nat}(h:n<=y):bd (.int .i64 (n:Int)) y=some n:=by show(bif Nat.ble n y then some n else none)=_;rw[Xz h];rfl
def pL{s:List UInt8}{l h:Nat}(h1:l<=h)(h2:h<=s.length):eU (.str s) (some (.int .i64 (l:Int))) (some (.int .i64 (h:Int)))=some (.str ((s.drop l).take (h-l))):=by simp only[eU,rU,DK,wV h2,wV h1]
def Gr{s:List UInt8}{l:Nat}(h1:l<=s.length):eU (.str s) (some (.int .i64 (l:Int))) none=some (.str (s.drop l)):=by simp only[eU,rU,DK,wV h1];rw[List.take_of_length_le (by simp)]
def uw{s:List UInt8}{h:Nat}(h2:h<=s.length):eU (.str s) none (some (.int .i64 (h:Int)))=some (.str (s.take h)):=by simp only[eU,rU,DK,wV h2,List.drop_zero,Nat.sub_zero]
def Gu(x y:List UInt8):cT .eql (.str x) (.str y)=some (.bool (decide (x=y))):=by simp only[cT,MR];by_cases h:x=y<;>simp[h]
def Gs(x y:List UInt8):cT .neq (.str x) (.str y)=some (.bool (!decide (x=y))):=by simp only[cT,MR];by_cases h:x=y<;>simp[h]
def gD{x y:List UInt8}(h:x.length+y.length<=9223372036854775807):cT .add (.str x) (.str y)=some (.str (x++y)):=by simp only[cT,MR,Xz h,cond_true]
def mA(k k':IntKind)(n:Int):uj k (.int k' n)=some (.int k (k.wrap n)):=by simp only[uj,mX]
def JU(b:Bool):MQ .not (.bool b)=some (.bool (!b)):=_root_.id rfl
def uP(k:IntKind)(a b:Int)(h:b≠0):cT .quo (.int k a) (.int k b)=some (.int k (k.wrap (a.tdiv b))):=by simp[cT,dK,eH,pn,h]
def Ph(k k':IntKind)(a:Int)(b:Nat):cT .shl (.int k a) (.int k' (b:Int))=some (.int k (k.wrap (a*2 ^ (min b k.bits)))):=by simp only[cT,dK,cond_true,qp,tC];rw[if_neg om];rfl
def Pg(k k':IntKind)(a:Int)(b:Nat):cT .shr (.int k a) (.int k' (b:Int))=some (.int k (a.fdiv (2 ^ (min b k.bits)))):=by simp only[cT,dK,cond_true,qp,tC];rw[if_neg om];rfl
def vi(b:Bool):(cF=ae.bool b)=False:=by simp[cF]
def fZ{a:Int}(h1:0<=a)(h2:a<=255):IntKind.u8.wrap a=a:=IntWalk.u8_in _ ⟨h1,h2⟩
end Go.Abs.S
namespace Go.Abs.S
open Go.Abs
def yz(n m:Nat):(BitVec.ofInt m (n:Int)).toNat=n % 2 ^ m:=by rw[BitVec.toNat_ofInt];omega
def PD{a:Nat}(h:a<2 ^ 63):IntKind.i64.wrap (a:Int)=a:=by rw[IntKind.wrap_i64];omega
def HJ{a b:Nat}(ha:a<2 ^ 63)(hb:b<2 ^ 63):cT .or (.int .i64 (a:Int)) (.int .i64 (b:Int))=some (.int .i64 ((a ||| b:Nat):Int)):=by
 have e:(BitVec.ofInt IntKind.i64.bits (a:Int) ||| BitVec.ofInt IntKind.i64.bits (b:Int)).toNat=a ||| b:=by rw[BitVec.toNat_or,yz,yz];have h1:a % 2 ^ IntKind.i64.bits=a:=Nat.mod_eq_of_lt (by simp only[IntKind.bits];omega);have h2:b % 2 ^ IntKind.i64.bits=b:=Nat.mod_eq_of_lt (by simp only[IntKind.bits];omega);rw[h1,h2]
 simp only[cT,dK,cond_false,if_true,eH,pn,e];rw[PD (Nat.or_lt_two_pow ha hb)]
def Df{k':IntKind}{a b:Nat}(hb:b<=63)(h:a*2 ^ b<2 ^ 63):cT .shl (.int .i64 (a:Int)) (.int k' (b:Int))=some (.int .i64 ((a*2 ^ b:Nat):Int)):=by
 rw[Ph];have e:min b IntKind.i64.bits=b:=by simp only[IntKind.bits];omega
 rw[e];have e2:(a:Int)*2 ^ b=((a*2 ^ b:Nat):Int):=by simp
 rw[e2,PD h]
def KJ(n a:Nat){b:Nat}(h:b<2 ^ n):a*2 ^ n ||| b=a*2 ^ n+b:=by rw[Nat.mul_comm,Nat.two_pow_add_eq_or_of_lt h]
def KA(a b:Int):mV (.mm false) [.int .i64 a,.int .i64 b]=some (.int .i64 (if b<a then b else a)):=by simp only[mV,MS,Sa,MU,v6,cond_false];by_cases h:b<a<;>simp[h]
def lE(l:List Nat):List ae:=l.map λn:Nat=>.int .u8 (n:Int)
def kp(l:List Nat):(lE l).length=l.length:=by simp[lE]
def Nw{l:List Nat}{i:Nat}{n:Nat}(h:l[i]?=some n):(lE l)[i]?=some (.int .u8 (n:Int)):=by simp[lE,h]
def zW(l:List Nat)(i n:Nat):lE (l.set i n)=(lE l).set i (.int .u8 (n:Int)):=by simp[lE]
end Go.Abs.S
namespace Go.Abs.S
open Go.Abs
def iM{a:Int}(h1:0<=a)(h2:a<4294967296):IntKind.u32.wrap a=a:=by rw[IntKind.wrap_u32];omega
def JN{a:Int}(h1:0<=a)(h2:a<18446744073709551616):IntKind.u64.wrap a=a:=by rw[IntKind.wrap_u64];omega
def sK{a:Nat}(b:Nat)(h:0<b)(ha:a<4294967296):cT .quo (.int .u32 (a:Int)) (.int .u32 (b:Int))=some (.int .u32 ((a / b:Nat):Int)):=by rw[uP _ _ _ om];have:(a:Int).tdiv b=((a / b:Nat):Int):=rfl;have h2:=Nat.div_le_self a b;rw[this,iM (Int.natCast_nonneg _) (by generalize a / b=q at *;omega)]
def sH{a:Nat}(b:Nat)(h:0<b):cT .rem (.int .u32 (a:Int)) (.int .u32 (b:Int))=some (.int .u32 ((a % b:Nat):Int)):=by rw[uO _ _ _ om];rfl
def Ew{a:Nat}(b:Nat)(h:0<b)(ha:a<18446744073709551616):cT .quo (.int .u64 (a:Int)) (.int .u64 (b:Int))=some (.int .u64 ((a / b:Nat):Int)):=by rw[uP _ _ _ om];have:(a:Int).tdiv b=((a / b:Nat):Int):=rfl;have h2:=Nat.div_le_self a b;rw[this,JN (Int.natCast_nonneg _) (by generalize a / b=q at *;omega)]
def vL{a:Nat}(b:Nat)(h:0<b):cT .rem (.int .u64 (a:Int)) (.int .u64 (b:Int))=some (.int .u64 ((a % b:Nat):Int)):=by rw[uO _ _ _ om];rfl
def BO(k k':IntKind)(a:Nat){b:Nat}(hb:b<=k.bits):cT .shr (.int k (a:Int)) (.int k' (b:Int))=some (.int k ((a / 2 ^ b:Nat):Int)):=by
 rw[Pg,Nat.min_eq_left hb];congr 2;have:((2:Int) ^ b)=((2 ^ b:Nat):Int):=by simp
 rw[this,Int.fdiv_eq_ediv_of_nonneg _ (Int.natCast_nonneg _)];rfl
def eJ(s:List UInt8):List ae:=s.map λb=>.int .u8 (b.toNat:Int)
def wS(s:List UInt8):(eJ s).length=s.length:=by simp[eJ]
def C9(s t:List UInt8):eJ (s++t)=eJ s++eJ t:=by simp[eJ]
def Mm(s:List UInt8):(eJ s).all ae.one=true:=by simp[eJ,ae.one]
def ij:∀s:List UInt8,bytesOf (eJ s)=some s
 | []=>rfl
 |b::s=>by
  have h:=ij s;show(match bytesOf (eJ s)with|some l=>some (UInt8.ofNat (Int.toNat (b.toNat:Int))::l)|none=>none)=_;rw[h];simp
def NO(H:aa)(s:List UInt8):gz 1 H (.str s)=some (s.length,eJ s):=_root_.id rfl
def FN(b cap n:Nat):ae:=.slice (some ⟨b,cap,0⟩) n (.known cap)
def Xu(H:aa)(b cap:Nat)(s:List UInt8):Prop:=∃l,be H b l/\l.length=cap/\l.take s.length=eJ s
def Xk{H:aa}{b cap:Nat}{s:List UInt8}(hb:Xu H b cap s)(hf:s.length<=cap):FX H (FN b cap s.length)=some (.str s):=by
 obtain⟨l,⟨low,h1,h2⟩,h3,h4⟩:=hb;have hr:bH H ⟨b,cap,0⟩ s.length=some (eJ s):=by unfold bH;simp only[h1,Xz (show low<=cap by omega),Xz (show cap<=l.length by omega),Nat.zero_add,Xz hf,Bool.and_self,cond_true,List.drop_zero,h4]
 simp only[FX,FN,hr,ij]
def Pd{H:aa}{b cap:Nat}{s:List UInt8}(hb:Xu H b cap s)(hf:s.length<=cap):gz 1 H (FN b cap s.length)=some (s.length,eJ s):=by
 obtain⟨l,⟨low,h1,h2⟩,h3,h4⟩:=hb;have hr:bH H ⟨b,cap,0⟩ s.length=some (eJ s):=by unfold bH;simp only[h1,Xz (show low<=cap by omega),Xz (show cap<=l.length by omega),Nat.zero_add,Xz hf,Bool.and_self,cond_true,List.drop_zero,h4]
 simp only[gz,FN,Nat.mul_one,hr]
def Gz{b cap k:Nat}(h:k<=cap)(hc:0<cap):j9 cap 1 (ah b cap 0) none (some (.int .i64 (k:Int))) none=some (FN b cap k):=by
 have e:Nat.beq cap 0=false:=by rw[ch];exact decide_eq_false om
 simp only[j9,ah,rU,DK,wV h,Option.getD_none,e,cond_false,Nat.zero_mul,Nat.add_zero,Nat.sub_zero,FN]
def AW(H:aa)(g:Nat)(l:List ae):Prop:=H.get g=some (.cells l 0 true)
def Ri{H:aa}{g n:Nat}{l:List ae}(h:AW H g l)(hn:l.length=n){i:Nat}(hi:i<n)(k:IntKind):kj (.gIdx g n 1) H [.int k (i:Int)]=some (ah g n i,H):=by
 have:EV H g=some (ah g n 0):=by unfold EV;rw[h,<- hn];rfl
 simp only[kj,MW,this,uQ hi]
def OI{H:aa}{g n:Nat}{l:List ae}(h:AW H g l)(hn:l.length=n){i:Nat}{x:ae}(hi:l[i]?=some x):al false 1 H (ah g n i)=some x:=by subst hn;have hlt:=(Xy.1 hi).1;obtain⟨y,h4,h5⟩:=Kw (fA h (Nat.zero_le _)) hlt;rw[hi]at h4;simp only[sJ]at h4;subst h4;simp only[Nat.zero_add]at h5;simp only[al,ah,h5,cond_false]
def AW.ext{n g:Nat}{H H':aa}{l:List ae}(h:AW H g l)(hg:g<n)(e:aS n H H'):AW H' g l:=(e.old g hg).trans h
def am{H:aa}{b n:Nat}{l:List ae}(h:be H b l)(hn:l.length=n){xs:List ae}(hx:xs.length=n)(ho:xs.all ae.one=true) :
  ∃H',bh n H (ah b n 0) (.agg xs)=some H'/\be H' b xs/\H'.next=H.next/\∀c,c≠b->H'.get c=H.get c:=by
 subst hn;obtain⟨low,h1,h2⟩:=h;refine⟨H.set b (.cells xs l.length false),?_,⟨l.length,by rw[aa.get_set,if_pos rfl],om⟩,rfl,λc hc=>by rw[aa.get_set,if_neg hc]⟩;simp only[bh,ah,aG,hx,Nat.beq_refl,cond_true];unfold eP;simp only[h1,hx,Xz h2,Nat.beq_refl,Nat.zero_add,Xz rL,ho,Bool.and_self,cond_true,List.take_zero,List.nil_append,List.drop_length,List.append_nil]
def aw{H:aa}{b n:Nat}{l:List ae}(h:be H b l)(hn:l.length=n):al true n H (ah b n 0)=some (.agg l):=by subst hn;obtain⟨low,h1,h2⟩:=h;simp only[al,ah,fA h1 h2,cond_true]
def fld0(b n o:Nat):jq o (ah b n 0)=some (ah b n o):=by simp only[jq,ah,Nat.zero_add]
def gb{T:bZ}{H:aa}(g:Bool)(n i:Nat)(K:ae->aa->Prop){v:ae}(h:al g n H (T i)=some v)(hk:K v H):fq [.cell g n i] K .ret T H:=by simp only[fq,pj,h,aQ];exact hk
def nT{T:bZ}{H:aa}(g g':Bool)(n n' i i':Nat)(K:ae->aa->Prop){v v':ae}(h:al g n H (T i)=some v)(h':al g' n' H (T i')=some v')(hk:K (.tuple [v,v']) H):fq [.cell g n i,.cell g' n' i'] K .ret T H:=by simp only[fq,pj,h,h',aQ];exact hk
def Az{T:bZ}{H:aa}(K:ae->aa->Prop):fq [] K .normal T H=K (.tuple []) H:=by simp only[fq,pj,aQ];rfl
end Go.Abs.S
namespace Go.Abs.S
open Go.Abs
def bs_cel{n:Nat}{H:aa}{s:ae}{t:List UInt8}(h:fo n H s (eJ t)):FX H s=some (.str t):=by
 rcases h with⟨h,h2⟩|⟨a,r,rfl,_,h3⟩
 ·have ht:t=[]:=by simpa[eJ]using h2
  subst ht;rcases gS h with rfl|⟨a,rfl⟩<;>rfl
 ·simp only[FX,h3,ij]
end Go.Abs.S
namespace Go.Abs.S
open Go.Abs Go.WideShapes Go.ChangeShapes
variable {H:Type} {enc:TypeId×Value->H}
end Go.Abs.S
namespace Go.Abs.S
open Go.Abs Go.WideShapes Go.ChangeShapes
variable {H:Type} {enc:TypeId×Value->H}
def Me{w:World}{b:Nat}{c off:Nat}{n:Nat}{cs:List Value}(h:w.cells? b ⟨c,off,none⟩ n=some cs):cs.length=n/\∀i,i<n->w.cell? ⟨c,off+i,none⟩=cs[i]?:=by
 unfold World.cells? at h;split at h
 ·have key:∀(l:List Nat) (cs:List Value),l.mapM (λi=>w.cell? ((⟨c,off,none⟩:Addr).add i))=some cs->cs.length=l.length/\∀(i j:Nat),l[i]?=some j->w.cell? ((⟨c,off,none⟩:Addr).add j)=cs[i]?:=by
   intro l;induction l with
   |nil=>intro cs h;simp at h;subst h;simp
   |cons x l ih=>
    intro cs h;simp only[List.mapM_cons]at h;cases hx:w.cell? ((⟨c,off,none⟩:Addr).add x)with
    |none=>rw[hx]at h;simp at h
    |some v=>
     rw[hx]at h;cases hr:l.mapM (λi=>w.cell? ((⟨c,off,none⟩:Addr).add i))with
     |none=>rw[hr]at h;simp at h
     |some vs=>
      rw[hr]at h;simp at h;subst h;obtain⟨h1,h2⟩:=ih vs hr;refine⟨by simp[h1],λi j hj=>?_⟩;cases i with
      |zero=>simp at hj;subst hj;simpa using hx
      |succ i=>simpa using h2 i j (by simpa using hj)
  obtain⟨h1,h2⟩:=key _ _ h;refine⟨by simpa using h1,λi hi=>?_⟩;have:=h2 i i (by simp[hi]);rwa [et]at this
 ·simp at h
end Go.Abs.S
namespace Go.Abs.S
open Go.Abs Go.WideShapes Go.ChangeShapes
variable {H:Type} {enc:TypeId×Value->H}
end Go.Abs.S
namespace Go.Abs.S
open Go.Abs
def jy(m n:Nat)(H:aa)(s:ae)(L:List ae)(k:Nat):Prop:=(s=aX/\L=[]/\k=0)∨∃b low,s=.slice (some ⟨b,L.length,0⟩) k (.open_ m)/\L.length=m*k/\n<=b/\b<H.next/\H.get b=some (.cells L low false)/\low<=L.length/\0<k
def jy.nil(m n:Nat)(H:aa):jy m n H aX [] 0:=.inl ⟨rfl,rfl,rfl⟩
def jy.len{m n k:Nat}{H:aa}{s:ae}{L:List ae}(h:jy m n H s L k):ez false s=some (.int .i64 (k:Int)):=by rcases h with⟨rfl,_,rfl⟩|⟨b,low,rfl,_⟩<;>rfl
def jy.blk{m n k:Nat}{H:aa}{s:ae}{L:List ae}(h:jy m n H s L k):∀a j r,s=.slice (some a) j r->a.b<H.next:=by
 intro a j r he;rcases h with⟨rfl,_⟩|⟨b,low,rfl,_,_,h4,_⟩
 ·simp[aX]at he
 ·simp only[ae.slice.injEq,sJ]at he;rw[<- he.1];exact h4
def pU(H:aa)(m:Nat):ae:=.slice (some ⟨H.next,m,0⟩) 1 (.known 1)
def ot{m:Nat}{z xs:List ae}(H:aa)(hz:z.length=m)(hx:xs.length=m):aL 1 z H [(0,m,.agg xs)]=some (pU H m,H.push (.cells xs 0 false)):=by
 subst hz;have hb:Nat.beq xs.length z.length=true:=by rw[hx];exact Nat.beq_refl _
 simp only[aL,BS,List.append_nil,kV,aG,hx,Nat.beq_refl,Nat.zero_add,Xz rL,Bool.and_self,cond_true,pM,List.take_zero,List.nil_append,List.drop_length,List.append_nil,pU]
def QH{m:Nat}{xs:List ae}(H:aa)(hx:xs.length=m):gz m (H.push (.cells xs 0 false)) (pU H m)=some (1,xs):=by subst hx;have:=fA (H:=H.push (.cells xs 0 false)) (b:=H.next) (l:=xs) (low:=0) (ro:=false) (by rw[aa.get_push,if_pos rfl]) (Nat.zero_le _);simp only[gz,pU,Nat.one_mul,this]
def jy.push{m n k:Nat}{H:aa}{s:ae}{L:List ae}(h:jy m n H s L k)(hn:n<=H.next){xs:List ae}(hx:xs.length=m)(ho:xs.all ae.one=true)(hm:0<m){bytes:Nat}(hb:2*(k+1)*bytes<=281474976710656)(hb1:0<bytes) :
  ∃s' H',a8 m bytes (H.push (.cells xs 0 false)) s (pU H m)=some (s',H')/\jy m n H' s' (L++xs) (k+1)/\aS n H H'/\∀c,c<H.next->(∀a j r,s=.slice (some a) j r->c≠a.b)->H'.get c=H.get c:=by
 have hlen:k+1<=9223372036854775807:=by have:2*(k+1)<=2*(k+1)*bytes:=Nat.le_mul_of_pos_right _ hb1;omega
 have hlt:Nat.blt 0 m=true:=by simpa[Nat.blt_eq]using hm
 have c1:∀j,j=k->(Nat.blt 0 m&&(Nat.ble ((2*(j+1)+0)*bytes) 281474976710656&&(Nat.ble (j+1) 9223372036854775807&&(Nat.beq xs.length (1*m)&&xs.all ae.one))))=true:=by intro j hj;subst hj;simp only[Nat.add_zero,Xz hb,Xz hlen,hx,Nat.one_mul,Nat.beq_refl,ho,hlt,Bool.and_self]
 rcases h with⟨rfl,rfl,rfl⟩|⟨b,low,rfl,h2,h3,h4,h5,h6,h7⟩
 ·refine⟨.slice (some ⟨H.next+1,m,0⟩) 1 (.open_ m),(H.push (.cells xs 0 false)).push (.cells xs 0 false),?_,.inr ⟨H.next+1,0,by simp[hx],by simp[hx],om,Nat.lt_succ_self _,?_,Nat.zero_le _,om⟩,((aS.refl n H).push hn _).push (by rw[aV];omega) _,λc hc _=>by rw[aa.get_push,if_neg (by rw[aV];omega),aB hc]⟩
  ·simp only[a8,QH H hx,aX];rw[show Nat.beq 1 0=false from rfl,cond_false,c1 0 rfl,cond_true,hx];rfl
  ·rw[aa.get_push];exact if_pos rfl
 ·have hg:(H.push (.cells xs 0 false)).get b=some (.cells L low false):=by rw[aa.get_push,if_neg om];exact h5
  have hgrow:df (H.push (.cells xs 0 false)) ⟨b,L.length,0⟩ L.length xs=some ((H.push (.cells xs 0 false)).set b (.cells (L++xs) low false)):=by unfold df;simp only[hg,Xz h6,Xz rL,Xz (Nat.zero_le _),Xz (show L.length+1<=L.length+xs.length by omega),Nat.beq_refl,ho,Bool.and_self,cond_true,List.take_length]
  refine⟨.slice (some ⟨b,L.length+m,0⟩) (k+1) (.open_ m),(H.push (.cells xs 0 false)).set b (.cells (L++xs) low false),?_,.inr ⟨b,low,by simp[hx],by rw[lA,h2,hx,Nat.mul_add,Nat.mul_one],h3,by rw[eX,aV];omega,by rw[aa.get_set,if_pos rfl],by simp;omega,om⟩,((aS.refl n H).push hn _).set h3 _,λc hc hd=>by rw[aa.get_set,if_neg (hd _ _ _ rfl),aB hc]⟩;have e0:0+k*m=L.length:=by rw[h2,Nat.mul_comm];omega
  have e1:Nat.ble (0+(k+1)*m) L.length=false:=by rw[iT];refine decide_eq_false ?_;rw[Nat.add_mul,Nat.one_mul];omega
  simp only[a8,QH H hx];rw[show Nat.beq 1 0=false from rfl,cond_false,c1 k rfl,cond_true];simp only[Nat.beq_refl,cond_true,e1,cond_false,e0,hgrow,hx]
def Ra{b lim k m:Nat}(K:IntKind){i:Nat}(h:i<k):jk m (.slice (some ⟨b,lim,0⟩) k (.open_ m)) (.int K (i:Int))=some (ah b lim (i*m)):=by
 show(bif Nat.blt i k then some (ae.ptr (some ⟨b,lim,0+i*m⟩))else none)=_;have:Nat.blt i k=true:=by simpa[Nat.blt_eq]using h
 rw[this,Nat.zero_add];rfl
end Go.Abs.S
namespace Go.Abs.S
open Go.Abs
def bx(v:ae)(P:Nat->Prop):Prop:=∀a m r,v=.slice (some a) m r->P a.b
def bx.mono{v:ae}{P Q:Nat->Prop}(h:bx v P)(k:∀b,P b->Q b):bx v Q:=λa m r e=>k _ (h a m r e)
def OC{s:ae}(h:Q7 s=true):s.one=true:=by rcases gS h with rfl|⟨a,rfl⟩<;>rfl
def cP(P:Nat->Prop):bx aX P:=by intro a m r h;simp[aX]at h
def cp{a:Ad}{m:Nat}{r:xj}{P:Nat->Prop}(h:P a.b):bx (.slice (some a) m r) P:=by intro a' m' r' e;simp only[ae.slice.injEq,sJ]at e;rw[<- e.1];exact h
def iF{H:aa}{b n:Nat}{l:List ae}(h:be H b l)(hn:l.length=n){i k:Nat}(hik:i+k<=n):bH H ⟨b,n,i⟩ k=some ((l.drop i).take k):=by subst hn;obtain⟨low,h1,h2⟩:=h;unfold bH;simp only[h1,Xz h2,Xz rL,Xz hik,Bool.and_self,cond_true]
def gQ{H:aa}{b n:Nat}{l:List ae}(h:be H b l)(hn:l.length=n){i k:Nat}(hik:i+k<=n):al true k H (ah b n i)=some (.agg ((l.drop i).take k)):=by simp only[al,ah,iF h hn hik,cond_true]
def Ep{H:aa}{b n:Nat}{l:List ae}(h:be H b l)(hn:l.length=n){i k:Nat}(hik:i+k<=n){xs:List ae}(hx:xs.length=k)(ho:xs.all ae.one=true) :
  ∃H',bh k H (ah b n i) (.agg xs)=some H'/\be H' b (l.take i++(xs++l.drop (i+k)))/\H'.next=H.next/\∀c,c≠b->H'.get c=H.get c:=by
 subst hn hx;obtain⟨low,h1,h2⟩:=h;refine⟨H.set b (.cells (l.take i++(xs++l.drop (i+xs.length))) l.length false),?_,⟨l.length,by rw[aa.get_set,if_pos rfl],by simp;omega⟩,rfl,λc hc=>by rw[aa.get_set,if_neg hc]⟩;simp only[bh,ah,aG,Nat.beq_refl,cond_true];unfold eP;simp only[h1,Xz h2,Nat.beq_refl,Xz hik,ho,Bool.and_self,cond_true]
def aA(b n i o:Nat):jq o (ah b n i)=some (ah b n (i+o)):=_root_.id rfl
def az(b n i:Nat):dt (ah b n i)=some (ah b n i):=_root_.id rfl
def jy.blk'{m n k:Nat}{H:aa}{s:ae}{L:List ae}(h:jy m n H s L k):bx s (·<H.next):=λa j r e=>h.blk a j r e
def jy.same{m n k:Nat}{H H':aa}{s:ae}{L:List ae}(h:jy m n H s L k)(hn:H.next<=H'.next)(e:bx s λb=>H'.get b=H.get b):jy m n H' s L k:=by
 rcases h with h|⟨b,low,rfl,h2,h3,h4,h5,h6,h7⟩
 ·exact .inl h
 ·exact .inr ⟨b,low,rfl,h2,h3,om,(e _ _ _ rfl).trans h5,h6,h7⟩
def jy.pushB{m k:Nat}{H:aa}{s:ae}{L:List ae}(h:jy m 0 H s L k){xs:List ae}(hx:xs.length=m)(ho:xs.all ae.one=true)(hm:0<m){bytes:Nat}(hb:2*(k+1)*bytes<=281474976710656)(hb1:0<bytes) :
  ∃s' H',a8 m bytes (H.push (.cells xs 0 false)) s (pU H m)=some (s',H')/\jy m 0 H' s' (L++xs) (k+1)/\H.next<=H'.next/\(∀P,bx s P->bx s' λb=>P b∨H.next<=b)/\∀c,c<H.next->bx s (c≠·)->H'.get c=H.get c:=by
 rcases h with⟨rfl,rfl,rfl⟩|⟨b,low,rfl,h2,h3,h4,h5,h6,h7⟩
 ·obtain⟨s',H',h1,h2,h3,h4⟩:=(jy.nil m H.next H).push rL hx ho hm hb hb1;refine⟨s',H',h1,?_,h3.next,λP _=>?_,λc hc _=>h3.old c hc⟩
  ·rcases h2 with h2|⟨b,low,e1,e2,e3,e4,e5,e6,e7⟩
   ·exact .inl h2
   ·exact .inr ⟨b,low,e1,e2,Nat.zero_le _,e4,e5,e6,e7⟩
  ·rcases h2 with⟨_,_,h2⟩|⟨b,low,rfl,e2,e3,e4,e5,e6,e7⟩
   ·omega
   ·exact cp (.inr e3)
 ·have h0:jy m 0 H (.slice (some ⟨b,L.length,0⟩) k (.open_ m)) L k:=.inr ⟨b,low,rfl,h2,h3,h4,h5,h6,h7⟩;have hb':jy m b H (.slice (some ⟨b,L.length,0⟩) k (.open_ m)) L k:=.inr ⟨b,low,rfl,h2,Nat.le_refl _,h4,h5,h6,h7⟩;have hlen:k+1<=9223372036854775807:=by
   have:2*(k+1)<=2*(k+1)*bytes:=Nat.le_mul_of_pos_right _ hb1;omega
  have hlt:Nat.blt 0 m=true:=by simpa[Nat.blt_eq]using hm
  have c1:(Nat.blt 0 m&&(Nat.ble ((2*(k+1)+0)*bytes) 281474976710656&&(Nat.ble (k+1) 9223372036854775807&&(Nat.beq xs.length (1*m)&&xs.all ae.one))))=true:=by simp only[Nat.add_zero,Xz hb,Xz hlen,hx,Nat.one_mul,Nat.beq_refl,ho,hlt,Bool.and_self]
  have hg:(H.push (.cells xs 0 false)).get b=some (.cells L low false):=by rw[aa.get_push,if_neg om];exact h5
  have hgrow:df (H.push (.cells xs 0 false)) ⟨b,L.length,0⟩ L.length xs=some ((H.push (.cells xs 0 false)).set b (.cells (L++xs) low false)):=by unfold df;simp only[hg,Xz h6,Xz rL,Xz (Nat.zero_le _),Xz (show L.length+1<=L.length+xs.length by omega),Nat.beq_refl,ho,Bool.and_self,cond_true,List.take_length]
  have e0:0+k*m=L.length:=by rw[h2,Nat.mul_comm];omega
  have e1:Nat.ble (0+(k+1)*m) L.length=false:=by rw[iT];refine decide_eq_false ?_;rw[Nat.add_mul,Nat.one_mul];omega
  refine⟨.slice (some ⟨b,L.length+m,0⟩) (k+1) (.open_ m),(H.push (.cells xs 0 false)).set b (.cells (L++xs) low false),?_,.inr ⟨b,low,by simp[hx],by rw[lA,h2,hx,Nat.mul_add,Nat.mul_one],Nat.zero_le _,by rw[eX,aV];omega,by rw[aa.get_set,if_pos rfl],by simp;omega,om⟩,by rw[eX,aV];omega,λP hP=>(have hP2:P b:=hP _ _ _ rfl;cp (.inl hP2)),λc hc hd=>by rw[aa.get_set,if_neg (hd _ _ _ rfl),aB hc]⟩;simp only[a8,QH H hx];rw[show Nat.beq 1 0=false from rfl,cond_false,c1,cond_true];simp only[Nat.beq_refl,cond_true,e1,cond_false,e0,hgrow,hx]
end Go.Abs.S
namespace Go.Abs.S
open Go.Abs
end Go.Abs.S
namespace Go.Abs.S
open Go.Abs
def hold(c:cK):cK:=c
def Dq:aeq aX aX=true:=rfl
end Go.Abs.S
namespace Go.Abs.S
open Go.Abs
def sW:type_of% (And.intro (And.intro (And.intro (And.intro (And.intro (And.intro (And.intro (@KA) (@vi)) (And.intro (@Gt) (@Gu))) (And.intro (And.intro (@Gs) (@mA)) (@JU))) (And.intro (And.intro (And.intro (@eq_self.{1}) (@decide_true)) (@decide_false)) (And.intro (And.intro (@Bool.not_true) (@Bool.not_false)) (@MC)))) (And.intro (And.intro (And.intro (And.intro (@MB) (@MA)) (And.intro (@Mz) (@My))) (And.intro (And.intro (And.intro (@HR) (And.intro (And.intro (@Mv) (@xZ)) (And.intro (@yK) (@qZ)))) (@Mu)) (@Ms))) (And.intro (And.intro (And.intro (@HT) (@HS)) (@Mt)) (And.intro (And.intro (@qY) (@wt)) (@yJ))))) (And.intro (And.intro (And.intro (And.intro (And.intro (@wu) (@rl)) (And.intro (@yL) (@zJ))) (And.intro (And.intro (@zM) (@zH)) (@Cp))) (And.intro (And.intro (And.intro (@ME) (@Dl)) (@HW)) (And.intro (And.intro (@HV) (@MG)) (@MJ)))) (And.intro (And.intro (And.intro (And.intro (@Do) (@w7)) (@HX)) (And.intro (And.intro (@Di) (@y9)) (@ML))) (And.intro (And.intro (And.intro (@Qi) (@Ia)) (@zz)) (And.intro (And.intro (@zA) (@za)) (@wZ)))))) (And.intro (And.intro (And.intro (And.intro (And.intro (And.intro (@wY) (@Qj)) (And.intro (@Dk) (@zw))) (And.intro (And.intro (@Dm) (@HZ)) (@zj))) (And.intro (And.intro (And.intro (@MI) (@HY)) (@w6)) (And.intro (And.intro (@zB) (@MH)) (@Ib)))) (And.intro (And.intro (And.intro (And.intro (@Dn) (@ji)) (@Qk)) (And.intro (And.intro (@Ql) (@MD)) (@Bm))) (And.intro (And.intro (And.intro (@Bn) (@Ub)) (@Ud)) (And.intro (And.intro (@Uc) (@P8)) (@LJ))))) (And.intro (And.intro (And.intro (And.intro (And.intro (@LI) (@Gd)) (And.intro (@PG) (@ne_eq.{1}))) (And.intro (And.intro (@not_false_eq_true) (@ae.bool.injEq)) (@decide_eq_true_eq))) (And.intro (And.intro (And.intro (@decide_eq_false_iff_not) (@Int.ofNat_eq_natCast)) (@Int.cast_ofNat_Int)) (And.intro (And.intro (@HM) (@HN)) (@HO)))) (And.intro (And.intro (And.intro (And.intro (@HP) (@HQ)) (@HK)) (And.intro (And.intro (@AP) (@HI)) (@HL))) (And.intro (And.intro (And.intro (@Bool.not_eq_true') (@Bool.not_eq_false')) (@Bool.true_eq_false)) (And.intro (And.intro (@Bool.false_eq_true) (@if_true.{1})) (@if_false.{1}))))))):=And.intro (And.intro (And.intro (And.intro (And.intro (And.intro (And.intro (@KA) (@vi)) (And.intro (@Gt) (@Gu))) (And.intro (And.intro (@Gs) (@mA)) (@JU))) (And.intro (And.intro (And.intro (@eq_self.{1}) (@decide_true)) (@decide_false)) (And.intro (And.intro (@Bool.not_true) (@Bool.not_false)) (@MC)))) (And.intro (And.intro (And.intro (And.intro (@MB) (@MA)) (And.intro (@Mz) (@My))) (And.intro (And.intro (And.intro (@HR) (And.intro (And.intro (@Mv) (@xZ)) (And.intro (@yK) (@qZ)))) (@Mu)) (@Ms))) (And.intro (And.intro (And.intro (@HT) (@HS)) (@Mt)) (And.intro (And.intro (@qY) (@wt)) (@yJ))))) (And.intro (And.intro (And.intro (And.intro (And.intro (@wu) (@rl)) (And.intro (@yL) (@zJ))) (And.intro (And.intro (@zM) (@zH)) (@Cp))) (And.intro (And.intro (And.intro (@ME) (@Dl)) (@HW)) (And.intro (And.intro (@HV) (@MG)) (@MJ)))) (And.intro (And.intro (And.intro (And.intro (@Do) (@w7)) (@HX)) (And.intro (And.intro (@Di) (@y9)) (@ML))) (And.intro (And.intro (And.intro (@Qi) (@Ia)) (@zz)) (And.intro (And.intro (@zA) (@za)) (@wZ)))))) (And.intro (And.intro (And.intro (And.intro (And.intro (And.intro (@wY) (@Qj)) (And.intro (@Dk) (@zw))) (And.intro (And.intro (@Dm) (@HZ)) (@zj))) (And.intro (And.intro (And.intro (@MI) (@HY)) (@w6)) (And.intro (And.intro (@zB) (@MH)) (@Ib)))) (And.intro (And.intro (And.intro (And.intro (@Dn) (@ji)) (@Qk)) (And.intro (And.intro (@Ql) (@MD)) (@Bm))) (And.intro (And.intro (And.intro (@Bn) (@Ub)) (@Ud)) (And.intro (And.intro (@Uc) (@P8)) (@LJ))))) (And.intro (And.intro (And.intro (And.intro (And.intro (@LI) (@Gd)) (And.intro (@PG) (@ne_eq.{1}))) (And.intro (And.intro (@not_false_eq_true) (@ae.bool.injEq)) (@decide_eq_true_eq))) (And.intro (And.intro (And.intro (@decide_eq_false_iff_not) (@Int.ofNat_eq_natCast)) (@Int.cast_ofNat_Int)) (And.intro (And.intro (@HM) (@HN)) (@HO)))) (And.intro (And.intro (And.intro (And.intro (@HP) (@HQ)) (@HK)) (And.intro (And.intro (@AP) (@HI)) (@HL))) (And.intro (And.intro (And.intro (@Bool.not_eq_true') (@Bool.not_eq_false')) (@Bool.true_eq_false)) (And.intro (And.intro (@Bool.false_eq_true) (@if_true.{1})) (@if_false.{1}))))))
def sL:type_of% (And.intro (And.intro (@List.nil_append.{0}) (@List.cons_append.{0})) (@List.append_nil.{0})):=And.intro (And.intro (@List.nil_append.{0}) (@List.cons_append.{0})) (@List.append_nil.{0})
def sR:type_of% (And.intro (And.intro (And.intro (And.intro (And.intro (And.intro (@yX) (@xm)) (@xn)) (And.intro (@xk) (@yG))) (And.intro (And.intro (And.intro (@JX) (@BA)) (@Gf)) (And.intro (@PM) (@JY)))) (And.intro (And.intro (And.intro (And.intro (@J1) (@BD)) (@vz)) (And.intro (@Gg) (@Bw))) (And.intro (And.intro (And.intro (@yf) (@J2)) (@PH)) (And.intro (@Gl) (@yj))))) (And.intro (And.intro (And.intro (And.intro (And.intro (@yk) (@yg)) (@vx)) (And.intro (@vw) (@PI))) (And.intro (And.intro (And.intro (@Bz) (@yi)) (@BB)) (And.intro (@Gk) (@yh)))) (And.intro (And.intro (And.intro (And.intro (@J0) (@Gj)) (@vy)) (And.intro (@yl) (@JZ))) (And.intro (And.intro (And.intro (@Gm) (@BC)) (@PL)) (And.intro (@PN) (@JW)))))):=And.intro (And.intro (And.intro (And.intro (And.intro (And.intro (@yX) (@xm)) (@xn)) (And.intro (@xk) (@yG))) (And.intro (And.intro (And.intro (@JX) (@BA)) (@Gf)) (And.intro (@PM) (@JY)))) (And.intro (And.intro (And.intro (And.intro (@J1) (@BD)) (@vz)) (And.intro (@Gg) (@Bw))) (And.intro (And.intro (And.intro (@yf) (@J2)) (@PH)) (And.intro (@Gl) (@yj))))) (And.intro (And.intro (And.intro (And.intro (And.intro (@yk) (@yg)) (@vx)) (And.intro (@vw) (@PI))) (And.intro (And.intro (And.intro (@Bz) (@yi)) (@BB)) (And.intro (@Gk) (@yh)))) (And.intro (And.intro (And.intro (And.intro (@J0) (@Gj)) (@vy)) (And.intro (@yl) (@JZ))) (And.intro (And.intro (And.intro (@Gm) (@BC)) (@PL)) (And.intro (@PN) (@JW)))))
def PQ(T:bZ):lC T []=[]:=_root_.id rfl
def PR(T:bZ)(x:bW)(r:List bW):lC T (x::r)=sX T x::lC T r:=_root_.id rfl
def PV(T:bZ):kB T none=none:=_root_.id rfl
def PU(T:bZ)(x:bW):kB T (some x)=some (sX T x):=_root_.id rfl
def PS(T:bZ):rY T []=[]:=_root_.id rfl
def PT(T:bZ)(o n:Nat)(x:bW)(r:List (Nat×Nat×bW)):rY T ((o,n,x)::r)=(o,n,sX T x)::rY T r:=_root_.id rfl
def sA:type_of% (And.intro sW (And.intro sL (And.intro @ip (And.intro @PQ (And.intro @PR (And.intro @PV (And.intro @PU (And.intro @PS @PT)))))))):=And.intro sW (And.intro sL (And.intro @ip (And.intro @PQ (And.intro @PR (And.intro @PV (And.intro @PU (And.intro @PS @PT)))))))
end Go.Abs.S
namespace Go.Abs.S
open Go.Abs
end Go.Abs.S
namespace Go.Abs.S
open Go.Abs
end Go.Abs.S
namespace Go.Abs.S
open Go.Abs
def RS{len c lo hi:Nat}(h1:lo<=hi)(h2:hi<=c):rU len c (some (.int .i64 (lo:Int))) (some (.int .i64 (hi:Int))) none=some (lo,hi,none):=by
 show(match DK (some (ae.int .i64 (Int.ofNat hi))) c len with|some h=>(match DK (some (ae.int .i64 (Int.ofNat lo))) h 0 with|some l=>some (l,h,none)|none=>none)|none=>none)=_;simp only[DK,bd,Xz h2,Xz h1,cond_true]
end Go.Abs.S
