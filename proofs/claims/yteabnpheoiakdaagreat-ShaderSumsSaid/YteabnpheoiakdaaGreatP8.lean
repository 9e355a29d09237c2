/- Part of a proof (S2 S3 S4 S5 N0 S6 S7 S8 S9 S10 S11 S12 S15 S13 S16 S17 S14 S18 S19 S20 S21 S22 S23 S24 S25 S26 S27 Zab); no condition. -/
import Derived.IntWalk
import Derived.Below
import Derived.OpenShut
import Derived.ChangeSlices
import Derived.WideShapes
import Derived.SizedLaws
import Derived.ChangeArms
import Derived.ChangeSame
import Derived.Test.YteabnpheoiakdaaGreatP7
set_option linter.unusedSimpArgs false
set_option linter.unusedVariables false
set_option linter.unnecessarySimpa false
namespace Go.Abs.S
open Go.Abs
def Hj(P:Program)(N:gH):Nat->Tr bY
 | 0=>.e
 | n+1=>match xU P (N.md (n % cj)) n with
  | some c=>(Hj P N n).set n c
  | none=>Hj P N n
def hX(P:Program)(N:gH):Tr bY:=Hj P N (4*cj)
theorem oi(P:Program)(N:gH):∀(n f:Nat),(Hj P N n).get f=if f<n then xU P (N.md (f % cj)) f else none
 | 0,f=>by rw[if_neg om]; cases f <;> rfl
 | n+1,f=>by
  simp only[Hj]
  cases hc:xU P (N.md (n % cj)) n with
  | none=>
   simp only[oi P N n f]
   by_cases h:f<n
   ·rw[if_pos h,if_pos om]
   ·by_cases e:f=n
    ·subst e; rw[if_neg h,if_pos om,hc]
    ·rw[if_neg h,if_neg om]
  | some c=>
   simp only[Tr.get_set,oi P N n f]
   by_cases e:f=n
   ·subst e; rw[if_pos rfl,if_pos om,hc]
   ·rw[if_neg e]
    by_cases h:f<n
    ·rw[if_pos h,if_pos om]
    ·rw[if_neg h,if_neg om]
theorem Kp(P:Program)(N:gH):JI P (hX P N):=by
 intro f fn h
 rw[hX,oi]at h
 split at h
 ·exact⟨_,h⟩
 ·simp at h
theorem G5{P:Program}{N:gH}{f:Nat}{c:bY}(h:xU P (N.md (f % cj)) f=some c):(hX P N).get f=some c:=by
 have hf:f<4*cj:=by
  unfold xU at h
  cases h4:Nat.blt f (4*cj) with
  | true=>exact eQ h4
  | false=>
   exfalso
   have h4':¬f<4*cj:=fun q=>by rw[show Nat.blt f (4*cj)=true from SD q]at h4; simp at h4
   have h5:4*cj<=f:=Nat.not_lt.1 h4'
   have e1:Nat.blt f cj=false:=by rw[fu]; exact decide_eq_false om
   have e2:Nat.blt f (2*cj)=false:=by rw[fu]; exact decide_eq_false om
   have e3:Nat.blt f (3*cj)=false:=by rw[fu]; exact decide_eq_false om
   rw[e1,e2,e3,h4]at h
   simp at h
 rw[hX,oi,if_pos hf,h]
theorem FM{P:Program}{N:gH}{f:FuncId}{c:bY}(h:J1 P f=some c)(hm:N.md f=none)(hf:Nat.blt f cj=true):xU P (N.md (f % cj)) f=some c:=by
 rw[Nat.mod_eq_of_lt (eQ hf),hm]
 unfold xU
 rw[hf]
 exact h
def az(P:Program)(N:gH)(f:FuncId)(args:List aa)(H:ae)(K:aa->ae->Prop):Prop:=
 ∃n v H',dp N (hX P N) n f args H=some (v,H')/\K v H'
theorem az.mono{P:Program}{N:gH}{f:FuncId}{args:List aa}{H:ae}{K K':aa->ae->Prop}(h:az P N f args H K)(hk:∀v H',K v H'->K' v H'):az P N f args H K':=by
 obtain⟨n,v,H',h1,h2⟩:=h; exact⟨n,v,H',h1,hk _ _ h2⟩
section
variable {P:Program} {N:gH}
theorem Ax{n:Nat}{f:FuncId}{args:List aa}{H:ae}{r}(h:dp N (hX P N) n f args H=some r):AD N (hX P N) f=true:=by
 cases n with
 | zero=>simp[dp]at h
 | succ n=>
  rw[dp]at h
  unfold AD
  cases hn:N.is f with
  | true=>rfl
  | false=>
   rw[hn]at h
   simp only[cond_false]at h ⊢
   cases ht:(hX P N).get f with
   | none=>rw[ht]at h; simp at h
   | some c=>rfl
theorem Ew{T:Tr aa}{H:ae}{o:gL}{K:aa->ae->Prop}(h:Ey (az P N) (en T) H K o) :
  (∃v H',bW (AD N (hX P N)) T H o=some (.val v,H')/\K v H')∨(∃f args H' n v H'',bW (AD N (hX P N)) T H o=some (.enter f args,H')/\dp N (hX P N) n f args H'=some (v,H'')/\K v H''):=by
 cases o
 case call f args=>
  right
  simp only[Ey,xi]at h
  obtain⟨n,v,H',h1,h2⟩:=h
  exact⟨f,_,H,n,v,H',by simp only[bW,Ax h1,cond_true],h1,h2⟩
 case callv f args=>
  right
  simp only[Ey,qE,xi]at h
  obtain⟨g,a,b,hf,hgb,n,v,H',h1,h2⟩:=h
  exact⟨g,_,H,n,v,H',by simp only[bW,hf,hgb,Ax h1,Bool.and_true,cond_true],h1,h2⟩
 case pick c a b=>
  simp only[Ey,qE]at h
  obtain⟨b',h1,h2⟩:=h
  exact .inl ⟨_,_,by simp only[bW,h1],h2⟩
 case bad=>simp[Ey]at h
 all_goals
  left
  simp only[Ey,qE,xi,Nu,Hw,dh]at h
  first
   | exact⟨_,_,rfl,h⟩
   | (obtain ⟨v, h1, h2⟩ := h
      refine ⟨_, _, ?_, h2⟩
      simp only [bW, h1]
      try rfl)
theorem qu{T:Tr aa}{H:ae}{o:al}{K:aa->ae->Prop}(h:Ey (az P N) (en T) H K o.op)(hg:gY T o.guard=true) :
  ∃n v H',br (AD N (hX P N)) (dp N (hX P N) n) o T H=some (v,H')/\K v H':=by
 rcases Ew h with⟨v,H',h1,h2⟩ | ⟨f,args,H',n,v,H'',h1,h2,h3⟩
 ·exact⟨0,v,H',by simp only[br,hg,cond_true,h1],h2⟩
 ·exact⟨n,v,H'',by simp only[br,hg,cond_true,h1,h2],h3⟩
theorem B0(tb:FuncId->Bool)(c)(o:al)(l:List al)(T:Tr aa)(H:ae):bh tb c (o::l) T H=match br tb c o T H with | some (v,H')=>bh tb c l (cR T o.dst v) H' | none=>none:=by
 simp only[bh,br]
 cases gY T o.guard with
 | false=>rfl
 | true=>
  simp only[cond_true]
  cases bW tb T H o.op with
  | none=>rfl
  | some p=>obtain⟨nx,H'⟩:=p; cases nx <;> rfl
theorem qv:∀(l:List al) {T:Tr aa} {H:ae} {K:cD->ae->Prop},aY (az P N) l (en T) H K ->
  ∃n T' H',bh (AD N (hX P N)) (dp N (hX P N) n) l T H=some (T',H')/\K (en T') H'
 | [],T,H,K,h=>⟨0,T,H,rfl,h⟩
 | o::l,T,H,K,h=>by
  simp only[aY,Hz]at h
  have:∃n v H',br (AD N (hX P N)) (dp N (hX P N) n) o T H=some (v,H')/\aY (az P N) l (iY (en T) o.dst v) H' K:=by
   cases hg:gY T o.guard with
   | true=>rw[hg]at h; exact qu h hg
   | false=>rw[hg]at h; exact⟨0,aR,H,by simp only[br,hg,cond_false],h⟩
  obtain⟨n,v,H',h1,h2⟩:=this
  rw[<- BG]at h2
  obtain⟨m,T2,H2,h3,h4⟩:=qv l h2
  refine⟨max n m,T2,H2,?_,h4⟩
  rw[B0,kq (d8 (Nat.le_max_left n m)) h1]
  exact nP (d8 (Nat.le_max_right n m)) l h3
theorem vg:∀(l:List al) {T:Tr aa} {H:ae} {K:List (aa×ae)->cD->ae->Prop},fd (az P N) l (en T) H K->∀j,
  ∃n ss,cQ (AD N (hX P N)) (dp N (hX P N) n) l T H=some ss/\K ss (en (bj (fun _=>true) j l ss T)) (ew H ss l.length)
 | [],T,H,K,h,j=>⟨0,[],rfl,h⟩
 | o::l,T,H,K,h,j=>by
  simp only[fd,Hz]at h
  have:∃n v H',br (AD N (hX P N)) (dp N (hX P N) n) o T H=some (v,H')/\fd (az P N) l (iY (en T) o.dst v) H' fun ss=>K ((v,H')::ss):=by
   cases hg:gY T o.guard with
   | true=>rw[hg]at h; exact qu h hg
   | false=>rw[hg]at h; exact⟨0,aR,H,by simp only[br,hg,cond_false],h⟩
  obtain⟨n,v,H',h1,h2⟩:=this
  rw[<- BG]at h2
  obtain⟨m,ss,h3,h4⟩:=vg l h2 (j+1)
  refine⟨max n m,(v,H')::ss,?_,?_⟩
  ·simp only[cQ,kq (d8 (Nat.le_max_left n m)) h1,lN (d8 (Nat.le_max_right n m)) l h3]
  ·have hl:=(gN l _ H' ss 0 h3).1
   have e:ew H' ss l.length=ew H ((v,H')::ss) (o::l).length:=by
    simp only[SF]
    cases hr:l.length with
    | zero=>rfl
    | succ q=>
     simp only[ew,SN]
     rw[SB om]
   rw[<- e]
   exact h4
theorem vi{tb:FuncId->Bool}{hs:List ae}:∀(l:List al) (chk:List (List Nat)) (ss:List (aa×ae)) (T:Tr aa),AC hs l chk ss (en T)->fF tb hs l chk ss T=true
 | [],_,_,_,_=>rfl
 | o::l,[],_,_,_=>rfl
 | o::l,p::ps,[],_,_=>rfl
 | o::l,p::ps,(v,Hv)::ss,T,h=>by
  simp only[AC]at h
  obtain⟨h1,h2⟩:=h
  simp only[fF,SE]
  refine⟨List.all_eq_true.2 fun q hq=>?_,vi l ps ss _ (by rw[BG]; exact h2)⟩
  obtain⟨Hp,e1,e2⟩:=h1 q hq
  rw[e1]
  simp only
  cases hg:gY T o.guard with
  | false=>rfl
  | true=>
   obtain⟨u,u1,u2⟩:=e2 (by rw[Hz]; exact hg)
   simp only[cond_true]
   cases ho:o.op <;> rw[ho]at u1 <;> simp only[Pt,reduceCtorEq,qE]at u1
   ·simp only[bW,u1,vv]; exact u2
   ·simp only[bW,u1,vv]; exact u2
theorem qM{Q:nV}{K:cD->ae->Prop}{e:uD}{T:cD}{H:ae}(h:kD Q K e T H):(e=.normal/\K T H)∨(e≠.normal/\Q e T H):=by
 cases e with
 | normal=>exact .inl ⟨rfl,h⟩
 | exit i=>exact .inr ⟨by simp,h⟩
 | ret=>exact .inr ⟨by simp,h⟩
theorem GB:∀(c:cS) (Q:nV) (T:Tr aa) (H:ae),wp (az P N) c Q (en T) H ->
  ∃n e T' H',aM (AD N (hX P N)) (dp N (hX P N) n) n c T H=some (e,T',H')/\Q e (en T') H':=by
 intro c
 induction c with
 | skip=>intro Q T H h; exact⟨0,_,_,_,rfl,h⟩
 | reg l=>
  intro Q T H h
  obtain⟨n,T',H',h1,h2⟩:=qv l h
  exact⟨n,.normal,T',H',by simp only[aM,h1],h2⟩
 | draw l chk=>
  intro Q T H h
  simp only[wp,Ca]at h
  obtain⟨n,ss,h1,h2,h3⟩:=vg (aB H.next l) h 0
  exact⟨n,.normal,_,_,by simp only[aM,lR,h1,vi (aB H.next l) chk ss T h2,cond_true],h3⟩
 | seq a b iha ihb=>
  intro Q T H h
  obtain⟨n,e,T1,H1,h1,h2⟩:=iha _ T H h
  rcases qM h2 with⟨rfl,h2⟩ | ⟨hne,h2⟩
  ·obtain⟨m,e2,T2,H2,h3,h4⟩:=ihb _ T1 H1 h2
   refine⟨max n m,e2,T2,H2,?_,h4⟩
   simp only[aM,gE (d8 (Nat.le_max_left n m)) (Nat.le_max_left n m) a _ _ _ h1]
   exact gE (d8 (Nat.le_max_right n m)) (Nat.le_max_right n m) b _ _ _ h3
  ·refine⟨n,e,T1,H1,?_,h2⟩
   cases e with
   | normal=>exact absurd rfl hne
   | exit i=>simp only[aM,h1]
   | ret=>simp only[aM,h1]
 | cond c a b iha ihb=>
  intro Q T H h
  simp only[wp,qE]at h
  obtain⟨v,hv,h⟩:=h
  cases v with
  | true=>
   obtain⟨n,e,T1,H1,h1,h2⟩:=iha _ T H h
   exact⟨n,e,T1,H1,by simp only[aM,hv,h1],h2⟩
  | false=>
   obtain⟨n,e,T1,H1,h1,h2⟩:=ihb _ T H h
   exact⟨n,e,T1,H1,by simp only[aM,hv,h1],h2⟩
 | block id c ih=>
  intro Q T H h
  obtain⟨n,e,T1,H1,h1,h2⟩:=ih _ T H h
  cases e with
  | exit j=>
   simp only[lB]at h2
   cases hb:Nat.beq j id with
   | true=>rw[hb]at h2; exact⟨n,.normal,T1,H1,by simp only[aM,h1,hb,cond_true],h2⟩
   | false=>rw[hb]at h2; exact⟨n,.exit j,T1,H1,by simp only[aM,h1,hb,cond_false],h2⟩
  | normal=>exact⟨n,.normal,T1,H1,by simp only[aM,h1],h2⟩
  | ret=>exact⟨n,.ret,T1,H1,by simp only[aM,h1],h2⟩
 | loop c ih=>
  intro Q T H h
  simp only[wp]at h
  obtain⟨I,⟨m,hm⟩,hI⟩:=h
  have key:∀(m:Nat) (T:Tr aa) (H:ae),I m (en T) H->∃n e T' H',aM (AD N (hX P N)) (dp N (hX P N) n) n (.loop c) T H=some (e,T',H')/\Q e (en T') H':=by
   intro m
   induction m using Nat.strongRecOn with
   | ind m ihm=>
    intro T H hi
    obtain⟨n,e,T1,H1,h1,h2⟩:=ih _ T H (hI m _ _ hi)
    rcases qM h2 with⟨rfl,m',hm',h2⟩ | ⟨hne,h2⟩
    ·obtain⟨k,e2,T2,H2,h3,h4⟩:=ihm m' hm' T1 H1 h2
     refine⟨max n k+1,e2,T2,H2,?_,h4⟩
     simp only[aM,jr]
     rw[gE (d8 (show n<=max n k+1 by omega)) (show n<=max n k+1 by omega) c _ _ _ h1]
     simp only[aM]at h3
     exact nQ (fun T H r hr=>gE (d8 (show k<=max n k+1 by omega)) (show k<=max n k+1 by omega) c T H r hr) k (max n k) T1 H1 _ (Nat.le_max_right n k) h3
    ·refine⟨n+1,e,T1,H1,?_,h2⟩
     simp only[aM,jr]
     rw[gE (d8 (Nat.le_succ n)) (Nat.le_succ n) c _ _ _ h1]
     cases e with
     | normal=>exact absurd rfl hne
     | exit i=>rfl
     | ret=>rfl
  exact key m T H hm
 | exit id=>intro Q T H h; exact⟨0,_,_,_,rfl,h⟩
 | ret=>intro Q T H h; exact⟨0,_,_,_,rfl,h⟩
def mL(args:List aa):cD:=fun i=>match args[i]? with
 | some v=>v
 | none=>aR
theorem te:∀(args:List aa) (i:Nat) (T:Tr aa),en (dc args i T)=fun j=>if i<=j then (match args[j-i]? with | some v=>v | none=>en T j) else en T j
 | [],i,T=>by funext j; simp[dc]
 | x::r,i,T=>by
  rw[dc,te r (i+1),IW]
  funext j
  by_cases h:i+1<=j
  ·rw[if_pos h,if_pos om,show j-i=(j-(i+1))+1 by omega]
   simp only[SN]
   split
   ·rfl
   ·have hb:Nat.beq j i=false:=by rw[cE]; exact decide_eq_false om
    simp only[up,hb,cond_false]
  ·rw[if_neg h]
   by_cases e:i=j
   ·subst e
    simp[up]
   ·rw[if_neg om]
    have hb:Nat.beq j i=false:=by rw[cE]; exact decide_eq_false om
    simp only[up,hb,cond_false]
theorem EU(args:List aa):en (dc args 0 .e)=mL args:=by
 rw[te]
 funext j
 simp only[Nat.zero_le,if_true,Nat.sub_zero,mL]
 split
 ·rfl
 ·rfl
def kF(T:cD)(H:ae):List mN->Option (List aa)
 | []=>some []
 | .t i::r=>match kF T H r with
  | some l=>some (T i::l)
  | none=>none
 | .cell g n i::r=>match au g n H (T i),kF T H r with
  | some x,some l=>some (x::l)
  | _,_=>none
theorem rv(T:Tr aa)(H:ae):∀l:List mN,kF (en T) H l=jN T H l
 | []=>rfl
 | .t i::r=>by simp only[kF,jN,rv T H r]; rfl
 | .cell g n i::r=>by simp only[kF,jN,rv T H r]; rfl
def eD(res:List mN)(K:aa->ae->Prop):nV:=fun e T H=>match e with
 | .exit _=>False
 | _=>dh (kF T H res) fun l=>K (iS l) H
theorem wN{f:FuncId}{c:bY}{args:List aa}{H:ae}{K:aa->ae->Prop}(hn:N.is f=false)(hc:xU P (N.md (f % cj)) f=some c)(hl:Nat.ble args.length c.nt=true)(h:wp (az P N) c.body (eD c.res K) (mL args) H):az P N f args H K:=by
 rw[<- EU]at h
 obtain⟨n,e,T',H',h1,h2⟩:=GB _ _ _ _ h
 have:∃l,jN T' H' c.res=some l/\K (iS l) H'/\∀i,e≠.exit i:=by
  cases e with
  | exit i=>exact h2.elim
  | normal=>obtain⟨l,q1,q2⟩:=h2; rw[rv]at q1; exact⟨l,q1,q2,fun i=>by simp⟩
  | ret=>obtain⟨l,q1,q2⟩:=h2; rw[rv]at q1; exact⟨l,q1,q2,fun i=>by simp⟩
 obtain⟨l,q1,q2,q3⟩:=this
 refine⟨n+1,iS l,H',?_,q2⟩
 rw[dp,hn,G5 hc]
 simp only[cond_false,hl,cond_true,h1]
 cases e with
 | exit i=>exact absurd rfl (q3 i)
 | normal=>simp only[q1]
 | ret=>simp only[q1]
theorem B2{f:FuncId}{args:List aa}{H H':ae}{v:aa}{K:aa->ae->Prop}(hn:N.is f=true)(hr:N.run f args H=some (v,H'))(hk:K v H'):az P N f args H K:=
 ⟨1,v,H',by rw[dp,hn]; exact hr,hk⟩
theorem az.calls(hfol:P.follows .mixedOrders=true)(hN:uC P N){f:FuncId}{args:List aa}{H:ae}{K:aa->ae->Prop}(h:az P N f args H K)
  {Prot:Gh} {w0 w:World} {ρ:Pl} {vs:Array Value} (R:bF Prot w0 ρ H w) (hv:aq ρ args vs.toList) (hfb:Nat.blt f cj=true:=by rfl) :
  Calls P f vs w fun e w'=>∃ρ' v H' u,ρ.le ρ'/\e=.returned u/\K v H'/\bF Prot w0 ρ' H' w'/\ah ρ' v u:=by
 obtain⟨n,v,H',h1,h2⟩:=h
 refine (Jw hfol hN (Kp P N) n _ _ _ _ _ hfb h1 _ _ _ _ _ R hv).mono fun e w' hx=>?_
 obtain⟨ρ',u,q1,rfl,q2,q3⟩:=hx
 exact⟨ρ',v,H',u,q1,rfl,h2,q2,q3⟩
end
end Go.Abs.S
namespace Go.Abs.S
open Go.Abs
theorem Il{ρ:Pl}{p:Value->Prop}(h:∀v,p v->∃x,∀ρ,ah ρ x v):∀(vs:List Value),(∀v∈vs,p v)->∃l,∀ρ,aq ρ l vs
 | [],_=>⟨[],fun ρ=>by simp[aq]⟩
 | v::vs,hv=>by
  obtain⟨x,hx⟩:=h v (hv v (by simp))
  obtain⟨l,hl⟩:=Il (ρ:=ρ) h vs fun u hu=>hv u (by simp[hu])
  exact⟨x::l,fun ρ=>by simp only[aq]; exact⟨v,vs,rfl,hx ρ,hl ρ⟩⟩
theorem PU:∀(n:Nat) (v:Value),SizeOf.sizeOf v<=n->∃x,∀ρ,ah ρ x v:=by
 intro n
 induction n with
 | zero=>intro v h; cases v <;> simp at h
 | succ n ih=>
  intro v h
  cases v
  case bool b=>exact⟨.bool b,fun ρ=>by simp[ah]⟩
  case agg vs=>
   obtain⟨l,hl⟩:=Il (ρ:=fun _ _=>none) (p:=fun v=>SizeOf.sizeOf v<=n) ih vs.toList fun v hv=>by
    have:=Array.sizeOf_lt_of_mem (Array.mem_toList_iff.1 hv)
    simp at h; omega
   exact⟨.agg l,fun ρ=>by simp only[ah]; exact⟨vs,rfl,hl ρ⟩⟩
  case tuple vs=>
   obtain⟨l,hl⟩:=Il (ρ:=fun _ _=>none) (p:=fun v=>SizeOf.sizeOf v<=n) ih vs.toList fun v hv=>by
    have:=Array.sizeOf_lt_of_mem (Array.mem_toList_iff.1 hv)
    simp at h; omega
   exact⟨.tuple l,fun ρ=>by simp only[ah]; exact⟨vs,rfl,hl ρ⟩⟩
  all_goals exact⟨.val _,fun ρ=>by simp only[ah]; exact⟨rfl,rfl⟩⟩
noncomputable def Bq(v:Value):aa:=Classical.choose (PU (SizeOf.sizeOf v) v rL)
theorem tA(v:Value)(ρ:Pl):ah ρ (Bq v) v:=Classical.choose_spec (PU (SizeOf.sizeOf v) v rL) ρ
def ou(w:World)(c:Nat):Option Nat:=match w.heap[c]? with
 | some (.cells C _ _)=>some C.size
 | _=>none
noncomputable def Gf(w:World):Value->aa
 | .bool b=>.bool b
 | .int k n=>.int k n
 | .string s=>.str s.data.toList
 | .pointer none=>.ptr none
 | .pointer (some ⟨c,off,none⟩)=>match ou w c with
  | some n=>.ptr (some ⟨c,n,off⟩)
  | none=>Bq (.pointer (some ⟨c,off,none⟩))
 | .slice none 0 0=>.slice none 0 (.known 0)
 | .slice (some ⟨c,off,none⟩) len cap=>if len<=cap then (match ou w c with
  | some n=>if off<=n then .slice (some ⟨c,n,off⟩) len (.known cap) else .val (.slice (some ⟨c,off,none⟩) len cap)
  | none=>.val (.slice (some ⟨c,off,none⟩) len cap)) else .val (.slice (some ⟨c,off,none⟩) len cap)
 | .slice (some ⟨c,off,some q⟩) len cap=>.val (.slice (some ⟨c,off,some q⟩) len cap)
 | .map none=>.map none
 | .nilFunc=>.nilFunc
 | .nilIface=>.nilIface
 | v=>Bq v
def OI(w:World):Pl:=fun b l=>match ou w b with
 | some n=>if l=n then some ⟨b,0,n,false⟩ else none
 | none=>none
theorem th{w:World}{b n:Nat}(h:ou w b=some n):OI w b n=some ⟨b,0,n,false⟩:=by simp[OI,h]
theorem AV(s:ByteArray):aP s.data.toList=s:=by cases s; simp[aP]
theorem pj(w:World)(v:Value):ah (OI w) (Gf w v) v:=by
 unfold Gf
 split
 ·simp[ah]
 ·simp[ah]
 ·simp[ah,AV]
 ·simp[ah]
 ·split
  ·rename_i n hn
   simp only[ah]
   exact⟨_,th hn,Nat.zero_le _,by simp⟩
  ·exact tA _ _
 ·simp[ah]
 ·split
  ·rename_i hl
   split
   ·rename_i n hn
    split
    ·simp only[ah]
     exact⟨_,th hn,Nat.zero_le _,by simp only[bU]; exact⟨hl,by simp⟩⟩
    ·simp only[ah]; exact⟨trivial,rfl⟩
   ·simp only[ah]; exact⟨trivial,rfl⟩
  ·simp only[ah]; exact⟨trivial,rfl⟩
 ·simp only[ah]; exact⟨trivial,rfl⟩
 ·simp[ah]
 ·simp[ah]
 ·simp[ah]
 ·exact tA _ _
noncomputable def uO(w:World)(c:Nat):Option cJ:=match w.heap[c]? with
 | some (.cells C _ _)=>some (.cells (C.toList.map (Gf w)) 0 true)
 | _=>none
noncomputable def OG(w:World):Nat->Tr cJ
 | 0=>.e
 | n+1=>match uO w n with
  | some o=>(OG w n).set n o
  | none=>OG w n
theorem w7(w:World):∀(n b:Nat),(OG w n).get b=if b<n then uO w b else none
 | 0,b=>by rw[if_neg om]; cases b <;> rfl
 | n+1,b=>by
  simp only[OG]
  cases hc:uO w n with
  | none=>
   simp only[w7 w n b]
   by_cases h:b<n
   ·rw[if_pos h,if_pos om]
   ·by_cases e:b=n
    ·subst e; rw[if_neg h,if_pos om,hc]
    ·rw[if_neg h,if_neg om]
  | some c=>
   simp only[Tr.get_set,w7 w n b]
   by_cases e:b=n
   ·subst e; rw[if_pos rfl,if_pos om,hc]
   ·rw[if_neg e]
    by_cases h:b<n
    ·rw[if_pos h,if_pos om]
    ·rw[if_neg h,if_neg om]
noncomputable def C5(w:World):ae:=⟨w.heap.size,OG w w.heap.size⟩
theorem mB(w:World)(b:Nat):(C5 w).get b=uO w b:=by
 show (OG w w.heap.size).get b=_
 rw[w7]
 by_cases h:b<w.heap.size
 ·rw[if_pos h]
 ·rw[if_neg h]
  unfold uO
  rw[Array.getElem?_eq_none om]
theorem vK{w:World}{c n:Nat}(h:ou w c=some n):∃C e fz,w.heap[c]?=some (.cells C e fz)/\C.size=n/\uO w c=some (.cells (C.toList.map (Gf w)) 0 true):=by
 unfold ou at h
 unfold uO
 split at h
 ·rename_i C e fz hC
  simp only[sJ]at h
  exact⟨C,e,fz,hC,h,rfl⟩
 ·simp at h
theorem CI{w:World}{b l:Nat}{L:AL}(h:OI w b l=some L):ou w b=some l/\L=⟨b,0,l,false⟩:=by
 unfold OI at h
 split at h
 ·rename_i n hn
  split at h
  ·rename_i e; subst e; simp only[sJ]at h; exact⟨hn,h.symm⟩
  ·simp at h
 ·simp at h
theorem CO{w:World}{b:Nat}{x:cJ}(h:uO w b=some x):x.rw=false:=by
 unfold uO at h
 split at h
 ·simp only[sJ]at h; subst h; rfl
 ·simp at h
theorem vD(w:World):bF ⟨fun c=>c<w.heap.size,fun _=>False⟩ w (OI w) (C5 w) w:=by
 refine⟨rfl,rfl,rfl,Nat.le_refl _,fun _ hc=>⟨hc,rfl⟩,fun b l L h=>?_,fun b l L h=>?_,fun b l L x h hx hr=>?_,fun b l L b' l' L' x h h' he hx hr=>?_,fun _ h=>h.elim,fun b l low h=>?_⟩
 ·obtain⟨h1,rfl⟩:=CI h
  obtain⟨C,e,fz,h2,_,_⟩:=vK h1
  have:=(Array.getElem?_eq_some_iff.1 h2).1
  exact⟨this,this⟩
 ·obtain⟨h1,rfl⟩:=CI h
  obtain⟨C,e,fz,h2,h3,h4⟩:=vK h1
  obtain⟨lo,hi⟩:=fz
  refine⟨_,_,by rw[mB,h4],h2,?_⟩
  simp only[er]
  refine⟨C,e,lo,hi,rfl,h3,fun h=>by simp at h,by simp; omega,fun _ i _ hi=>?_⟩
  have hlt:i<C.size:=om
  refine⟨Gf w C[i],C[i],?_,by simp[hlt],pj w _⟩
  simp[hlt]
 ·rw[mB]at hx
  rw[CO hx]at hr
  simp at hr
 ·rw[mB]at hx
  rw[CO hx]at hr
  simp at hr
 ·rw[mB]at h
  have hr:ou w b=some l.length:=by
   unfold uO at h
   unfold ou
   split at h
   ·rename_i C e fz hC
    simp only[sJ,cJ.cells.injEq]at h
    simp[<- h.1]
   ·simp at h
  exact⟨_,th hr,rfl,rfl,rfl⟩
end Go.Abs.S
namespace Go.Abs.S
open Go.Abs
theorem Cc(T:cD)(i:Nat)(v:aa):up T i v i=v:=by simp[up]
theorem Md(T:cD)(i j:Nat)(v:aa)(h:j≠i):up T i v j=T j:=by
 have:Nat.beq j i=false:=by rw[cE]; exact decide_eq_false h
 simp[up,this]
structure cZ(n:Nat)(H H':ae):Prop where
 next:H.next<=H'.next
 old:∀b,b<n->H'.get b=H.get b
theorem cZ.refl(n:Nat)(H:ae):cZ n H H:=⟨Nat.le_refl _,fun _ _=>rfl⟩
theorem cZ.trans{n:Nat}{H H' H'':ae}(h:cZ n H H')(k:cZ n H' H''):cZ n H H'':=⟨Nat.le_trans h.next k.next,fun b hb=>(k.old b hb).trans (h.old b hb)⟩
theorem cZ.less{n m:Nat}{H H':ae}(h:cZ n H H')(hm:m<=n):cZ m H H':=⟨h.next,fun b hb=>h.old b om⟩
theorem cZ.push{n:Nat}{H H':ae}(h:cZ n H H')(hn:n<=H'.next)(o:cJ):cZ n H (H'.push o):=
 ⟨Nat.le_trans h.next (by simp[ae.push]),fun b hb=>by rw[ae.get_push,if_neg om,h.old b hb]⟩
theorem cZ.set{n:Nat}{H H':ae}(h:cZ n H H'){b:Nat}(hn:n<=b)(o:cJ):cZ n H (H'.set b o):=
 ⟨h.next,fun c hc=>by rw[ae.get_set,if_neg om,h.old c hc]⟩
theorem bp(H:ae)(o:cJ):(H.push o).next=H.next+1:=rfl
theorem gQ(H:ae)(b:Nat)(o:cJ):(H.set b o).next=H.next:=rfl
def bJ:aa:=.slice none 0 (.known 0)
def I4(s:aa)(i:Nat):aa:=match s with
 | .slice (some a) _ _=>.ptr (some ⟨a.b,a.lim,a.o+i*1⟩)
 | _=>aR
def OL:aa->Bool
 | .slice none 0 (.known 0)=>true
 | .val (.slice (some _) 0 0)=>true
 | _=>false
theorem iz{s:aa}(h:OL s=true):s=bJ∨∃a,s=.val (.slice (some a) 0 0):=by
 unfold OL at h
 split at h
 ·exact .inl rfl
 ·exact .inr ⟨_,rfl⟩
 ·simp at h
def po(n:Nat)(H:ae)(s:aa)(l:List aa):Prop:=
 (OL s=true/\l=[])∨∃a r,s=.slice (some a) l.length r/\a.b<n/\bE H a l.length=some l
theorem td{H H':ae}{a:Ad}(h:H'.get a.b=H.get a.b)(n:Nat):bE H' a n=bE H a n:=by
 unfold bE; rw[h]
theorem po.ext{n:Nat}{H H':ae}{s:aa}{l:List aa}(h:po n H s l)(e:cZ n H H'):po n H' s l:=by
 rcases h with h | ⟨a,r,h1,h2,h3⟩
 ·exact .inl h
 ·exact .inr ⟨a,r,h1,h2,by rw[td (e.old _ h2)]; exact h3⟩
theorem po.len{n:Nat}{H:ae}{s:aa}{l:List aa}(h:po n H s l):iT false s=some (.int .i64 l.length):=by
 rcases h with⟨h,rfl⟩ | ⟨a,r,rfl,_⟩
 ·rcases iz h with rfl | ⟨a,rfl⟩ <;> rfl
 ·rfl
theorem Mu{H:ae}{a:Ad}{n i:Nat}{xs:List aa}(h:bE H a n=some xs)(hi:i<n):∃x,xs[i]?=some x/\bE H ⟨a.b,a.lim,a.o+i⟩ 1=some [x]:=by
 obtain⟨l,low,ro,_,h1,h2,h3,h4,rfl⟩:=oz h
 have hlt:a.o+i<l.length:=om
 refine⟨l[a.o+i],?_,?_⟩
 ·rw[List.getElem?_take_of_lt hi,List.getElem?_drop,SB hlt]
 ·unfold bE
  simp only[h1,SD h2,SD h3,SD (show a.o+i+1<=a.lim by omega),Bool.and_self,cond_true]
  rw[List.drop_eq_getElem_cons hlt]
  rfl
theorem po.idx{n:Nat}{H:ae}{s:aa}{l:List aa}(h:po n H s l)(k:IntKind){i:Nat}(hi:i<l.length):iU 1 s (.int k (i:Int))=some (I4 s i):=by
 rcases h with⟨_,rfl⟩ | ⟨a,r,rfl,_⟩
 ·simp at hi
 ·show (bif Nat.blt i l.length then _ else none)=_
  have:Nat.blt i l.length=true:=by simpa[Nat.blt_eq] using hi
  rw[this]; rfl
theorem po.load{n:Nat}{H:ae}{s:aa}{l:List aa}(h:po n H s l){i:Nat}{x:aa}(hi:l[i]?=some x):au false 1 H (I4 s i)=some x:=by
 have hlt:=(SC.1 hi).1
 rcases h with⟨_,rfl⟩ | ⟨a,r,rfl,_,h3⟩
 ·simp at hi
 ·obtain⟨y,h4,h5⟩:=Mu h3 hlt
  rw[hi]at h4
  simp only[sJ]at h4
  subst h4
  simp only[au,I4,Nat.mul_one,h5,cond_false]
theorem gR{H:ae}{b low:Nat}{l:List aa}{ro:Bool}(h:H.get b=some (.cells l low ro))(hl:low<=l.length):bE H ⟨b,l.length,0⟩ l.length=some l:=by
 unfold bE
 simp only[h,SD hl,SD rL,Nat.zero_add,Bool.and_self,cond_true,List.drop_zero,List.take_length]
theorem wv{x:aa}(h:x.one=true):x.cells=[x]:=by cases x <;> first | rfl | (simp[aa.one]at h)
def PP(H:ae):aa:=.slice (some ⟨H.next,1,0⟩) 1 (.known 1)
theorem p9(z:aa)(H:ae){x:aa}(h:x.one=true):cA 1 [z] H [(0,1,x)]=some (PP H,H.push (.cells [x] 0 false)):=by
 simp only[cA,rD,List.append_nil,js,wv h]
 rfl
theorem GA{H:ae}{b low i:Nat}{l:List aa}(h:H.get b=some (.cells l low false))(hl:low<=l.length)(hi:i<l.length){x:aa}(hx:x.one=true) :
  bu 1 H (.ptr (some ⟨b,l.length,i⟩)) x=some (H.set b (.cells (l.set i x) l.length false)):=by
 simp only[bu,wv hx,SF,SG,Nat.zero_add,Nat.beq_refl,cond_true]
 unfold dX
 simp only[h,SD hl,Nat.beq_refl,SF,SG,Nat.zero_add,SD (show i+1<=l.length by omega),List.all_cons,List.all_nil,hx,Bool.and_self,cond_true]
 congr 3
 rw[List.set_eq_take_append_cons_drop,if_pos hi]
 rfl
def Gt(b n:Nat)(r:uy):aa:=.slice (some ⟨b,n,0⟩) n r
def af(b n i:Nat):aa:=.ptr (some ⟨b,n,i⟩)
def a6(H:ae)(b:Nat)(l:List aa):Prop:=∃low,H.get b=some (.cells l low false)/\low<=l.length
theorem am{H:ae}{b n:Nat}{l:List aa}(h:a6 H b l)(hn:l.length=n){i:Nat}{x:aa}(hi:l[i]?=some x):au false 1 H (af b n i)=some x:=by
 subst hn
 obtain⟨low,h1,h2⟩:=h
 have hlt:=(SC.1 hi).1
 obtain⟨y,h4,h5⟩:=Mu (gR h1 h2) hlt
 rw[hi]at h4
 simp only[sJ]at h4
 subst h4
 simp only[Nat.zero_add]at h5
 simp only[au,af,h5,cond_false]
theorem cU{H:ae}{b n:Nat}{l:List aa}(h:a6 H b l)(hn:l.length=n){i:Nat}(hi:i<n){x:aa}(hx:x.one=true) :
  ∃H',bu 1 H (af b n i) x=some H'/\a6 H' b (l.set i x)/\H'.next=H.next/\∀c,c≠b->H'.get c=H.get c:=by
 subst hn
 obtain⟨low,h1,h2⟩:=h
 exact⟨_,GA h1 h2 hi hx,⟨l.length,by rw[ae.get_set,if_pos rfl],by simp⟩,rfl,fun c hc=>by rw[ae.get_set,if_neg hc]⟩
theorem a6.same{H H':ae}{b:Nat}{l:List aa}(h:a6 H b l)(e:H'.get b=H.get b):a6 H' b l:=by
 obtain⟨low,h1,h2⟩:=h; exact⟨low,e.trans h1,h2⟩
theorem jG(H:ae)(l:List aa):a6 (H.push (.cells l 0 false)) H.next l:=⟨0,by rw[ae.get_push,if_pos rfl],Nat.zero_le _⟩
theorem aI{H:ae}{o:cJ}{c:Nat}(h:c<H.next):(H.push o).get c=H.get c:=by rw[ae.get_push,if_neg om]
theorem a6.cel{H:ae}{b n m:Nat}{l:List aa}{r:uy}(h:a6 H b l)(hn:l.length=n)(hb:b<m):po m H (Gt b n r) l:=by
 subst hn
 obtain⟨low,h1,h2⟩:=h
 exact .inr ⟨_,_,rfl,hb,gR h1 h2⟩
end Go.Abs.S
namespace Go.Abs.S
open Go.Abs
section
variable {C:CS} {Q:nV} {T:cD} {H:ae} {K:cD->ae->Prop} {r:List al} {d:Option Nat}
theorem DF:wp C .skip Q T H=Q .normal T H:=_root_.id rfl
theorem Je(ops:List al):wp C (.reg ops) Q T H=aY C ops T H (Q .normal):=_root_.id rfl
theorem Jc(a b:cS):wp C (.seq a b) Q T H=wp C a (kD Q (wp C b Q)) T H:=_root_.id rfl
open Classical in
theorem DI(c:a8)(a b:cS):wp C (.cond c a b) Q T H=if sX T c=.bool true then wp C a Q T H else if sX T c=.bool false then wp C b Q T H else False:=by
 simp only[wp]
 by_cases h:sX T c=.bool true
 ·rw[if_pos h,h]; simp
 ·rw[if_neg h]
  by_cases h':sX T c=.bool false
  ·rw[if_pos h',h']; simp
  ·rw[if_neg h']
   simp only[eq_iff_iff,iff_false,not_exists,not_and]
   intro v hv
   cases v
   ·exact absurd hv h'
   ·exact absurd hv h
theorem gd(id:Nat)(c:cS):wp C (.block id c) Q T H=wp C c (lB id Q) T H:=_root_.id rfl
theorem DG(id:Nat):wp C (.exit id) Q T H=Q (.exit id) T H:=_root_.id rfl
theorem Jd:wp C .ret Q T H=Q .ret T H:=_root_.id rfl
theorem oN:kD Q K .normal T H=K T H:=_root_.id rfl
theorem tE(i:Nat):kD Q K (.exit i) T H=Q (.exit i) T H:=_root_.id rfl
theorem v6:kD Q K .ret T H=Q .ret T H:=_root_.id rfl
theorem tF(id i:Nat):lB id Q (.exit i) T H=if i=id then Q .normal T H else Q (.exit i) T H:=by
 simp only[lB]
 by_cases h:i=id
 ·subst h; rw[if_pos rfl,Nat.beq_refl]; rfl
 ·rw[if_neg h,show Nat.beq i id=false by rw[cE]; exact decide_eq_false h]; rfl
theorem oO(id:Nat):lB id Q .normal T H=Q .normal T H:=_root_.id rfl
theorem v7(id:Nat):lB id Q .ret T H=Q .ret T H:=_root_.id rfl
theorem cg{c:cS}(I:Nat->cD->ae->Prop)(m:Nat)(h0:I m T H)(h:∀m T H,I m T H->wp C c (kD Q fun T' H'=>∃m',m'<m/\I m' T' H') T H):wp C (.loop c) Q T H:=⟨I,⟨m,h0⟩,h⟩
def jP(o:Option aa)(C:CS)(r:List al)(T:cD)(d:Option Nat)(H:ae)(K:cD->ae->Prop):Prop:=dh o fun v=>aY C r (iY T d v) H K
def Gq(o:Option (aa×ae))(C:CS)(r:List al)(T:cD)(d:Option Nat)(K:cD->ae->Prop):Prop:=dh o fun p=>aY C r (iY T d p.1) p.2 K
def QD(o:Option ae)(C:CS)(r:List al)(T:cD)(d:Option Nat)(K:cD->ae->Prop):Prop:=dh o fun H'=>aY C r (iY T d aR) H' K
def NI(C:CS)(r:List al)(T:cD)(d:Option Nat)(K:cD->ae->Prop):aa->ae->Prop:=fun v H'=>aY C r (iY T d v) H' K
theorem wT(v:aa):jP (some v) C r T d H K=aY C r (iY T d v) H K:=aD _ _
theorem wU(v:aa)(H':ae):Gq (some (v,H')) C r T d K=aY C r (iY T d v) H' K:=aD _ _
theorem wS(H':ae):QD (some H') C r T d K=aY C r (iY T d aR) H' K:=aD _ _
theorem zG(v:aa):NI C r T d K v H=aY C r (iY T d v) H K:=_root_.id rfl
theorem Jl:aY C [] T H K=K T H:=_root_.id rfl
open Classical in
theorem Ap(o:gL)(t:Nat)(b:Bool)(ht:t<1000000):aY C (⟨d,o,some (t,b)⟩::r) T H K=if T t=.bool b then aY C (⟨d,o,none⟩::r) T H K else aY C r (iY T d aR) H K:=by
 simp only[aY,Ms T ht]
 by_cases h:T t=.bool b
 ·rw[if_pos h,h]; cases b <;> rfl
 ·rw[if_neg h]
  have:OH b (T t)=false:=by
   unfold OH
   cases hv:T t <;> simp only[QJ]
   rename_i v
   rw[hv]at h
   cases b <;> cases v <;> simp at h ⊢
  rw[this]; rfl
theorem DN(x:a8):aY C (⟨d,.mv x,none⟩::r) T H K=aY C r (iY T d (sX T x)) H K:=_root_.id rfl
open Classical in
theorem DL(c a b:a8):aY C (⟨d,.pick c a b,none⟩::r) T H K=if sX T c=.bool true then aY C r (iY T d (sX T a)) H K else if sX T c=.bool false then aY C r (iY T d (sX T b)) H K else False:=by
 simp only[aY,sG,Ey,cond_true]
 by_cases h:sX T c=.bool true
 ·rw[if_pos h,h]; simp
 ·rw[if_neg h]
  by_cases h':sX T c=.bool false
  ·rw[if_pos h',h']; simp
  ·rw[if_neg h']
   simp only[eq_iff_iff,iff_false,not_exists,not_and]
   intro v hv
   cases v
   ·exact absurd hv h'
   ·exact absurd hv h
theorem Jm(z:List aa):aY C (⟨d,.new z,none⟩::r) T H K=aY C r (iY T d (fS H z).1) (fS H z).2 K:=_root_.id rfl
theorem Jp(x:a8):aY C (⟨d,.box x,none⟩::r) T H K=aY C r (iY T d (fS H (sX T x).cells).1) (fS H (sX T x).cells).2 K:=_root_.id rfl
theorem Av(z:List aa)(ps:List (Nat×Nat×a8)):aY C (⟨d,.build z ps,none⟩::r) T H K=jP (aL z (pu T ps)) C r T d H K:=_root_.id rfl
theorem uh(n:Nat)(z:List aa)(ps:List (Nat×Nat×a8)):aY C (⟨d,.buildSl n z ps,none⟩::r) T H K=Gq (cA n z H (pu T ps)) C r T d K:=_root_.id rfl
theorem DO(a:Bool)(n:Nat)(x:a8):aY C (⟨d,.load a n x,none⟩::r) T H K=jP (au a n H (sX T x)) C r T d H K:=_root_.id rfl
theorem An(n:Nat)(a x:a8):aY C (⟨d,.store n a x,none⟩::r) T H K=QD (bu n H (sX T a) (sX T x)) C r T d K:=_root_.id rfl
theorem wE(x:a8):aY C (⟨d,.nilChk x,none⟩::r) T H K=jP (cF (sX T x)) C r T d H K:=_root_.id rfl
theorem Jq(op:BinOp)(x y:a8):aY C (⟨d,.bin op x y,none⟩::r) T H K=jP (bv op (sX T x) (sX T y)) C r T d H K:=_root_.id rfl
theorem M0(op:UnOp)(x:a8):aY C (⟨d,.un op x,none⟩::r) T H K=jP (LN op (sX T x)) C r T d H K:=_root_.id rfl
theorem DU(k:IntKind)(x:a8):aY C (⟨d,.conv k x,none⟩::r) T H K=jP (qU k (sX T x)) C r T d H K:=_root_.id rfl
theorem wI(x:a8):aY C (⟨d,.convSB x,none⟩::r) T H K=Gq (OQ H (sX T x)) C r T d K:=_root_.id rfl
theorem wJ(x:a8):aY C (⟨d,.convBS x,none⟩::r) T H K=jP (OR H (sX T x)) C r T d H K:=_root_.id rfl
theorem wF(fn:Fn)(a b:List a8):aY C (⟨d,.mkFunc fn a b,none⟩::r) T H K=aY C r (iY T d (.func fn (jA T a) (jA T b))) H K:=_root_.id rfl
theorem uf(t:TypeId)(x:a8):aY C (⟨d,.mkIface t x,none⟩::r) T H K=aY C r (iY T d (.iface t (sX T x))) H K:=_root_.id rfl
theorem ue(b:Nat)(z:List aa)(l c:a8):aY C (⟨d,.mkSlice b z l c,none⟩::r) T H K=Gq (wP b z H (sX T l) (sX T c)) C r T d K:=_root_.id rfl
theorem M1(n:Nat)(x:a8)(lo hi mx:Option a8):aY C (⟨d,.sl n x lo hi mx,none⟩::r) T H K=jP (LP n (sX T x) (jc T lo) (jc T hi) (jc T mx)) C r T d H K:=_root_.id rfl
theorem Ao(x:a8)(lo hi:Option a8):aY C (⟨d,.slStr x lo hi,none⟩::r) T H K=jP (fG (sX T x) (jc T lo) (jc T hi)) C r T d H K:=_root_.id rfl
theorem wH(o:Nat)(x:a8):aY C (⟨d,.fieldA o x,none⟩::r) T H K=jP (ic o (sX T x)) C r T d H K:=_root_.id rfl
theorem Aq(a:Bool)(n o:Nat)(x:a8):aY C (⟨d,.field a n o x,none⟩::r) T H K=jP (mJ a n o (sX T x)) C r T d H K:=_root_.id rfl
theorem DT(n:Nat)(x i:a8):aY C (⟨d,.idxA n x i,none⟩::r) T H K=jP (iU n (sX T x) (sX T i)) C r T d H K:=_root_.id rfl
theorem wG(m n:Nat)(x i:a8):aY C (⟨d,.idxArr m n x i,none⟩::r) T H K=jP (fw m n (sX T x) (sX T i)) C r T d H K:=_root_.id rfl
theorem Jo(m n:Nat)(a:Bool)(x i:a8):aY C (⟨d,.idx m n a x i,none⟩::r) T H K=jP (B6 m n a (sX T x) (sX T i)) C r T d H K:=_root_.id rfl
theorem DR(x i:a8):aY C (⟨d,.idxS x i,none⟩::r) T H K=jP (lT (sX T x) (sX T i)) C r T d H K:=_root_.id rfl
theorem ug(i:Nat)(x:a8):aY C (⟨d,.extract i x,none⟩::r) T H K=jP (eR i (sX T x)) C r T d H K:=_root_.id rfl
theorem wL(n b:Nat)(s x:a8):aY C (⟨d,.append n b s x,none⟩::r) T H K=Gq (bQ n b H (sX T s) (sX T x)) C r T d K:=_root_.id rfl
theorem Jn(s:Bool)(x:a8):aY C (⟨d,.len s x,none⟩::r) T H K=jP (iT s (sX T x)) C r T d H K:=_root_.id rfl
theorem DV(f:FuncId)(args:List a8):aY C (⟨d,.call f args,none⟩::r) T H K=C f (jA T args) H (NI C r T d K):=_root_.id rfl
def nM(C:CS)(f:aa)(args:List aa)(H:ae)(K:aa->ae->Prop):Prop:=∃g a b,f=.func (.func g) a b/\Nat.blt g cj=true/\C g (a++args++b) H K
theorem g9(g:Nat)(a b args:List aa)(K:aa->ae->Prop)(hg:g<1024):nM C (.func (.func g) a b) args H K=C g (a++args++b) H K:=by
 simp only[nM,aa.func.injEq,Fn.func.injEq]
 apply propext
 constructor
 ·rintro ⟨g,a,b,⟨rfl,rfl,rfl⟩,_,h⟩; exact h
 ·intro h; exact⟨_,_,_,⟨rfl,rfl,rfl⟩,SD hg,h⟩
theorem Au(f:a8)(args:List a8):aY C (⟨d,.callv f args,none⟩::r) T H K=nM C (sX T f) (jA T args) H (NI C r T d K):=_root_.id rfl
theorem M4(f:PF)(xs:List a8):aY C (⟨d,.pf f xs,none⟩::r) T H K=jP (gJ f (jA T xs)) C r T d H K:=_root_.id rfl
theorem M5(f:HF)(xs:List a8):aY C (⟨d,.hf f xs,none⟩::r) T H K=Gq (mV f H (jA T xs)) C r T d K:=_root_.id rfl
theorem Jk(m n:Nat)(x:a8)(lo hi mx:Option a8):aY C (⟨d,.slA m n x lo hi mx,none⟩::r) T H K=jP (nR m n (sX T x) (jc T lo) (jc T hi) (jc T mx)) C r T d H K:=_root_.id rfl
theorem yq(i:Nat)(v:aa):iY T (some i) v=up T i v:=_root_.id rfl
theorem yr(v:aa):iY T none v=T:=_root_.id rfl
theorem PC(i:Nat):sX T (.t i)=T i:=_root_.id rfl
theorem PE(v:aa):sX T (.c v)=v:=_root_.id rfl
theorem PD(i:Nat):sX T (.f i)=.func (.func i) [] []:=_root_.id rfl
theorem oP(res:List mN)(K:aa->ae->Prop):eD res K .ret T H=dh (kF T H res) fun l=>K (iS l) H:=_root_.id rfl
theorem MG(i:Nat)(K:aa->ae->Prop):eD [.t i] K .ret T H=K (T i) H:=by
 simp only[eD,kF,aD]; rfl
theorem IH(i j:Nat)(K:aa->ae->Prop):eD [.t i,.t j] K .ret T H=K (.tuple [T i,T j]) H:=by
 simp only[eD,kF,aD]; rfl
theorem IG(i j k:Nat)(K:aa->ae->Prop):eD [.t i,.t j,.t k] K .ret T H=K (.tuple [T i,T j,T k]) H:=by
 simp only[eD,kF,aD]; rfl
def pq(C:CS):Prop:=∀f a H (K K':aa->ae->Prop),(∀v H,K v H->K' v H)->C f a H K->C f a H K'
theorem dJ(P:Program)(N:gH):pq (az P N):=fun _ _ _ _ _ h hc=>hc.mono h
theorem se(hC:pq C){K K':aa->ae->Prop}(h:∀v H,K v H->K' v H){o:gL}(hw:Ey C T H K o):Ey C T H K' o:=by
 cases o
 case call f args=>exact hC _ _ _ _ _ h hw
 case callv f args=>obtain⟨g,a,b,h1,h0,h2⟩:=hw; exact⟨g,a,b,h1,h0,hC _ _ _ _ _ h h2⟩
 case pick c a b=>obtain⟨v,h1,h2⟩:=hw; exact⟨v,h1,h _ _ h2⟩
 case bad=>exact hw
 all_goals first
  | exact h _ _ hw
  | exact dh.mono hw fun v hv=>h _ _ hv
theorem GD(hC:pq C):∀(l:List al) {T:cD} {H:ae} {K:List (aa×ae)->cD->ae->Prop} {K':cD->ae->Prop},(∀ss T H,K' T H->K ss T H)->aY C l T H K'->fd C l T H K:=by
 intro l
 induction l with
 | nil=>intro T H K K' h hw; exact h _ _ _ hw
 | cons o l ih=>
  intro T H K K' h hw
  simp only[aY,fd]at hw ⊢
  cases hg:sG T o.guard with
  | false=>rw[hg]at hw; exact ih (fun ss T H=>h _ T H) hw
  | true=>
   rw[hg]at hw
   simp only[cond_true]at hw ⊢
   exact se hC (fun v H' hw=>ih (fun ss T H=>h _ T H) hw) hw
def ui:List (List Nat)->Bool
 | []=>true
 | []::r=>ui r
 | _::_=>false
theorem I2{hs:List ae}:∀(l:List al) (ps:List (List Nat)) (ss:List (aa×ae)) (T:cD),ui ps=true->AC hs l ps ss T
 | [],_,_,_,_=>trivial
 | o::l,[],_,_,_=>trivial
 | o::l,[]::ps,[],_,_=>trivial
 | o::l,[]::ps,(v,Hv)::ss,T,h=>⟨fun p hp=>by simp at hp,I2 l ps ss _ h⟩
 | o::l,(q::p)::ps,_,_,h=>by simp[ui]at h
def tm:List al->Bool
 | []=>true
 | o::r=>match cG o.op with
  | some _=>false
  | none=>tm r
theorem eZ:∀(l:List al),tm l=true->∀(b:Nat) (H:ae),aB b l=l/\aQ H l=H
 | [],_,b,H=>⟨rfl,rfl⟩
 | o::r,h,b,H=>by
  cases hz:cG o.op with
  | some p=>simp[tm,hz]at h
  | none=>
   simp only[tm,hz]at h
   exact⟨by simp only[aB,hz,(eZ r h b H).1],by simp only[aQ,hz,(eZ r h b H).2]⟩
theorem GF(hC:pq C):∀(l:List al) {T:cD} {H:ae} {K K':List (aa×ae)->cD->ae->Prop},(∀ss T H,K ss T H->K' ss T H)->fd C l T H K->fd C l T H K':=by
 intro l
 induction l with
 | nil=>intro T H K K' h hw; exact h _ _ _ hw
 | cons o l ih=>
  intro T H K K' h hw
  simp only[fd]at hw ⊢
  cases hg:sG T o.guard with
  | false=>rw[hg]at hw; exact ih (fun ss T H=>h _ T H) hw
  | true=>
   rw[hg]at hw
   simp only[cond_true]at hw ⊢
   exact se hC (fun v H' hw=>ih (fun ss T H=>h _ T H) hw) hw
theorem AP(hC:pq C):∀(l:List al) {T:cD} {H:ae} {K K':cD->ae->Prop},(∀T H,K T H->K' T H)->aY C l T H K->aY C l T H K':=by
 intro l
 induction l with
 | nil=>intro T H K K' h hw; exact h _ _ hw
 | cons o l ih=>
  intro T H K K' h hw
  simp only[aY]at hw ⊢
  cases hg:sG T o.guard with
  | false=>rw[hg]at hw; exact ih h hw
  | true=>
   rw[hg]at hw
   simp only[cond_true]at hw ⊢
   exact se hC (fun v H' hw=>ih h hw) hw
theorem j6{Q Q':nV}{K K':cD->ae->Prop}(h:∀e T H,Q e T H->Q' e T H)(hk:∀T H,K T H->K' T H)(e:uD)(T:cD)(H:ae)(hq:kD Q K e T H):kD Q' K' e T H:=by
 cases e with
 | normal=>exact hk _ _ hq
 | exit i=>exact h _ _ _ hq
 | ret=>exact h _ _ _ hq
theorem rY(hC:pq C):∀(c:cS) {Q Q':nV} {T:cD} {H:ae},(∀e T H,Q e T H->Q' e T H)->wp C c Q T H->wp C c Q' T H:=by
 intro c
 induction c with
 | skip=>intro Q Q' T H h hw; exact h _ _ _ hw
 | reg l=>intro Q Q' T H h hw; exact AP hC l (h .normal) hw
 | draw l chk=>intro Q Q' T H h hw; exact GF hC _ (fun ss T' H' hk=>⟨hk.1,h _ _ _ hk.2⟩) hw
 | seq a b iha ihb=>intro Q Q' T H h hw; exact iha (j6 h fun T H hk=>ihb h hk) hw
 | cond c a b iha ihb=>
  intro Q Q' T H h hw
  obtain⟨v,h1,h2⟩:=hw
  refine⟨v,h1,?_⟩
  cases v with
  | true=>exact iha h h2
  | false=>exact ihb h h2
 | block id c ih=>
  intro Q Q' T H h hw
  refine ih (fun e T H hk=>?_) hw
  cases e with
  | exit j=>
   simp only[lB]at hk ⊢
   cases hb:Nat.beq j id with
   | true=>rw[hb]at hk; exact h _ _ _ hk
   | false=>rw[hb]at hk; exact h _ _ _ hk
  | normal=>exact h _ _ _ hk
  | ret=>exact h _ _ _ hk
 | loop c ih=>
  intro Q Q' T H h hw
  obtain⟨I,hm,hI⟩:=hw
  exact⟨I,hm,fun m T H hi=>ih (j6 h fun _ _ hk=>hk) (hI m T H hi)⟩
 | exit id=>intro Q Q' T H h hw; exact h _ _ _ hw
 | ret=>intro Q Q' T H h hw; exact h _ _ _ hw
def uP:cS->cS
 | .draw l chk=>bif ui chk&&tm l then .reg l else .draw l chk
 | .seq a b=>.seq (uP a) (uP b)
 | .cond c a b=>.cond c (uP a) (uP b)
 | .block id c=>.block id (uP c)
 | .loop c=>.loop (uP c)
 | c=>c
theorem B9(hC:pq C):∀(c:cS) {Q:nV} {T:cD} {H:ae},wp C (uP c) Q T H->wp C c Q T H:=by
 intro c
 induction c with
 | skip=>intro Q T H hw; exact hw
 | reg l=>intro Q T H hw; exact hw
 | draw l chk=>
  intro Q T H hw
  simp only[uP]at hw
  cases hb:ui chk&&tm l with
  | false=>rw[hb]at hw; exact hw
  | true=>
   rw[hb]at hw
   simp only[SE]at hb
   simp only[wp,Ca,(eZ l hb.2 H.next H).1,(eZ l hb.2 H.next H).2]
   exact GD hC l (K:=fun ss T' H'=>AC (H::ss.map (·.2)) l chk ss T/\Q .normal T' H') (fun ss T' H' hk=>⟨I2 l chk ss T hb.1,hk⟩) hw
 | seq a b iha ihb=>intro Q T H hw; exact rY hC a (j6 (fun _ _ _ h=>h) fun T H hk=>ihb hk) (iha hw)
 | cond c a b iha ihb=>
  intro Q T H hw
  obtain⟨v,h1,h2⟩:=hw
  refine⟨v,h1,?_⟩
  cases v with
  | true=>exact iha h2
  | false=>exact ihb h2
 | block id c ih=>intro Q T H hw; exact ih hw
 | loop c ih=>
  intro Q T H hw
  obtain⟨I,hm,hI⟩:=hw
  exact⟨I,hm,fun m T H hi=>ih (hI m T H hi)⟩
 | exit id=>intro Q T H hw; exact hw
 | ret=>intro Q T H hw; exact hw
def cN(P:Program)(f:FuncId):Option bY:=match J1 P f with
 | some c=>some ⟨c.nt,uP c.body,c.res⟩
 | none=>none
theorem aj{P:Program}{N:gH}{f:FuncId}{c:bY}{args:List aa}{H:ae}{K:aa->ae->Prop}(hn:N.is f=false)(hc:cN P f=some c)(hl:Nat.ble args.length c.nt=true)(h:wp (az P N) c.body (eD c.res K) (mL args) H)(hm:N.md f=none:=by rfl)(hfb:Nat.blt f cj=true:=by rfl):az P N f args H K:=by
 unfold cN at hc
 cases hf:J1 P f with
 | none=>rw[hf]at hc; simp at hc
 | some c'=>
  rw[hf]at hc
  simp only[sJ]at hc
  subst hc
  exact wN hn (FM hf hm hfb) hl (B9 (dJ P N) _ h)
def MP(P:Program)(md:Option Eg)(i:Nat):Option bY:=match xU P md i with
 | some c=>some ⟨c.nt,uP c.body,c.res⟩
 | none=>none
theorem gF{P:Program}{N:gH}{i:Nat}{md:Option Eg}{c:bY}{args:List aa}{H:ae}{K:aa->ae->Prop}(hn:N.is i=false)(hc:MP P md i=some c)(hl:Nat.ble args.length c.nt=true)(h:wp (az P N) c.body (eD c.res K) (mL args) H)(hm:N.md (i % cj)=md:=by rfl):az P N i args H K:=by
 unfold MP at hc
 subst hm
 cases hf:xU P (N.md (i % cj)) i with
 | none=>rw[hf]at hc; simp at hc
 | some c'=>
  rw[hf]at hc
  simp only[sJ]at hc
  subst hc
  exact wN hn hf hl (B9 (dJ P N) _ h)
theorem cI{l:List al}{chk:List (List Nat)}(h2:tm l=true)(h:fd C l T H fun ss T' H'=>AC (H::ss.map (·.2)) l chk ss T/\Q .normal T' H'):wp C (.draw l chk) Q T H:=by
 simp only[wp,Ca,(eZ l h2 H.next H).1,(eZ l h2 H.next H).2]
 exact h
end
theorem Jj(a:aa)(r:List aa):mL (a::r) 0=a:=_root_.id rfl
theorem Ji(a b:aa)(r:List aa):mL (a::b::r) 1=b:=_root_.id rfl
theorem Jh(a b c:aa)(r:List aa):mL (a::b::c::r) 2=c:=_root_.id rfl
theorem Jg(a b c d:aa)(r:List aa):mL (a::b::c::d::r) 3=d:=_root_.id rfl
theorem Jf(a b c d e:aa)(r:List aa):mL (a::b::c::d::e::r) 4=e:=_root_.id rfl
theorem Dw(k:IntKind)(a b:Int):bv .lss (.int k a) (.int k b)=some (.bool (decide (a<b))):=by
 simp[bv,cL,dr,kI]
theorem Dx(k:IntKind)(a b:Int):bv .leq (.int k a) (.int k b)=some (.bool (decide (a<=b))):=by
 simp[bv,cL,dr,kI]
theorem Dy(k:IntKind)(a b:Int):bv .gtr (.int k a) (.int k b)=some (.bool (decide (b<a))):=by
 simp[bv,cL,dr,kI]
theorem Dz(k:IntKind)(a b:Int):bv .geq (.int k a) (.int k b)=some (.bool (decide (b<=a))):=by
 simp[bv,cL,dr,kI]
theorem DC(k:IntKind)(a b:Int):bv .eql (.int k a) (.int k b)=some (.bool (decide (a=b))):=by
 simp only[bv,cL,dr,kI,cond_false,if_true]
 by_cases h:a=b <;> simp[h]
theorem Du(k:IntKind)(a b:Int):bv .neq (.int k a) (.int k b)=some (.bool (!decide (a=b))):=by
 simp only[bv,cL,dr,kI,cond_false,if_true]
 by_cases h:a=b <;> simp[h,bne]
theorem DD(k:IntKind)(a b:Int):bv .add (.int k a) (.int k b)=some (.int k (k.wrap (a+b))):=by
 simp[bv,cL,dr,kI]
theorem Ds(k:IntKind)(a b:Int):bv .sub (.int k a) (.int k b)=some (.int k (k.wrap (a-b))):=by
 simp[bv,cL,dr,kI]
theorem Dv(k:IntKind)(a b:Int):bv .mul (.int k a) (.int k b)=some (.int k (k.wrap (a*b))):=by
 simp[bv,cL,dr,kI]
theorem pc(k:IntKind)(a b:Int)(h:b≠0):bv .rem (.int k a) (.int k b)=some (.int k (a.tmod b)):=by
 simp[bv,cL,dr,kI,h]
theorem Pr(a b:Nat)(h:a+b<=9223372036854775807):IntKind.i64.wrap ((a:Int)+(b:Int))=((a+b:Nat):Int):=by
 rw[IntKind.wrap_i64]; omega
theorem nY(a:Nat)(h:a+1<=9223372036854775807):IntKind.i64.wrap ((a:Int)+1)=((a+1:Nat):Int):=by
 rw[IntKind.wrap_i64]; omega
theorem cx{α:Type}{l:List α}{i:Nat}(h:i<l.length):∃x,l[i]?=some x:=⟨_,SB h⟩
theorem dj{a:Int}(h1:-9223372036854775808<=a)(h2:a<=9223372036854775807):IntKind.i64.wrap a=a:=by
 rw[IntKind.wrap_i64]; omega
end Go.Abs.S
namespace Go.Abs
section
variable {P:Program} {Prot:Gh} {w0:World} {ρ:Pl} {H:ae} {w:World}
theorem bF.keep(R:bF Prot w0 ρ H w){w':World}(hb:RowKit.Below w.heap.size w w'):bF Prot w0 ρ H w':=by
 refine⟨hb.os.trans R.os,hb.tape.trans R.tape,hb.output.trans R.output,Nat.le_trans R.size hb.size,fun c hc=>?_,fun b l L h=>?_,fun b l L h=>?_,R.free,R.inj,R.dead,R.glob⟩
 ·obtain⟨h1,h2⟩:=R.prot c hc
  exact⟨h1,(hb.block c (SR h1 R.size)).trans h2⟩
 ·obtain⟨h1,h2⟩:=R.dom b l L h
  exact⟨h1,SR h2 hb.size⟩
 ·obtain⟨x,o,h1,h2,h3⟩:=R.obj b l L h
  exact⟨x,o,h1,(hb.block _ (R.dom b l L h).2).trans h2,h3⟩
end
end Go.Abs
namespace Go.Abs.S
open Go.Abs
section
variable {C:CS} {T:cD} {H:ae} {r:List al} {d:Option Nat}
abbrev KT:=List (aa×ae)->cD->ae->Prop
variable {K:KT}
def gZ(v:aa)(H:ae)(K:KT):KT:=fun ss=>K ((v,H)::ss)
theorem ws(v:aa)(H':ae)(ss:List (aa×ae)):gZ v H' K ss T H=K ((v,H')::ss) T H:=_root_.id rfl
def ft(o:Option aa)(C:CS)(r:List al)(T:cD)(d:Option Nat)(H:ae)(K:KT):Prop:=dh o fun v=>fd C r (iY T d v) H (gZ v H K)
def wV(o:Option (aa×ae))(C:CS)(r:List al)(T:cD)(d:Option Nat)(K:KT):Prop:=dh o fun p=>fd C r (iY T d p.1) p.2 (gZ p.1 p.2 K)
def Nf(o:Option ae)(C:CS)(r:List al)(T:cD)(d:Option Nat)(K:KT):Prop:=dh o fun H'=>fd C r (iY T d aR) H' (gZ aR H' K)
def Ij(C:CS)(r:List al)(T:cD)(d:Option Nat)(K:KT):aa->ae->Prop:=fun v H'=>fd C r (iY T d v) H' (gZ v H' K)
theorem uA(v:aa):ft (some v) C r T d H K=fd C r (iY T d v) H (gZ v H K):=aD _ _
theorem uB(v:aa)(H':ae):wV (some (v,H')) C r T d K=fd C r (iY T d v) H' (gZ v H' K):=aD _ _
theorem uz(H':ae):Nf (some H') C r T d K=fd C r (iY T d aR) H' (gZ aR H' K):=aD _ _
theorem vX(v:aa):Ij C r T d K v H=fd C r (iY T d v) H (gZ v H K):=_root_.id rfl
theorem GP:fd C [] T H K=K [] T H:=_root_.id rfl
open Classical in
theorem yz(o:gL)(t:Nat)(b:Bool)(ht:t<1000000):fd C (⟨d,o,some (t,b)⟩::r) T H K=if T t=.bool b then fd C (⟨d,o,none⟩::r) T H K else fd C r (iY T d aR) H (gZ aR H K):=by
 simp only[fd,Ms T ht]
 by_cases h:T t=.bool b
 ·rw[if_pos h,h]; cases b <;> rfl
 ·rw[if_neg h]
  have:OH b (T t)=false:=by
   unfold OH
   cases hv:T t <;> simp only[QJ]
   rename_i v
   rw[hv]at h
   cases b <;> cases v <;> simp at h ⊢
  rw[this]; rfl
open Classical in
theorem Cg(c a b:a8):fd C (⟨d,.pick c a b,none⟩::r) T H K=if sX T c=.bool true then fd C r (iY T d (sX T a)) H (gZ (sX T a) H K) else if sX T c=.bool false then fd C r (iY T d (sX T b)) H (gZ (sX T b) H K) else False:=by
 simp only[fd,sG,Ey,cond_true]
 by_cases h:sX T c=.bool true
 ·rw[if_pos h,h]; simp; rfl
 ·rw[if_neg h]
  by_cases h':sX T c=.bool false
  ·rw[if_pos h',h']; simp; rfl
  ·rw[if_neg h']
   simp only[eq_iff_iff,iff_false,not_exists,not_and]
   intro v hv
   cases v
   ·exact absurd hv h'
   ·exact absurd hv h
theorem Mi(x:a8):fd C (⟨d,.mv x,none⟩::r) T H K=fd C r (iY T d (sX T x)) H (gZ (sX T x) H K):=_root_.id rfl
theorem GQ(z:List aa):fd C (⟨d,.new z,none⟩::r) T H K=fd C r (iY T d (fS H z).1) (fS H z).2 (gZ (fS H z).1 (fS H z).2 K):=_root_.id rfl
theorem GV(x:a8):fd C (⟨d,.box x,none⟩::r) T H K=fd C r (iY T d (fS H (sX T x).cells).1) (fS H (sX T x).cells).2 (gZ (fS H (sX T x).cells).1 (fS H (sX T x).cells).2 K):=_root_.id rfl
theorem yC(z:List aa)(ps:List (Nat×Nat×a8)):fd C (⟨d,.build z ps,none⟩::r) T H K=ft (aL z (pu T ps)) C r T d H K:=_root_.id rfl
theorem sM(n:Nat)(z:List aa)(ps:List (Nat×Nat×a8)):fd C (⟨d,.buildSl n z ps,none⟩::r) T H K=wV (cA n z H (pu T ps)) C r T d K:=_root_.id rfl
theorem Ch(a:Bool)(n:Nat)(x:a8):fd C (⟨d,.load a n x,none⟩::r) T H K=ft (au a n H (sX T x)) C r T d H K:=_root_.id rfl
theorem yx(n:Nat)(a x:a8):fd C (⟨d,.store n a x,none⟩::r) T H K=Nf (bu n H (sX T a) (sX T x)) C r T d K:=_root_.id rfl
theorem vl(x:a8):fd C (⟨d,.nilChk x,none⟩::r) T H K=ft (cF (sX T x)) C r T d H K:=_root_.id rfl
theorem GW(op:BinOp)(x y:a8):fd C (⟨d,.bin op x y,none⟩::r) T H K=ft (bv op (sX T x) (sX T y)) C r T d H K:=_root_.id rfl
theorem Mf(op:UnOp)(x:a8):fd C (⟨d,.un op x,none⟩::r) T H K=ft (LN op (sX T x)) C r T d H K:=_root_.id rfl
theorem Ck(k:IntKind)(x:a8):fd C (⟨d,.conv k x,none⟩::r) T H K=ft (qU k (sX T x)) C r T d H K:=_root_.id rfl
theorem vr(x:a8):fd C (⟨d,.convSB x,none⟩::r) T H K=wV (OQ H (sX T x)) C r T d K:=_root_.id rfl
theorem vt(x:a8):fd C (⟨d,.convBS x,none⟩::r) T H K=ft (OR H (sX T x)) C r T d H K:=_root_.id rfl
theorem vm(fn:Fn)(a b:List a8):fd C (⟨d,.mkFunc fn a b,none⟩::r) T H K=fd C r (iY T d (.func fn (jA T a) (jA T b))) H (gZ (.func fn (jA T a) (jA T b)) H K):=_root_.id rfl
theorem sI(t:TypeId)(x:a8):fd C (⟨d,.mkIface t x,none⟩::r) T H K=fd C r (iY T d (.iface t (sX T x))) H (gZ (.iface t (sX T x)) H K):=_root_.id rfl
theorem sH(b:Nat)(z:List aa)(l c:a8):fd C (⟨d,.mkSlice b z l c,none⟩::r) T H K=wV (wP b z H (sX T l) (sX T c)) C r T d K:=_root_.id rfl
theorem Mg(n:Nat)(x:a8)(lo hi mx:Option a8):fd C (⟨d,.sl n x lo hi mx,none⟩::r) T H K=ft (LP n (sX T x) (jc T lo) (jc T hi) (jc T mx)) C r T d H K:=_root_.id rfl
theorem yy(x:a8)(lo hi:Option a8):fd C (⟨d,.slStr x lo hi,none⟩::r) T H K=ft (fG (sX T x) (jc T lo) (jc T hi)) C r T d H K:=_root_.id rfl
theorem vq(o:Nat)(x:a8):fd C (⟨d,.fieldA o x,none⟩::r) T H K=ft (ic o (sX T x)) C r T d H K:=_root_.id rfl
theorem yA(a:Bool)(n o:Nat)(x:a8):fd C (⟨d,.field a n o x,none⟩::r) T H K=ft (mJ a n o (sX T x)) C r T d H K:=_root_.id rfl
theorem Cj(n:Nat)(x i:a8):fd C (⟨d,.idxA n x i,none⟩::r) T H K=ft (iU n (sX T x) (sX T i)) C r T d H K:=_root_.id rfl
theorem vp(m n:Nat)(x i:a8):fd C (⟨d,.idxArr m n x i,none⟩::r) T H K=ft (fw m n (sX T x) (sX T i)) C r T d H K:=_root_.id rfl
theorem GU(m n:Nat)(a:Bool)(x i:a8):fd C (⟨d,.idx m n a x i,none⟩::r) T H K=ft (B6 m n a (sX T x) (sX T i)) C r T d H K:=_root_.id rfl
theorem Ci(x i:a8):fd C (⟨d,.idxS x i,none⟩::r) T H K=ft (lT (sX T x) (sX T i)) C r T d H K:=_root_.id rfl
theorem sK(i:Nat)(x:a8):fd C (⟨d,.extract i x,none⟩::r) T H K=ft (eR i (sX T x)) C r T d H K:=_root_.id rfl
theorem vu(n b:Nat)(s x:a8):fd C (⟨d,.append n b s x,none⟩::r) T H K=wV (bQ n b H (sX T s) (sX T x)) C r T d K:=_root_.id rfl
theorem GR(s:Bool)(x:a8):fd C (⟨d,.len s x,none⟩::r) T H K=ft (iT s (sX T x)) C r T d H K:=_root_.id rfl
theorem Cl(f:FuncId)(args:List a8):fd C (⟨d,.call f args,none⟩::r) T H K=C f (jA T args) H (Ij C r T d K):=_root_.id rfl
theorem yB(f:a8)(args:List a8):fd C (⟨d,.callv f args,none⟩::r) T H K=nM C (sX T f) (jA T args) H (Ij C r T d K):=_root_.id rfl
theorem Mh(f:PF)(xs:List a8):fd C (⟨d,.pf f xs,none⟩::r) T H K=ft (gJ f (jA T xs)) C r T d H K:=_root_.id rfl
theorem Mj(f:HF)(xs:List a8):fd C (⟨d,.hf f xs,none⟩::r) T H K=wV (mV f H (jA T xs)) C r T d K:=_root_.id rfl
theorem GO(m n:Nat)(x:a8)(lo hi mx:Option a8):fd C (⟨d,.slA m n x lo hi mx,none⟩::r) T H K=ft (nR m n (sX T x) (jc T lo) (jc T hi) (jc T mx)) C r T d H K:=_root_.id rfl
theorem bG(hs:List ae)(o:al)(l:List al)(ps:List (List Nat))(v:aa)(Hv:ae)(ss:List (aa×ae)):AC hs (o::l) ([]::ps) ((v,Hv)::ss) T=AC hs l ps ss (iY T o.dst v):=by
 simp[AC]
def JZ(hs:List ae)(ps:List Nat)(T:cD)(o:al)(v:aa):Prop:=∀p∈ps,∃Hp,hs[p]?=some Hp/\(sG T o.guard=true->∃u,Pt T Hp o.op=some u/\aeq u v=true)
theorem bH(hs:List ae)(o:al)(l:List al)(p:Nat)(q:List Nat)(ps:List (List Nat))(v:aa)(Hv:ae)(ss:List (aa×ae)):AC hs (o::l) ((p::q)::ps) ((v,Hv)::ss) T=(JZ hs (p::q) T o v/\AC hs l ps ss (iY T o.dst v)):=by
 simp[AC,JZ]
theorem co(hs:List ae)(ps:List (List Nat))(ss:List (aa×ae)):AC hs [] ps ss T=True:=by
 cases ps <;> simp[AC]
theorem bI(hs:List ae)(o:al)(v:aa):JZ hs [] T o v=True:=by simp[JZ]
theorem bg(hs:List ae)(p:Nat)(q:List Nat)(a:Bool)(n:Nat)(x:a8)(g:Option (Nat×Bool))(v:aa):JZ hs (p::q) T ⟨d,.load a n x,g⟩ v=((∃Hp,hs[p]?=some Hp/\(sG T g=true->∃u,au a n Hp (sX T x)=some u/\aeq u v=true))/\JZ hs q T ⟨d,.load a n x,g⟩ v):=by
 simp[JZ,Pt]
theorem dE(k:IntKind)(a:Int):aeq (.int k a) (.int k a)=true:=by simp[aeq,fD]
theorem uk(a:Bool):aeq (.bool a) (.bool a)=true:=by simp[aeq]
theorem rN(a:List UInt8):aeq (.str a) (.str a)=true:=by simp[aeq]
end
def PR(N:gH)(md:Nat->Option Eg):gH:=⟨N.is,N.run,md⟩
theorem KU{P:Program}{N:gH}(h:uC P N)(md:Nat->Option Eg):uC P (PR N md):=⟨h.body,h.run⟩
end Go.Abs.S
namespace Go.Abs.S
open Go.Abs
theorem aw(H:ae)(l:List aa){n:Nat}(hn:l.length=n):∃H',fS H l=(af H.next n 0,H')/\a6 H' H.next l/\H'.next=H.next+1/\∀c,c≠H.next->H'.get c=H.get c:=by
 subst hn
 exact⟨_,rfl,jG _ _,rfl,fun c hc=>by rw[ae.get_push,if_neg hc]⟩
theorem cB(l:List aa):(aa.agg l).cells=l:=_root_.id rfl
theorem bA(x:aa)(r:List aa):eR 0 (.tuple (x::r))=some x:=_root_.id rfl
theorem bx(x y:aa)(r:List aa):eR 1 (.tuple (x::y::r))=some y:=_root_.id rfl
theorem MH(x y z:aa)(r:List aa):eR 2 (.tuple (x::y::z::r))=some z:=_root_.id rfl
theorem DJ{b n i:Nat}(h:i<n)(k:IntKind):fw n 1 (af b n 0) (.int k (i:Int))=some (af b n i):=by
 show (bif Nat.blt i n then some (aa.ptr (some ⟨b,n,0+i*1⟩)) else none)=_
 have:Nat.blt i n=true:=by simpa[Nat.blt_eq] using h
 rw[this,Nat.zero_add,Nat.mul_one]; rfl
end Go.Abs.S
namespace Go.Abs.S
open Go.Abs Go.WideShapes Go.ChangeShapes
variable {H:Type} {enc:TypeId×Value->H}
end Go.Abs.S
namespace Go.Abs.S
open Go.Abs
theorem qg{C:CS}{c:cS}{id:Nat}{Q:nV}{T:cD}{H:ae}(F:cD->ae->Prop)(hC:pq C)(h:wp C c (lB id (kD Q F)) T H)(k:∀T H,F T H->Q .normal T H):wp C c (lB id Q) T H:=by
 refine rY hC c (fun e T H hq=>?_) h
 cases e with
 | normal=>exact k _ _ hq
 | ret=>exact hq
 | exit j=>
  simp only[lB]at hq ⊢
  cases hb:Nat.beq j id with
  | true=>rw[hb]at hq; exact k _ _ hq
  | false=>rw[hb]at hq; exact hq
end Go.Abs.S
namespace Go.Abs.S
open Go.Abs
theorem Cq(s:List UInt8):iT true (.str s)=some (.int .i64 (s.length:Int)):=_root_.id rfl
theorem db{s:List UInt8}{i:Nat}{b:UInt8}(h:s[i]?=some b)(k:IntKind):lT (.str s) (.int k (i:Int))=some (.int .u8 (b.toNat:Int)):=by
 show (match (s[i]?:Option UInt8) with | some b=>some (aa.int .u8 b.toNat) | none=>none)=_
 rw[h]
theorem yd{y n:Nat}(h:n<=y):bd (.int .i64 (n:Int)) y=some n:=by
 show (bif Nat.ble n y then some n else none)=_
 rw[SD h]; rfl
theorem Hk{s:List UInt8}{l h:Nat}(h1:l<=h)(h2:h<=s.length):fG (.str s) (some (.int .i64 (l:Int))) (some (.int .i64 (h:Int)))=some (.str ((s.drop l).take (h-l))):=by
 simp only[fG,ur,Gx,yd h2,yd h1]
theorem Co{s:List UInt8}{l:Nat}(h1:l<=s.length):fG (.str s) (some (.int .i64 (l:Int))) none=some (.str (s.drop l)):=by
 simp only[fG,ur,Gx,yd h1]
 rw[List.take_of_length_le (by simp)]
theorem rC{s:List UInt8}{h:Nat}(h2:h<=s.length):fG (.str s) none (some (.int .i64 (h:Int)))=some (.str (s.take h)):=by
 simp only[fG,ur,Gx,yd h2,List.drop_zero,Nat.sub_zero]
theorem Cr(x y:List UInt8):bv .eql (.str x) (.str y)=some (.bool (decide (x=y))):=by
 simp only[bv,LO]
 by_cases h:x=y <;> simp[h]
theorem Cp(x y:List UInt8):bv .neq (.str x) (.str y)=some (.bool (!decide (x=y))):=by
 simp only[bv,LO]
 by_cases h:x=y <;> simp[h]
theorem Dl(k k':IntKind)(n:Int):qU k (.int k' n)=some (.int k (k.wrap n)):=by
 simp only[qU,mZ]
theorem GK(b:Bool):LN .not (.bool b)=some (.bool (!b)):=_root_.id rfl
theorem yc(k:IntKind)(a b:Int)(h:b≠0):bv .quo (.int k a) (.int k b)=some (.int k (k.wrap (a.tdiv b))):=by
 simp[bv,cL,dr,kI,h]
theorem pa(k k':IntKind)(a:Int)(b:Nat):bv .shl (.int k a) (.int k' (b:Int))=some (.int k (k.wrap (a*2 ^ (min b k.bits)))):=by
 simp only[bv,cL,cond_true,nS,qk]
 rw[if_neg om]; rfl
theorem LG(k k':IntKind)(a:Int)(b:Nat):bv .shr (.int k a) (.int k' (b:Int))=some (.int k (a.fdiv (2 ^ (min b k.bits)))):=by
 simp only[bv,cL,cond_true,nS,qk]
 rw[if_neg om]; rfl
theorem sw(b:Bool):(aR=aa.bool b)=False:=by simp[aR]
theorem gt{a:Int}(h1:0<=a)(h2:a<=255):IntKind.u8.wrap a=a:=IntWalk.u8_in _ ⟨h1,h2⟩
end Go.Abs.S
namespace Go.Abs.S
open Go.Abs
theorem iw(n m:Nat):(BitVec.ofInt m (n:Int)).toNat=n % 2 ^ m:=by
 rw[BitVec.toNat_ofInt]
 omega
theorem Mc{a:Nat}(h:a<2 ^ 63):IntKind.i64.wrap (a:Int)=a:=by
 rw[IntKind.wrap_i64]; omega
theorem Dt{a b:Nat}(ha:a<2 ^ 63)(hb:b<2 ^ 63):bv .or (.int .i64 (a:Int)) (.int .i64 (b:Int))=some (.int .i64 ((a ||| b:Nat):Int)):=by
 have e:(BitVec.ofInt IntKind.i64.bits (a:Int) ||| BitVec.ofInt IntKind.i64.bits (b:Int)).toNat=a ||| b:=by
  rw[BitVec.toNat_or,iw,iw]
  have h1:a % 2 ^ IntKind.i64.bits=a:=Nat.mod_eq_of_lt (by simp only[IntKind.bits]; omega)
  have h2:b % 2 ^ IntKind.i64.bits=b:=Nat.mod_eq_of_lt (by simp only[IntKind.bits]; omega)
  rw[h1,h2]
 simp only[bv,cL,cond_false,if_true,dr,kI,e]
 rw[Mc (Nat.or_lt_two_pow ha hb)]
theorem Aj{k':IntKind}{a b:Nat}(hb:b<=63)(h:a*2 ^ b<2 ^ 63):bv .shl (.int .i64 (a:Int)) (.int k' (b:Int))=some (.int .i64 ((a*2 ^ b:Nat):Int)):=by
 rw[pa]
 have e:min b IntKind.i64.bits=b:=by simp only[IntKind.bits]; omega
 rw[e]
 have e2:(a:Int)*2 ^ b=((a*2 ^ b:Nat):Int):=by simp
 rw[e2,Mc h]
theorem xy(n a:Nat){b:Nat}(h:b<2 ^ n):a*2 ^ n ||| b=a*2 ^ n+b:=by
 rw[Nat.mul_comm,Nat.two_pow_add_eq_or_of_lt h]
theorem HI(a b:Int):gJ (.mm false) [.int .i64 a,.int .i64 b]=some (.int .i64 (if b<a then b else a)):=by
 simp only[gJ,JB,Ot,JC,tq,cond_false]
 by_cases h:b<a <;> simp[h]
def Gs(l:List Nat):List aa:=l.map fun n:Nat=>.int .u8 (n:Int)
theorem wY(l:List Nat):(Gs l).length=l.length:=by simp[Gs]
theorem Kb{l:List Nat}{i:Nat}{n:Nat}(h:l[i]?=some n):(Gs l)[i]?=some (.int .u8 (n:Int)):=by simp[Gs,h]
theorem Cd(l:List Nat)(i n:Nat):Gs (l.set i n)=(Gs l).set i (.int .u8 (n:Int)):=by simp[Gs]
end Go.Abs.S
namespace Go.Abs.S
open Go.Abs
theorem J5{a:Int}(h1:0<=a)(h2:a<4294967296):IntKind.u32.wrap a=a:=by
 rw[IntKind.wrap_u32]; omega
theorem rW{a:Int}(h1:0<=a)(h2:a<18446744073709551616):IntKind.u64.wrap a=a:=by
 rw[IntKind.wrap_u64]; omega
theorem Sa{a:Nat}(b:Nat)(h:0<b)(ha:a<4294967296):bv .quo (.int .u32 (a:Int)) (.int .u32 (b:Int))=some (.int .u32 ((a / b:Nat):Int)):=by
 rw[yc _ _ _ om]
 have:(a:Int).tdiv b=((a / b:Nat):Int):=rfl
 have h2:=Nat.div_le_self a b
 rw[this,J5 (Int.natCast_nonneg _) (by generalize a / b=q at *; omega)]
theorem R8{a:Nat}(b:Nat)(h:0<b):bv .rem (.int .u32 (a:Int)) (.int .u32 (b:Int))=some (.int .u32 ((a % b:Nat):Int)):=by
 rw[pc _ _ _ om]; rfl
theorem pM{a:Nat}(b:Nat)(h:0<b)(ha:a<18446744073709551616):bv .quo (.int .u64 (a:Int)) (.int .u64 (b:Int))=some (.int .u64 ((a / b:Nat):Int)):=by
 rw[yc _ _ _ om]
 have:(a:Int).tdiv b=((a / b:Nat):Int):=rfl
 have h2:=Nat.div_le_self a b
 rw[this,rW (Int.natCast_nonneg _) (by generalize a / b=q at *; omega)]
theorem xm{a:Nat}(b:Nat)(h:0<b):bv .rem (.int .u64 (a:Int)) (.int .u64 (b:Int))=some (.int .u64 ((a % b:Nat):Int)):=by
 rw[pc _ _ _ om]; rfl
theorem uL(k k':IntKind)(a:Nat){b:Nat}(hb:b<=k.bits):bv .shr (.int k (a:Int)) (.int k' (b:Int))=some (.int k ((a / 2 ^ b:Nat):Int)):=by
 rw[LG,Nat.min_eq_left hb]
 congr 2
 have:((2:Int) ^ b)=((2 ^ b:Nat):Int):=by simp
 rw[this,Int.fdiv_eq_ediv_of_nonneg _ (Int.natCast_nonneg _)]
 rfl
theorem BW{a b:Nat}(ha:a<2 ^ 64)(hb:b<2 ^ 64):bv .and (.int .u64 (a:Int)) (.int .u64 (b:Int))=some (.int .u64 ((a &&& b:Nat):Int)):=by
 have e:(BitVec.ofInt IntKind.u64.bits (a:Int) &&& BitVec.ofInt IntKind.u64.bits (b:Int)).toNat=a &&& b:=by
  rw[BitVec.toNat_and,iw,iw]
  have h1:a % 2 ^ IntKind.u64.bits=a:=Nat.mod_eq_of_lt (by simp only[IntKind.bits]; omega)
  have h2:b % 2 ^ IntKind.u64.bits=b:=Nat.mod_eq_of_lt (by simp only[IntKind.bits]; omega)
  rw[h1,h2]
 simp only[bv,cL,cond_false,if_true,dr,kI,e]
 have h3:=Nat.and_lt_two_pow a hb
 rw[rW om om]
theorem ak{H:ae}{b n:Nat}{l:List aa}(h:a6 H b l)(hn:l.length=n){xs:List aa}(hx:xs.length=n)(ho:xs.all aa.one=true) :
  ∃H',bu n H (af b n 0) (.agg xs)=some H'/\a6 H' b xs/\H'.next=H.next/\∀c,c≠b->H'.get c=H.get c:=by
 subst hn
 obtain⟨low,h1,h2⟩:=h
 refine⟨H.set b (.cells xs l.length false),?_,⟨l.length,by rw[ae.get_set,if_pos rfl],om⟩,rfl,fun c hc=>by rw[ae.get_set,if_neg hc]⟩
 simp only[bu,af,cB,hx,Nat.beq_refl,cond_true]
 unfold dX
 simp only[h1,hx,SD h2,Nat.beq_refl,Nat.zero_add,SD rL,ho,Bool.and_self,cond_true,List.take_zero,List.nil_append,List.drop_length,List.append_nil]
theorem aA{H:ae}{b n:Nat}{l:List aa}(h:a6 H b l)(hn:l.length=n):au true n H (af b n 0)=some (.agg l):=by
 subst hn
 obtain⟨low,h1,h2⟩:=h
 simp only[au,af,gR h1 h2,cond_true]
theorem fld0(b n o:Nat):ic o (af b n 0)=some (af b n o):=by
 simp only[ic,af,Nat.zero_add]
theorem tK{T:cD}{H:ae}(g:Bool)(n i:Nat)(K:aa->ae->Prop){v:aa}(h:au g n H (T i)=some v)(hk:K v H):eD [.cell g n i] K .ret T H:=by
 simp only[eD,kF,h,aD]; exact hk
theorem NZ{T:cD}{H:ae}(g g':Bool)(n n' i i':Nat)(K:aa->ae->Prop){v v':aa}(h:au g n H (T i)=some v)(h':au g' n' H (T i')=some v')(hk:K (.tuple [v,v']) H):eD [.cell g n i,.cell g' n' i'] K .ret T H:=by
 simp only[eD,kF,h,h',aD]; exact hk
theorem NY{T:cD}{H:ae}(K:aa->ae->Prop):eD [] K .normal T H=K (.tuple []) H:=by
 simp only[eD,kF,aD]; rfl
end Go.Abs.S
namespace Go.Abs.S
open Go.Abs
end Go.Abs.S
namespace Go.Abs.S
open Go.Abs Go.WideShapes Go.ChangeShapes
variable {H:Type} {enc:TypeId×Value->H}
end Go.Abs.S
namespace Go.Abs.S
open Go.Abs Go.WideShapes Go.ChangeShapes
variable {H:Type} {enc:TypeId×Value->H}
end Go.Abs.S
namespace Go.Abs.S
open Go.Abs Go.WideShapes Go.ChangeShapes
variable {H:Type} {enc:TypeId×Value->H}
end Go.Abs.S
namespace Go.Abs.S
open Go.Abs
def ig(m n:Nat)(H:ae)(s:aa)(L:List aa)(k:Nat):Prop:=
 (s=bJ/\L=[]/\k=0)∨∃b low,s=.slice (some ⟨b,L.length,0⟩) k (.open_ m)/\L.length=m*k/\n<=b/\b<H.next/\H.get b=some (.cells L low false)/\low<=L.length/\0<k
theorem ig.nil(m n:Nat)(H:ae):ig m n H bJ [] 0:=.inl ⟨rfl,rfl,rfl⟩
theorem ig.len{m n k:Nat}{H:ae}{s:aa}{L:List aa}(h:ig m n H s L k):iT false s=some (.int .i64 (k:Int)):=by
 rcases h with⟨rfl,_,rfl⟩ | ⟨b,low,rfl,_⟩ <;> rfl
theorem ig.blk{m n k:Nat}{H:ae}{s:aa}{L:List aa}(h:ig m n H s L k):∀a j r,s=.slice (some a) j r->a.b<H.next:=by
 intro a j r he
 rcases h with⟨rfl,_⟩ | ⟨b,low,rfl,_,_,h4,_⟩
 ·simp[bJ]at he
 ·simp only[aa.slice.injEq,sJ]at he
  rw[<- he.1]; exact h4
def pP(H:ae)(m:Nat):aa:=.slice (some ⟨H.next,m,0⟩) 1 (.known 1)
theorem yb{m:Nat}{z xs:List aa}(H:ae)(hz:z.length=m)(hx:xs.length=m):cA 1 z H [(0,m,.agg xs)]=some (pP H m,H.push (.cells xs 0 false)):=by
 subst hz
 have hb:Nat.beq xs.length z.length=true:=by rw[hx]; exact Nat.beq_refl _
 simp only[cA,rD,List.append_nil,js,cB,hx,Nat.beq_refl,Nat.zero_add,SD rL,Bool.and_self,cond_true,nd,List.take_zero,List.nil_append,List.drop_length,List.append_nil,pP]
theorem Ns{m:Nat}{xs:List aa}(H:ae)(hx:xs.length=m):jO m (H.push (.cells xs 0 false)) (pP H m)=some (1,xs):=by
 subst hx
 have:=gR (H:=H.push (.cells xs 0 false)) (b:=H.next) (l:=xs) (low:=0) (ro:=false) (by rw[ae.get_push,if_pos rfl]) (Nat.zero_le _)
 simp only[jO,pP,Nat.one_mul,this]
theorem ig.push{m n k:Nat}{H:ae}{s:aa}{L:List aa}(h:ig m n H s L k)(hn:n<=H.next){xs:List aa}(hx:xs.length=m)(ho:xs.all aa.one=true)(hm:0<m){bytes:Nat}(hb:2*(k+1)*bytes<=281474976710656)(hb1:0<bytes) :
  ∃s' H',bQ m bytes (H.push (.cells xs 0 false)) s (pP H m)=some (s',H')/\ig m n H' s' (L++xs) (k+1)/\cZ n H H'/\∀c,c<H.next->(∀a j r,s=.slice (some a) j r->c≠a.b)->H'.get c=H.get c:=by
 have hlen:k+1<=9223372036854775807:=by
  have:2*(k+1)<=2*(k+1)*bytes:=Nat.le_mul_of_pos_right _ hb1
  omega
 have hlt:Nat.blt 0 m=true:=by simpa[Nat.blt_eq] using hm
 have c1:∀j,j=k->(Nat.blt 0 m&&(Nat.ble ((2*(j+1)+0)*bytes) 281474976710656&&(Nat.ble (j+1) 9223372036854775807&&(Nat.beq xs.length (1*m)&&xs.all aa.one))))=true:=by
  intro j hj
  subst hj
  simp only[Nat.add_zero,SD hb,SD hlen,hx,Nat.one_mul,Nat.beq_refl,ho,hlt,Bool.and_self]
 rcases h with⟨rfl,rfl,rfl⟩ | ⟨b,low,rfl,h2,h3,h4,h5,h6,h7⟩
 ·refine⟨.slice (some ⟨H.next+1,m,0⟩) 1 (.open_ m),(H.push (.cells xs 0 false)).push (.cells xs 0 false),?_,.inr ⟨H.next+1,0,by simp[hx],by simp[hx],om,Nat.lt_succ_self _,?_,Nat.zero_le _,om⟩,((cZ.refl n H).push hn _).push (by rw[bp]; omega) _,fun c hc _=>by rw[ae.get_push,if_neg (by rw[bp]; omega),aI hc]⟩
  ·simp only[bQ,Ns H hx,bJ]
   rw[show Nat.beq 1 0=false from rfl,cond_false,c1 0 rfl,cond_true,hx]
   rfl
  ·rw[ae.get_push]; exact if_pos rfl
 ·have hg:(H.push (.cells xs 0 false)).get b=some (.cells L low false):=by rw[ae.get_push,if_neg om]; exact h5
  have hgrow:dz (H.push (.cells xs 0 false)) ⟨b,L.length,0⟩ L.length xs=some ((H.push (.cells xs 0 false)).set b (.cells (L++xs) low false)):=by
   unfold dz
   simp only[hg,SD h6,SD rL,SD (Nat.zero_le _),SD (show L.length+1<=L.length+xs.length by omega),Nat.beq_refl,ho,Bool.and_self,cond_true,List.take_length]
  refine⟨.slice (some ⟨b,L.length+m,0⟩) (k+1) (.open_ m),(H.push (.cells xs 0 false)).set b (.cells (L++xs) low false),?_,.inr ⟨b,low,by simp[hx],by rw[lA,h2,hx,Nat.mul_add,Nat.mul_one],h3,by rw[gQ,bp]; omega,by rw[ae.get_set,if_pos rfl],by simp; omega,om⟩,((cZ.refl n H).push hn _).set h3 _,fun c hc hd=>by rw[ae.get_set,if_neg (hd _ _ _ rfl),aI hc]⟩
  have e0:0+k*m=L.length:=by rw[h2,Nat.mul_comm]; omega
  have e1:Nat.ble (0+(k+1)*m) L.length=false:=by
   rw[ko]; refine decide_eq_false ?_
   rw[Nat.add_mul,Nat.one_mul]; omega
  simp only[bQ,Ns H hx]
  rw[show Nat.beq 1 0=false from rfl,cond_false,c1 k rfl,cond_true]
  simp only[Nat.beq_refl,cond_true,e1,cond_false,e0,hgrow,hx]
theorem NO{b lim k m:Nat}(K:IntKind){i:Nat}(h:i<k):iU m (.slice (some ⟨b,lim,0⟩) k (.open_ m)) (.int K (i:Int))=some (af b lim (i*m)):=by
 show (bif Nat.blt i k then some (aa.ptr (some ⟨b,lim,0+i*m⟩)) else none)=_
 have:Nat.blt i k=true:=by simpa[Nat.blt_eq] using h
 rw[this,Nat.zero_add]; rfl
end Go.Abs.S
namespace Go.Abs.S
open Go.Abs
def da(v:aa)(P:Nat->Prop):Prop:=∀a m r,v=.slice (some a) m r->P a.b
theorem da.mono{v:aa}{P Q:Nat->Prop}(h:da v P)(k:∀b,P b->Q b):da v Q:=fun a m r e=>k _ (h a m r e)
theorem Lo{s:aa}(h:OL s=true):s.one=true:=by
 rcases iz h with rfl | ⟨a,rfl⟩ <;> rfl
theorem mF(P:Nat->Prop):da bJ P:=by intro a m r h; simp[bJ]at h
theorem cH{a:Ad}{m:Nat}{r:uy}{P:Nat->Prop}(h:P a.b):da (.slice (some a) m r) P:=by
 intro a' m' r' e
 simp only[aa.slice.injEq,sJ]at e
 rw[<- e.1]; exact h
theorem sZ{H:ae}{b n:Nat}{l:List aa}(h:a6 H b l)(hn:l.length=n){i k:Nat}(hik:i+k<=n):bE H ⟨b,n,i⟩ k=some ((l.drop i).take k):=by
 subst hn
 obtain⟨low,h1,h2⟩:=h
 unfold bE
 simp only[h1,SD h2,SD rL,SD hik,Bool.and_self,cond_true]
theorem cK{H:ae}{b n:Nat}{l:List aa}(h:a6 H b l)(hn:l.length=n){i k:Nat}(hik:i+k<=n):au true k H (af b n i)=some (.agg ((l.drop i).take k)):=by
 simp only[au,af,sZ h hn hik,cond_true]
theorem nk{H:ae}{b n:Nat}{l:List aa}(h:a6 H b l)(hn:l.length=n){i k:Nat}(hik:i+k<=n){xs:List aa}(hx:xs.length=k)(ho:xs.all aa.one=true) :
  ∃H',bu k H (af b n i) (.agg xs)=some H'/\a6 H' b (l.take i++(xs++l.drop (i+k)))/\H'.next=H.next/\∀c,c≠b->H'.get c=H.get c:=by
 subst hn hx
 obtain⟨low,h1,h2⟩:=h
 refine⟨H.set b (.cells (l.take i++(xs++l.drop (i+xs.length))) l.length false),?_,⟨l.length,by rw[ae.get_set,if_pos rfl],by simp; omega⟩,rfl,fun c hc=>by rw[ae.get_set,if_neg hc]⟩
 simp only[bu,af,cB,Nat.beq_refl,cond_true]
 unfold dX
 simp only[h1,SD h2,Nat.beq_refl,SD hik,ho,Bool.and_self,cond_true]
theorem aZ(b n i o:Nat):ic o (af b n i)=some (af b n (i+o)):=_root_.id rfl
theorem aF(b n i:Nat):cF (af b n i)=some (af b n i):=_root_.id rfl
theorem ig.blk'{m n k:Nat}{H:ae}{s:aa}{L:List aa}(h:ig m n H s L k):da s (·<H.next):=fun a j r e=>h.blk a j r e
theorem ig.same{m n k:Nat}{H H':ae}{s:aa}{L:List aa}(h:ig m n H s L k)(hn:H.next<=H'.next)(e:da s fun b=>H'.get b=H.get b):ig m n H' s L k:=by
 rcases h with h | ⟨b,low,rfl,h2,h3,h4,h5,h6,h7⟩
 ·exact .inl h
 ·exact .inr ⟨b,low,rfl,h2,h3,om,(e _ _ _ rfl).trans h5,h6,h7⟩
theorem ig.pushB{m k:Nat}{H:ae}{s:aa}{L:List aa}(h:ig m 0 H s L k){xs:List aa}(hx:xs.length=m)(ho:xs.all aa.one=true)(hm:0<m){bytes:Nat}(hb:2*(k+1)*bytes<=281474976710656)(hb1:0<bytes) :
  ∃s' H',bQ m bytes (H.push (.cells xs 0 false)) s (pP H m)=some (s',H')/\ig m 0 H' s' (L++xs) (k+1)/\H.next<=H'.next/\(∀P,da s P->da s' fun b=>P b∨H.next<=b)/\∀c,c<H.next->da s (c≠·)->H'.get c=H.get c:=by
 rcases h with⟨rfl,rfl,rfl⟩ | ⟨b,low,rfl,h2,h3,h4,h5,h6,h7⟩
 ·obtain⟨s',H',h1,h2,h3,h4⟩:=(ig.nil m H.next H).push rL hx ho hm hb hb1
  refine⟨s',H',h1,?_,h3.next,fun P _=>?_,fun c hc _=>h3.old c hc⟩
  ·rcases h2 with h2 | ⟨b,low,e1,e2,e3,e4,e5,e6,e7⟩
   ·exact .inl h2
   ·exact .inr ⟨b,low,e1,e2,Nat.zero_le _,e4,e5,e6,e7⟩
  ·rcases h2 with⟨_,_,h2⟩ | ⟨b,low,rfl,e2,e3,e4,e5,e6,e7⟩
   ·omega
   ·exact cH (.inr e3)
 ·have h0:ig m 0 H (.slice (some ⟨b,L.length,0⟩) k (.open_ m)) L k:=.inr ⟨b,low,rfl,h2,h3,h4,h5,h6,h7⟩
  have hb':ig m b H (.slice (some ⟨b,L.length,0⟩) k (.open_ m)) L k:=.inr ⟨b,low,rfl,h2,Nat.le_refl _,h4,h5,h6,h7⟩
  have hlen:k+1<=9223372036854775807:=by
   have:2*(k+1)<=2*(k+1)*bytes:=Nat.le_mul_of_pos_right _ hb1
   omega
  have hlt:Nat.blt 0 m=true:=by simpa[Nat.blt_eq] using hm
  have c1:(Nat.blt 0 m&&(Nat.ble ((2*(k+1)+0)*bytes) 281474976710656&&(Nat.ble (k+1) 9223372036854775807&&(Nat.beq xs.length (1*m)&&xs.all aa.one))))=true:=by
   simp only[Nat.add_zero,SD hb,SD hlen,hx,Nat.one_mul,Nat.beq_refl,ho,hlt,Bool.and_self]
  have hg:(H.push (.cells xs 0 false)).get b=some (.cells L low false):=by rw[ae.get_push,if_neg om]; exact h5
  have hgrow:dz (H.push (.cells xs 0 false)) ⟨b,L.length,0⟩ L.length xs=some ((H.push (.cells xs 0 false)).set b (.cells (L++xs) low false)):=by
   unfold dz
   simp only[hg,SD h6,SD rL,SD (Nat.zero_le _),SD (show L.length+1<=L.length+xs.length by omega),Nat.beq_refl,ho,Bool.and_self,cond_true,List.take_length]
  have e0:0+k*m=L.length:=by rw[h2,Nat.mul_comm]; omega
  have e1:Nat.ble (0+(k+1)*m) L.length=false:=by
   rw[ko]; refine decide_eq_false ?_
   rw[Nat.add_mul,Nat.one_mul]; omega
  refine⟨.slice (some ⟨b,L.length+m,0⟩) (k+1) (.open_ m),(H.push (.cells xs 0 false)).set b (.cells (L++xs) low false),?_,.inr ⟨b,low,by simp[hx],by rw[lA,h2,hx,Nat.mul_add,Nat.mul_one],Nat.zero_le _,by rw[gQ,bp]; omega,by rw[ae.get_set,if_pos rfl],by simp; omega,om⟩,by rw[gQ,bp]; omega,fun P hP=>(have hP2:P b:=hP _ _ _ rfl; cH (.inl hP2)),fun c hc hd=>by rw[ae.get_set,if_neg (hd _ _ _ rfl),aI hc]⟩
  simp only[bQ,Ns H hx]
  rw[show Nat.beq 1 0=false from rfl,cond_false,c1,cond_true]
  simp only[Nat.beq_refl,cond_true,e1,cond_false,e0,hgrow,hx]
end Go.Abs.S
namespace Go.Abs.S
open Go.Abs
end Go.Abs.S
namespace Go.Abs.S
open Go.Abs
def hold(c:cS):cS:=c
theorem uj:aeq bJ bJ=true:=rfl
end Go.Abs.S
namespace Go.Abs.S
open Go.Abs
theorem sW:type_of% (And.intro (And.intro (And.intro (And.intro (And.intro (And.intro (And.intro (@HI) (@sw)) (And.intro (@Cq) (@Cr))) (And.intro (And.intro (@Cp) (@Dl)) (@GK))) (And.intro (And.intro (And.intro (@eq_self.{1}) (@decide_true)) (@decide_false)) (And.intro (And.intro (@Bool.not_true) (@Bool.not_false)) (@Jj)))) (And.intro (And.intro (And.intro (And.intro (@Ji) (@Jh)) (And.intro (@Jg) (@Jf))) (And.intro (And.intro (@DF) (@Je)) (@Jc))) (And.intro (And.intro (And.intro (@DI) (@DG)) (@Jd)) (And.intro (And.intro (@oN) (@tE)) (@v6))))) (And.intro (And.intro (And.intro (And.intro (And.intro (@tF) (@oO)) (And.intro (@v7) (@wT))) (And.intro (And.intro (@wU) (@wS)) (@zG))) (And.intro (And.intro (And.intro (@Jl) (@Ap)) (@DN)) (And.intro (And.intro (@DL) (@Jm)) (@Jp)))) (And.intro (And.intro (And.intro (And.intro (@Av) (@uh)) (@DO)) (And.intro (And.intro (@An) (@wE)) (@Jq))) (And.intro (And.intro (And.intro (@M0) (@DU)) (@wI)) (And.intro (And.intro (@wJ) (@wF)) (@uf)))))) (And.intro (And.intro (And.intro (And.intro (And.intro (And.intro (@ue) (@M1)) (And.intro (@Ao) (@wH))) (And.intro (And.intro (@Aq) (@DT)) (@wG))) (And.intro (And.intro (And.intro (@Jo) (@DR)) (@ug)) (And.intro (And.intro (@wL) (@Jn)) (@DV)))) (And.intro (And.intro (And.intro (And.intro (@Au) (@g9)) (@M4)) (And.intro (And.intro (@M5) (@Jk)) (@yq))) (And.intro (And.intro (And.intro (@yr) (@PC)) (@PE)) (And.intro (And.intro (@PD) (@MG)) (@IH))))) (And.intro (And.intro (And.intro (And.intro (And.intro (@IG) (@Cc)) (And.intro (@Md) (@ne_eq.{1}))) (And.intro (And.intro (@not_false_eq_true) (@aa.bool.injEq)) (@decide_eq_true_eq))) (And.intro (And.intro (And.intro (@decide_eq_false_iff_not) (@Int.ofNat_eq_natCast)) (@Int.cast_ofNat_Int)) (And.intro (And.intro (@Dw) (@Dx)) (@Dy)))) (And.intro (And.intro (And.intro (And.intro (@Dz) (@DC)) (@Du)) (And.intro (And.intro (@DD) (@Ds)) (@Dv))) (And.intro (And.intro (And.intro (@Bool.not_eq_true') (@Bool.not_eq_false')) (@Bool.true_eq_false)) (And.intro (And.intro (@Bool.false_eq_true) (@if_true.{1})) (@if_false.{1}))))))):=And.intro (And.intro (And.intro (And.intro (And.intro (And.intro (And.intro (@HI) (@sw)) (And.intro (@Cq) (@Cr))) (And.intro (And.intro (@Cp) (@Dl)) (@GK))) (And.intro (And.intro (And.intro (@eq_self.{1}) (@decide_true)) (@decide_false)) (And.intro (And.intro (@Bool.not_true) (@Bool.not_false)) (@Jj)))) (And.intro (And.intro (And.intro (And.intro (@Ji) (@Jh)) (And.intro (@Jg) (@Jf))) (And.intro (And.intro (@DF) (@Je)) (@Jc))) (And.intro (And.intro (And.intro (@DI) (@DG)) (@Jd)) (And.intro (And.intro (@oN) (@tE)) (@v6))))) (And.intro (And.intro (And.intro (And.intro (And.intro (@tF) (@oO)) (And.intro (@v7) (@wT))) (And.intro (And.intro (@wU) (@wS)) (@zG))) (And.intro (And.intro (And.intro (@Jl) (@Ap)) (@DN)) (And.intro (And.intro (@DL) (@Jm)) (@Jp)))) (And.intro (And.intro (And.intro (And.intro (@Av) (@uh)) (@DO)) (And.intro (And.intro (@An) (@wE)) (@Jq))) (And.intro (And.intro (And.intro (@M0) (@DU)) (@wI)) (And.intro (And.intro (@wJ) (@wF)) (@uf)))))) (And.intro (And.intro (And.intro (And.intro (And.intro (And.intro (@ue) (@M1)) (And.intro (@Ao) (@wH))) (And.intro (And.intro (@Aq) (@DT)) (@wG))) (And.intro (And.intro (And.intro (@Jo) (@DR)) (@ug)) (And.intro (And.intro (@wL) (@Jn)) (@DV)))) (And.intro (And.intro (And.intro (And.intro (@Au) (@g9)) (@M4)) (And.intro (And.intro (@M5) (@Jk)) (@yq))) (And.intro (And.intro (And.intro (@yr) (@PC)) (@PE)) (And.intro (And.intro (@PD) (@MG)) (@IH))))) (And.intro (And.intro (And.intro (And.intro (And.intro (@IG) (@Cc)) (And.intro (@Md) (@ne_eq.{1}))) (And.intro (And.intro (@not_false_eq_true) (@aa.bool.injEq)) (@decide_eq_true_eq))) (And.intro (And.intro (And.intro (@decide_eq_false_iff_not) (@Int.ofNat_eq_natCast)) (@Int.cast_ofNat_Int)) (And.intro (And.intro (@Dw) (@Dx)) (@Dy)))) (And.intro (And.intro (And.intro (And.intro (@Dz) (@DC)) (@Du)) (And.intro (And.intro (@DD) (@Ds)) (@Dv))) (And.intro (And.intro (And.intro (@Bool.not_eq_true') (@Bool.not_eq_false')) (@Bool.true_eq_false)) (And.intro (And.intro (@Bool.false_eq_true) (@if_true.{1})) (@if_false.{1}))))))
theorem sL:type_of% (And.intro (And.intro (@List.nil_append.{0}) (@List.cons_append.{0})) (@List.append_nil.{0})):=And.intro (And.intro (@List.nil_append.{0}) (@List.cons_append.{0})) (@List.append_nil.{0})
theorem sR:type_of% (And.intro (And.intro (And.intro (And.intro (And.intro (And.intro (@ws) (@uA)) (@uB)) (And.intro (@uz) (@vX))) (And.intro (And.intro (And.intro (@GP) (@yz)) (@Cg)) (And.intro (@Mi) (@GQ)))) (And.intro (And.intro (And.intro (And.intro (@GV) (@yC)) (@sM)) (And.intro (@Ch) (@yx))) (And.intro (And.intro (And.intro (@vl) (@GW)) (@Mf)) (And.intro (@Ck) (@vr))))) (And.intro (And.intro (And.intro (And.intro (And.intro (@vt) (@vm)) (@sI)) (And.intro (@sH) (@Mg))) (And.intro (And.intro (And.intro (@yy) (@vq)) (@yA)) (And.intro (@Cj) (@vp)))) (And.intro (And.intro (And.intro (And.intro (@GU) (@Ci)) (@sK)) (And.intro (@vu) (@GR))) (And.intro (And.intro (And.intro (@Cl) (@yB)) (@Mh)) (And.intro (@Mj) (@GO)))))):=And.intro (And.intro (And.intro (And.intro (And.intro (And.intro (@ws) (@uA)) (@uB)) (And.intro (@uz) (@vX))) (And.intro (And.intro (And.intro (@GP) (@yz)) (@Cg)) (And.intro (@Mi) (@GQ)))) (And.intro (And.intro (And.intro (And.intro (@GV) (@yC)) (@sM)) (And.intro (@Ch) (@yx))) (And.intro (And.intro (And.intro (@vl) (@GW)) (@Mf)) (And.intro (@Ck) (@vr))))) (And.intro (And.intro (And.intro (And.intro (And.intro (@vt) (@vm)) (@sI)) (And.intro (@sH) (@Mg))) (And.intro (And.intro (And.intro (@yy) (@vq)) (@yA)) (And.intro (@Cj) (@vp)))) (And.intro (And.intro (And.intro (And.intro (@GU) (@Ci)) (@sK)) (And.intro (@vu) (@GR))) (And.intro (And.intro (And.intro (@Cl) (@yB)) (@Mh)) (And.intro (@Mj) (@GO)))))
theorem Mm(T:cD):jA T []=[]:=_root_.id rfl
theorem Mn(T:cD)(x:a8)(r:List a8):jA T (x::r)=sX T x::jA T r:=_root_.id rfl
theorem Mr(T:cD):jc T none=none:=_root_.id rfl
theorem Mq(T:cD)(x:a8):jc T (some x)=some (sX T x):=_root_.id rfl
theorem Mo(T:cD):pu T []=[]:=_root_.id rfl
theorem Mp(T:cD)(o n:Nat)(x:a8)(r:List (Nat×Nat×a8)):pu T ((o,n,x)::r)=(o,n,sX T x)::pu T r:=_root_.id rfl
theorem sA:type_of% (And.intro sW (And.intro sL (And.intro @gd (And.intro @Mm (And.intro @Mn (And.intro @Mr (And.intro @Mq (And.intro @Mo @Mp)))))))):=And.intro sW (And.intro sL (And.intro @gd (And.intro @Mm (And.intro @Mn (And.intro @Mr (And.intro @Mq (And.intro @Mo @Mp)))))))
end Go.Abs.S
namespace Go.Abs.S
open Go.Abs
theorem J4(k:IntKind)(hk:k=.u8∨k=.u16∨k=.u32∨k=.u64)(a:Nat):k.wrap (a:Int)=((a % 2 ^ k.bits:Nat):Int):=by
 rcases hk with rfl | rfl | rfl | rfl
 ·rw[IntKind.wrap_u8]; simp only[IntKind.bits]; omega
 ·rw[IntKind.wrap_u16]; simp only[IntKind.bits]; omega
 ·rw[IntKind.wrap_u32]; simp only[IntKind.bits]; omega
 ·rw[IntKind.wrap_u64]; simp only[IntKind.bits]; omega
theorem ud(k k':IntKind)(hk:k=.u8∨k=.u16∨k=.u32∨k=.u64)(a:Nat){b:Nat}(hb:b<=k.bits):bv .shl (.int k (a:Int)) (.int k' (b:Int))=some (.int k ((a*2 ^ b % 2 ^ k.bits:Nat):Int)):=by
 rw[pa,Nat.min_eq_left hb]
 have e2:(a:Int)*2 ^ b=((a*2 ^ b:Nat):Int):=by simp
 rw[e2,J4 k hk]
end Go.Abs.S
namespace Go.Abs.S
open Go.Abs
end Go.Abs.S
namespace Go.Abs.S
open Go.Abs
end Go.Abs.S
namespace Go.Abs.S
open Go.Abs
def cp(m:Nat)(H:ae)(s:aa)(L:List aa)(k:Nat):Prop:=
 (s=bJ/\L=[]/\k=0)∨∃b C low r,s=.slice (some ⟨b,C.length,0⟩) k r/\(r=.open_ m∨∃cap,r=.known cap/\k<=cap/\C.length=cap*m)/\H.get b=some (.cells C low false)/\low<=C.length/\C.take (k*m)=L/\L.length=k*m/\k*m<=C.length/\b<H.next
theorem cp.len{m k:Nat}{H:ae}{s:aa}{L:List aa}(h:cp m H s L k):iT false s=some (.int .i64 (k:Int)):=by
 rcases h with⟨rfl,_,rfl⟩ | ⟨b,C,low,r,rfl,_⟩ <;> rfl
theorem cp.one{m k:Nat}{H:ae}{s:aa}{L:List aa}(h:cp m H s L k):s.one=true:=by
 rcases h with⟨rfl,_,rfl⟩ | ⟨b,C,low,r,rfl,_⟩ <;> rfl
theorem cp.same{m k:Nat}{H H':ae}{s:aa}{L:List aa}(h:cp m H s L k)(hn:H.next<=H'.next)(e:da s fun c=>H'.get c=H.get c):cp m H' s L k:=by
 rcases h with h | ⟨b,C,low,r,rfl,h2,h3,h4,h5,h6,h7,h8⟩
 ·exact .inl h
 ·exact .inr ⟨b,C,low,r,rfl,h2,(e _ _ _ rfl).trans h3,h4,h5,h6,h7,om⟩
theorem cp.blk{m k:Nat}{H:ae}{s:aa}{L:List aa}(h:cp m H s L k):da s (·<H.next):=by
 rcases h with⟨rfl,_⟩ | ⟨b,C,low,r,rfl,h2,h3,h4,h5,h6,h7,h8⟩
 ·exact mF _
 ·exact cH h8
theorem cp.built{m k:Nat}(H:ae){xs:List aa}(hx:xs.length=k*m):cp m (H.push (.cells xs 0 false)) (.slice (some ⟨H.next,xs.length,0⟩) k (.known k)) xs k:=
 .inr ⟨H.next,xs,0,.known k,rfl,.inr ⟨k,rfl,Nat.le_refl _,hx⟩,by rw[ae.get_push]; exact if_pos rfl,Nat.zero_le _,by rw[<- hx,List.take_length],hx,om,Nat.lt_succ_self _⟩
theorem cp.many{m k j:Nat}{H:ae}{s x:aa}{L xs:List aa}(h:cp m H s L k)(hs:jO m H x=some (j,xs))(hx:xs.length=j*m)(ho:xs.all aa.one=true)(hm:0<m){bytes:Nat}(hb:2*(k+j)*bytes<=281474976710656)(hb1:0<bytes) :
  ∃s' H',bQ m bytes H s x=some (s',H')/\cp m H' s' (L++xs) (k+j)/\H.next<=H'.next/\(∀P,da s P->da s' fun b=>P b∨H.next<=b)/\∀c,c<H.next->da s (c≠·)->H'.get c=H.get c:=by
 by_cases hj:j=0
 ·subst hj
  have hxs:xs=[]:=List.length_eq_zero_iff.1 om
  subst hxs
  rw[List.append_nil,Nat.add_zero]
  refine⟨s,H,?_,h,Nat.le_refl _,fun P hP=>hP.mono fun b hb=>.inl hb,fun _ _ _=>rfl⟩
  simp only[bQ,hs,show Nat.beq 0 0=true from rfl,cond_true]
  rcases h with⟨rfl,_⟩ | ⟨b,C,low,r,rfl,_⟩ <;> rfl
 have hxl:0<xs.length:=by rw[hx]; exact Nat.mul_pos om hm
 have hlen:k+j<=9223372036854775807:=by
  have:2*(k+j)<=2*(k+j)*bytes:=Nat.le_mul_of_pos_right _ hb1
  omega
 have hlt:Nat.blt 0 m=true:=by simpa[Nat.blt_eq] using hm
 have e0:Nat.beq j 0=false:=by rw[cE]; exact decide_eq_false hj
 have c1:∀q,q=k->(Nat.blt 0 m&&(Nat.ble ((2*(q+j)+0)*bytes) 281474976710656&&(Nat.ble (q+j) 9223372036854775807&&(Nat.beq xs.length (j*m)&&xs.all aa.one))))=true:=by
  intro q hq
  subst hq
  simp only[Nat.add_zero,SD hb,SD hlen,hx,Nat.beq_refl,ho,hlt,Bool.and_self]
 have hadd:(k+j)*m=k*m+j*m:=Nat.add_mul _ _ _
 rcases h with⟨rfl,rfl,rfl⟩ | ⟨b,C,low,r,rfl,h2,h3,h4,h5,h6,h7,h8⟩
 ·refine⟨.slice (some ⟨H.next,xs.length,0⟩) j (.open_ m),H.push (.cells xs 0 false),?_,.inr ⟨H.next,xs,0,.open_ m,by simp,.inl rfl,by rw[ae.get_push]; exact if_pos rfl,Nat.zero_le _,by rw[Nat.zero_add,<- hx,List.take_length]; rfl,by simp[hx],by rw[Nat.zero_add]; omega,Nat.lt_succ_self _⟩,by simp[ae.push],fun P _=>cH (.inr rL),fun c hc _=>aI hc⟩
  simp only[bQ,hs,e0,cond_false,bJ]
  rw[c1 0 rfl,cond_true]
 ·have hw:(k+j)*m<=C.length->dX H ⟨b,C.length,0+k*m⟩ xs=some (H.set b (.cells (C.take (k*m)++(xs++C.drop (k*m+j*m))) C.length false)):=by
   intro hle
   unfold dX
   simp only[h3,SD h4,Nat.beq_refl,Nat.zero_add,hx,SD (show k*m+j*m<=C.length by omega),ho,Bool.and_self,cond_true]
  have hl2:(k+j)*m<=C.length->(C.take (k*m)++(xs++C.drop (k*m+j*m))).length=C.length:=by
   intro hle; simp[hx]; omega
  have hL2:(k+j)*m<=C.length->(C.take (k*m)++(xs++C.drop (k*m+j*m))).take ((k+j)*m)=L++xs:=by
   intro hle
   have e:(k+j)*m=(L++xs).length:=by rw[lA,h6,hx,hadd]
   rw[h5,<- SQ,e,List.take_left]
  have hLl:(L++xs).length=(k+j)*m:=by rw[lA,h6,hx,hadd]
  have hr:bE H ⟨b,C.length,0⟩ (k*m)=some L:=by
   have:=sZ (H:=H) ⟨low,h3,h4⟩ rfl (i:=0) (k:=k*m) om
   rw[this,List.drop_zero,h5]
  rcases h2 with rfl | ⟨cap,rfl,hkc,hcap⟩
  ·by_cases hin:(k+j)*m<=C.length
   ·refine⟨.slice (some ⟨b,C.length,0⟩) (k+j) (.open_ m),H.set b (.cells (C.take (k*m)++(xs++C.drop (k*m+j*m))) C.length false),?_,.inr ⟨b,C.take (k*m)++(xs++C.drop (k*m+j*m)),C.length,.open_ m,by rw[hl2 hin],.inl rfl,by rw[ae.get_set,if_pos rfl],by rw[hl2 hin]; exact Nat.le_refl _,hL2 hin,hLl,by rw[hl2 hin]; exact hin,h8⟩,Nat.le_refl _,fun P hP=>(have q:P b:=hP _ _ _ rfl; cH (.inl q)),fun c hc hd=>by rw[ae.get_set,if_neg (hd _ _ _ rfl)]⟩
    simp only[bQ,hs,e0,cond_false]
    rw[c1 k rfl,cond_true]
    simp only[Nat.beq_refl,cond_true,SD (show 0+(k+j)*m<=C.length by omega),hw hin]
   ·have hgrow:dz H ⟨b,C.length,0⟩ (0+k*m) xs=some (H.set b (.cells (C.take (0+k*m)++xs) (bif Nat.beq (0+k*m) C.length then low else 0+k*m+xs.length) false)):=by
     unfold dz
     simp only[h3,SD h4,Nat.beq_refl,SD (show 0+k*m<=C.length by omega),SD (Nat.zero_le _),SD (show C.length+1<=0+k*m+xs.length by omega),ho,Bool.and_self,cond_true]
    have ei:Nat.ble (0+(k+j)*m) C.length=false:=by rw[ko]; exact decide_eq_false om
    have eC:C.take (0+k*m)++xs=L++xs:=by rw[Nat.zero_add,h5]
    have eN:0+k*m+xs.length=(L++xs).length:=by rw[hLl,hx,hadd,Nat.zero_add]
    rw[eC]at hgrow
    refine⟨.slice (some ⟨b,0+k*m+xs.length,0⟩) (k+j) (.open_ m),H.set b (.cells (L++xs) (bif Nat.beq (0+k*m) C.length then low else 0+k*m+xs.length) false),?_,.inr ⟨b,L++xs,_,.open_ m,by rw[eN],.inl rfl,by rw[ae.get_set,if_pos rfl],?_,by rw[<- hLl,List.take_length],hLl,om,h8⟩,Nat.le_refl _,fun P hP=>(have q:P b:=hP _ _ _ rfl; cH (.inl q)),fun c hc hd=>by rw[ae.get_set,if_neg (hd _ _ _ rfl)]⟩
    ·simp only[bQ,hs,e0,cond_false]
     rw[c1 k rfl,cond_true]
     simp only[Nat.beq_refl,cond_true,ei,cond_false,hgrow]
    ·rw[<- eN]
     cases Nat.beq (0+k*m) C.length
     ·exact Nat.le_refl _
     ·simp only[cond_true]; omega
  ·by_cases hin:k+j<=cap
   ·have hle:(k+j)*m<=C.length:=by rw[hcap]; exact Nat.mul_le_mul_right _ hin
    refine⟨.slice (some ⟨b,C.length,0⟩) (k+j) (.known cap),H.set b (.cells (C.take (k*m)++(xs++C.drop (k*m+j*m))) C.length false),?_,.inr ⟨b,C.take (k*m)++(xs++C.drop (k*m+j*m)),C.length,.known cap,by rw[hl2 hle],.inr ⟨cap,rfl,hin,by rw[hl2 hle]; exact hcap⟩,by rw[ae.get_set,if_pos rfl],by rw[hl2 hle]; exact Nat.le_refl _,hL2 hle,hLl,by rw[hl2 hle]; exact hle,h8⟩,Nat.le_refl _,fun P hP=>(have q:P b:=hP _ _ _ rfl; cH (.inl q)),fun c hc hd=>by rw[ae.get_set,if_neg (hd _ _ _ rfl)]⟩
    simp only[bQ,hs,e0,cond_false]
    rw[c1 k rfl,cond_true]
    simp only[SD hin,cond_true,hw hle]
   ·have ei:Nat.ble (k+j) cap=false:=by rw[ko]; exact decide_eq_false hin
    refine⟨.slice (some ⟨H.next,(L++xs).length,0⟩) (k+j) (.open_ m),H.push (.cells (L++xs) 0 false),?_,.inr ⟨H.next,L++xs,0,.open_ m,rfl,.inl rfl,by rw[ae.get_push]; exact if_pos rfl,Nat.zero_le _,by rw[<- hLl,List.take_length],hLl,om,Nat.lt_succ_self _⟩,by simp[ae.push],fun P _=>cH (.inr rL),fun c hc _=>aI hc⟩
    simp only[bQ,hs,e0,cond_false]
    rw[c1 k rfl,cond_true]
    simp only[ei,cond_false,hr]
theorem cp.add{m k j:Nat}{H:ae}{s:aa}{L xs:List aa}(h:cp m H s L k)(hx:xs.length=j*m)(ho:xs.all aa.one=true)(hm:0<m){bytes:Nat}(hb:2*(k+j)*bytes<=281474976710656)(hb1:0<bytes) :
  ∃s' H',bQ m bytes (H.push (.cells xs 0 false)) s (.slice (some ⟨H.next,xs.length,0⟩) j (.known j))=some (s',H')/\cp m H' s' (L++xs) (k+j)/\H.next<=H'.next/\(∀P,da s P->da s' fun b=>P b∨H.next<=b)/\∀c,c<H.next->da s (c≠·)->H'.get c=H.get c:=by
 have hs:jO m (H.push (.cells xs 0 false)) (.slice (some ⟨H.next,xs.length,0⟩) j (.known j))=some (j,xs):=by
  have:=gR (H:=H.push (.cells xs 0 false)) (b:=H.next) (l:=xs) (low:=0) (ro:=false) (by rw[ae.get_push,if_pos rfl]) (Nat.zero_le _)
  simp only[jO,<- hx,this]
 obtain⟨s',H',a1,a2,a3,a4,a5⟩:=(h.same (H':=H.push (.cells xs 0 false)) (by simp[ae.push]) (h.blk.mono fun b hb=>aI hb)).many hs hx ho hm hb hb1
 simp only[bp]at a3 a5
 exact⟨s',H',a1,a2,om,fun P hP=>(a4 P hP).mono fun b hb=>hb.imp (fun q=>q) fun q=>by rw[bp]at q; omega,fun c hc hd=>(a5 c om hd).trans (aI hc)⟩
end Go.Abs.S
namespace Go.Abs.S
open Go.Abs
theorem fq{C:CS}{T:cD}{H:ae}{Q:nV}{l:List al}{chk:List (List Nat)}(h:fd C (aB H.next l) T (aQ H l) fun ss T' H'=>AC (aQ H l::ss.map (·.2)) (aB H.next l) chk ss T/\Q .normal T' H'):wp C (.draw l chk) Q T H:=h
theorem fh{C:CS}{T:cD}{H:ae}{K:List (aa×ae)->cD->ae->Prop}{d:Option Nat}{r:List al}(b:Nat)(z:List aa)(s:Option (Nat×Nat)):fd C (⟨d,.claim b z s,none⟩::r) T H K=ft (dy H b z s) C r T d H K:=_root_.id rfl
theorem eO{H:ae}{b:Nat}{z:List aa}(h:H.get b=some (.cells z 0 false))(hz:aeqs z z=true):dy H b z none=some (af b z.length 0):=by
 unfold dy
 simp only[h,hz,uU,Bool.not_false,Bool.and_self,cond_true]; rfl
theorem eh{T:cD}{d:Option Nat}(hs:List ae)(p:Nat)(q:List Nat)(b:Nat)(z:List aa)(s:Option (Nat×Nat))(g:Option (Nat×Bool))(v:aa):JZ hs (p::q) T ⟨d,.claim b z s,g⟩ v=((∃Hp,hs[p]?=some Hp/\(sG T g=true->∃u,dy Hp b z s=some u/\aeq u v=true))/\JZ hs q T ⟨d,.claim b z s,g⟩ v):=by
 simp[JZ,Pt]
theorem eo(b n i:Nat):aeq (af b n i) (af b n i)=true:=by simp[aeq,af]
end Go.Abs.S
namespace Go.Abs.S
open Go.Abs Go.WideShapes Go.ChangeShapes
variable {H:Type} {enc:TypeId×Value->H}
end Go.Abs.S
namespace Go.Abs.S
open Go.Abs
abbrev zi(n:Nat):a8:=.c (.int .i64 (.ofNat n))
abbrev zu(n:Nat):a8:=.c (.int .u8 (.ofNat n))
abbrev zn:a8:=.c (.slice none 0 (.known 0))
abbrev zI(n:Nat):aa:=.int .i64 (.ofNat n)
abbrev zU(n:Nat):aa:=.int .u8 (.ofNat n)
abbrev zN:aa:=.slice none 0 (.known 0)
abbrev zo(d:Nat)(p:gL):al:=⟨some d,p,none⟩
abbrev zp(p:gL):al:=⟨none,p,none⟩
abbrev zg(d:Nat)(p:gL)(t:Nat)(b:Bool):al:=⟨some d,p,some (t,b)⟩
abbrev zm(d x:Nat):al:=⟨some d,.mv (.t x),none⟩
abbrev zc(d x:Nat):al:=⟨some d,.nilChk (.t x),none⟩
abbrev zf(d n x:Nat):al:=⟨some d,.fieldA n (.t x),none⟩
abbrev zl(d x:Nat):al:=⟨some d,.load false 1 (.t x),none⟩
abbrev zt(d n x:Nat):al:=⟨some d,.load true n (.t x),none⟩
abbrev ze(d n x:Nat):al:=⟨some d,.extract n (.t x),none⟩
abbrev zb(d:Nat)(o:BinOp)(x y:Nat):al:=⟨some d,.bin o (.t x) (.t y),none⟩
abbrev zk(d:Nat)(o:BinOp)(x n:Nat):al:=⟨some d,.bin o (.t x) (.c (.int .i64 (.ofNat n))),none⟩
abbrev zx(d f:Nat)(l:List a8):al:=⟨some d,.call f l,none⟩
abbrev zh(d x:Nat):al:=⟨some d,.len false (.t x),none⟩
abbrev zd(d x y:Nat):al:=⟨some d,.idxA 1 (.t x) (.t y),none⟩
abbrev zy(d x y:Nat):al:=⟨some d,.append 1 1 (.t x) (.t y),none⟩
abbrev zv(d:Nat)(k:IntKind)(x:Nat):al:=⟨some d,.conv k (.t x),none⟩
abbrev zs(x y:Nat):al:=⟨none,.store 1 (.t x) (.t y),none⟩
abbrev zq(l:List al)(c:cS):cS:=.seq (.reg l) c
abbrev zr(l:List al)(x:Nat)(a b c:cS):cS:=.seq (.seq (.reg l) (.cond (.t x) a b)) c
theorem Mb(n:Nat):zI n=.int .i64 (n:Int):=_root_.id rfl
theorem L0(n:Nat):zU n=.int .u8 (n:Int):=_root_.id rfl
theorem Ma:zN=.slice none 0 (.known 0):=_root_.id rfl
theorem sB:type_of% (And.intro @Mb (And.intro @L0 Ma)):=And.intro @Mb (And.intro @L0 Ma)
end Go.Abs.S
