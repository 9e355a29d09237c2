/- Part of a proof (D9 A11 A11b A11c A11d A11e A11f); no condition. -/
import Derived.LoopN
import Derived.Recover
import Derived.Test.YtfleblkgifoeaaaGreatDoorP4
set_option linter.unusedSimpArgs false
set_option linter.unusedVariables false
set_option linter.unnecessarySimpa false
namespace Go.Abs
def dO:Option Nat->List bu
 | some d=>[.t d]
 | none=>[]
def rO(o:an):List bu:=match o.op with
 | .store _ a _=>[a]
 | .append _ _ s x=>s::x::dO o.dst
 | .hf (.fill ..) _=>dO o.dst
 | .load _ _ x=>[x]
 | _=>[]
def vT(l:List an)(c t:Nat):Bool:=match l[c]? with
 | some o=>match o.dst with
  | some d=>Nat.beq d t
  | none=>false
 | none=>false
def uE(l:List an)(q:Nat):bu->Bool
 | .t t=>(List.range l.length).all fun c=>Nat.blt c q||!vT l c t
 | _=>true
def j8(l:List an)(q:Nat):Option Nat->Bool
 | some d=>(List.range l.length).all fun c=>Nat.ble c q||!vT l c d
 | none=>false
def AD(l:List an)(q:Nat):Bool:=match l[q]? with
 | some o=>match o.op with
  | .store _ a _=>uE l q a
  | .append _ _ s x=>uE l q s&&(uE l q x&&j8 l q o.dst)
  | .hf (.fill ..) _=>j8 l q o.dst
  | .load _ _ x=>uE l q x
  | _=>true
 | none=>true
def oJ(l:List an):Bool:=(List.range l.length).all (AD l)
def wg(l:List an)(j i:Nat):List (bu×bu):=match l[j]?,l[i]? with
 | some b,some a=>(rO b).flatMap fun y=>(rO a).map fun x=>(y,x)
 | _,_=>[]
def pP(l:List an)(ms:List Nat)(j k:Nat):Bool:=match l[k]? with
 | some o=>dH o.op&&(!jR ms k j&&!jR ms j k)
 | none=>false
def pi(l:List an)(ms:List Nat):List (bu×bu):=
 (List.range l.length).flatMap fun j=>(List.range j).flatMap fun i=>bif ft l ms i j then
  wg l j i++(List.range l.length).flatMap fun k=>bif pP l ms j k then wg l j k else [] else []
def rl(p:bu×bu):an:=⟨none,.pf .apart [p.1,p.2],none⟩
section
variable {tb:FuncId->Bool} {call:FuncId->List ab->aa->Option (ab×aa)} {l:List an} {ms:List Nat} {T0:Tr ab} {H0:aa} {ss:List (ab×aa)}
theorem uo{c t:Nat}{o:an}(h:l[c]?=some o)(hd:o.dst=some t):vT l c t=true:=by
 unfold vT; simp only[h,hd]; exact Nat.beq_refl t
theorem ow{q:Nat}{x:bu}(h:uE l q x=true):ev (bF (fun _=>true) 0 l ss T0) x=ev (bF (fun i=>Nat.blt i (0+q)) 0 l ss T0) x:=by
 cases x with
 | t t=>
  simp only[ev]
  rw[gh l ss 0 T0 T0 rfl fun c o hc hd=>?_]
  simp only[uE]at h
  rw[List.all_eq_true]at h
  have:=h c (List.mem_range.2 (QR.1 hc).1)
  rw[uo hc hd]at this
  simp only[Bool.not_true,Bool.or_false]at this
  simp only[Nat.zero_add]
  exact this.symm
 | _=>rfl
theorem L5{q d:Nat}{o:an}{v:ab}{H':aa}(hq:l[q]?=some o)(hs:ss[q]?=some (v,H'))(hd:o.dst=some d)(h:j8 l q o.dst=true):ev (bF (fun _=>true) 0 l ss T0) (.t d)=v:=by
 rw[hd]at h
 simp only[j8]at h
 rw[List.all_eq_true]at h
 have hn:∀c oc,q<c->l[c]?=some oc->oc.dst=some d->False:=by
  intro c oc hc h1 h2
  have:=h c (List.mem_range.2 (QR.1 h1).1)
  rw[uo h1 h2]at this
  simp only[Bool.not_true,Bool.or_false]at this
  have:=QW this
  omega
 have e:(bF (fun _=>true) 0 l ss T0).get d=some v:=by
  have e1:=jW (m:=fun i=>Nat.ble i q) l ss 0 q T0 o v H' hq hs hd (by simp only[Nat.zero_add]; exact QS (Nat.le_refl q)) fun i o' h1 h2 h3=>(hn i o' h1 h2 h3).elim
  rw[<- e1]
  refine gh l ss 0 T0 T0 rfl fun c oc hc hdc=>?_
  simp only[Nat.zero_add]
  rcases Nat.lt_or_ge q c with k | k
  ·exact (hn c oc k hc hdc).elim
  ·exact (QS k).symm
 simp only[ev,e]
theorem qT(htr:cP tb call l T0 H0=some ss)(hok:oJ l=true){q:Nat}{o:an}(hq:l[q]?=some o){b:Nat}(hb:b∈cC l ss T0 q):∃x∈rO o,iB (ev (bF (fun _=>true) 0 l ss T0) x)=some b:=by
 obtain⟨_,hat⟩:=hZ l T0 H0 ss 0 htr
 obtain⟨v,H1,hs,hs0⟩:=hat q o hq
 clear hs0 hat
 simp only[cC,hq,hs]at hb
 have hst:AD l q=true:=by
  unfold oJ at hok
  rw[List.all_eq_true]at hok
  exact hok q (List.mem_range.2 (QR.1 hq).1)
 unfold AD at hst
 rw[hq]at hst
 obtain⟨d,op,g⟩:=o
 have hdst:j8 l q d=true->∃d',d=some d'/\ev (bF (fun _=>true) 0 l ss T0) (.t d')=v:=by
  intro h
  cases d with
  | none=>simp[j8]at h
  | some d'=>exact⟨d',rfl,L5 (o:=⟨some d',op,g⟩) hq hs rfl h⟩
 cases op <;> simp only[gi,List.not_mem_nil]at hb
 case store n a x=>
  obtain⟨y,h1,h2⟩:=oR hb
  obtain rfl:=List.mem_singleton.1 h1
  exact⟨a,by simp[rO],by rw[ow hst]; exact h2⟩
 case load n a x=>
  obtain⟨y,h1,h2⟩:=oR hb
  obtain rfl:=List.mem_singleton.1 h1
  exact⟨x,by simp[rO],by rw[ow hst]; exact h2⟩
 case append n k s x=>
  simp only[QT]at hst
  obtain⟨d',hd1,hd2⟩:=hdst hst.2.2
  obtain⟨y,h1,h2⟩:=oR hb
  simp only[List.mem_cons,List.not_mem_nil,or_false]at h1
  rcases h1 with rfl | rfl | rfl
  ·exact⟨s,by simp[rO],by rw[ow hst.1]; exact h2⟩
  ·exact⟨x,by simp[rO],by rw[ow hst.2.1]; exact h2⟩
  ·exact⟨.t d',by simp[rO,hd1,dO],by rw[hd2]; exact h2⟩
 case hf f xs=>
  cases f <;> first | (simp only[List.not_mem_nil]at hb; done) | skip
  obtain⟨d',hd1,hd2⟩:=hdst hst
  obtain⟨y,h1,h2⟩:=oR hb
  obtain rfl:=List.mem_singleton.1 h1
  exact⟨.t d',by simp[rO,hd1,dO],by rw[hd2]; exact h2⟩
theorem uO{i j:Nat}{a b:an}(hi:l[i]?=some a)(hj:l[j]?=some b){x y:bu}(hx:x∈rO a)(hy:y∈rO b):(y,x)∈wg l j i:=by
 unfold wg
 rw[hi,hj]
 simp only[List.mem_flatMap,List.mem_map]
 exact⟨y,hy,x,hx,rfl⟩
theorem Io{x y:ab}{b:Nat}(h:J3 y x=true)(hx:iB x=some b)(hy:iB y=some b):False:=by
 unfold J3 at h
 rw[hx,hy]at h
 simp[Nat.beq_refl]at h
theorem LU(htr:cP tb call l T0 H0=some ss)(hok:oJ l=true)(hck:∀p∈pi l ms,J3 (ev (bF (fun _=>true) 0 l ss T0) p.1) (ev (bF (fun _=>true) 0 l ss T0) p.2)=true) :
  (∀i j,ft l ms i j=true->∀x∈cC l ss T0 j,x∉cC l ss T0 i) /\
  ∀i j k o,ft l ms i j=true->l[k]?=some o->dH o.op=true->jR ms k j=false->jR ms j k=false->∀x∈cC l ss T0 j,x∉cC l ss T0 k:=by
 have hl:∀i j,ft l ms i j=true->∃a b,l[i]?=some a/\l[j]?=some b/\i<j:=by
  intro i j h
  unfold ft at h
  split at h
  ·rename_i a b hi hj
   simp only[QT]at h
   exact⟨a,b,hi,hj,QW h.1⟩
  ·simp at h
 constructor
 ·intro i j h x hx hx'
  obtain⟨a,b,hi,hj,hij⟩:=hl i j h
  obtain⟨y,y1,y2⟩:=qT htr hok hj hx
  obtain⟨z,z1,z2⟩:=qT htr hok hi hx'
  refine Io (hck (y,z) ?_) z2 y2
  unfold pi
  rw[List.mem_flatMap]
  refine⟨j,List.mem_range.2 (QR.1 hj).1,?_⟩
  rw[List.mem_flatMap]
  refine⟨i,List.mem_range.2 hij,?_⟩
  rw[h,cond_true,List.mem_append]
  exact .inl (uO hi hj z1 y1)
 ·intro i j k o h hk hld h1 h2 x hx hx'
  obtain⟨a,b,hi,hj,hij⟩:=hl i j h
  obtain⟨y,y1,y2⟩:=qT htr hok hj hx
  obtain⟨z,z1,z2⟩:=qT htr hok hk hx'
  refine Io (hck (y,z) ?_) z2 y2
  unfold pi
  rw[List.mem_flatMap]
  refine⟨j,List.mem_range.2 (QR.1 hj).1,?_⟩
  rw[List.mem_flatMap]
  refine⟨i,List.mem_range.2 hij,?_⟩
  rw[h,cond_true,List.mem_append,List.mem_flatMap]
  refine .inr ⟨k,List.mem_range.2 (QR.1 hk).1,?_⟩
  have:pP l ms j k=true:=by unfold pP; rw[hk]; simp[hld,h1,h2]
  rw[this,cond_true]
  exact uO hk hj z1 y1
end
theorem ui{P:Program}{c:Call}{b n:Nat}{z:List ab}{os:List (Nat×Nat)}{xs:List bu}(h:kf P c=some (.hf (.fill b n z os) xs)):False:=by
 unfold kf at h
 repeat' split at h
 all_goals first
  | (simp at h; done)
  | (simp only[cond_eq_ite]at h; split at h <;> simp at h)
theorem uk{P:Program}{o:Op}{b n:Nat}{z:List ab}{os:List (Nat×Nat)}{xs:List bu}(h:pW P o=some (.hf (.fill b n z os) xs)):False:=by
 unfold pW at h
 repeat' split at h
 all_goals first
  | (simp at h; done)
  | (simp only[cond_eq_ite]at h; split at h <;> first | (simp at h; done) | (split at h <;> simp at h))
theorem wM{P:Program}{o:Op}{b n:Nat}{z:List ab}{os:List (Nat×Nat)}{xs:List bu}(h:wP P o=some (.hf (.fill b n z os) xs)):False:=by
 unfold wP at h
 split at h
 ·rename_i a ha
  simp only[sJ]at h
  subst h
  exact uk ha
 ·split at h
  ·rename_i a ha
   simp only[sJ]at h
   subst h
   cases o <;> simp only[yY,reduceCtorEq]at ha
   case call c _=>exact ui ha
   all_goals
    exfalso
    repeat' split at ha
    all_goals first
     | (simp at ha; done)
     | (simp only[cond_eq_ite]at ha; split at ha <;> simp at ha)
  ·simp at h
theorem oH{P:Program}{n:Nat}{ops:Array Oper}:∀{rest:List Oper} {l:List an},dd P n ops rest=some l->∀a∈l,yJ a.op=none:=by
 intro rest
 induction rest with
 | nil=>intro l h; simp only[dd,sJ]at h; subst h; intro a ha; simp at ha
 | cons o r ih=>
  intro l h
  simp only[dd]at h
  split at h
  ·rename_i a l' ha hl'
   simp only[sJ]at h
   subst h
   intro x hx
   rcases List.mem_cons.1 hx with rfl | hx
   ·unfold eu at ha
    split at ha
    ·rename_i ax g hopc hg
     cases hdst:dW n o.dst with
     | false=>rw[hdst]at ha; simp at ha
     | true=>
      rw[hdst]at ha
      simp only[cond_true,sJ]at ha
      subst ha
      simp only
      unfold yJ
      split
      ·exact (wM hopc).elim
      ·rfl
    ·simp at ha
   ·exact ih hl' x hx
  ·simp at h
end Go.Abs
namespace Go.Abs
inductive cp where
 | skip
 | reg (ops:List an)
 | draw (ops:List an) (chk:List (List Nat))
 | seq (a b:cp)
 | cond (c:bu) (a b:cp)
 | block (id:Nat) (c:cp)
 | loop (c:cp)
 | exit (id:Nat)
 | ret
inductive tV where
 | normal
 | exit (id:Nat)
 | ret
inductive nm where
 | t (i:Nat)
 | cell (agg:Bool) (size:Nat) (i:Nat)
structure bV where
 nt:Nat
 body:cp
 res:List nm
section
variable (tb:FuncId->Bool) (call:FuncId->List ab->aa->Option (ab×aa))
def bA:List an->Tr ab->aa->Option (Tr ab×aa)
 | [],T,H=>some (T,H)
 | o::r,T,H=>bif im T o.guard then
   match ct tb T H o.op with
   | some (.val v,H')=>bA r (cQ T o.dst v) H'
   | some (.enter f args,H')=>match call f args H' with
    | some (v,H'')=>bA r (cQ T o.dst v) H''
    | none=>none
   | none=>none
  else bA r (cQ T o.dst aX) H
def jG(body:Tr ab->aa->Option (tV×Tr ab×aa)):Nat->Tr ab->aa->Option (tV×Tr ab×aa)
 | 0,_,_=>none
 | n+1,T,H=>match body T H with
  | some (.normal,T',H')=>jG body n T' H'
  | some (e,T',H')=>some (e,T',H')
  | none=>none
def mB(ops:List an)(chk:List (List Nat))(T:Tr ab)(H:aa):Option (tV×Tr ab×aa):=
 match cP tb call ops T H with
 | some ss=>bif fR tb (H::ss.map (·.2)) ops chk ss T then some (.normal,bF (fun _=>true) 0 ops ss T,eF H ss ops.length) else none
 | none=>none
def aO(k:Nat):cp->Tr ab->aa->Option (tV×Tr ab×aa)
 | .skip,T,H=>some (.normal,T,H)
 | .reg ops,T,H=>match bA tb call ops T H with
  | some (T',H')=>some (.normal,T',H')
  | none=>none
 | .draw ops chk,T,H=>mB tb call (aF H.next ops) chk T (bY H ops)
 | .seq a b,T,H=>match aO k a T H with
  | some (.normal,T',H')=>aO k b T' H'
  | some (e,T',H')=>some (e,T',H')
  | none=>none
 | .cond c a b,T,H=>match ev T c with
  | .bool true=>aO k a T H
  | .bool false=>aO k b T H
  | _=>none
 | .block id c,T,H=>match aO k c T H with
  | some (.exit j,T',H')=>bif Nat.beq j id then some (.normal,T',H') else some (.exit j,T',H')
  | some (e,T',H')=>some (e,T',H')
  | none=>none
 | .loop c,T,H=>jG (aO k c) k T H
 | .exit id,T,H=>some (.exit id,T,H)
 | .ret,T,H=>some (.ret,T,H)
end
def ko(T:Tr ab)(H:aa):List nm->Option (List ab)
 | []=>some []
 | .t i::r=>match ko T H r with
  | some l=>some (ev T (.t i)::l)
  | none=>none
 | .cell g n i::r=>match am g n H (ev T (.t i)),ko T H r with
  | some x,some l=>some (x::l)
  | _,_=>none
def jr:List ab->ab
 | [x]=>x
 | l=>.tuple l
def dh:List ab->Nat->Tr ab->Tr ab
 | [],_,T=>T
 | x::r,i,T=>dh r (i+1) (T.set i x)
structure Ds where
 ps:List Nat
 df:Option (Nat×Nat×Bool)
structure gC where
 is:FuncId->Bool
 run:FuncId->List ab->aa->Option (ab×aa)
 md:Nat->Option Ds
def zZ(N:gC)(A:Tr bV):FuncId->Bool:=fun f=>bif N.is f then true else match A.get f with | some _=>true | none=>false
def dl(N:gC)(tab:Tr bV):Nat->FuncId->List ab->aa->Option (ab×aa)
 | 0,_,_,_=>none
 | n+1,f,args,H=>bif N.is f then N.run f args H else match tab.get f with
  | some fn=>bif Nat.ble args.length fn.nt then
    match aO (zZ N tab) (dl N tab n) n fn.body (dh args 0 .e) H with
    | some (.exit _,_,_)=>none
    | some (_,T,H')=>match ko T H' fn.res with
     | some l=>some (jr l,H')
     | none=>none
    | none=>none
   else none
  | none=>none
section
variable (P:Program)
def gI:cp:=.reg [⟨none,.bad,none⟩]
def HP(es:List (List Nat))(l:List an)(ms:List Nat):cp:=
 bif gN es ms&&(jf l ms&&(oM l ms&&(oJ l&&l.all fun o=>(et o.op).isNone))) then
  .seq (.draw l ((List.range l.length).map (eG l ms))) (.reg ((pi l ms).map rl)) else gI
def fG(n:Nat):Code->Option cp
 | .skip=>some .skip
 | .region _ ops false=>match dd P n ops ops.toList with
  | some l=>some (.reg l)
  | none=>none
 | .region _ ops true=>match dd P n ops ops.toList with
  | some l=>bif gN (ops.toList.map bi) (br [] (ops.toList.map bi))&&eE (aF 0 l) (br [] (ops.toList.map bi)) then
    some (.draw l ((List.range l.length).map (eG (aF 0 l) (br [] (ops.toList.map bi))))) else some (HP (ops.toList.map bi) l (br [] (ops.toList.map bi)))
  | none=>none
 | .seq a b=>match fG n a,fG n b with
  | some a,some b=>some (.seq a b)
  | _,_=>none
 | .cond c a b=>match ck c,fG n a,fG n b with
  | some c,some a,some b=>some (.cond c a b)
  | _,_,_=>none
 | .block id c=>match fG n c with
  | some c=>some (.block id c)
  | none=>none
 | .loop c=>match fG n c with
  | some c=>some (.loop c)
  | none=>none
 | .exit id=>some (.exit id)
 | .ret=>some .ret
 | _=>some gI
def qO:List ResultVar->Option (List nm)
 | []=>some []
 | .tmp t::r=>match qO r with
  | some l=>some (.t t::l)
  | none=>none
 | .cell a t::r=>match ge P t,qO r with
  | some (g,n),some l=>some (.cell g n a::l)
  | _,_=>none
def IV(f:FuncId):Option bV:=
 match P.funcs[f]? with
 | some fn=>match fn.body with
  | some c => bif fn.name == "runtime.NumGoroutine" then none else
   match fG P fn.ntmps c,qO P fn.results.toList with
   | some b,some r=>some ⟨fn.ntmps,b,r⟩
   | _,_=>none
  | none=>none
 | none=>none
end
section
variable {P:Program} {Prot:Gh} {w0:World} {ρ:Pl} {H H':aa} {w:World}
def ET(P:Program)(Prot:Gh)(w0:World)(ds:List Deferred)(ρ:Pl)(n:Nat)(e:tV)(T:Tr ab)(H:aa):Exit->Act->World->Prop:=fun e' a w=>
 (match e with | .normal=>e'=.normal | .exit id=>e'=.exit id | .ret=>e'=.ret)/\∃ρ',ρ.le ρ'/\cg Prot w0 ρ' H w/\bx ρ' n T a.tmps/\a.defers=ds
theorem xR{tb:FuncId->Bool}(htb:∀f,Nat.blt f cA=true->tb f=true->bX P f=true){call:FuncId->List ab->aa->Option (ab×aa)}(hcall:js P call){ds:List Deferred}{n:Nat}{ops:Array Oper}{Q:Exit->Act->World->Prop} :
  ∀(rest:List Oper) (i:Nat) (l:List an),(∀j,rest[j]?=ops[i+j]?)->dd P n ops rest=some l->∀(ρ0 ρ:Pl) (T T':Tr ab) (H H':aa) (a:Act) (w:World),ρ0.le ρ ->
   cg Prot w0 ρ H w->bx ρ n T a.tmps->a.defers=ds->bA tb call l T H=some (T',H') ->
   (∀a' w',(∃ρ',ρ0.le ρ'/\cg Prot w0 ρ' H' w'/\bx ρ' n T' a'.tmps/\a'.defers=ds)->Q .normal a' w')->wpOps P ops Q (List.range' i rest.length) a w:=by
 intro rest
 induction rest with
 | nil=>
  intro i l _ hc ρ0 ρ T T' H H' a w hle R ht hd h hQ
  simp only[dd,sJ]at hc
  subst hc
  simp only[bA,sJ,pJ]at h
  obtain⟨rfl,rfl⟩:=h
  exact hQ a w ⟨ρ,hle,R,ht,hd⟩
 | cons o rest ih=>
  intro i l hi hc ρ0 ρ T T' H H' a w hle R ht hd h hQ
  simp only[dd]at hc
  split at hc
  ·rename_i ao l' ha hl
   simp only[sJ]at hc
   subst hc
   have ho:ops[i]?=some o:=by have:=hi 0; simpa using this.symm
   have hnext:∀j,rest[j]?=ops[i+1+j]?:=fun j=>by have:=hi (j+1); simp only[Q0]at this; rw[this]; congr 1; omega
   unfold eu at ha
   split at ha
   ·rename_i ax g hop hg
    cases hdst:dW n o.dst with
    | false=>rw[hdst]at ha; simp at ha
    | true=>
     rw[hdst]at ha
     simp only[cond_true,sJ]at ha
     subst ha
     simp only[QU,List.range'_succ,wpOps,ho]
     simp only[bA]at h
     rw[gq ht hg]
     cases hgo:im T g with
     | false=>
      rw[hgo]at h
      simp only[cond_false]at h
      simp only[Q1,if_false]
      refine ih (i+1) l' hnext hl ρ0 ρ _ _ _ _ _ _ hle R (cu ht hdst ez) ?_ h hQ
      cases hx:o.dst <;> simpa[Act.put] using hd
     | true=>
      rw[hgo]at h
      simp only[cond_true]at h
      simp only[if_true]
      left
      split at h
      ·rename_i v H1 hv
       obtain⟨ρ1,w1,nx,q1,q2,q3,q4⟩:=jN htb R ht o hop hv
       simp only[Oper.wp,q2]
       have hd':∀u,(a.put o.dst u).defers=ds:=fun u=>by cases hx:o.dst <;> simpa[Act.put] using hd
       cases nx <;> simp only[kw]at q4
       case value u=>exact ih (i+1) l' hnext hl ρ0 ρ1 _ _ _ _ _ _ (Pl.le_trans hle q1) q3 (cu (ht.mono q1) hdst q4) (hd' _) h hQ
       case skip=>exact ih (i+1) l' hnext hl ρ0 ρ1 _ _ _ _ _ _ (Pl.le_trans hle q1) q3 (cu (ht.mono q1) hdst q4) (hd' _) h hQ
      ·rename_i f args H1 hv
       split at h
       ·rename_i v H2 hcl
        obtain⟨ρ1,w1,nx,q1,q2,q3,q4⟩:=jN htb R ht o hop hv
        simp only[Oper.wp,q2]
        have hd':∀u,(a.put o.dst u).defers=ds:=fun u=>by cases hx:o.dst <;> simpa[Act.put] using hd
        cases nx <;> simp only[kw]at q4
        case enter g vs=>
         obtain⟨rfl,hbig,q5⟩:=q4
         simp only[Oper.upon]
         refine (hcall _ _ _ _ _ hbig hcl Prot w0 ρ1 w1 vs q3 q5).mono fun e w' hr=>?_
         obtain⟨ρ2,u,r1,rfl,r3,r4⟩:=hr
         exact ih (i+1) l' hnext hl ρ0 ρ2 _ _ _ _ _ _ (Pl.le_trans hle (Pl.le_trans q1 r1)) r3 (cu ((ht.mono q1).mono r1) hdst r4) (hd' _) h hQ
       ·simp at h
      ·simp at h
   ·simp at ha
  ·simp at hc
theorem ET.weaken{ds:List Deferred}{ρ ρ':Pl}{n:Nat}{e:tV}{T:Tr ab}{H:aa}(h:ρ.le ρ'){e':Exit}{a:Act}{w:World}(q:ET P Prot w0 ds ρ' n e T H e' a w):ET P Prot w0 ds ρ n e T H e' a w:=by
 obtain⟨h1,ρ2,h2,h3⟩:=q
 exact⟨h1,ρ2,Pl.le_trans h h2,h3⟩
theorem kA{tb:FuncId->Bool}{call:FuncId->List ab->aa->Option (ab×aa)}{k:Nat}{T:Tr ab}{H:aa}:aO tb call k gI T H=none:=rfl
theorem vt:∀{l:List an} {b:Nat},(l.all fun o=>(et o.op).isNone)=true->aF b l=l
 | [],_,_=>rfl
 | o::r,b,h=>by
  simp only[List.all_cons,QT,Option.isNone_iff_eq_none]at h
  simp only[aF,h.1,vt (l:=r) h.2]
theorem qt:∀{l:List an} {H:aa},(l.all fun o=>(et o.op).isNone)=true->bY H l=H
 | [],_,_=>rfl
 | o::r,H,h=>by
  simp only[List.all_cons,QT,Option.isNone_iff_eq_none]at h
  simp only[bY,h.1,qt (l:=r) h.2]
theorem pw{tb:FuncId->Bool}{call:FuncId->List ab->aa->Option (ab×aa)}:∀(ps:List (bu×bu)) {T T':Tr ab} {H H':aa},bA tb call (ps.map rl) T H=some (T',H') ->
  T'=T/\H'=H/\∀p∈ps,J3 (ev T p.1) (ev T p.2)=true
 | [],T,T',H,H',h=>by
  simp only[List.map_nil,bA,sJ,pJ]at h
  exact⟨h.1.symm,h.2.symm,by simp⟩
 | p::r,T,T',H,H',h=>by
  simp only[List.map_cons,bA,rl,im,cond_true,ct,jt,gA,IC]at h
  cases hp:J3 (ev T p.1) (ev T p.2) with
  | false=>rw[hp]at h; simp[vv]at h
  | true=>
   rw[hp]at h
   simp only[cond_true,vv,cQ]at h
   obtain⟨h1,h2,h3⟩:=pw r h
   refine⟨h1,h2,fun q hq=>?_⟩
   rcases List.mem_cons.1 hq with rfl | hq
   ·exact hp
   ·exact h3 q hq
theorem yR(hfol:P.follows .mixedOrders=true){tb:FuncId->Bool}(htb:∀f,Nat.blt f cA=true->tb f=true->bX P f=true){call:FuncId->List ab->aa->Option (ab×aa)}(hcall:js P call){ds:List Deferred}{n k:Nat} :
  ∀(c:Code) (ac:cp),fG P n c=some ac->∀(ρ:Pl) (T T':Tr ab) (H H':aa) (e:tV) (a:Act) (w:World),
   cg Prot w0 ρ H w->bx ρ n T a.tmps->a.defers=ds->aO tb call k ac T H=some (e,T',H')->c.wp P (ET P Prot w0 ds ρ n e T' H') a w:=by
 intro c
 induction c with
 | skip=>
  intro ac hc ρ T T' H H' e a w R ht hd h
  simp only[fG,sJ]at hc; subst hc
  simp only[aO,sJ,pJ]at h
  obtain⟨rfl,rfl,rfl⟩:=h
  exact wp_skip ⟨rfl,ρ,Pl.le_refl _,R,ht,hd⟩
 | region id ops draw=>
  intro ac hc ρ T T' H H' e a w R ht hd h
  cases draw with
  | true=>
   simp only[fG]at hc
   split at hc
   ·rename_i l hl
    cases hck:(gN (ops.toList.map bi) (br [] (ops.toList.map bi))&&eE (aF 0 l) (br [] (ops.toList.map bi))) with
    | false=>
     rw[hck]at hc
     simp only[cond_false,sJ]at hc; subst hc
     clear hck
     unfold HP at h
     cases hck:(gN (ops.toList.map bi) (br [] (ops.toList.map bi))&&(jf l (br [] (ops.toList.map bi))&&(oM l (br [] (ops.toList.map bi))&&(oJ l&&l.all fun o=>(et o.op).isNone)))) with
     | false=>rw[hck]at h; simp[kA]at h
     | true=>
      rw[hck,cond_true]at h
      simp only[QT]at hck
      obtain⟨c1,c2,c3,c4,c5⟩:=hck
      have hlen:l.length=ops.toList.length:=(sj hl).1
      simp only[aO,mB,vt c5,qt c5]at h
      cases hss:cP tb call l T H with
      | none=>rw[hss]at h; simp at h
      | some ss=>
      rw[hss]at h
      simp only at h
      cases hr:fR tb (H::ss.map (·.2)) l ((List.range l.length).map (eG l (br [] (ops.toList.map bi)))) ss T with
      | false=>rw[hr]at h; simp at h
      | true=>
       rw[hr]at h
       simp only[cond_true]at h
       cases hg:bA tb call ((pi l (br [] (ops.toList.map bi))).map rl) (bF (fun _=>true) 0 l ss T) (eF H ss l.length) with
       | none=>rw[hg]at h; simp at h
       | some q=>
       obtain⟨T2,H2⟩:=q
       rw[hg]at h
       simp only[sJ,pJ]at h
       obtain⟨rfl,rfl,rfl⟩:=h
       obtain⟨rfl,rfl,hchecks⟩:=pw _ hg
       obtain⟨hap,hal⟩:=LU hss c4 hchecks
       refine wp_region_any hfol ?_
       have hN:l.length=ops.size:=by simpa using hlen
       have hrep:∀i,(Array.replicate ops.size false).getD i false=false:=fun i=>by
        rw[Array.getD_eq_getD_getElem?,Array.getElem?_replicate]; split <;> rfl
       have hm0:(fun i=>(Array.replicate ops.size false).getD i false)=fun _=>false:=funext hrep
       have hst:aC (fun i=>(Array.replicate ops.size false).getD i false) 0 l=aC (fun _=>false) 0 l:=ie l 0 fun c o _ _=>by simp only[hrep]
       have hH:eF H ss (aC (fun _=>false) 0 l)=H:=by
        obtain⟨q1,q2,q3,q4⟩:=ed (fun _=>false) l 0
        have:=di hss (aC (fun _=>false) 0 l) 0 om fun c o _ hlt ho=>by
         cases hx:aI o.op with
         | false=>rfl
         | true=>have:=q3 c o ho hx om; simp at this
        rw[Nat.zero_add]at this
        rw[this]; rfl
       refine HE (Prot:=Prot) (w0:=w0) htb hcall (base:=H.next) hlen (fun j o hj=>let ⟨a,q1,q2⟩:=(sj hl).2 j o hj; ⟨a,q1,.inl q2⟩) (fun d hd=>(R.dead d hd).1) (fun i j a b c h1 h2 h3=>?_) (fE hl) c1 c2 c3 hss hr hap hal (ρ0:=ρ) (fun a' w' hx=>⟨rfl,hx⟩) ops.size _ a _ (by simp) ?_ (fun j _ hj=>by rw[hrep]at hj; simp at hj) ⟨ρ,H,Pl.le_refl _,?_,?_,?_,hd⟩
       ·exact absurd h3 (by rw[oH hl a (QY h1)]; simp)
       ·rw[hm0]
        have:∀k,tW (fun _=>false) k=k:=by
         intro k
         induction k with
         | zero=>rfl
         | succ k ih=>simp only[tW,ih,cond_false]
        exact this _
       ·rw[hst,hm0]
        refine⟨by rw[hH],fun x _=>by rw[hH],fun q x _ h2=>?_⟩
        exact absurd h2.1 (by simp)
       ·rw[hm0]
        refine R.drew.fewer (D:=pZ Prot.dead l fun _=>false) fun d hd=>?_
        rcases hd with hd | ⟨i,a,h1,h2,_⟩
        ·exact hd
        ·rw[oH hl a (QY h1)]at h2; simp at h2
       ·refine ht.congr fun t=>?_
        rw[hm0]
        have:∀(l:List an) (ss:List (ab×aa)) (k:Nat) (T:Tr ab),bF (fun _=>false) k l ss T=T:=by
         intro l
         induction l with
         | nil=>intro ss k T; cases ss <;> rfl
         | cons o r ih=>intro ss k T; cases ss with
          | nil=>rfl
          | cons s ss=>obtain⟨x,y⟩:=s; simp only[bF,cond_false,ih]
        rw[this]
    | true=>
     rw[hck]at hc
     simp only[cond_true,sJ]at hc; subst hc
     simp only[QT]at hck
     have hnc:=fE hl
     have hlk:=jD l H.next 0
     have hok:eE (aF H.next l) (br [] (ops.toList.map bi))=true:=by rw[oL hlk]; exact hck.2
     have hlen:(aF H.next l).length=ops.toList.length:=(mV hl H.next).1
     have hll:l.length=(aF H.next l).length:=by rw[hlen]; exact (sj hl).1
     have hchk:(List.range l.length).map (eG (aF 0 l) (br [] (ops.toList.map bi)))=(List.range (aF H.next l).length).map (eG (aF H.next l) (br [] (ops.toList.map bi))):=by
      rw[hll]
      exact List.map_congr_left fun j _=>(th hlk _ j).symm
     have hbase:∀d,Prot.dead d->d<H.next:=fun d hd=>(R.dead d hd).1
     have R:=iJ (pr:=Prot.prot) l Prot.dead H hnc R
     simp only[aO,mB]at h
     rw[hchk]at h
     generalize hcl:aF H.next l=m at *
     generalize hrv:bY H l=K at *
     split at h
     ·rename_i ss hss
      cases hr:fR tb (K::ss.map (·.2)) m ((List.range m.length).map (eG m (br [] (ops.toList.map bi)))) ss T with
      | false=>rw[hr]at h; simp at h
      | true=>
       rw[hr]at h
       simp only[cond_true,sJ,pJ]at h
       obtain⟨rfl,rfl,rfl⟩:=h
       refine wp_region_any hfol ?_
       have hN:m.length=ops.size:=by simpa using hlen
       have hrep:∀i,(Array.replicate ops.size false).getD i false=false:=fun i=>by
        rw[Array.getD_eq_getD_getElem?,Array.getElem?_replicate]; split <;> rfl
       have hm0:(fun i=>(Array.replicate ops.size false).getD i false)=fun _=>false:=funext hrep
       have hst:aC (fun i=>(Array.replicate ops.size false).getD i false) 0 m=aC (fun _=>false) 0 m:=ie m 0 fun c o _ _=>by simp only[hrep]
       have hH:eF K ss (aC (fun _=>false) 0 m)=K:=by
        obtain⟨q1,q2,q3,q4⟩:=ed (fun _=>false) m 0
        have:=di hss (aC (fun _=>false) 0 m) 0 om fun c o _ hlt ho=>by
         cases hx:aI o.op with
         | false=>rfl
         | true=>have:=q3 c o ho hx om; simp at this
        rw[Nat.zero_add]at this
        rw[this]; rfl
       refine yN (RAW:=False) (rp:=fun _=>False) (Prot:=Prot) (w0:=w0) htb hcall (fun h=>h.elim) (fun h=>h.elim) (base:=H.next) hlen (by rw[<- hcl]; exact fun j o hj=>let ⟨a,q1,q2⟩:=(mV hl H.next).2 j o hj; ⟨a,q1,.inl ⟨fun h=>h,q2.imp_right .inl⟩⟩) hbase (by rw[<- hcl]; exact kM l H.next hnc) hck.1 hok hss hr (ρ0:=ρ) (fun a' w' hx=>⟨rfl,hx⟩) (fun h=>h.elim) ops.size _ a _ (by simp) ?_ (fun j _ hj=>by rw[hrep]at hj; simp at hj) (fun c h=>h.elim) ⟨ρ,Pl.le_refl _,?_,?_,hd⟩
       ·rw[hm0]
        have:∀k,tW (fun _=>false) k=k:=by
         intro k
         induction k with
         | zero=>rfl
         | succ k ih=>simp only[tW,ih,cond_false]
        exact this _
       ·rw[hst,hH,hm0]; exact R.drew
       ·refine ht.congr fun t=>?_
        rw[hm0]
        have:∀(l:List an) (ss:List (ab×aa)) (k:Nat) (T:Tr ab),bF (fun _=>false) k l ss T=T:=by
         intro l
         induction l with
         | nil=>intro ss k T; cases ss <;> rfl
         | cons o r ih=>intro ss k T; cases ss with
          | nil=>rfl
          | cons s ss=>obtain⟨x,y⟩:=s; simp only[bF,cond_false,ih]
        rw[this]
     ·simp at h
   ·simp at hc
  | false=>
   simp only[fG]at hc
   split at hc
   ·rename_i l hl
    simp only[sJ]at hc; subst hc
    simp only[aO]at h
    split at h
    ·rename_i T1 H1 h1
     simp only[sJ,pJ]at h
     obtain⟨rfl,rfl,rfl⟩:=h
     refine wp_region ?_
     have:=xR (Prot:=Prot) (w0:=w0) htb hcall (Q:=ET P Prot w0 ds ρ n .normal T1 H1) ops.toList 0 l (fun j=>by simp) hl ρ ρ T T1 H H1 a w (Pl.le_refl _) R ht hd h1 (fun a' w' h=>⟨rfl,h⟩)
     rw[List.range_eq_range']
     simpa using this
    ·simp at h
   ·simp at hc
 | seq x y ihx ihy=>
  intro ac hc ρ T T' H H' e a w R ht hd h
  simp only[fG]at hc
  split at hc
  ·rename_i ax ay hx hy
   simp only[sJ]at hc; subst hc
   simp only[aO]at h
   split at h
   ·rename_i T1 H1 h1
    refine wp_seq (wp_mono (ihx _ hx ρ T T1 H H1 .normal a w R ht hd h1) ?_)
    rintro e1 a1 w1 ⟨he,ρ1,hl,R1,ht1,hd1⟩
    simp only at he
    subst he
    exact wp_mono (ihy _ hy ρ1 T1 T' H1 H' e a1 w1 R1 ht1 hd1 h) fun _ _ _ q=>q.weaken hl
   ·rename_i e1 T1 H1 hne h1
    simp only[sJ,pJ]at h
    obtain⟨rfl,rfl,rfl⟩:=h
    refine wp_seq (wp_mono (ihx _ hx ρ T T1 H H1 e1 a w R ht hd h1) ?_)
    rintro e2 a1 w1 q
    cases e1 with
    | normal=>exact (hne rfl).elim
    | exit id=>have:=q.1; simp only at this; subst this; exact q
    | ret=>have:=q.1; simp only at this; subst this; exact q
   ·simp at h
  ·simp at hc
 | cond c x y ihx ihy=>
  intro ac hc ρ T T' H H' e a w R ht hd h
  simp only[fG]at hc
  split at hc
  ·rename_i c' ax ay hcc hx hy
   simp only[sJ]at hc; subst hc
   simp only[aO]at h
   have hv:=aH ht hcc
   split at h
   ·rename_i hb
    rw[hb]at hv
    simp only[ak]at hv
    exact wp_cond_true hv (ihx _ hx ρ T T' H H' e a w R ht hd h)
   ·rename_i hb
    rw[hb]at hv
    simp only[ak]at hv
    exact wp_cond_false hv (ihy _ hy ρ T T' H H' e a w R ht hd h)
   ·simp at h
  ·simp at hc
 | block id c ih=>
  intro ac hc ρ T T' H H' e a w R ht hd h
  simp only[fG]at hc
  split at hc
  ·rename_i ax hx
   simp only[sJ]at hc; subst hc
   simp only[aO]at h
   split at h
   ·rename_i j T1 H1 h1
    refine wp_block (wp_mono (ih _ hx ρ T T1 H H1 (.exit j) a w R ht hd h1) ?_)
    rintro e1 a1 w1 q
    have he:=q.1
    simp only at he
    subst he
    cases hb:Nat.beq j id with
    | true=>
     rw[hb]at h
     simp only[cond_true,sJ,pJ]at h
     obtain⟨rfl,rfl,rfl⟩:=h
     have:=QX hb
     simp only[Exit.inBlock,this,if_true]
     exact⟨rfl,q.2⟩
    | false=>
     rw[hb]at h
     simp only[cond_false,sJ,pJ]at h
     obtain⟨rfl,rfl,rfl⟩:=h
     have:¬j=id:=fun e=>by rw[e,Nat.beq_refl]at hb; simp at hb
     simp only[Exit.inBlock,this,if_false]
     exact q
   ·rename_i e1 T1 H1 hne h1
    simp only[sJ,pJ]at h
    obtain⟨rfl,rfl,rfl⟩:=h
    refine wp_block (wp_mono (ih _ hx ρ T T1 H H1 e1 a w R ht hd h1) ?_)
    rintro e2 a1 w1 q
    cases e1 with
    | normal=>have:=q.1; simp only at this; subst this; exact q
    | exit j=>exact (hne _ rfl).elim
    | ret=>have:=q.1; simp only at this; subst this; exact q
   ·simp at h
  ·simp at hc
 | loop c ih=>
  intro ac hc ρ T T' H H' e a w R ht hd h
  simp only[fG]at hc
  split at hc
  ·rename_i ax hx
   simp only[sJ]at hc; subst hc
   simp only[aO]at h
   refine wp_loop_rounds k ?_
   have key:∀(m:Nat) (T:Tr ab) (H:aa) (ρ1:Pl) (a:Act) (w:World),ρ.le ρ1->cg Prot w0 ρ1 H w->bx ρ1 n T a.tmps->a.defers=ds ->
     jG (aO tb call k ax) m T H=some (e,T',H')->Code.rounds P c (ET P Prot w0 ds ρ n e T' H') m a w:=by
    intro m
    induction m with
    | zero=>intro T H ρ1 a w _ _ _ _ h; simp[jG]at h
    | succ m ihm=>
     intro T H ρ1 a w hl R ht hd h
     rw[rounds_succ]
     simp only[jG]at h
     split at h
     ·rename_i T1 H1 h1
      refine wp_mono (ih _ hx ρ1 T T1 H H1 .normal a w R ht hd h1) ?_
      rintro e1 a1 w1 ⟨he,ρ2,hl2,R1,ht1,hd1⟩
      simp only at he
      subst he
      exact ihm T1 H1 ρ2 a1 w1 (Pl.le_trans hl hl2) R1 ht1 hd1 h
     ·rename_i e1 T1 H1 hne h1
      simp only[sJ,pJ]at h
      obtain⟨rfl,rfl,rfl⟩:=h
      refine wp_mono (ih _ hx ρ1 T T1 H H1 e1 a w R ht hd h1) ?_
      rintro e2 a1 w1 q
      have q':=q.weaken hl
      cases e1 with
      | normal=>exact (hne rfl).elim
      | exit id=>have:=q.1; simp only at this; subst this; exact q'
      | ret=>have:=q.1; simp only at this; subst this; exact q'
     ·simp at h
   exact key k T H ρ a w (Pl.le_refl _) R ht hd h
  ·simp at hc
 | exit id=>
  intro ac hc ρ T T' H H' e a w R ht hd h
  simp only[fG,sJ]at hc; subst hc
  simp only[aO,sJ,pJ]at h
  obtain⟨rfl,rfl,rfl⟩:=h
  exact wp_exit ⟨rfl,ρ,Pl.le_refl _,R,ht,hd⟩
 | ret=>
  intro ac hc ρ T T' H H' e a w R ht hd h
  simp only[fG,sJ]at hc; subst hc
  simp only[aO,sJ,pJ]at h
  obtain⟨rfl,rfl,rfl⟩:=h
  exact wp_ret ⟨rfl,ρ,Pl.le_refl _,R,ht,hd⟩
 | _=>
  intro ac hc ρ T T' H H' e a w R ht hd h
  simp only[fG,sJ]at hc; subst hc
  simp[kA]at h
theorem Je{n:Nat}(R:cg Prot w0 ρ H w){T:Tr ab}{tmps:Array Value}(ht:bx ρ n T tmps):∀{rs:List ResultVar} {l:List nm},qO P rs=some l->∀{xs:List ab},ko T H l=some xs ->
  ∃vs:List Value,(rs.mapM (fun r=>match r with
   | .tmp t=>Pure.pure (tmps.getD t undef)
   | .cell a t=>do loadVar t (<- asAddr (tmps.getD a undef))):Sem (List Value)).run P w=.ok vs w/\ap ρ xs vs:=by
 intro rs
 induction rs with
 | nil=>
  intro l hc xs h
  simp only[qO,sJ]at hc; subst hc
  simp only[ko,sJ]at h; subst h
  exact⟨[],rfl,by simp[ap]⟩
 | cons r rs ih=>
  intro l hc xs h
  cases r with
  | tmp t=>
   simp only[qO]at hc
   split at hc
   ·rename_i l' hl
    simp only[sJ]at hc; subst hc
    simp only[ko]at h
    split at h
    ·rename_i ys hy
     simp only[sJ]at h; subst h
     obtain⟨vs,h1,h2⟩:=ih hl hy
     refine⟨tmps.getD t undef::vs,?_,by simp only[ap]; exact⟨_,_,rfl,ht.at_ t,h2⟩⟩
     simp only[List.mapM_cons,Sem.run_bind,Sem.run_pure,Result.andThen_ok,h1]
    ·simp at h
   ·simp at hc
  | cell a t=>
   simp only[qO]at hc
   split at hc
   ·rename_i g k l' hk hl
    simp only[sJ]at hc; subst hc
    simp only[ko]at h
    split at h
    ·rename_i x ys hx hy
     simp only[sJ]at h; subst h
     obtain⟨vs,h1,h2⟩:=ih hl hy
     obtain⟨u,u1,u2⟩:=wu (P:=P) R (ek hk) (ht.at_ a) hx
     have hp:∃ad,tmps.getD a undef=.pointer (some ad):=by
      have hat:=ht.at_ a
      unfold am at hx
      split at hx
      ·rename_i ad heq
       rw[heq]at hat
       simp only[ak]at hat
       obtain⟨L,_,_,e⟩:=hat
       exact⟨_,e⟩
      ·simp at hx
     obtain⟨ad,had⟩:=hp
     refine⟨u::vs,?_,by simp only[ap]; exact⟨_,_,rfl,u2,h2⟩⟩
     have:(loadVar t ad).run P w=.ok u w:=by
      rw[had]at u1
      simpa[Instr.loadAt,Instr.sureAddr] using u1
     have hA:(asAddr (tmps.getD a undef)).run P w=.ok ad w:=by rw[had]; rfl
     simp only[List.mapM_cons,Sem.run_bind,hA,Sem.run_pure,Result.andThen_ok,this,h1]
    ·simp at h
   ·simp at hc
theorem lD{n:Nat}(R:cg Prot w0 ρ H w){T:Tr ab}{tmps:Array Value}(ht:bx ρ n T tmps){fn:Func}{l:List nm}(hc:qO P fn.results.toList=some l){xs:List ab}(h:ko T H l=some xs) :
  ∃v,(results fn tmps).run P w=.ok v w/\ak ρ (jr xs) v:=by
 obtain⟨vs,h1,h2⟩:=Je (P:=P) R ht hc h
 have hl:=ap.len h2
 have hm:(fn.results.mapM (fun r=>match r with
   | .tmp t=>Pure.pure (tmps.getD t undef)
   | .cell a t=>do loadVar t (<- asAddr (tmps.getD a undef))):Sem (Array Value)).run P w=.ok vs.toArray w:=by
  rw[Array.mapM_eq_mapM_toList]
  simp only[Sem.run_map,h1,Result.andThen_ok]
 refine⟨if h:vs.toArray.size=1 then vs.toArray[0] else .tuple vs.toArray,?_,?_⟩
 ·have e:results fn tmps=(fn.results.mapM (fun r=>match r with
   | .tmp t=>Pure.pure (tmps.getD t undef)
   | .cell a t=>do loadVar t (<- asAddr (tmps.getD a undef))):Sem (Array Value)) >>= fun vs=>Pure.pure (if h:vs.size=1 then vs[0] else .tuple vs):=rfl
  rw[e,Sem.run_bind,hm]
  rfl
 ·match xs,vs,h2,hl with
  | [x],[v],h2,_=>
   simp only[ap]at h2
   obtain⟨v',r,e,h3,_⟩:=h2
   simp only[List.cons.injEq]at e
   obtain⟨rfl,rfl⟩:=e
   exact h3
  | [],[],h2,_=>simp only[jr,ak]; exact⟨_,rfl,h2⟩
  | x::y::xs,v::u::vs,h2,_=>simp only[jr,ak]; exact⟨_,rfl,h2⟩
theorem pu:∀(args:List ab) (vs:List Value) (i:Nat) (T:Tr ab),ap ρ args vs->(∀t,i<=t->T.get t=none) ->
  ∀t,ev (dh args i T) (.t t)=if t<i then ev T (.t t) else match args[t-i]? with | some x=>x | none=>aX:=by
 intro args
 induction args with
 | nil=>
  intro vs i T _ hn t
  simp only[dh]
  split
  ·rfl
  ·rename_i h
   simp[ev,hn t om]
 | cons x r ih=>
  intro vs i T hv hn t
  simp only[ap]at hv
  obtain⟨v,vs',rfl,h1,h2⟩:=hv
  simp only[dh]
  rw[ih vs' (i+1) (T.set i x) h2 (fun t ht=>by rw[Tr.get_set,if_neg om]; exact hn t om) t]
  by_cases c1:t<i
  ·rw[if_pos om,if_pos c1]
   simp only[ev,Tr.get_set]
   rw[if_neg om]
  ·by_cases c2:t=i
   ·subst c2
    rw[if_pos om,if_neg c1]
    simp[ev,Tr.get_set]
   ·rw[if_neg om,if_neg c1,show t-i=(t-(i+1))+1 by omega]
    simp
theorem pG{args:List ab}{vs:Array Value}(hv:ap ρ args vs.toList){n:Nat}(hn:args.length<=n):bx ρ n (dh args 0 .e) (vs++Array.replicate (n-vs.size) undef):=by
 have hl:=ap.len hv
 simp only[Array.length_toList]at hl
 refine⟨by simp; omega,fun t=>?_⟩
 rw[pu args vs.toList 0 .e hv (fun _ _=>rfl) t]
 rw[if_neg om,Nat.sub_zero]
 by_cases ht:t<args.length
 ·have hx:args[t]?=some args[t]:=QQ ht
  obtain⟨v,h1,h2⟩:=hv.nth _ _ hx
  rw[hx]
  rw[Array.getElem?_toList]at h1
  have:(vs++Array.replicate (n-vs.size) undef).getD t undef=v:=by
   rw[Array.getD_eq_getD_getElem?,Array.getElem?_append_left om,h1]; rfl
  rw[this]
  exact h2
 ·have hx:args[t]?=none:=Q8 om
  rw[hx]
  have:(vs++Array.replicate (n-vs.size) undef).getD t undef=undef:=by
   rw[Array.getD_eq_getD_getElem?,Array.getElem?_append_right om]
   by_cases h:t-vs.size<n-vs.size
   ·simp[h]
   ·simp[h]
  rw[this]
  exact ez
theorem tu {f : FuncId} {fn : bV} (h : IV P f = some fn) : ∃ fc code, P.funcs[f]? = some fc ∧ fc.body = some code ∧ (fc.name == "runtime.NumGoroutine") = false ∧ fc.ntmps = fn.nt ∧ fG P fn.nt code = some fn.body ∧ qO P fc.results.toList = some fn.res := by
 unfold IV at h
 split at h
 ·rename_i fc hf
  split at h
  ·rename_i c hb
   cases hn : (fc.name == "runtime.NumGoroutine") with
   | true=>rw[hn]at h; simp at h
   | false=>
    rw[hn]at h
    simp only[cond_false]at h
    split at h
    ·rename_i b r h1 h2
     simp only[sJ]at h
     subst h
     exact⟨fc,c,hf,hb,hn,rfl,h1,h2⟩
    ·simp at h
  ·simp at h
 ·simp at h
structure tU(P:Program)(N:gC):Prop where
 body:∀f,N.is f=true->bX P f=true
 run:js P N.run
end
end Go.Abs
namespace Go.Abs
def dm(n:Nat):bu->Bool
 | .t i=>Nat.blt i n
 | _=>true
def lJ(n:Nat):List bu->Bool
 | []=>true
 | x::r=>dm n x&&lJ n r
def oI(n:Nat):Option bu->Bool
 | none=>true
 | some x=>dm n x
def si(n:Nat):List (Nat×Nat×bu)->Bool
 | []=>true
 | (_,_,x)::r=>dm n x&&si n r
def J4(n:Nat):jv->Bool
 | .mv x=>dm n x
 | .pick c a b=>dm n c&&(dm n a&&dm n b)
 | .new _=>true
 | .box x=>dm n x
 | .build _ ps=>si n ps
 | .buildSl _ _ ps=>si n ps
 | .load _ _ x=>dm n x
 | .store _ a x=>dm n a&&dm n x
 | .nilChk x=>dm n x
 | .bin _ x y=>dm n x&&dm n y
 | .un _ x=>dm n x
 | .conv _ x=>dm n x
 | .convSB x=>dm n x
 | .convBS x=>dm n x
 | .mkFunc _ a b=>lJ n a&&lJ n b
 | .mkIface _ x=>dm n x
 | .mkSlice _ _ l c=>dm n l&&dm n c
 | .sl _ x a b c=>dm n x&&(oI n a&&(oI n b&&oI n c))
 | .slStr x a b=>dm n x&&(oI n a&&oI n b)
 | .fieldA _ x=>dm n x
 | .field _ _ _ x=>dm n x
 | .idxA _ x i=>dm n x&&dm n i
 | .idxArr _ _ x i=>dm n x&&dm n i
 | .idx _ _ _ x i=>dm n x&&dm n i
 | .idxS x i=>dm n x&&dm n i
 | .extract _ x=>dm n x
 | .append _ _ s x=>dm n s&&dm n x
 | .len _ x=>dm n x
 | .call _ l=>lJ n l
 | .callv f l=>dm n f&&lJ n l
 | .pf _ l=>lJ n l
 | .hf _ l=>lJ n l
 | .bad=>true
 | .claim ..=>true
 | .slA _ _ x a b c=>dm n x&&(oI n a&&(oI n b&&oI n c))
def JK(n:Nat):Option (Nat×Bool)->Bool
 | none=>true
 | some (t,_)=>Nat.blt (gS t) n
def dJ(n:Nat)(o:an):Bool:=J4 n o.op&&(JK n o.guard&&dW n o.dst)
def GE(n:Nat)(T U:Tr ab):Prop:=(∀t,t<n->ev T (.t t)=ev U (.t t))/\∀t,n<=t->ev U (.t t)=aX
section
variable {n:Nat} {T U:Tr ab} {tb:FuncId->Bool} {call:FuncId->List ab->aa->Option (ab×aa)}
theorem eU{a b:Nat}(h:Nat.blt a b=true):a<b:=QW h
theorem GE.x(h:GE n T U){x:bu}(hx:dm n x=true):ev T x=ev U x:=by
 cases x with
 | t i=>exact h.1 i (eU hx)
 | c v=>rfl
 | f i=>rfl
theorem GE.xs(h:GE n T U):∀{l:List bu},lJ n l=true->gA T l=gA U l
 | [],_=>rfl
 | x::r,hx=>by
  simp only[lJ,QT]at hx
  simp only[gA,h.x hx.1,h.xs hx.2]
theorem GE.xO(h:GE n T U){x:Option bu}(hx:oI n x=true):yK T x=yK U x:=by
 cases x with
 | none=>rfl
 | some x=>simp only[yK,h.x hx]
theorem GE.xP(h:GE n T U):∀{l:List (Nat×Nat×bu)},si n l=true->z8 T l=z8 U l
 | [],_=>rfl
 | (a,b,x)::r,hx=>by
  simp only[si,QT]at hx
  simp only[z8,h.x hx.1,h.xP hx.2]
theorem Ip(h:GE n T U){o:jv}(ho:J4 n o=true)(H:aa):ct tb T H o=ct tb U H o:=by
 cases o <;> simp only[J4,QT]at ho <;> simp only[ct]
 case mv x=>rw[h.x ho]
 case pick c a b=>rw[h.x ho.1,h.x ho.2.1,h.x ho.2.2]
 case box x=>rw[h.x ho]
 case build z ps=>rw[h.xP ho]
 case buildSl m z ps=>rw[h.xP ho]
 case load a m x=>rw[h.x ho]
 case store m a x=>rw[h.x ho.1,h.x ho.2]
 case nilChk x=>rw[h.x ho]
 case bin op x y=>rw[h.x ho.1,h.x ho.2]
 case un op x=>rw[h.x ho]
 case conv k x=>rw[h.x ho]
 case convSB x=>rw[h.x ho]
 case convBS x=>rw[h.x ho]
 case mkFunc fn a b=>rw[h.xs ho.1,h.xs ho.2]
 case mkIface t x=>rw[h.x ho]
 case mkSlice b z l c=>rw[h.x ho.1,h.x ho.2]
 case sl m x a b c=>rw[h.x ho.1,h.xO ho.2.1,h.xO ho.2.2.1,h.xO ho.2.2.2]
 case slStr x a b=>rw[h.x ho.1,h.xO ho.2.1,h.xO ho.2.2]
 case fieldA o x=>rw[h.x ho]
 case field a m o x=>rw[h.x ho]
 case idxA m x i=>rw[h.x ho.1,h.x ho.2]
 case idxArr m k x i=>rw[h.x ho.1,h.x ho.2]
 case idx m k a x i=>rw[h.x ho.1,h.x ho.2]
 case idxS x i=>rw[h.x ho.1,h.x ho.2]
 case extract i x=>rw[h.x ho]
 case append m b s x=>rw[h.x ho.1,h.x ho.2]
 case len s x=>rw[h.x ho]
 case call f l=>rw[h.xs ho]
 case callv f l=>rw[h.x ho.1,h.xs ho.2]
 case pf f l=>rw[h.xs ho]
 case hf f l=>rw[h.xs ho]
 case slA m k x a b c=>rw[h.x ho.1,h.xO ho.2.1,h.xO ho.2.2.1,h.xO ho.2.2.2]
theorem AY(h:GE n T U){g:Option (Nat×Bool)}(hg:JK n g=true):im T g=im U g:=by
 cases g with
 | none=>rfl
 | some p=>
  obtain⟨t,b⟩:=p
  simp only[im,h.1 (gS t) (eU hg)]
theorem aY(T:Tr ab)(d t:Nat)(v:ab):ev (T.set d v) (.t t)=if t=d then v else ev T (.t t):=by
 simp only[ev,Tr.get_set]
 split
 ·rename_i u h
  split at h
  ·rename_i e; rw[if_pos e]; simpa using h.symm
  ·rename_i e; rw[if_neg e,h]
 ·rename_i h
  split at h
  ·simp at h
  ·rename_i e; rw[if_neg e,h]
theorem oZ(T:Tr ab)(d:Option Nat)(t:Nat)(v:ab):ev (cQ T d v) (.t t)=if d=some t then v else ev T (.t t):=by
 cases d with
 | none=>simp[cQ]
 | some d=>
  simp only[cQ,aY,sJ]
  by_cases e:t=d
  ·rw[if_pos e,if_pos e.symm]
  ·rw[if_neg e,if_neg fun q=>e q.symm]
theorem GE.put(h:GE n T U){d:Option Nat}(hd:dW n d=true)(v:ab):GE n (cQ T d v) (cQ U d v):=by
 refine⟨fun t ht=>?_,fun t ht=>?_⟩
 ·rw[oZ,oZ,h.1 t ht]
 ·rw[oZ,h.2 t ht,if_neg]
  rintro rfl
  have:=eU hd
  omega
theorem GE.ghost(h:GE n T U){d:Nat}(hd:n<=d)(v:ab):GE n (T.set d v) U:=
 ⟨fun t ht=>by rw[aY,if_neg om]; exact h.1 t ht,h.2⟩
def mF(n:Nat)(T T':Tr ab):Prop:=∀t,n<=t->ev T' (.t t)=ev T (.t t)
theorem mF.put{d:Option Nat}(hd:dW n d=true)(v:ab):mF n T (cQ T d v):=fun t ht=>by
 rw[oZ,if_neg]
 rintro rfl
 have:=eU hd
 omega
theorem mF.trans{T1 T2:Tr ab}(h:mF n T T1)(k:mF n T1 T2):mF n T T2:=fun t ht=>(k t ht).trans (h t ht)
theorem zF(h:GE n T U){o:an}(ho:dJ n o=true)(H:aa):bI tb call o T H=bI tb call o U H:=by
 simp only[dJ,QT]at ho
 simp only[bI,AY h ho.2.1,Ip h ho.1]
theorem bM(o:an)(r:List an)(T:Tr ab)(H:aa):bA tb call (o::r) T H=match bI tb call o T H with
  | some (v,H')=>bA tb call r (cQ T o.dst v) H'
  | none=>none:=by
 simp only[bA,bI]
 cases im T o.guard with
 | false=>rfl
 | true=>
  simp only[cond_true]
  cases ct tb T H o.op with
  | none=>rfl
  | some p=>obtain⟨nx,H'⟩:=p; cases nx <;> rfl
theorem fZ:∀(l m:List an) (T:Tr ab) (H:aa),bA tb call (l++m) T H=match bA tb call l T H with
  | some (T1,H1)=>bA tb call m T1 H1
  | none=>none
 | [],m,T,H=>rfl
 | o::l,m,T,H=>by
  rw[Q9,bM,bM]
  cases bI tb call o T H with
  | none=>rfl
  | some p=>obtain⟨v,H1⟩:=p; exact fZ l m _ _
theorem vB:∀(l:List an) {T U:Tr ab} {H:aa},GE n T U->l.all (dJ n)=true->cP tb call l T H=cP tb call l U H
 | [],_,_,_,_,_=>rfl
 | o::r,T,U,H,h,hl=>by
  simp only[List.all_cons,QT]at hl
  simp only[cP]
  rw[zF h hl.1]
  cases bI tb call o U H with
  | none=>rfl
  | some p=>
   obtain⟨v,H1⟩:=p
   have hd:dW n o.dst=true:=by
    have:=hl.1
    simp only[dJ,QT]at this
    exact this.2.2
   simp only
   rw[vB r (h.put hd v) hl.2]
theorem vu(hs:List aa):∀(l:List an) (ps:List (List Nat)) (ss:List (ab×aa)) {T U:Tr ab},GE n T U->l.all (dJ n)=true->fR tb hs l ps ss T=fR tb hs l ps ss U
 | [],_,_,_,_,_,_=>rfl
 | o::r,[],_,_,_,_,_=>rfl
 | o::r,p::ps,[],_,_,_,_=>rfl
 | o::r,p::ps,(v,H1)::ss,T,U,h,hl=>by
  simp only[List.all_cons,QT]at hl
  have ho:=hl.1
  simp only[dJ,QT]at ho
  simp only[fR,AY h ho.2.1,Ip h ho.1,vu hs r ps ss (h.put ho.2.2 v) hl.2]
theorem vW(m:Nat->Bool):∀(l:List an) (i:Nat) (ss:List (ab×aa)) {T U:Tr ab},GE n T U->l.all (dJ n)=true->GE n (bF m i l ss T) (bF m i l ss U)/\mF n T (bF m i l ss T)
 | [],_,_,_,_,h,_=>⟨h,fun _ _=>rfl⟩
 | o::r,i,[],_,_,h,_=>⟨h,fun _ _=>rfl⟩
 | o::r,i,(v,H1)::ss,T,U,h,hl=>by
  simp only[List.all_cons,QT]at hl
  have ho:=hl.1
  simp only[dJ,QT]at ho
  simp only[bF]
  cases m i with
  | true=>
   obtain⟨q1,q2⟩:=vW m r (i+1) ss (h.put ho.2.2 v) hl.2
   exact⟨q1,(mF.put ho.2.2 v).trans q2⟩
  | false=>exact vW m r (i+1) ss h hl.2
theorem Is{l:List an}{chk:List (List Nat)}{H H':aa}{e:tV}{T':Tr ab}(h:GE n T U)(hl:l.all (dJ n)=true)(hr:mB tb call l chk T H=some (e,T',H')) :
  e=.normal/\∃U',mB tb call l chk U H=some (.normal,U',H')/\GE n T' U'/\mF n T T':=by
 unfold mB at hr ⊢
 rw[vB l h hl]at hr
 cases ht:cP tb call l U H with
 | none=>rw[ht]at hr; simp at hr
 | some ss=>
  rw[ht]at hr
  simp only at hr ⊢
  rw[vu _ l _ ss h hl]at hr
  cases hc:fR tb (H::ss.map (·.2)) l chk ss U with
  | false=>rw[hc]at hr; simp at hr
  | true=>
   rw[hc]at hr
   simp only[cond_true,sJ,pJ]at hr ⊢
   obtain⟨rfl,rfl,rfl⟩:=hr
   obtain⟨q1,q2⟩:=vW (fun _=>true) l 0 ss h hl
   exact⟨rfl,_,⟨trivial,rfl,rfl⟩,q1,q2⟩
theorem tg:∀(l:List an) (b:Nat),l.all (dJ n)=true->(aF b l).all (dJ n)=true
 | [],_,_=>rfl
 | o::r,b,hl=>by
  simp only[List.all_cons,QT]at hl
  simp only[aF]
  cases hz:et o.op with
  | none=>simp only[List.all_cons,hl.1,tg r b hl.2,Bool.and_self]
  | some p=>
   obtain⟨z,s⟩:=p
   have ho:=hl.1
   simp only[dJ,QT]at ho
   simp only[List.all_cons,tg r (b+1) hl.2,dJ,J4,ho.2.1,ho.2.2,Bool.and_self]
end
end Go.Abs
namespace Go.Abs
def PB:Nat:=1000000
inductive vN where
 | ord (o:an)
 | pnc (x:bu)
 | dfr (x:bu)
 | tc (f:Nat) (args:List bu) (d:Option Nat) (g:Option (Nat×Bool))
def gH(n:Nat):List vN->List an->cp
 | [],acc=>.reg acc.reverse
 | .ord o::r,acc=>gH n r (o::acc)
 | .dfr x::r,acc=>gH n r (⟨some (n+1),.pf .dset [.t (n+1),x],none⟩::acc)
 | .pnc x::_,acc=>.seq (.reg (acc.reverse++[⟨some n,.pf .mkP [x],none⟩])) (.exit PB)
 | .tc f args d g::r,acc=>.seq (.reg (acc.reverse++[⟨some (n+3),.call (cA+f) args,g⟩,⟨some (n+2),.pf .isP [.t (n+3)],none⟩]))
   (.seq (.cond (.t (n+2)) (.seq (.reg [⟨some n,.mv (.t (n+3)),none⟩]) (.exit PB)) .skip) (gH n r [⟨d,.mv (.t (n+3)),none⟩]))
section
variable (P:Program) (n:Nat) (ps:List Nat)
def Oz(ops:Array Oper)(o:Oper):Option vN:=match eu P n ops o with
 | some a=>bif dJ n a then some (.ord a) else none
 | none=>none
def sI(o:Op):Option (Nat×List Operand):=match o with
 | .call c=>match c.callee with
  | .value (.func f)=>bif ps.any (Nat.beq f) then some (f,c.args.toList) else none
  | _=>none
 | _=>none
def Lc(ops:Array Oper)(o:Oper):Option vN:=match o.op with
 | .panic x=>match o.guard,ck x with
  | none,some y=>bif dm n y then some (.pnc y) else none
  | _,_=>none
 | .defer c=>match o.guard,o.dst,c.callee with
  | none,none,.value x=>match c.args.toList,ck x with
   | [],some y=>bif dm n y then some (.dfr y) else none
   | _,_=>none
  | _,_,_=>none
 | op=>match sI ps op with
  | some (f,l)=>match dN l,jo n ops o.guard with
   | some l,some g=>bif Nat.blt f cA&&(lJ n l&&(JK n g&&dW n o.dst)) then some (.tc f l o.dst g) else none
   | _,_=>none
  | none=>Oz P n ops o
def tq(ops:Array Oper):List Oper->Option (List vN)
 | []=>some []
 | o::r=>match Lc P n ps ops o,tq ops r with
  | some a,some l=>some (a::l)
  | _,_=>none
def xW:Nat->List Oper->Option (Nat×Nat)
 | _,[]=>none
 | j,o::r=>match sI ps o.op,o.dst with
  | some _,some d=>some (j,d)
  | _,_=>xW (j+1) r
def Oy(ops:Array Oper)(o:Oper):Option an:=match sI ps o.op with
 | some (f,l)=>match dN l,jo n ops o.guard with
  | some l,some g=>bif Nat.blt f cA&&dW n o.dst then some ⟨o.dst,.call (cA+f) l,g⟩ else none
  | _,_=>none
 | none=>none
def Oo(d:Nat)(a:an):Option an:=match a.guard,et a.op with
 | none,none=>some ⟨a.dst,a.op,some (SK+d,false)⟩
 | _,_=>none
def Ma(ops:Array Oper)(ms:List Nat)(c d:Nat)(j:Nat)(o:Oper):Option an:=
 bif Nat.beq j c then Oy n ps ops o else match eu P n ops o with
  | some a=>bif jR ms j c then Oo d a else some a
  | none=>none
def yW(ops:Array Oper)(ms:List Nat)(c d:Nat):Nat->List Oper->Option (List an)
 | _,[]=>some []
 | j,o::r=>match Ma P n ps ops ms c d j o,yW ops ms c d (j+1) r with
  | some a,some l=>some (a::l)
  | _,_=>none
def yd(c d:Nat):Nat->List an->Bool
 | _,[]=>true
 | k,a::r=>(Nat.beq k c||!(a.dst==some d))&&yd c d (k+1) r
def tn(ops:Array Oper)(rest:List Oper):Option (List an×Option (Nat×Nat)):=match dd P n ops rest with
 | some l=>some (l,none)
 | none=>none
def CP(ops:Array Oper)(rest:List Oper):Option (List an×Option (Nat×Nat)):=match xW ps 0 rest with
 | some (c,d)=>match yW P n ps ops (br [] (ops.toList.map bi)) c d 0 rest with
  | some l=>bif yd c d 0 l then some (l,some (c,d)) else tn P n ops rest
  | none=>tn P n ops rest
 | none=>tn P n ops rest
def HO(ops:Array Oper):Option cp:=match CP P n ps ops ops.toList with
 | some (l,d)=>bif gN (ops.toList.map bi) (br [] (ops.toList.map bi))&&eE (aF 0 l) (br [] (ops.toList.map bi))&&l.all (dJ n) then
   (match d with
    | none => some (.draw l ((List.range l.length).map (eG (aF 0 l) (br [] (ops.toList.map bi)))))
    | some (_, d) => some (.seq (.draw l ((List.range l.length).map (eG (aF 0 l) (br [] (ops.toList.map bi)))))
     (.seq (.reg [⟨some (n+2),.pf .isP [.t d],none⟩]) (.cond (.t (n+2)) (.seq (.reg [⟨some (n+2),.pf .isU [.t (n+1)],none⟩]) (.cond (.t (n+2)) (.seq (.reg [⟨some n,.mv (.t d),none⟩]) (.exit PB)) gI)) .skip))))
  else some gI
 | none=>none
def eh:Code->Option cp
 | .skip=>some .skip
 | .region _ ops false=>match tq P n ps ops ops.toList with
  | some its=>some (gH n its [])
  | none=>none
 | .region _ ops true=>HO P n ps ops
 | .seq a b=>match eh a,eh b with
  | some a,some b=>some (.seq a b)
  | _,_=>none
 | .cond c a b=>match ck c,eh a,eh b with
  | some c,some a,some b=>bif dm n c then some (.cond c a b) else none
  | _,_,_=>none
 | .block id c=>match eh c with
  | some c=>bif Nat.beq id PB then none else some (.block id c)
  | none=>none
 | .loop c=>match eh c with
  | some c=>some (.loop c)
  | none=>none
 | .exit id=>bif Nat.beq id PB then none else some (.exit id)
 | .ret=>some (.exit PB)
 | _=>some gI
end
section
variable {tb:FuncId->Bool} {call:FuncId->List ab->aa->Option (ab×aa)} {k:Nat}
theorem gT(n:Nat):∀(its:List vN) (acc:List an) (T:Tr ab) (H:aa),aO tb call k (gH n its acc) T H=match bA tb call acc.reverse T H with
  | some (T1,H1)=>aO tb call k (gH n its []) T1 H1
  | none=>none
 | [],acc,T,H=>by
  simp only[gH,aO,List.reverse_nil,bA] <;> (cases bA tb call acc.reverse T H <;> rfl)
 | .ord o::r,acc,T,H=>by
  simp only[gH]
  rw[gT n r (o::acc),List.reverse_cons,fZ]
  cases bA tb call acc.reverse T H with
  | none=>rfl
  | some p=>
   obtain⟨T1,H1⟩:=p
   simp only
   rw[gT n r [o] T1 H1]
   rfl
 | .dfr x::r,acc,T,H=>by
  simp only[gH]
  rw[gT n r (_::acc),List.reverse_cons,fZ]
  cases bA tb call acc.reverse T H with
  | none=>rfl
  | some p=>
   obtain⟨T1,H1⟩:=p
   simp only
   rw[gT n r [_] T1 H1]
   rfl
 | .pnc x::r,acc,T,H=>by
  simp only[gH,aO,fZ,List.reverse_nil,List.nil_append]
  cases bA tb call acc.reverse T H with
  | none=>rfl
  | some p=>rfl
 | .tc f l d g::r,acc,T,H=>by
  simp only[gH,aO,fZ,List.reverse_nil,List.nil_append]
  cases bA tb call acc.reverse T H with
  | none=>rfl
  | some p=>rfl
end
section
variable {P:Program} {Prot:Gh} {w0:World} {ρ:Pl} {H H':aa} {w:World}
def PC(ρ:Pl)(x:ab)(ds:List Deferred):Prop:=(x=aX/\ds=[]) ∨
 ∃f a b d cap,x=.func (.func f) a b/\ds=[d]/\d.target=.fn (.func f) cap/\ap ρ b cap.toList/\ap ρ a d.args.toList
theorem PC.mono{ρ ρ':Pl}(h:ρ.le ρ'){x:ab}{ds:List Deferred}(d:PC ρ x ds):PC ρ' x ds:=by
 rcases d with d | ⟨f,a,b,d,cap,h1,h2,h3,h4,h5⟩
 ·exact .inl d
 ·exact .inr ⟨f,a,b,d,cap,h1,h2,h3,ap.mono h _ _ h4,ap.mono h _ _ h5⟩
structure GT(ρ:Pl)(n:Nat)(T:Tr ab)(a:Act):Prop where
 t:∃U,GE n T U/\bx ρ n U a.tmps
 d:PC ρ (ev T (.t (n+1))) a.defers
theorem GT.mono{ρ ρ':Pl}(h:ρ.le ρ'){n:Nat}{T:Tr ab}{a:Act}(g:GT ρ n T a):GT ρ' n T a:=
 ⟨let ⟨U,h1,h2⟩:=g.t; ⟨U,h1,h2.mono h⟩,g.d.mono h⟩
theorem GT.ghost{n:Nat}{T:Tr ab}{a:Act}(g:GT ρ n T a){d:Nat}(hd:n<=d)(hne:d≠n+1)(v:ab):GT ρ n (T.set d v) a:=
 ⟨let ⟨U,h1,h2⟩:=g.t; ⟨U,h1.ghost hd v,h2⟩,by rw[aY,if_neg (fun e=>hne e.symm)]; exact g.d⟩
def rq(ρ:Pl)(n:Nat)(T:Tr ab)(a:Act):Prop:=GT ρ n T a/\ev T (.t n)=aX
def MI(ρ:Pl)(n:Nat)(T:Tr ab)(a:Act)(u:Value):Prop:=∃x,ev T (.t n)=lI x/\ak ρ x u/\((a.defers=[]/\ev T (.t (n+1))=aX)∨GT ρ n T a)
def EU(Prot:Gh)(w0:World)(ρ:Pl)(n:Nat)(e:tV)(T:Tr ab)(H:aa):Exit->Act->World->Prop:=fun e' a w=>
 ∃ρ',ρ.le ρ'/\cg Prot w0 ρ' H w/\match e with
  | .normal=>e'=.normal/\rq ρ' n T a
  | .exit id=>(id≠PB/\e'=.exit id/\rq ρ' n T a)∨(id=PB/\((e'=.ret/\rq ρ' n T a)∨∃u,e'=.panic [{ v:=u,recovered:=false }]/\MI ρ' n T a u))
  | .ret=>False
theorem EU.weaken{ρ ρ':Pl}{n:Nat}{e:tV}{T:Tr ab}{H:aa}(h:ρ.le ρ'){e':Exit}{a:Act}{w:World}(q:EU Prot w0 ρ' n e T H e' a w):EU Prot w0 ρ n e T H e' a w:=by
 obtain⟨ρ2,h2,h3⟩:=q
 exact⟨ρ2,Pl.le_trans h h2,h3⟩
theorem Fm{x:ab}(h:ak ρ x undef):x=aX:=by
 unfold undef at h
 cases x with
 | tuple l=>
  simp only[ak]at h
  obtain⟨vs,e,hv⟩:=h
  simp only[Value.tuple.injEq]at e
  subst e
  cases l with
  | nil=>rfl
  | cons y l=>simp[ap]at hv
 | ptr a=>cases a <;> simp[ak]at h
 | slice a m r => cases a <;> simp only [ak] at h
                  · simp at h
                  · obtain ⟨_, _, _, _, _, h3, _⟩ := cV (by simpa only [ak] using h); simp at h3
 | map a=>cases a <;> simp[ak]at h
 | val v=>simp only[ak]at h; rw[<- h.1]at h; simp[MS,Value.oneCell']at h
 | _=>simp[ak]at h
theorem GY{x:ab}{v:Value}(h:ak ρ x v):gp x=false:=by
 cases hb:gp x with
 | false=>rfl
 | true=>obtain⟨y,e⟩:=nR hb; exact (AA h e).elim
end
end Go.Abs
namespace Go.Abs
section
variable {P:Program} {Prot:Gh} {w0:World} {ρ:Pl} {H H':aa} {w:World}
theorem Gc{f:Nat}{args:Array Operand}{ats:Array TypeId}{o:Oper}(hoe:o.op=.call ⟨.value (.func f),args,ats⟩)(hb:bX P f=true)(a:Act):(execOp a.eval o).run P w=.ok (.enter f (args.map a.eval)) w:=by
 have:=fY (P:=P) (w:=w) hb (args.map a.eval)
 obtain⟨dst,op,type,pos,after,guard⟩:=o
 simp only at hoe
 subst hoe
 simp[execOp,resolve,Act.eval,Deferred.ofValue,invoke,this]
theorem uK{ps:List Nat}{o:Op}{f:Nat}{l:List Operand}(h:sI ps o=some (f,l)):∃args ats,o=.call ⟨.value (.func f),args,ats⟩/\l=args.toList:=by
 unfold sI at h
 split at h
 ·rename_i c
  split at h
  ·rename_i g hg
   obtain⟨cal,args,ats⟩:=c
   simp only at hg
   subst hg
   cases hp:ps.any (Nat.beq g) with
   | false=>rw[hp]at h; simp at h
   | true=>
    rw[hp]at h
    simp only[cond_true,sJ,pJ]at h
    obtain⟨rfl,rfl⟩:=h
    exact⟨args,ats,rfl,rfl⟩
  ·simp at h
 ·simp at h
theorem Ax(a:Act)(d:Option Nat)(v:Value):(a.put d v).defers=a.defers:=by cases d <;> rfl
theorem GT.put{n:Nat}{T:Tr ab}{a:Act}(g:GT ρ n T a){d:Option Nat}(hd:dW n d=true){x:ab}{v:Value}(hv:ak ρ x v):GT ρ n (cQ T d x) (a.put d v):=by
 obtain⟨U,h1,h2⟩:=g.t
 refine⟨⟨cQ U d x,h1.put hd x,cu h2 hd hv⟩,?_⟩
 rw[Ax,mF.put hd x (n+1) om]
 exact g.d
theorem rq.put{n:Nat}{T:Tr ab}{a:Act}(g:rq ρ n T a){d:Option Nat}(hd:dW n d=true){x:ab}{v:Value}(hv:ak ρ x v):rq ρ n (cQ T d x) (a.put d v):=
 ⟨g.1.put hd hv,by rw[mF.put hd x n rL]; exact g.2⟩
theorem rq.mono{ρ ρ':Pl}(h:ρ.le ρ'){n:Nat}{T:Tr ab}{a:Act}(g:rq ρ n T a):rq ρ' n T a:=⟨g.1.mono h,g.2⟩
theorem rq.ghost{n:Nat}{T:Tr ab}{a:Act}(g:rq ρ n T a){d:Nat}(hd:n+2<=d)(v:ab):rq ρ n (T.set d v) a:=
 ⟨g.1.ghost om om v,by rw[aY,if_neg om]; exact g.2⟩
theorem cz{tb:FuncId->Bool}{call:FuncId->List ab->aa->Option (ab×aa)}(d:Option Nat)(op:jv)(T:Tr ab)(H:aa):bI tb call ⟨d,op,none⟩ T H=match ct tb T H op with
  | some (.val v,H')=>some (v,H')
  | some (.enter f args,H')=>call f args H'
  | none=>none:=rfl
theorem p8{tb:FuncId->Bool}{call:FuncId->List ab->aa->Option (ab×aa)}{o:an}{T T':Tr ab}{H H':aa}(h:bA tb call [o] T H=some (T',H')):∃v,bI tb call o T H=some (v,H')/\T'=cQ T o.dst v:=by
 rw[bM]at h
 cases hs:bI tb call o T H with
 | none=>rw[hs]at h; simp at h
 | some p=>
  obtain⟨v,H1⟩:=p
  rw[hs]at h
  simp only[bA,sJ,pJ]at h
  obtain⟨rfl,rfl⟩:=h
  exact⟨v,rfl,rfl⟩
theorem Ji{tb:FuncId->Bool}(htb:∀f,Nat.blt f cA=true->tb f=true->bX P f=true){call:FuncId->List ab->aa->Option (ab×aa)}(hcall:js P call){n:Nat}{ops:Array Oper}{o:Oper}{ao:an}
  (hco:eu P n ops o=some ao) (haT:dJ n ao=true) {ρ0:Pl} {T:Tr ab} {a:Act} (hle:ρ0.le ρ) (R:cg Prot w0 ρ H w) (hP:rq ρ n T a) {v:ab} {H1:aa} (hs:bI tb call ao T H=some (v,H1)) {rest:List Nat} {Q:Exit->Act->World->Prop} {i:Nat} (ho:ops[i]?=some o)
  (hnext:∀(ρ1:Pl) (a':Act) (w':World),ρ0.le ρ1->cg Prot w0 ρ1 H1 w'->rq ρ1 n (cQ T ao.dst v) a'->wpOps P ops Q rest a' w'):wpOps P ops Q (i::rest) a w:=by
 obtain⟨U,hG,ht⟩:=hP.1.t
 rw[zF hG haT]at hs
 unfold eu at hco
 split at hco
 ·rename_i ax g hop hg
  cases hdst:dW n o.dst with
  | false=>rw[hdst]at hco; simp at hco
  | true=>
   rw[hdst]at hco
   simp only[cond_true,sJ]at hco
   subst hco
   simp only[wpOps,ho]
   simp only[bI]at hs
   rw[gq ht hg]
   cases hgo:im U g with
   | false=>
    rw[hgo]at hs
    simp only[cond_false,sJ,pJ]at hs
    obtain⟨rfl,rfl⟩:=hs
    simp only[Q1,if_false]
    exact hnext ρ _ w hle R (hP.put hdst ez)
   | true=>
    rw[hgo]at hs
    simp only[cond_true]at hs
    simp only[if_true]
    left
    split at hs
    ·rename_i v' H2 hv
     simp only[sJ,pJ]at hs
     obtain⟨rfl,rfl⟩:=hs
     obtain⟨ρ1,w1,nx,q1,q2,q3,q4⟩:=jN htb R ht o hop hv
     simp only[Oper.wp,q2]
     cases nx <;> simp only[kw]at q4
     case value u=>exact hnext ρ1 _ w1 (Pl.le_trans hle q1) q3 ((hP.mono q1).put hdst q4)
     case skip=>exact hnext ρ1 _ w1 (Pl.le_trans hle q1) q3 ((hP.mono q1).put hdst q4)
    ·rename_i f args H2 hv
     obtain⟨ρ1,w1,nx,q1,q2,q3,q4⟩:=jN htb R ht o hop hv
     simp only[Oper.wp,q2]
     cases nx <;> simp only[kw]at q4
     case enter g vs=>
      obtain⟨rfl,hbig,q5⟩:=q4
      simp only[Oper.upon]
      refine (hcall _ _ _ _ _ hbig hs Prot w0 ρ1 w1 vs q3 q5).mono fun e w' hr=>?_
      obtain⟨ρ2,u,r1,rfl,r3,r4⟩:=hr
      exact hnext ρ2 _ w' (Pl.le_trans hle (Pl.le_trans q1 r1)) r3 ((hP.mono (Pl.le_trans q1 r1)).put hdst r4)
    ·simp at hs
 ·simp at hco
theorem El{tb:FuncId->Bool}(htb:∀f,Nat.blt f cA=true->tb f=true->bX P f=true)(htbP:∀f,Nat.blt f cA=true->tb (cA+f)=true->bX P f=true){call:FuncId->List ab->aa->Option (ab×aa)}(hcall:js P call)(hcallP:zX P call)
  {n k:Nat} {ps:List Nat} {ops:Array Oper}:∀(rest:List Oper) (i:Nat) (its:List vN),(∀j,rest[j]?=ops[i+j]?)->tq P n ps ops rest=some its->∀(ρ0 ρ:Pl) (T T':Tr ab) (H H':aa) (e:tV) (a:Act) (w:World),ρ0.le ρ ->
   cg Prot w0 ρ H w->rq ρ n T a->aO tb call k (gH n its []) T H=some (e,T',H')->wpOps P ops (EU Prot w0 ρ0 n e T' H') (List.range' i rest.length) a w:=by
 intro rest
 induction rest with
 | nil=>
  intro i its _ hc ρ0 ρ T T' H H' e a w hle R hP h
  simp only[tq,sJ]at hc
  subst hc
  simp only[gH,aO,List.reverse_nil,bA,sJ,pJ]at h
  obtain⟨rfl,rfl,rfl⟩:=h
  exact⟨ρ,hle,R,rfl,hP⟩
 | cons o rest ih=>
  intro i its hi hc ρ0 ρ T T' H H' e a w hle R hP h
  simp only[tq]at hc
  split at hc
  ·rename_i it l' ha hl
   simp only[sJ]at hc
   subst hc
   have ho:ops[i]?=some o:=by have:=hi 0; simpa using this.symm
   have hnx:∀j,rest[j]?=ops[i+1+j]?:=fun j=>by have:=hi (j+1); simp only[Q0]at this; rw[this]; congr 1; omega
   rw[QU,List.range'_succ]
   unfold Lc at ha
   split at ha
   ·-- a panic
    rename_i x hox
    split at ha
    ·rename_i y hg hy
     cases hT:dm n y with
     | false=>rw[hT]at ha; simp at ha
     | true=>
      rw[hT]at ha
      simp only[cond_true,sJ]at ha
      subst ha
      simp only[gH,aO,List.reverse_nil,List.nil_append]at h
      split at h
      ·rename_i T1 H1 h1
       split at h1
       ·rename_i T2 H2 h2
        simp only[sJ,pJ]at h1
        obtain⟨_,rfl,rfl⟩:=h1
        simp only[sJ,pJ]at h
        obtain⟨rfl,rfl,rfl⟩:=h
        obtain⟨v,hs,rfl⟩:=p8 h2
        obtain⟨U,hG,ht⟩:=hP.1.t
        rw[cz]at hs
        simp only[ct,gA,jt,vv]at hs
        have hx:=aH ht hy
        rw[<- hG.x hT]at hx
        generalize ev T y=q at hs hx
        unfold Pj at hs
        split at hs
        ·rename_i v' H3 hv
         split at hv
         ·rename_i v2 hv2
          split at hv2
          ·rename_i t z heq
           simp only[List.cons.injEq,and_true]at heq
           subst heq
           simp only[sJ]at hv2
           subst hv2
           simp only[sJ,pJ,Nx.val.injEq]at hv hs
           obtain⟨rfl,rfl⟩:=hv
           obtain⟨rfl,rfl⟩:=hs
           simp only[wpOps,ho]
           have hw:Region.wanted o (yielded ops a.tmps)=true:=by simp[Region.wanted,hg]
           rw[if_pos hw]
           left
           have hx':=hx
           simp only[ak]at hx'
           obtain⟨yv,e1,e2⟩:=hx'
           have hrun:(execOp a.eval o).run P w=.halt (.panic (.iface t yv)) w:=by
            obtain⟨dst,op,type,pos,after,guard⟩:=o
            simp only at hox
            subst hox
            show (do pure (Next.value (<- Instr.panic (a.eval x))):Sem Next).run P w=_
            rw[e1]
            rfl
           simp only[Oper.wp,hrun,Oper.upon]
           refine⟨ρ,hle,R,.inr ⟨rfl,.inr ⟨_,rfl,.iface t z,?_,?_,.inr ?_⟩⟩⟩
           ·simp only[cQ,aY,if_true]
           ·rw[<- e1]; exact hx
           ·exact hP.1.ghost rL om _
          ·simp at hv2
         ·simp at hv
        ·rename_i f args H3 hv
         split at hv <;> simp at hv
        ·simp at hs
       ·simp at h1
      ·rename_i e1 T1 H1 hne h1
       split at h1
       ·simp only[sJ,pJ]at h1
        exact (hne h1.1.symm).elim
       ·simp at h1
      ·simp at h
    ·simp at ha
   ·-- a call laid mz
    rename_i c hox
    split at ha
    ·rename_i x hg hd hcal
     split at ha
     ·rename_i y hargs hy
      cases hT:dm n y with
      | false=>rw[hT]at ha; simp at ha
      | true=>
       rw[hT]at ha
       simp only[cond_true,sJ]at ha
       subst ha
       simp only[gH]at h
       rw[gT]at h
       split at h
       ·rename_i T1 H1 h1
        simp only[List.reverse_cons,List.reverse_nil,List.nil_append]at h1
        obtain⟨v,hs,rfl⟩:=p8 h1
        obtain⟨U,hG,ht⟩:=hP.1.t
        rw[cz]at hs
        simp only[ct,gA,jt,vv]at hs
        have hx:=aH ht hy
        rw[<- hG.x hT]at hx
        have hdf:=hP.1.d
        generalize ev T (.t (n+1))=z at hs hdf
        generalize ev T y=q at hs hx
        unfold Ln at hs
        split at hs
        ·rename_i v' H3 hv
         split at hv
         ·rename_i v2 hv2
          split at hv2
          ·rename_i f fa fb heq
           simp only[List.cons.injEq,and_true]at heq
           obtain⟨rfl,rfl⟩:=heq
           simp only[sJ]at hv2
           subst hv2
           simp only[sJ,pJ,Nx.val.injEq]at hv hs
           obtain⟨rfl,rfl⟩:=hv
           obtain⟨rfl,rfl⟩:=hs
           have hds:a.defers=[]:=by
            rcases hdf with⟨_,h9⟩ | ⟨f',a',b',d',cap',h9,_⟩
            ·exact h9
            ·simp at h9
           simp only[wpOps,ho]
           have hw:Region.wanted o (yielded ops a.tmps)=true:=by simp[Region.wanted,hg]
           rw[if_pos hw]
           left
           simp only[ak]at hx
           obtain⟨fv,cv,hfv,hv1,hv2⟩:=hx
           have hrun:(execOp a.eval o).run P w=.ok (.defer { target:=.fn (.func f) cv,args:=fv }) w:=by
            obtain⟨dst,op,type,pos,after,guard⟩:=o
            obtain⟨cal,args,ats⟩:=c
            simp only at hox hcal hargs hd
            subst hox hcal hd
            have:args=#[]:=by simpa using hargs
            subst this
            simp[execOp,resolve,hfv,Deferred.ofValue]
           simp only[Oper.wp,hrun,Oper.upon,hd]
           refine ih (i+1) l' hnx hl ρ0 ρ _ _ _ _ _ _ _ hle R ⟨⟨⟨U,hG.ghost om _,ht⟩,?_⟩,?_⟩ h
           ·simp only[cQ,aY,if_true,Act.put,hds]
            exact .inr ⟨f,fa,fb,_,cv,rfl,rfl,rfl,hv2,hv1⟩
           ·simp only[cQ,aY]
            rw[if_neg om]
            exact hP.2
          ·simp at hv2
         ·simp at hv
        ·rename_i f args H3 hv
         split at hv <;> simp at hv
        ·simp at hs
       ·simp at h
     ·simp at ha
    ·simp at ha
   ·-- a call that may panic,or whatever is ordinary
    split at ha
    ·rename_i f lo hraw
     obtain⟨args,ats,hoe,rfl⟩:=uK hraw
     split at ha
     ·rename_i lx g hlx hgc
      cases hcnd:Nat.blt f cA&&(lJ n lx&&(JK n g&&dW n o.dst)) with
      | false=>rw[hcnd]at ha; simp at ha
      | true=>
       rw[hcnd]at ha
       simp only[cond_true,sJ]at ha
       subst ha
       simp only[QT]at hcnd
       obtain⟨hbig,hlT,hgT,hdst⟩:=hcnd
       obtain⟨U,hG,ht⟩:=hP.1.t
       have key:∃(v:ab) (H1:aa),bI tb call ⟨some (n+3),.call (cA+f) lx,g⟩ T H=some (v,H1) /\
         ((gp v = true /\ e = .exit PB /\ T' = (((T.set (n + 3) v).set (n + 2) (.bool true)).set n v) /\ H' = H1) ∨
          (gp v = false /\ aO tb call k (gH n l' []) (cQ ((T.set (n + 3) v).set (n + 2) (.bool false)) o.dst v) H1 = some (e, T', H'))) := by
        simp only[gH,aO,List.reverse_nil,List.nil_append]at h
        rw[bM]at h
        cases hs:bI tb call ⟨some (n+3),.call (cA+f) lx,g⟩ T H with
        | none=>rw[hs]at h; simp at h
        | some p=>
         obtain⟨v,H1⟩:=p
         rw[hs]at h
         refine⟨v,H1,rfl,?_⟩
         simp only[cQ]at h
         rw[bM,cz]at h
         have e3:ev (T.set (n+3) v) (.t (n+3))=v:=by rw[aY,if_pos rfl]
         simp only[ct,gA,jt,vv,Mz,e3,bA,cQ]at h
         have e2:ev ((T.set (n+3) v).set (n+2) (.bool (gp v))) (.t (n+2))=.bool (gp v):=by rw[aY,if_pos rfl]
         have e33:ev ((T.set (n+3) v).set (n+2) (.bool (gp v))) (.t (n+3))=v:=by rw[aY,if_neg om,aY,if_pos rfl]
         rw[e2]at h
         cases hp:gp v with
         | true=>
          rw[hp]at h e33
          simp only[im,cond_true,e33,sJ,pJ]at h
          obtain⟨rfl,rfl,rfl⟩:=h
          exact .inl ⟨rfl,rfl,rfl,rfl⟩
         | false=>
          rw[hp]at h e33
          simp only at h
          rw[gT]at h
          simp only[List.reverse_cons,List.reverse_nil,List.nil_append]at h
          rw[bM,cz]at h
          simp only[ct,e33,bA]at h
          exact .inr ⟨rfl,h⟩
       obtain⟨v,H1,hs,hk⟩:=key
       simp only[wpOps,ho]
       rw[gq ht hgc]
       simp only[bI,AY hG hgT]at hs
       have hgg:∀(ρ':Pl),ρ.le ρ'->∀b,rq ρ' n ((T.set (n+3) v).set (n+2) b) a:=fun ρ' hl b=>((hP.mono hl).ghost om v).ghost rL b
       cases hgo:im U g with
       | false=>
        rw[hgo]at hs
        simp only[cond_false,sJ,pJ]at hs
        obtain⟨rfl,rfl⟩:=hs
        simp only[Q1,if_false]
        rcases hk with⟨hp,_⟩ | ⟨_,hk⟩
        ·simp[gp,aX]at hp
        ·exact ih (i+1) l' hnx hl ρ0 ρ _ _ _ _ _ _ w hle R ((hgg ρ (Pl.le_refl _) _).put hdst ez) hk
       | true=>
        rw[hgo]at hs
        simp only[cond_true]at hs
        simp only[if_true]
        left
        simp only[ct]at hs
        cases hb:tb (cA+f) with
        | false=>rw[hb]at hs; simp at hs
        | true=>
         rw[hb]at hs
         simp only[cond_true]at hs
         rw[hG.xs hlT]at hs
         simp only[Oper.wp,Gc hoe (htbP f hbig hb) a,Oper.upon]
         refine (hcallP f _ _ _ _ hbig hs Prot w0 ρ w (args.map a.eval) R (by simpa using gY ht hlx)).mono fun e' w' hr=>?_
         obtain⟨ρ2,r1,r3,⟨u,rfl,r4⟩ | ⟨x,u,rfl,rfl,r4⟩⟩:=hr
         ·rcases hk with⟨hp,_⟩ | ⟨_,hk⟩
          ·rw[GY r4]at hp; simp at hp
          ·exact ih (i+1) l' hnx hl ρ0 ρ2 _ _ _ _ _ _ w' (Pl.le_trans hle r1) r3 ((hgg ρ2 r1 _).put hdst r4) hk
         ·rcases hk with⟨_,rfl,rfl,rfl⟩ | ⟨hp,_⟩
          ·refine⟨ρ2,Pl.le_trans hle r1,r3,.inr ⟨rfl,.inr ⟨u,rfl,x,by rw[aY,if_pos rfl],r4,.inr ?_⟩⟩⟩
           exact (hgg ρ2 r1 _).1.ghost rL om _
          ·simp[gp,lI]at hp
     ·simp at ha
    ·unfold Oz at ha
     split at ha
     ·rename_i ao hco
      cases haT:dJ n ao with
      | false=>rw[haT]at ha; simp at ha
      | true=>
       rw[haT]at ha
       simp only[cond_true,sJ]at ha
       subst ha
       simp only[gH]at h
       rw[gT]at h
       split at h
       ·rename_i T1 H1 h1
        simp only[List.reverse_cons,List.reverse_nil,List.nil_append]at h1
        obtain⟨v,hs,rfl⟩:=p8 h1
        exact Ji htb hcall hco haT hle R hP hs ho fun ρ1 a' w' q1 q2 q3=>ih (i+1) l' hnx hl ρ0 ρ1 _ _ _ _ _ a' w' q1 q2 q3 h
       ·simp at h
     ·simp at ha
  ·simp at hc
end
end Go.Abs
namespace Go.Abs
section
variable {P:Program} {n:Nat} {ps:List Nat} {ops:Array Oper}
def QM(P:Program)(n:Nat)(ops:Array Oper)(c d:Nat)(j:Nat)(o:Oper)(a:an):Prop:=
 (j=c/\Du P n ops o a)∨(j≠c/\jR (br [] (ops.toList.map bi)) j c=false/\eu P n ops o=some a)∨(j≠c/\jR (br [] (ops.toList.map bi)) j c=true/\∃a',eu P n ops o=some a'/\a'.guard=none/\et a'.op=none/\a=⟨a'.dst,a'.op,some (SK+d,false)⟩)
theorem EC{c d j:Nat}{o:Oper}{a:an}(h:Ma P n ps ops (br [] (ops.toList.map bi)) c d j o=some a):QM P n ops c d j o a/\a.dst=o.dst:=by
 have hdst:∀{a},eu P n ops o=some a->a.dst=o.dst:=by
  intro a h
  unfold eu at h
  split at h
  ·cases hd:dW n o.dst with
   | false=>rw[hd]at h; simp at h
   | true=>rw[hd]at h; simp only[cond_true,sJ]at h; subst h; rfl
  ·simp at h
 unfold Ma at h
 cases hb:Nat.beq j c with
 | true=>
  rw[hb]at h
  simp only[cond_true,Oy]at h
  split at h
  ·rename_i f lo hraw
   obtain⟨args,ats,hoe,rfl⟩:=uK hraw
   split at h
   ·rename_i lx g hlx hg
    cases hc:Nat.blt f cA&&dW n o.dst with
    | false=>rw[hc]at h; simp at h
    | true=>
     rw[hc]at h
     simp only[cond_true,sJ]at h
     subst h
     simp only[QT]at hc
     exact⟨.inl ⟨QX hb,f,args,ats,lx,g,hoe,hlx,hg,hc.2,hc.1,rfl⟩,rfl⟩
   ·simp at h
  ·simp at h
 | false=>
  have hne:j≠c:=fun e=>by subst e; rw[Nat.beq_refl]at hb; simp at hb
  rw[hb]at h
  simp only[cond_false]at h
  split at h
  ·rename_i a' ha'
   cases hbt:jR (br [] (ops.toList.map bi)) j c with
   | false=>rw[hbt]at h; simp only[cond_false,sJ]at h; subst h; exact⟨.inr (.inl ⟨hne,hbt,ha'⟩),hdst ha'⟩
   | true=>
    rw[hbt]at h
    simp only[cond_true,Oo]at h
    split at h
    ·rename_i hg hnw
     simp only[sJ]at h
     subst h
     exact⟨.inr (.inr ⟨hne,hbt,a',ha',hg,hnw,rfl⟩),(hdst ha':a'.dst=o.dst)⟩
    ·simp at h
  ·simp at h
theorem Bt{c d:Nat}:∀{rest:List Oper} {l:List an} {j:Nat},yW P n ps ops (br [] (ops.toList.map bi)) c d j rest=some l->l.length=rest.length/\∀k o,rest[k]?=some o->∃a,l[k]?=some a/\QM P n ops c d (j+k) o a/\a.dst=o.dst:=by
 intro rest
 induction rest with
 | nil=>intro l j h; simp only[yW,sJ]at h; subst h; exact⟨rfl,fun k o h=>by simp at h⟩
 | cons o r ih=>
  intro l j h
  simp only[yW]at h
  split at h
  ·rename_i a l' ha hl
   simp only[sJ]at h
   subst h
   obtain⟨q1,q2⟩:=ih hl
   refine⟨by simp[q1],fun k o' hk=>?_⟩
   cases k with
   | zero=>
    simp only[QZ,sJ]at hk
    subst hk
    exact⟨a,rfl,by rw[Nat.add_zero]; exact EC ha⟩
   | succ k=>
    simp only[Q0]at hk ⊢
    obtain⟨a',z1,z2⟩:=q2 k o' hk
    exact⟨a',z1,by rw[show j+(k+1)=j+1+k by omega]; exact z2⟩
  ·simp at h
theorem AB{c d:Nat}:∀{l:List an} {k:Nat},yd c d k l=true->∀i b,l[i]?=some b->b.dst=some d->k+i=c:=by
 intro l
 induction l with
 | nil=>intro k _ i b h; simp at h
 | cons a r ih=>
  intro k h i b hb hd
  simp only[yd,QT,Bool.or_eq_true,Bool.not_eq_true',beq_eq_false_iff_ne,ne_eq]at h
  cases i with
  | zero=>
   simp only[QZ,sJ]at hb
   subst hb
   rcases h.1 with h1 | h1
   ·exact QX h1
   ·exact absurd hd h1
  | succ i=>
   simp only[Q0]at hb
   have:=ih h.2 i b hb hd
   omega
theorem Aw{c d:Nat}:∀{rest:List Oper} {j:Nat},xW ps j rest=some (c,d)->∃k o,c=j+k/\rest[k]?=some o/\o.dst=some d:=by
 intro rest
 induction rest with
 | nil=>intro j h; simp[xW]at h
 | cons o r ih=>
  intro j h
  simp only[xW]at h
  split at h
  ·rename_i d' _ hd
   simp only[sJ,pJ]at h
   obtain⟨rfl,rfl⟩:=h
   exact⟨0,o,rfl,rfl,hd⟩
  ·obtain⟨k,o',h1,h2,h3⟩:=ih h
   exact⟨k+1,o',om,by simpa using h2,h3⟩
theorem jn{rest:List Oper}{l:List an}{st:Option (Nat×Nat)}(h:CP P n ps ops rest=some (l,st)):(st=none/\dd P n ops rest=some l) ∨
  ∃c d ac,st=some (c,d)/\l.length=rest.length/\(∀k o,rest[k]?=some o->∃a,l[k]?=some a/\QM P n ops c d k o a)/\l[c]?=some ac/\ac.dst=some d/\(∀i b,l[i]?=some b->b.dst=some d->i=c):=by
 have hp:tn P n ops rest=some (l,st)->st=none/\dd P n ops rest=some l:=by
  intro h
  unfold tn at h
  split at h
  ·rename_i l' hl
   simp only[sJ,pJ]at h
   obtain⟨rfl,rfl⟩:=h
   exact⟨rfl,hl⟩
  ·simp at h
 unfold CP at h
 split at h
 ·rename_i c d hr
  split at h
  ·rename_i l' hl
   cases hw:yd c d 0 l' with
   | false=>rw[hw]at h; exact .inl (hp h)
   | true=>
    rw[hw]at h
    simp only[cond_true,sJ,pJ]at h
    obtain⟨rfl,rfl⟩:=h
    obtain⟨q1,q2⟩:=Bt hl
    obtain⟨k,o,hc,ho,hd⟩:=Aw hr
    rw[Nat.zero_add]at hc
    subst hc
    obtain⟨ac,z1,_,z2⟩:=q2 c o ho
    exact .inr ⟨c,d,ac,rfl,q1,fun k o hk=>by have:=q2 k o hk; rw[Nat.zero_add]at this; obtain⟨a,y1,y2,_⟩:=this; exact⟨a,y1,y2⟩,z1,by rw[z2]; exact hd,fun i b hb hbd=>by have:=AB hw i b hb hbd; omega⟩
  ·exact .inl (hp h)
 ·exact .inl (hp h)
theorem kL:∀(m:List an) (b:Nat),(aF b m).length=m.length
 | [],_=>rfl
 | o::r,b=>by simp only[aF]; cases et o.op <;> simp[kL r]
theorem fQ:∀(l:List an) (b k:Nat) (a:an),l[k]?=some a->∃c,b<=c/\(aF b l)[k]?=(aF c [a])[0]?
 | [],_,_,_,h=>by simp at h
 | o::r,b,0,a,h=>by
  simp only[QZ,sJ]at h
  subst h
  refine⟨b,Nat.le_refl _,?_⟩
  simp only[aF]
  cases et o.op with
  | none=>rfl
  | some p=>rfl
 | o::r,b,k+1,a,h=>by
  simp only[Q0]at h
  simp only[aF]
  cases et o.op with
  | none=>simp only[Q0]; exact fQ r b k a h
  | some p=>
   obtain⟨c,h1,h2⟩:=fQ r (b+1) k a h
   exact⟨c,om,by simp only[Q0]; exact h2⟩
theorem AE{l:List an}{ms:List Nat}(hp:eE l ms=true){i j:Nat}{a b:an}(hij:i<j)(hi:l[i]?=some a)(hj:l[j]?=some b):gM ms i j a b=true:=by
 unfold eE at hp
 rw[List.all_eq_true]at hp
 have h1:=hp j (List.mem_range.2 (QR.1 hj).1)
 rw[hj]at h1
 simp only at h1
 rw[List.all_eq_true]at h1
 have h2:=h1 i (List.mem_range.2 hij)
 rw[hi]at h2
 exact h2
theorem nU{l:List an}{b k:Nat}{a:an}(h:(aF b l)[k]?=some a):∃a',l[k]?=some a'/\a'.dst=a.dst:=by
 have hkl:k<l.length:=by have:=(QR.1 h).1; rwa [kL]at this
 obtain⟨b4,_,hg4⟩:=fQ l b k _ (QQ hkl)
 refine⟨_,QQ hkl,?_⟩
 rw[h]at hg4
 simp only[aF]at hg4
 cases hz:et (l[k]).op with
 | none=>rw[hz]at hg4; simp only[QZ,sJ]at hg4; rw[hg4]
 | some p=>rw[hz]at hg4; simp only[QZ,sJ]at hg4; rw[hg4]
theorem kJ{a:an}(h:et a.op=none)(b:Nat):aF b [a]=[a]:=by simp[aF,h]
theorem AW{tb:FuncId->Bool}{call:FuncId->List ab->aa->Option (ab×aa)}{m:List an}{U:Tr ab}{K:aa}{ss:List (ab×aa)}(htr:cP tb call m U K=some ss){c:Nat}{H1:aa}{v:ab}(hs:ss[c]?=some (v,H1))
  (h:∀k b,c<k->m[k]?=some b->aI b.op=false∨im (bF (fun i=>Nat.blt i (0+k)) 0 m ss U) b.guard=false):eF K ss m.length=H1:=by
 obtain⟨hl,hat⟩:=hZ m U K ss 0 htr
 have hc:c<ss.length:=(QR.1 hs).1
 have key:∀e,c+1+e<=m.length->eF K ss (c+1+e)=H1:=by
  intro e
  induction e with
  | zero=>intro _; simp only[Nat.add_zero,eF,hs]
  | succ e ih=>
   intro he
   have h0:=ih om
   have hb:m[c+1+e]?=some (m[c+1+e]'om):=QQ om
   rcases h _ _ om hb with h1 | h1
   ·have:=di htr 1 (c+1+e) om fun q o q1 q2 q3=>by
     have:q=c+1+e:=om
     subst this
     rw[hb,sJ]at q3
     subst q3
     exact h1
    rw[<- Nat.add_assoc,this,h0]
   ·obtain⟨v',H',z1,z2⟩:=hat _ _ hb
    simp only[bI,h1,cond_false,sJ,pJ]at z2
    rw[<- Nat.add_assoc]
    simp only[eF,z1]
    rw[<- z2.2,h0]
 have:=key (m.length-(c+1)) om
 rwa [show c+1+(m.length-(c+1))=m.length by omega]at this
end
section
variable {P:Program} {Prot:Gh} {w0:World} {ρ:Pl} {H H':aa} {w:World}
theorem vp(hfol:P.follows .mixedOrders=true){tb:FuncId->Bool}(htb:∀f,Nat.blt f cA=true->tb f=true->bX P f=true)(htbP:∀f,Nat.blt f cA=true->tb (cA+f)=true->bX P f=true)
  {call:FuncId->List ab->aa->Option (ab×aa)} (hcall:js P call) (hcallP:zX P call) {n id:Nat} {ps:List Nat} {ops:Array Oper} {l:List an} {st:Option (Nat×Nat)}
  (hl:CP P n ps ops ops.toList=some (l,st)) (hok:gN (ops.toList.map bi) (br [] (ops.toList.map bi))=true) (hokp:eE (aF 0 l) (br [] (ops.toList.map bi))=true) (hlT:l.all (dJ n)=true)
  {T T1:Tr ab} {H1:aa} {e:tV} {a:Act} (R:cg Prot w0 ρ H w) (hP:rq ρ n T a)
  (h:mB tb call (aF H.next l) ((List.range l.length).map (eG (aF 0 l) (br [] (ops.toList.map bi)))) T (bY H l)=some (e,T1,H1)) :
  e=.normal/\(Code.region id ops true).wp P (fun e' a' w'=>∃ρ',ρ.le ρ'/\cg Prot w0 ρ' H1 w' /\
   ((e'=.normal/\rq ρ' n T1 a')∨∃c d' x u,st=some (c,d')/\e'=.panic [{ v:=u,recovered:=false }]/\ev T1 (.t d')=lI x/\ak ρ' x u/\a'.defers=a.defers/\ev T1 (.t (n+1))=ev T (.t (n+1)))) a w:=by
 obtain⟨U,hG,ht⟩:=hP.1.t
 obtain⟨he,U1,hU,hG1,hS⟩:=Is hG (tg l H.next hlT) h
 refine⟨he,?_⟩
 have hPn:∀(ρ':Pl) (a':Act),ρ.le ρ'->bx ρ' n U1 a'.tmps->a'.defers=a.defers->rq ρ' n T1 a':=fun ρ' a' hle ht' hd'=>
  ⟨⟨⟨U1,hG1,ht'⟩,by rw[hd',hS (n+1) om]; exact hP.1.d.mono hle⟩,by rw[hS n rL]; exact hP.2⟩
 have hlen0:(aF 0 l).length=l.length:=kL l 0
 have hlk:=jD l H.next 0
 have hok2:eE (aF H.next l) (br [] (ops.toList.map bi))=true:=by rw[oL hlk]; exact hokp
 have hbase:∀d,Prot.dead d->d<H.next:=fun d hd=>(R.dead d hd).1
 have hone:∀{o a},eu P n ops o=some a->dd P n ops [o]=some [a]:=fun ho=>by simp only[dd,ho]
 have hnc:iP l:=by
  rcases jn hl with⟨_,h2⟩ | ⟨c,d,ac,_,h2,h3,_⟩
  ·exact fE h2
  ·intro x hx c' z s hcl
   obtain⟨k,hk⟩:=List.getElem?_of_mem hx
   have hkl:=(QR.1 hk).1
   obtain⟨a,y1,y2⟩:=h3 k _ (QQ om)
   rw[hk,sJ]at y1
   subst y1
   rcases y2 with⟨_,f,args,ats,lx,g,_,_,_,_,_,rfl⟩ | ⟨_,_,y2⟩ | ⟨_,_,a',y2,_,_,rfl⟩
   ·simp at hcl
   ·exact fE (hone y2) x (by simp) c' z s hcl
   ·exact fE (hone y2) a' (by simp) c' z s hcl
 have hrp:∃rp:Nat->Prop,(∀c,rp c->∃d,st=some (c,d))/\(∀c d,st=some (c,d)->rp c):=⟨fun c=>∃d,st=some (c,d),fun c h=>h,fun c d h=>⟨d,h⟩⟩
 obtain⟨rp,hrp1,hrp2⟩:=hrp
 have hopers:(aF H.next l).length=ops.toList.length/\∀(j:Nat) (o:Oper),ops.toList[j]?=some o->∃a,(aF H.next l)[j]?=some a/\((¬rp j/\(eu P n ops o=some a∨(∃c,H.next<=c/\EX P n ops o a c)∨Pn P n ops (aF H.next l) (br [] (ops.toList.map bi)) rp o a j))∨(st≠none/\rp j/\Du P n ops o a)):=by
  rcases jn hl with⟨rfl,h2⟩ | ⟨c,d,ac,rfl,h2,h3,h4,h5,h6⟩
  ·obtain⟨q1,q2⟩:=mV h2 H.next
   exact⟨q1,fun j o hj=>let ⟨a,z1,z2⟩:=q2 j o hj; ⟨a,z1,.inl ⟨fun hr=>by obtain⟨d,hd⟩:=hrp1 j hr; simp at hd,z2.imp_right .inl⟩⟩⟩
  ·refine⟨by rw[kL]; exact h2,fun j o hj=>?_⟩
   obtain⟨a,y1,y2⟩:=h3 j o hj
   obtain⟨b,hb,hget⟩:=fQ l H.next j a y1
   have hnr:j≠c->¬rp j:=fun hne hr=>by obtain⟨d',hd⟩:=hrp1 j hr; simp only[sJ,pJ]at hd; exact hne hd.1.symm
   rcases y2 with⟨rfl,y2⟩ | ⟨hne,_,y2⟩ | ⟨hne,hbit,a',y2,y3,y4,rfl⟩
   ·have hz:et a.op=none:=by obtain⟨f,args,ats,lx,g,_,_,_,_,_,rfl⟩:=y2; rfl
    rw[kJ hz]at hget
    exact⟨a,by simpa using hget,.inr ⟨by simp,hrp2 _ _ rfl,y2⟩⟩
   ·obtain⟨_,q2⟩:=mV (hone y2) b
    obtain⟨a2,z1,z2⟩:=q2 0 o rfl
    refine⟨a2,by rw[hget,z1],.inl ⟨hnr hne,z2.imp_right fun ⟨c',w1,w2⟩=>.inl ⟨c',om,w2⟩⟩⟩
   ·rw[kJ (a:=⟨a'.dst,a'.op,some (SK+d,false)⟩) y4]at hget
    have hcz:∃ac2,(aF H.next l)[c]?=some ac2/\ac2.dst=some d/\ac2.dst=ac.dst:=by
     obtain⟨b2,_,hg2⟩:=fQ l H.next c ac h4
     simp only[aF]at hg2
     cases hz:et ac.op with
     | none=>rw[hz]at hg2; exact⟨ac,by simpa using hg2,h5,rfl⟩
     | some p=>rw[hz]at hg2; exact⟨⟨ac.dst,.claim b2 p.1 p.2,ac.guard⟩,by simpa using hg2,h5,rfl⟩
    obtain⟨ac2,w1,w2,_⟩:=hcz
    refine⟨_,by simpa using hget,.inl ⟨hnr hne,.inr (.inr ⟨a',c,d,ac2,y2,y3,rfl,hbit,hrp2 _ _ rfl,w1,w2,fun k b' hk hbd=>?_⟩)⟩⟩
    obtain⟨b3,w3,w4⟩:=nU hk
    exact h6 k b3 w3 (w4.trans hbd)
 have hraw:∀c d,st=some (c,d)->∃ac,(aF H.next l)[c]?=some ac/\ac.dst=some d/\aI ac.op=true/\d<n/\(∀k b,(aF H.next l)[k]?=some b->b.dst=some d->k=c)/\∀k b,c<k->(aF H.next l)[k]?=some b->aI b.op=true->b.guard=some (SK+d,false):=by
  intro c d hst
  rcases jn hl with⟨h0,_⟩ | ⟨c',d',ac,h1,h2,h3,h4,h5,h6⟩
  ·rw[hst]at h0; simp at h0
  ·rw[hst,sJ,pJ]at h1
   obtain⟨rfl,rfl⟩:=h1
   have hcl:=(QR.1 h4).1
   obtain⟨a,y1,y2⟩:=h3 c _ (QQ om)
   rw[h4,sJ]at y1
   subst y1
   rcases y2 with⟨_,f,args,ats,lx,g,_,_,_,q4,_,rfl⟩ | ⟨hne,_⟩ | ⟨hne,_⟩
   ·simp only at h5
    rw[h5]at q4
    obtain⟨b,_,hget⟩:=fQ l H.next c _ h4
    rw[kJ rfl]at hget
    have hc2:=hget
    simp only[QZ]at hc2
    refine⟨_,hc2,h5,rfl,eU q4,fun k b' hk hbd=>?_,fun k b' hck hk hch=>?_⟩
    ·obtain⟨b3,w3,w4⟩:=nU hk
     exact h6 k b3 w3 (w4.trans hbd)
    ·have hpr:=AE hok2 hck hc2 hk
     simp only[gM,Bool.or_eq_true,QT,Bool.not_eq_true']at hpr
     have hbit:jR (br [] (ops.toList.map bi)) k c=true:=by
      rcases hpr with hpr | ⟨hpr,_⟩
      ·exact hpr
      ·rw[hch]at hpr; simp[aI,jQ,dH]at hpr
     obtain⟨b3,w3,_⟩:=nU hk
     have hkl:=(QR.1 w3).1
     obtain⟨a2,z1,z2⟩:=h3 k _ (QQ om)
     rcases z2 with⟨rfl,_⟩ | ⟨_,hb0,_⟩ | ⟨_,_,a',_,_,x4,rfl⟩
     ·omega
     ·rw[hbit]at hb0; simp at hb0
     ·obtain⟨b5,_,hg5⟩:=fQ l H.next k _ z1
      rw[kJ (a:=⟨a'.dst,a'.op,some (SK+d,false)⟩) x4,hk]at hg5
      simp only[QZ,sJ]at hg5
      rw[hg5]
   ·exact (hne rfl).elim
   ·exact (hne rfl).elim
 have R':=iJ (pr:=Prot.prot) l Prot.dead H hnc R
 have hchk:(List.range l.length).map (eG (aF 0 l) (br [] (ops.toList.map bi)))=(List.range (aF H.next l).length).map (eG (aF H.next l) (br [] (ops.toList.map bi))):=by
  have:l.length=(aF H.next l).length:=by rw[<- hlen0]; exact (hlk.len).symm
  rw[this]
  exact List.map_congr_left fun j _=>(th hlk _ j).symm
 have hdis:=kM l H.next hnc
 rw[hchk]at hU h
 generalize hcl:aF H.next l=m at *
 generalize hrv:bY H l=K at *
 unfold mB at hU
 cases hss:cP tb call m U K with
 | none=>rw[hss]at hU; simp at hU
 | some ss=>
  rw[hss]at hU
  simp only at hU
  cases hr:fR tb (K::ss.map (·.2)) m ((List.range m.length).map (eG m (br [] (ops.toList.map bi)))) ss U with
  | false=>rw[hr]at hU; simp at hU
  | true=>
   rw[hr]at hU
   simp only[cond_true,sJ,pJ,true_and]at hU
   obtain⟨rfl,rfl⟩:=hU
   refine wp_region_any hfol ?_
   have hN:m.length=ops.size:=by simpa using hopers.1
   have hrep:∀i,(Array.replicate ops.size false).getD i false=false:=fun i=>by
    rw[Array.getD_eq_getD_getElem?,Array.getElem?_replicate]; split <;> rfl
   have hm0:(fun i=>(Array.replicate ops.size false).getD i false)=fun _=>false:=funext hrep
   have hst:aC (fun i=>(Array.replicate ops.size false).getD i false) 0 m=aC (fun _=>false) 0 m:=ie m 0 fun c o _ _=>by simp only[hrep]
   have hH:eF K ss (aC (fun _=>false) 0 m)=K:=by
    obtain⟨q1,q2,q3,q4⟩:=ed (fun _=>false) m 0
    have:=di hss (aC (fun _=>false) 0 m) 0 om fun c o _ hlt ho=>by
     cases hx:aI o.op with
     | false=>rfl
     | true=>have:=q3 c o ho hx om; simp at this
    rw[Nat.zero_add]at this
    rw[this]; rfl
   have htl:bx ρ n (bF (fun i=>(Array.replicate ops.size false).getD i false) 0 m ss U) a.tmps:=by
    refine ht.congr fun t=>?_
    rw[hm0]
    have:∀(l:List an) (ss:List (ab×aa)) (k:Nat) (T:Tr ab),bF (fun _=>false) k l ss T=T:=by
     intro l
     induction l with
     | nil=>intro ss k T; cases ss <;> rfl
     | cons o r ih=>intro ss k T; cases ss with
      | nil=>rfl
      | cons s ss=>obtain⟨x,y⟩:=s; simp only[bF,cond_false,ih]
    rw[this]
   refine yN (RAW:=st≠none) (rp:=rp) (ds:=a.defers) (Prot:=Prot) (w0:=w0) htb hcall (fun _=>htbP) (fun _=>hcallP) (base:=H.next) hopers.1 hopers.2 hbase hdis hok hok2 hss hr (ρ0:=ρ) (fun a' w' hx=>?_) (fun hd c a' w' ρ' x u hrc hle hx hv hda=>?_) ops.size _ a _ (by simp) ?_ (fun j _ hj=>by rw[hrep]at hj; simp at hj) (fun j _ hj=>by rw[hrep]at hj; simp at hj) ⟨ρ,Pl.le_refl _,?_,htl,rfl⟩
   ·obtain⟨ρ',q1,q2,q3,q4⟩:=hx
    exact⟨ρ',q1,q2,.inl ⟨rfl,hPn ρ' a' q1 q3 q4⟩⟩
   ·obtain⟨d',hst'⟩:=hrp1 c hrc
    obtain⟨ac,g1,g2,g3,g4,g5,g6⟩:=hraw c d' hst'
    obtain⟨H9,hx,R1⟩:=hx
    have hsel:∀mk:Nat->Bool,mk (0+c)=true->(bF mk 0 m ss U).get d'=some (lI x):=fun mk hmk=>
     jW m ss 0 c U ac (lI x) H9 g1 hx g2 hmk fun k b hk hkb hbd=>absurd (g5 k b hkb hbd) om
    have hstill:eF K ss m.length=H9:=AW hss hx fun k b hk hkb=>by
     cases hch:aI b.op with
     | false=>exact .inl rfl
     | true=>
      right
      obtain⟨k1,k2⟩:=KS d'
      rw[g6 k b hk hkb hch]
      simp only[im,gV,k1,k2,cond_true,ev]
      rw[hsel _ (by simp only[Nat.zero_add]; exact QS hk)]
      rfl
    refine⟨ρ',hle,by rw[hstill]; exact R1,.inr ⟨c,d',x,u,hst',rfl,?_,hv,hda,hS (n+1) om⟩⟩
    rw[hG1.1 d' g4]
    simp only[ev,hsel (fun _=>true) rfl]
   ·rw[hm0]
    have:∀k,tW (fun _=>false) k=k:=by
     intro k
     induction k with
     | zero=>rfl
     | succ k ih=>simp only[tW,ih,cond_false]
    exact this _
   ·rw[hst,hH,hm0]; exact R'.drew
end
end Go.Abs
namespace Go.Abs
section
variable {P:Program} {Prot:Gh} {w0:World} {ρ:Pl} {H H':aa} {w:World}
theorem Ez(hfol:P.follows .mixedOrders=true){tb:FuncId->Bool}(htb:∀f,Nat.blt f cA=true->tb f=true->bX P f=true)(htbP:∀f,Nat.blt f cA=true->tb (cA+f)=true->bX P f=true)
  {call:FuncId->List ab->aa->Option (ab×aa)} (hcall:js P call) (hcallP:zX P call) {n k:Nat} {ps:List Nat} :
  ∀(c:Code) (ac:cp),eh P n ps c=some ac->∀(ρ:Pl) (T T':Tr ab) (H H':aa) (e:tV) (a:Act) (w:World),
   cg Prot w0 ρ H w->rq ρ n T a->aO tb call k ac T H=some (e,T',H')->c.wp P (EU Prot w0 ρ n e T' H') a w:=by
 intro c
 induction c with
 | skip=>
  intro ac hc ρ T T' H H' e a w R hP h
  simp only[eh,sJ]at hc; subst hc
  simp only[aO,sJ,pJ]at h
  obtain⟨rfl,rfl,rfl⟩:=h
  exact wp_skip ⟨ρ,Pl.le_refl _,R,rfl,hP⟩
 | region id ops draw=>
  intro ac hc ρ T T' H H' e a w R hP h
  cases draw with
  | false=>
   simp only[eh]at hc
   split at hc
   ·rename_i its hl
    simp only[sJ]at hc; subst hc
    refine wp_region ?_
    have:=El (Prot:=Prot) (w0:=w0) htb htbP hcall hcallP ops.toList 0 its (fun j=>by simp) hl ρ ρ T T' H H' e a w (Pl.le_refl _) R hP h
    rw[List.range_eq_range']
    simpa using this
   ·simp at hc
  | true=>
   simp only[eh,HO]at hc
   split at hc
   ·rename_i l st hl
    cases hck:gN (ops.toList.map bi) (br [] (ops.toList.map bi))&&eE (aF 0 l) (br [] (ops.toList.map bi))&&l.all (dJ n) with
    | false=>
     rw[hck]at hc
     simp only[cond_false,sJ]at hc; subst hc
     simp[kA]at h
    | true=>
     rw[hck]at hc
     simp only[cond_true]at hc
     simp only[QT]at hck
     obtain⟨⟨hk1,hk2⟩,hk3⟩:=hck
     cases st with
     | none=>
      simp only[sJ]at hc; subst hc
      simp only[aO]at h
      obtain⟨rfl,hw⟩:=vp (id:=id) hfol htb htbP hcall hcallP hl hk1 hk2 hk3 R hP h
      refine wp_mono hw ?_
      rintro e' a' w' ⟨ρ',q1,q2,⟨rfl,q3⟩ | ⟨c',d',x,u,hd,_⟩⟩
      ·exact⟨ρ',q1,q2,rfl,q3⟩
      ·simp at hd
     | some cd=>
      obtain⟨cc,d⟩:=cd
      simp only[sJ]at hc; subst hc
      simp only[aO]at h
      cases hdr:mB tb call (aF H.next l) ((List.range l.length).map (eG (aF 0 l) (br [] (ops.toList.map bi)))) T (bY H l) with
      | none=>rw[hdr]at h; simp at h
      | some r=>
       obtain⟨e1,T1,H1⟩:=r
       rw[hdr]at h
       obtain⟨rfl,hw⟩:=vp (id:=id) hfol htb htbP hcall hcallP hl hk1 hk2 hk3 R hP hdr
       simp only at h
       rw[bM,cz]at h
       simp only[ct,gA,jt,vv,Mz,bA,cQ]at h
       have e2:ev (T1.set (n+2) (.bool (gp (ev T1 (.t d))))) (.t (n+2))=.bool (gp (ev T1 (.t d))):=by rw[aY,if_pos rfl]
       rw[e2]at h
       refine wp_mono hw ?_
       rintro e' a' w' ⟨ρ',q1,q2,⟨rfl,q3⟩ | ⟨c',d',x,u,hd,rfl,q3,q4,q5,q6⟩⟩
       ·cases hp:gp (ev T1 (.t d)) with
        | false=>
         rw[hp]at h
         simp only[sJ,pJ]at h
         obtain⟨rfl,rfl,rfl⟩:=h
         exact⟨ρ',q1,q2,rfl,q3.ghost rL _⟩
        | true=>
         exfalso
         obtain⟨U,hG,ht⟩:=q3.1.t
         obtain⟨y,hy⟩:=nR hp
         by_cases hdn:d<n
         ·have:=ht.at_ d
          rw[<- hG.1 d hdn]at this
          exact AA this hy
         ·rcases jn hl with⟨h0,_⟩ | ⟨c2,d2,ao,h4,_,_,h6',h6,_⟩
          ·simp at h0
          ·simp only[sJ,pJ]at h4
           obtain⟨rfl,rfl⟩:=h4
           have:=List.all_eq_true.1 hk3 ao (QY h6')
           simp only[dJ,QT,h6]at this
           exact hdn (eU this.2.2)
       ·simp only[sJ,pJ]at hd
        obtain⟨rfl,rfl⟩:=hd
        have hp:gp (ev T1 (.t d))=true:=by rw[q3]; rfl
        rw[hp]at h
        simp only[im,cond_true,J9]at h
        have e3:ev ((T1.set (n+2) (.bool true)).set (n+2) (.bool (isU (ev (T1.set (n+2) (.bool true)) (.t (n+1)))))) (.t (n+2))=.bool (isU (ev (T1.set (n+2) (.bool true)) (.t (n+1)))):=by rw[aY,if_pos rfl]
        rw[e3]at h
        have e4:ev (T1.set (n+2) (.bool true)) (.t (n+1))=ev T1 (.t (n+1)):=by rw[aY,if_neg om]
        rw[e4]at h
        cases hu:isU (ev T1 (.t (n+1))) with
        | false=>rw[hu]at h; simp[gI,aO,bA,im,ct]at h
        | true=>
         rw[hu]at h
         simp only[bA,im,cond_true,ct,cQ]at h
         simp only[sJ,pJ]at h
         obtain⟨rfl,rfl,rfl⟩:=h
         have hund:ev T1 (.t (n+1))=aX:=by
          unfold isU at hu
          split at hu
          ·rename_i h9; rw[h9]; rfl
          ·simp at hu
         have hdn:∃v,ev ((T1.set (n+2) (.bool true)).set (n+2) (.bool true)) (.t d)=v:=⟨_,rfl⟩
         have hdlt:d<n:=by
          rcases jn hl with⟨h0,_⟩ | ⟨c2,d2,ao,h4,_,_,h6',h6,_⟩
          ·simp at h0
          ·simp only[sJ,pJ]at h4
           obtain⟨rfl,rfl⟩:=h4
           have:=List.all_eq_true.1 hk3 ao (QY h6')
           simp only[dJ,QT,h6]at this
           exact eU this.2.2
         refine⟨ρ',q1,q2,.inr ⟨rfl,.inr ⟨u,rfl,x,?_,q4,.inl ⟨?_,?_⟩⟩⟩⟩
         ·rw[aY,if_pos rfl,aY,if_neg om,aY,if_neg om]; exact q3
         ·rw[q5]
          have:=hP.1.d
          rw[<- q6,hund]at this
          rcases this with⟨_,h9⟩ | ⟨f,fa,fb,d9,cap,h9,_⟩
          ·exact h9
          ·simp[aX]at h9
         ·rw[aY,if_neg om,aY,if_neg om,aY,if_neg om]; exact hund
   ·simp at hc
 | seq x y ihx ihy=>
  intro ac hc ρ T T' H H' e a w R hP h
  simp only[eh]at hc
  split at hc
  ·rename_i ax ay hx hy
   simp only[sJ]at hc; subst hc
   simp only[aO]at h
   split at h
   ·rename_i T1 H1 h1
    refine wp_seq (wp_mono (ihx _ hx ρ T T1 H H1 .normal a w R hP h1) ?_)
    rintro e1 a1 w1 ⟨ρ1,hl,R1,rfl,hP1⟩
    exact wp_mono (ihy _ hy ρ1 T1 T' H1 H' e a1 w1 R1 hP1 h) fun _ _ _ q=>q.weaken hl
   ·rename_i e1 T1 H1 hne h1
    simp only[sJ,pJ]at h
    obtain⟨rfl,rfl,rfl⟩:=h
    refine wp_seq (wp_mono (ihx _ hx ρ T T1 H H1 e1 a w R hP h1) ?_)
    rintro e2 a1 w1 q
    obtain⟨ρ1,q1,q2,q3⟩:=q
    cases e1 with
    | normal=>exact (hne rfl).elim
    | ret=>exact q3.elim
    | exit id=>
     rcases q3 with⟨z1,rfl,z2⟩ | ⟨z1,⟨rfl,z2⟩ | ⟨u,rfl,z2⟩⟩
     ·exact⟨ρ1,q1,q2,.inl ⟨z1,rfl,z2⟩⟩
     ·exact⟨ρ1,q1,q2,.inr ⟨z1,.inl ⟨rfl,z2⟩⟩⟩
     ·exact⟨ρ1,q1,q2,.inr ⟨z1,.inr ⟨u,rfl,z2⟩⟩⟩
   ·simp at h
  ·simp at hc
 | cond c x y ihx ihy=>
  intro ac hc ρ T T' H H' e a w R hP h
  simp only[eh]at hc
  split at hc
  ·rename_i c' ax ay hcc hx hy
   cases hT:dm n c' with
   | false=>rw[hT]at hc; simp at hc
   | true=>
    rw[hT]at hc
    simp only[cond_true,sJ]at hc; subst hc
    simp only[aO]at h
    obtain⟨U,hG,ht⟩:=hP.1.t
    have hv:=aH ht hcc
    rw[<- hG.x hT]at hv
    split at h
    ·rename_i hb
     rw[hb]at hv
     simp only[ak]at hv
     exact wp_cond_true hv (ihx _ hx ρ T T' H H' e a w R hP h)
    ·rename_i hb
     rw[hb]at hv
     simp only[ak]at hv
     exact wp_cond_false hv (ihy _ hy ρ T T' H H' e a w R hP h)
    ·simp at h
  ·simp at hc
 | block id c ih=>
  intro ac hc ρ T T' H H' e a w R hP h
  simp only[eh]at hc
  split at hc
  ·rename_i ax hx
   cases hid:Nat.beq id PB with
   | true=>rw[hid]at hc; simp at hc
   | false=>
    rw[hid]at hc
    simp only[cond_false,sJ]at hc; subst hc
    have hidn:¬id=PB:=fun e=>by rw[e,Nat.beq_refl]at hid; simp at hid
    simp only[aO]at h
    split at h
    ·rename_i j T1 H1 h1
     refine wp_block (wp_mono (ih _ hx ρ T T1 H H1 (.exit j) a w R hP h1) ?_)
     rintro e1 a1 w1 ⟨ρ1,q1,q2,q3⟩
     cases hb:Nat.beq j id with
     | true=>
      rw[hb]at h
      simp only[cond_true,sJ,pJ]at h
      obtain⟨rfl,rfl,rfl⟩:=h
      have:=QX hb
      subst this
      rcases q3 with⟨_,rfl,z2⟩ | ⟨z1,_⟩
      ·simp only[Exit.inBlock,if_true]
       exact⟨ρ1,q1,q2,rfl,z2⟩
      ·exact (hidn z1).elim
     | false=>
      rw[hb]at h
      simp only[cond_false,sJ,pJ]at h
      obtain⟨rfl,rfl,rfl⟩:=h
      have:¬j=id:=fun e=>by rw[e,Nat.beq_refl]at hb; simp at hb
      rcases q3 with⟨z1,rfl,z2⟩ | ⟨z1,⟨rfl,z2⟩ | ⟨u,rfl,z2⟩⟩
      ·simp only[Exit.inBlock,this,if_false]
       exact⟨ρ1,q1,q2,.inl ⟨z1,rfl,z2⟩⟩
      ·exact⟨ρ1,q1,q2,.inr ⟨z1,.inl ⟨rfl,z2⟩⟩⟩
      ·exact⟨ρ1,q1,q2,.inr ⟨z1,.inr ⟨u,rfl,z2⟩⟩⟩
    ·rename_i e1 T1 H1 hne h1
     simp only[sJ,pJ]at h
     obtain⟨rfl,rfl,rfl⟩:=h
     refine wp_block (wp_mono (ih _ hx ρ T T1 H H1 e1 a w R hP h1) ?_)
     rintro e2 a1 w1 ⟨ρ1,q1,q2,q3⟩
     cases e1 with
     | normal=>obtain⟨rfl,z⟩:=q3; exact⟨ρ1,q1,q2,rfl,z⟩
     | exit j=>exact (hne _ rfl).elim
     | ret=>exact q3.elim
    ·simp at h
  ·simp at hc
 | loop c ih=>
  intro ac hc ρ T T' H H' e a w R hP h
  simp only[eh]at hc
  split at hc
  ·rename_i ax hx
   simp only[sJ]at hc; subst hc
   simp only[aO]at h
   refine wp_loop_rounds k ?_
   have key:∀(m:Nat) (T:Tr ab) (H:aa) (ρ1:Pl) (a:Act) (w:World),ρ.le ρ1->cg Prot w0 ρ1 H w->rq ρ1 n T a ->
     jG (aO tb call k ax) m T H=some (e,T',H')->Code.rounds P c (EU Prot w0 ρ n e T' H') m a w:=by
    intro m
    induction m with
    | zero=>intro T H ρ1 a w _ _ _ h; simp[jG]at h
    | succ m ihm=>
     intro T H ρ1 a w hl R hP h
     rw[rounds_succ]
     simp only[jG]at h
     split at h
     ·rename_i T1 H1 h1
      refine wp_mono (ih _ hx ρ1 T T1 H H1 .normal a w R hP h1) ?_
      rintro e1 a1 w1 ⟨ρ2,hl2,R1,rfl,hP1⟩
      exact ihm T1 H1 ρ2 a1 w1 (Pl.le_trans hl hl2) R1 hP1 h
     ·rename_i e1 T1 H1 hne h1
      simp only[sJ,pJ]at h
      obtain⟨rfl,rfl,rfl⟩:=h
      refine wp_mono (ih _ hx ρ1 T T1 H H1 e1 a w R hP h1) ?_
      rintro e2 a1 w1 q
      obtain⟨ρ2,q1,q2,q3⟩:=q.weaken hl
      cases e1 with
      | normal=>exact (hne rfl).elim
      | ret=>exact q3.elim
      | exit id=>
       rcases q3 with⟨z1,rfl,z2⟩ | ⟨z1,⟨rfl,z2⟩ | ⟨u,rfl,z2⟩⟩
       ·exact⟨ρ2,q1,q2,.inl ⟨z1,rfl,z2⟩⟩
       ·exact⟨ρ2,q1,q2,.inr ⟨z1,.inl ⟨rfl,z2⟩⟩⟩
       ·exact⟨ρ2,q1,q2,.inr ⟨z1,.inr ⟨u,rfl,z2⟩⟩⟩
     ·simp at h
   exact key k T H ρ a w (Pl.le_refl _) R hP h
  ·simp at hc
 | exit id=>
  intro ac hc ρ T T' H H' e a w R hP h
  simp only[eh]at hc
  cases hid:Nat.beq id PB with
  | true=>rw[hid]at hc; simp at hc
  | false=>
   rw[hid]at hc
   simp only[cond_false,sJ]at hc; subst hc
   have hidn:¬id=PB:=fun e=>by rw[e,Nat.beq_refl]at hid; simp at hid
   simp only[aO,sJ,pJ]at h
   obtain⟨rfl,rfl,rfl⟩:=h
   exact wp_exit ⟨ρ,Pl.le_refl _,R,.inl ⟨hidn,rfl,hP⟩⟩
 | ret=>
  intro ac hc ρ T T' H H' e a w R hP h
  simp only[eh,sJ]at hc; subst hc
  simp only[aO,sJ,pJ]at h
  obtain⟨rfl,rfl,rfl⟩:=h
  exact wp_ret ⟨ρ,Pl.le_refl _,R,.inr ⟨rfl,.inl ⟨rfl,hP⟩⟩⟩
 | _=>
  intro ac hc ρ T T' H H' e a w R hP h
  simp only[eh,sJ]at hc; subst hc
  simp[kA]at h
end
end Go.Abs
