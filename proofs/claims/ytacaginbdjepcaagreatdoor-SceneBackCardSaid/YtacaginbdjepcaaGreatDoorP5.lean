/- Part of a proof (D9 A11 A11b A11c A11d A11e A11f); no condition. -/
import Derived.LoopN
import Derived.Recover
import Derived.Test.YtacaginbdjepcaaGreatDoorP4
set_option linter.unusedSimpArgs false
set_option linter.unusedVariables false
set_option linter.unnecessarySimpa false
namespace Go.Abs
def dO:Option Nat->List bb
 | some d=>[.t d]
 | none=>[]
def pN(o:ak):List bb:=match o.op with
 | .store _ a _=>[a]
 | .append _ _ s x=>s::x::dO o.dst
 | .hf (.fill ..) _=>dO o.dst
 | .load _ _ x=>[x]
 | _=>[]
def uh(l:List ak)(c t:Nat):Bool:=match l[c]? with
 | some o=>match o.dst with
  | some d=>Nat.beq d t
  | none=>false
 | none=>false
def sq(l:List ak)(q:Nat):bb->Bool
 | .t t=>(List.range l.length).all fun c=>Nat.blt c q||!uh l c t
 | _=>true
def iX(l:List ak)(q:Nat):Option Nat->Bool
 | some d=>(List.range l.length).all fun c=>Nat.ble c q||!uh l c d
 | none=>false
def yZ(l:List ak)(q:Nat):Bool:=match l[q]? with
 | some o=>match o.op with
  | .store _ a _=>sq l q a
  | .append _ _ s x=>sq l q s&&(sq l q x&&iX l q o.dst)
  | .hf (.fill ..) _=>iX l q o.dst
  | .load _ _ x=>sq l q x
  | _=>true
 | none=>true
def mw(l:List ak):Bool:=(List.range l.length).all (yZ l)
def uD(l:List ak)(j i:Nat):List (bb×bb):=match l[j]?,l[i]? with
 | some b,some a=>(pN b).flatMap fun y=>(pN a).map fun x=>(y,x)
 | _,_=>[]
def nG(l:List ak)(ms:List Nat)(j k:Nat):Bool:=match l[k]? with
 | some o=>cZ o.op&&(!iF ms k j&&!iF ms j k)
 | none=>false
def mR(l:List ak)(ms:List Nat):List (bb×bb):=
 (List.range l.length).flatMap fun j=>(List.range j).flatMap fun i=>bif eb l ms i j then
  uD l j i++(List.range l.length).flatMap fun k=>bif nG l ms j k then uD l j k else [] else []
def pn(p:bb×bb):ak:=⟨none,.pf .apart [p.1,p.2],none⟩
section
variable {tb:FuncId->Bool} {call:FuncId->List af->ae->Option (af×ae)} {l:List ak} {ms:List Nat} {T0:Tr af} {H0:ae} {ss:List (af×ae)}
theorem rU{c t:Nat}{o:ak}(h:l[c]?=some o)(hd:o.dst=some t):uh l c t=true:=by
 unfold uh; simp only[h,hd]; exact Nat.beq_refl t
theorem l7{q:Nat}{x:bb}(h:sq l q x=true):ev (bn (fun _=>true) 0 l ss T0) x=ev (bn (fun i=>Nat.blt i (0+q)) 0 l ss T0) x:=by
 cases x with
 | t t=>
  simp only[ev]
  rw[eO l ss 0 T0 T0 rfl fun c o hc hd=>?_]
  simp only[sq]at h
  rw[List.all_eq_true]at h
  have:=h c (List.mem_range.2 (Ps.1 hc).1)
  rw[rU hc hd]at this
  simp only[Bool.not_true,Bool.or_false]at this
  simp only[Nat.zero_add]
  exact this.symm
 | _=>rfl
theorem Lm{q d:Nat}{o:ak}{v:af}{H':ae}(hq:l[q]?=some o)(hs:ss[q]?=some (v,H'))(hd:o.dst=some d)(h:iX l q o.dst=true):ev (bn (fun _=>true) 0 l ss T0) (.t d)=v:=by
 rw[hd]at h
 simp only[iX]at h
 rw[List.all_eq_true]at h
 have hn:∀c oc,q<c->l[c]?=some oc->oc.dst=some d->False:=by
  intro c oc hc h1 h2
  have:=h c (List.mem_range.2 (Ps.1 h1).1)
  rw[rU h1 h2]at this
  simp only[Bool.not_true,Bool.or_false]at this
  have:=Px this
  omega
 have e:(bn (fun _=>true) 0 l ss T0).get d=some v:=by
  have e1:=iH (m:=fun i=>Nat.ble i q) l ss 0 q T0 o v H' hq hs hd (by simp only[Nat.zero_add]; exact Pt (Nat.le_refl q)) fun i o' h1 h2 h3=>(hn i o' h1 h2 h3).elim
  rw[<- e1]
  refine eO l ss 0 T0 T0 rfl fun c oc hc hdc=>?_
  simp only[Nat.zero_add]
  rcases Nat.lt_or_ge q c with k | k
  ·exact (hn c oc k hc hdc).elim
  ·exact (Pt k).symm
 simp only[ev,e]
theorem oU(htr:cp tb call l T0 H0=some ss)(hok:mw l=true){q:Nat}{o:ak}(hq:l[q]?=some o){b:Nat}(hb:b∈bS l ss T0 q):∃x∈pN o,gc (ev (bn (fun _=>true) 0 l ss T0) x)=some b:=by
 obtain⟨_,hat⟩:=fO l T0 H0 ss 0 htr
 obtain⟨v,H1,hs,hs0⟩:=hat q o hq
 clear hs0 hat
 simp only[bS,hq,hs]at hb
 have hst:yZ l q=true:=by
  unfold mw at hok
  rw[List.all_eq_true]at hok
  exact hok q (List.mem_range.2 (Ps.1 hq).1)
 unfold yZ at hst
 rw[hq]at hst
 obtain⟨d,op,g⟩:=o
 have hdst:iX l q d=true->∃d',d=some d'/\ev (bn (fun _=>true) 0 l ss T0) (.t d')=v:=by
  intro h
  cases d with
  | none=>simp[iX]at h
  | some d'=>exact⟨d',rfl,Lm (o:=⟨some d',op,g⟩) hq hs rfl h⟩
 cases op <;> simp only[eP,List.not_mem_nil]at hb
 case store n a x=>
  obtain⟨y,h1,h2⟩:=mE hb
  obtain rfl:=List.mem_singleton.1 h1
  exact⟨a,by simp[pN],by rw[l7 hst]; exact h2⟩
 case load n a x=>
  obtain⟨y,h1,h2⟩:=mE hb
  obtain rfl:=List.mem_singleton.1 h1
  exact⟨x,by simp[pN],by rw[l7 hst]; exact h2⟩
 case append n k s x=>
  simp only[Pu]at hst
  obtain⟨d',hd1,hd2⟩:=hdst hst.2.2
  obtain⟨y,h1,h2⟩:=mE hb
  simp only[List.mem_cons,List.not_mem_nil,or_false]at h1
  rcases h1 with rfl | rfl | rfl
  ·exact⟨s,by simp[pN],by rw[l7 hst.1]; exact h2⟩
  ·exact⟨x,by simp[pN],by rw[l7 hst.2.1]; exact h2⟩
  ·exact⟨.t d',by simp[pN,hd1,dO],by rw[hd2]; exact h2⟩
 case hf f xs=>
  cases f <;> first | (simp only[List.not_mem_nil]at hb; done) | skip
  obtain⟨d',hd1,hd2⟩:=hdst hst
  obtain⟨y,h1,h2⟩:=mE hb
  obtain rfl:=List.mem_singleton.1 h1
  exact⟨.t d',by simp[pN,hd1,dO],by rw[hd2]; exact h2⟩
theorem sQ{i j:Nat}{a b:ak}(hi:l[i]?=some a)(hj:l[j]?=some b){x y:bb}(hx:x∈pN a)(hy:y∈pN b):(y,x)∈uD l j i:=by
 unfold uD
 rw[hi,hj]
 simp only[List.mem_flatMap,List.mem_map]
 exact⟨y,hy,x,hx,rfl⟩
theorem Hb{x y:af}{b:Nat}(h:Mj y x=true)(hx:gc x=some b)(hy:gc y=some b):False:=by
 unfold Mj at h
 rw[hx,hy]at h
 simp[Nat.beq_refl]at h
theorem Lb(htr:cp tb call l T0 H0=some ss)(hok:mw l=true)(hck:∀p∈mR l ms,Mj (ev (bn (fun _=>true) 0 l ss T0) p.1) (ev (bn (fun _=>true) 0 l ss T0) p.2)=true) :
  (∀i j,eb l ms i j=true->∀x∈bS l ss T0 j,x∉bS l ss T0 i) /\
  ∀i j k o,eb l ms i j=true->l[k]?=some o->cZ o.op=true->iF ms k j=false->iF ms j k=false->∀x∈bS l ss T0 j,x∉bS l ss T0 k:=by
 have hl:∀i j,eb l ms i j=true->∃a b,l[i]?=some a/\l[j]?=some b/\i<j:=by
  intro i j h
  unfold eb at h
  split at h
  ·rename_i a b hi hj
   simp only[Pu]at h
   exact⟨a,b,hi,hj,Px h.1⟩
  ·simp at h
 constructor
 ·intro i j h x hx hx'
  obtain⟨a,b,hi,hj,hij⟩:=hl i j h
  obtain⟨y,y1,y2⟩:=oU htr hok hj hx
  obtain⟨z,z1,z2⟩:=oU htr hok hi hx'
  refine Hb (hck (y,z) ?_) z2 y2
  unfold mR
  rw[List.mem_flatMap]
  refine⟨j,List.mem_range.2 (Ps.1 hj).1,?_⟩
  rw[List.mem_flatMap]
  refine⟨i,List.mem_range.2 hij,?_⟩
  rw[h,cond_true,List.mem_append]
  exact .inl (sQ hi hj z1 y1)
 ·intro i j k o h hk hld h1 h2 x hx hx'
  obtain⟨a,b,hi,hj,hij⟩:=hl i j h
  obtain⟨y,y1,y2⟩:=oU htr hok hj hx
  obtain⟨z,z1,z2⟩:=oU htr hok hk hx'
  refine Hb (hck (y,z) ?_) z2 y2
  unfold mR
  rw[List.mem_flatMap]
  refine⟨j,List.mem_range.2 (Ps.1 hj).1,?_⟩
  rw[List.mem_flatMap]
  refine⟨i,List.mem_range.2 hij,?_⟩
  rw[h,cond_true,List.mem_append,List.mem_flatMap]
  refine .inr ⟨k,List.mem_range.2 (Ps.1 hk).1,?_⟩
  have:nG l ms j k=true:=by unfold nG; rw[hk]; simp[hld,h1,h2]
  rw[this,cond_true]
  exact sQ hk hj z1 y1
end
theorem rJ{P:Program}{c:Call}{b n:Nat}{z:List af}{os:List (Nat×Nat)}{xs:List bb}(h:ja P c=some (.hf (.fill b n z os) xs)):False:=by
 unfold ja at h
 repeat' split at h
 all_goals first
  | (simp at h; done)
  | (simp only[cond_eq_ite]at h; split at h <;> simp at h)
theorem rN{P:Program}{o:Op}{b n:Nat}{z:List af}{os:List (Nat×Nat)}{xs:List bb}(h:nS P o=some (.hf (.fill b n z os) xs)):False:=by
 unfold nS at h
 repeat' split at h
 all_goals first
  | (simp at h; done)
  | (simp only[cond_eq_ite]at h; split at h <;> first | (simp at h; done) | (split at h <;> simp at h))
theorem vi{P:Program}{o:Op}{b n:Nat}{z:List af}{os:List (Nat×Nat)}{xs:List bb}(h:tM P o=some (.hf (.fill b n z os) xs)):False:=by
 unfold tM at h
 split at h
 ·rename_i a ha
  simp only[sJ]at h
  subst h
  exact rN ha
 ·split at h
  ·rename_i a ha
   simp only[sJ]at h
   subst h
   cases o <;> simp only[xJ,reduceCtorEq]at ha
   case call c _=>exact rJ ha
   all_goals
    exfalso
    repeat' split at ha
    all_goals first
     | (simp at ha; done)
     | (simp only[cond_eq_ite]at ha; split at ha <;> simp at ha)
  ·simp at h
theorem mr{P:Program}{n:Nat}{ops:Array Oper}:∀{rest:List Oper} {l:List ak},cA P n ops rest=some l->∀a∈l,wZ a.op=none:=by
 intro rest
 induction rest with
 | nil=>intro l h; simp only[cA,sJ]at h; subst h; intro a ha; simp at ha
 | cons o r ih=>
  intro l h
  simp only[cA]at h
  split at h
  ·rename_i a l' ha hl'
   simp only[sJ]at h
   subst h
   intro x hx
   rcases List.mem_cons.1 hx with rfl | hx
   ·unfold dC at ha
    split at ha
    ·rename_i ax g hopc hg
     cases hdst:dd n o.dst with
     | false=>rw[hdst]at ha; simp at ha
     | true=>
      rw[hdst]at ha
      simp only[cond_true,sJ]at ha
      subst ha
      simp only
      unfold wZ
      split
      ·exact (vi hopc).elim
      ·rfl
    ·simp at ha
   ·exact ih hl' x hx
  ·simp at h
end Go.Abs
namespace Go.Abs
inductive bh where
 | skip
 | reg (ops:List ak)
 | draw (ops:List ak) (chk:List (List Nat))
 | seq (a b:bh)
 | cond (c:bb) (a b:bh)
 | block (id:Nat) (c:bh)
 | loop (c:bh)
 | exit (id:Nat)
 | ret
inductive pt where
 | normal
 | exit (id:Nat)
 | ret
inductive lR where
 | t (i:Nat)
 | cell (agg:Bool) (size:Nat) (i:Nat)
structure cg where
 nt:Nat
 body:bh
 res:List lR
section
variable (tb:FuncId->Bool) (call:FuncId->List af->ae->Option (af×ae))
def be:List ak->Tr af->ae->Option (Tr af×ae)
 | [],T,H=>some (T,H)
 | o::r,T,H=>bif fR T o.guard then
   match bG tb T H o.op with
   | some (.val v,H')=>be r (aO T o.dst v) H'
   | some (.enter f args,H')=>match call f args H' with
    | some (v,H'')=>be r (aO T o.dst v) H''
    | none=>none
   | none=>none
  else be r (aO T o.dst aN) H
def iq(body:Tr af->ae->Option (pt×Tr af×ae)):Nat->Tr af->ae->Option (pt×Tr af×ae)
 | 0,_,_=>none
 | n+1,T,H=>match body T H with
  | some (.normal,T',H')=>iq body n T' H'
  | some (e,T',H')=>some (e,T',H')
  | none=>none
def kq(ops:List ak)(chk:List (List Nat))(T:Tr af)(H:ae):Option (pt×Tr af×ae):=
 match cp tb call ops T H with
 | some ss=>bif eH tb (H::ss.map (·.2)) ops chk ss T then some (.normal,bn (fun _=>true) 0 ops ss T,dK H ss ops.length) else none
 | none=>none
def aK(k:Nat):bh->Tr af->ae->Option (pt×Tr af×ae)
 | .skip,T,H=>some (.normal,T,H)
 | .reg ops,T,H=>match be tb call ops T H with
  | some (T',H')=>some (.normal,T',H')
  | none=>none
 | .draw ops chk,T,H=>kq tb call (aB H.next ops) chk T (bT H ops)
 | .seq a b,T,H=>match aK k a T H with
  | some (.normal,T',H')=>aK k b T' H'
  | some (e,T',H')=>some (e,T',H')
  | none=>none
 | .cond c a b,T,H=>match ev T c with
  | .bool true=>aK k a T H
  | .bool false=>aK k b T H
  | _=>none
 | .block id c,T,H=>match aK k c T H with
  | some (.exit j,T',H')=>bif Nat.beq j id then some (.normal,T',H') else some (.exit j,T',H')
  | some (e,T',H')=>some (e,T',H')
  | none=>none
 | .loop c,T,H=>iq (aK k c) k T H
 | .exit id,T,H=>some (.exit id,T,H)
 | .ret,T,H=>some (.ret,T,H)
end
def hJ(T:Tr af)(H:ae):List lR->Option (List af)
 | []=>some []
 | .t i::r=>match hJ T H r with
  | some l=>some (ev T (.t i)::l)
  | none=>none
 | .cell g n i::r=>match bi g n H (ev T (.t i)),hJ T H r with
  | some x,some l=>some (x::l)
  | _,_=>none
def io:List af->af
 | [x]=>x
 | l=>.tuple l
def cC:List af->Nat->Tr af->Tr af
 | [],_,T=>T
 | x::r,i,T=>cC r (i+1) (T.set i x)
structure Jq where
 ps:List Nat
 df:Option (Nat×Nat×Bool)
structure gU where
 is:FuncId->Bool
 run:FuncId->List af->ae->Option (af×ae)
 md:Nat->Option Jq
def vC(N:gU)(A:Tr cg):FuncId->Bool:=fun f=>bif N.is f then true else match A.get f with | some _=>true | none=>false
def cG(N:gU)(tab:Tr cg):Nat->FuncId->List af->ae->Option (af×ae)
 | 0,_,_,_=>none
 | n+1,f,args,H=>bif N.is f then N.run f args H else match tab.get f with
  | some fn=>bif Nat.ble args.length fn.nt then
    match aK (vC N tab) (cG N tab n) n fn.body (cC args 0 .e) H with
    | some (.exit _,_,_)=>none
    | some (_,T,H')=>match hJ T H' fn.res with
     | some l=>some (io l,H')
     | none=>none
    | none=>none
   else none
  | none=>none
section
variable (P:Program)
def ft:bh:=.reg [⟨none,.bad,none⟩]
def GK(es:List (List Nat))(l:List ak)(ms:List Nat):bh:=
 bif fy es ms&&(gE l ms&&(mz l ms&&(mw l&&l.all fun o=>(dR o.op).isNone))) then
  .seq (.draw l ((List.range l.length).map (dL l ms))) (.reg ((mR l ms).map pn)) else ft
def dq(n:Nat):Code->Option bh
 | .skip=>some .skip
 | .region _ ops false=>match cA P n ops ops.toList with
  | some l=>some (.reg l)
  | none=>none
 | .region _ ops true=>match cA P n ops ops.toList with
  | some l=>bif fy (ops.toList.map aX) (aZ [] (ops.toList.map aX))&&dJ (aB 0 l) (aZ [] (ops.toList.map aX)) then
    some (.draw l ((List.range l.length).map (dL (aB 0 l) (aZ [] (ops.toList.map aX))))) else some (GK (ops.toList.map aX) l (aZ [] (ops.toList.map aX)))
  | none=>none
 | .seq a b=>match dq n a,dq n b with
  | some a,some b=>some (.seq a b)
  | _,_=>none
 | .cond c a b=>match bI c,dq n a,dq n b with
  | some c,some a,some b=>some (.cond c a b)
  | _,_,_=>none
 | .block id c=>match dq n c with
  | some c=>some (.block id c)
  | none=>none
 | .loop c=>match dq n c with
  | some c=>some (.loop c)
  | none=>none
 | .exit id=>some (.exit id)
 | .ret=>some .ret
 | _=>some ft
def nR:List ResultVar->Option (List lR)
 | []=>some []
 | .tmp t::r=>match nR r with
  | some l=>some (.t t::l)
  | none=>none
 | .cell a t::r=>match ez P t,nR r with
  | some (g,n),some l=>some (.cell g n a::l)
  | _,_=>none
def HE(f:FuncId):Option cg:=
 match P.funcs[f]? with
 | some fn=>match fn.body with
  | some c => bif fn.name == "runtime.NumGoroutine" then none else
   match dq P fn.ntmps c,nR P fn.results.toList with
   | some b,some r=>some ⟨fn.ntmps,b,r⟩
   | _,_=>none
  | none=>none
 | none=>none
end
section
variable {P:Program} {Prot:Gh} {w0:World} {ρ:Pl} {H H':ae} {w:World}
def DM(P:Program)(Prot:Gh)(w0:World)(ds:List Deferred)(ρ:Pl)(n:Nat)(e:pt)(T:Tr af)(H:ae):Exit->Act->World->Prop:=fun e' a w=>
 (match e with | .normal=>e'=.normal | .exit id=>e'=.exit id | .ret=>e'=.ret)/\∃ρ',ρ.le ρ'/\Rel Prot w0 ρ' H w/\aJ ρ' n T a.tmps/\a.defers=ds
theorem wj{tb:FuncId->Bool}(htb:∀f,Nat.blt f bO=true->tb f=true->bc P f=true){call:FuncId->List af->ae->Option (af×ae)}(hcall:gR P call){ds:List Deferred}{n:Nat}{ops:Array Oper}{Q:Exit->Act->World->Prop} :
  ∀(rest:List Oper) (i:Nat) (l:List ak),(∀j,rest[j]?=ops[i+j]?)->cA P n ops rest=some l->∀(ρ0 ρ:Pl) (T T':Tr af) (H H':ae) (a:Act) (w:World),ρ0.le ρ ->
   Rel Prot w0 ρ H w->aJ ρ n T a.tmps->a.defers=ds->be tb call l T H=some (T',H') ->
   (∀a' w',(∃ρ',ρ0.le ρ'/\Rel Prot w0 ρ' H' w'/\aJ ρ' n T' a'.tmps/\a'.defers=ds)->Q .normal a' w')->wpOps P ops Q (List.range' i rest.length) a w:=by
 intro rest
 induction rest with
 | nil=>
  intro i l _ hc ρ0 ρ T T' H H' a w hle R ht hd h hQ
  simp only[cA,sJ]at hc
  subst hc
  simp only[be,sJ,pJ]at h
  obtain⟨rfl,rfl⟩:=h
  exact hQ a w ⟨ρ,hle,R,ht,hd⟩
 | cons o rest ih=>
  intro i l hi hc ρ0 ρ T T' H H' a w hle R ht hd h hQ
  simp only[cA]at hc
  split at hc
  ·rename_i ao l' ha hl
   simp only[sJ]at hc
   subst hc
   have ho:ops[i]?=some o:=by have:=hi 0; simpa using this.symm
   have hnext:∀j,rest[j]?=ops[i+1+j]?:=fun j=>by have:=hi (j+1); simp only[PC]at this; rw[this]; congr 1; omega
   unfold dC at ha
   split at ha
   ·rename_i ax g hop hg
    cases hdst:dd n o.dst with
    | false=>rw[hdst]at ha; simp at ha
    | true=>
     rw[hdst]at ha
     simp only[cond_true,sJ]at ha
     subst ha
     simp only[Pv,List.range'_succ,wpOps,ho]
     simp only[be]at h
     rw[eU ht hg]
     cases hgo:fR T g with
     | false=>
      rw[hgo]at h
      simp only[cond_false]at h
      simp only[PD,if_false]
      refine ih (i+1) l' hnext hl ρ0 ρ _ _ _ _ _ _ hle R (bu ht hdst dG) ?_ h hQ
      cases hx:o.dst <;> simpa[Act.put] using hd
     | true=>
      rw[hgo]at h
      simp only[cond_true]at h
      simp only[if_true]
      left
      split at h
      ·rename_i v H1 hv
       obtain⟨ρ1,w1,nx,q1,q2,q3,q4⟩:=gC htb R ht o hop hv
       simp only[Oper.wp,q2]
       have hd':∀u,(a.put o.dst u).defers=ds:=fun u=>by cases hx:o.dst <;> simpa[Act.put] using hd
       cases nx <;> simp only[iz]at q4
       case value u=>exact ih (i+1) l' hnext hl ρ0 ρ1 _ _ _ _ _ _ (Pl.le_trans hle q1) q3 (bu (ht.mono q1) hdst q4) (hd' _) h hQ
       case skip=>exact ih (i+1) l' hnext hl ρ0 ρ1 _ _ _ _ _ _ (Pl.le_trans hle q1) q3 (bu (ht.mono q1) hdst q4) (hd' _) h hQ
      ·rename_i f args H1 hv
       split at h
       ·rename_i v H2 hcl
        obtain⟨ρ1,w1,nx,q1,q2,q3,q4⟩:=gC htb R ht o hop hv
        simp only[Oper.wp,q2]
        have hd':∀u,(a.put o.dst u).defers=ds:=fun u=>by cases hx:o.dst <;> simpa[Act.put] using hd
        cases nx <;> simp only[iz]at q4
        case enter g vs=>
         obtain⟨rfl,hbig,q5⟩:=q4
         simp only[Oper.upon]
         refine (hcall _ _ _ _ _ hbig hcl Prot w0 ρ1 w1 vs q3 q5).mono fun e w' hr=>?_
         obtain⟨ρ2,u,r1,rfl,r3,r4⟩:=hr
         exact ih (i+1) l' hnext hl ρ0 ρ2 _ _ _ _ _ _ (Pl.le_trans hle (Pl.le_trans q1 r1)) r3 (bu ((ht.mono q1).mono r1) hdst r4) (hd' _) h hQ
       ·simp at h
      ·simp at h
   ·simp at ha
  ·simp at hc
theorem DM.weaken{ds:List Deferred}{ρ ρ':Pl}{n:Nat}{e:pt}{T:Tr af}{H:ae}(h:ρ.le ρ'){e':Exit}{a:Act}{w:World}(q:DM P Prot w0 ds ρ' n e T H e' a w):DM P Prot w0 ds ρ n e T H e' a w:=by
 obtain⟨h1,ρ2,h2,h3⟩:=q
 exact⟨h1,ρ2,Pl.le_trans h h2,h3⟩
theorem jl{tb:FuncId->Bool}{call:FuncId->List af->ae->Option (af×ae)}{k:Nat}{T:Tr af}{H:ae}:aK tb call k ft T H=none:=rfl
theorem tG:∀{l:List ak} {b:Nat},(l.all fun o=>(dR o.op).isNone)=true->aB b l=l
 | [],_,_=>rfl
 | o::r,b,h=>by
  simp only[List.all_cons,Pu,Option.isNone_iff_eq_none]at h
  simp only[aB,h.1,tG (l:=r) h.2]
theorem ow:∀{l:List ak} {H:ae},(l.all fun o=>(dR o.op).isNone)=true->bT H l=H
 | [],_,_=>rfl
 | o::r,H,h=>by
  simp only[List.all_cons,Pu,Option.isNone_iff_eq_none]at h
  simp only[bT,h.1,ow (l:=r) h.2]
theorem mW{tb:FuncId->Bool}{call:FuncId->List af->ae->Option (af×ae)}:∀(ps:List (bb×bb)) {T T':Tr af} {H H':ae},be tb call (ps.map pn) T H=some (T',H') ->
  T'=T/\H'=H/\∀p∈ps,Mj (ev T p.1) (ev T p.2)=true
 | [],T,T',H,H',h=>by
  simp only[List.map_nil,be,sJ,pJ]at h
  exact⟨h.1.symm,h.2.symm,by simp⟩
 | p::r,T,T',H,H',h=>by
  simp only[List.map_cons,be,pn,fR,cond_true,bG,iu,eX,Ho]at h
  cases hp:Mj (ev T p.1) (ev T p.2) with
  | false=>rw[hp]at h; simp[vv]at h
  | true=>
   rw[hp]at h
   simp only[cond_true,vv,aO]at h
   obtain⟨h1,h2,h3⟩:=mW r h
   refine⟨h1,h2,fun q hq=>?_⟩
   rcases List.mem_cons.1 hq with rfl | hq
   ·exact hp
   ·exact h3 q hq
theorem qB(hfol:P.follows .mixedOrders=true){tb:FuncId->Bool}(htb:∀f,Nat.blt f bO=true->tb f=true->bc P f=true){call:FuncId->List af->ae->Option (af×ae)}(hcall:gR P call){ds:List Deferred}{n k:Nat} :
  ∀(c:Code) (ac:bh),dq P n c=some ac->∀(ρ:Pl) (T T':Tr af) (H H':ae) (e:pt) (a:Act) (w:World),
   Rel Prot w0 ρ H w->aJ ρ n T a.tmps->a.defers=ds->aK tb call k ac T H=some (e,T',H')->c.wp P (DM P Prot w0 ds ρ n e T' H') a w:=by
 intro c
 induction c with
 | skip=>
  intro ac hc ρ T T' H H' e a w R ht hd h
  simp only[dq,sJ]at hc; subst hc
  simp only[aK,sJ,pJ]at h
  obtain⟨rfl,rfl,rfl⟩:=h
  exact wp_skip ⟨rfl,ρ,Pl.le_refl _,R,ht,hd⟩
 | region id ops draw=>
  intro ac hc ρ T T' H H' e a w R ht hd h
  cases draw with
  | true=>
   simp only[dq]at hc
   split at hc
   ·rename_i l hl
    cases hck:(fy (ops.toList.map aX) (aZ [] (ops.toList.map aX))&&dJ (aB 0 l) (aZ [] (ops.toList.map aX))) with
    | false=>
     rw[hck]at hc
     simp only[cond_false,sJ]at hc; subst hc
     clear hck
     unfold GK at h
     cases hck:(fy (ops.toList.map aX) (aZ [] (ops.toList.map aX))&&(gE l (aZ [] (ops.toList.map aX))&&(mz l (aZ [] (ops.toList.map aX))&&(mw l&&l.all fun o=>(dR o.op).isNone)))) with
     | false=>rw[hck]at h; simp[jl]at h
     | true=>
      rw[hck,cond_true]at h
      simp only[Pu]at hck
      obtain⟨c1,c2,c3,c4,c5⟩:=hck
      have hlen:l.length=ops.toList.length:=(p6 hl).1
      simp only[aK,kq,tG c5,ow c5]at h
      cases hss:cp tb call l T H with
      | none=>rw[hss]at h; simp at h
      | some ss=>
      rw[hss]at h
      simp only at h
      cases hr:eH tb (H::ss.map (·.2)) l ((List.range l.length).map (dL l (aZ [] (ops.toList.map aX)))) ss T with
      | false=>rw[hr]at h; simp at h
      | true=>
       rw[hr]at h
       simp only[cond_true]at h
       cases hg:be tb call ((mR l (aZ [] (ops.toList.map aX))).map pn) (bn (fun _=>true) 0 l ss T) (dK H ss l.length) with
       | none=>rw[hg]at h; simp at h
       | some q=>
       obtain⟨T2,H2⟩:=q
       rw[hg]at h
       simp only[sJ,pJ]at h
       obtain⟨rfl,rfl,rfl⟩:=h
       obtain⟨rfl,rfl,hchecks⟩:=mW _ hg
       obtain⟨hap,hal⟩:=Lb hss c4 hchecks
       refine wp_region_any hfol ?_
       have hN:l.length=ops.size:=by simpa using hlen
       have hrep:∀i,(Array.replicate ops.size false).getD i false=false:=fun i=>by
        rw[Array.getD_eq_getD_getElem?,Array.getElem?_replicate]; split <;> rfl
       have hm0:(fun i=>(Array.replicate ops.size false).getD i false)=fun _=>false:=funext hrep
       have hst:aA (fun i=>(Array.replicate ops.size false).getD i false) 0 l=aA (fun _=>false) 0 l:=fP l 0 fun c o _ _=>by simp only[hrep]
       have hH:dK H ss (aA (fun _=>false) 0 l)=H:=by
        obtain⟨q1,q2,q3,q4⟩:=dt (fun _=>false) l 0
        have:=cD hss (aA (fun _=>false) 0 l) 0 om fun c o _ hlt ho=>by
         cases hx:aD o.op with
         | false=>rfl
         | true=>have:=q3 c o ho hx om; simp at this
        rw[Nat.zero_add]at this
        rw[this]; rfl
       refine Gx (Prot:=Prot) (w0:=w0) htb hcall (base:=H.next) hlen (fun j o hj=>let ⟨a,q1,q2⟩:=(p6 hl).2 j o hj; ⟨a,q1,.inl q2⟩) (fun d hd=>(R.dead d hd).1) (fun i j a b c h1 h2 h3=>?_) (ep hl) c1 c2 c3 hss hr hap hal (ρ0:=ρ) (fun a' w' hx=>⟨rfl,hx⟩) ops.size _ a _ (by simp) ?_ (fun j _ hj=>by rw[hrep]at hj; simp at hj) ⟨ρ,H,Pl.le_refl _,?_,?_,?_,hd⟩
       ·exact absurd h3 (by rw[mr hl a (Pz h1)]; simp)
       ·rw[hm0]
        have:∀k,rA (fun _=>false) k=k:=by
         intro k
         induction k with
         | zero=>rfl
         | succ k ih=>simp only[rA,ih,cond_false]
        exact this _
       ·rw[hst,hm0]
        refine⟨by rw[hH],fun x _=>by rw[hH],fun q x _ h2=>?_⟩
        exact absurd h2.1 (by simp)
       ·rw[hm0]
        refine R.drew.fewer (D:=nU Prot.dead l fun _=>false) fun d hd=>?_
        rcases hd with hd | ⟨i,a,h1,h2,_⟩
        ·exact hd
        ·rw[mr hl a (Pz h1)]at h2; simp at h2
       ·refine ht.congr fun t=>?_
        rw[hm0]
        have:∀(l:List ak) (ss:List (af×ae)) (k:Nat) (T:Tr af),bn (fun _=>false) k l ss T=T:=by
         intro l
         induction l with
         | nil=>intro ss k T; cases ss <;> rfl
         | cons o r ih=>intro ss k T; cases ss with
          | nil=>rfl
          | cons s ss=>obtain⟨x,y⟩:=s; simp only[bn,cond_false,ih]
        rw[this]
    | true=>
     rw[hck]at hc
     simp only[cond_true,sJ]at hc; subst hc
     simp only[Pu]at hck
     have hnc:=ep hl
     have hlk:=ik l H.next 0
     have hok:dJ (aB H.next l) (aZ [] (ops.toList.map aX))=true:=by rw[my hlk]; exact hck.2
     have hlen:(aB H.next l).length=ops.toList.length:=(kN hl H.next).1
     have hll:l.length=(aB H.next l).length:=by rw[hlen]; exact (p6 hl).1
     have hchk:(List.range l.length).map (dL (aB 0 l) (aZ [] (ops.toList.map aX)))=(List.range (aB H.next l).length).map (dL (aB H.next l) (aZ [] (ops.toList.map aX))):=by
      rw[hll]
      exact List.map_congr_left fun j _=>(qD hlk _ j).symm
     have hbase:∀d,Prot.dead d->d<H.next:=fun d hd=>(R.dead d hd).1
     have R:=gi (pr:=Prot.prot) l Prot.dead H hnc R
     simp only[aK,kq]at h
     rw[hchk]at h
     generalize hcl:aB H.next l=m at *
     generalize hrv:bT H l=K at *
     split at h
     ·rename_i ss hss
      cases hr:eH tb (K::ss.map (·.2)) m ((List.range m.length).map (dL m (aZ [] (ops.toList.map aX)))) ss T with
      | false=>rw[hr]at h; simp at h
      | true=>
       rw[hr]at h
       simp only[cond_true,sJ,pJ]at h
       obtain⟨rfl,rfl,rfl⟩:=h
       refine wp_region_any hfol ?_
       have hN:m.length=ops.size:=by simpa using hlen
       have hrep:∀i,(Array.replicate ops.size false).getD i false=false:=fun i=>by
        rw[Array.getD_eq_getD_getElem?,Array.getElem?_replicate]; split <;> rfl
       have hm0:(fun i=>(Array.replicate ops.size false).getD i false)=fun _=>false:=funext hrep
       have hst:aA (fun i=>(Array.replicate ops.size false).getD i false) 0 m=aA (fun _=>false) 0 m:=fP m 0 fun c o _ _=>by simp only[hrep]
       have hH:dK K ss (aA (fun _=>false) 0 m)=K:=by
        obtain⟨q1,q2,q3,q4⟩:=dt (fun _=>false) m 0
        have:=cD hss (aA (fun _=>false) 0 m) 0 om fun c o _ hlt ho=>by
         cases hx:aD o.op with
         | false=>rfl
         | true=>have:=q3 c o ho hx om; simp at this
        rw[Nat.zero_add]at this
        rw[this]; rfl
       refine xp (RAW:=False) (rp:=fun _=>False) (Prot:=Prot) (w0:=w0) htb hcall (fun h=>h.elim) (fun h=>h.elim) (base:=H.next) hlen (by rw[<- hcl]; exact fun j o hj=>let ⟨a,q1,q2⟩:=(kN hl H.next).2 j o hj; ⟨a,q1,.inl ⟨fun h=>h,q2.imp_right .inl⟩⟩) hbase (by rw[<- hcl]; exact jv l H.next hnc) hck.1 hok hss hr (ρ0:=ρ) (fun a' w' hx=>⟨rfl,hx⟩) (fun h=>h.elim) ops.size _ a _ (by simp) ?_ (fun j _ hj=>by rw[hrep]at hj; simp at hj) (fun c h=>h.elim) ⟨ρ,Pl.le_refl _,?_,?_,hd⟩
       ·rw[hm0]
        have:∀k,rA (fun _=>false) k=k:=by
         intro k
         induction k with
         | zero=>rfl
         | succ k ih=>simp only[rA,ih,cond_false]
        exact this _
       ·rw[hst,hH,hm0]; exact R.drew
       ·refine ht.congr fun t=>?_
        rw[hm0]
        have:∀(l:List ak) (ss:List (af×ae)) (k:Nat) (T:Tr af),bn (fun _=>false) k l ss T=T:=by
         intro l
         induction l with
         | nil=>intro ss k T; cases ss <;> rfl
         | cons o r ih=>intro ss k T; cases ss with
          | nil=>rfl
          | cons s ss=>obtain⟨x,y⟩:=s; simp only[bn,cond_false,ih]
        rw[this]
     ·simp at h
   ·simp at hc
  | false=>
   simp only[dq]at hc
   split at hc
   ·rename_i l hl
    simp only[sJ]at hc; subst hc
    simp only[aK]at h
    split at h
    ·rename_i T1 H1 h1
     simp only[sJ,pJ]at h
     obtain⟨rfl,rfl,rfl⟩:=h
     refine wp_region ?_
     have:=wj (Prot:=Prot) (w0:=w0) htb hcall (Q:=DM P Prot w0 ds ρ n .normal T1 H1) ops.toList 0 l (fun j=>by simp) hl ρ ρ T T1 H H1 a w (Pl.le_refl _) R ht hd h1 (fun a' w' h=>⟨rfl,h⟩)
     rw[List.range_eq_range']
     simpa using this
    ·simp at h
   ·simp at hc
 | seq x y ihx ihy=>
  intro ac hc ρ T T' H H' e a w R ht hd h
  simp only[dq]at hc
  split at hc
  ·rename_i ax ay hx hy
   simp only[sJ]at hc; subst hc
   simp only[aK]at h
   split at h
   ·rename_i T1 H1 h1
    refine wp_seq (wp_mono (ihx _ hx ρ T T1 H H1 .normal a w R ht hd h1) ?_)
    rintro e1 a1 w1 ⟨he,ρ1,hl,R1,ht1,hd1⟩
    simp only at he
    subst he
    exact wp_mono (ihy _ hy ρ1 T1 T' H1 H' e a1 w1 R1 ht1 hd1 h) fun _ _ _ q=>q.weaken hl
   ·rename_i e1 T1 H1 hne h1
    simp only[sJ,pJ]at h
    obtain⟨rfl,rfl,rfl⟩:=h
    refine wp_seq (wp_mono (ihx _ hx ρ T T1 H H1 e1 a w R ht hd h1) ?_)
    rintro e2 a1 w1 q
    cases e1 with
    | normal=>exact (hne rfl).elim
    | exit id=>have:=q.1; simp only at this; subst this; exact q
    | ret=>have:=q.1; simp only at this; subst this; exact q
   ·simp at h
  ·simp at hc
 | cond c x y ihx ihy=>
  intro ac hc ρ T T' H H' e a w R ht hd h
  simp only[dq]at hc
  split at hc
  ·rename_i c' ax ay hcc hx hy
   simp only[sJ]at hc; subst hc
   simp only[aK]at h
   have hv:=aC ht hcc
   split at h
   ·rename_i hb
    rw[hb]at hv
    simp only[ag]at hv
    exact wp_cond_true hv (ihx _ hx ρ T T' H H' e a w R ht hd h)
   ·rename_i hb
    rw[hb]at hv
    simp only[ag]at hv
    exact wp_cond_false hv (ihy _ hy ρ T T' H H' e a w R ht hd h)
   ·simp at h
  ·simp at hc
 | block id c ih=>
  intro ac hc ρ T T' H H' e a w R ht hd h
  simp only[dq]at hc
  split at hc
  ·rename_i ax hx
   simp only[sJ]at hc; subst hc
   simp only[aK]at h
   split at h
   ·rename_i j T1 H1 h1
    refine wp_block (wp_mono (ih _ hx ρ T T1 H H1 (.exit j) a w R ht hd h1) ?_)
    rintro e1 a1 w1 q
    have he:=q.1
    simp only at he
    subst he
    cases hb:Nat.beq j id with
    | true=>
     rw[hb]at h
     simp only[cond_true,sJ,pJ]at h
     obtain⟨rfl,rfl,rfl⟩:=h
     have:=Py hb
     simp only[Exit.inBlock,this,if_true]
     exact⟨rfl,q.2⟩
    | false=>
     rw[hb]at h
     simp only[cond_false,sJ,pJ]at h
     obtain⟨rfl,rfl,rfl⟩:=h
     have:¬j=id:=fun e=>by rw[e,Nat.beq_refl]at hb; simp at hb
     simp only[Exit.inBlock,this,if_false]
     exact q
   ·rename_i e1 T1 H1 hne h1
    simp only[sJ,pJ]at h
    obtain⟨rfl,rfl,rfl⟩:=h
    refine wp_block (wp_mono (ih _ hx ρ T T1 H H1 e1 a w R ht hd h1) ?_)
    rintro e2 a1 w1 q
    cases e1 with
    | normal=>have:=q.1; simp only at this; subst this; exact q
    | exit j=>exact (hne _ rfl).elim
    | ret=>have:=q.1; simp only at this; subst this; exact q
   ·simp at h
  ·simp at hc
 | loop c ih=>
  intro ac hc ρ T T' H H' e a w R ht hd h
  simp only[dq]at hc
  split at hc
  ·rename_i ax hx
   simp only[sJ]at hc; subst hc
   simp only[aK]at h
   refine wp_loop_rounds k ?_
   have key:∀(m:Nat) (T:Tr af) (H:ae) (ρ1:Pl) (a:Act) (w:World),ρ.le ρ1->Rel Prot w0 ρ1 H w->aJ ρ1 n T a.tmps->a.defers=ds ->
     iq (aK tb call k ax) m T H=some (e,T',H')->Code.rounds P c (DM P Prot w0 ds ρ n e T' H') m a w:=by
    intro m
    induction m with
    | zero=>intro T H ρ1 a w _ _ _ _ h; simp[iq]at h
    | succ m ihm=>
     intro T H ρ1 a w hl R ht hd h
     rw[rounds_succ]
     simp only[iq]at h
     split at h
     ·rename_i T1 H1 h1
      refine wp_mono (ih _ hx ρ1 T T1 H H1 .normal a w R ht hd h1) ?_
      rintro e1 a1 w1 ⟨he,ρ2,hl2,R1,ht1,hd1⟩
      simp only at he
      subst he
      exact ihm T1 H1 ρ2 a1 w1 (Pl.le_trans hl hl2) R1 ht1 hd1 h
     ·rename_i e1 T1 H1 hne h1
      simp only[sJ,pJ]at h
      obtain⟨rfl,rfl,rfl⟩:=h
      refine wp_mono (ih _ hx ρ1 T T1 H H1 e1 a w R ht hd h1) ?_
      rintro e2 a1 w1 q
      have q':=q.weaken hl
      cases e1 with
      | normal=>exact (hne rfl).elim
      | exit id=>have:=q.1; simp only at this; subst this; exact q'
      | ret=>have:=q.1; simp only at this; subst this; exact q'
     ·simp at h
   exact key k T H ρ a w (Pl.le_refl _) R ht hd h
  ·simp at hc
 | exit id=>
  intro ac hc ρ T T' H H' e a w R ht hd h
  simp only[dq,sJ]at hc; subst hc
  simp only[aK,sJ,pJ]at h
  obtain⟨rfl,rfl,rfl⟩:=h
  exact wp_exit ⟨rfl,ρ,Pl.le_refl _,R,ht,hd⟩
 | ret=>
  intro ac hc ρ T T' H H' e a w R ht hd h
  simp only[dq,sJ]at hc; subst hc
  simp only[aK,sJ,pJ]at h
  obtain⟨rfl,rfl,rfl⟩:=h
  exact wp_ret ⟨rfl,ρ,Pl.le_refl _,R,ht,hd⟩
 | _=>
  intro ac hc ρ T T' H H' e a w R ht hd h
  simp only[dq,sJ]at hc; subst hc
  simp[jl]at h
theorem Ie{n:Nat}(R:Rel Prot w0 ρ H w){T:Tr af}{tmps:Array Value}(ht:aJ ρ n T tmps):∀{rs:List ResultVar} {l:List lR},nR P rs=some l->∀{xs:List af},hJ T H l=some xs ->
  ∃vs:List Value,(rs.mapM (fun r=>match r with
   | .tmp t=>Pure.pure (tmps.getD t undef)
   | .cell a t=>do loadVar t (<- asAddr (tmps.getD a undef))):Sem (List Value)).run P w=.ok vs w/\ah ρ xs vs:=by
 intro rs
 induction rs with
 | nil=>
  intro l hc xs h
  simp only[nR,sJ]at hc; subst hc
  simp only[hJ,sJ]at h; subst h
  exact⟨[],rfl,by simp[ah]⟩
 | cons r rs ih=>
  intro l hc xs h
  cases r with
  | tmp t=>
   simp only[nR]at hc
   split at hc
   ·rename_i l' hl
    simp only[sJ]at hc; subst hc
    simp only[hJ]at h
    split at h
    ·rename_i ys hy
     simp only[sJ]at h; subst h
     obtain⟨vs,h1,h2⟩:=ih hl hy
     refine⟨tmps.getD t undef::vs,?_,by simp only[ah]; exact⟨_,_,rfl,ht.at_ t,h2⟩⟩
     simp only[List.mapM_cons,Sem.run_bind,Sem.run_pure,Result.andThen_ok,h1]
    ·simp at h
   ·simp at hc
  | cell a t=>
   simp only[nR]at hc
   split at hc
   ·rename_i g k l' hk hl
    simp only[sJ]at hc; subst hc
    simp only[hJ]at h
    split at h
    ·rename_i x ys hx hy
     simp only[sJ]at h; subst h
     obtain⟨vs,h1,h2⟩:=ih hl hy
     obtain⟨u,u1,u2⟩:=uM (P:=P) R (cQ hk) (ht.at_ a) hx
     have hp:∃ad,tmps.getD a undef=.pointer (some ad):=by
      have hat:=ht.at_ a
      unfold bi at hx
      split at hx
      ·rename_i ad heq
       rw[heq]at hat
       simp only[ag]at hat
       obtain⟨L,_,_,e⟩:=hat
       exact⟨_,e⟩
      ·simp at hx
     obtain⟨ad,had⟩:=hp
     refine⟨u::vs,?_,by simp only[ah]; exact⟨_,_,rfl,u2,h2⟩⟩
     have:(loadVar t ad).run P w=.ok u w:=by
      rw[had]at u1
      simpa[Instr.loadAt,Instr.sureAddr] using u1
     have hA:(asAddr (tmps.getD a undef)).run P w=.ok ad w:=by rw[had]; rfl
     simp only[List.mapM_cons,Sem.run_bind,hA,Sem.run_pure,Result.andThen_ok,this,h1]
    ·simp at h
   ·simp at hc
theorem ib{n:Nat}(R:Rel Prot w0 ρ H w){T:Tr af}{tmps:Array Value}(ht:aJ ρ n T tmps){fn:Func}{l:List lR}(hc:nR P fn.results.toList=some l){xs:List af}(h:hJ T H l=some xs) :
  ∃v,(results fn tmps).run P w=.ok v w/\ag ρ (io xs) v:=by
 obtain⟨vs,h1,h2⟩:=Ie (P:=P) R ht hc h
 have hl:=ah.len h2
 have hm:(fn.results.mapM (fun r=>match r with
   | .tmp t=>Pure.pure (tmps.getD t undef)
   | .cell a t=>do loadVar t (<- asAddr (tmps.getD a undef))):Sem (Array Value)).run P w=.ok vs.toArray w:=by
  rw[Array.mapM_eq_mapM_toList]
  simp only[Sem.run_map,h1,Result.andThen_ok]
 refine⟨if h:vs.toArray.size=1 then vs.toArray[0] else .tuple vs.toArray,?_,?_⟩
 ·have e:results fn tmps=(fn.results.mapM (fun r=>match r with
   | .tmp t=>Pure.pure (tmps.getD t undef)
   | .cell a t=>do loadVar t (<- asAddr (tmps.getD a undef))):Sem (Array Value)) >>= fun vs=>Pure.pure (if h:vs.size=1 then vs[0] else .tuple vs):=rfl
  rw[e,Sem.run_bind,hm]
  rfl
 ·match xs,vs,h2,hl with
  | [x],[v],h2,_=>
   simp only[ah]at h2
   obtain⟨v',r,e,h3,_⟩:=h2
   simp only[List.cons.injEq]at e
   obtain⟨rfl,rfl⟩:=e
   exact h3
  | [],[],h2,_=>simp only[io,ag]; exact⟨_,rfl,h2⟩
  | x::y::xs,v::u::vs,h2,_=>simp only[io,ag]; exact⟨_,rfl,h2⟩
theorem mV:∀(args:List af) (vs:List Value) (i:Nat) (T:Tr af),ah ρ args vs->(∀t,i<=t->T.get t=none) ->
  ∀t,ev (cC args i T) (.t t)=if t<i then ev T (.t t) else match args[t-i]? with | some x=>x | none=>aN:=by
 intro args
 induction args with
 | nil=>
  intro vs i T _ hn t
  simp only[cC]
  split
  ·rfl
  ·rename_i h
   simp[ev,hn t om]
 | cons x r ih=>
  intro vs i T hv hn t
  simp only[ah]at hv
  obtain⟨v,vs',rfl,h1,h2⟩:=hv
  simp only[cC]
  rw[ih vs' (i+1) (T.set i x) h2 (fun t ht=>by rw[Tr.get_set,if_neg om]; exact hn t om) t]
  by_cases c1:t<i
  ·rw[if_pos om,if_pos c1]
   simp only[ev,Tr.get_set]
   rw[if_neg om]
  ·by_cases c2:t=i
   ·subst c2
    rw[if_pos om,if_neg c1]
    simp[ev,Tr.get_set]
   ·rw[if_neg om,if_neg c1,show t-i=(t-(i+1))+1 by omega]
    simp
theorem kA{args:List af}{vs:Array Value}(hv:ah ρ args vs.toList){n:Nat}(hn:args.length<=n):aJ ρ n (cC args 0 .e) (vs++Array.replicate (n-vs.size) undef):=by
 have hl:=ah.len hv
 simp only[Array.length_toList]at hl
 refine⟨by simp; omega,fun t=>?_⟩
 rw[mV args vs.toList 0 .e hv (fun _ _=>rfl) t]
 rw[if_neg om,Nat.sub_zero]
 by_cases ht:t<args.length
 ·have hx:args[t]?=some args[t]:=Pr ht
  obtain⟨v,h1,h2⟩:=hv.nth _ _ hx
  rw[hx]
  rw[Array.getElem?_toList]at h1
  have:(vs++Array.replicate (n-vs.size) undef).getD t undef=v:=by
   rw[Array.getD_eq_getD_getElem?,Array.getElem?_append_left om,h1]; rfl
  rw[this]
  exact h2
 ·have hx:args[t]?=none:=PL om
  rw[hx]
  have:(vs++Array.replicate (n-vs.size) undef).getD t undef=undef:=by
   rw[Array.getD_eq_getD_getElem?,Array.getElem?_append_right om]
   by_cases h:t-vs.size<n-vs.size
   ·simp[h]
   ·simp[h]
  rw[this]
  exact dG
theorem mS {f : FuncId} {fn : cg} (h : HE P f = some fn) : ∃ fc code, P.funcs[f]? = some fc ∧ fc.body = some code ∧ (fc.name == "runtime.NumGoroutine") = false ∧ fc.ntmps = fn.nt ∧ dq P fn.nt code = some fn.body ∧ nR P fc.results.toList = some fn.res := by
 unfold HE at h
 split at h
 ·rename_i fc hf
  split at h
  ·rename_i c hb
   cases hn : (fc.name == "runtime.NumGoroutine") with
   | true=>rw[hn]at h; simp at h
   | false=>
    rw[hn]at h
    simp only[cond_false]at h
    split at h
    ·rename_i b r h1 h2
     simp only[sJ]at h
     subst h
     exact⟨fc,c,hf,hb,hn,rfl,h1,h2⟩
    ·simp at h
  ·simp at h
 ·simp at h
structure yp(P:Program)(N:gU):Prop where
 body:∀f,N.is f=true->bc P f=true
 run:gR P N.run
def iU:gU:=⟨fun _=>false,fun _ _ _=>none,fun _=>none⟩
theorem FC:yp P iU:=⟨fun f h=>by simp[iU]at h,fun f args H v H' _ h=>by simp[iU]at h⟩
end
end Go.Abs
namespace Go.Abs
def cI(n:Nat):bb->Bool
 | .t i=>Nat.blt i n
 | _=>true
def jR(n:Nat):List bb->Bool
 | []=>true
 | x::r=>cI n x&&jR n r
def mt(n:Nat):Option bb->Bool
 | none=>true
 | some x=>cI n x
def pZ(n:Nat):List (Nat×Nat×bb)->Bool
 | []=>true
 | (_,_,x)::r=>cI n x&&pZ n r
def Jg(n:Nat):gT->Bool
 | .mv x=>cI n x
 | .pick c a b=>cI n c&&(cI n a&&cI n b)
 | .new _=>true
 | .box x=>cI n x
 | .build _ ps=>pZ n ps
 | .buildSl _ _ ps=>pZ n ps
 | .load _ _ x=>cI n x
 | .store _ a x=>cI n a&&cI n x
 | .nilChk x=>cI n x
 | .bin _ x y=>cI n x&&cI n y
 | .un _ x=>cI n x
 | .conv _ x=>cI n x
 | .convSB x=>cI n x
 | .convBS x=>cI n x
 | .mkFunc _ a b=>jR n a&&jR n b
 | .mkIface _ x=>cI n x
 | .mkSlice _ _ l c=>cI n l&&cI n c
 | .sl _ x a b c=>cI n x&&(mt n a&&(mt n b&&mt n c))
 | .slStr x a b=>cI n x&&(mt n a&&mt n b)
 | .fieldA _ x=>cI n x
 | .field _ _ _ x=>cI n x
 | .idxA _ x i=>cI n x&&cI n i
 | .idxArr _ _ x i=>cI n x&&cI n i
 | .idx _ _ _ x i=>cI n x&&cI n i
 | .idxS x i=>cI n x&&cI n i
 | .extract _ x=>cI n x
 | .append _ _ s x=>cI n s&&cI n x
 | .len _ x=>cI n x
 | .call _ l=>jR n l
 | .callv f l=>cI n f&&jR n l
 | .pf _ l=>jR n l
 | .hf _ l=>jR n l
 | .bad=>true
 | .claim ..=>true
 | .slA _ _ x a b c=>cI n x&&(mt n a&&(mt n b&&mt n c))
def IP(n:Nat):Option (Nat×Bool)->Bool
 | none=>true
 | some (t,_)=>Nat.blt (gS t) n
def dc(n:Nat)(o:ak):Bool:=Jg n o.op&&(IP n o.guard&&dd n o.dst)
def GE(n:Nat)(T U:Tr af):Prop:=(∀t,t<n->ev T (.t t)=ev U (.t t))/\∀t,n<=t->ev U (.t t)=aN
section
variable {n:Nat} {T U:Tr af} {tb:FuncId->Bool} {call:FuncId->List af->ae->Option (af×ae)}
theorem dU{a b:Nat}(h:Nat.blt a b=true):a<b:=Px h
theorem GE.x(h:GE n T U){x:bb}(hx:cI n x=true):ev T x=ev U x:=by
 cases x with
 | t i=>exact h.1 i (dU hx)
 | c v=>rfl
 | f i=>rfl
theorem GE.xs(h:GE n T U):∀{l:List bb},jR n l=true->eX T l=eX U l
 | [],_=>rfl
 | x::r,hx=>by
  simp only[jR,Pu]at hx
  simp only[eX,h.x hx.1,h.xs hx.2]
theorem GE.xO(h:GE n T U){x:Option bb}(hx:mt n x=true):xg T x=xg U x:=by
 cases x with
 | none=>rfl
 | some x=>simp only[xg,h.x hx]
theorem GE.xP(h:GE n T U):∀{l:List (Nat×Nat×bb)},pZ n l=true->yw T l=yw U l
 | [],_=>rfl
 | (a,b,x)::r,hx=>by
  simp only[pZ,Pu]at hx
  simp only[yw,h.x hx.1,h.xP hx.2]
theorem Hd(h:GE n T U){o:gT}(ho:Jg n o=true)(H:ae):bG tb T H o=bG tb U H o:=by
 cases o <;> simp only[Jg,Pu]at ho <;> simp only[bG]
 case mv x=>rw[h.x ho]
 case pick c a b=>rw[h.x ho.1,h.x ho.2.1,h.x ho.2.2]
 case box x=>rw[h.x ho]
 case build z ps=>rw[h.xP ho]
 case buildSl m z ps=>rw[h.xP ho]
 case load a m x=>rw[h.x ho]
 case store m a x=>rw[h.x ho.1,h.x ho.2]
 case nilChk x=>rw[h.x ho]
 case bin op x y=>rw[h.x ho.1,h.x ho.2]
 case un op x=>rw[h.x ho]
 case conv k x=>rw[h.x ho]
 case convSB x=>rw[h.x ho]
 case convBS x=>rw[h.x ho]
 case mkFunc fn a b=>rw[h.xs ho.1,h.xs ho.2]
 case mkIface t x=>rw[h.x ho]
 case mkSlice b z l c=>rw[h.x ho.1,h.x ho.2]
 case sl m x a b c=>rw[h.x ho.1,h.xO ho.2.1,h.xO ho.2.2.1,h.xO ho.2.2.2]
 case slStr x a b=>rw[h.x ho.1,h.xO ho.2.1,h.xO ho.2.2]
 case fieldA o x=>rw[h.x ho]
 case field a m o x=>rw[h.x ho]
 case idxA m x i=>rw[h.x ho.1,h.x ho.2]
 case idxArr m k x i=>rw[h.x ho.1,h.x ho.2]
 case idx m k a x i=>rw[h.x ho.1,h.x ho.2]
 case idxS x i=>rw[h.x ho.1,h.x ho.2]
 case extract i x=>rw[h.x ho]
 case append m b s x=>rw[h.x ho.1,h.x ho.2]
 case len s x=>rw[h.x ho]
 case call f l=>rw[h.xs ho]
 case callv f l=>rw[h.x ho.1,h.xs ho.2]
 case pf f l=>rw[h.xs ho]
 case hf f l=>rw[h.xs ho]
 case slA m k x a b c=>rw[h.x ho.1,h.xO ho.2.1,h.xO ho.2.2.1,h.xO ho.2.2.2]
theorem zM(h:GE n T U){g:Option (Nat×Bool)}(hg:IP n g=true):fR T g=fR U g:=by
 cases g with
 | none=>rfl
 | some p=>
  obtain⟨t,b⟩:=p
  simp only[fR,h.1 (gS t) (dU hg)]
theorem aS(T:Tr af)(d t:Nat)(v:af):ev (T.set d v) (.t t)=if t=d then v else ev T (.t t):=by
 simp only[ev,Tr.get_set]
 split
 ·rename_i u h
  split at h
  ·rename_i e; rw[if_pos e]; simpa using h.symm
  ·rename_i e; rw[if_neg e,h]
 ·rename_i h
  split at h
  ·simp at h
  ·rename_i e; rw[if_neg e,h]
theorem mN(T:Tr af)(d:Option Nat)(t:Nat)(v:af):ev (aO T d v) (.t t)=if d=some t then v else ev T (.t t):=by
 cases d with
 | none=>simp[aO]
 | some d=>
  simp only[aO,aS,sJ]
  by_cases e:t=d
  ·rw[if_pos e,if_pos e.symm]
  ·rw[if_neg e,if_neg fun q=>e q.symm]
theorem GE.put(h:GE n T U){d:Option Nat}(hd:dd n d=true)(v:af):GE n (aO T d v) (aO U d v):=by
 refine⟨fun t ht=>?_,fun t ht=>?_⟩
 ·rw[mN,mN,h.1 t ht]
 ·rw[mN,h.2 t ht,if_neg]
  rintro rfl
  have:=dU hd
  omega
theorem GE.ghost(h:GE n T U){d:Nat}(hd:n<=d)(v:af):GE n (T.set d v) U:=
 ⟨fun t ht=>by rw[aS,if_neg om]; exact h.1 t ht,h.2⟩
def kw(n:Nat)(T T':Tr af):Prop:=∀t,n<=t->ev T' (.t t)=ev T (.t t)
theorem kw.put{d:Option Nat}(hd:dd n d=true)(v:af):kw n T (aO T d v):=fun t ht=>by
 rw[mN,if_neg]
 rintro rfl
 have:=dU hd
 omega
theorem kw.trans{T1 T2:Tr af}(h:kw n T T1)(k:kw n T1 T2):kw n T T2:=fun t ht=>(k t ht).trans (h t ht)
theorem xY(h:GE n T U){o:ak}(ho:dc n o=true)(H:ae):bw tb call o T H=bw tb call o U H:=by
 simp only[dc,Pu]at ho
 simp only[bw,zM h ho.2.1,Hd h ho.1]
theorem bx(o:ak)(r:List ak)(T:Tr af)(H:ae):be tb call (o::r) T H=match bw tb call o T H with
  | some (v,H')=>be tb call r (aO T o.dst v) H'
  | none=>none:=by
 simp only[be,bw]
 cases fR T o.guard with
 | false=>rfl
 | true=>
  simp only[cond_true]
  cases bG tb T H o.op with
  | none=>rfl
  | some p=>obtain⟨nx,H'⟩:=p; cases nx <;> rfl
theorem eM:∀(l m:List ak) (T:Tr af) (H:ae),be tb call (l++m) T H=match be tb call l T H with
  | some (T1,H1)=>be tb call m T1 H1
  | none=>none
 | [],m,T,H=>rfl
 | o::l,m,T,H=>by
  rw[PM,bx,bx]
  cases bw tb call o T H with
  | none=>rfl
  | some p=>obtain⟨v,H1⟩:=p; exact eM l m _ _
theorem tQ:∀(l:List ak) {T U:Tr af} {H:ae},GE n T U->l.all (dc n)=true->cp tb call l T H=cp tb call l U H
 | [],_,_,_,_,_=>rfl
 | o::r,T,U,H,h,hl=>by
  simp only[List.all_cons,Pu]at hl
  simp only[cp]
  rw[xY h hl.1]
  cases bw tb call o U H with
  | none=>rfl
  | some p=>
   obtain⟨v,H1⟩:=p
   have hd:dd n o.dst=true:=by
    have:=hl.1
    simp only[dc,Pu]at this
    exact this.2.2
   simp only
   rw[tQ r (h.put hd v) hl.2]
theorem tI(hs:List ae):∀(l:List ak) (ps:List (List Nat)) (ss:List (af×ae)) {T U:Tr af},GE n T U->l.all (dc n)=true->eH tb hs l ps ss T=eH tb hs l ps ss U
 | [],_,_,_,_,_,_=>rfl
 | o::r,[],_,_,_,_,_=>rfl
 | o::r,p::ps,[],_,_,_,_=>rfl
 | o::r,p::ps,(v,H1)::ss,T,U,h,hl=>by
  simp only[List.all_cons,Pu]at hl
  have ho:=hl.1
  simp only[dc,Pu]at ho
  simp only[eH,zM h ho.2.1,Hd h ho.1,tI hs r ps ss (h.put ho.2.2 v) hl.2]
theorem uq(m:Nat->Bool):∀(l:List ak) (i:Nat) (ss:List (af×ae)) {T U:Tr af},GE n T U->l.all (dc n)=true->GE n (bn m i l ss T) (bn m i l ss U)/\kw n T (bn m i l ss T)
 | [],_,_,_,_,h,_=>⟨h,fun _ _=>rfl⟩
 | o::r,i,[],_,_,h,_=>⟨h,fun _ _=>rfl⟩
 | o::r,i,(v,H1)::ss,T,U,h,hl=>by
  simp only[List.all_cons,Pu]at hl
  have ho:=hl.1
  simp only[dc,Pu]at ho
  simp only[bn]
  cases m i with
  | true=>
   obtain⟨q1,q2⟩:=uq m r (i+1) ss (h.put ho.2.2 v) hl.2
   exact⟨q1,(kw.put ho.2.2 v).trans q2⟩
  | false=>exact uq m r (i+1) ss h hl.2
theorem Hi{l:List ak}{chk:List (List Nat)}{H H':ae}{e:pt}{T':Tr af}(h:GE n T U)(hl:l.all (dc n)=true)(hr:kq tb call l chk T H=some (e,T',H')) :
  e=.normal/\∃U',kq tb call l chk U H=some (.normal,U',H')/\GE n T' U'/\kw n T T':=by
 unfold kq at hr ⊢
 rw[tQ l h hl]at hr
 cases ht:cp tb call l U H with
 | none=>rw[ht]at hr; simp at hr
 | some ss=>
  rw[ht]at hr
  simp only at hr ⊢
  rw[tI _ l _ ss h hl]at hr
  cases hc:eH tb (H::ss.map (·.2)) l chk ss U with
  | false=>rw[hc]at hr; simp at hr
  | true=>
   rw[hc]at hr
   simp only[cond_true,sJ,pJ]at hr ⊢
   obtain⟨rfl,rfl,rfl⟩:=hr
   obtain⟨q1,q2⟩:=uq (fun _=>true) l 0 ss h hl
   exact⟨rfl,_,⟨trivial,rfl,rfl⟩,q1,q2⟩
theorem qC:∀(l:List ak) (b:Nat),l.all (dc n)=true->(aB b l).all (dc n)=true
 | [],_,_=>rfl
 | o::r,b,hl=>by
  simp only[List.all_cons,Pu]at hl
  simp only[aB]
  cases hz:dR o.op with
  | none=>simp only[List.all_cons,hl.1,qC r b hl.2,Bool.and_self]
  | some p=>
   obtain⟨z,s⟩:=p
   have ho:=hl.1
   simp only[dc,Pu]at ho
   simp only[List.all_cons,qC r (b+1) hl.2,dc,Jg,ho.2.1,ho.2.2,Bool.and_self]
end
end Go.Abs
namespace Go.Abs
def PB:Nat:=1000000
inductive ua where
 | ord (o:ak)
 | pnc (x:bb)
 | dfr (x:bb)
 | tc (f:Nat) (args:List bb) (d:Option Nat) (g:Option (Nat×Bool))
def fr(n:Nat):List ua->List ak->bh
 | [],acc=>.reg acc.reverse
 | .ord o::r,acc=>fr n r (o::acc)
 | .dfr x::r,acc=>fr n r (⟨some (n+1),.pf .dset [.t (n+1),x],none⟩::acc)
 | .pnc x::_,acc=>.seq (.reg (acc.reverse++[⟨some n,.pf .mkP [x],none⟩])) (.exit PB)
 | .tc f args d g::r,acc=>.seq (.reg (acc.reverse++[⟨some (n+3),.call (bO+f) args,g⟩,⟨some (n+2),.pf .isP [.t (n+3)],none⟩]))
   (.seq (.cond (.t (n+2)) (.seq (.reg [⟨some n,.mv (.t (n+3)),none⟩]) (.exit PB)) .skip) (fr n r [⟨d,.mv (.t (n+3)),none⟩]))
section
variable (P:Program) (n:Nat) (ps:List Nat)
def M0(ops:Array Oper)(o:Oper):Option ua:=match dC P n ops o with
 | some a=>bif dc n a then some (.ord a) else none
 | none=>none
def qi(o:Op):Option (Nat×List Operand):=match o with
 | .call c=>match c.callee with
  | .value (.func f)=>bif ps.any (Nat.beq f) then some (f,c.args.toList) else none
  | _=>none
 | _=>none
def J8(ops:Array Oper)(o:Oper):Option ua:=match o.op with
 | .panic x=>match o.guard,bI x with
  | none,some y=>bif cI n y then some (.pnc y) else none
  | _,_=>none
 | .defer c=>match o.guard,o.dst,c.callee with
  | none,none,.value x=>match c.args.toList,bI x with
   | [],some y=>bif cI n y then some (.dfr y) else none
   | _,_=>none
  | _,_,_=>none
 | op=>match qi ps op with
  | some (f,l)=>match de l,gK n ops o.guard with
   | some l,some g=>bif Nat.blt f bO&&(jR n l&&(IP n g&&dd n o.dst)) then some (.tc f l o.dst g) else none
   | _,_=>none
  | none=>M0 P n ops o
def qJ(ops:Array Oper):List Oper->Option (List ua)
 | []=>some []
 | o::r=>match J8 P n ps ops o,qJ ops r with
  | some a,some l=>some (a::l)
  | _,_=>none
def wt:Nat->List Oper->Option (Nat×Nat)
 | _,[]=>none
 | j,o::r=>match qi ps o.op,o.dst with
  | some _,some d=>some (j,d)
  | _,_=>wt (j+1) r
def MZ(ops:Array Oper)(o:Oper):Option ak:=match qi ps o.op with
 | some (f,l)=>match de l,gK n ops o.guard with
  | some l,some g=>bif Nat.blt f bO&&dd n o.dst then some ⟨o.dst,.call (bO+f) l,g⟩ else none
  | _,_=>none
 | none=>none
def ML(d:Nat)(a:ak):Option ak:=match a.guard,dR a.op with
 | none,none=>some ⟨a.dst,a.op,some (SK+d,false)⟩
 | _,_=>none
def Ly(ops:Array Oper)(ms:List Nat)(c d:Nat)(j:Nat)(o:Oper):Option ak:=
 bif Nat.beq j c then MZ n ps ops o else match dC P n ops o with
  | some a=>bif iF ms j c then ML d a else some a
  | none=>none
def xH(ops:Array Oper)(ms:List Nat)(c d:Nat):Nat->List Oper->Option (List ak)
 | _,[]=>some []
 | j,o::r=>match Ly P n ps ops ms c d j o,xH ops ms c d (j+1) r with
  | some a,some l=>some (a::l)
  | _,_=>none
def wD(c d:Nat):Nat->List ak->Bool
 | _,[]=>true
 | k,a::r=>(Nat.beq k c||!(a.dst==some d))&&wD c d (k+1) r
def qH(ops:Array Oper)(rest:List Oper):Option (List ak×Option (Nat×Nat)):=match cA P n ops rest with
 | some l=>some (l,none)
 | none=>none
def BQ(ops:Array Oper)(rest:List Oper):Option (List ak×Option (Nat×Nat)):=match wt ps 0 rest with
 | some (c,d)=>match xH P n ps ops (aZ [] (ops.toList.map aX)) c d 0 rest with
  | some l=>bif wD c d 0 l then some (l,some (c,d)) else qH P n ops rest
  | none=>qH P n ops rest
 | none=>qH P n ops rest
def GJ(ops:Array Oper):Option bh:=match BQ P n ps ops ops.toList with
 | some (l,d)=>bif fy (ops.toList.map aX) (aZ [] (ops.toList.map aX))&&dJ (aB 0 l) (aZ [] (ops.toList.map aX))&&l.all (dc n) then
   (match d with
    | none => some (.draw l ((List.range l.length).map (dL (aB 0 l) (aZ [] (ops.toList.map aX)))))
    | some (_, d) => some (.seq (.draw l ((List.range l.length).map (dL (aB 0 l) (aZ [] (ops.toList.map aX)))))
     (.seq (.reg [⟨some (n+2),.pf .isP [.t d],none⟩]) (.cond (.t (n+2)) (.seq (.reg [⟨some (n+2),.pf .isU [.t (n+1)],none⟩]) (.cond (.t (n+2)) (.seq (.reg [⟨some n,.mv (.t d),none⟩]) (.exit PB)) ft)) .skip))))
  else some ft
 | none=>none
def dw:Code->Option bh
 | .skip=>some .skip
 | .region _ ops false=>match qJ P n ps ops ops.toList with
  | some its=>some (fr n its [])
  | none=>none
 | .region _ ops true=>GJ P n ps ops
 | .seq a b=>match dw a,dw b with
  | some a,some b=>some (.seq a b)
  | _,_=>none
 | .cond c a b=>match bI c,dw a,dw b with
  | some c,some a,some b=>bif cI n c then some (.cond c a b) else none
  | _,_,_=>none
 | .block id c=>match dw c with
  | some c=>bif Nat.beq id PB then none else some (.block id c)
  | none=>none
 | .loop c=>match dw c with
  | some c=>some (.loop c)
  | none=>none
 | .exit id=>bif Nat.beq id PB then none else some (.exit id)
 | .ret=>some (.exit PB)
 | _=>some ft
end
section
variable {tb:FuncId->Bool} {call:FuncId->List af->ae->Option (af×ae)} {k:Nat}
theorem fF(n:Nat):∀(its:List ua) (acc:List ak) (T:Tr af) (H:ae),aK tb call k (fr n its acc) T H=match be tb call acc.reverse T H with
  | some (T1,H1)=>aK tb call k (fr n its []) T1 H1
  | none=>none
 | [],acc,T,H=>by
  simp only[fr,aK,List.reverse_nil,be] <;> (cases be tb call acc.reverse T H <;> rfl)
 | .ord o::r,acc,T,H=>by
  simp only[fr]
  rw[fF n r (o::acc),List.reverse_cons,eM]
  cases be tb call acc.reverse T H with
  | none=>rfl
  | some p=>
   obtain⟨T1,H1⟩:=p
   simp only
   rw[fF n r [o] T1 H1]
   rfl
 | .dfr x::r,acc,T,H=>by
  simp only[fr]
  rw[fF n r (_::acc),List.reverse_cons,eM]
  cases be tb call acc.reverse T H with
  | none=>rfl
  | some p=>
   obtain⟨T1,H1⟩:=p
   simp only
   rw[fF n r [_] T1 H1]
   rfl
 | .pnc x::r,acc,T,H=>by
  simp only[fr,aK,eM,List.reverse_nil,List.nil_append]
  cases be tb call acc.reverse T H with
  | none=>rfl
  | some p=>rfl
 | .tc f l d g::r,acc,T,H=>by
  simp only[fr,aK,eM,List.reverse_nil,List.nil_append]
  cases be tb call acc.reverse T H with
  | none=>rfl
  | some p=>rfl
end
section
variable {P:Program} {Prot:Gh} {w0:World} {ρ:Pl} {H H':ae} {w:World}
def NJ(ρ:Pl)(x:af)(ds:List Deferred):Prop:=(x=aN/\ds=[]) ∨
 ∃f a b d cap,x=.func (.func f) a b/\ds=[d]/\d.target=.fn (.func f) cap/\ah ρ b cap.toList/\ah ρ a d.args.toList
theorem NJ.mono{ρ ρ':Pl}(h:ρ.le ρ'){x:af}{ds:List Deferred}(d:NJ ρ x ds):NJ ρ' x ds:=by
 rcases d with d | ⟨f,a,b,d,cap,h1,h2,h3,h4,h5⟩
 ·exact .inl d
 ·exact .inr ⟨f,a,b,d,cap,h1,h2,h3,ah.mono h _ _ h4,ah.mono h _ _ h5⟩
structure GT(ρ:Pl)(n:Nat)(T:Tr af)(a:Act):Prop where
 t:∃U,GE n T U/\aJ ρ n U a.tmps
 d:NJ ρ (ev T (.t (n+1))) a.defers
theorem GT.mono{ρ ρ':Pl}(h:ρ.le ρ'){n:Nat}{T:Tr af}{a:Act}(g:GT ρ n T a):GT ρ' n T a:=
 ⟨let ⟨U,h1,h2⟩:=g.t; ⟨U,h1,h2.mono h⟩,g.d.mono h⟩
theorem GT.ghost{n:Nat}{T:Tr af}{a:Act}(g:GT ρ n T a){d:Nat}(hd:n<=d)(hne:d≠n+1)(v:af):GT ρ n (T.set d v) a:=
 ⟨let ⟨U,h1,h2⟩:=g.t; ⟨U,h1.ghost hd v,h2⟩,by rw[aS,if_neg (fun e=>hne e.symm)]; exact g.d⟩
def pq(ρ:Pl)(n:Nat)(T:Tr af)(a:Act):Prop:=GT ρ n T a/\ev T (.t n)=aN
def Mb(ρ:Pl)(n:Nat)(T:Tr af)(a:Act)(u:Value):Prop:=∃x,ev T (.t n)=jQ x/\ag ρ x u/\((a.defers=[]/\ev T (.t (n+1))=aN)∨GT ρ n T a)
def DN(Prot:Gh)(w0:World)(ρ:Pl)(n:Nat)(e:pt)(T:Tr af)(H:ae):Exit->Act->World->Prop:=fun e' a w=>
 ∃ρ',ρ.le ρ'/\Rel Prot w0 ρ' H w/\match e with
  | .normal=>e'=.normal/\pq ρ' n T a
  | .exit id=>(id≠PB/\e'=.exit id/\pq ρ' n T a)∨(id=PB/\((e'=.ret/\pq ρ' n T a)∨∃u,e'=.panic [{ v:=u,recovered:=false }]/\Mb ρ' n T a u))
  | .ret=>False
theorem DN.weaken{ρ ρ':Pl}{n:Nat}{e:pt}{T:Tr af}{H:ae}(h:ρ.le ρ'){e':Exit}{a:Act}{w:World}(q:DN Prot w0 ρ' n e T H e' a w):DN Prot w0 ρ n e T H e' a w:=by
 obtain⟨ρ2,h2,h3⟩:=q
 exact⟨ρ2,Pl.le_trans h h2,h3⟩
theorem Ev{x:af}(h:ag ρ x undef):x=aN:=by
 unfold undef at h
 cases x with
 | tuple l=>
  simp only[ag]at h
  obtain⟨vs,e,hv⟩:=h
  simp only[Value.tuple.injEq]at e
  subst e
  cases l with
  | nil=>rfl
  | cons y l=>simp[ah]at hv
 | ptr a=>cases a <;> simp[ag]at h
 | slice a m r => cases a <;> simp only [ag] at h
                  · simp at h
                  · obtain ⟨_, _, _, _, _, h3, _⟩ := ci (by simpa only [ag] using h); simp at h3
 | map a=>cases a <;> simp[ag]at h
 | val v=>simp only[ag]at h; rw[<- h.1]at h; simp[Mg,Value.oneCell']at h
 | _=>simp[ag]at h
theorem F6{x:af}{v:Value}(h:ag ρ x v):eT x=false:=by
 cases hb:eT x with
 | false=>rfl
 | true=>obtain⟨y,e⟩:=lE hb; exact (yX h e).elim
end
end Go.Abs
namespace Go.Abs
section
variable {P:Program} {Prot:Gh} {w0:World} {ρ:Pl} {H H':ae} {w:World}
theorem Fc{f:Nat}{args:Array Operand}{ats:Array TypeId}{o:Oper}(hoe:o.op=.call ⟨.value (.func f),args,ats⟩)(hb:bc P f=true)(a:Act):(execOp a.eval o).run P w=.ok (.enter f (args.map a.eval)) w:=by
 have:=eL (P:=P) (w:=w) hb (args.map a.eval)
 obtain⟨dst,op,type,pos,after,guard⟩:=o
 simp only at hoe
 subst hoe
 simp[execOp,resolve,Act.eval,Deferred.ofValue,invoke,this]
theorem sK{ps:List Nat}{o:Op}{f:Nat}{l:List Operand}(h:qi ps o=some (f,l)):∃args ats,o=.call ⟨.value (.func f),args,ats⟩/\l=args.toList:=by
 unfold qi at h
 split at h
 ·rename_i c
  split at h
  ·rename_i g hg
   obtain⟨cal,args,ats⟩:=c
   simp only at hg
   subst hg
   cases hp:ps.any (Nat.beq g) with
   | false=>rw[hp]at h; simp at h
   | true=>
    rw[hp]at h
    simp only[cond_true,sJ,pJ]at h
    obtain⟨rfl,rfl⟩:=h
    exact⟨args,ats,rfl,rfl⟩
  ·simp at h
 ·simp at h
theorem yS(a:Act)(d:Option Nat)(v:Value):(a.put d v).defers=a.defers:=by cases d <;> rfl
theorem GT.put{n:Nat}{T:Tr af}{a:Act}(g:GT ρ n T a){d:Option Nat}(hd:dd n d=true){x:af}{v:Value}(hv:ag ρ x v):GT ρ n (aO T d x) (a.put d v):=by
 obtain⟨U,h1,h2⟩:=g.t
 refine⟨⟨aO U d x,h1.put hd x,bu h2 hd hv⟩,?_⟩
 rw[yS,kw.put hd x (n+1) om]
 exact g.d
theorem pq.put{n:Nat}{T:Tr af}{a:Act}(g:pq ρ n T a){d:Option Nat}(hd:dd n d=true){x:af}{v:Value}(hv:ag ρ x v):pq ρ n (aO T d x) (a.put d v):=
 ⟨g.1.put hd hv,by rw[kw.put hd x n rL]; exact g.2⟩
theorem pq.mono{ρ ρ':Pl}(h:ρ.le ρ'){n:Nat}{T:Tr af}{a:Act}(g:pq ρ n T a):pq ρ' n T a:=⟨g.1.mono h,g.2⟩
theorem pq.ghost{n:Nat}{T:Tr af}{a:Act}(g:pq ρ n T a){d:Nat}(hd:n+2<=d)(v:af):pq ρ n (T.set d v) a:=
 ⟨g.1.ghost om om v,by rw[aS,if_neg om]; exact g.2⟩
theorem bQ{tb:FuncId->Bool}{call:FuncId->List af->ae->Option (af×ae)}(d:Option Nat)(op:gT)(T:Tr af)(H:ae):bw tb call ⟨d,op,none⟩ T H=match bG tb T H op with
  | some (.val v,H')=>some (v,H')
  | some (.enter f args,H')=>call f args H'
  | none=>none:=rfl
theorem nW{tb:FuncId->Bool}{call:FuncId->List af->ae->Option (af×ae)}{o:ak}{T T':Tr af}{H H':ae}(h:be tb call [o] T H=some (T',H')):∃v,bw tb call o T H=some (v,H')/\T'=aO T o.dst v:=by
 rw[bx]at h
 cases hs:bw tb call o T H with
 | none=>rw[hs]at h; simp at h
 | some p=>
  obtain⟨v,H1⟩:=p
  rw[hs]at h
  simp only[be,sJ,pJ]at h
  obtain⟨rfl,rfl⟩:=h
  exact⟨v,rfl,rfl⟩
theorem Io{tb:FuncId->Bool}(htb:∀f,Nat.blt f bO=true->tb f=true->bc P f=true){call:FuncId->List af->ae->Option (af×ae)}(hcall:gR P call){n:Nat}{ops:Array Oper}{o:Oper}{ao:ak}
  (hco:dC P n ops o=some ao) (haT:dc n ao=true) {ρ0:Pl} {T:Tr af} {a:Act} (hle:ρ0.le ρ) (R:Rel Prot w0 ρ H w) (hP:pq ρ n T a) {v:af} {H1:ae} (hs:bw tb call ao T H=some (v,H1)) {rest:List Nat} {Q:Exit->Act->World->Prop} {i:Nat} (ho:ops[i]?=some o)
  (hnext:∀(ρ1:Pl) (a':Act) (w':World),ρ0.le ρ1->Rel Prot w0 ρ1 H1 w'->pq ρ1 n (aO T ao.dst v) a'->wpOps P ops Q rest a' w'):wpOps P ops Q (i::rest) a w:=by
 obtain⟨U,hG,ht⟩:=hP.1.t
 rw[xY hG haT]at hs
 unfold dC at hco
 split at hco
 ·rename_i ax g hop hg
  cases hdst:dd n o.dst with
  | false=>rw[hdst]at hco; simp at hco
  | true=>
   rw[hdst]at hco
   simp only[cond_true,sJ]at hco
   subst hco
   simp only[wpOps,ho]
   simp only[bw]at hs
   rw[eU ht hg]
   cases hgo:fR U g with
   | false=>
    rw[hgo]at hs
    simp only[cond_false,sJ,pJ]at hs
    obtain⟨rfl,rfl⟩:=hs
    simp only[PD,if_false]
    exact hnext ρ _ w hle R (hP.put hdst dG)
   | true=>
    rw[hgo]at hs
    simp only[cond_true]at hs
    simp only[if_true]
    left
    split at hs
    ·rename_i v' H2 hv
     simp only[sJ,pJ]at hs
     obtain⟨rfl,rfl⟩:=hs
     obtain⟨ρ1,w1,nx,q1,q2,q3,q4⟩:=gC htb R ht o hop hv
     simp only[Oper.wp,q2]
     cases nx <;> simp only[iz]at q4
     case value u=>exact hnext ρ1 _ w1 (Pl.le_trans hle q1) q3 ((hP.mono q1).put hdst q4)
     case skip=>exact hnext ρ1 _ w1 (Pl.le_trans hle q1) q3 ((hP.mono q1).put hdst q4)
    ·rename_i f args H2 hv
     obtain⟨ρ1,w1,nx,q1,q2,q3,q4⟩:=gC htb R ht o hop hv
     simp only[Oper.wp,q2]
     cases nx <;> simp only[iz]at q4
     case enter g vs=>
      obtain⟨rfl,hbig,q5⟩:=q4
      simp only[Oper.upon]
      refine (hcall _ _ _ _ _ hbig hs Prot w0 ρ1 w1 vs q3 q5).mono fun e w' hr=>?_
      obtain⟨ρ2,u,r1,rfl,r3,r4⟩:=hr
      exact hnext ρ2 _ w' (Pl.le_trans hle (Pl.le_trans q1 r1)) r3 ((hP.mono (Pl.le_trans q1 r1)).put hdst r4)
    ·simp at hs
 ·simp at hco
theorem Dc{tb:FuncId->Bool}(htb:∀f,Nat.blt f bO=true->tb f=true->bc P f=true)(htbP:∀f,Nat.blt f bO=true->tb (bO+f)=true->bc P f=true){call:FuncId->List af->ae->Option (af×ae)}(hcall:gR P call)(hcallP:yu P call)
  {n k:Nat} {ps:List Nat} {ops:Array Oper}:∀(rest:List Oper) (i:Nat) (its:List ua),(∀j,rest[j]?=ops[i+j]?)->qJ P n ps ops rest=some its->∀(ρ0 ρ:Pl) (T T':Tr af) (H H':ae) (e:pt) (a:Act) (w:World),ρ0.le ρ ->
   Rel Prot w0 ρ H w->pq ρ n T a->aK tb call k (fr n its []) T H=some (e,T',H')->wpOps P ops (DN Prot w0 ρ0 n e T' H') (List.range' i rest.length) a w:=by
 intro rest
 induction rest with
 | nil=>
  intro i its _ hc ρ0 ρ T T' H H' e a w hle R hP h
  simp only[qJ,sJ]at hc
  subst hc
  simp only[fr,aK,List.reverse_nil,be,sJ,pJ]at h
  obtain⟨rfl,rfl,rfl⟩:=h
  exact⟨ρ,hle,R,rfl,hP⟩
 | cons o rest ih=>
  intro i its hi hc ρ0 ρ T T' H H' e a w hle R hP h
  simp only[qJ]at hc
  split at hc
  ·rename_i it l' ha hl
   simp only[sJ]at hc
   subst hc
   have ho:ops[i]?=some o:=by have:=hi 0; simpa using this.symm
   have hnx:∀j,rest[j]?=ops[i+1+j]?:=fun j=>by have:=hi (j+1); simp only[PC]at this; rw[this]; congr 1; omega
   rw[Pv,List.range'_succ]
   unfold J8 at ha
   split at ha
   ·-- a panic
    rename_i x hox
    split at ha
    ·rename_i y hg hy
     cases hT:cI n y with
     | false=>rw[hT]at ha; simp at ha
     | true=>
      rw[hT]at ha
      simp only[cond_true,sJ]at ha
      subst ha
      simp only[fr,aK,List.reverse_nil,List.nil_append]at h
      split at h
      ·rename_i T1 H1 h1
       split at h1
       ·rename_i T2 H2 h2
        simp only[sJ,pJ]at h1
        obtain⟨_,rfl,rfl⟩:=h1
        simp only[sJ,pJ]at h
        obtain⟨rfl,rfl,rfl⟩:=h
        obtain⟨v,hs,rfl⟩:=nW h2
        obtain⟨U,hG,ht⟩:=hP.1.t
        rw[bQ]at hs
        simp only[bG,eX,iu,vv]at hs
        have hx:=aC ht hy
        rw[<- hG.x hT]at hx
        generalize ev T y=q at hs hx
        unfold Nj at hs
        split at hs
        ·rename_i v' H3 hv
         split at hv
         ·rename_i v2 hv2
          split at hv2
          ·rename_i t z heq
           simp only[List.cons.injEq,and_true]at heq
           subst heq
           simp only[sJ]at hv2
           subst hv2
           simp only[sJ,pJ,Nx.val.injEq]at hv hs
           obtain⟨rfl,rfl⟩:=hv
           obtain⟨rfl,rfl⟩:=hs
           simp only[wpOps,ho]
           have hw:Region.wanted o (yielded ops a.tmps)=true:=by simp[Region.wanted,hg]
           rw[if_pos hw]
           left
           have hx':=hx
           simp only[ag]at hx'
           obtain⟨yv,e1,e2⟩:=hx'
           have hrun:(execOp a.eval o).run P w=.halt (.panic (.iface t yv)) w:=by
            obtain⟨dst,op,type,pos,after,guard⟩:=o
            simp only at hox
            subst hox
            show (do pure (Next.value (<- Instr.panic (a.eval x))):Sem Next).run P w=_
            rw[e1]
            rfl
           simp only[Oper.wp,hrun,Oper.upon]
           refine⟨ρ,hle,R,.inr ⟨rfl,.inr ⟨_,rfl,.iface t z,?_,?_,.inr ?_⟩⟩⟩
           ·simp only[aO,aS,if_true]
           ·rw[<- e1]; exact hx
           ·exact hP.1.ghost rL om _
          ·simp at hv2
         ·simp at hv
        ·rename_i f args H3 hv
         split at hv <;> simp at hv
        ·simp at hs
       ·simp at h1
      ·rename_i e1 T1 H1 hne h1
       split at h1
       ·simp only[sJ,pJ]at h1
        exact (hne h1.1.symm).elim
       ·simp at h1
      ·simp at h
    ·simp at ha
   ·-- a call laid kn
    rename_i c hox
    split at ha
    ·rename_i x hg hd hcal
     split at ha
     ·rename_i y hargs hy
      cases hT:cI n y with
      | false=>rw[hT]at ha; simp at ha
      | true=>
       rw[hT]at ha
       simp only[cond_true,sJ]at ha
       subst ha
       simp only[fr]at h
       rw[fF]at h
       split at h
       ·rename_i T1 H1 h1
        simp only[List.reverse_cons,List.reverse_nil,List.nil_append]at h1
        obtain⟨v,hs,rfl⟩:=nW h1
        obtain⟨U,hG,ht⟩:=hP.1.t
        rw[bQ]at hs
        simp only[bG,eX,iu,vv]at hs
        have hx:=aC ht hy
        rw[<- hG.x hT]at hx
        have hdf:=hP.1.d
        generalize ev T (.t (n+1))=z at hs hdf
        generalize ev T y=q at hs hx
        unfold Kj at hs
        split at hs
        ·rename_i v' H3 hv
         split at hv
         ·rename_i v2 hv2
          split at hv2
          ·rename_i f fa fb heq
           simp only[List.cons.injEq,and_true]at heq
           obtain⟨rfl,rfl⟩:=heq
           simp only[sJ]at hv2
           subst hv2
           simp only[sJ,pJ,Nx.val.injEq]at hv hs
           obtain⟨rfl,rfl⟩:=hv
           obtain⟨rfl,rfl⟩:=hs
           have hds:a.defers=[]:=by
            rcases hdf with⟨_,h9⟩ | ⟨f',a',b',d',cap',h9,_⟩
            ·exact h9
            ·simp at h9
           simp only[wpOps,ho]
           have hw:Region.wanted o (yielded ops a.tmps)=true:=by simp[Region.wanted,hg]
           rw[if_pos hw]
           left
           simp only[ag]at hx
           obtain⟨fv,cv,hfv,hv1,hv2⟩:=hx
           have hrun:(execOp a.eval o).run P w=.ok (.defer { target:=.fn (.func f) cv,args:=fv }) w:=by
            obtain⟨dst,op,type,pos,after,guard⟩:=o
            obtain⟨cal,args,ats⟩:=c
            simp only at hox hcal hargs hd
            subst hox hcal hd
            have:args=#[]:=by simpa using hargs
            subst this
            simp[execOp,resolve,hfv,Deferred.ofValue]
           simp only[Oper.wp,hrun,Oper.upon,hd]
           refine ih (i+1) l' hnx hl ρ0 ρ _ _ _ _ _ _ _ hle R ⟨⟨⟨U,hG.ghost om _,ht⟩,?_⟩,?_⟩ h
           ·simp only[aO,aS,if_true,Act.put,hds]
            exact .inr ⟨f,fa,fb,_,cv,rfl,rfl,rfl,hv2,hv1⟩
           ·simp only[aO,aS]
            rw[if_neg om]
            exact hP.2
          ·simp at hv2
         ·simp at hv
        ·rename_i f args H3 hv
         split at hv <;> simp at hv
        ·simp at hs
       ·simp at h
     ·simp at ha
    ·simp at ha
   ·-- a call that may panic,or whatever is ordinary
    split at ha
    ·rename_i f lo hraw
     obtain⟨args,ats,hoe,rfl⟩:=sK hraw
     split at ha
     ·rename_i lx g hlx hgc
      cases hcnd:Nat.blt f bO&&(jR n lx&&(IP n g&&dd n o.dst)) with
      | false=>rw[hcnd]at ha; simp at ha
      | true=>
       rw[hcnd]at ha
       simp only[cond_true,sJ]at ha
       subst ha
       simp only[Pu]at hcnd
       obtain⟨hbig,hlT,hgT,hdst⟩:=hcnd
       obtain⟨U,hG,ht⟩:=hP.1.t
       have key:∃(v:af) (H1:ae),bw tb call ⟨some (n+3),.call (bO+f) lx,g⟩ T H=some (v,H1) /\
         ((eT v = true /\ e = .exit PB /\ T' = (((T.set (n + 3) v).set (n + 2) (.bool true)).set n v) /\ H' = H1) ∨
          (eT v = false /\ aK tb call k (fr n l' []) (aO ((T.set (n + 3) v).set (n + 2) (.bool false)) o.dst v) H1 = some (e, T', H'))) := by
        simp only[fr,aK,List.reverse_nil,List.nil_append]at h
        rw[bx]at h
        cases hs:bw tb call ⟨some (n+3),.call (bO+f) lx,g⟩ T H with
        | none=>rw[hs]at h; simp at h
        | some p=>
         obtain⟨v,H1⟩:=p
         rw[hs]at h
         refine⟨v,H1,rfl,?_⟩
         simp only[aO]at h
         rw[bx,bQ]at h
         have e3:ev (T.set (n+3) v) (.t (n+3))=v:=by rw[aS,if_pos rfl]
         simp only[bG,eX,iu,vv,LT,e3,be,aO]at h
         have e2:ev ((T.set (n+3) v).set (n+2) (.bool (eT v))) (.t (n+2))=.bool (eT v):=by rw[aS,if_pos rfl]
         have e33:ev ((T.set (n+3) v).set (n+2) (.bool (eT v))) (.t (n+3))=v:=by rw[aS,if_neg om,aS,if_pos rfl]
         rw[e2]at h
         cases hp:eT v with
         | true=>
          rw[hp]at h e33
          simp only[fR,cond_true,e33,sJ,pJ]at h
          obtain⟨rfl,rfl,rfl⟩:=h
          exact .inl ⟨rfl,rfl,rfl,rfl⟩
         | false=>
          rw[hp]at h e33
          simp only at h
          rw[fF]at h
          simp only[List.reverse_cons,List.reverse_nil,List.nil_append]at h
          rw[bx,bQ]at h
          simp only[bG,e33,be]at h
          exact .inr ⟨rfl,h⟩
       obtain⟨v,H1,hs,hk⟩:=key
       simp only[wpOps,ho]
       rw[eU ht hgc]
       simp only[bw,zM hG hgT]at hs
       have hgg:∀(ρ':Pl),ρ.le ρ'->∀b,pq ρ' n ((T.set (n+3) v).set (n+2) b) a:=fun ρ' hl b=>((hP.mono hl).ghost om v).ghost rL b
       cases hgo:fR U g with
       | false=>
        rw[hgo]at hs
        simp only[cond_false,sJ,pJ]at hs
        obtain⟨rfl,rfl⟩:=hs
        simp only[PD,if_false]
        rcases hk with⟨hp,_⟩ | ⟨_,hk⟩
        ·simp[eT,aN]at hp
        ·exact ih (i+1) l' hnx hl ρ0 ρ _ _ _ _ _ _ w hle R ((hgg ρ (Pl.le_refl _) _).put hdst dG) hk
       | true=>
        rw[hgo]at hs
        simp only[cond_true]at hs
        simp only[if_true]
        left
        simp only[bG]at hs
        cases hb:tb (bO+f) with
        | false=>rw[hb]at hs; simp at hs
        | true=>
         rw[hb]at hs
         simp only[cond_true]at hs
         rw[hG.xs hlT]at hs
         simp only[Oper.wp,Fc hoe (htbP f hbig hb) a,Oper.upon]
         refine (hcallP f _ _ _ _ hbig hs Prot w0 ρ w (args.map a.eval) R (by simpa using fK ht hlx)).mono fun e' w' hr=>?_
         obtain⟨ρ2,r1,r3,⟨u,rfl,r4⟩ | ⟨x,u,rfl,rfl,r4⟩⟩:=hr
         ·rcases hk with⟨hp,_⟩ | ⟨_,hk⟩
          ·rw[F6 r4]at hp; simp at hp
          ·exact ih (i+1) l' hnx hl ρ0 ρ2 _ _ _ _ _ _ w' (Pl.le_trans hle r1) r3 ((hgg ρ2 r1 _).put hdst r4) hk
         ·rcases hk with⟨_,rfl,rfl,rfl⟩ | ⟨hp,_⟩
          ·refine⟨ρ2,Pl.le_trans hle r1,r3,.inr ⟨rfl,.inr ⟨u,rfl,x,by rw[aS,if_pos rfl],r4,.inr ?_⟩⟩⟩
           exact (hgg ρ2 r1 _).1.ghost rL om _
          ·simp[eT,jQ]at hp
     ·simp at ha
    ·unfold M0 at ha
     split at ha
     ·rename_i ao hco
      cases haT:dc n ao with
      | false=>rw[haT]at ha; simp at ha
      | true=>
       rw[haT]at ha
       simp only[cond_true,sJ]at ha
       subst ha
       simp only[fr]at h
       rw[fF]at h
       split at h
       ·rename_i T1 H1 h1
        simp only[List.reverse_cons,List.reverse_nil,List.nil_append]at h1
        obtain⟨v,hs,rfl⟩:=nW h1
        exact Io htb hcall hco haT hle R hP hs ho fun ρ1 a' w' q1 q2 q3=>ih (i+1) l' hnx hl ρ0 ρ1 _ _ _ _ _ a' w' q1 q2 q3 h
       ·simp at h
     ·simp at ha
  ·simp at hc
end
end Go.Abs
namespace Go.Abs
section
variable {P:Program} {n:Nat} {ps:List Nat} {ops:Array Oper}
def Pq(P:Program)(n:Nat)(ops:Array Oper)(c d:Nat)(j:Nat)(o:Oper)(a:ak):Prop:=
 (j=c/\Cq P n ops o a)∨(j≠c/\iF (aZ [] (ops.toList.map aX)) j c=false/\dC P n ops o=some a)∨(j≠c/\iF (aZ [] (ops.toList.map aX)) j c=true/\∃a',dC P n ops o=some a'/\a'.guard=none/\dR a'.op=none/\a=⟨a'.dst,a'.op,some (SK+d,false)⟩)
theorem Dw{c d j:Nat}{o:Oper}{a:ak}(h:Ly P n ps ops (aZ [] (ops.toList.map aX)) c d j o=some a):Pq P n ops c d j o a/\a.dst=o.dst:=by
 have hdst:∀{a},dC P n ops o=some a->a.dst=o.dst:=by
  intro a h
  unfold dC at h
  split at h
  ·cases hd:dd n o.dst with
   | false=>rw[hd]at h; simp at h
   | true=>rw[hd]at h; simp only[cond_true,sJ]at h; subst h; rfl
  ·simp at h
 unfold Ly at h
 cases hb:Nat.beq j c with
 | true=>
  rw[hb]at h
  simp only[cond_true,MZ]at h
  split at h
  ·rename_i f lo hraw
   obtain⟨args,ats,hoe,rfl⟩:=sK hraw
   split at h
   ·rename_i lx g hlx hg
    cases hc:Nat.blt f bO&&dd n o.dst with
    | false=>rw[hc]at h; simp at h
    | true=>
     rw[hc]at h
     simp only[cond_true,sJ]at h
     subst h
     simp only[Pu]at hc
     exact⟨.inl ⟨Py hb,f,args,ats,lx,g,hoe,hlx,hg,hc.2,hc.1,rfl⟩,rfl⟩
   ·simp at h
  ·simp at h
 | false=>
  have hne:j≠c:=fun e=>by subst e; rw[Nat.beq_refl]at hb; simp at hb
  rw[hb]at h
  simp only[cond_false]at h
  split at h
  ·rename_i a' ha'
   cases hbt:iF (aZ [] (ops.toList.map aX)) j c with
   | false=>rw[hbt]at h; simp only[cond_false,sJ]at h; subst h; exact⟨.inr (.inl ⟨hne,hbt,ha'⟩),hdst ha'⟩
   | true=>
    rw[hbt]at h
    simp only[cond_true,ML]at h
    split at h
    ·rename_i hg hnw
     simp only[sJ]at h
     subst h
     exact⟨.inr (.inr ⟨hne,hbt,a',ha',hg,hnw,rfl⟩),(hdst ha':a'.dst=o.dst)⟩
    ·simp at h
  ·simp at h
theorem Al{c d:Nat}:∀{rest:List Oper} {l:List ak} {j:Nat},xH P n ps ops (aZ [] (ops.toList.map aX)) c d j rest=some l->l.length=rest.length/\∀k o,rest[k]?=some o->∃a,l[k]?=some a/\Pq P n ops c d (j+k) o a/\a.dst=o.dst:=by
 intro rest
 induction rest with
 | nil=>intro l j h; simp only[xH,sJ]at h; subst h; exact⟨rfl,fun k o h=>by simp at h⟩
 | cons o r ih=>
  intro l j h
  simp only[xH]at h
  split at h
  ·rename_i a l' ha hl
   simp only[sJ]at h
   subst h
   obtain⟨q1,q2⟩:=ih hl
   refine⟨by simp[q1],fun k o' hk=>?_⟩
   cases k with
   | zero=>
    simp only[PA,sJ]at hk
    subst hk
    exact⟨a,rfl,by rw[Nat.add_zero]; exact Dw ha⟩
   | succ k=>
    simp only[PC]at hk ⊢
    obtain⟨a',z1,z2⟩:=q2 k o' hk
    exact⟨a',z1,by rw[show j+(k+1)=j+1+k by omega]; exact z2⟩
  ·simp at h
theorem yY{c d:Nat}:∀{l:List ak} {k:Nat},wD c d k l=true->∀i b,l[i]?=some b->b.dst=some d->k+i=c:=by
 intro l
 induction l with
 | nil=>intro k _ i b h; simp at h
 | cons a r ih=>
  intro k h i b hb hd
  simp only[wD,Pu,Bool.or_eq_true,Bool.not_eq_true',beq_eq_false_iff_ne,ne_eq]at h
  cases i with
  | zero=>
   simp only[PA,sJ]at hb
   subst hb
   rcases h.1 with h1 | h1
   ·exact Py h1
   ·exact absurd hd h1
  | succ i=>
   simp only[PC]at hb
   have:=ih h.2 i b hb hd
   omega
theorem yR{c d:Nat}:∀{rest:List Oper} {j:Nat},wt ps j rest=some (c,d)->∃k o,c=j+k/\rest[k]?=some o/\o.dst=some d:=by
 intro rest
 induction rest with
 | nil=>intro j h; simp[wt]at h
 | cons o r ih=>
  intro j h
  simp only[wt]at h
  split at h
  ·rename_i d' _ hd
   simp only[sJ,pJ]at h
   obtain⟨rfl,rfl⟩:=h
   exact⟨0,o,rfl,rfl,hd⟩
  ·obtain⟨k,o',h1,h2,h3⟩:=ih h
   exact⟨k+1,o',om,by simpa using h2,h3⟩
theorem gJ{rest:List Oper}{l:List ak}{st:Option (Nat×Nat)}(h:BQ P n ps ops rest=some (l,st)):(st=none/\cA P n ops rest=some l) ∨
  ∃c d ac,st=some (c,d)/\l.length=rest.length/\(∀k o,rest[k]?=some o->∃a,l[k]?=some a/\Pq P n ops c d k o a)/\l[c]?=some ac/\ac.dst=some d/\(∀i b,l[i]?=some b->b.dst=some d->i=c):=by
 have hp:qH P n ops rest=some (l,st)->st=none/\cA P n ops rest=some l:=by
  intro h
  unfold qH at h
  split at h
  ·rename_i l' hl
   simp only[sJ,pJ]at h
   obtain⟨rfl,rfl⟩:=h
   exact⟨rfl,hl⟩
  ·simp at h
 unfold BQ at h
 split at h
 ·rename_i c d hr
  split at h
  ·rename_i l' hl
   cases hw:wD c d 0 l' with
   | false=>rw[hw]at h; exact .inl (hp h)
   | true=>
    rw[hw]at h
    simp only[cond_true,sJ,pJ]at h
    obtain⟨rfl,rfl⟩:=h
    obtain⟨q1,q2⟩:=Al hl
    obtain⟨k,o,hc,ho,hd⟩:=yR hr
    rw[Nat.zero_add]at hc
    subst hc
    obtain⟨ac,z1,_,z2⟩:=q2 c o ho
    exact .inr ⟨c,d,ac,rfl,q1,fun k o hk=>by have:=q2 k o hk; rw[Nat.zero_add]at this; obtain⟨a,y1,y2,_⟩:=this; exact⟨a,y1,y2⟩,z1,by rw[z2]; exact hd,fun i b hb hbd=>by have:=yY hw i b hb hbd; omega⟩
  ·exact .inl (hp h)
 ·exact .inl (hp h)
theorem ju:∀(m:List ak) (b:Nat),(aB b m).length=m.length
 | [],_=>rfl
 | o::r,b=>by simp only[aB]; cases dR o.op <;> simp[ju r]
theorem eG:∀(l:List ak) (b k:Nat) (a:ak),l[k]?=some a->∃c,b<=c/\(aB b l)[k]?=(aB c [a])[0]?
 | [],_,_,_,h=>by simp at h
 | o::r,b,0,a,h=>by
  simp only[PA,sJ]at h
  subst h
  refine⟨b,Nat.le_refl _,?_⟩
  simp only[aB]
  cases dR o.op with
  | none=>rfl
  | some p=>rfl
 | o::r,b,k+1,a,h=>by
  simp only[PC]at h
  simp only[aB]
  cases dR o.op with
  | none=>simp only[PC]; exact eG r b k a h
  | some p=>
   obtain⟨c,h1,h2⟩:=eG r (b+1) k a h
   exact⟨c,om,by simp only[PC]; exact h2⟩
theorem za{l:List ak}{ms:List Nat}(hp:dJ l ms=true){i j:Nat}{a b:ak}(hij:i<j)(hi:l[i]?=some a)(hj:l[j]?=some b):fw ms i j a b=true:=by
 unfold dJ at hp
 rw[List.all_eq_true]at hp
 have h1:=hp j (List.mem_range.2 (Ps.1 hj).1)
 rw[hj]at h1
 simp only at h1
 rw[List.all_eq_true]at h1
 have h2:=h1 i (List.mem_range.2 hij)
 rw[hi]at h2
 exact h2
theorem lK{l:List ak}{b k:Nat}{a:ak}(h:(aB b l)[k]?=some a):∃a',l[k]?=some a'/\a'.dst=a.dst:=by
 have hkl:k<l.length:=by have:=(Ps.1 h).1; rwa [ju]at this
 obtain⟨b4,_,hg4⟩:=eG l b k _ (Pr hkl)
 refine⟨_,Pr hkl,?_⟩
 rw[h]at hg4
 simp only[aB]at hg4
 cases hz:dR (l[k]).op with
 | none=>rw[hz]at hg4; simp only[PA,sJ]at hg4; rw[hg4]
 | some p=>rw[hz]at hg4; simp only[PA,sJ]at hg4; rw[hg4]
theorem jt{a:ak}(h:dR a.op=none)(b:Nat):aB b [a]=[a]:=by simp[aB,h]
theorem zK{tb:FuncId->Bool}{call:FuncId->List af->ae->Option (af×ae)}{m:List ak}{U:Tr af}{K:ae}{ss:List (af×ae)}(htr:cp tb call m U K=some ss){c:Nat}{H1:ae}{v:af}(hs:ss[c]?=some (v,H1))
  (h:∀k b,c<k->m[k]?=some b->aD b.op=false∨fR (bn (fun i=>Nat.blt i (0+k)) 0 m ss U) b.guard=false):dK K ss m.length=H1:=by
 obtain⟨hl,hat⟩:=fO m U K ss 0 htr
 have hc:c<ss.length:=(Ps.1 hs).1
 have key:∀e,c+1+e<=m.length->dK K ss (c+1+e)=H1:=by
  intro e
  induction e with
  | zero=>intro _; simp only[Nat.add_zero,dK,hs]
  | succ e ih=>
   intro he
   have h0:=ih om
   have hb:m[c+1+e]?=some (m[c+1+e]'om):=Pr om
   rcases h _ _ om hb with h1 | h1
   ·have:=cD htr 1 (c+1+e) om fun q o q1 q2 q3=>by
     have:q=c+1+e:=om
     subst this
     rw[hb,sJ]at q3
     subst q3
     exact h1
    rw[<- Nat.add_assoc,this,h0]
   ·obtain⟨v',H',z1,z2⟩:=hat _ _ hb
    simp only[bw,h1,cond_false,sJ,pJ]at z2
    rw[<- Nat.add_assoc]
    simp only[dK,z1]
    rw[<- z2.2,h0]
 have:=key (m.length-(c+1)) om
 rwa [show c+1+(m.length-(c+1))=m.length by omega]at this
end
section
variable {P:Program} {Prot:Gh} {w0:World} {ρ:Pl} {H H':ae} {w:World}
theorem tD(hfol:P.follows .mixedOrders=true){tb:FuncId->Bool}(htb:∀f,Nat.blt f bO=true->tb f=true->bc P f=true)(htbP:∀f,Nat.blt f bO=true->tb (bO+f)=true->bc P f=true)
  {call:FuncId->List af->ae->Option (af×ae)} (hcall:gR P call) (hcallP:yu P call) {n id:Nat} {ps:List Nat} {ops:Array Oper} {l:List ak} {st:Option (Nat×Nat)}
  (hl:BQ P n ps ops ops.toList=some (l,st)) (hok:fy (ops.toList.map aX) (aZ [] (ops.toList.map aX))=true) (hokp:dJ (aB 0 l) (aZ [] (ops.toList.map aX))=true) (hlT:l.all (dc n)=true)
  {T T1:Tr af} {H1:ae} {e:pt} {a:Act} (R:Rel Prot w0 ρ H w) (hP:pq ρ n T a)
  (h:kq tb call (aB H.next l) ((List.range l.length).map (dL (aB 0 l) (aZ [] (ops.toList.map aX)))) T (bT H l)=some (e,T1,H1)) :
  e=.normal/\(Code.region id ops true).wp P (fun e' a' w'=>∃ρ',ρ.le ρ'/\Rel Prot w0 ρ' H1 w' /\
   ((e'=.normal/\pq ρ' n T1 a')∨∃c d' x u,st=some (c,d')/\e'=.panic [{ v:=u,recovered:=false }]/\ev T1 (.t d')=jQ x/\ag ρ' x u/\a'.defers=a.defers/\ev T1 (.t (n+1))=ev T (.t (n+1)))) a w:=by
 obtain⟨U,hG,ht⟩:=hP.1.t
 obtain⟨he,U1,hU,hG1,hS⟩:=Hi hG (qC l H.next hlT) h
 refine⟨he,?_⟩
 have hPn:∀(ρ':Pl) (a':Act),ρ.le ρ'->aJ ρ' n U1 a'.tmps->a'.defers=a.defers->pq ρ' n T1 a':=fun ρ' a' hle ht' hd'=>
  ⟨⟨⟨U1,hG1,ht'⟩,by rw[hd',hS (n+1) om]; exact hP.1.d.mono hle⟩,by rw[hS n rL]; exact hP.2⟩
 have hlen0:(aB 0 l).length=l.length:=ju l 0
 have hlk:=ik l H.next 0
 have hok2:dJ (aB H.next l) (aZ [] (ops.toList.map aX))=true:=by rw[my hlk]; exact hokp
 have hbase:∀d,Prot.dead d->d<H.next:=fun d hd=>(R.dead d hd).1
 have hone:∀{o a},dC P n ops o=some a->cA P n ops [o]=some [a]:=fun ho=>by simp only[cA,ho]
 have hnc:gq l:=by
  rcases gJ hl with⟨_,h2⟩ | ⟨c,d,ac,_,h2,h3,_⟩
  ·exact ep h2
  ·intro x hx c' z s hcl
   obtain⟨k,hk⟩:=List.getElem?_of_mem hx
   have hkl:=(Ps.1 hk).1
   obtain⟨a,y1,y2⟩:=h3 k _ (Pr om)
   rw[hk,sJ]at y1
   subst y1
   rcases y2 with⟨_,f,args,ats,lx,g,_,_,_,_,_,rfl⟩ | ⟨_,_,y2⟩ | ⟨_,_,a',y2,_,_,rfl⟩
   ·simp at hcl
   ·exact ep (hone y2) x (by simp) c' z s hcl
   ·exact ep (hone y2) a' (by simp) c' z s hcl
 have hrp:∃rp:Nat->Prop,(∀c,rp c->∃d,st=some (c,d))/\(∀c d,st=some (c,d)->rp c):=⟨fun c=>∃d,st=some (c,d),fun c h=>h,fun c d h=>⟨d,h⟩⟩
 obtain⟨rp,hrp1,hrp2⟩:=hrp
 have hopers:(aB H.next l).length=ops.toList.length/\∀(j:Nat) (o:Oper),ops.toList[j]?=some o->∃a,(aB H.next l)[j]?=some a/\((¬rp j/\(dC P n ops o=some a∨(∃c,H.next<=c/\DR P n ops o a c)∨Np P n ops (aB H.next l) (aZ [] (ops.toList.map aX)) rp o a j))∨(st≠none/\rp j/\Cq P n ops o a)):=by
  rcases gJ hl with⟨rfl,h2⟩ | ⟨c,d,ac,rfl,h2,h3,h4,h5,h6⟩
  ·obtain⟨q1,q2⟩:=kN h2 H.next
   exact⟨q1,fun j o hj=>let ⟨a,z1,z2⟩:=q2 j o hj; ⟨a,z1,.inl ⟨fun hr=>by obtain⟨d,hd⟩:=hrp1 j hr; simp at hd,z2.imp_right .inl⟩⟩⟩
  ·refine⟨by rw[ju]; exact h2,fun j o hj=>?_⟩
   obtain⟨a,y1,y2⟩:=h3 j o hj
   obtain⟨b,hb,hget⟩:=eG l H.next j a y1
   have hnr:j≠c->¬rp j:=fun hne hr=>by obtain⟨d',hd⟩:=hrp1 j hr; simp only[sJ,pJ]at hd; exact hne hd.1.symm
   rcases y2 with⟨rfl,y2⟩ | ⟨hne,_,y2⟩ | ⟨hne,hbit,a',y2,y3,y4,rfl⟩
   ·have hz:dR a.op=none:=by obtain⟨f,args,ats,lx,g,_,_,_,_,_,rfl⟩:=y2; rfl
    rw[jt hz]at hget
    exact⟨a,by simpa using hget,.inr ⟨by simp,hrp2 _ _ rfl,y2⟩⟩
   ·obtain⟨_,q2⟩:=kN (hone y2) b
    obtain⟨a2,z1,z2⟩:=q2 0 o rfl
    refine⟨a2,by rw[hget,z1],.inl ⟨hnr hne,z2.imp_right fun ⟨c',w1,w2⟩=>.inl ⟨c',om,w2⟩⟩⟩
   ·rw[jt (a:=⟨a'.dst,a'.op,some (SK+d,false)⟩) y4]at hget
    have hcz:∃ac2,(aB H.next l)[c]?=some ac2/\ac2.dst=some d/\ac2.dst=ac.dst:=by
     obtain⟨b2,_,hg2⟩:=eG l H.next c ac h4
     simp only[aB]at hg2
     cases hz:dR ac.op with
     | none=>rw[hz]at hg2; exact⟨ac,by simpa using hg2,h5,rfl⟩
     | some p=>rw[hz]at hg2; exact⟨⟨ac.dst,.claim b2 p.1 p.2,ac.guard⟩,by simpa using hg2,h5,rfl⟩
    obtain⟨ac2,w1,w2,_⟩:=hcz
    refine⟨_,by simpa using hget,.inl ⟨hnr hne,.inr (.inr ⟨a',c,d,ac2,y2,y3,rfl,hbit,hrp2 _ _ rfl,w1,w2,fun k b' hk hbd=>?_⟩)⟩⟩
    obtain⟨b3,w3,w4⟩:=lK hk
    exact h6 k b3 w3 (w4.trans hbd)
 have hraw:∀c d,st=some (c,d)->∃ac,(aB H.next l)[c]?=some ac/\ac.dst=some d/\aD ac.op=true/\d<n/\(∀k b,(aB H.next l)[k]?=some b->b.dst=some d->k=c)/\∀k b,c<k->(aB H.next l)[k]?=some b->aD b.op=true->b.guard=some (SK+d,false):=by
  intro c d hst
  rcases gJ hl with⟨h0,_⟩ | ⟨c',d',ac,h1,h2,h3,h4,h5,h6⟩
  ·rw[hst]at h0; simp at h0
  ·rw[hst,sJ,pJ]at h1
   obtain⟨rfl,rfl⟩:=h1
   have hcl:=(Ps.1 h4).1
   obtain⟨a,y1,y2⟩:=h3 c _ (Pr om)
   rw[h4,sJ]at y1
   subst y1
   rcases y2 with⟨_,f,args,ats,lx,g,_,_,_,q4,_,rfl⟩ | ⟨hne,_⟩ | ⟨hne,_⟩
   ·simp only at h5
    rw[h5]at q4
    obtain⟨b,_,hget⟩:=eG l H.next c _ h4
    rw[jt rfl]at hget
    have hc2:=hget
    simp only[PA]at hc2
    refine⟨_,hc2,h5,rfl,dU q4,fun k b' hk hbd=>?_,fun k b' hck hk hch=>?_⟩
    ·obtain⟨b3,w3,w4⟩:=lK hk
     exact h6 k b3 w3 (w4.trans hbd)
    ·have hpr:=za hok2 hck hc2 hk
     simp only[fw,Bool.or_eq_true,Pu,Bool.not_eq_true']at hpr
     have hbit:iF (aZ [] (ops.toList.map aX)) k c=true:=by
      rcases hpr with hpr | ⟨hpr,_⟩
      ·exact hpr
      ·rw[hch]at hpr; simp[aD,iE,cZ]at hpr
     obtain⟨b3,w3,_⟩:=lK hk
     have hkl:=(Ps.1 w3).1
     obtain⟨a2,z1,z2⟩:=h3 k _ (Pr om)
     rcases z2 with⟨rfl,_⟩ | ⟨_,hb0,_⟩ | ⟨_,_,a',_,_,x4,rfl⟩
     ·omega
     ·rw[hbit]at hb0; simp at hb0
     ·obtain⟨b5,_,hg5⟩:=eG l H.next k _ z1
      rw[jt (a:=⟨a'.dst,a'.op,some (SK+d,false)⟩) x4,hk]at hg5
      simp only[PA,sJ]at hg5
      rw[hg5]
   ·exact (hne rfl).elim
   ·exact (hne rfl).elim
 have R':=gi (pr:=Prot.prot) l Prot.dead H hnc R
 have hchk:(List.range l.length).map (dL (aB 0 l) (aZ [] (ops.toList.map aX)))=(List.range (aB H.next l).length).map (dL (aB H.next l) (aZ [] (ops.toList.map aX))):=by
  have:l.length=(aB H.next l).length:=by rw[<- hlen0]; exact (hlk.len).symm
  rw[this]
  exact List.map_congr_left fun j _=>(qD hlk _ j).symm
 have hdis:=jv l H.next hnc
 rw[hchk]at hU h
 generalize hcl:aB H.next l=m at *
 generalize hrv:bT H l=K at *
 unfold kq at hU
 cases hss:cp tb call m U K with
 | none=>rw[hss]at hU; simp at hU
 | some ss=>
  rw[hss]at hU
  simp only at hU
  cases hr:eH tb (K::ss.map (·.2)) m ((List.range m.length).map (dL m (aZ [] (ops.toList.map aX)))) ss U with
  | false=>rw[hr]at hU; simp at hU
  | true=>
   rw[hr]at hU
   simp only[cond_true,sJ,pJ,true_and]at hU
   obtain⟨rfl,rfl⟩:=hU
   refine wp_region_any hfol ?_
   have hN:m.length=ops.size:=by simpa using hopers.1
   have hrep:∀i,(Array.replicate ops.size false).getD i false=false:=fun i=>by
    rw[Array.getD_eq_getD_getElem?,Array.getElem?_replicate]; split <;> rfl
   have hm0:(fun i=>(Array.replicate ops.size false).getD i false)=fun _=>false:=funext hrep
   have hst:aA (fun i=>(Array.replicate ops.size false).getD i false) 0 m=aA (fun _=>false) 0 m:=fP m 0 fun c o _ _=>by simp only[hrep]
   have hH:dK K ss (aA (fun _=>false) 0 m)=K:=by
    obtain⟨q1,q2,q3,q4⟩:=dt (fun _=>false) m 0
    have:=cD hss (aA (fun _=>false) 0 m) 0 om fun c o _ hlt ho=>by
     cases hx:aD o.op with
     | false=>rfl
     | true=>have:=q3 c o ho hx om; simp at this
    rw[Nat.zero_add]at this
    rw[this]; rfl
   have htl:aJ ρ n (bn (fun i=>(Array.replicate ops.size false).getD i false) 0 m ss U) a.tmps:=by
    refine ht.congr fun t=>?_
    rw[hm0]
    have:∀(l:List ak) (ss:List (af×ae)) (k:Nat) (T:Tr af),bn (fun _=>false) k l ss T=T:=by
     intro l
     induction l with
     | nil=>intro ss k T; cases ss <;> rfl
     | cons o r ih=>intro ss k T; cases ss with
      | nil=>rfl
      | cons s ss=>obtain⟨x,y⟩:=s; simp only[bn,cond_false,ih]
    rw[this]
   refine xp (RAW:=st≠none) (rp:=rp) (ds:=a.defers) (Prot:=Prot) (w0:=w0) htb hcall (fun _=>htbP) (fun _=>hcallP) (base:=H.next) hopers.1 hopers.2 hbase hdis hok hok2 hss hr (ρ0:=ρ) (fun a' w' hx=>?_) (fun hd c a' w' ρ' x u hrc hle hx hv hda=>?_) ops.size _ a _ (by simp) ?_ (fun j _ hj=>by rw[hrep]at hj; simp at hj) (fun j _ hj=>by rw[hrep]at hj; simp at hj) ⟨ρ,Pl.le_refl _,?_,htl,rfl⟩
   ·obtain⟨ρ',q1,q2,q3,q4⟩:=hx
    exact⟨ρ',q1,q2,.inl ⟨rfl,hPn ρ' a' q1 q3 q4⟩⟩
   ·obtain⟨d',hst'⟩:=hrp1 c hrc
    obtain⟨ac,g1,g2,g3,g4,g5,g6⟩:=hraw c d' hst'
    obtain⟨H9,hx,R1⟩:=hx
    have hsel:∀mk:Nat->Bool,mk (0+c)=true->(bn mk 0 m ss U).get d'=some (jQ x):=fun mk hmk=>
     iH m ss 0 c U ac (jQ x) H9 g1 hx g2 hmk fun k b hk hkb hbd=>absurd (g5 k b hkb hbd) om
    have hstill:dK K ss m.length=H9:=zK hss hx fun k b hk hkb=>by
     cases hch:aD b.op with
     | false=>exact .inl rfl
     | true=>
      right
      obtain⟨k1,k2⟩:=JY d'
      rw[g6 k b hk hkb hch]
      simp only[fR,gV,k1,k2,cond_true,ev]
      rw[hsel _ (by simp only[Nat.zero_add]; exact Pt hk)]
      rfl
    refine⟨ρ',hle,by rw[hstill]; exact R1,.inr ⟨c,d',x,u,hst',rfl,?_,hv,hda,hS (n+1) om⟩⟩
    rw[hG1.1 d' g4]
    simp only[ev,hsel (fun _=>true) rfl]
   ·rw[hm0]
    have:∀k,rA (fun _=>false) k=k:=by
     intro k
     induction k with
     | zero=>rfl
     | succ k ih=>simp only[rA,ih,cond_false]
    exact this _
   ·rw[hst,hH,hm0]; exact R'.drew
end
end Go.Abs
namespace Go.Abs
section
variable {P:Program} {Prot:Gh} {w0:World} {ρ:Pl} {H H':ae} {w:World}
theorem Du(hfol:P.follows .mixedOrders=true){tb:FuncId->Bool}(htb:∀f,Nat.blt f bO=true->tb f=true->bc P f=true)(htbP:∀f,Nat.blt f bO=true->tb (bO+f)=true->bc P f=true)
  {call:FuncId->List af->ae->Option (af×ae)} (hcall:gR P call) (hcallP:yu P call) {n k:Nat} {ps:List Nat} :
  ∀(c:Code) (ac:bh),dw P n ps c=some ac->∀(ρ:Pl) (T T':Tr af) (H H':ae) (e:pt) (a:Act) (w:World),
   Rel Prot w0 ρ H w->pq ρ n T a->aK tb call k ac T H=some (e,T',H')->c.wp P (DN Prot w0 ρ n e T' H') a w:=by
 intro c
 induction c with
 | skip=>
  intro ac hc ρ T T' H H' e a w R hP h
  simp only[dw,sJ]at hc; subst hc
  simp only[aK,sJ,pJ]at h
  obtain⟨rfl,rfl,rfl⟩:=h
  exact wp_skip ⟨ρ,Pl.le_refl _,R,rfl,hP⟩
 | region id ops draw=>
  intro ac hc ρ T T' H H' e a w R hP h
  cases draw with
  | false=>
   simp only[dw]at hc
   split at hc
   ·rename_i its hl
    simp only[sJ]at hc; subst hc
    refine wp_region ?_
    have:=Dc (Prot:=Prot) (w0:=w0) htb htbP hcall hcallP ops.toList 0 its (fun j=>by simp) hl ρ ρ T T' H H' e a w (Pl.le_refl _) R hP h
    rw[List.range_eq_range']
    simpa using this
   ·simp at hc
  | true=>
   simp only[dw,GJ]at hc
   split at hc
   ·rename_i l st hl
    cases hck:fy (ops.toList.map aX) (aZ [] (ops.toList.map aX))&&dJ (aB 0 l) (aZ [] (ops.toList.map aX))&&l.all (dc n) with
    | false=>
     rw[hck]at hc
     simp only[cond_false,sJ]at hc; subst hc
     simp[jl]at h
    | true=>
     rw[hck]at hc
     simp only[cond_true]at hc
     simp only[Pu]at hck
     obtain⟨⟨hk1,hk2⟩,hk3⟩:=hck
     cases st with
     | none=>
      simp only[sJ]at hc; subst hc
      simp only[aK]at h
      obtain⟨rfl,hw⟩:=tD (id:=id) hfol htb htbP hcall hcallP hl hk1 hk2 hk3 R hP h
      refine wp_mono hw ?_
      rintro e' a' w' ⟨ρ',q1,q2,⟨rfl,q3⟩ | ⟨c',d',x,u,hd,_⟩⟩
      ·exact⟨ρ',q1,q2,rfl,q3⟩
      ·simp at hd
     | some cd=>
      obtain⟨cc,d⟩:=cd
      simp only[sJ]at hc; subst hc
      simp only[aK]at h
      cases hdr:kq tb call (aB H.next l) ((List.range l.length).map (dL (aB 0 l) (aZ [] (ops.toList.map aX)))) T (bT H l) with
      | none=>rw[hdr]at h; simp at h
      | some r=>
       obtain⟨e1,T1,H1⟩:=r
       rw[hdr]at h
       obtain⟨rfl,hw⟩:=tD (id:=id) hfol htb htbP hcall hcallP hl hk1 hk2 hk3 R hP hdr
       simp only at h
       rw[bx,bQ]at h
       simp only[bG,eX,iu,vv,LT,be,aO]at h
       have e2:ev (T1.set (n+2) (.bool (eT (ev T1 (.t d))))) (.t (n+2))=.bool (eT (ev T1 (.t d))):=by rw[aS,if_pos rfl]
       rw[e2]at h
       refine wp_mono hw ?_
       rintro e' a' w' ⟨ρ',q1,q2,⟨rfl,q3⟩ | ⟨c',d',x,u,hd,rfl,q3,q4,q5,q6⟩⟩
       ·cases hp:eT (ev T1 (.t d)) with
        | false=>
         rw[hp]at h
         simp only[sJ,pJ]at h
         obtain⟨rfl,rfl,rfl⟩:=h
         exact⟨ρ',q1,q2,rfl,q3.ghost rL _⟩
        | true=>
         exfalso
         obtain⟨U,hG,ht⟩:=q3.1.t
         obtain⟨y,hy⟩:=lE hp
         by_cases hdn:d<n
         ·have:=ht.at_ d
          rw[<- hG.1 d hdn]at this
          exact yX this hy
         ·rcases gJ hl with⟨h0,_⟩ | ⟨c2,d2,ao,h4,_,_,h6',h6,_⟩
          ·simp at h0
          ·simp only[sJ,pJ]at h4
           obtain⟨rfl,rfl⟩:=h4
           have:=List.all_eq_true.1 hk3 ao (Pz h6')
           simp only[dc,Pu,h6]at this
           exact hdn (dU this.2.2)
       ·simp only[sJ,pJ]at hd
        obtain⟨rfl,rfl⟩:=hd
        have hp:eT (ev T1 (.t d))=true:=by rw[q3]; rfl
        rw[hp]at h
        simp only[fR,cond_true,Jm]at h
        have e3:ev ((T1.set (n+2) (.bool true)).set (n+2) (.bool (isU (ev (T1.set (n+2) (.bool true)) (.t (n+1)))))) (.t (n+2))=.bool (isU (ev (T1.set (n+2) (.bool true)) (.t (n+1)))):=by rw[aS,if_pos rfl]
        rw[e3]at h
        have e4:ev (T1.set (n+2) (.bool true)) (.t (n+1))=ev T1 (.t (n+1)):=by rw[aS,if_neg om]
        rw[e4]at h
        cases hu:isU (ev T1 (.t (n+1))) with
        | false=>rw[hu]at h; simp[ft,aK,be,fR,bG]at h
        | true=>
         rw[hu]at h
         simp only[be,fR,cond_true,bG,aO]at h
         simp only[sJ,pJ]at h
         obtain⟨rfl,rfl,rfl⟩:=h
         have hund:ev T1 (.t (n+1))=aN:=by
          unfold isU at hu
          split at hu
          ·rename_i h9; rw[h9]; rfl
          ·simp at hu
         have hdn:∃v,ev ((T1.set (n+2) (.bool true)).set (n+2) (.bool true)) (.t d)=v:=⟨_,rfl⟩
         have hdlt:d<n:=by
          rcases gJ hl with⟨h0,_⟩ | ⟨c2,d2,ao,h4,_,_,h6',h6,_⟩
          ·simp at h0
          ·simp only[sJ,pJ]at h4
           obtain⟨rfl,rfl⟩:=h4
           have:=List.all_eq_true.1 hk3 ao (Pz h6')
           simp only[dc,Pu,h6]at this
           exact dU this.2.2
         refine⟨ρ',q1,q2,.inr ⟨rfl,.inr ⟨u,rfl,x,?_,q4,.inl ⟨?_,?_⟩⟩⟩⟩
         ·rw[aS,if_pos rfl,aS,if_neg om,aS,if_neg om]; exact q3
         ·rw[q5]
          have:=hP.1.d
          rw[<- q6,hund]at this
          rcases this with⟨_,h9⟩ | ⟨f,fa,fb,d9,cap,h9,_⟩
          ·exact h9
          ·simp[aN]at h9
         ·rw[aS,if_neg om,aS,if_neg om,aS,if_neg om]; exact hund
   ·simp at hc
 | seq x y ihx ihy=>
  intro ac hc ρ T T' H H' e a w R hP h
  simp only[dw]at hc
  split at hc
  ·rename_i ax ay hx hy
   simp only[sJ]at hc; subst hc
   simp only[aK]at h
   split at h
   ·rename_i T1 H1 h1
    refine wp_seq (wp_mono (ihx _ hx ρ T T1 H H1 .normal a w R hP h1) ?_)
    rintro e1 a1 w1 ⟨ρ1,hl,R1,rfl,hP1⟩
    exact wp_mono (ihy _ hy ρ1 T1 T' H1 H' e a1 w1 R1 hP1 h) fun _ _ _ q=>q.weaken hl
   ·rename_i e1 T1 H1 hne h1
    simp only[sJ,pJ]at h
    obtain⟨rfl,rfl,rfl⟩:=h
    refine wp_seq (wp_mono (ihx _ hx ρ T T1 H H1 e1 a w R hP h1) ?_)
    rintro e2 a1 w1 q
    obtain⟨ρ1,q1,q2,q3⟩:=q
    cases e1 with
    | normal=>exact (hne rfl).elim
    | ret=>exact q3.elim
    | exit id=>
     rcases q3 with⟨z1,rfl,z2⟩ | ⟨z1,⟨rfl,z2⟩ | ⟨u,rfl,z2⟩⟩
     ·exact⟨ρ1,q1,q2,.inl ⟨z1,rfl,z2⟩⟩
     ·exact⟨ρ1,q1,q2,.inr ⟨z1,.inl ⟨rfl,z2⟩⟩⟩
     ·exact⟨ρ1,q1,q2,.inr ⟨z1,.inr ⟨u,rfl,z2⟩⟩⟩
   ·simp at h
  ·simp at hc
 | cond c x y ihx ihy=>
  intro ac hc ρ T T' H H' e a w R hP h
  simp only[dw]at hc
  split at hc
  ·rename_i c' ax ay hcc hx hy
   cases hT:cI n c' with
   | false=>rw[hT]at hc; simp at hc
   | true=>
    rw[hT]at hc
    simp only[cond_true,sJ]at hc; subst hc
    simp only[aK]at h
    obtain⟨U,hG,ht⟩:=hP.1.t
    have hv:=aC ht hcc
    rw[<- hG.x hT]at hv
    split at h
    ·rename_i hb
     rw[hb]at hv
     simp only[ag]at hv
     exact wp_cond_true hv (ihx _ hx ρ T T' H H' e a w R hP h)
    ·rename_i hb
     rw[hb]at hv
     simp only[ag]at hv
     exact wp_cond_false hv (ihy _ hy ρ T T' H H' e a w R hP h)
    ·simp at h
  ·simp at hc
 | block id c ih=>
  intro ac hc ρ T T' H H' e a w R hP h
  simp only[dw]at hc
  split at hc
  ·rename_i ax hx
   cases hid:Nat.beq id PB with
   | true=>rw[hid]at hc; simp at hc
   | false=>
    rw[hid]at hc
    simp only[cond_false,sJ]at hc; subst hc
    have hidn:¬id=PB:=fun e=>by rw[e,Nat.beq_refl]at hid; simp at hid
    simp only[aK]at h
    split at h
    ·rename_i j T1 H1 h1
     refine wp_block (wp_mono (ih _ hx ρ T T1 H H1 (.exit j) a w R hP h1) ?_)
     rintro e1 a1 w1 ⟨ρ1,q1,q2,q3⟩
     cases hb:Nat.beq j id with
     | true=>
      rw[hb]at h
      simp only[cond_true,sJ,pJ]at h
      obtain⟨rfl,rfl,rfl⟩:=h
      have:=Py hb
      subst this
      rcases q3 with⟨_,rfl,z2⟩ | ⟨z1,_⟩
      ·simp only[Exit.inBlock,if_true]
       exact⟨ρ1,q1,q2,rfl,z2⟩
      ·exact (hidn z1).elim
     | false=>
      rw[hb]at h
      simp only[cond_false,sJ,pJ]at h
      obtain⟨rfl,rfl,rfl⟩:=h
      have:¬j=id:=fun e=>by rw[e,Nat.beq_refl]at hb; simp at hb
      rcases q3 with⟨z1,rfl,z2⟩ | ⟨z1,⟨rfl,z2⟩ | ⟨u,rfl,z2⟩⟩
      ·simp only[Exit.inBlock,this,if_false]
       exact⟨ρ1,q1,q2,.inl ⟨z1,rfl,z2⟩⟩
      ·exact⟨ρ1,q1,q2,.inr ⟨z1,.inl ⟨rfl,z2⟩⟩⟩
      ·exact⟨ρ1,q1,q2,.inr ⟨z1,.inr ⟨u,rfl,z2⟩⟩⟩
    ·rename_i e1 T1 H1 hne h1
     simp only[sJ,pJ]at h
     obtain⟨rfl,rfl,rfl⟩:=h
     refine wp_block (wp_mono (ih _ hx ρ T T1 H H1 e1 a w R hP h1) ?_)
     rintro e2 a1 w1 ⟨ρ1,q1,q2,q3⟩
     cases e1 with
     | normal=>obtain⟨rfl,z⟩:=q3; exact⟨ρ1,q1,q2,rfl,z⟩
     | exit j=>exact (hne _ rfl).elim
     | ret=>exact q3.elim
    ·simp at h
  ·simp at hc
 | loop c ih=>
  intro ac hc ρ T T' H H' e a w R hP h
  simp only[dw]at hc
  split at hc
  ·rename_i ax hx
   simp only[sJ]at hc; subst hc
   simp only[aK]at h
   refine wp_loop_rounds k ?_
   have key:∀(m:Nat) (T:Tr af) (H:ae) (ρ1:Pl) (a:Act) (w:World),ρ.le ρ1->Rel Prot w0 ρ1 H w->pq ρ1 n T a ->
     iq (aK tb call k ax) m T H=some (e,T',H')->Code.rounds P c (DN Prot w0 ρ n e T' H') m a w:=by
    intro m
    induction m with
    | zero=>intro T H ρ1 a w _ _ _ h; simp[iq]at h
    | succ m ihm=>
     intro T H ρ1 a w hl R hP h
     rw[rounds_succ]
     simp only[iq]at h
     split at h
     ·rename_i T1 H1 h1
      refine wp_mono (ih _ hx ρ1 T T1 H H1 .normal a w R hP h1) ?_
      rintro e1 a1 w1 ⟨ρ2,hl2,R1,rfl,hP1⟩
      exact ihm T1 H1 ρ2 a1 w1 (Pl.le_trans hl hl2) R1 hP1 h
     ·rename_i e1 T1 H1 hne h1
      simp only[sJ,pJ]at h
      obtain⟨rfl,rfl,rfl⟩:=h
      refine wp_mono (ih _ hx ρ1 T T1 H H1 e1 a w R hP h1) ?_
      rintro e2 a1 w1 q
      obtain⟨ρ2,q1,q2,q3⟩:=q.weaken hl
      cases e1 with
      | normal=>exact (hne rfl).elim
      | ret=>exact q3.elim
      | exit id=>
       rcases q3 with⟨z1,rfl,z2⟩ | ⟨z1,⟨rfl,z2⟩ | ⟨u,rfl,z2⟩⟩
       ·exact⟨ρ2,q1,q2,.inl ⟨z1,rfl,z2⟩⟩
       ·exact⟨ρ2,q1,q2,.inr ⟨z1,.inl ⟨rfl,z2⟩⟩⟩
       ·exact⟨ρ2,q1,q2,.inr ⟨z1,.inr ⟨u,rfl,z2⟩⟩⟩
     ·simp at h
   exact key k T H ρ a w (Pl.le_refl _) R hP h
  ·simp at hc
 | exit id=>
  intro ac hc ρ T T' H H' e a w R hP h
  simp only[dw]at hc
  cases hid:Nat.beq id PB with
  | true=>rw[hid]at hc; simp at hc
  | false=>
   rw[hid]at hc
   simp only[cond_false,sJ]at hc; subst hc
   have hidn:¬id=PB:=fun e=>by rw[e,Nat.beq_refl]at hid; simp at hid
   simp only[aK,sJ,pJ]at h
   obtain⟨rfl,rfl,rfl⟩:=h
   exact wp_exit ⟨ρ,Pl.le_refl _,R,.inl ⟨hidn,rfl,hP⟩⟩
 | ret=>
  intro ac hc ρ T T' H H' e a w R hP h
  simp only[dw,sJ]at hc; subst hc
  simp only[aK,sJ,pJ]at h
  obtain⟨rfl,rfl,rfl⟩:=h
  exact wp_ret ⟨ρ,Pl.le_refl _,R,.inr ⟨rfl,.inl ⟨rfl,hP⟩⟩⟩
 | _=>
  intro ac hc ρ T T' H H' e a w R hP h
  simp only[dw,sJ]at hc; subst hc
  simp[jl]at h
end
end Go.Abs
