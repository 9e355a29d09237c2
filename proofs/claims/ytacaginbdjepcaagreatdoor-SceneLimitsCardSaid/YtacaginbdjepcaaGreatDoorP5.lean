/- Part of a proof (D9 A11 A11b A11c A11d A11e A11f); no condition. -/
import Derived.LoopN
import Derived.Recover
import Derived.Test.YtacaginbdjepcaaGreatDoorP4
set_option linter.unusedSimpArgs false
set_option linter.unusedVariables false
set_option linter.unnecessarySimpa false
namespace Go.Abs
def dO:Option Nat->List bb
 | some d=>[.t d]
 | none=>[]
def oW(o:aj):List bb:=match o.op with
 | .store _ a _=>[a]
 | .append _ _ s x=>s::x::dO o.dst
 | .hf (.fill ..) _=>dO o.dst
 | .load _ _ x=>[x]
 | _=>[]
def te(l:List aj)(c t:Nat):Bool:=match l[c]? with
 | some o=>match o.dst with
  | some d=>Nat.beq d t
  | none=>false
 | none=>false
def rk(l:List aj)(q:Nat):bb->Bool
 | .t t=>(List.range l.length).all fun c=>Nat.blt c q||!te l c t
 | _=>true
def ir(l:List aj)(q:Nat):Option Nat->Bool
 | some d=>(List.range l.length).all fun c=>Nat.ble c q||!te l c d
 | none=>false
def xF(l:List aj)(q:Nat):Bool:=match l[q]? with
 | some o=>match o.op with
  | .store _ a _=>rk l q a
  | .append _ _ s x=>rk l q s&&(rk l q x&&ir l q o.dst)
  | .hf (.fill ..) _=>ir l q o.dst
  | .load _ _ x=>rk l q x
  | _=>true
 | none=>true
def lG(l:List aj):Bool:=(List.range l.length).all (xF l)
def tw(l:List aj)(j i:Nat):List (bb×bb):=match l[j]?,l[i]? with
 | some b,some a=>(oW b).flatMap fun y=>(oW a).map fun x=>(y,x)
 | _,_=>[]
def mG(l:List aj)(ms:List Nat)(j k:Nat):Bool:=match l[k]? with
 | some o=>cJ o.op&&(!gU ms k j&&!gU ms j k)
 | none=>false
def lV(l:List aj)(ms:List Nat):List (bb×bb):=
 (List.range l.length).flatMap fun j=>(List.range j).flatMap fun i=>bif dM l ms i j then
  tw l j i++(List.range l.length).flatMap fun k=>bif mG l ms j k then tw l j k else [] else []
def ow(p:bb×bb):aj:=⟨none,.pf .apart [p.1,p.2],none⟩
section
variable {tb:FuncId->Bool} {call:FuncId->List af->ae->Option (af×ae)} {l:List aj} {ms:List Nat} {T0:Tr af} {H0:ae} {ss:List (af×ae)}
theorem qU{c t:Nat}{o:aj}(h:l[c]?=some o)(hd:o.dst=some t):te l c t=true:=by
 unfold te; simp only[h,hd]; exact Nat.beq_refl t
theorem lf{q:Nat}{x:bb}(h:rk l q x=true):ev (bh (fun _=>true) 0 l ss T0) x=ev (bh (fun i=>Nat.blt i (0+q)) 0 l ss T0) x:=by
 cases x with
 | t t=>
  simp only[ev]
  rw[eq l ss 0 T0 T0 rfl fun c o hc hd=>?_]
  simp only[rk]at h
  rw[List.all_eq_true]at h
  have:=h c (List.mem_range.2 (NA.1 hc).1)
  rw[qU hc hd]at this
  simp only[Bool.not_true,Bool.or_false]at this
  simp only[Nat.zero_add]
  exact this.symm
 | _=>rfl
theorem JE{q d:Nat}{o:aj}{v:af}{H':ae}(hq:l[q]?=some o)(hs:ss[q]?=some (v,H'))(hd:o.dst=some d)(h:ir l q o.dst=true):ev (bh (fun _=>true) 0 l ss T0) (.t d)=v:=by
 rw[hd]at h
 simp only[ir]at h
 rw[List.all_eq_true]at h
 have hn:∀c oc,q<c->l[c]?=some oc->oc.dst=some d->False:=by
  intro c oc hc h1 h2
  have:=h c (List.mem_range.2 (NA.1 h1).1)
  rw[qU h1 h2]at this
  simp only[Bool.not_true,Bool.or_false]at this
  have:=NF this
  omega
 have e:(bh (fun _=>true) 0 l ss T0).get d=some v:=by
  have e1:=gZ (m:=fun i=>Nat.ble i q) l ss 0 q T0 o v H' hq hs hd (by simp only[Nat.zero_add]; exact NB (Nat.le_refl q)) fun i o' h1 h2 h3=>(hn i o' h1 h2 h3).elim
  rw[<- e1]
  refine eq l ss 0 T0 T0 rfl fun c oc hc hdc=>?_
  simp only[Nat.zero_add]
  rcases Nat.lt_or_ge q c with k | k
  ·exact (hn c oc k hc hdc).elim
  ·exact (NB k).symm
 simp only[ev,e]
theorem nV(htr:cf tb call l T0 H0=some ss)(hok:lG l=true){q:Nat}{o:aj}(hq:l[q]?=some o){b:Nat}(hb:b∈bN l ss T0 q):∃x∈oW o,fC (ev (bh (fun _=>true) 0 l ss T0) x)=some b:=by
 obtain⟨_,hat⟩:=eZ l T0 H0 ss 0 htr
 obtain⟨v,H1,hs,hs0⟩:=hat q o hq
 clear hs0 hat
 simp only[bN,hq,hs]at hb
 have hst:xF l q=true:=by
  unfold lG at hok
  rw[List.all_eq_true]at hok
  exact hok q (List.mem_range.2 (NA.1 hq).1)
 unfold xF at hst
 rw[hq]at hst
 obtain⟨d,op,g⟩:=o
 have hdst:ir l q d=true->∃d',d=some d'/\ev (bh (fun _=>true) 0 l ss T0) (.t d')=v:=by
  intro h
  cases d with
  | none=>simp[ir]at h
  | some d'=>exact⟨d',rfl,JE (o:=⟨some d',op,g⟩) hq hs rfl h⟩
 cases op <;> simp only[eu,List.not_mem_nil]at hb
 case store n a x=>
  obtain⟨y,h1,h2⟩:=lM hb
  obtain rfl:=List.mem_singleton.1 h1
  exact⟨a,by simp[oW],by rw[lf hst]; exact h2⟩
 case load n a x=>
  obtain⟨y,h1,h2⟩:=lM hb
  obtain rfl:=List.mem_singleton.1 h1
  exact⟨x,by simp[oW],by rw[lf hst]; exact h2⟩
 case append n k s x=>
  simp only[NC]at hst
  obtain⟨d',hd1,hd2⟩:=hdst hst.2.2
  obtain⟨y,h1,h2⟩:=lM hb
  simp only[List.mem_cons,List.not_mem_nil,or_false]at h1
  rcases h1 with rfl | rfl | rfl
  ·exact⟨s,by simp[oW],by rw[lf hst.1]; exact h2⟩
  ·exact⟨x,by simp[oW],by rw[lf hst.2.1]; exact h2⟩
  ·exact⟨.t d',by simp[oW,hd1,dO],by rw[hd2]; exact h2⟩
 case hf f xs=>
  cases f <;> first | (simp only[List.not_mem_nil]at hb; done) | skip
  obtain⟨d',hd1,hd2⟩:=hdst hst
  obtain⟨y,h1,h2⟩:=lM hb
  obtain rfl:=List.mem_singleton.1 h1
  exact⟨.t d',by simp[oW,hd1,dO],by rw[hd2]; exact h2⟩
theorem rG{i j:Nat}{a b:aj}(hi:l[i]?=some a)(hj:l[j]?=some b){x y:bb}(hx:x∈oW a)(hy:y∈oW b):(y,x)∈tw l j i:=by
 unfold tw
 rw[hi,hj]
 simp only[List.mem_flatMap,List.mem_map]
 exact⟨y,hy,x,hx,rfl⟩
theorem Fy{x y:af}{b:Nat}(h:Ki y x=true)(hx:fC x=some b)(hy:fC y=some b):False:=by
 unfold Ki at h
 rw[hx,hy]at h
 simp[Nat.beq_refl]at h
theorem Ju(htr:cf tb call l T0 H0=some ss)(hok:lG l=true)(hck:∀p∈lV l ms,Ki (ev (bh (fun _=>true) 0 l ss T0) p.1) (ev (bh (fun _=>true) 0 l ss T0) p.2)=true) :
  (∀i j,dM l ms i j=true->∀x∈bN l ss T0 j,x∉bN l ss T0 i) /\
  ∀i j k o,dM l ms i j=true->l[k]?=some o->cJ o.op=true->gU ms k j=false->gU ms j k=false->∀x∈bN l ss T0 j,x∉bN l ss T0 k:=by
 have hl:∀i j,dM l ms i j=true->∃a b,l[i]?=some a/\l[j]?=some b/\i<j:=by
  intro i j h
  unfold dM at h
  split at h
  ·rename_i a b hi hj
   simp only[NC]at h
   exact⟨a,b,hi,hj,NF h.1⟩
  ·simp at h
 constructor
 ·intro i j h x hx hx'
  obtain⟨a,b,hi,hj,hij⟩:=hl i j h
  obtain⟨y,y1,y2⟩:=nV htr hok hj hx
  obtain⟨z,z1,z2⟩:=nV htr hok hi hx'
  refine Fy (hck (y,z) ?_) z2 y2
  unfold lV
  rw[List.mem_flatMap]
  refine⟨j,List.mem_range.2 (NA.1 hj).1,?_⟩
  rw[List.mem_flatMap]
  refine⟨i,List.mem_range.2 hij,?_⟩
  rw[h,cond_true,List.mem_append]
  exact .inl (rG hi hj z1 y1)
 ·intro i j k o h hk hld h1 h2 x hx hx'
  obtain⟨a,b,hi,hj,hij⟩:=hl i j h
  obtain⟨y,y1,y2⟩:=nV htr hok hj hx
  obtain⟨z,z1,z2⟩:=nV htr hok hk hx'
  refine Fy (hck (y,z) ?_) z2 y2
  unfold lV
  rw[List.mem_flatMap]
  refine⟨j,List.mem_range.2 (NA.1 hj).1,?_⟩
  rw[List.mem_flatMap]
  refine⟨i,List.mem_range.2 hij,?_⟩
  rw[h,cond_true,List.mem_append,List.mem_flatMap]
  refine .inr ⟨k,List.mem_range.2 (NA.1 hk).1,?_⟩
  have:mG l ms j k=true:=by unfold mG; rw[hk]; simp[hld,h1,h2]
  rw[this,cond_true]
  exact rG hk hj z1 y1
end
theorem qM{P:Program}{c:Call}{b n:Nat}{z:List af}{os:List (Nat×Nat)}{xs:List bb}(h:iy P c=some (.hf (.fill b n z os) xs)):False:=by
 unfold iy at h
 repeat' split at h
 all_goals first
  | (simp at h; done)
  | (simp only[cond_eq_ite]at h; split at h <;> simp at h)
theorem qO{P:Program}{o:Op}{b n:Nat}{z:List af}{os:List (Nat×Nat)}{xs:List bb}(h:mT P o=some (.hf (.fill b n z os) xs)):False:=by
 unfold mT at h
 repeat' split at h
 all_goals first
  | (simp at h; done)
  | (simp only[cond_eq_ite]at h; split at h <;> first | (simp at h; done) | (split at h <;> simp at h))
theorem tY{P:Program}{o:Op}{b n:Nat}{z:List af}{os:List (Nat×Nat)}{xs:List bb}(h:sC P o=some (.hf (.fill b n z os) xs)):False:=by
 unfold sC at h
 split at h
 ·rename_i a ha
  simp only[sJ]at h
  subst h
  exact qO ha
 ·split at h
  ·rename_i a ha
   simp only[sJ]at h
   subst h
   cases o <;> simp only[v7,reduceCtorEq]at ha
   case call c _=>exact qM ha
   all_goals
    exfalso
    repeat' split at ha
    all_goals first
     | (simp at ha; done)
     | (simp only[cond_eq_ite]at ha; split at ha <;> simp at ha)
  ·simp at h
theorem lE{P:Program}{n:Nat}{ops:Array Oper}:∀{rest:List Oper} {l:List aj},ck P n ops rest=some l->∀a∈l,vJ a.op=none:=by
 intro rest
 induction rest with
 | nil=>intro l h; simp only[ck,sJ]at h; subst h; intro a ha; simp at ha
 | cons o r ih=>
  intro l h
  simp only[ck]at h
  split at h
  ·rename_i a l' ha hl'
   simp only[sJ]at h
   subst h
   intro x hx
   rcases List.mem_cons.1 hx with rfl | hx
   ·unfold dj at ha
    split at ha
    ·rename_i ax g hopc hg
     cases hdst:cM n o.dst with
     | false=>rw[hdst]at ha; simp at ha
     | true=>
      rw[hdst]at ha
      simp only[cond_true,sJ]at ha
      subst ha
      simp only
      unfold vJ
      split
      ·exact (tY hopc).elim
      ·rfl
    ·simp at ha
   ·exact ih hl' x hx
  ·simp at h
end Go.Abs
namespace Go.Abs
inductive bC where
 | skip
 | reg (ops:List aj)
 | draw (ops:List aj) (chk:List (List Nat))
 | seq (a b:bC)
 | cond (c:bb) (a b:bC)
 | block (id:Nat) (c:bC)
 | loop (c:bC)
 | exit (id:Nat)
 | ret
inductive oD where
 | normal
 | exit (id:Nat)
 | ret
inductive kW where
 | t (i:Nat)
 | cell (agg:Bool) (size:Nat) (i:Nat)
structure bW where
 nt:Nat
 body:bC
 res:List kW
section
variable (tb:FuncId->Bool) (call:FuncId->List af->ae->Option (af×ae))
def be:List aj->Tr af->ae->Option (Tr af×ae)
 | [],T,H=>some (T,H)
 | o::r,T,H=>bif fi T o.guard then
   match bF tb T H o.op with
   | some (.val v,H')=>be r (aK T o.dst v) H'
   | some (.enter f args,H')=>match call f args H' with
    | some (v,H'')=>be r (aK T o.dst v) H''
    | none=>none
   | none=>none
  else be r (aK T o.dst aJ) H
def gJ(body:Tr af->ae->Option (oD×Tr af×ae)):Nat->Tr af->ae->Option (oD×Tr af×ae)
 | 0,_,_=>none
 | n+1,T,H=>match body T H with
  | some (.normal,T',H')=>gJ body n T' H'
  | some (e,T',H')=>some (e,T',H')
  | none=>none
def jO(ops:List aj)(chk:List (List Nat))(T:Tr af)(H:ae):Option (oD×Tr af×ae):=
 match cf tb call ops T H with
 | some ss=>bif ed tb (H::ss.map (·.2)) ops chk ss T then some (.normal,bh (fun _=>true) 0 ops ss T,dw H ss ops.length) else none
 | none=>none
def aI(k:Nat):bC->Tr af->ae->Option (oD×Tr af×ae)
 | .skip,T,H=>some (.normal,T,H)
 | .reg ops,T,H=>match be tb call ops T H with
  | some (T',H')=>some (.normal,T',H')
  | none=>none
 | .draw ops chk,T,H=>jO tb call (az H.next ops) chk T (bO H ops)
 | .seq a b,T,H=>match aI k a T H with
  | some (.normal,T',H')=>aI k b T' H'
  | some (e,T',H')=>some (e,T',H')
  | none=>none
 | .cond c a b,T,H=>match ev T c with
  | .bool true=>aI k a T H
  | .bool false=>aI k b T H
  | _=>none
 | .block id c,T,H=>match aI k c T H with
  | some (.exit j,T',H')=>bif Nat.beq j id then some (.normal,T',H') else some (.exit j,T',H')
  | some (e,T',H')=>some (e,T',H')
  | none=>none
 | .loop c,T,H=>gJ (aI k c) k T H
 | .exit id,T,H=>some (.exit id,T,H)
 | .ret,T,H=>some (.ret,T,H)
end
def gt(T:Tr af)(H:ae):List kW->Option (List af)
 | []=>some []
 | .t i::r=>match gt T H r with
  | some l=>some (ev T (.t i)::l)
  | none=>none
 | .cell g n i::r=>match bg g n H (ev T (.t i)),gt T H r with
  | some x,some l=>some (x::l)
  | _,_=>none
def gH:List af->af
 | [x]=>x
 | l=>.tuple l
def cp:List af->Nat->Tr af->Tr af
 | [],_,T=>T
 | x::r,i,T=>cp r (i+1) (T.set i x)
structure HK where
 ps:List Nat
 df:Option (Nat×Nat×Bool)
structure go where
 is:FuncId->Bool
 run:FuncId->List af->ae->Option (af×ae)
 md:Nat->Option HK
def uk(N:go)(A:Tr bW):FuncId->Bool:=fun f=>bif N.is f then true else match A.get f with | some _=>true | none=>false
def cx(N:go)(tab:Tr bW):Nat->FuncId->List af->ae->Option (af×ae)
 | 0,_,_,_=>none
 | n+1,f,args,H=>bif N.is f then N.run f args H else match tab.get f with
  | some fn=>bif Nat.ble args.length fn.nt then
    match aI (uk N tab) (cx N tab n) n fn.body (cp args 0 .e) H with
    | some (.exit _,_,_)=>none
    | some (_,T,H')=>match gt T H' fn.res with
     | some l=>some (gH l,H')
     | none=>none
    | none=>none
   else none
  | none=>none
section
variable (P:Program)
def eN:bC:=.reg [⟨none,.bad,none⟩]
def EX(es:List (List Nat))(l:List aj)(ms:List Nat):bC:=
 bif eQ es ms&&(fW l ms&&(lI l ms&&(lG l&&l.all fun o=>(dC o.op).isNone))) then
  .seq (.draw l ((List.range l.length).map (dx l ms))) (.reg ((lV l ms).map ow)) else eN
def cY(n:Nat):Code->Option bC
 | .skip=>some .skip
 | .region _ ops false=>match ck P n ops ops.toList with
  | some l=>some (.reg l)
  | none=>none
 | .region _ ops true=>match ck P n ops ops.toList with
  | some l=>bif eQ (ops.toList.map aV) (aZ [] (ops.toList.map aV))&&dt (az 0 l) (aZ [] (ops.toList.map aV)) then
    some (.draw l ((List.range l.length).map (dx (az 0 l) (aZ [] (ops.toList.map aV))))) else some (EX (ops.toList.map aV) l (aZ [] (ops.toList.map aV)))
  | none=>none
 | .seq a b=>match cY n a,cY n b with
  | some a,some b=>some (.seq a b)
  | _,_=>none
 | .cond c a b=>match bG c,cY n a,cY n b with
  | some c,some a,some b=>some (.cond c a b)
  | _,_,_=>none
 | .block id c=>match cY n c with
  | some c=>some (.block id c)
  | none=>none
 | .loop c=>match cY n c with
  | some c=>some (.loop c)
  | none=>none
 | .exit id=>some (.exit id)
 | .ret=>some .ret
 | _=>some eN
def mS:List ResultVar->Option (List kW)
 | []=>some []
 | .tmp t::r=>match mS r with
  | some l=>some (.t t::l)
  | none=>none
 | .cell a t::r=>match dZ P t,mS r with
  | some (g,n),some l=>some (.cell g n a::l)
  | _,_=>none
def FX(f:FuncId):Option bW:=
 match P.funcs[f]? with
 | some fn=>match fn.body with
  | some c => bif fn.name == "runtime.NumGoroutine" then none else
   match cY P fn.ntmps c,mS P fn.results.toList with
   | some b,some r=>some ⟨fn.ntmps,b,r⟩
   | _,_=>none
  | none=>none
 | none=>none
end
section
variable {P:Program} {Prot:Gh} {w0:World} {ρ:Pl} {H H':ae} {w:World}
def Cu(P:Program)(Prot:Gh)(w0:World)(ds:List Deferred)(ρ:Pl)(n:Nat)(e:oD)(T:Tr af)(H:ae):Exit->Act->World->Prop:=fun e' a w=>
 (match e with | .normal=>e'=.normal | .exit id=>e'=.exit id | .ret=>e'=.ret)/\∃ρ',ρ.le ρ'/\Rel Prot w0 ρ' H w/\aH ρ' n T a.tmps/\a.defers=ds
theorem uU{tb:FuncId->Bool}(htb:∀f,Nat.blt f bI=true->tb f=true->bc P f=true){call:FuncId->List af->ae->Option (af×ae)}(hcall:gk P call){ds:List Deferred}{n:Nat}{ops:Array Oper}{Q:Exit->Act->World->Prop} :
  ∀(rest:List Oper) (i:Nat) (l:List aj),(∀j,rest[j]?=ops[i+j]?)->ck P n ops rest=some l->∀(ρ0 ρ:Pl) (T T':Tr af) (H H':ae) (a:Act) (w:World),ρ0.le ρ ->
   Rel Prot w0 ρ H w->aH ρ n T a.tmps->a.defers=ds->be tb call l T H=some (T',H') ->
   (∀a' w',(∃ρ',ρ0.le ρ'/\Rel Prot w0 ρ' H' w'/\aH ρ' n T' a'.tmps/\a'.defers=ds)->Q .normal a' w')->wpOps P ops Q (List.range' i rest.length) a w:=by
 intro rest
 induction rest with
 | nil=>
  intro i l _ hc ρ0 ρ T T' H H' a w hle R ht hd h hQ
  simp only[ck,sJ]at hc
  subst hc
  simp only[be,sJ,pJ]at h
  obtain⟨rfl,rfl⟩:=h
  exact hQ a w ⟨ρ,hle,R,ht,hd⟩
 | cons o rest ih=>
  intro i l hi hc ρ0 ρ T T' H H' a w hle R ht hd h hQ
  simp only[ck]at hc
  split at hc
  ·rename_i ao l' ha hl
   simp only[sJ]at hc
   subst hc
   have ho:ops[i]?=some o:=by have:=hi 0; simpa using this.symm
   have hnext:∀j,rest[j]?=ops[i+1+j]?:=fun j=>by have:=hi (j+1); simp only[NJ]at this; rw[this]; congr 1; omega
   unfold dj at ha
   split at ha
   ·rename_i ax g hop hg
    cases hdst:cM n o.dst with
    | false=>rw[hdst]at ha; simp at ha
    | true=>
     rw[hdst]at ha
     simp only[cond_true,sJ]at ha
     subst ha
     simp only[ND,List.range'_succ,wpOps,ho]
     simp only[be]at h
     rw[eA ht hg]
     cases hgo:fi T g with
     | false=>
      rw[hgo]at h
      simp only[cond_false]at h
      simp only[NK,if_false]
      refine ih (i+1) l' hnext hl ρ0 ρ _ _ _ _ _ _ hle R (bn ht hdst dp) ?_ h hQ
      cases hx:o.dst <;> simpa[Act.put] using hd
     | true=>
      rw[hgo]at h
      simp only[cond_true]at h
      simp only[if_true]
      left
      split at h
      ·rename_i v H1 hv
       obtain⟨ρ1,w1,nx,q1,q2,q3,q4⟩:=fU htb R ht o hop hv
       simp only[Oper.wp,q2]
       have hd':∀u,(a.put o.dst u).defers=ds:=fun u=>by cases hx:o.dst <;> simpa[Act.put] using hd
       cases nx <;> simp only[gM]at q4
       case value u=>exact ih (i+1) l' hnext hl ρ0 ρ1 _ _ _ _ _ _ (Pl.le_trans hle q1) q3 (bn (ht.mono q1) hdst q4) (hd' _) h hQ
       case skip=>exact ih (i+1) l' hnext hl ρ0 ρ1 _ _ _ _ _ _ (Pl.le_trans hle q1) q3 (bn (ht.mono q1) hdst q4) (hd' _) h hQ
      ·rename_i f args H1 hv
       split at h
       ·rename_i v H2 hcl
        obtain⟨ρ1,w1,nx,q1,q2,q3,q4⟩:=fU htb R ht o hop hv
        simp only[Oper.wp,q2]
        have hd':∀u,(a.put o.dst u).defers=ds:=fun u=>by cases hx:o.dst <;> simpa[Act.put] using hd
        cases nx <;> simp only[gM]at q4
        case enter g vs=>
         obtain⟨rfl,hbig,q5⟩:=q4
         simp only[Oper.upon]
         refine (hcall _ _ _ _ _ hbig hcl Prot w0 ρ1 w1 vs q3 q5).mono fun e w' hr=>?_
         obtain⟨ρ2,u,r1,rfl,r3,r4⟩:=hr
         exact ih (i+1) l' hnext hl ρ0 ρ2 _ _ _ _ _ _ (Pl.le_trans hle (Pl.le_trans q1 r1)) r3 (bn ((ht.mono q1).mono r1) hdst r4) (hd' _) h hQ
       ·simp at h
      ·simp at h
   ·simp at ha
  ·simp at hc
theorem Cu.weaken{ds:List Deferred}{ρ ρ':Pl}{n:Nat}{e:oD}{T:Tr af}{H:ae}(h:ρ.le ρ'){e':Exit}{a:Act}{w:World}(q:Cu P Prot w0 ds ρ' n e T H e' a w):Cu P Prot w0 ds ρ n e T H e' a w:=by
 obtain⟨h1,ρ2,h2,h3⟩:=q
 exact⟨h1,ρ2,Pl.le_trans h h2,h3⟩
theorem iH{tb:FuncId->Bool}{call:FuncId->List af->ae->Option (af×ae)}{k:Nat}{T:Tr af}{H:ae}:aI tb call k eN T H=none:=rfl
theorem sk:∀{l:List aj} {b:Nat},(l.all fun o=>(dC o.op).isNone)=true->az b l=l
 | [],_,_=>rfl
 | o::r,b,h=>by
  simp only[List.all_cons,NC,Option.isNone_iff_eq_none]at h
  simp only[az,h.1,sk (l:=r) h.2]
theorem nA:∀{l:List aj} {H:ae},(l.all fun o=>(dC o.op).isNone)=true->bO H l=H
 | [],_,_=>rfl
 | o::r,H,h=>by
  simp only[List.all_cons,NC,Option.isNone_iff_eq_none]at h
  simp only[bO,h.1,nA (l:=r) h.2]
theorem l8{tb:FuncId->Bool}{call:FuncId->List af->ae->Option (af×ae)}:∀(ps:List (bb×bb)) {T T':Tr af} {H H':ae},be tb call (ps.map ow) T H=some (T',H') ->
  T'=T/\H'=H/\∀p∈ps,Ki (ev T p.1) (ev T p.2)=true
 | [],T,T',H,H',h=>by
  simp only[List.map_nil,be,sJ,pJ]at h
  exact⟨h.1.symm,h.2.symm,by simp⟩
 | p::r,T,T',H,H',h=>by
  simp only[List.map_cons,be,ow,fi,cond_true,bF,jj,eC,FL]at h
  cases hp:Ki (ev T p.1) (ev T p.2) with
  | false=>rw[hp]at h; simp[vv]at h
  | true=>
   rw[hp]at h
   simp only[cond_true,vv,aK]at h
   obtain⟨h1,h2,h3⟩:=l8 r h
   refine⟨h1,h2,fun q hq=>?_⟩
   rcases List.mem_cons.1 hq with rfl | hq
   ·exact hp
   ·exact h3 q hq
theorem pQ(hfol:P.follows .mixedOrders=true){tb:FuncId->Bool}(htb:∀f,Nat.blt f bI=true->tb f=true->bc P f=true){call:FuncId->List af->ae->Option (af×ae)}(hcall:gk P call){ds:List Deferred}{n k:Nat} :
  ∀(c:Code) (ac:bC),cY P n c=some ac->∀(ρ:Pl) (T T':Tr af) (H H':ae) (e:oD) (a:Act) (w:World),
   Rel Prot w0 ρ H w->aH ρ n T a.tmps->a.defers=ds->aI tb call k ac T H=some (e,T',H')->c.wp P (Cu P Prot w0 ds ρ n e T' H') a w:=by
 intro c
 induction c with
 | skip=>
  intro ac hc ρ T T' H H' e a w R ht hd h
  simp only[cY,sJ]at hc; subst hc
  simp only[aI,sJ,pJ]at h
  obtain⟨rfl,rfl,rfl⟩:=h
  exact wp_skip ⟨rfl,ρ,Pl.le_refl _,R,ht,hd⟩
 | region id ops draw=>
  intro ac hc ρ T T' H H' e a w R ht hd h
  cases draw with
  | true=>
   simp only[cY]at hc
   split at hc
   ·rename_i l hl
    cases hck:(eQ (ops.toList.map aV) (aZ [] (ops.toList.map aV))&&dt (az 0 l) (aZ [] (ops.toList.map aV))) with
    | false=>
     rw[hck]at hc
     simp only[cond_false,sJ]at hc; subst hc
     clear hck
     unfold EX at h
     cases hck:(eQ (ops.toList.map aV) (aZ [] (ops.toList.map aV))&&(fW l (aZ [] (ops.toList.map aV))&&(lI l (aZ [] (ops.toList.map aV))&&(lG l&&l.all fun o=>(dC o.op).isNone)))) with
     | false=>rw[hck]at h; simp[iH]at h
     | true=>
      rw[hck,cond_true]at h
      simp only[NC]at hck
      obtain⟨c1,c2,c3,c4,c5⟩:=hck
      have hlen:l.length=ops.toList.length:=(pm hl).1
      simp only[aI,jO,sk c5,nA c5]at h
      cases hss:cf tb call l T H with
      | none=>rw[hss]at h; simp at h
      | some ss=>
      rw[hss]at h
      simp only at h
      cases hr:ed tb (H::ss.map (·.2)) l ((List.range l.length).map (dx l (aZ [] (ops.toList.map aV)))) ss T with
      | false=>rw[hr]at h; simp at h
      | true=>
       rw[hr]at h
       simp only[cond_true]at h
       cases hg:be tb call ((lV l (aZ [] (ops.toList.map aV))).map ow) (bh (fun _=>true) 0 l ss T) (dw H ss l.length) with
       | none=>rw[hg]at h; simp at h
       | some q=>
       obtain⟨T2,H2⟩:=q
       rw[hg]at h
       simp only[sJ,pJ]at h
       obtain⟨rfl,rfl,rfl⟩:=h
       obtain⟨rfl,rfl,hchecks⟩:=l8 _ hg
       obtain⟨hap,hal⟩:=Ju hss c4 hchecks
       refine wp_region_any hfol ?_
       have hN:l.length=ops.size:=by simpa using hlen
       have hrep:∀i,(Array.replicate ops.size false).getD i false=false:=fun i=>by
        rw[Array.getD_eq_getD_getElem?,Array.getElem?_replicate]; split <;> rfl
       have hm0:(fun i=>(Array.replicate ops.size false).getD i false)=fun _=>false:=funext hrep
       have hst:aw (fun i=>(Array.replicate ops.size false).getD i false) 0 l=aw (fun _=>false) 0 l:=fe l 0 fun c o _ _=>by simp only[hrep]
       have hH:dw H ss (aw (fun _=>false) 0 l)=H:=by
        obtain⟨q1,q2,q3,q4⟩:=da (fun _=>false) l 0
        have:=cq hss (aw (fun _=>false) 0 l) 0 om fun c o _ hlt ho=>by
         cases hx:aB o.op with
         | false=>rfl
         | true=>have:=q3 c o ho hx om; simp at this
        rw[Nat.zero_add]at this
        rw[this]; rfl
       refine EL (Prot:=Prot) (w0:=w0) htb hcall (base:=H.next) hlen (fun j o hj=>let ⟨a,q1,q2⟩:=(pm hl).2 j o hj; ⟨a,q1,.inl q2⟩) (fun d hd=>(R.dead d hd).1) (fun i j a b c h1 h2 h3=>?_) (dU hl) c1 c2 c3 hss hr hap hal (ρ0:=ρ) (fun a' w' hx=>⟨rfl,hx⟩) ops.size _ a _ (by simp) ?_ (fun j _ hj=>by rw[hrep]at hj; simp at hj) ⟨ρ,H,Pl.le_refl _,?_,?_,?_,hd⟩
       ·exact absurd h3 (by rw[lE hl a (NH h1)]; simp)
       ·rw[hm0]
        have:∀k,qE (fun _=>false) k=k:=by
         intro k
         induction k with
         | zero=>rfl
         | succ k ih=>simp only[qE,ih,cond_false]
        exact this _
       ·rw[hst,hm0]
        refine⟨by rw[hH],fun x _=>by rw[hH],fun q x _ h2=>?_⟩
        exact absurd h2.1 (by simp)
       ·rw[hm0]
        refine R.drew.fewer (D:=mV Prot.dead l fun _=>false) fun d hd=>?_
        rcases hd with hd | ⟨i,a,h1,h2,_⟩
        ·exact hd
        ·rw[lE hl a (NH h1)]at h2; simp at h2
       ·refine ht.congr fun t=>?_
        rw[hm0]
        have:∀(l:List aj) (ss:List (af×ae)) (k:Nat) (T:Tr af),bh (fun _=>false) k l ss T=T:=by
         intro l
         induction l with
         | nil=>intro ss k T; cases ss <;> rfl
         | cons o r ih=>intro ss k T; cases ss with
          | nil=>rfl
          | cons s ss=>obtain⟨x,y⟩:=s; simp only[bh,cond_false,ih]
        rw[this]
    | true=>
     rw[hck]at hc
     simp only[cond_true,sJ]at hc; subst hc
     simp only[NC]at hck
     have hnc:=dU hl
     have hlk:=gG l H.next 0
     have hok:dt (az H.next l) (aZ [] (ops.toList.map aV))=true:=by rw[lH hlk]; exact hck.2
     have hlen:(az H.next l).length=ops.toList.length:=(j7 hl H.next).1
     have hll:l.length=(az H.next l).length:=by rw[hlen]; exact (pm hl).1
     have hchk:(List.range l.length).map (dx (az 0 l) (aZ [] (ops.toList.map aV)))=(List.range (az H.next l).length).map (dx (az H.next l) (aZ [] (ops.toList.map aV))):=by
      rw[hll]
      exact List.map_congr_left fun j _=>(pS hlk _ j).symm
     have hbase:∀d,Prot.dead d->d<H.next:=fun d hd=>(R.dead d hd).1
     have R:=fI (pr:=Prot.prot) l Prot.dead H hnc R
     simp only[aI,jO]at h
     rw[hchk]at h
     generalize hcl:az H.next l=m at *
     generalize hrv:bO H l=K at *
     split at h
     ·rename_i ss hss
      cases hr:ed tb (K::ss.map (·.2)) m ((List.range m.length).map (dx m (aZ [] (ops.toList.map aV)))) ss T with
      | false=>rw[hr]at h; simp at h
      | true=>
       rw[hr]at h
       simp only[cond_true,sJ,pJ]at h
       obtain⟨rfl,rfl,rfl⟩:=h
       refine wp_region_any hfol ?_
       have hN:m.length=ops.size:=by simpa using hlen
       have hrep:∀i,(Array.replicate ops.size false).getD i false=false:=fun i=>by
        rw[Array.getD_eq_getD_getElem?,Array.getElem?_replicate]; split <;> rfl
       have hm0:(fun i=>(Array.replicate ops.size false).getD i false)=fun _=>false:=funext hrep
       have hst:aw (fun i=>(Array.replicate ops.size false).getD i false) 0 m=aw (fun _=>false) 0 m:=fe m 0 fun c o _ _=>by simp only[hrep]
       have hH:dw K ss (aw (fun _=>false) 0 m)=K:=by
        obtain⟨q1,q2,q3,q4⟩:=da (fun _=>false) m 0
        have:=cq hss (aw (fun _=>false) 0 m) 0 om fun c o _ hlt ho=>by
         cases hx:aB o.op with
         | false=>rfl
         | true=>have:=q3 c o ho hx om; simp at this
        rw[Nat.zero_add]at this
        rw[this]; rfl
       refine vQ (RAW:=False) (rp:=fun _=>False) (Prot:=Prot) (w0:=w0) htb hcall (fun h=>h.elim) (fun h=>h.elim) (base:=H.next) hlen (by rw[<- hcl]; exact fun j o hj=>let ⟨a,q1,q2⟩:=(j7 hl H.next).2 j o hj; ⟨a,q1,.inl ⟨fun h=>h,q2.imp_right .inl⟩⟩) hbase (by rw[<- hcl]; exact iU l H.next hnc) hck.1 hok hss hr (ρ0:=ρ) (fun a' w' hx=>⟨rfl,hx⟩) (fun h=>h.elim) ops.size _ a _ (by simp) ?_ (fun j _ hj=>by rw[hrep]at hj; simp at hj) (fun c h=>h.elim) ⟨ρ,Pl.le_refl _,?_,?_,hd⟩
       ·rw[hm0]
        have:∀k,qE (fun _=>false) k=k:=by
         intro k
         induction k with
         | zero=>rfl
         | succ k ih=>simp only[qE,ih,cond_false]
        exact this _
       ·rw[hst,hH,hm0]; exact R.drew
       ·refine ht.congr fun t=>?_
        rw[hm0]
        have:∀(l:List aj) (ss:List (af×ae)) (k:Nat) (T:Tr af),bh (fun _=>false) k l ss T=T:=by
         intro l
         induction l with
         | nil=>intro ss k T; cases ss <;> rfl
         | cons o r ih=>intro ss k T; cases ss with
          | nil=>rfl
          | cons s ss=>obtain⟨x,y⟩:=s; simp only[bh,cond_false,ih]
        rw[this]
     ·simp at h
   ·simp at hc
  | false=>
   simp only[cY]at hc
   split at hc
   ·rename_i l hl
    simp only[sJ]at hc; subst hc
    simp only[aI]at h
    split at h
    ·rename_i T1 H1 h1
     simp only[sJ,pJ]at h
     obtain⟨rfl,rfl,rfl⟩:=h
     refine wp_region ?_
     have:=uU (Prot:=Prot) (w0:=w0) htb hcall (Q:=Cu P Prot w0 ds ρ n .normal T1 H1) ops.toList 0 l (fun j=>by simp) hl ρ ρ T T1 H H1 a w (Pl.le_refl _) R ht hd h1 (fun a' w' h=>⟨rfl,h⟩)
     rw[List.range_eq_range']
     simpa using this
    ·simp at h
   ·simp at hc
 | seq x y ihx ihy=>
  intro ac hc ρ T T' H H' e a w R ht hd h
  simp only[cY]at hc
  split at hc
  ·rename_i ax ay hx hy
   simp only[sJ]at hc; subst hc
   simp only[aI]at h
   split at h
   ·rename_i T1 H1 h1
    refine wp_seq (wp_mono (ihx _ hx ρ T T1 H H1 .normal a w R ht hd h1) ?_)
    rintro e1 a1 w1 ⟨he,ρ1,hl,R1,ht1,hd1⟩
    simp only at he
    subst he
    exact wp_mono (ihy _ hy ρ1 T1 T' H1 H' e a1 w1 R1 ht1 hd1 h) fun _ _ _ q=>q.weaken hl
   ·rename_i e1 T1 H1 hne h1
    simp only[sJ,pJ]at h
    obtain⟨rfl,rfl,rfl⟩:=h
    refine wp_seq (wp_mono (ihx _ hx ρ T T1 H H1 e1 a w R ht hd h1) ?_)
    rintro e2 a1 w1 q
    cases e1 with
    | normal=>exact (hne rfl).elim
    | exit id=>have:=q.1; simp only at this; subst this; exact q
    | ret=>have:=q.1; simp only at this; subst this; exact q
   ·simp at h
  ·simp at hc
 | cond c x y ihx ihy=>
  intro ac hc ρ T T' H H' e a w R ht hd h
  simp only[cY]at hc
  split at hc
  ·rename_i c' ax ay hcc hx hy
   simp only[sJ]at hc; subst hc
   simp only[aI]at h
   have hv:=aA ht hcc
   split at h
   ·rename_i hb
    rw[hb]at hv
    simp only[ag]at hv
    exact wp_cond_true hv (ihx _ hx ρ T T' H H' e a w R ht hd h)
   ·rename_i hb
    rw[hb]at hv
    simp only[ag]at hv
    exact wp_cond_false hv (ihy _ hy ρ T T' H H' e a w R ht hd h)
   ·simp at h
  ·simp at hc
 | block id c ih=>
  intro ac hc ρ T T' H H' e a w R ht hd h
  simp only[cY]at hc
  split at hc
  ·rename_i ax hx
   simp only[sJ]at hc; subst hc
   simp only[aI]at h
   split at h
   ·rename_i j T1 H1 h1
    refine wp_block (wp_mono (ih _ hx ρ T T1 H H1 (.exit j) a w R ht hd h1) ?_)
    rintro e1 a1 w1 q
    have he:=q.1
    simp only at he
    subst he
    cases hb:Nat.beq j id with
    | true=>
     rw[hb]at h
     simp only[cond_true,sJ,pJ]at h
     obtain⟨rfl,rfl,rfl⟩:=h
     have:=NG hb
     simp only[Exit.inBlock,this,if_true]
     exact⟨rfl,q.2⟩
    | false=>
     rw[hb]at h
     simp only[cond_false,sJ,pJ]at h
     obtain⟨rfl,rfl,rfl⟩:=h
     have:¬j=id:=fun e=>by rw[e,Nat.beq_refl]at hb; simp at hb
     simp only[Exit.inBlock,this,if_false]
     exact q
   ·rename_i e1 T1 H1 hne h1
    simp only[sJ,pJ]at h
    obtain⟨rfl,rfl,rfl⟩:=h
    refine wp_block (wp_mono (ih _ hx ρ T T1 H H1 e1 a w R ht hd h1) ?_)
    rintro e2 a1 w1 q
    cases e1 with
    | normal=>have:=q.1; simp only at this; subst this; exact q
    | exit j=>exact (hne _ rfl).elim
    | ret=>have:=q.1; simp only at this; subst this; exact q
   ·simp at h
  ·simp at hc
 | loop c ih=>
  intro ac hc ρ T T' H H' e a w R ht hd h
  simp only[cY]at hc
  split at hc
  ·rename_i ax hx
   simp only[sJ]at hc; subst hc
   simp only[aI]at h
   refine wp_loop_rounds k ?_
   have key:∀(m:Nat) (T:Tr af) (H:ae) (ρ1:Pl) (a:Act) (w:World),ρ.le ρ1->Rel Prot w0 ρ1 H w->aH ρ1 n T a.tmps->a.defers=ds ->
     gJ (aI tb call k ax) m T H=some (e,T',H')->Code.rounds P c (Cu P Prot w0 ds ρ n e T' H') m a w:=by
    intro m
    induction m with
    | zero=>intro T H ρ1 a w _ _ _ _ h; simp[gJ]at h
    | succ m ihm=>
     intro T H ρ1 a w hl R ht hd h
     rw[rounds_succ]
     simp only[gJ]at h
     split at h
     ·rename_i T1 H1 h1
      refine wp_mono (ih _ hx ρ1 T T1 H H1 .normal a w R ht hd h1) ?_
      rintro e1 a1 w1 ⟨he,ρ2,hl2,R1,ht1,hd1⟩
      simp only at he
      subst he
      exact ihm T1 H1 ρ2 a1 w1 (Pl.le_trans hl hl2) R1 ht1 hd1 h
     ·rename_i e1 T1 H1 hne h1
      simp only[sJ,pJ]at h
      obtain⟨rfl,rfl,rfl⟩:=h
      refine wp_mono (ih _ hx ρ1 T T1 H H1 e1 a w R ht hd h1) ?_
      rintro e2 a1 w1 q
      have q':=q.weaken hl
      cases e1 with
      | normal=>exact (hne rfl).elim
      | exit id=>have:=q.1; simp only at this; subst this; exact q'
      | ret=>have:=q.1; simp only at this; subst this; exact q'
     ·simp at h
   exact key k T H ρ a w (Pl.le_refl _) R ht hd h
  ·simp at hc
 | exit id=>
  intro ac hc ρ T T' H H' e a w R ht hd h
  simp only[cY,sJ]at hc; subst hc
  simp only[aI,sJ,pJ]at h
  obtain⟨rfl,rfl,rfl⟩:=h
  exact wp_exit ⟨rfl,ρ,Pl.le_refl _,R,ht,hd⟩
 | ret=>
  intro ac hc ρ T T' H H' e a w R ht hd h
  simp only[cY,sJ]at hc; subst hc
  simp only[aI,sJ,pJ]at h
  obtain⟨rfl,rfl,rfl⟩:=h
  exact wp_ret ⟨rfl,ρ,Pl.le_refl _,R,ht,hd⟩
 | _=>
  intro ac hc ρ T T' H H' e a w R ht hd h
  simp only[cY,sJ]at hc; subst hc
  simp[iH]at h
theorem Gt{n:Nat}(R:Rel Prot w0 ρ H w){T:Tr af}{tmps:Array Value}(ht:aH ρ n T tmps):∀{rs:List ResultVar} {l:List kW},mS P rs=some l->∀{xs:List af},gt T H l=some xs ->
  ∃vs:List Value,(rs.mapM (fun r=>match r with
   | .tmp t=>Pure.pure (tmps.getD t undef)
   | .cell a t=>do loadVar t (<- asAddr (tmps.getD a undef))):Sem (List Value)).run P w=.ok vs w/\ah ρ xs vs:=by
 intro rs
 induction rs with
 | nil=>
  intro l hc xs h
  simp only[mS,sJ]at hc; subst hc
  simp only[gt,sJ]at h; subst h
  exact⟨[],rfl,by simp[ah]⟩
 | cons r rs ih=>
  intro l hc xs h
  cases r with
  | tmp t=>
   simp only[mS]at hc
   split at hc
   ·rename_i l' hl
    simp only[sJ]at hc; subst hc
    simp only[gt]at h
    split at h
    ·rename_i ys hy
     simp only[sJ]at h; subst h
     obtain⟨vs,h1,h2⟩:=ih hl hy
     refine⟨tmps.getD t undef::vs,?_,by simp only[ah]; exact⟨_,_,rfl,ht.at_ t,h2⟩⟩
     simp only[List.mapM_cons,Sem.run_bind,Sem.run_pure,Result.andThen_ok,h1]
    ·simp at h
   ·simp at hc
  | cell a t=>
   simp only[mS]at hc
   split at hc
   ·rename_i g k l' hk hl
    simp only[sJ]at hc; subst hc
    simp only[gt]at h
    split at h
    ·rename_i x ys hx hy
     simp only[sJ]at h; subst h
     obtain⟨vs,h1,h2⟩:=ih hl hy
     obtain⟨u,u1,u2⟩:=tG (P:=P) R (cH hk) (ht.at_ a) hx
     have hp:∃ad,tmps.getD a undef=.pointer (some ad):=by
      have hat:=ht.at_ a
      unfold bg at hx
      split at hx
      ·rename_i ad heq
       rw[heq]at hat
       simp only[ag]at hat
       obtain⟨L,_,_,e⟩:=hat
       exact⟨_,e⟩
      ·simp at hx
     obtain⟨ad,had⟩:=hp
     refine⟨u::vs,?_,by simp only[ah]; exact⟨_,_,rfl,u2,h2⟩⟩
     have:(loadVar t ad).run P w=.ok u w:=by
      rw[had]at u1
      simpa[Instr.loadAt,Instr.sureAddr] using u1
     have hA:(asAddr (tmps.getD a undef)).run P w=.ok ad w:=by rw[had]; rfl
     simp only[List.mapM_cons,Sem.run_bind,hA,Sem.run_pure,Result.andThen_ok,this,h1]
    ·simp at h
   ·simp at hc
theorem gB{n:Nat}(R:Rel Prot w0 ρ H w){T:Tr af}{tmps:Array Value}(ht:aH ρ n T tmps){fn:Func}{l:List kW}(hc:mS P fn.results.toList=some l){xs:List af}(h:gt T H l=some xs) :
  ∃v,(results fn tmps).run P w=.ok v w/\ag ρ (gH xs) v:=by
 obtain⟨vs,h1,h2⟩:=Gt (P:=P) R ht hc h
 have hl:=ah.len h2
 have hm:(fn.results.mapM (fun r=>match r with
   | .tmp t=>Pure.pure (tmps.getD t undef)
   | .cell a t=>do loadVar t (<- asAddr (tmps.getD a undef))):Sem (Array Value)).run P w=.ok vs.toArray w:=by
  rw[Array.mapM_eq_mapM_toList]
  simp only[Sem.run_map,h1,Result.andThen_ok]
 refine⟨if h:vs.toArray.size=1 then vs.toArray[0] else .tuple vs.toArray,?_,?_⟩
 ·have e:results fn tmps=(fn.results.mapM (fun r=>match r with
   | .tmp t=>Pure.pure (tmps.getD t undef)
   | .cell a t=>do loadVar t (<- asAddr (tmps.getD a undef))):Sem (Array Value)) >>= fun vs=>Pure.pure (if h:vs.size=1 then vs[0] else .tuple vs):=rfl
  rw[e,Sem.run_bind,hm]
  rfl
 ·match xs,vs,h2,hl with
  | [x],[v],h2,_=>
   simp only[ah]at h2
   obtain⟨v',r,e,h3,_⟩:=h2
   simp only[List.cons.injEq]at e
   obtain⟨rfl,rfl⟩:=e
   exact h3
  | [],[],h2,_=>simp only[gH,ag]; exact⟨_,rfl,h2⟩
  | x::y::xs,v::u::vs,h2,_=>simp only[gH,ag]; exact⟨_,rfl,h2⟩
theorem l7:∀(args:List af) (vs:List Value) (i:Nat) (T:Tr af),ah ρ args vs->(∀t,i<=t->T.get t=none) ->
  ∀t,ev (cp args i T) (.t t)=if t<i then ev T (.t t) else match args[t-i]? with | some x=>x | none=>aJ:=by
 intro args
 induction args with
 | nil=>
  intro vs i T _ hn t
  simp only[cp]
  split
  ·rfl
  ·rename_i h
   simp[ev,hn t om]
 | cons x r ih=>
  intro vs i T hv hn t
  simp only[ah]at hv
  obtain⟨v,vs',rfl,h1,h2⟩:=hv
  simp only[cp]
  rw[ih vs' (i+1) (T.set i x) h2 (fun t ht=>by rw[Tr.get_set,if_neg om]; exact hn t om) t]
  by_cases c1:t<i
  ·rw[if_pos om,if_pos c1]
   simp only[ev,Tr.get_set]
   rw[if_neg om]
  ·by_cases c2:t=i
   ·subst c2
    rw[if_pos om,if_neg c1]
    simp[ev,Tr.get_set]
   ·rw[if_neg om,if_neg c1,show t-i=(t-(i+1))+1 by omega]
    simp
theorem jT{args:List af}{vs:Array Value}(hv:ah ρ args vs.toList){n:Nat}(hn:args.length<=n):aH ρ n (cp args 0 .e) (vs++Array.replicate (n-vs.size) undef):=by
 have hl:=ah.len hv
 simp only[Array.length_toList]at hl
 refine⟨by simp; omega,fun t=>?_⟩
 rw[l7 args vs.toList 0 .e hv (fun _ _=>rfl) t]
 rw[if_neg om,Nat.sub_zero]
 by_cases ht:t<args.length
 ·have hx:args[t]?=some args[t]:=Nz ht
  obtain⟨v,h1,h2⟩:=hv.nth _ _ hx
  rw[hx]
  rw[Array.getElem?_toList]at h1
  have:(vs++Array.replicate (n-vs.size) undef).getD t undef=v:=by
   rw[Array.getD_eq_getD_getElem?,Array.getElem?_append_left om,h1]; rfl
  rw[this]
  exact h2
 ·have hx:args[t]?=none:=NQ om
  rw[hx]
  have:(vs++Array.replicate (n-vs.size) undef).getD t undef=undef:=by
   rw[Array.getD_eq_getD_getElem?,Array.getElem?_append_right om]
   by_cases h:t-vs.size<n-vs.size
   ·simp[h]
   ·simp[h]
  rw[this]
  exact dp
theorem lW {f : FuncId} {fn : bW} (h : FX P f = some fn) : ∃ fc code, P.funcs[f]? = some fc ∧ fc.body = some code ∧ (fc.name == "runtime.NumGoroutine") = false ∧ fc.ntmps = fn.nt ∧ cY P fn.nt code = some fn.body ∧ mS P fc.results.toList = some fn.res := by
 unfold FX at h
 split at h
 ·rename_i fc hf
  split at h
  ·rename_i c hb
   cases hn : (fc.name == "runtime.NumGoroutine") with
   | true=>rw[hn]at h; simp at h
   | false=>
    rw[hn]at h
    simp only[cond_false]at h
    split at h
    ·rename_i b r h1 h2
     simp only[sJ]at h
     subst h
     exact⟨fc,c,hf,hb,hn,rfl,h1,h2⟩
    ·simp at h
  ·simp at h
 ·simp at h
structure wN(P:Program)(N:go):Prop where
 body:∀f,N.is f=true->bc P f=true
 run:gk P N.run
def il:go:=⟨fun _=>false,fun _ _ _=>none,fun _=>none⟩
theorem DO:wN P il:=⟨fun f h=>by simp[il]at h,fun f args H v H' _ h=>by simp[il]at h⟩
end
end Go.Abs
namespace Go.Abs
def cz(n:Nat):bb->Bool
 | .t i=>Nat.blt i n
 | _=>true
def jv(n:Nat):List bb->Bool
 | []=>true
 | x::r=>cz n x&&jv n r
def lF(n:Nat):Option bb->Bool
 | none=>true
 | some x=>cz n x
def pk(n:Nat):List (Nat×Nat×bb)->Bool
 | []=>true
 | (_,_,x)::r=>cz n x&&pk n r
def HA(n:Nat):gn->Bool
 | .mv x=>cz n x
 | .pick c a b=>cz n c&&(cz n a&&cz n b)
 | .new _=>true
 | .box x=>cz n x
 | .build _ ps=>pk n ps
 | .buildSl _ _ ps=>pk n ps
 | .load _ _ x=>cz n x
 | .store _ a x=>cz n a&&cz n x
 | .nilChk x=>cz n x
 | .bin _ x y=>cz n x&&cz n y
 | .un _ x=>cz n x
 | .conv _ x=>cz n x
 | .convSB x=>cz n x
 | .convBS x=>cz n x
 | .mkFunc _ a b=>jv n a&&jv n b
 | .mkIface _ x=>cz n x
 | .mkSlice _ _ l c=>cz n l&&cz n c
 | .sl _ x a b c=>cz n x&&(lF n a&&(lF n b&&lF n c))
 | .slStr x a b=>cz n x&&(lF n a&&lF n b)
 | .fieldA _ x=>cz n x
 | .field _ _ _ x=>cz n x
 | .idxA _ x i=>cz n x&&cz n i
 | .idxArr _ _ x i=>cz n x&&cz n i
 | .idx _ _ _ x i=>cz n x&&cz n i
 | .idxS x i=>cz n x&&cz n i
 | .extract _ x=>cz n x
 | .append _ _ s x=>cz n s&&cz n x
 | .len _ x=>cz n x
 | .call _ l=>jv n l
 | .callv f l=>cz n f&&jv n l
 | .pf _ l=>jv n l
 | .hf _ l=>jv n l
 | .bad=>true
 | .claim ..=>true
 | .slA _ _ x a b c=>cz n x&&(lF n a&&(lF n b&&lF n c))
def G6(n:Nat):Option (Nat×Bool)->Bool
 | none=>true
 | some (t,_)=>Nat.blt (gS t) n
def cL(n:Nat)(o:aj):Bool:=HA n o.op&&(G6 n o.guard&&cM n o.dst)
def GE(n:Nat)(T U:Tr af):Prop:=(∀t,t<n->ev T (.t t)=ev U (.t t))/\∀t,n<=t->ev U (.t t)=aJ
section
variable {n:Nat} {T U:Tr af} {tb:FuncId->Bool} {call:FuncId->List af->ae->Option (af×ae)}
theorem dF{a b:Nat}(h:Nat.blt a b=true):a<b:=NF h
theorem GE.x(h:GE n T U){x:bb}(hx:cz n x=true):ev T x=ev U x:=by
 cases x with
 | t i=>exact h.1 i (dF hx)
 | c v=>rfl
 | f i=>rfl
theorem GE.xs(h:GE n T U):∀{l:List bb},jv n l=true->eC T l=eC U l
 | [],_=>rfl
 | x::r,hx=>by
  simp only[jv,NC]at hx
  simp only[eC,h.x hx.1,h.xs hx.2]
theorem GE.xO(h:GE n T U){x:Option bb}(hx:lF n x=true):vK T x=vK U x:=by
 cases x with
 | none=>rfl
 | some x=>simp only[vK,h.x hx]
theorem GE.xP(h:GE n T U):∀{l:List (Nat×Nat×bb)},pk n l=true->wT T l=wT U l
 | [],_=>rfl
 | (a,b,x)::r,hx=>by
  simp only[pk,NC]at hx
  simp only[wT,h.x hx.1,h.xP hx.2]
theorem Fz(h:GE n T U){o:gn}(ho:HA n o=true)(H:ae):bF tb T H o=bF tb U H o:=by
 cases o <;> simp only[HA,NC]at ho <;> simp only[bF]
 case mv x=>rw[h.x ho]
 case pick c a b=>rw[h.x ho.1,h.x ho.2.1,h.x ho.2.2]
 case box x=>rw[h.x ho]
 case build z ps=>rw[h.xP ho]
 case buildSl m z ps=>rw[h.xP ho]
 case load a m x=>rw[h.x ho]
 case store m a x=>rw[h.x ho.1,h.x ho.2]
 case nilChk x=>rw[h.x ho]
 case bin op x y=>rw[h.x ho.1,h.x ho.2]
 case un op x=>rw[h.x ho]
 case conv k x=>rw[h.x ho]
 case convSB x=>rw[h.x ho]
 case convBS x=>rw[h.x ho]
 case mkFunc fn a b=>rw[h.xs ho.1,h.xs ho.2]
 case mkIface t x=>rw[h.x ho]
 case mkSlice b z l c=>rw[h.x ho.1,h.x ho.2]
 case sl m x a b c=>rw[h.x ho.1,h.xO ho.2.1,h.xO ho.2.2.1,h.xO ho.2.2.2]
 case slStr x a b=>rw[h.x ho.1,h.xO ho.2.1,h.xO ho.2.2]
 case fieldA o x=>rw[h.x ho]
 case field a m o x=>rw[h.x ho]
 case idxA m x i=>rw[h.x ho.1,h.x ho.2]
 case idxArr m k x i=>rw[h.x ho.1,h.x ho.2]
 case idx m k a x i=>rw[h.x ho.1,h.x ho.2]
 case idxS x i=>rw[h.x ho.1,h.x ho.2]
 case extract i x=>rw[h.x ho]
 case append m b s x=>rw[h.x ho.1,h.x ho.2]
 case len s x=>rw[h.x ho]
 case call f l=>rw[h.xs ho]
 case callv f l=>rw[h.x ho.1,h.xs ho.2]
 case pf f l=>rw[h.xs ho]
 case hf f l=>rw[h.xs ho]
 case slA m k x a b c=>rw[h.x ho.1,h.xO ho.2.1,h.xO ho.2.2.1,h.xO ho.2.2.2]
theorem x9(h:GE n T U){g:Option (Nat×Bool)}(hg:G6 n g=true):fi T g=fi U g:=by
 cases g with
 | none=>rfl
 | some p=>
  obtain⟨t,b⟩:=p
  simp only[fi,h.1 (gS t) (dF hg)]
theorem aQ(T:Tr af)(d t:Nat)(v:af):ev (T.set d v) (.t t)=if t=d then v else ev T (.t t):=by
 simp only[ev,Tr.get_set]
 split
 ·rename_i u h
  split at h
  ·rename_i e; rw[if_pos e]; simpa using h.symm
  ·rename_i e; rw[if_neg e,h]
 ·rename_i h
  split at h
  ·simp at h
  ·rename_i e; rw[if_neg e,h]
theorem lU(T:Tr af)(d:Option Nat)(t:Nat)(v:af):ev (aK T d v) (.t t)=if d=some t then v else ev T (.t t):=by
 cases d with
 | none=>simp[aK]
 | some d=>
  simp only[aK,aQ,sJ]
  by_cases e:t=d
  ·rw[if_pos e,if_pos e.symm]
  ·rw[if_neg e,if_neg fun q=>e q.symm]
theorem GE.put(h:GE n T U){d:Option Nat}(hd:cM n d=true)(v:af):GE n (aK T d v) (aK U d v):=by
 refine⟨fun t ht=>?_,fun t ht=>?_⟩
 ·rw[lU,lU,h.1 t ht]
 ·rw[lU,h.2 t ht,if_neg]
  rintro rfl
  have:=dF hd
  omega
theorem GE.ghost(h:GE n T U){d:Nat}(hd:n<=d)(v:af):GE n (T.set d v) U:=
 ⟨fun t ht=>by rw[aQ,if_neg om]; exact h.1 t ht,h.2⟩
def jQ(n:Nat)(T T':Tr af):Prop:=∀t,n<=t->ev T' (.t t)=ev T (.t t)
theorem jQ.put{d:Option Nat}(hd:cM n d=true)(v:af):jQ n T (aK T d v):=fun t ht=>by
 rw[lU,if_neg]
 rintro rfl
 have:=dF hd
 omega
theorem jQ.trans{T1 T2:Tr af}(h:jQ n T T1)(k:jQ n T1 T2):jQ n T T2:=fun t ht=>(k t ht).trans (h t ht)
theorem wu(h:GE n T U){o:aj}(ho:cL n o=true)(H:ae):bt tb call o T H=bt tb call o U H:=by
 simp only[cL,NC]at ho
 simp only[bt,x9 h ho.2.1,Fz h ho.1]
theorem bu(o:aj)(r:List aj)(T:Tr af)(H:ae):be tb call (o::r) T H=match bt tb call o T H with
  | some (v,H')=>be tb call r (aK T o.dst v) H'
  | none=>none:=by
 simp only[be,bt]
 cases fi T o.guard with
 | false=>rfl
 | true=>
  simp only[cond_true]
  cases bF tb T H o.op with
  | none=>rfl
  | some p=>obtain⟨nx,H'⟩:=p; cases nx <;> rfl
theorem ek:∀(l m:List aj) (T:Tr af) (H:ae),be tb call (l++m) T H=match be tb call l T H with
  | some (T1,H1)=>be tb call m T1 H1
  | none=>none
 | [],m,T,H=>rfl
 | o::l,m,T,H=>by
  rw[List.cons_append,bu,bu]
  cases bt tb call o T H with
  | none=>rfl
  | some p=>obtain⟨v,H1⟩:=p; exact ek l m _ _
theorem sF:∀(l:List aj) {T U:Tr af} {H:ae},GE n T U->l.all (cL n)=true->cf tb call l T H=cf tb call l U H
 | [],_,_,_,_,_=>rfl
 | o::r,T,U,H,h,hl=>by
  simp only[List.all_cons,NC]at hl
  simp only[cf]
  rw[wu h hl.1]
  cases bt tb call o U H with
  | none=>rfl
  | some p=>
   obtain⟨v,H1⟩:=p
   have hd:cM n o.dst=true:=by
    have:=hl.1
    simp only[cL,NC]at this
    exact this.2.2
   simp only
   rw[sF r (h.put hd v) hl.2]
theorem su(hs:List ae):∀(l:List aj) (ps:List (List Nat)) (ss:List (af×ae)) {T U:Tr af},GE n T U->l.all (cL n)=true->ed tb hs l ps ss T=ed tb hs l ps ss U
 | [],_,_,_,_,_,_=>rfl
 | o::r,[],_,_,_,_,_=>rfl
 | o::r,p::ps,[],_,_,_,_=>rfl
 | o::r,p::ps,(v,H1)::ss,T,U,h,hl=>by
  simp only[List.all_cons,NC]at hl
  have ho:=hl.1
  simp only[cL,NC]at ho
  simp only[ed,x9 h ho.2.1,Fz h ho.1,su hs r ps ss (h.put ho.2.2 v) hl.2]
theorem ti(m:Nat->Bool):∀(l:List aj) (i:Nat) (ss:List (af×ae)) {T U:Tr af},GE n T U->l.all (cL n)=true->GE n (bh m i l ss T) (bh m i l ss U)/\jQ n T (bh m i l ss T)
 | [],_,_,_,_,h,_=>⟨h,fun _ _=>rfl⟩
 | o::r,i,[],_,_,h,_=>⟨h,fun _ _=>rfl⟩
 | o::r,i,(v,H1)::ss,T,U,h,hl=>by
  simp only[List.all_cons,NC]at hl
  have ho:=hl.1
  simp only[cL,NC]at ho
  simp only[bh]
  cases m i with
  | true=>
   obtain⟨q1,q2⟩:=ti m r (i+1) ss (h.put ho.2.2 v) hl.2
   exact⟨q1,(jQ.put ho.2.2 v).trans q2⟩
  | false=>exact ti m r (i+1) ss h hl.2
theorem FE{l:List aj}{chk:List (List Nat)}{H H':ae}{e:oD}{T':Tr af}(h:GE n T U)(hl:l.all (cL n)=true)(hr:jO tb call l chk T H=some (e,T',H')) :
  e=.normal/\∃U',jO tb call l chk U H=some (.normal,U',H')/\GE n T' U'/\jQ n T T':=by
 unfold jO at hr ⊢
 rw[sF l h hl]at hr
 cases ht:cf tb call l U H with
 | none=>rw[ht]at hr; simp at hr
 | some ss=>
  rw[ht]at hr
  simp only at hr ⊢
  rw[su _ l _ ss h hl]at hr
  cases hc:ed tb (H::ss.map (·.2)) l chk ss U with
  | false=>rw[hc]at hr; simp at hr
  | true=>
   rw[hc]at hr
   simp only[cond_true,sJ,pJ]at hr ⊢
   obtain⟨rfl,rfl,rfl⟩:=hr
   obtain⟨q1,q2⟩:=ti (fun _=>true) l 0 ss h hl
   exact⟨rfl,_,⟨trivial,rfl,rfl⟩,q1,q2⟩
theorem pR:∀(l:List aj) (b:Nat),l.all (cL n)=true->(az b l).all (cL n)=true
 | [],_,_=>rfl
 | o::r,b,hl=>by
  simp only[List.all_cons,NC]at hl
  simp only[az]
  cases hz:dC o.op with
  | none=>simp only[List.all_cons,hl.1,pR r b hl.2,Bool.and_self]
  | some p=>
   obtain⟨z,s⟩:=p
   have ho:=hl.1
   simp only[cL,NC]at ho
   simp only[List.all_cons,pR r (b+1) hl.2,cL,HA,ho.2.1,ho.2.2,Bool.and_self]
end
end Go.Abs
namespace Go.Abs
def PB:Nat:=1000000
inductive sU where
 | ord (o:aj)
 | pnc (x:bb)
 | dfr (x:bb)
 | tc (f:Nat) (args:List bb) (d:Option Nat) (g:Option (Nat×Bool))
def eL(n:Nat):List sU->List aj->bC
 | [],acc=>.reg acc.reverse
 | .ord o::r,acc=>eL n r (o::acc)
 | .dfr x::r,acc=>eL n r (⟨some (n+1),.pf .dset [.t (n+1),x],none⟩::acc)
 | .pnc x::_,acc=>.seq (.reg (acc.reverse++[⟨some n,.pf .mkP [x],none⟩])) (.exit PB)
 | .tc f args d g::r,acc=>.seq (.reg (acc.reverse++[⟨some (n+3),.call (bI+f) args,g⟩,⟨some (n+2),.pf .isP [.t (n+3)],none⟩]))
   (.seq (.cond (.t (n+2)) (.seq (.reg [⟨some n,.mv (.t (n+3)),none⟩]) (.exit PB)) .skip) (eL n r [⟨d,.mv (.t (n+3)),none⟩]))
section
variable (P:Program) (n:Nat) (ps:List Nat)
def KW(ops:Array Oper)(o:Oper):Option sU:=match dj P n ops o with
 | some a=>bif cL n a then some (.ord a) else none
 | none=>none
def pB(o:Op):Option (Nat×List Operand):=match o with
 | .call c=>match c.callee with
  | .value (.func f)=>bif ps.any (Nat.beq f) then some (f,c.args.toList) else none
  | _=>none
 | _=>none
def Iy(ops:Array Oper)(o:Oper):Option sU:=match o.op with
 | .panic x=>match o.guard,bG x with
  | none,some y=>bif cz n y then some (.pnc y) else none
  | _,_=>none
 | .defer c=>match o.guard,o.dst,c.callee with
  | none,none,.value x=>match c.args.toList,bG x with
   | [],some y=>bif cz n y then some (.dfr y) else none
   | _,_=>none
  | _,_,_=>none
 | op=>match pB ps op with
  | some (f,l)=>match cO l,gc n ops o.guard with
   | some l,some g=>bif Nat.blt f bI&&(jv n l&&(G6 n g&&cM n o.dst)) then some (.tc f l o.dst g) else none
   | _,_=>none
  | none=>KW P n ops o
def pZ(ops:Array Oper):List Oper->Option (List sU)
 | []=>some []
 | o::r=>match Iy P n ps ops o,pZ ops r with
  | some a,some l=>some (a::l)
  | _,_=>none
def uX:Nat->List Oper->Option (Nat×Nat)
 | _,[]=>none
 | j,o::r=>match pB ps o.op,o.dst with
  | some _,some d=>some (j,d)
  | _,_=>uX (j+1) r
def KV(ops:Array Oper)(o:Oper):Option aj:=match pB ps o.op with
 | some (f,l)=>match cO l,gc n ops o.guard with
  | some l,some g=>bif Nat.blt f bI&&cM n o.dst then some ⟨o.dst,.call (bI+f) l,g⟩ else none
  | _,_=>none
 | none=>none
def KK(d:Nat)(a:aj):Option aj:=match a.guard,dC a.op with
 | none,none=>some ⟨a.dst,a.op,some (SK+d,false)⟩
 | _,_=>none
def JM(ops:Array Oper)(ms:List Nat)(c d:Nat)(j:Nat)(o:Oper):Option aj:=
 bif Nat.beq j c then KV n ps ops o else match dj P n ops o with
  | some a=>bif gU ms j c then KK d a else some a
  | none=>none
def vZ(ops:Array Oper)(ms:List Nat)(c d:Nat):Nat->List Oper->Option (List aj)
 | _,[]=>some []
 | j,o::r=>match JM P n ps ops ms c d j o,vZ ops ms c d (j+1) r with
  | some a,some l=>some (a::l)
  | _,_=>none
def va(c d:Nat):Nat->List aj->Bool
 | _,[]=>true
 | k,a::r=>(Nat.beq k c||!(a.dst==some d))&&va c d (k+1) r
def pX(ops:Array Oper)(rest:List Oper):Option (List aj×Option (Nat×Nat)):=match ck P n ops rest with
 | some l=>some (l,none)
 | none=>none
def Ay(ops:Array Oper)(rest:List Oper):Option (List aj×Option (Nat×Nat)):=match uX ps 0 rest with
 | some (c,d)=>match vZ P n ps ops (aZ [] (ops.toList.map aV)) c d 0 rest with
  | some l=>bif va c d 0 l then some (l,some (c,d)) else pX P n ops rest
  | none=>pX P n ops rest
 | none=>pX P n ops rest
def EW(ops:Array Oper):Option bC:=match Ay P n ps ops ops.toList with
 | some (l,d)=>bif eQ (ops.toList.map aV) (aZ [] (ops.toList.map aV))&&dt (az 0 l) (aZ [] (ops.toList.map aV))&&l.all (cL n) then
   (match d with
    | none => some (.draw l ((List.range l.length).map (dx (az 0 l) (aZ [] (ops.toList.map aV)))))
    | some (_, d) => some (.seq (.draw l ((List.range l.length).map (dx (az 0 l) (aZ [] (ops.toList.map aV)))))
     (.seq (.reg [⟨some (n+2),.pf .isP [.t d],none⟩]) (.cond (.t (n+2)) (.seq (.reg [⟨some (n+2),.pf .isU [.t (n+1)],none⟩]) (.cond (.t (n+2)) (.seq (.reg [⟨some n,.mv (.t d),none⟩]) (.exit PB)) eN)) .skip))))
  else some eN
 | none=>none
def dd:Code->Option bC
 | .skip=>some .skip
 | .region _ ops false=>match pZ P n ps ops ops.toList with
  | some its=>some (eL n its [])
  | none=>none
 | .region _ ops true=>EW P n ps ops
 | .seq a b=>match dd a,dd b with
  | some a,some b=>some (.seq a b)
  | _,_=>none
 | .cond c a b=>match bG c,dd a,dd b with
  | some c,some a,some b=>bif cz n c then some (.cond c a b) else none
  | _,_,_=>none
 | .block id c=>match dd c with
  | some c=>bif Nat.beq id PB then none else some (.block id c)
  | none=>none
 | .loop c=>match dd c with
  | some c=>some (.loop c)
  | none=>none
 | .exit id=>bif Nat.beq id PB then none else some (.exit id)
 | .ret=>some (.exit PB)
 | _=>some eN
end
section
variable {tb:FuncId->Bool} {call:FuncId->List af->ae->Option (af×ae)} {k:Nat}
theorem eS(n:Nat):∀(its:List sU) (acc:List aj) (T:Tr af) (H:ae),aI tb call k (eL n its acc) T H=match be tb call acc.reverse T H with
  | some (T1,H1)=>aI tb call k (eL n its []) T1 H1
  | none=>none
 | [],acc,T,H=>by
  simp only[eL,aI,List.reverse_nil,be] <;> (cases be tb call acc.reverse T H <;> rfl)
 | .ord o::r,acc,T,H=>by
  simp only[eL]
  rw[eS n r (o::acc),List.reverse_cons,ek]
  cases be tb call acc.reverse T H with
  | none=>rfl
  | some p=>
   obtain⟨T1,H1⟩:=p
   simp only
   rw[eS n r [o] T1 H1]
   rfl
 | .dfr x::r,acc,T,H=>by
  simp only[eL]
  rw[eS n r (_::acc),List.reverse_cons,ek]
  cases be tb call acc.reverse T H with
  | none=>rfl
  | some p=>
   obtain⟨T1,H1⟩:=p
   simp only
   rw[eS n r [_] T1 H1]
   rfl
 | .pnc x::r,acc,T,H=>by
  simp only[eL,aI,ek,List.reverse_nil,List.nil_append]
  cases be tb call acc.reverse T H with
  | none=>rfl
  | some p=>rfl
 | .tc f l d g::r,acc,T,H=>by
  simp only[eL,aI,ek,List.reverse_nil,List.nil_append]
  cases be tb call acc.reverse T H with
  | none=>rfl
  | some p=>rfl
end
section
variable {P:Program} {Prot:Gh} {w0:World} {ρ:Pl} {H H':ae} {w:World}
def LM(ρ:Pl)(x:af)(ds:List Deferred):Prop:=(x=aJ/\ds=[]) ∨
 ∃f a b d cap,x=.func (.func f) a b/\ds=[d]/\d.target=.fn (.func f) cap/\ah ρ b cap.toList/\ah ρ a d.args.toList
theorem LM.mono{ρ ρ':Pl}(h:ρ.le ρ'){x:af}{ds:List Deferred}(d:LM ρ x ds):LM ρ' x ds:=by
 rcases d with d | ⟨f,a,b,d,cap,h1,h2,h3,h4,h5⟩
 ·exact .inl d
 ·exact .inr ⟨f,a,b,d,cap,h1,h2,h3,ah.mono h _ _ h4,ah.mono h _ _ h5⟩
structure GT(ρ:Pl)(n:Nat)(T:Tr af)(a:Act):Prop where
 t:∃U,GE n T U/\aH ρ n U a.tmps
 d:LM ρ (ev T (.t (n+1))) a.defers
theorem GT.mono{ρ ρ':Pl}(h:ρ.le ρ'){n:Nat}{T:Tr af}{a:Act}(g:GT ρ n T a):GT ρ' n T a:=
 ⟨let ⟨U,h1,h2⟩:=g.t; ⟨U,h1,h2.mono h⟩,g.d.mono h⟩
theorem GT.ghost{n:Nat}{T:Tr af}{a:Act}(g:GT ρ n T a){d:Nat}(hd:n<=d)(hne:d≠n+1)(v:af):GT ρ n (T.set d v) a:=
 ⟨let ⟨U,h1,h2⟩:=g.t; ⟨U,h1.ghost hd v,h2⟩,by rw[aQ,if_neg (fun e=>hne e.symm)]; exact g.d⟩
def oC(ρ:Pl)(n:Nat)(T:Tr af)(a:Act):Prop:=GT ρ n T a/\ev T (.t n)=aJ
def J7(ρ:Pl)(n:Nat)(T:Tr af)(a:Act)(u:Value):Prop:=∃x,ev T (.t n)=ju x/\ag ρ x u/\((a.defers=[]/\ev T (.t (n+1))=aJ)∨GT ρ n T a)
def Cv(Prot:Gh)(w0:World)(ρ:Pl)(n:Nat)(e:oD)(T:Tr af)(H:ae):Exit->Act->World->Prop:=fun e' a w=>
 ∃ρ',ρ.le ρ'/\Rel Prot w0 ρ' H w/\match e with
  | .normal=>e'=.normal/\oC ρ' n T a
  | .exit id=>(id≠PB/\e'=.exit id/\oC ρ' n T a)∨(id=PB/\((e'=.ret/\oC ρ' n T a)∨∃u,e'=.panic [{ v:=u,recovered:=false }]/\J7 ρ' n T a u))
  | .ret=>False
theorem Cv.weaken{ρ ρ':Pl}{n:Nat}{e:oD}{T:Tr af}{H:ae}(h:ρ.le ρ'){e':Exit}{a:Act}{w:World}(q:Cv Prot w0 ρ' n e T H e' a w):Cv Prot w0 ρ n e T H e' a w:=by
 obtain⟨ρ2,h2,h3⟩:=q
 exact⟨ρ2,Pl.le_trans h h2,h3⟩
theorem CY{x:af}(h:ag ρ x undef):x=aJ:=by
 unfold undef at h
 cases x with
 | tuple l=>
  simp only[ag]at h
  obtain⟨vs,e,hv⟩:=h
  simp only[Value.tuple.injEq]at e
  subst e
  cases l with
  | nil=>rfl
  | cons y l=>simp[ah]at hv
 | ptr a=>cases a <;> simp[ag]at h
 | slice a m r => cases a <;> simp only [ag] at h
                  · simp at h
                  · obtain ⟨_, _, _, _, _, h3, _⟩ := bX (by simpa only [ag] using h); simp at h3
 | map a=>cases a <;> simp[ag]at h
 | val v=>simp only[ag]at h; rw[<- h.1]at h; simp[Kf,Value.oneCell']at h
 | _=>simp[ag]at h
theorem Ej{x:af}{v:Value}(h:ag ρ x v):ez x=false:=by
 cases hb:ez x with
 | false=>rfl
 | true=>obtain⟨y,e⟩:=kI hb; exact (xD h e).elim
end
end Go.Abs
namespace Go.Abs
section
variable {P:Program} {Prot:Gh} {w0:World} {ρ:Pl} {H H':ae} {w:World}
theorem Dt{f:Nat}{args:Array Operand}{ats:Array TypeId}{o:Oper}(hoe:o.op=.call ⟨.value (.func f),args,ats⟩)(hb:bc P f=true)(a:Act):(execOp a.eval o).run P w=.ok (.enter f (args.map a.eval)) w:=by
 have:=ei (P:=P) (w:=w) hb (args.map a.eval)
 obtain⟨dst,op,type,pos,after,guard⟩:=o
 simp only at hoe
 subst hoe
 simp[execOp,resolve,Act.eval,Deferred.ofValue,invoke,this]
theorem rC{ps:List Nat}{o:Op}{f:Nat}{l:List Operand}(h:pB ps o=some (f,l)):∃args ats,o=.call ⟨.value (.func f),args,ats⟩/\l=args.toList:=by
 unfold pB at h
 split at h
 ·rename_i c
  split at h
  ·rename_i g hg
   obtain⟨cal,args,ats⟩:=c
   simp only at hg
   subst hg
   cases hp:ps.any (Nat.beq g) with
   | false=>rw[hp]at h; simp at h
   | true=>
    rw[hp]at h
    simp only[cond_true,sJ,pJ]at h
    obtain⟨rfl,rfl⟩:=h
    exact⟨args,ats,rfl,rfl⟩
  ·simp at h
 ·simp at h
theorem xy(a:Act)(d:Option Nat)(v:Value):(a.put d v).defers=a.defers:=by cases d <;> rfl
theorem GT.put{n:Nat}{T:Tr af}{a:Act}(g:GT ρ n T a){d:Option Nat}(hd:cM n d=true){x:af}{v:Value}(hv:ag ρ x v):GT ρ n (aK T d x) (a.put d v):=by
 obtain⟨U,h1,h2⟩:=g.t
 refine⟨⟨aK U d x,h1.put hd x,bn h2 hd hv⟩,?_⟩
 rw[xy,jQ.put hd x (n+1) om]
 exact g.d
theorem oC.put{n:Nat}{T:Tr af}{a:Act}(g:oC ρ n T a){d:Option Nat}(hd:cM n d=true){x:af}{v:Value}(hv:ag ρ x v):oC ρ n (aK T d x) (a.put d v):=
 ⟨g.1.put hd hv,by rw[jQ.put hd x n rL]; exact g.2⟩
theorem oC.mono{ρ ρ':Pl}(h:ρ.le ρ'){n:Nat}{T:Tr af}{a:Act}(g:oC ρ n T a):oC ρ' n T a:=⟨g.1.mono h,g.2⟩
theorem oC.ghost{n:Nat}{T:Tr af}{a:Act}(g:oC ρ n T a){d:Nat}(hd:n+2<=d)(v:af):oC ρ n (T.set d v) a:=
 ⟨g.1.ghost om om v,by rw[aQ,if_neg om]; exact g.2⟩
theorem bJ{tb:FuncId->Bool}{call:FuncId->List af->ae->Option (af×ae)}(d:Option Nat)(op:gn)(T:Tr af)(H:ae):bt tb call ⟨d,op,none⟩ T H=match bF tb T H op with
  | some (.val v,H')=>some (v,H')
  | some (.enter f args,H')=>call f args H'
  | none=>none:=rfl
theorem mW{tb:FuncId->Bool}{call:FuncId->List af->ae->Option (af×ae)}{o:aj}{T T':Tr af}{H H':ae}(h:be tb call [o] T H=some (T',H')):∃v,bt tb call o T H=some (v,H')/\T'=aK T o.dst v:=by
 rw[bu]at h
 cases hs:bt tb call o T H with
 | none=>rw[hs]at h; simp at h
 | some p=>
  obtain⟨v,H1⟩:=p
  rw[hs]at h
  simp only[be,sJ,pJ]at h
  obtain⟨rfl,rfl⟩:=h
  exact⟨v,rfl,rfl⟩
theorem GB{tb:FuncId->Bool}(htb:∀f,Nat.blt f bI=true->tb f=true->bc P f=true){call:FuncId->List af->ae->Option (af×ae)}(hcall:gk P call){n:Nat}{ops:Array Oper}{o:Oper}{ao:aj}
  (hco:dj P n ops o=some ao) (haT:cL n ao=true) {ρ0:Pl} {T:Tr af} {a:Act} (hle:ρ0.le ρ) (R:Rel Prot w0 ρ H w) (hP:oC ρ n T a) {v:af} {H1:ae} (hs:bt tb call ao T H=some (v,H1)) {rest:List Nat} {Q:Exit->Act->World->Prop} {i:Nat} (ho:ops[i]?=some o)
  (hnext:∀(ρ1:Pl) (a':Act) (w':World),ρ0.le ρ1->Rel Prot w0 ρ1 H1 w'->oC ρ1 n (aK T ao.dst v) a'->wpOps P ops Q rest a' w'):wpOps P ops Q (i::rest) a w:=by
 obtain⟨U,hG,ht⟩:=hP.1.t
 rw[wu hG haT]at hs
 unfold dj at hco
 split at hco
 ·rename_i ax g hop hg
  cases hdst:cM n o.dst with
  | false=>rw[hdst]at hco; simp at hco
  | true=>
   rw[hdst]at hco
   simp only[cond_true,sJ]at hco
   subst hco
   simp only[wpOps,ho]
   simp only[bt]at hs
   rw[eA ht hg]
   cases hgo:fi U g with
   | false=>
    rw[hgo]at hs
    simp only[cond_false,sJ,pJ]at hs
    obtain⟨rfl,rfl⟩:=hs
    simp only[NK,if_false]
    exact hnext ρ _ w hle R (hP.put hdst dp)
   | true=>
    rw[hgo]at hs
    simp only[cond_true]at hs
    simp only[if_true]
    left
    split at hs
    ·rename_i v' H2 hv
     simp only[sJ,pJ]at hs
     obtain⟨rfl,rfl⟩:=hs
     obtain⟨ρ1,w1,nx,q1,q2,q3,q4⟩:=fU htb R ht o hop hv
     simp only[Oper.wp,q2]
     cases nx <;> simp only[gM]at q4
     case value u=>exact hnext ρ1 _ w1 (Pl.le_trans hle q1) q3 ((hP.mono q1).put hdst q4)
     case skip=>exact hnext ρ1 _ w1 (Pl.le_trans hle q1) q3 ((hP.mono q1).put hdst q4)
    ·rename_i f args H2 hv
     obtain⟨ρ1,w1,nx,q1,q2,q3,q4⟩:=fU htb R ht o hop hv
     simp only[Oper.wp,q2]
     cases nx <;> simp only[gM]at q4
     case enter g vs=>
      obtain⟨rfl,hbig,q5⟩:=q4
      simp only[Oper.upon]
      refine (hcall _ _ _ _ _ hbig hs Prot w0 ρ1 w1 vs q3 q5).mono fun e w' hr=>?_
      obtain⟨ρ2,u,r1,rfl,r3,r4⟩:=hr
      exact hnext ρ2 _ w' (Pl.le_trans hle (Pl.le_trans q1 r1)) r3 ((hP.mono (Pl.le_trans q1 r1)).put hdst r4)
    ·simp at hs
 ·simp at hco
theorem BS{tb:FuncId->Bool}(htb:∀f,Nat.blt f bI=true->tb f=true->bc P f=true)(htbP:∀f,Nat.blt f bI=true->tb (bI+f)=true->bc P f=true){call:FuncId->List af->ae->Option (af×ae)}(hcall:gk P call)(hcallP:wQ P call)
  {n k:Nat} {ps:List Nat} {ops:Array Oper}:∀(rest:List Oper) (i:Nat) (its:List sU),(∀j,rest[j]?=ops[i+j]?)->pZ P n ps ops rest=some its->∀(ρ0 ρ:Pl) (T T':Tr af) (H H':ae) (e:oD) (a:Act) (w:World),ρ0.le ρ ->
   Rel Prot w0 ρ H w->oC ρ n T a->aI tb call k (eL n its []) T H=some (e,T',H')->wpOps P ops (Cv Prot w0 ρ0 n e T' H') (List.range' i rest.length) a w:=by
 intro rest
 induction rest with
 | nil=>
  intro i its _ hc ρ0 ρ T T' H H' e a w hle R hP h
  simp only[pZ,sJ]at hc
  subst hc
  simp only[eL,aI,List.reverse_nil,be,sJ,pJ]at h
  obtain⟨rfl,rfl,rfl⟩:=h
  exact⟨ρ,hle,R,rfl,hP⟩
 | cons o rest ih=>
  intro i its hi hc ρ0 ρ T T' H H' e a w hle R hP h
  simp only[pZ]at hc
  split at hc
  ·rename_i it l' ha hl
   simp only[sJ]at hc
   subst hc
   have ho:ops[i]?=some o:=by have:=hi 0; simpa using this.symm
   have hnx:∀j,rest[j]?=ops[i+1+j]?:=fun j=>by have:=hi (j+1); simp only[NJ]at this; rw[this]; congr 1; omega
   rw[ND,List.range'_succ]
   unfold Iy at ha
   split at ha
   ·-- a panic
    rename_i x hox
    split at ha
    ·rename_i y hg hy
     cases hT:cz n y with
     | false=>rw[hT]at ha; simp at ha
     | true=>
      rw[hT]at ha
      simp only[cond_true,sJ]at ha
      subst ha
      simp only[eL,aI,List.reverse_nil,List.nil_append]at h
      split at h
      ·rename_i T1 H1 h1
       split at h1
       ·rename_i T2 H2 h2
        simp only[sJ,pJ]at h1
        obtain⟨_,rfl,rfl⟩:=h1
        simp only[sJ,pJ]at h
        obtain⟨rfl,rfl,rfl⟩:=h
        obtain⟨v,hs,rfl⟩:=mW h2
        obtain⟨U,hG,ht⟩:=hP.1.t
        rw[bJ]at hs
        simp only[bF,eC,jj,vv]at hs
        have hx:=aA ht hy
        rw[<- hG.x hT]at hx
        generalize ev T y=q at hs hx
        unfold Lo at hs
        split at hs
        ·rename_i v' H3 hv
         split at hv
         ·rename_i v2 hv2
          split at hv2
          ·rename_i t z heq
           simp only[List.cons.injEq,and_true]at heq
           subst heq
           simp only[sJ]at hv2
           subst hv2
           simp only[sJ,pJ,Nx.val.injEq]at hv hs
           obtain⟨rfl,rfl⟩:=hv
           obtain⟨rfl,rfl⟩:=hs
           simp only[wpOps,ho]
           have hw:Region.wanted o (yielded ops a.tmps)=true:=by simp[Region.wanted,hg]
           rw[if_pos hw]
           left
           have hx':=hx
           simp only[ag]at hx'
           obtain⟨yv,e1,e2⟩:=hx'
           have hrun:(execOp a.eval o).run P w=.halt (.panic (.iface t yv)) w:=by
            obtain⟨dst,op,type,pos,after,guard⟩:=o
            simp only at hox
            subst hox
            show (do pure (Next.value (<- Instr.panic (a.eval x))):Sem Next).run P w=_
            rw[e1]
            rfl
           simp only[Oper.wp,hrun,Oper.upon]
           refine⟨ρ,hle,R,.inr ⟨rfl,.inr ⟨_,rfl,.iface t z,?_,?_,.inr ?_⟩⟩⟩
           ·simp only[aK,aQ,if_true]
           ·rw[<- e1]; exact hx
           ·exact hP.1.ghost rL om _
          ·simp at hv2
         ·simp at hv
        ·rename_i f args H3 hv
         split at hv <;> simp at hv
        ·simp at hs
       ·simp at h1
      ·rename_i e1 T1 H1 hne h1
       split at h1
       ·simp only[sJ,pJ]at h1
        exact (hne h1.1.symm).elim
       ·simp at h1
      ·simp at h
    ·simp at ha
   ·-- a call laid jM
    rename_i c hox
    split at ha
    ·rename_i x hg hd hcal
     split at ha
     ·rename_i y hargs hy
      cases hT:cz n y with
      | false=>rw[hT]at ha; simp at ha
      | true=>
       rw[hT]at ha
       simp only[cond_true,sJ]at ha
       subst ha
       simp only[eL]at h
       rw[eS]at h
       split at h
       ·rename_i T1 H1 h1
        simp only[List.reverse_cons,List.reverse_nil,List.nil_append]at h1
        obtain⟨v,hs,rfl⟩:=mW h1
        obtain⟨U,hG,ht⟩:=hP.1.t
        rw[bJ]at hs
        simp only[bF,eC,jj,vv]at hs
        have hx:=aA ht hy
        rw[<- hG.x hT]at hx
        have hdf:=hP.1.d
        generalize ev T (.t (n+1))=z at hs hdf
        generalize ev T y=q at hs hx
        unfold II at hs
        split at hs
        ·rename_i v' H3 hv
         split at hv
         ·rename_i v2 hv2
          split at hv2
          ·rename_i f fa fb heq
           simp only[List.cons.injEq,and_true]at heq
           obtain⟨rfl,rfl⟩:=heq
           simp only[sJ]at hv2
           subst hv2
           simp only[sJ,pJ,Nx.val.injEq]at hv hs
           obtain⟨rfl,rfl⟩:=hv
           obtain⟨rfl,rfl⟩:=hs
           have hds:a.defers=[]:=by
            rcases hdf with⟨_,h9⟩ | ⟨f',a',b',d',cap',h9,_⟩
            ·exact h9
            ·simp at h9
           simp only[wpOps,ho]
           have hw:Region.wanted o (yielded ops a.tmps)=true:=by simp[Region.wanted,hg]
           rw[if_pos hw]
           left
           simp only[ag]at hx
           obtain⟨fv,cv,hfv,hv1,hv2⟩:=hx
           have hrun:(execOp a.eval o).run P w=.ok (.defer { target:=.fn (.func f) cv,args:=fv }) w:=by
            obtain⟨dst,op,type,pos,after,guard⟩:=o
            obtain⟨cal,args,ats⟩:=c
            simp only at hox hcal hargs hd
            subst hox hcal hd
            have:args=#[]:=by simpa using hargs
            subst this
            simp[execOp,resolve,hfv,Deferred.ofValue]
           simp only[Oper.wp,hrun,Oper.upon,hd]
           refine ih (i+1) l' hnx hl ρ0 ρ _ _ _ _ _ _ _ hle R ⟨⟨⟨U,hG.ghost om _,ht⟩,?_⟩,?_⟩ h
           ·simp only[aK,aQ,if_true,Act.put,hds]
            exact .inr ⟨f,fa,fb,_,cv,rfl,rfl,rfl,hv2,hv1⟩
           ·simp only[aK,aQ]
            rw[if_neg om]
            exact hP.2
          ·simp at hv2
         ·simp at hv
        ·rename_i f args H3 hv
         split at hv <;> simp at hv
        ·simp at hs
       ·simp at h
     ·simp at ha
    ·simp at ha
   ·-- a call that may panic,or whatever is ordinary
    split at ha
    ·rename_i f lo hraw
     obtain⟨args,ats,hoe,rfl⟩:=rC hraw
     split at ha
     ·rename_i lx g hlx hgc
      cases hcnd:Nat.blt f bI&&(jv n lx&&(G6 n g&&cM n o.dst)) with
      | false=>rw[hcnd]at ha; simp at ha
      | true=>
       rw[hcnd]at ha
       simp only[cond_true,sJ]at ha
       subst ha
       simp only[NC]at hcnd
       obtain⟨hbig,hlT,hgT,hdst⟩:=hcnd
       obtain⟨U,hG,ht⟩:=hP.1.t
       have key:∃(v:af) (H1:ae),bt tb call ⟨some (n+3),.call (bI+f) lx,g⟩ T H=some (v,H1) /\
         ((ez v = true /\ e = .exit PB /\ T' = (((T.set (n + 3) v).set (n + 2) (.bool true)).set n v) /\ H' = H1) ∨
          (ez v = false /\ aI tb call k (eL n l' []) (aK ((T.set (n + 3) v).set (n + 2) (.bool false)) o.dst v) H1 = some (e, T', H'))) := by
        simp only[eL,aI,List.reverse_nil,List.nil_append]at h
        rw[bu]at h
        cases hs:bt tb call ⟨some (n+3),.call (bI+f) lx,g⟩ T H with
        | none=>rw[hs]at h; simp at h
        | some p=>
         obtain⟨v,H1⟩:=p
         rw[hs]at h
         refine⟨v,H1,rfl,?_⟩
         simp only[aK]at h
         rw[bu,bJ]at h
         have e3:ev (T.set (n+3) v) (.t (n+3))=v:=by rw[aQ,if_pos rfl]
         simp only[bF,eC,jj,vv,JZ,e3,be,aK]at h
         have e2:ev ((T.set (n+3) v).set (n+2) (.bool (ez v))) (.t (n+2))=.bool (ez v):=by rw[aQ,if_pos rfl]
         have e33:ev ((T.set (n+3) v).set (n+2) (.bool (ez v))) (.t (n+3))=v:=by rw[aQ,if_neg om,aQ,if_pos rfl]
         rw[e2]at h
         cases hp:ez v with
         | true=>
          rw[hp]at h e33
          simp only[fi,cond_true,e33,sJ,pJ]at h
          obtain⟨rfl,rfl,rfl⟩:=h
          exact .inl ⟨rfl,rfl,rfl,rfl⟩
         | false=>
          rw[hp]at h e33
          simp only at h
          rw[eS]at h
          simp only[List.reverse_cons,List.reverse_nil,List.nil_append]at h
          rw[bu,bJ]at h
          simp only[bF,e33,be]at h
          exact .inr ⟨rfl,h⟩
       obtain⟨v,H1,hs,hk⟩:=key
       simp only[wpOps,ho]
       rw[eA ht hgc]
       simp only[bt,x9 hG hgT]at hs
       have hgg:∀(ρ':Pl),ρ.le ρ'->∀b,oC ρ' n ((T.set (n+3) v).set (n+2) b) a:=fun ρ' hl b=>((hP.mono hl).ghost om v).ghost rL b
       cases hgo:fi U g with
       | false=>
        rw[hgo]at hs
        simp only[cond_false,sJ,pJ]at hs
        obtain⟨rfl,rfl⟩:=hs
        simp only[NK,if_false]
        rcases hk with⟨hp,_⟩ | ⟨_,hk⟩
        ·simp[ez,aJ]at hp
        ·exact ih (i+1) l' hnx hl ρ0 ρ _ _ _ _ _ _ w hle R ((hgg ρ (Pl.le_refl _) _).put hdst dp) hk
       | true=>
        rw[hgo]at hs
        simp only[cond_true]at hs
        simp only[if_true]
        left
        simp only[bF]at hs
        cases hb:tb (bI+f) with
        | false=>rw[hb]at hs; simp at hs
        | true=>
         rw[hb]at hs
         simp only[cond_true]at hs
         rw[hG.xs hlT]at hs
         simp only[Oper.wp,Dt hoe (htbP f hbig hb) a,Oper.upon]
         refine (hcallP f _ _ _ _ hbig hs Prot w0 ρ w (args.map a.eval) R (by simpa using eV ht hlx)).mono fun e' w' hr=>?_
         obtain⟨ρ2,r1,r3,⟨u,rfl,r4⟩ | ⟨x,u,rfl,rfl,r4⟩⟩:=hr
         ·rcases hk with⟨hp,_⟩ | ⟨_,hk⟩
          ·rw[Ej r4]at hp; simp at hp
          ·exact ih (i+1) l' hnx hl ρ0 ρ2 _ _ _ _ _ _ w' (Pl.le_trans hle r1) r3 ((hgg ρ2 r1 _).put hdst r4) hk
         ·rcases hk with⟨_,rfl,rfl,rfl⟩ | ⟨hp,_⟩
          ·refine⟨ρ2,Pl.le_trans hle r1,r3,.inr ⟨rfl,.inr ⟨u,rfl,x,by rw[aQ,if_pos rfl],r4,.inr ?_⟩⟩⟩
           exact (hgg ρ2 r1 _).1.ghost rL om _
          ·simp[ez,ju]at hp
     ·simp at ha
    ·unfold KW at ha
     split at ha
     ·rename_i ao hco
      cases haT:cL n ao with
      | false=>rw[haT]at ha; simp at ha
      | true=>
       rw[haT]at ha
       simp only[cond_true,sJ]at ha
       subst ha
       simp only[eL]at h
       rw[eS]at h
       split at h
       ·rename_i T1 H1 h1
        simp only[List.reverse_cons,List.reverse_nil,List.nil_append]at h1
        obtain⟨v,hs,rfl⟩:=mW h1
        exact GB htb hcall hco haT hle R hP hs ho fun ρ1 a' w' q1 q2 q3=>ih (i+1) l' hnx hl ρ0 ρ1 _ _ _ _ _ a' w' q1 q2 q3 h
       ·simp at h
     ·simp at ha
  ·simp at hc
end
end Go.Abs
namespace Go.Abs
section
variable {P:Program} {n:Nat} {ps:List Nat} {ops:Array Oper}
def Ny(P:Program)(n:Nat)(ops:Array Oper)(c d:Nat)(j:Nat)(o:Oper)(a:aj):Prop:=
 (j=c/\Bd P n ops o a)∨(j≠c/\gU (aZ [] (ops.toList.map aV)) j c=false/\dj P n ops o=some a)∨(j≠c/\gU (aZ [] (ops.toList.map aV)) j c=true/\∃a',dj P n ops o=some a'/\a'.guard=none/\dC a'.op=none/\a=⟨a'.dst,a'.op,some (SK+d,false)⟩)
theorem Cd{c d j:Nat}{o:Oper}{a:aj}(h:JM P n ps ops (aZ [] (ops.toList.map aV)) c d j o=some a):Ny P n ops c d j o a/\a.dst=o.dst:=by
 have hdst:∀{a},dj P n ops o=some a->a.dst=o.dst:=by
  intro a h
  unfold dj at h
  split at h
  ·cases hd:cM n o.dst with
   | false=>rw[hd]at h; simp at h
   | true=>rw[hd]at h; simp only[cond_true,sJ]at h; subst h; rfl
  ·simp at h
 unfold JM at h
 cases hb:Nat.beq j c with
 | true=>
  rw[hb]at h
  simp only[cond_true,KV]at h
  split at h
  ·rename_i f lo hraw
   obtain⟨args,ats,hoe,rfl⟩:=rC hraw
   split at h
   ·rename_i lx g hlx hg
    cases hc:Nat.blt f bI&&cM n o.dst with
    | false=>rw[hc]at h; simp at h
    | true=>
     rw[hc]at h
     simp only[cond_true,sJ]at h
     subst h
     simp only[NC]at hc
     exact⟨.inl ⟨NG hb,f,args,ats,lx,g,hoe,hlx,hg,hc.2,hc.1,rfl⟩,rfl⟩
   ·simp at h
  ·simp at h
 | false=>
  have hne:j≠c:=fun e=>by subst e; rw[Nat.beq_refl]at hb; simp at hb
  rw[hb]at h
  simp only[cond_false]at h
  split at h
  ·rename_i a' ha'
   cases hbt:gU (aZ [] (ops.toList.map aV)) j c with
   | false=>rw[hbt]at h; simp only[cond_false,sJ]at h; subst h; exact⟨.inr (.inl ⟨hne,hbt,ha'⟩),hdst ha'⟩
   | true=>
    rw[hbt]at h
    simp only[cond_true,KK]at h
    split at h
    ·rename_i hg hnw
     simp only[sJ]at h
     subst h
     exact⟨.inr (.inr ⟨hne,hbt,a',ha',hg,hnw,rfl⟩),(hdst ha':a'.dst=o.dst)⟩
    ·simp at h
  ·simp at h
theorem yw{c d:Nat}:∀{rest:List Oper} {l:List aj} {j:Nat},vZ P n ps ops (aZ [] (ops.toList.map aV)) c d j rest=some l->l.length=rest.length/\∀k o,rest[k]?=some o->∃a,l[k]?=some a/\Ny P n ops c d (j+k) o a/\a.dst=o.dst:=by
 intro rest
 induction rest with
 | nil=>intro l j h; simp only[vZ,sJ]at h; subst h; exact⟨rfl,fun k o h=>by simp at h⟩
 | cons o r ih=>
  intro l j h
  simp only[vZ]at h
  split at h
  ·rename_i a l' ha hl
   simp only[sJ]at h
   subst h
   obtain⟨q1,q2⟩:=ih hl
   refine⟨by simp[q1],fun k o' hk=>?_⟩
   cases k with
   | zero=>
    simp only[NI,sJ]at hk
    subst hk
    exact⟨a,rfl,by rw[Nat.add_zero]; exact Cd ha⟩
   | succ k=>
    simp only[NJ]at hk ⊢
    obtain⟨a',z1,z2⟩:=q2 k o' hk
    exact⟨a',z1,by rw[show j+(k+1)=j+1+k by omega]; exact z2⟩
  ·simp at h
theorem xE{c d:Nat}:∀{l:List aj} {k:Nat},va c d k l=true->∀i b,l[i]?=some b->b.dst=some d->k+i=c:=by
 intro l
 induction l with
 | nil=>intro k _ i b h; simp at h
 | cons a r ih=>
  intro k h i b hb hd
  simp only[va,NC,Bool.or_eq_true,Bool.not_eq_true',beq_eq_false_iff_ne,ne_eq]at h
  cases i with
  | zero=>
   simp only[NI,sJ]at hb
   subst hb
   rcases h.1 with h1 | h1
   ·exact NG h1
   ·exact absurd hd h1
  | succ i=>
   simp only[NJ]at hb
   have:=ih h.2 i b hb hd
   omega
theorem xx{c d:Nat}:∀{rest:List Oper} {j:Nat},uX ps j rest=some (c,d)->∃k o,c=j+k/\rest[k]?=some o/\o.dst=some d:=by
 intro rest
 induction rest with
 | nil=>intro j h; simp[uX]at h
 | cons o r ih=>
  intro j h
  simp only[uX]at h
  split at h
  ·rename_i d' _ hd
   simp only[sJ,pJ]at h
   obtain⟨rfl,rfl⟩:=h
   exact⟨0,o,rfl,rfl,hd⟩
  ·obtain⟨k,o',h1,h2,h3⟩:=ih h
   exact⟨k+1,o',om,by simpa using h2,h3⟩
theorem gb{rest:List Oper}{l:List aj}{st:Option (Nat×Nat)}(h:Ay P n ps ops rest=some (l,st)):(st=none/\ck P n ops rest=some l) ∨
  ∃c d ac,st=some (c,d)/\l.length=rest.length/\(∀k o,rest[k]?=some o->∃a,l[k]?=some a/\Ny P n ops c d k o a)/\l[c]?=some ac/\ac.dst=some d/\(∀i b,l[i]?=some b->b.dst=some d->i=c):=by
 have hp:pX P n ops rest=some (l,st)->st=none/\ck P n ops rest=some l:=by
  intro h
  unfold pX at h
  split at h
  ·rename_i l' hl
   simp only[sJ,pJ]at h
   obtain⟨rfl,rfl⟩:=h
   exact⟨rfl,hl⟩
  ·simp at h
 unfold Ay at h
 split at h
 ·rename_i c d hr
  split at h
  ·rename_i l' hl
   cases hw:va c d 0 l' with
   | false=>rw[hw]at h; exact .inl (hp h)
   | true=>
    rw[hw]at h
    simp only[cond_true,sJ,pJ]at h
    obtain⟨rfl,rfl⟩:=h
    obtain⟨q1,q2⟩:=yw hl
    obtain⟨k,o,hc,ho,hd⟩:=xx hr
    rw[Nat.zero_add]at hc
    subst hc
    obtain⟨ac,z1,_,z2⟩:=q2 c o ho
    exact .inr ⟨c,d,ac,rfl,q1,fun k o hk=>by have:=q2 k o hk; rw[Nat.zero_add]at this; obtain⟨a,y1,y2,_⟩:=this; exact⟨a,y1,y2⟩,z1,by rw[z2]; exact hd,fun i b hb hbd=>by have:=xE hw i b hb hbd; omega⟩
  ·exact .inl (hp h)
 ·exact .inl (hp h)
theorem iT:∀(m:List aj) (b:Nat),(az b m).length=m.length
 | [],_=>rfl
 | o::r,b=>by simp only[az]; cases dC o.op <;> simp[iT r]
theorem ec:∀(l:List aj) (b k:Nat) (a:aj),l[k]?=some a->∃c,b<=c/\(az b l)[k]?=(az c [a])[0]?
 | [],_,_,_,h=>by simp at h
 | o::r,b,0,a,h=>by
  simp only[NI,sJ]at h
  subst h
  refine⟨b,Nat.le_refl _,?_⟩
  simp only[az]
  cases dC o.op with
  | none=>rfl
  | some p=>rfl
 | o::r,b,k+1,a,h=>by
  simp only[NJ]at h
  simp only[az]
  cases dC o.op with
  | none=>simp only[NJ]; exact ec r b k a h
  | some p=>
   obtain⟨c,h1,h2⟩:=ec r (b+1) k a h
   exact⟨c,om,by simp only[NJ]; exact h2⟩
theorem xG{l:List aj}{ms:List Nat}(hp:dt l ms=true){i j:Nat}{a b:aj}(hij:i<j)(hi:l[i]?=some a)(hj:l[j]?=some b):eP ms i j a b=true:=by
 unfold dt at hp
 rw[List.all_eq_true]at hp
 have h1:=hp j (List.mem_range.2 (NA.1 hj).1)
 rw[hj]at h1
 simp only at h1
 rw[List.all_eq_true]at h1
 have h2:=h1 i (List.mem_range.2 hij)
 rw[hi]at h2
 exact h2
theorem kO{l:List aj}{b k:Nat}{a:aj}(h:(az b l)[k]?=some a):∃a',l[k]?=some a'/\a'.dst=a.dst:=by
 have hkl:k<l.length:=by have:=(NA.1 h).1; rwa [iT]at this
 obtain⟨b4,_,hg4⟩:=ec l b k _ (Nz hkl)
 refine⟨_,Nz hkl,?_⟩
 rw[h]at hg4
 simp only[az]at hg4
 cases hz:dC (l[k]).op with
 | none=>rw[hz]at hg4; simp only[NI,sJ]at hg4; rw[hg4]
 | some p=>rw[hz]at hg4; simp only[NI,sJ]at hg4; rw[hg4]
theorem iS{a:aj}(h:dC a.op=none)(b:Nat):az b [a]=[a]:=by simp[az,h]
theorem xX{tb:FuncId->Bool}{call:FuncId->List af->ae->Option (af×ae)}{m:List aj}{U:Tr af}{K:ae}{ss:List (af×ae)}(htr:cf tb call m U K=some ss){c:Nat}{H1:ae}{v:af}(hs:ss[c]?=some (v,H1))
  (h:∀k b,c<k->m[k]?=some b->aB b.op=false∨fi (bh (fun i=>Nat.blt i (0+k)) 0 m ss U) b.guard=false):dw K ss m.length=H1:=by
 obtain⟨hl,hat⟩:=eZ m U K ss 0 htr
 have hc:c<ss.length:=(NA.1 hs).1
 have key:∀e,c+1+e<=m.length->dw K ss (c+1+e)=H1:=by
  intro e
  induction e with
  | zero=>intro _; simp only[Nat.add_zero,dw,hs]
  | succ e ih=>
   intro he
   have h0:=ih om
   have hb:m[c+1+e]?=some (m[c+1+e]'om):=Nz om
   rcases h _ _ om hb with h1 | h1
   ·have:=cq htr 1 (c+1+e) om fun q o q1 q2 q3=>by
     have:q=c+1+e:=om
     subst this
     rw[hb,sJ]at q3
     subst q3
     exact h1
    rw[<- Nat.add_assoc,this,h0]
   ·obtain⟨v',H',z1,z2⟩:=hat _ _ hb
    simp only[bt,h1,cond_false,sJ,pJ]at z2
    rw[<- Nat.add_assoc]
    simp only[dw,z1]
    rw[<- z2.2,h0]
 have:=key (m.length-(c+1)) om
 rwa [show c+1+(m.length-(c+1))=m.length by omega]at this
end
section
variable {P:Program} {Prot:Gh} {w0:World} {ρ:Pl} {H H':ae} {w:World}
theorem si(hfol:P.follows .mixedOrders=true){tb:FuncId->Bool}(htb:∀f,Nat.blt f bI=true->tb f=true->bc P f=true)(htbP:∀f,Nat.blt f bI=true->tb (bI+f)=true->bc P f=true)
  {call:FuncId->List af->ae->Option (af×ae)} (hcall:gk P call) (hcallP:wQ P call) {n id:Nat} {ps:List Nat} {ops:Array Oper} {l:List aj} {st:Option (Nat×Nat)}
  (hl:Ay P n ps ops ops.toList=some (l,st)) (hok:eQ (ops.toList.map aV) (aZ [] (ops.toList.map aV))=true) (hokp:dt (az 0 l) (aZ [] (ops.toList.map aV))=true) (hlT:l.all (cL n)=true)
  {T T1:Tr af} {H1:ae} {e:oD} {a:Act} (R:Rel Prot w0 ρ H w) (hP:oC ρ n T a)
  (h:jO tb call (az H.next l) ((List.range l.length).map (dx (az 0 l) (aZ [] (ops.toList.map aV)))) T (bO H l)=some (e,T1,H1)) :
  e=.normal/\(Code.region id ops true).wp P (fun e' a' w'=>∃ρ',ρ.le ρ'/\Rel Prot w0 ρ' H1 w' /\
   ((e'=.normal/\oC ρ' n T1 a')∨∃c d' x u,st=some (c,d')/\e'=.panic [{ v:=u,recovered:=false }]/\ev T1 (.t d')=ju x/\ag ρ' x u/\a'.defers=a.defers/\ev T1 (.t (n+1))=ev T (.t (n+1)))) a w:=by
 obtain⟨U,hG,ht⟩:=hP.1.t
 obtain⟨he,U1,hU,hG1,hS⟩:=FE hG (pR l H.next hlT) h
 refine⟨he,?_⟩
 have hPn:∀(ρ':Pl) (a':Act),ρ.le ρ'->aH ρ' n U1 a'.tmps->a'.defers=a.defers->oC ρ' n T1 a':=fun ρ' a' hle ht' hd'=>
  ⟨⟨⟨U1,hG1,ht'⟩,by rw[hd',hS (n+1) om]; exact hP.1.d.mono hle⟩,by rw[hS n rL]; exact hP.2⟩
 have hlen0:(az 0 l).length=l.length:=iT l 0
 have hlk:=gG l H.next 0
 have hok2:dt (az H.next l) (aZ [] (ops.toList.map aV))=true:=by rw[lH hlk]; exact hokp
 have hbase:∀d,Prot.dead d->d<H.next:=fun d hd=>(R.dead d hd).1
 have hone:∀{o a},dj P n ops o=some a->ck P n ops [o]=some [a]:=fun ho=>by simp only[ck,ho]
 have hnc:fO l:=by
  rcases gb hl with⟨_,h2⟩ | ⟨c,d,ac,_,h2,h3,_⟩
  ·exact dU h2
  ·intro x hx c' z s hcl
   obtain⟨k,hk⟩:=List.getElem?_of_mem hx
   have hkl:=(NA.1 hk).1
   obtain⟨a,y1,y2⟩:=h3 k _ (Nz om)
   rw[hk,sJ]at y1
   subst y1
   rcases y2 with⟨_,f,args,ats,lx,g,_,_,_,_,_,rfl⟩ | ⟨_,_,y2⟩ | ⟨_,_,a',y2,_,_,rfl⟩
   ·simp at hcl
   ·exact dU (hone y2) x (by simp) c' z s hcl
   ·exact dU (hone y2) a' (by simp) c' z s hcl
 have hrp:∃rp:Nat->Prop,(∀c,rp c->∃d,st=some (c,d))/\(∀c d,st=some (c,d)->rp c):=⟨fun c=>∃d,st=some (c,d),fun c h=>h,fun c d h=>⟨d,h⟩⟩
 obtain⟨rp,hrp1,hrp2⟩:=hrp
 have hopers:(az H.next l).length=ops.toList.length/\∀(j:Nat) (o:Oper),ops.toList[j]?=some o->∃a,(az H.next l)[j]?=some a/\((¬rp j/\(dj P n ops o=some a∨(∃c,H.next<=c/\Cy P n ops o a c)∨Lt P n ops (az H.next l) (aZ [] (ops.toList.map aV)) rp o a j))∨(st≠none/\rp j/\Bd P n ops o a)):=by
  rcases gb hl with⟨rfl,h2⟩ | ⟨c,d,ac,rfl,h2,h3,h4,h5,h6⟩
  ·obtain⟨q1,q2⟩:=j7 h2 H.next
   exact⟨q1,fun j o hj=>let ⟨a,z1,z2⟩:=q2 j o hj; ⟨a,z1,.inl ⟨fun hr=>by obtain⟨d,hd⟩:=hrp1 j hr; simp at hd,z2.imp_right .inl⟩⟩⟩
  ·refine⟨by rw[iT]; exact h2,fun j o hj=>?_⟩
   obtain⟨a,y1,y2⟩:=h3 j o hj
   obtain⟨b,hb,hget⟩:=ec l H.next j a y1
   have hnr:j≠c->¬rp j:=fun hne hr=>by obtain⟨d',hd⟩:=hrp1 j hr; simp only[sJ,pJ]at hd; exact hne hd.1.symm
   rcases y2 with⟨rfl,y2⟩ | ⟨hne,_,y2⟩ | ⟨hne,hbit,a',y2,y3,y4,rfl⟩
   ·have hz:dC a.op=none:=by obtain⟨f,args,ats,lx,g,_,_,_,_,_,rfl⟩:=y2; rfl
    rw[iS hz]at hget
    exact⟨a,by simpa using hget,.inr ⟨by simp,hrp2 _ _ rfl,y2⟩⟩
   ·obtain⟨_,q2⟩:=j7 (hone y2) b
    obtain⟨a2,z1,z2⟩:=q2 0 o rfl
    refine⟨a2,by rw[hget,z1],.inl ⟨hnr hne,z2.imp_right fun ⟨c',w1,w2⟩=>.inl ⟨c',om,w2⟩⟩⟩
   ·rw[iS (a:=⟨a'.dst,a'.op,some (SK+d,false)⟩) y4]at hget
    have hcz:∃ac2,(az H.next l)[c]?=some ac2/\ac2.dst=some d/\ac2.dst=ac.dst:=by
     obtain⟨b2,_,hg2⟩:=ec l H.next c ac h4
     simp only[az]at hg2
     cases hz:dC ac.op with
     | none=>rw[hz]at hg2; exact⟨ac,by simpa using hg2,h5,rfl⟩
     | some p=>rw[hz]at hg2; exact⟨⟨ac.dst,.claim b2 p.1 p.2,ac.guard⟩,by simpa using hg2,h5,rfl⟩
    obtain⟨ac2,w1,w2,_⟩:=hcz
    refine⟨_,by simpa using hget,.inl ⟨hnr hne,.inr (.inr ⟨a',c,d,ac2,y2,y3,rfl,hbit,hrp2 _ _ rfl,w1,w2,fun k b' hk hbd=>?_⟩)⟩⟩
    obtain⟨b3,w3,w4⟩:=kO hk
    exact h6 k b3 w3 (w4.trans hbd)
 have hraw:∀c d,st=some (c,d)->∃ac,(az H.next l)[c]?=some ac/\ac.dst=some d/\aB ac.op=true/\d<n/\(∀k b,(az H.next l)[k]?=some b->b.dst=some d->k=c)/\∀k b,c<k->(az H.next l)[k]?=some b->aB b.op=true->b.guard=some (SK+d,false):=by
  intro c d hst
  rcases gb hl with⟨h0,_⟩ | ⟨c',d',ac,h1,h2,h3,h4,h5,h6⟩
  ·rw[hst]at h0; simp at h0
  ·rw[hst,sJ,pJ]at h1
   obtain⟨rfl,rfl⟩:=h1
   have hcl:=(NA.1 h4).1
   obtain⟨a,y1,y2⟩:=h3 c _ (Nz om)
   rw[h4,sJ]at y1
   subst y1
   rcases y2 with⟨_,f,args,ats,lx,g,_,_,_,q4,_,rfl⟩ | ⟨hne,_⟩ | ⟨hne,_⟩
   ·simp only at h5
    rw[h5]at q4
    obtain⟨b,_,hget⟩:=ec l H.next c _ h4
    rw[iS rfl]at hget
    have hc2:=hget
    simp only[NI]at hc2
    refine⟨_,hc2,h5,rfl,dF q4,fun k b' hk hbd=>?_,fun k b' hck hk hch=>?_⟩
    ·obtain⟨b3,w3,w4⟩:=kO hk
     exact h6 k b3 w3 (w4.trans hbd)
    ·have hpr:=xG hok2 hck hc2 hk
     simp only[eP,Bool.or_eq_true,NC,Bool.not_eq_true']at hpr
     have hbit:gU (aZ [] (ops.toList.map aV)) k c=true:=by
      rcases hpr with hpr | ⟨hpr,_⟩
      ·exact hpr
      ·rw[hch]at hpr; simp[aB,gR,cJ]at hpr
     obtain⟨b3,w3,_⟩:=kO hk
     have hkl:=(NA.1 w3).1
     obtain⟨a2,z1,z2⟩:=h3 k _ (Nz om)
     rcases z2 with⟨rfl,_⟩ | ⟨_,hb0,_⟩ | ⟨_,_,a',_,_,x4,rfl⟩
     ·omega
     ·rw[hbit]at hb0; simp at hb0
     ·obtain⟨b5,_,hg5⟩:=ec l H.next k _ z1
      rw[iS (a:=⟨a'.dst,a'.op,some (SK+d,false)⟩) x4,hk]at hg5
      simp only[NI,sJ]at hg5
      rw[hg5]
   ·exact (hne rfl).elim
   ·exact (hne rfl).elim
 have R':=fI (pr:=Prot.prot) l Prot.dead H hnc R
 have hchk:(List.range l.length).map (dx (az 0 l) (aZ [] (ops.toList.map aV)))=(List.range (az H.next l).length).map (dx (az H.next l) (aZ [] (ops.toList.map aV))):=by
  have:l.length=(az H.next l).length:=by rw[<- hlen0]; exact (hlk.len).symm
  rw[this]
  exact List.map_congr_left fun j _=>(pS hlk _ j).symm
 have hdis:=iU l H.next hnc
 rw[hchk]at hU h
 generalize hcl:az H.next l=m at *
 generalize hrv:bO H l=K at *
 unfold jO at hU
 cases hss:cf tb call m U K with
 | none=>rw[hss]at hU; simp at hU
 | some ss=>
  rw[hss]at hU
  simp only at hU
  cases hr:ed tb (K::ss.map (·.2)) m ((List.range m.length).map (dx m (aZ [] (ops.toList.map aV)))) ss U with
  | false=>rw[hr]at hU; simp at hU
  | true=>
   rw[hr]at hU
   simp only[cond_true,sJ,pJ,true_and]at hU
   obtain⟨rfl,rfl⟩:=hU
   refine wp_region_any hfol ?_
   have hN:m.length=ops.size:=by simpa using hopers.1
   have hrep:∀i,(Array.replicate ops.size false).getD i false=false:=fun i=>by
    rw[Array.getD_eq_getD_getElem?,Array.getElem?_replicate]; split <;> rfl
   have hm0:(fun i=>(Array.replicate ops.size false).getD i false)=fun _=>false:=funext hrep
   have hst:aw (fun i=>(Array.replicate ops.size false).getD i false) 0 m=aw (fun _=>false) 0 m:=fe m 0 fun c o _ _=>by simp only[hrep]
   have hH:dw K ss (aw (fun _=>false) 0 m)=K:=by
    obtain⟨q1,q2,q3,q4⟩:=da (fun _=>false) m 0
    have:=cq hss (aw (fun _=>false) 0 m) 0 om fun c o _ hlt ho=>by
     cases hx:aB o.op with
     | false=>rfl
     | true=>have:=q3 c o ho hx om; simp at this
    rw[Nat.zero_add]at this
    rw[this]; rfl
   have htl:aH ρ n (bh (fun i=>(Array.replicate ops.size false).getD i false) 0 m ss U) a.tmps:=by
    refine ht.congr fun t=>?_
    rw[hm0]
    have:∀(l:List aj) (ss:List (af×ae)) (k:Nat) (T:Tr af),bh (fun _=>false) k l ss T=T:=by
     intro l
     induction l with
     | nil=>intro ss k T; cases ss <;> rfl
     | cons o r ih=>intro ss k T; cases ss with
      | nil=>rfl
      | cons s ss=>obtain⟨x,y⟩:=s; simp only[bh,cond_false,ih]
    rw[this]
   refine vQ (RAW:=st≠none) (rp:=rp) (ds:=a.defers) (Prot:=Prot) (w0:=w0) htb hcall (fun _=>htbP) (fun _=>hcallP) (base:=H.next) hopers.1 hopers.2 hbase hdis hok hok2 hss hr (ρ0:=ρ) (fun a' w' hx=>?_) (fun hd c a' w' ρ' x u hrc hle hx hv hda=>?_) ops.size _ a _ (by simp) ?_ (fun j _ hj=>by rw[hrep]at hj; simp at hj) (fun j _ hj=>by rw[hrep]at hj; simp at hj) ⟨ρ,Pl.le_refl _,?_,htl,rfl⟩
   ·obtain⟨ρ',q1,q2,q3,q4⟩:=hx
    exact⟨ρ',q1,q2,.inl ⟨rfl,hPn ρ' a' q1 q3 q4⟩⟩
   ·obtain⟨d',hst'⟩:=hrp1 c hrc
    obtain⟨ac,g1,g2,g3,g4,g5,g6⟩:=hraw c d' hst'
    obtain⟨H9,hx,R1⟩:=hx
    have hsel:∀mk:Nat->Bool,mk (0+c)=true->(bh mk 0 m ss U).get d'=some (ju x):=fun mk hmk=>
     gZ m ss 0 c U ac (ju x) H9 g1 hx g2 hmk fun k b hk hkb hbd=>absurd (g5 k b hkb hbd) om
    have hstill:dw K ss m.length=H9:=xX hss hx fun k b hk hkb=>by
     cases hch:aB b.op with
     | false=>exact .inl rfl
     | true=>
      right
      obtain⟨k1,k2⟩:=Ip d'
      rw[g6 k b hk hkb hch]
      simp only[fi,gV,k1,k2,cond_true,ev]
      rw[hsel _ (by simp only[Nat.zero_add]; exact NB hk)]
      rfl
    refine⟨ρ',hle,by rw[hstill]; exact R1,.inr ⟨c,d',x,u,hst',rfl,?_,hv,hda,hS (n+1) om⟩⟩
    rw[hG1.1 d' g4]
    simp only[ev,hsel (fun _=>true) rfl]
   ·rw[hm0]
    have:∀k,qE (fun _=>false) k=k:=by
     intro k
     induction k with
     | zero=>rfl
     | succ k ih=>simp only[qE,ih,cond_false]
    exact this _
   ·rw[hst,hH,hm0]; exact R'.drew
end
end Go.Abs
namespace Go.Abs
section
variable {P:Program} {Prot:Gh} {w0:World} {ρ:Pl} {H H':ae} {w:World}
theorem Cb(hfol:P.follows .mixedOrders=true){tb:FuncId->Bool}(htb:∀f,Nat.blt f bI=true->tb f=true->bc P f=true)(htbP:∀f,Nat.blt f bI=true->tb (bI+f)=true->bc P f=true)
  {call:FuncId->List af->ae->Option (af×ae)} (hcall:gk P call) (hcallP:wQ P call) {n k:Nat} {ps:List Nat} :
  ∀(c:Code) (ac:bC),dd P n ps c=some ac->∀(ρ:Pl) (T T':Tr af) (H H':ae) (e:oD) (a:Act) (w:World),
   Rel Prot w0 ρ H w->oC ρ n T a->aI tb call k ac T H=some (e,T',H')->c.wp P (Cv Prot w0 ρ n e T' H') a w:=by
 intro c
 induction c with
 | skip=>
  intro ac hc ρ T T' H H' e a w R hP h
  simp only[dd,sJ]at hc; subst hc
  simp only[aI,sJ,pJ]at h
  obtain⟨rfl,rfl,rfl⟩:=h
  exact wp_skip ⟨ρ,Pl.le_refl _,R,rfl,hP⟩
 | region id ops draw=>
  intro ac hc ρ T T' H H' e a w R hP h
  cases draw with
  | false=>
   simp only[dd]at hc
   split at hc
   ·rename_i its hl
    simp only[sJ]at hc; subst hc
    refine wp_region ?_
    have:=BS (Prot:=Prot) (w0:=w0) htb htbP hcall hcallP ops.toList 0 its (fun j=>by simp) hl ρ ρ T T' H H' e a w (Pl.le_refl _) R hP h
    rw[List.range_eq_range']
    simpa using this
   ·simp at hc
  | true=>
   simp only[dd,EW]at hc
   split at hc
   ·rename_i l st hl
    cases hck:eQ (ops.toList.map aV) (aZ [] (ops.toList.map aV))&&dt (az 0 l) (aZ [] (ops.toList.map aV))&&l.all (cL n) with
    | false=>
     rw[hck]at hc
     simp only[cond_false,sJ]at hc; subst hc
     simp[iH]at h
    | true=>
     rw[hck]at hc
     simp only[cond_true]at hc
     simp only[NC]at hck
     obtain⟨⟨hk1,hk2⟩,hk3⟩:=hck
     cases st with
     | none=>
      simp only[sJ]at hc; subst hc
      simp only[aI]at h
      obtain⟨rfl,hw⟩:=si (id:=id) hfol htb htbP hcall hcallP hl hk1 hk2 hk3 R hP h
      refine wp_mono hw ?_
      rintro e' a' w' ⟨ρ',q1,q2,⟨rfl,q3⟩ | ⟨c',d',x,u,hd,_⟩⟩
      ·exact⟨ρ',q1,q2,rfl,q3⟩
      ·simp at hd
     | some cd=>
      obtain⟨cc,d⟩:=cd
      simp only[sJ]at hc; subst hc
      simp only[aI]at h
      cases hdr:jO tb call (az H.next l) ((List.range l.length).map (dx (az 0 l) (aZ [] (ops.toList.map aV)))) T (bO H l) with
      | none=>rw[hdr]at h; simp at h
      | some r=>
       obtain⟨e1,T1,H1⟩:=r
       rw[hdr]at h
       obtain⟨rfl,hw⟩:=si (id:=id) hfol htb htbP hcall hcallP hl hk1 hk2 hk3 R hP hdr
       simp only at h
       rw[bu,bJ]at h
       simp only[bF,eC,jj,vv,JZ,be,aK]at h
       have e2:ev (T1.set (n+2) (.bool (ez (ev T1 (.t d))))) (.t (n+2))=.bool (ez (ev T1 (.t d))):=by rw[aQ,if_pos rfl]
       rw[e2]at h
       refine wp_mono hw ?_
       rintro e' a' w' ⟨ρ',q1,q2,⟨rfl,q3⟩ | ⟨c',d',x,u,hd,rfl,q3,q4,q5,q6⟩⟩
       ·cases hp:ez (ev T1 (.t d)) with
        | false=>
         rw[hp]at h
         simp only[sJ,pJ]at h
         obtain⟨rfl,rfl,rfl⟩:=h
         exact⟨ρ',q1,q2,rfl,q3.ghost rL _⟩
        | true=>
         exfalso
         obtain⟨U,hG,ht⟩:=q3.1.t
         obtain⟨y,hy⟩:=kI hp
         by_cases hdn:d<n
         ·have:=ht.at_ d
          rw[<- hG.1 d hdn]at this
          exact xD this hy
         ·rcases gb hl with⟨h0,_⟩ | ⟨c2,d2,ao,h4,_,_,h6',h6,_⟩
          ·simp at h0
          ·simp only[sJ,pJ]at h4
           obtain⟨rfl,rfl⟩:=h4
           have:=List.all_eq_true.1 hk3 ao (NH h6')
           simp only[cL,NC,h6]at this
           exact hdn (dF this.2.2)
       ·simp only[sJ,pJ]at hd
        obtain⟨rfl,rfl⟩:=hd
        have hp:ez (ev T1 (.t d))=true:=by rw[q3]; rfl
        rw[hp]at h
        simp only[fi,cond_true,HH]at h
        have e3:ev ((T1.set (n+2) (.bool true)).set (n+2) (.bool (isU (ev (T1.set (n+2) (.bool true)) (.t (n+1)))))) (.t (n+2))=.bool (isU (ev (T1.set (n+2) (.bool true)) (.t (n+1)))):=by rw[aQ,if_pos rfl]
        rw[e3]at h
        have e4:ev (T1.set (n+2) (.bool true)) (.t (n+1))=ev T1 (.t (n+1)):=by rw[aQ,if_neg om]
        rw[e4]at h
        cases hu:isU (ev T1 (.t (n+1))) with
        | false=>rw[hu]at h; simp[eN,aI,be,fi,bF]at h
        | true=>
         rw[hu]at h
         simp only[be,fi,cond_true,bF,aK]at h
         simp only[sJ,pJ]at h
         obtain⟨rfl,rfl,rfl⟩:=h
         have hund:ev T1 (.t (n+1))=aJ:=by
          unfold isU at hu
          split at hu
          ·rename_i h9; rw[h9]; rfl
          ·simp at hu
         have hdn:∃v,ev ((T1.set (n+2) (.bool true)).set (n+2) (.bool true)) (.t d)=v:=⟨_,rfl⟩
         have hdlt:d<n:=by
          rcases gb hl with⟨h0,_⟩ | ⟨c2,d2,ao,h4,_,_,h6',h6,_⟩
          ·simp at h0
          ·simp only[sJ,pJ]at h4
           obtain⟨rfl,rfl⟩:=h4
           have:=List.all_eq_true.1 hk3 ao (NH h6')
           simp only[cL,NC,h6]at this
           exact dF this.2.2
         refine⟨ρ',q1,q2,.inr ⟨rfl,.inr ⟨u,rfl,x,?_,q4,.inl ⟨?_,?_⟩⟩⟩⟩
         ·rw[aQ,if_pos rfl,aQ,if_neg om,aQ,if_neg om]; exact q3
         ·rw[q5]
          have:=hP.1.d
          rw[<- q6,hund]at this
          rcases this with⟨_,h9⟩ | ⟨f,fa,fb,d9,cap,h9,_⟩
          ·exact h9
          ·simp[aJ]at h9
         ·rw[aQ,if_neg om,aQ,if_neg om,aQ,if_neg om]; exact hund
   ·simp at hc
 | seq x y ihx ihy=>
  intro ac hc ρ T T' H H' e a w R hP h
  simp only[dd]at hc
  split at hc
  ·rename_i ax ay hx hy
   simp only[sJ]at hc; subst hc
   simp only[aI]at h
   split at h
   ·rename_i T1 H1 h1
    refine wp_seq (wp_mono (ihx _ hx ρ T T1 H H1 .normal a w R hP h1) ?_)
    rintro e1 a1 w1 ⟨ρ1,hl,R1,rfl,hP1⟩
    exact wp_mono (ihy _ hy ρ1 T1 T' H1 H' e a1 w1 R1 hP1 h) fun _ _ _ q=>q.weaken hl
   ·rename_i e1 T1 H1 hne h1
    simp only[sJ,pJ]at h
    obtain⟨rfl,rfl,rfl⟩:=h
    refine wp_seq (wp_mono (ihx _ hx ρ T T1 H H1 e1 a w R hP h1) ?_)
    rintro e2 a1 w1 q
    obtain⟨ρ1,q1,q2,q3⟩:=q
    cases e1 with
    | normal=>exact (hne rfl).elim
    | ret=>exact q3.elim
    | exit id=>
     rcases q3 with⟨z1,rfl,z2⟩ | ⟨z1,⟨rfl,z2⟩ | ⟨u,rfl,z2⟩⟩
     ·exact⟨ρ1,q1,q2,.inl ⟨z1,rfl,z2⟩⟩
     ·exact⟨ρ1,q1,q2,.inr ⟨z1,.inl ⟨rfl,z2⟩⟩⟩
     ·exact⟨ρ1,q1,q2,.inr ⟨z1,.inr ⟨u,rfl,z2⟩⟩⟩
   ·simp at h
  ·simp at hc
 | cond c x y ihx ihy=>
  intro ac hc ρ T T' H H' e a w R hP h
  simp only[dd]at hc
  split at hc
  ·rename_i c' ax ay hcc hx hy
   cases hT:cz n c' with
   | false=>rw[hT]at hc; simp at hc
   | true=>
    rw[hT]at hc
    simp only[cond_true,sJ]at hc; subst hc
    simp only[aI]at h
    obtain⟨U,hG,ht⟩:=hP.1.t
    have hv:=aA ht hcc
    rw[<- hG.x hT]at hv
    split at h
    ·rename_i hb
     rw[hb]at hv
     simp only[ag]at hv
     exact wp_cond_true hv (ihx _ hx ρ T T' H H' e a w R hP h)
    ·rename_i hb
     rw[hb]at hv
     simp only[ag]at hv
     exact wp_cond_false hv (ihy _ hy ρ T T' H H' e a w R hP h)
    ·simp at h
  ·simp at hc
 | block id c ih=>
  intro ac hc ρ T T' H H' e a w R hP h
  simp only[dd]at hc
  split at hc
  ·rename_i ax hx
   cases hid:Nat.beq id PB with
   | true=>rw[hid]at hc; simp at hc
   | false=>
    rw[hid]at hc
    simp only[cond_false,sJ]at hc; subst hc
    have hidn:¬id=PB:=fun e=>by rw[e,Nat.beq_refl]at hid; simp at hid
    simp only[aI]at h
    split at h
    ·rename_i j T1 H1 h1
     refine wp_block (wp_mono (ih _ hx ρ T T1 H H1 (.exit j) a w R hP h1) ?_)
     rintro e1 a1 w1 ⟨ρ1,q1,q2,q3⟩
     cases hb:Nat.beq j id with
     | true=>
      rw[hb]at h
      simp only[cond_true,sJ,pJ]at h
      obtain⟨rfl,rfl,rfl⟩:=h
      have:=NG hb
      subst this
      rcases q3 with⟨_,rfl,z2⟩ | ⟨z1,_⟩
      ·simp only[Exit.inBlock,if_true]
       exact⟨ρ1,q1,q2,rfl,z2⟩
      ·exact (hidn z1).elim
     | false=>
      rw[hb]at h
      simp only[cond_false,sJ,pJ]at h
      obtain⟨rfl,rfl,rfl⟩:=h
      have:¬j=id:=fun e=>by rw[e,Nat.beq_refl]at hb; simp at hb
      rcases q3 with⟨z1,rfl,z2⟩ | ⟨z1,⟨rfl,z2⟩ | ⟨u,rfl,z2⟩⟩
      ·simp only[Exit.inBlock,this,if_false]
       exact⟨ρ1,q1,q2,.inl ⟨z1,rfl,z2⟩⟩
      ·exact⟨ρ1,q1,q2,.inr ⟨z1,.inl ⟨rfl,z2⟩⟩⟩
      ·exact⟨ρ1,q1,q2,.inr ⟨z1,.inr ⟨u,rfl,z2⟩⟩⟩
    ·rename_i e1 T1 H1 hne h1
     simp only[sJ,pJ]at h
     obtain⟨rfl,rfl,rfl⟩:=h
     refine wp_block (wp_mono (ih _ hx ρ T T1 H H1 e1 a w R hP h1) ?_)
     rintro e2 a1 w1 ⟨ρ1,q1,q2,q3⟩
     cases e1 with
     | normal=>obtain⟨rfl,z⟩:=q3; exact⟨ρ1,q1,q2,rfl,z⟩
     | exit j=>exact (hne _ rfl).elim
     | ret=>exact q3.elim
    ·simp at h
  ·simp at hc
 | loop c ih=>
  intro ac hc ρ T T' H H' e a w R hP h
  simp only[dd]at hc
  split at hc
  ·rename_i ax hx
   simp only[sJ]at hc; subst hc
   simp only[aI]at h
   refine wp_loop_rounds k ?_
   have key:∀(m:Nat) (T:Tr af) (H:ae) (ρ1:Pl) (a:Act) (w:World),ρ.le ρ1->Rel Prot w0 ρ1 H w->oC ρ1 n T a ->
     gJ (aI tb call k ax) m T H=some (e,T',H')->Code.rounds P c (Cv Prot w0 ρ n e T' H') m a w:=by
    intro m
    induction m with
    | zero=>intro T H ρ1 a w _ _ _ h; simp[gJ]at h
    | succ m ihm=>
     intro T H ρ1 a w hl R hP h
     rw[rounds_succ]
     simp only[gJ]at h
     split at h
     ·rename_i T1 H1 h1
      refine wp_mono (ih _ hx ρ1 T T1 H H1 .normal a w R hP h1) ?_
      rintro e1 a1 w1 ⟨ρ2,hl2,R1,rfl,hP1⟩
      exact ihm T1 H1 ρ2 a1 w1 (Pl.le_trans hl hl2) R1 hP1 h
     ·rename_i e1 T1 H1 hne h1
      simp only[sJ,pJ]at h
      obtain⟨rfl,rfl,rfl⟩:=h
      refine wp_mono (ih _ hx ρ1 T T1 H H1 e1 a w R hP h1) ?_
      rintro e2 a1 w1 q
      obtain⟨ρ2,q1,q2,q3⟩:=q.weaken hl
      cases e1 with
      | normal=>exact (hne rfl).elim
      | ret=>exact q3.elim
      | exit id=>
       rcases q3 with⟨z1,rfl,z2⟩ | ⟨z1,⟨rfl,z2⟩ | ⟨u,rfl,z2⟩⟩
       ·exact⟨ρ2,q1,q2,.inl ⟨z1,rfl,z2⟩⟩
       ·exact⟨ρ2,q1,q2,.inr ⟨z1,.inl ⟨rfl,z2⟩⟩⟩
       ·exact⟨ρ2,q1,q2,.inr ⟨z1,.inr ⟨u,rfl,z2⟩⟩⟩
     ·simp at h
   exact key k T H ρ a w (Pl.le_refl _) R hP h
  ·simp at hc
 | exit id=>
  intro ac hc ρ T T' H H' e a w R hP h
  simp only[dd]at hc
  cases hid:Nat.beq id PB with
  | true=>rw[hid]at hc; simp at hc
  | false=>
   rw[hid]at hc
   simp only[cond_false,sJ]at hc; subst hc
   have hidn:¬id=PB:=fun e=>by rw[e,Nat.beq_refl]at hid; simp at hid
   simp only[aI,sJ,pJ]at h
   obtain⟨rfl,rfl,rfl⟩:=h
   exact wp_exit ⟨ρ,Pl.le_refl _,R,.inl ⟨hidn,rfl,hP⟩⟩
 | ret=>
  intro ac hc ρ T T' H H' e a w R hP h
  simp only[dd,sJ]at hc; subst hc
  simp only[aI,sJ,pJ]at h
  obtain⟨rfl,rfl,rfl⟩:=h
  exact wp_ret ⟨ρ,Pl.le_refl _,R,.inr ⟨rfl,.inl ⟨rfl,hP⟩⟩⟩
 | _=>
  intro ac hc ρ T T' H H' e a w R hP h
  simp only[dd,sJ]at hc; subst hc
  simp[iH]at h
end
end Go.Abs
