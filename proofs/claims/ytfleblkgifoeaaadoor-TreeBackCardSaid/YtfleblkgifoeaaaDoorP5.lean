/- Part of a proof (D9 A11 A11b A11c A11d A11e A11f); no condition. -/
import Derived.LoopN
import Derived.Recover
import Derived.Test.YtfleblkgifoeaaaDoorP4
set_option linter.unusedSimpArgs false
set_option linter.unusedVariables false
set_option linter.unnecessarySimpa false
namespace Go.Abs
def dO:Option Nat->List aV
 | some d=>[.t d]
 | none=>[]
def qf(o:ah):List aV:=match o.op with
 | .store _ a _=>[a]
 | .append _ _ s x=>s::x::dO o.dst
 | .hf (.fill ..) _=>dO o.dst
 | .load _ _ x=>[x]
 | _=>[]
def uu(l:List ah)(c t:Nat):Bool:=match l[c]? with
 | some o=>match o.dst with
  | some d=>Nat.beq d t
  | none=>false
 | none=>false
def sZ(l:List ah)(q:Nat):aV->Bool
 | .t t=>(List.range l.length).all fun c=>Nat.blt c q||!uu l c t
 | _=>true
def jc(l:List ah)(q:Nat):Option Nat->Bool
 | some d=>(List.range l.length).all fun c=>Nat.ble c q||!uu l c d
 | none=>false
def yJ(l:List ah)(q:Nat):Bool:=match l[q]? with
 | some o=>match o.op with
  | .store _ a _=>sZ l q a
  | .append _ _ s x=>sZ l q s&&(sZ l q x&&jc l q o.dst)
  | .hf (.fill ..) _=>jc l q o.dst
  | .load _ _ x=>sZ l q x
  | _=>true
 | none=>true
def np(l:List ah):Bool:=(List.range l.length).all (yJ l)
def uI(l:List ah)(j i:Nat):List (aV×aV):=match l[j]?,l[i]? with
 | some b,some a=>(qf b).flatMap fun y=>(qf a).map fun x=>(y,x)
 | _,_=>[]
def ol(l:List ah)(ms:List Nat)(j k:Nat):Bool:=match l[k]? with
 | some o=>dc o.op&&(!iL ms k j&&!iL ms j k)
 | none=>false
def nG(l:List ah)(ms:List Nat):List (aV×aV):=
 (List.range l.length).flatMap fun j=>(List.range j).flatMap fun i=>bif er l ms i j then
  uI l j i++(List.range l.length).flatMap fun k=>bif ol l ms j k then uI l j k else [] else []
def pF(p:aV×aV):ah:=⟨none,.pf .apart [p.1,p.2],none⟩
section
variable {tb:FuncId->Bool} {call:FuncId->List aa->ab->Option (aa×ab)} {l:List ah} {ms:List Nat} {T0:Tr aa} {H0:ab} {ss:List (aa×ab)}
theorem sH{c t:Nat}{o:ah}(h:l[c]?=some o)(hd:o.dst=some t):uu l c t=true:=by
 unfold uu; simp only[h,hd]; exact Nat.beq_refl t
theorem mU{q:Nat}{x:aV}(h:sZ l q x=true):ev (ba (fun _=>true) 0 l ss T0) x=ev (ba (fun i=>Nat.blt i (0+q)) 0 l ss T0) x:=by
 cases x with
 | t t=>
  simp only[ev]
  rw[eU l ss 0 T0 T0 rfl fun c o hc hd=>?_]
  simp only[sZ]at h
  rw[List.all_eq_true]at h
  have:=h c (List.mem_range.2 (N2.1 hc).1)
  rw[sH hc hd]at this
  simp only[Bool.not_true,Bool.or_false]at this
  simp only[Nat.zero_add]
  exact this.symm
 | _=>rfl
theorem KF{q d:Nat}{o:ah}{v:aa}{H':ab}(hq:l[q]?=some o)(hs:ss[q]?=some (v,H'))(hd:o.dst=some d)(h:jc l q o.dst=true):ev (ba (fun _=>true) 0 l ss T0) (.t d)=v:=by
 rw[hd]at h
 simp only[jc]at h
 rw[List.all_eq_true]at h
 have hn:∀c oc,q<c->l[c]?=some oc->oc.dst=some d->False:=by
  intro c oc hc h1 h2
  have:=h c (List.mem_range.2 (N2.1 h1).1)
  rw[sH h1 h2]at this
  simp only[Bool.not_true,Bool.or_false]at this
  have:=N7 this
  omega
 have e:(ba (fun _=>true) 0 l ss T0).get d=some v:=by
  have e1:=iQ (m:=fun i=>Nat.ble i q) l ss 0 q T0 o v H' hq hs hd (by simp only[Nat.zero_add]; exact N3 (Nat.le_refl q)) fun i o' h1 h2 h3=>(hn i o' h1 h2 h3).elim
  rw[<- e1]
  refine eU l ss 0 T0 T0 rfl fun c oc hc hdc=>?_
  simp only[Nat.zero_add]
  rcases Nat.lt_or_ge q c with k | k
  ·exact (hn c oc k hc hdc).elim
  ·exact (N3 k).symm
 simp only[ev,e]
theorem px(htr:cm tb call l T0 H0=some ss)(hok:np l=true){q:Nat}{o:ah}(hq:l[q]?=some o){b:Nat}(hb:b∈bQ l ss T0 q):∃x∈qf o,ge (ev (ba (fun _=>true) 0 l ss T0) x)=some b:=by
 obtain⟨_,hat⟩:=fT l T0 H0 ss 0 htr
 obtain⟨v,H1,hs,hs0⟩:=hat q o hq
 clear hs0 hat
 simp only[bQ,hq,hs]at hb
 have hst:yJ l q=true:=by
  unfold np at hok
  rw[List.all_eq_true]at hok
  exact hok q (List.mem_range.2 (N2.1 hq).1)
 unfold yJ at hst
 rw[hq]at hst
 obtain⟨d,op,g⟩:=o
 have hdst:jc l q d=true->∃d',d=some d'/\ev (ba (fun _=>true) 0 l ss T0) (.t d')=v:=by
  intro h
  cases d with
  | none=>simp[jc]at h
  | some d'=>exact⟨d',rfl,KF (o:=⟨some d',op,g⟩) hq hs rfl h⟩
 cases op <;> simp only[eV,List.not_mem_nil]at hb
 case store n a x=>
  obtain⟨y,h1,h2⟩:=nz hb
  obtain rfl:=List.mem_singleton.1 h1
  exact⟨a,by simp[qf],by rw[mU hst]; exact h2⟩
 case load n a x=>
  obtain⟨y,h1,h2⟩:=nz hb
  obtain rfl:=List.mem_singleton.1 h1
  exact⟨x,by simp[qf],by rw[mU hst]; exact h2⟩
 case append n k s x=>
  simp only[N4]at hst
  obtain⟨d',hd1,hd2⟩:=hdst hst.2.2
  obtain⟨y,h1,h2⟩:=nz hb
  simp only[List.mem_cons,List.not_mem_nil,or_false]at h1
  rcases h1 with rfl | rfl | rfl
  ·exact⟨s,by simp[qf],by rw[mU hst.1]; exact h2⟩
  ·exact⟨x,by simp[qf],by rw[mU hst.2.1]; exact h2⟩
  ·exact⟨.t d',by simp[qf,hd1,dO],by rw[hd2]; exact h2⟩
 case hf f xs=>
  cases f <;> first | (simp only[List.not_mem_nil]at hb; done) | skip
  obtain⟨d',hd1,hd2⟩:=hdst hst
  obtain⟨y,h1,h2⟩:=nz hb
  obtain rfl:=List.mem_singleton.1 h1
  exact⟨.t d',by simp[qf,hd1,dO],by rw[hd2]; exact h2⟩
theorem tq{i j:Nat}{a b:ah}(hi:l[i]?=some a)(hj:l[j]?=some b){x y:aV}(hx:x∈qf a)(hy:y∈qf b):(y,x)∈uI l j i:=by
 unfold uI
 rw[hi,hj]
 simp only[List.mem_flatMap,List.mem_map]
 exact⟨y,hy,x,hx,rfl⟩
theorem Gw{x y:aa}{b:Nat}(h:IL y x=true)(hx:ge x=some b)(hy:ge y=some b):False:=by
 unfold IL at h
 rw[hx,hy]at h
 simp[Nat.beq_refl]at h
theorem Kx(htr:cm tb call l T0 H0=some ss)(hok:np l=true)(hck:∀p∈nG l ms,IL (ev (ba (fun _=>true) 0 l ss T0) p.1) (ev (ba (fun _=>true) 0 l ss T0) p.2)=true) :
  (∀i j,er l ms i j=true->∀x∈bQ l ss T0 j,x∉bQ l ss T0 i) /\
  ∀i j k o,er l ms i j=true->l[k]?=some o->dc o.op=true->iL ms k j=false->iL ms j k=false->∀x∈bQ l ss T0 j,x∉bQ l ss T0 k:=by
 have hl:∀i j,er l ms i j=true->∃a b,l[i]?=some a/\l[j]?=some b/\i<j:=by
  intro i j h
  unfold er at h
  split at h
  ·rename_i a b hi hj
   simp only[N4]at h
   exact⟨a,b,hi,hj,N7 h.1⟩
  ·simp at h
 constructor
 ·intro i j h x hx hx'
  obtain⟨a,b,hi,hj,hij⟩:=hl i j h
  obtain⟨y,y1,y2⟩:=px htr hok hj hx
  obtain⟨z,z1,z2⟩:=px htr hok hi hx'
  refine Gw (hck (y,z) ?_) z2 y2
  unfold nG
  rw[List.mem_flatMap]
  refine⟨j,List.mem_range.2 (N2.1 hj).1,?_⟩
  rw[List.mem_flatMap]
  refine⟨i,List.mem_range.2 hij,?_⟩
  rw[h,cond_true,List.mem_append]
  exact .inl (tq hi hj z1 y1)
 ·intro i j k o h hk hld h1 h2 x hx hx'
  obtain⟨a,b,hi,hj,hij⟩:=hl i j h
  obtain⟨y,y1,y2⟩:=px htr hok hj hx
  obtain⟨z,z1,z2⟩:=px htr hok hk hx'
  refine Gw (hck (y,z) ?_) z2 y2
  unfold nG
  rw[List.mem_flatMap]
  refine⟨j,List.mem_range.2 (N2.1 hj).1,?_⟩
  rw[List.mem_flatMap]
  refine⟨i,List.mem_range.2 hij,?_⟩
  rw[h,cond_true,List.mem_append,List.mem_flatMap]
  refine .inr ⟨k,List.mem_range.2 (N2.1 hk).1,?_⟩
  have:ol l ms j k=true:=by unfold ol; rw[hk]; simp[hld,h1,h2]
  rw[this,cond_true]
  exact tq hk hj z1 y1
end
theorem sy{P:Program}{c:Call}{b n:Nat}{z:List aa}{os:List (Nat×Nat)}{xs:List aV}(h:je P c=some (.hf (.fill b n z os) xs)):False:=by
 unfold je at h
 repeat' split at h
 all_goals first
  | (simp at h; done)
  | (simp only[cond_eq_ite]at h; split at h <;> simp at h)
theorem sD{P:Program}{o:Op}{b n:Nat}{z:List aa}{os:List (Nat×Nat)}{xs:List aV}(h:oz P o=some (.hf (.fill b n z os) xs)):False:=by
 unfold oz at h
 repeat' split at h
 all_goals first
  | (simp at h; done)
  | (simp only[cond_eq_ite]at h; split at h <;> first | (simp at h; done) | (split at h <;> simp at h))
theorem vn{P:Program}{o:Op}{b n:Nat}{z:List aa}{os:List (Nat×Nat)}{xs:List aV}(h:vq P o=some (.hf (.fill b n z os) xs)):False:=by
 unfold vq at h
 split at h
 ·rename_i a ha
  simp only[sJ]at h
  subst h
  exact sD ha
 ·split at h
  ·rename_i a ha
   simp only[sJ]at h
   subst h
   cases o <;> simp only[xm,reduceCtorEq]at ha
   case call c _=>exact sy ha
   all_goals
    exfalso
    repeat' split at ha
    all_goals first
     | (simp at ha; done)
     | (simp only[cond_eq_ite]at ha; split at ha <;> simp at ha)
  ·simp at h
theorem nk{P:Program}{n:Nat}{ops:Array Oper}:∀{rest:List Oper} {l:List ah},cx P n ops rest=some l->∀a∈l,wS a.op=none:=by
 intro rest
 induction rest with
 | nil=>intro l h; simp only[cx,sJ]at h; subst h; intro a ha; simp at ha
 | cons o r ih=>
  intro l h
  simp only[cx]at h
  split at h
  ·rename_i a l' ha hl'
   simp only[sJ]at h
   subst h
   intro x hx
   rcases List.mem_cons.1 hx with rfl | hx
   ·unfold dK at ha
    split at ha
    ·rename_i ax g hopc hg
     cases hdst:du n o.dst with
     | false=>rw[hdst]at ha; simp at ha
     | true=>
      rw[hdst]at ha
      simp only[cond_true,sJ]at ha
      subst ha
      simp only
      unfold wS
      split
      ·exact (vn hopc).elim
      ·rfl
    ·simp at ha
   ·exact ih hl' x hx
  ·simp at h
end Go.Abs
namespace Go.Abs
inductive bE where
 | skip
 | reg (ops:List ah)
 | draw (ops:List ah) (chk:List (List Nat))
 | seq (a b:bE)
 | cond (c:aV) (a b:bE)
 | block (id:Nat) (c:bE)
 | loop (c:bE)
 | exit (id:Nat)
 | ret
inductive rY where
 | normal
 | exit (id:Nat)
 | ret
inductive lJ where
 | t (i:Nat)
 | cell (agg:Bool) (size:Nat) (i:Nat)
structure cw where
 nt:Nat
 body:bE
 res:List lJ
section
variable (tb:FuncId->Bool) (call:FuncId->List aa->ab->Option (aa×ab))
def aX:List ah->Tr aa->ab->Option (Tr aa×ab)
 | [],T,H=>some (T,H)
 | o::r,T,H=>bif ga T o.guard then
   match bG tb T H o.op with
   | some (.val v,H')=>aX r (co T o.dst v) H'
   | some (.enter f args,H')=>match call f args H' with
    | some (v,H'')=>aX r (co T o.dst v) H''
    | none=>none
   | none=>none
  else aX r (co T o.dst aN) H
def iA(body:Tr aa->ab->Option (rY×Tr aa×ab)):Nat->Tr aa->ab->Option (rY×Tr aa×ab)
 | 0,_,_=>none
 | n+1,T,H=>match body T H with
  | some (.normal,T',H')=>iA body n T' H'
  | some (e,T',H')=>some (e,T',H')
  | none=>none
def kF(ops:List ah)(chk:List (List Nat))(T:Tr aa)(H:ab):Option (rY×Tr aa×ab):=
 match cm tb call ops T H with
 | some ss=>bif eL tb (H::ss.map (·.2)) ops chk ss T then some (.normal,ba (fun _=>true) 0 ops ss T,dU H ss ops.length) else none
 | none=>none
def aH(k:Nat):bE->Tr aa->ab->Option (rY×Tr aa×ab)
 | .skip,T,H=>some (.normal,T,H)
 | .reg ops,T,H=>match aX tb call ops T H with
  | some (T',H')=>some (.normal,T',H')
  | none=>none
 | .draw ops chk,T,H=>kF tb call (aw H.next ops) chk T (bt H ops)
 | .seq a b,T,H=>match aH k a T H with
  | some (.normal,T',H')=>aH k b T' H'
  | some (e,T',H')=>some (e,T',H')
  | none=>none
 | .cond c a b,T,H=>match ev T c with
  | .bool true=>aH k a T H
  | .bool false=>aH k b T H
  | _=>none
 | .block id c,T,H=>match aH k c T H with
  | some (.exit j,T',H')=>bif Nat.beq j id then some (.normal,T',H') else some (.exit j,T',H')
  | some (e,T',H')=>some (e,T',H')
  | none=>none
 | .loop c,T,H=>iA (aH k c) k T H
 | .exit id,T,H=>some (.exit id,T,H)
 | .ret,T,H=>some (.ret,T,H)
end
def ji(T:Tr aa)(H:ab):List lJ->Option (List aa)
 | []=>some []
 | .t i::r=>match ji T H r with
  | some l=>some (ev T (.t i)::l)
  | none=>none
 | .cell g n i::r=>match am g n H (ev T (.t i)),ji T H r with
  | some x,some l=>some (x::l)
  | _,_=>none
def gW:List aa->aa
 | [x]=>x
 | l=>.tuple l
def cF:List aa->Nat->Tr aa->Tr aa
 | [],_,T=>T
 | x::r,i,T=>cF r (i+1) (T.set i x)
structure BX where
 ps:List Nat
 df:Option (Nat×Nat×Bool)
structure fq where
 is:FuncId->Bool
 run:FuncId->List aa->ab->Option (aa×ab)
 md:Nat->Option BX
def xY(N:fq)(A:Tr cw):FuncId->Bool:=fun f=>bif N.is f then true else match A.get f with | some _=>true | none=>false
def cO(N:fq)(tab:Tr cw):Nat->FuncId->List aa->ab->Option (aa×ab)
 | 0,_,_,_=>none
 | n+1,f,args,H=>bif N.is f then N.run f args H else match tab.get f with
  | some fn=>bif Nat.ble args.length fn.nt then
    match aH (xY N tab) (cO N tab n) n fn.body (cF args 0 .e) H with
    | some (.exit _,_,_)=>none
    | some (_,T,H')=>match ji T H' fn.res with
     | some l=>some (gW l,H')
     | none=>none
    | none=>none
   else none
  | none=>none
section
variable (P:Program)
def fy:bE:=.reg [⟨none,.bad,none⟩]
def FV(es:List (List Nat))(l:List ah)(ms:List Nat):bE:=
 bif fD es ms&&(gM l ms&&(nr l ms&&(np l&&l.all fun o=>(dH o.op).isNone))) then
  .seq (.draw l ((List.range l.length).map (dV l ms))) (.reg ((nG l ms).map pF)) else fy
def eA(n:Nat):Code->Option bE
 | .skip=>some .skip
 | .region _ ops false=>match cx P n ops ops.toList with
  | some l=>some (.reg l)
  | none=>none
 | .region _ ops true=>match cx P n ops ops.toList with
  | some l=>bif fD (ops.toList.map aS) (aT [] (ops.toList.map aS))&&dT (aw 0 l) (aT [] (ops.toList.map aS)) then
    some (.draw l ((List.range l.length).map (dV (aw 0 l) (aT [] (ops.toList.map aS))))) else some (FV (ops.toList.map aS) l (aT [] (ops.toList.map aS)))
  | none=>none
 | .seq a b=>match eA n a,eA n b with
  | some a,some b=>some (.seq a b)
  | _,_=>none
 | .cond c a b=>match bA c,eA n a,eA n b with
  | some c,some a,some b=>some (.cond c a b)
  | _,_,_=>none
 | .block id c=>match eA n c with
  | some c=>some (.block id c)
  | none=>none
 | .loop c=>match eA n c with
  | some c=>some (.loop c)
  | none=>none
 | .exit id=>some (.exit id)
 | .ret=>some .ret
 | _=>some fy
def pq:List ResultVar->Option (List lJ)
 | []=>some []
 | .tmp t::r=>match pq r with
  | some l=>some (.t t::l)
  | none=>none
 | .cell a t::r=>match eT P t,pq r with
  | some (g,n),some l=>some (.cell g n a::l)
  | _,_=>none
def Hl(f:FuncId):Option cw:=
 match P.funcs[f]? with
 | some fn=>match fn.body with
  | some c => bif fn.name == "runtime.NumGoroutine" then none else
   match eA P fn.ntmps c,pq P fn.results.toList with
   | some b,some r=>some ⟨fn.ntmps,b,r⟩
   | _,_=>none
  | none=>none
 | none=>none
end
section
variable {P:Program} {Prot:Gh} {w0:World} {ρ:Pl} {H H':ab} {w:World}
def Dg(P:Program)(Prot:Gh)(w0:World)(ds:List Deferred)(ρ:Pl)(n:Nat)(e:rY)(T:Tr aa)(H:ab):Exit->Act->World->Prop:=fun e' a w=>
 (match e with | .normal=>e'=.normal | .exit id=>e'=.exit id | .ret=>e'=.ret)/\∃ρ',ρ.le ρ'/\bv Prot w0 ρ' H w/\aW ρ' n T a.tmps/\a.defers=ds
theorem wj{tb:FuncId->Bool}(htb:∀f,Nat.blt f bN=true->tb f=true->bq P f=true){call:FuncId->List aa->ab->Option (aa×ab)}(hcall:gX P call){ds:List Deferred}{n:Nat}{ops:Array Oper}{Q:Exit->Act->World->Prop} :
  ∀(rest:List Oper) (i:Nat) (l:List ah),(∀j,rest[j]?=ops[i+j]?)->cx P n ops rest=some l->∀(ρ0 ρ:Pl) (T T':Tr aa) (H H':ab) (a:Act) (w:World),ρ0.le ρ ->
   bv Prot w0 ρ H w->aW ρ n T a.tmps->a.defers=ds->aX tb call l T H=some (T',H') ->
   (∀a' w',(∃ρ',ρ0.le ρ'/\bv Prot w0 ρ' H' w'/\aW ρ' n T' a'.tmps/\a'.defers=ds)->Q .normal a' w')->wpOps P ops Q (List.range' i rest.length) a w:=by
 intro rest
 induction rest with
 | nil=>
  intro i l _ hc ρ0 ρ T T' H H' a w hle R ht hd h hQ
  simp only[cx,sJ]at hc
  subst hc
  simp only[aX,sJ,pJ]at h
  obtain⟨rfl,rfl⟩:=h
  exact hQ a w ⟨ρ,hle,R,ht,hd⟩
 | cons o rest ih=>
  intro i l hi hc ρ0 ρ T T' H H' a w hle R ht hd h hQ
  simp only[cx]at hc
  split at hc
  ·rename_i ao l' ha hl
   simp only[sJ]at hc
   subst hc
   have ho:ops[i]?=some o:=by have:=hi 0; simpa using this.symm
   have hnext:∀j,rest[j]?=ops[i+1+j]?:=fun j=>by have:=hi (j+1); simp only[Ob]at this; rw[this]; congr 1; omega
   unfold dK at ha
   split at ha
   ·rename_i ax g hop hg
    cases hdst:du n o.dst with
    | false=>rw[hdst]at ha; simp at ha
    | true=>
     rw[hdst]at ha
     simp only[cond_true,sJ]at ha
     subst ha
     simp only[N5,List.range'_succ,wpOps,ho]
     simp only[aX]at h
     rw[fh ht hg]
     cases hgo:ga T g with
     | false=>
      rw[hgo]at h
      simp only[cond_false]at h
      simp only[Oc,if_false]
      refine ih (i+1) l' hnext hl ρ0 ρ _ _ _ _ _ _ hle R (bH ht hdst dM) ?_ h hQ
      cases hx:o.dst <;> simpa[Act.put] using hd
     | true=>
      rw[hgo]at h
      simp only[cond_true]at h
      simp only[if_true]
      left
      split at h
      ·rename_i v H1 hv
       obtain⟨ρ1,w1,nx,q1,q2,q3,q4⟩:=iF htb R ht o hop hv
       simp only[Oper.wp,q2]
       have hd':∀u,(a.put o.dst u).defers=ds:=fun u=>by cases hx:o.dst <;> simpa[Act.put] using hd
       cases nx <;> simp only[jm]at q4
       case value u=>exact ih (i+1) l' hnext hl ρ0 ρ1 _ _ _ _ _ _ (Pl.le_trans hle q1) q3 (bH (ht.mono q1) hdst q4) (hd' _) h hQ
       case skip=>exact ih (i+1) l' hnext hl ρ0 ρ1 _ _ _ _ _ _ (Pl.le_trans hle q1) q3 (bH (ht.mono q1) hdst q4) (hd' _) h hQ
      ·rename_i f args H1 hv
       split at h
       ·rename_i v H2 hcl
        obtain⟨ρ1,w1,nx,q1,q2,q3,q4⟩:=iF htb R ht o hop hv
        simp only[Oper.wp,q2]
        have hd':∀u,(a.put o.dst u).defers=ds:=fun u=>by cases hx:o.dst <;> simpa[Act.put] using hd
        cases nx <;> simp only[jm]at q4
        case enter g vs=>
         obtain⟨rfl,hbig,q5⟩:=q4
         simp only[Oper.upon]
         refine (hcall _ _ _ _ _ hbig hcl Prot w0 ρ1 w1 vs q3 q5).mono fun e w' hr=>?_
         obtain⟨ρ2,u,r1,rfl,r3,r4⟩:=hr
         exact ih (i+1) l' hnext hl ρ0 ρ2 _ _ _ _ _ _ (Pl.le_trans hle (Pl.le_trans q1 r1)) r3 (bH ((ht.mono q1).mono r1) hdst r4) (hd' _) h hQ
       ·simp at h
      ·simp at h
   ·simp at ha
  ·simp at hc
theorem Dg.weaken{ds:List Deferred}{ρ ρ':Pl}{n:Nat}{e:rY}{T:Tr aa}{H:ab}(h:ρ.le ρ'){e':Exit}{a:Act}{w:World}(q:Dg P Prot w0 ds ρ' n e T H e' a w):Dg P Prot w0 ds ρ n e T H e' a w:=by
 obtain⟨h1,ρ2,h2,h3⟩:=q
 exact⟨h1,ρ2,Pl.le_trans h h2,h3⟩
theorem jq{tb:FuncId->Bool}{call:FuncId->List aa->ab->Option (aa×ab)}{k:Nat}{T:Tr aa}{H:ab}:aH tb call k fy T H=none:=rfl
theorem tR:∀{l:List ah} {b:Nat},(l.all fun o=>(dH o.op).isNone)=true->aw b l=l
 | [],_,_=>rfl
 | o::r,b,h=>by
  simp only[List.all_cons,N4,Option.isNone_iff_eq_none]at h
  simp only[aw,h.1,tR (l:=r) h.2]
theorem oP:∀{l:List ah} {H:ab},(l.all fun o=>(dH o.op).isNone)=true->bt H l=H
 | [],_,_=>rfl
 | o::r,H,h=>by
  simp only[List.all_cons,N4,Option.isNone_iff_eq_none]at h
  simp only[bt,h.1,oP (l:=r) h.2]
theorem nO{tb:FuncId->Bool}{call:FuncId->List aa->ab->Option (aa×ab)}:∀(ps:List (aV×aV)) {T T':Tr aa} {H H':ab},aX tb call (ps.map pF) T H=some (T',H') ->
  T'=T/\H'=H/\∀p∈ps,IL (ev T p.1) (ev T p.2)=true
 | [],T,T',H,H',h=>by
  simp only[List.map_nil,aX,sJ,pJ]at h
  exact⟨h.1.symm,h.2.symm,by simp⟩
 | p::r,T,T',H,H',h=>by
  simp only[List.map_cons,aX,pF,ga,cond_true,bG,jJ,fo,GM]at h
  cases hp:IL (ev T p.1) (ev T p.2) with
  | false=>rw[hp]at h; simp[vv]at h
  | true=>
   rw[hp]at h
   simp only[cond_true,vv,co]at h
   obtain⟨h1,h2,h3⟩:=nO r h
   refine⟨h1,h2,fun q hq=>?_⟩
   rcases List.mem_cons.1 hq with rfl | hq
   ·exact hp
   ·exact h3 q hq
theorem xa(hfol:P.follows .mixedOrders=true){tb:FuncId->Bool}(htb:∀f,Nat.blt f bN=true->tb f=true->bq P f=true){call:FuncId->List aa->ab->Option (aa×ab)}(hcall:gX P call){ds:List Deferred}{n k:Nat} :
  ∀(c:Code) (ac:bE),eA P n c=some ac->∀(ρ:Pl) (T T':Tr aa) (H H':ab) (e:rY) (a:Act) (w:World),
   bv Prot w0 ρ H w->aW ρ n T a.tmps->a.defers=ds->aH tb call k ac T H=some (e,T',H')->c.wp P (Dg P Prot w0 ds ρ n e T' H') a w:=by
 intro c
 induction c with
 | skip=>
  intro ac hc ρ T T' H H' e a w R ht hd h
  simp only[eA,sJ]at hc; subst hc
  simp only[aH,sJ,pJ]at h
  obtain⟨rfl,rfl,rfl⟩:=h
  exact wp_skip ⟨rfl,ρ,Pl.le_refl _,R,ht,hd⟩
 | region id ops draw=>
  intro ac hc ρ T T' H H' e a w R ht hd h
  cases draw with
  | true=>
   simp only[eA]at hc
   split at hc
   ·rename_i l hl
    cases hck:(fD (ops.toList.map aS) (aT [] (ops.toList.map aS))&&dT (aw 0 l) (aT [] (ops.toList.map aS))) with
    | false=>
     rw[hck]at hc
     simp only[cond_false,sJ]at hc; subst hc
     clear hck
     unfold FV at h
     cases hck:(fD (ops.toList.map aS) (aT [] (ops.toList.map aS))&&(gM l (aT [] (ops.toList.map aS))&&(nr l (aT [] (ops.toList.map aS))&&(np l&&l.all fun o=>(dH o.op).isNone)))) with
     | false=>rw[hck]at h; simp[jq]at h
     | true=>
      rw[hck,cond_true]at h
      simp only[N4]at hck
      obtain⟨c1,c2,c3,c4,c5⟩:=hck
      have hlen:l.length=ops.toList.length:=(qA hl).1
      simp only[aH,kF,tR c5,oP c5]at h
      cases hss:cm tb call l T H with
      | none=>rw[hss]at h; simp at h
      | some ss=>
      rw[hss]at h
      simp only at h
      cases hr:eL tb (H::ss.map (·.2)) l ((List.range l.length).map (dV l (aT [] (ops.toList.map aS)))) ss T with
      | false=>rw[hr]at h; simp at h
      | true=>
       rw[hr]at h
       simp only[cond_true]at h
       cases hg:aX tb call ((nG l (aT [] (ops.toList.map aS))).map pF) (ba (fun _=>true) 0 l ss T) (dU H ss l.length) with
       | none=>rw[hg]at h; simp at h
       | some q=>
       obtain⟨T2,H2⟩:=q
       rw[hg]at h
       simp only[sJ,pJ]at h
       obtain⟨rfl,rfl,rfl⟩:=h
       obtain⟨rfl,rfl,hchecks⟩:=nO _ hg
       obtain⟨hap,hal⟩:=Kx hss c4 hchecks
       refine wp_region_any hfol ?_
       have hN:l.length=ops.size:=by simpa using hlen
       have hrep:∀i,(Array.replicate ops.size false).getD i false=false:=fun i=>by
        rw[Array.getD_eq_getD_getElem?,Array.getElem?_replicate]; split <;> rfl
       have hm0:(fun i=>(Array.replicate ops.size false).getD i false)=fun _=>false:=funext hrep
       have hst:ap (fun i=>(Array.replicate ops.size false).getD i false) 0 l=ap (fun _=>false) 0 l:=fU l 0 fun c o _ _=>by simp only[hrep]
       have hH:dU H ss (ap (fun _=>false) 0 l)=H:=by
        obtain⟨q1,q2,q3,q4⟩:=dz (fun _=>false) l 0
        have:=cI hss (ap (fun _=>false) 0 l) 0 om fun c o _ hlt ho=>by
         cases hx:aA o.op with
         | false=>rfl
         | true=>have:=q3 c o ho hx om; simp at this
        rw[Nat.zero_add]at this
        rw[this]; rfl
       refine FI (Prot:=Prot) (w0:=w0) htb hcall (base:=H.next) hlen (fun j o hj=>let ⟨a,q1,q2⟩:=(qA hl).2 j o hj; ⟨a,q1,.inl q2⟩) (fun d hd=>(R.dead d hd).1) (fun i j a b c h1 h2 h3=>?_) (ey hl) c1 c2 c3 hss hr hap hal (ρ0:=ρ) (fun a' w' hx=>⟨rfl,hx⟩) ops.size _ a _ (by simp) ?_ (fun j _ hj=>by rw[hrep]at hj; simp at hj) ⟨ρ,H,Pl.le_refl _,?_,?_,?_,hd⟩
       ·exact absurd h3 (by rw[nk hl a (N9 h1)]; simp)
       ·rw[hm0]
        have:∀k,rZ (fun _=>false) k=k:=by
         intro k
         induction k with
         | zero=>rfl
         | succ k ih=>simp only[rZ,ih,cond_false]
        exact this _
       ·rw[hst,hm0]
        refine⟨by rw[hH],fun x _=>by rw[hH],fun q x _ h2=>?_⟩
        exact absurd h2.1 (by simp)
       ·rw[hm0]
        refine R.drew.fewer (D:=oD Prot.dead l fun _=>false) fun d hd=>?_
        rcases hd with hd | ⟨i,a,h1,h2,_⟩
        ·exact hd
        ·rw[nk hl a (N9 h1)]at h2; simp at h2
       ·refine ht.congr fun t=>?_
        rw[hm0]
        have:∀(l:List ah) (ss:List (aa×ab)) (k:Nat) (T:Tr aa),ba (fun _=>false) k l ss T=T:=by
         intro l
         induction l with
         | nil=>intro ss k T; cases ss <;> rfl
         | cons o r ih=>intro ss k T; cases ss with
          | nil=>rfl
          | cons s ss=>obtain⟨x,y⟩:=s; simp only[ba,cond_false,ih]
        rw[this]
    | true=>
     rw[hck]at hc
     simp only[cond_true,sJ]at hc; subst hc
     simp only[N4]at hck
     have hnc:=ey hl
     have hlk:=iu l H.next 0
     have hok:dT (aw H.next l) (aT [] (ops.toList.map aS))=true:=by rw[nq hlk]; exact hck.2
     have hlen:(aw H.next l).length=ops.toList.length:=(lr hl H.next).1
     have hll:l.length=(aw H.next l).length:=by rw[hlen]; exact (qA hl).1
     have hchk:(List.range l.length).map (dV (aw 0 l) (aT [] (ops.toList.map aS)))=(List.range (aw H.next l).length).map (dV (aw H.next l) (aT [] (ops.toList.map aS))):=by
      rw[hll]
      exact List.map_congr_left fun j _=>(rn hlk _ j).symm
     have hbase:∀d,Prot.dead d->d<H.next:=fun d hd=>(R.dead d hd).1
     have R:=gv (pr:=Prot.prot) l Prot.dead H hnc R
     simp only[aH,kF]at h
     rw[hchk]at h
     generalize hcl:aw H.next l=m at *
     generalize hrv:bt H l=K at *
     split at h
     ·rename_i ss hss
      cases hr:eL tb (K::ss.map (·.2)) m ((List.range m.length).map (dV m (aT [] (ops.toList.map aS)))) ss T with
      | false=>rw[hr]at h; simp at h
      | true=>
       rw[hr]at h
       simp only[cond_true,sJ,pJ]at h
       obtain⟨rfl,rfl,rfl⟩:=h
       refine wp_region_any hfol ?_
       have hN:m.length=ops.size:=by simpa using hlen
       have hrep:∀i,(Array.replicate ops.size false).getD i false=false:=fun i=>by
        rw[Array.getD_eq_getD_getElem?,Array.getElem?_replicate]; split <;> rfl
       have hm0:(fun i=>(Array.replicate ops.size false).getD i false)=fun _=>false:=funext hrep
       have hst:ap (fun i=>(Array.replicate ops.size false).getD i false) 0 m=ap (fun _=>false) 0 m:=fU m 0 fun c o _ _=>by simp only[hrep]
       have hH:dU K ss (ap (fun _=>false) 0 m)=K:=by
        obtain⟨q1,q2,q3,q4⟩:=dz (fun _=>false) m 0
        have:=cI hss (ap (fun _=>false) 0 m) 0 om fun c o _ hlt ho=>by
         cases hx:aA o.op with
         | false=>rfl
         | true=>have:=q3 c o ho hx om; simp at this
        rw[Nat.zero_add]at this
        rw[this]; rfl
       refine wX (RAW:=False) (rp:=fun _=>False) (Prot:=Prot) (w0:=w0) htb hcall (fun h=>h.elim) (fun h=>h.elim) (base:=H.next) hlen (by rw[<- hcl]; exact fun j o hj=>let ⟨a,q1,q2⟩:=(lr hl H.next).2 j o hj; ⟨a,q1,.inl ⟨fun h=>h,q2.imp_right .inl⟩⟩) hbase (by rw[<- hcl]; exact jC l H.next hnc) hck.1 hok hss hr (ρ0:=ρ) (fun a' w' hx=>⟨rfl,hx⟩) (fun h=>h.elim) ops.size _ a _ (by simp) ?_ (fun j _ hj=>by rw[hrep]at hj; simp at hj) (fun c h=>h.elim) ⟨ρ,Pl.le_refl _,?_,?_,hd⟩
       ·rw[hm0]
        have:∀k,rZ (fun _=>false) k=k:=by
         intro k
         induction k with
         | zero=>rfl
         | succ k ih=>simp only[rZ,ih,cond_false]
        exact this _
       ·rw[hst,hH,hm0]; exact R.drew
       ·refine ht.congr fun t=>?_
        rw[hm0]
        have:∀(l:List ah) (ss:List (aa×ab)) (k:Nat) (T:Tr aa),ba (fun _=>false) k l ss T=T:=by
         intro l
         induction l with
         | nil=>intro ss k T; cases ss <;> rfl
         | cons o r ih=>intro ss k T; cases ss with
          | nil=>rfl
          | cons s ss=>obtain⟨x,y⟩:=s; simp only[ba,cond_false,ih]
        rw[this]
     ·simp at h
   ·simp at hc
  | false=>
   simp only[eA]at hc
   split at hc
   ·rename_i l hl
    simp only[sJ]at hc; subst hc
    simp only[aH]at h
    split at h
    ·rename_i T1 H1 h1
     simp only[sJ,pJ]at h
     obtain⟨rfl,rfl,rfl⟩:=h
     refine wp_region ?_
     have:=wj (Prot:=Prot) (w0:=w0) htb hcall (Q:=Dg P Prot w0 ds ρ n .normal T1 H1) ops.toList 0 l (fun j=>by simp) hl ρ ρ T T1 H H1 a w (Pl.le_refl _) R ht hd h1 (fun a' w' h=>⟨rfl,h⟩)
     rw[List.range_eq_range']
     simpa using this
    ·simp at h
   ·simp at hc
 | seq x y ihx ihy=>
  intro ac hc ρ T T' H H' e a w R ht hd h
  simp only[eA]at hc
  split at hc
  ·rename_i ax ay hx hy
   simp only[sJ]at hc; subst hc
   simp only[aH]at h
   split at h
   ·rename_i T1 H1 h1
    refine wp_seq (wp_mono (ihx _ hx ρ T T1 H H1 .normal a w R ht hd h1) ?_)
    rintro e1 a1 w1 ⟨he,ρ1,hl,R1,ht1,hd1⟩
    simp only at he
    subst he
    exact wp_mono (ihy _ hy ρ1 T1 T' H1 H' e a1 w1 R1 ht1 hd1 h) fun _ _ _ q=>q.weaken hl
   ·rename_i e1 T1 H1 hne h1
    simp only[sJ,pJ]at h
    obtain⟨rfl,rfl,rfl⟩:=h
    refine wp_seq (wp_mono (ihx _ hx ρ T T1 H H1 e1 a w R ht hd h1) ?_)
    rintro e2 a1 w1 q
    cases e1 with
    | normal=>exact (hne rfl).elim
    | exit id=>have:=q.1; simp only at this; subst this; exact q
    | ret=>have:=q.1; simp only at this; subst this; exact q
   ·simp at h
  ·simp at hc
 | cond c x y ihx ihy=>
  intro ac hc ρ T T' H H' e a w R ht hd h
  simp only[eA]at hc
  split at hc
  ·rename_i c' ax ay hcc hx hy
   simp only[sJ]at hc; subst hc
   simp only[aH]at h
   have hv:=az ht hcc
   split at h
   ·rename_i hb
    rw[hb]at hv
    simp only[ae]at hv
    exact wp_cond_true hv (ihx _ hx ρ T T' H H' e a w R ht hd h)
   ·rename_i hb
    rw[hb]at hv
    simp only[ae]at hv
    exact wp_cond_false hv (ihy _ hy ρ T T' H H' e a w R ht hd h)
   ·simp at h
  ·simp at hc
 | block id c ih=>
  intro ac hc ρ T T' H H' e a w R ht hd h
  simp only[eA]at hc
  split at hc
  ·rename_i ax hx
   simp only[sJ]at hc; subst hc
   simp only[aH]at h
   split at h
   ·rename_i j T1 H1 h1
    refine wp_block (wp_mono (ih _ hx ρ T T1 H H1 (.exit j) a w R ht hd h1) ?_)
    rintro e1 a1 w1 q
    have he:=q.1
    simp only at he
    subst he
    cases hb:Nat.beq j id with
    | true=>
     rw[hb]at h
     simp only[cond_true,sJ,pJ]at h
     obtain⟨rfl,rfl,rfl⟩:=h
     have:=N8 hb
     simp only[Exit.inBlock,this,if_true]
     exact⟨rfl,q.2⟩
    | false=>
     rw[hb]at h
     simp only[cond_false,sJ,pJ]at h
     obtain⟨rfl,rfl,rfl⟩:=h
     have:¬j=id:=fun e=>by rw[e,Nat.beq_refl]at hb; simp at hb
     simp only[Exit.inBlock,this,if_false]
     exact q
   ·rename_i e1 T1 H1 hne h1
    simp only[sJ,pJ]at h
    obtain⟨rfl,rfl,rfl⟩:=h
    refine wp_block (wp_mono (ih _ hx ρ T T1 H H1 e1 a w R ht hd h1) ?_)
    rintro e2 a1 w1 q
    cases e1 with
    | normal=>have:=q.1; simp only at this; subst this; exact q
    | exit j=>exact (hne _ rfl).elim
    | ret=>have:=q.1; simp only at this; subst this; exact q
   ·simp at h
  ·simp at hc
 | loop c ih=>
  intro ac hc ρ T T' H H' e a w R ht hd h
  simp only[eA]at hc
  split at hc
  ·rename_i ax hx
   simp only[sJ]at hc; subst hc
   simp only[aH]at h
   refine wp_loop_rounds k ?_
   have key:∀(m:Nat) (T:Tr aa) (H:ab) (ρ1:Pl) (a:Act) (w:World),ρ.le ρ1->bv Prot w0 ρ1 H w->aW ρ1 n T a.tmps->a.defers=ds ->
     iA (aH tb call k ax) m T H=some (e,T',H')->Code.rounds P c (Dg P Prot w0 ds ρ n e T' H') m a w:=by
    intro m
    induction m with
    | zero=>intro T H ρ1 a w _ _ _ _ h; simp[iA]at h
    | succ m ihm=>
     intro T H ρ1 a w hl R ht hd h
     rw[rounds_succ]
     simp only[iA]at h
     split at h
     ·rename_i T1 H1 h1
      refine wp_mono (ih _ hx ρ1 T T1 H H1 .normal a w R ht hd h1) ?_
      rintro e1 a1 w1 ⟨he,ρ2,hl2,R1,ht1,hd1⟩
      simp only at he
      subst he
      exact ihm T1 H1 ρ2 a1 w1 (Pl.le_trans hl hl2) R1 ht1 hd1 h
     ·rename_i e1 T1 H1 hne h1
      simp only[sJ,pJ]at h
      obtain⟨rfl,rfl,rfl⟩:=h
      refine wp_mono (ih _ hx ρ1 T T1 H H1 e1 a w R ht hd h1) ?_
      rintro e2 a1 w1 q
      have q':=q.weaken hl
      cases e1 with
      | normal=>exact (hne rfl).elim
      | exit id=>have:=q.1; simp only at this; subst this; exact q'
      | ret=>have:=q.1; simp only at this; subst this; exact q'
     ·simp at h
   exact key k T H ρ a w (Pl.le_refl _) R ht hd h
  ·simp at hc
 | exit id=>
  intro ac hc ρ T T' H H' e a w R ht hd h
  simp only[eA,sJ]at hc; subst hc
  simp only[aH,sJ,pJ]at h
  obtain⟨rfl,rfl,rfl⟩:=h
  exact wp_exit ⟨rfl,ρ,Pl.le_refl _,R,ht,hd⟩
 | ret=>
  intro ac hc ρ T T' H H' e a w R ht hd h
  simp only[eA,sJ]at hc; subst hc
  simp only[aH,sJ,pJ]at h
  obtain⟨rfl,rfl,rfl⟩:=h
  exact wp_ret ⟨rfl,ρ,Pl.le_refl _,R,ht,hd⟩
 | _=>
  intro ac hc ρ T T' H H' e a w R ht hd h
  simp only[eA,sJ]at hc; subst hc
  simp[jq]at h
theorem HN{n:Nat}(R:bv Prot w0 ρ H w){T:Tr aa}{tmps:Array Value}(ht:aW ρ n T tmps):∀{rs:List ResultVar} {l:List lJ},pq P rs=some l->∀{xs:List aa},ji T H l=some xs ->
  ∃vs:List Value,(rs.mapM (fun r=>match r with
   | .tmp t=>Pure.pure (tmps.getD t undef)
   | .cell a t=>do loadVar t (<- asAddr (tmps.getD a undef))):Sem (List Value)).run P w=.ok vs w/\aj ρ xs vs:=by
 intro rs
 induction rs with
 | nil=>
  intro l hc xs h
  simp only[pq,sJ]at hc; subst hc
  simp only[ji,sJ]at h; subst h
  exact⟨[],rfl,by simp[aj]⟩
 | cons r rs ih=>
  intro l hc xs h
  cases r with
  | tmp t=>
   simp only[pq]at hc
   split at hc
   ·rename_i l' hl
    simp only[sJ]at hc; subst hc
    simp only[ji]at h
    split at h
    ·rename_i ys hy
     simp only[sJ]at h; subst h
     obtain⟨vs,h1,h2⟩:=ih hl hy
     refine⟨tmps.getD t undef::vs,?_,by simp only[aj]; exact⟨_,_,rfl,ht.at_ t,h2⟩⟩
     simp only[List.mapM_cons,Sem.run_bind,Sem.run_pure,Result.andThen_ok,h1]
    ·simp at h
   ·simp at hc
  | cell a t=>
   simp only[pq]at hc
   split at hc
   ·rename_i g k l' hk hl
    simp only[sJ]at hc; subst hc
    simp only[ji]at h
    split at h
    ·rename_i x ys hx hy
     simp only[sJ]at h; subst h
     obtain⟨vs,h1,h2⟩:=ih hl hy
     obtain⟨u,u1,u2⟩:=uU (P:=P) R (dG hk) (ht.at_ a) hx
     have hp:∃ad,tmps.getD a undef=.pointer (some ad):=by
      have hat:=ht.at_ a
      unfold am at hx
      split at hx
      ·rename_i ad heq
       rw[heq]at hat
       simp only[ae]at hat
       obtain⟨L,_,_,e⟩:=hat
       exact⟨_,e⟩
      ·simp at hx
     obtain⟨ad,had⟩:=hp
     refine⟨u::vs,?_,by simp only[aj]; exact⟨_,_,rfl,u2,h2⟩⟩
     have:(loadVar t ad).run P w=.ok u w:=by
      rw[had]at u1
      simpa[Instr.loadAt,Instr.sureAddr] using u1
     have hA:(asAddr (tmps.getD a undef)).run P w=.ok ad w:=by rw[had]; rfl
     simp only[List.mapM_cons,Sem.run_bind,hA,Sem.run_pure,Result.andThen_ok,this,h1]
    ·simp at h
   ·simp at hc
theorem jX{n:Nat}(R:bv Prot w0 ρ H w){T:Tr aa}{tmps:Array Value}(ht:aW ρ n T tmps){fn:Func}{l:List lJ}(hc:pq P fn.results.toList=some l){xs:List aa}(h:ji T H l=some xs) :
  ∃v,(results fn tmps).run P w=.ok v w/\ae ρ (gW xs) v:=by
 obtain⟨vs,h1,h2⟩:=HN (P:=P) R ht hc h
 have hl:=aj.len h2
 have hm:(fn.results.mapM (fun r=>match r with
   | .tmp t=>Pure.pure (tmps.getD t undef)
   | .cell a t=>do loadVar t (<- asAddr (tmps.getD a undef))):Sem (Array Value)).run P w=.ok vs.toArray w:=by
  rw[Array.mapM_eq_mapM_toList]
  simp only[Sem.run_map,h1,Result.andThen_ok]
 refine⟨if h:vs.toArray.size=1 then vs.toArray[0] else .tuple vs.toArray,?_,?_⟩
 ·have e:results fn tmps=(fn.results.mapM (fun r=>match r with
   | .tmp t=>Pure.pure (tmps.getD t undef)
   | .cell a t=>do loadVar t (<- asAddr (tmps.getD a undef))):Sem (Array Value)) >>= fun vs=>Pure.pure (if h:vs.size=1 then vs[0] else .tuple vs):=rfl
  rw[e,Sem.run_bind,hm]
  rfl
 ·match xs,vs,h2,hl with
  | [x],[v],h2,_=>
   simp only[aj]at h2
   obtain⟨v',r,e,h3,_⟩:=h2
   simp only[List.cons.injEq]at e
   obtain⟨rfl,rfl⟩:=e
   exact h3
  | [],[],h2,_=>simp only[gW,ae]; exact⟨_,rfl,h2⟩
  | x::y::xs,v::u::vs,h2,_=>simp only[gW,ae]; exact⟨_,rfl,h2⟩
theorem nM:∀(args:List aa) (vs:List Value) (i:Nat) (T:Tr aa),aj ρ args vs->(∀t,i<=t->T.get t=none) ->
  ∀t,ev (cF args i T) (.t t)=if t<i then ev T (.t t) else match args[t-i]? with | some x=>x | none=>aN:=by
 intro args
 induction args with
 | nil=>
  intro vs i T _ hn t
  simp only[cF]
  split
  ·rfl
  ·rename_i h
   simp[ev,hn t om]
 | cons x r ih=>
  intro vs i T hv hn t
  simp only[aj]at hv
  obtain⟨v,vs',rfl,h1,h2⟩:=hv
  simp only[cF]
  rw[ih vs' (i+1) (T.set i x) h2 (fun t ht=>by rw[Tr.get_set,if_neg om]; exact hn t om) t]
  by_cases c1:t<i
  ·rw[if_pos om,if_pos c1]
   simp only[ev,Tr.get_set]
   rw[if_neg om]
  ·by_cases c2:t=i
   ·subst c2
    rw[if_pos om,if_neg c1]
    simp[ev,Tr.get_set]
   ·rw[if_neg om,if_neg c1,show t-i=(t-(i+1))+1 by omega]
    simp
theorem od{args:List aa}{vs:Array Value}(hv:aj ρ args vs.toList){n:Nat}(hn:args.length<=n):aW ρ n (cF args 0 .e) (vs++Array.replicate (n-vs.size) undef):=by
 have hl:=aj.len hv
 simp only[Array.length_toList]at hl
 refine⟨by simp; omega,fun t=>?_⟩
 rw[nM args vs.toList 0 .e hv (fun _ _=>rfl) t]
 rw[if_neg om,Nat.sub_zero]
 by_cases ht:t<args.length
 ·have hx:args[t]?=some args[t]:=N1 ht
  obtain⟨v,h1,h2⟩:=hv.nth _ _ hx
  rw[hx]
  rw[Array.getElem?_toList]at h1
  have:(vs++Array.replicate (n-vs.size) undef).getD t undef=v:=by
   rw[Array.getD_eq_getD_getElem?,Array.getElem?_append_left om,h1]; rfl
  rw[this]
  exact h2
 ·have hx:args[t]?=none:=Oi om
  rw[hx]
  have:(vs++Array.replicate (n-vs.size) undef).getD t undef=undef:=by
   rw[Array.getD_eq_getD_getElem?,Array.getElem?_append_right om]
   by_cases h:t-vs.size<n-vs.size
   ·simp[h]
   ·simp[h]
  rw[this]
  exact dM
theorem rA {f : FuncId} {fn : cw} (h : Hl P f = some fn) : ∃ fc code, P.funcs[f]? = some fc ∧ fc.body = some code ∧ (fc.name == "runtime.NumGoroutine") = false ∧ fc.ntmps = fn.nt ∧ eA P fn.nt code = some fn.body ∧ pq P fc.results.toList = some fn.res := by
 unfold Hl at h
 split at h
 ·rename_i fc hf
  split at h
  ·rename_i c hb
   cases hn : (fc.name == "runtime.NumGoroutine") with
   | true=>rw[hn]at h; simp at h
   | false=>
    rw[hn]at h
    simp only[cond_false]at h
    split at h
    ·rename_i b r h1 h2
     simp only[sJ]at h
     subst h
     exact⟨fc,c,hf,hb,hn,rfl,h1,h2⟩
    ·simp at h
  ·simp at h
 ·simp at h
structure rX(P:Program)(N:fq):Prop where
 body:∀f,N.is f=true->bq P f=true
 run:gX P N.run
end
end Go.Abs
namespace Go.Abs
def cP(n:Nat):aV->Bool
 | .t i=>Nat.blt i n
 | _=>true
def j6(n:Nat):List aV->Bool
 | []=>true
 | x::r=>cP n x&&j6 n r
def nm(n:Nat):Option aV->Bool
 | none=>true
 | some x=>cP n x
def qz(n:Nat):List (Nat×Nat×aV)->Bool
 | []=>true
 | (_,_,x)::r=>cP n x&&qz n r
def IM(n:Nat):gZ->Bool
 | .mv x=>cP n x
 | .pick c a b=>cP n c&&(cP n a&&cP n b)
 | .new _=>true
 | .box x=>cP n x
 | .build _ ps=>qz n ps
 | .buildSl _ _ ps=>qz n ps
 | .load _ _ x=>cP n x
 | .store _ a x=>cP n a&&cP n x
 | .nilChk x=>cP n x
 | .bin _ x y=>cP n x&&cP n y
 | .un _ x=>cP n x
 | .conv _ x=>cP n x
 | .convSB x=>cP n x
 | .convBS x=>cP n x
 | .mkFunc _ a b=>j6 n a&&j6 n b
 | .mkIface _ x=>cP n x
 | .mkSlice _ _ l c=>cP n l&&cP n c
 | .sl _ x a b c=>cP n x&&(nm n a&&(nm n b&&nm n c))
 | .slStr x a b=>cP n x&&(nm n a&&nm n b)
 | .fieldA _ x=>cP n x
 | .field _ _ _ x=>cP n x
 | .idxA _ x i=>cP n x&&cP n i
 | .idxArr _ _ x i=>cP n x&&cP n i
 | .idx _ _ _ x i=>cP n x&&cP n i
 | .idxS x i=>cP n x&&cP n i
 | .extract _ x=>cP n x
 | .append _ _ s x=>cP n s&&cP n x
 | .len _ x=>cP n x
 | .call _ l=>j6 n l
 | .callv f l=>cP n f&&j6 n l
 | .pf _ l=>j6 n l
 | .hf _ l=>j6 n l
 | .bad=>true
 | .claim ..=>true
 | .slA _ _ x a b c=>cP n x&&(nm n a&&(nm n b&&nm n c))
def IA(n:Nat):Option (Nat×Bool)->Bool
 | none=>true
 | some (t,_)=>Nat.blt (gS t) n
def dg(n:Nat)(o:ah):Bool:=IM n o.op&&(IA n o.guard&&du n o.dst)
def GE(n:Nat)(T U:Tr aa):Prop:=(∀t,t<n->ev T (.t t)=ev U (.t t))/\∀t,n<=t->ev U (.t t)=aN
section
variable {n:Nat} {T U:Tr aa} {tb:FuncId->Bool} {call:FuncId->List aa->ab->Option (aa×ab)}
theorem d8{a b:Nat}(h:Nat.blt a b=true):a<b:=N7 h
theorem GE.x(h:GE n T U){x:aV}(hx:cP n x=true):ev T x=ev U x:=by
 cases x with
 | t i=>exact h.1 i (d8 hx)
 | c v=>rfl
 | f i=>rfl
theorem GE.xs(h:GE n T U):∀{l:List aV},j6 n l=true->fo T l=fo U l
 | [],_=>rfl
 | x::r,hx=>by
  simp only[j6,N4]at hx
  simp only[fo,h.x hx.1,h.xs hx.2]
theorem GE.xO(h:GE n T U){x:Option aV}(hx:nm n x=true):wT T x=wT U x:=by
 cases x with
 | none=>rfl
 | some x=>simp only[wT,h.x hx]
theorem GE.xP(h:GE n T U):∀{l:List (Nat×Nat×aV)},qz n l=true->yb T l=yb U l
 | [],_=>rfl
 | (a,b,x)::r,hx=>by
  simp only[qz,N4]at hx
  simp only[yb,h.x hx.1,h.xP hx.2]
theorem Gx(h:GE n T U){o:gZ}(ho:IM n o=true)(H:ab):bG tb T H o=bG tb U H o:=by
 cases o <;> simp only[IM,N4]at ho <;> simp only[bG]
 case mv x=>rw[h.x ho]
 case pick c a b=>rw[h.x ho.1,h.x ho.2.1,h.x ho.2.2]
 case box x=>rw[h.x ho]
 case build z ps=>rw[h.xP ho]
 case buildSl m z ps=>rw[h.xP ho]
 case load a m x=>rw[h.x ho]
 case store m a x=>rw[h.x ho.1,h.x ho.2]
 case nilChk x=>rw[h.x ho]
 case bin op x y=>rw[h.x ho.1,h.x ho.2]
 case un op x=>rw[h.x ho]
 case conv k x=>rw[h.x ho]
 case convSB x=>rw[h.x ho]
 case convBS x=>rw[h.x ho]
 case mkFunc fn a b=>rw[h.xs ho.1,h.xs ho.2]
 case mkIface t x=>rw[h.x ho]
 case mkSlice b z l c=>rw[h.x ho.1,h.x ho.2]
 case sl m x a b c=>rw[h.x ho.1,h.xO ho.2.1,h.xO ho.2.2.1,h.xO ho.2.2.2]
 case slStr x a b=>rw[h.x ho.1,h.xO ho.2.1,h.xO ho.2.2]
 case fieldA o x=>rw[h.x ho]
 case field a m o x=>rw[h.x ho]
 case idxA m x i=>rw[h.x ho.1,h.x ho.2]
 case idxArr m k x i=>rw[h.x ho.1,h.x ho.2]
 case idx m k a x i=>rw[h.x ho.1,h.x ho.2]
 case idxS x i=>rw[h.x ho.1,h.x ho.2]
 case extract i x=>rw[h.x ho]
 case append m b s x=>rw[h.x ho.1,h.x ho.2]
 case len s x=>rw[h.x ho]
 case call f l=>rw[h.xs ho]
 case callv f l=>rw[h.x ho.1,h.xs ho.2]
 case pf f l=>rw[h.xs ho]
 case hf f l=>rw[h.xs ho]
 case slA m k x a b c=>rw[h.x ho.1,h.xO ho.2.1,h.xO ho.2.2.1,h.xO ho.2.2.2]
theorem y5(h:GE n T U){g:Option (Nat×Bool)}(hg:IA n g=true):ga T g=ga U g:=by
 cases g with
 | none=>rfl
 | some p=>
  obtain⟨t,b⟩:=p
  simp only[ga,h.1 (gS t) (d8 hg)]
theorem aO(T:Tr aa)(d t:Nat)(v:aa):ev (T.set d v) (.t t)=if t=d then v else ev T (.t t):=by
 simp only[ev,Tr.get_set]
 split
 ·rename_i u h
  split at h
  ·rename_i e; rw[if_pos e]; simpa using h.symm
  ·rename_i e; rw[if_neg e,h]
 ·rename_i h
  split at h
  ·simp at h
  ·rename_i e; rw[if_neg e,h]
theorem nF(T:Tr aa)(d:Option Nat)(t:Nat)(v:aa):ev (co T d v) (.t t)=if d=some t then v else ev T (.t t):=by
 cases d with
 | none=>simp[co]
 | some d=>
  simp only[co,aO,sJ]
  by_cases e:t=d
  ·rw[if_pos e,if_pos e.symm]
  ·rw[if_neg e,if_neg fun q=>e q.symm]
theorem GE.put(h:GE n T U){d:Option Nat}(hd:du n d=true)(v:aa):GE n (co T d v) (co U d v):=by
 refine⟨fun t ht=>?_,fun t ht=>?_⟩
 ·rw[nF,nF,h.1 t ht]
 ·rw[nF,h.2 t ht,if_neg]
  rintro rfl
  have:=d8 hd
  omega
theorem GE.ghost(h:GE n T U){d:Nat}(hd:n<=d)(v:aa):GE n (T.set d v) U:=
 ⟨fun t ht=>by rw[aO,if_neg om]; exact h.1 t ht,h.2⟩
def kI(n:Nat)(T T':Tr aa):Prop:=∀t,n<=t->ev T' (.t t)=ev T (.t t)
theorem kI.put{d:Option Nat}(hd:du n d=true)(v:aa):kI n T (co T d v):=fun t ht=>by
 rw[nF,if_neg]
 rintro rfl
 have:=d8 hd
 omega
theorem kI.trans{T1 T2:Tr aa}(h:kI n T T1)(k:kI n T1 T2):kI n T T2:=fun t ht=>(k t ht).trans (h t ht)
theorem xD(h:GE n T U){o:ah}(ho:dg n o=true)(H:ab):be tb call o T H=be tb call o U H:=by
 simp only[dg,N4]at ho
 simp only[be,y5 h ho.2.1,Gx h ho.1]
theorem bh(o:ah)(r:List ah)(T:Tr aa)(H:ab):aX tb call (o::r) T H=match be tb call o T H with
  | some (v,H')=>aX tb call r (co T o.dst v) H'
  | none=>none:=by
 simp only[aX,be]
 cases ga T o.guard with
 | false=>rfl
 | true=>
  simp only[cond_true]
  cases bG tb T H o.op with
  | none=>rfl
  | some p=>obtain⟨nx,H'⟩:=p; cases nx <;> rfl
theorem eS:∀(l m:List ah) (T:Tr aa) (H:ab),aX tb call (l++m) T H=match aX tb call l T H with
  | some (T1,H1)=>aX tb call m T1 H1
  | none=>none
 | [],m,T,H=>rfl
 | o::l,m,T,H=>by
  rw[Oj,bh,bh]
  cases be tb call o T H with
  | none=>rfl
  | some p=>obtain⟨v,H1⟩:=p; exact eS l m _ _
theorem tY:∀(l:List ah) {T U:Tr aa} {H:ab},GE n T U->l.all (dg n)=true->cm tb call l T H=cm tb call l U H
 | [],_,_,_,_,_=>rfl
 | o::r,T,U,H,h,hl=>by
  simp only[List.all_cons,N4]at hl
  simp only[cm]
  rw[xD h hl.1]
  cases be tb call o U H with
  | none=>rfl
  | some p=>
   obtain⟨v,H1⟩:=p
   have hd:du n o.dst=true:=by
    have:=hl.1
    simp only[dg,N4]at this
    exact this.2.2
   simp only
   rw[tY r (h.put hd v) hl.2]
theorem tS(hs:List ab):∀(l:List ah) (ps:List (List Nat)) (ss:List (aa×ab)) {T U:Tr aa},GE n T U->l.all (dg n)=true->eL tb hs l ps ss T=eL tb hs l ps ss U
 | [],_,_,_,_,_,_=>rfl
 | o::r,[],_,_,_,_,_=>rfl
 | o::r,p::ps,[],_,_,_,_=>rfl
 | o::r,p::ps,(v,H1)::ss,T,U,h,hl=>by
  simp only[List.all_cons,N4]at hl
  have ho:=hl.1
  simp only[dg,N4]at ho
  simp only[eL,y5 h ho.2.1,Gx h ho.1,tS hs r ps ss (h.put ho.2.2 v) hl.2]
theorem uz(m:Nat->Bool):∀(l:List ah) (i:Nat) (ss:List (aa×ab)) {T U:Tr aa},GE n T U->l.all (dg n)=true->GE n (ba m i l ss T) (ba m i l ss U)/\kI n T (ba m i l ss T)
 | [],_,_,_,_,h,_=>⟨h,fun _ _=>rfl⟩
 | o::r,i,[],_,_,h,_=>⟨h,fun _ _=>rfl⟩
 | o::r,i,(v,H1)::ss,T,U,h,hl=>by
  simp only[List.all_cons,N4]at hl
  have ho:=hl.1
  simp only[dg,N4]at ho
  simp only[ba]
  cases m i with
  | true=>
   obtain⟨q1,q2⟩:=uz m r (i+1) ss (h.put ho.2.2 v) hl.2
   exact⟨q1,(kI.put ho.2.2 v).trans q2⟩
  | false=>exact uz m r (i+1) ss h hl.2
theorem GB{l:List ah}{chk:List (List Nat)}{H H':ab}{e:rY}{T':Tr aa}(h:GE n T U)(hl:l.all (dg n)=true)(hr:kF tb call l chk T H=some (e,T',H')) :
  e=.normal/\∃U',kF tb call l chk U H=some (.normal,U',H')/\GE n T' U'/\kI n T T':=by
 unfold kF at hr ⊢
 rw[tY l h hl]at hr
 cases ht:cm tb call l U H with
 | none=>rw[ht]at hr; simp at hr
 | some ss=>
  rw[ht]at hr
  simp only at hr ⊢
  rw[tS _ l _ ss h hl]at hr
  cases hc:eL tb (H::ss.map (·.2)) l chk ss U with
  | false=>rw[hc]at hr; simp at hr
  | true=>
   rw[hc]at hr
   simp only[cond_true,sJ,pJ]at hr ⊢
   obtain⟨rfl,rfl,rfl⟩:=hr
   obtain⟨q1,q2⟩:=uz (fun _=>true) l 0 ss h hl
   exact⟨rfl,_,⟨trivial,rfl,rfl⟩,q1,q2⟩
theorem rl:∀(l:List ah) (b:Nat),l.all (dg n)=true->(aw b l).all (dg n)=true
 | [],_,_=>rfl
 | o::r,b,hl=>by
  simp only[List.all_cons,N4]at hl
  simp only[aw]
  cases hz:dH o.op with
  | none=>simp only[List.all_cons,hl.1,rl r b hl.2,Bool.and_self]
  | some p=>
   obtain⟨z,s⟩:=p
   have ho:=hl.1
   simp only[dg,N4]at ho
   simp only[List.all_cons,rl r (b+1) hl.2,dg,IM,ho.2.1,ho.2.2,Bool.and_self]
end
end Go.Abs
namespace Go.Abs
def PB:Nat:=1000000
inductive uk where
 | ord (o:ah)
 | pnc (x:aV)
 | dfr (x:aV)
 | tc (f:Nat) (args:List aV) (d:Option Nat) (g:Option (Nat×Bool))
def fu(n:Nat):List uk->List ah->bE
 | [],acc=>.reg acc.reverse
 | .ord o::r,acc=>fu n r (o::acc)
 | .dfr x::r,acc=>fu n r (⟨some (n+1),.pf .dset [.t (n+1),x],none⟩::acc)
 | .pnc x::_,acc=>.seq (.reg (acc.reverse++[⟨some n,.pf .mkP [x],none⟩])) (.exit PB)
 | .tc f args d g::r,acc=>.seq (.reg (acc.reverse++[⟨some (n+3),.call (bN+f) args,g⟩,⟨some (n+2),.pf .isP [.t (n+3)],none⟩]))
   (.seq (.cond (.t (n+2)) (.seq (.reg [⟨some n,.mv (.t (n+3)),none⟩]) (.exit PB)) .skip) (fu n r [⟨d,.mv (.t (n+3)),none⟩]))
section
variable (P:Program) (n:Nat) (ps:List Nat)
def LX(ops:Array Oper)(o:Oper):Option uk:=match dK P n ops o with
 | some a=>bif dg n a then some (.ord a) else none
 | none=>none
def qK(o:Op):Option (Nat×List Operand):=match o with
 | .call c=>match c.callee with
  | .value (.func f)=>bif ps.any (Nat.beq f) then some (f,c.args.toList) else none
  | _=>none
 | _=>none
def JF(ops:Array Oper)(o:Oper):Option uk:=match o.op with
 | .panic x=>match o.guard,bA x with
  | none,some y=>bif cP n y then some (.pnc y) else none
  | _,_=>none
 | .defer c=>match o.guard,o.dst,c.callee with
  | none,none,.value x=>match c.args.toList,bA x with
   | [],some y=>bif cP n y then some (.dfr y) else none
   | _,_=>none
  | _,_,_=>none
 | op=>match qK ps op with
  | some (f,l)=>match di l,gT n ops o.guard with
   | some l,some g=>bif Nat.blt f bN&&(j6 n l&&(IA n g&&du n o.dst)) then some (.tc f l o.dst g) else none
   | _,_=>none
  | none=>LX P n ops o
def rz(ops:Array Oper):List Oper->Option (List uk)
 | []=>some []
 | o::r=>match JF P n ps ops o,rz ops r with
  | some a,some l=>some (a::l)
  | _,_=>none
def wr:Nat->List Oper->Option (Nat×Nat)
 | _,[]=>none
 | j,o::r=>match qK ps o.op,o.dst with
  | some _,some d=>some (j,d)
  | _,_=>wr (j+1) r
def LW(ops:Array Oper)(o:Oper):Option ah:=match qK ps o.op with
 | some (f,l)=>match di l,gT n ops o.guard with
  | some l,some g=>bif Nat.blt f bN&&du n o.dst then some ⟨o.dst,.call (bN+f) l,g⟩ else none
  | _,_=>none
 | none=>none
def LN(d:Nat)(a:ah):Option ah:=match a.guard,dH a.op with
 | none,none=>some ⟨a.dst,a.op,some (SK+d,false)⟩
 | _,_=>none
def KL(ops:Array Oper)(ms:List Nat)(c d:Nat)(j:Nat)(o:Oper):Option ah:=
 bif Nat.beq j c then LW n ps ops o else match dK P n ops o with
  | some a=>bif iL ms j c then LN d a else some a
  | none=>none
def xj(ops:Array Oper)(ms:List Nat)(c d:Nat):Nat->List Oper->Option (List ah)
 | _,[]=>some []
 | j,o::r=>match KL P n ps ops ms c d j o,xj ops ms c d (j+1) r with
  | some a,some l=>some (a::l)
  | _,_=>none
def wy(c d:Nat):Nat->List ah->Bool
 | _,[]=>true
 | k,a::r=>(Nat.beq k c||!(a.dst==some d))&&wy c d (k+1) r
def rv(ops:Array Oper)(rest:List Oper):Option (List ah×Option (Nat×Nat)):=match cx P n ops rest with
 | some l=>some (l,none)
 | none=>none
def Bp(ops:Array Oper)(rest:List Oper):Option (List ah×Option (Nat×Nat)):=match wr ps 0 rest with
 | some (c,d)=>match xj P n ps ops (aT [] (ops.toList.map aS)) c d 0 rest with
  | some l=>bif wy c d 0 l then some (l,some (c,d)) else rv P n ops rest
  | none=>rv P n ops rest
 | none=>rv P n ops rest
def FU(ops:Array Oper):Option bE:=match Bp P n ps ops ops.toList with
 | some (l,d)=>bif fD (ops.toList.map aS) (aT [] (ops.toList.map aS))&&dT (aw 0 l) (aT [] (ops.toList.map aS))&&l.all (dg n) then
   (match d with
    | none => some (.draw l ((List.range l.length).map (dV (aw 0 l) (aT [] (ops.toList.map aS)))))
    | some (_, d) => some (.seq (.draw l ((List.range l.length).map (dV (aw 0 l) (aT [] (ops.toList.map aS)))))
     (.seq (.reg [⟨some (n+2),.pf .isP [.t d],none⟩]) (.cond (.t (n+2)) (.seq (.reg [⟨some (n+2),.pf .isU [.t (n+1)],none⟩]) (.cond (.t (n+2)) (.seq (.reg [⟨some n,.mv (.t d),none⟩]) (.exit PB)) fy)) .skip))))
  else some fy
 | none=>none
def dE:Code->Option bE
 | .skip=>some .skip
 | .region _ ops false=>match rz P n ps ops ops.toList with
  | some its=>some (fu n its [])
  | none=>none
 | .region _ ops true=>FU P n ps ops
 | .seq a b=>match dE a,dE b with
  | some a,some b=>some (.seq a b)
  | _,_=>none
 | .cond c a b=>match bA c,dE a,dE b with
  | some c,some a,some b=>bif cP n c then some (.cond c a b) else none
  | _,_,_=>none
 | .block id c=>match dE c with
  | some c=>bif Nat.beq id PB then none else some (.block id c)
  | none=>none
 | .loop c=>match dE c with
  | some c=>some (.loop c)
  | none=>none
 | .exit id=>bif Nat.beq id PB then none else some (.exit id)
 | .ret=>some (.exit PB)
 | _=>some fy
end
section
variable {tb:FuncId->Bool} {call:FuncId->List aa->ab->Option (aa×ab)} {k:Nat}
theorem fG(n:Nat):∀(its:List uk) (acc:List ah) (T:Tr aa) (H:ab),aH tb call k (fu n its acc) T H=match aX tb call acc.reverse T H with
  | some (T1,H1)=>aH tb call k (fu n its []) T1 H1
  | none=>none
 | [],acc,T,H=>by
  simp only[fu,aH,List.reverse_nil,aX] <;> (cases aX tb call acc.reverse T H <;> rfl)
 | .ord o::r,acc,T,H=>by
  simp only[fu]
  rw[fG n r (o::acc),List.reverse_cons,eS]
  cases aX tb call acc.reverse T H with
  | none=>rfl
  | some p=>
   obtain⟨T1,H1⟩:=p
   simp only
   rw[fG n r [o] T1 H1]
   rfl
 | .dfr x::r,acc,T,H=>by
  simp only[fu]
  rw[fG n r (_::acc),List.reverse_cons,eS]
  cases aX tb call acc.reverse T H with
  | none=>rfl
  | some p=>
   obtain⟨T1,H1⟩:=p
   simp only
   rw[fG n r [_] T1 H1]
   rfl
 | .pnc x::r,acc,T,H=>by
  simp only[fu,aH,eS,List.reverse_nil,List.nil_append]
  cases aX tb call acc.reverse T H with
  | none=>rfl
  | some p=>rfl
 | .tc f l d g::r,acc,T,H=>by
  simp only[fu,aH,eS,List.reverse_nil,List.nil_append]
  cases aX tb call acc.reverse T H with
  | none=>rfl
  | some p=>rfl
end
section
variable {P:Program} {Prot:Gh} {w0:World} {ρ:Pl} {H H':ab} {w:World}
def Mn(ρ:Pl)(x:aa)(ds:List Deferred):Prop:=(x=aN/\ds=[]) ∨
 ∃f a b d cap,x=.func (.func f) a b/\ds=[d]/\d.target=.fn (.func f) cap/\aj ρ b cap.toList/\aj ρ a d.args.toList
theorem Mn.mono{ρ ρ':Pl}(h:ρ.le ρ'){x:aa}{ds:List Deferred}(d:Mn ρ x ds):Mn ρ' x ds:=by
 rcases d with d | ⟨f,a,b,d,cap,h1,h2,h3,h4,h5⟩
 ·exact .inl d
 ·exact .inr ⟨f,a,b,d,cap,h1,h2,h3,aj.mono h _ _ h4,aj.mono h _ _ h5⟩
structure GT(ρ:Pl)(n:Nat)(T:Tr aa)(a:Act):Prop where
 t:∃U,GE n T U/\aW ρ n U a.tmps
 d:Mn ρ (ev T (.t (n+1))) a.defers
theorem GT.mono{ρ ρ':Pl}(h:ρ.le ρ'){n:Nat}{T:Tr aa}{a:Act}(g:GT ρ n T a):GT ρ' n T a:=
 ⟨let ⟨U,h1,h2⟩:=g.t; ⟨U,h1,h2.mono h⟩,g.d.mono h⟩
theorem GT.ghost{n:Nat}{T:Tr aa}{a:Act}(g:GT ρ n T a){d:Nat}(hd:n<=d)(hne:d≠n+1)(v:aa):GT ρ n (T.set d v) a:=
 ⟨let ⟨U,h1,h2⟩:=g.t; ⟨U,h1.ghost hd v,h2⟩,by rw[aO,if_neg (fun e=>hne e.symm)]; exact g.d⟩
def pL(ρ:Pl)(n:Nat)(T:Tr aa)(a:Act):Prop:=GT ρ n T a/\ev T (.t n)=aN
def Ld(ρ:Pl)(n:Nat)(T:Tr aa)(a:Act)(u:Value):Prop:=∃x,ev T (.t n)=j5 x/\ae ρ x u/\((a.defers=[]/\ev T (.t (n+1))=aN)∨GT ρ n T a)
def Dh(Prot:Gh)(w0:World)(ρ:Pl)(n:Nat)(e:rY)(T:Tr aa)(H:ab):Exit->Act->World->Prop:=fun e' a w=>
 ∃ρ',ρ.le ρ'/\bv Prot w0 ρ' H w/\match e with
  | .normal=>e'=.normal/\pL ρ' n T a
  | .exit id=>(id≠PB/\e'=.exit id/\pL ρ' n T a)∨(id=PB/\((e'=.ret/\pL ρ' n T a)∨∃u,e'=.panic [{ v:=u,recovered:=false }]/\Ld ρ' n T a u))
  | .ret=>False
theorem Dh.weaken{ρ ρ':Pl}{n:Nat}{e:rY}{T:Tr aa}{H:ab}(h:ρ.le ρ'){e':Exit}{a:Act}{w:World}(q:Dh Prot w0 ρ' n e T H e' a w):Dh Prot w0 ρ n e T H e' a w:=by
 obtain⟨ρ2,h2,h3⟩:=q
 exact⟨ρ2,Pl.le_trans h h2,h3⟩
theorem Dv{x:aa}(h:ae ρ x undef):x=aN:=by
 unfold undef at h
 cases x with
 | tuple l=>
  simp only[ae]at h
  obtain⟨vs,e,hv⟩:=h
  simp only[Value.tuple.injEq]at e
  subst e
  cases l with
  | nil=>rfl
  | cons y l=>simp[aj]at hv
 | ptr a=>cases a <;> simp[ae]at h
 | slice a m r => cases a <;> simp only [ae] at h
                  · simp at h
                  · obtain ⟨_, _, _, _, _, h3, _⟩ := cr (by simpa only [ae] using h); simp at h3
 | map a=>cases a <;> simp[ae]at h
 | val v=>simp only[ae]at h; rw[<- h.1]at h; simp[Ll,Value.oneCell']at h
 | _=>simp[ae]at h
theorem Fh{x:aa}{v:Value}(h:ae ρ x v):fg x=false:=by
 cases hb:fg x with
 | false=>rfl
 | true=>obtain⟨y,e⟩:=mA hb; exact (yH h e).elim
end
end Go.Abs
namespace Go.Abs
section
variable {P:Program} {Prot:Gh} {w0:World} {ρ:Pl} {H H':ab} {w:World}
theorem Eh{f:Nat}{args:Array Operand}{ats:Array TypeId}{o:Oper}(hoe:o.op=.call ⟨.value (.func f),args,ats⟩)(hb:bq P f=true)(a:Act):(execOp a.eval o).run P w=.ok (.enter f (args.map a.eval)) w:=by
 have:=eR (P:=P) (w:=w) hb (args.map a.eval)
 obtain⟨dst,op,type,pos,after,guard⟩:=o
 simp only at hoe
 subst hoe
 simp[execOp,resolve,Act.eval,Deferred.ofValue,invoke,this]
theorem tj{ps:List Nat}{o:Op}{f:Nat}{l:List Operand}(h:qK ps o=some (f,l)):∃args ats,o=.call ⟨.value (.func f),args,ats⟩/\l=args.toList:=by
 unfold qK at h
 split at h
 ·rename_i c
  split at h
  ·rename_i g hg
   obtain⟨cal,args,ats⟩:=c
   simp only at hg
   subst hg
   cases hp:ps.any (Nat.beq g) with
   | false=>rw[hp]at h; simp at h
   | true=>
    rw[hp]at h
    simp only[cond_true,sJ,pJ]at h
    obtain⟨rfl,rfl⟩:=h
    exact⟨args,ats,rfl,rfl⟩
  ·simp at h
 ·simp at h
theorem yC(a:Act)(d:Option Nat)(v:Value):(a.put d v).defers=a.defers:=by cases d <;> rfl
theorem GT.put{n:Nat}{T:Tr aa}{a:Act}(g:GT ρ n T a){d:Option Nat}(hd:du n d=true){x:aa}{v:Value}(hv:ae ρ x v):GT ρ n (co T d x) (a.put d v):=by
 obtain⟨U,h1,h2⟩:=g.t
 refine⟨⟨co U d x,h1.put hd x,bH h2 hd hv⟩,?_⟩
 rw[yC,kI.put hd x (n+1) om]
 exact g.d
theorem pL.put{n:Nat}{T:Tr aa}{a:Act}(g:pL ρ n T a){d:Option Nat}(hd:du n d=true){x:aa}{v:Value}(hv:ae ρ x v):pL ρ n (co T d x) (a.put d v):=
 ⟨g.1.put hd hv,by rw[kI.put hd x n rL]; exact g.2⟩
theorem pL.mono{ρ ρ':Pl}(h:ρ.le ρ'){n:Nat}{T:Tr aa}{a:Act}(g:pL ρ n T a):pL ρ' n T a:=⟨g.1.mono h,g.2⟩
theorem pL.ghost{n:Nat}{T:Tr aa}{a:Act}(g:pL ρ n T a){d:Nat}(hd:n+2<=d)(v:aa):pL ρ n (T.set d v) a:=
 ⟨g.1.ghost om om v,by rw[aO,if_neg om]; exact g.2⟩
theorem bL{tb:FuncId->Bool}{call:FuncId->List aa->ab->Option (aa×ab)}(d:Option Nat)(op:gZ)(T:Tr aa)(H:ab):be tb call ⟨d,op,none⟩ T H=match bG tb T H op with
  | some (.val v,H')=>some (v,H')
  | some (.enter f args,H')=>call f args H'
  | none=>none:=rfl
theorem oE{tb:FuncId->Bool}{call:FuncId->List aa->ab->Option (aa×ab)}{o:ah}{T T':Tr aa}{H H':ab}(h:aX tb call [o] T H=some (T',H')):∃v,be tb call o T H=some (v,H')/\T'=co T o.dst v:=by
 rw[bh]at h
 cases hs:be tb call o T H with
 | none=>rw[hs]at h; simp at h
 | some p=>
  obtain⟨v,H1⟩:=p
  rw[hs]at h
  simp only[aX,sJ,pJ]at h
  obtain⟨rfl,rfl⟩:=h
  exact⟨v,rfl,rfl⟩
theorem HS{tb:FuncId->Bool}(htb:∀f,Nat.blt f bN=true->tb f=true->bq P f=true){call:FuncId->List aa->ab->Option (aa×ab)}(hcall:gX P call){n:Nat}{ops:Array Oper}{o:Oper}{ao:ah}
  (hco:dK P n ops o=some ao) (haT:dg n ao=true) {ρ0:Pl} {T:Tr aa} {a:Act} (hle:ρ0.le ρ) (R:bv Prot w0 ρ H w) (hP:pL ρ n T a) {v:aa} {H1:ab} (hs:be tb call ao T H=some (v,H1)) {rest:List Nat} {Q:Exit->Act->World->Prop} {i:Nat} (ho:ops[i]?=some o)
  (hnext:∀(ρ1:Pl) (a':Act) (w':World),ρ0.le ρ1->bv Prot w0 ρ1 H1 w'->pL ρ1 n (co T ao.dst v) a'->wpOps P ops Q rest a' w'):wpOps P ops Q (i::rest) a w:=by
 obtain⟨U,hG,ht⟩:=hP.1.t
 rw[xD hG haT]at hs
 unfold dK at hco
 split at hco
 ·rename_i ax g hop hg
  cases hdst:du n o.dst with
  | false=>rw[hdst]at hco; simp at hco
  | true=>
   rw[hdst]at hco
   simp only[cond_true,sJ]at hco
   subst hco
   simp only[wpOps,ho]
   simp only[be]at hs
   rw[fh ht hg]
   cases hgo:ga U g with
   | false=>
    rw[hgo]at hs
    simp only[cond_false,sJ,pJ]at hs
    obtain⟨rfl,rfl⟩:=hs
    simp only[Oc,if_false]
    exact hnext ρ _ w hle R (hP.put hdst dM)
   | true=>
    rw[hgo]at hs
    simp only[cond_true]at hs
    simp only[if_true]
    left
    split at hs
    ·rename_i v' H2 hv
     simp only[sJ,pJ]at hs
     obtain⟨rfl,rfl⟩:=hs
     obtain⟨ρ1,w1,nx,q1,q2,q3,q4⟩:=iF htb R ht o hop hv
     simp only[Oper.wp,q2]
     cases nx <;> simp only[jm]at q4
     case value u=>exact hnext ρ1 _ w1 (Pl.le_trans hle q1) q3 ((hP.mono q1).put hdst q4)
     case skip=>exact hnext ρ1 _ w1 (Pl.le_trans hle q1) q3 ((hP.mono q1).put hdst q4)
    ·rename_i f args H2 hv
     obtain⟨ρ1,w1,nx,q1,q2,q3,q4⟩:=iF htb R ht o hop hv
     simp only[Oper.wp,q2]
     cases nx <;> simp only[jm]at q4
     case enter g vs=>
      obtain⟨rfl,hbig,q5⟩:=q4
      simp only[Oper.upon]
      refine (hcall _ _ _ _ _ hbig hs Prot w0 ρ1 w1 vs q3 q5).mono fun e w' hr=>?_
      obtain⟨ρ2,u,r1,rfl,r3,r4⟩:=hr
      exact hnext ρ2 _ w' (Pl.le_trans hle (Pl.le_trans q1 r1)) r3 ((hP.mono (Pl.le_trans q1 r1)).put hdst r4)
    ·simp at hs
 ·simp at hco
theorem CE{tb:FuncId->Bool}(htb:∀f,Nat.blt f bN=true->tb f=true->bq P f=true)(htbP:∀f,Nat.blt f bN=true->tb (bN+f)=true->bq P f=true){call:FuncId->List aa->ab->Option (aa×ab)}(hcall:gX P call)(hcallP:xW P call)
  {n k:Nat} {ps:List Nat} {ops:Array Oper}:∀(rest:List Oper) (i:Nat) (its:List uk),(∀j,rest[j]?=ops[i+j]?)->rz P n ps ops rest=some its->∀(ρ0 ρ:Pl) (T T':Tr aa) (H H':ab) (e:rY) (a:Act) (w:World),ρ0.le ρ ->
   bv Prot w0 ρ H w->pL ρ n T a->aH tb call k (fu n its []) T H=some (e,T',H')->wpOps P ops (Dh Prot w0 ρ0 n e T' H') (List.range' i rest.length) a w:=by
 intro rest
 induction rest with
 | nil=>
  intro i its _ hc ρ0 ρ T T' H H' e a w hle R hP h
  simp only[rz,sJ]at hc
  subst hc
  simp only[fu,aH,List.reverse_nil,aX,sJ,pJ]at h
  obtain⟨rfl,rfl,rfl⟩:=h
  exact⟨ρ,hle,R,rfl,hP⟩
 | cons o rest ih=>
  intro i its hi hc ρ0 ρ T T' H H' e a w hle R hP h
  simp only[rz]at hc
  split at hc
  ·rename_i it l' ha hl
   simp only[sJ]at hc
   subst hc
   have ho:ops[i]?=some o:=by have:=hi 0; simpa using this.symm
   have hnx:∀j,rest[j]?=ops[i+1+j]?:=fun j=>by have:=hi (j+1); simp only[Ob]at this; rw[this]; congr 1; omega
   rw[N5,List.range'_succ]
   unfold JF at ha
   split at ha
   ·-- a panic
    rename_i x hox
    split at ha
    ·rename_i y hg hy
     cases hT:cP n y with
     | false=>rw[hT]at ha; simp at ha
     | true=>
      rw[hT]at ha
      simp only[cond_true,sJ]at ha
      subst ha
      simp only[fu,aH,List.reverse_nil,List.nil_append]at h
      split at h
      ·rename_i T1 H1 h1
       split at h1
       ·rename_i T2 H2 h2
        simp only[sJ,pJ]at h1
        obtain⟨_,rfl,rfl⟩:=h1
        simp only[sJ,pJ]at h
        obtain⟨rfl,rfl,rfl⟩:=h
        obtain⟨v,hs,rfl⟩:=oE h2
        obtain⟨U,hG,ht⟩:=hP.1.t
        rw[bL]at hs
        simp only[bG,fo,jJ,vv]at hs
        have hx:=az ht hy
        rw[<- hG.x hT]at hx
        generalize ev T y=q at hs hx
        unfold L6 at hs
        split at hs
        ·rename_i v' H3 hv
         split at hv
         ·rename_i v2 hv2
          split at hv2
          ·rename_i t z heq
           simp only[List.cons.injEq,and_true]at heq
           subst heq
           simp only[sJ]at hv2
           subst hv2
           simp only[sJ,pJ,Nx.val.injEq]at hv hs
           obtain⟨rfl,rfl⟩:=hv
           obtain⟨rfl,rfl⟩:=hs
           simp only[wpOps,ho]
           have hw:Region.wanted o (yielded ops a.tmps)=true:=by simp[Region.wanted,hg]
           rw[if_pos hw]
           left
           have hx':=hx
           simp only[ae]at hx'
           obtain⟨yv,e1,e2⟩:=hx'
           have hrun:(execOp a.eval o).run P w=.halt (.panic (.iface t yv)) w:=by
            obtain⟨dst,op,type,pos,after,guard⟩:=o
            simp only at hox
            subst hox
            show (do pure (Next.value (<- Instr.panic (a.eval x))):Sem Next).run P w=_
            rw[e1]
            rfl
           simp only[Oper.wp,hrun,Oper.upon]
           refine⟨ρ,hle,R,.inr ⟨rfl,.inr ⟨_,rfl,.iface t z,?_,?_,.inr ?_⟩⟩⟩
           ·simp only[co,aO,if_true]
           ·rw[<- e1]; exact hx
           ·exact hP.1.ghost rL om _
          ·simp at hv2
         ·simp at hv
        ·rename_i f args H3 hv
         split at hv <;> simp at hv
        ·simp at hs
       ·simp at h1
      ·rename_i e1 T1 H1 hne h1
       split at h1
       ·simp only[sJ,pJ]at h1
        exact (hne h1.1.symm).elim
       ·simp at h1
      ·simp at h
    ·simp at ha
   ·-- a call laid kD
    rename_i c hox
    split at ha
    ·rename_i x hg hd hcal
     split at ha
     ·rename_i y hargs hy
      cases hT:cP n y with
      | false=>rw[hT]at ha; simp at ha
      | true=>
       rw[hT]at ha
       simp only[cond_true,sJ]at ha
       subst ha
       simp only[fu]at h
       rw[fG]at h
       split at h
       ·rename_i T1 H1 h1
        simp only[List.reverse_cons,List.reverse_nil,List.nil_append]at h1
        obtain⟨v,hs,rfl⟩:=oE h1
        obtain⟨U,hG,ht⟩:=hP.1.t
        rw[bL]at hs
        simp only[bG,fo,jJ,vv]at hs
        have hx:=az ht hy
        rw[<- hG.x hT]at hx
        have hdf:=hP.1.d
        generalize ev T (.t (n+1))=z at hs hdf
        generalize ev T y=q at hs hx
        unfold JT at hs
        split at hs
        ·rename_i v' H3 hv
         split at hv
         ·rename_i v2 hv2
          split at hv2
          ·rename_i f fa fb heq
           simp only[List.cons.injEq,and_true]at heq
           obtain⟨rfl,rfl⟩:=heq
           simp only[sJ]at hv2
           subst hv2
           simp only[sJ,pJ,Nx.val.injEq]at hv hs
           obtain⟨rfl,rfl⟩:=hv
           obtain⟨rfl,rfl⟩:=hs
           have hds:a.defers=[]:=by
            rcases hdf with⟨_,h9⟩ | ⟨f',a',b',d',cap',h9,_⟩
            ·exact h9
            ·simp at h9
           simp only[wpOps,ho]
           have hw:Region.wanted o (yielded ops a.tmps)=true:=by simp[Region.wanted,hg]
           rw[if_pos hw]
           left
           simp only[ae]at hx
           obtain⟨fv,cv,hfv,hv1,hv2⟩:=hx
           have hrun:(execOp a.eval o).run P w=.ok (.defer { target:=.fn (.func f) cv,args:=fv }) w:=by
            obtain⟨dst,op,type,pos,after,guard⟩:=o
            obtain⟨cal,args,ats⟩:=c
            simp only at hox hcal hargs hd
            subst hox hcal hd
            have:args=#[]:=by simpa using hargs
            subst this
            simp[execOp,resolve,hfv,Deferred.ofValue]
           simp only[Oper.wp,hrun,Oper.upon,hd]
           refine ih (i+1) l' hnx hl ρ0 ρ _ _ _ _ _ _ _ hle R ⟨⟨⟨U,hG.ghost om _,ht⟩,?_⟩,?_⟩ h
           ·simp only[co,aO,if_true,Act.put,hds]
            exact .inr ⟨f,fa,fb,_,cv,rfl,rfl,rfl,hv2,hv1⟩
           ·simp only[co,aO]
            rw[if_neg om]
            exact hP.2
          ·simp at hv2
         ·simp at hv
        ·rename_i f args H3 hv
         split at hv <;> simp at hv
        ·simp at hs
       ·simp at h
     ·simp at ha
    ·simp at ha
   ·-- a call that may panic,or whatever is ordinary
    split at ha
    ·rename_i f lo hraw
     obtain⟨args,ats,hoe,rfl⟩:=tj hraw
     split at ha
     ·rename_i lx g hlx hgc
      cases hcnd:Nat.blt f bN&&(j6 n lx&&(IA n g&&du n o.dst)) with
      | false=>rw[hcnd]at ha; simp at ha
      | true=>
       rw[hcnd]at ha
       simp only[cond_true,sJ]at ha
       subst ha
       simp only[N4]at hcnd
       obtain⟨hbig,hlT,hgT,hdst⟩:=hcnd
       obtain⟨U,hG,ht⟩:=hP.1.t
       have key:∃(v:aa) (H1:ab),be tb call ⟨some (n+3),.call (bN+f) lx,g⟩ T H=some (v,H1) /\
         ((fg v = true /\ e = .exit PB /\ T' = (((T.set (n + 3) v).set (n + 2) (.bool true)).set n v) /\ H' = H1) ∨
          (fg v = false /\ aH tb call k (fu n l' []) (co ((T.set (n + 3) v).set (n + 2) (.bool false)) o.dst v) H1 = some (e, T', H'))) := by
        simp only[fu,aH,List.reverse_nil,List.nil_append]at h
        rw[bh]at h
        cases hs:be tb call ⟨some (n+3),.call (bN+f) lx,g⟩ T H with
        | none=>rw[hs]at h; simp at h
        | some p=>
         obtain⟨v,H1⟩:=p
         rw[hs]at h
         refine⟨v,H1,rfl,?_⟩
         simp only[co]at h
         rw[bh,bL]at h
         have e3:ev (T.set (n+3) v) (.t (n+3))=v:=by rw[aO,if_pos rfl]
         simp only[bG,fo,jJ,vv,KX,e3,aX,co]at h
         have e2:ev ((T.set (n+3) v).set (n+2) (.bool (fg v))) (.t (n+2))=.bool (fg v):=by rw[aO,if_pos rfl]
         have e33:ev ((T.set (n+3) v).set (n+2) (.bool (fg v))) (.t (n+3))=v:=by rw[aO,if_neg om,aO,if_pos rfl]
         rw[e2]at h
         cases hp:fg v with
         | true=>
          rw[hp]at h e33
          simp only[ga,cond_true,e33,sJ,pJ]at h
          obtain⟨rfl,rfl,rfl⟩:=h
          exact .inl ⟨rfl,rfl,rfl,rfl⟩
         | false=>
          rw[hp]at h e33
          simp only at h
          rw[fG]at h
          simp only[List.reverse_cons,List.reverse_nil,List.nil_append]at h
          rw[bh,bL]at h
          simp only[bG,e33,aX]at h
          exact .inr ⟨rfl,h⟩
       obtain⟨v,H1,hs,hk⟩:=key
       simp only[wpOps,ho]
       rw[fh ht hgc]
       simp only[be,y5 hG hgT]at hs
       have hgg:∀(ρ':Pl),ρ.le ρ'->∀b,pL ρ' n ((T.set (n+3) v).set (n+2) b) a:=fun ρ' hl b=>((hP.mono hl).ghost om v).ghost rL b
       cases hgo:ga U g with
       | false=>
        rw[hgo]at hs
        simp only[cond_false,sJ,pJ]at hs
        obtain⟨rfl,rfl⟩:=hs
        simp only[Oc,if_false]
        rcases hk with⟨hp,_⟩ | ⟨_,hk⟩
        ·simp[fg,aN]at hp
        ·exact ih (i+1) l' hnx hl ρ0 ρ _ _ _ _ _ _ w hle R ((hgg ρ (Pl.le_refl _) _).put hdst dM) hk
       | true=>
        rw[hgo]at hs
        simp only[cond_true]at hs
        simp only[if_true]
        left
        simp only[bG]at hs
        cases hb:tb (bN+f) with
        | false=>rw[hb]at hs; simp at hs
        | true=>
         rw[hb]at hs
         simp only[cond_true]at hs
         rw[hG.xs hlT]at hs
         simp only[Oper.wp,Eh hoe (htbP f hbig hb) a,Oper.upon]
         refine (hcallP f _ _ _ _ hbig hs Prot w0 ρ w (args.map a.eval) R (by simpa using fJ ht hlx)).mono fun e' w' hr=>?_
         obtain⟨ρ2,r1,r3,⟨u,rfl,r4⟩ | ⟨x,u,rfl,rfl,r4⟩⟩:=hr
         ·rcases hk with⟨hp,_⟩ | ⟨_,hk⟩
          ·rw[Fh r4]at hp; simp at hp
          ·exact ih (i+1) l' hnx hl ρ0 ρ2 _ _ _ _ _ _ w' (Pl.le_trans hle r1) r3 ((hgg ρ2 r1 _).put hdst r4) hk
         ·rcases hk with⟨_,rfl,rfl,rfl⟩ | ⟨hp,_⟩
          ·refine⟨ρ2,Pl.le_trans hle r1,r3,.inr ⟨rfl,.inr ⟨u,rfl,x,by rw[aO,if_pos rfl],r4,.inr ?_⟩⟩⟩
           exact (hgg ρ2 r1 _).1.ghost rL om _
          ·simp[fg,j5]at hp
     ·simp at ha
    ·unfold LX at ha
     split at ha
     ·rename_i ao hco
      cases haT:dg n ao with
      | false=>rw[haT]at ha; simp at ha
      | true=>
       rw[haT]at ha
       simp only[cond_true,sJ]at ha
       subst ha
       simp only[fu]at h
       rw[fG]at h
       split at h
       ·rename_i T1 H1 h1
        simp only[List.reverse_cons,List.reverse_nil,List.nil_append]at h1
        obtain⟨v,hs,rfl⟩:=oE h1
        exact HS htb hcall hco haT hle R hP hs ho fun ρ1 a' w' q1 q2 q3=>ih (i+1) l' hnx hl ρ0 ρ1 _ _ _ _ _ a' w' q1 q2 q3 h
       ·simp at h
     ·simp at ha
  ·simp at hc
end
end Go.Abs
namespace Go.Abs
section
variable {P:Program} {n:Nat} {ps:List Nat} {ops:Array Oper}
def NX(P:Program)(n:Nat)(ops:Array Oper)(c d:Nat)(j:Nat)(o:Oper)(a:ah):Prop:=
 (j=c/\BZ P n ops o a)∨(j≠c/\iL (aT [] (ops.toList.map aS)) j c=false/\dK P n ops o=some a)∨(j≠c/\iL (aT [] (ops.toList.map aS)) j c=true/\∃a',dK P n ops o=some a'/\a'.guard=none/\dH a'.op=none/\a=⟨a'.dst,a'.op,some (SK+d,false)⟩)
theorem CY{c d j:Nat}{o:Oper}{a:ah}(h:KL P n ps ops (aT [] (ops.toList.map aS)) c d j o=some a):NX P n ops c d j o a/\a.dst=o.dst:=by
 have hdst:∀{a},dK P n ops o=some a->a.dst=o.dst:=by
  intro a h
  unfold dK at h
  split at h
  ·cases hd:du n o.dst with
   | false=>rw[hd]at h; simp at h
   | true=>rw[hd]at h; simp only[cond_true,sJ]at h; subst h; rfl
  ·simp at h
 unfold KL at h
 cases hb:Nat.beq j c with
 | true=>
  rw[hb]at h
  simp only[cond_true,LW]at h
  split at h
  ·rename_i f lo hraw
   obtain⟨args,ats,hoe,rfl⟩:=tj hraw
   split at h
   ·rename_i lx g hlx hg
    cases hc:Nat.blt f bN&&du n o.dst with
    | false=>rw[hc]at h; simp at h
    | true=>
     rw[hc]at h
     simp only[cond_true,sJ]at h
     subst h
     simp only[N4]at hc
     exact⟨.inl ⟨N8 hb,f,args,ats,lx,g,hoe,hlx,hg,hc.2,hc.1,rfl⟩,rfl⟩
   ·simp at h
  ·simp at h
 | false=>
  have hne:j≠c:=fun e=>by subst e; rw[Nat.beq_refl]at hb; simp at hb
  rw[hb]at h
  simp only[cond_false]at h
  split at h
  ·rename_i a' ha'
   cases hbt:iL (aT [] (ops.toList.map aS)) j c with
   | false=>rw[hbt]at h; simp only[cond_false,sJ]at h; subst h; exact⟨.inr (.inl ⟨hne,hbt,ha'⟩),hdst ha'⟩
   | true=>
    rw[hbt]at h
    simp only[cond_true,LN]at h
    split at h
    ·rename_i hg hnw
     simp only[sJ]at h
     subst h
     exact⟨.inr (.inr ⟨hne,hbt,a',ha',hg,hnw,rfl⟩),(hdst ha':a'.dst=o.dst)⟩
    ·simp at h
  ·simp at h
theorem zL{c d:Nat}:∀{rest:List Oper} {l:List ah} {j:Nat},xj P n ps ops (aT [] (ops.toList.map aS)) c d j rest=some l->l.length=rest.length/\∀k o,rest[k]?=some o->∃a,l[k]?=some a/\NX P n ops c d (j+k) o a/\a.dst=o.dst:=by
 intro rest
 induction rest with
 | nil=>intro l j h; simp only[xj,sJ]at h; subst h; exact⟨rfl,fun k o h=>by simp at h⟩
 | cons o r ih=>
  intro l j h
  simp only[xj]at h
  split at h
  ·rename_i a l' ha hl
   simp only[sJ]at h
   subst h
   obtain⟨q1,q2⟩:=ih hl
   refine⟨by simp[q1],fun k o' hk=>?_⟩
   cases k with
   | zero=>
    simp only[Oa,sJ]at hk
    subst hk
    exact⟨a,rfl,by rw[Nat.add_zero]; exact CY ha⟩
   | succ k=>
    simp only[Ob]at hk ⊢
    obtain⟨a',z1,z2⟩:=q2 k o' hk
    exact⟨a',z1,by rw[show j+(k+1)=j+1+k by omega]; exact z2⟩
  ·simp at h
theorem yI{c d:Nat}:∀{l:List ah} {k:Nat},wy c d k l=true->∀i b,l[i]?=some b->b.dst=some d->k+i=c:=by
 intro l
 induction l with
 | nil=>intro k _ i b h; simp at h
 | cons a r ih=>
  intro k h i b hb hd
  simp only[wy,N4,Bool.or_eq_true,Bool.not_eq_true',beq_eq_false_iff_ne,ne_eq]at h
  cases i with
  | zero=>
   simp only[Oa,sJ]at hb
   subst hb
   rcases h.1 with h1 | h1
   ·exact N8 h1
   ·exact absurd hd h1
  | succ i=>
   simp only[Ob]at hb
   have:=ih h.2 i b hb hd
   omega
theorem yB{c d:Nat}:∀{rest:List Oper} {j:Nat},wr ps j rest=some (c,d)->∃k o,c=j+k/\rest[k]?=some o/\o.dst=some d:=by
 intro rest
 induction rest with
 | nil=>intro j h; simp[wr]at h
 | cons o r ih=>
  intro j h
  simp only[wr]at h
  split at h
  ·rename_i d' _ hd
   simp only[sJ,pJ]at h
   obtain⟨rfl,rfl⟩:=h
   exact⟨0,o,rfl,rfl,hd⟩
  ·obtain⟨k,o',h1,h2,h3⟩:=ih h
   exact⟨k+1,o',om,by simpa using h2,h3⟩
theorem gR{rest:List Oper}{l:List ah}{st:Option (Nat×Nat)}(h:Bp P n ps ops rest=some (l,st)):(st=none/\cx P n ops rest=some l) ∨
  ∃c d ac,st=some (c,d)/\l.length=rest.length/\(∀k o,rest[k]?=some o->∃a,l[k]?=some a/\NX P n ops c d k o a)/\l[c]?=some ac/\ac.dst=some d/\(∀i b,l[i]?=some b->b.dst=some d->i=c):=by
 have hp:rv P n ops rest=some (l,st)->st=none/\cx P n ops rest=some l:=by
  intro h
  unfold rv at h
  split at h
  ·rename_i l' hl
   simp only[sJ,pJ]at h
   obtain⟨rfl,rfl⟩:=h
   exact⟨rfl,hl⟩
  ·simp at h
 unfold Bp at h
 split at h
 ·rename_i c d hr
  split at h
  ·rename_i l' hl
   cases hw:wy c d 0 l' with
   | false=>rw[hw]at h; exact .inl (hp h)
   | true=>
    rw[hw]at h
    simp only[cond_true,sJ,pJ]at h
    obtain⟨rfl,rfl⟩:=h
    obtain⟨q1,q2⟩:=zL hl
    obtain⟨k,o,hc,ho,hd⟩:=yB hr
    rw[Nat.zero_add]at hc
    subst hc
    obtain⟨ac,z1,_,z2⟩:=q2 c o ho
    exact .inr ⟨c,d,ac,rfl,q1,fun k o hk=>by have:=q2 k o hk; rw[Nat.zero_add]at this; obtain⟨a,y1,y2,_⟩:=this; exact⟨a,y1,y2⟩,z1,by rw[z2]; exact hd,fun i b hb hbd=>by have:=yI hw i b hb hbd; omega⟩
  ·exact .inl (hp h)
 ·exact .inl (hp h)
theorem jB:∀(m:List ah) (b:Nat),(aw b m).length=m.length
 | [],_=>rfl
 | o::r,b=>by simp only[aw]; cases dH o.op <;> simp[jB r]
theorem eJ:∀(l:List ah) (b k:Nat) (a:ah),l[k]?=some a->∃c,b<=c/\(aw b l)[k]?=(aw c [a])[0]?
 | [],_,_,_,h=>by simp at h
 | o::r,b,0,a,h=>by
  simp only[Oa,sJ]at h
  subst h
  refine⟨b,Nat.le_refl _,?_⟩
  simp only[aw]
  cases dH o.op with
  | none=>rfl
  | some p=>rfl
 | o::r,b,k+1,a,h=>by
  simp only[Ob]at h
  simp only[aw]
  cases dH o.op with
  | none=>simp only[Ob]; exact eJ r b k a h
  | some p=>
   obtain⟨c,h1,h2⟩:=eJ r (b+1) k a h
   exact⟨c,om,by simp only[Ob]; exact h2⟩
theorem yK{l:List ah}{ms:List Nat}(hp:dT l ms=true){i j:Nat}{a b:ah}(hij:i<j)(hi:l[i]?=some a)(hj:l[j]?=some b):fC ms i j a b=true:=by
 unfold dT at hp
 rw[List.all_eq_true]at hp
 have h1:=hp j (List.mem_range.2 (N2.1 hj).1)
 rw[hj]at h1
 simp only at h1
 rw[List.all_eq_true]at h1
 have h2:=h1 i (List.mem_range.2 hij)
 rw[hi]at h2
 exact h2
theorem mE{l:List ah}{b k:Nat}{a:ah}(h:(aw b l)[k]?=some a):∃a',l[k]?=some a'/\a'.dst=a.dst:=by
 have hkl:k<l.length:=by have:=(N2.1 h).1; rwa [jB]at this
 obtain⟨b4,_,hg4⟩:=eJ l b k _ (N1 hkl)
 refine⟨_,N1 hkl,?_⟩
 rw[h]at hg4
 simp only[aw]at hg4
 cases hz:dH (l[k]).op with
 | none=>rw[hz]at hg4; simp only[Oa,sJ]at hg4; rw[hg4]
 | some p=>rw[hz]at hg4; simp only[Oa,sJ]at hg4; rw[hg4]
theorem jA{a:ah}(h:dH a.op=none)(b:Nat):aw b [a]=[a]:=by simp[aw,h]
theorem yZ{tb:FuncId->Bool}{call:FuncId->List aa->ab->Option (aa×ab)}{m:List ah}{U:Tr aa}{K:ab}{ss:List (aa×ab)}(htr:cm tb call m U K=some ss){c:Nat}{H1:ab}{v:aa}(hs:ss[c]?=some (v,H1))
  (h:∀k b,c<k->m[k]?=some b->aA b.op=false∨ga (ba (fun i=>Nat.blt i (0+k)) 0 m ss U) b.guard=false):dU K ss m.length=H1:=by
 obtain⟨hl,hat⟩:=fT m U K ss 0 htr
 have hc:c<ss.length:=(N2.1 hs).1
 have key:∀e,c+1+e<=m.length->dU K ss (c+1+e)=H1:=by
  intro e
  induction e with
  | zero=>intro _; simp only[Nat.add_zero,dU,hs]
  | succ e ih=>
   intro he
   have h0:=ih om
   have hb:m[c+1+e]?=some (m[c+1+e]'om):=N1 om
   rcases h _ _ om hb with h1 | h1
   ·have:=cI htr 1 (c+1+e) om fun q o q1 q2 q3=>by
     have:q=c+1+e:=om
     subst this
     rw[hb,sJ]at q3
     subst q3
     exact h1
    rw[<- Nat.add_assoc,this,h0]
   ·obtain⟨v',H',z1,z2⟩:=hat _ _ hb
    simp only[be,h1,cond_false,sJ,pJ]at z2
    rw[<- Nat.add_assoc]
    simp only[dU,z1]
    rw[<- z2.2,h0]
 have:=key (m.length-(c+1)) om
 rwa [show c+1+(m.length-(c+1))=m.length by omega]at this
end
section
variable {P:Program} {Prot:Gh} {w0:World} {ρ:Pl} {H H':ab} {w:World}
theorem tO(hfol:P.follows .mixedOrders=true){tb:FuncId->Bool}(htb:∀f,Nat.blt f bN=true->tb f=true->bq P f=true)(htbP:∀f,Nat.blt f bN=true->tb (bN+f)=true->bq P f=true)
  {call:FuncId->List aa->ab->Option (aa×ab)} (hcall:gX P call) (hcallP:xW P call) {n id:Nat} {ps:List Nat} {ops:Array Oper} {l:List ah} {st:Option (Nat×Nat)}
  (hl:Bp P n ps ops ops.toList=some (l,st)) (hok:fD (ops.toList.map aS) (aT [] (ops.toList.map aS))=true) (hokp:dT (aw 0 l) (aT [] (ops.toList.map aS))=true) (hlT:l.all (dg n)=true)
  {T T1:Tr aa} {H1:ab} {e:rY} {a:Act} (R:bv Prot w0 ρ H w) (hP:pL ρ n T a)
  (h:kF tb call (aw H.next l) ((List.range l.length).map (dV (aw 0 l) (aT [] (ops.toList.map aS)))) T (bt H l)=some (e,T1,H1)) :
  e=.normal/\(Code.region id ops true).wp P (fun e' a' w'=>∃ρ',ρ.le ρ'/\bv Prot w0 ρ' H1 w' /\
   ((e'=.normal/\pL ρ' n T1 a')∨∃c d' x u,st=some (c,d')/\e'=.panic [{ v:=u,recovered:=false }]/\ev T1 (.t d')=j5 x/\ae ρ' x u/\a'.defers=a.defers/\ev T1 (.t (n+1))=ev T (.t (n+1)))) a w:=by
 obtain⟨U,hG,ht⟩:=hP.1.t
 obtain⟨he,U1,hU,hG1,hS⟩:=GB hG (rl l H.next hlT) h
 refine⟨he,?_⟩
 have hPn:∀(ρ':Pl) (a':Act),ρ.le ρ'->aW ρ' n U1 a'.tmps->a'.defers=a.defers->pL ρ' n T1 a':=fun ρ' a' hle ht' hd'=>
  ⟨⟨⟨U1,hG1,ht'⟩,by rw[hd',hS (n+1) om]; exact hP.1.d.mono hle⟩,by rw[hS n rL]; exact hP.2⟩
 have hlen0:(aw 0 l).length=l.length:=jB l 0
 have hlk:=iu l H.next 0
 have hok2:dT (aw H.next l) (aT [] (ops.toList.map aS))=true:=by rw[nq hlk]; exact hokp
 have hbase:∀d,Prot.dead d->d<H.next:=fun d hd=>(R.dead d hd).1
 have hone:∀{o a},dK P n ops o=some a->cx P n ops [o]=some [a]:=fun ho=>by simp only[cx,ho]
 have hnc:gD l:=by
  rcases gR hl with⟨_,h2⟩ | ⟨c,d,ac,_,h2,h3,_⟩
  ·exact ey h2
  ·intro x hx c' z s hcl
   obtain⟨k,hk⟩:=List.getElem?_of_mem hx
   have hkl:=(N2.1 hk).1
   obtain⟨a,y1,y2⟩:=h3 k _ (N1 om)
   rw[hk,sJ]at y1
   subst y1
   rcases y2 with⟨_,f,args,ats,lx,g,_,_,_,_,_,rfl⟩ | ⟨_,_,y2⟩ | ⟨_,_,a',y2,_,_,rfl⟩
   ·simp at hcl
   ·exact ey (hone y2) x (by simp) c' z s hcl
   ·exact ey (hone y2) a' (by simp) c' z s hcl
 have hrp:∃rp:Nat->Prop,(∀c,rp c->∃d,st=some (c,d))/\(∀c d,st=some (c,d)->rp c):=⟨fun c=>∃d,st=some (c,d),fun c h=>h,fun c d h=>⟨d,h⟩⟩
 obtain⟨rp,hrp1,hrp2⟩:=hrp
 have hopers:(aw H.next l).length=ops.toList.length/\∀(j:Nat) (o:Oper),ops.toList[j]?=some o->∃a,(aw H.next l)[j]?=some a/\((¬rp j/\(dK P n ops o=some a∨(∃c,H.next<=c/\Dm P n ops o a c)∨Ma P n ops (aw H.next l) (aT [] (ops.toList.map aS)) rp o a j))∨(st≠none/\rp j/\BZ P n ops o a)):=by
  rcases gR hl with⟨rfl,h2⟩ | ⟨c,d,ac,rfl,h2,h3,h4,h5,h6⟩
  ·obtain⟨q1,q2⟩:=lr h2 H.next
   exact⟨q1,fun j o hj=>let ⟨a,z1,z2⟩:=q2 j o hj; ⟨a,z1,.inl ⟨fun hr=>by obtain⟨d,hd⟩:=hrp1 j hr; simp at hd,z2.imp_right .inl⟩⟩⟩
  ·refine⟨by rw[jB]; exact h2,fun j o hj=>?_⟩
   obtain⟨a,y1,y2⟩:=h3 j o hj
   obtain⟨b,hb,hget⟩:=eJ l H.next j a y1
   have hnr:j≠c->¬rp j:=fun hne hr=>by obtain⟨d',hd⟩:=hrp1 j hr; simp only[sJ,pJ]at hd; exact hne hd.1.symm
   rcases y2 with⟨rfl,y2⟩ | ⟨hne,_,y2⟩ | ⟨hne,hbit,a',y2,y3,y4,rfl⟩
   ·have hz:dH a.op=none:=by obtain⟨f,args,ats,lx,g,_,_,_,_,_,rfl⟩:=y2; rfl
    rw[jA hz]at hget
    exact⟨a,by simpa using hget,.inr ⟨by simp,hrp2 _ _ rfl,y2⟩⟩
   ·obtain⟨_,q2⟩:=lr (hone y2) b
    obtain⟨a2,z1,z2⟩:=q2 0 o rfl
    refine⟨a2,by rw[hget,z1],.inl ⟨hnr hne,z2.imp_right fun ⟨c',w1,w2⟩=>.inl ⟨c',om,w2⟩⟩⟩
   ·rw[jA (a:=⟨a'.dst,a'.op,some (SK+d,false)⟩) y4]at hget
    have hcz:∃ac2,(aw H.next l)[c]?=some ac2/\ac2.dst=some d/\ac2.dst=ac.dst:=by
     obtain⟨b2,_,hg2⟩:=eJ l H.next c ac h4
     simp only[aw]at hg2
     cases hz:dH ac.op with
     | none=>rw[hz]at hg2; exact⟨ac,by simpa using hg2,h5,rfl⟩
     | some p=>rw[hz]at hg2; exact⟨⟨ac.dst,.claim b2 p.1 p.2,ac.guard⟩,by simpa using hg2,h5,rfl⟩
    obtain⟨ac2,w1,w2,_⟩:=hcz
    refine⟨_,by simpa using hget,.inl ⟨hnr hne,.inr (.inr ⟨a',c,d,ac2,y2,y3,rfl,hbit,hrp2 _ _ rfl,w1,w2,fun k b' hk hbd=>?_⟩)⟩⟩
    obtain⟨b3,w3,w4⟩:=mE hk
    exact h6 k b3 w3 (w4.trans hbd)
 have hraw:∀c d,st=some (c,d)->∃ac,(aw H.next l)[c]?=some ac/\ac.dst=some d/\aA ac.op=true/\d<n/\(∀k b,(aw H.next l)[k]?=some b->b.dst=some d->k=c)/\∀k b,c<k->(aw H.next l)[k]?=some b->aA b.op=true->b.guard=some (SK+d,false):=by
  intro c d hst
  rcases gR hl with⟨h0,_⟩ | ⟨c',d',ac,h1,h2,h3,h4,h5,h6⟩
  ·rw[hst]at h0; simp at h0
  ·rw[hst,sJ,pJ]at h1
   obtain⟨rfl,rfl⟩:=h1
   have hcl:=(N2.1 h4).1
   obtain⟨a,y1,y2⟩:=h3 c _ (N1 om)
   rw[h4,sJ]at y1
   subst y1
   rcases y2 with⟨_,f,args,ats,lx,g,_,_,_,q4,_,rfl⟩ | ⟨hne,_⟩ | ⟨hne,_⟩
   ·simp only at h5
    rw[h5]at q4
    obtain⟨b,_,hget⟩:=eJ l H.next c _ h4
    rw[jA rfl]at hget
    have hc2:=hget
    simp only[Oa]at hc2
    refine⟨_,hc2,h5,rfl,d8 q4,fun k b' hk hbd=>?_,fun k b' hck hk hch=>?_⟩
    ·obtain⟨b3,w3,w4⟩:=mE hk
     exact h6 k b3 w3 (w4.trans hbd)
    ·have hpr:=yK hok2 hck hc2 hk
     simp only[fC,Bool.or_eq_true,N4,Bool.not_eq_true']at hpr
     have hbit:iL (aT [] (ops.toList.map aS)) k c=true:=by
      rcases hpr with hpr | ⟨hpr,_⟩
      ·exact hpr
      ·rw[hch]at hpr; simp[aA,iG,dc]at hpr
     obtain⟨b3,w3,_⟩:=mE hk
     have hkl:=(N2.1 w3).1
     obtain⟨a2,z1,z2⟩:=h3 k _ (N1 om)
     rcases z2 with⟨rfl,_⟩ | ⟨_,hb0,_⟩ | ⟨_,_,a',_,_,x4,rfl⟩
     ·omega
     ·rw[hbit]at hb0; simp at hb0
     ·obtain⟨b5,_,hg5⟩:=eJ l H.next k _ z1
      rw[jA (a:=⟨a'.dst,a'.op,some (SK+d,false)⟩) x4,hk]at hg5
      simp only[Oa,sJ]at hg5
      rw[hg5]
   ·exact (hne rfl).elim
   ·exact (hne rfl).elim
 have R':=gv (pr:=Prot.prot) l Prot.dead H hnc R
 have hchk:(List.range l.length).map (dV (aw 0 l) (aT [] (ops.toList.map aS)))=(List.range (aw H.next l).length).map (dV (aw H.next l) (aT [] (ops.toList.map aS))):=by
  have:l.length=(aw H.next l).length:=by rw[<- hlen0]; exact (hlk.len).symm
  rw[this]
  exact List.map_congr_left fun j _=>(rn hlk _ j).symm
 have hdis:=jC l H.next hnc
 rw[hchk]at hU h
 generalize hcl:aw H.next l=m at *
 generalize hrv:bt H l=K at *
 unfold kF at hU
 cases hss:cm tb call m U K with
 | none=>rw[hss]at hU; simp at hU
 | some ss=>
  rw[hss]at hU
  simp only at hU
  cases hr:eL tb (K::ss.map (·.2)) m ((List.range m.length).map (dV m (aT [] (ops.toList.map aS)))) ss U with
  | false=>rw[hr]at hU; simp at hU
  | true=>
   rw[hr]at hU
   simp only[cond_true,sJ,pJ,true_and]at hU
   obtain⟨rfl,rfl⟩:=hU
   refine wp_region_any hfol ?_
   have hN:m.length=ops.size:=by simpa using hopers.1
   have hrep:∀i,(Array.replicate ops.size false).getD i false=false:=fun i=>by
    rw[Array.getD_eq_getD_getElem?,Array.getElem?_replicate]; split <;> rfl
   have hm0:(fun i=>(Array.replicate ops.size false).getD i false)=fun _=>false:=funext hrep
   have hst:ap (fun i=>(Array.replicate ops.size false).getD i false) 0 m=ap (fun _=>false) 0 m:=fU m 0 fun c o _ _=>by simp only[hrep]
   have hH:dU K ss (ap (fun _=>false) 0 m)=K:=by
    obtain⟨q1,q2,q3,q4⟩:=dz (fun _=>false) m 0
    have:=cI hss (ap (fun _=>false) 0 m) 0 om fun c o _ hlt ho=>by
     cases hx:aA o.op with
     | false=>rfl
     | true=>have:=q3 c o ho hx om; simp at this
    rw[Nat.zero_add]at this
    rw[this]; rfl
   have htl:aW ρ n (ba (fun i=>(Array.replicate ops.size false).getD i false) 0 m ss U) a.tmps:=by
    refine ht.congr fun t=>?_
    rw[hm0]
    have:∀(l:List ah) (ss:List (aa×ab)) (k:Nat) (T:Tr aa),ba (fun _=>false) k l ss T=T:=by
     intro l
     induction l with
     | nil=>intro ss k T; cases ss <;> rfl
     | cons o r ih=>intro ss k T; cases ss with
      | nil=>rfl
      | cons s ss=>obtain⟨x,y⟩:=s; simp only[ba,cond_false,ih]
    rw[this]
   refine wX (RAW:=st≠none) (rp:=rp) (ds:=a.defers) (Prot:=Prot) (w0:=w0) htb hcall (fun _=>htbP) (fun _=>hcallP) (base:=H.next) hopers.1 hopers.2 hbase hdis hok hok2 hss hr (ρ0:=ρ) (fun a' w' hx=>?_) (fun hd c a' w' ρ' x u hrc hle hx hv hda=>?_) ops.size _ a _ (by simp) ?_ (fun j _ hj=>by rw[hrep]at hj; simp at hj) (fun j _ hj=>by rw[hrep]at hj; simp at hj) ⟨ρ,Pl.le_refl _,?_,htl,rfl⟩
   ·obtain⟨ρ',q1,q2,q3,q4⟩:=hx
    exact⟨ρ',q1,q2,.inl ⟨rfl,hPn ρ' a' q1 q3 q4⟩⟩
   ·obtain⟨d',hst'⟩:=hrp1 c hrc
    obtain⟨ac,g1,g2,g3,g4,g5,g6⟩:=hraw c d' hst'
    obtain⟨H9,hx,R1⟩:=hx
    have hsel:∀mk:Nat->Bool,mk (0+c)=true->(ba mk 0 m ss U).get d'=some (j5 x):=fun mk hmk=>
     iQ m ss 0 c U ac (j5 x) H9 g1 hx g2 hmk fun k b hk hkb hbd=>absurd (g5 k b hkb hbd) om
    have hstill:dU K ss m.length=H9:=yZ hss hx fun k b hk hkb=>by
     cases hch:aA b.op with
     | false=>exact .inl rfl
     | true=>
      right
      obtain⟨k1,k2⟩:=Jv d'
      rw[g6 k b hk hkb hch]
      simp only[ga,gV,k1,k2,cond_true,ev]
      rw[hsel _ (by simp only[Nat.zero_add]; exact N3 hk)]
      rfl
    refine⟨ρ',hle,by rw[hstill]; exact R1,.inr ⟨c,d',x,u,hst',rfl,?_,hv,hda,hS (n+1) om⟩⟩
    rw[hG1.1 d' g4]
    simp only[ev,hsel (fun _=>true) rfl]
   ·rw[hm0]
    have:∀k,rZ (fun _=>false) k=k:=by
     intro k
     induction k with
     | zero=>rfl
     | succ k ih=>simp only[rZ,ih,cond_false]
    exact this _
   ·rw[hst,hH,hm0]; exact R'.drew
end
end Go.Abs
namespace Go.Abs
section
variable {P:Program} {Prot:Gh} {w0:World} {ρ:Pl} {H H':ab} {w:World}
theorem CU(hfol:P.follows .mixedOrders=true){tb:FuncId->Bool}(htb:∀f,Nat.blt f bN=true->tb f=true->bq P f=true)(htbP:∀f,Nat.blt f bN=true->tb (bN+f)=true->bq P f=true)
  {call:FuncId->List aa->ab->Option (aa×ab)} (hcall:gX P call) (hcallP:xW P call) {n k:Nat} {ps:List Nat} :
  ∀(c:Code) (ac:bE),dE P n ps c=some ac->∀(ρ:Pl) (T T':Tr aa) (H H':ab) (e:rY) (a:Act) (w:World),
   bv Prot w0 ρ H w->pL ρ n T a->aH tb call k ac T H=some (e,T',H')->c.wp P (Dh Prot w0 ρ n e T' H') a w:=by
 intro c
 induction c with
 | skip=>
  intro ac hc ρ T T' H H' e a w R hP h
  simp only[dE,sJ]at hc; subst hc
  simp only[aH,sJ,pJ]at h
  obtain⟨rfl,rfl,rfl⟩:=h
  exact wp_skip ⟨ρ,Pl.le_refl _,R,rfl,hP⟩
 | region id ops draw=>
  intro ac hc ρ T T' H H' e a w R hP h
  cases draw with
  | false=>
   simp only[dE]at hc
   split at hc
   ·rename_i its hl
    simp only[sJ]at hc; subst hc
    refine wp_region ?_
    have:=CE (Prot:=Prot) (w0:=w0) htb htbP hcall hcallP ops.toList 0 its (fun j=>by simp) hl ρ ρ T T' H H' e a w (Pl.le_refl _) R hP h
    rw[List.range_eq_range']
    simpa using this
   ·simp at hc
  | true=>
   simp only[dE,FU]at hc
   split at hc
   ·rename_i l st hl
    cases hck:fD (ops.toList.map aS) (aT [] (ops.toList.map aS))&&dT (aw 0 l) (aT [] (ops.toList.map aS))&&l.all (dg n) with
    | false=>
     rw[hck]at hc
     simp only[cond_false,sJ]at hc; subst hc
     simp[jq]at h
    | true=>
     rw[hck]at hc
     simp only[cond_true]at hc
     simp only[N4]at hck
     obtain⟨⟨hk1,hk2⟩,hk3⟩:=hck
     cases st with
     | none=>
      simp only[sJ]at hc; subst hc
      simp only[aH]at h
      obtain⟨rfl,hw⟩:=tO (id:=id) hfol htb htbP hcall hcallP hl hk1 hk2 hk3 R hP h
      refine wp_mono hw ?_
      rintro e' a' w' ⟨ρ',q1,q2,⟨rfl,q3⟩ | ⟨c',d',x,u,hd,_⟩⟩
      ·exact⟨ρ',q1,q2,rfl,q3⟩
      ·simp at hd
     | some cd=>
      obtain⟨cc,d⟩:=cd
      simp only[sJ]at hc; subst hc
      simp only[aH]at h
      cases hdr:kF tb call (aw H.next l) ((List.range l.length).map (dV (aw 0 l) (aT [] (ops.toList.map aS)))) T (bt H l) with
      | none=>rw[hdr]at h; simp at h
      | some r=>
       obtain⟨e1,T1,H1⟩:=r
       rw[hdr]at h
       obtain⟨rfl,hw⟩:=tO (id:=id) hfol htb htbP hcall hcallP hl hk1 hk2 hk3 R hP hdr
       simp only at h
       rw[bh,bL]at h
       simp only[bG,fo,jJ,vv,KX,aX,co]at h
       have e2:ev (T1.set (n+2) (.bool (fg (ev T1 (.t d))))) (.t (n+2))=.bool (fg (ev T1 (.t d))):=by rw[aO,if_pos rfl]
       rw[e2]at h
       refine wp_mono hw ?_
       rintro e' a' w' ⟨ρ',q1,q2,⟨rfl,q3⟩ | ⟨c',d',x,u,hd,rfl,q3,q4,q5,q6⟩⟩
       ·cases hp:fg (ev T1 (.t d)) with
        | false=>
         rw[hp]at h
         simp only[sJ,pJ]at h
         obtain⟨rfl,rfl,rfl⟩:=h
         exact⟨ρ',q1,q2,rfl,q3.ghost rL _⟩
        | true=>
         exfalso
         obtain⟨U,hG,ht⟩:=q3.1.t
         obtain⟨y,hy⟩:=mA hp
         by_cases hdn:d<n
         ·have:=ht.at_ d
          rw[<- hG.1 d hdn]at this
          exact yH this hy
         ·rcases gR hl with⟨h0,_⟩ | ⟨c2,d2,ao,h4,_,_,h6',h6,_⟩
          ·simp at h0
          ·simp only[sJ,pJ]at h4
           obtain⟨rfl,rfl⟩:=h4
           have:=List.all_eq_true.1 hk3 ao (N9 h6')
           simp only[dg,N4,h6]at this
           exact hdn (d8 this.2.2)
       ·simp only[sJ,pJ]at hd
        obtain⟨rfl,rfl⟩:=hd
        have hp:fg (ev T1 (.t d))=true:=by rw[q3]; rfl
        rw[hp]at h
        simp only[ga,cond_true,IX]at h
        have e3:ev ((T1.set (n+2) (.bool true)).set (n+2) (.bool (isU (ev (T1.set (n+2) (.bool true)) (.t (n+1)))))) (.t (n+2))=.bool (isU (ev (T1.set (n+2) (.bool true)) (.t (n+1)))):=by rw[aO,if_pos rfl]
        rw[e3]at h
        have e4:ev (T1.set (n+2) (.bool true)) (.t (n+1))=ev T1 (.t (n+1)):=by rw[aO,if_neg om]
        rw[e4]at h
        cases hu:isU (ev T1 (.t (n+1))) with
        | false=>rw[hu]at h; simp[fy,aH,aX,ga,bG]at h
        | true=>
         rw[hu]at h
         simp only[aX,ga,cond_true,bG,co]at h
         simp only[sJ,pJ]at h
         obtain⟨rfl,rfl,rfl⟩:=h
         have hund:ev T1 (.t (n+1))=aN:=by
          unfold isU at hu
          split at hu
          ·rename_i h9; rw[h9]; rfl
          ·simp at hu
         have hdn:∃v,ev ((T1.set (n+2) (.bool true)).set (n+2) (.bool true)) (.t d)=v:=⟨_,rfl⟩
         have hdlt:d<n:=by
          rcases gR hl with⟨h0,_⟩ | ⟨c2,d2,ao,h4,_,_,h6',h6,_⟩
          ·simp at h0
          ·simp only[sJ,pJ]at h4
           obtain⟨rfl,rfl⟩:=h4
           have:=List.all_eq_true.1 hk3 ao (N9 h6')
           simp only[dg,N4,h6]at this
           exact d8 this.2.2
         refine⟨ρ',q1,q2,.inr ⟨rfl,.inr ⟨u,rfl,x,?_,q4,.inl ⟨?_,?_⟩⟩⟩⟩
         ·rw[aO,if_pos rfl,aO,if_neg om,aO,if_neg om]; exact q3
         ·rw[q5]
          have:=hP.1.d
          rw[<- q6,hund]at this
          rcases this with⟨_,h9⟩ | ⟨f,fa,fb,d9,cap,h9,_⟩
          ·exact h9
          ·simp[aN]at h9
         ·rw[aO,if_neg om,aO,if_neg om,aO,if_neg om]; exact hund
   ·simp at hc
 | seq x y ihx ihy=>
  intro ac hc ρ T T' H H' e a w R hP h
  simp only[dE]at hc
  split at hc
  ·rename_i ax ay hx hy
   simp only[sJ]at hc; subst hc
   simp only[aH]at h
   split at h
   ·rename_i T1 H1 h1
    refine wp_seq (wp_mono (ihx _ hx ρ T T1 H H1 .normal a w R hP h1) ?_)
    rintro e1 a1 w1 ⟨ρ1,hl,R1,rfl,hP1⟩
    exact wp_mono (ihy _ hy ρ1 T1 T' H1 H' e a1 w1 R1 hP1 h) fun _ _ _ q=>q.weaken hl
   ·rename_i e1 T1 H1 hne h1
    simp only[sJ,pJ]at h
    obtain⟨rfl,rfl,rfl⟩:=h
    refine wp_seq (wp_mono (ihx _ hx ρ T T1 H H1 e1 a w R hP h1) ?_)
    rintro e2 a1 w1 q
    obtain⟨ρ1,q1,q2,q3⟩:=q
    cases e1 with
    | normal=>exact (hne rfl).elim
    | ret=>exact q3.elim
    | exit id=>
     rcases q3 with⟨z1,rfl,z2⟩ | ⟨z1,⟨rfl,z2⟩ | ⟨u,rfl,z2⟩⟩
     ·exact⟨ρ1,q1,q2,.inl ⟨z1,rfl,z2⟩⟩
     ·exact⟨ρ1,q1,q2,.inr ⟨z1,.inl ⟨rfl,z2⟩⟩⟩
     ·exact⟨ρ1,q1,q2,.inr ⟨z1,.inr ⟨u,rfl,z2⟩⟩⟩
   ·simp at h
  ·simp at hc
 | cond c x y ihx ihy=>
  intro ac hc ρ T T' H H' e a w R hP h
  simp only[dE]at hc
  split at hc
  ·rename_i c' ax ay hcc hx hy
   cases hT:cP n c' with
   | false=>rw[hT]at hc; simp at hc
   | true=>
    rw[hT]at hc
    simp only[cond_true,sJ]at hc; subst hc
    simp only[aH]at h
    obtain⟨U,hG,ht⟩:=hP.1.t
    have hv:=az ht hcc
    rw[<- hG.x hT]at hv
    split at h
    ·rename_i hb
     rw[hb]at hv
     simp only[ae]at hv
     exact wp_cond_true hv (ihx _ hx ρ T T' H H' e a w R hP h)
    ·rename_i hb
     rw[hb]at hv
     simp only[ae]at hv
     exact wp_cond_false hv (ihy _ hy ρ T T' H H' e a w R hP h)
    ·simp at h
  ·simp at hc
 | block id c ih=>
  intro ac hc ρ T T' H H' e a w R hP h
  simp only[dE]at hc
  split at hc
  ·rename_i ax hx
   cases hid:Nat.beq id PB with
   | true=>rw[hid]at hc; simp at hc
   | false=>
    rw[hid]at hc
    simp only[cond_false,sJ]at hc; subst hc
    have hidn:¬id=PB:=fun e=>by rw[e,Nat.beq_refl]at hid; simp at hid
    simp only[aH]at h
    split at h
    ·rename_i j T1 H1 h1
     refine wp_block (wp_mono (ih _ hx ρ T T1 H H1 (.exit j) a w R hP h1) ?_)
     rintro e1 a1 w1 ⟨ρ1,q1,q2,q3⟩
     cases hb:Nat.beq j id with
     | true=>
      rw[hb]at h
      simp only[cond_true,sJ,pJ]at h
      obtain⟨rfl,rfl,rfl⟩:=h
      have:=N8 hb
      subst this
      rcases q3 with⟨_,rfl,z2⟩ | ⟨z1,_⟩
      ·simp only[Exit.inBlock,if_true]
       exact⟨ρ1,q1,q2,rfl,z2⟩
      ·exact (hidn z1).elim
     | false=>
      rw[hb]at h
      simp only[cond_false,sJ,pJ]at h
      obtain⟨rfl,rfl,rfl⟩:=h
      have:¬j=id:=fun e=>by rw[e,Nat.beq_refl]at hb; simp at hb
      rcases q3 with⟨z1,rfl,z2⟩ | ⟨z1,⟨rfl,z2⟩ | ⟨u,rfl,z2⟩⟩
      ·simp only[Exit.inBlock,this,if_false]
       exact⟨ρ1,q1,q2,.inl ⟨z1,rfl,z2⟩⟩
      ·exact⟨ρ1,q1,q2,.inr ⟨z1,.inl ⟨rfl,z2⟩⟩⟩
      ·exact⟨ρ1,q1,q2,.inr ⟨z1,.inr ⟨u,rfl,z2⟩⟩⟩
    ·rename_i e1 T1 H1 hne h1
     simp only[sJ,pJ]at h
     obtain⟨rfl,rfl,rfl⟩:=h
     refine wp_block (wp_mono (ih _ hx ρ T T1 H H1 e1 a w R hP h1) ?_)
     rintro e2 a1 w1 ⟨ρ1,q1,q2,q3⟩
     cases e1 with
     | normal=>obtain⟨rfl,z⟩:=q3; exact⟨ρ1,q1,q2,rfl,z⟩
     | exit j=>exact (hne _ rfl).elim
     | ret=>exact q3.elim
    ·simp at h
  ·simp at hc
 | loop c ih=>
  intro ac hc ρ T T' H H' e a w R hP h
  simp only[dE]at hc
  split at hc
  ·rename_i ax hx
   simp only[sJ]at hc; subst hc
   simp only[aH]at h
   refine wp_loop_rounds k ?_
   have key:∀(m:Nat) (T:Tr aa) (H:ab) (ρ1:Pl) (a:Act) (w:World),ρ.le ρ1->bv Prot w0 ρ1 H w->pL ρ1 n T a ->
     iA (aH tb call k ax) m T H=some (e,T',H')->Code.rounds P c (Dh Prot w0 ρ n e T' H') m a w:=by
    intro m
    induction m with
    | zero=>intro T H ρ1 a w _ _ _ h; simp[iA]at h
    | succ m ihm=>
     intro T H ρ1 a w hl R hP h
     rw[rounds_succ]
     simp only[iA]at h
     split at h
     ·rename_i T1 H1 h1
      refine wp_mono (ih _ hx ρ1 T T1 H H1 .normal a w R hP h1) ?_
      rintro e1 a1 w1 ⟨ρ2,hl2,R1,rfl,hP1⟩
      exact ihm T1 H1 ρ2 a1 w1 (Pl.le_trans hl hl2) R1 hP1 h
     ·rename_i e1 T1 H1 hne h1
      simp only[sJ,pJ]at h
      obtain⟨rfl,rfl,rfl⟩:=h
      refine wp_mono (ih _ hx ρ1 T T1 H H1 e1 a w R hP h1) ?_
      rintro e2 a1 w1 q
      obtain⟨ρ2,q1,q2,q3⟩:=q.weaken hl
      cases e1 with
      | normal=>exact (hne rfl).elim
      | ret=>exact q3.elim
      | exit id=>
       rcases q3 with⟨z1,rfl,z2⟩ | ⟨z1,⟨rfl,z2⟩ | ⟨u,rfl,z2⟩⟩
       ·exact⟨ρ2,q1,q2,.inl ⟨z1,rfl,z2⟩⟩
       ·exact⟨ρ2,q1,q2,.inr ⟨z1,.inl ⟨rfl,z2⟩⟩⟩
       ·exact⟨ρ2,q1,q2,.inr ⟨z1,.inr ⟨u,rfl,z2⟩⟩⟩
     ·simp at h
   exact key k T H ρ a w (Pl.le_refl _) R hP h
  ·simp at hc
 | exit id=>
  intro ac hc ρ T T' H H' e a w R hP h
  simp only[dE]at hc
  cases hid:Nat.beq id PB with
  | true=>rw[hid]at hc; simp at hc
  | false=>
   rw[hid]at hc
   simp only[cond_false,sJ]at hc; subst hc
   have hidn:¬id=PB:=fun e=>by rw[e,Nat.beq_refl]at hid; simp at hid
   simp only[aH,sJ,pJ]at h
   obtain⟨rfl,rfl,rfl⟩:=h
   exact wp_exit ⟨ρ,Pl.le_refl _,R,.inl ⟨hidn,rfl,hP⟩⟩
 | ret=>
  intro ac hc ρ T T' H H' e a w R hP h
  simp only[dE,sJ]at hc; subst hc
  simp only[aH,sJ,pJ]at h
  obtain⟨rfl,rfl,rfl⟩:=h
  exact wp_ret ⟨ρ,Pl.le_refl _,R,.inr ⟨rfl,.inl ⟨rfl,hP⟩⟩⟩
 | _=>
  intro ac hc ρ T T' H H' e a w R hP h
  simp only[dE,sJ]at hc; subst hc
  simp[jq]at h
end
end Go.Abs
