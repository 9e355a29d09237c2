/- Part of a proof (D9 A11 A11b A11c A11d A11e A11f); no condition. -/
import Derived.LoopN
import Derived.Recover
import Derived.Test.YtfleblkgifoeaaaGreatDoorP4
set_option linter.unusedSimpArgs false
set_option linter.unusedVariables false
set_option linter.unnecessarySimpa false
namespace Go.Abs
def dO:Option Nat→List Opd
 | some d=>[.t d]
 | none=>[]
def tOps(o:AOper):List Opd:=match o.op with
 | .store _ a _=>[a]
 | .append _ _ s x=>s::x::dO o.dst
 | .hf (.fill ..) _=>dO o.dst
 | .load _ _ x=>[x]
 | _=>[]
def writes(l:List AOper)(c t:Nat):Bool:=match l[c]? with
 | some o=>match o.dst with
  | some d=>Nat.beq d t
  | none=>false
 | none=>false
def stays(l:List AOper)(q:Nat):Opd→Bool
 | .t t=>(List.range l.length).all fun c=>Nat.blt c q||!writes l c t
 | _=>true
def dstStays(l:List AOper)(q:Nat):Option Nat→Bool
 | some d=>(List.range l.length).all fun c=>Nat.ble c q||!writes l c d
 | none=>false
def okStay(l:List AOper)(q:Nat):Bool:=match l[q]? with
 | some o=>match o.op with
  | .store _ a _=>stays l q a
  | .append _ _ s x=>stays l q s&&(stays l q x&&dstStays l q o.dst)
  | .hf (.fill ..) _=>dstStays l q o.dst
  | .load _ _ x=>stays l q x
  | _=>true
 | none=>true
def okStays(l:List AOper):Bool:=(List.range l.length).all (okStay l)
def pairsM(l:List AOper)(j i:Nat):List (Opd×Opd):=match l[j]?,l[i]? with
 | some b,some a=>(tOps b).flatMap fun y=>(tOps a).map fun x=>(y,x)
 | _,_=>[]
def looseLoad(l:List AOper)(ms:List Nat)(j k:Nat):Bool:=match l[k]? with
 | some o=>isLoad o.op&&(!bit ms k j&&!bit ms j k)
 | none=>false
def checksM(l:List AOper)(ms:List Nat):List (Opd×Opd):=
 (List.range l.length).flatMap fun j=>(List.range j).flatMap fun i=>bif looseP l ms i j then
  pairsM l j i++(List.range l.length).flatMap fun k=>bif looseLoad l ms j k then pairsM l j k else [] else []
def checkOp(p:Opd×Opd):AOper:=⟨none,.pf .apart [p.1,p.2],none⟩
section
variable {tb:FuncId→Bool} {call:FuncId→List AVal→AHeap→Option (AVal×AHeap)} {l:List AOper} {ms:List Nat} {T0:Tr AVal} {H0:AHeap} {ss:List (AVal×AHeap)}
theorem writes_of{c t:Nat}{o:AOper}(h:l[c]?=some o)(hd:o.dst=some t):writes l c t=true:=by
 unfold writes; simp only[h,hd]; exact Nat.beq_refl t
theorem stays_ev{q:Nat}{x:Opd}(h:stays l q x=true):ev (tsel (fun _=>true) 0 l ss T0) x=ev (tsel (fun i=>Nat.blt i (0+q)) 0 l ss T0) x:=by
 cases x with
 | t t=>
  simp only[ev]
  rw[tsel_get l ss 0 T0 T0 rfl fun c o hc hd=>?_]
  simp only[stays]at h
  rw[List.all_eq_true]at h
  have:=h c (List.mem_range.2 (List.getElem?_eq_some_iff.1 hc).1)
  rw[writes_of hc hd]at this
  simp only[Bool.not_true,Bool.or_false]at this
  simp only[Nat.zero_add]
  exact this.symm
 | _=>rfl
theorem dst_ev{q d:Nat}{o:AOper}{v:AVal}{H':AHeap}(hq:l[q]?=some o)(hs:ss[q]?=some (v,H'))(hd:o.dst=some d)(h:dstStays l q o.dst=true):ev (tsel (fun _=>true) 0 l ss T0) (.t d)=v:=by
 rw[hd]at h
 simp only[dstStays]at h
 rw[List.all_eq_true]at h
 have hn:∀c oc,q<c→l[c]?=some oc→oc.dst=some d→False:=by
  intro c oc hc h1 h2
  have:=h c (List.mem_range.2 (List.getElem?_eq_some_iff.1 h1).1)
  rw[writes_of h1 h2]at this
  simp only[Bool.not_true,Bool.or_false]at this
  have:=Nat.le_of_ble_eq_true this
  omega
 have e:(tsel (fun _=>true) 0 l ss T0).get d=some v:=by
  have e1:=tsel_last (m:=fun i=>Nat.ble i q) l ss 0 q T0 o v H' hq hs hd (by simp only[Nat.zero_add]; exact Nat.ble_eq_true_of_le (Nat.le_refl q)) fun i o' h1 h2 h3=>(hn i o' h1 h2 h3).elim
  rw[← e1]
  refine tsel_get l ss 0 T0 T0 rfl fun c oc hc hdc=>?_
  simp only[Nat.zero_add]
  rcases Nat.lt_or_ge q c with k | k
  ·exact (hn c oc k hc hdc).elim
  ·exact (Nat.ble_eq_true_of_le k).symm
 simp only[ev,e]
theorem tch_ops(htr:atrace tb call l T0 H0=some ss)(hok:okStays l=true){q:Nat}{o:AOper}(hq:l[q]?=some o){b:Nat}(hb:b∈tchAt l ss T0 q):∃x∈tOps o,blkOf (ev (tsel (fun _=>true) 0 l ss T0) x)=some b:=by
 obtain⟨_,hat⟩:=trace_at l T0 H0 ss 0 htr
 obtain⟨v,H1,hs,hs0⟩:=hat q o hq
 clear hs0 hat
 simp only[tchAt,hq,hs]at hb
 have hst:okStay l q=true:=by
  unfold okStays at hok
  rw[List.all_eq_true]at hok
  exact hok q (List.mem_range.2 (List.getElem?_eq_some_iff.1 hq).1)
 unfold okStay at hst
 rw[hq]at hst
 obtain⟨d,op,g⟩:=o
 have hdst:dstStays l q d=true→∃d',d=some d'∧ev (tsel (fun _=>true) 0 l ss T0) (.t d')=v:=by
  intro h
  cases d with
  | none=>simp[dstStays]at h
  | some d'=>exact⟨d',rfl,dst_ev (o:=⟨some d',op,g⟩) hq hs rfl h⟩
 cases op <;> simp only[touch,List.not_mem_nil]at hb
 case store n a x=>
  obtain⟨y,h1,h2⟩:=mem_blks hb
  obtain rfl:=List.mem_singleton.1 h1
  exact⟨a,by simp[tOps],by rw[stays_ev hst]; exact h2⟩
 case load n a x=>
  obtain⟨y,h1,h2⟩:=mem_blks hb
  obtain rfl:=List.mem_singleton.1 h1
  exact⟨x,by simp[tOps],by rw[stays_ev hst]; exact h2⟩
 case append n k s x=>
  simp only[Bool.and_eq_true]at hst
  obtain⟨d',hd1,hd2⟩:=hdst hst.2.2
  obtain⟨y,h1,h2⟩:=mem_blks hb
  simp only[List.mem_cons,List.not_mem_nil,or_false]at h1
  rcases h1 with rfl | rfl | rfl
  ·exact⟨s,by simp[tOps],by rw[stays_ev hst.1]; exact h2⟩
  ·exact⟨x,by simp[tOps],by rw[stays_ev hst.2.1]; exact h2⟩
  ·exact⟨.t d',by simp[tOps,hd1,dO],by rw[hd2]; exact h2⟩
 case hf f xs=>
  cases f <;> first | (simp only[List.not_mem_nil]at hb; done) | skip
  obtain⟨d',hd1,hd2⟩:=hdst hst
  obtain⟨y,h1,h2⟩:=mem_blks hb
  obtain rfl:=List.mem_singleton.1 h1
  exact⟨.t d',by simp[tOps,hd1,dO],by rw[hd2]; exact h2⟩
theorem pairs_mem{i j:Nat}{a b:AOper}(hi:l[i]?=some a)(hj:l[j]?=some b){x y:Opd}(hx:x∈tOps a)(hy:y∈tOps b):(y,x)∈pairsM l j i:=by
 unfold pairsM
 rw[hi,hj]
 simp only[List.mem_flatMap,List.mem_map]
 exact⟨y,hy,x,hx,rfl⟩
theorem apB_no{x y:AVal}{b:Nat}(h:apB y x=true)(hx:blkOf x=some b)(hy:blkOf y=some b):False:=by
 unfold apB at h
 rw[hx,hy]at h
 simp[Nat.beq_refl]at h
theorem hap_of(htr:atrace tb call l T0 H0=some ss)(hok:okStays l=true)(hck:∀p∈checksM l ms,apB (ev (tsel (fun _=>true) 0 l ss T0) p.1) (ev (tsel (fun _=>true) 0 l ss T0) p.2)=true) :
  (∀i j,looseP l ms i j=true→∀x∈tchAt l ss T0 j,x∉tchAt l ss T0 i) ∧
  ∀i j k o,looseP l ms i j=true→l[k]?=some o→isLoad o.op=true→bit ms k j=false→bit ms j k=false→∀x∈tchAt l ss T0 j,x∉tchAt l ss T0 k:=by
 have hl:∀i j,looseP l ms i j=true→∃a b,l[i]?=some a∧l[j]?=some b∧i<j:=by
  intro i j h
  unfold looseP at h
  split at h
  ·rename_i a b hi hj
   simp only[Bool.and_eq_true]at h
   exact⟨a,b,hi,hj,Nat.le_of_ble_eq_true h.1⟩
  ·simp at h
 constructor
 ·intro i j h x hx hx'
  obtain⟨a,b,hi,hj,hij⟩:=hl i j h
  obtain⟨y,y1,y2⟩:=tch_ops htr hok hj hx
  obtain⟨z,z1,z2⟩:=tch_ops htr hok hi hx'
  refine apB_no (hck (y,z) ?_) z2 y2
  unfold checksM
  rw[List.mem_flatMap]
  refine⟨j,List.mem_range.2 (List.getElem?_eq_some_iff.1 hj).1,?_⟩
  rw[List.mem_flatMap]
  refine⟨i,List.mem_range.2 hij,?_⟩
  rw[h,cond_true,List.mem_append]
  exact .inl (pairs_mem hi hj z1 y1)
 ·intro i j k o h hk hld h1 h2 x hx hx'
  obtain⟨a,b,hi,hj,hij⟩:=hl i j h
  obtain⟨y,y1,y2⟩:=tch_ops htr hok hj hx
  obtain⟨z,z1,z2⟩:=tch_ops htr hok hk hx'
  refine apB_no (hck (y,z) ?_) z2 y2
  unfold checksM
  rw[List.mem_flatMap]
  refine⟨j,List.mem_range.2 (List.getElem?_eq_some_iff.1 hj).1,?_⟩
  rw[List.mem_flatMap]
  refine⟨i,List.mem_range.2 hij,?_⟩
  rw[h,cond_true,List.mem_append,List.mem_flatMap]
  refine .inr ⟨k,List.mem_range.2 (List.getElem?_eq_some_iff.1 hk).1,?_⟩
  have:looseLoad l ms j k=true:=by unfold looseLoad; rw[hk]; simp[hld,h1,h2]
  rw[this,cond_true]
  exact pairs_mem hk hj z1 y1
end
theorem call_not_fill{P:Program}{c:Call}{b n:Nat}{z:List AVal}{os:List (Nat×Nat)}{xs:List Opd}(h:cCall P c=some (.hf (.fill b n z os) xs)):False:=by
 unfold cCall at h
 repeat' split at h
 all_goals first
  | (simp at h; done)
  | (simp only[cond_eq_ite]at h; split at h <;> simp at h)
theorem cOpX_not_fill{P:Program}{o:Op}{b n:Nat}{z:List AVal}{os:List (Nat×Nat)}{xs:List Opd}(h:cOpX P o=some (.hf (.fill b n z os) xs)):False:=by
 unfold cOpX at h
 repeat' split at h
 all_goals first
  | (simp at h; done)
  | (simp only[cond_eq_ite]at h; split at h <;> first | (simp at h; done) | (split at h <;> simp at h))
theorem cOp_not_fill{P:Program}{o:Op}{b n:Nat}{z:List AVal}{os:List (Nat×Nat)}{xs:List Opd}(h:cOp P o=some (.hf (.fill b n z os) xs)):False:=by
 unfold cOp at h
 split at h
 ·rename_i a ha
  simp only[sJ]at h
  subst h
  exact cOpX_not_fill ha
 ·split at h
  ·rename_i a ha
   simp only[sJ]at h
   subst h
   cases o <;> simp only[cOp0,reduceCtorEq]at ha
   case call c _=>exact call_not_fill ha
   all_goals
    exfalso
    repeat' split at ha
    all_goals first
     | (simp at ha; done)
     | (simp only[cond_eq_ite]at ha; split at ha <;> simp at ha)
  ·simp at h
theorem opers_noFill{P:Program}{n:Nat}{ops:Array Oper}:∀{rest:List Oper} {l:List AOper},cOpers P n ops rest=some l→∀a∈l,fillB a.op=none:=by
 intro rest
 induction rest with
 | nil=>intro l h; simp only[cOpers,sJ]at h; subst h; intro a ha; simp at ha
 | cons o r ih=>
  intro l h
  simp only[cOpers]at h
  split at h
  ·rename_i a l' ha hl'
   simp only[sJ]at h
   subst h
   intro x hx
   rcases List.mem_cons.1 hx with rfl | hx
   ·unfold cOper at ha
    split at ha
    ·rename_i ax g hopc hg
     cases hdst:okDst n o.dst with
     | false=>rw[hdst]at ha; simp at ha
     | true=>
      rw[hdst]at ha
      simp only[cond_true,sJ]at ha
      subst ha
      simp only
      unfold fillB
      split
      ·exact (cOp_not_fill hopc).elim
      ·rfl
    ·simp at ha
   ·exact ih hl' x hx
  ·simp at h
end Go.Abs
namespace Go.Abs
inductive ACode where
 | skip
 | reg (ops:List AOper)
 | draw (ops:List AOper) (chk:List (List Nat))
 | seq (a b:ACode)
 | cond (c:Opd) (a b:ACode)
 | block (id:Nat) (c:ACode)
 | loop (c:ACode)
 | exit (id:Nat)
 | ret
inductive AEx where
 | normal
 | exit (id:Nat)
 | ret
inductive ARes where
 | t (i:Nat)
 | cell (agg:Bool) (size:Nat) (i:Nat)
structure AFn where
 nt:Nat
 body:ACode
 res:List ARes
section
variable (tb:FuncId→Bool) (call:FuncId→List AVal→AHeap→Option (AVal×AHeap))
def aregs:List AOper→Tr AVal→AHeap→Option (Tr AVal×AHeap)
 | [],T,H=>some (T,H)
 | o::r,T,H=>bif gOK T o.guard then
   match aop tb T H o.op with
   | some (.val v,H')=>aregs r (aput T o.dst v) H'
   | some (.enter f args,H')=>match call f args H' with
    | some (v,H'')=>aregs r (aput T o.dst v) H''
    | none=>none
   | none=>none
  else aregs r (aput T o.dst undefA) H
def aloop(body:Tr AVal→AHeap→Option (AEx×Tr AVal×AHeap)):Nat→Tr AVal→AHeap→Option (AEx×Tr AVal×AHeap)
 | 0,_,_=>none
 | n+1,T,H=>match body T H with
  | some (.normal,T',H')=>aloop body n T' H'
  | some (e,T',H')=>some (e,T',H')
  | none=>none
def adraw(ops:List AOper)(chk:List (List Nat))(T:Tr AVal)(H:AHeap):Option (AEx×Tr AVal×AHeap):=
 match atrace tb call ops T H with
 | some ss=>bif chkRun tb (H::ss.map (·.2)) ops chk ss T then some (.normal,tsel (fun _=>true) 0 ops ss T,hAt H ss ops.length) else none
 | none=>none
def aexec(k:Nat):ACode→Tr AVal→AHeap→Option (AEx×Tr AVal×AHeap)
 | .skip,T,H=>some (.normal,T,H)
 | .reg ops,T,H=>match aregs tb call ops T H with
  | some (T',H')=>some (.normal,T',H')
  | none=>none
 | .draw ops chk,T,H=>adraw tb call (claims H.next ops) chk T (reserves H ops)
 | .seq a b,T,H=>match aexec k a T H with
  | some (.normal,T',H')=>aexec k b T' H'
  | some (e,T',H')=>some (e,T',H')
  | none=>none
 | .cond c a b,T,H=>match ev T c with
  | .bool true=>aexec k a T H
  | .bool false=>aexec k b T H
  | _=>none
 | .block id c,T,H=>match aexec k c T H with
  | some (.exit j,T',H')=>bif Nat.beq j id then some (.normal,T',H') else some (.exit j,T',H')
  | some (e,T',H')=>some (e,T',H')
  | none=>none
 | .loop c,T,H=>aloop (aexec k c) k T H
 | .exit id,T,H=>some (.exit id,T,H)
 | .ret,T,H=>some (.ret,T,H)
end
def ares(T:Tr AVal)(H:AHeap):List ARes→Option (List AVal)
 | []=>some []
 | .t i::r=>match ares T H r with
  | some l=>some (ev T (.t i)::l)
  | none=>none
 | .cell g n i::r=>match oLoad g n H (ev T (.t i)),ares T H r with
  | some x,some l=>some (x::l)
  | _,_=>none
def aresV:List AVal→AVal
 | [x]=>x
 | l=>.tuple l
def putArgs:List AVal→Nat→Tr AVal→Tr AVal
 | [],_,T=>T
 | x::r,i,T=>putArgs r (i+1) (T.set i x)
structure PMd where
 ps:List Nat
 df:Option (Nat×Nat×Bool)
structure ANat where
 is:FuncId→Bool
 run:FuncId→List AVal→AHeap→Option (AVal×AHeap)
 md:Nat→Option PMd
def tbA(N:ANat)(A:Tr AFn):FuncId→Bool:=fun f=>bif N.is f then true else match A.get f with | some _=>true | none=>false
def acall(N:ANat)(tab:Tr AFn):Nat→FuncId→List AVal→AHeap→Option (AVal×AHeap)
 | 0,_,_,_=>none
 | n+1,f,args,H=>bif N.is f then N.run f args H else match tab.get f with
  | some fn=>bif Nat.ble args.length fn.nt then
    match aexec (tbA N tab) (acall N tab n) n fn.body (putArgs args 0 .e) H with
    | some (.exit _,_,_)=>none
    | some (_,T,H')=>match ares T H' fn.res with
     | some l=>some (aresV l,H')
     | none=>none
    | none=>none
   else none
  | none=>none
section
variable (P:Program)
def stuckC:ACode:=.reg [⟨none,.bad,none⟩]
def cDrawM(es:List (List Nat))(l:List AOper)(ms:List Nat):ACode:=
 bif okMask es ms&&(okPairsM l ms&&(okLoadsM l ms&&(okStays l&&l.all fun o=>(newOf o.op).isNone))) then
  .seq (.draw l ((List.range l.length).map (chkOf l ms))) (.reg ((checksM l ms).map checkOp)) else stuckC
def cCode(n:Nat):Code→Option ACode
 | .skip=>some .skip
 | .region _ ops false=>match cOpers P n ops ops.toList with
  | some l=>some (.reg l)
  | none=>none
 | .region _ ops true=>match cOpers P n ops ops.toList with
  | some l=>bif okMask (ops.toList.map bindE) (masksGo [] (ops.toList.map bindE))&&okPairs (claims 0 l) (masksGo [] (ops.toList.map bindE)) then
    some (.draw l ((List.range l.length).map (chkOf (claims 0 l) (masksGo [] (ops.toList.map bindE))))) else some (cDrawM (ops.toList.map bindE) l (masksGo [] (ops.toList.map bindE)))
  | none=>none
 | .seq a b=>match cCode n a,cCode n b with
  | some a,some b=>some (.seq a b)
  | _,_=>none
 | .cond c a b=>match cOpd c,cCode n a,cCode n b with
  | some c,some a,some b=>some (.cond c a b)
  | _,_,_=>none
 | .block id c=>match cCode n c with
  | some c=>some (.block id c)
  | none=>none
 | .loop c=>match cCode n c with
  | some c=>some (.loop c)
  | none=>none
 | .exit id=>some (.exit id)
 | .ret=>some .ret
 | _=>some stuckC
def cRes:List ResultVar→Option (List ARes)
 | []=>some []
 | .tmp t::r=>match cRes r with
  | some l=>some (.t t::l)
  | none=>none
 | .cell a t::r=>match tyOf P t,cRes r with
  | some (g,n),some l=>some (.cell g n a::l)
  | _,_=>none
def cFn(f:FuncId):Option AFn:=
 match P.funcs[f]? with
 | some fn=>match fn.body with
  | some c => bif fn.name == "runtime.NumGoroutine" then none else
   match cCode P fn.ntmps c,cRes P fn.results.toList with
   | some b,some r=>some ⟨fn.ntmps,b,r⟩
   | _,_=>none
  | none=>none
 | none=>none
end
section
variable {P:Program} {Prot:Gh} {w0:World} {ρ:Pl} {H H':AHeap} {w:World}
def SimQ(P:Program)(Prot:Gh)(w0:World)(ds:List Deferred)(ρ:Pl)(n:Nat)(e:AEx)(T:Tr AVal)(H:AHeap):Exit→Act→World→Prop:=fun e' a w=>
 (match e with | .normal=>e'=.normal | .exit id=>e'=.exit id | .ret=>e'=.ret)∧∃ρ',ρ.le ρ'∧Rel Prot w0 ρ' H w∧TmpsRel ρ' n T a.tmps∧a.defers=ds
theorem regs_sim{tb:FuncId→Bool}(htb:∀f,Nat.blt f BIG=true→tb f=true→hasBody P f=true){call:FuncId→List AVal→AHeap→Option (AVal×AHeap)}(hcall:CallOK P call){ds:List Deferred}{n:Nat}{ops:Array Oper}{Q:Exit→Act→World→Prop} :
  ∀(rest:List Oper) (i:Nat) (l:List AOper),(∀j,rest[j]?=ops[i+j]?)→cOpers P n ops rest=some l→∀(ρ0 ρ:Pl) (T T':Tr AVal) (H H':AHeap) (a:Act) (w:World),ρ0.le ρ →
   Rel Prot w0 ρ H w→TmpsRel ρ n T a.tmps→a.defers=ds→aregs tb call l T H=some (T',H') →
   (∀a' w',(∃ρ',ρ0.le ρ'∧Rel Prot w0 ρ' H' w'∧TmpsRel ρ' n T' a'.tmps∧a'.defers=ds)→Q .normal a' w')→wpOps P ops Q (List.range' i rest.length) a w:=by
 intro rest
 induction rest with
 | nil=>
  intro i l _ hc ρ0 ρ T T' H H' a w hle R ht hd h hQ
  simp only[cOpers,sJ]at hc
  subst hc
  simp only[aregs,sJ,pJ]at h
  obtain⟨rfl,rfl⟩:=h
  exact hQ a w ⟨ρ,hle,R,ht,hd⟩
 | cons o rest ih=>
  intro i l hi hc ρ0 ρ T T' H H' a w hle R ht hd h hQ
  simp only[cOpers]at hc
  split at hc
  ·rename_i ao l' ha hl
   simp only[sJ]at hc
   subst hc
   have ho:ops[i]?=some o:=by have:=hi 0; simpa using this.symm
   have hnext:∀j,rest[j]?=ops[i+1+j]?:=fun j=>by have:=hi (j+1); simp only[List.getElem?_cons_succ]at this; rw[this]; congr 1; omega
   unfold cOper at ha
   split at ha
   ·rename_i ax g hop hg
    cases hdst:okDst n o.dst with
    | false=>rw[hdst]at ha; simp at ha
    | true=>
     rw[hdst]at ha
     simp only[cond_true,sJ]at ha
     subst ha
     simp only[List.length_cons,List.range'_succ,wpOps,ho]
     simp only[aregs]at h
     rw[guard_ok ht hg]
     cases hgo:gOK T g with
     | false=>
      rw[hgo]at h
      simp only[cond_false]at h
      simp only[Bool.false_eq_true,if_false]
      refine ih (i+1) l' hnext hl ρ0 ρ _ _ _ _ _ _ hle R (put_rel ht hdst undef_rel) ?_ h hQ
      cases hx:o.dst <;> simpa[Act.put] using hd
     | true=>
      rw[hgo]at h
      simp only[cond_true]at h
      simp only[if_true]
      left
      split at h
      ·rename_i v H1 hv
       obtain⟨ρ1,w1,nx,q1,q2,q3,q4⟩:=op_sim htb R ht o hop hv
       simp only[Oper.wp,q2]
       have hd':∀u,(a.put o.dst u).defers=ds:=fun u=>by cases hx:o.dst <;> simpa[Act.put] using hd
       cases nx <;> simp only[NxRel]at q4
       case value u=>exact ih (i+1) l' hnext hl ρ0 ρ1 _ _ _ _ _ _ (Pl.le_trans hle q1) q3 (put_rel (ht.mono q1) hdst q4) (hd' _) h hQ
       case skip=>exact ih (i+1) l' hnext hl ρ0 ρ1 _ _ _ _ _ _ (Pl.le_trans hle q1) q3 (put_rel (ht.mono q1) hdst q4) (hd' _) h hQ
      ·rename_i f args H1 hv
       split at h
       ·rename_i v H2 hcl
        obtain⟨ρ1,w1,nx,q1,q2,q3,q4⟩:=op_sim htb R ht o hop hv
        simp only[Oper.wp,q2]
        have hd':∀u,(a.put o.dst u).defers=ds:=fun u=>by cases hx:o.dst <;> simpa[Act.put] using hd
        cases nx <;> simp only[NxRel]at q4
        case enter g vs=>
         obtain⟨rfl,hbig,q5⟩:=q4
         simp only[Oper.upon]
         refine (hcall _ _ _ _ _ hbig hcl Prot w0 ρ1 w1 vs q3 q5).mono fun e w' hr=>?_
         obtain⟨ρ2,u,r1,rfl,r3,r4⟩:=hr
         exact ih (i+1) l' hnext hl ρ0 ρ2 _ _ _ _ _ _ (Pl.le_trans hle (Pl.le_trans q1 r1)) r3 (put_rel ((ht.mono q1).mono r1) hdst r4) (hd' _) h hQ
       ·simp at h
      ·simp at h
   ·simp at ha
  ·simp at hc
theorem SimQ.weaken{ds:List Deferred}{ρ ρ':Pl}{n:Nat}{e:AEx}{T:Tr AVal}{H:AHeap}(h:ρ.le ρ'){e':Exit}{a:Act}{w:World}(q:SimQ P Prot w0 ds ρ' n e T H e' a w):SimQ P Prot w0 ds ρ n e T H e' a w:=by
 obtain⟨h1,ρ2,h2,h3⟩:=q
 exact⟨h1,ρ2,Pl.le_trans h h2,h3⟩
theorem stuck_none{tb:FuncId→Bool}{call:FuncId→List AVal→AHeap→Option (AVal×AHeap)}{k:Nat}{T:Tr AVal}{H:AHeap}:aexec tb call k stuckC T H=none:=rfl
theorem claims_id:∀{l:List AOper} {b:Nat},(l.all fun o=>(newOf o.op).isNone)=true→claims b l=l
 | [],_,_=>rfl
 | o::r,b,h=>by
  simp only[List.all_cons,Bool.and_eq_true,Option.isNone_iff_eq_none]at h
  simp only[claims,h.1,claims_id (l:=r) h.2]
theorem reserves_id:∀{l:List AOper} {H:AHeap},(l.all fun o=>(newOf o.op).isNone)=true→reserves H l=H
 | [],_,_=>rfl
 | o::r,H,h=>by
  simp only[List.all_cons,Bool.and_eq_true,Option.isNone_iff_eq_none]at h
  simp only[reserves,h.1,reserves_id (l:=r) h.2]
theorem aregs_checks{tb:FuncId→Bool}{call:FuncId→List AVal→AHeap→Option (AVal×AHeap)}:∀(ps:List (Opd×Opd)) {T T':Tr AVal} {H H':AHeap},aregs tb call (ps.map checkOp) T H=some (T',H') →
  T'=T∧H'=H∧∀p∈ps,apB (ev T p.1) (ev T p.2)=true
 | [],T,T',H,H',h=>by
  simp only[List.map_nil,aregs,sJ,pJ]at h
  exact⟨h.1.symm,h.2.symm,by simp⟩
 | p::r,T,T',H,H',h=>by
  simp only[List.map_cons,aregs,checkOp,gOK,cond_true,aop,aPf,evs,aApart]at h
  cases hp:apB (ev T p.1) (ev T p.2) with
  | false=>rw[hp]at h; simp[vv]at h
  | true=>
   rw[hp]at h
   simp only[cond_true,vv,aput]at h
   obtain⟨h1,h2,h3⟩:=aregs_checks r h
   refine⟨h1,h2,fun q hq=>?_⟩
   rcases List.mem_cons.1 hq with rfl | hq
   ·exact hp
   ·exact h3 q hq
theorem code_sim(hfol:P.follows .mixedOrders=true){tb:FuncId→Bool}(htb:∀f,Nat.blt f BIG=true→tb f=true→hasBody P f=true){call:FuncId→List AVal→AHeap→Option (AVal×AHeap)}(hcall:CallOK P call){ds:List Deferred}{n k:Nat} :
  ∀(c:Code) (ac:ACode),cCode P n c=some ac→∀(ρ:Pl) (T T':Tr AVal) (H H':AHeap) (e:AEx) (a:Act) (w:World),
   Rel Prot w0 ρ H w→TmpsRel ρ n T a.tmps→a.defers=ds→aexec tb call k ac T H=some (e,T',H')→c.wp P (SimQ P Prot w0 ds ρ n e T' H') a w:=by
 intro c
 induction c with
 | skip=>
  intro ac hc ρ T T' H H' e a w R ht hd h
  simp only[cCode,sJ]at hc; subst hc
  simp only[aexec,sJ,pJ]at h
  obtain⟨rfl,rfl,rfl⟩:=h
  exact wp_skip ⟨rfl,ρ,Pl.le_refl _,R,ht,hd⟩
 | region id ops draw=>
  intro ac hc ρ T T' H H' e a w R ht hd h
  cases draw with
  | true=>
   simp only[cCode]at hc
   split at hc
   ·rename_i l hl
    cases hck:(okMask (ops.toList.map bindE) (masksGo [] (ops.toList.map bindE))&&okPairs (claims 0 l) (masksGo [] (ops.toList.map bindE))) with
    | false=>
     rw[hck]at hc
     simp only[cond_false,sJ]at hc; subst hc
     clear hck
     unfold cDrawM at h
     cases hck:(okMask (ops.toList.map bindE) (masksGo [] (ops.toList.map bindE))&&(okPairsM l (masksGo [] (ops.toList.map bindE))&&(okLoadsM l (masksGo [] (ops.toList.map bindE))&&(okStays l&&l.all fun o=>(newOf o.op).isNone)))) with
     | false=>rw[hck]at h; simp[stuck_none]at h
     | true=>
      rw[hck,cond_true]at h
      simp only[Bool.and_eq_true]at hck
      obtain⟨c1,c2,c3,c4,c5⟩:=hck
      have hlen:l.length=ops.toList.length:=(opers_at hl).1
      simp only[aexec,adraw,claims_id c5,reserves_id c5]at h
      cases hss:atrace tb call l T H with
      | none=>rw[hss]at h; simp at h
      | some ss=>
      rw[hss]at h
      simp only at h
      cases hr:chkRun tb (H::ss.map (·.2)) l ((List.range l.length).map (chkOf l (masksGo [] (ops.toList.map bindE)))) ss T with
      | false=>rw[hr]at h; simp at h
      | true=>
       rw[hr]at h
       simp only[cond_true]at h
       cases hg:aregs tb call ((checksM l (masksGo [] (ops.toList.map bindE))).map checkOp) (tsel (fun _=>true) 0 l ss T) (hAt H ss l.length) with
       | none=>rw[hg]at h; simp at h
       | some q=>
       obtain⟨T2,H2⟩:=q
       rw[hg]at h
       simp only[sJ,pJ]at h
       obtain⟨rfl,rfl,rfl⟩:=h
       obtain⟨rfl,rfl,hchecks⟩:=aregs_checks _ hg
       obtain⟨hap,hal⟩:=hap_of hss c4 hchecks
       refine wp_region_any hfol ?_
       have hN:l.length=ops.size:=by simpa using hlen
       have hrep:∀i,(Array.replicate ops.size false).getD i false=false:=fun i=>by
        rw[Array.getD_eq_getD_getElem?,Array.getElem?_replicate]; split <;> rfl
       have hm0:(fun i=>(Array.replicate ops.size false).getD i false)=fun _=>false:=funext hrep
       have hst:stage (fun i=>(Array.replicate ops.size false).getD i false) 0 l=stage (fun _=>false) 0 l:=stage_congr l 0 fun c o _ _=>by simp only[hrep]
       have hH:hAt H ss (stage (fun _=>false) 0 l)=H:=by
        obtain⟨q1,q2,q3,q4⟩:=stage_spec (fun _=>false) l 0
        have:=heap_between hss (stage (fun _=>false) 0 l) 0 om fun c o _ hlt ho=>by
         cases hx:isChain o.op with
         | false=>rfl
         | true=>have:=q3 c o ho hx om; simp at this
        rw[Nat.zero_add]at this
        rw[this]; rfl
       refine draw_mov (Prot:=Prot) (w0:=w0) htb hcall (base:=H.next) hlen (fun j o hj=>let ⟨a,q1,q2⟩:=(opers_at hl).2 j o hj; ⟨a,q1,.inl q2⟩) (fun d hd=>(R.dead d hd).1) (fun i j a b c h1 h2 h3=>?_) (opers_noClaim hl) c1 c2 c3 hss hr hap hal (ρ0:=ρ) (fun a' w' hx=>⟨rfl,hx⟩) ops.size _ a _ (by simp) ?_ (fun j _ hj=>by rw[hrep]at hj; simp at hj) ⟨ρ,H,Pl.le_refl _,?_,?_,?_,hd⟩
       ·exact absurd h3 (by rw[opers_noFill hl a (List.mem_of_getElem? h1)]; simp)
       ·rw[hm0]
        have:∀k,unl (fun _=>false) k=k:=by
         intro k
         induction k with
         | zero=>rfl
         | succ k ih=>simp only[unl,ih,cond_false]
        exact this _
       ·rw[hst,hm0]
        refine⟨by rw[hH],fun x _=>by rw[hH],fun q x _ h2=>?_⟩
        exact absurd h2.1 (by simp)
       ·rw[hm0]
        refine R.drew.fewer (D:=asideF Prot.dead l fun _=>false) fun d hd=>?_
        rcases hd with hd | ⟨i,a,h1,h2,_⟩
        ·exact hd
        ·rw[opers_noFill hl a (List.mem_of_getElem? h1)]at h2; simp at h2
       ·refine ht.congr fun t=>?_
        rw[hm0]
        have:∀(l:List AOper) (ss:List (AVal×AHeap)) (k:Nat) (T:Tr AVal),tsel (fun _=>false) k l ss T=T:=by
         intro l
         induction l with
         | nil=>intro ss k T; cases ss <;> rfl
         | cons o r ih=>intro ss k T; cases ss with
          | nil=>rfl
          | cons s ss=>obtain⟨x,y⟩:=s; simp only[tsel,cond_false,ih]
        rw[this]
    | true=>
     rw[hck]at hc
     simp only[cond_true,sJ]at hc; subst hc
     simp only[Bool.and_eq_true]at hck
     have hnc:=opers_noClaim hl
     have hlk:=claims_like l H.next 0
     have hok:okPairs (claims H.next l) (masksGo [] (ops.toList.map bindE))=true:=by rw[okPairs_like hlk]; exact hck.2
     have hlen:(claims H.next l).length=ops.toList.length:=(claims_at hl H.next).1
     have hll:l.length=(claims H.next l).length:=by rw[hlen]; exact (opers_at hl).1
     have hchk:(List.range l.length).map (chkOf (claims 0 l) (masksGo [] (ops.toList.map bindE)))=(List.range (claims H.next l).length).map (chkOf (claims H.next l) (masksGo [] (ops.toList.map bindE))):=by
      rw[hll]
      exact List.map_congr_left fun j _=>(chkOf_like hlk _ j).symm
     have hbase:∀d,Prot.dead d→d<H.next:=fun d hd=>(R.dead d hd).1
     have R:=reserves_rel (pr:=Prot.prot) l Prot.dead H hnc R
     simp only[aexec,adraw]at h
     rw[hchk]at h
     generalize hcl:claims H.next l=m at *
     generalize hrv:reserves H l=K at *
     split at h
     ·rename_i ss hss
      cases hr:chkRun tb (K::ss.map (·.2)) m ((List.range m.length).map (chkOf m (masksGo [] (ops.toList.map bindE)))) ss T with
      | false=>rw[hr]at h; simp at h
      | true=>
       rw[hr]at h
       simp only[cond_true,sJ,pJ]at h
       obtain⟨rfl,rfl,rfl⟩:=h
       refine wp_region_any hfol ?_
       have hN:m.length=ops.size:=by simpa using hlen
       have hrep:∀i,(Array.replicate ops.size false).getD i false=false:=fun i=>by
        rw[Array.getD_eq_getD_getElem?,Array.getElem?_replicate]; split <;> rfl
       have hm0:(fun i=>(Array.replicate ops.size false).getD i false)=fun _=>false:=funext hrep
       have hst:stage (fun i=>(Array.replicate ops.size false).getD i false) 0 m=stage (fun _=>false) 0 m:=stage_congr m 0 fun c o _ _=>by simp only[hrep]
       have hH:hAt K ss (stage (fun _=>false) 0 m)=K:=by
        obtain⟨q1,q2,q3,q4⟩:=stage_spec (fun _=>false) m 0
        have:=heap_between hss (stage (fun _=>false) 0 m) 0 om fun c o _ hlt ho=>by
         cases hx:isChain o.op with
         | false=>rfl
         | true=>have:=q3 c o ho hx om; simp at this
        rw[Nat.zero_add]at this
        rw[this]; rfl
       refine draw_any (RAW:=False) (rp:=fun _=>False) (Prot:=Prot) (w0:=w0) htb hcall (fun h=>h.elim) (fun h=>h.elim) (base:=H.next) hlen (by rw[← hcl]; exact fun j o hj=>let ⟨a,q1,q2⟩:=(claims_at hl H.next).2 j o hj; ⟨a,q1,.inl ⟨fun h=>h,q2.imp_right .inl⟩⟩) hbase (by rw[← hcl]; exact claims_inj l H.next hnc) hck.1 hok hss hr (ρ0:=ρ) (fun a' w' hx=>⟨rfl,hx⟩) (fun h=>h.elim) ops.size _ a _ (by simp) ?_ (fun j _ hj=>by rw[hrep]at hj; simp at hj) (fun c h=>h.elim) ⟨ρ,Pl.le_refl _,?_,?_,hd⟩
       ·rw[hm0]
        have:∀k,unl (fun _=>false) k=k:=by
         intro k
         induction k with
         | zero=>rfl
         | succ k ih=>simp only[unl,ih,cond_false]
        exact this _
       ·rw[hst,hH,hm0]; exact R.drew
       ·refine ht.congr fun t=>?_
        rw[hm0]
        have:∀(l:List AOper) (ss:List (AVal×AHeap)) (k:Nat) (T:Tr AVal),tsel (fun _=>false) k l ss T=T:=by
         intro l
         induction l with
         | nil=>intro ss k T; cases ss <;> rfl
         | cons o r ih=>intro ss k T; cases ss with
          | nil=>rfl
          | cons s ss=>obtain⟨x,y⟩:=s; simp only[tsel,cond_false,ih]
        rw[this]
     ·simp at h
   ·simp at hc
  | false=>
   simp only[cCode]at hc
   split at hc
   ·rename_i l hl
    simp only[sJ]at hc; subst hc
    simp only[aexec]at h
    split at h
    ·rename_i T1 H1 h1
     simp only[sJ,pJ]at h
     obtain⟨rfl,rfl,rfl⟩:=h
     refine wp_region ?_
     have:=regs_sim (Prot:=Prot) (w0:=w0) htb hcall (Q:=SimQ P Prot w0 ds ρ n .normal T1 H1) ops.toList 0 l (fun j=>by simp) hl ρ ρ T T1 H H1 a w (Pl.le_refl _) R ht hd h1 (fun a' w' h=>⟨rfl,h⟩)
     rw[List.range_eq_range']
     simpa using this
    ·simp at h
   ·simp at hc
 | seq x y ihx ihy=>
  intro ac hc ρ T T' H H' e a w R ht hd h
  simp only[cCode]at hc
  split at hc
  ·rename_i ax ay hx hy
   simp only[sJ]at hc; subst hc
   simp only[aexec]at h
   split at h
   ·rename_i T1 H1 h1
    refine wp_seq (wp_mono (ihx _ hx ρ T T1 H H1 .normal a w R ht hd h1) ?_)
    rintro e1 a1 w1 ⟨he,ρ1,hl,R1,ht1,hd1⟩
    simp only at he
    subst he
    exact wp_mono (ihy _ hy ρ1 T1 T' H1 H' e a1 w1 R1 ht1 hd1 h) fun _ _ _ q=>q.weaken hl
   ·rename_i e1 T1 H1 hne h1
    simp only[sJ,pJ]at h
    obtain⟨rfl,rfl,rfl⟩:=h
    refine wp_seq (wp_mono (ihx _ hx ρ T T1 H H1 e1 a w R ht hd h1) ?_)
    rintro e2 a1 w1 q
    cases e1 with
    | normal=>exact (hne rfl).elim
    | exit id=>have:=q.1; simp only at this; subst this; exact q
    | ret=>have:=q.1; simp only at this; subst this; exact q
   ·simp at h
  ·simp at hc
 | cond c x y ihx ihy=>
  intro ac hc ρ T T' H H' e a w R ht hd h
  simp only[cCode]at hc
  split at hc
  ·rename_i c' ax ay hcc hx hy
   simp only[sJ]at hc; subst hc
   simp only[aexec]at h
   have hv:=opd_ok ht hcc
   split at h
   ·rename_i hb
    rw[hb]at hv
    simp only[VRel]at hv
    exact wp_cond_true hv (ihx _ hx ρ T T' H H' e a w R ht hd h)
   ·rename_i hb
    rw[hb]at hv
    simp only[VRel]at hv
    exact wp_cond_false hv (ihy _ hy ρ T T' H H' e a w R ht hd h)
   ·simp at h
  ·simp at hc
 | block id c ih=>
  intro ac hc ρ T T' H H' e a w R ht hd h
  simp only[cCode]at hc
  split at hc
  ·rename_i ax hx
   simp only[sJ]at hc; subst hc
   simp only[aexec]at h
   split at h
   ·rename_i j T1 H1 h1
    refine wp_block (wp_mono (ih _ hx ρ T T1 H H1 (.exit j) a w R ht hd h1) ?_)
    rintro e1 a1 w1 q
    have he:=q.1
    simp only at he
    subst he
    cases hb:Nat.beq j id with
    | true=>
     rw[hb]at h
     simp only[cond_true,sJ,pJ]at h
     obtain⟨rfl,rfl,rfl⟩:=h
     have:=Nat.eq_of_beq_eq_true hb
     simp only[Exit.inBlock,this,if_true]
     exact⟨rfl,q.2⟩
    | false=>
     rw[hb]at h
     simp only[cond_false,sJ,pJ]at h
     obtain⟨rfl,rfl,rfl⟩:=h
     have:¬j=id:=fun e=>by rw[e,Nat.beq_refl]at hb; simp at hb
     simp only[Exit.inBlock,this,if_false]
     exact q
   ·rename_i e1 T1 H1 hne h1
    simp only[sJ,pJ]at h
    obtain⟨rfl,rfl,rfl⟩:=h
    refine wp_block (wp_mono (ih _ hx ρ T T1 H H1 e1 a w R ht hd h1) ?_)
    rintro e2 a1 w1 q
    cases e1 with
    | normal=>have:=q.1; simp only at this; subst this; exact q
    | exit j=>exact (hne _ rfl).elim
    | ret=>have:=q.1; simp only at this; subst this; exact q
   ·simp at h
  ·simp at hc
 | loop c ih=>
  intro ac hc ρ T T' H H' e a w R ht hd h
  simp only[cCode]at hc
  split at hc
  ·rename_i ax hx
   simp only[sJ]at hc; subst hc
   simp only[aexec]at h
   refine wp_loop_rounds k ?_
   have key:∀(m:Nat) (T:Tr AVal) (H:AHeap) (ρ1:Pl) (a:Act) (w:World),ρ.le ρ1→Rel Prot w0 ρ1 H w→TmpsRel ρ1 n T a.tmps→a.defers=ds →
     aloop (aexec tb call k ax) m T H=some (e,T',H')→Code.rounds P c (SimQ P Prot w0 ds ρ n e T' H') m a w:=by
    intro m
    induction m with
    | zero=>intro T H ρ1 a w _ _ _ _ h; simp[aloop]at h
    | succ m ihm=>
     intro T H ρ1 a w hl R ht hd h
     rw[rounds_succ]
     simp only[aloop]at h
     split at h
     ·rename_i T1 H1 h1
      refine wp_mono (ih _ hx ρ1 T T1 H H1 .normal a w R ht hd h1) ?_
      rintro e1 a1 w1 ⟨he,ρ2,hl2,R1,ht1,hd1⟩
      simp only at he
      subst he
      exact ihm T1 H1 ρ2 a1 w1 (Pl.le_trans hl hl2) R1 ht1 hd1 h
     ·rename_i e1 T1 H1 hne h1
      simp only[sJ,pJ]at h
      obtain⟨rfl,rfl,rfl⟩:=h
      refine wp_mono (ih _ hx ρ1 T T1 H H1 e1 a w R ht hd h1) ?_
      rintro e2 a1 w1 q
      have q':=q.weaken hl
      cases e1 with
      | normal=>exact (hne rfl).elim
      | exit id=>have:=q.1; simp only at this; subst this; exact q'
      | ret=>have:=q.1; simp only at this; subst this; exact q'
     ·simp at h
   exact key k T H ρ a w (Pl.le_refl _) R ht hd h
  ·simp at hc
 | exit id=>
  intro ac hc ρ T T' H H' e a w R ht hd h
  simp only[cCode,sJ]at hc; subst hc
  simp only[aexec,sJ,pJ]at h
  obtain⟨rfl,rfl,rfl⟩:=h
  exact wp_exit ⟨rfl,ρ,Pl.le_refl _,R,ht,hd⟩
 | ret=>
  intro ac hc ρ T T' H H' e a w R ht hd h
  simp only[cCode,sJ]at hc; subst hc
  simp only[aexec,sJ,pJ]at h
  obtain⟨rfl,rfl,rfl⟩:=h
  exact wp_ret ⟨rfl,ρ,Pl.le_refl _,R,ht,hd⟩
 | _=>
  intro ac hc ρ T T' H H' e a w R ht hd h
  simp only[cCode,sJ]at hc; subst hc
  simp[stuck_none]at h
theorem res_sim{n:Nat}(R:Rel Prot w0 ρ H w){T:Tr AVal}{tmps:Array Value}(ht:TmpsRel ρ n T tmps):∀{rs:List ResultVar} {l:List ARes},cRes P rs=some l→∀{xs:List AVal},ares T H l=some xs →
  ∃vs:List Value,(rs.mapM (fun r=>match r with
   | .tmp t=>Pure.pure (tmps.getD t undef)
   | .cell a t=>do loadVar t (← asAddr (tmps.getD a undef))):Sem (List Value)).run P w=.ok vs w∧VRels ρ xs vs:=by
 intro rs
 induction rs with
 | nil=>
  intro l hc xs h
  simp only[cRes,sJ]at hc; subst hc
  simp only[ares,sJ]at h; subst h
  exact⟨[],rfl,by simp[VRels]⟩
 | cons r rs ih=>
  intro l hc xs h
  cases r with
  | tmp t=>
   simp only[cRes]at hc
   split at hc
   ·rename_i l' hl
    simp only[sJ]at hc; subst hc
    simp only[ares]at h
    split at h
    ·rename_i ys hy
     simp only[sJ]at h; subst h
     obtain⟨vs,h1,h2⟩:=ih hl hy
     refine⟨tmps.getD t undef::vs,?_,by simp only[VRels]; exact⟨_,_,rfl,ht.at_ t,h2⟩⟩
     simp only[List.mapM_cons,Sem.run_bind,Sem.run_pure,Result.andThen_ok,h1]
    ·simp at h
   ·simp at hc
  | cell a t=>
   simp only[cRes]at hc
   split at hc
   ·rename_i g k l' hk hl
    simp only[sJ]at hc; subst hc
    simp only[ares]at h
    split at h
    ·rename_i x ys hx hy
     simp only[sJ]at h; subst h
     obtain⟨vs,h1,h2⟩:=ih hl hy
     obtain⟨u,u1,u2⟩:=load_ok (P:=P) R (ty_of hk) (ht.at_ a) hx
     have hp:∃ad,tmps.getD a undef=.pointer (some ad):=by
      have hat:=ht.at_ a
      unfold oLoad at hx
      split at hx
      ·rename_i ad heq
       rw[heq]at hat
       simp only[VRel]at hat
       obtain⟨L,_,_,e⟩:=hat
       exact⟨_,e⟩
      ·simp at hx
     obtain⟨ad,had⟩:=hp
     refine⟨u::vs,?_,by simp only[VRels]; exact⟨_,_,rfl,u2,h2⟩⟩
     have:(loadVar t ad).run P w=.ok u w:=by
      rw[had]at u1
      simpa[Instr.loadAt,Instr.sureAddr] using u1
     have hA:(asAddr (tmps.getD a undef)).run P w=.ok ad w:=by rw[had]; rfl
     simp only[List.mapM_cons,Sem.run_bind,hA,Sem.run_pure,Result.andThen_ok,this,h1]
    ·simp at h
   ·simp at hc
theorem results_sim{n:Nat}(R:Rel Prot w0 ρ H w){T:Tr AVal}{tmps:Array Value}(ht:TmpsRel ρ n T tmps){fn:Func}{l:List ARes}(hc:cRes P fn.results.toList=some l){xs:List AVal}(h:ares T H l=some xs) :
  ∃v,(results fn tmps).run P w=.ok v w∧VRel ρ (aresV xs) v:=by
 obtain⟨vs,h1,h2⟩:=res_sim (P:=P) R ht hc h
 have hl:=VRels.len h2
 have hm:(fn.results.mapM (fun r=>match r with
   | .tmp t=>Pure.pure (tmps.getD t undef)
   | .cell a t=>do loadVar t (← asAddr (tmps.getD a undef))):Sem (Array Value)).run P w=.ok vs.toArray w:=by
  rw[Array.mapM_eq_mapM_toList]
  simp only[Sem.run_map,h1,Result.andThen_ok]
 refine⟨if h:vs.toArray.size=1 then vs.toArray[0] else .tuple vs.toArray,?_,?_⟩
 ·have e:results fn tmps=(fn.results.mapM (fun r=>match r with
   | .tmp t=>Pure.pure (tmps.getD t undef)
   | .cell a t=>do loadVar t (← asAddr (tmps.getD a undef))):Sem (Array Value)) >>= fun vs=>Pure.pure (if h:vs.size=1 then vs[0] else .tuple vs):=rfl
  rw[e,Sem.run_bind,hm]
  rfl
 ·match xs,vs,h2,hl with
  | [x],[v],h2,_=>
   simp only[VRels]at h2
   obtain⟨v',r,e,h3,_⟩:=h2
   simp only[List.cons.injEq]at e
   obtain⟨rfl,rfl⟩:=e
   exact h3
  | [],[],h2,_=>simp only[aresV,VRel]; exact⟨_,rfl,h2⟩
  | x::y::xs,v::u::vs,h2,_=>simp only[aresV,VRel]; exact⟨_,rfl,h2⟩
theorem args_sim:∀(args:List AVal) (vs:List Value) (i:Nat) (T:Tr AVal),VRels ρ args vs→(∀t,i≤t→T.get t=none) →
  ∀t,ev (putArgs args i T) (.t t)=if t<i then ev T (.t t) else match args[t-i]? with | some x=>x | none=>undefA:=by
 intro args
 induction args with
 | nil=>
  intro vs i T _ hn t
  simp only[putArgs]
  split
  ·rfl
  ·rename_i h
   simp[ev,hn t om]
 | cons x r ih=>
  intro vs i T hv hn t
  simp only[VRels]at hv
  obtain⟨v,vs',rfl,h1,h2⟩:=hv
  simp only[putArgs]
  rw[ih vs' (i+1) (T.set i x) h2 (fun t ht=>by rw[Tr.get_set,if_neg om]; exact hn t om) t]
  by_cases c1:t<i
  ·rw[if_pos om,if_pos c1]
   simp only[ev,Tr.get_set]
   rw[if_neg om]
  ·by_cases c2:t=i
   ·subst c2
    rw[if_pos om,if_neg c1]
    simp[ev,Tr.get_set]
   ·rw[if_neg om,if_neg c1,show t-i=(t-(i+1))+1 by omega]
    simp
theorem start_sim{args:List AVal}{vs:Array Value}(hv:VRels ρ args vs.toList){n:Nat}(hn:args.length≤n):TmpsRel ρ n (putArgs args 0 .e) (vs++Array.replicate (n-vs.size) undef):=by
 have hl:=VRels.len hv
 simp only[Array.length_toList]at hl
 refine⟨by simp; omega,fun t=>?_⟩
 rw[args_sim args vs.toList 0 .e hv (fun _ _=>rfl) t]
 rw[if_neg om,Nat.sub_zero]
 by_cases ht:t<args.length
 ·have hx:args[t]?=some args[t]:=List.getElem?_eq_getElem ht
  obtain⟨v,h1,h2⟩:=hv.nth _ _ hx
  rw[hx]
  rw[Array.getElem?_toList]at h1
  have:(vs++Array.replicate (n-vs.size) undef).getD t undef=v:=by
   rw[Array.getD_eq_getD_getElem?,Array.getElem?_append_left om,h1]; rfl
  rw[this]
  exact h2
 ·have hx:args[t]?=none:=List.getElem?_eq_none om
  rw[hx]
  have:(vs++Array.replicate (n-vs.size) undef).getD t undef=undef:=by
   rw[Array.getD_eq_getD_getElem?,Array.getElem?_append_right om]
   by_cases h:t-vs.size<n-vs.size
   ·simp[h]
   ·simp[h]
  rw[this]
  exact undef_rel
theorem cFn_spec {f : FuncId} {fn : AFn} (h : cFn P f = some fn) : ∃ fc code, P.funcs[f]? = some fc ∧ fc.body = some code ∧ (fc.name == "runtime.NumGoroutine") = false ∧ fc.ntmps = fn.nt ∧ cCode P fn.nt code = some fn.body ∧ cRes P fc.results.toList = some fn.res := by
 unfold cFn at h
 split at h
 ·rename_i fc hf
  split at h
  ·rename_i c hb
   cases hn : (fc.name == "runtime.NumGoroutine") with
   | true=>rw[hn]at h; simp at h
   | false=>
    rw[hn]at h
    simp only[cond_false]at h
    split at h
    ·rename_i b r h1 h2
     simp only[sJ]at h
     subst h
     exact⟨fc,c,hf,hb,hn,rfl,h1,h2⟩
    ·simp at h
  ·simp at h
 ·simp at h
structure NatOK(P:Program)(N:ANat):Prop where
 body:∀f,N.is f=true→hasBody P f=true
 run:CallOK P N.run
end
end Go.Abs
namespace Go.Abs
def opdT(n:Nat):Opd→Bool
 | .t i=>Nat.blt i n
 | _=>true
def opdsT(n:Nat):List Opd→Bool
 | []=>true
 | x::r=>opdT n x&&opdsT n r
def opdOT(n:Nat):Option Opd→Bool
 | none=>true
 | some x=>opdT n x
def partsT(n:Nat):List (Nat×Nat×Opd)→Bool
 | []=>true
 | (_,_,x)::r=>opdT n x&&partsT n r
def aopT(n:Nat):AOp→Bool
 | .mv x=>opdT n x
 | .pick c a b=>opdT n c&&(opdT n a&&opdT n b)
 | .new _=>true
 | .box x=>opdT n x
 | .build _ ps=>partsT n ps
 | .buildSl _ _ ps=>partsT n ps
 | .load _ _ x=>opdT n x
 | .store _ a x=>opdT n a&&opdT n x
 | .nilChk x=>opdT n x
 | .bin _ x y=>opdT n x&&opdT n y
 | .un _ x=>opdT n x
 | .conv _ x=>opdT n x
 | .convSB x=>opdT n x
 | .convBS x=>opdT n x
 | .mkFunc _ a b=>opdsT n a&&opdsT n b
 | .mkIface _ x=>opdT n x
 | .mkSlice _ _ l c=>opdT n l&&opdT n c
 | .sl _ x a b c=>opdT n x&&(opdOT n a&&(opdOT n b&&opdOT n c))
 | .slStr x a b=>opdT n x&&(opdOT n a&&opdOT n b)
 | .fieldA _ x=>opdT n x
 | .field _ _ _ x=>opdT n x
 | .idxA _ x i=>opdT n x&&opdT n i
 | .idxArr _ _ x i=>opdT n x&&opdT n i
 | .idx _ _ _ x i=>opdT n x&&opdT n i
 | .idxS x i=>opdT n x&&opdT n i
 | .extract _ x=>opdT n x
 | .append _ _ s x=>opdT n s&&opdT n x
 | .len _ x=>opdT n x
 | .call _ l=>opdsT n l
 | .callv f l=>opdT n f&&opdsT n l
 | .pf _ l=>opdsT n l
 | .hf _ l=>opdsT n l
 | .bad=>true
 | .claim ..=>true
 | .slA _ _ x a b c=>opdT n x&&(opdOT n a&&(opdOT n b&&opdOT n c))
def gdTm(n:Nat):Option (Nat×Bool)→Bool
 | none=>true
 | some (t,_)=>Nat.blt (gS t) n
def aoperT(n:Nat)(o:AOper):Bool:=aopT n o.op&&(gdTm n o.guard&&okDst n o.dst)
def GE(n:Nat)(T U:Tr AVal):Prop:=(∀t,t<n→ev T (.t t)=ev U (.t t))∧∀t,n≤t→ev U (.t t)=undefA
section
variable {n:Nat} {T U:Tr AVal} {tb:FuncId→Bool} {call:FuncId→List AVal→AHeap→Option (AVal×AHeap)}
theorem blt_lt{a b:Nat}(h:Nat.blt a b=true):a<b:=Nat.le_of_ble_eq_true h
theorem GE.x(h:GE n T U){x:Opd}(hx:opdT n x=true):ev T x=ev U x:=by
 cases x with
 | t i=>exact h.1 i (blt_lt hx)
 | c v=>rfl
 | f i=>rfl
theorem GE.xs(h:GE n T U):∀{l:List Opd},opdsT n l=true→evs T l=evs U l
 | [],_=>rfl
 | x::r,hx=>by
  simp only[opdsT,Bool.and_eq_true]at hx
  simp only[evs,h.x hx.1,h.xs hx.2]
theorem GE.xO(h:GE n T U){x:Option Opd}(hx:opdOT n x=true):evO T x=evO U x:=by
 cases x with
 | none=>rfl
 | some x=>simp only[evO,h.x hx]
theorem GE.xP(h:GE n T U):∀{l:List (Nat×Nat×Opd)},partsT n l=true→evP T l=evP U l
 | [],_=>rfl
 | (a,b,x)::r,hx=>by
  simp only[partsT,Bool.and_eq_true]at hx
  simp only[evP,h.x hx.1,h.xP hx.2]
theorem aop_ge(h:GE n T U){o:AOp}(ho:aopT n o=true)(H:AHeap):aop tb T H o=aop tb U H o:=by
 cases o <;> simp only[aopT,Bool.and_eq_true]at ho <;> simp only[aop]
 case mv x=>rw[h.x ho]
 case pick c a b=>rw[h.x ho.1,h.x ho.2.1,h.x ho.2.2]
 case box x=>rw[h.x ho]
 case build z ps=>rw[h.xP ho]
 case buildSl m z ps=>rw[h.xP ho]
 case load a m x=>rw[h.x ho]
 case store m a x=>rw[h.x ho.1,h.x ho.2]
 case nilChk x=>rw[h.x ho]
 case bin op x y=>rw[h.x ho.1,h.x ho.2]
 case un op x=>rw[h.x ho]
 case conv k x=>rw[h.x ho]
 case convSB x=>rw[h.x ho]
 case convBS x=>rw[h.x ho]
 case mkFunc fn a b=>rw[h.xs ho.1,h.xs ho.2]
 case mkIface t x=>rw[h.x ho]
 case mkSlice b z l c=>rw[h.x ho.1,h.x ho.2]
 case sl m x a b c=>rw[h.x ho.1,h.xO ho.2.1,h.xO ho.2.2.1,h.xO ho.2.2.2]
 case slStr x a b=>rw[h.x ho.1,h.xO ho.2.1,h.xO ho.2.2]
 case fieldA o x=>rw[h.x ho]
 case field a m o x=>rw[h.x ho]
 case idxA m x i=>rw[h.x ho.1,h.x ho.2]
 case idxArr m k x i=>rw[h.x ho.1,h.x ho.2]
 case idx m k a x i=>rw[h.x ho.1,h.x ho.2]
 case idxS x i=>rw[h.x ho.1,h.x ho.2]
 case extract i x=>rw[h.x ho]
 case append m b s x=>rw[h.x ho.1,h.x ho.2]
 case len s x=>rw[h.x ho]
 case call f l=>rw[h.xs ho]
 case callv f l=>rw[h.x ho.1,h.xs ho.2]
 case pf f l=>rw[h.xs ho]
 case hf f l=>rw[h.xs ho]
 case slA m k x a b c=>rw[h.x ho.1,h.xO ho.2.1,h.xO ho.2.2.1,h.xO ho.2.2.2]
theorem gOK_ge(h:GE n T U){g:Option (Nat×Bool)}(hg:gdTm n g=true):gOK T g=gOK U g:=by
 cases g with
 | none=>rfl
 | some p=>
  obtain⟨t,b⟩:=p
  simp only[gOK,h.1 (gS t) (blt_lt hg)]
theorem ev_set(T:Tr AVal)(d t:Nat)(v:AVal):ev (T.set d v) (.t t)=if t=d then v else ev T (.t t):=by
 simp only[ev,Tr.get_set]
 split
 ·rename_i u h
  split at h
  ·rename_i e; rw[if_pos e]; simpa using h.symm
  ·rename_i e; rw[if_neg e,h]
 ·rename_i h
  split at h
  ·simp at h
  ·rename_i e; rw[if_neg e,h]
theorem ev_aput(T:Tr AVal)(d:Option Nat)(t:Nat)(v:AVal):ev (aput T d v) (.t t)=if d=some t then v else ev T (.t t):=by
 cases d with
 | none=>simp[aput]
 | some d=>
  simp only[aput,ev_set,sJ]
  by_cases e:t=d
  ·rw[if_pos e,if_pos e.symm]
  ·rw[if_neg e,if_neg fun q=>e q.symm]
theorem GE.put(h:GE n T U){d:Option Nat}(hd:okDst n d=true)(v:AVal):GE n (aput T d v) (aput U d v):=by
 refine⟨fun t ht=>?_,fun t ht=>?_⟩
 ·rw[ev_aput,ev_aput,h.1 t ht]
 ·rw[ev_aput,h.2 t ht,if_neg]
  rintro rfl
  have:=blt_lt hd
  omega
theorem GE.ghost(h:GE n T U){d:Nat}(hd:n≤d)(v:AVal):GE n (T.set d v) U:=
 ⟨fun t ht=>by rw[ev_set,if_neg om]; exact h.1 t ht,h.2⟩
def SameG(n:Nat)(T T':Tr AVal):Prop:=∀t,n≤t→ev T' (.t t)=ev T (.t t)
theorem SameG.put{d:Option Nat}(hd:okDst n d=true)(v:AVal):SameG n T (aput T d v):=fun t ht=>by
 rw[ev_aput,if_neg]
 rintro rfl
 have:=blt_lt hd
 omega
theorem SameG.trans{T1 T2:Tr AVal}(h:SameG n T T1)(k:SameG n T1 T2):SameG n T T2:=fun t ht=>(k t ht).trans (h t ht)
theorem astep_ge(h:GE n T U){o:AOper}(ho:aoperT n o=true)(H:AHeap):astep tb call o T H=astep tb call o U H:=by
 simp only[aoperT,Bool.and_eq_true]at ho
 simp only[astep,gOK_ge h ho.2.1,aop_ge h ho.1]
theorem aregs_step'(o:AOper)(r:List AOper)(T:Tr AVal)(H:AHeap):aregs tb call (o::r) T H=match astep tb call o T H with
  | some (v,H')=>aregs tb call r (aput T o.dst v) H'
  | none=>none:=by
 simp only[aregs,astep]
 cases gOK T o.guard with
 | false=>rfl
 | true=>
  simp only[cond_true]
  cases aop tb T H o.op with
  | none=>rfl
  | some p=>obtain⟨nx,H'⟩:=p; cases nx <;> rfl
theorem aregs_app:∀(l m:List AOper) (T:Tr AVal) (H:AHeap),aregs tb call (l++m) T H=match aregs tb call l T H with
  | some (T1,H1)=>aregs tb call m T1 H1
  | none=>none
 | [],m,T,H=>rfl
 | o::l,m,T,H=>by
  rw[List.cons_append,aregs_step',aregs_step']
  cases astep tb call o T H with
  | none=>rfl
  | some p=>obtain⟨v,H1⟩:=p; exact aregs_app l m _ _
theorem atrace_ge:∀(l:List AOper) {T U:Tr AVal} {H:AHeap},GE n T U→l.all (aoperT n)=true→atrace tb call l T H=atrace tb call l U H
 | [],_,_,_,_,_=>rfl
 | o::r,T,U,H,h,hl=>by
  simp only[List.all_cons,Bool.and_eq_true]at hl
  simp only[atrace]
  rw[astep_ge h hl.1]
  cases astep tb call o U H with
  | none=>rfl
  | some p=>
   obtain⟨v,H1⟩:=p
   have hd:okDst n o.dst=true:=by
    have:=hl.1
    simp only[aoperT,Bool.and_eq_true]at this
    exact this.2.2
   simp only
   rw[atrace_ge r (h.put hd v) hl.2]
theorem chkRun_ge(hs:List AHeap):∀(l:List AOper) (ps:List (List Nat)) (ss:List (AVal×AHeap)) {T U:Tr AVal},GE n T U→l.all (aoperT n)=true→chkRun tb hs l ps ss T=chkRun tb hs l ps ss U
 | [],_,_,_,_,_,_=>rfl
 | o::r,[],_,_,_,_,_=>rfl
 | o::r,p::ps,[],_,_,_,_=>rfl
 | o::r,p::ps,(v,H1)::ss,T,U,h,hl=>by
  simp only[List.all_cons,Bool.and_eq_true]at hl
  have ho:=hl.1
  simp only[aoperT,Bool.and_eq_true]at ho
  simp only[chkRun,gOK_ge h ho.2.1,aop_ge h ho.1,chkRun_ge hs r ps ss (h.put ho.2.2 v) hl.2]
theorem tsel_ge(m:Nat→Bool):∀(l:List AOper) (i:Nat) (ss:List (AVal×AHeap)) {T U:Tr AVal},GE n T U→l.all (aoperT n)=true→GE n (tsel m i l ss T) (tsel m i l ss U)∧SameG n T (tsel m i l ss T)
 | [],_,_,_,_,h,_=>⟨h,fun _ _=>rfl⟩
 | o::r,i,[],_,_,h,_=>⟨h,fun _ _=>rfl⟩
 | o::r,i,(v,H1)::ss,T,U,h,hl=>by
  simp only[List.all_cons,Bool.and_eq_true]at hl
  have ho:=hl.1
  simp only[aoperT,Bool.and_eq_true]at ho
  simp only[tsel]
  cases m i with
  | true=>
   obtain⟨q1,q2⟩:=tsel_ge m r (i+1) ss (h.put ho.2.2 v) hl.2
   exact⟨q1,(SameG.put ho.2.2 v).trans q2⟩
  | false=>exact tsel_ge m r (i+1) ss h hl.2
theorem adraw_ge{l:List AOper}{chk:List (List Nat)}{H H':AHeap}{e:AEx}{T':Tr AVal}(h:GE n T U)(hl:l.all (aoperT n)=true)(hr:adraw tb call l chk T H=some (e,T',H')) :
  e=.normal∧∃U',adraw tb call l chk U H=some (.normal,U',H')∧GE n T' U'∧SameG n T T':=by
 unfold adraw at hr ⊢
 rw[atrace_ge l h hl]at hr
 cases ht:atrace tb call l U H with
 | none=>rw[ht]at hr; simp at hr
 | some ss=>
  rw[ht]at hr
  simp only at hr ⊢
  rw[chkRun_ge _ l _ ss h hl]at hr
  cases hc:chkRun tb (H::ss.map (·.2)) l chk ss U with
  | false=>rw[hc]at hr; simp at hr
  | true=>
   rw[hc]at hr
   simp only[cond_true,sJ,pJ]at hr ⊢
   obtain⟨rfl,rfl,rfl⟩:=hr
   obtain⟨q1,q2⟩:=tsel_ge (fun _=>true) l 0 ss h hl
   exact⟨rfl,_,⟨trivial,rfl,rfl⟩,q1,q2⟩
theorem claims_T:∀(l:List AOper) (b:Nat),l.all (aoperT n)=true→(claims b l).all (aoperT n)=true
 | [],_,_=>rfl
 | o::r,b,hl=>by
  simp only[List.all_cons,Bool.and_eq_true]at hl
  simp only[claims]
  cases hz:newOf o.op with
  | none=>simp only[List.all_cons,hl.1,claims_T r b hl.2,Bool.and_self]
  | some p=>
   obtain⟨z,s⟩:=p
   have ho:=hl.1
   simp only[aoperT,Bool.and_eq_true]at ho
   simp only[List.all_cons,claims_T r (b+1) hl.2,aoperT,aopT,ho.2.1,ho.2.2,Bool.and_self]
end
end Go.Abs
namespace Go.Abs
def PB:Nat:=1000000
inductive PItem where
 | ord (o:AOper)
 | pnc (x:Opd)
 | dfr (x:Opd)
 | tc (f:Nat) (args:List Opd) (d:Option Nat) (g:Option (Nat×Bool))
def codeP(n:Nat):List PItem→List AOper→ACode
 | [],acc=>.reg acc.reverse
 | .ord o::r,acc=>codeP n r (o::acc)
 | .dfr x::r,acc=>codeP n r (⟨some (n+1),.pf .dset [.t (n+1),x],none⟩::acc)
 | .pnc x::_,acc=>.seq (.reg (acc.reverse++[⟨some n,.pf .mkP [x],none⟩])) (.exit PB)
 | .tc f args d g::r,acc=>.seq (.reg (acc.reverse++[⟨some (n+3),.call (BIG+f) args,g⟩,⟨some (n+2),.pf .isP [.t (n+3)],none⟩]))
   (.seq (.cond (.t (n+2)) (.seq (.reg [⟨some n,.mv (.t (n+3)),none⟩]) (.exit PB)) .skip) (codeP n r [⟨d,.mv (.t (n+3)),none⟩]))
section
variable (P:Program) (n:Nat) (ps:List Nat)
def cOrd(ops:Array Oper)(o:Oper):Option PItem:=match cOper P n ops o with
 | some a=>bif aoperT n a then some (.ord a) else none
 | none=>none
def isRawF(o:Op):Option (Nat×List Operand):=match o with
 | .call c=>match c.callee with
  | .value (.func f)=>bif ps.any (Nat.beq f) then some (f,c.args.toList) else none
  | _=>none
 | _=>none
def cItem(ops:Array Oper)(o:Oper):Option PItem:=match o.op with
 | .panic x=>match o.guard,cOpd x with
  | none,some y=>bif opdT n y then some (.pnc y) else none
  | _,_=>none
 | .defer c=>match o.guard,o.dst,c.callee with
  | none,none,.value x=>match c.args.toList,cOpd x with
   | [],some y=>bif opdT n y then some (.dfr y) else none
   | _,_=>none
  | _,_,_=>none
 | op=>match isRawF ps op with
  | some (f,l)=>match cOpds l,cGuard n ops o.guard with
   | some l,some g=>bif Nat.blt f BIG&&(opdsT n l&&(gdTm n g&&okDst n o.dst)) then some (.tc f l o.dst g) else none
   | _,_=>none
  | none=>cOrd P n ops o
def cItems(ops:Array Oper):List Oper→Option (List PItem)
 | []=>some []
 | o::r=>match cItem P n ps ops o,cItems ops r with
  | some a,some l=>some (a::l)
  | _,_=>none
def rawAt:Nat→List Oper→Option (Nat×Nat)
 | _,[]=>none
 | j,o::r=>match isRawF ps o.op,o.dst with
  | some _,some d=>some (j,d)
  | _,_=>rawAt (j+1) r
def cRaw(ops:Array Oper)(o:Oper):Option AOper:=match isRawF ps o.op with
 | some (f,l)=>match cOpds l,cGuard n ops o.guard with
  | some l,some g=>bif Nat.blt f BIG&&okDst n o.dst then some ⟨o.dst,.call (BIG+f) l,g⟩ else none
  | _,_=>none
 | none=>none
def gdOf(d:Nat)(a:AOper):Option AOper:=match a.guard,newOf a.op with
 | none,none=>some ⟨a.dst,a.op,some (SK+d,false)⟩
 | _,_=>none
def cPos(ops:Array Oper)(ms:List Nat)(c d:Nat)(j:Nat)(o:Oper):Option AOper:=
 bif Nat.beq j c then cRaw n ps ops o else match cOper P n ops o with
  | some a=>bif bit ms j c then gdOf d a else some a
  | none=>none
def cPoss(ops:Array Oper)(ms:List Nat)(c d:Nat):Nat→List Oper→Option (List AOper)
 | _,[]=>some []
 | j,o::r=>match cPos P n ps ops ms c d j o,cPoss ops ms c d (j+1) r with
  | some a,some l=>some (a::l)
  | _,_=>none
def onlyW(c d:Nat):Nat→List AOper→Bool
 | _,[]=>true
 | k,a::r=>(Nat.beq k c||!(a.dst==some d))&&onlyW c d (k+1) r
def cPlain(ops:Array Oper)(rest:List Oper):Option (List AOper×Option (Nat×Nat)):=match cOpers P n ops rest with
 | some l=>some (l,none)
 | none=>none
def cLast(ops:Array Oper)(rest:List Oper):Option (List AOper×Option (Nat×Nat)):=match rawAt ps 0 rest with
 | some (c,d)=>match cPoss P n ps ops (masksGo [] (ops.toList.map bindE)) c d 0 rest with
  | some l=>bif onlyW c d 0 l then some (l,some (c,d)) else cPlain P n ops rest
  | none=>cPlain P n ops rest
 | none=>cPlain P n ops rest
def cDrawP(ops:Array Oper):Option ACode:=match cLast P n ps ops ops.toList with
 | some (l,d)=>bif okMask (ops.toList.map bindE) (masksGo [] (ops.toList.map bindE))&&okPairs (claims 0 l) (masksGo [] (ops.toList.map bindE))&&l.all (aoperT n) then
   (match d with
    | none => some (.draw l ((List.range l.length).map (chkOf (claims 0 l) (masksGo [] (ops.toList.map bindE)))))
    | some (_, d) => some (.seq (.draw l ((List.range l.length).map (chkOf (claims 0 l) (masksGo [] (ops.toList.map bindE)))))
     (.seq (.reg [⟨some (n+2),.pf .isP [.t d],none⟩]) (.cond (.t (n+2)) (.seq (.reg [⟨some (n+2),.pf .isU [.t (n+1)],none⟩]) (.cond (.t (n+2)) (.seq (.reg [⟨some n,.mv (.t d),none⟩]) (.exit PB)) stuckC)) .skip))))
  else some stuckC
 | none=>none
def cCodeP:Code→Option ACode
 | .skip=>some .skip
 | .region _ ops false=>match cItems P n ps ops ops.toList with
  | some its=>some (codeP n its [])
  | none=>none
 | .region _ ops true=>cDrawP P n ps ops
 | .seq a b=>match cCodeP a,cCodeP b with
  | some a,some b=>some (.seq a b)
  | _,_=>none
 | .cond c a b=>match cOpd c,cCodeP a,cCodeP b with
  | some c,some a,some b=>bif opdT n c then some (.cond c a b) else none
  | _,_,_=>none
 | .block id c=>match cCodeP c with
  | some c=>bif Nat.beq id PB then none else some (.block id c)
  | none=>none
 | .loop c=>match cCodeP c with
  | some c=>some (.loop c)
  | none=>none
 | .exit id=>bif Nat.beq id PB then none else some (.exit id)
 | .ret=>some (.exit PB)
 | _=>some stuckC
end
section
variable {tb:FuncId→Bool} {call:FuncId→List AVal→AHeap→Option (AVal×AHeap)} {k:Nat}
theorem codeP_acc(n:Nat):∀(its:List PItem) (acc:List AOper) (T:Tr AVal) (H:AHeap),aexec tb call k (codeP n its acc) T H=match aregs tb call acc.reverse T H with
  | some (T1,H1)=>aexec tb call k (codeP n its []) T1 H1
  | none=>none
 | [],acc,T,H=>by
  simp only[codeP,aexec,List.reverse_nil,aregs] <;> (cases aregs tb call acc.reverse T H <;> rfl)
 | .ord o::r,acc,T,H=>by
  simp only[codeP]
  rw[codeP_acc n r (o::acc),List.reverse_cons,aregs_app]
  cases aregs tb call acc.reverse T H with
  | none=>rfl
  | some p=>
   obtain⟨T1,H1⟩:=p
   simp only
   rw[codeP_acc n r [o] T1 H1]
   rfl
 | .dfr x::r,acc,T,H=>by
  simp only[codeP]
  rw[codeP_acc n r (_::acc),List.reverse_cons,aregs_app]
  cases aregs tb call acc.reverse T H with
  | none=>rfl
  | some p=>
   obtain⟨T1,H1⟩:=p
   simp only
   rw[codeP_acc n r [_] T1 H1]
   rfl
 | .pnc x::r,acc,T,H=>by
  simp only[codeP,aexec,aregs_app,List.reverse_nil,List.nil_append]
  cases aregs tb call acc.reverse T H with
  | none=>rfl
  | some p=>rfl
 | .tc f l d g::r,acc,T,H=>by
  simp only[codeP,aexec,aregs_app,List.reverse_nil,List.nil_append]
  cases aregs tb call acc.reverse T H with
  | none=>rfl
  | some p=>rfl
end
section
variable {P:Program} {Prot:Gh} {w0:World} {ρ:Pl} {H H':AHeap} {w:World}
def DfR(ρ:Pl)(x:AVal)(ds:List Deferred):Prop:=(x=undefA∧ds=[]) ∨
 ∃f a b d cap,x=.func (.func f) a b∧ds=[d]∧d.target=.fn (.func f) cap∧VRels ρ b cap.toList∧VRels ρ a d.args.toList
theorem DfR.mono{ρ ρ':Pl}(h:ρ.le ρ'){x:AVal}{ds:List Deferred}(d:DfR ρ x ds):DfR ρ' x ds:=by
 rcases d with d | ⟨f,a,b,d,cap,h1,h2,h3,h4,h5⟩
 ·exact .inl d
 ·exact .inr ⟨f,a,b,d,cap,h1,h2,h3,VRels.mono h _ _ h4,VRels.mono h _ _ h5⟩
structure GT(ρ:Pl)(n:Nat)(T:Tr AVal)(a:Act):Prop where
 t:∃U,GE n T U∧TmpsRel ρ n U a.tmps
 d:DfR ρ (ev T (.t (n+1))) a.defers
theorem GT.mono{ρ ρ':Pl}(h:ρ.le ρ'){n:Nat}{T:Tr AVal}{a:Act}(g:GT ρ n T a):GT ρ' n T a:=
 ⟨let ⟨U,h1,h2⟩:=g.t; ⟨U,h1,h2.mono h⟩,g.d.mono h⟩
theorem GT.ghost{n:Nat}{T:Tr AVal}{a:Act}(g:GT ρ n T a){d:Nat}(hd:n≤d)(hne:d≠n+1)(v:AVal):GT ρ n (T.set d v) a:=
 ⟨let ⟨U,h1,h2⟩:=g.t; ⟨U,h1.ghost hd v,h2⟩,by rw[ev_set,if_neg (fun e=>hne e.symm)]; exact g.d⟩
def PSt(ρ:Pl)(n:Nat)(T:Tr AVal)(a:Act):Prop:=GT ρ n T a∧ev T (.t n)=undefA
def PPan(ρ:Pl)(n:Nat)(T:Tr AVal)(a:Act)(u:Value):Prop:=∃x,ev T (.t n)=panV x∧VRel ρ x u∧((a.defers=[]∧ev T (.t (n+1))=undefA)∨GT ρ n T a)
def SimP(Prot:Gh)(w0:World)(ρ:Pl)(n:Nat)(e:AEx)(T:Tr AVal)(H:AHeap):Exit→Act→World→Prop:=fun e' a w=>
 ∃ρ',ρ.le ρ'∧Rel Prot w0 ρ' H w∧match e with
  | .normal=>e'=.normal∧PSt ρ' n T a
  | .exit id=>(id≠PB∧e'=.exit id∧PSt ρ' n T a)∨(id=PB∧((e'=.ret∧PSt ρ' n T a)∨∃u,e'=.panic [{ v:=u,recovered:=false }]∧PPan ρ' n T a u))
  | .ret=>False
theorem SimP.weaken{ρ ρ':Pl}{n:Nat}{e:AEx}{T:Tr AVal}{H:AHeap}(h:ρ.le ρ'){e':Exit}{a:Act}{w:World}(q:SimP Prot w0 ρ' n e T H e' a w):SimP Prot w0 ρ n e T H e' a w:=by
 obtain⟨ρ2,h2,h3⟩:=q
 exact⟨ρ2,Pl.le_trans h h2,h3⟩
theorem undef_of{x:AVal}(h:VRel ρ x undef):x=undefA:=by
 unfold undef at h
 cases x with
 | tuple l=>
  simp only[VRel]at h
  obtain⟨vs,e,hv⟩:=h
  simp only[Value.tuple.injEq]at e
  subst e
  cases l with
  | nil=>rfl
  | cons y l=>simp[VRels]at hv
 | ptr a=>cases a <;> simp[VRel]at h
 | slice a m r => cases a <;> simp only [VRel] at h
                  · simp at h
                  · obtain ⟨_, _, _, _, _, h3, _⟩ := slice_off (by simpa only [VRel] using h); simp at h3
 | map a=>cases a <;> simp[VRel]at h
 | val v=>simp only[VRel]at h; rw[← h.1]at h; simp[opq,Value.oneCell']at h
 | _=>simp[VRel]at h
theorem isPan_no{x:AVal}{v:Value}(h:VRel ρ x v):isPan x=false:=by
 cases hb:isPan x with
 | false=>rfl
 | true=>obtain⟨y,e⟩:=isPan_spec hb; exact (pan_no h e).elim
end
end Go.Abs
namespace Go.Abs
section
variable {P:Program} {Prot:Gh} {w0:World} {ρ:Pl} {H H':AHeap} {w:World}
theorem run_call{f:Nat}{args:Array Operand}{ats:Array TypeId}{o:Oper}(hoe:o.op=.call ⟨.value (.func f),args,ats⟩)(hb:hasBody P f=true)(a:Act):(execOp a.eval o).run P w=.ok (.enter f (args.map a.eval)) w:=by
 have:=callFunc_ok (P:=P) (w:=w) hb (args.map a.eval)
 obtain⟨dst,op,type,pos,after,guard⟩:=o
 simp only at hoe
 subst hoe
 simp[execOp,resolve,Act.eval,Deferred.ofValue,invoke,this]
theorem rawF_spec{ps:List Nat}{o:Op}{f:Nat}{l:List Operand}(h:isRawF ps o=some (f,l)):∃args ats,o=.call ⟨.value (.func f),args,ats⟩∧l=args.toList:=by
 unfold isRawF at h
 split at h
 ·rename_i c
  split at h
  ·rename_i g hg
   obtain⟨cal,args,ats⟩:=c
   simp only at hg
   subst hg
   cases hp:ps.any (Nat.beq g) with
   | false=>rw[hp]at h; simp at h
   | true=>
    rw[hp]at h
    simp only[cond_true,sJ,pJ]at h
    obtain⟨rfl,rfl⟩:=h
    exact⟨args,ats,rfl,rfl⟩
  ·simp at h
 ·simp at h
theorem put_defers(a:Act)(d:Option Nat)(v:Value):(a.put d v).defers=a.defers:=by cases d <;> rfl
theorem GT.put{n:Nat}{T:Tr AVal}{a:Act}(g:GT ρ n T a){d:Option Nat}(hd:okDst n d=true){x:AVal}{v:Value}(hv:VRel ρ x v):GT ρ n (aput T d x) (a.put d v):=by
 obtain⟨U,h1,h2⟩:=g.t
 refine⟨⟨aput U d x,h1.put hd x,put_rel h2 hd hv⟩,?_⟩
 rw[put_defers,SameG.put hd x (n+1) om]
 exact g.d
theorem PSt.put{n:Nat}{T:Tr AVal}{a:Act}(g:PSt ρ n T a){d:Option Nat}(hd:okDst n d=true){x:AVal}{v:Value}(hv:VRel ρ x v):PSt ρ n (aput T d x) (a.put d v):=
 ⟨g.1.put hd hv,by rw[SameG.put hd x n rL]; exact g.2⟩
theorem PSt.mono{ρ ρ':Pl}(h:ρ.le ρ'){n:Nat}{T:Tr AVal}{a:Act}(g:PSt ρ n T a):PSt ρ' n T a:=⟨g.1.mono h,g.2⟩
theorem PSt.ghost{n:Nat}{T:Tr AVal}{a:Act}(g:PSt ρ n T a){d:Nat}(hd:n+2≤d)(v:AVal):PSt ρ n (T.set d v) a:=
 ⟨g.1.ghost om om v,by rw[ev_set,if_neg om]; exact g.2⟩
theorem astep_none{tb:FuncId→Bool}{call:FuncId→List AVal→AHeap→Option (AVal×AHeap)}(d:Option Nat)(op:AOp)(T:Tr AVal)(H:AHeap):astep tb call ⟨d,op,none⟩ T H=match aop tb T H op with
  | some (.val v,H')=>some (v,H')
  | some (.enter f args,H')=>call f args H'
  | none=>none:=rfl
theorem aregs_one{tb:FuncId→Bool}{call:FuncId→List AVal→AHeap→Option (AVal×AHeap)}{o:AOper}{T T':Tr AVal}{H H':AHeap}(h:aregs tb call [o] T H=some (T',H')):∃v,astep tb call o T H=some (v,H')∧T'=aput T o.dst v:=by
 rw[aregs_step']at h
 cases hs:astep tb call o T H with
 | none=>rw[hs]at h; simp at h
 | some p=>
  obtain⟨v,H1⟩:=p
  rw[hs]at h
  simp only[aregs,sJ,pJ]at h
  obtain⟨rfl,rfl⟩:=h
  exact⟨v,rfl,rfl⟩
theorem ord_sim{tb:FuncId→Bool}(htb:∀f,Nat.blt f BIG=true→tb f=true→hasBody P f=true){call:FuncId→List AVal→AHeap→Option (AVal×AHeap)}(hcall:CallOK P call){n:Nat}{ops:Array Oper}{o:Oper}{ao:AOper}
  (hco:cOper P n ops o=some ao) (haT:aoperT n ao=true) {ρ0:Pl} {T:Tr AVal} {a:Act} (hle:ρ0.le ρ) (R:Rel Prot w0 ρ H w) (hP:PSt ρ n T a) {v:AVal} {H1:AHeap} (hs:astep tb call ao T H=some (v,H1)) {rest:List Nat} {Q:Exit→Act→World→Prop} {i:Nat} (ho:ops[i]?=some o)
  (hnext:∀(ρ1:Pl) (a':Act) (w':World),ρ0.le ρ1→Rel Prot w0 ρ1 H1 w'→PSt ρ1 n (aput T ao.dst v) a'→wpOps P ops Q rest a' w'):wpOps P ops Q (i::rest) a w:=by
 obtain⟨U,hG,ht⟩:=hP.1.t
 rw[astep_ge hG haT]at hs
 unfold cOper at hco
 split at hco
 ·rename_i ax g hop hg
  cases hdst:okDst n o.dst with
  | false=>rw[hdst]at hco; simp at hco
  | true=>
   rw[hdst]at hco
   simp only[cond_true,sJ]at hco
   subst hco
   simp only[wpOps,ho]
   simp only[astep]at hs
   rw[guard_ok ht hg]
   cases hgo:gOK U g with
   | false=>
    rw[hgo]at hs
    simp only[cond_false,sJ,pJ]at hs
    obtain⟨rfl,rfl⟩:=hs
    simp only[Bool.false_eq_true,if_false]
    exact hnext ρ _ w hle R (hP.put hdst undef_rel)
   | true=>
    rw[hgo]at hs
    simp only[cond_true]at hs
    simp only[if_true]
    left
    split at hs
    ·rename_i v' H2 hv
     simp only[sJ,pJ]at hs
     obtain⟨rfl,rfl⟩:=hs
     obtain⟨ρ1,w1,nx,q1,q2,q3,q4⟩:=op_sim htb R ht o hop hv
     simp only[Oper.wp,q2]
     cases nx <;> simp only[NxRel]at q4
     case value u=>exact hnext ρ1 _ w1 (Pl.le_trans hle q1) q3 ((hP.mono q1).put hdst q4)
     case skip=>exact hnext ρ1 _ w1 (Pl.le_trans hle q1) q3 ((hP.mono q1).put hdst q4)
    ·rename_i f args H2 hv
     obtain⟨ρ1,w1,nx,q1,q2,q3,q4⟩:=op_sim htb R ht o hop hv
     simp only[Oper.wp,q2]
     cases nx <;> simp only[NxRel]at q4
     case enter g vs=>
      obtain⟨rfl,hbig,q5⟩:=q4
      simp only[Oper.upon]
      refine (hcall _ _ _ _ _ hbig hs Prot w0 ρ1 w1 vs q3 q5).mono fun e w' hr=>?_
      obtain⟨ρ2,u,r1,rfl,r3,r4⟩:=hr
      exact hnext ρ2 _ w' (Pl.le_trans hle (Pl.le_trans q1 r1)) r3 ((hP.mono (Pl.le_trans q1 r1)).put hdst r4)
    ·simp at hs
 ·simp at hco
theorem items_sim{tb:FuncId→Bool}(htb:∀f,Nat.blt f BIG=true→tb f=true→hasBody P f=true)(htbP:∀f,Nat.blt f BIG=true→tb (BIG+f)=true→hasBody P f=true){call:FuncId→List AVal→AHeap→Option (AVal×AHeap)}(hcall:CallOK P call)(hcallP:CallP P call)
  {n k:Nat} {ps:List Nat} {ops:Array Oper}:∀(rest:List Oper) (i:Nat) (its:List PItem),(∀j,rest[j]?=ops[i+j]?)→cItems P n ps ops rest=some its→∀(ρ0 ρ:Pl) (T T':Tr AVal) (H H':AHeap) (e:AEx) (a:Act) (w:World),ρ0.le ρ →
   Rel Prot w0 ρ H w→PSt ρ n T a→aexec tb call k (codeP n its []) T H=some (e,T',H')→wpOps P ops (SimP Prot w0 ρ0 n e T' H') (List.range' i rest.length) a w:=by
 intro rest
 induction rest with
 | nil=>
  intro i its _ hc ρ0 ρ T T' H H' e a w hle R hP h
  simp only[cItems,sJ]at hc
  subst hc
  simp only[codeP,aexec,List.reverse_nil,aregs,sJ,pJ]at h
  obtain⟨rfl,rfl,rfl⟩:=h
  exact⟨ρ,hle,R,rfl,hP⟩
 | cons o rest ih=>
  intro i its hi hc ρ0 ρ T T' H H' e a w hle R hP h
  simp only[cItems]at hc
  split at hc
  ·rename_i it l' ha hl
   simp only[sJ]at hc
   subst hc
   have ho:ops[i]?=some o:=by have:=hi 0; simpa using this.symm
   have hnx:∀j,rest[j]?=ops[i+1+j]?:=fun j=>by have:=hi (j+1); simp only[List.getElem?_cons_succ]at this; rw[this]; congr 1; omega
   rw[List.length_cons,List.range'_succ]
   unfold cItem at ha
   split at ha
   ·-- a panic
    rename_i x hox
    split at ha
    ·rename_i y hg hy
     cases hT:opdT n y with
     | false=>rw[hT]at ha; simp at ha
     | true=>
      rw[hT]at ha
      simp only[cond_true,sJ]at ha
      subst ha
      simp only[codeP,aexec,List.reverse_nil,List.nil_append]at h
      split at h
      ·rename_i T1 H1 h1
       split at h1
       ·rename_i T2 H2 h2
        simp only[sJ,pJ]at h1
        obtain⟨_,rfl,rfl⟩:=h1
        simp only[sJ,pJ]at h
        obtain⟨rfl,rfl,rfl⟩:=h
        obtain⟨v,hs,rfl⟩:=aregs_one h2
        obtain⟨U,hG,ht⟩:=hP.1.t
        rw[astep_none]at hs
        simp only[aop,evs,aPf,vv]at hs
        have hx:=opd_ok ht hy
        rw[← hG.x hT]at hx
        generalize ev T y=q at hs hx
        unfold aMkP at hs
        split at hs
        ·rename_i v' H3 hv
         split at hv
         ·rename_i v2 hv2
          split at hv2
          ·rename_i t z heq
           simp only[List.cons.injEq,and_true]at heq
           subst heq
           simp only[sJ]at hv2
           subst hv2
           simp only[sJ,pJ,Nx.val.injEq]at hv hs
           obtain⟨rfl,rfl⟩:=hv
           obtain⟨rfl,rfl⟩:=hs
           simp only[wpOps,ho]
           have hw:Region.wanted o (yielded ops a.tmps)=true:=by simp[Region.wanted,hg]
           rw[if_pos hw]
           left
           have hx':=hx
           simp only[VRel]at hx'
           obtain⟨yv,e1,e2⟩:=hx'
           have hrun:(execOp a.eval o).run P w=.halt (.panic (.iface t yv)) w:=by
            obtain⟨dst,op,type,pos,after,guard⟩:=o
            simp only at hox
            subst hox
            show (do pure (Next.value (← Instr.panic (a.eval x))):Sem Next).run P w=_
            rw[e1]
            rfl
           simp only[Oper.wp,hrun,Oper.upon]
           refine⟨ρ,hle,R,.inr ⟨rfl,.inr ⟨_,rfl,.iface t z,?_,?_,.inr ?_⟩⟩⟩
           ·simp only[aput,ev_set,if_true]
           ·rw[← e1]; exact hx
           ·exact hP.1.ghost rL om _
          ·simp at hv2
         ·simp at hv
        ·rename_i f args H3 hv
         split at hv <;> simp at hv
        ·simp at hs
       ·simp at h1
      ·rename_i e1 T1 H1 hne h1
       split at h1
       ·simp only[sJ,pJ]at h1
        exact (hne h1.1.symm).elim
       ·simp at h1
      ·simp at h
    ·simp at ha
   ·-- a call laid aside
    rename_i c hox
    split at ha
    ·rename_i x hg hd hcal
     split at ha
     ·rename_i y hargs hy
      cases hT:opdT n y with
      | false=>rw[hT]at ha; simp at ha
      | true=>
       rw[hT]at ha
       simp only[cond_true,sJ]at ha
       subst ha
       simp only[codeP]at h
       rw[codeP_acc]at h
       split at h
       ·rename_i T1 H1 h1
        simp only[List.reverse_cons,List.reverse_nil,List.nil_append]at h1
        obtain⟨v,hs,rfl⟩:=aregs_one h1
        obtain⟨U,hG,ht⟩:=hP.1.t
        rw[astep_none]at hs
        simp only[aop,evs,aPf,vv]at hs
        have hx:=opd_ok ht hy
        rw[← hG.x hT]at hx
        have hdf:=hP.1.d
        generalize ev T (.t (n+1))=z at hs hdf
        generalize ev T y=q at hs hx
        unfold aDset at hs
        split at hs
        ·rename_i v' H3 hv
         split at hv
         ·rename_i v2 hv2
          split at hv2
          ·rename_i f fa fb heq
           simp only[List.cons.injEq,and_true]at heq
           obtain⟨rfl,rfl⟩:=heq
           simp only[sJ]at hv2
           subst hv2
           simp only[sJ,pJ,Nx.val.injEq]at hv hs
           obtain⟨rfl,rfl⟩:=hv
           obtain⟨rfl,rfl⟩:=hs
           have hds:a.defers=[]:=by
            rcases hdf with⟨_,h9⟩ | ⟨f',a',b',d',cap',h9,_⟩
            ·exact h9
            ·simp at h9
           simp only[wpOps,ho]
           have hw:Region.wanted o (yielded ops a.tmps)=true:=by simp[Region.wanted,hg]
           rw[if_pos hw]
           left
           simp only[VRel]at hx
           obtain⟨fv,cv,hfv,hv1,hv2⟩:=hx
           have hrun:(execOp a.eval o).run P w=.ok (.defer { target:=.fn (.func f) cv,args:=fv }) w:=by
            obtain⟨dst,op,type,pos,after,guard⟩:=o
            obtain⟨cal,args,ats⟩:=c
            simp only at hox hcal hargs hd
            subst hox hcal hd
            have:args=#[]:=by simpa using hargs
            subst this
            simp[execOp,resolve,hfv,Deferred.ofValue]
           simp only[Oper.wp,hrun,Oper.upon,hd]
           refine ih (i+1) l' hnx hl ρ0 ρ _ _ _ _ _ _ _ hle R ⟨⟨⟨U,hG.ghost om _,ht⟩,?_⟩,?_⟩ h
           ·simp only[aput,ev_set,if_true,Act.put,hds]
            exact .inr ⟨f,fa,fb,_,cv,rfl,rfl,rfl,hv2,hv1⟩
           ·simp only[aput,ev_set]
            rw[if_neg om]
            exact hP.2
          ·simp at hv2
         ·simp at hv
        ·rename_i f args H3 hv
         split at hv <;> simp at hv
        ·simp at hs
       ·simp at h
     ·simp at ha
    ·simp at ha
   ·-- a call that may panic,or whatever is ordinary
    split at ha
    ·rename_i f lo hraw
     obtain⟨args,ats,hoe,rfl⟩:=rawF_spec hraw
     split at ha
     ·rename_i lx g hlx hgc
      cases hcnd:Nat.blt f BIG&&(opdsT n lx&&(gdTm n g&&okDst n o.dst)) with
      | false=>rw[hcnd]at ha; simp at ha
      | true=>
       rw[hcnd]at ha
       simp only[cond_true,sJ]at ha
       subst ha
       simp only[Bool.and_eq_true]at hcnd
       obtain⟨hbig,hlT,hgT,hdst⟩:=hcnd
       obtain⟨U,hG,ht⟩:=hP.1.t
       have key:∃(v:AVal) (H1:AHeap),astep tb call ⟨some (n+3),.call (BIG+f) lx,g⟩ T H=some (v,H1) ∧
         ((isPan v = true ∧ e = .exit PB ∧ T' = (((T.set (n + 3) v).set (n + 2) (.bool true)).set n v) ∧ H' = H1) ∨
          (isPan v = false ∧ aexec tb call k (codeP n l' []) (aput ((T.set (n + 3) v).set (n + 2) (.bool false)) o.dst v) H1 = some (e, T', H'))) := by
        simp only[codeP,aexec,List.reverse_nil,List.nil_append]at h
        rw[aregs_step']at h
        cases hs:astep tb call ⟨some (n+3),.call (BIG+f) lx,g⟩ T H with
        | none=>rw[hs]at h; simp at h
        | some p=>
         obtain⟨v,H1⟩:=p
         rw[hs]at h
         refine⟨v,H1,rfl,?_⟩
         simp only[aput]at h
         rw[aregs_step',astep_none]at h
         have e3:ev (T.set (n+3) v) (.t (n+3))=v:=by rw[ev_set,if_pos rfl]
         simp only[aop,evs,aPf,vv,aIsP,e3,aregs,aput]at h
         have e2:ev ((T.set (n+3) v).set (n+2) (.bool (isPan v))) (.t (n+2))=.bool (isPan v):=by rw[ev_set,if_pos rfl]
         have e33:ev ((T.set (n+3) v).set (n+2) (.bool (isPan v))) (.t (n+3))=v:=by rw[ev_set,if_neg om,ev_set,if_pos rfl]
         rw[e2]at h
         cases hp:isPan v with
         | true=>
          rw[hp]at h e33
          simp only[gOK,cond_true,e33,sJ,pJ]at h
          obtain⟨rfl,rfl,rfl⟩:=h
          exact .inl ⟨rfl,rfl,rfl,rfl⟩
         | false=>
          rw[hp]at h e33
          simp only at h
          rw[codeP_acc]at h
          simp only[List.reverse_cons,List.reverse_nil,List.nil_append]at h
          rw[aregs_step',astep_none]at h
          simp only[aop,e33,aregs]at h
          exact .inr ⟨rfl,h⟩
       obtain⟨v,H1,hs,hk⟩:=key
       simp only[wpOps,ho]
       rw[guard_ok ht hgc]
       simp only[astep,gOK_ge hG hgT]at hs
       have hgg:∀(ρ':Pl),ρ.le ρ'→∀b,PSt ρ' n ((T.set (n+3) v).set (n+2) b) a:=fun ρ' hl b=>((hP.mono hl).ghost om v).ghost rL b
       cases hgo:gOK U g with
       | false=>
        rw[hgo]at hs
        simp only[cond_false,sJ,pJ]at hs
        obtain⟨rfl,rfl⟩:=hs
        simp only[Bool.false_eq_true,if_false]
        rcases hk with⟨hp,_⟩ | ⟨_,hk⟩
        ·simp[isPan,undefA]at hp
        ·exact ih (i+1) l' hnx hl ρ0 ρ _ _ _ _ _ _ w hle R ((hgg ρ (Pl.le_refl _) _).put hdst undef_rel) hk
       | true=>
        rw[hgo]at hs
        simp only[cond_true]at hs
        simp only[if_true]
        left
        simp only[aop]at hs
        cases hb:tb (BIG+f) with
        | false=>rw[hb]at hs; simp at hs
        | true=>
         rw[hb]at hs
         simp only[cond_true]at hs
         rw[hG.xs hlT]at hs
         simp only[Oper.wp,run_call hoe (htbP f hbig hb) a,Oper.upon]
         refine (hcallP f _ _ _ _ hbig hs Prot w0 ρ w (args.map a.eval) R (by simpa using opds_ok ht hlx)).mono fun e' w' hr=>?_
         obtain⟨ρ2,r1,r3,⟨u,rfl,r4⟩ | ⟨x,u,rfl,rfl,r4⟩⟩:=hr
         ·rcases hk with⟨hp,_⟩ | ⟨_,hk⟩
          ·rw[isPan_no r4]at hp; simp at hp
          ·exact ih (i+1) l' hnx hl ρ0 ρ2 _ _ _ _ _ _ w' (Pl.le_trans hle r1) r3 ((hgg ρ2 r1 _).put hdst r4) hk
         ·rcases hk with⟨_,rfl,rfl,rfl⟩ | ⟨hp,_⟩
          ·refine⟨ρ2,Pl.le_trans hle r1,r3,.inr ⟨rfl,.inr ⟨u,rfl,x,by rw[ev_set,if_pos rfl],r4,.inr ?_⟩⟩⟩
           exact (hgg ρ2 r1 _).1.ghost rL om _
          ·simp[isPan,panV]at hp
     ·simp at ha
    ·unfold cOrd at ha
     split at ha
     ·rename_i ao hco
      cases haT:aoperT n ao with
      | false=>rw[haT]at ha; simp at ha
      | true=>
       rw[haT]at ha
       simp only[cond_true,sJ]at ha
       subst ha
       simp only[codeP]at h
       rw[codeP_acc]at h
       split at h
       ·rename_i T1 H1 h1
        simp only[List.reverse_cons,List.reverse_nil,List.nil_append]at h1
        obtain⟨v,hs,rfl⟩:=aregs_one h1
        exact ord_sim htb hcall hco haT hle R hP hs ho fun ρ1 a' w' q1 q2 q3=>ih (i+1) l' hnx hl ρ0 ρ1 _ _ _ _ _ a' w' q1 q2 q3 h
       ·simp at h
     ·simp at ha
  ·simp at hc
end
end Go.Abs
namespace Go.Abs
section
variable {P:Program} {n:Nat} {ps:List Nat} {ops:Array Oper}
def AtP(P:Program)(n:Nat)(ops:Array Oper)(c d:Nat)(j:Nat)(o:Oper)(a:AOper):Prop:=
 (j=c∧IsRaw P n ops o a)∨(j≠c∧bit (masksGo [] (ops.toList.map bindE)) j c=false∧cOper P n ops o=some a)∨(j≠c∧bit (masksGo [] (ops.toList.map bindE)) j c=true∧∃a',cOper P n ops o=some a'∧a'.guard=none∧newOf a'.op=none∧a=⟨a'.dst,a'.op,some (SK+d,false)⟩)
theorem cPos_spec{c d j:Nat}{o:Oper}{a:AOper}(h:cPos P n ps ops (masksGo [] (ops.toList.map bindE)) c d j o=some a):AtP P n ops c d j o a∧a.dst=o.dst:=by
 have hdst:∀{a},cOper P n ops o=some a→a.dst=o.dst:=by
  intro a h
  unfold cOper at h
  split at h
  ·cases hd:okDst n o.dst with
   | false=>rw[hd]at h; simp at h
   | true=>rw[hd]at h; simp only[cond_true,sJ]at h; subst h; rfl
  ·simp at h
 unfold cPos at h
 cases hb:Nat.beq j c with
 | true=>
  rw[hb]at h
  simp only[cond_true,cRaw]at h
  split at h
  ·rename_i f lo hraw
   obtain⟨args,ats,hoe,rfl⟩:=rawF_spec hraw
   split at h
   ·rename_i lx g hlx hg
    cases hc:Nat.blt f BIG&&okDst n o.dst with
    | false=>rw[hc]at h; simp at h
    | true=>
     rw[hc]at h
     simp only[cond_true,sJ]at h
     subst h
     simp only[Bool.and_eq_true]at hc
     exact⟨.inl ⟨Nat.eq_of_beq_eq_true hb,f,args,ats,lx,g,hoe,hlx,hg,hc.2,hc.1,rfl⟩,rfl⟩
   ·simp at h
  ·simp at h
 | false=>
  have hne:j≠c:=fun e=>by subst e; rw[Nat.beq_refl]at hb; simp at hb
  rw[hb]at h
  simp only[cond_false]at h
  split at h
  ·rename_i a' ha'
   cases hbt:bit (masksGo [] (ops.toList.map bindE)) j c with
   | false=>rw[hbt]at h; simp only[cond_false,sJ]at h; subst h; exact⟨.inr (.inl ⟨hne,hbt,ha'⟩),hdst ha'⟩
   | true=>
    rw[hbt]at h
    simp only[cond_true,gdOf]at h
    split at h
    ·rename_i hg hnw
     simp only[sJ]at h
     subst h
     exact⟨.inr (.inr ⟨hne,hbt,a',ha',hg,hnw,rfl⟩),(hdst ha':a'.dst=o.dst)⟩
    ·simp at h
  ·simp at h
theorem cPoss_spec{c d:Nat}:∀{rest:List Oper} {l:List AOper} {j:Nat},cPoss P n ps ops (masksGo [] (ops.toList.map bindE)) c d j rest=some l→l.length=rest.length∧∀k o,rest[k]?=some o→∃a,l[k]?=some a∧AtP P n ops c d (j+k) o a∧a.dst=o.dst:=by
 intro rest
 induction rest with
 | nil=>intro l j h; simp only[cPoss,sJ]at h; subst h; exact⟨rfl,fun k o h=>by simp at h⟩
 | cons o r ih=>
  intro l j h
  simp only[cPoss]at h
  split at h
  ·rename_i a l' ha hl
   simp only[sJ]at h
   subst h
   obtain⟨q1,q2⟩:=ih hl
   refine⟨by simp[q1],fun k o' hk=>?_⟩
   cases k with
   | zero=>
    simp only[List.getElem?_cons_zero,sJ]at hk
    subst hk
    exact⟨a,rfl,by rw[Nat.add_zero]; exact cPos_spec ha⟩
   | succ k=>
    simp only[List.getElem?_cons_succ]at hk ⊢
    obtain⟨a',z1,z2⟩:=q2 k o' hk
    exact⟨a',z1,by rw[show j+(k+1)=j+1+k by omega]; exact z2⟩
  ·simp at h
theorem onlyW_spec{c d:Nat}:∀{l:List AOper} {k:Nat},onlyW c d k l=true→∀i b,l[i]?=some b→b.dst=some d→k+i=c:=by
 intro l
 induction l with
 | nil=>intro k _ i b h; simp at h
 | cons a r ih=>
  intro k h i b hb hd
  simp only[onlyW,Bool.and_eq_true,Bool.or_eq_true,Bool.not_eq_true',beq_eq_false_iff_ne,ne_eq]at h
  cases i with
  | zero=>
   simp only[List.getElem?_cons_zero,sJ]at hb
   subst hb
   rcases h.1 with h1 | h1
   ·exact Nat.eq_of_beq_eq_true h1
   ·exact absurd hd h1
  | succ i=>
   simp only[List.getElem?_cons_succ]at hb
   have:=ih h.2 i b hb hd
   omega
theorem rawAt_spec{c d:Nat}:∀{rest:List Oper} {j:Nat},rawAt ps j rest=some (c,d)→∃k o,c=j+k∧rest[k]?=some o∧o.dst=some d:=by
 intro rest
 induction rest with
 | nil=>intro j h; simp[rawAt]at h
 | cons o r ih=>
  intro j h
  simp only[rawAt]at h
  split at h
  ·rename_i d' _ hd
   simp only[sJ,pJ]at h
   obtain⟨rfl,rfl⟩:=h
   exact⟨0,o,rfl,rfl,hd⟩
  ·obtain⟨k,o',h1,h2,h3⟩:=ih h
   exact⟨k+1,o',om,by simpa using h2,h3⟩
theorem cLast_spec{rest:List Oper}{l:List AOper}{st:Option (Nat×Nat)}(h:cLast P n ps ops rest=some (l,st)):(st=none∧cOpers P n ops rest=some l) ∨
  ∃c d ac,st=some (c,d)∧l.length=rest.length∧(∀k o,rest[k]?=some o→∃a,l[k]?=some a∧AtP P n ops c d k o a)∧l[c]?=some ac∧ac.dst=some d∧(∀i b,l[i]?=some b→b.dst=some d→i=c):=by
 have hp:cPlain P n ops rest=some (l,st)→st=none∧cOpers P n ops rest=some l:=by
  intro h
  unfold cPlain at h
  split at h
  ·rename_i l' hl
   simp only[sJ,pJ]at h
   obtain⟨rfl,rfl⟩:=h
   exact⟨rfl,hl⟩
  ·simp at h
 unfold cLast at h
 split at h
 ·rename_i c d hr
  split at h
  ·rename_i l' hl
   cases hw:onlyW c d 0 l' with
   | false=>rw[hw]at h; exact .inl (hp h)
   | true=>
    rw[hw]at h
    simp only[cond_true,sJ,pJ]at h
    obtain⟨rfl,rfl⟩:=h
    obtain⟨q1,q2⟩:=cPoss_spec hl
    obtain⟨k,o,hc,ho,hd⟩:=rawAt_spec hr
    rw[Nat.zero_add]at hc
    subst hc
    obtain⟨ac,z1,_,z2⟩:=q2 c o ho
    exact .inr ⟨c,d,ac,rfl,q1,fun k o hk=>by have:=q2 k o hk; rw[Nat.zero_add]at this; obtain⟨a,y1,y2,_⟩:=this; exact⟨a,y1,y2⟩,z1,by rw[z2]; exact hd,fun i b hb hbd=>by have:=onlyW_spec hw i b hb hbd; omega⟩
  ·exact .inl (hp h)
 ·exact .inl (hp h)
theorem claims_len:∀(m:List AOper) (b:Nat),(claims b m).length=m.length
 | [],_=>rfl
 | o::r,b=>by simp only[claims]; cases newOf o.op <;> simp[claims_len r]
theorem claims_get:∀(l:List AOper) (b k:Nat) (a:AOper),l[k]?=some a→∃c,b≤c∧(claims b l)[k]?=(claims c [a])[0]?
 | [],_,_,_,h=>by simp at h
 | o::r,b,0,a,h=>by
  simp only[List.getElem?_cons_zero,sJ]at h
  subst h
  refine⟨b,Nat.le_refl _,?_⟩
  simp only[claims]
  cases newOf o.op with
  | none=>rfl
  | some p=>rfl
 | o::r,b,k+1,a,h=>by
  simp only[List.getElem?_cons_succ]at h
  simp only[claims]
  cases newOf o.op with
  | none=>simp only[List.getElem?_cons_succ]; exact claims_get r b k a h
  | some p=>
   obtain⟨c,h1,h2⟩:=claims_get r (b+1) k a h
   exact⟨c,om,by simp only[List.getElem?_cons_succ]; exact h2⟩
theorem okPairs_at{l:List AOper}{ms:List Nat}(hp:okPairs l ms=true){i j:Nat}{a b:AOper}(hij:i<j)(hi:l[i]?=some a)(hj:l[j]?=some b):okPair ms i j a b=true:=by
 unfold okPairs at hp
 rw[List.all_eq_true]at hp
 have h1:=hp j (List.mem_range.2 (List.getElem?_eq_some_iff.1 hj).1)
 rw[hj]at h1
 simp only at h1
 rw[List.all_eq_true]at h1
 have h2:=h1 i (List.mem_range.2 hij)
 rw[hi]at h2
 exact h2
theorem claims_dst{l:List AOper}{b k:Nat}{a:AOper}(h:(claims b l)[k]?=some a):∃a',l[k]?=some a'∧a'.dst=a.dst:=by
 have hkl:k<l.length:=by have:=(List.getElem?_eq_some_iff.1 h).1; rwa [claims_len]at this
 obtain⟨b4,_,hg4⟩:=claims_get l b k _ (List.getElem?_eq_getElem hkl)
 refine⟨_,List.getElem?_eq_getElem hkl,?_⟩
 rw[h]at hg4
 simp only[claims]at hg4
 cases hz:newOf (l[k]).op with
 | none=>rw[hz]at hg4; simp only[List.getElem?_cons_zero,sJ]at hg4; rw[hg4]
 | some p=>rw[hz]at hg4; simp only[List.getElem?_cons_zero,sJ]at hg4; rw[hg4]
theorem claims_one{a:AOper}(h:newOf a.op=none)(b:Nat):claims b [a]=[a]:=by simp[claims,h]
theorem heap_still{tb:FuncId→Bool}{call:FuncId→List AVal→AHeap→Option (AVal×AHeap)}{m:List AOper}{U:Tr AVal}{K:AHeap}{ss:List (AVal×AHeap)}(htr:atrace tb call m U K=some ss){c:Nat}{H1:AHeap}{v:AVal}(hs:ss[c]?=some (v,H1))
  (h:∀k b,c<k→m[k]?=some b→isChain b.op=false∨gOK (tsel (fun i=>Nat.blt i (0+k)) 0 m ss U) b.guard=false):hAt K ss m.length=H1:=by
 obtain⟨hl,hat⟩:=trace_at m U K ss 0 htr
 have hc:c<ss.length:=(List.getElem?_eq_some_iff.1 hs).1
 have key:∀e,c+1+e≤m.length→hAt K ss (c+1+e)=H1:=by
  intro e
  induction e with
  | zero=>intro _; simp only[Nat.add_zero,hAt,hs]
  | succ e ih=>
   intro he
   have h0:=ih om
   have hb:m[c+1+e]?=some (m[c+1+e]'om):=List.getElem?_eq_getElem om
   rcases h _ _ om hb with h1 | h1
   ·have:=heap_between htr 1 (c+1+e) om fun q o q1 q2 q3=>by
     have:q=c+1+e:=om
     subst this
     rw[hb,sJ]at q3
     subst q3
     exact h1
    rw[← Nat.add_assoc,this,h0]
   ·obtain⟨v',H',z1,z2⟩:=hat _ _ hb
    simp only[astep,h1,cond_false,sJ,pJ]at z2
    rw[← Nat.add_assoc]
    simp only[hAt,z1]
    rw[← z2.2,h0]
 have:=key (m.length-(c+1)) om
 rwa [show c+1+(m.length-(c+1))=m.length by omega]at this
end
section
variable {P:Program} {Prot:Gh} {w0:World} {ρ:Pl} {H H':AHeap} {w:World}
theorem draw_simP(hfol:P.follows .mixedOrders=true){tb:FuncId→Bool}(htb:∀f,Nat.blt f BIG=true→tb f=true→hasBody P f=true)(htbP:∀f,Nat.blt f BIG=true→tb (BIG+f)=true→hasBody P f=true)
  {call:FuncId→List AVal→AHeap→Option (AVal×AHeap)} (hcall:CallOK P call) (hcallP:CallP P call) {n id:Nat} {ps:List Nat} {ops:Array Oper} {l:List AOper} {st:Option (Nat×Nat)}
  (hl:cLast P n ps ops ops.toList=some (l,st)) (hok:okMask (ops.toList.map bindE) (masksGo [] (ops.toList.map bindE))=true) (hokp:okPairs (claims 0 l) (masksGo [] (ops.toList.map bindE))=true) (hlT:l.all (aoperT n)=true)
  {T T1:Tr AVal} {H1:AHeap} {e:AEx} {a:Act} (R:Rel Prot w0 ρ H w) (hP:PSt ρ n T a)
  (h:adraw tb call (claims H.next l) ((List.range l.length).map (chkOf (claims 0 l) (masksGo [] (ops.toList.map bindE)))) T (reserves H l)=some (e,T1,H1)) :
  e=.normal∧(Code.region id ops true).wp P (fun e' a' w'=>∃ρ',ρ.le ρ'∧Rel Prot w0 ρ' H1 w' ∧
   ((e'=.normal∧PSt ρ' n T1 a')∨∃c d' x u,st=some (c,d')∧e'=.panic [{ v:=u,recovered:=false }]∧ev T1 (.t d')=panV x∧VRel ρ' x u∧a'.defers=a.defers∧ev T1 (.t (n+1))=ev T (.t (n+1)))) a w:=by
 obtain⟨U,hG,ht⟩:=hP.1.t
 obtain⟨he,U1,hU,hG1,hS⟩:=adraw_ge hG (claims_T l H.next hlT) h
 refine⟨he,?_⟩
 have hPn:∀(ρ':Pl) (a':Act),ρ.le ρ'→TmpsRel ρ' n U1 a'.tmps→a'.defers=a.defers→PSt ρ' n T1 a':=fun ρ' a' hle ht' hd'=>
  ⟨⟨⟨U1,hG1,ht'⟩,by rw[hd',hS (n+1) om]; exact hP.1.d.mono hle⟩,by rw[hS n rL]; exact hP.2⟩
 have hlen0:(claims 0 l).length=l.length:=claims_len l 0
 have hlk:=claims_like l H.next 0
 have hok2:okPairs (claims H.next l) (masksGo [] (ops.toList.map bindE))=true:=by rw[okPairs_like hlk]; exact hokp
 have hbase:∀d,Prot.dead d→d<H.next:=fun d hd=>(R.dead d hd).1
 have hone:∀{o a},cOper P n ops o=some a→cOpers P n ops [o]=some [a]:=fun ho=>by simp only[cOpers,ho]
 have hnc:NoClaim l:=by
  rcases cLast_spec hl with⟨_,h2⟩ | ⟨c,d,ac,_,h2,h3,_⟩
  ·exact opers_noClaim h2
  ·intro x hx c' z s hcl
   obtain⟨k,hk⟩:=List.getElem?_of_mem hx
   have hkl:=(List.getElem?_eq_some_iff.1 hk).1
   obtain⟨a,y1,y2⟩:=h3 k _ (List.getElem?_eq_getElem om)
   rw[hk,sJ]at y1
   subst y1
   rcases y2 with⟨_,f,args,ats,lx,g,_,_,_,_,_,rfl⟩ | ⟨_,_,y2⟩ | ⟨_,_,a',y2,_,_,rfl⟩
   ·simp at hcl
   ·exact opers_noClaim (hone y2) x (by simp) c' z s hcl
   ·exact opers_noClaim (hone y2) a' (by simp) c' z s hcl
 have hrp:∃rp:Nat→Prop,(∀c,rp c→∃d,st=some (c,d))∧(∀c d,st=some (c,d)→rp c):=⟨fun c=>∃d,st=some (c,d),fun c h=>h,fun c d h=>⟨d,h⟩⟩
 obtain⟨rp,hrp1,hrp2⟩:=hrp
 have hopers:(claims H.next l).length=ops.toList.length∧∀(j:Nat) (o:Oper),ops.toList[j]?=some o→∃a,(claims H.next l)[j]?=some a∧((¬rp j∧(cOper P n ops o=some a∨(∃c,H.next≤c∧IsCl P n ops o a c)∨IsGd P n ops (claims H.next l) (masksGo [] (ops.toList.map bindE)) rp o a j))∨(st≠none∧rp j∧IsRaw P n ops o a)):=by
  rcases cLast_spec hl with⟨rfl,h2⟩ | ⟨c,d,ac,rfl,h2,h3,h4,h5,h6⟩
  ·obtain⟨q1,q2⟩:=claims_at h2 H.next
   exact⟨q1,fun j o hj=>let ⟨a,z1,z2⟩:=q2 j o hj; ⟨a,z1,.inl ⟨fun hr=>by obtain⟨d,hd⟩:=hrp1 j hr; simp at hd,z2.imp_right .inl⟩⟩⟩
  ·refine⟨by rw[claims_len]; exact h2,fun j o hj=>?_⟩
   obtain⟨a,y1,y2⟩:=h3 j o hj
   obtain⟨b,hb,hget⟩:=claims_get l H.next j a y1
   have hnr:j≠c→¬rp j:=fun hne hr=>by obtain⟨d',hd⟩:=hrp1 j hr; simp only[sJ,pJ]at hd; exact hne hd.1.symm
   rcases y2 with⟨rfl,y2⟩ | ⟨hne,_,y2⟩ | ⟨hne,hbit,a',y2,y3,y4,rfl⟩
   ·have hz:newOf a.op=none:=by obtain⟨f,args,ats,lx,g,_,_,_,_,_,rfl⟩:=y2; rfl
    rw[claims_one hz]at hget
    exact⟨a,by simpa using hget,.inr ⟨by simp,hrp2 _ _ rfl,y2⟩⟩
   ·obtain⟨_,q2⟩:=claims_at (hone y2) b
    obtain⟨a2,z1,z2⟩:=q2 0 o rfl
    refine⟨a2,by rw[hget,z1],.inl ⟨hnr hne,z2.imp_right fun ⟨c',w1,w2⟩=>.inl ⟨c',om,w2⟩⟩⟩
   ·rw[claims_one (a:=⟨a'.dst,a'.op,some (SK+d,false)⟩) y4]at hget
    have hcz:∃ac2,(claims H.next l)[c]?=some ac2∧ac2.dst=some d∧ac2.dst=ac.dst:=by
     obtain⟨b2,_,hg2⟩:=claims_get l H.next c ac h4
     simp only[claims]at hg2
     cases hz:newOf ac.op with
     | none=>rw[hz]at hg2; exact⟨ac,by simpa using hg2,h5,rfl⟩
     | some p=>rw[hz]at hg2; exact⟨⟨ac.dst,.claim b2 p.1 p.2,ac.guard⟩,by simpa using hg2,h5,rfl⟩
    obtain⟨ac2,w1,w2,_⟩:=hcz
    refine⟨_,by simpa using hget,.inl ⟨hnr hne,.inr (.inr ⟨a',c,d,ac2,y2,y3,rfl,hbit,hrp2 _ _ rfl,w1,w2,fun k b' hk hbd=>?_⟩)⟩⟩
    obtain⟨b3,w3,w4⟩:=claims_dst hk
    exact h6 k b3 w3 (w4.trans hbd)
 have hraw:∀c d,st=some (c,d)→∃ac,(claims H.next l)[c]?=some ac∧ac.dst=some d∧isChain ac.op=true∧d<n∧(∀k b,(claims H.next l)[k]?=some b→b.dst=some d→k=c)∧∀k b,c<k→(claims H.next l)[k]?=some b→isChain b.op=true→b.guard=some (SK+d,false):=by
  intro c d hst
  rcases cLast_spec hl with⟨h0,_⟩ | ⟨c',d',ac,h1,h2,h3,h4,h5,h6⟩
  ·rw[hst]at h0; simp at h0
  ·rw[hst,sJ,pJ]at h1
   obtain⟨rfl,rfl⟩:=h1
   have hcl:=(List.getElem?_eq_some_iff.1 h4).1
   obtain⟨a,y1,y2⟩:=h3 c _ (List.getElem?_eq_getElem om)
   rw[h4,sJ]at y1
   subst y1
   rcases y2 with⟨_,f,args,ats,lx,g,_,_,_,q4,_,rfl⟩ | ⟨hne,_⟩ | ⟨hne,_⟩
   ·simp only at h5
    rw[h5]at q4
    obtain⟨b,_,hget⟩:=claims_get l H.next c _ h4
    rw[claims_one rfl]at hget
    have hc2:=hget
    simp only[List.getElem?_cons_zero]at hc2
    refine⟨_,hc2,h5,rfl,blt_lt q4,fun k b' hk hbd=>?_,fun k b' hck hk hch=>?_⟩
    ·obtain⟨b3,w3,w4⟩:=claims_dst hk
     exact h6 k b3 w3 (w4.trans hbd)
    ·have hpr:=okPairs_at hok2 hck hc2 hk
     simp only[okPair,Bool.or_eq_true,Bool.and_eq_true,Bool.not_eq_true']at hpr
     have hbit:bit (masksGo [] (ops.toList.map bindE)) k c=true:=by
      rcases hpr with hpr | ⟨hpr,_⟩
      ·exact hpr
      ·rw[hch]at hpr; simp[isChain,isPure,isLoad]at hpr
     obtain⟨b3,w3,_⟩:=claims_dst hk
     have hkl:=(List.getElem?_eq_some_iff.1 w3).1
     obtain⟨a2,z1,z2⟩:=h3 k _ (List.getElem?_eq_getElem om)
     rcases z2 with⟨rfl,_⟩ | ⟨_,hb0,_⟩ | ⟨_,_,a',_,_,x4,rfl⟩
     ·omega
     ·rw[hbit]at hb0; simp at hb0
     ·obtain⟨b5,_,hg5⟩:=claims_get l H.next k _ z1
      rw[claims_one (a:=⟨a'.dst,a'.op,some (SK+d,false)⟩) x4,hk]at hg5
      simp only[List.getElem?_cons_zero,sJ]at hg5
      rw[hg5]
   ·exact (hne rfl).elim
   ·exact (hne rfl).elim
 have R':=reserves_rel (pr:=Prot.prot) l Prot.dead H hnc R
 have hchk:(List.range l.length).map (chkOf (claims 0 l) (masksGo [] (ops.toList.map bindE)))=(List.range (claims H.next l).length).map (chkOf (claims H.next l) (masksGo [] (ops.toList.map bindE))):=by
  have:l.length=(claims H.next l).length:=by rw[← hlen0]; exact (hlk.len).symm
  rw[this]
  exact List.map_congr_left fun j _=>(chkOf_like hlk _ j).symm
 have hdis:=claims_inj l H.next hnc
 rw[hchk]at hU h
 generalize hcl:claims H.next l=m at *
 generalize hrv:reserves H l=K at *
 unfold adraw at hU
 cases hss:atrace tb call m U K with
 | none=>rw[hss]at hU; simp at hU
 | some ss=>
  rw[hss]at hU
  simp only at hU
  cases hr:chkRun tb (K::ss.map (·.2)) m ((List.range m.length).map (chkOf m (masksGo [] (ops.toList.map bindE)))) ss U with
  | false=>rw[hr]at hU; simp at hU
  | true=>
   rw[hr]at hU
   simp only[cond_true,sJ,pJ,true_and]at hU
   obtain⟨rfl,rfl⟩:=hU
   refine wp_region_any hfol ?_
   have hN:m.length=ops.size:=by simpa using hopers.1
   have hrep:∀i,(Array.replicate ops.size false).getD i false=false:=fun i=>by
    rw[Array.getD_eq_getD_getElem?,Array.getElem?_replicate]; split <;> rfl
   have hm0:(fun i=>(Array.replicate ops.size false).getD i false)=fun _=>false:=funext hrep
   have hst:stage (fun i=>(Array.replicate ops.size false).getD i false) 0 m=stage (fun _=>false) 0 m:=stage_congr m 0 fun c o _ _=>by simp only[hrep]
   have hH:hAt K ss (stage (fun _=>false) 0 m)=K:=by
    obtain⟨q1,q2,q3,q4⟩:=stage_spec (fun _=>false) m 0
    have:=heap_between hss (stage (fun _=>false) 0 m) 0 om fun c o _ hlt ho=>by
     cases hx:isChain o.op with
     | false=>rfl
     | true=>have:=q3 c o ho hx om; simp at this
    rw[Nat.zero_add]at this
    rw[this]; rfl
   have htl:TmpsRel ρ n (tsel (fun i=>(Array.replicate ops.size false).getD i false) 0 m ss U) a.tmps:=by
    refine ht.congr fun t=>?_
    rw[hm0]
    have:∀(l:List AOper) (ss:List (AVal×AHeap)) (k:Nat) (T:Tr AVal),tsel (fun _=>false) k l ss T=T:=by
     intro l
     induction l with
     | nil=>intro ss k T; cases ss <;> rfl
     | cons o r ih=>intro ss k T; cases ss with
      | nil=>rfl
      | cons s ss=>obtain⟨x,y⟩:=s; simp only[tsel,cond_false,ih]
    rw[this]
   refine draw_any (RAW:=st≠none) (rp:=rp) (ds:=a.defers) (Prot:=Prot) (w0:=w0) htb hcall (fun _=>htbP) (fun _=>hcallP) (base:=H.next) hopers.1 hopers.2 hbase hdis hok hok2 hss hr (ρ0:=ρ) (fun a' w' hx=>?_) (fun hd c a' w' ρ' x u hrc hle hx hv hda=>?_) ops.size _ a _ (by simp) ?_ (fun j _ hj=>by rw[hrep]at hj; simp at hj) (fun j _ hj=>by rw[hrep]at hj; simp at hj) ⟨ρ,Pl.le_refl _,?_,htl,rfl⟩
   ·obtain⟨ρ',q1,q2,q3,q4⟩:=hx
    exact⟨ρ',q1,q2,.inl ⟨rfl,hPn ρ' a' q1 q3 q4⟩⟩
   ·obtain⟨d',hst'⟩:=hrp1 c hrc
    obtain⟨ac,g1,g2,g3,g4,g5,g6⟩:=hraw c d' hst'
    obtain⟨H9,hx,R1⟩:=hx
    have hsel:∀mk:Nat→Bool,mk (0+c)=true→(tsel mk 0 m ss U).get d'=some (panV x):=fun mk hmk=>
     tsel_last m ss 0 c U ac (panV x) H9 g1 hx g2 hmk fun k b hk hkb hbd=>absurd (g5 k b hkb hbd) om
    have hstill:hAt K ss m.length=H9:=heap_still hss hx fun k b hk hkb=>by
     cases hch:isChain b.op with
     | false=>exact .inl rfl
     | true=>
      right
      obtain⟨k1,k2⟩:=gS_sk d'
      rw[g6 k b hk hkb hch]
      simp only[gOK,gV,k1,k2,cond_true,ev]
      rw[hsel _ (by simp only[Nat.zero_add]; exact Nat.ble_eq_true_of_le hk)]
      rfl
    refine⟨ρ',hle,by rw[hstill]; exact R1,.inr ⟨c,d',x,u,hst',rfl,?_,hv,hda,hS (n+1) om⟩⟩
    rw[hG1.1 d' g4]
    simp only[ev,hsel (fun _=>true) rfl]
   ·rw[hm0]
    have:∀k,unl (fun _=>false) k=k:=by
     intro k
     induction k with
     | zero=>rfl
     | succ k ih=>simp only[unl,ih,cond_false]
    exact this _
   ·rw[hst,hH,hm0]; exact R'.drew
end
end Go.Abs
namespace Go.Abs
section
variable {P:Program} {Prot:Gh} {w0:World} {ρ:Pl} {H H':AHeap} {w:World}
theorem codeP_sim(hfol:P.follows .mixedOrders=true){tb:FuncId→Bool}(htb:∀f,Nat.blt f BIG=true→tb f=true→hasBody P f=true)(htbP:∀f,Nat.blt f BIG=true→tb (BIG+f)=true→hasBody P f=true)
  {call:FuncId→List AVal→AHeap→Option (AVal×AHeap)} (hcall:CallOK P call) (hcallP:CallP P call) {n k:Nat} {ps:List Nat} :
  ∀(c:Code) (ac:ACode),cCodeP P n ps c=some ac→∀(ρ:Pl) (T T':Tr AVal) (H H':AHeap) (e:AEx) (a:Act) (w:World),
   Rel Prot w0 ρ H w→PSt ρ n T a→aexec tb call k ac T H=some (e,T',H')→c.wp P (SimP Prot w0 ρ n e T' H') a w:=by
 intro c
 induction c with
 | skip=>
  intro ac hc ρ T T' H H' e a w R hP h
  simp only[cCodeP,sJ]at hc; subst hc
  simp only[aexec,sJ,pJ]at h
  obtain⟨rfl,rfl,rfl⟩:=h
  exact wp_skip ⟨ρ,Pl.le_refl _,R,rfl,hP⟩
 | region id ops draw=>
  intro ac hc ρ T T' H H' e a w R hP h
  cases draw with
  | false=>
   simp only[cCodeP]at hc
   split at hc
   ·rename_i its hl
    simp only[sJ]at hc; subst hc
    refine wp_region ?_
    have:=items_sim (Prot:=Prot) (w0:=w0) htb htbP hcall hcallP ops.toList 0 its (fun j=>by simp) hl ρ ρ T T' H H' e a w (Pl.le_refl _) R hP h
    rw[List.range_eq_range']
    simpa using this
   ·simp at hc
  | true=>
   simp only[cCodeP,cDrawP]at hc
   split at hc
   ·rename_i l st hl
    cases hck:okMask (ops.toList.map bindE) (masksGo [] (ops.toList.map bindE))&&okPairs (claims 0 l) (masksGo [] (ops.toList.map bindE))&&l.all (aoperT n) with
    | false=>
     rw[hck]at hc
     simp only[cond_false,sJ]at hc; subst hc
     simp[stuck_none]at h
    | true=>
     rw[hck]at hc
     simp only[cond_true]at hc
     simp only[Bool.and_eq_true]at hck
     obtain⟨⟨hk1,hk2⟩,hk3⟩:=hck
     cases st with
     | none=>
      simp only[sJ]at hc; subst hc
      simp only[aexec]at h
      obtain⟨rfl,hw⟩:=draw_simP (id:=id) hfol htb htbP hcall hcallP hl hk1 hk2 hk3 R hP h
      refine wp_mono hw ?_
      rintro e' a' w' ⟨ρ',q1,q2,⟨rfl,q3⟩ | ⟨c',d',x,u,hd,_⟩⟩
      ·exact⟨ρ',q1,q2,rfl,q3⟩
      ·simp at hd
     | some cd=>
      obtain⟨cc,d⟩:=cd
      simp only[sJ]at hc; subst hc
      simp only[aexec]at h
      cases hdr:adraw tb call (claims H.next l) ((List.range l.length).map (chkOf (claims 0 l) (masksGo [] (ops.toList.map bindE)))) T (reserves H l) with
      | none=>rw[hdr]at h; simp at h
      | some r=>
       obtain⟨e1,T1,H1⟩:=r
       rw[hdr]at h
       obtain⟨rfl,hw⟩:=draw_simP (id:=id) hfol htb htbP hcall hcallP hl hk1 hk2 hk3 R hP hdr
       simp only at h
       rw[aregs_step',astep_none]at h
       simp only[aop,evs,aPf,vv,aIsP,aregs,aput]at h
       have e2:ev (T1.set (n+2) (.bool (isPan (ev T1 (.t d))))) (.t (n+2))=.bool (isPan (ev T1 (.t d))):=by rw[ev_set,if_pos rfl]
       rw[e2]at h
       refine wp_mono hw ?_
       rintro e' a' w' ⟨ρ',q1,q2,⟨rfl,q3⟩ | ⟨c',d',x,u,hd,rfl,q3,q4,q5,q6⟩⟩
       ·cases hp:isPan (ev T1 (.t d)) with
        | false=>
         rw[hp]at h
         simp only[sJ,pJ]at h
         obtain⟨rfl,rfl,rfl⟩:=h
         exact⟨ρ',q1,q2,rfl,q3.ghost rL _⟩
        | true=>
         exfalso
         obtain⟨U,hG,ht⟩:=q3.1.t
         obtain⟨y,hy⟩:=isPan_spec hp
         by_cases hdn:d<n
         ·have:=ht.at_ d
          rw[← hG.1 d hdn]at this
          exact pan_no this hy
         ·rcases cLast_spec hl with⟨h0,_⟩ | ⟨c2,d2,ao,h4,_,_,h6',h6,_⟩
          ·simp at h0
          ·simp only[sJ,pJ]at h4
           obtain⟨rfl,rfl⟩:=h4
           have:=List.all_eq_true.1 hk3 ao (List.mem_of_getElem? h6')
           simp only[aoperT,Bool.and_eq_true,h6]at this
           exact hdn (blt_lt this.2.2)
       ·simp only[sJ,pJ]at hd
        obtain⟨rfl,rfl⟩:=hd
        have hp:isPan (ev T1 (.t d))=true:=by rw[q3]; rfl
        rw[hp]at h
        simp only[gOK,cond_true,aIsU]at h
        have e3:ev ((T1.set (n+2) (.bool true)).set (n+2) (.bool (isU (ev (T1.set (n+2) (.bool true)) (.t (n+1)))))) (.t (n+2))=.bool (isU (ev (T1.set (n+2) (.bool true)) (.t (n+1)))):=by rw[ev_set,if_pos rfl]
        rw[e3]at h
        have e4:ev (T1.set (n+2) (.bool true)) (.t (n+1))=ev T1 (.t (n+1)):=by rw[ev_set,if_neg om]
        rw[e4]at h
        cases hu:isU (ev T1 (.t (n+1))) with
        | false=>rw[hu]at h; simp[stuckC,aexec,aregs,gOK,aop]at h
        | true=>
         rw[hu]at h
         simp only[aregs,gOK,cond_true,aop,aput]at h
         simp only[sJ,pJ]at h
         obtain⟨rfl,rfl,rfl⟩:=h
         have hund:ev T1 (.t (n+1))=undefA:=by
          unfold isU at hu
          split at hu
          ·rename_i h9; rw[h9]; rfl
          ·simp at hu
         have hdn:∃v,ev ((T1.set (n+2) (.bool true)).set (n+2) (.bool true)) (.t d)=v:=⟨_,rfl⟩
         have hdlt:d<n:=by
          rcases cLast_spec hl with⟨h0,_⟩ | ⟨c2,d2,ao,h4,_,_,h6',h6,_⟩
          ·simp at h0
          ·simp only[sJ,pJ]at h4
           obtain⟨rfl,rfl⟩:=h4
           have:=List.all_eq_true.1 hk3 ao (List.mem_of_getElem? h6')
           simp only[aoperT,Bool.and_eq_true,h6]at this
           exact blt_lt this.2.2
         refine⟨ρ',q1,q2,.inr ⟨rfl,.inr ⟨u,rfl,x,?_,q4,.inl ⟨?_,?_⟩⟩⟩⟩
         ·rw[ev_set,if_pos rfl,ev_set,if_neg om,ev_set,if_neg om]; exact q3
         ·rw[q5]
          have:=hP.1.d
          rw[← q6,hund]at this
          rcases this with⟨_,h9⟩ | ⟨f,fa,fb,d9,cap,h9,_⟩
          ·exact h9
          ·simp[undefA]at h9
         ·rw[ev_set,if_neg om,ev_set,if_neg om,ev_set,if_neg om]; exact hund
   ·simp at hc
 | seq x y ihx ihy=>
  intro ac hc ρ T T' H H' e a w R hP h
  simp only[cCodeP]at hc
  split at hc
  ·rename_i ax ay hx hy
   simp only[sJ]at hc; subst hc
   simp only[aexec]at h
   split at h
   ·rename_i T1 H1 h1
    refine wp_seq (wp_mono (ihx _ hx ρ T T1 H H1 .normal a w R hP h1) ?_)
    rintro e1 a1 w1 ⟨ρ1,hl,R1,rfl,hP1⟩
    exact wp_mono (ihy _ hy ρ1 T1 T' H1 H' e a1 w1 R1 hP1 h) fun _ _ _ q=>q.weaken hl
   ·rename_i e1 T1 H1 hne h1
    simp only[sJ,pJ]at h
    obtain⟨rfl,rfl,rfl⟩:=h
    refine wp_seq (wp_mono (ihx _ hx ρ T T1 H H1 e1 a w R hP h1) ?_)
    rintro e2 a1 w1 q
    obtain⟨ρ1,q1,q2,q3⟩:=q
    cases e1 with
    | normal=>exact (hne rfl).elim
    | ret=>exact q3.elim
    | exit id=>
     rcases q3 with⟨z1,rfl,z2⟩ | ⟨z1,⟨rfl,z2⟩ | ⟨u,rfl,z2⟩⟩
     ·exact⟨ρ1,q1,q2,.inl ⟨z1,rfl,z2⟩⟩
     ·exact⟨ρ1,q1,q2,.inr ⟨z1,.inl ⟨rfl,z2⟩⟩⟩
     ·exact⟨ρ1,q1,q2,.inr ⟨z1,.inr ⟨u,rfl,z2⟩⟩⟩
   ·simp at h
  ·simp at hc
 | cond c x y ihx ihy=>
  intro ac hc ρ T T' H H' e a w R hP h
  simp only[cCodeP]at hc
  split at hc
  ·rename_i c' ax ay hcc hx hy
   cases hT:opdT n c' with
   | false=>rw[hT]at hc; simp at hc
   | true=>
    rw[hT]at hc
    simp only[cond_true,sJ]at hc; subst hc
    simp only[aexec]at h
    obtain⟨U,hG,ht⟩:=hP.1.t
    have hv:=opd_ok ht hcc
    rw[← hG.x hT]at hv
    split at h
    ·rename_i hb
     rw[hb]at hv
     simp only[VRel]at hv
     exact wp_cond_true hv (ihx _ hx ρ T T' H H' e a w R hP h)
    ·rename_i hb
     rw[hb]at hv
     simp only[VRel]at hv
     exact wp_cond_false hv (ihy _ hy ρ T T' H H' e a w R hP h)
    ·simp at h
  ·simp at hc
 | block id c ih=>
  intro ac hc ρ T T' H H' e a w R hP h
  simp only[cCodeP]at hc
  split at hc
  ·rename_i ax hx
   cases hid:Nat.beq id PB with
   | true=>rw[hid]at hc; simp at hc
   | false=>
    rw[hid]at hc
    simp only[cond_false,sJ]at hc; subst hc
    have hidn:¬id=PB:=fun e=>by rw[e,Nat.beq_refl]at hid; simp at hid
    simp only[aexec]at h
    split at h
    ·rename_i j T1 H1 h1
     refine wp_block (wp_mono (ih _ hx ρ T T1 H H1 (.exit j) a w R hP h1) ?_)
     rintro e1 a1 w1 ⟨ρ1,q1,q2,q3⟩
     cases hb:Nat.beq j id with
     | true=>
      rw[hb]at h
      simp only[cond_true,sJ,pJ]at h
      obtain⟨rfl,rfl,rfl⟩:=h
      have:=Nat.eq_of_beq_eq_true hb
      subst this
      rcases q3 with⟨_,rfl,z2⟩ | ⟨z1,_⟩
      ·simp only[Exit.inBlock,if_true]
       exact⟨ρ1,q1,q2,rfl,z2⟩
      ·exact (hidn z1).elim
     | false=>
      rw[hb]at h
      simp only[cond_false,sJ,pJ]at h
      obtain⟨rfl,rfl,rfl⟩:=h
      have:¬j=id:=fun e=>by rw[e,Nat.beq_refl]at hb; simp at hb
      rcases q3 with⟨z1,rfl,z2⟩ | ⟨z1,⟨rfl,z2⟩ | ⟨u,rfl,z2⟩⟩
      ·simp only[Exit.inBlock,this,if_false]
       exact⟨ρ1,q1,q2,.inl ⟨z1,rfl,z2⟩⟩
      ·exact⟨ρ1,q1,q2,.inr ⟨z1,.inl ⟨rfl,z2⟩⟩⟩
      ·exact⟨ρ1,q1,q2,.inr ⟨z1,.inr ⟨u,rfl,z2⟩⟩⟩
    ·rename_i e1 T1 H1 hne h1
     simp only[sJ,pJ]at h
     obtain⟨rfl,rfl,rfl⟩:=h
     refine wp_block (wp_mono (ih _ hx ρ T T1 H H1 e1 a w R hP h1) ?_)
     rintro e2 a1 w1 ⟨ρ1,q1,q2,q3⟩
     cases e1 with
     | normal=>obtain⟨rfl,z⟩:=q3; exact⟨ρ1,q1,q2,rfl,z⟩
     | exit j=>exact (hne _ rfl).elim
     | ret=>exact q3.elim
    ·simp at h
  ·simp at hc
 | loop c ih=>
  intro ac hc ρ T T' H H' e a w R hP h
  simp only[cCodeP]at hc
  split at hc
  ·rename_i ax hx
   simp only[sJ]at hc; subst hc
   simp only[aexec]at h
   refine wp_loop_rounds k ?_
   have key:∀(m:Nat) (T:Tr AVal) (H:AHeap) (ρ1:Pl) (a:Act) (w:World),ρ.le ρ1→Rel Prot w0 ρ1 H w→PSt ρ1 n T a →
     aloop (aexec tb call k ax) m T H=some (e,T',H')→Code.rounds P c (SimP Prot w0 ρ n e T' H') m a w:=by
    intro m
    induction m with
    | zero=>intro T H ρ1 a w _ _ _ h; simp[aloop]at h
    | succ m ihm=>
     intro T H ρ1 a w hl R hP h
     rw[rounds_succ]
     simp only[aloop]at h
     split at h
     ·rename_i T1 H1 h1
      refine wp_mono (ih _ hx ρ1 T T1 H H1 .normal a w R hP h1) ?_
      rintro e1 a1 w1 ⟨ρ2,hl2,R1,rfl,hP1⟩
      exact ihm T1 H1 ρ2 a1 w1 (Pl.le_trans hl hl2) R1 hP1 h
     ·rename_i e1 T1 H1 hne h1
      simp only[sJ,pJ]at h
      obtain⟨rfl,rfl,rfl⟩:=h
      refine wp_mono (ih _ hx ρ1 T T1 H H1 e1 a w R hP h1) ?_
      rintro e2 a1 w1 q
      obtain⟨ρ2,q1,q2,q3⟩:=q.weaken hl
      cases e1 with
      | normal=>exact (hne rfl).elim
      | ret=>exact q3.elim
      | exit id=>
       rcases q3 with⟨z1,rfl,z2⟩ | ⟨z1,⟨rfl,z2⟩ | ⟨u,rfl,z2⟩⟩
       ·exact⟨ρ2,q1,q2,.inl ⟨z1,rfl,z2⟩⟩
       ·exact⟨ρ2,q1,q2,.inr ⟨z1,.inl ⟨rfl,z2⟩⟩⟩
       ·exact⟨ρ2,q1,q2,.inr ⟨z1,.inr ⟨u,rfl,z2⟩⟩⟩
     ·simp at h
   exact key k T H ρ a w (Pl.le_refl _) R hP h
  ·simp at hc
 | exit id=>
  intro ac hc ρ T T' H H' e a w R hP h
  simp only[cCodeP]at hc
  cases hid:Nat.beq id PB with
  | true=>rw[hid]at hc; simp at hc
  | false=>
   rw[hid]at hc
   simp only[cond_false,sJ]at hc; subst hc
   have hidn:¬id=PB:=fun e=>by rw[e,Nat.beq_refl]at hid; simp at hid
   simp only[aexec,sJ,pJ]at h
   obtain⟨rfl,rfl,rfl⟩:=h
   exact wp_exit ⟨ρ,Pl.le_refl _,R,.inl ⟨hidn,rfl,hP⟩⟩
 | ret=>
  intro ac hc ρ T T' H H' e a w R hP h
  simp only[cCodeP,sJ]at hc; subst hc
  simp only[aexec,sJ,pJ]at h
  obtain⟨rfl,rfl,rfl⟩:=h
  exact wp_ret ⟨ρ,Pl.le_refl _,R,.inr ⟨rfl,.inl ⟨rfl,hP⟩⟩⟩
 | _=>
  intro ac hc ρ T T' H H' e a w R hP h
  simp only[cCodeP,sJ]at hc; subst hc
  simp[stuck_none]at h
end
end Go.Abs
