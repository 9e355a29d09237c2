/- Part of a proof (A11 A11b A12 S1 S2 S3 S4 S5 N0 S6 S7 S8 S9 S10 S11); no condition. -/
import Derived.Scope
import Derived.LoopN
import Derived.Defers
import Derived.IntWalk
import Derived.Below
import Derived.OpenShut
import Derived.ChangeSlices
import Derived.WideShapes
import Derived.SizedLaws
import Derived.Test.YtkkjbpmlejjhjaaGreatP3
set_option linter.unusedSimpArgs false
set_option linter.unusedVariables false
set_option linter.defProp false
set_option linter.unnecessarySimpa false
namespace Go.Abs
inductive ACode where
 | skip
 | reg (ops:List AOper)
 | draw (ops:List AOper) (chk:List (List Nat))
 | seq (a b:ACode)
 | cond (c:Opd) (a b:ACode)
 | block (id:Nat) (c:ACode)
 | loop (c:ACode)
 | exit (id:Nat)
 | ret
 | dfr (y:Opd) (b:ACode)
inductive AEx where
 | normal
 | exit (id:Nat)
 | ret
inductive ARes where
 | t (i:Nat)
 | cell (agg:Bool) (size:Nat) (i:Nat)
structure AFn where
 nt:Nat
 body:ACode
 res:List ARes
section
variable (tb:FuncId→Bool) (call:FuncId→List AVal→AHeap→Option (AVal×AHeap))
def aregs:List AOper→Tr AVal→AHeap→Option (Tr AVal×AHeap)
 | [],T,H=>some (T,H)
 | o::r,T,H=>bif gOK T o.guard then
   match aop tb T H o.op with
   | some (.val v,H')=>aregs r (aput T o.dst v) H'
   | some (.enter f args,H')=>match call f args H' with
    | some (v,H'')=>aregs r (aput T o.dst v) H''
    | none=>none
   | none=>none
  else aregs r (aput T o.dst undefA) H
def aloop(body:Tr AVal→AHeap→Option (AEx×Tr AVal×AHeap)):Nat→Tr AVal→AHeap→Option (AEx×Tr AVal×AHeap)
 | 0,_,_=>none
 | n+1,T,H=>match body T H with
  | some (.normal,T',H')=>aloop body n T' H'
  | some (e,T',H')=>some (e,T',H')
  | none=>none
def adraw(ops:List AOper)(chk:List (List Nat))(T:Tr AVal)(H:AHeap):Option (AEx×Tr AVal×AHeap):=
 match atrace tb call ops T H with
 | some ss=>bif chkRun tb (H::ss.map (·.2)) ops chk ss T then some (.normal,tsel (fun _=>true) 0 ops ss T,hAt H ss ops.length) else none
 | none=>none
def aexec(k:Nat):ACode→Tr AVal→AHeap→Option (AEx×Tr AVal×AHeap)
 | .skip,T,H=>some (.normal,T,H)
 | .reg ops,T,H=>match aregs tb call ops T H with
  | some (T',H')=>some (.normal,T',H')
  | none=>none
 | .draw ops chk,T,H=>adraw tb call (claims H.next ops) chk T (reserves H ops)
 | .seq a b,T,H=>match aexec k a T H with
  | some (.normal,T',H')=>aexec k b T' H'
  | some (e,T',H')=>some (e,T',H')
  | none=>none
 | .cond c a b,T,H=>match ev T c with
  | .bool true=>aexec k a T H
  | .bool false=>aexec k b T H
  | _=>none
 | .block id c,T,H=>match aexec k c T H with
  | some (.exit j,T',H')=>bif Nat.beq j id then some (.normal,T',H') else some (.exit j,T',H')
  | some (e,T',H')=>some (e,T',H')
  | none=>none
 | .loop c,T,H=>aloop (aexec k c) k T H
 | .exit id,T,H=>some (.exit id,T,H)
 | .ret,T,H=>some (.ret,T,H)
 | .dfr y b,T,H=>match ev T y with
  | .func (.func g) [] l=>match aexec k b T H with
   | some (.exit _,_,_)=>none
   | some (_,T',H')=>match call (3*BIG+g) l H' with
    | some (_,H'')=>some (.ret,T',H'')
    | none=>none
   | none=>none
  | _=>none
end
def ares(T:Tr AVal)(H:AHeap):List ARes→Option (List AVal)
 | []=>some []
 | .t i::r=>match ares T H r with
  | some l=>some (ev T (.t i)::l)
  | none=>none
 | .cell g n i::r=>match oLoad g n H (ev T (.t i)),ares T H r with
  | some x,some l=>some (x::l)
  | _,_=>none
def aresV:List AVal→AVal
 | [x]=>x
 | l=>.tuple l
def putArgs:List AVal→Nat→Tr AVal→Tr AVal
 | [],_,T=>T
 | x::r,i,T=>putArgs r (i+1) (T.set i x)
structure ANat where
 is:FuncId→Bool
 run:FuncId→List AVal→AHeap→Option (AVal×AHeap)
def tbA(N:ANat)(A:Tr AFn):FuncId→Bool:=fun f=>bif N.is f then true else match A.get f with | some _=>true | none=>false
def acall(N:ANat)(tab:Tr AFn):Nat→FuncId→List AVal→AHeap→Option (AVal×AHeap)
 | 0,_,_,_=>none
 | n+1,f,args,H=>bif N.is f then N.run f args H else match tab.get f with
  | some fn=>bif Nat.ble args.length fn.nt then
    match aexec (tbA N tab) (acall N tab n) n fn.body (putArgs args 0 .e) H with
    | some (.exit _,_,_)=>none
    | some (_,T,H')=>match ares T H' fn.res with
     | some l=>some (aresV l,H')
     | none=>none
    | none=>none
   else none
  | none=>none
section
variable (P:Program)
def stuckC:ACode:=.reg [⟨none,.bad,none⟩]
def cCode(n:Nat):Code→Option ACode
 | .skip=>some .skip
 | .region _ ops false=>match cOpers P n ops ops.toList with
  | some l=>some (.reg l)
  | none=>none
 | .region _ ops true=>match cOpers P n ops ops.toList with
  | some l=>bif okMask (ops.toList.map bindE) (masksGo [] (ops.toList.map bindE))&&okPairs (claims 0 l) (masksGo [] (ops.toList.map bindE)) then
    some (.draw l ((List.range l.length).map (chkOf (claims 0 l) (masksGo [] (ops.toList.map bindE))))) else some stuckC
  | none=>none
 | .seq a b=>match cCode n a,cCode n b with
  | some a,some b=>some (.seq a b)
  | _,_=>none
 | .cond c a b=>match cOpd c,cCode n a,cCode n b with
  | some c,some a,some b=>some (.cond c a b)
  | _,_,_=>none
 | .block id c=>match cCode n c with
  | some c=>some (.block id c)
  | none=>none
 | .loop c=>match cCode n c with
  | some c=>some (.loop c)
  | none=>none
 | .exit id=>some (.exit id)
 | .ret=>some .ret
 | .scope c=>cCode n c
 | .label _=>some .skip
 | _=>some stuckC
def cRes:List ResultVar→Option (List ARes)
 | []=>some []
 | .tmp t::r=>match cRes r with
  | some l=>some (.t t::l)
  | none=>none
 | .cell a t::r=>match tyOf P t,cRes r with
  | some (g,n),some l=>some (.cell g n a::l)
  | _,_=>none
def cDfr(n:Nat):Code→Option (List AOper×Opd)
 | .region _ ops false=>match ops.toList.getLast? with
  | some ⟨none,.defer ⟨.value x,as,_⟩,_,_,_,none⟩=>match as.toList,cOpd x,cOpers P n ops ops.toList.dropLast with
   | [],some y,some l=>some (l,y)
   | _,_,_=>none
  | _=>none
 | _=>none
def cCodeD(n:Nat):Code→Option ACode
 | .seq a b=>match cDfr P n a with
  | some (l,y)=>match cCode P n b with
   | some b=>some (.seq (.reg l) (.dfr y b))
   | none=>none
  | none=>match cCodeD n b with
   | some b=>match cCode P n a with
    | some a=>some (.seq a b)
    | none=>none
   | none=>none
 | _=>none
def cBody(n:Nat)(c:Code):Option ACode:=match cCodeD P n c with
 | some b=>some b
 | none=>cCode P n c
def cFnG(cc:Nat→Code→Option ACode)(f:FuncId):Option AFn:=
 match P.funcs[f]? with
 | some fn=>match fn.body with
  | some c => bif fn.name == "runtime.NumGoroutine" then none else
   match cc fn.ntmps c,cRes P fn.results.toList with
   | some b,some r=>some ⟨fn.ntmps,b,r⟩
   | _,_=>none
  | none=>none
 | none=>none
def eFn(i:Nat):Option AFn:=bif Nat.blt i BIG then cFnG P (cBody P) i else bif Nat.blt i (3*BIG) then none else bif Nat.blt i (4*BIG) then cFnG P (cCode P) (i-3*BIG) else none
def TabOK(tab:Tr AFn):Prop:=∀f fn,tab.get f=some fn→eFn P f=some fn
end
section
variable {P:Program} {Prot:Gh} {w0:World} {ρ:Pl} {H H':AHeap} {w:World}
def SimQ(P:Program)(Prot:Gh)(w0:World)(ds:List Deferred)(ρ:Pl)(n:Nat)(e:AEx)(T:Tr AVal)(H:AHeap):Exit→Act→World→Prop:=fun e' a w=>
 (match e with | .normal=>e'=.normal | .exit id=>e'=.exit id | .ret=>e'=.ret)∧∃ρ',ρ.le ρ'∧Rel Prot w0 ρ' H w∧TmpsRel ρ' n T a.tmps∧a.defers=ds
theorem regs_sim{tb:FuncId→Bool}(htb:∀f,Nat.blt f BIG=true→tb f=true→hasBody P f=true){call:FuncId→List AVal→AHeap→Option (AVal×AHeap)}(hcall:CallOK P call){ds:List Deferred}{n:Nat}{ops:Array Oper}{Q:Exit→Act→World→Prop}{tl:List Nat} :
  ∀(rest:List Oper) (i:Nat) (l:List AOper),(∀j,j<rest.length→rest[j]?=ops[i+j]?)→cOpers P n ops rest=some l→∀(ρ0 ρ:Pl) (T T':Tr AVal) (H H':AHeap) (a:Act) (w:World),ρ0.le ρ →
   Rel Prot w0 ρ H w→TmpsRel ρ n T a.tmps→a.defers=ds→aregs tb call l T H=some (T',H') →
   (∀a' w',(∃ρ',ρ0.le ρ'∧Rel Prot w0 ρ' H' w'∧TmpsRel ρ' n T' a'.tmps∧a'.defers=ds)→wpOps P ops Q tl a' w')→wpOps P ops Q (List.range' i rest.length++tl) a w:=by
 intro rest
 induction rest with
 | nil=>
  intro i l _ hc ρ0 ρ T T' H H' a w hle R ht hd h hQ
  simp only[cOpers,sJ]at hc
  subst hc
  simp only[aregs,sJ,pJ]at h
  obtain⟨rfl,rfl⟩:=h
  exact hQ a w ⟨ρ,hle,R,ht,hd⟩
 | cons o rest ih=>
  intro i l hi hc ρ0 ρ T T' H H' a w hle R ht hd h hQ
  simp only[cOpers]at hc
  split at hc
  ·rename_i ao l' ha hl
   simp only[sJ]at hc
   subst hc
   have ho:ops[i]?=some o:=by have:=hi 0 (by simp); simpa using this.symm
   have hnext:∀j,j<rest.length→rest[j]?=ops[i+1+j]?:=fun j hj=>by have:=hi (j+1) (by simpa using hj); simp only[List.getElem?_cons_succ]at this; rw[this]; congr 1; omega
   unfold cOper at ha
   split at ha
   ·rename_i ax g hop hg
    cases hdst:okDst n o.dst with
    | false=>rw[hdst]at ha; simp at ha
    | true=>
     rw[hdst]at ha
     simp only[cond_true,sJ]at ha
     subst ha
     simp only[List.length_cons,List.range'_succ,List.cons_append,wpOps,ho]
     simp only[aregs]at h
     rw[guard_ok ht hg]
     cases hgo:gOK T g with
     | false=>
      rw[hgo]at h
      simp only[cond_false]at h
      simp only[Bool.false_eq_true,if_false]
      refine ih (i+1) l' hnext hl ρ0 ρ _ _ _ _ _ _ hle R (put_rel ht hdst undef_rel) ?_ h hQ
      cases hx:o.dst <;> simpa[Act.put] using hd
     | true=>
      rw[hgo]at h
      simp only[cond_true]at h
      simp only[if_true]
      left
      split at h
      ·rename_i v H1 hv
       obtain⟨ρ1,w1,nx,q1,q2,q3,q4⟩:=op_sim htb R ht o hop hv
       simp only[Oper.wp,q2]
       have hd':∀u,(a.put o.dst u).defers=ds:=fun u=>by cases hx:o.dst <;> simpa[Act.put] using hd
       cases nx <;> simp only[NxRel]at q4
       case value u=>exact ih (i+1) l' hnext hl ρ0 ρ1 _ _ _ _ _ _ (Pl.le_trans hle q1) q3 (put_rel (ht.mono q1) hdst q4) (hd' _) h hQ
       case skip=>exact ih (i+1) l' hnext hl ρ0 ρ1 _ _ _ _ _ _ (Pl.le_trans hle q1) q3 (put_rel (ht.mono q1) hdst q4) (hd' _) h hQ
      ·rename_i f args H1 hv
       split at h
       ·rename_i v H2 hcl
        obtain⟨ρ1,w1,nx,q1,q2,q3,q4⟩:=op_sim htb R ht o hop hv
        simp only[Oper.wp,q2]
        have hd':∀u,(a.put o.dst u).defers=ds:=fun u=>by cases hx:o.dst <;> simpa[Act.put] using hd
        cases nx <;> simp only[NxRel]at q4
        case enter g vs=>
         obtain⟨rfl,hbig,q5⟩:=q4
         simp only[Oper.upon]
         refine (hcall _ _ _ _ _ hbig hcl Prot w0 ρ1 w1 vs q3 q5).mono fun e w' hr=>?_
         obtain⟨ρ2,u,r1,rfl,r3,r4⟩:=hr
         exact ih (i+1) l' hnext hl ρ0 ρ2 _ _ _ _ _ _ (Pl.le_trans hle (Pl.le_trans q1 r1)) r3 (put_rel ((ht.mono q1).mono r1) hdst r4) (hd' _) h hQ
       ·simp at h
      ·simp at h
   ·simp at ha
  ·simp at hc
theorem SimQ.weaken{ds:List Deferred}{ρ ρ':Pl}{n:Nat}{e:AEx}{T:Tr AVal}{H:AHeap}(h:ρ.le ρ'){e':Exit}{a:Act}{w:World}(q:SimQ P Prot w0 ds ρ' n e T H e' a w):SimQ P Prot w0 ds ρ n e T H e' a w:=by
 obtain⟨h1,ρ2,h2,h3⟩:=q
 exact⟨h1,ρ2,Pl.le_trans h h2,h3⟩
theorem stuck_none{tb:FuncId→Bool}{call:FuncId→List AVal→AHeap→Option (AVal×AHeap)}{k:Nat}{T:Tr AVal}{H:AHeap}:aexec tb call k stuckC T H=none:=rfl
theorem code_sim(hfol:P.follows .mixedOrders=true){tb:FuncId→Bool}(htb:∀f,Nat.blt f BIG=true→tb f=true→hasBody P f=true){call:FuncId→List AVal→AHeap→Option (AVal×AHeap)}(hcall:CallOK P call){ds:List Deferred}{n k:Nat} :
  ∀(c:Code) (ac:ACode),cCode P n c=some ac→∀(ρ:Pl) (T T':Tr AVal) (H H':AHeap) (e:AEx) (a:Act) (w:World),
   Rel Prot w0 ρ H w→TmpsRel ρ n T a.tmps→a.defers=ds→aexec tb call k ac T H=some (e,T',H')→c.wp P (SimQ P Prot w0 ds ρ n e T' H') a w:=by
 intro c
 induction c with
 | skip=>
  intro ac hc ρ T T' H H' e a w R ht hd h
  simp only[cCode,sJ]at hc; subst hc
  simp only[aexec,sJ,pJ]at h
  obtain⟨rfl,rfl,rfl⟩:=h
  exact wp_skip ⟨rfl,ρ,Pl.le_refl _,R,ht,hd⟩
 | region id ops draw=>
  intro ac hc ρ T T' H H' e a w R ht hd h
  cases draw with
  | true=>
   simp only[cCode]at hc
   split at hc
   ·rename_i l hl
    cases hck:(okMask (ops.toList.map bindE) (masksGo [] (ops.toList.map bindE))&&okPairs (claims 0 l) (masksGo [] (ops.toList.map bindE))) with
    | false=>
     rw[hck]at hc
     simp only[cond_false,sJ]at hc; subst hc
     simp[stuck_none]at h
    | true=>
     rw[hck]at hc
     simp only[cond_true,sJ]at hc; subst hc
     simp only[Bool.and_eq_true]at hck
     have hnc:=opers_noClaim hl
     have hlk:=claims_like l H.next 0
     have hok:okPairs (claims H.next l) (masksGo [] (ops.toList.map bindE))=true:=by rw[okPairs_like hlk]; exact hck.2
     have hlen:(claims H.next l).length=ops.toList.length:=(claims_at hl H.next).1
     have hll:l.length=(claims H.next l).length:=by rw[hlen]; exact (opers_at hl).1
     have hchk:(List.range l.length).map (chkOf (claims 0 l) (masksGo [] (ops.toList.map bindE)))=(List.range (claims H.next l).length).map (chkOf (claims H.next l) (masksGo [] (ops.toList.map bindE))):=by
      rw[hll]
      exact List.map_congr_left fun j _=>(chkOf_like hlk _ j).symm
     have hbase:∀d,Prot.dead d→d<H.next:=fun d hd=>(R.dead d hd).1
     have R:=reserves_rel (pr:=Prot.prot) l Prot.dead H hnc R
     simp only[aexec,adraw]at h
     rw[hchk]at h
     generalize hcl:claims H.next l=m at *
     generalize hrv:reserves H l=K at *
     split at h
     ·rename_i ss hss
      cases hr:chkRun tb (K::ss.map (·.2)) m ((List.range m.length).map (chkOf m (masksGo [] (ops.toList.map bindE)))) ss T with
      | false=>rw[hr]at h; simp at h
      | true=>
       rw[hr]at h
       simp only[cond_true,sJ,pJ]at h
       obtain⟨rfl,rfl,rfl⟩:=h
       refine wp_region_any hfol ?_
       have hN:m.length=ops.size:=by simpa using hlen
       have hrep:∀i,(Array.replicate ops.size false).getD i false=false:=fun i=>by
        rw[Array.getD_eq_getD_getElem?,Array.getElem?_replicate]; split <;> rfl
       have hm0:(fun i=>(Array.replicate ops.size false).getD i false)=fun _=>false:=funext hrep
       have hst:stage (fun i=>(Array.replicate ops.size false).getD i false) 0 m=stage (fun _=>false) 0 m:=stage_congr m 0 fun c o _ _=>by simp only[hrep]
       have hH:hAt K ss (stage (fun _=>false) 0 m)=K:=by
        obtain⟨q1,q2,q3,q4⟩:=stage_spec (fun _=>false) m 0
        have:=heap_between hss (stage (fun _=>false) 0 m) 0 om fun c o _ hlt ho=>by
         cases hx:isChain o.op with
         | false=>rfl
         | true=>have:=q3 c o ho hx om; simp at this
        rw[Nat.zero_add]at this
        rw[this]; rfl
       refine draw_any (Prot:=Prot) (w0:=w0) htb hcall (base:=H.next) hlen (by rw[← hcl]; exact (claims_at hl H.next).2) hbase (by rw[← hcl]; exact claims_inj l H.next hnc) hck.1 hok hss hr (ρ0:=ρ) (fun a' w' hx=>⟨rfl,hx⟩) ops.size _ a _ (by simp) ?_ (fun j _ hj=>by rw[hrep]at hj; simp at hj) ⟨ρ,Pl.le_refl _,?_,?_,hd⟩
       ·rw[hm0]
        have:∀k,unl (fun _=>false) k=k:=by
         intro k
         induction k with
         | zero=>rfl
         | succ k ih=>simp only[unl,ih,cond_false]
        exact this _
       ·rw[hst,hH,hm0]; exact R.drew
       ·refine ht.congr fun t=>?_
        rw[hm0]
        have:∀(l:List AOper) (ss:List (AVal×AHeap)) (k:Nat) (T:Tr AVal),tsel (fun _=>false) k l ss T=T:=by
         intro l
         induction l with
         | nil=>intro ss k T; cases ss <;> rfl
         | cons o r ih=>intro ss k T; cases ss with
          | nil=>rfl
          | cons s ss=>obtain⟨x,y⟩:=s; simp only[tsel,cond_false,ih]
        rw[this]
     ·simp at h
   ·simp at hc
  | false=>
   simp only[cCode]at hc
   split at hc
   ·rename_i l hl
    simp only[sJ]at hc; subst hc
    simp only[aexec]at h
    split at h
    ·rename_i T1 H1 h1
     simp only[sJ,pJ]at h
     obtain⟨rfl,rfl,rfl⟩:=h
     refine wp_region ?_
     have:=regs_sim (Prot:=Prot) (w0:=w0) htb hcall (Q:=SimQ P Prot w0 ds ρ n .normal T1 H1) (tl:=[]) ops.toList 0 l (fun j _=>by simp) hl ρ ρ T T1 H H1 a w (Pl.le_refl _) R ht hd h1 (fun a' w' h=>⟨rfl,h⟩)
     rw[List.range_eq_range']
     simpa using this
    ·simp at h
   ·simp at hc
 | seq x y ihx ihy=>
  intro ac hc ρ T T' H H' e a w R ht hd h
  simp only[cCode]at hc
  split at hc
  ·rename_i ax ay hx hy
   simp only[sJ]at hc; subst hc
   simp only[aexec]at h
   split at h
   ·rename_i T1 H1 h1
    refine wp_seq (wp_mono (ihx _ hx ρ T T1 H H1 .normal a w R ht hd h1) ?_)
    rintro e1 a1 w1 ⟨he,ρ1,hl,R1,ht1,hd1⟩
    simp only at he
    subst he
    exact wp_mono (ihy _ hy ρ1 T1 T' H1 H' e a1 w1 R1 ht1 hd1 h) fun _ _ _ q=>q.weaken hl
   ·rename_i e1 T1 H1 hne h1
    simp only[sJ,pJ]at h
    obtain⟨rfl,rfl,rfl⟩:=h
    refine wp_seq (wp_mono (ihx _ hx ρ T T1 H H1 e1 a w R ht hd h1) ?_)
    rintro e2 a1 w1 q
    cases e1 with
    | normal=>exact (hne rfl).elim
    | exit id=>have:=q.1; simp only at this; subst this; exact q
    | ret=>have:=q.1; simp only at this; subst this; exact q
   ·simp at h
  ·simp at hc
 | cond c x y ihx ihy=>
  intro ac hc ρ T T' H H' e a w R ht hd h
  simp only[cCode]at hc
  split at hc
  ·rename_i c' ax ay hcc hx hy
   simp only[sJ]at hc; subst hc
   simp only[aexec]at h
   have hv:=opd_ok ht hcc
   split at h
   ·rename_i hb
    rw[hb]at hv
    simp only[VRel]at hv
    exact wp_cond_true hv (ihx _ hx ρ T T' H H' e a w R ht hd h)
   ·rename_i hb
    rw[hb]at hv
    simp only[VRel]at hv
    exact wp_cond_false hv (ihy _ hy ρ T T' H H' e a w R ht hd h)
   ·simp at h
  ·simp at hc
 | block id c ih=>
  intro ac hc ρ T T' H H' e a w R ht hd h
  simp only[cCode]at hc
  split at hc
  ·rename_i ax hx
   simp only[sJ]at hc; subst hc
   simp only[aexec]at h
   split at h
   ·rename_i j T1 H1 h1
    refine wp_block (wp_mono (ih _ hx ρ T T1 H H1 (.exit j) a w R ht hd h1) ?_)
    rintro e1 a1 w1 q
    have he:=q.1
    simp only at he
    subst he
    cases hb:Nat.beq j id with
    | true=>
     rw[hb]at h
     simp only[cond_true,sJ,pJ]at h
     obtain⟨rfl,rfl,rfl⟩:=h
     have:=Nat.eq_of_beq_eq_true hb
     simp only[Exit.inBlock,this,if_true]
     exact⟨rfl,q.2⟩
    | false=>
     rw[hb]at h
     simp only[cond_false,sJ,pJ]at h
     obtain⟨rfl,rfl,rfl⟩:=h
     have:¬j=id:=fun e=>by rw[e,Nat.beq_refl]at hb; simp at hb
     simp only[Exit.inBlock,this,if_false]
     exact q
   ·rename_i e1 T1 H1 hne h1
    simp only[sJ,pJ]at h
    obtain⟨rfl,rfl,rfl⟩:=h
    refine wp_block (wp_mono (ih _ hx ρ T T1 H H1 e1 a w R ht hd h1) ?_)
    rintro e2 a1 w1 q
    cases e1 with
    | normal=>have:=q.1; simp only at this; subst this; exact q
    | exit j=>exact (hne _ rfl).elim
    | ret=>have:=q.1; simp only at this; subst this; exact q
   ·simp at h
  ·simp at hc
 | loop c ih=>
  intro ac hc ρ T T' H H' e a w R ht hd h
  simp only[cCode]at hc
  split at hc
  ·rename_i ax hx
   simp only[sJ]at hc; subst hc
   simp only[aexec]at h
   refine wp_loop_rounds k ?_
   have key:∀(m:Nat) (T:Tr AVal) (H:AHeap) (ρ1:Pl) (a:Act) (w:World),ρ.le ρ1→Rel Prot w0 ρ1 H w→TmpsRel ρ1 n T a.tmps→a.defers=ds →
     aloop (aexec tb call k ax) m T H=some (e,T',H')→Code.rounds P c (SimQ P Prot w0 ds ρ n e T' H') m a w:=by
    intro m
    induction m with
    | zero=>intro T H ρ1 a w _ _ _ _ h; simp[aloop]at h
    | succ m ihm=>
     intro T H ρ1 a w hl R ht hd h
     rw[rounds_succ]
     simp only[aloop]at h
     split at h
     ·rename_i T1 H1 h1
      refine wp_mono (ih _ hx ρ1 T T1 H H1 .normal a w R ht hd h1) ?_
      rintro e1 a1 w1 ⟨he,ρ2,hl2,R1,ht1,hd1⟩
      simp only at he
      subst he
      exact ihm T1 H1 ρ2 a1 w1 (Pl.le_trans hl hl2) R1 ht1 hd1 h
     ·rename_i e1 T1 H1 hne h1
      simp only[sJ,pJ]at h
      obtain⟨rfl,rfl,rfl⟩:=h
      refine wp_mono (ih _ hx ρ1 T T1 H H1 e1 a w R ht hd h1) ?_
      rintro e2 a1 w1 q
      have q':=q.weaken hl
      cases e1 with
      | normal=>exact (hne rfl).elim
      | exit id=>have:=q.1; simp only at this; subst this; exact q'
      | ret=>have:=q.1; simp only at this; subst this; exact q'
     ·simp at h
   exact key k T H ρ a w (Pl.le_refl _) R ht hd h
  ·simp at hc
 | exit id=>
  intro ac hc ρ T T' H H' e a w R ht hd h
  simp only[cCode,sJ]at hc; subst hc
  simp only[aexec,sJ,pJ]at h
  obtain⟨rfl,rfl,rfl⟩:=h
  exact wp_exit ⟨rfl,ρ,Pl.le_refl _,R,ht,hd⟩
 | ret=>
  intro ac hc ρ T T' H H' e a w R ht hd h
  simp only[cCode,sJ]at hc; subst hc
  simp only[aexec,sJ,pJ]at h
  obtain⟨rfl,rfl,rfl⟩:=h
  exact wp_ret ⟨rfl,ρ,Pl.le_refl _,R,ht,hd⟩
 | scope c ih=>
  intro ac hc ρ T T' H H' e a w R ht hd h
  simp only[cCode]at hc
  refine wp_scope_straight (wp_mono (ih _ hc ρ T T' H H' e a w R ht hd h) ?_)
  rintro e1 a1 w1 q
  have he:=q.1
  cases e with
  | normal=>simp only at he; subst he; exact q
  | exit id=>simp only at he; subst he; exact q
  | ret=>simp only at he; subst he; exact q
 | label id=>
  intro ac hc ρ T T' H H' e a w R ht hd h
  simp only[cCode,sJ]at hc; subst hc
  simp only[aexec,sJ,pJ]at h
  obtain⟨rfl,rfl,rfl⟩:=h
  exact wp_label ⟨rfl,ρ,Pl.le_refl _,R,ht,hd⟩
 | _=>
  intro ac hc ρ T T' H H' e a w R ht hd h
  simp only[cCode,sJ]at hc; subst hc
  simp[stuck_none]at h
theorem res_sim{n:Nat}(R:Rel Prot w0 ρ H w){T:Tr AVal}{tmps:Array Value}(ht:TmpsRel ρ n T tmps):∀{rs:List ResultVar} {l:List ARes},cRes P rs=some l→∀{xs:List AVal},ares T H l=some xs →
  ∃vs:List Value,(rs.mapM (fun r=>match r with
   | .tmp t=>Pure.pure (tmps.getD t undef)
   | .cell a t=>do loadVar t (← asAddr (tmps.getD a undef))):Sem (List Value)).run P w=.ok vs w∧VRels ρ xs vs:=by
 intro rs
 induction rs with
 | nil=>
  intro l hc xs h
  simp only[cRes,sJ]at hc; subst hc
  simp only[ares,sJ]at h; subst h
  exact⟨[],rfl,by simp[VRels]⟩
 | cons r rs ih=>
  intro l hc xs h
  cases r with
  | tmp t=>
   simp only[cRes]at hc
   split at hc
   ·rename_i l' hl
    simp only[sJ]at hc; subst hc
    simp only[ares]at h
    split at h
    ·rename_i ys hy
     simp only[sJ]at h; subst h
     obtain⟨vs,h1,h2⟩:=ih hl hy
     refine⟨tmps.getD t undef::vs,?_,by simp only[VRels]; exact⟨_,_,rfl,ht.at_ t,h2⟩⟩
     simp only[List.mapM_cons,Sem.run_bind,Sem.run_pure,Result.andThen_ok,h1]
    ·simp at h
   ·simp at hc
  | cell a t=>
   simp only[cRes]at hc
   split at hc
   ·rename_i g k l' hk hl
    simp only[sJ]at hc; subst hc
    simp only[ares]at h
    split at h
    ·rename_i x ys hx hy
     simp only[sJ]at h; subst h
     obtain⟨vs,h1,h2⟩:=ih hl hy
     obtain⟨u,u1,u2⟩:=load_ok (P:=P) R (ty_of hk) (ht.at_ a) hx
     have hp:∃ad,tmps.getD a undef=.pointer (some ad):=by
      have hat:=ht.at_ a
      unfold oLoad at hx
      split at hx
      ·rename_i ad heq
       rw[heq]at hat
       simp only[VRel]at hat
       obtain⟨L,_,_,e⟩:=hat
       exact⟨_,e⟩
      ·simp at hx
     obtain⟨ad,had⟩:=hp
     refine⟨u::vs,?_,by simp only[VRels]; exact⟨_,_,rfl,u2,h2⟩⟩
     have:(loadVar t ad).run P w=.ok u w:=by
      rw[had]at u1
      simpa[Instr.loadAt,Instr.sureAddr] using u1
     have hA:(asAddr (tmps.getD a undef)).run P w=.ok ad w:=by rw[had]; rfl
     simp only[List.mapM_cons,Sem.run_bind,hA,Sem.run_pure,Result.andThen_ok,this,h1]
    ·simp at h
   ·simp at hc
theorem results_sim{n:Nat}(R:Rel Prot w0 ρ H w){T:Tr AVal}{tmps:Array Value}(ht:TmpsRel ρ n T tmps){fn:Func}{l:List ARes}(hc:cRes P fn.results.toList=some l){xs:List AVal}(h:ares T H l=some xs) :
  ∃v,(results fn tmps).run P w=.ok v w∧VRel ρ (aresV xs) v:=by
 obtain⟨vs,h1,h2⟩:=res_sim (P:=P) R ht hc h
 have hl:=VRels.len h2
 have hm:(fn.results.mapM (fun r=>match r with
   | .tmp t=>Pure.pure (tmps.getD t undef)
   | .cell a t=>do loadVar t (← asAddr (tmps.getD a undef))):Sem (Array Value)).run P w=.ok vs.toArray w:=by
  rw[Array.mapM_eq_mapM_toList]
  simp only[Sem.run_map,h1,Result.andThen_ok]
 refine⟨if h:vs.toArray.size=1 then vs.toArray[0] else .tuple vs.toArray,?_,?_⟩
 ·have e:results fn tmps=(fn.results.mapM (fun r=>match r with
   | .tmp t=>Pure.pure (tmps.getD t undef)
   | .cell a t=>do loadVar t (← asAddr (tmps.getD a undef))):Sem (Array Value)) >>= fun vs=>Pure.pure (if h:vs.size=1 then vs[0] else .tuple vs):=rfl
  rw[e,Sem.run_bind,hm]
  rfl
 ·match xs,vs,h2,hl with
  | [x],[v],h2,_=>
   simp only[VRels]at h2
   obtain⟨v',r,e,h3,_⟩:=h2
   simp only[List.cons.injEq]at e
   obtain⟨rfl,rfl⟩:=e
   exact h3
  | [],[],h2,_=>simp only[aresV,VRel]; exact⟨_,rfl,h2⟩
  | x::y::xs,v::u::vs,h2,_=>simp only[aresV,VRel]; exact⟨_,rfl,h2⟩
theorem args_sim:∀(args:List AVal) (vs:List Value) (i:Nat) (T:Tr AVal),VRels ρ args vs→(∀t,i≤t→T.get t=none) →
  ∀t,ev (putArgs args i T) (.t t)=if t<i then ev T (.t t) else match args[t-i]? with | some x=>x | none=>undefA:=by
 intro args
 induction args with
 | nil=>
  intro vs i T _ hn t
  simp only[putArgs]
  split
  ·rfl
  ·rename_i h
   simp[ev,hn t om]
 | cons x r ih=>
  intro vs i T hv hn t
  simp only[VRels]at hv
  obtain⟨v,vs',rfl,h1,h2⟩:=hv
  simp only[putArgs]
  rw[ih vs' (i+1) (T.set i x) h2 (fun t ht=>by rw[Tr.get_set,if_neg om]; exact hn t om) t]
  by_cases c1:t<i
  ·rw[if_pos om,if_pos c1]
   simp only[ev,Tr.get_set]
   rw[if_neg om]
  ·by_cases c2:t=i
   ·subst c2
    rw[if_pos om,if_neg c1]
    simp[ev,Tr.get_set]
   ·rw[if_neg om,if_neg c1,show t-i=(t-(i+1))+1 by omega]
    simp
theorem start_sim{args:List AVal}{vs:Array Value}(hv:VRels ρ args vs.toList){n:Nat}(hn:args.length≤n):TmpsRel ρ n (putArgs args 0 .e) (vs++Array.replicate (n-vs.size) undef):=by
 have hl:=VRels.len hv
 simp only[Array.length_toList]at hl
 refine⟨by simp; omega,fun t=>?_⟩
 rw[args_sim args vs.toList 0 .e hv (fun _ _=>rfl) t]
 rw[if_neg om,Nat.sub_zero]
 by_cases ht:t<args.length
 ·have hx:args[t]?=some args[t]:=List.getElem?_eq_getElem ht
  obtain⟨v,h1,h2⟩:=hv.nth _ _ hx
  rw[hx]
  rw[Array.getElem?_toList]at h1
  have:(vs++Array.replicate (n-vs.size) undef).getD t undef=v:=by
   rw[Array.getD_eq_getD_getElem?,Array.getElem?_append_left om,h1]; rfl
  rw[this]
  exact h2
 ·have hx:args[t]?=none:=List.getElem?_eq_none om
  rw[hx]
  have:(vs++Array.replicate (n-vs.size) undef).getD t undef=undef:=by
   rw[Array.getD_eq_getD_getElem?,Array.getElem?_append_right om]
   by_cases h:t-vs.size<n-vs.size
   ·simp[h]
   ·simp[h]
  rw[this]
  exact undef_rel
theorem cFn_spec {cc : Nat → Code → Option ACode} {f : FuncId} {fn : AFn} (h : cFnG P cc f = some fn) : ∃ fc code, P.funcs[f]? = some fc ∧ fc.body = some code ∧ (fc.name == "runtime.NumGoroutine") = false ∧ fc.ntmps = fn.nt ∧ cc fn.nt code = some fn.body ∧ cRes P fc.results.toList = some fn.res := by
 unfold cFnG at h
 split at h
 ·rename_i fc hf
  split at h
  ·rename_i c hb
   cases hn : (fc.name == "runtime.NumGoroutine") with
   | true=>rw[hn]at h; simp at h
   | false=>
    rw[hn]at h
    simp only[cond_false]at h
    split at h
    ·rename_i b r h1 h2
     simp only[sJ]at h
     subst h
     exact⟨fc,c,hf,hb,hn,rfl,h1,h2⟩
    ·simp at h
  ·simp at h
 ·simp at h
structure NatOK(P:Program)(N:ANat):Prop where
 body:∀f,N.is f=true→hasBody P f=true
 run:CallOK P N.run
def noNat:ANat:=⟨fun _=>false,fun _ _ _=>none⟩
theorem noNat_ok:NatOK P noNat:=⟨fun f h=>by simp[noNat]at h,fun f args H v H' _ h=>by simp[noNat]at h⟩
end
end Go.Abs
namespace Go.Abs
section
variable {P:Program} {Prot:Gh} {w0:World} {ρ:Pl} {H H':AHeap} {w:World}
def CallD(P:Program)(call:FuncId→List AVal→AHeap→Option (AVal×AHeap)):Prop:=
 ∀G args H v H',call (3*BIG+G) args H=some (v,H')→hasBody P G=true∧∀Prot w0 ρ w (vs:Array Value),Rel Prot w0 ρ H w→VRels ρ args vs.toList →
  CallsD P G vs .returning w fun e u' w'=>u'=.returning∧∃ρ' y,ρ.le ρ'∧e=.returned y∧Rel Prot w0 ρ' H' w'
def Out(Prot:Gh)(w0:World)(ρ:Pl)(H:AHeap)(v:AVal):Ending→World→Prop:=fun e w'=>∃ρ' u,ρ.le ρ'∧e=.returned u∧Rel Prot w0 ρ' H w'∧VRel ρ' v u
theorem dfr_spec{n:Nat}{c:Code}{l:List AOper}{y:Opd}(h:cDfr P n c=some (l,y)):∃i ops os o x ats t p f,c=.region i ops false∧ops.toList=os++[o]∧o=⟨none,.defer ⟨.value x,#[],ats⟩,t,p,f,none⟩∧cOpd x=some y∧cOpers P n ops os=some l:=by
 unfold cDfr at h
 split at h
 ·rename_i i ops
  split at h
  ·rename_i x as ats t p f ho
   split at h
   ·rename_i y' l' h1 h2 h3
    simp only[sJ,pJ]at h
    obtain⟨rfl,rfl⟩:=h
    have ha:as=#[]:=Array.toList_inj.1 (by simpa using h1)
    subst ha
    have hne:ops.toList≠[]:=by intro e; rw[e]at ho; simp at ho
    rw[List.getLast?_eq_some_getLast hne,sJ]at ho
    exact⟨i,ops,ops.toList.dropLast,_,x,ats,t,p,f,rfl,by rw[← ho]; exact (List.dropLast_concat_getLast hne).symm,rfl,h2,h3⟩
   ·simp at h
  ·simp at h
 ·simp at h
theorem codeD_sim(hfol:P.follows .mixedOrders=true){tb:FuncId→Bool}(htb:∀f,Nat.blt f BIG=true→tb f=true→hasBody P f=true){call:FuncId→List AVal→AHeap→Option (AVal×AHeap)}(hc:CallOK P call)(hcD:CallD P call)
  {n k:Nat} {fc:Func} {res:List ARes} (hres:cRes P fc.results.toList=some res) {xs:List AVal}:∀(c:Code) (ac:ACode),cCodeD P n c=some ac→∀(ρ1:Pl) (T T':Tr AVal) (H H':AHeap) (e:AEx) (a:Act) (w:World),ρ.le ρ1 →
   Rel Prot w0 ρ1 H w→TmpsRel ρ1 n T a.tmps→a.defers=[]→aexec tb call k ac T H=some (e,T',H')→(∀i,e≠.exit i)→ares T' H' res=some xs→c.wp P (bodyPostD P fc (Out Prot w0 ρ H' (aresV xs))) a w:=by
 have fin:∀{ρ1:Pl} {T:Tr AVal} {H:AHeap} {a:Act} {w:World},ρ.le ρ1→Rel Prot w0 ρ1 H w→TmpsRel ρ1 n T a.tmps→ares T H res=some xs→Leaves P fc a.tmps (Out Prot w0 ρ H (aresV xs)) [] .returning w:=by
  intro ρ1 T H a w hle R ht hx
  obtain⟨v,r1,r2⟩:=results_sim (P:=P) R ht hres hx
  exact⟨v,r1,ρ1,v,hle,rfl,R,r2⟩
 intro c
 induction c with
 | seq x z ihx ihz=>
  intro ac hac ρ1 T T' H H' e a w hle R ht hd h hne hxs
  simp only[cCodeD]at hac
  split at hac
  ·rename_i l y hdf
   split at hac
   ·rename_i b hb
    simp only[sJ]at hac
    subst hac
    obtain⟨i,ops,os,o,xo,ats,ty,ps,af,rfl,hops,rfl,hy,hl⟩:=dfr_spec hdf
    simp only[aexec]at h
    cases h1:aregs tb call l T H with
    | none=>rw[h1]at h; simp at h
    | some q=>
    obtain⟨T1,H1⟩:=q
    rw[h1]at h
    simp only at h
    split at h
    ·rename_i g cs hg
     split at h
     ·simp at h
     ·rename_i e2 T2 H2 hne2 h2
      split at h
      ·rename_i v H3 h3
       simp only[sJ,pJ]at h
       obtain⟨rfl,rfl,rfl⟩:=h
       have hsz:ops.size=os.length+1:=by have:=congrArg List.length hops; simpa using this
       have hat:∀j,j<os.length→os[j]?=ops[0+j]?:=fun j hj=>by
        have:ops.toList[j]?=os[j]?:=by rw[hops,List.getElem?_append_left hj]
        rw[← this,Nat.zero_add]; simp
       have hlast:ops[os.length]?=some ⟨none,.defer ⟨.value xo,#[],ats⟩,ty,ps,af,none⟩:=by
        have:ops.toList[os.length]?=some ⟨none,.defer ⟨.value xo,#[],ats⟩,ty,ps,af,none⟩:=by rw[hops]; simp
        simpa using this
       refine wp_seq (wp_region ?_)
       rw[List.range_eq_range',hsz,← List.range'_append_1,List.range'_one,Nat.zero_add]
       refine regs_sim (Prot:=Prot) (w0:=w0) (ds:=[]) htb hc os 0 l hat hl ρ1 ρ1 T T1 H H1 a w (Pl.le_refl _) R ht hd h1 ?_
       rintro a1 w1 ⟨ρ2,q1,R2,t2,d2⟩
       have hx:=opd_ok t2 hy
       rw[hg]at hx
       simp only[VRel]at hx
       obtain⟨fv,cap,hfv,hv1,hv2⟩:=hx
       simp only[VRels]at hv1
       have hfv0:fv=#[]:=Array.toList_inj.1 (by simpa using hv1)
       subst hfv0
       have hrun:(execOp a1.eval ⟨none,.defer ⟨.value xo,#[],ats⟩,ty,ps,af,none⟩).run P w1=.ok (.defer { target:=.fn (.func g) cap,args:=#[] }) w1:=by
        simp[execOp,resolve,hfv,Deferred.ofValue]
       simp only[wpOps,hlast]
       rw[if_pos (by simp[Region.wanted])]
       left
       simp only[Oper.wp,hrun,Oper.upon]
       refine wp_mono (code_sim hfol (Prot:=Prot) (w0:=w0) (ds:=[{ target:=.fn (.func g) cap,args:=#[] }]) htb hc _ _ hb ρ2 _ _ _ _ e2 _ w1 R2 t2 (by simp[Act.put,d2]) h2) ?_
       rintro e' a' w' ⟨he,ρ3,q3,R3,t3,d3⟩
       have hL:Leaves P fc a'.tmps (Out Prot w0 ρ H3 (aresV xs)) a'.defers .returning w':=by
        rw[d3]
        obtain⟨b1,b2⟩:=hcD g cs H2 v H3 h3
        refine⟨by simp,.func g,cap,g,#[]++cap,rfl,callFunc_ok b1 _,?_⟩
        refine (b2 Prot w0 ρ3 w' (#[]++cap) R3 (by simpa using VRels.mono q3 _ _ hv2)).mono ?_
        rintro e' u' w' ⟨rfl,ρ4,y,q4,rfl,R4⟩
        exact fin (Pl.le_trans hle (Pl.le_trans q1 (Pl.le_trans q3 q4))) R4 (t3.mono q4) hxs
       cases e2 with
       | normal=>simp only at he; subst he; exact hL
       | exit i=>exact (hne2 _ rfl).elim
       | ret=>simp only at he; subst he; exact hL
      ·simp at h
     ·simp at h
    ·simp at h
   ·simp at hac
  ·split at hac
   ·rename_i b hb
    split at hac
    ·rename_i b' ha
     simp only[sJ]at hac
     subst hac
     simp only[aexec]at h
     split at h
     ·rename_i T1 H1 h1
      refine wp_seq (wp_mono (code_sim hfol (Prot:=Prot) (w0:=w0) (ds:=[]) htb hc _ _ ha ρ1 T T1 H H1 .normal a w R ht hd h1) ?_)
      rintro e1 a1 w1 ⟨he,ρ2,hl,R1,ht1,hd1⟩
      simp only at he
      subst he
      exact ihz _ hb ρ2 T1 T' H1 H' e a1 w1 (Pl.le_trans hle hl) R1 ht1 hd1 h hne hxs
     ·rename_i e1 T1 H1 hn1 h1
      simp only[sJ,pJ]at h
      obtain⟨rfl,rfl,rfl⟩:=h
      refine wp_seq (wp_mono (code_sim hfol (Prot:=Prot) (w0:=w0) (ds:=[]) htb hc _ _ ha ρ1 T T1 H H1 e1 a w R ht hd h1) ?_)
      rintro e2 a1 w1 ⟨he,ρ2,hl,R1,ht1,hd1⟩
      cases e1 with
      | normal=>exact (hn1 rfl).elim
      | exit id=>exact (hne _ rfl).elim
      | ret=>
       simp only at he
       subst he
       show Leaves P fc a1.tmps _ a1.defers .returning w1
       rw[hd1]
       exact fin (Pl.le_trans hle hl) R1 ht1 hxs
     ·simp at h
    ·simp at hac
   ·simp at hac
 | _=>intro ac hac; simp[cCodeD]at hac
theorem acall_inv{N:ANat}{tab:Tr AFn}{n:Nat}{f:FuncId}{args:List AVal}{v:AVal}(hi:N.is f=false)(h:acall N tab (n+1) f args H=some (v,H')) :
  ∃fn e T xs,tab.get f=some fn∧args.length≤fn.nt∧aexec (tbA N tab) (acall N tab n) n fn.body (putArgs args 0 .e) H=some (e,T,H')∧(∀i,e≠.exit i)∧ares T H' fn.res=some xs∧v=aresV xs:=by
 simp only[acall,hi,cond_false]at h
 split at h
 ·rename_i fn hf
  cases hb:Nat.ble args.length fn.nt with
  | false=>rw[hb]at h; simp at h
  | true=>
   rw[hb]at h
   simp only[cond_true]at h
   split at h
   ·simp at h
   ·rename_i e T H1 hne hx
    split at h
    ·rename_i xs hxs
     simp only[sJ,pJ]at h
     obtain⟨rfl,rfl⟩:=h
     exact⟨fn,e,T,xs,hf,Nat.le_of_ble_eq_true hb,hx,fun i q=>hne i q,hxs,rfl⟩
    ·simp at h
   ·simp at h
 ·simp at h
theorem blt_lt{a b:Nat}(h:Nat.blt a b=true):a<b:=Nat.le_of_ble_eq_true h
theorem blt_dec(a b:Nat):Nat.blt a b=decide (a<b):=by
 cases h:Nat.blt a b with
 | true=>exact (decide_eq_true (blt_lt h)).symm
 | false=>exact (decide_eq_false fun q=>by rw[show Nat.blt a b=true from Nat.ble_eq_true_of_le q]at h; simp at h).symm
theorem eFn_0{f:Nat}(hf:Nat.blt f BIG=true):eFn P f=cFnG P (cBody P) f:=by unfold eFn; rw[hf]; rfl
theorem eFn_3{f:Nat}{fn:AFn}(h:eFn P (3*BIG+f)=some fn):Nat.blt f BIG=true∧cFnG P (cCode P) f=some fn:=by
 unfold eFn at h
 rw[blt_dec,blt_dec,blt_dec,decide_eq_false om,decide_eq_false om]at h
 simp only[cond_false,Nat.add_sub_cancel_left]at h
 by_cases hf:f<BIG
 ·rw[decide_eq_true om]at h
  exact⟨by rw[blt_dec]; exact decide_eq_true hf,h⟩
 ·rw[decide_eq_false om]at h
  simp at h
theorem body_of{cc:Nat→Code→Option ACode}{f:Nat}(hf:Nat.blt f BIG=true){fn:AFn}(h:cFnG P cc f=some fn):hasBody P f=true:=by
 obtain⟨fc,c,h1,h2,h3,_⟩:=cFn_spec h
 simp[hasBody,hf,h1,h2,h3]
theorem acall_all(hfol:P.follows .mixedOrders=true){N:ANat}(hN:NatOK P N){tab:Tr AFn}(hT:TabOK P tab):∀n,CallOK P (acall N tab n)∧CallD P (acall N tab n):=by
 have htb:∀f,Nat.blt f BIG=true→tbA N tab f=true→hasBody P f=true:=by
  intro f hf h
  unfold tbA at h
  cases hi:N.is f with
  | true=>exact hN.body f hi
  | false=>
   rw[hi]at h
   simp only[cond_false]at h
   split at h
   ·rename_i fn hg
    have:=hT _ _ hg
    rw[eFn_0 hf]at this
    exact body_of hf this
   ·simp at h
 intro n
 induction n with
 | zero=>exact⟨fun f args H v H' _ h=>by simp[acall]at h,fun f args H v H' h=>by simp[acall]at h⟩
 | succ n ih=>
  obtain⟨i1,i2⟩:=ih
  refine⟨fun f args H v H' hf h Prot w0 ρ w vs R hv=>?_,fun G args H v H' h=>?_⟩
  ·cases hi:N.is f with
   | true=>simp only[acall,hi,cond_true]at h; exact hN.run f args H v H' hf h Prot w0 ρ w vs R hv
   | false=>
    obtain⟨fn,e,T,xs,hg,hl,hx,hne,hxs,rfl⟩:=acall_inv hi h
    have he:=hT _ _ hg
    rw[eFn_0 hf]at he
    obtain⟨fc,c,h1,h2,h3,h4,h5,h6⟩:=cFn_spec he
    have hst:=start_sim (ρ:=ρ) hv hl
    unfold cBody at h5
    split at h5
    ·rename_i b hb
     simp only[sJ]at h5
     subst h5
     refine (calls_of_wp_defers h1 h2 (R:=Out Prot w0 ρ H' (aresV xs)) ?_).mono ?_
     ·rw[h4]
      exact codeD_sim hfol htb i1 i2 h6 c _ hb ρ _ T H H' e _ w (Pl.le_refl _) R hst rfl hx hne hxs
     ·rintro e' w' ⟨ρ',u,r1,r2,r3,r4⟩
      exact⟨ρ',u,r1,r2,r3,r4⟩
    ·refine calls_of_wp h1 h2 ?_
     rw[h4]
     refine wp_mono (code_sim hfol (Prot:=Prot) (w0:=w0) (ds:=[]) htb i1 _ _ h5 ρ _ T H H' e _ w R hst rfl hx) ?_
     rintro e' a' w' ⟨he,ρ',hl,R',ht',hd'⟩
     obtain⟨u,r1,r2⟩:=results_sim (P:=P) R' ht' h6 hxs
     cases e with
     | normal=>simp only at he; subst he; exact⟨hd',u,r1,ρ',u,hl,rfl,R',r2⟩
     | exit id=>exact (hne _ rfl).elim
     | ret=>simp only at he; subst he; exact⟨hd',u,r1,ρ',u,hl,rfl,R',r2⟩
  ·have hi:N.is (3*BIG+G)=false:=by
    cases hi:N.is (3*BIG+G) with
    | false=>rfl
    | true=>
     have:=hN.body _ hi
     simp only[hasBody,Bool.and_eq_true]at this
     have:=blt_lt this.1
     omega
   obtain⟨fn,e,T,xs,hg,hl,hx,hne,hxs,rfl⟩:=acall_inv hi h
   obtain⟨hf,he⟩:=eFn_3 (hT _ _ hg)
   refine⟨body_of hf he,fun Prot w0 ρ w vs R hv=>?_⟩
   obtain⟨fc,c,h1,h2,h3,h4,h5,h6⟩:=cFn_spec he
   have hst:=start_sim (ρ:=ρ) hv hl
   refine (callsD_of_wp (u:=.returning) (R:=Out Prot w0 ρ H' (aresV xs)) h1 h2 ?_).mono ?_
   ·rw[h4]
    refine wp_mono (code_sim hfol (Prot:=Prot) (w0:=w0) (ds:=[]) htb i1 _ _ h5 ρ _ T H H' e _ w R hst rfl hx) ?_
    rintro e' a' w' ⟨he,ρ',hl,R',ht',hd'⟩
    obtain⟨u,r1,r2⟩:=results_sim (P:=P) R' ht' h6 hxs
    cases e with
    | normal=>simp only at he; subst he; exact⟨hd',u,r1,ρ',u,hl,rfl,R',r2⟩
    | exit id=>exact (hne _ rfl).elim
    | ret=>simp only at he; subst he; exact⟨hd',u,r1,ρ',u,hl,rfl,R',r2⟩
   ·rintro e' u' w' ⟨rfl,ρ',y,r1,rfl,r2,_⟩
    exact⟨rfl,ρ',y,r1,rfl,r2⟩
theorem acall_ok(hfol:P.follows .mixedOrders=true){N:ANat}(hN:NatOK P N){tab:Tr AFn}(hT:TabOK P tab)(n:Nat):CallOK P (acall N tab n):=(acall_all hfol hN hT n).1
end
end Go.Abs
namespace Go.Abs
section
variable {P:Program}
def H0:AHeap:=⟨0,.e⟩
theorem Rel.below{w0:World}{ρ:Pl}{H:AHeap}{w:World}(R:Rel ⟨fun c=>c<w0.heap.size,fun _=>False⟩ w0 ρ H w):RowKit.Below w0.heap.size w0 w:=
 ⟨R.os,R.tape,R.output,R.size,fun k hk=>(R.prot k hk).2⟩
end
end Go.Abs
namespace Go.Abs.S
open Go.Abs
abbrev Env:=Nat→AVal
def en(T:Tr AVal):Env:=fun i=>ev T (.t i)
def up(T:Env)(i:Nat)(v:AVal):Env:=fun j=>bif Nat.beq j i then v else T j
def upO(T:Env):Option Nat→AVal→Env
 | some d,v=>up T d v
 | none,_=>T
theorem en_set(T:Tr AVal)(i:Nat)(v:AVal):en (T.set i v)=up (en T) i v:=by
 funext j
 simp only[en,up,ev,Tr.get_set,beq_dec]
 by_cases h:j=i
 ·rw[if_pos h,decide_eq_true h]; rfl
 ·rw[if_neg h,decide_eq_false h]; rfl
theorem en_put(T:Tr AVal)(d:Option Nat)(v:AVal):en (aput T d v)=upO (en T) d v:=by
 cases d <;> simp only[aput,upO,en_set]
def sX(T:Env):Opd→AVal
 | .t i=>T i
 | .c v=>v
 | .f id=>.func (.func id) [] []
def sXs(T:Env):List Opd→List AVal
 | []=>[]
 | x::r=>sX T x::sXs T r
def sXO(T:Env):Option Opd→Option AVal
 | none=>none
 | some x=>some (sX T x)
def sXP(T:Env):List (Nat×Nat×Opd)→List (Nat×Nat×AVal)
 | []=>[]
 | (o,n,x)::r=>(o,n,sX T x)::sXP T r
theorem sX_en(T:Tr AVal)(x:Opd):sX (en T) x=ev T x:=by cases x <;> rfl
theorem sXs_en(T:Tr AVal):∀l:List Opd,sXs (en T) l=evs T l
 | []=>rfl
 | x::r=>by simp only[sXs,evs,sX_en,sXs_en T r]
theorem sXO_en(T:Tr AVal)(x:Option Opd):sXO (en T) x=evO T x:=by cases x <;> simp only[sXO,evO,sX_en]
theorem sXP_en(T:Tr AVal):∀l:List (Nat×Nat×Opd),sXP (en T) l=evP T l
 | []=>rfl
 | (o,n,x)::r=>by simp only[sXP,evP,sX_en,sXP_en T r]
abbrev sGv(b:Bool):AVal→Bool:=gVb b
def sG(T:Env):Option (Nat×Bool)→Bool
 | none=>true
 | some (t,b)=>sGv b (T t)
theorem sG_en(T:Tr AVal)(g:Option (Nat×Bool)):sG (en T) g=gOK T g:=by
 cases g with
 | none=>rfl
 | some p=>rfl
theorem sG_lt(T:Env)(t:Nat)(b:Bool):sG T (some (t,b))=sGv b (T t):=rfl
def OptP{α:Type}(o:Option α)(K:α→Prop):Prop:=∃v,o=some v∧K v
theorem OptP_some{α:Type}(x:α)(K:α→Prop):OptP (some x) K=K x:=by simp[OptP]
theorem OptP.mono{α:Type}{o:Option α}{K K':α→Prop}(h:OptP o K)(hk:∀v,K v→K' v):OptP o K':=by
 obtain⟨v,h1,h2⟩:=h; exact⟨v,h1,hk v h2⟩
abbrev CS:=FuncId→List AVal→AHeap→(AVal→AHeap→Prop)→Prop
section
variable (C:CS)
def wOp(T:Env)(H:AHeap)(K:AVal→AHeap→Prop):AOp→Prop
 | .mv x=>K (sX T x) H
 | .pick c a b=>∃b',sX T c=.bool b'∧K (bif b' then sX T a else sX T b) H
 | .new z=>K (oNew H z).1 (oNew H z).2
 | .box x=>K (oNew H (sX T x).cells).1 (oNew H (sX T x).cells).2
 | .build z ps=>OptP (aBuild z (sXP T ps)) fun v=>K v H
 | .buildSl n z ps=>OptP (aBuildSl n z H (sXP T ps)) fun p=>K p.1 p.2
 | .load a n x=>OptP (oLoad a n H (sX T x)) fun v=>K v H
 | .store n a x=>OptP (oStore n H (sX T a) (sX T x)) fun H'=>K undefA H'
 | .nilChk x=>OptP (aNilChk (sX T x)) fun v=>K v H
 | .bin op x y=>OptP (aBin op (sX T x) (sX T y)) fun v=>K v H
 | .un op x=>OptP (aUn op (sX T x)) fun v=>K v H
 | .conv k x=>OptP (aConv k (sX T x)) fun v=>K v H
 | .convSB x=>OptP (aSB H (sX T x)) fun p=>K p.1 p.2
 | .convBS x=>OptP (aBS H (sX T x)) fun v=>K v H
 | .mkFunc fn a b=>K (.func fn (sXs T a) (sXs T b)) H
 | .mkIface t x=>K (.iface t (sX T x)) H
 | .mkSlice b z l c=>OptP (aMake b z H (sX T l) (sX T c)) fun p=>K p.1 p.2
 | .sl n x lo hi mx=>OptP (aSl n (sX T x) (sXO T lo) (sXO T hi) (sXO T mx)) fun v=>K v H
 | .slStr x lo hi=>OptP (aSlStr (sX T x) (sXO T lo) (sXO T hi)) fun v=>K v H
 | .fieldA o x=>OptP (aField o (sX T x)) fun v=>K v H
 | .field a n o x=>OptP (aFieldV a n o (sX T x)) fun v=>K v H
 | .idxA n x i=>OptP (aIdxA n (sX T x) (sX T i)) fun v=>K v H
 | .idxArr m n x i=>OptP (aIdxArr m n (sX T x) (sX T i)) fun v=>K v H
 | .idx m n a x i=>OptP (aIdx m n a (sX T x) (sX T i)) fun v=>K v H
 | .idxS x i=>OptP (aIdxS (sX T x) (sX T i)) fun v=>K v H
 | .extract i x=>OptP (aExtract i (sX T x)) fun v=>K v H
 | .append n b s x=>OptP (aAppend n b H (sX T s) (sX T x)) fun p=>K p.1 p.2
 | .len s x=>OptP (aLenK s (sX T x)) fun v=>K v H
 | .call f args=>C f (sXs T args) H K
 | .callv f args=>∃g a b,sX T f=.func (.func g) a b∧Nat.blt g BIG=true∧C g (a++sXs T args++b) H K
 | .pf f xs=>OptP (aPf f (sXs T xs)) fun v=>K v H
 | .hf f xs=>OptP (aHf f H (sXs T xs)) fun p=>K p.1 p.2
 | .bad=>False
 | .claim b z s=>OptP (aClaim H b z s) fun v=>K v H
 | .slA m n x lo hi mx=>OptP (aSlArr m n (sX T x) (sXO T lo) (sXO T hi) (sXO T mx)) fun v=>K v H
def wRegs:List AOper→Env→AHeap→(Env→AHeap→Prop)→Prop
 | [],T,H,K=>K T H
 | o::r,T,H,K=>bif sG T o.guard then wOp C T H (fun v H'=>wRegs r (upO T o.dst v) H' K) o.op else wRegs r (upO T o.dst undefA) H K
def wTr:List AOper→Env→AHeap→(List (AVal×AHeap)→Env→AHeap→Prop)→Prop
 | [],T,H,K=>K [] T H
 | o::r,T,H,K=>bif sG T o.guard then wOp C T H (fun v H'=>wTr r (upO T o.dst v) H' fun ss=>K ((v,H')::ss)) o.op else wTr r (upO T o.dst undefA) H fun ss=>K ((undefA,H)::ss)
end
def wLd(T:Env)(H:AHeap):AOp→Option AVal
 | .load a n x=>oLoad a n H (sX T x)
 | .claim b z s=>aClaim H b z s
 | _=>none
def wCk(hs:List AHeap):List AOper→List (List Nat)→List (AVal×AHeap)→Env→Prop
 | o::os,ps::pss,(v,_)::ss,T=>(∀p∈ps,∃Hp,hs[p]?=some Hp∧(sG T o.guard=true→∃u,wLd T Hp o.op=some u∧aeq u v=true))∧wCk hs os pss ss (upO T o.dst v)
 | _,_,_,_=>True
def wDraw(C:CS)(l:List AOper)(chk:List (List Nat))(T:Env)(H:AHeap)(K:Env→AHeap→Prop):Prop:=wTr C l T H fun ss T' H'=>wCk (H::ss.map (·.2)) l chk ss T∧K T' H'
abbrev Post:=AEx→Env→AHeap→Prop
def inBlk(id:Nat)(Q:Post):Post:=fun e T H=>match e with
 | .exit j=>bif Nat.beq j id then Q .normal T H else Q (.exit j) T H
 | e=>Q e T H
def inSeq(Q:Post)(K:Env→AHeap→Prop):Post:=fun e T H=>match e with
 | .normal=>K T H
 | e=>Q e T H
def inDfr(K:Env→AHeap→Prop):Post:=fun e T H=>match e with
 | .exit _=>False
 | _=>K T H
def wp(C:CS):ACode→Post→Env→AHeap→Prop
 | .skip,Q,T,H=>Q .normal T H
 | .reg ops,Q,T,H=>wRegs C ops T H (Q .normal)
 | .draw ops chk,Q,T,H=>wDraw C (claims H.next ops) chk T (reserves H ops) (Q .normal)
 | .seq a b,Q,T,H=>wp C a (inSeq Q (wp C b Q)) T H
 | .cond c a b,Q,T,H=>∃v,sX T c=.bool v∧bif v then wp C a Q T H else wp C b Q T H
 | .block id c,Q,T,H=>wp C c (inBlk id Q) T H
 | .loop c,Q,T,H=>∃(I:Nat→Env→AHeap→Prop),(∃m,I m T H)∧∀m T H,I m T H→wp C c (inSeq Q fun T' H'=>∃m',m'<m∧I m' T' H') T H
 | .exit id,Q,T,H=>Q (.exit id) T H
 | .ret,Q,T,H=>Q .ret T H
 | .dfr y b,Q,T,H=>∃g l,sX T y=.func (.func g) [] l∧wp C b (inDfr fun T' H'=>C (3*BIG+g) l H' fun _ H''=>Q .ret T' H'') T H
section
variable {tb:FuncId→Bool}
def CLe(c d:FuncId→List AVal→AHeap→Option (AVal×AHeap)):Prop:=∀f a H r,c f a H=some r→d f a H=some r
theorem CLe.refl(c):CLe c c:=fun _ _ _ _ h=>h
theorem astep_mono{c d}(h:CLe c d){o:AOper}{T:Tr AVal}{H:AHeap}{r}(e:astep tb c o T H=some r):astep tb d o T H=some r:=by
 unfold astep at e ⊢
 cases hg:gOK T o.guard with
 | false=>rw[hg]at e; exact e
 | true=>
  rw[hg]at e
  simp only[cond_true]at e ⊢
  split at e
  ·exact e
  ·exact h _ _ _ _ e
  ·simp at e
theorem aregs_mono{c d}(h:CLe c d):∀(l:List AOper) {T:Tr AVal} {H:AHeap} {r},aregs tb c l T H=some r→aregs tb d l T H=some r
 | [],_,_,_,e=>e
 | o::l,T,H,r,e=>by
  have hs:∀c,aregs tb c (o::l) T H=match astep tb c o T H with | some (v,H')=>aregs tb c l (aput T o.dst v) H' | none=>none:=by
   intro c
   simp only[aregs,astep]
   cases gOK T o.guard with
   | false=>rfl
   | true=>
    simp only[cond_true]
    cases aop tb T H o.op with
    | none=>rfl
    | some p=>obtain⟨nx,H'⟩:=p; cases nx <;> rfl
  rw[hs]at e ⊢
  split at e
  ·rename_i v H' hv
   rw[astep_mono h hv]
   exact aregs_mono h l e
  ·simp at e
theorem atrace_mono{c d}(h:CLe c d):∀(l:List AOper) {T:Tr AVal} {H:AHeap} {r},atrace tb c l T H=some r→atrace tb d l T H=some r
 | [],_,_,_,e=>e
 | o::l,T,H,r,e=>by
  simp only[atrace]at e ⊢
  split at e
  ·rename_i v H' hv
   rw[astep_mono h hv]
   split at e
   ·rename_i s hs
    simp only[atrace_mono h l hs]
    exact e
   ·simp at e
  ·simp at e
theorem aloop_mono{f g:Tr AVal→AHeap→Option (AEx×Tr AVal×AHeap)}(h:∀T H r,f T H=some r→g T H=some r):∀(n m:Nat) (T:Tr AVal) (H:AHeap) (r),n≤m→aloop f n T H=some r→aloop g m T H=some r
 | 0,_,_,_,_,_,e=>by simp[aloop]at e
 | n+1,0,_,_,_,hl,_=>om
 | n+1,m+1,T,H,r,hl,e=>by
  simp only[aloop]at e ⊢
  split at e
  ·rename_i T' H' hv
   rw[h _ _ _ hv]
   exact aloop_mono h n m T' H' r om e
  ·rename_i e' T' H' hne hv
   rw[h _ _ _ hv]
   cases e' with
   | normal=>exact absurd rfl hne
   | exit i=>exact e
   | ret=>exact e
  ·simp at e
theorem aexec_mono{c d}(h:CLe c d){k k':Nat}(hk:k≤k'):∀(x:ACode) (T:Tr AVal) (H:AHeap) (r),aexec tb c k x T H=some r→aexec tb d k' x T H=some r:=by
 intro x
 induction x with
 | skip=>intro T H r e; exact e
 | reg l=>
  intro T H r e
  simp only[aexec]at e ⊢
  split at e
  ·rename_i T' H' hv; rw[aregs_mono h l hv]; exact e
  ·simp at e
 | draw l chk=>
  intro T H r e
  simp only[aexec,adraw]at e ⊢
  split at e
  ·rename_i ss hv; rw[atrace_mono h _ hv]; exact e
  ·simp at e
 | seq a b iha ihb=>
  intro T H r e
  simp only[aexec]at e ⊢
  split at e
  ·rename_i T' H' hv; rw[iha _ _ _ hv]; exact ihb _ _ _ e
  ·rename_i e' T' H' hne hv
   rw[iha _ _ _ hv]
   cases e' with
   | normal=>exact absurd rfl hne
   | exit i=>exact e
   | ret=>exact e
  ·simp at e
 | cond c a b iha ihb=>
  intro T H r e
  simp only[aexec]at e ⊢
  split at e
  ·exact iha _ _ _ e
  ·exact ihb _ _ _ e
  ·simp at e
 | block id c ih=>
  intro T H r e
  simp only[aexec]at e ⊢
  split at e
  ·rename_i j T' H' hv; rw[ih _ _ _ hv]; exact e
  ·rename_i e' T' H' hne hv
   rw[ih _ _ _ hv]
   cases e' with
   | exit i=>exact absurd rfl (hne i)
   | normal=>exact e
   | ret=>exact e
  ·simp at e
 | loop c ih=>
  intro T H r e
  simp only[aexec]at e ⊢
  exact aloop_mono (fun T H r hr=>ih T H r hr) k k' T H r hk e
 | exit id=>intro T H r e; exact e
 | ret=>intro T H r e; exact e
 | dfr y b ih=>
  intro T H r e
  simp only[aexec]at e ⊢
  split at e
  ·split at e
   ·simp at e
   ·rename_i e' T' H' hne hv
    rw[ih _ _ _ hv]
    split at e
    ·rename_i v H'' hc
     cases e' with
     | exit i=>exact (hne i rfl).elim
     | normal=>simp only[h _ _ _ _ hc]; exact e
     | ret=>simp only[h _ _ _ _ hc]; exact e
    ·simp at e
   ·simp at e
  ·simp at e
theorem acall_mono1{N:ANat}{tab:Tr AFn}:∀(n:Nat),CLe (acall N tab n) (acall N tab (n+1))
 | 0=>fun f a H r e=>by simp[acall]at e
 | n+1=>fun f a H r e=>by
  have ih:=acall_mono1 (N:=N) (tab:=tab) n
  rw[acall]at e ⊢
  cases hn:N.is f with
  | true=>rw[hn]at e; exact e
  | false=>
   rw[hn]at e
   simp only[cond_false]at e ⊢
   split at e
   ·rename_i fn hf
    cases hb:Nat.ble a.length fn.nt with
    | false=>rw[hb]at e; simp at e
    | true=>
     rw[hb]at e
     simp only[cond_true]at e ⊢
     split at e
     ·simp at e
     ·rename_i e' T' H' hne hv
      rw[aexec_mono ih (Nat.le_succ n) _ _ _ _ hv]
      cases e' with
      | exit i=>exact (hne i rfl).elim
      | normal=>exact e
      | ret=>exact e
     ·simp at e
   ·simp at e
theorem acall_mono{N:ANat}{tab:Tr AFn}{n m:Nat}(h:n≤m):CLe (acall N tab n) (acall N tab m):=by
 induction m with
 | zero => obtain rfl : n = 0 := by omega
           exact CLe.refl _
 | succ m ih=>
  by_cases e:n=m+1
  ·subst e; exact CLe.refl _
  ·exact fun f a H r hr=>acall_mono1 m _ _ _ _ (ih om _ _ _ _ hr)
end
end Go.Abs.S
namespace Go.Abs.S
open Go.Abs
def tabN(P:Program):Nat→Tr AFn
 | 0=>.e
 | n+1=>match eFn P n with
  | some c=>(tabN P n).set n c
  | none=>tabN P n
def tabP(P:Program):Tr AFn:=tabN P (4*BIG)
theorem tabN_get(P:Program):∀(n f:Nat),(tabN P n).get f=if f<n then eFn P f else none
 | 0,f=>by rw[if_neg om]; cases f <;> rfl
 | n+1,f=>by
  simp only[tabN]
  by_cases e:f=n
  ·subst e
   rw[if_pos om]
   cases hc:eFn P f with
   | none=>rw[tabN_get P f f,if_neg om]
   | some c=>rw[Tr.get_set,if_pos rfl]
  ·have hx:(if f<n+1 then eFn P f else none)=if f<n then eFn P f else none:=by
    by_cases h:f<n
    ·rw[if_pos h,if_pos om]
    ·rw[if_neg h,if_neg om]
   rw[hx,← tabN_get P n f]
   cases eFn P n with
   | none=>rfl
   | some c=>rw[Tr.get_set,if_neg e]
theorem tabP_ok(P:Program):TabOK P (tabP P):=by
 intro f fn h
 rw[tabP,tabN_get]at h
 split at h
 ·exact h
 ·simp at h
theorem tabP_get{P:Program}{f:Nat}{c:AFn}(h:eFn P f=some c):(tabP P).get f=some c:=by
 have hf:f<4*BIG:=by
  unfold eFn at h
  rw[blt_dec,blt_dec,blt_dec]at h
  by_cases h4:f<4*BIG
  ·exact h4
  ·rw[decide_eq_false om,decide_eq_false om,decide_eq_false h4]at h
   simp at h
 rw[tabP,tabN_get,if_pos hf,h]
def ACalls(P:Program)(N:ANat)(f:FuncId)(args:List AVal)(H:AHeap)(K:AVal→AHeap→Prop):Prop:=
 ∃n v H',acall N (tabP P) n f args H=some (v,H')∧K v H'
theorem ACalls.mono{P:Program}{N:ANat}{f:FuncId}{args:List AVal}{H:AHeap}{K K':AVal→AHeap→Prop}(h:ACalls P N f args H K)(hk:∀v H',K v H'→K' v H'):ACalls P N f args H K':=by
 obtain⟨n,v,H',h1,h2⟩:=h; exact⟨n,v,H',h1,hk _ _ h2⟩
section
variable {P:Program} {N:ANat}
theorem acall_tb{n:Nat}{f:FuncId}{args:List AVal}{H:AHeap}{r}(h:acall N (tabP P) n f args H=some r):tbA N (tabP P) f=true:=by
 cases n with
 | zero=>simp[acall]at h
 | succ n=>
  rw[acall]at h
  unfold tbA
  cases hn:N.is f with
  | true=>rfl
  | false=>
   rw[hn]at h
   simp only[cond_false]at h ⊢
   cases ht:(tabP P).get f with
   | none=>rw[ht]at h; simp at h
   | some c=>rfl
theorem wOp_sound{T:Tr AVal}{H:AHeap}{o:AOp}{K:AVal→AHeap→Prop}(h:wOp (ACalls P N) (en T) H K o) :
  (∃v H',aop (tbA N (tabP P)) T H o=some (.val v,H')∧K v H')∨(∃f args H' n v H'',aop (tbA N (tabP P)) T H o=some (.enter f args,H')∧acall N (tabP P) n f args H'=some (v,H'')∧K v H''):=by
 cases o
 case call f args=>
  right
  simp only[wOp,sXs_en]at h
  obtain⟨n,v,H',h1,h2⟩:=h
  exact⟨f,_,H,n,v,H',by simp only[aop,acall_tb h1,cond_true],h1,h2⟩
 case callv f args=>
  right
  simp only[wOp,sX_en,sXs_en]at h
  obtain⟨g,a,b,hf,hgb,n,v,H',h1,h2⟩:=h
  exact⟨g,_,H,n,v,H',by simp only[aop,hf,hgb,acall_tb h1,Bool.and_true,cond_true],h1,h2⟩
 case pick c a b=>
  simp only[wOp,sX_en]at h
  obtain⟨b',h1,h2⟩:=h
  exact .inl ⟨_,_,by simp only[aop,h1],h2⟩
 case bad=>simp[wOp]at h
 all_goals
  left
  simp only[wOp,sX_en,sXs_en,sXO_en,sXP_en,OptP]at h
  first
   | exact⟨_,_,rfl,h⟩
   | (obtain ⟨v, h1, h2⟩ := h
      refine ⟨_, _, ?_, h2⟩
      simp only [aop, h1]
      try rfl)
theorem wStep_sound{T:Tr AVal}{H:AHeap}{o:AOper}{K:AVal→AHeap→Prop}(h:wOp (ACalls P N) (en T) H K o.op)(hg:gOK T o.guard=true) :
  ∃n v H',astep (tbA N (tabP P)) (acall N (tabP P) n) o T H=some (v,H')∧K v H':=by
 rcases wOp_sound h with⟨v,H',h1,h2⟩ | ⟨f,args,H',n,v,H'',h1,h2,h3⟩
 ·exact⟨0,v,H',by simp only[astep,hg,cond_true,h1],h2⟩
 ·exact⟨n,v,H'',by simp only[astep,hg,cond_true,h1,h2],h3⟩
theorem aregs_cons(tb:FuncId→Bool)(c)(o:AOper)(l:List AOper)(T:Tr AVal)(H:AHeap):aregs tb c (o::l) T H=match astep tb c o T H with | some (v,H')=>aregs tb c l (aput T o.dst v) H' | none=>none:=by
 simp only[aregs,astep]
 cases gOK T o.guard with
 | false=>rfl
 | true=>
  simp only[cond_true]
  cases aop tb T H o.op with
  | none=>rfl
  | some p=>obtain⟨nx,H'⟩:=p; cases nx <;> rfl
theorem wRegs_sound:∀(l:List AOper) {T:Tr AVal} {H:AHeap} {K:Env→AHeap→Prop},wRegs (ACalls P N) l (en T) H K →
  ∃n T' H',aregs (tbA N (tabP P)) (acall N (tabP P) n) l T H=some (T',H')∧K (en T') H'
 | [],T,H,K,h=>⟨0,T,H,rfl,h⟩
 | o::l,T,H,K,h=>by
  simp only[wRegs,sG_en]at h
  have:∃n v H',astep (tbA N (tabP P)) (acall N (tabP P) n) o T H=some (v,H')∧wRegs (ACalls P N) l (upO (en T) o.dst v) H' K:=by
   cases hg:gOK T o.guard with
   | true=>rw[hg]at h; exact wStep_sound h hg
   | false=>rw[hg]at h; exact⟨0,undefA,H,by simp only[astep,hg,cond_false],h⟩
  obtain⟨n,v,H',h1,h2⟩:=this
  rw[← en_put]at h2
  obtain⟨m,T2,H2,h3,h4⟩:=wRegs_sound l h2
  refine⟨max n m,T2,H2,?_,h4⟩
  rw[aregs_cons,astep_mono (acall_mono (Nat.le_max_left n m)) h1]
  exact aregs_mono (acall_mono (Nat.le_max_right n m)) l h3
theorem wTr_sound:∀(l:List AOper) {T:Tr AVal} {H:AHeap} {K:List (AVal×AHeap)→Env→AHeap→Prop},wTr (ACalls P N) l (en T) H K→∀j,
  ∃n ss,atrace (tbA N (tabP P)) (acall N (tabP P) n) l T H=some ss∧K ss (en (tsel (fun _=>true) j l ss T)) (hAt H ss l.length)
 | [],T,H,K,h,j=>⟨0,[],rfl,h⟩
 | o::l,T,H,K,h,j=>by
  simp only[wTr,sG_en]at h
  have:∃n v H',astep (tbA N (tabP P)) (acall N (tabP P) n) o T H=some (v,H')∧wTr (ACalls P N) l (upO (en T) o.dst v) H' fun ss=>K ((v,H')::ss):=by
   cases hg:gOK T o.guard with
   | true=>rw[hg]at h; exact wStep_sound h hg
   | false=>rw[hg]at h; exact⟨0,undefA,H,by simp only[astep,hg,cond_false],h⟩
  obtain⟨n,v,H',h1,h2⟩:=this
  rw[← en_put]at h2
  obtain⟨m,ss,h3,h4⟩:=wTr_sound l h2 (j+1)
  refine⟨max n m,(v,H')::ss,?_,?_⟩
  ·simp only[atrace,astep_mono (acall_mono (Nat.le_max_left n m)) h1,atrace_mono (acall_mono (Nat.le_max_right n m)) l h3]
  ·have hl:=(trace_at l _ H' ss 0 h3).1
   have e:hAt H' ss l.length=hAt H ((v,H')::ss) (o::l).length:=by
    simp only[List.length_cons]
    cases hr:l.length with
    | zero=>rfl
    | succ q=>
     simp only[hAt,List.getElem?_cons_succ]
     rw[List.getElem?_eq_getElem om]
   rw[← e]
   exact h4
theorem wCk_sound{tb:FuncId→Bool}{hs:List AHeap}:∀(l:List AOper) (chk:List (List Nat)) (ss:List (AVal×AHeap)) (T:Tr AVal),wCk hs l chk ss (en T)→chkRun tb hs l chk ss T=true
 | [],_,_,_,_=>rfl
 | o::l,[],_,_,_=>rfl
 | o::l,p::ps,[],_,_=>rfl
 | o::l,p::ps,(v,Hv)::ss,T,h=>by
  simp only[wCk]at h
  obtain⟨h1,h2⟩:=h
  simp only[chkRun,Bool.and_eq_true]
  refine⟨List.all_eq_true.2 fun q hq=>?_,wCk_sound l ps ss _ (by rw[en_put]; exact h2)⟩
  obtain⟨Hp,e1,e2⟩:=h1 q hq
  rw[e1]
  simp only
  cases hg:gOK T o.guard with
  | false=>rfl
  | true=>
   obtain⟨u,u1,u2⟩:=e2 (by rw[sG_en]; exact hg)
   simp only[cond_true]
   cases ho:o.op <;> rw[ho]at u1 <;> simp only[wLd,reduceCtorEq,sX_en]at u1
   ·simp only[aop,u1,vv]; exact u2
   ·simp only[aop,u1,vv]; exact u2
theorem inSeq_sound{Q:Post}{K:Env→AHeap→Prop}{e:AEx}{T:Env}{H:AHeap}(h:inSeq Q K e T H):(e=.normal∧K T H)∨(e≠.normal∧Q e T H):=by
 cases e with
 | normal=>exact .inl ⟨rfl,h⟩
 | exit i=>exact .inr ⟨by simp,h⟩
 | ret=>exact .inr ⟨by simp,h⟩
theorem wp_sound:∀(c:ACode) (Q:Post) (T:Tr AVal) (H:AHeap),wp (ACalls P N) c Q (en T) H →
  ∃n e T' H',aexec (tbA N (tabP P)) (acall N (tabP P) n) n c T H=some (e,T',H')∧Q e (en T') H':=by
 intro c
 induction c with
 | skip=>intro Q T H h; exact⟨0,_,_,_,rfl,h⟩
 | reg l=>
  intro Q T H h
  obtain⟨n,T',H',h1,h2⟩:=wRegs_sound l h
  exact⟨n,.normal,T',H',by simp only[aexec,h1],h2⟩
 | draw l chk=>
  intro Q T H h
  simp only[wp,wDraw]at h
  obtain⟨n,ss,h1,h2,h3⟩:=wTr_sound (claims H.next l) h 0
  exact⟨n,.normal,_,_,by simp only[aexec,adraw,h1,wCk_sound (claims H.next l) chk ss T h2,cond_true],h3⟩
 | seq a b iha ihb=>
  intro Q T H h
  obtain⟨n,e,T1,H1,h1,h2⟩:=iha _ T H h
  rcases inSeq_sound h2 with⟨rfl,h2⟩ | ⟨hne,h2⟩
  ·obtain⟨m,e2,T2,H2,h3,h4⟩:=ihb _ T1 H1 h2
   refine⟨max n m,e2,T2,H2,?_,h4⟩
   simp only[aexec,aexec_mono (acall_mono (Nat.le_max_left n m)) (Nat.le_max_left n m) a _ _ _ h1]
   exact aexec_mono (acall_mono (Nat.le_max_right n m)) (Nat.le_max_right n m) b _ _ _ h3
  ·refine⟨n,e,T1,H1,?_,h2⟩
   cases e with
   | normal=>exact absurd rfl hne
   | exit i=>simp only[aexec,h1]
   | ret=>simp only[aexec,h1]
 | cond c a b iha ihb=>
  intro Q T H h
  simp only[wp,sX_en]at h
  obtain⟨v,hv,h⟩:=h
  cases v with
  | true=>
   obtain⟨n,e,T1,H1,h1,h2⟩:=iha _ T H h
   exact⟨n,e,T1,H1,by simp only[aexec,hv,h1],h2⟩
  | false=>
   obtain⟨n,e,T1,H1,h1,h2⟩:=ihb _ T H h
   exact⟨n,e,T1,H1,by simp only[aexec,hv,h1],h2⟩
 | block id c ih=>
  intro Q T H h
  obtain⟨n,e,T1,H1,h1,h2⟩:=ih _ T H h
  cases e with
  | exit j=>
   simp only[inBlk]at h2
   cases hb:Nat.beq j id with
   | true=>rw[hb]at h2; exact⟨n,.normal,T1,H1,by simp only[aexec,h1,hb,cond_true],h2⟩
   | false=>rw[hb]at h2; exact⟨n,.exit j,T1,H1,by simp only[aexec,h1,hb,cond_false],h2⟩
  | normal=>exact⟨n,.normal,T1,H1,by simp only[aexec,h1],h2⟩
  | ret=>exact⟨n,.ret,T1,H1,by simp only[aexec,h1],h2⟩
 | loop c ih=>
  intro Q T H h
  simp only[wp]at h
  obtain⟨I,⟨m,hm⟩,hI⟩:=h
  have key:∀(m:Nat) (T:Tr AVal) (H:AHeap),I m (en T) H→∃n e T' H',aexec (tbA N (tabP P)) (acall N (tabP P) n) n (.loop c) T H=some (e,T',H')∧Q e (en T') H':=by
   intro m
   induction m using Nat.strongRecOn with
   | ind m ihm=>
    intro T H hi
    obtain⟨n,e,T1,H1,h1,h2⟩:=ih _ T H (hI m _ _ hi)
    rcases inSeq_sound h2 with⟨rfl,m',hm',h2⟩ | ⟨hne,h2⟩
    ·obtain⟨k,e2,T2,H2,h3,h4⟩:=ihm m' hm' T1 H1 h2
     refine⟨max n k+1,e2,T2,H2,?_,h4⟩
     simp only[aexec,aloop]
     rw[aexec_mono (acall_mono (show n≤max n k+1 by omega)) (show n≤max n k+1 by omega) c _ _ _ h1]
     simp only[aexec]at h3
     exact aloop_mono (fun T H r hr=>aexec_mono (acall_mono (show k≤max n k+1 by omega)) (show k≤max n k+1 by omega) c T H r hr) k (max n k) T1 H1 _ (Nat.le_max_right n k) h3
    ·refine⟨n+1,e,T1,H1,?_,h2⟩
     simp only[aexec,aloop]
     rw[aexec_mono (acall_mono (Nat.le_succ n)) (Nat.le_succ n) c _ _ _ h1]
     cases e with
     | normal=>exact absurd rfl hne
     | exit i=>rfl
     | ret=>rfl
  exact key m T H hm
 | exit id=>intro Q T H h; exact⟨0,_,_,_,rfl,h⟩
 | ret=>intro Q T H h; exact⟨0,_,_,_,rfl,h⟩
 | dfr y b ih=>
  intro Q T H h
  simp only[wp,sX_en]at h
  obtain⟨g,l,hg,h⟩:=h
  obtain⟨n,e,T1,H1,h1,h2⟩:=ih _ T H h
  have hne:(∀i,e≠.exit i)∧ACalls P N (3*BIG+g) l H1 fun _ H''=>Q .ret (en T1) H'':=by
   cases e with
   | exit i=>exact h2.elim
   | normal=>exact⟨fun i=>by simp,h2⟩
   | ret=>exact⟨fun i=>by simp,h2⟩
  obtain⟨hne,m,v,H2,h3,h4⟩:=hne
  refine⟨max n m,.ret,T1,H2,?_,h4⟩
  simp only[aexec,hg]
  rw[aexec_mono (acall_mono (Nat.le_max_left n m)) (Nat.le_max_left n m) b _ _ _ h1]
  have h5:=acall_mono (Nat.le_max_right n m) _ _ _ _ h3
  cases e with
  | exit i=>exact (hne i rfl).elim
  | normal=>simp only[h5]
  | ret=>simp only[h5]
def argE(args:List AVal):Env:=fun i=>match args[i]? with
 | some v=>v
 | none=>undefA
theorem putArgs_en:∀(args:List AVal) (i:Nat) (T:Tr AVal),en (putArgs args i T)=fun j=>if i≤j then (match args[j-i]? with | some v=>v | none=>en T j) else en T j
 | [],i,T=>by funext j; simp[putArgs]
 | x::r,i,T=>by
  rw[putArgs,putArgs_en r (i+1),en_set]
  funext j
  by_cases h:i+1≤j
  ·rw[if_pos h,if_pos om,show j-i=(j-(i+1))+1 by omega]
   simp only[List.getElem?_cons_succ]
   split
   ·rfl
   ·have hb:Nat.beq j i=false:=by rw[beq_dec]; exact decide_eq_false om
    simp only[up,hb,cond_false]
  ·rw[if_neg h]
   by_cases e:i=j
   ·subst e
    simp[up]
   ·rw[if_neg om]
    have hb:Nat.beq j i=false:=by rw[beq_dec]; exact decide_eq_false om
    simp only[up,hb,cond_false]
theorem putArgs_e(args:List AVal):en (putArgs args 0 .e)=argE args:=by
 rw[putArgs_en]
 funext j
 simp only[Nat.zero_le,if_true,Nat.sub_zero,argE]
 split
 ·rfl
 ·rfl
def wRes(T:Env)(H:AHeap):List ARes→Option (List AVal)
 | []=>some []
 | .t i::r=>match wRes T H r with
  | some l=>some (T i::l)
  | none=>none
 | .cell g n i::r=>match oLoad g n H (T i),wRes T H r with
  | some x,some l=>some (x::l)
  | _,_=>none
theorem wRes_en(T:Tr AVal)(H:AHeap):∀l:List ARes,wRes (en T) H l=ares T H l
 | []=>rfl
 | .t i::r=>by simp only[wRes,ares,wRes_en T H r]; rfl
 | .cell g n i::r=>by simp only[wRes,ares,wRes_en T H r]; rfl
def fin(res:List ARes)(K:AVal→AHeap→Prop):Post:=fun e T H=>match e with
 | .exit _=>False
 | _=>OptP (wRes T H res) fun l=>K (aresV l) H
theorem acalls_of{f:FuncId}{c:AFn}{args:List AVal}{H:AHeap}{K:AVal→AHeap→Prop}(hn:N.is f=false)(hc:eFn P f=some c)(hl:Nat.ble args.length c.nt=true)(h:wp (ACalls P N) c.body (fin c.res K) (argE args) H):ACalls P N f args H K:=by
 rw[← putArgs_e]at h
 obtain⟨n,e,T',H',h1,h2⟩:=wp_sound _ _ _ _ h
 have:∃l,ares T' H' c.res=some l∧K (aresV l) H'∧∀i,e≠.exit i:=by
  cases e with
  | exit i=>exact h2.elim
  | normal=>obtain⟨l,q1,q2⟩:=h2; rw[wRes_en]at q1; exact⟨l,q1,q2,fun i=>by simp⟩
  | ret=>obtain⟨l,q1,q2⟩:=h2; rw[wRes_en]at q1; exact⟨l,q1,q2,fun i=>by simp⟩
 obtain⟨l,q1,q2,q3⟩:=this
 refine⟨n+1,aresV l,H',?_,q2⟩
 rw[acall,hn,tabP_get hc]
 simp only[cond_false,hl,cond_true,h1]
 cases e with
 | exit i=>exact absurd rfl (q3 i)
 | normal=>simp only[q1]
 | ret=>simp only[q1]
theorem ACalls.calls(hfol:P.follows .mixedOrders=true)(hN:NatOK P N){f:FuncId}{args:List AVal}{H:AHeap}{K:AVal→AHeap→Prop}(h:ACalls P N f args H K)
  {Prot:Gh} {w0 w:World} {ρ:Pl} {vs:Array Value} (R:Rel Prot w0 ρ H w) (hv:VRels ρ args vs.toList) (hfb:Nat.blt f BIG=true:=by rfl) :
  Calls P f vs w fun e w'=>∃ρ' v H' u,ρ.le ρ'∧e=.returned u∧K v H'∧Rel Prot w0 ρ' H' w'∧VRel ρ' v u:=by
 obtain⟨n,v,H',h1,h2⟩:=h
 refine (acall_ok hfol hN (tabP_ok P) n _ _ _ _ _ hfb h1 _ _ _ _ _ R hv).mono fun e w' hx=>?_
 obtain⟨ρ',u,q1,rfl,q2,q3⟩:=hx
 exact⟨ρ',v,H',u,q1,rfl,h2,q2,q3⟩
end
end Go.Abs.S
namespace Go.Abs.S
open Go.Abs
theorem junks{ρ:Pl}{p:Value→Prop}(h:∀v,p v→∃x,∀ρ,VRel ρ x v):∀(vs:List Value),(∀v∈vs,p v)→∃l,∀ρ,VRels ρ l vs
 | [],_=>⟨[],fun ρ=>by simp[VRels]⟩
 | v::vs,hv=>by
  obtain⟨x,hx⟩:=h v (hv v (by simp))
  obtain⟨l,hl⟩:=junks (ρ:=ρ) h vs fun u hu=>hv u (by simp[hu])
  exact⟨x::l,fun ρ=>by simp only[VRels]; exact⟨v,vs,rfl,hx ρ,hl ρ⟩⟩
theorem junk:∀(n:Nat) (v:Value),SizeOf.sizeOf v≤n→∃x,∀ρ,VRel ρ x v:=by
 intro n
 induction n with
 | zero=>intro v h; cases v <;> simp at h
 | succ n ih=>
  intro v h
  cases v
  case bool b=>exact⟨.bool b,fun ρ=>by simp[VRel]⟩
  case agg vs=>
   obtain⟨l,hl⟩:=junks (ρ:=fun _ _=>none) (p:=fun v=>SizeOf.sizeOf v≤n) ih vs.toList fun v hv=>by
    have:=Array.sizeOf_lt_of_mem (Array.mem_toList_iff.1 hv)
    simp at h; omega
   exact⟨.agg l,fun ρ=>by simp only[VRel]; exact⟨vs,rfl,hl ρ⟩⟩
  case tuple vs=>
   obtain⟨l,hl⟩:=junks (ρ:=fun _ _=>none) (p:=fun v=>SizeOf.sizeOf v≤n) ih vs.toList fun v hv=>by
    have:=Array.sizeOf_lt_of_mem (Array.mem_toList_iff.1 hv)
    simp at h; omega
   exact⟨.tuple l,fun ρ=>by simp only[VRel]; exact⟨vs,rfl,hl ρ⟩⟩
  all_goals exact⟨.val _,fun ρ=>by simp only[VRel]; exact⟨rfl,rfl⟩⟩
noncomputable def junkOf(v:Value):AVal:=Classical.choose (junk (SizeOf.sizeOf v) v rL)
theorem junkOf_rel(v:Value)(ρ:Pl):VRel ρ (junkOf v) v:=Classical.choose_spec (junk (SizeOf.sizeOf v) v rL) ρ
def rowOf(w:World)(c:Nat):Option Nat:=match w.heap[c]? with
 | some (.cells C _ _)=>some C.size
 | _=>none
noncomputable def absW(w:World):Value→AVal
 | .bool b=>.bool b
 | .int k n=>.int k n
 | .string s=>.str s.data.toList
 | .pointer none=>.ptr none
 | .pointer (some ⟨c,off,none⟩)=>match rowOf w c with
  | some n=>.ptr (some ⟨c,n,off⟩)
  | none=>junkOf (.pointer (some ⟨c,off,none⟩))
 | .slice none 0 0=>.slice none 0 (.known 0)
 | .slice (some ⟨c,off,none⟩) len cap=>if len≤cap then (match rowOf w c with
  | some n=>if off≤n then .slice (some ⟨c,n,off⟩) len (.known cap) else .val (.slice (some ⟨c,off,none⟩) len cap)
  | none=>.val (.slice (some ⟨c,off,none⟩) len cap)) else .val (.slice (some ⟨c,off,none⟩) len cap)
 | .slice (some ⟨c,off,some q⟩) len cap=>.val (.slice (some ⟨c,off,some q⟩) len cap)
 | .map none=>.map none
 | .nilFunc=>.nilFunc
 | .nilIface=>.nilIface
 | v=>junkOf v
def plW(w:World):Pl:=fun b l=>match rowOf w b with
 | some n=>if l=n then some ⟨b,0,n,false⟩ else none
 | none=>none
theorem plW_some{w:World}{b n:Nat}(h:rowOf w b=some n):plW w b n=some ⟨b,0,n,false⟩:=by simp[plW,h]
theorem strOf_data(s:ByteArray):strOf s.data.toList=s:=by cases s; simp[strOf]
theorem absW_rel(w:World)(v:Value):VRel (plW w) (absW w v) v:=by
 unfold absW
 split
 ·simp[VRel]
 ·simp[VRel]
 ·simp[VRel,strOf_data]
 ·simp[VRel]
 ·split
  ·rename_i n hn
   simp only[VRel]
   exact⟨_,plW_some hn,Nat.zero_le _,by simp⟩
  ·exact junkOf_rel _ _
 ·simp[VRel]
 ·split
  ·rename_i hl
   split
   ·rename_i n hn
    split
    ·simp only[VRel]
     exact⟨_,plW_some hn,Nat.zero_le _,by simp only[SliceRel]; exact⟨hl,by simp⟩⟩
    ·simp only[VRel]; exact⟨trivial,rfl⟩
   ·simp only[VRel]; exact⟨trivial,rfl⟩
  ·simp only[VRel]; exact⟨trivial,rfl⟩
 ·simp only[VRel]; exact⟨trivial,rfl⟩
 ·simp[VRel]
 ·simp[VRel]
 ·simp[VRel]
 ·exact junkOf_rel _ _
noncomputable def objW(w:World)(c:Nat):Option AObj:=match w.heap[c]? with
 | some (.cells C _ _)=>some (.cells (C.toList.map (absW w)) 0 true)
 | _=>none
noncomputable def trW(w:World):Nat→Tr AObj
 | 0=>.e
 | n+1=>match objW w n with
  | some o=>(trW w n).set n o
  | none=>trW w n
theorem trW_get(w:World):∀(n b:Nat),(trW w n).get b=if b<n then objW w b else none
 | 0,b=>by rw[if_neg om]; cases b <;> rfl
 | n+1,b=>by
  simp only[trW]
  cases hc:objW w n with
  | none=>
   simp only[trW_get w n b]
   by_cases h:b<n
   ·rw[if_pos h,if_pos om]
   ·by_cases e:b=n
    ·subst e; rw[if_neg h,if_pos om,hc]
    ·rw[if_neg h,if_neg om]
  | some c=>
   simp only[Tr.get_set,trW_get w n b]
   by_cases e:b=n
   ·subst e; rw[if_pos rfl,if_pos om,hc]
   ·rw[if_neg e]
    by_cases h:b<n
    ·rw[if_pos h,if_pos om]
    ·rw[if_neg h,if_neg om]
noncomputable def heapW(w:World):AHeap:=⟨w.heap.size,trW w w.heap.size⟩
theorem heapW_get(w:World)(b:Nat):(heapW w).get b=objW w b:=by
 show (trW w w.heap.size).get b=_
 rw[trW_get]
 by_cases h:b<w.heap.size
 ·rw[if_pos h]
 ·rw[if_neg h]
  unfold objW
  rw[Array.getElem?_eq_none om]
theorem objW_some{w:World}{c n:Nat}(h:rowOf w c=some n):∃C e fz,w.heap[c]?=some (.cells C e fz)∧C.size=n∧objW w c=some (.cells (C.toList.map (absW w)) 0 true):=by
 unfold rowOf at h
 unfold objW
 split at h
 ·rename_i C e fz hC
  simp only[sJ]at h
  exact⟨C,e,fz,hC,h,rfl⟩
 ·simp at h
theorem plW_inv{w:World}{b l:Nat}{L:Loc}(h:plW w b l=some L):rowOf w b=some l∧L=⟨b,0,l,false⟩:=by
 unfold plW at h
 split at h
 ·rename_i n hn
  split at h
  ·rename_i e; subst e; simp only[sJ]at h; exact⟨hn,h.symm⟩
  ·simp at h
 ·simp at h
theorem objW_ro{w:World}{b:Nat}{x:AObj}(h:objW w b=some x):x.rw=false:=by
 unfold objW at h
 split at h
 ·simp only[sJ]at h; subst h; rfl
 ·simp at h
theorem rel_world(w:World):Rel ⟨fun c=>c<w.heap.size,fun _=>False⟩ w (plW w) (heapW w) w:=by
 refine⟨rfl,rfl,rfl,Nat.le_refl _,fun _ hc=>⟨hc,rfl⟩,fun b l L h=>?_,fun b l L h=>?_,fun b l L x h hx hr=>?_,fun b l L b' l' L' x h h' he hx hr=>?_,fun _ h=>h.elim,fun b l low h=>?_⟩
 ·obtain⟨h1,rfl⟩:=plW_inv h
  obtain⟨C,e,fz,h2,_,_⟩:=objW_some h1
  have:=(Array.getElem?_eq_some_iff.1 h2).1
  exact⟨this,this⟩
 ·obtain⟨h1,rfl⟩:=plW_inv h
  obtain⟨C,e,fz,h2,h3,h4⟩:=objW_some h1
  obtain⟨lo,hi⟩:=fz
  refine⟨_,_,by rw[heapW_get,h4],h2,?_⟩
  simp only[ORel]
  refine⟨C,e,lo,hi,rfl,h3,fun h=>by simp at h,by simp; omega,fun _ i _ hi=>?_⟩
  have hlt:i<C.size:=om
  refine⟨absW w C[i],C[i],?_,by simp[hlt],absW_rel w _⟩
  simp[hlt]
 ·rw[heapW_get]at hx
  rw[objW_ro hx]at hr
  simp at hr
 ·rw[heapW_get]at hx
  rw[objW_ro hx]at hr
  simp at hr
 ·rw[heapW_get]at h
  have hr:rowOf w b=some l.length:=by
   unfold objW at h
   unfold rowOf
   split at h
   ·rename_i C e fz hC
    simp only[sJ,AObj.cells.injEq]at h
    simp[← h.1]
   ·simp at h
  exact⟨_,plW_some hr,rfl,rfl,rfl⟩
end Go.Abs.S
namespace Go.Abs.S
open Go.Abs
theorem up_same(T:Env)(i:Nat)(v:AVal):up T i v i=v:=by simp[up]
theorem up_ne(T:Env)(i j:Nat)(v:AVal)(h:j≠i):up T i v j=T j:=by
 have:Nat.beq j i=false:=by rw[beq_dec]; exact decide_eq_false h
 simp[up,this]
structure Ext(n:Nat)(H H':AHeap):Prop where
 next:H.next≤H'.next
 old:∀b,b<n→H'.get b=H.get b
theorem Ext.refl(n:Nat)(H:AHeap):Ext n H H:=⟨Nat.le_refl _,fun _ _=>rfl⟩
theorem Ext.trans{n:Nat}{H H' H'':AHeap}(h:Ext n H H')(k:Ext n H' H''):Ext n H H'':=⟨Nat.le_trans h.next k.next,fun b hb=>(k.old b hb).trans (h.old b hb)⟩
theorem Ext.less{n m:Nat}{H H':AHeap}(h:Ext n H H')(hm:m≤n):Ext m H H':=⟨h.next,fun b hb=>h.old b om⟩
theorem Ext.push{n:Nat}{H H':AHeap}(h:Ext n H H')(hn:n≤H'.next)(o:AObj):Ext n H (H'.push o):=
 ⟨Nat.le_trans h.next (by simp[AHeap.push]),fun b hb=>by rw[AHeap.get_push,if_neg om,h.old b hb]⟩
theorem Ext.set{n:Nat}{H H':AHeap}(h:Ext n H H'){b:Nat}(hn:n≤b)(o:AObj):Ext n H (H'.set b o):=
 ⟨h.next,fun c hc=>by rw[AHeap.get_set,if_neg om,h.old c hc]⟩
theorem push_next(H:AHeap)(o:AObj):(H.push o).next=H.next+1:=rfl
theorem set_next(H:AHeap)(b:Nat)(o:AObj):(H.set b o).next=H.next:=rfl
def nilS:AVal:=.slice none 0 (.known 0)
def cellP(s:AVal)(i:Nat):AVal:=match s with
 | .slice (some a) _ _=>.ptr (some ⟨a.b,a.lim,a.o+i*1⟩)
 | _=>undefA
def isE:AVal→Bool
 | .slice none 0 (.known 0)=>true
 | .val (.slice (some _) 0 0)=>true
 | _=>false
theorem isE_cases{s:AVal}(h:isE s=true):s=nilS∨∃a,s=.val (.slice (some a) 0 0):=by
 unfold isE at h
 split at h
 ·exact .inl rfl
 ·exact .inr ⟨_,rfl⟩
 ·simp at h
def Cel(n:Nat)(H:AHeap)(s:AVal)(l:List AVal):Prop:=
 (isE s=true∧l=[])∨∃a r,s=.slice (some a) l.length r∧a.b<n∧rdCells H a l.length=some l
theorem rd_congr{H H':AHeap}{a:Ad}(h:H'.get a.b=H.get a.b)(n:Nat):rdCells H' a n=rdCells H a n:=by
 unfold rdCells; rw[h]
theorem Cel.len{n:Nat}{H:AHeap}{s:AVal}{l:List AVal}(h:Cel n H s l):aLenK false s=some (.int .i64 l.length):=by
 rcases h with⟨h,rfl⟩ | ⟨a,r,rfl,_⟩
 ·rcases isE_cases h with rfl | ⟨a,rfl⟩ <;> rfl
 ·rfl
theorem rd_at{H:AHeap}{a:Ad}{n i:Nat}{xs:List AVal}(h:rdCells H a n=some xs)(hi:i<n):∃x,xs[i]?=some x∧rdCells H ⟨a.b,a.lim,a.o+i⟩ 1=some [x]:=by
 obtain⟨l,low,ro,_,h1,h2,h3,h4,rfl⟩:=rd_spec h
 have hlt:a.o+i<l.length:=om
 refine⟨l[a.o+i],?_,?_⟩
 ·rw[List.getElem?_take_of_lt hi,List.getElem?_drop,List.getElem?_eq_getElem hlt]
 ·unfold rdCells
  simp only[h1,Nat.ble_eq_true_of_le h2,Nat.ble_eq_true_of_le h3,Nat.ble_eq_true_of_le (show a.o+i+1≤a.lim by omega),Bool.and_self,cond_true]
  rw[List.drop_eq_getElem_cons hlt]
  rfl
theorem Cel.idx{n:Nat}{H:AHeap}{s:AVal}{l:List AVal}(h:Cel n H s l)(k:IntKind){i:Nat}(hi:i<l.length):aIdxA 1 s (.int k (i:Int))=some (cellP s i):=by
 rcases h with⟨_,rfl⟩ | ⟨a,r,rfl,_⟩
 ·simp at hi
 ·show (bif Nat.blt i l.length then _ else none)=_
  have:Nat.blt i l.length=true:=by simpa[Nat.blt_eq] using hi
  rw[this]; rfl
theorem Cel.load{n:Nat}{H:AHeap}{s:AVal}{l:List AVal}(h:Cel n H s l){i:Nat}{x:AVal}(hi:l[i]?=some x):oLoad false 1 H (cellP s i)=some x:=by
 have hlt:=(List.getElem?_eq_some_iff.1 hi).1
 rcases h with⟨_,rfl⟩ | ⟨a,r,rfl,_,h3⟩
 ·simp at hi
 ·obtain⟨y,h4,h5⟩:=rd_at h3 hlt
  rw[hi]at h4
  simp only[sJ]at h4
  subst h4
  simp only[oLoad,cellP,Nat.mul_one,h5,cond_false]
theorem rd_whole{H:AHeap}{b low:Nat}{l:List AVal}{ro:Bool}(h:H.get b=some (.cells l low ro))(hl:low≤l.length):rdCells H ⟨b,l.length,0⟩ l.length=some l:=by
 unfold rdCells
 simp only[h,Nat.ble_eq_true_of_le hl,Nat.ble_eq_true_of_le rL,Nat.zero_add,Bool.and_self,cond_true,List.drop_zero,List.take_length]
theorem cells_one{x:AVal}(h:x.one=true):x.cells=[x]:=by cases x <;> first | rfl | (simp[AVal.one]at h)
theorem wr_whole{H:AHeap}{b low i:Nat}{l:List AVal}(h:H.get b=some (.cells l low false))(hl:low≤l.length)(hi:i<l.length){x:AVal}(hx:x.one=true) :
  oStore 1 H (.ptr (some ⟨b,l.length,i⟩)) x=some (H.set b (.cells (l.set i x) l.length false)):=by
 simp only[oStore,cells_one hx,List.length_cons,List.length_nil,Nat.zero_add,Nat.beq_refl,cond_true]
 unfold wrCells
 simp only[h,Nat.ble_eq_true_of_le hl,Nat.beq_refl,List.length_cons,List.length_nil,Nat.zero_add,Nat.ble_eq_true_of_le (show i+1≤l.length by omega),List.all_cons,List.all_nil,hx,Bool.and_self,cond_true]
 congr 3
 rw[List.set_eq_take_append_cons_drop,if_pos hi]
 rfl
def slR(b n:Nat)(r:Room):AVal:=.slice (some ⟨b,n,0⟩) n r
def cellR(b n i:Nat):AVal:=.ptr (some ⟨b,n,i⟩)
def Row(H:AHeap)(b:Nat)(l:List AVal):Prop:=∃low,H.get b=some (.cells l low false)∧low≤l.length
theorem row_load{H:AHeap}{b n:Nat}{l:List AVal}(h:Row H b l)(hn:l.length=n){i:Nat}{x:AVal}(hi:l[i]?=some x):oLoad false 1 H (cellR b n i)=some x:=by
 subst hn
 obtain⟨low,h1,h2⟩:=h
 have hlt:=(List.getElem?_eq_some_iff.1 hi).1
 obtain⟨y,h4,h5⟩:=rd_at (rd_whole h1 h2) hlt
 rw[hi]at h4
 simp only[sJ]at h4
 subst h4
 simp only[Nat.zero_add]at h5
 simp only[oLoad,cellR,h5,cond_false]
theorem row_store{H:AHeap}{b n:Nat}{l:List AVal}(h:Row H b l)(hn:l.length=n){i:Nat}(hi:i<n){x:AVal}(hx:x.one=true) :
  ∃H',oStore 1 H (cellR b n i) x=some H'∧Row H' b (l.set i x)∧H'.next=H.next∧∀c,c≠b→H'.get c=H.get c:=by
 subst hn
 obtain⟨low,h1,h2⟩:=h
 exact⟨_,wr_whole h1 h2 hi hx,⟨l.length,by rw[AHeap.get_set,if_pos rfl],by simp⟩,rfl,fun c hc=>by rw[AHeap.get_set,if_neg hc]⟩
theorem Row.same{H H':AHeap}{b:Nat}{l:List AVal}(h:Row H b l)(e:H'.get b=H.get b):Row H' b l:=by
 obtain⟨low,h1,h2⟩:=h; exact⟨low,e.trans h1,h2⟩
theorem row_push(H:AHeap)(l:List AVal):Row (H.push (.cells l 0 false)) H.next l:=⟨0,by rw[AHeap.get_push,if_pos rfl],Nat.zero_le _⟩
theorem get_push_lt{H:AHeap}{o:AObj}{c:Nat}(h:c<H.next):(H.push o).get c=H.get c:=by rw[AHeap.get_push,if_neg om]
theorem Row.cel{H:AHeap}{b n m:Nat}{l:List AVal}{r:Room}(h:Row H b l)(hn:l.length=n)(hb:b<m):Cel m H (slR b n r) l:=by
 subst hn
 obtain⟨low,h1,h2⟩:=h
 exact .inr ⟨_,_,rfl,hb,rd_whole h1 h2⟩
end Go.Abs.S
namespace Go.Abs.S
open Go.Abs
section
variable {C:CS} {Q:Post} {T:Env} {H:AHeap} {K:Env→AHeap→Prop} {r:List AOper} {d:Option Nat}
theorem aw_skip:wp C .skip Q T H=Q .normal T H:=_root_.id rfl
def wDfr(C:CS)(b:ACode)(Q:Post)(T:Env)(H:AHeap):AVal→Prop
 | .func (.func g) [] l=>wp C b (inDfr fun T' H'=>C (3072+g) l H' fun _ H''=>Q .ret T' H'') T H
 | _=>False
theorem aw_dfr(y:Opd)(b:ACode):wp C (.dfr y b) Q T H=wDfr C b Q T H (sX T y):=by
 refine propext ⟨fun ⟨g,l,hg,h⟩=>by rw[hg]; exact h,fun h=>?_⟩
 unfold wDfr at h
 split at h
 ·rename_i g l hg; exact⟨g,l,hg,h⟩
 ·exact h.elim
theorem wDfr_func(b:ACode)(g:Nat)(l:List AVal):wDfr C b Q T H (.func (.func g) [] l)=wp C b (inDfr fun T' H'=>C (3072+g) l H' fun _ H''=>Q .ret T' H'') T H:=_root_.id rfl
theorem inDfr_ret(K:Env→AHeap→Prop):inDfr K .ret T H=K T H:=_root_.id rfl
theorem inDfr_normal(K:Env→AHeap→Prop):inDfr K .normal T H=K T H:=_root_.id rfl
theorem aw_reg(ops:List AOper):wp C (.reg ops) Q T H=wRegs C ops T H (Q .normal):=_root_.id rfl
theorem aw_seq(a b:ACode):wp C (.seq a b) Q T H=wp C a (inSeq Q (wp C b Q)) T H:=_root_.id rfl
open Classical in
theorem aw_cond(c:Opd)(a b:ACode):wp C (.cond c a b) Q T H=if sX T c=.bool true then wp C a Q T H else if sX T c=.bool false then wp C b Q T H else False:=by
 simp only[wp]
 by_cases h:sX T c=.bool true
 ·rw[if_pos h,h]; simp
 ·rw[if_neg h]
  by_cases h':sX T c=.bool false
  ·rw[if_pos h',h']; simp
  ·rw[if_neg h']
   simp only[eq_iff_iff,iff_false,not_exists,not_and]
   intro v hv
   cases v
   ·exact absurd hv h'
   ·exact absurd hv h
theorem aw_block(id:Nat)(c:ACode):wp C (.block id c) Q T H=wp C c (inBlk id Q) T H:=_root_.id rfl
theorem aw_exit(id:Nat):wp C (.exit id) Q T H=Q (.exit id) T H:=_root_.id rfl
theorem aw_ret:wp C .ret Q T H=Q .ret T H:=_root_.id rfl
theorem inSeq_normal:inSeq Q K .normal T H=K T H:=_root_.id rfl
theorem inSeq_exit(i:Nat):inSeq Q K (.exit i) T H=Q (.exit i) T H:=_root_.id rfl
theorem inSeq_ret:inSeq Q K .ret T H=Q .ret T H:=_root_.id rfl
theorem inBlk_exit(id i:Nat):inBlk id Q (.exit i) T H=if i=id then Q .normal T H else Q (.exit i) T H:=by
 simp only[inBlk]
 by_cases h:i=id
 ·subst h; rw[if_pos rfl,Nat.beq_refl]; rfl
 ·rw[if_neg h,show Nat.beq i id=false by rw[beq_dec]; exact decide_eq_false h]; rfl
theorem inBlk_normal(id:Nat):inBlk id Q .normal T H=Q .normal T H:=_root_.id rfl
theorem inBlk_ret(id:Nat):inBlk id Q .ret T H=Q .ret T H:=_root_.id rfl
theorem aw_loop{c:ACode}(I:Nat→Env→AHeap→Prop)(m:Nat)(h0:I m T H)(h:∀m T H,I m T H→wp C c (inSeq Q fun T' H'=>∃m',m'<m∧I m' T' H') T H):wp C (.loop c) Q T H:=⟨I,⟨m,h0⟩,h⟩
def OptK(o:Option AVal)(C:CS)(r:List AOper)(T:Env)(d:Option Nat)(H:AHeap)(K:Env→AHeap→Prop):Prop:=OptP o fun v=>wRegs C r (upO T d v) H K
def OptH(o:Option (AVal×AHeap))(C:CS)(r:List AOper)(T:Env)(d:Option Nat)(K:Env→AHeap→Prop):Prop:=OptP o fun p=>wRegs C r (upO T d p.1) p.2 K
def OptS(o:Option AHeap)(C:CS)(r:List AOper)(T:Env)(d:Option Nat)(K:Env→AHeap→Prop):Prop:=OptP o fun H'=>wRegs C r (upO T d undefA) H' K
def kont(C:CS)(r:List AOper)(T:Env)(d:Option Nat)(K:Env→AHeap→Prop):AVal→AHeap→Prop:=fun v H'=>wRegs C r (upO T d v) H' K
theorem OptK_some(v:AVal):OptK (some v) C r T d H K=wRegs C r (upO T d v) H K:=OptP_some _ _
theorem OptH_some(v:AVal)(H':AHeap):OptH (some (v,H')) C r T d K=wRegs C r (upO T d v) H' K:=OptP_some _ _
theorem OptS_some(H':AHeap):OptS (some H') C r T d K=wRegs C r (upO T d undefA) H' K:=OptP_some _ _
theorem kont_app(v:AVal):kont C r T d K v H=wRegs C r (upO T d v) H K:=_root_.id rfl
theorem ar_nil:wRegs C [] T H K=K T H:=_root_.id rfl
open Classical in
theorem ar_guard(o:AOp)(t:Nat)(b:Bool):wRegs C (⟨d,o,some (t,b)⟩::r) T H K=if T t=.bool b then wRegs C (⟨d,o,none⟩::r) T H K else wRegs C r (upO T d undefA) H K:=by
 simp only[wRegs,sG_lt T t]
 by_cases h:T t=.bool b
 ·rw[if_pos h,h]; cases b <;> rfl
 ·rw[if_neg h]
  have:sGv b (T t)=false:=by
   unfold sGv
   cases hv:T t <;> simp only[gVb]
   rename_i v
   rw[hv]at h
   cases b <;> cases v <;> simp at h ⊢
  rw[this]; rfl
theorem ar_mv(x:Opd):wRegs C (⟨d,.mv x,none⟩::r) T H K=wRegs C r (upO T d (sX T x)) H K:=_root_.id rfl
open Classical in
theorem ar_pick(c a b:Opd):wRegs C (⟨d,.pick c a b,none⟩::r) T H K=if sX T c=.bool true then wRegs C r (upO T d (sX T a)) H K else if sX T c=.bool false then wRegs C r (upO T d (sX T b)) H K else False:=by
 simp only[wRegs,sG,wOp,cond_true]
 by_cases h:sX T c=.bool true
 ·rw[if_pos h,h]; simp
 ·rw[if_neg h]
  by_cases h':sX T c=.bool false
  ·rw[if_pos h',h']; simp
  ·rw[if_neg h']
   simp only[eq_iff_iff,iff_false,not_exists,not_and]
   intro v hv
   cases v
   ·exact absurd hv h'
   ·exact absurd hv h
theorem ar_new(z:List AVal):wRegs C (⟨d,.new z,none⟩::r) T H K=wRegs C r (upO T d (oNew H z).1) (oNew H z).2 K:=_root_.id rfl
theorem ar_box(x:Opd):wRegs C (⟨d,.box x,none⟩::r) T H K=wRegs C r (upO T d (oNew H (sX T x).cells).1) (oNew H (sX T x).cells).2 K:=_root_.id rfl
theorem ar_build(z:List AVal)(ps:List (Nat×Nat×Opd)):wRegs C (⟨d,.build z ps,none⟩::r) T H K=OptK (aBuild z (sXP T ps)) C r T d H K:=_root_.id rfl
theorem ar_buildSl(n:Nat)(z:List AVal)(ps:List (Nat×Nat×Opd)):wRegs C (⟨d,.buildSl n z ps,none⟩::r) T H K=OptH (aBuildSl n z H (sXP T ps)) C r T d K:=_root_.id rfl
theorem ar_load(a:Bool)(n:Nat)(x:Opd):wRegs C (⟨d,.load a n x,none⟩::r) T H K=OptK (oLoad a n H (sX T x)) C r T d H K:=_root_.id rfl
theorem ar_store(n:Nat)(a x:Opd):wRegs C (⟨d,.store n a x,none⟩::r) T H K=OptS (oStore n H (sX T a) (sX T x)) C r T d K:=_root_.id rfl
theorem ar_nilChk(x:Opd):wRegs C (⟨d,.nilChk x,none⟩::r) T H K=OptK (aNilChk (sX T x)) C r T d H K:=_root_.id rfl
theorem ar_bin(op:BinOp)(x y:Opd):wRegs C (⟨d,.bin op x y,none⟩::r) T H K=OptK (aBin op (sX T x) (sX T y)) C r T d H K:=_root_.id rfl
theorem ar_un(op:UnOp)(x:Opd):wRegs C (⟨d,.un op x,none⟩::r) T H K=OptK (aUn op (sX T x)) C r T d H K:=_root_.id rfl
theorem ar_conv(k:IntKind)(x:Opd):wRegs C (⟨d,.conv k x,none⟩::r) T H K=OptK (aConv k (sX T x)) C r T d H K:=_root_.id rfl
theorem ar_convSB(x:Opd):wRegs C (⟨d,.convSB x,none⟩::r) T H K=OptH (aSB H (sX T x)) C r T d K:=_root_.id rfl
theorem ar_convBS(x:Opd):wRegs C (⟨d,.convBS x,none⟩::r) T H K=OptK (aBS H (sX T x)) C r T d H K:=_root_.id rfl
theorem ar_mkFunc(fn:Fn)(a b:List Opd):wRegs C (⟨d,.mkFunc fn a b,none⟩::r) T H K=wRegs C r (upO T d (.func fn (sXs T a) (sXs T b))) H K:=_root_.id rfl
theorem ar_mkIface(t:TypeId)(x:Opd):wRegs C (⟨d,.mkIface t x,none⟩::r) T H K=wRegs C r (upO T d (.iface t (sX T x))) H K:=_root_.id rfl
theorem ar_mkSlice(b:Nat)(z:List AVal)(l c:Opd):wRegs C (⟨d,.mkSlice b z l c,none⟩::r) T H K=OptH (aMake b z H (sX T l) (sX T c)) C r T d K:=_root_.id rfl
theorem ar_sl(n:Nat)(x:Opd)(lo hi mx:Option Opd):wRegs C (⟨d,.sl n x lo hi mx,none⟩::r) T H K=OptK (aSl n (sX T x) (sXO T lo) (sXO T hi) (sXO T mx)) C r T d H K:=_root_.id rfl
theorem ar_slStr(x:Opd)(lo hi:Option Opd):wRegs C (⟨d,.slStr x lo hi,none⟩::r) T H K=OptK (aSlStr (sX T x) (sXO T lo) (sXO T hi)) C r T d H K:=_root_.id rfl
theorem ar_fieldA(o:Nat)(x:Opd):wRegs C (⟨d,.fieldA o x,none⟩::r) T H K=OptK (aField o (sX T x)) C r T d H K:=_root_.id rfl
theorem ar_field(a:Bool)(n o:Nat)(x:Opd):wRegs C (⟨d,.field a n o x,none⟩::r) T H K=OptK (aFieldV a n o (sX T x)) C r T d H K:=_root_.id rfl
theorem ar_idxA(n:Nat)(x i:Opd):wRegs C (⟨d,.idxA n x i,none⟩::r) T H K=OptK (aIdxA n (sX T x) (sX T i)) C r T d H K:=_root_.id rfl
theorem ar_idxArr(m n:Nat)(x i:Opd):wRegs C (⟨d,.idxArr m n x i,none⟩::r) T H K=OptK (aIdxArr m n (sX T x) (sX T i)) C r T d H K:=_root_.id rfl
theorem ar_idx(m n:Nat)(a:Bool)(x i:Opd):wRegs C (⟨d,.idx m n a x i,none⟩::r) T H K=OptK (aIdx m n a (sX T x) (sX T i)) C r T d H K:=_root_.id rfl
theorem ar_idxS(x i:Opd):wRegs C (⟨d,.idxS x i,none⟩::r) T H K=OptK (aIdxS (sX T x) (sX T i)) C r T d H K:=_root_.id rfl
theorem ar_extract(i:Nat)(x:Opd):wRegs C (⟨d,.extract i x,none⟩::r) T H K=OptK (aExtract i (sX T x)) C r T d H K:=_root_.id rfl
theorem ar_append(n b:Nat)(s x:Opd):wRegs C (⟨d,.append n b s x,none⟩::r) T H K=OptH (aAppend n b H (sX T s) (sX T x)) C r T d K:=_root_.id rfl
theorem ar_len(s:Bool)(x:Opd):wRegs C (⟨d,.len s x,none⟩::r) T H K=OptK (aLenK s (sX T x)) C r T d H K:=_root_.id rfl
theorem ar_call(f:FuncId)(args:List Opd):wRegs C (⟨d,.call f args,none⟩::r) T H K=C f (sXs T args) H (kont C r T d K):=_root_.id rfl
def callvP(C:CS)(f:AVal)(args:List AVal)(H:AHeap)(K:AVal→AHeap→Prop):Prop:=∃g a b,f=.func (.func g) a b∧Nat.blt g BIG=true∧C g (a++args++b) H K
theorem callvP_func(g:Nat)(a b args:List AVal)(K:AVal→AHeap→Prop)(hg:g<1024):callvP C (.func (.func g) a b) args H K=C g (a++args++b) H K:=by
 simp only[callvP,AVal.func.injEq,Fn.func.injEq]
 apply propext
 constructor
 ·rintro ⟨g,a,b,⟨rfl,rfl,rfl⟩,_,h⟩; exact h
 ·intro h; exact⟨_,_,_,⟨rfl,rfl,rfl⟩,Nat.ble_eq_true_of_le hg,h⟩
theorem ar_callv(f:Opd)(args:List Opd):wRegs C (⟨d,.callv f args,none⟩::r) T H K=callvP C (sX T f) (sXs T args) H (kont C r T d K):=_root_.id rfl
theorem ar_pf(f:PF)(xs:List Opd):wRegs C (⟨d,.pf f xs,none⟩::r) T H K=OptK (aPf f (sXs T xs)) C r T d H K:=_root_.id rfl
theorem ar_hf(f:HF)(xs:List Opd):wRegs C (⟨d,.hf f xs,none⟩::r) T H K=OptH (aHf f H (sXs T xs)) C r T d K:=_root_.id rfl
theorem ar_slA(m n:Nat)(x:Opd)(lo hi mx:Option Opd):wRegs C (⟨d,.slA m n x lo hi mx,none⟩::r) T H K=OptK (aSlArr m n (sX T x) (sXO T lo) (sXO T hi) (sXO T mx)) C r T d H K:=_root_.id rfl
theorem upO_some(i:Nat)(v:AVal):upO T (some i) v=up T i v:=_root_.id rfl
theorem upO_none(v:AVal):upO T none v=T:=_root_.id rfl
theorem sX_t(i:Nat):sX T (.t i)=T i:=_root_.id rfl
theorem sX_c(v:AVal):sX T (.c v)=v:=_root_.id rfl
theorem sX_f(i:Nat):sX T (.f i)=.func (.func i) [] []:=_root_.id rfl
theorem fin_ret(res:List ARes)(K:AVal→AHeap→Prop):fin res K .ret T H=OptP (wRes T H res) fun l=>K (aresV l) H:=_root_.id rfl
theorem fin_t(i:Nat)(K:AVal→AHeap→Prop):fin [.t i] K .ret T H=K (T i) H:=by
 simp only[fin,wRes,OptP_some]; rfl
theorem fin_t2(i j:Nat)(K:AVal→AHeap→Prop):fin [.t i,.t j] K .ret T H=K (.tuple [T i,T j]) H:=by
 simp only[fin,wRes,OptP_some]; rfl
theorem fin_t3(i j k:Nat)(K:AVal→AHeap→Prop):fin [.t i,.t j,.t k] K .ret T H=K (.tuple [T i,T j,T k]) H:=by
 simp only[fin,wRes,OptP_some]; rfl
def CMono(C:CS):Prop:=∀f a H (K K':AVal→AHeap→Prop),(∀v H,K v H→K' v H)→C f a H K→C f a H K'
theorem calls_mono(P:Program)(N:ANat):CMono (ACalls P N):=fun _ _ _ _ _ h hc=>hc.mono h
theorem wOp_mono(hC:CMono C){K K':AVal→AHeap→Prop}(h:∀v H,K v H→K' v H){o:AOp}(hw:wOp C T H K o):wOp C T H K' o:=by
 cases o
 case call f args=>exact hC _ _ _ _ _ h hw
 case callv f args=>obtain⟨g,a,b,h1,h0,h2⟩:=hw; exact⟨g,a,b,h1,h0,hC _ _ _ _ _ h h2⟩
 case pick c a b=>obtain⟨v,h1,h2⟩:=hw; exact⟨v,h1,h _ _ h2⟩
 case bad=>exact hw
 all_goals first
  | exact h _ _ hw
  | exact OptP.mono hw fun v hv=>h _ _ hv
theorem wTr_regs(hC:CMono C):∀(l:List AOper) {T:Env} {H:AHeap} {K:List (AVal×AHeap)→Env→AHeap→Prop} {K':Env→AHeap→Prop},(∀ss T H,K' T H→K ss T H)→wRegs C l T H K'→wTr C l T H K:=by
 intro l
 induction l with
 | nil=>intro T H K K' h hw; exact h _ _ _ hw
 | cons o l ih=>
  intro T H K K' h hw
  simp only[wRegs,wTr]at hw ⊢
  cases hg:sG T o.guard with
  | false=>rw[hg]at hw; exact ih (fun ss T H=>h _ T H) hw
  | true=>
   rw[hg]at hw
   simp only[cond_true]at hw ⊢
   exact wOp_mono hC (fun v H' hw=>ih (fun ss T H=>h _ T H) hw) hw
def allNil:List (List Nat)→Bool
 | []=>true
 | []::r=>allNil r
 | _::_=>false
theorem ck_nil{hs:List AHeap}:∀(l:List AOper) (ps:List (List Nat)) (ss:List (AVal×AHeap)) (T:Env),allNil ps=true→wCk hs l ps ss T
 | [],_,_,_,_=>trivial
 | o::l,[],_,_,_=>trivial
 | o::l,[]::ps,[],_,_=>trivial
 | o::l,[]::ps,(v,Hv)::ss,T,h=>⟨fun p hp=>by simp at hp,ck_nil l ps ss _ h⟩
 | o::l,(q::p)::ps,_,_,h=>by simp[allNil]at h
def noNew:List AOper→Bool
 | []=>true
 | o::r=>match newOf o.op with
  | some _=>false
  | none=>noNew r
theorem claims_noNew:∀(l:List AOper),noNew l=true→∀(b:Nat) (H:AHeap),claims b l=l∧reserves H l=H
 | [],_,b,H=>⟨rfl,rfl⟩
 | o::r,h,b,H=>by
  cases hz:newOf o.op with
  | some p=>simp[noNew,hz]at h
  | none=>
   simp only[noNew,hz]at h
   exact⟨by simp only[claims,hz,(claims_noNew r h b H).1],by simp only[reserves,hz,(claims_noNew r h b H).2]⟩
theorem wTr_mono(hC:CMono C):∀(l:List AOper) {T:Env} {H:AHeap} {K K':List (AVal×AHeap)→Env→AHeap→Prop},(∀ss T H,K ss T H→K' ss T H)→wTr C l T H K→wTr C l T H K':=by
 intro l
 induction l with
 | nil=>intro T H K K' h hw; exact h _ _ _ hw
 | cons o l ih=>
  intro T H K K' h hw
  simp only[wTr]at hw ⊢
  cases hg:sG T o.guard with
  | false=>rw[hg]at hw; exact ih (fun ss T H=>h _ T H) hw
  | true=>
   rw[hg]at hw
   simp only[cond_true]at hw ⊢
   exact wOp_mono hC (fun v H' hw=>ih (fun ss T H=>h _ T H) hw) hw
theorem wRegs_mono(hC:CMono C):∀(l:List AOper) {T:Env} {H:AHeap} {K K':Env→AHeap→Prop},(∀T H,K T H→K' T H)→wRegs C l T H K→wRegs C l T H K':=by
 intro l
 induction l with
 | nil=>intro T H K K' h hw; exact h _ _ hw
 | cons o l ih=>
  intro T H K K' h hw
  simp only[wRegs]at hw ⊢
  cases hg:sG T o.guard with
  | false=>rw[hg]at hw; exact ih h hw
  | true=>
   rw[hg]at hw
   simp only[cond_true]at hw ⊢
   exact wOp_mono hC (fun v H' hw=>ih h hw) hw
theorem inSeq_mono{Q Q':Post}{K K':Env→AHeap→Prop}(h:∀e T H,Q e T H→Q' e T H)(hk:∀T H,K T H→K' T H)(e:AEx)(T:Env)(H:AHeap)(hq:inSeq Q K e T H):inSeq Q' K' e T H:=by
 cases e with
 | normal=>exact hk _ _ hq
 | exit i=>exact h _ _ _ hq
 | ret=>exact h _ _ _ hq
theorem wp_mono'(hC:CMono C):∀(c:ACode) {Q Q':Post} {T:Env} {H:AHeap},(∀e T H,Q e T H→Q' e T H)→wp C c Q T H→wp C c Q' T H:=by
 intro c
 induction c with
 | skip=>intro Q Q' T H h hw; exact h _ _ _ hw
 | reg l=>intro Q Q' T H h hw; exact wRegs_mono hC l (h .normal) hw
 | draw l chk=>intro Q Q' T H h hw; exact wTr_mono hC _ (fun ss T' H' hk=>⟨hk.1,h _ _ _ hk.2⟩) hw
 | seq a b iha ihb=>intro Q Q' T H h hw; exact iha (inSeq_mono h fun T H hk=>ihb h hk) hw
 | cond c a b iha ihb=>
  intro Q Q' T H h hw
  obtain⟨v,h1,h2⟩:=hw
  refine⟨v,h1,?_⟩
  cases v with
  | true=>exact iha h h2
  | false=>exact ihb h h2
 | block id c ih=>
  intro Q Q' T H h hw
  refine ih (fun e T H hk=>?_) hw
  cases e with
  | exit j=>
   simp only[inBlk]at hk ⊢
   cases hb:Nat.beq j id with
   | true=>rw[hb]at hk; exact h _ _ _ hk
   | false=>rw[hb]at hk; exact h _ _ _ hk
  | normal=>exact h _ _ _ hk
  | ret=>exact h _ _ _ hk
 | loop c ih=>
  intro Q Q' T H h hw
  obtain⟨I,hm,hI⟩:=hw
  exact⟨I,hm,fun m T H hi=>ih (inSeq_mono h fun _ _ hk=>hk) (hI m T H hi)⟩
 | exit id=>intro Q Q' T H h hw; exact h _ _ _ hw
 | ret=>intro Q Q' T H h hw; exact h _ _ _ hw
 | dfr y b ih=>
  intro Q Q' T H h hw
  obtain⟨g,l,hg,hw⟩:=hw
  refine⟨g,l,hg,ih (fun e T H hk=>?_) hw⟩
  cases e with
  | exit i=>exact hk
  | normal=>exact hC _ _ _ _ _ (fun _ _ q=>h _ _ _ q) hk
  | ret=>exact hC _ _ _ _ _ (fun _ _ q=>h _ _ _ q) hk
def norm:ACode→ACode
 | .draw l chk=>bif allNil chk&&noNew l then .reg l else .draw l chk
 | .seq a b=>.seq (norm a) (norm b)
 | .cond c a b=>.cond c (norm a) (norm b)
 | .block id c=>.block id (norm c)
 | .loop c=>.loop (norm c)
 | .dfr y b=>.dfr y (norm b)
 | c=>c
theorem wp_norm(hC:CMono C):∀(c:ACode) {Q:Post} {T:Env} {H:AHeap},wp C (norm c) Q T H→wp C c Q T H:=by
 intro c
 induction c with
 | skip=>intro Q T H hw; exact hw
 | reg l=>intro Q T H hw; exact hw
 | draw l chk=>
  intro Q T H hw
  simp only[norm]at hw
  cases hb:allNil chk&&noNew l with
  | false=>rw[hb]at hw; exact hw
  | true=>
   rw[hb]at hw
   simp only[Bool.and_eq_true]at hb
   simp only[wp,wDraw,(claims_noNew l hb.2 H.next H).1,(claims_noNew l hb.2 H.next H).2]
   exact wTr_regs hC l (K:=fun ss T' H'=>wCk (H::ss.map (·.2)) l chk ss T∧Q .normal T' H') (fun ss T' H' hk=>⟨ck_nil l chk ss T hb.1,hk⟩) hw
 | seq a b iha ihb=>intro Q T H hw; exact wp_mono' hC a (inSeq_mono (fun _ _ _ h=>h) fun T H hk=>ihb hk) (iha hw)
 | cond c a b iha ihb=>
  intro Q T H hw
  obtain⟨v,h1,h2⟩:=hw
  refine⟨v,h1,?_⟩
  cases v with
  | true=>exact iha h2
  | false=>exact ihb h2
 | block id c ih=>intro Q T H hw; exact ih hw
 | loop c ih=>
  intro Q T H hw
  obtain⟨I,hm,hI⟩:=hw
  exact⟨I,hm,fun m T H hi=>ih (hI m T H hi)⟩
 | exit id=>intro Q T H hw; exact hw
 | ret=>intro Q T H hw; exact hw
 | dfr y b ih=>
  intro Q T H hw
  obtain⟨g,l,hg,hw⟩:=hw
  exact⟨g,l,hg,ih hw⟩
def cN(P:Program)(f:FuncId):Option AFn:=match eFn P f with
 | some c=>some ⟨c.nt,norm c.body,c.res⟩
 | none=>none
theorem acalls_ofN{P:Program}{N:ANat}{f:FuncId}{c:AFn}{args:List AVal}{H:AHeap}{K:AVal→AHeap→Prop}(hn:N.is f=false)(hc:cN P f=some c)(hl:Nat.ble args.length c.nt=true)(h:wp (ACalls P N) c.body (fin c.res K) (argE args) H):ACalls P N f args H K:=by
 unfold cN at hc
 cases hf:eFn P f with
 | none=>rw[hf]at hc; simp at hc
 | some c'=>
  rw[hf]at hc
  simp only[sJ]at hc
  subst hc
  exact acalls_of hn hf hl (wp_norm (calls_mono P N) _ h)
theorem aw_drawC{l:List AOper}{chk:List (List Nat)}(h2:noNew l=true)(h:wTr C l T H fun ss T' H'=>wCk (H::ss.map (·.2)) l chk ss T∧Q .normal T' H'):wp C (.draw l chk) Q T H:=by
 simp only[wp,wDraw,(claims_noNew l h2 H.next H).1,(claims_noNew l h2 H.next H).2]
 exact h
end
theorem argE_0(a:AVal)(r:List AVal):argE (a::r) 0=a:=_root_.id rfl
theorem argE_1(a b:AVal)(r:List AVal):argE (a::b::r) 1=b:=_root_.id rfl
theorem argE_2(a b c:AVal)(r:List AVal):argE (a::b::c::r) 2=c:=_root_.id rfl
theorem argE_3(a b c d:AVal)(r:List AVal):argE (a::b::c::d::r) 3=d:=_root_.id rfl
theorem argE_4(a b c d e:AVal)(r:List AVal):argE (a::b::c::d::e::r) 4=e:=_root_.id rfl
theorem bin_lss(k:IntKind)(a b:Int):aBin .lss (.int k a) (.int k b)=some (.bool (decide (a<b))):=by
 simp[aBin,isShift,aIntF_eq,aInt]
theorem bin_leq(k:IntKind)(a b:Int):aBin .leq (.int k a) (.int k b)=some (.bool (decide (a≤b))):=by
 simp[aBin,isShift,aIntF_eq,aInt]
theorem bin_gtr(k:IntKind)(a b:Int):aBin .gtr (.int k a) (.int k b)=some (.bool (decide (b<a))):=by
 simp[aBin,isShift,aIntF_eq,aInt]
theorem bin_geq(k:IntKind)(a b:Int):aBin .geq (.int k a) (.int k b)=some (.bool (decide (b≤a))):=by
 simp[aBin,isShift,aIntF_eq,aInt]
theorem bin_eql(k:IntKind)(a b:Int):aBin .eql (.int k a) (.int k b)=some (.bool (decide (a=b))):=by
 simp only[aBin,isShift,aIntF_eq,aInt,cond_false,if_true]
 by_cases h:a=b <;> simp[h]
theorem bin_neq(k:IntKind)(a b:Int):aBin .neq (.int k a) (.int k b)=some (.bool (!decide (a=b))):=by
 simp only[aBin,isShift,aIntF_eq,aInt,cond_false,if_true]
 by_cases h:a=b <;> simp[h,bne]
theorem bin_add(k:IntKind)(a b:Int):aBin .add (.int k a) (.int k b)=some (.int k (k.wrap (a+b))):=by
 simp[aBin,isShift,aIntF_eq,aInt]
theorem bin_sub(k:IntKind)(a b:Int):aBin .sub (.int k a) (.int k b)=some (.int k (k.wrap (a-b))):=by
 simp[aBin,isShift,aIntF_eq,aInt]
theorem bin_mul(k:IntKind)(a b:Int):aBin .mul (.int k a) (.int k b)=some (.int k (k.wrap (a*b))):=by
 simp[aBin,isShift,aIntF_eq,aInt]
theorem bin_rem(k:IntKind)(a b:Int)(h:b≠0):aBin .rem (.int k a) (.int k b)=some (.int k (a.tmod b)):=by
 simp[aBin,isShift,aIntF_eq,aInt,h]
theorem wrap1(a:Nat)(h:a+1≤9223372036854775807):IntKind.i64.wrap ((a:Int)+1)=((a+1:Nat):Int):=by
 rw[IntKind.wrap_i64]; omega
theorem isSome_of_lt{α:Type}{l:List α}{i:Nat}(h:i<l.length):∃x,l[i]?=some x:=⟨_,List.getElem?_eq_getElem h⟩
theorem wrap64{a:Int}(h1:-9223372036854775808≤a)(h2:a≤9223372036854775807):IntKind.i64.wrap a=a:=by
 rw[IntKind.wrap_i64]; omega
end Go.Abs.S
namespace Go.Abs
section
variable {P:Program} {Prot:Gh} {w0:World} {ρ:Pl} {H:AHeap} {w:World}
end
end Go.Abs
namespace Go.Abs.S
open Go.Abs
section
variable {C:CS} {T:Env} {H:AHeap} {r:List AOper} {d:Option Nat}
abbrev KT:=List (AVal×AHeap)→Env→AHeap→Prop
variable {K:KT}
def consK(v:AVal)(H:AHeap)(K:KT):KT:=fun ss=>K ((v,H)::ss)
theorem consK_app(v:AVal)(H':AHeap)(ss:List (AVal×AHeap)):consK v H' K ss T H=K ((v,H')::ss) T H:=_root_.id rfl
def OptKT(o:Option AVal)(C:CS)(r:List AOper)(T:Env)(d:Option Nat)(H:AHeap)(K:KT):Prop:=OptP o fun v=>wTr C r (upO T d v) H (consK v H K)
def OptHT(o:Option (AVal×AHeap))(C:CS)(r:List AOper)(T:Env)(d:Option Nat)(K:KT):Prop:=OptP o fun p=>wTr C r (upO T d p.1) p.2 (consK p.1 p.2 K)
def OptST(o:Option AHeap)(C:CS)(r:List AOper)(T:Env)(d:Option Nat)(K:KT):Prop:=OptP o fun H'=>wTr C r (upO T d undefA) H' (consK undefA H' K)
def kontT(C:CS)(r:List AOper)(T:Env)(d:Option Nat)(K:KT):AVal→AHeap→Prop:=fun v H'=>wTr C r (upO T d v) H' (consK v H' K)
theorem OptKT_some(v:AVal):OptKT (some v) C r T d H K=wTr C r (upO T d v) H (consK v H K):=OptP_some _ _
theorem OptHT_some(v:AVal)(H':AHeap):OptHT (some (v,H')) C r T d K=wTr C r (upO T d v) H' (consK v H' K):=OptP_some _ _
theorem OptST_some(H':AHeap):OptST (some H') C r T d K=wTr C r (upO T d undefA) H' (consK undefA H' K):=OptP_some _ _
theorem kontT_app(v:AVal):kontT C r T d K v H=wTr C r (upO T d v) H (consK v H K):=_root_.id rfl
theorem tr_nil:wTr C [] T H K=K [] T H:=_root_.id rfl
open Classical in
theorem tr_guard(o:AOp)(t:Nat)(b:Bool):wTr C (⟨d,o,some (t,b)⟩::r) T H K=if T t=.bool b then wTr C (⟨d,o,none⟩::r) T H K else wTr C r (upO T d undefA) H (consK undefA H K):=by
 simp only[wTr,sG_lt T t]
 by_cases h:T t=.bool b
 ·rw[if_pos h,h]; cases b <;> rfl
 ·rw[if_neg h]
  have:sGv b (T t)=false:=by
   unfold sGv
   cases hv:T t <;> simp only[gVb]
   rename_i v
   rw[hv]at h
   cases b <;> cases v <;> simp at h ⊢
  rw[this]; rfl
open Classical in
theorem tr_pick(c a b:Opd):wTr C (⟨d,.pick c a b,none⟩::r) T H K=if sX T c=.bool true then wTr C r (upO T d (sX T a)) H (consK (sX T a) H K) else if sX T c=.bool false then wTr C r (upO T d (sX T b)) H (consK (sX T b) H K) else False:=by
 simp only[wTr,sG,wOp,cond_true]
 by_cases h:sX T c=.bool true
 ·rw[if_pos h,h]; simp; rfl
 ·rw[if_neg h]
  by_cases h':sX T c=.bool false
  ·rw[if_pos h',h']; simp; rfl
  ·rw[if_neg h']
   simp only[eq_iff_iff,iff_false,not_exists,not_and]
   intro v hv
   cases v
   ·exact absurd hv h'
   ·exact absurd hv h
theorem tr_mv(x:Opd):wTr C (⟨d,.mv x,none⟩::r) T H K=wTr C r (upO T d (sX T x)) H (consK (sX T x) H K):=_root_.id rfl
theorem tr_new(z:List AVal):wTr C (⟨d,.new z,none⟩::r) T H K=wTr C r (upO T d (oNew H z).1) (oNew H z).2 (consK (oNew H z).1 (oNew H z).2 K):=_root_.id rfl
theorem tr_box(x:Opd):wTr C (⟨d,.box x,none⟩::r) T H K=wTr C r (upO T d (oNew H (sX T x).cells).1) (oNew H (sX T x).cells).2 (consK (oNew H (sX T x).cells).1 (oNew H (sX T x).cells).2 K):=_root_.id rfl
theorem tr_build(z:List AVal)(ps:List (Nat×Nat×Opd)):wTr C (⟨d,.build z ps,none⟩::r) T H K=OptKT (aBuild z (sXP T ps)) C r T d H K:=_root_.id rfl
theorem tr_buildSl(n:Nat)(z:List AVal)(ps:List (Nat×Nat×Opd)):wTr C (⟨d,.buildSl n z ps,none⟩::r) T H K=OptHT (aBuildSl n z H (sXP T ps)) C r T d K:=_root_.id rfl
theorem tr_load(a:Bool)(n:Nat)(x:Opd):wTr C (⟨d,.load a n x,none⟩::r) T H K=OptKT (oLoad a n H (sX T x)) C r T d H K:=_root_.id rfl
theorem tr_store(n:Nat)(a x:Opd):wTr C (⟨d,.store n a x,none⟩::r) T H K=OptST (oStore n H (sX T a) (sX T x)) C r T d K:=_root_.id rfl
theorem tr_nilChk(x:Opd):wTr C (⟨d,.nilChk x,none⟩::r) T H K=OptKT (aNilChk (sX T x)) C r T d H K:=_root_.id rfl
theorem tr_bin(op:BinOp)(x y:Opd):wTr C (⟨d,.bin op x y,none⟩::r) T H K=OptKT (aBin op (sX T x) (sX T y)) C r T d H K:=_root_.id rfl
theorem tr_un(op:UnOp)(x:Opd):wTr C (⟨d,.un op x,none⟩::r) T H K=OptKT (aUn op (sX T x)) C r T d H K:=_root_.id rfl
theorem tr_conv(k:IntKind)(x:Opd):wTr C (⟨d,.conv k x,none⟩::r) T H K=OptKT (aConv k (sX T x)) C r T d H K:=_root_.id rfl
theorem tr_convSB(x:Opd):wTr C (⟨d,.convSB x,none⟩::r) T H K=OptHT (aSB H (sX T x)) C r T d K:=_root_.id rfl
theorem tr_convBS(x:Opd):wTr C (⟨d,.convBS x,none⟩::r) T H K=OptKT (aBS H (sX T x)) C r T d H K:=_root_.id rfl
theorem tr_mkFunc(fn:Fn)(a b:List Opd):wTr C (⟨d,.mkFunc fn a b,none⟩::r) T H K=wTr C r (upO T d (.func fn (sXs T a) (sXs T b))) H (consK (.func fn (sXs T a) (sXs T b)) H K):=_root_.id rfl
theorem tr_mkIface(t:TypeId)(x:Opd):wTr C (⟨d,.mkIface t x,none⟩::r) T H K=wTr C r (upO T d (.iface t (sX T x))) H (consK (.iface t (sX T x)) H K):=_root_.id rfl
theorem tr_mkSlice(b:Nat)(z:List AVal)(l c:Opd):wTr C (⟨d,.mkSlice b z l c,none⟩::r) T H K=OptHT (aMake b z H (sX T l) (sX T c)) C r T d K:=_root_.id rfl
theorem tr_sl(n:Nat)(x:Opd)(lo hi mx:Option Opd):wTr C (⟨d,.sl n x lo hi mx,none⟩::r) T H K=OptKT (aSl n (sX T x) (sXO T lo) (sXO T hi) (sXO T mx)) C r T d H K:=_root_.id rfl
theorem tr_slStr(x:Opd)(lo hi:Option Opd):wTr C (⟨d,.slStr x lo hi,none⟩::r) T H K=OptKT (aSlStr (sX T x) (sXO T lo) (sXO T hi)) C r T d H K:=_root_.id rfl
theorem tr_fieldA(o:Nat)(x:Opd):wTr C (⟨d,.fieldA o x,none⟩::r) T H K=OptKT (aField o (sX T x)) C r T d H K:=_root_.id rfl
theorem tr_field(a:Bool)(n o:Nat)(x:Opd):wTr C (⟨d,.field a n o x,none⟩::r) T H K=OptKT (aFieldV a n o (sX T x)) C r T d H K:=_root_.id rfl
theorem tr_idxA(n:Nat)(x i:Opd):wTr C (⟨d,.idxA n x i,none⟩::r) T H K=OptKT (aIdxA n (sX T x) (sX T i)) C r T d H K:=_root_.id rfl
theorem tr_idxArr(m n:Nat)(x i:Opd):wTr C (⟨d,.idxArr m n x i,none⟩::r) T H K=OptKT (aIdxArr m n (sX T x) (sX T i)) C r T d H K:=_root_.id rfl
theorem tr_idx(m n:Nat)(a:Bool)(x i:Opd):wTr C (⟨d,.idx m n a x i,none⟩::r) T H K=OptKT (aIdx m n a (sX T x) (sX T i)) C r T d H K:=_root_.id rfl
theorem tr_idxS(x i:Opd):wTr C (⟨d,.idxS x i,none⟩::r) T H K=OptKT (aIdxS (sX T x) (sX T i)) C r T d H K:=_root_.id rfl
theorem tr_extract(i:Nat)(x:Opd):wTr C (⟨d,.extract i x,none⟩::r) T H K=OptKT (aExtract i (sX T x)) C r T d H K:=_root_.id rfl
theorem tr_append(n b:Nat)(s x:Opd):wTr C (⟨d,.append n b s x,none⟩::r) T H K=OptHT (aAppend n b H (sX T s) (sX T x)) C r T d K:=_root_.id rfl
theorem tr_len(s:Bool)(x:Opd):wTr C (⟨d,.len s x,none⟩::r) T H K=OptKT (aLenK s (sX T x)) C r T d H K:=_root_.id rfl
theorem tr_call(f:FuncId)(args:List Opd):wTr C (⟨d,.call f args,none⟩::r) T H K=C f (sXs T args) H (kontT C r T d K):=_root_.id rfl
theorem tr_callv(f:Opd)(args:List Opd):wTr C (⟨d,.callv f args,none⟩::r) T H K=callvP C (sX T f) (sXs T args) H (kontT C r T d K):=_root_.id rfl
theorem tr_pf(f:PF)(xs:List Opd):wTr C (⟨d,.pf f xs,none⟩::r) T H K=OptKT (aPf f (sXs T xs)) C r T d H K:=_root_.id rfl
theorem tr_hf(f:HF)(xs:List Opd):wTr C (⟨d,.hf f xs,none⟩::r) T H K=OptHT (aHf f H (sXs T xs)) C r T d K:=_root_.id rfl
theorem tr_slA(m n:Nat)(x:Opd)(lo hi mx:Option Opd):wTr C (⟨d,.slA m n x lo hi mx,none⟩::r) T H K=OptKT (aSlArr m n (sX T x) (sXO T lo) (sXO T hi) (sXO T mx)) C r T d H K:=_root_.id rfl
theorem ck_nil'(hs:List AHeap)(o:AOper)(l:List AOper)(ps:List (List Nat))(v:AVal)(Hv:AHeap)(ss:List (AVal×AHeap)):wCk hs (o::l) ([]::ps) ((v,Hv)::ss) T=wCk hs l ps ss (upO T o.dst v):=by
 simp[wCk]
def ckP(hs:List AHeap)(ps:List Nat)(T:Env)(o:AOper)(v:AVal):Prop:=∀p∈ps,∃Hp,hs[p]?=some Hp∧(sG T o.guard=true→∃u,wLd T Hp o.op=some u∧aeq u v=true)
theorem ck_cons(hs:List AHeap)(o:AOper)(l:List AOper)(p:Nat)(q:List Nat)(ps:List (List Nat))(v:AVal)(Hv:AHeap)(ss:List (AVal×AHeap)):wCk hs (o::l) ((p::q)::ps) ((v,Hv)::ss) T=(ckP hs (p::q) T o v∧wCk hs l ps ss (upO T o.dst v)):=by
 simp[wCk,ckP]
theorem ck_end(hs:List AHeap)(ps:List (List Nat))(ss:List (AVal×AHeap)):wCk hs [] ps ss T=True:=by
 cases ps <;> simp[wCk]
theorem ckP_nil(hs:List AHeap)(o:AOper)(v:AVal):ckP hs [] T o v=True:=by simp[ckP]
theorem ckP_load(hs:List AHeap)(p:Nat)(q:List Nat)(a:Bool)(n:Nat)(x:Opd)(g:Option (Nat×Bool))(v:AVal):ckP hs (p::q) T ⟨d,.load a n x,g⟩ v=((∃Hp,hs[p]?=some Hp∧(sG T g=true→∃u,oLoad a n Hp (sX T x)=some u∧aeq u v=true))∧ckP hs q T ⟨d,.load a n x,g⟩ v):=by
 simp[ckP,wLd]
theorem aeq_int(k:IntKind)(a:Int):aeq (.int k a) (.int k a)=true:=by simp[aeq,eqF_eq]
end
end Go.Abs.S
namespace Go.Abs.S
open Go.Abs
theorem row_newL(H:AHeap)(l:List AVal){n:Nat}(hn:l.length=n):∃H',oNew H l=(cellR H.next n 0,H')∧Row H' H.next l∧H'.next=H.next+1∧∀c,c≠H.next→H'.get c=H.get c:=by
 subst hn
 exact⟨_,rfl,row_push _ _,rfl,fun c hc=>by rw[AHeap.get_push,if_neg hc]⟩
theorem cells_agg(l:List AVal):(AVal.agg l).cells=l:=_root_.id rfl
theorem ext_0(x:AVal)(r:List AVal):aExtract 0 (.tuple (x::r))=some x:=_root_.id rfl
theorem ext_1(x y:AVal)(r:List AVal):aExtract 1 (.tuple (x::y::r))=some y:=_root_.id rfl
theorem ext_2(x y z:AVal)(r:List AVal):aExtract 2 (.tuple (x::y::z::r))=some z:=_root_.id rfl
theorem arr_idx{b n i:Nat}(h:i<n)(k:IntKind):aIdxArr n 1 (cellR b n 0) (.int k (i:Int))=some (cellR b n i):=by
 show (bif Nat.blt i n then some (AVal.ptr (some ⟨b,n,0+i*1⟩)) else none)=_
 have:Nat.blt i n=true:=by simpa[Nat.blt_eq] using h
 rw[this,Nat.zero_add,Nat.mul_one]; rfl
end Go.Abs.S
namespace Go.Abs.S
open Go.Abs Go.WideShapes Go.ChangeShapes
variable {H:Type} {enc:TypeId×Value→H}
end Go.Abs.S
namespace Go.Abs.S
open Go.Abs
theorem aw_cut{C:CS}{c:ACode}{id:Nat}{Q:Post}{T:Env}{H:AHeap}(F:Env→AHeap→Prop)(hC:CMono C)(h:wp C c (inBlk id (inSeq Q F)) T H)(k:∀T H,F T H→Q .normal T H):wp C c (inBlk id Q) T H:=by
 refine wp_mono' hC c (fun e T H hq=>?_) h
 cases e with
 | normal=>exact k _ _ hq
 | ret=>exact hq
 | exit j=>
  simp only[inBlk]at hq ⊢
  cases hb:Nat.beq j id with
  | true=>rw[hb]at hq; exact k _ _ hq
  | false=>rw[hb]at hq; exact hq
end Go.Abs.S
namespace Go.Abs.S
open Go.Abs
theorem str_len(s:List UInt8):aLenK true (.str s)=some (.int .i64 (s.length:Int)):=_root_.id rfl
theorem str_idx{s:List UInt8}{i:Nat}{b:UInt8}(h:s[i]?=some b)(k:IntKind):aIdxS (.str s) (.int k (i:Int))=some (.int .u8 (b.toNat:Int)):=by
 show (match (s[i]?:Option UInt8) with | some b=>some (AVal.int .u8 b.toNat) | none=>none)=_
 rw[h]
theorem str_eql(x y:List UInt8):aBin .eql (.str x) (.str y)=some (.bool (decide (x=y))):=by
 simp only[aBin,aStr]
 by_cases h:x=y <;> simp[h]
theorem str_neq(x y:List UInt8):aBin .neq (.str x) (.str y)=some (.bool (!decide (x=y))):=by
 simp only[aBin,aStr]
 by_cases h:x=y <;> simp[h]
theorem conv_in(k k':IntKind)(n:Int):aConv k (.int k' n)=some (.int k (k.wrap n)):=by
 simp only[aConv,wrF_eq]
theorem un_not(b:Bool):aUn .not (.bool b)=some (.bool (!b)):=_root_.id rfl
theorem bin_quo(k:IntKind)(a b:Int)(h:b≠0):aBin .quo (.int k a) (.int k b)=some (.int k (k.wrap (a.tdiv b))):=by
 simp[aBin,isShift,aIntF_eq,aInt,h]
theorem bin_shl(k k':IntKind)(a:Int)(b:Nat):aBin .shl (.int k a) (.int k' (b:Int))=some (.int k (k.wrap (a*2 ^ (min b k.bits)))):=by
 simp only[aBin,isShift,cond_true,aShiftF_eq,aShift]
 rw[if_neg om]; rfl
theorem bin_shr(k k':IntKind)(a:Int)(b:Nat):aBin .shr (.int k a) (.int k' (b:Int))=some (.int k (a.fdiv (2 ^ (min b k.bits)))):=by
 simp only[aBin,isShift,cond_true,aShiftF_eq,aShift]
 rw[if_neg om]; rfl
theorem undef_bool(b:Bool):(undefA=AVal.bool b)=False:=by simp[undefA]
theorem wrapU8{a:Int}(h1:0≤a)(h2:a≤255):IntKind.u8.wrap a=a:=IntWalk.u8_in _ ⟨h1,h2⟩
end Go.Abs.S
namespace Go.Abs.S
open Go.Abs
theorem ofInt_nat(n m:Nat):(BitVec.ofInt m (n:Int)).toNat=n % 2 ^ m:=by
 rw[BitVec.toNat_ofInt]
 omega
theorem or_low(n a:Nat){b:Nat}(h:b<2 ^ n):a*2 ^ n ||| b=a*2 ^ n+b:=by
 rw[Nat.mul_comm,Nat.two_pow_add_eq_or_of_lt h]
theorem pf_min(a b:Int):aPf (.mm false) [.int .i64 a,.int .i64 b]=some (.int .i64 (if b<a then b else a)):=by
 simp only[aPf,aMMs,aMM,aMM1,ltF_eq,cond_false]
 by_cases h:b<a <;> simp[h]
end Go.Abs.S
