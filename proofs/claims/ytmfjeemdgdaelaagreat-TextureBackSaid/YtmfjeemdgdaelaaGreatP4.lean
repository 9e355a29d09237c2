/- Part of a proof (D4 D5 A11 A11b A11c A11d); no condition. -/
import Derived.LoopN
import Derived.Recover
import Derived.Test.YtmfjeemdgdaelaaGreatP3
set_option linter.unusedSimpArgs false
set_option linter.unusedVariables false
set_option linter.unnecessarySimpa false
namespace Go.Abs
def unl(m:Nat→Bool):Nat→Nat
 | 0=>0
 | n+1=>unl m n+(bif m n then 0 else 1)
theorem unl_zero{m:Nat→Bool}:∀{n:Nat},unl m n=0→∀i,i<n→m i=true
 | 0,_,i,h=>om
 | n+1,h,i,hi=>by
  simp only[unl]at h
  cases hb:m n with
  | true=>
   by_cases e:i=n
   ·rw[e]; exact hb
   ·exact unl_zero (n:=n) (by rw[hb]at h; simpa using h) i om
  | false=>rw[hb]at h; simp at h
theorem unl_all{m:Nat→Bool}:∀{n:Nat},(∀i,i<n→m i=true)→unl m n=0
 | 0,_=>rfl
 | n+1,h=>by simp only[unl,unl_all (n:=n) fun i hi=>h i om,h n om,cond_true]
theorem unl_same{m m':Nat→Bool}:∀{n:Nat},(∀i,i<n→m i=m' i)→unl m n=unl m' n
 | 0,_=>rfl
 | n+1,h=>by simp only[unl,unl_same (n:=n) fun i hi=>h i om,h n om]
theorem unl_set{m m':Nat→Bool}{i:Nat}:∀{n:Nat},i<n→m i=false→m' i=true→(∀j,j≠i→m' j=m j)→unl m' n+1=unl m n
 | 0,h,_,_,_=>om
 | n+1,h,h1,h2,h3=>by
  simp only[unl]
  by_cases e:i=n
  ·subst e
   rw[h1,h2,unl_same (m:=m') (m':=m) fun j hj=>h3 j om]
   simp
  ·have:=unl_set (n:=n) om h1 h2 h3
   rw[h3 n (fun q=>e q.symm)]
   omega
section
variable {tb:FuncId→Bool} {call:FuncId→List AVal→AHeap→Option (AVal×AHeap)}
theorem chk_at{hs:List AHeap}:∀(l:List AOper) (pss:List (List Nat)) (ss:List (AVal×AHeap)) (T:Tr AVal) (k:Nat),chkRun tb hs l pss ss T=true →
  ∀j o ps v H',l[j]?=some o→pss[j]?=some ps→ss[j]?=some (v,H')→∀p∈ps,∃Hp,hs[p]?=some Hp ∧
   (gOK (tsel (fun i=>Nat.blt i (k+j)) k l ss T) o.guard=true→∃H2,aop tb (tsel (fun i=>Nat.blt i (k+j)) k l ss T) Hp o.op=some (.val v,H2)):=by
 intro l
 induction l with
 | nil=>intro pss ss T k _ j o ps v H' h; simp at h
 | cons o r ih=>
  intro pss ss T k h j o' ps v H' h1 h2 h3 p hp
  cases pss with
  | nil=>simp at h2
  | cons ps0 pss=>
   cases ss with
   | nil=>simp at h3
   | cons s ss=>
    obtain⟨u,H1⟩:=s
    simp only[chkRun,Bool.and_eq_true,List.all_eq_true]at h
    cases j with
    | zero=>
     simp only[List.getElem?_cons_zero,sJ,pJ]at h1 h2 h3
     subst h1 h2
     obtain⟨rfl,rfl⟩:=h3
     have e:tsel (fun i=>Nat.blt i (k+0)) k (o::r) ((u,H1)::ss) T=T:=by
      have hn:∀(l:List AOper) (ss:List (AVal×AHeap)) (k':Nat) (T:Tr AVal),k≤k'→tsel (fun i=>Nat.blt i (k+0)) k' l ss T=T:=by
       intro l
       induction l with
       | nil=>intro ss k' T _; cases ss <;> rfl
       | cons o r ih=>intro ss k' T hk; cases ss with
        | nil=>rfl
        | cons s ss=>
         obtain⟨a,b⟩:=s
         have:Nat.blt k' (k+0)=false:=by
          cases hb:Nat.blt k' (k+0) with
          | false=>rfl
          | true=>have:=Nat.le_of_ble_eq_true hb; omega
         simp only[tsel,this,cond_false]
         exact ih ss (k'+1) T om
      exact hn _ _ k T rL
     rw[e]
     have:=h.1 p hp
     split at this
     ·rename_i Hp hHp
      refine⟨Hp,hHp,fun hg=>?_⟩
      rw[hg]at this
      simp only[cond_true]at this
      split at this
      ·rename_i x H2 hx
       rw[aeq_ok _ _ this]at hx
       exact⟨H2,hx⟩
      ·simp at this
     ·simp at this
    | succ j=>
     simp only[List.getElem?_cons_succ]at h1 h2 h3
     have hb:Nat.blt k (k+(j+1))=true:=by
      show Nat.ble (k+1) (k+(j+1))=true
      exact Nat.ble_eq_true_of_le om
     simp only[tsel,hb,cond_true]
     rw[show k+(j+1)=k+1+j by omega]
     exact ih pss ss (aput T o.dst u) (k+1) h.2 j o' ps v H' h1 h2 h3 p hp
theorem step_same{o:AOper}{T:Tr AVal}{H H':AHeap}{v:AVal}(hc:isChain o.op=false)(h:astep tb call o T H=some (v,H')):H'=H:=by
 unfold astep at h
 cases hg:gOK T o.guard with
 | false=>rw[hg]at h; simp only[cond_false,sJ,pJ]at h; exact h.2.symm
 | true=>
  rw[hg]at h
  simp only[cond_true]at h
  have hk:isPure o.op=true∨isLoad o.op=true:=by
   unfold isChain at hc
   cases h1:isPure o.op <;> cases h2:isLoad o.op <;> simp_all
  split at h
  ·rename_i u H1 hu
   simp only[sJ,pJ]at h
   obtain⟨rfl,rfl⟩:=h
   rcases hk with hk | hk
   ·exact (pure_other hk hu).1
   ·exact (load_other hk hu).1
  ·rename_i f args H1 hu
   rcases hk with hk | hk
   ·obtain⟨_,⟨v,hv⟩,_⟩:=pure_other hk hu; simp at hv
   ·obtain⟨_,v,hv⟩:=load_other hk hu; simp at hv
  ·simp at h
theorem heap_between{l:List AOper}{T0:Tr AVal}{H0:AHeap}{ss:List (AVal×AHeap)}(htr:atrace tb call l T0 H0=some ss):∀(d p:Nat),p+d≤l.length→(∀c o,p≤c→c<p+d→l[c]?=some o→isChain o.op=false)→hAt H0 ss (p+d)=hAt H0 ss p:=by
 intro d
 induction d with
 | zero=>intro p _ _; rfl
 | succ d ih=>
  intro p hp hn
  have h1:=ih p om fun c o h1 h2 h3=>hn c o h1 om h3
  obtain⟨_,hat⟩:=trace_at l T0 H0 ss 0 htr
  have ho:l[p+d]?=some l[p+d]:=List.getElem?_eq_getElem om
  obtain⟨v,H',q1,q2⟩:=hat _ _ ho
  have:=step_same (hn _ _ om om ho) q2
  rw[← h1]
  show hAt H0 ss (p+d+1)=_
  simp only[hAt,q1]
  exact this
end
theorem stage_congr{m m':Nat→Bool}:∀(l:List AOper) (k:Nat),(∀c o,l[c]?=some o→isChain o.op=true→m (k+c)=m' (k+c))→stage m k l=stage m' k l:=by
 intro l
 induction l with
 | nil=>intro k _; rfl
 | cons o r ih=>
  intro k h
  simp only[stage]
  have h1:=ih (k+1) fun c o' q1 q2=>by rw[show k+1+c=k+(c+1) by omega]; exact h (c+1) o' (by simpa using q1) q2
  cases hc:isChain o.op with
  | false=>simp only[Bool.false_and,cond_false]; exact h1
  | true=>
   have:=h 0 o rfl hc
   simp only[Nat.add_zero]at this
   rw[this,h1]
theorem TmpsRel.congr{ρ:Pl}{n:Nat}{T T':Tr AVal}{tmps:Array Value}(h:∀t,T'.get t=T.get t)(r:TmpsRel ρ n T tmps):TmpsRel ρ n T' tmps:=
 ⟨r.size,fun t=>by have:=r.at_ t; simp only[ev]at this ⊢; rw[h t]; exact this⟩
section
variable {P:Program} {Prot:Gh} {w0:World} {tb:FuncId→Bool} {call:FuncId→List AVal→AHeap→Option (AVal×AHeap)}
def aside(D:Nat→Prop)(l:List AOper)(m:Nat→Bool):Nat→Prop:=fun d=>D d∨∃(i:Nat) (a:AOper) (z:List AVal) (s:Option (Nat×Nat)),l[i]?=some a∧a.op=.claim d z s∧m i=false
theorem claim_run{ρ:Pl}{H:AHeap}{w:World}(R:Rel Prot w0 ρ H w){n:Nat}{T:Tr AVal}{a:Act}(ht:TmpsRel ρ n T a.tmps){o:Oper}{z:List AVal}{s:Option (Nat×Nat)}(hc:ClaimOp P o.op z s){b:Nat}(hd:Prot.dead b)(hx:H.get b=some (.cells z 0 false)) :
  ∃ρ' w' u,ρ.le ρ'∧(execOp a.eval o).run P w=.ok (.value u) w'∧Rel ⟨Prot.prot,fun d=>Prot.dead d∧d≠b⟩ w0 ρ' H w'∧VRel ρ' (clV b z s) u:=by
 obtain⟨dst,op,type,pos,after,guard⟩:=o
 simp only at hc
 rcases hc with⟨e,rfl,hz,rfl⟩ | ⟨t,l,c,e,m,by_,z0,x,y,ln,cn,rfl,h2,h3,h4,h5,h6,h7,h8,h9,rfl,rfl⟩
 ·obtain⟨ρ1,w1,u,q1,q2,q3,q4⟩:=alloc_claim (P:=P) R hz hd hx
  refine⟨ρ1,w1,u,q1,?_,q3,q4⟩
  show (do pure (Next.value (← Instr.alloc e true (.tuple #[]))):Sem Next).run P w=_
  simp only[Sem.run_bind,q2,Result.andThen_ok]
  rfl
 ·obtain⟨ρ1,w1,u,q1,q2,q3,q4⟩:=make_claim (P:=P) R h2 (elem_of h3) h4 (opd_ok ht h5) (opd_ok ht h6) h7 h8 h9 hd hx
  refine⟨ρ1,w1,u,q1,?_,q3,q4⟩
  show (do pure (Next.value (← Instr.makeSlice t (a.eval l) (a.eval c))):Sem Next).run P w=_
  simp only[Sem.run_bind,q2,Result.andThen_ok]
  rfl
def IsRaw(P:Program)(n:Nat)(ops:Array Oper)(o:Oper)(a:AOper):Prop:=
 ∃f args ats l g,o.op=.call ⟨.value (.func f),args,ats⟩∧cOpds args.toList=some l∧cGuard n ops o.guard=some g∧okDst n o.dst=true∧Nat.blt f BIG=true∧a=⟨o.dst,.call (BIG+f) l,g⟩
def CallP(P:Program)(call:FuncId→List AVal→AHeap→Option (AVal×AHeap)):Prop:=
 ∀f args H v H',Nat.blt f BIG=true→call (BIG+f) args H=some (v,H')→∀Prot w0 ρ w (vs:Array Value),Rel Prot w0 ρ H w→VRels ρ args vs.toList →
  Calls P f vs w fun e w'=>∃ρ',ρ.le ρ'∧Rel Prot w0 ρ' H' w'∧((∃u,e=.returned u∧VRel ρ' v u)∨∃x u,v=panV x∧e=.panicked [{ v:=u,recovered:=false }]∧VRel ρ' x u)
def IsGd(P:Program)(n:Nat)(ops:Array Oper)(l:List AOper)(ms:List Nat)(rp:Nat→Prop)(o:Oper)(a:AOper)(j:Nat):Prop:=
 ∃a' c d ac,cOper P n ops o=some a'∧a'.guard=none∧a=⟨a'.dst,a'.op,some (SK+d,false)⟩∧bit ms j c=true∧rp c∧l[c]?=some ac∧ac.dst=some d∧∀k b,l[k]?=some b→b.dst=some d→k=c
theorem gS_skG(K d:Nat):(bif Nat.ble K (K+d) then K+d-K else K+d)=d∧Nat.ble K (K+d)=true:=by
 have h:Nat.ble K (K+d)=true:=Nat.ble_eq_true_of_le (Nat.le_add_right _ _)
 rw[h]
 exact⟨Nat.add_sub_cancel_left ..,rfl⟩
theorem gS_sk(d:Nat):gS (SK+d)=d∧Nat.ble SK (SK+d)=true:=gS_skG SK d
theorem isPan_spec{x:AVal}(h:isPan x=true):∃y,x=panV y:=by
 unfold isPan at h
 split at h
 ·exact⟨_,rfl⟩
 ·simp at h
theorem pan_no{ρ:Pl}{x y:AVal}{v:Value}(h:VRel ρ x v)(e:x=panV y):False:=by
 subst e
 simp only[panV,VRel,VRels]at h
 obtain⟨f,c,_,⟨v,r,_,⟨h1,h2⟩,_⟩,_⟩:=h
 simp[opq]at h2
set_option maxHeartbeats 2000000 in
theorem draw_any{RAW:Prop}(htb:∀f,Nat.blt f BIG=true→tb f=true→hasBody P f=true)(hcall:CallOK P call)(htbP:RAW→∀f,Nat.blt f BIG=true→tb (BIG+f)=true→hasBody P f=true)(hcallP:RAW→CallP P call){ds:List Deferred}{n:Nat}{ops:Array Oper}{l:List AOper}{base:Nat}{ms:List Nat}{rp:Nat→Prop}
  (hlen:l.length=ops.toList.length) (hopers:∀(j:Nat) (o:Oper),ops.toList[j]?=some o→∃a,l[j]?=some a∧((¬rp j∧(cOper P n ops o=some a∨(∃c,base≤c∧IsCl P n ops o a c)∨IsGd P n ops l ms rp o a j))∨(RAW∧rp j∧IsRaw P n ops o a)))
  (hbase:∀d,Prot.dead d→d<base) (hdis:∀(i j:Nat) (a b:AOper) (c:Nat) (z z':List AVal) (s s':Option (Nat×Nat)),l[i]?=some a→l[j]?=some b→a.op=.claim c z s→b.op=.claim c z' s'→i=j)
  (hm:okMask (ops.toList.map bindE) ms=true) (hp:okPairs l ms=true) {T0:Tr AVal} {H0:AHeap} {ss:List (AVal×AHeap)} (htr:atrace tb call l T0 H0=some ss)
  (hck:chkRun tb (H0::ss.map (·.2)) l ((List.range l.length).map (chkOf l ms)) ss T0=true) {ρ0:Pl} {Q:Exit→Act→World→Prop}
  (hQ:∀a w,(∃ρ,ρ0.le ρ∧Rel Prot w0 ρ (hAt H0 ss l.length) w∧TmpsRel ρ n (tsel (fun _=>true) 0 l ss T0) a.tmps∧a.defers=ds)→Q .normal a w)
  (hQP:RAW→∀(c:Nat) (a:Act) (w:World) (ρ:Pl) (x:AVal) (u:Value),rp c→ρ0.le ρ→(∃H1,ss[c]?=some (panV x,H1)∧Rel Prot w0 ρ H1 w)→VRel ρ x u→a.defers=ds→Q (.panic [{ v:=u,recovered:=false }]) a w) :
  ∀(fuel:Nat) (listed:Array Bool) (a:Act) (w:World),listed.size=ops.size→unl (fun i=>listed.getD i false) ops.size=fuel →
   (∀j,j<ops.size→listed.getD j false=true→∀e∈(ops.toList.map bindE).getD j [],listed.getD e false=true) →
   (∀c,rp c→listed.getD c false=true→∀x H1,ss[c]?≠some (panV x,H1)) →
   (∃ρ,ρ0.le ρ∧Rel ⟨Prot.prot,aside Prot.dead l fun i=>listed.getD i false⟩ w0 ρ (hAt H0 ss (stage (fun i=>listed.getD i false) 0 l)) w∧TmpsRel ρ n (tsel (fun i=>listed.getD i false) 0 l ss T0) a.tmps∧a.defers=ds) →
   wpAny P .any ops Q fuel listed a w:=by
 have hN:l.length=ops.size:=by simpa using hlen
 obtain⟨hsl,hat⟩:=trace_at l T0 H0 ss 0 htr
 have hes:(ops.toList.map bindE).length=ops.size:=by simp
 have hpair:∀i j a b,i<j→l[i]?=some a→l[j]?=some b→okPair ms i j a b=true:=by
  intro i j a b hij hi hj
  unfold okPairs at hp
  rw[List.all_eq_true]at hp
  have hjl:=(List.getElem?_eq_some_iff.1 hj).1
  have h1:=hp j (List.mem_range.2 hjl)
  rw[hj]at h1
  simp only at h1
  rw[List.all_eq_true]at h1
  have h2:=h1 i (List.mem_range.2 hij)
  rw[hi]at h2
  exact h2
 intro fuel
 induction fuel with
 | zero=>
  intro listed a w hsz hu _ _ hinv
  have hall:∀i,i<ops.size→listed.getD i false=true:=unl_zero hu
  refine⟨?_,hQ a w ?_⟩
  ·unfold Region.ready
   rw[List.filter_eq_nil_iff]
   intro i hi
   have:=hall i (List.mem_range.1 hi)
   have e:listed.getD i true=true:=by
    rw[Array.getD_eq_getD_getElem?]at this ⊢
    rw[Array.getElem?_eq_getElem (by rw[hsz]; exact List.mem_range.1 hi)]at this ⊢
    simpa using this
   simp[e]
  ·obtain⟨ρ,h1,h2,h3,h4⟩:=hinv
   refine⟨ρ,h1,?_,h3.congr fun t=>?_,h4⟩
   ·have hs:=stage_spec (fun i=>listed.getD i false) l 0
    have:stage (fun i=>listed.getD i false) 0 l=l.length:=by
     obtain⟨q1,q2,q3,q4⟩:=hs
     rcases Nat.lt_or_ge (stage (fun i=>listed.getD i false) 0 l) l.length with q | q
     ·have ho:l[stage (fun i=>listed.getD i false) 0 l-0]?=some l[stage (fun i=>listed.getD i false) 0 l]:=by simp
      have:=(q4 _ (by simpa using q) ho).2
      rw[hall _ om]at this
      simp at this
     ·omega
    rw[this]at h2
    exact h2.fewer (D:=Prot.dead) fun d hd=>.inl hd
   ·refine tsel_get l ss 0 T0 T0 rfl fun i o hi _=>?_
    have:=(List.getElem?_eq_some_iff.1 hi).1
    simp only[Nat.zero_add]
    exact (hall i om).symm
 | succ fuel ih=>
  intro listed a w hsz hu hdown hliv hinv
  obtain⟨ρ,hle,R,ht,hd⟩:=hinv
  have hml:=mask_listed hm (m:=fun i=>listed.getD i false) (fun j hj hjl e he=>hdown j om hjl e he)
  have hmask:∀j,j<ops.size→(∀e∈(ops.toList.map bindE).getD j [],listed.getD e false=true)→∀i,i<j→bit ms j i=true→listed.getD i false=true:=
   fun j hj he i hi hb=>hml j om he i hi hb
  refine⟨fun hnone=>?_,fun i hi=>?_⟩
  ·-- there is one that is ready
   exfalso
   have hex:∃i,i<ops.size∧listed.getD i false=false:=by
    rcases Classical.em (∃i,i<ops.size∧listed.getD i false=false) with h | h
    ·exact h
    ·exfalso
     have:unl (fun i=>listed.getD i false) ops.size=0:=unl_all fun i hi=>by
      cases hb:listed.getD i false with
      | true=>rfl
      | false=>exact (h ⟨i,hi,hb⟩).elim
     omega
   have hmin:∃i,i<ops.size∧listed.getD i false=false∧∀j,j<i→listed.getD j false=true:=by
    obtain⟨i,hi1,hi2⟩:=hex
    induction i using Nat.strongRecOn with
    | _ i ihm=>
     rcases Classical.em (∃j,j<i∧listed.getD j false=false) with⟨j,hj,hj2⟩ | h
     ·exact ihm j hj om hj2
     ·refine⟨i,hi1,hi2,fun j hj=>?_⟩
      cases hb:listed.getD j false with
      | true=>rfl
      | false=>exact (h ⟨j,hj,hb⟩).elim
   obtain⟨i,hi1,hi2,hi3⟩:=hmin
   have:i∈Region.ready .any ops listed:=by
    rw[mem_ready]
    refine⟨?_,ops[i],Array.getElem?_eq_getElem hi1,fun e he hb=>?_⟩
    ·rw[Array.getD_eq_getD_getElem?]at hi2 ⊢
     rw[Array.getElem?_eq_getElem om]at hi2 ⊢
     simpa using hi2
    ·refine hi3 _ ?_
     unfold okMask at hm
     rw[List.all_eq_true]at hm
     have h1:=hm i (List.mem_range.2 om)
     simp only[Bool.and_eq_true,List.all_eq_true]at h1
     refine Nat.le_of_ble_eq_true (h1.1 e.on ?_)
     have:(ops.toList.map bindE).getD i []=bindE ops[i]:=by simp[List.getD,hi1]
     rw[this]
     unfold bindE
     rw[List.mem_map]
     exact⟨e,by rw[List.mem_filter]; exact⟨by simpa using he,hb⟩,rfl⟩
   rw[hnone]at this
   simp at this
  ·obtain⟨hi1,o,ho,hedge⟩:=mem_ready.1 hi
   have hiN:i<ops.size:=(Array.getElem?_eq_some_iff.1 ho).1
   have hmi:listed.getD i false=false:=by
    rw[Array.getD_eq_getD_getElem?]at hi1 ⊢
    rw[Array.getElem?_eq_getElem om]at hi1 ⊢
    simpa using hi1
   obtain⟨ao,hao,hco⟩:=hopers i o (by simpa using ho)
   have hedges:∀e∈(ops.toList.map bindE).getD i [],listed.getD e false=true:=by
    have:(ops.toList.map bindE).getD i []=bindE o:=by
     have:ops[i]=o:=by simpa[Array.getElem?_eq_getElem hiN] using ho
     simp[List.getD,hiN,this]
    rw[this]
    intro e he
    unfold bindE at he
    rw[List.mem_map]at he
    obtain⟨x,hx,rfl⟩:=he
    rw[List.mem_filter]at hx
    exact hedge x (by simpa using hx.1) hx.2
   have hafter:∀c b,i<c→l[c]?=some b→bit ms c i=true→listed.getD c false=false:=by
    intro c b hc hb hbit
    cases hx:listed.getD c false with
    | false=>rfl
    | true=>
     have hcN:=(List.getElem?_eq_some_iff.1 hb).1
     have:=hmask c om (hdown c om hx) i hc hbit
     rw[hmi]at this
     simp at this
   have hagree:∀t∈readsO ao,(tsel (fun i=>listed.getD i false) 0 l ss T0).get t=(tsel (fun j=>Nat.blt j (0+i)) 0 l ss T0).get t:=by
    intro t htr'
    refine tsel_get l ss 0 T0 T0 rfl fun c b hc hdst=>?_
    have hcN:=(List.getElem?_eq_some_iff.1 hc).1
    simp only[Nat.zero_add]
    rcases Nat.lt_trichotomy c i with h | h | h
    ·have e:Nat.blt c i=true:=Nat.ble_eq_true_of_le h
     rw[e]
     have hpr:=hpair c i b ao h hc hao
     simp only[okPair,Bool.or_eq_true,Bool.and_eq_true]at hpr
     rcases hpr with hpr | ⟨_,hpr⟩
     ·exact hmask i hiN hedges c h hpr
     ·exfalso
      simp only[disj,hdst,Bool.and_eq_true,Bool.not_eq_true',List.contains_eq_mem,decide_eq_false_iff_not]at hpr
      exact hpr.1.1 htr'
    ·subst h
     have e:Nat.blt c c=false:=by
      cases hb:Nat.blt c c with
      | false=>rfl
      | true=>have:=Nat.le_of_ble_eq_true hb; omega
     rw[e]; exact hmi
    ·have e:Nat.blt c i=false:=by
      cases hb:Nat.blt c i with
      | false=>rfl
      | true=>have:=Nat.le_of_ble_eq_true hb; omega
     rw[e]
     have hpr:=hpair i c ao b h hao hc
     simp only[okPair,Bool.or_eq_true,Bool.and_eq_true]at hpr
     rcases hpr with hpr | ⟨_,hpr⟩
     ·exact hafter c b h hc hpr
     ·exfalso
      simp only[disj,hdst,Bool.and_eq_true,Bool.not_eq_true',List.contains_eq_mem,decide_eq_false_iff_not]at hpr
      exact hpr.2 htr'
   have hgd:gOK (tsel (fun i=>listed.getD i false) 0 l ss T0) ao.guard=gOK (tsel (fun j=>Nat.blt j (0+i)) 0 l ss T0) ao.guard:=by
    cases hg:ao.guard with
    | none=>rfl
    | some g=>
     obtain⟨t,b⟩:=g
     simp only[gOK,ev]
     rw[hagree (gS t) (by simp[readsO,hg])]
   have hop:∀H,aop tb (tsel (fun i=>listed.getD i false) 0 l ss T0) H ao.op=aop tb (tsel (fun j=>Nat.blt j (0+i)) 0 l ss T0) H ao.op:=
    fun H=>aop_congr fun t h=>hagree t (by simp only[readsO,List.mem_append]; exact .inl h)
   obtain⟨v,H1,hss,hstep⟩:=hat i ao hao
   obtain⟨st1,st2,st3,st4⟩:=stage_spec (fun i=>listed.getD i false) l 0
   have hchain:isChain ao.op=true→stage (fun i=>listed.getD i false) 0 l=i:=by
    intro hc
    have hge:stage (fun i=>listed.getD i false) 0 l≤i:=by
     rcases Nat.lt_or_ge i (stage (fun i=>listed.getD i false) 0 l) with h | h
     ·have:=st3 i ao hao hc (by simpa using h)
      simp only[Nat.zero_add]at this
      rw[hmi]at this
      simp at this
     ·exact h
    rcases Nat.lt_or_ge (stage (fun i=>listed.getD i false) 0 l) i with h | h
    ·have hob:l[stage (fun i=>listed.getD i false) 0 l-0]?=some (l[stage (fun i=>listed.getD i false) 0 l]'om):=by simp
     obtain⟨q1,q2⟩:=st4 _ om hob
     have hob2:l[stage (fun i=>listed.getD i false) 0 l]?=some (l[stage (fun i=>listed.getD i false) 0 l]'om):=List.getElem?_eq_getElem om
     have hpr:=hpair _ i _ ao h hob2 hao
     simp only[okPair,Bool.or_eq_true,Bool.and_eq_true]at hpr
     rcases hpr with hpr | ⟨hpr,_⟩
     ·have:=hmask i hiN hedges _ h hpr
      rw[q2]at this
      simp at this
     ·rw[q1,hc]at hpr
      simp at hpr
    ·omega
   have hnext:(rp i→∀x,v≠panV x)→∀(ρ':Pl) (w':World) (a':Act),ρ.le ρ'→Rel ⟨Prot.prot,aside Prot.dead l fun j=>if j=i then true else listed.getD j false⟩ w0 ρ' (if isChain ao.op=true then H1 else hAt H0 ss (stage (fun i=>listed.getD i false) 0 l)) w' →
     TmpsRel ρ' n (aput (tsel (fun i=>listed.getD i false) 0 l ss T0) ao.dst v) a'.tmps→a'.defers=ds→wpAny P .any ops Q fuel (listed.setIfInBounds i true) a' w':=by
    intro hnp ρ' w' a' hle' R' ht' hd'
    have hm':∀j,(listed.setIfInBounds i true).getD j false=if j=i then true else listed.getD j false:=by
     intro j
     by_cases e:j=i
     ·subst e
      rw[if_pos rfl,Array.getD_eq_getD_getElem?]
      have:j<listed.size:=om
      simp[this]
     ·rw[if_neg e]
      exact getD_set_ne false (fun q=>e q.symm)
    have hmf:(fun j=>(listed.setIfInBounds i true).getD j false)=fun j=>if j=i then true else listed.getD j false:=funext hm'
    refine ih _ a' w' (by simpa using hsz) ?_ ?_ ?_ ⟨ρ',Pl.le_trans hle hle',?_,?_,hd'⟩
    ·have:=unl_set (m:=fun i=>listed.getD i false) (m':=fun j=>(listed.setIfInBounds i true).getD j false) (i:=i) (n:=ops.size) hiN hmi (by rw[hm',if_pos rfl]) (fun j hj=>by rw[hm',if_neg hj])
     omega
    ·intro j hj hjl e he
     rw[hm']at hjl ⊢
     by_cases q:e=i
     ·rw[if_pos q]
     ·rw[if_neg q]
      by_cases q2:j=i
      ·subst q2; exact hedges e he
      ·rw[if_neg q2]at hjl; exact hdown j hj hjl e he
    ·intro c hrc hcl x Hx hcs
     rw[hm']at hcl
     by_cases q:c=i
     ·subst q
      rw[hss,sJ,pJ]at hcs
      exact hnp hrc x hcs.1
     ·rw[if_neg q]at hcl
      exact hliv c hrc hcl x Hx hcs
    ·rw[hmf]
     cases hc:isChain ao.op with
     | false=>
      rw[hc]at R'
      simp only[Bool.false_eq_true,if_false]at R'
      have:stage (fun j=>if j=i then true else listed.getD j false) 0 l=stage (fun i=>listed.getD i false) 0 l:=
       stage_congr l 0 fun c b hcb hcc=>by
        simp only[Nat.zero_add]
        rw[if_neg]
        intro e
        subst e
        rw[hao]at hcb
        simp only[sJ]at hcb
        subst hcb
        rw[hc]at hcc
        simp at hcc
      rw[this]
      exact R'
     | true=>
      rw[hc]at R'
      simp only[if_true]at R'
      have hpi:=hchain hc
      obtain⟨s1,s2,s3,s4⟩:=stage_spec (fun j=>if j=i then true else listed.getD j false) l 0
      have hgt:i<stage (fun j=>if j=i then true else listed.getD j false) 0 l:=by
       rcases Nat.lt_or_ge i (stage (fun j=>if j=i then true else listed.getD j false) 0 l) with h | h
       ·exact h
       ·exfalso
        have hob:l[stage (fun j=>if j=i then true else listed.getD j false) 0 l-0]?=some (l[stage (fun j=>if j=i then true else listed.getD j false) 0 l]'om):=by simp
        obtain⟨q1,q2⟩:=s4 _ om hob
        by_cases e:stage (fun j=>if j=i then true else listed.getD j false) 0 l=i
        ·rw[if_pos e]at q2; simp at q2
        ·rw[if_neg e]at q2
         have hob2:l[stage (fun j=>if j=i then true else listed.getD j false) 0 l]?=some (l[stage (fun j=>if j=i then true else listed.getD j false) 0 l]'om):=List.getElem?_eq_getElem om
         have:=st3 _ _ hob2 q1 om
         simp only[Nat.zero_add]at this
         rw[q2]at this
         simp at this
      have hb:=heap_between htr (stage (fun j=>if j=i then true else listed.getD j false) 0 l-(i+1)) (i+1) om fun c b c1 c2 c3=>by
       cases hx:isChain b.op with
       | false=>rfl
       | true=>
        exfalso
        have:=s3 c b c3 hx om
        simp only[Nat.zero_add]at this
        rw[if_neg om]at this
        have hpr:=hpair i c ao b om hao c3
        simp only[okPair,Bool.or_eq_true,Bool.and_eq_true]at hpr
        rcases hpr with hpr | ⟨hpr,_⟩
        ·have h9:=hafter c b om c3 hpr
         rw[this]at h9
         simp at h9
        ·rw[hx,hc]at hpr
         simp at hpr
      rw[show i+1+(stage (fun j=>if j=i then true else listed.getD j false) 0 l-(i+1))=stage (fun j=>if j=i then true else listed.getD j false) 0 l by omega]at hb
      rw[hb]
      simp only[hAt,hss]
      exact R'
    ·refine ht'.congr fun t=>?_
     rw[hmf,get_aput]
     by_cases e:ao.dst=some t
     ·rw[if_pos e]
      refine tsel_last l ss 0 i T0 ao v H1 hao hss e (by simp) fun c b hc hcb hdst=>?_
      simp only[Nat.zero_add]
      rw[if_neg om]
      have hpr:=hpair i c ao b hc hao hcb
      simp only[okPair,Bool.or_eq_true,Bool.and_eq_true]at hpr
      rcases hpr with hpr | ⟨_,hpr⟩
      ·exact hafter c b hc hcb hpr
      ·exfalso
       simp only[disj,e,Bool.and_eq_true,Bool.not_eq_true',beq_eq_false_iff_ne]at hpr
       exact hpr.1.2 hdst
     ·rw[if_neg e]
      refine tsel_get l ss 0 T0 T0 rfl fun c b hc hdst=>?_
      simp only[Nat.zero_add]
      rw[if_neg]
      intro q
      subst q
      rw[hao]at hc
      simp only[sJ]at hc
      subst hc
      exact e hdst
   have hval:isChain ao.op=false→gOK (tsel (fun j=>Nat.blt j (0+i)) 0 l ss T0) ao.guard=true→∃H2,aop tb (tsel (fun j=>Nat.blt j (0+i)) 0 l ss T0) (hAt H0 ss (stage (fun i=>listed.getD i false) 0 l)) ao.op=some (.val v,H2):=by
    intro hc hgo
    unfold astep at hstep
    rw[hgo]at hstep
    simp only[cond_true]at hstep
    cases hpu:isPure ao.op with
    | true=>
     split at hstep
     ·rename_i u H2 hu
      simp only[sJ,pJ]at hstep
      obtain⟨rfl,rfl⟩:=hstep
      exact⟨_,(pure_other hpu hu).2.2 _⟩
     ·rename_i f args H2 hu
      obtain⟨_,⟨x,hx⟩,_⟩:=pure_other hpu hu
      simp at hx
     ·simp at hstep
    | false=>
     have hld:isLoad ao.op=true:=by
      unfold isChain at hc
      cases h1:isLoad ao.op with
      | true=>rfl
      | false=>rw[hpu,h1]at hc; simp at hc
     cases hsm:sameH l i (stage (fun i=>listed.getD i false) 0 l) with
     | true=>
      unfold sameH at hsm
      rw[Bool.and_eq_true,List.all_eq_true]at hsm
      have hij:=Nat.le_of_ble_eq_true hsm.1
      have hb:=heap_between htr (stage (fun i=>listed.getD i false) 0 l-i) i om fun c b c1 c2 c3=>by
       have:=hsm.2 c (List.mem_range.2 om)
       rw[c3]at this
       simp only[Bool.or_eq_true,Bool.not_eq_true']at this
       rcases this with h | h
       ·have:=Nat.le_of_ble_eq_true h; omega
       ·exact h
      rw[show i+(stage (fun i=>listed.getD i false) 0 l-i)=stage (fun i=>listed.getD i false) 0 l by omega]at hb
      rw[hb]
      split at hstep
      ·rename_i u H2 hu
       simp only[sJ,pJ]at hstep
       obtain⟨rfl,rfl⟩:=hstep
       exact⟨_,hu⟩
      ·rename_i f args H2 hu
       obtain⟨_,x,hx⟩:=load_other hld hu
       simp at hx
      ·simp at hstep
     | false=>
      have hmem:stage (fun i=>listed.getD i false) 0 l∈chkOf l ms i:=by
       unfold chkOf
       rw[hao]
       simp only[hld,cond_true]
       rw[List.mem_filter]
       refine⟨List.mem_range.2 om,?_⟩
       rw[hsm]
       simp only[Bool.not_false,Bool.true_and]
       unfold mayAt
       rw[Bool.and_eq_true]
       refine⟨?_,?_⟩
       ·unfold isStage
        rcases Nat.lt_or_ge (stage (fun i=>listed.getD i false) 0 l) l.length with h | h
        ·have hob:l[stage (fun i=>listed.getD i false) 0 l]?=some l[stage (fun i=>listed.getD i false) 0 l]:=List.getElem?_eq_getElem h
         rw[hob]
         exact (st4 _ om (by simp)).1
        ·rw[List.getElem?_eq_none h]
         have:stage (fun i=>listed.getD i false) 0 l=l.length:=om
         rw[this]
         exact Nat.beq_refl _
       ·rw[List.all_eq_true]
        intro c hcr
        have hcl:=List.mem_range.1 hcr
        rw[List.getElem?_eq_getElem hcl]
        simp only[Bool.or_eq_true,Bool.not_eq_true']
        cases hcc:isChain l[c].op with
        | false=>exact .inl rfl
        | true=>
         right
         have hlc:l[c]?=some l[c]:=List.getElem?_eq_getElem hcl
         cases hb:Nat.blt c (stage (fun i=>listed.getD i false) 0 l) with
         | true=>
          simp only[cond_true,Bool.not_eq_true']
          have hlt:c<stage (fun i=>listed.getD i false) 0 l:=Nat.le_of_ble_eq_true hb
          have hcm:=st3 c _ hlc hcc om
          simp only[Nat.zero_add]at hcm
          cases hbit:bit ms c i with
          | false=>rfl
          | true=>
           exfalso
           rcases Nat.lt_trichotomy i c with h | h | h
           ·have:=hafter c _ h hlc hbit
            rw[hcm]at this; simp at this
           ·subst h; rw[hmi]at hcm; simp at hcm
           ·have:=bit_lt hbit
            omega
         | false=>
          simp only[cond_false,Bool.not_eq_true']
          have hge:stage (fun i=>listed.getD i false) 0 l≤c:=by
           rcases Nat.lt_or_ge c (stage (fun i=>listed.getD i false) 0 l) with h | h
           ·have:Nat.blt c (stage (fun i=>listed.getD i false) 0 l)=true:=Nat.ble_eq_true_of_le h
            rw[hb]at this; simp at this
           ·exact h
          cases hbit:bit ms i c with
          | false=>rfl
          | true=>
           exfalso
           have hlc2:=hmask i hiN hedges c (bit_lt hbit) hbit
           have hpl:stage (fun i=>listed.getD i false) 0 l<l.length:=om
           have hob2:l[stage (fun i=>listed.getD i false) 0 l]?=some (l[stage (fun i=>listed.getD i false) 0 l]'hpl):=List.getElem?_eq_getElem hpl
           obtain⟨q1,q2⟩:=st4 _ om (by rw[Nat.sub_zero]; exact hob2)
           rcases Nat.lt_trichotomy (stage (fun i=>listed.getD i false) 0 l) c with h | h | h
           ·have hpr:=hpair _ c _ _ h hob2 hlc
            simp only[okPair,Bool.or_eq_true,Bool.and_eq_true]at hpr
            rcases hpr with hpr | ⟨hpr,_⟩
            ·have:=hmask c om (hdown c om hlc2) _ h hpr
             rw[q2]at this; simp at this
            ·rw[q1,hcc]at hpr; simp at hpr
           ·rw[h]at q2; rw[q2]at hlc2; simp at hlc2
           ·omega
      obtain⟨Hp,hHp,hrun⟩:=chk_at l _ ss T0 0 hck i _ (chkOf l ms i) v H1 hao (by simp[hN,hiN]) hss _ hmem
      obtain⟨H2,hH2⟩:=hrun hgo
      refine⟨H2,?_⟩
      have:Hp=hAt H0 ss (stage (fun i=>listed.getD i false) 0 l):=by
       cases hstg:stage (fun i=>listed.getD i false) 0 l with
       | zero=>rw[hstg]at hHp; simpa[hAt] using hHp.symm
       | succ q=>
        rw[hstg]at hHp
        simp only[List.getElem?_cons_succ,List.getElem?_map]at hHp
        simp only[hAt]
        cases hq:ss[q]? with
        | none=>rw[hq]at hHp; simp at hHp
        | some z=>rw[hq]at hHp; obtain⟨z1,z2⟩:=z; simpa using hHp.symm
      rw[← this]
      exact hH2
   have hfew:∀d,aside Prot.dead l (fun j=>if j=i then true else listed.getD j false) d→aside Prot.dead l (fun i=>listed.getD i false) d:=by
    rintro d (hd | ⟨i',a',z',s',x1,x2,x3⟩)
    ·exact .inl hd
    ·refine .inr ⟨i',a',z',s',x1,x2,?_⟩
     simp only at x3
     by_cases e:i'=i
     ·rw[if_pos e]at x3; simp at x3
     ·rw[if_neg e]at x3; exact x3
   have hord:(¬rp i∧∃ax g,cOp P o.op=some ax∧okDst n o.dst=true∧ao=⟨o.dst,ax,g⟩∧Region.wanted o (yielded ops a.tmps)=gOK (tsel (fun i=>listed.getD i false) 0 l ss T0) g)∨(¬rp i∧∃c,base≤c∧IsCl P n ops o ao c)∨(RAW∧rp i∧IsRaw P n ops o ao):=by
    have hc0:∀a',cOper P n ops o=some a'→∃ax g,cOp P o.op=some ax∧okDst n o.dst=true∧a'=⟨o.dst,ax,g⟩∧cGuard n ops o.guard=some g:=by
     intro a' hco
     unfold cOper at hco
     split at hco
     ·rename_i ax g hopc hgc
      cases hdst:okDst n o.dst with
      | false=>rw[hdst]at hco; simp at hco
      | true=>
       rw[hdst]at hco
       simp only[cond_true,sJ]at hco
       exact⟨ax,g,hopc,rfl,hco.symm,hgc⟩
     ·simp at hco
    rcases hco with⟨hnr,hco | hco | ⟨a',c,d,ac,hco,hgn,rfl,hbc,hrc,hlc,hcd,honly⟩⟩ | hco
    ·obtain⟨ax,g,q1,q2,q3,q4⟩:=hc0 _ hco
     exact .inl ⟨hnr,ax,g,q1,q2,q3,guard_ok ht q4⟩
    ·exact .inr (.inl ⟨hnr,hco⟩)
    ·obtain⟨ax,g,q1,q2,rfl,q4⟩:=hc0 _ hco
     simp only at hgn
     subst hgn
     refine .inl ⟨hnr,ax,_,q1,q2,rfl,?_⟩
     have hcl:=hmask i hiN hedges c (bit_lt hbc) hbc
     rw[guard_ok ht q4,hgd]
     obtain⟨vc,Hc,hsc,_⟩:=hat c ac hlc
     have hget:(tsel (fun j=>Nat.blt j (0+i)) 0 l ss T0).get d=some vc:=by
      have:=tsel_last (m:=fun j=>Nat.blt j (0+i)) l ss 0 c T0 ac vc Hc hlc hsc hcd (by simp only[Nat.zero_add]; exact Nat.ble_eq_true_of_le (bit_lt hbc)) fun k b hk hkb hdst=>absurd (honly k b hkb hdst) om
      exact this
     obtain⟨k1,k2⟩:=gS_sk d
     simp only[gOK,gV,k1,k2,cond_true,ev,hget]
     cases hp:isPan vc with
     | false=>rfl
     | true=>
      obtain⟨x,rfl⟩:=isPan_spec hp
      exact absurd hsc (hliv c hrc hcl x Hc)
    ·exact .inr (.inr hco)
   rcases hord with⟨hnr,ax,g,hopc,hdst,rfl,hwant⟩ | ⟨hnr,cb,hcb,z,s,g,hoe,hgc,hdst,rfl⟩ | ⟨hraw,hrp,f,args,ats,lx,g,hoe,hlx,hgc,hdst,hbig,rfl⟩
   ·replace hnext:=hnext fun hr=>absurd hr hnr
    ·simp only at hgd hop hnext hchain hao
     unfold wpOp
     simp only[ho]
     rw[hwant,hgd]
     have hd':∀u,(a.put o.dst u).defers=ds:=fun u=>by cases hx:o.dst <;> simpa[Act.put] using hd
     unfold astep at hstep
     simp only at hstep
     cases hgo:gOK (tsel (fun j=>Nat.blt j (0+i)) 0 l ss T0) g with
     | false=>
      rw[hgo]at hstep
      simp only[cond_false,sJ,pJ]at hstep
      obtain⟨rfl,rfl⟩:=hstep
      simp only[Bool.false_eq_true,if_false]
      refine hnext ρ w _ (Pl.le_refl _) ?_ (put_rel ht hdst undef_rel) (hd' _)
      split
      ·rename_i hc
       have h9:=R.fewer hfew
       rw[hchain hc]at h9
       exact h9
      ·exact R.fewer hfew
     | true=>
      rw[hgo]at hstep
      simp only[cond_true]at hstep
      simp only[if_true]
      left
      cases hc:isChain ax with
      | true=>
       have hpi:=hchain hc
       rw[hpi]at R
       rw[← hop]at hstep
       split at hstep
       ·rename_i u H2 hu
        simp only[sJ,pJ]at hstep
        obtain⟨rfl,rfl⟩:=hstep
        obtain⟨ρ1,w1,nx,q1,q2,q3,q4⟩:=op_sim htb R ht o hopc hu
        simp only[Oper.wp,q2]
        rw[hc]at hnext
        simp only[if_true]at hnext
        cases nx <;> simp only[NxRel]at q4
        case value u=>exact hnext ρ1 w1 _ q1 (q3.fewer hfew) (put_rel (ht.mono q1) hdst q4) (hd' _)
        case skip=>exact hnext ρ1 w1 _ q1 (q3.fewer hfew) (put_rel (ht.mono q1) hdst q4) (hd' _)
       ·rename_i f args H2 hu
        obtain⟨ρ1,w1,nx,q1,q2,q3,q4⟩:=op_sim htb R ht o hopc hu
        simp only[Oper.wp,q2]
        rw[hc]at hnext
        simp only[if_true]at hnext
        cases nx <;> simp only[NxRel]at q4
        case enter gf vs=>
         obtain⟨rfl,hbig,q5⟩:=q4
         simp only[Oper.upon]
         refine (hcall _ _ _ _ _ hbig hstep ⟨Prot.prot,aside Prot.dead l fun i=>listed.getD i false⟩ w0 ρ1 w1 vs q3 q5).mono fun e w' hr=>?_
         obtain⟨ρ2,u,r1,rfl,r3,r4⟩:=hr
         exact hnext ρ2 w' _ (Pl.le_trans q1 r1) (r3.fewer hfew) (put_rel ((ht.mono q1).mono r1) hdst r4) (hd' _)
       ·simp at hstep
      | false=>
       rw[hc]at hnext
       simp only[Bool.false_eq_true,if_false]at hnext
       obtain⟨H2,hH2⟩:=hval hc hgo
       have hsame:H2=hAt H0 ss (stage (fun i=>listed.getD i false) 0 l):=by
        have hk:isPure ax=true∨isLoad ax=true:=by
         unfold isChain at hc
         cases h1:isPure ax <;> cases h2:isLoad ax <;> simp_all
        rcases hk with hk | hk
        ·exact (pure_other hk hH2).1
        ·exact (load_other hk hH2).1
       subst hsame
       rw[← hop]at hH2
       obtain⟨ρ1,w1,nx,q1,q2,q3,q4⟩:=op_sim htb R ht o hopc hH2
       simp only[Oper.wp,q2]
       cases nx <;> simp only[NxRel]at q4
       case value u=>exact hnext ρ1 w1 _ q1 (q3.fewer hfew) (put_rel (ht.mono q1) hdst q4) (hd' _)
       case skip=>exact hnext ρ1 w1 _ q1 (q3.fewer hfew) (put_rel (ht.mono q1) hdst q4) (hd' _)
   ·-- a new block,of a number that was laid aside
    replace hnext:=hnext fun hr=>absurd hr hnr
    simp only at hgd hop hnext hchain hao hval
    unfold wpOp
    simp only[ho]
    rw[guard_ok ht hgc,hgd]
    have hd':∀u,(a.put o.dst u).defers=ds:=fun u=>by cases hx:o.dst <;> simpa[Act.put] using hd
    have hnc:isChain (AOp.claim cb z s)=false:=rfl
    rw[hnc]at hnext
    simp only[Bool.false_eq_true,if_false]at hnext
    cases hgo:gOK (tsel (fun j=>Nat.blt j (0+i)) 0 l ss T0) g with
    | false=>
     unfold astep at hstep
     simp only at hstep
     rw[hgo]at hstep
     simp only[cond_false,sJ,pJ]at hstep
     obtain⟨rfl,rfl⟩:=hstep
     simp only[Bool.false_eq_true,if_false]
     exact hnext ρ w _ (Pl.le_refl _) (R.fewer hfew) (put_rel ht hdst undef_rel) (hd' _)
    | true=>
     simp only[if_true]
     left
     obtain⟨H2,hH2⟩:=hval hnc hgo
     simp only[aop]at hH2
     obtain⟨y,hy,hv,_⟩:=vv_spec hH2
     simp only[Nx.val.injEq]at hv
     subst hv
     obtain⟨hget,rfl⟩:=claim_spec hy
     obtain⟨ρ1,w1,u,q1,hrun,q3,q4⟩:=claim_run R ht hoe (.inr ⟨i,_,z,s,hao,rfl,hmi⟩) hget
     simp only[Oper.wp,hrun]
     refine hnext ρ1 w1 _ q1 (q3.fewer ?_) (put_rel (ht.mono q1) hdst q4) (hd' _)
     intro d hd0
     refine⟨hfew d hd0,?_⟩
     rintro rfl
     rcases hd0 with hd0 | ⟨i',a',z',s',x1,x2,x3⟩
     ·have:=hbase _ hd0; omega
     ·have:=hdis i' i a' _ _ z' z s' s x1 hao x2 rfl
      subst this
      simp at x3
   ·-- a call whose panic is told
    simp only at hgd hop hnext hchain hao hval
    unfold wpOp
    simp only[ho]
    rw[guard_ok ht hgc,hgd]
    have hd':∀u,(a.put o.dst u).defers=ds:=fun u=>by cases hx:o.dst <;> simpa[Act.put] using hd
    have hnc:isChain (AOp.call (BIG+f) lx)=true:=rfl
    rw[hnc]at hnext
    simp only[if_true]at hnext
    have hpi:=hchain hnc
    rw[hpi]at R
    unfold astep at hstep
    simp only at hstep
    cases hgo:gOK (tsel (fun j=>Nat.blt j (0+i)) 0 l ss T0) g with
    | false=>
     rw[hgo]at hstep
     simp only[cond_false,sJ,pJ]at hstep
     obtain⟨rfl,rfl⟩:=hstep
     simp only[Bool.false_eq_true,if_false]
     exact hnext (fun _ x hx=>by simp[undefA,panV]at hx) ρ w _ (Pl.le_refl _) (R.fewer hfew) (put_rel ht hdst undef_rel) (hd' _)
    | true=>
     rw[hgo]at hstep
     simp only[cond_true]at hstep
     simp only[if_true]
     left
     rw[← hop]at hstep
     simp only[aop]at hstep
     cases hb:tb (BIG+f) with
     | false=>rw[hb]at hstep; simp at hstep
     | true=>
      rw[hb]at hstep
      simp only[cond_true]at hstep
      have hrun:(execOp a.eval o).run P w=.ok (.enter f (args.map a.eval)) w:=by
       have:=callFunc_ok (P:=P) (w:=w) (htbP hraw f hbig hb) (args.map a.eval)
       obtain⟨dst,op,type,pos,after,guard⟩:=o
       simp only at hoe
       subst hoe
       simp[execOp,resolve,Act.eval,Deferred.ofValue,invoke,this]
      simp only[Oper.wp,hrun,Oper.upon]
      refine (hcallP hraw f _ _ _ _ hbig hstep ⟨Prot.prot,aside Prot.dead l fun i=>listed.getD i false⟩ w0 ρ w (args.map a.eval) R (by simpa using opds_ok ht hlx)).mono fun e w' hr=>?_
      obtain⟨ρ2,r1,r3,⟨u,rfl,r4⟩ | ⟨x,u,rfl,rfl,r4⟩⟩:=hr
      ·exact hnext (fun _ x hx=>pan_no r4 hx) ρ2 w' _ r1 (r3.fewer hfew) (put_rel (ht.mono r1) hdst r4) (hd' _)
      ·exact hQP hraw i a w' ρ2 x u hrp (Pl.le_trans hle r1) ⟨H1,hss,r3.fewer (D:=Prot.dead) fun d hd=>.inl hd⟩ r4 hd
end
end Go.Abs
namespace Go.Abs
theorem call_not_claim{P:Program}{c:Call}{b:Nat}{z:List AVal}{s:Option (Nat×Nat)}(h:cCall P c=some (.claim b z s)):False:=by
 unfold cCall at h
 repeat' split at h
 all_goals first
  | (simp at h; done)
  | (simp only[cond_eq_ite]at h; split at h <;> simp at h)
theorem cOpX_not_claim{P:Program}{o:Op}{b:Nat}{z:List AVal}{s:Option (Nat×Nat)}(h:cOpX P o=some (.claim b z s)):False:=by
 unfold cOpX at h
 repeat' split at h
 all_goals first
  | (simp at h; done)
  | (simp only[cond_eq_ite]at h; split at h <;> first | (simp at h; done) | (split at h <;> simp at h))
theorem cOp_not_claim{P:Program}{o:Op}{b:Nat}{z:List AVal}{s:Option (Nat×Nat)}(h:cOp P o=some (.claim b z s)):False:=by
 unfold cOp at h
 split at h
 ·rename_i a ha
  simp only[sJ]at h
  subst h
  exact cOpX_not_claim ha
 ·split at h
  ·rename_i a ha
   simp only[sJ]at h
   subst h
   cases o <;> simp only[cOp0,reduceCtorEq]at ha
   case call c _=>exact call_not_claim ha
   all_goals
    exfalso
    repeat' split at ha
    all_goals first
     | (simp at ha; done)
     | (simp only[cond_eq_ite]at ha; split at ha <;> simp at ha)
  ·simp at h
def NoClaim(l:List AOper):Prop:=∀a∈l,∀(c:Nat) (z:List AVal) (s:Option (Nat×Nat)),a.op≠.claim c z s
theorem opers_noClaim{P:Program}{n:Nat}{ops:Array Oper}:∀{rest:List Oper} {l:List AOper},cOpers P n ops rest=some l→NoClaim l:=by
 intro rest
 induction rest with
 | nil=>intro l h; simp only[cOpers,sJ]at h; subst h; intro a ha; simp at ha
 | cons o r ih=>
  intro l h
  simp only[cOpers]at h
  split at h
  ·rename_i a l' ha hl'
   simp only[sJ]at h
   subst h
   intro x hx c z s hc
   rcases List.mem_cons.1 hx with rfl | hx
   ·unfold cOper at ha
    split at ha
    ·rename_i ax g hopc hg
     cases hdst:okDst n o.dst with
     | false=>rw[hdst]at ha; simp at ha
     | true=>
      rw[hdst]at ha
      simp only[cond_true,sJ]at ha
      subst ha
      simp only at hc
      subst hc
      exact cOp_not_claim hopc
    ·simp at ha
   ·exact ih hl' x hx c z s hc
  ·simp at h
theorem claims_step(b:Nat)(o:AOper)(r:List AOper):(∃z s,claims b (o::r)=⟨o.dst,.claim b z s,o.guard⟩::claims (b+1) r∧∀H,reserves H (o::r)=reserves (H.push (.cells z 0 false)) r) ∨
  (claims b (o::r)=o::claims b r∧∀H,reserves H (o::r)=reserves H r):=by
 cases h:newOf o.op with
 | some p=>obtain⟨z,s⟩:=p; exact .inl ⟨z,s,by simp only[claims,h],fun H=>by simp only[reserves,h]⟩
 | none=>exact .inr ⟨by simp only[claims,h],fun H=>by simp only[reserves,h]⟩
theorem claims_ge:∀(l:List AOper) (b:Nat),NoClaim l→∀(i:Nat) (a:AOper) (c:Nat) (z:List AVal) (s:Option (Nat×Nat)),(claims b l)[i]?=some a→a.op=.claim c z s→b≤c
 | [],b,_,i,a,c,z,s,h,_=>by simp[claims]at h
 | o::r,b,hn,i,a,c,z,s,h,hc=>by
  have hr:NoClaim r:=fun x hx=>hn x (List.mem_cons_of_mem _ hx)
  rcases claims_step b o r with⟨z',s',e,_⟩ | ⟨e,_⟩
  ·rw[e]at h
   cases i with
   | zero=>
    simp only[List.getElem?_cons_zero,sJ]at h
    subst h
    simp only[AOp.claim.injEq]at hc
    omega
   | succ i=>
    simp only[List.getElem?_cons_succ]at h
    have:=claims_ge r (b+1) hr i a c z s h hc
    omega
  ·rw[e]at h
   cases i with
   | zero=>
    simp only[List.getElem?_cons_zero,sJ]at h
    subst h
    exact absurd hc (hn o (List.mem_cons_self ..) c z s)
   | succ i=>
    simp only[List.getElem?_cons_succ]at h
    exact claims_ge r b hr i a c z s h hc
theorem claims_inj:∀(l:List AOper) (b:Nat),NoClaim l→∀(i j:Nat) (a a':AOper) (c:Nat) (z z':List AVal) (s s':Option (Nat×Nat)),(claims b l)[i]?=some a→(claims b l)[j]?=some a'→a.op=.claim c z s→a'.op=.claim c z' s'→i=j
 | [],b,_,i,j,a,a',c,z,z',s,s',h,_,_,_=>by simp[claims]at h
 | o::r,b,hn,i,j,a,a',c,z,z',s,s',h,k,hc,kc=>by
  have hr:NoClaim r:=fun x hx=>hn x (List.mem_cons_of_mem _ hx)
  rcases claims_step b o r with⟨y,s9,e,_⟩ | ⟨e,_⟩
  ·rw[e]at h k
   cases i with
   | zero=>
    cases j with
    | zero=>rfl
    | succ j=>
     simp only[List.getElem?_cons_zero,sJ,List.getElem?_cons_succ]at h k
     subst h
     simp only[AOp.claim.injEq]at hc
     have:=claims_ge r (b+1) hr j a' c z' s' k kc
     omega
   | succ i=>
    cases j with
    | zero=>
     simp only[List.getElem?_cons_zero,sJ,List.getElem?_cons_succ]at h k
     subst k
     simp only[AOp.claim.injEq]at kc
     have:=claims_ge r (b+1) hr i a c z s h hc
     omega
    | succ j=>
     simp only[List.getElem?_cons_succ]at h k
     rw[claims_inj r (b+1) hr i j a a' c z z' s s' h k hc kc]
  ·rw[e]at h k
   cases i with
   | zero=>
    simp only[List.getElem?_cons_zero,sJ]at h
    subst h
    exact absurd hc (hn o (List.mem_cons_self ..) c z s)
   | succ i=>
    cases j with
    | zero=>
     simp only[List.getElem?_cons_zero,sJ]at k
     subst k
     exact absurd kc (hn o (List.mem_cons_self ..) c z' s')
    | succ j=>
     simp only[List.getElem?_cons_succ]at h k
     rw[claims_inj r b hr i j a a' c z z' s s' h k hc kc]
section
variable {w0:World} {ρ:Pl} {w:World}
theorem reserves_rel{pr:Nat→Prop}:∀(l:List AOper) (D:Nat→Prop) (H:AHeap),NoClaim l→Rel ⟨pr,D⟩ w0 ρ H w→Rel ⟨pr,aside D (claims H.next l) fun _=>false⟩ w0 ρ (reserves H l) w
 | [],D,H,_,R=>R.fewer (D:=aside D [] fun _=>false) fun d hd=>by
  rcases hd with hd | ⟨i,a,z,s,h,_⟩
  ·exact hd
  ·simp at h
 | o::r,D,H,hn,R=>by
  have hr:NoClaim r:=fun x hx=>hn x (List.mem_cons_of_mem _ hx)
  rcases claims_step H.next o r with⟨y,s9,e,f⟩ | ⟨e,f⟩
  ·rw[e,f]
   have:=reserves_rel r _ _ hr (R.reserve (.cells y 0 false) rfl)
   refine Rel.fewer this fun d hd=>?_
   rcases hd with hd | ⟨i,a,z,s,h,k,_⟩
   ·exact .inl (.inl hd)
   ·cases i with
    | zero=>
     simp only[List.getElem?_cons_zero,sJ]at h
     subst h
     simp only[AOp.claim.injEq]at k
     exact .inl (.inr k.1.symm)
    | succ i=>
     simp only[List.getElem?_cons_succ]at h
     exact .inr ⟨i,a,z,s,h,k,rfl⟩
  ·rw[e,f]
   have:=reserves_rel r _ _ hr R
   refine Rel.fewer this fun d hd=>?_
   rcases hd with hd | ⟨i,a,z,s,h,k,_⟩
   ·exact .inl hd
   ·cases i with
    | zero=>
     simp only[List.getElem?_cons_zero,sJ]at h
     subst h
     exact absurd k (hn o (List.mem_cons_self ..) d z s)
    | succ i=>
     simp only[List.getElem?_cons_succ]at h
     exact .inr ⟨i,a,z,s,h,k,rfl⟩
end
end Go.Abs
namespace Go.Abs
inductive ACode where
 | skip
 | reg (ops:List AOper)
 | draw (ops:List AOper) (chk:List (List Nat))
 | seq (a b:ACode)
 | cond (c:Opd) (a b:ACode)
 | block (id:Nat) (c:ACode)
 | loop (c:ACode)
 | exit (id:Nat)
 | ret
inductive AEx where
 | normal
 | exit (id:Nat)
 | ret
inductive ARes where
 | t (i:Nat)
 | cell (agg:Bool) (size:Nat) (i:Nat)
structure AFn where
 nt:Nat
 body:ACode
 res:List ARes
section
variable (tb:FuncId→Bool) (call:FuncId→List AVal→AHeap→Option (AVal×AHeap))
def aregs:List AOper→Tr AVal→AHeap→Option (Tr AVal×AHeap)
 | [],T,H=>some (T,H)
 | o::r,T,H=>bif gOK T o.guard then
   match aop tb T H o.op with
   | some (.val v,H')=>aregs r (aput T o.dst v) H'
   | some (.enter f args,H')=>match call f args H' with
    | some (v,H'')=>aregs r (aput T o.dst v) H''
    | none=>none
   | none=>none
  else aregs r (aput T o.dst undefA) H
def aloop(body:Tr AVal→AHeap→Option (AEx×Tr AVal×AHeap)):Nat→Tr AVal→AHeap→Option (AEx×Tr AVal×AHeap)
 | 0,_,_=>none
 | n+1,T,H=>match body T H with
  | some (.normal,T',H')=>aloop body n T' H'
  | some (e,T',H')=>some (e,T',H')
  | none=>none
def adraw(ops:List AOper)(chk:List (List Nat))(T:Tr AVal)(H:AHeap):Option (AEx×Tr AVal×AHeap):=
 match atrace tb call ops T H with
 | some ss=>bif chkRun tb (H::ss.map (·.2)) ops chk ss T then some (.normal,tsel (fun _=>true) 0 ops ss T,hAt H ss ops.length) else none
 | none=>none
def aexec(k:Nat):ACode→Tr AVal→AHeap→Option (AEx×Tr AVal×AHeap)
 | .skip,T,H=>some (.normal,T,H)
 | .reg ops,T,H=>match aregs tb call ops T H with
  | some (T',H')=>some (.normal,T',H')
  | none=>none
 | .draw ops chk,T,H=>adraw tb call (claims H.next ops) chk T (reserves H ops)
 | .seq a b,T,H=>match aexec k a T H with
  | some (.normal,T',H')=>aexec k b T' H'
  | some (e,T',H')=>some (e,T',H')
  | none=>none
 | .cond c a b,T,H=>match ev T c with
  | .bool true=>aexec k a T H
  | .bool false=>aexec k b T H
  | _=>none
 | .block id c,T,H=>match aexec k c T H with
  | some (.exit j,T',H')=>bif Nat.beq j id then some (.normal,T',H') else some (.exit j,T',H')
  | some (e,T',H')=>some (e,T',H')
  | none=>none
 | .loop c,T,H=>aloop (aexec k c) k T H
 | .exit id,T,H=>some (.exit id,T,H)
 | .ret,T,H=>some (.ret,T,H)
end
def ares(T:Tr AVal)(H:AHeap):List ARes→Option (List AVal)
 | []=>some []
 | .t i::r=>match ares T H r with
  | some l=>some (ev T (.t i)::l)
  | none=>none
 | .cell g n i::r=>match oLoad g n H (ev T (.t i)),ares T H r with
  | some x,some l=>some (x::l)
  | _,_=>none
def aresV:List AVal→AVal
 | [x]=>x
 | l=>.tuple l
def putArgs:List AVal→Nat→Tr AVal→Tr AVal
 | [],_,T=>T
 | x::r,i,T=>putArgs r (i+1) (T.set i x)
structure PMd where
 ps:List Nat
 df:Option (Nat×Nat×Bool)
structure ANat where
 is:FuncId→Bool
 run:FuncId→List AVal→AHeap→Option (AVal×AHeap)
 md:Nat→Option PMd
def tbA(N:ANat)(A:Tr AFn):FuncId→Bool:=fun f=>bif N.is f then true else match A.get f with | some _=>true | none=>false
def acall(N:ANat)(tab:Tr AFn):Nat→FuncId→List AVal→AHeap→Option (AVal×AHeap)
 | 0,_,_,_=>none
 | n+1,f,args,H=>bif N.is f then N.run f args H else match tab.get f with
  | some fn=>bif Nat.ble args.length fn.nt then
    match aexec (tbA N tab) (acall N tab n) n fn.body (putArgs args 0 .e) H with
    | some (.exit _,_,_)=>none
    | some (_,T,H')=>match ares T H' fn.res with
     | some l=>some (aresV l,H')
     | none=>none
    | none=>none
   else none
  | none=>none
section
variable (P:Program)
def stuckC:ACode:=.reg [⟨none,.bad,none⟩]
def cCode(n:Nat):Code→Option ACode
 | .skip=>some .skip
 | .region _ ops false=>match cOpers P n ops ops.toList with
  | some l=>some (.reg l)
  | none=>none
 | .region _ ops true=>match cOpers P n ops ops.toList with
  | some l=>bif okMask (ops.toList.map bindE) (masksGo [] (ops.toList.map bindE))&&okPairs (claims 0 l) (masksGo [] (ops.toList.map bindE)) then
    some (.draw l ((List.range l.length).map (chkOf (claims 0 l) (masksGo [] (ops.toList.map bindE))))) else some stuckC
  | none=>none
 | .seq a b=>match cCode n a,cCode n b with
  | some a,some b=>some (.seq a b)
  | _,_=>none
 | .cond c a b=>match cOpd c,cCode n a,cCode n b with
  | some c,some a,some b=>some (.cond c a b)
  | _,_,_=>none
 | .block id c=>match cCode n c with
  | some c=>some (.block id c)
  | none=>none
 | .loop c=>match cCode n c with
  | some c=>some (.loop c)
  | none=>none
 | .exit id=>some (.exit id)
 | .ret=>some .ret
 | _=>some stuckC
def cRes:List ResultVar→Option (List ARes)
 | []=>some []
 | .tmp t::r=>match cRes r with
  | some l=>some (.t t::l)
  | none=>none
 | .cell a t::r=>match tyOf P t,cRes r with
  | some (g,n),some l=>some (.cell g n a::l)
  | _,_=>none
def cFn(f:FuncId):Option AFn:=
 match P.funcs[f]? with
 | some fn=>match fn.body with
  | some c => bif fn.name == "runtime.NumGoroutine" then none else
   match cCode P fn.ntmps c,cRes P fn.results.toList with
   | some b,some r=>some ⟨fn.ntmps,b,r⟩
   | _,_=>none
  | none=>none
 | none=>none
end
section
variable {P:Program} {Prot:Gh} {w0:World} {ρ:Pl} {H H':AHeap} {w:World}
def SimQ(P:Program)(Prot:Gh)(w0:World)(ds:List Deferred)(ρ:Pl)(n:Nat)(e:AEx)(T:Tr AVal)(H:AHeap):Exit→Act→World→Prop:=fun e' a w=>
 (match e with | .normal=>e'=.normal | .exit id=>e'=.exit id | .ret=>e'=.ret)∧∃ρ',ρ.le ρ'∧Rel Prot w0 ρ' H w∧TmpsRel ρ' n T a.tmps∧a.defers=ds
theorem regs_sim{tb:FuncId→Bool}(htb:∀f,Nat.blt f BIG=true→tb f=true→hasBody P f=true){call:FuncId→List AVal→AHeap→Option (AVal×AHeap)}(hcall:CallOK P call){ds:List Deferred}{n:Nat}{ops:Array Oper}{Q:Exit→Act→World→Prop} :
  ∀(rest:List Oper) (i:Nat) (l:List AOper),(∀j,rest[j]?=ops[i+j]?)→cOpers P n ops rest=some l→∀(ρ0 ρ:Pl) (T T':Tr AVal) (H H':AHeap) (a:Act) (w:World),ρ0.le ρ →
   Rel Prot w0 ρ H w→TmpsRel ρ n T a.tmps→a.defers=ds→aregs tb call l T H=some (T',H') →
   (∀a' w',(∃ρ',ρ0.le ρ'∧Rel Prot w0 ρ' H' w'∧TmpsRel ρ' n T' a'.tmps∧a'.defers=ds)→Q .normal a' w')→wpOps P ops Q (List.range' i rest.length) a w:=by
 intro rest
 induction rest with
 | nil=>
  intro i l _ hc ρ0 ρ T T' H H' a w hle R ht hd h hQ
  simp only[cOpers,sJ]at hc
  subst hc
  simp only[aregs,sJ,pJ]at h
  obtain⟨rfl,rfl⟩:=h
  exact hQ a w ⟨ρ,hle,R,ht,hd⟩
 | cons o rest ih=>
  intro i l hi hc ρ0 ρ T T' H H' a w hle R ht hd h hQ
  simp only[cOpers]at hc
  split at hc
  ·rename_i ao l' ha hl
   simp only[sJ]at hc
   subst hc
   have ho:ops[i]?=some o:=by have:=hi 0; simpa using this.symm
   have hnext:∀j,rest[j]?=ops[i+1+j]?:=fun j=>by have:=hi (j+1); simp only[List.getElem?_cons_succ]at this; rw[this]; congr 1; omega
   unfold cOper at ha
   split at ha
   ·rename_i ax g hop hg
    cases hdst:okDst n o.dst with
    | false=>rw[hdst]at ha; simp at ha
    | true=>
     rw[hdst]at ha
     simp only[cond_true,sJ]at ha
     subst ha
     simp only[List.length_cons,List.range'_succ,wpOps,ho]
     simp only[aregs]at h
     rw[guard_ok ht hg]
     cases hgo:gOK T g with
     | false=>
      rw[hgo]at h
      simp only[cond_false]at h
      simp only[Bool.false_eq_true,if_false]
      refine ih (i+1) l' hnext hl ρ0 ρ _ _ _ _ _ _ hle R (put_rel ht hdst undef_rel) ?_ h hQ
      cases hx:o.dst <;> simpa[Act.put] using hd
     | true=>
      rw[hgo]at h
      simp only[cond_true]at h
      simp only[if_true]
      left
      split at h
      ·rename_i v H1 hv
       obtain⟨ρ1,w1,nx,q1,q2,q3,q4⟩:=op_sim htb R ht o hop hv
       simp only[Oper.wp,q2]
       have hd':∀u,(a.put o.dst u).defers=ds:=fun u=>by cases hx:o.dst <;> simpa[Act.put] using hd
       cases nx <;> simp only[NxRel]at q4
       case value u=>exact ih (i+1) l' hnext hl ρ0 ρ1 _ _ _ _ _ _ (Pl.le_trans hle q1) q3 (put_rel (ht.mono q1) hdst q4) (hd' _) h hQ
       case skip=>exact ih (i+1) l' hnext hl ρ0 ρ1 _ _ _ _ _ _ (Pl.le_trans hle q1) q3 (put_rel (ht.mono q1) hdst q4) (hd' _) h hQ
      ·rename_i f args H1 hv
       split at h
       ·rename_i v H2 hcl
        obtain⟨ρ1,w1,nx,q1,q2,q3,q4⟩:=op_sim htb R ht o hop hv
        simp only[Oper.wp,q2]
        have hd':∀u,(a.put o.dst u).defers=ds:=fun u=>by cases hx:o.dst <;> simpa[Act.put] using hd
        cases nx <;> simp only[NxRel]at q4
        case enter g vs=>
         obtain⟨rfl,hbig,q5⟩:=q4
         simp only[Oper.upon]
         refine (hcall _ _ _ _ _ hbig hcl Prot w0 ρ1 w1 vs q3 q5).mono fun e w' hr=>?_
         obtain⟨ρ2,u,r1,rfl,r3,r4⟩:=hr
         exact ih (i+1) l' hnext hl ρ0 ρ2 _ _ _ _ _ _ (Pl.le_trans hle (Pl.le_trans q1 r1)) r3 (put_rel ((ht.mono q1).mono r1) hdst r4) (hd' _) h hQ
       ·simp at h
      ·simp at h
   ·simp at ha
  ·simp at hc
theorem SimQ.weaken{ds:List Deferred}{ρ ρ':Pl}{n:Nat}{e:AEx}{T:Tr AVal}{H:AHeap}(h:ρ.le ρ'){e':Exit}{a:Act}{w:World}(q:SimQ P Prot w0 ds ρ' n e T H e' a w):SimQ P Prot w0 ds ρ n e T H e' a w:=by
 obtain⟨h1,ρ2,h2,h3⟩:=q
 exact⟨h1,ρ2,Pl.le_trans h h2,h3⟩
theorem stuck_none{tb:FuncId→Bool}{call:FuncId→List AVal→AHeap→Option (AVal×AHeap)}{k:Nat}{T:Tr AVal}{H:AHeap}:aexec tb call k stuckC T H=none:=rfl
theorem code_sim(hfol:P.follows .mixedOrders=true){tb:FuncId→Bool}(htb:∀f,Nat.blt f BIG=true→tb f=true→hasBody P f=true){call:FuncId→List AVal→AHeap→Option (AVal×AHeap)}(hcall:CallOK P call){ds:List Deferred}{n k:Nat} :
  ∀(c:Code) (ac:ACode),cCode P n c=some ac→∀(ρ:Pl) (T T':Tr AVal) (H H':AHeap) (e:AEx) (a:Act) (w:World),
   Rel Prot w0 ρ H w→TmpsRel ρ n T a.tmps→a.defers=ds→aexec tb call k ac T H=some (e,T',H')→c.wp P (SimQ P Prot w0 ds ρ n e T' H') a w:=by
 intro c
 induction c with
 | skip=>
  intro ac hc ρ T T' H H' e a w R ht hd h
  simp only[cCode,sJ]at hc; subst hc
  simp only[aexec,sJ,pJ]at h
  obtain⟨rfl,rfl,rfl⟩:=h
  exact wp_skip ⟨rfl,ρ,Pl.le_refl _,R,ht,hd⟩
 | region id ops draw=>
  intro ac hc ρ T T' H H' e a w R ht hd h
  cases draw with
  | true=>
   simp only[cCode]at hc
   split at hc
   ·rename_i l hl
    cases hck:(okMask (ops.toList.map bindE) (masksGo [] (ops.toList.map bindE))&&okPairs (claims 0 l) (masksGo [] (ops.toList.map bindE))) with
    | false=>
     rw[hck]at hc
     simp only[cond_false,sJ]at hc; subst hc
     simp[stuck_none]at h
    | true=>
     rw[hck]at hc
     simp only[cond_true,sJ]at hc; subst hc
     simp only[Bool.and_eq_true]at hck
     have hnc:=opers_noClaim hl
     have hlk:=claims_like l H.next 0
     have hok:okPairs (claims H.next l) (masksGo [] (ops.toList.map bindE))=true:=by rw[okPairs_like hlk]; exact hck.2
     have hlen:(claims H.next l).length=ops.toList.length:=(claims_at hl H.next).1
     have hll:l.length=(claims H.next l).length:=by rw[hlen]; exact (opers_at hl).1
     have hchk:(List.range l.length).map (chkOf (claims 0 l) (masksGo [] (ops.toList.map bindE)))=(List.range (claims H.next l).length).map (chkOf (claims H.next l) (masksGo [] (ops.toList.map bindE))):=by
      rw[hll]
      exact List.map_congr_left fun j _=>(chkOf_like hlk _ j).symm
     have hbase:∀d,Prot.dead d→d<H.next:=fun d hd=>(R.dead d hd).1
     have R:=reserves_rel (pr:=Prot.prot) l Prot.dead H hnc R
     simp only[aexec,adraw]at h
     rw[hchk]at h
     generalize hcl:claims H.next l=m at *
     generalize hrv:reserves H l=K at *
     split at h
     ·rename_i ss hss
      cases hr:chkRun tb (K::ss.map (·.2)) m ((List.range m.length).map (chkOf m (masksGo [] (ops.toList.map bindE)))) ss T with
      | false=>rw[hr]at h; simp at h
      | true=>
       rw[hr]at h
       simp only[cond_true,sJ,pJ]at h
       obtain⟨rfl,rfl,rfl⟩:=h
       refine wp_region_any hfol ?_
       have hN:m.length=ops.size:=by simpa using hlen
       have hrep:∀i,(Array.replicate ops.size false).getD i false=false:=fun i=>by
        rw[Array.getD_eq_getD_getElem?,Array.getElem?_replicate]; split <;> rfl
       have hm0:(fun i=>(Array.replicate ops.size false).getD i false)=fun _=>false:=funext hrep
       have hst:stage (fun i=>(Array.replicate ops.size false).getD i false) 0 m=stage (fun _=>false) 0 m:=stage_congr m 0 fun c o _ _=>by simp only[hrep]
       have hH:hAt K ss (stage (fun _=>false) 0 m)=K:=by
        obtain⟨q1,q2,q3,q4⟩:=stage_spec (fun _=>false) m 0
        have:=heap_between hss (stage (fun _=>false) 0 m) 0 om fun c o _ hlt ho=>by
         cases hx:isChain o.op with
         | false=>rfl
         | true=>have:=q3 c o ho hx om; simp at this
        rw[Nat.zero_add]at this
        rw[this]; rfl
       refine draw_any (RAW:=False) (rp:=fun _=>False) (Prot:=Prot) (w0:=w0) htb hcall (fun h=>h.elim) (fun h=>h.elim) (base:=H.next) hlen (by rw[← hcl]; exact fun j o hj=>let ⟨a,q1,q2⟩:=(claims_at hl H.next).2 j o hj; ⟨a,q1,.inl ⟨fun h=>h,q2.imp_right .inl⟩⟩) hbase (by rw[← hcl]; exact claims_inj l H.next hnc) hck.1 hok hss hr (ρ0:=ρ) (fun a' w' hx=>⟨rfl,hx⟩) (fun h=>h.elim) ops.size _ a _ (by simp) ?_ (fun j _ hj=>by rw[hrep]at hj; simp at hj) (fun c h=>h.elim) ⟨ρ,Pl.le_refl _,?_,?_,hd⟩
       ·rw[hm0]
        have:∀k,unl (fun _=>false) k=k:=by
         intro k
         induction k with
         | zero=>rfl
         | succ k ih=>simp only[unl,ih,cond_false]
        exact this _
       ·rw[hst,hH,hm0]; exact R.drew
       ·refine ht.congr fun t=>?_
        rw[hm0]
        have:∀(l:List AOper) (ss:List (AVal×AHeap)) (k:Nat) (T:Tr AVal),tsel (fun _=>false) k l ss T=T:=by
         intro l
         induction l with
         | nil=>intro ss k T; cases ss <;> rfl
         | cons o r ih=>intro ss k T; cases ss with
          | nil=>rfl
          | cons s ss=>obtain⟨x,y⟩:=s; simp only[tsel,cond_false,ih]
        rw[this]
     ·simp at h
   ·simp at hc
  | false=>
   simp only[cCode]at hc
   split at hc
   ·rename_i l hl
    simp only[sJ]at hc; subst hc
    simp only[aexec]at h
    split at h
    ·rename_i T1 H1 h1
     simp only[sJ,pJ]at h
     obtain⟨rfl,rfl,rfl⟩:=h
     refine wp_region ?_
     have:=regs_sim (Prot:=Prot) (w0:=w0) htb hcall (Q:=SimQ P Prot w0 ds ρ n .normal T1 H1) ops.toList 0 l (fun j=>by simp) hl ρ ρ T T1 H H1 a w (Pl.le_refl _) R ht hd h1 (fun a' w' h=>⟨rfl,h⟩)
     rw[List.range_eq_range']
     simpa using this
    ·simp at h
   ·simp at hc
 | seq x y ihx ihy=>
  intro ac hc ρ T T' H H' e a w R ht hd h
  simp only[cCode]at hc
  split at hc
  ·rename_i ax ay hx hy
   simp only[sJ]at hc; subst hc
   simp only[aexec]at h
   split at h
   ·rename_i T1 H1 h1
    refine wp_seq (wp_mono (ihx _ hx ρ T T1 H H1 .normal a w R ht hd h1) ?_)
    rintro e1 a1 w1 ⟨he,ρ1,hl,R1,ht1,hd1⟩
    simp only at he
    subst he
    exact wp_mono (ihy _ hy ρ1 T1 T' H1 H' e a1 w1 R1 ht1 hd1 h) fun _ _ _ q=>q.weaken hl
   ·rename_i e1 T1 H1 hne h1
    simp only[sJ,pJ]at h
    obtain⟨rfl,rfl,rfl⟩:=h
    refine wp_seq (wp_mono (ihx _ hx ρ T T1 H H1 e1 a w R ht hd h1) ?_)
    rintro e2 a1 w1 q
    cases e1 with
    | normal=>exact (hne rfl).elim
    | exit id=>have:=q.1; simp only at this; subst this; exact q
    | ret=>have:=q.1; simp only at this; subst this; exact q
   ·simp at h
  ·simp at hc
 | cond c x y ihx ihy=>
  intro ac hc ρ T T' H H' e a w R ht hd h
  simp only[cCode]at hc
  split at hc
  ·rename_i c' ax ay hcc hx hy
   simp only[sJ]at hc; subst hc
   simp only[aexec]at h
   have hv:=opd_ok ht hcc
   split at h
   ·rename_i hb
    rw[hb]at hv
    simp only[VRel]at hv
    exact wp_cond_true hv (ihx _ hx ρ T T' H H' e a w R ht hd h)
   ·rename_i hb
    rw[hb]at hv
    simp only[VRel]at hv
    exact wp_cond_false hv (ihy _ hy ρ T T' H H' e a w R ht hd h)
   ·simp at h
  ·simp at hc
 | block id c ih=>
  intro ac hc ρ T T' H H' e a w R ht hd h
  simp only[cCode]at hc
  split at hc
  ·rename_i ax hx
   simp only[sJ]at hc; subst hc
   simp only[aexec]at h
   split at h
   ·rename_i j T1 H1 h1
    refine wp_block (wp_mono (ih _ hx ρ T T1 H H1 (.exit j) a w R ht hd h1) ?_)
    rintro e1 a1 w1 q
    have he:=q.1
    simp only at he
    subst he
    cases hb:Nat.beq j id with
    | true=>
     rw[hb]at h
     simp only[cond_true,sJ,pJ]at h
     obtain⟨rfl,rfl,rfl⟩:=h
     have:=Nat.eq_of_beq_eq_true hb
     simp only[Exit.inBlock,this,if_true]
     exact⟨rfl,q.2⟩
    | false=>
     rw[hb]at h
     simp only[cond_false,sJ,pJ]at h
     obtain⟨rfl,rfl,rfl⟩:=h
     have:¬j=id:=fun e=>by rw[e,Nat.beq_refl]at hb; simp at hb
     simp only[Exit.inBlock,this,if_false]
     exact q
   ·rename_i e1 T1 H1 hne h1
    simp only[sJ,pJ]at h
    obtain⟨rfl,rfl,rfl⟩:=h
    refine wp_block (wp_mono (ih _ hx ρ T T1 H H1 e1 a w R ht hd h1) ?_)
    rintro e2 a1 w1 q
    cases e1 with
    | normal=>have:=q.1; simp only at this; subst this; exact q
    | exit j=>exact (hne _ rfl).elim
    | ret=>have:=q.1; simp only at this; subst this; exact q
   ·simp at h
  ·simp at hc
 | loop c ih=>
  intro ac hc ρ T T' H H' e a w R ht hd h
  simp only[cCode]at hc
  split at hc
  ·rename_i ax hx
   simp only[sJ]at hc; subst hc
   simp only[aexec]at h
   refine wp_loop_rounds k ?_
   have key:∀(m:Nat) (T:Tr AVal) (H:AHeap) (ρ1:Pl) (a:Act) (w:World),ρ.le ρ1→Rel Prot w0 ρ1 H w→TmpsRel ρ1 n T a.tmps→a.defers=ds →
     aloop (aexec tb call k ax) m T H=some (e,T',H')→Code.rounds P c (SimQ P Prot w0 ds ρ n e T' H') m a w:=by
    intro m
    induction m with
    | zero=>intro T H ρ1 a w _ _ _ _ h; simp[aloop]at h
    | succ m ihm=>
     intro T H ρ1 a w hl R ht hd h
     rw[rounds_succ]
     simp only[aloop]at h
     split at h
     ·rename_i T1 H1 h1
      refine wp_mono (ih _ hx ρ1 T T1 H H1 .normal a w R ht hd h1) ?_
      rintro e1 a1 w1 ⟨he,ρ2,hl2,R1,ht1,hd1⟩
      simp only at he
      subst he
      exact ihm T1 H1 ρ2 a1 w1 (Pl.le_trans hl hl2) R1 ht1 hd1 h
     ·rename_i e1 T1 H1 hne h1
      simp only[sJ,pJ]at h
      obtain⟨rfl,rfl,rfl⟩:=h
      refine wp_mono (ih _ hx ρ1 T T1 H H1 e1 a w R ht hd h1) ?_
      rintro e2 a1 w1 q
      have q':=q.weaken hl
      cases e1 with
      | normal=>exact (hne rfl).elim
      | exit id=>have:=q.1; simp only at this; subst this; exact q'
      | ret=>have:=q.1; simp only at this; subst this; exact q'
     ·simp at h
   exact key k T H ρ a w (Pl.le_refl _) R ht hd h
  ·simp at hc
 | exit id=>
  intro ac hc ρ T T' H H' e a w R ht hd h
  simp only[cCode,sJ]at hc; subst hc
  simp only[aexec,sJ,pJ]at h
  obtain⟨rfl,rfl,rfl⟩:=h
  exact wp_exit ⟨rfl,ρ,Pl.le_refl _,R,ht,hd⟩
 | ret=>
  intro ac hc ρ T T' H H' e a w R ht hd h
  simp only[cCode,sJ]at hc; subst hc
  simp only[aexec,sJ,pJ]at h
  obtain⟨rfl,rfl,rfl⟩:=h
  exact wp_ret ⟨rfl,ρ,Pl.le_refl _,R,ht,hd⟩
 | _=>
  intro ac hc ρ T T' H H' e a w R ht hd h
  simp only[cCode,sJ]at hc; subst hc
  simp[stuck_none]at h
theorem res_sim{n:Nat}(R:Rel Prot w0 ρ H w){T:Tr AVal}{tmps:Array Value}(ht:TmpsRel ρ n T tmps):∀{rs:List ResultVar} {l:List ARes},cRes P rs=some l→∀{xs:List AVal},ares T H l=some xs →
  ∃vs:List Value,(rs.mapM (fun r=>match r with
   | .tmp t=>Pure.pure (tmps.getD t undef)
   | .cell a t=>do loadVar t (← asAddr (tmps.getD a undef))):Sem (List Value)).run P w=.ok vs w∧VRels ρ xs vs:=by
 intro rs
 induction rs with
 | nil=>
  intro l hc xs h
  simp only[cRes,sJ]at hc; subst hc
  simp only[ares,sJ]at h; subst h
  exact⟨[],rfl,by simp[VRels]⟩
 | cons r rs ih=>
  intro l hc xs h
  cases r with
  | tmp t=>
   simp only[cRes]at hc
   split at hc
   ·rename_i l' hl
    simp only[sJ]at hc; subst hc
    simp only[ares]at h
    split at h
    ·rename_i ys hy
     simp only[sJ]at h; subst h
     obtain⟨vs,h1,h2⟩:=ih hl hy
     refine⟨tmps.getD t undef::vs,?_,by simp only[VRels]; exact⟨_,_,rfl,ht.at_ t,h2⟩⟩
     simp only[List.mapM_cons,Sem.run_bind,Sem.run_pure,Result.andThen_ok,h1]
    ·simp at h
   ·simp at hc
  | cell a t=>
   simp only[cRes]at hc
   split at hc
   ·rename_i g k l' hk hl
    simp only[sJ]at hc; subst hc
    simp only[ares]at h
    split at h
    ·rename_i x ys hx hy
     simp only[sJ]at h; subst h
     obtain⟨vs,h1,h2⟩:=ih hl hy
     obtain⟨u,u1,u2⟩:=load_ok (P:=P) R (ty_of hk) (ht.at_ a) hx
     have hp:∃ad,tmps.getD a undef=.pointer (some ad):=by
      have hat:=ht.at_ a
      unfold oLoad at hx
      split at hx
      ·rename_i ad heq
       rw[heq]at hat
       simp only[VRel]at hat
       obtain⟨L,_,_,e⟩:=hat
       exact⟨_,e⟩
      ·simp at hx
     obtain⟨ad,had⟩:=hp
     refine⟨u::vs,?_,by simp only[VRels]; exact⟨_,_,rfl,u2,h2⟩⟩
     have:(loadVar t ad).run P w=.ok u w:=by
      rw[had]at u1
      simpa[Instr.loadAt,Instr.sureAddr] using u1
     have hA:(asAddr (tmps.getD a undef)).run P w=.ok ad w:=by rw[had]; rfl
     simp only[List.mapM_cons,Sem.run_bind,hA,Sem.run_pure,Result.andThen_ok,this,h1]
    ·simp at h
   ·simp at hc
theorem results_sim{n:Nat}(R:Rel Prot w0 ρ H w){T:Tr AVal}{tmps:Array Value}(ht:TmpsRel ρ n T tmps){fn:Func}{l:List ARes}(hc:cRes P fn.results.toList=some l){xs:List AVal}(h:ares T H l=some xs) :
  ∃v,(results fn tmps).run P w=.ok v w∧VRel ρ (aresV xs) v:=by
 obtain⟨vs,h1,h2⟩:=res_sim (P:=P) R ht hc h
 have hl:=VRels.len h2
 have hm:(fn.results.mapM (fun r=>match r with
   | .tmp t=>Pure.pure (tmps.getD t undef)
   | .cell a t=>do loadVar t (← asAddr (tmps.getD a undef))):Sem (Array Value)).run P w=.ok vs.toArray w:=by
  rw[Array.mapM_eq_mapM_toList]
  simp only[Sem.run_map,h1,Result.andThen_ok]
 refine⟨if h:vs.toArray.size=1 then vs.toArray[0] else .tuple vs.toArray,?_,?_⟩
 ·have e:results fn tmps=(fn.results.mapM (fun r=>match r with
   | .tmp t=>Pure.pure (tmps.getD t undef)
   | .cell a t=>do loadVar t (← asAddr (tmps.getD a undef))):Sem (Array Value)) >>= fun vs=>Pure.pure (if h:vs.size=1 then vs[0] else .tuple vs):=rfl
  rw[e,Sem.run_bind,hm]
  rfl
 ·match xs,vs,h2,hl with
  | [x],[v],h2,_=>
   simp only[VRels]at h2
   obtain⟨v',r,e,h3,_⟩:=h2
   simp only[List.cons.injEq]at e
   obtain⟨rfl,rfl⟩:=e
   exact h3
  | [],[],h2,_=>simp only[aresV,VRel]; exact⟨_,rfl,h2⟩
  | x::y::xs,v::u::vs,h2,_=>simp only[aresV,VRel]; exact⟨_,rfl,h2⟩
theorem args_sim:∀(args:List AVal) (vs:List Value) (i:Nat) (T:Tr AVal),VRels ρ args vs→(∀t,i≤t→T.get t=none) →
  ∀t,ev (putArgs args i T) (.t t)=if t<i then ev T (.t t) else match args[t-i]? with | some x=>x | none=>undefA:=by
 intro args
 induction args with
 | nil=>
  intro vs i T _ hn t
  simp only[putArgs]
  split
  ·rfl
  ·rename_i h
   simp[ev,hn t om]
 | cons x r ih=>
  intro vs i T hv hn t
  simp only[VRels]at hv
  obtain⟨v,vs',rfl,h1,h2⟩:=hv
  simp only[putArgs]
  rw[ih vs' (i+1) (T.set i x) h2 (fun t ht=>by rw[Tr.get_set,if_neg om]; exact hn t om) t]
  by_cases c1:t<i
  ·rw[if_pos om,if_pos c1]
   simp only[ev,Tr.get_set]
   rw[if_neg om]
  ·by_cases c2:t=i
   ·subst c2
    rw[if_pos om,if_neg c1]
    simp[ev,Tr.get_set]
   ·rw[if_neg om,if_neg c1,show t-i=(t-(i+1))+1 by omega]
    simp
theorem start_sim{args:List AVal}{vs:Array Value}(hv:VRels ρ args vs.toList){n:Nat}(hn:args.length≤n):TmpsRel ρ n (putArgs args 0 .e) (vs++Array.replicate (n-vs.size) undef):=by
 have hl:=VRels.len hv
 simp only[Array.length_toList]at hl
 refine⟨by simp; omega,fun t=>?_⟩
 rw[args_sim args vs.toList 0 .e hv (fun _ _=>rfl) t]
 rw[if_neg om,Nat.sub_zero]
 by_cases ht:t<args.length
 ·have hx:args[t]?=some args[t]:=List.getElem?_eq_getElem ht
  obtain⟨v,h1,h2⟩:=hv.nth _ _ hx
  rw[hx]
  rw[Array.getElem?_toList]at h1
  have:(vs++Array.replicate (n-vs.size) undef).getD t undef=v:=by
   rw[Array.getD_eq_getD_getElem?,Array.getElem?_append_left om,h1]; rfl
  rw[this]
  exact h2
 ·have hx:args[t]?=none:=List.getElem?_eq_none om
  rw[hx]
  have:(vs++Array.replicate (n-vs.size) undef).getD t undef=undef:=by
   rw[Array.getD_eq_getD_getElem?,Array.getElem?_append_right om]
   by_cases h:t-vs.size<n-vs.size
   ·simp[h]
   ·simp[h]
  rw[this]
  exact undef_rel
theorem cFn_spec {f : FuncId} {fn : AFn} (h : cFn P f = some fn) : ∃ fc code, P.funcs[f]? = some fc ∧ fc.body = some code ∧ (fc.name == "runtime.NumGoroutine") = false ∧ fc.ntmps = fn.nt ∧ cCode P fn.nt code = some fn.body ∧ cRes P fc.results.toList = some fn.res := by
 unfold cFn at h
 split at h
 ·rename_i fc hf
  split at h
  ·rename_i c hb
   cases hn : (fc.name == "runtime.NumGoroutine") with
   | true=>rw[hn]at h; simp at h
   | false=>
    rw[hn]at h
    simp only[cond_false]at h
    split at h
    ·rename_i b r h1 h2
     simp only[sJ]at h
     subst h
     exact⟨fc,c,hf,hb,hn,rfl,h1,h2⟩
    ·simp at h
  ·simp at h
 ·simp at h
structure NatOK(P:Program)(N:ANat):Prop where
 body:∀f,N.is f=true→hasBody P f=true
 run:CallOK P N.run
def noNat:ANat:=⟨fun _=>false,fun _ _ _=>none,fun _=>none⟩
theorem noNat_ok:NatOK P noNat:=⟨fun f h=>by simp[noNat]at h,fun f args H v H' _ h=>by simp[noNat]at h⟩
end
end Go.Abs
namespace Go.Abs
def opdT(n:Nat):Opd→Bool
 | .t i=>Nat.blt i n
 | _=>true
def opdsT(n:Nat):List Opd→Bool
 | []=>true
 | x::r=>opdT n x&&opdsT n r
def opdOT(n:Nat):Option Opd→Bool
 | none=>true
 | some x=>opdT n x
def partsT(n:Nat):List (Nat×Nat×Opd)→Bool
 | []=>true
 | (_,_,x)::r=>opdT n x&&partsT n r
def aopT(n:Nat):AOp→Bool
 | .mv x=>opdT n x
 | .pick c a b=>opdT n c&&(opdT n a&&opdT n b)
 | .new _=>true
 | .box x=>opdT n x
 | .build _ ps=>partsT n ps
 | .buildSl _ _ ps=>partsT n ps
 | .load _ _ x=>opdT n x
 | .store _ a x=>opdT n a&&opdT n x
 | .nilChk x=>opdT n x
 | .bin _ x y=>opdT n x&&opdT n y
 | .un _ x=>opdT n x
 | .conv _ x=>opdT n x
 | .convSB x=>opdT n x
 | .convBS x=>opdT n x
 | .mkFunc _ a b=>opdsT n a&&opdsT n b
 | .mkIface _ x=>opdT n x
 | .mkSlice _ _ l c=>opdT n l&&opdT n c
 | .sl _ x a b c=>opdT n x&&(opdOT n a&&(opdOT n b&&opdOT n c))
 | .slStr x a b=>opdT n x&&(opdOT n a&&opdOT n b)
 | .fieldA _ x=>opdT n x
 | .field _ _ _ x=>opdT n x
 | .idxA _ x i=>opdT n x&&opdT n i
 | .idxArr _ _ x i=>opdT n x&&opdT n i
 | .idx _ _ _ x i=>opdT n x&&opdT n i
 | .idxS x i=>opdT n x&&opdT n i
 | .extract _ x=>opdT n x
 | .append _ _ s x=>opdT n s&&opdT n x
 | .len _ x=>opdT n x
 | .call _ l=>opdsT n l
 | .callv f l=>opdT n f&&opdsT n l
 | .pf _ l=>opdsT n l
 | .hf _ l=>opdsT n l
 | .bad=>true
 | .claim ..=>true
 | .slA _ _ x a b c=>opdT n x&&(opdOT n a&&(opdOT n b&&opdOT n c))
def gdTm(n:Nat):Option (Nat×Bool)→Bool
 | none=>true
 | some (t,_)=>Nat.blt (gS t) n
def aoperT(n:Nat)(o:AOper):Bool:=aopT n o.op&&(gdTm n o.guard&&okDst n o.dst)
def GE(n:Nat)(T U:Tr AVal):Prop:=(∀t,t<n→ev T (.t t)=ev U (.t t))∧∀t,n≤t→ev U (.t t)=undefA
section
variable {n:Nat} {T U:Tr AVal} {tb:FuncId→Bool} {call:FuncId→List AVal→AHeap→Option (AVal×AHeap)}
theorem blt_lt{a b:Nat}(h:Nat.blt a b=true):a<b:=Nat.le_of_ble_eq_true h
theorem GE.x(h:GE n T U){x:Opd}(hx:opdT n x=true):ev T x=ev U x:=by
 cases x with
 | t i=>exact h.1 i (blt_lt hx)
 | c v=>rfl
 | f i=>rfl
theorem GE.xs(h:GE n T U):∀{l:List Opd},opdsT n l=true→evs T l=evs U l
 | [],_=>rfl
 | x::r,hx=>by
  simp only[opdsT,Bool.and_eq_true]at hx
  simp only[evs,h.x hx.1,h.xs hx.2]
theorem GE.xO(h:GE n T U){x:Option Opd}(hx:opdOT n x=true):evO T x=evO U x:=by
 cases x with
 | none=>rfl
 | some x=>simp only[evO,h.x hx]
theorem GE.xP(h:GE n T U):∀{l:List (Nat×Nat×Opd)},partsT n l=true→evP T l=evP U l
 | [],_=>rfl
 | (a,b,x)::r,hx=>by
  simp only[partsT,Bool.and_eq_true]at hx
  simp only[evP,h.x hx.1,h.xP hx.2]
theorem aop_ge(h:GE n T U){o:AOp}(ho:aopT n o=true)(H:AHeap):aop tb T H o=aop tb U H o:=by
 cases o <;> simp only[aopT,Bool.and_eq_true]at ho <;> simp only[aop]
 case mv x=>rw[h.x ho]
 case pick c a b=>rw[h.x ho.1,h.x ho.2.1,h.x ho.2.2]
 case box x=>rw[h.x ho]
 case build z ps=>rw[h.xP ho]
 case buildSl m z ps=>rw[h.xP ho]
 case load a m x=>rw[h.x ho]
 case store m a x=>rw[h.x ho.1,h.x ho.2]
 case nilChk x=>rw[h.x ho]
 case bin op x y=>rw[h.x ho.1,h.x ho.2]
 case un op x=>rw[h.x ho]
 case conv k x=>rw[h.x ho]
 case convSB x=>rw[h.x ho]
 case convBS x=>rw[h.x ho]
 case mkFunc fn a b=>rw[h.xs ho.1,h.xs ho.2]
 case mkIface t x=>rw[h.x ho]
 case mkSlice b z l c=>rw[h.x ho.1,h.x ho.2]
 case sl m x a b c=>rw[h.x ho.1,h.xO ho.2.1,h.xO ho.2.2.1,h.xO ho.2.2.2]
 case slStr x a b=>rw[h.x ho.1,h.xO ho.2.1,h.xO ho.2.2]
 case fieldA o x=>rw[h.x ho]
 case field a m o x=>rw[h.x ho]
 case idxA m x i=>rw[h.x ho.1,h.x ho.2]
 case idxArr m k x i=>rw[h.x ho.1,h.x ho.2]
 case idx m k a x i=>rw[h.x ho.1,h.x ho.2]
 case idxS x i=>rw[h.x ho.1,h.x ho.2]
 case extract i x=>rw[h.x ho]
 case append m b s x=>rw[h.x ho.1,h.x ho.2]
 case len s x=>rw[h.x ho]
 case call f l=>rw[h.xs ho]
 case callv f l=>rw[h.x ho.1,h.xs ho.2]
 case pf f l=>rw[h.xs ho]
 case hf f l=>rw[h.xs ho]
 case slA m k x a b c=>rw[h.x ho.1,h.xO ho.2.1,h.xO ho.2.2.1,h.xO ho.2.2.2]
theorem gOK_ge(h:GE n T U){g:Option (Nat×Bool)}(hg:gdTm n g=true):gOK T g=gOK U g:=by
 cases g with
 | none=>rfl
 | some p=>
  obtain⟨t,b⟩:=p
  simp only[gOK,h.1 (gS t) (blt_lt hg)]
theorem ev_set(T:Tr AVal)(d t:Nat)(v:AVal):ev (T.set d v) (.t t)=if t=d then v else ev T (.t t):=by
 simp only[ev,Tr.get_set]
 split
 ·rename_i u h
  split at h
  ·rename_i e; rw[if_pos e]; simpa using h.symm
  ·rename_i e; rw[if_neg e,h]
 ·rename_i h
  split at h
  ·simp at h
  ·rename_i e; rw[if_neg e,h]
theorem ev_aput(T:Tr AVal)(d:Option Nat)(t:Nat)(v:AVal):ev (aput T d v) (.t t)=if d=some t then v else ev T (.t t):=by
 cases d with
 | none=>simp[aput]
 | some d=>
  simp only[aput,ev_set,sJ]
  by_cases e:t=d
  ·rw[if_pos e,if_pos e.symm]
  ·rw[if_neg e,if_neg fun q=>e q.symm]
theorem GE.put(h:GE n T U){d:Option Nat}(hd:okDst n d=true)(v:AVal):GE n (aput T d v) (aput U d v):=by
 refine⟨fun t ht=>?_,fun t ht=>?_⟩
 ·rw[ev_aput,ev_aput,h.1 t ht]
 ·rw[ev_aput,h.2 t ht,if_neg]
  rintro rfl
  have:=blt_lt hd
  omega
theorem GE.ghost(h:GE n T U){d:Nat}(hd:n≤d)(v:AVal):GE n (T.set d v) U:=
 ⟨fun t ht=>by rw[ev_set,if_neg om]; exact h.1 t ht,h.2⟩
def SameG(n:Nat)(T T':Tr AVal):Prop:=∀t,n≤t→ev T' (.t t)=ev T (.t t)
theorem SameG.put{d:Option Nat}(hd:okDst n d=true)(v:AVal):SameG n T (aput T d v):=fun t ht=>by
 rw[ev_aput,if_neg]
 rintro rfl
 have:=blt_lt hd
 omega
theorem SameG.trans{T1 T2:Tr AVal}(h:SameG n T T1)(k:SameG n T1 T2):SameG n T T2:=fun t ht=>(k t ht).trans (h t ht)
theorem astep_ge(h:GE n T U){o:AOper}(ho:aoperT n o=true)(H:AHeap):astep tb call o T H=astep tb call o U H:=by
 simp only[aoperT,Bool.and_eq_true]at ho
 simp only[astep,gOK_ge h ho.2.1,aop_ge h ho.1]
theorem aregs_step'(o:AOper)(r:List AOper)(T:Tr AVal)(H:AHeap):aregs tb call (o::r) T H=match astep tb call o T H with
  | some (v,H')=>aregs tb call r (aput T o.dst v) H'
  | none=>none:=by
 simp only[aregs,astep]
 cases gOK T o.guard with
 | false=>rfl
 | true=>
  simp only[cond_true]
  cases aop tb T H o.op with
  | none=>rfl
  | some p=>obtain⟨nx,H'⟩:=p; cases nx <;> rfl
theorem aregs_app:∀(l m:List AOper) (T:Tr AVal) (H:AHeap),aregs tb call (l++m) T H=match aregs tb call l T H with
  | some (T1,H1)=>aregs tb call m T1 H1
  | none=>none
 | [],m,T,H=>rfl
 | o::l,m,T,H=>by
  rw[List.cons_append,aregs_step',aregs_step']
  cases astep tb call o T H with
  | none=>rfl
  | some p=>obtain⟨v,H1⟩:=p; exact aregs_app l m _ _
theorem atrace_ge:∀(l:List AOper) {T U:Tr AVal} {H:AHeap},GE n T U→l.all (aoperT n)=true→atrace tb call l T H=atrace tb call l U H
 | [],_,_,_,_,_=>rfl
 | o::r,T,U,H,h,hl=>by
  simp only[List.all_cons,Bool.and_eq_true]at hl
  simp only[atrace]
  rw[astep_ge h hl.1]
  cases astep tb call o U H with
  | none=>rfl
  | some p=>
   obtain⟨v,H1⟩:=p
   have hd:okDst n o.dst=true:=by
    have:=hl.1
    simp only[aoperT,Bool.and_eq_true]at this
    exact this.2.2
   simp only
   rw[atrace_ge r (h.put hd v) hl.2]
theorem chkRun_ge(hs:List AHeap):∀(l:List AOper) (ps:List (List Nat)) (ss:List (AVal×AHeap)) {T U:Tr AVal},GE n T U→l.all (aoperT n)=true→chkRun tb hs l ps ss T=chkRun tb hs l ps ss U
 | [],_,_,_,_,_,_=>rfl
 | o::r,[],_,_,_,_,_=>rfl
 | o::r,p::ps,[],_,_,_,_=>rfl
 | o::r,p::ps,(v,H1)::ss,T,U,h,hl=>by
  simp only[List.all_cons,Bool.and_eq_true]at hl
  have ho:=hl.1
  simp only[aoperT,Bool.and_eq_true]at ho
  simp only[chkRun,gOK_ge h ho.2.1,aop_ge h ho.1,chkRun_ge hs r ps ss (h.put ho.2.2 v) hl.2]
theorem tsel_ge(m:Nat→Bool):∀(l:List AOper) (i:Nat) (ss:List (AVal×AHeap)) {T U:Tr AVal},GE n T U→l.all (aoperT n)=true→GE n (tsel m i l ss T) (tsel m i l ss U)∧SameG n T (tsel m i l ss T)
 | [],_,_,_,_,h,_=>⟨h,fun _ _=>rfl⟩
 | o::r,i,[],_,_,h,_=>⟨h,fun _ _=>rfl⟩
 | o::r,i,(v,H1)::ss,T,U,h,hl=>by
  simp only[List.all_cons,Bool.and_eq_true]at hl
  have ho:=hl.1
  simp only[aoperT,Bool.and_eq_true]at ho
  simp only[tsel]
  cases m i with
  | true=>
   obtain⟨q1,q2⟩:=tsel_ge m r (i+1) ss (h.put ho.2.2 v) hl.2
   exact⟨q1,(SameG.put ho.2.2 v).trans q2⟩
  | false=>exact tsel_ge m r (i+1) ss h hl.2
theorem adraw_ge{l:List AOper}{chk:List (List Nat)}{H H':AHeap}{e:AEx}{T':Tr AVal}(h:GE n T U)(hl:l.all (aoperT n)=true)(hr:adraw tb call l chk T H=some (e,T',H')) :
  e=.normal∧∃U',adraw tb call l chk U H=some (.normal,U',H')∧GE n T' U'∧SameG n T T':=by
 unfold adraw at hr ⊢
 rw[atrace_ge l h hl]at hr
 cases ht:atrace tb call l U H with
 | none=>rw[ht]at hr; simp at hr
 | some ss=>
  rw[ht]at hr
  simp only at hr ⊢
  rw[chkRun_ge _ l _ ss h hl]at hr
  cases hc:chkRun tb (H::ss.map (·.2)) l chk ss U with
  | false=>rw[hc]at hr; simp at hr
  | true=>
   rw[hc]at hr
   simp only[cond_true,sJ,pJ]at hr ⊢
   obtain⟨rfl,rfl,rfl⟩:=hr
   obtain⟨q1,q2⟩:=tsel_ge (fun _=>true) l 0 ss h hl
   exact⟨rfl,_,⟨trivial,rfl,rfl⟩,q1,q2⟩
theorem claims_T:∀(l:List AOper) (b:Nat),l.all (aoperT n)=true→(claims b l).all (aoperT n)=true
 | [],_,_=>rfl
 | o::r,b,hl=>by
  simp only[List.all_cons,Bool.and_eq_true]at hl
  simp only[claims]
  cases hz:newOf o.op with
  | none=>simp only[List.all_cons,hl.1,claims_T r b hl.2,Bool.and_self]
  | some p=>
   obtain⟨z,s⟩:=p
   have ho:=hl.1
   simp only[aoperT,Bool.and_eq_true]at ho
   simp only[List.all_cons,claims_T r (b+1) hl.2,aoperT,aopT,ho.2.1,ho.2.2,Bool.and_self]
end
end Go.Abs
namespace Go.Abs
def PB:Nat:=1000000
inductive PItem where
 | ord (o:AOper)
 | pnc (x:Opd)
 | dfr (x:Opd)
 | tc (f:Nat) (args:List Opd) (d:Option Nat) (g:Option (Nat×Bool))
def codeP(n:Nat):List PItem→List AOper→ACode
 | [],acc=>.reg acc.reverse
 | .ord o::r,acc=>codeP n r (o::acc)
 | .dfr x::r,acc=>codeP n r (⟨some (n+1),.pf .dset [.t (n+1),x],none⟩::acc)
 | .pnc x::_,acc=>.seq (.reg (acc.reverse++[⟨some n,.pf .mkP [x],none⟩])) (.exit PB)
 | .tc f args d g::r,acc=>.seq (.reg (acc.reverse++[⟨some (n+3),.call (BIG+f) args,g⟩,⟨some (n+2),.pf .isP [.t (n+3)],none⟩]))
   (.seq (.cond (.t (n+2)) (.seq (.reg [⟨some n,.mv (.t (n+3)),none⟩]) (.exit PB)) .skip) (codeP n r [⟨d,.mv (.t (n+3)),none⟩]))
section
variable (P:Program) (n:Nat) (ps:List Nat)
def cOrd(ops:Array Oper)(o:Oper):Option PItem:=match cOper P n ops o with
 | some a=>bif aoperT n a then some (.ord a) else none
 | none=>none
def isRawF(o:Op):Option (Nat×List Operand):=match o with
 | .call c=>match c.callee with
  | .value (.func f)=>bif ps.any (Nat.beq f) then some (f,c.args.toList) else none
  | _=>none
 | _=>none
def cItem(ops:Array Oper)(o:Oper):Option PItem:=match o.op with
 | .panic x=>match o.guard,cOpd x with
  | none,some y=>bif opdT n y then some (.pnc y) else none
  | _,_=>none
 | .defer c=>match o.guard,o.dst,c.callee with
  | none,none,.value x=>match c.args.toList,cOpd x with
   | [],some y=>bif opdT n y then some (.dfr y) else none
   | _,_=>none
  | _,_,_=>none
 | op=>match isRawF ps op with
  | some (f,l)=>match cOpds l,cGuard n ops o.guard with
   | some l,some g=>bif Nat.blt f BIG&&(opdsT n l&&(gdTm n g&&okDst n o.dst)) then some (.tc f l o.dst g) else none
   | _,_=>none
  | none=>cOrd P n ops o
def cItems(ops:Array Oper):List Oper→Option (List PItem)
 | []=>some []
 | o::r=>match cItem P n ps ops o,cItems ops r with
  | some a,some l=>some (a::l)
  | _,_=>none
def rawAt:Nat→List Oper→Option (Nat×Nat)
 | _,[]=>none
 | j,o::r=>match isRawF ps o.op,o.dst with
  | some _,some d=>some (j,d)
  | _,_=>rawAt (j+1) r
def cRaw(ops:Array Oper)(o:Oper):Option AOper:=match isRawF ps o.op with
 | some (f,l)=>match cOpds l,cGuard n ops o.guard with
  | some l,some g=>bif Nat.blt f BIG&&okDst n o.dst then some ⟨o.dst,.call (BIG+f) l,g⟩ else none
  | _,_=>none
 | none=>none
def gdOf(d:Nat)(a:AOper):Option AOper:=match a.guard,newOf a.op with
 | none,none=>some ⟨a.dst,a.op,some (SK+d,false)⟩
 | _,_=>none
def cPos(ops:Array Oper)(ms:List Nat)(c d:Nat)(j:Nat)(o:Oper):Option AOper:=
 bif Nat.beq j c then cRaw n ps ops o else match cOper P n ops o with
  | some a=>bif bit ms j c then gdOf d a else some a
  | none=>none
def cPoss(ops:Array Oper)(ms:List Nat)(c d:Nat):Nat→List Oper→Option (List AOper)
 | _,[]=>some []
 | j,o::r=>match cPos P n ps ops ms c d j o,cPoss ops ms c d (j+1) r with
  | some a,some l=>some (a::l)
  | _,_=>none
def onlyW(c d:Nat):Nat→List AOper→Bool
 | _,[]=>true
 | k,a::r=>(Nat.beq k c||!(a.dst==some d))&&onlyW c d (k+1) r
def cPlain(ops:Array Oper)(rest:List Oper):Option (List AOper×Option (Nat×Nat)):=match cOpers P n ops rest with
 | some l=>some (l,none)
 | none=>none
def cLast(ops:Array Oper)(rest:List Oper):Option (List AOper×Option (Nat×Nat)):=match rawAt ps 0 rest with
 | some (c,d)=>match cPoss P n ps ops (masksGo [] (ops.toList.map bindE)) c d 0 rest with
  | some l=>bif onlyW c d 0 l then some (l,some (c,d)) else cPlain P n ops rest
  | none=>cPlain P n ops rest
 | none=>cPlain P n ops rest
def cDrawP(ops:Array Oper):Option ACode:=match cLast P n ps ops ops.toList with
 | some (l,d)=>bif okMask (ops.toList.map bindE) (masksGo [] (ops.toList.map bindE))&&okPairs (claims 0 l) (masksGo [] (ops.toList.map bindE))&&l.all (aoperT n) then
   (match d with
    | none => some (.draw l ((List.range l.length).map (chkOf (claims 0 l) (masksGo [] (ops.toList.map bindE)))))
    | some (_, d) => some (.seq (.draw l ((List.range l.length).map (chkOf (claims 0 l) (masksGo [] (ops.toList.map bindE)))))
     (.seq (.reg [⟨some (n+2),.pf .isP [.t d],none⟩]) (.cond (.t (n+2)) (.seq (.reg [⟨some (n+2),.pf .isU [.t (n+1)],none⟩]) (.cond (.t (n+2)) (.seq (.reg [⟨some n,.mv (.t d),none⟩]) (.exit PB)) stuckC)) .skip))))
  else some stuckC
 | none=>none
def cCodeP:Code→Option ACode
 | .skip=>some .skip
 | .region _ ops false=>match cItems P n ps ops ops.toList with
  | some its=>some (codeP n its [])
  | none=>none
 | .region _ ops true=>cDrawP P n ps ops
 | .seq a b=>match cCodeP a,cCodeP b with
  | some a,some b=>some (.seq a b)
  | _,_=>none
 | .cond c a b=>match cOpd c,cCodeP a,cCodeP b with
  | some c,some a,some b=>bif opdT n c then some (.cond c a b) else none
  | _,_,_=>none
 | .block id c=>match cCodeP c with
  | some c=>bif Nat.beq id PB then none else some (.block id c)
  | none=>none
 | .loop c=>match cCodeP c with
  | some c=>some (.loop c)
  | none=>none
 | .exit id=>bif Nat.beq id PB then none else some (.exit id)
 | .ret=>some (.exit PB)
 | _=>some stuckC
end
section
variable {tb:FuncId→Bool} {call:FuncId→List AVal→AHeap→Option (AVal×AHeap)} {k:Nat}
theorem codeP_acc(n:Nat):∀(its:List PItem) (acc:List AOper) (T:Tr AVal) (H:AHeap),aexec tb call k (codeP n its acc) T H=match aregs tb call acc.reverse T H with
  | some (T1,H1)=>aexec tb call k (codeP n its []) T1 H1
  | none=>none
 | [],acc,T,H=>by
  simp only[codeP,aexec,List.reverse_nil,aregs] <;> (cases aregs tb call acc.reverse T H <;> rfl)
 | .ord o::r,acc,T,H=>by
  simp only[codeP]
  rw[codeP_acc n r (o::acc),List.reverse_cons,aregs_app]
  cases aregs tb call acc.reverse T H with
  | none=>rfl
  | some p=>
   obtain⟨T1,H1⟩:=p
   simp only
   rw[codeP_acc n r [o] T1 H1]
   rfl
 | .dfr x::r,acc,T,H=>by
  simp only[codeP]
  rw[codeP_acc n r (_::acc),List.reverse_cons,aregs_app]
  cases aregs tb call acc.reverse T H with
  | none=>rfl
  | some p=>
   obtain⟨T1,H1⟩:=p
   simp only
   rw[codeP_acc n r [_] T1 H1]
   rfl
 | .pnc x::r,acc,T,H=>by
  simp only[codeP,aexec,aregs_app,List.reverse_nil,List.nil_append]
  cases aregs tb call acc.reverse T H with
  | none=>rfl
  | some p=>rfl
 | .tc f l d g::r,acc,T,H=>by
  simp only[codeP,aexec,aregs_app,List.reverse_nil,List.nil_append]
  cases aregs tb call acc.reverse T H with
  | none=>rfl
  | some p=>rfl
end
section
variable {P:Program} {Prot:Gh} {w0:World} {ρ:Pl} {H H':AHeap} {w:World}
def DfR(ρ:Pl)(x:AVal)(ds:List Deferred):Prop:=(x=undefA∧ds=[]) ∨
 ∃f a b d cap,x=.func (.func f) a b∧ds=[d]∧d.target=.fn (.func f) cap∧VRels ρ b cap.toList∧VRels ρ a d.args.toList
theorem DfR.mono{ρ ρ':Pl}(h:ρ.le ρ'){x:AVal}{ds:List Deferred}(d:DfR ρ x ds):DfR ρ' x ds:=by
 rcases d with d | ⟨f,a,b,d,cap,h1,h2,h3,h4,h5⟩
 ·exact .inl d
 ·exact .inr ⟨f,a,b,d,cap,h1,h2,h3,VRels.mono h _ _ h4,VRels.mono h _ _ h5⟩
structure GT(ρ:Pl)(n:Nat)(T:Tr AVal)(a:Act):Prop where
 t:∃U,GE n T U∧TmpsRel ρ n U a.tmps
 d:DfR ρ (ev T (.t (n+1))) a.defers
theorem GT.mono{ρ ρ':Pl}(h:ρ.le ρ'){n:Nat}{T:Tr AVal}{a:Act}(g:GT ρ n T a):GT ρ' n T a:=
 ⟨let ⟨U,h1,h2⟩:=g.t; ⟨U,h1,h2.mono h⟩,g.d.mono h⟩
theorem GT.ghost{n:Nat}{T:Tr AVal}{a:Act}(g:GT ρ n T a){d:Nat}(hd:n≤d)(hne:d≠n+1)(v:AVal):GT ρ n (T.set d v) a:=
 ⟨let ⟨U,h1,h2⟩:=g.t; ⟨U,h1.ghost hd v,h2⟩,by rw[ev_set,if_neg (fun e=>hne e.symm)]; exact g.d⟩
def PSt(ρ:Pl)(n:Nat)(T:Tr AVal)(a:Act):Prop:=GT ρ n T a∧ev T (.t n)=undefA
def PPan(ρ:Pl)(n:Nat)(T:Tr AVal)(a:Act)(u:Value):Prop:=∃x,ev T (.t n)=panV x∧VRel ρ x u∧((a.defers=[]∧ev T (.t (n+1))=undefA)∨GT ρ n T a)
def SimP(Prot:Gh)(w0:World)(ρ:Pl)(n:Nat)(e:AEx)(T:Tr AVal)(H:AHeap):Exit→Act→World→Prop:=fun e' a w=>
 ∃ρ',ρ.le ρ'∧Rel Prot w0 ρ' H w∧match e with
  | .normal=>e'=.normal∧PSt ρ' n T a
  | .exit id=>(id≠PB∧e'=.exit id∧PSt ρ' n T a)∨(id=PB∧((e'=.ret∧PSt ρ' n T a)∨∃u,e'=.panic [{ v:=u,recovered:=false }]∧PPan ρ' n T a u))
  | .ret=>False
theorem SimP.weaken{ρ ρ':Pl}{n:Nat}{e:AEx}{T:Tr AVal}{H:AHeap}(h:ρ.le ρ'){e':Exit}{a:Act}{w:World}(q:SimP Prot w0 ρ' n e T H e' a w):SimP Prot w0 ρ n e T H e' a w:=by
 obtain⟨ρ2,h2,h3⟩:=q
 exact⟨ρ2,Pl.le_trans h h2,h3⟩
theorem undef_of{x:AVal}(h:VRel ρ x undef):x=undefA:=by
 unfold undef at h
 cases x with
 | tuple l=>
  simp only[VRel]at h
  obtain⟨vs,e,hv⟩:=h
  simp only[Value.tuple.injEq]at e
  subst e
  cases l with
  | nil=>rfl
  | cons y l=>simp[VRels]at hv
 | ptr a=>cases a <;> simp[VRel]at h
 | slice a m r => cases a <;> simp only [VRel] at h
                  · simp at h
                  · obtain ⟨_, _, _, _, _, h3, _⟩ := slice_off (by simpa only [VRel] using h); simp at h3
 | map a=>cases a <;> simp[VRel]at h
 | val v=>simp only[VRel]at h; rw[← h.1]at h; simp[opq,Value.oneCell']at h
 | _=>simp[VRel]at h
theorem isPan_no{x:AVal}{v:Value}(h:VRel ρ x v):isPan x=false:=by
 cases hb:isPan x with
 | false=>rfl
 | true=>obtain⟨y,e⟩:=isPan_spec hb; exact (pan_no h e).elim
end
end Go.Abs
namespace Go.Abs
section
variable {P:Program} {Prot:Gh} {w0:World} {ρ:Pl} {H H':AHeap} {w:World}
theorem run_call{f:Nat}{args:Array Operand}{ats:Array TypeId}{o:Oper}(hoe:o.op=.call ⟨.value (.func f),args,ats⟩)(hb:hasBody P f=true)(a:Act):(execOp a.eval o).run P w=.ok (.enter f (args.map a.eval)) w:=by
 have:=callFunc_ok (P:=P) (w:=w) hb (args.map a.eval)
 obtain⟨dst,op,type,pos,after,guard⟩:=o
 simp only at hoe
 subst hoe
 simp[execOp,resolve,Act.eval,Deferred.ofValue,invoke,this]
theorem rawF_spec{ps:List Nat}{o:Op}{f:Nat}{l:List Operand}(h:isRawF ps o=some (f,l)):∃args ats,o=.call ⟨.value (.func f),args,ats⟩∧l=args.toList:=by
 unfold isRawF at h
 split at h
 ·rename_i c
  split at h
  ·rename_i g hg
   obtain⟨cal,args,ats⟩:=c
   simp only at hg
   subst hg
   cases hp:ps.any (Nat.beq g) with
   | false=>rw[hp]at h; simp at h
   | true=>
    rw[hp]at h
    simp only[cond_true,sJ,pJ]at h
    obtain⟨rfl,rfl⟩:=h
    exact⟨args,ats,rfl,rfl⟩
  ·simp at h
 ·simp at h
theorem put_defers(a:Act)(d:Option Nat)(v:Value):(a.put d v).defers=a.defers:=by cases d <;> rfl
theorem GT.put{n:Nat}{T:Tr AVal}{a:Act}(g:GT ρ n T a){d:Option Nat}(hd:okDst n d=true){x:AVal}{v:Value}(hv:VRel ρ x v):GT ρ n (aput T d x) (a.put d v):=by
 obtain⟨U,h1,h2⟩:=g.t
 refine⟨⟨aput U d x,h1.put hd x,put_rel h2 hd hv⟩,?_⟩
 rw[put_defers,SameG.put hd x (n+1) om]
 exact g.d
theorem PSt.put{n:Nat}{T:Tr AVal}{a:Act}(g:PSt ρ n T a){d:Option Nat}(hd:okDst n d=true){x:AVal}{v:Value}(hv:VRel ρ x v):PSt ρ n (aput T d x) (a.put d v):=
 ⟨g.1.put hd hv,by rw[SameG.put hd x n rL]; exact g.2⟩
theorem PSt.mono{ρ ρ':Pl}(h:ρ.le ρ'){n:Nat}{T:Tr AVal}{a:Act}(g:PSt ρ n T a):PSt ρ' n T a:=⟨g.1.mono h,g.2⟩
theorem PSt.ghost{n:Nat}{T:Tr AVal}{a:Act}(g:PSt ρ n T a){d:Nat}(hd:n+2≤d)(v:AVal):PSt ρ n (T.set d v) a:=
 ⟨g.1.ghost om om v,by rw[ev_set,if_neg om]; exact g.2⟩
theorem astep_none{tb:FuncId→Bool}{call:FuncId→List AVal→AHeap→Option (AVal×AHeap)}(d:Option Nat)(op:AOp)(T:Tr AVal)(H:AHeap):astep tb call ⟨d,op,none⟩ T H=match aop tb T H op with
  | some (.val v,H')=>some (v,H')
  | some (.enter f args,H')=>call f args H'
  | none=>none:=rfl
theorem aregs_one{tb:FuncId→Bool}{call:FuncId→List AVal→AHeap→Option (AVal×AHeap)}{o:AOper}{T T':Tr AVal}{H H':AHeap}(h:aregs tb call [o] T H=some (T',H')):∃v,astep tb call o T H=some (v,H')∧T'=aput T o.dst v:=by
 rw[aregs_step']at h
 cases hs:astep tb call o T H with
 | none=>rw[hs]at h; simp at h
 | some p=>
  obtain⟨v,H1⟩:=p
  rw[hs]at h
  simp only[aregs,sJ,pJ]at h
  obtain⟨rfl,rfl⟩:=h
  exact⟨v,rfl,rfl⟩
theorem ord_sim{tb:FuncId→Bool}(htb:∀f,Nat.blt f BIG=true→tb f=true→hasBody P f=true){call:FuncId→List AVal→AHeap→Option (AVal×AHeap)}(hcall:CallOK P call){n:Nat}{ops:Array Oper}{o:Oper}{ao:AOper}
  (hco:cOper P n ops o=some ao) (haT:aoperT n ao=true) {ρ0:Pl} {T:Tr AVal} {a:Act} (hle:ρ0.le ρ) (R:Rel Prot w0 ρ H w) (hP:PSt ρ n T a) {v:AVal} {H1:AHeap} (hs:astep tb call ao T H=some (v,H1)) {rest:List Nat} {Q:Exit→Act→World→Prop} {i:Nat} (ho:ops[i]?=some o)
  (hnext:∀(ρ1:Pl) (a':Act) (w':World),ρ0.le ρ1→Rel Prot w0 ρ1 H1 w'→PSt ρ1 n (aput T ao.dst v) a'→wpOps P ops Q rest a' w'):wpOps P ops Q (i::rest) a w:=by
 obtain⟨U,hG,ht⟩:=hP.1.t
 rw[astep_ge hG haT]at hs
 unfold cOper at hco
 split at hco
 ·rename_i ax g hop hg
  cases hdst:okDst n o.dst with
  | false=>rw[hdst]at hco; simp at hco
  | true=>
   rw[hdst]at hco
   simp only[cond_true,sJ]at hco
   subst hco
   simp only[wpOps,ho]
   simp only[astep]at hs
   rw[guard_ok ht hg]
   cases hgo:gOK U g with
   | false=>
    rw[hgo]at hs
    simp only[cond_false,sJ,pJ]at hs
    obtain⟨rfl,rfl⟩:=hs
    simp only[Bool.false_eq_true,if_false]
    exact hnext ρ _ w hle R (hP.put hdst undef_rel)
   | true=>
    rw[hgo]at hs
    simp only[cond_true]at hs
    simp only[if_true]
    left
    split at hs
    ·rename_i v' H2 hv
     simp only[sJ,pJ]at hs
     obtain⟨rfl,rfl⟩:=hs
     obtain⟨ρ1,w1,nx,q1,q2,q3,q4⟩:=op_sim htb R ht o hop hv
     simp only[Oper.wp,q2]
     cases nx <;> simp only[NxRel]at q4
     case value u=>exact hnext ρ1 _ w1 (Pl.le_trans hle q1) q3 ((hP.mono q1).put hdst q4)
     case skip=>exact hnext ρ1 _ w1 (Pl.le_trans hle q1) q3 ((hP.mono q1).put hdst q4)
    ·rename_i f args H2 hv
     obtain⟨ρ1,w1,nx,q1,q2,q3,q4⟩:=op_sim htb R ht o hop hv
     simp only[Oper.wp,q2]
     cases nx <;> simp only[NxRel]at q4
     case enter g vs=>
      obtain⟨rfl,hbig,q5⟩:=q4
      simp only[Oper.upon]
      refine (hcall _ _ _ _ _ hbig hs Prot w0 ρ1 w1 vs q3 q5).mono fun e w' hr=>?_
      obtain⟨ρ2,u,r1,rfl,r3,r4⟩:=hr
      exact hnext ρ2 _ w' (Pl.le_trans hle (Pl.le_trans q1 r1)) r3 ((hP.mono (Pl.le_trans q1 r1)).put hdst r4)
    ·simp at hs
 ·simp at hco
theorem items_sim{tb:FuncId→Bool}(htb:∀f,Nat.blt f BIG=true→tb f=true→hasBody P f=true)(htbP:∀f,Nat.blt f BIG=true→tb (BIG+f)=true→hasBody P f=true){call:FuncId→List AVal→AHeap→Option (AVal×AHeap)}(hcall:CallOK P call)(hcallP:CallP P call)
  {n k:Nat} {ps:List Nat} {ops:Array Oper}:∀(rest:List Oper) (i:Nat) (its:List PItem),(∀j,rest[j]?=ops[i+j]?)→cItems P n ps ops rest=some its→∀(ρ0 ρ:Pl) (T T':Tr AVal) (H H':AHeap) (e:AEx) (a:Act) (w:World),ρ0.le ρ →
   Rel Prot w0 ρ H w→PSt ρ n T a→aexec tb call k (codeP n its []) T H=some (e,T',H')→wpOps P ops (SimP Prot w0 ρ0 n e T' H') (List.range' i rest.length) a w:=by
 intro rest
 induction rest with
 | nil=>
  intro i its _ hc ρ0 ρ T T' H H' e a w hle R hP h
  simp only[cItems,sJ]at hc
  subst hc
  simp only[codeP,aexec,List.reverse_nil,aregs,sJ,pJ]at h
  obtain⟨rfl,rfl,rfl⟩:=h
  exact⟨ρ,hle,R,rfl,hP⟩
 | cons o rest ih=>
  intro i its hi hc ρ0 ρ T T' H H' e a w hle R hP h
  simp only[cItems]at hc
  split at hc
  ·rename_i it l' ha hl
   simp only[sJ]at hc
   subst hc
   have ho:ops[i]?=some o:=by have:=hi 0; simpa using this.symm
   have hnx:∀j,rest[j]?=ops[i+1+j]?:=fun j=>by have:=hi (j+1); simp only[List.getElem?_cons_succ]at this; rw[this]; congr 1; omega
   rw[List.length_cons,List.range'_succ]
   unfold cItem at ha
   split at ha
   ·-- a panic
    rename_i x hox
    split at ha
    ·rename_i y hg hy
     cases hT:opdT n y with
     | false=>rw[hT]at ha; simp at ha
     | true=>
      rw[hT]at ha
      simp only[cond_true,sJ]at ha
      subst ha
      simp only[codeP,aexec,List.reverse_nil,List.nil_append]at h
      split at h
      ·rename_i T1 H1 h1
       split at h1
       ·rename_i T2 H2 h2
        simp only[sJ,pJ]at h1
        obtain⟨_,rfl,rfl⟩:=h1
        simp only[sJ,pJ]at h
        obtain⟨rfl,rfl,rfl⟩:=h
        obtain⟨v,hs,rfl⟩:=aregs_one h2
        obtain⟨U,hG,ht⟩:=hP.1.t
        rw[astep_none]at hs
        simp only[aop,evs,aPf,vv]at hs
        have hx:=opd_ok ht hy
        rw[← hG.x hT]at hx
        generalize ev T y=q at hs hx
        unfold aMkP at hs
        split at hs
        ·rename_i v' H3 hv
         split at hv
         ·rename_i v2 hv2
          split at hv2
          ·rename_i t z heq
           simp only[List.cons.injEq,and_true]at heq
           subst heq
           simp only[sJ]at hv2
           subst hv2
           simp only[sJ,pJ,Nx.val.injEq]at hv hs
           obtain⟨rfl,rfl⟩:=hv
           obtain⟨rfl,rfl⟩:=hs
           simp only[wpOps,ho]
           have hw:Region.wanted o (yielded ops a.tmps)=true:=by simp[Region.wanted,hg]
           rw[if_pos hw]
           left
           have hx':=hx
           simp only[VRel]at hx'
           obtain⟨yv,e1,e2⟩:=hx'
           have hrun:(execOp a.eval o).run P w=.halt (.panic (.iface t yv)) w:=by
            obtain⟨dst,op,type,pos,after,guard⟩:=o
            simp only at hox
            subst hox
            show (do pure (Next.value (← Instr.panic (a.eval x))):Sem Next).run P w=_
            rw[e1]
            rfl
           simp only[Oper.wp,hrun,Oper.upon]
           refine⟨ρ,hle,R,.inr ⟨rfl,.inr ⟨_,rfl,.iface t z,?_,?_,.inr ?_⟩⟩⟩
           ·simp only[aput,ev_set,if_true]
           ·rw[← e1]; exact hx
           ·exact hP.1.ghost rL om _
          ·simp at hv2
         ·simp at hv
        ·rename_i f args H3 hv
         split at hv <;> simp at hv
        ·simp at hs
       ·simp at h1
      ·rename_i e1 T1 H1 hne h1
       split at h1
       ·simp only[sJ,pJ]at h1
        exact (hne h1.1.symm).elim
       ·simp at h1
      ·simp at h
    ·simp at ha
   ·-- a call laid aside
    rename_i c hox
    split at ha
    ·rename_i x hg hd hcal
     split at ha
     ·rename_i y hargs hy
      cases hT:opdT n y with
      | false=>rw[hT]at ha; simp at ha
      | true=>
       rw[hT]at ha
       simp only[cond_true,sJ]at ha
       subst ha
       simp only[codeP]at h
       rw[codeP_acc]at h
       split at h
       ·rename_i T1 H1 h1
        simp only[List.reverse_cons,List.reverse_nil,List.nil_append]at h1
        obtain⟨v,hs,rfl⟩:=aregs_one h1
        obtain⟨U,hG,ht⟩:=hP.1.t
        rw[astep_none]at hs
        simp only[aop,evs,aPf,vv]at hs
        have hx:=opd_ok ht hy
        rw[← hG.x hT]at hx
        have hdf:=hP.1.d
        generalize ev T (.t (n+1))=z at hs hdf
        generalize ev T y=q at hs hx
        unfold aDset at hs
        split at hs
        ·rename_i v' H3 hv
         split at hv
         ·rename_i v2 hv2
          split at hv2
          ·rename_i f fa fb heq
           simp only[List.cons.injEq,and_true]at heq
           obtain⟨rfl,rfl⟩:=heq
           simp only[sJ]at hv2
           subst hv2
           simp only[sJ,pJ,Nx.val.injEq]at hv hs
           obtain⟨rfl,rfl⟩:=hv
           obtain⟨rfl,rfl⟩:=hs
           have hds:a.defers=[]:=by
            rcases hdf with⟨_,h9⟩ | ⟨f',a',b',d',cap',h9,_⟩
            ·exact h9
            ·simp at h9
           simp only[wpOps,ho]
           have hw:Region.wanted o (yielded ops a.tmps)=true:=by simp[Region.wanted,hg]
           rw[if_pos hw]
           left
           simp only[VRel]at hx
           obtain⟨fv,cv,hfv,hv1,hv2⟩:=hx
           have hrun:(execOp a.eval o).run P w=.ok (.defer { target:=.fn (.func f) cv,args:=fv }) w:=by
            obtain⟨dst,op,type,pos,after,guard⟩:=o
            obtain⟨cal,args,ats⟩:=c
            simp only at hox hcal hargs hd
            subst hox hcal hd
            have:args=#[]:=by simpa using hargs
            subst this
            simp[execOp,resolve,hfv,Deferred.ofValue]
           simp only[Oper.wp,hrun,Oper.upon,hd]
           refine ih (i+1) l' hnx hl ρ0 ρ _ _ _ _ _ _ _ hle R ⟨⟨⟨U,hG.ghost om _,ht⟩,?_⟩,?_⟩ h
           ·simp only[aput,ev_set,if_true,Act.put,hds]
            exact .inr ⟨f,fa,fb,_,cv,rfl,rfl,rfl,hv2,hv1⟩
           ·simp only[aput,ev_set]
            rw[if_neg om]
            exact hP.2
          ·simp at hv2
         ·simp at hv
        ·rename_i f args H3 hv
         split at hv <;> simp at hv
        ·simp at hs
       ·simp at h
     ·simp at ha
    ·simp at ha
   ·-- a call that may panic,or whatever is ordinary
    split at ha
    ·rename_i f lo hraw
     obtain⟨args,ats,hoe,rfl⟩:=rawF_spec hraw
     split at ha
     ·rename_i lx g hlx hgc
      cases hcnd:Nat.blt f BIG&&(opdsT n lx&&(gdTm n g&&okDst n o.dst)) with
      | false=>rw[hcnd]at ha; simp at ha
      | true=>
       rw[hcnd]at ha
       simp only[cond_true,sJ]at ha
       subst ha
       simp only[Bool.and_eq_true]at hcnd
       obtain⟨hbig,hlT,hgT,hdst⟩:=hcnd
       obtain⟨U,hG,ht⟩:=hP.1.t
       have key:∃(v:AVal) (H1:AHeap),astep tb call ⟨some (n+3),.call (BIG+f) lx,g⟩ T H=some (v,H1) ∧
         ((isPan v = true ∧ e = .exit PB ∧ T' = (((T.set (n + 3) v).set (n + 2) (.bool true)).set n v) ∧ H' = H1) ∨
          (isPan v = false ∧ aexec tb call k (codeP n l' []) (aput ((T.set (n + 3) v).set (n + 2) (.bool false)) o.dst v) H1 = some (e, T', H'))) := by
        simp only[codeP,aexec,List.reverse_nil,List.nil_append]at h
        rw[aregs_step']at h
        cases hs:astep tb call ⟨some (n+3),.call (BIG+f) lx,g⟩ T H with
        | none=>rw[hs]at h; simp at h
        | some p=>
         obtain⟨v,H1⟩:=p
         rw[hs]at h
         refine⟨v,H1,rfl,?_⟩
         simp only[aput]at h
         rw[aregs_step',astep_none]at h
         have e3:ev (T.set (n+3) v) (.t (n+3))=v:=by rw[ev_set,if_pos rfl]
         simp only[aop,evs,aPf,vv,aIsP,e3,aregs,aput]at h
         have e2:ev ((T.set (n+3) v).set (n+2) (.bool (isPan v))) (.t (n+2))=.bool (isPan v):=by rw[ev_set,if_pos rfl]
         have e33:ev ((T.set (n+3) v).set (n+2) (.bool (isPan v))) (.t (n+3))=v:=by rw[ev_set,if_neg om,ev_set,if_pos rfl]
         rw[e2]at h
         cases hp:isPan v with
         | true=>
          rw[hp]at h e33
          simp only[gOK,cond_true,e33,sJ,pJ]at h
          obtain⟨rfl,rfl,rfl⟩:=h
          exact .inl ⟨rfl,rfl,rfl,rfl⟩
         | false=>
          rw[hp]at h e33
          simp only at h
          rw[codeP_acc]at h
          simp only[List.reverse_cons,List.reverse_nil,List.nil_append]at h
          rw[aregs_step',astep_none]at h
          simp only[aop,e33,aregs]at h
          exact .inr ⟨rfl,h⟩
       obtain⟨v,H1,hs,hk⟩:=key
       simp only[wpOps,ho]
       rw[guard_ok ht hgc]
       simp only[astep,gOK_ge hG hgT]at hs
       have hgg:∀(ρ':Pl),ρ.le ρ'→∀b,PSt ρ' n ((T.set (n+3) v).set (n+2) b) a:=fun ρ' hl b=>((hP.mono hl).ghost om v).ghost rL b
       cases hgo:gOK U g with
       | false=>
        rw[hgo]at hs
        simp only[cond_false,sJ,pJ]at hs
        obtain⟨rfl,rfl⟩:=hs
        simp only[Bool.false_eq_true,if_false]
        rcases hk with⟨hp,_⟩ | ⟨_,hk⟩
        ·simp[isPan,undefA]at hp
        ·exact ih (i+1) l' hnx hl ρ0 ρ _ _ _ _ _ _ w hle R ((hgg ρ (Pl.le_refl _) _).put hdst undef_rel) hk
       | true=>
        rw[hgo]at hs
        simp only[cond_true]at hs
        simp only[if_true]
        left
        simp only[aop]at hs
        cases hb:tb (BIG+f) with
        | false=>rw[hb]at hs; simp at hs
        | true=>
         rw[hb]at hs
         simp only[cond_true]at hs
         rw[hG.xs hlT]at hs
         simp only[Oper.wp,run_call hoe (htbP f hbig hb) a,Oper.upon]
         refine (hcallP f _ _ _ _ hbig hs Prot w0 ρ w (args.map a.eval) R (by simpa using opds_ok ht hlx)).mono fun e' w' hr=>?_
         obtain⟨ρ2,r1,r3,⟨u,rfl,r4⟩ | ⟨x,u,rfl,rfl,r4⟩⟩:=hr
         ·rcases hk with⟨hp,_⟩ | ⟨_,hk⟩
          ·rw[isPan_no r4]at hp; simp at hp
          ·exact ih (i+1) l' hnx hl ρ0 ρ2 _ _ _ _ _ _ w' (Pl.le_trans hle r1) r3 ((hgg ρ2 r1 _).put hdst r4) hk
         ·rcases hk with⟨_,rfl,rfl,rfl⟩ | ⟨hp,_⟩
          ·refine⟨ρ2,Pl.le_trans hle r1,r3,.inr ⟨rfl,.inr ⟨u,rfl,x,by rw[ev_set,if_pos rfl],r4,.inr ?_⟩⟩⟩
           exact (hgg ρ2 r1 _).1.ghost rL om _
          ·simp[isPan,panV]at hp
     ·simp at ha
    ·unfold cOrd at ha
     split at ha
     ·rename_i ao hco
      cases haT:aoperT n ao with
      | false=>rw[haT]at ha; simp at ha
      | true=>
       rw[haT]at ha
       simp only[cond_true,sJ]at ha
       subst ha
       simp only[codeP]at h
       rw[codeP_acc]at h
       split at h
       ·rename_i T1 H1 h1
        simp only[List.reverse_cons,List.reverse_nil,List.nil_append]at h1
        obtain⟨v,hs,rfl⟩:=aregs_one h1
        exact ord_sim htb hcall hco haT hle R hP hs ho fun ρ1 a' w' q1 q2 q3=>ih (i+1) l' hnx hl ρ0 ρ1 _ _ _ _ _ a' w' q1 q2 q3 h
       ·simp at h
     ·simp at ha
  ·simp at hc
end
end Go.Abs
