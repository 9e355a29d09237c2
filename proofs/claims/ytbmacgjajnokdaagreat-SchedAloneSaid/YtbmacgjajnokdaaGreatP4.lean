/- Part of a proof (D4 D5 A11 A11b A12 S1 S2 S3); no condition. -/
import Derived.Scope
import Derived.LoopN
import Derived.Defers
import Derived.Test.YtbmacgjajnokdaaGreatP3
set_option linter.unusedSimpArgs false
set_option linter.unusedVariables false
set_option linter.defProp false
set_option linter.unnecessarySimpa false
namespace Go.Abs
def unl(m:Nat→Bool):Nat→Nat
 | 0=>0
 | n+1=>unl m n+(bif m n then 0 else 1)
theorem unl_zero{m:Nat→Bool}:∀{n:Nat},unl m n=0→∀i,i<n→m i=true
 | 0,_,i,h=>om
 | n+1,h,i,hi=>by
  simp only[unl]at h
  cases hb:m n with
  | true=>
   by_cases e:i=n
   ·rw[e]; exact hb
   ·exact unl_zero (n:=n) (by rw[hb]at h; simpa using h) i om
  | false=>rw[hb]at h; simp at h
theorem unl_all{m:Nat→Bool}:∀{n:Nat},(∀i,i<n→m i=true)→unl m n=0
 | 0,_=>rfl
 | n+1,h=>by simp only[unl,unl_all (n:=n) fun i hi=>h i om,h n om,cond_true]
theorem unl_same{m m':Nat→Bool}:∀{n:Nat},(∀i,i<n→m i=m' i)→unl m n=unl m' n
 | 0,_=>rfl
 | n+1,h=>by simp only[unl,unl_same (n:=n) fun i hi=>h i om,h n om]
theorem unl_set{m m':Nat→Bool}{i:Nat}:∀{n:Nat},i<n→m i=false→m' i=true→(∀j,j≠i→m' j=m j)→unl m' n+1=unl m n
 | 0,h,_,_,_=>om
 | n+1,h,h1,h2,h3=>by
  simp only[unl]
  by_cases e:i=n
  ·subst e
   rw[h1,h2,unl_same (m:=m') (m':=m) fun j hj=>h3 j om]
   simp
  ·have:=unl_set (n:=n) om h1 h2 h3
   rw[h3 n (fun q=>e q.symm)]
   omega
section
variable {tb:FuncId→Bool} {call:FuncId→List AVal→AHeap→Option (AVal×AHeap)}
theorem chk_at{hs:List AHeap}:∀(l:List AOper) (pss:List (List Nat)) (ss:List (AVal×AHeap)) (T:Tr AVal) (k:Nat),chkRun tb hs l pss ss T=true →
  ∀j o ps v H',l[j]?=some o→pss[j]?=some ps→ss[j]?=some (v,H')→∀p∈ps,∃Hp,hs[p]?=some Hp ∧
   (gOK (tsel (fun i=>Nat.blt i (k+j)) k l ss T) o.guard=true→∃H2,aop tb (tsel (fun i=>Nat.blt i (k+j)) k l ss T) Hp o.op=some (.val v,H2)):=by
 intro l
 induction l with
 | nil=>intro pss ss T k _ j o ps v H' h; simp at h
 | cons o r ih=>
  intro pss ss T k h j o' ps v H' h1 h2 h3 p hp
  cases pss with
  | nil=>simp at h2
  | cons ps0 pss=>
   cases ss with
   | nil=>simp at h3
   | cons s ss=>
    obtain⟨u,H1⟩:=s
    simp only[chkRun,Bool.and_eq_true,List.all_eq_true]at h
    cases j with
    | zero=>
     simp only[List.getElem?_cons_zero,sJ,pJ]at h1 h2 h3
     subst h1 h2
     obtain⟨rfl,rfl⟩:=h3
     have e:tsel (fun i=>Nat.blt i (k+0)) k (o::r) ((u,H1)::ss) T=T:=by
      have hn:∀(l:List AOper) (ss:List (AVal×AHeap)) (k':Nat) (T:Tr AVal),k≤k'→tsel (fun i=>Nat.blt i (k+0)) k' l ss T=T:=by
       intro l
       induction l with
       | nil=>intro ss k' T _; cases ss <;> rfl
       | cons o r ih=>intro ss k' T hk; cases ss with
        | nil=>rfl
        | cons s ss=>
         obtain⟨a,b⟩:=s
         have:Nat.blt k' (k+0)=false:=by
          cases hb:Nat.blt k' (k+0) with
          | false=>rfl
          | true=>have:=Nat.le_of_ble_eq_true hb; omega
         simp only[tsel,this,cond_false]
         exact ih ss (k'+1) T om
      exact hn _ _ k T rL
     rw[e]
     have:=h.1 p hp
     split at this
     ·rename_i Hp hHp
      refine⟨Hp,hHp,fun hg=>?_⟩
      rw[hg]at this
      simp only[cond_true]at this
      split at this
      ·rename_i x H2 hx
       rw[aeq_ok _ _ this]at hx
       exact⟨H2,hx⟩
      ·simp at this
     ·simp at this
    | succ j=>
     simp only[List.getElem?_cons_succ]at h1 h2 h3
     have hb:Nat.blt k (k+(j+1))=true:=by
      show Nat.ble (k+1) (k+(j+1))=true
      exact Nat.ble_eq_true_of_le om
     simp only[tsel,hb,cond_true]
     rw[show k+(j+1)=k+1+j by omega]
     exact ih pss ss (aput T o.dst u) (k+1) h.2 j o' ps v H' h1 h2 h3 p hp
theorem step_same{o:AOper}{T:Tr AVal}{H H':AHeap}{v:AVal}(hc:isChain o.op=false)(h:astep tb call o T H=some (v,H')):H'=H:=by
 unfold astep at h
 cases hg:gOK T o.guard with
 | false=>rw[hg]at h; simp only[cond_false,sJ,pJ]at h; exact h.2.symm
 | true=>
  rw[hg]at h
  simp only[cond_true]at h
  have hk:isPure o.op=true∨isLoad o.op=true:=by
   unfold isChain at hc
   cases h1:isPure o.op <;> cases h2:isLoad o.op <;> simp_all
  split at h
  ·rename_i u H1 hu
   simp only[sJ,pJ]at h
   obtain⟨rfl,rfl⟩:=h
   rcases hk with hk | hk
   ·exact (pure_other hk hu).1
   ·exact (load_other hk hu).1
  ·rename_i f args H1 hu
   rcases hk with hk | hk
   ·obtain⟨_,⟨v,hv⟩,_⟩:=pure_other hk hu; simp at hv
   ·obtain⟨_,v,hv⟩:=load_other hk hu; simp at hv
  ·simp at h
theorem heap_between{l:List AOper}{T0:Tr AVal}{H0:AHeap}{ss:List (AVal×AHeap)}(htr:atrace tb call l T0 H0=some ss):∀(d p:Nat),p+d≤l.length→(∀c o,p≤c→c<p+d→l[c]?=some o→isChain o.op=false)→hAt H0 ss (p+d)=hAt H0 ss p:=by
 intro d
 induction d with
 | zero=>intro p _ _; rfl
 | succ d ih=>
  intro p hp hn
  have h1:=ih p om fun c o h1 h2 h3=>hn c o h1 om h3
  obtain⟨_,hat⟩:=trace_at l T0 H0 ss 0 htr
  have ho:l[p+d]?=some l[p+d]:=List.getElem?_eq_getElem om
  obtain⟨v,H',q1,q2⟩:=hat _ _ ho
  have:=step_same (hn _ _ om om ho) q2
  rw[← h1]
  show hAt H0 ss (p+d+1)=_
  simp only[hAt,q1]
  exact this
end
theorem stage_congr{m m':Nat→Bool}:∀(l:List AOper) (k:Nat),(∀c o,l[c]?=some o→isChain o.op=true→m (k+c)=m' (k+c))→stage m k l=stage m' k l:=by
 intro l
 induction l with
 | nil=>intro k _; rfl
 | cons o r ih=>
  intro k h
  simp only[stage]
  have h1:=ih (k+1) fun c o' q1 q2=>by rw[show k+1+c=k+(c+1) by omega]; exact h (c+1) o' (by simpa using q1) q2
  cases hc:isChain o.op with
  | false=>simp only[Bool.false_and,cond_false]; exact h1
  | true=>
   have:=h 0 o rfl hc
   simp only[Nat.add_zero]at this
   rw[this,h1]
theorem TmpsRel.congr{ρ:Pl}{n:Nat}{T T':Tr AVal}{tmps:Array Value}(h:∀t,T'.get t=T.get t)(r:TmpsRel ρ n T tmps):TmpsRel ρ n T' tmps:=
 ⟨r.size,fun t=>by have:=r.at_ t; simp only[ev]at this ⊢; rw[h t]; exact this⟩
section
variable {P:Program} {Prot:Gh} {w0:World} {tb:FuncId→Bool} {call:FuncId→List AVal→AHeap→Option (AVal×AHeap)}
def aside(D:Nat→Prop)(l:List AOper)(m:Nat→Bool):Nat→Prop:=fun d=>D d∨∃(i:Nat) (a:AOper) (z:List AVal) (s:Option (Nat×Nat)),l[i]?=some a∧a.op=.claim d z s∧m i=false
theorem claim_run{ρ:Pl}{H:AHeap}{w:World}(R:Rel Prot w0 ρ H w){n:Nat}{T:Tr AVal}{a:Act}(ht:TmpsRel ρ n T a.tmps){o:Oper}{z:List AVal}{s:Option (Nat×Nat)}(hc:ClaimOp P o.op z s){b:Nat}(hd:Prot.dead b)(hx:H.get b=some (resO z s)) :
  ∃ρ' w' u,ρ.le ρ'∧(execOp a.eval o).run P w=.ok (.value u) w'∧Rel ⟨Prot.prot,fun d=>Prot.dead d∧d≠b⟩ w0 ρ' H w'∧VRel ρ' (clV b z s) u:=by
 obtain⟨dst,op,type,pos,after,guard⟩:=o
 simp only at hc
 rcases hc with⟨e,rfl,hz,rfl⟩ | ⟨t,l,c,e,m,by_,z0,x,y,ln,cn,rfl,h2,h3,h4,h5,h6,h7,h8,h9,rfl,rfl⟩ | ⟨t,rfl,rfl,rfl⟩
 ·obtain⟨ρ1,w1,u,q1,q2,q3,q4⟩:=alloc_claim (P:=P) R hz hd hx
  refine⟨ρ1,w1,u,q1,?_,q3,q4⟩
  show (do pure (Next.value (← Instr.alloc e true (.tuple #[]))):Sem Next).run P w=_
  simp only[Sem.run_bind,q2,Result.andThen_ok]
  rfl
 ·rw[resO,mp_no h9.1]at hx
  obtain⟨ρ1,w1,u,q1,q2,q3,q4⟩:=make_claim (P:=P) R h2 (elem_of h3) h4 (opd_ok ht h5) (opd_ok ht h6) h7 h8 h9 hd hx
  refine⟨ρ1,w1,u,q1,?_,q3,by simp only[clV,mp_no h9.1,cond_false]; exact q4⟩
  show (do pure (Next.value (← Instr.makeSlice t (a.eval l) (a.eval c))):Sem Next).run P w=_
  simp only[Sem.run_bind,q2,Result.andThen_ok]
  rfl
 ·obtain⟨ρ1,w1,u,q1,q2,q3,q4⟩:=map_claim (P:=P) R t hd hx
  refine⟨ρ1,w1,u,q1,?_,q3,q4⟩
  show (do pure (Next.value (← Instr.makeMap t none)):Sem Next).run P w=_
  simp only[Sem.run_bind,q2,Result.andThen_ok]
  rfl
set_option maxHeartbeats 2000000 in
theorem draw_any(htb:∀f,Nat.blt f BIG=true→tb f=true→hasBody P f=true)(hcall:CallOK P call){ds:List Deferred}{n:Nat}{ops:Array Oper}{l:List AOper}{base:Nat}{ms:List Nat}
  (hlen:l.length=ops.toList.length) (hopers:∀(j:Nat) (o:Oper),ops.toList[j]?=some o→∃a,l[j]?=some a∧(cOper P n ops o=some a∨∃c,base≤c∧IsCl P n ops o a c))
  (hbase:∀d,Prot.dead d→d<base) (hdis:∀(i j:Nat) (a b:AOper) (c:Nat) (z z':List AVal) (s s':Option (Nat×Nat)),l[i]?=some a→l[j]?=some b→a.op=.claim c z s→b.op=.claim c z' s'→i=j)
  (hm:okMask (ops.toList.map bindE) ms=true) (hp:okPairs l ms=true) {T0:Tr AVal} {H0:AHeap} {ss:List (AVal×AHeap)} (htr:atrace tb call l T0 H0=some ss)
  (hck:chkRun tb (H0::ss.map (·.2)) l ((List.range l.length).map (chkOf l ms)) ss T0=true) {ρ0:Pl} {Q:Exit→Act→World→Prop}
  (hQ:∀a w,(∃ρ,ρ0.le ρ∧Rel Prot w0 ρ (hAt H0 ss l.length) w∧TmpsRel ρ n (tsel (fun _=>true) 0 l ss T0) a.tmps∧a.defers=ds)→Q .normal a w) :
  ∀(fuel:Nat) (listed:Array Bool) (a:Act) (w:World),listed.size=ops.size→unl (fun i=>listed.getD i false) ops.size=fuel →
   (∀j,j<ops.size→listed.getD j false=true→∀e∈(ops.toList.map bindE).getD j [],listed.getD e false=true) →
   (∃ρ,ρ0.le ρ∧Rel ⟨Prot.prot,aside Prot.dead l fun i=>listed.getD i false⟩ w0 ρ (hAt H0 ss (stage (fun i=>listed.getD i false) 0 l)) w∧TmpsRel ρ n (tsel (fun i=>listed.getD i false) 0 l ss T0) a.tmps∧a.defers=ds) →
   wpAny P .any ops Q fuel listed a w:=by
 have hN:l.length=ops.size:=by simpa using hlen
 obtain⟨hsl,hat⟩:=trace_at l T0 H0 ss 0 htr
 have hes:(ops.toList.map bindE).length=ops.size:=by simp
 have hpair:∀i j a b,i<j→l[i]?=some a→l[j]?=some b→okPair ms i j a b=true:=by
  intro i j a b hij hi hj
  unfold okPairs at hp
  rw[List.all_eq_true]at hp
  have hjl:=(List.getElem?_eq_some_iff.1 hj).1
  have h1:=hp j (List.mem_range.2 hjl)
  rw[hj]at h1
  simp only at h1
  rw[List.all_eq_true]at h1
  have h2:=h1 i (List.mem_range.2 hij)
  rw[hi]at h2
  exact h2
 intro fuel
 induction fuel with
 | zero=>
  intro listed a w hsz hu _ hinv
  have hall:∀i,i<ops.size→listed.getD i false=true:=unl_zero hu
  refine⟨?_,hQ a w ?_⟩
  ·unfold Region.ready
   rw[List.filter_eq_nil_iff]
   intro i hi
   have:=hall i (List.mem_range.1 hi)
   have e:listed.getD i true=true:=by
    rw[Array.getD_eq_getD_getElem?]at this ⊢
    rw[Array.getElem?_eq_getElem (by rw[hsz]; exact List.mem_range.1 hi)]at this ⊢
    simpa using this
   simp[e]
  ·obtain⟨ρ,h1,h2,h3,h4⟩:=hinv
   refine⟨ρ,h1,?_,h3.congr fun t=>?_,h4⟩
   ·have hs:=stage_spec (fun i=>listed.getD i false) l 0
    have:stage (fun i=>listed.getD i false) 0 l=l.length:=by
     obtain⟨q1,q2,q3,q4⟩:=hs
     rcases Nat.lt_or_ge (stage (fun i=>listed.getD i false) 0 l) l.length with q | q
     ·have ho:l[stage (fun i=>listed.getD i false) 0 l-0]?=some l[stage (fun i=>listed.getD i false) 0 l]:=by simp
      have:=(q4 _ (by simpa using q) ho).2
      rw[hall _ om]at this
      simp at this
     ·omega
    rw[this]at h2
    exact h2.fewer (D:=Prot.dead) fun d hd=>.inl hd
   ·refine tsel_get l ss 0 T0 T0 rfl fun i o hi _=>?_
    have:=(List.getElem?_eq_some_iff.1 hi).1
    simp only[Nat.zero_add]
    exact (hall i om).symm
 | succ fuel ih=>
  intro listed a w hsz hu hdown hinv
  obtain⟨ρ,hle,R,ht,hd⟩:=hinv
  have hml:=mask_listed hm (m:=fun i=>listed.getD i false) (fun j hj hjl e he=>hdown j om hjl e he)
  have hmask:∀j,j<ops.size→(∀e∈(ops.toList.map bindE).getD j [],listed.getD e false=true)→∀i,i<j→bit ms j i=true→listed.getD i false=true:=
   fun j hj he i hi hb=>hml j om he i hi hb
  refine⟨fun hnone=>?_,fun i hi=>?_⟩
  ·-- there is one that is ready
   exfalso
   have hex:∃i,i<ops.size∧listed.getD i false=false:=by
    rcases Classical.em (∃i,i<ops.size∧listed.getD i false=false) with h | h
    ·exact h
    ·exfalso
     have:unl (fun i=>listed.getD i false) ops.size=0:=unl_all fun i hi=>by
      cases hb:listed.getD i false with
      | true=>rfl
      | false=>exact (h ⟨i,hi,hb⟩).elim
     omega
   have hmin:∃i,i<ops.size∧listed.getD i false=false∧∀j,j<i→listed.getD j false=true:=by
    obtain⟨i,hi1,hi2⟩:=hex
    induction i using Nat.strongRecOn with
    | _ i ihm=>
     rcases Classical.em (∃j,j<i∧listed.getD j false=false) with⟨j,hj,hj2⟩ | h
     ·exact ihm j hj om hj2
     ·refine⟨i,hi1,hi2,fun j hj=>?_⟩
      cases hb:listed.getD j false with
      | true=>rfl
      | false=>exact (h ⟨j,hj,hb⟩).elim
   obtain⟨i,hi1,hi2,hi3⟩:=hmin
   have:i∈Region.ready .any ops listed:=by
    rw[mem_ready]
    refine⟨?_,ops[i],Array.getElem?_eq_getElem hi1,fun e he hb=>?_⟩
    ·rw[Array.getD_eq_getD_getElem?]at hi2 ⊢
     rw[Array.getElem?_eq_getElem om]at hi2 ⊢
     simpa using hi2
    ·refine hi3 _ ?_
     unfold okMask at hm
     rw[List.all_eq_true]at hm
     have h1:=hm i (List.mem_range.2 om)
     simp only[Bool.and_eq_true,List.all_eq_true]at h1
     refine Nat.le_of_ble_eq_true (h1.1 e.on ?_)
     have:(ops.toList.map bindE).getD i []=bindE ops[i]:=by simp[List.getD,hi1]
     rw[this]
     unfold bindE
     rw[List.mem_map]
     exact⟨e,by rw[List.mem_filter]; exact⟨by simpa using he,hb⟩,rfl⟩
   rw[hnone]at this
   simp at this
  ·obtain⟨hi1,o,ho,hedge⟩:=mem_ready.1 hi
   have hiN:i<ops.size:=(Array.getElem?_eq_some_iff.1 ho).1
   have hmi:listed.getD i false=false:=by
    rw[Array.getD_eq_getD_getElem?]at hi1 ⊢
    rw[Array.getElem?_eq_getElem om]at hi1 ⊢
    simpa using hi1
   obtain⟨ao,hao,hco⟩:=hopers i o (by simpa using ho)
   have hedges:∀e∈(ops.toList.map bindE).getD i [],listed.getD e false=true:=by
    have:(ops.toList.map bindE).getD i []=bindE o:=by
     have:ops[i]=o:=by simpa[Array.getElem?_eq_getElem hiN] using ho
     simp[List.getD,hiN,this]
    rw[this]
    intro e he
    unfold bindE at he
    rw[List.mem_map]at he
    obtain⟨x,hx,rfl⟩:=he
    rw[List.mem_filter]at hx
    exact hedge x (by simpa using hx.1) hx.2
   have hafter:∀c b,i<c→l[c]?=some b→bit ms c i=true→listed.getD c false=false:=by
    intro c b hc hb hbit
    cases hx:listed.getD c false with
    | false=>rfl
    | true=>
     have hcN:=(List.getElem?_eq_some_iff.1 hb).1
     have:=hmask c om (hdown c om hx) i hc hbit
     rw[hmi]at this
     simp at this
   have hagree:∀t∈readsO ao,(tsel (fun i=>listed.getD i false) 0 l ss T0).get t=(tsel (fun j=>Nat.blt j (0+i)) 0 l ss T0).get t:=by
    intro t htr'
    refine tsel_get l ss 0 T0 T0 rfl fun c b hc hdst=>?_
    have hcN:=(List.getElem?_eq_some_iff.1 hc).1
    simp only[Nat.zero_add]
    rcases Nat.lt_trichotomy c i with h | h | h
    ·have e:Nat.blt c i=true:=Nat.ble_eq_true_of_le h
     rw[e]
     have hpr:=hpair c i b ao h hc hao
     simp only[okPair,Bool.or_eq_true,Bool.and_eq_true]at hpr
     rcases hpr with hpr | ⟨_,hpr⟩
     ·exact hmask i hiN hedges c h hpr
     ·exfalso
      simp only[disj,hdst,Bool.and_eq_true,Bool.not_eq_true',List.contains_eq_mem,decide_eq_false_iff_not]at hpr
      exact hpr.1.1 htr'
    ·subst h
     have e:Nat.blt c c=false:=by
      cases hb:Nat.blt c c with
      | false=>rfl
      | true=>have:=Nat.le_of_ble_eq_true hb; omega
     rw[e]; exact hmi
    ·have e:Nat.blt c i=false:=by
      cases hb:Nat.blt c i with
      | false=>rfl
      | true=>have:=Nat.le_of_ble_eq_true hb; omega
     rw[e]
     have hpr:=hpair i c ao b h hao hc
     simp only[okPair,Bool.or_eq_true,Bool.and_eq_true]at hpr
     rcases hpr with hpr | ⟨_,hpr⟩
     ·exact hafter c b h hc hpr
     ·exfalso
      simp only[disj,hdst,Bool.and_eq_true,Bool.not_eq_true',List.contains_eq_mem,decide_eq_false_iff_not]at hpr
      exact hpr.2 htr'
   have hgd:gOK (tsel (fun i=>listed.getD i false) 0 l ss T0) ao.guard=gOK (tsel (fun j=>Nat.blt j (0+i)) 0 l ss T0) ao.guard:=by
    cases hg:ao.guard with
    | none=>rfl
    | some g=>
     obtain⟨t,b⟩:=g
     simp only[gOK,ev]
     rw[hagree t (by simp[readsO,hg])]
   have hop:∀H,aop tb (tsel (fun i=>listed.getD i false) 0 l ss T0) H ao.op=aop tb (tsel (fun j=>Nat.blt j (0+i)) 0 l ss T0) H ao.op:=
    fun H=>aop_congr fun t h=>hagree t (by simp only[readsO,List.mem_append]; exact .inl h)
   obtain⟨v,H1,hss,hstep⟩:=hat i ao hao
   obtain⟨st1,st2,st3,st4⟩:=stage_spec (fun i=>listed.getD i false) l 0
   have hchain:isChain ao.op=true→stage (fun i=>listed.getD i false) 0 l=i:=by
    intro hc
    have hge:stage (fun i=>listed.getD i false) 0 l≤i:=by
     rcases Nat.lt_or_ge i (stage (fun i=>listed.getD i false) 0 l) with h | h
     ·have:=st3 i ao hao hc (by simpa using h)
      simp only[Nat.zero_add]at this
      rw[hmi]at this
      simp at this
     ·exact h
    rcases Nat.lt_or_ge (stage (fun i=>listed.getD i false) 0 l) i with h | h
    ·have hob:l[stage (fun i=>listed.getD i false) 0 l-0]?=some (l[stage (fun i=>listed.getD i false) 0 l]'om):=by simp
     obtain⟨q1,q2⟩:=st4 _ om hob
     have hob2:l[stage (fun i=>listed.getD i false) 0 l]?=some (l[stage (fun i=>listed.getD i false) 0 l]'om):=List.getElem?_eq_getElem om
     have hpr:=hpair _ i _ ao h hob2 hao
     simp only[okPair,Bool.or_eq_true,Bool.and_eq_true]at hpr
     rcases hpr with hpr | ⟨hpr,_⟩
     ·have:=hmask i hiN hedges _ h hpr
      rw[q2]at this
      simp at this
     ·rw[q1,hc]at hpr
      simp at hpr
    ·omega
   have hnext:∀(ρ':Pl) (w':World) (a':Act),ρ.le ρ'→Rel ⟨Prot.prot,aside Prot.dead l fun j=>if j=i then true else listed.getD j false⟩ w0 ρ' (if isChain ao.op=true then H1 else hAt H0 ss (stage (fun i=>listed.getD i false) 0 l)) w' →
     TmpsRel ρ' n (aput (tsel (fun i=>listed.getD i false) 0 l ss T0) ao.dst v) a'.tmps→a'.defers=ds→wpAny P .any ops Q fuel (listed.setIfInBounds i true) a' w':=by
    intro ρ' w' a' hle' R' ht' hd'
    have hm':∀j,(listed.setIfInBounds i true).getD j false=if j=i then true else listed.getD j false:=by
     intro j
     by_cases e:j=i
     ·subst e
      rw[if_pos rfl,Array.getD_eq_getD_getElem?]
      have:j<listed.size:=om
      simp[this]
     ·rw[if_neg e]
      exact getD_set_ne false (fun q=>e q.symm)
    have hmf:(fun j=>(listed.setIfInBounds i true).getD j false)=fun j=>if j=i then true else listed.getD j false:=funext hm'
    refine ih _ a' w' (by simpa using hsz) ?_ ?_ ⟨ρ',Pl.le_trans hle hle',?_,?_,hd'⟩
    ·have:=unl_set (m:=fun i=>listed.getD i false) (m':=fun j=>(listed.setIfInBounds i true).getD j false) (i:=i) (n:=ops.size) hiN hmi (by rw[hm',if_pos rfl]) (fun j hj=>by rw[hm',if_neg hj])
     omega
    ·intro j hj hjl e he
     rw[hm']at hjl ⊢
     by_cases q:e=i
     ·rw[if_pos q]
     ·rw[if_neg q]
      by_cases q2:j=i
      ·subst q2; exact hedges e he
      ·rw[if_neg q2]at hjl; exact hdown j hj hjl e he
    ·rw[hmf]
     cases hc:isChain ao.op with
     | false=>
      rw[hc]at R'
      simp only[Bool.false_eq_true,if_false]at R'
      have:stage (fun j=>if j=i then true else listed.getD j false) 0 l=stage (fun i=>listed.getD i false) 0 l:=
       stage_congr l 0 fun c b hcb hcc=>by
        simp only[Nat.zero_add]
        rw[if_neg]
        intro e
        subst e
        rw[hao]at hcb
        simp only[sJ]at hcb
        subst hcb
        rw[hc]at hcc
        simp at hcc
      rw[this]
      exact R'
     | true=>
      rw[hc]at R'
      simp only[if_true]at R'
      have hpi:=hchain hc
      obtain⟨s1,s2,s3,s4⟩:=stage_spec (fun j=>if j=i then true else listed.getD j false) l 0
      have hgt:i<stage (fun j=>if j=i then true else listed.getD j false) 0 l:=by
       rcases Nat.lt_or_ge i (stage (fun j=>if j=i then true else listed.getD j false) 0 l) with h | h
       ·exact h
       ·exfalso
        have hob:l[stage (fun j=>if j=i then true else listed.getD j false) 0 l-0]?=some (l[stage (fun j=>if j=i then true else listed.getD j false) 0 l]'om):=by simp
        obtain⟨q1,q2⟩:=s4 _ om hob
        by_cases e:stage (fun j=>if j=i then true else listed.getD j false) 0 l=i
        ·rw[if_pos e]at q2; simp at q2
        ·rw[if_neg e]at q2
         have hob2:l[stage (fun j=>if j=i then true else listed.getD j false) 0 l]?=some (l[stage (fun j=>if j=i then true else listed.getD j false) 0 l]'om):=List.getElem?_eq_getElem om
         have:=st3 _ _ hob2 q1 om
         simp only[Nat.zero_add]at this
         rw[q2]at this
         simp at this
      have hb:=heap_between htr (stage (fun j=>if j=i then true else listed.getD j false) 0 l-(i+1)) (i+1) om fun c b c1 c2 c3=>by
       cases hx:isChain b.op with
       | false=>rfl
       | true=>
        exfalso
        have:=s3 c b c3 hx om
        simp only[Nat.zero_add]at this
        rw[if_neg om]at this
        have hpr:=hpair i c ao b om hao c3
        simp only[okPair,Bool.or_eq_true,Bool.and_eq_true]at hpr
        rcases hpr with hpr | ⟨hpr,_⟩
        ·have h9:=hafter c b om c3 hpr
         rw[this]at h9
         simp at h9
        ·rw[hx,hc]at hpr
         simp at hpr
      rw[show i+1+(stage (fun j=>if j=i then true else listed.getD j false) 0 l-(i+1))=stage (fun j=>if j=i then true else listed.getD j false) 0 l by omega]at hb
      rw[hb]
      simp only[hAt,hss]
      exact R'
    ·refine ht'.congr fun t=>?_
     rw[hmf,get_aput]
     by_cases e:ao.dst=some t
     ·rw[if_pos e]
      refine tsel_last l ss 0 i T0 ao v H1 hao hss e (by simp) fun c b hc hcb hdst=>?_
      simp only[Nat.zero_add]
      rw[if_neg om]
      have hpr:=hpair i c ao b hc hao hcb
      simp only[okPair,Bool.or_eq_true,Bool.and_eq_true]at hpr
      rcases hpr with hpr | ⟨_,hpr⟩
      ·exact hafter c b hc hcb hpr
      ·exfalso
       simp only[disj,e,Bool.and_eq_true,Bool.not_eq_true',beq_eq_false_iff_ne]at hpr
       exact hpr.1.2 hdst
     ·rw[if_neg e]
      refine tsel_get l ss 0 T0 T0 rfl fun c b hc hdst=>?_
      simp only[Nat.zero_add]
      rw[if_neg]
      intro q
      subst q
      rw[hao]at hc
      simp only[sJ]at hc
      subst hc
      exact e hdst
   have hval:isChain ao.op=false→gOK (tsel (fun j=>Nat.blt j (0+i)) 0 l ss T0) ao.guard=true→∃H2,aop tb (tsel (fun j=>Nat.blt j (0+i)) 0 l ss T0) (hAt H0 ss (stage (fun i=>listed.getD i false) 0 l)) ao.op=some (.val v,H2):=by
    intro hc hgo
    unfold astep at hstep
    rw[hgo]at hstep
    simp only[cond_true]at hstep
    cases hpu:isPure ao.op with
    | true=>
     split at hstep
     ·rename_i u H2 hu
      simp only[sJ,pJ]at hstep
      obtain⟨rfl,rfl⟩:=hstep
      exact⟨_,(pure_other hpu hu).2.2 _⟩
     ·rename_i f args H2 hu
      obtain⟨_,⟨x,hx⟩,_⟩:=pure_other hpu hu
      simp at hx
     ·simp at hstep
    | false=>
     have hld:isLoad ao.op=true:=by
      unfold isChain at hc
      cases h1:isLoad ao.op with
      | true=>rfl
      | false=>rw[hpu,h1]at hc; simp at hc
     cases hsm:sameH l i (stage (fun i=>listed.getD i false) 0 l) with
     | true=>
      unfold sameH at hsm
      rw[Bool.and_eq_true,List.all_eq_true]at hsm
      have hij:=Nat.le_of_ble_eq_true hsm.1
      have hb:=heap_between htr (stage (fun i=>listed.getD i false) 0 l-i) i om fun c b c1 c2 c3=>by
       have:=hsm.2 c (List.mem_range.2 om)
       rw[c3]at this
       simp only[Bool.or_eq_true,Bool.not_eq_true']at this
       rcases this with h | h
       ·have:=Nat.le_of_ble_eq_true h; omega
       ·exact h
      rw[show i+(stage (fun i=>listed.getD i false) 0 l-i)=stage (fun i=>listed.getD i false) 0 l by omega]at hb
      rw[hb]
      split at hstep
      ·rename_i u H2 hu
       simp only[sJ,pJ]at hstep
       obtain⟨rfl,rfl⟩:=hstep
       exact⟨_,hu⟩
      ·rename_i f args H2 hu
       obtain⟨_,x,hx⟩:=load_other hld hu
       simp at hx
      ·simp at hstep
     | false=>
      have hmem:stage (fun i=>listed.getD i false) 0 l∈chkOf l ms i:=by
       unfold chkOf
       rw[hao]
       simp only[hld,cond_true]
       rw[List.mem_filter]
       refine⟨List.mem_range.2 om,?_⟩
       rw[hsm]
       simp only[Bool.not_false,Bool.true_and]
       unfold mayAt
       rw[Bool.and_eq_true]
       refine⟨?_,?_⟩
       ·unfold isStage
        rcases Nat.lt_or_ge (stage (fun i=>listed.getD i false) 0 l) l.length with h | h
        ·have hob:l[stage (fun i=>listed.getD i false) 0 l]?=some l[stage (fun i=>listed.getD i false) 0 l]:=List.getElem?_eq_getElem h
         rw[hob]
         exact (st4 _ om (by simp)).1
        ·rw[List.getElem?_eq_none h]
         have:stage (fun i=>listed.getD i false) 0 l=l.length:=om
         rw[this]
         exact Nat.beq_refl _
       ·rw[List.all_eq_true]
        intro c hcr
        have hcl:=List.mem_range.1 hcr
        rw[List.getElem?_eq_getElem hcl]
        simp only[Bool.or_eq_true,Bool.not_eq_true']
        cases hcc:isChain l[c].op with
        | false=>exact .inl rfl
        | true=>
         right
         have hlc:l[c]?=some l[c]:=List.getElem?_eq_getElem hcl
         cases hb:Nat.blt c (stage (fun i=>listed.getD i false) 0 l) with
         | true=>
          simp only[cond_true,Bool.not_eq_true']
          have hlt:c<stage (fun i=>listed.getD i false) 0 l:=Nat.le_of_ble_eq_true hb
          have hcm:=st3 c _ hlc hcc om
          simp only[Nat.zero_add]at hcm
          cases hbit:bit ms c i with
          | false=>rfl
          | true=>
           exfalso
           rcases Nat.lt_trichotomy i c with h | h | h
           ·have:=hafter c _ h hlc hbit
            rw[hcm]at this; simp at this
           ·subst h; rw[hmi]at hcm; simp at hcm
           ·have:=bit_lt hbit
            omega
         | false=>
          simp only[cond_false,Bool.not_eq_true']
          have hge:stage (fun i=>listed.getD i false) 0 l≤c:=by
           rcases Nat.lt_or_ge c (stage (fun i=>listed.getD i false) 0 l) with h | h
           ·have:Nat.blt c (stage (fun i=>listed.getD i false) 0 l)=true:=Nat.ble_eq_true_of_le h
            rw[hb]at this; simp at this
           ·exact h
          cases hbit:bit ms i c with
          | false=>rfl
          | true=>
           exfalso
           have hlc2:=hmask i hiN hedges c (bit_lt hbit) hbit
           have hpl:stage (fun i=>listed.getD i false) 0 l<l.length:=om
           have hob2:l[stage (fun i=>listed.getD i false) 0 l]?=some (l[stage (fun i=>listed.getD i false) 0 l]'hpl):=List.getElem?_eq_getElem hpl
           obtain⟨q1,q2⟩:=st4 _ om (by rw[Nat.sub_zero]; exact hob2)
           rcases Nat.lt_trichotomy (stage (fun i=>listed.getD i false) 0 l) c with h | h | h
           ·have hpr:=hpair _ c _ _ h hob2 hlc
            simp only[okPair,Bool.or_eq_true,Bool.and_eq_true]at hpr
            rcases hpr with hpr | ⟨hpr,_⟩
            ·have:=hmask c om (hdown c om hlc2) _ h hpr
             rw[q2]at this; simp at this
            ·rw[q1,hcc]at hpr; simp at hpr
           ·rw[h]at q2; rw[q2]at hlc2; simp at hlc2
           ·omega
      obtain⟨Hp,hHp,hrun⟩:=chk_at l _ ss T0 0 hck i _ (chkOf l ms i) v H1 hao (by simp[hN,hiN]) hss _ hmem
      obtain⟨H2,hH2⟩:=hrun hgo
      refine⟨H2,?_⟩
      have:Hp=hAt H0 ss (stage (fun i=>listed.getD i false) 0 l):=by
       cases hstg:stage (fun i=>listed.getD i false) 0 l with
       | zero=>rw[hstg]at hHp; simpa[hAt] using hHp.symm
       | succ q=>
        rw[hstg]at hHp
        simp only[List.getElem?_cons_succ,List.getElem?_map]at hHp
        simp only[hAt]
        cases hq:ss[q]? with
        | none=>rw[hq]at hHp; simp at hHp
        | some z=>rw[hq]at hHp; obtain⟨z1,z2⟩:=z; simpa using hHp.symm
      rw[← this]
      exact hH2
   have hfew:∀d,aside Prot.dead l (fun j=>if j=i then true else listed.getD j false) d→aside Prot.dead l (fun i=>listed.getD i false) d:=by
    rintro d (hd | ⟨i',a',z',s',x1,x2,x3⟩)
    ·exact .inl hd
    ·refine .inr ⟨i',a',z',s',x1,x2,?_⟩
     simp only at x3
     by_cases e:i'=i
     ·rw[if_pos e]at x3; simp at x3
     ·rw[if_neg e]at x3; exact x3
   have hord:(∃ax g,cOp P o.op=some ax∧okDst n o.dst=true∧ao=⟨o.dst,ax,g⟩∧Region.wanted o (yielded ops a.tmps)=gOK (tsel (fun i=>listed.getD i false) 0 l ss T0) g)∨∃c,base≤c∧IsCl P n ops o ao c:=by
    rcases hco with hco | hco
    ·unfold cOper at hco
     split at hco
     ·rename_i ax g hopc hgc
      cases hdst:okDst n o.dst with
      | false=>rw[hdst]at hco; simp at hco
      | true=>
       rw[hdst]at hco
       simp only[cond_true,sJ]at hco
       exact .inl ⟨ax,g,hopc,rfl,hco.symm,guard_ok ht hgc⟩
     ·simp at hco
    ·exact .inr hco
   rcases hord with⟨ax,g,hopc,hdst,rfl,hwant⟩ | ⟨cb,hcb,z,s,g,hoe,hgc,hdst,rfl⟩
   ·skip
    ·simp only at hgd hop hnext hchain hao
     unfold wpOp
     simp only[ho]
     rw[hwant,hgd]
     have hd':∀u,(a.put o.dst u).defers=ds:=fun u=>by cases hx:o.dst <;> simpa[Act.put] using hd
     unfold astep at hstep
     simp only at hstep
     cases hgo:gOK (tsel (fun j=>Nat.blt j (0+i)) 0 l ss T0) g with
     | false=>
      rw[hgo]at hstep
      simp only[cond_false,sJ,pJ]at hstep
      obtain⟨rfl,rfl⟩:=hstep
      simp only[Bool.false_eq_true,if_false]
      refine hnext ρ w _ (Pl.le_refl _) ?_ (put_rel ht hdst undef_rel) (hd' _)
      split
      ·rename_i hc
       have h9:=R.fewer hfew
       rw[hchain hc]at h9
       exact h9
      ·exact R.fewer hfew
     | true=>
      rw[hgo]at hstep
      simp only[cond_true]at hstep
      simp only[if_true]
      left
      cases hc:isChain ax with
      | true=>
       have hpi:=hchain hc
       rw[hpi]at R
       rw[← hop]at hstep
       split at hstep
       ·rename_i u H2 hu
        simp only[sJ,pJ]at hstep
        obtain⟨rfl,rfl⟩:=hstep
        obtain⟨ρ1,w1,nx,q1,q2,q3,q4⟩:=op_sim htb R ht o hopc hu
        simp only[Oper.wp,q2]
        rw[hc]at hnext
        simp only[if_true]at hnext
        cases nx <;> simp only[NxRel]at q4
        case value u=>exact hnext ρ1 w1 _ q1 (q3.fewer hfew) (put_rel (ht.mono q1) hdst q4) (hd' _)
        case skip=>exact hnext ρ1 w1 _ q1 (q3.fewer hfew) (put_rel (ht.mono q1) hdst q4) (hd' _)
       ·rename_i f args H2 hu
        obtain⟨ρ1,w1,nx,q1,q2,q3,q4⟩:=op_sim htb R ht o hopc hu
        simp only[Oper.wp,q2]
        rw[hc]at hnext
        simp only[if_true]at hnext
        cases nx <;> simp only[NxRel]at q4
        case enter gf vs=>
         obtain⟨rfl,hbig,q5⟩:=q4
         simp only[Oper.upon]
         refine (hcall _ _ _ _ _ hbig hstep ⟨Prot.prot,aside Prot.dead l fun i=>listed.getD i false⟩ w0 ρ1 w1 vs q3 q5).mono fun e w' hr=>?_
         obtain⟨ρ2,u,r1,rfl,r3,r4⟩:=hr
         exact hnext ρ2 w' _ (Pl.le_trans q1 r1) (r3.fewer hfew) (put_rel ((ht.mono q1).mono r1) hdst r4) (hd' _)
       ·simp at hstep
      | false=>
       rw[hc]at hnext
       simp only[Bool.false_eq_true,if_false]at hnext
       obtain⟨H2,hH2⟩:=hval hc hgo
       have hsame:H2=hAt H0 ss (stage (fun i=>listed.getD i false) 0 l):=by
        have hk:isPure ax=true∨isLoad ax=true:=by
         unfold isChain at hc
         cases h1:isPure ax <;> cases h2:isLoad ax <;> simp_all
        rcases hk with hk | hk
        ·exact (pure_other hk hH2).1
        ·exact (load_other hk hH2).1
       subst hsame
       rw[← hop]at hH2
       obtain⟨ρ1,w1,nx,q1,q2,q3,q4⟩:=op_sim htb R ht o hopc hH2
       simp only[Oper.wp,q2]
       cases nx <;> simp only[NxRel]at q4
       case value u=>exact hnext ρ1 w1 _ q1 (q3.fewer hfew) (put_rel (ht.mono q1) hdst q4) (hd' _)
       case skip=>exact hnext ρ1 w1 _ q1 (q3.fewer hfew) (put_rel (ht.mono q1) hdst q4) (hd' _)
   ·-- a new block,of a number that was laid aside
    simp only at hgd hop hnext hchain hao hval
    unfold wpOp
    simp only[ho]
    rw[guard_ok ht hgc,hgd]
    have hd':∀u,(a.put o.dst u).defers=ds:=fun u=>by cases hx:o.dst <;> simpa[Act.put] using hd
    have hnc:isChain (AOp.claim cb z s)=false:=rfl
    rw[hnc]at hnext
    simp only[Bool.false_eq_true,if_false]at hnext
    cases hgo:gOK (tsel (fun j=>Nat.blt j (0+i)) 0 l ss T0) g with
    | false=>
     unfold astep at hstep
     simp only at hstep
     rw[hgo]at hstep
     simp only[cond_false,sJ,pJ]at hstep
     obtain⟨rfl,rfl⟩:=hstep
     simp only[Bool.false_eq_true,if_false]
     exact hnext ρ w _ (Pl.le_refl _) (R.fewer hfew) (put_rel ht hdst undef_rel) (hd' _)
    | true=>
     simp only[if_true]
     left
     obtain⟨H2,hH2⟩:=hval hnc hgo
     simp only[aop]at hH2
     obtain⟨y,hy,hv,_⟩:=vv_spec hH2
     simp only[Nx.val.injEq]at hv
     subst hv
     obtain⟨hget,rfl⟩:=claim_spec hy
     obtain⟨ρ1,w1,u,q1,hrun,q3,q4⟩:=claim_run R ht hoe (.inr ⟨i,_,z,s,hao,rfl,hmi⟩) hget
     simp only[Oper.wp,hrun]
     refine hnext ρ1 w1 _ q1 (q3.fewer ?_) (put_rel (ht.mono q1) hdst q4) (hd' _)
     intro d hd0
     refine⟨hfew d hd0,?_⟩
     rintro rfl
     rcases hd0 with hd0 | ⟨i',a',z',s',x1,x2,x3⟩
     ·have:=hbase _ hd0; omega
     ·have:=hdis i' i a' _ _ z' z s' s x1 hao x2 rfl
      subst this
      simp at x3
end
end Go.Abs
namespace Go.Abs
theorem call_not_claim{P:Program}{c:Call}{b:Nat}{z:List AVal}{s:Option (Nat×Nat)}(h:cCall P c=some (.claim b z s)):False:=by
 unfold cCall at h
 repeat' split at h
 all_goals first
  | (simp at h; done)
  | (simp only[cond_eq_ite]at h; split at h <;> simp at h)
theorem cOpX_not_claim{P:Program}{o:Op}{b:Nat}{z:List AVal}{s:Option (Nat×Nat)}(h:cOpX P o=some (.claim b z s)):False:=by
 unfold cOpX at h
 repeat' split at h
 all_goals first
  | (simp at h; done)
  | (simp only[cond_eq_ite]at h; split at h <;> first | (simp at h; done) | (split at h <;> simp at h))
theorem cOp_not_claim{P:Program}{o:Op}{b:Nat}{z:List AVal}{s:Option (Nat×Nat)}(h:cOp P o=some (.claim b z s)):False:=by
 unfold cOp at h
 split at h
 ·rename_i a ha
  simp only[sJ]at h
  subst h
  exact cOpX_not_claim ha
 ·split at h
  ·rename_i a ha
   simp only[sJ]at h
   subst h
   cases o <;> simp only[cOp0,reduceCtorEq]at ha
   case call c _=>exact call_not_claim ha
   all_goals
    exfalso
    repeat' split at ha
    all_goals first
     | (simp at ha; done)
     | (simp only[cond_eq_ite]at ha; split at ha <;> simp at ha)
  ·simp at h
def NoCl(l:List AOper):Prop:=∀a∈l,∀(c:Nat) (z:List AVal) (s:Option (Nat×Nat)),a.op≠.claim c z s
def NoClaim(l:List AOper):Prop:=NoCl l∧∀a∈l,isFill a.op=false
theorem opers_noCl{P:Program}{n:Nat}{ops:Array Oper}:∀{rest:List Oper} {l:List AOper},cOpers P n ops rest=some l→NoCl l:=by
 intro rest
 induction rest with
 | nil=>intro l h; simp only[cOpers,sJ]at h; subst h; intro a ha; simp at ha
 | cons o r ih=>
  intro l h
  simp only[cOpers]at h
  split at h
  ·rename_i a l' ha hl'
   simp only[sJ]at h
   subst h
   intro x hx c z s hc
   rcases List.mem_cons.1 hx with rfl | hx
   ·unfold cOper at ha
    split at ha
    ·rename_i ax g hopc hg
     cases hdst:okDst n o.dst with
     | false=>rw[hdst]at ha; simp at ha
     | true=>
      rw[hdst]at ha
      simp only[cond_true,sJ]at ha
      subst ha
      simp only at hc
      subst hc
      exact cOp_not_claim hopc
    ·simp at ha
   ·exact ih hl' x hx c z s hc
  ·simp at h
theorem opers_noFl{P:Program}{n:Nat}{ops:Array Oper}:∀{rest:List Oper} {l:List AOper},cOpers P n ops rest=some l→∀a∈l,isFill a.op=false:=by
 intro rest
 induction rest with
 | nil=>intro l h; simp only[cOpers,sJ]at h; subst h; intro a ha; simp at ha
 | cons o r ih=>
  intro l h
  simp only[cOpers]at h
  split at h
  ·rename_i a l' ha hl'
   simp only[sJ]at h
   subst h
   intro x hx
   rcases List.mem_cons.1 hx with rfl | hx
   ·unfold cOper at ha
    split at ha
    ·rename_i ax g hopc hg
     cases hdst:okDst n o.dst with
     | false=>rw[hdst]at ha; simp at ha
     | true=>
      rw[hdst]at ha
      simp only[cond_true,sJ]at ha
      subst ha
      exact cOp_isFill hopc
    ·simp at ha
   ·exact ih hl' x hx
  ·simp at h
theorem opers_noClaim{P:Program}{n:Nat}{ops:Array Oper}{rest:List Oper}{l:List AOper}(h:cOpers P n ops rest=some l):NoClaim l:=⟨opers_noCl h,opers_noFl h⟩
theorem NoClaim.tail{o:AOper}{r:List AOper}(h:NoClaim (o::r)):NoClaim r:=⟨fun x hx=>h.1 x (List.mem_cons_of_mem _ hx),fun x hx=>h.2 x (List.mem_cons_of_mem _ hx)⟩
theorem claims_step(b:Nat)(o:AOper)(r:List AOper)(hf:isFill o.op=false):(∃z s,claims b (o::r)=⟨o.dst,.claim b z s,o.guard⟩::claims (b+1) r∧∀H,reserves H (o::r)=reserves (H.push (resO z s)) r) ∨
  (claims b (o::r)=o::claims b r∧∀H,reserves H (o::r)=reserves H r):=by
 cases h:newOf o.op with
 | some p=>obtain⟨z,s⟩:=p; exact .inl ⟨z,s,by simp only[claims,h,clOp_no hf],fun H=>by simp only[reserves,h]⟩
 | none=>exact .inr ⟨by simp only[claims,h],fun H=>by simp only[reserves,h]⟩
theorem claims_ge:∀(l:List AOper) (b:Nat),NoClaim l→∀(i:Nat) (a:AOper) (c:Nat) (z:List AVal) (s:Option (Nat×Nat)),(claims b l)[i]?=some a→a.op=.claim c z s→b≤c
 | [],b,_,i,a,c,z,s,h,_=>by simp[claims]at h
 | o::r,b,hn,i,a,c,z,s,h,hc=>by
  have hr:NoClaim r:=hn.tail
  rcases claims_step b o r (hn.2 o (List.mem_cons_self ..)) with⟨z',s',e,_⟩ | ⟨e,_⟩
  ·rw[e]at h
   cases i with
   | zero=>
    simp only[List.getElem?_cons_zero,sJ]at h
    subst h
    simp only[AOp.claim.injEq]at hc
    omega
   | succ i=>
    simp only[List.getElem?_cons_succ]at h
    have:=claims_ge r (b+1) hr i a c z s h hc
    omega
  ·rw[e]at h
   cases i with
   | zero=>
    simp only[List.getElem?_cons_zero,sJ]at h
    subst h
    exact absurd hc (hn.1 o (List.mem_cons_self ..) c z s)
   | succ i=>
    simp only[List.getElem?_cons_succ]at h
    exact claims_ge r b hr i a c z s h hc
theorem claims_inj:∀(l:List AOper) (b:Nat),NoClaim l→∀(i j:Nat) (a a':AOper) (c:Nat) (z z':List AVal) (s s':Option (Nat×Nat)),(claims b l)[i]?=some a→(claims b l)[j]?=some a'→a.op=.claim c z s→a'.op=.claim c z' s'→i=j
 | [],b,_,i,j,a,a',c,z,z',s,s',h,_,_,_=>by simp[claims]at h
 | o::r,b,hn,i,j,a,a',c,z,z',s,s',h,k,hc,kc=>by
  have hr:NoClaim r:=hn.tail
  rcases claims_step b o r (hn.2 o (List.mem_cons_self ..)) with⟨y,s9,e,_⟩ | ⟨e,_⟩
  ·rw[e]at h k
   cases i with
   | zero=>
    cases j with
    | zero=>rfl
    | succ j=>
     simp only[List.getElem?_cons_zero,sJ,List.getElem?_cons_succ]at h k
     subst h
     simp only[AOp.claim.injEq]at hc
     have:=claims_ge r (b+1) hr j a' c z' s' k kc
     omega
   | succ i=>
    cases j with
    | zero=>
     simp only[List.getElem?_cons_zero,sJ,List.getElem?_cons_succ]at h k
     subst k
     simp only[AOp.claim.injEq]at kc
     have:=claims_ge r (b+1) hr i a c z s h hc
     omega
    | succ j=>
     simp only[List.getElem?_cons_succ]at h k
     rw[claims_inj r (b+1) hr i j a a' c z z' s s' h k hc kc]
  ·rw[e]at h k
   cases i with
   | zero=>
    simp only[List.getElem?_cons_zero,sJ]at h
    subst h
    exact absurd hc (hn.1 o (List.mem_cons_self ..) c z s)
   | succ i=>
    cases j with
    | zero=>
     simp only[List.getElem?_cons_zero,sJ]at k
     subst k
     exact absurd kc (hn.1 o (List.mem_cons_self ..) c z' s')
    | succ j=>
     simp only[List.getElem?_cons_succ]at h k
     rw[claims_inj r b hr i j a a' c z z' s s' h k hc kc]
section
variable {w0:World} {ρ:Pl} {w:World}
theorem reserves_rel{pr:Nat→Prop}:∀(l:List AOper) (D:Nat→Prop) (H:AHeap),NoClaim l→Rel ⟨pr,D⟩ w0 ρ H w→Rel ⟨pr,aside D (claims H.next l) fun _=>false⟩ w0 ρ (reserves H l) w
 | [],D,H,_,R=>R.fewer (D:=aside D [] fun _=>false) fun d hd=>by
  rcases hd with hd | ⟨i,a,z,s,h,_⟩
  ·exact hd
  ·simp at h
 | o::r,D,H,hn,R=>by
  have hr:NoClaim r:=hn.tail
  rcases claims_step H.next o r (hn.2 o (List.mem_cons_self ..)) with⟨y,s9,e,f⟩ | ⟨e,f⟩
  ·rw[e,f]
   have:=reserves_rel r _ _ hr (R.reserve (resO y s9) (by unfold resO; cases isMp s9 <;> rfl))
   refine Rel.fewer this fun d hd=>?_
   rcases hd with hd | ⟨i,a,z,s,h,k,_⟩
   ·exact .inl (.inl hd)
   ·cases i with
    | zero=>
     simp only[List.getElem?_cons_zero,sJ]at h
     subst h
     simp only[AOp.claim.injEq]at k
     exact .inl (.inr k.1.symm)
    | succ i=>
     simp only[List.getElem?_cons_succ]at h
     exact .inr ⟨i,a,z,s,h,k,rfl⟩
  ·rw[e,f]
   have:=reserves_rel r _ _ hr R
   refine Rel.fewer this fun d hd=>?_
   rcases hd with hd | ⟨i,a,z,s,h,k,_⟩
   ·exact .inl hd
   ·cases i with
    | zero=>
     simp only[List.getElem?_cons_zero,sJ]at h
     subst h
     exact absurd k (hn.1 o (List.mem_cons_self ..) d z s)
    | succ i=>
     simp only[List.getElem?_cons_succ]at h
     exact .inr ⟨i,a,z,s,h,k,rfl⟩
end
end Go.Abs
namespace Go.Abs
inductive ACode where
 | skip
 | reg (ops:List AOper)
 | draw (ops:List AOper) (chk:List (List Nat))
 | seq (a b:ACode)
 | cond (c:Opd) (a b:ACode)
 | block (id:Nat) (c:ACode)
 | loop (c:ACode)
 | exit (id:Nat)
 | ret
 | dfr (y:Opd) (b:ACode)
inductive AEx where
 | normal
 | exit (id:Nat)
 | ret
inductive ARes where
 | t (i:Nat)
 | cell (agg:Bool) (size:Nat) (i:Nat)
structure AFn where
 nt:Nat
 body:ACode
 res:List ARes
section
variable (tb:FuncId→Bool) (call:FuncId→List AVal→AHeap→Option (AVal×AHeap))
def aregs:List AOper→Tr AVal→AHeap→Option (Tr AVal×AHeap)
 | [],T,H=>some (T,H)
 | o::r,T,H=>bif gOK T o.guard then
   match aop tb T H o.op with
   | some (.val v,H')=>aregs r (aput T o.dst v) H'
   | some (.enter f args,H')=>match call f args H' with
    | some (v,H'')=>aregs r (aput T o.dst v) H''
    | none=>none
   | none=>none
  else aregs r (aput T o.dst undefA) H
def aloop(body:Tr AVal→AHeap→Option (AEx×Tr AVal×AHeap)):Nat→Tr AVal→AHeap→Option (AEx×Tr AVal×AHeap)
 | 0,_,_=>none
 | n+1,T,H=>match body T H with
  | some (.normal,T',H')=>aloop body n T' H'
  | some (e,T',H')=>some (e,T',H')
  | none=>none
def adraw(ops:List AOper)(chk:List (List Nat))(T:Tr AVal)(H:AHeap):Option (AEx×Tr AVal×AHeap):=
 match atrace tb call ops T H with
 | some ss=>bif chkRun tb (H::ss.map (·.2)) ops chk ss T then some (.normal,tsel (fun _=>true) 0 ops ss T,hAt H ss ops.length) else none
 | none=>none
def aexec(k:Nat):ACode→Tr AVal→AHeap→Option (AEx×Tr AVal×AHeap)
 | .skip,T,H=>some (.normal,T,H)
 | .reg ops,T,H=>match aregs tb call ops T H with
  | some (T',H')=>some (.normal,T',H')
  | none=>none
 | .draw ops chk,T,H=>adraw tb call (claims H.next ops) chk T (reserves H ops)
 | .seq a b,T,H=>match aexec k a T H with
  | some (.normal,T',H')=>aexec k b T' H'
  | some (e,T',H')=>some (e,T',H')
  | none=>none
 | .cond c a b,T,H=>match ev T c with
  | .bool true=>aexec k a T H
  | .bool false=>aexec k b T H
  | _=>none
 | .block id c,T,H=>match aexec k c T H with
  | some (.exit j,T',H')=>bif Nat.beq j id then some (.normal,T',H') else some (.exit j,T',H')
  | some (e,T',H')=>some (e,T',H')
  | none=>none
 | .loop c,T,H=>aloop (aexec k c) k T H
 | .exit id,T,H=>some (.exit id,T,H)
 | .ret,T,H=>some (.ret,T,H)
 | .dfr y b,T,H=>match ev T y with
  | .func (.func g) [] l=>match aexec k b T H with
   | some (.exit _,_,_)=>none
   | some (_,T',H')=>match call (3*BIG+g) l H' with
    | some (_,H'')=>some (.ret,T',H'')
    | none=>none
   | none=>none
  | _=>none
end
def ares(T:Tr AVal)(H:AHeap):List ARes→Option (List AVal)
 | []=>some []
 | .t i::r=>match ares T H r with
  | some l=>some (ev T (.t i)::l)
  | none=>none
 | .cell g n i::r=>match oLoad g n H (ev T (.t i)),ares T H r with
  | some x,some l=>some (x::l)
  | _,_=>none
def aresV:List AVal→AVal
 | [x]=>x
 | l=>.tuple l
def putArgs:List AVal→Nat→Tr AVal→Tr AVal
 | [],_,T=>T
 | x::r,i,T=>putArgs r (i+1) (T.set i x)
structure ANat where
 is:FuncId→Bool
 run:FuncId→List AVal→AHeap→Option (AVal×AHeap)
def tbA(N:ANat)(A:Tr AFn):FuncId→Bool:=fun f=>bif N.is f then true else match A.get f with | some _=>true | none=>false
def acall(N:ANat)(tab:Tr AFn):Nat→FuncId→List AVal→AHeap→Option (AVal×AHeap)
 | 0,_,_,_=>none
 | n+1,f,args,H=>bif N.is f then N.run f args H else match tab.get f with
  | some fn=>bif Nat.ble args.length fn.nt then
    match aexec (tbA N tab) (acall N tab n) n fn.body (putArgs args 0 .e) H with
    | some (.exit _,_,_)=>none
    | some (_,T,H')=>match ares T H' fn.res with
     | some l=>some (aresV l,H')
     | none=>none
    | none=>none
   else none
  | none=>none
section
variable (P:Program)
def stuckC:ACode:=.reg [⟨none,.bad,none⟩]
def cCode(n:Nat):Code→Option ACode
 | .skip=>some .skip
 | .region _ ops false=>match cOpers P n ops ops.toList with
  | some l=>some (.reg l)
  | none=>none
 | .region _ ops true=>match cOpers P n ops ops.toList with
  | some l=>bif okMask (ops.toList.map bindE) (masksGo [] (ops.toList.map bindE))&&okPairs (claims 0 l) (masksGo [] (ops.toList.map bindE)) then
    some (.draw l ((List.range l.length).map (chkOf (claims 0 l) (masksGo [] (ops.toList.map bindE))))) else some stuckC
  | none=>none
 | .seq a b=>match cCode n a,cCode n b with
  | some a,some b=>some (.seq a b)
  | _,_=>none
 | .cond c a b=>match cOpd c,cCode n a,cCode n b with
  | some c,some a,some b=>some (.cond c a b)
  | _,_,_=>none
 | .block id c=>match cCode n c with
  | some c=>some (.block id c)
  | none=>none
 | .loop c=>match cCode n c with
  | some c=>some (.loop c)
  | none=>none
 | .exit id=>some (.exit id)
 | .ret=>some .ret
 | .scope c=>cCode n c
 | .label _=>some .skip
 | _=>some stuckC
def cRes:List ResultVar→Option (List ARes)
 | []=>some []
 | .tmp t::r=>match cRes r with
  | some l=>some (.t t::l)
  | none=>none
 | .cell a t::r=>match tyOf P t,cRes r with
  | some (g,n),some l=>some (.cell g n a::l)
  | _,_=>none
def cDfr(n:Nat):Code→Option (List AOper×Opd)
 | .region _ ops false=>match ops.toList.getLast? with
  | some ⟨none,.defer ⟨.value x,as,_⟩,_,_,_,none⟩=>match as.toList,cOpd x,cOpers P n ops ops.toList.dropLast with
   | [],some y,some l=>some (l,y)
   | _,_,_=>none
  | _=>none
 | _=>none
def cCodeD(n:Nat):Code→Option ACode
 | .seq a b=>match cDfr P n a with
  | some (l,y)=>match cCode P n b with
   | some b=>some (.seq (.reg l) (.dfr y b))
   | none=>none
  | none=>match cCodeD n b with
   | some b=>match cCode P n a with
    | some a=>some (.seq a b)
    | none=>none
   | none=>none
 | _=>none
def cBody(n:Nat)(c:Code):Option ACode:=match cCodeD P n c with
 | some b=>some b
 | none=>cCode P n c
def cFnG(cc:Nat→Code→Option ACode)(f:FuncId):Option AFn:=
 match P.funcs[f]? with
 | some fn=>match fn.body with
  | some c => bif fn.name == "runtime.NumGoroutine" then none else
   match cc fn.ntmps c,cRes P fn.results.toList with
   | some b,some r=>some ⟨fn.ntmps,b,r⟩
   | _,_=>none
  | none=>none
 | none=>none
def eFn(i:Nat):Option AFn:=bif Nat.blt i BIG then cFnG P (cBody P) i else bif Nat.blt i (3*BIG) then none else bif Nat.blt i (4*BIG) then cFnG P (cCode P) (i-3*BIG) else none
def TabOK(tab:Tr AFn):Prop:=∀f fn,tab.get f=some fn→eFn P f=some fn
end
section
variable {P:Program} {Prot:Gh} {w0:World} {ρ:Pl} {H H':AHeap} {w:World}
def SimQ(P:Program)(Prot:Gh)(w0:World)(ds:List Deferred)(ρ:Pl)(n:Nat)(e:AEx)(T:Tr AVal)(H:AHeap):Exit→Act→World→Prop:=fun e' a w=>
 (match e with | .normal=>e'=.normal | .exit id=>e'=.exit id | .ret=>e'=.ret)∧∃ρ',ρ.le ρ'∧Rel Prot w0 ρ' H w∧TmpsRel ρ' n T a.tmps∧a.defers=ds
theorem regs_sim{tb:FuncId→Bool}(htb:∀f,Nat.blt f BIG=true→tb f=true→hasBody P f=true){call:FuncId→List AVal→AHeap→Option (AVal×AHeap)}(hcall:CallOK P call){ds:List Deferred}{n:Nat}{ops:Array Oper}{Q:Exit→Act→World→Prop}{tl:List Nat} :
  ∀(rest:List Oper) (i:Nat) (l:List AOper),(∀j,j<rest.length→rest[j]?=ops[i+j]?)→cOpers P n ops rest=some l→∀(ρ0 ρ:Pl) (T T':Tr AVal) (H H':AHeap) (a:Act) (w:World),ρ0.le ρ →
   Rel Prot w0 ρ H w→TmpsRel ρ n T a.tmps→a.defers=ds→aregs tb call l T H=some (T',H') →
   (∀a' w',(∃ρ',ρ0.le ρ'∧Rel Prot w0 ρ' H' w'∧TmpsRel ρ' n T' a'.tmps∧a'.defers=ds)→wpOps P ops Q tl a' w')→wpOps P ops Q (List.range' i rest.length++tl) a w:=by
 intro rest
 induction rest with
 | nil=>
  intro i l _ hc ρ0 ρ T T' H H' a w hle R ht hd h hQ
  simp only[cOpers,sJ]at hc
  subst hc
  simp only[aregs,sJ,pJ]at h
  obtain⟨rfl,rfl⟩:=h
  exact hQ a w ⟨ρ,hle,R,ht,hd⟩
 | cons o rest ih=>
  intro i l hi hc ρ0 ρ T T' H H' a w hle R ht hd h hQ
  simp only[cOpers]at hc
  split at hc
  ·rename_i ao l' ha hl
   simp only[sJ]at hc
   subst hc
   have ho:ops[i]?=some o:=by have:=hi 0 (by simp); simpa using this.symm
   have hnext:∀j,j<rest.length→rest[j]?=ops[i+1+j]?:=fun j hj=>by have:=hi (j+1) (by simpa using hj); simp only[List.getElem?_cons_succ]at this; rw[this]; congr 1; omega
   unfold cOper at ha
   split at ha
   ·rename_i ax g hop hg
    cases hdst:okDst n o.dst with
    | false=>rw[hdst]at ha; simp at ha
    | true=>
     rw[hdst]at ha
     simp only[cond_true,sJ]at ha
     subst ha
     simp only[List.length_cons,List.range'_succ,List.cons_append,wpOps,ho]
     simp only[aregs]at h
     rw[guard_ok ht hg]
     cases hgo:gOK T g with
     | false=>
      rw[hgo]at h
      simp only[cond_false]at h
      simp only[Bool.false_eq_true,if_false]
      refine ih (i+1) l' hnext hl ρ0 ρ _ _ _ _ _ _ hle R (put_rel ht hdst undef_rel) ?_ h hQ
      cases hx:o.dst <;> simpa[Act.put] using hd
     | true=>
      rw[hgo]at h
      simp only[cond_true]at h
      simp only[if_true]
      left
      split at h
      ·rename_i v H1 hv
       obtain⟨ρ1,w1,nx,q1,q2,q3,q4⟩:=op_sim htb R ht o hop hv
       simp only[Oper.wp,q2]
       have hd':∀u,(a.put o.dst u).defers=ds:=fun u=>by cases hx:o.dst <;> simpa[Act.put] using hd
       cases nx <;> simp only[NxRel]at q4
       case value u=>exact ih (i+1) l' hnext hl ρ0 ρ1 _ _ _ _ _ _ (Pl.le_trans hle q1) q3 (put_rel (ht.mono q1) hdst q4) (hd' _) h hQ
       case skip=>exact ih (i+1) l' hnext hl ρ0 ρ1 _ _ _ _ _ _ (Pl.le_trans hle q1) q3 (put_rel (ht.mono q1) hdst q4) (hd' _) h hQ
      ·rename_i f args H1 hv
       split at h
       ·rename_i v H2 hcl
        obtain⟨ρ1,w1,nx,q1,q2,q3,q4⟩:=op_sim htb R ht o hop hv
        simp only[Oper.wp,q2]
        have hd':∀u,(a.put o.dst u).defers=ds:=fun u=>by cases hx:o.dst <;> simpa[Act.put] using hd
        cases nx <;> simp only[NxRel]at q4
        case enter g vs=>
         obtain⟨rfl,hbig,q5⟩:=q4
         simp only[Oper.upon]
         refine (hcall _ _ _ _ _ hbig hcl Prot w0 ρ1 w1 vs q3 q5).mono fun e w' hr=>?_
         obtain⟨ρ2,u,r1,rfl,r3,r4⟩:=hr
         exact ih (i+1) l' hnext hl ρ0 ρ2 _ _ _ _ _ _ (Pl.le_trans hle (Pl.le_trans q1 r1)) r3 (put_rel ((ht.mono q1).mono r1) hdst r4) (hd' _) h hQ
       ·simp at h
      ·simp at h
   ·simp at ha
  ·simp at hc
theorem SimQ.weaken{ds:List Deferred}{ρ ρ':Pl}{n:Nat}{e:AEx}{T:Tr AVal}{H:AHeap}(h:ρ.le ρ'){e':Exit}{a:Act}{w:World}(q:SimQ P Prot w0 ds ρ' n e T H e' a w):SimQ P Prot w0 ds ρ n e T H e' a w:=by
 obtain⟨h1,ρ2,h2,h3⟩:=q
 exact⟨h1,ρ2,Pl.le_trans h h2,h3⟩
theorem stuck_none{tb:FuncId→Bool}{call:FuncId→List AVal→AHeap→Option (AVal×AHeap)}{k:Nat}{T:Tr AVal}{H:AHeap}:aexec tb call k stuckC T H=none:=rfl
theorem code_sim(hfol:P.follows .mixedOrders=true){tb:FuncId→Bool}(htb:∀f,Nat.blt f BIG=true→tb f=true→hasBody P f=true){call:FuncId→List AVal→AHeap→Option (AVal×AHeap)}(hcall:CallOK P call){ds:List Deferred}{n k:Nat} :
  ∀(c:Code) (ac:ACode),cCode P n c=some ac→∀(ρ:Pl) (T T':Tr AVal) (H H':AHeap) (e:AEx) (a:Act) (w:World),
   Rel Prot w0 ρ H w→TmpsRel ρ n T a.tmps→a.defers=ds→aexec tb call k ac T H=some (e,T',H')→c.wp P (SimQ P Prot w0 ds ρ n e T' H') a w:=by
 intro c
 induction c with
 | skip=>
  intro ac hc ρ T T' H H' e a w R ht hd h
  simp only[cCode,sJ]at hc; subst hc
  simp only[aexec,sJ,pJ]at h
  obtain⟨rfl,rfl,rfl⟩:=h
  exact wp_skip ⟨rfl,ρ,Pl.le_refl _,R,ht,hd⟩
 | region id ops draw=>
  intro ac hc ρ T T' H H' e a w R ht hd h
  cases draw with
  | true=>
   simp only[cCode]at hc
   split at hc
   ·rename_i l hl
    cases hck:(okMask (ops.toList.map bindE) (masksGo [] (ops.toList.map bindE))&&okPairs (claims 0 l) (masksGo [] (ops.toList.map bindE))) with
    | false=>
     rw[hck]at hc
     simp only[cond_false,sJ]at hc; subst hc
     simp[stuck_none]at h
    | true=>
     rw[hck]at hc
     simp only[cond_true,sJ]at hc; subst hc
     simp only[Bool.and_eq_true]at hck
     have hnc:=opers_noClaim hl
     have hlk:=claims_like l H.next 0
     have hok:okPairs (claims H.next l) (masksGo [] (ops.toList.map bindE))=true:=by rw[okPairs_like hlk]; exact hck.2
     have hlen:(claims H.next l).length=ops.toList.length:=(claims_at hl H.next).1
     have hll:l.length=(claims H.next l).length:=by rw[hlen]; exact (opers_at hl).1
     have hchk:(List.range l.length).map (chkOf (claims 0 l) (masksGo [] (ops.toList.map bindE)))=(List.range (claims H.next l).length).map (chkOf (claims H.next l) (masksGo [] (ops.toList.map bindE))):=by
      rw[hll]
      exact List.map_congr_left fun j _=>(chkOf_like hlk _ j).symm
     have hbase:∀d,Prot.dead d→d<H.next:=fun d hd=>(R.dead d hd).1
     have R:=reserves_rel (pr:=Prot.prot) l Prot.dead H hnc R
     simp only[aexec,adraw]at h
     rw[hchk]at h
     generalize hcl:claims H.next l=m at *
     generalize hrv:reserves H l=K at *
     split at h
     ·rename_i ss hss
      cases hr:chkRun tb (K::ss.map (·.2)) m ((List.range m.length).map (chkOf m (masksGo [] (ops.toList.map bindE)))) ss T with
      | false=>rw[hr]at h; simp at h
      | true=>
       rw[hr]at h
       simp only[cond_true,sJ,pJ]at h
       obtain⟨rfl,rfl,rfl⟩:=h
       refine wp_region_any hfol ?_
       have hN:m.length=ops.size:=by simpa using hlen
       have hrep:∀i,(Array.replicate ops.size false).getD i false=false:=fun i=>by
        rw[Array.getD_eq_getD_getElem?,Array.getElem?_replicate]; split <;> rfl
       have hm0:(fun i=>(Array.replicate ops.size false).getD i false)=fun _=>false:=funext hrep
       have hst:stage (fun i=>(Array.replicate ops.size false).getD i false) 0 m=stage (fun _=>false) 0 m:=stage_congr m 0 fun c o _ _=>by simp only[hrep]
       have hH:hAt K ss (stage (fun _=>false) 0 m)=K:=by
        obtain⟨q1,q2,q3,q4⟩:=stage_spec (fun _=>false) m 0
        have:=heap_between hss (stage (fun _=>false) 0 m) 0 om fun c o _ hlt ho=>by
         cases hx:isChain o.op with
         | false=>rfl
         | true=>have:=q3 c o ho hx om; simp at this
        rw[Nat.zero_add]at this
        rw[this]; rfl
       refine draw_any (Prot:=Prot) (w0:=w0) htb hcall (base:=H.next) hlen (by rw[← hcl]; exact (claims_at hl H.next).2) hbase (by rw[← hcl]; exact claims_inj l H.next hnc) hck.1 hok hss hr (ρ0:=ρ) (fun a' w' hx=>⟨rfl,hx⟩) ops.size _ a _ (by simp) ?_ (fun j _ hj=>by rw[hrep]at hj; simp at hj) ⟨ρ,Pl.le_refl _,?_,?_,hd⟩
       ·rw[hm0]
        have:∀k,unl (fun _=>false) k=k:=by
         intro k
         induction k with
         | zero=>rfl
         | succ k ih=>simp only[unl,ih,cond_false]
        exact this _
       ·rw[hst,hH,hm0]; exact R.drew
       ·refine ht.congr fun t=>?_
        rw[hm0]
        have:∀(l:List AOper) (ss:List (AVal×AHeap)) (k:Nat) (T:Tr AVal),tsel (fun _=>false) k l ss T=T:=by
         intro l
         induction l with
         | nil=>intro ss k T; cases ss <;> rfl
         | cons o r ih=>intro ss k T; cases ss with
          | nil=>rfl
          | cons s ss=>obtain⟨x,y⟩:=s; simp only[tsel,cond_false,ih]
        rw[this]
     ·simp at h
   ·simp at hc
  | false=>
   simp only[cCode]at hc
   split at hc
   ·rename_i l hl
    simp only[sJ]at hc; subst hc
    simp only[aexec]at h
    split at h
    ·rename_i T1 H1 h1
     simp only[sJ,pJ]at h
     obtain⟨rfl,rfl,rfl⟩:=h
     refine wp_region ?_
     have:=regs_sim (Prot:=Prot) (w0:=w0) htb hcall (Q:=SimQ P Prot w0 ds ρ n .normal T1 H1) (tl:=[]) ops.toList 0 l (fun j _=>by simp) hl ρ ρ T T1 H H1 a w (Pl.le_refl _) R ht hd h1 (fun a' w' h=>⟨rfl,h⟩)
     rw[List.range_eq_range']
     simpa using this
    ·simp at h
   ·simp at hc
 | seq x y ihx ihy=>
  intro ac hc ρ T T' H H' e a w R ht hd h
  simp only[cCode]at hc
  split at hc
  ·rename_i ax ay hx hy
   simp only[sJ]at hc; subst hc
   simp only[aexec]at h
   split at h
   ·rename_i T1 H1 h1
    refine wp_seq (wp_mono (ihx _ hx ρ T T1 H H1 .normal a w R ht hd h1) ?_)
    rintro e1 a1 w1 ⟨he,ρ1,hl,R1,ht1,hd1⟩
    simp only at he
    subst he
    exact wp_mono (ihy _ hy ρ1 T1 T' H1 H' e a1 w1 R1 ht1 hd1 h) fun _ _ _ q=>q.weaken hl
   ·rename_i e1 T1 H1 hne h1
    simp only[sJ,pJ]at h
    obtain⟨rfl,rfl,rfl⟩:=h
    refine wp_seq (wp_mono (ihx _ hx ρ T T1 H H1 e1 a w R ht hd h1) ?_)
    rintro e2 a1 w1 q
    cases e1 with
    | normal=>exact (hne rfl).elim
    | exit id=>have:=q.1; simp only at this; subst this; exact q
    | ret=>have:=q.1; simp only at this; subst this; exact q
   ·simp at h
  ·simp at hc
 | cond c x y ihx ihy=>
  intro ac hc ρ T T' H H' e a w R ht hd h
  simp only[cCode]at hc
  split at hc
  ·rename_i c' ax ay hcc hx hy
   simp only[sJ]at hc; subst hc
   simp only[aexec]at h
   have hv:=opd_ok ht hcc
   split at h
   ·rename_i hb
    rw[hb]at hv
    simp only[VRel]at hv
    exact wp_cond_true hv (ihx _ hx ρ T T' H H' e a w R ht hd h)
   ·rename_i hb
    rw[hb]at hv
    simp only[VRel]at hv
    exact wp_cond_false hv (ihy _ hy ρ T T' H H' e a w R ht hd h)
   ·simp at h
  ·simp at hc
 | block id c ih=>
  intro ac hc ρ T T' H H' e a w R ht hd h
  simp only[cCode]at hc
  split at hc
  ·rename_i ax hx
   simp only[sJ]at hc; subst hc
   simp only[aexec]at h
   split at h
   ·rename_i j T1 H1 h1
    refine wp_block (wp_mono (ih _ hx ρ T T1 H H1 (.exit j) a w R ht hd h1) ?_)
    rintro e1 a1 w1 q
    have he:=q.1
    simp only at he
    subst he
    cases hb:Nat.beq j id with
    | true=>
     rw[hb]at h
     simp only[cond_true,sJ,pJ]at h
     obtain⟨rfl,rfl,rfl⟩:=h
     have:=Nat.eq_of_beq_eq_true hb
     simp only[Exit.inBlock,this,if_true]
     exact⟨rfl,q.2⟩
    | false=>
     rw[hb]at h
     simp only[cond_false,sJ,pJ]at h
     obtain⟨rfl,rfl,rfl⟩:=h
     have:¬j=id:=fun e=>by rw[e,Nat.beq_refl]at hb; simp at hb
     simp only[Exit.inBlock,this,if_false]
     exact q
   ·rename_i e1 T1 H1 hne h1
    simp only[sJ,pJ]at h
    obtain⟨rfl,rfl,rfl⟩:=h
    refine wp_block (wp_mono (ih _ hx ρ T T1 H H1 e1 a w R ht hd h1) ?_)
    rintro e2 a1 w1 q
    cases e1 with
    | normal=>have:=q.1; simp only at this; subst this; exact q
    | exit j=>exact (hne _ rfl).elim
    | ret=>have:=q.1; simp only at this; subst this; exact q
   ·simp at h
  ·simp at hc
 | loop c ih=>
  intro ac hc ρ T T' H H' e a w R ht hd h
  simp only[cCode]at hc
  split at hc
  ·rename_i ax hx
   simp only[sJ]at hc; subst hc
   simp only[aexec]at h
   refine wp_loop_rounds k ?_
   have key:∀(m:Nat) (T:Tr AVal) (H:AHeap) (ρ1:Pl) (a:Act) (w:World),ρ.le ρ1→Rel Prot w0 ρ1 H w→TmpsRel ρ1 n T a.tmps→a.defers=ds →
     aloop (aexec tb call k ax) m T H=some (e,T',H')→Code.rounds P c (SimQ P Prot w0 ds ρ n e T' H') m a w:=by
    intro m
    induction m with
    | zero=>intro T H ρ1 a w _ _ _ _ h; simp[aloop]at h
    | succ m ihm=>
     intro T H ρ1 a w hl R ht hd h
     rw[rounds_succ]
     simp only[aloop]at h
     split at h
     ·rename_i T1 H1 h1
      refine wp_mono (ih _ hx ρ1 T T1 H H1 .normal a w R ht hd h1) ?_
      rintro e1 a1 w1 ⟨he,ρ2,hl2,R1,ht1,hd1⟩
      simp only at he
      subst he
      exact ihm T1 H1 ρ2 a1 w1 (Pl.le_trans hl hl2) R1 ht1 hd1 h
     ·rename_i e1 T1 H1 hne h1
      simp only[sJ,pJ]at h
      obtain⟨rfl,rfl,rfl⟩:=h
      refine wp_mono (ih _ hx ρ1 T T1 H H1 e1 a w R ht hd h1) ?_
      rintro e2 a1 w1 q
      have q':=q.weaken hl
      cases e1 with
      | normal=>exact (hne rfl).elim
      | exit id=>have:=q.1; simp only at this; subst this; exact q'
      | ret=>have:=q.1; simp only at this; subst this; exact q'
     ·simp at h
   exact key k T H ρ a w (Pl.le_refl _) R ht hd h
  ·simp at hc
 | exit id=>
  intro ac hc ρ T T' H H' e a w R ht hd h
  simp only[cCode,sJ]at hc; subst hc
  simp only[aexec,sJ,pJ]at h
  obtain⟨rfl,rfl,rfl⟩:=h
  exact wp_exit ⟨rfl,ρ,Pl.le_refl _,R,ht,hd⟩
 | ret=>
  intro ac hc ρ T T' H H' e a w R ht hd h
  simp only[cCode,sJ]at hc; subst hc
  simp only[aexec,sJ,pJ]at h
  obtain⟨rfl,rfl,rfl⟩:=h
  exact wp_ret ⟨rfl,ρ,Pl.le_refl _,R,ht,hd⟩
 | scope c ih=>
  intro ac hc ρ T T' H H' e a w R ht hd h
  simp only[cCode]at hc
  refine wp_scope_straight (wp_mono (ih _ hc ρ T T' H H' e a w R ht hd h) ?_)
  rintro e1 a1 w1 q
  have he:=q.1
  cases e with
  | normal=>simp only at he; subst he; exact q
  | exit id=>simp only at he; subst he; exact q
  | ret=>simp only at he; subst he; exact q
 | label id=>
  intro ac hc ρ T T' H H' e a w R ht hd h
  simp only[cCode,sJ]at hc; subst hc
  simp only[aexec,sJ,pJ]at h
  obtain⟨rfl,rfl,rfl⟩:=h
  exact wp_label ⟨rfl,ρ,Pl.le_refl _,R,ht,hd⟩
 | _=>
  intro ac hc ρ T T' H H' e a w R ht hd h
  simp only[cCode,sJ]at hc; subst hc
  simp[stuck_none]at h
theorem res_sim{n:Nat}(R:Rel Prot w0 ρ H w){T:Tr AVal}{tmps:Array Value}(ht:TmpsRel ρ n T tmps):∀{rs:List ResultVar} {l:List ARes},cRes P rs=some l→∀{xs:List AVal},ares T H l=some xs →
  ∃vs:List Value,(rs.mapM (fun r=>match r with
   | .tmp t=>Pure.pure (tmps.getD t undef)
   | .cell a t=>do loadVar t (← asAddr (tmps.getD a undef))):Sem (List Value)).run P w=.ok vs w∧VRels ρ xs vs:=by
 intro rs
 induction rs with
 | nil=>
  intro l hc xs h
  simp only[cRes,sJ]at hc; subst hc
  simp only[ares,sJ]at h; subst h
  exact⟨[],rfl,by simp[VRels]⟩
 | cons r rs ih=>
  intro l hc xs h
  cases r with
  | tmp t=>
   simp only[cRes]at hc
   split at hc
   ·rename_i l' hl
    simp only[sJ]at hc; subst hc
    simp only[ares]at h
    split at h
    ·rename_i ys hy
     simp only[sJ]at h; subst h
     obtain⟨vs,h1,h2⟩:=ih hl hy
     refine⟨tmps.getD t undef::vs,?_,by simp only[VRels]; exact⟨_,_,rfl,ht.at_ t,h2⟩⟩
     simp only[List.mapM_cons,Sem.run_bind,Sem.run_pure,Result.andThen_ok,h1]
    ·simp at h
   ·simp at hc
  | cell a t=>
   simp only[cRes]at hc
   split at hc
   ·rename_i g k l' hk hl
    simp only[sJ]at hc; subst hc
    simp only[ares]at h
    split at h
    ·rename_i x ys hx hy
     simp only[sJ]at h; subst h
     obtain⟨vs,h1,h2⟩:=ih hl hy
     obtain⟨u,u1,u2⟩:=load_ok (P:=P) R (ty_of hk) (ht.at_ a) hx
     have hp:∃ad,tmps.getD a undef=.pointer (some ad):=by
      have hat:=ht.at_ a
      unfold oLoad at hx
      split at hx
      ·rename_i ad heq
       rw[heq]at hat
       simp only[VRel]at hat
       obtain⟨L,_,_,e⟩:=hat
       exact⟨_,e⟩
      ·simp at hx
     obtain⟨ad,had⟩:=hp
     refine⟨u::vs,?_,by simp only[VRels]; exact⟨_,_,rfl,u2,h2⟩⟩
     have:(loadVar t ad).run P w=.ok u w:=by
      rw[had]at u1
      simpa[Instr.loadAt,Instr.sureAddr] using u1
     have hA:(asAddr (tmps.getD a undef)).run P w=.ok ad w:=by rw[had]; rfl
     simp only[List.mapM_cons,Sem.run_bind,hA,Sem.run_pure,Result.andThen_ok,this,h1]
    ·simp at h
   ·simp at hc
theorem results_sim{n:Nat}(R:Rel Prot w0 ρ H w){T:Tr AVal}{tmps:Array Value}(ht:TmpsRel ρ n T tmps){fn:Func}{l:List ARes}(hc:cRes P fn.results.toList=some l){xs:List AVal}(h:ares T H l=some xs) :
  ∃v,(results fn tmps).run P w=.ok v w∧VRel ρ (aresV xs) v:=by
 obtain⟨vs,h1,h2⟩:=res_sim (P:=P) R ht hc h
 have hl:=VRels.len h2
 have hm:(fn.results.mapM (fun r=>match r with
   | .tmp t=>Pure.pure (tmps.getD t undef)
   | .cell a t=>do loadVar t (← asAddr (tmps.getD a undef))):Sem (Array Value)).run P w=.ok vs.toArray w:=by
  rw[Array.mapM_eq_mapM_toList]
  simp only[Sem.run_map,h1,Result.andThen_ok]
 refine⟨if h:vs.toArray.size=1 then vs.toArray[0] else .tuple vs.toArray,?_,?_⟩
 ·have e:results fn tmps=(fn.results.mapM (fun r=>match r with
   | .tmp t=>Pure.pure (tmps.getD t undef)
   | .cell a t=>do loadVar t (← asAddr (tmps.getD a undef))):Sem (Array Value)) >>= fun vs=>Pure.pure (if h:vs.size=1 then vs[0] else .tuple vs):=rfl
  rw[e,Sem.run_bind,hm]
  rfl
 ·match xs,vs,h2,hl with
  | [x],[v],h2,_=>
   simp only[VRels]at h2
   obtain⟨v',r,e,h3,_⟩:=h2
   simp only[List.cons.injEq]at e
   obtain⟨rfl,rfl⟩:=e
   exact h3
  | [],[],h2,_=>simp only[aresV,VRel]; exact⟨_,rfl,h2⟩
  | x::y::xs,v::u::vs,h2,_=>simp only[aresV,VRel]; exact⟨_,rfl,h2⟩
theorem args_sim:∀(args:List AVal) (vs:List Value) (i:Nat) (T:Tr AVal),VRels ρ args vs→(∀t,i≤t→T.get t=none) →
  ∀t,ev (putArgs args i T) (.t t)=if t<i then ev T (.t t) else match args[t-i]? with | some x=>x | none=>undefA:=by
 intro args
 induction args with
 | nil=>
  intro vs i T _ hn t
  simp only[putArgs]
  split
  ·rfl
  ·rename_i h
   simp[ev,hn t om]
 | cons x r ih=>
  intro vs i T hv hn t
  simp only[VRels]at hv
  obtain⟨v,vs',rfl,h1,h2⟩:=hv
  simp only[putArgs]
  rw[ih vs' (i+1) (T.set i x) h2 (fun t ht=>by rw[Tr.get_set,if_neg om]; exact hn t om) t]
  by_cases c1:t<i
  ·rw[if_pos om,if_pos c1]
   simp only[ev,Tr.get_set]
   rw[if_neg om]
  ·by_cases c2:t=i
   ·subst c2
    rw[if_pos om,if_neg c1]
    simp[ev,Tr.get_set]
   ·rw[if_neg om,if_neg c1,show t-i=(t-(i+1))+1 by omega]
    simp
theorem start_sim{args:List AVal}{vs:Array Value}(hv:VRels ρ args vs.toList){n:Nat}(hn:args.length≤n):TmpsRel ρ n (putArgs args 0 .e) (vs++Array.replicate (n-vs.size) undef):=by
 have hl:=VRels.len hv
 simp only[Array.length_toList]at hl
 refine⟨by simp; omega,fun t=>?_⟩
 rw[args_sim args vs.toList 0 .e hv (fun _ _=>rfl) t]
 rw[if_neg om,Nat.sub_zero]
 by_cases ht:t<args.length
 ·have hx:args[t]?=some args[t]:=List.getElem?_eq_getElem ht
  obtain⟨v,h1,h2⟩:=hv.nth _ _ hx
  rw[hx]
  rw[Array.getElem?_toList]at h1
  have:(vs++Array.replicate (n-vs.size) undef).getD t undef=v:=by
   rw[Array.getD_eq_getD_getElem?,Array.getElem?_append_left om,h1]; rfl
  rw[this]
  exact h2
 ·have hx:args[t]?=none:=List.getElem?_eq_none om
  rw[hx]
  have:(vs++Array.replicate (n-vs.size) undef).getD t undef=undef:=by
   rw[Array.getD_eq_getD_getElem?,Array.getElem?_append_right om]
   by_cases h:t-vs.size<n-vs.size
   ·simp[h]
   ·simp[h]
  rw[this]
  exact undef_rel
theorem cFn_spec {cc : Nat → Code → Option ACode} {f : FuncId} {fn : AFn} (h : cFnG P cc f = some fn) : ∃ fc code, P.funcs[f]? = some fc ∧ fc.body = some code ∧ (fc.name == "runtime.NumGoroutine") = false ∧ fc.ntmps = fn.nt ∧ cc fn.nt code = some fn.body ∧ cRes P fc.results.toList = some fn.res := by
 unfold cFnG at h
 split at h
 ·rename_i fc hf
  split at h
  ·rename_i c hb
   cases hn : (fc.name == "runtime.NumGoroutine") with
   | true=>rw[hn]at h; simp at h
   | false=>
    rw[hn]at h
    simp only[cond_false]at h
    split at h
    ·rename_i b r h1 h2
     simp only[sJ]at h
     subst h
     exact⟨fc,c,hf,hb,hn,rfl,h1,h2⟩
    ·simp at h
  ·simp at h
 ·simp at h
structure NatOK(P:Program)(N:ANat):Prop where
 body:∀f,N.is f=true→hasBody P f=true
 run:CallOK P N.run
def noNat:ANat:=⟨fun _=>false,fun _ _ _=>none⟩
theorem noNat_ok:NatOK P noNat:=⟨fun f h=>by simp[noNat]at h,fun f args H v H' _ h=>by simp[noNat]at h⟩
end
end Go.Abs
namespace Go.Abs
section
variable {P:Program} {Prot:Gh} {w0:World} {ρ:Pl} {H H':AHeap} {w:World}
def CallD(P:Program)(call:FuncId→List AVal→AHeap→Option (AVal×AHeap)):Prop:=
 ∀G args H v H',call (3*BIG+G) args H=some (v,H')→hasBody P G=true∧∀Prot w0 ρ w (vs:Array Value),Rel Prot w0 ρ H w→VRels ρ args vs.toList →
  CallsD P G vs .returning w fun e u' w'=>u'=.returning∧∃ρ' y,ρ.le ρ'∧e=.returned y∧Rel Prot w0 ρ' H' w'
def Out(Prot:Gh)(w0:World)(ρ:Pl)(H:AHeap)(v:AVal):Ending→World→Prop:=fun e w'=>∃ρ' u,ρ.le ρ'∧e=.returned u∧Rel Prot w0 ρ' H w'∧VRel ρ' v u
theorem dfr_spec{n:Nat}{c:Code}{l:List AOper}{y:Opd}(h:cDfr P n c=some (l,y)):∃i ops os o x ats t p f,c=.region i ops false∧ops.toList=os++[o]∧o=⟨none,.defer ⟨.value x,#[],ats⟩,t,p,f,none⟩∧cOpd x=some y∧cOpers P n ops os=some l:=by
 unfold cDfr at h
 split at h
 ·rename_i i ops
  split at h
  ·rename_i x as ats t p f ho
   split at h
   ·rename_i y' l' h1 h2 h3
    simp only[sJ,pJ]at h
    obtain⟨rfl,rfl⟩:=h
    have ha:as=#[]:=Array.toList_inj.1 (by simpa using h1)
    subst ha
    have hne:ops.toList≠[]:=by intro e; rw[e]at ho; simp at ho
    rw[List.getLast?_eq_some_getLast hne,sJ]at ho
    exact⟨i,ops,ops.toList.dropLast,_,x,ats,t,p,f,rfl,by rw[← ho]; exact (List.dropLast_concat_getLast hne).symm,rfl,h2,h3⟩
   ·simp at h
  ·simp at h
 ·simp at h
theorem codeD_sim(hfol:P.follows .mixedOrders=true){tb:FuncId→Bool}(htb:∀f,Nat.blt f BIG=true→tb f=true→hasBody P f=true){call:FuncId→List AVal→AHeap→Option (AVal×AHeap)}(hc:CallOK P call)(hcD:CallD P call)
  {n k:Nat} {fc:Func} {res:List ARes} (hres:cRes P fc.results.toList=some res) {xs:List AVal}:∀(c:Code) (ac:ACode),cCodeD P n c=some ac→∀(ρ1:Pl) (T T':Tr AVal) (H H':AHeap) (e:AEx) (a:Act) (w:World),ρ.le ρ1 →
   Rel Prot w0 ρ1 H w→TmpsRel ρ1 n T a.tmps→a.defers=[]→aexec tb call k ac T H=some (e,T',H')→(∀i,e≠.exit i)→ares T' H' res=some xs→c.wp P (bodyPostD P fc (Out Prot w0 ρ H' (aresV xs))) a w:=by
 have fin:∀{ρ1:Pl} {T:Tr AVal} {H:AHeap} {a:Act} {w:World},ρ.le ρ1→Rel Prot w0 ρ1 H w→TmpsRel ρ1 n T a.tmps→ares T H res=some xs→Leaves P fc a.tmps (Out Prot w0 ρ H (aresV xs)) [] .returning w:=by
  intro ρ1 T H a w hle R ht hx
  obtain⟨v,r1,r2⟩:=results_sim (P:=P) R ht hres hx
  exact⟨v,r1,ρ1,v,hle,rfl,R,r2⟩
 intro c
 induction c with
 | seq x z ihx ihz=>
  intro ac hac ρ1 T T' H H' e a w hle R ht hd h hne hxs
  simp only[cCodeD]at hac
  split at hac
  ·rename_i l y hdf
   split at hac
   ·rename_i b hb
    simp only[sJ]at hac
    subst hac
    obtain⟨i,ops,os,o,xo,ats,ty,ps,af,rfl,hops,rfl,hy,hl⟩:=dfr_spec hdf
    simp only[aexec]at h
    cases h1:aregs tb call l T H with
    | none=>rw[h1]at h; simp at h
    | some q=>
    obtain⟨T1,H1⟩:=q
    rw[h1]at h
    simp only at h
    split at h
    ·rename_i g cs hg
     split at h
     ·simp at h
     ·rename_i e2 T2 H2 hne2 h2
      split at h
      ·rename_i v H3 h3
       simp only[sJ,pJ]at h
       obtain⟨rfl,rfl,rfl⟩:=h
       have hsz:ops.size=os.length+1:=by have:=congrArg List.length hops; simpa using this
       have hat:∀j,j<os.length→os[j]?=ops[0+j]?:=fun j hj=>by
        have:ops.toList[j]?=os[j]?:=by rw[hops,List.getElem?_append_left hj]
        rw[← this,Nat.zero_add]; simp
       have hlast:ops[os.length]?=some ⟨none,.defer ⟨.value xo,#[],ats⟩,ty,ps,af,none⟩:=by
        have:ops.toList[os.length]?=some ⟨none,.defer ⟨.value xo,#[],ats⟩,ty,ps,af,none⟩:=by rw[hops]; simp
        simpa using this
       refine wp_seq (wp_region ?_)
       rw[List.range_eq_range',hsz,← List.range'_append_1,List.range'_one,Nat.zero_add]
       refine regs_sim (Prot:=Prot) (w0:=w0) (ds:=[]) htb hc os 0 l hat hl ρ1 ρ1 T T1 H H1 a w (Pl.le_refl _) R ht hd h1 ?_
       rintro a1 w1 ⟨ρ2,q1,R2,t2,d2⟩
       have hx:=opd_ok t2 hy
       rw[hg]at hx
       simp only[VRel]at hx
       obtain⟨fv,cap,hfv,hv1,hv2⟩:=hx
       simp only[VRels]at hv1
       have hfv0:fv=#[]:=Array.toList_inj.1 (by simpa using hv1)
       subst hfv0
       have hrun:(execOp a1.eval ⟨none,.defer ⟨.value xo,#[],ats⟩,ty,ps,af,none⟩).run P w1=.ok (.defer { target:=.fn (.func g) cap,args:=#[] }) w1:=by
        simp[execOp,resolve,hfv,Deferred.ofValue]
       simp only[wpOps,hlast]
       rw[if_pos (by simp[Region.wanted])]
       left
       simp only[Oper.wp,hrun,Oper.upon]
       refine wp_mono (code_sim hfol (Prot:=Prot) (w0:=w0) (ds:=[{ target:=.fn (.func g) cap,args:=#[] }]) htb hc _ _ hb ρ2 _ _ _ _ e2 _ w1 R2 t2 (by simp[Act.put,d2]) h2) ?_
       rintro e' a' w' ⟨he,ρ3,q3,R3,t3,d3⟩
       have hL:Leaves P fc a'.tmps (Out Prot w0 ρ H3 (aresV xs)) a'.defers .returning w':=by
        rw[d3]
        obtain⟨b1,b2⟩:=hcD g cs H2 v H3 h3
        refine⟨by simp,.func g,cap,g,#[]++cap,rfl,callFunc_ok b1 _,?_⟩
        refine (b2 Prot w0 ρ3 w' (#[]++cap) R3 (by simpa using VRels.mono q3 _ _ hv2)).mono ?_
        rintro e' u' w' ⟨rfl,ρ4,y,q4,rfl,R4⟩
        exact fin (Pl.le_trans hle (Pl.le_trans q1 (Pl.le_trans q3 q4))) R4 (t3.mono q4) hxs
       cases e2 with
       | normal=>simp only at he; subst he; exact hL
       | exit i=>exact (hne2 _ rfl).elim
       | ret=>simp only at he; subst he; exact hL
      ·simp at h
     ·simp at h
    ·simp at h
   ·simp at hac
  ·split at hac
   ·rename_i b hb
    split at hac
    ·rename_i b' ha
     simp only[sJ]at hac
     subst hac
     simp only[aexec]at h
     split at h
     ·rename_i T1 H1 h1
      refine wp_seq (wp_mono (code_sim hfol (Prot:=Prot) (w0:=w0) (ds:=[]) htb hc _ _ ha ρ1 T T1 H H1 .normal a w R ht hd h1) ?_)
      rintro e1 a1 w1 ⟨he,ρ2,hl,R1,ht1,hd1⟩
      simp only at he
      subst he
      exact ihz _ hb ρ2 T1 T' H1 H' e a1 w1 (Pl.le_trans hle hl) R1 ht1 hd1 h hne hxs
     ·rename_i e1 T1 H1 hn1 h1
      simp only[sJ,pJ]at h
      obtain⟨rfl,rfl,rfl⟩:=h
      refine wp_seq (wp_mono (code_sim hfol (Prot:=Prot) (w0:=w0) (ds:=[]) htb hc _ _ ha ρ1 T T1 H H1 e1 a w R ht hd h1) ?_)
      rintro e2 a1 w1 ⟨he,ρ2,hl,R1,ht1,hd1⟩
      cases e1 with
      | normal=>exact (hn1 rfl).elim
      | exit id=>exact (hne _ rfl).elim
      | ret=>
       simp only at he
       subst he
       show Leaves P fc a1.tmps _ a1.defers .returning w1
       rw[hd1]
       exact fin (Pl.le_trans hle hl) R1 ht1 hxs
     ·simp at h
    ·simp at hac
   ·simp at hac
 | _=>intro ac hac; simp[cCodeD]at hac
theorem acall_inv{N:ANat}{tab:Tr AFn}{n:Nat}{f:FuncId}{args:List AVal}{v:AVal}(hi:N.is f=false)(h:acall N tab (n+1) f args H=some (v,H')) :
  ∃fn e T xs,tab.get f=some fn∧args.length≤fn.nt∧aexec (tbA N tab) (acall N tab n) n fn.body (putArgs args 0 .e) H=some (e,T,H')∧(∀i,e≠.exit i)∧ares T H' fn.res=some xs∧v=aresV xs:=by
 simp only[acall,hi,cond_false]at h
 split at h
 ·rename_i fn hf
  cases hb:Nat.ble args.length fn.nt with
  | false=>rw[hb]at h; simp at h
  | true=>
   rw[hb]at h
   simp only[cond_true]at h
   split at h
   ·simp at h
   ·rename_i e T H1 hne hx
    split at h
    ·rename_i xs hxs
     simp only[sJ,pJ]at h
     obtain⟨rfl,rfl⟩:=h
     exact⟨fn,e,T,xs,hf,Nat.le_of_ble_eq_true hb,hx,fun i q=>hne i q,hxs,rfl⟩
    ·simp at h
   ·simp at h
 ·simp at h
theorem blt_lt{a b:Nat}(h:Nat.blt a b=true):a<b:=Nat.le_of_ble_eq_true h
theorem blt_dec(a b:Nat):Nat.blt a b=decide (a<b):=by
 cases h:Nat.blt a b with
 | true=>exact (decide_eq_true (blt_lt h)).symm
 | false=>exact (decide_eq_false fun q=>by rw[show Nat.blt a b=true from Nat.ble_eq_true_of_le q]at h; simp at h).symm
theorem eFn_0{f:Nat}(hf:Nat.blt f BIG=true):eFn P f=cFnG P (cBody P) f:=by unfold eFn; rw[hf]; rfl
theorem eFn_3{f:Nat}{fn:AFn}(h:eFn P (3*BIG+f)=some fn):Nat.blt f BIG=true∧cFnG P (cCode P) f=some fn:=by
 unfold eFn at h
 rw[blt_dec,blt_dec,blt_dec,decide_eq_false om,decide_eq_false om]at h
 simp only[cond_false,Nat.add_sub_cancel_left]at h
 by_cases hf:f<BIG
 ·rw[decide_eq_true om]at h
  exact⟨by rw[blt_dec]; exact decide_eq_true hf,h⟩
 ·rw[decide_eq_false om]at h
  simp at h
theorem body_of{cc:Nat→Code→Option ACode}{f:Nat}(hf:Nat.blt f BIG=true){fn:AFn}(h:cFnG P cc f=some fn):hasBody P f=true:=by
 obtain⟨fc,c,h1,h2,h3,_⟩:=cFn_spec h
 simp[hasBody,hf,h1,h2,h3]
theorem acall_all(hfol:P.follows .mixedOrders=true){N:ANat}(hN:NatOK P N){tab:Tr AFn}(hT:TabOK P tab):∀n,CallOK P (acall N tab n)∧CallD P (acall N tab n):=by
 have htb:∀f,Nat.blt f BIG=true→tbA N tab f=true→hasBody P f=true:=by
  intro f hf h
  unfold tbA at h
  cases hi:N.is f with
  | true=>exact hN.body f hi
  | false=>
   rw[hi]at h
   simp only[cond_false]at h
   split at h
   ·rename_i fn hg
    have:=hT _ _ hg
    rw[eFn_0 hf]at this
    exact body_of hf this
   ·simp at h
 intro n
 induction n with
 | zero=>exact⟨fun f args H v H' _ h=>by simp[acall]at h,fun f args H v H' h=>by simp[acall]at h⟩
 | succ n ih=>
  obtain⟨i1,i2⟩:=ih
  refine⟨fun f args H v H' hf h Prot w0 ρ w vs R hv=>?_,fun G args H v H' h=>?_⟩
  ·cases hi:N.is f with
   | true=>simp only[acall,hi,cond_true]at h; exact hN.run f args H v H' hf h Prot w0 ρ w vs R hv
   | false=>
    obtain⟨fn,e,T,xs,hg,hl,hx,hne,hxs,rfl⟩:=acall_inv hi h
    have he:=hT _ _ hg
    rw[eFn_0 hf]at he
    obtain⟨fc,c,h1,h2,h3,h4,h5,h6⟩:=cFn_spec he
    have hst:=start_sim (ρ:=ρ) hv hl
    unfold cBody at h5
    split at h5
    ·rename_i b hb
     simp only[sJ]at h5
     subst h5
     refine (calls_of_wp_defers h1 h2 (R:=Out Prot w0 ρ H' (aresV xs)) ?_).mono ?_
     ·rw[h4]
      exact codeD_sim hfol htb i1 i2 h6 c _ hb ρ _ T H H' e _ w (Pl.le_refl _) R hst rfl hx hne hxs
     ·rintro e' w' ⟨ρ',u,r1,r2,r3,r4⟩
      exact⟨ρ',u,r1,r2,r3,r4⟩
    ·refine calls_of_wp h1 h2 ?_
     rw[h4]
     refine wp_mono (code_sim hfol (Prot:=Prot) (w0:=w0) (ds:=[]) htb i1 _ _ h5 ρ _ T H H' e _ w R hst rfl hx) ?_
     rintro e' a' w' ⟨he,ρ',hl,R',ht',hd'⟩
     obtain⟨u,r1,r2⟩:=results_sim (P:=P) R' ht' h6 hxs
     cases e with
     | normal=>simp only at he; subst he; exact⟨hd',u,r1,ρ',u,hl,rfl,R',r2⟩
     | exit id=>exact (hne _ rfl).elim
     | ret=>simp only at he; subst he; exact⟨hd',u,r1,ρ',u,hl,rfl,R',r2⟩
  ·have hi:N.is (3*BIG+G)=false:=by
    cases hi:N.is (3*BIG+G) with
    | false=>rfl
    | true=>
     have:=hN.body _ hi
     simp only[hasBody,Bool.and_eq_true]at this
     have:=blt_lt this.1
     omega
   obtain⟨fn,e,T,xs,hg,hl,hx,hne,hxs,rfl⟩:=acall_inv hi h
   obtain⟨hf,he⟩:=eFn_3 (hT _ _ hg)
   refine⟨body_of hf he,fun Prot w0 ρ w vs R hv=>?_⟩
   obtain⟨fc,c,h1,h2,h3,h4,h5,h6⟩:=cFn_spec he
   have hst:=start_sim (ρ:=ρ) hv hl
   refine (callsD_of_wp (u:=.returning) (R:=Out Prot w0 ρ H' (aresV xs)) h1 h2 ?_).mono ?_
   ·rw[h4]
    refine wp_mono (code_sim hfol (Prot:=Prot) (w0:=w0) (ds:=[]) htb i1 _ _ h5 ρ _ T H H' e _ w R hst rfl hx) ?_
    rintro e' a' w' ⟨he,ρ',hl,R',ht',hd'⟩
    obtain⟨u,r1,r2⟩:=results_sim (P:=P) R' ht' h6 hxs
    cases e with
    | normal=>simp only at he; subst he; exact⟨hd',u,r1,ρ',u,hl,rfl,R',r2⟩
    | exit id=>exact (hne _ rfl).elim
    | ret=>simp only at he; subst he; exact⟨hd',u,r1,ρ',u,hl,rfl,R',r2⟩
   ·rintro e' u' w' ⟨rfl,ρ',y,r1,rfl,r2,_⟩
    exact⟨rfl,ρ',y,r1,rfl,r2⟩
theorem acall_ok(hfol:P.follows .mixedOrders=true){N:ANat}(hN:NatOK P N){tab:Tr AFn}(hT:TabOK P tab)(n:Nat):CallOK P (acall N tab n):=(acall_all hfol hN hT n).1
end
end Go.Abs
namespace Go.Abs
section
variable {P:Program}
def H0:AHeap:=⟨0,.e⟩
theorem Rel.below{w0:World}{ρ:Pl}{H:AHeap}{w:World}(R:Rel ⟨fun c=>c<w0.heap.size,fun _=>False⟩ w0 ρ H w):RowKit.Below w0.heap.size w0 w:=
 ⟨R.os,R.tape,R.output,R.size,fun k hk=>(R.prot k hk).2⟩
end
end Go.Abs
namespace Go.Abs.S
open Go.Abs
abbrev Env:=Nat→AVal
def en(T:Tr AVal):Env:=fun i=>ev T (.t i)
def up(T:Env)(i:Nat)(v:AVal):Env:=fun j=>bif Nat.beq j i then v else T j
def upO(T:Env):Option Nat→AVal→Env
 | some d,v=>up T d v
 | none,_=>T
theorem en_set(T:Tr AVal)(i:Nat)(v:AVal):en (T.set i v)=up (en T) i v:=by
 funext j
 simp only[en,up,ev,Tr.get_set,beq_dec]
 by_cases h:j=i
 ·rw[if_pos h,decide_eq_true h]; rfl
 ·rw[if_neg h,decide_eq_false h]; rfl
theorem en_put(T:Tr AVal)(d:Option Nat)(v:AVal):en (aput T d v)=upO (en T) d v:=by
 cases d <;> simp only[aput,upO,en_set]
def sX(T:Env):Opd→AVal
 | .t i=>T i
 | .c v=>v
 | .f id=>.func (.func id) [] []
def sXs(T:Env):List Opd→List AVal
 | []=>[]
 | x::r=>sX T x::sXs T r
def sXO(T:Env):Option Opd→Option AVal
 | none=>none
 | some x=>some (sX T x)
def sXP(T:Env):List (Nat×Nat×Opd)→List (Nat×Nat×AVal)
 | []=>[]
 | (o,n,x)::r=>(o,n,sX T x)::sXP T r
theorem sX_en(T:Tr AVal)(x:Opd):sX (en T) x=ev T x:=by cases x <;> rfl
theorem sXs_en(T:Tr AVal):∀l:List Opd,sXs (en T) l=evs T l
 | []=>rfl
 | x::r=>by simp only[sXs,evs,sX_en,sXs_en T r]
theorem sXO_en(T:Tr AVal)(x:Option Opd):sXO (en T) x=evO T x:=by cases x <;> simp only[sXO,evO,sX_en]
theorem sXP_en(T:Tr AVal):∀l:List (Nat×Nat×Opd),sXP (en T) l=evP T l
 | []=>rfl
 | (o,n,x)::r=>by simp only[sXP,evP,sX_en,sXP_en T r]
abbrev sGv(b:Bool):AVal→Bool:=gVb b
def sG(T:Env):Option (Nat×Bool)→Bool
 | none=>true
 | some (t,b)=>sGv b (T t)
theorem sG_en(T:Tr AVal)(g:Option (Nat×Bool)):sG (en T) g=gOK T g:=by
 cases g with
 | none=>rfl
 | some p=>rfl
theorem sG_lt(T:Env)(t:Nat)(b:Bool):sG T (some (t,b))=sGv b (T t):=rfl
def OptP{α:Type}(o:Option α)(K:α→Prop):Prop:=∃v,o=some v∧K v
theorem OptP_some{α:Type}(x:α)(K:α→Prop):OptP (some x) K=K x:=by simp[OptP]
theorem OptP.mono{α:Type}{o:Option α}{K K':α→Prop}(h:OptP o K)(hk:∀v,K v→K' v):OptP o K':=by
 obtain⟨v,h1,h2⟩:=h; exact⟨v,h1,hk v h2⟩
abbrev CS:=FuncId→List AVal→AHeap→(AVal→AHeap→Prop)→Prop
section
variable (C:CS)
def wOp(T:Env)(H:AHeap)(K:AVal→AHeap→Prop):AOp→Prop
 | .mv x=>K (sX T x) H
 | .pick c a b=>∃b',sX T c=.bool b'∧K (bif b' then sX T a else sX T b) H
 | .new z=>K (oNew H z).1 (oNew H z).2
 | .box x=>K (oNew H (sX T x).cells).1 (oNew H (sX T x).cells).2
 | .build z ps=>OptP (aBuild z (sXP T ps)) fun v=>K v H
 | .buildSl n z ps=>OptP (aBuildSl n z H (sXP T ps)) fun p=>K p.1 p.2
 | .load a n x=>OptP (oLoad a n H (sX T x)) fun v=>K v H
 | .store n a x=>OptP (oStore n H (sX T a) (sX T x)) fun H'=>K undefA H'
 | .nilChk x=>OptP (aNilChk (sX T x)) fun v=>K v H
 | .bin op x y=>OptP (aBin op (sX T x) (sX T y)) fun v=>K v H
 | .un op x=>OptP (aUn op (sX T x)) fun v=>K v H
 | .conv k x=>OptP (aConv k (sX T x)) fun v=>K v H
 | .convSB x=>OptP (aSB H (sX T x)) fun p=>K p.1 p.2
 | .convBS x=>OptP (aBS H (sX T x)) fun v=>K v H
 | .mkFunc fn a b=>K (.func fn (sXs T a) (sXs T b)) H
 | .mkIface t x=>K (.iface t (sX T x)) H
 | .mkSlice b z l c=>OptP (aMake b z H (sX T l) (sX T c)) fun p=>K p.1 p.2
 | .sl n x lo hi mx=>OptP (aSl n (sX T x) (sXO T lo) (sXO T hi) (sXO T mx)) fun v=>K v H
 | .slStr x lo hi=>OptP (aSlStr (sX T x) (sXO T lo) (sXO T hi)) fun v=>K v H
 | .fieldA o x=>OptP (aField o (sX T x)) fun v=>K v H
 | .field a n o x=>OptP (aFieldV a n o (sX T x)) fun v=>K v H
 | .idxA n x i=>OptP (aIdxA n (sX T x) (sX T i)) fun v=>K v H
 | .idxArr m n x i=>OptP (aIdxArr m n (sX T x) (sX T i)) fun v=>K v H
 | .idx m n a x i=>OptP (aIdx m n a (sX T x) (sX T i)) fun v=>K v H
 | .idxS x i=>OptP (aIdxS (sX T x) (sX T i)) fun v=>K v H
 | .extract i x=>OptP (aExtract i (sX T x)) fun v=>K v H
 | .append n b s x=>OptP (aAppend n b H (sX T s) (sX T x)) fun p=>K p.1 p.2
 | .len s x=>OptP (aLenK s (sX T x)) fun v=>K v H
 | .call f args=>C f (sXs T args) H K
 | .callv f args=>∃g a b,sX T f=.func (.func g) a b∧Nat.blt g BIG=true∧C g (a++sXs T args++b) H K
 | .pf f xs=>OptP (aPf f (sXs T xs)) fun v=>K v H
 | .hf f xs=>OptP (aHf f H (sXs T xs)) fun p=>K p.1 p.2
 | .bad=>False
 | .claim b z s=>OptP (aClaim H b z s) fun v=>K v H
 | .slA m n x lo hi mx=>OptP (aSlArr m n (sX T x) (sXO T lo) (sXO T hi) (sXO T mx)) fun v=>K v H
def wRegs:List AOper→Env→AHeap→(Env→AHeap→Prop)→Prop
 | [],T,H,K=>K T H
 | o::r,T,H,K=>bif sG T o.guard then wOp C T H (fun v H'=>wRegs r (upO T o.dst v) H' K) o.op else wRegs r (upO T o.dst undefA) H K
def wTr:List AOper→Env→AHeap→(List (AVal×AHeap)→Env→AHeap→Prop)→Prop
 | [],T,H,K=>K [] T H
 | o::r,T,H,K=>bif sG T o.guard then wOp C T H (fun v H'=>wTr r (upO T o.dst v) H' fun ss=>K ((v,H')::ss)) o.op else wTr r (upO T o.dst undefA) H fun ss=>K ((undefA,H)::ss)
end
def wLd(T:Env)(H:AHeap):AOp→Option AVal
 | .load a n x=>oLoad a n H (sX T x)
 | .claim b z s=>aClaim H b z s
 | _=>none
def wCk(hs:List AHeap):List AOper→List (List Nat)→List (AVal×AHeap)→Env→Prop
 | o::os,ps::pss,(v,_)::ss,T=>(∀p∈ps,∃Hp,hs[p]?=some Hp∧(sG T o.guard=true→∃u,wLd T Hp o.op=some u∧aeq u v=true))∧wCk hs os pss ss (upO T o.dst v)
 | _,_,_,_=>True
def wDraw(C:CS)(l:List AOper)(chk:List (List Nat))(T:Env)(H:AHeap)(K:Env→AHeap→Prop):Prop:=wTr C l T H fun ss T' H'=>wCk (H::ss.map (·.2)) l chk ss T∧K T' H'
abbrev Post:=AEx→Env→AHeap→Prop
def inBlk(id:Nat)(Q:Post):Post:=fun e T H=>match e with
 | .exit j=>bif Nat.beq j id then Q .normal T H else Q (.exit j) T H
 | e=>Q e T H
def inSeq(Q:Post)(K:Env→AHeap→Prop):Post:=fun e T H=>match e with
 | .normal=>K T H
 | e=>Q e T H
def inDfr(K:Env→AHeap→Prop):Post:=fun e T H=>match e with
 | .exit _=>False
 | _=>K T H
def wp(C:CS):ACode→Post→Env→AHeap→Prop
 | .skip,Q,T,H=>Q .normal T H
 | .reg ops,Q,T,H=>wRegs C ops T H (Q .normal)
 | .draw ops chk,Q,T,H=>wDraw C (claims H.next ops) chk T (reserves H ops) (Q .normal)
 | .seq a b,Q,T,H=>wp C a (inSeq Q (wp C b Q)) T H
 | .cond c a b,Q,T,H=>∃v,sX T c=.bool v∧bif v then wp C a Q T H else wp C b Q T H
 | .block id c,Q,T,H=>wp C c (inBlk id Q) T H
 | .loop c,Q,T,H=>∃(I:Nat→Env→AHeap→Prop),(∃m,I m T H)∧∀m T H,I m T H→wp C c (inSeq Q fun T' H'=>∃m',m'<m∧I m' T' H') T H
 | .exit id,Q,T,H=>Q (.exit id) T H
 | .ret,Q,T,H=>Q .ret T H
 | .dfr y b,Q,T,H=>∃g l,sX T y=.func (.func g) [] l∧wp C b (inDfr fun T' H'=>C (3*BIG+g) l H' fun _ H''=>Q .ret T' H'') T H
section
variable {tb:FuncId→Bool}
def CLe(c d:FuncId→List AVal→AHeap→Option (AVal×AHeap)):Prop:=∀f a H r,c f a H=some r→d f a H=some r
theorem CLe.refl(c):CLe c c:=fun _ _ _ _ h=>h
theorem astep_mono{c d}(h:CLe c d){o:AOper}{T:Tr AVal}{H:AHeap}{r}(e:astep tb c o T H=some r):astep tb d o T H=some r:=by
 unfold astep at e ⊢
 cases hg:gOK T o.guard with
 | false=>rw[hg]at e; exact e
 | true=>
  rw[hg]at e
  simp only[cond_true]at e ⊢
  split at e
  ·exact e
  ·exact h _ _ _ _ e
  ·simp at e
theorem aregs_mono{c d}(h:CLe c d):∀(l:List AOper) {T:Tr AVal} {H:AHeap} {r},aregs tb c l T H=some r→aregs tb d l T H=some r
 | [],_,_,_,e=>e
 | o::l,T,H,r,e=>by
  have hs:∀c,aregs tb c (o::l) T H=match astep tb c o T H with | some (v,H')=>aregs tb c l (aput T o.dst v) H' | none=>none:=by
   intro c
   simp only[aregs,astep]
   cases gOK T o.guard with
   | false=>rfl
   | true=>
    simp only[cond_true]
    cases aop tb T H o.op with
    | none=>rfl
    | some p=>obtain⟨nx,H'⟩:=p; cases nx <;> rfl
  rw[hs]at e ⊢
  split at e
  ·rename_i v H' hv
   rw[astep_mono h hv]
   exact aregs_mono h l e
  ·simp at e
theorem atrace_mono{c d}(h:CLe c d):∀(l:List AOper) {T:Tr AVal} {H:AHeap} {r},atrace tb c l T H=some r→atrace tb d l T H=some r
 | [],_,_,_,e=>e
 | o::l,T,H,r,e=>by
  simp only[atrace]at e ⊢
  split at e
  ·rename_i v H' hv
   rw[astep_mono h hv]
   split at e
   ·rename_i s hs
    simp only[atrace_mono h l hs]
    exact e
   ·simp at e
  ·simp at e
theorem aloop_mono{f g:Tr AVal→AHeap→Option (AEx×Tr AVal×AHeap)}(h:∀T H r,f T H=some r→g T H=some r):∀(n m:Nat) (T:Tr AVal) (H:AHeap) (r),n≤m→aloop f n T H=some r→aloop g m T H=some r
 | 0,_,_,_,_,_,e=>by simp[aloop]at e
 | n+1,0,_,_,_,hl,_=>om
 | n+1,m+1,T,H,r,hl,e=>by
  simp only[aloop]at e ⊢
  split at e
  ·rename_i T' H' hv
   rw[h _ _ _ hv]
   exact aloop_mono h n m T' H' r om e
  ·rename_i e' T' H' hne hv
   rw[h _ _ _ hv]
   cases e' with
   | normal=>exact absurd rfl hne
   | exit i=>exact e
   | ret=>exact e
  ·simp at e
theorem aexec_mono{c d}(h:CLe c d){k k':Nat}(hk:k≤k'):∀(x:ACode) (T:Tr AVal) (H:AHeap) (r),aexec tb c k x T H=some r→aexec tb d k' x T H=some r:=by
 intro x
 induction x with
 | skip=>intro T H r e; exact e
 | reg l=>
  intro T H r e
  simp only[aexec]at e ⊢
  split at e
  ·rename_i T' H' hv; rw[aregs_mono h l hv]; exact e
  ·simp at e
 | draw l chk=>
  intro T H r e
  simp only[aexec,adraw]at e ⊢
  split at e
  ·rename_i ss hv; rw[atrace_mono h _ hv]; exact e
  ·simp at e
 | seq a b iha ihb=>
  intro T H r e
  simp only[aexec]at e ⊢
  split at e
  ·rename_i T' H' hv; rw[iha _ _ _ hv]; exact ihb _ _ _ e
  ·rename_i e' T' H' hne hv
   rw[iha _ _ _ hv]
   cases e' with
   | normal=>exact absurd rfl hne
   | exit i=>exact e
   | ret=>exact e
  ·simp at e
 | cond c a b iha ihb=>
  intro T H r e
  simp only[aexec]at e ⊢
  split at e
  ·exact iha _ _ _ e
  ·exact ihb _ _ _ e
  ·simp at e
 | block id c ih=>
  intro T H r e
  simp only[aexec]at e ⊢
  split at e
  ·rename_i j T' H' hv; rw[ih _ _ _ hv]; exact e
  ·rename_i e' T' H' hne hv
   rw[ih _ _ _ hv]
   cases e' with
   | exit i=>exact absurd rfl (hne i)
   | normal=>exact e
   | ret=>exact e
  ·simp at e
 | loop c ih=>
  intro T H r e
  simp only[aexec]at e ⊢
  exact aloop_mono (fun T H r hr=>ih T H r hr) k k' T H r hk e
 | exit id=>intro T H r e; exact e
 | ret=>intro T H r e; exact e
 | dfr y b ih=>
  intro T H r e
  simp only[aexec]at e ⊢
  split at e
  ·split at e
   ·simp at e
   ·rename_i e' T' H' hne hv
    rw[ih _ _ _ hv]
    split at e
    ·rename_i v H'' hc
     cases e' with
     | exit i=>exact (hne i rfl).elim
     | normal=>simp only[h _ _ _ _ hc]; exact e
     | ret=>simp only[h _ _ _ _ hc]; exact e
    ·simp at e
   ·simp at e
  ·simp at e
theorem acall_mono1{N:ANat}{tab:Tr AFn}:∀(n:Nat),CLe (acall N tab n) (acall N tab (n+1))
 | 0=>fun f a H r e=>by simp[acall]at e
 | n+1=>fun f a H r e=>by
  have ih:=acall_mono1 (N:=N) (tab:=tab) n
  rw[acall]at e ⊢
  cases hn:N.is f with
  | true=>rw[hn]at e; exact e
  | false=>
   rw[hn]at e
   simp only[cond_false]at e ⊢
   split at e
   ·rename_i fn hf
    cases hb:Nat.ble a.length fn.nt with
    | false=>rw[hb]at e; simp at e
    | true=>
     rw[hb]at e
     simp only[cond_true]at e ⊢
     split at e
     ·simp at e
     ·rename_i e' T' H' hne hv
      rw[aexec_mono ih (Nat.le_succ n) _ _ _ _ hv]
      cases e' with
      | exit i=>exact (hne i rfl).elim
      | normal=>exact e
      | ret=>exact e
     ·simp at e
   ·simp at e
theorem acall_mono{N:ANat}{tab:Tr AFn}{n m:Nat}(h:n≤m):CLe (acall N tab n) (acall N tab m):=by
 induction m with
 | zero => obtain rfl : n = 0 := by omega
           exact CLe.refl _
 | succ m ih=>
  by_cases e:n=m+1
  ·subst e; exact CLe.refl _
  ·exact fun f a H r hr=>acall_mono1 m _ _ _ _ (ih om _ _ _ _ hr)
end
end Go.Abs.S
namespace Go.Abs.S
open Go.Abs
def tabN(P:Program):Nat→Tr AFn
 | 0=>.e
 | n+1=>match eFn P n with
  | some c=>(tabN P n).set n c
  | none=>tabN P n
def tabP(P:Program):Tr AFn:=tabN P (4*BIG)
theorem tabN_get(P:Program):∀(n f:Nat),(tabN P n).get f=if f<n then eFn P f else none
 | 0,f=>by rw[if_neg om]; cases f <;> rfl
 | n+1,f=>by
  simp only[tabN]
  by_cases e:f=n
  ·subst e
   rw[if_pos om]
   cases hc:eFn P f with
   | none=>rw[tabN_get P f f,if_neg om]
   | some c=>rw[Tr.get_set,if_pos rfl]
  ·have hx:(if f<n+1 then eFn P f else none)=if f<n then eFn P f else none:=by
    by_cases h:f<n
    ·rw[if_pos h,if_pos om]
    ·rw[if_neg h,if_neg om]
   rw[hx,← tabN_get P n f]
   cases eFn P n with
   | none=>rfl
   | some c=>rw[Tr.get_set,if_neg e]
theorem tabP_ok(P:Program):TabOK P (tabP P):=by
 intro f fn h
 rw[tabP,tabN_get]at h
 split at h
 ·exact h
 ·simp at h
theorem tabP_get{P:Program}{f:Nat}{c:AFn}(h:eFn P f=some c):(tabP P).get f=some c:=by
 have hf:f<4*BIG:=by
  unfold eFn at h
  rw[blt_dec,blt_dec,blt_dec]at h
  by_cases h4:f<4*BIG
  ·exact h4
  ·rw[decide_eq_false om,decide_eq_false om,decide_eq_false h4]at h
   simp at h
 rw[tabP,tabN_get,if_pos hf,h]
def ACalls(P:Program)(N:ANat)(f:FuncId)(args:List AVal)(H:AHeap)(K:AVal→AHeap→Prop):Prop:=
 ∃n v H',acall N (tabP P) n f args H=some (v,H')∧K v H'
theorem ACalls.mono{P:Program}{N:ANat}{f:FuncId}{args:List AVal}{H:AHeap}{K K':AVal→AHeap→Prop}(h:ACalls P N f args H K)(hk:∀v H',K v H'→K' v H'):ACalls P N f args H K':=by
 obtain⟨n,v,H',h1,h2⟩:=h; exact⟨n,v,H',h1,hk _ _ h2⟩
section
variable {P:Program} {N:ANat}
theorem acall_tb{n:Nat}{f:FuncId}{args:List AVal}{H:AHeap}{r}(h:acall N (tabP P) n f args H=some r):tbA N (tabP P) f=true:=by
 cases n with
 | zero=>simp[acall]at h
 | succ n=>
  rw[acall]at h
  unfold tbA
  cases hn:N.is f with
  | true=>rfl
  | false=>
   rw[hn]at h
   simp only[cond_false]at h ⊢
   cases ht:(tabP P).get f with
   | none=>rw[ht]at h; simp at h
   | some c=>rfl
theorem wOp_sound{T:Tr AVal}{H:AHeap}{o:AOp}{K:AVal→AHeap→Prop}(h:wOp (ACalls P N) (en T) H K o) :
  (∃v H',aop (tbA N (tabP P)) T H o=some (.val v,H')∧K v H')∨(∃f args H' n v H'',aop (tbA N (tabP P)) T H o=some (.enter f args,H')∧acall N (tabP P) n f args H'=some (v,H'')∧K v H''):=by
 cases o
 case call f args=>
  right
  simp only[wOp,sXs_en]at h
  obtain⟨n,v,H',h1,h2⟩:=h
  exact⟨f,_,H,n,v,H',by simp only[aop,acall_tb h1,cond_true],h1,h2⟩
 case callv f args=>
  right
  simp only[wOp,sX_en,sXs_en]at h
  obtain⟨g,a,b,hf,hgb,n,v,H',h1,h2⟩:=h
  exact⟨g,_,H,n,v,H',by simp only[aop,hf,hgb,acall_tb h1,Bool.and_true,cond_true],h1,h2⟩
 case pick c a b=>
  simp only[wOp,sX_en]at h
  obtain⟨b',h1,h2⟩:=h
  exact .inl ⟨_,_,by simp only[aop,h1],h2⟩
 case bad=>simp[wOp]at h
 all_goals
  left
  simp only[wOp,sX_en,sXs_en,sXO_en,sXP_en,OptP]at h
  first
   | exact⟨_,_,rfl,h⟩
   | (obtain ⟨v, h1, h2⟩ := h
      refine ⟨_, _, ?_, h2⟩
      simp only [aop, h1]
      try rfl)
theorem wStep_sound{T:Tr AVal}{H:AHeap}{o:AOper}{K:AVal→AHeap→Prop}(h:wOp (ACalls P N) (en T) H K o.op)(hg:gOK T o.guard=true) :
  ∃n v H',astep (tbA N (tabP P)) (acall N (tabP P) n) o T H=some (v,H')∧K v H':=by
 rcases wOp_sound h with⟨v,H',h1,h2⟩ | ⟨f,args,H',n,v,H'',h1,h2,h3⟩
 ·exact⟨0,v,H',by simp only[astep,hg,cond_true,h1],h2⟩
 ·exact⟨n,v,H'',by simp only[astep,hg,cond_true,h1,h2],h3⟩
theorem aregs_cons(tb:FuncId→Bool)(c)(o:AOper)(l:List AOper)(T:Tr AVal)(H:AHeap):aregs tb c (o::l) T H=match astep tb c o T H with | some (v,H')=>aregs tb c l (aput T o.dst v) H' | none=>none:=by
 simp only[aregs,astep]
 cases gOK T o.guard with
 | false=>rfl
 | true=>
  simp only[cond_true]
  cases aop tb T H o.op with
  | none=>rfl
  | some p=>obtain⟨nx,H'⟩:=p; cases nx <;> rfl
theorem wRegs_sound:∀(l:List AOper) {T:Tr AVal} {H:AHeap} {K:Env→AHeap→Prop},wRegs (ACalls P N) l (en T) H K →
  ∃n T' H',aregs (tbA N (tabP P)) (acall N (tabP P) n) l T H=some (T',H')∧K (en T') H'
 | [],T,H,K,h=>⟨0,T,H,rfl,h⟩
 | o::l,T,H,K,h=>by
  simp only[wRegs,sG_en]at h
  have:∃n v H',astep (tbA N (tabP P)) (acall N (tabP P) n) o T H=some (v,H')∧wRegs (ACalls P N) l (upO (en T) o.dst v) H' K:=by
   cases hg:gOK T o.guard with
   | true=>rw[hg]at h; exact wStep_sound h hg
   | false=>rw[hg]at h; exact⟨0,undefA,H,by simp only[astep,hg,cond_false],h⟩
  obtain⟨n,v,H',h1,h2⟩:=this
  rw[← en_put]at h2
  obtain⟨m,T2,H2,h3,h4⟩:=wRegs_sound l h2
  refine⟨max n m,T2,H2,?_,h4⟩
  rw[aregs_cons,astep_mono (acall_mono (Nat.le_max_left n m)) h1]
  exact aregs_mono (acall_mono (Nat.le_max_right n m)) l h3
theorem wTr_sound:∀(l:List AOper) {T:Tr AVal} {H:AHeap} {K:List (AVal×AHeap)→Env→AHeap→Prop},wTr (ACalls P N) l (en T) H K→∀j,
  ∃n ss,atrace (tbA N (tabP P)) (acall N (tabP P) n) l T H=some ss∧K ss (en (tsel (fun _=>true) j l ss T)) (hAt H ss l.length)
 | [],T,H,K,h,j=>⟨0,[],rfl,h⟩
 | o::l,T,H,K,h,j=>by
  simp only[wTr,sG_en]at h
  have:∃n v H',astep (tbA N (tabP P)) (acall N (tabP P) n) o T H=some (v,H')∧wTr (ACalls P N) l (upO (en T) o.dst v) H' fun ss=>K ((v,H')::ss):=by
   cases hg:gOK T o.guard with
   | true=>rw[hg]at h; exact wStep_sound h hg
   | false=>rw[hg]at h; exact⟨0,undefA,H,by simp only[astep,hg,cond_false],h⟩
  obtain⟨n,v,H',h1,h2⟩:=this
  rw[← en_put]at h2
  obtain⟨m,ss,h3,h4⟩:=wTr_sound l h2 (j+1)
  refine⟨max n m,(v,H')::ss,?_,?_⟩
  ·simp only[atrace,astep_mono (acall_mono (Nat.le_max_left n m)) h1,atrace_mono (acall_mono (Nat.le_max_right n m)) l h3]
  ·have hl:=(trace_at l _ H' ss 0 h3).1
   have e:hAt H' ss l.length=hAt H ((v,H')::ss) (o::l).length:=by
    simp only[List.length_cons]
    cases hr:l.length with
    | zero=>rfl
    | succ q=>
     simp only[hAt,List.getElem?_cons_succ]
     rw[List.getElem?_eq_getElem om]
   rw[← e]
   exact h4
theorem wCk_sound{tb:FuncId→Bool}{hs:List AHeap}:∀(l:List AOper) (chk:List (List Nat)) (ss:List (AVal×AHeap)) (T:Tr AVal),wCk hs l chk ss (en T)→chkRun tb hs l chk ss T=true
 | [],_,_,_,_=>rfl
 | o::l,[],_,_,_=>rfl
 | o::l,p::ps,[],_,_=>rfl
 | o::l,p::ps,(v,Hv)::ss,T,h=>by
  simp only[wCk]at h
  obtain⟨h1,h2⟩:=h
  simp only[chkRun,Bool.and_eq_true]
  refine⟨List.all_eq_true.2 fun q hq=>?_,wCk_sound l ps ss _ (by rw[en_put]; exact h2)⟩
  obtain⟨Hp,e1,e2⟩:=h1 q hq
  rw[e1]
  simp only
  cases hg:gOK T o.guard with
  | false=>rfl
  | true=>
   obtain⟨u,u1,u2⟩:=e2 (by rw[sG_en]; exact hg)
   simp only[cond_true]
   cases ho:o.op <;> rw[ho]at u1 <;> simp only[wLd,reduceCtorEq,sX_en]at u1
   ·simp only[aop,u1,vv]; exact u2
   ·simp only[aop,u1,vv]; exact u2
theorem inSeq_sound{Q:Post}{K:Env→AHeap→Prop}{e:AEx}{T:Env}{H:AHeap}(h:inSeq Q K e T H):(e=.normal∧K T H)∨(e≠.normal∧Q e T H):=by
 cases e with
 | normal=>exact .inl ⟨rfl,h⟩
 | exit i=>exact .inr ⟨by simp,h⟩
 | ret=>exact .inr ⟨by simp,h⟩
theorem wp_sound:∀(c:ACode) (Q:Post) (T:Tr AVal) (H:AHeap),wp (ACalls P N) c Q (en T) H →
  ∃n e T' H',aexec (tbA N (tabP P)) (acall N (tabP P) n) n c T H=some (e,T',H')∧Q e (en T') H':=by
 intro c
 induction c with
 | skip=>intro Q T H h; exact⟨0,_,_,_,rfl,h⟩
 | reg l=>
  intro Q T H h
  obtain⟨n,T',H',h1,h2⟩:=wRegs_sound l h
  exact⟨n,.normal,T',H',by simp only[aexec,h1],h2⟩
 | draw l chk=>
  intro Q T H h
  simp only[wp,wDraw]at h
  obtain⟨n,ss,h1,h2,h3⟩:=wTr_sound (claims H.next l) h 0
  exact⟨n,.normal,_,_,by simp only[aexec,adraw,h1,wCk_sound (claims H.next l) chk ss T h2,cond_true],h3⟩
 | seq a b iha ihb=>
  intro Q T H h
  obtain⟨n,e,T1,H1,h1,h2⟩:=iha _ T H h
  rcases inSeq_sound h2 with⟨rfl,h2⟩ | ⟨hne,h2⟩
  ·obtain⟨m,e2,T2,H2,h3,h4⟩:=ihb _ T1 H1 h2
   refine⟨max n m,e2,T2,H2,?_,h4⟩
   simp only[aexec,aexec_mono (acall_mono (Nat.le_max_left n m)) (Nat.le_max_left n m) a _ _ _ h1]
   exact aexec_mono (acall_mono (Nat.le_max_right n m)) (Nat.le_max_right n m) b _ _ _ h3
  ·refine⟨n,e,T1,H1,?_,h2⟩
   cases e with
   | normal=>exact absurd rfl hne
   | exit i=>simp only[aexec,h1]
   | ret=>simp only[aexec,h1]
 | cond c a b iha ihb=>
  intro Q T H h
  simp only[wp,sX_en]at h
  obtain⟨v,hv,h⟩:=h
  cases v with
  | true=>
   obtain⟨n,e,T1,H1,h1,h2⟩:=iha _ T H h
   exact⟨n,e,T1,H1,by simp only[aexec,hv,h1],h2⟩
  | false=>
   obtain⟨n,e,T1,H1,h1,h2⟩:=ihb _ T H h
   exact⟨n,e,T1,H1,by simp only[aexec,hv,h1],h2⟩
 | block id c ih=>
  intro Q T H h
  obtain⟨n,e,T1,H1,h1,h2⟩:=ih _ T H h
  cases e with
  | exit j=>
   simp only[inBlk]at h2
   cases hb:Nat.beq j id with
   | true=>rw[hb]at h2; exact⟨n,.normal,T1,H1,by simp only[aexec,h1,hb,cond_true],h2⟩
   | false=>rw[hb]at h2; exact⟨n,.exit j,T1,H1,by simp only[aexec,h1,hb,cond_false],h2⟩
  | normal=>exact⟨n,.normal,T1,H1,by simp only[aexec,h1],h2⟩
  | ret=>exact⟨n,.ret,T1,H1,by simp only[aexec,h1],h2⟩
 | loop c ih=>
  intro Q T H h
  simp only[wp]at h
  obtain⟨I,⟨m,hm⟩,hI⟩:=h
  have key:∀(m:Nat) (T:Tr AVal) (H:AHeap),I m (en T) H→∃n e T' H',aexec (tbA N (tabP P)) (acall N (tabP P) n) n (.loop c) T H=some (e,T',H')∧Q e (en T') H':=by
   intro m
   induction m using Nat.strongRecOn with
   | ind m ihm=>
    intro T H hi
    obtain⟨n,e,T1,H1,h1,h2⟩:=ih _ T H (hI m _ _ hi)
    rcases inSeq_sound h2 with⟨rfl,m',hm',h2⟩ | ⟨hne,h2⟩
    ·obtain⟨k,e2,T2,H2,h3,h4⟩:=ihm m' hm' T1 H1 h2
     refine⟨max n k+1,e2,T2,H2,?_,h4⟩
     simp only[aexec,aloop]
     rw[aexec_mono (acall_mono (show n≤max n k+1 by omega)) (show n≤max n k+1 by omega) c _ _ _ h1]
     simp only[aexec]at h3
     exact aloop_mono (fun T H r hr=>aexec_mono (acall_mono (show k≤max n k+1 by omega)) (show k≤max n k+1 by omega) c T H r hr) k (max n k) T1 H1 _ (Nat.le_max_right n k) h3
    ·refine⟨n+1,e,T1,H1,?_,h2⟩
     simp only[aexec,aloop]
     rw[aexec_mono (acall_mono (Nat.le_succ n)) (Nat.le_succ n) c _ _ _ h1]
     cases e with
     | normal=>exact absurd rfl hne
     | exit i=>rfl
     | ret=>rfl
  exact key m T H hm
 | exit id=>intro Q T H h; exact⟨0,_,_,_,rfl,h⟩
 | ret=>intro Q T H h; exact⟨0,_,_,_,rfl,h⟩
 | dfr y b ih=>
  intro Q T H h
  simp only[wp,sX_en]at h
  obtain⟨g,l,hg,h⟩:=h
  obtain⟨n,e,T1,H1,h1,h2⟩:=ih _ T H h
  have hne:(∀i,e≠.exit i)∧ACalls P N (3*BIG+g) l H1 fun _ H''=>Q .ret (en T1) H'':=by
   cases e with
   | exit i=>exact h2.elim
   | normal=>exact⟨fun i=>by simp,h2⟩
   | ret=>exact⟨fun i=>by simp,h2⟩
  obtain⟨hne,m,v,H2,h3,h4⟩:=hne
  refine⟨max n m,.ret,T1,H2,?_,h4⟩
  simp only[aexec,hg]
  rw[aexec_mono (acall_mono (Nat.le_max_left n m)) (Nat.le_max_left n m) b _ _ _ h1]
  have h5:=acall_mono (Nat.le_max_right n m) _ _ _ _ h3
  cases e with
  | exit i=>exact (hne i rfl).elim
  | normal=>simp only[h5]
  | ret=>simp only[h5]
def argE(args:List AVal):Env:=fun i=>match args[i]? with
 | some v=>v
 | none=>undefA
theorem putArgs_en:∀(args:List AVal) (i:Nat) (T:Tr AVal),en (putArgs args i T)=fun j=>if i≤j then (match args[j-i]? with | some v=>v | none=>en T j) else en T j
 | [],i,T=>by funext j; simp[putArgs]
 | x::r,i,T=>by
  rw[putArgs,putArgs_en r (i+1),en_set]
  funext j
  by_cases h:i+1≤j
  ·rw[if_pos h,if_pos om,show j-i=(j-(i+1))+1 by omega]
   simp only[List.getElem?_cons_succ]
   split
   ·rfl
   ·have hb:Nat.beq j i=false:=by rw[beq_dec]; exact decide_eq_false om
    simp only[up,hb,cond_false]
  ·rw[if_neg h]
   by_cases e:i=j
   ·subst e
    simp[up]
   ·rw[if_neg om]
    have hb:Nat.beq j i=false:=by rw[beq_dec]; exact decide_eq_false om
    simp only[up,hb,cond_false]
theorem putArgs_e(args:List AVal):en (putArgs args 0 .e)=argE args:=by
 rw[putArgs_en]
 funext j
 simp only[Nat.zero_le,if_true,Nat.sub_zero,argE]
 split
 ·rfl
 ·rfl
def wRes(T:Env)(H:AHeap):List ARes→Option (List AVal)
 | []=>some []
 | .t i::r=>match wRes T H r with
  | some l=>some (T i::l)
  | none=>none
 | .cell g n i::r=>match oLoad g n H (T i),wRes T H r with
  | some x,some l=>some (x::l)
  | _,_=>none
theorem wRes_en(T:Tr AVal)(H:AHeap):∀l:List ARes,wRes (en T) H l=ares T H l
 | []=>rfl
 | .t i::r=>by simp only[wRes,ares,wRes_en T H r]; rfl
 | .cell g n i::r=>by simp only[wRes,ares,wRes_en T H r]; rfl
def fin(res:List ARes)(K:AVal→AHeap→Prop):Post:=fun e T H=>match e with
 | .exit _=>False
 | _=>OptP (wRes T H res) fun l=>K (aresV l) H
theorem acalls_of{f:FuncId}{c:AFn}{args:List AVal}{H:AHeap}{K:AVal→AHeap→Prop}(hn:N.is f=false)(hc:eFn P f=some c)(hl:Nat.ble args.length c.nt=true)(h:wp (ACalls P N) c.body (fin c.res K) (argE args) H):ACalls P N f args H K:=by
 rw[← putArgs_e]at h
 obtain⟨n,e,T',H',h1,h2⟩:=wp_sound _ _ _ _ h
 have:∃l,ares T' H' c.res=some l∧K (aresV l) H'∧∀i,e≠.exit i:=by
  cases e with
  | exit i=>exact h2.elim
  | normal=>obtain⟨l,q1,q2⟩:=h2; rw[wRes_en]at q1; exact⟨l,q1,q2,fun i=>by simp⟩
  | ret=>obtain⟨l,q1,q2⟩:=h2; rw[wRes_en]at q1; exact⟨l,q1,q2,fun i=>by simp⟩
 obtain⟨l,q1,q2,q3⟩:=this
 refine⟨n+1,aresV l,H',?_,q2⟩
 rw[acall,hn,tabP_get hc]
 simp only[cond_false,hl,cond_true,h1]
 cases e with
 | exit i=>exact absurd rfl (q3 i)
 | normal=>simp only[q1]
 | ret=>simp only[q1]
theorem ACalls.calls(hfol:P.follows .mixedOrders=true)(hN:NatOK P N){f:FuncId}{args:List AVal}{H:AHeap}{K:AVal→AHeap→Prop}(h:ACalls P N f args H K)
  {Prot:Gh} {w0 w:World} {ρ:Pl} {vs:Array Value} (R:Rel Prot w0 ρ H w) (hv:VRels ρ args vs.toList) (hfb:Nat.blt f BIG=true:=by rfl) :
  Calls P f vs w fun e w'=>∃ρ' v H' u,ρ.le ρ'∧e=.returned u∧K v H'∧Rel Prot w0 ρ' H' w'∧VRel ρ' v u:=by
 obtain⟨n,v,H',h1,h2⟩:=h
 refine (acall_ok hfol hN (tabP_ok P) n _ _ _ _ _ hfb h1 _ _ _ _ _ R hv).mono fun e w' hx=>?_
 obtain⟨ρ',u,q1,rfl,q2,q3⟩:=hx
 exact⟨ρ',v,H',u,q1,rfl,h2,q2,q3⟩
end
end Go.Abs.S
namespace Go.Abs.S
open Go.Abs
theorem junks{ρ:Pl}{p:Value→Prop}(h:∀v,p v→∃x,∀ρ,VRel ρ x v):∀(vs:List Value),(∀v∈vs,p v)→∃l,∀ρ,VRels ρ l vs
 | [],_=>⟨[],fun ρ=>by simp[VRels]⟩
 | v::vs,hv=>by
  obtain⟨x,hx⟩:=h v (hv v (by simp))
  obtain⟨l,hl⟩:=junks (ρ:=ρ) h vs fun u hu=>hv u (by simp[hu])
  exact⟨x::l,fun ρ=>by simp only[VRels]; exact⟨v,vs,rfl,hx ρ,hl ρ⟩⟩
theorem junk:∀(n:Nat) (v:Value),SizeOf.sizeOf v≤n→∃x,∀ρ,VRel ρ x v:=by
 intro n
 induction n with
 | zero=>intro v h; cases v <;> simp at h
 | succ n ih=>
  intro v h
  cases v
  case bool b=>exact⟨.bool b,fun ρ=>by simp[VRel]⟩
  case agg vs=>
   obtain⟨l,hl⟩:=junks (ρ:=fun _ _=>none) (p:=fun v=>SizeOf.sizeOf v≤n) ih vs.toList fun v hv=>by
    have:=Array.sizeOf_lt_of_mem (Array.mem_toList_iff.1 hv)
    simp at h; omega
   exact⟨.agg l,fun ρ=>by simp only[VRel]; exact⟨vs,rfl,hl ρ⟩⟩
  case tuple vs=>
   obtain⟨l,hl⟩:=junks (ρ:=fun _ _=>none) (p:=fun v=>SizeOf.sizeOf v≤n) ih vs.toList fun v hv=>by
    have:=Array.sizeOf_lt_of_mem (Array.mem_toList_iff.1 hv)
    simp at h; omega
   exact⟨.tuple l,fun ρ=>by simp only[VRel]; exact⟨vs,rfl,hl ρ⟩⟩
  all_goals exact⟨.val _,fun ρ=>by simp only[VRel]; exact⟨rfl,rfl⟩⟩
noncomputable def junkOf(v:Value):AVal:=Classical.choose (junk (SizeOf.sizeOf v) v rL)
theorem junkOf_rel(v:Value)(ρ:Pl):VRel ρ (junkOf v) v:=Classical.choose_spec (junk (SizeOf.sizeOf v) v rL) ρ
def rowOf(w:World)(c:Nat):Option Nat:=match w.heap[c]? with
 | some (.cells C _ _)=>some C.size
 | _=>none
noncomputable def absW(w:World):Value→AVal
 | .bool b=>.bool b
 | .int k n=>.int k n
 | .string s=>.str s.data.toList
 | .pointer none=>.ptr none
 | .pointer (some ⟨c,off,none⟩)=>match rowOf w c with
  | some n=>.ptr (some ⟨c,n,off⟩)
  | none=>junkOf (.pointer (some ⟨c,off,none⟩))
 | .slice none 0 0=>.slice none 0 (.known 0)
 | .slice (some ⟨c,off,none⟩) len cap=>if len≤cap then (match rowOf w c with
  | some n=>if off≤n then .slice (some ⟨c,n,off⟩) len (.known cap) else .val (.slice (some ⟨c,off,none⟩) len cap)
  | none=>.val (.slice (some ⟨c,off,none⟩) len cap)) else .val (.slice (some ⟨c,off,none⟩) len cap)
 | .slice (some ⟨c,off,some q⟩) len cap=>.val (.slice (some ⟨c,off,some q⟩) len cap)
 | .map none=>.map none
 | .nilFunc=>.nilFunc
 | .nilIface=>.nilIface
 | v=>junkOf v
def plW(w:World):Pl:=fun b l=>match rowOf w b with
 | some n=>if l=n then some ⟨b,0,n,false⟩ else none
 | none=>none
theorem plW_some{w:World}{b n:Nat}(h:rowOf w b=some n):plW w b n=some ⟨b,0,n,false⟩:=by simp[plW,h]
theorem strOf_data(s:ByteArray):strOf s.data.toList=s:=by cases s; simp[strOf]
theorem absW_rel(w:World)(v:Value):VRel (plW w) (absW w v) v:=by
 unfold absW
 split
 ·simp[VRel]
 ·simp[VRel]
 ·simp[VRel,strOf_data]
 ·simp[VRel]
 ·split
  ·rename_i n hn
   simp only[VRel]
   exact⟨_,plW_some hn,Nat.zero_le _,by simp⟩
  ·exact junkOf_rel _ _
 ·simp[VRel]
 ·split
  ·rename_i hl
   split
   ·rename_i n hn
    split
    ·simp only[VRel]
     exact⟨_,plW_some hn,Nat.zero_le _,by simp only[SliceRel]; exact⟨hl,by simp⟩⟩
    ·simp only[VRel]; exact⟨trivial,rfl⟩
   ·simp only[VRel]; exact⟨trivial,rfl⟩
  ·simp only[VRel]; exact⟨trivial,rfl⟩
 ·simp only[VRel]; exact⟨trivial,rfl⟩
 ·simp[VRel]
 ·simp[VRel]
 ·simp[VRel]
 ·exact junkOf_rel _ _
noncomputable def objW(w:World)(c:Nat):Option AObj:=match w.heap[c]? with
 | some (.cells C _ _)=>some (.cells (C.toList.map (absW w)) 0 true)
 | _=>none
noncomputable def trW(w:World):Nat→Tr AObj
 | 0=>.e
 | n+1=>match objW w n with
  | some o=>(trW w n).set n o
  | none=>trW w n
theorem trW_get(w:World):∀(n b:Nat),(trW w n).get b=if b<n then objW w b else none
 | 0,b=>by rw[if_neg om]; cases b <;> rfl
 | n+1,b=>by
  simp only[trW]
  cases hc:objW w n with
  | none=>
   simp only[trW_get w n b]
   by_cases h:b<n
   ·rw[if_pos h,if_pos om]
   ·by_cases e:b=n
    ·subst e; rw[if_neg h,if_pos om,hc]
    ·rw[if_neg h,if_neg om]
  | some c=>
   simp only[Tr.get_set,trW_get w n b]
   by_cases e:b=n
   ·subst e; rw[if_pos rfl,if_pos om,hc]
   ·rw[if_neg e]
    by_cases h:b<n
    ·rw[if_pos h,if_pos om]
    ·rw[if_neg h,if_neg om]
noncomputable def heapW(w:World):AHeap:=⟨w.heap.size,trW w w.heap.size⟩
theorem heapW_get(w:World)(b:Nat):(heapW w).get b=objW w b:=by
 show (trW w w.heap.size).get b=_
 rw[trW_get]
 by_cases h:b<w.heap.size
 ·rw[if_pos h]
 ·rw[if_neg h]
  unfold objW
  rw[Array.getElem?_eq_none om]
theorem objW_some{w:World}{c n:Nat}(h:rowOf w c=some n):∃C e fz,w.heap[c]?=some (.cells C e fz)∧C.size=n∧objW w c=some (.cells (C.toList.map (absW w)) 0 true):=by
 unfold rowOf at h
 unfold objW
 split at h
 ·rename_i C e fz hC
  simp only[sJ]at h
  exact⟨C,e,fz,hC,h,rfl⟩
 ·simp at h
theorem plW_inv{w:World}{b l:Nat}{L:Loc}(h:plW w b l=some L):rowOf w b=some l∧L=⟨b,0,l,false⟩:=by
 unfold plW at h
 split at h
 ·rename_i n hn
  split at h
  ·rename_i e; subst e; simp only[sJ]at h; exact⟨hn,h.symm⟩
  ·simp at h
 ·simp at h
theorem objW_ro{w:World}{b:Nat}{x:AObj}(h:objW w b=some x):x.rw=false:=by
 unfold objW at h
 split at h
 ·simp only[sJ]at h; subst h; rfl
 ·simp at h
theorem rel_world(w:World):Rel ⟨fun c=>c<w.heap.size,fun _=>False⟩ w (plW w) (heapW w) w:=by
 refine⟨rfl,rfl,rfl,Nat.le_refl _,fun _ hc=>⟨hc,rfl⟩,fun b l L h=>?_,fun b l L h=>?_,fun b l L x h hx hr=>?_,fun b l L b' l' L' x h h' he hx hr=>?_,fun _ h=>h.elim,fun b l low h=>?_⟩
 ·obtain⟨h1,rfl⟩:=plW_inv h
  obtain⟨C,e,fz,h2,_,_⟩:=objW_some h1
  have:=(Array.getElem?_eq_some_iff.1 h2).1
  exact⟨this,this⟩
 ·obtain⟨h1,rfl⟩:=plW_inv h
  obtain⟨C,e,fz,h2,h3,h4⟩:=objW_some h1
  obtain⟨lo,hi⟩:=fz
  refine⟨_,_,by rw[heapW_get,h4],h2,?_⟩
  simp only[ORel]
  refine⟨C,e,lo,hi,rfl,h3,fun h=>by simp at h,by simp; omega,fun _ i _ hi=>?_⟩
  have hlt:i<C.size:=om
  refine⟨absW w C[i],C[i],?_,by simp[hlt],absW_rel w _⟩
  simp[hlt]
 ·rw[heapW_get]at hx
  rw[objW_ro hx]at hr
  simp at hr
 ·rw[heapW_get]at hx
  rw[objW_ro hx]at hr
  simp at hr
 ·rw[heapW_get]at h
  have hr:rowOf w b=some l.length:=by
   unfold objW at h
   unfold rowOf
   split at h
   ·rename_i C e fz hC
    simp only[sJ,AObj.cells.injEq]at h
    simp[← h.1]
   ·simp at h
  exact⟨_,plW_some hr,rfl,rfl,rfl⟩
end Go.Abs.S
