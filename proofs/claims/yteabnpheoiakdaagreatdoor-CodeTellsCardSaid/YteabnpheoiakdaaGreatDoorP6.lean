/- Part of a proof (D8 D9 A11 A11b A11c); no condition. -/
import Derived.LoopN
import Derived.Recover
import Derived.Test.YteabnpheoiakdaaGreatDoorP5
set_option linter.unusedSimpArgs false
set_option linter.unusedVariables false
set_option linter.unnecessarySimpa false
namespace Go.Abs
section
variable {P:Program} {Prot:Gh} {w0:World} {tb:FuncId→Bool} {call:FuncId→List AVal→AHeap→Option (AVal×AHeap)}
def fillB:AOp→Option Nat
 | .hf (.fill b _) _=>some b
 | _=>none
def asideF(D:Nat→Prop)(l:List AOper)(m:Nat→Bool):Nat→Prop:=fun d=>D d∨∃(i:Nat) (a:AOper),l[i]?=some a∧fillB a.op=some d∧m i=false
set_option maxHeartbeats 2000000 in
theorem draw_mov(htb:∀f,Nat.blt f BIG=true→tb f=true→hasBody P f=true)(hcall:CallOK P call){ds:List Deferred}{n:Nat}{ops:Array Oper}{l:List AOper}{base:Nat}{ms:List Nat}
  (hlen:l.length=ops.toList.length) (hopers:∀(j:Nat) (o:Oper),ops.toList[j]?=some o→∃a,l[j]?=some a∧(cOper P n ops o=some a∨∃c,base≤c∧IsFl P n ops o a c))
  (hbase:∀d,Prot.dead d→d<base) (hdis:∀(i j:Nat) (a b:AOper) (c:Nat),l[i]?=some a→l[j]?=some b→fillB a.op=some c→fillB b.op=some c→i=j) (hno:NoCl l)
  (hm:okMask (ops.toList.map bindE) ms=true) (hp:okPairsM l ms=true) (hol:okLoadsM l ms=true) {T0:Tr AVal} {H0:AHeap} {ss:List (AVal×AHeap)} (htr:atrace tb call l T0 H0=some ss)
  (hck:chkRun tb (H0::ss.map (·.2)) l ((List.range l.length).map (chkOf l ms)) ss T0=true)
  (hap:∀i j,looseP l ms i j=true→∀x∈tchAt l ss T0 j,x∉tchAt l ss T0 i)
  (hal:∀i j k o,looseP l ms i j=true→l[k]?=some o→isLoad o.op=true→bit ms k j=false→bit ms j k=false→∀x∈tchAt l ss T0 j,x∉tchAt l ss T0 k) {ρ0:Pl} {Q:Exit→Act→World→Prop}
  (hQ:∀a w,(∃ρ,ρ0.le ρ∧Rel Prot w0 ρ (hAt H0 ss l.length) w∧TmpsRel ρ n (tsel (fun _=>true) 0 l ss T0) a.tmps∧a.defers=ds)→Q .normal a w) :
  ∀(fuel:Nat) (listed:Array Bool) (a:Act) (w:World),listed.size=ops.size→unl (fun i=>listed.getD i false) ops.size=fuel →
   (∀j,j<ops.size→listed.getD j false=true→∀e∈(ops.toList.map bindE).getD j [],listed.getD e false=true) →
   (∃ρ Hx,ρ0.le ρ∧HmOK l ss T0 H0 (fun i=>listed.getD i false) (stage (fun i=>listed.getD i false) 0 l) Hx∧Rel ⟨Prot.prot,asideF Prot.dead l fun i=>listed.getD i false⟩ w0 ρ Hx w ∧
    TmpsRel ρ n (tsel (fun i=>listed.getD i false) 0 l ss T0) a.tmps∧a.defers=ds) →
   wpAny P .any ops Q fuel listed a w:=by
 have hN:l.length=ops.size:=by simpa using hlen
 obtain⟨hsl,hat⟩:=trace_at l T0 H0 ss 0 htr
 have hes:(ops.toList.map bindE).length=ops.size:=by simp
 have hpair:∀i j a b,i<j→l[i]?=some a→l[j]?=some b→okPairM ms i j a b=true:=by
  intro i j a b hij hi hj
  have hp:=hp
  unfold okPairsM at hp
  rw[List.all_eq_true]at hp
  have hjl:=(List.getElem?_eq_some_iff.1 hj).1
  have h1:=hp j (List.mem_range.2 hjl)
  rw[hj]at h1
  simp only at h1
  rw[List.all_eq_true]at h1
  have h2:=h1 i (List.mem_range.2 hij)
  rw[hi]at h2
  exact h2
 have hload:∀i j k o,looseP l ms i j=true→l[k]?=some o→isLoad o.op=true→bit ms k j=true→bit ms k i=true:=by
  intro i j k o h1 h2 h3 h4
  obtain⟨_,_,hi,hj,hij,_⟩:=loose_spec hp h1
  unfold okLoadsM at hol
  rw[List.all_eq_true]at hol
  have q:=hol j (List.mem_range.2 (List.getElem?_eq_some_iff.1 hj).1)
  rw[List.all_eq_true]at q
  have q2:=q i (List.mem_range.2 hij)
  rw[h1]at q2
  simp only[Bool.not_true,Bool.false_or]at q2
  rw[List.all_eq_true]at q2
  have q3:=q2 k (List.mem_range.2 (List.getElem?_eq_some_iff.1 h2).1)
  rw[h2]at q3
  simpa[h3,h4] using q3
 intro fuel
 induction fuel with
 | zero=>
  intro listed a w hsz hu _ hinv
  have hall:∀i,i<ops.size→listed.getD i false=true:=unl_zero hu
  refine⟨?_,hQ a w ?_⟩
  ·unfold Region.ready
   rw[List.filter_eq_nil_iff]
   intro i hi
   have:=hall i (List.mem_range.1 hi)
   have e:listed.getD i true=true:=by
    rw[Array.getD_eq_getD_getElem?]at this ⊢
    rw[Array.getElem?_eq_getElem (by rw[hsz]; exact List.mem_range.1 hi)]at this ⊢
    simpa using this
   simp[e]
  ·obtain⟨ρ,Hx,h1,hH,h2,h3,h4⟩:=hinv
   have hst:stage (fun i=>listed.getD i false) 0 l=l.length:=by
    obtain⟨q1,q2,q3,q4⟩:=stage_spec (fun i=>listed.getD i false) l 0
    rcases Nat.lt_or_ge (stage (fun i=>listed.getD i false) 0 l) l.length with q | q
    ·have ho:l[stage (fun i=>listed.getD i false) 0 l-0]?=some l[stage (fun i=>listed.getD i false) 0 l]:=by simp
     have:=(q4 _ (by simpa using q) ho).2
     rw[hall _ om]at this
     simp at this
    ·omega
   rw[hst]at hH
   refine⟨ρ,h1,?_,h3.congr fun t=>?_,h4⟩
   ·have:=h2.ext_heap (H':=hAt H0 ss l.length) hH.next.symm fun x=>(hH.base x fun q q1 q2=>by
     obtain⟨_,o,q3,_⟩:=q2
     have:=(List.getElem?_eq_some_iff.1 q3).1
     omega).symm
    exact this.fewer (D:=Prot.dead) fun d hd=>.inl hd
   ·refine tsel_get l ss 0 T0 T0 rfl fun i o hi _=>?_
    have:=(List.getElem?_eq_some_iff.1 hi).1
    simp only[Nat.zero_add]
    exact (hall i om).symm
 | succ fuel ih=>
  intro listed a w hsz hu hdown hinv
  obtain⟨ρ,Hx,hle,hH,R,ht,hd⟩:=hinv
  have hml:=mask_listed hm (m:=fun i=>listed.getD i false) (fun j hj hjl e he=>hdown j om hjl e he)
  have hmask:∀j,j<ops.size→(∀e∈(ops.toList.map bindE).getD j [],listed.getD e false=true)→∀i,i<j→bit ms j i=true→listed.getD i false=true:=
   fun j hj he i hi hb=>hml j om he i hi hb
  have hDn:Down l ms (fun i=>listed.getD i false):=fun j hj hjl i hi hb=>hmask j om (hdown j om hjl) i hi hb
  refine⟨fun hnone=>?_,fun i hi=>?_⟩
  ·-- there is one that is ready
   exfalso
   have hex:∃i,i<ops.size∧listed.getD i false=false:=by
    rcases Classical.em (∃i,i<ops.size∧listed.getD i false=false) with h | h
    ·exact h
    ·exfalso
     have:unl (fun i=>listed.getD i false) ops.size=0:=unl_all fun i hi=>by
      cases hb:listed.getD i false with
      | true=>rfl
      | false=>exact (h ⟨i,hi,hb⟩).elim
     omega
   have hmin:∃i,i<ops.size∧listed.getD i false=false∧∀j,j<i→listed.getD j false=true:=by
    obtain⟨i,hi1,hi2⟩:=hex
    induction i using Nat.strongRecOn with
    | _ i ihm=>
     rcases Classical.em (∃j,j<i∧listed.getD j false=false) with⟨j,hj,hj2⟩ | h
     ·exact ihm j hj om hj2
     ·refine⟨i,hi1,hi2,fun j hj=>?_⟩
      cases hb:listed.getD j false with
      | true=>rfl
      | false=>exact (h ⟨j,hj,hb⟩).elim
   obtain⟨i,hi1,hi2,hi3⟩:=hmin
   have:i∈Region.ready .any ops listed:=by
    rw[mem_ready]
    refine⟨?_,ops[i],Array.getElem?_eq_getElem hi1,fun e he hb=>?_⟩
    ·rw[Array.getD_eq_getD_getElem?]at hi2 ⊢
     rw[Array.getElem?_eq_getElem om]at hi2 ⊢
     simpa using hi2
    ·refine hi3 _ ?_
     unfold okMask at hm
     rw[List.all_eq_true]at hm
     have h1:=hm i (List.mem_range.2 om)
     simp only[Bool.and_eq_true,List.all_eq_true]at h1
     refine Nat.le_of_ble_eq_true (h1.1 e.on ?_)
     have:(ops.toList.map bindE).getD i []=bindE ops[i]:=by simp[List.getD,hi1]
     rw[this]
     unfold bindE
     rw[List.mem_map]
     exact⟨e,by rw[List.mem_filter]; exact⟨by simpa using he,hb⟩,rfl⟩
   rw[hnone]at this
   simp at this
  ·obtain⟨hi1,o,ho,hedge⟩:=mem_ready.1 hi
   have hiN:i<ops.size:=(Array.getElem?_eq_some_iff.1 ho).1
   have hmi:listed.getD i false=false:=by
    rw[Array.getD_eq_getD_getElem?]at hi1 ⊢
    rw[Array.getElem?_eq_getElem om]at hi1 ⊢
    simpa using hi1
   obtain⟨ao,hao,hco⟩:=hopers i o (by simpa using ho)
   have hedges:∀e∈(ops.toList.map bindE).getD i [],listed.getD e false=true:=by
    have:(ops.toList.map bindE).getD i []=bindE o:=by
     have:ops[i]=o:=by simpa[Array.getElem?_eq_getElem hiN] using ho
     simp[List.getD,hiN,this]
    rw[this]
    intro e he
    unfold bindE at he
    rw[List.mem_map]at he
    obtain⟨x,hx,rfl⟩:=he
    rw[List.mem_filter]at hx
    exact hedge x (by simpa using hx.1) hx.2
   have hafter:∀c b,i<c→l[c]?=some b→bit ms c i=true→listed.getD c false=false:=by
    intro c b hc hb hbit
    cases hx:listed.getD c false with
    | false=>rfl
    | true=>
     have hcN:=(List.getElem?_eq_some_iff.1 hb).1
     have:=hmask c om (hdown c om hx) i hc hbit
     rw[hmi]at this
     simp at this
   have hagree:∀t∈readsO ao,(tsel (fun i=>listed.getD i false) 0 l ss T0).get t=(tsel (fun j=>Nat.blt j (0+i)) 0 l ss T0).get t:=by
    intro t htr'
    refine tsel_get l ss 0 T0 T0 rfl fun c b hc hdst=>?_
    have hcN:=(List.getElem?_eq_some_iff.1 hc).1
    simp only[Nat.zero_add]
    rcases Nat.lt_trichotomy c i with h | h | h
    ·have e:Nat.blt c i=true:=Nat.ble_eq_true_of_le h
     rw[e]
     have hpr:=hpair c i b ao h hc hao
     simp only[okPairM,Bool.or_eq_true,Bool.and_eq_true]at hpr
     rcases hpr with hpr | ⟨hpr,_⟩
     ·exact hmask i hiN hedges c h hpr
     ·exfalso
      simp only[disj,hdst,Bool.and_eq_true,Bool.not_eq_true',List.contains_eq_mem,decide_eq_false_iff_not]at hpr
      exact hpr.1.1 htr'
    ·subst h
     have e:Nat.blt c c=false:=by
      cases hb:Nat.blt c c with
      | false=>rfl
      | true=>have:=Nat.le_of_ble_eq_true hb; omega
     rw[e]; exact hmi
    ·have e:Nat.blt c i=false:=by
      cases hb:Nat.blt c i with
      | false=>rfl
      | true=>have:=Nat.le_of_ble_eq_true hb; omega
     rw[e]
     have hpr:=hpair i c ao b h hao hc
     simp only[okPairM,Bool.or_eq_true,Bool.and_eq_true]at hpr
     rcases hpr with hpr | ⟨hpr,_⟩
     ·exact hafter c b h hc hpr
     ·exfalso
      simp only[disj,hdst,Bool.and_eq_true,Bool.not_eq_true',List.contains_eq_mem,decide_eq_false_iff_not]at hpr
      exact hpr.2 htr'
   have hgd:gOK (tsel (fun i=>listed.getD i false) 0 l ss T0) ao.guard=gOK (tsel (fun j=>Nat.blt j (0+i)) 0 l ss T0) ao.guard:=by
    cases hg:ao.guard with
    | none=>rfl
    | some g=>
     obtain⟨t,b⟩:=g
     simp only[gOK,ev]
     rw[hagree (gS t) (by simp[readsO,hg])]
   have hop:∀H,aop tb (tsel (fun i=>listed.getD i false) 0 l ss T0) H ao.op=aop tb (tsel (fun j=>Nat.blt j (0+i)) 0 l ss T0) H ao.op:=
    fun H=>aop_congr fun t h=>hagree t (by simp only[readsO,List.mem_append]; exact .inl h)
   obtain⟨v,H1,hss,hstep⟩:=hat i ao hao
   obtain⟨st1,st2,st3,st4⟩:=stage_spec (fun i=>listed.getD i false) l 0
   have hready:∀c,c<i→bit ms i c=true→listed.getD c false=true:=fun c h1 h2=>hmask i hiN hedges c h1 h2
   have hm':∀j,(listed.setIfInBounds i true).getD j false=setM (fun i=>listed.getD i false) i j:=by
    intro j
    unfold setM
    by_cases e:j=i
    ·subst e
     rw[if_pos rfl,Array.getD_eq_getD_getElem?]
     have:j<listed.size:=om
     simp[this]
    ·rw[if_neg e]
     exact getD_set_ne false (fun q=>e q.symm)
   have hmf:(fun j=>(listed.setIfInBounds i true).getD j false)=setM (fun i=>listed.getD i false) i:=funext hm'
   have hnext:∀(ρ':Pl) (w':World) (a':Act) (H3:AHeap),ρ.le ρ'→HmOK l ss T0 H0 (setM (fun i=>listed.getD i false) i) (stage (setM (fun i=>listed.getD i false) i) 0 l) H3 →
     Rel ⟨Prot.prot,asideF Prot.dead l (setM (fun i=>listed.getD i false) i)⟩ w0 ρ' H3 w' →
     TmpsRel ρ' n (aput (tsel (fun i=>listed.getD i false) 0 l ss T0) ao.dst v) a'.tmps→a'.defers=ds→wpAny P .any ops Q fuel (listed.setIfInBounds i true) a' w':=by
    intro ρ' w' a' H3 hle' hH' R' ht' hd'
    refine ih _ a' w' (by simpa using hsz) ?_ ?_ ⟨ρ',H3,Pl.le_trans hle hle',by rw[hmf]; exact hH',by rw[hmf]; exact R',?_,hd'⟩
    ·have:=unl_set (m:=fun i=>listed.getD i false) (m':=fun j=>(listed.setIfInBounds i true).getD j false) (i:=i) (n:=ops.size) hiN hmi (by rw[hm']; simp[setM]) (fun j hj=>by rw[hm']; simp[setM,hj])
     omega
    ·intro j hj hjl e he
     rw[hm']at hjl ⊢
     simp only[setM]at hjl ⊢
     by_cases q:e=i
     ·rw[if_pos q]
     ·rw[if_neg q]
      by_cases q2:j=i
      ·subst q2; exact hedges e he
      ·rw[if_neg q2]at hjl; exact hdown j hj hjl e he
    ·refine ht'.congr fun t=>?_
     rw[hmf,get_aput]
     by_cases e:ao.dst=some t
     ·rw[if_pos e]
      refine tsel_last l ss 0 i T0 ao v H1 hao hss e (by simp[setM]) fun c b hc hcb hdst=>?_
      simp only[Nat.zero_add,setM]
      rw[if_neg om]
      have hpr:=hpair i c ao b hc hao hcb
      simp only[okPairM,Bool.or_eq_true,Bool.and_eq_true]at hpr
      rcases hpr with hpr | ⟨hpr,_⟩
      ·exact hafter c b hc hcb hpr
      ·exfalso
       simp only[disj,e,Bool.and_eq_true,Bool.not_eq_true',beq_eq_false_iff_ne]at hpr
       exact hpr.1.2 hdst
     ·rw[if_neg e]
      refine tsel_get l ss 0 T0 T0 rfl fun c b hc hdst=>?_
      simp only[Nat.zero_add,setM]
      rw[if_neg]
      intro q
      subst q
      rw[hao]at hc
      simp only[sJ]at hc
      subst hc
      exact e hdst
   have hge:isChain ao.op=true→stage (fun i=>listed.getD i false) 0 l≤i:=by
    intro hc
    rcases Nat.lt_or_ge i (stage (fun i=>listed.getD i false) 0 l) with h | h
    ·have:=st3 i ao hao hc (by simpa using h)
     simp only[Nat.zero_add]at this
     rw[hmi]at this
     simp at this
    ·exact h
   have hlink:isChain ao.op=true→∃Hy H3,Hy.next=Hx.next∧(∀x,Hy.get x=Hx.get x)∧astep tb call ao (tsel (fun j=>Nat.blt j (0+i)) 0 l ss T0) Hy=some (v,H3) ∧
     HmOK l ss T0 H0 (setM (fun i=>listed.getD i false) i) (stage (setM (fun i=>listed.getD i false) i) 0 l) H3:=by
    intro hc
    have h1:=hge hc
    have hpl:stage (fun i=>listed.getD i false) 0 l<l.length:=om
    have hob2:l[stage (fun i=>listed.getD i false) 0 l]?=some (l[stage (fun i=>listed.getD i false) 0 l]'hpl):=List.getElem?_eq_getElem hpl
    obtain⟨q1,q2⟩:=st4 _ om (by rw[Nat.sub_zero]; exact hob2)
    obtain⟨s1,s2,s3,s4⟩:=stage_spec (setM (fun i=>listed.getD i false) i) l 0
    rcases Nat.lt_or_ge (stage (fun i=>listed.getD i false) 0 l) i with h | h
    ·obtain⟨H3,e1,e2⟩:=m_early htr hp hap hDn hob2 q1 q2 hao hc hmi hready h hH hss hstep
     have e3:stage (setM (fun i=>listed.getD i false) i) 0 l=stage (fun i=>listed.getD i false) 0 l:=by
      rcases Nat.lt_trichotomy (stage (setM (fun i=>listed.getD i false) i) 0 l) (stage (fun i=>listed.getD i false) 0 l) with k | k | k
      ·exfalso
       have hob3:l[stage (setM (fun i=>listed.getD i false) i) 0 l]?=some (l[stage (setM (fun i=>listed.getD i false) i) 0 l]'om):=List.getElem?_eq_getElem om
       obtain⟨r1,r2⟩:=s4 _ om (by rw[Nat.sub_zero]; exact hob3)
       have:=st3 _ _ hob3 r1 om
       simp only[Nat.zero_add]at this
       simp only[setM]at r2
       split at r2
       ·simp at r2
       ·rw[r2]at this; simp at this
      ·exact k
      ·exfalso
       have:=s3 _ _ hob2 q1 om
       simp only[Nat.zero_add,setM]at this
       rw[if_neg om,q2]at this
       simp at this
     exact⟨Hx,H3,rfl,fun _=>rfl,e1,by rw[e3]; exact e2⟩
    ·have hpi:stage (fun i=>listed.getD i false) 0 l=i:=om
     rw[hpi]at hH
     refine m_stage htr hp hap hDn hao hc hmi ?_ om (fun c oc k1 k2 k3 k4=>?_) hH hss hstep
     ·rcases Nat.lt_or_ge i (stage (setM (fun i=>listed.getD i false) i) 0 l) with k | k
      ·exact k
      ·exfalso
       have hob3:l[stage (setM (fun i=>listed.getD i false) i) 0 l]?=some (l[stage (setM (fun i=>listed.getD i false) i) 0 l]'om):=List.getElem?_eq_getElem om
       obtain⟨r1,r2⟩:=s4 _ om (by rw[Nat.sub_zero]; exact hob3)
       simp only[setM]at r2
       split at r2
       ·simp at r2
       ·have:=st3 _ _ hob3 r1 om
        simp only[Nat.zero_add]at this
        rw[r2]at this; simp at this
     ·have:=s3 c oc k3 k4 om
      simp only[Nat.zero_add,setM]at this
      rwa [if_neg om]at this
   have hplain:isChain ao.op=false→HmOK l ss T0 H0 (setM (fun i=>listed.getD i false) i) (stage (setM (fun i=>listed.getD i false) i) 0 l) Hx:=by
    intro hc
    have e3:stage (setM (fun i=>listed.getD i false) i) 0 l=stage (fun i=>listed.getD i false) 0 l:=stage_congr l 0 fun c b hcb hcc=>by
     simp only[Nat.zero_add,setM]
     rw[if_neg]
     intro e
     subst e
     rw[hao]at hcb
     simp only[sJ]at hcb
     subst hcb
     rw[hc]at hcc
     simp at hcc
    rw[e3]
    exact m_plain hao hc hH
   have hval:isChain ao.op=false→gOK (tsel (fun j=>Nat.blt j (0+i)) 0 l ss T0) ao.guard=true→aop tb (tsel (fun j=>Nat.blt j (0+i)) 0 l ss T0) Hx ao.op=some (.val v,Hx):=by
    intro hc hgo
    unfold astep at hstep
    rw[hgo]at hstep
    simp only[cond_true]at hstep
    cases hpu:isPure ao.op with
    | true=>
     split at hstep
     ·rename_i u H2 hu
      simp only[sJ,pJ]at hstep
      obtain⟨rfl,rfl⟩:=hstep
      exact (pure_other hpu hu).2.2 _
     ·rename_i f args H2 hu
      obtain⟨_,⟨x,hx⟩,_⟩:=pure_other hpu hu
      simp at hx
     ·simp at hstep
    | false=>
     have hld:isLoad ao.op=true:=by
      unfold isChain at hc
      cases h1:isLoad ao.op with
      | true=>rfl
      | false=>rw[hpu,h1]at hc; simp at hc
     have hw:∃H2,aop tb (tsel (fun j=>Nat.blt j (0+i)) 0 l ss T0) (hAt H0 ss (stage (fun i=>listed.getD i false) 0 l)) ao.op=some (.val v,H2):=by
      cases hsm:sameH l i (stage (fun i=>listed.getD i false) 0 l) with
      | true=>
       unfold sameH at hsm
       rw[Bool.and_eq_true,List.all_eq_true]at hsm
       have hij:=Nat.le_of_ble_eq_true hsm.1
       have hb:=heap_between htr (stage (fun i=>listed.getD i false) 0 l-i) i om fun c b c1 c2 c3=>by
        have:=hsm.2 c (List.mem_range.2 om)
        rw[c3]at this
        simp only[Bool.or_eq_true,Bool.not_eq_true']at this
        rcases this with h | h
        ·have:=Nat.le_of_ble_eq_true h; omega
        ·exact h
       rw[show i+(stage (fun i=>listed.getD i false) 0 l-i)=stage (fun i=>listed.getD i false) 0 l by omega]at hb
       rw[hb]
       split at hstep
       ·rename_i u H2 hu
        simp only[sJ,pJ]at hstep
        obtain⟨rfl,rfl⟩:=hstep
        exact⟨_,hu⟩
       ·rename_i f args H2 hu
        obtain⟨_,x,hx⟩:=load_other hld hu
        simp at hx
       ·simp at hstep
      | false=>
       have hmem:stage (fun i=>listed.getD i false) 0 l∈chkOf l ms i:=by
        unfold chkOf
        rw[hao]
        simp only[hld,cond_true]
        rw[List.mem_filter]
        refine⟨List.mem_range.2 om,?_⟩
        rw[hsm]
        simp only[Bool.not_false,Bool.true_and]
        unfold mayAt
        rw[Bool.and_eq_true]
        refine⟨?_,?_⟩
        ·unfold isStage
         rcases Nat.lt_or_ge (stage (fun i=>listed.getD i false) 0 l) l.length with h | h
         ·have hob:l[stage (fun i=>listed.getD i false) 0 l]?=some l[stage (fun i=>listed.getD i false) 0 l]:=List.getElem?_eq_getElem h
          rw[hob]
          exact (st4 _ om (by simp)).1
         ·rw[List.getElem?_eq_none h]
          have:stage (fun i=>listed.getD i false) 0 l=l.length:=om
          rw[this]
          exact Nat.beq_refl _
        ·rw[List.all_eq_true]
         intro c hcr
         have hcl:=List.mem_range.1 hcr
         rw[List.getElem?_eq_getElem hcl]
         simp only[Bool.or_eq_true,Bool.not_eq_true']
         cases hcc:isChain l[c].op with
         | false=>exact .inl rfl
         | true=>
          right
          have hlc:l[c]?=some l[c]:=List.getElem?_eq_getElem hcl
          cases hb:Nat.blt c (stage (fun i=>listed.getD i false) 0 l) with
          | true=>
           simp only[cond_true,Bool.not_eq_true']
           have hlt:c<stage (fun i=>listed.getD i false) 0 l:=Nat.le_of_ble_eq_true hb
           have hcm:=st3 c _ hlc hcc om
           simp only[Nat.zero_add]at hcm
           cases hbit:bit ms c i with
           | false=>rfl
           | true=>
            exfalso
            rcases Nat.lt_trichotomy i c with h | h | h
            ·have:=hafter c _ h hlc hbit
             rw[hcm]at this; simp at this
            ·subst h; rw[hmi]at hcm; simp at hcm
            ·have:=bit_lt hbit
             omega
          | false=>
           simp only[cond_false,Bool.not_eq_true']
           have hge:stage (fun i=>listed.getD i false) 0 l≤c:=by
            rcases Nat.lt_or_ge c (stage (fun i=>listed.getD i false) 0 l) with h | h
            ·have:Nat.blt c (stage (fun i=>listed.getD i false) 0 l)=true:=Nat.ble_eq_true_of_le h
             rw[hb]at this; simp at this
            ·exact h
           cases hbit:bit ms i c with
           | false=>rfl
           | true=>
            exfalso
            have hlc2:=hmask i hiN hedges c (bit_lt hbit) hbit
            have hpl:stage (fun i=>listed.getD i false) 0 l<l.length:=om
            have hob2:l[stage (fun i=>listed.getD i false) 0 l]?=some (l[stage (fun i=>listed.getD i false) 0 l]'hpl):=List.getElem?_eq_getElem hpl
            obtain⟨q1,q2⟩:=st4 _ om (by rw[Nat.sub_zero]; exact hob2)
            rcases Nat.lt_trichotomy (stage (fun i=>listed.getD i false) 0 l) c with h | h | h
            ·cases hpr:bit ms c (stage (fun i=>listed.getD i false) 0 l) with
             | true=>
              have:=hmask c om (hdown c om hlc2) _ h hpr
              rw[q2]at this; simp at this
             | false=>
              have hlp:=looseP_of hob2 hlc h q1 hcc hpr
              have:=hload _ _ i ao hlp hao hld hbit
              have:=hready _ (bit_lt this) this
              rw[q2]at this; simp at this
            ·rw[h]at q2; rw[q2]at hlc2; simp at hlc2
            ·omega
       obtain⟨Hp,hHp,hrun⟩:=chk_at l _ ss T0 0 hck i _ (chkOf l ms i) v H1 hao (by simp[hN,hiN]) hss _ hmem
       obtain⟨H2,hH2⟩:=hrun hgo
       refine⟨H2,?_⟩
       have:Hp=hAt H0 ss (stage (fun i=>listed.getD i false) 0 l):=by
        cases hstg:stage (fun i=>listed.getD i false) 0 l with
        | zero=>rw[hstg]at hHp; simpa[hAt] using hHp.symm
        | succ q=>
         rw[hstg]at hHp
         simp only[List.getElem?_cons_succ,List.getElem?_map]at hHp
         simp only[hAt]
         cases hq:ss[q]? with
         | none=>rw[hq]at hHp; simp at hHp
         | some z=>rw[hq]at hHp; obtain⟨z1,z2⟩:=z; simpa using hHp.symm
       rw[← this]
       exact hH2
     obtain⟨H2,hH2⟩:=hw
     have hE:∀q,stage (fun i=>listed.getD i false) 0 l≤q→Early l (fun i=>listed.getD i false) q→∀x∈tchAt l ss T0 q,x∉tchAt l ss T0 i:=by
      intro q hq he
      obtain⟨he1,oq,he2,he3⟩:=he
      have hql:=(List.getElem?_eq_some_iff.1 he2).1
      have hpl:stage (fun i=>listed.getD i false) 0 l<l.length:=om
      have hob2:l[stage (fun i=>listed.getD i false) 0 l]?=some (l[stage (fun i=>listed.getD i false) 0 l]'hpl):=List.getElem?_eq_getElem hpl
      obtain⟨q1,q2⟩:=st4 _ om (by rw[Nat.sub_zero]; exact hob2)
      have hpq:stage (fun i=>listed.getD i false) 0 l<q:=by
       rcases Nat.lt_or_ge (stage (fun i=>listed.getD i false) 0 l) q with k | k
       ·exact k
       ·exfalso
        have e9:q=stage (fun i=>listed.getD i false) 0 l:=om
        have h9:listed.getD q false=true:=he1
        rw[e9,q2]at h9; simp at h9
      have hlp:=early_loose hDn hob2 q1 q2 hpq ⟨he1,oq,he2,he3⟩
      refine hal _ q i ao hlp hao hld ?_ ?_
      ·cases hb:bit ms i q with
       | false=>rfl
       | true=>
        have:=hload _ _ i ao hlp hao hld hb
        have:=hready _ (bit_lt this) this
        rw[q2]at this; simp at this
      ·cases hb:bit ms q i with
       | false=>rfl
       | true=>
        have h9:listed.getD i false=true:=hDn q hql he1 i (bit_lt hb) hb
        rw[hmi]at h9; simp at h9
     cases hop':ao.op <;> rw[hop']at hld <;> simp only[isLoad,Bool.false_eq_true]at hld
     case load agg k x=>
      rw[hop']at hH2
      simp only[aop]at hH2 ⊢
      have htc:tchAt l ss T0 i=touch (tsel (fun j=>Nat.blt j (0+i)) 0 l ss T0) ao.op v:=by simp only[tchAt,hao,hss]
      have hfr:oLoad agg k Hx (ev (tsel (fun j=>Nat.blt j (0+i)) 0 l ss T0) x)=oLoad agg k (hAt H0 ss (stage (fun i=>listed.getD i false) 0 l)) (ev (tsel (fun j=>Nat.blt j (0+i)) 0 l ss T0) x):=
       load_frame fun b hb=>hH.base b fun q k1 k2 k3=>hE q k1 k2 b k3 (by rw[htc,hop']; exact blks_mem (List.mem_singleton.2 rfl) hb)
      rw[hfr]
      obtain⟨e1,e2,e3⟩:=vv_other hH2
      exact e3 _
     case claim b z s=>exact absurd hop' (hno ao (List.mem_of_getElem? hao) b z s)
   have hfew:∀d,asideF Prot.dead l (setM (fun i=>listed.getD i false) i) d→asideF Prot.dead l (fun i=>listed.getD i false) d:=by
    rintro d (hd | ⟨i',a',x1,x2,x3⟩)
    ·exact .inl hd
    ·refine .inr ⟨i',a',x1,x2,?_⟩
     simp only[setM]at x3
     split at x3
     ·simp at x3
     ·exact x3
   have hord:(∃ax g,cOp P o.op=some ax∧okDst n o.dst=true∧ao=⟨o.dst,ax,g⟩∧cGuard n ops o.guard=some g)∨(∃c,base≤c∧IsFl P n ops o ao c):=by
    rcases hco with hco | hco
    ·unfold cOper at hco
     split at hco
     ·rename_i ax g hopc hgc
      cases hdst:okDst n o.dst with
      | false=>rw[hdst]at hco; simp at hco
      | true=>
       rw[hdst]at hco
       simp only[cond_true,sJ]at hco
       exact .inl ⟨ax,g,hopc,rfl,hco.symm,hgc⟩
     ·simp at hco
    ·exact .inr hco
   rcases hord with⟨ax,g,hopc,hdst,rfl,hgc⟩ | ⟨cb,hcb,ao',k,lx,g,hopc,hfo,hgc,hdst,rfl⟩
   ·simp only at hgd hop hnext hao hlink hplain hval
    unfold wpOp
    simp only[ho]
    rw[guard_ok ht hgc,hgd]
    have hd':∀u,(a.put o.dst u).defers=ds:=fun u=>by cases hx:o.dst <;> simpa[Act.put] using hd
    cases hc:isChain ax with
    | true=>
     obtain⟨Hy,H3,y1,y2,y3,y4⟩:=hlink hc
     have Ry:=R.ext_heap y1 y2
     unfold astep at y3
     simp only at y3
     cases hgo:gOK (tsel (fun j=>Nat.blt j (0+i)) 0 l ss T0) g with
     | false=>
      rw[hgo]at y3
      simp only[cond_false,sJ,pJ]at y3
      obtain⟨rfl,rfl⟩:=y3
      simp only[Bool.false_eq_true,if_false]
      exact hnext ρ w _ Hy (Pl.le_refl _) y4 (Ry.fewer hfew) (put_rel ht hdst undef_rel) (hd' _)
     | true=>
      rw[hgo]at y3
      simp only[cond_true]at y3
      simp only[if_true]
      left
      rw[← hop]at y3
      split at y3
      ·rename_i u H2 hu
       simp only[sJ,pJ]at y3
       obtain⟨rfl,rfl⟩:=y3
       obtain⟨ρ1,w1,nx,q1,q2,q3,q4⟩:=op_sim htb Ry ht o hopc hu
       simp only[Oper.wp,q2]
       cases nx <;> simp only[NxRel]at q4
       case value u=>exact hnext ρ1 w1 _ _ q1 y4 (q3.fewer hfew) (put_rel (ht.mono q1) hdst q4) (hd' _)
       case skip=>exact hnext ρ1 w1 _ _ q1 y4 (q3.fewer hfew) (put_rel (ht.mono q1) hdst q4) (hd' _)
      ·rename_i f args H2 hu
       obtain⟨ρ1,w1,nx,q1,q2,q3,q4⟩:=op_sim htb Ry ht o hopc hu
       simp only[Oper.wp,q2]
       cases nx <;> simp only[NxRel]at q4
       case enter gf vs=>
        obtain⟨rfl,hbig,q5⟩:=q4
        simp only[Oper.upon]
        refine (hcall _ _ _ _ _ hbig y3 ⟨Prot.prot,asideF Prot.dead l fun i=>listed.getD i false⟩ w0 ρ1 w1 vs q3 q5).mono fun e w' hr=>?_
        obtain⟨ρ2,u,r1,rfl,r3,r4⟩:=hr
        exact hnext ρ2 w' _ _ (Pl.le_trans q1 r1) y4 (r3.fewer hfew) (put_rel ((ht.mono q1).mono r1) hdst r4) (hd' _)
      ·simp at y3
    | false=>
     have y4:=hplain hc
     cases hgo:gOK (tsel (fun j=>Nat.blt j (0+i)) 0 l ss T0) g with
     | false=>
      unfold astep at hstep
      simp only at hstep
      rw[hgo]at hstep
      simp only[cond_false,sJ,pJ]at hstep
      obtain⟨rfl,rfl⟩:=hstep
      simp only[Bool.false_eq_true,if_false]
      exact hnext ρ w _ Hx (Pl.le_refl _) y4 (R.fewer hfew) (put_rel ht hdst undef_rel) (hd' _)
     | true=>
      simp only[if_true]
      left
      have hH2:=hval hc hgo
      rw[← hop]at hH2
      obtain⟨ρ1,w1,nx,q1,q2,q3,q4⟩:=op_sim htb R ht o hopc hH2
      simp only[Oper.wp,q2]
      cases nx <;> simp only[NxRel]at q4
      case value u=>exact hnext ρ1 w1 _ Hx q1 y4 (q3.fewer hfew) (put_rel (ht.mono q1) hdst q4) (hd' _)
      case skip=>exact hnext ρ1 w1 _ Hx q1 y4 (q3.fewer hfew) (put_rel (ht.mono q1) hdst q4) (hd' _)
   ·-- a row,in a block that was laid aside
    simp only at hgd hop hnext hao hlink
    unfold wpOp
    simp only[ho]
    rw[guard_ok ht hgc,hgd]
    have hd':∀u,(a.put o.dst u).defers=ds:=fun u=>by cases hx:o.dst <;> simpa[Act.put] using hd
    obtain⟨Hy,H3,y1,y2,y3,y4⟩:=hlink rfl
    have Ry:=R.ext_heap y1 y2
    unfold astep at y3
    simp only at y3
    cases hgo:gOK (tsel (fun j=>Nat.blt j (0+i)) 0 l ss T0) g with
    | false=>
     rw[hgo]at y3
     simp only[cond_false,sJ,pJ]at y3
     obtain⟨rfl,rfl⟩:=y3
     simp only[Bool.false_eq_true,if_false]
     exact hnext ρ w _ Hy (Pl.le_refl _) y4 (Ry.fewer hfew) (put_rel ht hdst undef_rel) (hd' _)
    | true=>
     rw[hgo]at y3
     simp only[cond_true]at y3
     simp only[if_true]
     left
     rw[← hop]at y3
     simp only[aop,aHf]at y3
     cases hf:aFillB k cb Hy (evs (tsel (fun i=>listed.getD i false) 0 l ss T0) lx) with
     | none=>rw[hf]at y3; simp[vh]at y3
     | some q=>
      obtain⟨u0,H4⟩:=q
      rw[hf]at y3
      simp only[vh,sJ,pJ]at y3
      obtain⟨rfl,rfl⟩:=y3
      obtain⟨ρ1,w1,u,q1,hrun,q3,q4⟩:=fill_run Ry ht hopc hfo (.inr ⟨i,_,hao,rfl,hmi⟩) hf
      simp only[Oper.wp,hrun]
      refine hnext ρ1 w1 _ _ q1 y4 (q3.fewer ?_) (put_rel (ht.mono q1) hdst q4) (hd' _)
      intro d hd0
      refine⟨hfew d hd0,?_⟩
      rintro rfl
      rcases hd0 with hd0 | ⟨i',a',x1,x2,x3⟩
      ·have:=hbase _ hd0; omega
      ·have:=hdis i' i a' _ _ x1 hao x2 rfl
       subst this
       simp[setM]at x3
end
end Go.Abs
namespace Go.Abs
def dO:Option Nat→List Opd
 | some d=>[.t d]
 | none=>[]
def tOps(o:AOper):List Opd:=match o.op with
 | .store _ a _=>[a]
 | .append _ _ s x=>s::x::dO o.dst
 | .hf (.fill ..) _=>dO o.dst
 | .load _ _ x=>[x]
 | _=>[]
def writes(l:List AOper)(c t:Nat):Bool:=match l[c]? with
 | some o=>match o.dst with
  | some d=>Nat.beq d t
  | none=>false
 | none=>false
def stays(l:List AOper)(q:Nat):Opd→Bool
 | .t t=>(List.range l.length).all fun c=>Nat.blt c q||!writes l c t
 | _=>true
def dstStays(l:List AOper)(q:Nat):Option Nat→Bool
 | some d=>(List.range l.length).all fun c=>Nat.ble c q||!writes l c d
 | none=>false
def okStay(l:List AOper)(q:Nat):Bool:=match l[q]? with
 | some o=>match o.op with
  | .store _ a _=>stays l q a
  | .append _ _ s x=>stays l q s&&(stays l q x&&dstStays l q o.dst)
  | .hf (.fill ..) _=>dstStays l q o.dst
  | .load _ _ x=>stays l q x
  | _=>true
 | none=>true
def okStays(l:List AOper):Bool:=(List.range l.length).all (okStay l)
def pairsM(l:List AOper)(j i:Nat):List (Opd×Opd):=match l[j]?,l[i]? with
 | some b,some a=>(tOps b).flatMap fun y=>(tOps a).map fun x=>(y,x)
 | _,_=>[]
def looseLoad(l:List AOper)(ms:List Nat)(j k:Nat):Bool:=match l[k]? with
 | some o=>isLoad o.op&&(!bit ms k j&&!bit ms j k)
 | none=>false
def checksM(l:List AOper)(ms:List Nat):List (Opd×Opd):=
 (List.range l.length).flatMap fun j=>(List.range j).flatMap fun i=>bif looseP l ms i j then
  pairsM l j i++(List.range l.length).flatMap fun k=>bif looseLoad l ms j k then pairsM l j k else [] else []
def checkOp(p:Opd×Opd):AOper:=⟨none,.pf .apart [p.1,p.2],none⟩
section
variable {tb:FuncId→Bool} {call:FuncId→List AVal→AHeap→Option (AVal×AHeap)} {l:List AOper} {ms:List Nat} {T0:Tr AVal} {H0:AHeap} {ss:List (AVal×AHeap)}
theorem writes_of{c t:Nat}{o:AOper}(h:l[c]?=some o)(hd:o.dst=some t):writes l c t=true:=by
 unfold writes; simp only[h,hd]; exact Nat.beq_refl t
theorem stays_ev{q:Nat}{x:Opd}(h:stays l q x=true):ev (tsel (fun _=>true) 0 l ss T0) x=ev (tsel (fun i=>Nat.blt i (0+q)) 0 l ss T0) x:=by
 cases x with
 | t t=>
  simp only[ev]
  rw[tsel_get l ss 0 T0 T0 rfl fun c o hc hd=>?_]
  simp only[stays]at h
  rw[List.all_eq_true]at h
  have:=h c (List.mem_range.2 (List.getElem?_eq_some_iff.1 hc).1)
  rw[writes_of hc hd]at this
  simp only[Bool.not_true,Bool.or_false]at this
  simp only[Nat.zero_add]
  exact this.symm
 | _=>rfl
theorem dst_ev{q d:Nat}{o:AOper}{v:AVal}{H':AHeap}(hq:l[q]?=some o)(hs:ss[q]?=some (v,H'))(hd:o.dst=some d)(h:dstStays l q o.dst=true):ev (tsel (fun _=>true) 0 l ss T0) (.t d)=v:=by
 rw[hd]at h
 simp only[dstStays]at h
 rw[List.all_eq_true]at h
 have hn:∀c oc,q<c→l[c]?=some oc→oc.dst=some d→False:=by
  intro c oc hc h1 h2
  have:=h c (List.mem_range.2 (List.getElem?_eq_some_iff.1 h1).1)
  rw[writes_of h1 h2]at this
  simp only[Bool.not_true,Bool.or_false]at this
  have:=Nat.le_of_ble_eq_true this
  omega
 have e:(tsel (fun _=>true) 0 l ss T0).get d=some v:=by
  have e1:=tsel_last (m:=fun i=>Nat.ble i q) l ss 0 q T0 o v H' hq hs hd (by simp only[Nat.zero_add]; exact Nat.ble_eq_true_of_le (Nat.le_refl q)) fun i o' h1 h2 h3=>(hn i o' h1 h2 h3).elim
  rw[← e1]
  refine tsel_get l ss 0 T0 T0 rfl fun c oc hc hdc=>?_
  simp only[Nat.zero_add]
  rcases Nat.lt_or_ge q c with k | k
  ·exact (hn c oc k hc hdc).elim
  ·exact (Nat.ble_eq_true_of_le k).symm
 simp only[ev,e]
theorem tch_ops(htr:atrace tb call l T0 H0=some ss)(hok:okStays l=true){q:Nat}{o:AOper}(hq:l[q]?=some o){b:Nat}(hb:b∈tchAt l ss T0 q):∃x∈tOps o,blkOf (ev (tsel (fun _=>true) 0 l ss T0) x)=some b:=by
 obtain⟨_,hat⟩:=trace_at l T0 H0 ss 0 htr
 obtain⟨v,H1,hs,hs0⟩:=hat q o hq
 clear hs0 hat
 simp only[tchAt,hq,hs]at hb
 have hst:okStay l q=true:=by
  unfold okStays at hok
  rw[List.all_eq_true]at hok
  exact hok q (List.mem_range.2 (List.getElem?_eq_some_iff.1 hq).1)
 unfold okStay at hst
 rw[hq]at hst
 obtain⟨d,op,g⟩:=o
 have hdst:dstStays l q d=true→∃d',d=some d'∧ev (tsel (fun _=>true) 0 l ss T0) (.t d')=v:=by
  intro h
  cases d with
  | none=>simp[dstStays]at h
  | some d'=>exact⟨d',rfl,dst_ev (o:=⟨some d',op,g⟩) hq hs rfl h⟩
 cases op <;> simp only[touch,List.not_mem_nil]at hb
 case store n a x=>
  obtain⟨y,h1,h2⟩:=mem_blks hb
  obtain rfl:=List.mem_singleton.1 h1
  exact⟨a,by simp[tOps],by rw[stays_ev hst]; exact h2⟩
 case load n a x=>
  obtain⟨y,h1,h2⟩:=mem_blks hb
  obtain rfl:=List.mem_singleton.1 h1
  exact⟨x,by simp[tOps],by rw[stays_ev hst]; exact h2⟩
 case append n k s x=>
  simp only[Bool.and_eq_true]at hst
  obtain⟨d',hd1,hd2⟩:=hdst hst.2.2
  obtain⟨y,h1,h2⟩:=mem_blks hb
  simp only[List.mem_cons,List.not_mem_nil,or_false]at h1
  rcases h1 with rfl | rfl | rfl
  ·exact⟨s,by simp[tOps],by rw[stays_ev hst.1]; exact h2⟩
  ·exact⟨x,by simp[tOps],by rw[stays_ev hst.2.1]; exact h2⟩
  ·exact⟨.t d',by simp[tOps,hd1,dO],by rw[hd2]; exact h2⟩
 case hf f xs=>
  cases f <;> first | (simp only[List.not_mem_nil]at hb; done) | skip
  obtain⟨d',hd1,hd2⟩:=hdst hst
  obtain⟨y,h1,h2⟩:=mem_blks hb
  obtain rfl:=List.mem_singleton.1 h1
  exact⟨.t d',by simp[tOps,hd1,dO],by rw[hd2]; exact h2⟩
theorem pairs_mem{i j:Nat}{a b:AOper}(hi:l[i]?=some a)(hj:l[j]?=some b){x y:Opd}(hx:x∈tOps a)(hy:y∈tOps b):(y,x)∈pairsM l j i:=by
 unfold pairsM
 rw[hi,hj]
 simp only[List.mem_flatMap,List.mem_map]
 exact⟨y,hy,x,hx,rfl⟩
theorem apB_no{x y:AVal}{b:Nat}(h:apB y x=true)(hx:blkOf x=some b)(hy:blkOf y=some b):False:=by
 unfold apB at h
 rw[hx,hy]at h
 simp[Nat.beq_refl]at h
theorem hap_of(htr:atrace tb call l T0 H0=some ss)(hok:okStays l=true)(hck:∀p∈checksM l ms,apB (ev (tsel (fun _=>true) 0 l ss T0) p.1) (ev (tsel (fun _=>true) 0 l ss T0) p.2)=true) :
  (∀i j,looseP l ms i j=true→∀x∈tchAt l ss T0 j,x∉tchAt l ss T0 i) ∧
  ∀i j k o,looseP l ms i j=true→l[k]?=some o→isLoad o.op=true→bit ms k j=false→bit ms j k=false→∀x∈tchAt l ss T0 j,x∉tchAt l ss T0 k:=by
 have hl:∀i j,looseP l ms i j=true→∃a b,l[i]?=some a∧l[j]?=some b∧i<j:=by
  intro i j h
  unfold looseP at h
  split at h
  ·rename_i a b hi hj
   simp only[Bool.and_eq_true]at h
   exact⟨a,b,hi,hj,Nat.le_of_ble_eq_true h.1⟩
  ·simp at h
 constructor
 ·intro i j h x hx hx'
  obtain⟨a,b,hi,hj,hij⟩:=hl i j h
  obtain⟨y,y1,y2⟩:=tch_ops htr hok hj hx
  obtain⟨z,z1,z2⟩:=tch_ops htr hok hi hx'
  refine apB_no (hck (y,z) ?_) z2 y2
  unfold checksM
  rw[List.mem_flatMap]
  refine⟨j,List.mem_range.2 (List.getElem?_eq_some_iff.1 hj).1,?_⟩
  rw[List.mem_flatMap]
  refine⟨i,List.mem_range.2 hij,?_⟩
  rw[h,cond_true,List.mem_append]
  exact .inl (pairs_mem hi hj z1 y1)
 ·intro i j k o h hk hld h1 h2 x hx hx'
  obtain⟨a,b,hi,hj,hij⟩:=hl i j h
  obtain⟨y,y1,y2⟩:=tch_ops htr hok hj hx
  obtain⟨z,z1,z2⟩:=tch_ops htr hok hk hx'
  refine apB_no (hck (y,z) ?_) z2 y2
  unfold checksM
  rw[List.mem_flatMap]
  refine⟨j,List.mem_range.2 (List.getElem?_eq_some_iff.1 hj).1,?_⟩
  rw[List.mem_flatMap]
  refine⟨i,List.mem_range.2 hij,?_⟩
  rw[h,cond_true,List.mem_append,List.mem_flatMap]
  refine .inr ⟨k,List.mem_range.2 (List.getElem?_eq_some_iff.1 hk).1,?_⟩
  have:looseLoad l ms j k=true:=by unfold looseLoad; rw[hk]; simp[hld,h1,h2]
  rw[this,cond_true]
  exact pairs_mem hk hj z1 y1
end
theorem fillB_no{o:AOp}(h:isFill o=false):fillB o=none:=by
 unfold fillB
 split
 ·simp[isFill]at h
 ·rfl
def toFill(o:AOper):AOper:=match fillOf o.op with
 | some (k,xs)=>⟨o.dst,.hf (.fill 0 k) xs,o.guard⟩
 | none=>o
theorem newOf_no{o:AOp}(h:isFill o=false)(hf:fillOf o=none):newOf o=none:=by
 unfold newOf
 split
 ·simp[fillOf]at hf
 ·simp[fillOf]at hf
 ·simp[isFill]at h
 ·simp[fillOf]at hf
 ·rfl
theorem fills_step(b:Nat)(o:AOper)(r:List AOper)(hi:isFill o.op=false):(∃k xs,fillOf o.op=some (k,xs)∧claims b ((o::r).map toFill)=⟨o.dst,.hf (.fill b k) xs,o.guard⟩::claims (b+1) (r.map toFill) ∧
  ∀H,reserves H ((o::r).map toFill)=reserves (H.push (.cells [] 0 false)) (r.map toFill)) ∨
  (fillOf o.op=none∧claims b ((o::r).map toFill)=o::claims b (r.map toFill)∧∀H,reserves H ((o::r).map toFill)=reserves H (r.map toFill)):=by
 cases h:fillOf o.op with
 | some p=>
  obtain⟨k,xs⟩:=p
  exact .inl ⟨k,xs,rfl,by simp only[List.map_cons,toFill,h,claims,newOf,clOp],fun H=>by simp only[List.map_cons,toFill,h,reserves,newOf]; rfl⟩
 | none=>
  have hn:=newOf_no hi h
  exact .inr ⟨rfl,by simp only[List.map_cons,toFill,h,claims,hn],fun H=>by simp only[List.map_cons,toFill,h,reserves,hn]⟩
theorem fills_at{P:Program}{n:Nat}{ops:Array Oper}:∀{rest:List Oper} {l:List AOper},cOpers P n ops rest=some l→∀b,(claims b (l.map toFill)).length=rest.length ∧
  ∀(j:Nat) (o:Oper),rest[j]?=some o→∃a,(claims b (l.map toFill))[j]?=some a∧(cOper P n ops o=some a∨∃c,b≤c∧IsFl P n ops o a c):=by
 intro rest
 induction rest with
 | nil=>intro l h b; simp only[cOpers,sJ]at h; subst h; exact⟨rfl,fun j o h=>by simp at h⟩
 | cons o r ih=>
  intro l h b
  have hno:=opers_noFl h
  simp only[cOpers]at h
  split at h
  ·rename_i a l' ha hl'
   simp only[sJ]at h
   subst h
   have key:∀(x:AOper) (b':Nat),b≤b'→(cOper P n ops o=some x∨∃c,b≤c∧IsFl P n ops o x c)→claims b ((a::l').map toFill)=x::claims b' (l'.map toFill) →
     (claims b ((a::l').map toFill)).length=(o::r).length∧∀(j:Nat) (o':Oper),(o::r)[j]?=some o'→∃a',(claims b ((a::l').map toFill))[j]?=some a'∧(cOper P n ops o'=some a'∨∃c,b≤c∧IsFl P n ops o' a' c):=by
    intro x b' hb hx he
    rw[he]
    obtain⟨i1,i2⟩:=ih hl' b'
    refine⟨by simp[i1],fun j o' hj=>?_⟩
    cases j with
    | zero=>simp at hj; subst hj; exact⟨x,by simp,hx⟩
    | succ j=>
     simp at hj
     obtain⟨a',h1,h2⟩:=i2 j o' hj
     refine⟨a',by simpa using h1,?_⟩
     rcases h2 with h2 | ⟨c,h2,h3⟩
     ·exact .inl h2
     ·exact .inr ⟨c,om,h3⟩
   rcases fills_step b a l' (hno a (List.mem_cons_self ..)) with⟨k,xs,hf,e,_⟩ | ⟨_,e,_⟩
   ·refine key _ (b+1) om ?_ e
    unfold cOper at ha
    split at ha
    ·rename_i ax g hopc hg
     cases hdst:okDst n o.dst with
     | false=>rw[hdst]at ha; simp at ha
     | true=>
      rw[hdst]at ha
      simp only[cond_true,sJ]at ha
      subst ha
      exact .inr ⟨b,Nat.le_refl _,ax,k,xs,g,hopc,hf,hg,hdst,rfl⟩
    ·simp at ha
   ·exact key a b rL (.inl ha) e
  ·simp at h
theorem fills_noCl:∀(l:List AOper) (b:Nat),NoClaim l→NoCl (claims b (l.map toFill))
 | [],b,_=>by intro a ha; simp[claims]at ha
 | o::r,b,hn=>by
  rcases fills_step b o r (hn.2 o (List.mem_cons_self ..)) with⟨k,xs,_,e,_⟩ | ⟨_,e,_⟩
  ·rw[e]
   intro a ha
   rcases List.mem_cons.1 ha with rfl | ha
   ·intro c z s h; simp at h
   ·exact fills_noCl r _ hn.tail a ha
  ·rw[e]
   intro a ha
   rcases List.mem_cons.1 ha with rfl | ha
   ·exact hn.1 _ (List.mem_cons_self ..)
   ·exact fills_noCl r _ hn.tail a ha
theorem fills_ge:∀(l:List AOper) (b:Nat),NoClaim l→∀(i:Nat) (a:AOper) (c:Nat),(claims b (l.map toFill))[i]?=some a→fillB a.op=some c→b≤c
 | [],b,_,i,a,c,h,_=>by simp[claims]at h
 | o::r,b,hn,i,a,c,h,hc=>by
  rcases fills_step b o r (hn.2 o (List.mem_cons_self ..)) with⟨k,xs,_,e,_⟩ | ⟨_,e,_⟩
  ·rw[e]at h
   cases i with
   | zero=>
    simp only[List.getElem?_cons_zero,sJ]at h
    subst h
    simp only[fillB,sJ]at hc
    omega
   | succ i=>
    simp only[List.getElem?_cons_succ]at h
    have:=fills_ge r (b+1) hn.tail i a c h hc
    omega
  ·rw[e]at h
   cases i with
   | zero=>
    simp only[List.getElem?_cons_zero,sJ]at h
    subst h
    rw[fillB_no (hn.2 o (List.mem_cons_self ..))]at hc
    simp at hc
   | succ i=>
    simp only[List.getElem?_cons_succ]at h
    exact fills_ge r b hn.tail i a c h hc
theorem fills_inj:∀(l:List AOper) (b:Nat),NoClaim l→∀(i j:Nat) (a a':AOper) (c:Nat),(claims b (l.map toFill))[i]?=some a→(claims b (l.map toFill))[j]?=some a'→fillB a.op=some c→fillB a'.op=some c→i=j
 | [],b,_,i,j,a,a',c,h,_,_,_=>by simp[claims]at h
 | o::r,b,hn,i,j,a,a',c,h,k,hc,kc=>by
  rcases fills_step b o r (hn.2 o (List.mem_cons_self ..)) with⟨kk,xs,_,e,_⟩ | ⟨_,e,_⟩
  ·rw[e]at h k
   cases i with
   | zero=>
    cases j with
    | zero=>rfl
    | succ j=>
     simp only[List.getElem?_cons_zero,sJ,List.getElem?_cons_succ]at h k
     subst h
     simp only[fillB,sJ]at hc
     have:=fills_ge r (b+1) hn.tail j a' c k kc
     omega
   | succ i=>
    cases j with
    | zero=>
     simp only[List.getElem?_cons_zero,sJ,List.getElem?_cons_succ]at h k
     subst k
     simp only[fillB,sJ]at kc
     have:=fills_ge r (b+1) hn.tail i a c h hc
     omega
    | succ j=>
     simp only[List.getElem?_cons_succ]at h k
     rw[fills_inj r (b+1) hn.tail i j a a' c h k hc kc]
  ·rw[e]at h k
   cases i with
   | zero=>
    simp only[List.getElem?_cons_zero,sJ]at h
    subst h
    rw[fillB_no (hn.2 o (List.mem_cons_self ..))]at hc
    simp at hc
   | succ i=>
    cases j with
    | zero=>
     simp only[List.getElem?_cons_zero,sJ]at k
     subst k
     rw[fillB_no (hn.2 o (List.mem_cons_self ..))]at kc
     simp at kc
    | succ j=>
     simp only[List.getElem?_cons_succ]at h k
     rw[fills_inj r b hn.tail i j a a' c h k hc kc]
theorem fills_rel{w0:World}{ρ:Pl}{w:World}{pr:Nat→Prop}:∀(l:List AOper) (D:Nat→Prop) (H:AHeap),NoClaim l→Rel ⟨pr,D⟩ w0 ρ H w→Rel ⟨pr,asideF D (claims H.next (l.map toFill)) fun _=>false⟩ w0 ρ (reserves H (l.map toFill)) w
 | [],D,H,_,R=>R.fewer (D:=asideF D [] fun _=>false) fun d hd=>by
  rcases hd with hd | ⟨i,a,h,_⟩
  ·exact hd
  ·simp at h
 | o::r,D,H,hn,R=>by
  rcases fills_step H.next o r (hn.2 o (List.mem_cons_self ..)) with⟨kk,xs,_,e,f⟩ | ⟨_,e,f⟩
  ·rw[e,f]
   have:=fills_rel r _ _ hn.tail (R.reserve (.cells [] 0 false) rfl)
   refine Rel.fewer this fun d hd=>?_
   rcases hd with hd | ⟨i,a,h,k,_⟩
   ·exact .inl (.inl hd)
   ·cases i with
    | zero=>
     simp only[List.getElem?_cons_zero,sJ]at h
     subst h
     simp only[fillB,sJ]at k
     exact .inl (.inr k.symm)
    | succ i=>
     simp only[List.getElem?_cons_succ]at h
     exact .inr ⟨i,a,h,k,rfl⟩
  ·rw[e,f]
   have:=fills_rel r _ _ hn.tail R
   refine Rel.fewer this fun d hd=>?_
   rcases hd with hd | ⟨i,a,h,k,_⟩
   ·exact .inl hd
   ·cases i with
    | zero=>
     simp only[List.getElem?_cons_zero,sJ]at h
     subst h
     rw[fillB_no (hn.2 o (List.mem_cons_self ..))]at k
     simp at k
    | succ i=>
     simp only[List.getElem?_cons_succ]at h
     exact .inr ⟨i,a,h,k,rfl⟩
def normO(o:AOper):AOper:=match o.op with
 | .hf (.fill _ k) xs=>⟨o.dst,.hf (.fill 0 k) xs,o.guard⟩
 | _=>o
theorem normO_cases(o:AOper):normO o=o∨∃b k xs,o.op=.hf (.fill b k) xs∧normO o=⟨o.dst,.hf (.fill 0 k) xs,o.guard⟩:=by
 obtain⟨d,op,g⟩:=o
 unfold normO
 simp only
 split
 ·exact .inr ⟨_,_,_,rfl,rfl⟩
 ·exact .inl rfl
structure SameN(a b:AOper):Prop where
 dst:a.dst=b.dst
 guard:a.guard=b.guard
 chain:isChain a.op=isChain b.op
 load:isLoad a.op=isLoad b.op
 reads:readsO a=readsO b
 mov:isMov a.op=isMov b.op
 tch:isTch a.op=isTch b.op
 tops:tOps a=tOps b
theorem norm_same(o:AOper):SameN (normO o) o:=by
 rcases normO_cases o with e | ⟨b,k,xs,h,e⟩
 ·rw[e]; exact⟨rfl,rfl,rfl,rfl,rfl,rfl,rfl,rfl⟩
 ·rw[e]
  obtain⟨d,op,g⟩:=o
  simp only at h
  subst h
  exact⟨rfl,rfl,rfl,rfl,rfl,rfl,rfl,rfl⟩
theorem claims_norm:∀(l:List AOper) (b c:Nat),(∀o∈l,newOf o.op=none∨isFill o.op=true)→(claims b l).map normO=(claims c l).map normO
 | [],b,c,_=>rfl
 | o::r,b,c,h=>by
  have hr:∀o∈r,newOf o.op=none∨isFill o.op=true:=fun x hx=>h x (List.mem_cons_of_mem _ hx)
  cases hz:newOf o.op with
  | none=>simp only[claims,hz,List.map_cons,claims_norm r b c hr]
  | some p=>
   obtain⟨z,s⟩:=p
   have hfl:isFill o.op=true:=by
    rcases h o (List.mem_cons_self ..) with h | h
    ·rw[hz]at h; simp at h
    ·exact h
   simp only[claims,hz,List.map_cons]
   congr 1
   ·obtain⟨d,op,g⟩:=o
    simp only at hfl
    unfold isFill at hfl
    split at hfl
    ·rfl
    ·simp at hfl
   ·exact claims_norm r _ _ hr
theorem get_norm(l:List AOper)(i:Nat):(l.map normO)[i]?=(l[i]?).map normO:=List.getElem?_map ..
theorem okPairsM_norm(l:List AOper)(ms:List Nat):okPairsM (l.map normO) ms=okPairsM l ms:=by
 unfold okPairsM
 rw[List.length_map]
 congr 1
 funext j
 rw[get_norm]
 cases l[j]? with
 | none=>rfl
 | some b=>
  simp only[Option.map_some]
  congr 1
  funext i
  rw[get_norm]
  cases l[i]? with
  | none=>rfl
  | some a=>
   have A:=norm_same a; have B:=norm_same b
   simp only[Option.map_some,okPairM,disj,A.dst,B.dst,A.reads,B.reads,A.chain,B.chain,B.mov,A.tch,A.guard,B.guard]
theorem looseP_norm(l:List AOper)(ms:List Nat)(i j:Nat):looseP (l.map normO) ms i j=looseP l ms i j:=by
 unfold looseP
 rw[get_norm,get_norm]
 cases l[i]? with
 | none=>cases l[j]? <;> rfl
 | some a=>cases l[j]? with
  | none=>rfl
  | some b=>simp only[Option.map_some,(norm_same a).chain,(norm_same b).chain]
theorem okLoadsM_norm(l:List AOper)(ms:List Nat):okLoadsM (l.map normO) ms=okLoadsM l ms:=by
 unfold okLoadsM
 rw[List.length_map]
 congr 1
 funext j
 congr 1
 funext i
 rw[looseP_norm]
 congr 2
 funext k
 rw[get_norm]
 cases l[k]? with
 | none=>rfl
 | some o=>simp only[Option.map_some,(norm_same o).load]
theorem writes_norm(l:List AOper)(c t:Nat):writes (l.map normO) c t=writes l c t:=by
 unfold writes
 rw[get_norm]
 cases l[c]? with
 | none=>rfl
 | some o=>simp only[Option.map_some,(norm_same o).dst]
theorem stays_norm(l:List AOper)(q:Nat)(x:Opd):stays (l.map normO) q x=stays l q x:=by
 cases x <;> first | rfl | skip
 simp only[stays,List.length_map,writes_norm]
theorem dstStays_norm(l:List AOper)(q:Nat)(d:Option Nat):dstStays (l.map normO) q d=dstStays l q d:=by
 cases d <;> first | rfl | skip
 simp only[dstStays,List.length_map,writes_norm]
theorem okStays_norm(l:List AOper):okStays (l.map normO)=okStays l:=by
 unfold okStays
 rw[List.length_map]
 congr 1
 funext q
 unfold okStay
 rw[get_norm]
 cases l[q]? with
 | none=>rfl
 | some o=>
  simp only[Option.map_some]
  rcases normO_cases o with e | ⟨b,k,xs,h,e⟩
  ·rw[e]
   simp only[stays_norm,dstStays_norm]
  ·rw[e]
   simp only[h,dstStays_norm]
theorem pairsM_norm(l:List AOper)(j i:Nat):pairsM (l.map normO) j i=pairsM l j i:=by
 unfold pairsM
 rw[get_norm,get_norm]
 cases l[j]? with
 | none=>cases l[i]? <;> rfl
 | some b=>cases l[i]? with
  | none=>rfl
  | some a=>simp only[Option.map_some,(norm_same a).tops,(norm_same b).tops]
theorem looseLoad_norm(l:List AOper)(ms:List Nat)(j k:Nat):looseLoad (l.map normO) ms j k=looseLoad l ms j k:=by
 unfold looseLoad
 rw[get_norm]
 cases l[k]? with
 | none=>rfl
 | some o=>simp only[Option.map_some,(norm_same o).load]
theorem checksM_norm(l:List AOper)(ms:List Nat):checksM (l.map normO) ms=checksM l ms:=by
 unfold checksM
 simp only[List.length_map,looseP_norm,pairsM_norm,looseLoad_norm]
theorem fills_mem{l:List AOper}(hn:NoClaim l):∀o∈l.map toFill,newOf o.op=none∨isFill o.op=true:=by
 intro o ho
 obtain⟨a,ha,rfl⟩:=List.mem_map.1 ho
 unfold toFill
 cases h:fillOf a.op with
 | some p=>exact .inr rfl
 | none=>exact .inl (newOf_no (hn.2 a ha) h)
end Go.Abs
namespace Go.Abs
inductive ACode where
 | skip
 | reg (ops:List AOper)
 | draw (ops:List AOper) (chk:List (List Nat))
 | seq (a b:ACode)
 | cond (c:Opd) (a b:ACode)
 | block (id:Nat) (c:ACode)
 | loop (c:ACode)
 | exit (id:Nat)
 | ret
inductive AEx where
 | normal
 | exit (id:Nat)
 | ret
inductive ARes where
 | t (i:Nat)
 | cell (agg:Bool) (size:Nat) (i:Nat)
structure AFn where
 nt:Nat
 body:ACode
 res:List ARes
section
variable (tb:FuncId→Bool) (call:FuncId→List AVal→AHeap→Option (AVal×AHeap))
def aregs:List AOper→Tr AVal→AHeap→Option (Tr AVal×AHeap)
 | [],T,H=>some (T,H)
 | o::r,T,H=>bif gOK T o.guard then
   match aop tb T H o.op with
   | some (.val v,H')=>aregs r (aput T o.dst v) H'
   | some (.enter f args,H')=>match call f args H' with
    | some (v,H'')=>aregs r (aput T o.dst v) H''
    | none=>none
   | none=>none
  else aregs r (aput T o.dst undefA) H
def aloop(body:Tr AVal→AHeap→Option (AEx×Tr AVal×AHeap)):Nat→Tr AVal→AHeap→Option (AEx×Tr AVal×AHeap)
 | 0,_,_=>none
 | n+1,T,H=>match body T H with
  | some (.normal,T',H')=>aloop body n T' H'
  | some (e,T',H')=>some (e,T',H')
  | none=>none
def adraw(ops:List AOper)(chk:List (List Nat))(T:Tr AVal)(H:AHeap):Option (AEx×Tr AVal×AHeap):=
 match atrace tb call ops T H with
 | some ss=>bif chkRun tb (H::ss.map (·.2)) ops chk ss T then some (.normal,tsel (fun _=>true) 0 ops ss T,hAt H ss ops.length) else none
 | none=>none
def aexec(k:Nat):ACode→Tr AVal→AHeap→Option (AEx×Tr AVal×AHeap)
 | .skip,T,H=>some (.normal,T,H)
 | .reg ops,T,H=>match aregs tb call ops T H with
  | some (T',H')=>some (.normal,T',H')
  | none=>none
 | .draw ops chk,T,H=>adraw tb call (claims H.next ops) chk T (reserves H ops)
 | .seq a b,T,H=>match aexec k a T H with
  | some (.normal,T',H')=>aexec k b T' H'
  | some (e,T',H')=>some (e,T',H')
  | none=>none
 | .cond c a b,T,H=>match ev T c with
  | .bool true=>aexec k a T H
  | .bool false=>aexec k b T H
  | _=>none
 | .block id c,T,H=>match aexec k c T H with
  | some (.exit j,T',H')=>bif Nat.beq j id then some (.normal,T',H') else some (.exit j,T',H')
  | some (e,T',H')=>some (e,T',H')
  | none=>none
 | .loop c,T,H=>aloop (aexec k c) k T H
 | .exit id,T,H=>some (.exit id,T,H)
 | .ret,T,H=>some (.ret,T,H)
end
def ares(T:Tr AVal)(H:AHeap):List ARes→Option (List AVal)
 | []=>some []
 | .t i::r=>match ares T H r with
  | some l=>some (ev T (.t i)::l)
  | none=>none
 | .cell g n i::r=>match oLoad g n H (ev T (.t i)),ares T H r with
  | some x,some l=>some (x::l)
  | _,_=>none
def aresV:List AVal→AVal
 | [x]=>x
 | l=>.tuple l
def putArgs:List AVal→Nat→Tr AVal→Tr AVal
 | [],_,T=>T
 | x::r,i,T=>putArgs r (i+1) (T.set i x)
structure PMd where
 ps:List Nat
 df:Option (Nat×Nat×Bool)
structure ANat where
 is:FuncId→Bool
 run:FuncId→List AVal→AHeap→Option (AVal×AHeap)
 md:Nat→Option PMd
def tbA(N:ANat)(A:Tr AFn):FuncId→Bool:=fun f=>bif N.is f then true else match A.get f with | some _=>true | none=>false
def acall(N:ANat)(tab:Tr AFn):Nat→FuncId→List AVal→AHeap→Option (AVal×AHeap)
 | 0,_,_,_=>none
 | n+1,f,args,H=>bif N.is f then N.run f args H else match tab.get f with
  | some fn=>bif Nat.ble args.length fn.nt then
    match aexec (tbA N tab) (acall N tab n) n fn.body (putArgs args 0 .e) H with
    | some (.exit _,_,_)=>none
    | some (_,T,H')=>match ares T H' fn.res with
     | some l=>some (aresV l,H')
     | none=>none
    | none=>none
   else none
  | none=>none
section
variable (P:Program)
def stuckC:ACode:=.reg [⟨none,.bad,none⟩]
def cDrawM(es:List (List Nat))(l:List AOper)(ms:List Nat):ACode:=
 bif okMask es ms&&(okPairsM (claims 0 (l.map toFill)) ms&&(okLoadsM (claims 0 (l.map toFill)) ms&&okStays (claims 0 (l.map toFill)))) then
  .seq (.draw (l.map toFill) ((List.range l.length).map (chkOf (claims 0 (l.map toFill)) ms))) (.reg ((checksM (claims 0 (l.map toFill)) ms).map checkOp)) else stuckC
def cCode(n:Nat):Code→Option ACode
 | .skip=>some .skip
 | .region _ ops false=>match cOpers P n ops ops.toList with
  | some l=>some (.reg l)
  | none=>none
 | .region _ ops true=>match cOpers P n ops ops.toList with
  | some l=>bif okMask (ops.toList.map bindE) (masksGo [] (ops.toList.map bindE))&&okPairs (claims 0 l) (masksGo [] (ops.toList.map bindE)) then
    some (.draw l ((List.range l.length).map (chkOf (claims 0 l) (masksGo [] (ops.toList.map bindE))))) else some (cDrawM (ops.toList.map bindE) l (masksGo [] (ops.toList.map bindE)))
  | none=>none
 | .seq a b=>match cCode n a,cCode n b with
  | some a,some b=>some (.seq a b)
  | _,_=>none
 | .cond c a b=>match cOpd c,cCode n a,cCode n b with
  | some c,some a,some b=>some (.cond c a b)
  | _,_,_=>none
 | .block id c=>match cCode n c with
  | some c=>some (.block id c)
  | none=>none
 | .loop c=>match cCode n c with
  | some c=>some (.loop c)
  | none=>none
 | .exit id=>some (.exit id)
 | .ret=>some .ret
 | _=>some stuckC
def cRes:List ResultVar→Option (List ARes)
 | []=>some []
 | .tmp t::r=>match cRes r with
  | some l=>some (.t t::l)
  | none=>none
 | .cell a t::r=>match tyOf P t,cRes r with
  | some (g,n),some l=>some (.cell g n a::l)
  | _,_=>none
def cFn(f:FuncId):Option AFn:=
 match P.funcs[f]? with
 | some fn=>match fn.body with
  | some c => bif fn.name == "runtime.NumGoroutine" then none else
   match cCode P fn.ntmps c,cRes P fn.results.toList with
   | some b,some r=>some ⟨fn.ntmps,b,r⟩
   | _,_=>none
  | none=>none
 | none=>none
end
section
variable {P:Program} {Prot:Gh} {w0:World} {ρ:Pl} {H H':AHeap} {w:World}
def SimQ(P:Program)(Prot:Gh)(w0:World)(ds:List Deferred)(ρ:Pl)(n:Nat)(e:AEx)(T:Tr AVal)(H:AHeap):Exit→Act→World→Prop:=fun e' a w=>
 (match e with | .normal=>e'=.normal | .exit id=>e'=.exit id | .ret=>e'=.ret)∧∃ρ',ρ.le ρ'∧Rel Prot w0 ρ' H w∧TmpsRel ρ' n T a.tmps∧a.defers=ds
theorem regs_sim{tb:FuncId→Bool}(htb:∀f,Nat.blt f BIG=true→tb f=true→hasBody P f=true){call:FuncId→List AVal→AHeap→Option (AVal×AHeap)}(hcall:CallOK P call){ds:List Deferred}{n:Nat}{ops:Array Oper}{Q:Exit→Act→World→Prop} :
  ∀(rest:List Oper) (i:Nat) (l:List AOper),(∀j,rest[j]?=ops[i+j]?)→cOpers P n ops rest=some l→∀(ρ0 ρ:Pl) (T T':Tr AVal) (H H':AHeap) (a:Act) (w:World),ρ0.le ρ →
   Rel Prot w0 ρ H w→TmpsRel ρ n T a.tmps→a.defers=ds→aregs tb call l T H=some (T',H') →
   (∀a' w',(∃ρ',ρ0.le ρ'∧Rel Prot w0 ρ' H' w'∧TmpsRel ρ' n T' a'.tmps∧a'.defers=ds)→Q .normal a' w')→wpOps P ops Q (List.range' i rest.length) a w:=by
 intro rest
 induction rest with
 | nil=>
  intro i l _ hc ρ0 ρ T T' H H' a w hle R ht hd h hQ
  simp only[cOpers,sJ]at hc
  subst hc
  simp only[aregs,sJ,pJ]at h
  obtain⟨rfl,rfl⟩:=h
  exact hQ a w ⟨ρ,hle,R,ht,hd⟩
 | cons o rest ih=>
  intro i l hi hc ρ0 ρ T T' H H' a w hle R ht hd h hQ
  simp only[cOpers]at hc
  split at hc
  ·rename_i ao l' ha hl
   simp only[sJ]at hc
   subst hc
   have ho:ops[i]?=some o:=by have:=hi 0; simpa using this.symm
   have hnext:∀j,rest[j]?=ops[i+1+j]?:=fun j=>by have:=hi (j+1); simp only[List.getElem?_cons_succ]at this; rw[this]; congr 1; omega
   unfold cOper at ha
   split at ha
   ·rename_i ax g hop hg
    cases hdst:okDst n o.dst with
    | false=>rw[hdst]at ha; simp at ha
    | true=>
     rw[hdst]at ha
     simp only[cond_true,sJ]at ha
     subst ha
     simp only[List.length_cons,List.range'_succ,wpOps,ho]
     simp only[aregs]at h
     rw[guard_ok ht hg]
     cases hgo:gOK T g with
     | false=>
      rw[hgo]at h
      simp only[cond_false]at h
      simp only[Bool.false_eq_true,if_false]
      refine ih (i+1) l' hnext hl ρ0 ρ _ _ _ _ _ _ hle R (put_rel ht hdst undef_rel) ?_ h hQ
      cases hx:o.dst <;> simpa[Act.put] using hd
     | true=>
      rw[hgo]at h
      simp only[cond_true]at h
      simp only[if_true]
      left
      split at h
      ·rename_i v H1 hv
       obtain⟨ρ1,w1,nx,q1,q2,q3,q4⟩:=op_sim htb R ht o hop hv
       simp only[Oper.wp,q2]
       have hd':∀u,(a.put o.dst u).defers=ds:=fun u=>by cases hx:o.dst <;> simpa[Act.put] using hd
       cases nx <;> simp only[NxRel]at q4
       case value u=>exact ih (i+1) l' hnext hl ρ0 ρ1 _ _ _ _ _ _ (Pl.le_trans hle q1) q3 (put_rel (ht.mono q1) hdst q4) (hd' _) h hQ
       case skip=>exact ih (i+1) l' hnext hl ρ0 ρ1 _ _ _ _ _ _ (Pl.le_trans hle q1) q3 (put_rel (ht.mono q1) hdst q4) (hd' _) h hQ
      ·rename_i f args H1 hv
       split at h
       ·rename_i v H2 hcl
        obtain⟨ρ1,w1,nx,q1,q2,q3,q4⟩:=op_sim htb R ht o hop hv
        simp only[Oper.wp,q2]
        have hd':∀u,(a.put o.dst u).defers=ds:=fun u=>by cases hx:o.dst <;> simpa[Act.put] using hd
        cases nx <;> simp only[NxRel]at q4
        case enter g vs=>
         obtain⟨rfl,hbig,q5⟩:=q4
         simp only[Oper.upon]
         refine (hcall _ _ _ _ _ hbig hcl Prot w0 ρ1 w1 vs q3 q5).mono fun e w' hr=>?_
         obtain⟨ρ2,u,r1,rfl,r3,r4⟩:=hr
         exact ih (i+1) l' hnext hl ρ0 ρ2 _ _ _ _ _ _ (Pl.le_trans hle (Pl.le_trans q1 r1)) r3 (put_rel ((ht.mono q1).mono r1) hdst r4) (hd' _) h hQ
       ·simp at h
      ·simp at h
   ·simp at ha
  ·simp at hc
theorem SimQ.weaken{ds:List Deferred}{ρ ρ':Pl}{n:Nat}{e:AEx}{T:Tr AVal}{H:AHeap}(h:ρ.le ρ'){e':Exit}{a:Act}{w:World}(q:SimQ P Prot w0 ds ρ' n e T H e' a w):SimQ P Prot w0 ds ρ n e T H e' a w:=by
 obtain⟨h1,ρ2,h2,h3⟩:=q
 exact⟨h1,ρ2,Pl.le_trans h h2,h3⟩
theorem stuck_none{tb:FuncId→Bool}{call:FuncId→List AVal→AHeap→Option (AVal×AHeap)}{k:Nat}{T:Tr AVal}{H:AHeap}:aexec tb call k stuckC T H=none:=rfl
theorem aregs_checks{tb:FuncId→Bool}{call:FuncId→List AVal→AHeap→Option (AVal×AHeap)}:∀(ps:List (Opd×Opd)) {T T':Tr AVal} {H H':AHeap},aregs tb call (ps.map checkOp) T H=some (T',H') →
  T'=T∧H'=H∧∀p∈ps,apB (ev T p.1) (ev T p.2)=true
 | [],T,T',H,H',h=>by
  simp only[List.map_nil,aregs,sJ,pJ]at h
  exact⟨h.1.symm,h.2.symm,by simp⟩
 | p::r,T,T',H,H',h=>by
  simp only[List.map_cons,aregs,checkOp,gOK,cond_true,aop,aPf,evs,aApart]at h
  cases hp:apB (ev T p.1) (ev T p.2) with
  | false=>rw[hp]at h; simp[vv]at h
  | true=>
   rw[hp]at h
   simp only[cond_true,vv,aput]at h
   obtain⟨h1,h2,h3⟩:=aregs_checks r h
   refine⟨h1,h2,fun q hq=>?_⟩
   rcases List.mem_cons.1 hq with rfl | hq
   ·exact hp
   ·exact h3 q hq
theorem code_sim(hfol:P.follows .mixedOrders=true){tb:FuncId→Bool}(htb:∀f,Nat.blt f BIG=true→tb f=true→hasBody P f=true){call:FuncId→List AVal→AHeap→Option (AVal×AHeap)}(hcall:CallOK P call){ds:List Deferred}{n k:Nat} :
  ∀(c:Code) (ac:ACode),cCode P n c=some ac→∀(ρ:Pl) (T T':Tr AVal) (H H':AHeap) (e:AEx) (a:Act) (w:World),
   Rel Prot w0 ρ H w→TmpsRel ρ n T a.tmps→a.defers=ds→aexec tb call k ac T H=some (e,T',H')→c.wp P (SimQ P Prot w0 ds ρ n e T' H') a w:=by
 intro c
 induction c with
 | skip=>
  intro ac hc ρ T T' H H' e a w R ht hd h
  simp only[cCode,sJ]at hc; subst hc
  simp only[aexec,sJ,pJ]at h
  obtain⟨rfl,rfl,rfl⟩:=h
  exact wp_skip ⟨rfl,ρ,Pl.le_refl _,R,ht,hd⟩
 | region id ops draw=>
  intro ac hc ρ T T' H H' e a w R ht hd h
  cases draw with
  | true=>
   simp only[cCode]at hc
   split at hc
   ·rename_i l hl
    cases hck:(okMask (ops.toList.map bindE) (masksGo [] (ops.toList.map bindE))&&okPairs (claims 0 l) (masksGo [] (ops.toList.map bindE))) with
    | false=>
     rw[hck]at hc
     simp only[cond_false,sJ]at hc; subst hc
     clear hck
     unfold cDrawM at h
     cases hck:(okMask (ops.toList.map bindE) (masksGo [] (ops.toList.map bindE))&&(okPairsM (claims 0 (l.map toFill)) (masksGo [] (ops.toList.map bindE))&&(okLoadsM (claims 0 (l.map toFill)) (masksGo [] (ops.toList.map bindE))&&okStays (claims 0 (l.map toFill))))) with
     | false=>rw[hck]at h; simp[stuck_none]at h
     | true=>
      rw[hck,cond_true]at h
      simp only[Bool.and_eq_true]at hck
      obtain⟨c1,c2,c3,c4⟩:=hck
      have hnc:=opers_noClaim hl
      have hnm:=claims_norm (l.map toFill) H.next 0 (fills_mem hnc)
      rw[← okPairsM_norm,← hnm,okPairsM_norm]at c2
      rw[← okLoadsM_norm,← hnm,okLoadsM_norm]at c3
      rw[← okStays_norm,← hnm,okStays_norm]at c4
      rw[← checksM_norm (claims 0 (l.map toFill)),← hnm,checksM_norm]at h
      have hops:=fills_at hl H.next
      have hlen:(claims H.next (l.map toFill)).length=ops.toList.length:=hops.1
      have hlk:=claims_like (l.map toFill) H.next 0
      have hll:l.length=(claims H.next (l.map toFill)).length:=by rw[hlen]; exact (opers_at hl).1
      have hchk:(List.range l.length).map (chkOf (claims 0 (l.map toFill)) (masksGo [] (ops.toList.map bindE)))=(List.range (claims H.next (l.map toFill)).length).map (chkOf (claims H.next (l.map toFill)) (masksGo [] (ops.toList.map bindE))):=by
       rw[hll]
       exact List.map_congr_left fun j _=>(chkOf_like hlk _ j).symm
      have hbase:∀d,Prot.dead d→d<H.next:=fun d hd=>(R.dead d hd).1
      have hdis:=fills_inj l H.next hnc
      have hnocl:=fills_noCl l H.next hnc
      have RF:=fills_rel (pr:=Prot.prot) l Prot.dead H hnc R
      simp only[aexec,adraw]at h
      rw[hchk]at h
      generalize hcl:claims H.next (l.map toFill)=m at *
      generalize hrv:reserves H (l.map toFill)=K at *
      cases hss:atrace tb call m T K with
      | none=>rw[hss]at h; simp at h
      | some ss=>
      rw[hss]at h
      simp only at h
      cases hr:chkRun tb (K::ss.map (·.2)) m ((List.range m.length).map (chkOf m (masksGo [] (ops.toList.map bindE)))) ss T with
      | false=>rw[hr]at h; simp at h
      | true=>
       rw[hr]at h
       simp only[cond_true]at h
       cases hg:aregs tb call ((checksM m (masksGo [] (ops.toList.map bindE))).map checkOp) (tsel (fun _=>true) 0 m ss T) (hAt K ss m.length) with
       | none=>rw[hg]at h; simp at h
       | some q=>
       obtain⟨T2,H2⟩:=q
       rw[hg]at h
       simp only[sJ,pJ]at h
       obtain⟨rfl,rfl,rfl⟩:=h
       obtain⟨rfl,rfl,hchecks⟩:=aregs_checks _ hg
       obtain⟨hap,hal⟩:=hap_of hss c4 hchecks
       refine wp_region_any hfol ?_
       have hN:m.length=ops.size:=by simpa using hlen
       have hrep:∀i,(Array.replicate ops.size false).getD i false=false:=fun i=>by
        rw[Array.getD_eq_getD_getElem?,Array.getElem?_replicate]; split <;> rfl
       have hm0:(fun i=>(Array.replicate ops.size false).getD i false)=fun _=>false:=funext hrep
       have hst:stage (fun i=>(Array.replicate ops.size false).getD i false) 0 m=stage (fun _=>false) 0 m:=stage_congr m 0 fun c o _ _=>by simp only[hrep]
       have hH:hAt K ss (stage (fun _=>false) 0 m)=K:=by
        obtain⟨q1,q2,q3,q4⟩:=stage_spec (fun _=>false) m 0
        have:=heap_between hss (stage (fun _=>false) 0 m) 0 om fun c o _ hlt ho=>by
         cases hx:isChain o.op with
         | false=>rfl
         | true=>have:=q3 c o ho hx om; simp at this
        rw[Nat.zero_add]at this
        rw[this]; rfl
       refine draw_mov (Prot:=Prot) (w0:=w0) htb hcall (base:=H.next) hlen hops.2 hbase hdis hnocl c1 c2 c3 hss hr hap hal (ρ0:=ρ) (fun a' w' hx=>⟨rfl,hx⟩) ops.size _ a _ (by simp) ?_ (fun j _ hj=>by rw[hrep]at hj; simp at hj) ⟨ρ,K,Pl.le_refl _,?_,?_,?_,hd⟩
       ·rw[hm0]
        have:∀k,unl (fun _=>false) k=k:=by
         intro k
         induction k with
         | zero=>rfl
         | succ k ih=>simp only[unl,ih,cond_false]
        exact this _
       ·rw[hst,hm0]
        refine⟨by rw[hH],fun x _=>by rw[hH],fun q x _ h2=>?_⟩
        exact absurd h2.1 (by simp)
       ·rw[hm0]
        exact RF.drew
       ·refine ht.congr fun t=>?_
        rw[hm0]
        have:∀(l:List AOper) (ss:List (AVal×AHeap)) (k:Nat) (T:Tr AVal),tsel (fun _=>false) k l ss T=T:=by
         intro l
         induction l with
         | nil=>intro ss k T; cases ss <;> rfl
         | cons o r ih=>intro ss k T; cases ss with
          | nil=>rfl
          | cons s ss=>obtain⟨x,y⟩:=s; simp only[tsel,cond_false,ih]
        rw[this]
    | true=>
     rw[hck]at hc
     simp only[cond_true,sJ]at hc; subst hc
     simp only[Bool.and_eq_true]at hck
     have hnc:=opers_noClaim hl
     have hlk:=claims_like l H.next 0
     have hok:okPairs (claims H.next l) (masksGo [] (ops.toList.map bindE))=true:=by rw[okPairs_like hlk]; exact hck.2
     have hlen:(claims H.next l).length=ops.toList.length:=(claims_at hl H.next).1
     have hll:l.length=(claims H.next l).length:=by rw[hlen]; exact (opers_at hl).1
     have hchk:(List.range l.length).map (chkOf (claims 0 l) (masksGo [] (ops.toList.map bindE)))=(List.range (claims H.next l).length).map (chkOf (claims H.next l) (masksGo [] (ops.toList.map bindE))):=by
      rw[hll]
      exact List.map_congr_left fun j _=>(chkOf_like hlk _ j).symm
     have hbase:∀d,Prot.dead d→d<H.next:=fun d hd=>(R.dead d hd).1
     have R:=reserves_rel (pr:=Prot.prot) l Prot.dead H hnc R
     simp only[aexec,adraw]at h
     rw[hchk]at h
     generalize hcl:claims H.next l=m at *
     generalize hrv:reserves H l=K at *
     split at h
     ·rename_i ss hss
      cases hr:chkRun tb (K::ss.map (·.2)) m ((List.range m.length).map (chkOf m (masksGo [] (ops.toList.map bindE)))) ss T with
      | false=>rw[hr]at h; simp at h
      | true=>
       rw[hr]at h
       simp only[cond_true,sJ,pJ]at h
       obtain⟨rfl,rfl,rfl⟩:=h
       refine wp_region_any hfol ?_
       have hN:m.length=ops.size:=by simpa using hlen
       have hrep:∀i,(Array.replicate ops.size false).getD i false=false:=fun i=>by
        rw[Array.getD_eq_getD_getElem?,Array.getElem?_replicate]; split <;> rfl
       have hm0:(fun i=>(Array.replicate ops.size false).getD i false)=fun _=>false:=funext hrep
       have hst:stage (fun i=>(Array.replicate ops.size false).getD i false) 0 m=stage (fun _=>false) 0 m:=stage_congr m 0 fun c o _ _=>by simp only[hrep]
       have hH:hAt K ss (stage (fun _=>false) 0 m)=K:=by
        obtain⟨q1,q2,q3,q4⟩:=stage_spec (fun _=>false) m 0
        have:=heap_between hss (stage (fun _=>false) 0 m) 0 om fun c o _ hlt ho=>by
         cases hx:isChain o.op with
         | false=>rfl
         | true=>have:=q3 c o ho hx om; simp at this
        rw[Nat.zero_add]at this
        rw[this]; rfl
       refine draw_any (RAW:=False) (rp:=fun _=>False) (Prot:=Prot) (w0:=w0) htb hcall (fun h=>h.elim) (fun h=>h.elim) (base:=H.next) hlen (by rw[← hcl]; exact fun j o hj=>let ⟨a,q1,q2⟩:=(claims_at hl H.next).2 j o hj; ⟨a,q1,.inl ⟨fun h=>h,q2.imp_right .inl⟩⟩) hbase (by rw[← hcl]; exact claims_inj l H.next hnc) hck.1 hok hss hr (ρ0:=ρ) (fun a' w' hx=>⟨rfl,hx⟩) (fun h=>h.elim) ops.size _ a _ (by simp) ?_ (fun j _ hj=>by rw[hrep]at hj; simp at hj) (fun c h=>h.elim) ⟨ρ,Pl.le_refl _,?_,?_,hd⟩
       ·rw[hm0]
        have:∀k,unl (fun _=>false) k=k:=by
         intro k
         induction k with
         | zero=>rfl
         | succ k ih=>simp only[unl,ih,cond_false]
        exact this _
       ·rw[hst,hH,hm0]; exact R.drew
       ·refine ht.congr fun t=>?_
        rw[hm0]
        have:∀(l:List AOper) (ss:List (AVal×AHeap)) (k:Nat) (T:Tr AVal),tsel (fun _=>false) k l ss T=T:=by
         intro l
         induction l with
         | nil=>intro ss k T; cases ss <;> rfl
         | cons o r ih=>intro ss k T; cases ss with
          | nil=>rfl
          | cons s ss=>obtain⟨x,y⟩:=s; simp only[tsel,cond_false,ih]
        rw[this]
     ·simp at h
   ·simp at hc
  | false=>
   simp only[cCode]at hc
   split at hc
   ·rename_i l hl
    simp only[sJ]at hc; subst hc
    simp only[aexec]at h
    split at h
    ·rename_i T1 H1 h1
     simp only[sJ,pJ]at h
     obtain⟨rfl,rfl,rfl⟩:=h
     refine wp_region ?_
     have:=regs_sim (Prot:=Prot) (w0:=w0) htb hcall (Q:=SimQ P Prot w0 ds ρ n .normal T1 H1) ops.toList 0 l (fun j=>by simp) hl ρ ρ T T1 H H1 a w (Pl.le_refl _) R ht hd h1 (fun a' w' h=>⟨rfl,h⟩)
     rw[List.range_eq_range']
     simpa using this
    ·simp at h
   ·simp at hc
 | seq x y ihx ihy=>
  intro ac hc ρ T T' H H' e a w R ht hd h
  simp only[cCode]at hc
  split at hc
  ·rename_i ax ay hx hy
   simp only[sJ]at hc; subst hc
   simp only[aexec]at h
   split at h
   ·rename_i T1 H1 h1
    refine wp_seq (wp_mono (ihx _ hx ρ T T1 H H1 .normal a w R ht hd h1) ?_)
    rintro e1 a1 w1 ⟨he,ρ1,hl,R1,ht1,hd1⟩
    simp only at he
    subst he
    exact wp_mono (ihy _ hy ρ1 T1 T' H1 H' e a1 w1 R1 ht1 hd1 h) fun _ _ _ q=>q.weaken hl
   ·rename_i e1 T1 H1 hne h1
    simp only[sJ,pJ]at h
    obtain⟨rfl,rfl,rfl⟩:=h
    refine wp_seq (wp_mono (ihx _ hx ρ T T1 H H1 e1 a w R ht hd h1) ?_)
    rintro e2 a1 w1 q
    cases e1 with
    | normal=>exact (hne rfl).elim
    | exit id=>have:=q.1; simp only at this; subst this; exact q
    | ret=>have:=q.1; simp only at this; subst this; exact q
   ·simp at h
  ·simp at hc
 | cond c x y ihx ihy=>
  intro ac hc ρ T T' H H' e a w R ht hd h
  simp only[cCode]at hc
  split at hc
  ·rename_i c' ax ay hcc hx hy
   simp only[sJ]at hc; subst hc
   simp only[aexec]at h
   have hv:=opd_ok ht hcc
   split at h
   ·rename_i hb
    rw[hb]at hv
    simp only[VRel]at hv
    exact wp_cond_true hv (ihx _ hx ρ T T' H H' e a w R ht hd h)
   ·rename_i hb
    rw[hb]at hv
    simp only[VRel]at hv
    exact wp_cond_false hv (ihy _ hy ρ T T' H H' e a w R ht hd h)
   ·simp at h
  ·simp at hc
 | block id c ih=>
  intro ac hc ρ T T' H H' e a w R ht hd h
  simp only[cCode]at hc
  split at hc
  ·rename_i ax hx
   simp only[sJ]at hc; subst hc
   simp only[aexec]at h
   split at h
   ·rename_i j T1 H1 h1
    refine wp_block (wp_mono (ih _ hx ρ T T1 H H1 (.exit j) a w R ht hd h1) ?_)
    rintro e1 a1 w1 q
    have he:=q.1
    simp only at he
    subst he
    cases hb:Nat.beq j id with
    | true=>
     rw[hb]at h
     simp only[cond_true,sJ,pJ]at h
     obtain⟨rfl,rfl,rfl⟩:=h
     have:=Nat.eq_of_beq_eq_true hb
     simp only[Exit.inBlock,this,if_true]
     exact⟨rfl,q.2⟩
    | false=>
     rw[hb]at h
     simp only[cond_false,sJ,pJ]at h
     obtain⟨rfl,rfl,rfl⟩:=h
     have:¬j=id:=fun e=>by rw[e,Nat.beq_refl]at hb; simp at hb
     simp only[Exit.inBlock,this,if_false]
     exact q
   ·rename_i e1 T1 H1 hne h1
    simp only[sJ,pJ]at h
    obtain⟨rfl,rfl,rfl⟩:=h
    refine wp_block (wp_mono (ih _ hx ρ T T1 H H1 e1 a w R ht hd h1) ?_)
    rintro e2 a1 w1 q
    cases e1 with
    | normal=>have:=q.1; simp only at this; subst this; exact q
    | exit j=>exact (hne _ rfl).elim
    | ret=>have:=q.1; simp only at this; subst this; exact q
   ·simp at h
  ·simp at hc
 | loop c ih=>
  intro ac hc ρ T T' H H' e a w R ht hd h
  simp only[cCode]at hc
  split at hc
  ·rename_i ax hx
   simp only[sJ]at hc; subst hc
   simp only[aexec]at h
   refine wp_loop_rounds k ?_
   have key:∀(m:Nat) (T:Tr AVal) (H:AHeap) (ρ1:Pl) (a:Act) (w:World),ρ.le ρ1→Rel Prot w0 ρ1 H w→TmpsRel ρ1 n T a.tmps→a.defers=ds →
     aloop (aexec tb call k ax) m T H=some (e,T',H')→Code.rounds P c (SimQ P Prot w0 ds ρ n e T' H') m a w:=by
    intro m
    induction m with
    | zero=>intro T H ρ1 a w _ _ _ _ h; simp[aloop]at h
    | succ m ihm=>
     intro T H ρ1 a w hl R ht hd h
     rw[rounds_succ]
     simp only[aloop]at h
     split at h
     ·rename_i T1 H1 h1
      refine wp_mono (ih _ hx ρ1 T T1 H H1 .normal a w R ht hd h1) ?_
      rintro e1 a1 w1 ⟨he,ρ2,hl2,R1,ht1,hd1⟩
      simp only at he
      subst he
      exact ihm T1 H1 ρ2 a1 w1 (Pl.le_trans hl hl2) R1 ht1 hd1 h
     ·rename_i e1 T1 H1 hne h1
      simp only[sJ,pJ]at h
      obtain⟨rfl,rfl,rfl⟩:=h
      refine wp_mono (ih _ hx ρ1 T T1 H H1 e1 a w R ht hd h1) ?_
      rintro e2 a1 w1 q
      have q':=q.weaken hl
      cases e1 with
      | normal=>exact (hne rfl).elim
      | exit id=>have:=q.1; simp only at this; subst this; exact q'
      | ret=>have:=q.1; simp only at this; subst this; exact q'
     ·simp at h
   exact key k T H ρ a w (Pl.le_refl _) R ht hd h
  ·simp at hc
 | exit id=>
  intro ac hc ρ T T' H H' e a w R ht hd h
  simp only[cCode,sJ]at hc; subst hc
  simp only[aexec,sJ,pJ]at h
  obtain⟨rfl,rfl,rfl⟩:=h
  exact wp_exit ⟨rfl,ρ,Pl.le_refl _,R,ht,hd⟩
 | ret=>
  intro ac hc ρ T T' H H' e a w R ht hd h
  simp only[cCode,sJ]at hc; subst hc
  simp only[aexec,sJ,pJ]at h
  obtain⟨rfl,rfl,rfl⟩:=h
  exact wp_ret ⟨rfl,ρ,Pl.le_refl _,R,ht,hd⟩
 | _=>
  intro ac hc ρ T T' H H' e a w R ht hd h
  simp only[cCode,sJ]at hc; subst hc
  simp[stuck_none]at h
theorem res_sim{n:Nat}(R:Rel Prot w0 ρ H w){T:Tr AVal}{tmps:Array Value}(ht:TmpsRel ρ n T tmps):∀{rs:List ResultVar} {l:List ARes},cRes P rs=some l→∀{xs:List AVal},ares T H l=some xs →
  ∃vs:List Value,(rs.mapM (fun r=>match r with
   | .tmp t=>Pure.pure (tmps.getD t undef)
   | .cell a t=>do loadVar t (← asAddr (tmps.getD a undef))):Sem (List Value)).run P w=.ok vs w∧VRels ρ xs vs:=by
 intro rs
 induction rs with
 | nil=>
  intro l hc xs h
  simp only[cRes,sJ]at hc; subst hc
  simp only[ares,sJ]at h; subst h
  exact⟨[],rfl,by simp[VRels]⟩
 | cons r rs ih=>
  intro l hc xs h
  cases r with
  | tmp t=>
   simp only[cRes]at hc
   split at hc
   ·rename_i l' hl
    simp only[sJ]at hc; subst hc
    simp only[ares]at h
    split at h
    ·rename_i ys hy
     simp only[sJ]at h; subst h
     obtain⟨vs,h1,h2⟩:=ih hl hy
     refine⟨tmps.getD t undef::vs,?_,by simp only[VRels]; exact⟨_,_,rfl,ht.at_ t,h2⟩⟩
     simp only[List.mapM_cons,Sem.run_bind,Sem.run_pure,Result.andThen_ok,h1]
    ·simp at h
   ·simp at hc
  | cell a t=>
   simp only[cRes]at hc
   split at hc
   ·rename_i g k l' hk hl
    simp only[sJ]at hc; subst hc
    simp only[ares]at h
    split at h
    ·rename_i x ys hx hy
     simp only[sJ]at h; subst h
     obtain⟨vs,h1,h2⟩:=ih hl hy
     obtain⟨u,u1,u2⟩:=load_ok (P:=P) R (ty_of hk) (ht.at_ a) hx
     have hp:∃ad,tmps.getD a undef=.pointer (some ad):=by
      have hat:=ht.at_ a
      unfold oLoad at hx
      split at hx
      ·rename_i ad heq
       rw[heq]at hat
       simp only[VRel]at hat
       obtain⟨L,_,_,e⟩:=hat
       exact⟨_,e⟩
      ·simp at hx
     obtain⟨ad,had⟩:=hp
     refine⟨u::vs,?_,by simp only[VRels]; exact⟨_,_,rfl,u2,h2⟩⟩
     have:(loadVar t ad).run P w=.ok u w:=by
      rw[had]at u1
      simpa[Instr.loadAt,Instr.sureAddr] using u1
     have hA:(asAddr (tmps.getD a undef)).run P w=.ok ad w:=by rw[had]; rfl
     simp only[List.mapM_cons,Sem.run_bind,hA,Sem.run_pure,Result.andThen_ok,this,h1]
    ·simp at h
   ·simp at hc
theorem results_sim{n:Nat}(R:Rel Prot w0 ρ H w){T:Tr AVal}{tmps:Array Value}(ht:TmpsRel ρ n T tmps){fn:Func}{l:List ARes}(hc:cRes P fn.results.toList=some l){xs:List AVal}(h:ares T H l=some xs) :
  ∃v,(results fn tmps).run P w=.ok v w∧VRel ρ (aresV xs) v:=by
 obtain⟨vs,h1,h2⟩:=res_sim (P:=P) R ht hc h
 have hl:=VRels.len h2
 have hm:(fn.results.mapM (fun r=>match r with
   | .tmp t=>Pure.pure (tmps.getD t undef)
   | .cell a t=>do loadVar t (← asAddr (tmps.getD a undef))):Sem (Array Value)).run P w=.ok vs.toArray w:=by
  rw[Array.mapM_eq_mapM_toList]
  simp only[Sem.run_map,h1,Result.andThen_ok]
 refine⟨if h:vs.toArray.size=1 then vs.toArray[0] else .tuple vs.toArray,?_,?_⟩
 ·have e:results fn tmps=(fn.results.mapM (fun r=>match r with
   | .tmp t=>Pure.pure (tmps.getD t undef)
   | .cell a t=>do loadVar t (← asAddr (tmps.getD a undef))):Sem (Array Value)) >>= fun vs=>Pure.pure (if h:vs.size=1 then vs[0] else .tuple vs):=rfl
  rw[e,Sem.run_bind,hm]
  rfl
 ·match xs,vs,h2,hl with
  | [x],[v],h2,_=>
   simp only[VRels]at h2
   obtain⟨v',r,e,h3,_⟩:=h2
   simp only[List.cons.injEq]at e
   obtain⟨rfl,rfl⟩:=e
   exact h3
  | [],[],h2,_=>simp only[aresV,VRel]; exact⟨_,rfl,h2⟩
  | x::y::xs,v::u::vs,h2,_=>simp only[aresV,VRel]; exact⟨_,rfl,h2⟩
theorem args_sim:∀(args:List AVal) (vs:List Value) (i:Nat) (T:Tr AVal),VRels ρ args vs→(∀t,i≤t→T.get t=none) →
  ∀t,ev (putArgs args i T) (.t t)=if t<i then ev T (.t t) else match args[t-i]? with | some x=>x | none=>undefA:=by
 intro args
 induction args with
 | nil=>
  intro vs i T _ hn t
  simp only[putArgs]
  split
  ·rfl
  ·rename_i h
   simp[ev,hn t om]
 | cons x r ih=>
  intro vs i T hv hn t
  simp only[VRels]at hv
  obtain⟨v,vs',rfl,h1,h2⟩:=hv
  simp only[putArgs]
  rw[ih vs' (i+1) (T.set i x) h2 (fun t ht=>by rw[Tr.get_set,if_neg om]; exact hn t om) t]
  by_cases c1:t<i
  ·rw[if_pos om,if_pos c1]
   simp only[ev,Tr.get_set]
   rw[if_neg om]
  ·by_cases c2:t=i
   ·subst c2
    rw[if_pos om,if_neg c1]
    simp[ev,Tr.get_set]
   ·rw[if_neg om,if_neg c1,show t-i=(t-(i+1))+1 by omega]
    simp
theorem start_sim{args:List AVal}{vs:Array Value}(hv:VRels ρ args vs.toList){n:Nat}(hn:args.length≤n):TmpsRel ρ n (putArgs args 0 .e) (vs++Array.replicate (n-vs.size) undef):=by
 have hl:=VRels.len hv
 simp only[Array.length_toList]at hl
 refine⟨by simp; omega,fun t=>?_⟩
 rw[args_sim args vs.toList 0 .e hv (fun _ _=>rfl) t]
 rw[if_neg om,Nat.sub_zero]
 by_cases ht:t<args.length
 ·have hx:args[t]?=some args[t]:=List.getElem?_eq_getElem ht
  obtain⟨v,h1,h2⟩:=hv.nth _ _ hx
  rw[hx]
  rw[Array.getElem?_toList]at h1
  have:(vs++Array.replicate (n-vs.size) undef).getD t undef=v:=by
   rw[Array.getD_eq_getD_getElem?,Array.getElem?_append_left om,h1]; rfl
  rw[this]
  exact h2
 ·have hx:args[t]?=none:=List.getElem?_eq_none om
  rw[hx]
  have:(vs++Array.replicate (n-vs.size) undef).getD t undef=undef:=by
   rw[Array.getD_eq_getD_getElem?,Array.getElem?_append_right om]
   by_cases h:t-vs.size<n-vs.size
   ·simp[h]
   ·simp[h]
  rw[this]
  exact undef_rel
theorem cFn_spec {f : FuncId} {fn : AFn} (h : cFn P f = some fn) : ∃ fc code, P.funcs[f]? = some fc ∧ fc.body = some code ∧ (fc.name == "runtime.NumGoroutine") = false ∧ fc.ntmps = fn.nt ∧ cCode P fn.nt code = some fn.body ∧ cRes P fc.results.toList = some fn.res := by
 unfold cFn at h
 split at h
 ·rename_i fc hf
  split at h
  ·rename_i c hb
   cases hn : (fc.name == "runtime.NumGoroutine") with
   | true=>rw[hn]at h; simp at h
   | false=>
    rw[hn]at h
    simp only[cond_false]at h
    split at h
    ·rename_i b r h1 h2
     simp only[sJ]at h
     subst h
     exact⟨fc,c,hf,hb,hn,rfl,h1,h2⟩
    ·simp at h
  ·simp at h
 ·simp at h
structure NatOK(P:Program)(N:ANat):Prop where
 body:∀f,N.is f=true→hasBody P f=true
 run:CallOK P N.run
end
end Go.Abs
namespace Go.Abs
def opdT(n:Nat):Opd→Bool
 | .t i=>Nat.blt i n
 | _=>true
def opdsT(n:Nat):List Opd→Bool
 | []=>true
 | x::r=>opdT n x&&opdsT n r
def opdOT(n:Nat):Option Opd→Bool
 | none=>true
 | some x=>opdT n x
def partsT(n:Nat):List (Nat×Nat×Opd)→Bool
 | []=>true
 | (_,_,x)::r=>opdT n x&&partsT n r
def aopT(n:Nat):AOp→Bool
 | .mv x=>opdT n x
 | .pick c a b=>opdT n c&&(opdT n a&&opdT n b)
 | .new _=>true
 | .box x=>opdT n x
 | .build _ ps=>partsT n ps
 | .buildSl _ _ ps=>partsT n ps
 | .load _ _ x=>opdT n x
 | .store _ a x=>opdT n a&&opdT n x
 | .nilChk x=>opdT n x
 | .bin _ x y=>opdT n x&&opdT n y
 | .un _ x=>opdT n x
 | .conv _ x=>opdT n x
 | .convSB x=>opdT n x
 | .convBS x=>opdT n x
 | .mkFunc _ a b=>opdsT n a&&opdsT n b
 | .mkIface _ x=>opdT n x
 | .mkSlice _ _ l c=>opdT n l&&opdT n c
 | .sl _ x a b c=>opdT n x&&(opdOT n a&&(opdOT n b&&opdOT n c))
 | .slStr x a b=>opdT n x&&(opdOT n a&&opdOT n b)
 | .fieldA _ x=>opdT n x
 | .field _ _ _ x=>opdT n x
 | .idxA _ x i=>opdT n x&&opdT n i
 | .idxArr _ _ x i=>opdT n x&&opdT n i
 | .idx _ _ _ x i=>opdT n x&&opdT n i
 | .idxS x i=>opdT n x&&opdT n i
 | .extract _ x=>opdT n x
 | .append _ _ s x=>opdT n s&&opdT n x
 | .len _ x=>opdT n x
 | .call _ l=>opdsT n l
 | .callv f l=>opdT n f&&opdsT n l
 | .pf _ l=>opdsT n l
 | .hf _ l=>opdsT n l
 | .bad=>true
 | .claim ..=>true
 | .slA _ _ x a b c=>opdT n x&&(opdOT n a&&(opdOT n b&&opdOT n c))
def gdTm(n:Nat):Option (Nat×Bool)→Bool
 | none=>true
 | some (t,_)=>Nat.blt (gS t) n
def aoperT(n:Nat)(o:AOper):Bool:=aopT n o.op&&(gdTm n o.guard&&okDst n o.dst)
def GE(n:Nat)(T U:Tr AVal):Prop:=(∀t,t<n→ev T (.t t)=ev U (.t t))∧∀t,n≤t→ev U (.t t)=undefA
section
variable {n:Nat} {T U:Tr AVal} {tb:FuncId→Bool} {call:FuncId→List AVal→AHeap→Option (AVal×AHeap)}
theorem blt_lt{a b:Nat}(h:Nat.blt a b=true):a<b:=Nat.le_of_ble_eq_true h
theorem GE.x(h:GE n T U){x:Opd}(hx:opdT n x=true):ev T x=ev U x:=by
 cases x with
 | t i=>exact h.1 i (blt_lt hx)
 | c v=>rfl
 | f i=>rfl
theorem GE.xs(h:GE n T U):∀{l:List Opd},opdsT n l=true→evs T l=evs U l
 | [],_=>rfl
 | x::r,hx=>by
  simp only[opdsT,Bool.and_eq_true]at hx
  simp only[evs,h.x hx.1,h.xs hx.2]
theorem GE.xO(h:GE n T U){x:Option Opd}(hx:opdOT n x=true):evO T x=evO U x:=by
 cases x with
 | none=>rfl
 | some x=>simp only[evO,h.x hx]
theorem GE.xP(h:GE n T U):∀{l:List (Nat×Nat×Opd)},partsT n l=true→evP T l=evP U l
 | [],_=>rfl
 | (a,b,x)::r,hx=>by
  simp only[partsT,Bool.and_eq_true]at hx
  simp only[evP,h.x hx.1,h.xP hx.2]
theorem aop_ge(h:GE n T U){o:AOp}(ho:aopT n o=true)(H:AHeap):aop tb T H o=aop tb U H o:=by
 cases o <;> simp only[aopT,Bool.and_eq_true]at ho <;> simp only[aop]
 case mv x=>rw[h.x ho]
 case pick c a b=>rw[h.x ho.1,h.x ho.2.1,h.x ho.2.2]
 case box x=>rw[h.x ho]
 case build z ps=>rw[h.xP ho]
 case buildSl m z ps=>rw[h.xP ho]
 case load a m x=>rw[h.x ho]
 case store m a x=>rw[h.x ho.1,h.x ho.2]
 case nilChk x=>rw[h.x ho]
 case bin op x y=>rw[h.x ho.1,h.x ho.2]
 case un op x=>rw[h.x ho]
 case conv k x=>rw[h.x ho]
 case convSB x=>rw[h.x ho]
 case convBS x=>rw[h.x ho]
 case mkFunc fn a b=>rw[h.xs ho.1,h.xs ho.2]
 case mkIface t x=>rw[h.x ho]
 case mkSlice b z l c=>rw[h.x ho.1,h.x ho.2]
 case sl m x a b c=>rw[h.x ho.1,h.xO ho.2.1,h.xO ho.2.2.1,h.xO ho.2.2.2]
 case slStr x a b=>rw[h.x ho.1,h.xO ho.2.1,h.xO ho.2.2]
 case fieldA o x=>rw[h.x ho]
 case field a m o x=>rw[h.x ho]
 case idxA m x i=>rw[h.x ho.1,h.x ho.2]
 case idxArr m k x i=>rw[h.x ho.1,h.x ho.2]
 case idx m k a x i=>rw[h.x ho.1,h.x ho.2]
 case idxS x i=>rw[h.x ho.1,h.x ho.2]
 case extract i x=>rw[h.x ho]
 case append m b s x=>rw[h.x ho.1,h.x ho.2]
 case len s x=>rw[h.x ho]
 case call f l=>rw[h.xs ho]
 case callv f l=>rw[h.x ho.1,h.xs ho.2]
 case pf f l=>rw[h.xs ho]
 case hf f l=>rw[h.xs ho]
 case slA m k x a b c=>rw[h.x ho.1,h.xO ho.2.1,h.xO ho.2.2.1,h.xO ho.2.2.2]
theorem gOK_ge(h:GE n T U){g:Option (Nat×Bool)}(hg:gdTm n g=true):gOK T g=gOK U g:=by
 cases g with
 | none=>rfl
 | some p=>
  obtain⟨t,b⟩:=p
  simp only[gOK,h.1 (gS t) (blt_lt hg)]
theorem ev_set(T:Tr AVal)(d t:Nat)(v:AVal):ev (T.set d v) (.t t)=if t=d then v else ev T (.t t):=by
 simp only[ev,Tr.get_set]
 split
 ·rename_i u h
  split at h
  ·rename_i e; rw[if_pos e]; simpa using h.symm
  ·rename_i e; rw[if_neg e,h]
 ·rename_i h
  split at h
  ·simp at h
  ·rename_i e; rw[if_neg e,h]
theorem ev_aput(T:Tr AVal)(d:Option Nat)(t:Nat)(v:AVal):ev (aput T d v) (.t t)=if d=some t then v else ev T (.t t):=by
 cases d with
 | none=>simp[aput]
 | some d=>
  simp only[aput,ev_set,sJ]
  by_cases e:t=d
  ·rw[if_pos e,if_pos e.symm]
  ·rw[if_neg e,if_neg fun q=>e q.symm]
theorem GE.put(h:GE n T U){d:Option Nat}(hd:okDst n d=true)(v:AVal):GE n (aput T d v) (aput U d v):=by
 refine⟨fun t ht=>?_,fun t ht=>?_⟩
 ·rw[ev_aput,ev_aput,h.1 t ht]
 ·rw[ev_aput,h.2 t ht,if_neg]
  rintro rfl
  have:=blt_lt hd
  omega
theorem GE.ghost(h:GE n T U){d:Nat}(hd:n≤d)(v:AVal):GE n (T.set d v) U:=
 ⟨fun t ht=>by rw[ev_set,if_neg om]; exact h.1 t ht,h.2⟩
def SameG(n:Nat)(T T':Tr AVal):Prop:=∀t,n≤t→ev T' (.t t)=ev T (.t t)
theorem SameG.put{d:Option Nat}(hd:okDst n d=true)(v:AVal):SameG n T (aput T d v):=fun t ht=>by
 rw[ev_aput,if_neg]
 rintro rfl
 have:=blt_lt hd
 omega
theorem SameG.trans{T1 T2:Tr AVal}(h:SameG n T T1)(k:SameG n T1 T2):SameG n T T2:=fun t ht=>(k t ht).trans (h t ht)
theorem astep_ge(h:GE n T U){o:AOper}(ho:aoperT n o=true)(H:AHeap):astep tb call o T H=astep tb call o U H:=by
 simp only[aoperT,Bool.and_eq_true]at ho
 simp only[astep,gOK_ge h ho.2.1,aop_ge h ho.1]
theorem aregs_step'(o:AOper)(r:List AOper)(T:Tr AVal)(H:AHeap):aregs tb call (o::r) T H=match astep tb call o T H with
  | some (v,H')=>aregs tb call r (aput T o.dst v) H'
  | none=>none:=by
 simp only[aregs,astep]
 cases gOK T o.guard with
 | false=>rfl
 | true=>
  simp only[cond_true]
  cases aop tb T H o.op with
  | none=>rfl
  | some p=>obtain⟨nx,H'⟩:=p; cases nx <;> rfl
theorem aregs_app:∀(l m:List AOper) (T:Tr AVal) (H:AHeap),aregs tb call (l++m) T H=match aregs tb call l T H with
  | some (T1,H1)=>aregs tb call m T1 H1
  | none=>none
 | [],m,T,H=>rfl
 | o::l,m,T,H=>by
  rw[List.cons_append,aregs_step',aregs_step']
  cases astep tb call o T H with
  | none=>rfl
  | some p=>obtain⟨v,H1⟩:=p; exact aregs_app l m _ _
theorem atrace_ge:∀(l:List AOper) {T U:Tr AVal} {H:AHeap},GE n T U→l.all (aoperT n)=true→atrace tb call l T H=atrace tb call l U H
 | [],_,_,_,_,_=>rfl
 | o::r,T,U,H,h,hl=>by
  simp only[List.all_cons,Bool.and_eq_true]at hl
  simp only[atrace]
  rw[astep_ge h hl.1]
  cases astep tb call o U H with
  | none=>rfl
  | some p=>
   obtain⟨v,H1⟩:=p
   have hd:okDst n o.dst=true:=by
    have:=hl.1
    simp only[aoperT,Bool.and_eq_true]at this
    exact this.2.2
   simp only
   rw[atrace_ge r (h.put hd v) hl.2]
theorem chkRun_ge(hs:List AHeap):∀(l:List AOper) (ps:List (List Nat)) (ss:List (AVal×AHeap)) {T U:Tr AVal},GE n T U→l.all (aoperT n)=true→chkRun tb hs l ps ss T=chkRun tb hs l ps ss U
 | [],_,_,_,_,_,_=>rfl
 | o::r,[],_,_,_,_,_=>rfl
 | o::r,p::ps,[],_,_,_,_=>rfl
 | o::r,p::ps,(v,H1)::ss,T,U,h,hl=>by
  simp only[List.all_cons,Bool.and_eq_true]at hl
  have ho:=hl.1
  simp only[aoperT,Bool.and_eq_true]at ho
  simp only[chkRun,gOK_ge h ho.2.1,aop_ge h ho.1,chkRun_ge hs r ps ss (h.put ho.2.2 v) hl.2]
theorem tsel_ge(m:Nat→Bool):∀(l:List AOper) (i:Nat) (ss:List (AVal×AHeap)) {T U:Tr AVal},GE n T U→l.all (aoperT n)=true→GE n (tsel m i l ss T) (tsel m i l ss U)∧SameG n T (tsel m i l ss T)
 | [],_,_,_,_,h,_=>⟨h,fun _ _=>rfl⟩
 | o::r,i,[],_,_,h,_=>⟨h,fun _ _=>rfl⟩
 | o::r,i,(v,H1)::ss,T,U,h,hl=>by
  simp only[List.all_cons,Bool.and_eq_true]at hl
  have ho:=hl.1
  simp only[aoperT,Bool.and_eq_true]at ho
  simp only[tsel]
  cases m i with
  | true=>
   obtain⟨q1,q2⟩:=tsel_ge m r (i+1) ss (h.put ho.2.2 v) hl.2
   exact⟨q1,(SameG.put ho.2.2 v).trans q2⟩
  | false=>exact tsel_ge m r (i+1) ss h hl.2
theorem adraw_ge{l:List AOper}{chk:List (List Nat)}{H H':AHeap}{e:AEx}{T':Tr AVal}(h:GE n T U)(hl:l.all (aoperT n)=true)(hr:adraw tb call l chk T H=some (e,T',H')) :
  e=.normal∧∃U',adraw tb call l chk U H=some (.normal,U',H')∧GE n T' U'∧SameG n T T':=by
 unfold adraw at hr ⊢
 rw[atrace_ge l h hl]at hr
 cases ht:atrace tb call l U H with
 | none=>rw[ht]at hr; simp at hr
 | some ss=>
  rw[ht]at hr
  simp only at hr ⊢
  rw[chkRun_ge _ l _ ss h hl]at hr
  cases hc:chkRun tb (H::ss.map (·.2)) l chk ss U with
  | false=>rw[hc]at hr; simp at hr
  | true=>
   rw[hc]at hr
   simp only[cond_true,sJ,pJ]at hr ⊢
   obtain⟨rfl,rfl,rfl⟩:=hr
   obtain⟨q1,q2⟩:=tsel_ge (fun _=>true) l 0 ss h hl
   exact⟨rfl,_,⟨trivial,rfl,rfl⟩,q1,q2⟩
theorem claims_T:∀(l:List AOper) (b:Nat),l.all (aoperT n)=true→(claims b l).all (aoperT n)=true
 | [],_,_=>rfl
 | o::r,b,hl=>by
  simp only[List.all_cons,Bool.and_eq_true]at hl
  simp only[claims]
  cases hz:newOf o.op with
  | none=>simp only[List.all_cons,hl.1,claims_T r b hl.2,Bool.and_self]
  | some p=>
   obtain⟨z,s⟩:=p
   have ho:=hl.1
   simp only[aoperT,Bool.and_eq_true]at ho
   have hc:aopT n (clOp b z s o.op)=true:=by
    unfold clOp
    split
    ·rename_i xs hop
     have:=ho.1
     rw[hop]at this
     exact this
    ·rfl
   simp only[List.all_cons,claims_T r (b+1) hl.2,aoperT,hc,ho.2.1,ho.2.2,Bool.and_self]
end
end Go.Abs
namespace Go.Abs
def PB:Nat:=1000000
inductive PItem where
 | ord (o:AOper)
 | pnc (x:Opd)
 | dfr (x:Opd)
 | tc (f:Nat) (args:List Opd) (d:Option Nat) (g:Option (Nat×Bool))
def codeP(n:Nat):List PItem→List AOper→ACode
 | [],acc=>.reg acc.reverse
 | .ord o::r,acc=>codeP n r (o::acc)
 | .dfr x::r,acc=>codeP n r (⟨some (n+1),.pf .dset [.t (n+1),x],none⟩::acc)
 | .pnc x::_,acc=>.seq (.reg (acc.reverse++[⟨some n,.pf .mkP [x],none⟩])) (.exit PB)
 | .tc f args d g::r,acc=>.seq (.reg (acc.reverse++[⟨some (n+3),.call (BIG+f) args,g⟩,⟨some (n+2),.pf .isP [.t (n+3)],none⟩]))
   (.seq (.cond (.t (n+2)) (.seq (.reg [⟨some n,.mv (.t (n+3)),none⟩]) (.exit PB)) .skip) (codeP n r [⟨d,.mv (.t (n+3)),none⟩]))
section
variable (P:Program) (n:Nat) (ps:List Nat)
def cOrd(ops:Array Oper)(o:Oper):Option PItem:=match cOper P n ops o with
 | some a=>bif aoperT n a then some (.ord a) else none
 | none=>none
def isRawF(o:Op):Option (Nat×List Operand):=match o with
 | .call c=>match c.callee with
  | .value (.func f)=>bif ps.any (Nat.beq f) then some (f,c.args.toList) else none
  | _=>none
 | _=>none
def cItem(ops:Array Oper)(o:Oper):Option PItem:=match o.op with
 | .panic x=>match o.guard,cOpd x with
  | none,some y=>bif opdT n y then some (.pnc y) else none
  | _,_=>none
 | .defer c=>match o.guard,o.dst,c.callee with
  | none,none,.value x=>match c.args.toList,cOpd x with
   | [],some y=>bif opdT n y then some (.dfr y) else none
   | _,_=>none
  | _,_,_=>none
 | op=>match isRawF ps op with
  | some (f,l)=>match cOpds l,cGuard n ops o.guard with
   | some l,some g=>bif Nat.blt f BIG&&(opdsT n l&&(gdTm n g&&okDst n o.dst)) then some (.tc f l o.dst g) else none
   | _,_=>none
  | none=>cOrd P n ops o
def cItems(ops:Array Oper):List Oper→Option (List PItem)
 | []=>some []
 | o::r=>match cItem P n ps ops o,cItems ops r with
  | some a,some l=>some (a::l)
  | _,_=>none
def rawAt:Nat→List Oper→Option (Nat×Nat)
 | _,[]=>none
 | j,o::r=>match isRawF ps o.op,o.dst with
  | some _,some d=>some (j,d)
  | _,_=>rawAt (j+1) r
def cRaw(ops:Array Oper)(o:Oper):Option AOper:=match isRawF ps o.op with
 | some (f,l)=>match cOpds l,cGuard n ops o.guard with
  | some l,some g=>bif Nat.blt f BIG&&okDst n o.dst then some ⟨o.dst,.call (BIG+f) l,g⟩ else none
  | _,_=>none
 | none=>none
def gdOf(d:Nat)(a:AOper):Option AOper:=match a.guard,newOf a.op with
 | none,none=>some ⟨a.dst,a.op,some (SK+d,false)⟩
 | _,_=>none
def cPos(ops:Array Oper)(ms:List Nat)(c d:Nat)(j:Nat)(o:Oper):Option AOper:=
 bif Nat.beq j c then cRaw n ps ops o else match cOper P n ops o with
  | some a=>bif bit ms j c then gdOf d a else some a
  | none=>none
def cPoss(ops:Array Oper)(ms:List Nat)(c d:Nat):Nat→List Oper→Option (List AOper)
 | _,[]=>some []
 | j,o::r=>match cPos P n ps ops ms c d j o,cPoss ops ms c d (j+1) r with
  | some a,some l=>some (a::l)
  | _,_=>none
def onlyW(c d:Nat):Nat→List AOper→Bool
 | _,[]=>true
 | k,a::r=>(Nat.beq k c||!(a.dst==some d))&&onlyW c d (k+1) r
def cPlain(ops:Array Oper)(rest:List Oper):Option (List AOper×Option (Nat×Nat)):=match cOpers P n ops rest with
 | some l=>some (l,none)
 | none=>none
def cLast(ops:Array Oper)(rest:List Oper):Option (List AOper×Option (Nat×Nat)):=match rawAt ps 0 rest with
 | some (c,d)=>match cPoss P n ps ops (masksGo [] (ops.toList.map bindE)) c d 0 rest with
  | some l=>bif onlyW c d 0 l then some (l,some (c,d)) else cPlain P n ops rest
  | none=>cPlain P n ops rest
 | none=>cPlain P n ops rest
def cDrawP(ops:Array Oper):Option ACode:=match cLast P n ps ops ops.toList with
 | some (l,d)=>bif okMask (ops.toList.map bindE) (masksGo [] (ops.toList.map bindE))&&okPairs (claims 0 l) (masksGo [] (ops.toList.map bindE))&&l.all (aoperT n) then
   (match d with
    | none => some (.draw l ((List.range l.length).map (chkOf (claims 0 l) (masksGo [] (ops.toList.map bindE)))))
    | some (_, d) => some (.seq (.draw l ((List.range l.length).map (chkOf (claims 0 l) (masksGo [] (ops.toList.map bindE)))))
     (.seq (.reg [⟨some (n+2),.pf .isP [.t d],none⟩]) (.cond (.t (n+2)) (.seq (.reg [⟨some (n+2),.pf .isU [.t (n+1)],none⟩]) (.cond (.t (n+2)) (.seq (.reg [⟨some n,.mv (.t d),none⟩]) (.exit PB)) stuckC)) .skip))))
  else some stuckC
 | none=>none
def cCodeP:Code→Option ACode
 | .skip=>some .skip
 | .region _ ops false=>match cItems P n ps ops ops.toList with
  | some its=>some (codeP n its [])
  | none=>none
 | .region _ ops true=>cDrawP P n ps ops
 | .seq a b=>match cCodeP a,cCodeP b with
  | some a,some b=>some (.seq a b)
  | _,_=>none
 | .cond c a b=>match cOpd c,cCodeP a,cCodeP b with
  | some c,some a,some b=>bif opdT n c then some (.cond c a b) else none
  | _,_,_=>none
 | .block id c=>match cCodeP c with
  | some c=>bif Nat.beq id PB then none else some (.block id c)
  | none=>none
 | .loop c=>match cCodeP c with
  | some c=>some (.loop c)
  | none=>none
 | .exit id=>bif Nat.beq id PB then none else some (.exit id)
 | .ret=>some (.exit PB)
 | _=>some stuckC
end
section
variable {tb:FuncId→Bool} {call:FuncId→List AVal→AHeap→Option (AVal×AHeap)} {k:Nat}
theorem codeP_acc(n:Nat):∀(its:List PItem) (acc:List AOper) (T:Tr AVal) (H:AHeap),aexec tb call k (codeP n its acc) T H=match aregs tb call acc.reverse T H with
  | some (T1,H1)=>aexec tb call k (codeP n its []) T1 H1
  | none=>none
 | [],acc,T,H=>by
  simp only[codeP,aexec,List.reverse_nil,aregs] <;> (cases aregs tb call acc.reverse T H <;> rfl)
 | .ord o::r,acc,T,H=>by
  simp only[codeP]
  rw[codeP_acc n r (o::acc),List.reverse_cons,aregs_app]
  cases aregs tb call acc.reverse T H with
  | none=>rfl
  | some p=>
   obtain⟨T1,H1⟩:=p
   simp only
   rw[codeP_acc n r [o] T1 H1]
   rfl
 | .dfr x::r,acc,T,H=>by
  simp only[codeP]
  rw[codeP_acc n r (_::acc),List.reverse_cons,aregs_app]
  cases aregs tb call acc.reverse T H with
  | none=>rfl
  | some p=>
   obtain⟨T1,H1⟩:=p
   simp only
   rw[codeP_acc n r [_] T1 H1]
   rfl
 | .pnc x::r,acc,T,H=>by
  simp only[codeP,aexec,aregs_app,List.reverse_nil,List.nil_append]
  cases aregs tb call acc.reverse T H with
  | none=>rfl
  | some p=>rfl
 | .tc f l d g::r,acc,T,H=>by
  simp only[codeP,aexec,aregs_app,List.reverse_nil,List.nil_append]
  cases aregs tb call acc.reverse T H with
  | none=>rfl
  | some p=>rfl
end
section
variable {P:Program} {Prot:Gh} {w0:World} {ρ:Pl} {H H':AHeap} {w:World}
def DfR(ρ:Pl)(x:AVal)(ds:List Deferred):Prop:=(x=undefA∧ds=[]) ∨
 ∃f a b d cap,x=.func (.func f) a b∧ds=[d]∧d.target=.fn (.func f) cap∧VRels ρ b cap.toList∧VRels ρ a d.args.toList
theorem DfR.mono{ρ ρ':Pl}(h:ρ.le ρ'){x:AVal}{ds:List Deferred}(d:DfR ρ x ds):DfR ρ' x ds:=by
 rcases d with d | ⟨f,a,b,d,cap,h1,h2,h3,h4,h5⟩
 ·exact .inl d
 ·exact .inr ⟨f,a,b,d,cap,h1,h2,h3,VRels.mono h _ _ h4,VRels.mono h _ _ h5⟩
structure GT(ρ:Pl)(n:Nat)(T:Tr AVal)(a:Act):Prop where
 t:∃U,GE n T U∧TmpsRel ρ n U a.tmps
 d:DfR ρ (ev T (.t (n+1))) a.defers
theorem GT.mono{ρ ρ':Pl}(h:ρ.le ρ'){n:Nat}{T:Tr AVal}{a:Act}(g:GT ρ n T a):GT ρ' n T a:=
 ⟨let ⟨U,h1,h2⟩:=g.t; ⟨U,h1,h2.mono h⟩,g.d.mono h⟩
theorem GT.ghost{n:Nat}{T:Tr AVal}{a:Act}(g:GT ρ n T a){d:Nat}(hd:n≤d)(hne:d≠n+1)(v:AVal):GT ρ n (T.set d v) a:=
 ⟨let ⟨U,h1,h2⟩:=g.t; ⟨U,h1.ghost hd v,h2⟩,by rw[ev_set,if_neg (fun e=>hne e.symm)]; exact g.d⟩
def PSt(ρ:Pl)(n:Nat)(T:Tr AVal)(a:Act):Prop:=GT ρ n T a∧ev T (.t n)=undefA
def PPan(ρ:Pl)(n:Nat)(T:Tr AVal)(a:Act)(u:Value):Prop:=∃x,ev T (.t n)=panV x∧VRel ρ x u∧((a.defers=[]∧ev T (.t (n+1))=undefA)∨GT ρ n T a)
def SimP(Prot:Gh)(w0:World)(ρ:Pl)(n:Nat)(e:AEx)(T:Tr AVal)(H:AHeap):Exit→Act→World→Prop:=fun e' a w=>
 ∃ρ',ρ.le ρ'∧Rel Prot w0 ρ' H w∧match e with
  | .normal=>e'=.normal∧PSt ρ' n T a
  | .exit id=>(id≠PB∧e'=.exit id∧PSt ρ' n T a)∨(id=PB∧((e'=.ret∧PSt ρ' n T a)∨∃u,e'=.panic [{ v:=u,recovered:=false }]∧PPan ρ' n T a u))
  | .ret=>False
theorem SimP.weaken{ρ ρ':Pl}{n:Nat}{e:AEx}{T:Tr AVal}{H:AHeap}(h:ρ.le ρ'){e':Exit}{a:Act}{w:World}(q:SimP Prot w0 ρ' n e T H e' a w):SimP Prot w0 ρ n e T H e' a w:=by
 obtain⟨ρ2,h2,h3⟩:=q
 exact⟨ρ2,Pl.le_trans h h2,h3⟩
theorem undef_of{x:AVal}(h:VRel ρ x undef):x=undefA:=by
 unfold undef at h
 cases x with
 | tuple l=>
  simp only[VRel]at h
  obtain⟨vs,e,hv⟩:=h
  simp only[Value.tuple.injEq]at e
  subst e
  cases l with
  | nil=>rfl
  | cons y l=>simp[VRels]at hv
 | ptr a=>cases a <;> simp[VRel]at h
 | slice a m r => cases a <;> simp only [VRel] at h
                  · simp at h
                  · obtain ⟨_, _, _, _, _, h3, _⟩ := slice_off (by simpa only [VRel] using h); simp at h3
 | map a=>cases a <;> simp[VRel]at h
 | val v=>simp only[VRel]at h; rw[← h.1]at h; simp[opq,Value.oneCell']at h
 | _=>simp[VRel]at h
theorem isPan_no{x:AVal}{v:Value}(h:VRel ρ x v):isPan x=false:=by
 cases hb:isPan x with
 | false=>rfl
 | true=>obtain⟨y,e⟩:=isPan_spec hb; exact (pan_no h e).elim
end
end Go.Abs
