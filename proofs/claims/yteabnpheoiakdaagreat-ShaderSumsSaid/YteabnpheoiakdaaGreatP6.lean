/- Part of a proof (D8 D9 A11 A11b A11c); no condition. -/
import Derived.LoopN
import Derived.Recover
import Derived.Test.YteabnpheoiakdaaGreatP5
set_option linter.unusedSimpArgs false
set_option linter.unusedVariables false
set_option linter.unnecessarySimpa false
namespace Go.Abs
section
variable {P:Program} {Prot:Gh} {w0:World} {tb:FuncId->Bool} {call:FuncId->List aa->ae->Option (aa×ae)}
def kE:gL->Option Nat
 | .hf (.fill b _) _=>some b
 | _=>none
def nO(D:Nat->Prop)(l:List al)(m:Nat->Bool):Nat->Prop:=fun d=>D d∨∃(i:Nat) (a:al),l[i]?=some a/\kE a.op=some d/\m i=false
set_option maxHeartbeats 2000000 in
theorem IY(htb:∀f,Nat.blt f cj=true->tb f=true->bO P f=true)(hcall:iW P call){ds:List Deferred}{n:Nat}{ops:Array Oper}{l:List al}{base:Nat}{ms:List Nat}
  (hlen:l.length=ops.toList.length) (hopers:∀(j:Nat) (o:Oper),ops.toList[j]?=some o->∃a,l[j]?=some a/\(dB P n ops o=some a∨∃c,base<=c/\JN P n ops o a c))
  (hbase:∀d,Prot.dead d->d<base) (hdis:∀(i j:Nat) (a b:al) (c:Nat),l[i]?=some a->l[j]?=some b->kE a.op=some c->kE b.op=some c->i=j) (hno:LU l)
  (hm:gz (ops.toList.map aU) ms=true) (hp:fk l ms=true) (hol:iH l ms=true) {T0:Tr aa} {H0:ae} {ss:List (aa×ae)} (htr:cQ tb call l T0 H0=some ss)
  (hck:fF tb (H0::ss.map (·.2)) l ((List.range l.length).map (dV l ms)) ss T0=true)
  (hap:∀i j,d6 l ms i j=true->∀x∈ct l ss T0 j,x∉ct l ss T0 i)
  (hal:∀i j k o,d6 l ms i j=true->l[k]?=some o->dn o.op=true->jz ms k j=false->jz ms j k=false->∀x∈ct l ss T0 j,x∉ct l ss T0 k) {ρ0:Pl} {Q:Exit->Act->World->Prop}
  (hQ:∀a w,(∃ρ,ρ0.le ρ/\bF Prot w0 ρ (ew H0 ss l.length) w/\be ρ n (bj (fun _=>true) 0 l ss T0) a.tmps/\a.defers=ds)->Q .normal a w) :
  ∀(fuel:Nat) (listed:Array Bool) (a:Act) (w:World),listed.size=ops.size->uI (fun i=>listed.getD i false) ops.size=fuel ->
   (∀j,j<ops.size->listed.getD j false=true->∀e∈(ops.toList.map aU).getD j [],listed.getD e false=true) ->
   (∃ρ Hx,ρ0.le ρ/\va l ss T0 H0 (fun i=>listed.getD i false) (aE (fun i=>listed.getD i false) 0 l) Hx/\bF ⟨Prot.prot,nO Prot.dead l fun i=>listed.getD i false⟩ w0 ρ Hx w /\
    be ρ n (bj (fun i=>listed.getD i false) 0 l ss T0) a.tmps/\a.defers=ds) ->
   wpAny P .any ops Q fuel listed a w:=by
 have hN:l.length=ops.size:=by simpa using hlen
 obtain⟨hsl,hat⟩:=gN l T0 H0 ss 0 htr
 have hes:(ops.toList.map aU).length=ops.size:=by simp
 have hpair:∀i j a b,i<j->l[i]?=some a->l[j]?=some b->j4 ms i j a b=true:=by
  intro i j a b hij hi hj
  have hp:=hp
  unfold fk at hp
  rw[List.all_eq_true]at hp
  have hjl:=(SC.1 hj).1
  have h1:=hp j (List.mem_range.2 hjl)
  rw[hj]at h1
  simp only at h1
  rw[List.all_eq_true]at h1
  have h2:=h1 i (List.mem_range.2 hij)
  rw[hi]at h2
  exact h2
 have hload:∀i j k o,d6 l ms i j=true->l[k]?=some o->dn o.op=true->jz ms k j=true->jz ms k i=true:=by
  intro i j k o h1 h2 h3 h4
  obtain⟨_,_,hi,hj,hij,_⟩:=fA hp h1
  unfold iH at hol
  rw[List.all_eq_true]at hol
  have q:=hol j (List.mem_range.2 (SC.1 hj).1)
  rw[List.all_eq_true]at q
  have q2:=q i (List.mem_range.2 hij)
  rw[h1]at q2
  simp only[Bool.not_true,Bool.false_or]at q2
  rw[List.all_eq_true]at q2
  have q3:=q2 k (List.mem_range.2 (SC.1 h2).1)
  rw[h2]at q3
  simpa[h3,h4] using q3
 intro fuel
 induction fuel with
 | zero=>
  intro listed a w hsz hu _ hinv
  have hall:∀i,i<ops.size->listed.getD i false=true:=su hu
  refine⟨?_,hQ a w ?_⟩
  ·unfold Region.ready
   rw[List.filter_eq_nil_iff]
   intro i hi
   have:=hall i (List.mem_range.1 hi)
   have e:listed.getD i true=true:=by
    rw[Array.getD_eq_getD_getElem?]at this ⊢
    rw[Array.getElem?_eq_getElem (by rw[hsz]; exact List.mem_range.1 hi)]at this ⊢
    simpa using this
   simp[e]
  ·obtain⟨ρ,Hx,h1,hH,h2,h3,h4⟩:=hinv
   have hst:aE (fun i=>listed.getD i false) 0 l=l.length:=by
    obtain⟨q1,q2,q3,q4⟩:=dY (fun i=>listed.getD i false) l 0
    rcases Nat.lt_or_ge (aE (fun i=>listed.getD i false) 0 l) l.length with q | q
    ·have ho:l[aE (fun i=>listed.getD i false) 0 l-0]?=some l[aE (fun i=>listed.getD i false) 0 l]:=by simp
     have:=(q4 _ (by simpa using q) ho).2
     rw[hall _ om]at this
     simp at this
    ·omega
   rw[hst]at hH
   refine⟨ρ,h1,?_,h3.congr fun t=>?_,h4⟩
   ·have:=h2.ext_heap (H':=ew H0 ss l.length) hH.next.symm fun x=>(hH.base x fun q q1 q2=>by
     obtain⟨_,o,q3,_⟩:=q2
     have:=(SC.1 q3).1
     omega).symm
    exact this.fewer (D:=Prot.dead) fun d hd=>.inl hd
   ·refine fV l ss 0 T0 T0 rfl fun i o hi _=>?_
    have:=(SC.1 hi).1
    simp only[Nat.zero_add]
    exact (hall i om).symm
 | succ fuel ih=>
  intro listed a w hsz hu hdown hinv
  obtain⟨ρ,Hx,hle,hH,R,ht,hd⟩:=hinv
  have hml:=qK hm (m:=fun i=>listed.getD i false) (fun j hj hjl e he=>hdown j om hjl e he)
  have hmask:∀j,j<ops.size->(∀e∈(ops.toList.map aU).getD j [],listed.getD e false=true)->∀i,i<j->jz ms j i=true->listed.getD i false=true:=
   fun j hj he i hi hb=>hml j om he i hi hb
  have hDn:OE l ms (fun i=>listed.getD i false):=fun j hj hjl i hi hb=>hmask j om (hdown j om hjl) i hi hb
  refine⟨fun hnone=>?_,fun i hi=>?_⟩
  ·-- there is one that is ready
   exfalso
   have hex:∃i,i<ops.size/\listed.getD i false=false:=by
    rcases Classical.em (∃i,i<ops.size/\listed.getD i false=false) with h | h
    ·exact h
    ·exfalso
     have:uI (fun i=>listed.getD i false) ops.size=0:=wX fun i hi=>by
      cases hb:listed.getD i false with
      | true=>rfl
      | false=>exact (h ⟨i,hi,hb⟩).elim
     omega
   have hmin:∃i,i<ops.size/\listed.getD i false=false/\∀j,j<i->listed.getD j false=true:=by
    obtain⟨i,hi1,hi2⟩:=hex
    induction i using Nat.strongRecOn with
    | _ i ihm=>
     rcases Classical.em (∃j,j<i/\listed.getD j false=false) with⟨j,hj,hj2⟩ | h
     ·exact ihm j hj om hj2
     ·refine⟨i,hi1,hi2,fun j hj=>?_⟩
      cases hb:listed.getD j false with
      | true=>rfl
      | false=>exact (h ⟨j,hj,hb⟩).elim
   obtain⟨i,hi1,hi2,hi3⟩:=hmin
   have:i∈Region.ready .any ops listed:=by
    rw[mem_ready]
    refine⟨?_,ops[i],Array.getElem?_eq_getElem hi1,fun e he hb=>?_⟩
    ·rw[Array.getD_eq_getD_getElem?]at hi2 ⊢
     rw[Array.getElem?_eq_getElem om]at hi2 ⊢
     simpa using hi2
    ·refine hi3 _ ?_
     unfold gz at hm
     rw[List.all_eq_true]at hm
     have h1:=hm i (List.mem_range.2 om)
     simp only[SE,List.all_eq_true]at h1
     refine SH (h1.1 e.on ?_)
     have:(ops.toList.map aU).getD i []=aU ops[i]:=by simp[List.getD,hi1]
     rw[this]
     unfold aU
     rw[List.mem_map]
     exact⟨e,by rw[List.mem_filter]; exact⟨by simpa using he,hb⟩,rfl⟩
   rw[hnone]at this
   simp at this
  ·obtain⟨hi1,o,ho,hedge⟩:=mem_ready.1 hi
   have hiN:i<ops.size:=(Array.getElem?_eq_some_iff.1 ho).1
   have hmi:listed.getD i false=false:=by
    rw[Array.getD_eq_getD_getElem?]at hi1 ⊢
    rw[Array.getElem?_eq_getElem om]at hi1 ⊢
    simpa using hi1
   obtain⟨ao,hao,hco⟩:=hopers i o (by simpa using ho)
   have hedges:∀e∈(ops.toList.map aU).getD i [],listed.getD e false=true:=by
    have:(ops.toList.map aU).getD i []=aU o:=by
     have:ops[i]=o:=by simpa[Array.getElem?_eq_getElem hiN] using ho
     simp[List.getD,hiN,this]
    rw[this]
    intro e he
    unfold aU at he
    rw[List.mem_map]at he
    obtain⟨x,hx,rfl⟩:=he
    rw[List.mem_filter]at hx
    exact hedge x (by simpa using hx.1) hx.2
   have hafter:∀c b,i<c->l[c]?=some b->jz ms c i=true->listed.getD c false=false:=by
    intro c b hc hb hbit
    cases hx:listed.getD c false with
    | false=>rfl
    | true=>
     have hcN:=(SC.1 hb).1
     have:=hmask c om (hdown c om hx) i hc hbit
     rw[hmi]at this
     simp at this
   have hagree:∀t∈hY ao,(bj (fun i=>listed.getD i false) 0 l ss T0).get t=(bj (fun j=>Nat.blt j (0+i)) 0 l ss T0).get t:=by
    intro t htr'
    refine fV l ss 0 T0 T0 rfl fun c b hc hdst=>?_
    have hcN:=(SC.1 hc).1
    simp only[Nat.zero_add]
    rcases Nat.lt_trichotomy c i with h | h | h
    ·have e:Nat.blt c i=true:=SD h
     rw[e]
     have hpr:=hpair c i b ao h hc hao
     simp only[j4,Bool.or_eq_true,SE]at hpr
     rcases hpr with hpr | ⟨hpr,_⟩
     ·exact hmask i hiN hedges c h hpr
     ·exfalso
      simp only[uV,hdst,SE,Bool.not_eq_true',List.contains_eq_mem,decide_eq_false_iff_not]at hpr
      exact hpr.1.1 htr'
    ·subst h
     have e:Nat.blt c c=false:=by
      cases hb:Nat.blt c c with
      | false=>rfl
      | true=>have:=SH hb; omega
     rw[e]; exact hmi
    ·have e:Nat.blt c i=false:=by
      cases hb:Nat.blt c i with
      | false=>rfl
      | true=>have:=SH hb; omega
     rw[e]
     have hpr:=hpair i c ao b h hao hc
     simp only[j4,Bool.or_eq_true,SE]at hpr
     rcases hpr with hpr | ⟨hpr,_⟩
     ·exact hafter c b h hc hpr
     ·exfalso
      simp only[uV,hdst,SE,Bool.not_eq_true',List.contains_eq_mem,decide_eq_false_iff_not]at hpr
      exact hpr.2 htr'
   have hgd:gY (bj (fun i=>listed.getD i false) 0 l ss T0) ao.guard=gY (bj (fun j=>Nat.blt j (0+i)) 0 l ss T0) ao.guard:=by
    cases hg:ao.guard with
    | none=>rfl
    | some g=>
     obtain⟨t,b⟩:=g
     simp only[gY,ev]
     rw[hagree (gS t) (by simp[hY,hg])]
   have hop:∀H,bW tb (bj (fun i=>listed.getD i false) 0 l ss T0) H ao.op=bW tb (bj (fun j=>Nat.blt j (0+i)) 0 l ss T0) H ao.op:=
    fun H=>wM fun t h=>hagree t (by simp only[hY,List.mem_append]; exact .inl h)
   obtain⟨v,H1,hss,hstep⟩:=hat i ao hao
   obtain⟨st1,st2,st3,st4⟩:=dY (fun i=>listed.getD i false) l 0
   have hready:∀c,c<i->jz ms i c=true->listed.getD c false=true:=fun c h1 h2=>hmask i hiN hedges c h1 h2
   have hm':∀j,(listed.setIfInBounds i true).getD j false=dS (fun i=>listed.getD i false) i j:=by
    intro j
    unfold dS
    by_cases e:j=i
    ·subst e
     rw[if_pos rfl,Array.getD_eq_getD_getElem?]
     have:j<listed.size:=om
     simp[this]
    ·rw[if_neg e]
     exact getD_set_ne false (fun q=>e q.symm)
   have hmf:(fun j=>(listed.setIfInBounds i true).getD j false)=dS (fun i=>listed.getD i false) i:=funext hm'
   have hnext:∀(ρ':Pl) (w':World) (a':Act) (H3:ae),ρ.le ρ'->va l ss T0 H0 (dS (fun i=>listed.getD i false) i) (aE (dS (fun i=>listed.getD i false) i) 0 l) H3 ->
     bF ⟨Prot.prot,nO Prot.dead l (dS (fun i=>listed.getD i false) i)⟩ w0 ρ' H3 w' ->
     be ρ' n (cR (bj (fun i=>listed.getD i false) 0 l ss T0) ao.dst v) a'.tmps->a'.defers=ds->wpAny P .any ops Q fuel (listed.setIfInBounds i true) a' w':=by
    intro ρ' w' a' H3 hle' hH' R' ht' hd'
    refine ih _ a' w' (by simpa using hsz) ?_ ?_ ⟨ρ',H3,Pl.le_trans hle hle',by rw[hmf]; exact hH',by rw[hmf]; exact R',?_,hd'⟩
    ·have:=wW (m:=fun i=>listed.getD i false) (m':=fun j=>(listed.setIfInBounds i true).getD j false) (i:=i) (n:=ops.size) hiN hmi (by rw[hm']; simp[dS]) (fun j hj=>by rw[hm']; simp[dS,hj])
     omega
    ·intro j hj hjl e he
     rw[hm']at hjl ⊢
     simp only[dS]at hjl ⊢
     by_cases q:e=i
     ·rw[if_pos q]
     ·rw[if_neg q]
      by_cases q2:j=i
      ·subst q2; exact hedges e he
      ·rw[if_neg q2]at hjl; exact hdown j hj hjl e he
    ·refine ht'.congr fun t=>?_
     rw[hmf,lD]
     by_cases e:ao.dst=some t
     ·rw[if_pos e]
      refine jC l ss 0 i T0 ao v H1 hao hss e (by simp[dS]) fun c b hc hcb hdst=>?_
      simp only[Nat.zero_add,dS]
      rw[if_neg om]
      have hpr:=hpair i c ao b hc hao hcb
      simp only[j4,Bool.or_eq_true,SE]at hpr
      rcases hpr with hpr | ⟨hpr,_⟩
      ·exact hafter c b hc hcb hpr
      ·exfalso
       simp only[uV,e,SE,Bool.not_eq_true',beq_eq_false_iff_ne]at hpr
       exact hpr.1.2 hdst
     ·rw[if_neg e]
      refine fV l ss 0 T0 T0 rfl fun c b hc hdst=>?_
      simp only[Nat.zero_add,dS]
      rw[if_neg]
      intro q
      subst q
      rw[hao]at hc
      simp only[sJ]at hc
      subst hc
      exact e hdst
   have hge:aJ ao.op=true->aE (fun i=>listed.getD i false) 0 l<=i:=by
    intro hc
    rcases Nat.lt_or_ge i (aE (fun i=>listed.getD i false) 0 l) with h | h
    ·have:=st3 i ao hao hc (by simpa using h)
     simp only[Nat.zero_add]at this
     rw[hmi]at this
     simp at this
    ·exact h
   have hlink:aJ ao.op=true->∃Hy H3,Hy.next=Hx.next/\(∀x,Hy.get x=Hx.get x)/\br tb call ao (bj (fun j=>Nat.blt j (0+i)) 0 l ss T0) Hy=some (v,H3) /\
     va l ss T0 H0 (dS (fun i=>listed.getD i false) i) (aE (dS (fun i=>listed.getD i false) i) 0 l) H3:=by
    intro hc
    have h1:=hge hc
    have hpl:aE (fun i=>listed.getD i false) 0 l<l.length:=om
    have hob2:l[aE (fun i=>listed.getD i false) 0 l]?=some (l[aE (fun i=>listed.getD i false) 0 l]'hpl):=SB hpl
    obtain⟨q1,q2⟩:=st4 _ om (by rw[Nat.sub_zero]; exact hob2)
    obtain⟨s1,s2,s3,s4⟩:=dY (dS (fun i=>listed.getD i false) i) l 0
    rcases Nat.lt_or_ge (aE (fun i=>listed.getD i false) 0 l) i with h | h
    ·obtain⟨H3,e1,e2⟩:=Lc htr hp hap hDn hob2 q1 q2 hao hc hmi hready h hH hss hstep
     have e3:aE (dS (fun i=>listed.getD i false) i) 0 l=aE (fun i=>listed.getD i false) 0 l:=by
      rcases Nat.lt_trichotomy (aE (dS (fun i=>listed.getD i false) i) 0 l) (aE (fun i=>listed.getD i false) 0 l) with k | k | k
      ·exfalso
       have hob3:l[aE (dS (fun i=>listed.getD i false) i) 0 l]?=some (l[aE (dS (fun i=>listed.getD i false) i) 0 l]'om):=SB om
       obtain⟨r1,r2⟩:=s4 _ om (by rw[Nat.sub_zero]; exact hob3)
       have:=st3 _ _ hob3 r1 om
       simp only[Nat.zero_add]at this
       simp only[dS]at r2
       split at r2
       ·simp at r2
       ·rw[r2]at this; simp at this
      ·exact k
      ·exfalso
       have:=s3 _ _ hob2 q1 om
       simp only[Nat.zero_add,dS]at this
       rw[if_neg om,q2]at this
       simp at this
     exact⟨Hx,H3,rfl,fun _=>rfl,e1,by rw[e3]; exact e2⟩
    ·have hpi:aE (fun i=>listed.getD i false) 0 l=i:=om
     rw[hpi]at hH
     refine K0 htr hp hap hDn hao hc hmi ?_ om (fun c oc k1 k2 k3 k4=>?_) hH hss hstep
     ·rcases Nat.lt_or_ge i (aE (dS (fun i=>listed.getD i false) i) 0 l) with k | k
      ·exact k
      ·exfalso
       have hob3:l[aE (dS (fun i=>listed.getD i false) i) 0 l]?=some (l[aE (dS (fun i=>listed.getD i false) i) 0 l]'om):=SB om
       obtain⟨r1,r2⟩:=s4 _ om (by rw[Nat.sub_zero]; exact hob3)
       simp only[dS]at r2
       split at r2
       ·simp at r2
       ·have:=st3 _ _ hob3 r1 om
        simp only[Nat.zero_add]at this
        rw[r2]at this; simp at this
     ·have:=s3 c oc k3 k4 om
      simp only[Nat.zero_add,dS]at this
      rwa [if_neg om]at this
   have hplain:aJ ao.op=false->va l ss T0 H0 (dS (fun i=>listed.getD i false) i) (aE (dS (fun i=>listed.getD i false) i) 0 l) Hx:=by
    intro hc
    have e3:aE (dS (fun i=>listed.getD i false) i) 0 l=aE (fun i=>listed.getD i false) 0 l:=gP l 0 fun c b hcb hcc=>by
     simp only[Nat.zero_add,dS]
     rw[if_neg]
     intro e
     subst e
     rw[hao]at hcb
     simp only[sJ]at hcb
     subst hcb
     rw[hc]at hcc
     simp at hcc
    rw[e3]
    exact Lb hao hc hH
   have hval:aJ ao.op=false->gY (bj (fun j=>Nat.blt j (0+i)) 0 l ss T0) ao.guard=true->bW tb (bj (fun j=>Nat.blt j (0+i)) 0 l ss T0) Hx ao.op=some (.val v,Hx):=by
    intro hc hgo
    unfold br at hstep
    rw[hgo]at hstep
    simp only[cond_true]at hstep
    cases hpu:jx ao.op with
    | true=>
     split at hstep
     ·rename_i u H2 hu
      simp only[sJ,pJ]at hstep
      obtain⟨rfl,rfl⟩:=hstep
      exact (fy hpu hu).2.2 _
     ·rename_i f args H2 hu
      obtain⟨_,⟨x,hx⟩,_⟩:=fy hpu hu
      simp at hx
     ·simp at hstep
    | false=>
     have hld:dn ao.op=true:=by
      unfold aJ at hc
      cases h1:dn ao.op with
      | true=>rfl
      | false=>rw[hpu,h1]at hc; simp at hc
     have hw:∃H2,bW tb (bj (fun j=>Nat.blt j (0+i)) 0 l ss T0) (ew H0 ss (aE (fun i=>listed.getD i false) 0 l)) ao.op=some (.val v,H2):=by
      cases hsm:qD l i (aE (fun i=>listed.getD i false) 0 l) with
      | true=>
       unfold qD at hsm
       rw[SE,List.all_eq_true]at hsm
       have hij:=SH hsm.1
       have hb:=de htr (aE (fun i=>listed.getD i false) 0 l-i) i om fun c b c1 c2 c3=>by
        have:=hsm.2 c (List.mem_range.2 om)
        rw[c3]at this
        simp only[Bool.or_eq_true,Bool.not_eq_true']at this
        rcases this with h | h
        ·have:=SH h; omega
        ·exact h
       rw[show i+(aE (fun i=>listed.getD i false) 0 l-i)=aE (fun i=>listed.getD i false) 0 l by omega]at hb
       rw[hb]
       split at hstep
       ·rename_i u H2 hu
        simp only[sJ,pJ]at hstep
        obtain⟨rfl,rfl⟩:=hstep
        exact⟨_,hu⟩
       ·rename_i f args H2 hu
        obtain⟨_,x,hx⟩:=iJ hld hu
        simp at hx
       ·simp at hstep
      | false=>
       have hmem:aE (fun i=>listed.getD i false) 0 l∈dV l ms i:=by
        unfold dV
        rw[hao]
        simp only[hld,cond_true]
        rw[List.mem_filter]
        refine⟨List.mem_range.2 om,?_⟩
        rw[hsm]
        simp only[Bool.not_false,Bool.true_and]
        unfold vR
        rw[SE]
        refine⟨?_,?_⟩
        ·unfold mA
         rcases Nat.lt_or_ge (aE (fun i=>listed.getD i false) 0 l) l.length with h | h
         ·have hob:l[aE (fun i=>listed.getD i false) 0 l]?=some l[aE (fun i=>listed.getD i false) 0 l]:=SB h
          rw[hob]
          exact (st4 _ om (by simp)).1
         ·rw[SV h]
          have:aE (fun i=>listed.getD i false) 0 l=l.length:=om
          rw[this]
          exact Nat.beq_refl _
        ·rw[List.all_eq_true]
         intro c hcr
         have hcl:=List.mem_range.1 hcr
         rw[SB hcl]
         simp only[Bool.or_eq_true,Bool.not_eq_true']
         cases hcc:aJ l[c].op with
         | false=>exact .inl rfl
         | true=>
          right
          have hlc:l[c]?=some l[c]:=SB hcl
          cases hb:Nat.blt c (aE (fun i=>listed.getD i false) 0 l) with
          | true=>
           simp only[cond_true,Bool.not_eq_true']
           have hlt:c<aE (fun i=>listed.getD i false) 0 l:=SH hb
           have hcm:=st3 c _ hlc hcc om
           simp only[Nat.zero_add]at hcm
           cases hbit:jz ms c i with
           | false=>rfl
           | true=>
            exfalso
            rcases Nat.lt_trichotomy i c with h | h | h
            ·have:=hafter c _ h hlc hbit
             rw[hcm]at this; simp at this
            ·subst h; rw[hmi]at hcm; simp at hcm
            ·have:=kp hbit
             omega
          | false=>
           simp only[cond_false,Bool.not_eq_true']
           have hge:aE (fun i=>listed.getD i false) 0 l<=c:=by
            rcases Nat.lt_or_ge c (aE (fun i=>listed.getD i false) 0 l) with h | h
            ·have:Nat.blt c (aE (fun i=>listed.getD i false) 0 l)=true:=SD h
             rw[hb]at this; simp at this
            ·exact h
           cases hbit:jz ms i c with
           | false=>rfl
           | true=>
            exfalso
            have hlc2:=hmask i hiN hedges c (kp hbit) hbit
            have hpl:aE (fun i=>listed.getD i false) 0 l<l.length:=om
            have hob2:l[aE (fun i=>listed.getD i false) 0 l]?=some (l[aE (fun i=>listed.getD i false) 0 l]'hpl):=SB hpl
            obtain⟨q1,q2⟩:=st4 _ om (by rw[Nat.sub_zero]; exact hob2)
            rcases Nat.lt_trichotomy (aE (fun i=>listed.getD i false) 0 l) c with h | h | h
            ·cases hpr:jz ms c (aE (fun i=>listed.getD i false) 0 l) with
             | true=>
              have:=hmask c om (hdown c om hlc2) _ h hpr
              rw[q2]at this; simp at this
             | false=>
              have hlp:=pR hob2 hlc h q1 hcc hpr
              have:=hload _ _ i ao hlp hao hld hbit
              have:=hready _ (kp this) this
              rw[q2]at this; simp at this
            ·rw[h]at q2; rw[q2]at hlc2; simp at hlc2
            ·omega
       obtain⟨Hp,hHp,hrun⟩:=I3 l _ ss T0 0 hck i _ (dV l ms i) v H1 hao (by simp[hN,hiN]) hss _ hmem
       obtain⟨H2,hH2⟩:=hrun hgo
       refine⟨H2,?_⟩
       have:Hp=ew H0 ss (aE (fun i=>listed.getD i false) 0 l):=by
        cases hstg:aE (fun i=>listed.getD i false) 0 l with
        | zero=>rw[hstg]at hHp; simpa[ew] using hHp.symm
        | succ q=>
         rw[hstg]at hHp
         simp only[SN,List.getElem?_map]at hHp
         simp only[ew]
         cases hq:ss[q]? with
         | none=>rw[hq]at hHp; simp at hHp
         | some z=>rw[hq]at hHp; obtain⟨z1,z2⟩:=z; simpa using hHp.symm
       rw[<- this]
       exact hH2
     obtain⟨H2,hH2⟩:=hw
     have hE:∀q,aE (fun i=>listed.getD i false) 0 l<=q->dW l (fun i=>listed.getD i false) q->∀x∈ct l ss T0 q,x∉ct l ss T0 i:=by
      intro q hq he
      obtain⟨he1,oq,he2,he3⟩:=he
      have hql:=(SC.1 he2).1
      have hpl:aE (fun i=>listed.getD i false) 0 l<l.length:=om
      have hob2:l[aE (fun i=>listed.getD i false) 0 l]?=some (l[aE (fun i=>listed.getD i false) 0 l]'hpl):=SB hpl
      obtain⟨q1,q2⟩:=st4 _ om (by rw[Nat.sub_zero]; exact hob2)
      have hpq:aE (fun i=>listed.getD i false) 0 l<q:=by
       rcases Nat.lt_or_ge (aE (fun i=>listed.getD i false) 0 l) q with k | k
       ·exact k
       ·exfalso
        have e9:q=aE (fun i=>listed.getD i false) 0 l:=om
        have h9:listed.getD q false=true:=he1
        rw[e9,q2]at h9; simp at h9
      have hlp:=dU hDn hob2 q1 q2 hpq ⟨he1,oq,he2,he3⟩
      refine hal _ q i ao hlp hao hld ?_ ?_
      ·cases hb:jz ms i q with
       | false=>rfl
       | true=>
        have:=hload _ _ i ao hlp hao hld hb
        have:=hready _ (kp this) this
        rw[q2]at this; simp at this
      ·cases hb:jz ms q i with
       | false=>rfl
       | true=>
        have h9:listed.getD i false=true:=hDn q hql he1 i (kp hb) hb
        rw[hmi]at h9; simp at h9
     cases hop':ao.op <;> rw[hop']at hld <;> simp only[dn,SO]at hld
     case load agg k x=>
      rw[hop']at hH2
      simp only[bW]at hH2 ⊢
      have htc:ct l ss T0 i=fH (bj (fun j=>Nat.blt j (0+i)) 0 l ss T0) ao.op v:=by simp only[ct,hao,hss]
      have hfr:au agg k Hx (ev (bj (fun j=>Nat.blt j (0+i)) 0 l ss T0) x)=au agg k (ew H0 ss (aE (fun i=>listed.getD i false) 0 l)) (ev (bj (fun j=>Nat.blt j (0+i)) 0 l ss T0) x):=
       Bm fun b hb=>hH.base b fun q k1 k2 k3=>hE q k1 k2 b k3 (by rw[htc,hop']; exact jM (List.mem_singleton.2 rfl) hb)
      rw[hfr]
      obtain⟨e1,e2,e3⟩:=nZ hH2
      exact e3 _
     case claim b z s=>exact absurd hop' (hno ao (SJ hao) b z s)
   have hfew:∀d,nO Prot.dead l (dS (fun i=>listed.getD i false) i) d->nO Prot.dead l (fun i=>listed.getD i false) d:=by
    rintro d (hd | ⟨i',a',x1,x2,x3⟩)
    ·exact .inl hd
    ·refine .inr ⟨i',a',x1,x2,?_⟩
     simp only[dS]at x3
     split at x3
     ·simp at x3
     ·exact x3
   have hord:(∃ax g,uG P o.op=some ax/\dQ n o.dst=true/\ao=⟨o.dst,ax,g⟩/\iQ n ops o.guard=some g)∨(∃c,base<=c/\JN P n ops o ao c):=by
    rcases hco with hco | hco
    ·unfold dB at hco
     split at hco
     ·rename_i ax g hopc hgc
      cases hdst:dQ n o.dst with
      | false=>rw[hdst]at hco; simp at hco
      | true=>
       rw[hdst]at hco
       simp only[cond_true,sJ]at hco
       exact .inl ⟨ax,g,hopc,rfl,hco.symm,hgc⟩
     ·simp at hco
    ·exact .inr hco
   rcases hord with⟨ax,g,hopc,hdst,rfl,hgc⟩ | ⟨cb,hcb,ao',k,lx,g,hopc,hfo,hgc,hdst,rfl⟩
   ·simp only at hgd hop hnext hao hlink hplain hval
    unfold wpOp
    simp only[ho]
    rw[fZ ht hgc,hgd]
    have hd':∀u,(a.put o.dst u).defers=ds:=fun u=>by cases hx:o.dst <;> simpa[Act.put] using hd
    cases hc:aJ ax with
    | true=>
     obtain⟨Hy,H3,y1,y2,y3,y4⟩:=hlink hc
     have Ry:=R.ext_heap y1 y2
     unfold br at y3
     simp only at y3
     cases hgo:gY (bj (fun j=>Nat.blt j (0+i)) 0 l ss T0) g with
     | false=>
      rw[hgo]at y3
      simp only[cond_false,sJ,pJ]at y3
      obtain⟨rfl,rfl⟩:=y3
      simp only[SO,if_false]
      exact hnext ρ w _ Hy (Pl.le_refl _) y4 (Ry.fewer hfew) (cf ht hdst eg) (hd' _)
     | true=>
      rw[hgo]at y3
      simp only[cond_true]at y3
      simp only[if_true]
      left
      rw[<- hop]at y3
      split at y3
      ·rename_i u H2 hu
       simp only[sJ,pJ]at y3
       obtain⟨rfl,rfl⟩:=y3
       obtain⟨ρ1,w1,nx,q1,q2,q3,q4⟩:=jw htb Ry ht o hopc hu
       simp only[Oper.wp,q2]
       cases nx <;> simp only[jQ]at q4
       case value u=>exact hnext ρ1 w1 _ _ q1 y4 (q3.fewer hfew) (cf (ht.mono q1) hdst q4) (hd' _)
       case skip=>exact hnext ρ1 w1 _ _ q1 y4 (q3.fewer hfew) (cf (ht.mono q1) hdst q4) (hd' _)
      ·rename_i f args H2 hu
       obtain⟨ρ1,w1,nx,q1,q2,q3,q4⟩:=jw htb Ry ht o hopc hu
       simp only[Oper.wp,q2]
       cases nx <;> simp only[jQ]at q4
       case enter gf vs=>
        obtain⟨rfl,hbig,q5⟩:=q4
        simp only[Oper.upon]
        refine (hcall _ _ _ _ _ hbig y3 ⟨Prot.prot,nO Prot.dead l fun i=>listed.getD i false⟩ w0 ρ1 w1 vs q3 q5).mono fun e w' hr=>?_
        obtain⟨ρ2,u,r1,rfl,r3,r4⟩:=hr
        exact hnext ρ2 w' _ _ (Pl.le_trans q1 r1) y4 (r3.fewer hfew) (cf ((ht.mono q1).mono r1) hdst r4) (hd' _)
      ·simp at y3
    | false=>
     have y4:=hplain hc
     cases hgo:gY (bj (fun j=>Nat.blt j (0+i)) 0 l ss T0) g with
     | false=>
      unfold br at hstep
      simp only at hstep
      rw[hgo]at hstep
      simp only[cond_false,sJ,pJ]at hstep
      obtain⟨rfl,rfl⟩:=hstep
      simp only[SO,if_false]
      exact hnext ρ w _ Hx (Pl.le_refl _) y4 (R.fewer hfew) (cf ht hdst eg) (hd' _)
     | true=>
      simp only[if_true]
      left
      have hH2:=hval hc hgo
      rw[<- hop]at hH2
      obtain⟨ρ1,w1,nx,q1,q2,q3,q4⟩:=jw htb R ht o hopc hH2
      simp only[Oper.wp,q2]
      cases nx <;> simp only[jQ]at q4
      case value u=>exact hnext ρ1 w1 _ Hx q1 y4 (q3.fewer hfew) (cf (ht.mono q1) hdst q4) (hd' _)
      case skip=>exact hnext ρ1 w1 _ Hx q1 y4 (q3.fewer hfew) (cf (ht.mono q1) hdst q4) (hd' _)
   ·-- a row,in a block that was laid lP
    simp only at hgd hop hnext hao hlink
    unfold wpOp
    simp only[ho]
    rw[fZ ht hgc,hgd]
    have hd':∀u,(a.put o.dst u).defers=ds:=fun u=>by cases hx:o.dst <;> simpa[Act.put] using hd
    obtain⟨Hy,H3,y1,y2,y3,y4⟩:=hlink rfl
    have Ry:=R.ext_heap y1 y2
    unfold br at y3
    simp only at y3
    cases hgo:gY (bj (fun j=>Nat.blt j (0+i)) 0 l ss T0) g with
    | false=>
     rw[hgo]at y3
     simp only[cond_false,sJ,pJ]at y3
     obtain⟨rfl,rfl⟩:=y3
     simp only[SO,if_false]
     exact hnext ρ w _ Hy (Pl.le_refl _) y4 (Ry.fewer hfew) (cf ht hdst eg) (hd' _)
    | true=>
     rw[hgo]at y3
     simp only[cond_true]at y3
     simp only[if_true]
     left
     rw[<- hop]at y3
     simp only[bW,mV]at y3
     cases hf:gG k cb Hy (fT (bj (fun i=>listed.getD i false) 0 l ss T0) lx) with
     | none=>rw[hf]at y3; simp[vh]at y3
     | some q=>
      obtain⟨u0,H4⟩:=q
      rw[hf]at y3
      simp only[vh,sJ,pJ]at y3
      obtain⟨rfl,rfl⟩:=y3
      obtain⟨ρ1,w1,u,q1,hrun,q3,q4⟩:=IJ Ry ht hopc hfo (.inr ⟨i,_,hao,rfl,hmi⟩) hf
      simp only[Oper.wp,hrun]
      refine hnext ρ1 w1 _ _ q1 y4 (q3.fewer ?_) (cf (ht.mono q1) hdst q4) (hd' _)
      intro d hd0
      refine⟨hfew d hd0,?_⟩
      rintro rfl
      rcases hd0 with hd0 | ⟨i',a',x1,x2,x3⟩
      ·have:=hbase _ hd0; omega
      ·have:=hdis i' i a' _ _ x1 hao x2 rfl
       subst this
       simp[dS]at x3
end
end Go.Abs
namespace Go.Abs
def dO:Option Nat->List a8
 | some d=>[.t d]
 | none=>[]
def pG(o:al):List a8:=match o.op with
 | .store _ a _=>[a]
 | .append _ _ s x=>s::x::dO o.dst
 | .hf (.fill ..) _=>dO o.dst
 | .load _ _ x=>[x]
 | _=>[]
def mY(l:List al)(c t:Nat):Bool:=match l[c]? with
 | some o=>match o.dst with
  | some d=>Nat.beq d t
  | none=>false
 | none=>false
def ol(l:List al)(q:Nat):a8->Bool
 | .t t=>(List.range l.length).all fun c=>Nat.blt c q||!mY l c t
 | _=>true
def ga(l:List al)(q:Nat):Option Nat->Bool
 | some d=>(List.range l.length).all fun c=>Nat.ble c q||!mY l c d
 | none=>false
def xz(l:List al)(q:Nat):Bool:=match l[q]? with
 | some o=>match o.op with
  | .store _ a _=>ol l q a
  | .append _ _ s x=>ol l q s&&(ol l q x&&ga l q o.dst)
  | .hf (.fill ..) _=>ga l q o.dst
  | .load _ _ x=>ol l q x
  | _=>true
 | none=>true
def ji(l:List al):Bool:=(List.range l.length).all (xz l)
def nu(l:List al)(j i:Nat):List (a8×a8):=match l[j]?,l[i]? with
 | some b,some a=>(pG b).flatMap fun y=>(pG a).map fun x=>(y,x)
 | _,_=>[]
def iy(l:List al)(ms:List Nat)(j k:Nat):Bool:=match l[k]? with
 | some o=>dn o.op&&(!jz ms k j&&!jz ms j k)
 | none=>false
def jp(l:List al)(ms:List Nat):List (a8×a8):=
 (List.range l.length).flatMap fun j=>(List.range j).flatMap fun i=>bif d6 l ms i j then
  nu l j i++(List.range l.length).flatMap fun k=>bif iy l ms j k then nu l j k else [] else []
def rM(p:a8×a8):al:=⟨none,.pf .apart [p.1,p.2],none⟩
section
variable {tb:FuncId->Bool} {call:FuncId->List aa->ae->Option (aa×ae)} {l:List al} {ms:List Nat} {T0:Tr aa} {H0:ae} {ss:List (aa×ae)}
theorem vf{c t:Nat}{o:al}(h:l[c]?=some o)(hd:o.dst=some t):mY l c t=true:=by
 unfold mY; simp only[h,hd]; exact Nat.beq_refl t
theorem oj{q:Nat}{x:a8}(h:ol l q x=true):ev (bj (fun _=>true) 0 l ss T0) x=ev (bj (fun i=>Nat.blt i (0+q)) 0 l ss T0) x:=by
 cases x with
 | t t=>
  simp only[ev]
  rw[fV l ss 0 T0 T0 rfl fun c o hc hd=>?_]
  simp only[ol]at h
  rw[List.all_eq_true]at h
  have:=h c (List.mem_range.2 (SC.1 hc).1)
  rw[vf hc hd]at this
  simp only[Bool.not_true,Bool.or_false]at this
  simp only[Nat.zero_add]
  exact this.symm
 | _=>rfl
theorem N3{q d:Nat}{o:al}{v:aa}{H':ae}(hq:l[q]?=some o)(hs:ss[q]?=some (v,H'))(hd:o.dst=some d)(h:ga l q o.dst=true):ev (bj (fun _=>true) 0 l ss T0) (.t d)=v:=by
 rw[hd]at h
 simp only[ga]at h
 rw[List.all_eq_true]at h
 have hn:∀c oc,q<c->l[c]?=some oc->oc.dst=some d->False:=by
  intro c oc hc h1 h2
  have:=h c (List.mem_range.2 (SC.1 h1).1)
  rw[vf h1 h2]at this
  simp only[Bool.not_true,Bool.or_false]at this
  have:=SH this
  omega
 have e:(bj (fun _=>true) 0 l ss T0).get d=some v:=by
  have e1:=jC (m:=fun i=>Nat.ble i q) l ss 0 q T0 o v H' hq hs hd (by simp only[Nat.zero_add]; exact SD (Nat.le_refl q)) fun i o' h1 h2 h3=>(hn i o' h1 h2 h3).elim
  rw[<- e1]
  refine fV l ss 0 T0 T0 rfl fun c oc hc hdc=>?_
  simp only[Nat.zero_add]
  rcases Nat.lt_or_ge q c with k | k
  ·exact (hn c oc k hc hdc).elim
  ·exact (SD k).symm
 simp only[ev,e]
theorem rA(htr:cQ tb call l T0 H0=some ss)(hok:ji l=true){q:Nat}{o:al}(hq:l[q]?=some o){b:Nat}(hb:b∈ct l ss T0 q):∃x∈pG o,du (ev (bj (fun _=>true) 0 l ss T0) x)=some b:=by
 obtain⟨_,hat⟩:=gN l T0 H0 ss 0 htr
 obtain⟨v,H1,hs,hs0⟩:=hat q o hq
 clear hs0 hat
 simp only[ct,hq,hs]at hb
 have hst:xz l q=true:=by
  unfold ji at hok
  rw[List.all_eq_true]at hok
  exact hok q (List.mem_range.2 (SC.1 hq).1)
 unfold xz at hst
 rw[hq]at hst
 obtain⟨d,op,g⟩:=o
 have hdst:ga l q d=true->∃d',d=some d'/\ev (bj (fun _=>true) 0 l ss T0) (.t d')=v:=by
  intro h
  cases d with
  | none=>simp[ga]at h
  | some d'=>exact⟨d',rfl,N3 (o:=⟨some d',op,g⟩) hq hs rfl h⟩
 cases op <;> simp only[fH,List.not_mem_nil]at hb
 case store n a x=>
  obtain⟨y,h1,h2⟩:=oK hb
  obtain rfl:=List.mem_singleton.1 h1
  exact⟨a,by simp[pG],by rw[oj hst]; exact h2⟩
 case load n a x=>
  obtain⟨y,h1,h2⟩:=oK hb
  obtain rfl:=List.mem_singleton.1 h1
  exact⟨x,by simp[pG],by rw[oj hst]; exact h2⟩
 case append n k s x=>
  simp only[SE]at hst
  obtain⟨d',hd1,hd2⟩:=hdst hst.2.2
  obtain⟨y,h1,h2⟩:=oK hb
  simp only[List.mem_cons,List.not_mem_nil,or_false]at h1
  rcases h1 with rfl | rfl | rfl
  ·exact⟨s,by simp[pG],by rw[oj hst.1]; exact h2⟩
  ·exact⟨x,by simp[pG],by rw[oj hst.2.1]; exact h2⟩
  ·exact⟨.t d',by simp[pG,hd1,dO],by rw[hd2]; exact h2⟩
 case hf f xs=>
  cases f <;> first | (simp only[List.not_mem_nil]at hb; done) | skip
  obtain⟨d',hd1,hd2⟩:=hdst hst
  obtain⟨y,h1,h2⟩:=oK hb
  obtain rfl:=List.mem_singleton.1 h1
  exact⟨.t d',by simp[pG,hd1,dO],by rw[hd2]; exact h2⟩
theorem vH{i j:Nat}{a b:al}(hi:l[i]?=some a)(hj:l[j]?=some b){x y:a8}(hx:x∈pG a)(hy:y∈pG b):(y,x)∈nu l j i:=by
 unfold nu
 rw[hi,hj]
 simp only[List.mem_flatMap,List.mem_map]
 exact⟨y,hy,x,hx,rfl⟩
theorem Jr{x y:aa}{b:Nat}(h:Gd y x=true)(hx:du x=some b)(hy:du y=some b):False:=by
 unfold Gd at h
 rw[hx,hy]at h
 simp[Nat.beq_refl]at h
theorem NR(htr:cQ tb call l T0 H0=some ss)(hok:ji l=true)(hck:∀p∈jp l ms,Gd (ev (bj (fun _=>true) 0 l ss T0) p.1) (ev (bj (fun _=>true) 0 l ss T0) p.2)=true) :
  (∀i j,d6 l ms i j=true->∀x∈ct l ss T0 j,x∉ct l ss T0 i) /\
  ∀i j k o,d6 l ms i j=true->l[k]?=some o->dn o.op=true->jz ms k j=false->jz ms j k=false->∀x∈ct l ss T0 j,x∉ct l ss T0 k:=by
 have hl:∀i j,d6 l ms i j=true->∃a b,l[i]?=some a/\l[j]?=some b/\i<j:=by
  intro i j h
  unfold d6 at h
  split at h
  ·rename_i a b hi hj
   simp only[SE]at h
   exact⟨a,b,hi,hj,SH h.1⟩
  ·simp at h
 constructor
 ·intro i j h x hx hx'
  obtain⟨a,b,hi,hj,hij⟩:=hl i j h
  obtain⟨y,y1,y2⟩:=rA htr hok hj hx
  obtain⟨z,z1,z2⟩:=rA htr hok hi hx'
  refine Jr (hck (y,z) ?_) z2 y2
  unfold jp
  rw[List.mem_flatMap]
  refine⟨j,List.mem_range.2 (SC.1 hj).1,?_⟩
  rw[List.mem_flatMap]
  refine⟨i,List.mem_range.2 hij,?_⟩
  rw[h,cond_true,List.mem_append]
  exact .inl (vH hi hj z1 y1)
 ·intro i j k o h hk hld h1 h2 x hx hx'
  obtain⟨a,b,hi,hj,hij⟩:=hl i j h
  obtain⟨y,y1,y2⟩:=rA htr hok hj hx
  obtain⟨z,z1,z2⟩:=rA htr hok hk hx'
  refine Jr (hck (y,z) ?_) z2 y2
  unfold jp
  rw[List.mem_flatMap]
  refine⟨j,List.mem_range.2 (SC.1 hj).1,?_⟩
  rw[List.mem_flatMap]
  refine⟨i,List.mem_range.2 hij,?_⟩
  rw[h,cond_true,List.mem_append,List.mem_flatMap]
  refine .inr ⟨k,List.mem_range.2 (SC.1 hk).1,?_⟩
  have:iy l ms j k=true:=by unfold iy; rw[hk]; simp[hld,h1,h2]
  rw[this,cond_true]
  exact vH hk hj z1 y1
end
theorem oR{o:gL}(h:eJ o=false):kE o=none:=by
 unfold kE
 split
 ·simp[eJ]at h
 ·rfl
def bi(o:al):al:=match hZ o.op with
 | some (k,xs)=>⟨o.dst,.hf (.fill 0 k) xs,o.guard⟩
 | none=>o
theorem zD{o:gL}(h:eJ o=false)(hf:hZ o=none):cG o=none:=by
 unfold cG
 split
 ·simp[hZ]at hf
 ·simp[hZ]at hf
 ·simp[eJ]at h
 ·simp[hZ]at hf
 ·rfl
theorem iM(b:Nat)(o:al)(r:List al)(hi:eJ o.op=false):(∃k xs,hZ o.op=some (k,xs)/\aB b ((o::r).map bi)=⟨o.dst,.hf (.fill b k) xs,o.guard⟩::aB (b+1) (r.map bi) /\
  ∀H,aQ H ((o::r).map bi)=aQ (H.push (.cells [] 0 false)) (r.map bi)) ∨
  (hZ o.op=none/\aB b ((o::r).map bi)=o::aB b (r.map bi)/\∀H,aQ H ((o::r).map bi)=aQ H (r.map bi)):=by
 cases h:hZ o.op with
 | some p=>
  obtain⟨k,xs⟩:=p
  exact .inl ⟨k,xs,rfl,by simp only[List.map_cons,bi,h,aB,cG,rl],fun H=>by simp only[List.map_cons,bi,h,aQ,cG]; rfl⟩
 | none=>
  have hn:=zD hi h
  exact .inr ⟨rfl,by simp only[List.map_cons,bi,h,aB,hn],fun H=>by simp only[List.map_cons,bi,h,aQ,hn]⟩
theorem II{P:Program}{n:Nat}{ops:Array Oper}:∀{rest:List Oper} {l:List al},cz P n ops rest=some l->∀b,(aB b (l.map bi)).length=rest.length /\
  ∀(j:Nat) (o:Oper),rest[j]?=some o->∃a,(aB b (l.map bi))[j]?=some a/\(dB P n ops o=some a∨∃c,b<=c/\JN P n ops o a c):=by
 intro rest
 induction rest with
 | nil=>intro l h b; simp only[cz,sJ]at h; subst h; exact⟨rfl,fun j o h=>by simp at h⟩
 | cons o r ih=>
  intro l h b
  have hno:=tk h
  simp only[cz]at h
  split at h
  ·rename_i a l' ha hl'
   simp only[sJ]at h
   subst h
   have key:∀(x:al) (b':Nat),b<=b'->(dB P n ops o=some x∨∃c,b<=c/\JN P n ops o x c)->aB b ((a::l').map bi)=x::aB b' (l'.map bi) ->
     (aB b ((a::l').map bi)).length=(o::r).length/\∀(j:Nat) (o':Oper),(o::r)[j]?=some o'->∃a',(aB b ((a::l').map bi))[j]?=some a'/\(dB P n ops o'=some a'∨∃c,b<=c/\JN P n ops o' a' c):=by
    intro x b' hb hx he
    rw[he]
    obtain⟨i1,i2⟩:=ih hl' b'
    refine⟨by simp[i1],fun j o' hj=>?_⟩
    cases j with
    | zero=>simp at hj; subst hj; exact⟨x,by simp,hx⟩
    | succ j=>
     simp at hj
     obtain⟨a',h1,h2⟩:=i2 j o' hj
     refine⟨a',by simpa using h1,?_⟩
     rcases h2 with h2 | ⟨c,h2,h3⟩
     ·exact .inl h2
     ·exact .inr ⟨c,om,h3⟩
   rcases iM b a l' (hno a (List.mem_cons_self ..)) with⟨k,xs,hf,e,_⟩ | ⟨_,e,_⟩
   ·refine key _ (b+1) om ?_ e
    unfold dB at ha
    split at ha
    ·rename_i ax g hopc hg
     cases hdst:dQ n o.dst with
     | false=>rw[hdst]at ha; simp at ha
     | true=>
      rw[hdst]at ha
      simp only[cond_true,sJ]at ha
      subst ha
      exact .inr ⟨b,Nat.le_refl _,ax,k,xs,g,hopc,hf,hg,hdst,rfl⟩
    ·simp at ha
   ·exact key a b rL (.inl ha) e
  ·simp at h
theorem nE:∀(l:List al) (b:Nat),dM l->LU (aB b (l.map bi))
 | [],b,_=>by intro a ha; simp[aB]at ha
 | o::r,b,hn=>by
  rcases iM b o r (hn.2 o (List.mem_cons_self ..)) with⟨k,xs,_,e,_⟩ | ⟨_,e,_⟩
  ·rw[e]
   intro a ha
   rcases List.mem_cons.1 ha with rfl | ha
   ·intro c z s h; simp at h
   ·exact nE r _ hn.tail a ha
  ·rw[e]
   intro a ha
   rcases List.mem_cons.1 ha with rfl | ha
   ·exact hn.1 _ (List.mem_cons_self ..)
   ·exact nE r _ hn.tail a ha
theorem oQ:∀(l:List al) (b:Nat),dM l->∀(i:Nat) (a:al) (c:Nat),(aB b (l.map bi))[i]?=some a->kE a.op=some c->b<=c
 | [],b,_,i,a,c,h,_=>by simp[aB]at h
 | o::r,b,hn,i,a,c,h,hc=>by
  rcases iM b o r (hn.2 o (List.mem_cons_self ..)) with⟨k,xs,_,e,_⟩ | ⟨_,e,_⟩
  ·rw[e]at h
   cases i with
   | zero=>
    simp only[SL,sJ]at h
    subst h
    simp only[kE,sJ]at hc
    omega
   | succ i=>
    simp only[SN]at h
    have:=oQ r (b+1) hn.tail i a c h hc
    omega
  ·rw[e]at h
   cases i with
   | zero=>
    simp only[SL,sJ]at h
    subst h
    rw[oR (hn.2 o (List.mem_cons_self ..))]at hc
    simp at hc
   | succ i=>
    simp only[SN]at h
    exact oQ r b hn.tail i a c h hc
theorem pU:∀(l:List al) (b:Nat),dM l->∀(i j:Nat) (a a':al) (c:Nat),(aB b (l.map bi))[i]?=some a->(aB b (l.map bi))[j]?=some a'->kE a.op=some c->kE a'.op=some c->i=j
 | [],b,_,i,j,a,a',c,h,_,_,_=>by simp[aB]at h
 | o::r,b,hn,i,j,a,a',c,h,k,hc,kc=>by
  rcases iM b o r (hn.2 o (List.mem_cons_self ..)) with⟨kk,xs,_,e,_⟩ | ⟨_,e,_⟩
  ·rw[e]at h k
   cases i with
   | zero=>
    cases j with
    | zero=>rfl
    | succ j=>
     simp only[SL,sJ,SN]at h k
     subst h
     simp only[kE,sJ]at hc
     have:=oQ r (b+1) hn.tail j a' c k kc
     omega
   | succ i=>
    cases j with
    | zero=>
     simp only[SL,sJ,SN]at h k
     subst k
     simp only[kE,sJ]at kc
     have:=oQ r (b+1) hn.tail i a c h hc
     omega
    | succ j=>
     simp only[SN]at h k
     rw[pU r (b+1) hn.tail i j a a' c h k hc kc]
  ·rw[e]at h k
   cases i with
   | zero=>
    simp only[SL,sJ]at h
    subst h
    rw[oR (hn.2 o (List.mem_cons_self ..))]at hc
    simp at hc
   | succ i=>
    cases j with
    | zero=>
     simp only[SL,sJ]at k
     subst k
     rw[oR (hn.2 o (List.mem_cons_self ..))]at kc
     simp at kc
    | succ j=>
     simp only[SN]at h k
     rw[pU r b hn.tail i j a a' c h k hc kc]
theorem pT{w0:World}{ρ:Pl}{w:World}{pr:Nat->Prop}:∀(l:List al) (D:Nat->Prop) (H:ae),dM l->bF ⟨pr,D⟩ w0 ρ H w->bF ⟨pr,nO D (aB H.next (l.map bi)) fun _=>false⟩ w0 ρ (aQ H (l.map bi)) w
 | [],D,H,_,R=>R.fewer (D:=nO D [] fun _=>false) fun d hd=>by
  rcases hd with hd | ⟨i,a,h,_⟩
  ·exact hd
  ·simp at h
 | o::r,D,H,hn,R=>by
  rcases iM H.next o r (hn.2 o (List.mem_cons_self ..)) with⟨kk,xs,_,e,f⟩ | ⟨_,e,f⟩
  ·rw[e,f]
   have:=pT r _ _ hn.tail (R.reserve (.cells [] 0 false) rfl)
   refine bF.fewer this fun d hd=>?_
   rcases hd with hd | ⟨i,a,h,k,_⟩
   ·exact .inl (.inl hd)
   ·cases i with
    | zero=>
     simp only[SL,sJ]at h
     subst h
     simp only[kE,sJ]at k
     exact .inl (.inr k.symm)
    | succ i=>
     simp only[SN]at h
     exact .inr ⟨i,a,h,k,rfl⟩
  ·rw[e,f]
   have:=pT r _ _ hn.tail R
   refine bF.fewer this fun d hd=>?_
   rcases hd with hd | ⟨i,a,h,k,_⟩
   ·exact .inl hd
   ·cases i with
    | zero=>
     simp only[SL,sJ]at h
     subst h
     rw[oR (hn.2 o (List.mem_cons_self ..))]at k
     simp at k
    | succ i=>
     simp only[SN]at h
     exact .inr ⟨i,a,h,k,rfl⟩
def gi(o:al):al:=match o.op with
 | .hf (.fill _ k) xs=>⟨o.dst,.hf (.fill 0 k) xs,o.guard⟩
 | _=>o
theorem qI(o:al):gi o=o∨∃b k xs,o.op=.hf (.fill b k) xs/\gi o=⟨o.dst,.hf (.fill 0 k) xs,o.guard⟩:=by
 obtain⟨d,op,g⟩:=o
 unfold gi
 simp only
 split
 ·exact .inr ⟨_,_,_,rfl,rfl⟩
 ·exact .inl rfl
structure QC(a b:al):Prop where
 dst:a.dst=b.dst
 guard:a.guard=b.guard
 chain:aJ a.op=aJ b.op
 load:dn a.op=dn b.op
 reads:hY a=hY b
 mov:lz a.op=lz b.op
 tch:oM a.op=oM b.op
 tops:pG a=pG b
theorem eX(o:al):QC (gi o) o:=by
 rcases qI o with e | ⟨b,k,xs,h,e⟩
 ·rw[e]; exact⟨rfl,rfl,rfl,rfl,rfl,rfl,rfl,rfl⟩
 ·rw[e]
  obtain⟨d,op,g⟩:=o
  simp only at h
  subst h
  exact⟨rfl,rfl,rfl,rfl,rfl,rfl,rfl,rfl⟩
theorem lL:∀(l:List al) (b c:Nat),(∀o∈l,cG o.op=none∨eJ o.op=true)->(aB b l).map gi=(aB c l).map gi
 | [],b,c,_=>rfl
 | o::r,b,c,h=>by
  have hr:∀o∈r,cG o.op=none∨eJ o.op=true:=fun x hx=>h x (List.mem_cons_of_mem _ hx)
  cases hz:cG o.op with
  | none=>simp only[aB,hz,List.map_cons,lL r b c hr]
  | some p=>
   obtain⟨z,s⟩:=p
   have hfl:eJ o.op=true:=by
    rcases h o (List.mem_cons_self ..) with h | h
    ·rw[hz]at h; simp at h
    ·exact h
   simp only[aB,hz,List.map_cons]
   congr 1
   ·obtain⟨d,op,g⟩:=o
    simp only at hfl
    unfold eJ at hfl
    split at hfl
    ·rfl
    ·simp at hfl
   ·exact lL r _ _ hr
theorem fm(l:List al)(i:Nat):(l.map gi)[i]?=(l[i]?).map gi:=List.getElem?_map ..
theorem mP(l:List al)(ms:List Nat):fk (l.map gi) ms=fk l ms:=by
 unfold fk
 rw[List.length_map]
 congr 1
 funext j
 rw[fm]
 cases l[j]? with
 | none=>rfl
 | some b=>
  simp only[Option.map_some]
  congr 1
  funext i
  rw[fm]
  cases l[i]? with
  | none=>rfl
  | some a=>
   have A:=eX a; have B:=eX b
   simp only[Option.map_some,j4,uV,A.dst,B.dst,A.reads,B.reads,A.chain,B.chain,B.mov,A.tch,A.guard,B.guard]
theorem qL(l:List al)(ms:List Nat)(i j:Nat):d6 (l.map gi) ms i j=d6 l ms i j:=by
 unfold d6
 rw[fm,fm]
 cases l[i]? with
 | none=>cases l[j]? <;> rfl
 | some a=>cases l[j]? with
  | none=>rfl
  | some b=>simp only[Option.map_some,(eX a).chain,(eX b).chain]
theorem mQ(l:List al)(ms:List Nat):iH (l.map gi) ms=iH l ms:=by
 unfold iH
 rw[List.length_map]
 congr 1
 funext j
 congr 1
 funext i
 rw[qL]
 congr 2
 funext k
 rw[fm]
 cases l[k]? with
 | none=>rfl
 | some o=>simp only[Option.map_some,(eX o).load]
theorem qq(l:List al)(c t:Nat):mY (l.map gi) c t=mY l c t:=by
 unfold mY
 rw[fm]
 cases l[c]? with
 | none=>rfl
 | some o=>simp only[Option.map_some,(eX o).dst]
theorem AW(l:List al)(q:Nat)(x:a8):ol (l.map gi) q x=ol l q x:=by
 cases x <;> first | rfl | skip
 simp only[ol,List.length_map,qq]
theorem mS(l:List al)(q:Nat)(d:Option Nat):ga (l.map gi) q d=ga l q d:=by
 cases d <;> first | rfl | skip
 simp only[ga,List.length_map,qq]
theorem oE(l:List al):ji (l.map gi)=ji l:=by
 unfold ji
 rw[List.length_map]
 congr 1
 funext q
 unfold xz
 rw[fm]
 cases l[q]? with
 | none=>rfl
 | some o=>
  simp only[Option.map_some]
  rcases qI o with e | ⟨b,k,xs,h,e⟩
  ·rw[e]
   simp only[AW,mS]
  ·rw[e]
   simp only[h,mS]
theorem yW(l:List al)(j i:Nat):nu (l.map gi) j i=nu l j i:=by
 unfold nu
 rw[fm,fm]
 cases l[j]? with
 | none=>cases l[i]? <;> rfl
 | some b=>cases l[i]? with
  | none=>rfl
  | some a=>simp only[Option.map_some,(eX a).tops,(eX b).tops]
theorem tv(l:List al)(ms:List Nat)(j k:Nat):iy (l.map gi) ms j k=iy l ms j k:=by
 unfold iy
 rw[fm]
 cases l[k]? with
 | none=>rfl
 | some o=>simp only[Option.map_some,(eX o).load]
theorem oT(l:List al)(ms:List Nat):jp (l.map gi) ms=jp l ms:=by
 unfold jp
 simp only[List.length_map,qL,yW,tv]
theorem FI{l:List al}(hn:dM l):∀o∈l.map bi,cG o.op=none∨eJ o.op=true:=by
 intro o ho
 obtain⟨a,ha,rfl⟩:=List.mem_map.1 ho
 unfold bi
 cases h:hZ a.op with
 | some p=>exact .inr rfl
 | none=>exact .inl (zD (hn.2 a ha) h)
end Go.Abs
namespace Go.Abs
inductive cS where
 | skip
 | reg (ops:List al)
 | draw (ops:List al) (chk:List (List Nat))
 | seq (a b:cS)
 | cond (c:a8) (a b:cS)
 | block (id:Nat) (c:cS)
 | loop (c:cS)
 | exit (id:Nat)
 | ret
inductive uD where
 | normal
 | exit (id:Nat)
 | ret
inductive mN where
 | t (i:Nat)
 | cell (agg:Bool) (size:Nat) (i:Nat)
structure bY where
 nt:Nat
 body:cS
 res:List mN
section
variable (tb:FuncId->Bool) (call:FuncId->List aa->ae->Option (aa×ae))
def bh:List al->Tr aa->ae->Option (Tr aa×ae)
 | [],T,H=>some (T,H)
 | o::r,T,H=>bif gY T o.guard then
   match bW tb T H o.op with
   | some (.val v,H')=>bh r (cR T o.dst v) H'
   | some (.enter f args,H')=>match call f args H' with
    | some (v,H'')=>bh r (cR T o.dst v) H''
    | none=>none
   | none=>none
  else bh r (cR T o.dst aR) H
def jr(body:Tr aa->ae->Option (uD×Tr aa×ae)):Nat->Tr aa->ae->Option (uD×Tr aa×ae)
 | 0,_,_=>none
 | n+1,T,H=>match body T H with
  | some (.normal,T',H')=>jr body n T' H'
  | some (e,T',H')=>some (e,T',H')
  | none=>none
def lR(ops:List al)(chk:List (List Nat))(T:Tr aa)(H:ae):Option (uD×Tr aa×ae):=
 match cQ tb call ops T H with
 | some ss=>bif fF tb (H::ss.map (·.2)) ops chk ss T then some (.normal,bj (fun _=>true) 0 ops ss T,ew H ss ops.length) else none
 | none=>none
def aM(k:Nat):cS->Tr aa->ae->Option (uD×Tr aa×ae)
 | .skip,T,H=>some (.normal,T,H)
 | .reg ops,T,H=>match bh tb call ops T H with
  | some (T',H')=>some (.normal,T',H')
  | none=>none
 | .draw ops chk,T,H=>lR tb call (aB H.next ops) chk T (aQ H ops)
 | .seq a b,T,H=>match aM k a T H with
  | some (.normal,T',H')=>aM k b T' H'
  | some (e,T',H')=>some (e,T',H')
  | none=>none
 | .cond c a b,T,H=>match ev T c with
  | .bool true=>aM k a T H
  | .bool false=>aM k b T H
  | _=>none
 | .block id c,T,H=>match aM k c T H with
  | some (.exit j,T',H')=>bif Nat.beq j id then some (.normal,T',H') else some (.exit j,T',H')
  | some (e,T',H')=>some (e,T',H')
  | none=>none
 | .loop c,T,H=>jr (aM k c) k T H
 | .exit id,T,H=>some (.exit id,T,H)
 | .ret,T,H=>some (.ret,T,H)
end
def jN(T:Tr aa)(H:ae):List mN->Option (List aa)
 | []=>some []
 | .t i::r=>match jN T H r with
  | some l=>some (ev T (.t i)::l)
  | none=>none
 | .cell g n i::r=>match au g n H (ev T (.t i)),jN T H r with
  | some x,some l=>some (x::l)
  | _,_=>none
def iS:List aa->aa
 | [x]=>x
 | l=>.tuple l
def dc:List aa->Nat->Tr aa->Tr aa
 | [],_,T=>T
 | x::r,i,T=>dc r (i+1) (T.set i x)
structure Eg where
 ps:List Nat
 df:Option (Nat×Nat×Bool)
structure gH where
 is:FuncId->Bool
 run:FuncId->List aa->ae->Option (aa×ae)
 md:Nat->Option Eg
def AD(N:gH)(A:Tr bY):FuncId->Bool:=fun f=>bif N.is f then true else match A.get f with | some _=>true | none=>false
def dp(N:gH)(tab:Tr bY):Nat->FuncId->List aa->ae->Option (aa×ae)
 | 0,_,_,_=>none
 | n+1,f,args,H=>bif N.is f then N.run f args H else match tab.get f with
  | some fn=>bif Nat.ble args.length fn.nt then
    match aM (AD N tab) (dp N tab n) n fn.body (dc args 0 .e) H with
    | some (.exit _,_,_)=>none
    | some (_,T,H')=>match jN T H' fn.res with
     | some l=>some (iS l,H')
     | none=>none
    | none=>none
   else none
  | none=>none
section
variable (P:Program)
def gu:cS:=.reg [⟨none,.bad,none⟩]
def I8(es:List (List Nat))(l:List al)(ms:List Nat):cS:=
 bif gz es ms&&(fk (aB 0 (l.map bi)) ms&&(iH (aB 0 (l.map bi)) ms&&ji (aB 0 (l.map bi)))) then
  .seq (.draw (l.map bi) ((List.range l.length).map (dV (aB 0 (l.map bi)) ms))) (.reg ((jp (aB 0 (l.map bi)) ms).map rM)) else gu
def fo(n:Nat):Code->Option cS
 | .skip=>some .skip
 | .region _ ops false=>match cz P n ops ops.toList with
  | some l=>some (.reg l)
  | none=>none
 | .region _ ops true=>match cz P n ops ops.toList with
  | some l=>bif gz (ops.toList.map aU) (aV [] (ops.toList.map aU))&&eu (aB 0 l) (aV [] (ops.toList.map aU)) then
    some (.draw l ((List.range l.length).map (dV (aB 0 l) (aV [] (ops.toList.map aU))))) else some (I8 (ops.toList.map aU) l (aV [] (ops.toList.map aU)))
  | none=>none
 | .seq a b=>match fo n a,fo n b with
  | some a,some b=>some (.seq a b)
  | _,_=>none
 | .cond c a b=>match bT c,fo n a,fo n b with
  | some c,some a,some b=>some (.cond c a b)
  | _,_,_=>none
 | .block id c=>match fo n c with
  | some c=>some (.block id c)
  | none=>none
 | .loop c=>match fo n c with
  | some c=>some (.loop c)
  | none=>none
 | .exit id=>some (.exit id)
 | .ret=>some .ret
 | _=>some gu
def rn:List ResultVar->Option (List mN)
 | []=>some []
 | .tmp t::r=>match rn r with
  | some l=>some (.t t::l)
  | none=>none
 | .cell a t::r=>match ep P t,rn r with
  | some (g,n),some l=>some (.cell g n a::l)
  | _,_=>none
def J1(f:FuncId):Option bY:=
 match P.funcs[f]? with
 | some fn=>match fn.body with
  | some c => bif fn.name == "runtime.NumGoroutine" then none else
   match fo P fn.ntmps c,rn P fn.results.toList with
   | some b,some r=>some ⟨fn.ntmps,b,r⟩
   | _,_=>none
  | none=>none
 | none=>none
end
section
variable {P:Program} {Prot:Gh} {w0:World} {ρ:Pl} {H H':ae} {w:World}
def Gl(P:Program)(Prot:Gh)(w0:World)(ds:List Deferred)(ρ:Pl)(n:Nat)(e:uD)(T:Tr aa)(H:ae):Exit->Act->World->Prop:=fun e' a w=>
 (match e with | .normal=>e'=.normal | .exit id=>e'=.exit id | .ret=>e'=.ret)/\∃ρ',ρ.le ρ'/\bF Prot w0 ρ' H w/\be ρ' n T a.tmps/\a.defers=ds
theorem yR{tb:FuncId->Bool}(htb:∀f,Nat.blt f cj=true->tb f=true->bO P f=true){call:FuncId->List aa->ae->Option (aa×ae)}(hcall:iW P call){ds:List Deferred}{n:Nat}{ops:Array Oper}{Q:Exit->Act->World->Prop} :
  ∀(rest:List Oper) (i:Nat) (l:List al),(∀j,rest[j]?=ops[i+j]?)->cz P n ops rest=some l->∀(ρ0 ρ:Pl) (T T':Tr aa) (H H':ae) (a:Act) (w:World),ρ0.le ρ ->
   bF Prot w0 ρ H w->be ρ n T a.tmps->a.defers=ds->bh tb call l T H=some (T',H') ->
   (∀a' w',(∃ρ',ρ0.le ρ'/\bF Prot w0 ρ' H' w'/\be ρ' n T' a'.tmps/\a'.defers=ds)->Q .normal a' w')->wpOps P ops Q (List.range' i rest.length) a w:=by
 intro rest
 induction rest with
 | nil=>
  intro i l _ hc ρ0 ρ T T' H H' a w hle R ht hd h hQ
  simp only[cz,sJ]at hc
  subst hc
  simp only[bh,sJ,pJ]at h
  obtain⟨rfl,rfl⟩:=h
  exact hQ a w ⟨ρ,hle,R,ht,hd⟩
 | cons o rest ih=>
  intro i l hi hc ρ0 ρ T T' H H' a w hle R ht hd h hQ
  simp only[cz]at hc
  split at hc
  ·rename_i ao l' ha hl
   simp only[sJ]at hc
   subst hc
   have ho:ops[i]?=some o:=by have:=hi 0; simpa using this.symm
   have hnext:∀j,rest[j]?=ops[i+1+j]?:=fun j=>by have:=hi (j+1); simp only[SN]at this; rw[this]; congr 1; omega
   unfold dB at ha
   split at ha
   ·rename_i ax g hop hg
    cases hdst:dQ n o.dst with
    | false=>rw[hdst]at ha; simp at ha
    | true=>
     rw[hdst]at ha
     simp only[cond_true,sJ]at ha
     subst ha
     simp only[SF,List.range'_succ,wpOps,ho]
     simp only[bh]at h
     rw[fZ ht hg]
     cases hgo:gY T g with
     | false=>
      rw[hgo]at h
      simp only[cond_false]at h
      simp only[SO,if_false]
      refine ih (i+1) l' hnext hl ρ0 ρ _ _ _ _ _ _ hle R (cf ht hdst eg) ?_ h hQ
      cases hx:o.dst <;> simpa[Act.put] using hd
     | true=>
      rw[hgo]at h
      simp only[cond_true]at h
      simp only[if_true]
      left
      split at h
      ·rename_i v H1 hv
       obtain⟨ρ1,w1,nx,q1,q2,q3,q4⟩:=jw htb R ht o hop hv
       simp only[Oper.wp,q2]
       have hd':∀u,(a.put o.dst u).defers=ds:=fun u=>by cases hx:o.dst <;> simpa[Act.put] using hd
       cases nx <;> simp only[jQ]at q4
       case value u=>exact ih (i+1) l' hnext hl ρ0 ρ1 _ _ _ _ _ _ (Pl.le_trans hle q1) q3 (cf (ht.mono q1) hdst q4) (hd' _) h hQ
       case skip=>exact ih (i+1) l' hnext hl ρ0 ρ1 _ _ _ _ _ _ (Pl.le_trans hle q1) q3 (cf (ht.mono q1) hdst q4) (hd' _) h hQ
      ·rename_i f args H1 hv
       split at h
       ·rename_i v H2 hcl
        obtain⟨ρ1,w1,nx,q1,q2,q3,q4⟩:=jw htb R ht o hop hv
        simp only[Oper.wp,q2]
        have hd':∀u,(a.put o.dst u).defers=ds:=fun u=>by cases hx:o.dst <;> simpa[Act.put] using hd
        cases nx <;> simp only[jQ]at q4
        case enter g vs=>
         obtain⟨rfl,hbig,q5⟩:=q4
         simp only[Oper.upon]
         refine (hcall _ _ _ _ _ hbig hcl Prot w0 ρ1 w1 vs q3 q5).mono fun e w' hr=>?_
         obtain⟨ρ2,u,r1,rfl,r3,r4⟩:=hr
         exact ih (i+1) l' hnext hl ρ0 ρ2 _ _ _ _ _ _ (Pl.le_trans hle (Pl.le_trans q1 r1)) r3 (cf ((ht.mono q1).mono r1) hdst r4) (hd' _) h hQ
       ·simp at h
      ·simp at h
   ·simp at ha
  ·simp at hc
theorem Gl.weaken{ds:List Deferred}{ρ ρ':Pl}{n:Nat}{e:uD}{T:Tr aa}{H:ae}(h:ρ.le ρ'){e':Exit}{a:Act}{w:World}(q:Gl P Prot w0 ds ρ' n e T H e' a w):Gl P Prot w0 ds ρ n e T H e' a w:=by
 obtain⟨h1,ρ2,h2,h3⟩:=q
 exact⟨h1,ρ2,Pl.le_trans h h2,h3⟩
theorem jW{tb:FuncId->Bool}{call:FuncId->List aa->ae->Option (aa×ae)}{k:Nat}{T:Tr aa}{H:ae}:aM tb call k gu T H=none:=rfl
theorem pi{tb:FuncId->Bool}{call:FuncId->List aa->ae->Option (aa×ae)}:∀(ps:List (a8×a8)) {T T':Tr aa} {H H':ae},bh tb call (ps.map rM) T H=some (T',H') ->
  T'=T/\H'=H/\∀p∈ps,Gd (ev T p.1) (ev T p.2)=true
 | [],T,T',H,H',h=>by
  simp only[List.map_nil,bh,sJ,pJ]at h
  exact⟨h.1.symm,h.2.symm,by simp⟩
 | p::r,T,T',H,H',h=>by
  simp only[List.map_cons,bh,rM,gY,cond_true,bW,gJ,fT,JF]at h
  cases hp:Gd (ev T p.1) (ev T p.2) with
  | false=>rw[hp]at h; simp[vv]at h
  | true=>
   rw[hp]at h
   simp only[cond_true,vv,cR]at h
   obtain⟨h1,h2,h3⟩:=pi r h
   refine⟨h1,h2,fun q hq=>?_⟩
   rcases List.mem_cons.1 hq with rfl | hq
   ·exact hp
   ·exact h3 q hq
theorem zW(hfol:P.follows .mixedOrders=true){tb:FuncId->Bool}(htb:∀f,Nat.blt f cj=true->tb f=true->bO P f=true){call:FuncId->List aa->ae->Option (aa×ae)}(hcall:iW P call){ds:List Deferred}{n k:Nat} :
  ∀(c:Code) (ac:cS),fo P n c=some ac->∀(ρ:Pl) (T T':Tr aa) (H H':ae) (e:uD) (a:Act) (w:World),
   bF Prot w0 ρ H w->be ρ n T a.tmps->a.defers=ds->aM tb call k ac T H=some (e,T',H')->c.wp P (Gl P Prot w0 ds ρ n e T' H') a w:=by
 intro c
 induction c with
 | skip=>
  intro ac hc ρ T T' H H' e a w R ht hd h
  simp only[fo,sJ]at hc; subst hc
  simp only[aM,sJ,pJ]at h
  obtain⟨rfl,rfl,rfl⟩:=h
  exact wp_skip ⟨rfl,ρ,Pl.le_refl _,R,ht,hd⟩
 | region id ops draw=>
  intro ac hc ρ T T' H H' e a w R ht hd h
  cases draw with
  | true=>
   simp only[fo]at hc
   split at hc
   ·rename_i l hl
    cases hck:(gz (ops.toList.map aU) (aV [] (ops.toList.map aU))&&eu (aB 0 l) (aV [] (ops.toList.map aU))) with
    | false=>
     rw[hck]at hc
     simp only[cond_false,sJ]at hc; subst hc
     clear hck
     unfold I8 at h
     cases hck:(gz (ops.toList.map aU) (aV [] (ops.toList.map aU))&&(fk (aB 0 (l.map bi)) (aV [] (ops.toList.map aU))&&(iH (aB 0 (l.map bi)) (aV [] (ops.toList.map aU))&&ji (aB 0 (l.map bi))))) with
     | false=>rw[hck]at h; simp[jW]at h
     | true=>
      rw[hck,cond_true]at h
      simp only[SE]at hck
      obtain⟨c1,c2,c3,c4⟩:=hck
      have hnc:=dI hl
      have hnm:=lL (l.map bi) H.next 0 (FI hnc)
      rw[<- mP,<- hnm,mP]at c2
      rw[<- mQ,<- hnm,mQ]at c3
      rw[<- oE,<- hnm,oE]at c4
      rw[<- oT (aB 0 (l.map bi)),<- hnm,oT]at h
      have hops:=II hl H.next
      have hlen:(aB H.next (l.map bi)).length=ops.toList.length:=hops.1
      have hlk:=g8 (l.map bi) H.next 0
      have hll:l.length=(aB H.next (l.map bi)).length:=by rw[hlen]; exact (yY hl).1
      have hchk:(List.range l.length).map (dV (aB 0 (l.map bi)) (aV [] (ops.toList.map aU)))=(List.range (aB H.next (l.map bi)).length).map (dV (aB H.next (l.map bi)) (aV [] (ops.toList.map aU))):=by
       rw[hll]
       exact List.map_congr_left fun j _=>(nL hlk _ j).symm
      have hbase:∀d,Prot.dead d->d<H.next:=fun d hd=>(R.dead d hd).1
      have hdis:=pU l H.next hnc
      have hnocl:=nE l H.next hnc
      have RF:=pT (pr:=Prot.prot) l Prot.dead H hnc R
      simp only[aM,lR]at h
      rw[hchk]at h
      generalize hcl:aB H.next (l.map bi)=m at *
      generalize hrv:aQ H (l.map bi)=K at *
      cases hss:cQ tb call m T K with
      | none=>rw[hss]at h; simp at h
      | some ss=>
      rw[hss]at h
      simp only at h
      cases hr:fF tb (K::ss.map (·.2)) m ((List.range m.length).map (dV m (aV [] (ops.toList.map aU)))) ss T with
      | false=>rw[hr]at h; simp at h
      | true=>
       rw[hr]at h
       simp only[cond_true]at h
       cases hg:bh tb call ((jp m (aV [] (ops.toList.map aU))).map rM) (bj (fun _=>true) 0 m ss T) (ew K ss m.length) with
       | none=>rw[hg]at h; simp at h
       | some q=>
       obtain⟨T2,H2⟩:=q
       rw[hg]at h
       simp only[sJ,pJ]at h
       obtain⟨rfl,rfl,rfl⟩:=h
       obtain⟨rfl,rfl,hchecks⟩:=pi _ hg
       obtain⟨hap,hal⟩:=NR hss c4 hchecks
       refine wp_region_any hfol ?_
       have hN:m.length=ops.size:=by simpa using hlen
       have hrep:∀i,(Array.replicate ops.size false).getD i false=false:=fun i=>by
        rw[Array.getD_eq_getD_getElem?,Array.getElem?_replicate]; split <;> rfl
       have hm0:(fun i=>(Array.replicate ops.size false).getD i false)=fun _=>false:=funext hrep
       have hst:aE (fun i=>(Array.replicate ops.size false).getD i false) 0 m=aE (fun _=>false) 0 m:=gP m 0 fun c o _ _=>by simp only[hrep]
       have hH:ew K ss (aE (fun _=>false) 0 m)=K:=by
        obtain⟨q1,q2,q3,q4⟩:=dY (fun _=>false) m 0
        have:=de hss (aE (fun _=>false) 0 m) 0 om fun c o _ hlt ho=>by
         cases hx:aJ o.op with
         | false=>rfl
         | true=>have:=q3 c o ho hx om; simp at this
        rw[Nat.zero_add]at this
        rw[this]; rfl
       refine IY (Prot:=Prot) (w0:=w0) htb hcall (base:=H.next) hlen hops.2 hbase hdis hnocl c1 c2 c3 hss hr hap hal (ρ0:=ρ) (fun a' w' hx=>⟨rfl,hx⟩) ops.size _ a _ (by simp) ?_ (fun j _ hj=>by rw[hrep]at hj; simp at hj) ⟨ρ,K,Pl.le_refl _,?_,?_,?_,hd⟩
       ·rw[hm0]
        have:∀k,uI (fun _=>false) k=k:=by
         intro k
         induction k with
         | zero=>rfl
         | succ k ih=>simp only[uI,ih,cond_false]
        exact this _
       ·rw[hst,hm0]
        refine⟨by rw[hH],fun x _=>by rw[hH],fun q x _ h2=>?_⟩
        exact absurd h2.1 (by simp)
       ·rw[hm0]
        exact RF.drew
       ·refine ht.congr fun t=>?_
        rw[hm0]
        have:∀(l:List al) (ss:List (aa×ae)) (k:Nat) (T:Tr aa),bj (fun _=>false) k l ss T=T:=by
         intro l
         induction l with
         | nil=>intro ss k T; cases ss <;> rfl
         | cons o r ih=>intro ss k T; cases ss with
          | nil=>rfl
          | cons s ss=>obtain⟨x,y⟩:=s; simp only[bj,cond_false,ih]
        rw[this]
    | true=>
     rw[hck]at hc
     simp only[cond_true,sJ]at hc; subst hc
     simp only[SE]at hck
     have hnc:=dI hl
     have hlk:=g8 l H.next 0
     have hok:eu (aB H.next l) (aV [] (ops.toList.map aU))=true:=by rw[oF hlk]; exact hck.2
     have hlen:(aB H.next l).length=ops.toList.length:=(mD hl H.next).1
     have hll:l.length=(aB H.next l).length:=by rw[hlen]; exact (yY hl).1
     have hchk:(List.range l.length).map (dV (aB 0 l) (aV [] (ops.toList.map aU)))=(List.range (aB H.next l).length).map (dV (aB H.next l) (aV [] (ops.toList.map aU))):=by
      rw[hll]
      exact List.map_congr_left fun j _=>(nL hlk _ j).symm
     have hbase:∀d,Prot.dead d->d<H.next:=fun d hd=>(R.dead d hd).1
     have R:=il (pr:=Prot.prot) l Prot.dead H hnc R
     simp only[aM,lR]at h
     rw[hchk]at h
     generalize hcl:aB H.next l=m at *
     generalize hrv:aQ H l=K at *
     split at h
     ·rename_i ss hss
      cases hr:fF tb (K::ss.map (·.2)) m ((List.range m.length).map (dV m (aV [] (ops.toList.map aU)))) ss T with
      | false=>rw[hr]at h; simp at h
      | true=>
       rw[hr]at h
       simp only[cond_true,sJ,pJ]at h
       obtain⟨rfl,rfl,rfl⟩:=h
       refine wp_region_any hfol ?_
       have hN:m.length=ops.size:=by simpa using hlen
       have hrep:∀i,(Array.replicate ops.size false).getD i false=false:=fun i=>by
        rw[Array.getD_eq_getD_getElem?,Array.getElem?_replicate]; split <;> rfl
       have hm0:(fun i=>(Array.replicate ops.size false).getD i false)=fun _=>false:=funext hrep
       have hst:aE (fun i=>(Array.replicate ops.size false).getD i false) 0 m=aE (fun _=>false) 0 m:=gP m 0 fun c o _ _=>by simp only[hrep]
       have hH:ew K ss (aE (fun _=>false) 0 m)=K:=by
        obtain⟨q1,q2,q3,q4⟩:=dY (fun _=>false) m 0
        have:=de hss (aE (fun _=>false) 0 m) 0 om fun c o _ hlt ho=>by
         cases hx:aJ o.op with
         | false=>rfl
         | true=>have:=q3 c o ho hx om; simp at this
        rw[Nat.zero_add]at this
        rw[this]; rfl
       refine zT (RAW:=False) (rp:=fun _=>False) (Prot:=Prot) (w0:=w0) htb hcall (fun h=>h.elim) (fun h=>h.elim) (base:=H.next) hlen (by rw[<- hcl]; exact fun j o hj=>let ⟨a,q1,q2⟩:=(mD hl H.next).2 j o hj; ⟨a,q1,.inl ⟨fun h=>h,q2.imp_right .inl⟩⟩) hbase (by rw[<- hcl]; exact kl l H.next hnc) hck.1 hok hss hr (ρ0:=ρ) (fun a' w' hx=>⟨rfl,hx⟩) (fun h=>h.elim) ops.size _ a _ (by simp) ?_ (fun j _ hj=>by rw[hrep]at hj; simp at hj) (fun c h=>h.elim) ⟨ρ,Pl.le_refl _,?_,?_,hd⟩
       ·rw[hm0]
        have:∀k,uI (fun _=>false) k=k:=by
         intro k
         induction k with
         | zero=>rfl
         | succ k ih=>simp only[uI,ih,cond_false]
        exact this _
       ·rw[hst,hH,hm0]; exact R.drew
       ·refine ht.congr fun t=>?_
        rw[hm0]
        have:∀(l:List al) (ss:List (aa×ae)) (k:Nat) (T:Tr aa),bj (fun _=>false) k l ss T=T:=by
         intro l
         induction l with
         | nil=>intro ss k T; cases ss <;> rfl
         | cons o r ih=>intro ss k T; cases ss with
          | nil=>rfl
          | cons s ss=>obtain⟨x,y⟩:=s; simp only[bj,cond_false,ih]
        rw[this]
     ·simp at h
   ·simp at hc
  | false=>
   simp only[fo]at hc
   split at hc
   ·rename_i l hl
    simp only[sJ]at hc; subst hc
    simp only[aM]at h
    split at h
    ·rename_i T1 H1 h1
     simp only[sJ,pJ]at h
     obtain⟨rfl,rfl,rfl⟩:=h
     refine wp_region ?_
     have:=yR (Prot:=Prot) (w0:=w0) htb hcall (Q:=Gl P Prot w0 ds ρ n .normal T1 H1) ops.toList 0 l (fun j=>by simp) hl ρ ρ T T1 H H1 a w (Pl.le_refl _) R ht hd h1 (fun a' w' h=>⟨rfl,h⟩)
     rw[List.range_eq_range']
     simpa using this
    ·simp at h
   ·simp at hc
 | seq x y ihx ihy=>
  intro ac hc ρ T T' H H' e a w R ht hd h
  simp only[fo]at hc
  split at hc
  ·rename_i ax ay hx hy
   simp only[sJ]at hc; subst hc
   simp only[aM]at h
   split at h
   ·rename_i T1 H1 h1
    refine wp_seq (wp_mono (ihx _ hx ρ T T1 H H1 .normal a w R ht hd h1) ?_)
    rintro e1 a1 w1 ⟨he,ρ1,hl,R1,ht1,hd1⟩
    simp only at he
    subst he
    exact wp_mono (ihy _ hy ρ1 T1 T' H1 H' e a1 w1 R1 ht1 hd1 h) fun _ _ _ q=>q.weaken hl
   ·rename_i e1 T1 H1 hne h1
    simp only[sJ,pJ]at h
    obtain⟨rfl,rfl,rfl⟩:=h
    refine wp_seq (wp_mono (ihx _ hx ρ T T1 H H1 e1 a w R ht hd h1) ?_)
    rintro e2 a1 w1 q
    cases e1 with
    | normal=>exact (hne rfl).elim
    | exit id=>have:=q.1; simp only at this; subst this; exact q
    | ret=>have:=q.1; simp only at this; subst this; exact q
   ·simp at h
  ·simp at hc
 | cond c x y ihx ihy=>
  intro ac hc ρ T T' H H' e a w R ht hd h
  simp only[fo]at hc
  split at hc
  ·rename_i c' ax ay hcc hx hy
   simp only[sJ]at hc; subst hc
   simp only[aM]at h
   have hv:=aG ht hcc
   split at h
   ·rename_i hb
    rw[hb]at hv
    simp only[ah]at hv
    exact wp_cond_true hv (ihx _ hx ρ T T' H H' e a w R ht hd h)
   ·rename_i hb
    rw[hb]at hv
    simp only[ah]at hv
    exact wp_cond_false hv (ihy _ hy ρ T T' H H' e a w R ht hd h)
   ·simp at h
  ·simp at hc
 | block id c ih=>
  intro ac hc ρ T T' H H' e a w R ht hd h
  simp only[fo]at hc
  split at hc
  ·rename_i ax hx
   simp only[sJ]at hc; subst hc
   simp only[aM]at h
   split at h
   ·rename_i j T1 H1 h1
    refine wp_block (wp_mono (ih _ hx ρ T T1 H H1 (.exit j) a w R ht hd h1) ?_)
    rintro e1 a1 w1 q
    have he:=q.1
    simp only at he
    subst he
    cases hb:Nat.beq j id with
    | true=>
     rw[hb]at h
     simp only[cond_true,sJ,pJ]at h
     obtain⟨rfl,rfl,rfl⟩:=h
     have:=SI hb
     simp only[Exit.inBlock,this,if_true]
     exact⟨rfl,q.2⟩
    | false=>
     rw[hb]at h
     simp only[cond_false,sJ,pJ]at h
     obtain⟨rfl,rfl,rfl⟩:=h
     have:¬j=id:=fun e=>by rw[e,Nat.beq_refl]at hb; simp at hb
     simp only[Exit.inBlock,this,if_false]
     exact q
   ·rename_i e1 T1 H1 hne h1
    simp only[sJ,pJ]at h
    obtain⟨rfl,rfl,rfl⟩:=h
    refine wp_block (wp_mono (ih _ hx ρ T T1 H H1 e1 a w R ht hd h1) ?_)
    rintro e2 a1 w1 q
    cases e1 with
    | normal=>have:=q.1; simp only at this; subst this; exact q
    | exit j=>exact (hne _ rfl).elim
    | ret=>have:=q.1; simp only at this; subst this; exact q
   ·simp at h
  ·simp at hc
 | loop c ih=>
  intro ac hc ρ T T' H H' e a w R ht hd h
  simp only[fo]at hc
  split at hc
  ·rename_i ax hx
   simp only[sJ]at hc; subst hc
   simp only[aM]at h
   refine wp_loop_rounds k ?_
   have key:∀(m:Nat) (T:Tr aa) (H:ae) (ρ1:Pl) (a:Act) (w:World),ρ.le ρ1->bF Prot w0 ρ1 H w->be ρ1 n T a.tmps->a.defers=ds ->
     jr (aM tb call k ax) m T H=some (e,T',H')->Code.rounds P c (Gl P Prot w0 ds ρ n e T' H') m a w:=by
    intro m
    induction m with
    | zero=>intro T H ρ1 a w _ _ _ _ h; simp[jr]at h
    | succ m ihm=>
     intro T H ρ1 a w hl R ht hd h
     rw[rounds_succ]
     simp only[jr]at h
     split at h
     ·rename_i T1 H1 h1
      refine wp_mono (ih _ hx ρ1 T T1 H H1 .normal a w R ht hd h1) ?_
      rintro e1 a1 w1 ⟨he,ρ2,hl2,R1,ht1,hd1⟩
      simp only at he
      subst he
      exact ihm T1 H1 ρ2 a1 w1 (Pl.le_trans hl hl2) R1 ht1 hd1 h
     ·rename_i e1 T1 H1 hne h1
      simp only[sJ,pJ]at h
      obtain⟨rfl,rfl,rfl⟩:=h
      refine wp_mono (ih _ hx ρ1 T T1 H H1 e1 a w R ht hd h1) ?_
      rintro e2 a1 w1 q
      have q':=q.weaken hl
      cases e1 with
      | normal=>exact (hne rfl).elim
      | exit id=>have:=q.1; simp only at this; subst this; exact q'
      | ret=>have:=q.1; simp only at this; subst this; exact q'
     ·simp at h
   exact key k T H ρ a w (Pl.le_refl _) R ht hd h
  ·simp at hc
 | exit id=>
  intro ac hc ρ T T' H H' e a w R ht hd h
  simp only[fo,sJ]at hc; subst hc
  simp only[aM,sJ,pJ]at h
  obtain⟨rfl,rfl,rfl⟩:=h
  exact wp_exit ⟨rfl,ρ,Pl.le_refl _,R,ht,hd⟩
 | ret=>
  intro ac hc ρ T T' H H' e a w R ht hd h
  simp only[fo,sJ]at hc; subst hc
  simp only[aM,sJ,pJ]at h
  obtain⟨rfl,rfl,rfl⟩:=h
  exact wp_ret ⟨rfl,ρ,Pl.le_refl _,R,ht,hd⟩
 | _=>
  intro ac hc ρ T T' H H' e a w R ht hd h
  simp only[fo,sJ]at hc; subst hc
  simp[jW]at h
theorem Ky{n:Nat}(R:bF Prot w0 ρ H w){T:Tr aa}{tmps:Array Value}(ht:be ρ n T tmps):∀{rs:List ResultVar} {l:List mN},rn P rs=some l->∀{xs:List aa},jN T H l=some xs ->
  ∃vs:List Value,(rs.mapM (fun r=>match r with
   | .tmp t=>Pure.pure (tmps.getD t undef)
   | .cell a t=>do loadVar t (<- asAddr (tmps.getD a undef))):Sem (List Value)).run P w=.ok vs w/\aq ρ xs vs:=by
 intro rs
 induction rs with
 | nil=>
  intro l hc xs h
  simp only[rn,sJ]at hc; subst hc
  simp only[jN,sJ]at h; subst h
  exact⟨[],rfl,by simp[aq]⟩
 | cons r rs ih=>
  intro l hc xs h
  cases r with
  | tmp t=>
   simp only[rn]at hc
   split at hc
   ·rename_i l' hl
    simp only[sJ]at hc; subst hc
    simp only[jN]at h
    split at h
    ·rename_i ys hy
     simp only[sJ]at h; subst h
     obtain⟨vs,h1,h2⟩:=ih hl hy
     refine⟨tmps.getD t undef::vs,?_,by simp only[aq]; exact⟨_,_,rfl,ht.at_ t,h2⟩⟩
     simp only[List.mapM_cons,Sem.run_bind,Sem.run_pure,Result.andThen_ok,h1]
    ·simp at h
   ·simp at hc
  | cell a t=>
   simp only[rn]at hc
   split at hc
   ·rename_i g k l' hk hl
    simp only[sJ]at hc; subst hc
    simp only[jN]at h
    split at h
    ·rename_i x ys hx hy
     simp only[sJ]at h; subst h
     obtain⟨vs,h1,h2⟩:=ih hl hy
     obtain⟨u,u1,u2⟩:=xF (P:=P) R (dl hk) (ht.at_ a) hx
     have hp:∃ad,tmps.getD a undef=.pointer (some ad):=by
      have hat:=ht.at_ a
      unfold au at hx
      split at hx
      ·rename_i ad heq
       rw[heq]at hat
       simp only[ah]at hat
       obtain⟨L,_,_,e⟩:=hat
       exact⟨_,e⟩
      ·simp at hx
     obtain⟨ad,had⟩:=hp
     refine⟨u::vs,?_,by simp only[aq]; exact⟨_,_,rfl,u2,h2⟩⟩
     have:(loadVar t ad).run P w=.ok u w:=by
      rw[had]at u1
      simpa[Instr.loadAt,Instr.sureAddr] using u1
     have hA:(asAddr (tmps.getD a undef)).run P w=.ok ad w:=by rw[had]; rfl
     simp only[List.mapM_cons,Sem.run_bind,hA,Sem.run_pure,Result.andThen_ok,this,h1]
    ·simp at h
   ·simp at hc
theorem kU{n:Nat}(R:bF Prot w0 ρ H w){T:Tr aa}{tmps:Array Value}(ht:be ρ n T tmps){fn:Func}{l:List mN}(hc:rn P fn.results.toList=some l){xs:List aa}(h:jN T H l=some xs) :
  ∃v,(results fn tmps).run P w=.ok v w/\ah ρ (iS xs) v:=by
 obtain⟨vs,h1,h2⟩:=Ky (P:=P) R ht hc h
 have hl:=aq.len h2
 have hm:(fn.results.mapM (fun r=>match r with
   | .tmp t=>Pure.pure (tmps.getD t undef)
   | .cell a t=>do loadVar t (<- asAddr (tmps.getD a undef))):Sem (Array Value)).run P w=.ok vs.toArray w:=by
  rw[Array.mapM_eq_mapM_toList]
  simp only[Sem.run_map,h1,Result.andThen_ok]
 refine⟨if h:vs.toArray.size=1 then vs.toArray[0] else .tuple vs.toArray,?_,?_⟩
 ·have e:results fn tmps=(fn.results.mapM (fun r=>match r with
   | .tmp t=>Pure.pure (tmps.getD t undef)
   | .cell a t=>do loadVar t (<- asAddr (tmps.getD a undef))):Sem (Array Value)) >>= fun vs=>Pure.pure (if h:vs.size=1 then vs[0] else .tuple vs):=rfl
  rw[e,Sem.run_bind,hm]
  rfl
 ·match xs,vs,h2,hl with
  | [x],[v],h2,_=>
   simp only[aq]at h2
   obtain⟨v',r,e,h3,_⟩:=h2
   simp only[List.cons.injEq]at e
   obtain⟨rfl,rfl⟩:=e
   exact h3
  | [],[],h2,_=>simp only[iS,ah]; exact⟨_,rfl,h2⟩
  | x::y::xs,v::u::vs,h2,_=>simp only[iS,ah]; exact⟨_,rfl,h2⟩
theorem pg:∀(args:List aa) (vs:List Value) (i:Nat) (T:Tr aa),aq ρ args vs->(∀t,i<=t->T.get t=none) ->
  ∀t,ev (dc args i T) (.t t)=if t<i then ev T (.t t) else match args[t-i]? with | some x=>x | none=>aR:=by
 intro args
 induction args with
 | nil=>
  intro vs i T _ hn t
  simp only[dc]
  split
  ·rfl
  ·rename_i h
   simp[ev,hn t om]
 | cons x r ih=>
  intro vs i T hv hn t
  simp only[aq]at hv
  obtain⟨v,vs',rfl,h1,h2⟩:=hv
  simp only[dc]
  rw[ih vs' (i+1) (T.set i x) h2 (fun t ht=>by rw[Tr.get_set,if_neg om]; exact hn t om) t]
  by_cases c1:t<i
  ·rw[if_pos om,if_pos c1]
   simp only[ev,Tr.get_set]
   rw[if_neg om]
  ·by_cases c2:t=i
   ·subst c2
    rw[if_pos om,if_neg c1]
    simp[ev,Tr.get_set]
   ·rw[if_neg om,if_neg c1,show t-i=(t-(i+1))+1 by omega]
    simp
theorem pI{args:List aa}{vs:Array Value}(hv:aq ρ args vs.toList){n:Nat}(hn:args.length<=n):be ρ n (dc args 0 .e) (vs++Array.replicate (n-vs.size) undef):=by
 have hl:=aq.len hv
 simp only[Array.length_toList]at hl
 refine⟨by simp; omega,fun t=>?_⟩
 rw[pg args vs.toList 0 .e hv (fun _ _=>rfl) t]
 rw[if_neg om,Nat.sub_zero]
 by_cases ht:t<args.length
 ·have hx:args[t]?=some args[t]:=SB ht
  obtain⟨v,h1,h2⟩:=hv.nth _ _ hx
  rw[hx]
  rw[Array.getElem?_toList]at h1
  have:(vs++Array.replicate (n-vs.size) undef).getD t undef=v:=by
   rw[Array.getD_eq_getD_getElem?,Array.getElem?_append_left om,h1]; rfl
  rw[this]
  exact h2
 ·have hx:args[t]?=none:=SV om
  rw[hx]
  have:(vs++Array.replicate (n-vs.size) undef).getD t undef=undef:=by
   rw[Array.getD_eq_getD_getElem?,Array.getElem?_append_right om]
   by_cases h:t-vs.size<n-vs.size
   ·simp[h]
   ·simp[h]
  rw[this]
  exact eg
theorem tZ {f : FuncId} {fn : bY} (h : J1 P f = some fn) : ∃ fc code, P.funcs[f]? = some fc ∧ fc.body = some code ∧ (fc.name == "runtime.NumGoroutine") = false ∧ fc.ntmps = fn.nt ∧ fo P fn.nt code = some fn.body ∧ rn P fc.results.toList = some fn.res := by
 unfold J1 at h
 split at h
 ·rename_i fc hf
  split at h
  ·rename_i c hb
   cases hn : (fc.name == "runtime.NumGoroutine") with
   | true=>rw[hn]at h; simp at h
   | false=>
    rw[hn]at h
    simp only[cond_false]at h
    split at h
    ·rename_i b r h1 h2
     simp only[sJ]at h
     subst h
     exact⟨fc,c,hf,hb,hn,rfl,h1,h2⟩
    ·simp at h
  ·simp at h
 ·simp at h
structure uC(P:Program)(N:gH):Prop where
 body:∀f,N.is f=true->bO P f=true
 run:iW P N.run
end
end Go.Abs
namespace Go.Abs
def dt(n:Nat):a8->Bool
 | .t i=>Nat.blt i n
 | _=>true
def kY(n:Nat):List a8->Bool
 | []=>true
 | x::r=>dt n x&&kY n r
def oC(n:Nat):Option a8->Bool
 | none=>true
 | some x=>dt n x
def tj(n:Nat):List (Nat×Nat×a8)->Bool
 | []=>true
 | (_,_,x)::r=>dt n x&&tj n r
def LJ(n:Nat):gL->Bool
 | .mv x=>dt n x
 | .pick c a b=>dt n c&&(dt n a&&dt n b)
 | .new _=>true
 | .box x=>dt n x
 | .build _ ps=>tj n ps
 | .buildSl _ _ ps=>tj n ps
 | .load _ _ x=>dt n x
 | .store _ a x=>dt n a&&dt n x
 | .nilChk x=>dt n x
 | .bin _ x y=>dt n x&&dt n y
 | .un _ x=>dt n x
 | .conv _ x=>dt n x
 | .convSB x=>dt n x
 | .convBS x=>dt n x
 | .mkFunc _ a b=>kY n a&&kY n b
 | .mkIface _ x=>dt n x
 | .mkSlice _ _ l c=>dt n l&&dt n c
 | .sl _ x a b c=>dt n x&&(oC n a&&(oC n b&&oC n c))
 | .slStr x a b=>dt n x&&(oC n a&&oC n b)
 | .fieldA _ x=>dt n x
 | .field _ _ _ x=>dt n x
 | .idxA _ x i=>dt n x&&dt n i
 | .idxArr _ _ x i=>dt n x&&dt n i
 | .idx _ _ _ x i=>dt n x&&dt n i
 | .idxS x i=>dt n x&&dt n i
 | .extract _ x=>dt n x
 | .append _ _ s x=>dt n s&&dt n x
 | .len _ x=>dt n x
 | .call _ l=>kY n l
 | .callv f l=>dt n f&&kY n l
 | .pf _ l=>kY n l
 | .hf _ l=>kY n l
 | .bad=>true
 | .claim ..=>true
 | .slA _ _ x a b c=>dt n x&&(oC n a&&(oC n b&&oC n c))
def Lr(n:Nat):Option (Nat×Bool)->Bool
 | none=>true
 | some (t,_)=>Nat.blt (gS t) n
def dK(n:Nat)(o:al):Bool:=LJ n o.op&&(Lr n o.guard&&dQ n o.dst)
def GE(n:Nat)(T U:Tr aa):Prop:=(∀t,t<n->ev T (.t t)=ev U (.t t))/\∀t,n<=t->ev U (.t t)=aR
section
variable {n:Nat} {T U:Tr aa} {tb:FuncId->Bool} {call:FuncId->List aa->ae->Option (aa×ae)}
theorem eQ{a b:Nat}(h:Nat.blt a b=true):a<b:=SH h
theorem GE.x(h:GE n T U){x:a8}(hx:dt n x=true):ev T x=ev U x:=by
 cases x with
 | t i=>exact h.1 i (eQ hx)
 | c v=>rfl
 | f i=>rfl
theorem GE.xs(h:GE n T U):∀{l:List a8},kY n l=true->fT T l=fT U l
 | [],_=>rfl
 | x::r,hx=>by
  simp only[kY,SE]at hx
  simp only[fT,h.x hx.1,h.xs hx.2]
theorem GE.xO(h:GE n T U){x:Option a8}(hx:oC n x=true):zQ T x=zQ U x:=by
 cases x with
 | none=>rfl
 | some x=>simp only[zQ,h.x hx]
theorem GE.xP(h:GE n T U):∀{l:List (Nat×Nat×a8)},tj n l=true->AG T l=AG U l
 | [],_=>rfl
 | (a,b,x)::r,hx=>by
  simp only[tj,SE]at hx
  simp only[AG,h.x hx.1,h.xP hx.2]
theorem Js(h:GE n T U){o:gL}(ho:LJ n o=true)(H:ae):bW tb T H o=bW tb U H o:=by
 cases o <;> simp only[LJ,SE]at ho <;> simp only[bW]
 case mv x=>rw[h.x ho]
 case pick c a b=>rw[h.x ho.1,h.x ho.2.1,h.x ho.2.2]
 case box x=>rw[h.x ho]
 case build z ps=>rw[h.xP ho]
 case buildSl m z ps=>rw[h.xP ho]
 case load a m x=>rw[h.x ho]
 case store m a x=>rw[h.x ho.1,h.x ho.2]
 case nilChk x=>rw[h.x ho]
 case bin op x y=>rw[h.x ho.1,h.x ho.2]
 case un op x=>rw[h.x ho]
 case conv k x=>rw[h.x ho]
 case convSB x=>rw[h.x ho]
 case convBS x=>rw[h.x ho]
 case mkFunc fn a b=>rw[h.xs ho.1,h.xs ho.2]
 case mkIface t x=>rw[h.x ho]
 case mkSlice b z l c=>rw[h.x ho.1,h.x ho.2]
 case sl m x a b c=>rw[h.x ho.1,h.xO ho.2.1,h.xO ho.2.2.1,h.xO ho.2.2.2]
 case slStr x a b=>rw[h.x ho.1,h.xO ho.2.1,h.xO ho.2.2]
 case fieldA o x=>rw[h.x ho]
 case field a m o x=>rw[h.x ho]
 case idxA m x i=>rw[h.x ho.1,h.x ho.2]
 case idxArr m k x i=>rw[h.x ho.1,h.x ho.2]
 case idx m k a x i=>rw[h.x ho.1,h.x ho.2]
 case idxS x i=>rw[h.x ho.1,h.x ho.2]
 case extract i x=>rw[h.x ho]
 case append m b s x=>rw[h.x ho.1,h.x ho.2]
 case len s x=>rw[h.x ho]
 case call f l=>rw[h.xs ho]
 case callv f l=>rw[h.x ho.1,h.xs ho.2]
 case pf f l=>rw[h.xs ho]
 case hf f l=>rw[h.xs ho]
 case slA m k x a b c=>rw[h.x ho.1,h.xO ho.2.1,h.xO ho.2.2.1,h.xO ho.2.2.2]
theorem Bv(h:GE n T U){g:Option (Nat×Bool)}(hg:Lr n g=true):gY T g=gY U g:=by
 cases g with
 | none=>rfl
 | some p=>
  obtain⟨t,b⟩:=p
  simp only[gY,h.1 (gS t) (eQ hg)]
theorem aT(T:Tr aa)(d t:Nat)(v:aa):ev (T.set d v) (.t t)=if t=d then v else ev T (.t t):=by
 simp only[ev,Tr.get_set]
 split
 ·rename_i u h
  split at h
  ·rename_i e; rw[if_pos e]; simpa using h.symm
  ·rename_i e; rw[if_neg e,h]
 ·rename_i h
  split at h
  ·simp at h
  ·rename_i e; rw[if_neg e,h]
theorem oS(T:Tr aa)(d:Option Nat)(t:Nat)(v:aa):ev (cR T d v) (.t t)=if d=some t then v else ev T (.t t):=by
 cases d with
 | none=>simp[cR]
 | some d=>
  simp only[cR,aT,sJ]
  by_cases e:t=d
  ·rw[if_pos e,if_pos e.symm]
  ·rw[if_neg e,if_neg fun q=>e q.symm]
theorem GE.put(h:GE n T U){d:Option Nat}(hd:dQ n d=true)(v:aa):GE n (cR T d v) (cR U d v):=by
 refine⟨fun t ht=>?_,fun t ht=>?_⟩
 ·rw[oS,oS,h.1 t ht]
 ·rw[oS,h.2 t ht,if_neg]
  rintro rfl
  have:=eQ hd
  omega
theorem GE.ghost(h:GE n T U){d:Nat}(hd:n<=d)(v:aa):GE n (T.set d v) U:=
 ⟨fun t ht=>by rw[aT,if_neg om]; exact h.1 t ht,h.2⟩
def lV(n:Nat)(T T':Tr aa):Prop:=∀t,n<=t->ev T' (.t t)=ev T (.t t)
theorem lV.put{d:Option Nat}(hd:dQ n d=true)(v:aa):lV n T (cR T d v):=fun t ht=>by
 rw[oS,if_neg]
 rintro rfl
 have:=eQ hd
 omega
theorem lV.trans{T1 T2:Tr aa}(h:lV n T T1)(k:lV n T1 T2):lV n T T2:=fun t ht=>(k t ht).trans (h t ht)
theorem Am(h:GE n T U){o:al}(ho:dK n o=true)(H:ae):br tb call o T H=br tb call o U H:=by
 simp only[dK,SE]at ho
 simp only[br,Bv h ho.2.1,Js h ho.1]
theorem bB(o:al)(r:List al)(T:Tr aa)(H:ae):bh tb call (o::r) T H=match br tb call o T H with
  | some (v,H')=>bh tb call r (cR T o.dst v) H'
  | none=>none:=by
 simp only[bh,br]
 cases gY T o.guard with
 | false=>rfl
 | true=>
  simp only[cond_true]
  cases bW tb T H o.op with
  | none=>rfl
  | some p=>obtain⟨nx,H'⟩:=p; cases nx <;> rfl
theorem fP:∀(l m:List al) (T:Tr aa) (H:ae),bh tb call (l++m) T H=match bh tb call l T H with
  | some (T1,H1)=>bh tb call m T1 H1
  | none=>none
 | [],m,T,H=>rfl
 | o::l,m,T,H=>by
  rw[SX,bB,bB]
  cases br tb call o T H with
  | none=>rfl
  | some p=>obtain⟨v,H1⟩:=p; exact fP l m _ _
theorem wC:∀(l:List al) {T U:Tr aa} {H:ae},GE n T U->l.all (dK n)=true->cQ tb call l T H=cQ tb call l U H
 | [],_,_,_,_,_=>rfl
 | o::r,T,U,H,h,hl=>by
  simp only[List.all_cons,SE]at hl
  simp only[cQ]
  rw[Am h hl.1]
  cases br tb call o U H with
  | none=>rfl
  | some p=>
   obtain⟨v,H1⟩:=p
   have hd:dQ n o.dst=true:=by
    have:=hl.1
    simp only[dK,SE]at this
    exact this.2.2
   simp only
   rw[wC r (h.put hd v) hl.2]
theorem wu(hs:List ae):∀(l:List al) (ps:List (List Nat)) (ss:List (aa×ae)) {T U:Tr aa},GE n T U->l.all (dK n)=true->fF tb hs l ps ss T=fF tb hs l ps ss U
 | [],_,_,_,_,_,_=>rfl
 | o::r,[],_,_,_,_,_=>rfl
 | o::r,p::ps,[],_,_,_,_=>rfl
 | o::r,p::ps,(v,H1)::ss,T,U,h,hl=>by
  simp only[List.all_cons,SE]at hl
  have ho:=hl.1
  simp only[dK,SE]at ho
  simp only[fF,Bv h ho.2.1,Js h ho.1,wu hs r ps ss (h.put ho.2.2 v) hl.2]
theorem w6(m:Nat->Bool):∀(l:List al) (i:Nat) (ss:List (aa×ae)) {T U:Tr aa},GE n T U->l.all (dK n)=true->GE n (bj m i l ss T) (bj m i l ss U)/\lV n T (bj m i l ss T)
 | [],_,_,_,_,h,_=>⟨h,fun _ _=>rfl⟩
 | o::r,i,[],_,_,h,_=>⟨h,fun _ _=>rfl⟩
 | o::r,i,(v,H1)::ss,T,U,h,hl=>by
  simp only[List.all_cons,SE]at hl
  have ho:=hl.1
  simp only[dK,SE]at ho
  simp only[bj]
  cases m i with
  | true=>
   obtain⟨q1,q2⟩:=w6 m r (i+1) ss (h.put ho.2.2 v) hl.2
   exact⟨q1,(lV.put ho.2.2 v).trans q2⟩
  | false=>exact w6 m r (i+1) ss h hl.2
theorem Jv{l:List al}{chk:List (List Nat)}{H H':ae}{e:uD}{T':Tr aa}(h:GE n T U)(hl:l.all (dK n)=true)(hr:lR tb call l chk T H=some (e,T',H')) :
  e=.normal/\∃U',lR tb call l chk U H=some (.normal,U',H')/\GE n T' U'/\lV n T T':=by
 unfold lR at hr ⊢
 rw[wC l h hl]at hr
 cases ht:cQ tb call l U H with
 | none=>rw[ht]at hr; simp at hr
 | some ss=>
  rw[ht]at hr
  simp only at hr ⊢
  rw[wu _ l _ ss h hl]at hr
  cases hc:fF tb (H::ss.map (·.2)) l chk ss U with
  | false=>rw[hc]at hr; simp at hr
  | true=>
   rw[hc]at hr
   simp only[cond_true,sJ,pJ]at hr ⊢
   obtain⟨rfl,rfl,rfl⟩:=hr
   obtain⟨q1,q2⟩:=w6 (fun _=>true) l 0 ss h hl
   exact⟨rfl,_,⟨trivial,rfl,rfl⟩,q1,q2⟩
theorem tR:∀(l:List al) (b:Nat),l.all (dK n)=true->(aB b l).all (dK n)=true
 | [],_,_=>rfl
 | o::r,b,hl=>by
  simp only[List.all_cons,SE]at hl
  simp only[aB]
  cases hz:cG o.op with
  | none=>simp only[List.all_cons,hl.1,tR r b hl.2,Bool.and_self]
  | some p=>
   obtain⟨z,s⟩:=p
   have ho:=hl.1
   simp only[dK,SE]at ho
   have hc:LJ n (rl b z s o.op)=true:=by
    unfold rl
    split
    ·rename_i xs hop
     have:=ho.1
     rw[hop]at this
     exact this
    ·rfl
   simp only[List.all_cons,tR r (b+1) hl.2,dK,hc,ho.2.1,ho.2.2,Bool.and_self]
end
end Go.Abs
namespace Go.Abs
def PB:Nat:=1000000
inductive wR where
 | ord (o:al)
 | pnc (x:a8)
 | dfr (x:a8)
 | tc (f:Nat) (args:List a8) (d:Option Nat) (g:Option (Nat×Bool))
def gk(n:Nat):List wR->List al->cS
 | [],acc=>.reg acc.reverse
 | .ord o::r,acc=>gk n r (o::acc)
 | .dfr x::r,acc=>gk n r (⟨some (n+1),.pf .dset [.t (n+1),x],none⟩::acc)
 | .pnc x::_,acc=>.seq (.reg (acc.reverse++[⟨some n,.pf .mkP [x],none⟩])) (.exit PB)
 | .tc f args d g::r,acc=>.seq (.reg (acc.reverse++[⟨some (n+3),.call (cj+f) args,g⟩,⟨some (n+2),.pf .isP [.t (n+3)],none⟩]))
   (.seq (.cond (.t (n+2)) (.seq (.reg [⟨some n,.mv (.t (n+3)),none⟩]) (.exit PB)) .skip) (gk n r [⟨d,.mv (.t (n+3)),none⟩]))
section
variable (P:Program) (n:Nat) (ps:List Nat)
def P5(ops:Array Oper)(o:Oper):Option wR:=match dB P n ops o with
 | some a=>bif dK n a then some (.ord a) else none
 | none=>none
def tB(o:Op):Option (Nat×List Operand):=match o with
 | .call c=>match c.callee with
  | .value (.func f)=>bif ps.any (Nat.beq f) then some (f,c.args.toList) else none
  | _=>none
 | _=>none
def MQ(ops:Array Oper)(o:Oper):Option wR:=match o.op with
 | .panic x=>match o.guard,bT x with
  | none,some y=>bif dt n y then some (.pnc y) else none
  | _,_=>none
 | .defer c=>match o.guard,o.dst,c.callee with
  | none,none,.value x=>match c.args.toList,bT x with
   | [],some y=>bif dt n y then some (.dfr y) else none
   | _,_=>none
  | _,_,_=>none
 | op=>match tB ps op with
  | some (f,l)=>match dC l,iQ n ops o.guard with
   | some l,some g=>bif Nat.blt f cj&&(kY n l&&(Lr n g&&dQ n o.dst)) then some (.tc f l o.dst g) else none
   | _,_=>none
  | none=>P5 P n ops o
def tY(ops:Array Oper):List Oper->Option (List wR)
 | []=>some []
 | o::r=>match MQ P n ps ops o,tY ops r with
  | some a,some l=>some (a::l)
  | _,_=>none
def yT:Nat->List Oper->Option (Nat×Nat)
 | _,[]=>none
 | j,o::r=>match tB ps o.op,o.dst with
  | some _,some d=>some (j,d)
  | _,_=>yT (j+1) r
def P4(ops:Array Oper)(o:Oper):Option al:=match tB ps o.op with
 | some (f,l)=>match dC l,iQ n ops o.guard with
  | some l,some g=>bif Nat.blt f cj&&dQ n o.dst then some ⟨o.dst,.call (cj+f) l,g⟩ else none
  | _,_=>none
 | none=>none
def PW(d:Nat)(a:al):Option al:=match a.guard,cG a.op with
 | none,none=>some ⟨a.dst,a.op,some (SK+d,false)⟩
 | _,_=>none
def N8(ops:Array Oper)(ms:List Nat)(c d:Nat)(j:Nat)(o:Oper):Option al:=
 bif Nat.beq j c then P4 n ps ops o else match dB P n ops o with
  | some a=>bif jz ms j c then PW d a else some a
  | none=>none
def z8(ops:Array Oper)(ms:List Nat)(c d:Nat):Nat->List Oper->Option (List al)
 | _,[]=>some []
 | j,o::r=>match N8 P n ps ops ms c d j o,z8 ops ms c d (j+1) r with
  | some a,some l=>some (a::l)
  | _,_=>none
def y6(c d:Nat):Nat->List al->Bool
 | _,[]=>true
 | k,a::r=>(Nat.beq k c||!(a.dst==some d))&&y6 c d (k+1) r
def tV(ops:Array Oper)(rest:List Oper):Option (List al×Option (Nat×Nat)):=match cz P n ops rest with
 | some l=>some (l,none)
 | none=>none
def Dn(ops:Array Oper)(rest:List Oper):Option (List al×Option (Nat×Nat)):=match yT ps 0 rest with
 | some (c,d)=>match z8 P n ps ops (aV [] (ops.toList.map aU)) c d 0 rest with
  | some l=>bif y6 c d 0 l then some (l,some (c,d)) else tV P n ops rest
  | none=>tV P n ops rest
 | none=>tV P n ops rest
def I7(ops:Array Oper):Option cS:=match Dn P n ps ops ops.toList with
 | some (l,d)=>bif gz (ops.toList.map aU) (aV [] (ops.toList.map aU))&&eu (aB 0 l) (aV [] (ops.toList.map aU))&&l.all (dK n) then
   (match d with
    | none => some (.draw l ((List.range l.length).map (dV (aB 0 l) (aV [] (ops.toList.map aU)))))
    | some (_, d) => some (.seq (.draw l ((List.range l.length).map (dV (aB 0 l) (aV [] (ops.toList.map aU)))))
     (.seq (.reg [⟨some (n+2),.pf .isP [.t d],none⟩]) (.cond (.t (n+2)) (.seq (.reg [⟨some (n+2),.pf .isU [.t (n+1)],none⟩]) (.cond (.t (n+2)) (.seq (.reg [⟨some n,.mv (.t d),none⟩]) (.exit PB)) gu)) .skip))))
  else some gu
 | none=>none
def d7:Code->Option cS
 | .skip=>some .skip
 | .region _ ops false=>match tY P n ps ops ops.toList with
  | some its=>some (gk n its [])
  | none=>none
 | .region _ ops true=>I7 P n ps ops
 | .seq a b=>match d7 a,d7 b with
  | some a,some b=>some (.seq a b)
  | _,_=>none
 | .cond c a b=>match bT c,d7 a,d7 b with
  | some c,some a,some b=>bif dt n c then some (.cond c a b) else none
  | _,_,_=>none
 | .block id c=>match d7 c with
  | some c=>bif Nat.beq id PB then none else some (.block id c)
  | none=>none
 | .loop c=>match d7 c with
  | some c=>some (.loop c)
  | none=>none
 | .exit id=>bif Nat.beq id PB then none else some (.exit id)
 | .ret=>some (.exit PB)
 | _=>some gu
end
section
variable {tb:FuncId->Bool} {call:FuncId->List aa->ae->Option (aa×ae)} {k:Nat}
theorem gD(n:Nat):∀(its:List wR) (acc:List al) (T:Tr aa) (H:ae),aM tb call k (gk n its acc) T H=match bh tb call acc.reverse T H with
  | some (T1,H1)=>aM tb call k (gk n its []) T1 H1
  | none=>none
 | [],acc,T,H=>by
  simp only[gk,aM,List.reverse_nil,bh] <;> (cases bh tb call acc.reverse T H <;> rfl)
 | .ord o::r,acc,T,H=>by
  simp only[gk]
  rw[gD n r (o::acc),List.reverse_cons,fP]
  cases bh tb call acc.reverse T H with
  | none=>rfl
  | some p=>
   obtain⟨T1,H1⟩:=p
   simp only
   rw[gD n r [o] T1 H1]
   rfl
 | .dfr x::r,acc,T,H=>by
  simp only[gk]
  rw[gD n r (_::acc),List.reverse_cons,fP]
  cases bh tb call acc.reverse T H with
  | none=>rfl
  | some p=>
   obtain⟨T1,H1⟩:=p
   simp only
   rw[gD n r [_] T1 H1]
   rfl
 | .pnc x::r,acc,T,H=>by
  simp only[gk,aM,fP,List.reverse_nil,List.nil_append]
  cases bh tb call acc.reverse T H with
  | none=>rfl
  | some p=>rfl
 | .tc f l d g::r,acc,T,H=>by
  simp only[gk,aM,fP,List.reverse_nil,List.nil_append]
  cases bh tb call acc.reverse T H with
  | none=>rfl
  | some p=>rfl
end
section
variable {P:Program} {Prot:Gh} {w0:World} {ρ:Pl} {H H':ae} {w:World}
def QN(ρ:Pl)(x:aa)(ds:List Deferred):Prop:=(x=aR/\ds=[]) ∨
 ∃f a b d cap,x=.func (.func f) a b/\ds=[d]/\d.target=.fn (.func f) cap/\aq ρ b cap.toList/\aq ρ a d.args.toList
theorem QN.mono{ρ ρ':Pl}(h:ρ.le ρ'){x:aa}{ds:List Deferred}(d:QN ρ x ds):QN ρ' x ds:=by
 rcases d with d | ⟨f,a,b,d,cap,h1,h2,h3,h4,h5⟩
 ·exact .inl d
 ·exact .inr ⟨f,a,b,d,cap,h1,h2,h3,aq.mono h _ _ h4,aq.mono h _ _ h5⟩
structure GT(ρ:Pl)(n:Nat)(T:Tr aa)(a:Act):Prop where
 t:∃U,GE n T U/\be ρ n U a.tmps
 d:QN ρ (ev T (.t (n+1))) a.defers
theorem GT.mono{ρ ρ':Pl}(h:ρ.le ρ'){n:Nat}{T:Tr aa}{a:Act}(g:GT ρ n T a):GT ρ' n T a:=
 ⟨let ⟨U,h1,h2⟩:=g.t; ⟨U,h1,h2.mono h⟩,g.d.mono h⟩
theorem GT.ghost{n:Nat}{T:Tr aa}{a:Act}(g:GT ρ n T a){d:Nat}(hd:n<=d)(hne:d≠n+1)(v:aa):GT ρ n (T.set d v) a:=
 ⟨let ⟨U,h1,h2⟩:=g.t; ⟨U,h1.ghost hd v,h2⟩,by rw[aT,if_neg (fun e=>hne e.symm)]; exact g.d⟩
def rT(ρ:Pl)(n:Nat)(T:Tr aa)(a:Act):Prop:=GT ρ n T a/\ev T (.t n)=aR
def OC(ρ:Pl)(n:Nat)(T:Tr aa)(a:Act)(u:Value):Prop:=∃x,ev T (.t n)=kX x/\ah ρ x u/\((a.defers=[]/\ev T (.t (n+1))=aR)∨GT ρ n T a)
def Gm(Prot:Gh)(w0:World)(ρ:Pl)(n:Nat)(e:uD)(T:Tr aa)(H:ae):Exit->Act->World->Prop:=fun e' a w=>
 ∃ρ',ρ.le ρ'/\bF Prot w0 ρ' H w/\match e with
  | .normal=>e'=.normal/\rT ρ' n T a
  | .exit id=>(id≠PB/\e'=.exit id/\rT ρ' n T a)∨(id=PB/\((e'=.ret/\rT ρ' n T a)∨∃u,e'=.panic [{ v:=u,recovered:=false }]/\OC ρ' n T a u))
  | .ret=>False
theorem Gm.weaken{ρ ρ':Pl}{n:Nat}{e:uD}{T:Tr aa}{H:ae}(h:ρ.le ρ'){e':Exit}{a:Act}{w:World}(q:Gm Prot w0 ρ' n e T H e' a w):Gm Prot w0 ρ n e T H e' a w:=by
 obtain⟨ρ2,h2,h3⟩:=q
 exact⟨ρ2,Pl.le_trans h h2,h3⟩
theorem GI{x:aa}(h:ah ρ x undef):x=aR:=by
 unfold undef at h
 cases x with
 | tuple l=>
  simp only[ah]at h
  obtain⟨vs,e,hv⟩:=h
  simp only[Value.tuple.injEq]at e
  subst e
  cases l with
  | nil=>rfl
  | cons y l=>simp[aq]at hv
 | ptr a=>cases a <;> simp[ah]at h
 | slice a m r => cases a <;> simp only [ah] at h
                  · simp at h
                  · obtain ⟨_, _, _, _, _, h3, _⟩ := cT (by simpa only [ah] using h); simp at h3
 | map a=>cases a <;> simp[ah]at h
 | val v=>simp only[ah]at h; rw[<- h.1]at h; simp[OJ,Value.oneCell']at h
 | _=>simp[ah]at h
theorem Iq{x:aa}{v:Value}(h:ah ρ x v):fY x=false:=by
 cases hb:fY x with
 | false=>rfl
 | true=>obtain⟨y,e⟩:=nD hb; exact (Bd h e).elim
end
end Go.Abs
