/- Part of a proof (D4 D5 D6 D7 D6b); no condition. -/
import Derived.Test.YteabnpheoiakdaaGreatP4
set_option linter.unusedSimpArgs false
set_option linter.unusedVariables false
set_option linter.unnecessarySimpa false
namespace Go.Abs
def uI(m:Nat->Bool):Nat->Nat
 | 0=>0
 | n+1=>uI m n+(bif m n then 0 else 1)
theorem su{m:Nat->Bool}:∀{n:Nat},uI m n=0->∀i,i<n->m i=true
 | 0,_,i,h=>om
 | n+1,h,i,hi=>by
  simp only[uI]at h
  cases hb:m n with
  | true=>
   by_cases e:i=n
   ·rw[e]; exact hb
   ·exact su (n:=n) (by rw[hb]at h; simpa using h) i om
  | false=>rw[hb]at h; simp at h
theorem wX{m:Nat->Bool}:∀{n:Nat},(∀i,i<n->m i=true)->uI m n=0
 | 0,_=>rfl
 | n+1,h=>by simp only[uI,wX (n:=n) fun i hi=>h i om,h n om,cond_true]
theorem yu{m m':Nat->Bool}:∀{n:Nat},(∀i,i<n->m i=m' i)->uI m n=uI m' n
 | 0,_=>rfl
 | n+1,h=>by simp only[uI,yu (n:=n) fun i hi=>h i om,h n om]
theorem wW{m m':Nat->Bool}{i:Nat}:∀{n:Nat},i<n->m i=false->m' i=true->(∀j,j≠i->m' j=m j)->uI m' n+1=uI m n
 | 0,h,_,_,_=>om
 | n+1,h,h1,h2,h3=>by
  simp only[uI]
  by_cases e:i=n
  ·subst e
   rw[h1,h2,yu (m:=m') (m':=m) fun j hj=>h3 j om]
   simp
  ·have:=wW (n:=n) om h1 h2 h3
   rw[h3 n (fun q=>e q.symm)]
   omega
section
variable {tb:FuncId->Bool} {call:FuncId->List aa->ae->Option (aa×ae)}
theorem I3{hs:List ae}:∀(l:List al) (pss:List (List Nat)) (ss:List (aa×ae)) (T:Tr aa) (k:Nat),fF tb hs l pss ss T=true ->
  ∀j o ps v H',l[j]?=some o->pss[j]?=some ps->ss[j]?=some (v,H')->∀p∈ps,∃Hp,hs[p]?=some Hp /\
   (gY (bj (fun i=>Nat.blt i (k+j)) k l ss T) o.guard=true->∃H2,bW tb (bj (fun i=>Nat.blt i (k+j)) k l ss T) Hp o.op=some (.val v,H2)):=by
 intro l
 induction l with
 | nil=>intro pss ss T k _ j o ps v H' h; simp at h
 | cons o r ih=>
  intro pss ss T k h j o' ps v H' h1 h2 h3 p hp
  cases pss with
  | nil=>simp at h2
  | cons ps0 pss=>
   cases ss with
   | nil=>simp at h3
   | cons s ss=>
    obtain⟨u,H1⟩:=s
    simp only[fF,SE,List.all_eq_true]at h
    cases j with
    | zero=>
     simp only[SL,sJ,pJ]at h1 h2 h3
     subst h1 h2
     obtain⟨rfl,rfl⟩:=h3
     have e:bj (fun i=>Nat.blt i (k+0)) k (o::r) ((u,H1)::ss) T=T:=by
      have hn:∀(l:List al) (ss:List (aa×ae)) (k':Nat) (T:Tr aa),k<=k'->bj (fun i=>Nat.blt i (k+0)) k' l ss T=T:=by
       intro l
       induction l with
       | nil=>intro ss k' T _; cases ss <;> rfl
       | cons o r ih=>intro ss k' T hk; cases ss with
        | nil=>rfl
        | cons s ss=>
         obtain⟨a,b⟩:=s
         have:Nat.blt k' (k+0)=false:=by
          cases hb:Nat.blt k' (k+0) with
          | false=>rfl
          | true=>have:=SH hb; omega
         simp only[bj,this,cond_false]
         exact ih ss (k'+1) T om
      exact hn _ _ k T rL
     rw[e]
     have:=h.1 p hp
     split at this
     ·rename_i Hp hHp
      refine⟨Hp,hHp,fun hg=>?_⟩
      rw[hg]at this
      simp only[cond_true]at this
      split at this
      ·rename_i x H2 hx
       rw[B1 _ _ this]at hx
       exact⟨H2,hx⟩
      ·simp at this
     ·simp at this
    | succ j=>
     simp only[SN]at h1 h2 h3
     have hb:Nat.blt k (k+(j+1))=true:=by
      show Nat.ble (k+1) (k+(j+1))=true
      exact SD om
     simp only[bj,hb,cond_true]
     rw[show k+(j+1)=k+1+j by omega]
     exact ih pss ss (cR T o.dst u) (k+1) h.2 j o' ps v H' h1 h2 h3 p hp
theorem EJ{o:al}{T:Tr aa}{H H':ae}{v:aa}(hc:aJ o.op=false)(h:br tb call o T H=some (v,H')):H'=H:=by
 unfold br at h
 cases hg:gY T o.guard with
 | false=>rw[hg]at h; simp only[cond_false,sJ,pJ]at h; exact h.2.symm
 | true=>
  rw[hg]at h
  simp only[cond_true]at h
  have hk:jx o.op=true∨dn o.op=true:=by
   unfold aJ at hc
   cases h1:jx o.op <;> cases h2:dn o.op <;> simp_all
  split at h
  ·rename_i u H1 hu
   simp only[sJ,pJ]at h
   obtain⟨rfl,rfl⟩:=h
   rcases hk with hk | hk
   ·exact (fy hk hu).1
   ·exact (iJ hk hu).1
  ·rename_i f args H1 hu
   rcases hk with hk | hk
   ·obtain⟨_,⟨v,hv⟩,_⟩:=fy hk hu; simp at hv
   ·obtain⟨_,v,hv⟩:=iJ hk hu; simp at hv
  ·simp at h
theorem de{l:List al}{T0:Tr aa}{H0:ae}{ss:List (aa×ae)}(htr:cQ tb call l T0 H0=some ss):∀(d p:Nat),p+d<=l.length->(∀c o,p<=c->c<p+d->l[c]?=some o->aJ o.op=false)->ew H0 ss (p+d)=ew H0 ss p:=by
 intro d
 induction d with
 | zero=>intro p _ _; rfl
 | succ d ih=>
  intro p hp hn
  have h1:=ih p om fun c o h1 h2 h3=>hn c o h1 om h3
  obtain⟨_,hat⟩:=gN l T0 H0 ss 0 htr
  have ho:l[p+d]?=some l[p+d]:=SB om
  obtain⟨v,H',q1,q2⟩:=hat _ _ ho
  have:=EJ (hn _ _ om om ho) q2
  rw[<- h1]
  show ew H0 ss (p+d+1)=_
  simp only[ew,q1]
  exact this
end
theorem gP{m m':Nat->Bool}:∀(l:List al) (k:Nat),(∀c o,l[c]?=some o->aJ o.op=true->m (k+c)=m' (k+c))->aE m k l=aE m' k l:=by
 intro l
 induction l with
 | nil=>intro k _; rfl
 | cons o r ih=>
  intro k h
  simp only[aE]
  have h1:=ih (k+1) fun c o' q1 q2=>by rw[show k+1+c=k+(c+1) by omega]; exact h (c+1) o' (by simpa using q1) q2
  cases hc:aJ o.op with
  | false=>simp only[Bool.false_and,cond_false]; exact h1
  | true=>
   have:=h 0 o rfl hc
   simp only[Nat.add_zero]at this
   rw[this,h1]
theorem be.congr{ρ:Pl}{n:Nat}{T T':Tr aa}{tmps:Array Value}(h:∀t,T'.get t=T.get t)(r:be ρ n T tmps):be ρ n T' tmps:=
 ⟨r.size,fun t=>by have:=r.at_ t; simp only[ev]at this ⊢; rw[h t]; exact this⟩
section
variable {P:Program} {Prot:Gh} {w0:World} {tb:FuncId->Bool} {call:FuncId->List aa->ae->Option (aa×ae)}
def lP(D:Nat->Prop)(l:List al)(m:Nat->Bool):Nat->Prop:=fun d=>D d∨∃(i:Nat) (a:al) (z:List aa) (s:Option (Nat×Nat)),l[i]?=some a/\a.op=.claim d z s/\m i=false
theorem FP{ρ:Pl}{H:ae}{w:World}(R:bF Prot w0 ρ H w){n:Nat}{T:Tr aa}{a:Act}(ht:be ρ n T a.tmps){o:Oper}{z:List aa}{s:Option (Nat×Nat)}(hc:yj P o.op z s){b:Nat}(hd:Prot.dead b)(hx:H.get b=some (sY z s)) :
  ∃ρ' w' u,ρ.le ρ'/\(execOp a.eval o).run P w=.ok (.value u) w'/\bF ⟨Prot.prot,fun d=>Prot.dead d/\d≠b⟩ w0 ρ' H w'/\ah ρ' (P3 b z s) u:=by
 obtain⟨dst,op,type,pos,after,guard⟩:=o
 simp only at hc
 rcases hc with⟨e,rfl,hz,rfl⟩ | ⟨t,l,c,e,m,by_,z0,x,y,ln,cn,rfl,h2,h3,h4,h5,h6,h7,h8,h9,rfl,rfl⟩ | ⟨t,rfl,rfl,rfl⟩
 ·obtain⟨ρ1,w1,u,q1,q2,q3,q4⟩:=qS (P:=P) R hz hd hx
  refine⟨ρ1,w1,u,q1,?_,q3,q4⟩
  show (do pure (Next.value (<- Instr.alloc e true (.tuple #[]))):Sem Next).run P w=_
  simp only[Sem.run_bind,q2,Result.andThen_ok]
  rfl
 ·rw[sY,Mx h9.1]at hx
  obtain⟨ρ1,w1,u,q1,q2,q3,q4⟩:=tp (P:=P) R h2 (rI h3) h4 (aG ht h5) (aG ht h6) h7 h8 h9 hd hx
  refine⟨ρ1,w1,u,q1,?_,q3,by simp only[P3,Mx h9.1,cond_false]; exact q4⟩
  show (do pure (Next.value (<- Instr.makeSlice t (a.eval l) (a.eval c))):Sem Next).run P w=_
  simp only[Sem.run_bind,q2,Result.andThen_ok]
  rfl
 ·obtain⟨ρ1,w1,u,q1,q2,q3,q4⟩:=vS (P:=P) R t hd hx
  refine⟨ρ1,w1,u,q1,?_,q3,q4⟩
  show (do pure (Next.value (<- Instr.makeMap t none)):Sem Next).run P w=_
  simp only[Sem.run_bind,q2,Result.andThen_ok]
  rfl
def Eh(P:Program)(n:Nat)(ops:Array Oper)(o:Oper)(a:al):Prop:=
 ∃f args ats l g,o.op=.call ⟨.value (.func f),args,ats⟩/\dC args.toList=some l/\iQ n ops o.guard=some g/\dQ n o.dst=true/\Nat.blt f cj=true/\a=⟨o.dst,.call (cj+f) l,g⟩
def AB(P:Program)(call:FuncId->List aa->ae->Option (aa×ae)):Prop:=
 ∀f args H v H',Nat.blt f cj=true->call (cj+f) args H=some (v,H')->∀Prot w0 ρ w (vs:Array Value),bF Prot w0 ρ H w->aq ρ args vs.toList ->
  Calls P f vs w fun e w'=>∃ρ',ρ.le ρ'/\bF Prot w0 ρ' H' w'/\((∃u,e=.returned u/\ah ρ' v u)∨∃x u,v=kX x/\e=.panicked [{ v:=u,recovered:=false }]/\ah ρ' x u)
def QE(P:Program)(n:Nat)(ops:Array Oper)(l:List al)(ms:List Nat)(rp:Nat->Prop)(o:Oper)(a:al)(j:Nat):Prop:=
 ∃a' c d ac,dB P n ops o=some a'/\a'.guard=none/\a=⟨a'.dst,a'.op,some (SK+d,false)⟩/\jz ms j c=true/\rp c/\l[c]?=some ac/\ac.dst=some d/\∀k b,l[k]?=some b->b.dst=some d->k=c
theorem NV(K d:Nat):(bif Nat.ble K (K+d) then K+d-K else K+d)=d/\Nat.ble K (K+d)=true:=by
 have h:Nat.ble K (K+d)=true:=SD (Nat.le_add_right _ _)
 rw[h]
 exact⟨Nat.add_sub_cancel_left ..,rfl⟩
theorem MB(d:Nat):gS (SK+d)=d/\Nat.ble SK (SK+d)=true:=NV SK d
theorem nD{x:aa}(h:fY x=true):∃y,x=kX y:=by
 unfold fY at h
 split at h
 ·exact⟨_,rfl⟩
 ·simp at h
theorem Bd{ρ:Pl}{x y:aa}{v:Value}(h:ah ρ x v)(e:x=kX y):False:=by
 subst e
 simp only[kX,ah,aq]at h
 obtain⟨f,c,_,⟨v,r,_,⟨h1,h2⟩,_⟩,_⟩:=h
 simp[OJ]at h2
set_option maxHeartbeats 2000000 in
theorem zT{RAW:Prop}(htb:∀f,Nat.blt f cj=true->tb f=true->bO P f=true)(hcall:iW P call)(htbP:RAW->∀f,Nat.blt f cj=true->tb (cj+f)=true->bO P f=true)(hcallP:RAW->AB P call){ds:List Deferred}{n:Nat}{ops:Array Oper}{l:List al}{base:Nat}{ms:List Nat}{rp:Nat->Prop}
  (hlen:l.length=ops.toList.length) (hopers:∀(j:Nat) (o:Oper),ops.toList[j]?=some o->∃a,l[j]?=some a/\((¬rp j/\(dB P n ops o=some a∨(∃c,base<=c/\Gr P n ops o a c)∨QE P n ops l ms rp o a j))∨(RAW/\rp j/\Eh P n ops o a)))
  (hbase:∀d,Prot.dead d->d<base) (hdis:∀(i j:Nat) (a b:al) (c:Nat) (z z':List aa) (s s':Option (Nat×Nat)),l[i]?=some a->l[j]?=some b->a.op=.claim c z s->b.op=.claim c z' s'->i=j)
  (hm:gz (ops.toList.map aU) ms=true) (hp:eu l ms=true) {T0:Tr aa} {H0:ae} {ss:List (aa×ae)} (htr:cQ tb call l T0 H0=some ss)
  (hck:fF tb (H0::ss.map (·.2)) l ((List.range l.length).map (dV l ms)) ss T0=true) {ρ0:Pl} {Q:Exit->Act->World->Prop}
  (hQ:∀a w,(∃ρ,ρ0.le ρ/\bF Prot w0 ρ (ew H0 ss l.length) w/\be ρ n (bj (fun _=>true) 0 l ss T0) a.tmps/\a.defers=ds)->Q .normal a w)
  (hQP:RAW->∀(c:Nat) (a:Act) (w:World) (ρ:Pl) (x:aa) (u:Value),rp c->ρ0.le ρ->(∃H1,ss[c]?=some (kX x,H1)/\bF Prot w0 ρ H1 w)->ah ρ x u->a.defers=ds->Q (.panic [{ v:=u,recovered:=false }]) a w) :
  ∀(fuel:Nat) (listed:Array Bool) (a:Act) (w:World),listed.size=ops.size->uI (fun i=>listed.getD i false) ops.size=fuel ->
   (∀j,j<ops.size->listed.getD j false=true->∀e∈(ops.toList.map aU).getD j [],listed.getD e false=true) ->
   (∀c,rp c->listed.getD c false=true->∀x H1,ss[c]?≠some (kX x,H1)) ->
   (∃ρ,ρ0.le ρ/\bF ⟨Prot.prot,lP Prot.dead l fun i=>listed.getD i false⟩ w0 ρ (ew H0 ss (aE (fun i=>listed.getD i false) 0 l)) w/\be ρ n (bj (fun i=>listed.getD i false) 0 l ss T0) a.tmps/\a.defers=ds) ->
   wpAny P .any ops Q fuel listed a w:=by
 have hN:l.length=ops.size:=by simpa using hlen
 obtain⟨hsl,hat⟩:=gN l T0 H0 ss 0 htr
 have hes:(ops.toList.map aU).length=ops.size:=by simp
 have hpair:∀i j a b,i<j->l[i]?=some a->l[j]?=some b->gw ms i j a b=true:=by
  intro i j a b hij hi hj
  unfold eu at hp
  rw[List.all_eq_true]at hp
  have hjl:=(SC.1 hj).1
  have h1:=hp j (List.mem_range.2 hjl)
  rw[hj]at h1
  simp only at h1
  rw[List.all_eq_true]at h1
  have h2:=h1 i (List.mem_range.2 hij)
  rw[hi]at h2
  exact h2
 intro fuel
 induction fuel with
 | zero=>
  intro listed a w hsz hu _ _ hinv
  have hall:∀i,i<ops.size->listed.getD i false=true:=su hu
  refine⟨?_,hQ a w ?_⟩
  ·unfold Region.ready
   rw[List.filter_eq_nil_iff]
   intro i hi
   have:=hall i (List.mem_range.1 hi)
   have e:listed.getD i true=true:=by
    rw[Array.getD_eq_getD_getElem?]at this ⊢
    rw[Array.getElem?_eq_getElem (by rw[hsz]; exact List.mem_range.1 hi)]at this ⊢
    simpa using this
   simp[e]
  ·obtain⟨ρ,h1,h2,h3,h4⟩:=hinv
   refine⟨ρ,h1,?_,h3.congr fun t=>?_,h4⟩
   ·have hs:=dY (fun i=>listed.getD i false) l 0
    have:aE (fun i=>listed.getD i false) 0 l=l.length:=by
     obtain⟨q1,q2,q3,q4⟩:=hs
     rcases Nat.lt_or_ge (aE (fun i=>listed.getD i false) 0 l) l.length with q | q
     ·have ho:l[aE (fun i=>listed.getD i false) 0 l-0]?=some l[aE (fun i=>listed.getD i false) 0 l]:=by simp
      have:=(q4 _ (by simpa using q) ho).2
      rw[hall _ om]at this
      simp at this
     ·omega
    rw[this]at h2
    exact h2.fewer (D:=Prot.dead) fun d hd=>.inl hd
   ·refine fV l ss 0 T0 T0 rfl fun i o hi _=>?_
    have:=(SC.1 hi).1
    simp only[Nat.zero_add]
    exact (hall i om).symm
 | succ fuel ih=>
  intro listed a w hsz hu hdown hliv hinv
  obtain⟨ρ,hle,R,ht,hd⟩:=hinv
  have hml:=qK hm (m:=fun i=>listed.getD i false) (fun j hj hjl e he=>hdown j om hjl e he)
  have hmask:∀j,j<ops.size->(∀e∈(ops.toList.map aU).getD j [],listed.getD e false=true)->∀i,i<j->jz ms j i=true->listed.getD i false=true:=
   fun j hj he i hi hb=>hml j om he i hi hb
  refine⟨fun hnone=>?_,fun i hi=>?_⟩
  ·-- there is one that is ready
   exfalso
   have hex:∃i,i<ops.size/\listed.getD i false=false:=by
    rcases Classical.em (∃i,i<ops.size/\listed.getD i false=false) with h | h
    ·exact h
    ·exfalso
     have:uI (fun i=>listed.getD i false) ops.size=0:=wX fun i hi=>by
      cases hb:listed.getD i false with
      | true=>rfl
      | false=>exact (h ⟨i,hi,hb⟩).elim
     omega
   have hmin:∃i,i<ops.size/\listed.getD i false=false/\∀j,j<i->listed.getD j false=true:=by
    obtain⟨i,hi1,hi2⟩:=hex
    induction i using Nat.strongRecOn with
    | _ i ihm=>
     rcases Classical.em (∃j,j<i/\listed.getD j false=false) with⟨j,hj,hj2⟩ | h
     ·exact ihm j hj om hj2
     ·refine⟨i,hi1,hi2,fun j hj=>?_⟩
      cases hb:listed.getD j false with
      | true=>rfl
      | false=>exact (h ⟨j,hj,hb⟩).elim
   obtain⟨i,hi1,hi2,hi3⟩:=hmin
   have:i∈Region.ready .any ops listed:=by
    rw[mem_ready]
    refine⟨?_,ops[i],Array.getElem?_eq_getElem hi1,fun e he hb=>?_⟩
    ·rw[Array.getD_eq_getD_getElem?]at hi2 ⊢
     rw[Array.getElem?_eq_getElem om]at hi2 ⊢
     simpa using hi2
    ·refine hi3 _ ?_
     unfold gz at hm
     rw[List.all_eq_true]at hm
     have h1:=hm i (List.mem_range.2 om)
     simp only[SE,List.all_eq_true]at h1
     refine SH (h1.1 e.on ?_)
     have:(ops.toList.map aU).getD i []=aU ops[i]:=by simp[List.getD,hi1]
     rw[this]
     unfold aU
     rw[List.mem_map]
     exact⟨e,by rw[List.mem_filter]; exact⟨by simpa using he,hb⟩,rfl⟩
   rw[hnone]at this
   simp at this
  ·obtain⟨hi1,o,ho,hedge⟩:=mem_ready.1 hi
   have hiN:i<ops.size:=(Array.getElem?_eq_some_iff.1 ho).1
   have hmi:listed.getD i false=false:=by
    rw[Array.getD_eq_getD_getElem?]at hi1 ⊢
    rw[Array.getElem?_eq_getElem om]at hi1 ⊢
    simpa using hi1
   obtain⟨ao,hao,hco⟩:=hopers i o (by simpa using ho)
   have hedges:∀e∈(ops.toList.map aU).getD i [],listed.getD e false=true:=by
    have:(ops.toList.map aU).getD i []=aU o:=by
     have:ops[i]=o:=by simpa[Array.getElem?_eq_getElem hiN] using ho
     simp[List.getD,hiN,this]
    rw[this]
    intro e he
    unfold aU at he
    rw[List.mem_map]at he
    obtain⟨x,hx,rfl⟩:=he
    rw[List.mem_filter]at hx
    exact hedge x (by simpa using hx.1) hx.2
   have hafter:∀c b,i<c->l[c]?=some b->jz ms c i=true->listed.getD c false=false:=by
    intro c b hc hb hbit
    cases hx:listed.getD c false with
    | false=>rfl
    | true=>
     have hcN:=(SC.1 hb).1
     have:=hmask c om (hdown c om hx) i hc hbit
     rw[hmi]at this
     simp at this
   have hagree:∀t∈hY ao,(bj (fun i=>listed.getD i false) 0 l ss T0).get t=(bj (fun j=>Nat.blt j (0+i)) 0 l ss T0).get t:=by
    intro t htr'
    refine fV l ss 0 T0 T0 rfl fun c b hc hdst=>?_
    have hcN:=(SC.1 hc).1
    simp only[Nat.zero_add]
    rcases Nat.lt_trichotomy c i with h | h | h
    ·have e:Nat.blt c i=true:=SD h
     rw[e]
     have hpr:=hpair c i b ao h hc hao
     simp only[gw,Bool.or_eq_true,SE]at hpr
     rcases hpr with hpr | ⟨_,hpr⟩
     ·exact hmask i hiN hedges c h hpr
     ·exfalso
      simp only[uV,hdst,SE,Bool.not_eq_true',List.contains_eq_mem,decide_eq_false_iff_not]at hpr
      exact hpr.1.1 htr'
    ·subst h
     have e:Nat.blt c c=false:=by
      cases hb:Nat.blt c c with
      | false=>rfl
      | true=>have:=SH hb; omega
     rw[e]; exact hmi
    ·have e:Nat.blt c i=false:=by
      cases hb:Nat.blt c i with
      | false=>rfl
      | true=>have:=SH hb; omega
     rw[e]
     have hpr:=hpair i c ao b h hao hc
     simp only[gw,Bool.or_eq_true,SE]at hpr
     rcases hpr with hpr | ⟨_,hpr⟩
     ·exact hafter c b h hc hpr
     ·exfalso
      simp only[uV,hdst,SE,Bool.not_eq_true',List.contains_eq_mem,decide_eq_false_iff_not]at hpr
      exact hpr.2 htr'
   have hgd:gY (bj (fun i=>listed.getD i false) 0 l ss T0) ao.guard=gY (bj (fun j=>Nat.blt j (0+i)) 0 l ss T0) ao.guard:=by
    cases hg:ao.guard with
    | none=>rfl
    | some g=>
     obtain⟨t,b⟩:=g
     simp only[gY,ev]
     rw[hagree (gS t) (by simp[hY,hg])]
   have hop:∀H,bW tb (bj (fun i=>listed.getD i false) 0 l ss T0) H ao.op=bW tb (bj (fun j=>Nat.blt j (0+i)) 0 l ss T0) H ao.op:=
    fun H=>wM fun t h=>hagree t (by simp only[hY,List.mem_append]; exact .inl h)
   obtain⟨v,H1,hss,hstep⟩:=hat i ao hao
   obtain⟨st1,st2,st3,st4⟩:=dY (fun i=>listed.getD i false) l 0
   have hchain:aJ ao.op=true->aE (fun i=>listed.getD i false) 0 l=i:=by
    intro hc
    have hge:aE (fun i=>listed.getD i false) 0 l<=i:=by
     rcases Nat.lt_or_ge i (aE (fun i=>listed.getD i false) 0 l) with h | h
     ·have:=st3 i ao hao hc (by simpa using h)
      simp only[Nat.zero_add]at this
      rw[hmi]at this
      simp at this
     ·exact h
    rcases Nat.lt_or_ge (aE (fun i=>listed.getD i false) 0 l) i with h | h
    ·have hob:l[aE (fun i=>listed.getD i false) 0 l-0]?=some (l[aE (fun i=>listed.getD i false) 0 l]'om):=by simp
     obtain⟨q1,q2⟩:=st4 _ om hob
     have hob2:l[aE (fun i=>listed.getD i false) 0 l]?=some (l[aE (fun i=>listed.getD i false) 0 l]'om):=SB om
     have hpr:=hpair _ i _ ao h hob2 hao
     simp only[gw,Bool.or_eq_true,SE]at hpr
     rcases hpr with hpr | ⟨hpr,_⟩
     ·have:=hmask i hiN hedges _ h hpr
      rw[q2]at this
      simp at this
     ·rw[q1,hc]at hpr
      simp at hpr
    ·omega
   have hnext:(rp i->∀x,v≠kX x)->∀(ρ':Pl) (w':World) (a':Act),ρ.le ρ'->bF ⟨Prot.prot,lP Prot.dead l fun j=>if j=i then true else listed.getD j false⟩ w0 ρ' (if aJ ao.op=true then H1 else ew H0 ss (aE (fun i=>listed.getD i false) 0 l)) w' ->
     be ρ' n (cR (bj (fun i=>listed.getD i false) 0 l ss T0) ao.dst v) a'.tmps->a'.defers=ds->wpAny P .any ops Q fuel (listed.setIfInBounds i true) a' w':=by
    intro hnp ρ' w' a' hle' R' ht' hd'
    have hm':∀j,(listed.setIfInBounds i true).getD j false=if j=i then true else listed.getD j false:=by
     intro j
     by_cases e:j=i
     ·subst e
      rw[if_pos rfl,Array.getD_eq_getD_getElem?]
      have:j<listed.size:=om
      simp[this]
     ·rw[if_neg e]
      exact getD_set_ne false (fun q=>e q.symm)
    have hmf:(fun j=>(listed.setIfInBounds i true).getD j false)=fun j=>if j=i then true else listed.getD j false:=funext hm'
    refine ih _ a' w' (by simpa using hsz) ?_ ?_ ?_ ⟨ρ',Pl.le_trans hle hle',?_,?_,hd'⟩
    ·have:=wW (m:=fun i=>listed.getD i false) (m':=fun j=>(listed.setIfInBounds i true).getD j false) (i:=i) (n:=ops.size) hiN hmi (by rw[hm',if_pos rfl]) (fun j hj=>by rw[hm',if_neg hj])
     omega
    ·intro j hj hjl e he
     rw[hm']at hjl ⊢
     by_cases q:e=i
     ·rw[if_pos q]
     ·rw[if_neg q]
      by_cases q2:j=i
      ·subst q2; exact hedges e he
      ·rw[if_neg q2]at hjl; exact hdown j hj hjl e he
    ·intro c hrc hcl x Hx hcs
     rw[hm']at hcl
     by_cases q:c=i
     ·subst q
      rw[hss,sJ,pJ]at hcs
      exact hnp hrc x hcs.1
     ·rw[if_neg q]at hcl
      exact hliv c hrc hcl x Hx hcs
    ·rw[hmf]
     cases hc:aJ ao.op with
     | false=>
      rw[hc]at R'
      simp only[SO,if_false]at R'
      have:aE (fun j=>if j=i then true else listed.getD j false) 0 l=aE (fun i=>listed.getD i false) 0 l:=
       gP l 0 fun c b hcb hcc=>by
        simp only[Nat.zero_add]
        rw[if_neg]
        intro e
        subst e
        rw[hao]at hcb
        simp only[sJ]at hcb
        subst hcb
        rw[hc]at hcc
        simp at hcc
      rw[this]
      exact R'
     | true=>
      rw[hc]at R'
      simp only[if_true]at R'
      have hpi:=hchain hc
      obtain⟨s1,s2,s3,s4⟩:=dY (fun j=>if j=i then true else listed.getD j false) l 0
      have hgt:i<aE (fun j=>if j=i then true else listed.getD j false) 0 l:=by
       rcases Nat.lt_or_ge i (aE (fun j=>if j=i then true else listed.getD j false) 0 l) with h | h
       ·exact h
       ·exfalso
        have hob:l[aE (fun j=>if j=i then true else listed.getD j false) 0 l-0]?=some (l[aE (fun j=>if j=i then true else listed.getD j false) 0 l]'om):=by simp
        obtain⟨q1,q2⟩:=s4 _ om hob
        by_cases e:aE (fun j=>if j=i then true else listed.getD j false) 0 l=i
        ·rw[if_pos e]at q2; simp at q2
        ·rw[if_neg e]at q2
         have hob2:l[aE (fun j=>if j=i then true else listed.getD j false) 0 l]?=some (l[aE (fun j=>if j=i then true else listed.getD j false) 0 l]'om):=SB om
         have:=st3 _ _ hob2 q1 om
         simp only[Nat.zero_add]at this
         rw[q2]at this
         simp at this
      have hb:=de htr (aE (fun j=>if j=i then true else listed.getD j false) 0 l-(i+1)) (i+1) om fun c b c1 c2 c3=>by
       cases hx:aJ b.op with
       | false=>rfl
       | true=>
        exfalso
        have:=s3 c b c3 hx om
        simp only[Nat.zero_add]at this
        rw[if_neg om]at this
        have hpr:=hpair i c ao b om hao c3
        simp only[gw,Bool.or_eq_true,SE]at hpr
        rcases hpr with hpr | ⟨hpr,_⟩
        ·have h9:=hafter c b om c3 hpr
         rw[this]at h9
         simp at h9
        ·rw[hx,hc]at hpr
         simp at hpr
      rw[show i+1+(aE (fun j=>if j=i then true else listed.getD j false) 0 l-(i+1))=aE (fun j=>if j=i then true else listed.getD j false) 0 l by omega]at hb
      rw[hb]
      simp only[ew,hss]
      exact R'
    ·refine ht'.congr fun t=>?_
     rw[hmf,lD]
     by_cases e:ao.dst=some t
     ·rw[if_pos e]
      refine jC l ss 0 i T0 ao v H1 hao hss e (by simp) fun c b hc hcb hdst=>?_
      simp only[Nat.zero_add]
      rw[if_neg om]
      have hpr:=hpair i c ao b hc hao hcb
      simp only[gw,Bool.or_eq_true,SE]at hpr
      rcases hpr with hpr | ⟨_,hpr⟩
      ·exact hafter c b hc hcb hpr
      ·exfalso
       simp only[uV,e,SE,Bool.not_eq_true',beq_eq_false_iff_ne]at hpr
       exact hpr.1.2 hdst
     ·rw[if_neg e]
      refine fV l ss 0 T0 T0 rfl fun c b hc hdst=>?_
      simp only[Nat.zero_add]
      rw[if_neg]
      intro q
      subst q
      rw[hao]at hc
      simp only[sJ]at hc
      subst hc
      exact e hdst
   have hval:aJ ao.op=false->gY (bj (fun j=>Nat.blt j (0+i)) 0 l ss T0) ao.guard=true->∃H2,bW tb (bj (fun j=>Nat.blt j (0+i)) 0 l ss T0) (ew H0 ss (aE (fun i=>listed.getD i false) 0 l)) ao.op=some (.val v,H2):=by
    intro hc hgo
    unfold br at hstep
    rw[hgo]at hstep
    simp only[cond_true]at hstep
    cases hpu:jx ao.op with
    | true=>
     split at hstep
     ·rename_i u H2 hu
      simp only[sJ,pJ]at hstep
      obtain⟨rfl,rfl⟩:=hstep
      exact⟨_,(fy hpu hu).2.2 _⟩
     ·rename_i f args H2 hu
      obtain⟨_,⟨x,hx⟩,_⟩:=fy hpu hu
      simp at hx
     ·simp at hstep
    | false=>
     have hld:dn ao.op=true:=by
      unfold aJ at hc
      cases h1:dn ao.op with
      | true=>rfl
      | false=>rw[hpu,h1]at hc; simp at hc
     cases hsm:qD l i (aE (fun i=>listed.getD i false) 0 l) with
     | true=>
      unfold qD at hsm
      rw[SE,List.all_eq_true]at hsm
      have hij:=SH hsm.1
      have hb:=de htr (aE (fun i=>listed.getD i false) 0 l-i) i om fun c b c1 c2 c3=>by
       have:=hsm.2 c (List.mem_range.2 om)
       rw[c3]at this
       simp only[Bool.or_eq_true,Bool.not_eq_true']at this
       rcases this with h | h
       ·have:=SH h; omega
       ·exact h
      rw[show i+(aE (fun i=>listed.getD i false) 0 l-i)=aE (fun i=>listed.getD i false) 0 l by omega]at hb
      rw[hb]
      split at hstep
      ·rename_i u H2 hu
       simp only[sJ,pJ]at hstep
       obtain⟨rfl,rfl⟩:=hstep
       exact⟨_,hu⟩
      ·rename_i f args H2 hu
       obtain⟨_,x,hx⟩:=iJ hld hu
       simp at hx
      ·simp at hstep
     | false=>
      have hmem:aE (fun i=>listed.getD i false) 0 l∈dV l ms i:=by
       unfold dV
       rw[hao]
       simp only[hld,cond_true]
       rw[List.mem_filter]
       refine⟨List.mem_range.2 om,?_⟩
       rw[hsm]
       simp only[Bool.not_false,Bool.true_and]
       unfold vR
       rw[SE]
       refine⟨?_,?_⟩
       ·unfold mA
        rcases Nat.lt_or_ge (aE (fun i=>listed.getD i false) 0 l) l.length with h | h
        ·have hob:l[aE (fun i=>listed.getD i false) 0 l]?=some l[aE (fun i=>listed.getD i false) 0 l]:=SB h
         rw[hob]
         exact (st4 _ om (by simp)).1
        ·rw[SV h]
         have:aE (fun i=>listed.getD i false) 0 l=l.length:=om
         rw[this]
         exact Nat.beq_refl _
       ·rw[List.all_eq_true]
        intro c hcr
        have hcl:=List.mem_range.1 hcr
        rw[SB hcl]
        simp only[Bool.or_eq_true,Bool.not_eq_true']
        cases hcc:aJ l[c].op with
        | false=>exact .inl rfl
        | true=>
         right
         have hlc:l[c]?=some l[c]:=SB hcl
         cases hb:Nat.blt c (aE (fun i=>listed.getD i false) 0 l) with
         | true=>
          simp only[cond_true,Bool.not_eq_true']
          have hlt:c<aE (fun i=>listed.getD i false) 0 l:=SH hb
          have hcm:=st3 c _ hlc hcc om
          simp only[Nat.zero_add]at hcm
          cases hbit:jz ms c i with
          | false=>rfl
          | true=>
           exfalso
           rcases Nat.lt_trichotomy i c with h | h | h
           ·have:=hafter c _ h hlc hbit
            rw[hcm]at this; simp at this
           ·subst h; rw[hmi]at hcm; simp at hcm
           ·have:=kp hbit
            omega
         | false=>
          simp only[cond_false,Bool.not_eq_true']
          have hge:aE (fun i=>listed.getD i false) 0 l<=c:=by
           rcases Nat.lt_or_ge c (aE (fun i=>listed.getD i false) 0 l) with h | h
           ·have:Nat.blt c (aE (fun i=>listed.getD i false) 0 l)=true:=SD h
            rw[hb]at this; simp at this
           ·exact h
          cases hbit:jz ms i c with
          | false=>rfl
          | true=>
           exfalso
           have hlc2:=hmask i hiN hedges c (kp hbit) hbit
           have hpl:aE (fun i=>listed.getD i false) 0 l<l.length:=om
           have hob2:l[aE (fun i=>listed.getD i false) 0 l]?=some (l[aE (fun i=>listed.getD i false) 0 l]'hpl):=SB hpl
           obtain⟨q1,q2⟩:=st4 _ om (by rw[Nat.sub_zero]; exact hob2)
           rcases Nat.lt_trichotomy (aE (fun i=>listed.getD i false) 0 l) c with h | h | h
           ·have hpr:=hpair _ c _ _ h hob2 hlc
            simp only[gw,Bool.or_eq_true,SE]at hpr
            rcases hpr with hpr | ⟨hpr,_⟩
            ·have:=hmask c om (hdown c om hlc2) _ h hpr
             rw[q2]at this; simp at this
            ·rw[q1,hcc]at hpr; simp at hpr
           ·rw[h]at q2; rw[q2]at hlc2; simp at hlc2
           ·omega
      obtain⟨Hp,hHp,hrun⟩:=I3 l _ ss T0 0 hck i _ (dV l ms i) v H1 hao (by simp[hN,hiN]) hss _ hmem
      obtain⟨H2,hH2⟩:=hrun hgo
      refine⟨H2,?_⟩
      have:Hp=ew H0 ss (aE (fun i=>listed.getD i false) 0 l):=by
       cases hstg:aE (fun i=>listed.getD i false) 0 l with
       | zero=>rw[hstg]at hHp; simpa[ew] using hHp.symm
       | succ q=>
        rw[hstg]at hHp
        simp only[SN,List.getElem?_map]at hHp
        simp only[ew]
        cases hq:ss[q]? with
        | none=>rw[hq]at hHp; simp at hHp
        | some z=>rw[hq]at hHp; obtain⟨z1,z2⟩:=z; simpa using hHp.symm
      rw[<- this]
      exact hH2
   have hfew:∀d,lP Prot.dead l (fun j=>if j=i then true else listed.getD j false) d->lP Prot.dead l (fun i=>listed.getD i false) d:=by
    rintro d (hd | ⟨i',a',z',s',x1,x2,x3⟩)
    ·exact .inl hd
    ·refine .inr ⟨i',a',z',s',x1,x2,?_⟩
     simp only at x3
     by_cases e:i'=i
     ·rw[if_pos e]at x3; simp at x3
     ·rw[if_neg e]at x3; exact x3
   have hord:(¬rp i/\∃ax g,uG P o.op=some ax/\dQ n o.dst=true/\ao=⟨o.dst,ax,g⟩/\Region.wanted o (yielded ops a.tmps)=gY (bj (fun i=>listed.getD i false) 0 l ss T0) g)∨(¬rp i/\∃c,base<=c/\Gr P n ops o ao c)∨(RAW/\rp i/\Eh P n ops o ao):=by
    have hc0:∀a',dB P n ops o=some a'->∃ax g,uG P o.op=some ax/\dQ n o.dst=true/\a'=⟨o.dst,ax,g⟩/\iQ n ops o.guard=some g:=by
     intro a' hco
     unfold dB at hco
     split at hco
     ·rename_i ax g hopc hgc
      cases hdst:dQ n o.dst with
      | false=>rw[hdst]at hco; simp at hco
      | true=>
       rw[hdst]at hco
       simp only[cond_true,sJ]at hco
       exact⟨ax,g,hopc,rfl,hco.symm,hgc⟩
     ·simp at hco
    rcases hco with⟨hnr,hco | hco | ⟨a',c,d,ac,hco,hgn,rfl,hbc,hrc,hlc,hcd,honly⟩⟩ | hco
    ·obtain⟨ax,g,q1,q2,q3,q4⟩:=hc0 _ hco
     exact .inl ⟨hnr,ax,g,q1,q2,q3,fZ ht q4⟩
    ·exact .inr (.inl ⟨hnr,hco⟩)
    ·obtain⟨ax,g,q1,q2,rfl,q4⟩:=hc0 _ hco
     simp only at hgn
     subst hgn
     refine .inl ⟨hnr,ax,_,q1,q2,rfl,?_⟩
     have hcl:=hmask i hiN hedges c (kp hbc) hbc
     rw[fZ ht q4,hgd]
     obtain⟨vc,Hc,hsc,_⟩:=hat c ac hlc
     have hget:(bj (fun j=>Nat.blt j (0+i)) 0 l ss T0).get d=some vc:=by
      have:=jC (m:=fun j=>Nat.blt j (0+i)) l ss 0 c T0 ac vc Hc hlc hsc hcd (by simp only[Nat.zero_add]; exact SD (kp hbc)) fun k b hk hkb hdst=>absurd (honly k b hkb hdst) om
      exact this
     obtain⟨k1,k2⟩:=MB d
     simp only[gY,gV,k1,k2,cond_true,ev,hget]
     cases hp:fY vc with
     | false=>rfl
     | true=>
      obtain⟨x,rfl⟩:=nD hp
      exact absurd hsc (hliv c hrc hcl x Hc)
    ·exact .inr (.inr hco)
   rcases hord with⟨hnr,ax,g,hopc,hdst,rfl,hwant⟩ | ⟨hnr,cb,hcb,z,s,g,hoe,hgc,hdst,rfl⟩ | ⟨hraw,hrp,f,args,ats,lx,g,hoe,hlx,hgc,hdst,hbig,rfl⟩
   ·replace hnext:=hnext fun hr=>absurd hr hnr
    ·simp only at hgd hop hnext hchain hao
     unfold wpOp
     simp only[ho]
     rw[hwant,hgd]
     have hd':∀u,(a.put o.dst u).defers=ds:=fun u=>by cases hx:o.dst <;> simpa[Act.put] using hd
     unfold br at hstep
     simp only at hstep
     cases hgo:gY (bj (fun j=>Nat.blt j (0+i)) 0 l ss T0) g with
     | false=>
      rw[hgo]at hstep
      simp only[cond_false,sJ,pJ]at hstep
      obtain⟨rfl,rfl⟩:=hstep
      simp only[SO,if_false]
      refine hnext ρ w _ (Pl.le_refl _) ?_ (cf ht hdst eg) (hd' _)
      split
      ·rename_i hc
       have h9:=R.fewer hfew
       rw[hchain hc]at h9
       exact h9
      ·exact R.fewer hfew
     | true=>
      rw[hgo]at hstep
      simp only[cond_true]at hstep
      simp only[if_true]
      left
      cases hc:aJ ax with
      | true=>
       have hpi:=hchain hc
       rw[hpi]at R
       rw[<- hop]at hstep
       split at hstep
       ·rename_i u H2 hu
        simp only[sJ,pJ]at hstep
        obtain⟨rfl,rfl⟩:=hstep
        obtain⟨ρ1,w1,nx,q1,q2,q3,q4⟩:=jw htb R ht o hopc hu
        simp only[Oper.wp,q2]
        rw[hc]at hnext
        simp only[if_true]at hnext
        cases nx <;> simp only[jQ]at q4
        case value u=>exact hnext ρ1 w1 _ q1 (q3.fewer hfew) (cf (ht.mono q1) hdst q4) (hd' _)
        case skip=>exact hnext ρ1 w1 _ q1 (q3.fewer hfew) (cf (ht.mono q1) hdst q4) (hd' _)
       ·rename_i f args H2 hu
        obtain⟨ρ1,w1,nx,q1,q2,q3,q4⟩:=jw htb R ht o hopc hu
        simp only[Oper.wp,q2]
        rw[hc]at hnext
        simp only[if_true]at hnext
        cases nx <;> simp only[jQ]at q4
        case enter gf vs=>
         obtain⟨rfl,hbig,q5⟩:=q4
         simp only[Oper.upon]
         refine (hcall _ _ _ _ _ hbig hstep ⟨Prot.prot,lP Prot.dead l fun i=>listed.getD i false⟩ w0 ρ1 w1 vs q3 q5).mono fun e w' hr=>?_
         obtain⟨ρ2,u,r1,rfl,r3,r4⟩:=hr
         exact hnext ρ2 w' _ (Pl.le_trans q1 r1) (r3.fewer hfew) (cf ((ht.mono q1).mono r1) hdst r4) (hd' _)
       ·simp at hstep
      | false=>
       rw[hc]at hnext
       simp only[SO,if_false]at hnext
       obtain⟨H2,hH2⟩:=hval hc hgo
       have hsame:H2=ew H0 ss (aE (fun i=>listed.getD i false) 0 l):=by
        have hk:jx ax=true∨dn ax=true:=by
         unfold aJ at hc
         cases h1:jx ax <;> cases h2:dn ax <;> simp_all
        rcases hk with hk | hk
        ·exact (fy hk hH2).1
        ·exact (iJ hk hH2).1
       subst hsame
       rw[<- hop]at hH2
       obtain⟨ρ1,w1,nx,q1,q2,q3,q4⟩:=jw htb R ht o hopc hH2
       simp only[Oper.wp,q2]
       cases nx <;> simp only[jQ]at q4
       case value u=>exact hnext ρ1 w1 _ q1 (q3.fewer hfew) (cf (ht.mono q1) hdst q4) (hd' _)
       case skip=>exact hnext ρ1 w1 _ q1 (q3.fewer hfew) (cf (ht.mono q1) hdst q4) (hd' _)
   ·-- a new block,of a number that was laid lP
    replace hnext:=hnext fun hr=>absurd hr hnr
    simp only at hgd hop hnext hchain hao hval
    unfold wpOp
    simp only[ho]
    rw[fZ ht hgc,hgd]
    have hd':∀u,(a.put o.dst u).defers=ds:=fun u=>by cases hx:o.dst <;> simpa[Act.put] using hd
    have hnc:aJ (gL.claim cb z s)=false:=rfl
    rw[hnc]at hnext
    simp only[SO,if_false]at hnext
    cases hgo:gY (bj (fun j=>Nat.blt j (0+i)) 0 l ss T0) g with
    | false=>
     unfold br at hstep
     simp only at hstep
     rw[hgo]at hstep
     simp only[cond_false,sJ,pJ]at hstep
     obtain⟨rfl,rfl⟩:=hstep
     simp only[SO,if_false]
     exact hnext ρ w _ (Pl.le_refl _) (R.fewer hfew) (cf ht hdst eg) (hd' _)
    | true=>
     simp only[if_true]
     left
     obtain⟨H2,hH2⟩:=hval hnc hgo
     simp only[bW]at hH2
     obtain⟨y,hy,hv,_⟩:=bD hH2
     simp only[Nx.val.injEq]at hv
     subst hv
     obtain⟨hget,rfl⟩:=BN hy
     obtain⟨ρ1,w1,u,q1,hrun,q3,q4⟩:=FP R ht hoe (.inr ⟨i,_,z,s,hao,rfl,hmi⟩) hget
     simp only[Oper.wp,hrun]
     refine hnext ρ1 w1 _ q1 (q3.fewer ?_) (cf (ht.mono q1) hdst q4) (hd' _)
     intro d hd0
     refine⟨hfew d hd0,?_⟩
     rintro rfl
     rcases hd0 with hd0 | ⟨i',a',z',s',x1,x2,x3⟩
     ·have:=hbase _ hd0; omega
     ·have:=hdis i' i a' _ _ z' z s' s x1 hao x2 rfl
      subst this
      simp at x3
   ·-- a call whose panic is Kn
    simp only at hgd hop hnext hchain hao hval
    unfold wpOp
    simp only[ho]
    rw[fZ ht hgc,hgd]
    have hd':∀u,(a.put o.dst u).defers=ds:=fun u=>by cases hx:o.dst <;> simpa[Act.put] using hd
    have hnc:aJ (gL.call (cj+f) lx)=true:=rfl
    rw[hnc]at hnext
    simp only[if_true]at hnext
    have hpi:=hchain hnc
    rw[hpi]at R
    unfold br at hstep
    simp only at hstep
    cases hgo:gY (bj (fun j=>Nat.blt j (0+i)) 0 l ss T0) g with
    | false=>
     rw[hgo]at hstep
     simp only[cond_false,sJ,pJ]at hstep
     obtain⟨rfl,rfl⟩:=hstep
     simp only[SO,if_false]
     exact hnext (fun _ x hx=>by simp[aR,kX]at hx) ρ w _ (Pl.le_refl _) (R.fewer hfew) (cf ht hdst eg) (hd' _)
    | true=>
     rw[hgo]at hstep
     simp only[cond_true]at hstep
     simp only[if_true]
     left
     rw[<- hop]at hstep
     simp only[bW]at hstep
     cases hb:tb (cj+f) with
     | false=>rw[hb]at hstep; simp at hstep
     | true=>
      rw[hb]at hstep
      simp only[cond_true]at hstep
      have hrun:(execOp a.eval o).run P w=.ok (.enter f (args.map a.eval)) w:=by
       have:=fO (P:=P) (w:=w) (htbP hraw f hbig hb) (args.map a.eval)
       obtain⟨dst,op,type,pos,after,guard⟩:=o
       simp only at hoe
       subst hoe
       simp[execOp,resolve,Act.eval,Deferred.ofValue,invoke,this]
      simp only[Oper.wp,hrun,Oper.upon]
      refine (hcallP hraw f _ _ _ _ hbig hstep ⟨Prot.prot,lP Prot.dead l fun i=>listed.getD i false⟩ w0 ρ w (args.map a.eval) R (by simpa using gI ht hlx)).mono fun e w' hr=>?_
      obtain⟨ρ2,r1,r3,⟨u,rfl,r4⟩ | ⟨x,u,rfl,rfl,r4⟩⟩:=hr
      ·exact hnext (fun _ x hx=>Bd r4 hx) ρ2 w' _ r1 (r3.fewer hfew) (cf (ht.mono r1) hdst r4) (hd' _)
      ·exact hQP hraw i a w' ρ2 x u hrp (Pl.le_trans hle r1) ⟨H1,hss,r3.fewer (D:=Prot.dead) fun d hd=>.inl hd⟩ r4 hd
end
end Go.Abs
namespace Go.Abs
theorem tU{P:Program}{c:Call}{b:Nat}{z:List aa}{s:Option (Nat×Nat)}(h:iR P c=some (.claim b z s)):False:=by
 unfold iR at h
 repeat' split at h
 all_goals first
  | (simp at h; done)
  | (simp only[cond_eq_ite]at h; split at h <;> simp at h)
theorem tX{P:Program}{o:Op}{b:Nat}{z:List aa}{s:Option (Nat×Nat)}(h:nN P o=some (.claim b z s)):False:=by
 unfold nN at h
 repeat' split at h
 all_goals first
  | (simp at h; done)
  | (simp only[cond_eq_ite]at h; split at h <;> first | (simp at h; done) | (split at h <;> simp at h))
theorem uY{P:Program}{o:Op}{b:Nat}{z:List aa}{s:Option (Nat×Nat)}(h:uG P o=some (.claim b z s)):False:=by
 unfold uG at h
 split at h
 ·rename_i a ha
  simp only[sJ]at h
  subst h
  exact tX ha
 ·split at h
  ·rename_i a ha
   simp only[sJ]at h
   subst h
   cases o <;> simp only[ya,reduceCtorEq]at ha
   case call c _=>exact tU ha
   all_goals
    exfalso
    repeat' split at ha
    all_goals first
     | (simp at ha; done)
     | (simp only[cond_eq_ite]at ha; split at ha <;> simp at ha)
  ·simp at h
def LU(l:List al):Prop:=∀a∈l,∀(c:Nat) (z:List aa) (s:Option (Nat×Nat)),a.op≠.claim c z s
def dM(l:List al):Prop:=LU l/\∀a∈l,eJ a.op=false
theorem Be{P:Program}{n:Nat}{ops:Array Oper}:∀{rest:List Oper} {l:List al},cz P n ops rest=some l->LU l:=by
 intro rest
 induction rest with
 | nil=>intro l h; simp only[cz,sJ]at h; subst h; intro a ha; simp at ha
 | cons o r ih=>
  intro l h
  simp only[cz]at h
  split at h
  ·rename_i a l' ha hl'
   simp only[sJ]at h
   subst h
   intro x hx c z s hc
   rcases List.mem_cons.1 hx with rfl | hx
   ·unfold dB at ha
    split at ha
    ·rename_i ax g hopc hg
     cases hdst:dQ n o.dst with
     | false=>rw[hdst]at ha; simp at ha
     | true=>
      rw[hdst]at ha
      simp only[cond_true,sJ]at ha
      subst ha
      simp only at hc
      subst hc
      exact uY hopc
    ·simp at ha
   ·exact ih hl' x hx c z s hc
  ·simp at h
theorem tk{P:Program}{n:Nat}{ops:Array Oper}:∀{rest:List Oper} {l:List al},cz P n ops rest=some l->∀a∈l,eJ a.op=false:=by
 intro rest
 induction rest with
 | nil=>intro l h; simp only[cz,sJ]at h; subst h; intro a ha; simp at ha
 | cons o r ih=>
  intro l h
  simp only[cz]at h
  split at h
  ·rename_i a l' ha hl'
   simp only[sJ]at h
   subst h
   intro x hx
   rcases List.mem_cons.1 hx with rfl | hx
   ·unfold dB at ha
    split at ha
    ·rename_i ax g hopc hg
     cases hdst:dQ n o.dst with
     | false=>rw[hdst]at ha; simp at ha
     | true=>
      rw[hdst]at ha
      simp only[cond_true,sJ]at ha
      subst ha
      exact tW hopc
    ·simp at ha
   ·exact ih hl' x hx
  ·simp at h
theorem dI{P:Program}{n:Nat}{ops:Array Oper}{rest:List Oper}{l:List al}(h:cz P n ops rest=some l):dM l:=⟨Be h,tk h⟩
theorem dM.tail{o:al}{r:List al}(h:dM (o::r)):dM r:=⟨fun x hx=>h.1 x (List.mem_cons_of_mem _ hx),fun x hx=>h.2 x (List.mem_cons_of_mem _ hx)⟩
theorem lJ(b:Nat)(o:al)(r:List al)(hf:eJ o.op=false):(∃z s,aB b (o::r)=⟨o.dst,.claim b z s,o.guard⟩::aB (b+1) r/\∀H,aQ H (o::r)=aQ (H.push (sY z s)) r) ∨
  (aB b (o::r)=o::aB b r/\∀H,aQ H (o::r)=aQ H r):=by
 cases h:cG o.op with
 | some p=>obtain⟨z,s⟩:=p; exact .inl ⟨z,s,by simp only[aB,h,Dm hf],fun H=>by simp only[aQ,h]⟩
 | none=>exact .inr ⟨by simp only[aB,h],fun H=>by simp only[aQ,h]⟩
theorem mC:∀(l:List al) (b:Nat),dM l->∀(i:Nat) (a:al) (c:Nat) (z:List aa) (s:Option (Nat×Nat)),(aB b l)[i]?=some a->a.op=.claim c z s->b<=c
 | [],b,_,i,a,c,z,s,h,_=>by simp[aB]at h
 | o::r,b,hn,i,a,c,z,s,h,hc=>by
  have hr:dM r:=hn.tail
  rcases lJ b o r (hn.2 o (List.mem_cons_self ..)) with⟨z',s',e,_⟩ | ⟨e,_⟩
  ·rw[e]at h
   cases i with
   | zero=>
    simp only[SL,sJ]at h
    subst h
    simp only[gL.claim.injEq]at hc
    omega
   | succ i=>
    simp only[SN]at h
    have:=mC r (b+1) hr i a c z s h hc
    omega
  ·rw[e]at h
   cases i with
   | zero=>
    simp only[SL,sJ]at h
    subst h
    exact absurd hc (hn.1 o (List.mem_cons_self ..) c z s)
   | succ i=>
    simp only[SN]at h
    exact mC r b hr i a c z s h hc
theorem kl:∀(l:List al) (b:Nat),dM l->∀(i j:Nat) (a a':al) (c:Nat) (z z':List aa) (s s':Option (Nat×Nat)),(aB b l)[i]?=some a->(aB b l)[j]?=some a'->a.op=.claim c z s->a'.op=.claim c z' s'->i=j
 | [],b,_,i,j,a,a',c,z,z',s,s',h,_,_,_=>by simp[aB]at h
 | o::r,b,hn,i,j,a,a',c,z,z',s,s',h,k,hc,kc=>by
  have hr:dM r:=hn.tail
  rcases lJ b o r (hn.2 o (List.mem_cons_self ..)) with⟨y,s9,e,_⟩ | ⟨e,_⟩
  ·rw[e]at h k
   cases i with
   | zero=>
    cases j with
    | zero=>rfl
    | succ j=>
     simp only[SL,sJ,SN]at h k
     subst h
     simp only[gL.claim.injEq]at hc
     have:=mC r (b+1) hr j a' c z' s' k kc
     omega
   | succ i=>
    cases j with
    | zero=>
     simp only[SL,sJ,SN]at h k
     subst k
     simp only[gL.claim.injEq]at kc
     have:=mC r (b+1) hr i a c z s h hc
     omega
    | succ j=>
     simp only[SN]at h k
     rw[kl r (b+1) hr i j a a' c z z' s s' h k hc kc]
  ·rw[e]at h k
   cases i with
   | zero=>
    simp only[SL,sJ]at h
    subst h
    exact absurd hc (hn.1 o (List.mem_cons_self ..) c z s)
   | succ i=>
    cases j with
    | zero=>
     simp only[SL,sJ]at k
     subst k
     exact absurd kc (hn.1 o (List.mem_cons_self ..) c z' s')
    | succ j=>
     simp only[SN]at h k
     rw[kl r b hr i j a a' c z z' s s' h k hc kc]
section
variable {w0:World} {ρ:Pl} {w:World}
theorem il{pr:Nat->Prop}:∀(l:List al) (D:Nat->Prop) (H:ae),dM l->bF ⟨pr,D⟩ w0 ρ H w->bF ⟨pr,lP D (aB H.next l) fun _=>false⟩ w0 ρ (aQ H l) w
 | [],D,H,_,R=>R.fewer (D:=lP D [] fun _=>false) fun d hd=>by
  rcases hd with hd | ⟨i,a,z,s,h,_⟩
  ·exact hd
  ·simp at h
 | o::r,D,H,hn,R=>by
  have hr:dM r:=hn.tail
  rcases lJ H.next o r (hn.2 o (List.mem_cons_self ..)) with⟨y,s9,e,f⟩ | ⟨e,f⟩
  ·rw[e,f]
   have:=il r _ _ hr (R.reserve (sY y s9) (by unfold sY; cases uU s9 <;> rfl))
   refine bF.fewer this fun d hd=>?_
   rcases hd with hd | ⟨i,a,z,s,h,k,_⟩
   ·exact .inl (.inl hd)
   ·cases i with
    | zero=>
     simp only[SL,sJ]at h
     subst h
     simp only[gL.claim.injEq]at k
     exact .inl (.inr k.1.symm)
    | succ i=>
     simp only[SN]at h
     exact .inr ⟨i,a,z,s,h,k,rfl⟩
  ·rw[e,f]
   have:=il r _ _ hr R
   refine bF.fewer this fun d hd=>?_
   rcases hd with hd | ⟨i,a,z,s,h,k,_⟩
   ·exact .inl hd
   ·cases i with
    | zero=>
     simp only[SL,sJ]at h
     subst h
     exact absurd k (hn.1 o (List.mem_cons_self ..) d z s)
    | succ i=>
     simp only[SN]at h
     exact .inr ⟨i,a,z,s,h,k,rfl⟩
end
end Go.Abs
namespace Go.Abs
def qe:List aa->List Nat
 | []=>[]
 | x::r=>match du x with
  | some b=>b::qe r
  | none=>qe r
def lz:gL->Bool
 | .store ..=>true
 | .hf (.fill ..) _=>true
 | _=>false
def oM:gL->Bool
 | .store ..=>true
 | .append ..=>true
 | .hf (.fill ..) _=>true
 | _=>false
def fH(T:Tr aa)(o:gL)(v:aa):List Nat:=match o with
 | .store _ a _=>qe [ev T a]
 | .append _ _ s x=>qe [ev T s,ev T x,v]
 | .hf (.fill ..) _=>qe [v]
 | .load _ _ x=>qe [ev T x]
 | _=>[]
theorem jM{x:aa}{l:List aa}{b:Nat}(h:x∈l)(hb:du x=some b):b∈qe l:=by
 induction l with
 | nil=>simp at h
 | cons y r ih=>
  simp only[qe]
  rcases List.mem_cons.1 h with rfl | h
  ·rw[hb]; exact List.mem_cons_self
  ·split
   ·exact List.mem_cons_of_mem _ (ih h)
   ·exact ih h
theorem oK{l:List aa}{b:Nat}(h:b∈qe l):∃x∈l,du x=some b:=by
 induction l with
 | nil=>simp[qe]at h
 | cons y r ih=>
  simp only[qe]at h
  split at h
  ·rename_i c hc
   rcases List.mem_cons.1 h with rfl | h
   ·exact⟨y,List.mem_cons_self,hc⟩
   ·obtain⟨x,h1,h2⟩:=ih h; exact⟨x,List.mem_cons_of_mem _ h1,h2⟩
  ·obtain⟨x,h1,h2⟩:=ih h; exact⟨x,List.mem_cons_of_mem _ h1,h2⟩
structure Fr(S:Nat->Prop)(H H1 H2 H3:ae):Prop where
 next:H3.next=H1.next
 same:∀x,S x->H3.get x=H1.get x
 rest:∀x,¬S x->H3.get x=H2.get x
structure B7(S:Nat->Prop)(H H1:ae):Prop where
 rest:∀x,¬S x->H1.get x=H.get x
theorem B7.refl(S:Nat->Prop)(H:ae):B7 S H H:=⟨fun _ _=>rfl⟩
section
variable {S:Nat->Prop} {H H1 H2:ae}
theorem s8{a:Ad}{n:Nat}(e:H2.get a.b=H.get a.b):bE H2 a n=bE H a n:=by
 unfold bE; rw[e]
def QF(a:Ad)(xs:List aa):Option cJ->Option cJ
 | some (.cells l low false mk)=>bif Nat.ble low a.lim&&(Nat.beq a.lim l.length&&(Nat.ble (a.o+xs.length) a.lim&&xs.all aa.one)) then
   some (.cells (l.take a.o++(xs++l.drop (a.o+xs.length))) a.lim false mk) else none
 | _=>none
def Iy(a:Ad)(p:Nat)(xs:List aa):Option cJ->Option cJ
 | some (.cells l low false mk)=>bif Nat.ble low a.lim&&(Nat.beq a.lim l.length&&(Nat.ble p a.lim&&(Nat.ble a.o p&&(Nat.ble (a.lim+1) (p+xs.length)&&xs.all aa.one)))) then
   some (.cells (l.take p++xs) (bif Nat.beq p a.lim then low else p+xs.length) false mk) else none
 | _=>none
theorem qt(H:ae)(a:Ad)(xs:List aa):dX H a xs=(QF a xs (H.get a.b)).map fun o=>H.set a.b o:=by
 unfold dX QF
 cases H.get a.b with
 | none=>rfl
 | some o=>
  cases o with
  | cells l low ro=>
   cases ro with
   | true=>rfl
   | false=>
    try simp only
    cases (Nat.ble low a.lim&&(Nat.beq a.lim l.length&&(Nat.ble (a.o+xs.length) a.lim&&xs.all aa.one))) <;> rfl
  | _=>rfl
theorem C6(H:ae)(a:Ad)(p:Nat)(xs:List aa):dz H a p xs=(Iy a p xs (H.get a.b)).map fun o=>H.set a.b o:=by
 unfold dz Iy
 cases H.get a.b with
 | none=>rfl
 | some o=>
  cases o with
  | cells l low ro=>
   cases ro with
   | true=>rfl
   | false=>
    try simp only
    cases (Nat.ble low a.lim&&(Nat.beq a.lim l.length&&(Nat.ble p a.lim&&(Nat.ble a.o p&&(Nat.ble (a.lim+1) (p+xs.length)&&xs.all aa.one))))) <;> rfl
  | _=>rfl
def yi(S:Nat->Prop)(H:ae)(f:ae->Option (aa×ae))(v:aa)(H1:ae):Prop:=
 (∀H2,H2.next=H.next->(∀x,S x->H2.get x=H.get x)->∃H3,f H2=some (v,H3)/\Fr S H H1 H2 H3)/\B7 S H H1
theorem tI{b:Nat}{o:cJ}(hS:S b)(hn:H2.next=H.next)(hs:∀x,S x->H2.get x=H.get x):Fr S H (H.set b o) H2 (H2.set b o):=
 ⟨hn,fun x hx=>by rw[ae.get_set,ae.get_set,hs x hx],fun x hx=>by rw[ae.get_set,if_neg]; rintro rfl; exact hx hS⟩
theorem lr{b:Nat}{o:cJ}(hS:S b):B7 S H (H.set b o):=⟨fun x hx=>by rw[ae.get_set,if_neg]; rintro rfl; exact hx hS⟩
theorem C9{o:cJ}(hn:H2.next=H.next)(hs:∀x,S x->H2.get x=H.get x)(hS:S H.next):Fr S H (H.push o) H2 (H2.push o):=
 ⟨by show H2.next+1=H.next+1; omega,fun x hx=>by rw[ae.get_push,ae.get_push,hn,hs x hx],fun x hx=>by rw[ae.get_push,if_neg]; rw[hn]; rintro rfl; exact hx hS⟩
theorem vY{o:cJ}(hS:S H.next):B7 S H (H.push o):=⟨fun x hx=>by rw[ae.get_push,if_neg]; rintro rfl; exact hx hS⟩
theorem PZ(hn:H2.next=H.next)(hs:∀x,S x->H2.get x=H.get x):Fr S H H H2 H2:=⟨hn,hs,fun _ _=>rfl⟩
theorem yL{α β:Type}{o:Option α}{f:α->β}{y:β}(h:o.map f=some y):∃x,o=some x/\f x=y:=by
 cases o with
 | none=>simp at h
 | some x=>exact⟨x,rfl,by simpa using h⟩
theorem yG{n:Nat}{a x:aa}(hS:∀b,du a=some b->S b)(h:bu n H a x=some H1) :
  yi S H (fun H=>match bu n H a x with | some H'=>some (aR,H') | none=>none) aR H1/\H1.next=H.next:=by
 unfold bu at h
 split at h <;> first | (simp at h; done) | skip
 rename_i a
 cases hb:Nat.beq x.cells.length n with
 | false=>rw[hb]at h; simp at h
 | true=>
  rw[hb,cond_true,qt]at h
  obtain⟨o,ho,rfl⟩:=yL h
  have hs':S a.b:=hS _ rfl
  refine⟨⟨fun H2 hn hs=>⟨H2.set a.b o,?_,tI hs' hn hs⟩,lr hs'⟩,rfl⟩
  simp only[bu,hb,cond_true,qt,hs _ hs',ho,Option.map_some]
theorem EK{n:Nat}{x:aa}(hS:∀b,du x=some b->S b)(hs:∀x,S x->H2.get x=H.get x):jO n H2 x=jO n H x:=by
 unfold jO
 split <;> first | rfl | skip
 rename_i a m r
 rw[s8 (hs _ (hS _ rfl))]
theorem ye{sz by_:Nat}{s x v:aa}(h1:∀b,du s=some b->S b)(h2:∀b,du x=some b->S b)(h3:∀b,du v=some b->S b)(h:bQ sz by_ H s x=some (v,H1)) :
  yi S H (fun H=>bQ sz by_ H s x) v H1:=by
 have key:∀H2:ae,H2.next=H.next->(∀x,S x->H2.get x=H.get x)->(∃H3,bQ sz by_ H2 s x=some (v,H3)/\Fr S H H1 H2 H3)/\B7 S H H1:=by
  intro H2 hn hs
  have hsrc:=EK (n:=sz) h2 hs
  unfold bQ at h ⊢
  rw[hsrc]
  split at h
  ·simp at h
  ·rename_i n xs hx
   try simp only
   cases hz:Nat.beq n 0 with
   | true=>
    rw[hz,cond_true]at h
    simp only[cond_true]
    split at h
    ·simp only[sJ,pJ]at h
     obtain⟨rfl,rfl⟩:=h
     exact⟨⟨_,rfl,PZ hn hs⟩,B7.refl _ _⟩
    ·simp at h
   | false=>
    rw[hz,cond_false]at h
    simp only[cond_false]
    split at h <;> first | (simp at h; done) | skip
    rename_i so len room
    try simp only
    cases hc:(Nat.blt 0 sz&&(Nat.ble ((2*(len+n)+0)*by_) 281474976710656&&(Nat.ble (len+n) 9223372036854775807&&(Nat.beq xs.length (n*sz)&&xs.all aa.one)))) with
    | false=>rw[hc]at h; simp at h
    | true=>
     rw[hc,cond_true]at h
     simp only[cond_true]
     split at h
     ·simp only[sJ,pJ]at h
      obtain⟨rfl,rfl⟩:=h
      have hb:S H.next:=h3 _ rfl
      refine⟨⟨_,?_,C9 hn hs hb⟩,vY hb⟩
      simp only[hn]
     ·rename_i a c
      have ha:S a.b:=h1 _ rfl
      try simp only
      cases hk:Nat.ble (len+n) c with
      | true=>
       rw[hk,cond_true,qt]at h
       simp only[cond_true,qt,hs _ ha]
       cases ho:QF ⟨a.b,a.lim,a.o+len*sz⟩ xs (H.get a.b) with
       | none=>rw[ho]at h; simp at h
       | some o=>
        rw[ho]at h
        simp only[Option.map_some,sJ,pJ]at h
        obtain⟨rfl,rfl⟩:=h
        exact⟨⟨_,by simp only[Option.map_some],tI ha hn hs⟩,lr ha⟩
      | false=>
       rw[hk,cond_false]at h
       simp only[cond_false,s8 (hs _ ha)]
       split at h
       ·rename_i old ho
        simp only[sJ,pJ]at h
        obtain⟨rfl,rfl⟩:=h
        have hb:S H.next:=h3 _ rfl
        refine⟨⟨_,?_,C9 hn hs hb⟩,vY hb⟩
        simp only[hn]
       ·simp at h
     ·rename_i a z
      have ha:S a.b:=h1 _ rfl
      try simp only
      cases hk:Nat.beq z sz with
      | false=>rw[hk]at h; simp at h
      | true=>
       rw[hk,cond_true]at h
       simp only[cond_true]
       cases hk2:Nat.ble (a.o+(len+n)*sz) a.lim with
       | true=>
        rw[hk2,cond_true,qt]at h
        simp only[cond_true,qt,hs _ ha]
        cases ho:QF ⟨a.b,a.lim,a.o+len*sz⟩ xs (H.get a.b) with
        | none=>rw[ho]at h; simp at h
        | some o=>
         rw[ho]at h
         simp only[Option.map_some,sJ,pJ]at h
         obtain⟨rfl,rfl⟩:=h
         exact⟨⟨_,by simp only[Option.map_some],tI ha hn hs⟩,lr ha⟩
       | false=>
        rw[hk2,cond_false,C6]at h
        simp only[cond_false,C6,hs _ ha]
        cases ho:Iy a (a.o+len*sz) xs (H.get a.b) with
        | none=>rw[ho]at h; simp at h
        | some o=>
         rw[ho]at h
         simp only[Option.map_some,sJ,pJ]at h
         obtain⟨rfl,rfl⟩:=h
         exact⟨⟨_,by simp only[Option.map_some],tI ha hn hs⟩,lr ha⟩
 exact⟨fun H2 hn hs=>(key H2 hn hs).1,(key H rfl fun _ _=>rfl).2⟩
theorem pV{k:jR}{b:Nat}{l:List aa}{v:aa}{o:cJ}(h:lG k b l=some (v,o)):du v=some b:=by
 unfold lG at h
 repeat' split at h
 all_goals first
  | (simp at h; done)
  | (simp only[sJ,pJ]at h; obtain⟨rfl,rfl⟩:=h; rfl)
  | (simp only[cond_eq_ite]at h; split at h <;> first | (simp at h; done) | (simp only[sJ,pJ]at h; obtain⟨rfl,rfl⟩:=h; rfl))
theorem nF{k:jR}{b:Nat}{l:List aa}{v:aa}(h:gG k b H l=some (v,H1)):∃c o,H.get b=some (.cells c 0 false)/\lG k b l=some (v,o)/\H1=H.set b o:=by
 unfold gG at h
 split at h <;> first | (simp at h; done) | skip
 rename_i c hg
 split at h <;> first | (simp at h; done) | skip
 rename_i p hp
 simp only[sJ,pJ]at h
 obtain⟨rfl,rfl⟩:=h
 exact⟨c,p.2,hg,hp,rfl⟩
theorem zO{k:jR}{b:Nat}{r:List aa}{c:List aa}{v:aa}{o:cJ}(hg:H.get b=some (.cells c 0 false))(ho:lG k b r=some (v,o)):gG k b H r=some (v,H.set b o):=by
 simp only[gG,hg,ho]
theorem BA{k:jR}{b:Nat}{l:List aa}{v:aa}(h3:∀c,du v=some c->S c)(h:gG k b H l=some (v,H1)) :
  yi S H (fun H=>gG k b H l) v H1/\H1.next=H.next/\du v=some b:=by
 obtain⟨c,o,hg,ho,rfl⟩:=nF h
 have hb:S b:=h3 _ (pV ho)
 exact⟨⟨fun H2 hn hs=>⟨H2.set b o,zO (by rw[hs _ hb]; exact hg) ho,tI hb hn hs⟩,lr hb⟩,rfl,pV ho⟩
theorem Bm{agg:Bool}{n:Nat}{x:aa}(hS:∀b,du x=some b->H2.get b=H.get b):au agg n H2 x=au agg n H x:=by
 unfold au
 split <;> first | rfl | skip
 rename_i a
 rw[s8 (hS _ rfl)]
end
section
variable {tb:FuncId->Bool} {call:FuncId->List aa->ae->Option (aa×ae)} {T:Tr aa} {H H1:ae}
theorem pF{o:al}{v:aa}(hg:o.guard=none)(ht:oM o.op=true)(h:br tb call o T H=some (v,H1)) :
  yi (fun x=>x∈fH T o.op v) H (fun H=>br tb call o T H) v H1/\(lz o.op=true->H1.next=H.next/\∃b,fH T o.op v=[b]):=by
 obtain⟨d,op,g⟩:=o
 simp only at hg
 subst hg
 unfold br at h ⊢
 simp only[gY,cond_true]at h ⊢
 cases op <;> simp only[oM,SO]at ht
 case store n a x=>
  simp only[bW]at h ⊢
  cases hs:bu n H (ev T a) (ev T x) with
  | none=>rw[hs]at h; simp at h
  | some H'=>
   rw[hs]at h
   simp only[sJ,pJ]at h
   obtain⟨rfl,rfl⟩:=h
   obtain⟨q,qn⟩:=yG (S:=fun y=>y∈fH T (.store n a x) aR) (fun b hb=>jM (List.mem_singleton.2 rfl) hb) hs
   refine⟨⟨fun H2 hn hs=>?_,q.2⟩,fun _=>⟨qn,?_⟩⟩
   ·obtain⟨H3,e,f⟩:=q.1 H2 hn hs
    refine⟨H3,?_,f⟩
    simp only at e ⊢
    cases h4:bu n H2 (ev T a) (ev T x) with
    | none=>rw[h4]at e; simp at e
    | some H4=>
     rw[h4]at e
     simp only[sJ,pJ,true_and]at e
     subst e
     rfl
   ·unfold bu at hs
    split at hs <;> first | (simp at hs; done) | skip
    rename_i a' ha'
    exact⟨a'.b,by simp only[fH,ha']; rfl⟩
 case append n b s x=>
  simp only[bW,vh]at h ⊢
  cases hs:bQ n b H (ev T s) (ev T x) with
  | none=>rw[hs]at h; simp at h
  | some p=>
   obtain⟨u,H'⟩:=p
   rw[hs]at h
   simp only[sJ,pJ]at h
   obtain⟨rfl,rfl⟩:=h
   have q:=ye (S:=fun y=>y∈fH T (.append n b s x) u) (fun b hb=>jM (by simp) hb) (fun b hb=>jM (x:=ev T x) (by simp) hb) (fun b hb=>jM (by simp) hb) hs
   refine⟨⟨fun H2 hn hs=>?_,q.2⟩,fun hm=>by simp[lz]at hm⟩
   obtain⟨H3,e,f⟩:=q.1 H2 hn hs
   exact⟨H3,by simp only[e],f⟩
 case hf f l=>
  cases f <;> simp only[SO]at ht
  rename_i b k
  simp only[bW,vh,mV]at h ⊢
  cases hs:gG k b H (fT T l) with
  | none=>rw[hs]at h; simp at h
  | some p=>
   obtain⟨u,H'⟩:=p
   rw[hs]at h
   simp only[sJ,pJ]at h
   obtain⟨rfl,rfl⟩:=h
   obtain⟨q,qn,qb⟩:=BA (S:=fun y=>y∈fH T (.hf (.fill b k) l) u) (fun b hb=>jM (by simp) hb) hs
   refine⟨⟨fun H2 hn hs=>?_,q.2⟩,fun _=>⟨qn,b,by simp only[fH,qe,qb]⟩⟩
   obtain⟨H3,e,f⟩:=q.1 H2 hn hs
   exact⟨H3,by simp only[e],f⟩
theorem Fo{o:al}{v:aa}(hg:o.guard=none)(ht:lz o.op=true)(h:br tb call o T H=some (v,H1)){H2:ae}(hs:∀x∈fH T o.op v,H2.get x=H.get x) :
  ∃H3,br tb call o T H2=some (v,H3)/\H3.next=H2.next/\(∀x∈fH T o.op v,H3.get x=H1.get x)/\∀x,x∉fH T o.op v->H3.get x=H2.get x:=by
 obtain⟨d,op,g⟩:=o
 simp only at hg
 subst hg
 unfold br at h ⊢
 simp only[gY,cond_true]at h ⊢
 cases op <;> simp only[lz,SO]at ht
 case store n a x=>
  simp only[bW]at h ⊢
  cases hst:bu n H (ev T a) (ev T x) with
  | none=>rw[hst]at h; simp at h
  | some H'=>
   rw[hst]at h
   simp only[sJ,pJ]at h
   obtain⟨rfl,rfl⟩:=h
   unfold bu at hst
   split at hst <;> first | (simp at hst; done) | skip
   rename_i a' ha'
   have e0:fH T (.store n a x) aR=[a'.b]:=by simp only[fH,ha']; rfl
   rw[e0]at hs ⊢
   have hb':=hs a'.b (List.mem_singleton.2 rfl)
   cases hb:Nat.beq (ev T x).cells.length n with
   | false=>rw[hb]at hst; simp at hst
   | true=>
    rw[hb,cond_true,qt]at hst
    obtain⟨o,ho,rfl⟩:=yL hst
    refine⟨H2.set a'.b o,?_,rfl,fun y hy=>?_,fun y hy=>?_⟩
    ·simp only[ha',bu,hb,cond_true,qt,hb',ho,Option.map_some]
    ·obtain rfl:=List.mem_singleton.1 hy
     rw[ae.get_set,ae.get_set,if_pos rfl,if_pos rfl]
    ·rw[ae.get_set,if_neg]
     rintro rfl
     exact hy (List.mem_singleton.2 rfl)
 case hf f l=>
  cases f <;> simp only[SO]at ht
  rename_i b k
  simp only[bW,vh,mV]at h ⊢
  cases hst:gG k b H (fT T l) with
  | none=>rw[hst]at h; simp at h
  | some p=>
   obtain⟨u,H'⟩:=p
   rw[hst]at h
   simp only[sJ,pJ]at h
   obtain⟨rfl,rfl⟩:=h
   obtain⟨c,o,hgb,ho,rfl⟩:=nF hst
   have e0:fH T (.hf (.fill b k) l) u=[b]:=by simp only[fH,qe,pV ho]
   rw[e0]at hs ⊢
   have hb':=hs b (List.mem_singleton.2 rfl)
   refine⟨H2.set b o,?_,rfl,fun y hy=>?_,fun y hy=>?_⟩
   ·rw[zO (by rw[hb']; exact hgb) ho]
   ·obtain rfl:=List.mem_singleton.1 hy
    rw[ae.get_set,ae.get_set,if_pos rfl,if_pos rfl]
   ·rw[ae.get_set,if_neg]
    rintro rfl
    exact hy (List.mem_singleton.2 rfl)
theorem G0{o:al}{v:aa}(hg:o.guard=none)(ht:oM o.op=true)(h:br tb call o T H=some (v,H1)){x:Nat}(hx:x∉fH T o.op v):H1.get x=H.get x:=
 (pF hg ht h).1.2.rest x hx
theorem xE{o:gL}(h:lz o=true):oM o=true:=by
 cases o <;> simp only[lz,SO]at h <;> first | rfl | skip
 rename_i f l
 cases f <;> simp only[SO]at h <;> rfl
end
theorem bF.ext_heap{Prot:Gh}{w0:World}{ρ:Pl}{H H':ae}{w:World}(R:bF Prot w0 ρ H w)(hn:H'.next=H.next)(h:∀x,H'.get x=H.get x):bF Prot w0 ρ H' w:=
 ⟨R.os,R.tape,R.output,R.size,R.prot,fun b l L q=>by rw[hn]; exact R.dom b l L q,fun b l L q=>by rw[h]; exact R.obj b l L q,
  fun b l L x q hx=>R.free b l L x q (by rw[<- h]; exact hx),fun b l L b' l' L' x q q' e hx=>R.inj b l L b' l' L' x q q' e (by rw[<- h]; exact hx),
  fun b q=>by rw[hn]; exact R.dead b q,fun b l low hx=>R.glob b l low (by rw[<- h]; exact hx)⟩
end Go.Abs
namespace Go.Abs
def j4(ms:List Nat)(i j:Nat)(a b:al):Bool:=jz ms j i||(uV a b&&(!(aJ a.op&&aJ b.op)||(lz b.op&&(oM a.op&&(a.guard.isNone&&b.guard.isNone)))))
def fk(l:List al)(ms:List Nat):Bool:=
 (List.range l.length).all fun j=>match l[j]? with
  | some b=>(List.range j).all fun i=>match l[i]? with
   | some a=>j4 ms i j a b
   | none=>true
  | none=>true
def d6(l:List al)(ms:List Nat)(i j:Nat):Bool:=match l[i]?,l[j]? with
 | some a,some b=>Nat.blt i j&&(aJ a.op&&(aJ b.op&&!jz ms j i))
 | _,_=>false
def iH(l:List al)(ms:List Nat):Bool:=
 (List.range l.length).all fun j=>(List.range j).all fun i=>!d6 l ms i j||(List.range l.length).all fun k=>match l[k]? with
  | some o=>!dn o.op||(!jz ms k j||jz ms k i)
  | none=>true
def ct(l:List al)(ss:List (aa×ae))(T0:Tr aa)(q:Nat):List Nat:=match l[q]?,ss[q]? with
 | some o,some (v,_)=>fH (bj (fun i=>Nat.blt i (0+q)) 0 l ss T0) o.op v
 | _,_=>[]
section
variable {tb:FuncId->Bool} {call:FuncId->List aa->ae->Option (aa×ae)}
theorem pR{l:List al}{ms:List Nat}{i j:Nat}{a b:al}(hi:l[i]?=some a)(hj:l[j]?=some b)(h:i<j)(ha:aJ a.op=true)(hb:aJ b.op=true)(hn:jz ms j i=false):d6 l ms i j=true:=by
 unfold d6
 rw[hi,hj]
 have:Nat.blt i j=true:=SD h
 simp only[ha,hb,hn,this,Bool.not_false,Bool.and_self]
def dW(l:List al)(m:Nat->Bool)(q:Nat):Prop:=m q=true/\∃o,l[q]?=some o/\aJ o.op=true
structure va(l:List al)(ss:List (aa×ae))(T0:Tr aa)(H0:ae)(m:Nat->Bool)(p:Nat)(Hx:ae):Prop where
 next:Hx.next=(ew H0 ss p).next
 base:∀x,(∀q,p<=q->dW l m q->x∉ct l ss T0 q)->Hx.get x=(ew H0 ss p).get x
 late:∀q x,p<=q->dW l m q->x∈ct l ss T0 q->(∀q',q<q'->dW l m q'->x∉ct l ss T0 q')->Hx.get x=(ew H0 ss (q+1)).get x
theorem tL{P:Nat->Prop}{n q:Nat}(hq:P q)(hn:∀q,P q->q<n):∃q,P q/\∀q',q<q'->¬P q':=by
 induction hk:n-q using Nat.strongRecOn generalizing q with
 | _ k ih=>
  rcases Classical.em (∃q',q<q'/\P q') with⟨q',h1,h2⟩ | h
  ·have:=hn q' h2
   exact ih (n-q') om h2 rfl
  ·exact⟨q,hq,fun q' h1 h2=>h ⟨q',h1,h2⟩⟩
theorem yK{H0:ae}{ss:List (aa×ae)}{x:Nat}:∀(d a:Nat),(∀c,a<=c->c<a+d->(ew H0 ss (c+1)).get x=(ew H0 ss c).get x)->(ew H0 ss (a+d)).get x=(ew H0 ss a).get x:=by
 intro d
 induction d with
 | zero=>intro a _; rfl
 | succ d ih=>
  intro a h
  rw[show a+(d+1)=a+d+1 by omega,h (a+d) om om]
  exact ih a fun c h1 h2=>h c h1 om
theorem EL{H0:ae}{ss:List (aa×ae)}:∀(d a:Nat),(∀c,a<=c->c<a+d->(ew H0 ss (c+1)).next=(ew H0 ss c).next)->(ew H0 ss (a+d)).next=(ew H0 ss a).next:=by
 intro d
 induction d with
 | zero=>intro a _; rfl
 | succ d ih=>
  intro a h
  rw[show a+(d+1)=a+d+1 by omega,h (a+d) om om]
  exact ih a fun c h1 h2=>h c h1 om
variable {l:List al} {ms:List Nat} {T0:Tr aa} {H0:ae} {ss:List (aa×ae)}
theorem xI(htr:cQ tb call l T0 H0=some ss){c:Nat}{o:al}(hc:l[c]?=some o)(hg:o.guard=none)(ht:oM o.op=true){x:Nat}(hx:x∉ct l ss T0 c):(ew H0 ss (c+1)).get x=(ew H0 ss c).get x:=by
 obtain⟨_,hat⟩:=gN l T0 H0 ss 0 htr
 obtain⟨v,H1,hs,hst⟩:=hat c o hc
 simp only[ct,hc,hs]at hx
 have:=G0 hg ht hst hx
 simpa only [ew,hs] using this
theorem NB(htr:cQ tb call l T0 H0=some ss){c:Nat}{o:al}(hc:l[c]?=some o)(hg:o.guard=none)(ht:lz o.op=true):(ew H0 ss (c+1)).next=(ew H0 ss c).next:=by
 obtain⟨_,hat⟩:=gN l T0 H0 ss 0 htr
 obtain⟨v,H1,hs,hst⟩:=hat c o hc
 have:=((pF hg (xE ht) hst).2 ht).1
 simpa only [ew,hs] using this
theorem xu(htr:cQ tb call l T0 H0=some ss){c:Nat}{o:al}(hc:l[c]?=some o)(hn:aJ o.op=false):ew H0 ss (c+1)=ew H0 ss c:=
 de htr 1 c (by have:=(SC.1 hc).1; omega) fun c' o' h1 h2 h3=>by
  obtain rfl:c'=c:=om
  rw[hc]at h3; simp only[sJ]at h3; subst h3; exact hn
theorem fA(hp:fk l ms=true){i j:Nat}(h:d6 l ms i j=true):∃a b,l[i]?=some a/\l[j]?=some b/\i<j/\lz b.op=true/\oM a.op=true/\a.guard=none/\b.guard=none:=by
 unfold d6 at h
 split at h
 ·rename_i a b hi hj
  simp only[SE,Bool.not_eq_true']at h
  obtain⟨h1,h2,h3,h4⟩:=h
  have hij:i<j:=SH h1
  unfold fk at hp
  rw[List.all_eq_true]at hp
  have q:=hp j (List.mem_range.2 (SC.1 hj).1)
  rw[hj]at q
  simp only at q
  rw[List.all_eq_true]at q
  have q2:=q i (List.mem_range.2 hij)
  rw[hi]at q2
  simp only[j4,h4,h2,h3,Bool.false_or,Bool.and_self,Bool.not_true,SE,Option.isNone_iff_eq_none]at q2
  exact⟨a,b,hi,hj,hij,q2.2.1,q2.2.2.1,q2.2.2.2.1,q2.2.2.2.2⟩
 ·simp at h
def OE(l:List al)(ms:List Nat)(m:Nat->Bool):Prop:=∀j,j<l.length->m j=true->∀i,i<j->jz ms j i=true->m i=true
section
variable {m:Nat->Bool} (hd:OE l ms m)
include hd
theorem dU{c q:Nat}{o:al}(hc:l[c]?=some o)(hcc:aJ o.op=true)(hcm:m c=false)(hcq:c<q)(he:dW l m q):d6 l ms c q=true:=by
 obtain⟨h1,b,h2,h3⟩:=he
 refine pR hc h2 hcq hcc h3 ?_
 cases hb:jz ms q c with
 | false=>rfl
 | true=>
  have:=hd q (SC.1 h2).1 h1 c hcq hb
  rw[hcm]at this; simp at this
end
def dS(m:Nat->Bool)(i:Nat):Nat->Bool:=fun j=>if j=i then true else m j
theorem gA{m:Nat->Bool}{i q:Nat}:dW l (dS m i) q↔(dW l m q∨(q=i/\∃o,l[q]?=some o/\aJ o.op=true)):=by
 unfold dW dS
 constructor
 ·rintro ⟨h1,h2⟩
  by_cases e:q=i
  ·exact .inr ⟨e,h2⟩
  ·rw[if_neg e]at h1; exact .inl ⟨h1,h2⟩
 ·rintro (⟨h1,h2⟩ | ⟨e,h2⟩)
  ·exact⟨by split <;> simp_all,h2⟩
  ·exact⟨by rw[if_pos e],h2⟩
section
variable (htr:cQ tb call l T0 H0=some ss) (hp:fk l ms=true) (hap:∀i j,d6 l ms i j=true->∀x∈ct l ss T0 j,x∉ct l ss T0 i)
 {m:Nat->Bool} (hd:OE l ms m) {p:Nat}
include htr hp hap hd
set_option linter.unusedSectionVars false in
theorem zR{q:Nat}(h:dW l m q):q<l.length:=by
 obtain⟨_,o,h,_⟩:=h; exact (SC.1 h).1
theorem Lc{op:al}(hlp:l[p]?=some op)(hcp:aJ op.op=true)(hmp:m p=false){i:Nat}{o:al}(hi:l[i]?=some o)(hc:aJ o.op=true)(hmi:m i=false)
  (hready:∀c,c<i->jz ms i c=true->m c=true) (hpi:p<i) {Hx:ae} (R:va l ss T0 H0 m p Hx) {v:aa} {H1:ae} (hs:ss[i]?=some (v,H1))
  (hst:br tb call o (bj (fun j=>Nat.blt j (0+i)) 0 l ss T0) (ew H0 ss i)=some (v,H1)) :
  ∃H3,br tb call o (bj (fun j=>Nat.blt j (0+i)) 0 l ss T0) Hx=some (v,H3)/\va l ss T0 H0 (dS m i) p H3:=by
 have hlo:∀c oc,l[c]?=some oc->aJ oc.op=true->m c=false->c<i->d6 l ms c i=true:=by
  intro c oc h1 h2 h3 h4
  refine pR h1 hi h4 h2 hc ?_
  cases hb:jz ms i c with
  | false=>rfl
  | true=>have:=hready c h4 hb; rw[h3]at this; simp at this
 obtain⟨_,b,_,hb,_,hmv,_,_,hgb⟩:=fA hp (hlo p op hlp hcp hmp hpi)
 rw[hi]at hb
 obtain rfl:=Option.some.inj hb
 have htc:ct l ss T0 i=fH (bj (fun j=>Nat.blt j (0+i)) 0 l ss T0) o.op v:=by simp only[ct,hi,hs]
 have hspan:∀x∈ct l ss T0 i,∀a,p<=a->a<=i->(∀c,a<=c->c<i->dW l m c->x∉ct l ss T0 c)->(ew H0 ss i).get x=(ew H0 ss a).get x:=by
  intro x hx a ha hai hno
  have:=yK (H0:=H0) (ss:=ss) (x:=x) (i-a) a fun c h1 h2=>by
   have hcl:c<l.length:=by have:=(SC.1 hi).1; omega
   have hlc:l[c]?=some l[c]:=SB hcl
   cases hcc:aJ l[c].op with
   | false=>rw[xu htr hlc hcc]
   | true=>
    cases hcm:m c with
    | true=>
     have he:dW l m c:=⟨hcm,_,hlc,hcc⟩
     have hpc:p<c:=by
      rcases Nat.lt_or_ge p c with h | h
      ·exact h
      ·obtain rfl:c=p:=om
       rw[hmp]at hcm; simp at hcm
     obtain⟨_,b,_,hb,_,hmv2,_,_,hgb2⟩:=fA hp (dU hd hlp hcp hmp hpc he)
     rw[hlc]at hb
     obtain rfl:=Option.some.inj hb
     exact xI htr hlc hgb2 (xE hmv2) (hno c h1 om he)
    | false=>
     have hl:=hlo c _ hlc hcc hcm om
     obtain⟨a',_,ha',_,_,_,htc',hga,_⟩:=fA hp hl
     rw[hlc]at ha'
     obtain rfl:=Option.some.inj ha'
     exact xI htr hlc hga htc' (hap c i hl x hx)
  rwa [show a+(i-a)=i by omega]at this
 have hget:∀x∈ct l ss T0 i,Hx.get x=(ew H0 ss i).get x:=by
  intro x hx
  rcases Classical.em (∃q,p<=q/\dW l m q/\x∈ct l ss T0 q) with⟨q,hq⟩ | hno
  ·obtain⟨q,⟨q1,q2,q3⟩,qm⟩:=tL (P:=fun q=>p<=q/\dW l m q/\x∈ct l ss T0 q) (n:=l.length) hq fun q h=>zR htr hp hap hd h.2.1
   have hqi:q<i:=by
    rcases Nat.lt_trichotomy q i with h | h | h
    ·exact h
    ·subst h; rw[q2.1]at hmi; simp at hmi
    ·exact absurd hx (hap i q (dU hd hi hc hmi h q2) x q3)
   rw[R.late q x q1 q2 q3 fun q' h1 h2 h3=>qm q' h1 ⟨om,h2,h3⟩]
   exact (hspan x hx (q+1) om om fun c h1 h2 h3 h4=>qm c om ⟨om,h3,h4⟩).symm
  ·rw[R.base x fun q h1 h2 h3=>hno ⟨q,h1,h2,h3⟩]
   exact (hspan x hx p rL om fun c h1 h2 h3 h4=>hno ⟨c,h1,h3,h4⟩).symm
 rw[htc]at hget
 obtain⟨H3,e1,e2,e3,e4⟩:=Fo hgb hmv hst hget
 rw[<- htc]at e3 e4
 have hi1:ew H0 ss (i+1)=H1:=by simp only[ew,hs]
 refine⟨H3,e1,?_,?_,?_⟩
 ·rw[e2]; exact R.next
 ·intro x hx
  have hxi:=hx i om (gA.2 (.inr ⟨rfl,o,hi,hc⟩))
  rw[e4 x hxi]
  exact R.base x fun q h1 h2=>hx q h1 (gA.2 (.inl h2))
 ·intro q x h1 h2 h3 h4
  rcases gA.1 h2 with h2 | ⟨rfl,_⟩
  ·have hxi:x∉ct l ss T0 i:=by
    rcases Nat.lt_trichotomy q i with h | h | h
    ·exact h4 i h (gA.2 (.inr ⟨rfl,o,hi,hc⟩))
    ·have h9:=h2.1; rw[h,hmi]at h9; simp at h9
    ·exact hap i q (dU hd hi hc hmi h h2) x h3
   rw[e4 x hxi]
   exact R.late q x h1 h2 h3 fun q' a b=>h4 q' a (gA.2 (.inl b))
  ·rw[e3 x h3,hi1]
theorem K0{o:al}(hi:l[p]?=some o)(hc:aJ o.op=true)(hmi:m p=false){p':Nat}(hpp:p<p')(hpl:p'<=l.length)
  (hdone:∀c oc,p<c->c<p'->l[c]?=some oc->aJ oc.op=true->m c=true) {Hx:ae} (R:va l ss T0 H0 m p Hx) {v:aa} {H1:ae} (hs:ss[p]?=some (v,H1))
  (hst:br tb call o (bj (fun j=>Nat.blt j (0+p)) 0 l ss T0) (ew H0 ss p)=some (v,H1)) :
  ∃Hy H3,Hy.next=Hx.next/\(∀x,Hy.get x=Hx.get x)/\br tb call o (bj (fun j=>Nat.blt j (0+p)) 0 l ss T0) Hy=some (v,H3)/\va l ss T0 H0 (dS m p) p' H3:=by
 have hi1:ew H0 ss (p+1)=H1:=by simp only[ew,hs]
 have hE:∀q,p'<=q->(dW l (dS m p) q↔dW l m q):=fun q hq=>by
  rw[gA]
  constructor
  ·rintro (h | ⟨rfl,_⟩)
   ·exact h
   ·omega
  ·exact .inl
 have hspan:∀x a,p<a->a<=p'->(∀c,a<=c->c<p'->dW l m c->x∉ct l ss T0 c)->(ew H0 ss p').get x=(ew H0 ss a).get x:=by
  intro x a ha hap' hno
  have:=yK (H0:=H0) (ss:=ss) (x:=x) (p'-a) a fun c h1 h2=>by
   have hcl:c<l.length:=om
   have hlc:l[c]?=some l[c]:=SB hcl
   cases hcc:aJ l[c].op with
   | false=>rw[xu htr hlc hcc]
   | true=>
    have he:dW l m c:=⟨hdone c _ om om hlc hcc,_,hlc,hcc⟩
    obtain⟨_,b,_,hb,_,hmv2,_,_,hgb2⟩:=fA hp (dU hd hi hc hmi om he)
    rw[hlc]at hb
    obtain rfl:=Option.some.inj hb
    exact xI htr hlc hgb2 (xE hmv2) (hno c h1 om he)
  rwa [show a+(p'-a)=p' by omega]at this
 have hnx:(ew H0 ss p').next=(ew H0 ss (p+1)).next:=by
  have:=EL (H0:=H0) (ss:=ss) (p'-(p+1)) (p+1) fun c h1 h2=>by
   have hcl:c<l.length:=om
   have hlc:l[c]?=some l[c]:=SB hcl
   cases hcc:aJ l[c].op with
   | false=>rw[xu htr hlc hcc]
   | true=>
    have he:dW l m c:=⟨hdone c _ om om hlc hcc,_,hlc,hcc⟩
    obtain⟨_,b,_,hb,_,hmv2,_,_,hgb2⟩:=fA hp (dU hd hi hc hmi om he)
    rw[hlc]at hb
    obtain rfl:=Option.some.inj hb
    exact NB htr hlc hgb2 hmv2
  rwa [show p+1+(p'-(p+1))=p' by omega]at this
 have hne:∀q,p<=q->dW l m q->p<q:=fun q h1 h2=>by
  rcases Nat.lt_or_ge p q with h | h
  ·exact h
  ·obtain rfl:q=p:=om
   rw[h2.1]at hmi; simp at hmi
 rcases Classical.em (∃q,p<=q/\dW l m q) with⟨q0,hq0,he0⟩ | hno
 ·-- some are done early
  obtain⟨a,_,ha,_,_,_,htc,hga,_⟩:=fA hp (dU hd hi hc hmi (hne q0 hq0 he0) he0)
  rw[hi]at ha
  obtain rfl:=Option.some.inj ha
  have htp:ct l ss T0 p=fH (bj (fun j=>Nat.blt j (0+p)) 0 l ss T0) o.op v:=by simp only[ct,hi,hs]
  have hap':∀q,p<=q->dW l m q->∀x∈ct l ss T0 q,x∉ct l ss T0 p:=fun q h1 h2=>hap p q (dU hd hi hc hmi (hne q h1 h2) h2)
  obtain⟨H3,e1,e2⟩:=(pF hga htc hst).1.1 Hx R.next fun x hx=>R.base x fun q h1 h2 h3=>hap' q h1 h2 x h3 (by rw[htp]; exact hx)
  rw[<- htp]at e2
  have hkeep:∀x,x∉ct l ss T0 p->(ew H0 ss (p+1)).get x=(ew H0 ss p).get x:=fun x hx=>xI htr hi hga htc hx
  refine⟨Hx,H3,rfl,fun _=>rfl,e1,?_,?_,?_⟩
  ·rw[e2.next,hnx,hi1]
  ·intro x hx
   have hx':∀q,p'<=q->dW l m q->x∉ct l ss T0 q:=fun q h1 h2=>hx q h1 ((hE q h1).2 h2)
   rcases Classical.em (∃q,p<q/\dW l m q/\x∈ct l ss T0 q) with⟨q,hq⟩ | hnone
   ·obtain⟨q,⟨q1,q2,q3⟩,qm⟩:=tL (P:=fun q=>p<q/\dW l m q/\x∈ct l ss T0 q) (n:=l.length) hq fun q h=>zR htr hp hap hd h.2.1
    have hqp:q<p':=by
     rcases Nat.lt_or_ge q p' with h | h
     ·exact h
     ·exact absurd q3 (hx' q h q2)
    rw[e2.rest x (hap' q om q2 x q3),R.late q x om q2 q3 fun q' h1 h2 h3=>qm q' h1 ⟨om,h2,h3⟩]
    exact (hspan x (q+1) om om fun c h1 h2 h3 h4=>qm c om ⟨om,h3,h4⟩).symm
   ·rw[hspan x (p+1) om om fun c h1 h2 h3 h4=>hnone ⟨c,om,h3,h4⟩]
    rcases Classical.em (x∈ct l ss T0 p) with hxp | hxp
    ·rw[e2.same x hxp,hi1]
    ·rw[e2.rest x hxp,hkeep x hxp]
     exact R.base x fun q h1 h2 h3=>hnone ⟨q,hne q h1 h2,h2,h3⟩
  ·intro q x h1 h2 h3 h4
   have h2':=(hE q h1).1 h2
   rw[e2.rest x (hap' q om h2' x h3)]
   exact R.late q x om h2' h3 fun q' a b=>h4 q' a ((hE q' om).2 b)
 ·-- none
  have hh:ew H0 ss p'=H1:=by
   rw[<- hi1]
   have:=de htr (p'-(p+1)) (p+1) om fun c oc h1 h2 h3=>by
    cases hcc:aJ oc.op with
    | false=>rfl
    | true=>exact absurd ⟨c,om,hdone c oc om om h3 hcc,oc,h3,hcc⟩ hno
   rwa [show p+1+(p'-(p+1))=p' by omega]at this
  refine⟨ew H0 ss p,H1,R.next.symm,fun x=>(R.base x fun q h1 h2=>absurd ⟨q,h1,h2⟩ hno).symm,hst,?_,?_,?_⟩
  ·rw[hh]
  ·intro x _; rw[hh]
  ·intro q x h1 h2
   exact absurd ⟨q,om,(hE q h1).1 h2⟩ hno
end
theorem Lb{m:Nat->Bool}{p i:Nat}{o:al}(hi:l[i]?=some o)(hc:aJ o.op=false){Hx:ae}(R:va l ss T0 H0 m p Hx):va l ss T0 H0 (dS m i) p Hx:=by
 have hE:∀q,dW l (dS m i) q↔dW l m q:=fun q=>by
  rw[gA]
  constructor
  ·rintro (h | ⟨rfl,o',h1,h2⟩)
   ·exact h
   ·rw[hi]at h1; obtain rfl:=Option.some.inj h1; rw[hc]at h2; simp at h2
  ·exact .inl
 exact⟨R.next,fun x hx=>R.base x fun q h1 h2=>hx q h1 ((hE q).2 h2),fun q x h1 h2 h3 h4=>R.late q x h1 ((hE q).1 h2) h3 fun q' a b=>h4 q' a ((hE q').2 b)⟩
end
end Go.Abs
namespace Go.Abs
section
variable {P:Program} {Prot:Gh} {w0:World} {ρ:Pl} {H:ae} {w:World}
theorem bF.set_dead(R:bF Prot w0 ρ H w){b:Nat}(hd:Prot.dead b)(o:cJ)(ho:o.rw=true):bF Prot w0 ρ (H.set b o) w:=by
 obtain⟨hbn,hnone⟩:=R.dead b hd
 have hne:∀{b' l L},ρ b' l=some L->b'≠b:=fun {b' l L} h e=>by subst e; rw[hnone]at h; simp at h
 have hget:∀{b'},b'≠b->(H.set b o).get b'=H.get b':=fun h=>by rw[ae.get_set,if_neg h]
 refine⟨R.os,R.tape,R.output,R.size,R.prot,R.dom,fun b' l L q=>?_,fun b' l L x q hx=>?_,fun b1 l1 L1 b2 l2 L2 x q1 q2 e hx=>?_,R.dead,fun b' l low' hx=>?_⟩
 ·rw[hget (hne q)]; exact R.obj b' l L q
 ·rw[hget (hne q)]at hx; exact R.free b' l L x q hx
 ·rw[hget (hne q1)]at hx; exact R.inj b1 l1 L1 b2 l2 L2 x q1 q2 e hx
 ·by_cases e:b'=b
  ·subst e
   rw[ae.get_set,if_pos rfl]at hx
   rw[Option.some.inj hx]at ho
   simp[cJ.rw]at ho
  ·rw[hget e]at hx; exact R.glob b' l low' hx
theorem BB(R:bF Prot w0 ρ H w){sT elem:TypeId}{size:Nat}{agg:Bool}{z:List aa}(hu:P.underlying sT=some (.slice elem))(T:Ty P elem agg size)(hz:dH P elem=some z)
  (hzl:z.length=size) {len:Nat} (hsm:len*size<=16777216) {ps:List (Nat×Nat×aa)} {qs:Array (Nat×Value)} (hp:eT ρ (fun i=>some (i*size,size)) ps qs.toList) {xs:List aa}
  (hxs:js (rD z len) ps=some xs) {b:Nat} (hd:Prot.dead b) :
  ∃ρ' w' u,ρ.le ρ'/\(Instr.buildSlice sT len qs).run P w=.ok u w'/\bF ⟨Prot.prot,fun d=>Prot.dead d/\d≠b⟩ w0 ρ' (H.set b (.cells xs 0 false)) w'/\ah ρ' (.slice (some ⟨b,xs.length,0⟩) len (.known len)) u:=by
 obtain⟨zv,hzr,hzl'⟩:=ii hz
 have hlen:=aq.len (hzl' ρ)
 simp only[Array.length_toList]at hlen
 obtain⟨C,f1,f2⟩:=rH hp (lq (hzl' ρ) len) hxs
 rw[hzl]at f1
 obtain⟨ρ',q1,q3,q4⟩:=vB (R.set_dead hd (.cells xs 0 false) rfl) elem f2 hd (by rw[ae.get_set,if_pos rfl])
 have q2:(newRow elem C).run P w=.ok ⟨w.heap.size,0,none⟩ (w.alloc (.cells C elem)):=rfl
 have hsm':¬16777216<len*size:=om
 refine⟨ρ',_,.slice (some ⟨w.heap.size,0,none⟩) len len,q1,?_,q3,?_⟩
 ·by_cases hn:len*size=0
  ·have hm:dw zv.cells (len*size)=#[]:=by rw[hn]; simp[dw]
   rw[hm]at f1
   simp only[Instr.buildSlice,Sem.run_bind,run_underlying hu,Result.andThen_ok,T.size]
   simp[hn,show Array.range 0=#[] by simp,f1,q2]
  ·unfold dw at f1
   simp only[Instr.buildSlice,Sem.run_bind,run_underlying hu,Result.andThen_ok,T.size]
   simp[hsm',hn,hzr,f1,q2]
 ·simp only[ah]
  exact⟨_,q4,Nat.zero_le _,Nat.le_refl _,rfl⟩
theorem xZ{c:Call}{n:Nat}{z:List aa}{l:List (Nat×Nat×a8)}(h:iR P c=some (.buildSl n z l)):False:=by
 unfold iR at h
 repeat' split at h
 all_goals first
  | (simp at h; done)
  | (cases hb:(Nat.beq _ _&&lu P _) <;> simp[hb]at h; done)
  | skip
 all_goals (revert h; intro h; simp only[cond_eq_ite]at h; split at h <;> simp at h)
theorem x8{o:Op}{n:Nat}{z:List aa}{l:List (Nat×Nat×a8)}(h:nN P o=some (.buildSl n z l)):False:=by
 unfold nN at h
 repeat' split at h
 all_goals first
  | (simp at h; done)
  | (simp only[cond_eq_ite]at h; split at h <;> first | (simp at h; done) | (split at h <;> simp at h))
theorem Oi{o:Op}{len:Nat}{z:List aa}{l:List (Nat×Nat×a8)}(h:uG P o=some (.buildSl len z l)) :
  ∃t e ps g k,o=.buildSlice t len ps/\P.underlying t=some (.slice e)/\ep P e=some (g,k)/\dH P e=some z/\lM (fun i=>some (i*k,k)) ps.toList=some l/\z.length=k/\len*k<=16777216:=by
 unfold uG at h
 split at h
 ·rename_i a ha
  simp only[sJ]at h
  subst h
  exact (x8 ha).elim
 ·split at h
  ·rename_i a ha
   simp only[sJ]at h
   subst h
   cases o <;> simp only[ya,reduceCtorEq]at ha
   case buildSlice t len' ps _=>
    split at ha
    ·rename_i e hu
     split at ha
     ·rename_i g k z' hk hz
      split at ha
      ·rename_i l' hl
       cases hg:(Nat.beq z'.length k&&Nat.ble (len'*k) 16777216) with
       | false=>rw[hg]at ha; simp at ha
       | true=>
        rw[hg]at ha
        simp only[SE,Nat.ble_eq]at hg
        simp only[cond_true,sJ,gL.buildSl.injEq]at ha
        obtain⟨rfl,rfl,rfl⟩:=ha
        exact⟨t,e,ps,g,k,rfl,hu,hk,hz,hl,SI hg.1,hg.2⟩
      ·simp at ha
     ·simp at ha
    ·simp at ha
   case call c=>exact (xZ ha).elim
   all_goals
    exfalso
    repeat' split at ha
    all_goals first
     | (simp at ha; done)
     | (simp only[cond_eq_ite]at ha; split at ha <;> simp at ha)
  ·simp at h
def HS(l:List (Nat×Nat×a8)):List (Nat×Nat):=l.map fun q=>(q.1,q.2.1)
def HO(l:List (Nat×Nat×a8)):List a8:=l.map fun q=>q.2.2
theorem ym(T:Tr aa):∀l:List (Nat×Nat×a8),Em (HS l) (fT T (HO l))=AG T l
 | []=>rfl
 | (a,b,x)::r=>by
  have:=ym T r
  simp only[HS,HO,List.map_cons,fT,Em,AG]at this ⊢
  rw[this]
def hZ:gL->Option (jR×List a8)
 | .buildSl len z l=>some (.lit len z (HS l),HO l)
 | .hf .mkMap []=>some (.map,[])
 | .mkSlice by_ z l c=>some (.mk by_ z,[l,c])
 | .new z=>some (.new z,[])
 | _=>none
def JN(P:Program)(n:Nat)(ops:Array Oper)(o:Oper)(a:al)(b:Nat):Prop:=
 ∃ao k xs g,uG P o.op=some ao/\hZ ao=some (k,xs)/\iQ n ops o.guard=some g/\dQ n o.dst=true/\a=⟨o.dst,.hf (.fill b k) xs,g⟩
theorem IJ(R:bF Prot w0 ρ H w){n:Nat}{T:Tr aa}{a:Act}(ht:be ρ n T a.tmps){o:Oper}{ao:gL}(hc:uG P o.op=some ao){k:jR}{xs:List a8}(hf:hZ ao=some (k,xs))
  {b:Nat} (hd:Prot.dead b) {v:aa} {H':ae} (hx:gG k b H (fT T xs)=some (v,H')) :
  ∃ρ' w' u,ρ.le ρ'/\(execOp a.eval o).run P w=.ok (.value u) w'/\bF ⟨Prot.prot,fun d=>Prot.dead d/\d≠b⟩ w0 ρ' H' w'/\ah ρ' v u:=by
 obtain⟨c,ob,hg,ho,rfl⟩:=nF hx
 obtain⟨dst,op,type,pos,after,guard⟩:=o
 simp only at hc
 unfold hZ at hf
 split at hf <;> first | (simp at hf; done) | skip
 ·rename_i len z l
  simp only[sJ,pJ]at hf
  obtain⟨rfl,rfl⟩:=hf
  obtain⟨t,e,ps,g,k,rfl,hu,hk,hz,hl,hzl,hsm⟩:=Oi hc
  simp only[lG]at ho
  split at ho <;> first | (simp at ho; done) | skip
  rename_i xs hxs
  simp only[sJ,pJ]at ho
  obtain⟨rfl,rfl⟩:=ho
  rw[ym]at hxs
  obtain⟨ρ1,w1,u,q1,q2,q3,q4⟩:=BB (P:=P) (qs:=ps.map fun p=>(p.1,a.eval p.2)) R hu (dl hk) hz hzl hsm (by simpa using oA ht hl) hxs hd
  refine⟨ρ1,w1,u,q1,?_,q3,q4⟩
  show (do pure (Next.value (<- Instr.buildSlice t len (ps.map fun p=>(p.1,a.eval p.2)))):Sem Next).run P w=_
  simp only[Sem.run_bind,q2,Result.andThen_ok]
  rfl
 ·simp only[sJ,pJ]at hf
  obtain⟨rfl,rfl⟩:=hf
  obtain⟨t,rfl⟩:=My hc
  simp only[fT,lG,sJ,pJ]at ho
  obtain⟨rfl,rfl⟩:=ho
  obtain⟨ρ1,w1,u,q1,q2,q3,q4⟩:=vS (P:=P) (R.set_dead hd (.map [] 0) rfl) t hd (by rw[ae.get_set,if_pos rfl])
  refine⟨ρ1,w1,u,q1,?_,q3,q4⟩
  show (do pure (Next.value (<- Instr.makeMap t none)):Sem Next).run P w=_
  simp only[Sem.run_bind,q2,Result.andThen_ok]
  rfl
 ·rename_i by_ z l0 c0
  simp only[sJ,pJ]at hf
  obtain⟨rfl,rfl⟩:=hf
  obtain⟨t,l,c,e,m,rfl,h2,h3,h4,h5,h6⟩:=Mz hc
  simp only[fT,lG]at ho
  split at ho <;> first | (simp at ho; done) | skip
  rename_i ln cn h7 h8
  cases hb:(Nat.ble ln cn&&Nat.ble (by_*cn) 281474976710656) with
  | false=>rw[hb]at ho; simp at ho
  | true=>
   rw[hb]at ho
   simp only[cond_true,sJ,pJ]at ho
   obtain⟨rfl,rfl⟩:=ho
   simp only[SE,Nat.ble_eq]at hb
   obtain⟨ρ1,w1,u,q1,q2,q3,q4⟩:=tp (P:=P) (R.set_dead hd (.cells (rD z cn) 0 false) rfl) h2 (rI h3) h4 (aG ht h5) (aG ht h6) h7 h8 hb hd (by rw[ae.get_set,if_pos rfl])
   refine⟨ρ1,w1,u,q1,?_,q3,q4⟩
   show (do pure (Next.value (<- Instr.makeSlice t (a.eval l) (a.eval c))):Sem Next).run P w=_
   simp only[Sem.run_bind,q2,Result.andThen_ok]
   rfl
 ·rename_i z
  simp only[sJ,pJ]at hf
  obtain⟨rfl,rfl⟩:=hf
  obtain⟨e,rfl,hz⟩:=HW hc
  simp only[fT,lG,sJ,pJ]at ho
  obtain⟨rfl,rfl⟩:=ho
  obtain⟨ρ1,w1,u,q1,q2,q3,q4⟩:=qS (P:=P) (R.set_dead hd (.cells z 0 false) rfl) hz hd (by rw[ae.get_set,if_pos rfl])
  refine⟨ρ1,w1,u,q1,?_,q3,q4⟩
  show (do pure (Next.value (<- Instr.alloc e true (.tuple #[]))):Sem Next).run P w=_
  simp only[Sem.run_bind,q2,Result.andThen_ok]
  rfl
end
end Go.Abs
