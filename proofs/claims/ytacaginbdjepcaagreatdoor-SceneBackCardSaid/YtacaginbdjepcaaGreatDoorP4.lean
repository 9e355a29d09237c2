/- Part of a proof (D4 D5 D6 D7 D6b D8); no condition. -/
import Derived.Test.YtacaginbdjepcaaGreatDoorP3
set_option linter.unusedSimpArgs false
set_option linter.unusedVariables false
set_option linter.unnecessarySimpa false
namespace Go.Abs
def rA(m:Nat->Bool):Nat->Nat
 | 0=>0
 | n+1=>rA m n+(bif m n then 0 else 1)
theorem pE{m:Nat->Bool}:∀{n:Nat},rA m n=0->∀i,i<n->m i=true
 | 0,_,i,h=>om
 | n+1,h,i,hi=>by
  simp only[rA]at h
  cases hb:m n with
  | true=>
   by_cases e:i=n
   ·rw[e]; exact hb
   ·exact pE (n:=n) (by rw[hb]at h; simpa using h) i om
  | false=>rw[hb]at h; simp at h
theorem ul{m:Nat->Bool}:∀{n:Nat},(∀i,i<n->m i=true)->rA m n=0
 | 0,_=>rfl
 | n+1,h=>by simp only[rA,ul (n:=n) fun i hi=>h i om,h n om,cond_true]
theorem vP{m m':Nat->Bool}:∀{n:Nat},(∀i,i<n->m i=m' i)->rA m n=rA m' n
 | 0,_=>rfl
 | n+1,h=>by simp only[rA,vP (n:=n) fun i hi=>h i om,h n om]
theorem uk{m m':Nat->Bool}{i:Nat}:∀{n:Nat},i<n->m i=false->m' i=true->(∀j,j≠i->m' j=m j)->rA m' n+1=rA m n
 | 0,h,_,_,_=>om
 | n+1,h,h1,h2,h3=>by
  simp only[rA]
  by_cases e:i=n
  ·subst e
   rw[h1,h2,vP (m:=m') (m':=m) fun j hj=>h3 j om]
   simp
  ·have:=uk (n:=n) om h1 h2 h3
   rw[h3 n (fun q=>e q.symm)]
   omega
section
variable {tb:FuncId->Bool} {call:FuncId->List af->ae->Option (af×ae)}
theorem GD{hs:List ae}:∀(l:List ak) (pss:List (List Nat)) (ss:List (af×ae)) (T:Tr af) (k:Nat),eH tb hs l pss ss T=true ->
  ∀j o ps v H',l[j]?=some o->pss[j]?=some ps->ss[j]?=some (v,H')->∀p∈ps,∃Hp,hs[p]?=some Hp /\
   (fR (bn (fun i=>Nat.blt i (k+j)) k l ss T) o.guard=true->∃H2,bG tb (bn (fun i=>Nat.blt i (k+j)) k l ss T) Hp o.op=some (.val v,H2)):=by
 intro l
 induction l with
 | nil=>intro pss ss T k _ j o ps v H' h; simp at h
 | cons o r ih=>
  intro pss ss T k h j o' ps v H' h1 h2 h3 p hp
  cases pss with
  | nil=>simp at h2
  | cons ps0 pss=>
   cases ss with
   | nil=>simp at h3
   | cons s ss=>
    obtain⟨u,H1⟩:=s
    simp only[eH,Pu,List.all_eq_true]at h
    cases j with
    | zero=>
     simp only[PA,sJ,pJ]at h1 h2 h3
     subst h1 h2
     obtain⟨rfl,rfl⟩:=h3
     have e:bn (fun i=>Nat.blt i (k+0)) k (o::r) ((u,H1)::ss) T=T:=by
      have hn:∀(l:List ak) (ss:List (af×ae)) (k':Nat) (T:Tr af),k<=k'->bn (fun i=>Nat.blt i (k+0)) k' l ss T=T:=by
       intro l
       induction l with
       | nil=>intro ss k' T _; cases ss <;> rfl
       | cons o r ih=>intro ss k' T hk; cases ss with
        | nil=>rfl
        | cons s ss=>
         obtain⟨a,b⟩:=s
         have:Nat.blt k' (k+0)=false:=by
          cases hb:Nat.blt k' (k+0) with
          | false=>rfl
          | true=>have:=Px hb; omega
         simp only[bn,this,cond_false]
         exact ih ss (k'+1) T om
      exact hn _ _ k T rL
     rw[e]
     have:=h.1 p hp
     split at this
     ·rename_i Hp hHp
      refine⟨Hp,hHp,fun hg=>?_⟩
      rw[hg]at this
      simp only[cond_true]at this
      split at this
      ·rename_i x H2 hx
       rw[Au _ _ this]at hx
       exact⟨H2,hx⟩
      ·simp at this
     ·simp at this
    | succ j=>
     simp only[PC]at h1 h2 h3
     have hb:Nat.blt k (k+(j+1))=true:=by
      show Nat.ble (k+1) (k+(j+1))=true
      exact Pt om
     simp only[bn,hb,cond_true]
     rw[show k+(j+1)=k+1+j by omega]
     exact ih pss ss (aO T o.dst u) (k+1) h.2 j o' ps v H' h1 h2 h3 p hp
theorem CD{o:ak}{T:Tr af}{H H':ae}{v:af}(hc:aD o.op=false)(h:bw tb call o T H=some (v,H')):H'=H:=by
 unfold bw at h
 cases hg:fR T o.guard with
 | false=>rw[hg]at h; simp only[cond_false,sJ,pJ]at h; exact h.2.symm
 | true=>
  rw[hg]at h
  simp only[cond_true]at h
  have hk:iE o.op=true∨cZ o.op=true:=by
   unfold aD at hc
   cases h1:iE o.op <;> cases h2:cZ o.op <;> simp_all
  split at h
  ·rename_i u H1 hu
   simp only[sJ,pJ]at h
   obtain⟨rfl,rfl⟩:=h
   rcases hk with hk | hk
   ·exact (eB hk hu).1
   ·exact (gG hk hu).1
  ·rename_i f args H1 hu
   rcases hk with hk | hk
   ·obtain⟨_,⟨v,hv⟩,_⟩:=eB hk hu; simp at hv
   ·obtain⟨_,v,hv⟩:=gG hk hu; simp at hv
  ·simp at h
theorem cD{l:List ak}{T0:Tr af}{H0:ae}{ss:List (af×ae)}(htr:cp tb call l T0 H0=some ss):∀(d p:Nat),p+d<=l.length->(∀c o,p<=c->c<p+d->l[c]?=some o->aD o.op=false)->dK H0 ss (p+d)=dK H0 ss p:=by
 intro d
 induction d with
 | zero=>intro p _ _; rfl
 | succ d ih=>
  intro p hp hn
  have h1:=ih p om fun c o h1 h2 h3=>hn c o h1 om h3
  obtain⟨_,hat⟩:=fO l T0 H0 ss 0 htr
  have ho:l[p+d]?=some l[p+d]:=Pr om
  obtain⟨v,H',q1,q2⟩:=hat _ _ ho
  have:=CD (hn _ _ om om ho) q2
  rw[<- h1]
  show dK H0 ss (p+d+1)=_
  simp only[dK,q1]
  exact this
end
theorem fP{m m':Nat->Bool}:∀(l:List ak) (k:Nat),(∀c o,l[c]?=some o->aD o.op=true->m (k+c)=m' (k+c))->aA m k l=aA m' k l:=by
 intro l
 induction l with
 | nil=>intro k _; rfl
 | cons o r ih=>
  intro k h
  simp only[aA]
  have h1:=ih (k+1) fun c o' q1 q2=>by rw[show k+1+c=k+(c+1) by omega]; exact h (c+1) o' (by simpa using q1) q2
  cases hc:aD o.op with
  | false=>simp only[Bool.false_and,cond_false]; exact h1
  | true=>
   have:=h 0 o rfl hc
   simp only[Nat.add_zero]at this
   rw[this,h1]
theorem aJ.congr{ρ:Pl}{n:Nat}{T T':Tr af}{tmps:Array Value}(h:∀t,T'.get t=T.get t)(r:aJ ρ n T tmps):aJ ρ n T' tmps:=
 ⟨r.size,fun t=>by have:=r.at_ t; simp only[ev]at this ⊢; rw[h t]; exact this⟩
section
variable {P:Program} {Prot:Gh} {w0:World} {tb:FuncId->Bool} {call:FuncId->List af->ae->Option (af×ae)}
def kn(D:Nat->Prop)(l:List ak)(m:Nat->Bool):Nat->Prop:=fun d=>D d∨∃(i:Nat) (a:ak) (z:List af) (s:Option (Nat×Nat)),l[i]?=some a/\a.op=.claim d z s/\m i=false
theorem tH{ρ:Pl}{H:ae}{w:World}(R:Rel Prot w0 ρ H w){n:Nat}{T:Tr af}{a:Act}(ht:aJ ρ n T a.tmps){o:Oper}{z:List af}{s:Option (Nat×Nat)}(hc:vB P o.op z s){b:Nat}(hd:Prot.dead b)(hx:H.get b=some (.cells z 0 false)) :
  ∃ρ' w' u,ρ.le ρ'/\(execOp a.eval o).run P w=.ok (.value u) w'/\Rel ⟨Prot.prot,fun d=>Prot.dead d/\d≠b⟩ w0 ρ' H w'/\ag ρ' (O1 b z s) u:=by
 obtain⟨dst,op,type,pos,after,guard⟩:=o
 simp only at hc
 rcases hc with⟨e,rfl,hz,rfl⟩ | ⟨t,l,c,e,m,by_,z0,x,y,ln,cn,rfl,h2,h3,h4,h5,h6,h7,h8,h9,rfl,rfl⟩
 ·obtain⟨ρ1,w1,u,q1,q2,q3,q4⟩:=yh (P:=P) R hz hd hx
  refine⟨ρ1,w1,u,q1,?_,q3,q4⟩
  show (do pure (Next.value (<- Instr.alloc e true (.tuple #[]))):Sem Next).run P w=_
  simp only[Sem.run_bind,q2,Result.andThen_ok]
  rfl
 ·obtain⟨ρ1,w1,u,q1,q2,q3,q4⟩:=zB (P:=P) R h2 (uY h3) h4 (aC ht h5) (aC ht h6) h7 h8 h9 hd hx
  refine⟨ρ1,w1,u,q1,?_,q3,q4⟩
  show (do pure (Next.value (<- Instr.makeSlice t (a.eval l) (a.eval c))):Sem Next).run P w=_
  simp only[Sem.run_bind,q2,Result.andThen_ok]
  rfl
def Cq(P:Program)(n:Nat)(ops:Array Oper)(o:Oper)(a:ak):Prop:=
 ∃f args ats l g,o.op=.call ⟨.value (.func f),args,ats⟩/\de args.toList=some l/\gK n ops o.guard=some g/\dd n o.dst=true/\Nat.blt f bO=true/\a=⟨o.dst,.call (bO+f) l,g⟩
def yu(P:Program)(call:FuncId->List af->ae->Option (af×ae)):Prop:=
 ∀f args H v H',Nat.blt f bO=true->call (bO+f) args H=some (v,H')->∀Prot w0 ρ w (vs:Array Value),Rel Prot w0 ρ H w->ah ρ args vs.toList ->
  Calls P f vs w fun e w'=>∃ρ',ρ.le ρ'/\Rel Prot w0 ρ' H' w'/\((∃u,e=.returned u/\ag ρ' v u)∨∃x u,v=jQ x/\e=.panicked [{ v:=u,recovered:=false }]/\ag ρ' x u)
def Np(P:Program)(n:Nat)(ops:Array Oper)(l:List ak)(ms:List Nat)(rp:Nat->Prop)(o:Oper)(a:ak)(j:Nat):Prop:=
 ∃a' c d ac,dC P n ops o=some a'/\a'.guard=none/\a=⟨a'.dst,a'.op,some (SK+d,false)⟩/\iF ms j c=true/\rp c/\l[c]?=some ac/\ac.dst=some d/\∀k b,l[k]?=some b->b.dst=some d->k=c
theorem Ld(K d:Nat):(bif Nat.ble K (K+d) then K+d-K else K+d)=d/\Nat.ble K (K+d)=true:=by
 have h:Nat.ble K (K+d)=true:=Pt (Nat.le_add_right _ _)
 rw[h]
 exact⟨Nat.add_sub_cancel_left ..,rfl⟩
theorem JY(d:Nat):gS (SK+d)=d/\Nat.ble SK (SK+d)=true:=Ld SK d
theorem lE{x:af}(h:eT x=true):∃y,x=jQ y:=by
 unfold eT at h
 split at h
 ·exact⟨_,rfl⟩
 ·simp at h
theorem yX{ρ:Pl}{x y:af}{v:Value}(h:ag ρ x v)(e:x=jQ y):False:=by
 subst e
 simp only[jQ,ag,ah]at h
 obtain⟨f,c,_,⟨v,r,_,⟨h1,h2⟩,_⟩,_⟩:=h
 simp[Mg]at h2
set_option maxHeartbeats 2000000 in
theorem xp{RAW:Prop}(htb:∀f,Nat.blt f bO=true->tb f=true->bc P f=true)(hcall:gR P call)(htbP:RAW->∀f,Nat.blt f bO=true->tb (bO+f)=true->bc P f=true)(hcallP:RAW->yu P call){ds:List Deferred}{n:Nat}{ops:Array Oper}{l:List ak}{base:Nat}{ms:List Nat}{rp:Nat->Prop}
  (hlen:l.length=ops.toList.length) (hopers:∀(j:Nat) (o:Oper),ops.toList[j]?=some o->∃a,l[j]?=some a/\((¬rp j/\(dC P n ops o=some a∨(∃c,base<=c/\DR P n ops o a c)∨Np P n ops l ms rp o a j))∨(RAW/\rp j/\Cq P n ops o a)))
  (hbase:∀d,Prot.dead d->d<base) (hdis:∀(i j:Nat) (a b:ak) (c:Nat) (z z':List af) (s s':Option (Nat×Nat)),l[i]?=some a->l[j]?=some b->a.op=.claim c z s->b.op=.claim c z' s'->i=j)
  (hm:fy (ops.toList.map aX) ms=true) (hp:dJ l ms=true) {T0:Tr af} {H0:ae} {ss:List (af×ae)} (htr:cp tb call l T0 H0=some ss)
  (hck:eH tb (H0::ss.map (·.2)) l ((List.range l.length).map (dL l ms)) ss T0=true) {ρ0:Pl} {Q:Exit->Act->World->Prop}
  (hQ:∀a w,(∃ρ,ρ0.le ρ/\Rel Prot w0 ρ (dK H0 ss l.length) w/\aJ ρ n (bn (fun _=>true) 0 l ss T0) a.tmps/\a.defers=ds)->Q .normal a w)
  (hQP:RAW->∀(c:Nat) (a:Act) (w:World) (ρ:Pl) (x:af) (u:Value),rp c->ρ0.le ρ->(∃H1,ss[c]?=some (jQ x,H1)/\Rel Prot w0 ρ H1 w)->ag ρ x u->a.defers=ds->Q (.panic [{ v:=u,recovered:=false }]) a w) :
  ∀(fuel:Nat) (listed:Array Bool) (a:Act) (w:World),listed.size=ops.size->rA (fun i=>listed.getD i false) ops.size=fuel ->
   (∀j,j<ops.size->listed.getD j false=true->∀e∈(ops.toList.map aX).getD j [],listed.getD e false=true) ->
   (∀c,rp c->listed.getD c false=true->∀x H1,ss[c]?≠some (jQ x,H1)) ->
   (∃ρ,ρ0.le ρ/\Rel ⟨Prot.prot,kn Prot.dead l fun i=>listed.getD i false⟩ w0 ρ (dK H0 ss (aA (fun i=>listed.getD i false) 0 l)) w/\aJ ρ n (bn (fun i=>listed.getD i false) 0 l ss T0) a.tmps/\a.defers=ds) ->
   wpAny P .any ops Q fuel listed a w:=by
 have hN:l.length=ops.size:=by simpa using hlen
 obtain⟨hsl,hat⟩:=fO l T0 H0 ss 0 htr
 have hes:(ops.toList.map aX).length=ops.size:=by simp
 have hpair:∀i j a b,i<j->l[i]?=some a->l[j]?=some b->fw ms i j a b=true:=by
  intro i j a b hij hi hj
  unfold dJ at hp
  rw[List.all_eq_true]at hp
  have hjl:=(Ps.1 hj).1
  have h1:=hp j (List.mem_range.2 hjl)
  rw[hj]at h1
  simp only at h1
  rw[List.all_eq_true]at h1
  have h2:=h1 i (List.mem_range.2 hij)
  rw[hi]at h2
  exact h2
 intro fuel
 induction fuel with
 | zero=>
  intro listed a w hsz hu _ _ hinv
  have hall:∀i,i<ops.size->listed.getD i false=true:=pE hu
  refine⟨?_,hQ a w ?_⟩
  ·unfold Region.ready
   rw[List.filter_eq_nil_iff]
   intro i hi
   have:=hall i (List.mem_range.1 hi)
   have e:listed.getD i true=true:=by
    rw[Array.getD_eq_getD_getElem?]at this ⊢
    rw[Array.getElem?_eq_getElem (by rw[hsz]; exact List.mem_range.1 hi)]at this ⊢
    simpa using this
   simp[e]
  ·obtain⟨ρ,h1,h2,h3,h4⟩:=hinv
   refine⟨ρ,h1,?_,h3.congr fun t=>?_,h4⟩
   ·have hs:=dt (fun i=>listed.getD i false) l 0
    have:aA (fun i=>listed.getD i false) 0 l=l.length:=by
     obtain⟨q1,q2,q3,q4⟩:=hs
     rcases Nat.lt_or_ge (aA (fun i=>listed.getD i false) 0 l) l.length with q | q
     ·have ho:l[aA (fun i=>listed.getD i false) 0 l-0]?=some l[aA (fun i=>listed.getD i false) 0 l]:=by simp
      have:=(q4 _ (by simpa using q) ho).2
      rw[hall _ om]at this
      simp at this
     ·omega
    rw[this]at h2
    exact h2.fewer (D:=Prot.dead) fun d hd=>.inl hd
   ·refine eO l ss 0 T0 T0 rfl fun i o hi _=>?_
    have:=(Ps.1 hi).1
    simp only[Nat.zero_add]
    exact (hall i om).symm
 | succ fuel ih=>
  intro listed a w hsz hu hdown hliv hinv
  obtain⟨ρ,hle,R,ht,hd⟩:=hinv
  have hml:=oC hm (m:=fun i=>listed.getD i false) (fun j hj hjl e he=>hdown j om hjl e he)
  have hmask:∀j,j<ops.size->(∀e∈(ops.toList.map aX).getD j [],listed.getD e false=true)->∀i,i<j->iF ms j i=true->listed.getD i false=true:=
   fun j hj he i hi hb=>hml j om he i hi hb
  refine⟨fun hnone=>?_,fun i hi=>?_⟩
  ·-- there is one that is ready
   exfalso
   have hex:∃i,i<ops.size/\listed.getD i false=false:=by
    rcases Classical.em (∃i,i<ops.size/\listed.getD i false=false) with h | h
    ·exact h
    ·exfalso
     have:rA (fun i=>listed.getD i false) ops.size=0:=ul fun i hi=>by
      cases hb:listed.getD i false with
      | true=>rfl
      | false=>exact (h ⟨i,hi,hb⟩).elim
     omega
   have hmin:∃i,i<ops.size/\listed.getD i false=false/\∀j,j<i->listed.getD j false=true:=by
    obtain⟨i,hi1,hi2⟩:=hex
    induction i using Nat.strongRecOn with
    | _ i ihm=>
     rcases Classical.em (∃j,j<i/\listed.getD j false=false) with⟨j,hj,hj2⟩ | h
     ·exact ihm j hj om hj2
     ·refine⟨i,hi1,hi2,fun j hj=>?_⟩
      cases hb:listed.getD j false with
      | true=>rfl
      | false=>exact (h ⟨j,hj,hb⟩).elim
   obtain⟨i,hi1,hi2,hi3⟩:=hmin
   have:i∈Region.ready .any ops listed:=by
    rw[mem_ready]
    refine⟨?_,ops[i],Array.getElem?_eq_getElem hi1,fun e he hb=>?_⟩
    ·rw[Array.getD_eq_getD_getElem?]at hi2 ⊢
     rw[Array.getElem?_eq_getElem om]at hi2 ⊢
     simpa using hi2
    ·refine hi3 _ ?_
     unfold fy at hm
     rw[List.all_eq_true]at hm
     have h1:=hm i (List.mem_range.2 om)
     simp only[Pu,List.all_eq_true]at h1
     refine Px (h1.1 e.on ?_)
     have:(ops.toList.map aX).getD i []=aX ops[i]:=by simp[List.getD,hi1]
     rw[this]
     unfold aX
     rw[List.mem_map]
     exact⟨e,by rw[List.mem_filter]; exact⟨by simpa using he,hb⟩,rfl⟩
   rw[hnone]at this
   simp at this
  ·obtain⟨hi1,o,ho,hedge⟩:=mem_ready.1 hi
   have hiN:i<ops.size:=(Array.getElem?_eq_some_iff.1 ho).1
   have hmi:listed.getD i false=false:=by
    rw[Array.getD_eq_getD_getElem?]at hi1 ⊢
    rw[Array.getElem?_eq_getElem om]at hi1 ⊢
    simpa using hi1
   obtain⟨ao,hao,hco⟩:=hopers i o (by simpa using ho)
   have hedges:∀e∈(ops.toList.map aX).getD i [],listed.getD e false=true:=by
    have:(ops.toList.map aX).getD i []=aX o:=by
     have:ops[i]=o:=by simpa[Array.getElem?_eq_getElem hiN] using ho
     simp[List.getD,hiN,this]
    rw[this]
    intro e he
    unfold aX at he
    rw[List.mem_map]at he
    obtain⟨x,hx,rfl⟩:=he
    rw[List.mem_filter]at hx
    exact hedge x (by simpa using hx.1) hx.2
   have hafter:∀c b,i<c->l[c]?=some b->iF ms c i=true->listed.getD c false=false:=by
    intro c b hc hb hbit
    cases hx:listed.getD c false with
    | false=>rfl
    | true=>
     have hcN:=(Ps.1 hb).1
     have:=hmask c om (hdown c om hx) i hc hbit
     rw[hmi]at this
     simp at this
   have hagree:∀t∈iB ao,(bn (fun i=>listed.getD i false) 0 l ss T0).get t=(bn (fun j=>Nat.blt j (0+i)) 0 l ss T0).get t:=by
    intro t htr'
    refine eO l ss 0 T0 T0 rfl fun c b hc hdst=>?_
    have hcN:=(Ps.1 hc).1
    simp only[Nat.zero_add]
    rcases Nat.lt_trichotomy c i with h | h | h
    ·have e:Nat.blt c i=true:=Pt h
     rw[e]
     have hpr:=hpair c i b ao h hc hao
     simp only[fw,Bool.or_eq_true,Pu]at hpr
     rcases hpr with hpr | ⟨_,hpr⟩
     ·exact hmask i hiN hedges c h hpr
     ·exfalso
      simp only[uZ,hdst,Pu,Bool.not_eq_true',List.contains_eq_mem,decide_eq_false_iff_not]at hpr
      exact hpr.1.1 htr'
    ·subst h
     have e:Nat.blt c c=false:=by
      cases hb:Nat.blt c c with
      | false=>rfl
      | true=>have:=Px hb; omega
     rw[e]; exact hmi
    ·have e:Nat.blt c i=false:=by
      cases hb:Nat.blt c i with
      | false=>rfl
      | true=>have:=Px hb; omega
     rw[e]
     have hpr:=hpair i c ao b h hao hc
     simp only[fw,Bool.or_eq_true,Pu]at hpr
     rcases hpr with hpr | ⟨_,hpr⟩
     ·exact hafter c b h hc hpr
     ·exfalso
      simp only[uZ,hdst,Pu,Bool.not_eq_true',List.contains_eq_mem,decide_eq_false_iff_not]at hpr
      exact hpr.2 htr'
   have hgd:fR (bn (fun i=>listed.getD i false) 0 l ss T0) ao.guard=fR (bn (fun j=>Nat.blt j (0+i)) 0 l ss T0) ao.guard:=by
    cases hg:ao.guard with
    | none=>rfl
    | some g=>
     obtain⟨t,b⟩:=g
     simp only[fR,ev]
     rw[hagree (gS t) (by simp[iB,hg])]
   have hop:∀H,bG tb (bn (fun i=>listed.getD i false) 0 l ss T0) H ao.op=bG tb (bn (fun j=>Nat.blt j (0+i)) 0 l ss T0) H ao.op:=
    fun H=>tY fun t h=>hagree t (by simp only[iB,List.mem_append]; exact .inl h)
   obtain⟨v,H1,hss,hstep⟩:=hat i ao hao
   obtain⟨st1,st2,st3,st4⟩:=dt (fun i=>listed.getD i false) l 0
   have hchain:aD ao.op=true->aA (fun i=>listed.getD i false) 0 l=i:=by
    intro hc
    have hge:aA (fun i=>listed.getD i false) 0 l<=i:=by
     rcases Nat.lt_or_ge i (aA (fun i=>listed.getD i false) 0 l) with h | h
     ·have:=st3 i ao hao hc (by simpa using h)
      simp only[Nat.zero_add]at this
      rw[hmi]at this
      simp at this
     ·exact h
    rcases Nat.lt_or_ge (aA (fun i=>listed.getD i false) 0 l) i with h | h
    ·have hob:l[aA (fun i=>listed.getD i false) 0 l-0]?=some (l[aA (fun i=>listed.getD i false) 0 l]'om):=by simp
     obtain⟨q1,q2⟩:=st4 _ om hob
     have hob2:l[aA (fun i=>listed.getD i false) 0 l]?=some (l[aA (fun i=>listed.getD i false) 0 l]'om):=Pr om
     have hpr:=hpair _ i _ ao h hob2 hao
     simp only[fw,Bool.or_eq_true,Pu]at hpr
     rcases hpr with hpr | ⟨hpr,_⟩
     ·have:=hmask i hiN hedges _ h hpr
      rw[q2]at this
      simp at this
     ·rw[q1,hc]at hpr
      simp at hpr
    ·omega
   have hnext:(rp i->∀x,v≠jQ x)->∀(ρ':Pl) (w':World) (a':Act),ρ.le ρ'->Rel ⟨Prot.prot,kn Prot.dead l fun j=>if j=i then true else listed.getD j false⟩ w0 ρ' (if aD ao.op=true then H1 else dK H0 ss (aA (fun i=>listed.getD i false) 0 l)) w' ->
     aJ ρ' n (aO (bn (fun i=>listed.getD i false) 0 l ss T0) ao.dst v) a'.tmps->a'.defers=ds->wpAny P .any ops Q fuel (listed.setIfInBounds i true) a' w':=by
    intro hnp ρ' w' a' hle' R' ht' hd'
    have hm':∀j,(listed.setIfInBounds i true).getD j false=if j=i then true else listed.getD j false:=by
     intro j
     by_cases e:j=i
     ·subst e
      rw[if_pos rfl,Array.getD_eq_getD_getElem?]
      have:j<listed.size:=om
      simp[this]
     ·rw[if_neg e]
      exact getD_set_ne false (fun q=>e q.symm)
    have hmf:(fun j=>(listed.setIfInBounds i true).getD j false)=fun j=>if j=i then true else listed.getD j false:=funext hm'
    refine ih _ a' w' (by simpa using hsz) ?_ ?_ ?_ ⟨ρ',Pl.le_trans hle hle',?_,?_,hd'⟩
    ·have:=uk (m:=fun i=>listed.getD i false) (m':=fun j=>(listed.setIfInBounds i true).getD j false) (i:=i) (n:=ops.size) hiN hmi (by rw[hm',if_pos rfl]) (fun j hj=>by rw[hm',if_neg hj])
     omega
    ·intro j hj hjl e he
     rw[hm']at hjl ⊢
     by_cases q:e=i
     ·rw[if_pos q]
     ·rw[if_neg q]
      by_cases q2:j=i
      ·subst q2; exact hedges e he
      ·rw[if_neg q2]at hjl; exact hdown j hj hjl e he
    ·intro c hrc hcl x Hx hcs
     rw[hm']at hcl
     by_cases q:c=i
     ·subst q
      rw[hss,sJ,pJ]at hcs
      exact hnp hrc x hcs.1
     ·rw[if_neg q]at hcl
      exact hliv c hrc hcl x Hx hcs
    ·rw[hmf]
     cases hc:aD ao.op with
     | false=>
      rw[hc]at R'
      simp only[PD,if_false]at R'
      have:aA (fun j=>if j=i then true else listed.getD j false) 0 l=aA (fun i=>listed.getD i false) 0 l:=
       fP l 0 fun c b hcb hcc=>by
        simp only[Nat.zero_add]
        rw[if_neg]
        intro e
        subst e
        rw[hao]at hcb
        simp only[sJ]at hcb
        subst hcb
        rw[hc]at hcc
        simp at hcc
      rw[this]
      exact R'
     | true=>
      rw[hc]at R'
      simp only[if_true]at R'
      have hpi:=hchain hc
      obtain⟨s1,s2,s3,s4⟩:=dt (fun j=>if j=i then true else listed.getD j false) l 0
      have hgt:i<aA (fun j=>if j=i then true else listed.getD j false) 0 l:=by
       rcases Nat.lt_or_ge i (aA (fun j=>if j=i then true else listed.getD j false) 0 l) with h | h
       ·exact h
       ·exfalso
        have hob:l[aA (fun j=>if j=i then true else listed.getD j false) 0 l-0]?=some (l[aA (fun j=>if j=i then true else listed.getD j false) 0 l]'om):=by simp
        obtain⟨q1,q2⟩:=s4 _ om hob
        by_cases e:aA (fun j=>if j=i then true else listed.getD j false) 0 l=i
        ·rw[if_pos e]at q2; simp at q2
        ·rw[if_neg e]at q2
         have hob2:l[aA (fun j=>if j=i then true else listed.getD j false) 0 l]?=some (l[aA (fun j=>if j=i then true else listed.getD j false) 0 l]'om):=Pr om
         have:=st3 _ _ hob2 q1 om
         simp only[Nat.zero_add]at this
         rw[q2]at this
         simp at this
      have hb:=cD htr (aA (fun j=>if j=i then true else listed.getD j false) 0 l-(i+1)) (i+1) om fun c b c1 c2 c3=>by
       cases hx:aD b.op with
       | false=>rfl
       | true=>
        exfalso
        have:=s3 c b c3 hx om
        simp only[Nat.zero_add]at this
        rw[if_neg om]at this
        have hpr:=hpair i c ao b om hao c3
        simp only[fw,Bool.or_eq_true,Pu]at hpr
        rcases hpr with hpr | ⟨hpr,_⟩
        ·have h9:=hafter c b om c3 hpr
         rw[this]at h9
         simp at h9
        ·rw[hx,hc]at hpr
         simp at hpr
      rw[show i+1+(aA (fun j=>if j=i then true else listed.getD j false) 0 l-(i+1))=aA (fun j=>if j=i then true else listed.getD j false) 0 l by omega]at hb
      rw[hb]
      simp only[dK,hss]
      exact R'
    ·refine ht'.congr fun t=>?_
     rw[hmf,j8]
     by_cases e:ao.dst=some t
     ·rw[if_pos e]
      refine iH l ss 0 i T0 ao v H1 hao hss e (by simp) fun c b hc hcb hdst=>?_
      simp only[Nat.zero_add]
      rw[if_neg om]
      have hpr:=hpair i c ao b hc hao hcb
      simp only[fw,Bool.or_eq_true,Pu]at hpr
      rcases hpr with hpr | ⟨_,hpr⟩
      ·exact hafter c b hc hcb hpr
      ·exfalso
       simp only[uZ,e,Pu,Bool.not_eq_true',beq_eq_false_iff_ne]at hpr
       exact hpr.1.2 hdst
     ·rw[if_neg e]
      refine eO l ss 0 T0 T0 rfl fun c b hc hdst=>?_
      simp only[Nat.zero_add]
      rw[if_neg]
      intro q
      subst q
      rw[hao]at hc
      simp only[sJ]at hc
      subst hc
      exact e hdst
   have hval:aD ao.op=false->fR (bn (fun j=>Nat.blt j (0+i)) 0 l ss T0) ao.guard=true->∃H2,bG tb (bn (fun j=>Nat.blt j (0+i)) 0 l ss T0) (dK H0 ss (aA (fun i=>listed.getD i false) 0 l)) ao.op=some (.val v,H2):=by
    intro hc hgo
    unfold bw at hstep
    rw[hgo]at hstep
    simp only[cond_true]at hstep
    cases hpu:iE ao.op with
    | true=>
     split at hstep
     ·rename_i u H2 hu
      simp only[sJ,pJ]at hstep
      obtain⟨rfl,rfl⟩:=hstep
      exact⟨_,(eB hpu hu).2.2 _⟩
     ·rename_i f args H2 hu
      obtain⟨_,⟨x,hx⟩,_⟩:=eB hpu hu
      simp at hx
     ·simp at hstep
    | false=>
     have hld:cZ ao.op=true:=by
      unfold aD at hc
      cases h1:cZ ao.op with
      | true=>rfl
      | false=>rw[hpu,h1]at hc; simp at hc
     cases hsm:ol l i (aA (fun i=>listed.getD i false) 0 l) with
     | true=>
      unfold ol at hsm
      rw[Pu,List.all_eq_true]at hsm
      have hij:=Px hsm.1
      have hb:=cD htr (aA (fun i=>listed.getD i false) 0 l-i) i om fun c b c1 c2 c3=>by
       have:=hsm.2 c (List.mem_range.2 om)
       rw[c3]at this
       simp only[Bool.or_eq_true,Bool.not_eq_true']at this
       rcases this with h | h
       ·have:=Px h; omega
       ·exact h
      rw[show i+(aA (fun i=>listed.getD i false) 0 l-i)=aA (fun i=>listed.getD i false) 0 l by omega]at hb
      rw[hb]
      split at hstep
      ·rename_i u H2 hu
       simp only[sJ,pJ]at hstep
       obtain⟨rfl,rfl⟩:=hstep
       exact⟨_,hu⟩
      ·rename_i f args H2 hu
       obtain⟨_,x,hx⟩:=gG hld hu
       simp at hx
      ·simp at hstep
     | false=>
      have hmem:aA (fun i=>listed.getD i false) 0 l∈dL l ms i:=by
       unfold dL
       rw[hao]
       simp only[hld,cond_true]
       rw[List.mem_filter]
       refine⟨List.mem_range.2 om,?_⟩
       rw[hsm]
       simp only[Bool.not_false,Bool.true_and]
       unfold sS
       rw[Pu]
       refine⟨?_,?_⟩
       ·unfold kH
        rcases Nat.lt_or_ge (aA (fun i=>listed.getD i false) 0 l) l.length with h | h
        ·have hob:l[aA (fun i=>listed.getD i false) 0 l]?=some l[aA (fun i=>listed.getD i false) 0 l]:=Pr h
         rw[hob]
         exact (st4 _ om (by simp)).1
        ·rw[PL h]
         have:aA (fun i=>listed.getD i false) 0 l=l.length:=om
         rw[this]
         exact Nat.beq_refl _
       ·rw[List.all_eq_true]
        intro c hcr
        have hcl:=List.mem_range.1 hcr
        rw[Pr hcl]
        simp only[Bool.or_eq_true,Bool.not_eq_true']
        cases hcc:aD l[c].op with
        | false=>exact .inl rfl
        | true=>
         right
         have hlc:l[c]?=some l[c]:=Pr hcl
         cases hb:Nat.blt c (aA (fun i=>listed.getD i false) 0 l) with
         | true=>
          simp only[cond_true,Bool.not_eq_true']
          have hlt:c<aA (fun i=>listed.getD i false) 0 l:=Px hb
          have hcm:=st3 c _ hlc hcc om
          simp only[Nat.zero_add]at hcm
          cases hbit:iF ms c i with
          | false=>rfl
          | true=>
           exfalso
           rcases Nat.lt_trichotomy i c with h | h | h
           ·have:=hafter c _ h hlc hbit
            rw[hcm]at this; simp at this
           ·subst h; rw[hmi]at hcm; simp at hcm
           ·have:=jA hbit
            omega
         | false=>
          simp only[cond_false,Bool.not_eq_true']
          have hge:aA (fun i=>listed.getD i false) 0 l<=c:=by
           rcases Nat.lt_or_ge c (aA (fun i=>listed.getD i false) 0 l) with h | h
           ·have:Nat.blt c (aA (fun i=>listed.getD i false) 0 l)=true:=Pt h
            rw[hb]at this; simp at this
           ·exact h
          cases hbit:iF ms i c with
          | false=>rfl
          | true=>
           exfalso
           have hlc2:=hmask i hiN hedges c (jA hbit) hbit
           have hpl:aA (fun i=>listed.getD i false) 0 l<l.length:=om
           have hob2:l[aA (fun i=>listed.getD i false) 0 l]?=some (l[aA (fun i=>listed.getD i false) 0 l]'hpl):=Pr hpl
           obtain⟨q1,q2⟩:=st4 _ om (by rw[Nat.sub_zero]; exact hob2)
           rcases Nat.lt_trichotomy (aA (fun i=>listed.getD i false) 0 l) c with h | h | h
           ·have hpr:=hpair _ c _ _ h hob2 hlc
            simp only[fw,Bool.or_eq_true,Pu]at hpr
            rcases hpr with hpr | ⟨hpr,_⟩
            ·have:=hmask c om (hdown c om hlc2) _ h hpr
             rw[q2]at this; simp at this
            ·rw[q1,hcc]at hpr; simp at hpr
           ·rw[h]at q2; rw[q2]at hlc2; simp at hlc2
           ·omega
      obtain⟨Hp,hHp,hrun⟩:=GD l _ ss T0 0 hck i _ (dL l ms i) v H1 hao (by simp[hN,hiN]) hss _ hmem
      obtain⟨H2,hH2⟩:=hrun hgo
      refine⟨H2,?_⟩
      have:Hp=dK H0 ss (aA (fun i=>listed.getD i false) 0 l):=by
       cases hstg:aA (fun i=>listed.getD i false) 0 l with
       | zero=>rw[hstg]at hHp; simpa[dK] using hHp.symm
       | succ q=>
        rw[hstg]at hHp
        simp only[PC,List.getElem?_map]at hHp
        simp only[dK]
        cases hq:ss[q]? with
        | none=>rw[hq]at hHp; simp at hHp
        | some z=>rw[hq]at hHp; obtain⟨z1,z2⟩:=z; simpa using hHp.symm
      rw[<- this]
      exact hH2
   have hfew:∀d,kn Prot.dead l (fun j=>if j=i then true else listed.getD j false) d->kn Prot.dead l (fun i=>listed.getD i false) d:=by
    rintro d (hd | ⟨i',a',z',s',x1,x2,x3⟩)
    ·exact .inl hd
    ·refine .inr ⟨i',a',z',s',x1,x2,?_⟩
     simp only at x3
     by_cases e:i'=i
     ·rw[if_pos e]at x3; simp at x3
     ·rw[if_neg e]at x3; exact x3
   have hord:(¬rp i/\∃ax g,tM P o.op=some ax/\dd n o.dst=true/\ao=⟨o.dst,ax,g⟩/\Region.wanted o (yielded ops a.tmps)=fR (bn (fun i=>listed.getD i false) 0 l ss T0) g)∨(¬rp i/\∃c,base<=c/\DR P n ops o ao c)∨(RAW/\rp i/\Cq P n ops o ao):=by
    have hc0:∀a',dC P n ops o=some a'->∃ax g,tM P o.op=some ax/\dd n o.dst=true/\a'=⟨o.dst,ax,g⟩/\gK n ops o.guard=some g:=by
     intro a' hco
     unfold dC at hco
     split at hco
     ·rename_i ax g hopc hgc
      cases hdst:dd n o.dst with
      | false=>rw[hdst]at hco; simp at hco
      | true=>
       rw[hdst]at hco
       simp only[cond_true,sJ]at hco
       exact⟨ax,g,hopc,rfl,hco.symm,hgc⟩
     ·simp at hco
    rcases hco with⟨hnr,hco | hco | ⟨a',c,d,ac,hco,hgn,rfl,hbc,hrc,hlc,hcd,honly⟩⟩ | hco
    ·obtain⟨ax,g,q1,q2,q3,q4⟩:=hc0 _ hco
     exact .inl ⟨hnr,ax,g,q1,q2,q3,eU ht q4⟩
    ·exact .inr (.inl ⟨hnr,hco⟩)
    ·obtain⟨ax,g,q1,q2,rfl,q4⟩:=hc0 _ hco
     simp only at hgn
     subst hgn
     refine .inl ⟨hnr,ax,_,q1,q2,rfl,?_⟩
     have hcl:=hmask i hiN hedges c (jA hbc) hbc
     rw[eU ht q4,hgd]
     obtain⟨vc,Hc,hsc,_⟩:=hat c ac hlc
     have hget:(bn (fun j=>Nat.blt j (0+i)) 0 l ss T0).get d=some vc:=by
      have:=iH (m:=fun j=>Nat.blt j (0+i)) l ss 0 c T0 ac vc Hc hlc hsc hcd (by simp only[Nat.zero_add]; exact Pt (jA hbc)) fun k b hk hkb hdst=>absurd (honly k b hkb hdst) om
      exact this
     obtain⟨k1,k2⟩:=JY d
     simp only[fR,gV,k1,k2,cond_true,ev,hget]
     cases hp:eT vc with
     | false=>rfl
     | true=>
      obtain⟨x,rfl⟩:=lE hp
      exact absurd hsc (hliv c hrc hcl x Hc)
    ·exact .inr (.inr hco)
   rcases hord with⟨hnr,ax,g,hopc,hdst,rfl,hwant⟩ | ⟨hnr,cb,hcb,z,s,g,hoe,hgc,hdst,rfl⟩ | ⟨hraw,hrp,f,args,ats,lx,g,hoe,hlx,hgc,hdst,hbig,rfl⟩
   ·replace hnext:=hnext fun hr=>absurd hr hnr
    ·simp only at hgd hop hnext hchain hao
     unfold wpOp
     simp only[ho]
     rw[hwant,hgd]
     have hd':∀u,(a.put o.dst u).defers=ds:=fun u=>by cases hx:o.dst <;> simpa[Act.put] using hd
     unfold bw at hstep
     simp only at hstep
     cases hgo:fR (bn (fun j=>Nat.blt j (0+i)) 0 l ss T0) g with
     | false=>
      rw[hgo]at hstep
      simp only[cond_false,sJ,pJ]at hstep
      obtain⟨rfl,rfl⟩:=hstep
      simp only[PD,if_false]
      refine hnext ρ w _ (Pl.le_refl _) ?_ (bu ht hdst dG) (hd' _)
      split
      ·rename_i hc
       have h9:=R.fewer hfew
       rw[hchain hc]at h9
       exact h9
      ·exact R.fewer hfew
     | true=>
      rw[hgo]at hstep
      simp only[cond_true]at hstep
      simp only[if_true]
      left
      cases hc:aD ax with
      | true=>
       have hpi:=hchain hc
       rw[hpi]at R
       rw[<- hop]at hstep
       split at hstep
       ·rename_i u H2 hu
        simp only[sJ,pJ]at hstep
        obtain⟨rfl,rfl⟩:=hstep
        obtain⟨ρ1,w1,nx,q1,q2,q3,q4⟩:=gC htb R ht o hopc hu
        simp only[Oper.wp,q2]
        rw[hc]at hnext
        simp only[if_true]at hnext
        cases nx <;> simp only[iz]at q4
        case value u=>exact hnext ρ1 w1 _ q1 (q3.fewer hfew) (bu (ht.mono q1) hdst q4) (hd' _)
        case skip=>exact hnext ρ1 w1 _ q1 (q3.fewer hfew) (bu (ht.mono q1) hdst q4) (hd' _)
       ·rename_i f args H2 hu
        obtain⟨ρ1,w1,nx,q1,q2,q3,q4⟩:=gC htb R ht o hopc hu
        simp only[Oper.wp,q2]
        rw[hc]at hnext
        simp only[if_true]at hnext
        cases nx <;> simp only[iz]at q4
        case enter gf vs=>
         obtain⟨rfl,hbig,q5⟩:=q4
         simp only[Oper.upon]
         refine (hcall _ _ _ _ _ hbig hstep ⟨Prot.prot,kn Prot.dead l fun i=>listed.getD i false⟩ w0 ρ1 w1 vs q3 q5).mono fun e w' hr=>?_
         obtain⟨ρ2,u,r1,rfl,r3,r4⟩:=hr
         exact hnext ρ2 w' _ (Pl.le_trans q1 r1) (r3.fewer hfew) (bu ((ht.mono q1).mono r1) hdst r4) (hd' _)
       ·simp at hstep
      | false=>
       rw[hc]at hnext
       simp only[PD,if_false]at hnext
       obtain⟨H2,hH2⟩:=hval hc hgo
       have hsame:H2=dK H0 ss (aA (fun i=>listed.getD i false) 0 l):=by
        have hk:iE ax=true∨cZ ax=true:=by
         unfold aD at hc
         cases h1:iE ax <;> cases h2:cZ ax <;> simp_all
        rcases hk with hk | hk
        ·exact (eB hk hH2).1
        ·exact (gG hk hH2).1
       subst hsame
       rw[<- hop]at hH2
       obtain⟨ρ1,w1,nx,q1,q2,q3,q4⟩:=gC htb R ht o hopc hH2
       simp only[Oper.wp,q2]
       cases nx <;> simp only[iz]at q4
       case value u=>exact hnext ρ1 w1 _ q1 (q3.fewer hfew) (bu (ht.mono q1) hdst q4) (hd' _)
       case skip=>exact hnext ρ1 w1 _ q1 (q3.fewer hfew) (bu (ht.mono q1) hdst q4) (hd' _)
   ·-- a new block,of a number that was laid kn
    replace hnext:=hnext fun hr=>absurd hr hnr
    simp only at hgd hop hnext hchain hao hval
    unfold wpOp
    simp only[ho]
    rw[eU ht hgc,hgd]
    have hd':∀u,(a.put o.dst u).defers=ds:=fun u=>by cases hx:o.dst <;> simpa[Act.put] using hd
    have hnc:aD (gT.claim cb z s)=false:=rfl
    rw[hnc]at hnext
    simp only[PD,if_false]at hnext
    cases hgo:fR (bn (fun j=>Nat.blt j (0+i)) 0 l ss T0) g with
    | false=>
     unfold bw at hstep
     simp only at hstep
     rw[hgo]at hstep
     simp only[cond_false,sJ,pJ]at hstep
     obtain⟨rfl,rfl⟩:=hstep
     simp only[PD,if_false]
     exact hnext ρ w _ (Pl.le_refl _) (R.fewer hfew) (bu ht hdst dG) (hd' _)
    | true=>
     simp only[if_true]
     left
     obtain⟨H2,hH2⟩:=hval hnc hgo
     simp only[bG]at hH2
     obtain⟨y,hy,hv,_⟩:=bB hH2
     simp only[Nx.val.injEq]at hv
     subst hv
     obtain⟨hget,rfl⟩:=Ah hy
     obtain⟨ρ1,w1,u,q1,hrun,q3,q4⟩:=tH R ht hoe (.inr ⟨i,_,z,s,hao,rfl,hmi⟩) hget
     simp only[Oper.wp,hrun]
     refine hnext ρ1 w1 _ q1 (q3.fewer ?_) (bu (ht.mono q1) hdst q4) (hd' _)
     intro d hd0
     refine⟨hfew d hd0,?_⟩
     rintro rfl
     rcases hd0 with hd0 | ⟨i',a',z',s',x1,x2,x3⟩
     ·have:=hbase _ hd0; omega
     ·have:=hdis i' i a' _ _ z' z s' s x1 hao x2 rfl
      subst this
      simp at x3
   ·-- a call whose panic is CA
    simp only at hgd hop hnext hchain hao hval
    unfold wpOp
    simp only[ho]
    rw[eU ht hgc,hgd]
    have hd':∀u,(a.put o.dst u).defers=ds:=fun u=>by cases hx:o.dst <;> simpa[Act.put] using hd
    have hnc:aD (gT.call (bO+f) lx)=true:=rfl
    rw[hnc]at hnext
    simp only[if_true]at hnext
    have hpi:=hchain hnc
    rw[hpi]at R
    unfold bw at hstep
    simp only at hstep
    cases hgo:fR (bn (fun j=>Nat.blt j (0+i)) 0 l ss T0) g with
    | false=>
     rw[hgo]at hstep
     simp only[cond_false,sJ,pJ]at hstep
     obtain⟨rfl,rfl⟩:=hstep
     simp only[PD,if_false]
     exact hnext (fun _ x hx=>by simp[aN,jQ]at hx) ρ w _ (Pl.le_refl _) (R.fewer hfew) (bu ht hdst dG) (hd' _)
    | true=>
     rw[hgo]at hstep
     simp only[cond_true]at hstep
     simp only[if_true]
     left
     rw[<- hop]at hstep
     simp only[bG]at hstep
     cases hb:tb (bO+f) with
     | false=>rw[hb]at hstep; simp at hstep
     | true=>
      rw[hb]at hstep
      simp only[cond_true]at hstep
      have hrun:(execOp a.eval o).run P w=.ok (.enter f (args.map a.eval)) w:=by
       have:=eL (P:=P) (w:=w) (htbP hraw f hbig hb) (args.map a.eval)
       obtain⟨dst,op,type,pos,after,guard⟩:=o
       simp only at hoe
       subst hoe
       simp[execOp,resolve,Act.eval,Deferred.ofValue,invoke,this]
      simp only[Oper.wp,hrun,Oper.upon]
      refine (hcallP hraw f _ _ _ _ hbig hstep ⟨Prot.prot,kn Prot.dead l fun i=>listed.getD i false⟩ w0 ρ w (args.map a.eval) R (by simpa using fK ht hlx)).mono fun e w' hr=>?_
      obtain⟨ρ2,r1,r3,⟨u,rfl,r4⟩ | ⟨x,u,rfl,rfl,r4⟩⟩:=hr
      ·exact hnext (fun _ x hx=>yX r4 hx) ρ2 w' _ r1 (r3.fewer hfew) (bu (ht.mono r1) hdst r4) (hd' _)
      ·exact hQP hraw i a w' ρ2 x u hrp (Pl.le_trans hle r1) ⟨H1,hss,r3.fewer (D:=Prot.dead) fun d hd=>.inl hd⟩ r4 hd
end
end Go.Abs
namespace Go.Abs
theorem qG{P:Program}{c:Call}{b:Nat}{z:List af}{s:Option (Nat×Nat)}(h:ja P c=some (.claim b z s)):False:=by
 unfold ja at h
 repeat' split at h
 all_goals first
  | (simp at h; done)
  | (simp only[cond_eq_ite]at h; split at h <;> simp at h)
theorem qI{P:Program}{o:Op}{b:Nat}{z:List af}{s:Option (Nat×Nat)}(h:nS P o=some (.claim b z s)):False:=by
 unfold nS at h
 repeat' split at h
 all_goals first
  | (simp at h; done)
  | (simp only[cond_eq_ite]at h; split at h <;> first | (simp at h; done) | (split at h <;> simp at h))
theorem rM{P:Program}{o:Op}{b:Nat}{z:List af}{s:Option (Nat×Nat)}(h:tM P o=some (.claim b z s)):False:=by
 unfold tM at h
 split at h
 ·rename_i a ha
  simp only[sJ]at h
  subst h
  exact qI ha
 ·split at h
  ·rename_i a ha
   simp only[sJ]at h
   subst h
   cases o <;> simp only[xJ,reduceCtorEq]at ha
   case call c _=>exact qG ha
   all_goals
    exfalso
    repeat' split at ha
    all_goals first
     | (simp at ha; done)
     | (simp only[cond_eq_ite]at ha; split at ha <;> simp at ha)
  ·simp at h
def gq(l:List ak):Prop:=∀a∈l,∀(c:Nat) (z:List af) (s:Option (Nat×Nat)),a.op≠.claim c z s
theorem ep{P:Program}{n:Nat}{ops:Array Oper}:∀{rest:List Oper} {l:List ak},cA P n ops rest=some l->gq l:=by
 intro rest
 induction rest with
 | nil=>intro l h; simp only[cA,sJ]at h; subst h; intro a ha; simp at ha
 | cons o r ih=>
  intro l h
  simp only[cA]at h
  split at h
  ·rename_i a l' ha hl'
   simp only[sJ]at h
   subst h
   intro x hx c z s hc
   rcases List.mem_cons.1 hx with rfl | hx
   ·unfold dC at ha
    split at ha
    ·rename_i ax g hopc hg
     cases hdst:dd n o.dst with
     | false=>rw[hdst]at ha; simp at ha
     | true=>
      rw[hdst]at ha
      simp only[cond_true,sJ]at ha
      subst ha
      simp only at hc
      subst hc
      exact rM hopc
    ·simp at ha
   ·exact ih hl' x hx c z s hc
  ·simp at h
theorem kf(b:Nat)(o:ak)(r:List ak):(∃z s,aB b (o::r)=⟨o.dst,.claim b z s,o.guard⟩::aB (b+1) r/\∀H,bT H (o::r)=bT (H.push (.cells z 0 false)) r) ∨
  (aB b (o::r)=o::aB b r/\∀H,bT H (o::r)=bT H r):=by
 cases h:dR o.op with
 | some p=>obtain⟨z,s⟩:=p; exact .inl ⟨z,s,by simp only[aB,h],fun H=>by simp only[bT,h]⟩
 | none=>exact .inr ⟨by simp only[aB,h],fun H=>by simp only[bT,h]⟩
theorem kM:∀(l:List ak) (b:Nat),gq l->∀(i:Nat) (a:ak) (c:Nat) (z:List af) (s:Option (Nat×Nat)),(aB b l)[i]?=some a->a.op=.claim c z s->b<=c
 | [],b,_,i,a,c,z,s,h,_=>by simp[aB]at h
 | o::r,b,hn,i,a,c,z,s,h,hc=>by
  have hr:gq r:=fun x hx=>hn x (List.mem_cons_of_mem _ hx)
  rcases kf b o r with⟨z',s',e,_⟩ | ⟨e,_⟩
  ·rw[e]at h
   cases i with
   | zero=>
    simp only[PA,sJ]at h
    subst h
    simp only[gT.claim.injEq]at hc
    omega
   | succ i=>
    simp only[PC]at h
    have:=kM r (b+1) hr i a c z s h hc
    omega
  ·rw[e]at h
   cases i with
   | zero=>
    simp only[PA,sJ]at h
    subst h
    exact absurd hc (hn o (List.mem_cons_self ..) c z s)
   | succ i=>
    simp only[PC]at h
    exact kM r b hr i a c z s h hc
theorem jv:∀(l:List ak) (b:Nat),gq l->∀(i j:Nat) (a a':ak) (c:Nat) (z z':List af) (s s':Option (Nat×Nat)),(aB b l)[i]?=some a->(aB b l)[j]?=some a'->a.op=.claim c z s->a'.op=.claim c z' s'->i=j
 | [],b,_,i,j,a,a',c,z,z',s,s',h,_,_,_=>by simp[aB]at h
 | o::r,b,hn,i,j,a,a',c,z,z',s,s',h,k,hc,kc=>by
  have hr:gq r:=fun x hx=>hn x (List.mem_cons_of_mem _ hx)
  rcases kf b o r with⟨y,s9,e,_⟩ | ⟨e,_⟩
  ·rw[e]at h k
   cases i with
   | zero=>
    cases j with
    | zero=>rfl
    | succ j=>
     simp only[PA,sJ,PC]at h k
     subst h
     simp only[gT.claim.injEq]at hc
     have:=kM r (b+1) hr j a' c z' s' k kc
     omega
   | succ i=>
    cases j with
    | zero=>
     simp only[PA,sJ,PC]at h k
     subst k
     simp only[gT.claim.injEq]at kc
     have:=kM r (b+1) hr i a c z s h hc
     omega
    | succ j=>
     simp only[PC]at h k
     rw[jv r (b+1) hr i j a a' c z z' s s' h k hc kc]
  ·rw[e]at h k
   cases i with
   | zero=>
    simp only[PA,sJ]at h
    subst h
    exact absurd hc (hn o (List.mem_cons_self ..) c z s)
   | succ i=>
    cases j with
    | zero=>
     simp only[PA,sJ]at k
     subst k
     exact absurd kc (hn o (List.mem_cons_self ..) c z' s')
    | succ j=>
     simp only[PC]at h k
     rw[jv r b hr i j a a' c z z' s s' h k hc kc]
section
variable {w0:World} {ρ:Pl} {w:World}
theorem gi{pr:Nat->Prop}:∀(l:List ak) (D:Nat->Prop) (H:ae),gq l->Rel ⟨pr,D⟩ w0 ρ H w->Rel ⟨pr,kn D (aB H.next l) fun _=>false⟩ w0 ρ (bT H l) w
 | [],D,H,_,R=>R.fewer (D:=kn D [] fun _=>false) fun d hd=>by
  rcases hd with hd | ⟨i,a,z,s,h,_⟩
  ·exact hd
  ·simp at h
 | o::r,D,H,hn,R=>by
  have hr:gq r:=fun x hx=>hn x (List.mem_cons_of_mem _ hx)
  rcases kf H.next o r with⟨y,s9,e,f⟩ | ⟨e,f⟩
  ·rw[e,f]
   have:=gi r _ _ hr (R.reserve (.cells y 0 false) rfl)
   refine Rel.fewer this fun d hd=>?_
   rcases hd with hd | ⟨i,a,z,s,h,k,_⟩
   ·exact .inl (.inl hd)
   ·cases i with
    | zero=>
     simp only[PA,sJ]at h
     subst h
     simp only[gT.claim.injEq]at k
     exact .inl (.inr k.1.symm)
    | succ i=>
     simp only[PC]at h
     exact .inr ⟨i,a,z,s,h,k,rfl⟩
  ·rw[e,f]
   have:=gi r _ _ hr R
   refine Rel.fewer this fun d hd=>?_
   rcases hd with hd | ⟨i,a,z,s,h,k,_⟩
   ·exact .inl hd
   ·cases i with
    | zero=>
     simp only[PA,sJ]at h
     subst h
     exact absurd k (hn o (List.mem_cons_self ..) d z s)
    | succ i=>
     simp only[PC]at h
     exact .inr ⟨i,a,z,s,h,k,rfl⟩
end
end Go.Abs
namespace Go.Abs
def oQ:List af->List Nat
 | []=>[]
 | x::r=>match gc x with
  | some b=>b::oQ r
  | none=>oQ r
def mI:gT->Bool
 | .store ..=>true
 | .hf (.fill ..) _=>true
 | _=>false
def qg:gT->Bool
 | .store ..=>true
 | .append ..=>true
 | .hf (.fill ..) _=>true
 | _=>false
def eP(T:Tr af)(o:gT)(v:af):List Nat:=match o with
 | .store _ a _=>oQ [ev T a]
 | .append _ _ s x=>oQ [ev T s,ev T x,v]
 | .hf (.fill ..) _=>oQ [v]
 | .load _ _ x=>oQ [ev T x]
 | _=>[]
theorem jc{x:af}{l:List af}{b:Nat}(h:x∈l)(hb:gc x=some b):b∈oQ l:=by
 induction l with
 | nil=>simp at h
 | cons y r ih=>
  simp only[oQ]
  rcases List.mem_cons.1 h with rfl | h
  ·rw[hb]; exact List.mem_cons_self
  ·split
   ·exact List.mem_cons_of_mem _ (ih h)
   ·exact ih h
theorem mE{l:List af}{b:Nat}(h:b∈oQ l):∃x∈l,gc x=some b:=by
 induction l with
 | nil=>simp[oQ]at h
 | cons y r ih=>
  simp only[oQ]at h
  split at h
  ·rename_i c hc
   rcases List.mem_cons.1 h with rfl | h
   ·exact⟨y,List.mem_cons_self,hc⟩
   ·obtain⟨x,h1,h2⟩:=ih h; exact⟨x,List.mem_cons_of_mem _ h1,h2⟩
  ·obtain⟨x,h1,h2⟩:=ih h; exact⟨x,List.mem_cons_of_mem _ h1,h2⟩
structure Fr(S:Nat->Prop)(H H1 H2 H3:ae):Prop where
 next:H3.next=H1.next
 same:∀x,S x->H3.get x=H1.get x
 rest:∀x,¬S x->H3.get x=H2.get x
structure AA(S:Nat->Prop)(H H1:ae):Prop where
 rest:∀x,¬S x->H1.get x=H.get x
theorem AA.refl(S:Nat->Prop)(H:ae):AA S H H:=⟨fun _ _=>rfl⟩
section
variable {S:Nat->Prop} {H H1 H2:ae}
theorem pS{a:Ad}{n:Nat}(e:H2.get a.b=H.get a.b):aT H2 a n=aT H a n:=by
 unfold aT; rw[e]
def Nt(a:Ad)(xs:List af):Option dz->Option dz
 | some (.cells l low false)=>bif Nat.ble low a.lim&&(Nat.beq a.lim l.length&&(Nat.ble (a.o+xs.length) a.lim&&xs.all af.one)) then
   some (.cells (l.take a.o++(xs++l.drop (a.o+xs.length))) a.lim false) else none
 | _=>none
def Gf(a:Ad)(p:Nat)(xs:List af):Option dz->Option dz
 | some (.cells l low false)=>bif Nat.ble low a.lim&&(Nat.beq a.lim l.length&&(Nat.ble p a.lim&&(Nat.ble a.o p&&(Nat.ble (a.lim+1) (p+xs.length)&&xs.all af.one)))) then
   some (.cells (l.take p++xs) (bif Nat.beq p a.lim then low else p+xs.length) false) else none
 | _=>none
theorem oe(H:ae)(a:Ad)(xs:List af):cP H a xs=(Nt a xs (H.get a.b)).map fun o=>H.set a.b o:=by
 unfold cP Nt
 cases H.get a.b with
 | none=>rfl
 | some o=>
  cases o with
  | cells l low ro=>
   cases ro with
   | true=>rfl
   | false=>
    try simp only
    cases (Nat.ble low a.lim&&(Nat.beq a.lim l.length&&(Nat.ble (a.o+xs.length) a.lim&&xs.all af.one))) <;> rfl
  | _=>rfl
theorem Bz(H:ae)(a:Ad)(p:Nat)(xs:List af):cM H a p xs=(Gf a p xs (H.get a.b)).map fun o=>H.set a.b o:=by
 unfold cM Gf
 cases H.get a.b with
 | none=>rfl
 | some o=>
  cases o with
  | cells l low ro=>
   cases ro with
   | true=>rfl
   | false=>
    try simp only
    cases (Nat.ble low a.lim&&(Nat.beq a.lim l.length&&(Nat.ble p a.lim&&(Nat.ble a.o p&&(Nat.ble (a.lim+1) (p+xs.length)&&xs.all af.one))))) <;> rfl
  | _=>rfl
def vA(S:Nat->Prop)(H:ae)(f:ae->Option (af×ae))(v:af)(H1:ae):Prop:=
 (∀H2,H2.next=H.next->(∀x,S x->H2.get x=H.get x)->∃H3,f H2=some (v,H3)/\Fr S H H1 H2 H3)/\AA S H H1
theorem qq{b:Nat}{o:dz}(hS:S b)(hn:H2.next=H.next)(hs:∀x,S x->H2.get x=H.get x):Fr S H (H.set b o) H2 (H2.set b o):=
 ⟨hn,fun x hx=>by rw[ae.get_set,ae.get_set,hs x hx],fun x hx=>by rw[ae.get_set,if_neg]; rintro rfl; exact hx hS⟩
theorem jZ{b:Nat}{o:dz}(hS:S b):AA S H (H.set b o):=⟨fun x hx=>by rw[ae.get_set,if_neg]; rintro rfl; exact hx hS⟩
theorem BC{o:dz}(hn:H2.next=H.next)(hs:∀x,S x->H2.get x=H.get x)(hS:S H.next):Fr S H (H.push o) H2 (H2.push o):=
 ⟨by show H2.next+1=H.next+1; omega,fun x hx=>by rw[ae.get_push,ae.get_push,hn,hs x hx],fun x hx=>by rw[ae.get_push,if_neg]; rw[hn]; rintro rfl; exact hx hS⟩
theorem te{o:dz}(hS:S H.next):AA S H (H.push o):=⟨fun x hx=>by rw[ae.get_push,if_neg]; rintro rfl; exact hx hS⟩
theorem MO(hn:H2.next=H.next)(hs:∀x,S x->H2.get x=H.get x):Fr S H H H2 H2:=⟨hn,hs,fun _ _=>rfl⟩
theorem v8{α β:Type}{o:Option α}{f:α->β}{y:β}(h:o.map f=some y):∃x,o=some x/\f x=y:=by
 cases o with
 | none=>simp at h
 | some x=>exact⟨x,rfl,by simpa using h⟩
theorem vY{n:Nat}{a x:af}(hS:∀b,gc a=some b->S b)(h:bD n H a x=some H1) :
  vA S H (fun H=>match bD n H a x with | some H'=>some (aN,H') | none=>none) aN H1/\H1.next=H.next:=by
 unfold bD at h
 split at h <;> first | (simp at h; done) | skip
 rename_i a
 cases hb:Nat.beq x.cells.length n with
 | false=>rw[hb]at h; simp at h
 | true=>
  rw[hb,cond_true,oe]at h
  obtain⟨o,ho,rfl⟩:=v8 h
  have hs':S a.b:=hS _ rfl
  refine⟨⟨fun H2 hn hs=>⟨H2.set a.b o,?_,qq hs' hn hs⟩,jZ hs'⟩,rfl⟩
  simp only[bD,hb,cond_true,oe,hs _ hs',ho,Option.map_some]
theorem CE{n:Nat}{x:af}(hS:∀b,gc x=some b->S b)(hs:∀x,S x->H2.get x=H.get x):jf n H2 x=jf n H x:=by
 unfold jf
 split <;> first | rfl | skip
 rename_i a m r
 rw[pS (hs _ (hS _ rfl))]
theorem vr{sz by_:Nat}{s x v:af}(h1:∀b,gc s=some b->S b)(h2:∀b,gc x=some b->S b)(h3:∀b,gc v=some b->S b)(h:bE sz by_ H s x=some (v,H1)) :
  vA S H (fun H=>bE sz by_ H s x) v H1:=by
 have key:∀H2:ae,H2.next=H.next->(∀x,S x->H2.get x=H.get x)->(∃H3,bE sz by_ H2 s x=some (v,H3)/\Fr S H H1 H2 H3)/\AA S H H1:=by
  intro H2 hn hs
  have hsrc:=CE (n:=sz) h2 hs
  unfold bE at h ⊢
  rw[hsrc]
  split at h
  ·simp at h
  ·rename_i n xs hx
   try simp only
   cases hz:Nat.beq n 0 with
   | true=>
    rw[hz,cond_true]at h
    simp only[cond_true]
    split at h
    ·simp only[sJ,pJ]at h
     obtain⟨rfl,rfl⟩:=h
     exact⟨⟨_,rfl,MO hn hs⟩,AA.refl _ _⟩
    ·simp at h
   | false=>
    rw[hz,cond_false]at h
    simp only[cond_false]
    split at h <;> first | (simp at h; done) | skip
    rename_i so len room
    try simp only
    cases hc:(Nat.blt 0 sz&&(Nat.ble ((2*(len+n)+0)*by_) 281474976710656&&(Nat.ble (len+n) 9223372036854775807&&(Nat.beq xs.length (n*sz)&&xs.all af.one)))) with
    | false=>rw[hc]at h; simp at h
    | true=>
     rw[hc,cond_true]at h
     simp only[cond_true]
     split at h
     ·simp only[sJ,pJ]at h
      obtain⟨rfl,rfl⟩:=h
      have hb:S H.next:=h3 _ rfl
      refine⟨⟨_,?_,BC hn hs hb⟩,te hb⟩
      simp only[hn]
     ·rename_i a c
      have ha:S a.b:=h1 _ rfl
      try simp only
      cases hk:Nat.ble (len+n) c with
      | true=>
       rw[hk,cond_true,oe]at h
       simp only[cond_true,oe,hs _ ha]
       cases ho:Nt ⟨a.b,a.lim,a.o+len*sz⟩ xs (H.get a.b) with
       | none=>rw[ho]at h; simp at h
       | some o=>
        rw[ho]at h
        simp only[Option.map_some,sJ,pJ]at h
        obtain⟨rfl,rfl⟩:=h
        exact⟨⟨_,by simp only[Option.map_some],qq ha hn hs⟩,jZ ha⟩
      | false=>
       rw[hk,cond_false]at h
       simp only[cond_false,pS (hs _ ha)]
       split at h
       ·rename_i old ho
        simp only[sJ,pJ]at h
        obtain⟨rfl,rfl⟩:=h
        have hb:S H.next:=h3 _ rfl
        refine⟨⟨_,?_,BC hn hs hb⟩,te hb⟩
        simp only[hn]
       ·simp at h
     ·rename_i a z
      have ha:S a.b:=h1 _ rfl
      try simp only
      cases hk:Nat.beq z sz with
      | false=>rw[hk]at h; simp at h
      | true=>
       rw[hk,cond_true]at h
       simp only[cond_true]
       cases hk2:Nat.ble (a.o+(len+n)*sz) a.lim with
       | true=>
        rw[hk2,cond_true,oe]at h
        simp only[cond_true,oe,hs _ ha]
        cases ho:Nt ⟨a.b,a.lim,a.o+len*sz⟩ xs (H.get a.b) with
        | none=>rw[ho]at h; simp at h
        | some o=>
         rw[ho]at h
         simp only[Option.map_some,sJ,pJ]at h
         obtain⟨rfl,rfl⟩:=h
         exact⟨⟨_,by simp only[Option.map_some],qq ha hn hs⟩,jZ ha⟩
       | false=>
        rw[hk2,cond_false,Bz]at h
        simp only[cond_false,Bz,hs _ ha]
        cases ho:Gf a (a.o+len*sz) xs (H.get a.b) with
        | none=>rw[ho]at h; simp at h
        | some o=>
         rw[ho]at h
         simp only[Option.map_some,sJ,pJ]at h
         obtain⟨rfl,rfl⟩:=h
         exact⟨⟨_,by simp only[Option.map_some],qq ha hn hs⟩,jZ ha⟩
 exact⟨fun H2 hn hs=>(key H2 hn hs).1,(key H rfl fun _ _=>rfl).2⟩
theorem zR{b len:Nat}{z:List af}{ofs:List (Nat×Nat)}{l:List af}{v:af}(h3:∀c,gc v=some c->S c)(h:fY b len z ofs H l=some (v,H1)) :
  vA S H (fun H=>fY b len z ofs H l) v H1/\H1.next=H.next/\gc v=some b:=by
 unfold fY at h
 split at h <;> first | (simp at h; done) | skip
 rename_i c hg
 split at h <;> first | (simp at h; done) | skip
 rename_i xs hx
 simp only[sJ,pJ]at h
 obtain⟨rfl,rfl⟩:=h
 have hb:S b:=h3 _ rfl
 refine⟨⟨fun H2 hn hs=>⟨H2.set b (.cells xs 0 false),?_,qq hb hn hs⟩,jZ hb⟩,rfl,rfl⟩
 simp only[fY,hs _ hb,hg,hx]
theorem zD{agg:Bool}{n:Nat}{x:af}(hS:∀b,gc x=some b->H2.get b=H.get b):bi agg n H2 x=bi agg n H x:=by
 unfold bi
 split <;> first | rfl | skip
 rename_i a
 rw[pS (hS _ rfl)]
end
section
variable {tb:FuncId->Bool} {call:FuncId->List af->ae->Option (af×ae)} {T:Tr af} {H H1:ae}
theorem nk{o:ak}{v:af}(hg:o.guard=none)(ht:qg o.op=true)(h:bw tb call o T H=some (v,H1)) :
  vA (fun x=>x∈eP T o.op v) H (fun H=>bw tb call o T H) v H1/\(mI o.op=true->H1.next=H.next/\∃b,eP T o.op v=[b]):=by
 obtain⟨d,op,g⟩:=o
 simp only at hg
 subst hg
 unfold bw at h ⊢
 simp only[fR,cond_true]at h ⊢
 cases op <;> simp only[qg,PD]at ht
 case store n a x=>
  simp only[bG]at h ⊢
  cases hs:bD n H (ev T a) (ev T x) with
  | none=>rw[hs]at h; simp at h
  | some H'=>
   rw[hs]at h
   simp only[sJ,pJ]at h
   obtain⟨rfl,rfl⟩:=h
   obtain⟨q,qn⟩:=vY (S:=fun y=>y∈eP T (.store n a x) aN) (fun b hb=>jc (List.mem_singleton.2 rfl) hb) hs
   refine⟨⟨fun H2 hn hs=>?_,q.2⟩,fun _=>⟨qn,?_⟩⟩
   ·obtain⟨H3,e,f⟩:=q.1 H2 hn hs
    refine⟨H3,?_,f⟩
    simp only at e ⊢
    cases h4:bD n H2 (ev T a) (ev T x) with
    | none=>rw[h4]at e; simp at e
    | some H4=>
     rw[h4]at e
     simp only[sJ,pJ,true_and]at e
     subst e
     rfl
   ·unfold bD at hs
    split at hs <;> first | (simp at hs; done) | skip
    rename_i a' ha'
    exact⟨a'.b,by simp only[eP,ha']; rfl⟩
 case append n b s x=>
  simp only[bG,vh]at h ⊢
  cases hs:bE n b H (ev T s) (ev T x) with
  | none=>rw[hs]at h; simp at h
  | some p=>
   obtain⟨u,H'⟩:=p
   rw[hs]at h
   simp only[sJ,pJ]at h
   obtain⟨rfl,rfl⟩:=h
   have q:=vr (S:=fun y=>y∈eP T (.append n b s x) u) (fun b hb=>jc (by simp) hb) (fun b hb=>jc (x:=ev T x) (by simp) hb) (fun b hb=>jc (by simp) hb) hs
   refine⟨⟨fun H2 hn hs=>?_,q.2⟩,fun hm=>by simp[mI]at hm⟩
   obtain⟨H3,e,f⟩:=q.1 H2 hn hs
   exact⟨H3,by simp only[e],f⟩
 case hf f l=>
  cases f <;> simp only[PD]at ht
  rename_i b len z ofs
  simp only[bG,vh,mY]at h ⊢
  cases hs:fY b len z ofs H (eX T l) with
  | none=>rw[hs]at h; simp at h
  | some p=>
   obtain⟨u,H'⟩:=p
   rw[hs]at h
   simp only[sJ,pJ]at h
   obtain⟨rfl,rfl⟩:=h
   obtain⟨q,qn,qb⟩:=zR (S:=fun y=>y∈eP T (.hf (.fill b len z ofs) l) u) (fun b hb=>jc (by simp) hb) hs
   refine⟨⟨fun H2 hn hs=>?_,q.2⟩,fun _=>⟨qn,b,by simp only[eP,oQ,qb]⟩⟩
   obtain⟨H3,e,f⟩:=q.1 H2 hn hs
   exact⟨H3,by simp only[e],f⟩
theorem CR{o:ak}{v:af}(hg:o.guard=none)(ht:mI o.op=true)(h:bw tb call o T H=some (v,H1)){H2:ae}(hs:∀x∈eP T o.op v,H2.get x=H.get x) :
  ∃H3,bw tb call o T H2=some (v,H3)/\H3.next=H2.next/\(∀x∈eP T o.op v,H3.get x=H1.get x)/\∀x,x∉eP T o.op v->H3.get x=H2.get x:=by
 obtain⟨d,op,g⟩:=o
 simp only at hg
 subst hg
 unfold bw at h ⊢
 simp only[fR,cond_true]at h ⊢
 cases op <;> simp only[mI,PD]at ht
 case store n a x=>
  simp only[bG]at h ⊢
  cases hst:bD n H (ev T a) (ev T x) with
  | none=>rw[hst]at h; simp at h
  | some H'=>
   rw[hst]at h
   simp only[sJ,pJ]at h
   obtain⟨rfl,rfl⟩:=h
   unfold bD at hst
   split at hst <;> first | (simp at hst; done) | skip
   rename_i a' ha'
   have e0:eP T (.store n a x) aN=[a'.b]:=by simp only[eP,ha']; rfl
   rw[e0]at hs ⊢
   have hb':=hs a'.b (List.mem_singleton.2 rfl)
   cases hb:Nat.beq (ev T x).cells.length n with
   | false=>rw[hb]at hst; simp at hst
   | true=>
    rw[hb,cond_true,oe]at hst
    obtain⟨o,ho,rfl⟩:=v8 hst
    refine⟨H2.set a'.b o,?_,rfl,fun y hy=>?_,fun y hy=>?_⟩
    ·simp only[ha',bD,hb,cond_true,oe,hb',ho,Option.map_some]
    ·obtain rfl:=List.mem_singleton.1 hy
     rw[ae.get_set,ae.get_set,if_pos rfl,if_pos rfl]
    ·rw[ae.get_set,if_neg]
     rintro rfl
     exact hy (List.mem_singleton.2 rfl)
 case hf f l=>
  cases f <;> simp only[PD]at ht
  rename_i b len z ofs
  simp only[bG,vh,mY]at h ⊢
  cases hst:fY b len z ofs H (eX T l) with
  | none=>rw[hst]at h; simp at h
  | some p=>
   obtain⟨u,H'⟩:=p
   rw[hst]at h
   simp only[sJ,pJ]at h
   obtain⟨rfl,rfl⟩:=h
   unfold fY at hst
   split at hst <;> first | (simp at hst; done) | skip
   rename_i c hgb
   split at hst <;> first | (simp at hst; done) | skip
   rename_i xs hx
   simp only[sJ,pJ]at hst
   obtain⟨rfl,rfl⟩:=hst
   have e0:eP T (.hf (.fill b len z ofs) l) (.slice (some ⟨b,xs.length,0⟩) len (.known len))=[b]:=rfl
   rw[e0]at hs ⊢
   have hb':=hs b (List.mem_singleton.2 rfl)
   refine⟨H2.set b (.cells xs 0 false),?_,rfl,fun y hy=>?_,fun y hy=>?_⟩
   ·simp only[fY,hb',hgb,hx]
   ·obtain rfl:=List.mem_singleton.1 hy
    rw[ae.get_set,ae.get_set,if_pos rfl,if_pos rfl]
   ·rw[ae.get_set,if_neg]
    rintro rfl
    exact hy (List.mem_singleton.2 rfl)
theorem EK{o:ak}{v:af}(hg:o.guard=none)(ht:qg o.op=true)(h:bw tb call o T H=some (v,H1)){x:Nat}(hx:x∉eP T o.op v):H1.get x=H.get x:=
 (nk hg ht h).1.2.rest x hx
theorem uJ{o:gT}(h:mI o=true):qg o=true:=by
 cases o <;> simp only[mI,PD]at h <;> first | rfl | skip
 rename_i f l
 cases f <;> simp only[PD]at h <;> rfl
end
theorem Rel.ext_heap{Prot:Gh}{w0:World}{ρ:Pl}{H H':ae}{w:World}(R:Rel Prot w0 ρ H w)(hn:H'.next=H.next)(h:∀x,H'.get x=H.get x):Rel Prot w0 ρ H' w:=
 ⟨R.os,R.tape,R.output,R.size,R.prot,fun b l L q=>by rw[hn]; exact R.dom b l L q,fun b l L q=>by rw[h]; exact R.obj b l L q,
  fun b l L x q hx=>R.free b l L x q (by rw[<- h]; exact hx),fun b l L b' l' L' x q q' e hx=>R.inj b l L b' l' L' x q q' e (by rw[<- h]; exact hx),
  fun b q=>by rw[hn]; exact R.dead b q,fun b l low hx=>R.glob b l low (by rw[<- h]; exact hx)⟩
end Go.Abs
namespace Go.Abs
def kC(ms:List Nat)(i j:Nat)(a b:ak):Bool:=iF ms j i||(uZ a b&&(!(aD a.op&&aD b.op)||(mI b.op&&(qg a.op&&(a.guard.isNone&&b.guard.isNone)))))
def gE(l:List ak)(ms:List Nat):Bool:=
 (List.range l.length).all fun j=>match l[j]? with
  | some b=>(List.range j).all fun i=>match l[i]? with
   | some a=>kC ms i j a b
   | none=>true
  | none=>true
def eb(l:List ak)(ms:List Nat)(i j:Nat):Bool:=match l[i]?,l[j]? with
 | some a,some b=>Nat.blt i j&&(aD a.op&&(aD b.op&&!iF ms j i))
 | _,_=>false
def mz(l:List ak)(ms:List Nat):Bool:=
 (List.range l.length).all fun j=>(List.range j).all fun i=>!eb l ms i j||(List.range l.length).all fun k=>match l[k]? with
  | some o=>!cZ o.op||(!iF ms k j||iF ms k i)
  | none=>true
def bS(l:List ak)(ss:List (af×ae))(T0:Tr af)(q:Nat):List Nat:=match l[q]?,ss[q]? with
 | some o,some (v,_)=>eP (bn (fun i=>Nat.blt i (0+q)) 0 l ss T0) o.op v
 | _,_=>[]
section
variable {tb:FuncId->Bool} {call:FuncId->List af->ae->Option (af×ae)}
theorem nF{l:List ak}{ms:List Nat}{i j:Nat}{a b:ak}(hi:l[i]?=some a)(hj:l[j]?=some b)(h:i<j)(ha:aD a.op=true)(hb:aD b.op=true)(hn:iF ms j i=false):eb l ms i j=true:=by
 unfold eb
 rw[hi,hj]
 have:Nat.blt i j=true:=Pt h
 simp only[ha,hb,hn,this,Bool.not_false,Bool.and_self]
def dr(l:List ak)(m:Nat->Bool)(q:Nat):Prop:=m q=true/\∃o,l[q]?=some o/\aD o.op=true
structure rT(l:List ak)(ss:List (af×ae))(T0:Tr af)(H0:ae)(m:Nat->Bool)(p:Nat)(Hx:ae):Prop where
 next:Hx.next=(dK H0 ss p).next
 base:∀x,(∀q,p<=q->dr l m q->x∉bS l ss T0 q)->Hx.get x=(dK H0 ss p).get x
 late:∀q x,p<=q->dr l m q->x∈bS l ss T0 q->(∀q',q<q'->dr l m q'->x∉bS l ss T0 q')->Hx.get x=(dK H0 ss (q+1)).get x
theorem qt{P:Nat->Prop}{n q:Nat}(hq:P q)(hn:∀q,P q->q<n):∃q,P q/\∀q',q<q'->¬P q':=by
 induction hk:n-q using Nat.strongRecOn generalizing q with
 | _ k ih=>
  rcases Classical.em (∃q',q<q'/\P q') with⟨q',h1,h2⟩ | h
  ·have:=hn q' h2
   exact ih (n-q') om h2 rfl
  ·exact⟨q,hq,fun q' h1 h2=>h ⟨q',h1,h2⟩⟩
theorem v6{H0:ae}{ss:List (af×ae)}{x:Nat}:∀(d a:Nat),(∀c,a<=c->c<a+d->(dK H0 ss (c+1)).get x=(dK H0 ss c).get x)->(dK H0 ss (a+d)).get x=(dK H0 ss a).get x:=by
 intro d
 induction d with
 | zero=>intro a _; rfl
 | succ d ih=>
  intro a h
  rw[show a+(d+1)=a+d+1 by omega,h (a+d) om om]
  exact ih a fun c h1 h2=>h c h1 om
theorem CF{H0:ae}{ss:List (af×ae)}:∀(d a:Nat),(∀c,a<=c->c<a+d->(dK H0 ss (c+1)).next=(dK H0 ss c).next)->(dK H0 ss (a+d)).next=(dK H0 ss a).next:=by
 intro d
 induction d with
 | zero=>intro a _; rfl
 | succ d ih=>
  intro a h
  rw[show a+(d+1)=a+d+1 by omega,h (a+d) om om]
  exact ih a fun c h1 h2=>h c h1 om
variable {l:List ak} {ms:List Nat} {T0:Tr af} {H0:ae} {ss:List (af×ae)}
theorem uO(htr:cp tb call l T0 H0=some ss){c:Nat}{o:ak}(hc:l[c]?=some o)(hg:o.guard=none)(ht:qg o.op=true){x:Nat}(hx:x∉bS l ss T0 c):(dK H0 ss (c+1)).get x=(dK H0 ss c).get x:=by
 obtain⟨_,hat⟩:=fO l T0 H0 ss 0 htr
 obtain⟨v,H1,hs,hst⟩:=hat c o hc
 simp only[bS,hc,hs]at hx
 have:=EK hg ht hst hx
 simpa only [dK,hs] using this
theorem KN(htr:cp tb call l T0 H0=some ss){c:Nat}{o:ak}(hc:l[c]?=some o)(hg:o.guard=none)(ht:mI o.op=true):(dK H0 ss (c+1)).next=(dK H0 ss c).next:=by
 obtain⟨_,hat⟩:=fO l T0 H0 ss 0 htr
 obtain⟨v,H1,hs,hst⟩:=hat c o hc
 have:=((nk hg (uJ ht) hst).2 ht).1
 simpa only [dK,hs] using this
theorem uC(htr:cp tb call l T0 H0=some ss){c:Nat}{o:ak}(hc:l[c]?=some o)(hn:aD o.op=false):dK H0 ss (c+1)=dK H0 ss c:=
 cD htr 1 c (by have:=(Ps.1 hc).1; omega) fun c' o' h1 h2 h3=>by
  obtain rfl:c'=c:=om
  rw[hc]at h3; simp only[sJ]at h3; subst h3; exact hn
theorem eD(hp:gE l ms=true){i j:Nat}(h:eb l ms i j=true):∃a b,l[i]?=some a/\l[j]?=some b/\i<j/\mI b.op=true/\qg a.op=true/\a.guard=none/\b.guard=none:=by
 unfold eb at h
 split at h
 ·rename_i a b hi hj
  simp only[Pu,Bool.not_eq_true']at h
  obtain⟨h1,h2,h3,h4⟩:=h
  have hij:i<j:=Px h1
  unfold gE at hp
  rw[List.all_eq_true]at hp
  have q:=hp j (List.mem_range.2 (Ps.1 hj).1)
  rw[hj]at q
  simp only at q
  rw[List.all_eq_true]at q
  have q2:=q i (List.mem_range.2 hij)
  rw[hi]at q2
  simp only[kC,h4,h2,h3,Bool.false_or,Bool.and_self,Bool.not_true,Pu,Option.isNone_iff_eq_none]at q2
  exact⟨a,b,hi,hj,hij,q2.2.1,q2.2.2.1,q2.2.2.2.1,q2.2.2.2.2⟩
 ·simp at h
def Md(l:List ak)(ms:List Nat)(m:Nat->Bool):Prop:=∀j,j<l.length->m j=true->∀i,i<j->iF ms j i=true->m i=true
section
variable {m:Nat->Bool} (hd:Md l ms m)
include hd
theorem dp{c q:Nat}{o:ak}(hc:l[c]?=some o)(hcc:aD o.op=true)(hcm:m c=false)(hcq:c<q)(he:dr l m q):eb l ms c q=true:=by
 obtain⟨h1,b,h2,h3⟩:=he
 refine nF hc h2 hcq hcc h3 ?_
 cases hb:iF ms q c with
 | false=>rfl
 | true=>
  have:=hd q (Ps.1 h2).1 h1 c hcq hb
  rw[hcm]at this; simp at this
end
def dl(m:Nat->Bool)(i:Nat):Nat->Bool:=fun j=>if j=i then true else m j
theorem fC{m:Nat->Bool}{i q:Nat}:dr l (dl m i) q↔(dr l m q∨(q=i/\∃o,l[q]?=some o/\aD o.op=true)):=by
 unfold dr dl
 constructor
 ·rintro ⟨h1,h2⟩
  by_cases e:q=i
  ·exact .inr ⟨e,h2⟩
  ·rw[if_neg e]at h1; exact .inl ⟨h1,h2⟩
 ·rintro (⟨h1,h2⟩ | ⟨e,h2⟩)
  ·exact⟨by split <;> simp_all,h2⟩
  ·exact⟨by rw[if_pos e],h2⟩
section
variable (htr:cp tb call l T0 H0=some ss) (hp:gE l ms=true) (hap:∀i j,eb l ms i j=true->∀x∈bS l ss T0 j,x∉bS l ss T0 i)
 {m:Nat->Bool} (hd:Md l ms m) {p:Nat}
include htr hp hap hd
set_option linter.unusedSectionVars false in
theorem xj{q:Nat}(h:dr l m q):q<l.length:=by
 obtain⟨_,o,h,_⟩:=h; exact (Ps.1 h).1
theorem Iz{op:ak}(hlp:l[p]?=some op)(hcp:aD op.op=true)(hmp:m p=false){i:Nat}{o:ak}(hi:l[i]?=some o)(hc:aD o.op=true)(hmi:m i=false)
  (hready:∀c,c<i->iF ms i c=true->m c=true) (hpi:p<i) {Hx:ae} (R:rT l ss T0 H0 m p Hx) {v:af} {H1:ae} (hs:ss[i]?=some (v,H1))
  (hst:bw tb call o (bn (fun j=>Nat.blt j (0+i)) 0 l ss T0) (dK H0 ss i)=some (v,H1)) :
  ∃H3,bw tb call o (bn (fun j=>Nat.blt j (0+i)) 0 l ss T0) Hx=some (v,H3)/\rT l ss T0 H0 (dl m i) p H3:=by
 have hlo:∀c oc,l[c]?=some oc->aD oc.op=true->m c=false->c<i->eb l ms c i=true:=by
  intro c oc h1 h2 h3 h4
  refine nF h1 hi h4 h2 hc ?_
  cases hb:iF ms i c with
  | false=>rfl
  | true=>have:=hready c h4 hb; rw[h3]at this; simp at this
 obtain⟨_,b,_,hb,_,hmv,_,_,hgb⟩:=eD hp (hlo p op hlp hcp hmp hpi)
 rw[hi]at hb
 obtain rfl:=Option.some.inj hb
 have htc:bS l ss T0 i=eP (bn (fun j=>Nat.blt j (0+i)) 0 l ss T0) o.op v:=by simp only[bS,hi,hs]
 have hspan:∀x∈bS l ss T0 i,∀a,p<=a->a<=i->(∀c,a<=c->c<i->dr l m c->x∉bS l ss T0 c)->(dK H0 ss i).get x=(dK H0 ss a).get x:=by
  intro x hx a ha hai hno
  have:=v6 (H0:=H0) (ss:=ss) (x:=x) (i-a) a fun c h1 h2=>by
   have hcl:c<l.length:=by have:=(Ps.1 hi).1; omega
   have hlc:l[c]?=some l[c]:=Pr hcl
   cases hcc:aD l[c].op with
   | false=>rw[uC htr hlc hcc]
   | true=>
    cases hcm:m c with
    | true=>
     have he:dr l m c:=⟨hcm,_,hlc,hcc⟩
     have hpc:p<c:=by
      rcases Nat.lt_or_ge p c with h | h
      ·exact h
      ·obtain rfl:c=p:=om
       rw[hmp]at hcm; simp at hcm
     obtain⟨_,b,_,hb,_,hmv2,_,_,hgb2⟩:=eD hp (dp hd hlp hcp hmp hpc he)
     rw[hlc]at hb
     obtain rfl:=Option.some.inj hb
     exact uO htr hlc hgb2 (uJ hmv2) (hno c h1 om he)
    | false=>
     have hl:=hlo c _ hlc hcc hcm om
     obtain⟨a',_,ha',_,_,_,htc',hga,_⟩:=eD hp hl
     rw[hlc]at ha'
     obtain rfl:=Option.some.inj ha'
     exact uO htr hlc hga htc' (hap c i hl x hx)
  rwa [show a+(i-a)=i by omega]at this
 have hget:∀x∈bS l ss T0 i,Hx.get x=(dK H0 ss i).get x:=by
  intro x hx
  rcases Classical.em (∃q,p<=q/\dr l m q/\x∈bS l ss T0 q) with⟨q,hq⟩ | hno
  ·obtain⟨q,⟨q1,q2,q3⟩,qm⟩:=qt (P:=fun q=>p<=q/\dr l m q/\x∈bS l ss T0 q) (n:=l.length) hq fun q h=>xj htr hp hap hd h.2.1
   have hqi:q<i:=by
    rcases Nat.lt_trichotomy q i with h | h | h
    ·exact h
    ·subst h; rw[q2.1]at hmi; simp at hmi
    ·exact absurd hx (hap i q (dp hd hi hc hmi h q2) x q3)
   rw[R.late q x q1 q2 q3 fun q' h1 h2 h3=>qm q' h1 ⟨om,h2,h3⟩]
   exact (hspan x hx (q+1) om om fun c h1 h2 h3 h4=>qm c om ⟨om,h3,h4⟩).symm
  ·rw[R.base x fun q h1 h2 h3=>hno ⟨q,h1,h2,h3⟩]
   exact (hspan x hx p rL om fun c h1 h2 h3 h4=>hno ⟨c,h1,h3,h4⟩).symm
 rw[htc]at hget
 obtain⟨H3,e1,e2,e3,e4⟩:=CR hgb hmv hst hget
 rw[<- htc]at e3 e4
 have hi1:dK H0 ss (i+1)=H1:=by simp only[dK,hs]
 refine⟨H3,e1,?_,?_,?_⟩
 ·rw[e2]; exact R.next
 ·intro x hx
  have hxi:=hx i om (fC.2 (.inr ⟨rfl,o,hi,hc⟩))
  rw[e4 x hxi]
  exact R.base x fun q h1 h2=>hx q h1 (fC.2 (.inl h2))
 ·intro q x h1 h2 h3 h4
  rcases fC.1 h2 with h2 | ⟨rfl,_⟩
  ·have hxi:x∉bS l ss T0 i:=by
    rcases Nat.lt_trichotomy q i with h | h | h
    ·exact h4 i h (fC.2 (.inr ⟨rfl,o,hi,hc⟩))
    ·have h9:=h2.1; rw[h,hmi]at h9; simp at h9
    ·exact hap i q (dp hd hi hc hmi h h2) x h3
   rw[e4 x hxi]
   exact R.late q x h1 h2 h3 fun q' a b=>h4 q' a (fC.2 (.inl b))
  ·rw[e3 x h3,hi1]
theorem Ix{o:ak}(hi:l[p]?=some o)(hc:aD o.op=true)(hmi:m p=false){p':Nat}(hpp:p<p')(hpl:p'<=l.length)
  (hdone:∀c oc,p<c->c<p'->l[c]?=some oc->aD oc.op=true->m c=true) {Hx:ae} (R:rT l ss T0 H0 m p Hx) {v:af} {H1:ae} (hs:ss[p]?=some (v,H1))
  (hst:bw tb call o (bn (fun j=>Nat.blt j (0+p)) 0 l ss T0) (dK H0 ss p)=some (v,H1)) :
  ∃Hy H3,Hy.next=Hx.next/\(∀x,Hy.get x=Hx.get x)/\bw tb call o (bn (fun j=>Nat.blt j (0+p)) 0 l ss T0) Hy=some (v,H3)/\rT l ss T0 H0 (dl m p) p' H3:=by
 have hi1:dK H0 ss (p+1)=H1:=by simp only[dK,hs]
 have hE:∀q,p'<=q->(dr l (dl m p) q↔dr l m q):=fun q hq=>by
  rw[fC]
  constructor
  ·rintro (h | ⟨rfl,_⟩)
   ·exact h
   ·omega
  ·exact .inl
 have hspan:∀x a,p<a->a<=p'->(∀c,a<=c->c<p'->dr l m c->x∉bS l ss T0 c)->(dK H0 ss p').get x=(dK H0 ss a).get x:=by
  intro x a ha hap' hno
  have:=v6 (H0:=H0) (ss:=ss) (x:=x) (p'-a) a fun c h1 h2=>by
   have hcl:c<l.length:=om
   have hlc:l[c]?=some l[c]:=Pr hcl
   cases hcc:aD l[c].op with
   | false=>rw[uC htr hlc hcc]
   | true=>
    have he:dr l m c:=⟨hdone c _ om om hlc hcc,_,hlc,hcc⟩
    obtain⟨_,b,_,hb,_,hmv2,_,_,hgb2⟩:=eD hp (dp hd hi hc hmi om he)
    rw[hlc]at hb
    obtain rfl:=Option.some.inj hb
    exact uO htr hlc hgb2 (uJ hmv2) (hno c h1 om he)
  rwa [show a+(p'-a)=p' by omega]at this
 have hnx:(dK H0 ss p').next=(dK H0 ss (p+1)).next:=by
  have:=CF (H0:=H0) (ss:=ss) (p'-(p+1)) (p+1) fun c h1 h2=>by
   have hcl:c<l.length:=om
   have hlc:l[c]?=some l[c]:=Pr hcl
   cases hcc:aD l[c].op with
   | false=>rw[uC htr hlc hcc]
   | true=>
    have he:dr l m c:=⟨hdone c _ om om hlc hcc,_,hlc,hcc⟩
    obtain⟨_,b,_,hb,_,hmv2,_,_,hgb2⟩:=eD hp (dp hd hi hc hmi om he)
    rw[hlc]at hb
    obtain rfl:=Option.some.inj hb
    exact KN htr hlc hgb2 hmv2
  rwa [show p+1+(p'-(p+1))=p' by omega]at this
 have hne:∀q,p<=q->dr l m q->p<q:=fun q h1 h2=>by
  rcases Nat.lt_or_ge p q with h | h
  ·exact h
  ·obtain rfl:q=p:=om
   rw[h2.1]at hmi; simp at hmi
 rcases Classical.em (∃q,p<=q/\dr l m q) with⟨q0,hq0,he0⟩ | hno
 ·-- some are done early
  obtain⟨a,_,ha,_,_,_,htc,hga,_⟩:=eD hp (dp hd hi hc hmi (hne q0 hq0 he0) he0)
  rw[hi]at ha
  obtain rfl:=Option.some.inj ha
  have htp:bS l ss T0 p=eP (bn (fun j=>Nat.blt j (0+p)) 0 l ss T0) o.op v:=by simp only[bS,hi,hs]
  have hap':∀q,p<=q->dr l m q->∀x∈bS l ss T0 q,x∉bS l ss T0 p:=fun q h1 h2=>hap p q (dp hd hi hc hmi (hne q h1 h2) h2)
  obtain⟨H3,e1,e2⟩:=(nk hga htc hst).1.1 Hx R.next fun x hx=>R.base x fun q h1 h2 h3=>hap' q h1 h2 x h3 (by rw[htp]; exact hx)
  rw[<- htp]at e2
  have hkeep:∀x,x∉bS l ss T0 p->(dK H0 ss (p+1)).get x=(dK H0 ss p).get x:=fun x hx=>uO htr hi hga htc hx
  refine⟨Hx,H3,rfl,fun _=>rfl,e1,?_,?_,?_⟩
  ·rw[e2.next,hnx,hi1]
  ·intro x hx
   have hx':∀q,p'<=q->dr l m q->x∉bS l ss T0 q:=fun q h1 h2=>hx q h1 ((hE q h1).2 h2)
   rcases Classical.em (∃q,p<q/\dr l m q/\x∈bS l ss T0 q) with⟨q,hq⟩ | hnone
   ·obtain⟨q,⟨q1,q2,q3⟩,qm⟩:=qt (P:=fun q=>p<q/\dr l m q/\x∈bS l ss T0 q) (n:=l.length) hq fun q h=>xj htr hp hap hd h.2.1
    have hqp:q<p':=by
     rcases Nat.lt_or_ge q p' with h | h
     ·exact h
     ·exact absurd q3 (hx' q h q2)
    rw[e2.rest x (hap' q om q2 x q3),R.late q x om q2 q3 fun q' h1 h2 h3=>qm q' h1 ⟨om,h2,h3⟩]
    exact (hspan x (q+1) om om fun c h1 h2 h3 h4=>qm c om ⟨om,h3,h4⟩).symm
   ·rw[hspan x (p+1) om om fun c h1 h2 h3 h4=>hnone ⟨c,om,h3,h4⟩]
    rcases Classical.em (x∈bS l ss T0 p) with hxp | hxp
    ·rw[e2.same x hxp,hi1]
    ·rw[e2.rest x hxp,hkeep x hxp]
     exact R.base x fun q h1 h2 h3=>hnone ⟨q,hne q h1 h2,h2,h3⟩
  ·intro q x h1 h2 h3 h4
   have h2':=(hE q h1).1 h2
   rw[e2.rest x (hap' q om h2' x h3)]
   exact R.late q x om h2' h3 fun q' a b=>h4 q' a ((hE q' om).2 b)
 ·-- none
  have hh:dK H0 ss p'=H1:=by
   rw[<- hi1]
   have:=cD htr (p'-(p+1)) (p+1) om fun c oc h1 h2 h3=>by
    cases hcc:aD oc.op with
    | false=>rfl
    | true=>exact absurd ⟨c,om,hdone c oc om om h3 hcc,oc,h3,hcc⟩ hno
   rwa [show p+1+(p'-(p+1))=p' by omega]at this
  refine⟨dK H0 ss p,H1,R.next.symm,fun x=>(R.base x fun q h1 h2=>absurd ⟨q,h1,h2⟩ hno).symm,hst,?_,?_,?_⟩
  ·rw[hh]
  ·intro x _; rw[hh]
  ·intro q x h1 h2
   exact absurd ⟨q,om,(hE q h1).1 h2⟩ hno
end
theorem Iy{m:Nat->Bool}{p i:Nat}{o:ak}(hi:l[i]?=some o)(hc:aD o.op=false){Hx:ae}(R:rT l ss T0 H0 m p Hx):rT l ss T0 H0 (dl m i) p Hx:=by
 have hE:∀q,dr l (dl m i) q↔dr l m q:=fun q=>by
  rw[fC]
  constructor
  ·rintro (h | ⟨rfl,o',h1,h2⟩)
   ·exact h
   ·rw[hi]at h1; obtain rfl:=Option.some.inj h1; rw[hc]at h2; simp at h2
  ·exact .inl
 exact⟨R.next,fun x hx=>R.base x fun q h1 h2=>hx q h1 ((hE q).2 h2),fun q x h1 h2 h3 h4=>R.late q x h1 ((hE q).1 h2) h3 fun q' a b=>h4 q' a ((hE q').2 b)⟩
end
end Go.Abs
namespace Go.Abs
section
variable {P:Program} {Prot:Gh} {w0:World} {ρ:Pl} {H:ae} {w:World}
theorem Rel.set_dead(R:Rel Prot w0 ρ H w){b:Nat}(hd:Prot.dead b){c:List af}{low:Nat}(hg:H.get b=some (.cells c low false))(xs:List af):Rel Prot w0 ρ (H.set b (.cells xs 0 false)) w:=by
 obtain⟨hbn,hnone⟩:=R.dead b hd
 have hne:∀{b' l L},ρ b' l=some L->b'≠b:=fun {b' l L} h e=>by subst e; rw[hnone]at h; simp at h
 have hget:∀{b'},b'≠b->(H.set b (.cells xs 0 false)).get b'=H.get b':=fun h=>by rw[ae.get_set,if_neg h]
 refine⟨R.os,R.tape,R.output,R.size,R.prot,R.dom,fun b' l L q=>?_,fun b' l L x q hx=>?_,fun b1 l1 L1 b2 l2 L2 x q1 q2 e hx=>?_,R.dead,fun b' l low' hx=>?_⟩
 ·rw[hget (hne q)]; exact R.obj b' l L q
 ·rw[hget (hne q)]at hx; exact R.free b' l L x q hx
 ·rw[hget (hne q1)]at hx; exact R.inj b1 l1 L1 b2 l2 L2 x q1 q2 e hx
 ·by_cases e:b'=b
  ·subst e
   rw[ae.get_set,if_pos rfl]at hx
   simp at hx
  ·rw[hget e]at hx; exact R.glob b' l low' hx
theorem zT(R:Rel Prot w0 ρ H w){sT elem:TypeId}{size:Nat}{agg:Bool}{z:List af}(hu:P.underlying sT=some (.slice elem))(T:Ty P elem agg size)(hz:cB P elem=some z)
  (hzl:z.length=size) {len:Nat} (hsm:len*size<=16777216) {ps:List (Nat×Nat×af)} {qs:Array (Nat×Value)} (hp:dV ρ (fun i=>some (i*size,size)) ps qs.toList) {xs:List af}
  (hxs:k8 (me z len) ps=some xs) {b:Nat} (hd:Prot.dead b) {c:List af} {low:Nat} (hg:H.get b=some (.cells c low false)) :
  ∃ρ' w' u,ρ.le ρ'/\(Instr.buildSlice sT len qs).run P w=.ok u w'/\Rel ⟨Prot.prot,fun d=>Prot.dead d/\d≠b⟩ w0 ρ' (H.set b (.cells xs 0 false)) w'/\ag ρ' (.slice (some ⟨b,xs.length,0⟩) len (.known len)) u:=by
 obtain⟨zv,hzr,hzl'⟩:=ge hz
 have hlen:=ah.len (hzl' ρ)
 simp only[Array.length_toList]at hlen
 obtain⟨C,f1,f2⟩:=pg hp (jX (hzl' ρ) len) hxs
 rw[hzl]at f1
 obtain⟨ρ',q1,q3,q4⟩:=sE (R.set_dead hd hg xs) elem f2 hd (by rw[ae.get_set,if_pos rfl])
 have q2:(newRow elem C).run P w=.ok ⟨w.heap.size,0,none⟩ (w.alloc (.cells C elem)):=rfl
 have hsm':¬16777216<len*size:=om
 refine⟨ρ',_,.slice (some ⟨w.heap.size,0,none⟩) len len,q1,?_,q3,?_⟩
 ·by_cases hn:len*size=0
  ·have hm:cJ zv.cells (len*size)=#[]:=by rw[hn]; simp[cJ]
   rw[hm]at f1
   simp only[Instr.buildSlice,Sem.run_bind,run_underlying hu,Result.andThen_ok,T.size]
   simp[hn,show Array.range 0=#[] by simp,f1,q2]
  ·unfold cJ at f1
   simp only[Instr.buildSlice,Sem.run_bind,run_underlying hu,Result.andThen_ok,T.size]
   simp[hsm',hn,hzr,f1,q2]
 ·simp only[ag]
  exact⟨_,q4,Nat.zero_le _,Nat.le_refl _,rfl⟩
theorem vg{c:Call}{n:Nat}{z:List af}{l:List (Nat×Nat×bb)}(h:ja P c=some (.buildSl n z l)):False:=by
 unfold ja at h
 repeat' split at h
 all_goals first
  | (simp at h; done)
  | (cases hb:(Nat.beq _ _&&lD P _) <;> simp[hb]at h; done)
  | skip
 all_goals (revert h; intro h; simp only[cond_eq_ite]at h; split at h <;> simp at h)
theorem vk{o:Op}{n:Nat}{z:List af}{l:List (Nat×Nat×bb)}(h:nS P o=some (.buildSl n z l)):False:=by
 unfold nS at h
 repeat' split at h
 all_goals first
  | (simp at h; done)
  | (simp only[cond_eq_ite]at h; split at h <;> first | (simp at h; done) | (split at h <;> simp at h))
theorem LK{o:Op}{len:Nat}{z:List af}{l:List (Nat×Nat×bb)}(h:tM P o=some (.buildSl len z l)) :
  ∃t e ps g k,o=.buildSlice t len ps/\P.underlying t=some (.slice e)/\ez P e=some (g,k)/\cB P e=some z/\ki (fun i=>some (i*k,k)) ps.toList=some l/\z.length=k/\len*k<=16777216:=by
 unfold tM at h
 split at h
 ·rename_i a ha
  simp only[sJ]at h
  subst h
  exact (vk ha).elim
 ·split at h
  ·rename_i a ha
   simp only[sJ]at h
   subst h
   cases o <;> simp only[xJ,reduceCtorEq]at ha
   case buildSlice t len' ps _=>
    split at ha
    ·rename_i e hu
     split at ha
     ·rename_i g k z' hk hz
      split at ha
      ·rename_i l' hl
       cases hg:(Nat.beq z'.length k&&Nat.ble (len'*k) 16777216) with
       | false=>rw[hg]at ha; simp at ha
       | true=>
        rw[hg]at ha
        simp only[Pu,Nat.ble_eq]at hg
        simp only[cond_true,sJ,gT.buildSl.injEq]at ha
        obtain⟨rfl,rfl,rfl⟩:=ha
        exact⟨t,e,ps,g,k,rfl,hu,hk,hz,hl,Py hg.1,hg.2⟩
      ·simp at ha
     ·simp at ha
    ·simp at ha
   case call c=>exact (vg ha).elim
   all_goals
    exfalso
    repeat' split at ha
    all_goals first
     | (simp at ha; done)
     | (simp only[cond_eq_ite]at ha; split at ha <;> simp at ha)
  ·simp at h
def wF(l:List (Nat×Nat×bb)):List (Nat×Nat):=l.map fun q=>(q.1,q.2.1)
def wA(l:List (Nat×Nat×bb)):List bb:=l.map fun q=>q.2.2
theorem vG(T:Tr af):∀l:List (Nat×Nat×bb),HK (wF l) (eX T (wA l))=yw T l
 | []=>rfl
 | (a,b,x)::r=>by
  have:=vG T r
  simp only[wF,wA,List.map_cons,eX,HK,yw]at this ⊢
  rw[this]
def Nq(P:Program)(n:Nat)(ops:Array Oper)(o:Oper)(a:ak)(b:Nat):Prop:=
 ∃len z l g,tM P o.op=some (.buildSl len z l)/\gK n ops o.guard=some g/\dd n o.dst=true/\a=⟨o.dst,.hf (.fill b len z (wF l)) (wA l),g⟩
theorem Gp(R:Rel Prot w0 ρ H w){n:Nat}{T:Tr af}{a:Act}(ht:aJ ρ n T a.tmps){o:Oper}{len:Nat}{z:List af}{l:List (Nat×Nat×bb)}(hc:tM P o.op=some (.buildSl len z l))
  {b:Nat} (hd:Prot.dead b) {v:af} {H':ae} (hx:fY b len z (wF l) H (eX T (wA l))=some (v,H')) :
  ∃ρ' w' u,ρ.le ρ'/\(execOp a.eval o).run P w=.ok (.value u) w'/\Rel ⟨Prot.prot,fun d=>Prot.dead d/\d≠b⟩ w0 ρ' H' w'/\ag ρ' v u:=by
 obtain⟨t,e,ps,g,k,ho,hu,hk,hz,hl,hzl,hsm⟩:=LK hc
 unfold fY at hx
 split at hx <;> first | (simp at hx; done) | skip
 rename_i c hg
 split at hx <;> first | (simp at hx; done) | skip
 rename_i xs hxs
 simp only[sJ,pJ]at hx
 obtain⟨rfl,rfl⟩:=hx
 rw[vG]at hxs
 obtain⟨ρ1,w1,u,q1,q2,q3,q4⟩:=zT (P:=P) (qs:=ps.map fun p=>(p.1,a.eval p.2)) R hu (cQ hk) hz hzl hsm (by simpa using mq ht hl) hxs hd hg
 refine⟨ρ1,w1,u,q1,?_,q3,q4⟩
 obtain⟨dst,op,type,pos,after,guard⟩:=o
 simp only at ho
 subst ho
 show (do pure (Next.value (<- Instr.buildSlice t len (ps.map fun p=>(p.1,a.eval p.2)))):Sem Next).run P w=_
 simp only[Sem.run_bind,q2,Result.andThen_ok]
 rfl
end
end Go.Abs
namespace Go.Abs
section
variable {P:Program} {Prot:Gh} {w0:World} {tb:FuncId->Bool} {call:FuncId->List af->ae->Option (af×ae)}
def wZ:gT->Option Nat
 | .hf (.fill b _ _ _) _=>some b
 | _=>none
def nU(D:Nat->Prop)(l:List ak)(m:Nat->Bool):Nat->Prop:=fun d=>D d∨∃(i:Nat) (a:ak),l[i]?=some a/\wZ a.op=some d/\m i=false
set_option maxHeartbeats 2000000 in
theorem Gx(htb:∀f,Nat.blt f bO=true->tb f=true->bc P f=true)(hcall:gR P call){ds:List Deferred}{n:Nat}{ops:Array Oper}{l:List ak}{base:Nat}{ms:List Nat}
  (hlen:l.length=ops.toList.length) (hopers:∀(j:Nat) (o:Oper),ops.toList[j]?=some o->∃a,l[j]?=some a/\(dC P n ops o=some a∨∃c,base<=c/\Nq P n ops o a c))
  (hbase:∀d,Prot.dead d->d<base) (hdis:∀(i j:Nat) (a b:ak) (c:Nat),l[i]?=some a->l[j]?=some b->wZ a.op=some c->wZ b.op=some c->i=j) (hno:gq l)
  (hm:fy (ops.toList.map aX) ms=true) (hp:gE l ms=true) (hol:mz l ms=true) {T0:Tr af} {H0:ae} {ss:List (af×ae)} (htr:cp tb call l T0 H0=some ss)
  (hck:eH tb (H0::ss.map (·.2)) l ((List.range l.length).map (dL l ms)) ss T0=true)
  (hap:∀i j,eb l ms i j=true->∀x∈bS l ss T0 j,x∉bS l ss T0 i)
  (hal:∀i j k o,eb l ms i j=true->l[k]?=some o->cZ o.op=true->iF ms k j=false->iF ms j k=false->∀x∈bS l ss T0 j,x∉bS l ss T0 k) {ρ0:Pl} {Q:Exit->Act->World->Prop}
  (hQ:∀a w,(∃ρ,ρ0.le ρ/\Rel Prot w0 ρ (dK H0 ss l.length) w/\aJ ρ n (bn (fun _=>true) 0 l ss T0) a.tmps/\a.defers=ds)->Q .normal a w) :
  ∀(fuel:Nat) (listed:Array Bool) (a:Act) (w:World),listed.size=ops.size->rA (fun i=>listed.getD i false) ops.size=fuel ->
   (∀j,j<ops.size->listed.getD j false=true->∀e∈(ops.toList.map aX).getD j [],listed.getD e false=true) ->
   (∃ρ Hx,ρ0.le ρ/\rT l ss T0 H0 (fun i=>listed.getD i false) (aA (fun i=>listed.getD i false) 0 l) Hx/\Rel ⟨Prot.prot,nU Prot.dead l fun i=>listed.getD i false⟩ w0 ρ Hx w /\
    aJ ρ n (bn (fun i=>listed.getD i false) 0 l ss T0) a.tmps/\a.defers=ds) ->
   wpAny P .any ops Q fuel listed a w:=by
 have hN:l.length=ops.size:=by simpa using hlen
 obtain⟨hsl,hat⟩:=fO l T0 H0 ss 0 htr
 have hes:(ops.toList.map aX).length=ops.size:=by simp
 have hpair:∀i j a b,i<j->l[i]?=some a->l[j]?=some b->kC ms i j a b=true:=by
  intro i j a b hij hi hj
  have hp:=hp
  unfold gE at hp
  rw[List.all_eq_true]at hp
  have hjl:=(Ps.1 hj).1
  have h1:=hp j (List.mem_range.2 hjl)
  rw[hj]at h1
  simp only at h1
  rw[List.all_eq_true]at h1
  have h2:=h1 i (List.mem_range.2 hij)
  rw[hi]at h2
  exact h2
 have hload:∀i j k o,eb l ms i j=true->l[k]?=some o->cZ o.op=true->iF ms k j=true->iF ms k i=true:=by
  intro i j k o h1 h2 h3 h4
  obtain⟨_,_,hi,hj,hij,_⟩:=eD hp h1
  unfold mz at hol
  rw[List.all_eq_true]at hol
  have q:=hol j (List.mem_range.2 (Ps.1 hj).1)
  rw[List.all_eq_true]at q
  have q2:=q i (List.mem_range.2 hij)
  rw[h1]at q2
  simp only[Bool.not_true,Bool.false_or]at q2
  rw[List.all_eq_true]at q2
  have q3:=q2 k (List.mem_range.2 (Ps.1 h2).1)
  rw[h2]at q3
  simpa[h3,h4] using q3
 intro fuel
 induction fuel with
 | zero=>
  intro listed a w hsz hu _ hinv
  have hall:∀i,i<ops.size->listed.getD i false=true:=pE hu
  refine⟨?_,hQ a w ?_⟩
  ·unfold Region.ready
   rw[List.filter_eq_nil_iff]
   intro i hi
   have:=hall i (List.mem_range.1 hi)
   have e:listed.getD i true=true:=by
    rw[Array.getD_eq_getD_getElem?]at this ⊢
    rw[Array.getElem?_eq_getElem (by rw[hsz]; exact List.mem_range.1 hi)]at this ⊢
    simpa using this
   simp[e]
  ·obtain⟨ρ,Hx,h1,hH,h2,h3,h4⟩:=hinv
   have hst:aA (fun i=>listed.getD i false) 0 l=l.length:=by
    obtain⟨q1,q2,q3,q4⟩:=dt (fun i=>listed.getD i false) l 0
    rcases Nat.lt_or_ge (aA (fun i=>listed.getD i false) 0 l) l.length with q | q
    ·have ho:l[aA (fun i=>listed.getD i false) 0 l-0]?=some l[aA (fun i=>listed.getD i false) 0 l]:=by simp
     have:=(q4 _ (by simpa using q) ho).2
     rw[hall _ om]at this
     simp at this
    ·omega
   rw[hst]at hH
   refine⟨ρ,h1,?_,h3.congr fun t=>?_,h4⟩
   ·have:=h2.ext_heap (H':=dK H0 ss l.length) hH.next.symm fun x=>(hH.base x fun q q1 q2=>by
     obtain⟨_,o,q3,_⟩:=q2
     have:=(Ps.1 q3).1
     omega).symm
    exact this.fewer (D:=Prot.dead) fun d hd=>.inl hd
   ·refine eO l ss 0 T0 T0 rfl fun i o hi _=>?_
    have:=(Ps.1 hi).1
    simp only[Nat.zero_add]
    exact (hall i om).symm
 | succ fuel ih=>
  intro listed a w hsz hu hdown hinv
  obtain⟨ρ,Hx,hle,hH,R,ht,hd⟩:=hinv
  have hml:=oC hm (m:=fun i=>listed.getD i false) (fun j hj hjl e he=>hdown j om hjl e he)
  have hmask:∀j,j<ops.size->(∀e∈(ops.toList.map aX).getD j [],listed.getD e false=true)->∀i,i<j->iF ms j i=true->listed.getD i false=true:=
   fun j hj he i hi hb=>hml j om he i hi hb
  have hDn:Md l ms (fun i=>listed.getD i false):=fun j hj hjl i hi hb=>hmask j om (hdown j om hjl) i hi hb
  refine⟨fun hnone=>?_,fun i hi=>?_⟩
  ·-- there is one that is ready
   exfalso
   have hex:∃i,i<ops.size/\listed.getD i false=false:=by
    rcases Classical.em (∃i,i<ops.size/\listed.getD i false=false) with h | h
    ·exact h
    ·exfalso
     have:rA (fun i=>listed.getD i false) ops.size=0:=ul fun i hi=>by
      cases hb:listed.getD i false with
      | true=>rfl
      | false=>exact (h ⟨i,hi,hb⟩).elim
     omega
   have hmin:∃i,i<ops.size/\listed.getD i false=false/\∀j,j<i->listed.getD j false=true:=by
    obtain⟨i,hi1,hi2⟩:=hex
    induction i using Nat.strongRecOn with
    | _ i ihm=>
     rcases Classical.em (∃j,j<i/\listed.getD j false=false) with⟨j,hj,hj2⟩ | h
     ·exact ihm j hj om hj2
     ·refine⟨i,hi1,hi2,fun j hj=>?_⟩
      cases hb:listed.getD j false with
      | true=>rfl
      | false=>exact (h ⟨j,hj,hb⟩).elim
   obtain⟨i,hi1,hi2,hi3⟩:=hmin
   have:i∈Region.ready .any ops listed:=by
    rw[mem_ready]
    refine⟨?_,ops[i],Array.getElem?_eq_getElem hi1,fun e he hb=>?_⟩
    ·rw[Array.getD_eq_getD_getElem?]at hi2 ⊢
     rw[Array.getElem?_eq_getElem om]at hi2 ⊢
     simpa using hi2
    ·refine hi3 _ ?_
     unfold fy at hm
     rw[List.all_eq_true]at hm
     have h1:=hm i (List.mem_range.2 om)
     simp only[Pu,List.all_eq_true]at h1
     refine Px (h1.1 e.on ?_)
     have:(ops.toList.map aX).getD i []=aX ops[i]:=by simp[List.getD,hi1]
     rw[this]
     unfold aX
     rw[List.mem_map]
     exact⟨e,by rw[List.mem_filter]; exact⟨by simpa using he,hb⟩,rfl⟩
   rw[hnone]at this
   simp at this
  ·obtain⟨hi1,o,ho,hedge⟩:=mem_ready.1 hi
   have hiN:i<ops.size:=(Array.getElem?_eq_some_iff.1 ho).1
   have hmi:listed.getD i false=false:=by
    rw[Array.getD_eq_getD_getElem?]at hi1 ⊢
    rw[Array.getElem?_eq_getElem om]at hi1 ⊢
    simpa using hi1
   obtain⟨ao,hao,hco⟩:=hopers i o (by simpa using ho)
   have hedges:∀e∈(ops.toList.map aX).getD i [],listed.getD e false=true:=by
    have:(ops.toList.map aX).getD i []=aX o:=by
     have:ops[i]=o:=by simpa[Array.getElem?_eq_getElem hiN] using ho
     simp[List.getD,hiN,this]
    rw[this]
    intro e he
    unfold aX at he
    rw[List.mem_map]at he
    obtain⟨x,hx,rfl⟩:=he
    rw[List.mem_filter]at hx
    exact hedge x (by simpa using hx.1) hx.2
   have hafter:∀c b,i<c->l[c]?=some b->iF ms c i=true->listed.getD c false=false:=by
    intro c b hc hb hbit
    cases hx:listed.getD c false with
    | false=>rfl
    | true=>
     have hcN:=(Ps.1 hb).1
     have:=hmask c om (hdown c om hx) i hc hbit
     rw[hmi]at this
     simp at this
   have hagree:∀t∈iB ao,(bn (fun i=>listed.getD i false) 0 l ss T0).get t=(bn (fun j=>Nat.blt j (0+i)) 0 l ss T0).get t:=by
    intro t htr'
    refine eO l ss 0 T0 T0 rfl fun c b hc hdst=>?_
    have hcN:=(Ps.1 hc).1
    simp only[Nat.zero_add]
    rcases Nat.lt_trichotomy c i with h | h | h
    ·have e:Nat.blt c i=true:=Pt h
     rw[e]
     have hpr:=hpair c i b ao h hc hao
     simp only[kC,Bool.or_eq_true,Pu]at hpr
     rcases hpr with hpr | ⟨hpr,_⟩
     ·exact hmask i hiN hedges c h hpr
     ·exfalso
      simp only[uZ,hdst,Pu,Bool.not_eq_true',List.contains_eq_mem,decide_eq_false_iff_not]at hpr
      exact hpr.1.1 htr'
    ·subst h
     have e:Nat.blt c c=false:=by
      cases hb:Nat.blt c c with
      | false=>rfl
      | true=>have:=Px hb; omega
     rw[e]; exact hmi
    ·have e:Nat.blt c i=false:=by
      cases hb:Nat.blt c i with
      | false=>rfl
      | true=>have:=Px hb; omega
     rw[e]
     have hpr:=hpair i c ao b h hao hc
     simp only[kC,Bool.or_eq_true,Pu]at hpr
     rcases hpr with hpr | ⟨hpr,_⟩
     ·exact hafter c b h hc hpr
     ·exfalso
      simp only[uZ,hdst,Pu,Bool.not_eq_true',List.contains_eq_mem,decide_eq_false_iff_not]at hpr
      exact hpr.2 htr'
   have hgd:fR (bn (fun i=>listed.getD i false) 0 l ss T0) ao.guard=fR (bn (fun j=>Nat.blt j (0+i)) 0 l ss T0) ao.guard:=by
    cases hg:ao.guard with
    | none=>rfl
    | some g=>
     obtain⟨t,b⟩:=g
     simp only[fR,ev]
     rw[hagree (gS t) (by simp[iB,hg])]
   have hop:∀H,bG tb (bn (fun i=>listed.getD i false) 0 l ss T0) H ao.op=bG tb (bn (fun j=>Nat.blt j (0+i)) 0 l ss T0) H ao.op:=
    fun H=>tY fun t h=>hagree t (by simp only[iB,List.mem_append]; exact .inl h)
   obtain⟨v,H1,hss,hstep⟩:=hat i ao hao
   obtain⟨st1,st2,st3,st4⟩:=dt (fun i=>listed.getD i false) l 0
   have hready:∀c,c<i->iF ms i c=true->listed.getD c false=true:=fun c h1 h2=>hmask i hiN hedges c h1 h2
   have hm':∀j,(listed.setIfInBounds i true).getD j false=dl (fun i=>listed.getD i false) i j:=by
    intro j
    unfold dl
    by_cases e:j=i
    ·subst e
     rw[if_pos rfl,Array.getD_eq_getD_getElem?]
     have:j<listed.size:=om
     simp[this]
    ·rw[if_neg e]
     exact getD_set_ne false (fun q=>e q.symm)
   have hmf:(fun j=>(listed.setIfInBounds i true).getD j false)=dl (fun i=>listed.getD i false) i:=funext hm'
   have hnext:∀(ρ':Pl) (w':World) (a':Act) (H3:ae),ρ.le ρ'->rT l ss T0 H0 (dl (fun i=>listed.getD i false) i) (aA (dl (fun i=>listed.getD i false) i) 0 l) H3 ->
     Rel ⟨Prot.prot,nU Prot.dead l (dl (fun i=>listed.getD i false) i)⟩ w0 ρ' H3 w' ->
     aJ ρ' n (aO (bn (fun i=>listed.getD i false) 0 l ss T0) ao.dst v) a'.tmps->a'.defers=ds->wpAny P .any ops Q fuel (listed.setIfInBounds i true) a' w':=by
    intro ρ' w' a' H3 hle' hH' R' ht' hd'
    refine ih _ a' w' (by simpa using hsz) ?_ ?_ ⟨ρ',H3,Pl.le_trans hle hle',by rw[hmf]; exact hH',by rw[hmf]; exact R',?_,hd'⟩
    ·have:=uk (m:=fun i=>listed.getD i false) (m':=fun j=>(listed.setIfInBounds i true).getD j false) (i:=i) (n:=ops.size) hiN hmi (by rw[hm']; simp[dl]) (fun j hj=>by rw[hm']; simp[dl,hj])
     omega
    ·intro j hj hjl e he
     rw[hm']at hjl ⊢
     simp only[dl]at hjl ⊢
     by_cases q:e=i
     ·rw[if_pos q]
     ·rw[if_neg q]
      by_cases q2:j=i
      ·subst q2; exact hedges e he
      ·rw[if_neg q2]at hjl; exact hdown j hj hjl e he
    ·refine ht'.congr fun t=>?_
     rw[hmf,j8]
     by_cases e:ao.dst=some t
     ·rw[if_pos e]
      refine iH l ss 0 i T0 ao v H1 hao hss e (by simp[dl]) fun c b hc hcb hdst=>?_
      simp only[Nat.zero_add,dl]
      rw[if_neg om]
      have hpr:=hpair i c ao b hc hao hcb
      simp only[kC,Bool.or_eq_true,Pu]at hpr
      rcases hpr with hpr | ⟨hpr,_⟩
      ·exact hafter c b hc hcb hpr
      ·exfalso
       simp only[uZ,e,Pu,Bool.not_eq_true',beq_eq_false_iff_ne]at hpr
       exact hpr.1.2 hdst
     ·rw[if_neg e]
      refine eO l ss 0 T0 T0 rfl fun c b hc hdst=>?_
      simp only[Nat.zero_add,dl]
      rw[if_neg]
      intro q
      subst q
      rw[hao]at hc
      simp only[sJ]at hc
      subst hc
      exact e hdst
   have hge:aD ao.op=true->aA (fun i=>listed.getD i false) 0 l<=i:=by
    intro hc
    rcases Nat.lt_or_ge i (aA (fun i=>listed.getD i false) 0 l) with h | h
    ·have:=st3 i ao hao hc (by simpa using h)
     simp only[Nat.zero_add]at this
     rw[hmi]at this
     simp at this
    ·exact h
   have hlink:aD ao.op=true->∃Hy H3,Hy.next=Hx.next/\(∀x,Hy.get x=Hx.get x)/\bw tb call ao (bn (fun j=>Nat.blt j (0+i)) 0 l ss T0) Hy=some (v,H3) /\
     rT l ss T0 H0 (dl (fun i=>listed.getD i false) i) (aA (dl (fun i=>listed.getD i false) i) 0 l) H3:=by
    intro hc
    have h1:=hge hc
    have hpl:aA (fun i=>listed.getD i false) 0 l<l.length:=om
    have hob2:l[aA (fun i=>listed.getD i false) 0 l]?=some (l[aA (fun i=>listed.getD i false) 0 l]'hpl):=Pr hpl
    obtain⟨q1,q2⟩:=st4 _ om (by rw[Nat.sub_zero]; exact hob2)
    obtain⟨s1,s2,s3,s4⟩:=dt (dl (fun i=>listed.getD i false) i) l 0
    rcases Nat.lt_or_ge (aA (fun i=>listed.getD i false) 0 l) i with h | h
    ·obtain⟨H3,e1,e2⟩:=Iz htr hp hap hDn hob2 q1 q2 hao hc hmi hready h hH hss hstep
     have e3:aA (dl (fun i=>listed.getD i false) i) 0 l=aA (fun i=>listed.getD i false) 0 l:=by
      rcases Nat.lt_trichotomy (aA (dl (fun i=>listed.getD i false) i) 0 l) (aA (fun i=>listed.getD i false) 0 l) with k | k | k
      ·exfalso
       have hob3:l[aA (dl (fun i=>listed.getD i false) i) 0 l]?=some (l[aA (dl (fun i=>listed.getD i false) i) 0 l]'om):=Pr om
       obtain⟨r1,r2⟩:=s4 _ om (by rw[Nat.sub_zero]; exact hob3)
       have:=st3 _ _ hob3 r1 om
       simp only[Nat.zero_add]at this
       simp only[dl]at r2
       split at r2
       ·simp at r2
       ·rw[r2]at this; simp at this
      ·exact k
      ·exfalso
       have:=s3 _ _ hob2 q1 om
       simp only[Nat.zero_add,dl]at this
       rw[if_neg om,q2]at this
       simp at this
     exact⟨Hx,H3,rfl,fun _=>rfl,e1,by rw[e3]; exact e2⟩
    ·have hpi:aA (fun i=>listed.getD i false) 0 l=i:=om
     rw[hpi]at hH
     refine Ix htr hp hap hDn hao hc hmi ?_ om (fun c oc k1 k2 k3 k4=>?_) hH hss hstep
     ·rcases Nat.lt_or_ge i (aA (dl (fun i=>listed.getD i false) i) 0 l) with k | k
      ·exact k
      ·exfalso
       have hob3:l[aA (dl (fun i=>listed.getD i false) i) 0 l]?=some (l[aA (dl (fun i=>listed.getD i false) i) 0 l]'om):=Pr om
       obtain⟨r1,r2⟩:=s4 _ om (by rw[Nat.sub_zero]; exact hob3)
       simp only[dl]at r2
       split at r2
       ·simp at r2
       ·have:=st3 _ _ hob3 r1 om
        simp only[Nat.zero_add]at this
        rw[r2]at this; simp at this
     ·have:=s3 c oc k3 k4 om
      simp only[Nat.zero_add,dl]at this
      rwa [if_neg om]at this
   have hplain:aD ao.op=false->rT l ss T0 H0 (dl (fun i=>listed.getD i false) i) (aA (dl (fun i=>listed.getD i false) i) 0 l) Hx:=by
    intro hc
    have e3:aA (dl (fun i=>listed.getD i false) i) 0 l=aA (fun i=>listed.getD i false) 0 l:=fP l 0 fun c b hcb hcc=>by
     simp only[Nat.zero_add,dl]
     rw[if_neg]
     intro e
     subst e
     rw[hao]at hcb
     simp only[sJ]at hcb
     subst hcb
     rw[hc]at hcc
     simp at hcc
    rw[e3]
    exact Iy hao hc hH
   have hval:aD ao.op=false->fR (bn (fun j=>Nat.blt j (0+i)) 0 l ss T0) ao.guard=true->bG tb (bn (fun j=>Nat.blt j (0+i)) 0 l ss T0) Hx ao.op=some (.val v,Hx):=by
    intro hc hgo
    unfold bw at hstep
    rw[hgo]at hstep
    simp only[cond_true]at hstep
    cases hpu:iE ao.op with
    | true=>
     split at hstep
     ·rename_i u H2 hu
      simp only[sJ,pJ]at hstep
      obtain⟨rfl,rfl⟩:=hstep
      exact (eB hpu hu).2.2 _
     ·rename_i f args H2 hu
      obtain⟨_,⟨x,hx⟩,_⟩:=eB hpu hu
      simp at hx
     ·simp at hstep
    | false=>
     have hld:cZ ao.op=true:=by
      unfold aD at hc
      cases h1:cZ ao.op with
      | true=>rfl
      | false=>rw[hpu,h1]at hc; simp at hc
     have hw:∃H2,bG tb (bn (fun j=>Nat.blt j (0+i)) 0 l ss T0) (dK H0 ss (aA (fun i=>listed.getD i false) 0 l)) ao.op=some (.val v,H2):=by
      cases hsm:ol l i (aA (fun i=>listed.getD i false) 0 l) with
      | true=>
       unfold ol at hsm
       rw[Pu,List.all_eq_true]at hsm
       have hij:=Px hsm.1
       have hb:=cD htr (aA (fun i=>listed.getD i false) 0 l-i) i om fun c b c1 c2 c3=>by
        have:=hsm.2 c (List.mem_range.2 om)
        rw[c3]at this
        simp only[Bool.or_eq_true,Bool.not_eq_true']at this
        rcases this with h | h
        ·have:=Px h; omega
        ·exact h
       rw[show i+(aA (fun i=>listed.getD i false) 0 l-i)=aA (fun i=>listed.getD i false) 0 l by omega]at hb
       rw[hb]
       split at hstep
       ·rename_i u H2 hu
        simp only[sJ,pJ]at hstep
        obtain⟨rfl,rfl⟩:=hstep
        exact⟨_,hu⟩
       ·rename_i f args H2 hu
        obtain⟨_,x,hx⟩:=gG hld hu
        simp at hx
       ·simp at hstep
      | false=>
       have hmem:aA (fun i=>listed.getD i false) 0 l∈dL l ms i:=by
        unfold dL
        rw[hao]
        simp only[hld,cond_true]
        rw[List.mem_filter]
        refine⟨List.mem_range.2 om,?_⟩
        rw[hsm]
        simp only[Bool.not_false,Bool.true_and]
        unfold sS
        rw[Pu]
        refine⟨?_,?_⟩
        ·unfold kH
         rcases Nat.lt_or_ge (aA (fun i=>listed.getD i false) 0 l) l.length with h | h
         ·have hob:l[aA (fun i=>listed.getD i false) 0 l]?=some l[aA (fun i=>listed.getD i false) 0 l]:=Pr h
          rw[hob]
          exact (st4 _ om (by simp)).1
         ·rw[PL h]
          have:aA (fun i=>listed.getD i false) 0 l=l.length:=om
          rw[this]
          exact Nat.beq_refl _
        ·rw[List.all_eq_true]
         intro c hcr
         have hcl:=List.mem_range.1 hcr
         rw[Pr hcl]
         simp only[Bool.or_eq_true,Bool.not_eq_true']
         cases hcc:aD l[c].op with
         | false=>exact .inl rfl
         | true=>
          right
          have hlc:l[c]?=some l[c]:=Pr hcl
          cases hb:Nat.blt c (aA (fun i=>listed.getD i false) 0 l) with
          | true=>
           simp only[cond_true,Bool.not_eq_true']
           have hlt:c<aA (fun i=>listed.getD i false) 0 l:=Px hb
           have hcm:=st3 c _ hlc hcc om
           simp only[Nat.zero_add]at hcm
           cases hbit:iF ms c i with
           | false=>rfl
           | true=>
            exfalso
            rcases Nat.lt_trichotomy i c with h | h | h
            ·have:=hafter c _ h hlc hbit
             rw[hcm]at this; simp at this
            ·subst h; rw[hmi]at hcm; simp at hcm
            ·have:=jA hbit
             omega
          | false=>
           simp only[cond_false,Bool.not_eq_true']
           have hge:aA (fun i=>listed.getD i false) 0 l<=c:=by
            rcases Nat.lt_or_ge c (aA (fun i=>listed.getD i false) 0 l) with h | h
            ·have:Nat.blt c (aA (fun i=>listed.getD i false) 0 l)=true:=Pt h
             rw[hb]at this; simp at this
            ·exact h
           cases hbit:iF ms i c with
           | false=>rfl
           | true=>
            exfalso
            have hlc2:=hmask i hiN hedges c (jA hbit) hbit
            have hpl:aA (fun i=>listed.getD i false) 0 l<l.length:=om
            have hob2:l[aA (fun i=>listed.getD i false) 0 l]?=some (l[aA (fun i=>listed.getD i false) 0 l]'hpl):=Pr hpl
            obtain⟨q1,q2⟩:=st4 _ om (by rw[Nat.sub_zero]; exact hob2)
            rcases Nat.lt_trichotomy (aA (fun i=>listed.getD i false) 0 l) c with h | h | h
            ·cases hpr:iF ms c (aA (fun i=>listed.getD i false) 0 l) with
             | true=>
              have:=hmask c om (hdown c om hlc2) _ h hpr
              rw[q2]at this; simp at this
             | false=>
              have hlp:=nF hob2 hlc h q1 hcc hpr
              have:=hload _ _ i ao hlp hao hld hbit
              have:=hready _ (jA this) this
              rw[q2]at this; simp at this
            ·rw[h]at q2; rw[q2]at hlc2; simp at hlc2
            ·omega
       obtain⟨Hp,hHp,hrun⟩:=GD l _ ss T0 0 hck i _ (dL l ms i) v H1 hao (by simp[hN,hiN]) hss _ hmem
       obtain⟨H2,hH2⟩:=hrun hgo
       refine⟨H2,?_⟩
       have:Hp=dK H0 ss (aA (fun i=>listed.getD i false) 0 l):=by
        cases hstg:aA (fun i=>listed.getD i false) 0 l with
        | zero=>rw[hstg]at hHp; simpa[dK] using hHp.symm
        | succ q=>
         rw[hstg]at hHp
         simp only[PC,List.getElem?_map]at hHp
         simp only[dK]
         cases hq:ss[q]? with
         | none=>rw[hq]at hHp; simp at hHp
         | some z=>rw[hq]at hHp; obtain⟨z1,z2⟩:=z; simpa using hHp.symm
       rw[<- this]
       exact hH2
     obtain⟨H2,hH2⟩:=hw
     have hE:∀q,aA (fun i=>listed.getD i false) 0 l<=q->dr l (fun i=>listed.getD i false) q->∀x∈bS l ss T0 q,x∉bS l ss T0 i:=by
      intro q hq he
      obtain⟨he1,oq,he2,he3⟩:=he
      have hql:=(Ps.1 he2).1
      have hpl:aA (fun i=>listed.getD i false) 0 l<l.length:=om
      have hob2:l[aA (fun i=>listed.getD i false) 0 l]?=some (l[aA (fun i=>listed.getD i false) 0 l]'hpl):=Pr hpl
      obtain⟨q1,q2⟩:=st4 _ om (by rw[Nat.sub_zero]; exact hob2)
      have hpq:aA (fun i=>listed.getD i false) 0 l<q:=by
       rcases Nat.lt_or_ge (aA (fun i=>listed.getD i false) 0 l) q with k | k
       ·exact k
       ·exfalso
        have e9:q=aA (fun i=>listed.getD i false) 0 l:=om
        have h9:listed.getD q false=true:=he1
        rw[e9,q2]at h9; simp at h9
      have hlp:=dp hDn hob2 q1 q2 hpq ⟨he1,oq,he2,he3⟩
      refine hal _ q i ao hlp hao hld ?_ ?_
      ·cases hb:iF ms i q with
       | false=>rfl
       | true=>
        have:=hload _ _ i ao hlp hao hld hb
        have:=hready _ (jA this) this
        rw[q2]at this; simp at this
      ·cases hb:iF ms q i with
       | false=>rfl
       | true=>
        have h9:listed.getD i false=true:=hDn q hql he1 i (jA hb) hb
        rw[hmi]at h9; simp at h9
     cases hop':ao.op <;> rw[hop']at hld <;> simp only[cZ,PD]at hld
     case load agg k x=>
      rw[hop']at hH2
      simp only[bG]at hH2 ⊢
      have htc:bS l ss T0 i=eP (bn (fun j=>Nat.blt j (0+i)) 0 l ss T0) ao.op v:=by simp only[bS,hao,hss]
      have hfr:bi agg k Hx (ev (bn (fun j=>Nat.blt j (0+i)) 0 l ss T0) x)=bi agg k (dK H0 ss (aA (fun i=>listed.getD i false) 0 l)) (ev (bn (fun j=>Nat.blt j (0+i)) 0 l ss T0) x):=
       zD fun b hb=>hH.base b fun q k1 k2 k3=>hE q k1 k2 b k3 (by rw[htc,hop']; exact jc (List.mem_singleton.2 rfl) hb)
      rw[hfr]
      obtain⟨e1,e2,e3⟩:=lU hH2
      exact e3 _
     case claim b z s=>exact absurd hop' (hno ao (Pz hao) b z s)
   have hfew:∀d,nU Prot.dead l (dl (fun i=>listed.getD i false) i) d->nU Prot.dead l (fun i=>listed.getD i false) d:=by
    rintro d (hd | ⟨i',a',x1,x2,x3⟩)
    ·exact .inl hd
    ·refine .inr ⟨i',a',x1,x2,?_⟩
     simp only[dl]at x3
     split at x3
     ·simp at x3
     ·exact x3
   have hord:(∃ax g,tM P o.op=some ax/\dd n o.dst=true/\ao=⟨o.dst,ax,g⟩/\gK n ops o.guard=some g)∨(∃c,base<=c/\Nq P n ops o ao c):=by
    rcases hco with hco | hco
    ·unfold dC at hco
     split at hco
     ·rename_i ax g hopc hgc
      cases hdst:dd n o.dst with
      | false=>rw[hdst]at hco; simp at hco
      | true=>
       rw[hdst]at hco
       simp only[cond_true,sJ]at hco
       exact .inl ⟨ax,g,hopc,rfl,hco.symm,hgc⟩
     ·simp at hco
    ·exact .inr hco
   rcases hord with⟨ax,g,hopc,hdst,rfl,hgc⟩ | ⟨cb,hcb,len,z,lx,g,hopc,hgc,hdst,rfl⟩
   ·simp only at hgd hop hnext hao hlink hplain hval
    unfold wpOp
    simp only[ho]
    rw[eU ht hgc,hgd]
    have hd':∀u,(a.put o.dst u).defers=ds:=fun u=>by cases hx:o.dst <;> simpa[Act.put] using hd
    cases hc:aD ax with
    | true=>
     obtain⟨Hy,H3,y1,y2,y3,y4⟩:=hlink hc
     have Ry:=R.ext_heap y1 y2
     unfold bw at y3
     simp only at y3
     cases hgo:fR (bn (fun j=>Nat.blt j (0+i)) 0 l ss T0) g with
     | false=>
      rw[hgo]at y3
      simp only[cond_false,sJ,pJ]at y3
      obtain⟨rfl,rfl⟩:=y3
      simp only[PD,if_false]
      exact hnext ρ w _ Hy (Pl.le_refl _) y4 (Ry.fewer hfew) (bu ht hdst dG) (hd' _)
     | true=>
      rw[hgo]at y3
      simp only[cond_true]at y3
      simp only[if_true]
      left
      rw[<- hop]at y3
      split at y3
      ·rename_i u H2 hu
       simp only[sJ,pJ]at y3
       obtain⟨rfl,rfl⟩:=y3
       obtain⟨ρ1,w1,nx,q1,q2,q3,q4⟩:=gC htb Ry ht o hopc hu
       simp only[Oper.wp,q2]
       cases nx <;> simp only[iz]at q4
       case value u=>exact hnext ρ1 w1 _ _ q1 y4 (q3.fewer hfew) (bu (ht.mono q1) hdst q4) (hd' _)
       case skip=>exact hnext ρ1 w1 _ _ q1 y4 (q3.fewer hfew) (bu (ht.mono q1) hdst q4) (hd' _)
      ·rename_i f args H2 hu
       obtain⟨ρ1,w1,nx,q1,q2,q3,q4⟩:=gC htb Ry ht o hopc hu
       simp only[Oper.wp,q2]
       cases nx <;> simp only[iz]at q4
       case enter gf vs=>
        obtain⟨rfl,hbig,q5⟩:=q4
        simp only[Oper.upon]
        refine (hcall _ _ _ _ _ hbig y3 ⟨Prot.prot,nU Prot.dead l fun i=>listed.getD i false⟩ w0 ρ1 w1 vs q3 q5).mono fun e w' hr=>?_
        obtain⟨ρ2,u,r1,rfl,r3,r4⟩:=hr
        exact hnext ρ2 w' _ _ (Pl.le_trans q1 r1) y4 (r3.fewer hfew) (bu ((ht.mono q1).mono r1) hdst r4) (hd' _)
      ·simp at y3
    | false=>
     have y4:=hplain hc
     cases hgo:fR (bn (fun j=>Nat.blt j (0+i)) 0 l ss T0) g with
     | false=>
      unfold bw at hstep
      simp only at hstep
      rw[hgo]at hstep
      simp only[cond_false,sJ,pJ]at hstep
      obtain⟨rfl,rfl⟩:=hstep
      simp only[PD,if_false]
      exact hnext ρ w _ Hx (Pl.le_refl _) y4 (R.fewer hfew) (bu ht hdst dG) (hd' _)
     | true=>
      simp only[if_true]
      left
      have hH2:=hval hc hgo
      rw[<- hop]at hH2
      obtain⟨ρ1,w1,nx,q1,q2,q3,q4⟩:=gC htb R ht o hopc hH2
      simp only[Oper.wp,q2]
      cases nx <;> simp only[iz]at q4
      case value u=>exact hnext ρ1 w1 _ Hx q1 y4 (q3.fewer hfew) (bu (ht.mono q1) hdst q4) (hd' _)
      case skip=>exact hnext ρ1 w1 _ Hx q1 y4 (q3.fewer hfew) (bu (ht.mono q1) hdst q4) (hd' _)
   ·-- a row,in a block that was laid kn
    simp only at hgd hop hnext hao hlink
    unfold wpOp
    simp only[ho]
    rw[eU ht hgc,hgd]
    have hd':∀u,(a.put o.dst u).defers=ds:=fun u=>by cases hx:o.dst <;> simpa[Act.put] using hd
    obtain⟨Hy,H3,y1,y2,y3,y4⟩:=hlink rfl
    have Ry:=R.ext_heap y1 y2
    unfold bw at y3
    simp only at y3
    cases hgo:fR (bn (fun j=>Nat.blt j (0+i)) 0 l ss T0) g with
    | false=>
     rw[hgo]at y3
     simp only[cond_false,sJ,pJ]at y3
     obtain⟨rfl,rfl⟩:=y3
     simp only[PD,if_false]
     exact hnext ρ w _ Hy (Pl.le_refl _) y4 (Ry.fewer hfew) (bu ht hdst dG) (hd' _)
    | true=>
     rw[hgo]at y3
     simp only[cond_true]at y3
     simp only[if_true]
     left
     rw[<- hop]at y3
     simp only[bG,mY]at y3
     cases hf:fY cb len z (wF lx) Hy (eX (bn (fun i=>listed.getD i false) 0 l ss T0) (wA lx)) with
     | none=>rw[hf]at y3; simp[vh]at y3
     | some q=>
      obtain⟨u0,H4⟩:=q
      rw[hf]at y3
      simp only[vh,sJ,pJ]at y3
      obtain⟨rfl,rfl⟩:=y3
      obtain⟨ρ1,w1,u,q1,hrun,q3,q4⟩:=Gp Ry ht hopc (.inr ⟨i,_,hao,rfl,hmi⟩) hf
      simp only[Oper.wp,hrun]
      refine hnext ρ1 w1 _ _ q1 y4 (q3.fewer ?_) (bu (ht.mono q1) hdst q4) (hd' _)
      intro d hd0
      refine⟨hfew d hd0,?_⟩
      rintro rfl
      rcases hd0 with hd0 | ⟨i',a',x1,x2,x3⟩
      ·have:=hbase _ hd0; omega
      ·have:=hdis i' i a' _ _ x1 hao x2 rfl
       subst this
       simp[dl]at x3
end
end Go.Abs
