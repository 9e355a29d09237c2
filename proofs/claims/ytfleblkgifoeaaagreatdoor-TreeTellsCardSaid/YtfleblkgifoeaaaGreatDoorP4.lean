/- Part of a proof (D4 D5 D6 D7 D6b D8); no condition. -/
import Derived.Test.YtfleblkgifoeaaaGreatDoorP3
set_option linter.unusedSimpArgs false
set_option linter.unusedVariables false
set_option linter.unnecessarySimpa false
namespace Go.Abs
def tW(m:Nat->Bool):Nat->Nat
 | 0=>0
 | n+1=>tW m n+(bif m n then 0 else 1)
theorem rF{m:Nat->Bool}:∀{n:Nat},tW m n=0->∀i,i<n->m i=true
 | 0,_,i,h=>om
 | n+1,h,i,hi=>by
  simp only[tW]at h
  cases hb:m n with
  | true=>
   by_cases e:i=n
   ·rw[e]; exact hb
   ·exact rF (n:=n) (by rw[hb]at h; simpa using h) i om
  | false=>rw[hb]at h; simp at h
theorem vV{m:Nat->Bool}:∀{n:Nat},(∀i,i<n->m i=true)->tW m n=0
 | 0,_=>rfl
 | n+1,h=>by simp only[tW,vV (n:=n) fun i hi=>h i om,h n om,cond_true]
theorem xx{m m':Nat->Bool}:∀{n:Nat},(∀i,i<n->m i=m' i)->tW m n=tW m' n
 | 0,_=>rfl
 | n+1,h=>by simp only[tW,xx (n:=n) fun i hi=>h i om,h n om]
theorem vU{m m':Nat->Bool}{i:Nat}:∀{n:Nat},i<n->m i=false->m' i=true->(∀j,j≠i->m' j=m j)->tW m' n+1=tW m n
 | 0,h,_,_,_=>om
 | n+1,h,h1,h2,h3=>by
  simp only[tW]
  by_cases e:i=n
  ·subst e
   rw[h1,h2,xx (m:=m') (m':=m) fun j hj=>h3 j om]
   simp
  ·have:=vU (n:=n) om h1 h2 h3
   rw[h3 n (fun q=>e q.symm)]
   omega
section
variable {tb:FuncId->Bool} {call:FuncId->List ab->aa->Option (ab×aa)}
theorem HI{hs:List aa}:∀(l:List an) (pss:List (List Nat)) (ss:List (ab×aa)) (T:Tr ab) (k:Nat),fR tb hs l pss ss T=true ->
  ∀j o ps v H',l[j]?=some o->pss[j]?=some ps->ss[j]?=some (v,H')->∀p∈ps,∃Hp,hs[p]?=some Hp /\
   (im (bF (fun i=>Nat.blt i (k+j)) k l ss T) o.guard=true->∃H2,ct tb (bF (fun i=>Nat.blt i (k+j)) k l ss T) Hp o.op=some (.val v,H2)):=by
 intro l
 induction l with
 | nil=>intro pss ss T k _ j o ps v H' h; simp at h
 | cons o r ih=>
  intro pss ss T k h j o' ps v H' h1 h2 h3 p hp
  cases pss with
  | nil=>simp at h2
  | cons ps0 pss=>
   cases ss with
   | nil=>simp at h3
   | cons s ss=>
    obtain⟨u,H1⟩:=s
    simp only[fR,QT,List.all_eq_true]at h
    cases j with
    | zero=>
     simp only[QZ,sJ,pJ]at h1 h2 h3
     subst h1 h2
     obtain⟨rfl,rfl⟩:=h3
     have e:bF (fun i=>Nat.blt i (k+0)) k (o::r) ((u,H1)::ss) T=T:=by
      have hn:∀(l:List an) (ss:List (ab×aa)) (k':Nat) (T:Tr ab),k<=k'->bF (fun i=>Nat.blt i (k+0)) k' l ss T=T:=by
       intro l
       induction l with
       | nil=>intro ss k' T _; cases ss <;> rfl
       | cons o r ih=>intro ss k' T hk; cases ss with
        | nil=>rfl
        | cons s ss=>
         obtain⟨a,b⟩:=s
         have:Nat.blt k' (k+0)=false:=by
          cases hb:Nat.blt k' (k+0) with
          | false=>rfl
          | true=>have:=QW hb; omega
         simp only[bF,this,cond_false]
         exact ih ss (k'+1) T om
      exact hn _ _ k T rL
     rw[e]
     have:=h.1 p hp
     split at this
     ·rename_i Hp hHp
      refine⟨Hp,hHp,fun hg=>?_⟩
      rw[hg]at this
      simp only[cond_true]at this
      split at this
      ·rename_i x H2 hx
       rw[BF _ _ this]at hx
       exact⟨H2,hx⟩
      ·simp at this
     ·simp at this
    | succ j=>
     simp only[Q0]at h1 h2 h3
     have hb:Nat.blt k (k+(j+1))=true:=by
      show Nat.ble (k+1) (k+(j+1))=true
      exact QS om
     simp only[bF,hb,cond_true]
     rw[show k+(j+1)=k+1+j by omega]
     exact ih pss ss (cQ T o.dst u) (k+1) h.2 j o' ps v H' h1 h2 h3 p hp
theorem DD{o:an}{T:Tr ab}{H H':aa}{v:ab}(hc:aI o.op=false)(h:bI tb call o T H=some (v,H')):H'=H:=by
 unfold bI at h
 cases hg:im T o.guard with
 | false=>rw[hg]at h; simp only[cond_false,sJ,pJ]at h; exact h.2.symm
 | true=>
  rw[hg]at h
  simp only[cond_true]at h
  have hk:jQ o.op=true∨dH o.op=true:=by
   unfold aI at hc
   cases h1:jQ o.op <;> cases h2:dH o.op <;> simp_all
  split at h
  ·rename_i u H1 hu
   simp only[sJ,pJ]at h
   obtain⟨rfl,rfl⟩:=h
   rcases hk with hk | hk
   ·exact (fL hk hu).1
   ·exact (jg hk hu).1
  ·rename_i f args H1 hu
   rcases hk with hk | hk
   ·obtain⟨_,⟨v,hv⟩,_⟩:=fL hk hu; simp at hv
   ·obtain⟨_,v,hv⟩:=jg hk hu; simp at hv
  ·simp at h
theorem di{l:List an}{T0:Tr ab}{H0:aa}{ss:List (ab×aa)}(htr:cP tb call l T0 H0=some ss):∀(d p:Nat),p+d<=l.length->(∀c o,p<=c->c<p+d->l[c]?=some o->aI o.op=false)->eF H0 ss (p+d)=eF H0 ss p:=by
 intro d
 induction d with
 | zero=>intro p _ _; rfl
 | succ d ih=>
  intro p hp hn
  have h1:=ih p om fun c o h1 h2 h3=>hn c o h1 om h3
  obtain⟨_,hat⟩:=hZ l T0 H0 ss 0 htr
  have ho:l[p+d]?=some l[p+d]:=QQ om
  obtain⟨v,H',q1,q2⟩:=hat _ _ ho
  have:=DD (hn _ _ om om ho) q2
  rw[<- h1]
  show eF H0 ss (p+d+1)=_
  simp only[eF,q1]
  exact this
end
theorem ie{m m':Nat->Bool}:∀(l:List an) (k:Nat),(∀c o,l[c]?=some o->aI o.op=true->m (k+c)=m' (k+c))->aC m k l=aC m' k l:=by
 intro l
 induction l with
 | nil=>intro k _; rfl
 | cons o r ih=>
  intro k h
  simp only[aC]
  have h1:=ih (k+1) fun c o' q1 q2=>by rw[show k+1+c=k+(c+1) by omega]; exact h (c+1) o' (by simpa using q1) q2
  cases hc:aI o.op with
  | false=>simp only[Bool.false_and,cond_false]; exact h1
  | true=>
   have:=h 0 o rfl hc
   simp only[Nat.add_zero]at this
   rw[this,h1]
theorem bx.congr{ρ:Pl}{n:Nat}{T T':Tr ab}{tmps:Array Value}(h:∀t,T'.get t=T.get t)(r:bx ρ n T tmps):bx ρ n T' tmps:=
 ⟨r.size,fun t=>by have:=r.at_ t; simp only[ev]at this ⊢; rw[h t]; exact this⟩
section
variable {P:Program} {Prot:Gh} {w0:World} {tb:FuncId->Bool} {call:FuncId->List ab->aa->Option (ab×aa)}
def mz(D:Nat->Prop)(l:List an)(m:Nat->Bool):Nat->Prop:=fun d=>D d∨∃(i:Nat) (a:an) (z:List ab) (s:Option (Nat×Nat)),l[i]?=some a/\a.op=.claim d z s/\m i=false
theorem EA{ρ:Pl}{H:aa}{w:World}(R:cg Prot w0 ρ H w){n:Nat}{T:Tr ab}{a:Act}(ht:bx ρ n T a.tmps){o:Oper}{z:List ab}{s:Option (Nat×Nat)}(hc:xa P o.op z s){b:Nat}(hd:Prot.dead b)(hx:H.get b=some (.cells z 0 false)) :
  ∃ρ' w' u,ρ.le ρ'/\(execOp a.eval o).run P w=.ok (.value u) w'/\cg ⟨Prot.prot,fun d=>Prot.dead d/\d≠b⟩ w0 ρ' H w'/\ak ρ' (Qt b z s) u:=by
 obtain⟨dst,op,type,pos,after,guard⟩:=o
 simp only at hc
 rcases hc with⟨e,rfl,hz,rfl⟩ | ⟨t,l,c,e,m,by_,z0,x,y,ln,cn,rfl,h2,h3,h4,h5,h6,h7,h8,h9,rfl,rfl⟩
 ·obtain⟨ρ1,w1,u,q1,q2,q3,q4⟩:=zQ (P:=P) R hz hd hx
  refine⟨ρ1,w1,u,q1,?_,q3,q4⟩
  show (do pure (Next.value (<- Instr.alloc e true (.tuple #[]))):Sem Next).run P w=_
  simp only[Sem.run_bind,q2,Result.andThen_ok]
  rfl
 ·obtain⟨ρ1,w1,u,q1,q2,q3,q4⟩:=AK (P:=P) R h2 (wF h3) h4 (aH ht h5) (aH ht h6) h7 h8 h9 hd hx
  refine⟨ρ1,w1,u,q1,?_,q3,q4⟩
  show (do pure (Next.value (<- Instr.makeSlice t (a.eval l) (a.eval c))):Sem Next).run P w=_
  simp only[Sem.run_bind,q2,Result.andThen_ok]
  rfl
def Du(P:Program)(n:Nat)(ops:Array Oper)(o:Oper)(a:an):Prop:=
 ∃f args ats l g,o.op=.call ⟨.value (.func f),args,ats⟩/\dN args.toList=some l/\jo n ops o.guard=some g/\dW n o.dst=true/\Nat.blt f cA=true/\a=⟨o.dst,.call (cA+f) l,g⟩
def zX(P:Program)(call:FuncId->List ab->aa->Option (ab×aa)):Prop:=
 ∀f args H v H',Nat.blt f cA=true->call (cA+f) args H=some (v,H')->∀Prot w0 ρ w (vs:Array Value),cg Prot w0 ρ H w->ap ρ args vs.toList ->
  Calls P f vs w fun e w'=>∃ρ',ρ.le ρ'/\cg Prot w0 ρ' H' w'/\((∃u,e=.returned u/\ak ρ' v u)∨∃x u,v=lI x/\e=.panicked [{ v:=u,recovered:=false }]/\ak ρ' x u)
def Pn(P:Program)(n:Nat)(ops:Array Oper)(l:List an)(ms:List Nat)(rp:Nat->Prop)(o:Oper)(a:an)(j:Nat):Prop:=
 ∃a' c d ac,eu P n ops o=some a'/\a'.guard=none/\a=⟨a'.dst,a'.op,some (SK+d,false)⟩/\jR ms j c=true/\rp c/\l[c]?=some ac/\ac.dst=some d/\∀k b,l[k]?=some b->b.dst=some d->k=c
theorem LW(K d:Nat):(bif Nat.ble K (K+d) then K+d-K else K+d)=d/\Nat.ble K (K+d)=true:=by
 have h:Nat.ble K (K+d)=true:=QS (Nat.le_add_right _ _)
 rw[h]
 exact⟨Nat.add_sub_cancel_left ..,rfl⟩
theorem KS(d:Nat):gS (SK+d)=d/\Nat.ble SK (SK+d)=true:=LW SK d
theorem nR{x:ab}(h:gp x=true):∃y,x=lI y:=by
 unfold gp at h
 split at h
 ·exact⟨_,rfl⟩
 ·simp at h
theorem AA{ρ:Pl}{x y:ab}{v:Value}(h:ak ρ x v)(e:x=lI y):False:=by
 subst e
 simp only[lI,ak,ap]at h
 obtain⟨f,c,_,⟨v,r,_,⟨h1,h2⟩,_⟩,_⟩:=h
 simp[MS]at h2
set_option maxHeartbeats 2000000 in
theorem yN{RAW:Prop}(htb:∀f,Nat.blt f cA=true->tb f=true->bX P f=true)(hcall:js P call)(htbP:RAW->∀f,Nat.blt f cA=true->tb (cA+f)=true->bX P f=true)(hcallP:RAW->zX P call){ds:List Deferred}{n:Nat}{ops:Array Oper}{l:List an}{base:Nat}{ms:List Nat}{rp:Nat->Prop}
  (hlen:l.length=ops.toList.length) (hopers:∀(j:Nat) (o:Oper),ops.toList[j]?=some o->∃a,l[j]?=some a/\((¬rp j/\(eu P n ops o=some a∨(∃c,base<=c/\EX P n ops o a c)∨Pn P n ops l ms rp o a j))∨(RAW/\rp j/\Du P n ops o a)))
  (hbase:∀d,Prot.dead d->d<base) (hdis:∀(i j:Nat) (a b:an) (c:Nat) (z z':List ab) (s s':Option (Nat×Nat)),l[i]?=some a->l[j]?=some b->a.op=.claim c z s->b.op=.claim c z' s'->i=j)
  (hm:gN (ops.toList.map bi) ms=true) (hp:eE l ms=true) {T0:Tr ab} {H0:aa} {ss:List (ab×aa)} (htr:cP tb call l T0 H0=some ss)
  (hck:fR tb (H0::ss.map (·.2)) l ((List.range l.length).map (eG l ms)) ss T0=true) {ρ0:Pl} {Q:Exit->Act->World->Prop}
  (hQ:∀a w,(∃ρ,ρ0.le ρ/\cg Prot w0 ρ (eF H0 ss l.length) w/\bx ρ n (bF (fun _=>true) 0 l ss T0) a.tmps/\a.defers=ds)->Q .normal a w)
  (hQP:RAW->∀(c:Nat) (a:Act) (w:World) (ρ:Pl) (x:ab) (u:Value),rp c->ρ0.le ρ->(∃H1,ss[c]?=some (lI x,H1)/\cg Prot w0 ρ H1 w)->ak ρ x u->a.defers=ds->Q (.panic [{ v:=u,recovered:=false }]) a w) :
  ∀(fuel:Nat) (listed:Array Bool) (a:Act) (w:World),listed.size=ops.size->tW (fun i=>listed.getD i false) ops.size=fuel ->
   (∀j,j<ops.size->listed.getD j false=true->∀e∈(ops.toList.map bi).getD j [],listed.getD e false=true) ->
   (∀c,rp c->listed.getD c false=true->∀x H1,ss[c]?≠some (lI x,H1)) ->
   (∃ρ,ρ0.le ρ/\cg ⟨Prot.prot,mz Prot.dead l fun i=>listed.getD i false⟩ w0 ρ (eF H0 ss (aC (fun i=>listed.getD i false) 0 l)) w/\bx ρ n (bF (fun i=>listed.getD i false) 0 l ss T0) a.tmps/\a.defers=ds) ->
   wpAny P .any ops Q fuel listed a w:=by
 have hN:l.length=ops.size:=by simpa using hlen
 obtain⟨hsl,hat⟩:=hZ l T0 H0 ss 0 htr
 have hes:(ops.toList.map bi).length=ops.size:=by simp
 have hpair:∀i j a b,i<j->l[i]?=some a->l[j]?=some b->gM ms i j a b=true:=by
  intro i j a b hij hi hj
  unfold eE at hp
  rw[List.all_eq_true]at hp
  have hjl:=(QR.1 hj).1
  have h1:=hp j (List.mem_range.2 hjl)
  rw[hj]at h1
  simp only at h1
  rw[List.all_eq_true]at h1
  have h2:=h1 i (List.mem_range.2 hij)
  rw[hi]at h2
  exact h2
 intro fuel
 induction fuel with
 | zero=>
  intro listed a w hsz hu _ _ hinv
  have hall:∀i,i<ops.size->listed.getD i false=true:=rF hu
  refine⟨?_,hQ a w ?_⟩
  ·unfold Region.ready
   rw[List.filter_eq_nil_iff]
   intro i hi
   have:=hall i (List.mem_range.1 hi)
   have e:listed.getD i true=true:=by
    rw[Array.getD_eq_getD_getElem?]at this ⊢
    rw[Array.getElem?_eq_getElem (by rw[hsz]; exact List.mem_range.1 hi)]at this ⊢
    simpa using this
   simp[e]
  ·obtain⟨ρ,h1,h2,h3,h4⟩:=hinv
   refine⟨ρ,h1,?_,h3.congr fun t=>?_,h4⟩
   ·have hs:=ed (fun i=>listed.getD i false) l 0
    have:aC (fun i=>listed.getD i false) 0 l=l.length:=by
     obtain⟨q1,q2,q3,q4⟩:=hs
     rcases Nat.lt_or_ge (aC (fun i=>listed.getD i false) 0 l) l.length with q | q
     ·have ho:l[aC (fun i=>listed.getD i false) 0 l-0]?=some l[aC (fun i=>listed.getD i false) 0 l]:=by simp
      have:=(q4 _ (by simpa using q) ho).2
      rw[hall _ om]at this
      simp at this
     ·omega
    rw[this]at h2
    exact h2.fewer (D:=Prot.dead) fun d hd=>.inl hd
   ·refine gh l ss 0 T0 T0 rfl fun i o hi _=>?_
    have:=(QR.1 hi).1
    simp only[Nat.zero_add]
    exact (hall i om).symm
 | succ fuel ih=>
  intro listed a w hsz hu hdown hliv hinv
  obtain⟨ρ,hle,R,ht,hd⟩:=hinv
  have hml:=qx hm (m:=fun i=>listed.getD i false) (fun j hj hjl e he=>hdown j om hjl e he)
  have hmask:∀j,j<ops.size->(∀e∈(ops.toList.map bi).getD j [],listed.getD e false=true)->∀i,i<j->jR ms j i=true->listed.getD i false=true:=
   fun j hj he i hi hb=>hml j om he i hi hb
  refine⟨fun hnone=>?_,fun i hi=>?_⟩
  ·-- there is one that is ready
   exfalso
   have hex:∃i,i<ops.size/\listed.getD i false=false:=by
    rcases Classical.em (∃i,i<ops.size/\listed.getD i false=false) with h | h
    ·exact h
    ·exfalso
     have:tW (fun i=>listed.getD i false) ops.size=0:=vV fun i hi=>by
      cases hb:listed.getD i false with
      | true=>rfl
      | false=>exact (h ⟨i,hi,hb⟩).elim
     omega
   have hmin:∃i,i<ops.size/\listed.getD i false=false/\∀j,j<i->listed.getD j false=true:=by
    obtain⟨i,hi1,hi2⟩:=hex
    induction i using Nat.strongRecOn with
    | _ i ihm=>
     rcases Classical.em (∃j,j<i/\listed.getD j false=false) with⟨j,hj,hj2⟩ | h
     ·exact ihm j hj om hj2
     ·refine⟨i,hi1,hi2,fun j hj=>?_⟩
      cases hb:listed.getD j false with
      | true=>rfl
      | false=>exact (h ⟨j,hj,hb⟩).elim
   obtain⟨i,hi1,hi2,hi3⟩:=hmin
   have:i∈Region.ready .any ops listed:=by
    rw[mem_ready]
    refine⟨?_,ops[i],Array.getElem?_eq_getElem hi1,fun e he hb=>?_⟩
    ·rw[Array.getD_eq_getD_getElem?]at hi2 ⊢
     rw[Array.getElem?_eq_getElem om]at hi2 ⊢
     simpa using hi2
    ·refine hi3 _ ?_
     unfold gN at hm
     rw[List.all_eq_true]at hm
     have h1:=hm i (List.mem_range.2 om)
     simp only[QT,List.all_eq_true]at h1
     refine QW (h1.1 e.on ?_)
     have:(ops.toList.map bi).getD i []=bi ops[i]:=by simp[List.getD,hi1]
     rw[this]
     unfold bi
     rw[List.mem_map]
     exact⟨e,by rw[List.mem_filter]; exact⟨by simpa using he,hb⟩,rfl⟩
   rw[hnone]at this
   simp at this
  ·obtain⟨hi1,o,ho,hedge⟩:=mem_ready.1 hi
   have hiN:i<ops.size:=(Array.getElem?_eq_some_iff.1 ho).1
   have hmi:listed.getD i false=false:=by
    rw[Array.getD_eq_getD_getElem?]at hi1 ⊢
    rw[Array.getElem?_eq_getElem om]at hi1 ⊢
    simpa using hi1
   obtain⟨ao,hao,hco⟩:=hopers i o (by simpa using ho)
   have hedges:∀e∈(ops.toList.map bi).getD i [],listed.getD e false=true:=by
    have:(ops.toList.map bi).getD i []=bi o:=by
     have:ops[i]=o:=by simpa[Array.getElem?_eq_getElem hiN] using ho
     simp[List.getD,hiN,this]
    rw[this]
    intro e he
    unfold bi at he
    rw[List.mem_map]at he
    obtain⟨x,hx,rfl⟩:=he
    rw[List.mem_filter]at hx
    exact hedge x (by simpa using hx.1) hx.2
   have hafter:∀c b,i<c->l[c]?=some b->jR ms c i=true->listed.getD c false=false:=by
    intro c b hc hb hbit
    cases hx:listed.getD c false with
    | false=>rfl
    | true=>
     have hcN:=(QR.1 hb).1
     have:=hmask c om (hdown c om hx) i hc hbit
     rw[hmi]at this
     simp at this
   have hagree:∀t∈jL ao,(bF (fun i=>listed.getD i false) 0 l ss T0).get t=(bF (fun j=>Nat.blt j (0+i)) 0 l ss T0).get t:=by
    intro t htr'
    refine gh l ss 0 T0 T0 rfl fun c b hc hdst=>?_
    have hcN:=(QR.1 hc).1
    simp only[Nat.zero_add]
    rcases Nat.lt_trichotomy c i with h | h | h
    ·have e:Nat.blt c i=true:=QS h
     rw[e]
     have hpr:=hpair c i b ao h hc hao
     simp only[gM,Bool.or_eq_true,QT]at hpr
     rcases hpr with hpr | ⟨_,hpr⟩
     ·exact hmask i hiN hedges c h hpr
     ·exfalso
      simp only[wI,hdst,QT,Bool.not_eq_true',List.contains_eq_mem,decide_eq_false_iff_not]at hpr
      exact hpr.1.1 htr'
    ·subst h
     have e:Nat.blt c c=false:=by
      cases hb:Nat.blt c c with
      | false=>rfl
      | true=>have:=QW hb; omega
     rw[e]; exact hmi
    ·have e:Nat.blt c i=false:=by
      cases hb:Nat.blt c i with
      | false=>rfl
      | true=>have:=QW hb; omega
     rw[e]
     have hpr:=hpair i c ao b h hao hc
     simp only[gM,Bool.or_eq_true,QT]at hpr
     rcases hpr with hpr | ⟨_,hpr⟩
     ·exact hafter c b h hc hpr
     ·exfalso
      simp only[wI,hdst,QT,Bool.not_eq_true',List.contains_eq_mem,decide_eq_false_iff_not]at hpr
      exact hpr.2 htr'
   have hgd:im (bF (fun i=>listed.getD i false) 0 l ss T0) ao.guard=im (bF (fun j=>Nat.blt j (0+i)) 0 l ss T0) ao.guard:=by
    cases hg:ao.guard with
    | none=>rfl
    | some g=>
     obtain⟨t,b⟩:=g
     simp only[im,ev]
     rw[hagree (gS t) (by simp[jL,hg])]
   have hop:∀H,ct tb (bF (fun i=>listed.getD i false) 0 l ss T0) H ao.op=ct tb (bF (fun j=>Nat.blt j (0+i)) 0 l ss T0) H ao.op:=
    fun H=>vK fun t h=>hagree t (by simp only[jL,List.mem_append]; exact .inl h)
   obtain⟨v,H1,hss,hstep⟩:=hat i ao hao
   obtain⟨st1,st2,st3,st4⟩:=ed (fun i=>listed.getD i false) l 0
   have hchain:aI ao.op=true->aC (fun i=>listed.getD i false) 0 l=i:=by
    intro hc
    have hge:aC (fun i=>listed.getD i false) 0 l<=i:=by
     rcases Nat.lt_or_ge i (aC (fun i=>listed.getD i false) 0 l) with h | h
     ·have:=st3 i ao hao hc (by simpa using h)
      simp only[Nat.zero_add]at this
      rw[hmi]at this
      simp at this
     ·exact h
    rcases Nat.lt_or_ge (aC (fun i=>listed.getD i false) 0 l) i with h | h
    ·have hob:l[aC (fun i=>listed.getD i false) 0 l-0]?=some (l[aC (fun i=>listed.getD i false) 0 l]'om):=by simp
     obtain⟨q1,q2⟩:=st4 _ om hob
     have hob2:l[aC (fun i=>listed.getD i false) 0 l]?=some (l[aC (fun i=>listed.getD i false) 0 l]'om):=QQ om
     have hpr:=hpair _ i _ ao h hob2 hao
     simp only[gM,Bool.or_eq_true,QT]at hpr
     rcases hpr with hpr | ⟨hpr,_⟩
     ·have:=hmask i hiN hedges _ h hpr
      rw[q2]at this
      simp at this
     ·rw[q1,hc]at hpr
      simp at hpr
    ·omega
   have hnext:(rp i->∀x,v≠lI x)->∀(ρ':Pl) (w':World) (a':Act),ρ.le ρ'->cg ⟨Prot.prot,mz Prot.dead l fun j=>if j=i then true else listed.getD j false⟩ w0 ρ' (if aI ao.op=true then H1 else eF H0 ss (aC (fun i=>listed.getD i false) 0 l)) w' ->
     bx ρ' n (cQ (bF (fun i=>listed.getD i false) 0 l ss T0) ao.dst v) a'.tmps->a'.defers=ds->wpAny P .any ops Q fuel (listed.setIfInBounds i true) a' w':=by
    intro hnp ρ' w' a' hle' R' ht' hd'
    have hm':∀j,(listed.setIfInBounds i true).getD j false=if j=i then true else listed.getD j false:=by
     intro j
     by_cases e:j=i
     ·subst e
      rw[if_pos rfl,Array.getD_eq_getD_getElem?]
      have:j<listed.size:=om
      simp[this]
     ·rw[if_neg e]
      exact getD_set_ne false (fun q=>e q.symm)
    have hmf:(fun j=>(listed.setIfInBounds i true).getD j false)=fun j=>if j=i then true else listed.getD j false:=funext hm'
    refine ih _ a' w' (by simpa using hsz) ?_ ?_ ?_ ⟨ρ',Pl.le_trans hle hle',?_,?_,hd'⟩
    ·have:=vU (m:=fun i=>listed.getD i false) (m':=fun j=>(listed.setIfInBounds i true).getD j false) (i:=i) (n:=ops.size) hiN hmi (by rw[hm',if_pos rfl]) (fun j hj=>by rw[hm',if_neg hj])
     omega
    ·intro j hj hjl e he
     rw[hm']at hjl ⊢
     by_cases q:e=i
     ·rw[if_pos q]
     ·rw[if_neg q]
      by_cases q2:j=i
      ·subst q2; exact hedges e he
      ·rw[if_neg q2]at hjl; exact hdown j hj hjl e he
    ·intro c hrc hcl x Hx hcs
     rw[hm']at hcl
     by_cases q:c=i
     ·subst q
      rw[hss,sJ,pJ]at hcs
      exact hnp hrc x hcs.1
     ·rw[if_neg q]at hcl
      exact hliv c hrc hcl x Hx hcs
    ·rw[hmf]
     cases hc:aI ao.op with
     | false=>
      rw[hc]at R'
      simp only[Q1,if_false]at R'
      have:aC (fun j=>if j=i then true else listed.getD j false) 0 l=aC (fun i=>listed.getD i false) 0 l:=
       ie l 0 fun c b hcb hcc=>by
        simp only[Nat.zero_add]
        rw[if_neg]
        intro e
        subst e
        rw[hao]at hcb
        simp only[sJ]at hcb
        subst hcb
        rw[hc]at hcc
        simp at hcc
      rw[this]
      exact R'
     | true=>
      rw[hc]at R'
      simp only[if_true]at R'
      have hpi:=hchain hc
      obtain⟨s1,s2,s3,s4⟩:=ed (fun j=>if j=i then true else listed.getD j false) l 0
      have hgt:i<aC (fun j=>if j=i then true else listed.getD j false) 0 l:=by
       rcases Nat.lt_or_ge i (aC (fun j=>if j=i then true else listed.getD j false) 0 l) with h | h
       ·exact h
       ·exfalso
        have hob:l[aC (fun j=>if j=i then true else listed.getD j false) 0 l-0]?=some (l[aC (fun j=>if j=i then true else listed.getD j false) 0 l]'om):=by simp
        obtain⟨q1,q2⟩:=s4 _ om hob
        by_cases e:aC (fun j=>if j=i then true else listed.getD j false) 0 l=i
        ·rw[if_pos e]at q2; simp at q2
        ·rw[if_neg e]at q2
         have hob2:l[aC (fun j=>if j=i then true else listed.getD j false) 0 l]?=some (l[aC (fun j=>if j=i then true else listed.getD j false) 0 l]'om):=QQ om
         have:=st3 _ _ hob2 q1 om
         simp only[Nat.zero_add]at this
         rw[q2]at this
         simp at this
      have hb:=di htr (aC (fun j=>if j=i then true else listed.getD j false) 0 l-(i+1)) (i+1) om fun c b c1 c2 c3=>by
       cases hx:aI b.op with
       | false=>rfl
       | true=>
        exfalso
        have:=s3 c b c3 hx om
        simp only[Nat.zero_add]at this
        rw[if_neg om]at this
        have hpr:=hpair i c ao b om hao c3
        simp only[gM,Bool.or_eq_true,QT]at hpr
        rcases hpr with hpr | ⟨hpr,_⟩
        ·have h9:=hafter c b om c3 hpr
         rw[this]at h9
         simp at h9
        ·rw[hx,hc]at hpr
         simp at hpr
      rw[show i+1+(aC (fun j=>if j=i then true else listed.getD j false) 0 l-(i+1))=aC (fun j=>if j=i then true else listed.getD j false) 0 l by omega]at hb
      rw[hb]
      simp only[eF,hss]
      exact R'
    ·refine ht'.congr fun t=>?_
     rw[hmf,lV]
     by_cases e:ao.dst=some t
     ·rw[if_pos e]
      refine jW l ss 0 i T0 ao v H1 hao hss e (by simp) fun c b hc hcb hdst=>?_
      simp only[Nat.zero_add]
      rw[if_neg om]
      have hpr:=hpair i c ao b hc hao hcb
      simp only[gM,Bool.or_eq_true,QT]at hpr
      rcases hpr with hpr | ⟨_,hpr⟩
      ·exact hafter c b hc hcb hpr
      ·exfalso
       simp only[wI,e,QT,Bool.not_eq_true',beq_eq_false_iff_ne]at hpr
       exact hpr.1.2 hdst
     ·rw[if_neg e]
      refine gh l ss 0 T0 T0 rfl fun c b hc hdst=>?_
      simp only[Nat.zero_add]
      rw[if_neg]
      intro q
      subst q
      rw[hao]at hc
      simp only[sJ]at hc
      subst hc
      exact e hdst
   have hval:aI ao.op=false->im (bF (fun j=>Nat.blt j (0+i)) 0 l ss T0) ao.guard=true->∃H2,ct tb (bF (fun j=>Nat.blt j (0+i)) 0 l ss T0) (eF H0 ss (aC (fun i=>listed.getD i false) 0 l)) ao.op=some (.val v,H2):=by
    intro hc hgo
    unfold bI at hstep
    rw[hgo]at hstep
    simp only[cond_true]at hstep
    cases hpu:jQ ao.op with
    | true=>
     split at hstep
     ·rename_i u H2 hu
      simp only[sJ,pJ]at hstep
      obtain⟨rfl,rfl⟩:=hstep
      exact⟨_,(fL hpu hu).2.2 _⟩
     ·rename_i f args H2 hu
      obtain⟨_,⟨x,hx⟩,_⟩:=fL hpu hu
      simp at hx
     ·simp at hstep
    | false=>
     have hld:dH ao.op=true:=by
      unfold aI at hc
      cases h1:dH ao.op with
      | true=>rfl
      | false=>rw[hpu,h1]at hc; simp at hc
     cases hsm:qq l i (aC (fun i=>listed.getD i false) 0 l) with
     | true=>
      unfold qq at hsm
      rw[QT,List.all_eq_true]at hsm
      have hij:=QW hsm.1
      have hb:=di htr (aC (fun i=>listed.getD i false) 0 l-i) i om fun c b c1 c2 c3=>by
       have:=hsm.2 c (List.mem_range.2 om)
       rw[c3]at this
       simp only[Bool.or_eq_true,Bool.not_eq_true']at this
       rcases this with h | h
       ·have:=QW h; omega
       ·exact h
      rw[show i+(aC (fun i=>listed.getD i false) 0 l-i)=aC (fun i=>listed.getD i false) 0 l by omega]at hb
      rw[hb]
      split at hstep
      ·rename_i u H2 hu
       simp only[sJ,pJ]at hstep
       obtain⟨rfl,rfl⟩:=hstep
       exact⟨_,hu⟩
      ·rename_i f args H2 hu
       obtain⟨_,x,hx⟩:=jg hld hu
       simp at hx
      ·simp at hstep
     | false=>
      have hmem:aC (fun i=>listed.getD i false) 0 l∈eG l ms i:=by
       unfold eG
       rw[hao]
       simp only[hld,cond_true]
       rw[List.mem_filter]
       refine⟨List.mem_range.2 om,?_⟩
       rw[hsm]
       simp only[Bool.not_false,Bool.true_and]
       unfold uV
       rw[QT]
       refine⟨?_,?_⟩
       ·unfold mT
        rcases Nat.lt_or_ge (aC (fun i=>listed.getD i false) 0 l) l.length with h | h
        ·have hob:l[aC (fun i=>listed.getD i false) 0 l]?=some l[aC (fun i=>listed.getD i false) 0 l]:=QQ h
         rw[hob]
         exact (st4 _ om (by simp)).1
        ·rw[Q8 h]
         have:aC (fun i=>listed.getD i false) 0 l=l.length:=om
         rw[this]
         exact Nat.beq_refl _
       ·rw[List.all_eq_true]
        intro c hcr
        have hcl:=List.mem_range.1 hcr
        rw[QQ hcl]
        simp only[Bool.or_eq_true,Bool.not_eq_true']
        cases hcc:aI l[c].op with
        | false=>exact .inl rfl
        | true=>
         right
         have hlc:l[c]?=some l[c]:=QQ hcl
         cases hb:Nat.blt c (aC (fun i=>listed.getD i false) 0 l) with
         | true=>
          simp only[cond_true,Bool.not_eq_true']
          have hlt:c<aC (fun i=>listed.getD i false) 0 l:=QW hb
          have hcm:=st3 c _ hlc hcc om
          simp only[Nat.zero_add]at hcm
          cases hbit:jR ms c i with
          | false=>rfl
          | true=>
           exfalso
           rcases Nat.lt_trichotomy i c with h | h | h
           ·have:=hafter c _ h hlc hbit
            rw[hcm]at this; simp at this
           ·subst h; rw[hmi]at hcm; simp at hcm
           ·have:=kQ hbit
            omega
         | false=>
          simp only[cond_false,Bool.not_eq_true']
          have hge:aC (fun i=>listed.getD i false) 0 l<=c:=by
           rcases Nat.lt_or_ge c (aC (fun i=>listed.getD i false) 0 l) with h | h
           ·have:Nat.blt c (aC (fun i=>listed.getD i false) 0 l)=true:=QS h
            rw[hb]at this; simp at this
           ·exact h
          cases hbit:jR ms i c with
          | false=>rfl
          | true=>
           exfalso
           have hlc2:=hmask i hiN hedges c (kQ hbit) hbit
           have hpl:aC (fun i=>listed.getD i false) 0 l<l.length:=om
           have hob2:l[aC (fun i=>listed.getD i false) 0 l]?=some (l[aC (fun i=>listed.getD i false) 0 l]'hpl):=QQ hpl
           obtain⟨q1,q2⟩:=st4 _ om (by rw[Nat.sub_zero]; exact hob2)
           rcases Nat.lt_trichotomy (aC (fun i=>listed.getD i false) 0 l) c with h | h | h
           ·have hpr:=hpair _ c _ _ h hob2 hlc
            simp only[gM,Bool.or_eq_true,QT]at hpr
            rcases hpr with hpr | ⟨hpr,_⟩
            ·have:=hmask c om (hdown c om hlc2) _ h hpr
             rw[q2]at this; simp at this
            ·rw[q1,hcc]at hpr; simp at hpr
           ·rw[h]at q2; rw[q2]at hlc2; simp at hlc2
           ·omega
      obtain⟨Hp,hHp,hrun⟩:=HI l _ ss T0 0 hck i _ (eG l ms i) v H1 hao (by simp[hN,hiN]) hss _ hmem
      obtain⟨H2,hH2⟩:=hrun hgo
      refine⟨H2,?_⟩
      have:Hp=eF H0 ss (aC (fun i=>listed.getD i false) 0 l):=by
       cases hstg:aC (fun i=>listed.getD i false) 0 l with
       | zero=>rw[hstg]at hHp; simpa[eF] using hHp.symm
       | succ q=>
        rw[hstg]at hHp
        simp only[Q0,List.getElem?_map]at hHp
        simp only[eF]
        cases hq:ss[q]? with
        | none=>rw[hq]at hHp; simp at hHp
        | some z=>rw[hq]at hHp; obtain⟨z1,z2⟩:=z; simpa using hHp.symm
      rw[<- this]
      exact hH2
   have hfew:∀d,mz Prot.dead l (fun j=>if j=i then true else listed.getD j false) d->mz Prot.dead l (fun i=>listed.getD i false) d:=by
    rintro d (hd | ⟨i',a',z',s',x1,x2,x3⟩)
    ·exact .inl hd
    ·refine .inr ⟨i',a',z',s',x1,x2,?_⟩
     simp only at x3
     by_cases e:i'=i
     ·rw[if_pos e]at x3; simp at x3
     ·rw[if_neg e]at x3; exact x3
   have hord:(¬rp i/\∃ax g,wP P o.op=some ax/\dW n o.dst=true/\ao=⟨o.dst,ax,g⟩/\Region.wanted o (yielded ops a.tmps)=im (bF (fun i=>listed.getD i false) 0 l ss T0) g)∨(¬rp i/\∃c,base<=c/\EX P n ops o ao c)∨(RAW/\rp i/\Du P n ops o ao):=by
    have hc0:∀a',eu P n ops o=some a'->∃ax g,wP P o.op=some ax/\dW n o.dst=true/\a'=⟨o.dst,ax,g⟩/\jo n ops o.guard=some g:=by
     intro a' hco
     unfold eu at hco
     split at hco
     ·rename_i ax g hopc hgc
      cases hdst:dW n o.dst with
      | false=>rw[hdst]at hco; simp at hco
      | true=>
       rw[hdst]at hco
       simp only[cond_true,sJ]at hco
       exact⟨ax,g,hopc,rfl,hco.symm,hgc⟩
     ·simp at hco
    rcases hco with⟨hnr,hco | hco | ⟨a',c,d,ac,hco,hgn,rfl,hbc,hrc,hlc,hcd,honly⟩⟩ | hco
    ·obtain⟨ax,g,q1,q2,q3,q4⟩:=hc0 _ hco
     exact .inl ⟨hnr,ax,g,q1,q2,q3,gq ht q4⟩
    ·exact .inr (.inl ⟨hnr,hco⟩)
    ·obtain⟨ax,g,q1,q2,rfl,q4⟩:=hc0 _ hco
     simp only at hgn
     subst hgn
     refine .inl ⟨hnr,ax,_,q1,q2,rfl,?_⟩
     have hcl:=hmask i hiN hedges c (kQ hbc) hbc
     rw[gq ht q4,hgd]
     obtain⟨vc,Hc,hsc,_⟩:=hat c ac hlc
     have hget:(bF (fun j=>Nat.blt j (0+i)) 0 l ss T0).get d=some vc:=by
      have:=jW (m:=fun j=>Nat.blt j (0+i)) l ss 0 c T0 ac vc Hc hlc hsc hcd (by simp only[Nat.zero_add]; exact QS (kQ hbc)) fun k b hk hkb hdst=>absurd (honly k b hkb hdst) om
      exact this
     obtain⟨k1,k2⟩:=KS d
     simp only[im,gV,k1,k2,cond_true,ev,hget]
     cases hp:gp vc with
     | false=>rfl
     | true=>
      obtain⟨x,rfl⟩:=nR hp
      exact absurd hsc (hliv c hrc hcl x Hc)
    ·exact .inr (.inr hco)
   rcases hord with⟨hnr,ax,g,hopc,hdst,rfl,hwant⟩ | ⟨hnr,cb,hcb,z,s,g,hoe,hgc,hdst,rfl⟩ | ⟨hraw,hrp,f,args,ats,lx,g,hoe,hlx,hgc,hdst,hbig,rfl⟩
   ·replace hnext:=hnext fun hr=>absurd hr hnr
    ·simp only at hgd hop hnext hchain hao
     unfold wpOp
     simp only[ho]
     rw[hwant,hgd]
     have hd':∀u,(a.put o.dst u).defers=ds:=fun u=>by cases hx:o.dst <;> simpa[Act.put] using hd
     unfold bI at hstep
     simp only at hstep
     cases hgo:im (bF (fun j=>Nat.blt j (0+i)) 0 l ss T0) g with
     | false=>
      rw[hgo]at hstep
      simp only[cond_false,sJ,pJ]at hstep
      obtain⟨rfl,rfl⟩:=hstep
      simp only[Q1,if_false]
      refine hnext ρ w _ (Pl.le_refl _) ?_ (cu ht hdst ez) (hd' _)
      split
      ·rename_i hc
       have h9:=R.fewer hfew
       rw[hchain hc]at h9
       exact h9
      ·exact R.fewer hfew
     | true=>
      rw[hgo]at hstep
      simp only[cond_true]at hstep
      simp only[if_true]
      left
      cases hc:aI ax with
      | true=>
       have hpi:=hchain hc
       rw[hpi]at R
       rw[<- hop]at hstep
       split at hstep
       ·rename_i u H2 hu
        simp only[sJ,pJ]at hstep
        obtain⟨rfl,rfl⟩:=hstep
        obtain⟨ρ1,w1,nx,q1,q2,q3,q4⟩:=jN htb R ht o hopc hu
        simp only[Oper.wp,q2]
        rw[hc]at hnext
        simp only[if_true]at hnext
        cases nx <;> simp only[kw]at q4
        case value u=>exact hnext ρ1 w1 _ q1 (q3.fewer hfew) (cu (ht.mono q1) hdst q4) (hd' _)
        case skip=>exact hnext ρ1 w1 _ q1 (q3.fewer hfew) (cu (ht.mono q1) hdst q4) (hd' _)
       ·rename_i f args H2 hu
        obtain⟨ρ1,w1,nx,q1,q2,q3,q4⟩:=jN htb R ht o hopc hu
        simp only[Oper.wp,q2]
        rw[hc]at hnext
        simp only[if_true]at hnext
        cases nx <;> simp only[kw]at q4
        case enter gf vs=>
         obtain⟨rfl,hbig,q5⟩:=q4
         simp only[Oper.upon]
         refine (hcall _ _ _ _ _ hbig hstep ⟨Prot.prot,mz Prot.dead l fun i=>listed.getD i false⟩ w0 ρ1 w1 vs q3 q5).mono fun e w' hr=>?_
         obtain⟨ρ2,u,r1,rfl,r3,r4⟩:=hr
         exact hnext ρ2 w' _ (Pl.le_trans q1 r1) (r3.fewer hfew) (cu ((ht.mono q1).mono r1) hdst r4) (hd' _)
       ·simp at hstep
      | false=>
       rw[hc]at hnext
       simp only[Q1,if_false]at hnext
       obtain⟨H2,hH2⟩:=hval hc hgo
       have hsame:H2=eF H0 ss (aC (fun i=>listed.getD i false) 0 l):=by
        have hk:jQ ax=true∨dH ax=true:=by
         unfold aI at hc
         cases h1:jQ ax <;> cases h2:dH ax <;> simp_all
        rcases hk with hk | hk
        ·exact (fL hk hH2).1
        ·exact (jg hk hH2).1
       subst hsame
       rw[<- hop]at hH2
       obtain⟨ρ1,w1,nx,q1,q2,q3,q4⟩:=jN htb R ht o hopc hH2
       simp only[Oper.wp,q2]
       cases nx <;> simp only[kw]at q4
       case value u=>exact hnext ρ1 w1 _ q1 (q3.fewer hfew) (cu (ht.mono q1) hdst q4) (hd' _)
       case skip=>exact hnext ρ1 w1 _ q1 (q3.fewer hfew) (cu (ht.mono q1) hdst q4) (hd' _)
   ·-- a new block,of a number that was laid mz
    replace hnext:=hnext fun hr=>absurd hr hnr
    simp only at hgd hop hnext hchain hao hval
    unfold wpOp
    simp only[ho]
    rw[gq ht hgc,hgd]
    have hd':∀u,(a.put o.dst u).defers=ds:=fun u=>by cases hx:o.dst <;> simpa[Act.put] using hd
    have hnc:aI (jv.claim cb z s)=false:=rfl
    rw[hnc]at hnext
    simp only[Q1,if_false]at hnext
    cases hgo:im (bF (fun j=>Nat.blt j (0+i)) 0 l ss T0) g with
    | false=>
     unfold bI at hstep
     simp only at hstep
     rw[hgo]at hstep
     simp only[cond_false,sJ,pJ]at hstep
     obtain⟨rfl,rfl⟩:=hstep
     simp only[Q1,if_false]
     exact hnext ρ w _ (Pl.le_refl _) (R.fewer hfew) (cu ht hdst ez) (hd' _)
    | true=>
     simp only[if_true]
     left
     obtain⟨H2,hH2⟩:=hval hnc hgo
     simp only[ct]at hH2
     obtain⟨y,hy,hv,_⟩:=bN hH2
     simp only[Nx.val.injEq]at hv
     subst hv
     obtain⟨hget,rfl⟩:=Bp hy
     obtain⟨ρ1,w1,u,q1,hrun,q3,q4⟩:=EA R ht hoe (.inr ⟨i,_,z,s,hao,rfl,hmi⟩) hget
     simp only[Oper.wp,hrun]
     refine hnext ρ1 w1 _ q1 (q3.fewer ?_) (cu (ht.mono q1) hdst q4) (hd' _)
     intro d hd0
     refine⟨hfew d hd0,?_⟩
     rintro rfl
     rcases hd0 with hd0 | ⟨i',a',z',s',x1,x2,x3⟩
     ·have:=hbase _ hd0; omega
     ·have:=hdis i' i a' _ _ z' z s' s x1 hao x2 rfl
      subst this
      simp at x3
   ·-- a call whose panic is Ac
    simp only at hgd hop hnext hchain hao hval
    unfold wpOp
    simp only[ho]
    rw[gq ht hgc,hgd]
    have hd':∀u,(a.put o.dst u).defers=ds:=fun u=>by cases hx:o.dst <;> simpa[Act.put] using hd
    have hnc:aI (jv.call (cA+f) lx)=true:=rfl
    rw[hnc]at hnext
    simp only[if_true]at hnext
    have hpi:=hchain hnc
    rw[hpi]at R
    unfold bI at hstep
    simp only at hstep
    cases hgo:im (bF (fun j=>Nat.blt j (0+i)) 0 l ss T0) g with
    | false=>
     rw[hgo]at hstep
     simp only[cond_false,sJ,pJ]at hstep
     obtain⟨rfl,rfl⟩:=hstep
     simp only[Q1,if_false]
     exact hnext (fun _ x hx=>by simp[aX,lI]at hx) ρ w _ (Pl.le_refl _) (R.fewer hfew) (cu ht hdst ez) (hd' _)
    | true=>
     rw[hgo]at hstep
     simp only[cond_true]at hstep
     simp only[if_true]
     left
     rw[<- hop]at hstep
     simp only[ct]at hstep
     cases hb:tb (cA+f) with
     | false=>rw[hb]at hstep; simp at hstep
     | true=>
      rw[hb]at hstep
      simp only[cond_true]at hstep
      have hrun:(execOp a.eval o).run P w=.ok (.enter f (args.map a.eval)) w:=by
       have:=fY (P:=P) (w:=w) (htbP hraw f hbig hb) (args.map a.eval)
       obtain⟨dst,op,type,pos,after,guard⟩:=o
       simp only at hoe
       subst hoe
       simp[execOp,resolve,Act.eval,Deferred.ofValue,invoke,this]
      simp only[Oper.wp,hrun,Oper.upon]
      refine (hcallP hraw f _ _ _ _ hbig hstep ⟨Prot.prot,mz Prot.dead l fun i=>listed.getD i false⟩ w0 ρ w (args.map a.eval) R (by simpa using gY ht hlx)).mono fun e w' hr=>?_
      obtain⟨ρ2,r1,r3,⟨u,rfl,r4⟩ | ⟨x,u,rfl,rfl,r4⟩⟩:=hr
      ·exact hnext (fun _ x hx=>AA r4 hx) ρ2 w' _ r1 (r3.fewer hfew) (cu (ht.mono r1) hdst r4) (hd' _)
      ·exact hQP hraw i a w' ρ2 x u hrp (Pl.le_trans hle r1) ⟨H1,hss,r3.fewer (D:=Prot.dead) fun d hd=>.inl hd⟩ r4 hd
end
end Go.Abs
namespace Go.Abs
theorem tk{P:Program}{c:Call}{b:Nat}{z:List ab}{s:Option (Nat×Nat)}(h:kf P c=some (.claim b z s)):False:=by
 unfold kf at h
 repeat' split at h
 all_goals first
  | (simp at h; done)
  | (simp only[cond_eq_ite]at h; split at h <;> simp at h)
theorem tp{P:Program}{o:Op}{b:Nat}{z:List ab}{s:Option (Nat×Nat)}(h:pW P o=some (.claim b z s)):False:=by
 unfold pW at h
 repeat' split at h
 all_goals first
  | (simp at h; done)
  | (simp only[cond_eq_ite]at h; split at h <;> first | (simp at h; done) | (split at h <;> simp at h))
theorem uj{P:Program}{o:Op}{b:Nat}{z:List ab}{s:Option (Nat×Nat)}(h:wP P o=some (.claim b z s)):False:=by
 unfold wP at h
 split at h
 ·rename_i a ha
  simp only[sJ]at h
  subst h
  exact tp ha
 ·split at h
  ·rename_i a ha
   simp only[sJ]at h
   subst h
   cases o <;> simp only[yY,reduceCtorEq]at ha
   case call c _=>exact tk ha
   all_goals
    exfalso
    repeat' split at ha
    all_goals first
     | (simp at ha; done)
     | (simp only[cond_eq_ite]at ha; split at ha <;> simp at ha)
  ·simp at h
def iP(l:List an):Prop:=∀a∈l,∀(c:Nat) (z:List ab) (s:Option (Nat×Nat)),a.op≠.claim c z s
theorem fE{P:Program}{n:Nat}{ops:Array Oper}:∀{rest:List Oper} {l:List an},dd P n ops rest=some l->iP l:=by
 intro rest
 induction rest with
 | nil=>intro l h; simp only[dd,sJ]at h; subst h; intro a ha; simp at ha
 | cons o r ih=>
  intro l h
  simp only[dd]at h
  split at h
  ·rename_i a l' ha hl'
   simp only[sJ]at h
   subst h
   intro x hx c z s hc
   rcases List.mem_cons.1 hx with rfl | hx
   ·unfold eu at ha
    split at ha
    ·rename_i ax g hopc hg
     cases hdst:dW n o.dst with
     | false=>rw[hdst]at ha; simp at ha
     | true=>
      rw[hdst]at ha
      simp only[cond_true,sJ]at ha
      subst ha
      simp only at hc
      subst hc
      exact uj hopc
    ·simp at ha
   ·exact ih hl' x hx c z s hc
  ·simp at h
theorem mr(b:Nat)(o:an)(r:List an):(∃z s,aF b (o::r)=⟨o.dst,.claim b z s,o.guard⟩::aF (b+1) r/\∀H,bY H (o::r)=bY (H.push (.cells z 0 false)) r) ∨
  (aF b (o::r)=o::aF b r/\∀H,bY H (o::r)=bY H r):=by
 cases h:et o.op with
 | some p=>obtain⟨z,s⟩:=p; exact .inl ⟨z,s,by simp only[aF,h],fun H=>by simp only[bY,h]⟩
 | none=>exact .inr ⟨by simp only[aF,h],fun H=>by simp only[bY,h]⟩
theorem mU:∀(l:List an) (b:Nat),iP l->∀(i:Nat) (a:an) (c:Nat) (z:List ab) (s:Option (Nat×Nat)),(aF b l)[i]?=some a->a.op=.claim c z s->b<=c
 | [],b,_,i,a,c,z,s,h,_=>by simp[aF]at h
 | o::r,b,hn,i,a,c,z,s,h,hc=>by
  have hr:iP r:=fun x hx=>hn x (List.mem_cons_of_mem _ hx)
  rcases mr b o r with⟨z',s',e,_⟩ | ⟨e,_⟩
  ·rw[e]at h
   cases i with
   | zero=>
    simp only[QZ,sJ]at h
    subst h
    simp only[jv.claim.injEq]at hc
    omega
   | succ i=>
    simp only[Q0]at h
    have:=mU r (b+1) hr i a c z s h hc
    omega
  ·rw[e]at h
   cases i with
   | zero=>
    simp only[QZ,sJ]at h
    subst h
    exact absurd hc (hn o (List.mem_cons_self ..) c z s)
   | succ i=>
    simp only[Q0]at h
    exact mU r b hr i a c z s h hc
theorem kM:∀(l:List an) (b:Nat),iP l->∀(i j:Nat) (a a':an) (c:Nat) (z z':List ab) (s s':Option (Nat×Nat)),(aF b l)[i]?=some a->(aF b l)[j]?=some a'->a.op=.claim c z s->a'.op=.claim c z' s'->i=j
 | [],b,_,i,j,a,a',c,z,z',s,s',h,_,_,_=>by simp[aF]at h
 | o::r,b,hn,i,j,a,a',c,z,z',s,s',h,k,hc,kc=>by
  have hr:iP r:=fun x hx=>hn x (List.mem_cons_of_mem _ hx)
  rcases mr b o r with⟨y,s9,e,_⟩ | ⟨e,_⟩
  ·rw[e]at h k
   cases i with
   | zero=>
    cases j with
    | zero=>rfl
    | succ j=>
     simp only[QZ,sJ,Q0]at h k
     subst h
     simp only[jv.claim.injEq]at hc
     have:=mU r (b+1) hr j a' c z' s' k kc
     omega
   | succ i=>
    cases j with
    | zero=>
     simp only[QZ,sJ,Q0]at h k
     subst k
     simp only[jv.claim.injEq]at kc
     have:=mU r (b+1) hr i a c z s h hc
     omega
    | succ j=>
     simp only[Q0]at h k
     rw[kM r (b+1) hr i j a a' c z z' s s' h k hc kc]
  ·rw[e]at h k
   cases i with
   | zero=>
    simp only[QZ,sJ]at h
    subst h
    exact absurd hc (hn o (List.mem_cons_self ..) c z s)
   | succ i=>
    cases j with
    | zero=>
     simp only[QZ,sJ]at k
     subst k
     exact absurd kc (hn o (List.mem_cons_self ..) c z' s')
    | succ j=>
     simp only[Q0]at h k
     rw[kM r b hr i j a a' c z z' s s' h k hc kc]
section
variable {w0:World} {ρ:Pl} {w:World}
theorem iJ{pr:Nat->Prop}:∀(l:List an) (D:Nat->Prop) (H:aa),iP l->cg ⟨pr,D⟩ w0 ρ H w->cg ⟨pr,mz D (aF H.next l) fun _=>false⟩ w0 ρ (bY H l) w
 | [],D,H,_,R=>R.fewer (D:=mz D [] fun _=>false) fun d hd=>by
  rcases hd with hd | ⟨i,a,z,s,h,_⟩
  ·exact hd
  ·simp at h
 | o::r,D,H,hn,R=>by
  have hr:iP r:=fun x hx=>hn x (List.mem_cons_of_mem _ hx)
  rcases mr H.next o r with⟨y,s9,e,f⟩ | ⟨e,f⟩
  ·rw[e,f]
   have:=iJ r _ _ hr (R.reserve (.cells y 0 false) rfl)
   refine cg.fewer this fun d hd=>?_
   rcases hd with hd | ⟨i,a,z,s,h,k,_⟩
   ·exact .inl (.inl hd)
   ·cases i with
    | zero=>
     simp only[QZ,sJ]at h
     subst h
     simp only[jv.claim.injEq]at k
     exact .inl (.inr k.1.symm)
    | succ i=>
     simp only[Q0]at h
     exact .inr ⟨i,a,z,s,h,k,rfl⟩
  ·rw[e,f]
   have:=iJ r _ _ hr R
   refine cg.fewer this fun d hd=>?_
   rcases hd with hd | ⟨i,a,z,s,h,k,_⟩
   ·exact .inl hd
   ·cases i with
    | zero=>
     simp only[QZ,sJ]at h
     subst h
     exact absurd k (hn o (List.mem_cons_self ..) d z s)
    | succ i=>
     simp only[Q0]at h
     exact .inr ⟨i,a,z,s,h,k,rfl⟩
end
end Go.Abs
namespace Go.Abs
def qP:List ab->List Nat
 | []=>[]
 | x::r=>match iB x with
  | some b=>b::qP r
  | none=>qP r
def oT:jv->Bool
 | .store ..=>true
 | .hf (.fill ..) _=>true
 | _=>false
def sH:jv->Bool
 | .store ..=>true
 | .append ..=>true
 | .hf (.fill ..) _=>true
 | _=>false
def gi(T:Tr ab)(o:jv)(v:ab):List Nat:=match o with
 | .store _ a _=>qP [ev T a]
 | .append _ _ s x=>qP [ev T s,ev T x,v]
 | .hf (.fill ..) _=>qP [v]
 | .load _ _ x=>qP [ev T x]
 | _=>[]
theorem kj{x:ab}{l:List ab}{b:Nat}(h:x∈l)(hb:iB x=some b):b∈qP l:=by
 induction l with
 | nil=>simp at h
 | cons y r ih=>
  simp only[qP]
  rcases List.mem_cons.1 h with rfl | h
  ·rw[hb]; exact List.mem_cons_self
  ·split
   ·exact List.mem_cons_of_mem _ (ih h)
   ·exact ih h
theorem oR{l:List ab}{b:Nat}(h:b∈qP l):∃x∈l,iB x=some b:=by
 induction l with
 | nil=>simp[qP]at h
 | cons y r ih=>
  simp only[qP]at h
  split at h
  ·rename_i c hc
   rcases List.mem_cons.1 h with rfl | h
   ·exact⟨y,List.mem_cons_self,hc⟩
   ·obtain⟨x,h1,h2⟩:=ih h; exact⟨x,List.mem_cons_of_mem _ h1,h2⟩
  ·obtain⟨x,h1,h2⟩:=ih h; exact⟨x,List.mem_cons_of_mem _ h1,h2⟩
structure Fr(S:Nat->Prop)(H H1 H2 H3:aa):Prop where
 next:H3.next=H1.next
 same:∀x,S x->H3.get x=H1.get x
 rest:∀x,¬S x->H3.get x=H2.get x
structure BM(S:Nat->Prop)(H H1:aa):Prop where
 rest:∀x,¬S x->H1.get x=H.get x
theorem BM.refl(S:Nat->Prop)(H:aa):BM S H H:=⟨fun _ _=>rfl⟩
section
variable {S:Nat->Prop} {H H1 H2:aa}
theorem rZ{a:Ad}{n:Nat}(e:H2.get a.b=H.get a.b):bv H2 a n=bv H a n:=by
 unfold bv; rw[e]
def Pq(a:Ad)(xs:List ab):Option dV->Option dV
 | some (.cells l low false)=>bif Nat.ble low a.lim&&(Nat.beq a.lim l.length&&(Nat.ble (a.o+xs.length) a.lim&&xs.all ab.one)) then
   some (.cells (l.take a.o++(xs++l.drop (a.o+xs.length))) a.lim false) else none
 | _=>none
def Hk(a:Ad)(p:Nat)(xs:List ab):Option dV->Option dV
 | some (.cells l low false)=>bif Nat.ble low a.lim&&(Nat.beq a.lim l.length&&(Nat.ble p a.lim&&(Nat.ble a.o p&&(Nat.ble (a.lim+1) (p+xs.length)&&xs.all ab.one)))) then
   some (.cells (l.take p++xs) (bif Nat.beq p a.lim then low else p+xs.length) false) else none
 | _=>none
theorem qf(H:aa)(a:Ad)(xs:List ab):dZ H a xs=(Pq a xs (H.get a.b)).map fun o=>H.set a.b o:=by
 unfold dZ Pq
 cases H.get a.b with
 | none=>rfl
 | some o=>
  cases o with
  | cells l low ro=>
   cases ro with
   | true=>rfl
   | false=>
    try simp only
    cases (Nat.ble low a.lim&&(Nat.beq a.lim l.length&&(Nat.ble (a.o+xs.length) a.lim&&xs.all ab.one))) <;> rfl
  | _=>rfl
theorem CA(H:aa)(a:Ad)(p:Nat)(xs:List ab):cY H a p xs=(Hk a p xs (H.get a.b)).map fun o=>H.set a.b o:=by
 unfold cY Hk
 cases H.get a.b with
 | none=>rfl
 | some o=>
  cases o with
  | cells l low ro=>
   cases ro with
   | true=>rfl
   | false=>
    try simp only
    cases (Nat.ble low a.lim&&(Nat.beq a.lim l.length&&(Nat.ble p a.lim&&(Nat.ble a.o p&&(Nat.ble (a.lim+1) (p+xs.length)&&xs.all ab.one))))) <;> rfl
  | _=>rfl
def wY(S:Nat->Prop)(H:aa)(f:aa->Option (ab×aa))(v:ab)(H1:aa):Prop:=
 (∀H2,H2.next=H.next->(∀x,S x->H2.get x=H.get x)->∃H3,f H2=some (v,H3)/\Fr S H H1 H2 H3)/\BM S H H1
theorem sS{b:Nat}{o:dV}(hS:S b)(hn:H2.next=H.next)(hs:∀x,S x->H2.get x=H.get x):Fr S H (H.set b o) H2 (H2.set b o):=
 ⟨hn,fun x hx=>by rw[aa.get_set,aa.get_set,hs x hx],fun x hx=>by rw[aa.get_set,if_neg]; rintro rfl; exact hx hS⟩
theorem lQ{b:Nat}{o:dV}(hS:S b):BM S H (H.set b o):=⟨fun x hx=>by rw[aa.get_set,if_neg]; rintro rfl; exact hx hS⟩
theorem CC{o:dV}(hn:H2.next=H.next)(hs:∀x,S x->H2.get x=H.get x)(hS:S H.next):Fr S H (H.push o) H2 (H2.push o):=
 ⟨by show H2.next+1=H.next+1; omega,fun x hx=>by rw[aa.get_push,aa.get_push,hn,hs x hx],fun x hx=>by rw[aa.get_push,if_neg]; rw[hn]; rintro rfl; exact hx hS⟩
theorem uY{o:dV}(hS:S H.next):BM S H (H.push o):=⟨fun x hx=>by rw[aa.get_push,if_neg]; rintro rfl; exact hx hS⟩
theorem Ou(hn:H2.next=H.next)(hs:∀x,S x->H2.get x=H.get x):Fr S H H H2 H2:=⟨hn,hs,fun _ _=>rfl⟩
theorem xL{α β:Type}{o:Option α}{f:α->β}{y:β}(h:o.map f=some y):∃x,o=some x/\f x=y:=by
 cases o with
 | none=>simp at h
 | some x=>exact⟨x,rfl,by simpa using h⟩
theorem xI{n:Nat}{a x:ab}(hS:∀b,iB a=some b->S b)(h:a8 n H a x=some H1) :
  wY S H (fun H=>match a8 n H a x with | some H'=>some (aX,H') | none=>none) aX H1/\H1.next=H.next:=by
 unfold a8 at h
 split at h <;> first | (simp at h; done) | skip
 rename_i a
 cases hb:Nat.beq x.cells.length n with
 | false=>rw[hb]at h; simp at h
 | true=>
  rw[hb,cond_true,qf]at h
  obtain⟨o,ho,rfl⟩:=xL h
  have hs':S a.b:=hS _ rfl
  refine⟨⟨fun H2 hn hs=>⟨H2.set a.b o,?_,sS hs' hn hs⟩,lQ hs'⟩,rfl⟩
  simp only[a8,hb,cond_true,qf,hs _ hs',ho,Option.map_some]
theorem DE{n:Nat}{x:ab}(hS:∀b,iB x=some b->S b)(hs:∀x,S x->H2.get x=H.get x):jU n H2 x=jU n H x:=by
 unfold jU
 split <;> first | rfl | skip
 rename_i a m r
 rw[rZ (hs _ (hS _ rfl))]
theorem wV{sz by_:Nat}{s x v:ab}(h1:∀b,iB s=some b->S b)(h2:∀b,iB x=some b->S b)(h3:∀b,iB v=some b->S b)(h:bJ sz by_ H s x=some (v,H1)) :
  wY S H (fun H=>bJ sz by_ H s x) v H1:=by
 have key:∀H2:aa,H2.next=H.next->(∀x,S x->H2.get x=H.get x)->(∃H3,bJ sz by_ H2 s x=some (v,H3)/\Fr S H H1 H2 H3)/\BM S H H1:=by
  intro H2 hn hs
  have hsrc:=DE (n:=sz) h2 hs
  unfold bJ at h ⊢
  rw[hsrc]
  split at h
  ·simp at h
  ·rename_i n xs hx
   try simp only
   cases hz:Nat.beq n 0 with
   | true=>
    rw[hz,cond_true]at h
    simp only[cond_true]
    split at h
    ·simp only[sJ,pJ]at h
     obtain⟨rfl,rfl⟩:=h
     exact⟨⟨_,rfl,Ou hn hs⟩,BM.refl _ _⟩
    ·simp at h
   | false=>
    rw[hz,cond_false]at h
    simp only[cond_false]
    split at h <;> first | (simp at h; done) | skip
    rename_i so len room
    try simp only
    cases hc:(Nat.blt 0 sz&&(Nat.ble ((2*(len+n)+0)*by_) 281474976710656&&(Nat.ble (len+n) 9223372036854775807&&(Nat.beq xs.length (n*sz)&&xs.all ab.one)))) with
    | false=>rw[hc]at h; simp at h
    | true=>
     rw[hc,cond_true]at h
     simp only[cond_true]
     split at h
     ·simp only[sJ,pJ]at h
      obtain⟨rfl,rfl⟩:=h
      have hb:S H.next:=h3 _ rfl
      refine⟨⟨_,?_,CC hn hs hb⟩,uY hb⟩
      simp only[hn]
     ·rename_i a c
      have ha:S a.b:=h1 _ rfl
      try simp only
      cases hk:Nat.ble (len+n) c with
      | true=>
       rw[hk,cond_true,qf]at h
       simp only[cond_true,qf,hs _ ha]
       cases ho:Pq ⟨a.b,a.lim,a.o+len*sz⟩ xs (H.get a.b) with
       | none=>rw[ho]at h; simp at h
       | some o=>
        rw[ho]at h
        simp only[Option.map_some,sJ,pJ]at h
        obtain⟨rfl,rfl⟩:=h
        exact⟨⟨_,by simp only[Option.map_some],sS ha hn hs⟩,lQ ha⟩
      | false=>
       rw[hk,cond_false]at h
       simp only[cond_false,rZ (hs _ ha)]
       split at h
       ·rename_i old ho
        simp only[sJ,pJ]at h
        obtain⟨rfl,rfl⟩:=h
        have hb:S H.next:=h3 _ rfl
        refine⟨⟨_,?_,CC hn hs hb⟩,uY hb⟩
        simp only[hn]
       ·simp at h
     ·rename_i a z
      have ha:S a.b:=h1 _ rfl
      try simp only
      cases hk:Nat.beq z sz with
      | false=>rw[hk]at h; simp at h
      | true=>
       rw[hk,cond_true]at h
       simp only[cond_true]
       cases hk2:Nat.ble (a.o+(len+n)*sz) a.lim with
       | true=>
        rw[hk2,cond_true,qf]at h
        simp only[cond_true,qf,hs _ ha]
        cases ho:Pq ⟨a.b,a.lim,a.o+len*sz⟩ xs (H.get a.b) with
        | none=>rw[ho]at h; simp at h
        | some o=>
         rw[ho]at h
         simp only[Option.map_some,sJ,pJ]at h
         obtain⟨rfl,rfl⟩:=h
         exact⟨⟨_,by simp only[Option.map_some],sS ha hn hs⟩,lQ ha⟩
       | false=>
        rw[hk2,cond_false,CA]at h
        simp only[cond_false,CA,hs _ ha]
        cases ho:Hk a (a.o+len*sz) xs (H.get a.b) with
        | none=>rw[ho]at h; simp at h
        | some o=>
         rw[ho]at h
         simp only[Option.map_some,sJ,pJ]at h
         obtain⟨rfl,rfl⟩:=h
         exact⟨⟨_,by simp only[Option.map_some],sS ha hn hs⟩,lQ ha⟩
 exact⟨fun H2 hn hs=>(key H2 hn hs).1,(key H rfl fun _ _=>rfl).2⟩
theorem Bb{b len:Nat}{z:List ab}{ofs:List (Nat×Nat)}{l:List ab}{v:ab}(h3:∀c,iB v=some c->S c)(h:iF b len z ofs H l=some (v,H1)) :
  wY S H (fun H=>iF b len z ofs H l) v H1/\H1.next=H.next/\iB v=some b:=by
 unfold iF at h
 split at h <;> first | (simp at h; done) | skip
 rename_i c hg
 split at h <;> first | (simp at h; done) | skip
 rename_i xs hx
 simp only[sJ,pJ]at h
 obtain⟨rfl,rfl⟩:=h
 have hb:S b:=h3 _ rfl
 refine⟨⟨fun H2 hn hs=>⟨H2.set b (.cells xs 0 false),?_,sS hb hn hs⟩,lQ hb⟩,rfl,rfl⟩
 simp only[iF,hs _ hb,hg,hx]
theorem AM{agg:Bool}{n:Nat}{x:ab}(hS:∀b,iB x=some b->H2.get b=H.get b):am agg n H2 x=am agg n H x:=by
 unfold am
 split <;> first | rfl | skip
 rename_i a
 rw[rZ (hS _ rfl)]
end
section
variable {tb:FuncId->Bool} {call:FuncId->List ab->aa->Option (ab×aa)} {T:Tr ab} {H H1:aa}
theorem pF{o:an}{v:ab}(hg:o.guard=none)(ht:sH o.op=true)(h:bI tb call o T H=some (v,H1)) :
  wY (fun x=>x∈gi T o.op v) H (fun H=>bI tb call o T H) v H1/\(oT o.op=true->H1.next=H.next/\∃b,gi T o.op v=[b]):=by
 obtain⟨d,op,g⟩:=o
 simp only at hg
 subst hg
 unfold bI at h ⊢
 simp only[im,cond_true]at h ⊢
 cases op <;> simp only[sH,Q1]at ht
 case store n a x=>
  simp only[ct]at h ⊢
  cases hs:a8 n H (ev T a) (ev T x) with
  | none=>rw[hs]at h; simp at h
  | some H'=>
   rw[hs]at h
   simp only[sJ,pJ]at h
   obtain⟨rfl,rfl⟩:=h
   obtain⟨q,qn⟩:=xI (S:=fun y=>y∈gi T (.store n a x) aX) (fun b hb=>kj (List.mem_singleton.2 rfl) hb) hs
   refine⟨⟨fun H2 hn hs=>?_,q.2⟩,fun _=>⟨qn,?_⟩⟩
   ·obtain⟨H3,e,f⟩:=q.1 H2 hn hs
    refine⟨H3,?_,f⟩
    simp only at e ⊢
    cases h4:a8 n H2 (ev T a) (ev T x) with
    | none=>rw[h4]at e; simp at e
    | some H4=>
     rw[h4]at e
     simp only[sJ,pJ,true_and]at e
     subst e
     rfl
   ·unfold a8 at hs
    split at hs <;> first | (simp at hs; done) | skip
    rename_i a' ha'
    exact⟨a'.b,by simp only[gi,ha']; rfl⟩
 case append n b s x=>
  simp only[ct,vh]at h ⊢
  cases hs:bJ n b H (ev T s) (ev T x) with
  | none=>rw[hs]at h; simp at h
  | some p=>
   obtain⟨u,H'⟩:=p
   rw[hs]at h
   simp only[sJ,pJ]at h
   obtain⟨rfl,rfl⟩:=h
   have q:=wV (S:=fun y=>y∈gi T (.append n b s x) u) (fun b hb=>kj (by simp) hb) (fun b hb=>kj (x:=ev T x) (by simp) hb) (fun b hb=>kj (by simp) hb) hs
   refine⟨⟨fun H2 hn hs=>?_,q.2⟩,fun hm=>by simp[oT]at hm⟩
   obtain⟨H3,e,f⟩:=q.1 H2 hn hs
   exact⟨H3,by simp only[e],f⟩
 case hf f l=>
  cases f <;> simp only[Q1]at ht
  rename_i b len z ofs
  simp only[ct,vh,Dq]at h ⊢
  cases hs:iF b len z ofs H (gA T l) with
  | none=>rw[hs]at h; simp at h
  | some p=>
   obtain⟨u,H'⟩:=p
   rw[hs]at h
   simp only[sJ,pJ]at h
   obtain⟨rfl,rfl⟩:=h
   obtain⟨q,qn,qb⟩:=Bb (S:=fun y=>y∈gi T (.hf (.fill b len z ofs) l) u) (fun b hb=>kj (by simp) hb) hs
   refine⟨⟨fun H2 hn hs=>?_,q.2⟩,fun _=>⟨qn,b,by simp only[gi,qP,qb]⟩⟩
   obtain⟨H3,e,f⟩:=q.1 H2 hn hs
   exact⟨H3,by simp only[e],f⟩
theorem D0{o:an}{v:ab}(hg:o.guard=none)(ht:oT o.op=true)(h:bI tb call o T H=some (v,H1)){H2:aa}(hs:∀x∈gi T o.op v,H2.get x=H.get x) :
  ∃H3,bI tb call o T H2=some (v,H3)/\H3.next=H2.next/\(∀x∈gi T o.op v,H3.get x=H1.get x)/\∀x,x∉gi T o.op v->H3.get x=H2.get x:=by
 obtain⟨d,op,g⟩:=o
 simp only at hg
 subst hg
 unfold bI at h ⊢
 simp only[im,cond_true]at h ⊢
 cases op <;> simp only[oT,Q1]at ht
 case store n a x=>
  simp only[ct]at h ⊢
  cases hst:a8 n H (ev T a) (ev T x) with
  | none=>rw[hst]at h; simp at h
  | some H'=>
   rw[hst]at h
   simp only[sJ,pJ]at h
   obtain⟨rfl,rfl⟩:=h
   unfold a8 at hst
   split at hst <;> first | (simp at hst; done) | skip
   rename_i a' ha'
   have e0:gi T (.store n a x) aX=[a'.b]:=by simp only[gi,ha']; rfl
   rw[e0]at hs ⊢
   have hb':=hs a'.b (List.mem_singleton.2 rfl)
   cases hb:Nat.beq (ev T x).cells.length n with
   | false=>rw[hb]at hst; simp at hst
   | true=>
    rw[hb,cond_true,qf]at hst
    obtain⟨o,ho,rfl⟩:=xL hst
    refine⟨H2.set a'.b o,?_,rfl,fun y hy=>?_,fun y hy=>?_⟩
    ·simp only[ha',a8,hb,cond_true,qf,hb',ho,Option.map_some]
    ·obtain rfl:=List.mem_singleton.1 hy
     rw[aa.get_set,aa.get_set,if_pos rfl,if_pos rfl]
    ·rw[aa.get_set,if_neg]
     rintro rfl
     exact hy (List.mem_singleton.2 rfl)
 case hf f l=>
  cases f <;> simp only[Q1]at ht
  rename_i b len z ofs
  simp only[ct,vh,Dq]at h ⊢
  cases hst:iF b len z ofs H (gA T l) with
  | none=>rw[hst]at h; simp at h
  | some p=>
   obtain⟨u,H'⟩:=p
   rw[hst]at h
   simp only[sJ,pJ]at h
   obtain⟨rfl,rfl⟩:=h
   unfold iF at hst
   split at hst <;> first | (simp at hst; done) | skip
   rename_i c hgb
   split at hst <;> first | (simp at hst; done) | skip
   rename_i xs hx
   simp only[sJ,pJ]at hst
   obtain⟨rfl,rfl⟩:=hst
   have e0:gi T (.hf (.fill b len z ofs) l) (.slice (some ⟨b,xs.length,0⟩) len (.known len))=[b]:=rfl
   rw[e0]at hs ⊢
   have hb':=hs b (List.mem_singleton.2 rfl)
   refine⟨H2.set b (.cells xs 0 false),?_,rfl,fun y hy=>?_,fun y hy=>?_⟩
   ·simp only[iF,hb',hgb,hx]
   ·obtain rfl:=List.mem_singleton.1 hy
    rw[aa.get_set,aa.get_set,if_pos rfl,if_pos rfl]
   ·rw[aa.get_set,if_neg]
    rintro rfl
    exact hy (List.mem_singleton.2 rfl)
theorem FD{o:an}{v:ab}(hg:o.guard=none)(ht:sH o.op=true)(h:bI tb call o T H=some (v,H1)){x:Nat}(hx:x∉gi T o.op v):H1.get x=H.get x:=
 (pF hg ht h).1.2.rest x hx
theorem wr{o:jv}(h:oT o=true):sH o=true:=by
 cases o <;> simp only[oT,Q1]at h <;> first | rfl | skip
 rename_i f l
 cases f <;> simp only[Q1]at h <;> rfl
end
theorem cg.ext_heap{Prot:Gh}{w0:World}{ρ:Pl}{H H':aa}{w:World}(R:cg Prot w0 ρ H w)(hn:H'.next=H.next)(h:∀x,H'.get x=H.get x):cg Prot w0 ρ H' w:=
 ⟨R.os,R.tape,R.output,R.size,R.prot,fun b l L q=>by rw[hn]; exact R.dom b l L q,fun b l L q=>by rw[h]; exact R.obj b l L q,
  fun b l L x q hx=>R.free b l L x q (by rw[<- h]; exact hx),fun b l L b' l' L' x q q' e hx=>R.inj b l L b' l' L' x q q' e (by rw[<- h]; exact hx),
  fun b q=>by rw[hn]; exact R.dead b q,fun b l low hx=>R.glob b l low (by rw[<- h]; exact hx)⟩
end Go.Abs
namespace Go.Abs
def mM(ms:List Nat)(i j:Nat)(a b:an):Bool:=jR ms j i||(wI a b&&(!(aI a.op&&aI b.op)||(oT b.op&&(sH a.op&&(a.guard.isNone&&b.guard.isNone)))))
def jf(l:List an)(ms:List Nat):Bool:=
 (List.range l.length).all fun j=>match l[j]? with
  | some b=>(List.range j).all fun i=>match l[i]? with
   | some a=>mM ms i j a b
   | none=>true
  | none=>true
def ft(l:List an)(ms:List Nat)(i j:Nat):Bool:=match l[i]?,l[j]? with
 | some a,some b=>Nat.blt i j&&(aI a.op&&(aI b.op&&!jR ms j i))
 | _,_=>false
def oM(l:List an)(ms:List Nat):Bool:=
 (List.range l.length).all fun j=>(List.range j).all fun i=>!ft l ms i j||(List.range l.length).all fun k=>match l[k]? with
  | some o=>!dH o.op||(!jR ms k j||jR ms k i)
  | none=>true
def cC(l:List an)(ss:List (ab×aa))(T0:Tr ab)(q:Nat):List Nat:=match l[q]?,ss[q]? with
 | some o,some (v,_)=>gi (bF (fun i=>Nat.blt i (0+q)) 0 l ss T0) o.op v
 | _,_=>[]
section
variable {tb:FuncId->Bool} {call:FuncId->List ab->aa->Option (ab×aa)}
theorem pO{l:List an}{ms:List Nat}{i j:Nat}{a b:an}(hi:l[i]?=some a)(hj:l[j]?=some b)(h:i<j)(ha:aI a.op=true)(hb:aI b.op=true)(hn:jR ms j i=false):ft l ms i j=true:=by
 unfold ft
 rw[hi,hj]
 have:Nat.blt i j=true:=QS h
 simp only[ha,hb,hn,this,Bool.not_false,Bool.and_self]
def dY(l:List an)(m:Nat->Bool)(q:Nat):Prop:=m q=true/\∃o,l[q]?=some o/\aI o.op=true
structure um(l:List an)(ss:List (ab×aa))(T0:Tr ab)(H0:aa)(m:Nat->Bool)(p:Nat)(Hx:aa):Prop where
 next:Hx.next=(eF H0 ss p).next
 base:∀x,(∀q,p<=q->dY l m q->x∉cC l ss T0 q)->Hx.get x=(eF H0 ss p).get x
 late:∀q x,p<=q->dY l m q->x∈cC l ss T0 q->(∀q',q<q'->dY l m q'->x∉cC l ss T0 q')->Hx.get x=(eF H0 ss (q+1)).get x
theorem sY{P:Nat->Prop}{n q:Nat}(hq:P q)(hn:∀q,P q->q<n):∃q,P q/\∀q',q<q'->¬P q':=by
 induction hk:n-q using Nat.strongRecOn generalizing q with
 | _ k ih=>
  rcases Classical.em (∃q',q<q'/\P q') with⟨q',h1,h2⟩ | h
  ·have:=hn q' h2
   exact ih (n-q') om h2 rfl
  ·exact⟨q,hq,fun q' h1 h2=>h ⟨q',h1,h2⟩⟩
theorem xK{H0:aa}{ss:List (ab×aa)}{x:Nat}:∀(d a:Nat),(∀c,a<=c->c<a+d->(eF H0 ss (c+1)).get x=(eF H0 ss c).get x)->(eF H0 ss (a+d)).get x=(eF H0 ss a).get x:=by
 intro d
 induction d with
 | zero=>intro a _; rfl
 | succ d ih=>
  intro a h
  rw[show a+(d+1)=a+d+1 by omega,h (a+d) om om]
  exact ih a fun c h1 h2=>h c h1 om
theorem DG{H0:aa}{ss:List (ab×aa)}:∀(d a:Nat),(∀c,a<=c->c<a+d->(eF H0 ss (c+1)).next=(eF H0 ss c).next)->(eF H0 ss (a+d)).next=(eF H0 ss a).next:=by
 intro d
 induction d with
 | zero=>intro a _; rfl
 | succ d ih=>
  intro a h
  rw[show a+(d+1)=a+d+1 by omega,h (a+d) om om]
  exact ih a fun c h1 h2=>h c h1 om
variable {l:List an} {ms:List Nat} {T0:Tr ab} {H0:aa} {ss:List (ab×aa)}
theorem wy(htr:cP tb call l T0 H0=some ss){c:Nat}{o:an}(hc:l[c]?=some o)(hg:o.guard=none)(ht:sH o.op=true){x:Nat}(hx:x∉cC l ss T0 c):(eF H0 ss (c+1)).get x=(eF H0 ss c).get x:=by
 obtain⟨_,hat⟩:=hZ l T0 H0 ss 0 htr
 obtain⟨v,H1,hs,hst⟩:=hat c o hc
 simp only[cC,hc,hs]at hx
 have:=FD hg ht hst hx
 simpa only [eF,hs] using this
theorem LK(htr:cP tb call l T0 H0=some ss){c:Nat}{o:an}(hc:l[c]?=some o)(hg:o.guard=none)(ht:oT o.op=true):(eF H0 ss (c+1)).next=(eF H0 ss c).next:=by
 obtain⟨_,hat⟩:=hZ l T0 H0 ss 0 htr
 obtain⟨v,H1,hs,hst⟩:=hat c o hc
 have:=((pF hg (wr ht) hst).2 ht).1
 simpa only [eF,hs] using this
theorem we(htr:cP tb call l T0 H0=some ss){c:Nat}{o:an}(hc:l[c]?=some o)(hn:aI o.op=false):eF H0 ss (c+1)=eF H0 ss c:=
 di htr 1 c (by have:=(QR.1 hc).1; omega) fun c' o' h1 h2 h3=>by
  obtain rfl:c'=c:=om
  rw[hc]at h3; simp only[sJ]at h3; subst h3; exact hn
theorem fM(hp:jf l ms=true){i j:Nat}(h:ft l ms i j=true):∃a b,l[i]?=some a/\l[j]?=some b/\i<j/\oT b.op=true/\sH a.op=true/\a.guard=none/\b.guard=none:=by
 unfold ft at h
 split at h
 ·rename_i a b hi hj
  simp only[QT,Bool.not_eq_true']at h
  obtain⟨h1,h2,h3,h4⟩:=h
  have hij:i<j:=QW h1
  unfold jf at hp
  rw[List.all_eq_true]at hp
  have q:=hp j (List.mem_range.2 (QR.1 hj).1)
  rw[hj]at q
  simp only at q
  rw[List.all_eq_true]at q
  have q2:=q i (List.mem_range.2 hij)
  rw[hi]at q2
  simp only[mM,h4,h2,h3,Bool.false_or,Bool.and_self,Bool.not_true,QT,Option.isNone_iff_eq_none]at q2
  exact⟨a,b,hi,hj,hij,q2.2.1,q2.2.2.1,q2.2.2.2.1,q2.2.2.2.2⟩
 ·simp at h
def MN(l:List an)(ms:List Nat)(m:Nat->Bool):Prop:=∀j,j<l.length->m j=true->∀i,i<j->jR ms j i=true->m i=true
section
variable {m:Nat->Bool} (hd:MN l ms m)
include hd
theorem dX{c q:Nat}{o:an}(hc:l[c]?=some o)(hcc:aI o.op=true)(hcm:m c=false)(hcq:c<q)(he:dY l m q):ft l ms c q=true:=by
 obtain⟨h1,b,h2,h3⟩:=he
 refine pO hc h2 hcq hcc h3 ?_
 cases hb:jR ms q c with
 | false=>rfl
 | true=>
  have:=hd q (QR.1 h2).1 h1 c hcq hb
  rw[hcm]at this; simp at this
end
def dU(m:Nat->Bool)(i:Nat):Nat->Bool:=fun j=>if j=i then true else m j
theorem gR{m:Nat->Bool}{i q:Nat}:dY l (dU m i) q↔(dY l m q∨(q=i/\∃o,l[q]?=some o/\aI o.op=true)):=by
 unfold dY dU
 constructor
 ·rintro ⟨h1,h2⟩
  by_cases e:q=i
  ·exact .inr ⟨e,h2⟩
  ·rw[if_neg e]at h1; exact .inl ⟨h1,h2⟩
 ·rintro (⟨h1,h2⟩ | ⟨e,h2⟩)
  ·exact⟨by split <;> simp_all,h2⟩
  ·exact⟨by rw[if_pos e],h2⟩
section
variable (htr:cP tb call l T0 H0=some ss) (hp:jf l ms=true) (hap:∀i j,ft l ms i j=true->∀x∈cC l ss T0 j,x∉cC l ss T0 i)
 {m:Nat->Bool} (hd:MN l ms m) {p:Nat}
include htr hp hap hd
set_option linter.unusedSectionVars false in
theorem yL{q:Nat}(h:dY l m q):q<l.length:=by
 obtain⟨_,o,h,_⟩:=h; exact (QR.1 h).1
theorem Jv{op:an}(hlp:l[p]?=some op)(hcp:aI op.op=true)(hmp:m p=false){i:Nat}{o:an}(hi:l[i]?=some o)(hc:aI o.op=true)(hmi:m i=false)
  (hready:∀c,c<i->jR ms i c=true->m c=true) (hpi:p<i) {Hx:aa} (R:um l ss T0 H0 m p Hx) {v:ab} {H1:aa} (hs:ss[i]?=some (v,H1))
  (hst:bI tb call o (bF (fun j=>Nat.blt j (0+i)) 0 l ss T0) (eF H0 ss i)=some (v,H1)) :
  ∃H3,bI tb call o (bF (fun j=>Nat.blt j (0+i)) 0 l ss T0) Hx=some (v,H3)/\um l ss T0 H0 (dU m i) p H3:=by
 have hlo:∀c oc,l[c]?=some oc->aI oc.op=true->m c=false->c<i->ft l ms c i=true:=by
  intro c oc h1 h2 h3 h4
  refine pO h1 hi h4 h2 hc ?_
  cases hb:jR ms i c with
  | false=>rfl
  | true=>have:=hready c h4 hb; rw[h3]at this; simp at this
 obtain⟨_,b,_,hb,_,hmv,_,_,hgb⟩:=fM hp (hlo p op hlp hcp hmp hpi)
 rw[hi]at hb
 obtain rfl:=Option.some.inj hb
 have htc:cC l ss T0 i=gi (bF (fun j=>Nat.blt j (0+i)) 0 l ss T0) o.op v:=by simp only[cC,hi,hs]
 have hspan:∀x∈cC l ss T0 i,∀a,p<=a->a<=i->(∀c,a<=c->c<i->dY l m c->x∉cC l ss T0 c)->(eF H0 ss i).get x=(eF H0 ss a).get x:=by
  intro x hx a ha hai hno
  have:=xK (H0:=H0) (ss:=ss) (x:=x) (i-a) a fun c h1 h2=>by
   have hcl:c<l.length:=by have:=(QR.1 hi).1; omega
   have hlc:l[c]?=some l[c]:=QQ hcl
   cases hcc:aI l[c].op with
   | false=>rw[we htr hlc hcc]
   | true=>
    cases hcm:m c with
    | true=>
     have he:dY l m c:=⟨hcm,_,hlc,hcc⟩
     have hpc:p<c:=by
      rcases Nat.lt_or_ge p c with h | h
      ·exact h
      ·obtain rfl:c=p:=om
       rw[hmp]at hcm; simp at hcm
     obtain⟨_,b,_,hb,_,hmv2,_,_,hgb2⟩:=fM hp (dX hd hlp hcp hmp hpc he)
     rw[hlc]at hb
     obtain rfl:=Option.some.inj hb
     exact wy htr hlc hgb2 (wr hmv2) (hno c h1 om he)
    | false=>
     have hl:=hlo c _ hlc hcc hcm om
     obtain⟨a',_,ha',_,_,_,htc',hga,_⟩:=fM hp hl
     rw[hlc]at ha'
     obtain rfl:=Option.some.inj ha'
     exact wy htr hlc hga htc' (hap c i hl x hx)
  rwa [show a+(i-a)=i by omega]at this
 have hget:∀x∈cC l ss T0 i,Hx.get x=(eF H0 ss i).get x:=by
  intro x hx
  rcases Classical.em (∃q,p<=q/\dY l m q/\x∈cC l ss T0 q) with⟨q,hq⟩ | hno
  ·obtain⟨q,⟨q1,q2,q3⟩,qm⟩:=sY (P:=fun q=>p<=q/\dY l m q/\x∈cC l ss T0 q) (n:=l.length) hq fun q h=>yL htr hp hap hd h.2.1
   have hqi:q<i:=by
    rcases Nat.lt_trichotomy q i with h | h | h
    ·exact h
    ·subst h; rw[q2.1]at hmi; simp at hmi
    ·exact absurd hx (hap i q (dX hd hi hc hmi h q2) x q3)
   rw[R.late q x q1 q2 q3 fun q' h1 h2 h3=>qm q' h1 ⟨om,h2,h3⟩]
   exact (hspan x hx (q+1) om om fun c h1 h2 h3 h4=>qm c om ⟨om,h3,h4⟩).symm
  ·rw[R.base x fun q h1 h2 h3=>hno ⟨q,h1,h2,h3⟩]
   exact (hspan x hx p rL om fun c h1 h2 h3 h4=>hno ⟨c,h1,h3,h4⟩).symm
 rw[htc]at hget
 obtain⟨H3,e1,e2,e3,e4⟩:=D0 hgb hmv hst hget
 rw[<- htc]at e3 e4
 have hi1:eF H0 ss (i+1)=H1:=by simp only[eF,hs]
 refine⟨H3,e1,?_,?_,?_⟩
 ·rw[e2]; exact R.next
 ·intro x hx
  have hxi:=hx i om (gR.2 (.inr ⟨rfl,o,hi,hc⟩))
  rw[e4 x hxi]
  exact R.base x fun q h1 h2=>hx q h1 (gR.2 (.inl h2))
 ·intro q x h1 h2 h3 h4
  rcases gR.1 h2 with h2 | ⟨rfl,_⟩
  ·have hxi:x∉cC l ss T0 i:=by
    rcases Nat.lt_trichotomy q i with h | h | h
    ·exact h4 i h (gR.2 (.inr ⟨rfl,o,hi,hc⟩))
    ·have h9:=h2.1; rw[h,hmi]at h9; simp at h9
    ·exact hap i q (dX hd hi hc hmi h h2) x h3
   rw[e4 x hxi]
   exact R.late q x h1 h2 h3 fun q' a b=>h4 q' a (gR.2 (.inl b))
  ·rw[e3 x h3,hi1]
theorem Jt{o:an}(hi:l[p]?=some o)(hc:aI o.op=true)(hmi:m p=false){p':Nat}(hpp:p<p')(hpl:p'<=l.length)
  (hdone:∀c oc,p<c->c<p'->l[c]?=some oc->aI oc.op=true->m c=true) {Hx:aa} (R:um l ss T0 H0 m p Hx) {v:ab} {H1:aa} (hs:ss[p]?=some (v,H1))
  (hst:bI tb call o (bF (fun j=>Nat.blt j (0+p)) 0 l ss T0) (eF H0 ss p)=some (v,H1)) :
  ∃Hy H3,Hy.next=Hx.next/\(∀x,Hy.get x=Hx.get x)/\bI tb call o (bF (fun j=>Nat.blt j (0+p)) 0 l ss T0) Hy=some (v,H3)/\um l ss T0 H0 (dU m p) p' H3:=by
 have hi1:eF H0 ss (p+1)=H1:=by simp only[eF,hs]
 have hE:∀q,p'<=q->(dY l (dU m p) q↔dY l m q):=fun q hq=>by
  rw[gR]
  constructor
  ·rintro (h | ⟨rfl,_⟩)
   ·exact h
   ·omega
  ·exact .inl
 have hspan:∀x a,p<a->a<=p'->(∀c,a<=c->c<p'->dY l m c->x∉cC l ss T0 c)->(eF H0 ss p').get x=(eF H0 ss a).get x:=by
  intro x a ha hap' hno
  have:=xK (H0:=H0) (ss:=ss) (x:=x) (p'-a) a fun c h1 h2=>by
   have hcl:c<l.length:=om
   have hlc:l[c]?=some l[c]:=QQ hcl
   cases hcc:aI l[c].op with
   | false=>rw[we htr hlc hcc]
   | true=>
    have he:dY l m c:=⟨hdone c _ om om hlc hcc,_,hlc,hcc⟩
    obtain⟨_,b,_,hb,_,hmv2,_,_,hgb2⟩:=fM hp (dX hd hi hc hmi om he)
    rw[hlc]at hb
    obtain rfl:=Option.some.inj hb
    exact wy htr hlc hgb2 (wr hmv2) (hno c h1 om he)
  rwa [show a+(p'-a)=p' by omega]at this
 have hnx:(eF H0 ss p').next=(eF H0 ss (p+1)).next:=by
  have:=DG (H0:=H0) (ss:=ss) (p'-(p+1)) (p+1) fun c h1 h2=>by
   have hcl:c<l.length:=om
   have hlc:l[c]?=some l[c]:=QQ hcl
   cases hcc:aI l[c].op with
   | false=>rw[we htr hlc hcc]
   | true=>
    have he:dY l m c:=⟨hdone c _ om om hlc hcc,_,hlc,hcc⟩
    obtain⟨_,b,_,hb,_,hmv2,_,_,hgb2⟩:=fM hp (dX hd hi hc hmi om he)
    rw[hlc]at hb
    obtain rfl:=Option.some.inj hb
    exact LK htr hlc hgb2 hmv2
  rwa [show p+1+(p'-(p+1))=p' by omega]at this
 have hne:∀q,p<=q->dY l m q->p<q:=fun q h1 h2=>by
  rcases Nat.lt_or_ge p q with h | h
  ·exact h
  ·obtain rfl:q=p:=om
   rw[h2.1]at hmi; simp at hmi
 rcases Classical.em (∃q,p<=q/\dY l m q) with⟨q0,hq0,he0⟩ | hno
 ·-- some are done early
  obtain⟨a,_,ha,_,_,_,htc,hga,_⟩:=fM hp (dX hd hi hc hmi (hne q0 hq0 he0) he0)
  rw[hi]at ha
  obtain rfl:=Option.some.inj ha
  have htp:cC l ss T0 p=gi (bF (fun j=>Nat.blt j (0+p)) 0 l ss T0) o.op v:=by simp only[cC,hi,hs]
  have hap':∀q,p<=q->dY l m q->∀x∈cC l ss T0 q,x∉cC l ss T0 p:=fun q h1 h2=>hap p q (dX hd hi hc hmi (hne q h1 h2) h2)
  obtain⟨H3,e1,e2⟩:=(pF hga htc hst).1.1 Hx R.next fun x hx=>R.base x fun q h1 h2 h3=>hap' q h1 h2 x h3 (by rw[htp]; exact hx)
  rw[<- htp]at e2
  have hkeep:∀x,x∉cC l ss T0 p->(eF H0 ss (p+1)).get x=(eF H0 ss p).get x:=fun x hx=>wy htr hi hga htc hx
  refine⟨Hx,H3,rfl,fun _=>rfl,e1,?_,?_,?_⟩
  ·rw[e2.next,hnx,hi1]
  ·intro x hx
   have hx':∀q,p'<=q->dY l m q->x∉cC l ss T0 q:=fun q h1 h2=>hx q h1 ((hE q h1).2 h2)
   rcases Classical.em (∃q,p<q/\dY l m q/\x∈cC l ss T0 q) with⟨q,hq⟩ | hnone
   ·obtain⟨q,⟨q1,q2,q3⟩,qm⟩:=sY (P:=fun q=>p<q/\dY l m q/\x∈cC l ss T0 q) (n:=l.length) hq fun q h=>yL htr hp hap hd h.2.1
    have hqp:q<p':=by
     rcases Nat.lt_or_ge q p' with h | h
     ·exact h
     ·exact absurd q3 (hx' q h q2)
    rw[e2.rest x (hap' q om q2 x q3),R.late q x om q2 q3 fun q' h1 h2 h3=>qm q' h1 ⟨om,h2,h3⟩]
    exact (hspan x (q+1) om om fun c h1 h2 h3 h4=>qm c om ⟨om,h3,h4⟩).symm
   ·rw[hspan x (p+1) om om fun c h1 h2 h3 h4=>hnone ⟨c,om,h3,h4⟩]
    rcases Classical.em (x∈cC l ss T0 p) with hxp | hxp
    ·rw[e2.same x hxp,hi1]
    ·rw[e2.rest x hxp,hkeep x hxp]
     exact R.base x fun q h1 h2 h3=>hnone ⟨q,hne q h1 h2,h2,h3⟩
  ·intro q x h1 h2 h3 h4
   have h2':=(hE q h1).1 h2
   rw[e2.rest x (hap' q om h2' x h3)]
   exact R.late q x om h2' h3 fun q' a b=>h4 q' a ((hE q' om).2 b)
 ·-- none
  have hh:eF H0 ss p'=H1:=by
   rw[<- hi1]
   have:=di htr (p'-(p+1)) (p+1) om fun c oc h1 h2 h3=>by
    cases hcc:aI oc.op with
    | false=>rfl
    | true=>exact absurd ⟨c,om,hdone c oc om om h3 hcc,oc,h3,hcc⟩ hno
   rwa [show p+1+(p'-(p+1))=p' by omega]at this
  refine⟨eF H0 ss p,H1,R.next.symm,fun x=>(R.base x fun q h1 h2=>absurd ⟨q,h1,h2⟩ hno).symm,hst,?_,?_,?_⟩
  ·rw[hh]
  ·intro x _; rw[hh]
  ·intro q x h1 h2
   exact absurd ⟨q,om,(hE q h1).1 h2⟩ hno
end
theorem Ju{m:Nat->Bool}{p i:Nat}{o:an}(hi:l[i]?=some o)(hc:aI o.op=false){Hx:aa}(R:um l ss T0 H0 m p Hx):um l ss T0 H0 (dU m i) p Hx:=by
 have hE:∀q,dY l (dU m i) q↔dY l m q:=fun q=>by
  rw[gR]
  constructor
  ·rintro (h | ⟨rfl,o',h1,h2⟩)
   ·exact h
   ·rw[hi]at h1; obtain rfl:=Option.some.inj h1; rw[hc]at h2; simp at h2
  ·exact .inl
 exact⟨R.next,fun x hx=>R.base x fun q h1 h2=>hx q h1 ((hE q).2 h2),fun q x h1 h2 h3 h4=>R.late q x h1 ((hE q).1 h2) h3 fun q' a b=>h4 q' a ((hE q').2 b)⟩
end
end Go.Abs
namespace Go.Abs
section
variable {P:Program} {Prot:Gh} {w0:World} {ρ:Pl} {H:aa} {w:World}
theorem cg.set_dead(R:cg Prot w0 ρ H w){b:Nat}(hd:Prot.dead b){c:List ab}{low:Nat}(hg:H.get b=some (.cells c low false))(xs:List ab):cg Prot w0 ρ (H.set b (.cells xs 0 false)) w:=by
 obtain⟨hbn,hnone⟩:=R.dead b hd
 have hne:∀{b' l L},ρ b' l=some L->b'≠b:=fun {b' l L} h e=>by subst e; rw[hnone]at h; simp at h
 have hget:∀{b'},b'≠b->(H.set b (.cells xs 0 false)).get b'=H.get b':=fun h=>by rw[aa.get_set,if_neg h]
 refine⟨R.os,R.tape,R.output,R.size,R.prot,R.dom,fun b' l L q=>?_,fun b' l L x q hx=>?_,fun b1 l1 L1 b2 l2 L2 x q1 q2 e hx=>?_,R.dead,fun b' l low' hx=>?_⟩
 ·rw[hget (hne q)]; exact R.obj b' l L q
 ·rw[hget (hne q)]at hx; exact R.free b' l L x q hx
 ·rw[hget (hne q1)]at hx; exact R.inj b1 l1 L1 b2 l2 L2 x q1 q2 e hx
 ·by_cases e:b'=b
  ·subst e
   rw[aa.get_set,if_pos rfl]at hx
   simp at hx
  ·rw[hget e]at hx; exact R.glob b' l low' hx
theorem Bc(R:cg Prot w0 ρ H w){sT elem:TypeId}{size:Nat}{agg:Bool}{z:List ab}(hu:P.underlying sT=some (.slice elem))(T:Ty P elem agg size)(hz:dF P elem=some z)
  (hzl:z.length=size) {len:Nat} (hsm:len*size<=16777216) {ps:List (Nat×Nat×ab)} {qs:Array (Nat×Value)} (hp:eV ρ (fun i=>some (i*size,size)) ps qs.toList) {xs:List ab}
  (hxs:ny (ud z len) ps=some xs) {b:Nat} (hd:Prot.dead b) {c:List ab} {low:Nat} (hg:H.get b=some (.cells c low false)) :
  ∃ρ' w' u,ρ.le ρ'/\(Instr.buildSlice sT len qs).run P w=.ok u w'/\cg ⟨Prot.prot,fun d=>Prot.dead d/\d≠b⟩ w0 ρ' (H.set b (.cells xs 0 false)) w'/\ak ρ' (.slice (some ⟨b,xs.length,0⟩) len (.known len)) u:=by
 obtain⟨zv,hzr,hzl'⟩:=iH hz
 have hlen:=ap.len (hzl' ρ)
 simp only[Array.length_toList]at hlen
 obtain⟨C,f1,f2⟩:=qY hp (lP (hzl' ρ) len) hxs
 rw[hzl]at f1
 obtain⟨ρ',q1,q3,q4⟩:=uH (R.set_dead hd hg xs) elem f2 hd (by rw[aa.get_set,if_pos rfl])
 have q2:(newRow elem C).run P w=.ok ⟨w.heap.size,0,none⟩ (w.alloc (.cells C elem)):=rfl
 have hsm':¬16777216<len*size:=om
 refine⟨ρ',_,.slice (some ⟨w.heap.size,0,none⟩) len len,q1,?_,q3,?_⟩
 ·by_cases hn:len*size=0
  ·have hm:dw zv.cells (len*size)=#[]:=by rw[hn]; simp[dw]
   rw[hm]at f1
   simp only[Instr.buildSlice,Sem.run_bind,run_underlying hu,Result.andThen_ok,T.size]
   simp[hn,show Array.range 0=#[] by simp,f1,q2]
  ·unfold dw at f1
   simp only[Instr.buildSlice,Sem.run_bind,run_underlying hu,Result.andThen_ok,T.size]
   simp[hsm',hn,hzr,f1,q2]
 ·simp only[ak]
  exact⟨_,q4,Nat.zero_le _,Nat.le_refl _,rfl⟩
theorem wL{c:Call}{n:Nat}{z:List ab}{l:List (Nat×Nat×bu)}(h:kf P c=some (.buildSl n z l)):False:=by
 unfold kf at h
 repeat' split at h
 all_goals first
  | (simp at h; done)
  | (cases hb:(Nat.beq _ _&&nQ P _) <;> simp[hb]at h; done)
  | skip
 all_goals (revert h; intro h; simp only[cond_eq_ite]at h; split at h <;> simp at h)
theorem wO{o:Op}{n:Nat}{z:List ab}{l:List (Nat×Nat×bu)}(h:pW P o=some (.buildSl n z l)):False:=by
 unfold pW at h
 repeat' split at h
 all_goals first
  | (simp at h; done)
  | (simp only[cond_eq_ite]at h; split at h <;> first | (simp at h; done) | (split at h <;> simp at h))
theorem Ms{o:Op}{len:Nat}{z:List ab}{l:List (Nat×Nat×bu)}(h:wP P o=some (.buildSl len z l)) :
  ∃t e ps g k,o=.buildSlice t len ps/\P.underlying t=some (.slice e)/\ge P e=some (g,k)/\dF P e=some z/\mt (fun i=>some (i*k,k)) ps.toList=some l/\z.length=k/\len*k<=16777216:=by
 unfold wP at h
 split at h
 ·rename_i a ha
  simp only[sJ]at h
  subst h
  exact (wO ha).elim
 ·split at h
  ·rename_i a ha
   simp only[sJ]at h
   subst h
   cases o <;> simp only[yY,reduceCtorEq]at ha
   case buildSlice t len' ps _=>
    split at ha
    ·rename_i e hu
     split at ha
     ·rename_i g k z' hk hz
      split at ha
      ·rename_i l' hl
       cases hg:(Nat.beq z'.length k&&Nat.ble (len'*k) 16777216) with
       | false=>rw[hg]at ha; simp at ha
       | true=>
        rw[hg]at ha
        simp only[QT,Nat.ble_eq]at hg
        simp only[cond_true,sJ,jv.buildSl.injEq]at ha
        obtain⟨rfl,rfl,rfl⟩:=ha
        exact⟨t,e,ps,g,k,rfl,hu,hk,hz,hl,QX hg.1,hg.2⟩
      ·simp at ha
     ·simp at ha
    ·simp at ha
   case call c=>exact (wL ha).elim
   all_goals
    exfalso
    repeat' split at ha
    all_goals first
     | (simp at ha; done)
     | (simp only[cond_eq_ite]at ha; split at ha <;> simp at ha)
  ·simp at h
def ym(l:List (Nat×Nat×bu)):List (Nat×Nat):=l.map fun q=>(q.1,q.2.1)
def ya(l:List (Nat×Nat×bu)):List bu:=l.map fun q=>q.2.2
theorem xk(T:Tr ab):∀l:List (Nat×Nat×bu),IY (ym l) (gA T (ya l))=z8 T l
 | []=>rfl
 | (a,b,x)::r=>by
  have:=xk T r
  simp only[ym,ya,List.map_cons,gA,IY,z8]at this ⊢
  rw[this]
def Po(P:Program)(n:Nat)(ops:Array Oper)(o:Oper)(a:an)(b:Nat):Prop:=
 ∃len z l g,wP P o.op=some (.buildSl len z l)/\jo n ops o.guard=some g/\dW n o.dst=true/\a=⟨o.dst,.hf (.fill b len z (ym l)) (ya l),g⟩
theorem Hw(R:cg Prot w0 ρ H w){n:Nat}{T:Tr ab}{a:Act}(ht:bx ρ n T a.tmps){o:Oper}{len:Nat}{z:List ab}{l:List (Nat×Nat×bu)}(hc:wP P o.op=some (.buildSl len z l))
  {b:Nat} (hd:Prot.dead b) {v:ab} {H':aa} (hx:iF b len z (ym l) H (gA T (ya l))=some (v,H')) :
  ∃ρ' w' u,ρ.le ρ'/\(execOp a.eval o).run P w=.ok (.value u) w'/\cg ⟨Prot.prot,fun d=>Prot.dead d/\d≠b⟩ w0 ρ' H' w'/\ak ρ' v u:=by
 obtain⟨t,e,ps,g,k,ho,hu,hk,hz,hl,hzl,hsm⟩:=Ms hc
 unfold iF at hx
 split at hx <;> first | (simp at hx; done) | skip
 rename_i c hg
 split at hx <;> first | (simp at hx; done) | skip
 rename_i xs hxs
 simp only[sJ,pJ]at hx
 obtain⟨rfl,rfl⟩:=hx
 rw[xk]at hxs
 obtain⟨ρ1,w1,u,q1,q2,q3,q4⟩:=Bc (P:=P) (qs:=ps.map fun p=>(p.1,a.eval p.2)) R hu (ek hk) hz hzl hsm (by simpa using oF ht hl) hxs hd hg
 refine⟨ρ1,w1,u,q1,?_,q3,q4⟩
 obtain⟨dst,op,type,pos,after,guard⟩:=o
 simp only at ho
 subst ho
 show (do pure (Next.value (<- Instr.buildSlice t len (ps.map fun p=>(p.1,a.eval p.2)))):Sem Next).run P w=_
 simp only[Sem.run_bind,q2,Result.andThen_ok]
 rfl
end
end Go.Abs
namespace Go.Abs
section
variable {P:Program} {Prot:Gh} {w0:World} {tb:FuncId->Bool} {call:FuncId->List ab->aa->Option (ab×aa)}
def yJ:jv->Option Nat
 | .hf (.fill b _ _ _) _=>some b
 | _=>none
def pZ(D:Nat->Prop)(l:List an)(m:Nat->Bool):Nat->Prop:=fun d=>D d∨∃(i:Nat) (a:an),l[i]?=some a/\yJ a.op=some d/\m i=false
set_option maxHeartbeats 2000000 in
theorem HE(htb:∀f,Nat.blt f cA=true->tb f=true->bX P f=true)(hcall:js P call){ds:List Deferred}{n:Nat}{ops:Array Oper}{l:List an}{base:Nat}{ms:List Nat}
  (hlen:l.length=ops.toList.length) (hopers:∀(j:Nat) (o:Oper),ops.toList[j]?=some o->∃a,l[j]?=some a/\(eu P n ops o=some a∨∃c,base<=c/\Po P n ops o a c))
  (hbase:∀d,Prot.dead d->d<base) (hdis:∀(i j:Nat) (a b:an) (c:Nat),l[i]?=some a->l[j]?=some b->yJ a.op=some c->yJ b.op=some c->i=j) (hno:iP l)
  (hm:gN (ops.toList.map bi) ms=true) (hp:jf l ms=true) (hol:oM l ms=true) {T0:Tr ab} {H0:aa} {ss:List (ab×aa)} (htr:cP tb call l T0 H0=some ss)
  (hck:fR tb (H0::ss.map (·.2)) l ((List.range l.length).map (eG l ms)) ss T0=true)
  (hap:∀i j,ft l ms i j=true->∀x∈cC l ss T0 j,x∉cC l ss T0 i)
  (hal:∀i j k o,ft l ms i j=true->l[k]?=some o->dH o.op=true->jR ms k j=false->jR ms j k=false->∀x∈cC l ss T0 j,x∉cC l ss T0 k) {ρ0:Pl} {Q:Exit->Act->World->Prop}
  (hQ:∀a w,(∃ρ,ρ0.le ρ/\cg Prot w0 ρ (eF H0 ss l.length) w/\bx ρ n (bF (fun _=>true) 0 l ss T0) a.tmps/\a.defers=ds)->Q .normal a w) :
  ∀(fuel:Nat) (listed:Array Bool) (a:Act) (w:World),listed.size=ops.size->tW (fun i=>listed.getD i false) ops.size=fuel ->
   (∀j,j<ops.size->listed.getD j false=true->∀e∈(ops.toList.map bi).getD j [],listed.getD e false=true) ->
   (∃ρ Hx,ρ0.le ρ/\um l ss T0 H0 (fun i=>listed.getD i false) (aC (fun i=>listed.getD i false) 0 l) Hx/\cg ⟨Prot.prot,pZ Prot.dead l fun i=>listed.getD i false⟩ w0 ρ Hx w /\
    bx ρ n (bF (fun i=>listed.getD i false) 0 l ss T0) a.tmps/\a.defers=ds) ->
   wpAny P .any ops Q fuel listed a w:=by
 have hN:l.length=ops.size:=by simpa using hlen
 obtain⟨hsl,hat⟩:=hZ l T0 H0 ss 0 htr
 have hes:(ops.toList.map bi).length=ops.size:=by simp
 have hpair:∀i j a b,i<j->l[i]?=some a->l[j]?=some b->mM ms i j a b=true:=by
  intro i j a b hij hi hj
  have hp:=hp
  unfold jf at hp
  rw[List.all_eq_true]at hp
  have hjl:=(QR.1 hj).1
  have h1:=hp j (List.mem_range.2 hjl)
  rw[hj]at h1
  simp only at h1
  rw[List.all_eq_true]at h1
  have h2:=h1 i (List.mem_range.2 hij)
  rw[hi]at h2
  exact h2
 have hload:∀i j k o,ft l ms i j=true->l[k]?=some o->dH o.op=true->jR ms k j=true->jR ms k i=true:=by
  intro i j k o h1 h2 h3 h4
  obtain⟨_,_,hi,hj,hij,_⟩:=fM hp h1
  unfold oM at hol
  rw[List.all_eq_true]at hol
  have q:=hol j (List.mem_range.2 (QR.1 hj).1)
  rw[List.all_eq_true]at q
  have q2:=q i (List.mem_range.2 hij)
  rw[h1]at q2
  simp only[Bool.not_true,Bool.false_or]at q2
  rw[List.all_eq_true]at q2
  have q3:=q2 k (List.mem_range.2 (QR.1 h2).1)
  rw[h2]at q3
  simpa[h3,h4] using q3
 intro fuel
 induction fuel with
 | zero=>
  intro listed a w hsz hu _ hinv
  have hall:∀i,i<ops.size->listed.getD i false=true:=rF hu
  refine⟨?_,hQ a w ?_⟩
  ·unfold Region.ready
   rw[List.filter_eq_nil_iff]
   intro i hi
   have:=hall i (List.mem_range.1 hi)
   have e:listed.getD i true=true:=by
    rw[Array.getD_eq_getD_getElem?]at this ⊢
    rw[Array.getElem?_eq_getElem (by rw[hsz]; exact List.mem_range.1 hi)]at this ⊢
    simpa using this
   simp[e]
  ·obtain⟨ρ,Hx,h1,hH,h2,h3,h4⟩:=hinv
   have hst:aC (fun i=>listed.getD i false) 0 l=l.length:=by
    obtain⟨q1,q2,q3,q4⟩:=ed (fun i=>listed.getD i false) l 0
    rcases Nat.lt_or_ge (aC (fun i=>listed.getD i false) 0 l) l.length with q | q
    ·have ho:l[aC (fun i=>listed.getD i false) 0 l-0]?=some l[aC (fun i=>listed.getD i false) 0 l]:=by simp
     have:=(q4 _ (by simpa using q) ho).2
     rw[hall _ om]at this
     simp at this
    ·omega
   rw[hst]at hH
   refine⟨ρ,h1,?_,h3.congr fun t=>?_,h4⟩
   ·have:=h2.ext_heap (H':=eF H0 ss l.length) hH.next.symm fun x=>(hH.base x fun q q1 q2=>by
     obtain⟨_,o,q3,_⟩:=q2
     have:=(QR.1 q3).1
     omega).symm
    exact this.fewer (D:=Prot.dead) fun d hd=>.inl hd
   ·refine gh l ss 0 T0 T0 rfl fun i o hi _=>?_
    have:=(QR.1 hi).1
    simp only[Nat.zero_add]
    exact (hall i om).symm
 | succ fuel ih=>
  intro listed a w hsz hu hdown hinv
  obtain⟨ρ,Hx,hle,hH,R,ht,hd⟩:=hinv
  have hml:=qx hm (m:=fun i=>listed.getD i false) (fun j hj hjl e he=>hdown j om hjl e he)
  have hmask:∀j,j<ops.size->(∀e∈(ops.toList.map bi).getD j [],listed.getD e false=true)->∀i,i<j->jR ms j i=true->listed.getD i false=true:=
   fun j hj he i hi hb=>hml j om he i hi hb
  have hDn:MN l ms (fun i=>listed.getD i false):=fun j hj hjl i hi hb=>hmask j om (hdown j om hjl) i hi hb
  refine⟨fun hnone=>?_,fun i hi=>?_⟩
  ·-- there is one that is ready
   exfalso
   have hex:∃i,i<ops.size/\listed.getD i false=false:=by
    rcases Classical.em (∃i,i<ops.size/\listed.getD i false=false) with h | h
    ·exact h
    ·exfalso
     have:tW (fun i=>listed.getD i false) ops.size=0:=vV fun i hi=>by
      cases hb:listed.getD i false with
      | true=>rfl
      | false=>exact (h ⟨i,hi,hb⟩).elim
     omega
   have hmin:∃i,i<ops.size/\listed.getD i false=false/\∀j,j<i->listed.getD j false=true:=by
    obtain⟨i,hi1,hi2⟩:=hex
    induction i using Nat.strongRecOn with
    | _ i ihm=>
     rcases Classical.em (∃j,j<i/\listed.getD j false=false) with⟨j,hj,hj2⟩ | h
     ·exact ihm j hj om hj2
     ·refine⟨i,hi1,hi2,fun j hj=>?_⟩
      cases hb:listed.getD j false with
      | true=>rfl
      | false=>exact (h ⟨j,hj,hb⟩).elim
   obtain⟨i,hi1,hi2,hi3⟩:=hmin
   have:i∈Region.ready .any ops listed:=by
    rw[mem_ready]
    refine⟨?_,ops[i],Array.getElem?_eq_getElem hi1,fun e he hb=>?_⟩
    ·rw[Array.getD_eq_getD_getElem?]at hi2 ⊢
     rw[Array.getElem?_eq_getElem om]at hi2 ⊢
     simpa using hi2
    ·refine hi3 _ ?_
     unfold gN at hm
     rw[List.all_eq_true]at hm
     have h1:=hm i (List.mem_range.2 om)
     simp only[QT,List.all_eq_true]at h1
     refine QW (h1.1 e.on ?_)
     have:(ops.toList.map bi).getD i []=bi ops[i]:=by simp[List.getD,hi1]
     rw[this]
     unfold bi
     rw[List.mem_map]
     exact⟨e,by rw[List.mem_filter]; exact⟨by simpa using he,hb⟩,rfl⟩
   rw[hnone]at this
   simp at this
  ·obtain⟨hi1,o,ho,hedge⟩:=mem_ready.1 hi
   have hiN:i<ops.size:=(Array.getElem?_eq_some_iff.1 ho).1
   have hmi:listed.getD i false=false:=by
    rw[Array.getD_eq_getD_getElem?]at hi1 ⊢
    rw[Array.getElem?_eq_getElem om]at hi1 ⊢
    simpa using hi1
   obtain⟨ao,hao,hco⟩:=hopers i o (by simpa using ho)
   have hedges:∀e∈(ops.toList.map bi).getD i [],listed.getD e false=true:=by
    have:(ops.toList.map bi).getD i []=bi o:=by
     have:ops[i]=o:=by simpa[Array.getElem?_eq_getElem hiN] using ho
     simp[List.getD,hiN,this]
    rw[this]
    intro e he
    unfold bi at he
    rw[List.mem_map]at he
    obtain⟨x,hx,rfl⟩:=he
    rw[List.mem_filter]at hx
    exact hedge x (by simpa using hx.1) hx.2
   have hafter:∀c b,i<c->l[c]?=some b->jR ms c i=true->listed.getD c false=false:=by
    intro c b hc hb hbit
    cases hx:listed.getD c false with
    | false=>rfl
    | true=>
     have hcN:=(QR.1 hb).1
     have:=hmask c om (hdown c om hx) i hc hbit
     rw[hmi]at this
     simp at this
   have hagree:∀t∈jL ao,(bF (fun i=>listed.getD i false) 0 l ss T0).get t=(bF (fun j=>Nat.blt j (0+i)) 0 l ss T0).get t:=by
    intro t htr'
    refine gh l ss 0 T0 T0 rfl fun c b hc hdst=>?_
    have hcN:=(QR.1 hc).1
    simp only[Nat.zero_add]
    rcases Nat.lt_trichotomy c i with h | h | h
    ·have e:Nat.blt c i=true:=QS h
     rw[e]
     have hpr:=hpair c i b ao h hc hao
     simp only[mM,Bool.or_eq_true,QT]at hpr
     rcases hpr with hpr | ⟨hpr,_⟩
     ·exact hmask i hiN hedges c h hpr
     ·exfalso
      simp only[wI,hdst,QT,Bool.not_eq_true',List.contains_eq_mem,decide_eq_false_iff_not]at hpr
      exact hpr.1.1 htr'
    ·subst h
     have e:Nat.blt c c=false:=by
      cases hb:Nat.blt c c with
      | false=>rfl
      | true=>have:=QW hb; omega
     rw[e]; exact hmi
    ·have e:Nat.blt c i=false:=by
      cases hb:Nat.blt c i with
      | false=>rfl
      | true=>have:=QW hb; omega
     rw[e]
     have hpr:=hpair i c ao b h hao hc
     simp only[mM,Bool.or_eq_true,QT]at hpr
     rcases hpr with hpr | ⟨hpr,_⟩
     ·exact hafter c b h hc hpr
     ·exfalso
      simp only[wI,hdst,QT,Bool.not_eq_true',List.contains_eq_mem,decide_eq_false_iff_not]at hpr
      exact hpr.2 htr'
   have hgd:im (bF (fun i=>listed.getD i false) 0 l ss T0) ao.guard=im (bF (fun j=>Nat.blt j (0+i)) 0 l ss T0) ao.guard:=by
    cases hg:ao.guard with
    | none=>rfl
    | some g=>
     obtain⟨t,b⟩:=g
     simp only[im,ev]
     rw[hagree (gS t) (by simp[jL,hg])]
   have hop:∀H,ct tb (bF (fun i=>listed.getD i false) 0 l ss T0) H ao.op=ct tb (bF (fun j=>Nat.blt j (0+i)) 0 l ss T0) H ao.op:=
    fun H=>vK fun t h=>hagree t (by simp only[jL,List.mem_append]; exact .inl h)
   obtain⟨v,H1,hss,hstep⟩:=hat i ao hao
   obtain⟨st1,st2,st3,st4⟩:=ed (fun i=>listed.getD i false) l 0
   have hready:∀c,c<i->jR ms i c=true->listed.getD c false=true:=fun c h1 h2=>hmask i hiN hedges c h1 h2
   have hm':∀j,(listed.setIfInBounds i true).getD j false=dU (fun i=>listed.getD i false) i j:=by
    intro j
    unfold dU
    by_cases e:j=i
    ·subst e
     rw[if_pos rfl,Array.getD_eq_getD_getElem?]
     have:j<listed.size:=om
     simp[this]
    ·rw[if_neg e]
     exact getD_set_ne false (fun q=>e q.symm)
   have hmf:(fun j=>(listed.setIfInBounds i true).getD j false)=dU (fun i=>listed.getD i false) i:=funext hm'
   have hnext:∀(ρ':Pl) (w':World) (a':Act) (H3:aa),ρ.le ρ'->um l ss T0 H0 (dU (fun i=>listed.getD i false) i) (aC (dU (fun i=>listed.getD i false) i) 0 l) H3 ->
     cg ⟨Prot.prot,pZ Prot.dead l (dU (fun i=>listed.getD i false) i)⟩ w0 ρ' H3 w' ->
     bx ρ' n (cQ (bF (fun i=>listed.getD i false) 0 l ss T0) ao.dst v) a'.tmps->a'.defers=ds->wpAny P .any ops Q fuel (listed.setIfInBounds i true) a' w':=by
    intro ρ' w' a' H3 hle' hH' R' ht' hd'
    refine ih _ a' w' (by simpa using hsz) ?_ ?_ ⟨ρ',H3,Pl.le_trans hle hle',by rw[hmf]; exact hH',by rw[hmf]; exact R',?_,hd'⟩
    ·have:=vU (m:=fun i=>listed.getD i false) (m':=fun j=>(listed.setIfInBounds i true).getD j false) (i:=i) (n:=ops.size) hiN hmi (by rw[hm']; simp[dU]) (fun j hj=>by rw[hm']; simp[dU,hj])
     omega
    ·intro j hj hjl e he
     rw[hm']at hjl ⊢
     simp only[dU]at hjl ⊢
     by_cases q:e=i
     ·rw[if_pos q]
     ·rw[if_neg q]
      by_cases q2:j=i
      ·subst q2; exact hedges e he
      ·rw[if_neg q2]at hjl; exact hdown j hj hjl e he
    ·refine ht'.congr fun t=>?_
     rw[hmf,lV]
     by_cases e:ao.dst=some t
     ·rw[if_pos e]
      refine jW l ss 0 i T0 ao v H1 hao hss e (by simp[dU]) fun c b hc hcb hdst=>?_
      simp only[Nat.zero_add,dU]
      rw[if_neg om]
      have hpr:=hpair i c ao b hc hao hcb
      simp only[mM,Bool.or_eq_true,QT]at hpr
      rcases hpr with hpr | ⟨hpr,_⟩
      ·exact hafter c b hc hcb hpr
      ·exfalso
       simp only[wI,e,QT,Bool.not_eq_true',beq_eq_false_iff_ne]at hpr
       exact hpr.1.2 hdst
     ·rw[if_neg e]
      refine gh l ss 0 T0 T0 rfl fun c b hc hdst=>?_
      simp only[Nat.zero_add,dU]
      rw[if_neg]
      intro q
      subst q
      rw[hao]at hc
      simp only[sJ]at hc
      subst hc
      exact e hdst
   have hge:aI ao.op=true->aC (fun i=>listed.getD i false) 0 l<=i:=by
    intro hc
    rcases Nat.lt_or_ge i (aC (fun i=>listed.getD i false) 0 l) with h | h
    ·have:=st3 i ao hao hc (by simpa using h)
     simp only[Nat.zero_add]at this
     rw[hmi]at this
     simp at this
    ·exact h
   have hlink:aI ao.op=true->∃Hy H3,Hy.next=Hx.next/\(∀x,Hy.get x=Hx.get x)/\bI tb call ao (bF (fun j=>Nat.blt j (0+i)) 0 l ss T0) Hy=some (v,H3) /\
     um l ss T0 H0 (dU (fun i=>listed.getD i false) i) (aC (dU (fun i=>listed.getD i false) i) 0 l) H3:=by
    intro hc
    have h1:=hge hc
    have hpl:aC (fun i=>listed.getD i false) 0 l<l.length:=om
    have hob2:l[aC (fun i=>listed.getD i false) 0 l]?=some (l[aC (fun i=>listed.getD i false) 0 l]'hpl):=QQ hpl
    obtain⟨q1,q2⟩:=st4 _ om (by rw[Nat.sub_zero]; exact hob2)
    obtain⟨s1,s2,s3,s4⟩:=ed (dU (fun i=>listed.getD i false) i) l 0
    rcases Nat.lt_or_ge (aC (fun i=>listed.getD i false) 0 l) i with h | h
    ·obtain⟨H3,e1,e2⟩:=Jv htr hp hap hDn hob2 q1 q2 hao hc hmi hready h hH hss hstep
     have e3:aC (dU (fun i=>listed.getD i false) i) 0 l=aC (fun i=>listed.getD i false) 0 l:=by
      rcases Nat.lt_trichotomy (aC (dU (fun i=>listed.getD i false) i) 0 l) (aC (fun i=>listed.getD i false) 0 l) with k | k | k
      ·exfalso
       have hob3:l[aC (dU (fun i=>listed.getD i false) i) 0 l]?=some (l[aC (dU (fun i=>listed.getD i false) i) 0 l]'om):=QQ om
       obtain⟨r1,r2⟩:=s4 _ om (by rw[Nat.sub_zero]; exact hob3)
       have:=st3 _ _ hob3 r1 om
       simp only[Nat.zero_add]at this
       simp only[dU]at r2
       split at r2
       ·simp at r2
       ·rw[r2]at this; simp at this
      ·exact k
      ·exfalso
       have:=s3 _ _ hob2 q1 om
       simp only[Nat.zero_add,dU]at this
       rw[if_neg om,q2]at this
       simp at this
     exact⟨Hx,H3,rfl,fun _=>rfl,e1,by rw[e3]; exact e2⟩
    ·have hpi:aC (fun i=>listed.getD i false) 0 l=i:=om
     rw[hpi]at hH
     refine Jt htr hp hap hDn hao hc hmi ?_ om (fun c oc k1 k2 k3 k4=>?_) hH hss hstep
     ·rcases Nat.lt_or_ge i (aC (dU (fun i=>listed.getD i false) i) 0 l) with k | k
      ·exact k
      ·exfalso
       have hob3:l[aC (dU (fun i=>listed.getD i false) i) 0 l]?=some (l[aC (dU (fun i=>listed.getD i false) i) 0 l]'om):=QQ om
       obtain⟨r1,r2⟩:=s4 _ om (by rw[Nat.sub_zero]; exact hob3)
       simp only[dU]at r2
       split at r2
       ·simp at r2
       ·have:=st3 _ _ hob3 r1 om
        simp only[Nat.zero_add]at this
        rw[r2]at this; simp at this
     ·have:=s3 c oc k3 k4 om
      simp only[Nat.zero_add,dU]at this
      rwa [if_neg om]at this
   have hplain:aI ao.op=false->um l ss T0 H0 (dU (fun i=>listed.getD i false) i) (aC (dU (fun i=>listed.getD i false) i) 0 l) Hx:=by
    intro hc
    have e3:aC (dU (fun i=>listed.getD i false) i) 0 l=aC (fun i=>listed.getD i false) 0 l:=ie l 0 fun c b hcb hcc=>by
     simp only[Nat.zero_add,dU]
     rw[if_neg]
     intro e
     subst e
     rw[hao]at hcb
     simp only[sJ]at hcb
     subst hcb
     rw[hc]at hcc
     simp at hcc
    rw[e3]
    exact Ju hao hc hH
   have hval:aI ao.op=false->im (bF (fun j=>Nat.blt j (0+i)) 0 l ss T0) ao.guard=true->ct tb (bF (fun j=>Nat.blt j (0+i)) 0 l ss T0) Hx ao.op=some (.val v,Hx):=by
    intro hc hgo
    unfold bI at hstep
    rw[hgo]at hstep
    simp only[cond_true]at hstep
    cases hpu:jQ ao.op with
    | true=>
     split at hstep
     ·rename_i u H2 hu
      simp only[sJ,pJ]at hstep
      obtain⟨rfl,rfl⟩:=hstep
      exact (fL hpu hu).2.2 _
     ·rename_i f args H2 hu
      obtain⟨_,⟨x,hx⟩,_⟩:=fL hpu hu
      simp at hx
     ·simp at hstep
    | false=>
     have hld:dH ao.op=true:=by
      unfold aI at hc
      cases h1:dH ao.op with
      | true=>rfl
      | false=>rw[hpu,h1]at hc; simp at hc
     have hw:∃H2,ct tb (bF (fun j=>Nat.blt j (0+i)) 0 l ss T0) (eF H0 ss (aC (fun i=>listed.getD i false) 0 l)) ao.op=some (.val v,H2):=by
      cases hsm:qq l i (aC (fun i=>listed.getD i false) 0 l) with
      | true=>
       unfold qq at hsm
       rw[QT,List.all_eq_true]at hsm
       have hij:=QW hsm.1
       have hb:=di htr (aC (fun i=>listed.getD i false) 0 l-i) i om fun c b c1 c2 c3=>by
        have:=hsm.2 c (List.mem_range.2 om)
        rw[c3]at this
        simp only[Bool.or_eq_true,Bool.not_eq_true']at this
        rcases this with h | h
        ·have:=QW h; omega
        ·exact h
       rw[show i+(aC (fun i=>listed.getD i false) 0 l-i)=aC (fun i=>listed.getD i false) 0 l by omega]at hb
       rw[hb]
       split at hstep
       ·rename_i u H2 hu
        simp only[sJ,pJ]at hstep
        obtain⟨rfl,rfl⟩:=hstep
        exact⟨_,hu⟩
       ·rename_i f args H2 hu
        obtain⟨_,x,hx⟩:=jg hld hu
        simp at hx
       ·simp at hstep
      | false=>
       have hmem:aC (fun i=>listed.getD i false) 0 l∈eG l ms i:=by
        unfold eG
        rw[hao]
        simp only[hld,cond_true]
        rw[List.mem_filter]
        refine⟨List.mem_range.2 om,?_⟩
        rw[hsm]
        simp only[Bool.not_false,Bool.true_and]
        unfold uV
        rw[QT]
        refine⟨?_,?_⟩
        ·unfold mT
         rcases Nat.lt_or_ge (aC (fun i=>listed.getD i false) 0 l) l.length with h | h
         ·have hob:l[aC (fun i=>listed.getD i false) 0 l]?=some l[aC (fun i=>listed.getD i false) 0 l]:=QQ h
          rw[hob]
          exact (st4 _ om (by simp)).1
         ·rw[Q8 h]
          have:aC (fun i=>listed.getD i false) 0 l=l.length:=om
          rw[this]
          exact Nat.beq_refl _
        ·rw[List.all_eq_true]
         intro c hcr
         have hcl:=List.mem_range.1 hcr
         rw[QQ hcl]
         simp only[Bool.or_eq_true,Bool.not_eq_true']
         cases hcc:aI l[c].op with
         | false=>exact .inl rfl
         | true=>
          right
          have hlc:l[c]?=some l[c]:=QQ hcl
          cases hb:Nat.blt c (aC (fun i=>listed.getD i false) 0 l) with
          | true=>
           simp only[cond_true,Bool.not_eq_true']
           have hlt:c<aC (fun i=>listed.getD i false) 0 l:=QW hb
           have hcm:=st3 c _ hlc hcc om
           simp only[Nat.zero_add]at hcm
           cases hbit:jR ms c i with
           | false=>rfl
           | true=>
            exfalso
            rcases Nat.lt_trichotomy i c with h | h | h
            ·have:=hafter c _ h hlc hbit
             rw[hcm]at this; simp at this
            ·subst h; rw[hmi]at hcm; simp at hcm
            ·have:=kQ hbit
             omega
          | false=>
           simp only[cond_false,Bool.not_eq_true']
           have hge:aC (fun i=>listed.getD i false) 0 l<=c:=by
            rcases Nat.lt_or_ge c (aC (fun i=>listed.getD i false) 0 l) with h | h
            ·have:Nat.blt c (aC (fun i=>listed.getD i false) 0 l)=true:=QS h
             rw[hb]at this; simp at this
            ·exact h
           cases hbit:jR ms i c with
           | false=>rfl
           | true=>
            exfalso
            have hlc2:=hmask i hiN hedges c (kQ hbit) hbit
            have hpl:aC (fun i=>listed.getD i false) 0 l<l.length:=om
            have hob2:l[aC (fun i=>listed.getD i false) 0 l]?=some (l[aC (fun i=>listed.getD i false) 0 l]'hpl):=QQ hpl
            obtain⟨q1,q2⟩:=st4 _ om (by rw[Nat.sub_zero]; exact hob2)
            rcases Nat.lt_trichotomy (aC (fun i=>listed.getD i false) 0 l) c with h | h | h
            ·cases hpr:jR ms c (aC (fun i=>listed.getD i false) 0 l) with
             | true=>
              have:=hmask c om (hdown c om hlc2) _ h hpr
              rw[q2]at this; simp at this
             | false=>
              have hlp:=pO hob2 hlc h q1 hcc hpr
              have:=hload _ _ i ao hlp hao hld hbit
              have:=hready _ (kQ this) this
              rw[q2]at this; simp at this
            ·rw[h]at q2; rw[q2]at hlc2; simp at hlc2
            ·omega
       obtain⟨Hp,hHp,hrun⟩:=HI l _ ss T0 0 hck i _ (eG l ms i) v H1 hao (by simp[hN,hiN]) hss _ hmem
       obtain⟨H2,hH2⟩:=hrun hgo
       refine⟨H2,?_⟩
       have:Hp=eF H0 ss (aC (fun i=>listed.getD i false) 0 l):=by
        cases hstg:aC (fun i=>listed.getD i false) 0 l with
        | zero=>rw[hstg]at hHp; simpa[eF] using hHp.symm
        | succ q=>
         rw[hstg]at hHp
         simp only[Q0,List.getElem?_map]at hHp
         simp only[eF]
         cases hq:ss[q]? with
         | none=>rw[hq]at hHp; simp at hHp
         | some z=>rw[hq]at hHp; obtain⟨z1,z2⟩:=z; simpa using hHp.symm
       rw[<- this]
       exact hH2
     obtain⟨H2,hH2⟩:=hw
     have hE:∀q,aC (fun i=>listed.getD i false) 0 l<=q->dY l (fun i=>listed.getD i false) q->∀x∈cC l ss T0 q,x∉cC l ss T0 i:=by
      intro q hq he
      obtain⟨he1,oq,he2,he3⟩:=he
      have hql:=(QR.1 he2).1
      have hpl:aC (fun i=>listed.getD i false) 0 l<l.length:=om
      have hob2:l[aC (fun i=>listed.getD i false) 0 l]?=some (l[aC (fun i=>listed.getD i false) 0 l]'hpl):=QQ hpl
      obtain⟨q1,q2⟩:=st4 _ om (by rw[Nat.sub_zero]; exact hob2)
      have hpq:aC (fun i=>listed.getD i false) 0 l<q:=by
       rcases Nat.lt_or_ge (aC (fun i=>listed.getD i false) 0 l) q with k | k
       ·exact k
       ·exfalso
        have e9:q=aC (fun i=>listed.getD i false) 0 l:=om
        have h9:listed.getD q false=true:=he1
        rw[e9,q2]at h9; simp at h9
      have hlp:=dX hDn hob2 q1 q2 hpq ⟨he1,oq,he2,he3⟩
      refine hal _ q i ao hlp hao hld ?_ ?_
      ·cases hb:jR ms i q with
       | false=>rfl
       | true=>
        have:=hload _ _ i ao hlp hao hld hb
        have:=hready _ (kQ this) this
        rw[q2]at this; simp at this
      ·cases hb:jR ms q i with
       | false=>rfl
       | true=>
        have h9:listed.getD i false=true:=hDn q hql he1 i (kQ hb) hb
        rw[hmi]at h9; simp at h9
     cases hop':ao.op <;> rw[hop']at hld <;> simp only[dH,Q1]at hld
     case load agg k x=>
      rw[hop']at hH2
      simp only[ct]at hH2 ⊢
      have htc:cC l ss T0 i=gi (bF (fun j=>Nat.blt j (0+i)) 0 l ss T0) ao.op v:=by simp only[cC,hao,hss]
      have hfr:am agg k Hx (ev (bF (fun j=>Nat.blt j (0+i)) 0 l ss T0) x)=am agg k (eF H0 ss (aC (fun i=>listed.getD i false) 0 l)) (ev (bF (fun j=>Nat.blt j (0+i)) 0 l ss T0) x):=
       AM fun b hb=>hH.base b fun q k1 k2 k3=>hE q k1 k2 b k3 (by rw[htc,hop']; exact kj (List.mem_singleton.2 rfl) hb)
      rw[hfr]
      obtain⟨e1,e2,e3⟩:=oi hH2
      exact e3 _
     case claim b z s=>exact absurd hop' (hno ao (QY hao) b z s)
   have hfew:∀d,pZ Prot.dead l (dU (fun i=>listed.getD i false) i) d->pZ Prot.dead l (fun i=>listed.getD i false) d:=by
    rintro d (hd | ⟨i',a',x1,x2,x3⟩)
    ·exact .inl hd
    ·refine .inr ⟨i',a',x1,x2,?_⟩
     simp only[dU]at x3
     split at x3
     ·simp at x3
     ·exact x3
   have hord:(∃ax g,wP P o.op=some ax/\dW n o.dst=true/\ao=⟨o.dst,ax,g⟩/\jo n ops o.guard=some g)∨(∃c,base<=c/\Po P n ops o ao c):=by
    rcases hco with hco | hco
    ·unfold eu at hco
     split at hco
     ·rename_i ax g hopc hgc
      cases hdst:dW n o.dst with
      | false=>rw[hdst]at hco; simp at hco
      | true=>
       rw[hdst]at hco
       simp only[cond_true,sJ]at hco
       exact .inl ⟨ax,g,hopc,rfl,hco.symm,hgc⟩
     ·simp at hco
    ·exact .inr hco
   rcases hord with⟨ax,g,hopc,hdst,rfl,hgc⟩ | ⟨cb,hcb,len,z,lx,g,hopc,hgc,hdst,rfl⟩
   ·simp only at hgd hop hnext hao hlink hplain hval
    unfold wpOp
    simp only[ho]
    rw[gq ht hgc,hgd]
    have hd':∀u,(a.put o.dst u).defers=ds:=fun u=>by cases hx:o.dst <;> simpa[Act.put] using hd
    cases hc:aI ax with
    | true=>
     obtain⟨Hy,H3,y1,y2,y3,y4⟩:=hlink hc
     have Ry:=R.ext_heap y1 y2
     unfold bI at y3
     simp only at y3
     cases hgo:im (bF (fun j=>Nat.blt j (0+i)) 0 l ss T0) g with
     | false=>
      rw[hgo]at y3
      simp only[cond_false,sJ,pJ]at y3
      obtain⟨rfl,rfl⟩:=y3
      simp only[Q1,if_false]
      exact hnext ρ w _ Hy (Pl.le_refl _) y4 (Ry.fewer hfew) (cu ht hdst ez) (hd' _)
     | true=>
      rw[hgo]at y3
      simp only[cond_true]at y3
      simp only[if_true]
      left
      rw[<- hop]at y3
      split at y3
      ·rename_i u H2 hu
       simp only[sJ,pJ]at y3
       obtain⟨rfl,rfl⟩:=y3
       obtain⟨ρ1,w1,nx,q1,q2,q3,q4⟩:=jN htb Ry ht o hopc hu
       simp only[Oper.wp,q2]
       cases nx <;> simp only[kw]at q4
       case value u=>exact hnext ρ1 w1 _ _ q1 y4 (q3.fewer hfew) (cu (ht.mono q1) hdst q4) (hd' _)
       case skip=>exact hnext ρ1 w1 _ _ q1 y4 (q3.fewer hfew) (cu (ht.mono q1) hdst q4) (hd' _)
      ·rename_i f args H2 hu
       obtain⟨ρ1,w1,nx,q1,q2,q3,q4⟩:=jN htb Ry ht o hopc hu
       simp only[Oper.wp,q2]
       cases nx <;> simp only[kw]at q4
       case enter gf vs=>
        obtain⟨rfl,hbig,q5⟩:=q4
        simp only[Oper.upon]
        refine (hcall _ _ _ _ _ hbig y3 ⟨Prot.prot,pZ Prot.dead l fun i=>listed.getD i false⟩ w0 ρ1 w1 vs q3 q5).mono fun e w' hr=>?_
        obtain⟨ρ2,u,r1,rfl,r3,r4⟩:=hr
        exact hnext ρ2 w' _ _ (Pl.le_trans q1 r1) y4 (r3.fewer hfew) (cu ((ht.mono q1).mono r1) hdst r4) (hd' _)
      ·simp at y3
    | false=>
     have y4:=hplain hc
     cases hgo:im (bF (fun j=>Nat.blt j (0+i)) 0 l ss T0) g with
     | false=>
      unfold bI at hstep
      simp only at hstep
      rw[hgo]at hstep
      simp only[cond_false,sJ,pJ]at hstep
      obtain⟨rfl,rfl⟩:=hstep
      simp only[Q1,if_false]
      exact hnext ρ w _ Hx (Pl.le_refl _) y4 (R.fewer hfew) (cu ht hdst ez) (hd' _)
     | true=>
      simp only[if_true]
      left
      have hH2:=hval hc hgo
      rw[<- hop]at hH2
      obtain⟨ρ1,w1,nx,q1,q2,q3,q4⟩:=jN htb R ht o hopc hH2
      simp only[Oper.wp,q2]
      cases nx <;> simp only[kw]at q4
      case value u=>exact hnext ρ1 w1 _ Hx q1 y4 (q3.fewer hfew) (cu (ht.mono q1) hdst q4) (hd' _)
      case skip=>exact hnext ρ1 w1 _ Hx q1 y4 (q3.fewer hfew) (cu (ht.mono q1) hdst q4) (hd' _)
   ·-- a row,in a block that was laid mz
    simp only at hgd hop hnext hao hlink
    unfold wpOp
    simp only[ho]
    rw[gq ht hgc,hgd]
    have hd':∀u,(a.put o.dst u).defers=ds:=fun u=>by cases hx:o.dst <;> simpa[Act.put] using hd
    obtain⟨Hy,H3,y1,y2,y3,y4⟩:=hlink rfl
    have Ry:=R.ext_heap y1 y2
    unfold bI at y3
    simp only at y3
    cases hgo:im (bF (fun j=>Nat.blt j (0+i)) 0 l ss T0) g with
    | false=>
     rw[hgo]at y3
     simp only[cond_false,sJ,pJ]at y3
     obtain⟨rfl,rfl⟩:=y3
     simp only[Q1,if_false]
     exact hnext ρ w _ Hy (Pl.le_refl _) y4 (Ry.fewer hfew) (cu ht hdst ez) (hd' _)
    | true=>
     rw[hgo]at y3
     simp only[cond_true]at y3
     simp only[if_true]
     left
     rw[<- hop]at y3
     simp only[ct,Dq]at y3
     cases hf:iF cb len z (ym lx) Hy (gA (bF (fun i=>listed.getD i false) 0 l ss T0) (ya lx)) with
     | none=>rw[hf]at y3; simp[vh]at y3
     | some q=>
      obtain⟨u0,H4⟩:=q
      rw[hf]at y3
      simp only[vh,sJ,pJ]at y3
      obtain⟨rfl,rfl⟩:=y3
      obtain⟨ρ1,w1,u,q1,hrun,q3,q4⟩:=Hw Ry ht hopc (.inr ⟨i,_,hao,rfl,hmi⟩) hf
      simp only[Oper.wp,hrun]
      refine hnext ρ1 w1 _ _ q1 y4 (q3.fewer ?_) (cu (ht.mono q1) hdst q4) (hd' _)
      intro d hd0
      refine⟨hfew d hd0,?_⟩
      rintro rfl
      rcases hd0 with hd0 | ⟨i',a',x1,x2,x3⟩
      ·have:=hbase _ hd0; omega
      ·have:=hdis i' i a' _ _ x1 hao x2 rfl
       subst this
       simp[dU]at x3
end
end Go.Abs
