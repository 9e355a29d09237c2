/- Part of a proof (D4 D5 D6 D7 D6b D8); no condition. -/
import Derived.Test.YtfleblkgifoeaaaDoorP3
set_option linter.unusedSimpArgs false
set_option linter.unusedVariables false
set_option linter.unnecessarySimpa false
namespace Go.Abs
def rZ(m:Nat->Bool):Nat->Nat
 | 0=>0
 | n+1=>rZ m n+(bif m n then 0 else 1)
theorem pV{m:Nat->Bool}:∀{n:Nat},rZ m n=0->∀i,i<n->m i=true
 | 0,_,i,h=>om
 | n+1,h,i,hi=>by
  simp only[rZ]at h
  cases hb:m n with
  | true=>
   by_cases e:i=n
   ·rw[e]; exact hb
   ·exact pV (n:=n) (by rw[hb]at h; simpa using h) i om
  | false=>rw[hb]at h; simp at h
theorem ux{m:Nat->Bool}:∀{n:Nat},(∀i,i<n->m i=true)->rZ m n=0
 | 0,_=>rfl
 | n+1,h=>by simp only[rZ,ux (n:=n) fun i hi=>h i om,h n om,cond_true]
theorem vL{m m':Nat->Bool}:∀{n:Nat},(∀i,i<n->m i=m' i)->rZ m n=rZ m' n
 | 0,_=>rfl
 | n+1,h=>by simp only[rZ,vL (n:=n) fun i hi=>h i om,h n om]
theorem uw{m m':Nat->Bool}{i:Nat}:∀{n:Nat},i<n->m i=false->m' i=true->(∀j,j≠i->m' j=m j)->rZ m' n+1=rZ m n
 | 0,h,_,_,_=>om
 | n+1,h,h1,h2,h3=>by
  simp only[rZ]
  by_cases e:i=n
  ·subst e
   rw[h1,h2,vL (m:=m') (m':=m) fun j hj=>h3 j om]
   simp
  ·have:=uw (n:=n) om h1 h2 h3
   rw[h3 n (fun q=>e q.symm)]
   omega
section
variable {tb:FuncId->Bool} {call:FuncId->List aa->ab->Option (aa×ab)}
theorem FN{hs:List ab}:∀(l:List ah) (pss:List (List Nat)) (ss:List (aa×ab)) (T:Tr aa) (k:Nat),eL tb hs l pss ss T=true ->
  ∀j o ps v H',l[j]?=some o->pss[j]?=some ps->ss[j]?=some (v,H')->∀p∈ps,∃Hp,hs[p]?=some Hp /\
   (ga (ba (fun i=>Nat.blt i (k+j)) k l ss T) o.guard=true->∃H2,bG tb (ba (fun i=>Nat.blt i (k+j)) k l ss T) Hp o.op=some (.val v,H2)):=by
 intro l
 induction l with
 | nil=>intro pss ss T k _ j o ps v H' h; simp at h
 | cons o r ih=>
  intro pss ss T k h j o' ps v H' h1 h2 h3 p hp
  cases pss with
  | nil=>simp at h2
  | cons ps0 pss=>
   cases ss with
   | nil=>simp at h3
   | cons s ss=>
    obtain⟨u,H1⟩:=s
    simp only[eL,N4,List.all_eq_true]at h
    cases j with
    | zero=>
     simp only[Oa,sJ,pJ]at h1 h2 h3
     subst h1 h2
     obtain⟨rfl,rfl⟩:=h3
     have e:ba (fun i=>Nat.blt i (k+0)) k (o::r) ((u,H1)::ss) T=T:=by
      have hn:∀(l:List ah) (ss:List (aa×ab)) (k':Nat) (T:Tr aa),k<=k'->ba (fun i=>Nat.blt i (k+0)) k' l ss T=T:=by
       intro l
       induction l with
       | nil=>intro ss k' T _; cases ss <;> rfl
       | cons o r ih=>intro ss k' T hk; cases ss with
        | nil=>rfl
        | cons s ss=>
         obtain⟨a,b⟩:=s
         have:Nat.blt k' (k+0)=false:=by
          cases hb:Nat.blt k' (k+0) with
          | false=>rfl
          | true=>have:=N7 hb; omega
         simp only[ba,this,cond_false]
         exact ih ss (k'+1) T om
      exact hn _ _ k T rL
     rw[e]
     have:=h.1 p hp
     split at this
     ·rename_i Hp hHp
      refine⟨Hp,hHp,fun hg=>?_⟩
      rw[hg]at this
      simp only[cond_true]at this
      split at this
      ·rename_i x H2 hx
       rw[zV _ _ this]at hx
       exact⟨H2,hx⟩
      ·simp at this
     ·simp at this
    | succ j=>
     simp only[Ob]at h1 h2 h3
     have hb:Nat.blt k (k+(j+1))=true:=by
      show Nat.ble (k+1) (k+(j+1))=true
      exact N3 om
     simp only[ba,hb,cond_true]
     rw[show k+(j+1)=k+1+j by omega]
     exact ih pss ss (co T o.dst u) (k+1) h.2 j o' ps v H' h1 h2 h3 p hp
theorem Cc{o:ah}{T:Tr aa}{H H':ab}{v:aa}(hc:aA o.op=false)(h:be tb call o T H=some (v,H')):H'=H:=by
 unfold be at h
 cases hg:ga T o.guard with
 | false=>rw[hg]at h; simp only[cond_false,sJ,pJ]at h; exact h.2.symm
 | true=>
  rw[hg]at h
  simp only[cond_true]at h
  have hk:iG o.op=true∨dc o.op=true:=by
   unfold aA at hc
   cases h1:iG o.op <;> cases h2:dc o.op <;> simp_all
  split at h
  ·rename_i u H1 hu
   simp only[sJ,pJ]at h
   obtain⟨rfl,rfl⟩:=h
   rcases hk with hk | hk
   ·exact (eG hk hu).1
   ·exact (gO hk hu).1
  ·rename_i f args H1 hu
   rcases hk with hk | hk
   ·obtain⟨_,⟨v,hv⟩,_⟩:=eG hk hu; simp at hv
   ·obtain⟨_,v,hv⟩:=gO hk hu; simp at hv
  ·simp at h
theorem cI{l:List ah}{T0:Tr aa}{H0:ab}{ss:List (aa×ab)}(htr:cm tb call l T0 H0=some ss):∀(d p:Nat),p+d<=l.length->(∀c o,p<=c->c<p+d->l[c]?=some o->aA o.op=false)->dU H0 ss (p+d)=dU H0 ss p:=by
 intro d
 induction d with
 | zero=>intro p _ _; rfl
 | succ d ih=>
  intro p hp hn
  have h1:=ih p om fun c o h1 h2 h3=>hn c o h1 om h3
  obtain⟨_,hat⟩:=fT l T0 H0 ss 0 htr
  have ho:l[p+d]?=some l[p+d]:=N1 om
  obtain⟨v,H',q1,q2⟩:=hat _ _ ho
  have:=Cc (hn _ _ om om ho) q2
  rw[<- h1]
  show dU H0 ss (p+d+1)=_
  simp only[dU,q1]
  exact this
end
theorem fU{m m':Nat->Bool}:∀(l:List ah) (k:Nat),(∀c o,l[c]?=some o->aA o.op=true->m (k+c)=m' (k+c))->ap m k l=ap m' k l:=by
 intro l
 induction l with
 | nil=>intro k _; rfl
 | cons o r ih=>
  intro k h
  simp only[ap]
  have h1:=ih (k+1) fun c o' q1 q2=>by rw[show k+1+c=k+(c+1) by omega]; exact h (c+1) o' (by simpa using q1) q2
  cases hc:aA o.op with
  | false=>simp only[Bool.false_and,cond_false]; exact h1
  | true=>
   have:=h 0 o rfl hc
   simp only[Nat.add_zero]at this
   rw[this,h1]
theorem aW.congr{ρ:Pl}{n:Nat}{T T':Tr aa}{tmps:Array Value}(h:∀t,T'.get t=T.get t)(r:aW ρ n T tmps):aW ρ n T' tmps:=
 ⟨r.size,fun t=>by have:=r.at_ t; simp only[ev]at this ⊢; rw[h t]; exact this⟩
section
variable {P:Program} {Prot:Gh} {w0:World} {tb:FuncId->Bool} {call:FuncId->List aa->ab->Option (aa×ab)}
def kD(D:Nat->Prop)(l:List ah)(m:Nat->Bool):Nat->Prop:=fun d=>D d∨∃(i:Nat) (a:ah) (z:List aa) (s:Option (Nat×Nat)),l[i]?=some a/\a.op=.claim d z s/\m i=false
theorem CW{ρ:Pl}{H:ab}{w:World}(R:bv Prot w0 ρ H w){n:Nat}{T:Tr aa}{a:Act}(ht:aW ρ n T a.tmps){o:Oper}{z:List aa}{s:Option (Nat×Nat)}(hc:vA P o.op z s){b:Nat}(hd:Prot.dead b)(hx:H.get b=some (.cells z 0 false)) :
  ∃ρ' w' u,ρ.le ρ'/\(execOp a.eval o).run P w=.ok (.value u) w'/\bv ⟨Prot.prot,fun d=>Prot.dead d/\d≠b⟩ w0 ρ' H w'/\ae ρ' (ND b z s) u:=by
 obtain⟨dst,op,type,pos,after,guard⟩:=o
 simp only at hc
 rcases hc with⟨e,rfl,hz,rfl⟩ | ⟨t,l,c,e,m,by_,z0,x,y,ln,cn,rfl,h2,h3,h4,h5,h6,h7,h8,h9,rfl,rfl⟩
 ·obtain⟨ρ1,w1,u,q1,q2,q3,q4⟩:=xQ (P:=P) R hz hd hx
  refine⟨ρ1,w1,u,q1,?_,q3,q4⟩
  show (do pure (Next.value (<- Instr.alloc e true (.tuple #[]))):Sem Next).run P w=_
  simp only[Sem.run_bind,q2,Result.andThen_ok]
  rfl
 ·obtain⟨ρ1,w1,u,q1,q2,q3,q4⟩:=yR (P:=P) R h2 (vf h3) h4 (az ht h5) (az ht h6) h7 h8 h9 hd hx
  refine⟨ρ1,w1,u,q1,?_,q3,q4⟩
  show (do pure (Next.value (<- Instr.makeSlice t (a.eval l) (a.eval c))):Sem Next).run P w=_
  simp only[Sem.run_bind,q2,Result.andThen_ok]
  rfl
def BZ(P:Program)(n:Nat)(ops:Array Oper)(o:Oper)(a:ah):Prop:=
 ∃f args ats l g,o.op=.call ⟨.value (.func f),args,ats⟩/\di args.toList=some l/\gT n ops o.guard=some g/\du n o.dst=true/\Nat.blt f bN=true/\a=⟨o.dst,.call (bN+f) l,g⟩
def xW(P:Program)(call:FuncId->List aa->ab->Option (aa×ab)):Prop:=
 ∀f args H v H',Nat.blt f bN=true->call (bN+f) args H=some (v,H')->∀Prot w0 ρ w (vs:Array Value),bv Prot w0 ρ H w->aj ρ args vs.toList ->
  Calls P f vs w fun e w'=>∃ρ',ρ.le ρ'/\bv Prot w0 ρ' H' w'/\((∃u,e=.returned u/\ae ρ' v u)∨∃x u,v=j5 x/\e=.panicked [{ v:=u,recovered:=false }]/\ae ρ' x u)
def Ma(P:Program)(n:Nat)(ops:Array Oper)(l:List ah)(ms:List Nat)(rp:Nat->Prop)(o:Oper)(a:ah)(j:Nat):Prop:=
 ∃a' c d ac,dK P n ops o=some a'/\a'.guard=none/\a=⟨a'.dst,a'.op,some (SK+d,false)⟩/\iL ms j c=true/\rp c/\l[c]?=some ac/\ac.dst=some d/\∀k b,l[k]?=some b->b.dst=some d->k=c
theorem Kz(K d:Nat):(bif Nat.ble K (K+d) then K+d-K else K+d)=d/\Nat.ble K (K+d)=true:=by
 have h:Nat.ble K (K+d)=true:=N3 (Nat.le_add_right _ _)
 rw[h]
 exact⟨Nat.add_sub_cancel_left ..,rfl⟩
theorem Jv(d:Nat):gS (SK+d)=d/\Nat.ble SK (SK+d)=true:=Kz SK d
theorem mA{x:aa}(h:fg x=true):∃y,x=j5 y:=by
 unfold fg at h
 split at h
 ·exact⟨_,rfl⟩
 ·simp at h
theorem yH{ρ:Pl}{x y:aa}{v:Value}(h:ae ρ x v)(e:x=j5 y):False:=by
 subst e
 simp only[j5,ae,aj]at h
 obtain⟨f,c,_,⟨v,r,_,⟨h1,h2⟩,_⟩,_⟩:=h
 simp[Ll]at h2
set_option maxHeartbeats 2000000 in
theorem wX{RAW:Prop}(htb:∀f,Nat.blt f bN=true->tb f=true->bq P f=true)(hcall:gX P call)(htbP:RAW->∀f,Nat.blt f bN=true->tb (bN+f)=true->bq P f=true)(hcallP:RAW->xW P call){ds:List Deferred}{n:Nat}{ops:Array Oper}{l:List ah}{base:Nat}{ms:List Nat}{rp:Nat->Prop}
  (hlen:l.length=ops.toList.length) (hopers:∀(j:Nat) (o:Oper),ops.toList[j]?=some o->∃a,l[j]?=some a/\((¬rp j/\(dK P n ops o=some a∨(∃c,base<=c/\Dm P n ops o a c)∨Ma P n ops l ms rp o a j))∨(RAW/\rp j/\BZ P n ops o a)))
  (hbase:∀d,Prot.dead d->d<base) (hdis:∀(i j:Nat) (a b:ah) (c:Nat) (z z':List aa) (s s':Option (Nat×Nat)),l[i]?=some a->l[j]?=some b->a.op=.claim c z s->b.op=.claim c z' s'->i=j)
  (hm:fD (ops.toList.map aS) ms=true) (hp:dT l ms=true) {T0:Tr aa} {H0:ab} {ss:List (aa×ab)} (htr:cm tb call l T0 H0=some ss)
  (hck:eL tb (H0::ss.map (·.2)) l ((List.range l.length).map (dV l ms)) ss T0=true) {ρ0:Pl} {Q:Exit->Act->World->Prop}
  (hQ:∀a w,(∃ρ,ρ0.le ρ/\bv Prot w0 ρ (dU H0 ss l.length) w/\aW ρ n (ba (fun _=>true) 0 l ss T0) a.tmps/\a.defers=ds)->Q .normal a w)
  (hQP:RAW->∀(c:Nat) (a:Act) (w:World) (ρ:Pl) (x:aa) (u:Value),rp c->ρ0.le ρ->(∃H1,ss[c]?=some (j5 x,H1)/\bv Prot w0 ρ H1 w)->ae ρ x u->a.defers=ds->Q (.panic [{ v:=u,recovered:=false }]) a w) :
  ∀(fuel:Nat) (listed:Array Bool) (a:Act) (w:World),listed.size=ops.size->rZ (fun i=>listed.getD i false) ops.size=fuel ->
   (∀j,j<ops.size->listed.getD j false=true->∀e∈(ops.toList.map aS).getD j [],listed.getD e false=true) ->
   (∀c,rp c->listed.getD c false=true->∀x H1,ss[c]?≠some (j5 x,H1)) ->
   (∃ρ,ρ0.le ρ/\bv ⟨Prot.prot,kD Prot.dead l fun i=>listed.getD i false⟩ w0 ρ (dU H0 ss (ap (fun i=>listed.getD i false) 0 l)) w/\aW ρ n (ba (fun i=>listed.getD i false) 0 l ss T0) a.tmps/\a.defers=ds) ->
   wpAny P .any ops Q fuel listed a w:=by
 have hN:l.length=ops.size:=by simpa using hlen
 obtain⟨hsl,hat⟩:=fT l T0 H0 ss 0 htr
 have hes:(ops.toList.map aS).length=ops.size:=by simp
 have hpair:∀i j a b,i<j->l[i]?=some a->l[j]?=some b->fC ms i j a b=true:=by
  intro i j a b hij hi hj
  unfold dT at hp
  rw[List.all_eq_true]at hp
  have hjl:=(N2.1 hj).1
  have h1:=hp j (List.mem_range.2 hjl)
  rw[hj]at h1
  simp only at h1
  rw[List.all_eq_true]at h1
  have h2:=h1 i (List.mem_range.2 hij)
  rw[hi]at h2
  exact h2
 intro fuel
 induction fuel with
 | zero=>
  intro listed a w hsz hu _ _ hinv
  have hall:∀i,i<ops.size->listed.getD i false=true:=pV hu
  refine⟨?_,hQ a w ?_⟩
  ·unfold Region.ready
   rw[List.filter_eq_nil_iff]
   intro i hi
   have:=hall i (List.mem_range.1 hi)
   have e:listed.getD i true=true:=by
    rw[Array.getD_eq_getD_getElem?]at this ⊢
    rw[Array.getElem?_eq_getElem (by rw[hsz]; exact List.mem_range.1 hi)]at this ⊢
    simpa using this
   simp[e]
  ·obtain⟨ρ,h1,h2,h3,h4⟩:=hinv
   refine⟨ρ,h1,?_,h3.congr fun t=>?_,h4⟩
   ·have hs:=dz (fun i=>listed.getD i false) l 0
    have:ap (fun i=>listed.getD i false) 0 l=l.length:=by
     obtain⟨q1,q2,q3,q4⟩:=hs
     rcases Nat.lt_or_ge (ap (fun i=>listed.getD i false) 0 l) l.length with q | q
     ·have ho:l[ap (fun i=>listed.getD i false) 0 l-0]?=some l[ap (fun i=>listed.getD i false) 0 l]:=by simp
      have:=(q4 _ (by simpa using q) ho).2
      rw[hall _ om]at this
      simp at this
     ·omega
    rw[this]at h2
    exact h2.fewer (D:=Prot.dead) fun d hd=>.inl hd
   ·refine eU l ss 0 T0 T0 rfl fun i o hi _=>?_
    have:=(N2.1 hi).1
    simp only[Nat.zero_add]
    exact (hall i om).symm
 | succ fuel ih=>
  intro listed a w hsz hu hdown hliv hinv
  obtain⟨ρ,hle,R,ht,hd⟩:=hinv
  have hml:=oU hm (m:=fun i=>listed.getD i false) (fun j hj hjl e he=>hdown j om hjl e he)
  have hmask:∀j,j<ops.size->(∀e∈(ops.toList.map aS).getD j [],listed.getD e false=true)->∀i,i<j->iL ms j i=true->listed.getD i false=true:=
   fun j hj he i hi hb=>hml j om he i hi hb
  refine⟨fun hnone=>?_,fun i hi=>?_⟩
  ·-- there is one that is ready
   exfalso
   have hex:∃i,i<ops.size/\listed.getD i false=false:=by
    rcases Classical.em (∃i,i<ops.size/\listed.getD i false=false) with h | h
    ·exact h
    ·exfalso
     have:rZ (fun i=>listed.getD i false) ops.size=0:=ux fun i hi=>by
      cases hb:listed.getD i false with
      | true=>rfl
      | false=>exact (h ⟨i,hi,hb⟩).elim
     omega
   have hmin:∃i,i<ops.size/\listed.getD i false=false/\∀j,j<i->listed.getD j false=true:=by
    obtain⟨i,hi1,hi2⟩:=hex
    induction i using Nat.strongRecOn with
    | _ i ihm=>
     rcases Classical.em (∃j,j<i/\listed.getD j false=false) with⟨j,hj,hj2⟩ | h
     ·exact ihm j hj om hj2
     ·refine⟨i,hi1,hi2,fun j hj=>?_⟩
      cases hb:listed.getD j false with
      | true=>rfl
      | false=>exact (h ⟨j,hj,hb⟩).elim
   obtain⟨i,hi1,hi2,hi3⟩:=hmin
   have:i∈Region.ready .any ops listed:=by
    rw[mem_ready]
    refine⟨?_,ops[i],Array.getElem?_eq_getElem hi1,fun e he hb=>?_⟩
    ·rw[Array.getD_eq_getD_getElem?]at hi2 ⊢
     rw[Array.getElem?_eq_getElem om]at hi2 ⊢
     simpa using hi2
    ·refine hi3 _ ?_
     unfold fD at hm
     rw[List.all_eq_true]at hm
     have h1:=hm i (List.mem_range.2 om)
     simp only[N4,List.all_eq_true]at h1
     refine N7 (h1.1 e.on ?_)
     have:(ops.toList.map aS).getD i []=aS ops[i]:=by simp[List.getD,hi1]
     rw[this]
     unfold aS
     rw[List.mem_map]
     exact⟨e,by rw[List.mem_filter]; exact⟨by simpa using he,hb⟩,rfl⟩
   rw[hnone]at this
   simp at this
  ·obtain⟨hi1,o,ho,hedge⟩:=mem_ready.1 hi
   have hiN:i<ops.size:=(Array.getElem?_eq_some_iff.1 ho).1
   have hmi:listed.getD i false=false:=by
    rw[Array.getD_eq_getD_getElem?]at hi1 ⊢
    rw[Array.getElem?_eq_getElem om]at hi1 ⊢
    simpa using hi1
   obtain⟨ao,hao,hco⟩:=hopers i o (by simpa using ho)
   have hedges:∀e∈(ops.toList.map aS).getD i [],listed.getD e false=true:=by
    have:(ops.toList.map aS).getD i []=aS o:=by
     have:ops[i]=o:=by simpa[Array.getElem?_eq_getElem hiN] using ho
     simp[List.getD,hiN,this]
    rw[this]
    intro e he
    unfold aS at he
    rw[List.mem_map]at he
    obtain⟨x,hx,rfl⟩:=he
    rw[List.mem_filter]at hx
    exact hedge x (by simpa using hx.1) hx.2
   have hafter:∀c b,i<c->l[c]?=some b->iL ms c i=true->listed.getD c false=false:=by
    intro c b hc hb hbit
    cases hx:listed.getD c false with
    | false=>rfl
    | true=>
     have hcN:=(N2.1 hb).1
     have:=hmask c om (hdown c om hx) i hc hbit
     rw[hmi]at this
     simp at this
   have hagree:∀t∈iD ao,(ba (fun i=>listed.getD i false) 0 l ss T0).get t=(ba (fun j=>Nat.blt j (0+i)) 0 l ss T0).get t:=by
    intro t htr'
    refine eU l ss 0 T0 T0 rfl fun c b hc hdst=>?_
    have hcN:=(N2.1 hc).1
    simp only[Nat.zero_add]
    rcases Nat.lt_trichotomy c i with h | h | h
    ·have e:Nat.blt c i=true:=N3 h
     rw[e]
     have hpr:=hpair c i b ao h hc hao
     simp only[fC,Bool.or_eq_true,N4]at hpr
     rcases hpr with hpr | ⟨_,hpr⟩
     ·exact hmask i hiN hedges c h hpr
     ·exfalso
      simp only[vi,hdst,N4,Bool.not_eq_true',List.contains_eq_mem,decide_eq_false_iff_not]at hpr
      exact hpr.1.1 htr'
    ·subst h
     have e:Nat.blt c c=false:=by
      cases hb:Nat.blt c c with
      | false=>rfl
      | true=>have:=N7 hb; omega
     rw[e]; exact hmi
    ·have e:Nat.blt c i=false:=by
      cases hb:Nat.blt c i with
      | false=>rfl
      | true=>have:=N7 hb; omega
     rw[e]
     have hpr:=hpair i c ao b h hao hc
     simp only[fC,Bool.or_eq_true,N4]at hpr
     rcases hpr with hpr | ⟨_,hpr⟩
     ·exact hafter c b h hc hpr
     ·exfalso
      simp only[vi,hdst,N4,Bool.not_eq_true',List.contains_eq_mem,decide_eq_false_iff_not]at hpr
      exact hpr.2 htr'
   have hgd:ga (ba (fun i=>listed.getD i false) 0 l ss T0) ao.guard=ga (ba (fun j=>Nat.blt j (0+i)) 0 l ss T0) ao.guard:=by
    cases hg:ao.guard with
    | none=>rfl
    | some g=>
     obtain⟨t,b⟩:=g
     simp only[ga,ev]
     rw[hagree (gS t) (by simp[iD,hg])]
   have hop:∀H,bG tb (ba (fun i=>listed.getD i false) 0 l ss T0) H ao.op=bG tb (ba (fun j=>Nat.blt j (0+i)) 0 l ss T0) H ao.op:=
    fun H=>ui fun t h=>hagree t (by simp only[iD,List.mem_append]; exact .inl h)
   obtain⟨v,H1,hss,hstep⟩:=hat i ao hao
   obtain⟨st1,st2,st3,st4⟩:=dz (fun i=>listed.getD i false) l 0
   have hchain:aA ao.op=true->ap (fun i=>listed.getD i false) 0 l=i:=by
    intro hc
    have hge:ap (fun i=>listed.getD i false) 0 l<=i:=by
     rcases Nat.lt_or_ge i (ap (fun i=>listed.getD i false) 0 l) with h | h
     ·have:=st3 i ao hao hc (by simpa using h)
      simp only[Nat.zero_add]at this
      rw[hmi]at this
      simp at this
     ·exact h
    rcases Nat.lt_or_ge (ap (fun i=>listed.getD i false) 0 l) i with h | h
    ·have hob:l[ap (fun i=>listed.getD i false) 0 l-0]?=some (l[ap (fun i=>listed.getD i false) 0 l]'om):=by simp
     obtain⟨q1,q2⟩:=st4 _ om hob
     have hob2:l[ap (fun i=>listed.getD i false) 0 l]?=some (l[ap (fun i=>listed.getD i false) 0 l]'om):=N1 om
     have hpr:=hpair _ i _ ao h hob2 hao
     simp only[fC,Bool.or_eq_true,N4]at hpr
     rcases hpr with hpr | ⟨hpr,_⟩
     ·have:=hmask i hiN hedges _ h hpr
      rw[q2]at this
      simp at this
     ·rw[q1,hc]at hpr
      simp at hpr
    ·omega
   have hnext:(rp i->∀x,v≠j5 x)->∀(ρ':Pl) (w':World) (a':Act),ρ.le ρ'->bv ⟨Prot.prot,kD Prot.dead l fun j=>if j=i then true else listed.getD j false⟩ w0 ρ' (if aA ao.op=true then H1 else dU H0 ss (ap (fun i=>listed.getD i false) 0 l)) w' ->
     aW ρ' n (co (ba (fun i=>listed.getD i false) 0 l ss T0) ao.dst v) a'.tmps->a'.defers=ds->wpAny P .any ops Q fuel (listed.setIfInBounds i true) a' w':=by
    intro hnp ρ' w' a' hle' R' ht' hd'
    have hm':∀j,(listed.setIfInBounds i true).getD j false=if j=i then true else listed.getD j false:=by
     intro j
     by_cases e:j=i
     ·subst e
      rw[if_pos rfl,Array.getD_eq_getD_getElem?]
      have:j<listed.size:=om
      simp[this]
     ·rw[if_neg e]
      exact getD_set_ne false (fun q=>e q.symm)
    have hmf:(fun j=>(listed.setIfInBounds i true).getD j false)=fun j=>if j=i then true else listed.getD j false:=funext hm'
    refine ih _ a' w' (by simpa using hsz) ?_ ?_ ?_ ⟨ρ',Pl.le_trans hle hle',?_,?_,hd'⟩
    ·have:=uw (m:=fun i=>listed.getD i false) (m':=fun j=>(listed.setIfInBounds i true).getD j false) (i:=i) (n:=ops.size) hiN hmi (by rw[hm',if_pos rfl]) (fun j hj=>by rw[hm',if_neg hj])
     omega
    ·intro j hj hjl e he
     rw[hm']at hjl ⊢
     by_cases q:e=i
     ·rw[if_pos q]
     ·rw[if_neg q]
      by_cases q2:j=i
      ·subst q2; exact hedges e he
      ·rw[if_neg q2]at hjl; exact hdown j hj hjl e he
    ·intro c hrc hcl x Hx hcs
     rw[hm']at hcl
     by_cases q:c=i
     ·subst q
      rw[hss,sJ,pJ]at hcs
      exact hnp hrc x hcs.1
     ·rw[if_neg q]at hcl
      exact hliv c hrc hcl x Hx hcs
    ·rw[hmf]
     cases hc:aA ao.op with
     | false=>
      rw[hc]at R'
      simp only[Oc,if_false]at R'
      have:ap (fun j=>if j=i then true else listed.getD j false) 0 l=ap (fun i=>listed.getD i false) 0 l:=
       fU l 0 fun c b hcb hcc=>by
        simp only[Nat.zero_add]
        rw[if_neg]
        intro e
        subst e
        rw[hao]at hcb
        simp only[sJ]at hcb
        subst hcb
        rw[hc]at hcc
        simp at hcc
      rw[this]
      exact R'
     | true=>
      rw[hc]at R'
      simp only[if_true]at R'
      have hpi:=hchain hc
      obtain⟨s1,s2,s3,s4⟩:=dz (fun j=>if j=i then true else listed.getD j false) l 0
      have hgt:i<ap (fun j=>if j=i then true else listed.getD j false) 0 l:=by
       rcases Nat.lt_or_ge i (ap (fun j=>if j=i then true else listed.getD j false) 0 l) with h | h
       ·exact h
       ·exfalso
        have hob:l[ap (fun j=>if j=i then true else listed.getD j false) 0 l-0]?=some (l[ap (fun j=>if j=i then true else listed.getD j false) 0 l]'om):=by simp
        obtain⟨q1,q2⟩:=s4 _ om hob
        by_cases e:ap (fun j=>if j=i then true else listed.getD j false) 0 l=i
        ·rw[if_pos e]at q2; simp at q2
        ·rw[if_neg e]at q2
         have hob2:l[ap (fun j=>if j=i then true else listed.getD j false) 0 l]?=some (l[ap (fun j=>if j=i then true else listed.getD j false) 0 l]'om):=N1 om
         have:=st3 _ _ hob2 q1 om
         simp only[Nat.zero_add]at this
         rw[q2]at this
         simp at this
      have hb:=cI htr (ap (fun j=>if j=i then true else listed.getD j false) 0 l-(i+1)) (i+1) om fun c b c1 c2 c3=>by
       cases hx:aA b.op with
       | false=>rfl
       | true=>
        exfalso
        have:=s3 c b c3 hx om
        simp only[Nat.zero_add]at this
        rw[if_neg om]at this
        have hpr:=hpair i c ao b om hao c3
        simp only[fC,Bool.or_eq_true,N4]at hpr
        rcases hpr with hpr | ⟨hpr,_⟩
        ·have h9:=hafter c b om c3 hpr
         rw[this]at h9
         simp at h9
        ·rw[hx,hc]at hpr
         simp at hpr
      rw[show i+1+(ap (fun j=>if j=i then true else listed.getD j false) 0 l-(i+1))=ap (fun j=>if j=i then true else listed.getD j false) 0 l by omega]at hb
      rw[hb]
      simp only[dU,hss]
      exact R'
    ·refine ht'.congr fun t=>?_
     rw[hmf,kq]
     by_cases e:ao.dst=some t
     ·rw[if_pos e]
      refine iQ l ss 0 i T0 ao v H1 hao hss e (by simp) fun c b hc hcb hdst=>?_
      simp only[Nat.zero_add]
      rw[if_neg om]
      have hpr:=hpair i c ao b hc hao hcb
      simp only[fC,Bool.or_eq_true,N4]at hpr
      rcases hpr with hpr | ⟨_,hpr⟩
      ·exact hafter c b hc hcb hpr
      ·exfalso
       simp only[vi,e,N4,Bool.not_eq_true',beq_eq_false_iff_ne]at hpr
       exact hpr.1.2 hdst
     ·rw[if_neg e]
      refine eU l ss 0 T0 T0 rfl fun c b hc hdst=>?_
      simp only[Nat.zero_add]
      rw[if_neg]
      intro q
      subst q
      rw[hao]at hc
      simp only[sJ]at hc
      subst hc
      exact e hdst
   have hval:aA ao.op=false->ga (ba (fun j=>Nat.blt j (0+i)) 0 l ss T0) ao.guard=true->∃H2,bG tb (ba (fun j=>Nat.blt j (0+i)) 0 l ss T0) (dU H0 ss (ap (fun i=>listed.getD i false) 0 l)) ao.op=some (.val v,H2):=by
    intro hc hgo
    unfold be at hstep
    rw[hgo]at hstep
    simp only[cond_true]at hstep
    cases hpu:iG ao.op with
    | true=>
     split at hstep
     ·rename_i u H2 hu
      simp only[sJ,pJ]at hstep
      obtain⟨rfl,rfl⟩:=hstep
      exact⟨_,(eG hpu hu).2.2 _⟩
     ·rename_i f args H2 hu
      obtain⟨_,⟨x,hx⟩,_⟩:=eG hpu hu
      simp at hx
     ·simp at hstep
    | false=>
     have hld:dc ao.op=true:=by
      unfold aA at hc
      cases h1:dc ao.op with
      | true=>rfl
      | false=>rw[hpu,h1]at hc; simp at hc
     cases hsm:oN l i (ap (fun i=>listed.getD i false) 0 l) with
     | true=>
      unfold oN at hsm
      rw[N4,List.all_eq_true]at hsm
      have hij:=N7 hsm.1
      have hb:=cI htr (ap (fun i=>listed.getD i false) 0 l-i) i om fun c b c1 c2 c3=>by
       have:=hsm.2 c (List.mem_range.2 om)
       rw[c3]at this
       simp only[Bool.or_eq_true,Bool.not_eq_true']at this
       rcases this with h | h
       ·have:=N7 h; omega
       ·exact h
      rw[show i+(ap (fun i=>listed.getD i false) 0 l-i)=ap (fun i=>listed.getD i false) 0 l by omega]at hb
      rw[hb]
      split at hstep
      ·rename_i u H2 hu
       simp only[sJ,pJ]at hstep
       obtain⟨rfl,rfl⟩:=hstep
       exact⟨_,hu⟩
      ·rename_i f args H2 hu
       obtain⟨_,x,hx⟩:=gO hld hu
       simp at hx
      ·simp at hstep
     | false=>
      have hmem:ap (fun i=>listed.getD i false) 0 l∈dV l ms i:=by
       unfold dV
       rw[hao]
       simp only[hld,cond_true]
       rw[List.mem_filter]
       refine⟨List.mem_range.2 om,?_⟩
       rw[hsm]
       simp only[Bool.not_false,Bool.true_and]
       unfold tC
       rw[N4]
       refine⟨?_,?_⟩
       ·unfold kZ
        rcases Nat.lt_or_ge (ap (fun i=>listed.getD i false) 0 l) l.length with h | h
        ·have hob:l[ap (fun i=>listed.getD i false) 0 l]?=some l[ap (fun i=>listed.getD i false) 0 l]:=N1 h
         rw[hob]
         exact (st4 _ om (by simp)).1
        ·rw[Oi h]
         have:ap (fun i=>listed.getD i false) 0 l=l.length:=om
         rw[this]
         exact Nat.beq_refl _
       ·rw[List.all_eq_true]
        intro c hcr
        have hcl:=List.mem_range.1 hcr
        rw[N1 hcl]
        simp only[Bool.or_eq_true,Bool.not_eq_true']
        cases hcc:aA l[c].op with
        | false=>exact .inl rfl
        | true=>
         right
         have hlc:l[c]?=some l[c]:=N1 hcl
         cases hb:Nat.blt c (ap (fun i=>listed.getD i false) 0 l) with
         | true=>
          simp only[cond_true,Bool.not_eq_true']
          have hlt:c<ap (fun i=>listed.getD i false) 0 l:=N7 hb
          have hcm:=st3 c _ hlc hcc om
          simp only[Nat.zero_add]at hcm
          cases hbit:iL ms c i with
          | false=>rfl
          | true=>
           exfalso
           rcases Nat.lt_trichotomy i c with h | h | h
           ·have:=hafter c _ h hlc hbit
            rw[hcm]at this; simp at this
           ·subst h; rw[hmi]at hcm; simp at hcm
           ·have:=jG hbit
            omega
         | false=>
          simp only[cond_false,Bool.not_eq_true']
          have hge:ap (fun i=>listed.getD i false) 0 l<=c:=by
           rcases Nat.lt_or_ge c (ap (fun i=>listed.getD i false) 0 l) with h | h
           ·have:Nat.blt c (ap (fun i=>listed.getD i false) 0 l)=true:=N3 h
            rw[hb]at this; simp at this
           ·exact h
          cases hbit:iL ms i c with
          | false=>rfl
          | true=>
           exfalso
           have hlc2:=hmask i hiN hedges c (jG hbit) hbit
           have hpl:ap (fun i=>listed.getD i false) 0 l<l.length:=om
           have hob2:l[ap (fun i=>listed.getD i false) 0 l]?=some (l[ap (fun i=>listed.getD i false) 0 l]'hpl):=N1 hpl
           obtain⟨q1,q2⟩:=st4 _ om (by rw[Nat.sub_zero]; exact hob2)
           rcases Nat.lt_trichotomy (ap (fun i=>listed.getD i false) 0 l) c with h | h | h
           ·have hpr:=hpair _ c _ _ h hob2 hlc
            simp only[fC,Bool.or_eq_true,N4]at hpr
            rcases hpr with hpr | ⟨hpr,_⟩
            ·have:=hmask c om (hdown c om hlc2) _ h hpr
             rw[q2]at this; simp at this
            ·rw[q1,hcc]at hpr; simp at hpr
           ·rw[h]at q2; rw[q2]at hlc2; simp at hlc2
           ·omega
      obtain⟨Hp,hHp,hrun⟩:=FN l _ ss T0 0 hck i _ (dV l ms i) v H1 hao (by simp[hN,hiN]) hss _ hmem
      obtain⟨H2,hH2⟩:=hrun hgo
      refine⟨H2,?_⟩
      have:Hp=dU H0 ss (ap (fun i=>listed.getD i false) 0 l):=by
       cases hstg:ap (fun i=>listed.getD i false) 0 l with
       | zero=>rw[hstg]at hHp; simpa[dU] using hHp.symm
       | succ q=>
        rw[hstg]at hHp
        simp only[Ob,List.getElem?_map]at hHp
        simp only[dU]
        cases hq:ss[q]? with
        | none=>rw[hq]at hHp; simp at hHp
        | some z=>rw[hq]at hHp; obtain⟨z1,z2⟩:=z; simpa using hHp.symm
      rw[<- this]
      exact hH2
   have hfew:∀d,kD Prot.dead l (fun j=>if j=i then true else listed.getD j false) d->kD Prot.dead l (fun i=>listed.getD i false) d:=by
    rintro d (hd | ⟨i',a',z',s',x1,x2,x3⟩)
    ·exact .inl hd
    ·refine .inr ⟨i',a',z',s',x1,x2,?_⟩
     simp only at x3
     by_cases e:i'=i
     ·rw[if_pos e]at x3; simp at x3
     ·rw[if_neg e]at x3; exact x3
   have hord:(¬rp i/\∃ax g,vq P o.op=some ax/\du n o.dst=true/\ao=⟨o.dst,ax,g⟩/\Region.wanted o (yielded ops a.tmps)=ga (ba (fun i=>listed.getD i false) 0 l ss T0) g)∨(¬rp i/\∃c,base<=c/\Dm P n ops o ao c)∨(RAW/\rp i/\BZ P n ops o ao):=by
    have hc0:∀a',dK P n ops o=some a'->∃ax g,vq P o.op=some ax/\du n o.dst=true/\a'=⟨o.dst,ax,g⟩/\gT n ops o.guard=some g:=by
     intro a' hco
     unfold dK at hco
     split at hco
     ·rename_i ax g hopc hgc
      cases hdst:du n o.dst with
      | false=>rw[hdst]at hco; simp at hco
      | true=>
       rw[hdst]at hco
       simp only[cond_true,sJ]at hco
       exact⟨ax,g,hopc,rfl,hco.symm,hgc⟩
     ·simp at hco
    rcases hco with⟨hnr,hco | hco | ⟨a',c,d,ac,hco,hgn,rfl,hbc,hrc,hlc,hcd,honly⟩⟩ | hco
    ·obtain⟨ax,g,q1,q2,q3,q4⟩:=hc0 _ hco
     exact .inl ⟨hnr,ax,g,q1,q2,q3,fh ht q4⟩
    ·exact .inr (.inl ⟨hnr,hco⟩)
    ·obtain⟨ax,g,q1,q2,rfl,q4⟩:=hc0 _ hco
     simp only at hgn
     subst hgn
     refine .inl ⟨hnr,ax,_,q1,q2,rfl,?_⟩
     have hcl:=hmask i hiN hedges c (jG hbc) hbc
     rw[fh ht q4,hgd]
     obtain⟨vc,Hc,hsc,_⟩:=hat c ac hlc
     have hget:(ba (fun j=>Nat.blt j (0+i)) 0 l ss T0).get d=some vc:=by
      have:=iQ (m:=fun j=>Nat.blt j (0+i)) l ss 0 c T0 ac vc Hc hlc hsc hcd (by simp only[Nat.zero_add]; exact N3 (jG hbc)) fun k b hk hkb hdst=>absurd (honly k b hkb hdst) om
      exact this
     obtain⟨k1,k2⟩:=Jv d
     simp only[ga,gV,k1,k2,cond_true,ev,hget]
     cases hp:fg vc with
     | false=>rfl
     | true=>
      obtain⟨x,rfl⟩:=mA hp
      exact absurd hsc (hliv c hrc hcl x Hc)
    ·exact .inr (.inr hco)
   rcases hord with⟨hnr,ax,g,hopc,hdst,rfl,hwant⟩ | ⟨hnr,cb,hcb,z,s,g,hoe,hgc,hdst,rfl⟩ | ⟨hraw,hrp,f,args,ats,lx,g,hoe,hlx,hgc,hdst,hbig,rfl⟩
   ·replace hnext:=hnext fun hr=>absurd hr hnr
    ·simp only at hgd hop hnext hchain hao
     unfold wpOp
     simp only[ho]
     rw[hwant,hgd]
     have hd':∀u,(a.put o.dst u).defers=ds:=fun u=>by cases hx:o.dst <;> simpa[Act.put] using hd
     unfold be at hstep
     simp only at hstep
     cases hgo:ga (ba (fun j=>Nat.blt j (0+i)) 0 l ss T0) g with
     | false=>
      rw[hgo]at hstep
      simp only[cond_false,sJ,pJ]at hstep
      obtain⟨rfl,rfl⟩:=hstep
      simp only[Oc,if_false]
      refine hnext ρ w _ (Pl.le_refl _) ?_ (bH ht hdst dM) (hd' _)
      split
      ·rename_i hc
       have h9:=R.fewer hfew
       rw[hchain hc]at h9
       exact h9
      ·exact R.fewer hfew
     | true=>
      rw[hgo]at hstep
      simp only[cond_true]at hstep
      simp only[if_true]
      left
      cases hc:aA ax with
      | true=>
       have hpi:=hchain hc
       rw[hpi]at R
       rw[<- hop]at hstep
       split at hstep
       ·rename_i u H2 hu
        simp only[sJ,pJ]at hstep
        obtain⟨rfl,rfl⟩:=hstep
        obtain⟨ρ1,w1,nx,q1,q2,q3,q4⟩:=iF htb R ht o hopc hu
        simp only[Oper.wp,q2]
        rw[hc]at hnext
        simp only[if_true]at hnext
        cases nx <;> simp only[jm]at q4
        case value u=>exact hnext ρ1 w1 _ q1 (q3.fewer hfew) (bH (ht.mono q1) hdst q4) (hd' _)
        case skip=>exact hnext ρ1 w1 _ q1 (q3.fewer hfew) (bH (ht.mono q1) hdst q4) (hd' _)
       ·rename_i f args H2 hu
        obtain⟨ρ1,w1,nx,q1,q2,q3,q4⟩:=iF htb R ht o hopc hu
        simp only[Oper.wp,q2]
        rw[hc]at hnext
        simp only[if_true]at hnext
        cases nx <;> simp only[jm]at q4
        case enter gf vs=>
         obtain⟨rfl,hbig,q5⟩:=q4
         simp only[Oper.upon]
         refine (hcall _ _ _ _ _ hbig hstep ⟨Prot.prot,kD Prot.dead l fun i=>listed.getD i false⟩ w0 ρ1 w1 vs q3 q5).mono fun e w' hr=>?_
         obtain⟨ρ2,u,r1,rfl,r3,r4⟩:=hr
         exact hnext ρ2 w' _ (Pl.le_trans q1 r1) (r3.fewer hfew) (bH ((ht.mono q1).mono r1) hdst r4) (hd' _)
       ·simp at hstep
      | false=>
       rw[hc]at hnext
       simp only[Oc,if_false]at hnext
       obtain⟨H2,hH2⟩:=hval hc hgo
       have hsame:H2=dU H0 ss (ap (fun i=>listed.getD i false) 0 l):=by
        have hk:iG ax=true∨dc ax=true:=by
         unfold aA at hc
         cases h1:iG ax <;> cases h2:dc ax <;> simp_all
        rcases hk with hk | hk
        ·exact (eG hk hH2).1
        ·exact (gO hk hH2).1
       subst hsame
       rw[<- hop]at hH2
       obtain⟨ρ1,w1,nx,q1,q2,q3,q4⟩:=iF htb R ht o hopc hH2
       simp only[Oper.wp,q2]
       cases nx <;> simp only[jm]at q4
       case value u=>exact hnext ρ1 w1 _ q1 (q3.fewer hfew) (bH (ht.mono q1) hdst q4) (hd' _)
       case skip=>exact hnext ρ1 w1 _ q1 (q3.fewer hfew) (bH (ht.mono q1) hdst q4) (hd' _)
   ·-- a new block,of a number that was laid kD
    replace hnext:=hnext fun hr=>absurd hr hnr
    simp only at hgd hop hnext hchain hao hval
    unfold wpOp
    simp only[ho]
    rw[fh ht hgc,hgd]
    have hd':∀u,(a.put o.dst u).defers=ds:=fun u=>by cases hx:o.dst <;> simpa[Act.put] using hd
    have hnc:aA (gZ.claim cb z s)=false:=rfl
    rw[hnc]at hnext
    simp only[Oc,if_false]at hnext
    cases hgo:ga (ba (fun j=>Nat.blt j (0+i)) 0 l ss T0) g with
    | false=>
     unfold be at hstep
     simp only at hstep
     rw[hgo]at hstep
     simp only[cond_false,sJ,pJ]at hstep
     obtain⟨rfl,rfl⟩:=hstep
     simp only[Oc,if_false]
     exact hnext ρ w _ (Pl.le_refl _) (R.fewer hfew) (bH ht hdst dM) (hd' _)
    | true=>
     simp only[if_true]
     left
     obtain⟨H2,hH2⟩:=hval hnc hgo
     simp only[bG]at hH2
     obtain⟨y,hy,hv,_⟩:=bi hH2
     simp only[Nx.val.injEq]at hv
     subst hv
     obtain⟨hget,rfl⟩:=zH hy
     obtain⟨ρ1,w1,u,q1,hrun,q3,q4⟩:=CW R ht hoe (.inr ⟨i,_,z,s,hao,rfl,hmi⟩) hget
     simp only[Oper.wp,hrun]
     refine hnext ρ1 w1 _ q1 (q3.fewer ?_) (bH (ht.mono q1) hdst q4) (hd' _)
     intro d hd0
     refine⟨hfew d hd0,?_⟩
     rintro rfl
     rcases hd0 with hd0 | ⟨i',a',z',s',x1,x2,x3⟩
     ·have:=hbase _ hd0; omega
     ·have:=hdis i' i a' _ _ z' z s' s x1 hao x2 rfl
      subst this
      simp at x3
   ·-- a call whose panic is Hw
    simp only at hgd hop hnext hchain hao hval
    unfold wpOp
    simp only[ho]
    rw[fh ht hgc,hgd]
    have hd':∀u,(a.put o.dst u).defers=ds:=fun u=>by cases hx:o.dst <;> simpa[Act.put] using hd
    have hnc:aA (gZ.call (bN+f) lx)=true:=rfl
    rw[hnc]at hnext
    simp only[if_true]at hnext
    have hpi:=hchain hnc
    rw[hpi]at R
    unfold be at hstep
    simp only at hstep
    cases hgo:ga (ba (fun j=>Nat.blt j (0+i)) 0 l ss T0) g with
    | false=>
     rw[hgo]at hstep
     simp only[cond_false,sJ,pJ]at hstep
     obtain⟨rfl,rfl⟩:=hstep
     simp only[Oc,if_false]
     exact hnext (fun _ x hx=>by simp[aN,j5]at hx) ρ w _ (Pl.le_refl _) (R.fewer hfew) (bH ht hdst dM) (hd' _)
    | true=>
     rw[hgo]at hstep
     simp only[cond_true]at hstep
     simp only[if_true]
     left
     rw[<- hop]at hstep
     simp only[bG]at hstep
     cases hb:tb (bN+f) with
     | false=>rw[hb]at hstep; simp at hstep
     | true=>
      rw[hb]at hstep
      simp only[cond_true]at hstep
      have hrun:(execOp a.eval o).run P w=.ok (.enter f (args.map a.eval)) w:=by
       have:=eR (P:=P) (w:=w) (htbP hraw f hbig hb) (args.map a.eval)
       obtain⟨dst,op,type,pos,after,guard⟩:=o
       simp only at hoe
       subst hoe
       simp[execOp,resolve,Act.eval,Deferred.ofValue,invoke,this]
      simp only[Oper.wp,hrun,Oper.upon]
      refine (hcallP hraw f _ _ _ _ hbig hstep ⟨Prot.prot,kD Prot.dead l fun i=>listed.getD i false⟩ w0 ρ w (args.map a.eval) R (by simpa using fJ ht hlx)).mono fun e w' hr=>?_
      obtain⟨ρ2,r1,r3,⟨u,rfl,r4⟩ | ⟨x,u,rfl,rfl,r4⟩⟩:=hr
      ·exact hnext (fun _ x hx=>yH r4 hx) ρ2 w' _ r1 (r3.fewer hfew) (bH (ht.mono r1) hdst r4) (hd' _)
      ·exact hQP hraw i a w' ρ2 x u hrp (Pl.le_trans hle r1) ⟨H1,hss,r3.fewer (D:=Prot.dead) fun d hd=>.inl hd⟩ r4 hd
end
end Go.Abs
namespace Go.Abs
theorem ru{P:Program}{c:Call}{b:Nat}{z:List aa}{s:Option (Nat×Nat)}(h:je P c=some (.claim b z s)):False:=by
 unfold je at h
 repeat' split at h
 all_goals first
  | (simp at h; done)
  | (simp only[cond_eq_ite]at h; split at h <;> simp at h)
theorem ry{P:Program}{o:Op}{b:Nat}{z:List aa}{s:Option (Nat×Nat)}(h:oz P o=some (.claim b z s)):False:=by
 unfold oz at h
 repeat' split at h
 all_goals first
  | (simp at h; done)
  | (simp only[cond_eq_ite]at h; split at h <;> first | (simp at h; done) | (split at h <;> simp at h))
theorem sC{P:Program}{o:Op}{b:Nat}{z:List aa}{s:Option (Nat×Nat)}(h:vq P o=some (.claim b z s)):False:=by
 unfold vq at h
 split at h
 ·rename_i a ha
  simp only[sJ]at h
  subst h
  exact ry ha
 ·split at h
  ·rename_i a ha
   simp only[sJ]at h
   subst h
   cases o <;> simp only[xm,reduceCtorEq]at ha
   case call c _=>exact ru ha
   all_goals
    exfalso
    repeat' split at ha
    all_goals first
     | (simp at ha; done)
     | (simp only[cond_eq_ite]at ha; split at ha <;> simp at ha)
  ·simp at h
def gD(l:List ah):Prop:=∀a∈l,∀(c:Nat) (z:List aa) (s:Option (Nat×Nat)),a.op≠.claim c z s
theorem ey{P:Program}{n:Nat}{ops:Array Oper}:∀{rest:List Oper} {l:List ah},cx P n ops rest=some l->gD l:=by
 intro rest
 induction rest with
 | nil=>intro l h; simp only[cx,sJ]at h; subst h; intro a ha; simp at ha
 | cons o r ih=>
  intro l h
  simp only[cx]at h
  split at h
  ·rename_i a l' ha hl'
   simp only[sJ]at h
   subst h
   intro x hx c z s hc
   rcases List.mem_cons.1 hx with rfl | hx
   ·unfold dK at ha
    split at ha
    ·rename_i ax g hopc hg
     cases hdst:du n o.dst with
     | false=>rw[hdst]at ha; simp at ha
     | true=>
      rw[hdst]at ha
      simp only[cond_true,sJ]at ha
      subst ha
      simp only at hc
      subst hc
      exact sC hopc
    ·simp at ha
   ·exact ih hl' x hx c z s hc
  ·simp at h
theorem kA(b:Nat)(o:ah)(r:List ah):(∃z s,aw b (o::r)=⟨o.dst,.claim b z s,o.guard⟩::aw (b+1) r/\∀H,bt H (o::r)=bt (H.push (.cells z 0 false)) r) ∨
  (aw b (o::r)=o::aw b r/\∀H,bt H (o::r)=bt H r):=by
 cases h:dH o.op with
 | some p=>obtain⟨z,s⟩:=p; exact .inl ⟨z,s,by simp only[aw,h],fun H=>by simp only[bt,h]⟩
 | none=>exact .inr ⟨by simp only[aw,h],fun H=>by simp only[bt,h]⟩
theorem lq:∀(l:List ah) (b:Nat),gD l->∀(i:Nat) (a:ah) (c:Nat) (z:List aa) (s:Option (Nat×Nat)),(aw b l)[i]?=some a->a.op=.claim c z s->b<=c
 | [],b,_,i,a,c,z,s,h,_=>by simp[aw]at h
 | o::r,b,hn,i,a,c,z,s,h,hc=>by
  have hr:gD r:=fun x hx=>hn x (List.mem_cons_of_mem _ hx)
  rcases kA b o r with⟨z',s',e,_⟩ | ⟨e,_⟩
  ·rw[e]at h
   cases i with
   | zero=>
    simp only[Oa,sJ]at h
    subst h
    simp only[gZ.claim.injEq]at hc
    omega
   | succ i=>
    simp only[Ob]at h
    have:=lq r (b+1) hr i a c z s h hc
    omega
  ·rw[e]at h
   cases i with
   | zero=>
    simp only[Oa,sJ]at h
    subst h
    exact absurd hc (hn o (List.mem_cons_self ..) c z s)
   | succ i=>
    simp only[Ob]at h
    exact lq r b hr i a c z s h hc
theorem jC:∀(l:List ah) (b:Nat),gD l->∀(i j:Nat) (a a':ah) (c:Nat) (z z':List aa) (s s':Option (Nat×Nat)),(aw b l)[i]?=some a->(aw b l)[j]?=some a'->a.op=.claim c z s->a'.op=.claim c z' s'->i=j
 | [],b,_,i,j,a,a',c,z,z',s,s',h,_,_,_=>by simp[aw]at h
 | o::r,b,hn,i,j,a,a',c,z,z',s,s',h,k,hc,kc=>by
  have hr:gD r:=fun x hx=>hn x (List.mem_cons_of_mem _ hx)
  rcases kA b o r with⟨y,s9,e,_⟩ | ⟨e,_⟩
  ·rw[e]at h k
   cases i with
   | zero=>
    cases j with
    | zero=>rfl
    | succ j=>
     simp only[Oa,sJ,Ob]at h k
     subst h
     simp only[gZ.claim.injEq]at hc
     have:=lq r (b+1) hr j a' c z' s' k kc
     omega
   | succ i=>
    cases j with
    | zero=>
     simp only[Oa,sJ,Ob]at h k
     subst k
     simp only[gZ.claim.injEq]at kc
     have:=lq r (b+1) hr i a c z s h hc
     omega
    | succ j=>
     simp only[Ob]at h k
     rw[jC r (b+1) hr i j a a' c z z' s s' h k hc kc]
  ·rw[e]at h k
   cases i with
   | zero=>
    simp only[Oa,sJ]at h
    subst h
    exact absurd hc (hn o (List.mem_cons_self ..) c z s)
   | succ i=>
    cases j with
    | zero=>
     simp only[Oa,sJ]at k
     subst k
     exact absurd kc (hn o (List.mem_cons_self ..) c z' s')
    | succ j=>
     simp only[Ob]at h k
     rw[jC r b hr i j a a' c z z' s s' h k hc kc]
section
variable {w0:World} {ρ:Pl} {w:World}
theorem gv{pr:Nat->Prop}:∀(l:List ah) (D:Nat->Prop) (H:ab),gD l->bv ⟨pr,D⟩ w0 ρ H w->bv ⟨pr,kD D (aw H.next l) fun _=>false⟩ w0 ρ (bt H l) w
 | [],D,H,_,R=>R.fewer (D:=kD D [] fun _=>false) fun d hd=>by
  rcases hd with hd | ⟨i,a,z,s,h,_⟩
  ·exact hd
  ·simp at h
 | o::r,D,H,hn,R=>by
  have hr:gD r:=fun x hx=>hn x (List.mem_cons_of_mem _ hx)
  rcases kA H.next o r with⟨y,s9,e,f⟩ | ⟨e,f⟩
  ·rw[e,f]
   have:=gv r _ _ hr (R.reserve (.cells y 0 false) rfl)
   refine bv.fewer this fun d hd=>?_
   rcases hd with hd | ⟨i,a,z,s,h,k,_⟩
   ·exact .inl (.inl hd)
   ·cases i with
    | zero=>
     simp only[Oa,sJ]at h
     subst h
     simp only[gZ.claim.injEq]at k
     exact .inl (.inr k.1.symm)
    | succ i=>
     simp only[Ob]at h
     exact .inr ⟨i,a,z,s,h,k,rfl⟩
  ·rw[e,f]
   have:=gv r _ _ hr R
   refine bv.fewer this fun d hd=>?_
   rcases hd with hd | ⟨i,a,z,s,h,k,_⟩
   ·exact .inl hd
   ·cases i with
    | zero=>
     simp only[Oa,sJ]at h
     subst h
     exact absurd k (hn o (List.mem_cons_self ..) d z s)
    | succ i=>
     simp only[Ob]at h
     exact .inr ⟨i,a,z,s,h,k,rfl⟩
end
end Go.Abs
namespace Go.Abs
def pu:List aa->List Nat
 | []=>[]
 | x::r=>match ge x with
  | some b=>b::pu r
  | none=>pu r
def nC:gZ->Bool
 | .store ..=>true
 | .hf (.fill ..) _=>true
 | _=>false
def qJ:gZ->Bool
 | .store ..=>true
 | .append ..=>true
 | .hf (.fill ..) _=>true
 | _=>false
def eV(T:Tr aa)(o:gZ)(v:aa):List Nat:=match o with
 | .store _ a _=>pu [ev T a]
 | .append _ _ s x=>pu [ev T s,ev T x,v]
 | .hf (.fill ..) _=>pu [v]
 | .load _ _ x=>pu [ev T x]
 | _=>[]
theorem jf{x:aa}{l:List aa}{b:Nat}(h:x∈l)(hb:ge x=some b):b∈pu l:=by
 induction l with
 | nil=>simp at h
 | cons y r ih=>
  simp only[pu]
  rcases List.mem_cons.1 h with rfl | h
  ·rw[hb]; exact List.mem_cons_self
  ·split
   ·exact List.mem_cons_of_mem _ (ih h)
   ·exact ih h
theorem nz{l:List aa}{b:Nat}(h:b∈pu l):∃x∈l,ge x=some b:=by
 induction l with
 | nil=>simp[pu]at h
 | cons y r ih=>
  simp only[pu]at h
  split at h
  ·rename_i c hc
   rcases List.mem_cons.1 h with rfl | h
   ·exact⟨y,List.mem_cons_self,hc⟩
   ·obtain⟨x,h1,h2⟩:=ih h; exact⟨x,List.mem_cons_of_mem _ h1,h2⟩
  ·obtain⟨x,h1,h2⟩:=ih h; exact⟨x,List.mem_cons_of_mem _ h1,h2⟩
structure Fr(S:Nat->Prop)(H H1 H2 H3:ab):Prop where
 next:H3.next=H1.next
 same:∀x,S x->H3.get x=H1.get x
 rest:∀x,¬S x->H3.get x=H2.get x
structure z8(S:Nat->Prop)(H H1:ab):Prop where
 rest:∀x,¬S x->H1.get x=H.get x
theorem z8.refl(S:Nat->Prop)(H:ab):z8 S H H:=⟨fun _ _=>rfl⟩
section
variable {S:Nat->Prop} {H H1 H2:ab}
theorem qw{a:Ad}{n:Nat}(e:H2.get a.b=H.get a.b):aY H2 a n=aY H a n:=by
 unfold aY; rw[e]
def Md(a:Ad)(xs:List aa):Option dt->Option dt
 | some (.cells l low false)=>bif Nat.ble low a.lim&&(Nat.beq a.lim l.length&&(Nat.ble (a.o+xs.length) a.lim&&xs.all aa.one)) then
   some (.cells (l.take a.o++(xs++l.drop (a.o+xs.length))) a.lim false) else none
 | _=>none
def Ft(a:Ad)(p:Nat)(xs:List aa):Option dt->Option dt
 | some (.cells l low false)=>bif Nat.ble low a.lim&&(Nat.beq a.lim l.length&&(Nat.ble p a.lim&&(Nat.ble a.o p&&(Nat.ble (a.lim+1) (p+xs.length)&&xs.all aa.one)))) then
   some (.cells (l.take p++xs) (bif Nat.beq p a.lim then low else p+xs.length) false) else none
 | _=>none
theorem oI(H:ab)(a:Ad)(xs:List aa):dy H a xs=(Md a xs (H.get a.b)).map fun o=>H.set a.b o:=by
 unfold dy Md
 cases H.get a.b with
 | none=>rfl
 | some o=>
  cases o with
  | cells l low ro=>
   cases ro with
   | true=>rfl
   | false=>
    try simp only
    cases (Nat.ble low a.lim&&(Nat.beq a.lim l.length&&(Nat.ble (a.o+xs.length) a.lim&&xs.all aa.one))) <;> rfl
  | _=>rfl
theorem A0(H:ab)(a:Ad)(p:Nat)(xs:List aa):cT H a p xs=(Ft a p xs (H.get a.b)).map fun o=>H.set a.b o:=by
 unfold cT Ft
 cases H.get a.b with
 | none=>rfl
 | some o=>
  cases o with
  | cells l low ro=>
   cases ro with
   | true=>rfl
   | false=>
    try simp only
    cases (Nat.ble low a.lim&&(Nat.beq a.lim l.length&&(Nat.ble p a.lim&&(Nat.ble a.o p&&(Nat.ble (a.lim+1) (p+xs.length)&&xs.all aa.one))))) <;> rfl
  | _=>rfl
def vz(S:Nat->Prop)(H:ab)(f:ab->Option (aa×ab))(v:aa)(H1:ab):Prop:=
 (∀H2,H2.next=H.next->(∀x,S x->H2.get x=H.get x)->∃H3,f H2=some (v,H3)/\Fr S H H1 H2 H3)/\z8 S H H1
theorem qP{b:Nat}{o:dt}(hS:S b)(hn:H2.next=H.next)(hs:∀x,S x->H2.get x=H.get x):Fr S H (H.set b o) H2 (H2.set b o):=
 ⟨hn,fun x hx=>by rw[ab.get_set,ab.get_set,hs x hx],fun x hx=>by rw[ab.get_set,if_neg]; rintro rfl; exact hx hS⟩
theorem kj{b:Nat}{o:dt}(hS:S b):z8 S H (H.set b o):=⟨fun x hx=>by rw[ab.get_set,if_neg]; rintro rfl; exact hx hS⟩
theorem Bc{o:dt}(hn:H2.next=H.next)(hs:∀x,S x->H2.get x=H.get x)(hS:S H.next):Fr S H (H.push o) H2 (H2.push o):=
 ⟨by show H2.next+1=H.next+1; omega,fun x hx=>by rw[ab.get_push,ab.get_push,hn,hs x hx],fun x hx=>by rw[ab.get_push,if_neg]; rw[hn]; rintro rfl; exact hx hS⟩
theorem tF{o:dt}(hS:S H.next):z8 S H (H.push o):=⟨fun x hx=>by rw[ab.get_push,if_neg]; rintro rfl; exact hx hS⟩
theorem LQ(hn:H2.next=H.next)(hs:∀x,S x->H2.get x=H.get x):Fr S H H H2 H2:=⟨hn,hs,fun _ _=>rfl⟩
theorem vW{α β:Type}{o:Option α}{f:α->β}{y:β}(h:o.map f=some y):∃x,o=some x/\f x=y:=by
 cases o with
 | none=>simp at h
 | some x=>exact⟨x,rfl,by simpa using h⟩
theorem vT{n:Nat}{a x:aa}(hS:∀b,ge a=some b->S b)(h:bx n H a x=some H1) :
  vz S H (fun H=>match bx n H a x with | some H'=>some (aN,H') | none=>none) aN H1/\H1.next=H.next:=by
 unfold bx at h
 split at h <;> first | (simp at h; done) | skip
 rename_i a
 cases hb:Nat.beq x.cells.length n with
 | false=>rw[hb]at h; simp at h
 | true=>
  rw[hb,cond_true,oI]at h
  obtain⟨o,ho,rfl⟩:=vW h
  have hs':S a.b:=hS _ rfl
  refine⟨⟨fun H2 hn hs=>⟨H2.set a.b o,?_,qP hs' hn hs⟩,kj hs'⟩,rfl⟩
  simp only[bx,hb,cond_true,oI,hs _ hs',ho,Option.map_some]
theorem Cd{n:Nat}{x:aa}(hS:∀b,ge x=some b->S b)(hs:∀x,S x->H2.get x=H.get x):iN n H2 x=iN n H x:=by
 unfold iN
 split <;> first | rfl | skip
 rename_i a m r
 rw[qw (hs _ (hS _ rfl))]
theorem vy{sz by_:Nat}{s x v:aa}(h1:∀b,ge s=some b->S b)(h2:∀b,ge x=some b->S b)(h3:∀b,ge v=some b->S b)(h:bI sz by_ H s x=some (v,H1)) :
  vz S H (fun H=>bI sz by_ H s x) v H1:=by
 have key:∀H2:ab,H2.next=H.next->(∀x,S x->H2.get x=H.get x)->(∃H3,bI sz by_ H2 s x=some (v,H3)/\Fr S H H1 H2 H3)/\z8 S H H1:=by
  intro H2 hn hs
  have hsrc:=Cd (n:=sz) h2 hs
  unfold bI at h ⊢
  rw[hsrc]
  split at h
  ·simp at h
  ·rename_i n xs hx
   try simp only
   cases hz:Nat.beq n 0 with
   | true=>
    rw[hz,cond_true]at h
    simp only[cond_true]
    split at h
    ·simp only[sJ,pJ]at h
     obtain⟨rfl,rfl⟩:=h
     exact⟨⟨_,rfl,LQ hn hs⟩,z8.refl _ _⟩
    ·simp at h
   | false=>
    rw[hz,cond_false]at h
    simp only[cond_false]
    split at h <;> first | (simp at h; done) | skip
    rename_i so len room
    try simp only
    cases hc:(Nat.blt 0 sz&&(Nat.ble ((2*(len+n)+0)*by_) 281474976710656&&(Nat.ble (len+n) 9223372036854775807&&(Nat.beq xs.length (n*sz)&&xs.all aa.one)))) with
    | false=>rw[hc]at h; simp at h
    | true=>
     rw[hc,cond_true]at h
     simp only[cond_true]
     split at h
     ·simp only[sJ,pJ]at h
      obtain⟨rfl,rfl⟩:=h
      have hb:S H.next:=h3 _ rfl
      refine⟨⟨_,?_,Bc hn hs hb⟩,tF hb⟩
      simp only[hn]
     ·rename_i a c
      have ha:S a.b:=h1 _ rfl
      try simp only
      cases hk:Nat.ble (len+n) c with
      | true=>
       rw[hk,cond_true,oI]at h
       simp only[cond_true,oI,hs _ ha]
       cases ho:Md ⟨a.b,a.lim,a.o+len*sz⟩ xs (H.get a.b) with
       | none=>rw[ho]at h; simp at h
       | some o=>
        rw[ho]at h
        simp only[Option.map_some,sJ,pJ]at h
        obtain⟨rfl,rfl⟩:=h
        exact⟨⟨_,by simp only[Option.map_some],qP ha hn hs⟩,kj ha⟩
      | false=>
       rw[hk,cond_false]at h
       simp only[cond_false,qw (hs _ ha)]
       split at h
       ·rename_i old ho
        simp only[sJ,pJ]at h
        obtain⟨rfl,rfl⟩:=h
        have hb:S H.next:=h3 _ rfl
        refine⟨⟨_,?_,Bc hn hs hb⟩,tF hb⟩
        simp only[hn]
       ·simp at h
     ·rename_i a z
      have ha:S a.b:=h1 _ rfl
      try simp only
      cases hk:Nat.beq z sz with
      | false=>rw[hk]at h; simp at h
      | true=>
       rw[hk,cond_true]at h
       simp only[cond_true]
       cases hk2:Nat.ble (a.o+(len+n)*sz) a.lim with
       | true=>
        rw[hk2,cond_true,oI]at h
        simp only[cond_true,oI,hs _ ha]
        cases ho:Md ⟨a.b,a.lim,a.o+len*sz⟩ xs (H.get a.b) with
        | none=>rw[ho]at h; simp at h
        | some o=>
         rw[ho]at h
         simp only[Option.map_some,sJ,pJ]at h
         obtain⟨rfl,rfl⟩:=h
         exact⟨⟨_,by simp only[Option.map_some],qP ha hn hs⟩,kj ha⟩
       | false=>
        rw[hk2,cond_false,A0]at h
        simp only[cond_false,A0,hs _ ha]
        cases ho:Ft a (a.o+len*sz) xs (H.get a.b) with
        | none=>rw[ho]at h; simp at h
        | some o=>
         rw[ho]at h
         simp only[Option.map_some,sJ,pJ]at h
         obtain⟨rfl,rfl⟩:=h
         exact⟨⟨_,by simp only[Option.map_some],qP ha hn hs⟩,kj ha⟩
 exact⟨fun H2 hn hs=>(key H2 hn hs).1,(key H rfl fun _ _=>rfl).2⟩
theorem y9{b len:Nat}{z:List aa}{ofs:List (Nat×Nat)}{l:List aa}{v:aa}(h3:∀c,ge v=some c->S c)(h:go b len z ofs H l=some (v,H1)) :
  vz S H (fun H=>go b len z ofs H l) v H1/\H1.next=H.next/\ge v=some b:=by
 unfold go at h
 split at h <;> first | (simp at h; done) | skip
 rename_i c hg
 split at h <;> first | (simp at h; done) | skip
 rename_i xs hx
 simp only[sJ,pJ]at h
 obtain⟨rfl,rfl⟩:=h
 have hb:S b:=h3 _ rfl
 refine⟨⟨fun H2 hn hs=>⟨H2.set b (.cells xs 0 false),?_,qP hb hn hs⟩,kj hb⟩,rfl,rfl⟩
 simp only[go,hs _ hb,hg,hx]
theorem yT{agg:Bool}{n:Nat}{x:aa}(hS:∀b,ge x=some b->H2.get b=H.get b):am agg n H2 x=am agg n H x:=by
 unfold am
 split <;> first | rfl | skip
 rename_i a
 rw[qw (hS _ rfl)]
end
section
variable {tb:FuncId->Bool} {call:FuncId->List aa->ab->Option (aa×ab)} {T:Tr aa} {H H1:ab}
theorem nZ{o:ah}{v:aa}(hg:o.guard=none)(ht:qJ o.op=true)(h:be tb call o T H=some (v,H1)) :
  vz (fun x=>x∈eV T o.op v) H (fun H=>be tb call o T H) v H1/\(nC o.op=true->H1.next=H.next/\∃b,eV T o.op v=[b]):=by
 obtain⟨d,op,g⟩:=o
 simp only at hg
 subst hg
 unfold be at h ⊢
 simp only[ga,cond_true]at h ⊢
 cases op <;> simp only[qJ,Oc]at ht
 case store n a x=>
  simp only[bG]at h ⊢
  cases hs:bx n H (ev T a) (ev T x) with
  | none=>rw[hs]at h; simp at h
  | some H'=>
   rw[hs]at h
   simp only[sJ,pJ]at h
   obtain⟨rfl,rfl⟩:=h
   obtain⟨q,qn⟩:=vT (S:=fun y=>y∈eV T (.store n a x) aN) (fun b hb=>jf (List.mem_singleton.2 rfl) hb) hs
   refine⟨⟨fun H2 hn hs=>?_,q.2⟩,fun _=>⟨qn,?_⟩⟩
   ·obtain⟨H3,e,f⟩:=q.1 H2 hn hs
    refine⟨H3,?_,f⟩
    simp only at e ⊢
    cases h4:bx n H2 (ev T a) (ev T x) with
    | none=>rw[h4]at e; simp at e
    | some H4=>
     rw[h4]at e
     simp only[sJ,pJ,true_and]at e
     subst e
     rfl
   ·unfold bx at hs
    split at hs <;> first | (simp at hs; done) | skip
    rename_i a' ha'
    exact⟨a'.b,by simp only[eV,ha']; rfl⟩
 case append n b s x=>
  simp only[bG,vh]at h ⊢
  cases hs:bI n b H (ev T s) (ev T x) with
  | none=>rw[hs]at h; simp at h
  | some p=>
   obtain⟨u,H'⟩:=p
   rw[hs]at h
   simp only[sJ,pJ]at h
   obtain⟨rfl,rfl⟩:=h
   have q:=vy (S:=fun y=>y∈eV T (.append n b s x) u) (fun b hb=>jf (by simp) hb) (fun b hb=>jf (x:=ev T x) (by simp) hb) (fun b hb=>jf (by simp) hb) hs
   refine⟨⟨fun H2 hn hs=>?_,q.2⟩,fun hm=>by simp[nC]at hm⟩
   obtain⟨H3,e,f⟩:=q.1 H2 hn hs
   exact⟨H3,by simp only[e],f⟩
 case hf f l=>
  cases f <;> simp only[Oc]at ht
  rename_i b len z ofs
  simp only[bG,vh,BW]at h ⊢
  cases hs:go b len z ofs H (fo T l) with
  | none=>rw[hs]at h; simp at h
  | some p=>
   obtain⟨u,H'⟩:=p
   rw[hs]at h
   simp only[sJ,pJ]at h
   obtain⟨rfl,rfl⟩:=h
   obtain⟨q,qn,qb⟩:=y9 (S:=fun y=>y∈eV T (.hf (.fill b len z ofs) l) u) (fun b hb=>jf (by simp) hb) hs
   refine⟨⟨fun H2 hn hs=>?_,q.2⟩,fun _=>⟨qn,b,by simp only[eV,pu,qb]⟩⟩
   obtain⟨H3,e,f⟩:=q.1 H2 hn hs
   exact⟨H3,by simp only[e],f⟩
theorem Cx{o:ah}{v:aa}(hg:o.guard=none)(ht:nC o.op=true)(h:be tb call o T H=some (v,H1)){H2:ab}(hs:∀x∈eV T o.op v,H2.get x=H.get x) :
  ∃H3,be tb call o T H2=some (v,H3)/\H3.next=H2.next/\(∀x∈eV T o.op v,H3.get x=H1.get x)/\∀x,x∉eV T o.op v->H3.get x=H2.get x:=by
 obtain⟨d,op,g⟩:=o
 simp only at hg
 subst hg
 unfold be at h ⊢
 simp only[ga,cond_true]at h ⊢
 cases op <;> simp only[nC,Oc]at ht
 case store n a x=>
  simp only[bG]at h ⊢
  cases hst:bx n H (ev T a) (ev T x) with
  | none=>rw[hst]at h; simp at h
  | some H'=>
   rw[hst]at h
   simp only[sJ,pJ]at h
   obtain⟨rfl,rfl⟩:=h
   unfold bx at hst
   split at hst <;> first | (simp at hst; done) | skip
   rename_i a' ha'
   have e0:eV T (.store n a x) aN=[a'.b]:=by simp only[eV,ha']; rfl
   rw[e0]at hs ⊢
   have hb':=hs a'.b (List.mem_singleton.2 rfl)
   cases hb:Nat.beq (ev T x).cells.length n with
   | false=>rw[hb]at hst; simp at hst
   | true=>
    rw[hb,cond_true,oI]at hst
    obtain⟨o,ho,rfl⟩:=vW hst
    refine⟨H2.set a'.b o,?_,rfl,fun y hy=>?_,fun y hy=>?_⟩
    ·simp only[ha',bx,hb,cond_true,oI,hb',ho,Option.map_some]
    ·obtain rfl:=List.mem_singleton.1 hy
     rw[ab.get_set,ab.get_set,if_pos rfl,if_pos rfl]
    ·rw[ab.get_set,if_neg]
     rintro rfl
     exact hy (List.mem_singleton.2 rfl)
 case hf f l=>
  cases f <;> simp only[Oc]at ht
  rename_i b len z ofs
  simp only[bG,vh,BW]at h ⊢
  cases hst:go b len z ofs H (fo T l) with
  | none=>rw[hst]at h; simp at h
  | some p=>
   obtain⟨u,H'⟩:=p
   rw[hst]at h
   simp only[sJ,pJ]at h
   obtain⟨rfl,rfl⟩:=h
   unfold go at hst
   split at hst <;> first | (simp at hst; done) | skip
   rename_i c hgb
   split at hst <;> first | (simp at hst; done) | skip
   rename_i xs hx
   simp only[sJ,pJ]at hst
   obtain⟨rfl,rfl⟩:=hst
   have e0:eV T (.hf (.fill b len z ofs) l) (.slice (some ⟨b,xs.length,0⟩) len (.known len))=[b]:=rfl
   rw[e0]at hs ⊢
   have hb':=hs b (List.mem_singleton.2 rfl)
   refine⟨H2.set b (.cells xs 0 false),?_,rfl,fun y hy=>?_,fun y hy=>?_⟩
   ·simp only[go,hb',hgb,hx]
   ·obtain rfl:=List.mem_singleton.1 hy
    rw[ab.get_set,ab.get_set,if_pos rfl,if_pos rfl]
   ·rw[ab.get_set,if_neg]
    rintro rfl
    exact hy (List.mem_singleton.2 rfl)
theorem DI{o:ah}{v:aa}(hg:o.guard=none)(ht:qJ o.op=true)(h:be tb call o T H=some (v,H1)){x:Nat}(hx:x∉eV T o.op v):H1.get x=H.get x:=
 (nZ hg ht h).1.2.rest x hx
theorem uQ{o:gZ}(h:nC o=true):qJ o=true:=by
 cases o <;> simp only[nC,Oc]at h <;> first | rfl | skip
 rename_i f l
 cases f <;> simp only[Oc]at h <;> rfl
end
theorem bv.ext_heap{Prot:Gh}{w0:World}{ρ:Pl}{H H':ab}{w:World}(R:bv Prot w0 ρ H w)(hn:H'.next=H.next)(h:∀x,H'.get x=H.get x):bv Prot w0 ρ H' w:=
 ⟨R.os,R.tape,R.output,R.size,R.prot,fun b l L q=>by rw[hn]; exact R.dom b l L q,fun b l L q=>by rw[h]; exact R.obj b l L q,
  fun b l L x q hx=>R.free b l L x q (by rw[<- h]; exact hx),fun b l L b' l' L' x q q' e hx=>R.inj b l L b' l' L' x q q' e (by rw[<- h]; exact hx),
  fun b q=>by rw[hn]; exact R.dead b q,fun b l low hx=>R.glob b l low (by rw[<- h]; exact hx)⟩
end Go.Abs
namespace Go.Abs
def kV(ms:List Nat)(i j:Nat)(a b:ah):Bool:=iL ms j i||(vi a b&&(!(aA a.op&&aA b.op)||(nC b.op&&(qJ a.op&&(a.guard.isNone&&b.guard.isNone)))))
def gM(l:List ah)(ms:List Nat):Bool:=
 (List.range l.length).all fun j=>match l[j]? with
  | some b=>(List.range j).all fun i=>match l[i]? with
   | some a=>kV ms i j a b
   | none=>true
  | none=>true
def er(l:List ah)(ms:List Nat)(i j:Nat):Bool:=match l[i]?,l[j]? with
 | some a,some b=>Nat.blt i j&&(aA a.op&&(aA b.op&&!iL ms j i))
 | _,_=>false
def nr(l:List ah)(ms:List Nat):Bool:=
 (List.range l.length).all fun j=>(List.range j).all fun i=>!er l ms i j||(List.range l.length).all fun k=>match l[k]? with
  | some o=>!dc o.op||(!iL ms k j||iL ms k i)
  | none=>true
def bQ(l:List ah)(ss:List (aa×ab))(T0:Tr aa)(q:Nat):List Nat:=match l[q]?,ss[q]? with
 | some o,some (v,_)=>eV (ba (fun i=>Nat.blt i (0+q)) 0 l ss T0) o.op v
 | _,_=>[]
section
variable {tb:FuncId->Bool} {call:FuncId->List aa->ab->Option (aa×ab)}
theorem oj{l:List ah}{ms:List Nat}{i j:Nat}{a b:ah}(hi:l[i]?=some a)(hj:l[j]?=some b)(h:i<j)(ha:aA a.op=true)(hb:aA b.op=true)(hn:iL ms j i=false):er l ms i j=true:=by
 unfold er
 rw[hi,hj]
 have:Nat.blt i j=true:=N3 h
 simp only[ha,hb,hn,this,Bool.not_false,Bool.and_self]
def dx(l:List ah)(m:Nat->Bool)(q:Nat):Prop:=m q=true/\∃o,l[q]?=some o/\aA o.op=true
structure sF(l:List ah)(ss:List (aa×ab))(T0:Tr aa)(H0:ab)(m:Nat->Bool)(p:Nat)(Hx:ab):Prop where
 next:Hx.next=(dU H0 ss p).next
 base:∀x,(∀q,p<=q->dx l m q->x∉bQ l ss T0 q)->Hx.get x=(dU H0 ss p).get x
 late:∀q x,p<=q->dx l m q->x∈bQ l ss T0 q->(∀q',q<q'->dx l m q'->x∉bQ l ss T0 q')->Hx.get x=(dU H0 ss (q+1)).get x
theorem qT{P:Nat->Prop}{n q:Nat}(hq:P q)(hn:∀q,P q->q<n):∃q,P q/\∀q',q<q'->¬P q':=by
 induction hk:n-q using Nat.strongRecOn generalizing q with
 | _ k ih=>
  rcases Classical.em (∃q',q<q'/\P q') with⟨q',h1,h2⟩ | h
  ·have:=hn q' h2
   exact ih (n-q') om h2 rfl
  ·exact⟨q,hq,fun q' h1 h2=>h ⟨q',h1,h2⟩⟩
theorem vV{H0:ab}{ss:List (aa×ab)}{x:Nat}:∀(d a:Nat),(∀c,a<=c->c<a+d->(dU H0 ss (c+1)).get x=(dU H0 ss c).get x)->(dU H0 ss (a+d)).get x=(dU H0 ss a).get x:=by
 intro d
 induction d with
 | zero=>intro a _; rfl
 | succ d ih=>
  intro a h
  rw[show a+(d+1)=a+d+1 by omega,h (a+d) om om]
  exact ih a fun c h1 h2=>h c h1 om
theorem Cf{H0:ab}{ss:List (aa×ab)}:∀(d a:Nat),(∀c,a<=c->c<a+d->(dU H0 ss (c+1)).next=(dU H0 ss c).next)->(dU H0 ss (a+d)).next=(dU H0 ss a).next:=by
 intro d
 induction d with
 | zero=>intro a _; rfl
 | succ d ih=>
  intro a h
  rw[show a+(d+1)=a+d+1 by omega,h (a+d) om om]
  exact ih a fun c h1 h2=>h c h1 om
variable {l:List ah} {ms:List Nat} {T0:Tr aa} {H0:ab} {ss:List (aa×ab)}
theorem uX(htr:cm tb call l T0 H0=some ss){c:Nat}{o:ah}(hc:l[c]?=some o)(hg:o.guard=none)(ht:qJ o.op=true){x:Nat}(hx:x∉bQ l ss T0 c):(dU H0 ss (c+1)).get x=(dU H0 ss c).get x:=by
 obtain⟨_,hat⟩:=fT l T0 H0 ss 0 htr
 obtain⟨v,H1,hs,hst⟩:=hat c o hc
 simp only[bQ,hc,hs]at hx
 have:=DI hg ht hst hx
 simpa only [dU,hs] using this
theorem Kl(htr:cm tb call l T0 H0=some ss){c:Nat}{o:ah}(hc:l[c]?=some o)(hg:o.guard=none)(ht:nC o.op=true):(dU H0 ss (c+1)).next=(dU H0 ss c).next:=by
 obtain⟨_,hat⟩:=fT l T0 H0 ss 0 htr
 obtain⟨v,H1,hs,hst⟩:=hat c o hc
 have:=((nZ hg (uQ ht) hst).2 ht).1
 simpa only [dU,hs] using this
theorem uH(htr:cm tb call l T0 H0=some ss){c:Nat}{o:ah}(hc:l[c]?=some o)(hn:aA o.op=false):dU H0 ss (c+1)=dU H0 ss c:=
 cI htr 1 c (by have:=(N2.1 hc).1; omega) fun c' o' h1 h2 h3=>by
  obtain rfl:c'=c:=om
  rw[hc]at h3; simp only[sJ]at h3; subst h3; exact hn
theorem eH(hp:gM l ms=true){i j:Nat}(h:er l ms i j=true):∃a b,l[i]?=some a/\l[j]?=some b/\i<j/\nC b.op=true/\qJ a.op=true/\a.guard=none/\b.guard=none:=by
 unfold er at h
 split at h
 ·rename_i a b hi hj
  simp only[N4,Bool.not_eq_true']at h
  obtain⟨h1,h2,h3,h4⟩:=h
  have hij:i<j:=N7 h1
  unfold gM at hp
  rw[List.all_eq_true]at hp
  have q:=hp j (List.mem_range.2 (N2.1 hj).1)
  rw[hj]at q
  simp only at q
  rw[List.all_eq_true]at q
  have q2:=q i (List.mem_range.2 hij)
  rw[hi]at q2
  simp only[kV,h4,h2,h3,Bool.false_or,Bool.and_self,Bool.not_true,N4,Option.isNone_iff_eq_none]at q2
  exact⟨a,b,hi,hj,hij,q2.2.1,q2.2.2.1,q2.2.2.2.1,q2.2.2.2.2⟩
 ·simp at h
def Lg(l:List ah)(ms:List Nat)(m:Nat->Bool):Prop:=∀j,j<l.length->m j=true->∀i,i<j->iL ms j i=true->m i=true
section
variable {m:Nat->Bool} (hd:Lg l ms m)
include hd
theorem dw{c q:Nat}{o:ah}(hc:l[c]?=some o)(hcc:aA o.op=true)(hcm:m c=false)(hcq:c<q)(he:dx l m q):er l ms c q=true:=by
 obtain⟨h1,b,h2,h3⟩:=he
 refine oj hc h2 hcq hcc h3 ?_
 cases hb:iL ms q c with
 | false=>rfl
 | true=>
  have:=hd q (N2.1 h2).1 h1 c hcq hb
  rw[hcm]at this; simp at this
end
def dr(m:Nat->Bool)(i:Nat):Nat->Bool:=fun j=>if j=i then true else m j
theorem fF{m:Nat->Bool}{i q:Nat}:dx l (dr m i) q↔(dx l m q∨(q=i/\∃o,l[q]?=some o/\aA o.op=true)):=by
 unfold dx dr
 constructor
 ·rintro ⟨h1,h2⟩
  by_cases e:q=i
  ·exact .inr ⟨e,h2⟩
  ·rw[if_neg e]at h1; exact .inl ⟨h1,h2⟩
 ·rintro (⟨h1,h2⟩ | ⟨e,h2⟩)
  ·exact⟨by split <;> simp_all,h2⟩
  ·exact⟨by rw[if_pos e],h2⟩
section
variable (htr:cm tb call l T0 H0=some ss) (hp:gM l ms=true) (hap:∀i j,er l ms i j=true->∀x∈bQ l ss T0 j,x∉bQ l ss T0 i)
 {m:Nat->Bool} (hd:Lg l ms m) {p:Nat}
include htr hp hap hd
set_option linter.unusedSectionVars false in
theorem wU{q:Nat}(h:dx l m q):q<l.length:=by
 obtain⟨_,o,h,_⟩:=h; exact (N2.1 h).1
theorem Io{op:ah}(hlp:l[p]?=some op)(hcp:aA op.op=true)(hmp:m p=false){i:Nat}{o:ah}(hi:l[i]?=some o)(hc:aA o.op=true)(hmi:m i=false)
  (hready:∀c,c<i->iL ms i c=true->m c=true) (hpi:p<i) {Hx:ab} (R:sF l ss T0 H0 m p Hx) {v:aa} {H1:ab} (hs:ss[i]?=some (v,H1))
  (hst:be tb call o (ba (fun j=>Nat.blt j (0+i)) 0 l ss T0) (dU H0 ss i)=some (v,H1)) :
  ∃H3,be tb call o (ba (fun j=>Nat.blt j (0+i)) 0 l ss T0) Hx=some (v,H3)/\sF l ss T0 H0 (dr m i) p H3:=by
 have hlo:∀c oc,l[c]?=some oc->aA oc.op=true->m c=false->c<i->er l ms c i=true:=by
  intro c oc h1 h2 h3 h4
  refine oj h1 hi h4 h2 hc ?_
  cases hb:iL ms i c with
  | false=>rfl
  | true=>have:=hready c h4 hb; rw[h3]at this; simp at this
 obtain⟨_,b,_,hb,_,hmv,_,_,hgb⟩:=eH hp (hlo p op hlp hcp hmp hpi)
 rw[hi]at hb
 obtain rfl:=Option.some.inj hb
 have htc:bQ l ss T0 i=eV (ba (fun j=>Nat.blt j (0+i)) 0 l ss T0) o.op v:=by simp only[bQ,hi,hs]
 have hspan:∀x∈bQ l ss T0 i,∀a,p<=a->a<=i->(∀c,a<=c->c<i->dx l m c->x∉bQ l ss T0 c)->(dU H0 ss i).get x=(dU H0 ss a).get x:=by
  intro x hx a ha hai hno
  have:=vV (H0:=H0) (ss:=ss) (x:=x) (i-a) a fun c h1 h2=>by
   have hcl:c<l.length:=by have:=(N2.1 hi).1; omega
   have hlc:l[c]?=some l[c]:=N1 hcl
   cases hcc:aA l[c].op with
   | false=>rw[uH htr hlc hcc]
   | true=>
    cases hcm:m c with
    | true=>
     have he:dx l m c:=⟨hcm,_,hlc,hcc⟩
     have hpc:p<c:=by
      rcases Nat.lt_or_ge p c with h | h
      ·exact h
      ·obtain rfl:c=p:=om
       rw[hmp]at hcm; simp at hcm
     obtain⟨_,b,_,hb,_,hmv2,_,_,hgb2⟩:=eH hp (dw hd hlp hcp hmp hpc he)
     rw[hlc]at hb
     obtain rfl:=Option.some.inj hb
     exact uX htr hlc hgb2 (uQ hmv2) (hno c h1 om he)
    | false=>
     have hl:=hlo c _ hlc hcc hcm om
     obtain⟨a',_,ha',_,_,_,htc',hga,_⟩:=eH hp hl
     rw[hlc]at ha'
     obtain rfl:=Option.some.inj ha'
     exact uX htr hlc hga htc' (hap c i hl x hx)
  rwa [show a+(i-a)=i by omega]at this
 have hget:∀x∈bQ l ss T0 i,Hx.get x=(dU H0 ss i).get x:=by
  intro x hx
  rcases Classical.em (∃q,p<=q/\dx l m q/\x∈bQ l ss T0 q) with⟨q,hq⟩ | hno
  ·obtain⟨q,⟨q1,q2,q3⟩,qm⟩:=qT (P:=fun q=>p<=q/\dx l m q/\x∈bQ l ss T0 q) (n:=l.length) hq fun q h=>wU htr hp hap hd h.2.1
   have hqi:q<i:=by
    rcases Nat.lt_trichotomy q i with h | h | h
    ·exact h
    ·subst h; rw[q2.1]at hmi; simp at hmi
    ·exact absurd hx (hap i q (dw hd hi hc hmi h q2) x q3)
   rw[R.late q x q1 q2 q3 fun q' h1 h2 h3=>qm q' h1 ⟨om,h2,h3⟩]
   exact (hspan x hx (q+1) om om fun c h1 h2 h3 h4=>qm c om ⟨om,h3,h4⟩).symm
  ·rw[R.base x fun q h1 h2 h3=>hno ⟨q,h1,h2,h3⟩]
   exact (hspan x hx p rL om fun c h1 h2 h3 h4=>hno ⟨c,h1,h3,h4⟩).symm
 rw[htc]at hget
 obtain⟨H3,e1,e2,e3,e4⟩:=Cx hgb hmv hst hget
 rw[<- htc]at e3 e4
 have hi1:dU H0 ss (i+1)=H1:=by simp only[dU,hs]
 refine⟨H3,e1,?_,?_,?_⟩
 ·rw[e2]; exact R.next
 ·intro x hx
  have hxi:=hx i om (fF.2 (.inr ⟨rfl,o,hi,hc⟩))
  rw[e4 x hxi]
  exact R.base x fun q h1 h2=>hx q h1 (fF.2 (.inl h2))
 ·intro q x h1 h2 h3 h4
  rcases fF.1 h2 with h2 | ⟨rfl,_⟩
  ·have hxi:x∉bQ l ss T0 i:=by
    rcases Nat.lt_trichotomy q i with h | h | h
    ·exact h4 i h (fF.2 (.inr ⟨rfl,o,hi,hc⟩))
    ·have h9:=h2.1; rw[h,hmi]at h9; simp at h9
    ·exact hap i q (dw hd hi hc hmi h h2) x h3
   rw[e4 x hxi]
   exact R.late q x h1 h2 h3 fun q' a b=>h4 q' a (fF.2 (.inl b))
  ·rw[e3 x h3,hi1]
theorem Il{o:ah}(hi:l[p]?=some o)(hc:aA o.op=true)(hmi:m p=false){p':Nat}(hpp:p<p')(hpl:p'<=l.length)
  (hdone:∀c oc,p<c->c<p'->l[c]?=some oc->aA oc.op=true->m c=true) {Hx:ab} (R:sF l ss T0 H0 m p Hx) {v:aa} {H1:ab} (hs:ss[p]?=some (v,H1))
  (hst:be tb call o (ba (fun j=>Nat.blt j (0+p)) 0 l ss T0) (dU H0 ss p)=some (v,H1)) :
  ∃Hy H3,Hy.next=Hx.next/\(∀x,Hy.get x=Hx.get x)/\be tb call o (ba (fun j=>Nat.blt j (0+p)) 0 l ss T0) Hy=some (v,H3)/\sF l ss T0 H0 (dr m p) p' H3:=by
 have hi1:dU H0 ss (p+1)=H1:=by simp only[dU,hs]
 have hE:∀q,p'<=q->(dx l (dr m p) q↔dx l m q):=fun q hq=>by
  rw[fF]
  constructor
  ·rintro (h | ⟨rfl,_⟩)
   ·exact h
   ·omega
  ·exact .inl
 have hspan:∀x a,p<a->a<=p'->(∀c,a<=c->c<p'->dx l m c->x∉bQ l ss T0 c)->(dU H0 ss p').get x=(dU H0 ss a).get x:=by
  intro x a ha hap' hno
  have:=vV (H0:=H0) (ss:=ss) (x:=x) (p'-a) a fun c h1 h2=>by
   have hcl:c<l.length:=om
   have hlc:l[c]?=some l[c]:=N1 hcl
   cases hcc:aA l[c].op with
   | false=>rw[uH htr hlc hcc]
   | true=>
    have he:dx l m c:=⟨hdone c _ om om hlc hcc,_,hlc,hcc⟩
    obtain⟨_,b,_,hb,_,hmv2,_,_,hgb2⟩:=eH hp (dw hd hi hc hmi om he)
    rw[hlc]at hb
    obtain rfl:=Option.some.inj hb
    exact uX htr hlc hgb2 (uQ hmv2) (hno c h1 om he)
  rwa [show a+(p'-a)=p' by omega]at this
 have hnx:(dU H0 ss p').next=(dU H0 ss (p+1)).next:=by
  have:=Cf (H0:=H0) (ss:=ss) (p'-(p+1)) (p+1) fun c h1 h2=>by
   have hcl:c<l.length:=om
   have hlc:l[c]?=some l[c]:=N1 hcl
   cases hcc:aA l[c].op with
   | false=>rw[uH htr hlc hcc]
   | true=>
    have he:dx l m c:=⟨hdone c _ om om hlc hcc,_,hlc,hcc⟩
    obtain⟨_,b,_,hb,_,hmv2,_,_,hgb2⟩:=eH hp (dw hd hi hc hmi om he)
    rw[hlc]at hb
    obtain rfl:=Option.some.inj hb
    exact Kl htr hlc hgb2 hmv2
  rwa [show p+1+(p'-(p+1))=p' by omega]at this
 have hne:∀q,p<=q->dx l m q->p<q:=fun q h1 h2=>by
  rcases Nat.lt_or_ge p q with h | h
  ·exact h
  ·obtain rfl:q=p:=om
   rw[h2.1]at hmi; simp at hmi
 rcases Classical.em (∃q,p<=q/\dx l m q) with⟨q0,hq0,he0⟩ | hno
 ·-- some are done early
  obtain⟨a,_,ha,_,_,_,htc,hga,_⟩:=eH hp (dw hd hi hc hmi (hne q0 hq0 he0) he0)
  rw[hi]at ha
  obtain rfl:=Option.some.inj ha
  have htp:bQ l ss T0 p=eV (ba (fun j=>Nat.blt j (0+p)) 0 l ss T0) o.op v:=by simp only[bQ,hi,hs]
  have hap':∀q,p<=q->dx l m q->∀x∈bQ l ss T0 q,x∉bQ l ss T0 p:=fun q h1 h2=>hap p q (dw hd hi hc hmi (hne q h1 h2) h2)
  obtain⟨H3,e1,e2⟩:=(nZ hga htc hst).1.1 Hx R.next fun x hx=>R.base x fun q h1 h2 h3=>hap' q h1 h2 x h3 (by rw[htp]; exact hx)
  rw[<- htp]at e2
  have hkeep:∀x,x∉bQ l ss T0 p->(dU H0 ss (p+1)).get x=(dU H0 ss p).get x:=fun x hx=>uX htr hi hga htc hx
  refine⟨Hx,H3,rfl,fun _=>rfl,e1,?_,?_,?_⟩
  ·rw[e2.next,hnx,hi1]
  ·intro x hx
   have hx':∀q,p'<=q->dx l m q->x∉bQ l ss T0 q:=fun q h1 h2=>hx q h1 ((hE q h1).2 h2)
   rcases Classical.em (∃q,p<q/\dx l m q/\x∈bQ l ss T0 q) with⟨q,hq⟩ | hnone
   ·obtain⟨q,⟨q1,q2,q3⟩,qm⟩:=qT (P:=fun q=>p<q/\dx l m q/\x∈bQ l ss T0 q) (n:=l.length) hq fun q h=>wU htr hp hap hd h.2.1
    have hqp:q<p':=by
     rcases Nat.lt_or_ge q p' with h | h
     ·exact h
     ·exact absurd q3 (hx' q h q2)
    rw[e2.rest x (hap' q om q2 x q3),R.late q x om q2 q3 fun q' h1 h2 h3=>qm q' h1 ⟨om,h2,h3⟩]
    exact (hspan x (q+1) om om fun c h1 h2 h3 h4=>qm c om ⟨om,h3,h4⟩).symm
   ·rw[hspan x (p+1) om om fun c h1 h2 h3 h4=>hnone ⟨c,om,h3,h4⟩]
    rcases Classical.em (x∈bQ l ss T0 p) with hxp | hxp
    ·rw[e2.same x hxp,hi1]
    ·rw[e2.rest x hxp,hkeep x hxp]
     exact R.base x fun q h1 h2 h3=>hnone ⟨q,hne q h1 h2,h2,h3⟩
  ·intro q x h1 h2 h3 h4
   have h2':=(hE q h1).1 h2
   rw[e2.rest x (hap' q om h2' x h3)]
   exact R.late q x om h2' h3 fun q' a b=>h4 q' a ((hE q' om).2 b)
 ·-- none
  have hh:dU H0 ss p'=H1:=by
   rw[<- hi1]
   have:=cI htr (p'-(p+1)) (p+1) om fun c oc h1 h2 h3=>by
    cases hcc:aA oc.op with
    | false=>rfl
    | true=>exact absurd ⟨c,om,hdone c oc om om h3 hcc,oc,h3,hcc⟩ hno
   rwa [show p+1+(p'-(p+1))=p' by omega]at this
  refine⟨dU H0 ss p,H1,R.next.symm,fun x=>(R.base x fun q h1 h2=>absurd ⟨q,h1,h2⟩ hno).symm,hst,?_,?_,?_⟩
  ·rw[hh]
  ·intro x _; rw[hh]
  ·intro q x h1 h2
   exact absurd ⟨q,om,(hE q h1).1 h2⟩ hno
end
theorem Im{m:Nat->Bool}{p i:Nat}{o:ah}(hi:l[i]?=some o)(hc:aA o.op=false){Hx:ab}(R:sF l ss T0 H0 m p Hx):sF l ss T0 H0 (dr m i) p Hx:=by
 have hE:∀q,dx l (dr m i) q↔dx l m q:=fun q=>by
  rw[fF]
  constructor
  ·rintro (h | ⟨rfl,o',h1,h2⟩)
   ·exact h
   ·rw[hi]at h1; obtain rfl:=Option.some.inj h1; rw[hc]at h2; simp at h2
  ·exact .inl
 exact⟨R.next,fun x hx=>R.base x fun q h1 h2=>hx q h1 ((hE q).2 h2),fun q x h1 h2 h3 h4=>R.late q x h1 ((hE q).1 h2) h3 fun q' a b=>h4 q' a ((hE q').2 b)⟩
end
end Go.Abs
namespace Go.Abs
section
variable {P:Program} {Prot:Gh} {w0:World} {ρ:Pl} {H:ab} {w:World}
theorem bv.set_dead(R:bv Prot w0 ρ H w){b:Nat}(hd:Prot.dead b){c:List aa}{low:Nat}(hg:H.get b=some (.cells c low false))(xs:List aa):bv Prot w0 ρ (H.set b (.cells xs 0 false)) w:=by
 obtain⟨hbn,hnone⟩:=R.dead b hd
 have hne:∀{b' l L},ρ b' l=some L->b'≠b:=fun {b' l L} h e=>by subst e; rw[hnone]at h; simp at h
 have hget:∀{b'},b'≠b->(H.set b (.cells xs 0 false)).get b'=H.get b':=fun h=>by rw[ab.get_set,if_neg h]
 refine⟨R.os,R.tape,R.output,R.size,R.prot,R.dom,fun b' l L q=>?_,fun b' l L x q hx=>?_,fun b1 l1 L1 b2 l2 L2 x q1 q2 e hx=>?_,R.dead,fun b' l low' hx=>?_⟩
 ·rw[hget (hne q)]; exact R.obj b' l L q
 ·rw[hget (hne q)]at hx; exact R.free b' l L x q hx
 ·rw[hget (hne q1)]at hx; exact R.inj b1 l1 L1 b2 l2 L2 x q1 q2 e hx
 ·by_cases e:b'=b
  ·subst e
   rw[ab.get_set,if_pos rfl]at hx
   simp at hx
  ·rw[hget e]at hx; exact R.glob b' l low' hx
theorem za(R:bv Prot w0 ρ H w){sT elem:TypeId}{size:Nat}{agg:Bool}{z:List aa}(hu:P.underlying sT=some (.slice elem))(T:Ty P elem agg size)(hz:da P elem=some z)
  (hzl:z.length=size) {len:Nat} (hsm:len*size<=16777216) {ps:List (Nat×Nat×aa)} {qs:Array (Nat×Value)} (hp:ed ρ (fun i=>some (i*size,size)) ps qs.toList) {xs:List aa}
  (hxs:lP (sj z len) ps=some xs) {b:Nat} (hd:Prot.dead b) {c:List aa} {low:Nat} (hg:H.get b=some (.cells c low false)) :
  ∃ρ' w' u,ρ.le ρ'/\(Instr.buildSlice sT len qs).run P w=.ok u w'/\bv ⟨Prot.prot,fun d=>Prot.dead d/\d≠b⟩ w0 ρ' (H.set b (.cells xs 0 false)) w'/\ae ρ' (.slice (some ⟨b,xs.length,0⟩) len (.known len)) u:=by
 obtain⟨zv,hzr,hzl'⟩:=gt hz
 have hlen:=aj.len (hzl' ρ)
 simp only[Array.length_toList]at hlen
 obtain⟨C,f1,f2⟩:=pC hp (kf (hzl' ρ) len) hxs
 rw[hzl]at f1
 obtain⟨ρ',q1,q3,q4⟩:=th (R.set_dead hd hg xs) elem f2 hd (by rw[ab.get_set,if_pos rfl])
 have q2:(newRow elem C).run P w=.ok ⟨w.heap.size,0,none⟩ (w.alloc (.cells C elem)):=rfl
 have hsm':¬16777216<len*size:=om
 refine⟨ρ',_,.slice (some ⟨w.heap.size,0,none⟩) len len,q1,?_,q3,?_⟩
 ·by_cases hn:len*size=0
  ·have hm:cR zv.cells (len*size)=#[]:=by rw[hn]; simp[cR]
   rw[hm]at f1
   simp only[Instr.buildSlice,Sem.run_bind,run_underlying hu,Result.andThen_ok,T.size]
   simp[hn,show Array.range 0=#[] by simp,f1,q2]
  ·unfold cR at f1
   simp only[Instr.buildSlice,Sem.run_bind,run_underlying hu,Result.andThen_ok,T.size]
   simp[hsm',hn,hzr,f1,q2]
 ·simp only[ae]
  exact⟨_,q4,Nat.zero_le _,Nat.le_refl _,rfl⟩
theorem vm{c:Call}{n:Nat}{z:List aa}{l:List (Nat×Nat×aV)}(h:je P c=some (.buildSl n z l)):False:=by
 unfold je at h
 repeat' split at h
 all_goals first
  | (simp at h; done)
  | (cases hb:(Nat.beq _ _&&mz P _) <;> simp[hb]at h; done)
  | skip
 all_goals (revert h; intro h; simp only[cond_eq_ite]at h; split at h <;> simp at h)
theorem vp{o:Op}{n:Nat}{z:List aa}{l:List (Nat×Nat×aV)}(h:oz P o=some (.buildSl n z l)):False:=by
 unfold oz at h
 repeat' split at h
 all_goals first
  | (simp at h; done)
  | (simp only[cond_eq_ite]at h; split at h <;> first | (simp at h; done) | (split at h <;> simp at h))
theorem KO{o:Op}{len:Nat}{z:List aa}{l:List (Nat×Nat×aV)}(h:vq P o=some (.buildSl len z l)) :
  ∃t e ps g k,o=.buildSlice t len ps/\P.underlying t=some (.slice e)/\eT P e=some (g,k)/\da P e=some z/\kB (fun i=>some (i*k,k)) ps.toList=some l/\z.length=k/\len*k<=16777216:=by
 unfold vq at h
 split at h
 ·rename_i a ha
  simp only[sJ]at h
  subst h
  exact (vp ha).elim
 ·split at h
  ·rename_i a ha
   simp only[sJ]at h
   subst h
   cases o <;> simp only[xm,reduceCtorEq]at ha
   case buildSlice t len' ps _=>
    split at ha
    ·rename_i e hu
     split at ha
     ·rename_i g k z' hk hz
      split at ha
      ·rename_i l' hl
       cases hg:(Nat.beq z'.length k&&Nat.ble (len'*k) 16777216) with
       | false=>rw[hg]at ha; simp at ha
       | true=>
        rw[hg]at ha
        simp only[N4,Nat.ble_eq]at hg
        simp only[cond_true,sJ,gZ.buildSl.injEq]at ha
        obtain⟨rfl,rfl,rfl⟩:=ha
        exact⟨t,e,ps,g,k,rfl,hu,hk,hz,hl,N8 hg.1,hg.2⟩
      ·simp at ha
     ·simp at ha
    ·simp at ha
   case call c=>exact (vm ha).elim
   all_goals
    exfalso
    repeat' split at ha
    all_goals first
     | (simp at ha; done)
     | (simp only[cond_eq_ite]at ha; split at ha <;> simp at ha)
  ·simp at h
def wE(l:List (Nat×Nat×aV)):List (Nat×Nat):=l.map fun q=>(q.1,q.2.1)
def wu(l:List (Nat×Nat×aV)):List aV:=l.map fun q=>q.2.2
theorem vE(T:Tr aa):∀l:List (Nat×Nat×aV),Ho (wE l) (fo T (wu l))=yb T l
 | []=>rfl
 | (a,b,x)::r=>by
  have:=vE T r
  simp only[wE,wu,List.map_cons,fo,Ho,yb]at this ⊢
  rw[this]
def Mb(P:Program)(n:Nat)(ops:Array Oper)(o:Oper)(a:ah)(b:Nat):Prop:=
 ∃len z l g,vq P o.op=some (.buildSl len z l)/\gT n ops o.guard=some g/\du n o.dst=true/\a=⟨o.dst,.hf (.fill b len z (wE l)) (wu l),g⟩
theorem FC(R:bv Prot w0 ρ H w){n:Nat}{T:Tr aa}{a:Act}(ht:aW ρ n T a.tmps){o:Oper}{len:Nat}{z:List aa}{l:List (Nat×Nat×aV)}(hc:vq P o.op=some (.buildSl len z l))
  {b:Nat} (hd:Prot.dead b) {v:aa} {H':ab} (hx:go b len z (wE l) H (fo T (wu l))=some (v,H')) :
  ∃ρ' w' u,ρ.le ρ'/\(execOp a.eval o).run P w=.ok (.value u) w'/\bv ⟨Prot.prot,fun d=>Prot.dead d/\d≠b⟩ w0 ρ' H' w'/\ae ρ' v u:=by
 obtain⟨t,e,ps,g,k,ho,hu,hk,hz,hl,hzl,hsm⟩:=KO hc
 unfold go at hx
 split at hx <;> first | (simp at hx; done) | skip
 rename_i c hg
 split at hx <;> first | (simp at hx; done) | skip
 rename_i xs hxs
 simp only[sJ,pJ]at hx
 obtain⟨rfl,rfl⟩:=hx
 rw[vE]at hxs
 obtain⟨ρ1,w1,u,q1,q2,q3,q4⟩:=za (P:=P) (qs:=ps.map fun p=>(p.1,a.eval p.2)) R hu (dG hk) hz hzl hsm (by simpa using nj ht hl) hxs hd hg
 refine⟨ρ1,w1,u,q1,?_,q3,q4⟩
 obtain⟨dst,op,type,pos,after,guard⟩:=o
 simp only at ho
 subst ho
 show (do pure (Next.value (<- Instr.buildSlice t len (ps.map fun p=>(p.1,a.eval p.2)))):Sem Next).run P w=_
 simp only[Sem.run_bind,q2,Result.andThen_ok]
 rfl
end
end Go.Abs
namespace Go.Abs
section
variable {P:Program} {Prot:Gh} {w0:World} {tb:FuncId->Bool} {call:FuncId->List aa->ab->Option (aa×ab)}
def wS:gZ->Option Nat
 | .hf (.fill b _ _ _) _=>some b
 | _=>none
def oD(D:Nat->Prop)(l:List ah)(m:Nat->Bool):Nat->Prop:=fun d=>D d∨∃(i:Nat) (a:ah),l[i]?=some a/\wS a.op=some d/\m i=false
set_option maxHeartbeats 2000000 in
theorem FI(htb:∀f,Nat.blt f bN=true->tb f=true->bq P f=true)(hcall:gX P call){ds:List Deferred}{n:Nat}{ops:Array Oper}{l:List ah}{base:Nat}{ms:List Nat}
  (hlen:l.length=ops.toList.length) (hopers:∀(j:Nat) (o:Oper),ops.toList[j]?=some o->∃a,l[j]?=some a/\(dK P n ops o=some a∨∃c,base<=c/\Mb P n ops o a c))
  (hbase:∀d,Prot.dead d->d<base) (hdis:∀(i j:Nat) (a b:ah) (c:Nat),l[i]?=some a->l[j]?=some b->wS a.op=some c->wS b.op=some c->i=j) (hno:gD l)
  (hm:fD (ops.toList.map aS) ms=true) (hp:gM l ms=true) (hol:nr l ms=true) {T0:Tr aa} {H0:ab} {ss:List (aa×ab)} (htr:cm tb call l T0 H0=some ss)
  (hck:eL tb (H0::ss.map (·.2)) l ((List.range l.length).map (dV l ms)) ss T0=true)
  (hap:∀i j,er l ms i j=true->∀x∈bQ l ss T0 j,x∉bQ l ss T0 i)
  (hal:∀i j k o,er l ms i j=true->l[k]?=some o->dc o.op=true->iL ms k j=false->iL ms j k=false->∀x∈bQ l ss T0 j,x∉bQ l ss T0 k) {ρ0:Pl} {Q:Exit->Act->World->Prop}
  (hQ:∀a w,(∃ρ,ρ0.le ρ/\bv Prot w0 ρ (dU H0 ss l.length) w/\aW ρ n (ba (fun _=>true) 0 l ss T0) a.tmps/\a.defers=ds)->Q .normal a w) :
  ∀(fuel:Nat) (listed:Array Bool) (a:Act) (w:World),listed.size=ops.size->rZ (fun i=>listed.getD i false) ops.size=fuel ->
   (∀j,j<ops.size->listed.getD j false=true->∀e∈(ops.toList.map aS).getD j [],listed.getD e false=true) ->
   (∃ρ Hx,ρ0.le ρ/\sF l ss T0 H0 (fun i=>listed.getD i false) (ap (fun i=>listed.getD i false) 0 l) Hx/\bv ⟨Prot.prot,oD Prot.dead l fun i=>listed.getD i false⟩ w0 ρ Hx w /\
    aW ρ n (ba (fun i=>listed.getD i false) 0 l ss T0) a.tmps/\a.defers=ds) ->
   wpAny P .any ops Q fuel listed a w:=by
 have hN:l.length=ops.size:=by simpa using hlen
 obtain⟨hsl,hat⟩:=fT l T0 H0 ss 0 htr
 have hes:(ops.toList.map aS).length=ops.size:=by simp
 have hpair:∀i j a b,i<j->l[i]?=some a->l[j]?=some b->kV ms i j a b=true:=by
  intro i j a b hij hi hj
  have hp:=hp
  unfold gM at hp
  rw[List.all_eq_true]at hp
  have hjl:=(N2.1 hj).1
  have h1:=hp j (List.mem_range.2 hjl)
  rw[hj]at h1
  simp only at h1
  rw[List.all_eq_true]at h1
  have h2:=h1 i (List.mem_range.2 hij)
  rw[hi]at h2
  exact h2
 have hload:∀i j k o,er l ms i j=true->l[k]?=some o->dc o.op=true->iL ms k j=true->iL ms k i=true:=by
  intro i j k o h1 h2 h3 h4
  obtain⟨_,_,hi,hj,hij,_⟩:=eH hp h1
  unfold nr at hol
  rw[List.all_eq_true]at hol
  have q:=hol j (List.mem_range.2 (N2.1 hj).1)
  rw[List.all_eq_true]at q
  have q2:=q i (List.mem_range.2 hij)
  rw[h1]at q2
  simp only[Bool.not_true,Bool.false_or]at q2
  rw[List.all_eq_true]at q2
  have q3:=q2 k (List.mem_range.2 (N2.1 h2).1)
  rw[h2]at q3
  simpa[h3,h4] using q3
 intro fuel
 induction fuel with
 | zero=>
  intro listed a w hsz hu _ hinv
  have hall:∀i,i<ops.size->listed.getD i false=true:=pV hu
  refine⟨?_,hQ a w ?_⟩
  ·unfold Region.ready
   rw[List.filter_eq_nil_iff]
   intro i hi
   have:=hall i (List.mem_range.1 hi)
   have e:listed.getD i true=true:=by
    rw[Array.getD_eq_getD_getElem?]at this ⊢
    rw[Array.getElem?_eq_getElem (by rw[hsz]; exact List.mem_range.1 hi)]at this ⊢
    simpa using this
   simp[e]
  ·obtain⟨ρ,Hx,h1,hH,h2,h3,h4⟩:=hinv
   have hst:ap (fun i=>listed.getD i false) 0 l=l.length:=by
    obtain⟨q1,q2,q3,q4⟩:=dz (fun i=>listed.getD i false) l 0
    rcases Nat.lt_or_ge (ap (fun i=>listed.getD i false) 0 l) l.length with q | q
    ·have ho:l[ap (fun i=>listed.getD i false) 0 l-0]?=some l[ap (fun i=>listed.getD i false) 0 l]:=by simp
     have:=(q4 _ (by simpa using q) ho).2
     rw[hall _ om]at this
     simp at this
    ·omega
   rw[hst]at hH
   refine⟨ρ,h1,?_,h3.congr fun t=>?_,h4⟩
   ·have:=h2.ext_heap (H':=dU H0 ss l.length) hH.next.symm fun x=>(hH.base x fun q q1 q2=>by
     obtain⟨_,o,q3,_⟩:=q2
     have:=(N2.1 q3).1
     omega).symm
    exact this.fewer (D:=Prot.dead) fun d hd=>.inl hd
   ·refine eU l ss 0 T0 T0 rfl fun i o hi _=>?_
    have:=(N2.1 hi).1
    simp only[Nat.zero_add]
    exact (hall i om).symm
 | succ fuel ih=>
  intro listed a w hsz hu hdown hinv
  obtain⟨ρ,Hx,hle,hH,R,ht,hd⟩:=hinv
  have hml:=oU hm (m:=fun i=>listed.getD i false) (fun j hj hjl e he=>hdown j om hjl e he)
  have hmask:∀j,j<ops.size->(∀e∈(ops.toList.map aS).getD j [],listed.getD e false=true)->∀i,i<j->iL ms j i=true->listed.getD i false=true:=
   fun j hj he i hi hb=>hml j om he i hi hb
  have hDn:Lg l ms (fun i=>listed.getD i false):=fun j hj hjl i hi hb=>hmask j om (hdown j om hjl) i hi hb
  refine⟨fun hnone=>?_,fun i hi=>?_⟩
  ·-- there is one that is ready
   exfalso
   have hex:∃i,i<ops.size/\listed.getD i false=false:=by
    rcases Classical.em (∃i,i<ops.size/\listed.getD i false=false) with h | h
    ·exact h
    ·exfalso
     have:rZ (fun i=>listed.getD i false) ops.size=0:=ux fun i hi=>by
      cases hb:listed.getD i false with
      | true=>rfl
      | false=>exact (h ⟨i,hi,hb⟩).elim
     omega
   have hmin:∃i,i<ops.size/\listed.getD i false=false/\∀j,j<i->listed.getD j false=true:=by
    obtain⟨i,hi1,hi2⟩:=hex
    induction i using Nat.strongRecOn with
    | _ i ihm=>
     rcases Classical.em (∃j,j<i/\listed.getD j false=false) with⟨j,hj,hj2⟩ | h
     ·exact ihm j hj om hj2
     ·refine⟨i,hi1,hi2,fun j hj=>?_⟩
      cases hb:listed.getD j false with
      | true=>rfl
      | false=>exact (h ⟨j,hj,hb⟩).elim
   obtain⟨i,hi1,hi2,hi3⟩:=hmin
   have:i∈Region.ready .any ops listed:=by
    rw[mem_ready]
    refine⟨?_,ops[i],Array.getElem?_eq_getElem hi1,fun e he hb=>?_⟩
    ·rw[Array.getD_eq_getD_getElem?]at hi2 ⊢
     rw[Array.getElem?_eq_getElem om]at hi2 ⊢
     simpa using hi2
    ·refine hi3 _ ?_
     unfold fD at hm
     rw[List.all_eq_true]at hm
     have h1:=hm i (List.mem_range.2 om)
     simp only[N4,List.all_eq_true]at h1
     refine N7 (h1.1 e.on ?_)
     have:(ops.toList.map aS).getD i []=aS ops[i]:=by simp[List.getD,hi1]
     rw[this]
     unfold aS
     rw[List.mem_map]
     exact⟨e,by rw[List.mem_filter]; exact⟨by simpa using he,hb⟩,rfl⟩
   rw[hnone]at this
   simp at this
  ·obtain⟨hi1,o,ho,hedge⟩:=mem_ready.1 hi
   have hiN:i<ops.size:=(Array.getElem?_eq_some_iff.1 ho).1
   have hmi:listed.getD i false=false:=by
    rw[Array.getD_eq_getD_getElem?]at hi1 ⊢
    rw[Array.getElem?_eq_getElem om]at hi1 ⊢
    simpa using hi1
   obtain⟨ao,hao,hco⟩:=hopers i o (by simpa using ho)
   have hedges:∀e∈(ops.toList.map aS).getD i [],listed.getD e false=true:=by
    have:(ops.toList.map aS).getD i []=aS o:=by
     have:ops[i]=o:=by simpa[Array.getElem?_eq_getElem hiN] using ho
     simp[List.getD,hiN,this]
    rw[this]
    intro e he
    unfold aS at he
    rw[List.mem_map]at he
    obtain⟨x,hx,rfl⟩:=he
    rw[List.mem_filter]at hx
    exact hedge x (by simpa using hx.1) hx.2
   have hafter:∀c b,i<c->l[c]?=some b->iL ms c i=true->listed.getD c false=false:=by
    intro c b hc hb hbit
    cases hx:listed.getD c false with
    | false=>rfl
    | true=>
     have hcN:=(N2.1 hb).1
     have:=hmask c om (hdown c om hx) i hc hbit
     rw[hmi]at this
     simp at this
   have hagree:∀t∈iD ao,(ba (fun i=>listed.getD i false) 0 l ss T0).get t=(ba (fun j=>Nat.blt j (0+i)) 0 l ss T0).get t:=by
    intro t htr'
    refine eU l ss 0 T0 T0 rfl fun c b hc hdst=>?_
    have hcN:=(N2.1 hc).1
    simp only[Nat.zero_add]
    rcases Nat.lt_trichotomy c i with h | h | h
    ·have e:Nat.blt c i=true:=N3 h
     rw[e]
     have hpr:=hpair c i b ao h hc hao
     simp only[kV,Bool.or_eq_true,N4]at hpr
     rcases hpr with hpr | ⟨hpr,_⟩
     ·exact hmask i hiN hedges c h hpr
     ·exfalso
      simp only[vi,hdst,N4,Bool.not_eq_true',List.contains_eq_mem,decide_eq_false_iff_not]at hpr
      exact hpr.1.1 htr'
    ·subst h
     have e:Nat.blt c c=false:=by
      cases hb:Nat.blt c c with
      | false=>rfl
      | true=>have:=N7 hb; omega
     rw[e]; exact hmi
    ·have e:Nat.blt c i=false:=by
      cases hb:Nat.blt c i with
      | false=>rfl
      | true=>have:=N7 hb; omega
     rw[e]
     have hpr:=hpair i c ao b h hao hc
     simp only[kV,Bool.or_eq_true,N4]at hpr
     rcases hpr with hpr | ⟨hpr,_⟩
     ·exact hafter c b h hc hpr
     ·exfalso
      simp only[vi,hdst,N4,Bool.not_eq_true',List.contains_eq_mem,decide_eq_false_iff_not]at hpr
      exact hpr.2 htr'
   have hgd:ga (ba (fun i=>listed.getD i false) 0 l ss T0) ao.guard=ga (ba (fun j=>Nat.blt j (0+i)) 0 l ss T0) ao.guard:=by
    cases hg:ao.guard with
    | none=>rfl
    | some g=>
     obtain⟨t,b⟩:=g
     simp only[ga,ev]
     rw[hagree (gS t) (by simp[iD,hg])]
   have hop:∀H,bG tb (ba (fun i=>listed.getD i false) 0 l ss T0) H ao.op=bG tb (ba (fun j=>Nat.blt j (0+i)) 0 l ss T0) H ao.op:=
    fun H=>ui fun t h=>hagree t (by simp only[iD,List.mem_append]; exact .inl h)
   obtain⟨v,H1,hss,hstep⟩:=hat i ao hao
   obtain⟨st1,st2,st3,st4⟩:=dz (fun i=>listed.getD i false) l 0
   have hready:∀c,c<i->iL ms i c=true->listed.getD c false=true:=fun c h1 h2=>hmask i hiN hedges c h1 h2
   have hm':∀j,(listed.setIfInBounds i true).getD j false=dr (fun i=>listed.getD i false) i j:=by
    intro j
    unfold dr
    by_cases e:j=i
    ·subst e
     rw[if_pos rfl,Array.getD_eq_getD_getElem?]
     have:j<listed.size:=om
     simp[this]
    ·rw[if_neg e]
     exact getD_set_ne false (fun q=>e q.symm)
   have hmf:(fun j=>(listed.setIfInBounds i true).getD j false)=dr (fun i=>listed.getD i false) i:=funext hm'
   have hnext:∀(ρ':Pl) (w':World) (a':Act) (H3:ab),ρ.le ρ'->sF l ss T0 H0 (dr (fun i=>listed.getD i false) i) (ap (dr (fun i=>listed.getD i false) i) 0 l) H3 ->
     bv ⟨Prot.prot,oD Prot.dead l (dr (fun i=>listed.getD i false) i)⟩ w0 ρ' H3 w' ->
     aW ρ' n (co (ba (fun i=>listed.getD i false) 0 l ss T0) ao.dst v) a'.tmps->a'.defers=ds->wpAny P .any ops Q fuel (listed.setIfInBounds i true) a' w':=by
    intro ρ' w' a' H3 hle' hH' R' ht' hd'
    refine ih _ a' w' (by simpa using hsz) ?_ ?_ ⟨ρ',H3,Pl.le_trans hle hle',by rw[hmf]; exact hH',by rw[hmf]; exact R',?_,hd'⟩
    ·have:=uw (m:=fun i=>listed.getD i false) (m':=fun j=>(listed.setIfInBounds i true).getD j false) (i:=i) (n:=ops.size) hiN hmi (by rw[hm']; simp[dr]) (fun j hj=>by rw[hm']; simp[dr,hj])
     omega
    ·intro j hj hjl e he
     rw[hm']at hjl ⊢
     simp only[dr]at hjl ⊢
     by_cases q:e=i
     ·rw[if_pos q]
     ·rw[if_neg q]
      by_cases q2:j=i
      ·subst q2; exact hedges e he
      ·rw[if_neg q2]at hjl; exact hdown j hj hjl e he
    ·refine ht'.congr fun t=>?_
     rw[hmf,kq]
     by_cases e:ao.dst=some t
     ·rw[if_pos e]
      refine iQ l ss 0 i T0 ao v H1 hao hss e (by simp[dr]) fun c b hc hcb hdst=>?_
      simp only[Nat.zero_add,dr]
      rw[if_neg om]
      have hpr:=hpair i c ao b hc hao hcb
      simp only[kV,Bool.or_eq_true,N4]at hpr
      rcases hpr with hpr | ⟨hpr,_⟩
      ·exact hafter c b hc hcb hpr
      ·exfalso
       simp only[vi,e,N4,Bool.not_eq_true',beq_eq_false_iff_ne]at hpr
       exact hpr.1.2 hdst
     ·rw[if_neg e]
      refine eU l ss 0 T0 T0 rfl fun c b hc hdst=>?_
      simp only[Nat.zero_add,dr]
      rw[if_neg]
      intro q
      subst q
      rw[hao]at hc
      simp only[sJ]at hc
      subst hc
      exact e hdst
   have hge:aA ao.op=true->ap (fun i=>listed.getD i false) 0 l<=i:=by
    intro hc
    rcases Nat.lt_or_ge i (ap (fun i=>listed.getD i false) 0 l) with h | h
    ·have:=st3 i ao hao hc (by simpa using h)
     simp only[Nat.zero_add]at this
     rw[hmi]at this
     simp at this
    ·exact h
   have hlink:aA ao.op=true->∃Hy H3,Hy.next=Hx.next/\(∀x,Hy.get x=Hx.get x)/\be tb call ao (ba (fun j=>Nat.blt j (0+i)) 0 l ss T0) Hy=some (v,H3) /\
     sF l ss T0 H0 (dr (fun i=>listed.getD i false) i) (ap (dr (fun i=>listed.getD i false) i) 0 l) H3:=by
    intro hc
    have h1:=hge hc
    have hpl:ap (fun i=>listed.getD i false) 0 l<l.length:=om
    have hob2:l[ap (fun i=>listed.getD i false) 0 l]?=some (l[ap (fun i=>listed.getD i false) 0 l]'hpl):=N1 hpl
    obtain⟨q1,q2⟩:=st4 _ om (by rw[Nat.sub_zero]; exact hob2)
    obtain⟨s1,s2,s3,s4⟩:=dz (dr (fun i=>listed.getD i false) i) l 0
    rcases Nat.lt_or_ge (ap (fun i=>listed.getD i false) 0 l) i with h | h
    ·obtain⟨H3,e1,e2⟩:=Io htr hp hap hDn hob2 q1 q2 hao hc hmi hready h hH hss hstep
     have e3:ap (dr (fun i=>listed.getD i false) i) 0 l=ap (fun i=>listed.getD i false) 0 l:=by
      rcases Nat.lt_trichotomy (ap (dr (fun i=>listed.getD i false) i) 0 l) (ap (fun i=>listed.getD i false) 0 l) with k | k | k
      ·exfalso
       have hob3:l[ap (dr (fun i=>listed.getD i false) i) 0 l]?=some (l[ap (dr (fun i=>listed.getD i false) i) 0 l]'om):=N1 om
       obtain⟨r1,r2⟩:=s4 _ om (by rw[Nat.sub_zero]; exact hob3)
       have:=st3 _ _ hob3 r1 om
       simp only[Nat.zero_add]at this
       simp only[dr]at r2
       split at r2
       ·simp at r2
       ·rw[r2]at this; simp at this
      ·exact k
      ·exfalso
       have:=s3 _ _ hob2 q1 om
       simp only[Nat.zero_add,dr]at this
       rw[if_neg om,q2]at this
       simp at this
     exact⟨Hx,H3,rfl,fun _=>rfl,e1,by rw[e3]; exact e2⟩
    ·have hpi:ap (fun i=>listed.getD i false) 0 l=i:=om
     rw[hpi]at hH
     refine Il htr hp hap hDn hao hc hmi ?_ om (fun c oc k1 k2 k3 k4=>?_) hH hss hstep
     ·rcases Nat.lt_or_ge i (ap (dr (fun i=>listed.getD i false) i) 0 l) with k | k
      ·exact k
      ·exfalso
       have hob3:l[ap (dr (fun i=>listed.getD i false) i) 0 l]?=some (l[ap (dr (fun i=>listed.getD i false) i) 0 l]'om):=N1 om
       obtain⟨r1,r2⟩:=s4 _ om (by rw[Nat.sub_zero]; exact hob3)
       simp only[dr]at r2
       split at r2
       ·simp at r2
       ·have:=st3 _ _ hob3 r1 om
        simp only[Nat.zero_add]at this
        rw[r2]at this; simp at this
     ·have:=s3 c oc k3 k4 om
      simp only[Nat.zero_add,dr]at this
      rwa [if_neg om]at this
   have hplain:aA ao.op=false->sF l ss T0 H0 (dr (fun i=>listed.getD i false) i) (ap (dr (fun i=>listed.getD i false) i) 0 l) Hx:=by
    intro hc
    have e3:ap (dr (fun i=>listed.getD i false) i) 0 l=ap (fun i=>listed.getD i false) 0 l:=fU l 0 fun c b hcb hcc=>by
     simp only[Nat.zero_add,dr]
     rw[if_neg]
     intro e
     subst e
     rw[hao]at hcb
     simp only[sJ]at hcb
     subst hcb
     rw[hc]at hcc
     simp at hcc
    rw[e3]
    exact Im hao hc hH
   have hval:aA ao.op=false->ga (ba (fun j=>Nat.blt j (0+i)) 0 l ss T0) ao.guard=true->bG tb (ba (fun j=>Nat.blt j (0+i)) 0 l ss T0) Hx ao.op=some (.val v,Hx):=by
    intro hc hgo
    unfold be at hstep
    rw[hgo]at hstep
    simp only[cond_true]at hstep
    cases hpu:iG ao.op with
    | true=>
     split at hstep
     ·rename_i u H2 hu
      simp only[sJ,pJ]at hstep
      obtain⟨rfl,rfl⟩:=hstep
      exact (eG hpu hu).2.2 _
     ·rename_i f args H2 hu
      obtain⟨_,⟨x,hx⟩,_⟩:=eG hpu hu
      simp at hx
     ·simp at hstep
    | false=>
     have hld:dc ao.op=true:=by
      unfold aA at hc
      cases h1:dc ao.op with
      | true=>rfl
      | false=>rw[hpu,h1]at hc; simp at hc
     have hw:∃H2,bG tb (ba (fun j=>Nat.blt j (0+i)) 0 l ss T0) (dU H0 ss (ap (fun i=>listed.getD i false) 0 l)) ao.op=some (.val v,H2):=by
      cases hsm:oN l i (ap (fun i=>listed.getD i false) 0 l) with
      | true=>
       unfold oN at hsm
       rw[N4,List.all_eq_true]at hsm
       have hij:=N7 hsm.1
       have hb:=cI htr (ap (fun i=>listed.getD i false) 0 l-i) i om fun c b c1 c2 c3=>by
        have:=hsm.2 c (List.mem_range.2 om)
        rw[c3]at this
        simp only[Bool.or_eq_true,Bool.not_eq_true']at this
        rcases this with h | h
        ·have:=N7 h; omega
        ·exact h
       rw[show i+(ap (fun i=>listed.getD i false) 0 l-i)=ap (fun i=>listed.getD i false) 0 l by omega]at hb
       rw[hb]
       split at hstep
       ·rename_i u H2 hu
        simp only[sJ,pJ]at hstep
        obtain⟨rfl,rfl⟩:=hstep
        exact⟨_,hu⟩
       ·rename_i f args H2 hu
        obtain⟨_,x,hx⟩:=gO hld hu
        simp at hx
       ·simp at hstep
      | false=>
       have hmem:ap (fun i=>listed.getD i false) 0 l∈dV l ms i:=by
        unfold dV
        rw[hao]
        simp only[hld,cond_true]
        rw[List.mem_filter]
        refine⟨List.mem_range.2 om,?_⟩
        rw[hsm]
        simp only[Bool.not_false,Bool.true_and]
        unfold tC
        rw[N4]
        refine⟨?_,?_⟩
        ·unfold kZ
         rcases Nat.lt_or_ge (ap (fun i=>listed.getD i false) 0 l) l.length with h | h
         ·have hob:l[ap (fun i=>listed.getD i false) 0 l]?=some l[ap (fun i=>listed.getD i false) 0 l]:=N1 h
          rw[hob]
          exact (st4 _ om (by simp)).1
         ·rw[Oi h]
          have:ap (fun i=>listed.getD i false) 0 l=l.length:=om
          rw[this]
          exact Nat.beq_refl _
        ·rw[List.all_eq_true]
         intro c hcr
         have hcl:=List.mem_range.1 hcr
         rw[N1 hcl]
         simp only[Bool.or_eq_true,Bool.not_eq_true']
         cases hcc:aA l[c].op with
         | false=>exact .inl rfl
         | true=>
          right
          have hlc:l[c]?=some l[c]:=N1 hcl
          cases hb:Nat.blt c (ap (fun i=>listed.getD i false) 0 l) with
          | true=>
           simp only[cond_true,Bool.not_eq_true']
           have hlt:c<ap (fun i=>listed.getD i false) 0 l:=N7 hb
           have hcm:=st3 c _ hlc hcc om
           simp only[Nat.zero_add]at hcm
           cases hbit:iL ms c i with
           | false=>rfl
           | true=>
            exfalso
            rcases Nat.lt_trichotomy i c with h | h | h
            ·have:=hafter c _ h hlc hbit
             rw[hcm]at this; simp at this
            ·subst h; rw[hmi]at hcm; simp at hcm
            ·have:=jG hbit
             omega
          | false=>
           simp only[cond_false,Bool.not_eq_true']
           have hge:ap (fun i=>listed.getD i false) 0 l<=c:=by
            rcases Nat.lt_or_ge c (ap (fun i=>listed.getD i false) 0 l) with h | h
            ·have:Nat.blt c (ap (fun i=>listed.getD i false) 0 l)=true:=N3 h
             rw[hb]at this; simp at this
            ·exact h
           cases hbit:iL ms i c with
           | false=>rfl
           | true=>
            exfalso
            have hlc2:=hmask i hiN hedges c (jG hbit) hbit
            have hpl:ap (fun i=>listed.getD i false) 0 l<l.length:=om
            have hob2:l[ap (fun i=>listed.getD i false) 0 l]?=some (l[ap (fun i=>listed.getD i false) 0 l]'hpl):=N1 hpl
            obtain⟨q1,q2⟩:=st4 _ om (by rw[Nat.sub_zero]; exact hob2)
            rcases Nat.lt_trichotomy (ap (fun i=>listed.getD i false) 0 l) c with h | h | h
            ·cases hpr:iL ms c (ap (fun i=>listed.getD i false) 0 l) with
             | true=>
              have:=hmask c om (hdown c om hlc2) _ h hpr
              rw[q2]at this; simp at this
             | false=>
              have hlp:=oj hob2 hlc h q1 hcc hpr
              have:=hload _ _ i ao hlp hao hld hbit
              have:=hready _ (jG this) this
              rw[q2]at this; simp at this
            ·rw[h]at q2; rw[q2]at hlc2; simp at hlc2
            ·omega
       obtain⟨Hp,hHp,hrun⟩:=FN l _ ss T0 0 hck i _ (dV l ms i) v H1 hao (by simp[hN,hiN]) hss _ hmem
       obtain⟨H2,hH2⟩:=hrun hgo
       refine⟨H2,?_⟩
       have:Hp=dU H0 ss (ap (fun i=>listed.getD i false) 0 l):=by
        cases hstg:ap (fun i=>listed.getD i false) 0 l with
        | zero=>rw[hstg]at hHp; simpa[dU] using hHp.symm
        | succ q=>
         rw[hstg]at hHp
         simp only[Ob,List.getElem?_map]at hHp
         simp only[dU]
         cases hq:ss[q]? with
         | none=>rw[hq]at hHp; simp at hHp
         | some z=>rw[hq]at hHp; obtain⟨z1,z2⟩:=z; simpa using hHp.symm
       rw[<- this]
       exact hH2
     obtain⟨H2,hH2⟩:=hw
     have hE:∀q,ap (fun i=>listed.getD i false) 0 l<=q->dx l (fun i=>listed.getD i false) q->∀x∈bQ l ss T0 q,x∉bQ l ss T0 i:=by
      intro q hq he
      obtain⟨he1,oq,he2,he3⟩:=he
      have hql:=(N2.1 he2).1
      have hpl:ap (fun i=>listed.getD i false) 0 l<l.length:=om
      have hob2:l[ap (fun i=>listed.getD i false) 0 l]?=some (l[ap (fun i=>listed.getD i false) 0 l]'hpl):=N1 hpl
      obtain⟨q1,q2⟩:=st4 _ om (by rw[Nat.sub_zero]; exact hob2)
      have hpq:ap (fun i=>listed.getD i false) 0 l<q:=by
       rcases Nat.lt_or_ge (ap (fun i=>listed.getD i false) 0 l) q with k | k
       ·exact k
       ·exfalso
        have e9:q=ap (fun i=>listed.getD i false) 0 l:=om
        have h9:listed.getD q false=true:=he1
        rw[e9,q2]at h9; simp at h9
      have hlp:=dw hDn hob2 q1 q2 hpq ⟨he1,oq,he2,he3⟩
      refine hal _ q i ao hlp hao hld ?_ ?_
      ·cases hb:iL ms i q with
       | false=>rfl
       | true=>
        have:=hload _ _ i ao hlp hao hld hb
        have:=hready _ (jG this) this
        rw[q2]at this; simp at this
      ·cases hb:iL ms q i with
       | false=>rfl
       | true=>
        have h9:listed.getD i false=true:=hDn q hql he1 i (jG hb) hb
        rw[hmi]at h9; simp at h9
     cases hop':ao.op <;> rw[hop']at hld <;> simp only[dc,Oc]at hld
     case load agg k x=>
      rw[hop']at hH2
      simp only[bG]at hH2 ⊢
      have htc:bQ l ss T0 i=eV (ba (fun j=>Nat.blt j (0+i)) 0 l ss T0) ao.op v:=by simp only[bQ,hao,hss]
      have hfr:am agg k Hx (ev (ba (fun j=>Nat.blt j (0+i)) 0 l ss T0) x)=am agg k (dU H0 ss (ap (fun i=>listed.getD i false) 0 l)) (ev (ba (fun j=>Nat.blt j (0+i)) 0 l ss T0) x):=
       yT fun b hb=>hH.base b fun q k1 k2 k3=>hE q k1 k2 b k3 (by rw[htc,hop']; exact jf (List.mem_singleton.2 rfl) hb)
      rw[hfr]
      obtain⟨e1,e2,e3⟩:=mM hH2
      exact e3 _
     case claim b z s=>exact absurd hop' (hno ao (N9 hao) b z s)
   have hfew:∀d,oD Prot.dead l (dr (fun i=>listed.getD i false) i) d->oD Prot.dead l (fun i=>listed.getD i false) d:=by
    rintro d (hd | ⟨i',a',x1,x2,x3⟩)
    ·exact .inl hd
    ·refine .inr ⟨i',a',x1,x2,?_⟩
     simp only[dr]at x3
     split at x3
     ·simp at x3
     ·exact x3
   have hord:(∃ax g,vq P o.op=some ax/\du n o.dst=true/\ao=⟨o.dst,ax,g⟩/\gT n ops o.guard=some g)∨(∃c,base<=c/\Mb P n ops o ao c):=by
    rcases hco with hco | hco
    ·unfold dK at hco
     split at hco
     ·rename_i ax g hopc hgc
      cases hdst:du n o.dst with
      | false=>rw[hdst]at hco; simp at hco
      | true=>
       rw[hdst]at hco
       simp only[cond_true,sJ]at hco
       exact .inl ⟨ax,g,hopc,rfl,hco.symm,hgc⟩
     ·simp at hco
    ·exact .inr hco
   rcases hord with⟨ax,g,hopc,hdst,rfl,hgc⟩ | ⟨cb,hcb,len,z,lx,g,hopc,hgc,hdst,rfl⟩
   ·simp only at hgd hop hnext hao hlink hplain hval
    unfold wpOp
    simp only[ho]
    rw[fh ht hgc,hgd]
    have hd':∀u,(a.put o.dst u).defers=ds:=fun u=>by cases hx:o.dst <;> simpa[Act.put] using hd
    cases hc:aA ax with
    | true=>
     obtain⟨Hy,H3,y1,y2,y3,y4⟩:=hlink hc
     have Ry:=R.ext_heap y1 y2
     unfold be at y3
     simp only at y3
     cases hgo:ga (ba (fun j=>Nat.blt j (0+i)) 0 l ss T0) g with
     | false=>
      rw[hgo]at y3
      simp only[cond_false,sJ,pJ]at y3
      obtain⟨rfl,rfl⟩:=y3
      simp only[Oc,if_false]
      exact hnext ρ w _ Hy (Pl.le_refl _) y4 (Ry.fewer hfew) (bH ht hdst dM) (hd' _)
     | true=>
      rw[hgo]at y3
      simp only[cond_true]at y3
      simp only[if_true]
      left
      rw[<- hop]at y3
      split at y3
      ·rename_i u H2 hu
       simp only[sJ,pJ]at y3
       obtain⟨rfl,rfl⟩:=y3
       obtain⟨ρ1,w1,nx,q1,q2,q3,q4⟩:=iF htb Ry ht o hopc hu
       simp only[Oper.wp,q2]
       cases nx <;> simp only[jm]at q4
       case value u=>exact hnext ρ1 w1 _ _ q1 y4 (q3.fewer hfew) (bH (ht.mono q1) hdst q4) (hd' _)
       case skip=>exact hnext ρ1 w1 _ _ q1 y4 (q3.fewer hfew) (bH (ht.mono q1) hdst q4) (hd' _)
      ·rename_i f args H2 hu
       obtain⟨ρ1,w1,nx,q1,q2,q3,q4⟩:=iF htb Ry ht o hopc hu
       simp only[Oper.wp,q2]
       cases nx <;> simp only[jm]at q4
       case enter gf vs=>
        obtain⟨rfl,hbig,q5⟩:=q4
        simp only[Oper.upon]
        refine (hcall _ _ _ _ _ hbig y3 ⟨Prot.prot,oD Prot.dead l fun i=>listed.getD i false⟩ w0 ρ1 w1 vs q3 q5).mono fun e w' hr=>?_
        obtain⟨ρ2,u,r1,rfl,r3,r4⟩:=hr
        exact hnext ρ2 w' _ _ (Pl.le_trans q1 r1) y4 (r3.fewer hfew) (bH ((ht.mono q1).mono r1) hdst r4) (hd' _)
      ·simp at y3
    | false=>
     have y4:=hplain hc
     cases hgo:ga (ba (fun j=>Nat.blt j (0+i)) 0 l ss T0) g with
     | false=>
      unfold be at hstep
      simp only at hstep
      rw[hgo]at hstep
      simp only[cond_false,sJ,pJ]at hstep
      obtain⟨rfl,rfl⟩:=hstep
      simp only[Oc,if_false]
      exact hnext ρ w _ Hx (Pl.le_refl _) y4 (R.fewer hfew) (bH ht hdst dM) (hd' _)
     | true=>
      simp only[if_true]
      left
      have hH2:=hval hc hgo
      rw[<- hop]at hH2
      obtain⟨ρ1,w1,nx,q1,q2,q3,q4⟩:=iF htb R ht o hopc hH2
      simp only[Oper.wp,q2]
      cases nx <;> simp only[jm]at q4
      case value u=>exact hnext ρ1 w1 _ Hx q1 y4 (q3.fewer hfew) (bH (ht.mono q1) hdst q4) (hd' _)
      case skip=>exact hnext ρ1 w1 _ Hx q1 y4 (q3.fewer hfew) (bH (ht.mono q1) hdst q4) (hd' _)
   ·-- a row,in a block that was laid kD
    simp only at hgd hop hnext hao hlink
    unfold wpOp
    simp only[ho]
    rw[fh ht hgc,hgd]
    have hd':∀u,(a.put o.dst u).defers=ds:=fun u=>by cases hx:o.dst <;> simpa[Act.put] using hd
    obtain⟨Hy,H3,y1,y2,y3,y4⟩:=hlink rfl
    have Ry:=R.ext_heap y1 y2
    unfold be at y3
    simp only at y3
    cases hgo:ga (ba (fun j=>Nat.blt j (0+i)) 0 l ss T0) g with
    | false=>
     rw[hgo]at y3
     simp only[cond_false,sJ,pJ]at y3
     obtain⟨rfl,rfl⟩:=y3
     simp only[Oc,if_false]
     exact hnext ρ w _ Hy (Pl.le_refl _) y4 (Ry.fewer hfew) (bH ht hdst dM) (hd' _)
    | true=>
     rw[hgo]at y3
     simp only[cond_true]at y3
     simp only[if_true]
     left
     rw[<- hop]at y3
     simp only[bG,BW]at y3
     cases hf:go cb len z (wE lx) Hy (fo (ba (fun i=>listed.getD i false) 0 l ss T0) (wu lx)) with
     | none=>rw[hf]at y3; simp[vh]at y3
     | some q=>
      obtain⟨u0,H4⟩:=q
      rw[hf]at y3
      simp only[vh,sJ,pJ]at y3
      obtain⟨rfl,rfl⟩:=y3
      obtain⟨ρ1,w1,u,q1,hrun,q3,q4⟩:=FC Ry ht hopc (.inr ⟨i,_,hao,rfl,hmi⟩) hf
      simp only[Oper.wp,hrun]
      refine hnext ρ1 w1 _ _ q1 y4 (q3.fewer ?_) (bH (ht.mono q1) hdst q4) (hd' _)
      intro d hd0
      refine⟨hfew d hd0,?_⟩
      rintro rfl
      rcases hd0 with hd0 | ⟨i',a',x1,x2,x3⟩
      ·have:=hbase _ hd0; omega
      ·have:=hdis i' i a' _ _ x1 hao x2 rfl
       subst this
       simp[dr]at x3
end
end Go.Abs
