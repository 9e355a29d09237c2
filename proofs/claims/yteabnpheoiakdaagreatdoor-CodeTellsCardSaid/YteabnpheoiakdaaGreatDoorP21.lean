/- Part of a proof (F5 F6 YAF); no condition. -/
import Derived.Test.YteabnpheoiakdaaGreatDoorP9
import Derived.Test.YteabnpheoiakdaaGreatDoorP18
import Derived.Test.YteabnpheoiakdaaGreatDoorP20
set_option linter.unusedSimpArgs false
set_option linter.unusedVariables false
set_option linter.unnecessarySimpa false
namespace Go.Abs.F
open Go.Abs
noncomputable section
def opC(o:FOp)(s:SV)(k:K):K:=fun e F h kn ks=>o e F h fun v h=>s v F fun F=>k e F h kn ks
def op0(o:FOp)(k:K):K:=fun e F h kn ks=>o e F h fun _ h=>k e F h kn ks
def sNo:SV:=fun _ _ _=>.no
def fS:Nat→SV:=fun d=>bif Nat.ble (Nat.succ d) (nat_lit 256) then sN d else sNo
def xGt(g:GV)(o:FOp):FOp:=fun e F h k=>g F fun x=>ifb (gdT x) (o e F h k) (k undefA h)
def xGf(g:GV)(o:FOp):FOp:=fun e F h k=>g F fun x=>ifb (gdF x) (o e F h k) (k undefA h)
def xGp(g:GV)(o:FOp):FOp:=fun e F h k=>g F fun x=>ifb (isPan x) (k undefA h) (o e F h k)
def fEnd:K:=fun _ F h kn _=>kn F h
def mapO(ρ:Opd→Opd):Option Opd→Option Opd
 | none=>none
 | some x=>some (ρ x)
def mapP(ρ:Opd→Opd):List (Nat×Nat×Opd)→List (Nat×Nat×Opd)
 | []=>[]
 | (o,n,x)::r=>(o,n,ρ x)::mapP ρ r
def mapOp(ρ:Opd→Opd):AOp→AOp
 | .mv x=>.mv (ρ x)
 | .pick c a b=>.pick (ρ c) (ρ a) (ρ b)
 | .new z=>.new z
 | .box x=>.box (ρ x)
 | .build z ps=>.build z (mapP ρ ps)
 | .buildSl n z ps=>.buildSl n z (mapP ρ ps)
 | .load a n x=>.load a n (ρ x)
 | .store n a x=>.store n (ρ a) (ρ x)
 | .nilChk x=>.nilChk (ρ x)
 | .bin op x y=>.bin op (ρ x) (ρ y)
 | .un op x=>.un op (ρ x)
 | .conv k x=>.conv k (ρ x)
 | .convSB x=>.convSB (ρ x)
 | .convBS x=>.convBS (ρ x)
 | .mkFunc fn a b=>.mkFunc fn (a.map ρ) (b.map ρ)
 | .mkIface t x=>.mkIface t (ρ x)
 | .mkSlice b z l c=>.mkSlice b z (ρ l) (ρ c)
 | .sl n x a b c=>.sl n (ρ x) (mapO ρ a) (mapO ρ b) (mapO ρ c)
 | .slStr x a b=>.slStr (ρ x) (mapO ρ a) (mapO ρ b)
 | .fieldA o x=>.fieldA o (ρ x)
 | .field a n o x=>.field a n o (ρ x)
 | .idxA n x i=>.idxA n (ρ x) (ρ i)
 | .idxArr m n x i=>.idxArr m n (ρ x) (ρ i)
 | .idx m n a x i=>.idx m n a (ρ x) (ρ i)
 | .idxS x i=>.idxS (ρ x) (ρ i)
 | .extract i x=>.extract i (ρ x)
 | .append n b s x=>.append n b (ρ s) (ρ x)
 | .len s x=>.len s (ρ x)
 | .call f l=>.call f (l.map ρ)
 | .callv f l=>.callv (ρ f) (l.map ρ)
 | .pf f l=>.pf f (l.map ρ)
 | .hf f l=>.hf f (l.map ρ)
 | .bad=>.bad
 | .claim b z s=>.claim b z s
 | .slA m n x a b c=>.slA m n (ρ x) (mapO ρ a) (mapO ρ b) (mapO ρ c)
section
variable {tb:FuncId→Bool} {call:FuncId→List AVal→AHeap→Option (AVal×AHeap)} {D:Nat→Bool}
theorem evs_map{ρ:Opd→Opd}{T:Tr AVal}(h:∀x,ev T (ρ x)=ev T x):∀l:List Opd,evs T (l.map ρ)=evs T l
 | []=>rfl
 | x::l=>by simp only[List.map_cons,evs,h,evs_map h l]
theorem evO_map{ρ:Opd→Opd}{T:Tr AVal}(h:∀x,ev T (ρ x)=ev T x)(x:Option Opd):evO T (mapO ρ x)=evO T x:=by
 cases x <;> simp only[mapO,evO,h]
theorem evP_map{ρ:Opd→Opd}{T:Tr AVal}(h:∀x,ev T (ρ x)=ev T x):∀l:List (Nat×Nat×Opd),evP T (mapP ρ l)=evP T l
 | []=>rfl
 | (o,n,x)::l=>by simp only[mapP,evP,h,evP_map h l]
theorem aop_map{ρ:Opd→Opd}{T:Tr AVal}(h:∀x,ev T (ρ x)=ev T x)(H:AHeap)(o:AOp):aop tb T H (mapOp ρ o)=aop tb T H o:=by
 cases o <;> simp only[mapOp,aop,h,evs_map h,evO_map h,evP_map h]
structure Al where
 s:Nat
 x:Opd
 g:Option (Nat×Bool)
def geq:Option (Nat×Bool)→Option (Nat×Bool)→Bool
 | some (a,b),some (c,d)=>Nat.beq a c&&(bif b then d else !d)
 | _,_=>false
def alFits(a:Al)(g:Option (Nat×Bool)):Bool:=match a.g with
 | none=>true
 | some _=>geq a.g g
def findA(σ:List Al)(g:Option (Nat×Bool))(i:Nat):Opd:=match σ with
 | []=>.t i
 | a::r=>bif Nat.beq a.s i&&alFits a g then a.x else findA r g i
def resA(σ:List Al)(g:Option (Nat×Bool)):Opd→Opd
 | .t i=>findA σ g i
 | x=>x
def AlOK(σ:List Al)(T:Tr AVal):Prop:=∀a∈σ,gOK T a.g=true→ev T (.t a.s)=ev T a.x
theorem geq_ok{a b:Option (Nat×Bool)}(h:geq a b=true):a=b:=by
 match a,b,h with
 | some (a,b),some (c,d),h=>
  simp only[geq,Bool.and_eq_true]at h
  have e:=Nat.eq_of_beq_eq_true h.1
  have:b=d:=by cases b <;> cases d <;> simp at h <;> rfl
  rw[e,this]
theorem findA_ok{σ:List Al}{T:Tr AVal}(hA:AlOK σ T){g:Option (Nat×Bool)}(hg:gOK T g=true)(i:Nat):ev T (findA σ g i)=ev T (.t i):=by
 induction σ with
 | nil=>rfl
 | cons a r ih=>
  simp only[findA]
  cases hb:Nat.beq a.s i&&alFits a g with
  | false=>exact ih fun a ha=>hA a (by simp[ha])
  | true=>
   simp only[Bool.and_eq_true]at hb
   have e:=Nat.eq_of_beq_eq_true hb.1
   have hga:gOK T a.g=true:=by
    cases hg':a.g with
    | none=>rfl
    | some q=>
     have:=hb.2
     simp only[alFits,hg']at this
     rw[geq_ok this]; exact hg
   rw[← e]
   exact (hA a (by simp) hga).symm
theorem resA_ok{σ:List Al}{T:Tr AVal}(hA:AlOK σ T){g:Option (Nat×Bool)}(hg:gOK T g=true)(x:Opd):ev T (resA σ g x)=ev T x:=by
 cases x with
 | t i=>exact findA_ok hA hg i
 | c v=>rfl
 | f i=>rfl
def isT(d:Nat):Opd→Bool
 | .t i=>Nat.beq i d
 | _=>false
def gT(d:Nat):Option (Nat×Bool)→Bool
 | some (t,_)=>Nat.beq (gS t) d
 | none=>false
def killA(d:Option Nat)(σ:List Al):List Al:=match d with
 | none=>σ
 | some d=>σ.filter fun a=>!(Nat.beq a.s d||(isT d a.x||gT d a.g))
theorem ev_other{T:Tr AVal}{d:Nat}{v:AVal}{x:Opd}(h:isT d x=false):ev (T.set d v) x=ev T x:=by
 cases x with
 | t i=>
  simp only[isT,beq_dec,decide_eq_false_iff_not]at h
  simp only[ev,Tr.get_set,if_neg h]
 | c v=>rfl
 | f i=>rfl
theorem gOK_other{T:Tr AVal}{d:Nat}{v:AVal}{g:Option (Nat×Bool)}(h:gT d g=false):gOK (T.set d v) g=gOK T g:=by
 cases g with
 | none=>rfl
 | some p=>
  obtain⟨t,b⟩:=p
  simp only[gOK]
  rw[ev_other (x:=.t (gS t)) h]
theorem killA_ok{σ:List Al}{T:Tr AVal}(hA:AlOK σ T)(d:Option Nat)(v:AVal):AlOK (killA d σ) (aput T d v):=by
 cases d with
 | none=>exact hA
 | some d=>
  intro a ha hg
  simp only[killA,List.mem_filter,Bool.not_eq_true',Bool.or_eq_false_iff]at ha
  obtain⟨hm,h1,h2,h3⟩:=ha
  simp only[aput]at hg ⊢
  rw[gOK_other h3]at hg
  rw[ev_other h2,ev_other (x:=.t a.s) h1]
  exact hA a hm hg
def resG(σ:List Al):Option (Nat×Bool)→Option (Nat×Bool)
 | none=>none
 | some (t,b)=>bif Nat.ble SK t then some (t,b) else match findA σ none t with
  | .t j=>bif Nat.ble SK j then some (t,b) else some (j,b)
  | _=>some (t,b)
theorem gS_no{t:Nat}(h:Nat.ble SK t=false):gS t=t:=by unfold gS; rw[h]; rfl
theorem gOK_sk(T:Tr AVal)(t:Nat)(b:Bool)(h:Nat.ble SK t=true):gOK T (some (t,b))=!isPan (ev T (.t (gS t))):=by
 simp only[gOK,gV,h,cond_true]
theorem gOK_ev(T:Tr AVal)(t:Nat)(b:Bool)(h:Nat.ble SK t=false):gOK T (some (t,b))=bif b then gdT (ev T (.t t)) else gdF (ev T (.t t)):=by
 simp only[gOK,gV,h,cond_false,gS_no h,gVb]
 cases hx:ev T (.t t) <;> cases b <;> simp only[gdT,gdF,nt_eq,cond_true,cond_false]
theorem resG_ok{σ:List Al}{T:Tr AVal}(hA:AlOK σ T)(g:Option (Nat×Bool)):gOK T (resG σ g)=gOK T g:=by
 cases g with
 | none=>rfl
 | some p=>
  obtain⟨t,b⟩:=p
  have:=findA_ok hA (g:=none) rfl t
  simp only[resG]
  cases hk:Nat.ble SK t with
  | true=>rfl
  | false=>
   simp only[cond_false]
   split
   ·rename_i j hj
    rw[hj]at this
    cases hj2:Nat.ble SK j with
    | true=>rfl
    | false=>simp only[cond_false]; rw[gOK_ev _ _ _ hj2,gOK_ev _ _ _ hk,this]
   ·rfl
def fOper(D:Nat→Bool)(op:AOp)(g:Option (Nat×Bool)):FOp:=match g with
 | none=>fOp D op
 | some (t,b)=>bif Nat.ble SK t then xGp (fX D (.t (gS t))) (fOp D op) else bif b then xGt (fX D (.t t)) (fOp D op) else xGf (fX D (.t t)) (fOp D op)
def fStp(D:Nat→Bool)(σ:List Al)(o:AOper):FOp:=fOper D (mapOp (resA σ o.guard) o.op) (resG σ o.guard)
def addA(d:Nat)(y:Opd)(g:Option (Nat×Bool))(σ:List Al):List Al:=match g with
 | none=>⟨d,y,none⟩::σ
 | some (t,b)=>bif Nat.beq (gS t) d then σ else ⟨d,y,some (t,b)⟩::σ
def nextA(D:Nat→Bool)(σ:List Al)(o:AOper):List Al:=match o.op,o.dst with
 | .mv x,some d=>bif !D d||isT d (resA σ o.guard x) then killA (some d) σ else addA d (resA σ o.guard x) o.guard (killA (some d) σ)
 | _,d=>killA d σ
def isMv:AOp→Bool
 | .mv _=>true
 | _=>false
def fOpsA(D:Nat→Bool):List AOper→List Al→K
 | [],_=>fEnd
 | o::r,σ=>match o.dst with
  | none=>op0 (fStp D σ o) (fOpsA D r (nextA D σ o))
  | some d=>bif D d then (bif isMv o.op then fOpsA D r (nextA D σ o) else op0 (fStp D σ o) (fOpsA D r (nextA D σ o))) else opC (fStp D σ o) (fS d) (fOpsA D r (nextA D σ o))
structure RO where
 op:AOp
 g:Option (Nat×Bool)
 d:Option Nat
def skips(D:Nat→Bool)(o:AOper):Bool:=match o.dst with
 | some d=>D d&&isMv o.op
 | none=>false
def keepD(D:Nat→Bool):Option Nat→Option Nat
 | some d=>bif D d then none else some d
 | none=>none
def resL(D:Nat→Bool):List AOper→List Al→List RO
 | [],_=>[]
 | o::r,σ=>bif skips D o then resL D r (nextA D σ o) else ⟨mapOp (resA σ o.guard) o.op,resG σ o.guard,keepD D o.dst⟩::resL D r (nextA D σ o)
def fOps2(D:Nat→Bool):List RO→K
 | []=>fEnd
 | x::r=>match x.d with
  | none=>op0 (fOper D x.op x.g) (fOps2 D r)
  | some d=>opC (fOper D x.op x.g) (fS d) (fOps2 D r)
theorem fOps2_eq(D:Nat→Bool):∀(l:List AOper) (σ:List Al),fOps2 D (resL D l σ)=fOpsA D l σ
 | [],_=>rfl
 | o::r,σ=>by
  have ih:=fOps2_eq D r (nextA D σ o)
  simp only[resL,fOpsA,skips]
  cases hd:o.dst with
  | none=>simp only[cond_false,fOps2,keepD,ih,fStp]
  | some d=>
   simp only
   cases hD:D d with
   | true=>
    cases hm:isMv o.op with
    | true=>simp only[Bool.and_self,cond_true,ih]
    | false=>simp only[Bool.and_false,cond_false,cond_true,fOps2,keepD,hD,ih,fStp]
   | false=>simp only[Bool.false_and,cond_false,fOps2,keepD,hD,ih,fStp]
def fOps(D:Nat→Bool)(l:List AOper):K:=fOps2 D (resL D l [])
theorem fS_way{d:Nat}(hD:D d=false∨True)(v:AVal){F:Fr}{T:Tr AVal}(Q:FRel D F T):(∀k,fS d v F k=.no)∨∃F',(∀k,fS d v F k=k F')∧FRel D F' (T.set d v):=by
 simp only[fS]
 cases h:Nat.ble (Nat.succ d) 256 with
 | false=>exact .inl fun k=>rfl
 | true=>exact .inr ⟨F.set d v,fun k=>by rw[sN_eq d (Nat.le_of_ble_eq_true h)]; exact st_eq d v F k,Q.set (Nat.le_of_ble_eq_true h) v⟩
theorem FRel.skip{F:Fr}{T:Tr AVal}(Q:FRel D F T){d:Nat}(hD:D d=true)(v:AVal):FRel D F (T.set d v):=by
 intro i hi hDi
 have hne:¬i=d:=fun e=>by subst e; rw[hD]at hDi; simp at hDi
 rw[Q i hi hDi]
 simp only[ev,Tr.get_set,if_neg hne]
theorem astep_val{o:AOper}{T:Tr AVal}{H:AHeap}(hg:gOK T o.guard=true):astep tb call o T H=aval tb call T H o.op:=by
 simp only[astep,hg,cond_true,aval]
 cases aop tb T H o.op with
 | none=>rfl
 | some p=>obtain⟨nx,H'⟩:=p; cases nx <;> rfl
theorem fOper_way{e:E}{n:Nat}{F:Fr}{h:FHeap}{T:Tr AVal}{H:AHeap}(S:ESim tb call e n)(Q:FRel D F T)(QH:HRel h H)(op:AOp)(g:Option (Nat×Bool)) :
  (∀k,fOper D op g e F h k=.no)∨(gOK T g=false∧∀k,fOper D op g e F h k=k undefA h)∨(gOK T g=true∧∃v h' H',aval tb call T H op=some (v,H')∧HRel h' H'∧∀k,fOper D op g e F h k=k v h'):=by
 cases g with
 | none=>
  rcases fOp_ok op S Q QH with p | p
  ·exact .inl p
  ·exact .inr (.inr ⟨rfl,p⟩)
 | some g=>
  obtain⟨t,b⟩:=g
  have hno:(∀k,fOper D op (some (t,b)) e F h k=.no)∨∀k,fOper D op (some (t,b)) e F h k=bif gOK T (some (t,b)) then fOp D op e F h k else k undefA h:=by
   simp only[fOper]
   cases hsk:Nat.ble SK t with
   | true=>
    simp only[cond_true]
    rcases fX_ok (.t (gS t)) F T Q with q | q
    ·exact .inl fun k=>q _
    ·right
     intro k
     rw[gOK_sk _ _ _ hsk]
     refine (q _).trans ?_
     rw[ifb_eq]
     cases isPan (ev T (.t (gS t))) <;> rfl
   | false=>
    simp only[cond_false]
    rcases fX_ok (.t t) F T Q with q | q
    ·cases b with
     | true=>exact .inl fun k=>q _
     | false=>exact .inl fun k=>q _
    ·right
     intro k
     rw[gOK_ev _ _ _ hsk,← ifb_eq]
     cases b with
     | true=>exact q _
     | false=>exact q _
  rcases hno with q | hu
  ·exact .inl q
  ·cases hgk:gOK T (some (t,b)) with
   | true=>
    rw[hgk]at hu
    rcases fOp_ok op S Q QH with p | ⟨x,h',H',p1,p2,p3⟩
    ·exact .inl fun k=>(hu k).trans (p k)
    ·exact .inr (.inr ⟨rfl,x,h',H',p1,p2,fun k=>(hu k).trans (p3 k)⟩)
   | false=>
    rw[hgk]at hu
    exact .inr (.inl ⟨rfl,hu⟩)
theorem fStp_way{e:E}{n:Nat}{F:Fr}{h:FHeap}{T:Tr AVal}{H:AHeap}(S:ESim tb call e n)(Q:FRel D F T)(QH:HRel h H){σ:List Al}(hA:AlOK σ T)(o:AOper) :
  (∀k,fStp D σ o e F h k=.no)∨∃v h' H',astep tb call o T H=some (v,H')∧HRel h' H'∧∀k,fStp D σ o e F h k=k v h':=by
 rcases fOper_way S Q QH (mapOp (resA σ o.guard) o.op) (resG σ o.guard) with p | ⟨p0,p⟩ | ⟨p0,v,h',H',p1,p2,p3⟩
 ·exact .inl p
 ·rw[resG_ok hA]at p0
  exact .inr ⟨undefA,h,H,by simp only[astep,p0,cond_false],QH,p⟩
 ·rw[resG_ok hA]at p0
  refine .inr ⟨v,h',H',?_,p2,p3⟩
  rw[astep_val p0]
  simp only[aval]at p1 ⊢
  rwa [aop_map (resA_ok hA p0)]at p1
theorem nextA_ok{D:Nat→Bool}{σ:List Al}{T:Tr AVal}{H H':AHeap}{v:AVal}(hA:AlOK σ T){o:AOper}(h:astep tb call o T H=some (v,H')):AlOK (nextA D σ o) (aput T o.dst v):=by
 have hk:=killA_ok hA o.dst v
 obtain⟨d,op,g⟩:=o
 simp only at hk
 unfold nextA
 split
 ·rename_i x d hop hd
  simp only at hop hd
  subst hop hd
  simp only
  have key:∀y:Opd,resA σ g x=y→isT d y=false→gT d g=false→AlOK (⟨d,y,g⟩::killA (some d) σ) (aput T (some d) v):=by
   intro y hy hyd hgd a ha hga
   simp only[List.mem_cons]at ha
   rcases ha with rfl | ha
   ·simp only[aput]at hga ⊢
    rw[gOK_other hgd]at hga
    rw[ev_other hyd,← hy,resA_ok hA hga]
    simp only[ev,Tr.get_set,if_pos]
    simp only[astep,hga,cond_true,aop,sJ,pJ]at h
    exact h.1.symm
   ·exact hk a ha hga
  cases hyd0:!D d||isT d (resA σ g x) with
  | true=>exact hk
  | false=>
   have hyd:isT d (resA σ g x)=false:=by simp only[Bool.or_eq_false_iff]at hyd0; exact hyd0.2
   simp only[cond_false]
   cases g with
   | none=>exact key _ rfl hyd rfl
   | some p=>
    obtain⟨t,b⟩:=p
    simp only[addA]
    cases hb2:Nat.beq (gS t) d with
    | true=>exact hk
    | false=>exact key _ rfl hyd hb2
 ·exact hk
theorem aregs_step(o:AOper)(r:List AOper)(T:Tr AVal)(H:AHeap):aregs tb call (o::r) T H=match astep tb call o T H with
  | some (v,H')=>aregs tb call r (aput T o.dst v) H'
  | none=>none:=by
 simp only[aregs,astep]
 cases gOK T o.guard with
 | false=>rfl
 | true=>
  simp only[cond_true]
  cases aop tb T H o.op with
  | none=>rfl
  | some p=>obtain⟨nx,H'⟩:=p; cases nx <;> rfl
def RegWay(k:K)(e:E)(F:Fr)(h:FHeap)(D:Nat→Bool)(a:Option (Tr AVal×AHeap)):Prop:=
 (∀kn ks,k e F h kn ks=.no)∨∃F' h' T' H',a=some (T',H')∧FRel D F' T'∧HRel h' H'∧∀kn ks,k e F h kn ks=kn F' h'
theorem fOpsA_ok{e:E}{n:Nat}(S:ESim tb call e n):∀(l:List AOper) (σ:List Al) {F:Fr} {h:FHeap} {T:Tr AVal} {H:AHeap},FRel D F T→HRel h H→AlOK σ T→RegWay (fOpsA D l σ) e F h D (aregs tb call l T H)
 | [],σ,F,h,T,H,Q,QH,_=>.inr ⟨F,h,T,H,rfl,Q,QH,fun kn ks=>rfl⟩
 | o::r,σ,F,h,T,H,Q,QH,hA=>by
  rw[aregs_step]
  have w:=fStp_way S Q QH hA o
  have go0:∀{v h' H'},astep tb call o T H=some (v,H')→HRel h' H'→(∀k,fStp D σ o e F h k=k v h')→FRel D F (aput T o.dst v)→RegWay (op0 (fStp D σ o) (fOpsA D r (nextA D σ o))) e F h D (match astep tb call o T H with | some (v,H')=>aregs tb call r (aput T o.dst v) H' | none=>none):=by
   intro v h' H' p1 p2 p3 Q'
   have hu:∀kn ks,op0 (fStp D σ o) (fOpsA D r (nextA D σ o)) e F h kn ks=fOpsA D r (nextA D σ o) e F h' kn ks:=fun kn ks=>p3 _
   rw[p1]
   rcases fOpsA_ok S r (nextA D σ o) Q' p2 (nextA_ok hA p1) with q | ⟨F2,h2,T2,H2,q1,q2,q3,q4⟩
   ·exact .inl fun kn ks=>(hu _ _).trans (q _ _)
   ·exact .inr ⟨F2,h2,T2,H2,q1,q2,q3,fun kn ks=>(hu _ _).trans (q4 _ _)⟩
  simp only[fOpsA]
  cases hd:o.dst with
  | none=>
   simp only
   rcases w with p | ⟨v,h',H',p1,p2,p3⟩
   ·exact .inl fun kn ks=>p _
   ·have:=go0 p1 p2 p3 (by rw[hd]; exact Q)
    rwa [hd]at this
  | some d=>
   simp only
   cases hD:D d with
   | true=>
    simp only[cond_true]
    cases hm:isMv o.op with
    | true=>
     simp only[cond_true]
     have hs:∃v,astep tb call o T H=some (v,H):=by
      cases hop:o.op <;> rw[hop]at hm <;> simp only[isMv,Bool.false_eq_true]at hm
      simp only[astep,hop,aop]
      cases gOK T o.guard <;> exact⟨_,rfl⟩
     obtain⟨v,hs⟩:=hs
     rw[hs]
     have ha:=nextA_ok (D:=D) hA hs
     rw[hd]at ha
     exact fOpsA_ok S r (nextA D σ o) (Q.skip hD v) QH ha
    | false=>
     simp only[cond_false]
     rcases w with p | ⟨v,h',H',p1,p2,p3⟩
     ·exact .inl fun kn ks=>p _
     ·have:=go0 p1 p2 p3 (by rw[hd]; exact Q.skip hD v)
      rwa [hd]at this
   | false=>
    simp only[cond_false]
    rcases w with p | ⟨v,h',H',p1,p2,p3⟩
    ·exact .inl fun kn ks=>p _
    ·rcases fS_way (d:=d) (.inr trivial) v Q with z | ⟨F',z1,z2⟩
     ·exact .inl fun kn ks=>(p3 _).trans (z _)
     ·have hu:∀kn ks,opC (fStp D σ o) (fS d) (fOpsA D r (nextA D σ o)) e F h kn ks=fOpsA D r (nextA D σ o) e F' h' kn ks:=fun kn ks=>(p3 _).trans (z1 _)
      rw[p1]
      have ha:=nextA_ok (D:=D) hA p1
      rw[hd]at ha
      rcases fOpsA_ok S r (nextA D σ o) z2 p2 ha with q | ⟨F2,h2,T2,H2,q1,q2,q3,q4⟩
      ·exact .inl fun kn ks=>(hu _ _).trans (q _ _)
      ·exact .inr ⟨F2,h2,T2,H2,q1,q2,q3,fun kn ks=>(hu _ _).trans (q4 _ _)⟩
theorem fOps_ok{e:E}{n:Nat}(S:ESim tb call e n)(l:List AOper){F:Fr}{h:FHeap}{T:Tr AVal}{H:AHeap}(Q:FRel D F T)(QH:HRel h H):RegWay (fOps D l) e F h D (aregs tb call l T H):=
 by rw[fOps,fOps2_eq]; exact fOpsA_ok S l [] Q QH fun a ha=>by simp at ha
def allNil:List (List Nat)→Bool
 | []=>true
 | []::r=>allNil r
 | _::_=>false
theorem chk_nil{hs:List AHeap}:∀(l:List AOper) (ps:List (List Nat)) (ss:List (AVal×AHeap)) (T:Tr AVal),allNil ps=true→chkRun tb hs l ps ss T=true:=by
 intro l
 induction l with
 | nil=>intro ps ss T _; rfl
 | cons o r ih=>
  intro ps ss T h
  cases ps with
  | nil=>rfl
  | cons p ps=>
   cases p with
   | nil=>
    cases ss with
    | nil=>rfl
    | cons s ss=>obtain⟨v,H⟩:=s; simp only[chkRun,List.all_nil,Bool.true_and]; exact ih _ _ _ h
   | cons q p=>simp[allNil]at h
theorem aregs_trace:∀(l:List AOper) (T:Tr AVal) (H:AHeap) (k:Nat),aregs tb call l T H=match atrace tb call l T H with
  | some ss=>some (tsel (fun _=>true) k l ss T,hAt H ss l.length)
  | none=>none:=by
 intro l
 induction l with
 | nil=>intro T H k; rfl
 | cons o r ih=>
  intro T H k
  rw[aregs_step]
  simp only[atrace]
  cases astep tb call o T H with
  | none=>rfl
  | some p=>
   obtain⟨v,H'⟩:=p
   simp only
   rw[ih _ _ (k+1)]
   cases ht:atrace tb call r (aput T o.dst v) H' with
   | none=>rfl
   | some ss=>
    have hl:=(trace_at r _ H' ss 0 ht).1
    have:hAt H' ss r.length=hAt H ((v,H')::ss) (o::r).length:=by
     simp only[List.length_cons]
     cases hr:r.length with
     | zero=>rfl
     | succ q=>
      simp only[hAt,List.getElem?_cons_succ]
      rw[List.getElem?_eq_getElem om]
    simp only[tsel,cond_true,this]
structure FStep where
 o:FOp
 d:Option SV
 ps:Option (List Nat)
def dS(D:Nat→Bool):Option Nat→Option SV
 | none=>none
 | some d=>bif D d then none else some (fS d)
def stepPs(o:AOper)(p:List Nat):Option (List Nat):=bif isLoad o.op then some p else match p with | []=>some [] | _=>none
def fStepO(D:Nat→Bool)(o:AOper):FOp:=fOper D o.op o.guard
def fSteps(D:Nat→Bool):List AOper→List (List Nat)→List FStep
 | [],_=>[]
 | o::r,[]=>⟨fStepO D o,dS D o.dst,some []⟩::fSteps D r []
 | o::r,p::ps=>⟨fStepO D o,dS D o.dst,stepPs o p⟩::fSteps D r ps
structure FT where
 F:Fr
 v:AVal
 h:FHeap
def dP(d:Option SV)(v:AVal)(F:Fr)(k:Fr→R):R:=match d with
 | none=>k F
 | some s=>s v F k
def fTr(e:E):List FStep→Fr→FHeap→(List FT→Fr→FHeap→R)→R:=@List.rec FStep (fun _=>Fr→FHeap→(List FT→Fr→FHeap→R)→R) (fun F h c=>c [] F h)
 (fun st _ ih F h c=>@FStep.rec (fun _=>R) (fun o s _=>o e F h fun v h'=>dP s v F fun F'=>ih F' h' fun ss F2 h2=>c (⟨F,v,h'⟩::ss) F2 h2) st)
def fPs(e:E)(hs:List FHeap)(o:FOp)(F:Fr)(v:AVal)(y:R):List Nat→R
 | []=>y
 | p::r=>match hs[p]? with
  | some hp=>o e F hp fun u _=>bif aeq u v then fPs e hs o F v y r else .no
  | none=>.no
def fChk(e:E)(hs:List FHeap)(y:R):List FStep→List FT→R
 | st::r,t::ts=>match st.ps with
  | some ps=>fPs e hs st.o t.F t.v (fChk e hs y r ts) ps
  | none=>.no
 | _,_=>y
def hsOf(h:FHeap)(ts:List FT):List FHeap:=h::ts.map (·.h)
def cTr(l:List FStep):K:=fun e F h kn _=>fTr e l F h fun ts F2 h2=>fChk e (hsOf h ts) (kn F2 h2) l ts
def TRel(D:Nat→Bool):List AOper→List FT→List (AVal×AHeap)→Tr AVal→Prop
 | [],ts,ss,_=>ts=[]∧ss=[]
 | o::r,ts,ss,T=>∃t ts' s ss',ts=t::ts'∧ss=s::ss'∧FRel D t.F T∧s.1=t.v∧HRel t.h s.2∧TRel D r ts' ss' (aput T o.dst t.v)
theorem dS_way(d:Option Nat)(v:AVal){F:Fr}{T:Tr AVal}(Q:FRel D F T):(∀k,dP (dS D d) v F k=.no)∨∃F',(∀k,dP (dS D d) v F k=k F')∧FRel D F' (aput T d v):=by
 cases d with
 | none=>exact .inr ⟨F,fun k=>rfl,Q⟩
 | some d=>
  simp only[dS]
  cases hD:D d with
  | true=>exact .inr ⟨F,fun k=>rfl,Q.skip hD v⟩
  | false=>exact fS_way (.inr trivial) v Q
theorem fStepO_way{e:E}{n:Nat}{F:Fr}{h:FHeap}{T:Tr AVal}{H:AHeap}(S:ESim tb call e n)(Q:FRel D F T)(QH:HRel h H)(o:AOper) :
  (∀k,fStepO D o e F h k=.no)∨∃v h' H',astep tb call o T H=some (v,H')∧HRel h' H'∧∀k,fStepO D o e F h k=k v h':=by
 rcases fOper_way S Q QH o.op o.guard with p | ⟨p0,p⟩ | ⟨p0,v,h',H',p1,p2,p3⟩
 ·exact .inl p
 ·exact .inr ⟨undefA,h,H,by simp only[astep,p0,cond_false],QH,p⟩
 ·exact .inr ⟨v,h',H',by rw[astep_val p0]; exact p1,p2,p3⟩
theorem fTr_way{e:E}{n:Nat}(S:ESim tb call e n):∀(l:List AOper) (ps:List (List Nat)) {F:Fr} {h:FHeap} {T:Tr AVal} {H:AHeap},FRel D F T→HRel h H →
  (∀c,fTr e (fSteps D l ps) F h c=.no)∨∃ts ss F2 h2,atrace tb call l T H=some ss∧TRel D l ts ss T∧(∀c,fTr e (fSteps D l ps) F h c=c ts F2 h2)∧∀k,FRel D F2 (tsel (fun _=>true) k l ss T)∧HRel h2 (hAt H ss l.length)
 | [],ps,F,h,T,H,Q,QH=>.inr ⟨[],[],F,h,rfl,⟨rfl,rfl⟩,fun c=>by cases ps <;> rfl,fun k=>⟨Q,QH⟩⟩
 | o::r,ps,F,h,T,H,Q,QH=>by
  have hu:∃(p:Option (List Nat)) (ps':List (List Nat)),∀c,fTr e (fSteps D (o::r) ps) F h c=fStepO D o e F h fun v h'=>dP (dS D o.dst) v F fun F'=>fTr e (fSteps D r ps') F' h' fun ss F2 h2=>c (⟨F,v,h'⟩::ss) F2 h2:=by
   cases ps with
   | nil=>exact⟨some [],[],fun c=>rfl⟩
   | cons p ps=>exact⟨stepPs o p,ps,fun c=>rfl⟩
  obtain⟨p,ps',hu⟩:=hu
  rcases fStepO_way S Q QH o with q | ⟨v,h',H',q1,q2,q3⟩
  ·exact .inl fun c=>(hu c).trans (q _)
  ·rcases dS_way o.dst v Q with w | ⟨F',w1,w2⟩
   ·exact .inl fun c=>(hu c).trans ((q3 _).trans (w _))
   ·rcases fTr_way S r ps' w2 q2 with z | ⟨ts,ss,F2,h2,z1,z2,z3,z4⟩
    ·exact .inl fun c=>(hu c).trans ((q3 _).trans ((w1 _).trans (z _)))
    ·refine .inr ⟨⟨F,v,h'⟩::ts,(v,H')::ss,F2,h2,by simp only[atrace,q1,z1],⟨_,ts,_,ss,rfl,rfl,Q,rfl,q2,z2⟩,fun c=>(hu c).trans ((q3 _).trans ((w1 _).trans (z3 _))),fun k=>?_⟩
     have hl:=(trace_at r _ H' ss 0 z1).1
     have:hAt H ((v,H')::ss) (o::r).length=hAt H' ss r.length:=by
      simp only[List.length_cons]
      cases hr:r.length with
      | zero=>rfl
      | succ q=>
       simp only[hAt,List.getElem?_cons_succ]
       rw[List.getElem?_eq_getElem om]
     rw[this]
     exact z4 (k+1)
def HsRel(hs:List FHeap)(Hs:List AHeap):Prop:=∀p:Nat,(hs[p]?=none)∨∃h H,hs[p]?=some h∧Hs[p]?=some H∧HRel h H
theorem trel_hs:∀(l:List AOper) {ts:List FT} {ss:List (AVal×AHeap)} {T:Tr AVal},TRel D l ts ss T→∀p:Nat,((ts.map (·.h))[p]?=none)∨∃h H,(ts.map (·.h))[p]?=some h∧(ss.map (·.2))[p]?=some H∧HRel h H
 | [],_,_,_,h,p=>by obtain⟨rfl,rfl⟩:=h; exact .inl rfl
 | o::r,_,_,_,h,p=>by
  obtain⟨t,ts',s,ss',rfl,rfl,h1,h2,h3,h4⟩:=h
  cases p with
  | zero=>exact .inr ⟨_,_,rfl,rfl,h3⟩
  | succ p=>simpa using trel_hs r h4 p
theorem fPs_way{e:E}{n:Nat}(S:ESim tb call e n){hs:List FHeap}{Hs:List AHeap}(hH:HsRel hs Hs){o:AOper}(ho:isLoad o.op=true){F:Fr}{T:Tr AVal}(Q:FRel D F T){v:AVal}:∀(ps:List Nat),
  (∀y,fPs e hs (fStepO D o) F v y ps=.no)∨((∀y,fPs e hs (fStepO D o) F v y ps=y)∧(ps.all fun p=>match Hs[p]? with
   | some Hp=>bif gOK T o.guard then (match aop tb T Hp o.op with | some (.val u,_)=>aeq u v | _=>false) else true
   | none=>false)=true)
 | []=>.inr ⟨fun y=>rfl,rfl⟩
 | p::r=>by
  have hu:∀y,fPs e hs (fStepO D o) F v y (p::r)=match hs[p]? with | some hp=>fStepO D o e F hp fun u _=>bif aeq u v then fPs e hs (fStepO D o) F v y r else .no | none=>.no:=fun y=>rfl
  rcases hH p with h0 | ⟨hp,Hp,h1,h2,h3⟩
  ·exact .inl fun y=>by rw[hu,h0]
  ·rcases fStepO_way S Q h3 o with q | ⟨u,h',H',q1,q2,q3⟩
   ·exact .inl fun y=>by rw[hu,h1]; exact q _
   ·have hv:∀y,fPs e hs (fStepO D o) F v y (p::r)=bif aeq u v then fPs e hs (fStepO D o) F v y r else .no:=fun y=>by rw[hu,h1]; exact q3 _
    cases ha:aeq u v with
    | false=>exact .inl fun y=>by rw[hv,ha]; rfl
    | true=>
     rw[ha]at hv
     simp only[cond_true]at hv
     rcases fPs_way S hH ho Q (v:=v) r with z | ⟨z1,z2⟩
     ·exact .inl fun y=>(hv y).trans (z y)
     ·refine .inr ⟨fun y=>(hv y).trans (z1 y),?_⟩
      rw[List.all_cons,z2,Bool.and_true,h2]
      simp only
      cases hg:gOK T o.guard with
      | false=>rfl
      | true=>
       rw[astep_val hg]at q1
       simp only[cond_true]
       cases hop:o.op <;> rw[hop]at ho <;> simp only[isLoad,Bool.false_eq_true]at ho
       all_goals
        rw[hop]at q1
        simp only[aval,aop]at q1 ⊢
       ·rename_i a m x
        cases hl:oLoad a m Hp (ev T x) with
        | none=>rw[hl]at q1; simp[vv]at q1
        | some w=>
         rw[hl]at q1
         simp only[vv,sJ,pJ]at q1 ⊢
         rw[q1.1]; exact ha
       ·rename_i b z s
        cases hl:aClaim Hp b z s with
        | none=>rw[hl]at q1; simp[vv]at q1
        | some w=>
         rw[hl]at q1
         simp only[vv,sJ,pJ]at q1 ⊢
         rw[q1.1]; exact ha
theorem fChk_way{e:E}{n:Nat}(S:ESim tb call e n){hs:List FHeap}{Hs:List AHeap}(hH:HsRel hs Hs):∀(l:List AOper) (ps:List (List Nat)) {ts:List FT} {ss:List (AVal×AHeap)} {T:Tr AVal},TRel D l ts ss T →
  (∀y,fChk e hs y (fSteps D l ps) ts=.no)∨((∀y,fChk e hs y (fSteps D l ps) ts=y)∧chkRun tb Hs l ps ss T=true)
 | [],ps,ts,ss,T,h=>.inr ⟨fun y=>by cases ps <;> rfl,rfl⟩
 | o::r,[],ts,ss,T,h=>by
  obtain⟨t,ts',s,ss',rfl,rfl,h1,h2,h3,h4⟩:=h
  rcases fChk_way S hH r [] h4 with z | ⟨z1,z2⟩
  ·exact .inl fun y=>z y
  ·exact .inr ⟨fun y=>z1 y,rfl⟩
 | o::r,p::ps,ts,ss,T,h=>by
  obtain⟨t,ts',s,ss',rfl,rfl,h1,h2,h3,h4⟩:=h
  obtain⟨sv,sH⟩:=s
  simp only at h2
  subst h2
  have hr:chkRun tb Hs (o::r) (p::ps) ((t.v,sH)::ss') T=((p.all fun p=>match Hs[p]? with
   | some Hp=>bif gOK T o.guard then (match aop tb T Hp o.op with | some (.val u,_)=>aeq u t.v | _=>false) else true
   | none=>false)&&chkRun tb Hs r ps ss' (aput T o.dst t.v)):=rfl
  have hu:∀y,fChk e hs y (fSteps D (o::r) (p::ps)) (t::ts')=match stepPs o p with
   | some q=>fPs e hs (fStepO D o) t.F t.v (fChk e hs y (fSteps D r ps) ts') q
   | none=>.no:=fun y=>rfl
  rw[hr]
  have rest:=fChk_way S hH r ps h4
  cases hl:isLoad o.op with
  | true=>
   simp only[stepPs,hl,cond_true]at hu
   rcases fPs_way S hH hl h1 (v:=t.v) p with z | ⟨z1,z2⟩
   ·exact .inl fun y=>(hu y).trans (z _)
   ·rw[z2]
    rcases rest with w | ⟨w1,w2⟩
    ·exact .inl fun y=>(hu y).trans ((z1 _).trans (w y))
    ·exact .inr ⟨fun y=>(hu y).trans ((z1 _).trans (w1 y)),by rw[w2]; rfl⟩
  | false=>
   simp only[stepPs,hl,cond_false]at hu
   cases p with
   | nil=>
    simp only[fPs]at hu
    rcases rest with w | ⟨w1,w2⟩
    ·exact .inl fun y=>(hu y).trans (w y)
    ·exact .inr ⟨fun y=>(hu y).trans (w1 y),by rw[w2]; rfl⟩
   | cons q p=>exact .inl fun y=>hu y
def unreg(a:Option (AEx×Tr AVal×AHeap)):Option (Tr AVal×AHeap):=match a with
 | some (.normal,T,H)=>some (T,H)
 | _=>none
theorem cTr_ok{e:E}{n:Nat}(S:ESim tb call e n)(l:List AOper)(chk:List (List Nat)){F:Fr}{h:FHeap}{T:Tr AVal}{H:AHeap}(Q:FRel D F T)(QH:HRel h H):RegWay (cTr (fSteps D l chk)) e F h D (unreg (adraw tb call l chk T H)):=by
 have hu:∀kn ks,cTr (fSteps D l chk) e F h kn ks=fTr e (fSteps D l chk) F h fun ts F2 h2=>fChk e (hsOf h ts) (kn F2 h2) (fSteps D l chk) ts:=fun kn ks=>rfl
 rcases fTr_way S l chk Q QH with q | ⟨ts,ss,F2,h2,q1,q2,q3,q4⟩
 ·exact .inl fun kn ks=>(hu _ _).trans (q _)
 ·have hH:HsRel (hsOf h ts) (H::ss.map (·.2)):=by
   intro p
   cases p with
   | zero=>exact .inr ⟨h,H,rfl,rfl,QH⟩
   | succ p=>simpa[hsOf] using trel_hs l q2 p
  rcases fChk_way S hH l chk q2 with z | ⟨z1,z2⟩
  ·exact .inl fun kn ks=>(hu _ _).trans ((q3 _).trans (z _))
  ·exact .inr ⟨F2,h2,_,_,by simp only[adraw,q1,z2,cond_true,unreg],(q4 0).1,(q4 0).2,fun kn ks=>(hu _ _).trans ((q3 _).trans (z1 _))⟩
def newsOf:List AOper→List (Option (List AVal))
 | []=>[]
 | o::r=>match newOf o.op with
  | some (z,s)=>(bif isMp s then none else some z)::newsOf r
  | none=>newsOf r
def pushO(z:Option (List AVal))(h:FHeap)(k:FHeap→R):R:=@Option.rec (List AVal) (fun _=>R) (hP h (.map [] (nat_lit 0)) fun _ h=>k h) (fun z=>fNew h z fun _ _ h=>k h) z
theorem pushO_way{h:FHeap}{H:AHeap}(Q:HRel h H)(z:List AVal)(s:Option (Nat×Nat)):(∀k,pushO (bif isMp s then none else some z) h k=.no)∨∃h',(∀k,pushO (bif isMp s then none else some z) h k=k h')∧HRel h' (H.push (resO z s)):=by
 unfold resO
 cases isMp s with
 | true=>
  rcases hP_way Q (.map [] 0) (A:=.map [] 0) rfl with p | ⟨h1,p1,p2⟩
  ·exact .inl fun k=>p fun _ h=>k h
  ·exact .inr ⟨h1,fun k=>p1 fun _ h=>k h,p2⟩
 | false=>
  rcases fNew_way Q z with p | ⟨h1,p1,p2⟩
  ·exact .inl fun k=>p fun _ _ h=>k h
  ·exact .inr ⟨h1,fun k=>p1 fun _ _ h=>k h,p2⟩
def pushL:List (Option (List AVal))→FHeap→(FHeap→R)→R:=@List.rec (Option (List AVal)) (fun _=>FHeap→(FHeap→R)→R) (fun h k=>k h) (fun z _ ih h k=>pushO z h fun h=>ih h k)
theorem pushL_way:∀(l:List AOper) {h:FHeap} {H:AHeap},HRel h H→(∀k,pushL (newsOf l) h k=.no)∨∃h',(∀k,pushL (newsOf l) h k=k h')∧HRel h' (reserves H l)
 | [],h,H,Q=>.inr ⟨h,fun k=>rfl,Q⟩
 | o::r,h,H,Q=>by
  cases hz:newOf o.op with
  | some p=>
   obtain⟨z,s⟩:=p
   have e0:newsOf (o::r)=(bif isMp s then none else some z)::newsOf r:=by simp only[newsOf,hz]
   rw[e0]
   rcases pushO_way Q z s with p | ⟨h1,p1,p2⟩
   ·exact .inl fun k=>p _
   rcases pushL_way r p2 with q | ⟨h2,q1,q2⟩
   ·exact .inl fun k=>(p1 _).trans (q _)
   exact .inr ⟨h2,fun k=>(p1 _).trans (q1 _),by simpa only [reserves,hz] using q2⟩
  | none=>
   have e1:newsOf (o::r)=newsOf r:=by simp only[newsOf,hz]
   have e2:reserves H (o::r)=reserves H r:=by simp only[reserves,hz]
   rw[e1,e2]
   exact pushL_way r Q
def cNew(zs:List (Option (List AVal)))(c:Nat→K):K:=fun e F h kn ks=>@FHeap.rec (fun _=>R) (fun nx tr=>pushL zs ⟨nx,tr⟩ fun h'=>c nx e F h' kn ks) h
theorem news_nil:∀(l:List AOper),newsOf l=[]→∀(b:Nat) (H:AHeap),claims b l=l∧reserves H l=H
 | [],_,b,H=>⟨rfl,rfl⟩
 | o::r,h,b,H=>by
  cases hz:newOf o.op with
  | some p=>obtain⟨z,s⟩:=p; simp[newsOf,hz]at h
  | none=>
   simp only[newsOf,hz]at h
   exact⟨by simp only[claims,hz,(news_nil r h b H).1],by simp only[reserves,hz,(news_nil r h b H).2]⟩
def dBody(D:Nat→Bool)(chk:List (List Nat))(l:List AOper):K:=bif allNil chk then fOps D l else cTr (fSteps D l chk)
def isNil:List (Option (List AVal))→Bool
 | []=>true
 | _=>false
def fDraw(D:Nat→Bool)(l:List AOper)(chk:List (List Nat)):K:=bif isNil (newsOf l) then dBody D chk l else cNew (newsOf l) fun b=>dBody D chk (claims b l)
theorem dBody_ok{e:E}{n:Nat}(S:ESim tb call e n)(l:List AOper)(chk:List (List Nat)){F:Fr}{h:FHeap}{T:Tr AVal}{H:AHeap}(Q:FRel D F T)(QH:HRel h H):RegWay (dBody D chk l) e F h D (unreg (adraw tb call l chk T H)):=by
 unfold dBody
 cases hn:allNil chk with
 | false=>exact cTr_ok S l chk Q QH
 | true=>
  have:unreg (adraw tb call l chk T H)=aregs tb call l T H:=by
   rw[aregs_trace l T H 0]
   unfold adraw
   cases ht:atrace tb call l T H with
   | none=>rfl
   | some ss=>simp only[chk_nil l chk ss T hn,cond_true]; rfl
  rw[this]
  exact fOps_ok S l Q QH
theorem fDraw_ok{e:E}{n:Nat}(S:ESim tb call e n)(l:List AOper)(chk:List (List Nat)){F:Fr}{h:FHeap}{T:Tr AVal}{H:AHeap}(Q:FRel D F T)(QH:HRel h H) :
  RegWay (fDraw D l chk) e F h D (unreg (adraw tb call (claims H.next l) chk T (reserves H l))):=by
 unfold fDraw
 cases hn:isNil (newsOf l) with
 | true=>
  have hz:newsOf l=[]:=by
   cases hq:newsOf l with
   | nil=>rfl
   | cons a b=>rw[hq]at hn; simp[isNil]at hn
  rw[(news_nil l hz H.next H).1,(news_nil l hz H.next H).2]
  exact dBody_ok S l chk Q QH
 | false=>
  have hu0:∀kn ks,(cNew (newsOf l) fun b=>dBody D chk (claims b l)) e F h kn ks=pushL (newsOf l) h fun h'=>dBody D chk (claims H.next l) e F h' kn ks:=by
   intro kn ks
   obtain⟨nx,tr⟩:=h
   have hn:nx=H.next:=QH.next
   subst hn
   rfl
  simp only[cond_false]
  rcases pushL_way l QH with q | ⟨h',q1,q2⟩
  ·exact .inl fun kn ks=>(hu0 _ _).trans (q _)
  ·rcases dBody_ok S (claims H.next l) chk Q q2 with z | ⟨F2,h2,T2,H2,z1,z2,z3,z4⟩
   ·exact .inl fun kn ks=>(hu0 _ _).trans ((q1 _).trans (z _ _))
   ·exact .inr ⟨F2,h2,T2,H2,z1,z2,z3,fun kn ks=>(hu0 _ _).trans ((q1 _).trans (z4 _ _))⟩
def cSeq(a b:K):K:=fun e F h kn ks=>a e F h (fun F h=>b e F h kn ks) ks
def cIf(g:GV)(a b:K):K:=fun e F h kn ks=>g F fun v=>vBool v fun v=>ifb v (a e F h kn ks) (b e F h kn ks)
def cBlk(c:K):K:=fun e F h kn ks=>c e F h kn (kn::ks)
def fLoop(c:K)(e:E)(ks:List Kn):Nat→Fr→FHeap→R:=@Nat.rec (fun _=>Fr→FHeap→R) (fun _ _=>.no) (fun _ ih F h=>c e F h ih ks)
def cLoop(c:K):K:=fun e F h _ ks=>@E.rec (fun _=>R) (fun n cl=>fLoop c ⟨n,cl⟩ ks n F h) e
def nthK:Nat→List Kn→Kn:=@Nat.rec (fun _=>List Kn→Kn) (fun ks=>@List.rec Kn (fun _=>Kn) (fun _ _=>.no) (fun k _ _=>k) ks) (fun _ ih ks=>@List.rec Kn (fun _=>Kn) (fun _ _=>.no) (fun _ t _=>ih t) ks)
def cExit(j:Nat):K:=fun _ F h _ ks=>nthK j ks F h
def cNo:K:=fun _ _ _ _ _=>.no
def idx(i:Nat):List Nat→Option Nat
 | []=>none
 | j::r=>bif Nat.beq i j then some 0 else match idx i r with | some n=>some (n+1) | none=>none
def exK(bs:List Nat)(i:Nat):K:=match idx i bs with | some j=>cExit j | none=>cNo
def fCode(D:Nat→Bool):List Nat→ACode→K
 | _,.skip=>fEnd
 | _,.reg l=>fOps D l
 | _,.draw l chk=>fDraw D l chk
 | bs,.seq a b=>cSeq (fCode D bs a) (fCode D bs b)
 | bs,.cond c a b=>cIf (fX D c) (fCode D bs a) (fCode D bs b)
 | bs,.block i c=>cBlk (fCode D (i::bs) c)
 | bs,.loop c=>cLoop (fCode D bs c)
 | bs,.exit i=>exK bs i
 | bs,.ret=>cExit bs.length
def CW(bs:List Nat)(k:K)(e:E)(F:Fr)(h:FHeap)(D:Nat→Bool)(a:Option (AEx×Tr AVal×AHeap)):Prop:=
 (∀kn ks,ks.length=bs.length+1→k e F h kn ks=.no) ∨
 (∃F' h' T' H',a=some (.normal,T',H')∧FRel D F' T'∧HRel h' H'∧∀kn ks,ks.length=bs.length+1→k e F h kn ks=kn F' h') ∨
 (∃i j F' h' T' H',a=some (.exit i,T',H')∧idx i bs=some j∧FRel D F' T'∧HRel h' H'∧∀kn ks,ks.length=bs.length+1→k e F h kn ks=nthK j ks F' h') ∨
 (∃F' h' T' H',a=some (.ret,T',H')∧FRel D F' T'∧HRel h' H'∧∀kn ks,ks.length=bs.length+1→k e F h kn ks=nthK bs.length ks F' h')
theorem RegWay.cw{bs:List Nat}{k:K}{e:E}{F:Fr}{h:FHeap}{a:Option (AEx×Tr AVal×AHeap)}{r:Option (Tr AVal×AHeap)}(w:RegWay k e F h D r)(ha:∀T H,r=some (T,H)→a=some (.normal,T,H)):CW bs k e F h D a:=by
 rcases w with q | ⟨F',h',T',H',q1,q2,q3,q4⟩
 ·exact .inl fun kn ks _=>q kn ks
 ·exact .inr (.inl ⟨F',h',T',H',ha _ _ q1,q2,q3,fun kn ks _=>q4 kn ks⟩)
def aseq(k:Tr AVal→AHeap→Option (AEx×Tr AVal×AHeap))(a:Option (AEx×Tr AVal×AHeap)):Option (AEx×Tr AVal×AHeap):=match a with
 | some (.normal,T,H)=>k T H
 | some (e,T,H)=>some (e,T,H)
 | none=>none
theorem CW.seq{bs:List Nat}{c:K}{e:E}{F:Fr}{h:FHeap}{a:Option (AEx×Tr AVal×AHeap)}{kb:List Kn→Kn→Kn}{ka:Tr AVal→AHeap→Option (AEx×Tr AVal×AHeap)}(w:CW bs c e F h D a)
  (hb:∀{F h T H},FRel D F T→HRel h H→CW bs (fun _ F h kn ks=>kb ks kn F h) e F h D (ka T H)) {k:K} (hk:∀kn ks,k e F h kn ks=c e F h (kb ks kn) ks):CW bs k e F h D (aseq ka a):=by
 rcases w with q | ⟨F',h',T',H',q1,q2,q3,q4⟩ | ⟨i,j,F',h',T',H',q1,qi,q2,q3,q4⟩ | ⟨F',h',T',H',q1,q2,q3,q4⟩
 ·exact .inl fun kn ks hl=>(hk _ _).trans (q _ _ hl)
 ·subst q1
  rcases hb q2 q3 with z | ⟨F2,h2,T2,H2,z1,z2,z3,z4⟩ | ⟨i,j,F2,h2,T2,H2,z1,zi,z2,z3,z4⟩ | ⟨F2,h2,T2,H2,z1,z2,z3,z4⟩
  ·exact .inl fun kn ks hl=>(hk _ _).trans ((q4 _ _ hl).trans (z kn ks hl))
  ·exact .inr (.inl ⟨F2,h2,T2,H2,z1,z2,z3,fun kn ks hl=>(hk _ _).trans ((q4 _ _ hl).trans (z4 kn ks hl))⟩)
  ·exact .inr (.inr (.inl ⟨i,j,F2,h2,T2,H2,z1,zi,z2,z3,fun kn ks hl=>(hk _ _).trans ((q4 _ _ hl).trans (z4 kn ks hl))⟩))
  ·exact .inr (.inr (.inr ⟨F2,h2,T2,H2,z1,z2,z3,fun kn ks hl=>(hk _ _).trans ((q4 _ _ hl).trans (z4 kn ks hl))⟩))
 ·subst q1
  exact .inr (.inr (.inl ⟨i,j,F',h',T',H',rfl,qi,q2,q3,fun kn ks hl=>(hk _ _).trans (q4 _ _ hl)⟩))
 ·subst q1
  exact .inr (.inr (.inr ⟨F',h',T',H',rfl,q2,q3,fun kn ks hl=>(hk _ _).trans (q4 _ _ hl)⟩))
theorem fLoop_ok{bs:List Nat}{c:K}{e:E}{ca:Tr AVal→AHeap→Option (AEx×Tr AVal×AHeap)}(hc:∀{F h T H},FRel D F T→HRel h H→CW bs c e F h D (ca T H)):∀(n:Nat) {F:Fr} {h:FHeap} {T:Tr AVal} {H:AHeap},FRel D F T→HRel h H→CW bs (fun _ F h _ ks=>fLoop c e ks n F h) e F h D (aloop ca n T H)
 | 0,_,_,_,_,_,_=>.inl fun kn ks _=>rfl
 | n+1,F,h,T,H,Q,QH=>by
  have ha:aloop ca (n+1) T H=aseq (aloop ca n) (ca T H):=by
   simp only[aloop,aseq]
   cases ca T H with
   | none=>rfl
   | some p=>obtain⟨e,T',H'⟩:=p; cases e <;> rfl
  rw[ha]
  exact (hc Q QH).seq (kb:=fun ks _=>fLoop c e ks n) (fun q1 q2=>fLoop_ok hc n q1 q2) fun kn ks=>rfl
theorem fCode_ok{e:E}{n:Nat}(S:ESim tb call e n):∀(c:ACode) (bs:List Nat) {F:Fr} {h:FHeap} {T:Tr AVal} {H:AHeap},FRel D F T→HRel h H→CW bs (fCode D bs c) e F h D (aexec tb call n c T H):=by
 intro c
 induction c with
 | skip=>intro bs F h T H Q QH; exact .inr (.inl ⟨F,h,T,H,rfl,Q,QH,fun kn ks _=>rfl⟩)
 | reg l=>
  intro bs F h T H Q QH
  refine (fOps_ok S l Q QH).cw fun T' H' hr=>?_
  simp only[aexec,hr]
 | draw l chk=>
  intro bs F h T H Q QH
  refine (fDraw_ok S l chk Q QH).cw fun T' H' hr=>?_
  simp only[aexec]
  revert hr
  unfold unreg
  split
  ·rename_i T2 H2 he
   intro hr
   simp only[sJ,pJ]at hr
   rw[he,hr.1,hr.2]
  ·intro hr; simp at hr
 | seq a b iha ihb=>
  intro bs F h T H Q QH
  have ha:aexec tb call n (.seq a b) T H=aseq (aexec tb call n b) (aexec tb call n a T H):=by
   simp only[aexec,aseq]
   cases aexec tb call n a T H with
   | none=>rfl
   | some p=>obtain⟨e,T',H'⟩:=p; cases e <;> rfl
  rw[ha]
  exact (iha bs Q QH).seq (kb:=fun ks kn F h=>fCode D bs b e F h kn ks) (fun q1 q2=>ihb bs q1 q2) fun kn ks=>rfl
 | cond c a b iha ihb=>
  intro bs F h T H Q QH
  have hu:∀kn ks,fCode D bs (.cond c a b) e F h kn ks=fX D c F fun v=>vBool v fun v=>ifb v (fCode D bs a e F h kn ks) (fCode D bs b e F h kn ks):=fun kn ks=>rfl
  rcases fX_ok c F T Q with q | q
  ·exact .inl fun kn ks _=>(hu _ _).trans (q _)
  ·have hb:(∃v,ev T c=.bool v)∨∀k,vBool (ev T c) k=.no:=by
    cases hv:ev T c <;> first | exact .inl ⟨_,rfl⟩ | exact .inr fun k=>rfl
   rcases hb with⟨v,hv⟩ | hv
   ·have hu2:∀kn ks,fCode D bs (.cond c a b) e F h kn ks=bif v then fCode D bs a e F h kn ks else fCode D bs b e F h kn ks:=fun kn ks=>by
     rw[hu,q,hv,← ifb_eq]; rfl
    cases v with
    | true=>
     have:aexec tb call n (.cond c a b) T H=aexec tb call n a T H:=by simp only[aexec,hv]
     rw[this]
     rcases iha bs Q QH with z | ⟨F2,h2,T2,H2,z1,z2,z3,z4⟩ | ⟨i,j,F2,h2,T2,H2,z1,zi,z2,z3,z4⟩ | ⟨F2,h2,T2,H2,z1,z2,z3,z4⟩
     ·exact .inl fun kn ks hl=>(hu2 _ _).trans (z kn ks hl)
     ·exact .inr (.inl ⟨F2,h2,T2,H2,z1,z2,z3,fun kn ks hl=>(hu2 _ _).trans (z4 kn ks hl)⟩)
     ·exact .inr (.inr (.inl ⟨i,j,F2,h2,T2,H2,z1,zi,z2,z3,fun kn ks hl=>(hu2 _ _).trans (z4 kn ks hl)⟩))
     ·exact .inr (.inr (.inr ⟨F2,h2,T2,H2,z1,z2,z3,fun kn ks hl=>(hu2 _ _).trans (z4 kn ks hl)⟩))
    | false=>
     have:aexec tb call n (.cond c a b) T H=aexec tb call n b T H:=by simp only[aexec,hv]
     rw[this]
     rcases ihb bs Q QH with z | ⟨F2,h2,T2,H2,z1,z2,z3,z4⟩ | ⟨i,j,F2,h2,T2,H2,z1,zi,z2,z3,z4⟩ | ⟨F2,h2,T2,H2,z1,z2,z3,z4⟩
     ·exact .inl fun kn ks hl=>(hu2 _ _).trans (z kn ks hl)
     ·exact .inr (.inl ⟨F2,h2,T2,H2,z1,z2,z3,fun kn ks hl=>(hu2 _ _).trans (z4 kn ks hl)⟩)
     ·exact .inr (.inr (.inl ⟨i,j,F2,h2,T2,H2,z1,zi,z2,z3,fun kn ks hl=>(hu2 _ _).trans (z4 kn ks hl)⟩))
     ·exact .inr (.inr (.inr ⟨F2,h2,T2,H2,z1,z2,z3,fun kn ks hl=>(hu2 _ _).trans (z4 kn ks hl)⟩))
   ·exact .inl fun kn ks _=>(hu _ _).trans ((q _).trans (hv _))
 | block i c ih=>
  intro bs F h T H Q QH
  have hu:∀kn ks,fCode D bs (.block i c) e F h kn ks=fCode D (i::bs) c e F h kn (kn::ks):=fun kn ks=>rfl
  have hlen:∀(kn:Kn) (ks:List Kn),ks.length=bs.length+1→(kn::ks).length=(i::bs).length+1:=fun kn ks hl=>by simp[hl]
  rcases ih (i::bs) Q QH with z | ⟨F2,h2,T2,H2,z1,z2,z3,z4⟩ | ⟨m,j,F2,h2,T2,H2,z1,zi,z2,z3,z4⟩ | ⟨F2,h2,T2,H2,z1,z2,z3,z4⟩
  ·exact .inl fun kn ks hl=>(hu _ _).trans (z _ _ (hlen kn ks hl))
  ·exact .inr (.inl ⟨F2,h2,T2,H2,by simp only[aexec,z1],z2,z3,fun kn ks hl=>(hu _ _).trans (z4 _ _ (hlen kn ks hl))⟩)
  ·cases hb:Nat.beq m i with
   | true=>
    have hj:j=0:=by
     simp only[idx,hb,cond_true,sJ]at zi
     exact zi.symm
    subst hj
    exact .inr (.inl ⟨F2,h2,T2,H2,by simp only[aexec,z1,hb,cond_true],z2,z3,fun kn ks hl=>(hu _ _).trans (z4 _ _ (hlen kn ks hl))⟩)
   | false=>
    simp only[idx,hb,cond_false]at zi
    cases hr:idx m bs with
    | none=>rw[hr]at zi; simp at zi
    | some q=>
     rw[hr]at zi
     simp only[sJ]at zi
     subst zi
     exact .inr (.inr (.inl ⟨m,q,F2,h2,T2,H2,by simp only[aexec,z1,hb,cond_false],hr,z2,z3,fun kn ks hl=>(hu _ _).trans (z4 _ _ (hlen kn ks hl))⟩))
  ·exact .inr (.inr (.inr ⟨F2,h2,T2,H2,by simp only[aexec,z1],z2,z3,fun kn ks hl=>(hu _ _).trans (z4 _ _ (hlen kn ks hl))⟩))
 | loop c ih=>
  intro bs F h T H Q QH
  have hl:=fLoop_ok (bs:=bs) (c:=fCode D bs c) (e:=e) (ca:=aexec tb call n c) (fun q1 q2=>ih bs q1 q2) n Q QH
  have hu:∀kn ks,fCode D bs (.loop c) e F h kn ks=fLoop (fCode D bs c) e ks n F h:=fun kn ks=>by
   obtain⟨m,cl⟩:=e
   have:=S.n
   simp only at this
   subst this
   rfl
  rcases hl with z | ⟨F2,h2,T2,H2,z1,z2,z3,z4⟩ | ⟨i,j,F2,h2,T2,H2,z1,zi,z2,z3,z4⟩ | ⟨F2,h2,T2,H2,z1,z2,z3,z4⟩
  ·exact .inl fun kn ks hl=>(hu _ _).trans (z kn ks hl)
  ·exact .inr (.inl ⟨F2,h2,T2,H2,z1,z2,z3,fun kn ks hl=>(hu _ _).trans (z4 kn ks hl)⟩)
  ·exact .inr (.inr (.inl ⟨i,j,F2,h2,T2,H2,z1,zi,z2,z3,fun kn ks hl=>(hu _ _).trans (z4 kn ks hl)⟩))
  ·exact .inr (.inr (.inr ⟨F2,h2,T2,H2,z1,z2,z3,fun kn ks hl=>(hu _ _).trans (z4 kn ks hl)⟩))
 | exit i=>
  intro bs F h T H Q QH
  cases hi:idx i bs with
  | none=>exact .inl fun kn ks _=>by simp only[fCode,exK,hi]; rfl
  | some j=>exact .inr (.inr (.inl ⟨i,j,F,h,T,H,rfl,hi,Q,QH,fun kn ks _=>by simp only[fCode,exK,hi]; rfl⟩))
 | ret=>intro bs F h T H Q QH; exact .inr (.inr (.inr ⟨F,h,T,H,rfl,Q,QH,fun kn ks _=>rfl⟩))
end
abbrev CallT:=FuncId→List AVal→FHeap→(AVal→FHeap→R)→R
abbrev Fn:=Nat→CallT→List AVal→FHeap→(AVal→FHeap→R)→R
def fArgs:List AVal→List SV→Fr→(Fr→R)→R:=@List.rec AVal (fun _=>List SV→Fr→(Fr→R)→R) (fun _ F k=>k F)
 (fun x _ ih ss F k=>@List.rec SV (fun _=>R) .no (fun s ss _=>s x F fun F=>ih ss F k) ss)
def svs:Nat→Nat→List SV
 | 0,_=>[]
 | n+1,i=>st i::svs n (i+1)
theorem fArgs_way{D:Nat→Bool}:∀(args:List AVal) (i n:Nat) {F:Fr} {T:Tr AVal},FRel D F T→i+n≤256→(∀k,fArgs args (svs n i) F k=.no)∨∃F',(∀k,fArgs args (svs n i) F k=k F')∧FRel D F' (putArgs args i T)
 | [],i,n,F,T,Q,_=>.inr ⟨F,fun k=>rfl,Q⟩
 | x::r,i,0,F,T,Q,_=>.inl fun k=>rfl
 | x::r,i,n+1,F,T,Q,hn=>by
  have hu:∀k,fArgs (x::r) (svs (n+1) i) F k=fArgs r (svs n (i+1)) (F.set i x) k:=fun k=>st_eq i x F fun F=>fArgs r (svs n (i+1)) F k
  rcases fArgs_way r (i+1) n (Q.set (d:=i) om x) om with q | ⟨F',q1,q2⟩
  ·exact .inl fun k=>(hu k).trans (q k)
  ·exact .inr ⟨F',fun k=>(hu k).trans (q1 k),q2⟩
def evR(e:E)(F:Fr)(h:FHeap):List FOp→(List AVal→R)→R:=@List.rec FOp (fun _=>(List AVal→R)→R) (fun k=>k []) (fun o _ ih k=>o e F h fun v _=>ih fun l=>k (v::l))
def fResV(l:List AVal)(k:AVal→R):R:=@List.rec AVal (fun _=>R) (k (.tuple [])) (fun x r _=>@List.rec AVal (fun _=>R) (k x) (fun y t _=>k (.tuple (x::y::t))) r) l
theorem fResV_eq(l:List AVal)(k:AVal→R):fResV l k=k (aresV l):=by
 rcases l with _ | ⟨x,_ | ⟨y,t⟩⟩ <;> rfl
def fRes(D:Nat→Bool):List ARes→List FOp
 | []=>[]
 | .t i::r=>xMv (fX D (.t i))::fRes D r
 | .cell g n i::r=>xLdOp g n (fX D (.t i))::fRes D r
def rRes(e:E)(res:List FOp)(F:Fr)(h:FHeap)(k:AVal→FHeap→R):R:=evR e F h res fun l=>fResV l fun v=>k v h
def mkFn(ss:List SV)(body:K)(res:List FOp):Fn:=fun n call args h k=>fArgs args ss u0 fun F=>body ⟨n,call⟩ F h (fun F h=>rRes ⟨n,call⟩ res F h k) [fun F h=>rRes ⟨n,call⟩ res F h k]
def fFn(D:Nat→Bool)(f:AFn):Fn:=mkFn (svs (bif Nat.ble f.nt (nat_lit 12) then f.nt else (nat_lit 12)) (nat_lit 0)) (fCode D [] f.body) (fRes D f.res)
abbrev Tab:=Nd (Option Fn) 4
def oFn(o:Option Fn)(k:Fn→R):R:=@Option.rec Fn (fun _=>R) .no k o
def fcall(tab:Tab):Nat→CallT:=@Nat.rec (fun _=>CallT) (fun _ _ _ _=>.no) (fun n ih f args h k=>(gsel (Option Fn) (nat_lit 4) f).on tab fun fn=>oFn fn fun fn=>fn n ih args h k)
theorem u0_rel{D:Nat→Bool}:FRel D u0 .e:=fun i _ _=>by rw[u0_get]; rfl
theorem evR_way{D:Nat→Bool}{tb:FuncId→Bool}{call:FuncId→List AVal→AHeap→Option (AVal×AHeap)}{e:E}{n:Nat}(S:ESim tb call e n){F:Fr}{h:FHeap}{T:Tr AVal}{H:AHeap}(Q:FRel D F T)(QH:HRel h H) :
  ∀(l:List ARes),(∀k,evR e F h (fRes D l) k=.no)∨∃xs,ares T H l=some xs∧∀k,evR e F h (fRes D l) k=k xs
 | []=>.inr ⟨[],rfl,fun k=>rfl⟩
 | .t i::r=>by
  rcases fX_ok (.t i) F T Q with q | q
  ·exact .inl fun k=>q _
  ·rcases evR_way S Q QH r with p | ⟨xs,p1,p2⟩
   ·exact .inl fun k=>(q _).trans (p _)
   ·exact .inr ⟨_,by simp only[ares,p1],fun k=>(q _).trans (p2 _)⟩
 | .cell g m i::r=>by
  have hop:OpOK tb call D (xLdOp g m (fX D (.t i))) (.load g m (.t i)):=fOp_ok (.load g m (.t i))
  rcases hop S Q QH with q | ⟨v,h',H',q1,q2,q3⟩
  ·exact .inl fun k=>q _
  ·rcases evR_way S Q QH r with p | ⟨xs,p1,p2⟩
   ·exact .inl fun k=>(q3 _).trans (p _)
   ·refine .inr ⟨v::xs,?_,fun k=>(q3 _).trans (p2 _)⟩
    simp only[aval,aop]at q1
    cases hl:oLoad g m H (ev T (.t i)) with
    | none=>rw[hl]at q1; simp[vv]at q1
    | some w=>
     rw[hl]at q1
     simp only[vv,sJ,pJ]at q1
     simp only[ares,hl,p1,q1.1]
theorem args_len(args:List AVal)(nt:Nat):∀(n i:Nat) (F:Fr) (k:Fr→R),n<args.length→fArgs args (svs n i) F k=.no:=by
 induction args with
 | nil=>intro n i F k h; simp at h
 | cons x r ih=>
  intro n i F k h
  cases n with
  | zero=>rfl
  | succ n=>
   exact (st_eq i x F fun F=>fArgs r (svs n (i+1)) F k).trans (ih n (i+1) _ k (by simp only[List.length_cons]at h; omega))
def acRes(res:List ARes)(r:Option (AEx×Tr AVal×AHeap)):Option (AVal×AHeap):=match r with
 | some (.exit _,_,_)=>none
 | some (_,T,H')=>match ares T H' res with
  | some l=>some (aresV l,H')
  | none=>none
 | none=>none
theorem acall_succ(N:ANat)(A:Tr AFn)(n:Nat)(f:FuncId)(args:List AVal)(H:AHeap):acall N A (n+1) f args H=bif N.is f then N.run f args H else match A.get f with
  | some fn=>bif Nat.ble args.length fn.nt then acRes fn.res (aexec (tbA N A) (acall N A n) n fn.body (putArgs args 0 .e) H) else none
  | none=>none:=by
 rfl
def NatF(N:ANat)(f:FuncId)(fn:Fn):Prop:=N.is f=true∧∀n call args h H,HRel h H→(∀k,fn n call args h k=.no)∨∃v h' H',N.run f args H=some (v,H')∧HRel h' H'∧∀k,fn n call args h k=k v h'
def TabRel(N:ANat)(tab:Tab)(A:Tr AFn):Prop:=∀f,f<4096→match ndGet 4 tab f with | some fn=>(N.is f=false∧∃a D,A.get f=some a∧fn=fFn D a)∨NatF N f fn | none=>True
theorem fcall_ok{N:ANat}{tab:Tab}{A:Tr AFn}(hT:TabRel N tab A):∀(n:Nat) (f:FuncId) (args:List AVal) (h:FHeap) (H:AHeap),HRel h H →
  (∀k,fcall tab n f args h k=.no)∨∃v h' H',tbA N A f=true∧acall N A n f args H=some (v,H')∧HRel h' H'∧∀k,fcall tab n f args h k=k v h':=by
 intro n
 induction n with
 | zero=>intro f args h H _; exact .inl fun k=>rfl
 | succ n ih=>
  intro f args h H QH
  have hu:∀k,fcall tab (n+1) f args h k=(gsel (Option Fn) 4 f).on tab fun fn=>oFn fn fun fn=>fn n (fcall tab n) args h k:=fun k=>rfl
  rcases gsel_way (α:=Option Fn) 4 f with q | ⟨hlt,q⟩
  ·exact .inl fun k=>(hu k).trans (q _ _)
  have ht:=hT f hlt
  cases hg:ndGet 4 tab f with
  | none=>exact .inl fun k=>(hu k).trans ((q _ _).trans (by rw[hg]; rfl))
  | some fn=>
   rw[hg]at ht
   rcases ht with⟨hni,a,D,hf,rfl⟩ | ⟨hni,hn⟩
   rotate_left
   ·have hu2:∀k,fcall tab (n+1) f args h k=fn n (fcall tab n) args h k:=fun k=>(hu k).trans ((q _ _).trans (by rw[hg]; rfl))
    rcases hn n (fcall tab n) args h H QH with p | ⟨v,h',H',p1,p2,p3⟩
    ·exact .inl fun k=>(hu2 k).trans (p k)
    ·exact .inr ⟨v,h',H',by simp only[tbA,hni,cond_true],by rw[acall_succ,hni]; exact p1,p2,fun k=>(hu2 k).trans (p3 k)⟩
   have hu2:∀k,fcall tab (n+1) f args h k=fFn D a n (fcall tab n) args h k:=fun k=>(hu k).trans ((q _ _).trans (by rw[hg]; rfl))
   have S:ESim (tbA N A) (acall N A n) (E.mk n (fcall tab n)) n:=⟨rfl,ih⟩
   by_cases hlen:args.length≤(bif Nat.ble a.nt 12 then a.nt else 12)
   ·have hnt:args.length≤a.nt:=by
     cases hb:Nat.ble a.nt 12 with
     | true=>rw[hb]at hlen; simpa using hlen
     | false=>
      rw[hb]at hlen
      have:¬a.nt≤12:=fun e=>by rw[Nat.ble_eq_true_of_le e]at hb; simp at hb
      simp only[cond_false]at hlen
      omega
    have h12:(bif Nat.ble a.nt 12 then a.nt else 12)≤12:=by
     cases hb:Nat.ble a.nt 12 with
     | true=>exact Nat.le_of_ble_eq_true hb
     | false=>exact Nat.le_refl _
    rcases fArgs_way (D:=D) args 0 (bif Nat.ble a.nt 12 then a.nt else 12) u0_rel om with q | ⟨F',q1,q2⟩
    ·exact .inl fun k=>(hu2 k).trans (q _)
    ·have hv:∀k,fcall tab (n+1) f args h k=fCode D [] a.body (E.mk n (fcall tab n)) F' h (fun F h=>rRes (E.mk n (fcall tab n)) (fRes D a.res) F h k) [fun F h=>rRes (E.mk n (fcall tab n)) (fRes D a.res) F h k]:=fun k=>(hu2 k).trans (q1 _)
     have key:∀(e:AEx) (F2:Fr) (h2:FHeap) (T2:Tr AVal) (H2:AHeap),(∀i,e≠.exit i)→aexec (tbA N A) (acall N A n) n a.body (putArgs args 0 .e) H=some (e,T2,H2)→FRel D F2 T2→HRel h2 H2 →
       (∀k,fcall tab (n+1) f args h k=rRes (E.mk n (fcall tab n)) (fRes D a.res) F2 h2 k) →
       (∀k,fcall tab (n+1) f args h k=.no)∨∃v h' H',tbA N A f=true∧acall N A (n+1) f args H=some (v,H')∧HRel h' H'∧∀k,fcall tab (n+1) f args h k=k v h':=by
      intro e F2 h2 T2 H2 hne hx Q2 QH2 hf2
      rcases evR_way S Q2 QH2 a.res with p | ⟨xs,p1,p2⟩
      ·exact .inl fun k=>(hf2 k).trans (p _)
      ·refine .inr ⟨aresV xs,h2,H2,by simp only[tbA,hf,hni,cond_false],?_,QH2,fun k=>(hf2 k).trans ((p2 _).trans (fResV_eq _ _))⟩
       rw[acall_succ,hni,hf]
       show (bif Nat.ble args.length a.nt then acRes a.res (aexec (tbA N A) (acall N A n) n a.body (putArgs args 0 .e) H) else none)=_
       rw[Nat.ble_eq_true_of_le hnt,hx]
       cases e with
       | exit i=>exact absurd rfl (hne i)
       | normal=>simp only[acRes,p1,cond_true]
       | ret=>simp only[acRes,p1,cond_true]
     rcases fCode_ok S a.body [] q2 QH with z | ⟨F2,h2,T2,H2,z1,z2,z3,z4⟩ | ⟨i,j,F2,h2,T2,H2,z1,zi,z2,z3,z4⟩ | ⟨F2,h2,T2,H2,z1,z2,z3,z4⟩
     ·exact .inl fun k=>(hv k).trans (z _ _ rfl)
     ·exact key .normal F2 h2 T2 H2 (fun i=>by simp) z1 z2 z3 fun k=>(hv k).trans (z4 _ _ rfl)
     ·simp[idx]at zi
     ·exact key .ret F2 h2 T2 H2 (fun i=>by simp) z1 z2 z3 fun k=>(hv k).trans (z4 _ _ rfl)
   ·exact .inl fun k=>(hu2 k).trans (args_len args a.nt (bif Nat.ble a.nt 12 then a.nt else 12) 0 u0 _ om)
section
variable {P:Program} {N:ANat}
def TabF(P:Program)(N:ANat)(tab:Tab):Prop:=∃A,TabOK P A∧TabRel N tab A
def ofL:List (Nat×Fn)→Tab
 | []=>emp none 4
 | (f,c)::r=>ndPut 4 (ofL r) f (some c)
def dOf(m:Nat):Nat→Bool:=fun i=>Nat.testBit m i
def cF(P:Program)(m:Nat)(f:FuncId):Option Fn:=match cFn P f with | some a=>some (fFn (dOf m) a) | none=>none
def cFE(P:Program)(md:Option PMd)(m:Nat)(i:Nat):Option Fn:=match eFn P md i with | some a=>some (fFn (dOf m) a) | none=>none
theorem cFE_of{P:Program}{m f:Nat}(hf:Nat.blt f BIG=true){c:Fn}(h:cF P m f=some c):cFE P none m f=some c:=by
 unfold cFE eFn
 rw[hf]
 exact h
theorem tabF_nil:TabF P N (ofL []):=⟨.e,fun _ _ h=>by simp[Tr.get]at h,fun f _=>by simp only[ofL,emp_get]⟩
theorem tabF_set{t:Tab}(h:TabF P N t){f:Nat}(hf:f<4096)(hni:N.is f=false){md:Option PMd}{m:Nat}{c:Fn}(hc:cFE P md m f=some c):TabF P N (ndPut 4 t f (some c)):=by
 obtain⟨A,h1,h2⟩:=h
 unfold cFE at hc
 cases ha:eFn P md f with
 | none=>rw[ha]at hc; simp at hc
 | some a=>
  rw[ha]at hc
  simp only[sJ]at hc
  subst hc
  refine⟨A.set f a,fun g fn hg=>?_,fun g hg=>?_⟩
  ·rw[Tr.get_set]at hg
   split at hg
   ·rename_i e; subst e; simp only[sJ]at hg; subst hg; exact⟨md,ha⟩
   ·exact h1 g fn hg
  ·rw[nd_get_put 4 _ _ _ _ hf hg]
   by_cases e:g=f
   ·rw[if_pos e]
    simp only[Tr.get_set,if_pos e]
    exact .inl ⟨by rw[e]; exact hni,a,dOf m,rfl,rfl⟩
   ·rw[if_neg e]
    have:=h2 g hg
    simp only[Tr.get_set,if_neg e]
    exact this
theorem tabF_nat{t:Tab}(h:TabF P N t){f:Nat}(hf:f<4096){c:Fn}(hc:NatF N f c):TabF P N (ndPut 4 t f (some c)):=by
 obtain⟨A,h1,h2⟩:=h
 refine⟨A,h1,fun g hg=>?_⟩
 rw[nd_get_put 4 _ _ _ _ hf hg]
 by_cases e:g=f
 ·rw[if_pos e,e]; exact .inr hc
 ·rw[if_neg e]; exact h2 g hg
theorem tabF_of{l:List (Nat×Fn)}(h:TabF P N (ofL l)){t:Tab}(e:ofL l=t):TabF P N t:=e ▸ h
theorem tabF_cons{l:List (Nat×Fn)}(h:TabF P N (ofL l)){f:Nat}{m:Nat}{c:Fn}(hf:Nat.blt f 1024=true)(hni:N.is f=false)(hc:cF P m f=some c):TabF P N (ofL ((f,c)::l)):=tabF_set h (Nat.lt_of_lt_of_le (blt_lt hf) om) hni (cFE_of hf hc)
theorem tabF_consE{l:List (Nat×Fn)}(h:TabF P N (ofL l)){md:Option PMd}{f:Nat}{m:Nat}{c:Fn}(hf:Nat.blt f 4096=true)(hni:N.is f=false)(hc:cFE P md m f=some c):TabF P N (ofL ((f,c)::l)):=tabF_set h (Nat.le_of_ble_eq_true hf) hni hc
theorem tabF_consN{l:List (Nat×Fn)}(h:TabF P N (ofL l)){f:Nat}{c:Fn}(hf:Nat.blt f 4096=true)(hc:NatF N f c):TabF P N (ofL ((f,c)::l)):=tabF_nat h (Nat.le_of_ble_eq_true hf) hc
def e1:N8 (Option FObj):=⟨none,none,none,none,none,none,none,none⟩
def e2:N8 (N8 (Option FObj)):=⟨e1,e1,e1,e1,e1,e1,e1,e1⟩
def e3:N8 (N8 (N8 (Option FObj))):=⟨e2,e2,e2,e2,e2,e2,e2,e2⟩
def e4:N8 (N8 (N8 (N8 (Option FObj)))):=⟨e3,e3,e3,e3,e3,e3,e3,e3⟩
def e5:N8 (N8 (N8 (N8 (N8 (Option FObj))))):=⟨e4,e4,e4,e4,e4,e4,e4,e4⟩
def h0:FHeap:=⟨nat_lit 0,e5⟩
theorem h0_rel:HRel h0 H0:=⟨rfl,by decide,fun b hb=>by
 rw[fget_lt hb]
 have:h0.tr=emp none 5:=rfl
 rw[this,emp_get]; rfl⟩
def yesT(v:AVal)(_:FHeap):R:=vBool v fun b=>ifb b .yes .no
theorem f_closed(hfol:P.follows .mixedOrders=true)(hN:NatOK P N){tab:Tab}(hT:TabF P N tab){n:Nat}{f:FuncId}{args:List AVal}{vs:Array Value}(hv:∀ρ,VRels ρ args vs.toList)
  (h:fcall tab n f args h0 yesT=.yes) (w:World) (hfb:Nat.blt f BIG=true:=by rfl):Calls P f vs w fun e w'=>e=.returned (.bool true)∧RowKit.Below w.heap.size w w':=by
 obtain⟨A,hA,hR⟩:=hT
 rcases fcall_ok hR n f args h0 H0 h0_rel with q | ⟨v,h',H',q1,q3,_,q4⟩
 ·rw[q]at h; simp at h
 ·rw[q4]at h
  refine closed_bool hfol hN hA (tab:=A) (n:=n) hfb hv (b:=true) ?_ w
  rw[q3]
  cases v
  case bool c=>
   cases c with
   | true=>rfl
   | false=>exact absurd h (by simp[yesT,vBool,ifb])
  all_goals exact absurd h (by simp[yesT,vBool])
end
end
end Go.Abs.F
namespace Go.Abs.F
open Go.Abs
noncomputable section
theorem cF_of{P:Program}{m:Nat}{f:FuncId}{a:AFn}{F:Fn}(h:cFn P f=some a)(e:fFn (dOf m) a=F):cF P m f=some F:=by
 simp only[cF,h,e]
theorem hv_reg{D:Nat→Bool}{bs:List Nat}{l:List AOper}{rl:List RO}{y:K}(h:resL D l []=rl)(e:fOps2 D rl=y):fCode D bs (.reg l)=y:=by
 rw[← e,← h]; rfl
end
end Go.Abs.F
namespace Go.Proofs.Wo
open Go.Abs Go.Abs.S
open Go Go.Abs Go.Abs.S
noncomputable def fClone:Go.Abs.F.Fn:=fun _ _ args h k=>match args with
 | [.str s]=>Go.Abs.F.sLen s (nat_lit 0) fun n=>Go.Abs.F.ifb (Nat.ble n (nat_lit 281474976710656)) (k (.str s) h) .no
 | _=>.no
theorem fClone_way(args:List AVal){h:Go.Abs.F.FHeap}{H:AHeap}(Q:Go.Abs.F.HRel h H)(n:Nat)(call:Go.Abs.F.CallT):(∀k,fClone n call args h k=.no)∨∃v h' H',aClone H args=some (v,H')∧Go.Abs.F.HRel h' H'∧∀k,fClone n call args h k=k v h':=by
 unfold fClone
 split
 ·rename_i s
  cases hb:Nat.ble s.length 281474976710656 with
  | false=>exact .inl fun k=>by rw[Go.Abs.F.sLen_eq,Nat.add_zero,Go.Abs.F.ifb_eq,hb]; rfl
  | true=>exact .inr ⟨.str s,h,H,by simp only[aClone,hb,cond_true],Q,fun k=>by rw[Go.Abs.F.sLen_eq,Nat.add_zero,Go.Abs.F.ifb_eq,hb]; rfl⟩
 ·exact .inl fun k=>rfl
theorem nat0_ok:NatOK Tryz.prog nat0:=by
 refine⟨fun f h=>?_,fun f args H v H' _ hr Prot w0 ρ w vs R hv=>?_⟩
 ·obtain rfl:f=153:=Nat.eq_of_beq_eq_true h
  kernel_rfl
 ·show Calls Tryz.prog f vs w _
  have hr2:(bif Nat.beq f 153 then aClone H args else none)=some (v,H'):=hr
  cases hb:Nat.beq f 153 with
  | false=>rw[hb]at hr2; simp at hr2
  | true=>
   obtain rfl:f=153:=Nat.eq_of_beq_eq_true hb
   rw[hb,cond_true]at hr2
   unfold aClone at hr2
   split at hr2 <;> first | (simp at hr2; done) | skip
   rename_i s
   cases hl:Nat.ble s.length 281474976710656 with
   | false=>rw[hl]at hr2; simp at hr2
   | true=>
    rw[hl]at hr2
    simp only[cond_true,sJ,pJ]at hr2
    obtain⟨rfl,rfl⟩:=hr2
    simp only[VRels,VRel]at hv
    obtain⟨v1,r1,e1,rfl,rfl⟩:=hv
    have hvs:vs=#[.string (strOf s)]:=Array.toList_inj.1 (by simpa using e1)
    subst hvs
    have hsz:(strOf s).size=s.length:=by simp[strOf,ByteArray.size]
    have:=Nat.le_of_ble_eq_true hl
    exact (Tryz.stringslite_Clone (strOf s) w (by rw[hsz]; exact this)).mono fun e w' ⟨he,hk⟩=>⟨ρ,_,Pl.le_refl _,he,R.keep hk,by simp only[VRel]⟩
theorem nat0_C:Go.Abs.F.NatF nat0 153 fClone:=⟨rfl,fun n call args _ _ Q=>fClone_way args Q n call⟩
end Go.Proofs.Wo
