/- Part of a proof (F5 F6 UFL UCl UUN UC2 UNM UNR); no condition. -/
import Derived.Shelf.LaysM
import Derived.Shelf.Strconv.Clone
import Derived.Test.YtopaelfdloklaaaGreatDoorProg
import Derived.KernelRfl
import Derived.Test.YtopaelfdloklaaaGreatDoorP8
import Derived.Test.YtopaelfdloklaaaGreatDoorP10
set_option linter.unusedSimpArgs false
set_option linter.unusedVariables false
set_option linter.unnecessarySimpa false
namespace Go.Abs.F
open Go.Abs
noncomputable section
def opC(o:FOp)(s:SV)(k:K):K:=fun e F h kn ks=>o e F h fun v h=>s v F fun F=>k e F h kn ks
def op0(o:FOp)(k:K):K:=fun e F h kn ks=>o e F h fun _ h=>k e F h kn ks
def sNo:SV:=fun _ _ _=>.no
def fS:Nat→SV:=fun d=>bif Nat.ble (Nat.succ d) (nat_lit 256) then sN d else sNo
def xGt(g:GV)(o:FOp):FOp:=fun e F h k=>g F fun x=>ifb (gdT x) (o e F h k) (k undefA h)
def xGf(g:GV)(o:FOp):FOp:=fun e F h k=>g F fun x=>ifb (gdF x) (o e F h k) (k undefA h)
def xGp(g:GV)(o:FOp):FOp:=fun e F h k=>g F fun x=>ifb (isPan x) (k undefA h) (o e F h k)
def fEnd:K:=fun _ F h kn _=>kn F h
def mapO(ρ:Opd→Opd):Option Opd→Option Opd
 | none=>none
 | some x=>some (ρ x)
def mapP(ρ:Opd→Opd):List (Nat×Nat×Opd)→List (Nat×Nat×Opd)
 | []=>[]
 | (o,n,x)::r=>(o,n,ρ x)::mapP ρ r
def mapOp(ρ:Opd→Opd):AOp→AOp
 | .mv x=>.mv (ρ x)
 | .pick c a b=>.pick (ρ c) (ρ a) (ρ b)
 | .new z=>.new z
 | .box x=>.box (ρ x)
 | .build z ps=>.build z (mapP ρ ps)
 | .buildSl n z ps=>.buildSl n z (mapP ρ ps)
 | .load a n x=>.load a n (ρ x)
 | .store n a x=>.store n (ρ a) (ρ x)
 | .nilChk x=>.nilChk (ρ x)
 | .bin op x y=>.bin op (ρ x) (ρ y)
 | .un op x=>.un op (ρ x)
 | .conv k x=>.conv k (ρ x)
 | .convSB x=>.convSB (ρ x)
 | .convBS x=>.convBS (ρ x)
 | .mkFunc fn a b=>.mkFunc fn (a.map ρ) (b.map ρ)
 | .mkIface t x=>.mkIface t (ρ x)
 | .mkSlice b z l c=>.mkSlice b z (ρ l) (ρ c)
 | .sl n x a b c=>.sl n (ρ x) (mapO ρ a) (mapO ρ b) (mapO ρ c)
 | .slStr x a b=>.slStr (ρ x) (mapO ρ a) (mapO ρ b)
 | .fieldA o x=>.fieldA o (ρ x)
 | .field a n o x=>.field a n o (ρ x)
 | .idxA n x i=>.idxA n (ρ x) (ρ i)
 | .idxArr m n x i=>.idxArr m n (ρ x) (ρ i)
 | .idx m n a x i=>.idx m n a (ρ x) (ρ i)
 | .idxS x i=>.idxS (ρ x) (ρ i)
 | .extract i x=>.extract i (ρ x)
 | .append n b s x=>.append n b (ρ s) (ρ x)
 | .len s x=>.len s (ρ x)
 | .call f l=>.call f (l.map ρ)
 | .callv f l=>.callv (ρ f) (l.map ρ)
 | .pf f l=>.pf f (l.map ρ)
 | .hf f l=>.hf f (l.map ρ)
 | .bad=>.bad
 | .claim b z s=>.claim b z s
 | .slA m n x a b c=>.slA m n (ρ x) (mapO ρ a) (mapO ρ b) (mapO ρ c)
section
variable {tb:FuncId→Bool} {call:FuncId→List AVal→AHeap→Option (AVal×AHeap)} {D:Nat→Bool}
theorem evs_map{ρ:Opd→Opd}{T:Tr AVal}(h:∀x,ev T (ρ x)=ev T x):∀l:List Opd,evs T (l.map ρ)=evs T l
 | []=>rfl
 | x::l=>by simp only[List.map_cons,evs,h,evs_map h l]
theorem evO_map{ρ:Opd→Opd}{T:Tr AVal}(h:∀x,ev T (ρ x)=ev T x)(x:Option Opd):evO T (mapO ρ x)=evO T x:=by
 cases x <;> simp only[mapO,evO,h]
theorem evP_map{ρ:Opd→Opd}{T:Tr AVal}(h:∀x,ev T (ρ x)=ev T x):∀l:List (Nat×Nat×Opd),evP T (mapP ρ l)=evP T l
 | []=>rfl
 | (o,n,x)::l=>by simp only[mapP,evP,h,evP_map h l]
theorem aop_map{ρ:Opd→Opd}{T:Tr AVal}(h:∀x,ev T (ρ x)=ev T x)(H:AHeap)(o:AOp):aop tb T H (mapOp ρ o)=aop tb T H o:=by
 cases o <;> simp only[mapOp,aop,h,evs_map h,evO_map h,evP_map h]
structure Al where
 s:Nat
 x:Opd
 g:Option (Nat×Bool)
def geq:Option (Nat×Bool)→Option (Nat×Bool)→Bool
 | some (a,b),some (c,d)=>Nat.beq a c&&(bif b then d else !d)
 | _,_=>false
def alFits(a:Al)(g:Option (Nat×Bool)):Bool:=match a.g with
 | none=>true
 | some _=>geq a.g g
def findA(σ:List Al)(g:Option (Nat×Bool))(i:Nat):Opd:=match σ with
 | []=>.t i
 | a::r=>bif Nat.beq a.s i&&alFits a g then a.x else findA r g i
def resA(σ:List Al)(g:Option (Nat×Bool)):Opd→Opd
 | .t i=>findA σ g i
 | x=>x
def AlOK(σ:List Al)(T:Tr AVal):Prop:=∀a∈σ,gOK T a.g=true→ev T (.t a.s)=ev T a.x
theorem geq_ok{a b:Option (Nat×Bool)}(h:geq a b=true):a=b:=by
 match a,b,h with
 | some (a,b),some (c,d),h=>
  simp only[geq,Bool.and_eq_true]at h
  have e:=Nat.eq_of_beq_eq_true h.1
  have:b=d:=by cases b <;> cases d <;> simp at h <;> rfl
  rw[e,this]
theorem findA_ok{σ:List Al}{T:Tr AVal}(hA:AlOK σ T){g:Option (Nat×Bool)}(hg:gOK T g=true)(i:Nat):ev T (findA σ g i)=ev T (.t i):=by
 induction σ with
 | nil=>rfl
 | cons a r ih=>
  simp only[findA]
  cases hb:Nat.beq a.s i&&alFits a g with
  | false=>exact ih fun a ha=>hA a (by simp[ha])
  | true=>
   simp only[Bool.and_eq_true]at hb
   have e:=Nat.eq_of_beq_eq_true hb.1
   have hga:gOK T a.g=true:=by
    cases hg':a.g with
    | none=>rfl
    | some q=>
     have:=hb.2
     simp only[alFits,hg']at this
     rw[geq_ok this]; exact hg
   rw[← e]
   exact (hA a (by simp) hga).symm
theorem resA_ok{σ:List Al}{T:Tr AVal}(hA:AlOK σ T){g:Option (Nat×Bool)}(hg:gOK T g=true)(x:Opd):ev T (resA σ g x)=ev T x:=by
 cases x with
 | t i=>exact findA_ok hA hg i
 | c v=>rfl
 | f i=>rfl
def isT(d:Nat):Opd→Bool
 | .t i=>Nat.beq i d
 | _=>false
def gT(d:Nat):Option (Nat×Bool)→Bool
 | some (t,_)=>Nat.beq (gS t) d
 | none=>false
def killA(d:Option Nat)(σ:List Al):List Al:=match d with
 | none=>σ
 | some d=>σ.filter fun a=>!(Nat.beq a.s d||(isT d a.x||gT d a.g))
theorem ev_other{T:Tr AVal}{d:Nat}{v:AVal}{x:Opd}(h:isT d x=false):ev (T.set d v) x=ev T x:=by
 cases x with
 | t i=>
  simp only[isT,beq_dec,decide_eq_false_iff_not]at h
  simp only[ev,Tr.get_set,if_neg h]
 | c v=>rfl
 | f i=>rfl
theorem gOK_other{T:Tr AVal}{d:Nat}{v:AVal}{g:Option (Nat×Bool)}(h:gT d g=false):gOK (T.set d v) g=gOK T g:=by
 cases g with
 | none=>rfl
 | some p=>
  obtain⟨t,b⟩:=p
  simp only[gOK]
  rw[ev_other (x:=.t (gS t)) h]
theorem killA_ok{σ:List Al}{T:Tr AVal}(hA:AlOK σ T)(d:Option Nat)(v:AVal):AlOK (killA d σ) (aput T d v):=by
 cases d with
 | none=>exact hA
 | some d=>
  intro a ha hg
  simp only[killA,List.mem_filter,Bool.not_eq_true',Bool.or_eq_false_iff]at ha
  obtain⟨hm,h1,h2,h3⟩:=ha
  simp only[aput]at hg ⊢
  rw[gOK_other h3]at hg
  rw[ev_other h2,ev_other (x:=.t a.s) h1]
  exact hA a hm hg
def resG(σ:List Al):Option (Nat×Bool)→Option (Nat×Bool)
 | none=>none
 | some (t,b)=>bif Nat.ble SK t then some (t,b) else match findA σ none t with
  | .t j=>bif Nat.ble SK j then some (t,b) else some (j,b)
  | _=>some (t,b)
theorem gS_no{t:Nat}(h:Nat.ble SK t=false):gS t=t:=by unfold gS; rw[h]; rfl
theorem gOK_sk(T:Tr AVal)(t:Nat)(b:Bool)(h:Nat.ble SK t=true):gOK T (some (t,b))=!isPan (ev T (.t (gS t))):=by
 simp only[gOK,gV,h,cond_true]
theorem gOK_ev(T:Tr AVal)(t:Nat)(b:Bool)(h:Nat.ble SK t=false):gOK T (some (t,b))=bif b then gdT (ev T (.t t)) else gdF (ev T (.t t)):=by
 simp only[gOK,gV,h,cond_false,gS_no h,gVb]
 cases hx:ev T (.t t) <;> cases b <;> simp only[gdT,gdF,nt_eq,cond_true,cond_false]
theorem resG_ok{σ:List Al}{T:Tr AVal}(hA:AlOK σ T)(g:Option (Nat×Bool)):gOK T (resG σ g)=gOK T g:=by
 cases g with
 | none=>rfl
 | some p=>
  obtain⟨t,b⟩:=p
  have:=findA_ok hA (g:=none) rfl t
  simp only[resG]
  cases hk:Nat.ble SK t with
  | true=>rfl
  | false=>
   simp only[cond_false]
   split
   ·rename_i j hj
    rw[hj]at this
    cases hj2:Nat.ble SK j with
    | true=>rfl
    | false=>simp only[cond_false]; rw[gOK_ev _ _ _ hj2,gOK_ev _ _ _ hk,this]
   ·rfl
def fOper(D:Nat→Bool)(op:AOp)(g:Option (Nat×Bool)):FOp:=match g with
 | none=>fOp D op
 | some (t,b)=>bif Nat.ble SK t then xGp (fX D (.t (gS t))) (fOp D op) else bif b then xGt (fX D (.t t)) (fOp D op) else xGf (fX D (.t t)) (fOp D op)
def fStp(D:Nat→Bool)(σ:List Al)(o:AOper):FOp:=fOper D (mapOp (resA σ o.guard) o.op) (resG σ o.guard)
def addA(d:Nat)(y:Opd)(g:Option (Nat×Bool))(σ:List Al):List Al:=match g with
 | none=>⟨d,y,none⟩::σ
 | some (t,b)=>bif Nat.beq (gS t) d then σ else ⟨d,y,some (t,b)⟩::σ
def nextA(D:Nat→Bool)(σ:List Al)(o:AOper):List Al:=match o.op,o.dst with
 | .mv x,some d=>bif !D d||isT d (resA σ o.guard x) then killA (some d) σ else addA d (resA σ o.guard x) o.guard (killA (some d) σ)
 | _,d=>killA d σ
def isMv:AOp→Bool
 | .mv _=>true
 | _=>false
def fOpsA(D:Nat→Bool):List AOper→List Al→K
 | [],_=>fEnd
 | o::r,σ=>match o.dst with
  | none=>op0 (fStp D σ o) (fOpsA D r (nextA D σ o))
  | some d=>bif D d then (bif isMv o.op then fOpsA D r (nextA D σ o) else op0 (fStp D σ o) (fOpsA D r (nextA D σ o))) else opC (fStp D σ o) (fS d) (fOpsA D r (nextA D σ o))
structure RO where
 op:AOp
 g:Option (Nat×Bool)
 d:Option Nat
def skips(D:Nat→Bool)(o:AOper):Bool:=match o.dst with
 | some d=>D d&&isMv o.op
 | none=>false
def keepD(D:Nat→Bool):Option Nat→Option Nat
 | some d=>bif D d then none else some d
 | none=>none
def resL(D:Nat→Bool):List AOper→List Al→List RO
 | [],_=>[]
 | o::r,σ=>bif skips D o then resL D r (nextA D σ o) else ⟨mapOp (resA σ o.guard) o.op,resG σ o.guard,keepD D o.dst⟩::resL D r (nextA D σ o)
def fOps2(D:Nat→Bool):List RO→K
 | []=>fEnd
 | x::r=>match x.d with
  | none=>op0 (fOper D x.op x.g) (fOps2 D r)
  | some d=>opC (fOper D x.op x.g) (fS d) (fOps2 D r)
theorem fOps2_eq(D:Nat→Bool):∀(l:List AOper) (σ:List Al),fOps2 D (resL D l σ)=fOpsA D l σ
 | [],_=>rfl
 | o::r,σ=>by
  have ih:=fOps2_eq D r (nextA D σ o)
  simp only[resL,fOpsA,skips]
  cases hd:o.dst with
  | none=>simp only[cond_false,fOps2,keepD,ih,fStp]
  | some d=>
   simp only
   cases hD:D d with
   | true=>
    cases hm:isMv o.op with
    | true=>simp only[Bool.and_self,cond_true,ih]
    | false=>simp only[Bool.and_false,cond_false,cond_true,fOps2,keepD,hD,ih,fStp]
   | false=>simp only[Bool.false_and,cond_false,fOps2,keepD,hD,ih,fStp]
def fOps(D:Nat→Bool)(l:List AOper):K:=fOps2 D (resL D l [])
theorem fS_way{d:Nat}(hD:D d=false∨True)(v:AVal){F:Fr}{T:Tr AVal}(Q:FRel D F T):(∀k,fS d v F k=.no)∨∃F',(∀k,fS d v F k=k F')∧FRel D F' (T.set d v):=by
 simp only[fS]
 cases h:Nat.ble (Nat.succ d) 256 with
 | false=>exact .inl fun k=>rfl
 | true=>exact .inr ⟨F.set d v,fun k=>by rw[sN_eq d (Nat.le_of_ble_eq_true h)]; exact st_eq d v F k,Q.set (Nat.le_of_ble_eq_true h) v⟩
theorem FRel.skip{F:Fr}{T:Tr AVal}(Q:FRel D F T){d:Nat}(hD:D d=true)(v:AVal):FRel D F (T.set d v):=by
 intro i hi hDi
 have hne:¬i=d:=fun e=>by subst e; rw[hD]at hDi; simp at hDi
 rw[Q i hi hDi]
 simp only[ev,Tr.get_set,if_neg hne]
theorem astep_val{o:AOper}{T:Tr AVal}{H:AHeap}(hg:gOK T o.guard=true):astep tb call o T H=aval tb call T H o.op:=by
 simp only[astep,hg,cond_true,aval]
 cases aop tb T H o.op with
 | none=>rfl
 | some p=>obtain⟨nx,H'⟩:=p; cases nx <;> rfl
theorem fOper_way{e:E}{n:Nat}{F:Fr}{h:FHeap}{T:Tr AVal}{H:AHeap}(S:ESim tb call e n)(Q:FRel D F T)(QH:HRel h H)(op:AOp)(g:Option (Nat×Bool)) :
  (∀k,fOper D op g e F h k=.no)∨(gOK T g=false∧∀k,fOper D op g e F h k=k undefA h)∨(gOK T g=true∧∃v h' H',aval tb call T H op=some (v,H')∧HRel h' H'∧∀k,fOper D op g e F h k=k v h'):=by
 cases g with
 | none=>
  rcases fOp_ok op S Q QH with p | p
  ·exact .inl p
  ·exact .inr (.inr ⟨rfl,p⟩)
 | some g=>
  obtain⟨t,b⟩:=g
  have hno:(∀k,fOper D op (some (t,b)) e F h k=.no)∨∀k,fOper D op (some (t,b)) e F h k=bif gOK T (some (t,b)) then fOp D op e F h k else k undefA h:=by
   simp only[fOper]
   cases hsk:Nat.ble SK t with
   | true=>
    simp only[cond_true]
    rcases fX_ok (.t (gS t)) F T Q with q | q
    ·exact .inl fun k=>q _
    ·right
     intro k
     rw[gOK_sk _ _ _ hsk]
     refine (q _).trans ?_
     rw[ifb_eq]
     cases isPan (ev T (.t (gS t))) <;> rfl
   | false=>
    simp only[cond_false]
    rcases fX_ok (.t t) F T Q with q | q
    ·cases b with
     | true=>exact .inl fun k=>q _
     | false=>exact .inl fun k=>q _
    ·right
     intro k
     rw[gOK_ev _ _ _ hsk,← ifb_eq]
     cases b with
     | true=>exact q _
     | false=>exact q _
  rcases hno with q | hu
  ·exact .inl q
  ·cases hgk:gOK T (some (t,b)) with
   | true=>
    rw[hgk]at hu
    rcases fOp_ok op S Q QH with p | ⟨x,h',H',p1,p2,p3⟩
    ·exact .inl fun k=>(hu k).trans (p k)
    ·exact .inr (.inr ⟨rfl,x,h',H',p1,p2,fun k=>(hu k).trans (p3 k)⟩)
   | false=>
    rw[hgk]at hu
    exact .inr (.inl ⟨rfl,hu⟩)
theorem fStp_way{e:E}{n:Nat}{F:Fr}{h:FHeap}{T:Tr AVal}{H:AHeap}(S:ESim tb call e n)(Q:FRel D F T)(QH:HRel h H){σ:List Al}(hA:AlOK σ T)(o:AOper) :
  (∀k,fStp D σ o e F h k=.no)∨∃v h' H',astep tb call o T H=some (v,H')∧HRel h' H'∧∀k,fStp D σ o e F h k=k v h':=by
 rcases fOper_way S Q QH (mapOp (resA σ o.guard) o.op) (resG σ o.guard) with p | ⟨p0,p⟩ | ⟨p0,v,h',H',p1,p2,p3⟩
 ·exact .inl p
 ·rw[resG_ok hA]at p0
  exact .inr ⟨undefA,h,H,by simp only[astep,p0,cond_false],QH,p⟩
 ·rw[resG_ok hA]at p0
  refine .inr ⟨v,h',H',?_,p2,p3⟩
  rw[astep_val p0]
  simp only[aval]at p1 ⊢
  rwa [aop_map (resA_ok hA p0)]at p1
theorem nextA_ok{D:Nat→Bool}{σ:List Al}{T:Tr AVal}{H H':AHeap}{v:AVal}(hA:AlOK σ T){o:AOper}(h:astep tb call o T H=some (v,H')):AlOK (nextA D σ o) (aput T o.dst v):=by
 have hk:=killA_ok hA o.dst v
 obtain⟨d,op,g⟩:=o
 simp only at hk
 unfold nextA
 split
 ·rename_i x d hop hd
  simp only at hop hd
  subst hop hd
  simp only
  have key:∀y:Opd,resA σ g x=y→isT d y=false→gT d g=false→AlOK (⟨d,y,g⟩::killA (some d) σ) (aput T (some d) v):=by
   intro y hy hyd hgd a ha hga
   simp only[List.mem_cons]at ha
   rcases ha with rfl | ha
   ·simp only[aput]at hga ⊢
    rw[gOK_other hgd]at hga
    rw[ev_other hyd,← hy,resA_ok hA hga]
    simp only[ev,Tr.get_set,if_pos]
    simp only[astep,hga,cond_true,aop,sJ,pJ]at h
    exact h.1.symm
   ·exact hk a ha hga
  cases hyd0:!D d||isT d (resA σ g x) with
  | true=>exact hk
  | false=>
   have hyd:isT d (resA σ g x)=false:=by simp only[Bool.or_eq_false_iff]at hyd0; exact hyd0.2
   simp only[cond_false]
   cases g with
   | none=>exact key _ rfl hyd rfl
   | some p=>
    obtain⟨t,b⟩:=p
    simp only[addA]
    cases hb2:Nat.beq (gS t) d with
    | true=>exact hk
    | false=>exact key _ rfl hyd hb2
 ·exact hk
theorem aregs_step(o:AOper)(r:List AOper)(T:Tr AVal)(H:AHeap):aregs tb call (o::r) T H=match astep tb call o T H with
  | some (v,H')=>aregs tb call r (aput T o.dst v) H'
  | none=>none:=by
 simp only[aregs,astep]
 cases gOK T o.guard with
 | false=>rfl
 | true=>
  simp only[cond_true]
  cases aop tb T H o.op with
  | none=>rfl
  | some p=>obtain⟨nx,H'⟩:=p; cases nx <;> rfl
def RegWay(k:K)(e:E)(F:Fr)(h:FHeap)(D:Nat→Bool)(a:Option (Tr AVal×AHeap)):Prop:=
 (∀kn ks,k e F h kn ks=.no)∨∃F' h' T' H',a=some (T',H')∧FRel D F' T'∧HRel h' H'∧∀kn ks,k e F h kn ks=kn F' h'
theorem fOpsA_ok{e:E}{n:Nat}(S:ESim tb call e n):∀(l:List AOper) (σ:List Al) {F:Fr} {h:FHeap} {T:Tr AVal} {H:AHeap},FRel D F T→HRel h H→AlOK σ T→RegWay (fOpsA D l σ) e F h D (aregs tb call l T H)
 | [],σ,F,h,T,H,Q,QH,_=>.inr ⟨F,h,T,H,rfl,Q,QH,fun kn ks=>rfl⟩
 | o::r,σ,F,h,T,H,Q,QH,hA=>by
  rw[aregs_step]
  have w:=fStp_way S Q QH hA o
  have go0:∀{v h' H'},astep tb call o T H=some (v,H')→HRel h' H'→(∀k,fStp D σ o e F h k=k v h')→FRel D F (aput T o.dst v)→RegWay (op0 (fStp D σ o) (fOpsA D r (nextA D σ o))) e F h D (match astep tb call o T H with | some (v,H')=>aregs tb call r (aput T o.dst v) H' | none=>none):=by
   intro v h' H' p1 p2 p3 Q'
   have hu:∀kn ks,op0 (fStp D σ o) (fOpsA D r (nextA D σ o)) e F h kn ks=fOpsA D r (nextA D σ o) e F h' kn ks:=fun kn ks=>p3 _
   rw[p1]
   rcases fOpsA_ok S r (nextA D σ o) Q' p2 (nextA_ok hA p1) with q | ⟨F2,h2,T2,H2,q1,q2,q3,q4⟩
   ·exact .inl fun kn ks=>(hu _ _).trans (q _ _)
   ·exact .inr ⟨F2,h2,T2,H2,q1,q2,q3,fun kn ks=>(hu _ _).trans (q4 _ _)⟩
  simp only[fOpsA]
  cases hd:o.dst with
  | none=>
   simp only
   rcases w with p | ⟨v,h',H',p1,p2,p3⟩
   ·exact .inl fun kn ks=>p _
   ·have:=go0 p1 p2 p3 (by rw[hd]; exact Q)
    rwa [hd]at this
  | some d=>
   simp only
   cases hD:D d with
   | true=>
    simp only[cond_true]
    cases hm:isMv o.op with
    | true=>
     simp only[cond_true]
     have hs:∃v,astep tb call o T H=some (v,H):=by
      cases hop:o.op <;> rw[hop]at hm <;> simp only[isMv,Bool.false_eq_true]at hm
      simp only[astep,hop,aop]
      cases gOK T o.guard <;> exact⟨_,rfl⟩
     obtain⟨v,hs⟩:=hs
     rw[hs]
     have ha:=nextA_ok (D:=D) hA hs
     rw[hd]at ha
     exact fOpsA_ok S r (nextA D σ o) (Q.skip hD v) QH ha
    | false=>
     simp only[cond_false]
     rcases w with p | ⟨v,h',H',p1,p2,p3⟩
     ·exact .inl fun kn ks=>p _
     ·have:=go0 p1 p2 p3 (by rw[hd]; exact Q.skip hD v)
      rwa [hd]at this
   | false=>
    simp only[cond_false]
    rcases w with p | ⟨v,h',H',p1,p2,p3⟩
    ·exact .inl fun kn ks=>p _
    ·rcases fS_way (d:=d) (.inr trivial) v Q with z | ⟨F',z1,z2⟩
     ·exact .inl fun kn ks=>(p3 _).trans (z _)
     ·have hu:∀kn ks,opC (fStp D σ o) (fS d) (fOpsA D r (nextA D σ o)) e F h kn ks=fOpsA D r (nextA D σ o) e F' h' kn ks:=fun kn ks=>(p3 _).trans (z1 _)
      rw[p1]
      have ha:=nextA_ok (D:=D) hA p1
      rw[hd]at ha
      rcases fOpsA_ok S r (nextA D σ o) z2 p2 ha with q | ⟨F2,h2,T2,H2,q1,q2,q3,q4⟩
      ·exact .inl fun kn ks=>(hu _ _).trans (q _ _)
      ·exact .inr ⟨F2,h2,T2,H2,q1,q2,q3,fun kn ks=>(hu _ _).trans (q4 _ _)⟩
theorem fOps_ok{e:E}{n:Nat}(S:ESim tb call e n)(l:List AOper){F:Fr}{h:FHeap}{T:Tr AVal}{H:AHeap}(Q:FRel D F T)(QH:HRel h H):RegWay (fOps D l) e F h D (aregs tb call l T H):=
 by rw[fOps,fOps2_eq]; exact fOpsA_ok S l [] Q QH fun a ha=>by simp at ha
def allNil:List (List Nat)→Bool
 | []=>true
 | []::r=>allNil r
 | _::_=>false
theorem chk_nil{hs:List AHeap}:∀(l:List AOper) (ps:List (List Nat)) (ss:List (AVal×AHeap)) (T:Tr AVal),allNil ps=true→chkRun tb hs l ps ss T=true:=by
 intro l
 induction l with
 | nil=>intro ps ss T _; rfl
 | cons o r ih=>
  intro ps ss T h
  cases ps with
  | nil=>rfl
  | cons p ps=>
   cases p with
   | nil=>
    cases ss with
    | nil=>rfl
    | cons s ss=>obtain⟨v,H⟩:=s; simp only[chkRun,List.all_nil,Bool.true_and]; exact ih _ _ _ h
   | cons q p=>simp[allNil]at h
theorem aregs_trace:∀(l:List AOper) (T:Tr AVal) (H:AHeap) (k:Nat),aregs tb call l T H=match atrace tb call l T H with
  | some ss=>some (tsel (fun _=>true) k l ss T,hAt H ss l.length)
  | none=>none:=by
 intro l
 induction l with
 | nil=>intro T H k; rfl
 | cons o r ih=>
  intro T H k
  rw[aregs_step]
  simp only[atrace]
  cases astep tb call o T H with
  | none=>rfl
  | some p=>
   obtain⟨v,H'⟩:=p
   simp only
   rw[ih _ _ (k+1)]
   cases ht:atrace tb call r (aput T o.dst v) H' with
   | none=>rfl
   | some ss=>
    have hl:=(trace_at r _ H' ss 0 ht).1
    have:hAt H' ss r.length=hAt H ((v,H')::ss) (o::r).length:=by
     simp only[List.length_cons]
     cases hr:r.length with
     | zero=>rfl
     | succ q=>
      simp only[hAt,List.getElem?_cons_succ]
      rw[List.getElem?_eq_getElem om]
    simp only[tsel,cond_true,this]
structure FStep where
 o:FOp
 d:Option SV
 ps:Option (List Nat)
def dS(D:Nat→Bool):Option Nat→Option SV
 | none=>none
 | some d=>bif D d then none else some (fS d)
def stepPs(o:AOper)(p:List Nat):Option (List Nat):=bif isLoad o.op then some p else match p with | []=>some [] | _=>none
def fStepO(D:Nat→Bool)(o:AOper):FOp:=fOper D o.op o.guard
def fSteps(D:Nat→Bool):List AOper→List (List Nat)→List FStep
 | [],_=>[]
 | o::r,[]=>⟨fStepO D o,dS D o.dst,some []⟩::fSteps D r []
 | o::r,p::ps=>⟨fStepO D o,dS D o.dst,stepPs o p⟩::fSteps D r ps
structure FT where
 F:Fr
 v:AVal
 h:FHeap
def dP(d:Option SV)(v:AVal)(F:Fr)(k:Fr→R):R:=match d with
 | none=>k F
 | some s=>s v F k
def fTr(e:E):List FStep→Fr→FHeap→(List FT→Fr→FHeap→R)→R:=@List.rec FStep (fun _=>Fr→FHeap→(List FT→Fr→FHeap→R)→R) (fun F h c=>c [] F h)
 (fun st _ ih F h c=>@FStep.rec (fun _=>R) (fun o s _=>o e F h fun v h'=>dP s v F fun F'=>ih F' h' fun ss F2 h2=>c (⟨F,v,h'⟩::ss) F2 h2) st)
def fPs(e:E)(hs:List FHeap)(o:FOp)(F:Fr)(v:AVal)(y:R):List Nat→R
 | []=>y
 | p::r=>match hs[p]? with
  | some hp=>o e F hp fun u _=>bif aeq u v then fPs e hs o F v y r else .no
  | none=>.no
def fChk(e:E)(hs:List FHeap)(y:R):List FStep→List FT→R
 | st::r,t::ts=>match st.ps with
  | some ps=>fPs e hs st.o t.F t.v (fChk e hs y r ts) ps
  | none=>.no
 | _,_=>y
def hsOf(h:FHeap)(ts:List FT):List FHeap:=h::ts.map (·.h)
def cTr(l:List FStep):K:=fun e F h kn _=>fTr e l F h fun ts F2 h2=>fChk e (hsOf h ts) (kn F2 h2) l ts
def TRel(D:Nat→Bool):List AOper→List FT→List (AVal×AHeap)→Tr AVal→Prop
 | [],ts,ss,_=>ts=[]∧ss=[]
 | o::r,ts,ss,T=>∃t ts' s ss',ts=t::ts'∧ss=s::ss'∧FRel D t.F T∧s.1=t.v∧HRel t.h s.2∧TRel D r ts' ss' (aput T o.dst t.v)
theorem dS_way(d:Option Nat)(v:AVal){F:Fr}{T:Tr AVal}(Q:FRel D F T):(∀k,dP (dS D d) v F k=.no)∨∃F',(∀k,dP (dS D d) v F k=k F')∧FRel D F' (aput T d v):=by
 cases d with
 | none=>exact .inr ⟨F,fun k=>rfl,Q⟩
 | some d=>
  simp only[dS]
  cases hD:D d with
  | true=>exact .inr ⟨F,fun k=>rfl,Q.skip hD v⟩
  | false=>exact fS_way (.inr trivial) v Q
theorem fStepO_way{e:E}{n:Nat}{F:Fr}{h:FHeap}{T:Tr AVal}{H:AHeap}(S:ESim tb call e n)(Q:FRel D F T)(QH:HRel h H)(o:AOper) :
  (∀k,fStepO D o e F h k=.no)∨∃v h' H',astep tb call o T H=some (v,H')∧HRel h' H'∧∀k,fStepO D o e F h k=k v h':=by
 rcases fOper_way S Q QH o.op o.guard with p | ⟨p0,p⟩ | ⟨p0,v,h',H',p1,p2,p3⟩
 ·exact .inl p
 ·exact .inr ⟨undefA,h,H,by simp only[astep,p0,cond_false],QH,p⟩
 ·exact .inr ⟨v,h',H',by rw[astep_val p0]; exact p1,p2,p3⟩
theorem fTr_way{e:E}{n:Nat}(S:ESim tb call e n):∀(l:List AOper) (ps:List (List Nat)) {F:Fr} {h:FHeap} {T:Tr AVal} {H:AHeap},FRel D F T→HRel h H →
  (∀c,fTr e (fSteps D l ps) F h c=.no)∨∃ts ss F2 h2,atrace tb call l T H=some ss∧TRel D l ts ss T∧(∀c,fTr e (fSteps D l ps) F h c=c ts F2 h2)∧∀k,FRel D F2 (tsel (fun _=>true) k l ss T)∧HRel h2 (hAt H ss l.length)
 | [],ps,F,h,T,H,Q,QH=>.inr ⟨[],[],F,h,rfl,⟨rfl,rfl⟩,fun c=>by cases ps <;> rfl,fun k=>⟨Q,QH⟩⟩
 | o::r,ps,F,h,T,H,Q,QH=>by
  have hu:∃(p:Option (List Nat)) (ps':List (List Nat)),∀c,fTr e (fSteps D (o::r) ps) F h c=fStepO D o e F h fun v h'=>dP (dS D o.dst) v F fun F'=>fTr e (fSteps D r ps') F' h' fun ss F2 h2=>c (⟨F,v,h'⟩::ss) F2 h2:=by
   cases ps with
   | nil=>exact⟨some [],[],fun c=>rfl⟩
   | cons p ps=>exact⟨stepPs o p,ps,fun c=>rfl⟩
  obtain⟨p,ps',hu⟩:=hu
  rcases fStepO_way S Q QH o with q | ⟨v,h',H',q1,q2,q3⟩
  ·exact .inl fun c=>(hu c).trans (q _)
  ·rcases dS_way o.dst v Q with w | ⟨F',w1,w2⟩
   ·exact .inl fun c=>(hu c).trans ((q3 _).trans (w _))
   ·rcases fTr_way S r ps' w2 q2 with z | ⟨ts,ss,F2,h2,z1,z2,z3,z4⟩
    ·exact .inl fun c=>(hu c).trans ((q3 _).trans ((w1 _).trans (z _)))
    ·refine .inr ⟨⟨F,v,h'⟩::ts,(v,H')::ss,F2,h2,by simp only[atrace,q1,z1],⟨_,ts,_,ss,rfl,rfl,Q,rfl,q2,z2⟩,fun c=>(hu c).trans ((q3 _).trans ((w1 _).trans (z3 _))),fun k=>?_⟩
     have hl:=(trace_at r _ H' ss 0 z1).1
     have:hAt H ((v,H')::ss) (o::r).length=hAt H' ss r.length:=by
      simp only[List.length_cons]
      cases hr:r.length with
      | zero=>rfl
      | succ q=>
       simp only[hAt,List.getElem?_cons_succ]
       rw[List.getElem?_eq_getElem om]
     rw[this]
     exact z4 (k+1)
def HsRel(hs:List FHeap)(Hs:List AHeap):Prop:=∀p:Nat,(hs[p]?=none)∨∃h H,hs[p]?=some h∧Hs[p]?=some H∧HRel h H
theorem trel_hs:∀(l:List AOper) {ts:List FT} {ss:List (AVal×AHeap)} {T:Tr AVal},TRel D l ts ss T→∀p:Nat,((ts.map (·.h))[p]?=none)∨∃h H,(ts.map (·.h))[p]?=some h∧(ss.map (·.2))[p]?=some H∧HRel h H
 | [],_,_,_,h,p=>by obtain⟨rfl,rfl⟩:=h; exact .inl rfl
 | o::r,_,_,_,h,p=>by
  obtain⟨t,ts',s,ss',rfl,rfl,h1,h2,h3,h4⟩:=h
  cases p with
  | zero=>exact .inr ⟨_,_,rfl,rfl,h3⟩
  | succ p=>simpa using trel_hs r h4 p
theorem fPs_way{e:E}{n:Nat}(S:ESim tb call e n){hs:List FHeap}{Hs:List AHeap}(hH:HsRel hs Hs){o:AOper}(ho:isLoad o.op=true){F:Fr}{T:Tr AVal}(Q:FRel D F T){v:AVal}:∀(ps:List Nat),
  (∀y,fPs e hs (fStepO D o) F v y ps=.no)∨((∀y,fPs e hs (fStepO D o) F v y ps=y)∧(ps.all fun p=>match Hs[p]? with
   | some Hp=>bif gOK T o.guard then (match aop tb T Hp o.op with | some (.val u,_)=>aeq u v | _=>false) else true
   | none=>false)=true)
 | []=>.inr ⟨fun y=>rfl,rfl⟩
 | p::r=>by
  have hu:∀y,fPs e hs (fStepO D o) F v y (p::r)=match hs[p]? with | some hp=>fStepO D o e F hp fun u _=>bif aeq u v then fPs e hs (fStepO D o) F v y r else .no | none=>.no:=fun y=>rfl
  rcases hH p with h0 | ⟨hp,Hp,h1,h2,h3⟩
  ·exact .inl fun y=>by rw[hu,h0]
  ·rcases fStepO_way S Q h3 o with q | ⟨u,h',H',q1,q2,q3⟩
   ·exact .inl fun y=>by rw[hu,h1]; exact q _
   ·have hv:∀y,fPs e hs (fStepO D o) F v y (p::r)=bif aeq u v then fPs e hs (fStepO D o) F v y r else .no:=fun y=>by rw[hu,h1]; exact q3 _
    cases ha:aeq u v with
    | false=>exact .inl fun y=>by rw[hv,ha]; rfl
    | true=>
     rw[ha]at hv
     simp only[cond_true]at hv
     rcases fPs_way S hH ho Q (v:=v) r with z | ⟨z1,z2⟩
     ·exact .inl fun y=>(hv y).trans (z y)
     ·refine .inr ⟨fun y=>(hv y).trans (z1 y),?_⟩
      rw[List.all_cons,z2,Bool.and_true,h2]
      simp only
      cases hg:gOK T o.guard with
      | false=>rfl
      | true=>
       rw[astep_val hg]at q1
       simp only[cond_true]
       cases hop:o.op <;> rw[hop]at ho <;> simp only[isLoad,Bool.false_eq_true]at ho
       all_goals
        rw[hop]at q1
        simp only[aval,aop]at q1 ⊢
       ·rename_i a m x
        cases hl:oLoad a m Hp (ev T x) with
        | none=>rw[hl]at q1; simp[vv]at q1
        | some w=>
         rw[hl]at q1
         simp only[vv,sJ,pJ]at q1 ⊢
         rw[q1.1]; exact ha
       ·rename_i b z s
        cases hl:aClaim Hp b z s with
        | none=>rw[hl]at q1; simp[vv]at q1
        | some w=>
         rw[hl]at q1
         simp only[vv,sJ,pJ]at q1 ⊢
         rw[q1.1]; exact ha
theorem fChk_way{e:E}{n:Nat}(S:ESim tb call e n){hs:List FHeap}{Hs:List AHeap}(hH:HsRel hs Hs):∀(l:List AOper) (ps:List (List Nat)) {ts:List FT} {ss:List (AVal×AHeap)} {T:Tr AVal},TRel D l ts ss T →
  (∀y,fChk e hs y (fSteps D l ps) ts=.no)∨((∀y,fChk e hs y (fSteps D l ps) ts=y)∧chkRun tb Hs l ps ss T=true)
 | [],ps,ts,ss,T,h=>.inr ⟨fun y=>by cases ps <;> rfl,rfl⟩
 | o::r,[],ts,ss,T,h=>by
  obtain⟨t,ts',s,ss',rfl,rfl,h1,h2,h3,h4⟩:=h
  rcases fChk_way S hH r [] h4 with z | ⟨z1,z2⟩
  ·exact .inl fun y=>z y
  ·exact .inr ⟨fun y=>z1 y,rfl⟩
 | o::r,p::ps,ts,ss,T,h=>by
  obtain⟨t,ts',s,ss',rfl,rfl,h1,h2,h3,h4⟩:=h
  obtain⟨sv,sH⟩:=s
  simp only at h2
  subst h2
  have hr:chkRun tb Hs (o::r) (p::ps) ((t.v,sH)::ss') T=((p.all fun p=>match Hs[p]? with
   | some Hp=>bif gOK T o.guard then (match aop tb T Hp o.op with | some (.val u,_)=>aeq u t.v | _=>false) else true
   | none=>false)&&chkRun tb Hs r ps ss' (aput T o.dst t.v)):=rfl
  have hu:∀y,fChk e hs y (fSteps D (o::r) (p::ps)) (t::ts')=match stepPs o p with
   | some q=>fPs e hs (fStepO D o) t.F t.v (fChk e hs y (fSteps D r ps) ts') q
   | none=>.no:=fun y=>rfl
  rw[hr]
  have rest:=fChk_way S hH r ps h4
  cases hl:isLoad o.op with
  | true=>
   simp only[stepPs,hl,cond_true]at hu
   rcases fPs_way S hH hl h1 (v:=t.v) p with z | ⟨z1,z2⟩
   ·exact .inl fun y=>(hu y).trans (z _)
   ·rw[z2]
    rcases rest with w | ⟨w1,w2⟩
    ·exact .inl fun y=>(hu y).trans ((z1 _).trans (w y))
    ·exact .inr ⟨fun y=>(hu y).trans ((z1 _).trans (w1 y)),by rw[w2]; rfl⟩
  | false=>
   simp only[stepPs,hl,cond_false]at hu
   cases p with
   | nil=>
    simp only[fPs]at hu
    rcases rest with w | ⟨w1,w2⟩
    ·exact .inl fun y=>(hu y).trans (w y)
    ·exact .inr ⟨fun y=>(hu y).trans (w1 y),by rw[w2]; rfl⟩
   | cons q p=>exact .inl fun y=>hu y
def unreg(a:Option (AEx×Tr AVal×AHeap)):Option (Tr AVal×AHeap):=match a with
 | some (.normal,T,H)=>some (T,H)
 | _=>none
theorem cTr_ok{e:E}{n:Nat}(S:ESim tb call e n)(l:List AOper)(chk:List (List Nat)){F:Fr}{h:FHeap}{T:Tr AVal}{H:AHeap}(Q:FRel D F T)(QH:HRel h H):RegWay (cTr (fSteps D l chk)) e F h D (unreg (adraw tb call l chk T H)):=by
 have hu:∀kn ks,cTr (fSteps D l chk) e F h kn ks=fTr e (fSteps D l chk) F h fun ts F2 h2=>fChk e (hsOf h ts) (kn F2 h2) (fSteps D l chk) ts:=fun kn ks=>rfl
 rcases fTr_way S l chk Q QH with q | ⟨ts,ss,F2,h2,q1,q2,q3,q4⟩
 ·exact .inl fun kn ks=>(hu _ _).trans (q _)
 ·have hH:HsRel (hsOf h ts) (H::ss.map (·.2)):=by
   intro p
   cases p with
   | zero=>exact .inr ⟨h,H,rfl,rfl,QH⟩
   | succ p=>simpa[hsOf] using trel_hs l q2 p
  rcases fChk_way S hH l chk q2 with z | ⟨z1,z2⟩
  ·exact .inl fun kn ks=>(hu _ _).trans ((q3 _).trans (z _))
  ·exact .inr ⟨F2,h2,_,_,by simp only[adraw,q1,z2,cond_true,unreg],(q4 0).1,(q4 0).2,fun kn ks=>(hu _ _).trans ((q3 _).trans (z1 _))⟩
def newsOf:List AOper→List (Option (List AVal))
 | []=>[]
 | o::r=>match newOf o.op with
  | some (z,s)=>(bif isMp s then none else some z)::newsOf r
  | none=>newsOf r
def pushO(z:Option (List AVal))(h:FHeap)(k:FHeap→R):R:=@Option.rec (List AVal) (fun _=>R) (hP h (.map [] (nat_lit 0)) fun _ h=>k h) (fun z=>fNew h z fun _ _ h=>k h) z
theorem pushO_way{h:FHeap}{H:AHeap}(Q:HRel h H)(z:List AVal)(s:Option (Nat×Nat)):(∀k,pushO (bif isMp s then none else some z) h k=.no)∨∃h',(∀k,pushO (bif isMp s then none else some z) h k=k h')∧HRel h' (H.push (resO z s)):=by
 unfold resO
 cases isMp s with
 | true=>
  rcases hP_way Q (.map [] 0) (A:=.map [] 0) rfl with p | ⟨h1,p1,p2⟩
  ·exact .inl fun k=>p fun _ h=>k h
  ·exact .inr ⟨h1,fun k=>p1 fun _ h=>k h,p2⟩
 | false=>
  rcases fNew_way Q z with p | ⟨h1,p1,p2⟩
  ·exact .inl fun k=>p fun _ _ h=>k h
  ·exact .inr ⟨h1,fun k=>p1 fun _ _ h=>k h,p2⟩
def pushL:List (Option (List AVal))→FHeap→(FHeap→R)→R:=@List.rec (Option (List AVal)) (fun _=>FHeap→(FHeap→R)→R) (fun h k=>k h) (fun z _ ih h k=>pushO z h fun h=>ih h k)
theorem pushL_way:∀(l:List AOper) {h:FHeap} {H:AHeap},HRel h H→(∀k,pushL (newsOf l) h k=.no)∨∃h',(∀k,pushL (newsOf l) h k=k h')∧HRel h' (reserves H l)
 | [],h,H,Q=>.inr ⟨h,fun k=>rfl,Q⟩
 | o::r,h,H,Q=>by
  cases hz:newOf o.op with
  | some p=>
   obtain⟨z,s⟩:=p
   have e0:newsOf (o::r)=(bif isMp s then none else some z)::newsOf r:=by simp only[newsOf,hz]
   rw[e0]
   rcases pushO_way Q z s with p | ⟨h1,p1,p2⟩
   ·exact .inl fun k=>p _
   rcases pushL_way r p2 with q | ⟨h2,q1,q2⟩
   ·exact .inl fun k=>(p1 _).trans (q _)
   exact .inr ⟨h2,fun k=>(p1 _).trans (q1 _),by simpa only [reserves,hz] using q2⟩
  | none=>
   have e1:newsOf (o::r)=newsOf r:=by simp only[newsOf,hz]
   have e2:reserves H (o::r)=reserves H r:=by simp only[reserves,hz]
   rw[e1,e2]
   exact pushL_way r Q
def cNew(zs:List (Option (List AVal)))(c:Nat→K):K:=fun e F h kn ks=>@FHeap.rec (fun _=>R) (fun nx tr=>pushL zs ⟨nx,tr⟩ fun h'=>c nx e F h' kn ks) h
theorem news_nil:∀(l:List AOper),newsOf l=[]→∀(b:Nat) (H:AHeap),claims b l=l∧reserves H l=H
 | [],_,b,H=>⟨rfl,rfl⟩
 | o::r,h,b,H=>by
  cases hz:newOf o.op with
  | some p=>obtain⟨z,s⟩:=p; simp[newsOf,hz]at h
  | none=>
   simp only[newsOf,hz]at h
   exact⟨by simp only[claims,hz,(news_nil r h b H).1],by simp only[reserves,hz,(news_nil r h b H).2]⟩
def dBody(D:Nat→Bool)(chk:List (List Nat))(l:List AOper):K:=bif allNil chk then fOps D l else cTr (fSteps D l chk)
def isNil:List (Option (List AVal))→Bool
 | []=>true
 | _=>false
def fDraw(D:Nat→Bool)(l:List AOper)(chk:List (List Nat)):K:=bif isNil (newsOf l) then dBody D chk l else cNew (newsOf l) fun b=>dBody D chk (claims b l)
theorem dBody_ok{e:E}{n:Nat}(S:ESim tb call e n)(l:List AOper)(chk:List (List Nat)){F:Fr}{h:FHeap}{T:Tr AVal}{H:AHeap}(Q:FRel D F T)(QH:HRel h H):RegWay (dBody D chk l) e F h D (unreg (adraw tb call l chk T H)):=by
 unfold dBody
 cases hn:allNil chk with
 | false=>exact cTr_ok S l chk Q QH
 | true=>
  have:unreg (adraw tb call l chk T H)=aregs tb call l T H:=by
   rw[aregs_trace l T H 0]
   unfold adraw
   cases ht:atrace tb call l T H with
   | none=>rfl
   | some ss=>simp only[chk_nil l chk ss T hn,cond_true]; rfl
  rw[this]
  exact fOps_ok S l Q QH
theorem fDraw_ok{e:E}{n:Nat}(S:ESim tb call e n)(l:List AOper)(chk:List (List Nat)){F:Fr}{h:FHeap}{T:Tr AVal}{H:AHeap}(Q:FRel D F T)(QH:HRel h H) :
  RegWay (fDraw D l chk) e F h D (unreg (adraw tb call (claims H.next l) chk T (reserves H l))):=by
 unfold fDraw
 cases hn:isNil (newsOf l) with
 | true=>
  have hz:newsOf l=[]:=by
   cases hq:newsOf l with
   | nil=>rfl
   | cons a b=>rw[hq]at hn; simp[isNil]at hn
  rw[(news_nil l hz H.next H).1,(news_nil l hz H.next H).2]
  exact dBody_ok S l chk Q QH
 | false=>
  have hu0:∀kn ks,(cNew (newsOf l) fun b=>dBody D chk (claims b l)) e F h kn ks=pushL (newsOf l) h fun h'=>dBody D chk (claims H.next l) e F h' kn ks:=by
   intro kn ks
   obtain⟨nx,tr⟩:=h
   have hn:nx=H.next:=QH.next
   subst hn
   rfl
  simp only[cond_false]
  rcases pushL_way l QH with q | ⟨h',q1,q2⟩
  ·exact .inl fun kn ks=>(hu0 _ _).trans (q _)
  ·rcases dBody_ok S (claims H.next l) chk Q q2 with z | ⟨F2,h2,T2,H2,z1,z2,z3,z4⟩
   ·exact .inl fun kn ks=>(hu0 _ _).trans ((q1 _).trans (z _ _))
   ·exact .inr ⟨F2,h2,T2,H2,z1,z2,z3,fun kn ks=>(hu0 _ _).trans ((q1 _).trans (z4 _ _))⟩
def cSeq(a b:K):K:=fun e F h kn ks=>a e F h (fun F h=>b e F h kn ks) ks
def cIf(g:GV)(a b:K):K:=fun e F h kn ks=>g F fun v=>vBool v fun v=>ifb v (a e F h kn ks) (b e F h kn ks)
def cBlk(c:K):K:=fun e F h kn ks=>c e F h kn (kn::ks)
def fLoop(c:K)(e:E)(ks:List Kn):Nat→Fr→FHeap→R:=@Nat.rec (fun _=>Fr→FHeap→R) (fun _ _=>.no) (fun _ ih F h=>c e F h ih ks)
def cLoop(c:K):K:=fun e F h _ ks=>@E.rec (fun _=>R) (fun n cl=>fLoop c ⟨n,cl⟩ ks n F h) e
def nthK:Nat→List Kn→Kn:=@Nat.rec (fun _=>List Kn→Kn) (fun ks=>@List.rec Kn (fun _=>Kn) (fun _ _=>.no) (fun k _ _=>k) ks) (fun _ ih ks=>@List.rec Kn (fun _=>Kn) (fun _ _=>.no) (fun _ t _=>ih t) ks)
def cExit(j:Nat):K:=fun _ F h _ ks=>nthK j ks F h
def cNo:K:=fun _ _ _ _ _=>.no
def idx(i:Nat):List Nat→Option Nat
 | []=>none
 | j::r=>bif Nat.beq i j then some 0 else match idx i r with | some n=>some (n+1) | none=>none
def exK(bs:List Nat)(i:Nat):K:=match idx i bs with | some j=>cExit j | none=>cNo
def fCode(D:Nat→Bool):List Nat→ACode→K
 | _,.skip=>fEnd
 | _,.reg l=>fOps D l
 | _,.draw l chk=>fDraw D l chk
 | bs,.seq a b=>cSeq (fCode D bs a) (fCode D bs b)
 | bs,.cond c a b=>cIf (fX D c) (fCode D bs a) (fCode D bs b)
 | bs,.block i c=>cBlk (fCode D (i::bs) c)
 | bs,.loop c=>cLoop (fCode D bs c)
 | bs,.exit i=>exK bs i
 | bs,.ret=>cExit bs.length
def CW(bs:List Nat)(k:K)(e:E)(F:Fr)(h:FHeap)(D:Nat→Bool)(a:Option (AEx×Tr AVal×AHeap)):Prop:=
 (∀kn ks,ks.length=bs.length+1→k e F h kn ks=.no) ∨
 (∃F' h' T' H',a=some (.normal,T',H')∧FRel D F' T'∧HRel h' H'∧∀kn ks,ks.length=bs.length+1→k e F h kn ks=kn F' h') ∨
 (∃i j F' h' T' H',a=some (.exit i,T',H')∧idx i bs=some j∧FRel D F' T'∧HRel h' H'∧∀kn ks,ks.length=bs.length+1→k e F h kn ks=nthK j ks F' h') ∨
 (∃F' h' T' H',a=some (.ret,T',H')∧FRel D F' T'∧HRel h' H'∧∀kn ks,ks.length=bs.length+1→k e F h kn ks=nthK bs.length ks F' h')
theorem RegWay.cw{bs:List Nat}{k:K}{e:E}{F:Fr}{h:FHeap}{a:Option (AEx×Tr AVal×AHeap)}{r:Option (Tr AVal×AHeap)}(w:RegWay k e F h D r)(ha:∀T H,r=some (T,H)→a=some (.normal,T,H)):CW bs k e F h D a:=by
 rcases w with q | ⟨F',h',T',H',q1,q2,q3,q4⟩
 ·exact .inl fun kn ks _=>q kn ks
 ·exact .inr (.inl ⟨F',h',T',H',ha _ _ q1,q2,q3,fun kn ks _=>q4 kn ks⟩)
def aseq(k:Tr AVal→AHeap→Option (AEx×Tr AVal×AHeap))(a:Option (AEx×Tr AVal×AHeap)):Option (AEx×Tr AVal×AHeap):=match a with
 | some (.normal,T,H)=>k T H
 | some (e,T,H)=>some (e,T,H)
 | none=>none
theorem CW.seq{bs:List Nat}{c:K}{e:E}{F:Fr}{h:FHeap}{a:Option (AEx×Tr AVal×AHeap)}{kb:List Kn→Kn→Kn}{ka:Tr AVal→AHeap→Option (AEx×Tr AVal×AHeap)}(w:CW bs c e F h D a)
  (hb:∀{F h T H},FRel D F T→HRel h H→CW bs (fun _ F h kn ks=>kb ks kn F h) e F h D (ka T H)) {k:K} (hk:∀kn ks,k e F h kn ks=c e F h (kb ks kn) ks):CW bs k e F h D (aseq ka a):=by
 rcases w with q | ⟨F',h',T',H',q1,q2,q3,q4⟩ | ⟨i,j,F',h',T',H',q1,qi,q2,q3,q4⟩ | ⟨F',h',T',H',q1,q2,q3,q4⟩
 ·exact .inl fun kn ks hl=>(hk _ _).trans (q _ _ hl)
 ·subst q1
  rcases hb q2 q3 with z | ⟨F2,h2,T2,H2,z1,z2,z3,z4⟩ | ⟨i,j,F2,h2,T2,H2,z1,zi,z2,z3,z4⟩ | ⟨F2,h2,T2,H2,z1,z2,z3,z4⟩
  ·exact .inl fun kn ks hl=>(hk _ _).trans ((q4 _ _ hl).trans (z kn ks hl))
  ·exact .inr (.inl ⟨F2,h2,T2,H2,z1,z2,z3,fun kn ks hl=>(hk _ _).trans ((q4 _ _ hl).trans (z4 kn ks hl))⟩)
  ·exact .inr (.inr (.inl ⟨i,j,F2,h2,T2,H2,z1,zi,z2,z3,fun kn ks hl=>(hk _ _).trans ((q4 _ _ hl).trans (z4 kn ks hl))⟩))
  ·exact .inr (.inr (.inr ⟨F2,h2,T2,H2,z1,z2,z3,fun kn ks hl=>(hk _ _).trans ((q4 _ _ hl).trans (z4 kn ks hl))⟩))
 ·subst q1
  exact .inr (.inr (.inl ⟨i,j,F',h',T',H',rfl,qi,q2,q3,fun kn ks hl=>(hk _ _).trans (q4 _ _ hl)⟩))
 ·subst q1
  exact .inr (.inr (.inr ⟨F',h',T',H',rfl,q2,q3,fun kn ks hl=>(hk _ _).trans (q4 _ _ hl)⟩))
theorem fLoop_ok{bs:List Nat}{c:K}{e:E}{ca:Tr AVal→AHeap→Option (AEx×Tr AVal×AHeap)}(hc:∀{F h T H},FRel D F T→HRel h H→CW bs c e F h D (ca T H)):∀(n:Nat) {F:Fr} {h:FHeap} {T:Tr AVal} {H:AHeap},FRel D F T→HRel h H→CW bs (fun _ F h _ ks=>fLoop c e ks n F h) e F h D (aloop ca n T H)
 | 0,_,_,_,_,_,_=>.inl fun kn ks _=>rfl
 | n+1,F,h,T,H,Q,QH=>by
  have ha:aloop ca (n+1) T H=aseq (aloop ca n) (ca T H):=by
   simp only[aloop,aseq]
   cases ca T H with
   | none=>rfl
   | some p=>obtain⟨e,T',H'⟩:=p; cases e <;> rfl
  rw[ha]
  exact (hc Q QH).seq (kb:=fun ks _=>fLoop c e ks n) (fun q1 q2=>fLoop_ok hc n q1 q2) fun kn ks=>rfl
theorem fCode_ok{e:E}{n:Nat}(S:ESim tb call e n):∀(c:ACode) (bs:List Nat) {F:Fr} {h:FHeap} {T:Tr AVal} {H:AHeap},FRel D F T→HRel h H→CW bs (fCode D bs c) e F h D (aexec tb call n c T H):=by
 intro c
 induction c with
 | skip=>intro bs F h T H Q QH; exact .inr (.inl ⟨F,h,T,H,rfl,Q,QH,fun kn ks _=>rfl⟩)
 | reg l=>
  intro bs F h T H Q QH
  refine (fOps_ok S l Q QH).cw fun T' H' hr=>?_
  simp only[aexec,hr]
 | draw l chk=>
  intro bs F h T H Q QH
  refine (fDraw_ok S l chk Q QH).cw fun T' H' hr=>?_
  simp only[aexec]
  revert hr
  unfold unreg
  split
  ·rename_i T2 H2 he
   intro hr
   simp only[sJ,pJ]at hr
   rw[he,hr.1,hr.2]
  ·intro hr; simp at hr
 | seq a b iha ihb=>
  intro bs F h T H Q QH
  have ha:aexec tb call n (.seq a b) T H=aseq (aexec tb call n b) (aexec tb call n a T H):=by
   simp only[aexec,aseq]
   cases aexec tb call n a T H with
   | none=>rfl
   | some p=>obtain⟨e,T',H'⟩:=p; cases e <;> rfl
  rw[ha]
  exact (iha bs Q QH).seq (kb:=fun ks kn F h=>fCode D bs b e F h kn ks) (fun q1 q2=>ihb bs q1 q2) fun kn ks=>rfl
 | cond c a b iha ihb=>
  intro bs F h T H Q QH
  have hu:∀kn ks,fCode D bs (.cond c a b) e F h kn ks=fX D c F fun v=>vBool v fun v=>ifb v (fCode D bs a e F h kn ks) (fCode D bs b e F h kn ks):=fun kn ks=>rfl
  rcases fX_ok c F T Q with q | q
  ·exact .inl fun kn ks _=>(hu _ _).trans (q _)
  ·have hb:(∃v,ev T c=.bool v)∨∀k,vBool (ev T c) k=.no:=by
    cases hv:ev T c <;> first | exact .inl ⟨_,rfl⟩ | exact .inr fun k=>rfl
   rcases hb with⟨v,hv⟩ | hv
   ·have hu2:∀kn ks,fCode D bs (.cond c a b) e F h kn ks=bif v then fCode D bs a e F h kn ks else fCode D bs b e F h kn ks:=fun kn ks=>by
     rw[hu,q,hv,← ifb_eq]; rfl
    cases v with
    | true=>
     have:aexec tb call n (.cond c a b) T H=aexec tb call n a T H:=by simp only[aexec,hv]
     rw[this]
     rcases iha bs Q QH with z | ⟨F2,h2,T2,H2,z1,z2,z3,z4⟩ | ⟨i,j,F2,h2,T2,H2,z1,zi,z2,z3,z4⟩ | ⟨F2,h2,T2,H2,z1,z2,z3,z4⟩
     ·exact .inl fun kn ks hl=>(hu2 _ _).trans (z kn ks hl)
     ·exact .inr (.inl ⟨F2,h2,T2,H2,z1,z2,z3,fun kn ks hl=>(hu2 _ _).trans (z4 kn ks hl)⟩)
     ·exact .inr (.inr (.inl ⟨i,j,F2,h2,T2,H2,z1,zi,z2,z3,fun kn ks hl=>(hu2 _ _).trans (z4 kn ks hl)⟩))
     ·exact .inr (.inr (.inr ⟨F2,h2,T2,H2,z1,z2,z3,fun kn ks hl=>(hu2 _ _).trans (z4 kn ks hl)⟩))
    | false=>
     have:aexec tb call n (.cond c a b) T H=aexec tb call n b T H:=by simp only[aexec,hv]
     rw[this]
     rcases ihb bs Q QH with z | ⟨F2,h2,T2,H2,z1,z2,z3,z4⟩ | ⟨i,j,F2,h2,T2,H2,z1,zi,z2,z3,z4⟩ | ⟨F2,h2,T2,H2,z1,z2,z3,z4⟩
     ·exact .inl fun kn ks hl=>(hu2 _ _).trans (z kn ks hl)
     ·exact .inr (.inl ⟨F2,h2,T2,H2,z1,z2,z3,fun kn ks hl=>(hu2 _ _).trans (z4 kn ks hl)⟩)
     ·exact .inr (.inr (.inl ⟨i,j,F2,h2,T2,H2,z1,zi,z2,z3,fun kn ks hl=>(hu2 _ _).trans (z4 kn ks hl)⟩))
     ·exact .inr (.inr (.inr ⟨F2,h2,T2,H2,z1,z2,z3,fun kn ks hl=>(hu2 _ _).trans (z4 kn ks hl)⟩))
   ·exact .inl fun kn ks _=>(hu _ _).trans ((q _).trans (hv _))
 | block i c ih=>
  intro bs F h T H Q QH
  have hu:∀kn ks,fCode D bs (.block i c) e F h kn ks=fCode D (i::bs) c e F h kn (kn::ks):=fun kn ks=>rfl
  have hlen:∀(kn:Kn) (ks:List Kn),ks.length=bs.length+1→(kn::ks).length=(i::bs).length+1:=fun kn ks hl=>by simp[hl]
  rcases ih (i::bs) Q QH with z | ⟨F2,h2,T2,H2,z1,z2,z3,z4⟩ | ⟨m,j,F2,h2,T2,H2,z1,zi,z2,z3,z4⟩ | ⟨F2,h2,T2,H2,z1,z2,z3,z4⟩
  ·exact .inl fun kn ks hl=>(hu _ _).trans (z _ _ (hlen kn ks hl))
  ·exact .inr (.inl ⟨F2,h2,T2,H2,by simp only[aexec,z1],z2,z3,fun kn ks hl=>(hu _ _).trans (z4 _ _ (hlen kn ks hl))⟩)
  ·cases hb:Nat.beq m i with
   | true=>
    have hj:j=0:=by
     simp only[idx,hb,cond_true,sJ]at zi
     exact zi.symm
    subst hj
    exact .inr (.inl ⟨F2,h2,T2,H2,by simp only[aexec,z1,hb,cond_true],z2,z3,fun kn ks hl=>(hu _ _).trans (z4 _ _ (hlen kn ks hl))⟩)
   | false=>
    simp only[idx,hb,cond_false]at zi
    cases hr:idx m bs with
    | none=>rw[hr]at zi; simp at zi
    | some q=>
     rw[hr]at zi
     simp only[sJ]at zi
     subst zi
     exact .inr (.inr (.inl ⟨m,q,F2,h2,T2,H2,by simp only[aexec,z1,hb,cond_false],hr,z2,z3,fun kn ks hl=>(hu _ _).trans (z4 _ _ (hlen kn ks hl))⟩))
  ·exact .inr (.inr (.inr ⟨F2,h2,T2,H2,by simp only[aexec,z1],z2,z3,fun kn ks hl=>(hu _ _).trans (z4 _ _ (hlen kn ks hl))⟩))
 | loop c ih=>
  intro bs F h T H Q QH
  have hl:=fLoop_ok (bs:=bs) (c:=fCode D bs c) (e:=e) (ca:=aexec tb call n c) (fun q1 q2=>ih bs q1 q2) n Q QH
  have hu:∀kn ks,fCode D bs (.loop c) e F h kn ks=fLoop (fCode D bs c) e ks n F h:=fun kn ks=>by
   obtain⟨m,cl⟩:=e
   have:=S.n
   simp only at this
   subst this
   rfl
  rcases hl with z | ⟨F2,h2,T2,H2,z1,z2,z3,z4⟩ | ⟨i,j,F2,h2,T2,H2,z1,zi,z2,z3,z4⟩ | ⟨F2,h2,T2,H2,z1,z2,z3,z4⟩
  ·exact .inl fun kn ks hl=>(hu _ _).trans (z kn ks hl)
  ·exact .inr (.inl ⟨F2,h2,T2,H2,z1,z2,z3,fun kn ks hl=>(hu _ _).trans (z4 kn ks hl)⟩)
  ·exact .inr (.inr (.inl ⟨i,j,F2,h2,T2,H2,z1,zi,z2,z3,fun kn ks hl=>(hu _ _).trans (z4 kn ks hl)⟩))
  ·exact .inr (.inr (.inr ⟨F2,h2,T2,H2,z1,z2,z3,fun kn ks hl=>(hu _ _).trans (z4 kn ks hl)⟩))
 | exit i=>
  intro bs F h T H Q QH
  cases hi:idx i bs with
  | none=>exact .inl fun kn ks _=>by simp only[fCode,exK,hi]; rfl
  | some j=>exact .inr (.inr (.inl ⟨i,j,F,h,T,H,rfl,hi,Q,QH,fun kn ks _=>by simp only[fCode,exK,hi]; rfl⟩))
 | ret=>intro bs F h T H Q QH; exact .inr (.inr (.inr ⟨F,h,T,H,rfl,Q,QH,fun kn ks _=>rfl⟩))
end
abbrev CallT:=FuncId→List AVal→FHeap→(AVal→FHeap→R)→R
abbrev Fn:=Nat→CallT→List AVal→FHeap→(AVal→FHeap→R)→R
def fArgs:List AVal→List SV→Fr→(Fr→R)→R:=@List.rec AVal (fun _=>List SV→Fr→(Fr→R)→R) (fun _ F k=>k F)
 (fun x _ ih ss F k=>@List.rec SV (fun _=>R) .no (fun s ss _=>s x F fun F=>ih ss F k) ss)
def svs:Nat→Nat→List SV
 | 0,_=>[]
 | n+1,i=>st i::svs n (i+1)
theorem fArgs_way{D:Nat→Bool}:∀(args:List AVal) (i n:Nat) {F:Fr} {T:Tr AVal},FRel D F T→i+n≤256→(∀k,fArgs args (svs n i) F k=.no)∨∃F',(∀k,fArgs args (svs n i) F k=k F')∧FRel D F' (putArgs args i T)
 | [],i,n,F,T,Q,_=>.inr ⟨F,fun k=>rfl,Q⟩
 | x::r,i,0,F,T,Q,_=>.inl fun k=>rfl
 | x::r,i,n+1,F,T,Q,hn=>by
  have hu:∀k,fArgs (x::r) (svs (n+1) i) F k=fArgs r (svs n (i+1)) (F.set i x) k:=fun k=>st_eq i x F fun F=>fArgs r (svs n (i+1)) F k
  rcases fArgs_way r (i+1) n (Q.set (d:=i) om x) om with q | ⟨F',q1,q2⟩
  ·exact .inl fun k=>(hu k).trans (q k)
  ·exact .inr ⟨F',fun k=>(hu k).trans (q1 k),q2⟩
def evR(e:E)(F:Fr)(h:FHeap):List FOp→(List AVal→R)→R:=@List.rec FOp (fun _=>(List AVal→R)→R) (fun k=>k []) (fun o _ ih k=>o e F h fun v _=>ih fun l=>k (v::l))
def fResV(l:List AVal)(k:AVal→R):R:=@List.rec AVal (fun _=>R) (k (.tuple [])) (fun x r _=>@List.rec AVal (fun _=>R) (k x) (fun y t _=>k (.tuple (x::y::t))) r) l
theorem fResV_eq(l:List AVal)(k:AVal→R):fResV l k=k (aresV l):=by
 rcases l with _ | ⟨x,_ | ⟨y,t⟩⟩ <;> rfl
def fRes(D:Nat→Bool):List ARes→List FOp
 | []=>[]
 | .t i::r=>xMv (fX D (.t i))::fRes D r
 | .cell g n i::r=>xLdOp g n (fX D (.t i))::fRes D r
def rRes(e:E)(res:List FOp)(F:Fr)(h:FHeap)(k:AVal→FHeap→R):R:=evR e F h res fun l=>fResV l fun v=>k v h
def mkFn(ss:List SV)(body:K)(res:List FOp):Fn:=fun n call args h k=>fArgs args ss u0 fun F=>body ⟨n,call⟩ F h (fun F h=>rRes ⟨n,call⟩ res F h k) [fun F h=>rRes ⟨n,call⟩ res F h k]
def fFn(D:Nat→Bool)(f:AFn):Fn:=mkFn (svs (bif Nat.ble f.nt (nat_lit 12) then f.nt else (nat_lit 12)) (nat_lit 0)) (fCode D [] f.body) (fRes D f.res)
abbrev Tab:=Nd (Option Fn) 4
def oFn(o:Option Fn)(k:Fn→R):R:=@Option.rec Fn (fun _=>R) .no k o
def fcall(tab:Tab):Nat→CallT:=@Nat.rec (fun _=>CallT) (fun _ _ _ _=>.no) (fun n ih f args h k=>(gsel (Option Fn) (nat_lit 4) f).on tab fun fn=>oFn fn fun fn=>fn n ih args h k)
theorem u0_rel{D:Nat→Bool}:FRel D u0 .e:=fun i _ _=>by rw[u0_get]; rfl
theorem evR_way{D:Nat→Bool}{tb:FuncId→Bool}{call:FuncId→List AVal→AHeap→Option (AVal×AHeap)}{e:E}{n:Nat}(S:ESim tb call e n){F:Fr}{h:FHeap}{T:Tr AVal}{H:AHeap}(Q:FRel D F T)(QH:HRel h H) :
  ∀(l:List ARes),(∀k,evR e F h (fRes D l) k=.no)∨∃xs,ares T H l=some xs∧∀k,evR e F h (fRes D l) k=k xs
 | []=>.inr ⟨[],rfl,fun k=>rfl⟩
 | .t i::r=>by
  rcases fX_ok (.t i) F T Q with q | q
  ·exact .inl fun k=>q _
  ·rcases evR_way S Q QH r with p | ⟨xs,p1,p2⟩
   ·exact .inl fun k=>(q _).trans (p _)
   ·exact .inr ⟨_,by simp only[ares,p1],fun k=>(q _).trans (p2 _)⟩
 | .cell g m i::r=>by
  have hop:OpOK tb call D (xLdOp g m (fX D (.t i))) (.load g m (.t i)):=fOp_ok (.load g m (.t i))
  rcases hop S Q QH with q | ⟨v,h',H',q1,q2,q3⟩
  ·exact .inl fun k=>q _
  ·rcases evR_way S Q QH r with p | ⟨xs,p1,p2⟩
   ·exact .inl fun k=>(q3 _).trans (p _)
   ·refine .inr ⟨v::xs,?_,fun k=>(q3 _).trans (p2 _)⟩
    simp only[aval,aop]at q1
    cases hl:oLoad g m H (ev T (.t i)) with
    | none=>rw[hl]at q1; simp[vv]at q1
    | some w=>
     rw[hl]at q1
     simp only[vv,sJ,pJ]at q1
     simp only[ares,hl,p1,q1.1]
theorem args_len(args:List AVal)(nt:Nat):∀(n i:Nat) (F:Fr) (k:Fr→R),n<args.length→fArgs args (svs n i) F k=.no:=by
 induction args with
 | nil=>intro n i F k h; simp at h
 | cons x r ih=>
  intro n i F k h
  cases n with
  | zero=>rfl
  | succ n=>
   exact (st_eq i x F fun F=>fArgs r (svs n (i+1)) F k).trans (ih n (i+1) _ k (by simp only[List.length_cons]at h; omega))
def acRes(res:List ARes)(r:Option (AEx×Tr AVal×AHeap)):Option (AVal×AHeap):=match r with
 | some (.exit _,_,_)=>none
 | some (_,T,H')=>match ares T H' res with
  | some l=>some (aresV l,H')
  | none=>none
 | none=>none
theorem acall_succ(N:ANat)(A:Tr AFn)(n:Nat)(f:FuncId)(args:List AVal)(H:AHeap):acall N A (n+1) f args H=bif N.is f then N.run f args H else match A.get f with
  | some fn=>bif Nat.ble args.length fn.nt then acRes fn.res (aexec (tbA N A) (acall N A n) n fn.body (putArgs args 0 .e) H) else none
  | none=>none:=by
 rfl
def NatF(N:ANat)(f:FuncId)(fn:Fn):Prop:=N.is f=true∧∀n call args h H,HRel h H→(∀k,fn n call args h k=.no)∨∃v h' H',N.run f args H=some (v,H')∧HRel h' H'∧∀k,fn n call args h k=k v h'
def TabRel(N:ANat)(tab:Tab)(A:Tr AFn):Prop:=∀f,f<4096→match ndGet 4 tab f with | some fn=>(N.is f=false∧∃a D,A.get f=some a∧fn=fFn D a)∨NatF N f fn | none=>True
theorem fcall_ok{N:ANat}{tab:Tab}{A:Tr AFn}(hT:TabRel N tab A):∀(n:Nat) (f:FuncId) (args:List AVal) (h:FHeap) (H:AHeap),HRel h H →
  (∀k,fcall tab n f args h k=.no)∨∃v h' H',tbA N A f=true∧acall N A n f args H=some (v,H')∧HRel h' H'∧∀k,fcall tab n f args h k=k v h':=by
 intro n
 induction n with
 | zero=>intro f args h H _; exact .inl fun k=>rfl
 | succ n ih=>
  intro f args h H QH
  have hu:∀k,fcall tab (n+1) f args h k=(gsel (Option Fn) 4 f).on tab fun fn=>oFn fn fun fn=>fn n (fcall tab n) args h k:=fun k=>rfl
  rcases gsel_way (α:=Option Fn) 4 f with q | ⟨hlt,q⟩
  ·exact .inl fun k=>(hu k).trans (q _ _)
  have ht:=hT f hlt
  cases hg:ndGet 4 tab f with
  | none=>exact .inl fun k=>(hu k).trans ((q _ _).trans (by rw[hg]; rfl))
  | some fn=>
   rw[hg]at ht
   rcases ht with⟨hni,a,D,hf,rfl⟩ | ⟨hni,hn⟩
   rotate_left
   ·have hu2:∀k,fcall tab (n+1) f args h k=fn n (fcall tab n) args h k:=fun k=>(hu k).trans ((q _ _).trans (by rw[hg]; rfl))
    rcases hn n (fcall tab n) args h H QH with p | ⟨v,h',H',p1,p2,p3⟩
    ·exact .inl fun k=>(hu2 k).trans (p k)
    ·exact .inr ⟨v,h',H',by simp only[tbA,hni,cond_true],by rw[acall_succ,hni]; exact p1,p2,fun k=>(hu2 k).trans (p3 k)⟩
   have hu2:∀k,fcall tab (n+1) f args h k=fFn D a n (fcall tab n) args h k:=fun k=>(hu k).trans ((q _ _).trans (by rw[hg]; rfl))
   have S:ESim (tbA N A) (acall N A n) (E.mk n (fcall tab n)) n:=⟨rfl,ih⟩
   by_cases hlen:args.length≤(bif Nat.ble a.nt 12 then a.nt else 12)
   ·have hnt:args.length≤a.nt:=by
     cases hb:Nat.ble a.nt 12 with
     | true=>rw[hb]at hlen; simpa using hlen
     | false=>
      rw[hb]at hlen
      have:¬a.nt≤12:=fun e=>by rw[Nat.ble_eq_true_of_le e]at hb; simp at hb
      simp only[cond_false]at hlen
      omega
    have h12:(bif Nat.ble a.nt 12 then a.nt else 12)≤12:=by
     cases hb:Nat.ble a.nt 12 with
     | true=>exact Nat.le_of_ble_eq_true hb
     | false=>exact Nat.le_refl _
    rcases fArgs_way (D:=D) args 0 (bif Nat.ble a.nt 12 then a.nt else 12) u0_rel om with q | ⟨F',q1,q2⟩
    ·exact .inl fun k=>(hu2 k).trans (q _)
    ·have hv:∀k,fcall tab (n+1) f args h k=fCode D [] a.body (E.mk n (fcall tab n)) F' h (fun F h=>rRes (E.mk n (fcall tab n)) (fRes D a.res) F h k) [fun F h=>rRes (E.mk n (fcall tab n)) (fRes D a.res) F h k]:=fun k=>(hu2 k).trans (q1 _)
     have key:∀(e:AEx) (F2:Fr) (h2:FHeap) (T2:Tr AVal) (H2:AHeap),(∀i,e≠.exit i)→aexec (tbA N A) (acall N A n) n a.body (putArgs args 0 .e) H=some (e,T2,H2)→FRel D F2 T2→HRel h2 H2 →
       (∀k,fcall tab (n+1) f args h k=rRes (E.mk n (fcall tab n)) (fRes D a.res) F2 h2 k) →
       (∀k,fcall tab (n+1) f args h k=.no)∨∃v h' H',tbA N A f=true∧acall N A (n+1) f args H=some (v,H')∧HRel h' H'∧∀k,fcall tab (n+1) f args h k=k v h':=by
      intro e F2 h2 T2 H2 hne hx Q2 QH2 hf2
      rcases evR_way S Q2 QH2 a.res with p | ⟨xs,p1,p2⟩
      ·exact .inl fun k=>(hf2 k).trans (p _)
      ·refine .inr ⟨aresV xs,h2,H2,by simp only[tbA,hf,hni,cond_false],?_,QH2,fun k=>(hf2 k).trans ((p2 _).trans (fResV_eq _ _))⟩
       rw[acall_succ,hni,hf]
       show (bif Nat.ble args.length a.nt then acRes a.res (aexec (tbA N A) (acall N A n) n a.body (putArgs args 0 .e) H) else none)=_
       rw[Nat.ble_eq_true_of_le hnt,hx]
       cases e with
       | exit i=>exact absurd rfl (hne i)
       | normal=>simp only[acRes,p1,cond_true]
       | ret=>simp only[acRes,p1,cond_true]
     rcases fCode_ok S a.body [] q2 QH with z | ⟨F2,h2,T2,H2,z1,z2,z3,z4⟩ | ⟨i,j,F2,h2,T2,H2,z1,zi,z2,z3,z4⟩ | ⟨F2,h2,T2,H2,z1,z2,z3,z4⟩
     ·exact .inl fun k=>(hv k).trans (z _ _ rfl)
     ·exact key .normal F2 h2 T2 H2 (fun i=>by simp) z1 z2 z3 fun k=>(hv k).trans (z4 _ _ rfl)
     ·simp[idx]at zi
     ·exact key .ret F2 h2 T2 H2 (fun i=>by simp) z1 z2 z3 fun k=>(hv k).trans (z4 _ _ rfl)
   ·exact .inl fun k=>(hu2 k).trans (args_len args a.nt (bif Nat.ble a.nt 12 then a.nt else 12) 0 u0 _ om)
section
variable {P:Program} {N:ANat}
def TabF(P:Program)(N:ANat)(tab:Tab):Prop:=∃A,TabOK P A∧TabRel N tab A
def ofL:List (Nat×Fn)→Tab
 | []=>emp none 4
 | (f,c)::r=>ndPut 4 (ofL r) f (some c)
def dOf(m:Nat):Nat→Bool:=fun i=>Nat.testBit m i
def cF(P:Program)(m:Nat)(f:FuncId):Option Fn:=match cFn P f with | some a=>some (fFn (dOf m) a) | none=>none
def cFE(P:Program)(md:Option PMd)(m:Nat)(i:Nat):Option Fn:=match eFn P md i with | some a=>some (fFn (dOf m) a) | none=>none
theorem cFE_of{P:Program}{m f:Nat}(hf:Nat.blt f BIG=true){c:Fn}(h:cF P m f=some c):cFE P none m f=some c:=by
 unfold cFE eFn
 rw[hf]
 exact h
theorem tabF_nil:TabF P N (ofL []):=⟨.e,fun _ _ h=>by simp[Tr.get]at h,fun f _=>by simp only[ofL,emp_get]⟩
theorem tabF_set{t:Tab}(h:TabF P N t){f:Nat}(hf:f<4096)(hni:N.is f=false){md:Option PMd}{m:Nat}{c:Fn}(hc:cFE P md m f=some c):TabF P N (ndPut 4 t f (some c)):=by
 obtain⟨A,h1,h2⟩:=h
 unfold cFE at hc
 cases ha:eFn P md f with
 | none=>rw[ha]at hc; simp at hc
 | some a=>
  rw[ha]at hc
  simp only[sJ]at hc
  subst hc
  refine⟨A.set f a,fun g fn hg=>?_,fun g hg=>?_⟩
  ·rw[Tr.get_set]at hg
   split at hg
   ·rename_i e; subst e; simp only[sJ]at hg; subst hg; exact⟨md,ha⟩
   ·exact h1 g fn hg
  ·rw[nd_get_put 4 _ _ _ _ hf hg]
   by_cases e:g=f
   ·rw[if_pos e]
    simp only[Tr.get_set,if_pos e]
    exact .inl ⟨by rw[e]; exact hni,a,dOf m,rfl,rfl⟩
   ·rw[if_neg e]
    have:=h2 g hg
    simp only[Tr.get_set,if_neg e]
    exact this
theorem tabF_nat{t:Tab}(h:TabF P N t){f:Nat}(hf:f<4096){c:Fn}(hc:NatF N f c):TabF P N (ndPut 4 t f (some c)):=by
 obtain⟨A,h1,h2⟩:=h
 refine⟨A,h1,fun g hg=>?_⟩
 rw[nd_get_put 4 _ _ _ _ hf hg]
 by_cases e:g=f
 ·rw[if_pos e,e]; exact .inr hc
 ·rw[if_neg e]; exact h2 g hg
theorem tabF_of{l:List (Nat×Fn)}(h:TabF P N (ofL l)){t:Tab}(e:ofL l=t):TabF P N t:=e ▸ h
theorem tabF_cons{l:List (Nat×Fn)}(h:TabF P N (ofL l)){f:Nat}{m:Nat}{c:Fn}(hf:Nat.blt f 1024=true)(hni:N.is f=false)(hc:cF P m f=some c):TabF P N (ofL ((f,c)::l)):=tabF_set h (Nat.lt_of_lt_of_le (blt_lt hf) om) hni (cFE_of hf hc)
theorem tabF_consN{l:List (Nat×Fn)}(h:TabF P N (ofL l)){f:Nat}{c:Fn}(hf:Nat.blt f 4096=true)(hc:NatF N f c):TabF P N (ofL ((f,c)::l)):=tabF_nat h (Nat.le_of_ble_eq_true hf) hc
def e1:N8 (Option FObj):=⟨none,none,none,none,none,none,none,none⟩
def e2:N8 (N8 (Option FObj)):=⟨e1,e1,e1,e1,e1,e1,e1,e1⟩
def e3:N8 (N8 (N8 (Option FObj))):=⟨e2,e2,e2,e2,e2,e2,e2,e2⟩
def e4:N8 (N8 (N8 (N8 (Option FObj)))):=⟨e3,e3,e3,e3,e3,e3,e3,e3⟩
def e5:N8 (N8 (N8 (N8 (N8 (Option FObj))))):=⟨e4,e4,e4,e4,e4,e4,e4,e4⟩
def h0:FHeap:=⟨nat_lit 0,e5⟩
theorem h0_rel:HRel h0 H0:=⟨rfl,by decide,fun b hb=>by
 rw[fget_lt hb]
 have:h0.tr=emp none 5:=rfl
 rw[this,emp_get]; rfl⟩
def yesT(v:AVal)(_:FHeap):R:=vBool v fun b=>ifb b .yes .no
end
end
end Go.Abs.F
namespace Go.Abs.F
open Go.Abs
noncomputable section
theorem cF_of{P:Program}{m:Nat}{f:FuncId}{a:AFn}{F:Fn}(h:cFn P f=some a)(e:fFn (dOf m) a=F):cF P m f=some F:=by
 simp only[cF,h,e]
theorem hv_reg{D:Nat→Bool}{bs:List Nat}{l:List AOper}{rl:List RO}{y:K}(h:resL D l []=rl)(e:fOps2 D rl=y):fCode D bs (.reg l)=y:=by
 rw[← e,← h]; rfl
theorem hv_draw{D:Nat→Bool}{bs:List Nat}{l:List AOper}{chk:List (List Nat)}{rl:List RO}{y:K}(hn:isNil (newsOf l)=true)(ha:allNil chk=true)(h:resL D l []=rl)(e:fOps2 D rl=y):fCode D bs (.draw l chk)=y:=by
 rw[← e,← h]
 simp only[fCode,fDraw,hn,dBody,ha,cond_true]
 rfl
end
end Go.Abs.F
namespace Go.Proofs.St
open Go.Abs Go.Abs.S
open Go Go.Abs Go.Abs.F
noncomputable section
def fRowL(h:FHeap)(xs:List AVal)(low:Nat)(k:FHeap→R):R:=len1 xs (nat_lit 0) fun n=>csFit n (nat_lit 8) cs0 fun t=>stL xs t (nat_lit 0) fun t n=>hP h (.cells t n low false) fun _ h=>k h
theorem fRowL_way{h:FHeap}{H:AHeap}(Q:HRel h H)(xs:List AVal)(low:Nat):(∀k,fRowL h xs low k=.no)∨∃h',(∀k,fRowL h xs low k=k h')∧HRel h' (H.push (.cells xs low false)):=by
 have hu:∀k,fRowL h xs low k=csFit xs.length 8 cs0 fun t=>stL xs t 0 fun t n=>hP h (.cells t n low false) fun _ h=>k h:=fun k=>len1_eq _ _ _
 rcases csFit_way xs.length 8 cs0 with q | ⟨t0,q,_⟩
 ·exact .inl fun k=>(hu k).trans (q _)
 ·rcases stL_way xs t0 0 with s | ⟨t',s1,s2⟩
  ·exact .inl fun k=>(hu k).trans ((q _).trans (s _))
  ·rw[Nat.zero_add]at s1
   rcases hP_way Q (.cells t' xs.length low false) (A:=.cells xs low false) (by simp only[FObj.abs,cellsOf_new s2]) with r | ⟨h',q1,q2⟩
   ·exact .inl fun k=>(hu k).trans ((q _).trans ((s1 _).trans (r _)))
   ·exact .inr ⟨h',fun k=>(hu k).trans ((q _).trans ((s1 _).trans (q1 _))),q2⟩
def fKeys:List Key→FHeap→(FHeap→R)→R:=@List.rec Key (fun _=>FHeap→(FHeap→R)→R) (fun h k=>k h) (fun p _ ih h k=>fRowL h [.str p.1] (nat_lit 1) fun h=>fV p.2 fun v=>fRowL h [v] (nat_lit 1) fun h=>ih h k)
theorem fKeys_way:∀(ks:List Key) {h:FHeap} {H:AHeap},HRel h H→(∀k,fKeys ks h k=.no)∨∃h',(∀k,fKeys ks h k=k h')∧HRel h' (pushK ks H)
 | [],h,H,Q=>.inr ⟨h,fun k=>rfl,Q⟩
 | (x,y)::r,h,H,Q=>by
  have hu:∀k,fKeys ((x,y)::r) h k=fRowL h [.str x] 1 fun h=>fRowL h [y] 1 fun h=>fKeys r h k:=fun k=>by
   have:fKeys ((x,y)::r) h k=fRowL h [.str x] 1 fun h=>fV y fun v=>fRowL h [v] 1 fun h=>fKeys r h k:=rfl
   rw[this]
   congr 1
   funext h
   exact fV_eq _ _
  rcases fRowL_way Q [.str x] 1 with q | ⟨h1,q1,q2⟩
  ·exact .inl fun k=>(hu k).trans (q _)
  rcases fRowL_way q2 [y] 1 with p | ⟨h2,p1,p2⟩
  ·exact .inl fun k=>(hu k).trans ((q1 _).trans (p _))
  rcases fKeys_way r p2 with s | ⟨h3,s1,s2⟩
  ·exact .inl fun k=>(hu k).trans ((q1 _).trans ((p1 _).trans (s _)))
  ·exact .inr ⟨h3,fun k=>(hu k).trans ((q1 _).trans ((p1 _).trans (s1 _))),s2⟩
def hpN(n:Nat):AHeap:=⟨n,.e⟩
def fLinesB(n:Nat)(a:Ad)(h:FHeap)(k:AVal→FHeap→R):R:=
 fRowL h [.ptr (some a)] (nat_lit 0) fun h=>fV (.ptr (some ⟨a.b,a.lim,a.o+0⟩)) fun p=>fRowL h [p] (nat_lit 1) fun h=>hP h (.map [] (nat_lit 0)) fun _ h=>
  fKeys (ksL (spL (hpN n))) h fun h=>fEs (allE (hpN n) a) fun es=>fN (n+2) fun m=>hS h m (.map es (nat_lit 15)) fun h=>k (.map (some m)) h
def fLines:Go.Abs.F.Fn:=fun _ _ args h k=>match args with
 | [.ptr (some a)]=>@FHeap.rec (fun _=>R) (fun nx tr=>fN nx fun n=>fLinesB n a ⟨nx,tr⟩ k) h
 | _=>.no
theorem fLinesB_way{h:FHeap}{H:AHeap}(Q:HRel h H)(a:Ad):(∀k,fLinesB H.next a h k=.no)∨∃v h' H',linesA H [.ptr (some a)]=some (v,H')∧HRel h' H'∧∀k,fLinesB H.next a h k=k v h':=by
 have hu:∀k,fLinesB H.next a h k=fRowL h [.ptr (some a)] 0 fun h=>fRowL h [.ptr (some ⟨a.b,a.lim,a.o+0⟩)] 1 fun h=>hP h (.map [] 0) fun _ h=>
   fKeys (ksL (spL H)) h fun h=>hS h (H.next+2) (.map (allE H a) 15) fun h=>k (.map (some (H.next+2))) h:=fun k=>by
  have e1:allE (hpN H.next) a=allE H a:=rfl
  have e2:spL (hpN H.next)=spL H:=rfl
  simp only[fLinesB,fV_eq,fEs_eq,fN_eq,e1,e2]
 rcases fRowL_way Q [.ptr (some a)] 0 with q | ⟨h1,q1,q2⟩
 ·exact .inl fun k=>(hu k).trans (q _)
 rcases fRowL_way q2 [.ptr (some ⟨a.b,a.lim,a.o+0⟩)] 1 with p | ⟨h2,p1,p2⟩
 ·exact .inl fun k=>(hu k).trans ((q1 _).trans (p _))
 rcases hP_way p2 (.map [] 0) (A:=.map [] 0) rfl with s | ⟨h3,s1,s2⟩
 ·exact .inl fun k=>(hu k).trans ((q1 _).trans ((p1 _).trans (s _)))
 rcases fKeys_way (ksL (spL H)) s2 with r | ⟨h4,r1,r2⟩
 ·exact .inl fun k=>(hu k).trans ((q1 _).trans ((p1 _).trans ((s1 _).trans (r _))))
 rcases hS_way r2 (H.next+2) (.map (allE H a) 15) (A:=.map (allE H a) 15) rfl with t | ⟨h5,t1,t2⟩
 ·exact .inl fun k=>(hu k).trans ((q1 _).trans ((p1 _).trans ((s1 _).trans ((r1 _).trans (t _)))))
 ·exact .inr ⟨.map (some (H.next+2)),h5,_,rfl,t2,fun k=>(hu k).trans ((q1 _).trans ((p1 _).trans ((s1 _).trans ((r1 _).trans (t1 _)))))⟩
theorem fLines_way(args:List AVal){h:FHeap}{H:AHeap}(Q:HRel h H)(n:Nat)(call:CallT):(∀k,fLines n call args h k=.no)∨∃v h' H',linesA H args=some (v,H')∧HRel h' H'∧∀k,fLines n call args h k=k v h':=by
 unfold fLines
 split
 ·rename_i a
  obtain⟨nx,tr⟩:=h
  have hn:nx=H.next:=Q.next
  subst hn
  rcases fLinesB_way Q a with q | ⟨v,h',H',q1,q2,q3⟩
  ·exact .inl fun k=>(fN_eq _ _).trans (q _)
  ·exact .inr ⟨v,h',H',q1,q2,fun k=>(fN_eq _ _).trans (q3 _)⟩
 ·exact .inl fun k=>rfl
end
end Go.Proofs.St
namespace Go.Proofs
open Go.Shelf
def Tryz.laysM316_ren:Go.Shelf.Ren:=⟨fun | 316=>211 | n=>n,fun | 9=>9 | 3=>3 | 4=>4 | 37=>23 | 0=>0 | 127=>426 | 5=>5 | n=>n,fun | n=>n⟩
theorem Tryz.laysM316:Go.Proofs.LaysM.n316 Tryz.prog Tryz.laysM316_ren:={
 mixed:=by kernel_rfl
 f316:=Tryz.func211.trans (congrArg some (by kernel_rfl))
 t0:=Tryz.underlying0
 a0:=Tryz.isAgg0
 z0:=Tryz.sizeOf0
 v0:=Tryz.zeroValue0
 t3:=Tryz.underlying3
 a3:=Tryz.isAgg3
 z3:=Tryz.sizeOf3
 v3:=Tryz.zeroValue3
 t4:=Tryz.underlying4
 a4:=Tryz.isAgg4
 z4:=Tryz.sizeOf4
 v4:=Tryz.zeroValue4
 t9:=Tryz.underlying9
 a9:=Tryz.isAgg9
 z9:=Tryz.sizeOf9
 v9:=Tryz.zeroValue9
 t37:=Tryz.underlying23
 a37:=Tryz.isAgg23
 z37:=Tryz.sizeOf23
 v37:=Tryz.zeroValue23
 t127:=Tryz.underlying426
 a127:=Tryz.isAgg426
 z127:=Tryz.sizeOf426
 v127:=Tryz.zeroValue426
 t5:=Tryz.underlying5
 a5:=Tryz.isAgg5
 z5:=Tryz.sizeOf5
 v5:=Tryz.zeroValue5
 i0:=by kernel_rfl
 i3:=by kernel_rfl
 i4:=by kernel_rfl
 i5:=by kernel_rfl
 i9:=by kernel_rfl
 i37:=by kernel_rfl
 i127:=by kernel_rfl }
open Go.RowKit in
theorem Tryz.stringslite_Clone(s:ByteArray)(w:World)(hlim:s.size≤281474976710656) :
  Calls Tryz.prog 211 #[.string s] w fun e w'=>e=.returned (.string s)∧Below w.heap.size w w':=Any.stringslite_Clone Tryz.laysM316 s w hlim
end Go.Proofs
namespace Go.Proofs.St
open Go.Abs Go.Abs.S
open Go Go.Abs Go.Abs.S
def aCloneU(H:AHeap):List AVal→Option (AVal×AHeap)
 | [.str s]=>bif Nat.ble s.length 281474976710656 then some (.str s,H) else none
 | _=>none
noncomputable def fClone:Go.Abs.F.Fn:=fun _ _ args h k=>match args with
 | [.str s]=>Go.Abs.F.sLen s (nat_lit 0) fun n=>Go.Abs.F.ifb (Nat.ble n (nat_lit 281474976710656)) (k (.str s) h) .no
 | _=>.no
theorem fClone_way(args:List AVal){h:Go.Abs.F.FHeap}{H:AHeap}(Q:Go.Abs.F.HRel h H)(n:Nat)(call:Go.Abs.F.CallT):(∀k,fClone n call args h k=.no)∨∃v h' H',aCloneU H args=some (v,H')∧Go.Abs.F.HRel h' H'∧∀k,fClone n call args h k=k v h':=by
 unfold fClone
 split
 ·rename_i s
  cases hb:Nat.ble s.length 281474976710656 with
  | false=>exact .inl fun k=>by rw[Go.Abs.F.sLen_eq,Nat.add_zero,Go.Abs.F.ifb_eq,hb]; rfl
  | true=>exact .inr ⟨.str s,h,H,by simp only[aCloneU,hb,cond_true],Q,fun k=>by rw[Go.Abs.F.sLen_eq,Nat.add_zero,Go.Abs.F.ifb_eq,hb]; rfl⟩
 ·exact .inl fun k=>rfl
def natU:ANat:=⟨fun f=>Nat.beq f 47||Nat.beq f 211,fun f args H=>bif Nat.beq f 47 then linesA H args else bif Nat.beq f 211 then aCloneU H args else none,fun _=>none⟩
theorem hbLines:hasBody Tryz.prog 47=true:=by kernel_rfl
theorem hbClone:hasBody Tryz.prog 211=true:=by kernel_rfl
theorem natU_ok:NatOK Tryz.prog natU:=by
 refine⟨fun f h=>?_,fun f args H v H' _ hr Prot w0 ρ w vs R hv=>?_⟩
 ·have h':(Nat.beq f 47||Nat.beq f 211)=true:=h
  rw[Bool.or_eq_true]at h'
  rcases h' with h | h
  ·obtain rfl:f=47:=Nat.eq_of_beq_eq_true h
   exact hbLines
  ·obtain rfl:f=211:=Nat.eq_of_beq_eq_true h
   exact hbClone
 ·show Calls Tryz.prog f vs w _
  have hr2:(bif Nat.beq f 47 then linesA H args else bif Nat.beq f 211 then aCloneU H args else none)=some (v,H'):=hr
  cases hb:Nat.beq f 47 with
  | true=>
   obtain rfl:f=47:=Nat.eq_of_beq_eq_true hb
   rw[hb,cond_true]at hr2
   exact lines_run hr2 Prot w0 ρ w vs R hv
  | false=>
  rw[hb,cond_false]at hr2
  cases hb2:Nat.beq f 211 with
  | false=>rw[hb2]at hr2; simp at hr2
  | true=>
   obtain rfl:f=211:=Nat.eq_of_beq_eq_true hb2
   rw[hb2,cond_true]at hr2
   unfold aCloneU at hr2
   split at hr2 <;> first | (simp at hr2; done) | skip
   rename_i s
   cases hl:Nat.ble s.length 281474976710656 with
   | false=>rw[hl]at hr2; simp at hr2
   | true=>
    rw[hl]at hr2
    simp only[cond_true,sJ,pJ]at hr2
    obtain⟨rfl,rfl⟩:=hr2
    simp only[VRels,VRel]at hv
    obtain⟨v1,r1,e1,rfl,rfl⟩:=hv
    have hvs:vs=#[.string (strOf s)]:=Array.toList_inj.1 (by simpa using e1)
    subst hvs
    have:=Nat.le_of_ble_eq_true hl
    have hsz:(strOf s).size=s.length:=by simp[strOf,ByteArray.size]
    exact (Tryz.stringslite_Clone (strOf s) w (by rw[hsz]; exact this)).mono fun e w' ⟨he,hk⟩=>⟨ρ,_,Pl.le_refl _,he,R.keep hk,by simp only[VRel]⟩
open Go.Abs Go.Abs.S
noncomputable section
def c141:AFn:=⟨25,zq [zo 2 (.mv (zi 0))] (zr [zm 3 0,zo 4 (.bin .geq (.t 3) (.c (.int .u64 (.ofNat 4294967296))))] 4 (zq [zm 5 0,zo 6 (.bin .shr (.t 5) (.c (.int .u64 (.ofNat 32)))),zm 0 6] (.reg [zo 2 (.mv (zi 32))])) .skip (zr [zm 7 0,zo 8 (.bin .geq (.t 7) (.c (.int .u64 (.ofNat 65536))))] 8 (zq [zm 9 0,zo 10 (.bin .shr (.t 9) (.c (.int .u64 (.ofNat 16)))),zm 0 10] (.reg [zm 11 2,zk 12 .add 11 16,zm 2 12])) .skip (zr [zm 13 0,zo 14 (.bin .geq (.t 13) (.c (.int .u64 (.ofNat 256))))] 14 (zq [zm 15 0,zo 16 (.bin .shr (.t 15) (.c (.int .u64 (.ofNat 8)))),zm 0 16] (.reg [zm 17 2,zk 18 .add 17 8,zm 2 18])) .skip (zq [zm 19 2,zm 20 0,zv 21 .u8 20,zo 22 (.idxS (.c (.str [0,1,2,2,3,3,3,3,4,4,4,4,4,4,4,4,5,5,5,5,5,5,5,5,5,5,5,5,5,5,5,5,6,6,6,6,6,6,6,6,6,6,6,6,6,6,6,6,6,6,6,6,6,6,6,6,6,6,6,6,6,6,6,6,7,7,7,7,7,7,7,7,7,7,7,7,7,7,7,7,7,7,7,7,7,7,7,7,7,7,7,7,7,7,7,7,7,7,7,7,7,7,7,7,7,7,7,7,7,7,7,7,7,7,7,7,7,7,7,7,7,7,7,7,7,7,7,7,8,8,8,8,8,8,8,8,8,8,8,8,8,8,8,8,8,8,8,8,8,8,8,8,8,8,8,8,8,8,8,8,8,8,8,8,8,8,8,8,8,8,8,8,8,8,8,8,8,8,8,8,8,8,8,8,8,8,8,8,8,8,8,8,8,8,8,8,8,8,8,8,8,8,8,8,8,8,8,8,8,8,8,8,8,8,8,8,8,8,8,8,8,8,8,8,8,8,8,8,8,8,8,8,8,8,8,8,8,8,8,8,8,8,8,8,8,8,8,8,8,8,8,8,8,8,8,8])) (.t 21)),zv 23 .i64 22,zb 24 .add 19 23,zm 2 24] .ret)))),[.t 2]⟩
theorem za141:cN Tryz.prog 141=some c141:=by kernel_rfl
def c25:AFn:=⟨13,zq [zo 2 (.mv (.c (.bool false)))] (zq [zm 3 0,zo 4 (.pf (.eqv true .ptr) [.t 3,.c (.ptr none)]),zm 5 4,zg 6 (.mv (.t 0)) 5 true,zg 7 (.nilChk (.t 6)) 5 true,zg 8 (.fieldA 0 (.t 7)) 5 true,zg 9 (.load false 1 (.t 8)) 5 true,zg 10 (.mv (.t 0)) 5 true,zg 11 (.pf (.eqv false .ptr) [.t 9,.t 10]) 5 true,zo 12 (.pick (.t 5) (.t 11) (.c (.bool false))),zm 2 12] .ret),[.t 2]⟩
theorem za25:cN Tryz.prog 25=some c25:=by kernel_rfl
def c12:AFn:=⟨31,zq [zo 4 (.mv zn)] (zr [zm 7 0,zx 8 25 [.t 7],zo 9 (.un .not (.t 8))] 9 (zq [zo 4 (.mv zn)] .ret) .skip (zq [zo 5 (.mv zn)] (.seq (zq [zm 10 0,zc 11 10,zf 12 4 11,zl 13 12,zo 14 .bad] (.block 0 (.loop (zq [zo 15 .bad,ze 16 0 15] (.seq (.cond (.t 16) .skip (.exit 0)) (.block 1 (zq [zo 17 .bad,ze 18 0 17,zo 6 (.new [zU 0,.str []]),zp (.store 2 (.t 6) (.t 18))] (zq [zf 19 0 6,zl 20 19,zm 21 1,zb 22 .eql 20 21] (.cond (.t 22) (.reg [zm 23 5,zf 24 1 6,zl 25 24,zo 26 (.buildSl 1 [.str []] [(0,1,.t 25)]),zo 27 (.append 1 16 (.t 23) (.t 26)),zm 5 27]) .skip))))))))) (zq [zm 28 5,zx 29 38 [.t 28]] (zq [zm 30 5,zm 4 30] .ret))))),[.t 4]⟩
def c38:AFn:=⟨11,zq [zm 3 0,zh 4 3,zm 2 4] (.reg [zm 5 0,zm 6 2,zm 7 2,zv 8 .u64 7,zx 9 68 [.t 8],zx 10 67 [.t 5,zi 0,.t 6,.t 9]]),[]⟩
theorem za38:cN Tryz.prog 38=some c38:=by kernel_rfl
def c68:AFn:=⟨8,zq [zo 2 (.mv (zi 0))] (.seq (.cond (.c (.bool false)) (zq [zm 3 0,zv 4 .u32 3,zx 5 140 [.t 4],zm 2 5] .ret) .skip) (zq [zm 6 0,zx 7 141 [.t 6],zm 2 7] .ret)),[.t 2]⟩
theorem za68:cN Tryz.prog 68=some c68:=by kernel_rfl
def c67:AFn:=⟨134,zq [zo 8 (.mv (.c (.bool true)))] (zq [zo 9 (.mv (.c (.bool true)))] (.block 0 (.loop (.block 1 (zq [zm 19 2,zm 20 1,zb 21 .sub 19 20,zm 10 21] (zr [zm 22 10,zk 23 .leq 22 12] 23 (zq [zm 24 0,zm 25 1,zm 26 2,zx 27 131 [.t 24,.t 25,.t 26]] .ret) .skip (zr [zm 28 3,zk 29 .eql 28 0] 29 (zq [zm 30 0,zm 31 1,zm 32 2,zx 33 132 [.t 30,.t 31,.t 32]] .ret) .skip (zr [zm 34 8,zo 35 (.un .not (.t 34))] 35 (zq [zm 36 0,zm 37 1,zm 38 2,zx 39 133 [.t 36,.t 37,.t 38]] (.reg [zm 40 3,zk 41 .sub 40 1,zm 3 41])) .skip (zq [zm 43 0,zm 44 1,zm 45 2,zx 46 134 [.t 43,.t 44,.t 45],zm 42 46,ze 47 0 42,ze 48 1 42,zm 11 47,zm 12 48] (zr [zm 49 12,zk 50 .eql 49 2] 50 (zq [zm 51 0,zm 52 1,zm 53 2,zx 54 135 [.t 51,.t 52,.t 53]] (zq [zm 55 2,zk 56 .sub 55 1,zm 57 11,zm 58 1,zb 59 .sub 57 58,zb 60 .sub 56 59,zm 11 60] (.reg [zo 12 (.mv (zi 1))]))) .skip (zr [zm 61 8,zm 62 61,zg 63 (.mv (.t 9)) 62 true,zo 64 (.pick (.t 62) (.t 63) (.c (.bool false))),zm 65 64,zg 66 (.mv (.t 12)) 65 true,zg 67 (.bin .eql (.t 66) (zi 1)) 65 true,zo 68 (.pick (.t 65) (.t 67) (.c (.bool false)))] 68 (zq [zm 69 0,zm 70 1,zm 71 2,zx 72 136 [.t 69,.t 70,.t 71]] (.cond (.t 72) .ret .skip)) .skip (zr [zm 73 1,zk 74 .gtr 73 0,zm 75 74,zg 76 (.mv (.t 0)) 75 true,zg 77 (.mv (.t 1)) 75 true,zg 78 (.bin .sub (.t 77) (zi 1)) 75 true,zg 79 (.idxA 1 (.t 76) (.t 78)) 75 true,zg 80 (.load false 1 (.t 79)) 75 true,zg 81 (.mv (.t 0)) 75 true,zg 82 (.mv (.t 11)) 75 true,zg 83 (.idxA 1 (.t 81) (.t 82)) 75 true,zg 84 (.load false 1 (.t 83)) 75 true,zg 85 (.call 137 [.t 80,.t 84]) 75 true,zg 86 (.un .not (.t 85)) 75 true,zo 87 (.pick (.t 75) (.t 86) (.c (.bool false)))] 87 (zq [zm 88 0,zm 89 1,zm 90 2,zm 91 11,zx 92 138 [.t 88,.t 89,.t 90,.t 91],zm 13 92] (zq [zm 93 13,zm 1 93] (.exit 1))) .skip (zq [zm 95 0,zm 96 1,zm 97 2,zm 98 11,zx 99 139 [.t 95,.t 96,.t 97,.t 98],zm 94 99,ze 100 0 94,ze 101 1 94,zm 14 100,zm 15 101] (zq [zm 102 15,zm 9 102] (zq [zm 103 14,zm 104 1,zb 105 .sub 103 104,zm 106 2,zm 107 14,zb 108 .sub 106 107,zm 16 105,zm 17 108] (zq [zm 109 10,zk 110 .quo 109 8,zm 18 110] (zq [zm 111 16,zm 112 17,zb 113 .lss 111 112] (.cond (.t 113) (zq [zm 114 16,zm 115 18,zb 116 .geq 114 115,zm 8 116] (zq [zm 117 0,zm 118 1,zm 119 14,zm 120 3,zx 121 67 [.t 117,.t 118,.t 119,.t 120]] (.reg [zm 122 14,zk 123 .add 122 1,zm 1 123]))) (zq [zm 124 17,zm 125 18,zb 126 .geq 124 125,zm 8 126] (zq [zm 127 0,zm 128 14,zk 129 .add 128 1,zm 130 2,zm 131 3,zx 132 67 [.t 127,.t 129,.t 130,.t 131]] (.reg [zm 133 14,zm 2 133]))))))))))))))))))))),[]⟩
theorem za67:cN Tryz.prog 67=some c67:=by kernel_rfl
def c131:AFn:=⟨49,zq [zm 8 1,zk 9 .add 8 1,zm 6 9] (.block 0 (.loop (zr [zm 10 6,zm 11 2,zb 12 .lss 10 11] 12 .skip (.exit 0) (.seq (.block 1 (zq [zm 15 6,zm 7 15] (.block 2 (.loop (zr [zm 16 7,zm 17 1,zb 18 .gtr 16 17,zm 19 18,zg 20 (.mv (.t 0)) 19 true,zg 21 (.mv (.t 7)) 19 true,zg 22 (.idxA 1 (.t 20) (.t 21)) 19 true,zg 23 (.load false 1 (.t 22)) 19 true,zg 24 (.mv (.t 0)) 19 true,zg 25 (.mv (.t 7)) 19 true,zg 26 (.bin .sub (.t 25) (zi 1)) 19 true,zg 27 (.idxA 1 (.t 24) (.t 26)) 19 true,zg 28 (.load false 1 (.t 27)) 19 true,zg 29 (.call 137 [.t 23,.t 28]) 19 true,zo 30 (.pick (.t 19) (.t 29) (.c (.bool false)))] 30 .skip (.exit 2) (.seq (.block 3 (.reg [zm 33 0,zm 34 7,zm 35 0,zm 36 7,zk 37 .sub 36 1,zm 38 0,zm 39 7,zk 40 .sub 39 1,zd 41 38 40,zl 42 41,zm 43 0,zm 44 7,zd 45 43 44,zl 46 45,zd 47 33 34,zs 47 42,zd 48 35 37,zs 48 46])) (.reg [zm 31 7,zk 32 .sub 31 1,zm 7 32]))))))) (.reg [zm 13 6,zk 14 .add 13 1,zm 6 14]))))),[]⟩
theorem za131:cN Tryz.prog 131=some c131:=by kernel_rfl
end
open Go.Abs Go.Abs.S
open Go Go.Abs Go.Abs.S
def len8:List UInt8:=[0,1,2,2,3,3,3,3,4,4,4,4,4,4,4,4,5,5,5,5,5,5,5,5,5,5,5,5,5,5,5,5,6,6,6,6,6,6,6,6,6,6,6,6,6,6,6,6,6,6,6,6,6,6,6,6,6,6,6,6,6,6,6,6,7,7,7,7,7,7,7,7,7,7,7,7,7,7,7,7,7,7,7,7,7,7,7,7,7,7,7,7,7,7,7,7,7,7,7,7,7,7,7,7,7,7,7,7,7,7,7,7,7,7,7,7,7,7,7,7,7,7,7,7,7,7,7,7,8,8,8,8,8,8,8,8,8,8,8,8,8,8,8,8,8,8,8,8,8,8,8,8,8,8,8,8,8,8,8,8,8,8,8,8,8,8,8,8,8,8,8,8,8,8,8,8,8,8,8,8,8,8,8,8,8,8,8,8,8,8,8,8,8,8,8,8,8,8,8,8,8,8,8,8,8,8,8,8,8,8,8,8,8,8,8,8,8,8,8,8,8,8,8,8,8,8,8,8,8,8,8,8,8,8,8,8,8,8,8,8,8,8,8,8,8,8,8,8,8,8,8,8,8,8,8,8]
theorem len8_lit:len8=[0,1,2,2,3,3,3,3,4,4,4,4,4,4,4,4,5,5,5,5,5,5,5,5,5,5,5,5,5,5,5,5,6,6,6,6,6,6,6,6,6,6,6,6,6,6,6,6,6,6,6,6,6,6,6,6,6,6,6,6,6,6,6,6,7,7,7,7,7,7,7,7,7,7,7,7,7,7,7,7,7,7,7,7,7,7,7,7,7,7,7,7,7,7,7,7,7,7,7,7,7,7,7,7,7,7,7,7,7,7,7,7,7,7,7,7,7,7,7,7,7,7,7,7,7,7,7,7,8,8,8,8,8,8,8,8,8,8,8,8,8,8,8,8,8,8,8,8,8,8,8,8,8,8,8,8,8,8,8,8,8,8,8,8,8,8,8,8,8,8,8,8,8,8,8,8,8,8,8,8,8,8,8,8,8,8,8,8,8,8,8,8,8,8,8,8,8,8,8,8,8,8,8,8,8,8,8,8,8,8,8,8,8,8,8,8,8,8,8,8,8,8,8,8,8,8,8,8,8,8,8,8,8,8,8,8,8,8,8,8,8,8,8,8,8,8,8,8,8,8,8,8,8,8,8,8]:=rfl
set_option maxRecDepth 100000 in
theorem blen64_spec{H:AHeap}:ACalls Tryz.prog noNat 141 [.int .u64 1] H fun v H'=>v=.int .i64 1∧H=H':=by
 refine acalls_ofN rfl za141 rfl ?_
 simp only[c141,← len8_lit]
 have e1:aIdxS (.str len8) (.int .u8 1)=some (.int .u8 1):=rfl
 have w1:IntKind.u8.wrap 1=1:=by decide
 have w2:IntKind.i64.wrap 1=1:=by decide
 have w3:IntKind.i64.wrap (0+1)=1:=by decide
 simp only[sA,sB,seval,e1,w1,w2,w3]
 exact⟨tt,tt⟩
theorem blen_spec{H:AHeap}:ACalls Tryz.prog noNat 68 [.int .u64 1] H fun v H'=>v=.int .i64 1∧H=H':=by
 refine acalls_ofN rfl za68 rfl ?_
 simp only[c68,sA,sB,seval]
 refine blen64_spec.mono ?_
 rintro v _ ⟨rfl,rfl⟩
 simp only[sA,sB,seval]
 exact⟨tt,tt⟩
theorem ins_spec{a:Ad}{r:Room}{H:AHeap}:ACalls Tryz.prog noNat 131 [.slice (some a) 1 r,.int .i64 0,.int .i64 1] H fun v H'=>H=H':=by
 refine acalls_ofN rfl za131 rfl ?_
 have w1:IntKind.i64.wrap 1=1:=by decide
 simp only[c131,sA,sB,seval,w1]
 refine aw_loop (fun m (T:Env) K=>H=K∧T 6=.int .i64 1∧T 2=.int .i64 1) 0 ⟨rfl,by simp only[sA,sB,seval,w1],by simp only[sA,sB,seval]; try rfl⟩ ?_
 rintro m T K ⟨rfl,t6,t2⟩
 have h:¬(1:Int)<1:=by decide
 simp only[sA,sB,seval,t6,t2,h]
 exact⟨_,rfl,rfl⟩
set_option maxRecDepth 100000 in
theorem pdq_spec{a:Ad}{r:Room}{H:AHeap}:ACalls Tryz.prog noNat 67 [.slice (some a) 1 r,.int .i64 0,.int .i64 1,.int .i64 1] H fun v H'=>H=H':=by
 refine acalls_ofN rfl za67 rfl ?_
 simp only[c67,sA,sB,seval]
 refine aw_loop (fun m (T:Env) K=>H=K∧T 0=.slice (some a) 1 r∧T 1=.int .i64 0∧T 2=.int .i64 1) 0 ⟨rfl,by simp only[sA,sB,seval],by simp only[sA,sB,seval]; try rfl,by simp only[sA,sB,seval]; try rfl⟩ ?_
 rintro m T K ⟨rfl,t0,t1,t2⟩
 have w1:IntKind.i64.wrap 1=1:=by decide
 simp only[sA,sB,seval,t0,t1,t2,w1]
 refine ins_spec.mono ?_
 rintro v _ rfl
 exact⟨_,rfl,rfl⟩
theorem sort_spec{a:Ad}{r:Room}{H:AHeap}:ACalls Tryz.prog noNat 38 [.slice (some a) 1 r] H fun v H'=>H=H':=by
 refine acalls_ofN rfl za38 rfl ?_
 have l1:aLenK false (.slice (some a) 1 r)=some (.int .i64 1):=rfl
 have w1:IntKind.u64.wrap 1=1:=by decide
 simp only[c38,sA,sB,seval,l1,w1]
 refine blen_spec.mono ?_
 rintro v _ ⟨rfl,rfl⟩
 simp only[sA,sB,seval]
 refine pdq_spec.mono ?_
 rintro v _ rfl
 exact⟨_,rfl,rfl⟩
theorem smade_spec{a:Ad}{H:AHeap}(hs:oLoad false 1 H (.ptr (some ⟨a.b,a.lim,a.o+0⟩))=some (.ptr (some a))):ACalls Tryz.prog noNat 25 [.ptr (some a)] H fun v H'=>v=.bool true∧H=H':=by
 refine acalls_ofN rfl za25 rfl ?_
 have e1:aPf (.eqv true .ptr) [.ptr (some a),.ptr none]=some (.bool true):=rfl
 have e2:aPf (.eqv false .ptr) [.ptr (some a),.ptr (some a)]=some (.bool true):=by
  show aEqs false EqK.ptr [AVal.ptr (some a),AVal.ptr (some a)]=_
  simp[aEqs,aEqv]
 have e3:aNilChk (.ptr (some a))=some (.ptr (some a)):=rfl
 have e4:aField 0 (.ptr (some a))=some (.ptr (some ⟨a.b,a.lim,a.o+0⟩)):=rfl
 simp only[c25,sA,sB,seval,e1,e2,e3,e4,hs]
 exact⟨tt,tt⟩
noncomputable section
def B12:Code:=match Tryz.f12.body with
 | some c=>c
 | none=>.skip
def X12:Code:=cl (cr (cr (cr B12)))
def R12:Code:=cr (cr (cr (cr B12)))
def LB12:Code:=loC (blC (cr X12))
def BK12:Code:=blC (cr (cr LB12))
def PC12:Code:=cr BK12
def N4:Array Oper:=rgO (cl X12)
def N5:Array Oper:=rgO (cl LB12)
def N6:Array Oper:=rgO (cl BK12)
def tyR:TypeId:=match (opAt N4 4).op with
 | .range t _=>t
 | _=>0
end
def abl:ACode→ACode
 | .block _ c=>c
 | c=>c
def alo:ACode→ACode
 | .loop c=>c
 | c=>c
def pcA:ACode:=asr (abl (asr (asr (alo (abl (asr (asl (asr (asr (asr c12.body))))))))))
noncomputable def NBody:Code:=.seq (.region (rgI (cl LB12)) N5 false) (.seq (.cond (.tmp 16) .skip (.exit 0)) (.block 1 (.seq (.region (rgI (cl BK12)) N6 false) PC12)))
theorem b12:Tryz.f12.body=some B12:=by kernel_rfl
theorem shape12:B12=.seq (cl B12) (.seq (cl (cr B12)) (.seq (cl (cr (cr B12))) (.seq (.seq (.region (rgI (cl X12)) N4 false) (.block 0 (.loop NBody))) R12))):=by kernel_rfl
theorem n4s:N4.size=5:=by kernel_rfl
theorem n5s:N5.size=2:=by kernel_rfl
theorem n6s:N6.size=4:=by kernel_rfl
theorem o40:OpIs Tryz.prog 31 N4 0 (some 10) (.mv (.t 0)):=⟨by kernel_rfl,by kernel_rfl,by kernel_rfl,by kernel_rfl,by kernel_rfl⟩
theorem o41:OpIs Tryz.prog 31 N4 1 (some 11) (.nilChk (.t 10)):=⟨by kernel_rfl,by kernel_rfl,by kernel_rfl,by kernel_rfl,by kernel_rfl⟩
theorem o42:OpIs Tryz.prog 31 N4 2 (some 12) (.fieldA 4 (.t 11)):=⟨by kernel_rfl,by kernel_rfl,by kernel_rfl,by kernel_rfl,by kernel_rfl⟩
theorem o43:OpIs Tryz.prog 31 N4 3 (some 13) (.load false 1 (.t 12)):=⟨by kernel_rfl,by kernel_rfl,by kernel_rfl,by kernel_rfl,by kernel_rfl⟩
theorem o44:OpAt 31 N4 4 (some 14) (.range tyR (.tmp 13)):=⟨by kernel_rfl,by kernel_rfl,by kernel_rfl,by kernel_rfl,by kernel_rfl⟩
theorem utR:(match (Tryz.prog).underlying tyR with | some (.map _ _)=>true | _=>false)=true:=by kernel_rfl
theorem o50:OpAt 31 N5 0 (some 15) (.next (.tmp 14) false):=⟨by kernel_rfl,by kernel_rfl,by kernel_rfl,by kernel_rfl,by kernel_rfl⟩
theorem o51:OpIs Tryz.prog 31 N5 1 (some 16) (.extract 0 (.t 15)):=⟨by kernel_rfl,by kernel_rfl,by kernel_rfl,by kernel_rfl,by kernel_rfl⟩
theorem o60:OpAt 31 N6 0 (some 17) (.entry (.tmp 14)):=⟨by kernel_rfl,by kernel_rfl,by kernel_rfl,by kernel_rfl,by kernel_rfl⟩
theorem o61:OpIs Tryz.prog 31 N6 1 (some 18) (.extract 0 (.t 17)):=⟨by kernel_rfl,by kernel_rfl,by kernel_rfl,by kernel_rfl,by kernel_rfl⟩
theorem o62:OpIs Tryz.prog 31 N6 2 (some 6) (.new [.int .u8 0,.str []]):=⟨by kernel_rfl,by kernel_rfl,by kernel_rfl,by kernel_rfl,by kernel_rfl⟩
theorem o63:OpIs Tryz.prog 31 N6 3 none (.store 2 (.t 6) (.t 18)):=⟨by kernel_rfl,by kernel_rfl,by kernel_rfl,by kernel_rfl,by kernel_rfl⟩
theorem q0:cCode Tryz.prog 31 (cl B12)=some (asl c12.body):=by kernel_rfl
theorem q1:cCode Tryz.prog 31 (cl (cr B12))=some (asl (asr c12.body)):=by kernel_rfl
theorem q2:cCode Tryz.prog 31 (cl (cr (cr B12)))=some (asl (asr (asr c12.body))):=by kernel_rfl
theorem qR:cCode Tryz.prog 31 R12=some (asr (asr (asr (asr c12.body)))):=by kernel_rfl
theorem qC:cCode Tryz.prog 31 PC12=some pcA:=by kernel_rfl
theorem pw0{H:AHeap}{a:Ad}{k:Int}{T:Env}(g0:T 0=.ptr (some a))(g1:T 1=.int .u8 k) :
  wp (ACalls Tryz.prog noNat) (asl c12.body) (fun e T' H'=>e=.normal∧H=H'∧T' 0=.ptr (some a)∧T' 1=.int .u8 k) T H:=by
 simp only[c12,asl,sA,sB,seval,g0,g1]
 exact⟨tt,tt,tt,tt⟩
theorem pw1{H:AHeap}{a:Ad}{k:Int}{T:Env}(hs:oLoad false 1 H (.ptr (some ⟨a.b,a.lim,a.o+0⟩))=some (.ptr (some a)))(g0:T 0=.ptr (some a))(g1:T 1=.int .u8 k) :
  wp (ACalls Tryz.prog noNat) (asl (asr c12.body)) (fun e T' H'=>e=.normal∧H=H'∧T' 0=.ptr (some a)∧T' 1=.int .u8 k) T H:=by
 simp only[c12,asl,asr,sA,sB,seval,g0]
 refine (smade_spec hs).mono ?_
 rintro v _ ⟨rfl,rfl⟩
 simp only[sA,sB,seval,g0,g1]
 exact⟨tt,tt,tt,tt⟩
theorem pw2{H:AHeap}{a:Ad}{k:Int}{T:Env}(g0:T 0=.ptr (some a))(g1:T 1=.int .u8 k) :
  wp (ACalls Tryz.prog noNat) (asl (asr (asr c12.body))) (fun e T' H'=>e=.normal∧H=H'∧T' 0=.ptr (some a)∧T' 1=.int .u8 k∧T' 5=nilS) T H:=by
 simp only[c12,asl,asr,sA,sB,seval,g0,g1]
 exact⟨tt,tt,tt,tt,tt⟩
theorem row1(H:AHeap)(s:List UInt8):aBuildSl 1 [.str []] H [(0,1,.str s)]=some (oneM H 1,H.push (.cells [.str s] 0 false)):=rfl
theorem app1(H:AHeap)(s:List UInt8):aAppend 1 16 (H.push (.cells [.str s] 0 false)) nilS (oneM H 1)=some (.slice (some ⟨H.next+1,1,0⟩) 1 (.open_ 1),(H.push (.cells [.str s] 0 false)).push (.cells [.str s] 0 false)):=by
 simp only[aAppend,srcM (m:=1) (xs:=[.str s]) H rfl,nilS]
 rfl
theorem pwC{H:AHeap}{k:Int}{s:List UInt8}{b:Nat}{it:AVal}{T:Env}(hb:H.get b=some (.cells [.int .u8 k,.str s] 2 false))(g6:T 6=.ptr (some ⟨b,2,0⟩))(g1:T 1=.int .u8 k)(g5:T 5=nilS)(g14:T 14=it) :
  wp (ACalls Tryz.prog noNat) pcA (fun e T' H'=>e=.normal∧(H.push (.cells [.str s] 0 false)).push (.cells [.str s] 0 false)=H'∧T' 5=.slice (some ⟨H.next+1,1,0⟩) 1 (.open_ 1)∧T' 14=it) T H:=by
 have hr:Row H b [.int .u8 k,.str s]:=⟨2,hb,Nat.le_refl _⟩
 have l0:oLoad false 1 H (.ptr (some ⟨b,2,0⟩))=some (.int .u8 k):=row_load hr (n:=2) rfl (i:=0) rfl
 have l1:oLoad false 1 H (.ptr (some ⟨b,2,1⟩))=some (.str s):=row_load hr (n:=2) rfl (i:=1) rfl
 have f0:aField 0 (.ptr (some ⟨b,2,0⟩))=some (.ptr (some ⟨b,2,0⟩)):=rfl
 have f1:aField 1 (.ptr (some ⟨b,2,0⟩))=some (.ptr (some ⟨b,2,1⟩)):=rfl
 simp only[pcA,c12,asl,asr,abl,alo,sA,sB,seval,g6,g1,g5,g14,f0,f1,l0,l1,row1,app1]
 exact⟨tt,tt,tt,tt⟩
theorem pwR{H:AHeap}{a:Ad}{r:Room}{T:Env}(g5:T 5=.slice (some a) 1 r) :
  wp (ACalls Tryz.prog noNat) (asr (asr (asr (asr c12.body)))) (fun e T' H'=>e=.ret∧H=H'∧T' 4=.slice (some a) 1 r) T H:=by
 simp only[c12,asr,sA,sB,seval,g5]
 refine sort_spec.mono ?_
 rintro v _ rfl
 simp only[sA,sB,seval,g5]
 exact⟨tt,tt,tt⟩
section
variable {P:Program} {n:Nat} {A:Array Oper}
theorem exec_rangeG{i:Nat}{d:Option Nat}{t:Nat}{a:Act}{w:World}{ty:Nat}{x:Value}(ho:OpAt n A i d (.range ty (.tmp t)))(hx:a.eval (.tmp t)=x){u:Value}{w1:World}(hr:(Instr.range ty x).run P w=.ok u w1) :
  (execOp a.eval (opAt A i)).run P w=.ok (.value u) w1:=by
 have h:=ho.op
 generalize opAt A i=oo at *
 obtain⟨dst,op,type,pos,after,guard⟩:=oo
 simp only at h
 subst h
 show (do pure (Next.value (← Instr.range ty (a.eval (.tmp t)))):Sem Next).run P w=_
 rw[hx]
 simp only[Sem.run_bind,hr,Result.andThen_ok]
 rfl
theorem exec_nextG{i:Nat}{d:Option Nat}{t:Nat}{a:Act}{w:World}{x:Value}(ho:OpAt n A i d (.next (.tmp t) false))(hx:a.eval (.tmp t)=x){u:Value}{w1:World}(hr:∀ty,∃w2,(Instr.next x false ty).run P w=.ok u w2∧w2=w1) :
  (execOp a.eval (opAt A i)).run P w=.ok (.value u) w1:=by
 have h:=ho.op
 generalize opAt A i=oo at *
 obtain⟨dst,op,type,pos,after,guard⟩:=oo
 simp only at h
 subst h
 show (do pure (Next.value (← Instr.next (a.eval (.tmp t)) false type)):Sem Next).run P w=_
 obtain⟨w2,h1,rfl⟩:=hr type
 rw[hx]
 simp only[Sem.run_bind,h1,Result.andThen_ok]
 rfl
theorem exec_entryG{i:Nat}{d:Option Nat}{t:Nat}{a:Act}{w:World}{x:Value}(ho:OpAt n A i d (.entry (.tmp t)))(hx:a.eval (.tmp t)=x){u:Value}{w1:World}(hr:(Instr.entry x).run P w=.ok u w1) :
  (execOp a.eval (opAt A i)).run P w=.ok (.value u) w1:=by
 have h:=ho.op
 generalize opAt A i=oo at *
 obtain⟨dst,op,type,pos,after,guard⟩:=oo
 simp only at h
 subst h
 show (do pure (Next.value (← Instr.entry (a.eval (.tmp t)))):Sem Next).run P w=_
 rw[hx]
 simp only[Sem.run_bind,hr,Result.andThen_ok]
 rfl
end
def selfB(x:Option AVal)(a:Ad):Bool:=match x with
 | some (.ptr (some b))=>Nat.beq b.b a.b&&(Nat.beq b.lim a.lim&&Nat.beq b.o a.o)
 | _=>false
def oneE(es:List Ent)(c:Nat)(k:Int):Option (List UInt8):=match es with
 | [(.agg [.int .u8 z,.str s],_,b)]=>bif eqF z k&&Nat.blt b c then some s else none
 | _=>none
def namesH(H:AHeap)(k:Int)(s:List UInt8):AHeap:=((H.push (.cells [.int .u8 k,.str s] 2 false)).push (.cells [.str s] 0 false)).push (.cells [.str s] 0 false)
def namesA(H:AHeap):List AVal→Option (AVal×AHeap)
 | [.ptr (some a),.int .u8 k]=>bif selfB (oLoad false 1 H (.ptr (some ⟨a.b,a.lim,a.o+0⟩))) a then
   match oLoad false 1 H (.ptr (some ⟨a.b,a.lim,a.o+4⟩)) with
   | some (.map (some m))=>match H.get m with
    | some (.map es c)=>match oneE es c k with
     | some s=>some (.slice (some ⟨H.next+2,1,0⟩) 1 (.open_ 1),namesH H k s)
     | none=>none
    | _=>none
   | _=>none
  else none
 | _=>none
theorem selfB_spec{x:Option AVal}{a:Ad}(h:selfB x a=true):x=some (.ptr (some a)):=by
 unfold selfB at h
 split at h
 ·rename_i b
  simp only[Bool.and_eq_true]at h
  obtain⟨h1,h2,h3⟩:=h
  obtain⟨b1,b2,b3⟩:=b
  obtain⟨a1,a2,a3⟩:=a
  simp only at h1 h2 h3
  rw[Nat.eq_of_beq_eq_true h1,Nat.eq_of_beq_eq_true h2,Nat.eq_of_beq_eq_true h3]
 ·simp at h
theorem oneE_spec{es:List Ent}{c:Nat}{k:Int}{s:List UInt8}(h:oneE es c k=some s):∃x b,es=[(.agg [.int .u8 k,.str s],x,b)]∧b<c:=by
 unfold oneE at h
 split at h
 ·rename_i z s' x b
  cases hc:eqF z k&&Nat.blt b c with
  | false=>rw[hc]at h; simp at h
  | true=>
   rw[hc]at h
   simp only[cond_true,sJ]at h
   subst h
   simp only[Bool.and_eq_true,eqF_eq,beq_iff_eq,Nat.blt_eq]at hc
   obtain⟨rfl,hb⟩:=hc
   exact⟨x,b,rfl,hb⟩
 ·simp at h
theorem namesA_inv{args:List AVal}{H H':AHeap}{v:AVal}(h:namesA H args=some (v,H')):∃a k m c s x b,args=[.ptr (some a),.int .u8 k]∧oLoad false 1 H (.ptr (some ⟨a.b,a.lim,a.o+0⟩))=some (.ptr (some a))∧oLoad false 1 H (.ptr (some ⟨a.b,a.lim,a.o+4⟩))=some (.map (some m)) ∧
  H.get m=some (.map [(.agg [.int .u8 k,.str s],x,b)] c)∧b<c∧v=.slice (some ⟨H.next+2,1,0⟩) 1 (.open_ 1)∧H'=namesH H k s:=by
 unfold namesA at h
 split at h
 ·rename_i a k
  cases hs:selfB (oLoad false 1 H (.ptr (some ⟨a.b,a.lim,a.o+0⟩))) a with
  | false=>rw[hs]at h; simp at h
  | true=>
   rw[hs]at h
   simp only[cond_true]at h
   split at h
   ·rename_i m hm
    split at h
    ·rename_i es c hg
     cases ho:oneE es c k with
     | none=>rw[ho]at h; simp at h
     | some s=>
      rw[ho]at h
      simp only[sJ,pJ]at h
      obtain⟨x,b,rfl,hb⟩:=oneE_spec ho
      exact⟨a,k,m,c,s,x,b,rfl,selfB_spec hs,hm,hg,hb,h.1.symm,h.2.symm⟩
    ·simp at h
   ·simp at h
 ·simp at h
open Go.Abs Go.Abs.S
open Go Go.Abs Go.Abs.S
theorem one_ent{ρ:Pl}{e:Ent}{ES:List MapEntry}(h:EntriesRel ρ [e] ES):∃E,ES=[E]∧VRel ρ e.1 E.key∧VRel ρ e.2.1 E.val∧E.born=e.2.2:=by
 simp only[EntriesRel]at h
 obtain⟨E,r,rfl,⟨h1,h2,h3⟩,rfl⟩:=h
 exact⟨E,rfl,h1,h2,h3⟩
theorem tgetN{T:Tr AVal}{t:Nat}{v:AVal}(h:en T t=v)(hv:v≠undefA):T.get t=some v:=by
 unfold en ev at h
 simp only at h
 split at h
 ·rw[← h]; assumption
 ·exact absurd h.symm hv
theorem st2{H:AHeap}{k:Int}{s:List UInt8}:oStore 2 (H.push (.cells [.int .u8 0,.str []] 0 false)) (.ptr (some ⟨H.next,2,0⟩)) (.agg [.int .u8 k,.str s])=some ((H.push (.cells [.int .u8 0,.str []] 0 false)).set H.next (.cells [.int .u8 k,.str s] 2 false)):=by
 have hg:(H.push (.cells [.int .u8 0,.str []] 0 false)).get H.next=some (.cells [.int .u8 0,.str []] 0 false):=by rw[AHeap.get_push,if_pos rfl]
 have e:Nat.ble 0 2=true:=rfl
 have e':Nat.ble 2 2=true:=rfl
 have e2:(AVal.agg [.int .u8 k,.str s]).cells=[.int .u8 k,.str s]:=rfl
 have e3:(AVal.int .u8 k).one=true:=rfl
 have e4:(AVal.str s).one=true:=rfl
 simp[oStore,wrCells,e2,hg,e,e',e3,e4]
theorem names_run{args:List AVal}{H:AHeap}{v:AVal}{H':AHeap}(h:namesA H args=some (v,H'))(Prot:Gh)(w0:World)(ρ:Pl)(w:World)(vs:Array Value)(R:Rel Prot w0 ρ H w)(hv:VRels ρ args vs.toList) :
  Calls Tryz.prog 12 vs w fun e w'=>∃ρ' u,ρ.le ρ'∧e=.returned u∧Rel Prot w0 ρ' H' w'∧VRel ρ' v u:=by
 obtain⟨a,k,m,c,s,x,b,rfl,hs,hm,hg,hb,rfl,rfl⟩:=namesA_inv h
 obtain⟨KEY,hKEY⟩:∃y,y=AVal.agg [.int .u8 k,.str s]:=⟨_,rfl⟩
 rw[← hKEY]at hg
 have htb:=fun f hf h=>tb_noNat (tabP_ok Tryz.prog noNat) f hf h
 obtain⟨kt,et,hut⟩:∃k e,(Tryz.prog).underlying tyR=some (.map k e):=by
  have h0:=utR
  generalize (Tryz.prog).underlying tyR=z at h0 ⊢
  split at h0
  ·exact⟨_,_,rfl⟩
  ·simp at h0
 refine calls_of_wp Tryz.func12 b12 ?_
 have hst:=start_sim (ρ:=ρ) hv (n:=31) (by simp)
 have hnt:Tryz.f12.ntmps=31:=by kernel_rfl
 rw[hnt,shape12]
 refine wp_seq (piece_ok fol q0 (pw0 (H:=H) (a:=a) (k:=k) rfl rfl) (ds:=[]) R hst rfl ?_)
 rintro _ T1 _ ρ1 a1 w1 ⟨rfl,rfl,g0,g1⟩ hl1 R1 ht1 hd1
 refine wp_seq (piece_ok fol q1 (pw1 hs g0 g1) R1 ht1 hd1 ?_)
 rintro _ T2 _ ρ2 a2 w2 ⟨rfl,rfl,g0,g1⟩ hl2 R2 ht2 hd2
 refine wp_seq (piece_ok fol q2 (pw2 g0 g1) R2 ht2 hd2 ?_)
 rintro _ T3 _ ρ3 a3 w3 ⟨rfl,rfl,g0,g1,g5⟩ hl3 R3 ht3 hd3
 have k0:=tgetN g0 (by unfold undefA; simp)
 have k1:=tgetN g1 (by unfold undefA; simp)
 have k5:=tgetN g5 (by unfold undefA nilS; simp)
 refine wp_seq (wp_seq (wp_region ?_))
 rw[n4s]
 show wpOps Tryz.prog N4 _ [0,1,2,3,4] a3 w3
 refine op_one htb o40 R3 ht3 hd3 (v:=.ptr (some a)) (H1:=H) (by simp only[aop,ev_get k0]) ?_
 intro ρ4 a4 w4 hl4 R4 ht4 hd4
 refine op_one htb o41 R4 ht4 hd4 (v:=.ptr (some a)) (H1:=H) (by simp only[aop,ev,aput,get_set_eq]; rfl) ?_
 intro ρ5 a5 w5 hl5 R5 ht5 hd5
 refine op_one htb o42 R5 ht5 hd5 (v:=.ptr (some ⟨a.b,a.lim,a.o+4⟩)) (H1:=H) (by simp only[aop,ev,aput,get_set_eq]; rfl) ?_
 intro ρ6 a6 w6 hl6 R6 ht6 hd6
 refine op_one htb o43 R6 ht6 hd6 (v:=.map (some m)) (H1:=H) (by simp only[aop,ev,aput,get_set_eq,hm]; rfl) ?_
 intro ρ7 a7 w7 hl7 R7 ht7 hd7
 have e13:∃L ES,ρ7 m 0=some L∧a7.eval (.tmp 13)=.map (some L.c)∧w7.heap[L.c]?=some (.map ES c)∧EntriesRel ρ7 [(KEY,x,b)] ES.toList:=by
  refine map_at R7 ?_ hg
  have:=ht7.at_ 13
  rw[ev_get (v:=.map (some m)) (by simp only[aput]; exact get_set_eq)]at this
  exact this
 obtain⟨L,ES,hL,e13,hbw,hE⟩:=e13
 obtain⟨E,hES,hEk,hEv,hEb⟩:=one_ent hE
 simp only at hEk hEv hEb
 refine op_val o44 (exec_rangeG o44 e13 (run_range_map w7 tyR kt et L.c ES c hut hbw)) ?_
 obtain⟨it,hit⟩:∃it,it=w7.heap.size:=⟨_,rfl⟩
 rw[← hit]
 have R8:Rel Prot w0 ρ7 H (w7.alloc (.mapIter (some L.c) c #[] c)):=R7.keep (below_alloc _ _)
 have hip:¬Prot.prot it:=fun h=>by
  have h1:=(R7.prot _ h).1
  have h2:=R7.size
  omega
 have hi8:(w7.alloc (.mapIter (some L.c) c #[] c)).heap[it]?=some (.mapIter (some L.c) c #[] c):=by rw[hit]; exact heap_alloc_new _ _
 have hb8:(w7.alloc (.mapIter (some L.c) c #[] c)).heap[L.c]?=some (.map ES c):=(heap_alloc_old _ _ (Array.getElem?_eq_some_iff.1 hbw).1).trans hbw
 have ht8:=put_rel (x:=.val (.pointer (some ⟨it,0,none⟩))) (v:=.pointer (some ⟨it,0,none⟩)) (dst:=some 14) ht7 o44.ok (by simp only[VRel]; exact⟨trivial,rfl⟩)
 generalize w7.alloc (.mapIter (some L.c) c #[] c)=w8 at R8 hi8 hb8 ⊢
 have hd8:(a7.put (some 14) (.pointer (some ⟨it,0,none⟩))).defers=[]:=hd7
 generalize a7.put (some 14) (.pointer (some ⟨it,0,none⟩))=a8 at ht8 hd8 ⊢
 generalize hT8:aput _ (some 14) (.val (.pointer (some ⟨it,0,none⟩)))=T8 at ht8
 have j1:T8.get 1=some (.int .u8 k):=by rw[← hT8]; simp only[aput]; rw[get_set_ne dD,get_set_ne dD,get_set_ne dD,get_set_ne dD,get_set_ne dD]; exact k1
 have j5:T8.get 5=some nilS:=by rw[← hT8]; simp only[aput]; rw[get_set_ne dD,get_set_ne dD,get_set_ne dD,get_set_ne dD,get_set_ne dD]; exact k5
 have j14:T8.get 14=some (.val (.pointer (some ⟨it,0,none⟩))):=by rw[← hT8]; simp only[aput]; rw[get_set_eq]
 have hold:∀{ES:Array MapEntry} {E:MapEntry},ES.toList=[E]→E.born=b→∀y∈ES.toList,y.born<c:=by
  intro ES E h1 h2 y hy
  rw[h1,List.mem_singleton]at hy
  rw[hy,h2]; exact hb
 have ev14:∀{ρ:Pl} {T:Tr AVal} {a:Act},TmpsRel ρ 31 T a.tmps→T.get 14=some (.val (.pointer (some ⟨it,0,none⟩)))→a.eval (.tmp 14)=.pointer (some ⟨it,0,none⟩):=by
  intro ρ T a h h'
  have:=h.at_ 14
  rw[ev_get h']at this
  simp only[VRel]at this
  exact this.1
 have w16:∀{a:Act} {T:Tr AVal} {ρ:Pl} {b:Bool},TmpsRel ρ 31 (aput T (some 16) (.bool b)) a.tmps→a.eval (.tmp 16)=.bool b:=by
  intro a T ρ b h
  have:=h.at_ 16
  rw[ev_get (v:=.bool b) (by simp only[aput]; exact get_set_eq)]at this
  simp only[VRel]at this
  exact this
 have dfr:∀(a:Act) (d:Nat) (u:Value),a.defers=[]→(a.put (some d) u).defers=[]:=fun a d u h=>h
 show Exit.then _ _ .normal _ _
 refine wp_block (wp_loop_rounds 2 ?_)
 rw[rounds_succ]
 unfold NBody
 refine wp_seq (wp_region ?_)
 rw[n5s]
 show wpOps Tryz.prog N5 _ [0,1] a8 w8
 rcases run_next_at (P:=Tryz.prog) 0 hi8 hb8 (hold hES hEb) rL with⟨h0,_⟩ | ⟨e,he,w9,hrun,hw9,ho1,ho2,ho3⟩
 ·exfalso
  have:E∈(leftOf ES #[]).toList:=by
   unfold leftOf
   rw[Array.toList_filter]
   refine List.mem_filter.2 ⟨by rw[hES]; simp,by simp⟩
  rw[Array.eq_empty_of_size_eq_zero h0]at this
  simp at this
 obtain⟨hm1,_⟩:=mem_left he
 rw[hES,List.mem_singleton]at hm1
 subst hm1
 have hbound:it<w8.heap.size:=(Array.getElem?_eq_some_iff.1 hi8).1
 have R9:Rel Prot w0 ρ7 H w9:=R8.iterSet hi8 hip ho1 ho2 ho3 hw9
 have hi9:w9.heap[it]?=some (.mapIter (some L.c) c (#[].push e.born) c):=by rw[hw9]; simp[hbound]
 refine op_val o50 (exec_nextG o50 (ev14 ht8 j14) (fun ty=>⟨w9,hrun,rfl⟩)) ?_
 have ht9:TmpsRel ρ7 31 (aput T8 (some 15) (.tuple [.bool true,KEY,x])) (a8.put (some 15) (.tuple #[.bool true,e.key,e.val])).tmps:=
  put_rel ht8 o50.ok (by simp only[VRel,VRels]; exact⟨_,rfl,_,_,rfl,rfl,_,_,rfl,hEk,_,_,rfl,hEv,rfl⟩)
 refine op_one htb o51 (R9.rebase hi9) ht9 (dfr a8 15 _ hd8) (v:=.bool true) (H1:=H) (by simp only[aop,ev,aput,get_set_eq]; rfl) ?_
 intro ρ10 a10 w10 hl10 R10' ht10 hd10
 obtain⟨R10,hit10⟩:=R9.unbase R10'
 have hi10:=hit10.trans hi9
 refine wp_seq (wp_cond_true (w16 ht10) (wp_skip ?_))
 refine wp_block (wp_seq (wp_region ?_))
 rw[n6s]
 show wpOps Tryz.prog N6 _ [0,1,2,3] a10 w10
 obtain⟨L3,ES3,hL3,hL3',hb3,hE3⟩:=map_at R10 (mv:=.map (some L.c)) (by simp only[VRel]; exact⟨L,hl10 _ _ _ hL,rfl⟩) hg
 rw[hl10 _ _ _ hL]at hL3
 simp only[sJ]at hL3
 subst hL3
 obtain⟨E3,hES3,hEk3,hEv3,hEb3⟩:=one_ent hE3
 simp only at hEk3 hEv3 hEb3
 have hfind3:ES3.find? (fun y=>y.born==E3.born)=some E3:=by
  rw[← Array.find?_toList,hES3]; simp
 rw[show e.born=E3.born by rw[hEb,hEb3]]at hi10
 generalize hT10:aput (aput T8 (some 15) (.tuple [.bool true,KEY,x])) (some 16) (.bool true)=T10 at ht10
 have p1:T10.get 1=some (.int .u8 k):=by rw[← hT10]; simp only[aput]; rw[get_set_ne dD,get_set_ne dD]; exact j1
 have p5:T10.get 5=some nilS:=by rw[← hT10]; simp only[aput]; rw[get_set_ne dD,get_set_ne dD]; exact j5
 have p14:T10.get 14=some (.val (.pointer (some ⟨it,0,none⟩))):=by rw[← hT10]; simp only[aput]; rw[get_set_ne dD,get_set_ne dD]; exact j14
 refine op_val o60 (exec_entryG o60 (ev14 ht10 p14) (run_entry_at hi10 hb3 hfind3)) ?_
 have ht11:TmpsRel ρ10 31 (aput T10 (some 17) (.tuple [KEY,x])) (a10.put (some 17) (.tuple #[E3.key,E3.val])).tmps:=
  put_rel ht10 o60.ok (by simp only[VRel,VRels]; exact⟨_,rfl,_,_,rfl,hEk3,_,_,rfl,hEv3,rfl⟩)
 refine op_one htb o61 (R10.rebase hi10) ht11 (dfr a10 17 _ hd10) (v:=KEY) (H1:=H) (by simp only[aop,ev,aput,get_set_eq]; rfl) ?_
 intro ρ12 a12 w12 hl12 R12' ht12 hd12
 refine op_one htb o62 R12' ht12 hd12 (v:=.ptr (some ⟨H.next,2,0⟩)) (H1:=H.push (.cells [.int .u8 0,.str []] 0 false)) (by simp only[aop]; rfl) ?_
 intro ρ13 a13 w13 hl13 R13' ht13 hd13
 refine op_one htb o63 R13' ht13 hd13 (v:=undefA) (H1:=(H.push (.cells [.int .u8 0,.str []] 0 false)).set H.next (.cells [.int .u8 k,.str s] 2 false)) (by
  simp only[aop,ev,aput]
  rw[get_set_eq,get_set_ne dD,get_set_eq]
  simp only[hKEY,st2]) ?_
 intro ρ14 a14 w14 hl14 R14' ht14 hd14
 obtain⟨H14,hH14⟩:∃J,J=(H.push (.cells [.int .u8 0,.str []] 0 false)).set H.next (.cells [.int .u8 k,.str s] 2 false):=⟨_,rfl⟩
 rw[← hH14]at R14'
 have n14:H14.next=H.next+1:=by rw[hH14]; rfl
 have c14:H14.get H.next=some (.cells [.int .u8 k,.str s] 2 false):=by rw[hH14,AHeap.get_set,if_pos rfl]
 have hg14:H14.get m=some (.map [(KEY,x,b)] c):=by
  have hmn:m<H.next:=(R7.dom _ _ _ hL).1
  rw[hH14,AHeap.get_set,if_neg om,AHeap.get_push,if_neg om]; exact hg
 generalize hT14:aput (aput (aput (aput T10 (some 17) (.tuple [KEY,x])) (some 18) KEY) (some 6) (.ptr (some ⟨H.next,2,0⟩))) none undefA=T14 at ht14
 have r1:T14.get 1=some (.int .u8 k):=by rw[← hT14]; simp only[aput]; rw[get_set_ne dD,get_set_ne dD,get_set_ne dD]; exact p1
 have r5:T14.get 5=some nilS:=by rw[← hT14]; simp only[aput]; rw[get_set_ne dD,get_set_ne dD,get_set_ne dD]; exact p5
 have r14:T14.get 14=some (.val (.pointer (some ⟨it,0,none⟩))):=by rw[← hT14]; simp only[aput]; rw[get_set_ne dD,get_set_ne dD,get_set_ne dD]; exact p14
 have r6:T14.get 6=some (.ptr (some ⟨H.next,2,0⟩)):=by rw[← hT14]; simp only[aput]; rw[get_set_eq]
 have nn:∀{T:Tr AVal} {t:Nat} {v:AVal},T.get t=some v→en T t=v:=fun h=>by simp only[en,ev,h]
 show Exit.then _ _ .normal a14 w14
 refine piece_ok fol qC (pwC (H:=H14) (k:=k) (s:=s) c14 (nn r6) (nn r1) (nn r5) (nn r14)) R14' ht14 hd14 ?_
 rintro _ T15 H15 ρ15 a15 w15 ⟨rfl,hH15,s5,s14⟩ hl15 R15' ht15 hd15
 have hle:ρ10.le ρ15:=Pl.le_trans hl12 (Pl.le_trans hl13 (Pl.le_trans hl14 hl15))
 obtain⟨R15,hit15⟩:=R10.unbase R15'
 have hi15:=hit15.trans hi10
 have nx15:(namesH H k s).next=H15.next:=by rw[← hH15,hH14]; rfl
 have gt15:∀b,(namesH H k s).get b=H15.get b:=by
  intro b
  rw[← hH15,hH14]
  unfold namesH
  simp only[AHeap.get_push,push_next,set_next,AHeap.get_set]
  by_cases h1:b=H.next+1+1
  ·rw[if_pos h1,if_pos h1]
  rw[if_neg h1,if_neg h1]
  by_cases h2:b=H.next+1
  ·rw[if_pos h2,if_pos h2]
  rw[if_neg h2,if_neg h2]
  by_cases h3:b=H.next
  ·rw[if_pos h3,if_pos h3]
  ·rw[if_neg h3,if_neg h3,if_neg h3]
 have hg15:H15.get m=some (.map [(KEY,x,b)] c):=by
  have hmn:m<H.next:=(R7.dom _ _ _ hL).1
  rw[← hH15,AHeap.get_push,if_neg (by rw[push_next]; omega),AHeap.get_push,if_neg om]; exact hg14
 have t5:=tgetN s5 (by unfold undefA; simp)
 have t14:=tgetN s14 (by unfold undefA; simp)
 show Exit.inBlock 1 _ .normal a15 w15
 show Code.rounds Tryz.prog _ _ 1 a15 w15
 rw[rounds_succ]
 refine wp_seq (wp_region ?_)
 rw[n5s]
 show wpOps Tryz.prog N5 _ [0,1] a15 w15
 obtain⟨L4,ES4,hL4,_,hb4,hE4⟩:=map_at R15 (mv:=.map (some L.c)) (by simp only[VRel]; exact⟨L,hle _ _ _ (hl10 _ _ _ hL),rfl⟩) hg15
 rw[hle _ _ _ (hl10 _ _ _ hL)]at hL4
 simp only[sJ]at hL4
 subst hL4
 obtain⟨E4,hES4,_,_,hEb4⟩:=one_ent hE4
 simp only at hEb4
 have hr:∀ty,(Instr.next (.pointer (some ⟨it,0,none⟩)) false ty).run Tryz.prog w15=.ok (.tuple #[.bool false]) w15:=by
  intro ty
  rcases run_next_at (P:=Tryz.prog) ty hi15 hb4 (hold hES4 hEb4) rL with⟨_,h⟩ | ⟨e',he',_⟩
  ·exact h
  ·exfalso
   obtain⟨q1,q2⟩:=mem_left he'
   rw[hES4,List.mem_singleton]at q1
   subst q1
   rw[contains_push,show e'.born=E3.born by rw[hEb4,hEb3]]at q2
   simp at q2
 refine op_val o50 (exec_nextG o50 (ev14 ht15 t14) (fun ty=>⟨w15,hr ty,rfl⟩)) ?_
 have ht16:TmpsRel ρ15 31 (aput T15 (some 15) (.tuple [.bool false])) (a15.put (some 15) (.tuple #[.bool false])).tmps:=put_rel ht15 o50.ok (by simp[VRel,VRels])
 refine op_one htb o51 R15 ht16 (dfr a15 15 _ hd15) (v:=.bool false) (H1:=H15) (by simp only[aop,ev,aput,get_set_eq]; rfl) ?_
 intro ρ17 a17 w17 hl17 R17 ht17 hd17
 refine wp_seq (wp_cond_false (w16 ht17) (wp_exit ?_))
 simp only[Exit.then,Exit.inBlock,if_true]
 have u5:(aput (aput T15 (some 15) (.tuple [.bool false])) (some 16) (.bool false)).get 5=some (.slice (some ⟨H14.next+1,1,0⟩) 1 (.open_ 1)):=by simp only[aput]; rw[get_set_ne dD,get_set_ne dD]; exact t5
 refine piece_ok fol qR (pwR (nn u5)) R17 ht17 hd17 ?_
 rintro _ T18 _ ρ18 a18 w18 ⟨rfl,rfl,v4⟩ hl18 R18 ht18 hd18
 have hres:cRes Tryz.prog Tryz.f12.results.toList=some c12.res:=by kernel_rfl
 obtain⟨u,z1,z2⟩:=results_sim (P:=Tryz.prog) (fn:=Tryz.f12) R18 ht18 hres (xs:=[.slice (some ⟨H14.next+1,1,0⟩) 1 (.open_ 1)]) (by
  have:=tgetN v4 (by unfold undefA; simp)
  show ares T18 _ [.t 4]=_
  simp only[ares,ev,this])
 have hle18:ρ.le ρ18:=Pl.le_trans hl1 (Pl.le_trans hl2 (Pl.le_trans hl3 (Pl.le_trans hl4 (Pl.le_trans hl5 (Pl.le_trans hl6 (Pl.le_trans hl7 (Pl.le_trans hl10 (Pl.le_trans hle (Pl.le_trans hl17 hl18)))))))))
 rw[n14]at z2
 exact⟨hd18,u,z1,ρ18,u,hle18,rfl,R18.heap_eq nx15 gt15,z2⟩
end Go.Proofs.St
