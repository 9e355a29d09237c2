/- Part of a proof (F4); no condition. -/
import Derived.Test.YteabnpheoiakdaaGreatDoorP6
import Derived.Test.YteabnpheoiakdaaGreatDoorP19
set_option linter.unusedSimpArgs false
set_option linter.unusedVariables false
set_option linter.unnecessarySimpa false
namespace Go.Abs.F
open Go.Abs
noncomputable section
abbrev FOp:=E→Fr→FHeap→(AVal→FHeap→R)→R
def FRel(D:Nat→Bool)(F:Fr)(T:Tr AVal):Prop:=∀i,i<256→D i=false→F.get i=ev T (.t i)
section
variable {D:Nat→Bool}
theorem FRel.set{F:Fr}{T:Tr AVal}(Q:FRel D F T){d:Nat}(hd:d<256)(v:AVal):FRel D (F.set d v) (T.set d v):=by
 intro i hi hD
 rw[Fr.get_set _ _ _ _ hd hi]
 simp only[ev,Tr.get_set]
 split
 ·rfl
 ·exact Q i hi hD
def GOK(D:Nat→Bool)(g:GV)(x:Opd):Prop:=∀F T,FRel D F T→(∀k,g F k=.no)∨∀k,g F k=k (ev T x)
def gC(v:AVal):GV:=fun _ k=>k v
def gNo:GV:=fun _ _=>.no
theorem gt_ok{i:Nat}(hi:i<256)(hD:D i=false):GOK D (gt i) (.t i):=fun F T Q=>.inr fun k=>by rw[gt_eq,Q i hi hD]
theorem gC_ok(v:AVal):GOK D (gC v) (.c v):=fun F T Q=>.inr fun k=>rfl
def fX(D:Nat→Bool):Opd→GV
 | .t i=>bif Nat.ble (Nat.succ i) (nat_lit 256) then (bif D i then gNo else gN i) else gNo
 | .c v=>gC v
 | .f id=>gC (.func (.func id) [] [])
theorem fX_ok(x:Opd):GOK D (fX D x) x:=by
 cases x with
 | t i=>
  simp only[fX]
  cases h:Nat.ble (Nat.succ i) 256 with
  | true=>
   cases hD:D i with
   | true=>exact fun F T Q=>.inl fun k=>rfl
   | false=>rw[gN_eq i (Nat.le_of_ble_eq_true h)]; exact gt_ok (Nat.le_of_ble_eq_true h) hD
  | false=>exact fun F T Q=>.inl fun k=>rfl
 | c v=>exact gC_ok v
 | f id=>exact fun F T Q=>.inr fun k=>rfl
def fXs(D:Nat→Bool):List Opd→List GV
 | []=>[]
 | x::r=>fX D x::fXs D r
def evA:List GV→Fr→(List AVal→R)→R:=@List.rec GV (fun _=>Fr→(List AVal→R)→R) (fun _ k=>k []) (fun g _ ih F k=>g F fun x=>ih F fun l=>k (x::l))
theorem evA_ok:∀(l:List Opd) {F:Fr} {T:Tr AVal},FRel D F T→(∀k,evA (fXs D l) F k=.no)∨∀k,evA (fXs D l) F k=k (evs T l)
 | [],F,T,Q=>.inr fun k=>rfl
 | x::l,F,T,Q=>by
  rcases fX_ok x F T Q with h | h
  ·exact .inl fun k=>h _
  ·rcases evA_ok l Q with q | q
   ·exact .inl fun k=>(h _).trans (q _)
   ·exact .inr fun k=>(h _).trans (q _)
def fXO(D:Nat→Bool):Option Opd→Option GV
 | none=>none
 | some x=>some (fX D x)
def evGO(g:Option GV)(F:Fr)(k:Option AVal→R):R:=@Option.rec GV (fun _=>R) (k none) (fun g=>g F fun v=>k (some v)) g
theorem evGO_ok(x:Option Opd){F:Fr}{T:Tr AVal}(Q:FRel D F T):(∀k,evGO (fXO D x) F k=.no)∨∀k,evGO (fXO D x) F k=k (evO T x):=by
 cases x with
 | none=>exact .inr fun k=>rfl
 | some x=>
  rcases fX_ok x F T Q with h | h
  ·exact .inl fun k=>h _
  ·exact .inr fun k=>h _
structure FP where
 o:Nat
 n:Nat
 g:GV
def fXP(D:Nat→Bool):List (Nat×Nat×Opd)→List FP
 | []=>[]
 | (o,n,x)::r=>⟨o,n,fX D x⟩::fXP D r
section
variable (tb:FuncId→Bool) (call:FuncId→List AVal→AHeap→Option (AVal×AHeap))
def aval(T:Tr AVal)(H:AHeap)(o:AOp):Option (AVal×AHeap):=
 match aop tb T H o with
 | some (.val v,H')=>some (v,H')
 | some (.enter f args,H')=>call f args H'
 | none=>none
structure ESim(E:E)(n:Nat):Prop where
 n:E.n=n
 call:∀f args h H,HRel h H→(∀k,E.call f args h k=.no)∨∃v h' H',tb f=true∧call f args H=some (v,H')∧HRel h' H'∧∀k,E.call f args h k=k v h'
def OpWay(E:E)(F:Fr)(h:FHeap)(T:Tr AVal)(H:AHeap)(fo:FOp)(o:AOp):Prop:=
 (∀k,fo E F h k=.no)∨∃v h' H',aval tb call T H o=some (v,H')∧HRel h' H'∧∀k,fo E F h k=k v h'
def OpOK(D:Nat→Bool)(fo:FOp)(o:AOp):Prop:=∀{E:E} {n:Nat} {F:Fr} {h:FHeap} {T:Tr AVal} {H:AHeap},ESim tb call E n→FRel D F T→HRel h H→OpWay tb call E F h T H fo o
end
section
variable {tb:FuncId→Bool} {call:FuncId→List AVal→AHeap→Option (AVal×AHeap)}
theorem aval_vv{T:Tr AVal}{H:AHeap}{o:AOp}{r:Option AVal}(h:aop tb T H o=vv H r){v:AVal}(hr:r=some v):aval tb call T H o=some (v,H):=by
 subst hr; simp only[aval,h,vv]
theorem pure1{x:Opd}{f:AVal→(AVal→R)→R}{r:AVal→Option AVal}(hf:∀v,OneWay (f v) (r v)){o:AOp}(ha:∀T H,aop tb T H o=vv H (r (ev T x))):OpOK tb call D (fun _ F h k=>fX D x F fun v=>f v fun w=>k w h) o:=by
 intro E n F h T H _ Q QH
 rcases fX_ok x F T Q with q | q
 ·exact .inl fun k=>q _
 ·rcases hf (ev T x) with p | ⟨v,p1,p2⟩
  ·exact .inl fun k=>(q _).trans (p _)
  ·exact .inr ⟨v,h,H,aval_vv (ha T H) p1,QH,fun k=>(q _).trans (p2 _)⟩
theorem pure2{x y:Opd}{f:AVal→AVal→(AVal→R)→R}{r:AVal→AVal→Option AVal}(hf:∀v w,OneWay (f v w) (r v w)){o:AOp}(ha:∀T H,aop tb T H o=vv H (r (ev T x) (ev T y))) :
  OpOK tb call D (fun _ F h k=>fX D x F fun v=>fX D y F fun w=>f v w fun w=>k w h) o:=by
 intro E n F h T H _ Q QH
 rcases fX_ok x F T Q with q | q
 ·exact .inl fun k=>q _
 ·rcases fX_ok y F T Q with q' | q'
  ·exact .inl fun k=>(q _).trans (q' _)
  ·rcases hf (ev T x) (ev T y) with p | ⟨v,p1,p2⟩
   ·exact .inl fun k=>(q _).trans ((q' _).trans (p _))
   ·exact .inr ⟨v,h,H,aval_vv (ha T H) p1,QH,fun k=>(q _).trans ((q' _).trans (p2 _))⟩
theorem pureN{l:List Opd}{f:List AVal→(AVal→R)→R}{r:List AVal→Option AVal}(hf:∀v,OneWay (f v) (r v)){o:AOp}(ha:∀T H,aop tb T H o=vv H (r (evs T l))):OpOK tb call D (fun _ F h k=>evA (fXs D l) F fun v=>f v fun w=>k w h) o:=by
 intro E n F h T H _ Q QH
 rcases evA_ok l Q with q | q
 ·exact .inl fun k=>q _
 ·rcases hf (evs T l) with p | ⟨v,p1,p2⟩
  ·exact .inl fun k=>(q _).trans (p _)
  ·exact .inr ⟨v,h,H,aval_vv (ha T H) p1,QH,fun k=>(q _).trans (p2 _)⟩
def xMv(g:GV):FOp:=fun _ F h k=>g F fun v=>k v h
theorem xMv_ok(x:Opd):OpOK tb call D (xMv (fX D x)) (.mv x):=by
 intro E n F h T H _ Q QH
 rcases fX_ok x F T Q with q | q
 ·exact .inl fun k=>q _
 ·exact .inr ⟨_,h,H,rfl,QH,fun k=>q _⟩
def xPick(c a b:GV):FOp:=fun _ F h k=>c F fun c=>vBool c fun c=>ifb c (a F fun v=>k v h) (b F fun v=>k v h)
theorem xPick_ok(c a b:Opd):OpOK tb call D (xPick (fX D c) (fX D a) (fX D b)) (.pick c a b):=by
 intro E n F h T H _ Q QH
 rcases fX_ok c F T Q with q | q
 ·exact .inl fun k=>q _
 ·by_cases hc:∃v,ev T c=.bool v
  ·obtain⟨v,hv⟩:=hc
   have hu:∀k,xPick (fX D c) (fX D a) (fX D b) E F h k=bif v then fX D a F (fun v=>k v h) else fX D b F (fun v=>k v h):=fun k=>by
    refine (q _).trans ?_
    rw[hv,← ifb_eq]; rfl
   have ha:aval tb call T H (.pick c a b)=some (bif v then ev T a else ev T b,H):=by simp only[aval,aop,hv]
   cases v with
   | true=>
    rcases fX_ok a F T Q with p | p
    ·exact .inl fun k=>(hu k).trans (p _)
    ·exact .inr ⟨_,h,H,ha,QH,fun k=>(hu k).trans (p _)⟩
   | false=>
    rcases fX_ok b F T Q with p | p
    ·exact .inl fun k=>(hu k).trans (p _)
    ·exact .inr ⟨_,h,H,ha,QH,fun k=>(hu k).trans (p _)⟩
  ·refine .inl fun k=>(q _).trans ?_
   cases hv:ev T c <;> (try rfl)
   exact absurd ⟨_,hv⟩ hc
def xNew(z:List AVal):FOp:=fun _ _ h k=>fNew h z fun b n h=>k (.ptr (some ⟨b,n,nat_lit 0⟩)) h
theorem xNew_ok(z:List AVal):OpOK tb call D (xNew z) (.new z):=by
 intro E n F h T H _ Q QH
 rcases fNew_way QH z with q | ⟨h',q1,q2⟩
 ·exact .inl fun k=>q _
 ·exact .inr ⟨_,h',_,rfl,q2,fun k=>q1 _⟩
def vCells(x:AVal)(k:List AVal→R):R:=@AVal.rec (fun _=>R) (fun _=>Unit) (fun _=>k [x]) (fun _ _=>k [x]) (fun _=>k [x]) (fun _=>k [x]) (fun _ _ _=>k [x]) (fun _=>k [x]) (fun _ _ _ _ _=>k [x]) (k [x]) (fun _ _ _=>k [x]) (k [x]) (fun l _=>k l) (fun _ _=>k [x]) (fun _=>k [x]) () (fun _ _ _ _=>()) x
theorem vCells_eq(x:AVal)(k:List AVal→R):vCells x k=k x.cells:=by cases x <;> rfl
def vSt(x:AVal)(one:R)(l:List AVal→R):R:=@AVal.rec (fun _=>R) (fun _=>Unit) (fun _=>one) (fun _ _=>one) (fun _=>one) (fun _=>one) (fun _ _ _=>one) (fun _=>one) (fun _ _ _ _ _=>one) (one) (fun _ _ _=>one) (one) (fun x _=>l x) (fun _ _=>.no) (fun _=>one) () (fun _ _ _ _=>()) x
def gdT(x:AVal):Bool:=@AVal.rec (fun _=>Bool) (fun _=>Unit) (fun b=>b) (fun _ _=>false) (fun _=>false) (fun _=>false) (fun _ _ _=>false) (fun _=>false) (fun _ _ _ _ _=>false) false (fun _ _ _=>false) false (fun _ _=>false) (fun _ _=>false) (fun _=>false) () (fun _ _ _ _=>()) x
def gdF(x:AVal):Bool:=@AVal.rec (fun _=>Bool) (fun _=>Unit) (fun b=>nt b) (fun _ _=>false) (fun _=>false) (fun _=>false) (fun _ _ _=>false) (fun _=>false) (fun _ _ _ _ _=>false) false (fun _ _ _=>false) false (fun _ _=>false) (fun _ _=>false) (fun _=>false) () (fun _ _ _ _=>()) x
def vNil(x:AVal)(k:AVal→R):R:=@AVal.rec (fun _=>R) (fun _=>Unit) (fun _=>k x) (fun _ _=>k x) (fun _=>k x) (fun a=>@Option.rec Ad (fun _=>R) .no (fun _=>k x) a) (fun _ _ _=>k x) (fun _=>k x) (fun f _ _ _ _=>onF (aNilChk x) k) .no (fun _ _ _=>k x) .no (fun _ _=>k x) (fun _ _=>k x) (fun _=>.no) () (fun _ _ _ _=>()) x
def xBox(g:GV):FOp:=fun _ F h k=>g F fun v=>vCells v fun l=>fNew h l fun b n h=>k (.ptr (some ⟨b,n,nat_lit 0⟩)) h
theorem xBox_ok(x:Opd):OpOK tb call D (xBox (fX D x)) (.box x):=by
 intro E n F h T H _ Q QH
 rcases fX_ok x F T Q with q | q
 ·exact .inl fun k=>q _
 ·rcases fNew_way QH (ev T x).cells with q' | ⟨h',q1,q2⟩
  ·exact .inl fun k=>(q _).trans ((vCells_eq _ _).trans (q' _))
  exact .inr ⟨_,h',_,rfl,q2,fun k=>(q _).trans ((vCells_eq _ _).trans (q1 _))⟩
def lRep:List AVal→List AVal→(List AVal→R)→R:=@List.rec AVal (fun _=>List AVal→(List AVal→R)→R) (fun l k=>k l) (fun v _ ih l k=>@List.rec AVal (fun _=>R) .no (fun _ l _=>ih l fun r=>k (v::r)) l)
def lSpl(vs:List AVal):Nat→List AVal→(List AVal→R)→R:=@Nat.rec (fun _=>List AVal→(List AVal→R)→R) (fun l k=>lRep vs l k) (fun _ ih l k=>@List.rec AVal (fun _=>R) .no (fun x l _=>ih l fun r=>k (x::r)) l)
theorem lRep_way:∀(vs l:List AVal),(∀k,lRep vs l k=.no)∨(vs.length≤l.length∧∀k,lRep vs l k=k (vs++l.drop vs.length))
 | [],l=>.inr ⟨by simp,fun k=>rfl⟩
 | v::vs,[]=>.inl fun k=>rfl
 | v::vs,x::l=>by
  rcases lRep_way vs l with h | ⟨h1,h2⟩
  ·exact .inl fun k=>h _
  ·exact .inr ⟨by simp only[List.length_cons]; omega,fun k=>h2 _⟩
theorem lSpl_way(vs:List AVal):∀(o:Nat) (l:List AVal),(∀k,lSpl vs o l k=.no)∨(o+vs.length≤l.length∧∀k,lSpl vs o l k=k (splice l o vs))
 | 0,l=>by
  rcases lRep_way vs l with h | ⟨h1,h2⟩
  ·exact .inl fun k=>h _
  ·refine .inr ⟨om,fun k=>(h2 _).trans ?_⟩
   simp[splice]
 | o+1,[]=>.inl fun k=>rfl
 | o+1,x::l=>by
  rcases lSpl_way vs o l with h | ⟨h1,h2⟩
  ·exact .inl fun k=>h _
  ·refine .inr ⟨by simp only[List.length_cons]; omega,fun k=>(h2 _).trans ?_⟩
   simp only[splice,List.take_succ_cons,List.cons_append]
   congr 2
   rw[show o+1+vs.length=(o+vs.length)+1 by omega,List.drop_succ_cons]
def lLen:List AVal→Nat→(Nat→R)→R:=@List.rec AVal (fun _=>Nat→(Nat→R)→R) (fun n k=>k n) (fun _ _ ih n k=>fN (Nat.succ n) fun n=>ih n k)
theorem lLen_eq:∀(x:List AVal) (n:Nat) (k:Nat→R),lLen x n k=k (x.length+n)
 | [],n,k=>by show k n=_; simp
 | b::x,n,k=>by
  show fN (Nat.succ n) (fun n=>lLen x n k)=_
  rw[fN_eq,lLen_eq x]; congr 1; simp only[List.length_cons]; omega
def lNth:List AVal→Nat→(AVal→R)→R:=@List.rec AVal (fun _=>Nat→(AVal→R)→R) (fun _ _=>.no) (fun x _ ih i k=>@Nat.rec (fun _=>R) (k x) (fun j _=>ih j k) i)
theorem lNth_way:∀(l:List AVal) (i:Nat),OneWay (lNth l i) l[i]?
 | [],i=>.inl fun k=>rfl
 | x::l,0=>.inr ⟨x,rfl,fun k=>rfl⟩
 | x::l,i+1=>by
  rw[List.getElem?_cons_succ]
  exact lNth_way l i
def fFill(F:Fr):List FP→List AVal→(List AVal→R)→R:=@List.rec FP (fun _=>List AVal→(List AVal→R)→R) (fun l k=>k l)
 (fun p _ ih l k=>@FP.rec (fun _=>R) (fun o n g=>g F fun v=>vCells v fun vs=>lLen vs (nat_lit 0) fun m=>ifb (Nat.beq m n) (lSpl vs o l fun l=>ih l k) .no) p)
theorem fFill_way{F:Fr}{T:Tr AVal}(Q:FRel D F T):∀(ps:List (Nat×Nat×Opd)) (l:List AVal),Way (fFill F (fXP D ps) l) (aFill l (evP T ps))
 | [],l=>.inr ⟨l,rfl,fun k=>rfl⟩
 | (o,n,x)::ps,l=>by
  rcases fX_ok x F T Q with q | q
  ·exact .inl fun k=>q _
  ·have hu:∀k,fFill F (fXP D ((o,n,x)::ps)) l k=bif Nat.beq (ev T x).cells.length n then lSpl (ev T x).cells o l (fun l=>fFill F (fXP D ps) l k) else .no:=fun k=>by
    refine (q _).trans ((vCells_eq _ _).trans ((lLen_eq _ _ _).trans ?_))
    rw[ifb_eq]; rfl
   cases hb:Nat.beq (ev T x).cells.length n with
   | false=>exact .inl fun k=>by rw[hu,hb]; rfl
   | true=>
    rw[hb]at hu
    have hn:=Nat.eq_of_beq_eq_true hb
    rcases lSpl_way (ev T x).cells o l with p | ⟨p1,p2⟩
    ·exact .inl fun k=>(hu k).trans (p _)
    ·have ha:aFill l (evP T ((o,n,x)::ps))=aFill (splice l o (ev T x).cells) (evP T ps):=by
      simp only[evP,aFill,hb,Bool.true_and]
      rw[show Nat.ble (o+n) l.length=true from by rw[ble_dec]; simp; omega]; rfl
     rw[ha]
     rcases fFill_way Q ps (splice l o (ev T x).cells) with r | ⟨v,r1,r2⟩
     ·exact .inl fun k=>(hu k).trans ((p2 _).trans (r _))
     ·exact .inr ⟨v,r1,fun k=>(hu k).trans ((p2 _).trans (r2 _))⟩
def xBuild(z:List AVal)(ps:List FP):FOp:=fun _ F h k=>fFill F ps z fun l=>k (.agg l) h
theorem xBuild_ok(z:List AVal)(ps:List (Nat×Nat×Opd)):OpOK tb call D (xBuild z (fXP D ps)) (.build z ps):=by
 intro E n F h T H _ Q QH
 rcases fFill_way Q ps z with q | ⟨l,q1,q2⟩
 ·exact .inl fun k=>q _
 ·exact .inr ⟨.agg l,h,H,by simp only[aval,aop,aBuild,q1,vv],QH,fun k=>q2 _⟩
def xBuildSl(z:List AVal)(len:Nat)(ps:List FP):FOp:=fun _ F h k=>fFill F ps z fun l=>fNew h l fun b n h=>k (.slice (some ⟨b,n,nat_lit 0⟩) len (.known len)) h
theorem xBuildSl_ok(len:Nat)(z:List AVal)(ps:List (Nat×Nat×Opd)):OpOK tb call D (xBuildSl (rep z len) len (fXP D ps)) (.buildSl len z ps):=by
 intro E n F h T H _ Q QH
 rcases fFill_way Q ps (rep z len) with q | ⟨l,q1,q2⟩
 ·exact .inl fun k=>q _
 ·rcases fNew_way QH l with r | ⟨h',r1,r2⟩
  ·exact .inl fun k=>(q2 _).trans (r _)
  exact .inr ⟨_,h',_,by simp only[aval,aop,aBuildSl,q1,vh],r2,fun k=>(q2 _).trans (r1 _)⟩
def xLd(g:GV):FOp:=fun _ F h k=>g F fun p=>vPtr p fun a=>fRd1 h a fun v=>k v h
def xLdA(n:Nat)(g:GV):FOp:=fun _ F h k=>g F fun p=>vPtr p fun a=>fRdN h a n fun l=>k (.agg l) h
theorem vPtr_way(x:AVal):(∀k,vPtr x k=.no)∨∃a,x=.ptr (some a)∧∀k,vPtr x k=k a:=by
 cases x <;> (try exact .inl fun k=>rfl)
 case ptr a=>cases a with
  | none=>exact .inl fun k=>rfl
  | some a=>exact .inr ⟨a,rfl,fun k=>rfl⟩
theorem xLd_ok(x:Opd):OpOK tb call D (xLd (fX D x)) (.load false 1 x):=by
 intro E n F h T H _ Q QH
 rcases fX_ok x F T Q with q | q
 ·exact .inl fun k=>q _
 ·rcases vPtr_way (ev T x) with p | ⟨a,p1,p2⟩
  ·exact .inl fun k=>(q _).trans (p _)
  ·rcases fRd1_way QH a with r | ⟨v,r1,r2⟩
   ·exact .inl fun k=>(q _).trans ((p2 _).trans (r _))
   ·exact .inr ⟨v,h,H,by simp only[aval,aop,p1,oLoad,r1,vv,cond_false],QH,fun k=>(q _).trans ((p2 _).trans (r2 _))⟩
theorem xLdA_ok(m:Nat)(x:Opd):OpOK tb call D (xLdA m (fX D x)) (.load true m x):=by
 intro E n F h T H _ Q QH
 rcases fX_ok x F T Q with q | q
 ·exact .inl fun k=>q _
 ·rcases vPtr_way (ev T x) with p | ⟨a,p1,p2⟩
  ·exact .inl fun k=>(q _).trans (p _)
  ·rcases fRdN_way QH a m with r | ⟨v,r1,r2⟩
   ·exact .inl fun k=>(q _).trans ((p2 _).trans (r _))
   ·exact .inr ⟨.agg v,h,H,by simp only[aval,aop,p1,oLoad,r1,vv,cond_true],QH,fun k=>(q _).trans ((p2 _).trans (r2 _))⟩
def xSt(n:Nat)(a g:GV):FOp:=fun _ F h k=>a F fun p=>vPtr p fun ad=>g F fun v=>vSt v (ifb (Nat.beq n (nat_lit 1)) (fWr1 h ad v fun h=>k undefA h) .no) (fun l=>lLen l (nat_lit 0) fun m=>ifb (Nat.beq m n) (fWrN h ad l fun h=>k undefA h) .no)
theorem vSt_way(x:AVal):(∀a b,vSt x a b=.no)∨(x.cells=[x]∧∀a b,vSt x a b=a)∨∀a b,vSt x a b=b x.cells:=by
 cases x <;> first | exact .inr (.inl ⟨rfl,fun a b=>rfl⟩) | exact .inr (.inr fun a b=>rfl) | exact .inl fun a b=>rfl
theorem xSt_ok(m:Nat)(a x:Opd):OpOK tb call D (xSt m (fX D a) (fX D x)) (.store m a x):=by
 intro E n F h T H _ Q QH
 rcases fX_ok a F T Q with q | q
 ·exact .inl fun k=>q _
 ·rcases vPtr_way (ev T a) with p | ⟨ad,p1,p2⟩
  ·exact .inl fun k=>(q _).trans (p _)
  ·rcases fX_ok x F T Q with q' | q'
   ·exact .inl fun k=>(q _).trans ((p2 _).trans (q' _))
   ·have ha:aval tb call T H (.store m a x)=bif Nat.beq (ev T x).cells.length m then (match wrCells H ad (ev T x).cells with | some H'=>some (undefA,H') | none=>none) else none:=by
     simp only[aval,aop,p1,oStore]
     cases Nat.beq (ev T x).cells.length m with
     | false=>rfl
     | true=>simp only[cond_true]; cases wrCells H ad (ev T x).cells <;> rfl
    rcases vSt_way (ev T x) with r | ⟨r0,r⟩ | r
    ·exact .inl fun k=>(q _).trans ((p2 _).trans ((q' _).trans (r _ _)))
    ·rw[r0]at ha
     cases hb:Nat.beq m 1 with
     | false=>exact .inl fun k=>(q _).trans ((p2 _).trans ((q' _).trans ((r _ _).trans (by rw[hb]; rfl))))
     | true=>
      have hm:=Nat.eq_of_beq_eq_true hb
      subst hm
      rcases fWr1_way QH ad (ev T x) with s | ⟨h',H',s1,s2,s3⟩
      ·exact .inl fun k=>(q _).trans ((p2 _).trans ((q' _).trans ((r _ _).trans (s _))))
      ·exact .inr ⟨undefA,h',H',by rw[ha,s1]; rfl,s2,fun k=>(q _).trans ((p2 _).trans ((q' _).trans ((r _ _).trans (s3 _))))⟩
    ·have hu:∀k,xSt m (fX D a) (fX D x) E F h k=bif Nat.beq (ev T x).cells.length m then fWrN h ad (ev T x).cells (fun h=>k undefA h) else .no:=fun k=>
      (q _).trans ((p2 _).trans ((q' _).trans ((r _ _).trans ((lLen_eq _ _ _).trans (by rw[ifb_eq]; rfl)))))
     cases hb:Nat.beq (ev T x).cells.length m with
     | false=>exact .inl fun k=>by rw[hu,hb]; rfl
     | true=>
      rw[hb]at hu ha
      rcases fWrN_way QH ad (ev T x).cells with s | ⟨h',H',s1,s2,s3⟩
      ·exact .inl fun k=>(hu k).trans (s _)
      ·exact .inr ⟨undefA,h',H',by rw[ha,s1]; rfl,s2,fun k=>(hu k).trans (s3 _)⟩
def xV1(f:AVal→(AVal→R)→R)(g:GV):FOp:=fun _ F h k=>g F fun v=>f v fun w=>k w h
def xV2(f:AVal→AVal→(AVal→R)→R)(a b:GV):FOp:=fun _ F h k=>a F fun v=>b F fun w=>f v w fun w=>k w h
def xVN(f:List AVal→(AVal→R)→R)(l:List GV):FOp:=fun _ F h k=>evA l F fun v=>f v fun w=>k w h
theorem vNil_way(x:AVal):OneWay (vNil x) (aNilChk x):=by
 refine oneWay_on fun k=>?_
 cases x <;> (try rfl)
 case ptr a=>cases a <;> rfl
 case func f a b=>exact onF_eq _ _
def fUn(op:UnOp)(x:AVal)(k:AVal→R):R:=onF (aUn op x) k
def fNot(x:AVal)(k:AVal→R):R:=vBool x fun b=>fB (nt b) fun b=>k (.bool b)
theorem fNot_way(x:AVal):OneWay (fNot x) (aUn .not x):=by
 refine oneWay_on fun k=>?_
 cases x <;> (try rfl)
 case bool b=>cases b <;> rfl
def fUnOp:UnOp→AVal→(AVal→R)→R
 | .not=>fNot
 | op=>fUn op
theorem fUnOp_way(op:UnOp)(x:AVal):OneWay (fUnOp op x) (aUn op x):=by
 cases op
 case not=>exact fNot_way x
 all_goals exact oneWay_on fun k=>onF_eq _ k
def sBy:List UInt8→(List AVal→R)→R:=@List.rec UInt8 (fun _=>(List AVal→R)→R) (fun k=>k []) (fun b _ ih k=>fN b.toNat fun n=>ih fun l=>k (.int .u8 (.ofNat n)::l))
theorem sBy_eq:∀(s:List UInt8) (k:List AVal→R),sBy s k=k (s.map fun b=>.int .u8 b.toNat)
 | [],k=>rfl
 | b::s,k=>by
  have hu:sBy (b::s) k=fN b.toNat (fun n=>sBy s fun l=>k (.int .u8 (.ofNat n)::l)):=rfl
  rw[hu,fN_eq,sBy_eq s]; rfl
def xSB(g:GV):FOp:=fun _ F h k=>g F fun v=>vStr v fun s=>sBy s fun l=>fNewM h l fun b n h=>k (.slice (some ⟨b,n,nat_lit 0⟩) n (.open_ (nat_lit 1))) h
theorem vStr_way(x:AVal):(∀k,vStr x k=.no)∨∃s,x=.str s∧∀k,vStr x k=k s:=by
 cases x <;> first | exact .inl fun k=>rfl | exact .inr ⟨_,rfl,fun k=>rfl⟩
theorem xSB_ok(x:Opd):OpOK tb call D (xSB (fX D x)) (.convSB x):=by
 intro E n F h T H _ Q QH
 rcases fX_ok x F T Q with q | q
 ·exact .inl fun k=>q _
 ·rcases vStr_way (ev T x) with p | ⟨s,p1,p2⟩
  ·exact .inl fun k=>(q _).trans (p _)
  ·rcases fNewM_way QH (s.map fun b=>.int .u8 b.toNat) with r | ⟨h',r1,r2⟩
   ·exact .inl fun k=>(q _).trans ((p2 _).trans ((sBy_eq _ _).trans (r _)))
   refine .inr ⟨.slice (some ⟨H.next,s.length,0⟩) s.length (.open_ 1),h',_,by simp only[aval,aop,p1,aSB,vh],r2,fun k=>(q _).trans ((p2 _).trans ((sBy_eq _ _).trans ((r1 _).trans ?_)))⟩
   rw[List.length_map]
def lBy:List AVal→(List UInt8→R)→R:=@List.rec AVal (fun _=>(List UInt8→R)→R) (fun k=>k []) (fun v _ ih k=>vInt v fun kd n=>fK kd .u8 (ih fun l=>k (UInt8.ofNat n.toNat::l)))
theorem lBy_way:∀l:List AVal,Way (lBy l) (bytesOf l)
 | []=>.inr ⟨[],rfl,fun k=>rfl⟩
 | v::l=>by
  cases v <;> (try exact .inl fun k=>rfl)
  case int kd n=>
   have hu:∀k,lBy (.int kd n::l) k=fK kd .u8 (lBy l fun l=>k (UInt8.ofNat n.toNat::l)):=fun _=>rfl
   by_cases hk:kd=.u8
   ·subst hk
    rcases lBy_way l with q | ⟨s,q1,q2⟩
    ·exact .inl fun k=>by rw[hu,fK_eq,if_pos rfl]; exact q _
    ·exact .inr ⟨UInt8.ofNat n.toNat::s,by simp only[bytesOf,q1],fun k=>by rw[hu,fK_eq,if_pos rfl]; exact q2 _⟩
   ·exact .inl fun k=>by rw[hu,fK_eq,if_neg hk]
theorem vSl_way(x:AVal):(∀k,vSl x k=.no)∨∃a n r,x=.slice a n r∧∀k,vSl x k=k a n r:=by
 cases x <;> first | exact .inl fun k=>rfl | exact .inr ⟨_,_,_,rfl,fun k=>rfl⟩
def xBS(g:GV):FOp:=fun _ F h k=>g F fun v=>vSl v fun a n _=>@Option.rec Ad (fun _=>R) (k (.str []) h) (fun a=>fRdN h a n fun l=>lBy l fun s=>k (.str s) h) a
theorem xBS_ok(x:Opd):OpOK tb call D (xBS (fX D x)) (.convBS x):=by
 intro E n F h T H _ Q QH
 rcases fX_ok x F T Q with q | q
 ·exact .inl fun k=>q _
 ·rcases vSl_way (ev T x) with p | ⟨a,m,r,p1,p2⟩
  ·exact .inl fun k=>(q _).trans (p _)
  ·cases a with
   | none=>exact .inr ⟨.str [],h,H,by simp only[aval,aop,p1,aBS,vv],QH,fun k=>(q _).trans (p2 _)⟩
   | some a=>
    rcases fRdN_way QH a m with s | ⟨l,s1,s2⟩
    ·exact .inl fun k=>(q _).trans ((p2 _).trans (s _))
    ·rcases lBy_way l with u | ⟨y,u1,u2⟩
     ·exact .inl fun k=>(q _).trans ((p2 _).trans ((s2 _).trans (u _)))
     ·exact .inr ⟨.str y,h,H,by simp only[aval,aop,p1,aBS,s1,u1,vv],QH,fun k=>(q _).trans ((p2 _).trans ((s2 _).trans (u2 _)))⟩
def xFn(fn:Fn)(a b:List GV):FOp:=fun _ F h k=>evA a F fun a=>evA b F fun b=>k (.func fn a b) h
theorem xFn_ok(fn:Fn)(a b:List Opd):OpOK tb call D (xFn fn (fXs D a) (fXs D b)) (.mkFunc fn a b):=by
 intro E n F h T H _ Q QH
 rcases evA_ok a Q with q | q
 ·exact .inl fun k=>q _
 ·rcases evA_ok b Q with q' | q'
  ·exact .inl fun k=>(q _).trans (q' _)
  ·exact .inr ⟨_,h,H,rfl,QH,fun k=>(q _).trans (q' _)⟩
def xIf(t:TypeId)(g:GV):FOp:=fun _ F h k=>g F fun v=>k (.iface t v) h
theorem xIf_ok(t:TypeId)(x:Opd):OpOK tb call D (xIf t (fX D x)) (.mkIface t x):=by
 intro E n F h T H _ Q QH
 rcases fX_ok x F T Q with q | q
 ·exact .inl fun k=>q _
 ·exact .inr ⟨_,h,H,rfl,QH,fun k=>q _⟩
def vNat(x:AVal)(k:Nat→R):R:=vInt x fun kd n=>fK kd .i64 (@Int.rec (fun _=>R) (fun m=>ifb (Nat.ble m (nat_lit 9223372036854775807)) (k m) .no) (fun _=>.no) n)
theorem vNat_way(x:AVal):Way (vNat x) (natOf x):=by
 cases x <;> (try exact .inl fun k=>rfl)
 case int kd n=>
  have hu:∀k,vNat (.int kd n) k=fK kd .i64 (@Int.rec (fun _=>R) (fun m=>ifb (Nat.ble m (nat_lit 9223372036854775807)) (k m) .no) (fun _=>.no) n):=fun _=>rfl
  by_cases hk:kd=.i64
  ·subst hk
   cases n with
   | ofNat m=>
    have hv:∀k,vNat (.int .i64 (.ofNat m)) k=bif Nat.ble m 9223372036854775807 then k m else .no:=fun k=>by rw[hu,fK_eq,if_pos rfl,← ifb_eq]
    cases hb:Nat.ble m 9223372036854775807 with
    | true=>exact .inr ⟨m,by simp only[natOf,hb,cond_true],fun k=>by rw[hv,hb]; rfl⟩
    | false=>exact .inl fun k=>by rw[hv,hb]; rfl
   | negSucc m=>exact .inl fun k=>by rw[hu,fK_eq,if_pos rfl]
  ·exact .inl fun k=>by rw[hu,fK_eq,if_neg hk]
def fMk(h:FHeap)(z:List AVal)(c:Nat)(k:Nat→Nat→FHeap→R):R:=@List.rec AVal (fun _=>R) (fNew h (rep z c) k) (fun x r _=>@List.rec AVal (fun _=>R) (fRep h x c fun b h=>k b c h) (fun _ _ _=>fNew h (rep z c) k) r) z
theorem fMk_way{h:FHeap}{H:AHeap}(Q:HRel h H)(z:List AVal)(c:Nat):WayN (fMk h z c) H (rep z c):=by
 rcases z with _ | ⟨x,_ | ⟨y,r⟩⟩
 ·exact fNew_way Q _
 ·rcases fRep_way Q x c with q | ⟨h',q1,q2⟩
  ·exact .inl fun k=>q _
  ·refine .inr ⟨h',fun k=>(q1 _).trans ?_,q2⟩
   rw[rep_one,List.length_replicate]
 ·exact fNew_way Q _
def xMk(b:Nat)(z:List AVal)(l c:GV):FOp:=fun _ F h k=>l F fun l=>vNat l fun l=>c F fun c=>vNat c fun c=>ifb (Nat.ble l c) (ifb (Nat.ble (Nat.mul b c) (nat_lit 281474976710656)) (fMk h z c fun bl n h=>k (.slice (some ⟨bl,n,nat_lit 0⟩) l (.known c)) h) .no) .no
theorem xMk_ok(b:Nat)(z:List AVal)(l c:Opd):OpOK tb call D (xMk b z (fX D l) (fX D c)) (.mkSlice b z l c):=by
 intro E n F h T H _ Q QH
 rcases fX_ok l F T Q with q | q
 ·exact .inl fun k=>q _
 ·rcases vNat_way (ev T l) with p | ⟨ln,p1,p2⟩
  ·exact .inl fun k=>(q _).trans (p _)
  ·rcases fX_ok c F T Q with q' | q'
   ·exact .inl fun k=>(q _).trans ((p2 _).trans (q' _))
   ·rcases vNat_way (ev T c) with p' | ⟨cn,p3,p4⟩
    ·exact .inl fun k=>(q _).trans ((p2 _).trans ((q' _).trans (p' _)))
    ·have hu:∀k,xMk b z (fX D l) (fX D c) E F h k=bif Nat.ble ln cn&&Nat.ble (b*cn) 281474976710656 then fMk h z cn (fun bl n h=>k (.slice (some ⟨bl,n,0⟩) ln (.known cn)) h) else .no:=fun k=>by
      refine (q _).trans ((p2 _).trans ((q' _).trans ((p4 _).trans ?_)))
      rw[ifb_eq,ifb_eq]
      have e:Nat.ble (Nat.mul b cn) 281474976710656=Nat.ble (b*cn) 281474976710656:=rfl
      rw[e]
      cases Nat.ble ln cn <;> cases Nat.ble (b*cn) 281474976710656 <;> rfl
     cases hb:Nat.ble ln cn&&Nat.ble (b*cn) 281474976710656 with
     | false=>exact .inl fun k=>by rw[hu,hb]; rfl
     | true=>
      rcases fMk_way QH z cn with r | ⟨h',r1,r2⟩
      ·exact .inl fun k=>by rw[hu,hb]; exact r _
      exact .inr ⟨.slice (some ⟨H.next,(rep z cn).length,0⟩) ln (.known cn),h',_,by simp only[aval,aop,aMake,p1,p3,hb,cond_true,vh],r2,fun k=>by rw[hu,hb]; exact r1 _⟩
def xSl(n:Nat)(x:GV)(lo hi mx:Option GV):FOp:=fun _ F h k=>x F fun x=>evGO lo F fun lo=>evGO hi F fun hi=>evGO mx F fun mx=>onF (aSl n x lo hi mx) fun v=>k v h
theorem onF_way(r:Option AVal):OneWay (onF r) r:=oneWay_on fun k=>onF_eq r k
theorem xSl_ok(m:Nat)(x:Opd)(lo hi mx:Option Opd):OpOK tb call D (xSl m (fX D x) (fXO D lo) (fXO D hi) (fXO D mx)) (.sl m x lo hi mx):=by
 intro E n F h T H _ Q QH
 rcases fX_ok x F T Q with q | q
 ·exact .inl fun k=>q _
 ·rcases evGO_ok lo Q with q1 | q1
  ·exact .inl fun k=>(q _).trans (q1 _)
  ·rcases evGO_ok hi Q with q2 | q2
   ·exact .inl fun k=>(q _).trans ((q1 _).trans (q2 _))
   ·rcases evGO_ok mx Q with q3 | q3
    ·exact .inl fun k=>(q _).trans ((q1 _).trans ((q2 _).trans (q3 _)))
    ·rcases onF_way (aSl m (ev T x) (evO T lo) (evO T hi) (evO T mx)) with p | ⟨v,p1,p2⟩
     ·exact .inl fun k=>(q _).trans ((q1 _).trans ((q2 _).trans ((q3 _).trans (p _))))
     ·exact .inr ⟨v,h,H,by simp only[aval,aop,p1,vv],QH,fun k=>(q _).trans ((q1 _).trans ((q2 _).trans ((q3 _).trans (p2 _))))⟩
def xSlA(m n:Nat)(x:GV)(lo hi mx:Option GV):FOp:=fun _ F h k=>x F fun x=>evGO lo F fun lo=>evGO hi F fun hi=>evGO mx F fun mx=>onF (aSlArr m n x lo hi mx) fun v=>k v h
theorem xSlA_ok(m m':Nat)(x:Opd)(lo hi mx:Option Opd):OpOK tb call D (xSlA m m' (fX D x) (fXO D lo) (fXO D hi) (fXO D mx)) (.slA m m' x lo hi mx):=by
 intro E n F h T H _ Q QH
 rcases fX_ok x F T Q with q | q
 ·exact .inl fun k=>q _
 ·rcases evGO_ok lo Q with q1 | q1
  ·exact .inl fun k=>(q _).trans (q1 _)
  ·rcases evGO_ok hi Q with q2 | q2
   ·exact .inl fun k=>(q _).trans ((q1 _).trans (q2 _))
   ·rcases evGO_ok mx Q with q3 | q3
    ·exact .inl fun k=>(q _).trans ((q1 _).trans ((q2 _).trans (q3 _)))
    ·rcases onF_way (aSlArr m m' (ev T x) (evO T lo) (evO T hi) (evO T mx)) with p | ⟨v,p1,p2⟩
     ·exact .inl fun k=>(q _).trans ((q1 _).trans ((q2 _).trans ((q3 _).trans (p _))))
     ·exact .inr ⟨v,h,H,by simp only[aval,aop,p1,vv],QH,fun k=>(q _).trans ((q1 _).trans ((q2 _).trans ((q3 _).trans (p2 _))))⟩
def sDr:Nat→List UInt8→(List UInt8→R)→R:=@Nat.rec (fun _=>List UInt8→(List UInt8→R)→R) (fun s k=>k s) (fun _ ih s k=>@List.rec UInt8 (fun _=>R) (k []) (fun _ t _=>ih t k) s)
theorem sDr_eq:∀(n:Nat) (s:List UInt8) (k:List UInt8→R),sDr n s k=k (s.drop n)
 | 0,s,k=>rfl
 | n+1,[],k=>rfl
 | n+1,_::s,k=>sDr_eq n s k
def sTk:Nat→List UInt8→(List UInt8→R)→R:=@Nat.rec (fun _=>List UInt8→(List UInt8→R)→R) (fun _ k=>k []) (fun _ ih s k=>@List.rec UInt8 (fun _=>R) (k []) (fun b t _=>ih t fun l=>k (b::l)) s)
theorem sTk_eq:∀(n:Nat) (s:List UInt8) (k:List UInt8→R),sTk n s k=k (s.take n)
 | 0,s,k=>by show k []=_; simp
 | n+1,[],k=>by show k []=_; simp
 | n+1,b::s,k=>(sTk_eq n s _).trans (by simp)
def oBnd(r:Option (Nat×Nat×Option Nat))(k:Nat→Nat→R):R:=@Option.rec (Nat×Nat×Option Nat) (fun _=>R) .no (fun x=>fN x.1 fun l=>fN (Nat.sub x.2.1 l) fun h=>k l h) r
def xSlS(x:GV)(lo hi:Option GV):FOp:=fun _ F h k=>x F fun x=>vStr x fun s=>evGO lo F fun lo=>evGO hi F fun hi=>sLen s (nat_lit 0) fun n=>oBnd (aBnd n n lo hi none) fun l m=>sDr l s fun s=>sTk m s fun s=>k (.str s) h
theorem xSlS_ok(x:Opd)(lo hi:Option Opd):OpOK tb call D (xSlS (fX D x) (fXO D lo) (fXO D hi)) (.slStr x lo hi):=by
 intro E n F h T H _ Q QH
 rcases fX_ok x F T Q with q | q
 ·exact .inl fun k=>q _
 ·rcases vStr_way (ev T x) with p | ⟨s,p1,p2⟩
  ·exact .inl fun k=>(q _).trans (p _)
  ·rcases evGO_ok lo Q with q1 | q1
   ·exact .inl fun k=>(q _).trans ((p2 _).trans (q1 _))
   ·rcases evGO_ok hi Q with q2 | q2
    ·exact .inl fun k=>(q _).trans ((p2 _).trans ((q1 _).trans (q2 _)))
    ·have hu:∀k,xSlS (fX D x) (fXO D lo) (fXO D hi) E F h k=oBnd (aBnd s.length s.length (evO T lo) (evO T hi) none) fun l m=>k (.str ((s.drop l).take m)) h:=fun k=>by
      refine (q _).trans ((p2 _).trans ((q1 _).trans ((q2 _).trans ((sLen_eq _ _ _).trans ?_))))
      simp only[sDr_eq,sTk_eq,Nat.add_zero]
     cases hb:aBnd s.length s.length (evO T lo) (evO T hi) none with
     | none=>exact .inl fun k=>by rw[hu,hb]; rfl
     | some r=>
      obtain⟨l,hh,m⟩:=r
      exact .inr ⟨.str ((s.drop l).take (hh-l)),h,H,by simp only[aval,aop,p1,aSlStr,hb,vv],QH,fun k=>by
       rw[hu,hb]
       show fN l (fun l=>fN (Nat.sub hh l) fun h'=>k (.str ((s.drop l).take h')) h)=_
       rw[fN_eq,fN_eq]; rfl⟩
def fFld(o:Nat)(x:AVal)(k:AVal→R):R:=vPtr x fun a=>@Ad.rec (fun _=>R) (fun b l p=>fN (Nat.add p o) fun p=>k (.ptr (some ⟨b,l,p⟩))) a
theorem fFld_way(o:Nat)(x:AVal):OneWay (fFld o x) (aField o x):=by
 rcases vPtr_way x with q | ⟨a,rfl,q2⟩
 ·exact .inl fun k=>q _
 ·obtain⟨b,l,p⟩:=a
  exact .inr ⟨_,rfl,fun k=>(q2 _).trans (fN_eq _ _)⟩
def fAgg(i:Nat)(x:AVal)(k:AVal→R):R:=vAgg x fun l=>lNth l i k
theorem fAgg_way(size i:Nat)(x:AVal):OneWay (fAgg i x) (aFieldV false size i x):=by
 cases x <;> (try exact .inl fun k=>rfl)
 case agg l=>exact lNth_way l i
def fFldG(size off:Nat)(x:AVal)(k:AVal→R):R:=onF (aFieldV true size off x) k
def vNN(x:AVal)(k:Nat→R):R:=vInt x fun _ n=>@Int.rec (fun _=>R) k (fun _=>.no) n
theorem vNN_way(x:AVal):(∀k,vNN x k=.no)∨∃kd n,x=.int kd (.ofNat n)∧∀k,vNN x k=k n:=by
 cases x <;> (try exact .inl fun k=>rfl)
 case int kd n=>cases n with
  | ofNat m=>exact .inr ⟨kd,m,rfl,fun k=>rfl⟩
  | negSucc m=>exact .inl fun k=>rfl
def fIdxA(size:Nat)(x i:AVal)(k:AVal→R):R:=vSl x fun a len _=>vNN i fun i=>ifb (Nat.ble (Nat.succ i) len) (@Option.rec Ad (fun _=>R) .no (fun a=>@Ad.rec (fun _=>R) (fun b l p=>fN (Nat.add p (Nat.mul i size)) fun p=>k (.ptr (some ⟨b,l,p⟩))) a) a) .no
theorem fIdxA_way(size:Nat)(x i:AVal):OneWay (fIdxA size x i) (aIdxA size x i):=by
 rcases vSl_way x with q | ⟨a,n,r,rfl,q2⟩
 ·exact .inl fun k=>q _
 ·rcases vNN_way i with p | ⟨kd,m,rfl,p2⟩
  ·exact .inl fun k=>(q2 _).trans (p _)
  ·cases a with
   | none=>exact .inl fun k=>(q2 _).trans ((p2 _).trans (by rw[ifb_eq]; cases Nat.ble (Nat.succ m) n <;> rfl))
   | some a=>
    obtain⟨b,l,o⟩:=a
    cases hb:Nat.ble (Nat.succ m) n with
    | false=>exact .inl fun k=>(q2 _).trans ((p2 _).trans (by rw[ifb_eq,hb]; rfl))
    | true=>
     have hb':Nat.blt m n=true:=hb
     exact .inr ⟨.ptr (some ⟨b,l,o+m*size⟩),by simp only[aIdxA,hb',cond_true],fun k=>(q2 _).trans ((p2 _).trans (by rw[ifb_eq,hb]; exact fN_eq (o+m*size) fun p=>k (.ptr (some ⟨b,l,p⟩))))⟩
def fIdxR(m size:Nat)(x i:AVal)(k:AVal→R):R:=vPtr x fun a=>vNN i fun i=>ifb (Nat.ble (Nat.succ i) m) (@Ad.rec (fun _=>R) (fun b l p=>fN (Nat.add p (Nat.mul i size)) fun p=>k (.ptr (some ⟨b,l,p⟩))) a) .no
theorem fIdxR_way(m size:Nat)(x i:AVal):OneWay (fIdxR m size x i) (aIdxArr m size x i):=by
 rcases vPtr_way x with q | ⟨a,rfl,q2⟩
 ·exact .inl fun k=>q _
 ·rcases vNN_way i with p | ⟨kd,j,rfl,p2⟩
  ·exact .inl fun k=>(q2 _).trans (p _)
  ·obtain⟨b,l,o⟩:=a
   cases hb:Nat.ble (Nat.succ j) m with
   | false=>exact .inl fun k=>(q2 _).trans ((p2 _).trans (by rw[ifb_eq,hb]; rfl))
   | true=>
    have hb':Nat.blt j m=true:=hb
    exact .inr ⟨.ptr (some ⟨b,l,o+j*size⟩),by simp only[aIdxArr,hb',cond_true],fun k=>(q2 _).trans ((p2 _).trans (by rw[ifb_eq,hb]; exact fN_eq (o+j*size) fun p=>k (.ptr (some ⟨b,l,p⟩))))⟩
def fIdx1(m:Nat)(x i:AVal)(k:AVal→R):R:=vAgg x fun l=>vNN i fun i=>ifb (Nat.ble (Nat.succ i) m) (lNth l i k) .no
theorem fIdx1_way(m:Nat)(x i:AVal):OneWay (fIdx1 m x i) (aIdx m 1 false x i):=by
 cases x <;> (try exact .inl fun k=>rfl)
 case agg l=>
  cases i <;> (try exact .inl fun k=>rfl)
  case int kd n=>
   cases n with
   | negSucc n=>exact .inl fun k=>rfl
   | ofNat j=>
    have hu:∀k,fIdx1 m (.agg l) (.int kd (.ofNat j)) k=bif Nat.ble (Nat.succ j) m then lNth l j k else .no:=fun k=>by rw[← ifb_eq]; rfl
    cases hb:Nat.ble (Nat.succ j) m with
    | false=>exact .inl fun k=>by rw[hu,hb]; rfl
    | true=>
     have hb':Nat.blt j m=true:=hb
     rcases lNth_way l j with r | ⟨v,r1,r2⟩
     ·exact .inl fun k=>by rw[hu,hb]; exact r k
     ·exact .inr ⟨v,by simp only[aIdx,hb',cond_true,aPart,cond_false,Nat.mul_one,r1],fun k=>by rw[hu,hb]; exact r2 k⟩
def fIdxG(m n:Nat)(a:Bool)(x i:AVal)(k:AVal→R):R:=onF (aIdx m n a x i) k
def sNth:List UInt8→Nat→(UInt8→R)→R:=@List.rec UInt8 (fun _=>Nat→(UInt8→R)→R) (fun _ _=>.no) (fun x _ ih i k=>@Nat.rec (fun _=>R) (k x) (fun j _=>ih j k) i)
theorem sNth_way:∀(l:List UInt8) (i:Nat),Way (sNth l i) l[i]?
 | [],i=>.inl fun k=>rfl
 | x::l,0=>.inr ⟨x,rfl,fun k=>rfl⟩
 | x::l,i+1=>by
  rw[List.getElem?_cons_succ]
  exact sNth_way l i
def fIdxS(x i:AVal)(k:AVal→R):R:=vStr x fun s=>vNN i fun i=>sNth s i fun b=>fN b.toNat fun n=>k (.int .u8 (.ofNat n))
theorem fIdxS_way(x i:AVal):OneWay (fIdxS x i) (aIdxS x i):=by
 rcases vStr_way x with q | ⟨s,rfl,q2⟩
 ·exact .inl fun k=>q _
 ·rcases vNN_way i with p | ⟨kd,j,rfl,p2⟩
  ·exact .inl fun k=>(q2 _).trans (p _)
  ·rcases sNth_way s j with r | ⟨v,r1,r2⟩
   ·exact .inl fun k=>(q2 _).trans ((p2 _).trans (r _))
   ·exact .inr ⟨.int .u8 v.toNat,by simp only[aIdxS,r1],fun k=>(q2 _).trans ((p2 _).trans ((r2 _).trans (fN_eq _ _)))⟩
def fExt(i:Nat)(x:AVal)(k:AVal→R):R:=vTup x fun l=>lNth l i k
theorem fExt_way(i:Nat)(x:AVal):OneWay (fExt i x) (aExtract i x):=by
 cases x <;> (try exact .inl fun k=>rfl)
 case tuple l=>exact lNth_way l i
def fLen(str:Bool)(x:AVal)(k:AVal→R):R:=vSS x (fun _ n _=>ifb str .no (k (.int .i64 (.ofNat n)))) (fun s=>ifb str (sLen s (nat_lit 0) fun n=>k (.int .i64 (.ofNat n))) .no)
theorem fLen_way(str:Bool)(x:AVal):OneWay (fLen str x) (aLenK str x):=by
 cases x
 case val v=>exact .inl fun k=>rfl
 all_goals refine oneWay_on fun k=>?_
 all_goals try rfl
 case slice a n r=>cases str <;> rfl
 case str s=>cases str with
  | true=>exact (sLen_eq _ _ _).trans rfl
  | false=>rfl
def fPf(f:PF)(l:List AVal)(k:AVal→R):R:=onF (aPf f l) k
def fSrc(size:Nat)(h:FHeap)(x:AVal)(k:Nat→List AVal→R):R:=
 vSS x (fun a n _=>@Option.rec Ad (fun _=>R) (k (nat_lit 0) []) (fun a=>fN (Nat.mul n size) fun m=>fRdN h a m fun l=>k n l) a) (fun s=>sBy s fun l=>lLen l (nat_lit 0) fun n=>k n l)
theorem fSrc_way{h:FHeap}{H:AHeap}(Q:HRel h H)(size:Nat)(x:AVal):(∀k,fSrc size h x k=.no)∨∃n l,aSrc size H x=some (n,l)∧∀k,fSrc size h x k=k n l:=by
 cases x <;> (try exact .inl fun k=>rfl)
 case slice a n r=>cases a with
  | none=>exact .inr ⟨0,[],rfl,fun k=>rfl⟩
  | some a=>
   have hu:∀k,fSrc size h (.slice (some a) n r) k=fRdN h a (n*size) fun l=>k n l:=fun k=>fN_eq (n*size) fun m=>fRdN h a m fun l=>k n l
   rcases fRdN_way Q a (n*size) with q | ⟨l,q1,q2⟩
   ·exact .inl fun k=>(hu k).trans (q _)
   ·exact .inr ⟨n,l,by simp only[aSrc,q1],fun k=>(hu k).trans (q2 _)⟩
 case str s=>
  refine .inr ⟨s.length,_,rfl,fun k=>(sBy_eq _ _).trans ((lLen_eq _ _ _).trans ?_)⟩
  rw[List.length_map]; rfl
def fApp1(h:FHeap)(size len n:Nat)(xs:List AVal)(so:Option Ad)(room:Room)(k:AVal→FHeap→R):R:=
 @Option.rec Ad (fun _=>R) (fNew h xs fun b m h=>k (.slice (some ⟨b,m,nat_lit 0⟩) n (.open_ size)) h) (fun a=>@Ad.rec (fun _=>R) (fun b lim o=>@Room.rec (fun _=>R)
  (fun c=>fN (Nat.add len n) fun ln=>ifb (Nat.ble ln c) (fN (Nat.add o (Nat.mul len size)) fun p=>fWrN h ⟨b,lim,p⟩ xs fun h=>k (.slice (some ⟨b,lim,o⟩) ln (.known c)) h)
   (fRdN h ⟨b,lim,o⟩ (Nat.mul len size) fun old=>fNew h (old++xs) fun b m h=>k (.slice (some ⟨b,m,nat_lit 0⟩) ln (.open_ size)) h))
  (fun sz=>fN (Nat.add len n) fun ln=>ifb (Nat.beq sz size) (ifb (Nat.ble (Nat.add o (Nat.mul ln size)) lim) (fN (Nat.add o (Nat.mul len size)) fun p=>fWrN h ⟨b,lim,p⟩ xs fun h=>k (.slice (some ⟨b,lim,o⟩) ln (.open_ sz)) h)
   (fN (Nat.add o (Nat.mul len size)) fun p=>fGrow h ⟨b,lim,o⟩ p xs fun h=>lLen xs p fun l'=>k (.slice (some ⟨b,l',o⟩) ln (.open_ sz)) h)) .no) room) a) so
def aApp1(H:AHeap)(size len n:Nat)(xs:List AVal)(so:Option Ad)(room:Room):Option (AVal×AHeap):=
 match so,room with
 | none,_=>some (.slice (some ⟨H.next,xs.length,0⟩) n (.open_ size),H.push (.cells xs 0 false))
 | some a,.known c=>
  bif Nat.ble (len+n) c then
   match wrCells H ⟨a.b,a.lim,a.o+len*size⟩ xs with
   | some H'=>some (.slice (some a) (len+n) (.known c),H')
   | none=>none
  else match rdCells H a (len*size) with
   | some old=>some (.slice (some ⟨H.next,(old++xs).length,0⟩) (len+n) (.open_ size),H.push (.cells (old++xs) 0 false))
   | none=>none
 | some a,.open_ sz=>
  bif Nat.beq sz size then
   bif Nat.ble (a.o+(len+n)*size) a.lim then
    match wrCells H ⟨a.b,a.lim,a.o+len*size⟩ xs with
    | some H'=>some (.slice (some a) (len+n) (.open_ sz),H')
    | none=>none
   else match growCells H a (a.o+len*size) xs with
    | some H'=>some (.slice (some ⟨a.b,a.o+len*size+xs.length,a.o⟩) (len+n) (.open_ sz),H')
    | none=>none
  else none
theorem fApp1_way{h:FHeap}{H:AHeap}(Q:HRel h H)(size len n:Nat)(xs:List AVal)(so:Option Ad)(room:Room) :
  (∀k,fApp1 h size len n xs so room k=.no)∨∃v h' H',aApp1 H size len n xs so room=some (v,H')∧HRel h' H'∧∀k,fApp1 h size len n xs so room k=k v h':=by
 cases so with
 | none=>
  rcases fNew_way Q xs with q | ⟨h',q1,q2⟩
  ·exact .inl fun k=>q _
  exact .inr ⟨_,h',_,rfl,q2,fun k=>q1 _⟩
 | some a=>
  obtain⟨b,lim,o⟩:=a
  cases room with
  | known c=>
   have hu:∀k,fApp1 h size len n xs (some ⟨b,lim,o⟩) (.known c) k=bif Nat.ble (len+n) c then fWrN h ⟨b,lim,o+len*size⟩ xs (fun h=>k (.slice (some ⟨b,lim,o⟩) (len+n) (.known c)) h)
     else fRdN h ⟨b,lim,o⟩ (len*size) fun old=>fNew h (old++xs) fun b m h=>k (.slice (some ⟨b,m,0⟩) (len+n) (.open_ size)) h:=fun k=>by
    have hv:fApp1 h size len n xs (some ⟨b,lim,o⟩) (.known c) k=fN (Nat.add len n) fun ln=>ifb (Nat.ble ln c) (fN (Nat.add o (Nat.mul len size)) fun p=>fWrN h ⟨b,lim,p⟩ xs fun h=>k (.slice (some ⟨b,lim,o⟩) ln (.known c)) h)
     (fRdN h ⟨b,lim,o⟩ (Nat.mul len size) fun old=>fNew h (old++xs) fun b m h=>k (.slice (some ⟨b,m,nat_lit 0⟩) ln (.open_ size)) h):=rfl
    rw[hv,fN_eq,ifb_eq,fN_eq]; rfl
   have ha:aApp1 H size len n xs (some ⟨b,lim,o⟩) (.known c)=bif Nat.ble (len+n) c then (match wrCells H ⟨b,lim,o+len*size⟩ xs with | some H'=>some (.slice (some ⟨b,lim,o⟩) (len+n) (.known c),H') | none=>none)
     else match rdCells H ⟨b,lim,o⟩ (len*size) with | some old=>some (.slice (some ⟨H.next,(old++xs).length,0⟩) (len+n) (.open_ size),H.push (.cells (old++xs) 0 false)) | none=>none:=rfl
   cases hb:Nat.ble (len+n) c with
   | true=>
    rw[hb]at hu ha
    rcases fWrN_way Q ⟨b,lim,o+len*size⟩ xs with q | ⟨h',H',q1,q2,q3⟩
    ·exact .inl fun k=>(hu k).trans (q _)
    ·exact .inr ⟨_,h',H',by rw[ha,q1]; rfl,q2,fun k=>(hu k).trans (q3 _)⟩
   | false=>
    rw[hb]at hu ha
    rcases fRdN_way Q ⟨b,lim,o⟩ (len*size) with q | ⟨old,q1,q2⟩
    ·exact .inl fun k=>(hu k).trans (q _)
    ·rcases fNew_way Q (old++xs) with r | ⟨h',r1,r2⟩
     ·exact .inl fun k=>(hu k).trans ((q2 _).trans (r _))
     exact .inr ⟨_,h',_,by rw[ha,q1]; rfl,r2,fun k=>(hu k).trans ((q2 _).trans (r1 _))⟩
  | open_ sz=>
   have hu:∀k,fApp1 h size len n xs (some ⟨b,lim,o⟩) (.open_ sz) k=bif Nat.beq sz size then (bif Nat.ble (o+(len+n)*size) lim then fWrN h ⟨b,lim,o+len*size⟩ xs (fun h=>k (.slice (some ⟨b,lim,o⟩) (len+n) (.open_ sz)) h)
     else fGrow h ⟨b,lim,o⟩ (o+len*size) xs fun h=>k (.slice (some ⟨b,o+len*size+xs.length,o⟩) (len+n) (.open_ sz)) h) else .no:=fun k=>by
    have hv:fApp1 h size len n xs (some ⟨b,lim,o⟩) (.open_ sz) k=fN (Nat.add len n) fun ln=>ifb (Nat.beq sz size) (ifb (Nat.ble (Nat.add o (Nat.mul ln size)) lim) (fN (Nat.add o (Nat.mul len size)) fun p=>fWrN h ⟨b,lim,p⟩ xs fun h=>k (.slice (some ⟨b,lim,o⟩) ln (.open_ sz)) h)
     (fN (Nat.add o (Nat.mul len size)) fun p=>fGrow h ⟨b,lim,o⟩ p xs fun h=>lLen xs p fun l'=>k (.slice (some ⟨b,l',o⟩) ln (.open_ sz)) h)) .no:=rfl
    rw[hv,fN_eq,ifb_eq,ifb_eq,fN_eq,fN_eq]
    simp only[lLen_eq,Nat.add_comm xs.length]; rfl
   have ha:aApp1 H size len n xs (some ⟨b,lim,o⟩) (.open_ sz)=bif Nat.beq sz size then (bif Nat.ble (o+(len+n)*size) lim then (match wrCells H ⟨b,lim,o+len*size⟩ xs with | some H'=>some (.slice (some ⟨b,lim,o⟩) (len+n) (.open_ sz),H') | none=>none)
     else match growCells H ⟨b,lim,o⟩ (o+len*size) xs with | some H'=>some (.slice (some ⟨b,o+len*size+xs.length,o⟩) (len+n) (.open_ sz),H') | none=>none) else none:=rfl
   cases hs:Nat.beq sz size with
   | false=>exact .inl fun k=>by rw[hu,hs]; rfl
   | true=>
    rw[hs]at hu ha
    cases hb:Nat.ble (o+(len+n)*size) lim with
    | true=>
     rw[hb]at hu ha
     rcases fWrN_way Q ⟨b,lim,o+len*size⟩ xs with q | ⟨h',H',q1,q2,q3⟩
     ·exact .inl fun k=>(hu k).trans (q _)
     ·exact .inr ⟨_,h',H',by rw[ha,q1]; rfl,q2,fun k=>(hu k).trans (q3 _)⟩
    | false=>
     rw[hb]at hu ha
     rcases fGrow_way Q ⟨b,lim,o⟩ (o+len*size) xs with q | ⟨h',H',q1,q2,q3⟩
     ·exact .inl fun k=>(hu k).trans (q _)
     ·exact .inr ⟨_,h',H',by rw[ha,q1]; rfl,q2,fun k=>(hu k).trans (q3 _)⟩
def lOne:List AVal→R→R:=@List.rec AVal (fun _=>R→R) (fun y=>y) (fun x _ ih y=>vOne x (ih y) .no)
theorem lOne_eq:∀(l:List AVal) (y:R),lOne l y=bif l.all AVal.one then y else .no
 | [],y=>rfl
 | x::l,y=>by
  refine (vOne_eq _ _ _).trans ?_
  have:=lOne_eq l y
  rw[List.all_cons]
  cases x.one with
  | false=>rfl
  | true=>exact this
def fAppV(size bytes:Nat)(h:FHeap)(s x:AVal)(k:AVal→FHeap→R):R:=
 fSrc size h x fun n xs=>vSl s fun so len room=>ifb (Nat.beq n (nat_lit 0)) (k s h)
  (ifb (Nat.ble (nat_lit 1) size) (ifb (Nat.ble (Nat.mul (Nat.add (Nat.mul (nat_lit 2) (Nat.add len n)) (nat_lit 0)) bytes) (nat_lit 281474976710656)) (ifb (Nat.ble (Nat.add len n) (nat_lit 9223372036854775807))
   (lLen xs (nat_lit 0) fun m=>ifb (Nat.beq m (Nat.mul n size)) (lOne xs (fApp1 h size len n xs so room k)) .no) .no) .no) .no)
theorem aAppend_eq(size bytes:Nat)(H:AHeap)(s x:AVal):aAppend size bytes H s x=match aSrc size H x with
  | none=>none
  | some (n,xs)=>bif Nat.beq n 0 then (match s with | .slice a l r=>some (.slice a l r,H) | _=>none)
   else match s with
   | .slice so len room=>bif Nat.blt 0 size&&(Nat.ble ((2*(len+n)+0)*bytes) 281474976710656&&(Nat.ble (len+n) 9223372036854775807&&(Nat.beq xs.length (n*size)&&xs.all AVal.one))) then aApp1 H size len n xs so room else none
   | _=>none:=by
 unfold aAppend
 cases aSrc size H x with
 | none=>rfl
 | some p=>
  obtain⟨n,xs⟩:=p
  simp only
  cases Nat.beq n 0 with
  | true=>rfl
  | false=>
   simp only[cond_false]
   cases s <;> (try rfl)
theorem fAppV_way{h:FHeap}{H:AHeap}(Q:HRel h H)(size bytes:Nat)(s x:AVal):(∀k,fAppV size bytes h s x k=.no)∨∃v h' H',aAppend size bytes H s x=some (v,H')∧HRel h' H'∧∀k,fAppV size bytes h s x k=k v h':=by
 rw[aAppend_eq]
 rcases fSrc_way Q size x with q | ⟨n,xs,q1,q2⟩
 ·exact .inl fun k=>q _
 ·rw[q1]
  rcases vSl_way s with p | ⟨so,len,room,rfl,p2⟩
  ·exact .inl fun k=>(q2 _).trans (p _)
  ·have hu:∀k,fAppV size bytes h (.slice so len room) x k=bif Nat.beq n 0 then k (.slice so len room) h else bif Nat.blt 0 size&&(Nat.ble ((2*(len+n)+0)*bytes) 281474976710656&&(Nat.ble (len+n) 9223372036854775807&&(Nat.beq xs.length (n*size)&&xs.all AVal.one))) then
     fApp1 h size len n xs so room k else .no:=fun k=>by
    refine (q2 _).trans ((p2 _).trans ?_)
    simp only[ifb_eq,lLen_eq,lOne_eq,Nat.add_zero]
    have e1:Nat.blt 0 size=Nat.ble 1 size:=rfl
    have e2:Nat.ble (Nat.mul (Nat.add (Nat.mul 2 (Nat.add len n)) 0) bytes) 281474976710656=Nat.ble ((2*(len+n)+0)*bytes) 281474976710656:=rfl
    have e3:Nat.ble (Nat.add len n) 9223372036854775807=Nat.ble (len+n) 9223372036854775807:=rfl
    have e4:Nat.beq xs.length (Nat.mul n size)=Nat.beq xs.length (n*size):=rfl
    rw[e1,e2,e3,e4]
    cases Nat.beq n 0 <;> cases Nat.ble 1 size <;> cases Nat.ble ((2*(len+n)+0)*bytes) 281474976710656 <;> cases Nat.ble (len+n) 9223372036854775807 <;> cases Nat.beq xs.length (n*size) <;> cases xs.all AVal.one <;> rfl
   simp only
   cases hn:Nat.beq n 0 with
   | true=>exact .inr ⟨_,h,H,rfl,Q,fun k=>by rw[hu,hn]; rfl⟩
   | false=>
    rw[hn]at hu
    simp only[cond_false]at hu ⊢
    cases hb:Nat.blt 0 size&&(Nat.ble ((2*(len+n)+0)*bytes) 281474976710656&&(Nat.ble (len+n) 9223372036854775807&&(Nat.beq xs.length (n*size)&&xs.all AVal.one))) with
    | false=>exact .inl fun k=>by rw[hu,hb]; rfl
    | true=>
     rw[hb]at hu
     rcases fApp1_way Q size len n xs so room with r | ⟨v,h',H',r1,r2,r3⟩
     ·exact .inl fun k=>(hu k).trans (r _)
     ·exact .inr ⟨v,h',H',r1,r2,fun k=>(hu k).trans (r3 _)⟩
def xApp(size bytes:Nat)(s x:GV):FOp:=fun _ F h k=>s F fun s=>x F fun x=>fAppV size bytes h s x k
theorem xApp_ok(size bytes:Nat)(s x:Opd):OpOK tb call D (xApp size bytes (fX D s) (fX D x)) (.append size bytes s x):=by
 intro E n F h T H _ Q QH
 rcases fX_ok s F T Q with q | q
 ·exact .inl fun k=>q _
 ·rcases fX_ok x F T Q with q' | q'
  ·exact .inl fun k=>(q _).trans (q' _)
  ·rcases fAppV_way QH size bytes (ev T s) (ev T x) with p | ⟨v,h',H',p1,p2,p3⟩
   ·exact .inl fun k=>(q _).trans ((q' _).trans (p _))
   ·exact .inr ⟨v,h',H',by simp only[aval,aop,p1,vh],p2,fun k=>(q _).trans ((q' _).trans (p3 _))⟩
def eCall(e:E)(f:FuncId)(args:List AVal)(h:FHeap)(k:AVal→FHeap→R):R:=@E.rec (fun _=>R) (fun _ call=>call f args h k) e
def xCall(f:FuncId)(l:List GV):FOp:=fun E F h k=>evA l F fun args=>eCall E f args h k
theorem eCall_way{E:E}{n:Nat}(S:ESim tb call E n)(f:FuncId)(args:List AVal){h:FHeap}{H:AHeap}(QH:HRel h H):(∀k,eCall E f args h k=.no)∨∃v h' H',tb f=true∧call f args H=some (v,H')∧HRel h' H'∧∀k,eCall E f args h k=k v h':=by
 have hu:∀k,eCall E f args h k=E.call f args h k:=fun k=>by cases E; rfl
 simp only[hu]
 exact S.call f args h H QH
theorem xCall_ok(f:FuncId)(l:List Opd):OpOK tb call D (xCall f (fXs D l)) (.call f l):=by
 intro E n F h T H S Q QH
 rcases evA_ok l Q with q | q
 ·exact .inl fun k=>q _
 ·rcases eCall_way S f (evs T l) QH with p | ⟨v,h',H',p1,p2,p3,p4⟩
  ·exact .inl fun k=>(q _).trans (p _)
  ·exact .inr ⟨v,h',H',by simp only[aval,aop,p1,cond_true,p2],p3,fun k=>(q _).trans (p4 _)⟩
def fnId(f:Fn)(k:FuncId→R):R:=match f with | .func g=>k g | _=>.no
def xCallV(f:GV)(l:List GV):FOp:=fun E F h k=>f F fun f=>vFn f fun fn a b=>fnId fn fun g=>ifb (Nat.blt g BIG) (evA l F fun args=>eCall E g (a++args++b) h k) .no
theorem xCallV_ok(f:Opd)(l:List Opd):OpOK tb call D (xCallV (fX D f) (fXs D l)) (.callv f l):=by
 intro E n F h T H S Q QH
 rcases fX_ok f F T Q with q0 | q0
 ·exact .inl fun k=>q0 _
 ·by_cases hf:∃g a b,ev T f=.func (.func g) a b
  ·obtain⟨g,a,b,hf⟩:=hf
   have hu:∀k,(vFn (ev T f) fun fn a b=>fnId fn fun g=>ifb (Nat.blt g BIG) (evA (fXs D l) F fun args=>eCall E g (a++args++b) h k) .no)=bif Nat.blt g BIG then (evA (fXs D l) F fun args=>eCall E g (a++args++b) h k) else .no:=fun k=>by rw[hf,← ifb_eq]; rfl
   cases hbig:Nat.blt g BIG with
   | false=>exact .inl fun k=>(q0 _).trans ((hu k).trans (by rw[hbig]; rfl))
   | true=>
   rw[hbig]at hu
   rcases evA_ok l Q with q | q
   ·exact .inl fun k=>(q0 _).trans ((hu k).trans (q _))
   ·rcases eCall_way S g (a++evs T l++b) QH with p | ⟨v,h',H',p1,p2,p3,p4⟩
    ·exact .inl fun k=>(q0 _).trans ((hu k).trans ((q _).trans (p _)))
    ·exact .inr ⟨v,h',H',by simp only[aval,aop,hf,hbig,p1,Bool.and_self,cond_true,p2],p3,fun k=>(q0 _).trans ((hu k).trans ((q _).trans (p4 _)))⟩
  ·refine .inl fun k=>(q0 _).trans ?_
   cases hv:ev T f <;> (try rfl)
   case func fn a b=>cases fn <;> (try rfl); exact absurd ⟨_,_,_,hv⟩ hf
def oIter(o:FObj)(k:List UInt8→Nat→R):R:=@FObj.rec (fun _=>R) (fun _ _ _ _ _=>.no) (fun _ _=>.no) k o
def oMap(o:FObj)(k:List Ent→Nat→R):R:=@FObj.rec (fun _=>R) (fun _ _ _ _ _=>.no) k (fun _ _=>.no) o
def oE(x:Option (AVal×List Ent×Nat))(k:AVal→List Ent→Nat→R):R:=match x with
 | some (v,es,c)=>k v es c
 | none=>.no
def fEnt(e:Ent)(k:Ent→R):R:=fV e.1 fun a=>fV e.2.1 fun b=>fN e.2.2 fun n=>k (a,b,n)
theorem fEnt_eq(e:Ent)(k:Ent→R):fEnt e k=k e:=by simp only[fEnt,fV_eq,fN_eq]
def fEs:List Ent→(List Ent→R)→R:=@List.rec Ent (fun _=>(List Ent→R)→R) (fun k=>k []) (fun e _ ih k=>fEnt e fun e=>ih fun l=>k (e::l))
theorem fEs_eq:∀(l:List Ent) (k:List Ent→R),fEs l k=k l
 | [],_=>rfl
 | e::l,k=>by
  show fEnt e (fun e=>fEs l fun l=>k (e::l))=_
  rw[fEnt_eq,fEs_eq]
def fCpyN(size:Nat)(so xo:Option Ad)(h:FHeap)(k:AVal→FHeap→R)(n:Nat):R:=ifb (Nat.beq n (nat_lit 0)) (k (.int .i64 (.ofNat (nat_lit 0))) h) (match so,xo with
 | some a,some b=>fRdN h b (Nat.mul n size) fun l=>fWrN h a l fun h=>k (.int .i64 (.ofNat n)) h
 | _,_=>.no)
def fSet(h:FHeap)(b:Nat)(xs:List AVal)(k:FHeap→R):R:=len1 xs (nat_lit 0) fun n=>csFit n (nat_lit 8) cs0 fun t=>stL xs t (nat_lit 0) fun t n=>hS h b (.cells t n (nat_lit 0) false) k
theorem fSet_way{h:FHeap}{H:AHeap}(Q:HRel h H)(b:Nat)(xs:List AVal):(∀k,fSet h b xs k=.no)∨∃h',(∀k,fSet h b xs k=k h')∧HRel h' (H.set b (.cells xs 0 false)):=by
 have hu:∀k,fSet h b xs k=csFit xs.length 8 cs0 fun t=>stL xs t 0 fun t n=>hS h b (.cells t n 0 false) k:=fun k=>len1_eq _ _ _
 rcases csFit_way xs.length 8 cs0 with q | ⟨t0,q,_⟩
 ·exact .inl fun k=>(hu k).trans (q _)
 ·rcases stL_way xs t0 0 with s | ⟨t',s1,s2⟩
  ·exact .inl fun k=>(hu k).trans ((q _).trans (s _))
  ·rw[Nat.zero_add]at s1
   rcases hS_way Q b (.cells t' xs.length 0 false) (A:=.cells xs 0 false) (by simp only[FObj.abs,cellsOf_new s2]) with r | ⟨h',q1,q2⟩
   ·exact .inl fun k=>(hu k).trans ((q _).trans ((s1 _).trans (r _)))
   ·exact .inr ⟨h',fun k=>(hu k).trans ((q _).trans ((s1 _).trans (q1 _))),q2⟩
def fFil(h:FHeap)(b:Nat)(r:Option (AVal×AObj))(k:AVal→FHeap→R):R:=match r with
 | some (v,.cells xs 0 false false)=>fSet h b xs fun h=>fV v fun v=>k v h
 | some (v,.map [] 0)=>hS h b (.map [] 0) fun h=>fV v fun v=>k v h
 | _=>.no
theorem fFil_way{h:FHeap}{H:AHeap}(Q:HRel h H)(b:Nat)(r:Option (AVal×AObj)):(∀k,fFil h b r k=.no)∨∃v o h',r=some (v,o)∧(∀k,fFil h b r k=k v h')∧HRel h' (H.set b o):=by
 unfold fFil
 split
 ·rename_i v xs
  rcases fSet_way Q b xs with q | ⟨h',q1,q2⟩
  ·exact .inl fun k=>q _
  ·exact .inr ⟨v,_,h',rfl,fun k=>by rw[q1,fV_eq],q2⟩
 ·rename_i v
  rcases hS_way Q b (.map [] 0) (A:=.map [] 0) rfl with q | ⟨h',q1,q2⟩
  ·exact .inl fun k=>q _
  ·exact .inr ⟨v,_,h',rfl,fun k=>by rw[q1,fV_eq],q2⟩
 ·exact .inl fun k=>rfl
def fgA(h:FHeap):Nat→Option AObj:=fun b=>absO (h.get b)
theorem fg_le{h:FHeap}{H:AHeap}(Q:HRel h H){b:Nat}{x:AObj}(e:fgA h b=some x):H.get b=some x:=by
 unfold fgA at e
 by_cases hb:b<32768
 ·rw[← Q.at_ b hb]; exact e
 ·have:h.get b=none:=by unfold FHeap.get; rw[ble_dec,decide_eq_false om]; rfl
  rw[this]at e
  simp[absO]at e
theorem pEqP_le{g g':Nat→Option AObj}(hg:∀b x,g b=some x→g' b=some x){a c:Ad}{r:Bool}(h:pEqP g a c=some r):pEqP g' a c=some r:=by
 unfold pEqP at h ⊢
 cases hb:Nat.beq a.b c.b with
 | true=>rw[hb]at h; exact h
 | false=>
  rw[hb]at h
  simp only[cond_false]at h ⊢
  split at h
  ·rename_i h1 h2
   rw[hg _ _ h1,hg _ _ h2]; exact h
  ·simp at h
theorem pEqV_le{g g':Nat→Option AObj}(hg:∀b x,g b=some x→g' b=some x){kd:FKd}{a c:AVal}{r:Bool}(h:pEqV g kd a c=some r):pEqV g' kd a c=some r:=by
 unfold pEqV at h ⊢
 split at h
 ·exact pEqP_le hg h
 ·exact h
 ·exact h
 ·simp at h
theorem pEqK_le{g g':Nat→Option AObj}(hg:∀b x,g b=some x→g' b=some x){ks:FKd×FKd}{a c:AVal}{r:Bool}(h:pEqK g ks a c=some r):pEqK g' ks a c=some r:=by
 unfold pEqK at h ⊢
 split at h
 ·split at h
  ·rename_i h1; rw[pEqV_le hg h1]; exact pEqV_le hg h
  ·rename_i h1; rw[pEqV_le hg h1]; exact h
  ·simp at h
 ·simp at h
theorem pFind_le{g g':Nat→Option AObj}(hg:∀b x,g b=some x→g' b=some x){ks:FKd×FKd}{k:AVal}:∀{es:List Ent} {i:Nat} {r:Option (Nat×Ent)},pFind g ks k es i=some r→pFind g' ks k es i=some r
 | [],_,_,h=>h
 | e::es,i,r,h=>by
  simp only[pFind]at h ⊢
  split at h
  ·rename_i h1; rw[pEqK_le hg h1]; exact h
  ·rename_i h1; rw[pEqK_le hg h1]; exact pFind_le hg h
  ·simp at h
theorem aPLookE_le{g g':Nat→Option AObj}(hg:∀b x,g b=some x→g' b=some x){ks:FKd×FKd}{ok:Bool}{z:AVal}{es:List Ent}{k v:AVal}(h:aPLookE g ks ok z es k=some v):aPLookE g' ks ok z es k=some v:=by
 unfold aPLookE at h ⊢
 cases hi:isPK ks k with
 | false=>rw[hi]at h; simp at h
 | true=>
  rw[hi]at h
  simp only[cond_true]at h ⊢
  split at h
  ·rename_i h1; rw[pFind_le hg h1]; exact h
  ·rename_i h1; rw[pFind_le hg h1]; exact h
  ·simp at h
theorem aPUpdE_le{g g':Nat→Option AObj}(hg:∀b x,g b=some x→g' b=some x){ks:FKd×FKd}{es:List Ent}{c:Nat}{k x:AVal}{r:List Ent×Nat}(h:aPUpdE g ks es c k x=some r):aPUpdE g' ks es c k x=some r:=by
 unfold aPUpdE at h ⊢
 cases hi:isPK ks k with
 | false=>rw[hi]at h; simp at h
 | true=>
  rw[hi]at h
  simp only[cond_true]at h ⊢
  split at h
  ·rename_i h1; rw[pFind_le hg h1]; exact h
  ·rename_i h1; rw[pFind_le hg h1]; exact h
  ·simp at h
theorem aPDelE_le{g g':Nat→Option AObj}(hg:∀b x,g b=some x→g' b=some x){ks:FKd×FKd}{es:List Ent}{c:Nat}{k:AVal}{r:List Ent×Nat}(h:aPDelE g ks es c k=some r):aPDelE g' ks es c k=some r:=by
 unfold aPDelE at h ⊢
 cases hi:isPK ks k with
 | false=>rw[hi]at h; simp at h
 | true=>
  rw[hi]at h
  simp only[cond_true]at h ⊢
  split at h
  ·rename_i h1; rw[pFind_le hg h1]; exact h
  ·rename_i h1; rw[pFind_le hg h1]; exact h
  ·simp at h
def oU(x:Option (List Ent×Nat))(k:List Ent→Nat→R):R:=match x with
 | some (es,c)=>k es c
 | none=>.no
def fHf(f:HF)(h:FHeap)(l:List AVal)(k:AVal→FHeap→R):R:=match f with
 | .mkMap=>match l with
  | []=>hP h (.map [] (nat_lit 0)) fun b h=>k (.map (some b)) h
  | _=>.no
 | .mLook kc ok z=>match l with
  | [.map none,key]=>ifb (isK kc key) (fV (mRet ok z false) fun v=>k v h) .no
  | [.map (some r),key]=>hG h r fun o=>oMap o fun es _=>onF (aLookE kc ok z es key) fun v=>k v h
  | _=>.no
 | .mf f=>match l with
  | .map (some r)::l=>hG h r fun o=>oMap o fun es c=>oE (aMf f es c l) fun v es c=>fEs es fun es=>fN c fun c=>fV v fun v=>hS h r (.map es c) fun h=>k v h
  | _=>.no
 | .clr z=>match l with
  | [.slice none _ _]=>k (.tuple []) h
  | [.slice (some a) n _]=>ifb (Nat.beq n (nat_lit 0)) (k (.tuple []) h) (fWrN h a (rep z n) fun h=>k (.tuple []) h)
  | _=>.no
 | .cpy size=>match l with
  | [.slice so sl _,.slice xo xl _]=>ifb (Nat.ble xl sl) (fCpyN size so xo h k xl) (fCpyN size so xo h k sl)
  | _=>.no
 | .strRange=>match l with
  | [x]=>vStr x fun s=>hP h (.iter s (nat_lit 0)) fun b h=>k (.ptr (some ⟨b,nat_lit 0,nat_lit 0⟩)) h
  | _=>.no
 | .strNext=>match l with
  | [.ptr (some ⟨b,0,0⟩)]=>hG h b fun o=>oIter o fun s pos=>match nthB s pos with
   | none=>k (.tuple [.bool false]) h
   | some c=>bif Nat.ble 128 c.toNat then
     match Utf8.decode (strOf s) pos with
     | (r,n)=>fN pos fun pos=>fN r fun r=>fN (pos+n) fun q=>hS h b (.iter s q) fun h=>k (.tuple [.bool true,.int .i64 (.ofNat pos),.int .i32 (.ofNat r)]) h
    else fN c.toNat fun r=>fN (Nat.succ pos) fun q=>hS h b (.iter s q) fun h=>k (.tuple [.bool true,.int .i64 (.ofNat pos),.int .i32 (.ofNat r)]) h
  | _=>.no
 | .fill b kk=>hG h b fun o=>oCells o fun _ _ low ro mk=>ifb (Nat.beq low (nat_lit 0)) (ifb ro .no (ifb mk .no (fFil h b (fillO kk b l) k))) .no
 | .pLook ks ok z=>match l with
  | [.map (some r),key]=>hG h r fun o=>oMap o fun es _=>onF (aPLookE (fgA h) ks ok z es key) fun v=>k v h
  | _=>.no
 | .pUpd ks=>match l with
  | [.map (some r),key,x]=>hG h r fun o=>oMap o fun es c=>oU (aPUpdE (fgA h) ks es c key x) fun es c=>fEs es fun es=>fN c fun c=>hS h r (.map es c) fun h=>k (.tuple []) h
  | _=>.no
 | .pDel ks=>match l with
  | [.map (some r),key]=>hG h r fun o=>oMap o fun es c=>oU (aPDelE (fgA h) ks es c key) fun es c=>fEs es fun es=>fN c fun c=>hS h r (.map es c) fun h=>k (.tuple []) h
  | _=>.no
 | .mark=>match l with
  | [.slice (some a) n r]=>hG h a.b fun o=>oCells o fun t m low ro _=>ifb ro .no (hS h a.b (.cells t m low false true) fun h=>k (.slice (some a) n r) h)
  | _=>.no
 | .gIdx g m n=>match l with
  | [i]=>hG h g fun o=>oCells o fun _ len _ ro mk=>ifb mk .no <| ifb ro (fIdxR m n (.ptr (some ⟨g,len,nat_lit 0⟩)) i fun v=>k v h) .no
  | _=>.no
 | .gLd g a n=>match l with
  | []=>hG h g fun o=>oCells o fun _ len _ ro mk=>ifb mk .no <| ifb ro (ifb a (fRdN h ⟨g,len,nat_lit 0⟩ n fun l=>k (.agg l) h) (ifb (Nat.beq n (nat_lit 1)) (fRd1 h ⟨g,len,nat_lit 0⟩ fun v=>k v h) .no)) .no
  | _=>.no
 | .gFld g off=>match l with
  | []=>hG h g fun o=>oCells o fun _ len _ ro mk=>ifb mk .no <| ifb ro (fFld off (.ptr (some ⟨g,len,nat_lit 0⟩)) fun v=>k v h) .no
  | _=>.no
theorem fHf_way{h:FHeap}{H:AHeap}(Q:HRel h H)(f:HF)(l:List AVal):(∀k,fHf f h l k=.no)∨∃v h' H',aHf f H l=some (v,H')∧HRel h' H'∧∀k,fHf f h l k=k v h':=by
 cases f with
 | mkMap=>
  rcases l with _ | ⟨x,r⟩
  ·rcases hP_way Q (.map [] 0) (A:=.map [] 0) rfl with q | ⟨h',q1,q2⟩
   ·refine .inl fun k=>?_
    show hP h (.map [] 0) (fun b h=>k (.map (some b)) h)=_
    exact q _
   ·refine .inr ⟨.map (some H.next),h',_,rfl,q2,fun k=>?_⟩
    show hP h (.map [] 0) (fun b h=>k (.map (some b)) h)=_
    exact q1 _
  ·exact .inl fun k=>rfl
 | mLook kc ok z=>
  unfold fHf
  simp only
  split
  ·rename_i key
   cases hi:isK kc key with
   | false=>exact .inl fun k=>by rw[ifb_eq]; rfl
   | true=>exact .inr ⟨mRet ok z false,h,H,by simp only[aHf,aMLook,hi,cond_true],Q,fun k=>by rw[ifb_eq,fV_eq]; rfl⟩
  ·rename_i r key
   rcases hG_way h r with q | ⟨o,hb,ho,q⟩
   ·exact .inl fun k=>q _
   ·have e:=Q.at_ r hb
    rw[ho]at e
    cases o with
    | cells t n low ro=>exact .inl fun k=>q _
    | iter s pos=>exact .inl fun k=>q _
    | map es c=>
     have e':H.get r=some (.map es c):=e.symm
     cases hl:aLookE kc ok z es key with
     | none=>exact .inl fun k=>(q _).trans (by simp only[oMap,onF_eq,hl,on])
     | some v=>exact .inr ⟨v,h,H,by simp only[aHf,aMLook,e',hl],Q,fun k=>(q _).trans (by simp only[oMap,onF_eq,hl,on])⟩
  ·exact .inl fun k=>rfl
 | mf f=>
  unfold fHf
  simp only
  split
  ·rename_i r l
   rcases hG_way h r with q | ⟨o,hb,ho,q⟩
   ·exact .inl fun k=>q _
   ·have e:=Q.at_ r hb
    rw[ho]at e
    cases o with
    | cells t n low ro=>exact .inl fun k=>q _
    | iter s pos=>exact .inl fun k=>q _
    | map es c=>
     have e':H.get r=some (.map es c):=e.symm
     cases hl:aMf f es c l with
     | none=>exact .inl fun k=>(q _).trans (by simp only[oMap,hl,oE])
     | some p=>
      obtain⟨v,es',c'⟩:=p
      rcases hS_way Q r (.map es' c') (A:=.map es' c') rfl with s | ⟨h',q1,q2⟩
      ·exact .inl fun k=>(q _).trans (by simp only[oMap,hl,oE,fEs_eq,fN_eq,fV_eq]; exact s _)
      ·exact .inr ⟨v,h',_,by simp only[aHf,aMF,e',hl],q2,fun k=>(q _).trans (by simp only[oMap,hl,oE,fEs_eq,fN_eq,fV_eq]; exact q1 _)⟩
  ·exact .inl fun k=>rfl
 | clr z=>
  unfold fHf
  simp only
  split
  ·exact .inr ⟨.tuple [],h,H,rfl,Q,fun k=>rfl⟩
  ·rename_i a n r
   cases hn:Nat.beq n 0 with
   | true=>exact .inr ⟨.tuple [],h,H,by simp only[aHf,aClr,hn,cond_true],Q,fun k=>by rw[ifb_eq]; rfl⟩
   | false=>
    rcases fWrN_way Q a (rep z n) with q | ⟨h',H',q1,q2,q3⟩
    ·exact .inl fun k=>by rw[ifb_eq]; exact q _
    ·exact .inr ⟨.tuple [],h',H',by simp only[aHf,aClr,hn,cond_false,q1],q2,fun k=>by rw[ifb_eq]; exact q3 _⟩
  ·exact .inl fun k=>rfl
 | cpy size=>
  unfold fHf
  simp only
  split
  ·rename_i so sl sr xo xl xr
   have hmin:∀k,ifb (Nat.ble xl sl) (fCpyN size so xo h k xl) (fCpyN size so xo h k sl)=fCpyN size so xo h k (Nat.min xl sl):=by
    intro k
    rw[ifb_eq]
    cases hb:Nat.ble xl sl with
    | true=>rw[show Nat.min xl sl=xl from Nat.min_eq_left (Nat.le_of_ble_eq_true hb)]; rfl
    | false=>
     have:¬xl≤sl:=fun e=>by rw[Nat.ble_eq_true_of_le e]at hb; simp at hb
     rw[show Nat.min xl sl=sl from Nat.min_eq_right om]; rfl
   cases hn:Nat.beq (Nat.min xl sl) 0 with
   | true=>exact .inr ⟨.int .i64 (.ofNat 0),h,H,by simp only[aHf,aCpy,hn,cond_true],Q,fun k=>by rw[hmin]; unfold fCpyN; rw[ifb_eq,hn]; rfl⟩
   | false=>
    cases so with
    | none=>exact .inl fun k=>by rw[hmin]; unfold fCpyN; rw[ifb_eq,hn]; rfl
    | some a=>
     cases xo with
     | none=>exact .inl fun k=>by rw[hmin]; unfold fCpyN; rw[ifb_eq,hn]; rfl
     | some b=>
      rcases fRdN_way Q b (Nat.mul (Nat.min xl sl) size) with q | ⟨l,p1,p2⟩
      ·exact .inl fun k=>by rw[hmin]; unfold fCpyN; rw[ifb_eq,hn]; exact q _
      ·rcases fWrN_way Q a l with q | ⟨h',H',q1,q2,q3⟩
       ·exact .inl fun k=>by rw[hmin]; unfold fCpyN; rw[ifb_eq,hn]; exact (p2 _).trans (q _)
       ·refine .inr ⟨.int .i64 (.ofNat (Nat.min xl sl)),h',H',?_,q2,fun k=>by rw[hmin]; unfold fCpyN; rw[ifb_eq,hn]; exact (p2 _).trans (q3 _)⟩
        have p1':rdCells H b (Nat.min xl sl*size)=some l:=p1
        simp only[aHf,aCpy,hn,cond_false,p1',q1]
  ·exact .inl fun k=>rfl
 | strRange=>
  rcases l with _ | ⟨x,_ | ⟨y,r⟩⟩
  ·exact .inl fun k=>rfl
  ·rcases vStr_way x with p | ⟨s,rfl,p2⟩
   ·exact .inl fun k=>p _
   ·rcases hP_way Q (.iter s 0) (A:=.iter s 0) rfl with q | ⟨h',q1,q2⟩
    ·exact .inl fun k=>by
      show hP h (.iter s 0) (fun b h=>k (.ptr (some ⟨b,0,0⟩)) h)=_
      exact q _
    exact .inr ⟨.ptr (some ⟨H.next,0,0⟩),h',_,rfl,q2,fun k=>by
     show hP h (.iter s 0) (fun b h=>k (.ptr (some ⟨b,0,0⟩)) h)=_
     exact q1 _⟩
  ·exact .inl fun k=>rfl
 | strNext=>
  unfold fHf
  simp only
  split
  ·rename_i b
   rcases hG_way h b with q | ⟨o,hb,ho,q⟩
   ·exact .inl fun k=>q _
   ·have e:=Q.at_ b hb
    rw[ho]at e
    cases o with
    | cells t n low ro=>exact .inl fun k=>q _
    | map es c=>exact .inl fun k=>q _
    | iter s pos=>
     have e':H.get b=some (.iter s pos):=e.symm
     simp only[q]
     cases hn:nthB s pos with
     | none=>exact .inr ⟨.tuple [.bool false],h,H,by simp only[aHf,aNext,e',hn],Q,fun k=>by simp only[oIter,hn]⟩
     | some c=>
      cases hc:Nat.ble 128 c.toNat with
      | true=>
       rcases hS_way Q b (.iter s (pos+(Utf8.decode (strOf s) pos).2)) (A:=.iter s (pos+(Utf8.decode (strOf s) pos).2)) rfl with r | ⟨h',q1,q2⟩
       ·exact .inl fun k=>by simp only[oIter,hn,hc,cond_true,fN_eq]; exact r _
       exact .inr ⟨.tuple [.bool true,.int .i64 (.ofNat pos),.int .i32 (.ofNat (Utf8.decode (strOf s) pos).1)],h',_,by simp only[aHf,aNext,e',hn,hc,cond_true],q2,fun k=>by simp only[oIter,hn,hc,cond_true,fN_eq]; exact q1 _⟩
      | false=>
       rcases hS_way Q b (.iter s (pos+1)) (A:=.iter s (pos+1)) rfl with r | ⟨h',q1,q2⟩
       ·exact .inl fun k=>by simp only[oIter,hn,hc,cond_false,fN_eq]; exact r _
       exact .inr ⟨.tuple [.bool true,.int .i64 (.ofNat pos),.int .i32 (.ofNat c.toNat)],h',_,by simp only[aHf,aNext,e',hn,hc,cond_false],q2,fun k=>by simp only[oIter,hn,hc,cond_false,fN_eq]; exact q1 _⟩
  ·exact .inl fun k=>rfl
 | mark=>
  unfold fHf
  simp only
  split
  ·rename_i a n r
   rcases hG_cells Q a.b with q | ⟨t,m,low,ro,mk,hg,q⟩
   ·exact .inl fun k=>q _
   ·cases ro with
    | true=>exact .inl fun k=>q _
    | false=>
     rcases hS_way Q a.b (.cells t m low false true) (A:=.cells (cellsOf t m) low false true) rfl with p | ⟨h',p1,p2⟩
     ·exact .inl fun k=>(q _).trans (p _)
     ·exact .inr ⟨_,h',H.set a.b (.cells (cellsOf t m) low false true),by simp only[aHf,aMark,hg],p2,fun k=>(q _).trans (p1 _)⟩
  ·exact .inl fun k=>rfl
 | gIdx g m n=>
  unfold fHf
  simp only
  split
  ·rename_i i
   rcases hG_cells Q g with q | ⟨t,c,low,ro,mk,hg,q⟩
   ·exact .inl fun k=>q _
   cases mk with
   | true=>exact .inl fun k=>q _
   | false=>
   ·cases ro with
    | false=>exact .inl fun k=>q _
    | true=>
     have hp:gPtr H g=some (.ptr (some ⟨g,c,0⟩)):=by simp only[gPtr,hg,cellsOf_len]
     rcases fIdxR_way m n (.ptr (some ⟨g,c,0⟩)) i with r | ⟨v,r1,r2⟩
     ·exact .inl fun k=>by rw[q]; exact r fun v=>k v h
     ·exact .inr ⟨v,h,H,by simp only[aHf,aGIdx,hp,r1],Q,fun k=>by rw[q]; exact r2 fun v=>k v h⟩
  ·exact .inl fun k=>rfl
 | gLd g a n=>
  unfold fHf
  simp only
  split
  ·rcases hG_cells Q g with q | ⟨t,c,low,ro,mk,hg,q⟩
   ·exact .inl fun k=>q _
   cases mk with
   | true=>exact .inl fun k=>q _
   | false=>
   ·cases ro with
    | false=>exact .inl fun k=>q _
    | true=>
     have hp:gPtr H g=some (.ptr (some ⟨g,c,0⟩)):=by simp only[gPtr,hg,cellsOf_len]
     cases a with
     | true=>
      rcases fRdN_way Q ⟨g,c,0⟩ n with r | ⟨l,r1,r2⟩
      ·exact .inl fun k=>(q _).trans (r _)
      ·exact .inr ⟨.agg l,h,H,by simp only[aHf,aGLd,hp,oLoad,r1,cond_true],Q,fun k=>(q _).trans (r2 _)⟩
     | false=>
      cases hn:Nat.beq n 1 with
      | false=>exact .inl fun k=>by rw[q]; simp only[ifb_eq,hn,cond_true,cond_false]
      | true=>
       obtain rfl:=Nat.eq_of_beq_eq_true hn
       rcases fRd1_way Q ⟨g,c,0⟩ with r | ⟨v,r1,r2⟩
       ·exact .inl fun k=>(q _).trans (r _)
       ·exact .inr ⟨v,h,H,by simp only[aHf,aGLd,hp,oLoad,r1,cond_false],Q,fun k=>(q _).trans (r2 _)⟩
  ·exact .inl fun k=>rfl
 | fill b kk=>
  unfold fHf
  simp only
  rcases hG_cells Q b with q | ⟨t,m,low,ro,mk,hg,q⟩
  ·exact .inl fun k=>q _
  ·cases hl:Nat.beq low 0 with
   | false=>exact .inl fun k=>(q _).trans (by rw[ifb_eq,hl]; rfl)
   | true=>
    have e:=Nat.eq_of_beq_eq_true hl
    subst e
    cases ro with
    | true=>exact .inl fun k=>q _
    | false=>
     cases mk with
     | true=>exact .inl fun k=>q _
     | false=>
      rcases fFil_way Q b (fillO kk b l) with p | ⟨v,o,h',p1,p2,p3⟩
      ·exact .inl fun k=>(q _).trans (p k)
      ·exact .inr ⟨v,h',H.set b o,by simp only[aHf,aFillB,hg,p1],p3,fun k=>(q _).trans (p2 k)⟩
 | pLook ks ok z=>
  unfold fHf
  simp only
  split
  ·rename_i r key
   rcases hG_way h r with q | ⟨o,hb,ho,q⟩
   ·exact .inl fun k=>q _
   ·have e:=Q.at_ r hb
    rw[ho]at e
    cases o with
    | cells t n low ro=>exact .inl fun k=>q _
    | iter s pos=>exact .inl fun k=>q _
    | map es c=>
     have e':H.get r=some (.map es c):=e.symm
     cases hl:aPLookE (fgA h) ks ok z es key with
     | none=>exact .inl fun k=>(q _).trans (by simp only[oMap,onF_eq,hl,on])
     | some v=>exact .inr ⟨v,h,H,by simp only[aHf,aPLook,e',aPLookE_le (fun _ _=>fg_le Q) hl],Q,fun k=>(q _).trans (by simp only[oMap,onF_eq,hl,on])⟩
  ·exact .inl fun k=>rfl
 | pUpd ks=>
  unfold fHf
  simp only
  split
  ·rename_i r key x
   rcases hG_way h r with q | ⟨o,hb,ho,q⟩
   ·exact .inl fun k=>q _
   ·have e:=Q.at_ r hb
    rw[ho]at e
    cases o with
    | cells t n low ro=>exact .inl fun k=>q _
    | iter s pos=>exact .inl fun k=>q _
    | map es c=>
     have e':H.get r=some (.map es c):=e.symm
     cases hl:aPUpdE (fgA h) ks es c key x with
     | none=>exact .inl fun k=>(q _).trans (by simp only[oMap,hl,oU])
     | some p=>
      obtain⟨es',c'⟩:=p
      rcases hS_way Q r (.map es' c') (A:=.map es' c') rfl with s | ⟨h',q1,q2⟩
      ·exact .inl fun k=>(q _).trans (by simp only[oMap,hl,oU,fEs_eq,fN_eq]; exact s _)
      ·exact .inr ⟨.tuple [],h',_,by simp only[aHf,aPUpd,e',aPUpdE_le (fun _ _=>fg_le Q) hl],q2,fun k=>(q _).trans (by simp only[oMap,hl,oU,fEs_eq,fN_eq]; exact q1 _)⟩
  ·exact .inl fun k=>rfl
 | pDel ks=>
  unfold fHf
  simp only
  split
  ·rename_i r key
   rcases hG_way h r with q | ⟨o,hb,ho,q⟩
   ·exact .inl fun k=>q _
   ·have e:=Q.at_ r hb
    rw[ho]at e
    cases o with
    | cells t n low ro=>exact .inl fun k=>q _
    | iter s pos=>exact .inl fun k=>q _
    | map es c=>
     have e':H.get r=some (.map es c):=e.symm
     cases hl:aPDelE (fgA h) ks es c key with
     | none=>exact .inl fun k=>(q _).trans (by simp only[oMap,hl,oU])
     | some p=>
      obtain⟨es',c'⟩:=p
      rcases hS_way Q r (.map es' c') (A:=.map es' c') rfl with s | ⟨h',q1,q2⟩
      ·exact .inl fun k=>(q _).trans (by simp only[oMap,hl,oU,fEs_eq,fN_eq]; exact s _)
      ·exact .inr ⟨.tuple [],h',_,by simp only[aHf,aPDel,e',aPDelE_le (fun _ _=>fg_le Q) hl],q2,fun k=>(q _).trans (by simp only[oMap,hl,oU,fEs_eq,fN_eq]; exact q1 _)⟩
  ·exact .inl fun k=>rfl
 | gFld g off=>
  unfold fHf
  simp only
  split
  ·rcases hG_cells Q g with q | ⟨t,c,low,ro,mk,hg,q⟩
   ·exact .inl fun k=>q _
   cases mk with
   | true=>exact .inl fun k=>q _
   | false=>
   ·cases ro with
    | false=>exact .inl fun k=>q _
    | true=>
     have hp:gPtr H g=some (.ptr (some ⟨g,c,0⟩)):=by simp only[gPtr,hg,cellsOf_len]
     rcases fFld_way off (.ptr (some ⟨g,c,0⟩)) with r | ⟨v,r1,r2⟩
     ·exact .inl fun k=>by rw[q]; exact r fun v=>k v h
     ·exact .inr ⟨v,h,H,by simp only[aHf,aGFld,hp,r1],Q,fun k=>by rw[q]; exact r2 fun v=>k v h⟩
  ·exact .inl fun k=>rfl
def xHf(f:HF)(l:List GV):FOp:=fun _ F h k=>evA l F fun l=>fHf f h l k
theorem xHf_ok(f:HF)(l:List Opd):OpOK tb call D (xHf f (fXs D l)) (.hf f l):=by
 intro E n F h T H _ Q QH
 rcases evA_ok l Q with q | q
 ·exact .inl fun k=>q _
 ·rcases fHf_way QH f (evs T l) with p | ⟨v,h',H',p1,p2,p3⟩
  ·exact .inl fun k=>(q _).trans (p _)
  ·exact .inr ⟨v,h',H',by simp only[aval,aop,p1,vh],p2,fun k=>(q _).trans (p3 _)⟩
def clK(s:Option (Nat×Nat))(b m:Nat)(k:AVal→R):R:=match s with
 | none=>k (.ptr (some ⟨b,m,nat_lit 0⟩))
 | some (l,c)=>k (.slice (some ⟨b,m,nat_lit 0⟩) l (.known c))
def xClaimR(b:Nat)(z:List AVal)(s:Option (Nat×Nat)):FOp:=fun _ _ h k=>fN b fun b=>hG h b fun o=>oCells o fun t n low ro mk=>ifb mk .no <| ifb (Nat.beq low (nat_lit 0)) (ifb ro .no (rdL t (nat_lit 0) n [] fun l=>ifb (aeqs l z) (lLen z (nat_lit 0) fun m=>clK s b m fun v=>k v h) .no)) .no
theorem xClaimR_ok(b:Nat)(z:List AVal)(s:Option (Nat×Nat))(hm:isMp s=false):OpOK tb call D (xClaimR b z s) (.claim b z s):=by
 intro E m F h T H _ Q QH
 rcases hG_cells QH b with hk | ⟨t,n,low,ro,mk,hg,hk⟩
 ·exact .inl fun k=>(fN_eq _ _).trans (hk _)
 cases mk with
 | true=>exact .inl fun k=>(fN_eq _ _).trans (hk _)
 | false=>
 ·have hu:∀k,xClaimR b z s E F h k=ifb (Nat.beq low 0) (ifb ro .no (rdL t 0 n [] fun l=>ifb (aeqs l z) (lLen z 0 fun m=>clK s b m fun v=>k v h) .no)) .no:=fun k=>(fN_eq _ _).trans (hk _)
  cases hl:Nat.beq low 0 with
  | false=>exact .inl fun k=>by rw[hu,hl]; rfl
  | true=>
   have:=Nat.eq_of_beq_eq_true hl
   subst this
   cases ro with
   | true=>exact .inl fun k=>hu k
   | false=>
    rcases rdL_way t 0 n [] with q | q
    ·exact .inl fun k=>(hu k).trans (q _)
    ·have hc:(List.range n).map (fun i=>t.get (0+i))++[]=cellsOf t n:=by simp[cellsOf]
     rw[hc]at q
     cases ha:aeqs (cellsOf t n) z with
     | false=>exact .inl fun k=>(hu k).trans ((q _).trans (by rw[ha]; rfl))
     | true=>exact .inr ⟨clV b z s,h,H,by simp only[aval,aop,aClaim,hg,ha,hm,Bool.not_false,Bool.and_self,cond_true,vv],QH,fun k=>(hu k).trans ((q _).trans (by rw[ha]; refine (lLen_eq _ _ _).trans ?_; rcases s with _ | ⟨l,c⟩ <;> simp only[clV,hm,cond_false] <;> rfl))⟩
def oNil(es:List Ent)(c:Nat)(k:R):R:=match es with
 | []=>ifb (Nat.beq c (nat_lit 0)) k .no
 | _=>.no
def xClaimM(b:Nat):FOp:=fun _ _ h k=>fN b fun b=>hG h b fun o=>oMap o fun es c=>oNil es c (k (.map (some b)) h)
theorem xClaimM_ok(b:Nat)(z:List AVal)(s:Option (Nat×Nat))(hm:isMp s=true):OpOK tb call D (xClaimM b) (.claim b z s):=by
 intro E m F h T H _ Q QH
 rcases hG_way h b with q | ⟨o,hb,ho,q⟩
 ·exact .inl fun k=>(fN_eq _ _).trans (q _)
 ·have e:=QH.at_ b hb
  rw[ho]at e
  cases o with
  | cells t n low ro=>exact .inl fun k=>(fN_eq _ _).trans (q _)
  | iter s pos=>exact .inl fun k=>(fN_eq _ _).trans (q _)
  | map es c=>
   have e':H.get b=some (.map es c):=e.symm
   cases es with
   | cons x r=>exact .inl fun k=>(fN_eq _ _).trans (q _)
   | nil=>
    cases c with
    | succ c=>exact .inl fun k=>(fN_eq _ _).trans ((q _).trans (by simp only[oMap,oNil,ifb_eq]; rfl))
    | zero=>
     have hv:clV b z s=.map (some b):=by
      rcases s with _ | ⟨l,c⟩
      ·simp[isMp]at hm
      ·simp only[clV,hm,cond_true]
     exact .inr ⟨.map (some b),h,H,by simp only[aval,aop,aClaim,e',hm,cond_true,hv,vv],QH,fun k=>(fN_eq _ _).trans (q _)⟩
def xClaim(b:Nat)(z:List AVal)(s:Option (Nat×Nat)):FOp:=match isMp s with
 | true=>xClaimM b
 | false=>xClaimR b z s
theorem xClaim_ok(b:Nat)(z:List AVal)(s:Option (Nat×Nat)):OpOK tb call D (xClaim b z s) (.claim b z s):=by
 unfold xClaim
 cases hm:isMp s with
 | true=>exact xClaimM_ok b z s hm
 | false=>exact xClaimR_ok b z s hm
def xBad:FOp:=fun _ _ _ _=>.no
def xLdOp(a:Bool)(n:Nat)(g:GV):FOp:=match a with | true=>xLdA n g | false=>bif Nat.beq n 1 then xLd g else xBad
def xIdxOp(m n:Nat)(a:Bool)(x i:GV):FOp:=match a with | true=>xV2 (fIdxG m n true) x i | false=>bif Nat.beq n 1 then xV2 (fIdx1 m) x i else xV2 (fIdxG m n false) x i
def xFldOp(a:Bool)(n o:Nat)(x:GV):FOp:=match a with | true=>xV1 (fFldG n o) x | false=>xV1 (fAgg o) x
def fOp(D:Nat→Bool):AOp→FOp
 | .mv x=>xMv (fX D x)
 | .pick c a b=>xPick (fX D c) (fX D a) (fX D b)
 | .new z=>xNew z
 | .box x=>xBox (fX D x)
 | .build z ps=>xBuild z (fXP D ps)
 | .buildSl n z ps=>xBuildSl (rep z n) n (fXP D ps)
 | .load a n x=>xLdOp a n (fX D x)
 | .store n a x=>xSt n (fX D a) (fX D x)
 | .nilChk x=>xV1 vNil (fX D x)
 | .bin op x y=>xV2 (fBinOp op) (fX D x) (fX D y)
 | .un op x=>xV1 (fUnOp op) (fX D x)
 | .conv k x=>xV1 (fConv k) (fX D x)
 | .convSB x=>xSB (fX D x)
 | .convBS x=>xBS (fX D x)
 | .mkFunc fn a b=>xFn fn (fXs D a) (fXs D b)
 | .mkIface t x=>xIf t (fX D x)
 | .mkSlice b z l c=>xMk b z (fX D l) (fX D c)
 | .sl n x lo hi mx=>xSl n (fX D x) (fXO D lo) (fXO D hi) (fXO D mx)
 | .slStr x lo hi=>xSlS (fX D x) (fXO D lo) (fXO D hi)
 | .fieldA o x=>xV1 (fFld o) (fX D x)
 | .field a n o x=>xFldOp a n o (fX D x)
 | .idxA n x i=>xV2 (fIdxA n) (fX D x) (fX D i)
 | .idxArr m n x i=>xV2 (fIdxR m n) (fX D x) (fX D i)
 | .idx m n a x i=>xIdxOp m n a (fX D x) (fX D i)
 | .idxS x i=>xV2 fIdxS (fX D x) (fX D i)
 | .extract i x=>xV1 (fExt i) (fX D x)
 | .append n b s x=>xApp n b (fX D s) (fX D x)
 | .len s x=>xV1 (fLen s) (fX D x)
 | .call f l=>xCall f (fXs D l)
 | .callv f l=>xCallV (fX D f) (fXs D l)
 | .pf f l=>xVN (fPf f) (fXs D l)
 | .hf f l=>xHf f (fXs D l)
 | .bad=>xBad
 | .claim b z s=>xClaim b z s
 | .slA m n x lo hi mx=>xSlA m n (fX D x) (fXO D lo) (fXO D hi) (fXO D mx)
theorem bad_ok(o:AOp):OpOK tb call D xBad o:=by intro E n F h T H _ _ _; exact .inl fun k=>rfl
theorem fOp_ok(o:AOp):OpOK tb call D (fOp D o) o:=by
 cases o
 case mv x=>exact xMv_ok x
 case pick c a b=>exact xPick_ok c a b
 case new z=>exact xNew_ok z
 case box x=>exact xBox_ok x
 case build z ps=>exact xBuild_ok z ps
 case buildSl n z ps=>exact xBuildSl_ok n z ps
 case load a n x=>
  cases a with
  | true=>exact xLdA_ok n x
  | false=>
   show OpOK tb call D (bif Nat.beq n 1 then xLd (fX D x) else xBad) (.load false n x)
   cases hb:Nat.beq n 1 with
   | true=>have:=Nat.eq_of_beq_eq_true hb; subst this; show OpOK tb call D (xLd (fX D x)) (.load false 1 x); exact xLd_ok x
   | false=>exact bad_ok _
 case store n a x=>exact xSt_ok n a x
 case nilChk x=>exact pure1 vNil_way (fun _ _=>rfl)
 case bin op x y=>exact pure2 (fBinOp_way op) (fun _ _=>rfl)
 case un op x=>exact pure1 (fUnOp_way op) (fun _ _=>rfl)
 case conv k x=>exact pure1 (fConv_way k) (fun _ _=>rfl)
 case convSB x=>exact xSB_ok x
 case convBS x=>exact xBS_ok x
 case mkFunc fn a b=>exact xFn_ok fn a b
 case mkIface t x=>exact xIf_ok t x
 case mkSlice b z l c=>exact xMk_ok b z l c
 case sl n x lo hi mx=>exact xSl_ok n x lo hi mx
 case slStr x lo hi=>exact xSlS_ok x lo hi
 case fieldA o x=>exact pure1 (fFld_way o) (fun _ _=>rfl)
 case field a n o x=>cases a with
  | false=>exact pure1 (fAgg_way n o) (fun _ _=>rfl)
  | true=>exact pure1 (f:=fFldG n o) (r:=aFieldV true n o) (fun v=>onF_way _) (fun _ _=>rfl)
 case idxA n x i=>exact pure2 (fIdxA_way n) (fun _ _=>rfl)
 case idxArr m n x i=>exact pure2 (fIdxR_way m n) (fun _ _=>rfl)
 case idx m n a x i=>
  cases a with
  | true=>exact pure2 (f:=fIdxG m n true) (r:=aIdx m n true) (fun v w=>onF_way _) (fun _ _=>rfl)
  | false=>
   show OpOK tb call D (bif Nat.beq n 1 then xV2 (fIdx1 m) (fX D x) (fX D i) else xV2 (fIdxG m n false) (fX D x) (fX D i)) (.idx m n false x i)
   cases hb:Nat.beq n 1 with
   | true=>have:=Nat.eq_of_beq_eq_true hb; subst this; show OpOK tb call D (xV2 (fIdx1 m) (fX D x) (fX D i)) (.idx m 1 false x i); exact pure2 (fIdx1_way m) (fun _ _=>rfl)
   | false=>exact pure2 (f:=fIdxG m n false) (r:=aIdx m n false) (fun v w=>onF_way _) (fun _ _=>rfl)
 case idxS x i=>exact pure2 fIdxS_way (fun _ _=>rfl)
 case extract i x=>exact pure1 (fExt_way i) (fun _ _=>rfl)
 case append n b s x=>exact xApp_ok n b s x
 case len s x=>exact pure1 (fLen_way s) (fun _ _=>rfl)
 case call f l=>exact xCall_ok f l
 case callv f l=>exact xCallV_ok f l
 case pf f l=>exact pureN (f:=fPf f) (r:=aPf f) (fun v=>onF_way _) (fun _ _=>rfl)
 case hf f l=>exact xHf_ok f l
 case bad=>exact bad_ok _
 case claim b z s=>exact xClaim_ok b z s
 case slA m n x lo hi mx=>exact xSlA_ok m n x lo hi mx
end
end
end
end Go.Abs.F
