/- Part of a proof (A11g A11h A11i A12 S1 S2 S3 S4 S5 N0); no condition. -/
import Derived.IntWalk
import Derived.Below
import Derived.Test.YtfleblkgifoeaaaGreatDoorP5
set_option linter.unusedSimpArgs false
set_option linter.unusedVariables false
set_option linter.unnecessarySimpa false
namespace Go.Abs
def resT(n:Nat):List ARes→Bool
 | []=>true
 | .t i::r=>Nat.blt i n&&resT n r
 | .cell _ _ i::r=>Nat.blt i n&&resT n r
def resOps(b:Nat):List ARes→List AOper
 | []=>[]
 | .t i::r=>⟨some b,.mv (.t i),none⟩::resOps (b+1) r
 | .cell g m i::r=>⟨some b,.load g m (.t i),none⟩::resOps (b+1) r
def resXs(b:Nat):Nat→List Opd
 | 0=>[]
 | k+1=>.t b::resXs (b+1) k
def finC(n:Nat)(res:List ARes):ACode:=.seq (.reg (resOps (n+4) res++[⟨some (n+3),.pf .tup (resXs (n+4) res.length),none⟩])) .ret
def capOps(n b i:Nat):Nat→List AOper
 | 0=>[]
 | k+1=>⟨some b,.pf (.capt i) [.t (n+1)],none⟩::capOps n (b+1) (i+1) k
def capsC(n G k:Nat):List AOper:=⟨some (n+2),.pf (.isF G k) [.t (n+1)],none⟩::capOps n (n+4) 0 k
def tailC(n:Nat)(res:List ARes)(raw:Bool)(df:Option (Nat×Nat×Bool)):ACode:=
 .seq (.reg [⟨some (n+2),.pf .isU [.t (n+1)],none⟩]) (.cond (.t (n+2))
  (.seq (.reg [⟨some (n+2),.pf .isU [.t n],none⟩]) (.cond (.t (n+2)) (finC n res) (bif raw then .seq (.reg [⟨some (n+3),.mv (.t n),none⟩]) .ret else stuckC)))
  (match df with
   | none=>stuckC
   | some (G,k,false)=>.seq (.reg [⟨some (n+2),.pf .isU [.t n],none⟩]) (.cond (.t (n+2)) (.seq (.reg (capsC n G k++[⟨none,.call (3*BIG+G) (resXs (n+4) k),none⟩])) (finC n res)) stuckC)
   | some (G,k,true)=>.seq (.reg (⟨some (n+3),.pf .unP [.t n],none⟩::(capsC n G k++[⟨none,.call (2*BIG+G) (resXs (n+4) k++[.t (n+3)]),none⟩]))) (finC n res)))
section
variable {tb:FuncId→Bool} {call:FuncId→List AVal→AHeap→Option (AVal×AHeap)} {n:Nat}
theorem tupV_eq(l:List AVal):tupV l=aresV l:=by
 match l with
 | []=>rfl
 | [x]=>rfl
 | x::y::r=>rfl
theorem resOps_run{U:Tr AVal}{H H1:AHeap}:∀(res:List ARes) (b:Nat) {T T1:Tr AVal},GE n T U→n≤b→resT n res=true→aregs tb call (resOps b res) T H=some (T1,H1) →
  H1=H∧∃xs,ares U H res=some xs∧evs T1 (resXs b res.length)=xs∧∀t,t<b→ev T1 (.t t)=ev T (.t t)
 | [],b,T,T1,_,_,_,h=>by
  simp only[resOps,aregs,sJ,pJ]at h
  obtain⟨rfl,rfl⟩:=h
  exact⟨rfl,[],rfl,rfl,fun _ _=>rfl⟩
 | .t i::r,b,T,T1,hG,hb,hr,h=>by
  simp only[resT,Bool.and_eq_true]at hr
  simp only[resOps]at h
  rw[aregs_step',astep_none]at h
  simp only[aop]at h
  obtain⟨q1,xs,q2,q3,q4⟩:=resOps_run r (b+1) (hG.ghost hb _) om hr.2 h
  refine⟨q1,ev U (.t i)::xs,by simp only[ares,q2],?_,fun t ht=>?_⟩
  ·simp only[List.length_cons,resXs,evs,q3]
   rw[q4 b om,ev_set,if_pos rfl,hG.1 i (blt_lt hr.1)]
  ·rw[q4 t om,ev_set,if_neg om]
 | .cell g m i::r,b,T,T1,hG,hb,hr,h=>by
  simp only[resT,Bool.and_eq_true]at hr
  simp only[resOps]at h
  rw[aregs_step',astep_none]at h
  simp only[aop,vv]at h
  cases hl:oLoad g m H (ev T (.t i)) with
  | none=>rw[hl]at h; simp at h
  | some v=>
   rw[hl]at h
   simp only at h
   obtain⟨q1,xs,q2,q3,q4⟩:=resOps_run r (b+1) (hG.ghost hb _) om hr.2 h
   rw[hG.1 i (blt_lt hr.1)]at hl
   refine⟨q1,v::xs,by simp only[ares,hl,q2],?_,fun t ht=>?_⟩
   ·simp only[List.length_cons,resXs,evs,q3]
    rw[q4 b om,ev_set,if_pos rfl]
   ·rw[q4 t om,ev_set,if_neg om]
theorem fin_run{U T T':Tr AVal}{H H':AHeap}{e:AEx}{k:Nat}{res:List ARes}(hG:GE n T U)(hr:resT n res=true)(h:aexec tb call k (finC n res) T H=some (e,T',H')) :
  e=.ret∧H'=H∧∃xs,ares U H res=some xs∧ev T' (.t (n+3))=aresV xs:=by
 simp only[finC,aexec]at h
 rw[aregs_app]at h
 cases hs:aregs tb call (resOps (n+4) res) T H with
 | none=>rw[hs]at h; simp at h
 | some p=>
  obtain⟨T1,H1⟩:=p
  rw[hs]at h
  obtain⟨rfl,xs,q2,q3,q4⟩:=resOps_run res (n+4) hG om hr hs
  simp only at h
  rw[aregs_step',astep_none]at h
  simp only[aop,aPf,vv,q3,aregs,aput,sJ,pJ]at h
  obtain⟨rfl,rfl,rfl⟩:=h
  exact⟨rfl,rfl,xs,q2,by rw[ev_set,if_pos rfl,tupV_eq]⟩
theorem capOps_run{f:Fn}{l:List AVal}{H H1:AHeap}:∀(k b i:Nat) {T T1:Tr AVal},ev T (.t (n+1))=.func f [] l→n+1<b→aregs tb call (capOps n b i k) T H=some (T1,H1) →
  H1=H∧evs T1 (resXs b k)=(l.drop i).take k∧∀t,t<b→ev T1 (.t t)=ev T (.t t)
 | 0,b,i,T,T1,_,_,h=>by
  simp only[capOps,aregs,sJ,pJ]at h
  obtain⟨rfl,rfl⟩:=h
  exact⟨rfl,by simp[resXs,evs],fun _ _=>rfl⟩
 | k+1,b,i,T,T1,hd,hb,h=>by
  simp only[capOps]at h
  rw[aregs_step',astep_none]at h
  simp only[aop,evs,aPf,vv,hd,aCapt]at h
  cases hx:l[i]? with
  | none=>rw[hx]at h; simp at h
  | some x=>
   rw[hx]at h
   simp only[aput]at h
   obtain⟨q1,q2,q3⟩:=capOps_run k (b+1) (i+1) (T:=T.set b x) (by rw[ev_set,if_neg om]; exact hd) om h
   refine⟨q1,?_,fun t ht=>by rw[q3 t om,ev_set,if_neg om]⟩
   simp only[resXs,evs,q2]
   rw[q3 b om,ev_set,if_pos rfl]
   obtain⟨hi,hxi⟩:=List.getElem?_eq_some_iff.1 hx
   rw[List.drop_eq_getElem_cons hi,List.take_succ_cons,hxi]
theorem caps_run{G k:Nat}{H H1:AHeap}{T T1:Tr AVal}(h:aregs tb call (capsC n G k) T H=some (T1,H1)) :
  ∃l,ev T (.t (n+1))=.func (.func G) [] l∧l.length=k∧H1=H∧evs T1 (resXs (n+4) k)=l∧∀t,t<n+4→t≠n+2→ev T1 (.t t)=ev T (.t t):=by
 unfold capsC at h
 rw[aregs_step',astep_none]at h
 simp only[aop,evs,aPf,vv]at h
 cases hd:aIsF G k [ev T (.t (n+1))] with
 | none=>rw[hd]at h; simp at h
 | some v=>
  rw[hd]at h
  simp only[aput]at h
  unfold aIsF at hd
  split at hd
  ·rename_i f l heq
   simp only[List.cons.injEq,and_true]at heq
   cases hb:Nat.beq f G&&Nat.beq l.length k with
   | false=>rw[hb]at hd; simp at hd
   | true=>
    simp only[Bool.and_eq_true]at hb
    have e1:=Nat.eq_of_beq_eq_true hb.1
    have e2:=Nat.eq_of_beq_eq_true hb.2
    subst e1
    obtain⟨q1,q2,q3⟩:=capOps_run k (n+4) 0 (f:=.func f) (l:=l) (by rw[ev_set,if_neg om]; exact heq) om h
    refine⟨l,heq,e2,q1,?_,fun t ht hne=>by rw[q3 t ht,ev_set,if_neg hne]⟩
    rw[q2,List.drop_zero,List.take_of_length_le om]
  ·simp at hd
end
section
def arity(P:Program)(G:Nat):Nat:=match P.funcs[G]? with
 | some f=>f.params.size+f.nfree
 | none=>0
def CallD(P:Program)(call:FuncId→List AVal→AHeap→Option (AVal×AHeap)):Prop:=
 ∀G args H v H',Nat.blt G BIG=true→call (3*BIG+G) args H=some (v,H')→∀Prot w0 ρ w (vs:Array Value),Rel Prot w0 ρ H w→VRels ρ args vs.toList →
  CallsD P G vs .returning w fun e u' w'=>u'=.returning∧∃ρ' y,ρ.le ρ'∧e=.returned y∧Rel Prot w0 ρ' H' w'
def RecU(u:FrameMode)(xv:Value):Prop:=(u=.returning∧xv=.nilIface)∨u=.panicking [{ v:=xv,recovered:=false }]
def CallR(P:Program)(call:FuncId→List AVal→AHeap→Option (AVal×AHeap)):Prop:=
 ∀G args x H v H',Nat.blt G BIG=true→args.length=arity P G→call (2*BIG+G) (args++[x]) H=some (v,H')→∀Prot w0 ρ w (vs:Array Value) xv u,Rel Prot w0 ρ H w→VRels ρ args vs.toList→VRel ρ x xv→RecU u xv →
  CallsD P G vs u w fun e u' w'=>settle u'=.returning∧∃ρ' y,ρ.le ρ'∧e=.returned y∧Rel Prot w0 ρ' H' w'
variable {P:Program} {Prot:Gh} {w0:World} {ρ:Pl} {H H':AHeap} {w:World} {n:Nat}
def Out(Prot:Gh)(w0:World)(raw:Bool)(ρ:Pl)(H:AHeap)(v:AVal):Ending→World→Prop:=fun e w'=>
 ∃ρ',ρ.le ρ'∧Rel Prot w0 ρ' H w'∧((∃y,e=.returned y∧VRel ρ' v y)∨(raw=true∧∃x y,v=panV x∧e=.panicked [{ v:=y,recovered:=false }]∧VRel ρ' x y))
def dfOk(P:Program):Option (Nat×Nat×Bool)→Bool
 | none=>true
 | some (G,k,true)=>Nat.blt G BIG&&Nat.beq k (arity P G)
 | some (G,_,false)=>Nat.blt G BIG
theorem isU_spec{x:AVal}(h:isU x=true):x=undefA:=by
 unfold isU at h
 split at h
 ·rfl
 ·simp at h
theorem tail_sim{tb:FuncId→Bool}{call:FuncId→List AVal→AHeap→Option (AVal×AHeap)}{k:Nat}(hcD:CallD P call)(hcR:CallR P call)(hbD:∀f,Nat.blt f BIG=true→tb (3*BIG+f)=true→hasBody P f=true)(hbR:∀f,Nat.blt f BIG=true→tb (2*BIG+f)=true→hasBody P f=true)
  {fc:Func} {res:List ARes} (hres:cRes P fc.results.toList=some res) (hrT:resT n res=true) {raw:Bool} {df:Option (Nat×Nat×Bool)} (hdf:dfOk P df=true) {T T':Tr AVal} {e:AEx}
  (h:aexec tb call k (tailC n res raw df) T H=some (e,T',H')) (R:Rel Prot w0 ρ H w) {a:Act} {u:FrameMode} (hst:(PSt ρ n T a∧u=.returning)∨∃uv,PPan ρ n T a uv∧u=.panicking [{ v:=uv,recovered:=false }]) :
  e=.ret∧Leaves P fc a.tmps (Out Prot w0 raw ρ H' (ev T' (.t (n+3)))) a.defers u w:=by
 simp only[tailC,aexec]at h
 rw[aregs_step',astep_none]at h
 simp only[aop,evs,aPf,vv,aIsU,aregs,aput]at h
 rw[ev_set,if_pos rfl]at h
 have e1:∀b,ev (T.set (n+2) b) (.t n)=ev T (.t n):=fun b=>by rw[ev_set,if_neg om]
 have e11:∀b c,ev ((T.set (n+2) b).set (n+2) c) (.t (n+2))=c:=fun b c=>by rw[ev_set,if_pos rfl]
 have e12:∀b c,ev ((T.set (n+2) b).set (n+2) c) (.t n)=ev T (.t n):=fun b c=>by rw[ev_set,if_neg om,e1]
 have isP:∀x,isU (panV x)=false:=fun x=>rfl
 cases hu:isU (ev T (.t (n+1))) with
 | true=>
  rw[hu]at h
  have hund:=isU_spec hu
  simp only[gOK,cond_true,e1,e11]at h
  cases hu2:isU (ev T (.t n)) with
  | true=>
   rw[hu2]at h
   rcases hst with⟨hP,rfl⟩ | ⟨uv,⟨x,q1,_⟩,_⟩
   ·obtain⟨U,hG,ht⟩:=hP.1.t
    obtain⟨rfl,rfl,xs,z1,z2⟩:=fin_run ((hG.ghost (d:=n+2) om _).ghost (d:=n+2) om _) hrT h
    have hds:a.defers=[]:=by
     have:=hP.1.d
     rw[hund]at this
     rcases this with⟨_,h9⟩ | ⟨f,fa,fb,d,cap,h9,_⟩
     ·exact h9
     ·simp[undefA]at h9
    obtain⟨v,r1,r2⟩:=results_sim (P:=P) R ht hres z1
    refine⟨rfl,?_⟩
    rw[hds]
    exact⟨v,r1,ρ,Pl.le_refl _,R,.inl ⟨v,rfl,by rw[z2]; exact r2⟩⟩
   ·rw[q1,isP]at hu2; simp at hu2
  | false=>
   rw[hu2]at h
   rcases hst with⟨hP,rfl⟩ | ⟨uv,⟨x,q1,q2,q3⟩,rfl⟩
   ·rw[hP.2]at hu2; simp[isU,undefA]at hu2
   ·cases raw with
    | false=>simp[stuckC,aexec,aregs,gOK,aop]at h
    | true=>
     simp only[cond_true,aexec,aregs,gOK,aop,aput,e12,sJ,pJ]at h
     obtain⟨rfl,rfl,rfl⟩:=h
     have hds:a.defers=[]:=by
      rcases q3 with⟨h9,_⟩ | hg
      ·exact h9
      ·have:=hg.d
       rw[hund]at this
       rcases this with⟨_,h9⟩ | ⟨f,fa,fb,d,cap,h9,_⟩
       ·exact h9
       ·simp[undefA]at h9
     refine⟨rfl,?_⟩
     rw[hds]
     exact⟨ρ,Pl.le_refl _,R,.inr ⟨rfl,x,uv,by rw[ev_set,if_pos rfl]; exact q1,rfl,q2⟩⟩
 | false=>
  rw[hu]at h
  have hnu:ev T (.t (n+1))≠undefA:=fun e=>by rw[e]at hu; simp[isU,undefA]at hu
  have hGT:GT ρ n T a:=by
   rcases hst with⟨hP,_⟩ | ⟨uv,⟨x,q1,q2,⟨_,q3⟩ | q3⟩,_⟩
   ·exact hP.1
   ·exact (hnu q3).elim
   ·exact q3
  obtain⟨U,hG,ht⟩:=hGT.t
  obtain⟨f,fa,fb,d,cap,d1,d2,d3,d4,d5⟩:∃f a' b d cap,ev T (.t (n+1))=.func (.func f) a' b∧a.defers=[d]∧d.target=.fn (.func f) cap∧VRels ρ b cap.toList∧VRels ρ a' d.args.toList:=by
   rcases hGT.d with⟨h9,_⟩ | h9
   ·exact (hnu h9).elim
   ·exact h9
  have rest:∀{T5:Tr AVal} {H5:AHeap} {e5:AEx},GE n T5 U→aexec tb call k (finC n res) T5 H5=some (e5,T',H')→e5=.ret∧∀(ρ':Pl) (w':World),ρ.le ρ'→Rel Prot w0 ρ' H5 w'→Leaves P fc a.tmps (Out Prot w0 raw ρ H' (ev T' (.t (n+3)))) [] .returning w':=by
   intro T5 H5 e5 hG5 h5
   obtain⟨rfl,rfl,xs,z1,z2⟩:=fin_run hG5 hrT h5
   refine⟨rfl,fun ρ' w' hle R'=>?_⟩
   obtain⟨v,r1,r2⟩:=results_sim (P:=P) R' (ht.mono hle) hres z1
   exact⟨v,r1,ρ',hle,R',.inl ⟨v,rfl,by rw[z2]; exact r2⟩⟩
  rcases df with _ | ⟨G,kk,_ | _⟩
  ·simp[stuckC,aexec,aregs,gOK,aop]at h
  ·skip
   simp only[dfOk]at hdf
   simp only[aexec]at h
   rw[aregs_step',astep_none]at h
   simp only[aop,evs,aPf,vv,aIsU,aregs,aput,e1,e11]at h
   cases hu2:isU (ev T (.t n)) with
   | false=>rw[hu2]at h; simp[stuckC,aexec,aregs,gOK,aop]at h
   | true=>
    rw[hu2]at h
    simp only at h
    rw[aregs_app]at h
    cases hs:aregs tb call (capsC n G kk) ((T.set (n+2) (.bool false)).set (n+2) (.bool true)) H with
    | none=>rw[hs]at h; simp at h
    | some p=>
     obtain⟨T4,H4⟩:=p
     rw[hs]at h
     obtain⟨l,c1,c2,rfl,c4,c5⟩:=caps_run hs
     have c1':ev T (.t (n+1))=.func (.func G) [] l:=by rw[← c1,ev_set,if_neg om,ev_set,if_neg om]
     rw[c1']at d1
     simp only[AVal.func.injEq,Fn.func.injEq]at d1
     obtain⟨rfl,rfl,rfl⟩:=d1
     simp only at h
     rw[aregs_step',astep_none]at h
     simp only[aop,c4]at h
     cases hb:tb (3*BIG+G) with
     | false=>rw[hb]at h; simp at h
     | true=>
      rw[hb]at h
      simp only[cond_true]at h
      cases hcl:call (3*BIG+G) l H4 with
      | none=>rw[hcl]at h; simp at h
      | some q=>
       obtain⟨v,H5⟩:=q
       rw[hcl]at h
       simp only[aput,aregs]at h
       have hG4:GE n T4 U:=⟨fun t ht'=>by rw[c5 t om om,ev_set,if_neg om,ev_set,if_neg om]; exact hG.1 t ht',hG.2⟩
       obtain⟨rfl,hrest⟩:=rest hG4 h
       refine⟨rfl,?_⟩
       have hur:u=.returning:=by
        rcases hst with⟨_,h9⟩ | ⟨uv,⟨x,q1,_⟩,_⟩
        ·exact h9
        ·rw[q1,isP]at hu2; simp at hu2
       subst hur
       simp only[VRels]at d5
       rw[d2]
       refine⟨by simp,.func G,cap,G,d.args++cap,d3,?_,?_⟩
       ·rw[d3]; exact callFunc_ok (hbD G hdf hb) _
       ·refine (hcD G l H4 v H5 hdf hcl Prot w0 ρ w (d.args++cap) R (by simpa[d5] using d4)).mono ?_
        rintro e' u' w' ⟨rfl,ρ',y,q1,rfl,q2⟩
        exact hrest ρ' w' q1 q2
  ·skip
   simp only[dfOk,Bool.and_eq_true]at hdf
   obtain⟨hG1,hk1⟩:=hdf
   have hk:=Nat.eq_of_beq_eq_true hk1
   simp only[aexec]at h
   rw[aregs_step',astep_none]at h
   simp only[aop,evs,aPf,vv,e1]at h
   cases hun:aUnP [ev T (.t n)] with
   | none=>rw[hun]at h; simp at h
   | some x=>
    rw[hun]at h
    simp only[aput]at h
    rw[aregs_app]at h
    cases hs:aregs tb call (capsC n G kk) ((T.set (n+2) (.bool false)).set (n+3) x) H with
    | none=>rw[hs]at h; simp at h
    | some p=>
     obtain⟨T4,H4⟩:=p
     rw[hs]at h
     obtain⟨l,c1,c2,rfl,c4,c5⟩:=caps_run hs
     have c1':ev T (.t (n+1))=.func (.func G) [] l:=by rw[← c1,ev_set,if_neg om,ev_set,if_neg om]
     have c3:ev T4 (.t (n+3))=x:=by rw[c5 (n+3) om om,ev_set,if_pos rfl]
     rw[c1']at d1
     simp only[AVal.func.injEq,Fn.func.injEq]at d1
     obtain⟨rfl,rfl,rfl⟩:=d1
     have evapp:∀(m:List Opd),evs T4 (m++[.t (n+3)])=evs T4 m++[x]:=by
      intro m
      induction m with
      | nil=>simp only[List.nil_append,evs,c3]
      | cons y m ih=>simp only[List.cons_append,evs,ih]
     simp only at h
     rw[aregs_step',astep_none]at h
     simp only[aop,evapp,c4]at h
     cases hb:tb (2*BIG+G) with
     | false=>rw[hb]at h; simp at h
     | true=>
      rw[hb]at h
      simp only[cond_true]at h
      cases hcl:call (2*BIG+G) (l++[x]) H4 with
      | none=>rw[hcl]at h; simp at h
      | some q=>
       obtain⟨v,H5⟩:=q
       rw[hcl]at h
       simp only[aput,aregs]at h
       have hG4:GE n T4 U:=⟨fun t ht'=>by rw[c5 t om om,ev_set,if_neg om,ev_set,if_neg om]; exact hG.1 t ht',hG.2⟩
       obtain⟨rfl,hrest⟩:=rest hG4 h
       refine⟨rfl,?_⟩
       have hx:∃xv,VRel ρ x xv∧RecU u xv∧u≠.run:=by
        rcases hst with⟨hP,rfl⟩ | ⟨uv,⟨x',q1,q2,_⟩,rfl⟩
        ·rw[hP.2]at hun
         simp only[undefA,aUnP,sJ]at hun
         subst hun
         exact⟨.nilIface,rfl,.inl ⟨rfl,rfl⟩,by simp⟩
        ·rw[q1]at hun
         simp only[panV,aUnP,sJ]at hun
         subst hun
         exact⟨uv,q2,.inr rfl,by simp⟩
       obtain⟨xv,x1,x2,x3⟩:=hx
       simp only[VRels]at d5
       rw[d2]
       refine⟨x3,.func G,cap,G,d.args++cap,d3,?_,?_⟩
       ·rw[d3]; exact callFunc_ok (hbR G hG1 hb) _
       ·refine (hcR G l x H4 v H5 hG1 om hcl Prot w0 ρ w (d.args++cap) xv u R (by simpa[d5] using d4) x1 x2).mono ?_
        rintro e' u' w' ⟨hu',ρ',y,q1,rfl,q2⟩
        show Leaves P fc a.tmps _ [] (settle u') w'
        rw[hu']
        exact hrest ρ' w' q1 q2
end
end Go.Abs
namespace Go.Abs
section
variable (P:Program)
def cFnP(md:PMd)(raw:Bool)(f:FuncId):Option AFn:=match P.funcs[f]? with
 | some fn=>match fn.body with
  | some c => bif fn.name == "runtime.NumGoroutine" then none else
   match cCodeP P fn.ntmps md.ps c,cRes P fn.results.toList with
   | some b,some r=>bif resT fn.ntmps r&&dfOk P md.df then some ⟨fn.ntmps,.seq (.block PB b) (tailC fn.ntmps r raw md.df),[.t (fn.ntmps+3)]⟩ else none
   | _,_=>none
  | none=>none
 | none=>none
def recSplit:Code→Option (Array Oper×Nat×List Oper×Code)
 | .seq (.region _ ops false) rest=>match ops.toList with
  | o::os=>match o.op,o.dst,o.guard with
   | .call c,some d,none=>match c.callee with
    | .builtin .recover=>some (ops,d,os,rest)
    | _=>none
   | _,_,_=>none
  | []=>none
 | _=>none
def recPro(n k d:Nat):List AOper:=[⟨some n,.mv (.t k),none⟩,⟨some k,.mv (.c undefA),none⟩,⟨some d,.mv (.t n),none⟩,⟨some n,.mv (.c undefA),none⟩]
def cFnR(g:FuncId):Option AFn:=match P.funcs[g]? with
 | some fn=>match fn.body with
  | some c => bif fn.name == "runtime.NumGoroutine" || !(Nat.beq fn.results.size 0) then none else
   match recSplit c with
   | some (ops,d,os,rest)=>match cOpers P fn.ntmps ops os,cCode P fn.ntmps rest with
    | some l,some r=>bif Nat.blt d fn.ntmps&&Nat.ble (arity P g) d then some ⟨fn.ntmps,.seq (.reg (recPro fn.ntmps (arity P g) d)) (.seq (.reg l) r),[]⟩ else none
    | _,_=>none
   | none=>none
  | none=>none
 | none=>none
def eFn(md:Option PMd)(i:Nat):Option AFn:=
 bif Nat.blt i BIG then (match md with | none=>cFn P i | some md=>cFnP P md false i)
 else bif Nat.blt i (2*BIG) then (match md with | some md=>cFnP P md true (i-BIG) | none=>none)
 else bif Nat.blt i (3*BIG) then cFnR P (i-2*BIG)
 else bif Nat.blt i (4*BIG) then cFn P (i-3*BIG) else none
def TabOK(tab:Tr AFn):Prop:=∀f fn,tab.get f=some fn→∃md,eFn P md f=some fn
end
section
variable {P:Program} {Prot:Gh} {w0:World} {ρ:Pl} {H H':AHeap} {w:World}
theorem blt_dec(a b:Nat):Nat.blt a b=decide (a<b):=by
 cases h:Nat.blt a b with
 | true=>exact (decide_eq_true (blt_lt h)).symm
 | false=>exact (decide_eq_false fun q=>by rw[show Nat.blt a b=true from Nat.ble_eq_true_of_le q]at h; simp at h).symm
theorem eFn_0{md:Option PMd}{f:Nat}(hf:Nat.blt f BIG=true){fn:AFn}(h:eFn P md f=some fn):cFn P f=some fn∨∃m,cFnP P m false f=some fn:=by
 unfold eFn at h
 rw[hf]at h
 simp only[cond_true]at h
 cases md with
 | none=>exact .inl h
 | some m=>exact .inr ⟨m,h⟩
theorem eFn_1{md:Option PMd}{f:Nat}(hf:Nat.blt f BIG=true){fn:AFn}(h:eFn P md (BIG+f)=some fn):∃m,cFnP P m true f=some fn:=by
 have hlt:=blt_lt hf
 unfold eFn at h
 have h1:Nat.blt (BIG+f) BIG=false:=by rw[blt_dec]; exact decide_eq_false om
 have h2:Nat.blt (BIG+f) (2*BIG)=true:=by rw[blt_dec]; exact decide_eq_true om
 rw[h1,h2]at h
 simp only[cond_true,cond_false,Nat.add_sub_cancel_left]at h
 cases md with
 | none=>simp at h
 | some m=>exact⟨m,h⟩
theorem eFn_2{md:Option PMd}{f:Nat}(hf:Nat.blt f BIG=true){fn:AFn}(h:eFn P md (2*BIG+f)=some fn):cFnR P f=some fn:=by
 have hlt:=blt_lt hf
 unfold eFn at h
 have h1:Nat.blt (2*BIG+f) BIG=false:=by rw[blt_dec]; exact decide_eq_false om
 have h2:Nat.blt (2*BIG+f) (2*BIG)=false:=by rw[blt_dec]; exact decide_eq_false om
 have h3:Nat.blt (2*BIG+f) (3*BIG)=true:=by rw[blt_dec]; exact decide_eq_true om
 rw[h1,h2,h3]at h
 simpa only [cond_true,cond_false,Nat.add_sub_cancel_left] using h
theorem eFn_3{md:Option PMd}{f:Nat}(hf:Nat.blt f BIG=true){fn:AFn}(h:eFn P md (3*BIG+f)=some fn):cFn P f=some fn:=by
 have hlt:=blt_lt hf
 unfold eFn at h
 have h1:Nat.blt (3*BIG+f) BIG=false:=by rw[blt_dec]; exact decide_eq_false om
 have h2:Nat.blt (3*BIG+f) (2*BIG)=false:=by rw[blt_dec]; exact decide_eq_false om
 have h3:Nat.blt (3*BIG+f) (3*BIG)=false:=by rw[blt_dec]; exact decide_eq_false om
 have h4:Nat.blt (3*BIG+f) (4*BIG)=true:=by rw[blt_dec]; exact decide_eq_true om
 rw[h1,h2,h3,h4]at h
 simpa only [cond_true,cond_false,Nat.add_sub_cancel_left] using h
theorem cFnP_spec {md : PMd} {raw : Bool} {f : FuncId} {fn : AFn} (h : cFnP P md raw f = some fn) : ∃ fc c b r, P.funcs[f]? = some fc ∧ fc.body = some c ∧ (fc.name == "runtime.NumGoroutine") = false ∧ cCodeP P fc.ntmps md.ps c = some b ∧ cRes P fc.results.toList = some r ∧
  resT fc.ntmps r=true∧dfOk P md.df=true∧fn=⟨fc.ntmps,.seq (.block PB b) (tailC fc.ntmps r raw md.df),[.t (fc.ntmps+3)]⟩:=by
 unfold cFnP at h
 split at h
 ·rename_i fc hf
  split at h
  ·rename_i c hb
   cases hn : (fc.name == "runtime.NumGoroutine") with
   | true=>rw[hn]at h; simp at h
   | false=>
    rw[hn]at h
    simp only[cond_false]at h
    split at h
    ·rename_i b r h1 h2
     cases h3:resT fc.ntmps r&&dfOk P md.df with
     | false=>rw[h3]at h; simp at h
     | true=>
      rw[h3]at h
      simp only[cond_true,sJ]at h
      simp only[Bool.and_eq_true]at h3
      exact⟨fc,c,b,r,hf,hb,hn,h1,h2,h3.1,h3.2,h.symm⟩
    ·simp at h
  ·simp at h
 ·simp at h
theorem recSplit_spec{c:Code}{ops:Array Oper}{d:Nat}{os:List Oper}{rest:Code}(h:recSplit c=some (ops,d,os,rest)):∃i o args ats,c=.seq (.region i ops false) rest∧ops.toList=o::os∧o.op=.call ⟨.builtin .recover,args,ats⟩∧o.dst=some d∧o.guard=none:=by
 unfold recSplit at h
 split at h
 ·rename_i i ops' rest'
  split at h
  ·rename_i o os' ho
   split at h
   ·rename_i c' d' h1 h2 h3
    split at h
    ·rename_i hcal
     simp only[sJ,pJ]at h
     obtain⟨rfl,rfl,rfl,rfl⟩:=h
     obtain⟨cal,args,ats⟩:=c'
     simp only at hcal
     subst hcal
     exact⟨i,o,args,ats,rfl,ho,h1,h2,h3⟩
    ·simp at h
   ·simp at h
  ·simp at h
 ·simp at h
theorem cFnR_spec {g : FuncId} {fn : AFn} (h : cFnR P g = some fn) : ∃ fc c ops d os rest l r, P.funcs[g]? = some fc ∧ fc.body = some c ∧ (fc.name == "runtime.NumGoroutine") = false ∧ fc.results = #[] ∧ recSplit c = some (ops, d, os, rest) ∧ cOpers P fc.ntmps ops os = some l ∧ cCode P fc.ntmps rest = some r ∧
  d<fc.ntmps∧arity P g≤d∧fn=⟨fc.ntmps,.seq (.reg (recPro fc.ntmps (arity P g) d)) (.seq (.reg l) r),[]⟩:=by
 unfold cFnR at h
 split at h
 ·rename_i fc hf
  split at h
  ·rename_i c hb
   cases hn : (fc.name == "runtime.NumGoroutine" || !(Nat.beq fc.results.size 0)) with
   | true=>rw[hn]at h; simp at h
   | false=>
    rw[hn]at h
    simp only[Bool.or_eq_false_iff,Bool.not_eq_false']at hn
    simp only[cond_false]at h
    split at h
    ·rename_i ops d os rest hsp
     split at h
     ·rename_i l r h1 h2
      cases h3:Nat.blt d fc.ntmps&&Nat.ble (arity P g) d with
      | false=>rw[h3]at h; simp at h
      | true=>
       rw[h3]at h
       simp only[cond_true,sJ]at h
       simp only[Bool.and_eq_true]at h3
       exact⟨fc,c,ops,d,os,rest,l,r,hf,hb,hn.1,Array.eq_empty_of_size_eq_zero (Nat.eq_of_beq_eq_true hn.2),hsp,h1,h2,blt_lt h3.1,Nat.le_of_ble_eq_true h3.2,h.symm⟩
     ·simp at h
    ·simp at h
  ·simp at h
 ·simp at h
theorem body_of {f : Nat} (hf : Nat.blt f BIG = true) {fc : Func} {c : Code} (h1 : P.funcs[f]? = some fc) (h2 : fc.body = some c) (h3 : (fc.name == "runtime.NumGoroutine") = false) : hasBody P f = true := by
 simp[hasBody,hf,h1,h2,h3]
structure AllOK(P:Program)(call:FuncId→List AVal→AHeap→Option (AVal×AHeap)):Prop where
 ok:CallOK P call
 pan:CallP P call
 dfd:CallD P call
 rcv:CallR P call
structure TbOK(P:Program)(tb:FuncId→Bool):Prop where
 h0:∀f,Nat.blt f BIG=true→tb f=true→hasBody P f=true
 h1:∀f,Nat.blt f BIG=true→tb (BIG+f)=true→hasBody P f=true
 h2:∀f,Nat.blt f BIG=true→tb (2*BIG+f)=true→hasBody P f=true
 h3:∀f,Nat.blt f BIG=true→tb (3*BIG+f)=true→hasBody P f=true
theorem fnP_ok(hfol:P.follows .mixedOrders=true){tb:FuncId→Bool}(hb:TbOK P tb){call:FuncId→List AVal→AHeap→Option (AVal×AHeap)}(hc:AllOK P call){k:Nat}{md:PMd}{raw:Bool}{f:FuncId}{fn:AFn}(hfn:cFnP P md raw f=some fn)
  {args:List AVal} (hlen:args.length≤fn.nt) {e:AEx} {T:Tr AVal} {H1:AHeap} (hx:aexec tb call k fn.body (putArgs args 0 .e) H=some (e,T,H1)) (hne:∀i,e≠.exit i) {xs:List AVal} (hxs:ares T H1 fn.res=some xs) {vs:Array Value} (R:Rel Prot w0 ρ H w) (hv:VRels ρ args vs.toList) :
  Calls P f vs w (Out Prot w0 raw ρ H1 (aresV xs)):=by
 obtain⟨fc,c,b,r,h1,h2,h3,h4,h5,h6,h7,rfl⟩:=cFnP_spec hfn
 simp only at hlen
 have hst:=start_sim (ρ:=ρ) hv hlen
 have hgh:∀t,fc.ntmps≤t→ev (putArgs args 0 .e) (.t t)=undefA:=fun t ht=>by
  have:=hst.at_ t
  have hsz:=hst.size
  rw[Array.getD_eq_getD_getElem?,Array.getElem?_eq_none om]at this
  exact undef_of this
 have hP:PSt ρ fc.ntmps (putArgs args 0 .e) { tmps:=vs++Array.replicate (fc.ntmps-vs.size) undef,defers:=[] }:=
  ⟨⟨⟨_,⟨fun _ _=>rfl,hgh⟩,hst⟩,.inl ⟨hgh _ om,rfl⟩⟩,hgh _ rL⟩
 simp only[aexec]at hx
 refine calls_of_wp_defers h1 h2 ?_
 cases hb1:aexec tb call k b (putArgs args 0 .e) H with
 | none=>rw[hb1]at hx; simp at hx
 | some q=>
  obtain⟨e1,T1,H2⟩:=q
  rw[hb1]at hx
  have hsim:=codeP_sim hfol hb.h0 hb.h1 hc.ok hc.pan c b h4 ρ _ _ _ _ e1 _ w R hP hb1
  have hval:∀v,ev T (.t (fc.ntmps+3))=v→aresV xs=v:=fun v h9=>by
   simp only[ares,sJ]at hxs
   subst hxs
   exact h9
  have hout:∀{ρ':Pl} {a':Act} {w':World} {u:FrameMode},ρ.le ρ'→Rel Prot w0 ρ' H2 w'→((PSt ρ' fc.ntmps T1 a'∧u=.returning)∨∃uv,PPan ρ' fc.ntmps T1 a' uv∧u=.panicking [{ v:=uv,recovered:=false }]) →
    aexec tb call k (tailC fc.ntmps r raw md.df) T1 H2=some (e,T,H1)→Leaves P fc a'.tmps (Out Prot w0 raw ρ H1 (aresV xs)) a'.defers u w':=by
   intro ρ' a' w' u hle R' hs' ht'
   obtain⟨_,hL⟩:=tail_sim (fc:=fc) hc.dfd hc.rcv hb.h3 hb.h2 h5 h6 h7 ht' R' hs'
   rw[hval _ rfl]
   have:∀(ds:List Deferred) (u:FrameMode) (w:World),Leaves P fc a'.tmps (Out Prot w0 raw ρ' H1 (ev T (.t (fc.ntmps+3)))) ds u w→Leaves P fc a'.tmps (Out Prot w0 raw ρ H1 (ev T (.t (fc.ntmps+3)))) ds u w:=by
    have hO:∀e w',Out Prot w0 raw ρ' H1 (ev T (.t (fc.ntmps+3))) e w'→Out Prot w0 raw ρ H1 (ev T (.t (fc.ntmps+3))) e w':=fun e w' ⟨ρ2,q1,q2⟩=>⟨ρ2,Pl.le_trans hle q1,q2⟩
    intro ds
    induction ds with
    | nil=>
     intro u w hL
     cases u with
     | run=>exact hL
     | returning=>obtain⟨v,q1,q2⟩:=hL; exact⟨v,q1,hO _ _ q2⟩
     | panicking ch=>exact hO _ _ hL
    | cons d ds ih=>
     intro u w hL
     obtain⟨q1,fv,cap,g,ar,q2,q3,q4⟩:=hL
     refine⟨q1,fv,cap,g,ar,q2,q3,q4.mono fun e' u' w' hh=>?_⟩
     cases e' with
     | returned v=>exact ih _ _ hh
     | panicked ch=>exact ih _ _ hh
     | outgrown=>exact hO _ _ hh
   exact this _ _ _ hL
  refine wp_mono hsim ?_
  rintro e' a' w' ⟨ρ',q1,q2,q3⟩
  cases e1 with
  | normal=>
   obtain⟨rfl,z⟩:=q3
   exact hout q1 q2 (.inl ⟨z,rfl⟩) hx
  | ret=>exact q3.elim
  | exit id=>
   simp only at hx
   cases hid:Nat.beq id PB with
   | false=>
    rw[hid]at hx
    simp only[cond_false,sJ,pJ]at hx
    exact (hne id hx.1.symm).elim
   | true=>
    rw[hid]at hx
    simp only[cond_true]at hx
    have:=Nat.eq_of_beq_eq_true hid
    rcases q3 with⟨z1,_⟩ | ⟨_,⟨rfl,z2⟩ | ⟨u,rfl,z2⟩⟩
    ·exact (z1 this).elim
    ·exact hout q1 q2 (.inl ⟨z2,rfl⟩) hx
    ·exact hout q1 q2 (.inr ⟨u,z2,rfl⟩) hx
theorem fn_ok(hfol:P.follows .mixedOrders=true){tb:FuncId→Bool}(hb:TbOK P tb){call:FuncId→List AVal→AHeap→Option (AVal×AHeap)}(hc:AllOK P call){k:Nat}{f:FuncId}{fn:AFn}(hfn:cFn P f=some fn)
  {args:List AVal} (hlen:args.length≤fn.nt) {e:AEx} {T:Tr AVal} {H1:AHeap} (hx:aexec tb call k fn.body (putArgs args 0 .e) H=some (e,T,H1)) (hne:∀i,e≠.exit i) {xs:List AVal} (hxs:ares T H1 fn.res=some xs) {vs:Array Value} (R:Rel Prot w0 ρ H w) (hv:VRels ρ args vs.toList) :
  ∃fc c,P.funcs[f]?=some fc∧fc.body=some c∧c.wp P (bodyPost P fc fun e w'=>∃ρ' u,ρ.le ρ'∧e=.returned u∧Rel Prot w0 ρ' H1 w'∧VRel ρ' (aresV xs) u) { tmps:=vs++Array.replicate (fc.ntmps-vs.size) undef,defers:=[] } w:=by
 obtain⟨fc,c,h1,h2,h3,h4,h5,h6⟩:=cFn_spec hfn
 refine⟨fc,c,h1,h2,?_⟩
 have hst:=start_sim (ρ:=ρ) hv hlen
 rw[h4]
 refine wp_mono (code_sim hfol (Prot:=Prot) (w0:=w0) (ds:=[]) hb.h0 hc.ok _ _ h5 ρ _ T H H1 e _ w R hst rfl hx) ?_
 rintro e' a' w' ⟨he,ρ',hl,R',ht',hd'⟩
 obtain⟨u,r1,r2⟩:=results_sim (P:=P) R' ht' h6 hxs
 cases e with
 | normal=>simp only at he; subst he; exact⟨hd',u,r1,ρ',u,hl,rfl,R',r2⟩
 | exit id=>exact (hne _ rfl).elim
 | ret=>simp only at he; subst he; exact⟨hd',u,r1,ρ',u,hl,rfl,R',r2⟩
theorem wpOpsS_of{ops:Array Oper}{cs:List Frame}{Q:Exit→Act→List Frame→World→Prop}(hno:¬LetsOut fun e a w=>Q e a cs w):∀(l:List Nat) (a:Act) (w:World),wpOps P ops (fun e a w=>Q e a cs w) l a w→wpOpsS P ops Q l a cs w
 | [],a,w,h=>h
 | i::rest,a,w,h=>by
  simp only[wpOps]at h
  simp only[wpOpsS]
  cases ho:ops[i]? with
  | none=>rw[ho]at h; exact wpOpsS_of hno rest a w h
  | some o=>
   rw[ho]at h
   simp only at h ⊢
   split at h
   ·rename_i hw
    rw[if_pos hw]
    rcases h with h | ⟨_,h⟩
    ·have h':=Oper.wp_mono (K':=fun a' w'=>wpOpsS P ops Q rest a' cs w') (fun a' w' hh=>wpOpsS_of hno rest a' w' hh) h
     unfold Oper.wp at h'
     generalize (execOp a.eval o).run P w=r at h'
     split
     ·simp only[Oper.upon]at h'
     ·exact h'
    ·exact (hno h).elim
   ·rename_i hw
    rw[if_neg hw]
    exact wpOpsS_of hno rest _ w h
end
end Go.Abs
namespace Go.Abs
section
variable {P:Program} {Prot:Gh} {w0:World} {ρ:Pl} {H H':AHeap} {w:World}
theorem recPro_run{tb:FuncId→Bool}{call:FuncId→List AVal→AHeap→Option (AVal×AHeap)}{n k d:Nat}(hd:d<n)(hk:k≤d)(T:Tr AVal)(H:AHeap):∃T1,aregs tb call (recPro n k d) T H=some (T1,H) ∧
  ∀t,ev T1 (.t t)=if t=n then undefA else if t=d then ev T (.t k) else if t=k then undefA else ev T (.t t):=by
 refine⟨_,by simp only[recPro,aregs,gOK,cond_true,aop,aput]; rfl,fun t=>?_⟩
 by_cases h1:t=n
 ·rw[ev_set,if_pos h1,if_pos h1]; rfl
 ·rw[ev_set,if_neg h1,if_neg h1]
  by_cases h2:t=d
  ·rw[ev_set,if_pos h2,if_pos h2,ev_set,if_neg om,ev_set,if_pos rfl]
  ·rw[ev_set,if_neg h2,if_neg h2]
   by_cases h3:t=k
   ·rw[ev_set,if_pos h3,if_pos h3]; rfl
   ·rw[ev_set,if_neg h3,if_neg h3,ev_set,if_neg h1]
theorem fnR_ok(hfol:P.follows .mixedOrders=true){tb:FuncId→Bool}(hb:TbOK P tb){call:FuncId→List AVal→AHeap→Option (AVal×AHeap)}(hc:AllOK P call){k:Nat}{G:FuncId}{fn:AFn}(hfn:cFnR P G=some fn)
  {args:List AVal} {x:AVal} (hlen:args.length=arity P G) {e:AEx} {T:Tr AVal} {H1:AHeap} (hx:aexec tb call k fn.body (putArgs (args++[x]) 0 .e) H=some (e,T,H1)) (hne:∀i,e≠.exit i) {vs:Array Value} {xv:Value} {u:FrameMode} (R:Rel Prot w0 ρ H w) (hv:VRels ρ args vs.toList) (hxv:VRel ρ x xv) (hu:RecU u xv) :
  CallsD P G vs u w fun e u' w'=>settle u'=.returning∧∃ρ' y,ρ.le ρ'∧e=.returned y∧Rel Prot w0 ρ' H1 w':=by
 obtain⟨fc,c,ops,d,os,rest,l,r,h1,h2,h3,h4,h5,h6,h7,hd,hkd,rfl⟩:=cFnR_spec hfn
 obtain⟨i0,o,oa,ots,rfl,hops,hop,hod,hog⟩:=recSplit_spec h5
 have hvl:args.length=vs.size:=by have:=VRels.len hv; simpa using this
 obtain⟨T1,t1,t2⟩:=recPro_run (tb:=tb) (call:=call) hd hkd (putArgs (args++[x]) 0 .e) H
 simp only[aexec,t1]at hx
 cases hl:aregs tb call l T1 H with
 | none=>rw[hl]at hx; simp at hx
 | some q=>
  obtain⟨T2,H2⟩:=q
  rw[hl]at hx
  simp only at hx
  have hst:=start_sim (ρ:=ρ) hv (show args.length≤fc.ntmps by omega)
  have hput:TmpsRel ρ fc.ntmps T1 ((({ tmps:=vs++Array.replicate (fc.ntmps-vs.size) undef,defers:=[] }:Act).put (some d) xv).tmps):=by
   have hp:=put_rel (a:={ tmps:=vs++Array.replicate (fc.ntmps-vs.size) undef,defers:=[] }) (n:=fc.ntmps) hst (dst:=some d) (Nat.ble_eq_true_of_le hd) hxv
   refine⟨hp.size,fun t=>?_⟩
   have hat:=hp.at_ t
   have e:ev T1 (.t t)=ev (aput (putArgs args 0 .e) (some d) x) (.t t):=by
    rw[t2 t,ev_aput,args_sim args vs.toList 0 .e hv (fun _ _=>rfl) t]
    have hvx:VRels ρ (args++[x]) (vs.push xv).toList:=by
     rw[Array.toList_push]
     exact VRels.append hv (by simp only[VRels]; exact⟨_,_,rfl,hxv,rfl⟩)
    rw[args_sim (args++[x]) _ 0 .e hvx (fun _ _=>rfl) t,args_sim (args++[x]) _ 0 .e hvx (fun _ _=>rfl) (arity P G)]
    simp only[Nat.not_lt_zero,if_false,Nat.sub_zero,sJ]
    by_cases q1:t=fc.ntmps
    ·subst q1
     rw[if_pos rfl,if_neg om,List.getElem?_eq_none om]
    ·rw[if_neg q1]
     by_cases q2:t=d
     ·subst q2
      rw[if_pos rfl,if_pos rfl,← hlen,List.getElem?_append_right rL,Nat.sub_self]
      rfl
     ·rw[if_neg q2,if_neg (show ¬d=t from fun q=>q2 q.symm)]
      by_cases q3:t=arity P G
      ·rw[if_pos q3,List.getElem?_eq_none om]
      ·rw[if_neg q3]
       by_cases q4:t<args.length
       ·rw[List.getElem?_append_left q4]
       ·rw[List.getElem?_eq_none (by simp; omega),List.getElem?_eq_none om]
   rw[e]
   exact hat
  refine callsD_of_wpS h1 h2 fun c₀ cs hcu=>?_
  refine wpS_seq (wpS_region ?_)
  have hsz:ops.size=os.length+1:=by have:=congrArg List.length hops; simpa using this
  have ho:ops[0]?=some o:=by
   have:ops.toList[0]?=some o:=by rw[hops]; rfl
   simpa using this
  have hnx:∀j,os[j]?=ops[1+j]?:=fun j=>by
   have:ops.toList[1+j]?=os[j]?:=by rw[hops,show 1+j=j+1 by omega,List.getElem?_cons_succ]
   rw[← this]; simp
  rw[List.range_eq_range',hsz,List.range'_succ]
  simp only[wpOpsS,ho]
  have hw:Region.wanted o (yielded ops (vs++Array.replicate (fc.ntmps-vs.size) undef))=true:=by simp[Region.wanted,hog]
  rw[if_pos hw]
  have hrun:∀a:Act,(execOp a.eval o).run P w=.ok .recover w:=fun a=>by
   obtain⟨dst,op,type,pos,after,guard⟩:=o
   simp only at hop
   subst hop
   rfl
  rw[hrun]
  simp only
  have key:∀(u':FrameMode),settle u'=.returning→wpOpsS P ops (Exit.thenS (rest.wpS P (bodyPostS P fc c₀ cs fun e u' w'=>settle u'=.returning∧∃ρ' y,ρ.le ρ'∧e=.returned y∧Rel Prot w0 ρ' H1 w')) (bodyPostS P fc c₀ cs fun e u' w'=>settle u'=.returning∧∃ρ' y,ρ.le ρ'∧e=.returned y∧Rel Prot w0 ρ' H1 w')) (List.range' (0+1) os.length)
    (({ tmps:=vs++Array.replicate (fc.ntmps-vs.size) undef,defers:=[] }:Act).put o.dst xv) ({ c₀ with mode:=u' }::cs) w:=by
   intro u' hset
   refine wpOpsS_of ?_ _ _ _ ?_
   ·rintro ⟨a,w',u2,_,ρ',y,_,hh,_⟩
    simp at hh
   ·rw[hod]
    refine regs_sim (Prot:=Prot) (w0:=w0) (ds:=[]) hb.h0 hc.ok os (0+1) l hnx h6 ρ ρ T1 T2 H H2 _ w (Pl.le_refl _) R hput rfl hl ?_
    rintro a' w' ⟨ρ',q1,q2,q3,q4⟩
    show rest.wpS P _ a' _ w'
    refine wpS_of_wp (wp_mono (code_sim hfol (Prot:=Prot) (w0:=w0) (ds:=[]) hb.h0 hc.ok rest r h7 ρ' T2 T H2 H1 e a' w' q2 q3 q4 hx) ?_)
    rintro e' a2 w2 ⟨he,ρ2,z1,z2,z3,z4⟩
    have hfin:a2.defers=[]∧∃u2,({ c₀ with mode:=u' }::cs:List Frame)={ c₀ with mode:=u2 }::cs∧∃v,(results fc a2.tmps).run P w2=.ok v w2∧(settle u2=.returning∧∃ρ' y,ρ.le ρ'∧Ending.returned v=.returned y∧Rel Prot w0 ρ' H1 w2):=
     ⟨z4,u',rfl,.tuple #[],by simp[results,h4],hset,ρ2,.tuple #[],Pl.le_trans q1 z1,rfl,z2⟩
    cases e with
    | normal=>simp only at he; subst he; exact hfin
    | exit id=>exact (hne _ rfl).elim
    | ret=>simp only at he; subst he; exact hfin
  rcases hu with⟨rfl,rfl⟩ | rfl
  ·have hrec:recoverD (c₀::cs)=none:=by simp[recoverD,hcu]
   rw[hrec]
   have:=key .returning rfl
   rwa [show ({ c₀ with mode:=.returning }:Frame)=c₀ by rw[← hcu]]at this
  ·have hrec:recoverD (c₀::cs)=some (xv,{ c₀ with mode:=.panicking [{ v:=xv,recovered:=true }] }::cs):=by simp[recoverD,hcu]
   rw[hrec]
   exact key _ rfl
theorem acall_inv{N:ANat}{tab:Tr AFn}{n:Nat}{f:FuncId}{args:List AVal}{v:AVal}(hi:N.is f=false)(h:acall N tab (n+1) f args H=some (v,H')) :
  ∃fn e T xs,tab.get f=some fn∧args.length≤fn.nt∧aexec (tbA N tab) (acall N tab n) n fn.body (putArgs args 0 .e) H=some (e,T,H')∧(∀i,e≠.exit i)∧ares T H' fn.res=some xs∧v=aresV xs:=by
 simp only[acall,hi,cond_false]at h
 split at h
 ·rename_i fn hf
  cases hb:Nat.ble args.length fn.nt with
  | false=>rw[hb]at h; simp at h
  | true=>
   rw[hb]at h
   simp only[cond_true]at h
   split at h
   ·simp at h
   ·rename_i e T H1 hne hx
    split at h
    ·rename_i xs hxs
     simp only[sJ,pJ]at h
     obtain⟨rfl,rfl⟩:=h
     exact⟨fn,e,T,xs,hf,Nat.le_of_ble_eq_true hb,hx,fun i q=>hne i q,hxs,rfl⟩
    ·simp at h
   ·simp at h
 ·simp at h
theorem acall_all(hfol:P.follows .mixedOrders=true){N:ANat}(hN:NatOK P N){tab:Tr AFn}(hT:TabOK P tab):∀n,AllOK P (acall N tab n):=by
 have hnat:∀(m f:Nat),0<m→N.is (m*BIG+f)=false:=fun m f hm=>by
  cases hi:N.is (m*BIG+f) with
  | false=>rfl
  | true=>
   have:=hN.body _ hi
   simp only[hasBody,Bool.and_eq_true]at this
   have:=blt_lt this.1
   have:BIG≤m*BIG:=Nat.le_mul_of_pos_left _ hm
   omega
 have hget:∀f,N.is f=false→tbA N tab f=true→∃fn,tab.get f=some fn:=fun f hi h=>by
  unfold tbA at h
  rw[hi]at h
  simp only[cond_false]at h
  split at h
  ·rename_i fn hf; exact⟨fn,hf⟩
  ·simp at h
 have e1:∀f:Nat,BIG+f=1*BIG+f:=fun f=>om
 have htb:TbOK P (tbA N tab):=by
  refine⟨fun f hf h=>?_,fun f hf h=>?_,fun f hf h=>?_,fun f hf h=>?_⟩
  ·cases hi:N.is f with
   | true=>exact hN.body f hi
   | false=>
    obtain⟨fn,hg⟩:=hget f hi h
    obtain⟨md,he⟩:=hT _ _ hg
    rcases eFn_0 hf he with h9 | ⟨m,h9⟩
    ·obtain⟨fc,c,q1,q2,q3,_⟩:=cFn_spec h9; exact body_of hf q1 q2 q3
    ·obtain⟨fc,c,b,r,q1,q2,q3,_⟩:=cFnP_spec h9; exact body_of hf q1 q2 q3
  ·obtain⟨fn,hg⟩:=hget _ (by rw[e1]; exact hnat 1 f om) h
   obtain⟨md,he⟩:=hT _ _ hg
   obtain⟨m,h9⟩:=eFn_1 hf he
   obtain⟨fc,c,b,r,q1,q2,q3,_⟩:=cFnP_spec h9; exact body_of hf q1 q2 q3
  ·obtain⟨fn,hg⟩:=hget _ (hnat 2 f om) h
   obtain⟨md,he⟩:=hT _ _ hg
   have h9:=eFn_2 hf he
   obtain⟨fc,c,ops,d,os,rest,l,r,q1,q2,q3,_⟩:=cFnR_spec h9; exact body_of hf q1 q2 q3
  ·obtain⟨fn,hg⟩:=hget _ (hnat 3 f om) h
   obtain⟨md,he⟩:=hT _ _ hg
   have h9:=eFn_3 hf he
   obtain⟨fc,c,q1,q2,q3,_⟩:=cFn_spec h9; exact body_of hf q1 q2 q3
 intro n
 induction n with
 | zero=>
  refine⟨fun f args H v H' _ h=>by simp[acall]at h,fun f args H v H' _ h=>by simp[acall]at h,fun f args H v H' _ h=>by simp[acall]at h,fun f args x H v H' _ _ h=>by simp[acall]at h⟩
 | succ n ih=>
  refine⟨fun f args H v H' hf h Prot w0 ρ w vs R hv=>?_,fun f args H v H' hf h Prot w0 ρ w vs R hv=>?_,fun f args H v H' hf h Prot w0 ρ w vs R hv=>?_,fun f args x H v H' hf hlen h Prot w0 ρ w vs xv u R hv hxv hu=>?_⟩
  ·cases hi:N.is f with
   | true=>simp only[acall,hi,cond_true]at h; exact hN.run f args H v H' hf h Prot w0 ρ w vs R hv
   | false=>
    obtain⟨fn,e,T,xs,hg,hl,hx,hne,hxs,rfl⟩:=acall_inv hi h
    obtain⟨md,he⟩:=hT _ _ hg
    rcases eFn_0 hf he with h9 | ⟨m,h9⟩
    ·obtain⟨fc,c,q1,q2,q3⟩:=fn_ok hfol htb ih h9 hl hx hne hxs R hv
     exact calls_of_wp q1 q2 q3
    ·refine (fnP_ok hfol htb ih h9 hl hx hne hxs R hv).mono fun e' w' hr=>?_
     obtain⟨ρ',r1,r2,⟨y,rfl,r3⟩ | ⟨h8,_⟩⟩:=hr
     ·exact⟨ρ',y,r1,rfl,r2,r3⟩
     ·simp at h8
  ·obtain⟨fn,e,T,xs,hg,hl,hx,hne,hxs,rfl⟩:=acall_inv (by rw[e1]; exact hnat 1 f om) h
   obtain⟨md,he⟩:=hT _ _ hg
   obtain⟨m,h9⟩:=eFn_1 hf he
   refine (fnP_ok hfol htb ih h9 hl hx hne hxs R hv).mono fun e' w' hr=>?_
   obtain⟨ρ',r1,r2,⟨y,rfl,r3⟩ | ⟨_,x,y,r3,rfl,r4⟩⟩:=hr
   ·exact⟨ρ',r1,r2,.inl ⟨y,rfl,r3⟩⟩
   ·exact⟨ρ',r1,r2,.inr ⟨x,y,r3,rfl,r4⟩⟩
  ·obtain⟨fn,e,T,xs,hg,hl,hx,hne,hxs,rfl⟩:=acall_inv (hnat 3 f om) h
   obtain⟨md,he⟩:=hT _ _ hg
   obtain⟨fc,c,q1,q2,q3⟩:=fn_ok hfol htb ih (eFn_3 hf he) hl hx hne hxs R hv
   refine (callsD_of_wp q1 q2 q3).mono ?_
   rintro e' u' w' ⟨rfl,ρ',y,r1,rfl,r2,_⟩
   exact⟨rfl,ρ',y,r1,rfl,r2⟩
  ·obtain⟨fn,e,T,xs,hg,hl,hx,hne,hxs,rfl⟩:=acall_inv (hnat 2 f om) h
   obtain⟨md,he⟩:=hT _ _ hg
   exact fnR_ok hfol htb ih (eFn_2 hf he) hlen hx hne R hv hxv hu
theorem acall_ok(hfol:P.follows .mixedOrders=true){N:ANat}(hN:NatOK P N){tab:Tr AFn}(hT:TabOK P tab)(n:Nat):CallOK P (acall N tab n):=(acall_all hfol hN hT n).ok
end
end Go.Abs
namespace Go.Abs
section
variable {P:Program}
def H0:AHeap:=⟨0,.e⟩
theorem Rel.below{w0:World}{ρ:Pl}{H:AHeap}{w:World}(R:Rel ⟨fun c=>c<w0.heap.size,fun _=>False⟩ w0 ρ H w):RowKit.Below w0.heap.size w0 w:=
 ⟨R.os,R.tape,R.output,R.size,fun k hk=>(R.prot k hk).2⟩
end
end Go.Abs
namespace Go.Abs.S
open Go.Abs
abbrev Env:=Nat→AVal
def en(T:Tr AVal):Env:=fun i=>ev T (.t i)
def up(T:Env)(i:Nat)(v:AVal):Env:=fun j=>bif Nat.beq j i then v else T j
def upO(T:Env):Option Nat→AVal→Env
 | some d,v=>up T d v
 | none,_=>T
theorem en_set(T:Tr AVal)(i:Nat)(v:AVal):en (T.set i v)=up (en T) i v:=by
 funext j
 simp only[en,up,ev,Tr.get_set,beq_dec]
 by_cases h:j=i
 ·rw[if_pos h,decide_eq_true h]; rfl
 ·rw[if_neg h,decide_eq_false h]; rfl
theorem en_put(T:Tr AVal)(d:Option Nat)(v:AVal):en (aput T d v)=upO (en T) d v:=by
 cases d <;> simp only[aput,upO,en_set]
def sX(T:Env):Opd→AVal
 | .t i=>T i
 | .c v=>v
 | .f id=>.func (.func id) [] []
def sXs(T:Env):List Opd→List AVal
 | []=>[]
 | x::r=>sX T x::sXs T r
def sXO(T:Env):Option Opd→Option AVal
 | none=>none
 | some x=>some (sX T x)
def sXP(T:Env):List (Nat×Nat×Opd)→List (Nat×Nat×AVal)
 | []=>[]
 | (o,n,x)::r=>(o,n,sX T x)::sXP T r
theorem sX_en(T:Tr AVal)(x:Opd):sX (en T) x=ev T x:=by cases x <;> rfl
theorem sXs_en(T:Tr AVal):∀l:List Opd,sXs (en T) l=evs T l
 | []=>rfl
 | x::r=>by simp only[sXs,evs,sX_en,sXs_en T r]
theorem sXO_en(T:Tr AVal)(x:Option Opd):sXO (en T) x=evO T x:=by cases x <;> simp only[sXO,evO,sX_en]
theorem sXP_en(T:Tr AVal):∀l:List (Nat×Nat×Opd),sXP (en T) l=evP T l
 | []=>rfl
 | (o,n,x)::r=>by simp only[sXP,evP,sX_en,sXP_en T r]
abbrev sGv(b:Bool):AVal→Bool:=gVb b
def sG(T:Env):Option (Nat×Bool)→Bool
 | none=>true
 | some (t,b)=>gV t b (T (gS t))
theorem sG_en(T:Tr AVal)(g:Option (Nat×Bool)):sG (en T) g=gOK T g:=by
 cases g with
 | none=>rfl
 | some p=>rfl
theorem gS_ltG{K t:Nat}(h:t<K):Nat.ble K t=false:=by
 cases hb:Nat.ble K t with
 | false=>rfl
 | true=>have:=Nat.le_of_ble_eq_true hb; omega
theorem gS_of{t:Nat}(h:Nat.ble SK t=false):gS t=t:=by unfold gS; rw[h]; rfl
theorem sG_ltG(T:Env){t:Nat}(h:Nat.ble SK t=false)(b:Bool):sG T (some (t,b))=sGv b (T t):=by
 simp only[sG,gV,gS_of h,h,cond_false]
theorem sG_lt(T:Env){t:Nat}(h:t<1000000)(b:Bool):sG T (some (t,b))=sGv b (T t):=sG_ltG T (gS_ltG h) b
def OptP{α:Type}(o:Option α)(K:α→Prop):Prop:=∃v,o=some v∧K v
theorem OptP_some{α:Type}(x:α)(K:α→Prop):OptP (some x) K=K x:=by simp[OptP]
theorem OptP.mono{α:Type}{o:Option α}{K K':α→Prop}(h:OptP o K)(hk:∀v,K v→K' v):OptP o K':=by
 obtain⟨v,h1,h2⟩:=h; exact⟨v,h1,hk v h2⟩
abbrev CS:=FuncId→List AVal→AHeap→(AVal→AHeap→Prop)→Prop
section
variable (C:CS)
def wOp(T:Env)(H:AHeap)(K:AVal→AHeap→Prop):AOp→Prop
 | .mv x=>K (sX T x) H
 | .pick c a b=>∃b',sX T c=.bool b'∧K (bif b' then sX T a else sX T b) H
 | .new z=>K (oNew H z).1 (oNew H z).2
 | .box x=>K (oNew H (sX T x).cells).1 (oNew H (sX T x).cells).2
 | .build z ps=>OptP (aBuild z (sXP T ps)) fun v=>K v H
 | .buildSl n z ps=>OptP (aBuildSl n z H (sXP T ps)) fun p=>K p.1 p.2
 | .load a n x=>OptP (oLoad a n H (sX T x)) fun v=>K v H
 | .store n a x=>OptP (oStore n H (sX T a) (sX T x)) fun H'=>K undefA H'
 | .nilChk x=>OptP (aNilChk (sX T x)) fun v=>K v H
 | .bin op x y=>OptP (aBin op (sX T x) (sX T y)) fun v=>K v H
 | .un op x=>OptP (aUn op (sX T x)) fun v=>K v H
 | .conv k x=>OptP (aConv k (sX T x)) fun v=>K v H
 | .convSB x=>OptP (aSB H (sX T x)) fun p=>K p.1 p.2
 | .convBS x=>OptP (aBS H (sX T x)) fun v=>K v H
 | .mkFunc fn a b=>K (.func fn (sXs T a) (sXs T b)) H
 | .mkIface t x=>K (.iface t (sX T x)) H
 | .mkSlice b z l c=>OptP (aMake b z H (sX T l) (sX T c)) fun p=>K p.1 p.2
 | .sl n x lo hi mx=>OptP (aSl n (sX T x) (sXO T lo) (sXO T hi) (sXO T mx)) fun v=>K v H
 | .slStr x lo hi=>OptP (aSlStr (sX T x) (sXO T lo) (sXO T hi)) fun v=>K v H
 | .fieldA o x=>OptP (aField o (sX T x)) fun v=>K v H
 | .field a n o x=>OptP (aFieldV a n o (sX T x)) fun v=>K v H
 | .idxA n x i=>OptP (aIdxA n (sX T x) (sX T i)) fun v=>K v H
 | .idxArr m n x i=>OptP (aIdxArr m n (sX T x) (sX T i)) fun v=>K v H
 | .idx m n a x i=>OptP (aIdx m n a (sX T x) (sX T i)) fun v=>K v H
 | .idxS x i=>OptP (aIdxS (sX T x) (sX T i)) fun v=>K v H
 | .extract i x=>OptP (aExtract i (sX T x)) fun v=>K v H
 | .append n b s x=>OptP (aAppend n b H (sX T s) (sX T x)) fun p=>K p.1 p.2
 | .len s x=>OptP (aLenK s (sX T x)) fun v=>K v H
 | .call f args=>C f (sXs T args) H K
 | .callv f args=>∃g a b,sX T f=.func (.func g) a b∧Nat.blt g BIG=true∧C g (a++sXs T args++b) H K
 | .pf f xs=>OptP (aPf f (sXs T xs)) fun v=>K v H
 | .hf f xs=>OptP (aHf f H (sXs T xs)) fun p=>K p.1 p.2
 | .bad=>False
 | .claim b z s=>OptP (aClaim H b z s) fun v=>K v H
 | .slA m n x lo hi mx=>OptP (aSlArr m n (sX T x) (sXO T lo) (sXO T hi) (sXO T mx)) fun v=>K v H
def wRegs:List AOper→Env→AHeap→(Env→AHeap→Prop)→Prop
 | [],T,H,K=>K T H
 | o::r,T,H,K=>bif sG T o.guard then wOp C T H (fun v H'=>wRegs r (upO T o.dst v) H' K) o.op else wRegs r (upO T o.dst undefA) H K
def wTr:List AOper→Env→AHeap→(List (AVal×AHeap)→Env→AHeap→Prop)→Prop
 | [],T,H,K=>K [] T H
 | o::r,T,H,K=>bif sG T o.guard then wOp C T H (fun v H'=>wTr r (upO T o.dst v) H' fun ss=>K ((v,H')::ss)) o.op else wTr r (upO T o.dst undefA) H fun ss=>K ((undefA,H)::ss)
end
def wLd(T:Env)(H:AHeap):AOp→Option AVal
 | .load a n x=>oLoad a n H (sX T x)
 | .claim b z s=>aClaim H b z s
 | _=>none
def wCk(hs:List AHeap):List AOper→List (List Nat)→List (AVal×AHeap)→Env→Prop
 | o::os,ps::pss,(v,_)::ss,T=>(∀p∈ps,∃Hp,hs[p]?=some Hp∧(sG T o.guard=true→∃u,wLd T Hp o.op=some u∧aeq u v=true))∧wCk hs os pss ss (upO T o.dst v)
 | _,_,_,_=>True
def wDraw(C:CS)(l:List AOper)(chk:List (List Nat))(T:Env)(H:AHeap)(K:Env→AHeap→Prop):Prop:=wTr C l T H fun ss T' H'=>wCk (H::ss.map (·.2)) l chk ss T∧K T' H'
abbrev Post:=AEx→Env→AHeap→Prop
def inBlk(id:Nat)(Q:Post):Post:=fun e T H=>match e with
 | .exit j=>bif Nat.beq j id then Q .normal T H else Q (.exit j) T H
 | e=>Q e T H
def inSeq(Q:Post)(K:Env→AHeap→Prop):Post:=fun e T H=>match e with
 | .normal=>K T H
 | e=>Q e T H
def wp(C:CS):ACode→Post→Env→AHeap→Prop
 | .skip,Q,T,H=>Q .normal T H
 | .reg ops,Q,T,H=>wRegs C ops T H (Q .normal)
 | .draw ops chk,Q,T,H=>wDraw C (claims H.next ops) chk T (reserves H ops) (Q .normal)
 | .seq a b,Q,T,H=>wp C a (inSeq Q (wp C b Q)) T H
 | .cond c a b,Q,T,H=>∃v,sX T c=.bool v∧bif v then wp C a Q T H else wp C b Q T H
 | .block id c,Q,T,H=>wp C c (inBlk id Q) T H
 | .loop c,Q,T,H=>∃(I:Nat→Env→AHeap→Prop),(∃m,I m T H)∧∀m T H,I m T H→wp C c (inSeq Q fun T' H'=>∃m',m'<m∧I m' T' H') T H
 | .exit id,Q,T,H=>Q (.exit id) T H
 | .ret,Q,T,H=>Q .ret T H
section
variable {tb:FuncId→Bool}
def CLe(c d:FuncId→List AVal→AHeap→Option (AVal×AHeap)):Prop:=∀f a H r,c f a H=some r→d f a H=some r
theorem CLe.refl(c):CLe c c:=fun _ _ _ _ h=>h
theorem astep_mono{c d}(h:CLe c d){o:AOper}{T:Tr AVal}{H:AHeap}{r}(e:astep tb c o T H=some r):astep tb d o T H=some r:=by
 unfold astep at e ⊢
 cases hg:gOK T o.guard with
 | false=>rw[hg]at e; exact e
 | true=>
  rw[hg]at e
  simp only[cond_true]at e ⊢
  split at e
  ·exact e
  ·exact h _ _ _ _ e
  ·simp at e
theorem aregs_mono{c d}(h:CLe c d):∀(l:List AOper) {T:Tr AVal} {H:AHeap} {r},aregs tb c l T H=some r→aregs tb d l T H=some r
 | [],_,_,_,e=>e
 | o::l,T,H,r,e=>by
  have hs:∀c,aregs tb c (o::l) T H=match astep tb c o T H with | some (v,H')=>aregs tb c l (aput T o.dst v) H' | none=>none:=by
   intro c
   simp only[aregs,astep]
   cases gOK T o.guard with
   | false=>rfl
   | true=>
    simp only[cond_true]
    cases aop tb T H o.op with
    | none=>rfl
    | some p=>obtain⟨nx,H'⟩:=p; cases nx <;> rfl
  rw[hs]at e ⊢
  split at e
  ·rename_i v H' hv
   rw[astep_mono h hv]
   exact aregs_mono h l e
  ·simp at e
theorem atrace_mono{c d}(h:CLe c d):∀(l:List AOper) {T:Tr AVal} {H:AHeap} {r},atrace tb c l T H=some r→atrace tb d l T H=some r
 | [],_,_,_,e=>e
 | o::l,T,H,r,e=>by
  simp only[atrace]at e ⊢
  split at e
  ·rename_i v H' hv
   rw[astep_mono h hv]
   split at e
   ·rename_i s hs
    simp only[atrace_mono h l hs]
    exact e
   ·simp at e
  ·simp at e
theorem aloop_mono{f g:Tr AVal→AHeap→Option (AEx×Tr AVal×AHeap)}(h:∀T H r,f T H=some r→g T H=some r):∀(n m:Nat) (T:Tr AVal) (H:AHeap) (r),n≤m→aloop f n T H=some r→aloop g m T H=some r
 | 0,_,_,_,_,_,e=>by simp[aloop]at e
 | n+1,0,_,_,_,hl,_=>om
 | n+1,m+1,T,H,r,hl,e=>by
  simp only[aloop]at e ⊢
  split at e
  ·rename_i T' H' hv
   rw[h _ _ _ hv]
   exact aloop_mono h n m T' H' r om e
  ·rename_i e' T' H' hne hv
   rw[h _ _ _ hv]
   cases e' with
   | normal=>exact absurd rfl hne
   | exit i=>exact e
   | ret=>exact e
  ·simp at e
theorem aexec_mono{c d}(h:CLe c d){k k':Nat}(hk:k≤k'):∀(x:ACode) (T:Tr AVal) (H:AHeap) (r),aexec tb c k x T H=some r→aexec tb d k' x T H=some r:=by
 intro x
 induction x with
 | skip=>intro T H r e; exact e
 | reg l=>
  intro T H r e
  simp only[aexec]at e ⊢
  split at e
  ·rename_i T' H' hv; rw[aregs_mono h l hv]; exact e
  ·simp at e
 | draw l chk=>
  intro T H r e
  simp only[aexec,adraw]at e ⊢
  split at e
  ·rename_i ss hv; rw[atrace_mono h _ hv]; exact e
  ·simp at e
 | seq a b iha ihb=>
  intro T H r e
  simp only[aexec]at e ⊢
  split at e
  ·rename_i T' H' hv; rw[iha _ _ _ hv]; exact ihb _ _ _ e
  ·rename_i e' T' H' hne hv
   rw[iha _ _ _ hv]
   cases e' with
   | normal=>exact absurd rfl hne
   | exit i=>exact e
   | ret=>exact e
  ·simp at e
 | cond c a b iha ihb=>
  intro T H r e
  simp only[aexec]at e ⊢
  split at e
  ·exact iha _ _ _ e
  ·exact ihb _ _ _ e
  ·simp at e
 | block id c ih=>
  intro T H r e
  simp only[aexec]at e ⊢
  split at e
  ·rename_i j T' H' hv; rw[ih _ _ _ hv]; exact e
  ·rename_i e' T' H' hne hv
   rw[ih _ _ _ hv]
   cases e' with
   | exit i=>exact absurd rfl (hne i)
   | normal=>exact e
   | ret=>exact e
  ·simp at e
 | loop c ih=>
  intro T H r e
  simp only[aexec]at e ⊢
  exact aloop_mono (fun T H r hr=>ih T H r hr) k k' T H r hk e
 | exit id=>intro T H r e; exact e
 | ret=>intro T H r e; exact e
theorem acall_mono1{N:ANat}{tab:Tr AFn}:∀(n:Nat),CLe (acall N tab n) (acall N tab (n+1))
 | 0=>fun f a H r e=>by simp[acall]at e
 | n+1=>fun f a H r e=>by
  have ih:=acall_mono1 (N:=N) (tab:=tab) n
  rw[acall]at e ⊢
  cases hn:N.is f with
  | true=>rw[hn]at e; exact e
  | false=>
   rw[hn]at e
   simp only[cond_false]at e ⊢
   split at e
   ·rename_i fn hf
    cases hb:Nat.ble a.length fn.nt with
    | false=>rw[hb]at e; simp at e
    | true=>
     rw[hb]at e
     simp only[cond_true]at e ⊢
     split at e
     ·simp at e
     ·rename_i e' T' H' hne hv
      rw[aexec_mono ih (Nat.le_succ n) _ _ _ _ hv]
      cases e' with
      | exit i=>exact (hne i rfl).elim
      | normal=>exact e
      | ret=>exact e
     ·simp at e
   ·simp at e
theorem acall_mono{N:ANat}{tab:Tr AFn}{n m:Nat}(h:n≤m):CLe (acall N tab n) (acall N tab m):=by
 induction m with
 | zero => obtain rfl : n = 0 := by omega
           exact CLe.refl _
 | succ m ih=>
  by_cases e:n=m+1
  ·subst e; exact CLe.refl _
  ·exact fun f a H r hr=>acall_mono1 m _ _ _ _ (ih om _ _ _ _ hr)
end
end Go.Abs.S
namespace Go.Abs.S
open Go.Abs
def tabN(P:Program)(N:ANat):Nat→Tr AFn
 | 0=>.e
 | n+1=>match eFn P (N.md (n % BIG)) n with
  | some c=>(tabN P N n).set n c
  | none=>tabN P N n
def tabP(P:Program)(N:ANat):Tr AFn:=tabN P N (4*BIG)
theorem tabN_get(P:Program)(N:ANat):∀(n f:Nat),(tabN P N n).get f=if f<n then eFn P (N.md (f % BIG)) f else none
 | 0,f=>by rw[if_neg om]; cases f <;> rfl
 | n+1,f=>by
  simp only[tabN]
  cases hc:eFn P (N.md (n % BIG)) n with
  | none=>
   simp only[tabN_get P N n f]
   by_cases h:f<n
   ·rw[if_pos h,if_pos om]
   ·by_cases e:f=n
    ·subst e; rw[if_neg h,if_pos om,hc]
    ·rw[if_neg h,if_neg om]
  | some c=>
   simp only[Tr.get_set,tabN_get P N n f]
   by_cases e:f=n
   ·subst e; rw[if_pos rfl,if_pos om,hc]
   ·rw[if_neg e]
    by_cases h:f<n
    ·rw[if_pos h,if_pos om]
    ·rw[if_neg h,if_neg om]
theorem tabP_ok(P:Program)(N:ANat):TabOK P (tabP P N):=by
 intro f fn h
 rw[tabP,tabN_get]at h
 split at h
 ·exact⟨_,h⟩
 ·simp at h
theorem tabP_get{P:Program}{N:ANat}{f:Nat}{c:AFn}(h:eFn P (N.md (f % BIG)) f=some c):(tabP P N).get f=some c:=by
 have hf:f<4*BIG:=by
  unfold eFn at h
  cases h4:Nat.blt f (4*BIG) with
  | true=>exact blt_lt h4
  | false=>
   exfalso
   have h4':¬f<4*BIG:=fun q=>by rw[show Nat.blt f (4*BIG)=true from Nat.ble_eq_true_of_le q]at h4; simp at h4
   have h5:4*BIG≤f:=Nat.not_lt.1 h4'
   have e1:Nat.blt f BIG=false:=by rw[blt_dec]; exact decide_eq_false om
   have e2:Nat.blt f (2*BIG)=false:=by rw[blt_dec]; exact decide_eq_false om
   have e3:Nat.blt f (3*BIG)=false:=by rw[blt_dec]; exact decide_eq_false om
   rw[e1,e2,e3,h4]at h
   simp at h
 rw[tabP,tabN_get,if_pos hf,h]
theorem eFn_plain{P:Program}{N:ANat}{f:FuncId}{c:AFn}(h:cFn P f=some c)(hm:N.md f=none)(hf:Nat.blt f BIG=true):eFn P (N.md (f % BIG)) f=some c:=by
 rw[Nat.mod_eq_of_lt (blt_lt hf),hm]
 unfold eFn
 rw[hf]
 exact h
def ACalls(P:Program)(N:ANat)(f:FuncId)(args:List AVal)(H:AHeap)(K:AVal→AHeap→Prop):Prop:=
 ∃n v H',acall N (tabP P N) n f args H=some (v,H')∧K v H'
theorem ACalls.mono{P:Program}{N:ANat}{f:FuncId}{args:List AVal}{H:AHeap}{K K':AVal→AHeap→Prop}(h:ACalls P N f args H K)(hk:∀v H',K v H'→K' v H'):ACalls P N f args H K':=by
 obtain⟨n,v,H',h1,h2⟩:=h; exact⟨n,v,H',h1,hk _ _ h2⟩
section
variable {P:Program} {N:ANat}
theorem acall_tb{n:Nat}{f:FuncId}{args:List AVal}{H:AHeap}{r}(h:acall N (tabP P N) n f args H=some r):tbA N (tabP P N) f=true:=by
 cases n with
 | zero=>simp[acall]at h
 | succ n=>
  rw[acall]at h
  unfold tbA
  cases hn:N.is f with
  | true=>rfl
  | false=>
   rw[hn]at h
   simp only[cond_false]at h ⊢
   cases ht:(tabP P N).get f with
   | none=>rw[ht]at h; simp at h
   | some c=>rfl
theorem wOp_sound{T:Tr AVal}{H:AHeap}{o:AOp}{K:AVal→AHeap→Prop}(h:wOp (ACalls P N) (en T) H K o) :
  (∃v H',aop (tbA N (tabP P N)) T H o=some (.val v,H')∧K v H')∨(∃f args H' n v H'',aop (tbA N (tabP P N)) T H o=some (.enter f args,H')∧acall N (tabP P N) n f args H'=some (v,H'')∧K v H''):=by
 cases o
 case call f args=>
  right
  simp only[wOp,sXs_en]at h
  obtain⟨n,v,H',h1,h2⟩:=h
  exact⟨f,_,H,n,v,H',by simp only[aop,acall_tb h1,cond_true],h1,h2⟩
 case callv f args=>
  right
  simp only[wOp,sX_en,sXs_en]at h
  obtain⟨g,a,b,hf,hgb,n,v,H',h1,h2⟩:=h
  exact⟨g,_,H,n,v,H',by simp only[aop,hf,hgb,acall_tb h1,Bool.and_true,cond_true],h1,h2⟩
 case pick c a b=>
  simp only[wOp,sX_en]at h
  obtain⟨b',h1,h2⟩:=h
  exact .inl ⟨_,_,by simp only[aop,h1],h2⟩
 case bad=>simp[wOp]at h
 all_goals
  left
  simp only[wOp,sX_en,sXs_en,sXO_en,sXP_en,OptP]at h
  first
   | exact⟨_,_,rfl,h⟩
   | (obtain ⟨v, h1, h2⟩ := h
      refine ⟨_, _, ?_, h2⟩
      simp only [aop, h1]
      try rfl)
theorem wStep_sound{T:Tr AVal}{H:AHeap}{o:AOper}{K:AVal→AHeap→Prop}(h:wOp (ACalls P N) (en T) H K o.op)(hg:gOK T o.guard=true) :
  ∃n v H',astep (tbA N (tabP P N)) (acall N (tabP P N) n) o T H=some (v,H')∧K v H':=by
 rcases wOp_sound h with⟨v,H',h1,h2⟩ | ⟨f,args,H',n,v,H'',h1,h2,h3⟩
 ·exact⟨0,v,H',by simp only[astep,hg,cond_true,h1],h2⟩
 ·exact⟨n,v,H'',by simp only[astep,hg,cond_true,h1,h2],h3⟩
theorem aregs_cons(tb:FuncId→Bool)(c)(o:AOper)(l:List AOper)(T:Tr AVal)(H:AHeap):aregs tb c (o::l) T H=match astep tb c o T H with | some (v,H')=>aregs tb c l (aput T o.dst v) H' | none=>none:=by
 simp only[aregs,astep]
 cases gOK T o.guard with
 | false=>rfl
 | true=>
  simp only[cond_true]
  cases aop tb T H o.op with
  | none=>rfl
  | some p=>obtain⟨nx,H'⟩:=p; cases nx <;> rfl
theorem wRegs_sound:∀(l:List AOper) {T:Tr AVal} {H:AHeap} {K:Env→AHeap→Prop},wRegs (ACalls P N) l (en T) H K →
  ∃n T' H',aregs (tbA N (tabP P N)) (acall N (tabP P N) n) l T H=some (T',H')∧K (en T') H'
 | [],T,H,K,h=>⟨0,T,H,rfl,h⟩
 | o::l,T,H,K,h=>by
  simp only[wRegs,sG_en]at h
  have:∃n v H',astep (tbA N (tabP P N)) (acall N (tabP P N) n) o T H=some (v,H')∧wRegs (ACalls P N) l (upO (en T) o.dst v) H' K:=by
   cases hg:gOK T o.guard with
   | true=>rw[hg]at h; exact wStep_sound h hg
   | false=>rw[hg]at h; exact⟨0,undefA,H,by simp only[astep,hg,cond_false],h⟩
  obtain⟨n,v,H',h1,h2⟩:=this
  rw[← en_put]at h2
  obtain⟨m,T2,H2,h3,h4⟩:=wRegs_sound l h2
  refine⟨max n m,T2,H2,?_,h4⟩
  rw[aregs_cons,astep_mono (acall_mono (Nat.le_max_left n m)) h1]
  exact aregs_mono (acall_mono (Nat.le_max_right n m)) l h3
theorem wTr_sound:∀(l:List AOper) {T:Tr AVal} {H:AHeap} {K:List (AVal×AHeap)→Env→AHeap→Prop},wTr (ACalls P N) l (en T) H K→∀j,
  ∃n ss,atrace (tbA N (tabP P N)) (acall N (tabP P N) n) l T H=some ss∧K ss (en (tsel (fun _=>true) j l ss T)) (hAt H ss l.length)
 | [],T,H,K,h,j=>⟨0,[],rfl,h⟩
 | o::l,T,H,K,h,j=>by
  simp only[wTr,sG_en]at h
  have:∃n v H',astep (tbA N (tabP P N)) (acall N (tabP P N) n) o T H=some (v,H')∧wTr (ACalls P N) l (upO (en T) o.dst v) H' fun ss=>K ((v,H')::ss):=by
   cases hg:gOK T o.guard with
   | true=>rw[hg]at h; exact wStep_sound h hg
   | false=>rw[hg]at h; exact⟨0,undefA,H,by simp only[astep,hg,cond_false],h⟩
  obtain⟨n,v,H',h1,h2⟩:=this
  rw[← en_put]at h2
  obtain⟨m,ss,h3,h4⟩:=wTr_sound l h2 (j+1)
  refine⟨max n m,(v,H')::ss,?_,?_⟩
  ·simp only[atrace,astep_mono (acall_mono (Nat.le_max_left n m)) h1,atrace_mono (acall_mono (Nat.le_max_right n m)) l h3]
  ·have hl:=(trace_at l _ H' ss 0 h3).1
   have e:hAt H' ss l.length=hAt H ((v,H')::ss) (o::l).length:=by
    simp only[List.length_cons]
    cases hr:l.length with
    | zero=>rfl
    | succ q=>
     simp only[hAt,List.getElem?_cons_succ]
     rw[List.getElem?_eq_getElem om]
   rw[← e]
   exact h4
theorem wCk_sound{tb:FuncId→Bool}{hs:List AHeap}:∀(l:List AOper) (chk:List (List Nat)) (ss:List (AVal×AHeap)) (T:Tr AVal),wCk hs l chk ss (en T)→chkRun tb hs l chk ss T=true
 | [],_,_,_,_=>rfl
 | o::l,[],_,_,_=>rfl
 | o::l,p::ps,[],_,_=>rfl
 | o::l,p::ps,(v,Hv)::ss,T,h=>by
  simp only[wCk]at h
  obtain⟨h1,h2⟩:=h
  simp only[chkRun,Bool.and_eq_true]
  refine⟨List.all_eq_true.2 fun q hq=>?_,wCk_sound l ps ss _ (by rw[en_put]; exact h2)⟩
  obtain⟨Hp,e1,e2⟩:=h1 q hq
  rw[e1]
  simp only
  cases hg:gOK T o.guard with
  | false=>rfl
  | true=>
   obtain⟨u,u1,u2⟩:=e2 (by rw[sG_en]; exact hg)
   simp only[cond_true]
   cases ho:o.op <;> rw[ho]at u1 <;> simp only[wLd,reduceCtorEq,sX_en]at u1
   ·simp only[aop,u1,vv]; exact u2
   ·simp only[aop,u1,vv]; exact u2
theorem inSeq_sound{Q:Post}{K:Env→AHeap→Prop}{e:AEx}{T:Env}{H:AHeap}(h:inSeq Q K e T H):(e=.normal∧K T H)∨(e≠.normal∧Q e T H):=by
 cases e with
 | normal=>exact .inl ⟨rfl,h⟩
 | exit i=>exact .inr ⟨by simp,h⟩
 | ret=>exact .inr ⟨by simp,h⟩
theorem wp_sound:∀(c:ACode) (Q:Post) (T:Tr AVal) (H:AHeap),wp (ACalls P N) c Q (en T) H →
  ∃n e T' H',aexec (tbA N (tabP P N)) (acall N (tabP P N) n) n c T H=some (e,T',H')∧Q e (en T') H':=by
 intro c
 induction c with
 | skip=>intro Q T H h; exact⟨0,_,_,_,rfl,h⟩
 | reg l=>
  intro Q T H h
  obtain⟨n,T',H',h1,h2⟩:=wRegs_sound l h
  exact⟨n,.normal,T',H',by simp only[aexec,h1],h2⟩
 | draw l chk=>
  intro Q T H h
  simp only[wp,wDraw]at h
  obtain⟨n,ss,h1,h2,h3⟩:=wTr_sound (claims H.next l) h 0
  exact⟨n,.normal,_,_,by simp only[aexec,adraw,h1,wCk_sound (claims H.next l) chk ss T h2,cond_true],h3⟩
 | seq a b iha ihb=>
  intro Q T H h
  obtain⟨n,e,T1,H1,h1,h2⟩:=iha _ T H h
  rcases inSeq_sound h2 with⟨rfl,h2⟩ | ⟨hne,h2⟩
  ·obtain⟨m,e2,T2,H2,h3,h4⟩:=ihb _ T1 H1 h2
   refine⟨max n m,e2,T2,H2,?_,h4⟩
   simp only[aexec,aexec_mono (acall_mono (Nat.le_max_left n m)) (Nat.le_max_left n m) a _ _ _ h1]
   exact aexec_mono (acall_mono (Nat.le_max_right n m)) (Nat.le_max_right n m) b _ _ _ h3
  ·refine⟨n,e,T1,H1,?_,h2⟩
   cases e with
   | normal=>exact absurd rfl hne
   | exit i=>simp only[aexec,h1]
   | ret=>simp only[aexec,h1]
 | cond c a b iha ihb=>
  intro Q T H h
  simp only[wp,sX_en]at h
  obtain⟨v,hv,h⟩:=h
  cases v with
  | true=>
   obtain⟨n,e,T1,H1,h1,h2⟩:=iha _ T H h
   exact⟨n,e,T1,H1,by simp only[aexec,hv,h1],h2⟩
  | false=>
   obtain⟨n,e,T1,H1,h1,h2⟩:=ihb _ T H h
   exact⟨n,e,T1,H1,by simp only[aexec,hv,h1],h2⟩
 | block id c ih=>
  intro Q T H h
  obtain⟨n,e,T1,H1,h1,h2⟩:=ih _ T H h
  cases e with
  | exit j=>
   simp only[inBlk]at h2
   cases hb:Nat.beq j id with
   | true=>rw[hb]at h2; exact⟨n,.normal,T1,H1,by simp only[aexec,h1,hb,cond_true],h2⟩
   | false=>rw[hb]at h2; exact⟨n,.exit j,T1,H1,by simp only[aexec,h1,hb,cond_false],h2⟩
  | normal=>exact⟨n,.normal,T1,H1,by simp only[aexec,h1],h2⟩
  | ret=>exact⟨n,.ret,T1,H1,by simp only[aexec,h1],h2⟩
 | loop c ih=>
  intro Q T H h
  simp only[wp]at h
  obtain⟨I,⟨m,hm⟩,hI⟩:=h
  have key:∀(m:Nat) (T:Tr AVal) (H:AHeap),I m (en T) H→∃n e T' H',aexec (tbA N (tabP P N)) (acall N (tabP P N) n) n (.loop c) T H=some (e,T',H')∧Q e (en T') H':=by
   intro m
   induction m using Nat.strongRecOn with
   | ind m ihm=>
    intro T H hi
    obtain⟨n,e,T1,H1,h1,h2⟩:=ih _ T H (hI m _ _ hi)
    rcases inSeq_sound h2 with⟨rfl,m',hm',h2⟩ | ⟨hne,h2⟩
    ·obtain⟨k,e2,T2,H2,h3,h4⟩:=ihm m' hm' T1 H1 h2
     refine⟨max n k+1,e2,T2,H2,?_,h4⟩
     simp only[aexec,aloop]
     rw[aexec_mono (acall_mono (show n≤max n k+1 by omega)) (show n≤max n k+1 by omega) c _ _ _ h1]
     simp only[aexec]at h3
     exact aloop_mono (fun T H r hr=>aexec_mono (acall_mono (show k≤max n k+1 by omega)) (show k≤max n k+1 by omega) c T H r hr) k (max n k) T1 H1 _ (Nat.le_max_right n k) h3
    ·refine⟨n+1,e,T1,H1,?_,h2⟩
     simp only[aexec,aloop]
     rw[aexec_mono (acall_mono (Nat.le_succ n)) (Nat.le_succ n) c _ _ _ h1]
     cases e with
     | normal=>exact absurd rfl hne
     | exit i=>rfl
     | ret=>rfl
  exact key m T H hm
 | exit id=>intro Q T H h; exact⟨0,_,_,_,rfl,h⟩
 | ret=>intro Q T H h; exact⟨0,_,_,_,rfl,h⟩
def argE(args:List AVal):Env:=fun i=>match args[i]? with
 | some v=>v
 | none=>undefA
theorem putArgs_en:∀(args:List AVal) (i:Nat) (T:Tr AVal),en (putArgs args i T)=fun j=>if i≤j then (match args[j-i]? with | some v=>v | none=>en T j) else en T j
 | [],i,T=>by funext j; simp[putArgs]
 | x::r,i,T=>by
  rw[putArgs,putArgs_en r (i+1),en_set]
  funext j
  by_cases h:i+1≤j
  ·rw[if_pos h,if_pos om,show j-i=(j-(i+1))+1 by omega]
   simp only[List.getElem?_cons_succ]
   split
   ·rfl
   ·have hb:Nat.beq j i=false:=by rw[beq_dec]; exact decide_eq_false om
    simp only[up,hb,cond_false]
  ·rw[if_neg h]
   by_cases e:i=j
   ·subst e
    simp[up]
   ·rw[if_neg om]
    have hb:Nat.beq j i=false:=by rw[beq_dec]; exact decide_eq_false om
    simp only[up,hb,cond_false]
theorem putArgs_e(args:List AVal):en (putArgs args 0 .e)=argE args:=by
 rw[putArgs_en]
 funext j
 simp only[Nat.zero_le,if_true,Nat.sub_zero,argE]
 split
 ·rfl
 ·rfl
def wRes(T:Env)(H:AHeap):List ARes→Option (List AVal)
 | []=>some []
 | .t i::r=>match wRes T H r with
  | some l=>some (T i::l)
  | none=>none
 | .cell g n i::r=>match oLoad g n H (T i),wRes T H r with
  | some x,some l=>some (x::l)
  | _,_=>none
theorem wRes_en(T:Tr AVal)(H:AHeap):∀l:List ARes,wRes (en T) H l=ares T H l
 | []=>rfl
 | .t i::r=>by simp only[wRes,ares,wRes_en T H r]; rfl
 | .cell g n i::r=>by simp only[wRes,ares,wRes_en T H r]; rfl
def fin(res:List ARes)(K:AVal→AHeap→Prop):Post:=fun e T H=>match e with
 | .exit _=>False
 | _=>OptP (wRes T H res) fun l=>K (aresV l) H
theorem acalls_of{f:FuncId}{c:AFn}{args:List AVal}{H:AHeap}{K:AVal→AHeap→Prop}(hn:N.is f=false)(hc:eFn P (N.md (f % BIG)) f=some c)(hl:Nat.ble args.length c.nt=true)(h:wp (ACalls P N) c.body (fin c.res K) (argE args) H):ACalls P N f args H K:=by
 rw[← putArgs_e]at h
 obtain⟨n,e,T',H',h1,h2⟩:=wp_sound _ _ _ _ h
 have:∃l,ares T' H' c.res=some l∧K (aresV l) H'∧∀i,e≠.exit i:=by
  cases e with
  | exit i=>exact h2.elim
  | normal=>obtain⟨l,q1,q2⟩:=h2; rw[wRes_en]at q1; exact⟨l,q1,q2,fun i=>by simp⟩
  | ret=>obtain⟨l,q1,q2⟩:=h2; rw[wRes_en]at q1; exact⟨l,q1,q2,fun i=>by simp⟩
 obtain⟨l,q1,q2,q3⟩:=this
 refine⟨n+1,aresV l,H',?_,q2⟩
 rw[acall,hn,tabP_get hc]
 simp only[cond_false,hl,cond_true,h1]
 cases e with
 | exit i=>exact absurd rfl (q3 i)
 | normal=>simp only[q1]
 | ret=>simp only[q1]
theorem acalls_nat{f:FuncId}{args:List AVal}{H H':AHeap}{v:AVal}{K:AVal→AHeap→Prop}(hn:N.is f=true)(hr:N.run f args H=some (v,H'))(hk:K v H'):ACalls P N f args H K:=
 ⟨1,v,H',by rw[acall,hn]; exact hr,hk⟩
theorem ACalls.calls(hfol:P.follows .mixedOrders=true)(hN:NatOK P N){f:FuncId}{args:List AVal}{H:AHeap}{K:AVal→AHeap→Prop}(h:ACalls P N f args H K)
  {Prot:Gh} {w0 w:World} {ρ:Pl} {vs:Array Value} (R:Rel Prot w0 ρ H w) (hv:VRels ρ args vs.toList) (hfb:Nat.blt f BIG=true:=by rfl) :
  Calls P f vs w fun e w'=>∃ρ' v H' u,ρ.le ρ'∧e=.returned u∧K v H'∧Rel Prot w0 ρ' H' w'∧VRel ρ' v u:=by
 obtain⟨n,v,H',h1,h2⟩:=h
 refine (acall_ok hfol hN (tabP_ok P N) n _ _ _ _ _ hfb h1 _ _ _ _ _ R hv).mono fun e w' hx=>?_
 obtain⟨ρ',u,q1,rfl,q2,q3⟩:=hx
 exact⟨ρ',v,H',u,q1,rfl,h2,q2,q3⟩
end
end Go.Abs.S
namespace Go.Abs.S
open Go.Abs
theorem junks{ρ:Pl}{p:Value→Prop}(h:∀v,p v→∃x,∀ρ,VRel ρ x v):∀(vs:List Value),(∀v∈vs,p v)→∃l,∀ρ,VRels ρ l vs
 | [],_=>⟨[],fun ρ=>by simp[VRels]⟩
 | v::vs,hv=>by
  obtain⟨x,hx⟩:=h v (hv v (by simp))
  obtain⟨l,hl⟩:=junks (ρ:=ρ) h vs fun u hu=>hv u (by simp[hu])
  exact⟨x::l,fun ρ=>by simp only[VRels]; exact⟨v,vs,rfl,hx ρ,hl ρ⟩⟩
theorem junk:∀(n:Nat) (v:Value),SizeOf.sizeOf v≤n→∃x,∀ρ,VRel ρ x v:=by
 intro n
 induction n with
 | zero=>intro v h; cases v <;> simp at h
 | succ n ih=>
  intro v h
  cases v
  case bool b=>exact⟨.bool b,fun ρ=>by simp[VRel]⟩
  case agg vs=>
   obtain⟨l,hl⟩:=junks (ρ:=fun _ _=>none) (p:=fun v=>SizeOf.sizeOf v≤n) ih vs.toList fun v hv=>by
    have:=Array.sizeOf_lt_of_mem (Array.mem_toList_iff.1 hv)
    simp at h; omega
   exact⟨.agg l,fun ρ=>by simp only[VRel]; exact⟨vs,rfl,hl ρ⟩⟩
  case tuple vs=>
   obtain⟨l,hl⟩:=junks (ρ:=fun _ _=>none) (p:=fun v=>SizeOf.sizeOf v≤n) ih vs.toList fun v hv=>by
    have:=Array.sizeOf_lt_of_mem (Array.mem_toList_iff.1 hv)
    simp at h; omega
   exact⟨.tuple l,fun ρ=>by simp only[VRel]; exact⟨vs,rfl,hl ρ⟩⟩
  all_goals exact⟨.val _,fun ρ=>by simp only[VRel]; exact⟨rfl,rfl⟩⟩
noncomputable def junkOf(v:Value):AVal:=Classical.choose (junk (SizeOf.sizeOf v) v rL)
theorem junkOf_rel(v:Value)(ρ:Pl):VRel ρ (junkOf v) v:=Classical.choose_spec (junk (SizeOf.sizeOf v) v rL) ρ
def rowOf(w:World)(c:Nat):Option Nat:=match w.heap[c]? with
 | some (.cells C _ _)=>some C.size
 | _=>none
noncomputable def absW(w:World):Value→AVal
 | .bool b=>.bool b
 | .int k n=>.int k n
 | .string s=>.str s.data.toList
 | .pointer none=>.ptr none
 | .pointer (some ⟨c,off,none⟩)=>match rowOf w c with
  | some n=>.ptr (some ⟨c,n,off⟩)
  | none=>junkOf (.pointer (some ⟨c,off,none⟩))
 | .slice none 0 0=>.slice none 0 (.known 0)
 | .slice (some ⟨c,off,none⟩) len cap=>if len≤cap then (match rowOf w c with
  | some n=>if off≤n then .slice (some ⟨c,n,off⟩) len (.known cap) else .val (.slice (some ⟨c,off,none⟩) len cap)
  | none=>.val (.slice (some ⟨c,off,none⟩) len cap)) else .val (.slice (some ⟨c,off,none⟩) len cap)
 | .slice (some ⟨c,off,some q⟩) len cap=>.val (.slice (some ⟨c,off,some q⟩) len cap)
 | .map none=>.map none
 | .nilFunc=>.nilFunc
 | .nilIface=>.nilIface
 | v=>junkOf v
def plW(w:World):Pl:=fun b l=>match rowOf w b with
 | some n=>if l=n then some ⟨b,0,n,false⟩ else none
 | none=>none
theorem plW_some{w:World}{b n:Nat}(h:rowOf w b=some n):plW w b n=some ⟨b,0,n,false⟩:=by simp[plW,h]
theorem strOf_data(s:ByteArray):strOf s.data.toList=s:=by cases s; simp[strOf]
theorem absW_rel(w:World)(v:Value):VRel (plW w) (absW w v) v:=by
 unfold absW
 split
 ·simp[VRel]
 ·simp[VRel]
 ·simp[VRel,strOf_data]
 ·simp[VRel]
 ·split
  ·rename_i n hn
   simp only[VRel]
   exact⟨_,plW_some hn,Nat.zero_le _,by simp⟩
  ·exact junkOf_rel _ _
 ·simp[VRel]
 ·split
  ·rename_i hl
   split
   ·rename_i n hn
    split
    ·simp only[VRel]
     exact⟨_,plW_some hn,Nat.zero_le _,by simp only[SliceRel]; exact⟨hl,by simp⟩⟩
    ·simp only[VRel]; exact⟨trivial,rfl⟩
   ·simp only[VRel]; exact⟨trivial,rfl⟩
  ·simp only[VRel]; exact⟨trivial,rfl⟩
 ·simp only[VRel]; exact⟨trivial,rfl⟩
 ·simp[VRel]
 ·simp[VRel]
 ·simp[VRel]
 ·exact junkOf_rel _ _
noncomputable def objW(w:World)(c:Nat):Option AObj:=match w.heap[c]? with
 | some (.cells C _ _)=>some (.cells (C.toList.map (absW w)) 0 true)
 | _=>none
noncomputable def trW(w:World):Nat→Tr AObj
 | 0=>.e
 | n+1=>match objW w n with
  | some o=>(trW w n).set n o
  | none=>trW w n
theorem trW_get(w:World):∀(n b:Nat),(trW w n).get b=if b<n then objW w b else none
 | 0,b=>by rw[if_neg om]; cases b <;> rfl
 | n+1,b=>by
  simp only[trW]
  cases hc:objW w n with
  | none=>
   simp only[trW_get w n b]
   by_cases h:b<n
   ·rw[if_pos h,if_pos om]
   ·by_cases e:b=n
    ·subst e; rw[if_neg h,if_pos om,hc]
    ·rw[if_neg h,if_neg om]
  | some c=>
   simp only[Tr.get_set,trW_get w n b]
   by_cases e:b=n
   ·subst e; rw[if_pos rfl,if_pos om,hc]
   ·rw[if_neg e]
    by_cases h:b<n
    ·rw[if_pos h,if_pos om]
    ·rw[if_neg h,if_neg om]
noncomputable def heapW(w:World):AHeap:=⟨w.heap.size,trW w w.heap.size⟩
theorem heapW_get(w:World)(b:Nat):(heapW w).get b=objW w b:=by
 show (trW w w.heap.size).get b=_
 rw[trW_get]
 by_cases h:b<w.heap.size
 ·rw[if_pos h]
 ·rw[if_neg h]
  unfold objW
  rw[Array.getElem?_eq_none om]
theorem objW_some{w:World}{c n:Nat}(h:rowOf w c=some n):∃C e fz,w.heap[c]?=some (.cells C e fz)∧C.size=n∧objW w c=some (.cells (C.toList.map (absW w)) 0 true):=by
 unfold rowOf at h
 unfold objW
 split at h
 ·rename_i C e fz hC
  simp only[sJ]at h
  exact⟨C,e,fz,hC,h,rfl⟩
 ·simp at h
theorem plW_inv{w:World}{b l:Nat}{L:Loc}(h:plW w b l=some L):rowOf w b=some l∧L=⟨b,0,l,false⟩:=by
 unfold plW at h
 split at h
 ·rename_i n hn
  split at h
  ·rename_i e; subst e; simp only[sJ]at h; exact⟨hn,h.symm⟩
  ·simp at h
 ·simp at h
theorem objW_ro{w:World}{b:Nat}{x:AObj}(h:objW w b=some x):x.rw=false:=by
 unfold objW at h
 split at h
 ·simp only[sJ]at h; subst h; rfl
 ·simp at h
theorem rel_world(w:World):Rel ⟨fun c=>c<w.heap.size,fun _=>False⟩ w (plW w) (heapW w) w:=by
 refine⟨rfl,rfl,rfl,Nat.le_refl _,fun _ hc=>⟨hc,rfl⟩,fun b l L h=>?_,fun b l L h=>?_,fun b l L x h hx hr=>?_,fun b l L b' l' L' x h h' he hx hr=>?_,fun _ h=>h.elim,fun b l low h=>?_⟩
 ·obtain⟨h1,rfl⟩:=plW_inv h
  obtain⟨C,e,fz,h2,_,_⟩:=objW_some h1
  have:=(Array.getElem?_eq_some_iff.1 h2).1
  exact⟨this,this⟩
 ·obtain⟨h1,rfl⟩:=plW_inv h
  obtain⟨C,e,fz,h2,h3,h4⟩:=objW_some h1
  obtain⟨lo,hi⟩:=fz
  refine⟨_,_,by rw[heapW_get,h4],h2,?_⟩
  simp only[ORel]
  refine⟨C,e,lo,hi,rfl,h3,fun h=>by simp at h,by simp; omega,fun _ i _ hi=>?_⟩
  have hlt:i<C.size:=om
  refine⟨absW w C[i],C[i],?_,by simp[hlt],absW_rel w _⟩
  simp[hlt]
 ·rw[heapW_get]at hx
  rw[objW_ro hx]at hr
  simp at hr
 ·rw[heapW_get]at hx
  rw[objW_ro hx]at hr
  simp at hr
 ·rw[heapW_get]at h
  have hr:rowOf w b=some l.length:=by
   unfold objW at h
   unfold rowOf
   split at h
   ·rename_i C e fz hC
    simp only[sJ,AObj.cells.injEq]at h
    simp[← h.1]
   ·simp at h
  exact⟨_,plW_some hr,rfl,rfl,rfl⟩
end Go.Abs.S
namespace Go.Abs.S
open Go.Abs
theorem up_same(T:Env)(i:Nat)(v:AVal):up T i v i=v:=by simp[up]
theorem up_ne(T:Env)(i j:Nat)(v:AVal)(h:j≠i):up T i v j=T j:=by
 have:Nat.beq j i=false:=by rw[beq_dec]; exact decide_eq_false h
 simp[up,this]
structure Ext(n:Nat)(H H':AHeap):Prop where
 next:H.next≤H'.next
 old:∀b,b<n→H'.get b=H.get b
theorem Ext.refl(n:Nat)(H:AHeap):Ext n H H:=⟨Nat.le_refl _,fun _ _=>rfl⟩
theorem Ext.trans{n:Nat}{H H' H'':AHeap}(h:Ext n H H')(k:Ext n H' H''):Ext n H H'':=⟨Nat.le_trans h.next k.next,fun b hb=>(k.old b hb).trans (h.old b hb)⟩
theorem Ext.less{n m:Nat}{H H':AHeap}(h:Ext n H H')(hm:m≤n):Ext m H H':=⟨h.next,fun b hb=>h.old b om⟩
theorem Ext.push{n:Nat}{H H':AHeap}(h:Ext n H H')(hn:n≤H'.next)(o:AObj):Ext n H (H'.push o):=
 ⟨Nat.le_trans h.next (by simp[AHeap.push]),fun b hb=>by rw[AHeap.get_push,if_neg om,h.old b hb]⟩
theorem Ext.set{n:Nat}{H H':AHeap}(h:Ext n H H'){b:Nat}(hn:n≤b)(o:AObj):Ext n H (H'.set b o):=
 ⟨h.next,fun c hc=>by rw[AHeap.get_set,if_neg om,h.old c hc]⟩
theorem push_next(H:AHeap)(o:AObj):(H.push o).next=H.next+1:=rfl
theorem set_next(H:AHeap)(b:Nat)(o:AObj):(H.set b o).next=H.next:=rfl
def nilS:AVal:=.slice none 0 (.known 0)
def cellP(s:AVal)(i:Nat):AVal:=match s with
 | .slice (some a) _ _=>.ptr (some ⟨a.b,a.lim,a.o+i*1⟩)
 | _=>undefA
def isE:AVal→Bool
 | .slice none 0 (.known 0)=>true
 | .val (.slice (some _) 0 0)=>true
 | _=>false
theorem isE_cases{s:AVal}(h:isE s=true):s=nilS∨∃a,s=.val (.slice (some a) 0 0):=by
 unfold isE at h
 split at h
 ·exact .inl rfl
 ·exact .inr ⟨_,rfl⟩
 ·simp at h
theorem isE_nil{s:AVal}(h:s=nilS):isE s=true:=by subst h; rfl
def Cel(n:Nat)(H:AHeap)(s:AVal)(l:List AVal):Prop:=
 (isE s=true∧l=[])∨∃a r,s=.slice (some a) l.length r∧a.b<n∧rdCells H a l.length=some l
theorem rd_congr{H H':AHeap}{a:Ad}(h:H'.get a.b=H.get a.b)(n:Nat):rdCells H' a n=rdCells H a n:=by
 unfold rdCells; rw[h]
theorem Cel.len{n:Nat}{H:AHeap}{s:AVal}{l:List AVal}(h:Cel n H s l):aLenK false s=some (.int .i64 l.length):=by
 rcases h with⟨h,rfl⟩ | ⟨a,r,rfl,_⟩
 ·rcases isE_cases h with rfl | ⟨a,rfl⟩ <;> rfl
 ·rfl
theorem rd_at{H:AHeap}{a:Ad}{n i:Nat}{xs:List AVal}(h:rdCells H a n=some xs)(hi:i<n):∃x,xs[i]?=some x∧rdCells H ⟨a.b,a.lim,a.o+i⟩ 1=some [x]:=by
 obtain⟨l,low,ro,h1,h2,h3,h4,rfl⟩:=rd_spec h
 have hlt:a.o+i<l.length:=om
 refine⟨l[a.o+i],?_,?_⟩
 ·rw[List.getElem?_take_of_lt hi,List.getElem?_drop,List.getElem?_eq_getElem hlt]
 ·unfold rdCells
  simp only[h1,Nat.ble_eq_true_of_le h2,Nat.ble_eq_true_of_le h3,Nat.ble_eq_true_of_le (show a.o+i+1≤a.lim by omega),Bool.and_self,cond_true]
  rw[List.drop_eq_getElem_cons hlt]
  rfl
theorem Cel.idx{n:Nat}{H:AHeap}{s:AVal}{l:List AVal}(h:Cel n H s l)(k:IntKind){i:Nat}(hi:i<l.length):aIdxA 1 s (.int k (i:Int))=some (cellP s i):=by
 rcases h with⟨_,rfl⟩ | ⟨a,r,rfl,_⟩
 ·simp at hi
 ·show (bif Nat.blt i l.length then _ else none)=_
  have:Nat.blt i l.length=true:=by simpa[Nat.blt_eq] using hi
  rw[this]; rfl
theorem Cel.load{n:Nat}{H:AHeap}{s:AVal}{l:List AVal}(h:Cel n H s l){i:Nat}{x:AVal}(hi:l[i]?=some x):oLoad false 1 H (cellP s i)=some x:=by
 have hlt:=(List.getElem?_eq_some_iff.1 hi).1
 rcases h with⟨_,rfl⟩ | ⟨a,r,rfl,_,h3⟩
 ·simp at hi
 ·obtain⟨y,h4,h5⟩:=rd_at h3 hlt
  rw[hi]at h4
  simp only[sJ]at h4
  subst h4
  simp only[oLoad,cellP,Nat.mul_one,h5,cond_false]
def App(n:Nat)(H:AHeap)(s:AVal)(l:List AVal):Prop:=
 (s=nilS∧l=[])∨∃b low,s=.slice (some ⟨b,l.length,0⟩) l.length (.open_ 1)∧n≤b∧b<H.next∧H.get b=some (.cells l low false)∧low≤l.length
theorem App.nil(n:Nat)(H:AHeap):App n H nilS []:=.inl ⟨rfl,rfl⟩
theorem rd_whole{H:AHeap}{b low:Nat}{l:List AVal}{ro:Bool}(h:H.get b=some (.cells l low ro))(hl:low≤l.length):rdCells H ⟨b,l.length,0⟩ l.length=some l:=by
 unfold rdCells
 simp only[h,Nat.ble_eq_true_of_le hl,Nat.ble_eq_true_of_le rL,Nat.zero_add,Bool.and_self,cond_true,List.drop_zero,List.take_length]
theorem App.cel{n:Nat}{H:AHeap}{s:AVal}{l:List AVal}(h:App n H s l):Cel H.next H s l:=by
 rcases h with h | ⟨b,low,h1,h2,h3,h4,h5⟩
 ·exact .inl ⟨isE_nil h.1,h.2⟩
 ·exact .inr ⟨_,_,h1,h3,rd_whole h4 h5⟩
theorem cells_one{x:AVal}(h:x.one=true):x.cells=[x]:=by cases x <;> first | rfl | (simp[AVal.one]at h)
def oneS(H:AHeap):AVal:=.slice (some ⟨H.next,1,0⟩) 1 (.known 1)
theorem build1(z:AVal)(H:AHeap){x:AVal}(h:x.one=true):aBuildSl 1 [z] H [(0,1,x)]=some (oneS H,H.push (.cells [x] 0 false)):=by
 simp only[aBuildSl,rep,List.append_nil,aFill,cells_one h]
 rfl
theorem src1(H:AHeap)(x:AVal):aSrc 1 (H.push (.cells [x] 0 false)) (oneS H)=some (1,[x]):=by
 have:=rd_whole (H:=H.push (.cells [x] 0 false)) (b:=H.next) (l:=[x]) (low:=0) (ro:=false) (by rw[AHeap.get_push,if_pos rfl]) (by simp)
 simp only[List.length_cons,List.length_nil,Nat.zero_add]at this
 simp only[aSrc,oneS,Nat.mul_one,this]
theorem App.push{n:Nat}{H:AHeap}{s:AVal}{l:List AVal}(h:App n H s l)(hn:n≤H.next){x:AVal}(hx:x.one=true){bytes:Nat}(hb:2*(l.length+1)*bytes≤281474976710656)(hb1:0<bytes) :
  ∃s' H',aAppend 1 bytes (H.push (.cells [x] 0 false)) s (oneS H)=some (s',H')∧App n H' s' (l++[x])∧Ext n H H':=by
 have hlen:l.length+1≤9223372036854775807:=by
  have:2*(l.length+1)≤2*(l.length+1)*bytes:=Nat.le_mul_of_pos_right _ hb1
  omega
 have c1:∀k,k=l.length→(Nat.blt 0 1&&(Nat.ble ((2*(k+1)+0)*bytes) 281474976710656&&(Nat.ble (k+1) 9223372036854775807&&(Nat.beq [x].length (1*1)&&[x].all AVal.one))))=true:=by
  intro k hk
  subst hk
  simp only[Nat.add_zero,Nat.ble_eq_true_of_le hb,Nat.ble_eq_true_of_le hlen,List.all_cons,List.all_nil,hx]
  rfl
 rcases h with⟨rfl,rfl⟩ | ⟨b,low,rfl,h2,h3,h4,h5⟩
 ·refine⟨.slice (some ⟨H.next+1,1,0⟩) 1 (.open_ 1),(H.push (.cells [x] 0 false)).push (.cells [x] 0 false),?_,.inr ⟨H.next+1,0,rfl,om,Nat.lt_succ_self _,?_,Nat.zero_le _⟩,((Ext.refl n H).push hn _).push (by rw[push_next]; omega) _⟩
  ·simp only[aAppend,src1,nilS]
   rw[show Nat.beq 1 0=false from rfl,cond_false,c1 0 rfl,cond_true]
   rfl
  ·rw[AHeap.get_push]; exact if_pos rfl
 ·have hg:(H.push (.cells [x] 0 false)).get b=some (.cells l low false):=by rw[AHeap.get_push,if_neg om]; exact h4
  have hgrow:growCells (H.push (.cells [x] 0 false)) ⟨b,l.length,0⟩ l.length [x]=some ((H.push (.cells [x] 0 false)).set b (.cells (l++[x]) low false)):=by
   unfold growCells
   simp only[hg,Nat.ble_eq_true_of_le h5,Nat.ble_eq_true_of_le rL,Nat.ble_eq_true_of_le (Nat.zero_le _),Nat.beq_refl,List.length_cons,List.length_nil,Nat.zero_add,List.all_cons,List.all_nil,hx,Bool.and_self,cond_true,List.take_length]
  refine⟨.slice (some ⟨b,l.length+1,0⟩) (l.length+1) (.open_ 1),(H.push (.cells [x] 0 false)).set b (.cells (l++[x]) low false),?_,.inr ⟨b,low,by simp,h2,by rw[set_next,push_next]; omega,by rw[AHeap.get_set,if_pos rfl],by simp; omega⟩,((Ext.refl n H).push hn _).set h2 _⟩
  simp only[aAppend,src1]
  rw[show Nat.beq 1 0=false from rfl,cond_false,c1 l.length rfl,cond_true]
  have e1:Nat.ble (l.length+1) l.length=false:=by
   rw[ble_dec]; exact decide_eq_false om
  simp only[Nat.beq_refl,cond_true,Nat.zero_add,Nat.mul_one,e1,cond_false,hgrow,List.length_cons,List.length_nil]
theorem wr_whole{H:AHeap}{b low i:Nat}{l:List AVal}(h:H.get b=some (.cells l low false))(hl:low≤l.length)(hi:i<l.length){x:AVal}(hx:x.one=true) :
  oStore 1 H (.ptr (some ⟨b,l.length,i⟩)) x=some (H.set b (.cells (l.set i x) l.length false)):=by
 simp only[oStore,cells_one hx,List.length_cons,List.length_nil,Nat.zero_add,Nat.beq_refl,cond_true]
 unfold wrCells
 simp only[h,Nat.ble_eq_true_of_le hl,Nat.beq_refl,List.length_cons,List.length_nil,Nat.zero_add,Nat.ble_eq_true_of_le (show i+1≤l.length by omega),List.all_cons,List.all_nil,hx,Bool.and_self,cond_true]
 congr 3
 rw[List.set_eq_take_append_cons_drop,if_pos hi]
 rfl
def slR(b n:Nat)(r:Room):AVal:=.slice (some ⟨b,n,0⟩) n r
def cellR(b n i:Nat):AVal:=.ptr (some ⟨b,n,i⟩)
def Row(H:AHeap)(b:Nat)(l:List AVal):Prop:=∃low,H.get b=some (.cells l low false)∧low≤l.length
theorem row_len(b n:Nat)(r:Room):aLenK false (slR b n r)=some (.int .i64 (n:Int)):=_root_.id rfl
theorem row_idx{b n:Nat}{r:Room}(k:IntKind){i:Nat}(h:i<n):aIdxA 1 (slR b n r) (.int k (i:Int))=some (cellR b n i):=by
 show (bif Nat.blt i n then some (AVal.ptr (some ⟨b,n,0+i*1⟩)) else none)=_
 have:Nat.blt i n=true:=by simpa[Nat.blt_eq] using h
 rw[this,Nat.zero_add,Nat.mul_one]; rfl
theorem row_load{H:AHeap}{b n:Nat}{l:List AVal}(h:Row H b l)(hn:l.length=n){i:Nat}{x:AVal}(hi:l[i]?=some x):oLoad false 1 H (cellR b n i)=some x:=by
 subst hn
 obtain⟨low,h1,h2⟩:=h
 have hlt:=(List.getElem?_eq_some_iff.1 hi).1
 obtain⟨y,h4,h5⟩:=rd_at (rd_whole h1 h2) hlt
 rw[hi]at h4
 simp only[sJ]at h4
 subst h4
 simp only[Nat.zero_add]at h5
 simp only[oLoad,cellR,h5,cond_false]
theorem row_store{H:AHeap}{b n:Nat}{l:List AVal}(h:Row H b l)(hn:l.length=n){i:Nat}(hi:i<n){x:AVal}(hx:x.one=true) :
  ∃H',oStore 1 H (cellR b n i) x=some H'∧Row H' b (l.set i x)∧H'.next=H.next∧∀c,c≠b→H'.get c=H.get c:=by
 subst hn
 obtain⟨low,h1,h2⟩:=h
 exact⟨_,wr_whole h1 h2 hi hx,⟨l.length,by rw[AHeap.get_set,if_pos rfl],by simp⟩,rfl,fun c hc=>by rw[AHeap.get_set,if_neg hc]⟩
theorem Row.same{H H':AHeap}{b:Nat}{l:List AVal}(h:Row H b l)(e:H'.get b=H.get b):Row H' b l:=by
 obtain⟨low,h1,h2⟩:=h; exact⟨low,e.trans h1,h2⟩
theorem row_push(H:AHeap)(l:List AVal):Row (H.push (.cells l 0 false)) H.next l:=⟨0,by rw[AHeap.get_push,if_pos rfl],Nat.zero_le _⟩
theorem get_push_lt{H:AHeap}{o:AObj}{c:Nat}(h:c<H.next):(H.push o).get c=H.get c:=by rw[AHeap.get_push,if_neg om]
theorem Row.cel{H:AHeap}{b n m:Nat}{l:List AVal}{r:Room}(h:Row H b l)(hn:l.length=n)(hb:b<m):Cel m H (slR b n r) l:=by
 subst hn
 obtain⟨low,h1,h2⟩:=h
 exact .inr ⟨_,_,rfl,hb,rd_whole h1 h2⟩
end Go.Abs.S
namespace Go.Abs.S
open Go.Abs
section
variable {C:CS} {Q:Post} {T:Env} {H:AHeap} {K:Env→AHeap→Prop} {r:List AOper} {d:Option Nat}
theorem aw_skip:wp C .skip Q T H=Q .normal T H:=_root_.id rfl
theorem aw_reg(ops:List AOper):wp C (.reg ops) Q T H=wRegs C ops T H (Q .normal):=_root_.id rfl
theorem aw_seq(a b:ACode):wp C (.seq a b) Q T H=wp C a (inSeq Q (wp C b Q)) T H:=_root_.id rfl
open Classical in
theorem aw_cond(c:Opd)(a b:ACode):wp C (.cond c a b) Q T H=if sX T c=.bool true then wp C a Q T H else if sX T c=.bool false then wp C b Q T H else False:=by
 simp only[wp]
 by_cases h:sX T c=.bool true
 ·rw[if_pos h,h]; simp
 ·rw[if_neg h]
  by_cases h':sX T c=.bool false
  ·rw[if_pos h',h']; simp
  ·rw[if_neg h']
   simp only[eq_iff_iff,iff_false,not_exists,not_and]
   intro v hv
   cases v
   ·exact absurd hv h'
   ·exact absurd hv h
theorem aw_block(id:Nat)(c:ACode):wp C (.block id c) Q T H=wp C c (inBlk id Q) T H:=_root_.id rfl
theorem aw_exit(id:Nat):wp C (.exit id) Q T H=Q (.exit id) T H:=_root_.id rfl
theorem aw_ret:wp C .ret Q T H=Q .ret T H:=_root_.id rfl
theorem inSeq_normal:inSeq Q K .normal T H=K T H:=_root_.id rfl
theorem inSeq_exit(i:Nat):inSeq Q K (.exit i) T H=Q (.exit i) T H:=_root_.id rfl
theorem inSeq_ret:inSeq Q K .ret T H=Q .ret T H:=_root_.id rfl
theorem inBlk_exit(id i:Nat):inBlk id Q (.exit i) T H=if i=id then Q .normal T H else Q (.exit i) T H:=by
 simp only[inBlk]
 by_cases h:i=id
 ·subst h; rw[if_pos rfl,Nat.beq_refl]; rfl
 ·rw[if_neg h,show Nat.beq i id=false by rw[beq_dec]; exact decide_eq_false h]; rfl
theorem inBlk_normal(id:Nat):inBlk id Q .normal T H=Q .normal T H:=_root_.id rfl
theorem inBlk_ret(id:Nat):inBlk id Q .ret T H=Q .ret T H:=_root_.id rfl
theorem aw_loop{c:ACode}(I:Nat→Env→AHeap→Prop)(m:Nat)(h0:I m T H)(h:∀m T H,I m T H→wp C c (inSeq Q fun T' H'=>∃m',m'<m∧I m' T' H') T H):wp C (.loop c) Q T H:=⟨I,⟨m,h0⟩,h⟩
def OptK(o:Option AVal)(C:CS)(r:List AOper)(T:Env)(d:Option Nat)(H:AHeap)(K:Env→AHeap→Prop):Prop:=OptP o fun v=>wRegs C r (upO T d v) H K
def OptH(o:Option (AVal×AHeap))(C:CS)(r:List AOper)(T:Env)(d:Option Nat)(K:Env→AHeap→Prop):Prop:=OptP o fun p=>wRegs C r (upO T d p.1) p.2 K
def OptS(o:Option AHeap)(C:CS)(r:List AOper)(T:Env)(d:Option Nat)(K:Env→AHeap→Prop):Prop:=OptP o fun H'=>wRegs C r (upO T d undefA) H' K
def kont(C:CS)(r:List AOper)(T:Env)(d:Option Nat)(K:Env→AHeap→Prop):AVal→AHeap→Prop:=fun v H'=>wRegs C r (upO T d v) H' K
theorem OptK_some(v:AVal):OptK (some v) C r T d H K=wRegs C r (upO T d v) H K:=OptP_some _ _
theorem OptH_some(v:AVal)(H':AHeap):OptH (some (v,H')) C r T d K=wRegs C r (upO T d v) H' K:=OptP_some _ _
theorem OptS_some(H':AHeap):OptS (some H') C r T d K=wRegs C r (upO T d undefA) H' K:=OptP_some _ _
theorem kont_app(v:AVal):kont C r T d K v H=wRegs C r (upO T d v) H K:=_root_.id rfl
theorem ar_nil:wRegs C [] T H K=K T H:=_root_.id rfl
open Classical in
theorem ar_guard(o:AOp)(t:Nat)(b:Bool)(ht:t<1000000):wRegs C (⟨d,o,some (t,b)⟩::r) T H K=if T t=.bool b then wRegs C (⟨d,o,none⟩::r) T H K else wRegs C r (upO T d undefA) H K:=by
 simp only[wRegs,sG_lt T ht]
 by_cases h:T t=.bool b
 ·rw[if_pos h,h]; cases b <;> rfl
 ·rw[if_neg h]
  have:sGv b (T t)=false:=by
   unfold sGv
   cases hv:T t <;> simp only[gVb]
   rename_i v
   rw[hv]at h
   cases b <;> cases v <;> simp at h ⊢
  rw[this]; rfl
theorem ar_mv(x:Opd):wRegs C (⟨d,.mv x,none⟩::r) T H K=wRegs C r (upO T d (sX T x)) H K:=_root_.id rfl
open Classical in
theorem ar_pick(c a b:Opd):wRegs C (⟨d,.pick c a b,none⟩::r) T H K=if sX T c=.bool true then wRegs C r (upO T d (sX T a)) H K else if sX T c=.bool false then wRegs C r (upO T d (sX T b)) H K else False:=by
 simp only[wRegs,sG,wOp,cond_true]
 by_cases h:sX T c=.bool true
 ·rw[if_pos h,h]; simp
 ·rw[if_neg h]
  by_cases h':sX T c=.bool false
  ·rw[if_pos h',h']; simp
  ·rw[if_neg h']
   simp only[eq_iff_iff,iff_false,not_exists,not_and]
   intro v hv
   cases v
   ·exact absurd hv h'
   ·exact absurd hv h
theorem ar_new(z:List AVal):wRegs C (⟨d,.new z,none⟩::r) T H K=wRegs C r (upO T d (oNew H z).1) (oNew H z).2 K:=_root_.id rfl
theorem ar_box(x:Opd):wRegs C (⟨d,.box x,none⟩::r) T H K=wRegs C r (upO T d (oNew H (sX T x).cells).1) (oNew H (sX T x).cells).2 K:=_root_.id rfl
theorem ar_build(z:List AVal)(ps:List (Nat×Nat×Opd)):wRegs C (⟨d,.build z ps,none⟩::r) T H K=OptK (aBuild z (sXP T ps)) C r T d H K:=_root_.id rfl
theorem ar_buildSl(n:Nat)(z:List AVal)(ps:List (Nat×Nat×Opd)):wRegs C (⟨d,.buildSl n z ps,none⟩::r) T H K=OptH (aBuildSl n z H (sXP T ps)) C r T d K:=_root_.id rfl
theorem ar_load(a:Bool)(n:Nat)(x:Opd):wRegs C (⟨d,.load a n x,none⟩::r) T H K=OptK (oLoad a n H (sX T x)) C r T d H K:=_root_.id rfl
theorem ar_store(n:Nat)(a x:Opd):wRegs C (⟨d,.store n a x,none⟩::r) T H K=OptS (oStore n H (sX T a) (sX T x)) C r T d K:=_root_.id rfl
theorem ar_nilChk(x:Opd):wRegs C (⟨d,.nilChk x,none⟩::r) T H K=OptK (aNilChk (sX T x)) C r T d H K:=_root_.id rfl
theorem ar_bin(op:BinOp)(x y:Opd):wRegs C (⟨d,.bin op x y,none⟩::r) T H K=OptK (aBin op (sX T x) (sX T y)) C r T d H K:=_root_.id rfl
theorem ar_un(op:UnOp)(x:Opd):wRegs C (⟨d,.un op x,none⟩::r) T H K=OptK (aUn op (sX T x)) C r T d H K:=_root_.id rfl
theorem ar_conv(k:IntKind)(x:Opd):wRegs C (⟨d,.conv k x,none⟩::r) T H K=OptK (aConv k (sX T x)) C r T d H K:=_root_.id rfl
theorem ar_convSB(x:Opd):wRegs C (⟨d,.convSB x,none⟩::r) T H K=OptH (aSB H (sX T x)) C r T d K:=_root_.id rfl
theorem ar_convBS(x:Opd):wRegs C (⟨d,.convBS x,none⟩::r) T H K=OptK (aBS H (sX T x)) C r T d H K:=_root_.id rfl
theorem ar_mkFunc(fn:Fn)(a b:List Opd):wRegs C (⟨d,.mkFunc fn a b,none⟩::r) T H K=wRegs C r (upO T d (.func fn (sXs T a) (sXs T b))) H K:=_root_.id rfl
theorem ar_mkIface(t:TypeId)(x:Opd):wRegs C (⟨d,.mkIface t x,none⟩::r) T H K=wRegs C r (upO T d (.iface t (sX T x))) H K:=_root_.id rfl
theorem ar_mkSlice(b:Nat)(z:List AVal)(l c:Opd):wRegs C (⟨d,.mkSlice b z l c,none⟩::r) T H K=OptH (aMake b z H (sX T l) (sX T c)) C r T d K:=_root_.id rfl
theorem ar_sl(n:Nat)(x:Opd)(lo hi mx:Option Opd):wRegs C (⟨d,.sl n x lo hi mx,none⟩::r) T H K=OptK (aSl n (sX T x) (sXO T lo) (sXO T hi) (sXO T mx)) C r T d H K:=_root_.id rfl
theorem ar_slStr(x:Opd)(lo hi:Option Opd):wRegs C (⟨d,.slStr x lo hi,none⟩::r) T H K=OptK (aSlStr (sX T x) (sXO T lo) (sXO T hi)) C r T d H K:=_root_.id rfl
theorem ar_fieldA(o:Nat)(x:Opd):wRegs C (⟨d,.fieldA o x,none⟩::r) T H K=OptK (aField o (sX T x)) C r T d H K:=_root_.id rfl
theorem ar_field(a:Bool)(n o:Nat)(x:Opd):wRegs C (⟨d,.field a n o x,none⟩::r) T H K=OptK (aFieldV a n o (sX T x)) C r T d H K:=_root_.id rfl
theorem ar_idxA(n:Nat)(x i:Opd):wRegs C (⟨d,.idxA n x i,none⟩::r) T H K=OptK (aIdxA n (sX T x) (sX T i)) C r T d H K:=_root_.id rfl
theorem ar_idxArr(m n:Nat)(x i:Opd):wRegs C (⟨d,.idxArr m n x i,none⟩::r) T H K=OptK (aIdxArr m n (sX T x) (sX T i)) C r T d H K:=_root_.id rfl
theorem ar_idx(m n:Nat)(a:Bool)(x i:Opd):wRegs C (⟨d,.idx m n a x i,none⟩::r) T H K=OptK (aIdx m n a (sX T x) (sX T i)) C r T d H K:=_root_.id rfl
theorem ar_idxS(x i:Opd):wRegs C (⟨d,.idxS x i,none⟩::r) T H K=OptK (aIdxS (sX T x) (sX T i)) C r T d H K:=_root_.id rfl
theorem ar_extract(i:Nat)(x:Opd):wRegs C (⟨d,.extract i x,none⟩::r) T H K=OptK (aExtract i (sX T x)) C r T d H K:=_root_.id rfl
theorem ar_append(n b:Nat)(s x:Opd):wRegs C (⟨d,.append n b s x,none⟩::r) T H K=OptH (aAppend n b H (sX T s) (sX T x)) C r T d K:=_root_.id rfl
theorem ar_len(s:Bool)(x:Opd):wRegs C (⟨d,.len s x,none⟩::r) T H K=OptK (aLenK s (sX T x)) C r T d H K:=_root_.id rfl
theorem ar_call(f:FuncId)(args:List Opd):wRegs C (⟨d,.call f args,none⟩::r) T H K=C f (sXs T args) H (kont C r T d K):=_root_.id rfl
def callvP(C:CS)(f:AVal)(args:List AVal)(H:AHeap)(K:AVal→AHeap→Prop):Prop:=∃g a b,f=.func (.func g) a b∧Nat.blt g BIG=true∧C g (a++args++b) H K
theorem callvP_func(g:Nat)(a b args:List AVal)(K:AVal→AHeap→Prop)(hg:g<1024):callvP C (.func (.func g) a b) args H K=C g (a++args++b) H K:=by
 simp only[callvP,AVal.func.injEq,Fn.func.injEq]
 apply propext
 constructor
 ·rintro ⟨g,a,b,⟨rfl,rfl,rfl⟩,_,h⟩; exact h
 ·intro h; exact⟨_,_,_,⟨rfl,rfl,rfl⟩,Nat.ble_eq_true_of_le hg,h⟩
theorem ar_callv(f:Opd)(args:List Opd):wRegs C (⟨d,.callv f args,none⟩::r) T H K=callvP C (sX T f) (sXs T args) H (kont C r T d K):=_root_.id rfl
theorem ar_pf(f:PF)(xs:List Opd):wRegs C (⟨d,.pf f xs,none⟩::r) T H K=OptK (aPf f (sXs T xs)) C r T d H K:=_root_.id rfl
theorem ar_hf(f:HF)(xs:List Opd):wRegs C (⟨d,.hf f xs,none⟩::r) T H K=OptH (aHf f H (sXs T xs)) C r T d K:=_root_.id rfl
theorem ar_slA(m n:Nat)(x:Opd)(lo hi mx:Option Opd):wRegs C (⟨d,.slA m n x lo hi mx,none⟩::r) T H K=OptK (aSlArr m n (sX T x) (sXO T lo) (sXO T hi) (sXO T mx)) C r T d H K:=_root_.id rfl
theorem upO_some(i:Nat)(v:AVal):upO T (some i) v=up T i v:=_root_.id rfl
theorem upO_none(v:AVal):upO T none v=T:=_root_.id rfl
theorem sX_t(i:Nat):sX T (.t i)=T i:=_root_.id rfl
theorem sX_c(v:AVal):sX T (.c v)=v:=_root_.id rfl
theorem sX_f(i:Nat):sX T (.f i)=.func (.func i) [] []:=_root_.id rfl
theorem fin_ret(res:List ARes)(K:AVal→AHeap→Prop):fin res K .ret T H=OptP (wRes T H res) fun l=>K (aresV l) H:=_root_.id rfl
theorem fin_t(i:Nat)(K:AVal→AHeap→Prop):fin [.t i] K .ret T H=K (T i) H:=by
 simp only[fin,wRes,OptP_some]; rfl
theorem fin_t2(i j:Nat)(K:AVal→AHeap→Prop):fin [.t i,.t j] K .ret T H=K (.tuple [T i,T j]) H:=by
 simp only[fin,wRes,OptP_some]; rfl
theorem fin_t3(i j k:Nat)(K:AVal→AHeap→Prop):fin [.t i,.t j,.t k] K .ret T H=K (.tuple [T i,T j,T k]) H:=by
 simp only[fin,wRes,OptP_some]; rfl
def CMono(C:CS):Prop:=∀f a H (K K':AVal→AHeap→Prop),(∀v H,K v H→K' v H)→C f a H K→C f a H K'
theorem calls_mono(P:Program)(N:ANat):CMono (ACalls P N):=fun _ _ _ _ _ h hc=>hc.mono h
theorem wOp_mono(hC:CMono C){K K':AVal→AHeap→Prop}(h:∀v H,K v H→K' v H){o:AOp}(hw:wOp C T H K o):wOp C T H K' o:=by
 cases o
 case call f args=>exact hC _ _ _ _ _ h hw
 case callv f args=>obtain⟨g,a,b,h1,h0,h2⟩:=hw; exact⟨g,a,b,h1,h0,hC _ _ _ _ _ h h2⟩
 case pick c a b=>obtain⟨v,h1,h2⟩:=hw; exact⟨v,h1,h _ _ h2⟩
 case bad=>exact hw
 all_goals first
  | exact h _ _ hw
  | exact OptP.mono hw fun v hv=>h _ _ hv
theorem wTr_regs(hC:CMono C):∀(l:List AOper) {T:Env} {H:AHeap} {K:List (AVal×AHeap)→Env→AHeap→Prop} {K':Env→AHeap→Prop},(∀ss T H,K' T H→K ss T H)→wRegs C l T H K'→wTr C l T H K:=by
 intro l
 induction l with
 | nil=>intro T H K K' h hw; exact h _ _ _ hw
 | cons o l ih=>
  intro T H K K' h hw
  simp only[wRegs,wTr]at hw ⊢
  cases hg:sG T o.guard with
  | false=>rw[hg]at hw; exact ih (fun ss T H=>h _ T H) hw
  | true=>
   rw[hg]at hw
   simp only[cond_true]at hw ⊢
   exact wOp_mono hC (fun v H' hw=>ih (fun ss T H=>h _ T H) hw) hw
def allNil:List (List Nat)→Bool
 | []=>true
 | []::r=>allNil r
 | _::_=>false
theorem ck_nil{hs:List AHeap}:∀(l:List AOper) (ps:List (List Nat)) (ss:List (AVal×AHeap)) (T:Env),allNil ps=true→wCk hs l ps ss T
 | [],_,_,_,_=>trivial
 | o::l,[],_,_,_=>trivial
 | o::l,[]::ps,[],_,_=>trivial
 | o::l,[]::ps,(v,Hv)::ss,T,h=>⟨fun p hp=>by simp at hp,ck_nil l ps ss _ h⟩
 | o::l,(q::p)::ps,_,_,h=>by simp[allNil]at h
def noNew:List AOper→Bool
 | []=>true
 | o::r=>match newOf o.op with
  | some _=>false
  | none=>noNew r
theorem claims_noNew:∀(l:List AOper),noNew l=true→∀(b:Nat) (H:AHeap),claims b l=l∧reserves H l=H
 | [],_,b,H=>⟨rfl,rfl⟩
 | o::r,h,b,H=>by
  cases hz:newOf o.op with
  | some p=>simp[noNew,hz]at h
  | none=>
   simp only[noNew,hz]at h
   exact⟨by simp only[claims,hz,(claims_noNew r h b H).1],by simp only[reserves,hz,(claims_noNew r h b H).2]⟩
theorem wTr_mono(hC:CMono C):∀(l:List AOper) {T:Env} {H:AHeap} {K K':List (AVal×AHeap)→Env→AHeap→Prop},(∀ss T H,K ss T H→K' ss T H)→wTr C l T H K→wTr C l T H K':=by
 intro l
 induction l with
 | nil=>intro T H K K' h hw; exact h _ _ _ hw
 | cons o l ih=>
  intro T H K K' h hw
  simp only[wTr]at hw ⊢
  cases hg:sG T o.guard with
  | false=>rw[hg]at hw; exact ih (fun ss T H=>h _ T H) hw
  | true=>
   rw[hg]at hw
   simp only[cond_true]at hw ⊢
   exact wOp_mono hC (fun v H' hw=>ih (fun ss T H=>h _ T H) hw) hw
theorem wRegs_mono(hC:CMono C):∀(l:List AOper) {T:Env} {H:AHeap} {K K':Env→AHeap→Prop},(∀T H,K T H→K' T H)→wRegs C l T H K→wRegs C l T H K':=by
 intro l
 induction l with
 | nil=>intro T H K K' h hw; exact h _ _ hw
 | cons o l ih=>
  intro T H K K' h hw
  simp only[wRegs]at hw ⊢
  cases hg:sG T o.guard with
  | false=>rw[hg]at hw; exact ih h hw
  | true=>
   rw[hg]at hw
   simp only[cond_true]at hw ⊢
   exact wOp_mono hC (fun v H' hw=>ih h hw) hw
theorem inSeq_mono{Q Q':Post}{K K':Env→AHeap→Prop}(h:∀e T H,Q e T H→Q' e T H)(hk:∀T H,K T H→K' T H)(e:AEx)(T:Env)(H:AHeap)(hq:inSeq Q K e T H):inSeq Q' K' e T H:=by
 cases e with
 | normal=>exact hk _ _ hq
 | exit i=>exact h _ _ _ hq
 | ret=>exact h _ _ _ hq
theorem wp_mono'(hC:CMono C):∀(c:ACode) {Q Q':Post} {T:Env} {H:AHeap},(∀e T H,Q e T H→Q' e T H)→wp C c Q T H→wp C c Q' T H:=by
 intro c
 induction c with
 | skip=>intro Q Q' T H h hw; exact h _ _ _ hw
 | reg l=>intro Q Q' T H h hw; exact wRegs_mono hC l (h .normal) hw
 | draw l chk=>intro Q Q' T H h hw; exact wTr_mono hC _ (fun ss T' H' hk=>⟨hk.1,h _ _ _ hk.2⟩) hw
 | seq a b iha ihb=>intro Q Q' T H h hw; exact iha (inSeq_mono h fun T H hk=>ihb h hk) hw
 | cond c a b iha ihb=>
  intro Q Q' T H h hw
  obtain⟨v,h1,h2⟩:=hw
  refine⟨v,h1,?_⟩
  cases v with
  | true=>exact iha h h2
  | false=>exact ihb h h2
 | block id c ih=>
  intro Q Q' T H h hw
  refine ih (fun e T H hk=>?_) hw
  cases e with
  | exit j=>
   simp only[inBlk]at hk ⊢
   cases hb:Nat.beq j id with
   | true=>rw[hb]at hk; exact h _ _ _ hk
   | false=>rw[hb]at hk; exact h _ _ _ hk
  | normal=>exact h _ _ _ hk
  | ret=>exact h _ _ _ hk
 | loop c ih=>
  intro Q Q' T H h hw
  obtain⟨I,hm,hI⟩:=hw
  exact⟨I,hm,fun m T H hi=>ih (inSeq_mono h fun _ _ hk=>hk) (hI m T H hi)⟩
 | exit id=>intro Q Q' T H h hw; exact h _ _ _ hw
 | ret=>intro Q Q' T H h hw; exact h _ _ _ hw
def norm:ACode→ACode
 | .draw l chk=>bif allNil chk&&noNew l then .reg l else .draw l chk
 | .seq a b=>.seq (norm a) (norm b)
 | .cond c a b=>.cond c (norm a) (norm b)
 | .block id c=>.block id (norm c)
 | .loop c=>.loop (norm c)
 | c=>c
theorem wp_norm(hC:CMono C):∀(c:ACode) {Q:Post} {T:Env} {H:AHeap},wp C (norm c) Q T H→wp C c Q T H:=by
 intro c
 induction c with
 | skip=>intro Q T H hw; exact hw
 | reg l=>intro Q T H hw; exact hw
 | draw l chk=>
  intro Q T H hw
  simp only[norm]at hw
  cases hb:allNil chk&&noNew l with
  | false=>rw[hb]at hw; exact hw
  | true=>
   rw[hb]at hw
   simp only[Bool.and_eq_true]at hb
   simp only[wp,wDraw,(claims_noNew l hb.2 H.next H).1,(claims_noNew l hb.2 H.next H).2]
   exact wTr_regs hC l (K:=fun ss T' H'=>wCk (H::ss.map (·.2)) l chk ss T∧Q .normal T' H') (fun ss T' H' hk=>⟨ck_nil l chk ss T hb.1,hk⟩) hw
 | seq a b iha ihb=>intro Q T H hw; exact wp_mono' hC a (inSeq_mono (fun _ _ _ h=>h) fun T H hk=>ihb hk) (iha hw)
 | cond c a b iha ihb=>
  intro Q T H hw
  obtain⟨v,h1,h2⟩:=hw
  refine⟨v,h1,?_⟩
  cases v with
  | true=>exact iha h2
  | false=>exact ihb h2
 | block id c ih=>intro Q T H hw; exact ih hw
 | loop c ih=>
  intro Q T H hw
  obtain⟨I,hm,hI⟩:=hw
  exact⟨I,hm,fun m T H hi=>ih (hI m T H hi)⟩
 | exit id=>intro Q T H hw; exact hw
 | ret=>intro Q T H hw; exact hw
def cN(P:Program)(f:FuncId):Option AFn:=match cFn P f with
 | some c=>some ⟨c.nt,norm c.body,c.res⟩
 | none=>none
theorem acalls_ofN{P:Program}{N:ANat}{f:FuncId}{c:AFn}{args:List AVal}{H:AHeap}{K:AVal→AHeap→Prop}(hn:N.is f=false)(hc:cN P f=some c)(hl:Nat.ble args.length c.nt=true)(h:wp (ACalls P N) c.body (fin c.res K) (argE args) H)(hm:N.md f=none:=by rfl)(hfb:Nat.blt f BIG=true:=by rfl):ACalls P N f args H K:=by
 unfold cN at hc
 cases hf:cFn P f with
 | none=>rw[hf]at hc; simp at hc
 | some c'=>
  rw[hf]at hc
  simp only[sJ]at hc
  subst hc
  exact acalls_of hn (eFn_plain hf hm hfb) hl (wp_norm (calls_mono P N) _ h)
def cNE(P:Program)(md:Option PMd)(i:Nat):Option AFn:=match eFn P md i with
 | some c=>some ⟨c.nt,norm c.body,c.res⟩
 | none=>none
theorem acalls_ofE{P:Program}{N:ANat}{i:Nat}{md:Option PMd}{c:AFn}{args:List AVal}{H:AHeap}{K:AVal→AHeap→Prop}(hn:N.is i=false)(hc:cNE P md i=some c)(hl:Nat.ble args.length c.nt=true)(h:wp (ACalls P N) c.body (fin c.res K) (argE args) H)(hm:N.md (i % BIG)=md:=by rfl):ACalls P N i args H K:=by
 unfold cNE at hc
 subst hm
 cases hf:eFn P (N.md (i % BIG)) i with
 | none=>rw[hf]at hc; simp at hc
 | some c'=>
  rw[hf]at hc
  simp only[sJ]at hc
  subst hc
  exact acalls_of hn hf hl (wp_norm (calls_mono P N) _ h)
theorem aw_drawC{l:List AOper}{chk:List (List Nat)}(h2:noNew l=true)(h:wTr C l T H fun ss T' H'=>wCk (H::ss.map (·.2)) l chk ss T∧Q .normal T' H'):wp C (.draw l chk) Q T H:=by
 simp only[wp,wDraw,(claims_noNew l h2 H.next H).1,(claims_noNew l h2 H.next H).2]
 exact h
end
theorem argE_0(a:AVal)(r:List AVal):argE (a::r) 0=a:=_root_.id rfl
theorem argE_1(a b:AVal)(r:List AVal):argE (a::b::r) 1=b:=_root_.id rfl
theorem argE_2(a b c:AVal)(r:List AVal):argE (a::b::c::r) 2=c:=_root_.id rfl
theorem argE_3(a b c d:AVal)(r:List AVal):argE (a::b::c::d::r) 3=d:=_root_.id rfl
theorem argE_4(a b c d e:AVal)(r:List AVal):argE (a::b::c::d::e::r) 4=e:=_root_.id rfl
theorem bin_lss(k:IntKind)(a b:Int):aBin .lss (.int k a) (.int k b)=some (.bool (decide (a<b))):=by
 simp[aBin,isShift,aIntF_eq,aInt]
theorem bin_leq(k:IntKind)(a b:Int):aBin .leq (.int k a) (.int k b)=some (.bool (decide (a≤b))):=by
 simp[aBin,isShift,aIntF_eq,aInt]
theorem bin_gtr(k:IntKind)(a b:Int):aBin .gtr (.int k a) (.int k b)=some (.bool (decide (b<a))):=by
 simp[aBin,isShift,aIntF_eq,aInt]
theorem bin_geq(k:IntKind)(a b:Int):aBin .geq (.int k a) (.int k b)=some (.bool (decide (b≤a))):=by
 simp[aBin,isShift,aIntF_eq,aInt]
theorem bin_eql(k:IntKind)(a b:Int):aBin .eql (.int k a) (.int k b)=some (.bool (decide (a=b))):=by
 simp only[aBin,isShift,aIntF_eq,aInt,cond_false,if_true]
 by_cases h:a=b <;> simp[h]
theorem bin_neq(k:IntKind)(a b:Int):aBin .neq (.int k a) (.int k b)=some (.bool (!decide (a=b))):=by
 simp only[aBin,isShift,aIntF_eq,aInt,cond_false,if_true]
 by_cases h:a=b <;> simp[h,bne]
theorem bin_add(k:IntKind)(a b:Int):aBin .add (.int k a) (.int k b)=some (.int k (k.wrap (a+b))):=by
 simp[aBin,isShift,aIntF_eq,aInt]
theorem bin_sub(k:IntKind)(a b:Int):aBin .sub (.int k a) (.int k b)=some (.int k (k.wrap (a-b))):=by
 simp[aBin,isShift,aIntF_eq,aInt]
theorem bin_mul(k:IntKind)(a b:Int):aBin .mul (.int k a) (.int k b)=some (.int k (k.wrap (a*b))):=by
 simp[aBin,isShift,aIntF_eq,aInt]
theorem bin_rem(k:IntKind)(a b:Int)(h:b≠0):aBin .rem (.int k a) (.int k b)=some (.int k (a.tmod b)):=by
 simp[aBin,isShift,aIntF_eq,aInt,h]
theorem wrapN(a b:Nat)(h:a+b≤9223372036854775807):IntKind.i64.wrap ((a:Int)+(b:Int))=((a+b:Nat):Int):=by
 rw[IntKind.wrap_i64]; omega
theorem wrap1(a:Nat)(h:a+1≤9223372036854775807):IntKind.i64.wrap ((a:Int)+1)=((a+1:Nat):Int):=by
 rw[IntKind.wrap_i64]; omega
theorem isSome_of_lt{α:Type}{l:List α}{i:Nat}(h:i<l.length):∃x,l[i]?=some x:=⟨_,List.getElem?_eq_getElem h⟩
theorem wrap64{a:Int}(h1:-9223372036854775808≤a)(h2:a≤9223372036854775807):IntKind.i64.wrap a=a:=by
 rw[IntKind.wrap_i64]; omega
end Go.Abs.S
namespace Go.Abs
section
variable {P:Program} {Prot:Gh} {w0:World} {ρ:Pl} {H:AHeap} {w:World}
theorem Rel.keep(R:Rel Prot w0 ρ H w){w':World}(hb:RowKit.Below w.heap.size w w'):Rel Prot w0 ρ H w':=by
 refine⟨hb.os.trans R.os,hb.tape.trans R.tape,hb.output.trans R.output,Nat.le_trans R.size hb.size,fun c hc=>?_,fun b l L h=>?_,fun b l L h=>?_,R.free,R.inj,R.dead,R.glob⟩
 ·obtain⟨h1,h2⟩:=R.prot c hc
  exact⟨h1,(hb.block c (Nat.lt_of_lt_of_le h1 R.size)).trans h2⟩
 ·obtain⟨h1,h2⟩:=R.dom b l L h
  exact⟨h1,Nat.lt_of_lt_of_le h2 hb.size⟩
 ·obtain⟨x,o,h1,h2,h3⟩:=R.obj b l L h
  exact⟨x,o,h1,(hb.block _ (R.dom b l L h).2).trans h2,h3⟩
end
end Go.Abs
