/- Part of a proof (A11g A11h A11i A12 S1 S2 S3 S4 S5 N0 S6 S7 S8 S9); no condition. -/
import Derived.IntWalk
import Derived.Below
import Derived.OpenShut
import Derived.ChangeSlices
import Derived.WideShapes
import Derived.SizedLaws
import Derived.Test.YtacaginbdjepcaaGreatDoorP5
set_option linter.unusedSimpArgs false
set_option linter.unusedVariables false
set_option linter.unnecessarySimpa false
namespace Go.Abs
def rE(n:Nat):List lR->Bool
 | []=>true
 | .t i::r=>Nat.blt i n&&rE n r
 | .cell _ _ i::r=>Nat.blt i n&&rE n r
def jO(b:Nat):List lR->List ak
 | []=>[]
 | .t i::r=>⟨some b,.mv (.t i),none⟩::jO (b+1) r
 | .cell g m i::r=>⟨some b,.load g m (.t i),none⟩::jO (b+1) r
def jN(b:Nat):Nat->List bb
 | 0=>[]
 | k+1=>.t b::jN (b+1) k
def Do(n:Nat)(res:List lR):bh:=.seq (.reg (jO (n+4) res++[⟨some (n+3),.pf .tup (jN (n+4) res.length),none⟩])) .ret
def qF(n b i:Nat):Nat->List ak
 | 0=>[]
 | k+1=>⟨some b,.pf (.capt i) [.t (n+1)],none⟩::qF n (b+1) (i+1) k
def tL(n G k:Nat):List ak:=⟨some (n+2),.pf (.isF G k) [.t (n+1)],none⟩::qF n (n+4) 0 k
def vX(n:Nat)(res:List lR)(raw:Bool)(df:Option (Nat×Nat×Bool)):bh:=
 .seq (.reg [⟨some (n+2),.pf .isU [.t (n+1)],none⟩]) (.cond (.t (n+2))
  (.seq (.reg [⟨some (n+2),.pf .isU [.t n],none⟩]) (.cond (.t (n+2)) (Do n res) (bif raw then .seq (.reg [⟨some (n+3),.mv (.t n),none⟩]) .ret else ft)))
  (match df with
   | none=>ft
   | some (G,k,false)=>.seq (.reg [⟨some (n+2),.pf .isU [.t n],none⟩]) (.cond (.t (n+2)) (.seq (.reg (tL n G k++[⟨none,.call (3*bO+G) (jN (n+4) k),none⟩])) (Do n res)) ft)
   | some (G,k,true)=>.seq (.reg (⟨some (n+3),.pf .unP [.t n],none⟩::(tL n G k++[⟨none,.call (2*bO+G) (jN (n+4) k++[.t (n+3)]),none⟩]))) (Do n res)))
section
variable {tb:FuncId->Bool} {call:FuncId->List af->ae->Option (af×ae)} {n:Nat}
theorem HT(l:List af):My l=io l:=by
 match l with
 | []=>rfl
 | [x]=>rfl
 | x::y::r=>rfl
theorem lp{U:Tr af}{H H1:ae}:∀(res:List lR) (b:Nat) {T T1:Tr af},GE n T U->n<=b->rE n res=true->be tb call (jO b res) T H=some (T1,H1) ->
  H1=H/\∃xs,hJ U H res=some xs/\eX T1 (jN b res.length)=xs/\∀t,t<b->ev T1 (.t t)=ev T (.t t)
 | [],b,T,T1,_,_,_,h=>by
  simp only[jO,be,sJ,pJ]at h
  obtain⟨rfl,rfl⟩:=h
  exact⟨rfl,[],rfl,rfl,fun _ _=>rfl⟩
 | .t i::r,b,T,T1,hG,hb,hr,h=>by
  simp only[rE,Pu]at hr
  simp only[jO]at h
  rw[bx,bQ]at h
  simp only[bG]at h
  obtain⟨q1,xs,q2,q3,q4⟩:=lp r (b+1) (hG.ghost hb _) om hr.2 h
  refine⟨q1,ev U (.t i)::xs,by simp only[hJ,q2],?_,fun t ht=>?_⟩
  ·simp only[Pv,jN,eX,q3]
   rw[q4 b om,aS,if_pos rfl,hG.1 i (dU hr.1)]
  ·rw[q4 t om,aS,if_neg om]
 | .cell g m i::r,b,T,T1,hG,hb,hr,h=>by
  simp only[rE,Pu]at hr
  simp only[jO]at h
  rw[bx,bQ]at h
  simp only[bG,vv]at h
  cases hl:bi g m H (ev T (.t i)) with
  | none=>rw[hl]at h; simp at h
  | some v=>
   rw[hl]at h
   simp only at h
   obtain⟨q1,xs,q2,q3,q4⟩:=lp r (b+1) (hG.ghost hb _) om hr.2 h
   rw[hG.1 i (dU hr.1)]at hl
   refine⟨q1,v::xs,by simp only[hJ,hl,q2],?_,fun t ht=>?_⟩
   ·simp only[Pv,jN,eX,q3]
    rw[q4 b om,aS,if_pos rfl]
   ·rw[q4 t om,aS,if_neg om]
theorem BG{U T T':Tr af}{H H':ae}{e:pt}{k:Nat}{res:List lR}(hG:GE n T U)(hr:rE n res=true)(h:aK tb call k (Do n res) T H=some (e,T',H')) :
  e=.ret/\H'=H/\∃xs,hJ U H res=some xs/\ev T' (.t (n+3))=io xs:=by
 simp only[Do,aK]at h
 rw[eM]at h
 cases hs:be tb call (jO (n+4) res) T H with
 | none=>rw[hs]at h; simp at h
 | some p=>
  obtain⟨T1,H1⟩:=p
  rw[hs]at h
  obtain⟨rfl,xs,q2,q3,q4⟩:=lp res (n+4) hG om hr hs
  simp only at h
  rw[bx,bQ]at h
  simp only[bG,iu,vv,q3,be,aO,sJ,pJ]at h
  obtain⟨rfl,rfl,rfl⟩:=h
  exact⟨rfl,rfl,xs,q2,by rw[aS,if_pos rfl,HT]⟩
theorem qE{f:Fn}{l:List af}{H H1:ae}:∀(k b i:Nat) {T T1:Tr af},ev T (.t (n+1))=.func f [] l->n+1<b->be tb call (qF n b i k) T H=some (T1,H1) ->
  H1=H/\eX T1 (jN b k)=(l.drop i).take k/\∀t,t<b->ev T1 (.t t)=ev T (.t t)
 | 0,b,i,T,T1,_,_,h=>by
  simp only[qF,be,sJ,pJ]at h
  obtain⟨rfl,rfl⟩:=h
  exact⟨rfl,by simp[jN,eX],fun _ _=>rfl⟩
 | k+1,b,i,T,T1,hd,hb,h=>by
  simp only[qF]at h
  rw[bx,bQ]at h
  simp only[bG,eX,iu,vv,hd,Kk]at h
  cases hx:l[i]? with
  | none=>rw[hx]at h; simp at h
  | some x=>
   rw[hx]at h
   simp only[aO]at h
   obtain⟨q1,q2,q3⟩:=qE k (b+1) (i+1) (T:=T.set b x) (by rw[aS,if_neg om]; exact hd) om h
   refine⟨q1,?_,fun t ht=>by rw[q3 t om,aS,if_neg om]⟩
   simp only[jN,eX,q2]
   rw[q3 b om,aS,if_pos rfl]
   obtain⟨hi,hxi⟩:=Ps.1 hx
   rw[List.drop_eq_getElem_cons hi,List.take_succ_cons,hxi]
theorem xC{G k:Nat}{H H1:ae}{T T1:Tr af}(h:be tb call (tL n G k) T H=some (T1,H1)) :
  ∃l,ev T (.t (n+1))=.func (.func G) [] l/\l.length=k/\H1=H/\eX T1 (jN (n+4) k)=l/\∀t,t<n+4->t≠n+2->ev T1 (.t t)=ev T (.t t):=by
 unfold tL at h
 rw[bx,bQ]at h
 simp only[bG,eX,iu,vv]at h
 cases hd:LU G k [ev T (.t (n+1))] with
 | none=>rw[hd]at h; simp at h
 | some v=>
  rw[hd]at h
  simp only[aO]at h
  unfold LU at hd
  split at hd
  ·rename_i f l heq
   simp only[List.cons.injEq,and_true]at heq
   cases hb:Nat.beq f G&&Nat.beq l.length k with
   | false=>rw[hb]at hd; simp at hd
   | true=>
    simp only[Pu]at hb
    have e1:=Py hb.1
    have e2:=Py hb.2
    subst e1
    obtain⟨q1,q2,q3⟩:=qE k (n+4) 0 (f:=.func f) (l:=l) (by rw[aS,if_neg om]; exact heq) om h
    refine⟨l,heq,e2,q1,?_,fun t ht hne=>by rw[q3 t ht,aS,if_neg hne]⟩
    rw[q2,List.drop_zero,List.take_of_length_le om]
  ·simp at hd
end
section
def kZ(P:Program)(G:Nat):Nat:=match P.funcs[G]? with
 | some f=>f.params.size+f.nfree
 | none=>0
def Ko(P:Program)(call:FuncId->List af->ae->Option (af×ae)):Prop:=
 ∀G args H v H',Nat.blt G bO=true->call (3*bO+G) args H=some (v,H')->∀Prot w0 ρ w (vs:Array Value),Rel Prot w0 ρ H w->ah ρ args vs.toList ->
  CallsD P G vs .returning w fun e u' w'=>u'=.returning/\∃ρ' y,ρ.le ρ'/\e=.returned y/\Rel Prot w0 ρ' H' w'
def Ma(u:FrameMode)(xv:Value):Prop:=(u=.returning/\xv=.nilIface)∨u=.panicking [{ v:=xv,recovered:=false }]
def Kn(P:Program)(call:FuncId->List af->ae->Option (af×ae)):Prop:=
 ∀G args x H v H',Nat.blt G bO=true->args.length=kZ P G->call (2*bO+G) (args++[x]) H=some (v,H')->∀Prot w0 ρ w (vs:Array Value) xv u,Rel Prot w0 ρ H w->ah ρ args vs.toList->ag ρ x xv->Ma u xv ->
  CallsD P G vs u w fun e u' w'=>settle u'=.returning/\∃ρ' y,ρ.le ρ'/\e=.returned y/\Rel Prot w0 ρ' H' w'
variable {P:Program} {Prot:Gh} {w0:World} {ρ:Pl} {H H':ae} {w:World} {n:Nat}
def Kl(Prot:Gh)(w0:World)(raw:Bool)(ρ:Pl)(H:ae)(v:af):Ending->World->Prop:=fun e w'=>
 ∃ρ',ρ.le ρ'/\Rel Prot w0 ρ' H w'/\((∃y,e=.returned y/\ag ρ' v y)∨(raw=true/\∃x y,v=jQ x/\e=.panicked [{ v:=y,recovered:=false }]/\ag ρ' x y))
def Ds(P:Program):Option (Nat×Nat×Bool)->Bool
 | none=>true
 | some (G,k,true)=>Nat.blt G bO&&Nat.beq k (kZ P G)
 | some (G,_,false)=>Nat.blt G bO
theorem F5{x:af}(h:isU x=true):x=aN:=by
 unfold isU at h
 split at h
 ·rfl
 ·simp at h
theorem EL{tb:FuncId->Bool}{call:FuncId->List af->ae->Option (af×ae)}{k:Nat}(hcD:Ko P call)(hcR:Kn P call)(hbD:∀f,Nat.blt f bO=true->tb (3*bO+f)=true->bc P f=true)(hbR:∀f,Nat.blt f bO=true->tb (2*bO+f)=true->bc P f=true)
  {fc:Func} {res:List lR} (hres:nR P fc.results.toList=some res) (hrT:rE n res=true) {raw:Bool} {df:Option (Nat×Nat×Bool)} (hdf:Ds P df=true) {T T':Tr af} {e:pt}
  (h:aK tb call k (vX n res raw df) T H=some (e,T',H')) (R:Rel Prot w0 ρ H w) {a:Act} {u:FrameMode} (hst:(pq ρ n T a/\u=.returning)∨∃uv,Mb ρ n T a uv/\u=.panicking [{ v:=uv,recovered:=false }]) :
  e=.ret/\Leaves P fc a.tmps (Kl Prot w0 raw ρ H' (ev T' (.t (n+3)))) a.defers u w:=by
 simp only[vX,aK]at h
 rw[bx,bQ]at h
 simp only[bG,eX,iu,vv,Jm,be,aO]at h
 rw[aS,if_pos rfl]at h
 have e1:∀b,ev (T.set (n+2) b) (.t n)=ev T (.t n):=fun b=>by rw[aS,if_neg om]
 have e11:∀b c,ev ((T.set (n+2) b).set (n+2) c) (.t (n+2))=c:=fun b c=>by rw[aS,if_pos rfl]
 have e12:∀b c,ev ((T.set (n+2) b).set (n+2) c) (.t n)=ev T (.t n):=fun b c=>by rw[aS,if_neg om,e1]
 have isP:∀x,isU (jQ x)=false:=fun x=>rfl
 cases hu:isU (ev T (.t (n+1))) with
 | true=>
  rw[hu]at h
  have hund:=F5 hu
  simp only[fR,cond_true,e1,e11]at h
  cases hu2:isU (ev T (.t n)) with
  | true=>
   rw[hu2]at h
   rcases hst with⟨hP,rfl⟩ | ⟨uv,⟨x,q1,_⟩,_⟩
   ·obtain⟨U,hG,ht⟩:=hP.1.t
    obtain⟨rfl,rfl,xs,z1,z2⟩:=BG ((hG.ghost (d:=n+2) om _).ghost (d:=n+2) om _) hrT h
    have hds:a.defers=[]:=by
     have:=hP.1.d
     rw[hund]at this
     rcases this with⟨_,h9⟩ | ⟨f,fa,fb,d,cap,h9,_⟩
     ·exact h9
     ·simp[aN]at h9
    obtain⟨v,r1,r2⟩:=ib (P:=P) R ht hres z1
    refine⟨rfl,?_⟩
    rw[hds]
    exact⟨v,r1,ρ,Pl.le_refl _,R,.inl ⟨v,rfl,by rw[z2]; exact r2⟩⟩
   ·rw[q1,isP]at hu2; simp at hu2
  | false=>
   rw[hu2]at h
   rcases hst with⟨hP,rfl⟩ | ⟨uv,⟨x,q1,q2,q3⟩,rfl⟩
   ·rw[hP.2]at hu2; simp[isU,aN]at hu2
   ·cases raw with
    | false=>simp[ft,aK,be,fR,bG]at h
    | true=>
     simp only[cond_true,aK,be,fR,bG,aO,e12,sJ,pJ]at h
     obtain⟨rfl,rfl,rfl⟩:=h
     have hds:a.defers=[]:=by
      rcases q3 with⟨h9,_⟩ | hg
      ·exact h9
      ·have:=hg.d
       rw[hund]at this
       rcases this with⟨_,h9⟩ | ⟨f,fa,fb,d,cap,h9,_⟩
       ·exact h9
       ·simp[aN]at h9
     refine⟨rfl,?_⟩
     rw[hds]
     exact⟨ρ,Pl.le_refl _,R,.inr ⟨rfl,x,uv,by rw[aS,if_pos rfl]; exact q1,rfl,q2⟩⟩
 | false=>
  rw[hu]at h
  have hnu:ev T (.t (n+1))≠aN:=fun e=>by rw[e]at hu; simp[isU,aN]at hu
  have hGT:GT ρ n T a:=by
   rcases hst with⟨hP,_⟩ | ⟨uv,⟨x,q1,q2,⟨_,q3⟩ | q3⟩,_⟩
   ·exact hP.1
   ·exact (hnu q3).elim
   ·exact q3
  obtain⟨U,hG,ht⟩:=hGT.t
  obtain⟨f,fa,fb,d,cap,d1,d2,d3,d4,d5⟩:∃f a' b d cap,ev T (.t (n+1))=.func (.func f) a' b/\a.defers=[d]/\d.target=.fn (.func f) cap/\ah ρ b cap.toList/\ah ρ a' d.args.toList:=by
   rcases hGT.d with⟨h9,_⟩ | h9
   ·exact (hnu h9).elim
   ·exact h9
  have rest:∀{T5:Tr af} {H5:ae} {e5:pt},GE n T5 U->aK tb call k (Do n res) T5 H5=some (e5,T',H')->e5=.ret/\∀(ρ':Pl) (w':World),ρ.le ρ'->Rel Prot w0 ρ' H5 w'->Leaves P fc a.tmps (Kl Prot w0 raw ρ H' (ev T' (.t (n+3)))) [] .returning w':=by
   intro T5 H5 e5 hG5 h5
   obtain⟨rfl,rfl,xs,z1,z2⟩:=BG hG5 hrT h5
   refine⟨rfl,fun ρ' w' hle R'=>?_⟩
   obtain⟨v,r1,r2⟩:=ib (P:=P) R' (ht.mono hle) hres z1
   exact⟨v,r1,ρ',hle,R',.inl ⟨v,rfl,by rw[z2]; exact r2⟩⟩
  rcases df with _ | ⟨G,kk,_ | _⟩
  ·simp[ft,aK,be,fR,bG]at h
  ·skip
   simp only[Ds]at hdf
   simp only[aK]at h
   rw[bx,bQ]at h
   simp only[bG,eX,iu,vv,Jm,be,aO,e1,e11]at h
   cases hu2:isU (ev T (.t n)) with
   | false=>rw[hu2]at h; simp[ft,aK,be,fR,bG]at h
   | true=>
    rw[hu2]at h
    simp only at h
    rw[eM]at h
    cases hs:be tb call (tL n G kk) ((T.set (n+2) (.bool false)).set (n+2) (.bool true)) H with
    | none=>rw[hs]at h; simp at h
    | some p=>
     obtain⟨T4,H4⟩:=p
     rw[hs]at h
     obtain⟨l,c1,c2,rfl,c4,c5⟩:=xC hs
     have c1':ev T (.t (n+1))=.func (.func G) [] l:=by rw[<- c1,aS,if_neg om,aS,if_neg om]
     rw[c1']at d1
     simp only[af.func.injEq,Fn.func.injEq]at d1
     obtain⟨rfl,rfl,rfl⟩:=d1
     simp only at h
     rw[bx,bQ]at h
     simp only[bG,c4]at h
     cases hb:tb (3*bO+G) with
     | false=>rw[hb]at h; simp at h
     | true=>
      rw[hb]at h
      simp only[cond_true]at h
      cases hcl:call (3*bO+G) l H4 with
      | none=>rw[hcl]at h; simp at h
      | some q=>
       obtain⟨v,H5⟩:=q
       rw[hcl]at h
       simp only[aO,be]at h
       have hG4:GE n T4 U:=⟨fun t ht'=>by rw[c5 t om om,aS,if_neg om,aS,if_neg om]; exact hG.1 t ht',hG.2⟩
       obtain⟨rfl,hrest⟩:=rest hG4 h
       refine⟨rfl,?_⟩
       have hur:u=.returning:=by
        rcases hst with⟨_,h9⟩ | ⟨uv,⟨x,q1,_⟩,_⟩
        ·exact h9
        ·rw[q1,isP]at hu2; simp at hu2
       subst hur
       simp only[ah]at d5
       rw[d2]
       refine⟨by simp,.func G,cap,G,d.args++cap,d3,?_,?_⟩
       ·rw[d3]; exact eL (hbD G hdf hb) _
       ·refine (hcD G l H4 v H5 hdf hcl Prot w0 ρ w (d.args++cap) R (by simpa[d5] using d4)).mono ?_
        rintro e' u' w' ⟨rfl,ρ',y,q1,rfl,q2⟩
        exact hrest ρ' w' q1 q2
  ·skip
   simp only[Ds,Pu]at hdf
   obtain⟨hG1,hk1⟩:=hdf
   have hk:=Py hk1
   simp only[aK]at h
   rw[bx,bQ]at h
   simp only[bG,eX,iu,vv,e1]at h
   cases hun:Jj [ev T (.t n)] with
   | none=>rw[hun]at h; simp at h
   | some x=>
    rw[hun]at h
    simp only[aO]at h
    rw[eM]at h
    cases hs:be tb call (tL n G kk) ((T.set (n+2) (.bool false)).set (n+3) x) H with
    | none=>rw[hs]at h; simp at h
    | some p=>
     obtain⟨T4,H4⟩:=p
     rw[hs]at h
     obtain⟨l,c1,c2,rfl,c4,c5⟩:=xC hs
     have c1':ev T (.t (n+1))=.func (.func G) [] l:=by rw[<- c1,aS,if_neg om,aS,if_neg om]
     have c3:ev T4 (.t (n+3))=x:=by rw[c5 (n+3) om om,aS,if_pos rfl]
     rw[c1']at d1
     simp only[af.func.injEq,Fn.func.injEq]at d1
     obtain⟨rfl,rfl,rfl⟩:=d1
     have evapp:∀(m:List bb),eX T4 (m++[.t (n+3)])=eX T4 m++[x]:=by
      intro m
      induction m with
      | nil=>simp only[List.nil_append,eX,c3]
      | cons y m ih=>simp only[PM,eX,ih]
     simp only at h
     rw[bx,bQ]at h
     simp only[bG,evapp,c4]at h
     cases hb:tb (2*bO+G) with
     | false=>rw[hb]at h; simp at h
     | true=>
      rw[hb]at h
      simp only[cond_true]at h
      cases hcl:call (2*bO+G) (l++[x]) H4 with
      | none=>rw[hcl]at h; simp at h
      | some q=>
       obtain⟨v,H5⟩:=q
       rw[hcl]at h
       simp only[aO,be]at h
       have hG4:GE n T4 U:=⟨fun t ht'=>by rw[c5 t om om,aS,if_neg om,aS,if_neg om]; exact hG.1 t ht',hG.2⟩
       obtain⟨rfl,hrest⟩:=rest hG4 h
       refine⟨rfl,?_⟩
       have hx:∃xv,ag ρ x xv/\Ma u xv/\u≠.run:=by
        rcases hst with⟨hP,rfl⟩ | ⟨uv,⟨x',q1,q2,_⟩,rfl⟩
        ·rw[hP.2]at hun
         simp only[aN,Jj,sJ]at hun
         subst hun
         exact⟨.nilIface,rfl,.inl ⟨rfl,rfl⟩,by simp⟩
        ·rw[q1]at hun
         simp only[jQ,Jj,sJ]at hun
         subst hun
         exact⟨uv,q2,.inr rfl,by simp⟩
       obtain⟨xv,x1,x2,x3⟩:=hx
       simp only[ah]at d5
       rw[d2]
       refine⟨x3,.func G,cap,G,d.args++cap,d3,?_,?_⟩
       ·rw[d3]; exact eL (hbR G hG1 hb) _
       ·refine (hcR G l x H4 v H5 hG1 om hcl Prot w0 ρ w (d.args++cap) xv u R (by simpa[d5] using d4) x1 x2).mono ?_
        rintro e' u' w' ⟨hu',ρ',y,q1,rfl,q2⟩
        show Leaves P fc a.tmps _ [] (settle u') w'
        rw[hu']
        exact hrest ρ' w' q1 q2
end
end Go.Abs
namespace Go.Abs
section
variable (P:Program)
def Am(md:Jq)(raw:Bool)(f:FuncId):Option cg:=match P.funcs[f]? with
 | some fn=>match fn.body with
  | some c => bif fn.name == "runtime.NumGoroutine" then none else
   match dw P fn.ntmps md.ps c,nR P fn.results.toList with
   | some b,some r=>bif rE fn.ntmps r&&Ds P md.df then some ⟨fn.ntmps,.seq (.block PB b) (vX fn.ntmps r raw md.df),[.t (fn.ntmps+3)]⟩ else none
   | _,_=>none
  | none=>none
 | none=>none
def mg:Code->Option (Array Oper×Nat×List Oper×Code)
 | .seq (.region _ ops false) rest=>match ops.toList with
  | o::os=>match o.op,o.dst,o.guard with
   | .call c,some d,none=>match c.callee with
    | .builtin .recover=>some (ops,d,os,rest)
    | _=>none
   | _,_,_=>none
  | []=>none
 | _=>none
def uB(n k d:Nat):List ak:=[⟨some n,.mv (.t k),none⟩,⟨some k,.mv (.c aN),none⟩,⟨some d,.mv (.t n),none⟩,⟨some n,.mv (.c aN),none⟩]
def GI(g:FuncId):Option cg:=match P.funcs[g]? with
 | some fn=>match fn.body with
  | some c => bif fn.name == "runtime.NumGoroutine" || !(Nat.beq fn.results.size 0) then none else
   match mg c with
   | some (ops,d,os,rest)=>match cA P fn.ntmps ops os,dq P fn.ntmps rest with
    | some l,some r=>bif Nat.blt d fn.ntmps&&Nat.ble (kZ P g) d then some ⟨fn.ntmps,.seq (.reg (uB fn.ntmps (kZ P g) d)) (.seq (.reg l) r),[]⟩ else none
    | _,_=>none
   | none=>none
  | none=>none
 | none=>none
def xm(md:Option Jq)(i:Nat):Option cg:=
 bif Nat.blt i bO then (match md with | none=>HE P i | some md=>Am P md false i)
 else bif Nat.blt i (2*bO) then (match md with | some md=>Am P md true (i-bO) | none=>none)
 else bif Nat.blt i (3*bO) then GI P (i-2*bO)
 else bif Nat.blt i (4*bO) then HE P (i-3*bO) else none
def Cp(tab:Tr cg):Prop:=∀f fn,tab.get f=some fn->∃md,xm P md f=some fn
end
section
variable {P:Program} {Prot:Gh} {w0:World} {ρ:Pl} {H H':ae} {w:World}
theorem ey(a b:Nat):Nat.blt a b=decide (a<b):=by
 cases h:Nat.blt a b with
 | true=>exact (decide_eq_true (dU h)).symm
 | false=>exact (decide_eq_false fun q=>by rw[show Nat.blt a b=true from Pt q]at h; simp at h).symm
theorem Gw{md:Option Jq}{f:Nat}(hf:Nat.blt f bO=true){fn:cg}(h:xm P md f=some fn):HE P f=some fn∨∃m,Am P m false f=some fn:=by
 unfold xm at h
 rw[hf]at h
 simp only[cond_true]at h
 cases md with
 | none=>exact .inl h
 | some m=>exact .inr ⟨m,h⟩
theorem J6{md:Option Jq}{f:Nat}(hf:Nat.blt f bO=true){fn:cg}(h:xm P md (bO+f)=some fn):∃m,Am P m true f=some fn:=by
 have hlt:=dU hf
 unfold xm at h
 have h1:Nat.blt (bO+f) bO=false:=by rw[ey]; exact decide_eq_false om
 have h2:Nat.blt (bO+f) (2*bO)=true:=by rw[ey]; exact decide_eq_true om
 rw[h1,h2]at h
 simp only[cond_true,cond_false,Nat.add_sub_cancel_left]at h
 cases md with
 | none=>simp at h
 | some m=>exact⟨m,h⟩
theorem J5{md:Option Jq}{f:Nat}(hf:Nat.blt f bO=true){fn:cg}(h:xm P md (2*bO+f)=some fn):GI P f=some fn:=by
 have hlt:=dU hf
 unfold xm at h
 have h1:Nat.blt (2*bO+f) bO=false:=by rw[ey]; exact decide_eq_false om
 have h2:Nat.blt (2*bO+f) (2*bO)=false:=by rw[ey]; exact decide_eq_false om
 have h3:Nat.blt (2*bO+f) (3*bO)=true:=by rw[ey]; exact decide_eq_true om
 rw[h1,h2,h3]at h
 simpa only [cond_true,cond_false,Nat.add_sub_cancel_left] using h
theorem J4{md:Option Jq}{f:Nat}(hf:Nat.blt f bO=true){fn:cg}(h:xm P md (3*bO+f)=some fn):HE P f=some fn:=by
 have hlt:=dU hf
 unfold xm at h
 have h1:Nat.blt (3*bO+f) bO=false:=by rw[ey]; exact decide_eq_false om
 have h2:Nat.blt (3*bO+f) (2*bO)=false:=by rw[ey]; exact decide_eq_false om
 have h3:Nat.blt (3*bO+f) (3*bO)=false:=by rw[ey]; exact decide_eq_false om
 have h4:Nat.blt (3*bO+f) (4*bO)=true:=by rw[ey]; exact decide_eq_true om
 rw[h1,h2,h3,h4]at h
 simpa only [cond_true,cond_false,Nat.add_sub_cancel_left] using h
theorem kP {md : Jq} {raw : Bool} {f : FuncId} {fn : cg} (h : Am P md raw f = some fn) : ∃ fc c b r, P.funcs[f]? = some fc ∧ fc.body = some c ∧ (fc.name == "runtime.NumGoroutine") = false ∧ dw P fc.ntmps md.ps c = some b ∧ nR P fc.results.toList = some r ∧
  rE fc.ntmps r=true/\Ds P md.df=true/\fn=⟨fc.ntmps,.seq (.block PB b) (vX fc.ntmps r raw md.df),[.t (fc.ntmps+3)]⟩:=by
 unfold Am at h
 split at h
 ·rename_i fc hf
  split at h
  ·rename_i c hb
   cases hn : (fc.name == "runtime.NumGoroutine") with
   | true=>rw[hn]at h; simp at h
   | false=>
    rw[hn]at h
    simp only[cond_false]at h
    split at h
    ·rename_i b r h1 h2
     cases h3:rE fc.ntmps r&&Ds P md.df with
     | false=>rw[h3]at h; simp at h
     | true=>
      rw[h3]at h
      simp only[cond_true,sJ]at h
      simp only[Pu]at h3
      exact⟨fc,c,b,r,hf,hb,hn,h1,h2,h3.1,h3.2,h.symm⟩
    ·simp at h
  ·simp at h
 ·simp at h
theorem rF{c:Code}{ops:Array Oper}{d:Nat}{os:List Oper}{rest:Code}(h:mg c=some (ops,d,os,rest)):∃i o args ats,c=.seq (.region i ops false) rest/\ops.toList=o::os/\o.op=.call ⟨.builtin .recover,args,ats⟩/\o.dst=some d/\o.guard=none:=by
 unfold mg at h
 split at h
 ·rename_i i ops' rest'
  split at h
  ·rename_i o os' ho
   split at h
   ·rename_i c' d' h1 h2 h3
    split at h
    ·rename_i hcal
     simp only[sJ,pJ]at h
     obtain⟨rfl,rfl,rfl,rfl⟩:=h
     obtain⟨cal,args,ats⟩:=c'
     simp only at hcal
     subst hcal
     exact⟨i,o,args,ats,rfl,ho,h1,h2,h3⟩
    ·simp at h
   ·simp at h
  ·simp at h
 ·simp at h
theorem tN {g : FuncId} {fn : cg} (h : GI P g = some fn) : ∃ fc c ops d os rest l r, P.funcs[g]? = some fc ∧ fc.body = some c ∧ (fc.name == "runtime.NumGoroutine") = false ∧ fc.results = #[] ∧ mg c = some (ops, d, os, rest) ∧ cA P fc.ntmps ops os = some l ∧ dq P fc.ntmps rest = some r ∧
  d<fc.ntmps/\kZ P g<=d/\fn=⟨fc.ntmps,.seq (.reg (uB fc.ntmps (kZ P g) d)) (.seq (.reg l) r),[]⟩:=by
 unfold GI at h
 split at h
 ·rename_i fc hf
  split at h
  ·rename_i c hb
   cases hn : (fc.name == "runtime.NumGoroutine" || !(Nat.beq fc.results.size 0)) with
   | true=>rw[hn]at h; simp at h
   | false=>
    rw[hn]at h
    simp only[Bool.or_eq_false_iff,Bool.not_eq_false']at hn
    simp only[cond_false]at h
    split at h
    ·rename_i ops d os rest hsp
     split at h
     ·rename_i l r h1 h2
      cases h3:Nat.blt d fc.ntmps&&Nat.ble (kZ P g) d with
      | false=>rw[h3]at h; simp at h
      | true=>
       rw[h3]at h
       simp only[cond_true,sJ]at h
       simp only[Pu]at h3
       exact⟨fc,c,ops,d,os,rest,l,r,hf,hb,hn.1,Array.eq_empty_of_size_eq_zero (Py hn.2),hsp,h1,h2,dU h3.1,Px h3.2,h.symm⟩
     ·simp at h
    ·simp at h
  ·simp at h
 ·simp at h
theorem jy {f : Nat} (hf : Nat.blt f bO = true) {fc : Func} {c : Code} (h1 : P.funcs[f]? = some fc) (h2 : fc.body = some c) (h3 : (fc.name == "runtime.NumGoroutine") = false) : bc P f = true := by
 simp[bc,hf,h1,h2,h3]
structure Cs(P:Program)(call:FuncId->List af->ae->Option (af×ae)):Prop where
 ok:gR P call
 pan:yu P call
 dfd:Ko P call
 rcv:Kn P call
structure Jo(P:Program)(tb:FuncId->Bool):Prop where
 h0:∀f,Nat.blt f bO=true->tb f=true->bc P f=true
 h1:∀f,Nat.blt f bO=true->tb (bO+f)=true->bc P f=true
 h2:∀f,Nat.blt f bO=true->tb (2*bO+f)=true->bc P f=true
 h3:∀f,Nat.blt f bO=true->tb (3*bO+f)=true->bc P f=true
theorem Gi(hfol:P.follows .mixedOrders=true){tb:FuncId->Bool}(hb:Jo P tb){call:FuncId->List af->ae->Option (af×ae)}(hc:Cs P call){k:Nat}{md:Jq}{raw:Bool}{f:FuncId}{fn:cg}(hfn:Am P md raw f=some fn)
  {args:List af} (hlen:args.length<=fn.nt) {e:pt} {T:Tr af} {H1:ae} (hx:aK tb call k fn.body (cC args 0 .e) H=some (e,T,H1)) (hne:∀i,e≠.exit i) {xs:List af} (hxs:hJ T H1 fn.res=some xs) {vs:Array Value} (R:Rel Prot w0 ρ H w) (hv:ah ρ args vs.toList) :
  Calls P f vs w (Kl Prot w0 raw ρ H1 (io xs)):=by
 obtain⟨fc,c,b,r,h1,h2,h3,h4,h5,h6,h7,rfl⟩:=kP hfn
 simp only at hlen
 have hst:=kA (ρ:=ρ) hv hlen
 have hgh:∀t,fc.ntmps<=t->ev (cC args 0 .e) (.t t)=aN:=fun t ht=>by
  have:=hst.at_ t
  have hsz:=hst.size
  rw[Array.getD_eq_getD_getElem?,Array.getElem?_eq_none om]at this
  exact Ev this
 have hP:pq ρ fc.ntmps (cC args 0 .e) { tmps:=vs++Array.replicate (fc.ntmps-vs.size) undef,defers:=[] }:=
  ⟨⟨⟨_,⟨fun _ _=>rfl,hgh⟩,hst⟩,.inl ⟨hgh _ om,rfl⟩⟩,hgh _ rL⟩
 simp only[aK]at hx
 refine calls_of_wp_defers h1 h2 ?_
 cases hb1:aK tb call k b (cC args 0 .e) H with
 | none=>rw[hb1]at hx; simp at hx
 | some q=>
  obtain⟨e1,T1,H2⟩:=q
  rw[hb1]at hx
  have hsim:=Du hfol hb.h0 hb.h1 hc.ok hc.pan c b h4 ρ _ _ _ _ e1 _ w R hP hb1
  have hval:∀v,ev T (.t (fc.ntmps+3))=v->io xs=v:=fun v h9=>by
   simp only[hJ,sJ]at hxs
   subst hxs
   exact h9
  have hout:∀{ρ':Pl} {a':Act} {w':World} {u:FrameMode},ρ.le ρ'->Rel Prot w0 ρ' H2 w'->((pq ρ' fc.ntmps T1 a'/\u=.returning)∨∃uv,Mb ρ' fc.ntmps T1 a' uv/\u=.panicking [{ v:=uv,recovered:=false }]) ->
    aK tb call k (vX fc.ntmps r raw md.df) T1 H2=some (e,T,H1)->Leaves P fc a'.tmps (Kl Prot w0 raw ρ H1 (io xs)) a'.defers u w':=by
   intro ρ' a' w' u hle R' hs' ht'
   obtain⟨_,hL⟩:=EL (fc:=fc) hc.dfd hc.rcv hb.h3 hb.h2 h5 h6 h7 ht' R' hs'
   rw[hval _ rfl]
   have:∀(ds:List Deferred) (u:FrameMode) (w:World),Leaves P fc a'.tmps (Kl Prot w0 raw ρ' H1 (ev T (.t (fc.ntmps+3)))) ds u w->Leaves P fc a'.tmps (Kl Prot w0 raw ρ H1 (ev T (.t (fc.ntmps+3)))) ds u w:=by
    have hO:∀e w',Kl Prot w0 raw ρ' H1 (ev T (.t (fc.ntmps+3))) e w'->Kl Prot w0 raw ρ H1 (ev T (.t (fc.ntmps+3))) e w':=fun e w' ⟨ρ2,q1,q2⟩=>⟨ρ2,Pl.le_trans hle q1,q2⟩
    intro ds
    induction ds with
    | nil=>
     intro u w hL
     cases u with
     | run=>exact hL
     | returning=>obtain⟨v,q1,q2⟩:=hL; exact⟨v,q1,hO _ _ q2⟩
     | panicking ch=>exact hO _ _ hL
    | cons d ds ih=>
     intro u w hL
     obtain⟨q1,fv,cap,g,ar,q2,q3,q4⟩:=hL
     refine⟨q1,fv,cap,g,ar,q2,q3,q4.mono fun e' u' w' hh=>?_⟩
     cases e' with
     | returned v=>exact ih _ _ hh
     | panicked ch=>exact ih _ _ hh
     | outgrown=>exact hO _ _ hh
   exact this _ _ _ hL
  refine wp_mono hsim ?_
  rintro e' a' w' ⟨ρ',q1,q2,q3⟩
  cases e1 with
  | normal=>
   obtain⟨rfl,z⟩:=q3
   exact hout q1 q2 (.inl ⟨z,rfl⟩) hx
  | ret=>exact q3.elim
  | exit id=>
   simp only at hx
   cases hid:Nat.beq id PB with
   | false=>
    rw[hid]at hx
    simp only[cond_false,sJ,pJ]at hx
    exact (hne id hx.1.symm).elim
   | true=>
    rw[hid]at hx
    simp only[cond_true]at hx
    have:=Py hid
    rcases q3 with⟨z1,_⟩ | ⟨_,⟨rfl,z2⟩ | ⟨u,rfl,z2⟩⟩
    ·exact (z1 this).elim
    ·exact hout q1 q2 (.inl ⟨z2,rfl⟩) hx
    ·exact hout q1 q2 (.inr ⟨u,z2,rfl⟩) hx
theorem JZ(hfol:P.follows .mixedOrders=true){tb:FuncId->Bool}(hb:Jo P tb){call:FuncId->List af->ae->Option (af×ae)}(hc:Cs P call){k:Nat}{f:FuncId}{fn:cg}(hfn:HE P f=some fn)
  {args:List af} (hlen:args.length<=fn.nt) {e:pt} {T:Tr af} {H1:ae} (hx:aK tb call k fn.body (cC args 0 .e) H=some (e,T,H1)) (hne:∀i,e≠.exit i) {xs:List af} (hxs:hJ T H1 fn.res=some xs) {vs:Array Value} (R:Rel Prot w0 ρ H w) (hv:ah ρ args vs.toList) :
  ∃fc c,P.funcs[f]?=some fc/\fc.body=some c/\c.wp P (bodyPost P fc fun e w'=>∃ρ' u,ρ.le ρ'/\e=.returned u/\Rel Prot w0 ρ' H1 w'/\ag ρ' (io xs) u) { tmps:=vs++Array.replicate (fc.ntmps-vs.size) undef,defers:=[] } w:=by
 obtain⟨fc,c,h1,h2,h3,h4,h5,h6⟩:=mS hfn
 refine⟨fc,c,h1,h2,?_⟩
 have hst:=kA (ρ:=ρ) hv hlen
 rw[h4]
 refine wp_mono (qB hfol (Prot:=Prot) (w0:=w0) (ds:=[]) hb.h0 hc.ok _ _ h5 ρ _ T H H1 e _ w R hst rfl hx) ?_
 rintro e' a' w' ⟨he,ρ',hl,R',ht',hd'⟩
 obtain⟨u,r1,r2⟩:=ib (P:=P) R' ht' h6 hxs
 cases e with
 | normal=>simp only at he; subst he; exact⟨hd',u,r1,ρ',u,hl,rfl,R',r2⟩
 | exit id=>exact (hne _ rfl).elim
 | ret=>simp only at he; subst he; exact⟨hd',u,r1,ρ',u,hl,rfl,R',r2⟩
theorem kx{ops:Array Oper}{cs:List Frame}{Q:Exit->Act->List Frame->World->Prop}(hno:¬LetsOut fun e a w=>Q e a cs w):∀(l:List Nat) (a:Act) (w:World),wpOps P ops (fun e a w=>Q e a cs w) l a w->wpOpsS P ops Q l a cs w
 | [],a,w,h=>h
 | i::rest,a,w,h=>by
  simp only[wpOps]at h
  simp only[wpOpsS]
  cases ho:ops[i]? with
  | none=>rw[ho]at h; exact kx hno rest a w h
  | some o=>
   rw[ho]at h
   simp only at h ⊢
   split at h
   ·rename_i hw
    rw[if_pos hw]
    rcases h with h | ⟨_,h⟩
    ·have h':=Oper.wp_mono (K':=fun a' w'=>wpOpsS P ops Q rest a' cs w') (fun a' w' hh=>kx hno rest a' w' hh) h
     unfold Oper.wp at h'
     generalize (execOp a.eval o).run P w=r at h'
     split
     ·simp only[Oper.upon]at h'
     ·exact h'
    ·exact (hno h).elim
   ·rename_i hw
    rw[if_neg hw]
    exact kx hno rest _ w h
end
end Go.Abs
namespace Go.Abs
section
variable {P:Program} {Prot:Gh} {w0:World} {ρ:Pl} {H H':ae} {w:World}
theorem yP{tb:FuncId->Bool}{call:FuncId->List af->ae->Option (af×ae)}{n k d:Nat}(hd:d<n)(hk:k<=d)(T:Tr af)(H:ae):∃T1,be tb call (uB n k d) T H=some (T1,H) /\
  ∀t,ev T1 (.t t)=if t=n then aN else if t=d then ev T (.t k) else if t=k then aN else ev T (.t t):=by
 refine⟨_,by simp only[uB,be,fR,cond_true,bG,aO]; rfl,fun t=>?_⟩
 by_cases h1:t=n
 ·rw[aS,if_pos h1,if_pos h1]; rfl
 ·rw[aS,if_neg h1,if_neg h1]
  by_cases h2:t=d
  ·rw[aS,if_pos h2,if_pos h2,aS,if_neg om,aS,if_pos rfl]
  ·rw[aS,if_neg h2,if_neg h2]
   by_cases h3:t=k
   ·rw[aS,if_pos h3,if_pos h3]; rfl
   ·rw[aS,if_neg h3,if_neg h3,aS,if_neg h1]
theorem Lf(hfol:P.follows .mixedOrders=true){tb:FuncId->Bool}(hb:Jo P tb){call:FuncId->List af->ae->Option (af×ae)}(hc:Cs P call){k:Nat}{G:FuncId}{fn:cg}(hfn:GI P G=some fn)
  {args:List af} {x:af} (hlen:args.length=kZ P G) {e:pt} {T:Tr af} {H1:ae} (hx:aK tb call k fn.body (cC (args++[x]) 0 .e) H=some (e,T,H1)) (hne:∀i,e≠.exit i) {vs:Array Value} {xv:Value} {u:FrameMode} (R:Rel Prot w0 ρ H w) (hv:ah ρ args vs.toList) (hxv:ag ρ x xv) (hu:Ma u xv) :
  CallsD P G vs u w fun e u' w'=>settle u'=.returning/\∃ρ' y,ρ.le ρ'/\e=.returned y/\Rel Prot w0 ρ' H1 w':=by
 obtain⟨fc,c,ops,d,os,rest,l,r,h1,h2,h3,h4,h5,h6,h7,hd,hkd,rfl⟩:=tN hfn
 obtain⟨i0,o,oa,ots,rfl,hops,hop,hod,hog⟩:=rF h5
 have hvl:args.length=vs.size:=by have:=ah.len hv; simpa using this
 obtain⟨T1,t1,t2⟩:=yP (tb:=tb) (call:=call) hd hkd (cC (args++[x]) 0 .e) H
 simp only[aK,t1]at hx
 cases hl:be tb call l T1 H with
 | none=>rw[hl]at hx; simp at hx
 | some q=>
  obtain⟨T2,H2⟩:=q
  rw[hl]at hx
  simp only at hx
  have hst:=kA (ρ:=ρ) hv (show args.length<=fc.ntmps by omega)
  have hput:aJ ρ fc.ntmps T1 ((({ tmps:=vs++Array.replicate (fc.ntmps-vs.size) undef,defers:=[] }:Act).put (some d) xv).tmps):=by
   have hp:=bu (a:={ tmps:=vs++Array.replicate (fc.ntmps-vs.size) undef,defers:=[] }) (n:=fc.ntmps) hst (dst:=some d) (Pt hd) hxv
   refine⟨hp.size,fun t=>?_⟩
   have hat:=hp.at_ t
   have e:ev T1 (.t t)=ev (aO (cC args 0 .e) (some d) x) (.t t):=by
    rw[t2 t,mN,mV args vs.toList 0 .e hv (fun _ _=>rfl) t]
    have hvx:ah ρ (args++[x]) (vs.push xv).toList:=by
     rw[Array.toList_push]
     exact ah.append hv (by simp only[ah]; exact⟨_,_,rfl,hxv,rfl⟩)
    rw[mV (args++[x]) _ 0 .e hvx (fun _ _=>rfl) t,mV (args++[x]) _ 0 .e hvx (fun _ _=>rfl) (kZ P G)]
    simp only[Nat.not_lt_zero,if_false,Nat.sub_zero,sJ]
    by_cases q1:t=fc.ntmps
    ·subst q1
     rw[if_pos rfl,if_neg om,PL om]
    ·rw[if_neg q1]
     by_cases q2:t=d
     ·subst q2
      rw[if_pos rfl,if_pos rfl,<- hlen,PK rL,Nat.sub_self]
      rfl
     ·rw[if_neg q2,if_neg (show ¬d=t from fun q=>q2 q.symm)]
      by_cases q3:t=kZ P G
      ·rw[if_pos q3,PL om]
      ·rw[if_neg q3]
       by_cases q4:t<args.length
       ·rw[PJ q4]
       ·rw[PL (by simp; omega),PL om]
   rw[e]
   exact hat
  refine callsD_of_wpS h1 h2 fun c₀ cs hcu=>?_
  refine wpS_seq (wpS_region ?_)
  have hsz:ops.size=os.length+1:=by have:=congrArg List.length hops; simpa using this
  have ho:ops[0]?=some o:=by
   have:ops.toList[0]?=some o:=by rw[hops]; rfl
   simpa using this
  have hnx:∀j,os[j]?=ops[1+j]?:=fun j=>by
   have:ops.toList[1+j]?=os[j]?:=by rw[hops,show 1+j=j+1 by omega,PC]
   rw[<- this]; simp
  rw[List.range_eq_range',hsz,List.range'_succ]
  simp only[wpOpsS,ho]
  have hw:Region.wanted o (yielded ops (vs++Array.replicate (fc.ntmps-vs.size) undef))=true:=by simp[Region.wanted,hog]
  rw[if_pos hw]
  have hrun:∀a:Act,(execOp a.eval o).run P w=.ok .recover w:=fun a=>by
   obtain⟨dst,op,type,pos,after,guard⟩:=o
   simp only at hop
   subst hop
   rfl
  rw[hrun]
  simp only
  have key:∀(u':FrameMode),settle u'=.returning->wpOpsS P ops (Exit.thenS (rest.wpS P (bodyPostS P fc c₀ cs fun e u' w'=>settle u'=.returning/\∃ρ' y,ρ.le ρ'/\e=.returned y/\Rel Prot w0 ρ' H1 w')) (bodyPostS P fc c₀ cs fun e u' w'=>settle u'=.returning/\∃ρ' y,ρ.le ρ'/\e=.returned y/\Rel Prot w0 ρ' H1 w')) (List.range' (0+1) os.length)
    (({ tmps:=vs++Array.replicate (fc.ntmps-vs.size) undef,defers:=[] }:Act).put o.dst xv) ({ c₀ with mode:=u' }::cs) w:=by
   intro u' hset
   refine kx ?_ _ _ _ ?_
   ·rintro ⟨a,w',u2,_,ρ',y,_,hh,_⟩
    simp at hh
   ·rw[hod]
    refine wj (Prot:=Prot) (w0:=w0) (ds:=[]) hb.h0 hc.ok os (0+1) l hnx h6 ρ ρ T1 T2 H H2 _ w (Pl.le_refl _) R hput rfl hl ?_
    rintro a' w' ⟨ρ',q1,q2,q3,q4⟩
    show rest.wpS P _ a' _ w'
    refine wpS_of_wp (wp_mono (qB hfol (Prot:=Prot) (w0:=w0) (ds:=[]) hb.h0 hc.ok rest r h7 ρ' T2 T H2 H1 e a' w' q2 q3 q4 hx) ?_)
    rintro e' a2 w2 ⟨he,ρ2,z1,z2,z3,z4⟩
    have hfin:a2.defers=[]/\∃u2,({ c₀ with mode:=u' }::cs:List Frame)={ c₀ with mode:=u2 }::cs/\∃v,(results fc a2.tmps).run P w2=.ok v w2/\(settle u2=.returning/\∃ρ' y,ρ.le ρ'/\Ending.returned v=.returned y/\Rel Prot w0 ρ' H1 w2):=
     ⟨z4,u',rfl,.tuple #[],by simp[results,h4],hset,ρ2,.tuple #[],Pl.le_trans q1 z1,rfl,z2⟩
    cases e with
    | normal=>simp only at he; subst he; exact hfin
    | exit id=>exact (hne _ rfl).elim
    | ret=>simp only at he; subst he; exact hfin
  rcases hu with⟨rfl,rfl⟩ | rfl
  ·have hrec:recoverD (c₀::cs)=none:=by simp[recoverD,hcu]
   rw[hrec]
   have:=key .returning rfl
   rwa [show ({ c₀ with mode:=.returning }:Frame)=c₀ by rw[<- hcu]]at this
  ·have hrec:recoverD (c₀::cs)=some (xv,{ c₀ with mode:=.panicking [{ v:=xv,recovered:=true }] }::cs):=by simp[recoverD,hcu]
   rw[hrec]
   exact key _ rfl
theorem kS{N:gU}{tab:Tr cg}{n:Nat}{f:FuncId}{args:List af}{v:af}(hi:N.is f=false)(h:cG N tab (n+1) f args H=some (v,H')) :
  ∃fn e T xs,tab.get f=some fn/\args.length<=fn.nt/\aK (vC N tab) (cG N tab n) n fn.body (cC args 0 .e) H=some (e,T,H')/\(∀i,e≠.exit i)/\hJ T H' fn.res=some xs/\v=io xs:=by
 simp only[cG,hi,cond_false]at h
 split at h
 ·rename_i fn hf
  cases hb:Nat.ble args.length fn.nt with
  | false=>rw[hb]at h; simp at h
  | true=>
   rw[hb]at h
   simp only[cond_true]at h
   split at h
   ·simp at h
   ·rename_i e T H1 hne hx
    split at h
    ·rename_i xs hxs
     simp only[sJ,pJ]at h
     obtain⟨rfl,rfl⟩:=h
     exact⟨fn,e,T,xs,hf,Px hb,hx,fun i q=>hne i q,hxs,rfl⟩
    ·simp at h
   ·simp at h
 ·simp at h
theorem DI(hfol:P.follows .mixedOrders=true){N:gU}(hN:yp P N){tab:Tr cg}(hT:Cp P tab):∀n,Cs P (cG N tab n):=by
 have hnat:∀(m f:Nat),0<m->N.is (m*bO+f)=false:=fun m f hm=>by
  cases hi:N.is (m*bO+f) with
  | false=>rfl
  | true=>
   have:=hN.body _ hi
   simp only[bc,Pu]at this
   have:=dU this.1
   have:bO<=m*bO:=Nat.le_mul_of_pos_left _ hm
   omega
 have hget:∀f,N.is f=false->vC N tab f=true->∃fn,tab.get f=some fn:=fun f hi h=>by
  unfold vC at h
  rw[hi]at h
  simp only[cond_false]at h
  split at h
  ·rename_i fn hf; exact⟨fn,hf⟩
  ·simp at h
 have e1:∀f:Nat,bO+f=1*bO+f:=fun f=>om
 have htb:Jo P (vC N tab):=by
  refine⟨fun f hf h=>?_,fun f hf h=>?_,fun f hf h=>?_,fun f hf h=>?_⟩
  ·cases hi:N.is f with
   | true=>exact hN.body f hi
   | false=>
    obtain⟨fn,hg⟩:=hget f hi h
    obtain⟨md,he⟩:=hT _ _ hg
    rcases Gw hf he with h9 | ⟨m,h9⟩
    ·obtain⟨fc,c,q1,q2,q3,_⟩:=mS h9; exact jy hf q1 q2 q3
    ·obtain⟨fc,c,b,r,q1,q2,q3,_⟩:=kP h9; exact jy hf q1 q2 q3
  ·obtain⟨fn,hg⟩:=hget _ (by rw[e1]; exact hnat 1 f om) h
   obtain⟨md,he⟩:=hT _ _ hg
   obtain⟨m,h9⟩:=J6 hf he
   obtain⟨fc,c,b,r,q1,q2,q3,_⟩:=kP h9; exact jy hf q1 q2 q3
  ·obtain⟨fn,hg⟩:=hget _ (hnat 2 f om) h
   obtain⟨md,he⟩:=hT _ _ hg
   have h9:=J5 hf he
   obtain⟨fc,c,ops,d,os,rest,l,r,q1,q2,q3,_⟩:=tN h9; exact jy hf q1 q2 q3
  ·obtain⟨fn,hg⟩:=hget _ (hnat 3 f om) h
   obtain⟨md,he⟩:=hT _ _ hg
   have h9:=J4 hf he
   obtain⟨fc,c,q1,q2,q3,_⟩:=mS h9; exact jy hf q1 q2 q3
 intro n
 induction n with
 | zero=>
  refine⟨fun f args H v H' _ h=>by simp[cG]at h,fun f args H v H' _ h=>by simp[cG]at h,fun f args H v H' _ h=>by simp[cG]at h,fun f args x H v H' _ _ h=>by simp[cG]at h⟩
 | succ n ih=>
  refine⟨fun f args H v H' hf h Prot w0 ρ w vs R hv=>?_,fun f args H v H' hf h Prot w0 ρ w vs R hv=>?_,fun f args H v H' hf h Prot w0 ρ w vs R hv=>?_,fun f args x H v H' hf hlen h Prot w0 ρ w vs xv u R hv hxv hu=>?_⟩
  ·cases hi:N.is f with
   | true=>simp only[cG,hi,cond_true]at h; exact hN.run f args H v H' hf h Prot w0 ρ w vs R hv
   | false=>
    obtain⟨fn,e,T,xs,hg,hl,hx,hne,hxs,rfl⟩:=kS hi h
    obtain⟨md,he⟩:=hT _ _ hg
    rcases Gw hf he with h9 | ⟨m,h9⟩
    ·obtain⟨fc,c,q1,q2,q3⟩:=JZ hfol htb ih h9 hl hx hne hxs R hv
     exact calls_of_wp q1 q2 q3
    ·refine (Gi hfol htb ih h9 hl hx hne hxs R hv).mono fun e' w' hr=>?_
     obtain⟨ρ',r1,r2,⟨y,rfl,r3⟩ | ⟨h8,_⟩⟩:=hr
     ·exact⟨ρ',y,r1,rfl,r2,r3⟩
     ·simp at h8
  ·obtain⟨fn,e,T,xs,hg,hl,hx,hne,hxs,rfl⟩:=kS (by rw[e1]; exact hnat 1 f om) h
   obtain⟨md,he⟩:=hT _ _ hg
   obtain⟨m,h9⟩:=J6 hf he
   refine (Gi hfol htb ih h9 hl hx hne hxs R hv).mono fun e' w' hr=>?_
   obtain⟨ρ',r1,r2,⟨y,rfl,r3⟩ | ⟨_,x,y,r3,rfl,r4⟩⟩:=hr
   ·exact⟨ρ',r1,r2,.inl ⟨y,rfl,r3⟩⟩
   ·exact⟨ρ',r1,r2,.inr ⟨x,y,r3,rfl,r4⟩⟩
  ·obtain⟨fn,e,T,xs,hg,hl,hx,hne,hxs,rfl⟩:=kS (hnat 3 f om) h
   obtain⟨md,he⟩:=hT _ _ hg
   obtain⟨fc,c,q1,q2,q3⟩:=JZ hfol htb ih (J4 hf he) hl hx hne hxs R hv
   refine (callsD_of_wp q1 q2 q3).mono ?_
   rintro e' u' w' ⟨rfl,ρ',y,r1,rfl,r2,_⟩
   exact⟨rfl,ρ',y,r1,rfl,r2⟩
  ·obtain⟨fn,e,T,xs,hg,hl,hx,hne,hxs,rfl⟩:=kS (hnat 2 f om) h
   obtain⟨md,he⟩:=hT _ _ hg
   exact Lf hfol htb ih (J5 hf he) hlen hx hne R hv hxv hu
theorem yk(hfol:P.follows .mixedOrders=true){N:gU}(hN:yp P N){tab:Tr cg}(hT:Cp P tab)(n:Nat):gR P (cG N tab n):=(DI hfol hN hT n).ok
end
end Go.Abs
namespace Go.Abs
section
variable {P:Program}
def H0:ae:=⟨0,.e⟩
theorem Rel.below{w0:World}{ρ:Pl}{H:ae}{w:World}(R:Rel ⟨fun c=>c<w0.heap.size,fun _=>False⟩ w0 ρ H w):RowKit.Below w0.heap.size w0 w:=
 ⟨R.os,R.tape,R.output,R.size,fun k hk=>(R.prot k hk).2⟩
end
end Go.Abs
namespace Go.Abs.S
open Go.Abs
abbrev bN:=Nat->af
def en(T:Tr af):bN:=fun i=>ev T (.t i)
def up(T:bN)(i:Nat)(v:af):bN:=fun j=>bif Nat.beq j i then v else T j
def gX(T:bN):Option Nat->af->bN
 | some d,v=>up T d v
 | none,_=>T
theorem Gv(T:Tr af)(i:Nat)(v:af):en (T.set i v)=up (en T) i v:=by
 funext j
 simp only[en,up,ev,Tr.get_set,dM]
 by_cases h:j=i
 ·rw[if_pos h,decide_eq_true h]; rfl
 ·rw[if_neg h,decide_eq_false h]; rfl
theorem Ab(T:Tr af)(d:Option Nat)(v:af):en (aO T d v)=gX (en T) d v:=by
 cases d <;> simp only[aO,gX,Gv]
def sX(T:bN):bb->af
 | .t i=>T i
 | .c v=>v
 | .f id=>.func (.func id) [] []
def ot(T:bN):List bb->List af
 | []=>[]
 | x::r=>sX T x::ot T r
def nc(T:bN):Option bb->Option af
 | none=>none
 | some x=>some (sX T x)
def DT(T:bN):List (Nat×Nat×bb)->List (Nat×Nat×af)
 | []=>[]
 | (o,n,x)::r=>(o,n,sX T x)::DT T r
theorem ou(T:Tr af)(x:bb):sX (en T) x=ev T x:=by cases x <;> rfl
theorem uy(T:Tr af):∀l:List bb,ot (en T) l=eX T l
 | []=>rfl
 | x::r=>by simp only[ot,eX,ou,uy T r]
theorem KA(T:Tr af)(x:Option bb):nc (en T) x=xg T x:=by cases x <;> simp only[nc,xg,ou]
theorem Fa(T:Tr af):∀l:List (Nat×Nat×bb),DT (en T) l=yw T l
 | []=>rfl
 | (o,n,x)::r=>by simp only[DT,yw,ou,Fa T r]
abbrev Mf(b:Bool):af->Bool:=NA b
def sG(T:bN):Option (Nat×Bool)->Bool
 | none=>true
 | some (t,b)=>gV t b (T (gS t))
theorem Fb(T:Tr af)(g:Option (Nat×Bool)):sG (en T) g=fR T g:=by
 cases g with
 | none=>rfl
 | some p=>rfl
theorem Le{K t:Nat}(h:t<K):Nat.ble K t=false:=by
 cases hb:Nat.ble K t with
 | false=>rfl
 | true=>have:=Px hb; omega
theorem MM{t:Nat}(h:Nat.ble SK t=false):gS t=t:=by unfold gS; rw[h]; rfl
theorem KB(T:bN){t:Nat}(h:Nat.ble SK t=false)(b:Bool):sG T (some (t,b))=Mf b (T t):=by
 simp only[sG,gV,MM h,h,cond_false]
theorem JM(T:bN){t:Nat}(h:t<1000000)(b:Bool):sG T (some (t,b))=Mf b (T t):=KB T (Le h) b
def dn{α:Type}(o:Option α)(K:α->Prop):Prop:=∃v,o=some v/\K v
theorem cO{α:Type}(x:α)(K:α->Prop):dn (some x) K=K x:=by simp[dn]
theorem dn.mono{α:Type}{o:Option α}{K K':α->Prop}(h:dn o K)(hk:∀v,K v->K' v):dn o K':=by
 obtain⟨v,h1,h2⟩:=h; exact⟨v,h1,hk v h2⟩
abbrev CS:=FuncId->List af->ae->(af->ae->Prop)->Prop
section
variable (C:CS)
def Cw(T:bN)(H:ae)(K:af->ae->Prop):gT->Prop
 | .mv x=>K (sX T x) H
 | .pick c a b=>∃b',sX T c=.bool b'/\K (bif b' then sX T a else sX T b) H
 | .new z=>K (eR H z).1 (eR H z).2
 | .box x=>K (eR H (sX T x).cells).1 (eR H (sX T x).cells).2
 | .build z ps=>dn (cj z (DT T ps)) fun v=>K v H
 | .buildSl n z ps=>dn (cf n z H (DT T ps)) fun p=>K p.1 p.2
 | .load a n x=>dn (bi a n H (sX T x)) fun v=>K v H
 | .store n a x=>dn (bD n H (sX T a) (sX T x)) fun H'=>K aN H'
 | .nilChk x=>dn (ck (sX T x)) fun v=>K v H
 | .bin op x y=>dn (cq op (sX T x) (sX T y)) fun v=>K v H
 | .un op x=>dn (DV op (sX T x)) fun v=>K v H
 | .conv k x=>dn (oM k (sX T x)) fun v=>K v H
 | .convSB x=>dn (Mk H (sX T x)) fun p=>K p.1 p.2
 | .convBS x=>dn (DL H (sX T x)) fun v=>K v H
 | .mkFunc fn a b=>K (.func fn (ot T a) (ot T b)) H
 | .mkIface t x=>K (.iface t (sX T x)) H
 | .mkSlice b z l c=>dn (gO b z H (sX T l) (sX T c)) fun p=>K p.1 p.2
 | .sl n x lo hi mx=>dn (Hk n (sX T x) (nc T lo) (nc T hi) (nc T mx)) fun v=>K v H
 | .slStr x lo hi=>dn (fh (sX T x) (nc T lo) (nc T hi)) fun v=>K v H
 | .fieldA o x=>dn (gQ o (sX T x)) fun v=>K v H
 | .field a n o x=>dn (kT a n o (sX T x)) fun v=>K v H
 | .idxA n x i=>dn (gP n (sX T x) (sX T i)) fun v=>K v H
 | .idxArr m n x i=>dn (iy m n (sX T x) (sX T i)) fun v=>K v H
 | .idx m n a x i=>dn (DK m n a (sX T x) (sX T i)) fun v=>K v H
 | .idxS x i=>dn (jg (sX T x) (sX T i)) fun v=>K v H
 | .extract i x=>dn (dE i (sX T x)) fun v=>K v H
 | .append n b s x=>dn (bE n b H (sX T s) (sX T x)) fun p=>K p.1 p.2
 | .len s x=>dn (gd s (sX T x)) fun v=>K v H
 | .call f args=>C f (ot T args) H K
 | .callv f args=>∃g a b,sX T f=.func (.func g) a b/\Nat.blt g bO=true/\C g (a++ot T args++b) H K
 | .pf f xs=>dn (iu f (ot T xs)) fun v=>K v H
 | .hf f xs=>dn (mY f H (ot T xs)) fun p=>K p.1 p.2
 | .bad=>False
 | .claim b z s=>dn (rf H b z s) fun v=>K v H
 | .slA m n x lo hi mx=>dn (iG m n (sX T x) (nc T lo) (nc T hi) (nc T mx)) fun v=>K v H
def aW:List ak->bN->ae->(bN->ae->Prop)->Prop
 | [],T,H,K=>K T H
 | o::r,T,H,K=>bif sG T o.guard then Cw C T H (fun v H'=>aW r (gX T o.dst v) H' K) o.op else aW r (gX T o.dst aN) H K
def ee:List ak->bN->ae->(List (af×ae)->bN->ae->Prop)->Prop
 | [],T,H,K=>K [] T H
 | o::r,T,H,K=>bif sG T o.guard then Cw C T H (fun v H'=>ee r (gX T o.dst v) H' fun ss=>K ((v,H')::ss)) o.op else ee r (gX T o.dst aN) H fun ss=>K ((aN,H)::ss)
end
def Nu(T:bN)(H:ae):gT->Option af
 | .load a n x=>bi a n H (sX T x)
 | .claim b z s=>rf H b z s
 | _=>none
def yA(hs:List ae):List ak->List (List Nat)->List (af×ae)->bN->Prop
 | o::os,ps::pss,(v,_)::ss,T=>(∀p∈ps,∃Hp,hs[p]?=some Hp/\(sG T o.guard=true->∃u,Nu T Hp o.op=some u/\aeq u v=true))/\yA hs os pss ss (gX T o.dst v)
 | _,_,_,_=>True
def AD(C:CS)(l:List ak)(chk:List (List Nat))(T:bN)(H:ae)(K:bN->ae->Prop):Prop:=ee C l T H fun ss T' H'=>yA (H::ss.map (·.2)) l chk ss T/\K T' H'
abbrev kU:=pt->bN->ae->Prop
def j7(id:Nat)(Q:kU):kU:=fun e T H=>match e with
 | .exit j=>bif Nat.beq j id then Q .normal T H else Q (.exit j) T H
 | e=>Q e T H
def jG(Q:kU)(K:bN->ae->Prop):kU:=fun e T H=>match e with
 | .normal=>K T H
 | e=>Q e T H
def wp(C:CS):bh->kU->bN->ae->Prop
 | .skip,Q,T,H=>Q .normal T H
 | .reg ops,Q,T,H=>aW C ops T H (Q .normal)
 | .draw ops chk,Q,T,H=>AD C (aB H.next ops) chk T (bT H ops) (Q .normal)
 | .seq a b,Q,T,H=>wp C a (jG Q (wp C b Q)) T H
 | .cond c a b,Q,T,H=>∃v,sX T c=.bool v/\bif v then wp C a Q T H else wp C b Q T H
 | .block id c,Q,T,H=>wp C c (j7 id Q) T H
 | .loop c,Q,T,H=>∃(I:Nat->bN->ae->Prop),(∃m,I m T H)/\∀m T H,I m T H->wp C c (jG Q fun T' H'=>∃m',m'<m/\I m' T' H') T H
 | .exit id,Q,T,H=>Q (.exit id) T H
 | .ret,Q,T,H=>Q .ret T H
section
variable {tb:FuncId->Bool}
def HI(c d:FuncId->List af->ae->Option (af×ae)):Prop:=∀f a H r,c f a H=some r->d f a H=some r
theorem HI.refl(c):HI c c:=fun _ _ _ _ h=>h
theorem jC{c d}(h:HI c d){o:ak}{T:Tr af}{H:ae}{r}(e:bw tb c o T H=some r):bw tb d o T H=some r:=by
 unfold bw at e ⊢
 cases hg:fR T o.guard with
 | false=>rw[hg]at e; exact e
 | true=>
  rw[hg]at e
  simp only[cond_true]at e ⊢
  split at e
  ·exact e
  ·exact h _ _ _ _ e
  ·simp at e
theorem lM{c d}(h:HI c d):∀(l:List ak) {T:Tr af} {H:ae} {r},be tb c l T H=some r->be tb d l T H=some r
 | [],_,_,_,e=>e
 | o::l,T,H,r,e=>by
  have hs:∀c,be tb c (o::l) T H=match bw tb c o T H with | some (v,H')=>be tb c l (aO T o.dst v) H' | none=>none:=by
   intro c
   simp only[be,bw]
   cases fR T o.guard with
   | false=>rfl
   | true=>
    simp only[cond_true]
    cases bG tb T H o.op with
    | none=>rfl
    | some p=>obtain⟨nx,H'⟩:=p; cases nx <;> rfl
  rw[hs]at e ⊢
  split at e
  ·rename_i v H' hv
   rw[jC h hv]
   exact lM h l e
  ·simp at e
theorem km{c d}(h:HI c d):∀(l:List ak) {T:Tr af} {H:ae} {r},cp tb c l T H=some r->cp tb d l T H=some r
 | [],_,_,_,e=>e
 | o::l,T,H,r,e=>by
  simp only[cp]at e ⊢
  split at e
  ·rename_i v H' hv
   rw[jC h hv]
   split at e
   ·rename_i s hs
    simp only[km h l hs]
    exact e
   ·simp at e
  ·simp at e
theorem lN{f g:Tr af->ae->Option (pt×Tr af×ae)}(h:∀T H r,f T H=some r->g T H=some r):∀(n m:Nat) (T:Tr af) (H:ae) (r),n<=m->iq f n T H=some r->iq g m T H=some r
 | 0,_,_,_,_,_,e=>by simp[iq]at e
 | n+1,0,_,_,_,hl,_=>om
 | n+1,m+1,T,H,r,hl,e=>by
  simp only[iq]at e ⊢
  split at e
  ·rename_i T' H' hv
   rw[h _ _ _ hv]
   exact lN h n m T' H' r om e
  ·rename_i e' T' H' hne hv
   rw[h _ _ _ hv]
   cases e' with
   | normal=>exact absurd rfl hne
   | exit i=>exact e
   | ret=>exact e
  ·simp at e
theorem fI{c d}(h:HI c d){k k':Nat}(hk:k<=k'):∀(x:bh) (T:Tr af) (H:ae) (r),aK tb c k x T H=some r->aK tb d k' x T H=some r:=by
 intro x
 induction x with
 | skip=>intro T H r e; exact e
 | reg l=>
  intro T H r e
  simp only[aK]at e ⊢
  split at e
  ·rename_i T' H' hv; rw[lM h l hv]; exact e
  ·simp at e
 | draw l chk=>
  intro T H r e
  simp only[aK,kq]at e ⊢
  split at e
  ·rename_i ss hv; rw[km h _ hv]; exact e
  ·simp at e
 | seq a b iha ihb=>
  intro T H r e
  simp only[aK]at e ⊢
  split at e
  ·rename_i T' H' hv; rw[iha _ _ _ hv]; exact ihb _ _ _ e
  ·rename_i e' T' H' hne hv
   rw[iha _ _ _ hv]
   cases e' with
   | normal=>exact absurd rfl hne
   | exit i=>exact e
   | ret=>exact e
  ·simp at e
 | cond c a b iha ihb=>
  intro T H r e
  simp only[aK]at e ⊢
  split at e
  ·exact iha _ _ _ e
  ·exact ihb _ _ _ e
  ·simp at e
 | block id c ih=>
  intro T H r e
  simp only[aK]at e ⊢
  split at e
  ·rename_i j T' H' hv; rw[ih _ _ _ hv]; exact e
  ·rename_i e' T' H' hne hv
   rw[ih _ _ _ hv]
   cases e' with
   | exit i=>exact absurd rfl (hne i)
   | normal=>exact e
   | ret=>exact e
  ·simp at e
 | loop c ih=>
  intro T H r e
  simp only[aK]at e ⊢
  exact lN (fun T H r hr=>ih T H r hr) k k' T H r hk e
 | exit id=>intro T H r e; exact e
 | ret=>intro T H r e; exact e
theorem oL{N:gU}{tab:Tr cg}:∀(n:Nat),HI (cG N tab n) (cG N tab (n+1))
 | 0=>fun f a H r e=>by simp[cG]at e
 | n+1=>fun f a H r e=>by
  have ih:=oL (N:=N) (tab:=tab) n
  rw[cG]at e ⊢
  cases hn:N.is f with
  | true=>rw[hn]at e; exact e
  | false=>
   rw[hn]at e
   simp only[cond_false]at e ⊢
   split at e
   ·rename_i fn hf
    cases hb:Nat.ble a.length fn.nt with
    | false=>rw[hb]at e; simp at e
    | true=>
     rw[hb]at e
     simp only[cond_true]at e ⊢
     split at e
     ·simp at e
     ·rename_i e' T' H' hne hv
      rw[fI ih (Nat.le_succ n) _ _ _ _ hv]
      cases e' with
      | exit i=>exact (hne i rfl).elim
      | normal=>exact e
      | ret=>exact e
     ·simp at e
   ·simp at e
theorem dx{N:gU}{tab:Tr cg}{n m:Nat}(h:n<=m):HI (cG N tab n) (cG N tab m):=by
 induction m with
 | zero => obtain rfl : n = 0 := by omega
           exact HI.refl _
 | succ m ih=>
  by_cases e:n=m+1
  ·subst e; exact HI.refl _
  ·exact fun f a H r hr=>oL m _ _ _ _ (ih om _ _ _ _ hr)
end
end Go.Abs.S
namespace Go.Abs.S
open Go.Abs
def EN(P:Program)(N:gU):Nat->Tr cg
 | 0=>.e
 | n+1=>match xm P (N.md (n % bO)) n with
  | some c=>(EN P N n).set n c
  | none=>EN P N n
def fW(P:Program)(N:gU):Tr cg:=EN P N (4*bO)
theorem lY(P:Program)(N:gU):∀(n f:Nat),(EN P N n).get f=if f<n then xm P (N.md (f % bO)) f else none
 | 0,f=>by rw[if_neg om]; cases f <;> rfl
 | n+1,f=>by
  simp only[EN]
  cases hc:xm P (N.md (n % bO)) n with
  | none=>
   simp only[lY P N n f]
   by_cases h:f<n
   ·rw[if_pos h,if_pos om]
   ·by_cases e:f=n
    ·subst e; rw[if_neg h,if_pos om,hc]
    ·rw[if_neg h,if_neg om]
  | some c=>
   simp only[Tr.get_set,lY P N n f]
   by_cases e:f=n
   ·subst e; rw[if_pos rfl,if_pos om,hc]
   ·rw[if_neg e]
    by_cases h:f<n
    ·rw[if_pos h,if_pos om]
    ·rw[if_neg h,if_neg om]
theorem oV(P:Program)(N:gU):Cp P (fW P N):=by
 intro f fn h
 rw[fW,lY]at h
 split at h
 ·exact⟨_,h⟩
 ·simp at h
theorem EM{P:Program}{N:gU}{f:Nat}{c:cg}(h:xm P (N.md (f % bO)) f=some c):(fW P N).get f=some c:=by
 have hf:f<4*bO:=by
  unfold xm at h
  cases h4:Nat.blt f (4*bO) with
  | true=>exact dU h4
  | false=>
   exfalso
   have h4':¬f<4*bO:=fun q=>by rw[show Nat.blt f (4*bO)=true from Pt q]at h4; simp at h4
   have h5:4*bO<=f:=Nat.not_lt.1 h4'
   have e1:Nat.blt f bO=false:=by rw[ey]; exact decide_eq_false om
   have e2:Nat.blt f (2*bO)=false:=by rw[ey]; exact decide_eq_false om
   have e3:Nat.blt f (3*bO)=false:=by rw[ey]; exact decide_eq_false om
   rw[e1,e2,e3,h4]at h
   simp at h
 rw[fW,lY,if_pos hf,h]
theorem Dr{P:Program}{N:gU}{f:FuncId}{c:cg}(h:HE P f=some c)(hm:N.md f=none)(hf:Nat.blt f bO=true):xm P (N.md (f % bO)) f=some c:=by
 rw[Nat.mod_eq_of_lt (dU hf),hm]
 unfold xm
 rw[hf]
 exact h
def aq(P:Program)(N:gU)(f:FuncId)(args:List af)(H:ae)(K:af->ae->Prop):Prop:=
 ∃n v H',cG N (fW P N) n f args H=some (v,H')/\K v H'
theorem aq.mono{P:Program}{N:gU}{f:FuncId}{args:List af}{H:ae}{K K':af->ae->Prop}(h:aq P N f args H K)(hk:∀v H',K v H'->K' v H'):aq P N f args H K':=by
 obtain⟨n,v,H',h1,h2⟩:=h; exact⟨n,v,H',h1,hk _ _ h2⟩
section
variable {P:Program} {N:gU}
theorem yj{n:Nat}{f:FuncId}{args:List af}{H:ae}{r}(h:cG N (fW P N) n f args H=some r):vC N (fW P N) f=true:=by
 cases n with
 | zero=>simp[cG]at h
 | succ n=>
  rw[cG]at h
  unfold vC
  cases hn:N.is f with
  | true=>rfl
  | false=>
   rw[hn]at h
   simp only[cond_false]at h ⊢
   cases ht:(fW P N).get f with
   | none=>rw[ht]at h; simp at h
   | some c=>rfl
theorem Cv{T:Tr af}{H:ae}{o:gT}{K:af->ae->Prop}(h:Cw (aq P N) (en T) H K o) :
  (∃v H',bG (vC N (fW P N)) T H o=some (.val v,H')/\K v H')∨(∃f args H' n v H'',bG (vC N (fW P N)) T H o=some (.enter f args,H')/\cG N (fW P N) n f args H'=some (v,H'')/\K v H''):=by
 cases o
 case call f args=>
  right
  simp only[Cw,uy]at h
  obtain⟨n,v,H',h1,h2⟩:=h
  exact⟨f,_,H,n,v,H',by simp only[bG,yj h1,cond_true],h1,h2⟩
 case callv f args=>
  right
  simp only[Cw,ou,uy]at h
  obtain⟨g,a,b,hf,hgb,n,v,H',h1,h2⟩:=h
  exact⟨g,_,H,n,v,H',by simp only[bG,hf,hgb,yj h1,Bool.and_true,cond_true],h1,h2⟩
 case pick c a b=>
  simp only[Cw,ou]at h
  obtain⟨b',h1,h2⟩:=h
  exact .inl ⟨_,_,by simp only[bG,h1],h2⟩
 case bad=>simp[Cw]at h
 all_goals
  left
  simp only[Cw,ou,uy,KA,Fa,dn]at h
  first
   | exact⟨_,_,rfl,h⟩
   | (obtain ⟨v, h1, h2⟩ := h
      refine ⟨_, _, ?_, h2⟩
      simp only [bG, h1]
      try rfl)
theorem oh{T:Tr af}{H:ae}{o:ak}{K:af->ae->Prop}(h:Cw (aq P N) (en T) H K o.op)(hg:fR T o.guard=true) :
  ∃n v H',bw (vC N (fW P N)) (cG N (fW P N) n) o T H=some (v,H')/\K v H':=by
 rcases Cv h with⟨v,H',h1,h2⟩ | ⟨f,args,H',n,v,H'',h1,h2,h3⟩
 ·exact⟨0,v,H',by simp only[bw,hg,cond_true,h1],h2⟩
 ·exact⟨n,v,H'',by simp only[bw,hg,cond_true,h1,h2],h3⟩
theorem At(tb:FuncId->Bool)(c)(o:ak)(l:List ak)(T:Tr af)(H:ae):be tb c (o::l) T H=match bw tb c o T H with | some (v,H')=>be tb c l (aO T o.dst v) H' | none=>none:=by
 simp only[be,bw]
 cases fR T o.guard with
 | false=>rfl
 | true=>
  simp only[cond_true]
  cases bG tb T H o.op with
  | none=>rfl
  | some p=>obtain⟨nx,H'⟩:=p; cases nx <;> rfl
theorem oi:∀(l:List ak) {T:Tr af} {H:ae} {K:bN->ae->Prop},aW (aq P N) l (en T) H K ->
  ∃n T' H',be (vC N (fW P N)) (cG N (fW P N) n) l T H=some (T',H')/\K (en T') H'
 | [],T,H,K,h=>⟨0,T,H,rfl,h⟩
 | o::l,T,H,K,h=>by
  simp only[aW,Fb]at h
  have:∃n v H',bw (vC N (fW P N)) (cG N (fW P N) n) o T H=some (v,H')/\aW (aq P N) l (gX (en T) o.dst v) H' K:=by
   cases hg:fR T o.guard with
   | true=>rw[hg]at h; exact oh h hg
   | false=>rw[hg]at h; exact⟨0,aN,H,by simp only[bw,hg,cond_false],h⟩
  obtain⟨n,v,H',h1,h2⟩:=this
  rw[<- Ab]at h2
  obtain⟨m,T2,H2,h3,h4⟩:=oi l h2
  refine⟨max n m,T2,H2,?_,h4⟩
  rw[At,jC (dx (Nat.le_max_left n m)) h1]
  exact lM (dx (Nat.le_max_right n m)) l h3
theorem rV:∀(l:List ak) {T:Tr af} {H:ae} {K:List (af×ae)->bN->ae->Prop},ee (aq P N) l (en T) H K->∀j,
  ∃n ss,cp (vC N (fW P N)) (cG N (fW P N) n) l T H=some ss/\K ss (en (bn (fun _=>true) j l ss T)) (dK H ss l.length)
 | [],T,H,K,h,j=>⟨0,[],rfl,h⟩
 | o::l,T,H,K,h,j=>by
  simp only[ee,Fb]at h
  have:∃n v H',bw (vC N (fW P N)) (cG N (fW P N) n) o T H=some (v,H')/\ee (aq P N) l (gX (en T) o.dst v) H' fun ss=>K ((v,H')::ss):=by
   cases hg:fR T o.guard with
   | true=>rw[hg]at h; exact oh h hg
   | false=>rw[hg]at h; exact⟨0,aN,H,by simp only[bw,hg,cond_false],h⟩
  obtain⟨n,v,H',h1,h2⟩:=this
  rw[<- Ab]at h2
  obtain⟨m,ss,h3,h4⟩:=rV l h2 (j+1)
  refine⟨max n m,(v,H')::ss,?_,?_⟩
  ·simp only[cp,jC (dx (Nat.le_max_left n m)) h1,km (dx (Nat.le_max_right n m)) l h3]
  ·have hl:=(fO l _ H' ss 0 h3).1
   have e:dK H' ss l.length=dK H ((v,H')::ss) (o::l).length:=by
    simp only[Pv]
    cases hr:l.length with
    | zero=>rfl
    | succ q=>
     simp only[dK,PC]
     rw[Pr om]
   rw[<- e]
   exact h4
theorem rW{tb:FuncId->Bool}{hs:List ae}:∀(l:List ak) (chk:List (List Nat)) (ss:List (af×ae)) (T:Tr af),yA hs l chk ss (en T)->eH tb hs l chk ss T=true
 | [],_,_,_,_=>rfl
 | o::l,[],_,_,_=>rfl
 | o::l,p::ps,[],_,_=>rfl
 | o::l,p::ps,(v,Hv)::ss,T,h=>by
  simp only[yA]at h
  obtain⟨h1,h2⟩:=h
  simp only[eH,Pu]
  refine⟨List.all_eq_true.2 fun q hq=>?_,rW l ps ss _ (by rw[Ab]; exact h2)⟩
  obtain⟨Hp,e1,e2⟩:=h1 q hq
  rw[e1]
  simp only
  cases hg:fR T o.guard with
  | false=>rfl
  | true=>
   obtain⟨u,u1,u2⟩:=e2 (by rw[Fb]; exact hg)
   simp only[cond_true]
   cases ho:o.op <;> rw[ho]at u1 <;> simp only[Nu,reduceCtorEq,ou]at u1
   ·simp only[bG,u1,vv]; exact u2
   ·simp only[bG,u1,vv]; exact u2
theorem oD{Q:kU}{K:bN->ae->Prop}{e:pt}{T:bN}{H:ae}(h:jG Q K e T H):(e=.normal/\K T H)∨(e≠.normal/\Q e T H):=by
 cases e with
 | normal=>exact .inl ⟨rfl,h⟩
 | exit i=>exact .inr ⟨by simp,h⟩
 | ret=>exact .inr ⟨by simp,h⟩
theorem vH:∀(c:bh) (Q:kU) (T:Tr af) (H:ae),wp (aq P N) c Q (en T) H ->
  ∃n e T' H',aK (vC N (fW P N)) (cG N (fW P N) n) n c T H=some (e,T',H')/\Q e (en T') H':=by
 intro c
 induction c with
 | skip=>intro Q T H h; exact⟨0,_,_,_,rfl,h⟩
 | reg l=>
  intro Q T H h
  obtain⟨n,T',H',h1,h2⟩:=oi l h
  exact⟨n,.normal,T',H',by simp only[aK,h1],h2⟩
 | draw l chk=>
  intro Q T H h
  simp only[wp,AD]at h
  obtain⟨n,ss,h1,h2,h3⟩:=rV (aB H.next l) h 0
  exact⟨n,.normal,_,_,by simp only[aK,kq,h1,rW (aB H.next l) chk ss T h2,cond_true],h3⟩
 | seq a b iha ihb=>
  intro Q T H h
  obtain⟨n,e,T1,H1,h1,h2⟩:=iha _ T H h
  rcases oD h2 with⟨rfl,h2⟩ | ⟨hne,h2⟩
  ·obtain⟨m,e2,T2,H2,h3,h4⟩:=ihb _ T1 H1 h2
   refine⟨max n m,e2,T2,H2,?_,h4⟩
   simp only[aK,fI (dx (Nat.le_max_left n m)) (Nat.le_max_left n m) a _ _ _ h1]
   exact fI (dx (Nat.le_max_right n m)) (Nat.le_max_right n m) b _ _ _ h3
  ·refine⟨n,e,T1,H1,?_,h2⟩
   cases e with
   | normal=>exact absurd rfl hne
   | exit i=>simp only[aK,h1]
   | ret=>simp only[aK,h1]
 | cond c a b iha ihb=>
  intro Q T H h
  simp only[wp,ou]at h
  obtain⟨v,hv,h⟩:=h
  cases v with
  | true=>
   obtain⟨n,e,T1,H1,h1,h2⟩:=iha _ T H h
   exact⟨n,e,T1,H1,by simp only[aK,hv,h1],h2⟩
  | false=>
   obtain⟨n,e,T1,H1,h1,h2⟩:=ihb _ T H h
   exact⟨n,e,T1,H1,by simp only[aK,hv,h1],h2⟩
 | block id c ih=>
  intro Q T H h
  obtain⟨n,e,T1,H1,h1,h2⟩:=ih _ T H h
  cases e with
  | exit j=>
   simp only[j7]at h2
   cases hb:Nat.beq j id with
   | true=>rw[hb]at h2; exact⟨n,.normal,T1,H1,by simp only[aK,h1,hb,cond_true],h2⟩
   | false=>rw[hb]at h2; exact⟨n,.exit j,T1,H1,by simp only[aK,h1,hb,cond_false],h2⟩
  | normal=>exact⟨n,.normal,T1,H1,by simp only[aK,h1],h2⟩
  | ret=>exact⟨n,.ret,T1,H1,by simp only[aK,h1],h2⟩
 | loop c ih=>
  intro Q T H h
  simp only[wp]at h
  obtain⟨I,⟨m,hm⟩,hI⟩:=h
  have key:∀(m:Nat) (T:Tr af) (H:ae),I m (en T) H->∃n e T' H',aK (vC N (fW P N)) (cG N (fW P N) n) n (.loop c) T H=some (e,T',H')/\Q e (en T') H':=by
   intro m
   induction m using Nat.strongRecOn with
   | ind m ihm=>
    intro T H hi
    obtain⟨n,e,T1,H1,h1,h2⟩:=ih _ T H (hI m _ _ hi)
    rcases oD h2 with⟨rfl,m',hm',h2⟩ | ⟨hne,h2⟩
    ·obtain⟨k,e2,T2,H2,h3,h4⟩:=ihm m' hm' T1 H1 h2
     refine⟨max n k+1,e2,T2,H2,?_,h4⟩
     simp only[aK,iq]
     rw[fI (dx (show n<=max n k+1 by omega)) (show n<=max n k+1 by omega) c _ _ _ h1]
     simp only[aK]at h3
     exact lN (fun T H r hr=>fI (dx (show k<=max n k+1 by omega)) (show k<=max n k+1 by omega) c T H r hr) k (max n k) T1 H1 _ (Nat.le_max_right n k) h3
    ·refine⟨n+1,e,T1,H1,?_,h2⟩
     simp only[aK,iq]
     rw[fI (dx (Nat.le_succ n)) (Nat.le_succ n) c _ _ _ h1]
     cases e with
     | normal=>exact absurd rfl hne
     | exit i=>rfl
     | ret=>rfl
  exact key m T H hm
 | exit id=>intro Q T H h; exact⟨0,_,_,_,rfl,h⟩
 | ret=>intro Q T H h; exact⟨0,_,_,_,rfl,h⟩
def rO(args:List af):bN:=fun i=>match args[i]? with
 | some v=>v
 | none=>aN
theorem pU:∀(args:List af) (i:Nat) (T:Tr af),en (cC args i T)=fun j=>if i<=j then (match args[j-i]? with | some v=>v | none=>en T j) else en T j
 | [],i,T=>by funext j; simp[cC]
 | x::r,i,T=>by
  rw[cC,pU r (i+1),Gv]
  funext j
  by_cases h:i+1<=j
  ·rw[if_pos h,if_pos om,show j-i=(j-(i+1))+1 by omega]
   simp only[PC]
   split
   ·rfl
   ·have hb:Nat.beq j i=false:=by rw[dM]; exact decide_eq_false om
    simp only[up,hb,cond_false]
  ·rw[if_neg h]
   by_cases e:i=j
   ·subst e
    simp[up]
   ·rw[if_neg om]
    have hb:Nat.beq j i=false:=by rw[dM]; exact decide_eq_false om
    simp only[up,hb,cond_false]
theorem CK(args:List af):en (cC args 0 .e)=rO args:=by
 rw[pU]
 funext j
 simp only[Nat.zero_le,if_true,Nat.sub_zero,rO]
 split
 ·rfl
 ·rfl
def nf(T:bN)(H:ae):List lR->Option (List af)
 | []=>some []
 | .t i::r=>match nf T H r with
  | some l=>some (T i::l)
  | none=>none
 | .cell g n i::r=>match bi g n H (T i),nf T H r with
  | some x,some l=>some (x::l)
  | _,_=>none
theorem oT(T:Tr af)(H:ae):∀l:List lR,nf (en T) H l=hJ T H l
 | []=>rfl
 | .t i::r=>by simp only[nf,hJ,oT T H r]; rfl
 | .cell g n i::r=>by simp only[nf,hJ,oT T H r]; rfl
def ij(res:List lR)(K:af->ae->Prop):kU:=fun e T H=>match e with
 | .exit _=>False
 | _=>dn (nf T H res) fun l=>K (io l) H
theorem DH{f:FuncId}{c:cg}{args:List af}{H:ae}{K:af->ae->Prop}(hn:N.is f=false)(hc:xm P (N.md (f % bO)) f=some c)(hl:Nat.ble args.length c.nt=true)(h:wp (aq P N) c.body (ij c.res K) (rO args) H):aq P N f args H K:=by
 rw[<- CK]at h
 obtain⟨n,e,T',H',h1,h2⟩:=vH _ _ _ _ h
 have:∃l,hJ T' H' c.res=some l/\K (io l) H'/\∀i,e≠.exit i:=by
  cases e with
  | exit i=>exact h2.elim
  | normal=>obtain⟨l,q1,q2⟩:=h2; rw[oT]at q1; exact⟨l,q1,q2,fun i=>by simp⟩
  | ret=>obtain⟨l,q1,q2⟩:=h2; rw[oT]at q1; exact⟨l,q1,q2,fun i=>by simp⟩
 obtain⟨l,q1,q2,q3⟩:=this
 refine⟨n+1,io l,H',?_,q2⟩
 rw[cG,hn,EM hc]
 simp only[cond_false,hl,cond_true,h1]
 cases e with
 | exit i=>exact absurd rfl (q3 i)
 | normal=>simp only[q1]
 | ret=>simp only[q1]
theorem lP{f:FuncId}{args:List af}{H H':ae}{v:af}{K:af->ae->Prop}(hn:N.is f=true)(hr:N.run f args H=some (v,H'))(hk:K v H'):aq P N f args H K:=
 ⟨1,v,H',by rw[cG,hn]; exact hr,hk⟩
theorem aq.calls(hfol:P.follows .mixedOrders=true)(hN:yp P N){f:FuncId}{args:List af}{H:ae}{K:af->ae->Prop}(h:aq P N f args H K)
  {Prot:Gh} {w0 w:World} {ρ:Pl} {vs:Array Value} (R:Rel Prot w0 ρ H w) (hv:ah ρ args vs.toList) (hfb:Nat.blt f bO=true:=by rfl) :
  Calls P f vs w fun e w'=>∃ρ' v H' u,ρ.le ρ'/\e=.returned u/\K v H'/\Rel Prot w0 ρ' H' w'/\ag ρ' v u:=by
 obtain⟨n,v,H',h1,h2⟩:=h
 refine (yk hfol hN (oV P N) n _ _ _ _ _ hfb h1 _ _ _ _ _ R hv).mono fun e w' hx=>?_
 obtain⟨ρ',u,q1,rfl,q2,q3⟩:=hx
 exact⟨ρ',v,H',u,q1,rfl,h2,q2,q3⟩
end
end Go.Abs.S
namespace Go.Abs.S
open Go.Abs
theorem FX{ρ:Pl}{p:Value->Prop}(h:∀v,p v->∃x,∀ρ,ag ρ x v):∀(vs:List Value),(∀v∈vs,p v)->∃l,∀ρ,ah ρ l vs
 | [],_=>⟨[],fun ρ=>by simp[ah]⟩
 | v::vs,hv=>by
  obtain⟨x,hx⟩:=h v (hv v (by simp))
  obtain⟨l,hl⟩:=FX (ρ:=ρ) h vs fun u hu=>hv u (by simp[hu])
  exact⟨x::l,fun ρ=>by simp only[ah]; exact⟨v,vs,rfl,hx ρ,hl ρ⟩⟩
theorem junk:∀(n:Nat) (v:Value),SizeOf.sizeOf v<=n->∃x,∀ρ,ag ρ x v:=by
 intro n
 induction n with
 | zero=>intro v h; cases v <;> simp at h
 | succ n ih=>
  intro v h
  cases v
  case bool b=>exact⟨.bool b,fun ρ=>by simp[ag]⟩
  case agg vs=>
   obtain⟨l,hl⟩:=FX (ρ:=fun _ _=>none) (p:=fun v=>SizeOf.sizeOf v<=n) ih vs.toList fun v hv=>by
    have:=Array.sizeOf_lt_of_mem (Array.mem_toList_iff.1 hv)
    simp at h; omega
   exact⟨.agg l,fun ρ=>by simp only[ag]; exact⟨vs,rfl,hl ρ⟩⟩
  case tuple vs=>
   obtain⟨l,hl⟩:=FX (ρ:=fun _ _=>none) (p:=fun v=>SizeOf.sizeOf v<=n) ih vs.toList fun v hv=>by
    have:=Array.sizeOf_lt_of_mem (Array.mem_toList_iff.1 hv)
    simp at h; omega
   exact⟨.tuple l,fun ρ=>by simp only[ag]; exact⟨vs,rfl,hl ρ⟩⟩
  all_goals exact⟨.val _,fun ρ=>by simp only[ag]; exact⟨rfl,rfl⟩⟩
noncomputable def zH(v:Value):af:=Classical.choose (junk (SizeOf.sizeOf v) v rL)
theorem qf(v:Value)(ρ:Pl):ag ρ (zH v) v:=Classical.choose_spec (junk (SizeOf.sizeOf v) v rL) ρ
def jE(w:World)(c:Nat):Option Nat:=match w.heap[c]? with
 | some (.cells C _ _)=>some C.size
 | _=>none
noncomputable def je(w:World):Value->af
 | .bool b=>.bool b
 | .int k n=>.int k n
 | .string s=>.str s.data.toList
 | .pointer none=>.ptr none
 | .pointer (some ⟨c,off,none⟩)=>match jE w c with
  | some n=>.ptr (some ⟨c,n,off⟩)
  | none=>zH (.pointer (some ⟨c,off,none⟩))
 | .slice none 0 0=>.slice none 0 (.known 0)
 | .slice (some ⟨c,off,none⟩) len cap=>if len<=cap then (match jE w c with
  | some n=>if off<=n then .slice (some ⟨c,n,off⟩) len (.known cap) else .val (.slice (some ⟨c,off,none⟩) len cap)
  | none=>.val (.slice (some ⟨c,off,none⟩) len cap)) else .val (.slice (some ⟨c,off,none⟩) len cap)
 | .slice (some ⟨c,off,some q⟩) len cap=>.val (.slice (some ⟨c,off,some q⟩) len cap)
 | .map none=>.map none
 | .nilFunc=>.nilFunc
 | .nilIface=>.nilIface
 | v=>zH v
def KI(w:World):Pl:=fun b l=>match jE w b with
 | some n=>if l=n then some ⟨b,0,n,false⟩ else none
 | none=>none
theorem pY{w:World}{b n:Nat}(h:jE w b=some n):KI w b n=some ⟨b,0,n,false⟩:=by simp[KI,h]
theorem yD(s:ByteArray):aE s.data.toList=s:=by cases s; simp[aE]
theorem mX(w:World)(v:Value):ag (KI w) (je w v) v:=by
 unfold je
 split
 ·simp[ag]
 ·simp[ag]
 ·simp[ag,yD]
 ·simp[ag]
 ·split
  ·rename_i n hn
   simp only[ag]
   exact⟨_,pY hn,Nat.zero_le _,by simp⟩
  ·exact qf _ _
 ·simp[ag]
 ·split
  ·rename_i hl
   split
   ·rename_i n hn
    split
    ·simp only[ag]
     exact⟨_,pY hn,Nat.zero_le _,by simp only[bL]; exact⟨hl,by simp⟩⟩
    ·simp only[ag]; exact⟨trivial,rfl⟩
   ·simp only[ag]; exact⟨trivial,rfl⟩
  ·simp only[ag]; exact⟨trivial,rfl⟩
 ·simp only[ag]; exact⟨trivial,rfl⟩
 ·simp[ag]
 ·simp[ag]
 ·simp[ag]
 ·exact qf _ _
noncomputable def p9(w:World)(c:Nat):Option dz:=match w.heap[c]? with
 | some (.cells C _ _)=>some (.cells (C.toList.map (je w)) 0 true)
 | _=>none
noncomputable def Me(w:World):Nat->Tr dz
 | 0=>.e
 | n+1=>match p9 w n with
  | some o=>(Me w n).set n o
  | none=>Me w n
theorem uw(w:World):∀(n b:Nat),(Me w n).get b=if b<n then p9 w b else none
 | 0,b=>by rw[if_neg om]; cases b <;> rfl
 | n+1,b=>by
  simp only[Me]
  cases hc:p9 w n with
  | none=>
   simp only[uw w n b]
   by_cases h:b<n
   ·rw[if_pos h,if_pos om]
   ·by_cases e:b=n
    ·subst e; rw[if_neg h,if_pos om,hc]
    ·rw[if_neg h,if_neg om]
  | some c=>
   simp only[Tr.get_set,uw w n b]
   by_cases e:b=n
   ·subst e; rw[if_pos rfl,if_pos om,hc]
   ·rw[if_neg e]
    by_cases h:b<n
    ·rw[if_pos h,if_pos om]
    ·rw[if_neg h,if_neg om]
noncomputable def ig(w:World):ae:=⟨w.heap.size,Me w w.heap.size⟩
theorem fA(w:World)(b:Nat):(ig w).get b=p9 w b:=by
 show (Me w w.heap.size).get b=_
 rw[uw]
 by_cases h:b<w.heap.size
 ·rw[if_pos h]
 ·rw[if_neg h]
  unfold p9
  rw[Array.getElem?_eq_none om]
theorem kD{w:World}{c n:Nat}(h:jE w c=some n):∃C e fz,w.heap[c]?=some (.cells C e fz)/\C.size=n/\p9 w c=some (.cells (C.toList.map (je w)) 0 true):=by
 unfold jE at h
 unfold p9
 split at h
 ·rename_i C e fz hC
  simp only[sJ]at h
  exact⟨C,e,fz,hC,h,rfl⟩
 ·simp at h
theorem Bg{w:World}{b l:Nat}{L:Loc}(h:KI w b l=some L):jE w b=some l/\L=⟨b,0,l,false⟩:=by
 unfold KI at h
 split at h
 ·rename_i n hn
  split at h
  ·rename_i e; subst e; simp only[sJ]at h; exact⟨hn,h.symm⟩
  ·simp at h
 ·simp at h
theorem Bl{w:World}{b:Nat}{x:dz}(h:p9 w b=some x):x.rw=false:=by
 unfold p9 at h
 split at h
 ·simp only[sJ]at h; subst h; rfl
 ·simp at h
theorem sI(w:World):Rel ⟨fun c=>c<w.heap.size,fun _=>False⟩ w (KI w) (ig w) w:=by
 refine⟨rfl,rfl,rfl,Nat.le_refl _,fun _ hc=>⟨hc,rfl⟩,fun b l L h=>?_,fun b l L h=>?_,fun b l L x h hx hr=>?_,fun b l L b' l' L' x h h' he hx hr=>?_,fun _ h=>h.elim,fun b l low h=>?_⟩
 ·obtain⟨h1,rfl⟩:=Bg h
  obtain⟨C,e,fz,h2,_,_⟩:=kD h1
  have:=(Array.getElem?_eq_some_iff.1 h2).1
  exact⟨this,this⟩
 ·obtain⟨h1,rfl⟩:=Bg h
  obtain⟨C,e,fz,h2,h3,h4⟩:=kD h1
  obtain⟨lo,hi⟩:=fz
  refine⟨_,_,by rw[fA,h4],h2,?_⟩
  simp only[dy]
  refine⟨C,e,lo,hi,rfl,h3,fun h=>by simp at h,by simp; omega,fun _ i _ hi=>?_⟩
  have hlt:i<C.size:=om
  refine⟨je w C[i],C[i],?_,by simp[hlt],mX w _⟩
  simp[hlt]
 ·rw[fA]at hx
  rw[Bl hx]at hr
  simp at hr
 ·rw[fA]at hx
  rw[Bl hx]at hr
  simp at hr
 ·rw[fA]at h
  have hr:jE w b=some l.length:=by
   unfold p9 at h
   unfold jE
   split at h
   ·rename_i C e fz hC
    simp only[sJ,dz.cells.injEq]at h
    simp[<- h.1]
   ·simp at h
  exact⟨_,pY hr,rfl,rfl,rfl⟩
end Go.Abs.S
namespace Go.Abs.S
open Go.Abs
theorem AF(T:bN)(i:Nat)(v:af):up T i v i=v:=by simp[up]
theorem Jz(T:bN)(i j:Nat)(v:af)(h:j≠i):up T i v j=T j:=by
 have:Nat.beq j i=false:=by rw[dM]; exact decide_eq_false h
 simp[up,this]
structure bg(n:Nat)(H H':ae):Prop where
 next:H.next<=H'.next
 old:∀b,b<n->H'.get b=H.get b
theorem bg.refl(n:Nat)(H:ae):bg n H H:=⟨Nat.le_refl _,fun _ _=>rfl⟩
theorem bg.trans{n:Nat}{H H' H'':ae}(h:bg n H H')(k:bg n H' H''):bg n H H'':=⟨Nat.le_trans h.next k.next,fun b hb=>(k.old b hb).trans (h.old b hb)⟩
theorem bg.less{n m:Nat}{H H':ae}(h:bg n H H')(hm:m<=n):bg m H H':=⟨h.next,fun b hb=>h.old b om⟩
theorem bg.push{n:Nat}{H H':ae}(h:bg n H H')(hn:n<=H'.next)(o:dz):bg n H (H'.push o):=
 ⟨Nat.le_trans h.next (by simp[ae.push]),fun b hb=>by rw[ae.get_push,if_neg om,h.old b hb]⟩
theorem bg.set{n:Nat}{H H':ae}(h:bg n H H'){b:Nat}(hn:n<=b)(o:dz):bg n H (H'.set b o):=
 ⟨h.next,fun c hc=>by rw[ae.get_set,if_neg om,h.old c hc]⟩
theorem aR(H:ae)(o:dz):(H.push o).next=H.next+1:=rfl
theorem iL(H:ae)(b:Nat)(o:dz):(H.set b o).next=H.next:=rfl
def cz:af:=.slice none 0 (.known 0)
def cellP(s:af)(i:Nat):af:=match s with
 | .slice (some a) _ _=>.ptr (some ⟨a.b,a.lim,a.o+i*1⟩)
 | _=>aN
def Nz:af->Bool
 | .slice none 0 (.known 0)=>true
 | .val (.slice (some _) 0 0)=>true
 | _=>false
theorem nJ{s:af}(h:Nz s=true):s=cz∨∃a,s=.val (.slice (some a) 0 0):=by
 unfold Nz at h
 split at h
 ·exact .inl rfl
 ·exact .inr ⟨_,rfl⟩
 ·simp at h
theorem wo{H H':ae}{a:Ad}(h:H'.get a.b=H.get a.b)(n:Nat):aT H' a n=aT H a n:=by
 unfold aT; rw[h]
theorem Fk{H:ae}{a:Ad}{n i:Nat}{xs:List af}(h:aT H a n=some xs)(hi:i<n):∃x,xs[i]?=some x/\aT H ⟨a.b,a.lim,a.o+i⟩ 1=some [x]:=by
 obtain⟨l,low,ro,h1,h2,h3,h4,rfl⟩:=jm h
 have hlt:a.o+i<l.length:=om
 refine⟨l[a.o+i],?_,?_⟩
 ·rw[List.getElem?_take_of_lt hi,List.getElem?_drop,Pr hlt]
 ·unfold aT
  simp only[h1,Pt h2,Pt h3,Pt (show a.o+i+1<=a.lim by omega),Bool.and_self,cond_true]
  rw[List.drop_eq_getElem_cons hlt]
  rfl
def Own(n:Nat)(H:ae)(s:af)(l:List af):Prop:=
 ∃b r low,s=.slice (some ⟨b,l.length,0⟩) l.length r/\n<=b/\b<H.next/\H.get b=some (.cells l low false)/\low<=l.length
theorem eQ{H:ae}{b low:Nat}{l:List af}{ro:Bool}(h:H.get b=some (.cells l low ro))(hl:low<=l.length):aT H ⟨b,l.length,0⟩ l.length=some l:=by
 unfold aT
 simp only[h,Pt hl,Pt rL,Nat.zero_add,Bool.and_self,cond_true,List.drop_zero,List.take_length]
theorem tJ{x:af}(h:x.one=true):x.cells=[x]:=by cases x <;> first | rfl | (simp[af.one]at h)
def KJ(H:ae):af:=.slice (some ⟨H.next,1,0⟩) 1 (.known 1)
theorem Ap(z:af)(H:ae){x:af}(h:x.one=true):cf 1 [z] H [(0,1,x)]=some (KJ H,H.push (.cells [x] 0 false)):=by
 simp only[cf,me,List.append_nil,k8,tJ h]
 rfl
theorem Ku(H:ae)(x:af):jf 1 (H.push (.cells [x] 0 false)) (KJ H)=some (1,[x]):=by
 have:=eQ (H:=H.push (.cells [x] 0 false)) (b:=H.next) (l:=[x]) (low:=0) (ro:=false) (by rw[ae.get_push,if_pos rfl]) (by simp)
 simp only[Pv,Pw,Nat.zero_add]at this
 simp only[jf,KJ,Nat.mul_one,this]
theorem DW{H:ae}{b low i:Nat}{l:List af}(h:H.get b=some (.cells l low false))(hl:low<=l.length)(hi:i<l.length){x:af}(hx:x.one=true) :
  bD 1 H (.ptr (some ⟨b,l.length,i⟩)) x=some (H.set b (.cells (l.set i x) l.length false)):=by
 simp only[bD,tJ hx,Pv,Pw,Nat.zero_add,Nat.beq_refl,cond_true]
 unfold cP
 simp only[h,Pt hl,Nat.beq_refl,Pv,Pw,Nat.zero_add,Pt (show i+1<=l.length by omega),List.all_cons,List.all_nil,hx,Bool.and_self,cond_true]
 congr 3
 rw[List.set_eq_take_append_cons_drop,if_pos hi]
 rfl
theorem Fv{H:ae}{z:af}{bytes k n:Nat}(hn:n<=H.next)(hk:bytes*k<=281474976710656)(hk':k<=9223372036854775807) :
  ∃s,gO bytes [z] H (.int .i64 (k:Int)) (.int .i64 (k:Int))=some (s,H.push (.cells (List.replicate k z) 0 false))/\s=.slice (some ⟨H.next,k,0⟩) k (.known k)/\Own n (H.push (.cells (List.replicate k z) 0 false)) s (List.replicate k z):=by
 have hr:me [z] k=List.replicate k z:=by
  clear hk hk'
  induction k with
  | zero=>rfl
  | succ k ih=>simp only[me,ih,List.replicate_succ]; rfl
 have hnat:eq (.int .i64 (k:Int))=some k:=by
  show eq (.int .i64 (Int.ofNat k))=some k
  simp only[eq,Pt hk',cond_true]
 refine⟨_,?_,rfl,⟨H.next,.known k,0,by simp,hn,Nat.lt_succ_self _,by rw[ae.get_push]; exact if_pos rfl,Nat.zero_le _⟩⟩
 simp only[gO,hnat,Pt rL,Pt hk,Bool.and_self,cond_true,hr,List.length_replicate]
def kB(b n:Nat)(r:rR):af:=.slice (some ⟨b,n,0⟩) n r
def aj(b n i:Nat):af:=.ptr (some ⟨b,n,i⟩)
def Row(H:ae)(b:Nat)(l:List af):Prop:=∃low,H.get b=some (.cells l low false)/\low<=l.length
theorem l9{b n:Nat}{r:rR}(k:IntKind){i:Nat}(h:i<n):gP 1 (kB b n r) (.int k (i:Int))=some (aj b n i):=by
 show (bif Nat.blt i n then some (af.ptr (some ⟨b,n,0+i*1⟩)) else none)=_
 have:Nat.blt i n=true:=by simpa[Nat.blt_eq] using h
 rw[this,Nat.zero_add,Nat.mul_one]; rfl
theorem iN{H:ae}{b n:Nat}{l:List af}(h:Row H b l)(hn:l.length=n){i:Nat}{x:af}(hi:l[i]?=some x):bi false 1 H (aj b n i)=some x:=by
 subst hn
 obtain⟨low,h1,h2⟩:=h
 have hlt:=(Ps.1 hi).1
 obtain⟨y,h4,h5⟩:=Fk (eQ h1 h2) hlt
 rw[hi]at h4
 simp only[sJ]at h4
 subst h4
 simp only[Nat.zero_add]at h5
 simp only[bi,aj,h5,cond_false]
theorem bA{H:ae}{b n:Nat}{l:List af}(h:Row H b l)(hn:l.length=n){i:Nat}(hi:i<n){x:af}(hx:x.one=true) :
  ∃H',bD 1 H (aj b n i) x=some H'/\Row H' b (l.set i x)/\H'.next=H.next/\∀c,c≠b->H'.get c=H.get c:=by
 subst hn
 obtain⟨low,h1,h2⟩:=h
 exact⟨_,DW h1 h2 hi hx,⟨l.length,by rw[ae.get_set,if_pos rfl],by simp⟩,rfl,fun c hc=>by rw[ae.get_set,if_neg hc]⟩
theorem Row.same{H H':ae}{b:Nat}{l:List af}(h:Row H b l)(e:H'.get b=H.get b):Row H' b l:=by
 obtain⟨low,h1,h2⟩:=h; exact⟨low,e.trans h1,h2⟩
theorem Fg{H:ae}{z:af}{bytes k:Nat}(hk:bytes*k<=281474976710656)(hk':k<=9223372036854775807) :
  gO bytes [z] H (.int .i64 (k:Int)) (.int .i64 (k:Int))=some (kB H.next k (.known k),H.push (.cells (List.replicate k z) 0 false)):=by
 obtain⟨s,h1,h2,_⟩:=Fv (H:=H) (z:=z) rL hk hk'
 rw[h1,h2]; rfl
theorem jM(H:ae)(l:List af):Row (H.push (.cells l 0 false)) H.next l:=⟨0,by rw[ae.get_push,if_pos rfl],Nat.zero_le _⟩
theorem aU{H:ae}{o:dz}{c:Nat}(h:c<H.next):(H.push o).get c=H.get c:=by rw[ae.get_push,if_neg om]
theorem sD{H:ae}{z:af}{bytes k:Nat}(hk:bytes*k<=281474976710656)(hk':k<=9223372036854775807) :
  ∃H',gO bytes [z] H (.int .i64 (k:Int)) (.int .i64 (k:Int))=some (kB H.next k (.known k),H')/\Row H' H.next (List.replicate k z)/\H'.next=H.next+1/\∀c,c≠H.next->H'.get c=H.get c:=
 ⟨_,Fg hk hk',jM _ _,rfl,fun c hc=>by rw[ae.get_push,if_neg hc]⟩
end Go.Abs.S
namespace Go.Abs.S
open Go.Abs
section
variable {C:CS} {Q:kU} {T:bN} {H:ae} {K:bN->ae->Prop} {r:List ak} {d:Option Nat}
theorem Cd:wp C .skip Q T H=Q .normal T H:=_root_.id rfl
theorem GR(ops:List ak):wp C (.reg ops) Q T H=aW C ops T H (Q .normal):=_root_.id rfl
theorem As(a b:bh):wp C (.seq a b) Q T H=wp C a (jG Q (wp C b Q)) T H:=_root_.id rfl
open Classical in
theorem Cf(c:bb)(a b:bh):wp C (.cond c a b) Q T H=if sX T c=.bool true then wp C a Q T H else if sX T c=.bool false then wp C b Q T H else False:=by
 simp only[wp]
 by_cases h:sX T c=.bool true
 ·rw[if_pos h,h]; simp
 ·rw[if_neg h]
  by_cases h':sX T c=.bool false
  ·rw[if_pos h',h']; simp
  ·rw[if_neg h']
   simp only[eq_iff_iff,iff_false,not_exists,not_and]
   intro v hv
   cases v
   ·exact absurd hv h'
   ·exact absurd hv h
theorem xX(id:Nat)(c:bh):wp C (.block id c) Q T H=wp C c (j7 id Q) T H:=_root_.id rfl
theorem Ce(id:Nat):wp C (.exit id) Q T H=Q (.exit id) T H:=_root_.id rfl
theorem GQ:wp C .ret Q T H=Q .ret T H:=_root_.id rfl
theorem jq:jG Q K .normal T H=K T H:=_root_.id rfl
theorem qj(i:Nat):jG Q K (.exit i) T H=Q (.exit i) T H:=_root_.id rfl
theorem tf:jG Q K .ret T H=Q .ret T H:=_root_.id rfl
theorem qk(id i:Nat):j7 id Q (.exit i) T H=if i=id then Q .normal T H else Q (.exit i) T H:=by
 simp only[j7]
 by_cases h:i=id
 ·subst h; rw[if_pos rfl,Nat.beq_refl]; rfl
 ·rw[if_neg h,show Nat.beq i id=false by rw[dM]; exact decide_eq_false h]; rfl
theorem mJ(id:Nat):j7 id Q .normal T H=Q .normal T H:=_root_.id rfl
theorem tg(id:Nat):j7 id Q .ret T H=Q .ret T H:=_root_.id rfl
theorem bM{c:bh}(I:Nat->bN->ae->Prop)(m:Nat)(h0:I m T H)(h:∀m T H,I m T H->wp C c (jG Q fun T' H'=>∃m',m'<m/\I m' T' H') T H):wp C (.loop c) Q T H:=⟨I,⟨m,h0⟩,h⟩
def ji(o:Option af)(C:CS)(r:List ak)(T:bN)(d:Option Nat)(H:ae)(K:bN->ae->Prop):Prop:=dn o fun v=>aW C r (gX T d v) H K
def DO(o:Option (af×ae))(C:CS)(r:List ak)(T:bN)(d:Option Nat)(K:bN->ae->Prop):Prop:=dn o fun p=>aW C r (gX T d p.1) p.2 K
def Nn(o:Option ae)(C:CS)(r:List ak)(T:bN)(d:Option Nat)(K:bN->ae->Prop):Prop:=dn o fun H'=>aW C r (gX T d aN) H' K
def KU(C:CS)(r:List ak)(T:bN)(d:Option Nat)(K:bN->ae->Prop):af->ae->Prop:=fun v H'=>aW C r (gX T d v) H' K
theorem ud(v:af):ji (some v) C r T d H K=aW C r (gX T d v) H K:=cO _ _
theorem ue(v:af)(H':ae):DO (some (v,H')) C r T d K=aW C r (gX T d v) H' K:=cO _ _
theorem uc(H':ae):Nn (some H') C r T d K=aW C r (gX T d aN) H' K:=cO _ _
theorem wL(v:af):KU C r T d K v H=aW C r (gX T d v) H K:=_root_.id rfl
theorem GZ:aW C [] T H K=K T H:=_root_.id rfl
open Classical in
theorem yc(o:gT)(t:Nat)(b:Bool)(ht:t<1000000):aW C (⟨d,o,some (t,b)⟩::r) T H K=if T t=.bool b then aW C (⟨d,o,none⟩::r) T H K else aW C r (gX T d aN) H K:=by
 simp only[aW,JM T ht]
 by_cases h:T t=.bool b
 ·rw[if_pos h,h]; cases b <;> rfl
 ·rw[if_neg h]
  have:Mf b (T t)=false:=by
   unfold Mf
   cases hv:T t <;> simp only[NA]
   rename_i v
   rw[hv]at h
   cases b <;> cases v <;> simp at h ⊢
  rw[this]; rfl
theorem Kf(x:bb):aW C (⟨d,.mv x,none⟩::r) T H K=aW C r (gX T d (sX T x)) H K:=_root_.id rfl
open Classical in
theorem Ch(c a b:bb):aW C (⟨d,.pick c a b,none⟩::r) T H K=if sX T c=.bool true then aW C r (gX T d (sX T a)) H K else if sX T c=.bool false then aW C r (gX T d (sX T b)) H K else False:=by
 simp only[aW,sG,Cw,cond_true]
 by_cases h:sX T c=.bool true
 ·rw[if_pos h,h]; simp
 ·rw[if_neg h]
  by_cases h':sX T c=.bool false
  ·rw[if_pos h',h']; simp
  ·rw[if_neg h']
   simp only[eq_iff_iff,iff_false,not_exists,not_and]
   intro v hv
   cases v
   ·exact absurd hv h'
   ·exact absurd hv h
theorem G5(z:List af):aW C (⟨d,.new z,none⟩::r) T H K=aW C r (gX T d (eR H z).1) (eR H z).2 K:=_root_.id rfl
theorem G8(x:bb):aW C (⟨d,.box x,none⟩::r) T H K=aW C r (gX T d (eR H (sX T x).cells).1) (eR H (sX T x).cells).2 K:=_root_.id rfl
theorem yf(z:List af)(ps:List (Nat×Nat×bb)):aW C (⟨d,.build z ps,none⟩::r) T H K=ji (cj z (DT T ps)) C r T d H K:=_root_.id rfl
theorem qU(n:Nat)(z:List af)(ps:List (Nat×Nat×bb)):aW C (⟨d,.buildSl n z ps,none⟩::r) T H K=DO (cf n z H (DT T ps)) C r T d K:=_root_.id rfl
theorem Ci(a:Bool)(n:Nat)(x:bb):aW C (⟨d,.load a n x,none⟩::r) T H K=ji (bi a n H (sX T x)) C r T d H K:=_root_.id rfl
theorem ya(n:Nat)(a x:bb):aW C (⟨d,.store n a x,none⟩::r) T H K=Nn (bD n H (sX T a) (sX T x)) C r T d K:=_root_.id rfl
theorem tR(x:bb):aW C (⟨d,.nilChk x,none⟩::r) T H K=ji (ck (sX T x)) C r T d H K:=_root_.id rfl
theorem G9(op:BinOp)(x y:bb):aW C (⟨d,.bin op x y,none⟩::r) T H K=ji (cq op (sX T x) (sX T y)) C r T d H K:=_root_.id rfl
theorem Kc(op:UnOp)(x:bb):aW C (⟨d,.un op x,none⟩::r) T H K=ji (DV op (sX T x)) C r T d H K:=_root_.id rfl
theorem Cl(k:IntKind)(x:bb):aW C (⟨d,.conv k x,none⟩::r) T H K=ji (oM k (sX T x)) C r T d H K:=_root_.id rfl
theorem tV(x:bb):aW C (⟨d,.convSB x,none⟩::r) T H K=DO (Mk H (sX T x)) C r T d K:=_root_.id rfl
theorem tW(x:bb):aW C (⟨d,.convBS x,none⟩::r) T H K=ji (DL H (sX T x)) C r T d H K:=_root_.id rfl
theorem tS(fn:Fn)(a b:List bb):aW C (⟨d,.mkFunc fn a b,none⟩::r) T H K=aW C r (gX T d (.func fn (ot T a) (ot T b))) H K:=_root_.id rfl
theorem qS(t:TypeId)(x:bb):aW C (⟨d,.mkIface t x,none⟩::r) T H K=aW C r (gX T d (.iface t (sX T x))) H K:=_root_.id rfl
theorem qR(b:Nat)(z:List af)(l c:bb):aW C (⟨d,.mkSlice b z l c,none⟩::r) T H K=DO (gO b z H (sX T l) (sX T c)) C r T d K:=_root_.id rfl
theorem Kd(n:Nat)(x:bb)(lo hi mx:Option bb):aW C (⟨d,.sl n x lo hi mx,none⟩::r) T H K=ji (Hk n (sX T x) (nc T lo) (nc T hi) (nc T mx)) C r T d H K:=_root_.id rfl
theorem yb(x:bb)(lo hi:Option bb):aW C (⟨d,.slStr x lo hi,none⟩::r) T H K=ji (fh (sX T x) (nc T lo) (nc T hi)) C r T d H K:=_root_.id rfl
theorem tU(o:Nat)(x:bb):aW C (⟨d,.fieldA o x,none⟩::r) T H K=ji (gQ o (sX T x)) C r T d H K:=_root_.id rfl
theorem yd(a:Bool)(n o:Nat)(x:bb):aW C (⟨d,.field a n o x,none⟩::r) T H K=ji (kT a n o (sX T x)) C r T d H K:=_root_.id rfl
theorem Ck(n:Nat)(x i:bb):aW C (⟨d,.idxA n x i,none⟩::r) T H K=ji (gP n (sX T x) (sX T i)) C r T d H K:=_root_.id rfl
theorem tT(m n:Nat)(x i:bb):aW C (⟨d,.idxArr m n x i,none⟩::r) T H K=ji (iy m n (sX T x) (sX T i)) C r T d H K:=_root_.id rfl
theorem G7(m n:Nat)(a:Bool)(x i:bb):aW C (⟨d,.idx m n a x i,none⟩::r) T H K=ji (DK m n a (sX T x) (sX T i)) C r T d H K:=_root_.id rfl
theorem Cj(x i:bb):aW C (⟨d,.idxS x i,none⟩::r) T H K=ji (jg (sX T x) (sX T i)) C r T d H K:=_root_.id rfl
theorem qT(i:Nat)(x:bb):aW C (⟨d,.extract i x,none⟩::r) T H K=ji (dE i (sX T x)) C r T d H K:=_root_.id rfl
theorem tX(n b:Nat)(s x:bb):aW C (⟨d,.append n b s x,none⟩::r) T H K=DO (bE n b H (sX T s) (sX T x)) C r T d K:=_root_.id rfl
theorem G6(s:Bool)(x:bb):aW C (⟨d,.len s x,none⟩::r) T H K=ji (gd s (sX T x)) C r T d H K:=_root_.id rfl
theorem Cm(f:FuncId)(args:List bb):aW C (⟨d,.call f args,none⟩::r) T H K=C f (ot T args) H (KU C r T d K):=_root_.id rfl
def nQ(C:CS)(f:af)(args:List af)(H:ae)(K:af->ae->Prop):Prop:=∃g a b,f=.func (.func g) a b/\Nat.blt g bO=true/\C g (a++args++b) H K
theorem oK(g:Nat)(a b args:List af)(K:af->ae->Prop)(hg:g<1024):nQ C (.func (.func g) a b) args H K=C g (a++args++b) H K:=by
 simp only[nQ,af.func.injEq,Fn.func.injEq]
 apply propext
 constructor
 ·rintro ⟨g,a,b,⟨rfl,rfl,rfl⟩,_,h⟩; exact h
 ·intro h; exact⟨_,_,_,⟨rfl,rfl,rfl⟩,Pt hg,h⟩
theorem ye(f:bb)(args:List bb):aW C (⟨d,.callv f args,none⟩::r) T H K=nQ C (sX T f) (ot T args) H (KU C r T d K):=_root_.id rfl
theorem Ke(f:PF)(xs:List bb):aW C (⟨d,.pf f xs,none⟩::r) T H K=ji (iu f (ot T xs)) C r T d H K:=_root_.id rfl
theorem Kg(f:HF)(xs:List bb):aW C (⟨d,.hf f xs,none⟩::r) T H K=DO (mY f H (ot T xs)) C r T d K:=_root_.id rfl
theorem GY(m n:Nat)(x:bb)(lo hi mx:Option bb):aW C (⟨d,.slA m n x lo hi mx,none⟩::r) T H K=ji (iG m n (sX T x) (nc T lo) (nc T hi) (nc T mx)) C r T d H K:=_root_.id rfl
theorem vM(i:Nat)(v:af):gX T (some i) v=up T i v:=_root_.id rfl
theorem vN(v:af):gX T none v=T:=_root_.id rfl
theorem MC(i:Nat):sX T (.t i)=T i:=_root_.id rfl
theorem ME(v:af):sX T (.c v)=v:=_root_.id rfl
theorem MD(i:Nat):sX T (.f i)=.func (.func i) [] []:=_root_.id rfl
theorem J0(i:Nat)(K:af->ae->Prop):ij [.t i] K .ret T H=K (T i) H:=by
 simp only[ij,nf,cO]; rfl
theorem Gm(i j:Nat)(K:af->ae->Prop):ij [.t i,.t j] K .ret T H=K (.tuple [T i,T j]) H:=by
 simp only[ij,nf,cO]; rfl
theorem Gl(i j k:Nat)(K:af->ae->Prop):ij [.t i,.t j,.t k] K .ret T H=K (.tuple [T i,T j,T k]) H:=by
 simp only[ij,nf,cO]; rfl
def na(C:CS):Prop:=∀f a H (K K':af->ae->Prop),(∀v H,K v H->K' v H)->C f a H K->C f a H K'
theorem bP(P:Program)(N:gU):na (aq P N):=fun _ _ _ _ _ h hc=>hc.mono h
theorem pB(hC:na C){K K':af->ae->Prop}(h:∀v H,K v H->K' v H){o:gT}(hw:Cw C T H K o):Cw C T H K' o:=by
 cases o
 case call f args=>exact hC _ _ _ _ _ h hw
 case callv f args=>obtain⟨g,a,b,h1,h0,h2⟩:=hw; exact⟨g,a,b,h1,h0,hC _ _ _ _ _ h h2⟩
 case pick c a b=>obtain⟨v,h1,h2⟩:=hw; exact⟨v,h1,h _ _ h2⟩
 case bad=>exact hw
 all_goals first
  | exact h _ _ hw
  | exact dn.mono hw fun v hv=>h _ _ hv
theorem Eb(hC:na C):∀(l:List ak) {T:bN} {H:ae} {K:List (af×ae)->bN->ae->Prop} {K':bN->ae->Prop},(∀ss T H,K' T H->K ss T H)->aW C l T H K'->ee C l T H K:=by
 intro l
 induction l with
 | nil=>intro T H K K' h hw; exact h _ _ _ hw
 | cons o l ih=>
  intro T H K K' h hw
  simp only[aW,ee]at hw ⊢
  cases hg:sG T o.guard with
  | false=>rw[hg]at hw; exact ih (fun ss T H=>h _ T H) hw
  | true=>
   rw[hg]at hw
   simp only[cond_true]at hw ⊢
   exact pB hC (fun v H' hw=>ih (fun ss T H=>h _ T H) hw) hw
def qX:List (List Nat)->Bool
 | []=>true
 | []::r=>qX r
 | _::_=>false
theorem GC{hs:List ae}:∀(l:List ak) (ps:List (List Nat)) (ss:List (af×ae)) (T:bN),qX ps=true->yA hs l ps ss T
 | [],_,_,_,_=>trivial
 | o::l,[],_,_,_=>trivial
 | o::l,[]::ps,[],_,_=>trivial
 | o::l,[]::ps,(v,Hv)::ss,T,h=>⟨fun p hp=>by simp at hp,GC l ps ss _ h⟩
 | o::l,(q::p)::ps,_,_,h=>by simp[qX]at h
def qa:List ak->Bool
 | []=>true
 | o::r=>match dR o.op with
  | some _=>false
  | none=>qa r
theorem dZ:∀(l:List ak),qa l=true->∀(b:Nat) (H:ae),aB b l=l/\bT H l=H
 | [],_,b,H=>⟨rfl,rfl⟩
 | o::r,h,b,H=>by
  cases hz:dR o.op with
  | some p=>simp[qa,hz]at h
  | none=>
   simp only[qa,hz]at h
   exact⟨by simp only[aB,hz,(dZ r h b H).1],by simp only[bT,hz,(dZ r h b H).2]⟩
theorem Ec(hC:na C):∀(l:List ak) {T:bN} {H:ae} {K K':List (af×ae)->bN->ae->Prop},(∀ss T H,K ss T H->K' ss T H)->ee C l T H K->ee C l T H K':=by
 intro l
 induction l with
 | nil=>intro T H K K' h hw; exact h _ _ _ hw
 | cons o l ih=>
  intro T H K K' h hw
  simp only[ee]at hw ⊢
  cases hg:sG T o.guard with
  | false=>rw[hg]at hw; exact ih (fun ss T H=>h _ T H) hw
  | true=>
   rw[hg]at hw
   simp only[cond_true]at hw ⊢
   exact pB hC (fun v H' hw=>ih (fun ss T H=>h _ T H) hw) hw
theorem yz(hC:na C):∀(l:List ak) {T:bN} {H:ae} {K K':bN->ae->Prop},(∀T H,K T H->K' T H)->aW C l T H K->aW C l T H K':=by
 intro l
 induction l with
 | nil=>intro T H K K' h hw; exact h _ _ hw
 | cons o l ih=>
  intro T H K K' h hw
  simp only[aW]at hw ⊢
  cases hg:sG T o.guard with
  | false=>rw[hg]at hw; exact ih h hw
  | true=>
   rw[hg]at hw
   simp only[cond_true]at hw ⊢
   exact pB hC (fun v H' hw=>ih h hw) hw
theorem jr{Q Q':kU}{K K':bN->ae->Prop}(h:∀e T H,Q e T H->Q' e T H)(hk:∀T H,K T H->K' T H)(e:pt)(T:bN)(H:ae)(hq:jG Q K e T H):jG Q' K' e T H:=by
 cases e with
 | normal=>exact hk _ _ hq
 | exit i=>exact h _ _ _ hq
 | ret=>exact h _ _ _ hq
theorem py(hC:na C):∀(c:bh) {Q Q':kU} {T:bN} {H:ae},(∀e T H,Q e T H->Q' e T H)->wp C c Q T H->wp C c Q' T H:=by
 intro c
 induction c with
 | skip=>intro Q Q' T H h hw; exact h _ _ _ hw
 | reg l=>intro Q Q' T H h hw; exact yz hC l (h .normal) hw
 | draw l chk=>intro Q Q' T H h hw; exact Ec hC _ (fun ss T' H' hk=>⟨hk.1,h _ _ _ hk.2⟩) hw
 | seq a b iha ihb=>intro Q Q' T H h hw; exact iha (jr h fun T H hk=>ihb h hk) hw
 | cond c a b iha ihb=>
  intro Q Q' T H h hw
  obtain⟨v,h1,h2⟩:=hw
  refine⟨v,h1,?_⟩
  cases v with
  | true=>exact iha h h2
  | false=>exact ihb h h2
 | block id c ih=>
  intro Q Q' T H h hw
  refine ih (fun e T H hk=>?_) hw
  cases e with
  | exit j=>
   simp only[j7]at hk ⊢
   cases hb:Nat.beq j id with
   | true=>rw[hb]at hk; exact h _ _ _ hk
   | false=>rw[hb]at hk; exact h _ _ _ hk
  | normal=>exact h _ _ _ hk
  | ret=>exact h _ _ _ hk
 | loop c ih=>
  intro Q Q' T H h hw
  obtain⟨I,hm,hI⟩:=hw
  exact⟨I,hm,fun m T H hi=>ih (jr h fun _ _ hk=>hk) (hI m T H hi)⟩
 | exit id=>intro Q Q' T H h hw; exact h _ _ _ hw
 | ret=>intro Q Q' T H h hw; exact h _ _ _ hw
def uH:bh->bh
 | .draw l chk=>bif qX chk&&qa l then .reg l else .draw l chk
 | .seq a b=>.seq (uH a) (uH b)
 | .cond c a b=>.cond c (uH a) (uH b)
 | .block id c=>.block id (uH c)
 | .loop c=>.loop (uH c)
 | c=>c
theorem HO(hC:na C):∀(c:bh) {Q:kU} {T:bN} {H:ae},wp C (uH c) Q T H->wp C c Q T H:=by
 intro c
 induction c with
 | skip=>intro Q T H hw; exact hw
 | reg l=>intro Q T H hw; exact hw
 | draw l chk=>
  intro Q T H hw
  simp only[uH]at hw
  cases hb:qX chk&&qa l with
  | false=>rw[hb]at hw; exact hw
  | true=>
   rw[hb]at hw
   simp only[Pu]at hb
   simp only[wp,AD,(dZ l hb.2 H.next H).1,(dZ l hb.2 H.next H).2]
   exact Eb hC l (K:=fun ss T' H'=>yA (H::ss.map (·.2)) l chk ss T/\Q .normal T' H') (fun ss T' H' hk=>⟨GC l chk ss T hb.1,hk⟩) hw
 | seq a b iha ihb=>intro Q T H hw; exact py hC a (jr (fun _ _ _ h=>h) fun T H hk=>ihb hk) (iha hw)
 | cond c a b iha ihb=>
  intro Q T H hw
  obtain⟨v,h1,h2⟩:=hw
  refine⟨v,h1,?_⟩
  cases v with
  | true=>exact iha h2
  | false=>exact ihb h2
 | block id c ih=>intro Q T H hw; exact ih hw
 | loop c ih=>
  intro Q T H hw
  obtain⟨I,hm,hI⟩:=hw
  exact⟨I,hm,fun m T H hi=>ih (hI m T H hi)⟩
 | exit id=>intro Q T H hw; exact hw
 | ret=>intro Q T H hw; exact hw
def cN(P:Program)(f:FuncId):Option cg:=match HE P f with
 | some c=>some ⟨c.nt,uH c.body,c.res⟩
 | none=>none
theorem ai{P:Program}{N:gU}{f:FuncId}{c:cg}{args:List af}{H:ae}{K:af->ae->Prop}(hn:N.is f=false)(hc:cN P f=some c)(hl:Nat.ble args.length c.nt=true)(h:wp (aq P N) c.body (ij c.res K) (rO args) H)(hm:N.md f=none:=by rfl)(hfb:Nat.blt f bO=true:=by rfl):aq P N f args H K:=by
 unfold cN at hc
 cases hf:HE P f with
 | none=>rw[hf]at hc; simp at hc
 | some c'=>
  rw[hf]at hc
  simp only[sJ]at hc
  subst hc
  exact DH hn (Dr hf hm hfb) hl (HO (bP P N) _ h)
theorem ff{l:List ak}{chk:List (List Nat)}(h2:qa l=true)(h:ee C l T H fun ss T' H'=>yA (H::ss.map (·.2)) l chk ss T/\Q .normal T' H'):wp C (.draw l chk) Q T H:=by
 simp only[wp,AD,(dZ l h2 H.next H).1,(dZ l h2 H.next H).2]
 exact h
end
theorem GX(a:af)(r:List af):rO (a::r) 0=a:=_root_.id rfl
theorem GW(a b:af)(r:List af):rO (a::b::r) 1=b:=_root_.id rfl
theorem GV(a b c:af)(r:List af):rO (a::b::c::r) 2=c:=_root_.id rfl
theorem GU(a b c d:af)(r:List af):rO (a::b::c::d::r) 3=d:=_root_.id rfl
theorem GS(a b c d e:af)(r:List af):rO (a::b::c::d::e::r) 4=e:=_root_.id rfl
theorem B7(k:IntKind)(a b:Int):cq .lss (.int k a) (.int k b)=some (.bool (decide (a<b))):=by
 simp[cq,cy,cU,ku]
theorem B8(k:IntKind)(a b:Int):cq .leq (.int k a) (.int k b)=some (.bool (decide (a<=b))):=by
 simp[cq,cy,cU,ku]
theorem B9(k:IntKind)(a b:Int):cq .gtr (.int k a) (.int k b)=some (.bool (decide (b<a))):=by
 simp[cq,cy,cU,ku]
theorem Ca(k:IntKind)(a b:Int):cq .geq (.int k a) (.int k b)=some (.bool (decide (b<=a))):=by
 simp[cq,cy,cU,ku]
theorem Cb(k:IntKind)(a b:Int):cq .eql (.int k a) (.int k b)=some (.bool (decide (a=b))):=by
 simp only[cq,cy,cU,ku,cond_false,if_true]
 by_cases h:a=b <;> simp[h]
theorem BZ(k:IntKind)(a b:Int):cq .neq (.int k a) (.int k b)=some (.bool (!decide (a=b))):=by
 simp only[cq,cy,cU,ku,cond_false,if_true]
 by_cases h:a=b <;> simp[h,bne]
theorem Cc(k:IntKind)(a b:Int):cq .add (.int k a) (.int k b)=some (.int k (k.wrap (a+b))):=by
 simp[cq,cy,cU,ku]
theorem BW(k:IntKind)(a b:Int):cq .sub (.int k a) (.int k b)=some (.int k (k.wrap (a-b))):=by
 simp[cq,cy,cU,ku]
theorem B6(k:IntKind)(a b:Int):cq .mul (.int k a) (.int k b)=some (.int k (k.wrap (a*b))):=by
 simp[cq,cy,cU,ku]
theorem vo(k:IntKind)(a b:Int)(h:b≠0):cq .rem (.int k a) (.int k b)=some (.int k (a.tmod b)):=by
 simp[cq,cy,cU,ku,h]
theorem Jx(a b:Nat)(h:a+b<=9223372036854775807):IntKind.i64.wrap ((a:Int)+(b:Int))=((a+b:Nat):Int):=by
 rw[IntKind.wrap_i64]; omega
theorem cE(a:Nat)(h:a+1<=9223372036854775807):IntKind.i64.wrap ((a:Int)+1)=((a+1:Nat):Int):=by
 rw[IntKind.wrap_i64]; omega
theorem aM{α:Type}{l:List α}{i:Nat}(h:i<l.length):∃x,l[i]?=some x:=⟨_,Pr h⟩
def wR(l:List Int):List af:=l.map fun n=>.int .i64 n
theorem wQ(l:List Int):(wR l).length=l.length:=by simp[wR]
theorem Dd(l:List Int)(n:Int):wR (l++[n])=wR l++[.int .i64 n]:=by simp[wR]
theorem aV{a:Int}(h1:-9223372036854775808<=a)(h2:a<=9223372036854775807):IntKind.i64.wrap a=a:=by
 rw[IntKind.wrap_i64]; omega
end Go.Abs.S
namespace Go.Abs
section
variable {P:Program} {Prot:Gh} {w0:World} {ρ:Pl} {H:ae} {w:World}
theorem Rel.keep(R:Rel Prot w0 ρ H w){w':World}(hb:RowKit.Below w.heap.size w w'):Rel Prot w0 ρ H w':=by
 refine⟨hb.os.trans R.os,hb.tape.trans R.tape,hb.output.trans R.output,Nat.le_trans R.size hb.size,fun c hc=>?_,fun b l L h=>?_,fun b l L h=>?_,R.free,R.inj,R.dead,R.glob⟩
 ·obtain⟨h1,h2⟩:=R.prot c hc
  exact⟨h1,(hb.block c (PH h1 R.size)).trans h2⟩
 ·obtain⟨h1,h2⟩:=R.dom b l L h
  exact⟨h1,PH h2 hb.size⟩
 ·obtain⟨x,o,h1,h2,h3⟩:=R.obj b l L h
  exact⟨x,o,h1,(hb.block _ (R.dom b l L h).2).trans h2,h3⟩
end
end Go.Abs
namespace Go.Abs.S
open Go.Abs
section
variable {C:CS} {T:bN} {H:ae} {r:List ak} {d:Option Nat}
abbrev KT:=List (af×ae)->bN->ae->Prop
variable {K:KT}
def fS(v:af)(H:ae)(K:KT):KT:=fun ss=>K ((v,H)::ss)
theorem tF(v:af)(H':ae)(ss:List (af×ae)):fS v H' K ss T H=K ((v,H')::ss) T H:=_root_.id rfl
def eN(o:Option af)(C:CS)(r:List ak)(T:bN)(d:Option Nat)(H:ae)(K:KT):Prop:=dn o fun v=>ee C r (gX T d v) H (fS v H K)
def uf(o:Option (af×ae))(C:CS)(r:List ak)(T:bN)(d:Option Nat)(K:KT):Prop:=dn o fun p=>ee C r (gX T d p.1) p.2 (fS p.1 p.2 K)
def Km(o:Option ae)(C:CS)(r:List ak)(T:bN)(d:Option Nat)(K:KT):Prop:=dn o fun H'=>ee C r (gX T d aN) H' (fS aN H' K)
def FW(C:CS)(r:List ak)(T:bN)(d:Option Nat)(K:KT):af->ae->Prop:=fun v H'=>ee C r (gX T d v) H' (fS v H' K)
theorem rk(v:af):eN (some v) C r T d H K=ee C r (gX T d v) H (fS v H K):=cO _ _
theorem rq(v:af)(H':ae):uf (some (v,H')) C r T d K=ee C r (gX T d v) H' (fS v H' K):=cO _ _
theorem rj(H':ae):Km (some H') C r T d K=ee C r (gX T d aN) H' (fS aN H' K):=cO _ _
theorem td(v:af):FW C r T d K v H=ee C r (gX T d v) H (fS v H K):=_root_.id rfl
theorem EE:ee C [] T H K=K [] T H:=_root_.id rfl
open Classical in
theorem vS(o:gT)(t:Nat)(b:Bool)(ht:t<1000000):ee C (⟨d,o,some (t,b)⟩::r) T H K=if T t=.bool b then ee C (⟨d,o,none⟩::r) T H K else ee C r (gX T d aN) H (fS aN H K):=by
 simp only[ee,JM T ht]
 by_cases h:T t=.bool b
 ·rw[if_pos h,h]; cases b <;> rfl
 ·rw[if_neg h]
  have:Mf b (T t)=false:=by
   unfold Mf
   cases hv:T t <;> simp only[NA]
   rename_i v
   rw[hv]at h
   cases b <;> cases v <;> simp at h ⊢
  rw[this]; rfl
open Classical in
theorem AH(c a b:bb):ee C (⟨d,.pick c a b,none⟩::r) T H K=if sX T c=.bool true then ee C r (gX T d (sX T a)) H (fS (sX T a) H K) else if sX T c=.bool false then ee C r (gX T d (sX T b)) H (fS (sX T b) H K) else False:=by
 simp only[ee,sG,Cw,cond_true]
 by_cases h:sX T c=.bool true
 ·rw[if_pos h,h]; simp; rfl
 ·rw[if_neg h]
  by_cases h':sX T c=.bool false
  ·rw[if_pos h',h']; simp; rfl
  ·rw[if_neg h']
   simp only[eq_iff_iff,iff_false,not_exists,not_and]
   intro v hv
   cases v
   ·exact absurd hv h'
   ·exact absurd hv h
theorem JD(x:bb):ee C (⟨d,.mv x,none⟩::r) T H K=ee C r (gX T d (sX T x)) H (fS (sX T x) H K):=_root_.id rfl
theorem EF(z:List af):ee C (⟨d,.new z,none⟩::r) T H K=ee C r (gX T d (eR H z).1) (eR H z).2 (fS (eR H z).1 (eR H z).2 K):=_root_.id rfl
theorem EI(x:bb):ee C (⟨d,.box x,none⟩::r) T H K=ee C r (gX T d (eR H (sX T x).cells).1) (eR H (sX T x).cells).2 (fS (eR H (sX T x).cells).1 (eR H (sX T x).cells).2 K):=_root_.id rfl
theorem vV(z:List af)(ps:List (Nat×Nat×bb)):ee C (⟨d,.build z ps,none⟩::r) T H K=eN (cj z (DT T ps)) C r T d H K:=_root_.id rfl
theorem pM(n:Nat)(z:List af)(ps:List (Nat×Nat×bb)):ee C (⟨d,.buildSl n z ps,none⟩::r) T H K=uf (cf n z H (DT T ps)) C r T d K:=_root_.id rfl
theorem AJ(a:Bool)(n:Nat)(x:bb):ee C (⟨d,.load a n x,none⟩::r) T H K=eN (bi a n H (sX T x)) C r T d H K:=_root_.id rfl
theorem vQ(n:Nat)(a x:bb):ee C (⟨d,.store n a x,none⟩::r) T H K=Km (bD n H (sX T a) (sX T x)) C r T d K:=_root_.id rfl
theorem rZ(x:bb):ee C (⟨d,.nilChk x,none⟩::r) T H K=eN (ck (sX T x)) C r T d H K:=_root_.id rfl
theorem EJ(op:BinOp)(x y:bb):ee C (⟨d,.bin op x y,none⟩::r) T H K=eN (cq op (sX T x) (sX T y)) C r T d H K:=_root_.id rfl
theorem JA(op:UnOp)(x:bb):ee C (⟨d,.un op x,none⟩::r) T H K=eN (DV op (sX T x)) C r T d H K:=_root_.id rfl
theorem AM(k:IntKind)(x:bb):ee C (⟨d,.conv k x,none⟩::r) T H K=eN (oM k (sX T x)) C r T d H K:=_root_.id rfl
theorem se(x:bb):ee C (⟨d,.convSB x,none⟩::r) T H K=uf (Mk H (sX T x)) C r T d K:=_root_.id rfl
theorem sf(x:bb):ee C (⟨d,.convBS x,none⟩::r) T H K=eN (DL H (sX T x)) C r T d H K:=_root_.id rfl
theorem r6(fn:Fn)(a b:List bb):ee C (⟨d,.mkFunc fn a b,none⟩::r) T H K=ee C r (gX T d (.func fn (ot T a) (ot T b))) H (fS (.func fn (ot T a) (ot T b)) H K):=_root_.id rfl
theorem pK(t:TypeId)(x:bb):ee C (⟨d,.mkIface t x,none⟩::r) T H K=ee C r (gX T d (.iface t (sX T x))) H (fS (.iface t (sX T x)) H K):=_root_.id rfl
theorem pI(b:Nat)(z:List af)(l c:bb):ee C (⟨d,.mkSlice b z l c,none⟩::r) T H K=uf (gO b z H (sX T l) (sX T c)) C r T d K:=_root_.id rfl
theorem JB(n:Nat)(x:bb)(lo hi mx:Option bb):ee C (⟨d,.sl n x lo hi mx,none⟩::r) T H K=eN (Hk n (sX T x) (nc T lo) (nc T hi) (nc T mx)) C r T d H K:=_root_.id rfl
theorem vR(x:bb)(lo hi:Option bb):ee C (⟨d,.slStr x lo hi,none⟩::r) T H K=eN (fh (sX T x) (nc T lo) (nc T hi)) C r T d H K:=_root_.id rfl
theorem sa(o:Nat)(x:bb):ee C (⟨d,.fieldA o x,none⟩::r) T H K=eN (gQ o (sX T x)) C r T d H K:=_root_.id rfl
theorem vT(a:Bool)(n o:Nat)(x:bb):ee C (⟨d,.field a n o x,none⟩::r) T H K=eN (kT a n o (sX T x)) C r T d H K:=_root_.id rfl
theorem AL(n:Nat)(x i:bb):ee C (⟨d,.idxA n x i,none⟩::r) T H K=eN (gP n (sX T x) (sX T i)) C r T d H K:=_root_.id rfl
theorem r8(m n:Nat)(x i:bb):ee C (⟨d,.idxArr m n x i,none⟩::r) T H K=eN (iy m n (sX T x) (sX T i)) C r T d H K:=_root_.id rfl
theorem EH(m n:Nat)(a:Bool)(x i:bb):ee C (⟨d,.idx m n a x i,none⟩::r) T H K=eN (DK m n a (sX T x) (sX T i)) C r T d H K:=_root_.id rfl
theorem AK(x i:bb):ee C (⟨d,.idxS x i,none⟩::r) T H K=eN (jg (sX T x) (sX T i)) C r T d H K:=_root_.id rfl
theorem pL(i:Nat)(x:bb):ee C (⟨d,.extract i x,none⟩::r) T H K=eN (dE i (sX T x)) C r T d H K:=_root_.id rfl
theorem si(n b:Nat)(s x:bb):ee C (⟨d,.append n b s x,none⟩::r) T H K=uf (bE n b H (sX T s) (sX T x)) C r T d K:=_root_.id rfl
theorem EG(s:Bool)(x:bb):ee C (⟨d,.len s x,none⟩::r) T H K=eN (gd s (sX T x)) C r T d H K:=_root_.id rfl
theorem AN(f:FuncId)(args:List bb):ee C (⟨d,.call f args,none⟩::r) T H K=C f (ot T args) H (FW C r T d K):=_root_.id rfl
theorem vU(f:bb)(args:List bb):ee C (⟨d,.callv f args,none⟩::r) T H K=nQ C (sX T f) (ot T args) H (FW C r T d K):=_root_.id rfl
theorem JC(f:PF)(xs:List bb):ee C (⟨d,.pf f xs,none⟩::r) T H K=eN (iu f (ot T xs)) C r T d H K:=_root_.id rfl
theorem JE(f:HF)(xs:List bb):ee C (⟨d,.hf f xs,none⟩::r) T H K=uf (mY f H (ot T xs)) C r T d K:=_root_.id rfl
theorem EC(m n:Nat)(x:bb)(lo hi mx:Option bb):ee C (⟨d,.slA m n x lo hi mx,none⟩::r) T H K=eN (iG m n (sX T x) (nc T lo) (nc T hi) (nc T mx)) C r T d H K:=_root_.id rfl
theorem gk(hs:List ae)(o:ak)(l:List ak)(ps:List (List Nat))(v:af)(Hv:ae)(ss:List (af×ae)):yA hs (o::l) ([]::ps) ((v,Hv)::ss) T=yA hs l ps ss (gX T o.dst v):=by
 simp[yA]
def Lu(hs:List ae)(ps:List Nat)(T:bN)(o:ak)(v:af):Prop:=∀p∈ps,∃Hp,hs[p]?=some Hp/\(sG T o.guard=true->∃u,Nu T Hp o.op=some u/\aeq u v=true)
theorem gn(hs:List ae)(o:ak)(l:List ak)(p:Nat)(q:List Nat)(ps:List (List Nat))(v:af)(Hv:ae)(ss:List (af×ae)):yA hs (o::l) ((p::q)::ps) ((v,Hv)::ss) T=(Lu hs (p::q) T o v/\yA hs l ps ss (gX T o.dst v)):=by
 simp[yA,Lu]
theorem jw(hs:List ae)(ps:List (List Nat))(ss:List (af×ae)):yA hs [] ps ss T=True:=by
 cases ps <;> simp[yA]
theorem go(hs:List ae)(o:ak)(v:af):Lu hs [] T o v=True:=by simp[Lu]
theorem fe(hs:List ae)(p:Nat)(q:List Nat)(a:Bool)(n:Nat)(x:bb)(g:Option (Nat×Bool))(v:af):Lu hs (p::q) T ⟨d,.load a n x,g⟩ v=((∃Hp,hs[p]?=some Hp/\(sG T g=true->∃u,bi a n Hp (sX T x)=some u/\aeq u v=true))/\Lu hs q T ⟨d,.load a n x,g⟩ v):=by
 simp[Lu,Nu]
theorem ir(k:IntKind)(a:Int):aeq (.int k a) (.int k a)=true:=by simp[aeq,fB]
end
end Go.Abs.S
namespace Go.Abs.S
open Go.Abs
theorem KF{H:ae}{a:Ad}{n k:Nat}{xs:List af}(h:aT H a n=some xs)(hk:k<=n):aT H a k=some (xs.take k):=by
 obtain⟨l,low,ro,h1,h2,h3,h4,rfl⟩:=jm h
 unfold aT
 simp only[h1,Pt h2,Pt h3,Pt (show a.o+k<=a.lim by omega),Bool.and_self,cond_true]
 rw[List.take_take,Nat.min_eq_left hk]
theorem aP(H:ae)(l:List af){n:Nat}(hn:l.length=n):∃H',eR H l=(aj H.next n 0,H')/\Row H' H.next l/\H'.next=H.next+1/\∀c,c≠H.next->H'.get c=H.get c:=by
 subst hn
 exact⟨_,rfl,jM _ _,rfl,fun c hc=>by rw[ae.get_push,if_neg hc]⟩
theorem tK(l:List af):(af.agg l).cells=l:=_root_.id rfl
theorem bK(x:af)(r:List af):dE 0 (.tuple (x::r))=some x:=_root_.id rfl
theorem bJ(x y:af)(r:List af):dE 1 (.tuple (x::y::r))=some y:=_root_.id rfl
theorem gb(x y z:af)(r:List af):dE 2 (.tuple (x::y::z::r))=some z:=_root_.id rfl
theorem vq{b n i:Nat}(h:i<n)(k:IntKind):iy n 1 (aj b n 0) (.int k (i:Int))=some (aj b n i):=by
 show (bif Nat.blt i n then some (af.ptr (some ⟨b,n,0+i*1⟩)) else none)=_
 have:Nat.blt i n=true:=by simpa[Nat.blt_eq] using h
 rw[this,Nat.zero_add,Nat.mul_one]; rfl
theorem bg.of_new{H H':ae}{b:Nat}(hn:H'.next=H.next+1)(h:∀c,c≠b->H'.get c=H.get c){n:Nat}(hb:n<=b):bg n H H':=⟨om,fun c hc=>h c om⟩
end Go.Abs.S
namespace Go.Abs.S
open Go.Abs Go.WideShapes Go.ChangeShapes
variable {H:Type} {enc:TypeId×Value->H}
end Go.Abs.S
namespace Go.Abs.S
open Go.Abs
def HH(s t:af):Prop:=∀a m r b m' r',s=.slice (some a) m r->t=.slice (some b) m' r'->a.b≠b.b
theorem HH.symm{s t:af}(h:HH s t):HH t s:=fun a m r b m' r' h1 h2 e=>h b m' r' a m r h2 h1 e.symm
theorem u6(t:af):HH cz t:=by intro a m r b m' r' h; simp[cz]at h
theorem fH{C:CS}{c:bh}{id:Nat}{Q:kU}{T:bN}{H:ae}(F:bN->ae->Prop)(hC:na C)(h:wp C c (j7 id (jG Q F)) T H)(k:∀T H,F T H->Q .normal T H):wp C c (j7 id Q) T H:=by
 refine py hC c (fun e T H hq=>?_) h
 cases e with
 | normal=>exact k _ _ hq
 | ret=>exact hq
 | exit j=>
  simp only[j7]at hq ⊢
  cases hb:Nat.beq j id with
  | true=>rw[hb]at hq; exact k _ _ hq
  | false=>rw[hb]at hq; exact hq
end Go.Abs.S
