/- Part of a proof (A11g A11h A11i A12 S1 S2 S3 S4 S5 N0); no condition. -/
import Derived.IntWalk
import Derived.Below
import Derived.Test.YtfleblkgifoeaaaGreatDoorP5
set_option linter.unusedSimpArgs false
set_option linter.unusedVariables false
set_option linter.unnecessarySimpa false
namespace Go.Abs
def tZ(n:Nat):List nm->Bool
 | []=>true
 | .t i::r=>Nat.blt i n&&tZ n r
 | .cell _ _ i::r=>Nat.blt i n&&tZ n r
def lF(b:Nat):List nm->List an
 | []=>[]
 | .t i::r=>⟨some b,.mv (.t i),none⟩::lF (b+1) r
 | .cell g m i::r=>⟨some b,.load g m (.t i),none⟩::lF (b+1) r
def lE(b:Nat):Nat->List bu
 | 0=>[]
 | k+1=>.t b::lE (b+1) k
def Es(n:Nat)(res:List nm):cp:=.seq (.reg (lF (n+4) res++[⟨some (n+3),.pf .tup (lE (n+4) res.length),none⟩])) .ret
def tj(n b i:Nat):Nat->List an
 | 0=>[]
 | k+1=>⟨some b,.pf (.capt i) [.t (n+1)],none⟩::tj n (b+1) (i+1) k
def vx(n G k:Nat):List an:=⟨some (n+2),.pf (.isF G k) [.t (n+1)],none⟩::tj n (n+4) 0 k
def xH(n:Nat)(res:List nm)(raw:Bool)(df:Option (Nat×Nat×Bool)):cp:=
 .seq (.reg [⟨some (n+2),.pf .isU [.t (n+1)],none⟩]) (.cond (.t (n+2))
  (.seq (.reg [⟨some (n+2),.pf .isU [.t n],none⟩]) (.cond (.t (n+2)) (Es n res) (bif raw then .seq (.reg [⟨some (n+3),.mv (.t n),none⟩]) .ret else gI)))
  (match df with
   | none=>gI
   | some (G,k,false)=>.seq (.reg [⟨some (n+2),.pf .isU [.t n],none⟩]) (.cond (.t (n+2)) (.seq (.reg (vx n G k++[⟨none,.call (3*cA+G) (lE (n+4) k),none⟩])) (Es n res)) gI)
   | some (G,k,true)=>.seq (.reg (⟨some (n+3),.pf .unP [.t n],none⟩::(vx n G k++[⟨none,.call (2*cA+G) (lE (n+4) k++[.t (n+3)]),none⟩]))) (Es n res)))
section
variable {tb:FuncId->Bool} {call:FuncId->List ab->aa->Option (ab×aa)} {n:Nat}
theorem I2(l:List ab):N7 l=jr l:=by
 match l with
 | []=>rfl
 | [x]=>rfl
 | x::y::r=>rfl
theorem nH{U:Tr ab}{H H1:aa}:∀(res:List nm) (b:Nat) {T T1:Tr ab},GE n T U->n<=b->tZ n res=true->bA tb call (lF b res) T H=some (T1,H1) ->
  H1=H/\∃xs,ko U H res=some xs/\gA T1 (lE b res.length)=xs/\∀t,t<b->ev T1 (.t t)=ev T (.t t)
 | [],b,T,T1,_,_,_,h=>by
  simp only[lF,bA,sJ,pJ]at h
  obtain⟨rfl,rfl⟩:=h
  exact⟨rfl,[],rfl,rfl,fun _ _=>rfl⟩
 | .t i::r,b,T,T1,hG,hb,hr,h=>by
  simp only[tZ,QT]at hr
  simp only[lF]at h
  rw[bM,cz]at h
  simp only[ct]at h
  obtain⟨q1,xs,q2,q3,q4⟩:=nH r (b+1) (hG.ghost hb _) om hr.2 h
  refine⟨q1,ev U (.t i)::xs,by simp only[ko,q2],?_,fun t ht=>?_⟩
  ·simp only[QU,lE,gA,q3]
   rw[q4 b om,aY,if_pos rfl,hG.1 i (eU hr.1)]
  ·rw[q4 t om,aY,if_neg om]
 | .cell g m i::r,b,T,T1,hG,hb,hr,h=>by
  simp only[tZ,QT]at hr
  simp only[lF]at h
  rw[bM,cz]at h
  simp only[ct,vv]at h
  cases hl:am g m H (ev T (.t i)) with
  | none=>rw[hl]at h; simp at h
  | some v=>
   rw[hl]at h
   simp only at h
   obtain⟨q1,xs,q2,q3,q4⟩:=nH r (b+1) (hG.ghost hb _) om hr.2 h
   rw[hG.1 i (eU hr.1)]at hl
   refine⟨q1,v::xs,by simp only[ko,hl,q2],?_,fun t ht=>?_⟩
   ·simp only[QU,lE,gA,q3]
    rw[q4 b om,aY,if_pos rfl]
   ·rw[q4 t om,aY,if_neg om]
theorem CD{U T T':Tr ab}{H H':aa}{e:tV}{k:Nat}{res:List nm}(hG:GE n T U)(hr:tZ n res=true)(h:aO tb call k (Es n res) T H=some (e,T',H')) :
  e=.ret/\H'=H/\∃xs,ko U H res=some xs/\ev T' (.t (n+3))=jr xs:=by
 simp only[Es,aO]at h
 rw[fZ]at h
 cases hs:bA tb call (lF (n+4) res) T H with
 | none=>rw[hs]at h; simp at h
 | some p=>
  obtain⟨T1,H1⟩:=p
  rw[hs]at h
  obtain⟨rfl,xs,q2,q3,q4⟩:=nH res (n+4) hG om hr hs
  simp only at h
  rw[bM,cz]at h
  simp only[ct,jt,vv,q3,bA,cQ,sJ,pJ]at h
  obtain⟨rfl,rfl,rfl⟩:=h
  exact⟨rfl,rfl,xs,q2,by rw[aY,if_pos rfl,I2]⟩
theorem ti{f:Fn}{l:List ab}{H H1:aa}:∀(k b i:Nat) {T T1:Tr ab},ev T (.t (n+1))=.func f [] l->n+1<b->bA tb call (tj n b i k) T H=some (T1,H1) ->
  H1=H/\gA T1 (lE b k)=(l.drop i).take k/\∀t,t<b->ev T1 (.t t)=ev T (.t t)
 | 0,b,i,T,T1,_,_,h=>by
  simp only[tj,bA,sJ,pJ]at h
  obtain⟨rfl,rfl⟩:=h
  exact⟨rfl,by simp[lE,gA],fun _ _=>rfl⟩
 | k+1,b,i,T,T1,hd,hb,h=>by
  simp only[tj]at h
  rw[bM,cz]at h
  simp only[ct,gA,jt,vv,hd,Lo]at h
  cases hx:l[i]? with
  | none=>rw[hx]at h; simp at h
  | some x=>
   rw[hx]at h
   simp only[cQ]at h
   obtain⟨q1,q2,q3⟩:=ti k (b+1) (i+1) (T:=T.set b x) (by rw[aY,if_neg om]; exact hd) om h
   refine⟨q1,?_,fun t ht=>by rw[q3 t om,aY,if_neg om]⟩
   simp only[lE,gA,q2]
   rw[q3 b om,aY,if_pos rfl]
   obtain⟨hi,hxi⟩:=QR.1 hx
   rw[List.drop_eq_getElem_cons hi,List.take_succ_cons,hxi]
theorem yU{G k:Nat}{H H1:aa}{T T1:Tr ab}(h:bA tb call (vx n G k) T H=some (T1,H1)) :
  ∃l,ev T (.t (n+1))=.func (.func G) [] l/\l.length=k/\H1=H/\gA T1 (lE (n+4) k)=l/\∀t,t<n+4->t≠n+2->ev T1 (.t t)=ev T (.t t):=by
 unfold vx at h
 rw[bM,cz]at h
 simp only[ct,gA,jt,vv]at h
 cases hd:Ka G k [ev T (.t (n+1))] with
 | none=>rw[hd]at h; simp at h
 | some v=>
  rw[hd]at h
  simp only[cQ]at h
  unfold Ka at hd
  split at hd
  ·rename_i f l heq
   simp only[List.cons.injEq,and_true]at heq
   cases hb:Nat.beq f G&&Nat.beq l.length k with
   | false=>rw[hb]at hd; simp at hd
   | true=>
    simp only[QT]at hb
    have e1:=QX hb.1
    have e2:=QX hb.2
    subst e1
    obtain⟨q1,q2,q3⟩:=ti k (n+4) 0 (f:=.func f) (l:=l) (by rw[aY,if_neg om]; exact heq) om h
    refine⟨l,heq,e2,q1,?_,fun t ht hne=>by rw[q3 t ht,aY,if_neg hne]⟩
    rw[q2,List.drop_zero,List.take_of_length_le om]
  ·simp at hd
end
section
def nw(P:Program)(G:Nat):Nat:=match P.funcs[G]? with
 | some f=>f.params.size+f.nfree
 | none=>0
def Ls(P:Program)(call:FuncId->List ab->aa->Option (ab×aa)):Prop:=
 ∀G args H v H',Nat.blt G cA=true->call (3*cA+G) args H=some (v,H')->∀Prot w0 ρ w (vs:Array Value),cg Prot w0 ρ H w->ap ρ args vs.toList ->
  CallsD P G vs .returning w fun e u' w'=>u'=.returning/\∃ρ' y,ρ.le ρ'/\e=.returned y/\cg Prot w0 ρ' H' w'
def MH(u:FrameMode)(xv:Value):Prop:=(u=.returning/\xv=.nilIface)∨u=.panicking [{ v:=xv,recovered:=false }]
def Lr(P:Program)(call:FuncId->List ab->aa->Option (ab×aa)):Prop:=
 ∀G args x H v H',Nat.blt G cA=true->args.length=nw P G->call (2*cA+G) (args++[x]) H=some (v,H')->∀Prot w0 ρ w (vs:Array Value) xv u,cg Prot w0 ρ H w->ap ρ args vs.toList->ak ρ x xv->MH u xv ->
  CallsD P G vs u w fun e u' w'=>settle u'=.returning/\∃ρ' y,ρ.le ρ'/\e=.returned y/\cg Prot w0 ρ' H' w'
variable {P:Program} {Prot:Gh} {w0:World} {ρ:Pl} {H H':aa} {w:World} {n:Nat}
def Lp(Prot:Gh)(w0:World)(raw:Bool)(ρ:Pl)(H:aa)(v:ab):Ending->World->Prop:=fun e w'=>
 ∃ρ',ρ.le ρ'/\cg Prot w0 ρ' H w'/\((∃y,e=.returned y/\ak ρ' v y)∨(raw=true/\∃x y,v=lI x/\e=.panicked [{ v:=y,recovered:=false }]/\ak ρ' x y))
def Ew(P:Program):Option (Nat×Nat×Bool)->Bool
 | none=>true
 | some (G,k,true)=>Nat.blt G cA&&Nat.beq k (nw P G)
 | some (G,_,false)=>Nat.blt G cA
theorem GX{x:ab}(h:isU x=true):x=aX:=by
 unfold isU at h
 split at h
 ·rfl
 ·simp at h
theorem FE{tb:FuncId->Bool}{call:FuncId->List ab->aa->Option (ab×aa)}{k:Nat}(hcD:Ls P call)(hcR:Lr P call)(hbD:∀f,Nat.blt f cA=true->tb (3*cA+f)=true->bX P f=true)(hbR:∀f,Nat.blt f cA=true->tb (2*cA+f)=true->bX P f=true)
  {fc:Func} {res:List nm} (hres:qO P fc.results.toList=some res) (hrT:tZ n res=true) {raw:Bool} {df:Option (Nat×Nat×Bool)} (hdf:Ew P df=true) {T T':Tr ab} {e:tV}
  (h:aO tb call k (xH n res raw df) T H=some (e,T',H')) (R:cg Prot w0 ρ H w) {a:Act} {u:FrameMode} (hst:(rq ρ n T a/\u=.returning)∨∃uv,MI ρ n T a uv/\u=.panicking [{ v:=uv,recovered:=false }]) :
  e=.ret/\Leaves P fc a.tmps (Lp Prot w0 raw ρ H' (ev T' (.t (n+3)))) a.defers u w:=by
 simp only[xH,aO]at h
 rw[bM,cz]at h
 simp only[ct,gA,jt,vv,J9,bA,cQ]at h
 rw[aY,if_pos rfl]at h
 have e1:∀b,ev (T.set (n+2) b) (.t n)=ev T (.t n):=fun b=>by rw[aY,if_neg om]
 have e11:∀b c,ev ((T.set (n+2) b).set (n+2) c) (.t (n+2))=c:=fun b c=>by rw[aY,if_pos rfl]
 have e12:∀b c,ev ((T.set (n+2) b).set (n+2) c) (.t n)=ev T (.t n):=fun b c=>by rw[aY,if_neg om,e1]
 have isP:∀x,isU (lI x)=false:=fun x=>rfl
 cases hu:isU (ev T (.t (n+1))) with
 | true=>
  rw[hu]at h
  have hund:=GX hu
  simp only[im,cond_true,e1,e11]at h
  cases hu2:isU (ev T (.t n)) with
  | true=>
   rw[hu2]at h
   rcases hst with⟨hP,rfl⟩ | ⟨uv,⟨x,q1,_⟩,_⟩
   ·obtain⟨U,hG,ht⟩:=hP.1.t
    obtain⟨rfl,rfl,xs,z1,z2⟩:=CD ((hG.ghost (d:=n+2) om _).ghost (d:=n+2) om _) hrT h
    have hds:a.defers=[]:=by
     have:=hP.1.d
     rw[hund]at this
     rcases this with⟨_,h9⟩ | ⟨f,fa,fb,d,cap,h9,_⟩
     ·exact h9
     ·simp[aX]at h9
    obtain⟨v,r1,r2⟩:=lD (P:=P) R ht hres z1
    refine⟨rfl,?_⟩
    rw[hds]
    exact⟨v,r1,ρ,Pl.le_refl _,R,.inl ⟨v,rfl,by rw[z2]; exact r2⟩⟩
   ·rw[q1,isP]at hu2; simp at hu2
  | false=>
   rw[hu2]at h
   rcases hst with⟨hP,rfl⟩ | ⟨uv,⟨x,q1,q2,q3⟩,rfl⟩
   ·rw[hP.2]at hu2; simp[isU,aX]at hu2
   ·cases raw with
    | false=>simp[gI,aO,bA,im,ct]at h
    | true=>
     simp only[cond_true,aO,bA,im,ct,cQ,e12,sJ,pJ]at h
     obtain⟨rfl,rfl,rfl⟩:=h
     have hds:a.defers=[]:=by
      rcases q3 with⟨h9,_⟩ | hg
      ·exact h9
      ·have:=hg.d
       rw[hund]at this
       rcases this with⟨_,h9⟩ | ⟨f,fa,fb,d,cap,h9,_⟩
       ·exact h9
       ·simp[aX]at h9
     refine⟨rfl,?_⟩
     rw[hds]
     exact⟨ρ,Pl.le_refl _,R,.inr ⟨rfl,x,uv,by rw[aY,if_pos rfl]; exact q1,rfl,q2⟩⟩
 | false=>
  rw[hu]at h
  have hnu:ev T (.t (n+1))≠aX:=fun e=>by rw[e]at hu; simp[isU,aX]at hu
  have hGT:GT ρ n T a:=by
   rcases hst with⟨hP,_⟩ | ⟨uv,⟨x,q1,q2,⟨_,q3⟩ | q3⟩,_⟩
   ·exact hP.1
   ·exact (hnu q3).elim
   ·exact q3
  obtain⟨U,hG,ht⟩:=hGT.t
  obtain⟨f,fa,fb,d,cap,d1,d2,d3,d4,d5⟩:∃f a' b d cap,ev T (.t (n+1))=.func (.func f) a' b/\a.defers=[d]/\d.target=.fn (.func f) cap/\ap ρ b cap.toList/\ap ρ a' d.args.toList:=by
   rcases hGT.d with⟨h9,_⟩ | h9
   ·exact (hnu h9).elim
   ·exact h9
  have rest:∀{T5:Tr ab} {H5:aa} {e5:tV},GE n T5 U->aO tb call k (Es n res) T5 H5=some (e5,T',H')->e5=.ret/\∀(ρ':Pl) (w':World),ρ.le ρ'->cg Prot w0 ρ' H5 w'->Leaves P fc a.tmps (Lp Prot w0 raw ρ H' (ev T' (.t (n+3)))) [] .returning w':=by
   intro T5 H5 e5 hG5 h5
   obtain⟨rfl,rfl,xs,z1,z2⟩:=CD hG5 hrT h5
   refine⟨rfl,fun ρ' w' hle R'=>?_⟩
   obtain⟨v,r1,r2⟩:=lD (P:=P) R' (ht.mono hle) hres z1
   exact⟨v,r1,ρ',hle,R',.inl ⟨v,rfl,by rw[z2]; exact r2⟩⟩
  rcases df with _ | ⟨G,kk,_ | _⟩
  ·simp[gI,aO,bA,im,ct]at h
  ·skip
   simp only[Ew]at hdf
   simp only[aO]at h
   rw[bM,cz]at h
   simp only[ct,gA,jt,vv,J9,bA,cQ,e1,e11]at h
   cases hu2:isU (ev T (.t n)) with
   | false=>rw[hu2]at h; simp[gI,aO,bA,im,ct]at h
   | true=>
    rw[hu2]at h
    simp only at h
    rw[fZ]at h
    cases hs:bA tb call (vx n G kk) ((T.set (n+2) (.bool false)).set (n+2) (.bool true)) H with
    | none=>rw[hs]at h; simp at h
    | some p=>
     obtain⟨T4,H4⟩:=p
     rw[hs]at h
     obtain⟨l,c1,c2,rfl,c4,c5⟩:=yU hs
     have c1':ev T (.t (n+1))=.func (.func G) [] l:=by rw[<- c1,aY,if_neg om,aY,if_neg om]
     rw[c1']at d1
     simp only[ab.func.injEq,Fn.func.injEq]at d1
     obtain⟨rfl,rfl,rfl⟩:=d1
     simp only at h
     rw[bM,cz]at h
     simp only[ct,c4]at h
     cases hb:tb (3*cA+G) with
     | false=>rw[hb]at h; simp at h
     | true=>
      rw[hb]at h
      simp only[cond_true]at h
      cases hcl:call (3*cA+G) l H4 with
      | none=>rw[hcl]at h; simp at h
      | some q=>
       obtain⟨v,H5⟩:=q
       rw[hcl]at h
       simp only[cQ,bA]at h
       have hG4:GE n T4 U:=⟨fun t ht'=>by rw[c5 t om om,aY,if_neg om,aY,if_neg om]; exact hG.1 t ht',hG.2⟩
       obtain⟨rfl,hrest⟩:=rest hG4 h
       refine⟨rfl,?_⟩
       have hur:u=.returning:=by
        rcases hst with⟨_,h9⟩ | ⟨uv,⟨x,q1,_⟩,_⟩
        ·exact h9
        ·rw[q1,isP]at hu2; simp at hu2
       subst hur
       simp only[ap]at d5
       rw[d2]
       refine⟨by simp,.func G,cap,G,d.args++cap,d3,?_,?_⟩
       ·rw[d3]; exact fY (hbD G hdf hb) _
       ·refine (hcD G l H4 v H5 hdf hcl Prot w0 ρ w (d.args++cap) R (by simpa[d5] using d4)).mono ?_
        rintro e' u' w' ⟨rfl,ρ',y,q1,rfl,q2⟩
        exact hrest ρ' w' q1 q2
  ·skip
   simp only[Ew,QT]at hdf
   obtain⟨hG1,hk1⟩:=hdf
   have hk:=QX hk1
   simp only[aO]at h
   rw[bM,cz]at h
   simp only[ct,gA,jt,vv,e1]at h
   cases hun:J7 [ev T (.t n)] with
   | none=>rw[hun]at h; simp at h
   | some x=>
    rw[hun]at h
    simp only[cQ]at h
    rw[fZ]at h
    cases hs:bA tb call (vx n G kk) ((T.set (n+2) (.bool false)).set (n+3) x) H with
    | none=>rw[hs]at h; simp at h
    | some p=>
     obtain⟨T4,H4⟩:=p
     rw[hs]at h
     obtain⟨l,c1,c2,rfl,c4,c5⟩:=yU hs
     have c1':ev T (.t (n+1))=.func (.func G) [] l:=by rw[<- c1,aY,if_neg om,aY,if_neg om]
     have c3:ev T4 (.t (n+3))=x:=by rw[c5 (n+3) om om,aY,if_pos rfl]
     rw[c1']at d1
     simp only[ab.func.injEq,Fn.func.injEq]at d1
     obtain⟨rfl,rfl,rfl⟩:=d1
     have evapp:∀(m:List bu),gA T4 (m++[.t (n+3)])=gA T4 m++[x]:=by
      intro m
      induction m with
      | nil=>simp only[List.nil_append,gA,c3]
      | cons y m ih=>simp only[Q9,gA,ih]
     simp only at h
     rw[bM,cz]at h
     simp only[ct,evapp,c4]at h
     cases hb:tb (2*cA+G) with
     | false=>rw[hb]at h; simp at h
     | true=>
      rw[hb]at h
      simp only[cond_true]at h
      cases hcl:call (2*cA+G) (l++[x]) H4 with
      | none=>rw[hcl]at h; simp at h
      | some q=>
       obtain⟨v,H5⟩:=q
       rw[hcl]at h
       simp only[cQ,bA]at h
       have hG4:GE n T4 U:=⟨fun t ht'=>by rw[c5 t om om,aY,if_neg om,aY,if_neg om]; exact hG.1 t ht',hG.2⟩
       obtain⟨rfl,hrest⟩:=rest hG4 h
       refine⟨rfl,?_⟩
       have hx:∃xv,ak ρ x xv/\MH u xv/\u≠.run:=by
        rcases hst with⟨hP,rfl⟩ | ⟨uv,⟨x',q1,q2,_⟩,rfl⟩
        ·rw[hP.2]at hun
         simp only[aX,J7,sJ]at hun
         subst hun
         exact⟨.nilIface,rfl,.inl ⟨rfl,rfl⟩,by simp⟩
        ·rw[q1]at hun
         simp only[lI,J7,sJ]at hun
         subst hun
         exact⟨uv,q2,.inr rfl,by simp⟩
       obtain⟨xv,x1,x2,x3⟩:=hx
       simp only[ap]at d5
       rw[d2]
       refine⟨x3,.func G,cap,G,d.args++cap,d3,?_,?_⟩
       ·rw[d3]; exact fY (hbR G hG1 hb) _
       ·refine (hcR G l x H4 v H5 hG1 om hcl Prot w0 ρ w (d.args++cap) xv u R (by simpa[d5] using d4) x1 x2).mono ?_
        rintro e' u' w' ⟨hu',ρ',y,q1,rfl,q2⟩
        show Leaves P fc a.tmps _ [] (settle u') w'
        rw[hu']
        exact hrest ρ' w' q1 q2
end
end Go.Abs
namespace Go.Abs
section
variable (P:Program)
def Bu(md:Ds)(raw:Bool)(f:FuncId):Option bV:=match P.funcs[f]? with
 | some fn=>match fn.body with
  | some c => bif fn.name == "runtime.NumGoroutine" then none else
   match eh P fn.ntmps md.ps c,qO P fn.results.toList with
   | some b,some r=>bif tZ fn.ntmps r&&Ew P md.df then some ⟨fn.ntmps,.seq (.block PB b) (xH fn.ntmps r raw md.df),[.t (fn.ntmps+3)]⟩ else none
   | _,_=>none
  | none=>none
 | none=>none
def oD:Code->Option (Array Oper×Nat×List Oper×Code)
 | .seq (.region _ ops false) rest=>match ops.toList with
  | o::os=>match o.op,o.dst,o.guard with
   | .call c,some d,none=>match c.callee with
    | .builtin .recover=>some (ops,d,os,rest)
    | _=>none
   | _,_,_=>none
  | []=>none
 | _=>none
def wb(n k d:Nat):List an:=[⟨some n,.mv (.t k),none⟩,⟨some k,.mv (.c aX),none⟩,⟨some d,.mv (.t n),none⟩,⟨some n,.mv (.c aX),none⟩]
def HN(g:FuncId):Option bV:=match P.funcs[g]? with
 | some fn=>match fn.body with
  | some c => bif fn.name == "runtime.NumGoroutine" || !(Nat.beq fn.results.size 0) then none else
   match oD c with
   | some (ops,d,os,rest)=>match dd P fn.ntmps ops os,fG P fn.ntmps rest with
    | some l,some r=>bif Nat.blt d fn.ntmps&&Nat.ble (nw P g) d then some ⟨fn.ntmps,.seq (.reg (wb fn.ntmps (nw P g) d)) (.seq (.reg l) r),[]⟩ else none
    | _,_=>none
   | none=>none
  | none=>none
 | none=>none
def wG(md:Option Ds)(i:Nat):Option bV:=
 bif Nat.blt i cA then (match md with | none=>IV P i | some md=>Bu P md false i)
 else bif Nat.blt i (2*cA) then (match md with | some md=>Bu P md true (i-cA) | none=>none)
 else bif Nat.blt i (3*cA) then HN P (i-2*cA)
 else bif Nat.blt i (4*cA) then IV P (i-3*cA) else none
def IF(tab:Tr bV):Prop:=∀f fn,tab.get f=some fn->∃md,wG P md f=some fn
end
section
variable {P:Program} {Prot:Gh} {w0:World} {ρ:Pl} {H H':aa} {w:World}
theorem fK(a b:Nat):Nat.blt a b=decide (a<b):=by
 cases h:Nat.blt a b with
 | true=>exact (decide_eq_true (eU h)).symm
 | false=>exact (decide_eq_false fun q=>by rw[show Nat.blt a b=true from QS q]at h; simp at h).symm
theorem Lb{md:Option Ds}{f:Nat}(hf:Nat.blt f cA=true){fn:bV}(h:wG P md f=some fn):IV P f=some fn∨∃m,Bu P m false f=some fn:=by
 unfold wG at h
 rw[hf]at h
 simp only[cond_true]at h
 cases md with
 | none=>exact .inl h
 | some m=>exact .inr ⟨m,h⟩
theorem La{md:Option Ds}{f:Nat}(hf:Nat.blt f cA=true){fn:bV}(h:wG P md (cA+f)=some fn):∃m,Bu P m true f=some fn:=by
 have hlt:=eU hf
 unfold wG at h
 have h1:Nat.blt (cA+f) cA=false:=by rw[fK]; exact decide_eq_false om
 have h2:Nat.blt (cA+f) (2*cA)=true:=by rw[fK]; exact decide_eq_true om
 rw[h1,h2]at h
 simp only[cond_true,cond_false,Nat.add_sub_cancel_left]at h
 cases md with
 | none=>simp at h
 | some m=>exact⟨m,h⟩
theorem K0{md:Option Ds}{f:Nat}(hf:Nat.blt f cA=true){fn:bV}(h:wG P md (2*cA+f)=some fn):HN P f=some fn:=by
 have hlt:=eU hf
 unfold wG at h
 have h1:Nat.blt (2*cA+f) cA=false:=by rw[fK]; exact decide_eq_false om
 have h2:Nat.blt (2*cA+f) (2*cA)=false:=by rw[fK]; exact decide_eq_false om
 have h3:Nat.blt (2*cA+f) (3*cA)=true:=by rw[fK]; exact decide_eq_true om
 rw[h1,h2,h3]at h
 simpa only [cond_true,cond_false,Nat.add_sub_cancel_left] using h
theorem KZ{md:Option Ds}{f:Nat}(hf:Nat.blt f cA=true){fn:bV}(h:wG P md (3*cA+f)=some fn):IV P f=some fn:=by
 have hlt:=eU hf
 unfold wG at h
 have h1:Nat.blt (3*cA+f) cA=false:=by rw[fK]; exact decide_eq_false om
 have h2:Nat.blt (3*cA+f) (2*cA)=false:=by rw[fK]; exact decide_eq_false om
 have h3:Nat.blt (3*cA+f) (3*cA)=false:=by rw[fK]; exact decide_eq_false om
 have h4:Nat.blt (3*cA+f) (4*cA)=true:=by rw[fK]; exact decide_eq_true om
 rw[h1,h2,h3,h4]at h
 simpa only [cond_true,cond_false,Nat.add_sub_cancel_left] using h
theorem pX {md : Ds} {raw : Bool} {f : FuncId} {fn : bV} (h : Bu P md raw f = some fn) : ∃ fc c b r, P.funcs[f]? = some fc ∧ fc.body = some c ∧ (fc.name == "runtime.NumGoroutine") = false ∧ eh P fc.ntmps md.ps c = some b ∧ qO P fc.results.toList = some r ∧
  tZ fc.ntmps r=true/\Ew P md.df=true/\fn=⟨fc.ntmps,.seq (.block PB b) (xH fc.ntmps r raw md.df),[.t (fc.ntmps+3)]⟩:=by
 unfold Bu at h
 split at h
 ·rename_i fc hf
  split at h
  ·rename_i c hb
   cases hn : (fc.name == "runtime.NumGoroutine") with
   | true=>rw[hn]at h; simp at h
   | false=>
    rw[hn]at h
    simp only[cond_false]at h
    split at h
    ·rename_i b r h1 h2
     cases h3:tZ fc.ntmps r&&Ew P md.df with
     | false=>rw[h3]at h; simp at h
     | true=>
      rw[h3]at h
      simp only[cond_true,sJ]at h
      simp only[QT]at h3
      exact⟨fc,c,b,r,hf,hb,hn,h1,h2,h3.1,h3.2,h.symm⟩
    ·simp at h
  ·simp at h
 ·simp at h
theorem ue{c:Code}{ops:Array Oper}{d:Nat}{os:List Oper}{rest:Code}(h:oD c=some (ops,d,os,rest)):∃i o args ats,c=.seq (.region i ops false) rest/\ops.toList=o::os/\o.op=.call ⟨.builtin .recover,args,ats⟩/\o.dst=some d/\o.guard=none:=by
 unfold oD at h
 split at h
 ·rename_i i ops' rest'
  split at h
  ·rename_i o os' ho
   split at h
   ·rename_i c' d' h1 h2 h3
    split at h
    ·rename_i hcal
     simp only[sJ,pJ]at h
     obtain⟨rfl,rfl,rfl,rfl⟩:=h
     obtain⟨cal,args,ats⟩:=c'
     simp only at hcal
     subst hcal
     exact⟨i,o,args,ats,rfl,ho,h1,h2,h3⟩
    ·simp at h
   ·simp at h
  ·simp at h
 ·simp at h
theorem vy {g : FuncId} {fn : bV} (h : HN P g = some fn) : ∃ fc c ops d os rest l r, P.funcs[g]? = some fc ∧ fc.body = some c ∧ (fc.name == "runtime.NumGoroutine") = false ∧ fc.results = #[] ∧ oD c = some (ops, d, os, rest) ∧ dd P fc.ntmps ops os = some l ∧ fG P fc.ntmps rest = some r ∧
  d<fc.ntmps/\nw P g<=d/\fn=⟨fc.ntmps,.seq (.reg (wb fc.ntmps (nw P g) d)) (.seq (.reg l) r),[]⟩:=by
 unfold HN at h
 split at h
 ·rename_i fc hf
  split at h
  ·rename_i c hb
   cases hn : (fc.name == "runtime.NumGoroutine" || !(Nat.beq fc.results.size 0)) with
   | true=>rw[hn]at h; simp at h
   | false=>
    rw[hn]at h
    simp only[Bool.or_eq_false_iff,Bool.not_eq_false']at hn
    simp only[cond_false]at h
    split at h
    ·rename_i ops d os rest hsp
     split at h
     ·rename_i l r h1 h2
      cases h3:Nat.blt d fc.ntmps&&Nat.ble (nw P g) d with
      | false=>rw[h3]at h; simp at h
      | true=>
       rw[h3]at h
       simp only[cond_true,sJ]at h
       simp only[QT]at h3
       exact⟨fc,c,ops,d,os,rest,l,r,hf,hb,hn.1,Array.eq_empty_of_size_eq_zero (QX hn.2),hsp,h1,h2,eU h3.1,QW h3.2,h.symm⟩
     ·simp at h
    ·simp at h
  ·simp at h
 ·simp at h
theorem pn {f : Nat} (hf : Nat.blt f cA = true) {fc : Func} {c : Code} (h1 : P.funcs[f]? = some fc) (h2 : fc.body = some c) (h3 : (fc.name == "runtime.NumGoroutine") = false) : bX P f = true := by
 simp[bX,hf,h1,h2,h3]
structure Dw(P:Program)(call:FuncId->List ab->aa->Option (ab×aa)):Prop where
 ok:js P call
 pan:zX P call
 dfd:Ls P call
 rcv:Lr P call
structure Kb(P:Program)(tb:FuncId->Bool):Prop where
 h0:∀f,Nat.blt f cA=true->tb f=true->bX P f=true
 h1:∀f,Nat.blt f cA=true->tb (cA+f)=true->bX P f=true
 h2:∀f,Nat.blt f cA=true->tb (2*cA+f)=true->bX P f=true
 h3:∀f,Nat.blt f cA=true->tb (3*cA+f)=true->bX P f=true
theorem Hm(hfol:P.follows .mixedOrders=true){tb:FuncId->Bool}(hb:Kb P tb){call:FuncId->List ab->aa->Option (ab×aa)}(hc:Dw P call){k:Nat}{md:Ds}{raw:Bool}{f:FuncId}{fn:bV}(hfn:Bu P md raw f=some fn)
  {args:List ab} (hlen:args.length<=fn.nt) {e:tV} {T:Tr ab} {H1:aa} (hx:aO tb call k fn.body (dh args 0 .e) H=some (e,T,H1)) (hne:∀i,e≠.exit i) {xs:List ab} (hxs:ko T H1 fn.res=some xs) {vs:Array Value} (R:cg Prot w0 ρ H w) (hv:ap ρ args vs.toList) :
  Calls P f vs w (Lp Prot w0 raw ρ H1 (jr xs)):=by
 obtain⟨fc,c,b,r,h1,h2,h3,h4,h5,h6,h7,rfl⟩:=pX hfn
 simp only at hlen
 have hst:=pG (ρ:=ρ) hv hlen
 have hgh:∀t,fc.ntmps<=t->ev (dh args 0 .e) (.t t)=aX:=fun t ht=>by
  have:=hst.at_ t
  have hsz:=hst.size
  rw[Array.getD_eq_getD_getElem?,Array.getElem?_eq_none om]at this
  exact Fm this
 have hP:rq ρ fc.ntmps (dh args 0 .e) { tmps:=vs++Array.replicate (fc.ntmps-vs.size) undef,defers:=[] }:=
  ⟨⟨⟨_,⟨fun _ _=>rfl,hgh⟩,hst⟩,.inl ⟨hgh _ om,rfl⟩⟩,hgh _ rL⟩
 simp only[aO]at hx
 refine calls_of_wp_defers h1 h2 ?_
 cases hb1:aO tb call k b (dh args 0 .e) H with
 | none=>rw[hb1]at hx; simp at hx
 | some q=>
  obtain⟨e1,T1,H2⟩:=q
  rw[hb1]at hx
  have hsim:=Ez hfol hb.h0 hb.h1 hc.ok hc.pan c b h4 ρ _ _ _ _ e1 _ w R hP hb1
  have hval:∀v,ev T (.t (fc.ntmps+3))=v->jr xs=v:=fun v h9=>by
   simp only[ko,sJ]at hxs
   subst hxs
   exact h9
  have hout:∀{ρ':Pl} {a':Act} {w':World} {u:FrameMode},ρ.le ρ'->cg Prot w0 ρ' H2 w'->((rq ρ' fc.ntmps T1 a'/\u=.returning)∨∃uv,MI ρ' fc.ntmps T1 a' uv/\u=.panicking [{ v:=uv,recovered:=false }]) ->
    aO tb call k (xH fc.ntmps r raw md.df) T1 H2=some (e,T,H1)->Leaves P fc a'.tmps (Lp Prot w0 raw ρ H1 (jr xs)) a'.defers u w':=by
   intro ρ' a' w' u hle R' hs' ht'
   obtain⟨_,hL⟩:=FE (fc:=fc) hc.dfd hc.rcv hb.h3 hb.h2 h5 h6 h7 ht' R' hs'
   rw[hval _ rfl]
   have:∀(ds:List Deferred) (u:FrameMode) (w:World),Leaves P fc a'.tmps (Lp Prot w0 raw ρ' H1 (ev T (.t (fc.ntmps+3)))) ds u w->Leaves P fc a'.tmps (Lp Prot w0 raw ρ H1 (ev T (.t (fc.ntmps+3)))) ds u w:=by
    have hO:∀e w',Lp Prot w0 raw ρ' H1 (ev T (.t (fc.ntmps+3))) e w'->Lp Prot w0 raw ρ H1 (ev T (.t (fc.ntmps+3))) e w':=fun e w' ⟨ρ2,q1,q2⟩=>⟨ρ2,Pl.le_trans hle q1,q2⟩
    intro ds
    induction ds with
    | nil=>
     intro u w hL
     cases u with
     | run=>exact hL
     | returning=>obtain⟨v,q1,q2⟩:=hL; exact⟨v,q1,hO _ _ q2⟩
     | panicking ch=>exact hO _ _ hL
    | cons d ds ih=>
     intro u w hL
     obtain⟨q1,fv,cap,g,ar,q2,q3,q4⟩:=hL
     refine⟨q1,fv,cap,g,ar,q2,q3,q4.mono fun e' u' w' hh=>?_⟩
     cases e' with
     | returned v=>exact ih _ _ hh
     | panicked ch=>exact ih _ _ hh
     | outgrown=>exact hO _ _ hh
   exact this _ _ _ hL
  refine wp_mono hsim ?_
  rintro e' a' w' ⟨ρ',q1,q2,q3⟩
  cases e1 with
  | normal=>
   obtain⟨rfl,z⟩:=q3
   exact hout q1 q2 (.inl ⟨z,rfl⟩) hx
  | ret=>exact q3.elim
  | exit id=>
   simp only at hx
   cases hid:Nat.beq id PB with
   | false=>
    rw[hid]at hx
    simp only[cond_false,sJ,pJ]at hx
    exact (hne id hx.1.symm).elim
   | true=>
    rw[hid]at hx
    simp only[cond_true]at hx
    have:=QX hid
    rcases q3 with⟨z1,_⟩ | ⟨_,⟨rfl,z2⟩ | ⟨u,rfl,z2⟩⟩
    ·exact (z1 this).elim
    ·exact hout q1 q2 (.inl ⟨z2,rfl⟩) hx
    ·exact hout q1 q2 (.inr ⟨u,z2,rfl⟩) hx
theorem KW(hfol:P.follows .mixedOrders=true){tb:FuncId->Bool}(hb:Kb P tb){call:FuncId->List ab->aa->Option (ab×aa)}(hc:Dw P call){k:Nat}{f:FuncId}{fn:bV}(hfn:IV P f=some fn)
  {args:List ab} (hlen:args.length<=fn.nt) {e:tV} {T:Tr ab} {H1:aa} (hx:aO tb call k fn.body (dh args 0 .e) H=some (e,T,H1)) (hne:∀i,e≠.exit i) {xs:List ab} (hxs:ko T H1 fn.res=some xs) {vs:Array Value} (R:cg Prot w0 ρ H w) (hv:ap ρ args vs.toList) :
  ∃fc c,P.funcs[f]?=some fc/\fc.body=some c/\c.wp P (bodyPost P fc fun e w'=>∃ρ' u,ρ.le ρ'/\e=.returned u/\cg Prot w0 ρ' H1 w'/\ak ρ' (jr xs) u) { tmps:=vs++Array.replicate (fc.ntmps-vs.size) undef,defers:=[] } w:=by
 obtain⟨fc,c,h1,h2,h3,h4,h5,h6⟩:=tu hfn
 refine⟨fc,c,h1,h2,?_⟩
 have hst:=pG (ρ:=ρ) hv hlen
 rw[h4]
 refine wp_mono (yR hfol (Prot:=Prot) (w0:=w0) (ds:=[]) hb.h0 hc.ok _ _ h5 ρ _ T H H1 e _ w R hst rfl hx) ?_
 rintro e' a' w' ⟨he,ρ',hl,R',ht',hd'⟩
 obtain⟨u,r1,r2⟩:=lD (P:=P) R' ht' h6 hxs
 cases e with
 | normal=>simp only at he; subst he; exact⟨hd',u,r1,ρ',u,hl,rfl,R',r2⟩
 | exit id=>exact (hne _ rfl).elim
 | ret=>simp only at he; subst he; exact⟨hd',u,r1,ρ',u,hl,rfl,R',r2⟩
theorem mI{ops:Array Oper}{cs:List Frame}{Q:Exit->Act->List Frame->World->Prop}(hno:¬LetsOut fun e a w=>Q e a cs w):∀(l:List Nat) (a:Act) (w:World),wpOps P ops (fun e a w=>Q e a cs w) l a w->wpOpsS P ops Q l a cs w
 | [],a,w,h=>h
 | i::rest,a,w,h=>by
  simp only[wpOps]at h
  simp only[wpOpsS]
  cases ho:ops[i]? with
  | none=>rw[ho]at h; exact mI hno rest a w h
  | some o=>
   rw[ho]at h
   simp only at h ⊢
   split at h
   ·rename_i hw
    rw[if_pos hw]
    rcases h with h | ⟨_,h⟩
    ·have h':=Oper.wp_mono (K':=fun a' w'=>wpOpsS P ops Q rest a' cs w') (fun a' w' hh=>mI hno rest a' w' hh) h
     unfold Oper.wp at h'
     generalize (execOp a.eval o).run P w=r at h'
     split
     ·simp only[Oper.upon]at h'
     ·exact h'
    ·exact (hno h).elim
   ·rename_i hw
    rw[if_neg hw]
    exact mI hno rest _ w h
end
end Go.Abs
namespace Go.Abs
section
variable {P:Program} {Prot:Gh} {w0:World} {ρ:Pl} {H H':aa} {w:World}
theorem Av{tb:FuncId->Bool}{call:FuncId->List ab->aa->Option (ab×aa)}{n k d:Nat}(hd:d<n)(hk:k<=d)(T:Tr ab)(H:aa):∃T1,bA tb call (wb n k d) T H=some (T1,H) /\
  ∀t,ev T1 (.t t)=if t=n then aX else if t=d then ev T (.t k) else if t=k then aX else ev T (.t t):=by
 refine⟨_,by simp only[wb,bA,im,cond_true,ct,cQ]; rfl,fun t=>?_⟩
 by_cases h1:t=n
 ·rw[aY,if_pos h1,if_pos h1]; rfl
 ·rw[aY,if_neg h1,if_neg h1]
  by_cases h2:t=d
  ·rw[aY,if_pos h2,if_pos h2,aY,if_neg om,aY,if_pos rfl]
  ·rw[aY,if_neg h2,if_neg h2]
   by_cases h3:t=k
   ·rw[aY,if_pos h3,if_pos h3]; rfl
   ·rw[aY,if_neg h3,if_neg h3,aY,if_neg h1]
theorem LZ(hfol:P.follows .mixedOrders=true){tb:FuncId->Bool}(hb:Kb P tb){call:FuncId->List ab->aa->Option (ab×aa)}(hc:Dw P call){k:Nat}{G:FuncId}{fn:bV}(hfn:HN P G=some fn)
  {args:List ab} {x:ab} (hlen:args.length=nw P G) {e:tV} {T:Tr ab} {H1:aa} (hx:aO tb call k fn.body (dh (args++[x]) 0 .e) H=some (e,T,H1)) (hne:∀i,e≠.exit i) {vs:Array Value} {xv:Value} {u:FrameMode} (R:cg Prot w0 ρ H w) (hv:ap ρ args vs.toList) (hxv:ak ρ x xv) (hu:MH u xv) :
  CallsD P G vs u w fun e u' w'=>settle u'=.returning/\∃ρ' y,ρ.le ρ'/\e=.returned y/\cg Prot w0 ρ' H1 w':=by
 obtain⟨fc,c,ops,d,os,rest,l,r,h1,h2,h3,h4,h5,h6,h7,hd,hkd,rfl⟩:=vy hfn
 obtain⟨i0,o,oa,ots,rfl,hops,hop,hod,hog⟩:=ue h5
 have hvl:args.length=vs.size:=by have:=ap.len hv; simpa using this
 obtain⟨T1,t1,t2⟩:=Av (tb:=tb) (call:=call) hd hkd (dh (args++[x]) 0 .e) H
 simp only[aO,t1]at hx
 cases hl:bA tb call l T1 H with
 | none=>rw[hl]at hx; simp at hx
 | some q=>
  obtain⟨T2,H2⟩:=q
  rw[hl]at hx
  simp only at hx
  have hst:=pG (ρ:=ρ) hv (show args.length<=fc.ntmps by omega)
  have hput:bx ρ fc.ntmps T1 ((({ tmps:=vs++Array.replicate (fc.ntmps-vs.size) undef,defers:=[] }:Act).put (some d) xv).tmps):=by
   have hp:=cu (a:={ tmps:=vs++Array.replicate (fc.ntmps-vs.size) undef,defers:=[] }) (n:=fc.ntmps) hst (dst:=some d) (QS hd) hxv
   refine⟨hp.size,fun t=>?_⟩
   have hat:=hp.at_ t
   have e:ev T1 (.t t)=ev (cQ (dh args 0 .e) (some d) x) (.t t):=by
    rw[t2 t,oZ,pu args vs.toList 0 .e hv (fun _ _=>rfl) t]
    have hvx:ap ρ (args++[x]) (vs.push xv).toList:=by
     rw[Array.toList_push]
     exact ap.append hv (by simp only[ap]; exact⟨_,_,rfl,hxv,rfl⟩)
    rw[pu (args++[x]) _ 0 .e hvx (fun _ _=>rfl) t,pu (args++[x]) _ 0 .e hvx (fun _ _=>rfl) (nw P G)]
    simp only[Nat.not_lt_zero,if_false,Nat.sub_zero,sJ]
    by_cases q1:t=fc.ntmps
    ·subst q1
     rw[if_pos rfl,if_neg om,Q8 om]
    ·rw[if_neg q1]
     by_cases q2:t=d
     ·subst q2
      rw[if_pos rfl,if_pos rfl,<- hlen,Q7 rL,Nat.sub_self]
      rfl
     ·rw[if_neg q2,if_neg (show ¬d=t from fun q=>q2 q.symm)]
      by_cases q3:t=nw P G
      ·rw[if_pos q3,Q8 om]
      ·rw[if_neg q3]
       by_cases q4:t<args.length
       ·rw[Q6 q4]
       ·rw[Q8 (by simp; omega),Q8 om]
   rw[e]
   exact hat
  refine callsD_of_wpS h1 h2 fun c₀ cs hcu=>?_
  refine wpS_seq (wpS_region ?_)
  have hsz:ops.size=os.length+1:=by have:=congrArg List.length hops; simpa using this
  have ho:ops[0]?=some o:=by
   have:ops.toList[0]?=some o:=by rw[hops]; rfl
   simpa using this
  have hnx:∀j,os[j]?=ops[1+j]?:=fun j=>by
   have:ops.toList[1+j]?=os[j]?:=by rw[hops,show 1+j=j+1 by omega,Q0]
   rw[<- this]; simp
  rw[List.range_eq_range',hsz,List.range'_succ]
  simp only[wpOpsS,ho]
  have hw:Region.wanted o (yielded ops (vs++Array.replicate (fc.ntmps-vs.size) undef))=true:=by simp[Region.wanted,hog]
  rw[if_pos hw]
  have hrun:∀a:Act,(execOp a.eval o).run P w=.ok .recover w:=fun a=>by
   obtain⟨dst,op,type,pos,after,guard⟩:=o
   simp only at hop
   subst hop
   rfl
  rw[hrun]
  simp only
  have key:∀(u':FrameMode),settle u'=.returning->wpOpsS P ops (Exit.thenS (rest.wpS P (bodyPostS P fc c₀ cs fun e u' w'=>settle u'=.returning/\∃ρ' y,ρ.le ρ'/\e=.returned y/\cg Prot w0 ρ' H1 w')) (bodyPostS P fc c₀ cs fun e u' w'=>settle u'=.returning/\∃ρ' y,ρ.le ρ'/\e=.returned y/\cg Prot w0 ρ' H1 w')) (List.range' (0+1) os.length)
    (({ tmps:=vs++Array.replicate (fc.ntmps-vs.size) undef,defers:=[] }:Act).put o.dst xv) ({ c₀ with mode:=u' }::cs) w:=by
   intro u' hset
   refine mI ?_ _ _ _ ?_
   ·rintro ⟨a,w',u2,_,ρ',y,_,hh,_⟩
    simp at hh
   ·rw[hod]
    refine xR (Prot:=Prot) (w0:=w0) (ds:=[]) hb.h0 hc.ok os (0+1) l hnx h6 ρ ρ T1 T2 H H2 _ w (Pl.le_refl _) R hput rfl hl ?_
    rintro a' w' ⟨ρ',q1,q2,q3,q4⟩
    show rest.wpS P _ a' _ w'
    refine wpS_of_wp (wp_mono (yR hfol (Prot:=Prot) (w0:=w0) (ds:=[]) hb.h0 hc.ok rest r h7 ρ' T2 T H2 H1 e a' w' q2 q3 q4 hx) ?_)
    rintro e' a2 w2 ⟨he,ρ2,z1,z2,z3,z4⟩
    have hfin:a2.defers=[]/\∃u2,({ c₀ with mode:=u' }::cs:List Frame)={ c₀ with mode:=u2 }::cs/\∃v,(results fc a2.tmps).run P w2=.ok v w2/\(settle u2=.returning/\∃ρ' y,ρ.le ρ'/\Ending.returned v=.returned y/\cg Prot w0 ρ' H1 w2):=
     ⟨z4,u',rfl,.tuple #[],by simp[results,h4],hset,ρ2,.tuple #[],Pl.le_trans q1 z1,rfl,z2⟩
    cases e with
    | normal=>simp only at he; subst he; exact hfin
    | exit id=>exact (hne _ rfl).elim
    | ret=>simp only at he; subst he; exact hfin
  rcases hu with⟨rfl,rfl⟩ | rfl
  ·have hrec:recoverD (c₀::cs)=none:=by simp[recoverD,hcu]
   rw[hrec]
   have:=key .returning rfl
   rwa [show ({ c₀ with mode:=.returning }:Frame)=c₀ by rw[<- hcu]]at this
  ·have hrec:recoverD (c₀::cs)=some (xv,{ c₀ with mode:=.panicking [{ v:=xv,recovered:=true }] }::cs):=by simp[recoverD,hcu]
   rw[hrec]
   exact key _ rfl
theorem mZ{N:gC}{tab:Tr bV}{n:Nat}{f:FuncId}{args:List ab}{v:ab}(hi:N.is f=false)(h:dl N tab (n+1) f args H=some (v,H')) :
  ∃fn e T xs,tab.get f=some fn/\args.length<=fn.nt/\aO (zZ N tab) (dl N tab n) n fn.body (dh args 0 .e) H=some (e,T,H')/\(∀i,e≠.exit i)/\ko T H' fn.res=some xs/\v=jr xs:=by
 simp only[dl,hi,cond_false]at h
 split at h
 ·rename_i fn hf
  cases hb:Nat.ble args.length fn.nt with
  | false=>rw[hb]at h; simp at h
  | true=>
   rw[hb]at h
   simp only[cond_true]at h
   split at h
   ·simp at h
   ·rename_i e T H1 hne hx
    split at h
    ·rename_i xs hxs
     simp only[sJ,pJ]at h
     obtain⟨rfl,rfl⟩:=h
     exact⟨fn,e,T,xs,hf,QW hb,hx,fun i q=>hne i q,hxs,rfl⟩
    ·simp at h
   ·simp at h
 ·simp at h
theorem EO(hfol:P.follows .mixedOrders=true){N:gC}(hN:tU P N){tab:Tr bV}(hT:IF P tab):∀n,Dw P (dl N tab n):=by
 have hnat:∀(m f:Nat),0<m->N.is (m*cA+f)=false:=fun m f hm=>by
  cases hi:N.is (m*cA+f) with
  | false=>rfl
  | true=>
   have:=hN.body _ hi
   simp only[bX,QT]at this
   have:=eU this.1
   have:cA<=m*cA:=Nat.le_mul_of_pos_left _ hm
   omega
 have hget:∀f,N.is f=false->zZ N tab f=true->∃fn,tab.get f=some fn:=fun f hi h=>by
  unfold zZ at h
  rw[hi]at h
  simp only[cond_false]at h
  split at h
  ·rename_i fn hf; exact⟨fn,hf⟩
  ·simp at h
 have e1:∀f:Nat,cA+f=1*cA+f:=fun f=>om
 have htb:Kb P (zZ N tab):=by
  refine⟨fun f hf h=>?_,fun f hf h=>?_,fun f hf h=>?_,fun f hf h=>?_⟩
  ·cases hi:N.is f with
   | true=>exact hN.body f hi
   | false=>
    obtain⟨fn,hg⟩:=hget f hi h
    obtain⟨md,he⟩:=hT _ _ hg
    rcases Lb hf he with h9 | ⟨m,h9⟩
    ·obtain⟨fc,c,q1,q2,q3,_⟩:=tu h9; exact pn hf q1 q2 q3
    ·obtain⟨fc,c,b,r,q1,q2,q3,_⟩:=pX h9; exact pn hf q1 q2 q3
  ·obtain⟨fn,hg⟩:=hget _ (by rw[e1]; exact hnat 1 f om) h
   obtain⟨md,he⟩:=hT _ _ hg
   obtain⟨m,h9⟩:=La hf he
   obtain⟨fc,c,b,r,q1,q2,q3,_⟩:=pX h9; exact pn hf q1 q2 q3
  ·obtain⟨fn,hg⟩:=hget _ (hnat 2 f om) h
   obtain⟨md,he⟩:=hT _ _ hg
   have h9:=K0 hf he
   obtain⟨fc,c,ops,d,os,rest,l,r,q1,q2,q3,_⟩:=vy h9; exact pn hf q1 q2 q3
  ·obtain⟨fn,hg⟩:=hget _ (hnat 3 f om) h
   obtain⟨md,he⟩:=hT _ _ hg
   have h9:=KZ hf he
   obtain⟨fc,c,q1,q2,q3,_⟩:=tu h9; exact pn hf q1 q2 q3
 intro n
 induction n with
 | zero=>
  refine⟨fun f args H v H' _ h=>by simp[dl]at h,fun f args H v H' _ h=>by simp[dl]at h,fun f args H v H' _ h=>by simp[dl]at h,fun f args x H v H' _ _ h=>by simp[dl]at h⟩
 | succ n ih=>
  refine⟨fun f args H v H' hf h Prot w0 ρ w vs R hv=>?_,fun f args H v H' hf h Prot w0 ρ w vs R hv=>?_,fun f args H v H' hf h Prot w0 ρ w vs R hv=>?_,fun f args x H v H' hf hlen h Prot w0 ρ w vs xv u R hv hxv hu=>?_⟩
  ·cases hi:N.is f with
   | true=>simp only[dl,hi,cond_true]at h; exact hN.run f args H v H' hf h Prot w0 ρ w vs R hv
   | false=>
    obtain⟨fn,e,T,xs,hg,hl,hx,hne,hxs,rfl⟩:=mZ hi h
    obtain⟨md,he⟩:=hT _ _ hg
    rcases Lb hf he with h9 | ⟨m,h9⟩
    ·obtain⟨fc,c,q1,q2,q3⟩:=KW hfol htb ih h9 hl hx hne hxs R hv
     exact calls_of_wp q1 q2 q3
    ·refine (Hm hfol htb ih h9 hl hx hne hxs R hv).mono fun e' w' hr=>?_
     obtain⟨ρ',r1,r2,⟨y,rfl,r3⟩ | ⟨h8,_⟩⟩:=hr
     ·exact⟨ρ',y,r1,rfl,r2,r3⟩
     ·simp at h8
  ·obtain⟨fn,e,T,xs,hg,hl,hx,hne,hxs,rfl⟩:=mZ (by rw[e1]; exact hnat 1 f om) h
   obtain⟨md,he⟩:=hT _ _ hg
   obtain⟨m,h9⟩:=La hf he
   refine (Hm hfol htb ih h9 hl hx hne hxs R hv).mono fun e' w' hr=>?_
   obtain⟨ρ',r1,r2,⟨y,rfl,r3⟩ | ⟨_,x,y,r3,rfl,r4⟩⟩:=hr
   ·exact⟨ρ',r1,r2,.inl ⟨y,rfl,r3⟩⟩
   ·exact⟨ρ',r1,r2,.inr ⟨x,y,r3,rfl,r4⟩⟩
  ·obtain⟨fn,e,T,xs,hg,hl,hx,hne,hxs,rfl⟩:=mZ (hnat 3 f om) h
   obtain⟨md,he⟩:=hT _ _ hg
   obtain⟨fc,c,q1,q2,q3⟩:=KW hfol htb ih (KZ hf he) hl hx hne hxs R hv
   refine (callsD_of_wp q1 q2 q3).mono ?_
   rintro e' u' w' ⟨rfl,ρ',y,r1,rfl,r2,_⟩
   exact⟨rfl,ρ',y,r1,rfl,r2⟩
  ·obtain⟨fn,e,T,xs,hg,hl,hx,hne,hxs,rfl⟩:=mZ (hnat 2 f om) h
   obtain⟨md,he⟩:=hT _ _ hg
   exact LZ hfol htb ih (K0 hf he) hlen hx hne R hv hxv hu
theorem It(hfol:P.follows .mixedOrders=true){N:gC}(hN:tU P N){tab:Tr bV}(hT:IF P tab)(n:Nat):js P (dl N tab n):=(EO hfol hN hT n).ok
end
end Go.Abs
namespace Go.Abs
section
variable {P:Program}
def H0:aa:=⟨0,.e⟩
theorem cg.below{w0:World}{ρ:Pl}{H:aa}{w:World}(R:cg ⟨fun c=>c<w0.heap.size,fun _=>False⟩ w0 ρ H w):RowKit.Below w0.heap.size w0 w:=
 ⟨R.os,R.tape,R.output,R.size,fun k hk=>(R.prot k hk).2⟩
end
end Go.Abs
namespace Go.Abs.S
open Go.Abs
abbrev bG:=Nat->ab
def en(T:Tr ab):bG:=fun i=>ev T (.t i)
def up(T:bG)(i:Nat)(v:ab):bG:=fun j=>bif Nat.beq j i then v else T j
def ju(T:bG):Option Nat->ab->bG
 | some d,v=>up T d v
 | none,_=>T
theorem HD(T:Tr ab)(i:Nat)(v:ab):en (T.set i v)=up (en T) i v:=by
 funext j
 simp only[en,up,ev,Tr.get_set,bD]
 by_cases h:j=i
 ·rw[if_pos h,decide_eq_true h]; rfl
 ·rw[if_neg h,decide_eq_false h]; rfl
theorem Bi(T:Tr ab)(d:Option Nat)(v:ab):en (cQ T d v)=ju (en T) d v:=by
 cases d <;> simp only[cQ,ju,HD]
def sX(T:bG):bu->ab
 | .t i=>T i
 | .c v=>v
 | .f id=>.func (.func id) [] []
def iZ(T:bG):List bu->List ab
 | []=>[]
 | x::r=>sX T x::iZ T r
def iI(T:bG):Option bu->Option ab
 | none=>none
 | some x=>some (sX T x)
def nf(T:bG):List (Nat×Nat×bu)->List (Nat×Nat×ab)
 | []=>[]
 | (o,n,x)::r=>(o,n,sX T x)::nf T r
theorem qr(T:Tr ab)(x:bu):sX (en T) x=ev T x:=by cases x <;> rfl
theorem v6(T:Tr ab):∀l:List bu,iZ (en T) l=gA T l
 | []=>rfl
 | x::r=>by simp only[iZ,gA,qr,v6 T r]
theorem LC(T:Tr ab)(x:Option bu):iI (en T) x=yK T x:=by cases x <;> simp only[iI,yK,qr]
theorem F0(T:Tr ab):∀l:List (Nat×Nat×bu),nf (en T) l=z8 T l
 | []=>rfl
 | (o,n,x)::r=>by simp only[nf,z8,qr,F0 T r]
abbrev MQ(b:Bool):ab->Bool:=Ps b
def sG(T:bG):Option (Nat×Bool)->Bool
 | none=>true
 | some (t,b)=>gV t b (T (gS t))
theorem Gb(T:Tr ab)(g:Option (Nat×Bool)):sG (en T) g=im T g:=by
 cases g with
 | none=>rfl
 | some p=>rfl
theorem LX{K t:Nat}(h:t<K):Nat.ble K t=false:=by
 cases hb:Nat.ble K t with
 | false=>rfl
 | true=>have:=QW hb; omega
theorem Oq{t:Nat}(h:Nat.ble SK t=false):gS t=t:=by unfold gS; rw[h]; rfl
theorem LD(T:bG){t:Nat}(h:Nat.ble SK t=false)(b:Bool):sG T (some (t,b))=MQ b (T t):=by
 simp only[sG,gV,Oq h,h,cond_false]
theorem KL(T:bG){t:Nat}(h:t<1000000)(b:Bool):sG T (some (t,b))=MQ b (T t):=LD T (LX h) b
def dy{α:Type}(o:Option α)(K:α->Prop):Prop:=∃v,o=some v/\K v
theorem aP{α:Type}(x:α)(K:α->Prop):dy (some x) K=K x:=by simp[dy]
theorem dy.mono{α:Type}{o:Option α}{K K':α->Prop}(h:dy o K)(hk:∀v,K v->K' v):dy o K':=by
 obtain⟨v,h1,h2⟩:=h; exact⟨v,h1,hk v h2⟩
abbrev CS:=FuncId->List ab->aa->(ab->aa->Prop)->Prop
section
variable (C:CS)
def Dz(T:bG)(H:aa)(K:ab->aa->Prop):jv->Prop
 | .mv x=>K (sX T x) H
 | .pick c a b=>∃b',sX T c=.bool b'/\K (bif b' then sX T a else sX T b) H
 | .new z=>K (go H z).1 (go H z).2
 | .box x=>K (go H (sX T x).cells).1 (go H (sX T x).cells).2
 | .build z ps=>dy (bB z (nf T ps)) fun v=>K v H
 | .buildSl n z ps=>dy (cD n z H (nf T ps)) fun p=>K p.1 p.2
 | .load a n x=>dy (am a n H (sX T x)) fun v=>K v H
 | .store n a x=>dy (a8 n H (sX T a) (sX T x)) fun H'=>K aX H'
 | .nilChk x=>dy (cL (sX T x)) fun v=>K v H
 | .bin op x y=>dy (be op (sX T x) (sX T y)) fun v=>K v H
 | .un op x=>dy (J8 op (sX T x)) fun v=>K v H
 | .conv k x=>dy (qJ k (sX T x)) fun v=>K v H
 | .convSB x=>dy (MW H (sX T x)) fun p=>K p.1 p.2
 | .convBS x=>dy (EQ H (sX T x)) fun v=>K v H
 | .mkFunc fn a b=>K (.func fn (iZ T a) (iZ T b)) H
 | .mkIface t x=>K (.iface t (sX T x)) H
 | .mkSlice b z l c=>dy (qI b z H (sX T l) (sX T c)) fun p=>K p.1 p.2
 | .sl n x lo hi mx=>dy (MV n (sX T x) (iI T lo) (iI T hi) (iI T mx)) fun v=>K v H
 | .slStr x lo hi=>dy (dT (sX T x) (iI T lo) (iI T hi)) fun v=>K v H
 | .fieldA o x=>dy (iG o (sX T x)) fun v=>K v H
 | .field a n o x=>dy (m0 a n o (sX T x)) fun v=>K v H
 | .idxA n x i=>dy (eH n (sX T x) (sX T i)) fun v=>K v H
 | .idxArr m n x i=>dy (jJ m n (sX T x) (sX T i)) fun v=>K v H
 | .idx m n a x i=>dy (BL m n a (sX T x) (sX T i)) fun v=>K v H
 | .idxS x i=>dy (kr (sX T x) (sX T i)) fun v=>K v H
 | .extract i x=>dy (fH i (sX T x)) fun v=>K v H
 | .append n b s x=>dy (bJ n b H (sX T s) (sX T x)) fun p=>K p.1 p.2
 | .len s x=>dy (gv s (sX T x)) fun v=>K v H
 | .call f args=>C f (iZ T args) H K
 | .callv f args=>∃g a b,sX T f=.func (.func g) a b/\Nat.blt g cA=true/\C g (a++iZ T args++b) H K
 | .pf f xs=>dy (jt f (iZ T xs)) fun v=>K v H
 | .hf f xs=>dy (Dq f H (iZ T xs)) fun p=>K p.1 p.2
 | .bad=>False
 | .claim b z s=>dy (fT H b z s) fun v=>K v H
 | .slA m n x lo hi mx=>dy (mC m n (sX T x) (iI T lo) (iI T hi) (iI T mx)) fun v=>K v H
def bh:List an->bG->aa->(bG->aa->Prop)->Prop
 | [],T,H,K=>K T H
 | o::r,T,H,K=>bif sG T o.guard then Dz C T H (fun v H'=>bh r (ju T o.dst v) H' K) o.op else bh r (ju T o.dst aX) H K
def fj:List an->bG->aa->(List (ab×aa)->bG->aa->Prop)->Prop
 | [],T,H,K=>K [] T H
 | o::r,T,H,K=>bif sG T o.guard then Dz C T H (fun v H'=>fj r (ju T o.dst v) H' fun ss=>K ((v,H')::ss)) o.op else fj r (ju T o.dst aX) H fun ss=>K ((aX,H)::ss)
end
def N4(T:bG)(H:aa):jv->Option ab
 | .load a n x=>am a n H (sX T x)
 | .claim b z s=>fT H b z s
 | _=>none
def zY(hs:List aa):List an->List (List Nat)->List (ab×aa)->bG->Prop
 | o::os,ps::pss,(v,_)::ss,T=>(∀p∈ps,∃Hp,hs[p]?=some Hp/\(sG T o.guard=true->∃u,N4 T Hp o.op=some u/\aeq u v=true))/\zY hs os pss ss (ju T o.dst v)
 | _,_,_,_=>True
def BQ(C:CS)(l:List an)(chk:List (List Nat))(T:bG)(H:aa)(K:bG->aa->Prop):Prop:=fj C l T H fun ss T' H'=>zY (H::ss.map (·.2)) l chk ss T/\K T' H'
abbrev pz:=tV->bG->aa->Prop
def lU(id:Nat)(Q:pz):pz:=fun e T H=>match e with
 | .exit j=>bif Nat.beq j id then Q .normal T H else Q (.exit j) T H
 | e=>Q e T H
def lT(Q:pz)(K:bG->aa->Prop):pz:=fun e T H=>match e with
 | .normal=>K T H
 | e=>Q e T H
def wp(C:CS):cp->pz->bG->aa->Prop
 | .skip,Q,T,H=>Q .normal T H
 | .reg ops,Q,T,H=>bh C ops T H (Q .normal)
 | .draw ops chk,Q,T,H=>BQ C (aF H.next ops) chk T (bY H ops) (Q .normal)
 | .seq a b,Q,T,H=>wp C a (lT Q (wp C b Q)) T H
 | .cond c a b,Q,T,H=>∃v,sX T c=.bool v/\bif v then wp C a Q T H else wp C b Q T H
 | .block id c,Q,T,H=>wp C c (lU id Q) T H
 | .loop c,Q,T,H=>∃(I:Nat->bG->aa->Prop),(∃m,I m T H)/\∀m T H,I m T H->wp C c (lT Q fun T' H'=>∃m',m'<m/\I m' T' H') T H
 | .exit id,Q,T,H=>Q (.exit id) T H
 | .ret,Q,T,H=>Q .ret T H
section
variable {tb:FuncId->Bool}
def IX(c d:FuncId->List ab->aa->Option (ab×aa)):Prop:=∀f a H r,c f a H=some r->d f a H=some r
theorem IX.refl(c):IX c c:=fun _ _ _ _ h=>h
theorem kT{c d}(h:IX c d){o:an}{T:Tr ab}{H:aa}{r}(e:bI tb c o T H=some r):bI tb d o T H=some r:=by
 unfold bI at e ⊢
 cases hg:im T o.guard with
 | false=>rw[hg]at e; exact e
 | true=>
  rw[hg]at e
  simp only[cond_true]at e ⊢
  split at e
  ·exact e
  ·exact h _ _ _ _ e
  ·simp at e
theorem nW{c d}(h:IX c d):∀(l:List an) {T:Tr ab} {H:aa} {r},bA tb c l T H=some r->bA tb d l T H=some r
 | [],_,_,_,e=>e
 | o::l,T,H,r,e=>by
  have hs:∀c,bA tb c (o::l) T H=match bI tb c o T H with | some (v,H')=>bA tb c l (cQ T o.dst v) H' | none=>none:=by
   intro c
   simp only[bA,bI]
   cases im T o.guard with
   | false=>rfl
   | true=>
    simp only[cond_true]
    cases ct tb T H o.op with
    | none=>rfl
    | some p=>obtain⟨nx,H'⟩:=p; cases nx <;> rfl
  rw[hs]at e ⊢
  split at e
  ·rename_i v H' hv
   rw[kT h hv]
   exact nW h l e
  ·simp at e
theorem my{c d}(h:IX c d):∀(l:List an) {T:Tr ab} {H:aa} {r},cP tb c l T H=some r->cP tb d l T H=some r
 | [],_,_,_,e=>e
 | o::l,T,H,r,e=>by
  simp only[cP]at e ⊢
  split at e
  ·rename_i v H' hv
   rw[kT h hv]
   split at e
   ·rename_i s hs
    simp only[my h l hs]
    exact e
   ·simp at e
  ·simp at e
theorem nX{f g:Tr ab->aa->Option (tV×Tr ab×aa)}(h:∀T H r,f T H=some r->g T H=some r):∀(n m:Nat) (T:Tr ab) (H:aa) (r),n<=m->jG f n T H=some r->jG g m T H=some r
 | 0,_,_,_,_,_,e=>by simp[jG]at e
 | n+1,0,_,_,_,hl,_=>om
 | n+1,m+1,T,H,r,hl,e=>by
  simp only[jG]at e ⊢
  split at e
  ·rename_i T' H' hv
   rw[h _ _ _ hv]
   exact nX h n m T' H' r om e
  ·rename_i e' T' H' hne hv
   rw[h _ _ _ hv]
   cases e' with
   | normal=>exact absurd rfl hne
   | exit i=>exact e
   | ret=>exact e
  ·simp at e
theorem gW{c d}(h:IX c d){k k':Nat}(hk:k<=k'):∀(x:cp) (T:Tr ab) (H:aa) (r),aO tb c k x T H=some r->aO tb d k' x T H=some r:=by
 intro x
 induction x with
 | skip=>intro T H r e; exact e
 | reg l=>
  intro T H r e
  simp only[aO]at e ⊢
  split at e
  ·rename_i T' H' hv; rw[nW h l hv]; exact e
  ·simp at e
 | draw l chk=>
  intro T H r e
  simp only[aO,mB]at e ⊢
  split at e
  ·rename_i ss hv; rw[my h _ hv]; exact e
  ·simp at e
 | seq a b iha ihb=>
  intro T H r e
  simp only[aO]at e ⊢
  split at e
  ·rename_i T' H' hv; rw[iha _ _ _ hv]; exact ihb _ _ _ e
  ·rename_i e' T' H' hne hv
   rw[iha _ _ _ hv]
   cases e' with
   | normal=>exact absurd rfl hne
   | exit i=>exact e
   | ret=>exact e
  ·simp at e
 | cond c a b iha ihb=>
  intro T H r e
  simp only[aO]at e ⊢
  split at e
  ·exact iha _ _ _ e
  ·exact ihb _ _ _ e
  ·simp at e
 | block id c ih=>
  intro T H r e
  simp only[aO]at e ⊢
  split at e
  ·rename_i j T' H' hv; rw[ih _ _ _ hv]; exact e
  ·rename_i e' T' H' hne hv
   rw[ih _ _ _ hv]
   cases e' with
   | exit i=>exact absurd rfl (hne i)
   | normal=>exact e
   | ret=>exact e
  ·simp at e
 | loop c ih=>
  intro T H r e
  simp only[aO]at e ⊢
  exact nX (fun T H r hr=>ih T H r hr) k k' T H r hk e
 | exit id=>intro T H r e; exact e
 | ret=>intro T H r e; exact e
theorem qH{N:gC}{tab:Tr bV}:∀(n:Nat),IX (dl N tab n) (dl N tab (n+1))
 | 0=>fun f a H r e=>by simp[dl]at e
 | n+1=>fun f a H r e=>by
  have ih:=qH (N:=N) (tab:=tab) n
  rw[dl]at e ⊢
  cases hn:N.is f with
  | true=>rw[hn]at e; exact e
  | false=>
   rw[hn]at e
   simp only[cond_false]at e ⊢
   split at e
   ·rename_i fn hf
    cases hb:Nat.ble a.length fn.nt with
    | false=>rw[hb]at e; simp at e
    | true=>
     rw[hb]at e
     simp only[cond_true]at e ⊢
     split at e
     ·simp at e
     ·rename_i e' T' H' hne hv
      rw[gW ih (Nat.le_succ n) _ _ _ _ hv]
      cases e' with
      | exit i=>exact (hne i rfl).elim
      | normal=>exact e
      | ret=>exact e
     ·simp at e
   ·simp at e
theorem ei{N:gC}{tab:Tr bV}{n m:Nat}(h:n<=m):IX (dl N tab n) (dl N tab m):=by
 induction m with
 | zero => obtain rfl : n = 0 := by omega
           exact IX.refl _
 | succ m ih=>
  by_cases e:n=m+1
  ·subst e; exact IX.refl _
  ·exact fun f a H r hr=>qH m _ _ _ _ (ih om _ _ _ _ hr)
end
end Go.Abs.S
namespace Go.Abs.S
open Go.Abs
def FH(P:Program)(N:gC):Nat->Tr bV
 | 0=>.e
 | n+1=>match wG P (N.md (n % cA)) n with
  | some c=>(FH P N n).set n c
  | none=>FH P N n
def iD(P:Program)(N:gC):Tr bV:=FH P N (4*cA)
theorem ou(P:Program)(N:gC):∀(n f:Nat),(FH P N n).get f=if f<n then wG P (N.md (f % cA)) f else none
 | 0,f=>by rw[if_neg om]; cases f <;> rfl
 | n+1,f=>by
  simp only[FH]
  cases hc:wG P (N.md (n % cA)) n with
  | none=>
   simp only[ou P N n f]
   by_cases h:f<n
   ·rw[if_pos h,if_pos om]
   ·by_cases e:f=n
    ·subst e; rw[if_neg h,if_pos om,hc]
    ·rw[if_neg h,if_neg om]
  | some c=>
   simp only[Tr.get_set,ou P N n f]
   by_cases e:f=n
   ·subst e; rw[if_pos rfl,if_pos om,hc]
   ·rw[if_neg e]
    by_cases h:f<n
    ·rw[if_pos h,if_pos om]
    ·rw[if_neg h,if_neg om]
theorem I6(P:Program)(N:gC):IF P (iD P N):=by
 intro f fn h
 rw[iD,ou]at h
 split at h
 ·exact⟨_,h⟩
 ·simp at h
theorem FG{P:Program}{N:gC}{f:Nat}{c:bV}(h:wG P (N.md (f % cA)) f=some c):(iD P N).get f=some c:=by
 have hf:f<4*cA:=by
  unfold wG at h
  cases h4:Nat.blt f (4*cA) with
  | true=>exact eU h4
  | false=>
   exfalso
   have h4':¬f<4*cA:=fun q=>by rw[show Nat.blt f (4*cA)=true from QS q]at h4; simp at h4
   have h5:4*cA<=f:=Nat.not_lt.1 h4'
   have e1:Nat.blt f cA=false:=by rw[fK]; exact decide_eq_false om
   have e2:Nat.blt f (2*cA)=false:=by rw[fK]; exact decide_eq_false om
   have e3:Nat.blt f (3*cA)=false:=by rw[fK]; exact decide_eq_false om
   rw[e1,e2,e3,h4]at h
   simp at h
 rw[iD,ou,if_pos hf,h]
theorem Ev{P:Program}{N:gC}{f:FuncId}{c:bV}(h:IV P f=some c)(hm:N.md f=none)(hf:Nat.blt f cA=true):wG P (N.md (f % cA)) f=some c:=by
 rw[Nat.mod_eq_of_lt (eU hf),hm]
 unfold wG
 rw[hf]
 exact h
def aq(P:Program)(N:gC)(f:FuncId)(args:List ab)(H:aa)(K:ab->aa->Prop):Prop:=
 ∃n v H',dl N (iD P N) n f args H=some (v,H')/\K v H'
theorem aq.mono{P:Program}{N:gC}{f:FuncId}{args:List ab}{H:aa}{K K':ab->aa->Prop}(h:aq P N f args H K)(hk:∀v H',K v H'->K' v H'):aq P N f args H K':=by
 obtain⟨n,v,H',h1,h2⟩:=h; exact⟨n,v,H',h1,hk _ _ h2⟩
section
variable {P:Program} {N:gC}
theorem zS{n:Nat}{f:FuncId}{args:List ab}{H:aa}{r}(h:dl N (iD P N) n f args H=some r):zZ N (iD P N) f=true:=by
 cases n with
 | zero=>simp[dl]at h
 | succ n=>
  rw[dl]at h
  unfold zZ
  cases hn:N.is f with
  | true=>rfl
  | false=>
   rw[hn]at h
   simp only[cond_false]at h ⊢
   cases ht:(iD P N).get f with
   | none=>rw[ht]at h; simp at h
   | some c=>rfl
theorem Dy{T:Tr ab}{H:aa}{o:jv}{K:ab->aa->Prop}(h:Dz (aq P N) (en T) H K o) :
  (∃v H',ct (zZ N (iD P N)) T H o=some (.val v,H')/\K v H')∨(∃f args H' n v H'',ct (zZ N (iD P N)) T H o=some (.enter f args,H')/\dl N (iD P N) n f args H'=some (v,H'')/\K v H''):=by
 cases o
 case call f args=>
  right
  simp only[Dz,v6]at h
  obtain⟨n,v,H',h1,h2⟩:=h
  exact⟨f,_,H,n,v,H',by simp only[ct,zS h1,cond_true],h1,h2⟩
 case callv f args=>
  right
  simp only[Dz,qr,v6]at h
  obtain⟨g,a,b,hf,hgb,n,v,H',h1,h2⟩:=h
  exact⟨g,_,H,n,v,H',by simp only[ct,hf,hgb,zS h1,Bool.and_true,cond_true],h1,h2⟩
 case pick c a b=>
  simp only[Dz,qr]at h
  obtain⟨b',h1,h2⟩:=h
  exact .inl ⟨_,_,by simp only[ct,h1],h2⟩
 case bad=>simp[Dz]at h
 all_goals
  left
  simp only[Dz,qr,v6,LC,F0,dy]at h
  first
   | exact⟨_,_,rfl,h⟩
   | (obtain ⟨v, h1, h2⟩ := h
      refine ⟨_, _, ?_, h2⟩
      simp only [ct, h1]
      try rfl)
theorem qg{T:Tr ab}{H:aa}{o:an}{K:ab->aa->Prop}(h:Dz (aq P N) (en T) H K o.op)(hg:im T o.guard=true) :
  ∃n v H',bI (zZ N (iD P N)) (dl N (iD P N) n) o T H=some (v,H')/\K v H':=by
 rcases Dy h with⟨v,H',h1,h2⟩ | ⟨f,args,H',n,v,H'',h1,h2,h3⟩
 ·exact⟨0,v,H',by simp only[bI,hg,cond_true,h1],h2⟩
 ·exact⟨n,v,H'',by simp only[bI,hg,cond_true,h1,h2],h3⟩
theorem BE(tb:FuncId->Bool)(c)(o:an)(l:List an)(T:Tr ab)(H:aa):bA tb c (o::l) T H=match bI tb c o T H with | some (v,H')=>bA tb c l (cQ T o.dst v) H' | none=>none:=by
 simp only[bA,bI]
 cases im T o.guard with
 | false=>rfl
 | true=>
  simp only[cond_true]
  cases ct tb T H o.op with
  | none=>rfl
  | some p=>obtain⟨nx,H'⟩:=p; cases nx <;> rfl
theorem qh:∀(l:List an) {T:Tr ab} {H:aa} {K:bG->aa->Prop},bh (aq P N) l (en T) H K ->
  ∃n T' H',bA (zZ N (iD P N)) (dl N (iD P N) n) l T H=some (T',H')/\K (en T') H'
 | [],T,H,K,h=>⟨0,T,H,rfl,h⟩
 | o::l,T,H,K,h=>by
  simp only[bh,Gb]at h
  have:∃n v H',bI (zZ N (iD P N)) (dl N (iD P N) n) o T H=some (v,H')/\bh (aq P N) l (ju (en T) o.dst v) H' K:=by
   cases hg:im T o.guard with
   | true=>rw[hg]at h; exact qg h hg
   | false=>rw[hg]at h; exact⟨0,aX,H,by simp only[bI,hg,cond_false],h⟩
  obtain⟨n,v,H',h1,h2⟩:=this
  rw[<- Bi]at h2
  obtain⟨m,T2,H2,h3,h4⟩:=qh l h2
  refine⟨max n m,T2,H2,?_,h4⟩
  rw[BE,kT (ei (Nat.le_max_left n m)) h1]
  exact nW (ei (Nat.le_max_right n m)) l h3
theorem ur:∀(l:List an) {T:Tr ab} {H:aa} {K:List (ab×aa)->bG->aa->Prop},fj (aq P N) l (en T) H K->∀j,
  ∃n ss,cP (zZ N (iD P N)) (dl N (iD P N) n) l T H=some ss/\K ss (en (bF (fun _=>true) j l ss T)) (eF H ss l.length)
 | [],T,H,K,h,j=>⟨0,[],rfl,h⟩
 | o::l,T,H,K,h,j=>by
  simp only[fj,Gb]at h
  have:∃n v H',bI (zZ N (iD P N)) (dl N (iD P N) n) o T H=some (v,H')/\fj (aq P N) l (ju (en T) o.dst v) H' fun ss=>K ((v,H')::ss):=by
   cases hg:im T o.guard with
   | true=>rw[hg]at h; exact qg h hg
   | false=>rw[hg]at h; exact⟨0,aX,H,by simp only[bI,hg,cond_false],h⟩
  obtain⟨n,v,H',h1,h2⟩:=this
  rw[<- Bi]at h2
  obtain⟨m,ss,h3,h4⟩:=ur l h2 (j+1)
  refine⟨max n m,(v,H')::ss,?_,?_⟩
  ·simp only[cP,kT (ei (Nat.le_max_left n m)) h1,my (ei (Nat.le_max_right n m)) l h3]
  ·have hl:=(hZ l _ H' ss 0 h3).1
   have e:eF H' ss l.length=eF H ((v,H')::ss) (o::l).length:=by
    simp only[QU]
    cases hr:l.length with
    | zero=>rfl
    | succ q=>
     simp only[eF,Q0]
     rw[QQ om]
   rw[<- e]
   exact h4
theorem ut{tb:FuncId->Bool}{hs:List aa}:∀(l:List an) (chk:List (List Nat)) (ss:List (ab×aa)) (T:Tr ab),zY hs l chk ss (en T)->fR tb hs l chk ss T=true
 | [],_,_,_,_=>rfl
 | o::l,[],_,_,_=>rfl
 | o::l,p::ps,[],_,_=>rfl
 | o::l,p::ps,(v,Hv)::ss,T,h=>by
  simp only[zY]at h
  obtain⟨h1,h2⟩:=h
  simp only[fR,QT]
  refine⟨List.all_eq_true.2 fun q hq=>?_,ut l ps ss _ (by rw[Bi]; exact h2)⟩
  obtain⟨Hp,e1,e2⟩:=h1 q hq
  rw[e1]
  simp only
  cases hg:im T o.guard with
  | false=>rfl
  | true=>
   obtain⟨u,u1,u2⟩:=e2 (by rw[Gb]; exact hg)
   simp only[cond_true]
   cases ho:o.op <;> rw[ho]at u1 <;> simp only[N4,reduceCtorEq,qr]at u1
   ·simp only[ct,u1,vv]; exact u2
   ·simp only[ct,u1,vv]; exact u2
theorem qA{Q:pz}{K:bG->aa->Prop}{e:tV}{T:bG}{H:aa}(h:lT Q K e T H):(e=.normal/\K T H)∨(e≠.normal/\Q e T H):=by
 cases e with
 | normal=>exact .inl ⟨rfl,h⟩
 | exit i=>exact .inr ⟨by simp,h⟩
 | ret=>exact .inr ⟨by simp,h⟩
theorem Fg:∀(c:cp) (Q:pz) (T:Tr ab) (H:aa),wp (aq P N) c Q (en T) H ->
  ∃n e T' H',aO (zZ N (iD P N)) (dl N (iD P N) n) n c T H=some (e,T',H')/\Q e (en T') H':=by
 intro c
 induction c with
 | skip=>intro Q T H h; exact⟨0,_,_,_,rfl,h⟩
 | reg l=>
  intro Q T H h
  obtain⟨n,T',H',h1,h2⟩:=qh l h
  exact⟨n,.normal,T',H',by simp only[aO,h1],h2⟩
 | draw l chk=>
  intro Q T H h
  simp only[wp,BQ]at h
  obtain⟨n,ss,h1,h2,h3⟩:=ur (aF H.next l) h 0
  exact⟨n,.normal,_,_,by simp only[aO,mB,h1,ut (aF H.next l) chk ss T h2,cond_true],h3⟩
 | seq a b iha ihb=>
  intro Q T H h
  obtain⟨n,e,T1,H1,h1,h2⟩:=iha _ T H h
  rcases qA h2 with⟨rfl,h2⟩ | ⟨hne,h2⟩
  ·obtain⟨m,e2,T2,H2,h3,h4⟩:=ihb _ T1 H1 h2
   refine⟨max n m,e2,T2,H2,?_,h4⟩
   simp only[aO,gW (ei (Nat.le_max_left n m)) (Nat.le_max_left n m) a _ _ _ h1]
   exact gW (ei (Nat.le_max_right n m)) (Nat.le_max_right n m) b _ _ _ h3
  ·refine⟨n,e,T1,H1,?_,h2⟩
   cases e with
   | normal=>exact absurd rfl hne
   | exit i=>simp only[aO,h1]
   | ret=>simp only[aO,h1]
 | cond c a b iha ihb=>
  intro Q T H h
  simp only[wp,qr]at h
  obtain⟨v,hv,h⟩:=h
  cases v with
  | true=>
   obtain⟨n,e,T1,H1,h1,h2⟩:=iha _ T H h
   exact⟨n,e,T1,H1,by simp only[aO,hv,h1],h2⟩
  | false=>
   obtain⟨n,e,T1,H1,h1,h2⟩:=ihb _ T H h
   exact⟨n,e,T1,H1,by simp only[aO,hv,h1],h2⟩
 | block id c ih=>
  intro Q T H h
  obtain⟨n,e,T1,H1,h1,h2⟩:=ih _ T H h
  cases e with
  | exit j=>
   simp only[lU]at h2
   cases hb:Nat.beq j id with
   | true=>rw[hb]at h2; exact⟨n,.normal,T1,H1,by simp only[aO,h1,hb,cond_true],h2⟩
   | false=>rw[hb]at h2; exact⟨n,.exit j,T1,H1,by simp only[aO,h1,hb,cond_false],h2⟩
  | normal=>exact⟨n,.normal,T1,H1,by simp only[aO,h1],h2⟩
  | ret=>exact⟨n,.ret,T1,H1,by simp only[aO,h1],h2⟩
 | loop c ih=>
  intro Q T H h
  simp only[wp]at h
  obtain⟨I,⟨m,hm⟩,hI⟩:=h
  have key:∀(m:Nat) (T:Tr ab) (H:aa),I m (en T) H->∃n e T' H',aO (zZ N (iD P N)) (dl N (iD P N) n) n (.loop c) T H=some (e,T',H')/\Q e (en T') H':=by
   intro m
   induction m using Nat.strongRecOn with
   | ind m ihm=>
    intro T H hi
    obtain⟨n,e,T1,H1,h1,h2⟩:=ih _ T H (hI m _ _ hi)
    rcases qA h2 with⟨rfl,m',hm',h2⟩ | ⟨hne,h2⟩
    ·obtain⟨k,e2,T2,H2,h3,h4⟩:=ihm m' hm' T1 H1 h2
     refine⟨max n k+1,e2,T2,H2,?_,h4⟩
     simp only[aO,jG]
     rw[gW (ei (show n<=max n k+1 by omega)) (show n<=max n k+1 by omega) c _ _ _ h1]
     simp only[aO]at h3
     exact nX (fun T H r hr=>gW (ei (show k<=max n k+1 by omega)) (show k<=max n k+1 by omega) c T H r hr) k (max n k) T1 H1 _ (Nat.le_max_right n k) h3
    ·refine⟨n+1,e,T1,H1,?_,h2⟩
     simp only[aO,jG]
     rw[gW (ei (Nat.le_succ n)) (Nat.le_succ n) c _ _ _ h1]
     cases e with
     | normal=>exact absurd rfl hne
     | exit i=>rfl
     | ret=>rfl
  exact key m T H hm
 | exit id=>intro Q T H h; exact⟨0,_,_,_,rfl,h⟩
 | ret=>intro Q T H h; exact⟨0,_,_,_,rfl,h⟩
def pv(args:List ab):bG:=fun i=>match args[i]? with
 | some v=>v
 | none=>aX
theorem sd:∀(args:List ab) (i:Nat) (T:Tr ab),en (dh args i T)=fun j=>if i<=j then (match args[j-i]? with | some v=>v | none=>en T j) else en T j
 | [],i,T=>by funext j; simp[dh]
 | x::r,i,T=>by
  rw[dh,sd r (i+1),HD]
  funext j
  by_cases h:i+1<=j
  ·rw[if_pos h,if_pos om,show j-i=(j-(i+1))+1 by omega]
   simp only[Q0]
   split
   ·rfl
   ·have hb:Nat.beq j i=false:=by rw[bD]; exact decide_eq_false om
    simp only[up,hb,cond_false]
  ·rw[if_neg h]
   by_cases e:i=j
   ·subst e
    simp[up]
   ·rw[if_neg om]
    have hb:Nat.beq j i=false:=by rw[bD]; exact decide_eq_false om
    simp only[up,hb,cond_false]
theorem DR(args:List ab):en (dh args 0 .e)=pv args:=by
 rw[sd]
 funext j
 simp only[Nat.zero_le,if_true,Nat.sub_zero,pv]
 split
 ·rfl
 ·rfl
def nB(T:bG)(H:aa):List nm->Option (List ab)
 | []=>some []
 | .t i::r=>match nB T H r with
  | some l=>some (T i::l)
  | none=>none
 | .cell g n i::r=>match am g n H (T i),nB T H r with
  | some x,some l=>some (x::l)
  | _,_=>none
theorem qR(T:Tr ab)(H:aa):∀l:List nm,nB (en T) H l=ko T H l
 | []=>rfl
 | .t i::r=>by simp only[nB,ko,qR T H r]; rfl
 | .cell g n i::r=>by simp only[nB,ko,qR T H r]; rfl
def dM(res:List nm)(K:ab->aa->Prop):pz:=fun e T H=>match e with
 | .exit _=>False
 | _=>dy (nB T H res) fun l=>K (jr l) H
theorem vM{f:FuncId}{c:bV}{args:List ab}{H:aa}{K:ab->aa->Prop}(hn:N.is f=false)(hc:wG P (N.md (f % cA)) f=some c)(hl:Nat.ble args.length c.nt=true)(h:wp (aq P N) c.body (dM c.res K) (pv args) H):aq P N f args H K:=by
 rw[<- DR]at h
 obtain⟨n,e,T',H',h1,h2⟩:=Fg _ _ _ _ h
 have:∃l,ko T' H' c.res=some l/\K (jr l) H'/\∀i,e≠.exit i:=by
  cases e with
  | exit i=>exact h2.elim
  | normal=>obtain⟨l,q1,q2⟩:=h2; rw[qR]at q1; exact⟨l,q1,q2,fun i=>by simp⟩
  | ret=>obtain⟨l,q1,q2⟩:=h2; rw[qR]at q1; exact⟨l,q1,q2,fun i=>by simp⟩
 obtain⟨l,q1,q2,q3⟩:=this
 refine⟨n+1,jr l,H',?_,q2⟩
 rw[dl,hn,FG hc]
 simp only[cond_false,hl,cond_true,h1]
 cases e with
 | exit i=>exact absurd rfl (q3 i)
 | normal=>simp only[q1]
 | ret=>simp only[q1]
theorem BG{f:FuncId}{args:List ab}{H H':aa}{v:ab}{K:ab->aa->Prop}(hn:N.is f=true)(hr:N.run f args H=some (v,H'))(hk:K v H'):aq P N f args H K:=
 ⟨1,v,H',by rw[dl,hn]; exact hr,hk⟩
theorem aq.calls(hfol:P.follows .mixedOrders=true)(hN:tU P N){f:FuncId}{args:List ab}{H:aa}{K:ab->aa->Prop}(h:aq P N f args H K)
  {Prot:Gh} {w0 w:World} {ρ:Pl} {vs:Array Value} (R:cg Prot w0 ρ H w) (hv:ap ρ args vs.toList) (hfb:Nat.blt f cA=true:=by rfl) :
  Calls P f vs w fun e w'=>∃ρ' v H' u,ρ.le ρ'/\e=.returned u/\K v H'/\cg Prot w0 ρ' H' w'/\ak ρ' v u:=by
 obtain⟨n,v,H',h1,h2⟩:=h
 refine (It hfol hN (I6 P N) n _ _ _ _ _ hfb h1 _ _ _ _ _ R hv).mono fun e w' hx=>?_
 obtain⟨ρ',u,q1,rfl,q2,q3⟩:=hx
 exact⟨ρ',v,H',u,q1,rfl,h2,q2,q3⟩
end
end Go.Abs.S
namespace Go.Abs.S
open Go.Abs
theorem GU{ρ:Pl}{p:Value->Prop}(h:∀v,p v->∃x,∀ρ,ak ρ x v):∀(vs:List Value),(∀v∈vs,p v)->∃l,∀ρ,ap ρ l vs
 | [],_=>⟨[],fun ρ=>by simp[ap]⟩
 | v::vs,hv=>by
  obtain⟨x,hx⟩:=h v (hv v (by simp))
  obtain⟨l,hl⟩:=GU (ρ:=ρ) h vs fun u hu=>hv u (by simp[hu])
  exact⟨x::l,fun ρ=>by simp only[ap]; exact⟨v,vs,rfl,hx ρ,hl ρ⟩⟩
theorem On:∀(n:Nat) (v:Value),SizeOf.sizeOf v<=n->∃x,∀ρ,ak ρ x v:=by
 intro n
 induction n with
 | zero=>intro v h; cases v <;> simp at h
 | succ n ih=>
  intro v h
  cases v
  case bool b=>exact⟨.bool b,fun ρ=>by simp[ak]⟩
  case agg vs=>
   obtain⟨l,hl⟩:=GU (ρ:=fun _ _=>none) (p:=fun v=>SizeOf.sizeOf v<=n) ih vs.toList fun v hv=>by
    have:=Array.sizeOf_lt_of_mem (Array.mem_toList_iff.1 hv)
    simp at h; omega
   exact⟨.agg l,fun ρ=>by simp only[ak]; exact⟨vs,rfl,hl ρ⟩⟩
  case tuple vs=>
   obtain⟨l,hl⟩:=GU (ρ:=fun _ _=>none) (p:=fun v=>SizeOf.sizeOf v<=n) ih vs.toList fun v hv=>by
    have:=Array.sizeOf_lt_of_mem (Array.mem_toList_iff.1 hv)
    simp at h; omega
   exact⟨.tuple l,fun ρ=>by simp only[ak]; exact⟨vs,rfl,hl ρ⟩⟩
  all_goals exact⟨.val _,fun ρ=>by simp only[ak]; exact⟨rfl,rfl⟩⟩
noncomputable def AR(v:Value):ab:=Classical.choose (On (SizeOf.sizeOf v) v rL)
theorem sF(v:Value)(ρ:Pl):ak ρ (AR v) v:=Classical.choose_spec (On (SizeOf.sizeOf v) v rL) ρ
def kW(w:World)(c:Nat):Option Nat:=match w.heap[c]? with
 | some (.cells C _ _)=>some C.size
 | _=>none
noncomputable def lj(w:World):Value->ab
 | .bool b=>.bool b
 | .int k n=>.int k n
 | .string s=>.str s.data.toList
 | .pointer none=>.ptr none
 | .pointer (some ⟨c,off,none⟩)=>match kW w c with
  | some n=>.ptr (some ⟨c,n,off⟩)
  | none=>AR (.pointer (some ⟨c,off,none⟩))
 | .slice none 0 0=>.slice none 0 (.known 0)
 | .slice (some ⟨c,off,none⟩) len cap=>if len<=cap then (match kW w c with
  | some n=>if off<=n then .slice (some ⟨c,n,off⟩) len (.known cap) else .val (.slice (some ⟨c,off,none⟩) len cap)
  | none=>.val (.slice (some ⟨c,off,none⟩) len cap)) else .val (.slice (some ⟨c,off,none⟩) len cap)
 | .slice (some ⟨c,off,some q⟩) len cap=>.val (.slice (some ⟨c,off,some q⟩) len cap)
 | .map none=>.map none
 | .nilFunc=>.nilFunc
 | .nilIface=>.nilIface
 | v=>AR v
def MR(w:World):Pl:=fun b l=>match kW w b with
 | some n=>if l=n then some ⟨b,0,n,false⟩ else none
 | none=>none
theorem sf{w:World}{b n:Nat}(h:kW w b=some n):MR w b n=some ⟨b,0,n,false⟩:=by simp[MR,h]
theorem Ag(s:ByteArray):aU s.data.toList=s:=by cases s; simp[aU]
theorem px(w:World)(v:Value):ak (MR w) (lj w v) v:=by
 unfold lj
 split
 ·simp[ak]
 ·simp[ak]
 ·simp[ak,Ag]
 ·simp[ak]
 ·split
  ·rename_i n hn
   simp only[ak]
   exact⟨_,sf hn,Nat.zero_le _,by simp⟩
  ·exact sF _ _
 ·simp[ak]
 ·split
  ·rename_i hl
   split
   ·rename_i n hn
    split
    ·simp only[ak]
     exact⟨_,sf hn,Nat.zero_le _,by simp only[co]; exact⟨hl,by simp⟩⟩
    ·simp only[ak]; exact⟨trivial,rfl⟩
   ·simp only[ak]; exact⟨trivial,rfl⟩
  ·simp only[ak]; exact⟨trivial,rfl⟩
 ·simp only[ak]; exact⟨trivial,rfl⟩
 ·simp[ak]
 ·simp[ak]
 ·simp[ak]
 ·exact sF _ _
noncomputable def sq(w:World)(c:Nat):Option dV:=match w.heap[c]? with
 | some (.cells C _ _)=>some (.cells (C.toList.map (lj w)) 0 true)
 | _=>none
noncomputable def MO(w:World):Nat->Tr dV
 | 0=>.e
 | n+1=>match sq w n with
  | some o=>(MO w n).set n o
  | none=>MO w n
theorem vX(w:World):∀(n b:Nat),(MO w n).get b=if b<n then sq w b else none
 | 0,b=>by rw[if_neg om]; cases b <;> rfl
 | n+1,b=>by
  simp only[MO]
  cases hc:sq w n with
  | none=>
   simp only[vX w n b]
   by_cases h:b<n
   ·rw[if_pos h,if_pos om]
   ·by_cases e:b=n
    ·subst e; rw[if_neg h,if_pos om,hc]
    ·rw[if_neg h,if_neg om]
  | some c=>
   simp only[Tr.get_set,vX w n b]
   by_cases e:b=n
   ·subst e; rw[if_pos rfl,if_pos om,hc]
   ·rw[if_neg e]
    by_cases h:b<n
    ·rw[if_pos h,if_pos om]
    ·rw[if_neg h,if_neg om]
noncomputable def dL(w:World):aa:=⟨w.heap.size,MO w w.heap.size⟩
theorem gO(w:World)(b:Nat):(dL w).get b=sq w b:=by
 show (MO w w.heap.size).get b=_
 rw[vX]
 by_cases h:b<w.heap.size
 ·rw[if_pos h]
 ·rw[if_neg h]
  unfold sq
  rw[Array.getElem?_eq_none om]
theorem mO{w:World}{c n:Nat}(h:kW w c=some n):∃C e fz,w.heap[c]?=some (.cells C e fz)/\C.size=n/\sq w c=some (.cells (C.toList.map (lj w)) 0 true):=by
 unfold kW at h
 unfold sq
 split at h
 ·rename_i C e fz hC
  simp only[sJ]at h
  exact⟨C,e,fz,hC,h,rfl⟩
 ·simp at h
theorem Ck{w:World}{b l:Nat}{L:Ab}(h:MR w b l=some L):kW w b=some l/\L=⟨b,0,l,false⟩:=by
 unfold MR at h
 split at h
 ·rename_i n hn
  split at h
  ·rename_i e; subst e; simp only[sJ]at h; exact⟨hn,h.symm⟩
  ·simp at h
 ·simp at h
theorem Cp{w:World}{b:Nat}{x:dV}(h:sq w b=some x):x.rw=false:=by
 unfold sq at h
 split at h
 ·simp only[sJ]at h; subst h; rfl
 ·simp at h
theorem uJ(w:World):cg ⟨fun c=>c<w.heap.size,fun _=>False⟩ w (MR w) (dL w) w:=by
 refine⟨rfl,rfl,rfl,Nat.le_refl _,fun _ hc=>⟨hc,rfl⟩,fun b l L h=>?_,fun b l L h=>?_,fun b l L x h hx hr=>?_,fun b l L b' l' L' x h h' he hx hr=>?_,fun _ h=>h.elim,fun b l low h=>?_⟩
 ·obtain⟨h1,rfl⟩:=Ck h
  obtain⟨C,e,fz,h2,_,_⟩:=mO h1
  have:=(Array.getElem?_eq_some_iff.1 h2).1
  exact⟨this,this⟩
 ·obtain⟨h1,rfl⟩:=Ck h
  obtain⟨C,e,fz,h2,h3,h4⟩:=mO h1
  obtain⟨lo,hi⟩:=fz
  refine⟨_,_,by rw[gO,h4],h2,?_⟩
  simp only[eW]
  refine⟨C,e,lo,hi,rfl,h3,fun h=>by simp at h,by simp; omega,fun _ i _ hi=>?_⟩
  have hlt:i<C.size:=om
  refine⟨lj w C[i],C[i],?_,by simp[hlt],px w _⟩
  simp[hlt]
 ·rw[gO]at hx
  rw[Cp hx]at hr
  simp at hr
 ·rw[gO]at hx
  rw[Cp hx]at hr
  simp at hr
 ·rw[gO]at h
  have hr:kW w b=some l.length:=by
   unfold sq at h
   unfold kW
   split at h
   ·rename_i C e fz hC
    simp only[sJ,dV.cells.injEq]at h
    simp[<- h.1]
   ·simp at h
  exact⟨_,sf hr,rfl,rfl,rfl⟩
end Go.Abs.S
namespace Go.Abs.S
open Go.Abs
theorem BR(T:bG)(i:Nat)(v:ab):up T i v i=v:=by simp[up]
theorem Kt(T:bG)(i j:Nat)(v:ab)(h:j≠i):up T i v j=T j:=by
 have:Nat.beq j i=false:=by rw[bD]; exact decide_eq_false h
 simp[up,this]
structure aS(n:Nat)(H H':aa):Prop where
 next:H.next<=H'.next
 old:∀b,b<n->H'.get b=H.get b
theorem aS.refl(n:Nat)(H:aa):aS n H H:=⟨Nat.le_refl _,fun _ _=>rfl⟩
theorem aS.trans{n:Nat}{H H' H'':aa}(h:aS n H H')(k:aS n H' H''):aS n H H'':=⟨Nat.le_trans h.next k.next,fun b hb=>(k.old b hb).trans (h.old b hb)⟩
theorem aS.less{n m:Nat}{H H':aa}(h:aS n H H')(hm:m<=n):aS m H H':=⟨h.next,fun b hb=>h.old b om⟩
theorem aS.push{n:Nat}{H H':aa}(h:aS n H H')(hn:n<=H'.next)(o:dV):aS n H (H'.push o):=
 ⟨Nat.le_trans h.next (by simp[aa.push]),fun b hb=>by rw[aa.get_push,if_neg om,h.old b hb]⟩
theorem aS.set{n:Nat}{H H':aa}(h:aS n H H'){b:Nat}(hn:n<=b)(o:dV):aS n H (H'.set b o):=
 ⟨h.next,fun c hc=>by rw[aa.get_set,if_neg om,h.old c hc]⟩
theorem aZ(H:aa)(o:dV):(H.push o).next=H.next+1:=rfl
theorem lu(H:aa)(b:Nat)(o:dV):(H.set b o).next=H.next:=rfl
def bP:ab:=.slice none 0 (.known 0)
def yT(s:ab)(i:Nat):ab:=match s with
 | .slice (some a) _ _=>.ptr (some ⟨a.b,a.lim,a.o+i*1⟩)
 | _=>aX
def MT:ab->Bool
 | .slice none 0 (.known 0)=>true
 | .val (.slice (some _) 0 0)=>true
 | _=>false
theorem j7{s:ab}(h:MT s=true):s=bP∨∃a,s=.val (.slice (some a) 0 0):=by
 unfold MT at h
 split at h
 ·exact .inl rfl
 ·exact .inr ⟨_,rfl⟩
 ·simp at h
theorem JF{s:ab}(h:s=bP):MT s=true:=by subst h; rfl
def xj(n:Nat)(H:aa)(s:ab)(l:List ab):Prop:=
 (MT s=true/\l=[])∨∃a r,s=.slice (some a) l.length r/\a.b<n/\bv H a l.length=some l
theorem xU{H H':aa}{a:Ad}(h:H'.get a.b=H.get a.b)(n:Nat):bv H' a n=bv H a n:=by
 unfold bv; rw[h]
theorem xj.len{n:Nat}{H:aa}{s:ab}{l:List ab}(h:xj n H s l):gv false s=some (.int .i64 l.length):=by
 rcases h with⟨h,rfl⟩ | ⟨a,r,rfl,_⟩
 ·rcases j7 h with rfl | ⟨a,rfl⟩ <;> rfl
 ·rfl
theorem Gf{H:aa}{a:Ad}{n i:Nat}{xs:List ab}(h:bv H a n=some xs)(hi:i<n):∃x,xs[i]?=some x/\bv H ⟨a.b,a.lim,a.o+i⟩ 1=some [x]:=by
 obtain⟨l,low,ro,h1,h2,h3,h4,rfl⟩:=oE h
 have hlt:a.o+i<l.length:=om
 refine⟨l[a.o+i],?_,?_⟩
 ·rw[List.getElem?_take_of_lt hi,List.getElem?_drop,QQ hlt]
 ·unfold bv
  simp only[h1,QS h2,QS h3,QS (show a.o+i+1<=a.lim by omega),Bool.and_self,cond_true]
  rw[List.drop_eq_getElem_cons hlt]
  rfl
theorem xj.idx{n:Nat}{H:aa}{s:ab}{l:List ab}(h:xj n H s l)(k:IntKind){i:Nat}(hi:i<l.length):eH 1 s (.int k (i:Int))=some (yT s i):=by
 rcases h with⟨_,rfl⟩ | ⟨a,r,rfl,_⟩
 ·simp at hi
 ·show (bif Nat.blt i l.length then _ else none)=_
  have:Nat.blt i l.length=true:=by simpa[Nat.blt_eq] using hi
  rw[this]; rfl
theorem xj.load{n:Nat}{H:aa}{s:ab}{l:List ab}(h:xj n H s l){i:Nat}{x:ab}(hi:l[i]?=some x):am false 1 H (yT s i)=some x:=by
 have hlt:=(QR.1 hi).1
 rcases h with⟨_,rfl⟩ | ⟨a,r,rfl,_,h3⟩
 ·simp at hi
 ·obtain⟨y,h4,h5⟩:=Gf h3 hlt
  rw[hi]at h4
  simp only[sJ]at h4
  subst h4
  simp only[am,yT,Nat.mul_one,h5,cond_false]
def BO(n:Nat)(H:aa)(s:ab)(l:List ab):Prop:=
 (s=bP/\l=[])∨∃b low,s=.slice (some ⟨b,l.length,0⟩) l.length (.open_ 1)/\n<=b/\b<H.next/\H.get b=some (.cells l low false)/\low<=l.length
theorem BO.nil(n:Nat)(H:aa):BO n H bP []:=.inl ⟨rfl,rfl⟩
theorem eP{H:aa}{b low:Nat}{l:List ab}{ro:Bool}(h:H.get b=some (.cells l low ro))(hl:low<=l.length):bv H ⟨b,l.length,0⟩ l.length=some l:=by
 unfold bv
 simp only[h,QS hl,QS rL,Nat.zero_add,Bool.and_self,cond_true,List.drop_zero,List.take_length]
theorem BO.cel{n:Nat}{H:aa}{s:ab}{l:List ab}(h:BO n H s l):xj H.next H s l:=by
 rcases h with h | ⟨b,low,h1,h2,h3,h4,h5⟩
 ·exact .inl ⟨JF h.1,h.2⟩
 ·exact .inr ⟨_,_,h1,h3,eP h4 h5⟩
theorem vw{x:ab}(h:x.one=true):x.cells=[x]:=by cases x <;> first | rfl | (simp[ab.one]at h)
def AC(H:aa):ab:=.slice (some ⟨H.next,1,0⟩) 1 (.known 1)
theorem fS(z:ab)(H:aa){x:ab}(h:x.one=true):cD 1 [z] H [(0,1,x)]=some (AC H,H.push (.cells [x] 0 false)):=by
 simp only[cD,ud,List.append_nil,ny,vw h]
 rfl
theorem DF(H:aa)(x:ab):jU 1 (H.push (.cells [x] 0 false)) (AC H)=some (1,[x]):=by
 have:=eP (H:=H.push (.cells [x] 0 false)) (b:=H.next) (l:=[x]) (low:=0) (ro:=false) (by rw[aa.get_push,if_pos rfl]) (by simp)
 simp only[QU,QV,Nat.zero_add]at this
 simp only[jU,AC,Nat.mul_one,this]
theorem BO.push{n:Nat}{H:aa}{s:ab}{l:List ab}(h:BO n H s l)(hn:n<=H.next){x:ab}(hx:x.one=true){bytes:Nat}(hb:2*(l.length+1)*bytes<=281474976710656)(hb1:0<bytes) :
  ∃s' H',bJ 1 bytes (H.push (.cells [x] 0 false)) s (AC H)=some (s',H')/\BO n H' s' (l++[x])/\aS n H H':=by
 have hlen:l.length+1<=9223372036854775807:=by
  have:2*(l.length+1)<=2*(l.length+1)*bytes:=Nat.le_mul_of_pos_right _ hb1
  omega
 have c1:∀k,k=l.length->(Nat.blt 0 1&&(Nat.ble ((2*(k+1)+0)*bytes) 281474976710656&&(Nat.ble (k+1) 9223372036854775807&&(Nat.beq [x].length (1*1)&&[x].all ab.one))))=true:=by
  intro k hk
  subst hk
  simp only[Nat.add_zero,QS hb,QS hlen,List.all_cons,List.all_nil,hx]
  rfl
 rcases h with⟨rfl,rfl⟩ | ⟨b,low,rfl,h2,h3,h4,h5⟩
 ·refine⟨.slice (some ⟨H.next+1,1,0⟩) 1 (.open_ 1),(H.push (.cells [x] 0 false)).push (.cells [x] 0 false),?_,.inr ⟨H.next+1,0,rfl,om,Nat.lt_succ_self _,?_,Nat.zero_le _⟩,((aS.refl n H).push hn _).push (by rw[aZ]; omega) _⟩
  ·simp only[bJ,DF,bP]
   rw[show Nat.beq 1 0=false from rfl,cond_false,c1 0 rfl,cond_true]
   rfl
  ·rw[aa.get_push]; exact if_pos rfl
 ·have hg:(H.push (.cells [x] 0 false)).get b=some (.cells l low false):=by rw[aa.get_push,if_neg om]; exact h4
  have hgrow:cY (H.push (.cells [x] 0 false)) ⟨b,l.length,0⟩ l.length [x]=some ((H.push (.cells [x] 0 false)).set b (.cells (l++[x]) low false)):=by
   unfold cY
   simp only[hg,QS h5,QS rL,QS (Nat.zero_le _),Nat.beq_refl,QU,QV,Nat.zero_add,List.all_cons,List.all_nil,hx,Bool.and_self,cond_true,List.take_length]
  refine⟨.slice (some ⟨b,l.length+1,0⟩) (l.length+1) (.open_ 1),(H.push (.cells [x] 0 false)).set b (.cells (l++[x]) low false),?_,.inr ⟨b,low,by simp,h2,by rw[lu,aZ]; omega,by rw[aa.get_set,if_pos rfl],by simp; omega⟩,((aS.refl n H).push hn _).set h2 _⟩
  simp only[bJ,DF]
  rw[show Nat.beq 1 0=false from rfl,cond_false,c1 l.length rfl,cond_true]
  have e1:Nat.ble (l.length+1) l.length=false:=by
   rw[kP]; exact decide_eq_false om
  simp only[Nat.beq_refl,cond_true,Nat.zero_add,Nat.mul_one,e1,cond_false,hgrow,QU,QV]
theorem xn{H:aa}{b low i:Nat}{l:List ab}(h:H.get b=some (.cells l low false))(hl:low<=l.length)(hi:i<l.length){x:ab}(hx:x.one=true) :
  a8 1 H (.ptr (some ⟨b,l.length,i⟩)) x=some (H.set b (.cells (l.set i x) l.length false)):=by
 simp only[a8,vw hx,QU,QV,Nat.zero_add,Nat.beq_refl,cond_true]
 unfold dZ
 simp only[h,QS hl,Nat.beq_refl,QU,QV,Nat.zero_add,QS (show i+1<=l.length by omega),List.all_cons,List.all_nil,hx,Bool.and_self,cond_true]
 congr 3
 rw[List.set_eq_take_append_cons_drop,if_pos hi]
 rfl
def qL(b n:Nat)(r:tP):ab:=.slice (some ⟨b,n,0⟩) n r
def ae(b n i:Nat):ab:=.ptr (some ⟨b,n,i⟩)
def aT(H:aa)(b:Nat)(l:List ab):Prop:=∃low,H.get b=some (.cells l low false)/\low<=l.length
theorem oB(b n:Nat)(r:tP):gv false (qL b n r)=some (.int .i64 (n:Int)):=_root_.id rfl
theorem Jb{b n:Nat}{r:tP}(k:IntKind){i:Nat}(h:i<n):eH 1 (qL b n r) (.int k (i:Int))=some (ae b n i):=by
 show (bif Nat.blt i n then some (ab.ptr (some ⟨b,n,0+i*1⟩)) else none)=_
 have:Nat.blt i n=true:=by simpa[Nat.blt_eq] using h
 rw[this,Nat.zero_add,Nat.mul_one]; rfl
theorem ah{H:aa}{b n:Nat}{l:List ab}(h:aT H b l)(hn:l.length=n){i:Nat}{x:ab}(hi:l[i]?=some x):am false 1 H (ae b n i)=some x:=by
 subst hn
 obtain⟨low,h1,h2⟩:=h
 have hlt:=(QR.1 hi).1
 obtain⟨y,h4,h5⟩:=Gf (eP h1 h2) hlt
 rw[hi]at h4
 simp only[sJ]at h4
 subst h4
 simp only[Nat.zero_add]at h5
 simp only[am,ae,h5,cond_false]
theorem ci{H:aa}{b n:Nat}{l:List ab}(h:aT H b l)(hn:l.length=n){i:Nat}(hi:i<n){x:ab}(hx:x.one=true) :
  ∃H',a8 1 H (ae b n i) x=some H'/\aT H' b (l.set i x)/\H'.next=H.next/\∀c,c≠b->H'.get c=H.get c:=by
 subst hn
 obtain⟨low,h1,h2⟩:=h
 exact⟨_,xn h1 h2 hi hx,⟨l.length,by rw[aa.get_set,if_pos rfl],by simp⟩,rfl,fun c hc=>by rw[aa.get_set,if_neg hc]⟩
theorem aT.same{H H':aa}{b:Nat}{l:List ab}(h:aT H b l)(e:H'.get b=H.get b):aT H' b l:=by
 obtain⟨low,h1,h2⟩:=h; exact⟨low,e.trans h1,h2⟩
theorem dA(H:aa)(l:List ab):aT (H.push (.cells l 0 false)) H.next l:=⟨0,by rw[aa.get_push,if_pos rfl],Nat.zero_le _⟩
theorem aE{H:aa}{o:dV}{c:Nat}(h:c<H.next):(H.push o).get c=H.get c:=by rw[aa.get_push,if_neg om]
theorem aT.cel{H:aa}{b n m:Nat}{l:List ab}{r:tP}(h:aT H b l)(hn:l.length=n)(hb:b<m):xj m H (qL b n r) l:=by
 subst hn
 obtain⟨low,h1,h2⟩:=h
 exact .inr ⟨_,_,rfl,hb,eP h1 h2⟩
end Go.Abs.S
namespace Go.Abs.S
open Go.Abs
section
variable {C:CS} {Q:pz} {T:bG} {H:aa} {K:bG->aa->Prop} {r:List an} {d:Option Nat}
theorem Dc:wp C .skip Q T H=Q .normal T H:=_root_.id rfl
theorem HW(ops:List an):wp C (.reg ops) Q T H=bh C ops T H (Q .normal):=_root_.id rfl
theorem wT(a b:cp):wp C (.seq a b) Q T H=wp C a (lT Q (wp C b Q)) T H:=_root_.id rfl
open Classical in
theorem De(c:bu)(a b:cp):wp C (.cond c a b) Q T H=if sX T c=.bool true then wp C a Q T H else if sX T c=.bool false then wp C b Q T H else False:=by
 simp only[wp]
 by_cases h:sX T c=.bool true
 ·rw[if_pos h,h]; simp
 ·rw[if_neg h]
  by_cases h':sX T c=.bool false
  ·rw[if_pos h',h']; simp
  ·rw[if_neg h']
   simp only[eq_iff_iff,iff_false,not_exists,not_and]
   intro v hv
   cases v
   ·exact absurd hv h'
   ·exact absurd hv h
theorem dS(id:Nat)(c:cp):wp C (.block id c) Q T H=wp C c (lU id Q) T H:=_root_.id rfl
theorem Dd(id:Nat):wp C (.exit id) Q T H=Q (.exit id) T H:=_root_.id rfl
theorem HV:wp C .ret Q T H=Q .ret T H:=_root_.id rfl
theorem oU:lT Q K .normal T H=K T H:=_root_.id rfl
theorem sM(i:Nat):lT Q K (.exit i) T H=Q (.exit i) T H:=_root_.id rfl
theorem uZ:lT Q K .ret T H=Q .ret T H:=_root_.id rfl
theorem sN(id i:Nat):lU id Q (.exit i) T H=if i=id then Q .normal T H else Q (.exit i) T H:=by
 simp only[lU]
 by_cases h:i=id
 ·subst h; rw[if_pos rfl,Nat.beq_refl]; rfl
 ·rw[if_neg h,show Nat.beq i id=false by rw[bD]; exact decide_eq_false h]; rfl
theorem oV(id:Nat):lU id Q .normal T H=Q .normal T H:=_root_.id rfl
theorem vd(id:Nat):lU id Q .ret T H=Q .ret T H:=_root_.id rfl
theorem aG{c:cp}(I:Nat->bG->aa->Prop)(m:Nat)(h0:I m T H)(h:∀m T H,I m T H->wp C c (lT Q fun T' H'=>∃m',m'<m/\I m' T' H') T H):wp C (.loop c) Q T H:=⟨I,⟨m,h0⟩,h⟩
def ku(o:Option ab)(C:CS)(r:List an)(T:bG)(d:Option Nat)(H:aa)(K:bG->aa->Prop):Prop:=dy o fun v=>bh C r (ju T d v) H K
def EW(o:Option (ab×aa))(C:CS)(r:List an)(T:bG)(d:Option Nat)(K:bG->aa->Prop):Prop:=dy o fun p=>bh C r (ju T d p.1) p.2 K
def Pm(o:Option aa)(C:CS)(r:List an)(T:bG)(d:Option Nat)(K:bG->aa->Prop):Prop:=dy o fun H'=>bh C r (ju T d aX) H' K
def GP(C:CS)(r:List an)(T:bG)(d:Option Nat)(K:bG->aa->Prop):ab->aa->Prop:=fun v H'=>bh C r (ju T d v) H' K
theorem vP(v:ab):ku (some v) C r T d H K=bh C r (ju T d v) H K:=aP _ _
theorem vQ(v:ab)(H':aa):EW (some (v,H')) C r T d K=bh C r (ju T d v) H' K:=aP _ _
theorem vO(H':aa):Pm (some H') C r T d K=bh C r (ju T d aX) H' K:=aP _ _
theorem yx(v:ab):GP C r T d K v H=bh C r (ju T d v) H K:=_root_.id rfl
theorem Ie:bh C [] T H K=K T H:=_root_.id rfl
open Classical in
theorem zK(o:jv)(t:Nat)(b:Bool)(ht:t<1000000):bh C (⟨d,o,some (t,b)⟩::r) T H K=if T t=.bool b then bh C (⟨d,o,none⟩::r) T H K else bh C r (ju T d aX) H K:=by
 simp only[bh,KL T ht]
 by_cases h:T t=.bool b
 ·rw[if_pos h,h]; cases b <;> rfl
 ·rw[if_neg h]
  have:MQ b (T t)=false:=by
   unfold MQ
   cases hv:T t <;> simp only[Ps]
   rename_i v
   rw[hv]at h
   cases b <;> cases v <;> simp at h ⊢
  rw[this]; rfl
theorem Ih(x:bu):bh C (⟨d,.mv x,none⟩::r) T H K=bh C r (ju T d (sX T x)) H K:=_root_.id rfl
open Classical in
theorem Dg(c a b:bu):bh C (⟨d,.pick c a b,none⟩::r) T H K=if sX T c=.bool true then bh C r (ju T d (sX T a)) H K else if sX T c=.bool false then bh C r (ju T d (sX T b)) H K else False:=by
 simp only[bh,sG,Dz,cond_true]
 by_cases h:sX T c=.bool true
 ·rw[if_pos h,h]; simp
 ·rw[if_neg h]
  by_cases h':sX T c=.bool false
  ·rw[if_pos h',h']; simp
  ·rw[if_neg h']
   simp only[eq_iff_iff,iff_false,not_exists,not_and]
   intro v hv
   cases v
   ·exact absurd hv h'
   ·exact absurd hv h
theorem Ig(z:List ab):bh C (⟨d,.new z,none⟩::r) T H K=bh C r (ju T d (go H z).1) (go H z).2 K:=_root_.id rfl
theorem Ik(x:bu):bh C (⟨d,.box x,none⟩::r) T H K=bh C r (ju T d (go H (sX T x).cells).1) (go H (sX T x).cells).2 K:=_root_.id rfl
theorem zO(z:List ab)(ps:List (Nat×Nat×bu)):bh C (⟨d,.build z ps,none⟩::r) T H K=ku (bB z (nf T ps)) C r T d H K:=_root_.id rfl
theorem tE(n:Nat)(z:List ab)(ps:List (Nat×Nat×bu)):bh C (⟨d,.buildSl n z ps,none⟩::r) T H K=EW (cD n z H (nf T ps)) C r T d K:=_root_.id rfl
theorem Dh(a:Bool)(n:Nat)(x:bu):bh C (⟨d,.load a n x,none⟩::r) T H K=ku (am a n H (sX T x)) C r T d H K:=_root_.id rfl
theorem zH(n:Nat)(a x:bu):bh C (⟨d,.store n a x,none⟩::r) T H K=Pm (a8 n H (sX T a) (sX T x)) C r T d K:=_root_.id rfl
theorem vD(x:bu):bh C (⟨d,.nilChk x,none⟩::r) T H K=ku (cL (sX T x)) C r T d H K:=_root_.id rfl
theorem Il(op:BinOp)(x y:bu):bh C (⟨d,.bin op x y,none⟩::r) T H K=ku (be op (sX T x) (sX T y)) C r T d H K:=_root_.id rfl
theorem Lh(op:UnOp)(x:bu):bh C (⟨d,.un op x,none⟩::r) T H K=ku (J8 op (sX T x)) C r T d H K:=_root_.id rfl
theorem Dk(k:IntKind)(x:bu):bh C (⟨d,.conv k x,none⟩::r) T H K=ku (qJ k (sX T x)) C r T d H K:=_root_.id rfl
theorem vH(x:bu):bh C (⟨d,.convSB x,none⟩::r) T H K=EW (MW H (sX T x)) C r T d K:=_root_.id rfl
theorem vI(x:bu):bh C (⟨d,.convBS x,none⟩::r) T H K=ku (EQ H (sX T x)) C r T d H K:=_root_.id rfl
theorem vE(fn:Fn)(a b:List bu):bh C (⟨d,.mkFunc fn a b,none⟩::r) T H K=bh C r (ju T d (.func fn (iZ T a) (iZ T b))) H K:=_root_.id rfl
theorem tC(t:TypeId)(x:bu):bh C (⟨d,.mkIface t x,none⟩::r) T H K=bh C r (ju T d (.iface t (sX T x))) H K:=_root_.id rfl
theorem tB(b:Nat)(z:List ab)(l c:bu):bh C (⟨d,.mkSlice b z l c,none⟩::r) T H K=EW (qI b z H (sX T l) (sX T c)) C r T d K:=_root_.id rfl
theorem Li(n:Nat)(x:bu)(lo hi mx:Option bu):bh C (⟨d,.sl n x lo hi mx,none⟩::r) T H K=ku (MV n (sX T x) (iI T lo) (iI T hi) (iI T mx)) C r T d H K:=_root_.id rfl
theorem zJ(x:bu)(lo hi:Option bu):bh C (⟨d,.slStr x lo hi,none⟩::r) T H K=ku (dT (sX T x) (iI T lo) (iI T hi)) C r T d H K:=_root_.id rfl
theorem vG(o:Nat)(x:bu):bh C (⟨d,.fieldA o x,none⟩::r) T H K=ku (iG o (sX T x)) C r T d H K:=_root_.id rfl
theorem zL(a:Bool)(n o:Nat)(x:bu):bh C (⟨d,.field a n o x,none⟩::r) T H K=ku (m0 a n o (sX T x)) C r T d H K:=_root_.id rfl
theorem Dj(n:Nat)(x i:bu):bh C (⟨d,.idxA n x i,none⟩::r) T H K=ku (eH n (sX T x) (sX T i)) C r T d H K:=_root_.id rfl
theorem vF(m n:Nat)(x i:bu):bh C (⟨d,.idxArr m n x i,none⟩::r) T H K=ku (jJ m n (sX T x) (sX T i)) C r T d H K:=_root_.id rfl
theorem Ij(m n:Nat)(a:Bool)(x i:bu):bh C (⟨d,.idx m n a x i,none⟩::r) T H K=ku (BL m n a (sX T x) (sX T i)) C r T d H K:=_root_.id rfl
theorem Di(x i:bu):bh C (⟨d,.idxS x i,none⟩::r) T H K=ku (kr (sX T x) (sX T i)) C r T d H K:=_root_.id rfl
theorem tD(i:Nat)(x:bu):bh C (⟨d,.extract i x,none⟩::r) T H K=ku (fH i (sX T x)) C r T d H K:=_root_.id rfl
theorem vJ(n b:Nat)(s x:bu):bh C (⟨d,.append n b s x,none⟩::r) T H K=EW (bJ n b H (sX T s) (sX T x)) C r T d K:=_root_.id rfl
theorem Ii(s:Bool)(x:bu):bh C (⟨d,.len s x,none⟩::r) T H K=ku (gv s (sX T x)) C r T d H K:=_root_.id rfl
theorem Dl(f:FuncId)(args:List bu):bh C (⟨d,.call f args,none⟩::r) T H K=C f (iZ T args) H (GP C r T d K):=_root_.id rfl
def nV(C:CS)(f:ab)(args:List ab)(H:aa)(K:ab->aa->Prop):Prop:=∃g a b,f=.func (.func g) a b/\Nat.blt g cA=true/\C g (a++args++b) H K
theorem iz(g:Nat)(a b args:List ab)(K:ab->aa->Prop)(hg:g<1024):nV C (.func (.func g) a b) args H K=C g (a++args++b) H K:=by
 simp only[nV,ab.func.injEq,Fn.func.injEq]
 apply propext
 constructor
 ·rintro ⟨g,a,b,⟨rfl,rfl,rfl⟩,_,h⟩; exact h
 ·intro h; exact⟨_,_,_,⟨rfl,rfl,rfl⟩,QS hg,h⟩
theorem zM(f:bu)(args:List bu):bh C (⟨d,.callv f args,none⟩::r) T H K=nV C (sX T f) (iZ T args) H (GP C r T d K):=_root_.id rfl
theorem Lj(f:PF)(xs:List bu):bh C (⟨d,.pf f xs,none⟩::r) T H K=ku (jt f (iZ T xs)) C r T d H K:=_root_.id rfl
theorem Lk(f:HF)(xs:List bu):bh C (⟨d,.hf f xs,none⟩::r) T H K=EW (Dq f H (iZ T xs)) C r T d K:=_root_.id rfl
theorem Id(m n:Nat)(x:bu)(lo hi mx:Option bu):bh C (⟨d,.slA m n x lo hi mx,none⟩::r) T H K=ku (mC m n (sX T x) (iI T lo) (iI T hi) (iI T mx)) C r T d H K:=_root_.id rfl
theorem xu(i:Nat)(v:ab):ju T (some i) v=up T i v:=_root_.id rfl
theorem xw(v:ab):ju T none v=T:=_root_.id rfl
theorem Oe(i:Nat):sX T (.t i)=T i:=_root_.id rfl
theorem Og(v:ab):sX T (.c v)=v:=_root_.id rfl
theorem Of(i:Nat):sX T (.f i)=.func (.func i) [] []:=_root_.id rfl
theorem CE(res:List nm)(K:ab->aa->Prop):dM res K .ret T H=dy (nB T H res) fun l=>K (jr l) H:=_root_.id rfl
theorem KX(i:Nat)(K:ab->aa->Prop):dM [.t i] K .ret T H=K (T i) H:=by
 simp only[dM,nB,aP]; rfl
theorem Ht(i j:Nat)(K:ab->aa->Prop):dM [.t i,.t j] K .ret T H=K (.tuple [T i,T j]) H:=by
 simp only[dM,nB,aP]; rfl
theorem Hs(i j k:Nat)(K:ab->aa->Prop):dM [.t i,.t j,.t k] K .ret T H=K (.tuple [T i,T j,T k]) H:=by
 simp only[dM,nB,aP]; rfl
def qK(C:CS):Prop:=∀f a H (K K':ab->aa->Prop),(∀v H,K v H->K' v H)->C f a H K->C f a H K'
theorem bH(P:Program)(N:gC):qK (aq P N):=fun _ _ _ _ _ h hc=>hc.mono h
theorem rD(hC:qK C){K K':ab->aa->Prop}(h:∀v H,K v H->K' v H){o:jv}(hw:Dz C T H K o):Dz C T H K' o:=by
 cases o
 case call f args=>exact hC _ _ _ _ _ h hw
 case callv f args=>obtain⟨g,a,b,h1,h0,h2⟩:=hw; exact⟨g,a,b,h1,h0,hC _ _ _ _ _ h h2⟩
 case pick c a b=>obtain⟨v,h1,h2⟩:=hw; exact⟨v,h1,h _ _ h2⟩
 case bad=>exact hw
 all_goals first
  | exact h _ _ hw
  | exact dy.mono hw fun v hv=>h _ _ hv
theorem Fk(hC:qK C):∀(l:List an) {T:bG} {H:aa} {K:List (ab×aa)->bG->aa->Prop} {K':bG->aa->Prop},(∀ss T H,K' T H->K ss T H)->bh C l T H K'->fj C l T H K:=by
 intro l
 induction l with
 | nil=>intro T H K K' h hw; exact h _ _ _ hw
 | cons o l ih=>
  intro T H K K' h hw
  simp only[bh,fj]at hw ⊢
  cases hg:sG T o.guard with
  | false=>rw[hg]at hw; exact ih (fun ss T H=>h _ T H) hw
  | true=>
   rw[hg]at hw
   simp only[cond_true]at hw ⊢
   exact rD hC (fun v H' hw=>ih (fun ss T H=>h _ T H) hw) hw
def tG:List (List Nat)->Bool
 | []=>true
 | []::r=>tG r
 | _::_=>false
theorem HH{hs:List aa}:∀(l:List an) (ps:List (List Nat)) (ss:List (ab×aa)) (T:bG),tG ps=true->zY hs l ps ss T
 | [],_,_,_,_=>trivial
 | o::l,[],_,_,_=>trivial
 | o::l,[]::ps,[],_,_=>trivial
 | o::l,[]::ps,(v,Hv)::ss,T,h=>⟨fun p hp=>by simp at hp,HH l ps ss _ h⟩
 | o::l,(q::p)::ps,_,_,h=>by simp[tG]at h
def su:List an->Bool
 | []=>true
 | o::r=>match et o.op with
  | some _=>false
  | none=>su r
theorem fi:∀(l:List an),su l=true->∀(b:Nat) (H:aa),aF b l=l/\bY H l=H
 | [],_,b,H=>⟨rfl,rfl⟩
 | o::r,h,b,H=>by
  cases hz:et o.op with
  | some p=>simp[su,hz]at h
  | none=>
   simp only[su,hz]at h
   exact⟨by simp only[aF,hz,(fi r h b H).1],by simp only[bY,hz,(fi r h b H).2]⟩
theorem Fl(hC:qK C):∀(l:List an) {T:bG} {H:aa} {K K':List (ab×aa)->bG->aa->Prop},(∀ss T H,K ss T H->K' ss T H)->fj C l T H K->fj C l T H K':=by
 intro l
 induction l with
 | nil=>intro T H K K' h hw; exact h _ _ _ hw
 | cons o l ih=>
  intro T H K K' h hw
  simp only[fj]at hw ⊢
  cases hg:sG T o.guard with
  | false=>rw[hg]at hw; exact ih (fun ss T H=>h _ T H) hw
  | true=>
   rw[hg]at hw
   simp only[cond_true]at hw ⊢
   exact rD hC (fun v H' hw=>ih (fun ss T H=>h _ T H) hw) hw
theorem nC(hC:qK C):∀(l:List an) {T:bG} {H:aa} {K K':bG->aa->Prop},(∀T H,K T H->K' T H)->bh C l T H K->bh C l T H K':=by
 intro l
 induction l with
 | nil=>intro T H K K' h hw; exact h _ _ hw
 | cons o l ih=>
  intro T H K K' h hw
  simp only[bh]at hw ⊢
  cases hg:sG T o.guard with
  | false=>rw[hg]at hw; exact ih h hw
  | true=>
   rw[hg]at hw
   simp only[cond_true]at hw ⊢
   exact rD hC (fun v H' hw=>ih h hw) hw
theorem nS{Q Q':pz}{K K':bG->aa->Prop}(h:∀e T H,Q e T H->Q' e T H)(hk:∀T H,K T H->K' T H)(e:tV)(T:bG)(H:aa)(hq:lT Q K e T H):lT Q' K' e T H:=by
 cases e with
 | normal=>exact hk _ _ hq
 | exit i=>exact h _ _ _ hq
 | ret=>exact h _ _ _ hq
theorem xp(hC:qK C):∀(c:cp) {Q Q':pz} {T:bG} {H:aa},(∀e T H,Q e T H->Q' e T H)->wp C c Q T H->wp C c Q' T H:=by
 intro c
 induction c with
 | skip=>intro Q Q' T H h hw; exact h _ _ _ hw
 | reg l=>intro Q Q' T H h hw; exact nC hC l (h .normal) hw
 | draw l chk=>intro Q Q' T H h hw; exact Fl hC _ (fun ss T' H' hk=>⟨hk.1,h _ _ _ hk.2⟩) hw
 | seq a b iha ihb=>intro Q Q' T H h hw; exact iha (nS h fun T H hk=>ihb h hk) hw
 | cond c a b iha ihb=>
  intro Q Q' T H h hw
  obtain⟨v,h1,h2⟩:=hw
  refine⟨v,h1,?_⟩
  cases v with
  | true=>exact iha h h2
  | false=>exact ihb h h2
 | block id c ih=>
  intro Q Q' T H h hw
  refine ih (fun e T H hk=>?_) hw
  cases e with
  | exit j=>
   simp only[lU]at hk ⊢
   cases hb:Nat.beq j id with
   | true=>rw[hb]at hk; exact h _ _ _ hk
   | false=>rw[hb]at hk; exact h _ _ _ hk
  | normal=>exact h _ _ _ hk
  | ret=>exact h _ _ _ hk
 | loop c ih=>
  intro Q Q' T H h hw
  obtain⟨I,hm,hI⟩:=hw
  exact⟨I,hm,fun m T H hi=>ih (nS h fun _ _ hk=>hk) (hI m T H hi)⟩
 | exit id=>intro Q Q' T H h hw; exact h _ _ _ hw
 | ret=>intro Q Q' T H h hw; exact h _ _ _ hw
def uf:cp->cp
 | .draw l chk=>bif tG chk&&su l then .reg l else .draw l chk
 | .seq a b=>.seq (uf a) (uf b)
 | .cond c a b=>.cond c (uf a) (uf b)
 | .block id c=>.block id (uf c)
 | .loop c=>.loop (uf c)
 | c=>c
theorem BP(hC:qK C):∀(c:cp) {Q:pz} {T:bG} {H:aa},wp C (uf c) Q T H->wp C c Q T H:=by
 intro c
 induction c with
 | skip=>intro Q T H hw; exact hw
 | reg l=>intro Q T H hw; exact hw
 | draw l chk=>
  intro Q T H hw
  simp only[uf]at hw
  cases hb:tG chk&&su l with
  | false=>rw[hb]at hw; exact hw
  | true=>
   rw[hb]at hw
   simp only[QT]at hb
   simp only[wp,BQ,(fi l hb.2 H.next H).1,(fi l hb.2 H.next H).2]
   exact Fk hC l (K:=fun ss T' H'=>zY (H::ss.map (·.2)) l chk ss T/\Q .normal T' H') (fun ss T' H' hk=>⟨HH l chk ss T hb.1,hk⟩) hw
 | seq a b iha ihb=>intro Q T H hw; exact xp hC a (nS (fun _ _ _ h=>h) fun T H hk=>ihb hk) (iha hw)
 | cond c a b iha ihb=>
  intro Q T H hw
  obtain⟨v,h1,h2⟩:=hw
  refine⟨v,h1,?_⟩
  cases v with
  | true=>exact iha h2
  | false=>exact ihb h2
 | block id c ih=>intro Q T H hw; exact ih hw
 | loop c ih=>
  intro Q T H hw
  obtain⟨I,hm,hI⟩:=hw
  exact⟨I,hm,fun m T H hi=>ih (hI m T H hi)⟩
 | exit id=>intro Q T H hw; exact hw
 | ret=>intro Q T H hw; exact hw
def cN(P:Program)(f:FuncId):Option bV:=match IV P f with
 | some c=>some ⟨c.nt,uf c.body,c.res⟩
 | none=>none
theorem af{P:Program}{N:gC}{f:FuncId}{c:bV}{args:List ab}{H:aa}{K:ab->aa->Prop}(hn:N.is f=false)(hc:cN P f=some c)(hl:Nat.ble args.length c.nt=true)(h:wp (aq P N) c.body (dM c.res K) (pv args) H)(hm:N.md f=none:=by rfl)(hfb:Nat.blt f cA=true:=by rfl):aq P N f args H K:=by
 unfold cN at hc
 cases hf:IV P f with
 | none=>rw[hf]at hc; simp at hc
 | some c'=>
  rw[hf]at hc
  simp only[sJ]at hc
  subst hc
  exact vM hn (Ev hf hm hfb) hl (BP (bH P N) _ h)
def MU(P:Program)(md:Option Ds)(i:Nat):Option bV:=match wG P md i with
 | some c=>some ⟨c.nt,uf c.body,c.res⟩
 | none=>none
theorem kU{P:Program}{N:gC}{i:Nat}{md:Option Ds}{c:bV}{args:List ab}{H:aa}{K:ab->aa->Prop}(hn:N.is i=false)(hc:MU P md i=some c)(hl:Nat.ble args.length c.nt=true)(h:wp (aq P N) c.body (dM c.res K) (pv args) H)(hm:N.md (i % cA)=md:=by rfl):aq P N i args H K:=by
 unfold MU at hc
 subst hm
 cases hf:wG P (N.md (i % cA)) i with
 | none=>rw[hf]at hc; simp at hc
 | some c'=>
  rw[hf]at hc
  simp only[sJ]at hc
  subst hc
  exact vM hn hf hl (BP (bH P N) _ h)
theorem cr{l:List an}{chk:List (List Nat)}(h2:su l=true)(h:fj C l T H fun ss T' H'=>zY (H::ss.map (·.2)) l chk ss T/\Q .normal T' H'):wp C (.draw l chk) Q T H:=by
 simp only[wp,BQ,(fi l h2 H.next H).1,(fi l h2 H.next H).2]
 exact h
end
theorem Ic(a:ab)(r:List ab):pv (a::r) 0=a:=_root_.id rfl
theorem Ib(a b:ab)(r:List ab):pv (a::b::r) 1=b:=_root_.id rfl
theorem Ia(a b c:ab)(r:List ab):pv (a::b::c::r) 2=c:=_root_.id rfl
theorem HZ(a b c d:ab)(r:List ab):pv (a::b::c::d::r) 3=d:=_root_.id rfl
theorem HY(a b c d e:ab)(r:List ab):pv (a::b::c::d::e::r) 4=e:=_root_.id rfl
theorem C6(k:IntKind)(a b:Int):be .lss (.int k a) (.int k b)=some (.bool (decide (a<b))):=by
 simp[be,cX,dE,mD]
theorem C7(k:IntKind)(a b:Int):be .leq (.int k a) (.int k b)=some (.bool (decide (a<=b))):=by
 simp[be,cX,dE,mD]
theorem C8(k:IntKind)(a b:Int):be .gtr (.int k a) (.int k b)=some (.bool (decide (b<a))):=by
 simp[be,cX,dE,mD]
theorem C9(k:IntKind)(a b:Int):be .geq (.int k a) (.int k b)=some (.bool (decide (b<=a))):=by
 simp[be,cX,dE,mD]
theorem Da(k:IntKind)(a b:Int):be .eql (.int k a) (.int k b)=some (.bool (decide (a=b))):=by
 simp only[be,cX,dE,mD,cond_false,if_true]
 by_cases h:a=b <;> simp[h]
theorem C0(k:IntKind)(a b:Int):be .neq (.int k a) (.int k b)=some (.bool (!decide (a=b))):=by
 simp only[be,cX,dE,mD,cond_false,if_true]
 by_cases h:a=b <;> simp[h,bne]
theorem Db(k:IntKind)(a b:Int):be .add (.int k a) (.int k b)=some (.int k (k.wrap (a+b))):=by
 simp[be,cX,dE,mD]
theorem CY(k:IntKind)(a b:Int):be .sub (.int k a) (.int k b)=some (.int k (k.wrap (a-b))):=by
 simp[be,cX,dE,mD]
theorem C5(k:IntKind)(a b:Int):be .mul (.int k a) (.int k b)=some (.int k (k.wrap (a*b))):=by
 simp[be,cX,dE,mD]
theorem kR(k:IntKind)(a b:Int)(h:b≠0):be .rem (.int k a) (.int k b)=some (.int k (a.tmod b)):=by
 simp[be,cX,dE,mD,h]
theorem Kq(a b:Nat)(h:a+b<=9223372036854775807):IntKind.i64.wrap ((a:Int)+(b:Int))=((a+b:Nat):Int):=by
 rw[IntKind.wrap_i64]; omega
theorem de(a:Nat)(h:a+1<=9223372036854775807):IntKind.i64.wrap ((a:Int)+1)=((a+1:Nat):Int):=by
 rw[IntKind.wrap_i64]; omega
theorem aN{α:Type}{l:List α}{i:Nat}(h:i<l.length):∃x,l[i]?=some x:=⟨_,QQ h⟩
theorem bj{a:Int}(h1:-9223372036854775808<=a)(h2:a<=9223372036854775807):IntKind.i64.wrap a=a:=by
 rw[IntKind.wrap_i64]; omega
end Go.Abs.S
namespace Go.Abs
section
variable {P:Program} {Prot:Gh} {w0:World} {ρ:Pl} {H:aa} {w:World}
theorem cg.keep(R:cg Prot w0 ρ H w){w':World}(hb:RowKit.Below w.heap.size w w'):cg Prot w0 ρ H w':=by
 refine⟨hb.os.trans R.os,hb.tape.trans R.tape,hb.output.trans R.output,Nat.le_trans R.size hb.size,fun c hc=>?_,fun b l L h=>?_,fun b l L h=>?_,R.free,R.inj,R.dead,R.glob⟩
 ·obtain⟨h1,h2⟩:=R.prot c hc
  exact⟨h1,(hb.block c (Q4 h1 R.size)).trans h2⟩
 ·obtain⟨h1,h2⟩:=R.dom b l L h
  exact⟨h1,Q4 h2 hb.size⟩
 ·obtain⟨x,o,h1,h2,h3⟩:=R.obj b l L h
  exact⟨x,o,h1,(hb.block _ (R.dom b l L h).2).trans h2,h3⟩
end
end Go.Abs
