/- Part of a proof (A11g A11h A11i A12 S1 S2 S3 S4 S5 N0 S6 S7 S8 S9); no condition. -/
import Derived.IntWalk
import Derived.Below
import Derived.OpenShut
import Derived.ChangeSlices
import Derived.WideShapes
import Derived.SizedLaws
import Derived.Test.YtacaginbdjepcaaGreatDoorP5
set_option linter.unusedSimpArgs false
set_option linter.unusedVariables false
set_option linter.unnecessarySimpa false
namespace Go.Abs
def qH(n:Nat):List kW->Bool
 | []=>true
 | .t i::r=>Nat.blt i n&&qH n r
 | .cell _ _ i::r=>Nat.blt i n&&qH n r
def js(b:Nat):List kW->List aj
 | []=>[]
 | .t i::r=>⟨some b,.mv (.t i),none⟩::js (b+1) r
 | .cell g m i::r=>⟨some b,.load g m (.t i),none⟩::js (b+1) r
def jr(b:Nat):Nat->List bb
 | 0=>[]
 | k+1=>.t b::jr (b+1) k
def B5(n:Nat)(res:List kW):bC:=.seq (.reg (js (n+4) res++[⟨some (n+3),.pf .tup (jr (n+4) res.length),none⟩])) .ret
def pV(n b i:Nat):Nat->List aj
 | 0=>[]
 | k+1=>⟨some b,.pf (.capt i) [.t (n+1)],none⟩::pV n (b+1) (i+1) k
def sy(n G k:Nat):List aj:=⟨some (n+2),.pf (.isF G k) [.t (n+1)],none⟩::pV n (n+4) 0 k
def uK(n:Nat)(res:List kW)(raw:Bool)(df:Option (Nat×Nat×Bool)):bC:=
 .seq (.reg [⟨some (n+2),.pf .isU [.t (n+1)],none⟩]) (.cond (.t (n+2))
  (.seq (.reg [⟨some (n+2),.pf .isU [.t n],none⟩]) (.cond (.t (n+2)) (B5 n res) (bif raw then .seq (.reg [⟨some (n+3),.mv (.t n),none⟩]) .ret else eN)))
  (match df with
   | none=>eN
   | some (G,k,false)=>.seq (.reg [⟨some (n+2),.pf .isU [.t n],none⟩]) (.cond (.t (n+2)) (.seq (.reg (sy n G k++[⟨none,.call (3*bI+G) (jr (n+4) k),none⟩])) (B5 n res)) eN)
   | some (G,k,true)=>.seq (.reg (⟨some (n+3),.pf .unP [.t n],none⟩::(sy n G k++[⟨none,.call (2*bI+G) (jr (n+4) k++[.t (n+3)]),none⟩]))) (B5 n res)))
section
variable {tb:FuncId->Bool} {call:FuncId->List af->ae->Option (af×ae)} {n:Nat}
theorem Gg(l:List af):Kv l=gH l:=by
 match l with
 | []=>rfl
 | [x]=>rfl
 | x::y::r=>rfl
theorem kA{U:Tr af}{H H1:ae}:∀(res:List kW) (b:Nat) {T T1:Tr af},GE n T U->n<=b->qH n res=true->be tb call (js b res) T H=some (T1,H1) ->
  H1=H/\∃xs,gt U H res=some xs/\eC T1 (jr b res.length)=xs/\∀t,t<b->ev T1 (.t t)=ev T (.t t)
 | [],b,T,T1,_,_,_,h=>by
  simp only[js,be,sJ,pJ]at h
  obtain⟨rfl,rfl⟩:=h
  exact⟨rfl,[],rfl,rfl,fun _ _=>rfl⟩
 | .t i::r,b,T,T1,hG,hb,hr,h=>by
  simp only[qH,NC]at hr
  simp only[js]at h
  rw[bu,bJ]at h
  simp only[bF]at h
  obtain⟨q1,xs,q2,q3,q4⟩:=kA r (b+1) (hG.ghost hb _) om hr.2 h
  refine⟨q1,ev U (.t i)::xs,by simp only[gt,q2],?_,fun t ht=>?_⟩
  ·simp only[ND,jr,eC,q3]
   rw[q4 b om,aQ,if_pos rfl,hG.1 i (dF hr.1)]
  ·rw[q4 t om,aQ,if_neg om]
 | .cell g m i::r,b,T,T1,hG,hb,hr,h=>by
  simp only[qH,NC]at hr
  simp only[js]at h
  rw[bu,bJ]at h
  simp only[bF,vv]at h
  cases hl:bg g m H (ev T (.t i)) with
  | none=>rw[hl]at h; simp at h
  | some v=>
   rw[hl]at h
   simp only at h
   obtain⟨q1,xs,q2,q3,q4⟩:=kA r (b+1) (hG.ghost hb _) om hr.2 h
   rw[hG.1 i (dF hr.1)]at hl
   refine⟨q1,v::xs,by simp only[gt,hl,q2],?_,fun t ht=>?_⟩
   ·simp only[ND,jr,eC,q3]
    rw[q4 b om,aQ,if_pos rfl]
   ·rw[q4 t om,aQ,if_neg om]
theorem Ao{U T T':Tr af}{H H':ae}{e:oD}{k:Nat}{res:List kW}(hG:GE n T U)(hr:qH n res=true)(h:aI tb call k (B5 n res) T H=some (e,T',H')) :
  e=.ret/\H'=H/\∃xs,gt U H res=some xs/\ev T' (.t (n+3))=gH xs:=by
 simp only[B5,aI]at h
 rw[ek]at h
 cases hs:be tb call (js (n+4) res) T H with
 | none=>rw[hs]at h; simp at h
 | some p=>
  obtain⟨T1,H1⟩:=p
  rw[hs]at h
  obtain⟨rfl,xs,q2,q3,q4⟩:=kA res (n+4) hG om hr hs
  simp only at h
  rw[bu,bJ]at h
  simp only[bF,jj,vv,q3,be,aK,sJ,pJ]at h
  obtain⟨rfl,rfl,rfl⟩:=h
  exact⟨rfl,rfl,xs,q2,by rw[aQ,if_pos rfl,Gg]⟩
theorem pU{f:Fn}{l:List af}{H H1:ae}:∀(k b i:Nat) {T T1:Tr af},ev T (.t (n+1))=.func f [] l->n+1<b->be tb call (pV n b i k) T H=some (T1,H1) ->
  H1=H/\eC T1 (jr b k)=(l.drop i).take k/\∀t,t<b->ev T1 (.t t)=ev T (.t t)
 | 0,b,i,T,T1,_,_,h=>by
  simp only[pV,be,sJ,pJ]at h
  obtain⟨rfl,rfl⟩:=h
  exact⟨rfl,by simp[jr,eC],fun _ _=>rfl⟩
 | k+1,b,i,T,T1,hd,hb,h=>by
  simp only[pV]at h
  rw[bu,bJ]at h
  simp only[bF,eC,jj,vv,hd,IJ]at h
  cases hx:l[i]? with
  | none=>rw[hx]at h; simp at h
  | some x=>
   rw[hx]at h
   simp only[aK]at h
   obtain⟨q1,q2,q3⟩:=pU k (b+1) (i+1) (T:=T.set b x) (by rw[aQ,if_neg om]; exact hd) om h
   refine⟨q1,?_,fun t ht=>by rw[q3 t om,aQ,if_neg om]⟩
   simp only[jr,eC,q2]
   rw[q3 b om,aQ,if_pos rfl]
   obtain⟨hi,hxi⟩:=NA.1 hx
   rw[List.drop_eq_getElem_cons hi,List.take_succ_cons,hxi]
theorem vX{G k:Nat}{H H1:ae}{T T1:Tr af}(h:be tb call (sy n G k) T H=some (T1,H1)) :
  ∃l,ev T (.t (n+1))=.func (.func G) [] l/\l.length=k/\H1=H/\eC T1 (jr (n+4) k)=l/\∀t,t<n+4->t≠n+2->ev T1 (.t t)=ev T (.t t):=by
 unfold sy at h
 rw[bu,bJ]at h
 simp only[bF,eC,jj,vv]at h
 cases hd:J0 G k [ev T (.t (n+1))] with
 | none=>rw[hd]at h; simp at h
 | some v=>
  rw[hd]at h
  simp only[aK]at h
  unfold J0 at hd
  split at hd
  ·rename_i f l heq
   simp only[List.cons.injEq,and_true]at heq
   cases hb:Nat.beq f G&&Nat.beq l.length k with
   | false=>rw[hb]at hd; simp at hd
   | true=>
    simp only[NC]at hb
    have e1:=NG hb.1
    have e2:=NG hb.2
    subst e1
    obtain⟨q1,q2,q3⟩:=pU k (n+4) 0 (f:=.func f) (l:=l) (by rw[aQ,if_neg om]; exact heq) om h
    refine⟨l,heq,e2,q1,?_,fun t ht hne=>by rw[q3 t ht,aQ,if_neg hne]⟩
    rw[q2,List.drop_zero,List.take_of_length_le om]
  ·simp at hd
end
section
def kp(P:Program)(G:Nat):Nat:=match P.funcs[G]? with
 | some f=>f.params.size+f.nfree
 | none=>0
def IP(P:Program)(call:FuncId->List af->ae->Option (af×ae)):Prop:=
 ∀G args H v H',Nat.blt G bI=true->call (3*bI+G) args H=some (v,H')->∀Prot w0 ρ w (vs:Array Value),Rel Prot w0 ρ H w->ah ρ args vs.toList ->
  CallsD P G vs .returning w fun e u' w'=>u'=.returning/\∃ρ' y,ρ.le ρ'/\e=.returned y/\Rel Prot w0 ρ' H' w'
def J6(u:FrameMode)(xv:Value):Prop:=(u=.returning/\xv=.nilIface)∨u=.panicking [{ v:=xv,recovered:=false }]
def IO(P:Program)(call:FuncId->List af->ae->Option (af×ae)):Prop:=
 ∀G args x H v H',Nat.blt G bI=true->args.length=kp P G->call (2*bI+G) (args++[x]) H=some (v,H')->∀Prot w0 ρ w (vs:Array Value) xv u,Rel Prot w0 ρ H w->ah ρ args vs.toList->ag ρ x xv->J6 u xv ->
  CallsD P G vs u w fun e u' w'=>settle u'=.returning/\∃ρ' y,ρ.le ρ'/\e=.returned y/\Rel Prot w0 ρ' H' w'
variable {P:Program} {Prot:Gh} {w0:World} {ρ:Pl} {H H':ae} {w:World} {n:Nat}
def IL(Prot:Gh)(w0:World)(raw:Bool)(ρ:Pl)(H:ae)(v:af):Ending->World->Prop:=fun e w'=>
 ∃ρ',ρ.le ρ'/\Rel Prot w0 ρ' H w'/\((∃y,e=.returned y/\ag ρ' v y)∨(raw=true/\∃x y,v=ju x/\e=.panicked [{ v:=y,recovered:=false }]/\ag ρ' x y))
def B9(P:Program):Option (Nat×Nat×Bool)->Bool
 | none=>true
 | some (G,k,true)=>Nat.blt G bI&&Nat.beq k (kp P G)
 | some (G,_,false)=>Nat.blt G bI
theorem Ei{x:af}(h:isU x=true):x=aJ:=by
 unfold isU at h
 split at h
 ·rfl
 ·simp at h
theorem Dd{tb:FuncId->Bool}{call:FuncId->List af->ae->Option (af×ae)}{k:Nat}(hcD:IP P call)(hcR:IO P call)(hbD:∀f,Nat.blt f bI=true->tb (3*bI+f)=true->bc P f=true)(hbR:∀f,Nat.blt f bI=true->tb (2*bI+f)=true->bc P f=true)
  {fc:Func} {res:List kW} (hres:mS P fc.results.toList=some res) (hrT:qH n res=true) {raw:Bool} {df:Option (Nat×Nat×Bool)} (hdf:B9 P df=true) {T T':Tr af} {e:oD}
  (h:aI tb call k (uK n res raw df) T H=some (e,T',H')) (R:Rel Prot w0 ρ H w) {a:Act} {u:FrameMode} (hst:(oC ρ n T a/\u=.returning)∨∃uv,J7 ρ n T a uv/\u=.panicking [{ v:=uv,recovered:=false }]) :
  e=.ret/\Leaves P fc a.tmps (IL Prot w0 raw ρ H' (ev T' (.t (n+3)))) a.defers u w:=by
 simp only[uK,aI]at h
 rw[bu,bJ]at h
 simp only[bF,eC,jj,vv,HH,be,aK]at h
 rw[aQ,if_pos rfl]at h
 have e1:∀b,ev (T.set (n+2) b) (.t n)=ev T (.t n):=fun b=>by rw[aQ,if_neg om]
 have e11:∀b c,ev ((T.set (n+2) b).set (n+2) c) (.t (n+2))=c:=fun b c=>by rw[aQ,if_pos rfl]
 have e12:∀b c,ev ((T.set (n+2) b).set (n+2) c) (.t n)=ev T (.t n):=fun b c=>by rw[aQ,if_neg om,e1]
 have isP:∀x,isU (ju x)=false:=fun x=>rfl
 cases hu:isU (ev T (.t (n+1))) with
 | true=>
  rw[hu]at h
  have hund:=Ei hu
  simp only[fi,cond_true,e1,e11]at h
  cases hu2:isU (ev T (.t n)) with
  | true=>
   rw[hu2]at h
   rcases hst with⟨hP,rfl⟩ | ⟨uv,⟨x,q1,_⟩,_⟩
   ·obtain⟨U,hG,ht⟩:=hP.1.t
    obtain⟨rfl,rfl,xs,z1,z2⟩:=Ao ((hG.ghost (d:=n+2) om _).ghost (d:=n+2) om _) hrT h
    have hds:a.defers=[]:=by
     have:=hP.1.d
     rw[hund]at this
     rcases this with⟨_,h9⟩ | ⟨f,fa,fb,d,cap,h9,_⟩
     ·exact h9
     ·simp[aJ]at h9
    obtain⟨v,r1,r2⟩:=gB (P:=P) R ht hres z1
    refine⟨rfl,?_⟩
    rw[hds]
    exact⟨v,r1,ρ,Pl.le_refl _,R,.inl ⟨v,rfl,by rw[z2]; exact r2⟩⟩
   ·rw[q1,isP]at hu2; simp at hu2
  | false=>
   rw[hu2]at h
   rcases hst with⟨hP,rfl⟩ | ⟨uv,⟨x,q1,q2,q3⟩,rfl⟩
   ·rw[hP.2]at hu2; simp[isU,aJ]at hu2
   ·cases raw with
    | false=>simp[eN,aI,be,fi,bF]at h
    | true=>
     simp only[cond_true,aI,be,fi,bF,aK,e12,sJ,pJ]at h
     obtain⟨rfl,rfl,rfl⟩:=h
     have hds:a.defers=[]:=by
      rcases q3 with⟨h9,_⟩ | hg
      ·exact h9
      ·have:=hg.d
       rw[hund]at this
       rcases this with⟨_,h9⟩ | ⟨f,fa,fb,d,cap,h9,_⟩
       ·exact h9
       ·simp[aJ]at h9
     refine⟨rfl,?_⟩
     rw[hds]
     exact⟨ρ,Pl.le_refl _,R,.inr ⟨rfl,x,uv,by rw[aQ,if_pos rfl]; exact q1,rfl,q2⟩⟩
 | false=>
  rw[hu]at h
  have hnu:ev T (.t (n+1))≠aJ:=fun e=>by rw[e]at hu; simp[isU,aJ]at hu
  have hGT:GT ρ n T a:=by
   rcases hst with⟨hP,_⟩ | ⟨uv,⟨x,q1,q2,⟨_,q3⟩ | q3⟩,_⟩
   ·exact hP.1
   ·exact (hnu q3).elim
   ·exact q3
  obtain⟨U,hG,ht⟩:=hGT.t
  obtain⟨f,fa,fb,d,cap,d1,d2,d3,d4,d5⟩:∃f a' b d cap,ev T (.t (n+1))=.func (.func f) a' b/\a.defers=[d]/\d.target=.fn (.func f) cap/\ah ρ b cap.toList/\ah ρ a' d.args.toList:=by
   rcases hGT.d with⟨h9,_⟩ | h9
   ·exact (hnu h9).elim
   ·exact h9
  have rest:∀{T5:Tr af} {H5:ae} {e5:oD},GE n T5 U->aI tb call k (B5 n res) T5 H5=some (e5,T',H')->e5=.ret/\∀(ρ':Pl) (w':World),ρ.le ρ'->Rel Prot w0 ρ' H5 w'->Leaves P fc a.tmps (IL Prot w0 raw ρ H' (ev T' (.t (n+3)))) [] .returning w':=by
   intro T5 H5 e5 hG5 h5
   obtain⟨rfl,rfl,xs,z1,z2⟩:=Ao hG5 hrT h5
   refine⟨rfl,fun ρ' w' hle R'=>?_⟩
   obtain⟨v,r1,r2⟩:=gB (P:=P) R' (ht.mono hle) hres z1
   exact⟨v,r1,ρ',hle,R',.inl ⟨v,rfl,by rw[z2]; exact r2⟩⟩
  rcases df with _ | ⟨G,kk,_ | _⟩
  ·simp[eN,aI,be,fi,bF]at h
  ·skip
   simp only[B9]at hdf
   simp only[aI]at h
   rw[bu,bJ]at h
   simp only[bF,eC,jj,vv,HH,be,aK,e1,e11]at h
   cases hu2:isU (ev T (.t n)) with
   | false=>rw[hu2]at h; simp[eN,aI,be,fi,bF]at h
   | true=>
    rw[hu2]at h
    simp only at h
    rw[ek]at h
    cases hs:be tb call (sy n G kk) ((T.set (n+2) (.bool false)).set (n+2) (.bool true)) H with
    | none=>rw[hs]at h; simp at h
    | some p=>
     obtain⟨T4,H4⟩:=p
     rw[hs]at h
     obtain⟨l,c1,c2,rfl,c4,c5⟩:=vX hs
     have c1':ev T (.t (n+1))=.func (.func G) [] l:=by rw[<- c1,aQ,if_neg om,aQ,if_neg om]
     rw[c1']at d1
     simp only[af.func.injEq,Fn.func.injEq]at d1
     obtain⟨rfl,rfl,rfl⟩:=d1
     simp only at h
     rw[bu,bJ]at h
     simp only[bF,c4]at h
     cases hb:tb (3*bI+G) with
     | false=>rw[hb]at h; simp at h
     | true=>
      rw[hb]at h
      simp only[cond_true]at h
      cases hcl:call (3*bI+G) l H4 with
      | none=>rw[hcl]at h; simp at h
      | some q=>
       obtain⟨v,H5⟩:=q
       rw[hcl]at h
       simp only[aK,be]at h
       have hG4:GE n T4 U:=⟨fun t ht'=>by rw[c5 t om om,aQ,if_neg om,aQ,if_neg om]; exact hG.1 t ht',hG.2⟩
       obtain⟨rfl,hrest⟩:=rest hG4 h
       refine⟨rfl,?_⟩
       have hur:u=.returning:=by
        rcases hst with⟨_,h9⟩ | ⟨uv,⟨x,q1,_⟩,_⟩
        ·exact h9
        ·rw[q1,isP]at hu2; simp at hu2
       subst hur
       simp only[ah]at d5
       rw[d2]
       refine⟨by simp,.func G,cap,G,d.args++cap,d3,?_,?_⟩
       ·rw[d3]; exact ei (hbD G hdf hb) _
       ·refine (hcD G l H4 v H5 hdf hcl Prot w0 ρ w (d.args++cap) R (by simpa[d5] using d4)).mono ?_
        rintro e' u' w' ⟨rfl,ρ',y,q1,rfl,q2⟩
        exact hrest ρ' w' q1 q2
  ·skip
   simp only[B9,NC]at hdf
   obtain⟨hG1,hk1⟩:=hdf
   have hk:=NG hk1
   simp only[aI]at h
   rw[bu,bJ]at h
   simp only[bF,eC,jj,vv,e1]at h
   cases hun:HD [ev T (.t n)] with
   | none=>rw[hun]at h; simp at h
   | some x=>
    rw[hun]at h
    simp only[aK]at h
    rw[ek]at h
    cases hs:be tb call (sy n G kk) ((T.set (n+2) (.bool false)).set (n+3) x) H with
    | none=>rw[hs]at h; simp at h
    | some p=>
     obtain⟨T4,H4⟩:=p
     rw[hs]at h
     obtain⟨l,c1,c2,rfl,c4,c5⟩:=vX hs
     have c1':ev T (.t (n+1))=.func (.func G) [] l:=by rw[<- c1,aQ,if_neg om,aQ,if_neg om]
     have c3:ev T4 (.t (n+3))=x:=by rw[c5 (n+3) om om,aQ,if_pos rfl]
     rw[c1']at d1
     simp only[af.func.injEq,Fn.func.injEq]at d1
     obtain⟨rfl,rfl,rfl⟩:=d1
     have evapp:∀(m:List bb),eC T4 (m++[.t (n+3)])=eC T4 m++[x]:=by
      intro m
      induction m with
      | nil=>simp only[List.nil_append,eC,c3]
      | cons y m ih=>simp only[List.cons_append,eC,ih]
     simp only at h
     rw[bu,bJ]at h
     simp only[bF,evapp,c4]at h
     cases hb:tb (2*bI+G) with
     | false=>rw[hb]at h; simp at h
     | true=>
      rw[hb]at h
      simp only[cond_true]at h
      cases hcl:call (2*bI+G) (l++[x]) H4 with
      | none=>rw[hcl]at h; simp at h
      | some q=>
       obtain⟨v,H5⟩:=q
       rw[hcl]at h
       simp only[aK,be]at h
       have hG4:GE n T4 U:=⟨fun t ht'=>by rw[c5 t om om,aQ,if_neg om,aQ,if_neg om]; exact hG.1 t ht',hG.2⟩
       obtain⟨rfl,hrest⟩:=rest hG4 h
       refine⟨rfl,?_⟩
       have hx:∃xv,ag ρ x xv/\J6 u xv/\u≠.run:=by
        rcases hst with⟨hP,rfl⟩ | ⟨uv,⟨x',q1,q2,_⟩,rfl⟩
        ·rw[hP.2]at hun
         simp only[aJ,HD,sJ]at hun
         subst hun
         exact⟨.nilIface,rfl,.inl ⟨rfl,rfl⟩,by simp⟩
        ·rw[q1]at hun
         simp only[ju,HD,sJ]at hun
         subst hun
         exact⟨uv,q2,.inr rfl,by simp⟩
       obtain⟨xv,x1,x2,x3⟩:=hx
       simp only[ah]at d5
       rw[d2]
       refine⟨x3,.func G,cap,G,d.args++cap,d3,?_,?_⟩
       ·rw[d3]; exact ei (hbR G hG1 hb) _
       ·refine (hcR G l x H4 v H5 hG1 om hcl Prot w0 ρ w (d.args++cap) xv u R (by simpa[d5] using d4) x1 x2).mono ?_
        rintro e' u' w' ⟨hu',ρ',y,q1,rfl,q2⟩
        show Leaves P fc a.tmps _ [] (settle u') w'
        rw[hu']
        exact hrest ρ' w' q1 q2
end
end Go.Abs
namespace Go.Abs
section
variable (P:Program)
def yx(md:HK)(raw:Bool)(f:FuncId):Option bW:=match P.funcs[f]? with
 | some fn=>match fn.body with
  | some c => bif fn.name == "runtime.NumGoroutine" then none else
   match dd P fn.ntmps md.ps c,mS P fn.results.toList with
   | some b,some r=>bif qH fn.ntmps r&&B9 P md.df then some ⟨fn.ntmps,.seq (.block PB b) (uK fn.ntmps r raw md.df),[.t (fn.ntmps+3)]⟩ else none
   | _,_=>none
  | none=>none
 | none=>none
def lq:Code->Option (Array Oper×Nat×List Oper×Code)
 | .seq (.region _ ops false) rest=>match ops.toList with
  | o::os=>match o.op,o.dst,o.guard with
   | .call c,some d,none=>match c.callee with
    | .builtin .recover=>some (ops,d,os,rest)
    | _=>none
   | _,_,_=>none
  | []=>none
 | _=>none
def tu(n k d:Nat):List aj:=[⟨some n,.mv (.t k),none⟩,⟨some k,.mv (.c aJ),none⟩,⟨some d,.mv (.t n),none⟩,⟨some n,.mv (.c aJ),none⟩]
def EV(g:FuncId):Option bW:=match P.funcs[g]? with
 | some fn=>match fn.body with
  | some c => bif fn.name == "runtime.NumGoroutine" || !(Nat.beq fn.results.size 0) then none else
   match lq c with
   | some (ops,d,os,rest)=>match ck P fn.ntmps ops os,cY P fn.ntmps rest with
    | some l,some r=>bif Nat.blt d fn.ntmps&&Nat.ble (kp P g) d then some ⟨fn.ntmps,.seq (.reg (tu fn.ntmps (kp P g) d)) (.seq (.reg l) r),[]⟩ else none
    | _,_=>none
   | none=>none
  | none=>none
 | none=>none
def vP(md:Option HK)(i:Nat):Option bW:=
 bif Nat.blt i bI then (match md with | none=>FX P i | some md=>yx P md false i)
 else bif Nat.blt i (2*bI) then (match md with | some md=>yx P md true (i-bI) | none=>none)
 else bif Nat.blt i (3*bI) then EV P (i-2*bI)
 else bif Nat.blt i (4*bI) then FX P (i-3*bI) else none
def Bc(tab:Tr bW):Prop:=∀f fn,tab.get f=some fn->∃md,vP P md f=some fn
end
section
variable {P:Program} {Prot:Gh} {w0:World} {ρ:Pl} {H H':ae} {w:World}
theorem dY(a b:Nat):Nat.blt a b=decide (a<b):=by
 cases h:Nat.blt a b with
 | true=>exact (decide_eq_true (dF h)).symm
 | false=>exact (decide_eq_false fun q=>by rw[show Nat.blt a b=true from NB q]at h; simp at h).symm
theorem EK{md:Option HK}{f:Nat}(hf:Nat.blt f bI=true){fn:bW}(h:vP P md f=some fn):FX P f=some fn∨∃m,yx P m false f=some fn:=by
 unfold vP at h
 rw[hf]at h
 simp only[cond_true]at h
 cases md with
 | none=>exact .inl h
 | some m=>exact .inr ⟨m,h⟩
theorem Iw{md:Option HK}{f:Nat}(hf:Nat.blt f bI=true){fn:bW}(h:vP P md (bI+f)=some fn):∃m,yx P m true f=some fn:=by
 have hlt:=dF hf
 unfold vP at h
 have h1:Nat.blt (bI+f) bI=false:=by rw[dY]; exact decide_eq_false om
 have h2:Nat.blt (bI+f) (2*bI)=true:=by rw[dY]; exact decide_eq_true om
 rw[h1,h2]at h
 simp only[cond_true,cond_false,Nat.add_sub_cancel_left]at h
 cases md with
 | none=>simp at h
 | some m=>exact⟨m,h⟩
theorem Iv{md:Option HK}{f:Nat}(hf:Nat.blt f bI=true){fn:bW}(h:vP P md (2*bI+f)=some fn):EV P f=some fn:=by
 have hlt:=dF hf
 unfold vP at h
 have h1:Nat.blt (2*bI+f) bI=false:=by rw[dY]; exact decide_eq_false om
 have h2:Nat.blt (2*bI+f) (2*bI)=false:=by rw[dY]; exact decide_eq_false om
 have h3:Nat.blt (2*bI+f) (3*bI)=true:=by rw[dY]; exact decide_eq_true om
 rw[h1,h2,h3]at h
 simpa only [cond_true,cond_false,Nat.add_sub_cancel_left] using h
theorem Iu{md:Option HK}{f:Nat}(hf:Nat.blt f bI=true){fn:bW}(h:vP P md (3*bI+f)=some fn):FX P f=some fn:=by
 have hlt:=dF hf
 unfold vP at h
 have h1:Nat.blt (3*bI+f) bI=false:=by rw[dY]; exact decide_eq_false om
 have h2:Nat.blt (3*bI+f) (2*bI)=false:=by rw[dY]; exact decide_eq_false om
 have h3:Nat.blt (3*bI+f) (3*bI)=false:=by rw[dY]; exact decide_eq_false om
 have h4:Nat.blt (3*bI+f) (4*bI)=true:=by rw[dY]; exact decide_eq_true om
 rw[h1,h2,h3,h4]at h
 simpa only [cond_true,cond_false,Nat.add_sub_cancel_left] using h
theorem j9 {md : HK} {raw : Bool} {f : FuncId} {fn : bW} (h : yx P md raw f = some fn) : ∃ fc c b r, P.funcs[f]? = some fc ∧ fc.body = some c ∧ (fc.name == "runtime.NumGoroutine") = false ∧ dd P fc.ntmps md.ps c = some b ∧ mS P fc.results.toList = some r ∧
  qH fc.ntmps r=true/\B9 P md.df=true/\fn=⟨fc.ntmps,.seq (.block PB b) (uK fc.ntmps r raw md.df),[.t (fc.ntmps+3)]⟩:=by
 unfold yx at h
 split at h
 ·rename_i fc hf
  split at h
  ·rename_i c hb
   cases hn : (fc.name == "runtime.NumGoroutine") with
   | true=>rw[hn]at h; simp at h
   | false=>
    rw[hn]at h
    simp only[cond_false]at h
    split at h
    ·rename_i b r h1 h2
     cases h3:qH fc.ntmps r&&B9 P md.df with
     | false=>rw[h3]at h; simp at h
     | true=>
      rw[h3]at h
      simp only[cond_true,sJ]at h
      simp only[NC]at h3
      exact⟨fc,c,b,r,hf,hb,hn,h1,h2,h3.1,h3.2,h.symm⟩
    ·simp at h
  ·simp at h
 ·simp at h
theorem qI{c:Code}{ops:Array Oper}{d:Nat}{os:List Oper}{rest:Code}(h:lq c=some (ops,d,os,rest)):∃i o args ats,c=.seq (.region i ops false) rest/\ops.toList=o::os/\o.op=.call ⟨.builtin .recover,args,ats⟩/\o.dst=some d/\o.guard=none:=by
 unfold lq at h
 split at h
 ·rename_i i ops' rest'
  split at h
  ·rename_i o os' ho
   split at h
   ·rename_i c' d' h1 h2 h3
    split at h
    ·rename_i hcal
     simp only[sJ,pJ]at h
     obtain⟨rfl,rfl,rfl,rfl⟩:=h
     obtain⟨cal,args,ats⟩:=c'
     simp only at hcal
     subst hcal
     exact⟨i,o,args,ats,rfl,ho,h1,h2,h3⟩
    ·simp at h
   ·simp at h
  ·simp at h
 ·simp at h
theorem sD {g : FuncId} {fn : bW} (h : EV P g = some fn) : ∃ fc c ops d os rest l r, P.funcs[g]? = some fc ∧ fc.body = some c ∧ (fc.name == "runtime.NumGoroutine") = false ∧ fc.results = #[] ∧ lq c = some (ops, d, os, rest) ∧ ck P fc.ntmps ops os = some l ∧ cY P fc.ntmps rest = some r ∧
  d<fc.ntmps/\kp P g<=d/\fn=⟨fc.ntmps,.seq (.reg (tu fc.ntmps (kp P g) d)) (.seq (.reg l) r),[]⟩:=by
 unfold EV at h
 split at h
 ·rename_i fc hf
  split at h
  ·rename_i c hb
   cases hn : (fc.name == "runtime.NumGoroutine" || !(Nat.beq fc.results.size 0)) with
   | true=>rw[hn]at h; simp at h
   | false=>
    rw[hn]at h
    simp only[Bool.or_eq_false_iff,Bool.not_eq_false']at hn
    simp only[cond_false]at h
    split at h
    ·rename_i ops d os rest hsp
     split at h
     ·rename_i l r h1 h2
      cases h3:Nat.blt d fc.ntmps&&Nat.ble (kp P g) d with
      | false=>rw[h3]at h; simp at h
      | true=>
       rw[h3]at h
       simp only[cond_true,sJ]at h
       simp only[NC]at h3
       exact⟨fc,c,ops,d,os,rest,l,r,hf,hb,hn.1,Array.eq_empty_of_size_eq_zero (NG hn.2),hsp,h1,h2,dF h3.1,NF h3.2,h.symm⟩
     ·simp at h
    ·simp at h
  ·simp at h
 ·simp at h
theorem iY {f : Nat} (hf : Nat.blt f bI = true) {fc : Func} {c : Code} (h1 : P.funcs[f]? = some fc) (h2 : fc.body = some c) (h3 : (fc.name == "runtime.NumGoroutine") = false) : bc P f = true := by
 simp[bc,hf,h1,h2,h3]
structure Bf(P:Program)(call:FuncId->List af->ae->Option (af×ae)):Prop where
 ok:gk P call
 pan:wQ P call
 dfd:IP P call
 rcv:IO P call
structure HJ(P:Program)(tb:FuncId->Bool):Prop where
 h0:∀f,Nat.blt f bI=true->tb f=true->bc P f=true
 h1:∀f,Nat.blt f bI=true->tb (bI+f)=true->bc P f=true
 h2:∀f,Nat.blt f bI=true->tb (2*bI+f)=true->bc P f=true
 h3:∀f,Nat.blt f bI=true->tb (3*bI+f)=true->bc P f=true
theorem Ex(hfol:P.follows .mixedOrders=true){tb:FuncId->Bool}(hb:HJ P tb){call:FuncId->List af->ae->Option (af×ae)}(hc:Bf P call){k:Nat}{md:HK}{raw:Bool}{f:FuncId}{fn:bW}(hfn:yx P md raw f=some fn)
  {args:List af} (hlen:args.length<=fn.nt) {e:oD} {T:Tr af} {H1:ae} (hx:aI tb call k fn.body (cp args 0 .e) H=some (e,T,H1)) (hne:∀i,e≠.exit i) {xs:List af} (hxs:gt T H1 fn.res=some xs) {vs:Array Value} (R:Rel Prot w0 ρ H w) (hv:ah ρ args vs.toList) :
  Calls P f vs w (IL Prot w0 raw ρ H1 (gH xs)):=by
 obtain⟨fc,c,b,r,h1,h2,h3,h4,h5,h6,h7,rfl⟩:=j9 hfn
 simp only at hlen
 have hst:=jT (ρ:=ρ) hv hlen
 have hgh:∀t,fc.ntmps<=t->ev (cp args 0 .e) (.t t)=aJ:=fun t ht=>by
  have:=hst.at_ t
  have hsz:=hst.size
  rw[Array.getD_eq_getD_getElem?,Array.getElem?_eq_none om]at this
  exact CY this
 have hP:oC ρ fc.ntmps (cp args 0 .e) { tmps:=vs++Array.replicate (fc.ntmps-vs.size) undef,defers:=[] }:=
  ⟨⟨⟨_,⟨fun _ _=>rfl,hgh⟩,hst⟩,.inl ⟨hgh _ om,rfl⟩⟩,hgh _ rL⟩
 simp only[aI]at hx
 refine calls_of_wp_defers h1 h2 ?_
 cases hb1:aI tb call k b (cp args 0 .e) H with
 | none=>rw[hb1]at hx; simp at hx
 | some q=>
  obtain⟨e1,T1,H2⟩:=q
  rw[hb1]at hx
  have hsim:=Cb hfol hb.h0 hb.h1 hc.ok hc.pan c b h4 ρ _ _ _ _ e1 _ w R hP hb1
  have hval:∀v,ev T (.t (fc.ntmps+3))=v->gH xs=v:=fun v h9=>by
   simp only[gt,sJ]at hxs
   subst hxs
   exact h9
  have hout:∀{ρ':Pl} {a':Act} {w':World} {u:FrameMode},ρ.le ρ'->Rel Prot w0 ρ' H2 w'->((oC ρ' fc.ntmps T1 a'/\u=.returning)∨∃uv,J7 ρ' fc.ntmps T1 a' uv/\u=.panicking [{ v:=uv,recovered:=false }]) ->
    aI tb call k (uK fc.ntmps r raw md.df) T1 H2=some (e,T,H1)->Leaves P fc a'.tmps (IL Prot w0 raw ρ H1 (gH xs)) a'.defers u w':=by
   intro ρ' a' w' u hle R' hs' ht'
   obtain⟨_,hL⟩:=Dd (fc:=fc) hc.dfd hc.rcv hb.h3 hb.h2 h5 h6 h7 ht' R' hs'
   rw[hval _ rfl]
   have:∀(ds:List Deferred) (u:FrameMode) (w:World),Leaves P fc a'.tmps (IL Prot w0 raw ρ' H1 (ev T (.t (fc.ntmps+3)))) ds u w->Leaves P fc a'.tmps (IL Prot w0 raw ρ H1 (ev T (.t (fc.ntmps+3)))) ds u w:=by
    have hO:∀e w',IL Prot w0 raw ρ' H1 (ev T (.t (fc.ntmps+3))) e w'->IL Prot w0 raw ρ H1 (ev T (.t (fc.ntmps+3))) e w':=fun e w' ⟨ρ2,q1,q2⟩=>⟨ρ2,Pl.le_trans hle q1,q2⟩
    intro ds
    induction ds with
    | nil=>
     intro u w hL
     cases u with
     | run=>exact hL
     | returning=>obtain⟨v,q1,q2⟩:=hL; exact⟨v,q1,hO _ _ q2⟩
     | panicking ch=>exact hO _ _ hL
    | cons d ds ih=>
     intro u w hL
     obtain⟨q1,fv,cap,g,ar,q2,q3,q4⟩:=hL
     refine⟨q1,fv,cap,g,ar,q2,q3,q4.mono fun e' u' w' hh=>?_⟩
     cases e' with
     | returned v=>exact ih _ _ hh
     | panicked ch=>exact ih _ _ hh
     | outgrown=>exact hO _ _ hh
   exact this _ _ _ hL
  refine wp_mono hsim ?_
  rintro e' a' w' ⟨ρ',q1,q2,q3⟩
  cases e1 with
  | normal=>
   obtain⟨rfl,z⟩:=q3
   exact hout q1 q2 (.inl ⟨z,rfl⟩) hx
  | ret=>exact q3.elim
  | exit id=>
   simp only at hx
   cases hid:Nat.beq id PB with
   | false=>
    rw[hid]at hx
    simp only[cond_false,sJ,pJ]at hx
    exact (hne id hx.1.symm).elim
   | true=>
    rw[hid]at hx
    simp only[cond_true]at hx
    have:=NG hid
    rcases q3 with⟨z1,_⟩ | ⟨_,⟨rfl,z2⟩ | ⟨u,rfl,z2⟩⟩
    ·exact (z1 this).elim
    ·exact hout q1 q2 (.inl ⟨z2,rfl⟩) hx
    ·exact hout q1 q2 (.inr ⟨u,z2,rfl⟩) hx
theorem Iq(hfol:P.follows .mixedOrders=true){tb:FuncId->Bool}(hb:HJ P tb){call:FuncId->List af->ae->Option (af×ae)}(hc:Bf P call){k:Nat}{f:FuncId}{fn:bW}(hfn:FX P f=some fn)
  {args:List af} (hlen:args.length<=fn.nt) {e:oD} {T:Tr af} {H1:ae} (hx:aI tb call k fn.body (cp args 0 .e) H=some (e,T,H1)) (hne:∀i,e≠.exit i) {xs:List af} (hxs:gt T H1 fn.res=some xs) {vs:Array Value} (R:Rel Prot w0 ρ H w) (hv:ah ρ args vs.toList) :
  ∃fc c,P.funcs[f]?=some fc/\fc.body=some c/\c.wp P (bodyPost P fc fun e w'=>∃ρ' u,ρ.le ρ'/\e=.returned u/\Rel Prot w0 ρ' H1 w'/\ag ρ' (gH xs) u) { tmps:=vs++Array.replicate (fc.ntmps-vs.size) undef,defers:=[] } w:=by
 obtain⟨fc,c,h1,h2,h3,h4,h5,h6⟩:=lW hfn
 refine⟨fc,c,h1,h2,?_⟩
 have hst:=jT (ρ:=ρ) hv hlen
 rw[h4]
 refine wp_mono (pQ hfol (Prot:=Prot) (w0:=w0) (ds:=[]) hb.h0 hc.ok _ _ h5 ρ _ T H H1 e _ w R hst rfl hx) ?_
 rintro e' a' w' ⟨he,ρ',hl,R',ht',hd'⟩
 obtain⟨u,r1,r2⟩:=gB (P:=P) R' ht' h6 hxs
 cases e with
 | normal=>simp only at he; subst he; exact⟨hd',u,r1,ρ',u,hl,rfl,R',r2⟩
 | exit id=>exact (hne _ rfl).elim
 | ret=>simp only at he; subst he; exact⟨hd',u,r1,ρ',u,hl,rfl,R',r2⟩
theorem jR{ops:Array Oper}{cs:List Frame}{Q:Exit->Act->List Frame->World->Prop}(hno:¬LetsOut fun e a w=>Q e a cs w):∀(l:List Nat) (a:Act) (w:World),wpOps P ops (fun e a w=>Q e a cs w) l a w->wpOpsS P ops Q l a cs w
 | [],a,w,h=>h
 | i::rest,a,w,h=>by
  simp only[wpOps]at h
  simp only[wpOpsS]
  cases ho:ops[i]? with
  | none=>rw[ho]at h; exact jR hno rest a w h
  | some o=>
   rw[ho]at h
   simp only at h ⊢
   split at h
   ·rename_i hw
    rw[if_pos hw]
    rcases h with h | ⟨_,h⟩
    ·have h':=Oper.wp_mono (K':=fun a' w'=>wpOpsS P ops Q rest a' cs w') (fun a' w' hh=>jR hno rest a' w' hh) h
     unfold Oper.wp at h'
     generalize (execOp a.eval o).run P w=r at h'
     split
     ·simp only[Oper.upon]at h'
     ·exact h'
    ·exact (hno h).elim
   ·rename_i hw
    rw[if_neg hw]
    exact jR hno rest _ w h
end
end Go.Abs
namespace Go.Abs
section
variable {P:Program} {Prot:Gh} {w0:World} {ρ:Pl} {H H':ae} {w:World}
theorem xq{tb:FuncId->Bool}{call:FuncId->List af->ae->Option (af×ae)}{n k d:Nat}(hd:d<n)(hk:k<=d)(T:Tr af)(H:ae):∃T1,be tb call (tu n k d) T H=some (T1,H) /\
  ∀t,ev T1 (.t t)=if t=n then aJ else if t=d then ev T (.t k) else if t=k then aJ else ev T (.t t):=by
 refine⟨_,by simp only[tu,be,fi,cond_true,bF,aK]; rfl,fun t=>?_⟩
 by_cases h1:t=n
 ·rw[aQ,if_pos h1,if_pos h1]; rfl
 ·rw[aQ,if_neg h1,if_neg h1]
  by_cases h2:t=d
  ·rw[aQ,if_pos h2,if_pos h2,aQ,if_neg om,aQ,if_pos rfl]
  ·rw[aQ,if_neg h2,if_neg h2]
   by_cases h3:t=k
   ·rw[aQ,if_pos h3,if_pos h3]; rfl
   ·rw[aQ,if_neg h3,if_neg h3,aQ,if_neg h1]
theorem Jy(hfol:P.follows .mixedOrders=true){tb:FuncId->Bool}(hb:HJ P tb){call:FuncId->List af->ae->Option (af×ae)}(hc:Bf P call){k:Nat}{G:FuncId}{fn:bW}(hfn:EV P G=some fn)
  {args:List af} {x:af} (hlen:args.length=kp P G) {e:oD} {T:Tr af} {H1:ae} (hx:aI tb call k fn.body (cp (args++[x]) 0 .e) H=some (e,T,H1)) (hne:∀i,e≠.exit i) {vs:Array Value} {xv:Value} {u:FrameMode} (R:Rel Prot w0 ρ H w) (hv:ah ρ args vs.toList) (hxv:ag ρ x xv) (hu:J6 u xv) :
  CallsD P G vs u w fun e u' w'=>settle u'=.returning/\∃ρ' y,ρ.le ρ'/\e=.returned y/\Rel Prot w0 ρ' H1 w':=by
 obtain⟨fc,c,ops,d,os,rest,l,r,h1,h2,h3,h4,h5,h6,h7,hd,hkd,rfl⟩:=sD hfn
 obtain⟨i0,o,oa,ots,rfl,hops,hop,hod,hog⟩:=qI h5
 have hvl:args.length=vs.size:=by have:=ah.len hv; simpa using this
 obtain⟨T1,t1,t2⟩:=xq (tb:=tb) (call:=call) hd hkd (cp (args++[x]) 0 .e) H
 simp only[aI,t1]at hx
 cases hl:be tb call l T1 H with
 | none=>rw[hl]at hx; simp at hx
 | some q=>
  obtain⟨T2,H2⟩:=q
  rw[hl]at hx
  simp only at hx
  have hst:=jT (ρ:=ρ) hv (show args.length<=fc.ntmps by omega)
  have hput:aH ρ fc.ntmps T1 ((({ tmps:=vs++Array.replicate (fc.ntmps-vs.size) undef,defers:=[] }:Act).put (some d) xv).tmps):=by
   have hp:=bn (a:={ tmps:=vs++Array.replicate (fc.ntmps-vs.size) undef,defers:=[] }) (n:=fc.ntmps) hst (dst:=some d) (NB hd) hxv
   refine⟨hp.size,fun t=>?_⟩
   have hat:=hp.at_ t
   have e:ev T1 (.t t)=ev (aK (cp args 0 .e) (some d) x) (.t t):=by
    rw[t2 t,lU,l7 args vs.toList 0 .e hv (fun _ _=>rfl) t]
    have hvx:ah ρ (args++[x]) (vs.push xv).toList:=by
     rw[Array.toList_push]
     exact ah.append hv (by simp only[ah]; exact⟨_,_,rfl,hxv,rfl⟩)
    rw[l7 (args++[x]) _ 0 .e hvx (fun _ _=>rfl) t,l7 (args++[x]) _ 0 .e hvx (fun _ _=>rfl) (kp P G)]
    simp only[Nat.not_lt_zero,if_false,Nat.sub_zero,sJ]
    by_cases q1:t=fc.ntmps
    ·subst q1
     rw[if_pos rfl,if_neg om,NQ om]
    ·rw[if_neg q1]
     by_cases q2:t=d
     ·subst q2
      rw[if_pos rfl,if_pos rfl,<- hlen,NP rL,Nat.sub_self]
      rfl
     ·rw[if_neg q2,if_neg (show ¬d=t from fun q=>q2 q.symm)]
      by_cases q3:t=kp P G
      ·rw[if_pos q3,NQ om]
      ·rw[if_neg q3]
       by_cases q4:t<args.length
       ·rw[NO q4]
       ·rw[NQ (by simp; omega),NQ om]
   rw[e]
   exact hat
  refine callsD_of_wpS h1 h2 fun c₀ cs hcu=>?_
  refine wpS_seq (wpS_region ?_)
  have hsz:ops.size=os.length+1:=by have:=congrArg List.length hops; simpa using this
  have ho:ops[0]?=some o:=by
   have:ops.toList[0]?=some o:=by rw[hops]; rfl
   simpa using this
  have hnx:∀j,os[j]?=ops[1+j]?:=fun j=>by
   have:ops.toList[1+j]?=os[j]?:=by rw[hops,show 1+j=j+1 by omega,NJ]
   rw[<- this]; simp
  rw[List.range_eq_range',hsz,List.range'_succ]
  simp only[wpOpsS,ho]
  have hw:Region.wanted o (yielded ops (vs++Array.replicate (fc.ntmps-vs.size) undef))=true:=by simp[Region.wanted,hog]
  rw[if_pos hw]
  have hrun:∀a:Act,(execOp a.eval o).run P w=.ok .recover w:=fun a=>by
   obtain⟨dst,op,type,pos,after,guard⟩:=o
   simp only at hop
   subst hop
   rfl
  rw[hrun]
  simp only
  have key:∀(u':FrameMode),settle u'=.returning->wpOpsS P ops (Exit.thenS (rest.wpS P (bodyPostS P fc c₀ cs fun e u' w'=>settle u'=.returning/\∃ρ' y,ρ.le ρ'/\e=.returned y/\Rel Prot w0 ρ' H1 w')) (bodyPostS P fc c₀ cs fun e u' w'=>settle u'=.returning/\∃ρ' y,ρ.le ρ'/\e=.returned y/\Rel Prot w0 ρ' H1 w')) (List.range' (0+1) os.length)
    (({ tmps:=vs++Array.replicate (fc.ntmps-vs.size) undef,defers:=[] }:Act).put o.dst xv) ({ c₀ with mode:=u' }::cs) w:=by
   intro u' hset
   refine jR ?_ _ _ _ ?_
   ·rintro ⟨a,w',u2,_,ρ',y,_,hh,_⟩
    simp at hh
   ·rw[hod]
    refine uU (Prot:=Prot) (w0:=w0) (ds:=[]) hb.h0 hc.ok os (0+1) l hnx h6 ρ ρ T1 T2 H H2 _ w (Pl.le_refl _) R hput rfl hl ?_
    rintro a' w' ⟨ρ',q1,q2,q3,q4⟩
    show rest.wpS P _ a' _ w'
    refine wpS_of_wp (wp_mono (pQ hfol (Prot:=Prot) (w0:=w0) (ds:=[]) hb.h0 hc.ok rest r h7 ρ' T2 T H2 H1 e a' w' q2 q3 q4 hx) ?_)
    rintro e' a2 w2 ⟨he,ρ2,z1,z2,z3,z4⟩
    have hfin:a2.defers=[]/\∃u2,({ c₀ with mode:=u' }::cs:List Frame)={ c₀ with mode:=u2 }::cs/\∃v,(results fc a2.tmps).run P w2=.ok v w2/\(settle u2=.returning/\∃ρ' y,ρ.le ρ'/\Ending.returned v=.returned y/\Rel Prot w0 ρ' H1 w2):=
     ⟨z4,u',rfl,.tuple #[],by simp[results,h4],hset,ρ2,.tuple #[],Pl.le_trans q1 z1,rfl,z2⟩
    cases e with
    | normal=>simp only at he; subst he; exact hfin
    | exit id=>exact (hne _ rfl).elim
    | ret=>simp only at he; subst he; exact hfin
  rcases hu with⟨rfl,rfl⟩ | rfl
  ·have hrec:recoverD (c₀::cs)=none:=by simp[recoverD,hcu]
   rw[hrec]
   have:=key .returning rfl
   rwa [show ({ c₀ with mode:=.returning }:Frame)=c₀ by rw[<- hcu]]at this
  ·have hrec:recoverD (c₀::cs)=some (xv,{ c₀ with mode:=.panicking [{ v:=xv,recovered:=true }] }::cs):=by simp[recoverD,hcu]
   rw[hrec]
   exact key _ rfl
theorem kg{N:go}{tab:Tr bW}{n:Nat}{f:FuncId}{args:List af}{v:af}(hi:N.is f=false)(h:cx N tab (n+1) f args H=some (v,H')) :
  ∃fn e T xs,tab.get f=some fn/\args.length<=fn.nt/\aI (uk N tab) (cx N tab n) n fn.body (cp args 0 .e) H=some (e,T,H')/\(∀i,e≠.exit i)/\gt T H' fn.res=some xs/\v=gH xs:=by
 simp only[cx,hi,cond_false]at h
 split at h
 ·rename_i fn hf
  cases hb:Nat.ble args.length fn.nt with
  | false=>rw[hb]at h; simp at h
  | true=>
   rw[hb]at h
   simp only[cond_true]at h
   split at h
   ·simp at h
   ·rename_i e T H1 hne hx
    split at h
    ·rename_i xs hxs
     simp only[sJ,pJ]at h
     obtain⟨rfl,rfl⟩:=h
     exact⟨fn,e,T,xs,hf,NF hb,hx,fun i q=>hne i q,hxs,rfl⟩
    ·simp at h
   ·simp at h
 ·simp at h
theorem Cq(hfol:P.follows .mixedOrders=true){N:go}(hN:wN P N){tab:Tr bW}(hT:Bc P tab):∀n,Bf P (cx N tab n):=by
 have hnat:∀(m f:Nat),0<m->N.is (m*bI+f)=false:=fun m f hm=>by
  cases hi:N.is (m*bI+f) with
  | false=>rfl
  | true=>
   have:=hN.body _ hi
   simp only[bc,NC]at this
   have:=dF this.1
   have:bI<=m*bI:=Nat.le_mul_of_pos_left _ hm
   omega
 have hget:∀f,N.is f=false->uk N tab f=true->∃fn,tab.get f=some fn:=fun f hi h=>by
  unfold uk at h
  rw[hi]at h
  simp only[cond_false]at h
  split at h
  ·rename_i fn hf; exact⟨fn,hf⟩
  ·simp at h
 have e1:∀f:Nat,bI+f=1*bI+f:=fun f=>om
 have htb:HJ P (uk N tab):=by
  refine⟨fun f hf h=>?_,fun f hf h=>?_,fun f hf h=>?_,fun f hf h=>?_⟩
  ·cases hi:N.is f with
   | true=>exact hN.body f hi
   | false=>
    obtain⟨fn,hg⟩:=hget f hi h
    obtain⟨md,he⟩:=hT _ _ hg
    rcases EK hf he with h9 | ⟨m,h9⟩
    ·obtain⟨fc,c,q1,q2,q3,_⟩:=lW h9; exact iY hf q1 q2 q3
    ·obtain⟨fc,c,b,r,q1,q2,q3,_⟩:=j9 h9; exact iY hf q1 q2 q3
  ·obtain⟨fn,hg⟩:=hget _ (by rw[e1]; exact hnat 1 f om) h
   obtain⟨md,he⟩:=hT _ _ hg
   obtain⟨m,h9⟩:=Iw hf he
   obtain⟨fc,c,b,r,q1,q2,q3,_⟩:=j9 h9; exact iY hf q1 q2 q3
  ·obtain⟨fn,hg⟩:=hget _ (hnat 2 f om) h
   obtain⟨md,he⟩:=hT _ _ hg
   have h9:=Iv hf he
   obtain⟨fc,c,ops,d,os,rest,l,r,q1,q2,q3,_⟩:=sD h9; exact iY hf q1 q2 q3
  ·obtain⟨fn,hg⟩:=hget _ (hnat 3 f om) h
   obtain⟨md,he⟩:=hT _ _ hg
   have h9:=Iu hf he
   obtain⟨fc,c,q1,q2,q3,_⟩:=lW h9; exact iY hf q1 q2 q3
 intro n
 induction n with
 | zero=>
  refine⟨fun f args H v H' _ h=>by simp[cx]at h,fun f args H v H' _ h=>by simp[cx]at h,fun f args H v H' _ h=>by simp[cx]at h,fun f args x H v H' _ _ h=>by simp[cx]at h⟩
 | succ n ih=>
  refine⟨fun f args H v H' hf h Prot w0 ρ w vs R hv=>?_,fun f args H v H' hf h Prot w0 ρ w vs R hv=>?_,fun f args H v H' hf h Prot w0 ρ w vs R hv=>?_,fun f args x H v H' hf hlen h Prot w0 ρ w vs xv u R hv hxv hu=>?_⟩
  ·cases hi:N.is f with
   | true=>simp only[cx,hi,cond_true]at h; exact hN.run f args H v H' hf h Prot w0 ρ w vs R hv
   | false=>
    obtain⟨fn,e,T,xs,hg,hl,hx,hne,hxs,rfl⟩:=kg hi h
    obtain⟨md,he⟩:=hT _ _ hg
    rcases EK hf he with h9 | ⟨m,h9⟩
    ·obtain⟨fc,c,q1,q2,q3⟩:=Iq hfol htb ih h9 hl hx hne hxs R hv
     exact calls_of_wp q1 q2 q3
    ·refine (Ex hfol htb ih h9 hl hx hne hxs R hv).mono fun e' w' hr=>?_
     obtain⟨ρ',r1,r2,⟨y,rfl,r3⟩ | ⟨h8,_⟩⟩:=hr
     ·exact⟨ρ',y,r1,rfl,r2,r3⟩
     ·simp at h8
  ·obtain⟨fn,e,T,xs,hg,hl,hx,hne,hxs,rfl⟩:=kg (by rw[e1]; exact hnat 1 f om) h
   obtain⟨md,he⟩:=hT _ _ hg
   obtain⟨m,h9⟩:=Iw hf he
   refine (Ex hfol htb ih h9 hl hx hne hxs R hv).mono fun e' w' hr=>?_
   obtain⟨ρ',r1,r2,⟨y,rfl,r3⟩ | ⟨_,x,y,r3,rfl,r4⟩⟩:=hr
   ·exact⟨ρ',r1,r2,.inl ⟨y,rfl,r3⟩⟩
   ·exact⟨ρ',r1,r2,.inr ⟨x,y,r3,rfl,r4⟩⟩
  ·obtain⟨fn,e,T,xs,hg,hl,hx,hne,hxs,rfl⟩:=kg (hnat 3 f om) h
   obtain⟨md,he⟩:=hT _ _ hg
   obtain⟨fc,c,q1,q2,q3⟩:=Iq hfol htb ih (Iu hf he) hl hx hne hxs R hv
   refine (callsD_of_wp q1 q2 q3).mono ?_
   rintro e' u' w' ⟨rfl,ρ',y,r1,rfl,r2,_⟩
   exact⟨rfl,ρ',y,r1,rfl,r2⟩
  ·obtain⟨fn,e,T,xs,hg,hl,hx,hne,hxs,rfl⟩:=kg (hnat 2 f om) h
   obtain⟨md,he⟩:=hT _ _ hg
   exact Jy hfol htb ih (Iv hf he) hlen hx hne R hv hxv hu
theorem wI(hfol:P.follows .mixedOrders=true){N:go}(hN:wN P N){tab:Tr bW}(hT:Bc P tab)(n:Nat):gk P (cx N tab n):=(Cq hfol hN hT n).ok
end
end Go.Abs
namespace Go.Abs
section
variable {P:Program}
def H0:ae:=⟨0,.e⟩
theorem Rel.below{w0:World}{ρ:Pl}{H:ae}{w:World}(R:Rel ⟨fun c=>c<w0.heap.size,fun _=>False⟩ w0 ρ H w):RowKit.Below w0.heap.size w0 w:=
 ⟨R.os,R.tape,R.output,R.size,fun k hk=>(R.prot k hk).2⟩
end
end Go.Abs
namespace Go.Abs.S
open Go.Abs
abbrev bK:=Nat->af
def en(T:Tr af):bK:=fun i=>ev T (.t i)
def up(T:bK)(i:Nat)(v:af):bK:=fun j=>bif Nat.beq j i then v else T j
def gq(T:bK):Option Nat->af->bK
 | some d,v=>up T d v
 | none,_=>T
theorem EJ(T:Tr af)(i:Nat)(v:af):en (T.set i v)=up (en T) i v:=by
 funext j
 simp only[en,up,ev,Tr.get_set,dy]
 by_cases h:j=i
 ·rw[if_pos h,decide_eq_true h]; rfl
 ·rw[if_neg h,decide_eq_false h]; rfl
theorem yl(T:Tr af)(d:Option Nat)(v:af):en (aK T d v)=gq (en T) d v:=by
 cases d <;> simp only[aK,gq,EJ]
def sX(T:bK):bb->af
 | .t i=>T i
 | .c v=>v
 | .f id=>.func (.func id) [] []
def nu(T:bK):List bb->List af
 | []=>[]
 | x::r=>sX T x::nu T r
def mh(T:bK):Option bb->Option af
 | none=>none
 | some x=>some (sX T x)
def CA(T:bK):List (Nat×Nat×bb)->List (Nat×Nat×af)
 | []=>[]
 | (o,n,x)::r=>(o,n,sX T x)::CA T r
theorem ny(T:Tr af)(x:bb):sX (en T) x=ev T x:=by cases x <;> rfl
theorem tp(T:Tr af):∀l:List bb,nu (en T) l=eC T l
 | []=>rfl
 | x::r=>by simp only[nu,eC,ny,tp T r]
theorem I3(T:Tr af)(x:Option bb):mh (en T) x=vK T x:=by cases x <;> simp only[mh,vK,ny]
theorem Dr(T:Tr af):∀l:List (Nat×Nat×bb),CA (en T) l=wT T l
 | []=>rfl
 | (o,n,x)::r=>by simp only[CA,wT,ny,Dr T r]
abbrev Kd(b:Bool):af->Bool:=LD b
def sG(T:bK):Option (Nat×Bool)->Bool
 | none=>true
 | some (t,b)=>gV t b (T (gS t))
theorem Ds(T:Tr af)(g:Option (Nat×Bool)):sG (en T) g=fi T g:=by
 cases g with
 | none=>rfl
 | some p=>rfl
theorem Jx{K t:Nat}(h:t<K):Nat.ble K t=false:=by
 cases hb:Nat.ble K t with
 | false=>rfl
 | true=>have:=NF hb; omega
theorem KL{t:Nat}(h:Nat.ble SK t=false):gS t=t:=by unfold gS; rw[h]; rfl
theorem I6(T:bK){t:Nat}(h:Nat.ble SK t=false)(b:Bool):sG T (some (t,b))=Kd b (T t):=by
 simp only[sG,gV,KL h,h,cond_false]
theorem Id(T:bK){t:Nat}(h:t<1000000)(b:Bool):sG T (some (t,b))=Kd b (T t):=I6 T (Jx h) b
def cW{α:Type}(o:Option α)(K:α->Prop):Prop:=∃v,o=some v/\K v
theorem cE{α:Type}(x:α)(K:α->Prop):cW (some x) K=K x:=by simp[cW]
theorem cW.mono{α:Type}{o:Option α}{K K':α->Prop}(h:cW o K)(hk:∀v,K v->K' v):cW o K':=by
 obtain⟨v,h1,h2⟩:=h; exact⟨v,h1,hk v h2⟩
abbrev CS:=FuncId->List af->ae->(af->ae->Prop)->Prop
section
variable (C:CS)
def Bj(T:bK)(H:ae)(K:af->ae->Prop):gn->Prop
 | .mv x=>K (sX T x) H
 | .pick c a b=>∃b',sX T c=.bool b'/\K (bif b' then sX T a else sX T b) H
 | .new z=>K (ey H z).1 (ey H z).2
 | .box x=>K (ey H (sX T x).cells).1 (ey H (sX T x).cells).2
 | .build z ps=>cW (bQ z (CA T ps)) fun v=>K v H
 | .buildSl n z ps=>cW (bU n z H (CA T ps)) fun p=>K p.1 p.2
 | .load a n x=>cW (bg a n H (sX T x)) fun v=>K v H
 | .store n a x=>cW (bB n H (sX T a) (sX T x)) fun H'=>K aJ H'
 | .nilChk x=>cW (b6 (sX T x)) fun v=>K v H
 | .bin op x y=>cW (bV op (sX T x) (sX T y)) fun v=>K v H
 | .un op x=>cW (CC op (sX T x)) fun v=>K v H
 | .conv k x=>cW (nM k (sX T x)) fun v=>K v H
 | .convSB x=>cW (Kj H (sX T x)) fun p=>K p.1 p.2
 | .convBS x=>cW (Ct H (sX T x)) fun v=>K v H
 | .mkFunc fn a b=>K (.func fn (nu T a) (nu T b)) H
 | .mkIface t x=>K (.iface t (sX T x)) H
 | .mkSlice b z l c=>cW (gh b z H (sX T l) (sX T c)) fun p=>K p.1 p.2
 | .sl n x lo hi mx=>cW (FG n (sX T x) (mh T lo) (mh T hi) (mh T mx)) fun v=>K v H
 | .slStr x lo hi=>cW (eI (sX T x) (mh T lo) (mh T hi)) fun v=>K v H
 | .fieldA o x=>cW (gj o (sX T x)) fun v=>K v H
 | .field a n o x=>cW (kh a n o (sX T x)) fun v=>K v H
 | .idxA n x i=>cW (gi n (sX T x) (sX T i)) fun v=>K v H
 | .idxArr m n x i=>cW (gL m n (sX T x) (sX T i)) fun v=>K v H
 | .idx m n a x i=>cW (yK m n a (sX T x) (sX T i)) fun v=>K v H
 | .idxS x i=>cW (iC (sX T x) (sX T i)) fun v=>K v H
 | .extract i x=>cW (dl i (sX T x)) fun v=>K v H
 | .append n b s x=>cW (bD n b H (sX T s) (sX T x)) fun p=>K p.1 p.2
 | .len s x=>cW (fD s (sX T x)) fun v=>K v H
 | .call f args=>C f (nu T args) H K
 | .callv f args=>∃g a b,sX T f=.func (.func g) a b/\Nat.blt g bI=true/\C g (a++nu T args++b) H K
 | .pf f xs=>cW (jj f (nu T xs)) fun v=>K v H
 | .hf f xs=>cW (me f H (nu T xs)) fun p=>K p.1 p.2
 | .bad=>False
 | .claim b z s=>cW (qu H b z s) fun v=>K v H
 | .slA m n x lo hi mx=>cW (gW m n (sX T x) (mh T lo) (mh T hi) (mh T mx)) fun v=>K v H
def aU:List aj->bK->ae->(bK->ae->Prop)->Prop
 | [],T,H,K=>K T H
 | o::r,T,H,K=>bif sG T o.guard then Bj C T H (fun v H'=>aU r (gq T o.dst v) H' K) o.op else aU r (gq T o.dst aJ) H K
def dQ:List aj->bK->ae->(List (af×ae)->bK->ae->Prop)->Prop
 | [],T,H,K=>K [] T H
 | o::r,T,H,K=>bif sG T o.guard then Bj C T H (fun v H'=>dQ r (gq T o.dst v) H' fun ss=>K ((v,H')::ss)) o.op else dQ r (gq T o.dst aJ) H fun ss=>K ((aJ,H)::ss)
end
def Ly(T:bK)(H:ae):gn->Option af
 | .load a n x=>bg a n H (sX T x)
 | .claim b z s=>qu H b z s
 | _=>none
def wY(hs:List ae):List aj->List (List Nat)->List (af×ae)->bK->Prop
 | o::os,ps::pss,(v,_)::ss,T=>(∀p∈ps,∃Hp,hs[p]?=some Hp/\(sG T o.guard=true->∃u,Ly T Hp o.op=some u/\aeq u v=true))/\wY hs os pss ss (gq T o.dst v)
 | _,_,_,_=>True
def yO(C:CS)(l:List aj)(chk:List (List Nat))(T:bK)(H:ae)(K:bK->ae->Prop):Prop:=dQ C l T H fun ss T' H'=>wY (H::ss.map (·.2)) l chk ss T/\K T' H'
abbrev kV:=oD->bK->ae->Prop
def jC(id:Nat)(Q:kV):kV:=fun e T H=>match e with
 | .exit j=>bif Nat.beq j id then Q .normal T H else Q (.exit j) T H
 | e=>Q e T H
def jg(Q:kV)(K:bK->ae->Prop):kV:=fun e T H=>match e with
 | .normal=>K T H
 | e=>Q e T H
def wp(C:CS):bC->kV->bK->ae->Prop
 | .skip,Q,T,H=>Q .normal T H
 | .reg ops,Q,T,H=>aU C ops T H (Q .normal)
 | .draw ops chk,Q,T,H=>yO C (az H.next ops) chk T (bO H ops) (Q .normal)
 | .seq a b,Q,T,H=>wp C a (jg Q (wp C b Q)) T H
 | .cond c a b,Q,T,H=>∃v,sX T c=.bool v/\bif v then wp C a Q T H else wp C b Q T H
 | .block id c,Q,T,H=>wp C c (jC id Q) T H
 | .loop c,Q,T,H=>∃(I:Nat->bK->ae->Prop),(∃m,I m T H)/\∀m T H,I m T H->wp C c (jg Q fun T' H'=>∃m',m'<m/\I m' T' H') T H
 | .exit id,Q,T,H=>Q (.exit id) T H
 | .ret,Q,T,H=>Q .ret T H
section
variable {tb:FuncId->Bool}
def F5(c d:FuncId->List af->ae->Option (af×ae)):Prop:=∀f a H r,c f a H=some r->d f a H=some r
theorem F5.refl(c):F5 c c:=fun _ _ _ _ h=>h
theorem jc{c d}(h:F5 c d){o:aj}{T:Tr af}{H:ae}{r}(e:bt tb c o T H=some r):bt tb d o T H=some r:=by
 unfold bt at e ⊢
 cases hg:fi T o.guard with
 | false=>rw[hg]at e; exact e
 | true=>
  rw[hg]at e
  simp only[cond_true]at e ⊢
  split at e
  ·exact e
  ·exact h _ _ _ _ e
  ·simp at e
theorem kR{c d}(h:F5 c d):∀(l:List aj) {T:Tr af} {H:ae} {r},be tb c l T H=some r->be tb d l T H=some r
 | [],_,_,_,e=>e
 | o::l,T,H,r,e=>by
  have hs:∀c,be tb c (o::l) T H=match bt tb c o T H with | some (v,H')=>be tb c l (aK T o.dst v) H' | none=>none:=by
   intro c
   simp only[be,bt]
   cases fi T o.guard with
   | false=>rfl
   | true=>
    simp only[cond_true]
    cases bF tb T H o.op with
    | none=>rfl
    | some p=>obtain⟨nx,H'⟩:=p; cases nx <;> rfl
  rw[hs]at e ⊢
  split at e
  ·rename_i v H' hv
   rw[jc h hv]
   exact kR h l e
  ·simp at e
theorem jL{c d}(h:F5 c d):∀(l:List aj) {T:Tr af} {H:ae} {r},cf tb c l T H=some r->cf tb d l T H=some r
 | [],_,_,_,e=>e
 | o::l,T,H,r,e=>by
  simp only[cf]at e ⊢
  split at e
  ·rename_i v H' hv
   rw[jc h hv]
   split at e
   ·rename_i s hs
    simp only[jL h l hs]
    exact e
   ·simp at e
  ·simp at e
theorem kS{f g:Tr af->ae->Option (oD×Tr af×ae)}(h:∀T H r,f T H=some r->g T H=some r):∀(n m:Nat) (T:Tr af) (H:ae) (r),n<=m->gJ f n T H=some r->gJ g m T H=some r
 | 0,_,_,_,_,_,e=>by simp[gJ]at e
 | n+1,0,_,_,_,hl,_=>om
 | n+1,m+1,T,H,r,hl,e=>by
  simp only[gJ]at e ⊢
  split at e
  ·rename_i T' H' hv
   rw[h _ _ _ hv]
   exact kS h n m T' H' r om e
  ·rename_i e' T' H' hne hv
   rw[h _ _ _ hv]
   cases e' with
   | normal=>exact absurd rfl hne
   | exit i=>exact e
   | ret=>exact e
  ·simp at e
theorem eT{c d}(h:F5 c d){k k':Nat}(hk:k<=k'):∀(x:bC) (T:Tr af) (H:ae) (r),aI tb c k x T H=some r->aI tb d k' x T H=some r:=by
 intro x
 induction x with
 | skip=>intro T H r e; exact e
 | reg l=>
  intro T H r e
  simp only[aI]at e ⊢
  split at e
  ·rename_i T' H' hv; rw[kR h l hv]; exact e
  ·simp at e
 | draw l chk=>
  intro T H r e
  simp only[aI,jO]at e ⊢
  split at e
  ·rename_i ss hv; rw[jL h _ hv]; exact e
  ·simp at e
 | seq a b iha ihb=>
  intro T H r e
  simp only[aI]at e ⊢
  split at e
  ·rename_i T' H' hv; rw[iha _ _ _ hv]; exact ihb _ _ _ e
  ·rename_i e' T' H' hne hv
   rw[iha _ _ _ hv]
   cases e' with
   | normal=>exact absurd rfl hne
   | exit i=>exact e
   | ret=>exact e
  ·simp at e
 | cond c a b iha ihb=>
  intro T H r e
  simp only[aI]at e ⊢
  split at e
  ·exact iha _ _ _ e
  ·exact ihb _ _ _ e
  ·simp at e
 | block id c ih=>
  intro T H r e
  simp only[aI]at e ⊢
  split at e
  ·rename_i j T' H' hv; rw[ih _ _ _ hv]; exact e
  ·rename_i e' T' H' hne hv
   rw[ih _ _ _ hv]
   cases e' with
   | exit i=>exact absurd rfl (hne i)
   | normal=>exact e
   | ret=>exact e
  ·simp at e
 | loop c ih=>
  intro T H r e
  simp only[aI]at e ⊢
  exact kS (fun T H r hr=>ih T H r hr) k k' T H r hk e
 | exit id=>intro T H r e; exact e
 | ret=>intro T H r e; exact e
theorem nJ{N:go}{tab:Tr bW}:∀(n:Nat),F5 (cx N tab n) (cx N tab (n+1))
 | 0=>fun f a H r e=>by simp[cx]at e
 | n+1=>fun f a H r e=>by
  have ih:=nJ (N:=N) (tab:=tab) n
  rw[cx]at e ⊢
  cases hn:N.is f with
  | true=>rw[hn]at e; exact e
  | false=>
   rw[hn]at e
   simp only[cond_false]at e ⊢
   split at e
   ·rename_i fn hf
    cases hb:Nat.ble a.length fn.nt with
    | false=>rw[hb]at e; simp at e
    | true=>
     rw[hb]at e
     simp only[cond_true]at e ⊢
     split at e
     ·simp at e
     ·rename_i e' T' H' hne hv
      rw[eT ih (Nat.le_succ n) _ _ _ _ hv]
      cases e' with
      | exit i=>exact (hne i rfl).elim
      | normal=>exact e
      | ret=>exact e
     ·simp at e
   ·simp at e
theorem de{N:go}{tab:Tr bW}{n m:Nat}(h:n<=m):F5 (cx N tab n) (cx N tab m):=by
 induction m with
 | zero => obtain rfl : n = 0 := by omega
           exact F5.refl _
 | succ m ih=>
  by_cases e:n=m+1
  ·subst e; exact F5.refl _
  ·exact fun f a H r hr=>nJ m _ _ _ _ (ih om _ _ _ _ hr)
end
end Go.Abs.S
namespace Go.Abs.S
open Go.Abs
def Df(P:Program)(N:go):Nat->Tr bW
 | 0=>.e
 | n+1=>match vP P (N.md (n % bI)) n with
  | some c=>(Df P N n).set n c
  | none=>Df P N n
def fq(P:Program)(N:go):Tr bW:=Df P N (4*bI)
theorem lc(P:Program)(N:go):∀(n f:Nat),(Df P N n).get f=if f<n then vP P (N.md (f % bI)) f else none
 | 0,f=>by rw[if_neg om]; cases f <;> rfl
 | n+1,f=>by
  simp only[Df]
  cases hc:vP P (N.md (n % bI)) n with
  | none=>
   simp only[lc P N n f]
   by_cases h:f<n
   ·rw[if_pos h,if_pos om]
   ·by_cases e:f=n
    ·subst e; rw[if_neg h,if_pos om,hc]
    ·rw[if_neg h,if_neg om]
  | some c=>
   simp only[Tr.get_set,lc P N n f]
   by_cases e:f=n
   ·subst e; rw[if_pos rfl,if_pos om,hc]
   ·rw[if_neg e]
    by_cases h:f<n
    ·rw[if_pos h,if_pos om]
    ·rw[if_neg h,if_neg om]
theorem nW(P:Program)(N:go):Bc P (fq P N):=by
 intro f fn h
 rw[fq,lc]at h
 split at h
 ·exact⟨_,h⟩
 ·simp at h
theorem De{P:Program}{N:go}{f:Nat}{c:bW}(h:vP P (N.md (f % bI)) f=some c):(fq P N).get f=some c:=by
 have hf:f<4*bI:=by
  unfold vP at h
  cases h4:Nat.blt f (4*bI) with
  | true=>exact dF h4
  | false=>
   exfalso
   have h4':¬f<4*bI:=fun q=>by rw[show Nat.blt f (4*bI)=true from NB q]at h4; simp at h4
   have h5:4*bI<=f:=Nat.not_lt.1 h4'
   have e1:Nat.blt f bI=false:=by rw[dY]; exact decide_eq_false om
   have e2:Nat.blt f (2*bI)=false:=by rw[dY]; exact decide_eq_false om
   have e3:Nat.blt f (3*bI)=false:=by rw[dY]; exact decide_eq_false om
   rw[e1,e2,e3,h4]at h
   simp at h
 rw[fq,lc,if_pos hf,h]
theorem B8{P:Program}{N:go}{f:FuncId}{c:bW}(h:FX P f=some c)(hm:N.md f=none)(hf:Nat.blt f bI=true):vP P (N.md (f % bI)) f=some c:=by
 rw[Nat.mod_eq_of_lt (dF hf),hm]
 unfold vP
 rw[hf]
 exact h
def an(P:Program)(N:go)(f:FuncId)(args:List af)(H:ae)(K:af->ae->Prop):Prop:=
 ∃n v H',cx N (fq P N) n f args H=some (v,H')/\K v H'
theorem an.mono{P:Program}{N:go}{f:FuncId}{args:List af}{H:ae}{K K':af->ae->Prop}(h:an P N f args H K)(hk:∀v H',K v H'->K' v H'):an P N f args H K':=by
 obtain⟨n,v,H',h1,h2⟩:=h; exact⟨n,v,H',h1,hk _ _ h2⟩
section
variable {P:Program} {N:go}
theorem wH{n:Nat}{f:FuncId}{args:List af}{H:ae}{r}(h:cx N (fq P N) n f args H=some r):uk N (fq P N) f=true:=by
 cases n with
 | zero=>simp[cx]at h
 | succ n=>
  rw[cx]at h
  unfold uk
  cases hn:N.is f with
  | true=>rfl
  | false=>
   rw[hn]at h
   simp only[cond_false]at h ⊢
   cases ht:(fq P N).get f with
   | none=>rw[ht]at h; simp at h
   | some c=>rfl
theorem Bi{T:Tr af}{H:ae}{o:gn}{K:af->ae->Prop}(h:Bj (an P N) (en T) H K o) :
  (∃v H',bF (uk N (fq P N)) T H o=some (.val v,H')/\K v H')∨(∃f args H' n v H'',bF (uk N (fq P N)) T H o=some (.enter f args,H')/\cx N (fq P N) n f args H'=some (v,H'')/\K v H''):=by
 cases o
 case call f args=>
  right
  simp only[Bj,tp]at h
  obtain⟨n,v,H',h1,h2⟩:=h
  exact⟨f,_,H,n,v,H',by simp only[bF,wH h1,cond_true],h1,h2⟩
 case callv f args=>
  right
  simp only[Bj,ny,tp]at h
  obtain⟨g,a,b,hf,hgb,n,v,H',h1,h2⟩:=h
  exact⟨g,_,H,n,v,H',by simp only[bF,hf,hgb,wH h1,Bool.and_true,cond_true],h1,h2⟩
 case pick c a b=>
  simp only[Bj,ny]at h
  obtain⟨b',h1,h2⟩:=h
  exact .inl ⟨_,_,by simp only[bF,h1],h2⟩
 case bad=>simp[Bj]at h
 all_goals
  left
  simp only[Bj,ny,tp,I3,Dr,cW]at h
  first
   | exact⟨_,_,rfl,h⟩
   | (obtain ⟨v, h1, h2⟩ := h
      refine ⟨_, _, ?_, h2⟩
      simp only [bF, h1]
      try rfl)
theorem nj{T:Tr af}{H:ae}{o:aj}{K:af->ae->Prop}(h:Bj (an P N) (en T) H K o.op)(hg:fi T o.guard=true) :
  ∃n v H',bt (uk N (fq P N)) (cx N (fq P N) n) o T H=some (v,H')/\K v H':=by
 rcases Bi h with⟨v,H',h1,h2⟩ | ⟨f,args,H',n,v,H'',h1,h2,h3⟩
 ·exact⟨0,v,H',by simp only[bt,hg,cond_true,h1],h2⟩
 ·exact⟨n,v,H'',by simp only[bt,hg,cond_true,h1,h2],h3⟩
theorem yF(tb:FuncId->Bool)(c)(o:aj)(l:List aj)(T:Tr af)(H:ae):be tb c (o::l) T H=match bt tb c o T H with | some (v,H')=>be tb c l (aK T o.dst v) H' | none=>none:=by
 simp only[be,bt]
 cases fi T o.guard with
 | false=>rfl
 | true=>
  simp only[cond_true]
  cases bF tb T H o.op with
  | none=>rfl
  | some p=>obtain⟨nx,H'⟩:=p; cases nx <;> rfl
theorem nk:∀(l:List aj) {T:Tr af} {H:ae} {K:bK->ae->Prop},aU (an P N) l (en T) H K ->
  ∃n T' H',be (uk N (fq P N)) (cx N (fq P N) n) l T H=some (T',H')/\K (en T') H'
 | [],T,H,K,h=>⟨0,T,H,rfl,h⟩
 | o::l,T,H,K,h=>by
  simp only[aU,Ds]at h
  have:∃n v H',bt (uk N (fq P N)) (cx N (fq P N) n) o T H=some (v,H')/\aU (an P N) l (gq (en T) o.dst v) H' K:=by
   cases hg:fi T o.guard with
   | true=>rw[hg]at h; exact nj h hg
   | false=>rw[hg]at h; exact⟨0,aJ,H,by simp only[bt,hg,cond_false],h⟩
  obtain⟨n,v,H',h1,h2⟩:=this
  rw[<- yl]at h2
  obtain⟨m,T2,H2,h3,h4⟩:=nk l h2
  refine⟨max n m,T2,H2,?_,h4⟩
  rw[yF,jc (de (Nat.le_max_left n m)) h1]
  exact kR (de (Nat.le_max_right n m)) l h3
theorem qV:∀(l:List aj) {T:Tr af} {H:ae} {K:List (af×ae)->bK->ae->Prop},dQ (an P N) l (en T) H K->∀j,
  ∃n ss,cf (uk N (fq P N)) (cx N (fq P N) n) l T H=some ss/\K ss (en (bh (fun _=>true) j l ss T)) (dw H ss l.length)
 | [],T,H,K,h,j=>⟨0,[],rfl,h⟩
 | o::l,T,H,K,h,j=>by
  simp only[dQ,Ds]at h
  have:∃n v H',bt (uk N (fq P N)) (cx N (fq P N) n) o T H=some (v,H')/\dQ (an P N) l (gq (en T) o.dst v) H' fun ss=>K ((v,H')::ss):=by
   cases hg:fi T o.guard with
   | true=>rw[hg]at h; exact nj h hg
   | false=>rw[hg]at h; exact⟨0,aJ,H,by simp only[bt,hg,cond_false],h⟩
  obtain⟨n,v,H',h1,h2⟩:=this
  rw[<- yl]at h2
  obtain⟨m,ss,h3,h4⟩:=qV l h2 (j+1)
  refine⟨max n m,(v,H')::ss,?_,?_⟩
  ·simp only[cf,jc (de (Nat.le_max_left n m)) h1,jL (de (Nat.le_max_right n m)) l h3]
  ·have hl:=(eZ l _ H' ss 0 h3).1
   have e:dw H' ss l.length=dw H ((v,H')::ss) (o::l).length:=by
    simp only[ND]
    cases hr:l.length with
    | zero=>rfl
    | succ q=>
     simp only[dw,NJ]
     rw[Nz om]
   rw[<- e]
   exact h4
theorem qW{tb:FuncId->Bool}{hs:List ae}:∀(l:List aj) (chk:List (List Nat)) (ss:List (af×ae)) (T:Tr af),wY hs l chk ss (en T)->ed tb hs l chk ss T=true
 | [],_,_,_,_=>rfl
 | o::l,[],_,_,_=>rfl
 | o::l,p::ps,[],_,_=>rfl
 | o::l,p::ps,(v,Hv)::ss,T,h=>by
  simp only[wY]at h
  obtain⟨h1,h2⟩:=h
  simp only[ed,NC]
  refine⟨List.all_eq_true.2 fun q hq=>?_,qW l ps ss _ (by rw[yl]; exact h2)⟩
  obtain⟨Hp,e1,e2⟩:=h1 q hq
  rw[e1]
  simp only
  cases hg:fi T o.guard with
  | false=>rfl
  | true=>
   obtain⟨u,u1,u2⟩:=e2 (by rw[Ds]; exact hg)
   simp only[cond_true]
   cases ho:o.op <;> rw[ho]at u1 <;> simp only[Ly,reduceCtorEq,ny]at u1
   ·simp only[bF,u1,vv]; exact u2
   ·simp only[bF,u1,vv]; exact u2
theorem nE{Q:kV}{K:bK->ae->Prop}{e:oD}{T:bK}{H:ae}(h:jg Q K e T H):(e=.normal/\K T H)∨(e≠.normal/\Q e T H):=by
 cases e with
 | normal=>exact .inl ⟨rfl,h⟩
 | exit i=>exact .inr ⟨by simp,h⟩
 | ret=>exact .inr ⟨by simp,h⟩
theorem uq:∀(c:bC) (Q:kV) (T:Tr af) (H:ae),wp (an P N) c Q (en T) H ->
  ∃n e T' H',aI (uk N (fq P N)) (cx N (fq P N) n) n c T H=some (e,T',H')/\Q e (en T') H':=by
 intro c
 induction c with
 | skip=>intro Q T H h; exact⟨0,_,_,_,rfl,h⟩
 | reg l=>
  intro Q T H h
  obtain⟨n,T',H',h1,h2⟩:=nk l h
  exact⟨n,.normal,T',H',by simp only[aI,h1],h2⟩
 | draw l chk=>
  intro Q T H h
  simp only[wp,yO]at h
  obtain⟨n,ss,h1,h2,h3⟩:=qV (az H.next l) h 0
  exact⟨n,.normal,_,_,by simp only[aI,jO,h1,qW (az H.next l) chk ss T h2,cond_true],h3⟩
 | seq a b iha ihb=>
  intro Q T H h
  obtain⟨n,e,T1,H1,h1,h2⟩:=iha _ T H h
  rcases nE h2 with⟨rfl,h2⟩ | ⟨hne,h2⟩
  ·obtain⟨m,e2,T2,H2,h3,h4⟩:=ihb _ T1 H1 h2
   refine⟨max n m,e2,T2,H2,?_,h4⟩
   simp only[aI,eT (de (Nat.le_max_left n m)) (Nat.le_max_left n m) a _ _ _ h1]
   exact eT (de (Nat.le_max_right n m)) (Nat.le_max_right n m) b _ _ _ h3
  ·refine⟨n,e,T1,H1,?_,h2⟩
   cases e with
   | normal=>exact absurd rfl hne
   | exit i=>simp only[aI,h1]
   | ret=>simp only[aI,h1]
 | cond c a b iha ihb=>
  intro Q T H h
  simp only[wp,ny]at h
  obtain⟨v,hv,h⟩:=h
  cases v with
  | true=>
   obtain⟨n,e,T1,H1,h1,h2⟩:=iha _ T H h
   exact⟨n,e,T1,H1,by simp only[aI,hv,h1],h2⟩
  | false=>
   obtain⟨n,e,T1,H1,h1,h2⟩:=ihb _ T H h
   exact⟨n,e,T1,H1,by simp only[aI,hv,h1],h2⟩
 | block id c ih=>
  intro Q T H h
  obtain⟨n,e,T1,H1,h1,h2⟩:=ih _ T H h
  cases e with
  | exit j=>
   simp only[jC]at h2
   cases hb:Nat.beq j id with
   | true=>rw[hb]at h2; exact⟨n,.normal,T1,H1,by simp only[aI,h1,hb,cond_true],h2⟩
   | false=>rw[hb]at h2; exact⟨n,.exit j,T1,H1,by simp only[aI,h1,hb,cond_false],h2⟩
  | normal=>exact⟨n,.normal,T1,H1,by simp only[aI,h1],h2⟩
  | ret=>exact⟨n,.ret,T1,H1,by simp only[aI,h1],h2⟩
 | loop c ih=>
  intro Q T H h
  simp only[wp]at h
  obtain⟨I,⟨m,hm⟩,hI⟩:=h
  have key:∀(m:Nat) (T:Tr af) (H:ae),I m (en T) H->∃n e T' H',aI (uk N (fq P N)) (cx N (fq P N) n) n (.loop c) T H=some (e,T',H')/\Q e (en T') H':=by
   intro m
   induction m using Nat.strongRecOn with
   | ind m ihm=>
    intro T H hi
    obtain⟨n,e,T1,H1,h1,h2⟩:=ih _ T H (hI m _ _ hi)
    rcases nE h2 with⟨rfl,m',hm',h2⟩ | ⟨hne,h2⟩
    ·obtain⟨k,e2,T2,H2,h3,h4⟩:=ihm m' hm' T1 H1 h2
     refine⟨max n k+1,e2,T2,H2,?_,h4⟩
     simp only[aI,gJ]
     rw[eT (de (show n<=max n k+1 by omega)) (show n<=max n k+1 by omega) c _ _ _ h1]
     simp only[aI]at h3
     exact kS (fun T H r hr=>eT (de (show k<=max n k+1 by omega)) (show k<=max n k+1 by omega) c T H r hr) k (max n k) T1 H1 _ (Nat.le_max_right n k) h3
    ·refine⟨n+1,e,T1,H1,?_,h2⟩
     simp only[aI,gJ]
     rw[eT (de (Nat.le_succ n)) (Nat.le_succ n) c _ _ _ h1]
     cases e with
     | normal=>exact absurd rfl hne
     | exit i=>rfl
     | ret=>rfl
  exact key m T H hm
 | exit id=>intro Q T H h; exact⟨0,_,_,_,rfl,h⟩
 | ret=>intro Q T H h; exact⟨0,_,_,_,rfl,h⟩
def qQ(args:List af):bK:=fun i=>match args[i]? with
 | some v=>v
 | none=>aJ
theorem pe:∀(args:List af) (i:Nat) (T:Tr af),en (cp args i T)=fun j=>if i<=j then (match args[j-i]? with | some v=>v | none=>en T j) else en T j
 | [],i,T=>by funext j; simp[cp]
 | x::r,i,T=>by
  rw[cp,pe r (i+1),EJ]
  funext j
  by_cases h:i+1<=j
  ·rw[if_pos h,if_pos om,show j-i=(j-(i+1))+1 by omega]
   simp only[NJ]
   split
   ·rfl
   ·have hb:Nat.beq j i=false:=by rw[dy]; exact decide_eq_false om
    simp only[up,hb,cond_false]
  ·rw[if_neg h]
   by_cases e:i=j
   ·subst e
    simp[up]
   ·rw[if_neg om]
    have hb:Nat.beq j i=false:=by rw[dy]; exact decide_eq_false om
    simp only[up,hb,cond_false]
theorem BA(args:List af):en (cp args 0 .e)=qQ args:=by
 rw[pe]
 funext j
 simp only[Nat.zero_le,if_true,Nat.sub_zero,qQ]
 split
 ·rfl
 ·rfl
def mi(T:bK)(H:ae):List kW->Option (List af)
 | []=>some []
 | .t i::r=>match mi T H r with
  | some l=>some (T i::l)
  | none=>none
 | .cell g n i::r=>match bg g n H (T i),mi T H r with
  | some x,some l=>some (x::l)
  | _,_=>none
theorem nU(T:Tr af)(H:ae):∀l:List kW,mi (en T) H l=gt T H l
 | []=>rfl
 | .t i::r=>by simp only[mi,gt,nU T H r]; rfl
 | .cell g n i::r=>by simp only[mi,gt,nU T H r]; rfl
def gX(res:List kW)(K:af->ae->Prop):kV:=fun e T H=>match e with
 | .exit _=>False
 | _=>cW (mi T H res) fun l=>K (gH l) H
theorem Cp{f:FuncId}{c:bW}{args:List af}{H:ae}{K:af->ae->Prop}(hn:N.is f=false)(hc:vP P (N.md (f % bI)) f=some c)(hl:Nat.ble args.length c.nt=true)(h:wp (an P N) c.body (gX c.res K) (qQ args) H):an P N f args H K:=by
 rw[<- BA]at h
 obtain⟨n,e,T',H',h1,h2⟩:=uq _ _ _ _ h
 have:∃l,gt T' H' c.res=some l/\K (gH l) H'/\∀i,e≠.exit i:=by
  cases e with
  | exit i=>exact h2.elim
  | normal=>obtain⟨l,q1,q2⟩:=h2; rw[nU]at q1; exact⟨l,q1,q2,fun i=>by simp⟩
  | ret=>obtain⟨l,q1,q2⟩:=h2; rw[nU]at q1; exact⟨l,q1,q2,fun i=>by simp⟩
 obtain⟨l,q1,q2,q3⟩:=this
 refine⟨n+1,gH l,H',?_,q2⟩
 rw[cx,hn,De hc]
 simp only[cond_false,hl,cond_true,h1]
 cases e with
 | exit i=>exact absurd rfl (q3 i)
 | normal=>simp only[q1]
 | ret=>simp only[q1]
theorem jd{f:FuncId}{args:List af}{H H':ae}{v:af}{K:af->ae->Prop}(hn:N.is f=true)(hr:N.run f args H=some (v,H'))(hk:K v H'):an P N f args H K:=
 ⟨1,v,H',by rw[cx,hn]; exact hr,hk⟩
theorem an.calls(hfol:P.follows .mixedOrders=true)(hN:wN P N){f:FuncId}{args:List af}{H:ae}{K:af->ae->Prop}(h:an P N f args H K)
  {Prot:Gh} {w0 w:World} {ρ:Pl} {vs:Array Value} (R:Rel Prot w0 ρ H w) (hv:ah ρ args vs.toList) (hfb:Nat.blt f bI=true:=by rfl) :
  Calls P f vs w fun e w'=>∃ρ' v H' u,ρ.le ρ'/\e=.returned u/\K v H'/\Rel Prot w0 ρ' H' w'/\ag ρ' v u:=by
 obtain⟨n,v,H',h1,h2⟩:=h
 refine (wI hfol hN (nW P N) n _ _ _ _ _ hfb h1 _ _ _ _ _ R hv).mono fun e w' hx=>?_
 obtain⟨ρ',u,q1,rfl,q2,q3⟩:=hx
 exact⟨ρ',v,H',u,q1,rfl,h2,q2,q3⟩
end
end Go.Abs.S
namespace Go.Abs.S
open Go.Abs
theorem Ef{ρ:Pl}{p:Value->Prop}(h:∀v,p v->∃x,∀ρ,ag ρ x v):∀(vs:List Value),(∀v∈vs,p v)->∃l,∀ρ,ah ρ l vs
 | [],_=>⟨[],fun ρ=>by simp[ah]⟩
 | v::vs,hv=>by
  obtain⟨x,hx⟩:=h v (hv v (by simp))
  obtain⟨l,hl⟩:=Ef (ρ:=ρ) h vs fun u hu=>hv u (by simp[hu])
  exact⟨x::l,fun ρ=>by simp only[ah]; exact⟨v,vs,rfl,hx ρ,hl ρ⟩⟩
theorem junk:∀(n:Nat) (v:Value),SizeOf.sizeOf v<=n->∃x,∀ρ,ag ρ x v:=by
 intro n
 induction n with
 | zero=>intro v h; cases v <;> simp at h
 | succ n ih=>
  intro v h
  cases v
  case bool b=>exact⟨.bool b,fun ρ=>by simp[ag]⟩
  case agg vs=>
   obtain⟨l,hl⟩:=Ef (ρ:=fun _ _=>none) (p:=fun v=>SizeOf.sizeOf v<=n) ih vs.toList fun v hv=>by
    have:=Array.sizeOf_lt_of_mem (Array.mem_toList_iff.1 hv)
    simp at h; omega
   exact⟨.agg l,fun ρ=>by simp only[ag]; exact⟨vs,rfl,hl ρ⟩⟩
  case tuple vs=>
   obtain⟨l,hl⟩:=Ef (ρ:=fun _ _=>none) (p:=fun v=>SizeOf.sizeOf v<=n) ih vs.toList fun v hv=>by
    have:=Array.sizeOf_lt_of_mem (Array.mem_toList_iff.1 hv)
    simp at h; omega
   exact⟨.tuple l,fun ρ=>by simp only[ag]; exact⟨vs,rfl,hl ρ⟩⟩
  all_goals exact⟨.val _,fun ρ=>by simp only[ag]; exact⟨rfl,rfl⟩⟩
noncomputable def xU(v:Value):af:=Classical.choose (junk (SizeOf.sizeOf v) v rL)
theorem pz(v:Value)(ρ:Pl):ag ρ (xU v) v:=Classical.choose_spec (junk (SizeOf.sizeOf v) v rL) ρ
def lj(w:World)(c:Nat):Option Nat:=match w.heap[c]? with
 | some (.cells C _ _)=>some C.size
 | _=>none
noncomputable def Cr(w:World):Value->af
 | .bool b=>.bool b
 | .int k n=>.int k n
 | .string s=>.str s.data.toList
 | .pointer none=>.ptr none
 | .pointer (some ⟨c,off,none⟩)=>match lj w c with
  | some n=>.ptr (some ⟨c,n,off⟩)
  | none=>xU (.pointer (some ⟨c,off,none⟩))
 | .slice none 0 0=>.slice none 0 (.known 0)
 | .slice (some ⟨c,off,none⟩) len cap=>if len<=cap then (match lj w c with
  | some n=>if off<=n then .slice (some ⟨c,n,off⟩) len (.known cap) else .val (.slice (some ⟨c,off,none⟩) len cap)
  | none=>.val (.slice (some ⟨c,off,none⟩) len cap)) else .val (.slice (some ⟨c,off,none⟩) len cap)
 | .slice (some ⟨c,off,some q⟩) len cap=>.val (.slice (some ⟨c,off,some q⟩) len cap)
 | .map none=>.map none
 | .nilFunc=>.nilFunc
 | .nilIface=>.nilIface
 | v=>xU v
def Ke(w:World):Pl:=fun b l=>match lj w b with
 | some n=>if l=n then some ⟨b,0,n,false⟩ else none
 | none=>none
theorem pj{w:World}{b n:Nat}(h:lj w b=some n):Ke w b n=some ⟨b,0,n,false⟩:=by simp[Ke,h]
theorem xd(s:ByteArray):aD s.data.toList=s:=by cases s; simp[aD]
theorem ql(w:World)(v:Value):ag (Ke w) (Cr w v) v:=by
 unfold Cr
 split
 ·simp[ag]
 ·simp[ag]
 ·simp[ag,xd]
 ·simp[ag]
 ·split
  ·rename_i n hn
   simp only[ag]
   exact⟨_,pj hn,Nat.zero_le _,by simp⟩
  ·exact pz _ _
 ·simp[ag]
 ·split
  ·rename_i hl
   split
   ·rename_i n hn
    split
    ·simp only[ag]
     exact⟨_,pj hn,Nat.zero_le _,by simp only[bH]; exact⟨hl,by simp⟩⟩
    ·simp only[ag]; exact⟨trivial,rfl⟩
   ·simp only[ag]; exact⟨trivial,rfl⟩
  ·simp only[ag]; exact⟨trivial,rfl⟩
 ·simp only[ag]; exact⟨trivial,rfl⟩
 ·simp[ag]
 ·simp[ag]
 ·simp[ag]
 ·exact pz _ _
noncomputable def pp(w:World)(c:Nat):Option dh:=match w.heap[c]? with
 | some (.cells C _ _)=>some (.cells (C.toList.map (Cr w)) 0 true)
 | _=>none
noncomputable def Kc(w:World):Nat->Tr dh
 | 0=>.e
 | n+1=>match pp w n with
  | some o=>(Kc w n).set n o
  | none=>Kc w n
theorem tj(w:World):∀(n b:Nat),(Kc w n).get b=if b<n then pp w b else none
 | 0,b=>by rw[if_neg om]; cases b <;> rfl
 | n+1,b=>by
  simp only[Kc]
  cases hc:pp w n with
  | none=>
   simp only[tj w n b]
   by_cases h:b<n
   ·rw[if_pos h,if_pos om]
   ·by_cases e:b=n
    ·subst e; rw[if_neg h,if_pos om,hc]
    ·rw[if_neg h,if_neg om]
  | some c=>
   simp only[Tr.get_set,tj w n b]
   by_cases e:b=n
   ·subst e; rw[if_pos rfl,if_pos om,hc]
   ·rw[if_neg e]
    by_cases h:b<n
    ·rw[if_pos h,if_pos om]
    ·rw[if_neg h,if_neg om]
noncomputable def rV(w:World):ae:=⟨w.heap.size,Kc w w.heap.size⟩
theorem io(w:World)(b:Nat):(rV w).get b=pp w b:=by
 show (Kc w w.heap.size).get b=_
 rw[tj]
 by_cases h:b<w.heap.size
 ·rw[if_pos h]
 ·rw[if_neg h]
  unfold pp
  rw[Array.getElem?_eq_none om]
theorem rH{w:World}{c n:Nat}(h:lj w c=some n):∃C e fz,w.heap[c]?=some (.cells C e fz)/\C.size=n/\pp w c=some (.cells (C.toList.map (Cr w)) 0 true):=by
 unfold lj at h
 unfold pp
 split at h
 ·rename_i C e fz hC
  simp only[sJ]at h
  exact⟨C,e,fz,hC,h,rfl⟩
 ·simp at h
theorem zL{w:World}{b l:Nat}{L:Loc}(h:Ke w b l=some L):lj w b=some l/\L=⟨b,0,l,false⟩:=by
 unfold Ke at h
 split at h
 ·rename_i n hn
  split at h
  ·rename_i e; subst e; simp only[sJ]at h; exact⟨hn,h.symm⟩
  ·simp at h
 ·simp at h
theorem zR{w:World}{b:Nat}{x:dh}(h:pp w b=some x):x.rw=false:=by
 unfold pp at h
 split at h
 ·simp only[sJ]at h; subst h; rfl
 ·simp at h
theorem rA(w:World):Rel ⟨fun c=>c<w.heap.size,fun _=>False⟩ w (Ke w) (rV w) w:=by
 refine⟨rfl,rfl,rfl,Nat.le_refl _,fun _ hc=>⟨hc,rfl⟩,fun b l L h=>?_,fun b l L h=>?_,fun b l L x h hx hr=>?_,fun b l L b' l' L' x h h' he hx hr=>?_,fun _ h=>h.elim,fun b l low h=>?_⟩
 ·obtain⟨h1,rfl⟩:=zL h
  obtain⟨C,e,fz,h2,_,_⟩:=rH h1
  have:=(Array.getElem?_eq_some_iff.1 h2).1
  exact⟨this,this⟩
 ·obtain⟨h1,rfl⟩:=zL h
  obtain⟨C,e,fz,h2,h3,h4⟩:=rH h1
  obtain⟨lo,hi⟩:=fz
  refine⟨_,_,by rw[io,h4],h2,?_⟩
  simp only[dg]
  refine⟨C,e,lo,hi,rfl,h3,fun h=>by simp at h,by simp; omega,fun _ i _ hi=>?_⟩
  have hlt:i<C.size:=om
  refine⟨Cr w C[i],C[i],?_,by simp[hlt],ql w _⟩
  simp[hlt]
 ·rw[io]at hx
  rw[zR hx]at hr
  simp at hr
 ·rw[io]at hx
  rw[zR hx]at hr
  simp at hr
 ·rw[io]at h
  have hr:lj w b=some l.length:=by
   unfold pp at h
   unfold lj
   split at h
   ·rename_i C e fz hC
    simp only[sJ,dh.cells.injEq]at h
    simp[<- h.1]
   ·simp at h
  exact⟨_,pj hr,rfl,rfl,rfl⟩
end Go.Abs.S
namespace Go.Abs.S
open Go.Abs
theorem yP(T:bK)(i:Nat)(v:af):up T i v i=v:=by simp[up]
theorem HQ(T:bK)(i j:Nat)(v:af)(h:j≠i):up T i v j=T j:=by
 have:Nat.beq j i=false:=by rw[dy]; exact decide_eq_false h
 simp[up,this]
structure bw(n:Nat)(H H':ae):Prop where
 next:H.next<=H'.next
 old:∀b,b<n->H'.get b=H.get b
theorem bw.refl(n:Nat)(H:ae):bw n H H:=⟨Nat.le_refl _,fun _ _=>rfl⟩
theorem bw.trans{n:Nat}{H H' H'':ae}(h:bw n H H')(k:bw n H' H''):bw n H H'':=⟨Nat.le_trans h.next k.next,fun b hb=>(k.old b hb).trans (h.old b hb)⟩
theorem bw.less{n m:Nat}{H H':ae}(h:bw n H H')(hm:m<=n):bw m H H':=⟨h.next,fun b hb=>h.old b om⟩
theorem bw.push{n:Nat}{H H':ae}(h:bw n H H')(hn:n<=H'.next)(o:dh):bw n H (H'.push o):=
 ⟨Nat.le_trans h.next (by simp[ae.push]),fun b hb=>by rw[ae.get_push,if_neg om,h.old b hb]⟩
theorem bw.set{n:Nat}{H H':ae}(h:bw n H H'){b:Nat}(hn:n<=b)(o:dh):bw n H (H'.set b o):=
 ⟨h.next,fun c hc=>by rw[ae.get_set,if_neg om,h.old c hc]⟩
theorem aN(H:ae)(o:dh):(H.push o).next=H.next+1:=rfl
theorem hY(H:ae)(b:Nat)(o:dh):(H.set b o).next=H.next:=rfl
def cj:af:=.slice none 0 (.known 0)
def cellP(s:af)(i:Nat):af:=match s with
 | .slice (some a) _ _=>.ptr (some ⟨a.b,a.lim,a.o+i*1⟩)
 | _=>aJ
def LC:af->Bool
 | .slice none 0 (.known 0)=>true
 | .val (.slice (some _) 0 0)=>true
 | _=>false
theorem mL{s:af}(h:LC s=true):s=cj∨∃a,s=.val (.slice (some a) 0 0):=by
 unfold LC at h
 split at h
 ·exact .inl rfl
 ·exact .inr ⟨_,rfl⟩
 ·simp at h
theorem uV{H H':ae}{a:Ad}(h:H'.get a.b=H.get a.b)(n:Nat):aT H' a n=aT H a n:=by
 unfold aT; rw[h]
theorem DA{H:ae}{a:Ad}{n i:Nat}{xs:List af}(h:aT H a n=some xs)(hi:i<n):∃x,xs[i]?=some x/\aT H ⟨a.b,a.lim,a.o+i⟩ 1=some [x]:=by
 obtain⟨l,low,ro,h1,h2,h3,h4,rfl⟩:=iJ h
 have hlt:a.o+i<l.length:=om
 refine⟨l[a.o+i],?_,?_⟩
 ·rw[List.getElem?_take_of_lt hi,List.getElem?_drop,Nz hlt]
 ·unfold aT
  simp only[h1,NB h2,NB h3,NB (show a.o+i+1<=a.lim by omega),Bool.and_self,cond_true]
  rw[List.drop_eq_getElem_cons hlt]
  rfl
def Own(n:Nat)(H:ae)(s:af)(l:List af):Prop:=
 ∃b r low,s=.slice (some ⟨b,l.length,0⟩) l.length r/\n<=b/\b<H.next/\H.get b=some (.cells l low false)/\low<=l.length
theorem ew{H:ae}{b low:Nat}{l:List af}{ro:Bool}(h:H.get b=some (.cells l low ro))(hl:low<=l.length):aT H ⟨b,l.length,0⟩ l.length=some l:=by
 unfold aT
 simp only[h,NB hl,NB rL,Nat.zero_add,Bool.and_self,cond_true,List.drop_zero,List.take_length]
theorem sw{x:af}(h:x.one=true):x.cells=[x]:=by cases x <;> first | rfl | (simp[af.one]at h)
def Jc(H:ae):af:=.slice (some ⟨H.next,1,0⟩) 1 (.known 1)
theorem yA(z:af)(H:ae){x:af}(h:x.one=true):bU 1 [z] H [(0,1,x)]=some (Jc H,H.push (.cells [x] 0 false)):=by
 simp only[bU,lp,List.append_nil,kq,sw h]
 rfl
theorem IV(H:ae)(x:af):iB 1 (H.push (.cells [x] 0 false)) (Jc H)=some (1,[x]):=by
 have:=ew (H:=H.push (.cells [x] 0 false)) (b:=H.next) (l:=[x]) (low:=0) (ro:=false) (by rw[ae.get_push,if_pos rfl]) (by simp)
 simp only[ND,NE,Nat.zero_add]at this
 simp only[iB,Jc,Nat.mul_one,this]
theorem CE{H:ae}{b low i:Nat}{l:List af}(h:H.get b=some (.cells l low false))(hl:low<=l.length)(hi:i<l.length){x:af}(hx:x.one=true) :
  bB 1 H (.ptr (some ⟨b,l.length,i⟩)) x=some (H.set b (.cells (l.set i x) l.length false)):=by
 simp only[bB,sw hx,ND,NE,Nat.zero_add,Nat.beq_refl,cond_true]
 unfold cG
 simp only[h,NB hl,Nat.beq_refl,ND,NE,Nat.zero_add,NB (show i+1<=l.length by omega),List.all_cons,List.all_nil,hx,Bool.and_self,cond_true]
 congr 3
 rw[List.set_eq_take_append_cons_drop,if_pos hi]
 rfl
theorem DI{H:ae}{z:af}{bytes k n:Nat}(hn:n<=H.next)(hk:bytes*k<=281474976710656)(hk':k<=9223372036854775807) :
  ∃s,gh bytes [z] H (.int .i64 (k:Int)) (.int .i64 (k:Int))=some (s,H.push (.cells (List.replicate k z) 0 false))/\s=.slice (some ⟨H.next,k,0⟩) k (.known k)/\Own n (H.push (.cells (List.replicate k z) 0 false)) s (List.replicate k z):=by
 have hr:lp [z] k=List.replicate k z:=by
  clear hk hk'
  induction k with
  | zero=>rfl
  | succ k ih=>simp only[lp,ih,List.replicate_succ]; rfl
 have hnat:dV (.int .i64 (k:Int))=some k:=by
  show dV (.int .i64 (Int.ofNat k))=some k
  simp only[dV,NB hk',cond_true]
 refine⟨_,?_,rfl,⟨H.next,.known k,0,by simp,hn,Nat.lt_succ_self _,by rw[ae.get_push]; exact if_pos rfl,Nat.zero_le _⟩⟩
 simp only[gh,hnat,NB rL,NB hk,Bool.and_self,cond_true,hr,List.length_replicate]
def jU(b n:Nat)(r:qR):af:=.slice (some ⟨b,n,0⟩) n r
def ak(b n i:Nat):af:=.ptr (some ⟨b,n,i⟩)
def Row(H:ae)(b:Nat)(l:List af):Prop:=∃low,H.get b=some (.cells l low false)/\low<=l.length
theorem li{b n:Nat}{r:qR}(k:IntKind){i:Nat}(h:i<n):gi 1 (jU b n r) (.int k (i:Int))=some (ak b n i):=by
 show (bif Nat.blt i n then some (af.ptr (some ⟨b,n,0+i*1⟩)) else none)=_
 have:Nat.blt i n=true:=by simpa[Nat.blt_eq] using h
 rw[this,Nat.zero_add,Nat.mul_one]; rfl
theorem ib{H:ae}{b n:Nat}{l:List af}(h:Row H b l)(hn:l.length=n){i:Nat}{x:af}(hi:l[i]?=some x):bg false 1 H (ak b n i)=some x:=by
 subst hn
 obtain⟨low,h1,h2⟩:=h
 have hlt:=(NA.1 hi).1
 obtain⟨y,h4,h5⟩:=DA (ew h1 h2) hlt
 rw[hi]at h4
 simp only[sJ]at h4
 subst h4
 simp only[Nat.zero_add]at h5
 simp only[bg,ak,h5,cond_false]
theorem bj{H:ae}{b n:Nat}{l:List af}(h:Row H b l)(hn:l.length=n){i:Nat}(hi:i<n){x:af}(hx:x.one=true) :
  ∃H',bB 1 H (ak b n i) x=some H'/\Row H' b (l.set i x)/\H'.next=H.next/\∀c,c≠b->H'.get c=H.get c:=by
 subst hn
 obtain⟨low,h1,h2⟩:=h
 exact⟨_,CE h1 h2 hi hx,⟨l.length,by rw[ae.get_set,if_pos rfl],by simp⟩,rfl,fun c hc=>by rw[ae.get_set,if_neg hc]⟩
theorem Row.same{H H':ae}{b:Nat}{l:List af}(h:Row H b l)(e:H'.get b=H.get b):Row H' b l:=by
 obtain⟨low,h1,h2⟩:=h; exact⟨low,e.trans h1,h2⟩
theorem Dw{H:ae}{z:af}{bytes k:Nat}(hk:bytes*k<=281474976710656)(hk':k<=9223372036854775807) :
  gh bytes [z] H (.int .i64 (k:Int)) (.int .i64 (k:Int))=some (jU H.next k (.known k),H.push (.cells (List.replicate k z) 0 false)):=by
 obtain⟨s,h1,h2,_⟩:=DI (H:=H) (z:=z) rL hk hk'
 rw[h1,h2]; rfl
theorem jq(H:ae)(l:List af):Row (H.push (.cells l 0 false)) H.next l:=⟨0,by rw[ae.get_push,if_pos rfl],Nat.zero_le _⟩
theorem aS{H:ae}{o:dh}{c:Nat}(h:c<H.next):(H.push o).get c=H.get c:=by rw[ae.get_push,if_neg om]
theorem rx{H:ae}{z:af}{bytes k:Nat}(hk:bytes*k<=281474976710656)(hk':k<=9223372036854775807) :
  ∃H',gh bytes [z] H (.int .i64 (k:Int)) (.int .i64 (k:Int))=some (jU H.next k (.known k),H')/\Row H' H.next (List.replicate k z)/\H'.next=H.next+1/\∀c,c≠H.next->H'.get c=H.get c:=
 ⟨_,Dw hk hk',jq _ _,rfl,fun c hc=>by rw[ae.get_push,if_neg hc]⟩
end Go.Abs.S
namespace Go.Abs.S
open Go.Abs
section
variable {C:CS} {Q:kV} {T:bK} {H:ae} {K:bK->ae->Prop} {r:List aj} {d:Option Nat}
theorem AP:wp C .skip Q T H=Q .normal T H:=_root_.id rfl
theorem Ff(ops:List aj):wp C (.reg ops) Q T H=aU C ops T H (Q .normal):=_root_.id rfl
theorem yE(a b:bC):wp C (.seq a b) Q T H=wp C a (jg Q (wp C b Q)) T H:=_root_.id rfl
open Classical in
theorem AR(c:bb)(a b:bC):wp C (.cond c a b) Q T H=if sX T c=.bool true then wp C a Q T H else if sX T c=.bool false then wp C b Q T H else False:=by
 simp only[wp]
 by_cases h:sX T c=.bool true
 ·rw[if_pos h,h]; simp
 ·rw[if_neg h]
  by_cases h':sX T c=.bool false
  ·rw[if_pos h',h']; simp
  ·rw[if_neg h']
   simp only[eq_iff_iff,iff_false,not_exists,not_and]
   intro v hv
   cases v
   ·exact absurd hv h'
   ·exact absurd hv h
theorem wt(id:Nat)(c:bC):wp C (.block id c) Q T H=wp C c (jC id Q) T H:=_root_.id rfl
theorem AQ(id:Nat):wp C (.exit id) Q T H=Q (.exit id) T H:=_root_.id rfl
theorem Fe:wp C .ret Q T H=Q .ret T H:=_root_.id rfl
theorem iN:jg Q K .normal T H=K T H:=_root_.id rfl
theorem pD(i:Nat):jg Q K (.exit i) T H=Q (.exit i) T H:=_root_.id rfl
theorem rS:jg Q K .ret T H=Q .ret T H:=_root_.id rfl
theorem pE(id i:Nat):jC id Q (.exit i) T H=if i=id then Q .normal T H else Q (.exit i) T H:=by
 simp only[jC]
 by_cases h:i=id
 ·subst h; rw[if_pos rfl,Nat.beq_refl]; rfl
 ·rw[if_neg h,show Nat.beq i id=false by rw[dy]; exact decide_eq_false h]; rfl
theorem lQ(id:Nat):jC id Q .normal T H=Q .normal T H:=_root_.id rfl
theorem rT(id:Nat):jC id Q .ret T H=Q .ret T H:=_root_.id rfl
theorem bL{c:bC}(I:Nat->bK->ae->Prop)(m:Nat)(h0:I m T H)(h:∀m T H,I m T H->wp C c (jg Q fun T' H'=>∃m',m'<m/\I m' T' H') T H):wp C (.loop c) Q T H:=⟨I,⟨m,h0⟩,h⟩
def iE(o:Option af)(C:CS)(r:List aj)(T:bK)(d:Option Nat)(H:ae)(K:bK->ae->Prop):Prop:=cW o fun v=>aU C r (gq T d v) H K
def Cw(o:Option (af×ae))(C:CS)(r:List aj)(T:bK)(d:Option Nat)(K:bK->ae->Prop):Prop:=cW o fun p=>aU C r (gq T d p.1) p.2 K
def Lr(o:Option ae)(C:CS)(r:List aj)(T:bK)(d:Option Nat)(K:bK->ae->Prop):Prop:=cW o fun H'=>aU C r (gq T d aJ) H' K
def Jm(C:CS)(r:List aj)(T:bK)(d:Option Nat)(K:bK->ae->Prop):af->ae->Prop:=fun v H'=>aU C r (gq T d v) H' K
theorem sY(v:af):iE (some v) C r T d H K=aU C r (gq T d v) H K:=cE _ _
theorem sZ(v:af)(H':ae):Cw (some (v,H')) C r T d K=aU C r (gq T d v) H' K:=cE _ _
theorem sV(H':ae):Lr (some H') C r T d K=aU C r (gq T d aJ) H' K:=cE _ _
theorem vq(v:af):Jm C r T d K v H=aU C r (gq T d v) H K:=_root_.id rfl
theorem Fo:aU C [] T H K=K T H:=_root_.id rfl
open Classical in
theorem wA(o:gn)(t:Nat)(b:Bool)(ht:t<1000000):aU C (⟨d,o,some (t,b)⟩::r) T H K=if T t=.bool b then aU C (⟨d,o,none⟩::r) T H K else aU C r (gq T d aJ) H K:=by
 simp only[aU,Id T ht]
 by_cases h:T t=.bool b
 ·rw[if_pos h,h]; cases b <;> rfl
 ·rw[if_neg h]
  have:Kd b (T t)=false:=by
   unfold Kd
   cases hv:T t <;> simp only[LD]
   rename_i v
   rw[hv]at h
   cases b <;> cases v <;> simp at h ⊢
  rw[this]; rfl
theorem IE(x:bb):aU C (⟨d,.mv x,none⟩::r) T H K=aU C r (gq T d (sX T x)) H K:=_root_.id rfl
open Classical in
theorem AU(c a b:bb):aU C (⟨d,.pick c a b,none⟩::r) T H K=if sX T c=.bool true then aU C r (gq T d (sX T a)) H K else if sX T c=.bool false then aU C r (gq T d (sX T b)) H K else False:=by
 simp only[aU,sG,Bj,cond_true]
 by_cases h:sX T c=.bool true
 ·rw[if_pos h,h]; simp
 ·rw[if_neg h]
  by_cases h':sX T c=.bool false
  ·rw[if_pos h',h']; simp
  ·rw[if_neg h']
   simp only[eq_iff_iff,iff_false,not_exists,not_and]
   intro v hv
   cases v
   ·exact absurd hv h'
   ·exact absurd hv h
theorem Fq(z:List af):aU C (⟨d,.new z,none⟩::r) T H K=aU C r (gq T d (ey H z).1) (ey H z).2 K:=_root_.id rfl
theorem Fu(x:bb):aU C (⟨d,.box x,none⟩::r) T H K=aU C r (gq T d (ey H (sX T x).cells).1) (ey H (sX T x).cells).2 K:=_root_.id rfl
theorem wD(z:List af)(ps:List (Nat×Nat×bb)):aU C (⟨d,.build z ps,none⟩::r) T H K=iE (bQ z (CA T ps)) C r T d H K:=_root_.id rfl
theorem qg(n:Nat)(z:List af)(ps:List (Nat×Nat×bb)):aU C (⟨d,.buildSl n z ps,none⟩::r) T H K=Cw (bU n z H (CA T ps)) C r T d K:=_root_.id rfl
theorem AV(a:Bool)(n:Nat)(x:bb):aU C (⟨d,.load a n x,none⟩::r) T H K=iE (bg a n H (sX T x)) C r T d H K:=_root_.id rfl
theorem wy(n:Nat)(a x:bb):aU C (⟨d,.store n a x,none⟩::r) T H K=Lr (bB n H (sX T a) (sX T x)) C r T d K:=_root_.id rfl
theorem sH(x:bb):aU C (⟨d,.nilChk x,none⟩::r) T H K=iE (b6 (sX T x)) C r T d H K:=_root_.id rfl
theorem Fv(op:BinOp)(x y:bb):aU C (⟨d,.bin op x y,none⟩::r) T H K=iE (bV op (sX T x) (sX T y)) C r T d H K:=_root_.id rfl
theorem IA(op:UnOp)(x:bb):aU C (⟨d,.un op x,none⟩::r) T H K=iE (CC op (sX T x)) C r T d H K:=_root_.id rfl
theorem AY(k:IntKind)(x:bb):aU C (⟨d,.conv k x,none⟩::r) T H K=iE (nM k (sX T x)) C r T d H K:=_root_.id rfl
theorem sN(x:bb):aU C (⟨d,.convSB x,none⟩::r) T H K=Cw (Kj H (sX T x)) C r T d K:=_root_.id rfl
theorem sO(x:bb):aU C (⟨d,.convBS x,none⟩::r) T H K=iE (Ct H (sX T x)) C r T d H K:=_root_.id rfl
theorem sI(fn:Fn)(a b:List bb):aU C (⟨d,.mkFunc fn a b,none⟩::r) T H K=aU C r (gq T d (.func fn (nu T a) (nu T b))) H K:=_root_.id rfl
theorem qe(t:TypeId)(x:bb):aU C (⟨d,.mkIface t x,none⟩::r) T H K=aU C r (gq T d (.iface t (sX T x))) H K:=_root_.id rfl
theorem qd(b:Nat)(z:List af)(l c:bb):aU C (⟨d,.mkSlice b z l c,none⟩::r) T H K=Cw (gh b z H (sX T l) (sX T c)) C r T d K:=_root_.id rfl
theorem IB(n:Nat)(x:bb)(lo hi mx:Option bb):aU C (⟨d,.sl n x lo hi mx,none⟩::r) T H K=iE (FG n (sX T x) (mh T lo) (mh T hi) (mh T mx)) C r T d H K:=_root_.id rfl
theorem wz(x:bb)(lo hi:Option bb):aU C (⟨d,.slStr x lo hi,none⟩::r) T H K=iE (eI (sX T x) (mh T lo) (mh T hi)) C r T d H K:=_root_.id rfl
theorem sM(o:Nat)(x:bb):aU C (⟨d,.fieldA o x,none⟩::r) T H K=iE (gj o (sX T x)) C r T d H K:=_root_.id rfl
theorem wB(a:Bool)(n o:Nat)(x:bb):aU C (⟨d,.field a n o x,none⟩::r) T H K=iE (kh a n o (sX T x)) C r T d H K:=_root_.id rfl
theorem AX(n:Nat)(x i:bb):aU C (⟨d,.idxA n x i,none⟩::r) T H K=iE (gi n (sX T x) (sX T i)) C r T d H K:=_root_.id rfl
theorem sK(m n:Nat)(x i:bb):aU C (⟨d,.idxArr m n x i,none⟩::r) T H K=iE (gL m n (sX T x) (sX T i)) C r T d H K:=_root_.id rfl
theorem Ft(m n:Nat)(a:Bool)(x i:bb):aU C (⟨d,.idx m n a x i,none⟩::r) T H K=iE (yK m n a (sX T x) (sX T i)) C r T d H K:=_root_.id rfl
theorem AW(x i:bb):aU C (⟨d,.idxS x i,none⟩::r) T H K=iE (iC (sX T x) (sX T i)) C r T d H K:=_root_.id rfl
theorem qf(i:Nat)(x:bb):aU C (⟨d,.extract i x,none⟩::r) T H K=iE (dl i (sX T x)) C r T d H K:=_root_.id rfl
theorem sP(n b:Nat)(s x:bb):aU C (⟨d,.append n b s x,none⟩::r) T H K=Cw (bD n b H (sX T s) (sX T x)) C r T d K:=_root_.id rfl
theorem Fs(s:Bool)(x:bb):aU C (⟨d,.len s x,none⟩::r) T H K=iE (fD s (sX T x)) C r T d H K:=_root_.id rfl
theorem AZ(f:FuncId)(args:List bb):aU C (⟨d,.call f args,none⟩::r) T H K=C f (nu T args) H (Jm C r T d K):=_root_.id rfl
def mR(C:CS)(f:af)(args:List af)(H:ae)(K:af->ae->Prop):Prop:=∃g a b,f=.func (.func g) a b/\Nat.blt g bI=true/\C g (a++args++b) H K
theorem nI(g:Nat)(a b args:List af)(K:af->ae->Prop)(hg:g<1024):mR C (.func (.func g) a b) args H K=C g (a++args++b) H K:=by
 simp only[mR,af.func.injEq,Fn.func.injEq]
 apply propext
 constructor
 ·rintro ⟨g,a,b,⟨rfl,rfl,rfl⟩,_,h⟩; exact h
 ·intro h; exact⟨_,_,_,⟨rfl,rfl,rfl⟩,NB hg,h⟩
theorem wC(f:bb)(args:List bb):aU C (⟨d,.callv f args,none⟩::r) T H K=mR C (sX T f) (nu T args) H (Jm C r T d K):=_root_.id rfl
theorem IC(f:PF)(xs:List bb):aU C (⟨d,.pf f xs,none⟩::r) T H K=iE (jj f (nu T xs)) C r T d H K:=_root_.id rfl
theorem IF(f:HF)(xs:List bb):aU C (⟨d,.hf f xs,none⟩::r) T H K=Cw (me f H (nu T xs)) C r T d K:=_root_.id rfl
theorem Fm(m n:Nat)(x:bb)(lo hi mx:Option bb):aU C (⟨d,.slA m n x lo hi mx,none⟩::r) T H K=iE (gW m n (sX T x) (mh T lo) (mh T hi) (mh T mx)) C r T d H K:=_root_.id rfl
theorem uy(i:Nat)(v:af):gq T (some i) v=up T i v:=_root_.id rfl
theorem uz(v:af):gq T none v=T:=_root_.id rfl
theorem Kz(i:Nat):sX T (.t i)=T i:=_root_.id rfl
theorem KB(v:af):sX T (.c v)=v:=_root_.id rfl
theorem KA(i:Nat):sX T (.f i)=.func (.func i) [] []:=_root_.id rfl
theorem Ir(i:Nat)(K:af->ae->Prop):gX [.t i] K .ret T H=K (T i) H:=by
 simp only[gX,mi,cE]; rfl
theorem EB(i j:Nat)(K:af->ae->Prop):gX [.t i,.t j] K .ret T H=K (.tuple [T i,T j]) H:=by
 simp only[gX,mi,cE]; rfl
theorem EA(i j k:Nat)(K:af->ae->Prop):gX [.t i,.t j,.t k] K .ret T H=K (.tuple [T i,T j,T k]) H:=by
 simp only[gX,mi,cE]; rfl
def mg(C:CS):Prop:=∀f a H (K K':af->ae->Prop),(∀v H,K v H->K' v H)->C f a H K->C f a H K'
theorem bP(P:Program)(N:go):mg (an P N):=fun _ _ _ _ _ h hc=>hc.mono h
theorem oM(hC:mg C){K K':af->ae->Prop}(h:∀v H,K v H->K' v H){o:gn}(hw:Bj C T H K o):Bj C T H K' o:=by
 cases o
 case call f args=>exact hC _ _ _ _ _ h hw
 case callv f args=>obtain⟨g,a,b,h1,h0,h2⟩:=hw; exact⟨g,a,b,h1,h0,hC _ _ _ _ _ h h2⟩
 case pick c a b=>obtain⟨v,h1,h2⟩:=hw; exact⟨v,h1,h _ _ h2⟩
 case bad=>exact hw
 all_goals first
  | exact h _ _ hw
  | exact cW.mono hw fun v hv=>h _ _ hv
theorem CI(hC:mg C):∀(l:List aj) {T:bK} {H:ae} {K:List (af×ae)->bK->ae->Prop} {K':bK->ae->Prop},(∀ss T H,K' T H->K ss T H)->aU C l T H K'->dQ C l T H K:=by
 intro l
 induction l with
 | nil=>intro T H K K' h hw; exact h _ _ _ hw
 | cons o l ih=>
  intro T H K K' h hw
  simp only[aU,dQ]at hw ⊢
  cases hg:sG T o.guard with
  | false=>rw[hg]at hw; exact ih (fun ss T H=>h _ T H) hw
  | true=>
   rw[hg]at hw
   simp only[cond_true]at hw ⊢
   exact oM hC (fun v H' hw=>ih (fun ss T H=>h _ T H) hw) hw
def qk:List (List Nat)->Bool
 | []=>true
 | []::r=>qk r
 | _::_=>false
theorem EQ{hs:List ae}:∀(l:List aj) (ps:List (List Nat)) (ss:List (af×ae)) (T:bK),qk ps=true->wY hs l ps ss T
 | [],_,_,_,_=>trivial
 | o::l,[],_,_,_=>trivial
 | o::l,[]::ps,[],_,_=>trivial
 | o::l,[]::ps,(v,Hv)::ss,T,h=>⟨fun p hp=>by simp at hp,EQ l ps ss _ h⟩
 | o::l,(q::p)::ps,_,_,h=>by simp[qk]at h
def pq:List aj->Bool
 | []=>true
 | o::r=>match dC o.op with
  | some _=>false
  | none=>pq r
theorem dK:∀(l:List aj),pq l=true->∀(b:Nat) (H:ae),az b l=l/\bO H l=H
 | [],_,b,H=>⟨rfl,rfl⟩
 | o::r,h,b,H=>by
  cases hz:dC o.op with
  | some p=>simp[pq,hz]at h
  | none=>
   simp only[pq,hz]at h
   exact⟨by simp only[az,hz,(dK r h b H).1],by simp only[bO,hz,(dK r h b H).2]⟩
theorem CJ(hC:mg C):∀(l:List aj) {T:bK} {H:ae} {K K':List (af×ae)->bK->ae->Prop},(∀ss T H,K ss T H->K' ss T H)->dQ C l T H K->dQ C l T H K':=by
 intro l
 induction l with
 | nil=>intro T H K K' h hw; exact h _ _ _ hw
 | cons o l ih=>
  intro T H K K' h hw
  simp only[dQ]at hw ⊢
  cases hg:sG T o.guard with
  | false=>rw[hg]at hw; exact ih (fun ss T H=>h _ T H) hw
  | true=>
   rw[hg]at hw
   simp only[cond_true]at hw ⊢
   exact oM hC (fun v H' hw=>ih (fun ss T H=>h _ T H) hw) hw
theorem wX(hC:mg C):∀(l:List aj) {T:bK} {H:ae} {K K':bK->ae->Prop},(∀T H,K T H->K' T H)->aU C l T H K->aU C l T H K':=by
 intro l
 induction l with
 | nil=>intro T H K K' h hw; exact h _ _ hw
 | cons o l ih=>
  intro T H K K' h hw
  simp only[aU]at hw ⊢
  cases hg:sG T o.guard with
  | false=>rw[hg]at hw; exact ih h hw
  | true=>
   rw[hg]at hw
   simp only[cond_true]at hw ⊢
   exact oM hC (fun v H' hw=>ih h hw) hw
theorem iO{Q Q':kV}{K K':bK->ae->Prop}(h:∀e T H,Q e T H->Q' e T H)(hk:∀T H,K T H->K' T H)(e:oD)(T:bK)(H:ae)(hq:jg Q K e T H):jg Q' K' e T H:=by
 cases e with
 | normal=>exact hk _ _ hq
 | exit i=>exact h _ _ _ hq
 | ret=>exact h _ _ _ hq
theorem oI(hC:mg C):∀(c:bC) {Q Q':kV} {T:bK} {H:ae},(∀e T H,Q e T H->Q' e T H)->wp C c Q T H->wp C c Q' T H:=by
 intro c
 induction c with
 | skip=>intro Q Q' T H h hw; exact h _ _ _ hw
 | reg l=>intro Q Q' T H h hw; exact wX hC l (h .normal) hw
 | draw l chk=>intro Q Q' T H h hw; exact CJ hC _ (fun ss T' H' hk=>⟨hk.1,h _ _ _ hk.2⟩) hw
 | seq a b iha ihb=>intro Q Q' T H h hw; exact iha (iO h fun T H hk=>ihb h hk) hw
 | cond c a b iha ihb=>
  intro Q Q' T H h hw
  obtain⟨v,h1,h2⟩:=hw
  refine⟨v,h1,?_⟩
  cases v with
  | true=>exact iha h h2
  | false=>exact ihb h h2
 | block id c ih=>
  intro Q Q' T H h hw
  refine ih (fun e T H hk=>?_) hw
  cases e with
  | exit j=>
   simp only[jC]at hk ⊢
   cases hb:Nat.beq j id with
   | true=>rw[hb]at hk; exact h _ _ _ hk
   | false=>rw[hb]at hk; exact h _ _ _ hk
  | normal=>exact h _ _ _ hk
  | ret=>exact h _ _ _ hk
 | loop c ih=>
  intro Q Q' T H h hw
  obtain⟨I,hm,hI⟩:=hw
  exact⟨I,hm,fun m T H hi=>ih (iO h fun _ _ hk=>hk) (hI m T H hi)⟩
 | exit id=>intro Q Q' T H h hw; exact h _ _ _ hw
 | ret=>intro Q Q' T H h hw; exact h _ _ _ hw
def tB:bC->bC
 | .draw l chk=>bif qk chk&&pq l then .reg l else .draw l chk
 | .seq a b=>.seq (tB a) (tB b)
 | .cond c a b=>.cond c (tB a) (tB b)
 | .block id c=>.block id (tB c)
 | .loop c=>.loop (tB c)
 | c=>c
theorem Ga(hC:mg C):∀(c:bC) {Q:kV} {T:bK} {H:ae},wp C (tB c) Q T H->wp C c Q T H:=by
 intro c
 induction c with
 | skip=>intro Q T H hw; exact hw
 | reg l=>intro Q T H hw; exact hw
 | draw l chk=>
  intro Q T H hw
  simp only[tB]at hw
  cases hb:qk chk&&pq l with
  | false=>rw[hb]at hw; exact hw
  | true=>
   rw[hb]at hw
   simp only[NC]at hb
   simp only[wp,yO,(dK l hb.2 H.next H).1,(dK l hb.2 H.next H).2]
   exact CI hC l (K:=fun ss T' H'=>wY (H::ss.map (·.2)) l chk ss T/\Q .normal T' H') (fun ss T' H' hk=>⟨EQ l chk ss T hb.1,hk⟩) hw
 | seq a b iha ihb=>intro Q T H hw; exact oI hC a (iO (fun _ _ _ h=>h) fun T H hk=>ihb hk) (iha hw)
 | cond c a b iha ihb=>
  intro Q T H hw
  obtain⟨v,h1,h2⟩:=hw
  refine⟨v,h1,?_⟩
  cases v with
  | true=>exact iha h2
  | false=>exact ihb h2
 | block id c ih=>intro Q T H hw; exact ih hw
 | loop c ih=>
  intro Q T H hw
  obtain⟨I,hm,hI⟩:=hw
  exact⟨I,hm,fun m T H hi=>ih (hI m T H hi)⟩
 | exit id=>intro Q T H hw; exact hw
 | ret=>intro Q T H hw; exact hw
def cN(P:Program)(f:FuncId):Option bW:=match FX P f with
 | some c=>some ⟨c.nt,tB c.body,c.res⟩
 | none=>none
theorem ai{P:Program}{N:go}{f:FuncId}{c:bW}{args:List af}{H:ae}{K:af->ae->Prop}(hn:N.is f=false)(hc:cN P f=some c)(hl:Nat.ble args.length c.nt=true)(h:wp (an P N) c.body (gX c.res K) (qQ args) H)(hm:N.md f=none:=by rfl)(hfb:Nat.blt f bI=true:=by rfl):an P N f args H K:=by
 unfold cN at hc
 cases hf:FX P f with
 | none=>rw[hf]at hc; simp at hc
 | some c'=>
  rw[hf]at hc
  simp only[sJ]at hc
  subst hc
  exact Cp hn (B8 hf hm hfb) hl (Ga (bP P N) _ h)
theorem eG{l:List aj}{chk:List (List Nat)}(h2:pq l=true)(h:dQ C l T H fun ss T' H'=>wY (H::ss.map (·.2)) l chk ss T/\Q .normal T' H'):wp C (.draw l chk) Q T H:=by
 simp only[wp,yO,(dK l h2 H.next H).1,(dK l h2 H.next H).2]
 exact h
end
theorem Fl(a:af)(r:List af):qQ (a::r) 0=a:=_root_.id rfl
theorem Fk(a b:af)(r:List af):qQ (a::b::r) 1=b:=_root_.id rfl
theorem Fj(a b c:af)(r:List af):qQ (a::b::c::r) 2=c:=_root_.id rfl
theorem Fi(a b c d:af)(r:List af):qQ (a::b::c::d::r) 3=d:=_root_.id rfl
theorem Fh(a b c d e:af)(r:List af):qQ (a::b::c::d::e::r) 4=e:=_root_.id rfl
theorem AH(k:IntKind)(a b:Int):bV .lss (.int k a) (.int k b)=some (.bool (decide (a<b))):=by
 simp[bV,bZ,cy,ji]
theorem AJ(k:IntKind)(a b:Int):bV .leq (.int k a) (.int k b)=some (.bool (decide (a<=b))):=by
 simp[bV,bZ,cy,ji]
theorem AK(k:IntKind)(a b:Int):bV .gtr (.int k a) (.int k b)=some (.bool (decide (b<a))):=by
 simp[bV,bZ,cy,ji]
theorem AL(k:IntKind)(a b:Int):bV .geq (.int k a) (.int k b)=some (.bool (decide (b<=a))):=by
 simp[bV,bZ,cy,ji]
theorem AM(k:IntKind)(a b:Int):bV .eql (.int k a) (.int k b)=some (.bool (decide (a=b))):=by
 simp only[bV,bZ,cy,ji,cond_false,if_true]
 by_cases h:a=b <;> simp[h]
theorem AF(k:IntKind)(a b:Int):bV .neq (.int k a) (.int k b)=some (.bool (!decide (a=b))):=by
 simp only[bV,bZ,cy,ji,cond_false,if_true]
 by_cases h:a=b <;> simp[h,bne]
theorem AN(k:IntKind)(a b:Int):bV .add (.int k a) (.int k b)=some (.int k (k.wrap (a+b))):=by
 simp[bV,bZ,cy,ji]
theorem AD(k:IntKind)(a b:Int):bV .sub (.int k a) (.int k b)=some (.int k (k.wrap (a-b))):=by
 simp[bV,bZ,cy,ji]
theorem AG(k:IntKind)(a b:Int):bV .mul (.int k a) (.int k b)=some (.int k (k.wrap (a*b))):=by
 simp[bV,bZ,cy,ji]
theorem oA(k:IntKind)(a b:Int)(h:b≠0):bV .rem (.int k a) (.int k b)=some (.int k (a.tmod b)):=by
 simp[bV,bZ,cy,ji,h]
theorem Fdd(a b:Nat)(h:0<b):bV .rem (.int .i64 (a:Int)) (.int .i64 (b:Int))=some (.int .i64 ((a % b:Nat):Int)):=by
 rw[oA _ _ _ om]; rfl
theorem cF(a:Nat)(h:a+1<=9223372036854775807):IntKind.i64.wrap ((a:Int)+1)=((a+1:Nat):Int):=by
 rw[IntKind.wrap_i64]; omega
theorem aO{α:Type}{l:List α}{i:Nat}(h:i<l.length):∃x,l[i]?=some x:=⟨_,Nz h⟩
def vA(l:List Int):List af:=l.map fun n=>.int .i64 n
theorem vz(l:List Int):(vA l).length=l.length:=by simp[vA]
theorem BT(l:List Int)(n:Int):vA (l++[n])=vA l++[.int .i64 n]:=by simp[vA]
theorem aR{a:Int}(h1:-9223372036854775808<=a)(h2:a<=9223372036854775807):IntKind.i64.wrap a=a:=by
 rw[IntKind.wrap_i64]; omega
end Go.Abs.S
namespace Go.Abs
section
variable {P:Program} {Prot:Gh} {w0:World} {ρ:Pl} {H:ae} {w:World}
theorem Rel.keep(R:Rel Prot w0 ρ H w){w':World}(hb:RowKit.Below w.heap.size w w'):Rel Prot w0 ρ H w':=by
 refine⟨hb.os.trans R.os,hb.tape.trans R.tape,hb.output.trans R.output,Nat.le_trans R.size hb.size,fun c hc=>?_,fun b l L h=>?_,fun b l L h=>?_,R.free,R.inj,R.dead,R.glob⟩
 ·obtain⟨h1,h2⟩:=R.prot c hc
  exact⟨h1,(hb.block c (NN h1 R.size)).trans h2⟩
 ·obtain⟨h1,h2⟩:=R.dom b l L h
  exact⟨h1,NN h2 hb.size⟩
 ·obtain⟨x,o,h1,h2,h3⟩:=R.obj b l L h
  exact⟨x,o,h1,(hb.block _ (R.dom b l L h).2).trans h2,h3⟩
end
end Go.Abs
namespace Go.Abs.S
open Go.Abs
section
variable {C:CS} {T:bK} {H:ae} {r:List aj} {d:Option Nat}
abbrev KT:=List (af×ae)->bK->ae->Prop
variable {K:KT}
def fj(v:af)(H:ae)(K:KT):KT:=fun ss=>K ((v,H)::ss)
theorem sj(v:af)(H':ae)(ss:List (af×ae)):fj v H' K ss T H=K ((v,H')::ss) T H:=_root_.id rfl
def eo(o:Option af)(C:CS)(r:List aj)(T:bK)(d:Option Nat)(H:ae)(K:KT):Prop:=cW o fun v=>dQ C r (gq T d v) H (fj v H K)
def ta(o:Option (af×ae))(C:CS)(r:List aj)(T:bK)(d:Option Nat)(K:KT):Prop:=cW o fun p=>dQ C r (gq T d p.1) p.2 (fj p.1 p.2 K)
def IM(o:Option ae)(C:CS)(r:List aj)(T:bK)(d:Option Nat)(K:KT):Prop:=cW o fun H'=>dQ C r (gq T d aJ) H' (fj aJ H' K)
def Ee(C:CS)(r:List aj)(T:bK)(d:Option Nat)(K:KT):af->ae->Prop:=fun v H'=>dQ C r (gq T d v) H' (fj v H' K)
theorem qz(v:af):eo (some v) C r T d H K=dQ C r (gq T d v) H (fj v H K):=cE _ _
theorem qA(v:af)(H':ae):ta (some (v,H')) C r T d K=dQ C r (gq T d v) H' (fj v H' K):=cE _ _
theorem qy(H':ae):IM (some H') C r T d K=dQ C r (gq T d aJ) H' (fj aJ H' K):=cE _ _
theorem rQ(v:af):Ee C r T d K v H=dQ C r (gq T d v) H (fj v H K):=_root_.id rfl
theorem C6:dQ C [] T H K=K [] T H:=_root_.id rfl
open Classical in
theorem uE(o:gn)(t:Nat)(b:Bool)(ht:t<1000000):dQ C (⟨d,o,some (t,b)⟩::r) T H K=if T t=.bool b then dQ C (⟨d,o,none⟩::r) T H K else dQ C r (gq T d aJ) H (fj aJ H K):=by
 simp only[dQ,Id T ht]
 by_cases h:T t=.bool b
 ·rw[if_pos h,h]; cases b <;> rfl
 ·rw[if_neg h]
  have:Kd b (T t)=false:=by
   unfold Kd
   cases hv:T t <;> simp only[LD]
   rename_i v
   rw[hv]at h
   cases b <;> cases v <;> simp at h ⊢
  rw[this]; rfl
open Classical in
theorem yR(c a b:bb):dQ C (⟨d,.pick c a b,none⟩::r) T H K=if sX T c=.bool true then dQ C r (gq T d (sX T a)) H (fj (sX T a) H K) else if sX T c=.bool false then dQ C r (gq T d (sX T b)) H (fj (sX T b) H K) else False:=by
 simp only[dQ,sG,Bj,cond_true]
 by_cases h:sX T c=.bool true
 ·rw[if_pos h,h]; simp; rfl
 ·rw[if_neg h]
  by_cases h':sX T c=.bool false
  ·rw[if_pos h',h']; simp; rfl
  ·rw[if_neg h']
   simp only[eq_iff_iff,iff_false,not_exists,not_and]
   intro v hv
   cases v
   ·exact absurd hv h'
   ·exact absurd hv h
theorem HU(x:bb):dQ C (⟨d,.mv x,none⟩::r) T H K=dQ C r (gq T d (sX T x)) H (fj (sX T x) H K):=_root_.id rfl
theorem C7(z:List af):dQ C (⟨d,.new z,none⟩::r) T H K=dQ C r (gq T d (ey H z).1) (ey H z).2 (fj (ey H z).1 (ey H z).2 K):=_root_.id rfl
theorem Da(x:bb):dQ C (⟨d,.box x,none⟩::r) T H K=dQ C r (gq T d (ey H (sX T x).cells).1) (ey H (sX T x).cells).2 (fj (ey H (sX T x).cells).1 (ey H (sX T x).cells).2 K):=_root_.id rfl
theorem uH(z:List af)(ps:List (Nat×Nat×bb)):dQ C (⟨d,.build z ps,none⟩::r) T H K=eo (bQ z (CA T ps)) C r T d H K:=_root_.id rfl
theorem oV(n:Nat)(z:List af)(ps:List (Nat×Nat×bb)):dQ C (⟨d,.buildSl n z ps,none⟩::r) T H K=ta (bU n z H (CA T ps)) C r T d K:=_root_.id rfl
theorem yS(a:Bool)(n:Nat)(x:bb):dQ C (⟨d,.load a n x,none⟩::r) T H K=eo (bg a n H (sX T x)) C r T d H K:=_root_.id rfl
theorem uC(n:Nat)(a x:bb):dQ C (⟨d,.store n a x,none⟩::r) T H K=IM (bB n H (sX T a) (sX T x)) C r T d K:=_root_.id rfl
theorem qY(x:bb):dQ C (⟨d,.nilChk x,none⟩::r) T H K=eo (b6 (sX T x)) C r T d H K:=_root_.id rfl
theorem Db(op:BinOp)(x y:bb):dQ C (⟨d,.bin op x y,none⟩::r) T H K=eo (bV op (sX T x) (sX T y)) C r T d H K:=_root_.id rfl
theorem HR(op:UnOp)(x:bb):dQ C (⟨d,.un op x,none⟩::r) T H K=eo (CC op (sX T x)) C r T d H K:=_root_.id rfl
theorem yV(k:IntKind)(x:bb):dQ C (⟨d,.conv k x,none⟩::r) T H K=eo (nM k (sX T x)) C r T d H K:=_root_.id rfl
theorem re(x:bb):dQ C (⟨d,.convSB x,none⟩::r) T H K=ta (Kj H (sX T x)) C r T d K:=_root_.id rfl
theorem rf(x:bb):dQ C (⟨d,.convBS x,none⟩::r) T H K=eo (Ct H (sX T x)) C r T d H K:=_root_.id rfl
theorem qZ(fn:Fn)(a b:List bb):dQ C (⟨d,.mkFunc fn a b,none⟩::r) T H K=dQ C r (gq T d (.func fn (nu T a) (nu T b))) H (fj (.func fn (nu T a) (nu T b)) H K):=_root_.id rfl
theorem oT(t:TypeId)(x:bb):dQ C (⟨d,.mkIface t x,none⟩::r) T H K=dQ C r (gq T d (.iface t (sX T x))) H (fj (.iface t (sX T x)) H K):=_root_.id rfl
theorem oS(b:Nat)(z:List af)(l c:bb):dQ C (⟨d,.mkSlice b z l c,none⟩::r) T H K=ta (gh b z H (sX T l) (sX T c)) C r T d K:=_root_.id rfl
theorem HS(n:Nat)(x:bb)(lo hi mx:Option bb):dQ C (⟨d,.sl n x lo hi mx,none⟩::r) T H K=eo (FG n (sX T x) (mh T lo) (mh T hi) (mh T mx)) C r T d H K:=_root_.id rfl
theorem uD(x:bb)(lo hi:Option bb):dQ C (⟨d,.slStr x lo hi,none⟩::r) T H K=eo (eI (sX T x) (mh T lo) (mh T hi)) C r T d H K:=_root_.id rfl
theorem rc(o:Nat)(x:bb):dQ C (⟨d,.fieldA o x,none⟩::r) T H K=eo (gj o (sX T x)) C r T d H K:=_root_.id rfl
theorem uF(a:Bool)(n o:Nat)(x:bb):dQ C (⟨d,.field a n o x,none⟩::r) T H K=eo (kh a n o (sX T x)) C r T d H K:=_root_.id rfl
theorem yU(n:Nat)(x i:bb):dQ C (⟨d,.idxA n x i,none⟩::r) T H K=eo (gi n (sX T x) (sX T i)) C r T d H K:=_root_.id rfl
theorem ra(m n:Nat)(x i:bb):dQ C (⟨d,.idxArr m n x i,none⟩::r) T H K=eo (gL m n (sX T x) (sX T i)) C r T d H K:=_root_.id rfl
theorem C9(m n:Nat)(a:Bool)(x i:bb):dQ C (⟨d,.idx m n a x i,none⟩::r) T H K=eo (yK m n a (sX T x) (sX T i)) C r T d H K:=_root_.id rfl
theorem yT(x i:bb):dQ C (⟨d,.idxS x i,none⟩::r) T H K=eo (iC (sX T x) (sX T i)) C r T d H K:=_root_.id rfl
theorem oU(i:Nat)(x:bb):dQ C (⟨d,.extract i x,none⟩::r) T H K=eo (dl i (sX T x)) C r T d H K:=_root_.id rfl
theorem rh(n b:Nat)(s x:bb):dQ C (⟨d,.append n b s x,none⟩::r) T H K=ta (bD n b H (sX T s) (sX T x)) C r T d K:=_root_.id rfl
theorem C8(s:Bool)(x:bb):dQ C (⟨d,.len s x,none⟩::r) T H K=eo (fD s (sX T x)) C r T d H K:=_root_.id rfl
theorem yW(f:FuncId)(args:List bb):dQ C (⟨d,.call f args,none⟩::r) T H K=C f (nu T args) H (Ee C r T d K):=_root_.id rfl
theorem uG(f:bb)(args:List bb):dQ C (⟨d,.callv f args,none⟩::r) T H K=mR C (sX T f) (nu T args) H (Ee C r T d K):=_root_.id rfl
theorem HT(f:PF)(xs:List bb):dQ C (⟨d,.pf f xs,none⟩::r) T H K=eo (jj f (nu T xs)) C r T d H K:=_root_.id rfl
theorem HV(f:HF)(xs:List bb):dQ C (⟨d,.hf f xs,none⟩::r) T H K=ta (me f H (nu T xs)) C r T d K:=_root_.id rfl
theorem C5(m n:Nat)(x:bb)(lo hi mx:Option bb):dQ C (⟨d,.slA m n x lo hi mx,none⟩::r) T H K=eo (gW m n (sX T x) (mh T lo) (mh T hi) (mh T mx)) C r T d H K:=_root_.id rfl
theorem fK(hs:List ae)(o:aj)(l:List aj)(ps:List (List Nat))(v:af)(Hv:ae)(ss:List (af×ae)):wY hs (o::l) ([]::ps) ((v,Hv)::ss) T=wY hs l ps ss (gq T o.dst v):=by
 simp[wY]
def JJ(hs:List ae)(ps:List Nat)(T:bK)(o:aj)(v:af):Prop:=∀p∈ps,∃Hp,hs[p]?=some Hp/\(sG T o.guard=true->∃u,Ly T Hp o.op=some u/\aeq u v=true)
theorem fL(hs:List ae)(o:aj)(l:List aj)(p:Nat)(q:List Nat)(ps:List (List Nat))(v:af)(Hv:ae)(ss:List (af×ae)):wY hs (o::l) ((p::q)::ps) ((v,Hv)::ss) T=(JJ hs (p::q) T o v/\wY hs l ps ss (gq T o.dst v)):=by
 simp[wY,JJ]
theorem iV(hs:List ae)(ps:List (List Nat))(ss:List (af×ae)):wY hs [] ps ss T=True:=by
 cases ps <;> simp[wY]
theorem fM(hs:List ae)(o:aj)(v:af):JJ hs [] T o v=True:=by simp[JJ]
theorem eF(hs:List ae)(p:Nat)(q:List Nat)(a:Bool)(n:Nat)(x:bb)(g:Option (Nat×Bool))(v:af):JJ hs (p::q) T ⟨d,.load a n x,g⟩ v=((∃Hp,hs[p]?=some Hp/\(sG T g=true->∃u,bg a n Hp (sX T x)=some u/\aeq u v=true))/\JJ hs q T ⟨d,.load a n x,g⟩ v):=by
 simp[JJ,Ly]
theorem gK(k:IntKind)(a:Int):aeq (.int k a) (.int k a)=true:=by simp[aeq,iQ]
end
end Go.Abs.S
namespace Go.Abs.S
open Go.Abs
theorem I9{H:ae}{a:Ad}{n k:Nat}{xs:List af}(h:aT H a n=some xs)(hk:k<=n):aT H a k=some (xs.take k):=by
 obtain⟨l,low,ro,h1,h2,h3,h4,rfl⟩:=iJ h
 unfold aT
 simp only[h1,NB h2,NB h3,NB (show a.o+k<=a.lim by omega),Bool.and_self,cond_true]
 rw[List.take_take,Nat.min_eq_left hk]
theorem aP(H:ae)(l:List af){n:Nat}(hn:l.length=n):∃H',ey H l=(ak H.next n 0,H')/\Row H' H.next l/\H'.next=H.next+1/\∀c,c≠H.next->H'.get c=H.get c:=by
 subst hn
 exact⟨_,rfl,jq _ _,rfl,fun c hc=>by rw[ae.get_push,if_neg hc]⟩
theorem sx(l:List af):(af.agg l).cells=l:=_root_.id rfl
theorem bT(x:af)(r:List af):dl 0 (.tuple (x::r))=some x:=_root_.id rfl
theorem bS(x y:af)(r:List af):dl 1 (.tuple (x::y::r))=some y:=_root_.id rfl
theorem fB(x y z:af)(r:List af):dl 2 (.tuple (x::y::z::r))=some z:=_root_.id rfl
theorem ud{b n i:Nat}(h:i<n)(k:IntKind):gL n 1 (ak b n 0) (.int k (i:Int))=some (ak b n i):=by
 show (bif Nat.blt i n then some (af.ptr (some ⟨b,n,0+i*1⟩)) else none)=_
 have:Nat.blt i n=true:=by simpa[Nat.blt_eq] using h
 rw[this,Nat.zero_add,Nat.mul_one]; rfl
theorem bw.of_new{H H':ae}{b:Nat}(hn:H'.next=H.next+1)(h:∀c,c≠b->H'.get c=H.get c){n:Nat}(hb:n<=b):bw n H H':=⟨om,fun c hc=>h c om⟩
end Go.Abs.S
namespace Go.Abs.S
open Go.Abs Go.WideShapes Go.ChangeShapes
variable {H:Type} {enc:TypeId×Value->H}
end Go.Abs.S
namespace Go.Abs.S
open Go.Abs
def FZ(s t:af):Prop:=∀a m r b m' r',s=.slice (some a) m r->t=.slice (some b) m' r'->a.b≠b.b
theorem FZ.symm{s t:af}(h:FZ s t):FZ t s:=fun a m r b m' r' h1 h2 e=>h b m' r' a m r h2 h1 e.symm
theorem tT(t:af):FZ cj t:=by intro a m r b m' r' h; simp[cj]at h
theorem ft{C:CS}{c:bC}{id:Nat}{Q:kV}{T:bK}{H:ae}(F:bK->ae->Prop)(hC:mg C)(h:wp C c (jC id (jg Q F)) T H)(k:∀T H,F T H->Q .normal T H):wp C c (jC id Q) T H:=by
 refine oI hC c (fun e T H hq=>?_) h
 cases e with
 | normal=>exact k _ _ hq
 | ret=>exact hq
 | exit j=>
  simp only[jC]at hq ⊢
  cases hb:Nat.beq j id with
  | true=>rw[hb]at hq; exact k _ _ hq
  | false=>rw[hb]at hq; exact hq
end Go.Abs.S
