/- Part of a proof (A11g A11h A11i A12 S1 S2 S3 S4 S5 N0 S6 S7 S8 S9); no condition. -/
import Derived.IntWalk
import Derived.Below
import Derived.OpenShut
import Derived.ChangeSlices
import Derived.WideShapes
import Derived.SizedLaws
import Derived.Test.YtfleblkgifoeaaaDoorP5
set_option linter.unusedSimpArgs false
set_option linter.unusedVariables false
set_option linter.unnecessarySimpa false
namespace Go.Abs
def si(n:Nat):List lJ->Bool
 | []=>true
 | .t i::r=>Nat.blt i n&&si n r
 | .cell _ _ i::r=>Nat.blt i n&&si n r
def jZ(b:Nat):List lJ->List ah
 | []=>[]
 | .t i::r=>⟨some b,.mv (.t i),none⟩::jZ (b+1) r
 | .cell g m i::r=>⟨some b,.load g m (.t i),none⟩::jZ (b+1) r
def jY(b:Nat):Nat->List aV
 | 0=>[]
 | k+1=>.t b::jY (b+1) k
def CO(n:Nat)(res:List lJ):bE:=.seq (.reg (jZ (n+4) res++[⟨some (n+3),.pf .tup (jY (n+4) res.length),none⟩])) .ret
def rr(n b i:Nat):Nat->List ah
 | 0=>[]
 | k+1=>⟨some b,.pf (.capt i) [.t (n+1)],none⟩::rr n (b+1) (i+1) k
def tU(n G k:Nat):List ah:=⟨some (n+2),.pf (.isF G k) [.t (n+1)],none⟩::rr n (n+4) 0 k
def vS(n:Nat)(res:List lJ)(raw:Bool)(df:Option (Nat×Nat×Bool)):bE:=
 .seq (.reg [⟨some (n+2),.pf .isU [.t (n+1)],none⟩]) (.cond (.t (n+2))
  (.seq (.reg [⟨some (n+2),.pf .isU [.t n],none⟩]) (.cond (.t (n+2)) (CO n res) (bif raw then .seq (.reg [⟨some (n+3),.mv (.t n),none⟩]) .ret else fy)))
  (match df with
   | none=>fy
   | some (G,k,false)=>.seq (.reg [⟨some (n+2),.pf .isU [.t n],none⟩]) (.cond (.t (n+2)) (.seq (.reg (tU n G k++[⟨none,.call (3*bN+G) (jY (n+4) k),none⟩])) (CO n res)) fy)
   | some (G,k,true)=>.seq (.reg (⟨some (n+3),.pf .unP [.t n],none⟩::(tU n G k++[⟨none,.call (2*bN+G) (jY (n+4) k++[.t (n+3)]),none⟩]))) (CO n res)))
section
variable {tb:FuncId->Bool} {call:FuncId->List aa->ab->Option (aa×ab)} {n:Nat}
theorem Hu(l:List aa):Ly l=gW l:=by
 match l with
 | []=>rfl
 | [x]=>rfl
 | x::y::r=>rfl
theorem lZ{U:Tr aa}{H H1:ab}:∀(res:List lJ) (b:Nat) {T T1:Tr aa},GE n T U->n<=b->si n res=true->aX tb call (jZ b res) T H=some (T1,H1) ->
  H1=H/\∃xs,ji U H res=some xs/\fo T1 (jY b res.length)=xs/\∀t,t<b->ev T1 (.t t)=ev T (.t t)
 | [],b,T,T1,_,_,_,h=>by
  simp only[jZ,aX,sJ,pJ]at h
  obtain⟨rfl,rfl⟩:=h
  exact⟨rfl,[],rfl,rfl,fun _ _=>rfl⟩
 | .t i::r,b,T,T1,hG,hb,hr,h=>by
  simp only[si,N4]at hr
  simp only[jZ]at h
  rw[bh,bL]at h
  simp only[bG]at h
  obtain⟨q1,xs,q2,q3,q4⟩:=lZ r (b+1) (hG.ghost hb _) om hr.2 h
  refine⟨q1,ev U (.t i)::xs,by simp only[ji,q2],?_,fun t ht=>?_⟩
  ·simp only[N5,jY,fo,q3]
   rw[q4 b om,aO,if_pos rfl,hG.1 i (d8 hr.1)]
  ·rw[q4 t om,aO,if_neg om]
 | .cell g m i::r,b,T,T1,hG,hb,hr,h=>by
  simp only[si,N4]at hr
  simp only[jZ]at h
  rw[bh,bL]at h
  simp only[bG,vv]at h
  cases hl:am g m H (ev T (.t i)) with
  | none=>rw[hl]at h; simp at h
  | some v=>
   rw[hl]at h
   simp only at h
   obtain⟨q1,xs,q2,q3,q4⟩:=lZ r (b+1) (hG.ghost hb _) om hr.2 h
   rw[hG.1 i (d8 hr.1)]at hl
   refine⟨q1,v::xs,by simp only[ji,hl,q2],?_,fun t ht=>?_⟩
   ·simp only[N5,jY,fo,q3]
    rw[q4 b om,aO,if_pos rfl]
   ·rw[q4 t om,aO,if_neg om]
theorem Bd{U T T':Tr aa}{H H':ab}{e:rY}{k:Nat}{res:List lJ}(hG:GE n T U)(hr:si n res=true)(h:aH tb call k (CO n res) T H=some (e,T',H')) :
  e=.ret/\H'=H/\∃xs,ji U H res=some xs/\ev T' (.t (n+3))=gW xs:=by
 simp only[CO,aH]at h
 rw[eS]at h
 cases hs:aX tb call (jZ (n+4) res) T H with
 | none=>rw[hs]at h; simp at h
 | some p=>
  obtain⟨T1,H1⟩:=p
  rw[hs]at h
  obtain⟨rfl,xs,q2,q3,q4⟩:=lZ res (n+4) hG om hr hs
  simp only at h
  rw[bh,bL]at h
  simp only[bG,jJ,vv,q3,aX,co,sJ,pJ]at h
  obtain⟨rfl,rfl,rfl⟩:=h
  exact⟨rfl,rfl,xs,q2,by rw[aO,if_pos rfl,Hu]⟩
theorem rq{f:Fn}{l:List aa}{H H1:ab}:∀(k b i:Nat) {T T1:Tr aa},ev T (.t (n+1))=.func f [] l->n+1<b->aX tb call (rr n b i k) T H=some (T1,H1) ->
  H1=H/\fo T1 (jY b k)=(l.drop i).take k/\∀t,t<b->ev T1 (.t t)=ev T (.t t)
 | 0,b,i,T,T1,_,_,h=>by
  simp only[rr,aX,sJ,pJ]at h
  obtain⟨rfl,rfl⟩:=h
  exact⟨rfl,by simp[jY,fo],fun _ _=>rfl⟩
 | k+1,b,i,T,T1,hd,hb,h=>by
  simp only[rr]at h
  rw[bh,bL]at h
  simp only[bG,fo,jJ,vv,hd,JU]at h
  cases hx:l[i]? with
  | none=>rw[hx]at h; simp at h
  | some x=>
   rw[hx]at h
   simp only[co]at h
   obtain⟨q1,q2,q3⟩:=rq k (b+1) (i+1) (T:=T.set b x) (by rw[aO,if_neg om]; exact hd) om h
   refine⟨q1,?_,fun t ht=>by rw[q3 t om,aO,if_neg om]⟩
   simp only[jY,fo,q2]
   rw[q3 b om,aO,if_pos rfl]
   obtain⟨hi,hxi⟩:=N2.1 hx
   rw[List.drop_eq_getElem_cons hi,List.take_succ_cons,hxi]
theorem xh{G k:Nat}{H H1:ab}{T T1:Tr aa}(h:aX tb call (tU n G k) T H=some (T1,H1)) :
  ∃l,ev T (.t (n+1))=.func (.func G) [] l/\l.length=k/\H1=H/\fo T1 (jY (n+4) k)=l/\∀t,t<n+4->t≠n+2->ev T1 (.t t)=ev T (.t t):=by
 unfold tU at h
 rw[bh,bL]at h
 simp only[bG,fo,jJ,vv]at h
 cases hd:IY G k [ev T (.t (n+1))] with
 | none=>rw[hd]at h; simp at h
 | some v=>
  rw[hd]at h
  simp only[co]at h
  unfold IY at hd
  split at hd
  ·rename_i f l heq
   simp only[List.cons.injEq,and_true]at heq
   cases hb:Nat.beq f G&&Nat.beq l.length k with
   | false=>rw[hb]at hd; simp at hd
   | true=>
    simp only[N4]at hb
    have e1:=N8 hb.1
    have e2:=N8 hb.2
    subst e1
    obtain⟨q1,q2,q3⟩:=rq k (n+4) 0 (f:=.func f) (l:=l) (by rw[aO,if_neg om]; exact heq) om h
    refine⟨l,heq,e2,q1,?_,fun t ht hne=>by rw[q3 t ht,aO,if_neg hne]⟩
    rw[q2,List.drop_zero,List.take_of_length_le om]
  ·simp at hd
end
section
def lO(P:Program)(G:Nat):Nat:=match P.funcs[G]? with
 | some f=>f.params.size+f.nfree
 | none=>0
def JZ(P:Program)(call:FuncId->List aa->ab->Option (aa×ab)):Prop:=
 ∀G args H v H',Nat.blt G bN=true->call (3*bN+G) args H=some (v,H')->∀Prot w0 ρ w (vs:Array Value),bv Prot w0 ρ H w->aj ρ args vs.toList ->
  CallsD P G vs .returning w fun e u' w'=>u'=.returning/\∃ρ' y,ρ.le ρ'/\e=.returned y/\bv Prot w0 ρ' H' w'
def Lc(u:FrameMode)(xv:Value):Prop:=(u=.returning/\xv=.nilIface)∨u=.panicking [{ v:=xv,recovered:=false }]
def JY(P:Program)(call:FuncId->List aa->ab->Option (aa×ab)):Prop:=
 ∀G args x H v H',Nat.blt G bN=true->args.length=lO P G->call (2*bN+G) (args++[x]) H=some (v,H')->∀Prot w0 ρ w (vs:Array Value) xv u,bv Prot w0 ρ H w->aj ρ args vs.toList->ae ρ x xv->Lc u xv ->
  CallsD P G vs u w fun e u' w'=>settle u'=.returning/\∃ρ' y,ρ.le ρ'/\e=.returned y/\bv Prot w0 ρ' H' w'
variable {P:Program} {Prot:Gh} {w0:World} {ρ:Pl} {H H':ab} {w:World} {n:Nat}
def JW(Prot:Gh)(w0:World)(raw:Bool)(ρ:Pl)(H:ab)(v:aa):Ending->World->Prop:=fun e w'=>
 ∃ρ',ρ.le ρ'/\bv Prot w0 ρ' H w'/\((∃y,e=.returned y/\ae ρ' v y)∨(raw=true/\∃x y,v=j5 x/\e=.panicked [{ v:=y,recovered:=false }]/\ae ρ' x y))
def CR(P:Program):Option (Nat×Nat×Bool)->Bool
 | none=>true
 | some (G,k,true)=>Nat.blt G bN&&Nat.beq k (lO P G)
 | some (G,_,false)=>Nat.blt G bN
theorem Fg{x:aa}(h:isU x=true):x=aN:=by
 unfold isU at h
 split at h
 ·rfl
 ·simp at h
theorem DJ{tb:FuncId->Bool}{call:FuncId->List aa->ab->Option (aa×ab)}{k:Nat}(hcD:JZ P call)(hcR:JY P call)(hbD:∀f,Nat.blt f bN=true->tb (3*bN+f)=true->bq P f=true)(hbR:∀f,Nat.blt f bN=true->tb (2*bN+f)=true->bq P f=true)
  {fc:Func} {res:List lJ} (hres:pq P fc.results.toList=some res) (hrT:si n res=true) {raw:Bool} {df:Option (Nat×Nat×Bool)} (hdf:CR P df=true) {T T':Tr aa} {e:rY}
  (h:aH tb call k (vS n res raw df) T H=some (e,T',H')) (R:bv Prot w0 ρ H w) {a:Act} {u:FrameMode} (hst:(pL ρ n T a/\u=.returning)∨∃uv,Ld ρ n T a uv/\u=.panicking [{ v:=uv,recovered:=false }]) :
  e=.ret/\Leaves P fc a.tmps (JW Prot w0 raw ρ H' (ev T' (.t (n+3)))) a.defers u w:=by
 simp only[vS,aH]at h
 rw[bh,bL]at h
 simp only[bG,fo,jJ,vv,IX,aX,co]at h
 rw[aO,if_pos rfl]at h
 have e1:∀b,ev (T.set (n+2) b) (.t n)=ev T (.t n):=fun b=>by rw[aO,if_neg om]
 have e11:∀b c,ev ((T.set (n+2) b).set (n+2) c) (.t (n+2))=c:=fun b c=>by rw[aO,if_pos rfl]
 have e12:∀b c,ev ((T.set (n+2) b).set (n+2) c) (.t n)=ev T (.t n):=fun b c=>by rw[aO,if_neg om,e1]
 have isP:∀x,isU (j5 x)=false:=fun x=>rfl
 cases hu:isU (ev T (.t (n+1))) with
 | true=>
  rw[hu]at h
  have hund:=Fg hu
  simp only[ga,cond_true,e1,e11]at h
  cases hu2:isU (ev T (.t n)) with
  | true=>
   rw[hu2]at h
   rcases hst with⟨hP,rfl⟩ | ⟨uv,⟨x,q1,_⟩,_⟩
   ·obtain⟨U,hG,ht⟩:=hP.1.t
    obtain⟨rfl,rfl,xs,z1,z2⟩:=Bd ((hG.ghost (d:=n+2) om _).ghost (d:=n+2) om _) hrT h
    have hds:a.defers=[]:=by
     have:=hP.1.d
     rw[hund]at this
     rcases this with⟨_,h9⟩ | ⟨f,fa,fb,d,cap,h9,_⟩
     ·exact h9
     ·simp[aN]at h9
    obtain⟨v,r1,r2⟩:=jX (P:=P) R ht hres z1
    refine⟨rfl,?_⟩
    rw[hds]
    exact⟨v,r1,ρ,Pl.le_refl _,R,.inl ⟨v,rfl,by rw[z2]; exact r2⟩⟩
   ·rw[q1,isP]at hu2; simp at hu2
  | false=>
   rw[hu2]at h
   rcases hst with⟨hP,rfl⟩ | ⟨uv,⟨x,q1,q2,q3⟩,rfl⟩
   ·rw[hP.2]at hu2; simp[isU,aN]at hu2
   ·cases raw with
    | false=>simp[fy,aH,aX,ga,bG]at h
    | true=>
     simp only[cond_true,aH,aX,ga,bG,co,e12,sJ,pJ]at h
     obtain⟨rfl,rfl,rfl⟩:=h
     have hds:a.defers=[]:=by
      rcases q3 with⟨h9,_⟩ | hg
      ·exact h9
      ·have:=hg.d
       rw[hund]at this
       rcases this with⟨_,h9⟩ | ⟨f,fa,fb,d,cap,h9,_⟩
       ·exact h9
       ·simp[aN]at h9
     refine⟨rfl,?_⟩
     rw[hds]
     exact⟨ρ,Pl.le_refl _,R,.inr ⟨rfl,x,uv,by rw[aO,if_pos rfl]; exact q1,rfl,q2⟩⟩
 | false=>
  rw[hu]at h
  have hnu:ev T (.t (n+1))≠aN:=fun e=>by rw[e]at hu; simp[isU,aN]at hu
  have hGT:GT ρ n T a:=by
   rcases hst with⟨hP,_⟩ | ⟨uv,⟨x,q1,q2,⟨_,q3⟩ | q3⟩,_⟩
   ·exact hP.1
   ·exact (hnu q3).elim
   ·exact q3
  obtain⟨U,hG,ht⟩:=hGT.t
  obtain⟨f,fa,fb,d,cap,d1,d2,d3,d4,d5⟩:∃f a' b d cap,ev T (.t (n+1))=.func (.func f) a' b/\a.defers=[d]/\d.target=.fn (.func f) cap/\aj ρ b cap.toList/\aj ρ a' d.args.toList:=by
   rcases hGT.d with⟨h9,_⟩ | h9
   ·exact (hnu h9).elim
   ·exact h9
  have rest:∀{T5:Tr aa} {H5:ab} {e5:rY},GE n T5 U->aH tb call k (CO n res) T5 H5=some (e5,T',H')->e5=.ret/\∀(ρ':Pl) (w':World),ρ.le ρ'->bv Prot w0 ρ' H5 w'->Leaves P fc a.tmps (JW Prot w0 raw ρ H' (ev T' (.t (n+3)))) [] .returning w':=by
   intro T5 H5 e5 hG5 h5
   obtain⟨rfl,rfl,xs,z1,z2⟩:=Bd hG5 hrT h5
   refine⟨rfl,fun ρ' w' hle R'=>?_⟩
   obtain⟨v,r1,r2⟩:=jX (P:=P) R' (ht.mono hle) hres z1
   exact⟨v,r1,ρ',hle,R',.inl ⟨v,rfl,by rw[z2]; exact r2⟩⟩
  rcases df with _ | ⟨G,kk,_ | _⟩
  ·simp[fy,aH,aX,ga,bG]at h
  ·skip
   simp only[CR]at hdf
   simp only[aH]at h
   rw[bh,bL]at h
   simp only[bG,fo,jJ,vv,IX,aX,co,e1,e11]at h
   cases hu2:isU (ev T (.t n)) with
   | false=>rw[hu2]at h; simp[fy,aH,aX,ga,bG]at h
   | true=>
    rw[hu2]at h
    simp only at h
    rw[eS]at h
    cases hs:aX tb call (tU n G kk) ((T.set (n+2) (.bool false)).set (n+2) (.bool true)) H with
    | none=>rw[hs]at h; simp at h
    | some p=>
     obtain⟨T4,H4⟩:=p
     rw[hs]at h
     obtain⟨l,c1,c2,rfl,c4,c5⟩:=xh hs
     have c1':ev T (.t (n+1))=.func (.func G) [] l:=by rw[<- c1,aO,if_neg om,aO,if_neg om]
     rw[c1']at d1
     simp only[aa.func.injEq,Fn.func.injEq]at d1
     obtain⟨rfl,rfl,rfl⟩:=d1
     simp only at h
     rw[bh,bL]at h
     simp only[bG,c4]at h
     cases hb:tb (3*bN+G) with
     | false=>rw[hb]at h; simp at h
     | true=>
      rw[hb]at h
      simp only[cond_true]at h
      cases hcl:call (3*bN+G) l H4 with
      | none=>rw[hcl]at h; simp at h
      | some q=>
       obtain⟨v,H5⟩:=q
       rw[hcl]at h
       simp only[co,aX]at h
       have hG4:GE n T4 U:=⟨fun t ht'=>by rw[c5 t om om,aO,if_neg om,aO,if_neg om]; exact hG.1 t ht',hG.2⟩
       obtain⟨rfl,hrest⟩:=rest hG4 h
       refine⟨rfl,?_⟩
       have hur:u=.returning:=by
        rcases hst with⟨_,h9⟩ | ⟨uv,⟨x,q1,_⟩,_⟩
        ·exact h9
        ·rw[q1,isP]at hu2; simp at hu2
       subst hur
       simp only[aj]at d5
       rw[d2]
       refine⟨by simp,.func G,cap,G,d.args++cap,d3,?_,?_⟩
       ·rw[d3]; exact eR (hbD G hdf hb) _
       ·refine (hcD G l H4 v H5 hdf hcl Prot w0 ρ w (d.args++cap) R (by simpa[d5] using d4)).mono ?_
        rintro e' u' w' ⟨rfl,ρ',y,q1,rfl,q2⟩
        exact hrest ρ' w' q1 q2
  ·skip
   simp only[CR,N4]at hdf
   obtain⟨hG1,hk1⟩:=hdf
   have hk:=N8 hk1
   simp only[aH]at h
   rw[bh,bL]at h
   simp only[bG,fo,jJ,vv,e1]at h
   cases hun:IQ [ev T (.t n)] with
   | none=>rw[hun]at h; simp at h
   | some x=>
    rw[hun]at h
    simp only[co]at h
    rw[eS]at h
    cases hs:aX tb call (tU n G kk) ((T.set (n+2) (.bool false)).set (n+3) x) H with
    | none=>rw[hs]at h; simp at h
    | some p=>
     obtain⟨T4,H4⟩:=p
     rw[hs]at h
     obtain⟨l,c1,c2,rfl,c4,c5⟩:=xh hs
     have c1':ev T (.t (n+1))=.func (.func G) [] l:=by rw[<- c1,aO,if_neg om,aO,if_neg om]
     have c3:ev T4 (.t (n+3))=x:=by rw[c5 (n+3) om om,aO,if_pos rfl]
     rw[c1']at d1
     simp only[aa.func.injEq,Fn.func.injEq]at d1
     obtain⟨rfl,rfl,rfl⟩:=d1
     have evapp:∀(m:List aV),fo T4 (m++[.t (n+3)])=fo T4 m++[x]:=by
      intro m
      induction m with
      | nil=>simp only[List.nil_append,fo,c3]
      | cons y m ih=>simp only[Oj,fo,ih]
     simp only at h
     rw[bh,bL]at h
     simp only[bG,evapp,c4]at h
     cases hb:tb (2*bN+G) with
     | false=>rw[hb]at h; simp at h
     | true=>
      rw[hb]at h
      simp only[cond_true]at h
      cases hcl:call (2*bN+G) (l++[x]) H4 with
      | none=>rw[hcl]at h; simp at h
      | some q=>
       obtain⟨v,H5⟩:=q
       rw[hcl]at h
       simp only[co,aX]at h
       have hG4:GE n T4 U:=⟨fun t ht'=>by rw[c5 t om om,aO,if_neg om,aO,if_neg om]; exact hG.1 t ht',hG.2⟩
       obtain⟨rfl,hrest⟩:=rest hG4 h
       refine⟨rfl,?_⟩
       have hx:∃xv,ae ρ x xv/\Lc u xv/\u≠.run:=by
        rcases hst with⟨hP,rfl⟩ | ⟨uv,⟨x',q1,q2,_⟩,rfl⟩
        ·rw[hP.2]at hun
         simp only[aN,IQ,sJ]at hun
         subst hun
         exact⟨.nilIface,rfl,.inl ⟨rfl,rfl⟩,by simp⟩
        ·rw[q1]at hun
         simp only[j5,IQ,sJ]at hun
         subst hun
         exact⟨uv,q2,.inr rfl,by simp⟩
       obtain⟨xv,x1,x2,x3⟩:=hx
       simp only[aj]at d5
       rw[d2]
       refine⟨x3,.func G,cap,G,d.args++cap,d3,?_,?_⟩
       ·rw[d3]; exact eR (hbR G hG1 hb) _
       ·refine (hcR G l x H4 v H5 hG1 om hcl Prot w0 ρ w (d.args++cap) xv u R (by simpa[d5] using d4) x1 x2).mono ?_
        rintro e' u' w' ⟨hu',ρ',y,q1,rfl,q2⟩
        show Leaves P fc a.tmps _ [] (settle u') w'
        rw[hu']
        exact hrest ρ' w' q1 q2
end
end Go.Abs
namespace Go.Abs
section
variable (P:Program)
def zM(md:BX)(raw:Bool)(f:FuncId):Option cw:=match P.funcs[f]? with
 | some fn=>match fn.body with
  | some c => bif fn.name == "runtime.NumGoroutine" then none else
   match dE P fn.ntmps md.ps c,pq P fn.results.toList with
   | some b,some r=>bif si fn.ntmps r&&CR P md.df then some ⟨fn.ntmps,.seq (.block PB b) (vS fn.ntmps r raw md.df),[.t (fn.ntmps+3)]⟩ else none
   | _,_=>none
  | none=>none
 | none=>none
def nd:Code->Option (Array Oper×Nat×List Oper×Code)
 | .seq (.region _ ops false) rest=>match ops.toList with
  | o::os=>match o.op,o.dst,o.guard with
   | .call c,some d,none=>match c.callee with
    | .builtin .recover=>some (ops,d,os,rest)
    | _=>none
   | _,_,_=>none
  | []=>none
 | _=>none
def uG(n k d:Nat):List ah:=[⟨some n,.mv (.t k),none⟩,⟨some k,.mv (.c aN),none⟩,⟨some d,.mv (.t n),none⟩,⟨some n,.mv (.c aN),none⟩]
def FT(g:FuncId):Option cw:=match P.funcs[g]? with
 | some fn=>match fn.body with
  | some c => bif fn.name == "runtime.NumGoroutine" || !(Nat.beq fn.results.size 0) then none else
   match nd c with
   | some (ops,d,os,rest)=>match cx P fn.ntmps ops os,eA P fn.ntmps rest with
    | some l,some r=>bif Nat.blt d fn.ntmps&&Nat.ble (lO P g) d then some ⟨fn.ntmps,.seq (.reg (uG fn.ntmps (lO P g) d)) (.seq (.reg l) r),[]⟩ else none
    | _,_=>none
   | none=>none
  | none=>none
 | none=>none
def vg(md:Option BX)(i:Nat):Option cw:=
 bif Nat.blt i bN then (match md with | none=>Hl P i | some md=>zM P md false i)
 else bif Nat.blt i (2*bN) then (match md with | some md=>zM P md true (i-bN) | none=>none)
 else bif Nat.blt i (3*bN) then FT P (i-2*bN)
 else bif Nat.blt i (4*bN) then Hl P (i-3*bN) else none
def GP(tab:Tr cw):Prop:=∀f fn,tab.get f=some fn->∃md,vg P md f=some fn
end
section
variable {P:Program} {Prot:Gh} {w0:World} {ρ:Pl} {H H':ab} {w:World}
theorem eF(a b:Nat):Nat.blt a b=decide (a<b):=by
 cases h:Nat.blt a b with
 | true=>exact (decide_eq_true (d8 h)).symm
 | false=>exact (decide_eq_false fun q=>by rw[show Nat.blt a b=true from N3 q]at h; simp at h).symm
theorem JE{md:Option BX}{f:Nat}(hf:Nat.blt f bN=true){fn:cw}(h:vg P md f=some fn):Hl P f=some fn∨∃m,zM P m false f=some fn:=by
 unfold vg at h
 rw[hf]at h
 simp only[cond_true]at h
 cases md with
 | none=>exact .inl h
 | some m=>exact .inr ⟨m,h⟩
theorem JD{md:Option BX}{f:Nat}(hf:Nat.blt f bN=true){fn:cw}(h:vg P md (bN+f)=some fn):∃m,zM P m true f=some fn:=by
 have hlt:=d8 hf
 unfold vg at h
 have h1:Nat.blt (bN+f) bN=false:=by rw[eF]; exact decide_eq_false om
 have h2:Nat.blt (bN+f) (2*bN)=true:=by rw[eF]; exact decide_eq_true om
 rw[h1,h2]at h
 simp only[cond_true,cond_false,Nat.add_sub_cancel_left]at h
 cases md with
 | none=>simp at h
 | some m=>exact⟨m,h⟩
theorem JC{md:Option BX}{f:Nat}(hf:Nat.blt f bN=true){fn:cw}(h:vg P md (2*bN+f)=some fn):FT P f=some fn:=by
 have hlt:=d8 hf
 unfold vg at h
 have h1:Nat.blt (2*bN+f) bN=false:=by rw[eF]; exact decide_eq_false om
 have h2:Nat.blt (2*bN+f) (2*bN)=false:=by rw[eF]; exact decide_eq_false om
 have h3:Nat.blt (2*bN+f) (3*bN)=true:=by rw[eF]; exact decide_eq_true om
 rw[h1,h2,h3]at h
 simpa only [cond_true,cond_false,Nat.add_sub_cancel_left] using h
theorem JB{md:Option BX}{f:Nat}(hf:Nat.blt f bN=true){fn:cw}(h:vg P md (3*bN+f)=some fn):Hl P f=some fn:=by
 have hlt:=d8 hf
 unfold vg at h
 have h1:Nat.blt (3*bN+f) bN=false:=by rw[eF]; exact decide_eq_false om
 have h2:Nat.blt (3*bN+f) (2*bN)=false:=by rw[eF]; exact decide_eq_false om
 have h3:Nat.blt (3*bN+f) (3*bN)=false:=by rw[eF]; exact decide_eq_false om
 have h4:Nat.blt (3*bN+f) (4*bN)=true:=by rw[eF]; exact decide_eq_true om
 rw[h1,h2,h3,h4]at h
 simpa only [cond_true,cond_false,Nat.add_sub_cancel_left] using h
theorem oA {md : BX} {raw : Bool} {f : FuncId} {fn : cw} (h : zM P md raw f = some fn) : ∃ fc c b r, P.funcs[f]? = some fc ∧ fc.body = some c ∧ (fc.name == "runtime.NumGoroutine") = false ∧ dE P fc.ntmps md.ps c = some b ∧ pq P fc.results.toList = some r ∧
  si fc.ntmps r=true/\CR P md.df=true/\fn=⟨fc.ntmps,.seq (.block PB b) (vS fc.ntmps r raw md.df),[.t (fc.ntmps+3)]⟩:=by
 unfold zM at h
 split at h
 ·rename_i fc hf
  split at h
  ·rename_i c hb
   cases hn : (fc.name == "runtime.NumGoroutine") with
   | true=>rw[hn]at h; simp at h
   | false=>
    rw[hn]at h
    simp only[cond_false]at h
    split at h
    ·rename_i b r h1 h2
     cases h3:si fc.ntmps r&&CR P md.df with
     | false=>rw[h3]at h; simp at h
     | true=>
      rw[h3]at h
      simp only[cond_true,sJ]at h
      simp only[N4]at h3
      exact⟨fc,c,b,r,hf,hb,hn,h1,h2,h3.1,h3.2,h.symm⟩
    ·simp at h
  ·simp at h
 ·simp at h
theorem sk{c:Code}{ops:Array Oper}{d:Nat}{os:List Oper}{rest:Code}(h:nd c=some (ops,d,os,rest)):∃i o args ats,c=.seq (.region i ops false) rest/\ops.toList=o::os/\o.op=.call ⟨.builtin .recover,args,ats⟩/\o.dst=some d/\o.guard=none:=by
 unfold nd at h
 split at h
 ·rename_i i ops' rest'
  split at h
  ·rename_i o os' ho
   split at h
   ·rename_i c' d' h1 h2 h3
    split at h
    ·rename_i hcal
     simp only[sJ,pJ]at h
     obtain⟨rfl,rfl,rfl,rfl⟩:=h
     obtain⟨cal,args,ats⟩:=c'
     simp only at hcal
     subst hcal
     exact⟨i,o,args,ats,rfl,ho,h1,h2,h3⟩
    ·simp at h
   ·simp at h
  ·simp at h
 ·simp at h
theorem tV {g : FuncId} {fn : cw} (h : FT P g = some fn) : ∃ fc c ops d os rest l r, P.funcs[g]? = some fc ∧ fc.body = some c ∧ (fc.name == "runtime.NumGoroutine") = false ∧ fc.results = #[] ∧ nd c = some (ops, d, os, rest) ∧ cx P fc.ntmps ops os = some l ∧ eA P fc.ntmps rest = some r ∧
  d<fc.ntmps/\lO P g<=d/\fn=⟨fc.ntmps,.seq (.reg (uG fc.ntmps (lO P g) d)) (.seq (.reg l) r),[]⟩:=by
 unfold FT at h
 split at h
 ·rename_i fc hf
  split at h
  ·rename_i c hb
   cases hn : (fc.name == "runtime.NumGoroutine" || !(Nat.beq fc.results.size 0)) with
   | true=>rw[hn]at h; simp at h
   | false=>
    rw[hn]at h
    simp only[Bool.or_eq_false_iff,Bool.not_eq_false']at hn
    simp only[cond_false]at h
    split at h
    ·rename_i ops d os rest hsp
     split at h
     ·rename_i l r h1 h2
      cases h3:Nat.blt d fc.ntmps&&Nat.ble (lO P g) d with
      | false=>rw[h3]at h; simp at h
      | true=>
       rw[h3]at h
       simp only[cond_true,sJ]at h
       simp only[N4]at h3
       exact⟨fc,c,ops,d,os,rest,l,r,hf,hb,hn.1,Array.eq_empty_of_size_eq_zero (N8 hn.2),hsp,h1,h2,d8 h3.1,N7 h3.2,h.symm⟩
     ·simp at h
    ·simp at h
  ·simp at h
 ·simp at h
theorem nK {f : Nat} (hf : Nat.blt f bN = true) {fc : Func} {c : Code} (h1 : P.funcs[f]? = some fc) (h2 : fc.body = some c) (h3 : (fc.name == "runtime.NumGoroutine") = false) : bq P f = true := by
 simp[bq,hf,h1,h2,h3]
structure B3(P:Program)(call:FuncId->List aa->ab->Option (aa×ab)):Prop where
 ok:gX P call
 pan:xW P call
 dfd:JZ P call
 rcv:JY P call
structure IZ(P:Program)(tb:FuncId->Bool):Prop where
 h0:∀f,Nat.blt f bN=true->tb f=true->bq P f=true
 h1:∀f,Nat.blt f bN=true->tb (bN+f)=true->bq P f=true
 h2:∀f,Nat.blt f bN=true->tb (2*bN+f)=true->bq P f=true
 h3:∀f,Nat.blt f bN=true->tb (3*bN+f)=true->bq P f=true
theorem Fv(hfol:P.follows .mixedOrders=true){tb:FuncId->Bool}(hb:IZ P tb){call:FuncId->List aa->ab->Option (aa×ab)}(hc:B3 P call){k:Nat}{md:BX}{raw:Bool}{f:FuncId}{fn:cw}(hfn:zM P md raw f=some fn)
  {args:List aa} (hlen:args.length<=fn.nt) {e:rY} {T:Tr aa} {H1:ab} (hx:aH tb call k fn.body (cF args 0 .e) H=some (e,T,H1)) (hne:∀i,e≠.exit i) {xs:List aa} (hxs:ji T H1 fn.res=some xs) {vs:Array Value} (R:bv Prot w0 ρ H w) (hv:aj ρ args vs.toList) :
  Calls P f vs w (JW Prot w0 raw ρ H1 (gW xs)):=by
 obtain⟨fc,c,b,r,h1,h2,h3,h4,h5,h6,h7,rfl⟩:=oA hfn
 simp only at hlen
 have hst:=od (ρ:=ρ) hv hlen
 have hgh:∀t,fc.ntmps<=t->ev (cF args 0 .e) (.t t)=aN:=fun t ht=>by
  have:=hst.at_ t
  have hsz:=hst.size
  rw[Array.getD_eq_getD_getElem?,Array.getElem?_eq_none om]at this
  exact Dv this
 have hP:pL ρ fc.ntmps (cF args 0 .e) { tmps:=vs++Array.replicate (fc.ntmps-vs.size) undef,defers:=[] }:=
  ⟨⟨⟨_,⟨fun _ _=>rfl,hgh⟩,hst⟩,.inl ⟨hgh _ om,rfl⟩⟩,hgh _ rL⟩
 simp only[aH]at hx
 refine calls_of_wp_defers h1 h2 ?_
 cases hb1:aH tb call k b (cF args 0 .e) H with
 | none=>rw[hb1]at hx; simp at hx
 | some q=>
  obtain⟨e1,T1,H2⟩:=q
  rw[hb1]at hx
  have hsim:=CU hfol hb.h0 hb.h1 hc.ok hc.pan c b h4 ρ _ _ _ _ e1 _ w R hP hb1
  have hval:∀v,ev T (.t (fc.ntmps+3))=v->gW xs=v:=fun v h9=>by
   simp only[ji,sJ]at hxs
   subst hxs
   exact h9
  have hout:∀{ρ':Pl} {a':Act} {w':World} {u:FrameMode},ρ.le ρ'->bv Prot w0 ρ' H2 w'->((pL ρ' fc.ntmps T1 a'/\u=.returning)∨∃uv,Ld ρ' fc.ntmps T1 a' uv/\u=.panicking [{ v:=uv,recovered:=false }]) ->
    aH tb call k (vS fc.ntmps r raw md.df) T1 H2=some (e,T,H1)->Leaves P fc a'.tmps (JW Prot w0 raw ρ H1 (gW xs)) a'.defers u w':=by
   intro ρ' a' w' u hle R' hs' ht'
   obtain⟨_,hL⟩:=DJ (fc:=fc) hc.dfd hc.rcv hb.h3 hb.h2 h5 h6 h7 ht' R' hs'
   rw[hval _ rfl]
   have:∀(ds:List Deferred) (u:FrameMode) (w:World),Leaves P fc a'.tmps (JW Prot w0 raw ρ' H1 (ev T (.t (fc.ntmps+3)))) ds u w->Leaves P fc a'.tmps (JW Prot w0 raw ρ H1 (ev T (.t (fc.ntmps+3)))) ds u w:=by
    have hO:∀e w',JW Prot w0 raw ρ' H1 (ev T (.t (fc.ntmps+3))) e w'->JW Prot w0 raw ρ H1 (ev T (.t (fc.ntmps+3))) e w':=fun e w' ⟨ρ2,q1,q2⟩=>⟨ρ2,Pl.le_trans hle q1,q2⟩
    intro ds
    induction ds with
    | nil=>
     intro u w hL
     cases u with
     | run=>exact hL
     | returning=>obtain⟨v,q1,q2⟩:=hL; exact⟨v,q1,hO _ _ q2⟩
     | panicking ch=>exact hO _ _ hL
    | cons d ds ih=>
     intro u w hL
     obtain⟨q1,fv,cap,g,ar,q2,q3,q4⟩:=hL
     refine⟨q1,fv,cap,g,ar,q2,q3,q4.mono fun e' u' w' hh=>?_⟩
     cases e' with
     | returned v=>exact ih _ _ hh
     | panicked ch=>exact ih _ _ hh
     | outgrown=>exact hO _ _ hh
   exact this _ _ _ hL
  refine wp_mono hsim ?_
  rintro e' a' w' ⟨ρ',q1,q2,q3⟩
  cases e1 with
  | normal=>
   obtain⟨rfl,z⟩:=q3
   exact hout q1 q2 (.inl ⟨z,rfl⟩) hx
  | ret=>exact q3.elim
  | exit id=>
   simp only at hx
   cases hid:Nat.beq id PB with
   | false=>
    rw[hid]at hx
    simp only[cond_false,sJ,pJ]at hx
    exact (hne id hx.1.symm).elim
   | true=>
    rw[hid]at hx
    simp only[cond_true]at hx
    have:=N8 hid
    rcases q3 with⟨z1,_⟩ | ⟨_,⟨rfl,z2⟩ | ⟨u,rfl,z2⟩⟩
    ·exact (z1 this).elim
    ·exact hout q1 q2 (.inl ⟨z2,rfl⟩) hx
    ·exact hout q1 q2 (.inr ⟨u,z2,rfl⟩) hx
theorem Jy(hfol:P.follows .mixedOrders=true){tb:FuncId->Bool}(hb:IZ P tb){call:FuncId->List aa->ab->Option (aa×ab)}(hc:B3 P call){k:Nat}{f:FuncId}{fn:cw}(hfn:Hl P f=some fn)
  {args:List aa} (hlen:args.length<=fn.nt) {e:rY} {T:Tr aa} {H1:ab} (hx:aH tb call k fn.body (cF args 0 .e) H=some (e,T,H1)) (hne:∀i,e≠.exit i) {xs:List aa} (hxs:ji T H1 fn.res=some xs) {vs:Array Value} (R:bv Prot w0 ρ H w) (hv:aj ρ args vs.toList) :
  ∃fc c,P.funcs[f]?=some fc/\fc.body=some c/\c.wp P (bodyPost P fc fun e w'=>∃ρ' u,ρ.le ρ'/\e=.returned u/\bv Prot w0 ρ' H1 w'/\ae ρ' (gW xs) u) { tmps:=vs++Array.replicate (fc.ntmps-vs.size) undef,defers:=[] } w:=by
 obtain⟨fc,c,h1,h2,h3,h4,h5,h6⟩:=rA hfn
 refine⟨fc,c,h1,h2,?_⟩
 have hst:=od (ρ:=ρ) hv hlen
 rw[h4]
 refine wp_mono (xa hfol (Prot:=Prot) (w0:=w0) (ds:=[]) hb.h0 hc.ok _ _ h5 ρ _ T H H1 e _ w R hst rfl hx) ?_
 rintro e' a' w' ⟨he,ρ',hl,R',ht',hd'⟩
 obtain⟨u,r1,r2⟩:=jX (P:=P) R' ht' h6 hxs
 cases e with
 | normal=>simp only at he; subst he; exact⟨hd',u,r1,ρ',u,hl,rfl,R',r2⟩
 | exit id=>exact (hne _ rfl).elim
 | ret=>simp only at he; subst he; exact⟨hd',u,r1,ρ',u,hl,rfl,R',r2⟩
theorem kL{ops:Array Oper}{cs:List Frame}{Q:Exit->Act->List Frame->World->Prop}(hno:¬LetsOut fun e a w=>Q e a cs w):∀(l:List Nat) (a:Act) (w:World),wpOps P ops (fun e a w=>Q e a cs w) l a w->wpOpsS P ops Q l a cs w
 | [],a,w,h=>h
 | i::rest,a,w,h=>by
  simp only[wpOps]at h
  simp only[wpOpsS]
  cases ho:ops[i]? with
  | none=>rw[ho]at h; exact kL hno rest a w h
  | some o=>
   rw[ho]at h
   simp only at h ⊢
   split at h
   ·rename_i hw
    rw[if_pos hw]
    rcases h with h | ⟨_,h⟩
    ·have h':=Oper.wp_mono (K':=fun a' w'=>wpOpsS P ops Q rest a' cs w') (fun a' w' hh=>kL hno rest a' w' hh) h
     unfold Oper.wp at h'
     generalize (execOp a.eval o).run P w=r at h'
     split
     ·simp only[Oper.upon]at h'
     ·exact h'
    ·exact (hno h).elim
   ·rename_i hw
    rw[if_neg hw]
    exact kL hno rest _ w h
end
end Go.Abs
namespace Go.Abs
section
variable {P:Program} {Prot:Gh} {w0:World} {ρ:Pl} {H H':ab} {w:World}
theorem yA{tb:FuncId->Bool}{call:FuncId->List aa->ab->Option (aa×ab)}{n k d:Nat}(hd:d<n)(hk:k<=d)(T:Tr aa)(H:ab):∃T1,aX tb call (uG n k d) T H=some (T1,H) /\
  ∀t,ev T1 (.t t)=if t=n then aN else if t=d then ev T (.t k) else if t=k then aN else ev T (.t t):=by
 refine⟨_,by simp only[uG,aX,ga,cond_true,bG,co]; rfl,fun t=>?_⟩
 by_cases h1:t=n
 ·rw[aO,if_pos h1,if_pos h1]; rfl
 ·rw[aO,if_neg h1,if_neg h1]
  by_cases h2:t=d
  ·rw[aO,if_pos h2,if_pos h2,aO,if_neg om,aO,if_pos rfl]
  ·rw[aO,if_neg h2,if_neg h2]
   by_cases h3:t=k
   ·rw[aO,if_pos h3,if_pos h3]; rfl
   ·rw[aO,if_neg h3,if_neg h3,aO,if_neg h1]
theorem KB(hfol:P.follows .mixedOrders=true){tb:FuncId->Bool}(hb:IZ P tb){call:FuncId->List aa->ab->Option (aa×ab)}(hc:B3 P call){k:Nat}{G:FuncId}{fn:cw}(hfn:FT P G=some fn)
  {args:List aa} {x:aa} (hlen:args.length=lO P G) {e:rY} {T:Tr aa} {H1:ab} (hx:aH tb call k fn.body (cF (args++[x]) 0 .e) H=some (e,T,H1)) (hne:∀i,e≠.exit i) {vs:Array Value} {xv:Value} {u:FrameMode} (R:bv Prot w0 ρ H w) (hv:aj ρ args vs.toList) (hxv:ae ρ x xv) (hu:Lc u xv) :
  CallsD P G vs u w fun e u' w'=>settle u'=.returning/\∃ρ' y,ρ.le ρ'/\e=.returned y/\bv Prot w0 ρ' H1 w':=by
 obtain⟨fc,c,ops,d,os,rest,l,r,h1,h2,h3,h4,h5,h6,h7,hd,hkd,rfl⟩:=tV hfn
 obtain⟨i0,o,oa,ots,rfl,hops,hop,hod,hog⟩:=sk h5
 have hvl:args.length=vs.size:=by have:=aj.len hv; simpa using this
 obtain⟨T1,t1,t2⟩:=yA (tb:=tb) (call:=call) hd hkd (cF (args++[x]) 0 .e) H
 simp only[aH,t1]at hx
 cases hl:aX tb call l T1 H with
 | none=>rw[hl]at hx; simp at hx
 | some q=>
  obtain⟨T2,H2⟩:=q
  rw[hl]at hx
  simp only at hx
  have hst:=od (ρ:=ρ) hv (show args.length<=fc.ntmps by omega)
  have hput:aW ρ fc.ntmps T1 ((({ tmps:=vs++Array.replicate (fc.ntmps-vs.size) undef,defers:=[] }:Act).put (some d) xv).tmps):=by
   have hp:=bH (a:={ tmps:=vs++Array.replicate (fc.ntmps-vs.size) undef,defers:=[] }) (n:=fc.ntmps) hst (dst:=some d) (N3 hd) hxv
   refine⟨hp.size,fun t=>?_⟩
   have hat:=hp.at_ t
   have e:ev T1 (.t t)=ev (co (cF args 0 .e) (some d) x) (.t t):=by
    rw[t2 t,nF,nM args vs.toList 0 .e hv (fun _ _=>rfl) t]
    have hvx:aj ρ (args++[x]) (vs.push xv).toList:=by
     rw[Array.toList_push]
     exact aj.append hv (by simp only[aj]; exact⟨_,_,rfl,hxv,rfl⟩)
    rw[nM (args++[x]) _ 0 .e hvx (fun _ _=>rfl) t,nM (args++[x]) _ 0 .e hvx (fun _ _=>rfl) (lO P G)]
    simp only[Nat.not_lt_zero,if_false,Nat.sub_zero,sJ]
    by_cases q1:t=fc.ntmps
    ·subst q1
     rw[if_pos rfl,if_neg om,Oi om]
    ·rw[if_neg q1]
     by_cases q2:t=d
     ·subst q2
      rw[if_pos rfl,if_pos rfl,<- hlen,Oh rL,Nat.sub_self]
      rfl
     ·rw[if_neg q2,if_neg (show ¬d=t from fun q=>q2 q.symm)]
      by_cases q3:t=lO P G
      ·rw[if_pos q3,Oi om]
      ·rw[if_neg q3]
       by_cases q4:t<args.length
       ·rw[Og q4]
       ·rw[Oi (by simp; omega),Oi om]
   rw[e]
   exact hat
  refine callsD_of_wpS h1 h2 fun c₀ cs hcu=>?_
  refine wpS_seq (wpS_region ?_)
  have hsz:ops.size=os.length+1:=by have:=congrArg List.length hops; simpa using this
  have ho:ops[0]?=some o:=by
   have:ops.toList[0]?=some o:=by rw[hops]; rfl
   simpa using this
  have hnx:∀j,os[j]?=ops[1+j]?:=fun j=>by
   have:ops.toList[1+j]?=os[j]?:=by rw[hops,show 1+j=j+1 by omega,Ob]
   rw[<- this]; simp
  rw[List.range_eq_range',hsz,List.range'_succ]
  simp only[wpOpsS,ho]
  have hw:Region.wanted o (yielded ops (vs++Array.replicate (fc.ntmps-vs.size) undef))=true:=by simp[Region.wanted,hog]
  rw[if_pos hw]
  have hrun:∀a:Act,(execOp a.eval o).run P w=.ok .recover w:=fun a=>by
   obtain⟨dst,op,type,pos,after,guard⟩:=o
   simp only at hop
   subst hop
   rfl
  rw[hrun]
  simp only
  have key:∀(u':FrameMode),settle u'=.returning->wpOpsS P ops (Exit.thenS (rest.wpS P (bodyPostS P fc c₀ cs fun e u' w'=>settle u'=.returning/\∃ρ' y,ρ.le ρ'/\e=.returned y/\bv Prot w0 ρ' H1 w')) (bodyPostS P fc c₀ cs fun e u' w'=>settle u'=.returning/\∃ρ' y,ρ.le ρ'/\e=.returned y/\bv Prot w0 ρ' H1 w')) (List.range' (0+1) os.length)
    (({ tmps:=vs++Array.replicate (fc.ntmps-vs.size) undef,defers:=[] }:Act).put o.dst xv) ({ c₀ with mode:=u' }::cs) w:=by
   intro u' hset
   refine kL ?_ _ _ _ ?_
   ·rintro ⟨a,w',u2,_,ρ',y,_,hh,_⟩
    simp at hh
   ·rw[hod]
    refine wj (Prot:=Prot) (w0:=w0) (ds:=[]) hb.h0 hc.ok os (0+1) l hnx h6 ρ ρ T1 T2 H H2 _ w (Pl.le_refl _) R hput rfl hl ?_
    rintro a' w' ⟨ρ',q1,q2,q3,q4⟩
    show rest.wpS P _ a' _ w'
    refine wpS_of_wp (wp_mono (xa hfol (Prot:=Prot) (w0:=w0) (ds:=[]) hb.h0 hc.ok rest r h7 ρ' T2 T H2 H1 e a' w' q2 q3 q4 hx) ?_)
    rintro e' a2 w2 ⟨he,ρ2,z1,z2,z3,z4⟩
    have hfin:a2.defers=[]/\∃u2,({ c₀ with mode:=u' }::cs:List Frame)={ c₀ with mode:=u2 }::cs/\∃v,(results fc a2.tmps).run P w2=.ok v w2/\(settle u2=.returning/\∃ρ' y,ρ.le ρ'/\Ending.returned v=.returned y/\bv Prot w0 ρ' H1 w2):=
     ⟨z4,u',rfl,.tuple #[],by simp[results,h4],hset,ρ2,.tuple #[],Pl.le_trans q1 z1,rfl,z2⟩
    cases e with
    | normal=>simp only at he; subst he; exact hfin
    | exit id=>exact (hne _ rfl).elim
    | ret=>simp only at he; subst he; exact hfin
  rcases hu with⟨rfl,rfl⟩ | rfl
  ·have hrec:recoverD (c₀::cs)=none:=by simp[recoverD,hcu]
   rw[hrec]
   have:=key .returning rfl
   rwa [show ({ c₀ with mode:=.returning }:Frame)=c₀ by rw[<- hcu]]at this
  ·have hrec:recoverD (c₀::cs)=some (xv,{ c₀ with mode:=.panicking [{ v:=xv,recovered:=true }] }::cs):=by simp[recoverD,hcu]
   rw[hrec]
   exact key _ rfl
theorem lF{N:fq}{tab:Tr cw}{n:Nat}{f:FuncId}{args:List aa}{v:aa}(hi:N.is f=false)(h:cO N tab (n+1) f args H=some (v,H')) :
  ∃fn e T xs,tab.get f=some fn/\args.length<=fn.nt/\aH (xY N tab) (cO N tab n) n fn.body (cF args 0 .e) H=some (e,T,H')/\(∀i,e≠.exit i)/\ji T H' fn.res=some xs/\v=gW xs:=by
 simp only[cO,hi,cond_false]at h
 split at h
 ·rename_i fn hf
  cases hb:Nat.ble args.length fn.nt with
  | false=>rw[hb]at h; simp at h
  | true=>
   rw[hb]at h
   simp only[cond_true]at h
   split at h
   ·simp at h
   ·rename_i e T H1 hne hx
    split at h
    ·rename_i xs hxs
     simp only[sJ,pJ]at h
     obtain⟨rfl,rfl⟩:=h
     exact⟨fn,e,T,xs,hf,N7 hb,hx,fun i q=>hne i q,hxs,rfl⟩
    ·simp at h
   ·simp at h
 ·simp at h
theorem Dc(hfol:P.follows .mixedOrders=true){N:fq}(hN:rX P N){tab:Tr cw}(hT:GP P tab):∀n,B3 P (cO N tab n):=by
 have hnat:∀(m f:Nat),0<m->N.is (m*bN+f)=false:=fun m f hm=>by
  cases hi:N.is (m*bN+f) with
  | false=>rfl
  | true=>
   have:=hN.body _ hi
   simp only[bq,N4]at this
   have:=d8 this.1
   have:bN<=m*bN:=Nat.le_mul_of_pos_left _ hm
   omega
 have hget:∀f,N.is f=false->xY N tab f=true->∃fn,tab.get f=some fn:=fun f hi h=>by
  unfold xY at h
  rw[hi]at h
  simp only[cond_false]at h
  split at h
  ·rename_i fn hf; exact⟨fn,hf⟩
  ·simp at h
 have e1:∀f:Nat,bN+f=1*bN+f:=fun f=>om
 have htb:IZ P (xY N tab):=by
  refine⟨fun f hf h=>?_,fun f hf h=>?_,fun f hf h=>?_,fun f hf h=>?_⟩
  ·cases hi:N.is f with
   | true=>exact hN.body f hi
   | false=>
    obtain⟨fn,hg⟩:=hget f hi h
    obtain⟨md,he⟩:=hT _ _ hg
    rcases JE hf he with h9 | ⟨m,h9⟩
    ·obtain⟨fc,c,q1,q2,q3,_⟩:=rA h9; exact nK hf q1 q2 q3
    ·obtain⟨fc,c,b,r,q1,q2,q3,_⟩:=oA h9; exact nK hf q1 q2 q3
  ·obtain⟨fn,hg⟩:=hget _ (by rw[e1]; exact hnat 1 f om) h
   obtain⟨md,he⟩:=hT _ _ hg
   obtain⟨m,h9⟩:=JD hf he
   obtain⟨fc,c,b,r,q1,q2,q3,_⟩:=oA h9; exact nK hf q1 q2 q3
  ·obtain⟨fn,hg⟩:=hget _ (hnat 2 f om) h
   obtain⟨md,he⟩:=hT _ _ hg
   have h9:=JC hf he
   obtain⟨fc,c,ops,d,os,rest,l,r,q1,q2,q3,_⟩:=tV h9; exact nK hf q1 q2 q3
  ·obtain⟨fn,hg⟩:=hget _ (hnat 3 f om) h
   obtain⟨md,he⟩:=hT _ _ hg
   have h9:=JB hf he
   obtain⟨fc,c,q1,q2,q3,_⟩:=rA h9; exact nK hf q1 q2 q3
 intro n
 induction n with
 | zero=>
  refine⟨fun f args H v H' _ h=>by simp[cO]at h,fun f args H v H' _ h=>by simp[cO]at h,fun f args H v H' _ h=>by simp[cO]at h,fun f args x H v H' _ _ h=>by simp[cO]at h⟩
 | succ n ih=>
  refine⟨fun f args H v H' hf h Prot w0 ρ w vs R hv=>?_,fun f args H v H' hf h Prot w0 ρ w vs R hv=>?_,fun f args H v H' hf h Prot w0 ρ w vs R hv=>?_,fun f args x H v H' hf hlen h Prot w0 ρ w vs xv u R hv hxv hu=>?_⟩
  ·cases hi:N.is f with
   | true=>simp only[cO,hi,cond_true]at h; exact hN.run f args H v H' hf h Prot w0 ρ w vs R hv
   | false=>
    obtain⟨fn,e,T,xs,hg,hl,hx,hne,hxs,rfl⟩:=lF hi h
    obtain⟨md,he⟩:=hT _ _ hg
    rcases JE hf he with h9 | ⟨m,h9⟩
    ·obtain⟨fc,c,q1,q2,q3⟩:=Jy hfol htb ih h9 hl hx hne hxs R hv
     exact calls_of_wp q1 q2 q3
    ·refine (Fv hfol htb ih h9 hl hx hne hxs R hv).mono fun e' w' hr=>?_
     obtain⟨ρ',r1,r2,⟨y,rfl,r3⟩ | ⟨h8,_⟩⟩:=hr
     ·exact⟨ρ',y,r1,rfl,r2,r3⟩
     ·simp at h8
  ·obtain⟨fn,e,T,xs,hg,hl,hx,hne,hxs,rfl⟩:=lF (by rw[e1]; exact hnat 1 f om) h
   obtain⟨md,he⟩:=hT _ _ hg
   obtain⟨m,h9⟩:=JD hf he
   refine (Fv hfol htb ih h9 hl hx hne hxs R hv).mono fun e' w' hr=>?_
   obtain⟨ρ',r1,r2,⟨y,rfl,r3⟩ | ⟨_,x,y,r3,rfl,r4⟩⟩:=hr
   ·exact⟨ρ',r1,r2,.inl ⟨y,rfl,r3⟩⟩
   ·exact⟨ρ',r1,r2,.inr ⟨x,y,r3,rfl,r4⟩⟩
  ·obtain⟨fn,e,T,xs,hg,hl,hx,hne,hxs,rfl⟩:=lF (hnat 3 f om) h
   obtain⟨md,he⟩:=hT _ _ hg
   obtain⟨fc,c,q1,q2,q3⟩:=Jy hfol htb ih (JB hf he) hl hx hne hxs R hv
   refine (callsD_of_wp q1 q2 q3).mono ?_
   rintro e' u' w' ⟨rfl,ρ',y,r1,rfl,r2,_⟩
   exact⟨rfl,ρ',y,r1,rfl,r2⟩
  ·obtain⟨fn,e,T,xs,hg,hl,hx,hne,hxs,rfl⟩:=lF (hnat 2 f om) h
   obtain⟨md,he⟩:=hT _ _ hg
   exact KB hfol htb ih (JC hf he) hlen hx hne R hv hxv hu
theorem GC(hfol:P.follows .mixedOrders=true){N:fq}(hN:rX P N){tab:Tr cw}(hT:GP P tab)(n:Nat):gX P (cO N tab n):=(Dc hfol hN hT n).ok
end
end Go.Abs
namespace Go.Abs
section
variable {P:Program}
def H0:ab:=⟨0,.e⟩
theorem bv.below{w0:World}{ρ:Pl}{H:ab}{w:World}(R:bv ⟨fun c=>c<w0.heap.size,fun _=>False⟩ w0 ρ H w):RowKit.Below w0.heap.size w0 w:=
 ⟨R.os,R.tape,R.output,R.size,fun k hk=>(R.prot k hk).2⟩
end
end Go.Abs
namespace Go.Abs.S
open Go.Abs
abbrev bU:=Nat->aa
def en(T:Tr aa):bU:=fun i=>ev T (.t i)
def up(T:bU)(i:Nat)(v:aa):bU:=fun j=>bif Nat.beq j i then v else T j
def gY(T:bU):Option Nat->aa->bU
 | some d,v=>up T d v
 | none,_=>T
theorem FH(T:Tr aa)(i:Nat)(v:aa):en (T.set i v)=up (en T) i v:=by
 funext j
 simp only[en,up,ev,Tr.get_set,b9]
 by_cases h:j=i
 ·rw[if_pos h,decide_eq_true h]; rfl
 ·rw[if_neg h,decide_eq_false h]; rfl
theorem zC(T:Tr aa)(d:Option Nat)(v:aa):en (co T d v)=gY (en T) d v:=by
 cases d <;> simp only[co,gY,FH]
def sX(T:bU):aV->aa
 | .t i=>T i
 | .c v=>v
 | .f id=>.func (.func id) [] []
def iO(T:bU):List aV->List aa
 | []=>[]
 | x::r=>sX T x::iO T r
def ic(T:bU):Option aV->Option aa
 | none=>none
 | some x=>some (sX T x)
def nW(T:bU):List (Nat×Nat×aV)->List (Nat×Nat×aa)
 | []=>[]
 | (o,n,x)::r=>(o,n,sX T x)::nW T r
theorem oO(T:Tr aa)(x:aV):sX (en T) x=ev T x:=by cases x <;> rfl
theorem uE(T:Tr aa):∀l:List aV,iO (en T) l=fo T l
 | []=>rfl
 | x::r=>by simp only[iO,fo,oO,uE T r]
theorem J9(T:Tr aa)(x:Option aV):ic (en T) x=wT T x:=by cases x <;> simp only[ic,wT,oO]
theorem Ee(T:Tr aa):∀l:List (Nat×Nat×aV),nW (en T) l=yb T l
 | []=>rfl
 | (o,n,x)::r=>by simp only[nW,yb,oO,Ee T r]
abbrev Lj(b:Bool):aa->Bool:=Mf b
def sG(T:bU):Option (Nat×Bool)->Bool
 | none=>true
 | some (t,b)=>gV t b (T (gS t))
theorem Eg(T:Tr aa)(g:Option (Nat×Bool)):sG (en T) g=ga T g:=by
 cases g with
 | none=>rfl
 | some p=>rfl
theorem KA{K t:Nat}(h:t<K):Nat.ble K t=false:=by
 cases hb:Nat.ble K t with
 | false=>rfl
 | true=>have:=N7 hb; omega
theorem LO{t:Nat}(h:Nat.ble SK t=false):gS t=t:=by unfold gS; rw[h]; rfl
theorem Ka(T:bU){t:Nat}(h:Nat.ble SK t=false)(b:Bool):sG T (some (t,b))=Lj b (T t):=by
 simp only[sG,gV,LO h,h,cond_false]
theorem Jo(T:bU){t:Nat}(h:t<1000000)(b:Bool):sG T (some (t,b))=Lj b (T t):=Ka T (KA h) b
def cS{α:Type}(o:Option α)(K:α->Prop):Prop:=∃v,o=some v/\K v
theorem aM{α:Type}(x:α)(K:α->Prop):cS (some x) K=K x:=by simp[cS]
theorem cS.mono{α:Type}{o:Option α}{K K':α->Prop}(h:cS o K)(hk:∀v,K v->K' v):cS o K':=by
 obtain⟨v,h1,h2⟩:=h; exact⟨v,h1,hk v h2⟩
abbrev CS:=FuncId->List aa->ab->(aa->ab->Prop)->Prop
section
variable (C:CS)
def B6(T:bU)(H:ab)(K:aa->ab->Prop):gZ->Prop
 | .mv x=>K (sX T x) H
 | .pick c a b=>∃b',sX T c=.bool b'/\K (bif b' then sX T a else sX T b) H
 | .new z=>K (fm H z).1 (fm H z).2
 | .box x=>K (fm H (sX T x).cells).1 (fm H (sX T x).cells).2
 | .build z ps=>cS (bT z (nW T ps)) fun v=>K v H
 | .buildSl n z ps=>cS (cA n z H (nW T ps)) fun p=>K p.1 p.2
 | .load a n x=>cS (am a n H (sX T x)) fun v=>K v H
 | .store n a x=>cS (bx n H (sX T a) (sX T x)) fun H'=>K aN H'
 | .nilChk x=>cS (cf (sX T x)) fun v=>K v H
 | .bin op x y=>cS (cB op (sX T x) (sX T y)) fun v=>K v H
 | .un op x=>cS (IR op (sX T x)) fun v=>K v H
 | .conv k x=>cS (pi k (sX T x)) fun v=>K v H
 | .convSB x=>cS (Lp H (sX T x)) fun p=>K p.1 p.2
 | .convBS x=>cS (GL H (sX T x)) fun v=>K v H
 | .mkFunc fn a b=>K (.func fn (iO T a) (iO T b)) H
 | .mkIface t x=>K (.iface t (sX T x)) H
 | .mkSlice b z l c=>cS (ph b z H (sX T l) (sX T c)) fun p=>K p.1 p.2
 | .sl n x lo hi mx=>cS (Lo n (sX T x) (ic T lo) (ic T hi) (ic T mx)) fun v=>K v H
 | .slStr x lo hi=>cS (ec (sX T x) (ic T lo) (ic T hi)) fun v=>K v H
 | .fieldA o x=>cS (gp o (sX T x)) fun v=>K v H
 | .field a n o x=>cS (lG a n o (sX T x)) fun v=>K v H
 | .idxA n x i=>cS (eB n (sX T x) (sX T i)) fun v=>K v H
 | .idxArr m n x i=>cS (iB m n (sX T x) (sX T i)) fun v=>K v H
 | .idx m n a x i=>cS (z7 m n a (sX T x) (sX T i)) fun v=>K v H
 | .idxS x i=>cS (jk (sX T x) (sX T i)) fun v=>K v H
 | .extract i x=>cS (eC i (sX T x)) fun v=>K v H
 | .append n b s x=>cS (bI n b H (sX T s) (sX T x)) fun p=>K p.1 p.2
 | .len s x=>cS (gh s (sX T x)) fun v=>K v H
 | .call f args=>C f (iO T args) H K
 | .callv f args=>∃g a b,sX T f=.func (.func g) a b/\Nat.blt g bN=true/\C g (a++iO T args++b) H K
 | .pf f xs=>cS (jJ f (iO T xs)) fun v=>K v H
 | .hf f xs=>cS (BW f H (iO T xs)) fun p=>K p.1 p.2
 | .bad=>False
 | .claim b z s=>cS (eN H b z s) fun v=>K v H
 | .slA m n x lo hi mx=>cS (kG m n (sX T x) (ic T lo) (ic T hi) (ic T mx)) fun v=>K v H
def aR:List ah->bU->ab->(bU->ab->Prop)->Prop
 | [],T,H,K=>K T H
 | o::r,T,H,K=>bif sG T o.guard then B6 C T H (fun v H'=>aR r (gY T o.dst v) H' K) o.op else aR r (gY T o.dst aN) H K
def ei:List ah->bU->ab->(List (aa×ab)->bU->ab->Prop)->Prop
 | [],T,H,K=>K [] T H
 | o::r,T,H,K=>bif sG T o.guard then B6 C T H (fun v H'=>ei r (gY T o.dst v) H' fun ss=>K ((v,H')::ss)) o.op else ei r (gY T o.dst aN) H fun ss=>K ((aN,H)::ss)
end
def Lv(T:bU)(H:ab):gZ->Option aa
 | .load a n x=>am a n H (sX T x)
 | .claim b z s=>eN H b z s
 | _=>none
def xX(hs:List ab):List ah->List (List Nat)->List (aa×ab)->bU->Prop
 | o::os,ps::pss,(v,_)::ss,T=>(∀p∈ps,∃Hp,hs[p]?=some Hp/\(sG T o.guard=true->∃u,Lv T Hp o.op=some u/\aeq u v=true))/\xX hs os pss ss (gY T o.dst v)
 | _,_,_,_=>True
def Ag(C:CS)(l:List ah)(chk:List (List Nat))(T:bU)(H:ab)(K:bU->ab->Prop):Prop:=ei C l T H fun ss T' H'=>xX (H::ss.map (·.2)) l chk ss T/\K T' H'
abbrev nT:=rY->bU->ab->Prop
def ko(id:Nat)(Q:nT):nT:=fun e T H=>match e with
 | .exit j=>bif Nat.beq j id then Q .normal T H else Q (.exit j) T H
 | e=>Q e T H
def kl(Q:nT)(K:bU->ab->Prop):nT:=fun e T H=>match e with
 | .normal=>K T H
 | e=>Q e T H
def wp(C:CS):bE->nT->bU->ab->Prop
 | .skip,Q,T,H=>Q .normal T H
 | .reg ops,Q,T,H=>aR C ops T H (Q .normal)
 | .draw ops chk,Q,T,H=>Ag C (aw H.next ops) chk T (bt H ops) (Q .normal)
 | .seq a b,Q,T,H=>wp C a (kl Q (wp C b Q)) T H
 | .cond c a b,Q,T,H=>∃v,sX T c=.bool v/\bif v then wp C a Q T H else wp C b Q T H
 | .block id c,Q,T,H=>wp C c (ko id Q) T H
 | .loop c,Q,T,H=>∃(I:Nat->bU->ab->Prop),(∃m,I m T H)/\∀m T H,I m T H->wp C c (kl Q fun T' H'=>∃m',m'<m/\I m' T' H') T H
 | .exit id,Q,T,H=>Q (.exit id) T H
 | .ret,Q,T,H=>Q .ret T H
section
variable {tb:FuncId->Bool}
def Hn(c d:FuncId->List aa->ab->Option (aa×ab)):Prop:=∀f a H r,c f a H=some r->d f a H=some r
theorem Hn.refl(c):Hn c c:=fun _ _ _ _ h=>h
theorem jH{c d}(h:Hn c d){o:ah}{T:Tr aa}{H:ab}{r}(e:be tb c o T H=some r):be tb d o T H=some r:=by
 unfold be at e ⊢
 cases hg:ga T o.guard with
 | false=>rw[hg]at e; exact e
 | true=>
  rw[hg]at e
  simp only[cond_true]at e ⊢
  split at e
  ·exact e
  ·exact h _ _ _ _ e
  ·simp at e
theorem mH{c d}(h:Hn c d):∀(l:List ah) {T:Tr aa} {H:ab} {r},aX tb c l T H=some r->aX tb d l T H=some r
 | [],_,_,_,e=>e
 | o::l,T,H,r,e=>by
  have hs:∀c,aX tb c (o::l) T H=match be tb c o T H with | some (v,H')=>aX tb c l (co T o.dst v) H' | none=>none:=by
   intro c
   simp only[aX,be]
   cases ga T o.guard with
   | false=>rfl
   | true=>
    simp only[cond_true]
    cases bG tb T H o.op with
    | none=>rfl
    | some p=>obtain⟨nx,H'⟩:=p; cases nx <;> rfl
  rw[hs]at e ⊢
  split at e
  ·rename_i v H' hv
   rw[jH h hv]
   exact mH h l e
  ·simp at e
theorem kC{c d}(h:Hn c d):∀(l:List ah) {T:Tr aa} {H:ab} {r},cm tb c l T H=some r->cm tb d l T H=some r
 | [],_,_,_,e=>e
 | o::l,T,H,r,e=>by
  simp only[cm]at e ⊢
  split at e
  ·rename_i v H' hv
   rw[jH h hv]
   split at e
   ·rename_i s hs
    simp only[kC h l hs]
    exact e
   ·simp at e
  ·simp at e
theorem mI{f g:Tr aa->ab->Option (rY×Tr aa×ab)}(h:∀T H r,f T H=some r->g T H=some r):∀(n m:Nat) (T:Tr aa) (H:ab) (r),n<=m->iA f n T H=some r->iA g m T H=some r
 | 0,_,_,_,_,_,e=>by simp[iA]at e
 | n+1,0,_,_,_,hl,_=>om
 | n+1,m+1,T,H,r,hl,e=>by
  simp only[iA]at e ⊢
  split at e
  ·rename_i T' H' hv
   rw[h _ _ _ hv]
   exact mI h n m T' H' r om e
  ·rename_i e' T' H' hne hv
   rw[h _ _ _ hv]
   cases e' with
   | normal=>exact absurd rfl hne
   | exit i=>exact e
   | ret=>exact e
  ·simp at e
theorem fH{c d}(h:Hn c d){k k':Nat}(hk:k<=k'):∀(x:bE) (T:Tr aa) (H:ab) (r),aH tb c k x T H=some r->aH tb d k' x T H=some r:=by
 intro x
 induction x with
 | skip=>intro T H r e; exact e
 | reg l=>
  intro T H r e
  simp only[aH]at e ⊢
  split at e
  ·rename_i T' H' hv; rw[mH h l hv]; exact e
  ·simp at e
 | draw l chk=>
  intro T H r e
  simp only[aH,kF]at e ⊢
  split at e
  ·rename_i ss hv; rw[kC h _ hv]; exact e
  ·simp at e
 | seq a b iha ihb=>
  intro T H r e
  simp only[aH]at e ⊢
  split at e
  ·rename_i T' H' hv; rw[iha _ _ _ hv]; exact ihb _ _ _ e
  ·rename_i e' T' H' hne hv
   rw[iha _ _ _ hv]
   cases e' with
   | normal=>exact absurd rfl hne
   | exit i=>exact e
   | ret=>exact e
  ·simp at e
 | cond c a b iha ihb=>
  intro T H r e
  simp only[aH]at e ⊢
  split at e
  ·exact iha _ _ _ e
  ·exact ihb _ _ _ e
  ·simp at e
 | block id c ih=>
  intro T H r e
  simp only[aH]at e ⊢
  split at e
  ·rename_i j T' H' hv; rw[ih _ _ _ hv]; exact e
  ·rename_i e' T' H' hne hv
   rw[ih _ _ _ hv]
   cases e' with
   | exit i=>exact absurd rfl (hne i)
   | normal=>exact e
   | ret=>exact e
  ·simp at e
 | loop c ih=>
  intro T H r e
  simp only[aH]at e ⊢
  exact mI (fun T H r hr=>ih T H r hr) k k' T H r hk e
 | exit id=>intro T H r e; exact e
 | ret=>intro T H r e; exact e
theorem pc{N:fq}{tab:Tr cw}:∀(n:Nat),Hn (cO N tab n) (cO N tab (n+1))
 | 0=>fun f a H r e=>by simp[cO]at e
 | n+1=>fun f a H r e=>by
  have ih:=pc (N:=N) (tab:=tab) n
  rw[cO]at e ⊢
  cases hn:N.is f with
  | true=>rw[hn]at e; exact e
  | false=>
   rw[hn]at e
   simp only[cond_false]at e ⊢
   split at e
   ·rename_i fn hf
    cases hb:Nat.ble a.length fn.nt with
    | false=>rw[hb]at e; simp at e
    | true=>
     rw[hb]at e
     simp only[cond_true]at e ⊢
     split at e
     ·simp at e
     ·rename_i e' T' H' hne hv
      rw[fH ih (Nat.le_succ n) _ _ _ _ hv]
      cases e' with
      | exit i=>exact (hne i rfl).elim
      | normal=>exact e
      | ret=>exact e
     ·simp at e
   ·simp at e
theorem dF{N:fq}{tab:Tr cw}{n m:Nat}(h:n<=m):Hn (cO N tab n) (cO N tab m):=by
 induction m with
 | zero => obtain rfl : n = 0 := by omega
           exact Hn.refl _
 | succ m ih=>
  by_cases e:n=m+1
  ·subst e; exact Hn.refl _
  ·exact fun f a H r hr=>pc m _ _ _ _ (ih om _ _ _ _ hr)
end
end Go.Abs.S
namespace Go.Abs.S
open Go.Abs
def DL(P:Program)(N:fq):Nat->Tr cw
 | 0=>.e
 | n+1=>match vg P (N.md (n % bN)) n with
  | some c=>(DL P N n).set n c
  | none=>DL P N n
def gj(P:Program)(N:fq):Tr cw:=DL P N (4*bN)
theorem mT(P:Program)(N:fq):∀(n f:Nat),(DL P N n).get f=if f<n then vg P (N.md (f % bN)) f else none
 | 0,f=>by rw[if_neg om]; cases f <;> rfl
 | n+1,f=>by
  simp only[DL]
  cases hc:vg P (N.md (n % bN)) n with
  | none=>
   simp only[mT P N n f]
   by_cases h:f<n
   ·rw[if_pos h,if_pos om]
   ·by_cases e:f=n
    ·subst e; rw[if_neg h,if_pos om,hc]
    ·rw[if_neg h,if_neg om]
  | some c=>
   simp only[Tr.get_set,mT P N n f]
   by_cases e:f=n
   ·subst e; rw[if_pos rfl,if_pos om,hc]
   ·rw[if_neg e]
    by_cases h:f<n
    ·rw[if_pos h,if_pos om]
    ·rw[if_neg h,if_neg om]
theorem HC(P:Program)(N:fq):GP P (gj P N):=by
 intro f fn h
 rw[gj,mT]at h
 split at h
 ·exact⟨_,h⟩
 ·simp at h
theorem DK{P:Program}{N:fq}{f:Nat}{c:cw}(h:vg P (N.md (f % bN)) f=some c):(gj P N).get f=some c:=by
 have hf:f<4*bN:=by
  unfold vg at h
  cases h4:Nat.blt f (4*bN) with
  | true=>exact d8 h4
  | false=>
   exfalso
   have h4':¬f<4*bN:=fun q=>by rw[show Nat.blt f (4*bN)=true from N3 q]at h4; simp at h4
   have h5:4*bN<=f:=Nat.not_lt.1 h4'
   have e1:Nat.blt f bN=false:=by rw[eF]; exact decide_eq_false om
   have e2:Nat.blt f (2*bN)=false:=by rw[eF]; exact decide_eq_false om
   have e3:Nat.blt f (3*bN)=false:=by rw[eF]; exact decide_eq_false om
   rw[e1,e2,e3,h4]at h
   simp at h
 rw[gj,mT,if_pos hf,h]
theorem CQ{P:Program}{N:fq}{f:FuncId}{c:cw}(h:Hl P f=some c)(hm:N.md f=none)(hf:Nat.blt f bN=true):vg P (N.md (f % bN)) f=some c:=by
 rw[Nat.mod_eq_of_lt (d8 hf),hm]
 unfold vg
 rw[hf]
 exact h
def an(P:Program)(N:fq)(f:FuncId)(args:List aa)(H:ab)(K:aa->ab->Prop):Prop:=
 ∃n v H',cO N (gj P N) n f args H=some (v,H')/\K v H'
theorem an.mono{P:Program}{N:fq}{f:FuncId}{args:List aa}{H:ab}{K K':aa->ab->Prop}(h:an P N f args H K)(hk:∀v H',K v H'->K' v H'):an P N f args H K':=by
 obtain⟨n,v,H',h1,h2⟩:=h; exact⟨n,v,H',h1,hk _ _ h2⟩
section
variable {P:Program} {N:fq}
theorem xS{n:Nat}{f:FuncId}{args:List aa}{H:ab}{r}(h:cO N (gj P N) n f args H=some r):xY N (gj P N) f=true:=by
 cases n with
 | zero=>simp[cO]at h
 | succ n=>
  rw[cO]at h
  unfold xY
  cases hn:N.is f with
  | true=>rfl
  | false=>
   rw[hn]at h
   simp only[cond_false]at h ⊢
   cases ht:(gj P N).get f with
   | none=>rw[ht]at h; simp at h
   | some c=>rfl
theorem B5{T:Tr aa}{H:ab}{o:gZ}{K:aa->ab->Prop}(h:B6 (an P N) (en T) H K o) :
  (∃v H',bG (xY N (gj P N)) T H o=some (.val v,H')/\K v H')∨(∃f args H' n v H'',bG (xY N (gj P N)) T H o=some (.enter f args,H')/\cO N (gj P N) n f args H'=some (v,H'')/\K v H''):=by
 cases o
 case call f args=>
  right
  simp only[B6,uE]at h
  obtain⟨n,v,H',h1,h2⟩:=h
  exact⟨f,_,H,n,v,H',by simp only[bG,xS h1,cond_true],h1,h2⟩
 case callv f args=>
  right
  simp only[B6,oO,uE]at h
  obtain⟨g,a,b,hf,hgb,n,v,H',h1,h2⟩:=h
  exact⟨g,_,H,n,v,H',by simp only[bG,hf,hgb,xS h1,Bool.and_true,cond_true],h1,h2⟩
 case pick c a b=>
  simp only[B6,oO]at h
  obtain⟨b',h1,h2⟩:=h
  exact .inl ⟨_,_,by simp only[bG,h1],h2⟩
 case bad=>simp[B6]at h
 all_goals
  left
  simp only[B6,oO,uE,J9,Ee,cS]at h
  first
   | exact⟨_,_,rfl,h⟩
   | (obtain ⟨v, h1, h2⟩ := h
      refine ⟨_, _, ?_, h2⟩
      simp only [bG, h1]
      try rfl)
theorem oJ{T:Tr aa}{H:ab}{o:ah}{K:aa->ab->Prop}(h:B6 (an P N) (en T) H K o.op)(hg:ga T o.guard=true) :
  ∃n v H',be (xY N (gj P N)) (cO N (gj P N) n) o T H=some (v,H')/\K v H':=by
 rcases B5 h with⟨v,H',h1,h2⟩ | ⟨f,args,H',n,v,H'',h1,h2,h3⟩
 ·exact⟨0,v,H',by simp only[be,hg,cond_true,h1],h2⟩
 ·exact⟨n,v,H'',by simp only[be,hg,cond_true,h1,h2],h3⟩
theorem zT(tb:FuncId->Bool)(c)(o:ah)(l:List ah)(T:Tr aa)(H:ab):aX tb c (o::l) T H=match be tb c o T H with | some (v,H')=>aX tb c l (co T o.dst v) H' | none=>none:=by
 simp only[aX,be]
 cases ga T o.guard with
 | false=>rfl
 | true=>
  simp only[cond_true]
  cases bG tb T H o.op with
  | none=>rfl
  | some p=>obtain⟨nx,H'⟩:=p; cases nx <;> rfl
theorem oK:∀(l:List ah) {T:Tr aa} {H:ab} {K:bU->ab->Prop},aR (an P N) l (en T) H K ->
  ∃n T' H',aX (xY N (gj P N)) (cO N (gj P N) n) l T H=some (T',H')/\K (en T') H'
 | [],T,H,K,h=>⟨0,T,H,rfl,h⟩
 | o::l,T,H,K,h=>by
  simp only[aR,Eg]at h
  have:∃n v H',be (xY N (gj P N)) (cO N (gj P N) n) o T H=some (v,H')/\aR (an P N) l (gY (en T) o.dst v) H' K:=by
   cases hg:ga T o.guard with
   | true=>rw[hg]at h; exact oJ h hg
   | false=>rw[hg]at h; exact⟨0,aN,H,by simp only[be,hg,cond_false],h⟩
  obtain⟨n,v,H',h1,h2⟩:=this
  rw[<- zC]at h2
  obtain⟨m,T2,H2,h3,h4⟩:=oK l h2
  refine⟨max n m,T2,H2,?_,h4⟩
  rw[zT,jH (dF (Nat.le_max_left n m)) h1]
  exact mH (dF (Nat.le_max_right n m)) l h3
theorem sI:∀(l:List ah) {T:Tr aa} {H:ab} {K:List (aa×ab)->bU->ab->Prop},ei (an P N) l (en T) H K->∀j,
  ∃n ss,cm (xY N (gj P N)) (cO N (gj P N) n) l T H=some ss/\K ss (en (ba (fun _=>true) j l ss T)) (dU H ss l.length)
 | [],T,H,K,h,j=>⟨0,[],rfl,h⟩
 | o::l,T,H,K,h,j=>by
  simp only[ei,Eg]at h
  have:∃n v H',be (xY N (gj P N)) (cO N (gj P N) n) o T H=some (v,H')/\ei (an P N) l (gY (en T) o.dst v) H' fun ss=>K ((v,H')::ss):=by
   cases hg:ga T o.guard with
   | true=>rw[hg]at h; exact oJ h hg
   | false=>rw[hg]at h; exact⟨0,aN,H,by simp only[be,hg,cond_false],h⟩
  obtain⟨n,v,H',h1,h2⟩:=this
  rw[<- zC]at h2
  obtain⟨m,ss,h3,h4⟩:=sI l h2 (j+1)
  refine⟨max n m,(v,H')::ss,?_,?_⟩
  ·simp only[cm,jH (dF (Nat.le_max_left n m)) h1,kC (dF (Nat.le_max_right n m)) l h3]
  ·have hl:=(fT l _ H' ss 0 h3).1
   have e:dU H' ss l.length=dU H ((v,H')::ss) (o::l).length:=by
    simp only[N5]
    cases hr:l.length with
    | zero=>rfl
    | succ q=>
     simp only[dU,Ob]
     rw[N1 om]
   rw[<- e]
   exact h4
theorem sK{tb:FuncId->Bool}{hs:List ab}:∀(l:List ah) (chk:List (List Nat)) (ss:List (aa×ab)) (T:Tr aa),xX hs l chk ss (en T)->eL tb hs l chk ss T=true
 | [],_,_,_,_=>rfl
 | o::l,[],_,_,_=>rfl
 | o::l,p::ps,[],_,_=>rfl
 | o::l,p::ps,(v,Hv)::ss,T,h=>by
  simp only[xX]at h
  obtain⟨h1,h2⟩:=h
  simp only[eL,N4]
  refine⟨List.all_eq_true.2 fun q hq=>?_,sK l ps ss _ (by rw[zC]; exact h2)⟩
  obtain⟨Hp,e1,e2⟩:=h1 q hq
  rw[e1]
  simp only
  cases hg:ga T o.guard with
  | false=>rfl
  | true=>
   obtain⟨u,u1,u2⟩:=e2 (by rw[Eg]; exact hg)
   simp only[cond_true]
   cases ho:o.op <;> rw[ho]at u1 <;> simp only[Lv,reduceCtorEq,oO]at u1
   ·simp only[bG,u1,vv]; exact u2
   ·simp only[bG,u1,vv]; exact u2
theorem oW{Q:nT}{K:bU->ab->Prop}{e:rY}{T:bU}{H:ab}(h:kl Q K e T H):(e=.normal/\K T H)∨(e≠.normal/\Q e T H):=by
 cases e with
 | normal=>exact .inl ⟨rfl,h⟩
 | exit i=>exact .inr ⟨by simp,h⟩
 | ret=>exact .inr ⟨by simp,h⟩
theorem Dq:∀(c:bE) (Q:nT) (T:Tr aa) (H:ab),wp (an P N) c Q (en T) H ->
  ∃n e T' H',aH (xY N (gj P N)) (cO N (gj P N) n) n c T H=some (e,T',H')/\Q e (en T') H':=by
 intro c
 induction c with
 | skip=>intro Q T H h; exact⟨0,_,_,_,rfl,h⟩
 | reg l=>
  intro Q T H h
  obtain⟨n,T',H',h1,h2⟩:=oK l h
  exact⟨n,.normal,T',H',by simp only[aH,h1],h2⟩
 | draw l chk=>
  intro Q T H h
  simp only[wp,Ag]at h
  obtain⟨n,ss,h1,h2,h3⟩:=sI (aw H.next l) h 0
  exact⟨n,.normal,_,_,by simp only[aH,kF,h1,sK (aw H.next l) chk ss T h2,cond_true],h3⟩
 | seq a b iha ihb=>
  intro Q T H h
  obtain⟨n,e,T1,H1,h1,h2⟩:=iha _ T H h
  rcases oW h2 with⟨rfl,h2⟩ | ⟨hne,h2⟩
  ·obtain⟨m,e2,T2,H2,h3,h4⟩:=ihb _ T1 H1 h2
   refine⟨max n m,e2,T2,H2,?_,h4⟩
   simp only[aH,fH (dF (Nat.le_max_left n m)) (Nat.le_max_left n m) a _ _ _ h1]
   exact fH (dF (Nat.le_max_right n m)) (Nat.le_max_right n m) b _ _ _ h3
  ·refine⟨n,e,T1,H1,?_,h2⟩
   cases e with
   | normal=>exact absurd rfl hne
   | exit i=>simp only[aH,h1]
   | ret=>simp only[aH,h1]
 | cond c a b iha ihb=>
  intro Q T H h
  simp only[wp,oO]at h
  obtain⟨v,hv,h⟩:=h
  cases v with
  | true=>
   obtain⟨n,e,T1,H1,h1,h2⟩:=iha _ T H h
   exact⟨n,e,T1,H1,by simp only[aH,hv,h1],h2⟩
  | false=>
   obtain⟨n,e,T1,H1,h1,h2⟩:=ihb _ T H h
   exact⟨n,e,T1,H1,by simp only[aH,hv,h1],h2⟩
 | block id c ih=>
  intro Q T H h
  obtain⟨n,e,T1,H1,h1,h2⟩:=ih _ T H h
  cases e with
  | exit j=>
   simp only[ko]at h2
   cases hb:Nat.beq j id with
   | true=>rw[hb]at h2; exact⟨n,.normal,T1,H1,by simp only[aH,h1,hb,cond_true],h2⟩
   | false=>rw[hb]at h2; exact⟨n,.exit j,T1,H1,by simp only[aH,h1,hb,cond_false],h2⟩
  | normal=>exact⟨n,.normal,T1,H1,by simp only[aH,h1],h2⟩
  | ret=>exact⟨n,.ret,T1,H1,by simp only[aH,h1],h2⟩
 | loop c ih=>
  intro Q T H h
  simp only[wp]at h
  obtain⟨I,⟨m,hm⟩,hI⟩:=h
  have key:∀(m:Nat) (T:Tr aa) (H:ab),I m (en T) H->∃n e T' H',aH (xY N (gj P N)) (cO N (gj P N) n) n (.loop c) T H=some (e,T',H')/\Q e (en T') H':=by
   intro m
   induction m using Nat.strongRecOn with
   | ind m ihm=>
    intro T H hi
    obtain⟨n,e,T1,H1,h1,h2⟩:=ih _ T H (hI m _ _ hi)
    rcases oW h2 with⟨rfl,m',hm',h2⟩ | ⟨hne,h2⟩
    ·obtain⟨k,e2,T2,H2,h3,h4⟩:=ihm m' hm' T1 H1 h2
     refine⟨max n k+1,e2,T2,H2,?_,h4⟩
     simp only[aH,iA]
     rw[fH (dF (show n<=max n k+1 by omega)) (show n<=max n k+1 by omega) c _ _ _ h1]
     simp only[aH]at h3
     exact mI (fun T H r hr=>fH (dF (show k<=max n k+1 by omega)) (show k<=max n k+1 by omega) c T H r hr) k (max n k) T1 H1 _ (Nat.le_max_right n k) h3
    ·refine⟨n+1,e,T1,H1,?_,h2⟩
     simp only[aH,iA]
     rw[fH (dF (Nat.le_succ n)) (Nat.le_succ n) c _ _ _ h1]
     cases e with
     | normal=>exact absurd rfl hne
     | exit i=>rfl
     | ret=>rfl
  exact key m T H hm
 | exit id=>intro Q T H h; exact⟨0,_,_,_,rfl,h⟩
 | ret=>intro Q T H h; exact⟨0,_,_,_,rfl,h⟩
def nN(args:List aa):bU:=fun i=>match args[i]? with
 | some v=>v
 | none=>aN
theorem qx:∀(args:List aa) (i:Nat) (T:Tr aa),en (cF args i T)=fun j=>if i<=j then (match args[j-i]? with | some v=>v | none=>en T j) else en T j
 | [],i,T=>by funext j; simp[cF]
 | x::r,i,T=>by
  rw[cF,qx r (i+1),FH]
  funext j
  by_cases h:i+1<=j
  ·rw[if_pos h,if_pos om,show j-i=(j-(i+1))+1 by omega]
   simp only[Ob]
   split
   ·rfl
   ·have hb:Nat.beq j i=false:=by rw[b9]; exact decide_eq_false om
    simp only[up,hb,cond_false]
  ·rw[if_neg h]
   by_cases e:i=j
   ·subst e
    simp[up]
   ·rw[if_neg om]
    have hb:Nat.beq j i=false:=by rw[b9]; exact decide_eq_false om
    simp only[up,hb,cond_false]
theorem Cq(args:List aa):en (cF args 0 .e)=nN args:=by
 rw[qx]
 funext j
 simp only[Nat.zero_le,if_true,Nat.sub_zero,nN]
 split
 ·rfl
 ·rfl
def mL(T:bU)(H:ab):List lJ->Option (List aa)
 | []=>some []
 | .t i::r=>match mL T H r with
  | some l=>some (T i::l)
  | none=>none
 | .cell g n i::r=>match am g n H (T i),mL T H r with
  | some x,some l=>some (x::l)
  | _,_=>none
theorem pv(T:Tr aa)(H:ab):∀l:List lJ,mL (en T) H l=ji T H l
 | []=>rfl
 | .t i::r=>by simp only[mL,ji,pv T H r]; rfl
 | .cell g n i::r=>by simp only[mL,ji,pv T H r]; rfl
def fin(res:List lJ)(K:aa->ab->Prop):nT:=fun e T H=>match e with
 | .exit _=>False
 | _=>cS (mL T H res) fun l=>K (gW l) H
theorem uj{f:FuncId}{c:cw}{args:List aa}{H:ab}{K:aa->ab->Prop}(hn:N.is f=false)(hc:vg P (N.md (f % bN)) f=some c)(hl:Nat.ble args.length c.nt=true)(h:wp (an P N) c.body (fin c.res K) (nN args) H):an P N f args H K:=by
 rw[<- Cq]at h
 obtain⟨n,e,T',H',h1,h2⟩:=Dq _ _ _ _ h
 have:∃l,ji T' H' c.res=some l/\K (gW l) H'/\∀i,e≠.exit i:=by
  cases e with
  | exit i=>exact h2.elim
  | normal=>obtain⟨l,q1,q2⟩:=h2; rw[pv]at q1; exact⟨l,q1,q2,fun i=>by simp⟩
  | ret=>obtain⟨l,q1,q2⟩:=h2; rw[pv]at q1; exact⟨l,q1,q2,fun i=>by simp⟩
 obtain⟨l,q1,q2,q3⟩:=this
 refine⟨n+1,gW l,H',?_,q2⟩
 rw[cO,hn,DK hc]
 simp only[cond_false,hl,cond_true,h1]
 cases e with
 | exit i=>exact absurd rfl (q3 i)
 | normal=>simp only[q1]
 | ret=>simp only[q1]
theorem zW{f:FuncId}{args:List aa}{H H':ab}{v:aa}{K:aa->ab->Prop}(hn:N.is f=true)(hr:N.run f args H=some (v,H'))(hk:K v H'):an P N f args H K:=
 ⟨1,v,H',by rw[cO,hn]; exact hr,hk⟩
theorem an.calls(hfol:P.follows .mixedOrders=true)(hN:rX P N){f:FuncId}{args:List aa}{H:ab}{K:aa->ab->Prop}(h:an P N f args H K)
  {Prot:Gh} {w0 w:World} {ρ:Pl} {vs:Array Value} (R:bv Prot w0 ρ H w) (hv:aj ρ args vs.toList) (hfb:Nat.blt f bN=true:=by rfl) :
  Calls P f vs w fun e w'=>∃ρ' v H' u,ρ.le ρ'/\e=.returned u/\K v H'/\bv Prot w0 ρ' H' w'/\ae ρ' v u:=by
 obtain⟨n,v,H',h1,h2⟩:=h
 refine (GC hfol hN (HC P N) n _ _ _ _ _ hfb h1 _ _ _ _ _ R hv).mono fun e w' hx=>?_
 obtain⟨ρ',u,q1,rfl,q2,q3⟩:=hx
 exact⟨ρ',v,H',u,q1,rfl,h2,q2,q3⟩
end
end Go.Abs.S
namespace Go.Abs.S
open Go.Abs
theorem EY{ρ:Pl}{p:Value->Prop}(h:∀v,p v->∃x,∀ρ,ae ρ x v):∀(vs:List Value),(∀v∈vs,p v)->∃l,∀ρ,aj ρ l vs
 | [],_=>⟨[],fun ρ=>by simp[aj]⟩
 | v::vs,hv=>by
  obtain⟨x,hx⟩:=h v (hv v (by simp))
  obtain⟨l,hl⟩:=EY (ρ:=ρ) h vs fun u hu=>hv u (by simp[hu])
  exact⟨x::l,fun ρ=>by simp only[aj]; exact⟨v,vs,rfl,hx ρ,hl ρ⟩⟩
theorem LL:∀(n:Nat) (v:Value),SizeOf.sizeOf v<=n->∃x,∀ρ,ae ρ x v:=by
 intro n
 induction n with
 | zero=>intro v h; cases v <;> simp at h
 | succ n ih=>
  intro v h
  cases v
  case bool b=>exact⟨.bool b,fun ρ=>by simp[ae]⟩
  case agg vs=>
   obtain⟨l,hl⟩:=EY (ρ:=fun _ _=>none) (p:=fun v=>SizeOf.sizeOf v<=n) ih vs.toList fun v hv=>by
    have:=Array.sizeOf_lt_of_mem (Array.mem_toList_iff.1 hv)
    simp at h; omega
   exact⟨.agg l,fun ρ=>by simp only[ae]; exact⟨vs,rfl,hl ρ⟩⟩
  case tuple vs=>
   obtain⟨l,hl⟩:=EY (ρ:=fun _ _=>none) (p:=fun v=>SizeOf.sizeOf v<=n) ih vs.toList fun v hv=>by
    have:=Array.sizeOf_lt_of_mem (Array.mem_toList_iff.1 hv)
    simp at h; omega
   exact⟨.tuple l,fun ρ=>by simp only[ae]; exact⟨vs,rfl,hl ρ⟩⟩
  all_goals exact⟨.val _,fun ρ=>by simp only[ae]; exact⟨rfl,rfl⟩⟩
noncomputable def yW(v:Value):aa:=Classical.choose (LL (SizeOf.sizeOf v) v rL)
theorem qI(v:Value)(ρ:Pl):ae ρ (yW v) v:=Classical.choose_spec (LL (SizeOf.sizeOf v) v rL) ρ
def jK(w:World)(c:Nat):Option Nat:=match w.heap[c]? with
 | some (.cells C _ _)=>some C.size
 | _=>none
noncomputable def jR(w:World):Value->aa
 | .bool b=>.bool b
 | .int k n=>.int k n
 | .string s=>.str s.data.toList
 | .pointer none=>.ptr none
 | .pointer (some ⟨c,off,none⟩)=>match jK w c with
  | some n=>.ptr (some ⟨c,n,off⟩)
  | none=>yW (.pointer (some ⟨c,off,none⟩))
 | .slice none 0 0=>.slice none 0 (.known 0)
 | .slice (some ⟨c,off,none⟩) len cap=>if len<=cap then (match jK w c with
  | some n=>if off<=n then .slice (some ⟨c,n,off⟩) len (.known cap) else .val (.slice (some ⟨c,off,none⟩) len cap)
  | none=>.val (.slice (some ⟨c,off,none⟩) len cap)) else .val (.slice (some ⟨c,off,none⟩) len cap)
 | .slice (some ⟨c,off,some q⟩) len cap=>.val (.slice (some ⟨c,off,some q⟩) len cap)
 | .map none=>.map none
 | .nilFunc=>.nilFunc
 | .nilIface=>.nilIface
 | v=>yW v
def Lk(w:World):Pl:=fun b l=>match jK w b with
 | some n=>if l=n then some ⟨b,0,n,false⟩ else none
 | none=>none
theorem qy{w:World}{b n:Nat}(h:jK w b=some n):Lk w b n=some ⟨b,0,n,false⟩:=by simp[Lk,h]
theorem yg(s:ByteArray):aL s.data.toList=s:=by cases s; simp[aL]
theorem nP(w:World)(v:Value):ae (Lk w) (jR w v) v:=by
 unfold jR
 split
 ·simp[ae]
 ·simp[ae]
 ·simp[ae,yg]
 ·simp[ae]
 ·split
  ·rename_i n hn
   simp only[ae]
   exact⟨_,qy hn,Nat.zero_le _,by simp⟩
  ·exact qI _ _
 ·simp[ae]
 ·split
  ·rename_i hl
   split
   ·rename_i n hn
    split
    ·simp only[ae]
     exact⟨_,qy hn,Nat.zero_le _,by simp only[bB]; exact⟨hl,by simp⟩⟩
    ·simp only[ae]; exact⟨trivial,rfl⟩
   ·simp only[ae]; exact⟨trivial,rfl⟩
  ·simp only[ae]; exact⟨trivial,rfl⟩
 ·simp only[ae]; exact⟨trivial,rfl⟩
 ·simp[ae]
 ·simp[ae]
 ·simp[ae]
 ·exact qI _ _
noncomputable def qB(w:World)(c:Nat):Option dt:=match w.heap[c]? with
 | some (.cells C _ _)=>some (.cells (C.toList.map (jR w)) 0 true)
 | _=>none
noncomputable def Lh(w:World):Nat->Tr dt
 | 0=>.e
 | n+1=>match qB w n with
  | some o=>(Lh w n).set n o
  | none=>Lh w n
theorem uA(w:World):∀(n b:Nat),(Lh w n).get b=if b<n then qB w b else none
 | 0,b=>by rw[if_neg om]; cases b <;> rfl
 | n+1,b=>by
  simp only[Lh]
  cases hc:qB w n with
  | none=>
   simp only[uA w n b]
   by_cases h:b<n
   ·rw[if_pos h,if_pos om]
   ·by_cases e:b=n
    ·subst e; rw[if_neg h,if_pos om,hc]
    ·rw[if_neg h,if_neg om]
  | some c=>
   simp only[Tr.get_set,uA w n b]
   by_cases e:b=n
   ·subst e; rw[if_pos rfl,if_pos om,hc]
   ·rw[if_neg e]
    by_cases h:b<n
    ·rw[if_pos h,if_pos om]
    ·rw[if_neg h,if_neg om]
noncomputable def dh(w:World):ab:=⟨w.heap.size,Lh w w.heap.size⟩
theorem fE(w:World)(b:Nat):(dh w).get b=qB w b:=by
 show (Lh w w.heap.size).get b=_
 rw[uA]
 by_cases h:b<w.heap.size
 ·rw[if_pos h]
 ·rw[if_neg h]
  unfold qB
  rw[Array.getElem?_eq_none om]
theorem kX{w:World}{c n:Nat}(h:jK w c=some n):∃C e fz,w.heap[c]?=some (.cells C e fz)/\C.size=n/\qB w c=some (.cells (C.toList.map (jR w)) 0 true):=by
 unfold jK at h
 unfold qB
 split at h
 ·rename_i C e fz hC
  simp only[sJ]at h
  exact⟨C,e,fz,hC,h,rfl⟩
 ·simp at h
theorem AH{w:World}{b l:Nat}{L:yd}(h:Lk w b l=some L):jK w b=some l/\L=⟨b,0,l,false⟩:=by
 unfold Lk at h
 split at h
 ·rename_i n hn
  split at h
  ·rename_i e; subst e; simp only[sJ]at h; exact⟨hn,h.symm⟩
  ·simp at h
 ·simp at h
theorem AN{w:World}{b:Nat}{x:dt}(h:qB w b=some x):x.rw=false:=by
 unfold qB at h
 split at h
 ·simp only[sJ]at h; subst h; rfl
 ·simp at h
theorem ti(w:World):bv ⟨fun c=>c<w.heap.size,fun _=>False⟩ w (Lk w) (dh w) w:=by
 refine⟨rfl,rfl,rfl,Nat.le_refl _,fun _ hc=>⟨hc,rfl⟩,fun b l L h=>?_,fun b l L h=>?_,fun b l L x h hx hr=>?_,fun b l L b' l' L' x h h' he hx hr=>?_,fun _ h=>h.elim,fun b l low h=>?_⟩
 ·obtain⟨h1,rfl⟩:=AH h
  obtain⟨C,e,fz,h2,_,_⟩:=kX h1
  have:=(Array.getElem?_eq_some_iff.1 h2).1
  exact⟨this,this⟩
 ·obtain⟨h1,rfl⟩:=AH h
  obtain⟨C,e,fz,h2,h3,h4⟩:=kX h1
  obtain⟨lo,hi⟩:=fz
  refine⟨_,_,by rw[fE,h4],h2,?_⟩
  simp only[ee]
  refine⟨C,e,lo,hi,rfl,h3,fun h=>by simp at h,by simp; omega,fun _ i _ hi=>?_⟩
  have hlt:i<C.size:=om
  refine⟨jR w C[i],C[i],?_,by simp[hlt],nP w _⟩
  simp[hlt]
 ·rw[fE]at hx
  rw[AN hx]at hr
  simp at hr
 ·rw[fE]at hx
  rw[AN hx]at hr
  simp at hr
 ·rw[fE]at h
  have hr:jK w b=some l.length:=by
   unfold qB at h
   unfold jK
   split at h
   ·rename_i C e fz hC
    simp only[sJ,dt.cells.injEq]at h
    simp[<- h.1]
   ·simp at h
  exact⟨_,qy hr,rfl,rfl,rfl⟩
end Go.Abs.S
namespace Go.Abs.S
open Go.Abs
theorem Ai(T:bU)(i:Nat)(v:aa):up T i v i=v:=by simp[up]
theorem I8(T:bU)(i j:Nat)(v:aa)(h:j≠i):up T i v j=T j:=by
 have:Nat.beq j i=false:=by rw[b9]; exact decide_eq_false h
 simp[up,this]
structure b7(n:Nat)(H H':ab):Prop where
 next:H.next<=H'.next
 old:∀b,b<n->H'.get b=H.get b
theorem b7.refl(n:Nat)(H:ab):b7 n H H:=⟨Nat.le_refl _,fun _ _=>rfl⟩
theorem b7.trans{n:Nat}{H H' H'':ab}(h:b7 n H H')(k:b7 n H' H''):b7 n H H'':=⟨Nat.le_trans h.next k.next,fun b hb=>(k.old b hb).trans (h.old b hb)⟩
theorem b7.less{n m:Nat}{H H':ab}(h:b7 n H H')(hm:m<=n):b7 m H H':=⟨h.next,fun b hb=>h.old b om⟩
theorem b7.push{n:Nat}{H H':ab}(h:b7 n H H')(hn:n<=H'.next)(o:dt):b7 n H (H'.push o):=
 ⟨Nat.le_trans h.next (by simp[ab.push]),fun b hb=>by rw[ab.get_push,if_neg om,h.old b hb]⟩
theorem b7.set{n:Nat}{H H':ab}(h:b7 n H H'){b:Nat}(hn:n<=b)(o:dt):b7 n H (H'.set b o):=
 ⟨h.next,fun c hc=>by rw[ab.get_set,if_neg om,h.old c hc]⟩
theorem a8(H:ab)(o:dt):(H.push o).next=H.next+1:=rfl
theorem mY(H:ab)(b:Nat)(o:dt):(H.set b o).next=H.next:=rfl
def cp:aa:=.slice none 0 (.known 0)
def FQ(s:aa)(i:Nat):aa:=match s with
 | .slice (some a) _ _=>.ptr (some ⟨a.b,a.lim,a.o+i*1⟩)
 | _=>aN
def LM:aa->Bool
 | .slice none 0 (.known 0)=>true
 | .val (.slice (some _) 0 0)=>true
 | _=>false
theorem ja{s:aa}(h:LM s=true):s=cp∨∃a,s=.val (.slice (some a) 0 0):=by
 unfold LM at h
 split at h
 ·exact .inl rfl
 ·exact .inr ⟨_,rfl⟩
 ·simp at h
def Ab(n:Nat)(H:ab)(s:aa)(l:List aa):Prop:=
 (LM s=true/\l=[])∨∃a r,s=.slice (some a) l.length r/\a.b<n/\aY H a l.length=some l
theorem wm{H H':ab}{a:Ad}(h:H'.get a.b=H.get a.b)(n:Nat):aY H' a n=aY H a n:=by
 unfold aY; rw[h]
theorem Ab.len{n:Nat}{H:ab}{s:aa}{l:List aa}(h:Ab n H s l):gh false s=some (.int .i64 l.length):=by
 rcases h with⟨h,rfl⟩ | ⟨a,r,rfl,_⟩
 ·rcases ja h with rfl | ⟨a,rfl⟩ <;> rfl
 ·rfl
theorem Em{H:ab}{a:Ad}{n i:Nat}{xs:List aa}(h:aY H a n=some xs)(hi:i<n):∃x,xs[i]?=some x/\aY H ⟨a.b,a.lim,a.o+i⟩ 1=some [x]:=by
 obtain⟨l,low,ro,h1,h2,h3,h4,rfl⟩:=nf h
 have hlt:a.o+i<l.length:=om
 refine⟨l[a.o+i],?_,?_⟩
 ·rw[List.getElem?_take_of_lt hi,List.getElem?_drop,N1 hlt]
 ·unfold aY
  simp only[h1,N3 h2,N3 h3,N3 (show a.o+i+1<=a.lim by omega),Bool.and_self,cond_true]
  rw[List.drop_eq_getElem_cons hlt]
  rfl
theorem Ab.idx{n:Nat}{H:ab}{s:aa}{l:List aa}(h:Ab n H s l)(k:IntKind){i:Nat}(hi:i<l.length):eB 1 s (.int k (i:Int))=some (FQ s i):=by
 rcases h with⟨_,rfl⟩ | ⟨a,r,rfl,_⟩
 ·simp at hi
 ·show (bif Nat.blt i l.length then _ else none)=_
  have:Nat.blt i l.length=true:=by simpa[Nat.blt_eq] using hi
  rw[this]; rfl
theorem Ab.load{n:Nat}{H:ab}{s:aa}{l:List aa}(h:Ab n H s l){i:Nat}{x:aa}(hi:l[i]?=some x):am false 1 H (FQ s i)=some x:=by
 have hlt:=(N2.1 hi).1
 rcases h with⟨_,rfl⟩ | ⟨a,r,rfl,_,h3⟩
 ·simp at hi
 ·obtain⟨y,h4,h5⟩:=Em h3 hlt
  rw[hi]at h4
  simp only[sJ]at h4
  subst h4
  simp only[am,FQ,Nat.mul_one,h5,cond_false]
theorem eZ{H:ab}{b low:Nat}{l:List aa}{ro:Bool}(h:H.get b=some (.cells l low ro))(hl:low<=l.length):aY H ⟨b,l.length,0⟩ l.length=some l:=by
 unfold aY
 simp only[h,N3 hl,N3 rL,Nat.zero_add,Bool.and_self,cond_true,List.drop_zero,List.take_length]
theorem tT{x:aa}(h:x.one=true):x.cells=[x]:=by cases x <;> first | rfl | (simp[aa.one]at h)
def HV(H:ab):aa:=.slice (some ⟨H.next,1,0⟩) 1 (.known 1)
theorem iK(z:aa)(H:ab){x:aa}(h:x.one=true):cA 1 [z] H [(0,1,x)]=some (HV H,H.push (.cells [x] 0 false)):=by
 simp only[cA,sj,List.append_nil,lP,tT h]
 rfl
theorem HG(H:ab)(x:aa):iN 1 (H.push (.cells [x] 0 false)) (HV H)=some (1,[x]):=by
 have:=eZ (H:=H.push (.cells [x] 0 false)) (b:=H.next) (l:=[x]) (low:=0) (ro:=false) (by rw[ab.get_push,if_pos rfl]) (by simp)
 simp only[N5,N6,Nat.zero_add]at this
 simp only[iN,HV,Nat.mul_one,this]
theorem Dp{H:ab}{b low i:Nat}{l:List aa}(h:H.get b=some (.cells l low false))(hl:low<=l.length)(hi:i<l.length){x:aa}(hx:x.one=true) :
  bx 1 H (.ptr (some ⟨b,l.length,i⟩)) x=some (H.set b (.cells (l.set i x) l.length false)):=by
 simp only[bx,tT hx,N5,N6,Nat.zero_add,Nat.beq_refl,cond_true]
 unfold dy
 simp only[h,N3 hl,Nat.beq_refl,N5,N6,Nat.zero_add,N3 (show i+1<=l.length by omega),List.all_cons,List.all_nil,hx,Bool.and_self,cond_true]
 congr 3
 rw[List.set_eq_take_append_cons_drop,if_pos hi]
 rfl
def sd(b n:Nat)(r:rT):aa:=.slice (some ⟨b,n,0⟩) n r
def af(b n i:Nat):aa:=.ptr (some ⟨b,n,i⟩)
def bc(H:ab)(b:Nat)(l:List aa):Prop:=∃low,H.get b=some (.cells l low false)/\low<=l.length
theorem HJ(b n:Nat)(r:rT):gh false (sd b n r)=some (.int .i64 (n:Int)):=_root_.id rfl
theorem HK{b n:Nat}{r:rT}(k:IntKind){i:Nat}(h:i<n):eB 1 (sd b n r) (.int k (i:Int))=some (af b n i):=by
 show (bif Nat.blt i n then some (aa.ptr (some ⟨b,n,0+i*1⟩)) else none)=_
 have:Nat.blt i n=true:=by simpa[Nat.blt_eq] using h
 rw[this,Nat.zero_add,Nat.mul_one]; rfl
theorem al{H:ab}{b n:Nat}{l:List aa}(h:bc H b l)(hn:l.length=n){i:Nat}{x:aa}(hi:l[i]?=some x):am false 1 H (af b n i)=some x:=by
 subst hn
 obtain⟨low,h1,h2⟩:=h
 have hlt:=(N2.1 hi).1
 obtain⟨y,h4,h5⟩:=Em (eZ h1 h2) hlt
 rw[hi]at h4
 simp only[sJ]at h4
 subst h4
 simp only[Nat.zero_add]at h5
 simp only[am,af,h5,cond_false]
theorem bM{H:ab}{b n:Nat}{l:List aa}(h:bc H b l)(hn:l.length=n){i:Nat}(hi:i<n){x:aa}(hx:x.one=true) :
  ∃H',bx 1 H (af b n i) x=some H'/\bc H' b (l.set i x)/\H'.next=H.next/\∀c,c≠b->H'.get c=H.get c:=by
 subst hn
 obtain⟨low,h1,h2⟩:=h
 exact⟨_,Dp h1 h2 hi hx,⟨l.length,by rw[ab.get_set,if_pos rfl],by simp⟩,rfl,fun c hc=>by rw[ab.get_set,if_neg hc]⟩
theorem bc.same{H H':ab}{b:Nat}{l:List aa}(h:bc H b l)(e:H'.get b=H.get b):bc H' b l:=by
 obtain⟨low,h1,h2⟩:=h; exact⟨low,e.trans h1,h2⟩
theorem fY(H:ab)(l:List aa):bc (H.push (.cells l 0 false)) H.next l:=⟨0,by rw[ab.get_push,if_pos rfl],Nat.zero_le _⟩
theorem aE{H:ab}{o:dt}{c:Nat}(h:c<H.next):(H.push o).get c=H.get c:=by rw[ab.get_push,if_neg om]
theorem bc.cel{H:ab}{b n m:Nat}{l:List aa}{r:rT}(h:bc H b l)(hn:l.length=n)(hb:b<m):Ab m H (sd b n r) l:=by
 subst hn
 obtain⟨low,h1,h2⟩:=h
 exact .inr ⟨_,_,rfl,hb,eZ h1 h2⟩
end Go.Abs.S
namespace Go.Abs.S
open Go.Abs
section
variable {C:CS} {Q:nT} {T:bU} {H:ab} {K:bU->ab->Prop} {r:List ah} {d:Option Nat}
theorem BI:wp C .skip Q T H=Q .normal T H:=_root_.id rfl
theorem Ge(ops:List ah):wp C (.reg ops) Q T H=aR C ops T H (Q .normal):=_root_.id rfl
theorem Gc(a b:bE):wp C (.seq a b) Q T H=wp C a (kl Q (wp C b Q)) T H:=_root_.id rfl
open Classical in
theorem BK(c:aV)(a b:bE):wp C (.cond c a b) Q T H=if sX T c=.bool true then wp C a Q T H else if sX T c=.bool false then wp C b Q T H else False:=by
 simp only[wp]
 by_cases h:sX T c=.bool true
 ·rw[if_pos h,h]; simp
 ·rw[if_neg h]
  by_cases h':sX T c=.bool false
  ·rw[if_pos h',h']; simp
  ·rw[if_neg h']
   simp only[eq_iff_iff,iff_false,not_exists,not_and]
   intro v hv
   cases v
   ·exact absurd hv h'
   ·exact absurd hv h
theorem fj(id:Nat)(c:bE):wp C (.block id c) Q T H=wp C c (ko id Q) T H:=_root_.id rfl
theorem BJ(id:Nat):wp C (.exit id) Q T H=Q (.exit id) T H:=_root_.id rfl
theorem Gd:wp C .ret Q T H=Q .ret T H:=_root_.id rfl
theorem nD:kl Q K .normal T H=K T H:=_root_.id rfl
theorem qL(i:Nat):kl Q K (.exit i) T H=Q (.exit i) T H:=_root_.id rfl
theorem tG:kl Q K .ret T H=Q .ret T H:=_root_.id rfl
theorem qM(id i:Nat):ko id Q (.exit i) T H=if i=id then Q .normal T H else Q (.exit i) T H:=by
 simp only[ko]
 by_cases h:i=id
 ·subst h; rw[if_pos rfl,Nat.beq_refl]; rfl
 ·rw[if_neg h,show Nat.beq i id=false by rw[b9]; exact decide_eq_false h]; rfl
theorem nE(id:Nat):ko id Q .normal T H=Q .normal T H:=_root_.id rfl
theorem tH(id:Nat):ko id Q .ret T H=Q .ret T H:=_root_.id rfl
theorem bD{c:bE}(I:Nat->bU->ab->Prop)(m:Nat)(h0:I m T H)(h:∀m T H,I m T H->wp C c (kl Q fun T' H'=>∃m',m'<m/\I m' T' H') T H):wp C (.loop c) Q T H:=⟨I,⟨m,h0⟩,h⟩
def jl(o:Option aa)(C:CS)(r:List ah)(T:bU)(d:Option Nat)(H:ab)(K:bU->ab->Prop):Prop:=cS o fun v=>aR C r (gY T d v) H K
def Dk(o:Option (aa×ab))(C:CS)(r:List ah)(T:bU)(d:Option Nat)(K:bU->ab->Prop):Prop:=cS o fun p=>aR C r (gY T d p.1) p.2 K
def L8(o:Option ab)(C:CS)(r:List ah)(T:bU)(d:Option Nat)(K:bU->ab->Prop):Prop:=cS o fun H'=>aR C r (gY T d aN) H' K
def Ks(C:CS)(r:List ah)(T:bU)(d:Option Nat)(K:bU->ab->Prop):aa->ab->Prop:=fun v H'=>aR C r (gY T d v) H' K
theorem um(v:aa):jl (some v) C r T d H K=aR C r (gY T d v) H K:=aM _ _
theorem uo(v:aa)(H':ab):Dk (some (v,H')) C r T d K=aR C r (gY T d v) H' K:=aM _ _
theorem ul(H':ab):L8 (some H') C r T d K=aR C r (gY T d aN) H' K:=aM _ _
theorem wL(v:aa):Ks C r T d K v H=aR C r (gY T d v) H K:=_root_.id rfl
theorem Gn:aR C [] T H K=K T H:=_root_.id rfl
open Classical in
theorem xJ(o:gZ)(t:Nat)(b:Bool)(ht:t<1000000):aR C (⟨d,o,some (t,b)⟩::r) T H K=if T t=.bool b then aR C (⟨d,o,none⟩::r) T H K else aR C r (gY T d aN) H K:=by
 simp only[aR,Jo T ht]
 by_cases h:T t=.bool b
 ·rw[if_pos h,h]; cases b <;> rfl
 ·rw[if_neg h]
  have:Lj b (T t)=false:=by
   unfold Lj
   cases hv:T t <;> simp only[Mf]
   rename_i v
   rw[hv]at h
   cases b <;> cases v <;> simp at h ⊢
  rw[this]; rfl
theorem Gq(x:aV):aR C (⟨d,.mv x,none⟩::r) T H K=aR C r (gY T d (sX T x)) H K:=_root_.id rfl
open Classical in
theorem BM(c a b:aV):aR C (⟨d,.pick c a b,none⟩::r) T H K=if sX T c=.bool true then aR C r (gY T d (sX T a)) H K else if sX T c=.bool false then aR C r (gY T d (sX T b)) H K else False:=by
 simp only[aR,sG,B6,cond_true]
 by_cases h:sX T c=.bool true
 ·rw[if_pos h,h]; simp
 ·rw[if_neg h]
  by_cases h':sX T c=.bool false
  ·rw[if_pos h',h']; simp
  ·rw[if_neg h']
   simp only[eq_iff_iff,iff_false,not_exists,not_and]
   intro v hv
   cases v
   ·exact absurd hv h'
   ·exact absurd hv h
theorem Gp(z:List aa):aR C (⟨d,.new z,none⟩::r) T H K=aR C r (gY T d (fm H z).1) (fm H z).2 K:=_root_.id rfl
theorem Gt(x:aV):aR C (⟨d,.box x,none⟩::r) T H K=aR C r (gY T d (fm H (sX T x).cells).1) (fm H (sX T x).cells).2 K:=_root_.id rfl
theorem xM(z:List aa)(ps:List (Nat×Nat×aV)):aR C (⟨d,.build z ps,none⟩::r) T H K=jl (bT z (nW T ps)) C r T d H K:=_root_.id rfl
theorem rI(n:Nat)(z:List aa)(ps:List (Nat×Nat×aV)):aR C (⟨d,.buildSl n z ps,none⟩::r) T H K=Dk (cA n z H (nW T ps)) C r T d K:=_root_.id rfl
theorem BN(a:Bool)(n:Nat)(x:aV):aR C (⟨d,.load a n x,none⟩::r) T H K=jl (am a n H (sX T x)) C r T d H K:=_root_.id rfl
theorem xH(n:Nat)(a x:aV):aR C (⟨d,.store n a x,none⟩::r) T H K=L8 (bx n H (sX T a) (sX T x)) C r T d K:=_root_.id rfl
theorem ub(x:aV):aR C (⟨d,.nilChk x,none⟩::r) T H K=jl (cf (sX T x)) C r T d H K:=_root_.id rfl
theorem Gu(op:BinOp)(x y:aV):aR C (⟨d,.bin op x y,none⟩::r) T H K=jl (cB op (sX T x) (sX T y)) C r T d H K:=_root_.id rfl
theorem JN(op:UnOp)(x:aV):aR C (⟨d,.un op x,none⟩::r) T H K=jl (IR op (sX T x)) C r T d H K:=_root_.id rfl
theorem BQ(k:IntKind)(x:aV):aR C (⟨d,.conv k x,none⟩::r) T H K=jl (pi k (sX T x)) C r T d H K:=_root_.id rfl
theorem uf(x:aV):aR C (⟨d,.convSB x,none⟩::r) T H K=Dk (Lp H (sX T x)) C r T d K:=_root_.id rfl
theorem ug(x:aV):aR C (⟨d,.convBS x,none⟩::r) T H K=jl (GL H (sX T x)) C r T d H K:=_root_.id rfl
theorem uc(fn:Fn)(a b:List aV):aR C (⟨d,.mkFunc fn a b,none⟩::r) T H K=aR C r (gY T d (.func fn (iO T a) (iO T b))) H K:=_root_.id rfl
theorem rG(t:TypeId)(x:aV):aR C (⟨d,.mkIface t x,none⟩::r) T H K=aR C r (gY T d (.iface t (sX T x))) H K:=_root_.id rfl
theorem rF(b:Nat)(z:List aa)(l c:aV):aR C (⟨d,.mkSlice b z l c,none⟩::r) T H K=Dk (ph b z H (sX T l) (sX T c)) C r T d K:=_root_.id rfl
theorem JO(n:Nat)(x:aV)(lo hi mx:Option aV):aR C (⟨d,.sl n x lo hi mx,none⟩::r) T H K=jl (Lo n (sX T x) (ic T lo) (ic T hi) (ic T mx)) C r T d H K:=_root_.id rfl
theorem xI(x:aV)(lo hi:Option aV):aR C (⟨d,.slStr x lo hi,none⟩::r) T H K=jl (ec (sX T x) (ic T lo) (ic T hi)) C r T d H K:=_root_.id rfl
theorem ue(o:Nat)(x:aV):aR C (⟨d,.fieldA o x,none⟩::r) T H K=jl (gp o (sX T x)) C r T d H K:=_root_.id rfl
theorem xK(a:Bool)(n o:Nat)(x:aV):aR C (⟨d,.field a n o x,none⟩::r) T H K=jl (lG a n o (sX T x)) C r T d H K:=_root_.id rfl
theorem BP(n:Nat)(x i:aV):aR C (⟨d,.idxA n x i,none⟩::r) T H K=jl (eB n (sX T x) (sX T i)) C r T d H K:=_root_.id rfl
theorem ud(m n:Nat)(x i:aV):aR C (⟨d,.idxArr m n x i,none⟩::r) T H K=jl (iB m n (sX T x) (sX T i)) C r T d H K:=_root_.id rfl
theorem Gs(m n:Nat)(a:Bool)(x i:aV):aR C (⟨d,.idx m n a x i,none⟩::r) T H K=jl (z7 m n a (sX T x) (sX T i)) C r T d H K:=_root_.id rfl
theorem BO(x i:aV):aR C (⟨d,.idxS x i,none⟩::r) T H K=jl (jk (sX T x) (sX T i)) C r T d H K:=_root_.id rfl
theorem rH(i:Nat)(x:aV):aR C (⟨d,.extract i x,none⟩::r) T H K=jl (eC i (sX T x)) C r T d H K:=_root_.id rfl
theorem uh(n b:Nat)(s x:aV):aR C (⟨d,.append n b s x,none⟩::r) T H K=Dk (bI n b H (sX T s) (sX T x)) C r T d K:=_root_.id rfl
theorem Gr(s:Bool)(x:aV):aR C (⟨d,.len s x,none⟩::r) T H K=jl (gh s (sX T x)) C r T d H K:=_root_.id rfl
theorem BR(f:FuncId)(args:List aV):aR C (⟨d,.call f args,none⟩::r) T H K=C f (iO T args) H (Ks C r T d K):=_root_.id rfl
def mF(C:CS)(f:aa)(args:List aa)(H:ab)(K:aa->ab->Prop):Prop:=∃g a b,f=.func (.func g) a b/\Nat.blt g bN=true/\C g (a++args++b) H K
theorem gd(g:Nat)(a b args:List aa)(K:aa->ab->Prop)(hg:g<1024):mF C (.func (.func g) a b) args H K=C g (a++args++b) H K:=by
 simp only[mF,aa.func.injEq,Fn.func.injEq]
 apply propext
 constructor
 ·rintro ⟨g,a,b,⟨rfl,rfl,rfl⟩,_,h⟩; exact h
 ·intro h; exact⟨_,_,_,⟨rfl,rfl,rfl⟩,N3 hg,h⟩
theorem xL(f:aV)(args:List aV):aR C (⟨d,.callv f args,none⟩::r) T H K=mF C (sX T f) (iO T args) H (Ks C r T d K):=_root_.id rfl
theorem JP(f:PF)(xs:List aV):aR C (⟨d,.pf f xs,none⟩::r) T H K=jl (jJ f (iO T xs)) C r T d H K:=_root_.id rfl
theorem JQ(f:HF)(xs:List aV):aR C (⟨d,.hf f xs,none⟩::r) T H K=Dk (BW f H (iO T xs)) C r T d K:=_root_.id rfl
theorem Gm(m n:Nat)(x:aV)(lo hi mx:Option aV):aR C (⟨d,.slA m n x lo hi mx,none⟩::r) T H K=jl (kG m n (sX T x) (ic T lo) (ic T hi) (ic T mx)) C r T d H K:=_root_.id rfl
theorem vJ(i:Nat)(v:aa):gY T (some i) v=up T i v:=_root_.id rfl
theorem vK(v:aa):gY T none v=T:=_root_.id rfl
theorem LE(i:Nat):sX T (.t i)=T i:=_root_.id rfl
theorem LG(v:aa):sX T (.c v)=v:=_root_.id rfl
theorem LF(i:Nat):sX T (.f i)=.func (.func i) [] []:=_root_.id rfl
theorem Be(res:List lJ)(K:aa->ab->Prop):fin res K .ret T H=cS (mL T H res) fun l=>K (gW l) H:=_root_.id rfl
theorem Jz(i:Nat)(K:aa->ab->Prop):fin [.t i] K .ret T H=K (T i) H:=by
 simp only[fin,mL,aM]; rfl
theorem FB(i j:Nat)(K:aa->ab->Prop):fin [.t i,.t j] K .ret T H=K (.tuple [T i,T j]) H:=by
 simp only[fin,mL,aM]; rfl
theorem FA(i j k:Nat)(K:aa->ab->Prop):fin [.t i,.t j,.t k] K .ret T H=K (.tuple [T i,T j,T k]) H:=by
 simp only[fin,mL,aM]; rfl
def pj(C:CS):Prop:=∀f a H (K K':aa->ab->Prop),(∀v H,K v H->K' v H)->C f a H K->C f a H K'
theorem d7(P:Program)(N:fq):pj (an P N):=fun _ _ _ _ _ h hc=>hc.mono h
theorem pT(hC:pj C){K K':aa->ab->Prop}(h:∀v H,K v H->K' v H){o:gZ}(hw:B6 C T H K o):B6 C T H K' o:=by
 cases o
 case call f args=>exact hC _ _ _ _ _ h hw
 case callv f args=>obtain⟨g,a,b,h1,h0,h2⟩:=hw; exact⟨g,a,b,h1,h0,hC _ _ _ _ _ h h2⟩
 case pick c a b=>obtain⟨v,h1,h2⟩:=hw; exact⟨v,h1,h _ _ h2⟩
 case bad=>exact hw
 all_goals first
  | exact h _ _ hw
  | exact cS.mono hw fun v hv=>h _ _ hv
theorem Ds(hC:pj C):∀(l:List ah) {T:bU} {H:ab} {K:List (aa×ab)->bU->ab->Prop} {K':bU->ab->Prop},(∀ss T H,K' T H->K ss T H)->aR C l T H K'->ei C l T H K:=by
 intro l
 induction l with
 | nil=>intro T H K K' h hw; exact h _ _ _ hw
 | cons o l ih=>
  intro T H K K' h hw
  simp only[aR,ei]at hw ⊢
  cases hg:sG T o.guard with
  | false=>rw[hg]at hw; exact ih (fun ss T H=>h _ T H) hw
  | true=>
   rw[hg]at hw
   simp only[cond_true]at hw ⊢
   exact pT hC (fun v H' hw=>ih (fun ss T H=>h _ T H) hw) hw
def rM:List (List Nat)->Bool
 | []=>true
 | []::r=>rM r
 | _::_=>false
theorem FM{hs:List ab}:∀(l:List ah) (ps:List (List Nat)) (ss:List (aa×ab)) (T:bU),rM ps=true->xX hs l ps ss T
 | [],_,_,_,_=>trivial
 | o::l,[],_,_,_=>trivial
 | o::l,[]::ps,[],_,_=>trivial
 | o::l,[]::ps,(v,Hv)::ss,T,h=>⟨fun p hp=>by simp at hp,FM l ps ss _ h⟩
 | o::l,(q::p)::ps,_,_,h=>by simp[rM]at h
def qD:List ah->Bool
 | []=>true
 | o::r=>match dH o.op with
  | some _=>false
  | none=>qD r
theorem eg:∀(l:List ah),qD l=true->∀(b:Nat) (H:ab),aw b l=l/\bt H l=H
 | [],_,b,H=>⟨rfl,rfl⟩
 | o::r,h,b,H=>by
  cases hz:dH o.op with
  | some p=>simp[qD,hz]at h
  | none=>
   simp only[qD,hz]at h
   exact⟨by simp only[aw,hz,(eg r h b H).1],by simp only[bt,hz,(eg r h b H).2]⟩
theorem Dt(hC:pj C):∀(l:List ah) {T:bU} {H:ab} {K K':List (aa×ab)->bU->ab->Prop},(∀ss T H,K ss T H->K' ss T H)->ei C l T H K->ei C l T H K':=by
 intro l
 induction l with
 | nil=>intro T H K K' h hw; exact h _ _ _ hw
 | cons o l ih=>
  intro T H K K' h hw
  simp only[ei]at hw ⊢
  cases hg:sG T o.guard with
  | false=>rw[hg]at hw; exact ih (fun ss T H=>h _ T H) hw
  | true=>
   rw[hg]at hw
   simp only[cond_true]at hw ⊢
   exact pT hC (fun v H' hw=>ih (fun ss T H=>h _ T H) hw) hw
theorem ye(hC:pj C):∀(l:List ah) {T:bU} {H:ab} {K K':bU->ab->Prop},(∀T H,K T H->K' T H)->aR C l T H K->aR C l T H K':=by
 intro l
 induction l with
 | nil=>intro T H K K' h hw; exact h _ _ hw
 | cons o l ih=>
  intro T H K K' h hw
  simp only[aR]at hw ⊢
  cases hg:sG T o.guard with
  | false=>rw[hg]at hw; exact ih h hw
  | true=>
   rw[hg]at hw
   simp only[cond_true]at hw ⊢
   exact pT hC (fun v H' hw=>ih h hw) hw
theorem mB{Q Q':nT}{K K':bU->ab->Prop}(h:∀e T H,Q e T H->Q' e T H)(hk:∀T H,K T H->K' T H)(e:rY)(T:bU)(H:ab)(hq:kl Q K e T H):kl Q' K' e T H:=by
 cases e with
 | normal=>exact hk _ _ hq
 | exit i=>exact h _ _ _ hq
 | ret=>exact h _ _ _ hq
theorem vG(hC:pj C):∀(c:bE) {Q Q':nT} {T:bU} {H:ab},(∀e T H,Q e T H->Q' e T H)->wp C c Q T H->wp C c Q' T H:=by
 intro c
 induction c with
 | skip=>intro Q Q' T H h hw; exact h _ _ _ hw
 | reg l=>intro Q Q' T H h hw; exact ye hC l (h .normal) hw
 | draw l chk=>intro Q Q' T H h hw; exact Dt hC _ (fun ss T' H' hk=>⟨hk.1,h _ _ _ hk.2⟩) hw
 | seq a b iha ihb=>intro Q Q' T H h hw; exact iha (mB h fun T H hk=>ihb h hk) hw
 | cond c a b iha ihb=>
  intro Q Q' T H h hw
  obtain⟨v,h1,h2⟩:=hw
  refine⟨v,h1,?_⟩
  cases v with
  | true=>exact iha h h2
  | false=>exact ihb h h2
 | block id c ih=>
  intro Q Q' T H h hw
  refine ih (fun e T H hk=>?_) hw
  cases e with
  | exit j=>
   simp only[ko]at hk ⊢
   cases hb:Nat.beq j id with
   | true=>rw[hb]at hk; exact h _ _ _ hk
   | false=>rw[hb]at hk; exact h _ _ _ hk
  | normal=>exact h _ _ _ hk
  | ret=>exact h _ _ _ hk
 | loop c ih=>
  intro Q Q' T H h hw
  obtain⟨I,hm,hI⟩:=hw
  exact⟨I,hm,fun m T H hi=>ih (mB h fun _ _ hk=>hk) (hI m T H hi)⟩
 | exit id=>intro Q Q' T H h hw; exact h _ _ _ hw
 | ret=>intro Q Q' T H h hw; exact h _ _ _ hw
def su:bE->bE
 | .draw l chk=>bif rM chk&&qD l then .reg l else .draw l chk
 | .seq a b=>.seq (su a) (su b)
 | .cond c a b=>.cond c (su a) (su b)
 | .block id c=>.block id (su c)
 | .loop c=>.loop (su c)
 | c=>c
theorem Af(hC:pj C):∀(c:bE) {Q:nT} {T:bU} {H:ab},wp C (su c) Q T H->wp C c Q T H:=by
 intro c
 induction c with
 | skip=>intro Q T H hw; exact hw
 | reg l=>intro Q T H hw; exact hw
 | draw l chk=>
  intro Q T H hw
  simp only[su]at hw
  cases hb:rM chk&&qD l with
  | false=>rw[hb]at hw; exact hw
  | true=>
   rw[hb]at hw
   simp only[N4]at hb
   simp only[wp,Ag,(eg l hb.2 H.next H).1,(eg l hb.2 H.next H).2]
   exact Ds hC l (K:=fun ss T' H'=>xX (H::ss.map (·.2)) l chk ss T/\Q .normal T' H') (fun ss T' H' hk=>⟨FM l chk ss T hb.1,hk⟩) hw
 | seq a b iha ihb=>intro Q T H hw; exact vG hC a (mB (fun _ _ _ h=>h) fun T H hk=>ihb hk) (iha hw)
 | cond c a b iha ihb=>
  intro Q T H hw
  obtain⟨v,h1,h2⟩:=hw
  refine⟨v,h1,?_⟩
  cases v with
  | true=>exact iha h2
  | false=>exact ihb h2
 | block id c ih=>intro Q T H hw; exact ih hw
 | loop c ih=>
  intro Q T H hw
  obtain⟨I,hm,hI⟩:=hw
  exact⟨I,hm,fun m T H hi=>ih (hI m T H hi)⟩
 | exit id=>intro Q T H hw; exact hw
 | ret=>intro Q T H hw; exact hw
def cN(P:Program)(f:FuncId):Option cw:=match Hl P f with
 | some c=>some ⟨c.nt,su c.body,c.res⟩
 | none=>none
theorem ak{P:Program}{N:fq}{f:FuncId}{c:cw}{args:List aa}{H:ab}{K:aa->ab->Prop}(hn:N.is f=false)(hc:cN P f=some c)(hl:Nat.ble args.length c.nt=true)(h:wp (an P N) c.body (fin c.res K) (nN args) H)(hm:N.md f=none:=by rfl)(hfb:Nat.blt f bN=true:=by rfl):an P N f args H K:=by
 unfold cN at hc
 cases hf:Hl P f with
 | none=>rw[hf]at hc; simp at hc
 | some c'=>
  rw[hf]at hc
  simp only[sJ]at hc
  subst hc
  exact uj hn (CQ hf hm hfb) hl (Af (d7 P N) _ h)
def Lm(P:Program)(md:Option BX)(i:Nat):Option cw:=match vg P md i with
 | some c=>some ⟨c.nt,su c.body,c.res⟩
 | none=>none
theorem jI{P:Program}{N:fq}{i:Nat}{md:Option BX}{c:cw}{args:List aa}{H:ab}{K:aa->ab->Prop}(hn:N.is i=false)(hc:Lm P md i=some c)(hl:Nat.ble args.length c.nt=true)(h:wp (an P N) c.body (fin c.res K) (nN args) H)(hm:N.md (i % bN)=md:=by rfl):an P N i args H K:=by
 unfold Lm at hc
 subst hm
 cases hf:vg P (N.md (i % bN)) i with
 | none=>rw[hf]at hc; simp at hc
 | some c'=>
  rw[hf]at hc
  simp only[sJ]at hc
  subst hc
  exact uj hn hf hl (Af (d7 P N) _ h)
theorem jh{l:List ah}{chk:List (List Nat)}(h2:qD l=true)(h:ei C l T H fun ss T' H'=>xX (H::ss.map (·.2)) l chk ss T/\Q .normal T' H'):wp C (.draw l chk) Q T H:=by
 simp only[wp,Ag,(eg l h2 H.next H).1,(eg l h2 H.next H).2]
 exact h
end
theorem Gl(a:aa)(r:List aa):nN (a::r) 0=a:=_root_.id rfl
theorem Gk(a b:aa)(r:List aa):nN (a::b::r) 1=b:=_root_.id rfl
theorem Gj(a b c:aa)(r:List aa):nN (a::b::c::r) 2=c:=_root_.id rfl
theorem Gg(a b c d:aa)(r:List aa):nN (a::b::c::d::r) 3=d:=_root_.id rfl
theorem Gf(a b c d e:aa)(r:List aa):nN (a::b::c::d::e::r) 4=e:=_root_.id rfl
theorem BB(k:IntKind)(a b:Int):cB .lss (.int k a) (.int k b)=some (.bool (decide (a<b))):=by
 simp[cB,ct,cZ,kH]
theorem BC(k:IntKind)(a b:Int):cB .leq (.int k a) (.int k b)=some (.bool (decide (a<=b))):=by
 simp[cB,ct,cZ,kH]
theorem BD(k:IntKind)(a b:Int):cB .gtr (.int k a) (.int k b)=some (.bool (decide (b<a))):=by
 simp[cB,ct,cZ,kH]
theorem BE(k:IntKind)(a b:Int):cB .geq (.int k a) (.int k b)=some (.bool (decide (b<=a))):=by
 simp[cB,ct,cZ,kH]
theorem BF(k:IntKind)(a b:Int):cB .eql (.int k a) (.int k b)=some (.bool (decide (a=b))):=by
 simp only[cB,ct,cZ,kH,cond_false,if_true]
 by_cases h:a=b <;> simp[h]
theorem Bz(k:IntKind)(a b:Int):cB .neq (.int k a) (.int k b)=some (.bool (!decide (a=b))):=by
 simp only[cB,ct,cZ,kH,cond_false,if_true]
 by_cases h:a=b <;> simp[h,bne]
theorem BG(k:IntKind)(a b:Int):cB .add (.int k a) (.int k b)=some (.int k (k.wrap (a+b))):=by
 simp[cB,ct,cZ,kH]
theorem Bw(k:IntKind)(a b:Int):cB .sub (.int k a) (.int k b)=some (.int k (k.wrap (a-b))):=by
 simp[cB,ct,cZ,kH]
theorem BA(k:IntKind)(a b:Int):cB .mul (.int k a) (.int k b)=some (.int k (k.wrap (a*b))):=by
 simp[cB,ct,cZ,kH]
theorem vu(k:IntKind)(a b:Int)(h:b≠0):cB .rem (.int k a) (.int k b)=some (.int k (a.tmod b)):=by
 simp[cB,ct,cZ,kH,h]
theorem Lu(a b:Nat)(h:a+b<=9223372036854775807):IntKind.i64.wrap ((a:Int)+(b:Int))=((a+b:Nat):Int):=by
 rw[IntKind.wrap_i64]; omega
theorem lK(a:Nat)(h:a+1<=9223372036854775807):IntKind.i64.wrap ((a:Int)+1)=((a+1:Nat):Int):=by
 rw[IntKind.wrap_i64]; omega
theorem bS{α:Type}{l:List α}{i:Nat}(h:i<l.length):∃x,l[i]?=some x:=⟨_,N1 h⟩
theorem bw{a:Int}(h1:-9223372036854775808<=a)(h2:a<=9223372036854775807):IntKind.i64.wrap a=a:=by
 rw[IntKind.wrap_i64]; omega
end Go.Abs.S
namespace Go.Abs
section
variable {P:Program} {Prot:Gh} {w0:World} {ρ:Pl} {H:ab} {w:World}
theorem bv.keep(R:bv Prot w0 ρ H w){w':World}(hb:RowKit.Below w.heap.size w w'):bv Prot w0 ρ H w':=by
 refine⟨hb.os.trans R.os,hb.tape.trans R.tape,hb.output.trans R.output,Nat.le_trans R.size hb.size,fun c hc=>?_,fun b l L h=>?_,fun b l L h=>?_,R.free,R.inj,R.dead,R.glob⟩
 ·obtain⟨h1,h2⟩:=R.prot c hc
  exact⟨h1,(hb.block c (Of h1 R.size)).trans h2⟩
 ·obtain⟨h1,h2⟩:=R.dom b l L h
  exact⟨h1,Of h2 hb.size⟩
 ·obtain⟨x,o,h1,h2,h3⟩:=R.obj b l L h
  exact⟨x,o,h1,(hb.block _ (R.dom b l L h).2).trans h2,h3⟩
end
end Go.Abs
namespace Go.Abs.S
open Go.Abs
section
variable {C:CS} {T:bU} {H:ab} {r:List ah} {d:Option Nat}
abbrev KT:=List (aa×ab)->bU->ab->Prop
variable {K:KT}
def gb(v:aa)(H:ab)(K:KT):KT:=fun ss=>K ((v,H)::ss)
theorem tQ(v:aa)(H':ab)(ss:List (aa×ab)):gb v H' K ss T H=K ((v,H')::ss) T H:=_root_.id rfl
def eE(o:Option aa)(C:CS)(r:List ah)(T:bU)(d:Option Nat)(H:ab)(K:KT):Prop:=cS o fun v=>ei C r (gY T d v) H (gb v H K)
def uq(o:Option (aa×ab))(C:CS)(r:List ah)(T:bU)(d:Option Nat)(K:KT):Prop:=cS o fun p=>ei C r (gY T d p.1) p.2 (gb p.1 p.2 K)
def JX(o:Option ab)(C:CS)(r:List ah)(T:bU)(d:Option Nat)(K:KT):Prop:=cS o fun H'=>ei C r (gY T d aN) H' (gb aN H' K)
def EW(C:CS)(r:List ah)(T:bU)(d:Option Nat)(K:KT):aa->ab->Prop:=fun v H'=>ei C r (gY T d v) H' (gb v H' K)
theorem rV(v:aa):eE (some v) C r T d H K=ei C r (gY T d v) H (gb v H K):=aM _ _
theorem rW(v:aa)(H':ab):uq (some (v,H')) C r T d K=ei C r (gY T d v) H' (gb v H' K):=aM _ _
theorem rU(H':ab):JX (some H') C r T d K=ei C r (gY T d aN) H' (gb aN H' K):=aM _ _
theorem tE(v:aa):EW C r T d K v H=ei C r (gY T d v) H (gb v H K):=_root_.id rfl
theorem DB:ei C [] T H K=K [] T H:=_root_.id rfl
open Classical in
theorem vO(o:gZ)(t:Nat)(b:Bool)(ht:t<1000000):ei C (⟨d,o,some (t,b)⟩::r) T H K=if T t=.bool b then ei C (⟨d,o,none⟩::r) T H K else ei C r (gY T d aN) H (gb aN H K):=by
 simp only[ei,Jo T ht]
 by_cases h:T t=.bool b
 ·rw[if_pos h,h]; cases b <;> rfl
 ·rw[if_neg h]
  have:Lj b (T t)=false:=by
   unfold Lj
   cases hv:T t <;> simp only[Mf]
   rename_i v
   rw[hv]at h
   cases b <;> cases v <;> simp at h ⊢
  rw[this]; rfl
open Classical in
theorem Ak(c a b:aV):ei C (⟨d,.pick c a b,none⟩::r) T H K=if sX T c=.bool true then ei C r (gY T d (sX T a)) H (gb (sX T a) H K) else if sX T c=.bool false then ei C r (gY T d (sX T b)) H (gb (sX T b) H K) else False:=by
 simp only[ei,sG,B6,cond_true]
 by_cases h:sX T c=.bool true
 ·rw[if_pos h,h]; simp; rfl
 ·rw[if_neg h]
  by_cases h':sX T c=.bool false
  ·rw[if_pos h',h']; simp; rfl
  ·rw[if_neg h']
   simp only[eq_iff_iff,iff_false,not_exists,not_and]
   intro v hv
   cases v
   ·exact absurd hv h'
   ·exact absurd hv h
theorem Jc(x:aV):ei C (⟨d,.mv x,none⟩::r) T H K=ei C r (gY T d (sX T x)) H (gb (sX T x) H K):=_root_.id rfl
theorem DC(z:List aa):ei C (⟨d,.new z,none⟩::r) T H K=ei C r (gY T d (fm H z).1) (fm H z).2 (gb (fm H z).1 (fm H z).2 K):=_root_.id rfl
theorem DF(x:aV):ei C (⟨d,.box x,none⟩::r) T H K=ei C r (gY T d (fm H (sX T x).cells).1) (fm H (sX T x).cells).2 (gb (fm H (sX T x).cells).1 (fm H (sX T x).cells).2 K):=_root_.id rfl
theorem vR(z:List aa)(ps:List (Nat×Nat×aV)):ei C (⟨d,.build z ps,none⟩::r) T H K=eE (bT z (nW T ps)) C r T d H K:=_root_.id rfl
theorem qd(n:Nat)(z:List aa)(ps:List (Nat×Nat×aV)):ei C (⟨d,.buildSl n z ps,none⟩::r) T H K=uq (cA n z H (nW T ps)) C r T d K:=_root_.id rfl
theorem Al(a:Bool)(n:Nat)(x:aV):ei C (⟨d,.load a n x,none⟩::r) T H K=eE (am a n H (sX T x)) C r T d H K:=_root_.id rfl
theorem vM(n:Nat)(a x:aV):ei C (⟨d,.store n a x,none⟩::r) T H K=JX (bx n H (sX T a) (sX T x)) C r T d K:=_root_.id rfl
theorem sO(x:aV):ei C (⟨d,.nilChk x,none⟩::r) T H K=eE (cf (sX T x)) C r T d H K:=_root_.id rfl
theorem DG(op:BinOp)(x y:aV):ei C (⟨d,.bin op x y,none⟩::r) T H K=eE (cB op (sX T x) (sX T y)) C r T d H K:=_root_.id rfl
theorem I9(op:UnOp)(x:aV):ei C (⟨d,.un op x,none⟩::r) T H K=eE (IR op (sX T x)) C r T d H K:=_root_.id rfl
theorem Ao(k:IntKind)(x:aV):ei C (⟨d,.conv k x,none⟩::r) T H K=eE (pi k (sX T x)) C r T d H K:=_root_.id rfl
theorem sU(x:aV):ei C (⟨d,.convSB x,none⟩::r) T H K=uq (Lp H (sX T x)) C r T d K:=_root_.id rfl
theorem sV(x:aV):ei C (⟨d,.convBS x,none⟩::r) T H K=eE (GL H (sX T x)) C r T d H K:=_root_.id rfl
theorem sP(fn:Fn)(a b:List aV):ei C (⟨d,.mkFunc fn a b,none⟩::r) T H K=ei C r (gY T d (.func fn (iO T a) (iO T b))) H (gb (.func fn (iO T a) (iO T b)) H K):=_root_.id rfl
theorem p8(t:TypeId)(x:aV):ei C (⟨d,.mkIface t x,none⟩::r) T H K=ei C r (gY T d (.iface t (sX T x))) H (gb (.iface t (sX T x)) H K):=_root_.id rfl
theorem pZ(b:Nat)(z:List aa)(l c:aV):ei C (⟨d,.mkSlice b z l c,none⟩::r) T H K=uq (ph b z H (sX T l) (sX T c)) C r T d K:=_root_.id rfl
theorem Ja(n:Nat)(x:aV)(lo hi mx:Option aV):ei C (⟨d,.sl n x lo hi mx,none⟩::r) T H K=eE (Lo n (sX T x) (ic T lo) (ic T hi) (ic T mx)) C r T d H K:=_root_.id rfl
theorem vN(x:aV)(lo hi:Option aV):ei C (⟨d,.slStr x lo hi,none⟩::r) T H K=eE (ec (sX T x) (ic T lo) (ic T hi)) C r T d H K:=_root_.id rfl
theorem sS(o:Nat)(x:aV):ei C (⟨d,.fieldA o x,none⟩::r) T H K=eE (gp o (sX T x)) C r T d H K:=_root_.id rfl
theorem vP(a:Bool)(n o:Nat)(x:aV):ei C (⟨d,.field a n o x,none⟩::r) T H K=eE (lG a n o (sX T x)) C r T d H K:=_root_.id rfl
theorem An(n:Nat)(x i:aV):ei C (⟨d,.idxA n x i,none⟩::r) T H K=eE (eB n (sX T x) (sX T i)) C r T d H K:=_root_.id rfl
theorem sQ(m n:Nat)(x i:aV):ei C (⟨d,.idxArr m n x i,none⟩::r) T H K=eE (iB m n (sX T x) (sX T i)) C r T d H K:=_root_.id rfl
theorem DE(m n:Nat)(a:Bool)(x i:aV):ei C (⟨d,.idx m n a x i,none⟩::r) T H K=eE (z7 m n a (sX T x) (sX T i)) C r T d H K:=_root_.id rfl
theorem Am(x i:aV):ei C (⟨d,.idxS x i,none⟩::r) T H K=eE (jk (sX T x) (sX T i)) C r T d H K:=_root_.id rfl
theorem p9(i:Nat)(x:aV):ei C (⟨d,.extract i x,none⟩::r) T H K=eE (eC i (sX T x)) C r T d H K:=_root_.id rfl
theorem sY(n b:Nat)(s x:aV):ei C (⟨d,.append n b s x,none⟩::r) T H K=uq (bI n b H (sX T s) (sX T x)) C r T d K:=_root_.id rfl
theorem DD(s:Bool)(x:aV):ei C (⟨d,.len s x,none⟩::r) T H K=eE (gh s (sX T x)) C r T d H K:=_root_.id rfl
theorem Ap(f:FuncId)(args:List aV):ei C (⟨d,.call f args,none⟩::r) T H K=C f (iO T args) H (EW C r T d K):=_root_.id rfl
theorem vQ(f:aV)(args:List aV):ei C (⟨d,.callv f args,none⟩::r) T H K=mF C (sX T f) (iO T args) H (EW C r T d K):=_root_.id rfl
theorem Jb(f:PF)(xs:List aV):ei C (⟨d,.pf f xs,none⟩::r) T H K=eE (jJ f (iO T xs)) C r T d H K:=_root_.id rfl
theorem Jd(f:HF)(xs:List aV):ei C (⟨d,.hf f xs,none⟩::r) T H K=uq (BW f H (iO T xs)) C r T d K:=_root_.id rfl
theorem DA(m n:Nat)(x:aV)(lo hi mx:Option aV):ei C (⟨d,.slA m n x lo hi mx,none⟩::r) T H K=eE (kG m n (sX T x) (ic T lo) (ic T hi) (ic T mx)) C r T d H K:=_root_.id rfl
theorem fN(hs:List ab)(o:ah)(l:List ah)(ps:List (List Nat))(v:aa)(Hv:ab)(ss:List (aa×ab)):xX hs (o::l) ([]::ps) ((v,Hv)::ss) T=xX hs l ps ss (gY T o.dst v):=by
 simp[xX]
def Hj(hs:List ab)(ps:List Nat)(T:bU)(o:ah)(v:aa):Prop:=∀p∈ps,∃Hp,hs[p]?=some Hp/\(sG T o.guard=true->∃u,Lv T Hp o.op=some u/\aeq u v=true)
theorem fO(hs:List ab)(o:ah)(l:List ah)(p:Nat)(q:List Nat)(ps:List (List Nat))(v:aa)(Hv:ab)(ss:List (aa×ab)):xX hs (o::l) ((p::q)::ps) ((v,Hv)::ss) T=(Hj hs (p::q) T o v/\xX hs l ps ss (gY T o.dst v)):=by
 simp[xX,Hj]
theorem iJ(hs:List ab)(ps:List (List Nat))(ss:List (aa×ab)):xX hs [] ps ss T=True:=by
 cases ps <;> simp[xX]
theorem fP(hs:List ab)(o:ah)(v:aa):Hj hs [] T o v=True:=by simp[Hj]
theorem ez(hs:List ab)(p:Nat)(q:List Nat)(a:Bool)(n:Nat)(x:aV)(g:Option (Nat×Bool))(v:aa):Hj hs (p::q) T ⟨d,.load a n x,g⟩ v=((∃Hp,hs[p]?=some Hp/\(sG T g=true->∃u,am a n Hp (sX T x)=some u/\aeq u v=true))/\Hj hs q T ⟨d,.load a n x,g⟩ v):=by
 simp[Hj,Lv]
theorem lD(k:IntKind)(a:Int):aeq (.int k a) (.int k a)=true:=by simp[aeq,ku]
theorem pH(a:List UInt8):aeq (.str a) (.str a)=true:=by simp[aeq]
end
def LJ(N:fq)(md:Nat->Option BX):fq:=⟨N.is,N.run,md⟩
theorem Ig{P:Program}{N:fq}(h:rX P N)(md:Nat->Option BX):rX P (LJ N md):=⟨h.body,h.run⟩
end Go.Abs.S
namespace Go.Abs.S
open Go.Abs
theorem aG(H:ab)(l:List aa){n:Nat}(hn:l.length=n):∃H',fm H l=(af H.next n 0,H')/\bc H' H.next l/\H'.next=H.next+1/\∀c,c≠H.next->H'.get c=H.get c:=by
 subst hn
 exact⟨_,rfl,fY _ _,rfl,fun c hc=>by rw[ab.get_push,if_neg hc]⟩
theorem dq(l:List aa):(aa.agg l).cells=l:=_root_.id rfl
theorem bZ(x:aa)(r:List aa):eC 0 (.tuple (x::r))=some x:=_root_.id rfl
theorem bY(x y:aa)(r:List aa):eC 1 (.tuple (x::y::r))=some y:=_root_.id rfl
theorem vx{b n i:Nat}(h:i<n)(k:IntKind):iB n 1 (af b n 0) (.int k (i:Int))=some (af b n i):=by
 show (bif Nat.blt i n then some (aa.ptr (some ⟨b,n,0+i*1⟩)) else none)=_
 have:Nat.blt i n=true:=by simpa[Nat.blt_eq] using h
 rw[this,Nat.zero_add,Nat.mul_one]; rfl
theorem b7.of_new{H H':ab}{b:Nat}(hn:H'.next=H.next+1)(h:∀c,c≠b->H'.get c=H.get c){n:Nat}(hb:n<=b):b7 n H H':=⟨om,fun c hc=>h c om⟩
end Go.Abs.S
namespace Go.Abs.S
open Go.Abs Go.WideShapes Go.ChangeShapes
variable {H:Type} {enc:TypeId×Value->H}
end Go.Abs.S
namespace Go.Abs.S
open Go.Abs
theorem oC{C:CS}{c:bE}{id:Nat}{Q:nT}{T:bU}{H:ab}(F:bU->ab->Prop)(hC:pj C)(h:wp C c (ko id (kl Q F)) T H)(k:∀T H,F T H->Q .normal T H):wp C c (ko id Q) T H:=by
 refine vG hC c (fun e T H hq=>?_) h
 cases e with
 | normal=>exact k _ _ hq
 | ret=>exact hq
 | exit j=>
  simp only[ko]at hq ⊢
  cases hb:Nat.beq j id with
  | true=>rw[hb]at hq; exact k _ _ hq
  | false=>rw[hb]at hq; exact hq
end Go.Abs.S
