/- Part of a proof (QBB QBC QBD QBE QM1 QM2 QM3 QU2 QBF QBG QCl QNat L1); no condition. -/
import Derived.KernelRfl
import Derived.Test.YteabnpheoiakdaaGreatProg
import Derived.Shelf.LaysM
import Derived.Shelf.Strconv.Clone
import Derived.WalkKit
import Derived.Below
import Derived.ChangeSame
import Derived.ReadAgain
import Derived.OpenShut
import Derived.ProofKit
import Derived.Test.YteabnpheoiakdaaGreatP8
import Derived.Test.YteabnpheoiakdaaGreatP9
import Derived.Test.YteabnpheoiakdaaGreatP13
import Derived.Test.YteabnpheoiakdaaGreatP14
set_option linter.unusedSimpArgs false
set_option linter.unusedVariables false
set_option linter.unnecessarySimpa false
namespace Go.Proofs.Wo
open Go.Abs Go.Abs.S
theorem iL{T:cD}{H:ae}(K:aa->ae->Prop):eD [] K .ret T H=K (.tuple []) H:=by
 rw[oP]; simp only[kF,aD]; rfl
theorem CW{m k:Nat}{H:ae}{s:aa}{L:List aa}(h:cp m H s L k):aeq s s=true:=by
 rcases h with⟨rfl,_⟩ | ⟨b,C,low,r,rfl,h2,_⟩
 ·exact uj
 ·cases r <;> simp[aeq]
theorem C7{f:St->Wk->Option Wk}(hf:∀{s w w'},f s w=some w'->w.vars.length<=w'.vars.length):∀{l:List St} {w w':Wk},Gv f l w=some w'->w.vars.length<=w'.vars.length
 | [],w,w',h=>by simp only[Gv,sJ]at h; rw[h]; exact Nat.le_refl _
 | s::l,w,w',h=>by
  rw[Gv]at h
  split at h <;> first | (simp at h; done) | skip
  rename_i w1 h1
  have:=hf h1
  split at h
  ·simp only[sJ]at h; rw[<- h]; exact this
  ·exact Nat.le_trans this (C7 hf h)
theorem N2(F:Int):∀m,(∀{s w w'},eS F m s w=some w'->w.vars.length<=w'.vars.length)/\(∀{l w w'},eL F m l w=some w'->w.vars.length<=w'.vars.length):=by
 intro m
 induction m with
 | zero=>exact⟨fun h=>by simp[eS]at h,fun h=>by simp[eL]at h⟩
 | succ m ih=>
  obtain⟨i1,i2⟩:=ih
  refine⟨fun {s w w'} h=>?_,fun {l w w'} h=>?_⟩
  ·obtain⟨k,S,e,body,els,line⟩:=s
   rw[eS]at h
   split at h
   ·simp only[sJ]at h; rw[<- h]; exact Nat.le_refl _
   split at h <;> first | (simp at h; done) | skip
   ·simp only[sJ]at h; rw[<- h]; exact Nat.le_refl _
   split at h
   ·split at h <;> first | (simp at h; done) | skip
    simp only[sJ]at h; rw[<- h]; simp
   split at h
   ·simp only[sJ]at h; rw[<- h]; simp
   split at h
   ·simp only[sJ]at h; rw[<- h]; exact Nat.le_refl _
   split at h
   ·split at h
    ·have:=i2 h; exact this
    ·have:=i2 h; exact this
   split at h
   ·split at h
    ·simp only[sJ]at h; rw[<- h]; exact Nat.le_refl _
    split at h <;> first | (simp at h; done) | skip
    rename_i w1 h1
    have:=i2 h1
    split at h
    ·simp only[sJ]at h; rw[<- h]; exact this
    ·exact Nat.le_trans this (i1 h)
   ·simp only[sJ]at h; rw[<- h]; exact Nat.le_refl _
  ·rw[eL]at h
   split at h <;> first | (simp at h; done) | skip
   unfold xS at h
   split at h <;> first | (simp at h; done) | skip
   rename_i w1 h1
   have:=C7 (fun h=>i1 h) h1
   split at h
   ·simp only[sJ]at h; rw[<- h]; exact this
   ·simp only[sJ]at h; rw[<- h,SZ]; omega
def Ss(n wb:Nat)(F:Int)(w':Wk)(H:ae)(u:aa)(H':ae):Prop:=
 u=.tuple []/\∃vs,pk n H' wb F vs w'/\Gj w'.vars/\H.next<=H'.next/\∀c,c<n->H'.get c=H.get c
def PS(F:Int)(m:Nat):Prop:=∀{s:St} {c:List aa} {H:ae} {n0 n wb:Nat} {vs p:aa} {w w':Wk},nU H p c->(∀a,p=.ptr (some a)->a.b<n0)->XS (·<n0) H s c->n0<=n ->
 pk n H wb F vs w->Gj w.vars->w.spent=false->eS F m s w=some w'->az Tryz.prog aH 44 [af wb 11 0,p] H (Ss n wb F w' H)
def PL(F:Int)(m:Nat):Prop:=∀{l:List St} {C:List aa} {H:ae} {n0 n wb:Nat} {vs v:aa} {w w':Wk},jt (·<n0) H 9 v l.length C->uu (·<n0) H l C->n0<=n ->
 pk n H wb F vs w->Gj w.vars->w.spent=false->eL F m l w=some w'->az Tryz.prog aH 20 [af wb 11 0,v] H (Ss n wb F w' H)
theorem blV(s:Bs)(v:Vl):aL [.str [],.bool false,.int .i64 0,.int .i64 0,.int .i64 0] [(0,1,.str s),(1,4,.agg (iX v))]=some (.agg (jv (s,v))):=rfl
theorem slV(H:ae)(p:Bs×Vl):cA 1 [.str [],.bool false,.int .i64 0,.int .i64 0,.int .i64 0] H [(0,5,.agg (jv p))]=some (.slice (some ⟨H.next,5,0⟩) 1 (.known 1),H.push (.cells (jv p) 0 false)):=rfl
theorem Ka{n wb:Nat}{H:ae}{F:Int}{vs:aa}{w:Wk}(h:pk n H wb F vs w)(hv:Gj w.vars)(hl:w.vars.length<1000)(p:Bs×Vl) :
  ∃vs' H1 H2,bQ 5 48 (H.push (.cells (jv p) 0 false)) vs (.slice (some ⟨H.next,5,0⟩) 1 (.known 1))=some (vs',H1)/\bu 1 H1 (af wb 11 0) vs'=some H2/\pk n H2 wb F vs' { w with vars:=w.vars++[p] }/\au false 1 (H.push (.cells (jv p) 0 false)) (af wb 11 0)=some vs/\H.next<=H2.next/\∀c,c<n->H2.get c=H.get c:=by
 have hwn:=h.wn
 have hlt:=h.lt
 obtain⟨vs',H1,a1,a2,a3,a4,a5⟩:=h.lin.add (xs:=jv p) (j:=1) rfl rfl om (bytes:=48) om om
 have hwb:H1.get wb=H.get wb:=a5 wb hlt (h.blk.mono fun b hb=>fun e=>hb.2 e.symm)
 obtain⟨H2,m2,r2,n2,k2⟩:=cu (h.row.same hwb) (n:=11) rfl (i:=0) om (x:=vs') a2.one (l':=pB vs' F { w with vars:=w.vars++[p] }) rfl
 have hb':=a4 _ h.blk
 have hb2:da vs' (fun c=>n<=c/\c≠wb):=hb'.mono fun b hb=>by
  rcases hb with hb | hb
  ·exact hb
  ·exact⟨om,om⟩
 refine⟨vs',H1,H2,a1,m2,⟨r2,?_,hb2,hwn,om⟩,?_,om,fun c hc=>?_⟩
 ·rw[EB,lA]
  exact a2.same om (hb2.mono fun b hb=>k2 b hb.2)
 ·exact am (i:=0) (h.row.same (aI hlt)) (n:=11) rfl rfl
 ·rw[k2 c om,a5 c om (h.blk.mono fun b hb=>by have:=hb.1; omega)]
theorem J9{n wb:Nat}{H:ae}{F:Int}{vs:aa}{w:Wk}(h:pk n H wb F vs w){i:Nat}{nm:Bs}{v0:Vl}(hi:w.vars[i]?=some (nm,v0))(v:Vl){b lim:Nat}(ha:iU 5 vs (.int .i64 (i:Int))=some (af b lim (i*5))) :
  ∃H2,bu 4 H (af b lim (i*5+1)) (.agg (iX v))=some H2/\pk n H2 wb F vs { w with vars:=w.vars.set i (nm,v) }/\H2.next=H.next/\∀c,c<n->H2.get c=H.get c:=by
 have hil:=(SC.1 hi).1
 obtain⟨b',lim',a2,a3,_,_,a4⟩:=xH h.lin (i:=i) hil (j:=1) (n:=4) om
 have e1:=ha.symm.trans a2
 simp only[sJ,af,aa.ptr.injEq,Ad.mk.injEq,and_true]at e1
 obtain⟨rfl,rfl⟩:=e1
 obtain⟨H2,s1,s2,s3,s4⟩:=a4 (iX v) rfl rfl
 have hb:n<=b/\b≠wb:=by
  rcases h.lin with⟨_,_,h0⟩ | ⟨b2,C,low,r,hvs,_⟩
  ·omega
  ·have q1:=a3 _ _ _ hvs
   have q2:=h.blk _ _ _ hvs
   rw[q1]; exact q2
 obtain⟨A,B,f1,f2,f3⟩:=si hi
 refine⟨H2,s1,⟨h.row.same (s4 wb (Ne.symm hb.2)),?_,h.blk,h.wn,by have:=h.lt; omega⟩,s3,fun c hc=>s4 c om⟩
 have e2:(dT w.vars).take (i*5+1)++(iX v++(dT w.vars).drop (i*5+1+4))=dT (w.vars.set i (nm,v)):=by
  rw[f3 (nm,v),f1,<- f2]
  have d1:(A++(jv (nm,v0)++B)).take (A.length+1)=A++[.str nm]:=by rw[List.take_append,List.take_of_length_le om,show A.length+1-A.length=1 by omega]; rfl
  have d2:(A++(jv (nm,v0)++B)).drop (A.length+1+4)=B:=by rw[show A.length+1+4=A.length+5 by omega,<- List.drop_drop,List.drop_left]; rfl
  rw[d1,d2,SQ]; rfl
 rw[e2]at s2
 show cp 5 H2 vs (dT (w.vars.set i (nm,v))) (w.vars.set i (nm,v)).length
 rw[List.length_set]
 exact s2
open Go.Abs Go.Abs.S
theorem J7{l:List (Bs×Vl)}(h:Gj l){i:Nat}{s:Bs}{v:Vl}(ov:rq v):Gj (l.set i (s,v)):=
 ⟨fun p hp=>by
  rcases List.mem_or_eq_of_mem_set hp with h1 | h1
  ·exact h.1 p h1
  ·rw[h1]; exact ov,by rw[List.length_set]; exact h.2.1,by rw[List.length_set]; exact h.2.2⟩
theorem J8{l:List (Bs×Vl)}(h:Gj l)(hl:l.length<1000){s:Bs}{v:Vl}(ov:rq v):Gj (l++[(s,v)]):=
 ⟨fun p hp=>by
  rcases List.mem_append.1 hp with h1 | h1
  ·exact h.1 p h1
  ·rw[List.mem_singleton.1 h1]; exact ov,by simp,by simp; omega⟩
set_option maxRecDepth 20000 in
theorem Kt{F:Int}(hF:F<=9223372036854775807)(m:Nat)(hL:∀k,k<m->PL F k):PS F m:=by
 intro s c H n0 n wb vs p w w' hp hpb hx hn0 hw hv hsp he
 obtain⟨k,S,e,body,els,line⟩:=s
 obtain⟨ce,vb,Cb,ve,Ce,rfl,h2,h3,h4,h5,h6⟩:=hx
 have hwn:=hw.wn
 have hwl:=hw.lt
 have hce:=h2.len
 refine aj rfl Ro rfl ?_
 simp only[c44,sA,sB,seval]
 refine cg (fun mm (T:cD) K=>∃vsK wK,mm<=m/\eS F mm (.mk k S e body els line) wK=some w'/\T 0=af wb 11 0/\T 1=p/\pk n K wb F vsK wK/\Gj wK.vars/\wK.spent=false/\H.next<=K.next/\∀c,c<n->K.get c=H.get c) m
  ⟨vs,w,Nat.le_refl _,he,by simp only[sA,sB,seval],by simp only[sA,sB,seval],hw,hv,hsp,Nat.le_refl _,fun c _=>rfl⟩ ?_
 rintro mm T K ⟨vsK,wK,hmm,heK,g0,g1,hwK,hvK,hsK,hnK,kK⟩
 cases mm with
 | zero=>simp[eS]at heK
 | succ mm=>
 have keepT:∀{L:ae},(∀c,c<n->L.get c=K.get c)->nU L p (.int .u8 (k:Int)::.str S::(ce++[vb,ve,.int .i64 line]))/\XE (·<n0) L e ce/\jt (·<n0) L 9 vb body.length Cb/\uu (·<n0) L body Cb/\jt (·<n0) L 9 ve els.length Ce/\uu (·<n0) L els Ce:=fun q=>by
  have q':∀b,b<n0->b<n0/\_=_:=fun b hb=>⟨hb,(q b om).trans (kK b om)⟩
  exact⟨hp.same fun a ea=>(q' a.b (hpb a ea)).2,h2.mono q',h3.mono q',h4.mono q',h5.mono q',h6.mono q'⟩
 rw[eS]at heK
 simp only[sA,sB,seval,g0,g1]
 refine (rV hwK hF).mono ?_
 rintro u K1 ⟨hu,hn1,k1⟩
 have hwKl:=hwK.lt
 by_cases hf:F<=(wK.st:Int)
 ·rw[if_pos hf]at hu heK
  obtain⟨rfl,hw1⟩:=hu
  simp only[sJ]at heK
  subst heK
  simp only[sA,sB,seval,iL]
  exact⟨rfl,vsK,hw1,hvK,om,fun c hc=>by rw[k1 c om,kK c hc]⟩
 rw[if_neg hf]at hu heK
 obtain⟨rfl,hw1⟩:=hu
 obtain⟨pt1,x1,_,_,_,_⟩:=keepT (L:=K1) fun c hc=>k1 c om
 have pe:=pt1.part (o:=2) (k:=4) (by simp only[SF,lA,hce]; omega)
 have e4:((aa.int .u8 (k:Int)::.str S::(ce++[vb,ve,.int .i64 line])).drop 2).take 4=ce:=by
  show (ce++[vb,ve,.int .i64 line]).take 4=ce
  rw[<- hce,List.take_left]
 rw[e4]at pe
 cases hE:eE wK.vars F e (wK.st+1) with
 | none=>rw[hE]at heK; simp at heK
 | some q0=>
 obtain⟨r,st⟩:=q0
 rw[hE]at heK
 simp only[sA,sB,seval,g0,g1,pt1.chk,pt1.fld]
 refine (AN hF e.size rL pe (fun a ea=>by
  obtain⟨a',rfl,_⟩:=pt1
  simp only[fp,aa.ptr.injEq,sJ]at ea
  subst ea
  exact hpb a' rfl) x1 hn0 hw1 hvK hsK hE).mono ?_
 rintro u K2 ⟨hr,hn2,k2⟩
 have k2':∀c,c<n->K2.get c=K.get c:=fun c hc=>by rw[k2 c om om,k1 c om]
 obtain⟨K3,m3,r3,n3,k3⟩:=aw K2 (iX z4) (n:=4) rfl
 have m3':fS K2 [.bool false,.int .i64 0,.int .i64 0,.int .i64 0]=(af K2.next 4 0,K3):=m3
 have E3:cZ K2.next K2 K3:=⟨om,fun c hc=>k3 c om⟩
 cases r with
 | none=>
  obtain⟨rfl,hw2⟩:=hr
  obtain⟨K4,m4,r4,n4,k4⟩:=ak r3 (n:=4) rfl (xs:=iX z4) rfl rfl
  have E4:cZ K2.next K2 K4:=⟨om,fun c hc=>by rw[k4 c om,k3 c om]⟩
  have hw4:=hw2.keep E4
  obtain⟨_,_,_,l6,_⟩:=JY hw4.row
  simp only[sJ]at heK
  subst heK
  simp only[sA,sB,seval,g0,g1,m3',m4,iI,aZ,l6,iL]
  exact⟨rfl,vsK,hw4,hvK,om,fun c hc=>by rw[k4 c om,k3 c om,k2' c hc,kK c hc]⟩
 | some v=>
 obtain⟨rfl,ov,hw2⟩:=hr
 obtain⟨K4,m4,r4,n4,k4⟩:=ak r3 (n:=4) rfl (xs:=iX v) rfl rfl
 have E4:cZ K2.next K2 K4:=⟨om,fun c hc=>by rw[k4 c om,k3 c om]⟩
 have hw4:=hw2.keep E4
 obtain⟨l0,_,_,l6,_⟩:=JY hw4.row
 have l6':au false 1 K4 (af wb 11 6)=some (.bool false):=by rw[l6]; exact congrArg (fun b=>some (aa.bool b)) hsK
 have k4':∀c,c<n->K4.get c=K.get c:=fun c hc=>by rw[k4 c om,k3 c om,k2' c hc]
 obtain⟨pt4,_,b1,b2,b3,b4⟩:=keepT k4'
 have f0:=pt4.load0 (x:=.int .u8 (k:Int)) rfl
 have f1:=pt4.load (o:=1) (x:=.str S) rfl
 have f6:=pt4.load (o:=6) (x:=vb) (by
  show (ce++[vb,ve,.int .i64 line])[4]?=_
  rw[<- hce,SU rL,Nat.sub_self]; rfl)
 have f7:=pt4.load (o:=7) (x:=ve) (by
  show (ce++[vb,ve,.int .i64 line])[5]?=_
  rw[SU om,show 5-ce.length=1 by omega]; rfl)
 obtain⟨v0,v1,v3',v4⟩:=Sd r4
 simp only at heK
 simp only[sA,sB,seval,g0,g1,m3',m4,iI,aZ,l6',pt4.chk,pt4.fld0,f0]
 have fin0:∀{L:ae} {vs':aa} {w2:Wk},pk n L wb F vs' w2->Gj w2.vars->K4.next<=L.next->(∀c,c<n->L.get c=K4.get c)->Ss n wb F w2 H (.tuple []) L:=fun a b c d=>
  ⟨rfl,_,a,b,om,fun x hx=>by rw[d x hx,k4' x hx,kK x hx]⟩
 by_cases h1k:k=1
 ·subst h1k
  rw[if_pos rfl]at heK
  split at heK <;> first | (simp at heK; done) | skip
  rename_i hlt
  simp only[sJ]at heK
  subst heK
  obtain⟨vs',L1,L2,a1,a2,hwL,lK,hnL,kL⟩:=Ka hw4 hvK hlt (S,v)
  simp only[sA,sB,seval]
  refine cI rfl ?_
  simp only[sR,sA,sB,seval,g0,g1,iI,fld0,l0,pt4.chk,pt4.fld,f1,v4,blV,slV,a1,a2]
  simp only[bG,bH,bg,bI,co,and_true,true_and,List.map_cons,List.map_nil,sA,sB,seval,iL]
  refine⟨?_,fin0 hwL (J8 hvK hlt ov) hnL kL⟩
  and_intros <;> first | rfl | exact⟨_,rfl,fun _=>⟨_,lK,CW hw4.lin⟩⟩ | exact⟨_,rfl,fun _=>⟨_,l0,CW hw4.lin⟩⟩
 rw[if_neg h1k]at heK
 have h1k':¬(k:Int)=1:=om
 by_cases h2k:k=2
 ·subst h2k
  rw[if_pos rfl]at heK
  simp only[sJ]at heK
  subst heK
  simp only[sA,sB,seval]
  refine cI rfl ?_
  simp only[sR,sA,sB,seval,g0,g1,iI,pt4.chk,pt4.fld,f1]
  refine (sd hw4 hvK.2.1 hvK.2.2 S).mono ?_
  rintro _ _ ⟨⟨b,lim,a1,rfl⟩,rfl⟩
  have hpl:=pN wK.vars S hvK.2.1 (wK.vars.length-1) (by have:=hvK.2.1; omega)
  obtain⟨⟨nm,vo⟩,hnm⟩:∃q,wK.vars[bS wK.vars S (wK.vars.length-1)]?=some q:=⟨_,SB hpl⟩
  obtain⟨L2,s1,hwL,s3,s4⟩:=J9 hw4 hnm v a1
  have en:((wK.vars[bS wK.vars S (wK.vars.length-1)]?).map (·.1)).getD []=nm:=by rw[hnm]; rfl
  rw[en]
  simp only[sR,sA,sB,seval,v4,iI,s1]
  simp only[bG,bH,bg,bI,co,and_true,true_and,List.map_cons,List.map_nil,sA,sB,seval,iL]
  refine⟨?_,fin0 hwL (J7 hvK ov) om s4⟩
  and_intros <;> first | rfl | exact⟨_,rfl,fun _=>⟨_,v4,by simp[aeq,aeqs,fD]⟩⟩
 rw[if_neg h2k]at heK
 have h2k':¬(k:Int)=2:=om
 by_cases h5k:k=5
 ·subst h5k
  rw[if_pos rfl]at heK
  simp only[sJ]at heK
  subst heK
  obtain⟨L1,m5,r5,n5,k5⟩:=mq hw4.row (n:=11) rfl (i:=8) (k:=3) om (xs:=v3 v.x v.y v.z) rfl rfl (l':=pB vsK F { wK with st:=st,out:=(v.x,v.y,v.z) }) rfl
  obtain⟨L2,m6,r6,n6,k6⟩:=cu r5 (n:=11) rfl (i:=7) om (x:=.bool true) rfl (l':=pB vsK F { wK with st:=st,out:=(v.x,v.y,v.z),ended:=true }) rfl
  have hwL:pk n L2 wb F vsK { wK with st:=st,out:=(v.x,v.y,v.z),ended:=true }:=(hw4.turn (w':={ wK with st:=st,out:=(v.x,v.y,v.z) }) r5 rfl n5 k5).turn r6 rfl n6 k6
  simp only[sA,sB,seval,g0,g1,aZ,v3',iI,m5,m6,iL]
  exact fin0 hwL hvK om fun c hc=>by rw[k6 c om,k5 c om]
 rw[if_neg h5k]at heK
 have h5k':¬(k:Int)=5:=om
 by_cases h3k:k=3
 ·subst h3k
  rw[if_pos rfl]at heK
  by_cases hx:v.x=0
  ·rw[if_neg (by simp[hx])]at heK
   simp only[sA,sB,seval,g0,g1,aZ,fld0,v1,hx,pt4.chk,pt4.fld,f7]
   refine (hL mm om b3 b4 hn0 hw4 hvK hsK heK).mono ?_
   rintro _ L ⟨rfl,vs2,hwL,hvL,hnL,kL⟩
   simp only[sA,sB,seval,iL]
   exact fin0 hwL hvL hnL kL
  ·rw[if_pos hx]at heK
   simp only[sA,sB,seval,g0,g1,aZ,fld0,v1,hx,pt4.chk,pt4.fld,f6]
   refine (hL mm om b1 b2 hn0 hw4 hvK hsK heK).mono ?_
   rintro _ L ⟨rfl,vs2,hwL,hvL,hnL,kL⟩
   simp only[sA,sB,seval,iL]
   exact fin0 hwL hvL hnL kL
 rw[if_neg h3k]at heK
 have h3k':¬(k:Int)=3:=om
 by_cases h4k:k=4
 ·subst h4k
  rw[if_pos rfl]at heK
  by_cases hx:v.x=0
  ·rw[if_pos hx]at heK
   simp only[sJ]at heK
   subst heK
   simp only[sA,sB,seval,g0,g1,aZ,fld0,v1,hx,iL]
   exact fin0 hw4 hvK rL fun _ _=>rfl
  ·rw[if_neg hx]at heK
   split at heK <;> first | (simp at heK; done) | skip
   rename_i w1 hb
   simp only[sA,sB,seval,g0,g1,aZ,fld0,v1,hx,pt4.chk,pt4.fld,f6]
   refine (hL mm om b1 b2 hn0 hw4 hvK hsK hb).mono ?_
   rintro _ L ⟨rfl,vs2,hwL,hvL,hnL,kL⟩
   simp only[sA,sB,seval,g0]
   refine (rZ hwL).mono ?_
   rintro _ _ ⟨rfl,rfl⟩
   cases ho:w1.over with
   | true=>
    rw[ho,if_pos rfl]at heK
    simp only[sJ]at heK
    subst heK
    simp only[sA,sB,seval,iL]
    exact fin0 hwL hvL hnL kL
   | false=>
    rw[ho,if_neg (by simp)]at heK
    have hs1:w1.spent=false:=by
     cases h:w1.spent with
     | true=>simp[Wk.over,h]at ho
     | false=>rfl
    simp only[sA,sB,seval]
    exact⟨mm,om,vs2,w1,om,heK,tt,tt,hwL,hvL,hs1,om,fun c hc=>by rw[kL c hc,k4' c hc,kK c hc]⟩
 rw[if_neg h4k]at heK
 have h4k':¬(k:Int)=4:=om
 simp only[sJ]at heK
 subst heK
 simp only[sA,sB,seval,h1k',h2k',h3k',h4k',h5k',iL]
 exact fin0 hw4 hvK rL fun _ _=>rfl
open Go.Abs Go.Abs.S
theorem Ld{F:Int}(m:Nat)(hS:PS F m):PL F (m+1):=by
 intro l C H n0 n wb vs v w w' hsl hxs hn0 hw hv hsp he
 have hwn:=hw.wn
 have hwl:=hw.lt
 obtain⟨l0,_⟩:=JY hw.row
 have hl:=hw.lin.len
 rw[eL]at he
 split at he <;> first | (simp at he; done) | skip
 rename_i hlb
 refine aj rfl RG rfl ?_
 simp only[c20,sA,sB,seval,iI,fld0,l0,hl,hsl.len]
 refine cg (fun mm (T:cD) K=>∃(i:Nat) (vsK:aa) (wK:Wk),mm=l.length-i/\i<=l.length/\xS w.vars.length (Gv (eS F m) (l.drop i) wK)=some w'/\T 0=af wb 11 0/\T 1=v/\T 4=.int .i64 (w.vars.length:Int)/\T 12=.int .i64 (l.length:Int)/\T 13=.int .i64 (i:Int) /\
   pk n K wb F vsK wK/\Gj wK.vars/\wK.spent=false/\((i=0/\wK=w)∨wK.over=false)/\w.vars.length<=wK.vars.length/\H.next<=K.next/\∀c,c<n->K.get c=H.get c) l.length
  ⟨0,vs,w,rfl,Nat.zero_le _,he,by simp only[sA,sB,seval],by simp only[sA,sB,seval],by simp only[sA,sB,seval],by simp only[sA,sB,seval],by simp only[sA,sB,seval,Int.cast_ofNat_Int],hw,hv,hsp,.inl ⟨rfl,rfl⟩,Nat.le_refl _,Nat.le_refl _,fun c _=>rfl⟩ ?_
 rintro mm T K ⟨i,vsK,wK,rfl,hi,heK,g0,g1,g4,g12,g13,hwK,hvK,hsK,hoK,hlK,hnK,kK⟩
 by_cases hlt:i<l.length
 ·have hlt':(i:Int)<(l.length:Int):=om
  have slK:jt (·<n0) K 9 v l.length C:=hsl.mono fun b hb=>⟨hb,kK b om⟩
  have xsK:uu (·<n0) K l C:=hxs.mono fun b hb=>⟨hb,kK b om⟩
  rw[List.drop_eq_getElem_cons hlt,Gv]at heK
  cases h1:eS F m l[i] wK with
  | none=>rw[h1]at heK; simp[xS]at heK
  | some w1=>
  rw[h1]at heK
  have wi:IntKind.i64.wrap ((i:Int)+1)=((i+1:Nat):Int):=by
   rw[IntKind.wrap_i64]; omega
  simp only[sA,sB,seval,g0,g1,g4,g12,g13,hlt',slK.idx hlt]
  refine (hS (slK.pt hlt) (fun a ea=>by
   rcases slK with⟨_,h0,_⟩ | ⟨a',r',rfl,hb',_⟩
   ·omega
   ·simp only[cC,aa.ptr.injEq,sJ]at ea
    subst ea; exact hb') (xsK.at (SB hlt)) hn0 hwK hvK hsK h1).mono ?_
  rintro _ L ⟨rfl,vs2,hwL,hvL,hnL,kL⟩
  simp only[sA,sB,seval,g0]
  refine (rZ hwL).mono ?_
  rintro _ _ ⟨rfl,rfl⟩
  simp only at heK
  cases ho:w1.over with
  | true=>
   rw[ho,if_pos rfl]at heK
   simp only[xS,ho,if_true,sJ]at heK
   subst heK
   simp only[sA,sB,seval,iL]
   exact⟨rfl,vs2,hwL,hvL,om,fun c hc=>by rw[kL c hc,kK c hc]⟩
  | false=>
   rw[ho,if_neg (by simp)]at heK
   have hs1:w1.spent=false:=by
    cases h:w1.spent with
    | true=>simp[Wk.over,h]at ho
    | false=>rfl
   simp only[sA,sB,seval,g13,wi]
   exact⟨_,om,i+1,vs2,w1,rfl,om,heK,g0,g1,g4,g12,tt,hwL,hvL,hs1,.inr ho,Nat.le_trans hlK ((N2 F m).1 h1),om,fun c hc=>by rw[kL c hc,kK c hc]⟩
 ·have hie:i=l.length:=om
  subst hie
  have hlt':¬(l.length:Int)<(l.length:Int):=om
  rw[List.drop_length,Gv]at heK
  have hw':w'={ wK with vars:=wK.vars.take w.vars.length }:=by
   simp only[xS]at heK
   rcases hoK with⟨_,rfl⟩ | ho
   ·split at heK <;> (simp only[sJ]at heK; subst heK; first | rfl | simp)
   ·rw[ho]at heK
    simpa using heK.symm
  subst hw'
  obtain⟨lK,_⟩:=JY hwK.row
  obtain⟨s',c1,c2,c3⟩:=hwK.lin.cut om hlK
  obtain⟨L,m1,r1,n1,k1⟩:=cu hwK.row (n:=11) rfl (i:=0) om (x:=s') c2.one (l':=pB s' F { wK with vars:=wK.vars.take w.vars.length }) rfl
  have hb:=c3 _ hwK.blk
  have hwKl:=hwK.lt
  simp only[sA,sB,seval,g0,g1,g4,g12,g13,hlt',iI,fld0,lK,c1,m1,NY]
  refine⟨rfl,s',⟨r1,?_,hb,hwn,om⟩,⟨fun p hp=>hvK.1 p (List.mem_of_mem_take hp),by rw[SZ]; have:=hv.2.1; omega,by rw[SZ]; have:=hvK.2.2; omega⟩,om,fun c hc=>by rw[k1 c om,kK c hc]⟩
  rw[AQ]at c2
  show cp 5 L s' (dT (wK.vars.take w.vars.length)) (wK.vars.take w.vars.length).length
  rw[SZ,Nat.min_eq_left hlK]
  exact c2.same om (hb.mono fun b hb=>k1 b hb.2)
theorem Ps{F:Int}(hF:F<=9223372036854775807):∀m,PS F m/\PL F m:=by
 intro m
 induction m using Nat.strongRecOn with
 | ind m ih=>
  refine⟨Kt hF m fun k hk=>(ih k hk).2,?_⟩
  cases m with
  | zero=>intro l C H n0 n wb vs v w w' _ _ _ _ _ _ he; simp[eL]at he
  | succ m=>exact Ld m (ih m om).1
open Go.Abs Go.Abs.S
theorem Dc{T:cD}{H:ae}(g:Bool)(n i j k:Nat)(K:aa->ae->Prop):eD [.cell g n i,.t j,.t k] K .ret T H=dh (au g n H (T i)) fun v=>K (.tuple [v,T j,T k]) H:=by
 rw[oP]
 simp only[kF]
 cases au g n H (T i) with
 | none=>simp[dh]
 | some v=>simp only[aD]; rfl
structure Lk where
 u:Int
 v:Int
 px:Int
 py:Int
 pz:Int
 nx:Int
 ny:Int
 nz:Int
abbrev JX(k:Lk):List aa:=[.int .i64 k.u,.int .i64 k.v,.int .i64 k.px,.int .i64 k.py,.int .i64 k.pz,.int .i64 k.nx,.int .i64 k.ny,.int .i64 k.nz]
structure JL(k:Lk):Prop where
 u:iB k.u
 v:iB k.v
 p:iB k.px/\iB k.py/\iB k.pz
 n:iB k.nx/\iB k.ny/\iB k.nz
def bL(k:Lk):List (Bs×Vl):=[([117],⟨false,k.u,0,0⟩),([118],⟨false,k.v,0,0⟩),([112],⟨true,k.px,k.py,k.pz⟩),([110],⟨true,k.nx,k.ny,k.nz⟩)]
def yk(k:Lk):Wk:=⟨bL k,0,false,false,(0,0,0)⟩
theorem GG{k:Lk}(h:JL k):Gj (bL k):=by
 refine⟨fun p hp=>?_,by simp[bL],by simp[bL]⟩
 simp only[bL,List.mem_cons,List.not_mem_nil,or_false]at hp
 rcases hp with rfl | rfl | rfl | rfl
 ·exact⟨h.u,j0,j0⟩
 ·exact⟨h.v,j0,j0⟩
 ·exact⟨h.p.1,h.p.2.1,h.p.2.2⟩
 ·exact⟨h.n.1,h.n.2.1,h.n.2.2⟩
def j3(w:Wk):List aa:=if w.spent then v3 0 0 0 else v3 w.out.1 w.out.2.1 w.out.2.2
def pX(w:Wk):Int:=if w.spent then 121 else 0
theorem blS(s:Bs)(b:Bool)(x y z:Int):aL [.str [],.bool false,.int .i64 0,.int .i64 0,.int .i64 0] [(0,1,.str s),(1,4,.agg (iX ⟨b,x,y,z⟩))]=some (.agg (jv (s,⟨b,x,y,z⟩))):=rfl
theorem slS(H:ae)(k:Lk):cA 4 [.str [],.bool false,.int .i64 0,.int .i64 0,.int .i64 0] H [(0,5,.agg (jv ([117],⟨false,k.u,0,0⟩))),(5,5,.agg (jv ([118],⟨false,k.v,0,0⟩))),(10,5,.agg (jv ([112],⟨true,k.px,k.py,k.pz⟩))),(15,5,.agg (jv ([110],⟨true,k.nx,k.ny,k.nz⟩)))]=some (.slice (some ⟨H.next,20,0⟩) 4 (.known 4),H.push (.cells (dT (bL k)) 0 false)):=rfl
set_option maxRecDepth 20000 in
theorem sN{l:List St}{C:List aa}{v:aa}{n0:Nat}{k:Lk}{F:Int}{m:Nat}{w':Wk}{x:Int}{H:ae}(z1:jt (·<n0) H 9 v l.length C)(z2:dL (·<n0) H l C)(hn:n0<=H.next)(hk:JL k)(hF:F<=9223372036854775807)
  (hc:jy l=(0,x)) (he:eL F m l (yk k)=some w') :
  az Tryz.prog aH 8 [v,.agg (JX k),.agg [.int .i64 0,.int .i64 0,bJ],.int .i64 F] H fun u H'=>u=.tuple [.agg (j3 w'),.int .i64 (w'.st:Int),.int .i64 (pX w')]/\cZ H.next H H':=by
 obtain⟨H1,m1,r1,n1,k1⟩:=aw H (JX k) (n:=8) rfl
 obtain⟨H2,m2,r2,n2,k2⟩:=aw H1 [.int .i64 0,.int .i64 0,bJ] (n:=3) rfl
 obtain⟨H3,m3,r3,n3,k3⟩:=aw H2 (v3 0 0 0) (n:=3) rfl
 have E3:cZ H.next H H3:=⟨om,fun c hc=>by rw[k3 c om,k2 c om,k1 c om]⟩
 have kT:∀{K:ae},cZ H.next H K->jt (·<n0) K 9 v l.length C/\dL (·<n0) K l C:=fun e=>⟨z1.mono fun b hb=>⟨hb,e.old b om⟩,z2.mono fun b hb=>⟨hb,e.old b om⟩⟩
 obtain⟨y1,y2⟩:=kT E3
 have ca:(aa.agg (JX k)).cells=JX k:=rfl
 have cb:(aa.agg [.int .i64 0,.int .i64 0,bJ]).cells=[.int .i64 0,.int .i64 0,bJ]:=rfl
 refine aj rfl za8 rfl ?_
 simp only[c8,sA,sB,seval,ca,cb,m1,m2,m3]
 refine (yD y1 y2 om).mono ?_
 rintro _ H4 ⟨rfl,E4⟩
 rw[hc]
 obtain⟨H5,m5,r5,n5,k5⟩:=aw H4 [.int .i64 0,.int .i64 0] (n:=2) rfl
 obtain⟨H6,m6,r6,n6,k6⟩:=ak r5 (n:=2) rfl (xs:=[.int .i64 0,.int .i64 x]) rfl rfl
 have m6':bu 2 H5 (af H4.next 2 0) (.agg (rj (0,x)))=some H6:=m6
 have l6:=am (i:=0) r6 (n:=2) rfl rfl
 have en4:=E4.next
 have E6:cZ H3.next H3 H6:=⟨om,fun c hc=>by rw[k6 c om,k5 c om,E4.old c om]⟩
 have q1:=((r1.same (k2 _ om)).same (k3 _ om)).same (E6.old _ om)
 have q2:=(r2.same (k3 _ om)).same (E6.old _ om)
 have q3:=r3.same (E6.old _ om)
 simp only[sA,sB,seval,m5,m6',fld0,l6]
 have a0:=am (i:=0) q1 (n:=8) rfl rfl
 have b3:au true 3 H6 (af H1.next 3 0)=some (.agg [.int .i64 0,.int .i64 0,bJ]):=aA q2 rfl
 refine cI rfl ?_
 simp only[sR,sA,sB,seval,fld0,aZ,b3,a0]
 refine ij.mono ?_
 rintro _ H7 ⟨rfl,E7⟩
 have a1:=am (i:=1) (q1.same (E7.old _ om)) (n:=8) rfl rfl
 simp only[sR,sA,sB,seval,fld0,aZ,a1,J2,blS]
 refine ij.mono ?_
 rintro _ H8 ⟨rfl,E8⟩
 have e7:=E7.next
 have q18:=(q1.same (E7.old _ om)).same (E8.old _ om)
 have q28:=(q2.same (E7.old _ om)).same (E8.old _ om)
 have q38:=(q3.same (E7.old _ om)).same (E8.old _ om)
 have a2:au true 3 H8 (af H.next 8 2)=some (.agg (v3 k.px k.py k.pz)):=cK (i:=2) (k:=3) q18 (n:=8) rfl om
 have a5:au true 3 H8 (af H.next 8 5)=some (.agg (v3 k.nx k.ny k.nz)):=cK (i:=5) (k:=3) q18 (n:=8) rfl om
 have e8:=E8.next
 obtain⟨H9,hH9⟩:∃J,J=H8.push (.cells (dT (bL k)) 0 false):=⟨_,rfl⟩
 have E9:cZ H8.next H8 H9:=by rw[hH9]; exact cZ.push (cZ.refl _ _) rL _
 have n9:H9.next=H8.next+1:=by rw[hH9]; rfl
 have L9:cp 5 H9 (.slice (some ⟨H8.next,20,0⟩) 4 (.known 4)) (dT (bL k)) 4:=by rw[hH9]; exact cp.built H8 (k:=4) (m:=5) rfl
 obtain⟨vs,hvs⟩:∃v,v=(aa.slice (some ⟨H8.next,20,0⟩) 4 (.known 4)):=⟨_,rfl⟩
 obtain⟨Ha,ma,ra,na,ka⟩:=aw H9 (pB vs F (yk k)) (n:=11) rfl
 have bw:aL [.slice none 0 (.known 0),.int .i64 0,.int .i64 0,.slice none 0 (.known 0),.int .i64 0,.int .i64 0,.bool false,.bool false,.int .i64 0,.int .i64 0,.int .i64 0] [(1,3,.agg [.int .i64 0,.int .i64 0,bJ]),(5,1,.int .i64 F),(0,1,vs)]=some (.agg (pB vs F (yk k))):=by rw[hvs]; rfl
 have cw:(aa.agg (pB vs F (yk k))).cells=pB vs F (yk k):=rfl
 simp only[sR,sA,sB,seval,fld0,aZ,J2,blS,a2,a5,slS,<- hH9,<- hvs,bw,cw,ma]
 have en9:=E9.next
 have EA:cZ H.next H Ha:=⟨by have:=E3.next; have:=E6.next; omega,fun c hc=>by rw[ka c om,E9.old c om,E8.old c om,E7.old c om,E6.old c om,E3.old c hc]⟩
 have hwA:pk H8.next Ha H9.next F vs (yk k):=⟨ra,by
   show cp 5 Ha vs (dT (bL k)) (bL k).length
   rw[hvs]; exact L9.same om (cH (ka H8.next om)),by rw[hvs]; exact cH ⟨Nat.le_refl _,by show H8.next≠_; omega⟩,om,om⟩
 simp only[bG,bH,bg,bI,co,and_true,true_and,List.map_cons,List.map_nil,sA,sB,seval,fld0,aZ]
 refine⟨?_,?_⟩
 ·have X7:cZ H6.next H6 H7:=E7
  have X8:cZ H6.next H6 H8:=E7.trans (E8.less e7)
  have X9:cZ H6.next H6 H9:=X8.trans (E9.less om)
  have Xa:cZ H6.next H6 Ha:=X9.trans ⟨om,fun c hc=>ka c om⟩
  have LD:∀{J:ae},cZ H6.next H6 J->au true 3 J (af H1.next 3 0)=some (.agg [.int .i64 0,.int .i64 0,bJ])/\au false 1 J (af H.next 8 1)=some (.int .i64 k.v)/\au true 3 J (af H.next 8 2)=some (.agg (v3 k.px k.py k.pz))/\au true 3 J (af H.next 8 5)=some (.agg (v3 k.nx k.ny k.nz))/\au false 1 J (af H.next 8 0)=some (.int .i64 k.u):=fun e=>by
   have s1:=q1.same (e.old _ om)
   have s2:=q2.same (e.old _ om)
   exact⟨aA s2 rfl,am (i:=1) s1 (n:=8) rfl rfl,cK (i:=2) (k:=3) s1 (n:=8) rfl om,cK (i:=5) (k:=3) s1 (n:=8) rfl om,am (i:=0) s1 (n:=8) rfl rfl⟩
  have L6:=LD (cZ.refl _ _)
  have L7:=LD X7
  have L8:=LD X8
  have L9:=LD X9
  have La:=LD Xa
  have an:aeq (aa.agg [.int .i64 0,.int .i64 0,bJ]) (.agg [.int .i64 0,.int .i64 0,bJ])=true:=rfl
  have a3:∀a b c:Int,aeq (aa.agg (v3 a b c)) (.agg (v3 a b c))=true:=fun a b c=>by simp[aeq,aeqs,fD]
  and_intros <;> first
   | exact⟨_,rfl,fun _=>⟨_,by first | exact L6.1 | exact L7.1 | exact L8.1 | exact L9.1 | exact La.1,an⟩⟩
   | exact⟨_,rfl,fun _=>⟨_,by first | exact L6.2.1 | exact L7.2.1 | exact L8.2.1 | exact L9.2.1 | exact La.2.1 | exact L6.2.2.2.2 | exact L7.2.2.2.2 | exact L8.2.2.2.2 | exact L9.2.2.2.2 | exact La.2.2.2.2,dE _ _⟩⟩
   | exact⟨_,rfl,fun _=>⟨_,by first | exact L6.2.2.1 | exact L7.2.2.1 | exact L8.2.2.1 | exact L9.2.2.1 | exact La.2.2.1,a3 _ _ _⟩⟩
   | exact⟨_,rfl,fun _=>⟨_,by first | exact L6.2.2.2.1 | exact L7.2.2.2.1 | exact L8.2.2.2.1 | exact L9.2.2.2.1 | exact La.2.2.2.1,a3 _ _ _⟩⟩
 obtain⟨y3,y4⟩:=kT EA
 refine ((Ps hF m).2 y3 y4.xss om hwA (GG hk) rfl he).mono ?_
 rintro _ Hb ⟨rfl,vs2,hwB,hvB,enB,kB⟩
 obtain⟨_,l4,_,l6b,_,l8⟩:=JY hwB.row
 have rB:a6 Hb H2.next (v3 0 0 0):=(((q38.same (E9.old _ om)).same (ka _ om))).same (kB _ om)
 cases hs:w'.spent with
 | true=>
  rw[hs]at l6b
  obtain⟨Hc,mc,rc,nc,kc⟩:=ak rB (n:=3) rfl (xs:=v3 0 0 0) rfl rfl
  have lc:=aA rc (n:=3) rfl
  have bz:aL [.int .i64 0,.int .i64 0,.int .i64 0] []=some (.agg (v3 0 0 0)):=rfl
  simp only[sA,sB,seval,iI,aZ,l6b]
  refine cI rfl ?_
  simp only[sR,sA,sB,seval,iI,aZ,l4,bz,mc]
  simp only[bG,bH,bg,bI,co,and_true,true_and,List.map_cons,List.map_nil,sA,sB,seval,Dc,aD,lc]
  refine⟨?_,?_,?_⟩
  ·have l4c:au false 1 Hc (af H9.next 11 4)=some (.int .i64 (w'.st:Int)):=am (i:=4) (hwB.row.same (kc _ om)) (n:=11) rfl rfl
   and_intros <;> first | rfl | exact⟨_,rfl,fun _=>⟨_,by first | exact l4 | exact l4c,dE _ _⟩⟩
  ·simp[j3,pX,hs]
  ·exact⟨by have:=EA.next; omega,fun c hc=>by rw[kc c om,kB c om,EA.old c hc]⟩
 | false=>
  rw[hs]at l6b
  obtain⟨Hc,mc,rc,nc,kc⟩:=ak rB (n:=3) rfl (xs:=v3 w'.out.1 w'.out.2.1 w'.out.2.2) rfl rfl
  have lc:=aA rc (n:=3) rfl
  simp only[sA,sB,seval,iI,aZ,l6b]
  refine cI rfl ?_
  simp only[sR,sA,sB,seval,iI,aZ,l4,l8,mc]
  simp only[bG,bH,bg,bI,co,and_true,true_and,List.map_cons,List.map_nil,sA,sB,seval,Dc,aD,lc]
  refine⟨?_,?_,?_⟩
  ·have l4c:au false 1 Hc (af H9.next 11 4)=some (.int .i64 (w'.st:Int)):=am (i:=4) (hwB.row.same (kc _ om)) (n:=11) rfl rfl
   and_intros <;> first | rfl | exact⟨_,rfl,fun _=>⟨_,by first | exact l4 | exact l4c,dE _ _⟩⟩
  ·simp[j3,pX,hs]
  ·exact⟨by have:=EA.next; omega,fun c hc=>by rw[kc c om,kB c om,EA.old c hc]⟩
open Go.Abs Go.Abs.S
def tx1:Bs:=[108,101,116,32,97,32,61,32,48,59,32,108,101,116,32,105,32,61,32,48,59,32,119,104,105,108,101,32,40,105,32,60,32,118,41,32,123,32,115,101,116,32,97,32,61,32,97,32,43,32,117,59,32,115,101,116,32,105,32,61,32,105,32,43,32,49,59,32,125,32,114,101,116,117,114,110,32,118,101,99,40,97,44,32,105,44,32,48,41,59]
def RV:List St:=[.mk 1 [97] (.mk 1 [] 0 []) [] [] 1,.mk 1 [105] (.mk 1 [] 0 []) [] [] 1,.mk 4 [] (.mk 3 [60] 0 [.mk 2 [105] 0 [],.mk 2 [118] 0 []]) [.mk 2 [97] (.mk 3 [43] 0 [.mk 2 [97] 0 [],.mk 2 [117] 0 []]) [] [] 1,.mk 2 [105] (.mk 3 [43] 0 [.mk 2 [105] 0 [],.mk 1 [] 4294967296 []]) [] [] 1] [] 1,.mk 5 [] (.mk 4 [118,101,99] 0 [.mk 2 [97] 0 [],.mk 2 [105] 0 [],.mk 1 [] 0 []]) [] [] 1]
theorem px1:gv tx1=.ok RV:=by kernel_rfl
theorem cx1:jy RV=(0,0):=by kernel_rfl
def tx2:Bs:=[105,102,32,40,117,32,62,32,48,41,32,123,32,114,101,116,117,114,110,32,118,101,99,40,117,32,47,32,117,44,32,49,44,32,48,41,59,32,125,32,101,108,115,101,32,123,32,114,101,116,117,114,110,32,118,101,99,40,48,32,45,32,117,44,32,48,44,32,48,41,59,32,125]
def RU:List St:=[.mk 3 [] (.mk 3 [62] 0 [.mk 2 [117] 0 [],.mk 1 [] 0 []]) [.mk 5 [] (.mk 4 [118,101,99] 0 [.mk 3 [47] 0 [.mk 2 [117] 0 [],.mk 2 [117] 0 []],.mk 1 [] 4294967296 [],.mk 1 [] 0 []]) [] [] 1] [.mk 5 [] (.mk 4 [118,101,99] 0 [.mk 3 [45] 0 [.mk 1 [] 0 [],.mk 2 [117] 0 []],.mk 1 [] 0 [],.mk 1 [] 0 []]) [] [] 1] 1]
theorem px2:gv tx2=.ok RU:=by kernel_rfl
theorem cx2:jy RU=(0,0):=by kernel_rfl
def tx3:Bs:=[114,101,116,117,114,110,32,118,101,99,40,117,44,32,118,44,32,49,41,32,42,32,50,59]
def RS:List St:=[.mk 5 [] (.mk 3 [42] 0 [.mk 4 [118,101,99] 0 [.mk 2 [117] 0 [],.mk 2 [118] 0 [],.mk 1 [] 4294967296 []],.mk 1 [] 8589934592 []]) [] [] 1]
theorem px3:gv tx3=.ok RS:=by kernel_rfl
theorem cx3:jy RS=(0,0):=by kernel_rfl
def tx4:Bs:=[108,101,116,32,97,32,61,32,48,59,32,119,104,105,108,101,32,40,97,32,60,32,51,41,32,123,32,115,101,116,32,97,32,61,32,97,32,43,32,49,59,32,125,32,114,101,116,117,114,110,32,118,101,99,40,97,44,32,48,44,32,48,41,59]
def RR:List St:=[.mk 1 [97] (.mk 1 [] 0 []) [] [] 1,.mk 4 [] (.mk 3 [60] 0 [.mk 2 [97] 0 [],.mk 1 [] 12884901888 []]) [.mk 2 [97] (.mk 3 [43] 0 [.mk 2 [97] 0 [],.mk 1 [] 4294967296 []]) [] [] 1] [] 1,.mk 5 [] (.mk 4 [118,101,99] 0 [.mk 2 [97] 0 [],.mk 1 [] 0 [],.mk 1 [] 0 []]) [] [] 1]
theorem px4:gv tx4=.ok RR:=by kernel_rfl
theorem cx4:jy RR=(0,0):=by kernel_rfl
def tx5:Bs:=[119,104,105,108,101,32,40,49,41,32,123,32,125,32,114,101,116,117,114,110,32,110,59]
def RQ:List St:=[.mk 4 [] (.mk 1 [] 4294967296 []) [] [] 1,.mk 5 [] (.mk 2 [110] 0 []) [] [] 1]
theorem px5:gv tx5=.ok RQ:=by kernel_rfl
theorem cx5:jy RQ=(0,0):=by kernel_rfl
def ed(n:Int):Vl:=⟨false,n,0,0⟩
theorem mR{vs:List (Bs×Vl)}{F n:Int}{s:Bs}{st:Nat}(h:(st:Int)<F)(hn:kA<=n/\n<=most):eE vs F (.mk 1 s n []) st=some (some (ed n),st+1):=by
 simp only[eE,eK,SG,Nat.not_lt_zero,if_false,if_neg (show ¬F<=(st:Int) by omega),Fc,if_true,hn]
 simp[ed]
theorem gC{vs:List (Bs×Vl)}{F n:Int}{s:Bs}{st:Nat}{p:Bs×Vl}(h:(st:Int)<F)(hp:vs[bS vs s (vs.length-1)]?=some p):eE vs F (.mk 2 s n []) st=some (some p.2,st+1):=by
 simp only[eE,eK,SG,Nat.not_lt_zero,if_false,if_neg (show ¬F<=(st:Int) by omega),Fc,if_neg (show ¬(2:Nat)=1 by decide),if_true,hp]
theorem tN{vs:List (Bs×Vl)}{F n:Int}{s:Bs}{e1 e2:Ex}{a b r:Vl}{st s1 s2:Nat}(h1:eE vs F e1 st=some (some a,s1))(h2:eE vs F e2 s1=some (some b,s2))(h:(s2:Int)<F)(ho:y5 s a b=some r):eE vs F (.mk 3 s n [e1,e2]) st=some (some r,s2+1):=by
 simp only[eE,eK,h1,h2,SF,SG,if_neg (show ¬3<0+1+1 by decide),if_neg (show ¬F<=(s2:Int) by omega),Fc,if_neg (show ¬(3:Nat)=1 by decide),if_neg (show ¬(3:Nat)=2 by decide),if_true,ho]
theorem IX{vs:List (Bs×Vl)}{F n:Int}{e1 e2 e3:Ex}{a b c:Vl}{st s1 s2 s3:Nat}(h1:eE vs F e1 st=some (some a,s1))(h2:eE vs F e2 s1=some (some b,s2))(h3:eE vs F e3 s2=some (some c,s3))(h:(s3:Int)<F):eE vs F (.mk 4 [118,101,99] n [e1,e2,e3]) st=some (some ⟨true,a.x,b.x,c.x⟩,s3+1):=by
 simp only[eE,eK,h1,h2,h3,SF,SG,if_neg (show ¬3<0+1+1+1 by decide),if_neg (show ¬F<=(s3:Int) by omega),Fc,if_neg (show ¬(4:Nat)=1 by decide),if_neg (show ¬(4:Nat)=2 by decide),if_neg (show ¬(4:Nat)=3 by decide),if_true]
open Go.Abs Go.Abs.S
def WA(k:Lk)(a i:Int)(st:Nat):Wk:=⟨bL k++[([97],ed a),([105],ed i)],st,false,false,(0,0,0)⟩
def eI:Ex:=.mk 2 [105] 0 []
def eV:Ex:=.mk 2 [118] 0 []
def eA:Ex:=.mk 2 [97] 0 []
def eU:Ex:=.mk 2 [117] 0 []
def Dq:List St:=[.mk 2 [97] (.mk 3 [43] 0 [eA,eU]) [] [] 1,.mk 2 [105] (.mk 3 [43] 0 [eI,.mk 1 [] 4294967296 []]) [] [] 1]
def pA:St:=.mk 4 [] (.mk 3 [60] 0 [eI,eV]) Dq [] 1
theorem QH{k:Lk}{a i:Int}:(bL k++[([97],ed a),([105],ed i)])[bS (bL k++[([97],ed a),([105],ed i)]) [105] ((bL k++[([97],ed a),([105],ed i)]).length-1)]?=some ([105],ed i):=by simp[bL,bS]
theorem n_a{k:Lk}{a i:Int}:(bL k++[([97],ed a),([105],ed i)])[bS (bL k++[([97],ed a),([105],ed i)]) [97] ((bL k++[([97],ed a),([105],ed i)]).length-1)]?=some ([97],ed a):=by simp[bL,bS]
theorem n_v{k:Lk}{a i:Int}:(bL k++[([97],ed a),([105],ed i)])[bS (bL k++[([97],ed a),([105],ed i)]) [118] ((bL k++[([97],ed a),([105],ed i)]).length-1)]?=some ([118],ed k.v):=by simp[bL,bS,ed]
theorem n_u{k:Lk}{a i:Int}:(bL k++[([97],ed a),([105],ed i)])[bS (bL k++[([97],ed a),([105],ed i)]) [117] ((bL k++[([97],ed a),([105],ed i)]).length-1)]?=some ([117],ed k.u):=by simp[bL,bS,ed]
theorem DZ{a b:Int}(h:-4611686018427387904<=a/\a<=4611686018427387903)(h':-4611686018427387904<=b/\b<=4611686018427387903):iZ a b=a+b:=by
 unfold iZ most kA
 rw[if_neg om,if_neg om]
theorem DY{a b:Int}(h:-4611686018427387904<=a/\a<=4611686018427387903)(h':-4611686018427387904<=b/\b<=4611686018427387903):y5 [43] (ed a) (ed b)=some (ed (a+b)):=by
 unfold y5
 rw[if_pos rfl]
 show some (⟨false,iZ a b,iZ 0 0,iZ 0 0⟩:Vl)=_
 rw[DZ h h',DZ dD dD]
 rfl
theorem Ie(a b:Int):y5 [60] (ed a) (ed b)=some (yw (decide (a<b))):=by
 unfold y5
 rw[if_neg dD,if_neg dD,if_neg dD,if_neg dD,if_pos rfl]
 rfl
theorem NU(a b:Int):y5 [62] (ed a) (ed b)=some (yw (decide (b<a))):=by
 unfold y5
 rw[if_neg dD,if_neg dD,if_neg dD,if_neg dD,if_neg dD,if_pos rfl]
 rfl
theorem CB{F:Int}{m:Nat}{s:Bs}{e:Ex}{w:Wk}{v:Vl}{st:Nat}(hst:(w.st:Int)<F)(he:eE w.vars F e (w.st+1)=some (some v,st)) :
  eS F (m+1) (.mk 2 s e [] [] 1) w=some { w with st:=st,vars:=w.vars.set (bS w.vars s (w.vars.length-1)) (((w.vars[bS w.vars s (w.vars.length-1)]?).map (·.1)).getD [],v) }:=by
 rw[eS,if_neg om,he]
 simp only[if_neg (show ¬(2:Nat)=1 by decide),if_true]
theorem I9{k:Lk}{a i:Int}{st m:Nat}(hs:st+8<=990)(ha:-4611686018427387904<=a/\a<=4611686018427387903)(hu:-4611686018427387904<=k.u/\k.u<=4611686018427387903)(hi:0<=i/\i<=1000000000000) :
  eL 1000 (m+2) Dq (WA k a i st)=some (WA k (a+k.u) (i+4294967296) (st+8)):=by
 have h1:eE (WA k a i st).vars 1000 (.mk 3 [43] 0 [eA,eU]) ((WA k a i st).st+1)=some (some (ed (a+k.u)),st+4):=
  tN (a:=ed a) (b:=ed k.u) (st:=st+1) (s1:=st+2) (s2:=st+3) (gC om n_a) (gC om n_u) om (DY ha hu)
 have s1:eS 1000 (m+1) (.mk 2 [97] (.mk 3 [43] 0 [eA,eU]) [] [] 1) (WA k a i st)=some (WA k (a+k.u) i (st+4)):=by
  rw[CB (by show ((st:Nat):Int)<1000; omega) h1]
  simp[WA,bL,bS]
 have h2:eE (WA k (a+k.u) i (st+4)).vars 1000 (.mk 3 [43] 0 [eI,.mk 1 [] 4294967296 []]) ((WA k (a+k.u) i (st+4)).st+1)=some (some (ed (i+4294967296)),st+8):=
  tN (a:=ed i) (b:=ed 4294967296) (st:=st+5) (s1:=st+6) (s2:=st+7) (gC om QH) (mR om dD) om (DY om dD)
 have s2:eS 1000 (m+1) (.mk 2 [105] (.mk 3 [43] 0 [eI,.mk 1 [] 4294967296 []]) [] [] 1) (WA k (a+k.u) i (st+4))=some (WA k (a+k.u) (i+4294967296) (st+8)):=by
  rw[CB (by show ((st+4:Nat):Int)<1000; omega) h2]
  simp[WA,bL,bS]
 have o1:∀a i st,(WA k a i st).over=false:=fun _ _ _=>rfl
 rw[eL,if_neg dD]
 simp only[Dq,Gv,s1,o1,SO,if_false,s2,xS]
 simp[WA,bL]
theorem zE{k:Lk}(hu:-4398046511104<=k.u/\k.u<=4398046511104){r:Nat}(hr:r<=20)(hv:k.v=(r:Int)*4294967296):∀(j:Nat) {c st m:Nat},c+j=r->st+12*j+4<=900->j+4<=m ->
  eS 1000 m pA (WA k (k.u*(c:Int)) ((c:Int)*4294967296) st)=some (WA k (k.u*(r:Int)) ((r:Int)*4294967296) (st+12*j+4))
 | 0,c,st,m,hc,hs,hm=>by
  obtain⟨m,rfl⟩:∃x,m=x+1:=⟨m-1,om⟩
  obtain rfl:c=r:=om
  have he:eE (WA k (k.u*(c:Int)) ((c:Int)*4294967296) st).vars 1000 (.mk 3 [60] 0 [eI,eV]) ((WA k (k.u*(c:Int)) ((c:Int)*4294967296) st).st+1)=some (some (yw (decide ((c:Int)*4294967296<k.v))),st+4):=
   tN (a:=ed ((c:Int)*4294967296)) (b:=ed k.v) (st:=st+1) (s1:=st+2) (s2:=st+3) (gC om QH) (gC om n_v) om (Ie _ _)
  rw[pA,eS,if_neg (by show ¬(1000:Int)<=((st:Nat):Int); omega),he]
  simp only[if_neg (show ¬(4:Nat)=1 by decide),if_neg (show ¬(4:Nat)=2 by decide),if_neg (show ¬(4:Nat)=5 by decide),if_neg (show ¬(4:Nat)=3 by decide),if_true]
  rw[if_pos (by rw[hv]; simp[yw])]
  rfl
 | j+1,c,st,m,hc,hs,hm=>by
  obtain⟨m,rfl⟩:∃x,m=x+3:=⟨m-3,om⟩
  have hlt:(c:Int)*4294967296<k.v:=by rw[hv]; omega
  have hb:-4611686018427387904<=k.u*(c:Int)/\k.u*(c:Int)<=4611686018427387903:=by
   have h1:k.u*(c:Int)<=4398046511104*(c:Int):=Int.mul_le_mul_of_nonneg_right hu.2 om
   have h2:-4398046511104*(c:Int)<=k.u*(c:Int):=Int.mul_le_mul_of_nonneg_right hu.1 om
   omega
  have bo:=I9 (k:=k) (a:=k.u*(c:Int)) (i:=(c:Int)*4294967296) (st:=st+4) (m:=m) om hb om om
  have e1:k.u*(c:Int)+k.u=k.u*((c+1:Nat):Int):=by rw[Int.natCast_add,Int.mul_add]; simp
  have e2:(c:Int)*4294967296+4294967296=((c+1:Nat):Int)*4294967296:=om
  rw[e1,e2]at bo
  have ih:=zE hu hr hv j (c:=c+1) (st:=st+4+8) (m:=m+2) om om om
  have he:eE (WA k (k.u*(c:Int)) ((c:Int)*4294967296) st).vars 1000 (.mk 3 [60] 0 [eI,eV]) ((WA k (k.u*(c:Int)) ((c:Int)*4294967296) st).st+1)=some (some (yw (decide ((c:Int)*4294967296<k.v))),st+4):=
   tN (a:=ed ((c:Int)*4294967296)) (b:=ed k.v) (st:=st+1) (s1:=st+2) (s2:=st+3) (gC om QH) (gC om n_v) om (Ie _ _)
  rw[pA,eS,if_neg (by show ¬(1000:Int)<=((st:Nat):Int); omega),he]
  simp only[if_neg (show ¬(4:Nat)=1 by decide),if_neg (show ¬(4:Nat)=2 by decide),if_neg (show ¬(4:Nat)=5 by decide),if_neg (show ¬(4:Nat)=3 by decide),if_true]
  rw[if_neg (by simp[yw,hlt,jK])]
  show (match eL 1000 (m+2) Dq (WA k (k.u*(c:Int)) ((c:Int)*4294967296) (st+4)) with | none=>none | some w'=>if w'.over then some w' else eS 1000 (m+2) pA w')=_
  rw[bo]
  show eS 1000 (m+2) pA _=_
  rw[ih,show st+4+8+12*j+4=st+12*(j+1)+4 by omega]
open Go.Abs Go.Abs.S
theorem CX{m:Nat}{s:Bs}{e:Ex}{w:Wk}{v:Vl}{st:Nat}{F:Int}(hst:(w.st:Int)<F)(hl:w.vars.length<1000)(he:eE w.vars F e (w.st+1)=some (some v,st)) :
  eS F (m+1) (.mk 1 s e [] [] 1) w=some { w with st:=st,vars:=w.vars++[(s,v)] }:=by
 rw[eS,if_neg om,he]
 simp only[if_true,hl]
theorem xj{m:Nat}{e:Ex}{w:Wk}{v:Vl}{st:Nat}{F:Int}(hst:(w.st:Int)<F)(he:eE w.vars F e (w.st+1)=some (some v,st)) :
  eS F (m+1) (.mk 5 [] e [] [] 1) w=some { w with st:=st,out:=(v.x,v.y,v.z),ended:=true }:=by
 rw[eS,if_neg om,he]
 simp only[if_neg (show ¬(5:Nat)=1 by decide),if_neg (show ¬(5:Nat)=2 by decide),if_true]
theorem Ir{m:Nat}{s:Bs}{e:Ex}{b1 b2:List St}{w:Wk}{v:Vl}{st:Nat}{F:Int}(hst:(w.st:Int)<F)(he:eE w.vars F e (w.st+1)=some (some v,st)) :
  eS F (m+1) (.mk 3 s e b1 b2 1) w=if v.x≠0 then eL F m b1 { w with st:=st } else eL F m b2 { w with st:=st }:=by
 rw[eS,if_neg om,he]
 simp only[if_neg (show ¬(3:Nat)=1 by decide),if_neg (show ¬(3:Nat)=2 by decide),if_neg (show ¬(3:Nat)=5 by decide),if_true]
theorem oD{m:Nat}{F:Int}{S:St}{w w':Wk}(h:eS F m S w=some w')(ho:w'.over=true):eL F (m+1) [S] w=some w':=by
 rw[eL,if_neg (by simp)]
 simp only[Gv,h,ho,if_true,xS]
theorem R6{k:Lk}(hu:-4398046511104<=k.u/\k.u<=4398046511104){r:Nat}(hr:r<=20)(hv:k.v=(r:Int)*4294967296) :
  ∃w',eL 1000 300 RV (yk k)=some w'/\j3 w'=v3 (k.u*(r:Int)) ((r:Int)*4294967296) 0/\pX w'=0:=by
 have a1:eS 1000 299 (.mk 1 [97] (.mk 1 [] 0 []) [] [] 1) (yk k)=some ⟨bL k++[([97],ed 0)],2,false,false,(0,0,0)⟩:=by
  rw[CX (v:=ed 0) (st:=2) (by show ((0:Nat):Int)<1000; decide) (by simp[yk,bL]) (mR (by show ((1:Nat):Int)<1000; decide) dD)]
  rfl
 have a2:eS 1000 299 (.mk 1 [105] (.mk 1 [] 0 []) [] [] 1) ⟨bL k++[([97],ed 0)],2,false,false,(0,0,0)⟩=some (WA k 0 0 4):=by
  rw[CX (v:=ed 0) (st:=4) (by show ((2:Nat):Int)<1000; decide) (by simp[bL]) (mR (by show ((3:Nat):Int)<1000; decide) dD)]
  simp[WA]
 have a3:=zE (k:=k) hu hr hv r (c:=0) (st:=4) (m:=299) om om om
 have z1:k.u*((0:Nat):Int)=0:=by simp
 have z2:((0:Nat):Int)*4294967296=0:=by decide
 rw[z1,z2]at a3
 have a4:eE (WA k (k.u*(r:Int)) ((r:Int)*4294967296) (4+12*r+4)).vars 1000 (.mk 4 [118,101,99] 0 [.mk 2 [97] 0 [],.mk 2 [105] 0 [],.mk 1 [] 0 []]) ((WA k (k.u*(r:Int)) ((r:Int)*4294967296) (4+12*r+4)).st+1)=some (some ⟨true,k.u*(r:Int),(r:Int)*4294967296,0⟩,4+12*r+9):=
  IX (a:=ed (k.u*(r:Int))) (b:=ed ((r:Int)*4294967296)) (c:=ed 0) (st:=4+12*r+5) (s1:=4+12*r+6) (s2:=4+12*r+7) (s3:=4+12*r+8) (gC om n_a) (gC om QH) (mR om dD) om
 have a5:eS 1000 299 (.mk 5 [] (.mk 4 [118,101,99] 0 [.mk 2 [97] 0 [],.mk 2 [105] 0 [],.mk 1 [] 0 []]) [] [] 1) (WA k (k.u*(r:Int)) ((r:Int)*4294967296) (4+12*r+4))=_:=xj (by show ((4+12*r+4:Nat):Int)<1000; omega) a4
 refine⟨{ WA k (k.u*(r:Int)) ((r:Int)*4294967296) (4+12*r+4) with st:=4+12*r+9,out:=(k.u*(r:Int),(r:Int)*4294967296,0),ended:=true },?_,rfl,rfl⟩
 rw[eL,if_neg dD]
 show xS _ (Gv (eS 1000 299) [.mk 1 [97] (.mk 1 [] 0 []) [] [] 1,.mk 1 [105] (.mk 1 [] 0 []) [] [] 1,pA,.mk 5 [] (.mk 4 [118,101,99] 0 [.mk 2 [97] 0 [],.mk 2 [105] 0 [],.mk 1 [] 0 []]) [] [] 1] (yk k))=_
 have o1:(⟨bL k++[([97],ed 0)],2,false,false,(0,0,0)⟩:Wk).over=false:=rfl
 have o2:∀a i st,(WA k a i st).over=false:=fun _ _ _=>rfl
 simp only[Gv,a1,o1,a2,o2,a3,a5,SO,if_false]
 rfl
theorem QG{k:Lk}:(bL k)[bS (bL k) [117] ((bL k).length-1)]?=some ([117],ed k.u):=by simp[bL,bS,ed]
theorem R4{k:Lk}(hu:-4398046511104<k.u/\k.u<4398046511104) :
  ∃w',eL 1000 300 RU (yk k)=some w'/\j3 w'=(if 0<k.u then v3 4294967296 4294967296 0 else v3 (-k.u) 0 0)/\pX w'=0:=by
 have c1:eE (yk k).vars 1000 (.mk 3 [62] 0 [.mk 2 [117] 0 [],.mk 1 [] 0 []]) ((yk k).st+1)=some (some (yw (decide (0<k.u))),4):=
  tN (a:=ed k.u) (b:=ed 0) (st:=1) (s1:=2) (s2:=3) (gC dD QG) (mR dD dD) dD (NU _ _)
 by_cases h:0<k.u
 ·have ho:y5 [47] (ed k.u) (ed k.u)=some (ed jK):=by
   unfold y5
   rw[if_neg dD,if_neg dD,if_neg dD,if_pos rfl]
   have d1:nG k.u k.u=some jK:=by unfold nG; rw[if_pos ⟨h,hu.2⟩,if_neg om,if_pos rfl]
   have d2:nG 0 k.u=some 0:=by unfold nG; rw[if_pos ⟨h,hu.2⟩,if_pos rfl]
   simp only[ed,d1,d2]
  have c2:eE (bL k) 1000 (.mk 4 [118,101,99] 0 [.mk 3 [47] 0 [.mk 2 [117] 0 [],.mk 2 [117] 0 []],.mk 1 [] 4294967296 [],.mk 1 [] 0 []]) 5=some (some ⟨true,4294967296,4294967296,0⟩,11):=
   IX (a:=ed jK) (b:=ed 4294967296) (c:=ed 0) (s1:=8) (s2:=9) (s3:=10) (tN (s1:=6) (s2:=7) (gC dD QG) (gC dD QG) dD ho) (mR dD dD) (mR dD dD) dD
  have c3:eL 1000 298 [.mk 5 [] (.mk 4 [118,101,99] 0 [.mk 3 [47] 0 [.mk 2 [117] 0 [],.mk 2 [117] 0 []],.mk 1 [] 4294967296 [],.mk 1 [] 0 []]) [] [] 1] ⟨bL k,4,false,false,(0,0,0)⟩=some ⟨bL k,11,false,true,(4294967296,4294967296,0)⟩:=oD (xj (w:=⟨bL k,4,false,false,(0,0,0)⟩) (by show ((4:Nat):Int)<1000; decide) c2) rfl
  refine⟨⟨bL k,11,false,true,(4294967296,4294967296,0)⟩,?_,by rw[if_pos h]; rfl,rfl⟩
  refine oD ?_ rfl
  rw[Ir (by show ((0:Nat):Int)<1000; decide) c1,if_pos (by simp[yw,h,jK])]
  exact c3
 ·have ho:y5 [45] (ed 0) (ed k.u)=some (ed (-k.u)):=by
   unfold y5
   rw[if_neg dD,if_pos rfl]
   have d1:jD 0 k.u=-k.u:=by unfold jD most kA; rw[if_neg om,if_neg om]; omega
   have d2:jD 0 0=0:=by decide
   simp only[ed,d1,d2]
  have c2:eE (bL k) 1000 (.mk 4 [118,101,99] 0 [.mk 3 [45] 0 [.mk 1 [] 0 [],.mk 2 [117] 0 []],.mk 1 [] 0 [],.mk 1 [] 0 []]) 5=some (some ⟨true,-k.u,0,0⟩,11):=
   IX (a:=ed (-k.u)) (b:=ed 0) (c:=ed 0) (s1:=8) (s2:=9) (s3:=10) (tN (s1:=6) (s2:=7) (mR dD dD) (gC dD QG) dD ho) (mR dD dD) (mR dD dD) dD
  have c3:eL 1000 298 [.mk 5 [] (.mk 4 [118,101,99] 0 [.mk 3 [45] 0 [.mk 1 [] 0 [],.mk 2 [117] 0 []],.mk 1 [] 0 [],.mk 1 [] 0 []]) [] [] 1] ⟨bL k,4,false,false,(0,0,0)⟩=some ⟨bL k,11,false,true,(-k.u,0,0)⟩:=oD (xj (w:=⟨bL k,4,false,false,(0,0,0)⟩) (by show ((4:Nat):Int)<1000; decide) c2) rfl
  refine⟨⟨bL k,11,false,true,(-k.u,0,0)⟩,?_,by rw[if_neg h]; rfl,rfl⟩
  refine oD ?_ rfl
  rw[Ir (by show ((0:Nat):Int)<1000; decide) c1,if_neg (by simp[yw,h])]
  exact c3
def OK:Lk:=⟨2147483648,1073741824,0,0,0,0,0,0⟩
theorem NL:JL OK:=⟨⟨by decide,by decide⟩,⟨by decide,by decide⟩,⟨j0,j0,j0⟩,⟨j0,j0,j0⟩⟩
theorem Bh{o:Option Wk}{p:(Int×Int×Int)×Bool}(h:o.map (fun w=>(w.out,w.spent))=some p):∃w',o=some w'/\w'.out=p.1/\w'.spent=p.2:=by
 cases o with
 | none=>simp at h
 | some w=>simp only[Option.map_some,sJ]at h; exact⟨w,rfl,by rw[<- h],by rw[<- h]⟩
theorem rn3:(eL 100 300 RS (yk OK)).map (fun w=>(w.out,w.spent))=some ((4294967296,2147483648,8589934592),false):=by kernel_rfl
theorem rn4:(eL 100 300 RR (yk OK)).map (fun w=>(w.out,w.spent))=some ((12884901888,0,0),false):=by kernel_rfl
theorem rn5:(eL 100 300 RQ (yk OK)).map (fun w=>(w.out,w.spent))=some ((0,0,0),true):=by kernel_rfl
open Go.Abs Go.Abs.S
noncomputable section
def c3:bY:=⟨62,zq [zo 4 (.mv (.c (.bool false)))] (zq [zm 11 0,zk 12 .rem 11 4294967296000,zm 0 12] (zq [zm 13 1,zx 14 5 [.t 13,zi 21],zm 1 14] (zq [zm 15 0,zm 16 1,zo 17 (.bin .shl (.t 16) (.c (.int .u64 (.ofNat 32)))),zo 18 (.build [zI 0,zI 0,zI 0,zI 0,zI 0,zI 0,zI 0,zI 0] [(0,1,.t 15),(1,1,.t 17)]),zo 5 (.new [zI 0,zI 0,zI 0,zI 0,zI 0,zI 0,zI 0,zI 0]),zp (.store 8 (.t 5) (.t 18))] (zq [zo 19 (.mkFunc (.func 6) [] [.t 5]),zm 6 19] (zq [zm 21 6,zo 22 (.callv (.t 21) [.c (.str [108,101,116,32,97,32,61,32,48,59,32,108,101,116,32,105,32,61,32,48,59,32,119,104,105,108,101,32,40,105,32,60,32,118,41,32,123,32,115,101,116,32,97,32,61,32,97,32,43,32,117,59,32,115,101,116,32,105,32,61,32,105,32,43,32,49,59,32,125,32,114,101,116,117,114,110,32,118,101,99,40,97,44,32,105,44,32,48,41,59])]),zm 20 22,ze 23 0 20,ze 24 1 20,zo 7 (.new [zI 0,zI 0,zI 0]),zp (.store 3 (.t 7) (.t 23)),zm 8 24] (zq [zm 26 6,zo 27 (.callv (.t 26) [.c (.str [105,102,32,40,117,32,62,32,48,41,32,123,32,114,101,116,117,114,110,32,118,101,99,40,117,32,47,32,117,44,32,49,44,32,48,41,59,32,125,32,101,108,115,101,32,123,32,114,101,116,117,114,110,32,118,101,99,40,48,32,45,32,117,44,32,48,44,32,48,41,59,32,125])]),zm 25 27,ze 28 0 25,ze 29 1 25,zo 9 (.new [zI 0,zI 0,zI 0]),zp (.store 3 (.t 9) (.t 28)),zm 10 29] (zr [zm 30 8,zo 31 (.un .not (.t 30)),zm 32 31,zg 33 (.mv (.t 10)) 32 false,zg 34 (.un .not (.t 33)) 32 false,zo 35 (.pick (.t 32) (.c (.bool true)) (.t 34)),zm 36 35,zg 37 (.load true 3 (.t 7)) 36 false,zg 38 (.mv (.t 0)) 36 false,zg 39 (.mv (.t 1)) 36 false,zg 40 (.bin .mul (.t 38) (.t 39)) 36 false,zg 41 (.mv (.t 1)) 36 false,zg 42 (.bin .shl (.t 41) (.c (.int .u64 (.ofNat 32)))) 36 false,zg 43 (.build [zI 0,zI 0,zI 0] [(0,1,.t 40),(1,1,.t 42)]) 36 false,zg 44 (.pf (.eqS true [(0,.int),(1,.int),(2,.int)]) [.t 37,.t 43]) 36 false,zo 45 (.pick (.t 36) (.c (.bool true)) (.t 44))] 45 (zq [zo 4 (.mv (.c (.bool false)))] .ret) .skip (zr [zm 46 0,zk 47 .gtr 46 0] 47 (zq [zt 48 3 9,zo 49 (.build [zI 0,zI 0,zI 0] [(0,1,zi 4294967296),(1,1,zi 4294967296)]),zo 50 (.pf (.eqS false [(0,.int),(1,.int),(2,.int)]) [.t 48,.t 49]),zm 51 50,zg 52 (.call 9 []) 51 true,zo 53 (.pick (.t 51) (.t 52) (.c (.bool false))),zm 4 53] .ret) .skip (zq [zt 54 3 9,zm 55 0,zo 56 (.un .neg (.t 55)),zo 57 (.build [zI 0,zI 0,zI 0] [(0,1,.t 56)]),zo 58 (.pf (.eqS false [(0,.int),(1,.int),(2,.int)]) [.t 54,.t 57]),zm 59 58,zg 60 (.call 9 []) 59 true,zo 61 (.pick (.t 59) (.t 60) (.c (.bool false))),zm 4 61] .ret))))))))),[.t 4]⟩
theorem za3:cN Tryz.prog 3=some c3:=by kernel_rfl
def c5:bY:=⟨16,zq [zo 4 (.mv (zi 0))] (zr [zm 5 1,zk 6 .lss 5 1] 6 (zq [zo 4 (.mv (zi 0))] .ret) .skip (zq [zm 7 0,zm 8 1,zb 9 .rem 7 8,zm 0 9] (zr [zm 10 0,zk 11 .lss 10 0] 11 (.reg [zm 12 0,zm 13 1,zb 14 .add 12 13,zm 0 14]) .skip (zq [zm 15 0,zm 4 15] .ret)))),[.t 4]⟩
theorem za5:cN Tryz.prog 5=some c5:=by kernel_rfl
def c6:bY:=⟨30,zq [zo 3 (.new [zI 0,zI 0,zI 0]),zo 4 (.mv (.c (.bool false)))] (zq [zm 11 0,zx 12 7 [.t 11],zm 10 12,ze 13 0 10,ze 14 1 10,zo 6 (.new [zI 0,zI 0]),zm 5 13,zp (.store 2 (.t 6) (.t 14))] (zr [zf 15 0 6,zl 16 15,zk 17 .neq 16 0] 17 (zq [zo 18 (.build [zI 0,zI 0,zI 0] []),zp (.store 3 (.t 3) (.t 18)),zo 4 (.mv (.c (.bool false)))] .ret) .skip (zq [zm 20 5,zt 21 8 1,zo 22 (.build [zI 0,zI 0,zN] []),zx 23 8 [.t 20,.t 21,.t 22,zi 1000],zm 19 23,ze 24 0 19,ze 25 1 19,ze 26 2 19,zo 7 (.new [zI 0,zI 0,zI 0]),zp (.store 3 (.t 7) (.t 24)),zm 8 25,zm 9 26] (zq [zt 27 3 7,zm 28 9,zk 29 .eql 28 0,zp (.store 3 (.t 3) (.t 27)),zm 4 29] .ret)))),[.cell true 3 3,.t 4]⟩
theorem za6:cN Tryz.prog 6=some c6:=by kernel_rfl
def c9:bY:=⟨39,zq [zo 0 (.mv (.c (.bool false)))] (zq [zx 8 21 [.c (.str [114,101,116,117,114,110,32,118,101,99,40,117,44,32,118,44,32,49,41,32,42,32,50,59]),zi 100],zm 7 8,ze 9 0 7,ze 10 1 7,zo 1 (.new [zI 0,zI 0,zI 0]),zp (.store 3 (.t 1) (.t 9)),zm 2 10] (zq [zx 12 21 [.c (.str [108,101,116,32,97,32,61,32,48,59,32,119,104,105,108,101,32,40,97,32,60,32,51,41,32,123,32,115,101,116,32,97,32,61,32,97,32,43,32,49,59,32,125,32,114,101,116,117,114,110,32,118,101,99,40,97,44,32,48,44,32,48,41,59]),zi 100],zm 11 12,ze 13 0 11,ze 14 1 11,zo 3 (.new [zI 0,zI 0,zI 0]),zp (.store 3 (.t 3) (.t 13)),zm 4 14] (zq [zx 16 21 [.c (.str [119,104,105,108,101,32,40,49,41,32,123,32,125,32,114,101,116,117,114,110,32,110,59]),zi 100],zm 15 16,ze 17 0 15,ze 18 1 15,zo 5 (.new [zI 0,zI 0,zI 0]),zp (.store 3 (.t 5) (.t 17)),zm 6 18] (zq [zm 19 2,zk 20 .eql 19 0,zm 21 20,zg 22 (.load true 3 (.t 1)) 21 true,zg 23 (.build [zI 0,zI 0,zI 0] [(0,1,zi 4294967296),(1,1,zi 2147483648),(2,1,zi 8589934592)]) 21 true,zg 24 (.pf (.eqS false [(0,.int),(1,.int),(2,.int)]) [.t 22,.t 23]) 21 true,zo 25 (.pick (.t 21) (.t 24) (.c (.bool false))),zm 26 25,zg 27 (.mv (.t 4)) 26 true,zg 28 (.bin .eql (.t 27) (zi 0)) 26 true,zo 29 (.pick (.t 26) (.t 28) (.c (.bool false))),zm 30 29,zg 31 (.load true 3 (.t 3)) 30 true,zg 32 (.build [zI 0,zI 0,zI 0] [(0,1,zi 12884901888)]) 30 true,zg 33 (.pf (.eqS false [(0,.int),(1,.int),(2,.int)]) [.t 31,.t 32]) 30 true,zo 34 (.pick (.t 30) (.t 33) (.c (.bool false))),zm 35 34,zg 36 (.mv (.t 6)) 35 true,zg 37 (.bin .eql (.t 36) (zi 121)) 35 true,zo 38 (.pick (.t 35) (.t 37) (.c (.bool false))),zm 0 38] .ret)))),[.t 0]⟩
theorem za9:cN Tryz.prog 9=some c9:=by kernel_rfl
def c21:bY:=⟨33,zq [zo 4 (.new [zI 0,zI 0,zI 0]),zo 5 (.mv (zi 0))] (zq [zm 12 0,zx 13 7 [.t 12],zm 11 13,ze 14 0 11,ze 15 1 11,zo 7 (.new [zI 0,zI 0]),zm 6 14,zp (.store 2 (.t 7) (.t 15))] (zr [zf 16 0 7,zl 17 16,zk 18 .neq 17 0] 18 (.seq (.draw [zo 19 (.build [zI 0,zI 0,zI 0] []),zf 20 0 7,zl 21 20,zp (.store 3 (.t 4) (.t 19)),zm 5 21] [[],[],[5],[],[]]) .ret) .skip (zq [zm 23 6,zo 24 (.build [zI 0,zI 0,zI 0,zI 0,zI 0,zI 0,zI 0,zI 0] [(0,1,zi 2147483648),(1,1,zi 1073741824)]),zo 25 (.build [zI 0,zI 0,zN] []),zm 26 1,zx 27 8 [.t 23,.t 24,.t 25,.t 26],zm 22 27,ze 28 0 22,ze 29 1 22,ze 30 2 22,zo 8 (.new [zI 0,zI 0,zI 0]),zp (.store 3 (.t 8) (.t 28)),zm 9 29,zm 10 30] (zq [zt 31 3 8,zm 32 10,zp (.store 3 (.t 4) (.t 31)),zm 5 32] .ret)))),[.cell true 3 4,.t 5]⟩
theorem RE:cN Tryz.prog 21=some c21:=by kernel_rfl
end
open Go.Abs Go.Abs.S
theorem yV{s:Bs}{l:List St}(hp:gv s=.ok l){H:ae}:az Tryz.prog aH 7 [.str s] H fun u H'=>(∃v C,u=.tuple [v,.agg [.int .i64 0,.int .i64 0]]/\jt (·<H'.next) H' 9 v l.length C/\dL (·<H'.next) H' l C)/\cZ H.next H H':=by
 refine (yU s).mono ?_
 rintro u H' ⟨h,e⟩
 rw[hp]at h
 obtain⟨v,C,h1,h2,h3⟩:=h
 exact⟨⟨v,C,h1,h2.mono fun b hb=>⟨hb.2,rfl⟩,h3.mono fun b hb=>⟨hb.2,rfl⟩⟩,e⟩
theorem vU{s:Bs}{l:List St}{k:Lk}{m:Nat}{w':Wk}{x:Int}{xb:Nat}{H:ae}(hp:gv s=.ok l)(hc:jy l=(0,x))(hk:JL k)(he:eL 1000 m l (yk k)=some w')(hx:a6 H xb (JX k))(hxb:xb<H.next) :
  az Tryz.prog aH 6 [.str s,af xb 8 0] H fun u H'=>u=.tuple [.agg (j3 w'),.bool (decide (pX w'=0))]/\cZ H.next H H':=by
 obtain⟨H1,m1,r1,n1,k1⟩:=aw H (v3 0 0 0) (n:=3) rfl
 refine aj rfl za6 rfl ?_
 simp only[c6,sA,sB,seval,m1]
 refine (yV hp).mono ?_
 rintro _ H2 ⟨⟨v,C,rfl,z1,z2⟩,E2⟩
 have e2:=E2.next
 obtain⟨H3,m3,r3,n3,k3⟩:=aw H2 [.int .i64 0,.int .i64 0] (n:=2) rfl
 obtain⟨H4,m4,r4,n4,k4⟩:=ak r3 (n:=2) rfl (xs:=[.int .i64 0,.int .i64 0]) rfl rfl
 have l4:=am (i:=0) r4 (n:=2) rfl rfl
 have E4:cZ H2.next H2 H4:=⟨om,fun c hc=>by rw[k4 c om,k3 c om]⟩
 have lx:au true 8 H4 (af xb 8 0)=some (.agg (JX k)):=aA (((hx.same (k1 _ om)).same (E2.old _ om)).same (E4.old _ om)) rfl
 have bt:aL [.int .i64 0,.int .i64 0,.slice none 0 (.known 0)] []=some (.agg [.int .i64 0,.int .i64 0,bJ]):=rfl
 simp only[sA,sB,seval,bA,bx,m3,m4,fld0,l4,lx,bt]
 refine (sN (n0:=H2.next) (z1.mono fun b hb=>⟨hb,E4.old b hb⟩) (z2.mono fun b hb=>⟨hb,E4.old b hb⟩) om hk dD hc he).mono ?_
 rintro _ H5 ⟨rfl,E5⟩
 have e5:=E5.next
 have ho:∃a b c,j3 w'=v3 a b c:=by unfold j3; split <;> exact⟨_,_,_,rfl⟩
 obtain⟨a,b,c,ho⟩:=ho
 rw[ho]
 obtain⟨H6,m6,r6,n6,k6⟩:=aw H5 (v3 0 0 0) (n:=3) rfl
 obtain⟨H7,m7,r7,n7,k7⟩:=ak r6 (n:=3) rfl (xs:=v3 a b c) rfl rfl
 have l7:=aA r7 (n:=3) rfl
 have r17:a6 H7 H.next (v3 0 0 0):=((((r1.same (E2.old _ om)).same (E4.old _ om)).same (E5.old _ om)).same (k6 _ om)).same (k7 _ om)
 obtain⟨H8,m8,r8,n8,k8⟩:=ak r17 (n:=3) rfl (xs:=v3 a b c) rfl rfl
 have l8:=aA r8 (n:=3) rfl
 simp only[sA,sB,seval,bA,bx,MH,m6,m7,l7,m8,fe,aD,l8]
 exact⟨tt,⟨om,fun c hc=>by rw[k8 c om,k7 c om,k6 c om,E5.old c om,E4.old c om,E2.old c om,k1 c om]⟩⟩
theorem kR{s:Bs}{l:List St}{m:Nat}{w':Wk}{x F:Int}{H:ae}(hp:gv s=.ok l)(hc:jy l=(0,x))(hF:F<=9223372036854775807)(he:eL F m l (yk OK)=some w') :
  az Tryz.prog aH 21 [.str s,.int .i64 F] H fun u H'=>u=.tuple [.agg (j3 w'),.int .i64 (pX w')]/\cZ H.next H H':=by
 obtain⟨H1,m1,r1,n1,k1⟩:=aw H (v3 0 0 0) (n:=3) rfl
 refine aj rfl RE rfl ?_
 simp only[c21,sA,sB,seval,m1]
 refine (yV hp).mono ?_
 rintro _ H2 ⟨⟨v,C,rfl,z1,z2⟩,E2⟩
 have e2:=E2.next
 obtain⟨H3,m3,r3,n3,k3⟩:=aw H2 [.int .i64 0,.int .i64 0] (n:=2) rfl
 obtain⟨H4,m4,r4,n4,k4⟩:=ak r3 (n:=2) rfl (xs:=[.int .i64 0,.int .i64 0]) rfl rfl
 have l4:=am (i:=0) r4 (n:=2) rfl rfl
 have E4:cZ H2.next H2 H4:=⟨om,fun c hc=>by rw[k4 c om,k3 c om]⟩
 have bt:aL [.int .i64 0,.int .i64 0,.slice none 0 (.known 0)] []=some (.agg [.int .i64 0,.int .i64 0,bJ]):=rfl
 have bk:aL [.int .i64 0,.int .i64 0,.int .i64 0,.int .i64 0,.int .i64 0,.int .i64 0,.int .i64 0,.int .i64 0] [(0,1,.int .i64 2147483648),(1,1,.int .i64 1073741824)]=some (.agg (JX OK)):=rfl
 simp only[sA,sB,seval,bA,bx,m3,m4,fld0,l4,bt,bk]
 refine (sN (n0:=H2.next) (z1.mono fun b hb=>⟨hb,E4.old b hb⟩) (z2.mono fun b hb=>⟨hb,E4.old b hb⟩) om NL hF hc he).mono ?_
 rintro _ H5 ⟨rfl,E5⟩
 have e5:=E5.next
 have ho:∃a b c,j3 w'=v3 a b c:=by unfold j3; split <;> exact⟨_,_,_,rfl⟩
 obtain⟨a,b,c,ho⟩:=ho
 rw[ho]
 obtain⟨H6,m6,r6,n6,k6⟩:=aw H5 (v3 0 0 0) (n:=3) rfl
 obtain⟨H7,m7,r7,n7,k7⟩:=ak r6 (n:=3) rfl (xs:=v3 a b c) rfl rfl
 have l7:=aA r7 (n:=3) rfl
 have r17:a6 H7 H.next (v3 0 0 0):=((((r1.same (E2.old _ om)).same (E4.old _ om)).same (E5.old _ om)).same (k6 _ om)).same (k7 _ om)
 obtain⟨H8,m8,r8,n8,k8⟩:=ak r17 (n:=3) rfl (xs:=v3 a b c) rfl rfl
 have l8:=aA r8 (n:=3) rfl
 simp only[sA,sB,seval,bA,bx,MH,m6,m7,l7,m8,fe,aD,l8]
 exact⟨tt,⟨om,fun c hc=>by rw[k8 c om,k7 c om,k6 c om,E5.old c om,E4.old c om,E2.old c om,k1 c om]⟩⟩
open Go.Abs Go.Abs.S
theorem Se(a b c:Int):gJ (.eqS false [(0,.int),(1,.int),(2,.int)]) [.agg (v3 a b c),.agg (v3 a b c)]=some (.bool true):=by
 simp[gJ,Ay,ef,OM,Lt,v3,fD]
theorem ne3(a b c:Int):gJ (.eqS true [(0,.int),(1,.int),(2,.int)]) [.agg (v3 a b c),.agg (v3 a b c)]=some (.bool false):=by
 simp[gJ,Ay,ef,OM,Lt,v3,fD]
theorem pd{H:ae}:az Tryz.prog aH 9 [] H fun u H'=>u=.bool true/\cZ H.next H H':=by
 obtain⟨w3,a1,a2,a3⟩:=Bh rn3
 obtain⟨w4,b1,b2,b3⟩:=Bh rn4
 obtain⟨w5,c1,c2,c3⟩:=Bh rn5
 have ea:j3 w3=v3 4294967296 2147483648 8589934592/\pX w3=0:=by simp[j3,pX,a2,a3]
 have eb:j3 w4=v3 12884901888 0 0/\pX w4=0:=by simp[j3,pX,b2,b3]
 have ec:j3 w5=v3 0 0 0/\pX w5=121:=by simp[j3,pX,c3]
 have s3:=fun (H:ae)=>kR (H:=H) px3 cx3 (F:=100) dD a1
 have s4:=fun (H:ae)=>kR (H:=H) px4 cx4 (F:=100) dD b1
 have s5:=fun (H:ae)=>kR (H:=H) px5 cx5 (F:=100) dD c1
 rw[ea.1,ea.2]at s3
 rw[eb.1,eb.2]at s4
 rw[ec.1,ec.2]at s5
 unfold tx3 at s3
 unfold tx4 at s4
 unfold tx5 at s5
 refine aj rfl za9 rfl ?_
 simp only[c9,sA,sB,seval]
 refine (s3 _).mono ?_
 rintro _ H1 ⟨rfl,E1⟩
 obtain⟨H2,m2,r2,n2,k2⟩:=aw H1 (v3 0 0 0) (n:=3) rfl
 obtain⟨H3,m3,r3,n3,k3⟩:=ak r2 (n:=3) rfl (xs:=v3 4294967296 2147483648 8589934592) rfl rfl
 simp only[sA,sB,seval,bA,bx,m2,m3]
 refine (s4 _).mono ?_
 rintro _ H4 ⟨rfl,E4⟩
 obtain⟨H5,m5,r5,n5,k5⟩:=aw H4 (v3 0 0 0) (n:=3) rfl
 obtain⟨H6,m6,r6,n6,k6⟩:=ak r5 (n:=3) rfl (xs:=v3 12884901888 0 0) rfl rfl
 simp only[sA,sB,seval,bA,bx,m5,m6]
 refine (s5 _).mono ?_
 rintro _ H7 ⟨rfl,E7⟩
 have e1:=E1.next
 have e4:=E4.next
 have e7:=E7.next
 obtain⟨H8,m8,r8,n8,k8⟩:=aw H7 (v3 0 0 0) (n:=3) rfl
 obtain⟨H9,m9,r9,n9,k9⟩:=ak r8 (n:=3) rfl (xs:=v3 0 0 0) rfl rfl
 have la:=aA (((((r3.same (E4.old _ om)).same (k5 _ om)).same (k6 _ om)).same (E7.old _ om)).same (k8 _ om)) (n:=3) rfl
 have la':au true 3 H9 (af H1.next 3 0)=some (.agg (v3 4294967296 2147483648 8589934592)):=aA ((((((r3.same (E4.old _ om)).same (k5 _ om)).same (k6 _ om)).same (E7.old _ om)).same (k8 _ om)).same (k9 _ om)) (n:=3) rfl
 have lb':au true 3 H9 (af H4.next 3 0)=some (.agg (v3 12884901888 0 0)):=aA (((r6.same (E7.old _ om)).same (k8 _ om)).same (k9 _ om)) (n:=3) rfl
 have ba:aL [.int .i64 0,.int .i64 0,.int .i64 0] [(0,1,.int .i64 4294967296),(1,1,.int .i64 2147483648),(2,1,.int .i64 8589934592)]=some (.agg (v3 4294967296 2147483648 8589934592)):=rfl
 have bb:aL [.int .i64 0,.int .i64 0,.int .i64 0] [(0,1,.int .i64 12884901888)]=some (.agg (v3 12884901888 0 0)):=rfl
 simp only[sA,sB,seval,bA,bx,m8,m9,la',lb',ba,bb,Se]
 exact⟨tt,⟨om,fun c hc=>by rw[k9 c om,k8 c om,E7.old c om,k6 c om,k5 c om,E4.old c om,k3 c om,k2 c om,E1.old c hc]⟩⟩
theorem EW{x:Int}{H:ae}:az Tryz.prog aH 5 [.int .i64 x,.int .i64 21] H fun u H'=>(∃r:Nat,r<=20/\u=.int .i64 (r:Int))/\H=H':=by
 refine aj rfl za5 rfl ?_
 have b1:bv .rem (.int .i64 x) (.int .i64 21)=some (.int .i64 (x.tmod 21)):=pc _ _ _ dD
 have h1:-21<x.tmod 21/\x.tmod 21<21:=by
  have:=Int.tmod_lt_of_pos x (show (0:Int)<21 by decide)
  have:=Int.lt_tmod_of_pos x (show (0:Int)<21 by decide)
  omega
 by_cases c:x.tmod 21<0
 ·have w:IntKind.i64.wrap (x.tmod 21+21)=x.tmod 21+21:=kJ
  simp only[c5,sA,sB,seval,b1,c,w]
  exact⟨⟨(x.tmod 21+21).toNat,om,by congr 1; omega⟩,tt⟩
 ·simp only[c5,sA,sB,seval,b1,c]
  exact⟨⟨(x.tmod 21).toNat,om,by congr 1; omega⟩,tt⟩
theorem tu{n rd:Int}{H:ae}:az Tryz.prog aH 3 [.int .i64 n,.int .i64 rd] H fun u H'=>u=.bool true/\cZ H.next H H':=by
 refine aj rfl za3 rfl ?_
 have b1:bv .rem (.int .i64 n) (.int .i64 4294967296000)=some (.int .i64 (n.tmod 4294967296000)):=pc _ _ _ dD
 have hu:-4294967296000<n.tmod 4294967296000/\n.tmod 4294967296000<4294967296000:=by
  have:=Int.tmod_lt_of_pos n (show (0:Int)<4294967296000 by decide)
  have:=Int.lt_tmod_of_pos n (show (0:Int)<4294967296000 by decide)
  omega
 generalize n.tmod 4294967296000=u at *
 simp only[c3,sA,sB,seval,b1]
 refine EW.mono ?_
 rintro _ _ ⟨⟨r,hr,rfl⟩,rfl⟩
 have sh:bv .shl (.int .i64 (r:Int)) (.int .u64 32)=some (.int .i64 ((r:Int)*4294967296)):=Go.Proofs.Tx.ishl32 om om
 obtain⟨k,hk⟩:∃k:Lk,k=⟨u,(r:Int)*4294967296,0,0,0,0,0,0⟩:=⟨_,rfl⟩
 have ku:k.u=u:=by rw[hk]
 have kv:k.v=(r:Int)*4294967296:=by rw[hk]
 have ok:JL k:=by rw[hk]; exact⟨⟨by show _<=u; omega,by show u<=_; omega⟩,⟨by show _<=(r:Int)*4294967296; omega,by show (r:Int)*4294967296<=_; omega⟩,⟨j0,j0,j0⟩,⟨j0,j0,j0⟩⟩
 obtain⟨w1,a1,a2,a3⟩:=R6 (k:=k) om hr kv
 obtain⟨w2,d1,d2,d3⟩:=R4 (k:=k) om
 rw[ku]at a2 d2
 have s1:=fun {xb:Nat} {H:ae}=>vU (H:=H) (xb:=xb) px1 cx1 ok a1
 have s2:=fun {xb:Nat} {H:ae}=>vU (H:=H) (xb:=xb) px2 cx2 ok d1
 rw[a2,a3]at s1
 rw[d3]at s2
 unfold tx1 at s1
 unfold tx2 at s2
 obtain⟨H1,m1,r1,n1,k1⟩:=aw H (JX ⟨0,0,0,0,0,0,0,0⟩) (n:=8) rfl
 obtain⟨H2,m2,r2,n2,k2⟩:=ak r1 (n:=8) rfl (xs:=JX k) rfl rfl
 have bk:aL [.int .i64 0,.int .i64 0,.int .i64 0,.int .i64 0,.int .i64 0,.int .i64 0,.int .i64 0,.int .i64 0] [(0,1,.int .i64 u),(1,1,.int .i64 ((r:Int)*4294967296))]=some (.agg (JX k)):=by rw[hk]; rfl
 have E2:cZ H.next H H2:=⟨om,fun c hc=>by rw[k2 c om,k1 c om]⟩
 have b1024:6<1024:=by decide
 simp only[sA,sB,seval,sh,bk,m1,m2,List.nil_append,List.append_nil,SX]
 refine (s1 r2 om).mono ?_
 rintro _ H3 ⟨rfl,E3⟩
 have e3:=E3.next
 obtain⟨H4,m4,r4,n4,k4⟩:=aw H3 (v3 0 0 0) (n:=3) rfl
 obtain⟨H5,m5,r5,n5,k5⟩:=ak r4 (n:=3) rfl (xs:=v3 (u*(r:Int)) ((r:Int)*4294967296) 0) rfl rfl
 have r25:=((r2.same (E3.old _ om)).same (k4 _ om)).same (k5 _ om)
 simp only[sA,sB,seval,bA,bx,m4,m5,List.nil_append,List.append_nil,SX]
 refine (s2 r25 om).mono ?_
 rintro _ H6 ⟨rfl,E6⟩
 have e6:=E6.next
 obtain⟨xa,xb,xc,hx⟩:∃a b c,j3 w2=v3 a b c:=by unfold j3; split <;> exact⟨_,_,_,rfl⟩
 rw[hx]at d2 ⊢
 obtain⟨H7,m7,r7,n7,k7⟩:=aw H6 (v3 0 0 0) (n:=3) rfl
 obtain⟨H8,m8,r8,n8,k8⟩:=ak r7 (n:=3) rfl (xs:=v3 xa xb xc) rfl rfl
 have E8:cZ H.next H H8:=⟨om,fun c hc=>by rw[k8 c om,k7 c om,E6.old c om,k5 c om,k4 c om,E3.old c om,E2.old c hc]⟩
 have l5:au true 3 H8 (af H3.next 3 0)=some (.agg (v3 (u*(r:Int)) ((r:Int)*4294967296) 0)):=aA (((r5.same (E6.old _ om)).same (k7 _ om)).same (k8 _ om)) rfl
 have l8:=aA r8 (n:=3) rfl
 have wm:IntKind.i64.wrap (u*(r:Int))=u*(r:Int):=by
  have h1:u*(r:Int)<=4294967296000*(r:Int):=Int.mul_le_mul_of_nonneg_right om om
  have h2:-4294967296000*(r:Int)<=u*(r:Int):=Int.mul_le_mul_of_nonneg_right om om
  rw[IntKind.wrap_i64]; omega
 have bq:aL [.int .i64 0,.int .i64 0,.int .i64 0] [(0,1,.int .i64 (u*(r:Int))),(1,1,.int .i64 ((r:Int)*4294967296))]=some (.agg (v3 (u*(r:Int)) ((r:Int)*4294967296) 0)):=rfl
 by_cases hp:0<u
 ·rw[if_pos hp]at d2
  simp only[List.cons.injEq,aa.int.injEq,true_and,and_true]at d2
  obtain⟨rfl,rfl,rfl⟩:=d2
  have b1:aL [.int .i64 0,.int .i64 0,.int .i64 0] [(0,1,.int .i64 4294967296),(1,1,.int .i64 4294967296)]=some (.agg (v3 4294967296 4294967296 0)):=rfl
  simp only[sA,sB,seval,bA,bx,m7,m8,l5,l8,wm,sh,bq,ne3,hp,b1,Se]
  refine pd.mono ?_
  rintro _ H9 ⟨rfl,E9⟩
  simp only[sA,sB,seval]
  exact⟨tt,E8.trans (E9.less (by have:=E8.next; omega))⟩
 ·rw[if_neg hp]at d2
  simp only[List.cons.injEq,aa.int.injEq,true_and,and_true]at d2
  obtain⟨rfl,rfl,rfl⟩:=d2
  have wn:IntKind.i64.wrap (0-u)=-u:=kJ
  have b1:aL [.int .i64 0,.int .i64 0,.int .i64 0] [(0,1,.int .i64 (-u))]=some (.agg (v3 (-u) 0 0)):=rfl
  simp only[sA,sB,seval,bA,bx,m7,m8,l5,l8,wm,sh,bq,ne3,hp,Np,wn,b1,Se]
  refine pd.mono ?_
  rintro _ H9 ⟨rfl,E9⟩
  simp only[sA,sB,seval]
  exact⟨tt,E8.trans (E9.less (by have:=E8.next; omega))⟩
end Go.Proofs.Wo
namespace Go.Proofs
open Go.Shelf
def Tryz.laysM316_ren:Go.Shelf.Ren:=⟨fun | 316=>115 | n=>n,fun | 9=>9 | 3=>3 | 4=>4 | 37=>36 | 0=>0 | 127=>194 | 5=>5 | n=>n,fun | n=>n⟩
theorem Tryz.laysM316:Go.Proofs.LaysM.n316 Tryz.prog Tryz.laysM316_ren:={
 mixed:=by kernel_rfl
 f316:=Tryz.func115.trans (congrArg some (by kernel_rfl))
 t0:=Tryz.underlying0
 a0:=Tryz.isAgg0
 z0:=Tryz.sizeOf0
 v0:=Tryz.zeroValue0
 t3:=Tryz.underlying3
 a3:=Tryz.isAgg3
 z3:=Tryz.sizeOf3
 v3:=Tryz.zeroValue3
 t4:=Tryz.underlying4
 a4:=Tryz.isAgg4
 z4:=Tryz.sizeOf4
 v4:=Tryz.zeroValue4
 t9:=Tryz.underlying9
 a9:=Tryz.isAgg9
 z9:=Tryz.sizeOf9
 v9:=Tryz.zeroValue9
 t37:=Tryz.underlying36
 a37:=Tryz.isAgg36
 z37:=Tryz.sizeOf36
 v37:=Tryz.zeroValue36
 t127:=Tryz.underlying194
 a127:=Tryz.isAgg194
 z127:=Tryz.sizeOf194
 v127:=Tryz.zeroValue194
 t5:=Tryz.underlying5
 a5:=Tryz.isAgg5
 z5:=Tryz.sizeOf5
 v5:=Tryz.zeroValue5
 i0:=by kernel_rfl
 i3:=by kernel_rfl
 i4:=by kernel_rfl
 i5:=by kernel_rfl
 i9:=by kernel_rfl
 i37:=by kernel_rfl
 i127:=by kernel_rfl }
open Go.RowKit in
theorem Tryz.stringslite_Clone(s:ByteArray)(w:World)(hlim:s.size<=281474976710656) :
  Calls Tryz.prog 115 #[.string s] w fun e w'=>e=.returned (.string s)/\Below w.heap.size w w':=Any.stringslite_Clone Tryz.laysM316 s w hlim
end Go.Proofs
namespace Go.Proofs.Wo
open Go.Abs Go.Abs.S
theorem PV:bO Tryz.prog 115=true:=by kernel_rfl
theorem ND:uC Tryz.prog nat:=by
 refine⟨fun f h=>?_,fun f args H v H' _ hr Prot w0 ρ w vs R hv=>?_⟩
 ·obtain rfl:f=115:=SI h
  exact PV
 ·show Calls Tryz.prog f vs w _
  have hr2:(bif Nat.beq f 115 then uq H args else none)=some (v,H'):=hr
  cases hb:Nat.beq f 115 with
  | false=>rw[hb]at hr2; simp at hr2
  | true=>
   obtain rfl:f=115:=SI hb
   rw[hb,cond_true]at hr2
   unfold uq at hr2
   split at hr2 <;> first | (simp at hr2; done) | skip
   rename_i s
   cases hl:Nat.ble s.length 281474976710656 with
   | false=>rw[hl]at hr2; simp at hr2
   | true=>
    rw[hl]at hr2
    simp only[cond_true,sJ,pJ]at hr2
    obtain⟨rfl,rfl⟩:=hr2
    simp only[aq,ah]at hv
    obtain⟨v1,r1,e1,rfl,rfl⟩:=hv
    have hvs:vs=#[.string (aP s)]:=Array.toList_inj.1 (by simpa using e1)
    subst hvs
    have hsz:(aP s).size=s.length:=by simp[aP,ByteArray.size]
    have:=SH hl
    exact (Tryz.stringslite_Clone (aP s) w (by rw[hsz]; exact this)).mono fun e w' ⟨he,hk⟩=>⟨ρ,_,Pl.le_refl _,he,R.keep hk,by simp only[ah]⟩
theorem CQ:uC Tryz.prog aH:=KU ND mdT
end Go.Proofs.Wo
namespace Go.Abs
open Go.ChangeShapes Go.WideShapes Go.ChangeAt Go.RowKit
section
variable {H:Type} {enc:TypeId×Value->H} {P:Program}
theorem mO{W W':World}{base:Nat}{sp:Nat->Bool}{held:Bool}(hb:Below W.heap.size W W'):∀{ts:List TypeId} {vs:List Value} {ds:List (DataW H)} {ps:List MemPlace},
  DataW.TrodAll enc P W base sp held ts vs ds ps->DataW.TrodAll enc P W' base sp held ts vs ds ps
 | [],[],[],_,h=>h
 | _::_,_::_,_::_,_,⟨p,q,⟨n,h1⟩,h2,e⟩=>by
  refine⟨p,q,⟨n,DataW.trod_carry n _ _ _ h1 fun x hx=>hb.same (DataW.trod_lt n _ _ _ h1 x hx)⟩,mO hb h2,e⟩
theorem sF{W W':World}{sp:Nat->Bool}{gs:List (DataW H)}{q:List MemPlace}(h:DataW.TrodVars enc P W sp [] gs q):DataW.TrodVars enc P W' sp [] gs q:=by
 obtain⟨rfl,rfl⟩:=trodVars_none h
 exact h
theorem zF{f:Func}{s:ChangeSpec}{apart:Bool}{W W':World}{args:Array Value}{ds gs:List (DataW H)}{before:List MemPlace}{tb:TypeId}
  (hl:laidOutB P=true) (hm:mapsRowed P=true)
  (hz:((List.range P.types.size).all fun t=>match P.underlying t with | some (.slice e)=>decide (0<P.cellsOf e) | _=>true)=true)
  (hts:(f.params.toList.all fun t=>decide (t<P.types.size))=true) (hv:s.vars=[])
  (hW:DataW.Whole enc P f.params.toList s.vars apart W args.toList ds gs before)
  (hfn:s.fn H (ds++gs)={ results:=[.lit (.bool true)],args:=ds }) (hr:f.resultTypes=#[tb]) (ht:P.underlying tb=some .bool) (hb:Below W.heap.size W W') :
  s.post enc P f apart true false false W args (.bool true) W':=by
 have hlt:∀p∈before,p.block<W.heap.size:=fun p hp=>hW.lt p hp
 have hW0:=hW
 obtain⟨p,q,hA,hV,rfl,hfz,hnd⟩:=hW
 rw[hv]at hV
 obtain⟨rfl,rfl⟩:=trodVars_none hV
 have hT:∀t∈f.params.toList,t<P.types.size:=fun t ht=>by simpa using List.all_eq_true.1 hts t ht
 refine⟨ds,[],p++[],[],p,[],hW0,?_,?_,?_,World.keptBut_mono (fun x hx=>⟨hx,by simpa using hx⟩) (hb.frame (·∈p++[])),fun h=>by simp at h⟩
 ·rw[hfn,hr]
  exact trodAll_cons_mk (shut_bool ht _) trodAll_mk0
 ·rw[hfn]
  refine mO hb (DataW.TrodAll.respare (kids_rows hl hm) (slices_full_of P hz) hT hA fun x hx=>?_)
  simpa using hlt x (by simpa using hx)
 ·rw[hfn,hv]
  exact sF (W:=W) hV
end
end Go.Abs
