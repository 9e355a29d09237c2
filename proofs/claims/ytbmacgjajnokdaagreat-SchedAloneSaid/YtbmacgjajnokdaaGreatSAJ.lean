/- SchedAlone: for every input the law returns true and its arguments read as before. No condition. -/
import Derived.Test.YtbmacgjajnokdaaGreatRows
import Derived.Handed
import Derived.JoinedOf
import Derived.Test.YtbmacgjajnokdaaGreatP5
import Derived.Test.YtbmacgjajnokdaaGreatP13
set_option linter.unusedSimpArgs false
set_option linter.unusedVariables false
set_option linter.defProp false
set_option linter.unnecessarySimpa false
namespace Go.Proofs.YtbmacgjajnokdaaGreat.schedAlone
open Go.ChangeShapes Go.WideShapes Go.ChangeAt Go.RowKit
open Go.Abs (VRels VRel law_post noNat noNat_ok)
open Go.Abs.S (absW absW_rel rel_world heapW arg_ints arg_sized)
open Go.Proofs.Sd (alone_spec OpT trod_ops)
set_option linter.unusedVariables false
set_option linter.constructorNameAsVariable false
theorem own:ownKnob Tryz.prog.godebug=none:=by kernel_rfl
theorem agg2{P:Program}{W:World}{r:Reach}{base:Nat}{t u e:TypeId}{v:Value}(ha:P.underlying t=some (.array 2 e))(hc:P.cellsOf t=2)(hts:P.cellTypes P.depth t=some [u,u])(hu:P.underlying u=some (.int .i64))
  (h:Value.okWide P W r base t v):∃a b,v=.agg #[.int .i64 a,.int .i64 b]:=by
 simp only[Value.okWide,ha]at h
 obtain⟨cs,rfl,hs,ts,h1,_,h2⟩:=h
 rw[hts]at h1
 have h1':=Option.some.inj h1
 subst h1'
 rw[hc]at hs
 have key:∀i,i<2→∃n,cs[i]?=some (.int .i64 n):=by
  intro i hi
  have hx:cs[i]?=some cs[i]:=Array.getElem?_eq_getElem (by first | omega)
  obtain⟨u',q1,q2⟩:=h2 i _ hx
  have:u'=u:=by
   obtain rfl | rfl:i=0∨i=1:=by first | omega
   ·simpa using q1.symm
   ·simpa using q1.symm
  subst this
  generalize cs[i]=x at *
  simp only[Cell.okWide,hu]at q2
  cases x <;> simp[Cell.ok,hu]at q2
  obtain⟨rfl,_⟩:=q2
  exact⟨_,hx⟩
 obtain⟨a,ea⟩:=key 0 (by first | omega)
 obtain⟨b,eb⟩:=key 1 (by first | omega)
 refine⟨a,b,?_⟩
 congr 1
 apply Array.ext_getElem?
 intro i
 by_cases h0:i=0
 ·subst h0; rw[ea]; rfl
 ·by_cases h1:i=1
  ·subst h1; rw[eb]; rfl
  ·rw[Array.getElem?_eq_none (by first | omega),Array.getElem?_eq_none (by simp; omega)]
theorem opT:OpT Tryz.prog 34:=⟨by kernel_rfl,⟨_,Tryz.underlying34,⟨_,rfl,rfl,by kernel_rfl,Tryz.underlying3⟩,⟨_,rfl,rfl,by kernel_rfl,Tryz.underlying3⟩,⟨_,rfl,rfl,by kernel_rfl,Tryz.underlying3⟩,⟨_,rfl,rfl,by kernel_rfl,Tryz.underlying3⟩,⟨_,rfl,rfl,by kernel_rfl,Tryz.underlying3⟩,⟨_,rfl,rfl,by kernel_rfl,Tryz.underlying3⟩,⟨_,rfl,rfl,by kernel_rfl,Tryz.underlying3⟩,⟨_,rfl,rfl,by kernel_rfl,Tryz.underlying3⟩⟩⟩
set_option maxRecDepth 100000 in
theorem lifted(os:Os)(started:os.Started)(H:Type)(enc:TypeId×Value→H) :
  ReturnsInHanded {} Tryz.checked os 4 .any (Rows.schedAloneSpec.pre6 enc Tryz.prog Tryz.f4 Rows.schedAloneRow.domain false) (Rows.schedAloneSpec.post enc Tryz.prog Tryz.f4 false true false false):=by
 refine returnsInHanded_of_change_sized (C:=Tryz.checked) own started (by kernel_rfl) Tryz.func4
  (ChangeSpec.witness6 (enc:=enc) (C:=Tryz.checked) false ⟨#[],#[.slice none 0 0,.agg #[.int .i64 0,.int .i64 0],.slice none 0 0],[]⟩ 8 (by kernel_rfl) (by kernel_rfl) (by kernel_rfl) (by kernel_rfl)) ?_
 intro W base args ds gs before hval0 hW hcnd hsz _
 have hval:∀(j:Nat) t v,Tryz.f4.params[j]?=some t→args[j]?=some v→Value.okWide Tryz.prog W .any base t v:=hval0
 have hW':=hW
 obtain⟨p,q,hA0,hV,rfl,hfz,hnd⟩:=hW
 have hA:DataW.TrodAll enc Tryz.prog W 0 (fun _=>true) true Tryz.f4.params.toList args.toList ds p:=hA0
 have hsz':(DataW.weightsEach Tryz.prog (Tryz.f4.params.toList++Rows.schedAloneSpec.plain.varTypes Tryz.prog) (ds++gs)).all (·≤reachBytes)=true:=hsz
 rw[Tryz.params4]at hA hval hsz'
 obtain⟨v0,vs0,d0,ds0,p0,q0,hargs,rfl,rfl,t0,r0⟩:=trodAll_cons hA
 obtain⟨v1,vs1,d1,ds1,p1,q1,rfl,rfl,rfl,t1,r1⟩:=trodAll_cons r0
 obtain⟨v2,vs2,d2,ds2,p2,q2,rfl,rfl,rfl,t2,r2⟩:=trodAll_cons r1
 obtain⟨rfl,rfl,rfl⟩:=trodAll_nil r2
 obtain rfl:args=#[v0,v1,v2]:=by cases args; simp_all
 obtain⟨rfl,rfl⟩:=trodVars_none hV
 obtain⟨l,al,dl⟩:=arg_ints Tryz.underlying22 Tryz.underlying3 (by kernel_rfl) (hval 0 22 v0 rfl rfl) t0
 obtain⟨q,sl,rfl⟩:=agg2 Tryz.underlying23 (by kernel_rfl) (by kernel_rfl) Tryz.underlying3 (hval 1 23 v1 rfl rfl)
 have sz:=arg_sized hsz' (j:=0) rfl rfl Tryz.underlying22 (by kernel_rfl) dl
 obtain⟨oa,ln,cp,rfl⟩:=okWide_slice Tryz.underlying24 (hval 2 24 v2 rfl rfl)
 obtain⟨f2,hf2⟩:=t2
 obtain⟨v,ops,ev,SL⟩:=trod_ops (W:=W) Tryz.underlying24 opT hf2
 have ev':[Value.slice oa ln cp]=[v]:=ev
 obtain rfl:Value.slice oa ln cp=v:=by simpa using ev'
 have hrun:=(alone_spec (H:=heapW W) (q:=q) (sl:=sl) al.cel (by first | omega) SL).calls (by kernel_rfl) noNat_ok (rel_world W) (vs:=#[v0,.agg #[.int .i64 q,.int .i64 sl],.slice oa ln cp])
  (by simp only[VRels]; exact⟨_,_,rfl,absW_rel W v0,_,_,rfl,by simp[VRel,VRels],_,_,rfl,absW_rel W (.slice oa ln cp),rfl⟩)
 refine hrun.mono fun e W' hx=>?_
 obtain⟨ρ',v,H',u,_,rfl,rfl,R,hu⟩:=hx
 simp only[VRel]at hu
 subst hu
 exact⟨_,rfl,law_post (tb:=4) (by kernel_rfl) (by kernel_rfl) (by kernel_rfl) (by kernel_rfl) rfl hW' rfl (by kernel_rfl) (by kernel_rfl) R.below⟩
theorem f1:laidOutB Tryz.pinned.checked.prog=true:=by kernel_rfl
theorem f2:((Rows.schedAloneRow.inPlace==Tryz.pinned.checked.prog.inPlace 4)&&(Rows.schedAloneRow.unfollowed==Tryz.pinned.checked.prog.unfollowed 4)&&(Rows.schedAloneRow.recurses==Tryz.pinned.checked.prog.recurses 4)&&(Rows.schedAloneRow.named==Tryz.pinned.checked.prog.varsNamed 4))=true:=by kernel_rfl
theorem f3:(mapsRowed Tryz.pinned.checked.prog&&(Rows.schedAloneRow.plainKeys==Tryz.pinned.checked.prog.plainKeys)&&Tryz.pinned.checked.prog.stopsHeard&&Tryz.pinned.checked.prog.mayEnter)=true:=by kernel_rfl
theorem facts:joinedFacts Tryz.pinned.checked.prog 4 Tryz.f4 Rows.schedAloneSpec Rows.schedAloneRow=true:=by
 obtain⟨⟨⟨h1,h2⟩,h3⟩,h4⟩:(((Rows.schedAloneRow.inPlace==Tryz.pinned.checked.prog.inPlace 4)=true∧(Rows.schedAloneRow.unfollowed==Tryz.pinned.checked.prog.unfollowed 4)=true)∧(Rows.schedAloneRow.recurses==Tryz.pinned.checked.prog.recurses 4)=true)∧(Rows.schedAloneRow.named==Tryz.pinned.checked.prog.varsNamed 4)=true:=by
  have:=f2
  rw[Bool.and_eq_true,Bool.and_eq_true,Bool.and_eq_true]at this
  exact this
 obtain⟨⟨⟨g1,g2⟩,g3⟩,g4⟩:((mapsRowed Tryz.pinned.checked.prog=true∧(Rows.schedAloneRow.plainKeys==Tryz.pinned.checked.prog.plainKeys)=true)∧Tryz.pinned.checked.prog.stopsHeard=true)∧Tryz.pinned.checked.prog.mayEnter=true:=by
  have:=f3
  rw[Bool.and_eq_true,Bool.and_eq_true,Bool.and_eq_true]at this
  exact this
 unfold joinedFacts
 rw[f1,h1,h2,h3,h4,g1,g2,g3,g4]
 kernel_rfl
theorem over:Rows.schedAloneRow.holds Tryz.pinned (OpenSpec.ofChange Rows.schedAloneSpec):=
 OpenClaim.holds_of_wide 4 Tryz.f4 rfl rfl rfl rfl rfl rfl rfl ⟨rfl,rfl,rfl,rfl,rfl⟩ rfl rfl rfl rfl rfl (by kernel_rfl) Tryz.func4 facts
  (of_decide_eq_true (by kernel_rfl)) (by unfold Func.isWrapper; first | (rw[if_pos (by decide +kernel)]; kernel_rfl) | (rw[if_neg (by decide +kernel)]; exact⟨rfl,rfl⟩))
  (fun os started H enc _=>lifted os started H enc)
theorem proved:Rows.SchedAloneSaid:=
 over
#print axioms proved
end Go.Proofs.YtbmacgjajnokdaaGreat.schedAlone
