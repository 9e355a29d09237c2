/- TraceSteps: for every input the law returns true and its arguments read as before. No condition. -/
import Derived.Test.YtkkjbpmlejjhjaaGreatRows
import Derived.Handed
import Derived.JoinedOf
import Derived.Test.YtkkjbpmlejjhjaaGreatP4
import Derived.Test.YtkkjbpmlejjhjaaGreatP13
set_option linter.unusedSimpArgs false
set_option linter.unusedVariables false
set_option linter.defProp false
set_option linter.unnecessarySimpa false
namespace Go.Proofs.YtkkjbpmlejjhjaaGreat.traceSteps
open Go.ChangeShapes Go.WideShapes Go.ChangeAt Go.RowKit
open Go.Abs (VRels VRel law_post noNat noNat_ok)
open Go.Abs.S (absW absW_rel rel_world heapW)
open Go.Proofs.Tc (lsteps_spec trod_world trod_pair trod_bools vrels_map SceneT VecT MatT RndT BallT UseT MshT TriT CodT InsT TexT WorldT PairT)
set_option linter.unusedVariables false
set_option linter.constructorNameAsVariable false
theorem own:ownKnob Tryz.prog.godebug=none:=by kernel_rfl
theorem vecT:VecT Tryz.prog 24:=⟨by kernel_rfl,⟨_,Tryz.underlying24,⟨_,rfl,rfl,by kernel_rfl,Tryz.underlying2⟩,⟨_,rfl,rfl,by kernel_rfl,Tryz.underlying2⟩,⟨_,rfl,rfl,by kernel_rfl,Tryz.underlying2⟩⟩⟩
theorem matT:MatT Tryz.prog 66:=⟨by kernel_rfl,⟨_,Tryz.underlying66,⟨_,rfl,rfl,by kernel_rfl,Tryz.underlying64⟩,⟨_,rfl,rfl,by kernel_rfl,vecT⟩,⟨_,rfl,rfl,by kernel_rfl,Tryz.underlying9⟩,⟨_,rfl,rfl,by kernel_rfl,Tryz.underlying9⟩⟩⟩
theorem ballT:BallT Tryz.prog 68:=⟨by kernel_rfl,⟨_,Tryz.underlying68,⟨_,rfl,rfl,by kernel_rfl,vecT⟩,⟨_,rfl,rfl,by kernel_rfl,Tryz.underlying2⟩⟩⟩
theorem rndT:RndT Tryz.prog 70:=⟨by kernel_rfl,⟨_,Tryz.underlying70,⟨_,rfl,rfl,by kernel_rfl,ballT⟩,⟨_,rfl,rfl,by kernel_rfl,Tryz.underlying3⟩⟩⟩
theorem useT:UseT Tryz.prog 77:=⟨by kernel_rfl,⟨_,Tryz.underlying77,⟨_,rfl,rfl,by kernel_rfl,Tryz.underlying9⟩,⟨_,rfl,rfl,by kernel_rfl,vecT⟩,⟨_,rfl,rfl,by kernel_rfl,Tryz.underlying3⟩⟩⟩
theorem triT:TriT Tryz.prog 114:=⟨by kernel_rfl,⟨_,Tryz.underlying114,Tryz.underlying3,by kernel_rfl⟩⟩
theorem insT:InsT Tryz.prog 122:=⟨by kernel_rfl,⟨_,Tryz.underlying122,⟨_,rfl,rfl,by kernel_rfl,Tryz.underlying120⟩,⟨_,rfl,rfl,by kernel_rfl,Tryz.underlying3⟩,⟨_,rfl,rfl,by kernel_rfl,Tryz.underlying3⟩,⟨_,rfl,rfl,by kernel_rfl,Tryz.underlying3⟩⟩⟩
theorem b66:0<Tryz.prog.bytesOf 66:=by decide +kernel
theorem b70:0<Tryz.prog.bytesOf 70:=by decide +kernel
theorem b77:0<Tryz.prog.bytesOf 77:=by decide +kernel
theorem b24:0<Tryz.prog.bytesOf 24:=by decide +kernel
theorem b114:0<Tryz.prog.bytesOf 114:=by decide +kernel
theorem b68:0<Tryz.prog.bytesOf 68:=by decide +kernel
theorem b2:0<Tryz.prog.bytesOf 2:=by decide +kernel
theorem b122:0<Tryz.prog.bytesOf 122:=by decide +kernel
theorem b5:0<Tryz.prog.bytesOf 5:=by decide +kernel
theorem b55:0<Tryz.prog.bytesOf 55:=by decide +kernel
theorem b59:0<Tryz.prog.bytesOf 59:=by decide +kernel
theorem b62:0<Tryz.prog.bytesOf 62:=by decide +kernel
theorem b4:0<Tryz.prog.bytesOf 4:=by decide +kernel
theorem mshT:MshT Tryz.prog 55:=⟨by kernel_rfl,⟨_,Tryz.underlying55,⟨_,rfl,rfl,by kernel_rfl,⟨_,Tryz.underlying51,vecT,b24⟩⟩,⟨_,rfl,rfl,by kernel_rfl,⟨_,Tryz.underlying52,triT,b114⟩⟩,⟨_,rfl,rfl,by kernel_rfl,⟨_,Tryz.underlying53,ballT,b68⟩⟩⟩⟩
theorem codT:CodT Tryz.prog 59:=⟨by kernel_rfl,⟨_,Tryz.underlying59,⟨_,rfl,rfl,by kernel_rfl,⟨_,Tryz.underlying56,⟨Tryz.underlying2,by kernel_rfl⟩,b2⟩⟩,⟨_,rfl,rfl,by kernel_rfl,Tryz.underlying3⟩,⟨_,rfl,rfl,by kernel_rfl,⟨_,Tryz.underlying57,insT,b122⟩⟩⟩⟩
theorem texT:TexT Tryz.prog 62:=⟨by kernel_rfl,⟨_,Tryz.underlying62,⟨_,rfl,rfl,by kernel_rfl,Tryz.underlying3⟩,⟨_,rfl,rfl,by kernel_rfl,Tryz.underlying3⟩,⟨_,rfl,rfl,by kernel_rfl,⟨_,Tryz.underlying60,⟨Tryz.underlying5,by kernel_rfl⟩,b5⟩⟩⟩⟩
theorem sceneT:SceneT Tryz.prog 29:=⟨by kernel_rfl,⟨_,Tryz.underlying29,⟨_,rfl,rfl,by kernel_rfl,Tryz.underlying3⟩,⟨_,rfl,rfl,by kernel_rfl,Tryz.underlying3⟩,⟨_,rfl,rfl,by kernel_rfl,Tryz.underlying3⟩,⟨_,rfl,rfl,by kernel_rfl,Tryz.underlying3⟩,⟨_,rfl,rfl,by kernel_rfl,Tryz.underlying22⟩,⟨_,rfl,rfl,by kernel_rfl,vecT⟩,⟨_,rfl,rfl,by kernel_rfl,vecT⟩,⟨_,rfl,rfl,by kernel_rfl,vecT⟩,⟨_,rfl,rfl,by kernel_rfl,Tryz.underlying2⟩,⟨_,rfl,rfl,by kernel_rfl,vecT⟩,⟨_,rfl,rfl,by kernel_rfl,⟨_,Tryz.underlying25,matT,b66⟩⟩,⟨_,rfl,rfl,by kernel_rfl,⟨_,Tryz.underlying26,rndT,b70⟩⟩,⟨_,rfl,rfl,by kernel_rfl,⟨_,Tryz.underlying27,useT,b77⟩⟩⟩⟩
theorem worldT:WorldT Tryz.prog 34:=⟨by kernel_rfl,⟨_,Tryz.underlying34,⟨_,rfl,rfl,by kernel_rfl,sceneT⟩,⟨_,rfl,rfl,by kernel_rfl,⟨_,Tryz.underlying30,mshT,b55⟩⟩,⟨_,rfl,rfl,by kernel_rfl,⟨_,Tryz.underlying31,codT,b59⟩⟩,⟨_,rfl,rfl,by kernel_rfl,⟨_,Tryz.underlying32,texT,b62⟩⟩⟩⟩
theorem pairT:PairT Tryz.prog 35:=⟨by kernel_rfl,⟨_,Tryz.underlying35,Tryz.underlying3,by kernel_rfl⟩⟩
theorem okWide_arr{P:Program}{w:World}{r:Reach}{base n:Nat}{t e:TypeId}{v:Value}(ha:P.underlying t=some (.array n e))(h:Value.okWide P w r base t v):∃cs,v=.agg cs:=by
 simp only[Value.okWide,ha]at h
 obtain⟨cs,rfl,_⟩:=h
 exact⟨cs,rfl⟩
set_option maxRecDepth 100000 in
theorem lifted(os:Os)(started:os.Started)(H:Type)(enc:TypeId×Value→H) :
  ReturnsInHanded {} Tryz.checked os 3 .any (Rows.traceStepsSpec.pre6 enc Tryz.prog Tryz.f3 Rows.traceStepsRow.domain false) (Rows.traceStepsSpec.post enc Tryz.prog Tryz.f3 false true false false):=by
 refine returnsInHanded_of_change_sized (C:=Tryz.checked) own started (by kernel_rfl) Tryz.func3
  (ChangeSpec.witness6 (enc:=enc) (C:=Tryz.checked) false ⟨#[],#[.agg #[.int .i64 0,.int .i64 0,.int .i64 0,.int .i64 0,.int .u64 0,.int .i64 0,.int .i64 0,.int .i64 0,.int .i64 0,.int .i64 0,.int .i64 0,.int .i64 0,.int .i64 0,.int .i64 0,.int .i64 0,.int .i64 0,.int .i64 0,.int .i64 0,.slice none 0 0,.slice none 0 0,.slice none 0 0,.slice none 0 0,.slice none 0 0,.slice none 0 0],.agg #[.int .i64 0,.int .i64 0],.slice none 0 0],[]⟩ 8 (by kernel_rfl) (by kernel_rfl) (by kernel_rfl) (by kernel_rfl)) ?_
 intro W base args ds gs before hval0 hW hcnd hsz _
 have hval:∀(j:Nat) t v,Tryz.f3.params[j]?=some t→args[j]?=some v→Value.okWide Tryz.prog W .any base t v:=hval0
 have hW':=hW
 obtain⟨p,q,hA0,hV,rfl,hfz,hnd⟩:=hW
 have hA:DataW.TrodAll enc Tryz.prog W 0 (fun _=>true) true Tryz.f3.params.toList args.toList ds p:=hA0
 have hsz':(DataW.weightsEach Tryz.prog (Tryz.f3.params.toList++Rows.traceStepsSpec.plain.varTypes Tryz.prog) (ds++gs)).all (·≤reachBytes)=true:=hsz
 rw[Tryz.params3]at hA hval hsz'
 obtain⟨v0,vs0,d0,ds0,p0,q0,hargs,rfl,rfl,t0,r0⟩:=trodAll_cons hA
 obtain⟨v1,vs1,d1,ds1,p1,q1,rfl,rfl,rfl,t1,r1⟩:=trodAll_cons r0
 obtain⟨v2,vs2,d2,ds2,p2,q2,rfl,rfl,rfl,t2,r2⟩:=trodAll_cons r1
 obtain⟨rfl,rfl,rfl⟩:=trodAll_nil r2
 obtain rfl:args=#[v0,v1,v2]:=by cases args; simp_all
 obtain⟨rfl,rfl⟩:=trodVars_none hV
 obtain⟨cs,rfl,_⟩:=okWide_struct Tryz.underlying34 (hval 0 34 v0 rfl rfl)
 obtain⟨ps,rfl⟩:=okWide_arr Tryz.underlying35 (hval 1 35 v1 rfl rfl)
 obtain⟨oa,ln,cp,rfl⟩:=okWide_slice Tryz.underlying36 (hval 2 36 v2 rfl rfl)
 obtain⟨f0,hf0⟩:=t0
 obtain⟨f1,hf1⟩:=t1
 obtain⟨f2,hf2⟩:=t2
 obtain⟨s,ms,shs,pcs,vm,vb,vu,vms,vsh,vpc,es,I⟩:=trod_world worldT hf0 (Go.Abs.S.weights_at hsz' (j:=0) (t:=34) (d:=d0) rfl rfl)
 obtain⟨a,b,ep⟩:=trod_pair (W:=W) pairT hf1
 obtain⟨v,tu,ev,ht,ST⟩:=trod_bools Tryz.underlying36 Tryz.underlying4 (by kernel_rfl) b4 (Go.Abs.S.weights_at hsz' (j:=2) (t:=36) (d:=d2) rfl rfl) hf2
 have ev':[Value.slice oa ln cp]=[v]:=ev
 obtain rfl:Value.slice oa ln cp=v:=by simpa using ev'
 have hrun:=(lsteps_spec (H:=heapW W) I (b0:=a) (b1:=b) ST (Nat.le_trans ht (Nat.le_of_ble_eq_true rfl))).calls (by kernel_rfl) noNat_ok (rel_world W) (vs:=#[.agg cs,.agg ps,.slice oa ln cp])
  (by
   simp only[VRels]
   exact⟨_,_,rfl,by simp only[VRel]; exact⟨_,rfl,by rw[← es]; exact vrels_map W _⟩,_,_,rfl,by simp only[VRel]; exact⟨_,rfl,by rw[← ep]; exact vrels_map W _⟩,_,_,rfl,absW_rel W (.slice oa ln cp),rfl⟩)
 refine hrun.mono fun e W' hx=>?_
 obtain⟨ρ',v,H',u,_,rfl,rfl,R,hu⟩:=hx
 simp only[VRel]at hu
 subst hu
 exact⟨_,rfl,law_post (tb:=4) (by kernel_rfl) (by kernel_rfl) (by kernel_rfl) (by kernel_rfl) rfl hW' rfl (by kernel_rfl) (by kernel_rfl) R.below⟩
theorem over:Rows.traceStepsRow.holds Tryz.pinned (OpenSpec.ofChange Rows.traceStepsSpec):=
 OpenClaim.holds_of_wide 3 Tryz.f3 rfl rfl rfl rfl rfl rfl rfl ⟨rfl,rfl,rfl,rfl,rfl⟩ rfl rfl rfl rfl rfl (by kernel_rfl) Tryz.func3 (by kernel_rfl)
  (of_decide_eq_true (by kernel_rfl)) (by unfold Func.isWrapper; first | (rw[if_pos (by decide +kernel)]; kernel_rfl) | (rw[if_neg (by decide +kernel)]; exact⟨rfl,rfl⟩))
  (fun os started H enc _=>lifted os started H enc)
theorem proved:Rows.TraceStepsSaid:=
 over
#print axioms proved
end Go.Proofs.YtkkjbpmlejjhjaaGreat.traceSteps
