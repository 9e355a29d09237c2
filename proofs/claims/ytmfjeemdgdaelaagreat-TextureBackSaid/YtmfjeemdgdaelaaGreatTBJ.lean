/- TextureBack: for every input the law returns true and its arguments read as before. No condition. -/
import Derived.Test.YtmfjeemdgdaelaaGreatRows
import Derived.Test.YtmfjeemdgdaelaaGreatP14
import Derived.Test.YtmfjeemdgdaelaaGreatP15
set_option linter.unusedSimpArgs false
set_option linter.unusedVariables false
set_option linter.unnecessarySimpa false
namespace Go.Proofs.YtmfjeemdgdaelaaGreat.textureBack
open Go.ChangeShapes Go.WideShapes Go.ChangeAt Go.RowKit
open Go.Abs (VRels VRel law_post)
open Go.Abs.S (absW_rel rel_world)
open Go.Proofs.Tb (law_spec natT_ok awake_spec arg_pix4)
set_option linter.unusedVariables false
theorem own:ownKnob Tryz.prog.godebug=none:=by kernel_rfl
set_option maxRecDepth 100000 in
theorem lifted(os:Os)(started:os.Started)(H:Type)(enc:TypeId×Value→H) :
  ReturnsInHanded {} Tryz.checked os 3 .any (Rows.textureBackSpec.pre6 enc Tryz.prog Tryz.f3 Rows.textureBackRow.domain false) (Rows.textureBackSpec.post enc Tryz.prog Tryz.f3 false true false false):=by
 refine returnsInHanded_of_change (C:=Tryz.checked) own started (by kernel_rfl) Tryz.func3
  (ChangeSpec.witness6 (enc:=enc) (C:=Tryz.checked) false ⟨#[],#[.int .i64 0,.int .i64 0,.slice none 0 0,.int .i64 0,.int .i64 0],[]⟩ 8 (by kernel_rfl) (by kernel_rfl) (by kernel_rfl) (by kernel_rfl)) ?_
 intro W base args ds gs before hval0 hW hcnd _
 have hval:∀(j:Nat) t v,Tryz.f3.params[j]?=some t→args[j]?=some v→Value.okWide Tryz.prog W .any base t v:=hval0
 have hW':=hW
 obtain⟨p,q,hA0,hV,rfl,hfz,hnd⟩:=hW
 have hA:DataW.TrodAll enc Tryz.prog W 0 (fun _=>true) true Tryz.f3.params.toList args.toList ds p:=hA0
 rw[Tryz.params3]at hA hval
 obtain⟨v0,vs0,d0,ds0,p0,q0,hargs,rfl,rfl,t0,r0⟩:=trodAll_cons hA
 obtain⟨v1,vs1,d1,ds1,p1,q1,rfl,rfl,rfl,t1,r1⟩:=trodAll_cons r0
 obtain⟨v2,vs2,d2,ds2,p2,q2,rfl,rfl,rfl,t2,r2⟩:=trodAll_cons r1
 obtain⟨v3,vs3,d3,ds3,p3,q3,rfl,rfl,rfl,t3,r3⟩:=trodAll_cons r2
 obtain⟨v4,vs4,d4,ds4,p4,q4,rfl,rfl,rfl,t4,r4⟩:=trodAll_cons r3
 obtain⟨rfl,rfl,rfl⟩:=trodAll_nil r4
 obtain rfl:args=#[v0,v1,v2,v3,v4]:=by cases args; simp_all
 obtain⟨rfl,rfl⟩:=trodVars_none hV
 obtain⟨w,rfl,rfl,rfl,ww⟩:=open_int Tryz.underlying3 (hval 0 _ v0 rfl rfl) t0
 obtain⟨h,rfl,rfl,rfl,wh⟩:=open_int Tryz.underlying3 (hval 1 _ v1 rfl rfl) t1
 obtain⟨ps,hps⟩:=arg_pix4 Tryz.underlying22 Tryz.underlying31 Tryz.underlying5 (by kernel_rfl) (by kernel_rfl) (hval 2 _ v2 rfl rfl) t2
 obtain⟨u,rfl,rfl,rfl,wu⟩:=open_int Tryz.underlying3 (hval 3 _ v3 rfl rfl) t3
 obtain⟨v,rfl,rfl,rfl,wv⟩:=open_int Tryz.underlying3 (hval 4 _ v4 rfl rfl) t4
 have hrun:=(law_spec (wv:=w) (hv:=h) (u:=u) (v:=v) hps awake_spec).calls (by kernel_rfl) natT_ok (rel_world W) (vs:=#[.int .i64 w,.int .i64 h,v2,.int .i64 u,.int .i64 v])
  (by simp only[VRels]; exact⟨_,_,rfl,absW_rel W (.int .i64 w),_,_,rfl,absW_rel W (.int .i64 h),_,_,rfl,absW_rel W v2,_,_,rfl,absW_rel W (.int .i64 u),_,_,rfl,absW_rel W (.int .i64 v),rfl⟩)
 refine hrun.mono fun e W' hx=>?_
 obtain⟨ρ',v,H',u,_,rfl,rfl,R,hu⟩:=hx
 simp only[VRel]at hu
 subst hu
 exact⟨_,rfl,law_post (tb:=4) (by kernel_rfl) (by kernel_rfl) (by kernel_rfl) (by kernel_rfl) rfl hW' rfl (by kernel_rfl) (by kernel_rfl) R.below⟩
theorem over:Rows.textureBackRow.holds Tryz.pinned (OpenSpec.ofChange Rows.textureBackSpec):=
 OpenClaim.holds_of_wide 3 Tryz.f3 rfl rfl rfl rfl rfl rfl rfl ⟨rfl,rfl,rfl,rfl,rfl⟩ rfl rfl rfl rfl rfl (by kernel_rfl) Tryz.func3 (by kernel_rfl)
  (of_decide_eq_true (by kernel_rfl)) (by unfold Func.isWrapper; first | (rw[if_pos (by decide +kernel)]; kernel_rfl) | (rw[if_neg (by decide +kernel)]; exact⟨rfl,rfl⟩))
  (fun os started H enc _=>lifted os started H enc)
theorem proved:Rows.TextureBackSaid:=
 over
#print axioms proved
end Go.Proofs.YtmfjeemdgdaelaaGreat.textureBack
