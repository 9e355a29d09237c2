/- ShaderSums: for every input the law returns true and its arguments read as before. No condition. -/
import Derived.Test.YteabnpheoiakdaaGreatRows
import Derived.Test.YteabnpheoiakdaaGreatP15
set_option linter.unusedSimpArgs false
set_option linter.unusedVariables false
set_option linter.unnecessarySimpa false
namespace Go.Proofs.YteabnpheoiakdaaGreat.shaderSums
open Go.ChangeShapes Go.WideShapes Go.ChangeAt Go.RowKit
open Go.Abs (aq ah zF)
open Go.Abs.S (Gf pj vD C5)
open Go.Proofs.Wo (aH CQ tu)
set_option linter.unusedVariables false
set_option linter.constructorNameAsVariable false
theorem own:ownKnob Tryz.prog.godebug=none:=by kernel_rfl
set_option maxRecDepth 100000 in
theorem NG(os:Os)(started:os.Started)(H:Type)(enc:TypeId×Value->H) :
  ReturnsInHanded {} Tryz.checked os 3 .any (Rows.shaderSumsSpec.pre6 enc Tryz.prog Tryz.f3 Rows.shaderSumsRow.domain false) (Rows.shaderSumsSpec.post enc Tryz.prog Tryz.f3 false true false false):=by
 refine returnsInHanded_of_change (C:=Tryz.checked) own started (by kernel_rfl) Tryz.func3
  (ChangeSpec.witness6 (enc:=enc) (C:=Tryz.checked) false ⟨#[],#[.int .i64 0,.int .i64 0],[]⟩ 8 (by kernel_rfl) (by kernel_rfl) (by kernel_rfl) (by kernel_rfl)) ?_
 intro W base args ds gs before hval0 hW hcnd _
 have hval:∀(j:Nat) t v,Tryz.f3.params[j]?=some t->args[j]?=some v->Value.okWide Tryz.prog W .any base t v:=hval0
 have hW':=hW
 obtain⟨p,q,hA0,hV,rfl,hfz,hnd⟩:=hW
 have hA:DataW.TrodAll enc Tryz.prog W 0 (fun _=>true) true Tryz.f3.params.toList args.toList ds p:=hA0
 rw[Tryz.params3]at hA hval
 obtain⟨v0,vs0,d0,ds0,p0,q0,hargs0,rfl,rfl,k0,r0⟩:=trodAll_cons hA
 obtain⟨v1,vs1,d1,ds1,p1,q1,hargs1,rfl,rfl,k1,r1⟩:=trodAll_cons r0
 obtain⟨rfl,rfl,rfl⟩:=trodAll_nil r1
 obtain rfl:args=#[v0,v1]:=by cases args; simp_all
 obtain⟨rfl,rfl⟩:=trodVars_none hV
 obtain⟨n,rfl,rfl,rfl,wn⟩:=open_int Tryz.underlying2 (hval 0 _ v0 rfl rfl) k0
 obtain⟨r,rfl,rfl,rfl,wr⟩:=open_int Tryz.underlying3 (hval 1 _ v1 rfl rfl) k1
 have hrun:=(tu (H:=C5 W) (n:=n) (rd:=r)).calls (by kernel_rfl) CQ (vD W) (vs:=#[.int .i64 n,.int .i64 r])
  (by simp only[aq]; exact⟨_,_,rfl,pj W (.int .i64 n),_,_,rfl,pj W (.int .i64 r),rfl⟩)
 refine hrun.mono fun e W' hx=>?_
 obtain⟨ρ',v,H',u,_,rfl,⟨rfl,_⟩,R,hu⟩:=hx
 simp only[ah]at hu
 subst hu
 exact⟨_,rfl,zF (tb:=4) (by kernel_rfl) (by kernel_rfl) (by kernel_rfl) (by kernel_rfl) rfl hW' rfl (by kernel_rfl) (by kernel_rfl) R.below⟩
theorem over:Rows.shaderSumsRow.holds Tryz.pinned (OpenSpec.ofChange Rows.shaderSumsSpec):=
 OpenClaim.holds_of_wide 3 Tryz.f3 rfl rfl rfl rfl rfl rfl rfl ⟨rfl,rfl,rfl,rfl,rfl⟩ rfl rfl rfl rfl rfl (by kernel_rfl) Tryz.func3 (by kernel_rfl)
  (of_decide_eq_true (by kernel_rfl)) (by unfold Func.isWrapper; first | (rw[if_pos (by decide +kernel)]; kernel_rfl) | (rw[if_neg (by decide +kernel)]; exact⟨rfl,rfl⟩))
  (fun os started H enc _=>NG os started H enc)
theorem proved:Rows.ShaderSumsSaid:=
 over
#print axioms proved
end Go.Proofs.YteabnpheoiakdaaGreat.shaderSums
