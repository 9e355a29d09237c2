/- CodeTells: for every input the law returns true and its arguments read as before. Condition: the tables of Go's library that the row lists hold what the program's text lays (the card ties them). -/
import Derived.Test.YteabnpheoiakdaaGreatDoorCards
import Derived.Test.YteabnpheoiakdaaGreatDoorTie
import Derived.Handed
import Derived.JoinedOf
import Derived.ChangeVars
import Derived.ChangeMaps5
import Derived.SevenTiedAt
import Derived.Test.YteabnpheoiakdaaGreatDoorP15
set_option linter.unusedSimpArgs false
set_option linter.unusedVariables false
set_option linter.defProp false
set_option linter.unnecessarySimpa false
namespace Go.Proofs.YteabnpheoiakdaaGreatDoor.codeTells
open Go.ChangeShapes Go.WideShapes Go.RowKit Go.ChangeMaps
open Go.Abs (aE ar Cn)
open Go.Abs.S (j8 rT yq dN)
open Go.Proofs.Wo (aF GP v8 Dh Dw Fd Pr FZ vq vo oH DG GX)
open Go.Proofs.YteabnpheoiakdaaGreatDoor (own tZ Lj)
theorem types:Dw Tryz.prog 22 61 58 56:=
 ⟨Tryz.underlying22, Tryz.underlying56, by kernel_rfl, by kernel_rfl,
  ⟨_, Tryz.underlying58, ⟨_, rfl, rfl, by kernel_rfl, Tryz.underlying55⟩, ⟨_, rfl, rfl, by kernel_rfl, Tryz.underlying9⟩, ⟨_, rfl, rfl, by kernel_rfl, Tryz.underlying2⟩, ⟨_, rfl, rfl, by kernel_rfl, rfl⟩⟩,
  ⟨_, Tryz.underlying61, ⟨_, rfl, rfl, by kernel_rfl, Tryz.underlying59⟩, ⟨_, rfl, rfl, by kernel_rfl, Tryz.underlying9⟩, ⟨_, rfl, rfl, by kernel_rfl, rfl⟩, ⟨_, rfl, rfl, by kernel_rfl, rfl⟩, ⟨_, rfl, rfl, by kernel_rfl, rfl⟩, ⟨_, rfl, rfl, by kernel_rfl, Tryz.underlying3⟩⟩⟩
theorem b45:0<Tryz.prog.bytesOf 45:=by decide +kernel
theorem b2:0<Tryz.prog.bytesOf 2:=by decide +kernel
theorem Uj:Pr Tryz.prog 45:=⟨by kernel_rfl,b45,⟨_,Tryz.underlying45,⟨_,rfl,rfl,by kernel_rfl,Tryz.underlying43⟩,⟨_,rfl,rfl,by kernel_rfl,Tryz.underlying3⟩,⟨_,rfl,rfl,by kernel_rfl,Tryz.underlying3⟩,⟨_,rfl,rfl,by kernel_rfl,Tryz.underlying3⟩⟩⟩
theorem QK:FZ Tryz.prog 42:=⟨by kernel_rfl,⟨_,Tryz.underlying42,⟨_,rfl,rfl,by kernel_rfl,⟨_,Tryz.underlying39,by kernel_rfl,b2⟩⟩,⟨_,rfl,rfl,by kernel_rfl,Tryz.underlying3⟩,⟨_,rfl,rfl,by kernel_rfl,⟨_,Tryz.underlying40,Uj⟩⟩⟩⟩
set_option linter.unusedVariables false
set_option maxRecDepth 100000 in
theorem Q0(os:Os)(started:os.Started)(H:Type)(enc:TypeId×Value->H) :
  ReturnsInHanded {} Tryz.checked os 5 .any (λw args=>(Rows.codeTellsSpec.pre enc Tryz.prog Tryz.f5 [] false w args/\laidMetH Tryz.prog Rows.codeTellsRow.laid w)/\sizedMet enc Tryz.prog Tryz.f5 (OpenSpec.ofChange Rows.codeTellsSpec) false w args)
   (Rows.codeTellsSpec.post enc Tryz.prog Tryz.f5 false true false false):=by
 refine returnsInHanded_of_change_and (C:=Tryz.checked) (X:=λw _=>laidMetH Tryz.prog Rows.codeTellsRow.laid w) (λ_ _ _ hh h=>h.of_heap hh) own started (by kernel_rfl) Tryz.func5
  (ChangeSpec.witness_shaped (enc:=enc) (C:=Tryz.checked) (os:=os) (X:=λw _=>laidMetH Tryz.prog Rows.codeTellsRow.laid w) false (World.laidAll Tryz.prog os Rows.codeTellsRow.laid) #[.slice none 0 0,.agg #[.slice none 0 0,.int .i64 0,.slice none 0 0],.agg #[.int .u8 0,.int .i64 0,.int .i64 0,.int .i64 0]] 8 (World.laidAll_os _ _ _) (World.shaped_of_ZipB (by kernel_rfl) (by kernel_rfl)) (by kernel_rfl) (by kernel_rfl) (by kernel_rfl) (laidMet_laidAll _ (by kernel_rfl) (by kernel_rfl))) ?_
 intro W base args ds gs before hval0 hW _ hsz hL _;have hval:∀(j:Nat) t v,Tryz.f5.params[j]?=some t->args[j]?=some v->Value.okWide Tryz.prog W .any base t v:=hval0;have hW':=hW;obtain⟨p,q,hA0,hV,rfl,hfz,hnd⟩:=hW;have hA:DataW.TrodAll enc Tryz.prog W 0 (λ_=>true) true Tryz.f5.params.toList args.toList ds p:=hA0;rw[Tryz.params5]at hA hval;obtain⟨v0,vs0,d0,ds0,p0,q0,hargs,rfl,rfl,t0,r0⟩:=trodAll_cons hA;obtain⟨v1,vs1,d1,ds1,p1,q1,rfl,rfl,rfl,t1,r1⟩:=trodAll_cons r0;obtain⟨v2,vs2,d2,ds2,p2,q2,rfl,rfl,rfl,t2,r2⟩:=trodAll_cons r1;obtain⟨rfl,rfl,rfl⟩:=trodAll_nil r2;obtain rfl:args=#[v0,v1,v2]:=by cases args;simp_all
 obtain⟨rfl,rfl⟩:=trodVars_none hV;have hv0:v0.cells.toList=[v0]:=by obtain⟨a,len,cap,rfl⟩:=okWide_slice Tryz.underlying22 (hval 0 22 v0 rfl rfl);rfl
 obtain⟨cs1,rfl,_⟩:=okWide_struct Tryz.underlying42 (hval 1 42 v1 rfl rfl);obtain⟨cs2,rfl,_⟩:=okWide_struct Tryz.underlying45 (hval 2 45 v2 rfl rfl);obtain⟨l,C,z1,z2⟩:=Dh types hv0 t0;obtain⟨fuel1,hf1⟩:=t1;obtain⟨fuel2,hf2⟩:=t2;obtain⟨vc,R0,vd,nk,ins,e1,hc,ho,hcq,hnk,zi,hni⟩:=vo QK hf1 (λn hn=>by have h1:=List.all_eq_true.1 hsz n (DataW.weights_mem_each (j:=1) (t:=42) (d:=d1) (by rw[Tryz.params5];rfl) rfl n hn);simpa using h1)
 obtain⟨i,e2,i0,ia,ib,ic⟩:=vq Uj hf2;obtain⟨G,hn⟩:=tZ hL;have hrun:=(v8 (H:=dN W) (R:=R0) hn G z1 z2 hc ho hcq zi hnk hni i0 ia ib ic).calls (by kernel_rfl) GP (yq W) (vs:=#[v0,.agg cs1,.agg cs2])
  (by simp only[aE];exact⟨_,_,rfl,rT W v0,_,_,rfl,by simp only[ar];exact⟨_,rfl,by rw[<- e1];exact oH W _⟩,_,_,rfl,by unfold DG;simp only[ar];exact⟨_,rfl,by show aE _ (GX i) _;rw[<- e2];exact oH W _⟩,rfl⟩)
 refine hrun.mono λe W' hx=>?_;obtain⟨ρ',v,H',u,_,rfl,⟨rfl,_⟩,R,hu⟩:=hx;simp only[ar]at hu;subst hu;exact⟨_,rfl,Cn (tb:=4) (by kernel_rfl) (by kernel_rfl) (by kernel_rfl) (by kernel_rfl) rfl hW' rfl (by kernel_rfl) (by kernel_rfl) R.below⟩
theorem over:Rows.CodeTellsSaid:=
 OpenClaim.holds_of_wide 5 Tryz.f5 rfl rfl rfl rfl rfl rfl rfl ⟨rfl,rfl,rfl,rfl,rfl⟩ rfl rfl rfl rfl rfl (by kernel_rfl) Tryz.func5 (by kernel_rfl)
  (of_decide_eq_true (by kernel_rfl)) (by unfold Func.isWrapper;first|(rw[if_pos (by decide +kernel)];kernel_rfl)|(rw[if_neg (by decide +kernel)];exact⟨rfl,rfl⟩))
  (λos started H enc _=>Q0 os started H enc)
theorem proved:Rows.CodeTellsCardSaid:=
 Claim7.holds_tied_plain_at .later [] [.data,.data,.data] true Rows.codeTellsCard.stood.harness false
  over (λ_ h=>by cases h) (by kernel_rfl) (λ_ h=>by cases h) codeTells_row_tie rfl ⟨rfl,rfl⟩ (by kernel_rfl) rfl
  (λf fn hf hfn=>by
   obtain rfl:f=5:=(Option.some.inj (Eq.trans (by kernel_rfl:some 5=_) hf)).symm;obtain rfl:fn=Tryz.f5:=(Option.some.inj (Tryz.func5.symm.trans hfn)).symm;exact⟨by kernel_rfl,λj t ht=>by
    rw[Tryz.params5]at ht;have h3:t=22∨t=42∨t=45:=by
     rcases j with _|_|_|j
     ·left;simpa using ht.symm
     ·right;left;simpa using ht.symm
     ·right;right;simpa using ht.symm
     ·simp at ht
    rcases h3 with rfl|rfl|rfl
    ·exact(show Tryz.prog.wantsStandIn 22=false by kernel_rfl)
    ·exact(show Tryz.prog.wantsStandIn 42=false by kernel_rfl)
    ·exact(show Tryz.prog.wantsStandIn 45=false by kernel_rfl)⟩)
  (by kernel_rfl)
#print axioms proved
end Go.Proofs.YteabnpheoiakdaaGreatDoor.codeTells
