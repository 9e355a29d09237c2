/- TreeTells: for every input the law returns true and its arguments read as before. Condition: the tables of Go's library that the row lists hold what the program's text lays (the card ties them). -/
import Derived.Test.YtfleblkgifoeaaaGreatDoorCards
import Derived.Test.YtfleblkgifoeaaaGreatDoorTie
import Derived.Handed
import Derived.JoinedOf
import Derived.ChangeVars
import Derived.ChangeMaps5
import Derived.SevenTiedAt
import Derived.Test.YtfleblkgifoeaaaGreatDoorP15
set_option linter.unusedSimpArgs false
set_option linter.unusedVariables false
set_option linter.unnecessarySimpa false
namespace Go.Proofs.YtfleblkgifoeaaaGreatDoor.treeTells
open Go.ChangeShapes Go.WideShapes Go.RowKit Go.ChangeMaps
open Go.Abs (ap ak yw)
open Go.Abs.S (lj px uJ dL)
open Go.Proofs.Wo (aA Cs qy zG zT Fd)
open Go.Proofs.YtfleblkgifoeaaaGreatDoor (own qB GN)
theorem types:zT Tryz.prog 22 61 58 56:=
 ⟨Tryz.underlying22, Tryz.underlying56, by kernel_rfl, by kernel_rfl,
  ⟨_, Tryz.underlying58, ⟨_, rfl, rfl, by kernel_rfl, Tryz.underlying55⟩, ⟨_, rfl, rfl, by kernel_rfl, Tryz.underlying9⟩, ⟨_, rfl, rfl, by kernel_rfl, Tryz.underlying2⟩, ⟨_, rfl, rfl, by kernel_rfl, rfl⟩⟩,
  ⟨_, Tryz.underlying61, ⟨_, rfl, rfl, by kernel_rfl, Tryz.underlying59⟩, ⟨_, rfl, rfl, by kernel_rfl, Tryz.underlying9⟩, ⟨_, rfl, rfl, by kernel_rfl, rfl⟩, ⟨_, rfl, rfl, by kernel_rfl, rfl⟩, ⟨_, rfl, rfl, by kernel_rfl, rfl⟩, ⟨_, rfl, rfl, by kernel_rfl, Tryz.underlying3⟩⟩⟩
set_option linter.unusedVariables false
set_option maxRecDepth 100000 in
theorem LP(os:Os)(started:os.Started)(H:Type)(enc:TypeId×Value->H) :
  ReturnsInHanded {} Tryz.checked os 3 .any (fun w args=>(Rows.treeTellsSpec.pre enc Tryz.prog Tryz.f3 [] false w args/\laidMetH Tryz.prog Rows.treeTellsRow.laid w)/\sizedMet enc Tryz.prog Tryz.f3 (OpenSpec.ofChange Rows.treeTellsSpec) false w args)
   (Rows.treeTellsSpec.post enc Tryz.prog Tryz.f3 false true false false):=by
 refine returnsInHanded_of_change_and (C:=Tryz.checked) (X:=fun w _=>laidMetH Tryz.prog Rows.treeTellsRow.laid w) (fun _ _ _ hh h=>h.of_heap hh) own started (by kernel_rfl) Tryz.func3
  (ChangeSpec.witness_shaped (enc:=enc) (C:=Tryz.checked) (os:=os) (X:=fun w _=>laidMetH Tryz.prog Rows.treeTellsRow.laid w) false (World.laidAll Tryz.prog os Rows.treeTellsRow.laid) #[.string ⟨#[]⟩,.slice none 0 0] 8 (World.laidAll_os _ _ _) (World.shaped_of_ZipB (by kernel_rfl) (by kernel_rfl)) (by kernel_rfl) (by kernel_rfl) (by kernel_rfl) (laidMet_laidAll _ (by kernel_rfl) (by kernel_rfl))) ?_
 intro W base args ds gs before hval0 hW _ _ hL _
 have hval:∀(j:Nat) t v,Tryz.f3.params[j]?=some t->args[j]?=some v->Value.okWide Tryz.prog W .any base t v:=hval0
 have hW':=hW
 obtain⟨p,q,hA0,hV,rfl,hfz,hnd⟩:=hW
 have hA:DataW.TrodAll enc Tryz.prog W 0 (fun _=>true) true Tryz.f3.params.toList args.toList ds p:=hA0
 rw[Tryz.params3]at hA hval
 obtain⟨v0,vs0,d0,ds0,p0,q0,hargs,rfl,rfl,t0,r0⟩:=trodAll_cons hA
 obtain⟨v1,vs1,d1,ds1,p1,q1,rfl,rfl,rfl,t1,r1⟩:=trodAll_cons r0
 obtain⟨rfl,rfl,rfl⟩:=trodAll_nil r1
 obtain rfl:args=#[v0,v1]:=by cases args; simp_all
 obtain⟨rfl,rfl⟩:=trodVars_none hV
 obtain⟨s,rfl,rfl,rfl,ls⟩:=open_string Tryz.underlying9 (hval 0 9 v0 rfl rfl) t0
 have hv1:v1.cells.toList=[v1]:=by
  obtain⟨a,len,cap,rfl⟩:=okWide_slice Tryz.underlying22 (hval 1 22 v1 rfl rfl)
  rfl
 obtain⟨l,C,z1,z2,hr⟩:=zG types hv1 t1
 obtain⟨G,hn⟩:=qB hL
 have hrun:=(qy (H:=dL W) s.data.toList z1 z2 hr hn G).calls (by kernel_rfl) Cs (uJ W) (vs:=#[.string s,v1])
  (by simp only[ap]; exact⟨_,_,rfl,px W (.string s),_,_,rfl,px W v1,rfl⟩)
 refine hrun.mono fun e W' hx=>?_
 obtain⟨ρ',v,H',u,_,rfl,⟨rfl,_⟩,R,hu⟩:=hx
 simp only[ak]at hu
 subst hu
 exact⟨_,rfl,yw (tb:=4) (by kernel_rfl) (by kernel_rfl) (by kernel_rfl) (by kernel_rfl) rfl hW' rfl (by kernel_rfl) (by kernel_rfl) R.below⟩
theorem over:Rows.TreeTellsSaid:=
 OpenClaim.holds_of_wide 3 Tryz.f3 rfl rfl rfl rfl rfl rfl rfl ⟨rfl,rfl,rfl,rfl,rfl⟩ rfl rfl rfl rfl rfl (by kernel_rfl) Tryz.func3 (by kernel_rfl)
  (of_decide_eq_true (by kernel_rfl)) (by unfold Func.isWrapper; first | (rw[if_pos (by decide +kernel)]; kernel_rfl) | (rw[if_neg (by decide +kernel)]; exact⟨rfl,rfl⟩))
  (fun os started H enc _=>LP os started H enc)
theorem proved:Rows.TreeTellsCardSaid:=
 Claim7.holds_tied_plain_at .later [] [.data,.data,.data] true Rows.treeTellsCard.stood.harness false
  over (fun _ h=>by cases h) (by kernel_rfl) (fun _ h=>by cases h) treeTells_row_tie rfl ⟨rfl,rfl⟩ (by kernel_rfl) rfl
  (fun f fn hf hfn=>by
   obtain rfl:f=3:=(Option.some.inj (Eq.trans (by kernel_rfl:some 3=_) hf)).symm
   obtain rfl:fn=Tryz.f3:=(Option.some.inj (Tryz.func3.symm.trans hfn)).symm
   exact⟨by kernel_rfl,fun j t ht=>by
    rw[Tryz.params3]at ht
    have h3:t=9∨t=22:=by
     rcases j with _ | _ | j
     ·left; simpa using ht.symm
     ·right; simpa using ht.symm
     ·simp at ht
    rcases h3 with rfl | rfl
    ·exact (show Tryz.prog.wantsStandIn 9=false by kernel_rfl)
    ·exact (show Tryz.prog.wantsStandIn 22=false by kernel_rfl)⟩)
  (by kernel_rfl)
#print axioms proved
end Go.Proofs.YtfleblkgifoeaaaGreatDoor.treeTells
