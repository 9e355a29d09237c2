/- TreeBack: for every input the law returns true and its arguments read as before. Condition: the tables of Go's library that the row lists hold what the program's text lays (the card ties them). -/
import Derived.Test.YtfleblkgifoeaaaDoorCards
import Derived.Test.YtfleblkgifoeaaaDoorTie
import Derived.Handed
import Derived.JoinedOf
import Derived.ChangeVars
import Derived.ChangeMaps5
import Derived.SevenTiedAt
import Derived.Test.YtfleblkgifoeaaaDoorP12
set_option linter.unusedSimpArgs false
set_option linter.unusedVariables false
set_option linter.unnecessarySimpa false
namespace Go.Proofs.YtfleblkgifoeaaaDoor.treeBack
open Go.ChangeShapes Go.WideShapes Go.RowKit Go.ChangeMaps
open Go.Abs (aj ae wK)
open Go.Abs.S (jR nP ti dh)
open Go.Proofs.Wo (aB AQ qF xG xU Fd)
open Go.Proofs.YtfleblkgifoeaaaDoor (own oX EV)
theorem types:xU Tryd.prog 22 43 40 38:=
 ⟨Tryd.underlying22, Tryd.underlying38, by kernel_rfl, by kernel_rfl,
  ⟨_, Tryd.underlying40, ⟨_, rfl, rfl, by kernel_rfl, Tryd.underlying37⟩, ⟨_, rfl, rfl, by kernel_rfl, Tryd.underlying9⟩, ⟨_, rfl, rfl, by kernel_rfl, Tryd.underlying2⟩, ⟨_, rfl, rfl, by kernel_rfl, rfl⟩⟩,
  ⟨_, Tryd.underlying43, ⟨_, rfl, rfl, by kernel_rfl, Tryd.underlying41⟩, ⟨_, rfl, rfl, by kernel_rfl, Tryd.underlying9⟩, ⟨_, rfl, rfl, by kernel_rfl, rfl⟩, ⟨_, rfl, rfl, by kernel_rfl, rfl⟩, ⟨_, rfl, rfl, by kernel_rfl, rfl⟩, ⟨_, rfl, rfl, by kernel_rfl, Tryd.underlying3⟩⟩⟩
set_option linter.unusedVariables false
set_option maxRecDepth 100000 in
theorem Kr(os:Os)(started:os.Started)(H:Type)(enc:TypeId×Value->H) :
  ReturnsInHanded {} Tryd.checked os 3 .any (fun w args=>(Rows.treeBackSpec.pre enc Tryd.prog Tryd.f3 [] false w args/\laidMetH Tryd.prog Rows.treeBackRow.laid w)/\sizedMet enc Tryd.prog Tryd.f3 (OpenSpec.ofChange Rows.treeBackSpec) false w args)
   (Rows.treeBackSpec.post enc Tryd.prog Tryd.f3 false true false false):=by
 refine returnsInHanded_of_change_and (C:=Tryd.checked) (X:=fun w _=>laidMetH Tryd.prog Rows.treeBackRow.laid w) (fun _ _ _ hh h=>h.of_heap hh) own started (by kernel_rfl) Tryd.func3
  (ChangeSpec.witness_shaped (enc:=enc) (C:=Tryd.checked) (os:=os) (X:=fun w _=>laidMetH Tryd.prog Rows.treeBackRow.laid w) false (World.laidAll Tryd.prog os Rows.treeBackRow.laid) #[.slice none 0 0,.string ⟨#[]⟩] 8 (World.laidAll_os _ _ _) (World.shaped_of_ZipB (by kernel_rfl) (by kernel_rfl)) (by kernel_rfl) (by kernel_rfl) (by kernel_rfl) (laidMet_laidAll _ (by kernel_rfl) (by kernel_rfl))) ?_
 intro W base args ds gs before hval0 hW _ _ hL _
 have hval:∀(j:Nat) t v,Tryd.f3.params[j]?=some t->args[j]?=some v->Value.okWide Tryd.prog W .any base t v:=hval0
 have hW':=hW
 obtain⟨p,q,hA0,hV,rfl,hfz,hnd⟩:=hW
 have hA:DataW.TrodAll enc Tryd.prog W 0 (fun _=>true) true Tryd.f3.params.toList args.toList ds p:=hA0
 rw[Tryd.params3]at hA hval
 obtain⟨v0,vs0,d0,ds0,p0,q0,hargs,rfl,rfl,t0,r0⟩:=trodAll_cons hA
 obtain⟨v1,vs1,d1,ds1,p1,q1,rfl,rfl,rfl,t1,r1⟩:=trodAll_cons r0
 obtain⟨rfl,rfl,rfl⟩:=trodAll_nil r1
 obtain rfl:args=#[v0,v1]:=by cases args; simp_all
 obtain⟨rfl,rfl⟩:=trodVars_none hV
 have hv0:v0.cells.toList=[v0]:=by
  obtain⟨a,len,cap,rfl⟩:=okWide_slice Tryd.underlying22 (hval 0 22 v0 rfl rfl)
  rfl
 obtain⟨l,C,z1,z2,hr⟩:=xG types hv0 t0
 obtain⟨s,rfl,rfl,rfl,ls⟩:=open_string Tryd.underlying9 (hval 1 9 v1 rfl rfl) t1
 obtain⟨G,hn⟩:=oX hL
 have hrun:=(qF (H:=dh W) s.data.toList z1 z2 hr hn G).calls (by kernel_rfl) AQ (ti W) (vs:=#[v0,.string s])
  (by simp only[aj]; exact⟨_,_,rfl,nP W v0,_,_,rfl,nP W (.string s),rfl⟩)
 refine hrun.mono fun e W' hx=>?_
 obtain⟨ρ',v,H',u,_,rfl,⟨rfl,_⟩,R,hu⟩:=hx
 simp only[ae]at hu
 subst hu
 exact⟨_,rfl,wK (tb:=4) (by kernel_rfl) (by kernel_rfl) (by kernel_rfl) (by kernel_rfl) rfl hW' rfl (by kernel_rfl) (by kernel_rfl) R.below⟩
theorem over:Rows.TreeBackSaid:=
 OpenClaim.holds_of_wide 3 Tryd.f3 rfl rfl rfl rfl rfl rfl rfl ⟨rfl,rfl,rfl,rfl,rfl⟩ rfl rfl rfl rfl rfl (by kernel_rfl) Tryd.func3 (by kernel_rfl)
  (of_decide_eq_true (by kernel_rfl)) (by unfold Func.isWrapper; first | (rw[if_pos (by decide +kernel)]; kernel_rfl) | (rw[if_neg (by decide +kernel)]; exact⟨rfl,rfl⟩))
  (fun os started H enc _=>Kr os started H enc)
theorem proved:Rows.TreeBackCardSaid:=
 Claim7.holds_tied_plain_at .later [] [.data,.data,.data] true Rows.treeBackCard.stood.harness false
  over (fun _ h=>by cases h) (by kernel_rfl) (fun _ h=>by cases h) treeBack_row_tie rfl ⟨rfl,rfl⟩ (by kernel_rfl) rfl
  (fun f fn hf hfn=>by
   obtain rfl:f=3:=(Option.some.inj (Eq.trans (by kernel_rfl:some 3=_) hf)).symm
   obtain rfl:fn=Tryd.f3:=(Option.some.inj (Tryd.func3.symm.trans hfn)).symm
   exact⟨by kernel_rfl,fun j t ht=>by
    rw[Tryd.params3]at ht
    have h3:t=22∨t=9:=by
     rcases j with _ | _ | j
     ·left; simpa using ht.symm
     ·right; simpa using ht.symm
     ·simp at ht
    rcases h3 with rfl | rfl
    ·exact (show Tryd.prog.wantsStandIn 22=false by kernel_rfl)
    ·exact (show Tryd.prog.wantsStandIn 9=false by kernel_rfl)⟩)
  (by kernel_rfl)
#print axioms proved
end Go.Proofs.YtfleblkgifoeaaaDoor.treeBack
