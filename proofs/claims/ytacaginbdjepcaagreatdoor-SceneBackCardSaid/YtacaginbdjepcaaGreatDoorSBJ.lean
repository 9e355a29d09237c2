/- SceneBack: for every input the law returns true and its arguments read as before. Condition: the tables of Go's library that the row lists hold what the program's text lays (the card ties them). -/
import Derived.Test.YtacaginbdjepcaaGreatDoorCards
import Derived.Test.YtacaginbdjepcaaGreatDoorTie
import Derived.Handed
import Derived.JoinedOf
import Derived.ChangeVars
import Derived.ChangeMaps5
import Derived.SevenTiedAt
import Derived.Test.YtacaginbdjepcaaGreatDoorP12
set_option linter.unusedSimpArgs false
set_option linter.unusedVariables false
set_option linter.unnecessarySimpa false
namespace Go.Proofs.YtacaginbdjepcaaGreatDoor.sceneBack
open Go.ChangeShapes Go.WideShapes Go.RowKit Go.ChangeMaps
open Go.Abs (ah ag wK)
open Go.Abs.S (je mX sI ig)
open Go.Proofs.Wo (aG Bn tP pG ng Az rQ Jr Jp Hz Jn)
open Go.Proofs.YtacaginbdjepcaaGreatDoor (own oH FU)
theorem dk:rQ Tryz.prog 24:=⟨by kernel_rfl,⟨_,Tryz.underlying24,⟨_,rfl,rfl,by kernel_rfl,Tryz.underlying2⟩,⟨_,rfl,rfl,by kernel_rfl,Tryz.underlying2⟩,⟨_,rfl,rfl,by kernel_rfl,Tryz.underlying2⟩⟩⟩
theorem OU:Jr Tryz.prog 57:=⟨by kernel_rfl,⟨_,Tryz.underlying57,⟨_,rfl,rfl,by kernel_rfl,Tryz.underlying55⟩,⟨_,rfl,rfl,by kernel_rfl,dk⟩,⟨_,rfl,rfl,by kernel_rfl,Tryz.underlying9⟩,⟨_,rfl,rfl,by kernel_rfl,Tryz.underlying9⟩⟩⟩
theorem Na:Hz Tryz.prog 60:=⟨by kernel_rfl,⟨_,Tryz.underlying60,⟨_,rfl,rfl,by kernel_rfl,dk⟩,⟨_,rfl,rfl,by kernel_rfl,Tryz.underlying2⟩⟩⟩
theorem OT:Jp Tryz.prog 62:=⟨by kernel_rfl,⟨_,Tryz.underlying62,⟨_,rfl,rfl,by kernel_rfl,Na⟩,⟨_,rfl,rfl,by kernel_rfl,Tryz.underlying3⟩⟩⟩
theorem OR:Jn Tryz.prog 64:=⟨by kernel_rfl,⟨_,Tryz.underlying64,⟨_,rfl,rfl,by kernel_rfl,Tryz.underlying9⟩,⟨_,rfl,rfl,by kernel_rfl,dk⟩,⟨_,rfl,rfl,by kernel_rfl,Tryz.underlying3⟩⟩⟩
theorem b57:0<Tryz.prog.bytesOf 57:=by decide +kernel
theorem b62:0<Tryz.prog.bytesOf 62:=by decide +kernel
theorem b64:0<Tryz.prog.bytesOf 64:=by decide +kernel
theorem Kz:Az Tryz.prog 29:=⟨by kernel_rfl,⟨_,Tryz.underlying29,⟨_,rfl,rfl,by kernel_rfl,Tryz.underlying3⟩,⟨_,rfl,rfl,by kernel_rfl,Tryz.underlying3⟩,⟨_,rfl,rfl,by kernel_rfl,Tryz.underlying3⟩,⟨_,rfl,rfl,by kernel_rfl,Tryz.underlying3⟩,⟨_,rfl,rfl,by kernel_rfl,Tryz.underlying22⟩,⟨_,rfl,rfl,by kernel_rfl,dk⟩,⟨_,rfl,rfl,by kernel_rfl,dk⟩,⟨_,rfl,rfl,by kernel_rfl,dk⟩,⟨_,rfl,rfl,by kernel_rfl,Tryz.underlying2⟩,⟨_,rfl,rfl,by kernel_rfl,dk⟩,⟨_,rfl,rfl,by kernel_rfl,⟨_,Tryz.underlying25,OU,b57⟩⟩,⟨_,rfl,rfl,by kernel_rfl,⟨_,Tryz.underlying26,OT,b62⟩⟩,⟨_,rfl,rfl,by kernel_rfl,⟨_,Tryz.underlying27,OR,b64⟩⟩⟩⟩
set_option linter.unusedVariables false
set_option maxRecDepth 100000 in
theorem KR(os:Os)(started:os.Started)(H:Type)(enc:TypeId×Value->H) :
  ReturnsInHanded {} Tryz.checked os 3 .any (fun w args=>(Rows.sceneBackSpec.pre enc Tryz.prog Tryz.f3 [] false w args/\laidMetH Tryz.prog Rows.sceneBackRow.laid w)/\sizedMet enc Tryz.prog Tryz.f3 (OpenSpec.ofChange Rows.sceneBackSpec) false w args)
   (Rows.sceneBackSpec.post enc Tryz.prog Tryz.f3 false true false false):=by
 refine returnsInHanded_of_change_and (C:=Tryz.checked) (X:=fun w _=>laidMetH Tryz.prog Rows.sceneBackRow.laid w) (fun _ _ _ hh h=>h.of_heap hh) own started (by kernel_rfl) Tryz.func3
  (ChangeSpec.witness_shaped (enc:=enc) (C:=Tryz.checked) (os:=os) (X:=fun w _=>laidMetH Tryz.prog Rows.sceneBackRow.laid w) false (World.laidAll Tryz.prog os Rows.sceneBackRow.laid) #[.agg #[.int .i64 0,.int .i64 0,.int .i64 0,.int .i64 0,.int .u64 0,.int .i64 0,.int .i64 0,.int .i64 0,.int .i64 0,.int .i64 0,.int .i64 0,.int .i64 0,.int .i64 0,.int .i64 0,.int .i64 0,.int .i64 0,.int .i64 0,.int .i64 0,.slice none 0 0,.slice none 0 0,.slice none 0 0],.string ⟨#[]⟩] 8 (World.laidAll_os _ _ _) (World.shaped_of_ZipB (by kernel_rfl) (by kernel_rfl)) (by kernel_rfl) (by kernel_rfl) (by kernel_rfl) (laidMet_laidAll _ (by kernel_rfl) (by kernel_rfl))) ?_
 intro W base args ds gs before hval0 hW _ hsz hL _
 have hval:∀(j:Nat) t v,Tryz.f3.params[j]?=some t->args[j]?=some v->Value.okWide Tryz.prog W .any base t v:=hval0
 have hW':=hW
 obtain⟨p,q,hA0,hV,rfl,hfz,hnd⟩:=hW
 have hA:DataW.TrodAll enc Tryz.prog W 0 (fun _=>true) true Tryz.f3.params.toList args.toList ds p:=hA0
 rw[Tryz.params3]at hA hval
 obtain⟨v0,vs0,d0,ds0,p0,q0,hargs,rfl,rfl,t0,r0⟩:=trodAll_cons hA
 obtain⟨v1,vs1,d1,ds1,p1,q1,rfl,rfl,rfl,t1,r1⟩:=trodAll_cons r0
 obtain⟨rfl,rfl,rfl⟩:=trodAll_nil r1
 obtain rfl:args=#[v0,v1]:=by cases args; simp_all
 obtain⟨rfl,rfl⟩:=trodVars_none hV
 obtain⟨cs,rfl,_⟩:=okWide_struct Tryz.underlying29 (hval 0 29 v0 rfl rfl)
 obtain⟨t,rfl,rfl,rfl,ls⟩:=open_string Tryz.underlying9 (hval 1 9 v1 rfl rfl) t1
 obtain⟨fuel,hf⟩:=t0
 obtain⟨s,vm,vb,vu,es,I,z1,z2,z3,z4⟩:=pG Kz hf (fun n hn=>by
  have h1:=List.all_eq_true.1 hsz n (DataW.weights_mem_each (j:=0) (t:=29) (d:=d0) (by rw[Tryz.params3]; rfl) rfl n hn)
  simpa using h1)
 obtain⟨G,hn⟩:=oH hL
 have hrun:=(tP (H:=ig W) (t:=t.data.toList) I z1 z2 z3 z4 hn G).calls (by kernel_rfl) Bn (sI W) (vs:=#[.agg cs,.string t])
  (by simp only[ah]; exact⟨_,_,rfl,by simp only[ag]; exact⟨_,rfl,by rw[<- es]; exact ng W _⟩,_,_,rfl,mX W (.string t),rfl⟩)
 refine hrun.mono fun e W' hx=>?_
 obtain⟨ρ',v,H',u,_,rfl,⟨rfl,_⟩,R,hu⟩:=hx
 simp only[ag]at hu
 subst hu
 exact⟨_,rfl,wK (tb:=4) (by kernel_rfl) (by kernel_rfl) (by kernel_rfl) (by kernel_rfl) rfl hW' rfl (by kernel_rfl) (by kernel_rfl) R.below⟩
theorem over:Rows.SceneBackSaid:=
 OpenClaim.holds_of_wide 3 Tryz.f3 rfl rfl rfl rfl rfl rfl rfl ⟨rfl,rfl,rfl,rfl,rfl⟩ rfl rfl rfl rfl rfl (by kernel_rfl) Tryz.func3 (by kernel_rfl)
  (of_decide_eq_true (by kernel_rfl)) (by unfold Func.isWrapper; first | (rw[if_pos (by decide +kernel)]; kernel_rfl) | (rw[if_neg (by decide +kernel)]; exact⟨rfl,rfl⟩))
  (fun os started H enc _=>KR os started H enc)
theorem proved:Rows.SceneBackCardSaid:=
 Claim7.holds_tied_plain_at .later [] [.data,.data,.data,.data,.pinned] true Rows.sceneBackCard.stood.harness false
  over (fun _ h=>by cases h) (by kernel_rfl) (fun _ h=>by cases h) sceneBack_row_tie rfl ⟨rfl,rfl⟩ (by kernel_rfl) rfl
  (fun f fn hf hfn=>by
   obtain rfl:f=3:=(Option.some.inj (Eq.trans (by kernel_rfl:some 3=_) hf)).symm
   obtain rfl:fn=Tryz.f3:=(Option.some.inj (Tryz.func3.symm.trans hfn)).symm
   exact⟨by kernel_rfl,fun j t ht=>by
    rw[Tryz.params3]at ht
    have h3:t=29∨t=9:=by
     rcases j with _ | _ | j
     ·left; simpa using ht.symm
     ·right; simpa using ht.symm
     ·simp at ht
    rcases h3 with rfl | rfl
    ·exact (show Tryz.prog.wantsStandIn 29=false by kernel_rfl)
    ·exact (show Tryz.prog.wantsStandIn 9=false by kernel_rfl)⟩)
  (by kernel_rfl)
#print axioms proved
end Go.Proofs.YtacaginbdjepcaaGreatDoor.sceneBack
