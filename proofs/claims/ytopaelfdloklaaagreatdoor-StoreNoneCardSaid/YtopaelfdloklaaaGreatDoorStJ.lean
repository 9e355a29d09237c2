/- StoreNone: for every input the law returns true and its arguments read as before. Condition: the tables of Go's library that the row lists hold what the program's text lays (the card ties them). -/
import Derived.Test.YtopaelfdloklaaaGreatDoorCards
import Derived.Test.YtopaelfdloklaaaGreatDoorTie
import Derived.LaidLaws
import Derived.LaidHandle
import Derived.Lay
import Derived.Handed
import Derived.JoinedOf
import Derived.ChangeVars
import Derived.ChangeMaps5
import Derived.SevenTiedAt
import Derived.Test.YtopaelfdloklaaaGreatDoorP12
import Derived.Test.YtopaelfdloklaaaGreatDoorP13
set_option linter.unusedSimpArgs false
set_option linter.unusedVariables false
set_option linter.unnecessarySimpa false
namespace Go.Proofs.YtopaelfdloklaaaGreatDoor.storeNone
open Go.ChangeShapes Go.WideShapes Go.RowKit
open Go.Abs (VRels VRel opq law_post)
open Go.Abs.F (fcall f_closed h0 yesT)
open Go.Abs.TStoreNone (tab tab_ok)
set_option linter.constructorNameAsVariable false
theorem own:ownKnob Tryz.prog.godebug=none:=by kernel_rfl
set_option maxRecDepth 1000000 in
theorem run(x0 x1 x2 x3 x4:Value):fcall tab 3000 3 [.agg [.val x0,.val x1,.val x2,.val x3,.val x4]] h0 yesT=.yes:=by kernel_rfl
theorem walk(x0 x1 x2 x3 x4:Value)(g0:opq x0=true)(g1:opq x1=true)(g2:opq x2=true)(g3:opq x3=true)(g4:opq x4=true)(w:World):Calls Tryz.prog 3 #[.agg #[x0,x1,x2,x3,x4]] w fun e w'=>e=.returned (.bool true)∧Below w.heap.size w w':=
 f_closed (by kernel_rfl) Go.Proofs.St.natU_ok tab_ok (args:=[.agg [.val x0,.val x1,.val x2,.val x3,.val x4]]) (fun ρ=>by
  simp[VRels,VRel,g0,g1,g2,g3,g4]) (run x0 x1 x2 x3 x4) w
theorem cell3{W:World}{base:Nat}{v:Value}(h:Cell.okWide Tryz.prog W .any base 3 v):opq v=true:=by
 simp only[Cell.okWide,Tryz.underlying3]at h
 cases v <;> simp_all [Cell.ok,Tryz.underlying3] <;> rfl
theorem cell22{W:World}{base:Nat}{v:Value}(h:Cell.okWide Tryz.prog W .any base 22 v):opq v=true:=by
 simp only[Cell.okWide,Tryz.underlying22]at h
 cases v <;> simp_all [Cell.ok,Tryz.underlying22] <;> rfl
theorem cell9{W:World}{base:Nat}{v:Value}(h:Cell.okWide Tryz.prog W .any base 9 v):opq v=true:=by
 simp only[Cell.okWide,Tryz.underlying9]at h
 cases v <;> simp_all [Cell.ok,Tryz.underlying9] <;> rfl
theorem cell23{W:World}{base:Nat}{v:Value}(h:Cell.okWide Tryz.prog W .any base 23 v):opq v=true:=by
 simp only[Cell.okWide,Tryz.underlying23]at h
 cases v <;> simp_all [Cell.ok,Tryz.underlying23] <;> rfl
theorem five{cs:Array Value}(h:cs.size=5):∃x0 x1 x2 x3 x4,cs=#[x0,x1,x2,x3,x4]:=
 ⟨cs[0],cs[1],cs[2],cs[3],cs[4],by
  apply Array.ext
  ·simp[h]
  ·intro i h1 h2
   match i with
   | 0 | 1 | 2 | 3 | 4=>rfl
   | n+5=>omega⟩
set_option linter.unusedVariables false
set_option linter.constructorNameAsVariable false
set_option maxRecDepth 100000 in
theorem lifted(os:Os)(started:os.Started)(H:Type)(enc:TypeId×Value→H) :
  ReturnsInHanded {} Tryz.checked os 3 .any (fun w args=>(Rows.storeNoneSpec.pre enc Tryz.prog Tryz.f3 [] false w args∧laidMetH Tryz.prog Rows.storeNoneRow.laid w)∧sizedMet enc Tryz.prog Tryz.f3 (OpenSpec.ofChange Rows.storeNoneSpec) false w args)
   (Rows.storeNoneSpec.post enc Tryz.prog Tryz.f3 false true false false):=by
 refine returnsInHanded_of_change_and (C:=Tryz.checked) (X:=fun w _=>laidMetH Tryz.prog Rows.storeNoneRow.laid w) (fun _ _ _ hh h=>h.of_heap hh) own started (by kernel_rfl) Tryz.func3
  (ChangeSpec.witness_shaped (enc:=enc) (C:=Tryz.checked) (os:=os) (X:=fun w _=>laidMetH Tryz.prog Rows.storeNoneRow.laid w) false (World.laidAll Tryz.prog os Rows.storeNoneRow.laid) #[.agg #[.int .i64 0,.int .i64 0,.int .u8 0,.string ⟨#[]⟩,.slice none 0 0]] 8 (World.laidAll_os _ _ _) (World.shaped_of_ZipB (by kernel_rfl) (by kernel_rfl)) (by kernel_rfl) (by kernel_rfl) (by kernel_rfl) (laidMet_laidAll _ (by kernel_rfl) (by kernel_rfl))) ?_
 intro W base args ds gs before hval0 hW _ _ _ _
 have hval:∀(j:Nat) t v,Tryz.f3.params[j]?=some t→args[j]?=some v→Value.okWide Tryz.prog W .any base t v:=hval0
 have hW':=hW
 obtain⟨p,q,hA0,hV,rfl,hfz,hnd⟩:=hW
 have hA:DataW.TrodAll enc Tryz.prog W 0 (fun _=>true) true Tryz.f3.params.toList args.toList ds p:=hA0
 rw[Tryz.params3]at hA hval
 obtain⟨v0,vs0,d0,ds0,p0,q0,hargs,rfl,rfl,t0,r0⟩:=trodAll_cons hA
 obtain⟨rfl,rfl,rfl⟩:=trodAll_nil r0
 obtain rfl:args=#[v0]:=by cases args; simp_all
 obtain⟨rfl,rfl⟩:=trodVars_none hV
 have hr:Value.okWide Tryz.prog W .any base 25 v0:=hval 0 25 v0 rfl rfl
 simp only[Value.okWide,Tryz.underlying25]at hr
 obtain⟨cs,rfl,hs,ts,ht1,_,ht2⟩:=hr
 have e1:Tryz.prog.cellTypes Tryz.prog.depth 25=some [3,3,22,9,23]:=by kernel_rfl
 have e2:Tryz.prog.cellsOf 25=5:=by kernel_rfl
 rw[e1]at ht1
 obtain rfl:=Option.some.inj ht1
 rw[e2]at hs
 obtain⟨x0,x1,x2,x3,x4,rfl⟩:=five hs
 obtain⟨u0,s0,t0⟩:=ht2 0 x0 rfl
 obtain rfl:u0=3:=by simpa using s0.symm
 obtain⟨u1,s1,t1⟩:=ht2 1 x1 rfl
 obtain rfl:u1=3:=by simpa using s1.symm
 obtain⟨u2,s2,t2⟩:=ht2 2 x2 rfl
 obtain rfl:u2=22:=by simpa using s2.symm
 obtain⟨u3,s3,t3⟩:=ht2 3 x3 rfl
 obtain rfl:u3=9:=by simpa using s3.symm
 obtain⟨u4,s4,t4⟩:=ht2 4 x4 rfl
 obtain rfl:u4=23:=by simpa using s4.symm
 refine (walk _ _ _ _ _ (cell3 t0) (cell3 t1) (cell22 t2) (cell9 t3) (cell23 t4) W).mono fun e W' ⟨he,hg⟩=>?_
 subst he
 exact⟨_,rfl,law_post (tb:=4) (by kernel_rfl) (by kernel_rfl) (by kernel_rfl) (by kernel_rfl) rfl hW' rfl (by kernel_rfl) (by kernel_rfl) hg⟩
theorem over:Rows.StoreNoneSaid:=
 OpenClaim.holds_of_wide 3 Tryz.f3 rfl rfl rfl rfl rfl rfl rfl ⟨rfl,rfl,rfl,rfl,rfl⟩ rfl rfl rfl rfl rfl (by kernel_rfl) Tryz.func3 closed3
  (of_decide_eq_true (by kernel_rfl)) (by unfold Func.isWrapper; first | (rw[if_pos (by decide +kernel)]; kernel_rfl) | (rw[if_neg (by decide +kernel)]; exact⟨rfl,rfl⟩))
  (fun os started H enc _=>lifted os started H enc)
theorem proved:Rows.StoreNoneCardSaid:=
 Claim7.holds_tied_plain_at .later [] [.data,.pinned] true Rows.storeNoneCard.stood.harness true
  over (fun _ h=>by cases h) (by kernel_rfl) (fun _ h=>by cases h) storeNone_row_tie rfl ⟨rfl,rfl⟩ (by kernel_rfl) rfl
  (fun f fn hf hfn=>by
   obtain rfl:f=3:=(Option.some.inj (Eq.trans (by kernel_rfl:some 3=_) hf)).symm
   obtain rfl:fn=Tryz.f3:=(Option.some.inj (Tryz.func3.symm.trans hfn)).symm
   exact⟨by kernel_rfl,fun j t ht=>by
    rw[Tryz.params3]at ht
    have h3:t=25:=by
     rcases j with _ | j
     ·simpa using ht.symm
     ·simp at ht
    subst h3
    exact (show Tryz.prog.wantsStandIn 25=false by kernel_rfl)⟩)
  (by kernel_rfl)
#print axioms proved
end Go.Proofs.YtopaelfdloklaaaGreatDoor.storeNone
