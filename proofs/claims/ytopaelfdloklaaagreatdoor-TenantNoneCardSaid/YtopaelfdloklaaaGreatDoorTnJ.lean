/- TenantNone: for every input the law returns true and its arguments read as before. Condition: the tables of Go's library that the row lists hold what the program's text lays (the card ties them). -/
import Derived.Test.YtopaelfdloklaaaGreatDoorCards
import Derived.Test.YtopaelfdloklaaaGreatDoorTie
import Derived.LaidLaws
import Derived.LaidHandle
import Derived.Lay
import Derived.Handed
import Derived.JoinedOf
import Derived.ChangeVars
import Derived.ChangeMaps5
import Derived.SevenTiedAt
import Derived.Test.YtopaelfdloklaaaGreatDoorP13
import Derived.Test.YtopaelfdloklaaaGreatDoorP14
set_option linter.unusedSimpArgs false
set_option linter.unusedVariables false
set_option linter.unnecessarySimpa false
namespace Go.Proofs.YtopaelfdloklaaaGreatDoor.tenantNone
open Go.ChangeShapes Go.WideShapes Go.RowKit
open Go.Abs (VRels VRel AVal GHolds opq law_post ints_of_trod var_row ints_vrels_of)
open Go.Abs.F (e5 fcall gStart g_closed yesT)
open Go.Abs.TTenantNone (tab tab_ok)
set_option linter.constructorNameAsVariable false
theorem own:ownKnob Tryz.prog.godebug=none:=by kernel_rfl
def powZ:List Int:=[1,10,100,1000,10000,100000,1000000,10000000,100000000,1000000000,10000000000,100000000000,1000000000000,10000000000000,100000000000000,1000000000000000,10000000000000000,100000000000000000,1000000000000000000,10000000000000000000]
def gl:List (Nat×List AVal):=[(0,powZ.map (.int .u64))]
abbrev laidT:List (String×DataW Unit):=Rows.tenantNoneRow.laid
set_option maxRecDepth 100000 in
theorem holds_of_laid{W:World}(h:laidMetH Tryz.prog laidT W):GHolds W 6 gl:=by
 have h':laidMet Tryz.prog laidT W:=h
 obtain⟨ps,hl,_,_⟩:=h'
 obtain⟨_,_,_,_,_,_,_,_,_,_,hl,_⟩:=hl
 obtain⟨g5,t5,cs5,f5,p5,q5,hg5,ht5,hv5,htr5,hl,_⟩:=hl
 obtain⟨g0,t0,cs0,f0,p0,q0,hg0,ht0,hv0,htr0,_,_⟩:=hl
 have e3:some 0=some g0:=Eq.trans (by kernel_rfl) hg0
 obtain rfl:=Option.some.inj e3
 have e4:some 421=some t0:=Eq.trans (by kernel_rfl) ht0
 obtain rfl:=Option.some.inj e4
 have e5:some 5=some g5:=Eq.trans (by kernel_rfl) hg5
 obtain rfl:=Option.some.inj e5
 have hc0:=ints_of_trod (l:=powZ) Tryz.underlying421 (k:=.u64) Tryz.underlying81 (by kernel_rfl) (by kernel_rfl) htr0
 obtain⟨x0,z0,r0⟩:=var_row hg0 hv0
 obtain⟨x5,z5,r5⟩:=var_row hg5 hv5
 have l5:=(Array.getElem?_eq_some_iff.1 r5).1
 refine⟨l5,fun p hp=>?_⟩
 have hp':p=(0,powZ.map (.int .u64)):=by simpa[gl] using hp
 subst hp'
 exact⟨Nat.zero_lt_succ 5,_,_,_,r0,ints_vrels_of hc0⟩
set_option maxRecDepth 1000000 in
theorem run(x0 x1 x2 x3:Value)(x4:Bool):gStart gl ⟨6,e5⟩ (fun h0=>fcall tab 3000 4 [.agg [.val x0,.val x1,.val x2,.val x3,.bool x4]] h0 yesT)=.yes:=by kernel_rfl
theorem walk(x0 x1 x2 x3:Value)(x4:Bool)(g0:opq x0=true)(g1:opq x1=true)(g2:opq x2=true)(g3:opq x3=true)(w:World)(hL:laidMetH Tryz.prog laidT w):Calls Tryz.prog 4 #[.agg #[x0,x1,x2,x3,.bool x4]] w fun e w'=>e=.returned (.bool true)∧Below w.heap.size w w':=
 g_closed (by kernel_rfl) (Go.Proofs.St.natT_ok true) tab_ok (args:=[.agg [.val x0,.val x1,.val x2,.val x3,.bool x4]]) (fun ρ=>by
  simp[VRels,VRel,g0,g1,g2,g3]) (by rfl) (run x0 x1 x2 x3 x4) (holds_of_laid hL)
theorem cell9{W:World}{base:Nat}{v:Value}(h:Cell.okWide Tryz.prog W .any base 9 v):opq v=true:=by
 simp only[Cell.okWide,Tryz.underlying9]at h
 cases v <;> simp_all [Cell.ok,Tryz.underlying9] <;> rfl
theorem cell52{W:World}{base:Nat}{v:Value}(h:Cell.okWide Tryz.prog W .any base 52 v):opq v=true:=by
 simp only[Cell.okWide,Tryz.underlying52]at h
 cases v <;> simp_all [Cell.ok,Tryz.underlying52] <;> rfl
theorem cell23{W:World}{base:Nat}{v:Value}(h:Cell.okWide Tryz.prog W .any base 23 v):opq v=true:=by
 simp only[Cell.okWide,Tryz.underlying23]at h
 cases v <;> simp_all [Cell.ok,Tryz.underlying23] <;> rfl
theorem cell4{W:World}{base:Nat}{v:Value}(h:Cell.okWide Tryz.prog W .any base 4 v):∃b,v=.bool b:=by
 simp only[Cell.okWide,Tryz.underlying4]at h
 cases v <;> simp_all [Cell.ok,Tryz.underlying4]
theorem five{cs:Array Value}(h:cs.size=5):∃x0 x1 x2 x3 x4,cs=#[x0,x1,x2,x3,x4]:=
 ⟨cs[0],cs[1],cs[2],cs[3],cs[4],by
  apply Array.ext
  ·simp[h]
  ·intro i h1 h2
   match i with
   | 0 | 1 | 2 | 3 | 4=>rfl
   | n+5=>omega⟩
set_option linter.unusedVariables false
set_option linter.constructorNameAsVariable false
set_option maxRecDepth 100000 in
theorem lifted(os:Os)(started:os.Started)(H:Type)(enc:TypeId×Value→H) :
  ReturnsInHanded {} Tryz.checked os 4 .any (fun w args=>(Rows.tenantNoneSpec.pre enc Tryz.prog Tryz.f4 [] false w args∧laidMetH Tryz.prog Rows.tenantNoneRow.laid w)∧sizedMet enc Tryz.prog Tryz.f4 (OpenSpec.ofChange Rows.tenantNoneSpec) false w args)
   (Rows.tenantNoneSpec.post enc Tryz.prog Tryz.f4 false true false false):=by
 refine returnsInHanded_of_change_and (C:=Tryz.checked) (X:=fun w _=>laidMetH Tryz.prog Rows.tenantNoneRow.laid w) (fun _ _ _ hh h=>h.of_heap hh) own started (by kernel_rfl) Tryz.func4
  (ChangeSpec.witness_shaped (enc:=enc) (C:=Tryz.checked) (os:=os) (X:=fun w _=>laidMetH Tryz.prog Rows.tenantNoneRow.laid w) false (World.laidAll Tryz.prog os Rows.tenantNoneRow.laid) #[.agg #[.string ⟨#[]⟩,.string ⟨#[]⟩,.slice none 0 0,.slice none 0 0,.bool false]] 8 (World.laidAll_os _ _ _) (World.shaped_of_ZipB (by kernel_rfl) (by kernel_rfl)) (by kernel_rfl) (by kernel_rfl) (by kernel_rfl) (laidMet_laidAll _ (by kernel_rfl) (by kernel_rfl))) ?_
 intro W base args ds gs before hval0 hW _ _ hL _
 have hval:∀(j:Nat) t v,Tryz.f4.params[j]?=some t→args[j]?=some v→Value.okWide Tryz.prog W .any base t v:=hval0
 have hW':=hW
 obtain⟨p,q,hA0,hV,rfl,hfz,hnd⟩:=hW
 have hA:DataW.TrodAll enc Tryz.prog W 0 (fun _=>true) true Tryz.f4.params.toList args.toList ds p:=hA0
 rw[Tryz.params4]at hA hval
 obtain⟨v0,vs0,d0,ds0,p0,q0,hargs,rfl,rfl,t0,r0⟩:=trodAll_cons hA
 obtain⟨rfl,rfl,rfl⟩:=trodAll_nil r0
 obtain rfl:args=#[v0]:=by cases args; simp_all
 obtain⟨rfl,rfl⟩:=trodVars_none hV
 have hr:Value.okWide Tryz.prog W .any base 54 v0:=hval 0 54 v0 rfl rfl
 simp only[Value.okWide,Tryz.underlying54]at hr
 obtain⟨cs,rfl,hs,ts,ht1,_,ht2⟩:=hr
 have e1:Tryz.prog.cellTypes Tryz.prog.depth 54=some [9,9,52,23,4]:=by kernel_rfl
 have e2:Tryz.prog.cellsOf 54=5:=by kernel_rfl
 rw[e1]at ht1
 obtain rfl:=Option.some.inj ht1
 rw[e2]at hs
 obtain⟨x0,x1,x2,x3,x4,rfl⟩:=five hs
 obtain⟨u0,s0,y0⟩:=ht2 0 x0 rfl
 obtain rfl:u0=9:=by simpa using s0.symm
 obtain⟨u1,s1,y1⟩:=ht2 1 x1 rfl
 obtain rfl:u1=9:=by simpa using s1.symm
 obtain⟨u2,s2,y2⟩:=ht2 2 x2 rfl
 obtain rfl:u2=52:=by simpa using s2.symm
 obtain⟨u3,s3,y3⟩:=ht2 3 x3 rfl
 obtain rfl:u3=23:=by simpa using s3.symm
 obtain⟨u4,s4,y4⟩:=ht2 4 x4 rfl
 obtain rfl:u4=4:=by simpa using s4.symm
 obtain⟨b4,rfl⟩:=cell4 y4
 refine (walk _ _ _ _ b4 (cell9 y0) (cell9 y1) (cell52 y2) (cell23 y3) W hL).mono fun e W' ⟨he,hg⟩=>?_
 subst he
 exact⟨_,rfl,law_post (tb:=4) (by kernel_rfl) (by kernel_rfl) (by kernel_rfl) (by kernel_rfl) rfl hW' rfl (by kernel_rfl) (by kernel_rfl) hg⟩
theorem over:Rows.TenantNoneSaid:=
 OpenClaim.holds_of_wide 4 Tryz.f4 rfl rfl rfl rfl rfl rfl rfl ⟨rfl,rfl,rfl,rfl,rfl⟩ rfl rfl rfl rfl rfl (by kernel_rfl) Tryz.func4 closed4
  (of_decide_eq_true (by kernel_rfl)) (by unfold Func.isWrapper; first | (rw[if_pos (by decide +kernel)]; kernel_rfl) | (rw[if_neg (by decide +kernel)]; exact⟨rfl,rfl⟩))
  (fun os started H enc _=>lifted os started H enc)
theorem proved:Rows.TenantNoneCardSaid:=
 Claim7.holds_tied_plain_at .later [] [.data,.data,.data,.data,.pinned] true Rows.tenantNoneCard.stood.harness true
  over (fun _ h=>by cases h) (by kernel_rfl) (fun _ h=>by cases h) tenantNone_row_tie rfl ⟨rfl,rfl⟩ (by kernel_rfl) rfl
  (fun f fn hf hfn=>by
   obtain rfl:f=4:=(Option.some.inj (Eq.trans (by kernel_rfl:some 4=_) hf)).symm
   obtain rfl:fn=Tryz.f4:=(Option.some.inj (Tryz.func4.symm.trans hfn)).symm
   exact⟨by kernel_rfl,fun j t ht=>by
    rw[Tryz.params4]at ht
    have h3:t=54:=by
     rcases j with _ | j
     ·simpa using ht.symm
     ·simp at ht
    subst h3
    exact (show Tryz.prog.wantsStandIn 54=false by kernel_rfl)⟩)
  (by kernel_rfl)
#print axioms proved
end Go.Proofs.YtopaelfdloklaaaGreatDoor.tenantNone
