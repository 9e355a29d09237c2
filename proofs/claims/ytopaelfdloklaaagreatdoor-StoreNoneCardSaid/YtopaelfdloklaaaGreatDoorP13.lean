/- Part of a proof (L1 StC); no condition. -/
import Derived.WalkKit
import Derived.Below
import Derived.ChangeSame
import Derived.ReadAgain
import Derived.OpenShut
import Derived.ProofKit
import Derived.Test.YtopaelfdloklaaaGreatDoorCards
import Derived.JoinedOf
import Derived.KernelRfl
import Derived.Test.YtopaelfdloklaaaGreatDoorP11
set_option linter.unusedSimpArgs false
set_option linter.unusedVariables false
set_option linter.unnecessarySimpa false
namespace Go.Abs
open Go.ChangeShapes Go.WideShapes Go.ChangeAt Go.RowKit
section
variable {H:Type} {enc:TypeId×Value→H} {P:Program}
theorem trodAll_below{W W':World}{base:Nat}{sp:Nat→Bool}{held:Bool}(hb:Below W.heap.size W W'):∀{ts:List TypeId} {vs:List Value} {ds:List (DataW H)} {ps:List MemPlace},
  DataW.TrodAll enc P W base sp held ts vs ds ps→DataW.TrodAll enc P W' base sp held ts vs ds ps
 | [],[],[],_,h=>h
 | _::_,_::_,_::_,_,⟨p,q,⟨n,h1⟩,h2,e⟩=>by
  refine⟨p,q,⟨n,DataW.trod_carry n _ _ _ h1 fun x hx=>hb.same (DataW.trod_lt n _ _ _ h1 x hx)⟩,trodAll_below hb h2,e⟩
theorem trodVars_below{W W':World}{sp:Nat→Bool}{gs:List (DataW H)}{q:List MemPlace}(h:DataW.TrodVars enc P W sp [] gs q):DataW.TrodVars enc P W' sp [] gs q:=by
 obtain⟨rfl,rfl⟩:=trodVars_none h
 exact h
theorem law_post{f:Func}{s:ChangeSpec}{apart:Bool}{W W':World}{args:Array Value}{ds gs:List (DataW H)}{before:List MemPlace}{tb:TypeId}
  (hl:laidOutB P=true) (hm:mapsRowed P=true)
  (hz:((List.range P.types.size).all fun t=>match P.underlying t with | some (.slice e)=>decide (0<P.cellsOf e) | _=>true)=true)
  (hts:(f.params.toList.all fun t=>decide (t<P.types.size))=true) (hv:s.vars=[])
  (hW:DataW.Whole enc P f.params.toList s.vars apart W args.toList ds gs before)
  (hfn:s.fn H (ds++gs)={ results:=[.lit (.bool true)],args:=ds }) (hr:f.resultTypes=#[tb]) (ht:P.underlying tb=some .bool) (hb:Below W.heap.size W W') :
  s.post enc P f apart true false false W args (.bool true) W':=by
 have hlt:∀p∈before,p.block<W.heap.size:=fun p hp=>hW.lt p hp
 have hW0:=hW
 obtain⟨p,q,hA,hV,rfl,hfz,hnd⟩:=hW
 rw[hv]at hV
 obtain⟨rfl,rfl⟩:=trodVars_none hV
 have hT:∀t∈f.params.toList,t<P.types.size:=fun t ht=>by simpa using List.all_eq_true.1 hts t ht
 refine⟨ds,[],p++[],[],p,[],hW0,?_,?_,?_,World.keptBut_mono (fun x hx=>⟨hx,by simpa using hx⟩) (hb.frame (·∈p++[])),fun h=>by simp at h⟩
 ·rw[hfn,hr]
  exact trodAll_cons_mk (shut_bool ht _) trodAll_mk0
 ·rw[hfn]
  refine trodAll_below hb (DataW.TrodAll.respare (kids_rows hl hm) (slices_full_of P hz) hT hA fun x hx=>?_)
  simpa using hlt x (by simpa using hx)
 ·rw[hfn,hv]
  exact trodVars_below (W:=W) hV
end
end Go.Abs
namespace Go.Proofs.YtopaelfdloklaaaGreatDoor
open Go.Abs Go.Abs.S
theorem closed3_1:(Rows.storeNoneRow.wf (OpenSpec.ofChange Rows.storeNoneSpec))=true:=by kernel_rfl
theorem closed3_2:(laidOutB Tryz.pinned.checked.prog)=true:=by kernel_rfl
theorem closed3_3:(mapsRowed Tryz.pinned.checked.prog)=true:=by kernel_rfl
theorem closed3_4:(Tryz.f3.params.all (Tryz.pinned.checked.prog.readableRec ·))=true:=by kernel_rfl
theorem closed3_5:(namedTie Tryz.pinned.checked.prog Rows.storeNoneRow.named Rows.storeNoneSpec.vars)=true:=by kernel_rfl
theorem closed3_6:((Rows.storeNoneRow.stops==[]))=true:=by kernel_rfl
theorem closed3_7:((Tryz.pinned.checked.prog.stops==[]))=true:=by kernel_rfl
theorem closed3_8:((Rows.storeNoneRow.knobs==[]))=true:=by kernel_rfl
theorem closed3_9:((Tryz.pinned.checked.prog.stopKnobs==[]))=true:=by kernel_rfl
theorem closed3_10:((Rows.storeNoneRow.inPlace==Tryz.pinned.checked.prog.inPlace 3))=true:=by kernel_rfl
theorem closed3_11:((Rows.storeNoneRow.unfollowed==Tryz.pinned.checked.prog.unfollowed 3))=true:=by kernel_rfl
theorem closed3_12:((Rows.storeNoneRow.recurses==Tryz.pinned.checked.prog.recurses 3))=true:=by kernel_rfl
theorem closed3_13:((Rows.storeNoneRow.named==Tryz.pinned.checked.prog.varsNamed 3))=true:=by kernel_rfl
theorem closed3_14:((Rows.storeNoneRow.maps==(Tryz.f3.params.toList++Rows.storeNoneSpec.plain.varTypes Tryz.pinned.checked.prog).any (Tryz.pinned.checked.prog.mapsRec ·)))=true:=by kernel_rfl
theorem closed3_15:((Rows.storeNoneRow.ifaces==(Tryz.f3.params.toList++Rows.storeNoneSpec.plain.varTypes Tryz.pinned.checked.prog).any (Tryz.pinned.checked.prog.ifacesRec ·)))=true:=by kernel_rfl
theorem closed3_16:((Rows.storeNoneRow.mapsOut==Tryz.pinned.checked.prog.mapsAmong Tryz.f3.resultTypes.toList))=true:=by kernel_rfl
theorem closed3_17:((Rows.storeNoneRow.loops==(Tryz.f3.params.toList++Rows.storeNoneSpec.plain.varTypes Tryz.pinned.checked.prog).any (Tryz.pinned.checked.prog.loopsFrom ·)))=true:=by kernel_rfl
theorem closed3_18:((Rows.storeNoneRow.wideKeys==(Tryz.f3.params.toList++Rows.storeNoneSpec.plain.varTypes Tryz.pinned.checked.prog++Tryz.f3.resultTypes.toList).any (Tryz.pinned.checked.prog.wideKeysFrom ·)))=true:=by kernel_rfl
theorem closed3_19:(Rows.storeNoneSpec.vars.all (Tryz.pinned.checked.prog.varReadable ·))=true:=by kernel_rfl
theorem closed3_20:(Tryz.f3.resultTypes.all (fun t=>Tryz.pinned.checked.prog.readableRec t&&decide (t<Tryz.pinned.checked.prog.types.size)))=true:=by kernel_rfl
theorem closed3_21:((Rows.storeNoneRow.ifacesOut==Tryz.f3.resultTypes.toList.any (Tryz.pinned.checked.prog.ifacesRec ·)))=true:=by kernel_rfl
theorem closed3_22:((Rows.storeNoneRow.loopsOut==Tryz.f3.resultTypes.toList.any (Tryz.pinned.checked.prog.loopsFrom ·)))=true:=by kernel_rfl
theorem closed3_23:((Rows.storeNoneRow.plainKeys==Tryz.pinned.checked.prog.plainKeys))=true:=by kernel_rfl
theorem closed3_24:(Rows.storeNoneRow.shortTexts.isNone)=true:=by kernel_rfl
theorem closed3_25:(Tryz.pinned.checked.prog.stopsHeard)=true:=by kernel_rfl
theorem closed3_26:(Tryz.pinned.checked.prog.mayEnter)=true:=by kernel_rfl
theorem closed3_27:((Rows.storeNoneRow.lifted==Tryz.pinned.checked.prog.liftsFinal))=true:=by kernel_rfl
theorem closed3_28:((Tryz.pinned.checked.prog.make==some Rows.storeNoneRow.make))=true:=by kernel_rfl
theorem closed3_29:((Rows.storeNoneRow.kinds==(if Rows.storeNoneRow.domain.isEmpty then [] else Tryz.f3.params.toList.map fun t=>match Tryz.pinned.checked.prog.underlying t with | some (.int k)=>some k | _=>none)))=true:=by kernel_rfl
theorem closed3_30:((Rows.storeNoneRow.pinned==Rows.storeNoneRow.pinnedBy))=true:=by kernel_rfl
theorem closed3_31:((Rows.storeNoneRow.veiled==(Tryz.f3.params.toList++Rows.storeNoneSpec.plain.varTypes Tryz.pinned.checked.prog++Tryz.f3.resultTypes.toList).any (Tryz.pinned.checked.prog.veiledRec ·)))=true:=by kernel_rfl
theorem closed3_32:(Rows.storeNoneRow.veiledFits Tryz.pinned.checked.prog Tryz.f3.params.toList (Tryz.f3.params.toList++Rows.storeNoneSpec.plain.varTypes Tryz.pinned.checked.prog++Tryz.f3.resultTypes.toList))=true:=by kernel_rfl
theorem andT{a b:Bool}(h:a=true)(k:b=true):(a&&b)=true:=by rw[h,k]; rfl
set_option maxRecDepth 100000 in
theorem closed3:joinedFacts Tryz.pinned.checked.prog 3 Tryz.f3 Rows.storeNoneSpec Rows.storeNoneRow=true:=by
 unfold joinedFacts
 exact (andT (andT (andT (andT (andT (andT (andT (andT (andT (andT (andT (andT (andT (andT (andT (andT (andT (andT (andT (andT (andT (andT (andT (andT (andT (andT (andT (andT (andT (andT (andT closed3_1 closed3_2) closed3_3) closed3_4) closed3_5) closed3_6) closed3_7) closed3_8) closed3_9) closed3_10) closed3_11) closed3_12) closed3_13) closed3_14) closed3_15) closed3_16) closed3_17) closed3_18) closed3_19) closed3_20) closed3_21) closed3_22) closed3_23) closed3_24) closed3_25) closed3_26) closed3_27) closed3_28) closed3_29) closed3_30) closed3_31) closed3_32)
end Go.Proofs.YtopaelfdloklaaaGreatDoor
