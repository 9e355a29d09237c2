/- Part of a proof (YNat L1 YDoor); no condition. -/
import Derived.WalkKit
import Derived.Below
import Derived.ChangeSame
import Derived.ReadAgain
import Derived.OpenShut
import Derived.ProofKit
import Derived.Test.YteabnpheoiakdaaGreatDoorRows
import Derived.LaidLaws
import Derived.LaidHandle
import Derived.Lay
import Derived.Test.YteabnpheoiakdaaGreatDoorP8
import Derived.Test.YteabnpheoiakdaaGreatDoorP18
import Derived.Test.YteabnpheoiakdaaGreatDoorP22
set_option linter.unusedSimpArgs false
set_option linter.unusedVariables false
set_option linter.unnecessarySimpa false
namespace Go.Proofs.Wo
open Go Go.Abs Go.Abs.S
open Go.Abs.F (fcall f_closed h0 yesT)
open Go.Abs.TAwk18 (tab tab_ok)
set_option maxRecDepth 1000000 in
theorem run18:fcall tab 3000 19 [] h0 yesT=.yes:=by kernel_rfl
theorem awake18_run(w:World):Calls Tryz.prog 19 #[] w fun e w'=>e=.returned (.bool true)∧RowKit.Below w.heap.size w w':=
 f_closed (by kernel_rfl) nat0_ok tab_ok (args:=[]) (fun ρ=>by simp[VRels]) run18 w
theorem hb153:hasBody Tryz.prog 153=true:=by kernel_rfl
theorem hb19:hasBody Tryz.prog 19=true:=by kernel_rfl
theorem nat_ok:NatOK Tryz.prog nat:=by
 refine⟨fun f h=>?_,fun f args H v H' u hr Prot w0 ρ w vs R hv=>?_⟩
 ·have h':(Nat.beq f 153||Nat.beq f 19)=true:=h
  rw[Bool.or_eq_true]at h'
  rcases h' with h | h
  ·obtain rfl:f=153:=Nat.eq_of_beq_eq_true h
   exact hb153
  ·obtain rfl:f=19:=Nat.eq_of_beq_eq_true h
   exact hb19
 ·have hr2:(bif Nat.beq f 153 then aClone H args else bif Nat.beq f 19 then aTrue H args else none)=some (v,H'):=hr
  cases hb:Nat.beq f 153 with
  | true=>
   obtain rfl:f=153:=Nat.eq_of_beq_eq_true hb
   rw[hb,cond_true]at hr2
   exact nat0_ok.run 153 args H v H' u hr2 Prot w0 ρ w vs R hv
  | false=>
   rw[hb,cond_false]at hr2
   cases hb2:Nat.beq f 19 with
   | false=>rw[hb2]at hr2; simp at hr2
   | true=>
    obtain rfl:f=19:=Nat.eq_of_beq_eq_true hb2
    rw[hb2,cond_true]at hr2
    unfold aTrue at hr2
    split at hr2 <;> first | (simp at hr2; done) | skip
    simp only[sJ,pJ]at hr2
    obtain⟨rfl,rfl⟩:=hr2
    simp only[VRels]at hv
    obtain rfl:vs=#[]:=Array.toList_inj.1 (by simpa using hv)
    exact (awake18_run w).mono fun e w' ⟨he,hk⟩=>⟨ρ,_,Pl.le_refl _,he,R.keep hk,by simp only[VRel]⟩
theorem natT_ok:NatOK Tryz.prog natT:=natM_ok nat_ok mdT
end Go.Proofs.Wo
namespace Go.Abs
open Go.ChangeShapes Go.WideShapes Go.ChangeAt Go.RowKit
section
variable {H:Type} {enc:TypeId×Value→H} {P:Program}
theorem trodAll_below{W W':World}{base:Nat}{sp:Nat→Bool}{held:Bool}(hb:Below W.heap.size W W'):∀{ts:List TypeId} {vs:List Value} {ds:List (DataW H)} {ps:List MemPlace},
  DataW.TrodAll enc P W base sp held ts vs ds ps→DataW.TrodAll enc P W' base sp held ts vs ds ps
 | [],[],[],_,h=>h
 | _::_,_::_,_::_,_,⟨p,q,⟨n,h1⟩,h2,e⟩=>by
  refine⟨p,q,⟨n,DataW.trod_carry n _ _ _ h1 fun x hx=>hb.same (DataW.trod_lt n _ _ _ h1 x hx)⟩,trodAll_below hb h2,e⟩
theorem trodVars_below{W W':World}{sp:Nat→Bool}{gs:List (DataW H)}{q:List MemPlace}(h:DataW.TrodVars enc P W sp [] gs q):DataW.TrodVars enc P W' sp [] gs q:=by
 obtain⟨rfl,rfl⟩:=trodVars_none h
 exact h
theorem law_post{f:Func}{s:ChangeSpec}{apart:Bool}{W W':World}{args:Array Value}{ds gs:List (DataW H)}{before:List MemPlace}{tb:TypeId}
  (hl:laidOutB P=true) (hm:mapsRowed P=true)
  (hz:((List.range P.types.size).all fun t=>match P.underlying t with | some (.slice e)=>decide (0<P.cellsOf e) | _=>true)=true)
  (hts:(f.params.toList.all fun t=>decide (t<P.types.size))=true) (hv:s.vars=[])
  (hW:DataW.Whole enc P f.params.toList s.vars apart W args.toList ds gs before)
  (hfn:s.fn H (ds++gs)={ results:=[.lit (.bool true)],args:=ds }) (hr:f.resultTypes=#[tb]) (ht:P.underlying tb=some .bool) (hb:Below W.heap.size W W') :
  s.post enc P f apart true false false W args (.bool true) W':=by
 have hlt:∀p∈before,p.block<W.heap.size:=fun p hp=>hW.lt p hp
 have hW0:=hW
 obtain⟨p,q,hA,hV,rfl,hfz,hnd⟩:=hW
 rw[hv]at hV
 obtain⟨rfl,rfl⟩:=trodVars_none hV
 have hT:∀t∈f.params.toList,t<P.types.size:=fun t ht=>by simpa using List.all_eq_true.1 hts t ht
 refine⟨ds,[],p++[],[],p,[],hW0,?_,?_,?_,World.keptBut_mono (fun x hx=>⟨hx,by simpa using hx⟩) (hb.frame (·∈p++[])),fun h=>by simp at h⟩
 ·rw[hfn,hr]
  exact trodAll_cons_mk (shut_bool ht _) trodAll_mk0
 ·rw[hfn]
  refine trodAll_below hb (DataW.TrodAll.respare (kids_rows hl hm) (slices_full_of P hz) hT hA fun x hx=>?_)
  simpa using hlt x (by simpa using hx)
 ·rw[hfn,hv]
  exact trodVars_below (W:=W) hV
end
end Go.Abs
namespace Go.Proofs.YteabnpheoiakdaaGreatDoor
open Go.ChangeShapes Go.WideShapes Go.RowKit
open Go.Abs Go.Abs.S Go.Proofs.Wo
theorem own:ownKnob Tryz.prog.godebug=none:=by kernel_rfl
theorem ints_of_trod{H:Type}{enc:TypeId×Value→H}{P:Program}{w:World}{base:Nat}{spare:Nat→Bool}{held:Bool}{fuel n:Nat}{t e:TypeId}{k:IntKind}{cs:List Value}{p:List MemPlace}{l:List Int}
  (ht:P.underlying t=some (.array n e)) (he:P.underlying e=some (.int k)) (hc:P.cellsOf e=1) (hct:P.cellsOf t=n)
  (h:DataW.trod enc P w base spare held fuel t cs=some (.agg (l.map fun x=>.lit (.int k x)),p)):cs=l.map (.int k):=by
 obtain⟨xs,m,_,hx,hl,hn,hi⟩:=DataW.trod_array ht h
 simp only[pJ,DataW.agg.injEq]at hx
 have hll:l.length=n:=by
  have:=congrArg List.length hx.1
  simp at this; omega
 apply List.ext_getElem?
 intro i
 by_cases hlt:i<n
 ·have h1:=hi i hlt
  rw[hc,Nat.mul_one]at h1
  have hxi:∃x,xs[i]?=some x:=⟨xs[i]'om,List.getElem?_eq_getElem _⟩
  obtain⟨x,hxi⟩:=hxi
  rw[hxi]at h1
  obtain⟨y,hy,hyx,_⟩:=DataW.trod_int he h1
  have hli:l[i]?=some (l[i]'om):=List.getElem?_eq_getElem _
  have h2:=congrArg (·[i]?) hx.1
  simp only[List.getElem?_map,hxi,hli,Option.map_some,sJ,hyx]at h2
  simp only[DataW.lit.injEq,Lit.int.injEq,true_and]at h2
  have h3:cs[i]?=some (.int k y):=by
   have:=congrArg (·[0]?) hy
   simpa[List.getElem?_take,List.getElem?_drop] using this
  rw[h3,List.getElem?_map,hli,← h2]
  rfl
 ·rw[List.getElem?_eq_none om,List.getElem?_eq_none (by simp; omega)]
theorem var_row{P:Program}{w:World}{n:String}{g:Nat}{cs:Array Value}(hg:P.globalNamed n=some g)(h:w.var? P n=some cs):∃e fz,w.heap[g]?=some (.cells cs e fz):=by
 simp only[World.var?,hg,Option.bind_some]at h
 split at h
 ·rename_i C e fz hC
  simp only[sJ]at h
  subst h
  exact⟨_,_,hC⟩
 ·simp at h
abbrev laidL:List (String×DataW Unit):=Rows.codeTellsRow.laid
theorem glo_of_laid{W:World}(h:laidMetH Tryz.prog laidL W):Glo (heapW W) 1 powL∧1<(heapW W).next:=by
 have h':laidMet Tryz.prog laidL W:=h
 obtain⟨ps,hl,_,_⟩:=h'
 obtain⟨_,_,_,_,_,_,_,_,_,_,hl,_⟩:=hl
 obtain⟨_,_,_,_,_,_,_,_,_,_,hl,_⟩:=hl
 obtain⟨g,t,cs,f,p,q,hg,ht,hv,htr,_,_⟩:=hl
 have e1:some 1=some g:=Eq.trans (by kernel_rfl) hg
 simp only[sJ]at e1
 subst e1
 have e2:some 226=some t:=Eq.trans (by kernel_rfl) ht
 simp only[sJ]at e2
 subst e2
 have hcs:=ints_of_trod (l:=(List.range 20).map fun i=>((10 ^ i:Nat):Int)) Tryz.underlying226 (k:=.u64) Tryz.underlying152 (by kernel_rfl) (by kernel_rfl) htr
 obtain⟨e,fz,hrow⟩:=var_row hg hv
 refine⟨?_,(Array.getElem?_eq_some_iff.1 hrow).1⟩
 unfold Glo
 rw[heapW_get]
 unfold objW
 simp only[hrow,hcs]
 rfl
end Go.Proofs.YteabnpheoiakdaaGreatDoor
