/- Part of a proof (L1 L2 G1 TnC); no condition. -/
import Derived.WalkKit
import Derived.Below
import Derived.ChangeSame
import Derived.ReadAgain
import Derived.OpenShut
import Derived.ProofKit
import Derived.LaidLaws
import Derived.LaidHandle
import Derived.Lay
import Derived.Test.YtopaelfdloklaaaGreatDoorCards
import Derived.JoinedOf
import Derived.KernelRfl
import Derived.Test.YtopaelfdloklaaaGreatDoorP8
import Derived.Test.YtopaelfdloklaaaGreatDoorP11
import Derived.Test.YtopaelfdloklaaaGreatDoorP12
set_option linter.unusedSimpArgs false
set_option linter.unusedVariables false
set_option linter.unnecessarySimpa false
namespace Go.Abs
open Go.ChangeShapes Go.WideShapes Go.ChangeAt Go.RowKit
section
variable {H:Type} {enc:TypeId×Value→H} {P:Program}
theorem trodAll_below{W W':World}{base:Nat}{sp:Nat→Bool}{held:Bool}(hb:Below W.heap.size W W'):∀{ts:List TypeId} {vs:List Value} {ds:List (DataW H)} {ps:List MemPlace},
  DataW.TrodAll enc P W base sp held ts vs ds ps→DataW.TrodAll enc P W' base sp held ts vs ds ps
 | [],[],[],_,h=>h
 | _::_,_::_,_::_,_,⟨p,q,⟨n,h1⟩,h2,e⟩=>by
  refine⟨p,q,⟨n,DataW.trod_carry n _ _ _ h1 fun x hx=>hb.same (DataW.trod_lt n _ _ _ h1 x hx)⟩,trodAll_below hb h2,e⟩
theorem trodVars_below{W W':World}{sp:Nat→Bool}{gs:List (DataW H)}{q:List MemPlace}(h:DataW.TrodVars enc P W sp [] gs q):DataW.TrodVars enc P W' sp [] gs q:=by
 obtain⟨rfl,rfl⟩:=trodVars_none h
 exact h
theorem law_post{f:Func}{s:ChangeSpec}{apart:Bool}{W W':World}{args:Array Value}{ds gs:List (DataW H)}{before:List MemPlace}{tb:TypeId}
  (hl:laidOutB P=true) (hm:mapsRowed P=true)
  (hz:((List.range P.types.size).all fun t=>match P.underlying t with | some (.slice e)=>decide (0<P.cellsOf e) | _=>true)=true)
  (hts:(f.params.toList.all fun t=>decide (t<P.types.size))=true) (hv:s.vars=[])
  (hW:DataW.Whole enc P f.params.toList s.vars apart W args.toList ds gs before)
  (hfn:s.fn H (ds++gs)={ results:=[.lit (.bool true)],args:=ds }) (hr:f.resultTypes=#[tb]) (ht:P.underlying tb=some .bool) (hb:Below W.heap.size W W') :
  s.post enc P f apart true false false W args (.bool true) W':=by
 have hlt:∀p∈before,p.block<W.heap.size:=fun p hp=>hW.lt p hp
 have hW0:=hW
 obtain⟨p,q,hA,hV,rfl,hfz,hnd⟩:=hW
 rw[hv]at hV
 obtain⟨rfl,rfl⟩:=trodVars_none hV
 have hT:∀t∈f.params.toList,t<P.types.size:=fun t ht=>by simpa using List.all_eq_true.1 hts t ht
 refine⟨ds,[],p++[],[],p,[],hW0,?_,?_,?_,World.keptBut_mono (fun x hx=>⟨hx,by simpa using hx⟩) (hb.frame (·∈p++[])),fun h=>by simp at h⟩
 ·rw[hfn,hr]
  exact trodAll_cons_mk (shut_bool ht _) trodAll_mk0
 ·rw[hfn]
  refine trodAll_below hb (DataW.TrodAll.respare (kids_rows hl hm) (slices_full_of P hz) hT hA fun x hx=>?_)
  simpa using hlt x (by simpa using hx)
 ·rw[hfn,hv]
  exact trodVars_below (W:=W) hV
end
end Go.Abs
namespace Go.Abs
open Go.ChangeShapes Go.WideShapes Go.RowKit
theorem ints_of_trod{H:Type}{enc:TypeId×Value→H}{P:Program}{w:World}{base:Nat}{spare:Nat→Bool}{held:Bool}{fuel n:Nat}{t e:TypeId}{k:IntKind}{cs:List Value}{p:List MemPlace}{l:List Int}
  (ht:P.underlying t=some (.array n e)) (he:P.underlying e=some (.int k)) (hc:P.cellsOf e=1) (hct:P.cellsOf t=n)
  (h:DataW.trod enc P w base spare held fuel t cs=some (.agg (l.map fun x=>.lit (.int k x)),p)):cs=l.map (.int k):=by
 obtain⟨xs,m,_,hx,hl,hn,hi⟩:=DataW.trod_array ht h
 simp only[pJ,DataW.agg.injEq]at hx
 have hll:l.length=n:=by
  have:=congrArg List.length hx.1
  simp at this; omega
 apply List.ext_getElem?
 intro i
 by_cases hlt:i<n
 ·have h1:=hi i hlt
  rw[hc,Nat.mul_one]at h1
  have hxi:∃x,xs[i]?=some x:=⟨xs[i]'om,List.getElem?_eq_getElem _⟩
  obtain⟨x,hxi⟩:=hxi
  rw[hxi]at h1
  obtain⟨y,hy,hyx,_⟩:=DataW.trod_int he h1
  have hli:l[i]?=some (l[i]'om):=List.getElem?_eq_getElem _
  have h2:=congrArg (·[i]?) hx.1
  simp only[List.getElem?_map,hxi,hli,Option.map_some,sJ,hyx]at h2
  simp only[DataW.lit.injEq,Lit.int.injEq,true_and]at h2
  have h3:cs[i]?=some (.int k y):=by
   have:=congrArg (·[0]?) hy
   simpa[List.getElem?_take,List.getElem?_drop] using this
  rw[h3,List.getElem?_map,hli,← h2]
  rfl
 ·rw[List.getElem?_eq_none om,List.getElem?_eq_none (by simp; omega)]
theorem var_row{P:Program}{w:World}{n:String}{g:Nat}{cs:Array Value}(hg:P.globalNamed n=some g)(h:w.var? P n=some cs):∃e fz,w.heap[g]?=some (.cells cs e fz):=by
 simp only[World.var?,hg,Option.bind_some]at h
 split at h
 ·rename_i C e fz hC
  simp only[sJ]at h
  subst h
  exact⟨_,_,hC⟩
 ·simp at h
theorem ints_vrels(k:IntKind):∀(l:List Int) (ρ:Pl),VRels ρ (l.map (.int k)) (l.map (Value.int k))
 | [],ρ=>by simp[VRels]
 | x::l,ρ=>by simp only[List.map_cons,VRels]; exact⟨_,_,rfl,by simp only[VRel],ints_vrels k l ρ⟩
theorem ints_vrels_of{k:IntKind}{cs:Array Value}{l:List Int}(h:cs.toList=l.map (Value.int k))(ρ:Pl):VRels ρ (l.map (.int k)) cs.toList:=by
 rw[h]; exact ints_vrels k l ρ
end Go.Abs
namespace Go.Abs
section
variable {P:Program}
def gTr:List (Nat×List AVal)→Tr AObj
 | []=>.e
 | (g,xs)::r=>(gTr r).set g (.cells xs 0 true)
def gHeap(n:Nat)(l:List (Nat×List AVal)):AHeap:=⟨n,gTr l⟩
structure GHolds(W:World)(n:Nat)(l:List (Nat×List AVal)):Prop where
 size:n≤W.heap.size
 rows:∀p∈l,p.1<n∧∃C e fz,W.heap[p.1]?=some (.cells C e fz)∧∀ρ,VRels ρ p.2 C.toList
theorem gTr_get:∀(l:List (Nat×List AVal)) (b:Nat) (o:AObj),(gTr l).get b=some o→∃xs,(b,xs)∈l∧o=.cells xs 0 true
 | [],b,o,h=>by cases b <;> simp[gTr,Tr.get]at h
 | (g,xs)::r,b,o,h=>by
  simp only[gTr,Tr.get_set]at h
  split at h
  ·rename_i e
   simp only[sJ]at h
   exact⟨xs,by rw[e]; simp,h.symm⟩
  ·obtain⟨ys,h1,h2⟩:=gTr_get r b o h
   exact⟨ys,by simp[h1],h2⟩
def gPl(H:AHeap):Pl:=fun b l=>match H.get b with
 | some (.cells xs _ true)=>if l=xs.length then some ⟨b,0,xs.length,false⟩ else none
 | _=>none
theorem gPl_inv{H:AHeap}{b l:Nat}{L:Loc}(h:gPl H b l=some L):∃xs low,H.get b=some (.cells xs low true)∧l=xs.length∧L=⟨b,0,xs.length,false⟩:=by
 unfold gPl at h
 split at h
 ·rename_i xs low hg
  split at h
  ·rename_i e
   simp only[sJ]at h
   exact⟨xs,low,hg,e,h.symm⟩
  ·simp at h
 ·simp at h
theorem rel_gstart{W:World}{n:Nat}{l:List (Nat×List AVal)}(hG:GHolds W n l):Rel ⟨fun c=>c<W.heap.size,fun _=>False⟩ W (gPl (gHeap n l)) (gHeap n l) W:=by
 have hget:∀b o,(gHeap n l).get b=some o→∃xs,(b,xs)∈l∧o=.cells xs 0 true:=fun b o h=>gTr_get l b o h
 have hrow:∀b xs low ro,(gHeap n l).get b=some (.cells xs low ro)→low=0∧ro=true∧b<n∧∃C e fz,W.heap[b]?=some (.cells C e fz)∧∀ρ,VRels ρ xs C.toList:=by
  intro b xs low ro h
  obtain⟨ys,h1,h2⟩:=hget b _ h
  simp only[AObj.cells.injEq]at h2
  obtain⟨rfl,rfl,rfl,_⟩:=h2
  obtain⟨h3,h4⟩:=hG.rows _ h1
  exact⟨rfl,rfl,h3,h4⟩
 have hrw:∀b x,(gHeap n l).get b=some x→x.rw=false:=by
  intro b x h
  obtain⟨ys,_,rfl⟩:=hget b x h
  rfl
 refine⟨rfl,rfl,rfl,Nat.le_refl _,fun _ hc=>⟨hc,rfl⟩,fun b l' L h=>?_,fun b l' L h=>?_,fun b l' L x _ hx hr=>?_,fun b l' L b' l'' L' x _ _ _ hx hr=>?_,fun _ h=>h.elim,fun b l' low h=>?_⟩
 ·obtain⟨xs,low,h1,rfl,rfl⟩:=gPl_inv h
  obtain⟨_,_,h2,_⟩:=hrow _ _ _ _ h1
  exact⟨h2,Nat.lt_of_lt_of_le h2 hG.size⟩
 ·obtain⟨xs,low,h1,rfl,rfl⟩:=gPl_inv h
  obtain⟨rfl,_,_,C,e,⟨lo,hi⟩,h3,h4⟩:=hrow _ _ _ _ h1
  have hl:=(h4 (gPl (gHeap n l))).len
  simp only[Array.length_toList]at hl
  refine⟨_,_,h1,h3,?_⟩
  simp only[ORel]
  refine⟨C,e,lo,hi,rfl,hl.symm,fun h=>by simp at h,Nat.le_refl _,fun _ i _ hi=>?_⟩
  have hx:xs[i]?=some (xs[i]'hi):=List.getElem?_eq_getElem hi
  obtain⟨v,q1,q2⟩:=(h4 (gPl (gHeap n l))).nth _ _ hx
  rw[Array.getElem?_toList]at q1
  exact⟨_,v,hx,by simpa using q1,q2⟩
 ·rw[hrw _ _ hx]at hr; simp at hr
 ·rw[hrw _ _ hx]at hr; simp at hr
 ·obtain⟨rfl,_,_,_⟩:=hrow _ _ _ _ h
  refine⟨⟨b,0,l'.length,false⟩,?_,rfl,rfl,rfl⟩
  unfold gPl
  rw[h]
  simp
theorem gclosed_bool(hfol:P.follows .mixedOrders=true){N:ANat}(hN:NatOK P N){tab:Tr AFn}(hT:TabOK P tab){n m:Nat}{l:List (Nat×List AVal)}{f:FuncId}{args:List AVal}{vs:Array Value}(hv:∀ρ,VRels ρ args vs.toList){b:Bool}
  (h:(match acall N tab n f args (gHeap m l) with | some (.bool b',_)=>b'==b | _=>false)=true) {W:World} (hG:GHolds W m l) (hfb:Nat.blt f BIG=true:=by rfl) :
  Calls P f vs W fun e w'=>e=.returned (.bool b)∧RowKit.Below W.heap.size W w':=by
 split at h
 ·rename_i b' H' hr
  refine (acall_ok hfol hN hT n _ _ _ _ _ hfb hr _ W _ W vs (rel_gstart hG) (hv _)).mono fun e w' hx=>?_
  obtain⟨ρ',u,_,rfl,R,hu⟩:=hx
  simp only[VRel]at hu
  subst hu
  have:b'=b:=by simpa using h
  exact⟨by rw[this],R.below⟩
 ·simp at h
end
end Go.Abs
namespace Go.Abs.F
open Go.Abs
noncomputable section
theorem hr_empty(n:Nat)(hn:n≤32768):HRel ⟨n,e5⟩ (gHeap n []):=⟨rfl,hn,fun b hb=>by
 rw[fget_lt hb]
 have:(FHeap.mk n e5).tr=emp none 5:=rfl
 rw[this,emp_get]
 cases b <;> rfl⟩
def gOne(g:Nat)(xs:List AVal)(h:FHeap)(k:FHeap→R):R:=len1 xs (nat_lit 0) fun n=>csFit n (nat_lit 8) cs0 fun t=>stL xs t (nat_lit 0) fun t n=>hS h g (.cells t n (nat_lit 0) true) k
def gStart:List (Nat×List AVal)→FHeap→(FHeap→R)→R:=@List.rec (Nat×List AVal) (fun _=>FHeap→(FHeap→R)→R) (fun h k=>k h) (fun p _ ih h k=>ih h fun h=>@Prod.rec Nat (List AVal) (fun _=>R) (fun g xs=>gOne g xs h k) p)
theorem gOne_way{h:FHeap}{n:Nat}{l:List (Nat×List AVal)}(Q:HRel h (gHeap n l))(g:Nat)(xs:List AVal):(∀k,gOne g xs h k=.no)∨∃h',(∀k,gOne g xs h k=k h')∧HRel h' (gHeap n ((g,xs)::l)):=by
 have hu:∀k,gOne g xs h k=csFit xs.length 8 cs0 fun t=>stL xs t 0 fun t n=>hS h g (.cells t n 0 true) k:=fun k=>len1_eq _ _ _
 rcases csFit_way xs.length 8 cs0 with q | ⟨t0,q,_⟩
 ·exact .inl fun k=>(hu k).trans (q _)
 ·rcases stL_way xs t0 0 with s | ⟨t',s1,s2⟩
  ·exact .inl fun k=>(hu k).trans ((q _).trans (s _))
  ·rw[Nat.zero_add]at s1
   rcases hS_way Q g (.cells t' xs.length 0 true) (A:=.cells xs 0 true) (by simp only[FObj.abs,cellsOf_new s2]) with r | ⟨h',q1,q2⟩
   ·exact .inl fun k=>(hu k).trans ((q _).trans ((s1 _).trans (r _)))
   ·exact .inr ⟨h',fun k=>(hu k).trans ((q _).trans ((s1 _).trans (q1 _))),q2⟩
theorem gStart_way{h:FHeap}{n:Nat}(Q:HRel h (gHeap n [])):∀l:List (Nat×List AVal),(∀k,gStart l h k=.no)∨∃h',(∀k,gStart l h k=k h')∧HRel h' (gHeap n l)
 | []=>.inr ⟨h,fun _=>rfl,Q⟩
 | (g,xs)::r=>by
  have hu:∀k,gStart ((g,xs)::r) h k=gStart r h fun h=>gOne g xs h k:=fun k=>rfl
  rcases gStart_way Q r with q | ⟨h1,q1,q2⟩
  ·exact .inl fun k=>(hu k).trans (q _)
  ·rcases gOne_way q2 g xs with s | ⟨h2,s1,s2⟩
   ·exact .inl fun k=>(hu k).trans ((q1 _).trans (s _))
   ·exact .inr ⟨h2,fun k=>(hu k).trans ((q1 _).trans (s1 _)),s2⟩
theorem g_closed{P:Program}{N:ANat}(hfol:P.follows .mixedOrders=true)(hN:NatOK P N){tab:Tab}(hT:TabF P N tab){n m:Nat}{l:List (Nat×List AVal)}{f:FuncId}{args:List AVal}{vs:Array Value}(hv:∀ρ,VRels ρ args vs.toList)(hm:Nat.ble m 32768=true)
  (h:gStart l ⟨m,e5⟩ (fun h0=>fcall tab n f args h0 yesT)=.yes) {W:World} (hG:GHolds W m l) (hfb:Nat.blt f BIG=true:=by rfl):Calls P f vs W fun e w'=>e=.returned (.bool true)∧RowKit.Below W.heap.size W w':=by
 obtain⟨A,hA,hR⟩:=hT
 rcases gStart_way (hr_empty m (Nat.le_of_ble_eq_true hm)) l with q | ⟨h0,q0,Q⟩
 ·rw[q]at h; simp at h
 ·rw[q0]at h
  rcases fcall_ok hR n f args h0 _ Q with q | ⟨v,h',H',q1,q3,_,q4⟩
  ·rw[q]at h; simp at h
  ·rw[q4]at h
   refine gclosed_bool hfol hN hA (tab:=A) (n:=n) hv (b:=true) ?_ hG hfb
   rw[q3]
   cases v
   case bool c=>
    cases c with
    | true=>rfl
    | false=>exact absurd h (by simp[yesT,vBool,ifb])
   all_goals exact absurd h (by simp[yesT,vBool])
end
end Go.Abs.F
namespace Go.Proofs.YtopaelfdloklaaaGreatDoor
open Go.Abs Go.Abs.S
theorem closed4_1:(Rows.tenantNoneRow.wf (OpenSpec.ofChange Rows.tenantNoneSpec))=true:=by kernel_rfl
theorem closed4_2:(laidOutB Tryz.pinned.checked.prog)=true:=by kernel_rfl
theorem closed4_3:(mapsRowed Tryz.pinned.checked.prog)=true:=by kernel_rfl
theorem closed4_4:(Tryz.f4.params.all (Tryz.pinned.checked.prog.readableRec ·))=true:=by kernel_rfl
theorem closed4_5:(namedTie Tryz.pinned.checked.prog Rows.tenantNoneRow.named Rows.tenantNoneSpec.vars)=true:=by kernel_rfl
theorem closed4_6:((Rows.tenantNoneRow.stops==[]))=true:=by kernel_rfl
theorem closed4_7:((Tryz.pinned.checked.prog.stops==[]))=true:=by kernel_rfl
theorem closed4_8:((Rows.tenantNoneRow.knobs==[]))=true:=by kernel_rfl
theorem closed4_9:((Tryz.pinned.checked.prog.stopKnobs==[]))=true:=by kernel_rfl
theorem closed4_10:((Rows.tenantNoneRow.inPlace==Tryz.pinned.checked.prog.inPlace 4))=true:=by kernel_rfl
theorem closed4_11:((Rows.tenantNoneRow.unfollowed==Tryz.pinned.checked.prog.unfollowed 4))=true:=by kernel_rfl
theorem closed4_12:((Rows.tenantNoneRow.recurses==Tryz.pinned.checked.prog.recurses 4))=true:=by kernel_rfl
theorem closed4_13:((Rows.tenantNoneRow.named==Tryz.pinned.checked.prog.varsNamed 4))=true:=by kernel_rfl
theorem closed4_14:((Rows.tenantNoneRow.maps==(Tryz.f4.params.toList++Rows.tenantNoneSpec.plain.varTypes Tryz.pinned.checked.prog).any (Tryz.pinned.checked.prog.mapsRec ·)))=true:=by kernel_rfl
theorem closed4_15:((Rows.tenantNoneRow.ifaces==(Tryz.f4.params.toList++Rows.tenantNoneSpec.plain.varTypes Tryz.pinned.checked.prog).any (Tryz.pinned.checked.prog.ifacesRec ·)))=true:=by kernel_rfl
theorem closed4_16:((Rows.tenantNoneRow.mapsOut==Tryz.pinned.checked.prog.mapsAmong Tryz.f4.resultTypes.toList))=true:=by kernel_rfl
theorem closed4_17:((Rows.tenantNoneRow.loops==(Tryz.f4.params.toList++Rows.tenantNoneSpec.plain.varTypes Tryz.pinned.checked.prog).any (Tryz.pinned.checked.prog.loopsFrom ·)))=true:=by kernel_rfl
theorem closed4_18:((Rows.tenantNoneRow.wideKeys==(Tryz.f4.params.toList++Rows.tenantNoneSpec.plain.varTypes Tryz.pinned.checked.prog++Tryz.f4.resultTypes.toList).any (Tryz.pinned.checked.prog.wideKeysFrom ·)))=true:=by kernel_rfl
theorem closed4_19:(Rows.tenantNoneSpec.vars.all (Tryz.pinned.checked.prog.varReadable ·))=true:=by kernel_rfl
theorem closed4_20:(Tryz.f4.resultTypes.all (fun t=>Tryz.pinned.checked.prog.readableRec t&&decide (t<Tryz.pinned.checked.prog.types.size)))=true:=by kernel_rfl
theorem closed4_21:((Rows.tenantNoneRow.ifacesOut==Tryz.f4.resultTypes.toList.any (Tryz.pinned.checked.prog.ifacesRec ·)))=true:=by kernel_rfl
theorem closed4_22:((Rows.tenantNoneRow.loopsOut==Tryz.f4.resultTypes.toList.any (Tryz.pinned.checked.prog.loopsFrom ·)))=true:=by kernel_rfl
theorem closed4_23:((Rows.tenantNoneRow.plainKeys==Tryz.pinned.checked.prog.plainKeys))=true:=by kernel_rfl
theorem closed4_24:(Rows.tenantNoneRow.shortTexts.isNone)=true:=by kernel_rfl
theorem closed4_25:(Tryz.pinned.checked.prog.stopsHeard)=true:=by kernel_rfl
theorem closed4_26:(Tryz.pinned.checked.prog.mayEnter)=true:=by kernel_rfl
theorem closed4_27:((Rows.tenantNoneRow.lifted==Tryz.pinned.checked.prog.liftsFinal))=true:=by kernel_rfl
theorem closed4_28:((Tryz.pinned.checked.prog.make==some Rows.tenantNoneRow.make))=true:=by kernel_rfl
theorem closed4_29:((Rows.tenantNoneRow.kinds==(if Rows.tenantNoneRow.domain.isEmpty then [] else Tryz.f4.params.toList.map fun t=>match Tryz.pinned.checked.prog.underlying t with | some (.int k)=>some k | _=>none)))=true:=by kernel_rfl
theorem closed4_30:((Rows.tenantNoneRow.pinned==Rows.tenantNoneRow.pinnedBy))=true:=by kernel_rfl
theorem closed4_31:((Rows.tenantNoneRow.veiled==(Tryz.f4.params.toList++Rows.tenantNoneSpec.plain.varTypes Tryz.pinned.checked.prog++Tryz.f4.resultTypes.toList).any (Tryz.pinned.checked.prog.veiledRec ·)))=true:=by kernel_rfl
theorem closed4_32:(Rows.tenantNoneRow.veiledFits Tryz.pinned.checked.prog Tryz.f4.params.toList (Tryz.f4.params.toList++Rows.tenantNoneSpec.plain.varTypes Tryz.pinned.checked.prog++Tryz.f4.resultTypes.toList))=true:=by kernel_rfl
theorem andT4{a b:Bool}(h:a=true)(k:b=true):(a&&b)=true:=by rw[h,k]; rfl
set_option maxRecDepth 100000 in
theorem closed4:joinedFacts Tryz.pinned.checked.prog 4 Tryz.f4 Rows.tenantNoneSpec Rows.tenantNoneRow=true:=by
 unfold joinedFacts
 exact (andT4 (andT4 (andT4 (andT4 (andT4 (andT4 (andT4 (andT4 (andT4 (andT4 (andT4 (andT4 (andT4 (andT4 (andT4 (andT4 (andT4 (andT4 (andT4 (andT4 (andT4 (andT4 (andT4 (andT4 (andT4 (andT4 (andT4 (andT4 (andT4 (andT4 (andT4 closed4_1 closed4_2) closed4_3) closed4_4) closed4_5) closed4_6) closed4_7) closed4_8) closed4_9) closed4_10) closed4_11) closed4_12) closed4_13) closed4_14) closed4_15) closed4_16) closed4_17) closed4_18) closed4_19) closed4_20) closed4_21) closed4_22) closed4_23) closed4_24) closed4_25) closed4_26) closed4_27) closed4_28) closed4_29) closed4_30) closed4_31) closed4_32)
end Go.Proofs.YtopaelfdloklaaaGreatDoor
