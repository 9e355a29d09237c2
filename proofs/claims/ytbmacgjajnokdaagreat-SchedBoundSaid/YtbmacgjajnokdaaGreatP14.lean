/- Part of a proof (V38 L1); no condition. -/
import Derived.OpenShut
import Derived.SizedLaws
import Derived.WalkKit
import Derived.Below
import Derived.ChangeSame
import Derived.ReadAgain
import Derived.ProofKit
import Derived.Test.YtbmacgjajnokdaaGreatP5
import Derived.Test.YtbmacgjajnokdaaGreatP13
set_option linter.unusedSimpArgs false
set_option linter.unusedVariables false
set_option linter.defProp false
set_option linter.unnecessarySimpa false
namespace Go.Proofs.Sd
open Go.Abs Go.Abs.S
open Go.WideShapes Go.ChangeShapes
open Go.Proofs.Tc (SlK)
variable {K:Type} {enc:TypeId×Value→K}
theorem mapM_none{α:Type}{f:Nat→Option α}{m:Nat}(h:f 0=none)(hm:0<m):(List.range m).mapM f=none:=by
 obtain⟨m,rfl⟩:∃k,m=k+1:=⟨m-1,om⟩
 rw[List.range_succ_eq_map,List.mapM_cons,h]; rfl
theorem cells_spot{W:World}{c off:Nat}{q}{m:Nat}(hm:0<m):W.cells? 0 ⟨c,off,some q⟩ m=none:=by
 unfold World.cells?
 split
 ·refine mapM_none ?_ hm
  show W.cell? ⟨c,off,some q⟩=none
  unfold World.cell?
  split
  ·rfl
  ·rfl
 ·rfl
theorem slk_empty{W:World}{m:Nat}{a:Addr}:SlK (·<(heapW W).next) (heapW W) m (absW W (.slice (some a) 0 0)) 0 []:=by
 obtain⟨c,off,spot⟩:=a
 cases spot with
 | some q=>exact .inl ⟨rfl,rfl,rfl⟩
 | none=>
  cases hr:rowOf W c with
  | none=>exact .inl ⟨by simp only[absW,Nat.le_refl,if_true,hr]; rfl,rfl,rfl⟩
  | some n=>
   by_cases ho:off≤n
   ·obtain⟨C,e',fz,g1,g2,g3⟩:=objW_some hr
    have hlt:c<(heapW W).next:=(Array.getElem?_eq_some_iff.1 g1).1
    refine .inr ⟨⟨c,n,off⟩,.known 0,by simp only[absW,Nat.le_refl,if_true,hr,ho],hlt,?_⟩
    unfold rdCells
    rw[heapW_get,g3]
    simp only[List.length_map,Array.length_toList,g2,Nat.mul_zero,Nat.add_zero,List.take_zero,Nat.ble_eq_true_of_le (Nat.zero_le _),Nat.ble_eq_true_of_le rL,Nat.ble_eq_true_of_le ho,Bool.and_self,cond_true]
   ·exact .inl ⟨by simp only[absW,Nat.le_refl,if_true,hr]; rw[if_neg ho]; rfl,rfl,rfl⟩
theorem trod_sl{P:Program}{W:World}{t e:TypeId}{m fuel:Nat}{cs:List Value}{x:DataW K×List MemPlace}(ht:P.underlying t=some (.slice e))(hm:P.cellsOf e=m)(h0:0<m)
  (hf:DataW.trod enc P W 0 (fun _=>true) true fuel t cs=some x) :
  ∃v k C,cs=[v]∧(k=0∨∃el sp,x.1=.slice el sp∧el.length=k)∧SlK (·<(heapW W).next) (heapW W) m (absW W v) k C∧C.length=m*k∧∀i,i<k→∃f es y,f<fuel∧es.map (absW W)=(C.drop (i*m)).take m∧DataW.trod enc P W 0 (fun _=>true) true f e es=some y∧∃el sp,x.1=.slice el sp∧el[i]?=some y.1:=by
 subst hm
 rcases DataW.trod_slice ht hf with⟨rfl,_⟩ | ⟨a,len,cap,elems,rest,n',hfu,rfl,hx,_,h3,h4,h5,h6,h7,_⟩
 ·exact⟨_,0,[],rfl,.inl rfl,.inl ⟨by simp only[absW]; rfl,rfl,rfl⟩,rfl,fun i hi=>om⟩
 obtain⟨h7a,h7b⟩:=h7 rfl
 by_cases hc:cap=0
 ·obtain rfl:len=0:=om
  subst hc
  exact⟨_,0,[],rfl,.inl rfl,slk_empty,rfl,fun i hi=>om⟩
 have hal:∀i,i<cap→∃es,W.cells? 0 (a.add (i*P.cellsOf e)) (P.cellsOf e)=some es:=by
  intro i hi
  by_cases hlt:i<len
  ·have:=h6 i hlt
   rw[List.getElem?_eq_getElem om]at this
   obtain⟨es,q,_⟩:=Option.bind_eq_some_iff.1 this
   exact⟨es,q⟩
  ·have:=h7b (i-len) om
   rw[List.getElem?_eq_getElem om,show len+(i-len)=i by omega]at this
   obtain⟨es,q,_⟩:=Option.bind_eq_some_iff.1 this
   exact⟨es,q⟩
 obtain⟨c,off,spot⟩:=a
 cases spot with
 | some q=>
  obtain⟨es,hes⟩:=hal 0 om
  rw[Nat.zero_mul,show (⟨c,off,some q⟩:Addr).add 0=⟨c,off,some q⟩ from rfl,cells_spot h0]at hes
  simp at hes
 | none=>
  have key:∀i,i<cap→∀es,W.cells? 0 ((⟨c,off,none⟩:Addr).add (i*P.cellsOf e)) (P.cellsOf e)=some es→es.length=P.cellsOf e∧∀j,j<P.cellsOf e→W.cell? ⟨c,off+i*P.cellsOf e+j,none⟩=es[j]?:=by
   intro i _ es hes
   rw[add_none]at hes
   exact cells_at hes
  obtain⟨es0,hes0⟩:=hal (cap-1) om
  obtain⟨q1,q2⟩:=key (cap-1) om es0 hes0
  have q3:=q2 (P.cellsOf e-1) om
  rw[List.getElem?_eq_getElem om]at q3
  obtain⟨n,hn⟩:∃n,rowOf W c=some n:=by
   unfold World.cell? at q3
   unfold rowOf
   split at q3
   ·rename_i C _ _ hC; exact⟨C.size,by simp only at hC; rw[hC]⟩
   ·simp at q3
  obtain⟨C,e',fz,g1,g2,g3⟩:=objW_some hn
  rw[cell?_of g1]at q3
  have hb:=(Array.getElem?_eq_some_iff.1 q3).1
  have hcap:(cap-1)*P.cellsOf e+P.cellsOf e=cap*P.cellsOf e:=by
   rw[← Nat.succ_mul]; congr 1; omega
  have hlc:len*P.cellsOf e≤cap*P.cellsOf e:=Nat.mul_le_mul_right _ h3
  have hlt:c<(heapW W).next:=(Array.getElem?_eq_some_iff.1 g1).1
  have hmul:P.cellsOf e*len=len*P.cellsOf e:=Nat.mul_comm _ _
  refine⟨_,len,((C.toList.map (absW W)).drop off).take (P.cellsOf e*len),rfl,.inr ⟨_,_,congrArg Prod.fst hx,by rw[List.length_map]; omega⟩,.inr ⟨⟨c,n,off⟩,.known cap,?_,hlt,?_⟩,?_,?_⟩
  ·simp only[absW,h3,if_true,hn,show off≤n by omega]
  ·unfold rdCells
   rw[heapW_get,g3]
   simp only[List.length_map,Array.length_toList,g2,Nat.ble_eq_true_of_le (Nat.zero_le _),Nat.ble_eq_true_of_le rL,Nat.ble_eq_true_of_le (show off+P.cellsOf e*len≤n by omega),Bool.and_self,cond_true]
  ·rw[List.length_take,List.length_drop,List.length_map,Array.length_toList]; omega
  ·intro i hi
   have:=h6 i hi
   rw[List.getElem?_eq_getElem om]at this
   obtain⟨es,r1,r2⟩:=Option.bind_eq_some_iff.1 this
   obtain⟨l1,l2⟩:=key i om es r1
   refine⟨n',es,_,om,?_,r2,_,_,congrArg Prod.fst hx,by rw[List.getElem?_map,List.getElem?_eq_getElem om]; rfl⟩
   apply List.ext_getElem?
   intro j
   have hil:i*P.cellsOf e+P.cellsOf e≤len*P.cellsOf e:=by
    rw[← Nat.succ_mul]; exact Nat.mul_le_mul_right _ hi
   by_cases hj:j<P.cellsOf e
   ·rw[List.getElem?_take_of_lt hj,List.getElem?_drop,List.getElem?_take_of_lt om,List.getElem?_drop,List.getElem?_map,List.getElem?_map,← l2 j hj,cell?_of g1,Array.getElem?_toList,Nat.add_assoc]
   ·rw[List.getElem?_eq_none (by rw[List.length_map]; omega),List.getElem?_eq_none (by rw[List.length_take]; omega)]
def Fd(P:Program)(fs:Array Field)(i off n:Nat)(T:TypeId→Prop):Prop:=∃f,fs[i]?=some f∧f.offset=off∧P.cellsOf f.type=n∧T f.type
theorem fd_trod{P:Program}{W:World}{fuel:Nat}{cs:List Value}{xs:List (DataW K×List MemPlace)}{fs:Array Field}{i off n:Nat}{T:TypeId→Prop}(h:Fd P fs i off n T)(hl:xs.length=fs.size)
  (hi:∀(i:Nat) (f:Field),fs[i]?=some f→DataW.trod enc P W 0 (fun _=>true) true fuel f.type ((cs.drop f.offset).take (P.cellsOf f.type))=xs[i]?) :
  ∃t y,T t∧DataW.trod enc P W 0 (fun _=>true) true fuel t ((cs.drop off).take n)=some y∧xs[i]?=some y∧(fs.toList.map (·.type))[i]?=some t:=by
 obtain⟨f,h1,rfl,rfl,h4⟩:=h
 have h5:=hi i f h1
 have hlt:=(Array.getElem?_eq_some_iff.1 h1).1
 rw[List.getElem?_eq_getElem om]at h5
 exact⟨_,_,h4,h5,List.getElem?_eq_getElem _,by rw[List.getElem?_map,Array.getElem?_toList,h1]; rfl⟩
abbrev IsI(P:Program)(k:IntKind)(t:TypeId):Prop:=P.underlying t=some (.int k)
theorem flat_of{α:Type}{g:α→List AVal}{m:Nat}:∀(k:Nat) (C:List AVal),C.length=m*k→(∀i,i<k→∃e,(C.drop (i*m)).take m=g e)→∃l:List α,l.length=k∧C=l.flatMap g
 | 0,C,h,_=>⟨[],rfl,by cases C with | nil=>rfl | cons a b=>simp at h⟩
 | k+1,C,h,hq=>by
  obtain⟨e,h1⟩:=hq 0 om
  obtain⟨l,a1,a2⟩:=flat_of (g:=g) (m:=m) k (C.drop m) (by rw[List.length_drop,h,Nat.mul_succ]; omega) fun i hi=>by
   obtain⟨e,g1⟩:=hq (i+1) om
   refine⟨e,?_⟩
   rw[List.drop_drop,show m+i*m=(i+1)*m by rw[Nat.succ_mul]; omega]; exact g1
  rw[Nat.zero_mul,List.drop_zero]at h1
  exact⟨e::l,by simp[a1],by rw[List.flatMap_cons,← h1,← a2,List.take_append_drop]⟩
structure OpT(P:Program)(t:TypeId):Prop where
 c:P.cellsOf t=8
 f:∃fs:Array Field,P.underlying t=some (.struct fs)∧Fd P fs 0 0 1 (IsI P .i64)∧Fd P fs 1 1 1 (IsI P .i64)∧Fd P fs 2 2 1 (IsI P .i64)∧Fd P fs 3 3 1 (IsI P .i64)∧Fd P fs 4 4 1 (IsI P .i64)∧Fd P fs 5 5 1 (IsI P .i64)∧Fd P fs 6 6 1 (IsI P .i64)∧Fd P fs 7 7 1 (IsI P .i64)
theorem trod_op{P:Program}{W:World}{t:TypeId}(Y:OpT P t){fuel:Nat}{cs:List Value}{x:DataW K×List MemPlace}(hf:DataW.trod enc P W 0 (fun _=>true) true fuel t cs=some x) :
  ∃o:Opn,cs.map (absW W)=o.cells:=by
 obtain⟨fs,hfs,d0,d1,d2,d3,d4,d5,d6,d7⟩:=Y.f
 obtain⟨xs,n,hfu,_,hl,hn,hi⟩:=DataW.trod_struct hfs hf
 rw[Y.c]at hl
 obtain⟨c0,c1,c2,c3,c4,c5,c6,c7,rfl⟩:∃a b c d e f g h,cs=[a,b,c,d,e,f,g,h]:=by
  match cs,hl with
  | [a,b,c,d,e,f,g,h],_=>exact⟨a,b,c,d,e,f,g,h,rfl⟩
 obtain⟨_,_,g0,t0,_⟩:=fd_trod d0 hn hi
 obtain⟨_,_,g1,t1,_⟩:=fd_trod d1 hn hi
 obtain⟨_,_,g2,t2,_⟩:=fd_trod d2 hn hi
 obtain⟨_,_,g3,t3,_⟩:=fd_trod d3 hn hi
 obtain⟨_,_,g4,t4,_⟩:=fd_trod d4 hn hi
 obtain⟨_,_,g5,t5,_⟩:=fd_trod d5 hn hi
 obtain⟨_,_,g6,t6,_⟩:=fd_trod d6 hn hi
 obtain⟨_,_,g7,t7,_⟩:=fd_trod d7 hn hi
 obtain⟨z0,e0,_,_⟩:=DataW.trod_int g0 t0
 obtain⟨z1,e1,_,_⟩:=DataW.trod_int g1 t1
 obtain⟨z2,e2,_,_⟩:=DataW.trod_int g2 t2
 obtain⟨z3,e3,_,_⟩:=DataW.trod_int g3 t3
 obtain⟨z4,e4,_,_⟩:=DataW.trod_int g4 t4
 obtain⟨z5,e5,_,_⟩:=DataW.trod_int g5 t5
 obtain⟨z6,e6,_,_⟩:=DataW.trod_int g6 t6
 obtain⟨z7,e7,_,_⟩:=DataW.trod_int g7 t7
 simp at e0 e1 e2 e3 e4 e5 e6 e7
 subst e0 e1 e2 e3 e4 e5 e6 e7
 exact⟨⟨z0,z1,z2,z3,z4,z5,z6,z7⟩,rfl⟩
theorem trod_ops{P:Program}{W:World}{t e:TypeId}(ht:P.underlying t=some (.slice e))(Y:OpT P e){fuel:Nat}{cs:List Value}{x:DataW K×List MemPlace}(hf:DataW.trod enc P W 0 (fun _=>true) true fuel t cs=some x) :
  ∃(v:Value) (l:List Opn),cs=[v]∧SlK (·<(heapW W).next) (heapW W) 8 (absW W v) l.length (l.flatMap Opn.cells):=by
 obtain⟨v,k,C,e1,l1,S,lC,u⟩:=trod_sl ht Y.c om hf
 obtain⟨l,hl,rfl⟩:=flat_of (g:=Opn.cells) (m:=8) k C lC fun i hi=>by
  obtain⟨f,es,y,_,r2,r3,_⟩:=u i hi
  obtain⟨o,ho⟩:=trod_op Y r3
  exact⟨o,r2.symm.trans ho⟩
 subst hl
 exact⟨v,l,e1,S⟩
end Go.Proofs.Sd
namespace Go.Abs
open Go.ChangeShapes Go.WideShapes Go.ChangeAt Go.RowKit
section
variable {H:Type} {enc:TypeId×Value→H} {P:Program}
theorem trodAll_below{W W':World}{base:Nat}{sp:Nat→Bool}{held:Bool}(hb:Below W.heap.size W W'):∀{ts:List TypeId} {vs:List Value} {ds:List (DataW H)} {ps:List MemPlace},
  DataW.TrodAll enc P W base sp held ts vs ds ps→DataW.TrodAll enc P W' base sp held ts vs ds ps
 | [],[],[],_,h=>h
 | _::_,_::_,_::_,_,⟨p,q,⟨n,h1⟩,h2,e⟩=>by
  refine⟨p,q,⟨n,DataW.trod_carry n _ _ _ h1 fun x hx=>hb.same (DataW.trod_lt n _ _ _ h1 x hx)⟩,trodAll_below hb h2,e⟩
theorem trodVars_below{W W':World}{sp:Nat→Bool}{gs:List (DataW H)}{q:List MemPlace}(h:DataW.TrodVars enc P W sp [] gs q):DataW.TrodVars enc P W' sp [] gs q:=by
 obtain⟨rfl,rfl⟩:=trodVars_none h
 exact h
theorem law_post{f:Func}{s:ChangeSpec}{apart:Bool}{W W':World}{args:Array Value}{ds gs:List (DataW H)}{before:List MemPlace}{tb:TypeId}
  (hl:laidOutB P=true) (hm:mapsRowed P=true)
  (hz:((List.range P.types.size).all fun t=>match P.underlying t with | some (.slice e)=>decide (0<P.cellsOf e) | _=>true)=true)
  (hts:(f.params.toList.all fun t=>decide (t<P.types.size))=true) (hv:s.vars=[])
  (hW:DataW.Whole enc P f.params.toList s.vars apart W args.toList ds gs before)
  (hfn:s.fn H (ds++gs)={ results:=[.lit (.bool true)],args:=ds }) (hr:f.resultTypes=#[tb]) (ht:P.underlying tb=some .bool) (hb:Below W.heap.size W W') :
  s.post enc P f apart true false false W args (.bool true) W':=by
 have hlt:∀p∈before,p.block<W.heap.size:=fun p hp=>hW.lt p hp
 have hW0:=hW
 obtain⟨p,q,hA,hV,rfl,hfz,hnd⟩:=hW
 rw[hv]at hV
 obtain⟨rfl,rfl⟩:=trodVars_none hV
 have hT:∀t∈f.params.toList,t<P.types.size:=fun t ht=>by simpa using List.all_eq_true.1 hts t ht
 refine⟨ds,[],p++[],[],p,[],hW0,?_,?_,?_,World.keptBut_mono (fun x hx=>⟨hx,by simpa using hx⟩) (hb.frame (·∈p++[])),fun h=>by simp at h⟩
 ·rw[hfn,hr]
  exact trodAll_cons_mk (shut_bool ht _) trodAll_mk0
 ·rw[hfn]
  refine trodAll_below hb (DataW.TrodAll.respare (kids_rows hl hm) (slices_full_of P hz) hT hA fun x hx=>?_)
  simpa using hlt x (by simpa using hx)
 ·rw[hfn,hv]
  exact trodVars_below (W:=W) hV
end
end Go.Abs
