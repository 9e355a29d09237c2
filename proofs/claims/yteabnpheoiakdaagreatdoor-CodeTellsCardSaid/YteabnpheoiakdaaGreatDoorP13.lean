/- Part of a proof (YE2 YE3 YE4 YE5 YE6 YE7); no condition. -/
import Derived.Test.YteabnpheoiakdaaGreatDoorP12
set_option linter.unusedSimpArgs false
set_option linter.unusedVariables false
set_option linter.unnecessarySimpa false
namespace Go.Proofs.Wo
open Go.Abs Go.Abs.S
theorem LinM.cel1{H:AHeap}{s:AVal}{L:List AVal}{k n:Nat}(h:LinM 1 H s L k)(hb:Blk s (·<n)):Cel n H s L∧L.length=k:=by
 rcases h with⟨rfl,rfl,rfl⟩ | ⟨b,C,low,r,rfl,h2,h3,h4,h5,h6,h7,h8⟩
 ·exact⟨.inl ⟨rfl,rfl⟩,rfl⟩
 ·rw[Nat.mul_one]at h5 h6 h7
  refine⟨.inr ⟨⟨b,C.length,0⟩,r,by rw[h6],hb _ _ _ rfl,?_⟩,h6⟩
  have:=rd_row (H:=H) ⟨low,h3,h4⟩ rfl (i:=0) (k:=k) om
  rw[h6,this,List.drop_zero,h5]
def nmL(E:Env'):List AVal:=(E.map (·.1)).map .str
def kdA(t:Nat):AVal:=.int .u8 (t:Int)
def kdL(E:Env'):List AVal:=E.map fun x=>kdA x.2
def tyL(ts:List Nat):List AVal:=ts.map kdA
theorem nmL_len(E:Env'):(nmL E).length=E.length:=by simp[nmL]
theorem kdL_len(E:Env'):(kdL E).length=E.length:=by simp[kdL]
theorem tyL_len(ts:List Nat):(tyL ts).length=ts.length:=by simp[tyL]
theorem firstI_take{s:Bs}:∀(E:Env') (i:Nat) (x:Bs×Nat),firstI s (E.take i)=none→E[i]?=some x→firstI s E=if x.1=s then some i else firstI s E
 | [],i,x,_,h=>by simp at h
 | y::E,0,x,_,h=>by
  simp only[List.getElem?_cons_zero,sJ]at h
  subst h
  simp only[firstI]
  split <;> rfl
 | y::E,i+1,x,h0,h=>by
  simp only[List.getElem?_cons_succ]at h
  simp only[List.take_succ_cons,firstI]at h0
  by_cases hy:y.1=s
  ·rw[if_pos hy]at h0; simp at h0
  ·rw[if_neg hy]at h0
   have h0':firstI s (E.take i)=none:=by
    cases hf:firstI s (E.take i) with
    | none=>rfl
    | some j=>rw[hf]at h0; simp at h0
   have:=firstI_take E i x h0' h
   simp only[firstI,if_neg hy]
   by_cases hx:x.1=s
   ·rw[if_pos hx]at this ⊢
    rw[this]; rfl
   ·rw[if_neg hx]
theorem firstI_snoc{s:Bs}{x:Bs×Nat}(hx:x.1≠s):∀(E:Env'),firstI s E=none→firstI s (E++[x])=none
 | [],_=>by simp[firstI,hx]
 | y::E,h=>by
  simp only[firstI]at h
  by_cases hy:y.1=s
  ·rw[if_pos hy]at h; simp at h
  ·rw[if_neg hy]at h
   have:firstI s E=none:=by
    cases hf:firstI s E with
    | none=>rfl
    | some j=>rw[hf]at h; simp at h
   simp only[List.cons_append,firstI,if_neg hy,firstI_snoc hx E this,Option.map_none]
def idxZ(s:Bs)(E:Env'):Int:=match firstI s E with
 | some i=>(i:Int)
 | none=>-1
theorem sidx_at{H:AHeap}{v:AVal}{E:Env'}{n:Nat}(c:Cel n H v (nmL E))(x:Bs)(hl:E.length≤1000000):ACalls Tryz.prog natT 130 [v,.str x] H fun u H'=>H=H'∧u=.int .i64 (idxZ x E):=by
 refine acalls_ofN rfl za130 rfl ?_
 simp only[c130,sA,sB,seval,c.len,nmL_len]
 refine aw_loop (fun m (T:Env) H'=>H=H'∧∃i:Nat,m=E.length-i∧i≤E.length∧T 0=v∧T 1=.str x∧T 7=.int .i64 (E.length:Int)∧T 8=.int .i64 (i:Int)∧firstI x (E.take i)=none) E.length
  ⟨rfl,0,rfl,om,by simp only[sA,sB,seval],by simp only[sA,sB,seval],by simp only[sA,sB,seval],by simp only[sA,sB,seval]; try rfl,rfl⟩ ?_
 rintro m T _ ⟨rfl,i,rfl,hi,t0,t1,t7,t8,hx⟩
 by_cases hlt:i<E.length
 case neg=>
  obtain rfl:i=E.length:=om
  have hlt':¬(E.length:Int)<(E.length:Int):=om
  rw[List.take_length]at hx
  simp only[sA,sB,seval,t7,t8,hlt',idxZ,hx]
  exact⟨tt,tt⟩
 have hlt':(i:Int)<(E.length:Int):=om
 obtain⟨y,hy⟩:∃y,E[i]?=some y:=⟨_,List.getElem?_eq_getElem hlt⟩
 have io:=c.idx .i64 (i:=i) (by rw[nmL_len]; exact hlt)
 have lo:=c.load (i:=i) (x:=.str y.1) (by simp[nmL,hy])
 have wk:IntKind.i64.wrap ((i:Int)+1)=((i+1:Nat):Int):=w64
 have hf:=firstI_take E i y hx hy
 by_cases he:x=y.1
 ·rw[if_pos he.symm]at hf
  simp only[sA,sB,seval,t0,t1,t7,t8,hlt',io,lo,he,ar_mv,idxZ]
  rw[← he,hf]
  exact⟨tt,tt⟩
 ·simp only[sA,sB,seval,t0,t1,t7,t8,hlt',io,lo,he,wk]
  refine⟨E.length-(i+1),om,tt,i+1,rfl,om,tt,tt,tt,tt,?_⟩
  rw[List.take_add_one,hy]
  exact firstI_snoc (fun e=>he e.symm) _ hx
theorem tpair_0{a b:Nat}(ha:a=1∨a=2)(hb:b=1∨b=2){H:AHeap}:ACalls Tryz.prog natT 205 [.str [124,124],kdA a,kdA b] H fun v H'=>v=kdA (pairT [124,124] a b)∧H=H':=by
 rcases ha with rfl | rfl <;> rcases hb with rfl | rfl <;> (refine acalls_ofN rfl za205 rfl ?_; simp only[c205,kdA,Int.cast_ofNat_Int,sA,sB,seval]; exact⟨by rfl,tt⟩)
theorem tpair_1{a b:Nat}(ha:a=1∨a=2)(hb:b=1∨b=2){H:AHeap}:ACalls Tryz.prog natT 205 [.str [38,38],kdA a,kdA b] H fun v H'=>v=kdA (pairT [38,38] a b)∧H=H':=by
 rcases ha with rfl | rfl <;> rcases hb with rfl | rfl <;> (refine acalls_ofN rfl za205 rfl ?_; simp only[c205,kdA,Int.cast_ofNat_Int,sA,sB,seval]; exact⟨by rfl,tt⟩)
theorem tpair_2{a b:Nat}(ha:a=1∨a=2)(hb:b=1∨b=2){H:AHeap}:ACalls Tryz.prog natT 205 [.str [61,61],kdA a,kdA b] H fun v H'=>v=kdA (pairT [61,61] a b)∧H=H':=by
 rcases ha with rfl | rfl <;> rcases hb with rfl | rfl <;> (refine acalls_ofN rfl za205 rfl ?_; simp only[c205,kdA,Int.cast_ofNat_Int,sA,sB,seval]; exact⟨by rfl,tt⟩)
theorem tpair_3{a b:Nat}(ha:a=1∨a=2)(hb:b=1∨b=2){H:AHeap}:ACalls Tryz.prog natT 205 [.str [33,61],kdA a,kdA b] H fun v H'=>v=kdA (pairT [33,61] a b)∧H=H':=by
 rcases ha with rfl | rfl <;> rcases hb with rfl | rfl <;> (refine acalls_ofN rfl za205 rfl ?_; simp only[c205,kdA,Int.cast_ofNat_Int,sA,sB,seval]; exact⟨by rfl,tt⟩)
theorem tpair_4{a b:Nat}(ha:a=1∨a=2)(hb:b=1∨b=2){H:AHeap}:ACalls Tryz.prog natT 205 [.str [60,61],kdA a,kdA b] H fun v H'=>v=kdA (pairT [60,61] a b)∧H=H':=by
 rcases ha with rfl | rfl <;> rcases hb with rfl | rfl <;> (refine acalls_ofN rfl za205 rfl ?_; simp only[c205,kdA,Int.cast_ofNat_Int,sA,sB,seval]; exact⟨by rfl,tt⟩)
theorem tpair_5{a b:Nat}(ha:a=1∨a=2)(hb:b=1∨b=2){H:AHeap}:ACalls Tryz.prog natT 205 [.str [62,61],kdA a,kdA b] H fun v H'=>v=kdA (pairT [62,61] a b)∧H=H':=by
 rcases ha with rfl | rfl <;> rcases hb with rfl | rfl <;> (refine acalls_ofN rfl za205 rfl ?_; simp only[c205,kdA,Int.cast_ofNat_Int,sA,sB,seval]; exact⟨by rfl,tt⟩)
theorem tpair_6{a b:Nat}(ha:a=1∨a=2)(hb:b=1∨b=2){H:AHeap}:ACalls Tryz.prog natT 205 [.str [60],kdA a,kdA b] H fun v H'=>v=kdA (pairT [60] a b)∧H=H':=by
 rcases ha with rfl | rfl <;> rcases hb with rfl | rfl <;> (refine acalls_ofN rfl za205 rfl ?_; simp only[c205,kdA,Int.cast_ofNat_Int,sA,sB,seval]; exact⟨by rfl,tt⟩)
theorem tpair_7{a b:Nat}(ha:a=1∨a=2)(hb:b=1∨b=2){H:AHeap}:ACalls Tryz.prog natT 205 [.str [62],kdA a,kdA b] H fun v H'=>v=kdA (pairT [62] a b)∧H=H':=by
 rcases ha with rfl | rfl <;> rcases hb with rfl | rfl <;> (refine acalls_ofN rfl za205 rfl ?_; simp only[c205,kdA,Int.cast_ofNat_Int,sA,sB,seval]; exact⟨by rfl,tt⟩)
theorem tpair_8{a b:Nat}(ha:a=1∨a=2)(hb:b=1∨b=2){H:AHeap}:ACalls Tryz.prog natT 205 [.str [43],kdA a,kdA b] H fun v H'=>v=kdA (pairT [43] a b)∧H=H':=by
 rcases ha with rfl | rfl <;> rcases hb with rfl | rfl <;> (refine acalls_ofN rfl za205 rfl ?_; simp only[c205,kdA,Int.cast_ofNat_Int,sA,sB,seval]; exact⟨by rfl,tt⟩)
theorem tpair_9{a b:Nat}(ha:a=1∨a=2)(hb:b=1∨b=2){H:AHeap}:ACalls Tryz.prog natT 205 [.str [45],kdA a,kdA b] H fun v H'=>v=kdA (pairT [45] a b)∧H=H':=by
 rcases ha with rfl | rfl <;> rcases hb with rfl | rfl <;> (refine acalls_ofN rfl za205 rfl ?_; simp only[c205,kdA,Int.cast_ofNat_Int,sA,sB,seval]; exact⟨by rfl,tt⟩)
theorem tpair_10{a b:Nat}(ha:a=1∨a=2)(hb:b=1∨b=2){H:AHeap}:ACalls Tryz.prog natT 205 [.str [42],kdA a,kdA b] H fun v H'=>v=kdA (pairT [42] a b)∧H=H':=by
 rcases ha with rfl | rfl <;> rcases hb with rfl | rfl <;> (refine acalls_ofN rfl za205 rfl ?_; simp only[c205,kdA,Int.cast_ofNat_Int,sA,sB,seval]; exact⟨by rfl,tt⟩)
theorem tpair_11{a b:Nat}(ha:a=1∨a=2)(hb:b=1∨b=2){H:AHeap}:ACalls Tryz.prog natT 205 [.str [47],kdA a,kdA b] H fun v H'=>v=kdA (pairT [47] a b)∧H=H':=by
 rcases ha with rfl | rfl <;> rcases hb with rfl | rfl <;> (refine acalls_ofN rfl za205 rfl ?_; simp only[c205,kdA,Int.cast_ofNat_Int,sA,sB,seval]; exact⟨by rfl,tt⟩)
theorem tpair_spec{s:Bs}{a b:Nat}(hs:opF s 2=true)(ha:a=1∨a=2)(hb:b=1∨b=2){H:AHeap}:ACalls Tryz.prog natT 205 [.str s,kdA a,kdA b] H fun v H'=>v=kdA (pairT s a b)∧H=H':=by
 have hm:s∈([[124,124],[38,38],[61,61],[33,61],[60,61],[62,61],[60],[62],[43],[45],[42],[47]]:List Bs):=by simpa[opF] using hs
 simp only[List.mem_cons,List.not_mem_nil,or_false]at hm
 rcases hm with rfl | rfl | rfl | rfl | rfl | rfl | rfl | rfl | rfl | rfl | rfl | rfl
 ·exact tpair_0 ha hb
 ·exact tpair_1 ha hb
 ·exact tpair_2 ha hb
 ·exact tpair_3 ha hb
 ·exact tpair_4 ha hb
 ·exact tpair_5 ha hb
 ·exact tpair_6 ha hb
 ·exact tpair_7 ha hb
 ·exact tpair_8 ha hb
 ·exact tpair_9 ha hb
 ·exact tpair_10 ha hb
 ·exact tpair_11 ha hb
theorem toper_spec{s:Bs}{ts:List Nat}{v:AVal}{n:Nat}{H:AHeap}(c:Cel n H v (tyL ts))(hs:opF s ts.length=true)(ht:∀t∈ts,t=1∨t=2):ACalls Tryz.prog natT 191 [.str s,v] H fun u H'=>u=kdA (opT s ts)∧H=H':=by
 have ln:=c.len
 rw[tyL_len]at ln
 match ts,c,hs,ht,ln with
 | [],_,hs,_,_=>simp[opF]at hs
 | [a],c,hs,ht,ln=>
  have i0:=c.idx .i64 (i:=0) (by simp[tyL])
  have l0:=c.load (i:=0) (x:=kdA a) rfl
  simp only[Int.cast_ofNat_Int,List.length_cons,List.length_nil,Nat.zero_add]at i0 ln
  have hm:s∈([[45],[33]]:List Bs):=by simpa[opF] using hs
  simp only[List.mem_cons,List.not_mem_nil,or_false]at hm
  have ha:=ht a (by simp)
  rcases hm with rfl | rfl <;> rcases ha with rfl | rfl <;> (refine acalls_ofN rfl za191 rfl ?_; simp only[kdA,Int.cast_ofNat_Int]at l0; simp only[c191,kdA,Int.cast_ofNat_Int,sA,sB,seval,ln,i0,l0]; exact⟨by rfl,tt⟩)
 | [a,b],c,hs,ht,ln=>
  have i0:=c.idx .i64 (i:=0) (by simp[tyL])
  have l0:=c.load (i:=0) (x:=kdA a) rfl
  have i1:=c.idx .i64 (i:=1) (by simp[tyL])
  have l1:=c.load (i:=1) (x:=kdA b) rfl
  simp only[Int.cast_ofNat_Int,List.length_cons,List.length_nil,Nat.zero_add,Nat.reduceAdd]at i0 i1 ln
  refine acalls_ofN rfl za191 rfl ?_
  simp only[c191,sA,sB,seval,ln,i0,l0,i1,l1]
  refine (tpair_spec (by simpa[opF] using hs) (ht a (by simp)) (ht b (by simp))).mono ?_
  rintro u _ ⟨rfl,rfl⟩
  simp only[sA,sB,seval]
  exact⟨tt,tt⟩
 | _::_::_::_,_,hs,_,_=>simp[opF]at hs
theorem sequal_spec{x y:List Nat}{v w:AVal}{n m:Nat}{H:AHeap}(c:Cel n H v (tyL x))(d:Cel m H w (tyL y))(hl:x.length≤1000000):ACalls Tryz.prog natT 206 [v,w] H fun u H'=>u=.bool (decide (x=y))∧H=H':=by
 have lx:=c.len
 have ly:=d.len
 rw[tyL_len]at lx ly
 refine acalls_ofN rfl za206 rfl ?_
 by_cases hne:x.length=y.length
 case neg=>
  have h1:¬(x.length:Int)=(y.length:Int):=om
  have h2:decide (x=y)=false:=decide_eq_false fun e=>hne (by rw[e])
  simp only[c206,sA,sB,seval,lx,ly,h1,h2]
  exact⟨tt,tt⟩
 have h1:(x.length:Int)=(y.length:Int):=om
 simp only[c206,sA,sB,seval,lx,ly,h1]
 refine aw_loop (fun k (T:Env) H'=>H=H'∧∃i:Nat,k=x.length-i∧i≤x.length∧T 0=v∧T 1=w∧T 12=.int .i64 (y.length:Int)∧T 13=.int .i64 (i:Int)∧x.take i=y.take i) x.length
  ⟨rfl,0,rfl,Nat.zero_le _,by simp only[sA,sB,seval],by simp only[sA,sB,seval]; try rfl,by simp only[sA,sB,seval],by simp only[sA,sB,seval]; try rfl,rfl⟩ ?_
 rintro k T _ ⟨rfl,i,rfl,hi,t0,t1,t12,t13,he⟩
 by_cases hlt:i<x.length
 case neg=>
  obtain rfl:i=x.length:=om
  have hlt':¬(x.length:Int)<(y.length:Int):=om
  rw[List.take_length,hne,List.take_length]at he
  have h2:decide (x=y)=true:=decide_eq_true he
  simp only[sA,sB,seval,t0,t1,t12,t13,hlt',h2]
  exact⟨tt,tt⟩
 have hlt':(i:Int)<(y.length:Int):=om
 obtain⟨a,ha⟩:∃a,x[i]?=some a:=⟨_,List.getElem?_eq_getElem hlt⟩
 obtain⟨b,hb⟩:∃b,y[i]?=some b:=⟨_,List.getElem?_eq_getElem om⟩
 have i1:=c.idx .i64 (i:=i) (by rw[tyL_len]; exact hlt)
 have l1:=c.load (i:=i) (x:=kdA a) (by simp[tyL,ha])
 have i2:=d.idx .i64 (i:=i) (by rw[tyL_len]; omega)
 have l2:=d.load (i:=i) (x:=kdA b) (by simp[tyL,hb])
 have wk:IntKind.i64.wrap ((i:Int)+1)=((i+1:Nat):Int):=w64
 simp only[kdA]at l1 l2
 by_cases hab:a=b
 ·subst hab
  simp only[sA,sB,seval,t0,t1,t12,t13,hlt',i1,l1,i2,l2,wk]
  refine⟨x.length-(i+1),om,tt,i+1,rfl,om,tt,tt,tt,tt,?_⟩
  rw[List.take_add_one,List.take_add_one,ha,hb,he]
 ·have hz:¬(a:Int)=(b:Int):=om
  have h2:decide (x=y)=false:=decide_eq_false fun e=>by
   rw[e]at ha
   rw[ha]at hb
   exact hab (Option.some.inj hb)
  simp only[sA,sB,seval,t0,t1,t12,t13,hlt',i1,l1,i2,l2,hz,h2]
  exact⟨tt,tt⟩
def strE{α:Type}(g:α→AVal):List (Bs×α)→Nat→List Ent
 | [],_=>[]
 | p::l,i=>(.str p.1,g p.2,i)::strE g l (i+1)
theorem strE_find{α:Type}(g:α→AVal)(s:Bs):∀(L:List (Bs×α)) (i j:Nat),(atKey L s=none→mFind .str (.str s) (strE g L i) j=some none)∧∀x,atKey L s=some x→∃k b,mFind .str (.str s) (strE g L i) j=some (some (k,(.str s,g x,b)))
 | [],i,j=>⟨fun _=>rfl,fun x h=>by simp[atKey]at h⟩
 | p::L,i,j=>by
  obtain⟨h1,h2⟩:=strE_find g s L (i+1) (j+1)
  by_cases hp:p.1=s
  ·have e:(s==p.1)=true:=by rw[hp]; exact beq_self_eq_true _
   refine⟨fun h=>by simp[atKey,hp]at h,fun x h=>⟨j,i,?_⟩⟩
   simp only[atKey,if_pos hp,sJ]at h
   subst h
   simp only[strE,mFind,kEq,e,hp,beq_self_eq_true]
  ·have e:(s==p.1)=false:=by rw[beq_eq_false_iff_ne]; exact fun q=>hp q.symm
   constructor
   ·intro h
    simp only[atKey,if_neg hp]at h
    simp only[strE,mFind,kEq,e,h1 h]
   ·intro x h
    simp only[atKey,if_neg hp]at h
    obtain⟨k,b,q⟩:=h2 x h
    exact⟨k,b,by simp only[strE,mFind,kEq,e,q]⟩
theorem strE_look{α:Type}(g:α→AVal){H:AHeap}{mb c:Nat}{L:List (Bs×α)}(h:H.get mb=some (.map (strE g L 0) c))(s:Bs)(z:AVal) :
  aHf (.mLook .str true z) H [.map (some mb),.str s]=some (.tuple [match atKey L s with | some x=>g x | none=>z,.bool (atKey L s).isSome],H):=by
 obtain⟨h1,h2⟩:=strE_find g s L 0 0
 cases ha:atKey L s with
 | none=>simp only[aHf,aMLook,h,aLookE,isK,cond_true,h1 ha,mRet,Option.isSome]
 | some x=>
  obtain⟨k,b,q⟩:=h2 x ha
  simp only[aHf,aMLook,h,aLookE,isK,cond_true,q,mRet,Option.isSome]
theorem upd_newS{H:AHeap}{m:Nat}{es:List Ent}{c:Nat}{k:List UInt8}{v:AVal}(hg:H.get m=some (.map es c))(hf:mFind .str (.str k) es 0=some none) :
  ∃H',aHf (.mf (.upd .str)) H [.map (some m),.str k,v]=some (.tuple [],H')∧H'.next=H.next∧H'.get m=some (.map (es++[(.str k,v,c)]) (c+1))∧∀b,b≠m→H'.get b=H.get b:=
 ⟨H.set m (.map (es++[(.str k,v,c)]) (c+1)),by simp only[aHf,aMF,hg,aMf,isK,cond_true,hf],rfl,by rw[AHeap.get_set,if_pos rfl],fun b hb=>by rw[AHeap.get_set,if_neg hb]⟩
def gB(x:List Nat×Nat):AVal:=.agg [.int .i64 (x.1.length:Int),kdA (x.1.getD 0 0),kdA (x.1.getD 1 0),kdA (x.1.getD 2 0),kdA x.2]
def bltM(mb:Nat)(H:AHeap):Prop:=H.get mb=some (.map (strE gB argTab 0) 15)
set_option maxRecDepth 100000 in
theorem tblt_spec{H:AHeap}:ACalls Tryz.prog natT 188 [] H fun u H'=>u=.map (some H.next)∧bltM H.next H'∧H'.next=H.next+1∧∀c,c≠H.next→H'.get c=H.get c:=by
 refine acalls_ofN rfl za188 rfl ?_
 have mm:aHf .mkMap H []=some (.map (some H.next),H.push (.map [] 0)):=rfl
 have q0:(H.push (.map [] 0)).get H.next=some (.map [] 0):=by rw[AHeap.get_push,if_pos rfl]
 have o0:∀b,b≠H.next→(H.push (.map [] 0)).get b=H.get b:=fun b hb=>by rw[AHeap.get_push,if_neg hb]
 obtain⟨K1,m1,n1,q1,o1⟩:=upd_newS (H:=H.push (.map [] 0)) (v:=.agg [.int .i64 3,.int .u8 1,.int .u8 1,.int .u8 1,.int .u8 2]) q0 (k:=[118,101,99]) rfl
 obtain⟨K2,m2,n2,q2,o2⟩:=upd_newS (H:=K1) (v:=.agg [.int .i64 1,.int .u8 2,.int .u8 0,.int .u8 0,.int .u8 1]) q1 (k:=[120]) rfl
 obtain⟨K3,m3,n3,q3,o3⟩:=upd_newS (H:=K2) (v:=.agg [.int .i64 1,.int .u8 2,.int .u8 0,.int .u8 0,.int .u8 1]) q2 (k:=[121]) rfl
 obtain⟨K4,m4,n4,q4,o4⟩:=upd_newS (H:=K3) (v:=.agg [.int .i64 1,.int .u8 2,.int .u8 0,.int .u8 0,.int .u8 1]) q3 (k:=[122]) rfl
 obtain⟨K5,m5,n5,q5,o5⟩:=upd_newS (H:=K4) (v:=.agg [.int .i64 2,.int .u8 2,.int .u8 2,.int .u8 0,.int .u8 1]) q4 (k:=[100,111,116]) rfl
 obtain⟨K6,m6,n6,q6,o6⟩:=upd_newS (H:=K5) (v:=.agg [.int .i64 2,.int .u8 2,.int .u8 2,.int .u8 0,.int .u8 2]) q5 (k:=[99,114,111,115,115]) rfl
 obtain⟨K7,m7,n7,q7,o7⟩:=upd_newS (H:=K6) (v:=.agg [.int .i64 1,.int .u8 2,.int .u8 0,.int .u8 0,.int .u8 2]) q6 (k:=[117,110,105,116]) rfl
 obtain⟨K8,m8,n8,q8,o8⟩:=upd_newS (H:=K7) (v:=.agg [.int .i64 1,.int .u8 1,.int .u8 0,.int .u8 0,.int .u8 1]) q7 (k:=[115,113,114,116]) rfl
 obtain⟨K9,m9,n9,q9,o9⟩:=upd_newS (H:=K8) (v:=.agg [.int .i64 1,.int .u8 1,.int .u8 0,.int .u8 0,.int .u8 1]) q8 (k:=[115,105,110]) rfl
 obtain⟨K10,m10,n10,q10,o10⟩:=upd_newS (H:=K9) (v:=.agg [.int .i64 1,.int .u8 1,.int .u8 0,.int .u8 0,.int .u8 1]) q9 (k:=[99,111,115]) rfl
 obtain⟨K11,m11,n11,q11,o11⟩:=upd_newS (H:=K10) (v:=.agg [.int .i64 1,.int .u8 1,.int .u8 0,.int .u8 0,.int .u8 1]) q10 (k:=[97,98,115]) rfl
 obtain⟨K12,m12,n12,q12,o12⟩:=upd_newS (H:=K11) (v:=.agg [.int .i64 1,.int .u8 1,.int .u8 0,.int .u8 0,.int .u8 1]) q11 (k:=[102,108,111,111,114]) rfl
 obtain⟨K13,m13,n13,q13,o13⟩:=upd_newS (H:=K12) (v:=.agg [.int .i64 2,.int .u8 1,.int .u8 1,.int .u8 0,.int .u8 1]) q12 (k:=[109,105,110]) rfl
 obtain⟨K14,m14,n14,q14,o14⟩:=upd_newS (H:=K13) (v:=.agg [.int .i64 2,.int .u8 1,.int .u8 1,.int .u8 0,.int .u8 1]) q13 (k:=[109,97,120]) rfl
 obtain⟨K15,m15,n15,q15,o15⟩:=upd_newS (H:=K14) (v:=.agg [.int .i64 2,.int .u8 1,.int .u8 1,.int .u8 0,.int .u8 2]) q14 (k:=[115,97,109,112,108,101]) rfl
 have b0:aBuild [.int .u8 0,.int .u8 0,.int .u8 0] [(0,1,.int .u8 1),(1,1,.int .u8 1),(2,1,.int .u8 1)]=some (.agg [.int .u8 1,.int .u8 1,.int .u8 1]):=rfl
 have b1:aBuild [.int .u8 0,.int .u8 0,.int .u8 0] [(0,1,.int .u8 2)]=some (.agg [.int .u8 2,.int .u8 0,.int .u8 0]):=rfl
 have b2:aBuild [.int .u8 0,.int .u8 0,.int .u8 0] [(0,1,.int .u8 2),(1,1,.int .u8 2)]=some (.agg [.int .u8 2,.int .u8 2,.int .u8 0]):=rfl
 have b3:aBuild [.int .u8 0,.int .u8 0,.int .u8 0] [(0,1,.int .u8 1)]=some (.agg [.int .u8 1,.int .u8 0,.int .u8 0]):=rfl
 have b4:aBuild [.int .u8 0,.int .u8 0,.int .u8 0] [(0,1,.int .u8 1),(1,1,.int .u8 1)]=some (.agg [.int .u8 1,.int .u8 1,.int .u8 0]):=rfl
 have b5:aBuild [.int .i64 0,.int .u8 0,.int .u8 0,.int .u8 0,.int .u8 0] [(0,1,.int .i64 3),(1,3,.agg [.int .u8 1,.int .u8 1,.int .u8 1]),(4,1,.int .u8 2)]=some (.agg [.int .i64 3,.int .u8 1,.int .u8 1,.int .u8 1,.int .u8 2]):=rfl
 have b6:aBuild [.int .i64 0,.int .u8 0,.int .u8 0,.int .u8 0,.int .u8 0] [(0,1,.int .i64 1),(1,3,.agg [.int .u8 2,.int .u8 0,.int .u8 0]),(4,1,.int .u8 1)]=some (.agg [.int .i64 1,.int .u8 2,.int .u8 0,.int .u8 0,.int .u8 1]):=rfl
 have b7:aBuild [.int .i64 0,.int .u8 0,.int .u8 0,.int .u8 0,.int .u8 0] [(0,1,.int .i64 2),(1,3,.agg [.int .u8 2,.int .u8 2,.int .u8 0]),(4,1,.int .u8 1)]=some (.agg [.int .i64 2,.int .u8 2,.int .u8 2,.int .u8 0,.int .u8 1]):=rfl
 have b8:aBuild [.int .i64 0,.int .u8 0,.int .u8 0,.int .u8 0,.int .u8 0] [(0,1,.int .i64 2),(1,3,.agg [.int .u8 2,.int .u8 2,.int .u8 0]),(4,1,.int .u8 2)]=some (.agg [.int .i64 2,.int .u8 2,.int .u8 2,.int .u8 0,.int .u8 2]):=rfl
 have b9:aBuild [.int .i64 0,.int .u8 0,.int .u8 0,.int .u8 0,.int .u8 0] [(0,1,.int .i64 1),(1,3,.agg [.int .u8 2,.int .u8 0,.int .u8 0]),(4,1,.int .u8 2)]=some (.agg [.int .i64 1,.int .u8 2,.int .u8 0,.int .u8 0,.int .u8 2]):=rfl
 have b10:aBuild [.int .i64 0,.int .u8 0,.int .u8 0,.int .u8 0,.int .u8 0] [(0,1,.int .i64 1),(1,3,.agg [.int .u8 1,.int .u8 0,.int .u8 0]),(4,1,.int .u8 1)]=some (.agg [.int .i64 1,.int .u8 1,.int .u8 0,.int .u8 0,.int .u8 1]):=rfl
 have b11:aBuild [.int .i64 0,.int .u8 0,.int .u8 0,.int .u8 0,.int .u8 0] [(0,1,.int .i64 2),(1,3,.agg [.int .u8 1,.int .u8 1,.int .u8 0]),(4,1,.int .u8 1)]=some (.agg [.int .i64 2,.int .u8 1,.int .u8 1,.int .u8 0,.int .u8 1]):=rfl
 have b12:aBuild [.int .i64 0,.int .u8 0,.int .u8 0,.int .u8 0,.int .u8 0] [(0,1,.int .i64 2),(1,3,.agg [.int .u8 1,.int .u8 1,.int .u8 0]),(4,1,.int .u8 2)]=some (.agg [.int .i64 2,.int .u8 1,.int .u8 1,.int .u8 0,.int .u8 2]):=rfl
 simp only[c188,sA,sB,seval,mm,b0,b1,b2,b3,b4,b5,b6,b7,b8,b9,b10,b11,b12,m1,m2,m3,m4,m5,m6,m7,m8,m9,m10,m11,m12,m13,m14,m15]
 refine⟨tt,q15,?_,fun b hb=>?_⟩
 ·rw[n15,n14,n13,n12,n11,n10,n9,n8,n7,n6,n5,n4,n3,n2,n1]; rfl
 ·rw[o15 b hb,o14 b hb,o13 b hb,o12 b hb,o11 b hb,o10 b hb,o9 b hb,o8 b hb,o7 b hb,o6 b hb,o5 b hb,o4 b hb,o3 b hb,o2 b hb,o1 b hb,o0 b hb]
theorem argTab_len:∀x∈argTab,x.2.1.length≤3∧1≤x.2.1.length:=by decide
theorem aS3{b n:Nat}(h:n≤3):aSlArr 3 1 (cellR b 5 1) none (some (.int .i64 (n:Int))) none=some (.slice (some ⟨b,5,1⟩) n (.known 3)):=by
 match n,h with
 | 0,_=>rfl
 | 1,_=>rfl
 | 2,_=>rfl
 | 3,_=>rfl
theorem tcall_spec{s:Bs}{ts:List Nat}{v vn vk:AVal}{n ab mb mt mk:Nat}{H:AHeap}(hA:AskR ab vn vk mb mt mk H)(hab:ab<H.next)(hB:bltM mb H)(c:Cel n H v (tyL ts))(hn:n≤H.next)(hl:ts.length≤1000000) :
  ACalls Tryz.prog natT 192 [cellR ab 5 0,.str s,v] H fun u H'=>u=(match callT s ts with | .ok t=>.tuple [kdA t,.int .i64 0] | .error f=>.tuple [kdA 0,.int .i64 (f:Int)])∧Ext H.next H H':=by
 refine acalls_ofN rfl za192 rfl ?_
 have lb:oLoad false 1 H (cellR ab 5 2)=some (.map (some mb)):=row_load hA rfl rfl
 have lk:=strE_look gB hB s (.agg [.int .i64 0,.int .u8 0,.int .u8 0,.int .u8 0,.int .u8 0])
 have ln:=c.len
 rw[tyL_len]at ln
 unfold callT
 cases ha:atKey argTab s with
 | none=>
  rw[ha]at lk
  simp only[Option.isSome]at lk
  obtain⟨H1,m1,r1,n1,k1⟩:=row_newL H [.int .i64 0,.int .u8 0,.int .u8 0,.int .u8 0,.int .u8 0] (n:=5) rfl
  obtain⟨H2,m2,r2,n2,k2⟩:=row_storeN r1 (n:=5) rfl (xs:=[.int .i64 0,.int .u8 0,.int .u8 0,.int .u8 0,.int .u8 0]) rfl rfl
  simp only[c192,sA,sB,seval,fldA,nil_cell,lb,lk,ext_0,ext_1,m1,m2]
  exact⟨tt,om,fun c hc=>by rw[k2 c om,k1 c om]⟩
 | some x=>
  obtain⟨args,own⟩:=x
  rw[ha]at lk
  simp only[Option.isSome,gB]at lk
  obtain⟨h3,h1⟩:=argTab_len _ (atKey_mem ha)
  simp only at h3 h1
  obtain⟨H1,m1,r1,n1,k1⟩:=row_newL H [.int .i64 0,.int .u8 0,.int .u8 0,.int .u8 0,.int .u8 0] (n:=5) rfl
  obtain⟨H2,m2,r2,n2,k2⟩:=row_storeN r1 (n:=5) rfl (xs:=[.int .i64 (args.length:Int),kdA (args.getD 0 0),kdA (args.getD 1 0),kdA (args.getD 2 0),kdA own]) rfl rfl
  have kk:∀c,c<H.next→H2.get c=H.get c:=fun c hc=>by rw[k2 c om,k1 c om]
  have E2:Ext H.next H H2:=⟨om,kk⟩
  have l0:oLoad false 1 H2 (cellR H.next 5 0)=some (.int .i64 (args.length:Int)):=row_load r2 rfl rfl
  have l4:oLoad false 1 H2 (cellR H.next 5 4)=some (kdA own):=row_load r2 rfl rfl
  have c2:Cel n H2 v (tyL ts):=c.ext ⟨om,fun b hb=>kk b om⟩
  have s3:=aS3 (b:=H.next) h3
  have d2:Cel (H.next+1) H2 (.slice (some ⟨H.next,5,1⟩) args.length (.known 3)) (tyL args):=by
   refine .inr ⟨⟨H.next,5,1⟩,.known 3,by rw[tyL_len],by show H.next<H.next+1; omega,?_⟩
   have:=rd_row r2 (n:=5) rfl (i:=1) (k:=args.length) om
   rw[tyL_len,this]
   match args,h3 with
   | [],_=>rfl
   | [_],_=>rfl
   | [_,_],_=>rfl
   | [_,_,_],_=>rfl
  simp only[c192,sA,sB,seval,fldA,fld0,nil_cell,lb,lk,ext_0,ext_1,m1,m2,ln,l0]
  by_cases hne:ts.length=args.length
  case neg=>
   have hne':¬(ts.length:Int)=(args.length:Int):=om
   simp only[sA,sB,seval,hne,hne',ne_eq,not_false_eq_true,if_true]
   exact⟨tt,E2⟩
  have hne':(ts.length:Int)=(args.length:Int):=om
  simp only[sA,sB,seval,hne',s3,fldA,fld0,l0]
  refine (sequal_spec c2 d2 hl).mono ?_
  rintro u _ ⟨rfl,rfl⟩
  by_cases he:ts=args
  ·subst he
   simp only[sA,sB,seval,fldA,l4]
   simp
   exact E2
  ·have hd:decide (ts=args)=false:=decide_eq_false he
   simp only[sA,sB,seval,hd]
   simp[hne,he]
   exact⟨rfl,E2⟩
open Go.Abs Go.Abs.S
theorem callT_err{s:Bs}{ts:List Nat}{f:Nat}(h:callT s ts=.error f):f≠0:=by
 unfold callT at h
 repeat' split at h
 all_goals first | (simp at h; done) | (simp only[Except.error.injEq]at h; omega)
theorem kindT_err{E:Env'}{k:Nat}{s:Bs}{ts:List Nat}{f:Nat}(h:kindT E k s ts=.error f):f≠0:=by
 unfold kindT at h
 repeat' split at h
 all_goals first | (simp at h; done) | exact callT_err h | (simp only[Except.error.injEq]at h; omega)
mutual
theorem tyE_err{E:Env'}:∀{e:Ex} {f:Nat},tyE E e=.error f→f≠0
 | .mk k s n kids,f,h=>by
  simp only[tyE]at h
  cases hk:tyEs E kids with
  | error g=>
   rw[hk]at h
   simp only[Except.error.injEq]at h
   subst h
   exact tyEs_err hk
  | ok ts=>
   rw[hk]at h
   exact kindT_err h
theorem tyEs_err{E:Env'}:∀{l:List Ex} {f:Nat},tyEs E l=.error f→f≠0
 | [],f,h=>by simp[tyEs]at h
 | e::l,f,h=>by
  simp only[tyEs]at h
  cases he:tyE E e with
  | error g=>
   rw[he]at h
   simp only[Except.error.injEq]at h
   subst h
   exact tyE_err he
  | ok t=>
   rw[he]at h
   cases hl:tyEs E l with
   | error g=>
    rw[hl]at h
    simp only[Except.error.injEq]at h
    subst h
    exact tyEs_err hl
   | ok ts=>rw[hl]at h; simp at h
end
def fKn(E:Env')(Q:Nat→Prop)(H:AHeap)(kids:List Ex)(x:AVal):Prop:=match tyEs E kids with
 | .ok ts=>∃v,x=.agg [v,.int .i64 0]∧LinM 1 H v (tyL ts) ts.length∧Blk v Q
 | .error f=>x=.agg [nilS,.int .i64 (f:Int)]
theorem fKn.keep{E:Env'}{Q Q':Nat→Prop}{H H':AHeap}{kids:List Ex}{x:AVal}(h:fKn E Q H kids x)(hn:H.next≤H'.next)(q:∀b,Q b→b<H.next→Q' b∧H'.get b=H.get b):fKn E Q' H' kids x:=by
 unfold fKn at h ⊢
 split at h
 ·obtain⟨v,h1,h2,h3⟩:=h
  have hb:=h2.blk
  exact⟨v,h1,h2.same hn fun a j r e=>(q _ (h3 a j r e) (hb a j r e)).2,fun a j r e=>(q _ (h3 a j r e) (hb a j r e)).1⟩
 ·exact h
structure AskS(E:Env')(n0 n1 ab:Nat)(vn vk:AVal)(mb mt mk:Nat)(Q:Nat→Prop)(H:AHeap):Prop where
 ask:AskR ab vn vk mb mt mk H
 abl:ab<H.next∧ab≠mk
 n0l:n0≤mk∧n0≤H.next
 blt:bltM mb H
 mbl:mb<H.next∧mb≠mk
 n1l:n1≤mk∧n1≤H.next
 nm:Cel n1 H vn (nmL E)
 kd:Cel n1 H vk (kdL E)
 kn:MapOk (·<n0) (fKn E Q) mk H
 hQ:∀b,Q b→b<H.next∧b≠mk
theorem AskS.step{E:Env'}{n0 n1 ab mb mt mk:Nat}{vn vk:AVal}{Q Q':Nat→Prop}{H H':AHeap}(A:AskS E n0 n1 ab vn vk mb mt mk Q H)(hn:H.next≤H'.next)(hab:H'.get ab=H.get ab)(hmb:H'.get mb=H.get mb)(hold:∀c,c<n0∨c<n1→H'.get c=H.get c)
  (hk:MapOk (·<n0) (fKn E Q') mk H') (hQ':∀b,Q' b→b<H'.next∧b≠mk):AskS E n0 n1 ab vn vk mb mt mk Q' H':=by
 have h1:=A.abl; have h2:=A.n0l; have h3:=A.mbl; have h4:=A.n1l
 have e1:Ext n1 H H':=⟨hn,fun c hc=>hold c (.inr hc)⟩
 exact⟨A.ask.same hab,⟨om,h1.2⟩,⟨h2.1,om⟩,hmb.trans A.blt,⟨om,h3.2⟩,⟨h4.1,om⟩,A.nm.ext e1,A.kd.ext e1,hk,hQ'⟩
theorem AskS.ext{E:Env'}{n0 n1 ab mb mt mk:Nat}{vn vk:AVal}{Q Q':Nat→Prop}{H H':AHeap}(A:AskS E n0 n1 ab vn vk mb mt mk Q H)(hn:H.next≤H'.next)(hold:∀c,c<H.next→(Q c∨c=ab∨c=mb∨c=mk∨c<n0∨c<n1)→H'.get c=H.get c)(hQ:∀b,Q b→Q' b)(hQ':∀b,Q' b→b<H'.next∧b≠mk):AskS E n0 n1 ab vn vk mb mt mk Q' H':=by
 have h1:=A.abl; have h2:=A.n0l; have h3:=A.mbl; have h4:=A.n1l; have h5:=A.kn.1
 refine A.step hn (hold _ h1.1 (.inr (.inl rfl))) (hold _ h3.1 (.inr (.inr (.inl rfl)))) (fun c hc=>?_) (A.kn.keep hn (hold _ h5 (.inr (.inr (.inr (.inl rfl))))) (fun b hb=>⟨hb,hold b (by have:b<n0:=hb; omega) (.inr (.inr (.inr (.inr (.inl hb)))))⟩) fun k y q=>q.keep hn fun b hb hl=>⟨hQ b hb,hold b hl (.inl hb)⟩) hQ'
 rcases hc with hc | hc
 ·exact hold c om (.inr (.inr (.inr (.inr (.inl hc)))))
 ·exact hold c om (.inr (.inr (.inr (.inr (.inr hc)))))
def QX(Q:Nat→Prop)(n m:Nat)(b:Nat):Prop:=Q b∨n≤b∧b<m
def tyO(o:Except Nat Nat):AVal:=match o with
 | .ok t=>.tuple [kdA t,.int .i64 0]
 | .error f=>.tuple [kdA 0,.int .i64 (f:Int)]
def OfP(E:Env')(n0 n1 ab:Nat)(vn vk:AVal)(mb mt mk:Nat)(N:Nat):Prop:=∀{e:Ex} {c:List AVal} {p:AVal} {H:AHeap} {Q:Nat→Prop},e.size≤N→AskS E n0 n1 ab vn vk mb mt mk Q H→PtC H p c→(∀a,p=.ptr (some a)→a.b<H.next∧a.b≠mk)→XEw (·<n0) H e c→okE e=true →
 ACalls Tryz.prog natT 169 [cellR ab 5 0,p] H fun u H'=>u=tyO (tyE E e)∧Fp mk H H'∧AskS E n0 n1 ab vn vk mb mt mk (QX Q H.next H'.next) H'
def ListO(E:Env')(n0 n1 ab:Nat)(vn vk:AVal)(mb mt mk:Nat)(Q:Nat→Prop)(H:AHeap)(kids:List Ex)(u:AVal)(H':AHeap):Prop:=(match tyEs E kids with
  | .ok ts=>∃w,u=.tuple [w,.int .i64 0]∧LinM 1 H' w (tyL ts) ts.length∧Blk w (QX Q H.next H'.next)
  | .error f=>u=.tuple [nilS,.int .i64 (f:Int)])∧Fp mk H H'∧AskS E n0 n1 ab vn vk mb mt mk (QX Q H.next H'.next) H'
def ListP(E:Env')(n0 n1 ab:Nat)(vn vk:AVal)(mb mt mk:Nat)(N:Nat):Prop:=∀{kids:List Ex} {C:List AVal} {v:AVal} {H:AHeap} {Q:Nat→Prop},sizesE kids≤N→AskS E n0 n1 ab vn vk mb mt mk Q H→WhK (·<n0) H 4 v kids.length C→XEws (·<n0) H kids C→oksE kids=true →
 ACalls Tryz.prog natT 190 [cellR ab 5 0,v] H (ListO E n0 n1 ab vn vk mb mt mk Q H kids)
theorem AskS.qx{E:Env'}{n0 n1 ab mb mt mk:Nat}{vn vk:AVal}{Q:Nat→Prop}{H:AHeap}(A:AskS E n0 n1 ab vn vk mb mt mk Q H){n m:Nat}(hn:H.next≤n)(hm:n≤m):∀b,QX Q n m b→b<m∧b≠mk:=by
 intro b hb
 have:=A.kn.1
 rcases hb with hb | hb
 ·have:=A.hQ b hb; omega
 ·omega
theorem QX.sub{Q:Nat→Prop}{a b c d:Nat}(hab:b≤a)(hbd:c≤d){x:Nat}(h:QX Q a c x):QX Q b d x:=by
 rcases h with h | ⟨h1,h2⟩
 ·exact .inl h
 ·exact .inr ⟨om,om⟩
theorem okE_kids{k:Nat}{s:Bs}{n:Int}{kids:List Ex}(h:okE (.mk k s n kids)=true):partF k s n kids.length=true∧oksE kids=true:=by
 simpa[okE] using h
theorem partF_k{k:Nat}{s:Bs}{n:Int}{m:Nat}(h:partF k s n m=true):(k=1∨k=2∨k=3∨k=4)∧(k=3→opF s m=true)∧((k=1∨k=2)→m=0):=by
 unfold partF at h
 by_cases h1:k=1
 ·rw[if_pos h1]at h; simp at h; exact⟨.inl h1,fun e=>om,fun _=>h.2.2⟩
 rw[if_neg h1]at h
 by_cases h2:k=2
 ·rw[if_pos h2]at h; simp at h; exact⟨.inr (.inl h2),fun e=>om,fun _=>h.2.2⟩
 rw[if_neg h2]at h
 by_cases h3:k=3
 ·rw[if_pos h3]at h; simp at h; exact⟨.inr (.inr (.inl h3)),fun _=>h.2,fun e=>om⟩
 rw[if_neg h3]at h
 by_cases h4:k=4
 ·exact⟨.inr (.inr (.inr h4)),fun e=>om,fun e=>om⟩
 ·rw[if_neg h4]at h; simp at h
theorem ofP{E:Env'}(hE:Scp E){n0 n1 ab mb mt mk:Nat}{vn vk:AVal}{N:Nat}(hEl:E.length≤1000000)(hN:N≤1000000)(ih:ListP E n0 n1 ab vn vk mb mt mk N):OfP E n0 n1 ab vn vk mb mt mk (N+1):=by
 intro e c p H Q hsz A pt hp hx hok
 obtain⟨k,s,n,kids⟩:=e
 obtain⟨v,C,rfl,z1,z2⟩:=hx
 obtain⟨hpf,hks⟩:=okE_kids hok
 obtain⟨hk4,hop,hk0⟩:=partF_k hpf
 have hs1:(Ex.mk k s n kids).size=sizesE kids+1:=rfl
 have l3:oLoad false 1 H (fp p 3)=some v:=pt.load (o:=3) rfl
 have f3:=pt.fld 3
 have nc:=pt.chk
 refine acalls_ofN rfl za169 rfl ?_
 simp only[c169,sA,sB,seval,nc,f3,l3]
 refine (ih om A z1 z2 hks).mono ?_
 rintro u H1 ⟨hu,F1,A1⟩
 have e1:=F1.next
 have pt1:PtC H1 p [.int .u8 (k:Int),.str s,.int .i64 n,v]:=pt.fp F1 hp
 have f0:=pt1.fld0
 have f1:=pt1.fld 1
 have l0:oLoad false 1 H1 p=some (.int .u8 (k:Int)):=pt1.load0 rfl
 have l1:oLoad false 1 H1 (fp p 1)=some (.str s):=pt1.load (o:=1) rfl
 simp only[tyE]
 cases hty:tyEs E kids with
 | error f=>
  rw[hty]at hu
  subst hu
  have hf:=tyEs_err hty
  have hf':¬(f:Int)=0:=om
  simp only[sA,sB,seval,ext_0,ext_1,hf']
  exact⟨tt,F1,A1⟩
 | ok ts=>
  rw[hty]at hu
  obtain⟨w,rfl,hw,hwb⟩:=hu
  have htl:=tyEs_len hty
  have ht2:=tyEs_two hE hty
  simp only[sA,sB,seval,ext_0,ext_1,nc,f0,l0]
  rcases hk4 with rfl | rfl | rfl | rfl
  ·have e1:kindT E 1 s ts=.ok 1:=rfl
   simp only[sA,sB,seval,e1,Int.cast_ofNat_Int]
   exact⟨tt,F1,A1⟩
  ·-- a name
   have e2:kindT E 2 s ts=match lastT E s with | some t=>.ok t | none=>.error 110:=rfl
   have la0:oLoad false 1 H1 (cellR ab 5 0)=some vn:=row_load A1.ask rfl rfl
   have la1:oLoad false 1 H1 (cellR ab 5 1)=some vk:=row_load A1.ask rfl rfl
   have lnn:=A1.nm.len
   rw[nmL_len]at lnn
   have w0:IntKind.i64.wrap ((E.length:Int)-1)=(E.length:Int)-1:=w64
   simp only[sA,sB,seval,Int.cast_ofNat_Int,nil_cell,fld0,la0,lnn,w0]
   refine aw_loop (fun m (T:Env) K=>H1=K∧∃i:Nat,m=i∧i≤E.length∧T 0=cellR ab 5 0∧T 1=p∧T 8=.int .i64 ((i:Int)-1)∧lastT E s=lastT (E.take i) s) E.length
    ⟨rfl,E.length,rfl,Nat.le_refl _,by simp only[sA,sB,seval],by simp only[sA,sB,seval]; try rfl,by simp only[sA,sB,seval],by rw[List.take_length]⟩ ?_
   rintro m T _ ⟨rfl,i,rfl,hi,t0,t1,t8,hl⟩
   cases m with
   | zero=>
    have h0:¬(0:Int)≤((0:Nat):Int)-1:=om
    have hn:lastT E s=none:=by rw[hl]; rfl
    simp only[sA,sB,seval,t0,t1,t8,h0,e2,hn]
    exact⟨tt,F1,A1⟩
   | succ i=>
    have h0:(0:Int)≤((i+1:Nat):Int)-1:=om
    obtain⟨y,hy⟩:∃y,E[i]?=some y:=⟨_,List.getElem?_eq_getElem om⟩
    have hts:E.take (i+1)=E.take i++[y]:=by rw[List.take_add_one,hy]; rfl
    rw[hts,lastT_snoc]at hl
    have ie:((i+1:Nat):Int)-1=(i:Int):=om
    rw[ie]at h0 t8
    have i1:=A1.nm.idx .i64 (i:=i) (by rw[nmL_len]; omega)
    have q1:=A1.nm.load (i:=i) (x:=.str y.1) (by simp[nmL,hy])
    have i2:=A1.kd.idx .i64 (i:=i) (by rw[kdL_len]; omega)
    have q2:=A1.kd.load (i:=i) (x:=kdA y.2) (by simp[kdL,hy])
    have wi:IntKind.i64.wrap ((i:Int)-1)=(i:Int)-1:=w64
    by_cases hs:y.1=s
    ·rw[if_pos hs]at hl
     simp only[sA,sB,seval,t0,t1,t8,h0,nil_cell,fld0,fldA,la0,la1,i1,q1,i2,q2,nc,f1,l1,hs,e2,hl]
     exact⟨tt,F1,A1⟩
    ·rw[if_neg hs]at hl
     simp only[sA,sB,seval,t0,t1,t8,h0,nil_cell,fld0,fldA,la0,la1,i1,q1,i2,q2,nc,f1,l1,hs,wi]
     exact⟨i,om,tt,i,rfl,om,tt,tt,tt,hl⟩
  ·-- an operation
   have e3:kindT E 3 s ts=if opT s ts=0 then .error 111 else .ok (opT s ts):=rfl
   have hc:=(LinM.cel1 hw hw.blk).1
   simp only[sA,sB,seval,Int.cast_ofNat_Int,nc,f1,l1]
   refine (toper_spec hc (by rw[htl]; exact hop rfl) ht2).mono ?_
   rintro _ _ ⟨rfl,rfl⟩
   by_cases h0:opT s ts=0
   ·rw[e3,if_pos h0]
    simp only[sA,sB,seval,kdA,h0,Int.cast_ofNat_Int]
    exact⟨tt,F1,A1⟩
   ·have h0':¬(opT s ts:Int)=0:=om
    rw[e3,if_neg h0]
    simp only[sA,sB,seval,kdA,h0']
    exact⟨tt,F1,A1⟩
  ·-- a call
   have e4:kindT E 4 s ts=callT s ts:=rfl
   have hc:=(LinM.cel1 hw hw.blk).1
   simp only[sA,sB,seval,Int.cast_ofNat_Int,nc,f1,l1]
   refine (tcall_spec (s:=s) A1.ask A1.abl.1 A1.blt hc rL (by have:=len_sizesE kids; omega)).mono ?_
   rintro _ H2 ⟨rfl,E2⟩
   have e2:=E2.next
   have A2:AskS E n0 n1 ab vn vk mb mt mk (QX Q H.next H2.next) H2:=A1.ext e2 (fun c hc _=>E2.old c hc) (fun b hb=>hb.sub rL e2) (A.qx rL om)
   rw[e4]
   cases hct:callT s ts with
   | ok t=>
    simp only[sA,sB,seval,ext_0,ext_1]
    exact⟨tt,F1.trans ⟨e2,fun c hc _=>E2.old c hc⟩,A2⟩
   | error f=>
    simp only[sA,sB,seval,ext_0,ext_1]
    exact⟨tt,F1.trans ⟨e2,fun c hc _=>E2.old c hc⟩,A2⟩
open Go.Abs Go.Abs.S
theorem bTold(f:Int):aBuild [.slice none 0 (.known 0),.int .i64 0] [(1,1,.int .i64 f)]=some (.agg [nilS,.int .i64 f]):=rfl
theorem tyL_snoc(ts:List Nat)(t:Nat):tyL ts++[kdA t]=tyL (ts++[t]):=by simp[tyL]
theorem kid_at{l:List Ex}(h:oksE l=true){e:Ex}(he:e∈l):okE e=true:=by
 induction l with
 | nil=>simp at he
 | cons x l ih=>
  simp only[oksE,Bool.and_eq_true]at h
  rcases List.mem_cons.1 he with rfl | he
  ·exact h.1
  ·exact ih h.2 he
theorem listP0{E:Env'}{n0 n1 ab mb mt mk:Nat}{vn vk:AVal}:ListP E n0 n1 ab vn vk mb mt mk 0:=by
 intro kids C v H Q hsz A z1 z2 hok
 have hk0:kids=[]:=by
  cases kids with
  | nil=>rfl
  | cons x l=>cases x; simp only[sizesE,Ex.size]at hsz; omega
 subst hk0
 have ln:=z1.sl.len
 have h0:(([]:List Ex).length:Int)=0:=rfl
 refine acalls_ofN rfl za190 rfl ?_
 simp only[c190,sA,sB,seval,ln,h0]
 exact⟨⟨nilS,tt,.inl ⟨rfl,rfl,rfl⟩,blk_nil _⟩,Fp.refl _ _,A.ext rL (fun _ _ _=>rfl) (fun b hb=>.inl hb) (A.qx rL rL)⟩
theorem listP{E:Env'}(hE:Scp E){n0 n1 ab mb mt mk:Nat}{vn vk:AVal}{N:Nat}(hN:N≤1000000)(ih:OfP E n0 n1 ab vn vk mb mt mk N):ListP E n0 n1 ab vn vk mb mt mk N:=by
 intro kids C v H Q hsz A z1 z2 hok
 have ln:=z1.sl.len
 by_cases hk0:kids=[]
 ·subst hk0
  exact listP0 (by simp[sizesE]) A z1 z2 hok
 have hkp:0<kids.length:=List.length_pos_iff.2 hk0
 have hkn:¬(kids.length:Int)=0:=om
 obtain⟨b,low,r,rfl,hb,hg,hlow,hC⟩:=z1.pos hkp
 have hmk:=A.kn.1
 have hab:=A.abl
 have hmb:=A.mbl
 have hn0:=A.n0l
 have hn1:=A.n1l
 refine acalls_ofN rfl za190 rfl ?_
 simp only[c190,sA,sB,seval,ln,hkn]
 refine (tplace_spec hkp).mono ?_
 rintro _ H1 ⟨rfl,E1⟩
 have e1:=E1.next
 obtain⟨H2,m2,r2,n2,k2⟩:=row_newL H1 [.ptr none,.int .i64 0] (n:=2) rfl
 obtain⟨H3,m3,r3,n3,k3⟩:=row_storeN r2 (n:=2) rfl (xs:=[.ptr (some ⟨b,C.length,0⟩),.int .i64 (kids.length:Int)]) rfl rfl
 have m3':oStore 2 H2 (cellR H1.next 2 0) (plKey b C.length kids.length)=some H3:=m3
 obtain⟨kb,hkb⟩:∃kb,kb=H1.next:=⟨_,rfl⟩
 rw[← hkb]at r3 m3' m2 k2 k3
 obtain⟨H4,hH4⟩:∃J,J=H3.push (.cells [.slice none 0 (.known 0),.int .i64 0] 0 false):=⟨_,rfl⟩
 have n4:H4.next=H3.next+1:=by rw[hH4]; rfl
 have g4:H4.get H3.next=some (.cells [.slice none 0 (.known 0),.int .i64 0] 0 false):=by rw[hH4,AHeap.get_push,if_pos rfl]
 have k04:∀c,c<H.next→H4.get c=H.get c:=fun c hc=>by rw[hH4,get_push_lt om,k3 c om,k2 c om,E1.old c hc]
 have A4:AskS E n0 n1 ab vn vk mb mt mk Q H4:=A.ext om (fun c hc _=>k04 c hc) (fun b hb=>hb) (fun b hb=>by have:=A.hQ b hb; omega)
 have lm:oLoad false 1 H4 (cellR ab 5 4)=some (.map (some mk)):=row_load A4.ask rfl rfl
 have r34:Row H4 kb [.ptr (some ⟨b,C.length,0⟩),.int .i64 (kids.length:Int)]:=r3.same (by rw[hH4,get_push_lt om])
 have lp:oLoad true 2 H4 (cellR kb 2 0)=some (plKey b C.length kids.length):=row_loadN r34 rfl
 have hgt:∀{K:AHeap},(∀c,c<n0→K.get c=H.get c)→K.get b=some (.cells C low false):=fun h=>(h b hb).trans hg
 have z24:XEws (·<n0) H4 kids C:=z2.mono fun c hc=>⟨hc,k04 c (by have:c<n0:=hc; omega)⟩
 have hg4:=hgt (K:=H4) fun c hc=>k04 c om
 have cl4:aClaim H4 H3.next _ none=some (cellR H3.next 2 0):=claim_ok g4 rfl
 rcases A4.kn.look hg4 z24 (.agg [.slice none 0 (.known 0),.int .i64 0]) with q | ⟨y,hy,q⟩
 case inr=>
  have q':aHf (.pLook (.p,.i) true (.agg [.slice none 0 (.known 0),.int .i64 0])) H4 [.map (some mk),plKey b C.length kids.length]=some (.tuple [y,.bool true],H4):=q
  obtain⟨y0,y1,rfl,hone⟩:∃y0 y1,y=.agg [y0,y1]∧[y0,y1].all AVal.one=true:=by
   unfold fKn at hy
   split at hy
   ·obtain⟨w,rfl,h2,_⟩:=hy
    exact⟨_,_,rfl,by simp only[List.all_cons,List.all_nil,h2.one]; rfl⟩
   ·exact⟨_,_,hy,rfl⟩
  obtain⟨H5,m5,r5,n5,k5⟩:=row_storeN (H:=H4) (b:=H3.next) ⟨0,g4,Nat.zero_le _⟩ (n:=2) rfl (xs:=[y0,y1]) rfl hone
  have l50:oLoad false 1 H5 (cellR H3.next 2 0)=some y0:=row_load r5 rfl rfl
  have l51:oLoad false 1 H5 (cellR H3.next 2 1)=some y1:=row_load r5 rfl rfl
  simp only[sA,sB,seval,m2,m3',nil_cell]
  refine aw_drawN ?_
  simp only[claims,newOf,reserves,resO_0,clOp_new,← hH4]
  simp only[sR,sA,sB,seval,nil_cell,fldA,lm,lp,q',ext_0,ext_1,tr_claim,cl4,m5]
  simp only[ck_nil',ck_cons,ckP_load,ckP_claim,ckP_nil,ck_end,and_true,true_and,List.map_cons,List.map_nil,sA,sB,seval]
  refine⟨⟨_,rfl,fun _=>⟨_,cl4,aeq_cellR _ _ _⟩⟩,?_⟩
  simp only[sA,sB,seval,fld0,fldA,l50,l51]
  have F5:Fp mk H H5:=⟨om,fun c hc _=>by rw[k5 c om,k04 c hc]⟩
  have A5:AskS E n0 n1 ab vn vk mb mt mk (QX Q H.next H5.next) H5:=A.ext om (fun c hc _=>by rw[k5 c om,k04 c hc]) (fun b hb=>.inl hb) (A.qx rL om)
  have hy5:fKn E Q H5 kids (.agg [y0,y1]):=hy.keep om fun b hb hl=>⟨hb,k5 b (by have:=A.hQ b hb; omega)⟩
  refine⟨?_,F5,A5⟩
  unfold fKn at hy5
  split at hy5
  ·obtain⟨w,e,h2,h3⟩:=hy5
   simp only[AVal.agg.injEq,List.cons.injEq,and_true]at e
   obtain⟨rfl,rfl⟩:=e
   exact⟨y0,tt,h2,h3.mono fun b hb=>.inl hb⟩
  ·simp only[AVal.agg.injEq,List.cons.injEq,and_true]at hy5
   obtain⟨rfl,rfl⟩:=hy5
   exact tt
 have q':aHf (.pLook (.p,.i) true (.agg [.slice none 0 (.known 0),.int .i64 0])) H4 [.map (some mk),plKey b C.length kids.length]=some (.tuple [.agg [.slice none 0 (.known 0),.int .i64 0],.bool false],H4):=q
 obtain⟨H5,m5,r5,n5,k5⟩:=row_storeN (H:=H4) (b:=H3.next) ⟨0,g4,Nat.zero_le _⟩ (n:=2) rfl (xs:=[.slice none 0 (.known 0),.int .i64 0]) rfl rfl
 obtain⟨H6,m6,r6,n6,k6⟩:=row_newL H5 [.slice none 0 (.known 0),.int .i64 0] (n:=2) rfl
 have ln':aLenK false (.slice (some ⟨b,C.length,0⟩) kids.length r)=some (.int .i64 (kids.length:Int)):=rfl
 simp only[sA,sB,seval,m2,m3',nil_cell]
 refine aw_drawN ?_
 simp only[claims,newOf,reserves,resO_0,clOp_new,← hH4]
 simp only[sR,sA,sB,seval,nil_cell,fldA,lm,lp,q',ext_0,ext_1,tr_claim,cl4,m5]
 simp only[ck_nil',ck_cons,ckP_load,ckP_claim,ckP_nil,ck_end,and_true,true_and,List.map_cons,List.map_nil,sA,sB,seval]
 refine⟨⟨_,rfl,fun _=>⟨_,cl4,aeq_cellR _ _ _⟩⟩,?_⟩
 obtain⟨cb,hcb⟩:∃cb,cb=H5.next:=⟨_,rfl⟩
 rw[← hcb]at m6 r6 k6
 have k06:∀c,c<H.next→H6.get c=H.get c:=fun c hc=>by rw[k6 c om,k5 c om,k04 c hc]
 have done:∀(K:AHeap) (y0 y1:AVal),H6.next≤K.next→(∀c,c<H6.next→c≠mk→c≠cb→K.get c=H6.get c)→Row K cb [y0,y1]→AskS E n0 n1 ab vn vk mb mt mk (QX Q H6.next K.next) K→fKn E (QX Q H6.next K.next) K kids (.agg [y0,y1]) →
   ∃K2,aHf (.pUpd (.p,.i)) K [.map (some mk),plKey b C.length kids.length,.agg [y0,y1]]=some (.tuple [],K2)∧oLoad false 1 K (cellR ab 5 4)=some (.map (some mk))∧oLoad true 2 K (cellR kb 2 0)=some (plKey b C.length kids.length)∧oLoad true 2 K (cellR cb 2 0)=some (.agg [y0,y1]) ∧
    oLoad false 1 K2 (cellR cb 2 0)=some y0∧oLoad false 1 K2 (cellR cb 2 1)=some y1∧ListO E n0 n1 ab vn vk mb mt mk Q H kids (.tuple [y0,y1]) K2:=by
  intro K y0 y1 nK hK hr AK hf
  have rkb:Row K kb [.ptr (some ⟨b,C.length,0⟩),.int .i64 (kids.length:Int)]:=r34.same (by rw[hK kb om om om,k6 kb om,k5 kb om])
  have z2K:XEws (·<n0) K kids C:=z2.mono fun c hc=>⟨hc,by have:c<n0:=hc; rw[hK c om om om,k06 c om]⟩
  have hgK:=hgt (K:=K) fun c hc=>by rw[hK c om om om,k06 c om]
  obtain⟨K2,u1,u2,u3,u4⟩:=AK.kn.upd hgK z2K hb (fun c hc=>by have:c<n0:=hc; omega) (y:=.agg [y0,y1]) (by
   rintro H' o1 o2 k x (h | ⟨rfl,rfl⟩)
   ·exact h.keep om fun b hb _=>⟨hb,o1 b (AK.hQ b hb).2⟩
   ·exact hf.keep om fun b hb _=>⟨hb,o1 b (AK.hQ b hb).2⟩)
  have hr2:Row K2 cb [y0,y1]:=hr.same (u4 cb om)
  have F:Fp mk H K2:=⟨om,fun c hc hne=>by rw[u4 c hne,hK c om hne om,k06 c hc]⟩
  have A2:AskS E n0 n1 ab vn vk mb mt mk (QX Q H6.next K.next) K2:=AK.step om (u4 ab hab.2) (u4 mb hmb.2) (fun c hc=>u4 c om) u2 fun b hb=>by have:=AK.hQ b hb; omega
  have A3:AskS E n0 n1 ab vn vk mb mt mk (QX Q H.next K2.next) K2:=A2.ext rL (fun _ _ _=>rfl) (fun b hb=>hb.sub om om) (A.qx rL om)
  have hf2:fKn E (QX Q H.next K2.next) K2 kids (.agg [y0,y1]):=hf.keep om fun b hb _=>⟨hb.sub om om,u4 b (AK.hQ b hb).2⟩
  refine⟨K2,u1,row_load AK.ask rfl rfl,row_loadN rkb rfl,row_loadN hr rfl,row_load hr2 rfl rfl,row_load hr2 rfl rfl,?_,F,A3⟩
  unfold fKn at hf2
  split at hf2
  ·obtain⟨w,e,h2,h3⟩:=hf2
   simp only[AVal.agg.injEq,List.cons.injEq,and_true]at e
   obtain⟨rfl,rfl⟩:=e
   exact⟨y0,tt,h2,h3⟩
  ·simp only[AVal.agg.injEq,List.cons.injEq,and_true]at hf2
   obtain⟨rfl,rfl⟩:=hf2
   exact tt
 have A6:AskS E n0 n1 ab vn vk mb mt mk Q H6:=A.ext om (fun c hc _=>k06 c hc) (fun b hb=>hb) (fun b hb=>by have:=A.hQ b hb; omega)
 simp only[sA,sB,seval,m6,ln']
 refine aw_loop (fun m (T:Env) K=>∃(i:Nat) (s:AVal) (ts:List Nat),m=kids.length-i∧i≤kids.length∧T 0=cellR ab 5 0∧T 1=.slice (some ⟨b,C.length,0⟩) kids.length r∧T 6=cellR kb 2 0∧T 9=cellR cb 2 0∧T 33=.int .i64 (kids.length:Int)∧T 34=.int .i64 (i:Int) ∧
   tyEs E (kids.take i)=.ok ts∧Row K cb [s,.int .i64 0]∧LinM 1 K s (tyL ts) ts.length∧Blk s (H6.next≤·)∧AskS E n0 n1 ab vn vk mb mt mk (fun x=>QX Q H6.next K.next x∧Blk s (x≠·)) K∧H6.next≤K.next∧∀c,c<H6.next→c≠mk→c≠cb→K.get c=H6.get c) kids.length
  ⟨0,nilS,[],rfl,Nat.zero_le _,by simp only[sA,sB,seval]; try rfl,by simp only[sA,sB,seval]; try rfl,by simp only[sA,sB,seval,hkb]; try rfl,by simp only[sA,sB,seval]; try rfl,by simp only[sA,sB,seval]; try rfl,by simp only[sA,sB,seval]; try rfl,rfl,r6,.inl ⟨rfl,rfl,rfl⟩,blk_nil _,A6.ext rL (fun _ _ _=>rfl) (fun b hb=>⟨.inl hb,blk_nil _⟩) (fun b hb=>A6.qx rL rL b hb.1),Nat.le_refl _,fun _ _ _ _=>rfl⟩ ?_
 rintro m T K ⟨i,s,ts,rfl,hi,t0,t1,t6,t9,t33,t34,hty,rK,lK,bK,AK,nK,hK⟩
 have hlen:ts.length=i:=by rw[tyEs_len hty,List.length_take]; omega
 have AK':AskS E n0 n1 ab vn vk mb mt mk (QX Q H6.next K.next) K:=AK.ext rL (fun _ _ _=>rfl) (fun b hb=>hb.1) (A6.qx rL nK)
 have bsK:=lK.blk
 by_cases hlt:i<kids.length
 case neg=>
  have hi':i=kids.length:=om
  have hlt':¬(i:Int)<(kids.length:Int):=om
  rw[hi',List.take_length]at hty
  have hf:fKn E (QX Q H6.next K.next) K kids (.agg [s,.int .i64 0]):=by
   unfold fKn
   rw[hty]
   exact⟨s,rfl,lK,fun a j r e=>.inr ⟨bK a j r e,bsK a j r e⟩⟩
  obtain⟨K2,u1,u2,u3,u4,u5,u6,u7⟩:=done K s (.int .i64 0) nK hK rK AK' hf
  simp only[sA,sB,seval,t0,t1,t6,t9,t33,t34,hlt',nil_cell,fldA,fld0,u1,u2,u3,u4,u5,u6]
  exact u7
 have hlt':(i:Int)<(kids.length:Int):=om
 obtain⟨e,he⟩:∃e,kids[i]?=some e:=⟨_,List.getElem?_eq_getElem hlt⟩
 have hts:kids.take (i+1)=kids.take i++[e]:=by rw[List.take_add_one,he]; rfl
 have hmem:=List.mem_of_getElem? he
 have hsm:=sizesE_memT hmem
 have kmK:∀c,c<n0→c<n0∧K.get c=H.get c:=fun c hc=>⟨hc,by rw[hK c om om om,k06 c om]⟩
 have hgK:=hgt (K:=K) fun c hc=>(kmK c hc).2
 have z1K:WhK (·<n0) K 4 (.slice (some ⟨b,C.length,0⟩) kids.length r) kids.length C:=.inr ⟨b,low,r,rfl,hb,hgK,hlow,hC⟩
 have ix:=z1K.sl.idx hlt
 have pt:=z1K.sl.pt hlt
 have pb:=z1K.sl.blk hlt
 have hx:=(z2.mono kmK).at he
 have h4l:=hx.len
 have wi:IntKind.i64.wrap ((i:Int)+1)=((i+1:Nat):Int):=addN i 1 (by have:=len_sizesE kids; omega)
 simp only[sA,sB,seval,t0,t1,t6,t9,t33,t34,hlt',ix]
 refine (ih om AK pt (fun a e=>by have:a.b<n0:=pb a e; omega) hx (kid_at hok hmem)).mono ?_
 rintro u K2 ⟨rfl,F2,A2⟩
 have e2:=F2.next
 have rK2:Row K2 cb [s,.int .i64 0]:=rK.same (F2.old cb om om)
 have lK2:LinM 1 K2 s (tyL ts) ts.length:=lK.same e2 fun a j r e=>F2.old _ (bsK a j r e) (by have:=bK a j r e; omega)
 have hK2:∀c,c<H6.next→c≠mk→c≠cb→K2.get c=H6.get c:=fun c h1 h2 h3=>by rw[F2.old c om h2,hK c h1 h2 h3]
 cases hte:tyE E e with
 | error f=>
  have hf0:=tyE_err hte
  have hf':¬(f:Int)=0:=om
  have hbad:tyEs E kids=.error f:=tyEs_bad i ⟨ts,hty⟩ he hte
  obtain⟨K3,m3,r3,n3,k3⟩:=row_storeN rK2 (n:=2) rfl (xs:=[nilS,.int .i64 (f:Int)]) rfl rfl
  have A3:AskS E n0 n1 ab vn vk mb mt mk (QX Q H6.next K3.next) K3:=A2.ext om (fun c hc hq=>k3 c (by
   rcases hq with hq | hq | hq | hq | hq | hq
   ·rintro rfl
    rcases hq with⟨hq,_⟩ | ⟨hq,_⟩
    ·rcases hq with hq | ⟨hq,_⟩
     ·have:=A.hQ _ hq; omega
     ·omega
    ·omega
   all_goals omega)) (fun b hb=>by
    rcases hb with⟨hb,_⟩ | hb
    ·exact hb.sub rL om
    ·exact .inr ⟨om,om⟩) (A6.qx rL om)
  have hf:fKn E (QX Q H6.next K3.next) K3 kids (.agg [nilS,.int .i64 (f:Int)]):=by
   unfold fKn
   rw[hbad]
  obtain⟨K4,u1,u2,u3,u4,u5,u6,u7⟩:=done K3 nilS (.int .i64 (f:Int)) om (fun c h1 h2 h3=>by rw[k3 c h3,hK2 c h1 h2 h3]) r3 A3 hf
  simp only[sA,sB,seval,tyO,ext_0,ext_1,hf',bTold,t0,t1,t6,t9,t33,t34,m3,nil_cell,fldA,fld0,u1,u2,u3,u4,u5,u6]
  exact u7
 | ok t=>
  have ls:oLoad false 1 K2 (cellR cb 2 0)=some s:=row_load rK2 rfl rfl
  have bs:aBuildSl 1 [.int .u8 0] K2 [(0,1,kdA t)]=some (.slice (some ⟨K2.next,[kdA t].length,0⟩) 1 (.known 1),K2.push (.cells [kdA t] 0 false)):=rfl
  obtain⟨s',K3,a1,a2,a3,a4,a5⟩:=lK2.add (j:=1) (xs:=[kdA t]) rfl rfl om (bytes:=1) (by have:=len_sizesE kids; omega) om
  have bcb:Blk s (cb≠·):=fun a j r e=>by have:=bK a j r e; omega
  obtain⟨K4,m4,r4,n4,k4⟩:=row_st (H:=K3) (rK2.same (a5 cb om bcb)) (n:=2) rfl (i:=0) om (x:=s') a2.one (l':=[s',.int .i64 0]) rfl
  have ty2:tyEs E (kids.take (i+1))=.ok (ts++[t]):=by rw[hts,tyEs_snoc hty,hte]
  rw[tyL_snoc]at a2
  have lK4:LinM 1 K4 s' (tyL (ts++[t])) (ts++[t]).length:=by
   rw[lA]
   refine a2.same om fun a j r e=>k4 _ ?_
   rcases a4 _ bK a j r e with q | q <;> omega
  have bs':Blk s' (H6.next≤·):=(a4 _ bK).mono fun x hx=>om
  simp only[sA,sB,seval,tyO,ext_0,ext_1,Int.cast_ofNat_Int,t0,t1,t6,t9,t33,t34,fld0,ls,bs,a1,m4,wi]
  refine⟨kids.length-(i+1),om,i+1,s',ts++[t],rfl,om,tt,tt,tt,tt,tt,tt,ty2,r4,lK4,bs',?_,om,?_⟩
  ·refine A2.kn.1 |> fun hmk2=>?_
   have keepQ:∀x,QX (fun x=>QX Q H6.next K.next x∧Blk s (x≠·)) K.next K2.next x→x<K2.next→(QX Q H6.next K4.next x∧Blk s' (x≠·))∧K4.get x=K2.get x:=by
    intro x hx hl
    have hxs:Blk s (x≠·):=by
     rcases hx with⟨_,hx⟩ | hx
     ·exact hx
     ·exact bsK.mono fun c hc=>om
    have hxc:x≠cb:=by
     rintro rfl
     rcases hx with⟨hq,_⟩ | ⟨hq,_⟩
     ·rcases hq with hq | ⟨hq,_⟩
      ·have:=A.hQ _ hq; omega
      ·omega
     ·omega
    refine⟨⟨?_,(a4 _ hxs).mono fun c hc=>om⟩,by rw[k4 x hxc,a5 x hl hxs]⟩
    rcases hx with⟨hx,_⟩ | hx
    ·exact hx.sub rL om
    ·exact .inr ⟨om,om⟩
   have old4:∀c,c<H6.next→c≠cb→K4.get c=K2.get c:=fun c h1 h2=>by rw[k4 c h2,a5 c om fun a j r e=>by have:=bK a j r e; omega]
   refine A2.step om (old4 ab om om) (old4 mb om om) (fun c hc=>old4 c om om) (A2.kn.keep om (old4 mk om om) (fun c hc=>⟨hc,old4 c (by have:c<n0:=hc; omega) (by have:c<n0:=hc; omega)⟩) fun k y q=>q.keep om fun x hx hl=>keepQ x hx hl) fun x hx=>A6.qx rL om x hx.1
  ·intro c h1 h2 h3
   rw[k4 c h3,a5 c om fun a j r e=>by have:=bK a j r e; omega,hK2 c h1 h2 h3]
open Go.Abs Go.Abs.S
theorem ofP0{E:Env'}{n0 n1 ab mb mt mk:Nat}{vn vk:AVal}:OfP E n0 n1 ab vn vk mb mt mk 0:=by
 intro e c p H Q h
 have:=sizeE_pos e
 omega
theorem ofAll{E:Env'}(hE:Scp E)(hEl:E.length≤1000000){n0 n1 ab mb mt mk:Nat}{vn vk:AVal}:∀N,N≤1000000→OfP E n0 n1 ab vn vk mb mt mk N
 | 0,_=>ofP0
 | N+1,h=>ofP hE hEl om (listP hE om (ofAll hE hEl N om))
theorem clOp_map(b:Nat)(z:List AVal)(s:Option (Nat×Nat)):clOp b z s (.hf .mkMap [])=.claim b z s:=_root_.id rfl
theorem resO_map:resO [] (some (1,0))=.map [] 0:=_root_.id rfl
theorem claim_map{H:AHeap}{b:Nat}(h:H.get b=some (.map [] 0)):aClaim H b [] (some (1,0))=some (.map (some b)):=by
 unfold aClaim
 simp only[h]
 rfl
theorem tnew_spec{E:Env'}{vn vk:AVal}{n0 n1:Nat}{H:AHeap}(ln:LinM 1 H vn (nmL E) E.length)(lk:LinM 1 H vk (kdL E) E.length)(bn:Blk vn (·<n1))(bk:Blk vk (·<n1))(h1:n1≤H.next)(h0:n0≤H.next) :
  ACalls Tryz.prog natT 167 [vn,vk] H fun u H'=>u=cellR (H.next+3) 5 0∧(∃vn' vk',AskS E n0 n1 (H.next+3) vn' vk' (H.next+2) H.next (H.next+1) (fun _=>False) H')∧MapOk (·<n0) fTall H.next H'∧H'.next=H.next+4∧∀c,c<H.next→H'.get c=H.get c:=by
 refine acalls_ofN rfl za167 rfl ?_
 obtain⟨H2,hH2⟩:∃J,J=(H.push (.map [] 0)).push (.map [] 0):=⟨_,rfl⟩
 have n2:H2.next=H.next+2:=by rw[hH2]; rfl
 have k2:∀c,c<H.next→H2.get c=H.get c:=fun c hc=>by rw[hH2,AHeap.get_push,if_neg (by rw[push_next]; omega),get_push_lt hc]
 have g2t:H2.get H.next=some (.map [] 0):=by rw[hH2,AHeap.get_push,if_neg (by rw[push_next]; omega),AHeap.get_push,if_pos rfl]
 have g2k:H2.get (H.next+1)=some (.map [] 0):=by rw[hH2,AHeap.get_push,if_pos (by rw[push_next])]
 obtain⟨vn',sn,ln',bn'⟩:=ln.cut om (n:=E.length) rL
 obtain⟨vk',sk,lk',bk'⟩:=lk.cut om (n:=E.length) rL
 rw[Nat.mul_one,List.take_of_length_le (by rw[nmL_len]; omega)]at ln'
 rw[Nat.mul_one,List.take_of_length_le (by rw[kdL_len]; omega)]at lk'
 have cn:=(LinM.cel1 ln' (bn' _ bn)).1
 have ck:=(LinM.cel1 lk' (bk' _ bk)).1
 have lnn:=ln.len
 have lkk:=lk.len
 simp only[c167,sA,sB,seval,lnn,lkk,ite_self]
 refine aw_drawN ?_
 simp only[claims,newOf,reserves,resO_map,clOp_map,← hH2]
 simp only[sR,sA,sB,seval,ite_self,sn,sk]
 refine tblt_spec.mono ?_
 rintro _ H3 ⟨rfl,hB,n3,k3⟩
 have k03:∀c,c<H.next→H3.get c=H.get c:=fun c hc=>by rw[k3 c om,k2 c hc]
 have cl3:=claim_map ((k3 H.next om).trans g2t)
 have cl4:=claim_map ((k3 (H.next+1) om).trans g2k)
 have bb:aBuild [.slice none 0 (.known 0),.slice none 0 (.known 0),.map none,.map none,.map none] [(0,1,vn'),(1,1,vk'),(2,1,.map (some H2.next)),(3,1,.map (some H.next)),(4,1,.map (some (H.next+1)))]=some (.agg [vn',vk',.map (some H2.next),.map (some H.next),.map (some (H.next+1))]):=by
  have q1:vn'.cells=[vn']:=by
   rcases ln' with⟨rfl,_⟩ | ⟨_,_,_,_,rfl,_⟩ <;> rfl
  have q2:vk'.cells=[vk']:=by
   rcases lk' with⟨rfl,_⟩ | ⟨_,_,_,_,rfl,_⟩ <;> rfl
  simp[aBuild,aFill,q1,q2,splice]
  rfl
 obtain⟨H4,m4,r4,n4,k4⟩:=row_newL H3 [vn',vk',.map (some H2.next),.map (some H.next),.map (some (H.next+1))] (n:=5) rfl
 simp only[sR,sA,sB,seval,tr_claim,cl3,cl4,bb,cells_agg,m4]
 simp only[ck_nil',ck_cons,ckP_load,ckP_claim,ckP_nil,ck_end,and_true,true_and,List.map_cons,List.map_nil,sA,sB,seval]
 refine⟨⟨⟨_,rfl,fun _=>⟨_,claim_map g2t,by simp[aeq]⟩⟩,⟨_,rfl,fun _=>⟨_,claim_map g2k,by simp[aeq]⟩⟩⟩,?_⟩
 have e3:H3.next=H.next+3:=om
 have e2:H2.next=H.next+2:=n2
 rw[e2]at r4 hB
 rw[e3]at r4
 have k04:∀c,c<H.next→H4.get c=H.get c:=fun c hc=>by rw[k4 c om,k03 c hc]
 have E4:Ext n1 H H4:=⟨om,fun c hc=>k04 c om⟩
 have gk4:H4.get (H.next+1)=some (.map [] 0):=by rw[k4 _ om,k3 _ om]; exact g2k
 have gt4:H4.get H.next=some (.map [] 0):=by rw[k4 _ om,k3 _ om]; exact g2t
 refine⟨by simp only[sA,sB,seval,e3],⟨vn',vk',r4,⟨om,om⟩,⟨om,om⟩,(k4 _ om).trans hB,⟨om,om⟩,⟨om,om⟩,cn.ext E4,ck.ext E4,.new gk4 om,fun _ h=>h.elim⟩,.new gt4 om,om,k04⟩
theorem tof_spec{E:Env'}(hE:Scp E)(hEl:E.length≤1000000){e:Ex}{c:List AVal}{vn vk:AVal}{n0 n1:Nat}{H:AHeap}(ln:LinM 1 H vn (nmL E) E.length)(lk:LinM 1 H vk (kdL E) E.length)(bn:Blk vn (·<n1))(bk:Blk vk (·<n1))(h1:n1≤H.next)(h0:n0≤H.next)(hx:XEw (·<n0) H e c)(hok:okE e=true)(hs:e.size≤1000)(hd:e.deep≤40) :
  ACalls Tryz.prog natT 128 [.agg c,vn,vk] H fun u H'=>u=tyO (tyE E e)∧Ext H.next H H':=by
 refine acalls_ofN rfl za128 rfl ?_
 have hx0:=hx
 have hone:=hx.xe.one
 obtain⟨k,s,n,kids⟩:=e
 obtain⟨v,C,rfl,z1,z2⟩:=hx
 have hs1:(Ex.mk k s n kids).size=sizesE kids+1:=rfl
 have hd1:(Ex.mk k s n kids).deep=deepsE kids+1:=rfl
 obtain⟨H1,m1,r1,n1',k1⟩:=row_newL H [.int .u8 (k:Int),.str s,.int .i64 n,v] (n:=4) rfl
 have k1':∀c,c<H.next→H1.get c=H.get c:=fun c hc=>k1 c om
 have km1:∀c,c<n0→c<n0∧H1.get c=H.get c:=fun c hc=>⟨hc,k1' c om⟩
 have ln1:=ln.same (H':=H1) om (bn.mono fun c hc=>k1' c om)
 have lk1:=lk.same (H':=H1) om (bk.mono fun c hc=>k1' c om)
 simp only[c128,sA,sB,seval,cells_agg,m1]
 refine (tnew_spec ln1 lk1 bn bk om (n0:=n0) om).mono ?_
 rintro _ H2 ⟨rfl,⟨vn',vk',A2⟩,M2,n2,k2⟩
 have km2:∀c,c<n0→c<n0∧H2.get c=H.get c:=fun c hc=>⟨hc,by rw[k2 c om,k1' c om]⟩
 have l3:oLoad false 1 H2 (cellR H.next 4 3)=some v:=row_load (r1.same (k2 _ om)) rfl rfl
 have hc1:((1:Nat):Int)=1:=rfl
 simp only[sA,sB,seval,fldA,l3]
 refine (theight_spec (deep:=1) (n0:=n0) (mt:=H1.next) om om (sizesE kids) rL om A2.ask A2.abl.1 A2.n0l.2 M2 (z1.mono km2) (z2.mono km2) om).mono ?_
 rintro _ H3 ⟨rfl,F3,M3⟩
 have e3:=F3.next
 have hneg:¬(deepsE kids:Int)<0:=om
 have A3:AskS E n0 n1 (H1.next+3) vn' vk' (H1.next+2) H1.next (H1.next+1) (fun _=>False) H3:=A2.ext e3 (fun c hc hq=>F3.old c hc (by
  rcases hq with hq | hq | hq | hq | hq | hq
  ·exact hq.elim
  all_goals omega)) (fun b hb=>hb) (fun _ hb=>hb.elim)
 have r3:Row H3 H.next [.int .u8 (k:Int),.str s,.int .i64 n,v]:=r1.same (by rw[F3.old _ om om,k2 _ om])
 have pt:PtC H3 (cellR H.next 4 0) [.int .u8 (k:Int),.str s,.int .i64 n,v]:=⟨⟨H.next,4,0⟩,rfl,by
  have:=rd_row r3 (n:=4) rfl (i:=0) (k:=4) om
  simpa using this⟩
 have km3:∀c,c<n0→c<n0∧H3.get c=H.get c:=fun c hc=>⟨hc,by rw[F3.old c om om,k2 c om,k1' c om]⟩
 simp only[sA,sB,seval,hneg]
 refine (ofAll hE hEl 1000 om om A3 pt (fun a e=>?_) (hx0.mono km3) hok).mono ?_
 ·simp only[cellR,AVal.ptr.injEq,sJ]at e
  rw[← e]
  show H.next<H3.next∧H.next≠H1.next+1
  omega
 rintro _ H4 ⟨rfl,F4,_⟩
 have e4:=F4.next
 have E4:Ext H.next H H4:=⟨om,fun c hc=>by rw[F4.old c om om,F3.old c om om,k2 c om,k1' c hc]⟩
 cases hte:tyE E (.mk k s n kids) with
 | ok t=>
  simp only[sA,sB,seval,tyO,ext_0,ext_1]
  exact⟨tt,E4⟩
 | error f=>
  simp only[sA,sB,seval,tyO,ext_0,ext_1]
  exact⟨tt,E4⟩
open Go.Abs Go.Abs.S
structure ChS(E:Env')(cb n0:Nat)(vn vk:AVal)(H:AHeap):Prop where
 row:Row H cb [vn,vk]
 lt:cb<H.next
 n0l:n0≤cb
 ln:LinM 1 H vn (nmL E) E.length
 lk:LinM 1 H vk (kdL E) E.length
 bn:Blk vn fun b=>n0≤b∧b≠cb
 bk:Blk vk fun b=>n0≤b∧b≠cb
 ap:Blk vn fun a=>Blk vk (a≠·)
structure ChF(cb:Nat)(vn vk:AVal)(H:AHeap)(vn' vk':AVal)(H':AHeap):Prop where
 next:H.next≤H'.next
 old:∀c,c<H.next→c≠cb→Blk vn (c≠·)→Blk vk (c≠·)→H'.get c=H.get c
 bn:∀P:Nat→Prop,Blk vn P→Blk vn' fun b=>P b∨H.next≤b
 bk:∀P:Nat→Prop,Blk vk P→Blk vk' fun b=>P b∨H.next≤b
theorem ChF.trans{cb:Nat}{vn vk vn1 vk1 vn2 vk2:AVal}{H H1 H2:AHeap}(a:ChF cb vn vk H vn1 vk1 H1)(b:ChF cb vn1 vk1 H1 vn2 vk2 H2):ChF cb vn vk H vn2 vk2 H2:=by
 have n1:=a.next
 have n2:=b.next
 refine⟨om,fun c h1 h2 h3 h4=>?_,fun P h=>?_,fun P h=>?_⟩
 ·rw[b.old c om h2 ((a.bn _ h3).mono fun x hx=>om) ((a.bk _ h4).mono fun x hx=>om),a.old c h1 h2 h3 h4]
 ·exact (b.bn _ (a.bn P h)).mono fun x hx=>by
   rcases hx with (hx | hx) | hx
   ·exact .inl hx
   ·exact .inr hx
   ·exact .inr om
 ·exact (b.bk _ (a.bk P h)).mono fun x hx=>by
   rcases hx with (hx | hx) | hx
   ·exact .inl hx
   ·exact .inr hx
   ·exact .inr om
theorem ChS.ext{E:Env'}{cb n0:Nat}{vn vk:AVal}{H H':AHeap}(A:ChS E cb n0 vn vk H)(hn:H.next≤H'.next)(hc:H'.get cb=H.get cb)(h1:Blk vn fun b=>H'.get b=H.get b)(h2:Blk vk fun b=>H'.get b=H.get b):ChS E cb n0 vn vk H':=
 ⟨A.row.same hc,by have:=A.lt; omega,A.n0l,A.ln.same hn h1,A.lk.same hn h2,A.bn,A.bk,A.ap⟩
theorem ChS.exts{E:Env'}{cb n0:Nat}{vn vk:AVal}{H H':AHeap}(A:ChS E cb n0 vn vk H)(e:Ext H.next H H'):ChS E cb n0 vn vk H':=
 A.ext e.next (e.old _ A.lt) (A.ln.blk.mono fun b hb=>e.old b hb) (A.lk.blk.mono fun b hb=>e.old b hb)
theorem ChF.exts{cb:Nat}{vn vk:AVal}{H H':AHeap}(e:Ext H.next H H'):ChF cb vn vk H vn vk H':=
 ⟨e.next,fun c h _ _ _=>e.old c h,fun _ h=>h.mono fun _ q=>.inl q,fun _ h=>h.mono fun _ q=>.inl q⟩
theorem ChF.low{cb n0:Nat}{E:Env'}{vn vk vn' vk':AVal}{H H':AHeap}(A:ChS E cb n0 vn vk H)(f:ChF cb vn vk H vn' vk' H'){c:Nat}(hc:c<n0):H'.get c=H.get c:=by
 have:=A.lt
 have:=A.n0l
 exact f.old c om om (A.bn.mono fun x hx=>om) (A.bk.mono fun x hx=>om)
theorem apart_any{x y:AVal}(h:apB x y=true):aPf .apart [x,y]=some (.bool true):=by
 show (bif apB x y then some (AVal.bool true) else none)=_
 rw[h]; rfl
theorem apB_blk{x:AVal}{a b n:Nat}{i:Nat}(r:Room)(hx:∀c,blkOf x=some c→b≠c):apB (.slice (some ⟨b,n,i⟩) a r) x=true:=by
 unfold apB
 cases hb:blkOf x with
 | none=>rfl
 | some c=>
  show (!Nat.beq b c)=true
  rw[show Nat.beq b c=false by rw[beq_dec]; exact decide_eq_false (hx c hb)]; rfl
theorem blkOf_blk{v:AVal}{P:Nat→Prop}(h:Blk v P){m k:Nat}{H:AHeap}{L:List AVal}(l:LinM m H v L k):∀c,blkOf v=some c→P c:=by
 intro c hc
 rcases l with⟨rfl,_⟩ | ⟨b,C,low,r,rfl,_⟩
 ·simp[nilS,blkOf]at hc
 ·simp only[blkOf,sJ]at hc
  rw[← hc]; exact h _ _ _ rfl
theorem blkOf_ptr{p:AVal}{P:Nat→Prop}(h:∀a,p=.ptr (some a)→P a.b)(o:Nat):∀c,blkOf (fp p o)=some c→P c:=by
 intro c hc
 unfold fp at hc
 split at hc
 ·simp only[blkOf,sJ]at hc
  rw[← hc]; exact h _ rfl
 ·simp[undefA,blkOf]at hc
theorem lineF_k{k:Nat}{s:Bs}{a b:Nat}(h:lineF' k s a b=true):k=1∨k=2∨k=3∨k=4∨k=5:=by
 unfold lineF' at h
 by_cases h1:k=1∨k=2
 ·omega
 rw[if_neg h1]at h
 by_cases h3:k=3
 ·omega
 rw[if_neg h3]at h
 by_cases h4:k=4
 ·omega
 rw[if_neg h4]at h
 by_cases h5:k=5
 ·omega
 ·rw[if_neg h5]at h; simp at h
theorem snoc_nm(E:Env')(s:Bs)(t:Nat):nmL E++[.str s]=nmL (E++[(s,t)]):=by simp[nmL]
theorem snoc_kd(E:Env')(s:Bs)(t:Nat):kdL E++[kdA t]=kdL (E++[(s,t)]):=by simp[kdL]
theorem fill_at{H:AHeap}{b len:Nat}{z:List AVal}{ofs:List (Nat×Nat)}{l xs:List AVal}(g:H.get b=some (.cells [] 0 false))(h:aFill (rep z len) (zipP ofs l)=some xs) :
  ∃H',aHf (.fill b (.lit len z ofs)) H l=some (.slice (some ⟨b,xs.length,0⟩) len (.known len),H')∧H'.next=H.next∧H'.get b=some (.cells xs 0 false)∧∀c,c≠b→H'.get c=H.get c:=
 ⟨H.set b (.cells xs 0 false),by simp only[aHf,aFillB,g,fillO,h],set_next ..,by rw[AHeap.get_set,if_pos rfl],fun c hc=>by rw[AHeap.get_set,if_neg hc]⟩
theorem src_one{H:AHeap}{b:Nat}{x:AVal}(g:H.get b=some (.cells [x] 0 false)):aSrc 1 H (.slice (some ⟨b,1,0⟩) 1 (.known 1))=some (1,[x]):=by
 have:=rd_whole (H:=H) (b:=b) (l:=[x]) (low:=0) (ro:=false) g (Nat.zero_le _)
 simp only[List.length_cons,List.length_nil,Nat.zero_add]at this
 simp only[aSrc,Nat.one_mul,this]
theorem contains_any{H:AHeap}{v:AVal}{l:List Bs}{n:Nat}(c:Cel n H v (l.map AVal.str))(x:Bs)(hl:l.length≤1000000):ACalls Tryz.prog natT 99 [v,.str x] H fun u H'=>u=.bool (l.contains x)∧H=H':=by
 have hE:l=(l.map fun y=>(y,0)).map (·.1):=by simp[Function.comp_def]
 have c':Cel n H v (nmL (l.map fun y=>(y,0))):=by unfold nmL; rw[← hE]; exact c
 refine acalls_ofN rfl za99 rfl ?_
 simp only[c99,sA,sB,seval]
 refine (sidx_at c' x (by simpa using hl)).mono ?_
 rintro _ _ ⟨rfl,rfl⟩
 have hi:decide (0≤idxZ x (l.map fun y=>(y,0)))=l.contains x:=by
  unfold idxZ
  cases hf:firstI x (l.map fun y=>(y,0)) with
  | none=>
   have:=firstI_none.1 hf
   rw[← hE]at this
   simp[this]
  | some i=>
   have hn:¬(x∉(l.map fun y=>(y,0)).map (·.1)):=fun q=>by rw[firstI_none.2 q]at hf; simp at hf
   rw[← hE]at hn
   simp only[Classical.not_not]at hn
   simp[hn]
 simp only[sA,sB,seval,hi]
 exact⟨tt,tt⟩
theorem LinM.aeq{m k:Nat}{H:AHeap}{s:AVal}{L:List AVal}(h:LinM m H s L k):Go.Abs.aeq s s=true:=by
 rcases h with⟨rfl,_⟩ | ⟨b,C,low,r,rfl,_⟩
 ·exact aeq_nilS
 ·cases r <;> simp[Go.Abs.aeq]
def StO(E:Env')(cb n0:Nat)(vn vk:AVal)(H:AHeap)(o:Except Nat Env')(u:AVal)(H':AHeap):Prop:=∃vn' vk',(match o with
  | .ok E'=>u=.int .i64 0∧ChS E' cb n0 vn' vk' H'
  | .error f=>u=.int .i64 (f:Int)∧ChS E cb n0 vn' vk' H')∧ChF cb vn vk H vn' vk' H'
theorem tcstmt_spec{E:Env'}(hE:Scp E)(hEl:E.length≤100000){cb n0:Nat}{vn vk p:AVal}{H:AHeap}(A:ChS E cb n0 vn vk H){k:Nat}{s:Bs}{e:Ex}{body els:List St}{line:Int}{ce:List AVal}{vb ve:AVal}
  (pt:PtC H p (.int .u8 (k:Int)::.str s::(ce++[vb,ve,.int .i64 line]))) (hp:∀a,p=.ptr (some a)→a.b<n0) (hx:XEw (·<n0) H e ce) (hok:okE e=true) (hk:k=1∨k=2∨k=3∨k=4∨k=5) (hs:e.size≤1000) (hd:e.deep≤40) :
  ACalls Tryz.prog natT 98 [cellR cb 2 0,p] H (StO E cb n0 vn vk H (stT E k s e)):=by
 obtain⟨c0,c1,c2,c3,rfl⟩:∃a b c d,ce=[a,b,c,d]:=by
  have:=hx.len
  match ce,this with
  | [a,b,c,d],_=>exact⟨a,b,c,d,rfl⟩
 have hlt:=A.lt
 have hn0:=A.n0l
 refine acalls_ofN rfl za98 rfl ?_
 have nc:=pt.chk
 have f2:=pt.fld 2
 have le:oLoad true 4 H (fp p 2)=some (.agg [c0,c1,c2,c3]):=by
  obtain⟨a,ea,hrd⟩:=pt.part (o:=2) (k:=4) (by simp)
  rw[ea]
  simp only[oLoad]
  have hrd':rdCells H a 4=some [c0,c1,c2,c3]:=hrd
  rw[hrd']; rfl
 have l0:oLoad false 1 H (cellR cb 2 0)=some vn:=row_load A.row rfl rfl
 have l1:oLoad false 1 H (cellR cb 2 1)=some vk:=row_load A.row rfl rfl
 simp only[c98,sA,sB,seval,nc,f2,le,nil_cell,fld0,fldA,l0,l1]
 refine (tof_spec hE om A.ln A.lk A.ln.blk A.lk.blk rL om hx hok hs hd).mono ?_
 rintro _ H1 ⟨rfl,E1⟩
 have e1:=E1.next
 have A1:=A.exts E1
 have F1:ChF cb vn vk H vn vk H1:=ChF.exts E1
 have pt1:=pt.same (H':=H1) fun a ea=>E1.old _ (by have:=hp a ea; omega)
 have g0:=pt1.fld0
 have g1:=pt1.fld 1
 have q0:oLoad false 1 H1 p=some (.int .u8 (k:Int)):=pt1.load0 rfl
 have q1:oLoad false 1 H1 (fp p 1)=some (.str s):=pt1.load (o:=1) rfl
 have l10:oLoad false 1 H1 (cellR cb 2 0)=some vn:=row_load A1.row rfl rfl
 have l11:oLoad false 1 H1 (cellR cb 2 1)=some vk:=row_load A1.row rfl rfl
 unfold stT
 cases hty:tyE E e with
 | error f=>
  have hf:=tyE_err hty
  have hf':¬(f:Int)=0:=om
  simp only[sA,sB,seval,tyO,ext_0,ext_1,hf']
  exact⟨vn,vk,⟨tt,A1⟩,F1⟩
 | ok t=>
 have ht2:=tyE_two hE hty
 simp only[sA,sB,seval,tyO,ext_0,ext_1,nc,g0,q0]
 have cn:=(LinM.cel1 A1.ln A1.ln.blk).1
 have ck:=(LinM.cel1 A1.lk A1.lk.blk).1
 rcases hk with rfl | rfl | rfl | rfl | rfl
 ·-- let
  have hh:headS E 1 s t=if s∈E.map (·.1) then .error 110 else .ok (E++[(s,t)]):=rfl
  have cnn:Cel H1.next H1 vn ((E.map (·.1)).map AVal.str):=cn
  simp only[sA,sB,seval,Int.cast_ofNat_Int,nc,nil_cell,fld0,l10,g1,q1]
  refine (contains_any cnn s (by simp; omega)).mono ?_
  rintro _ _ ⟨rfl,rfl⟩
  rw[hh]
  by_cases hin:s∈E.map (·.1)
  ·have hc:(E.map (·.1)).contains s=true:=by simpa using hin
   simp only[sA,sB,seval,hc,hin,if_true]
   exact⟨vn,vk,⟨tt,A1⟩,F1⟩
  have hc:(E.map (·.1)).contains s=false:=by simpa using hin
  obtain⟨Hr,hHr⟩:∃J,J=(H1.push (.cells [] 0 false)).push (.cells [] 0 false):=⟨_,rfl⟩
  have nr:Hr.next=H1.next+2:=by rw[hHr]; rfl
  have kr:∀c,c<H1.next→Hr.get c=H1.get c:=fun c hc=>by rw[hHr,AHeap.get_push,if_neg (by rw[push_next]; omega),get_push_lt hc]
  have gr0:Hr.get H1.next=some (.cells [] 0 false):=by rw[hHr,AHeap.get_push,if_neg (by rw[push_next]; omega),AHeap.get_push,if_pos rfl]
  have gr1:Hr.get (H1.next+1)=some (.cells [] 0 false):=by rw[hHr,AHeap.get_push,if_pos (by rw[push_next])]
  have Er:Ext H1.next H1 Hr:=⟨om,kr⟩
  have Ar:=A1.exts Er
  obtain⟨H2,fl1,n2,g2,k2⟩:=fill_at gr0 (len:=1) (z:=[.str []]) (ofs:=[(0,1)]) (l:=[.str s]) (xs:=[.str s]) rfl
  have bN:=A1.ln.blk
  have bK:=A1.lk.blk
  have A2:ChS E cb n0 vn vk H2:=Ar.ext om (k2 cb om) (bN.mono fun b hb=>k2 b om) (bK.mono fun b hb=>k2 b om)
  have s2:aSrc 1 H2 (.slice (some ⟨H1.next,1,0⟩) 1 (.known 1))=some (1,[.str s]):=src_one g2
  obtain⟨vn',H3,a3,L3,n3,b3,k3⟩:=A2.ln.many s2 rfl rfl om (bytes:=16) om om
  have k3':∀c,c<H2.next→Blk vn (c≠·)→H3.get c=H2.get c:=k3
  have bcb:Blk vn (cb≠·):=A.bn.mono fun b hb=>om
  have r3:Row H3 cb [vn,vk]:=A2.row.same (k3 cb om bcb)
  have gr13:H3.get (H1.next+1)=some (.cells [] 0 false):=by rw[k3 _ om (bN.mono fun b hb=>om),k2 _ om]; exact gr1
  have lk3:LinM 1 H3 vk (kdL E) E.length:=A2.lk.same n3 fun a j r e=>k3 _ (by have:=bK a j r e; omega) (A.ap.mono fun b hb=>(hb a j r e).symm)
  obtain⟨H4,fl2,n4,g4,k4⟩:=fill_at gr13 (len:=1) (z:=[.int .u8 0]) (ofs:=[(0,1)]) (l:=[kdA t]) (xs:=[kdA t]) rfl
  have s4:aSrc 1 H4 (.slice (some ⟨H1.next+1,1,0⟩) 1 (.known 1))=some (1,[kdA t]):=src_one g4
  have lk4:LinM 1 H4 vk (kdL E) E.length:=lk3.same om (bK.mono fun b hb=>k4 b om)
  obtain⟨vk',H5,a5,L5,n5,b5,k5⟩:=lk4.many s4 rfl rfl om (bytes:=1) om om
  have ckb:Blk vk (cb≠·):=A.bk.mono fun b hb=>om
  have r5:Row H5 cb [vn,vk]:=r3.same (by rw[k5 cb om ckb,k4 cb om])
  obtain⟨H6,m6,r6,n6,k6⟩:=row_st r5 (n:=2) rfl (i:=0) om (x:=vn') L3.one (l':=[vn',vk]) rfl
  obtain⟨H7,m7,r7,n7,k7⟩:=row_st r6 (n:=2) rfl (i:=1) om (x:=vk') L5.one (l':=[vn',vk']) rfl
  have fl1':aHf (.fill H1.next (.lit 1 [.str []] [(0,1)])) Hr [.str s]=some (.slice (some ⟨H1.next,1,0⟩) 1 (.known 1),H2):=fl1
  have fl2':aHf (.fill (H1.next+1) (.lit 1 [.int .u8 0] [(0,1)])) H3 [kdA t]=some (.slice (some ⟨H1.next+1,1,0⟩) 1 (.known 1),H4):=fl2
  have ptr:PtC Hr p _:=pt1.same fun a ea=>kr _ (by have:=hp a ea; omega)
  have qr1:oLoad false 1 Hr (fp p 1)=some (.str s):=ptr.load (o:=1) rfl
  have lr0:oLoad false 1 Hr (cellR cb 2 0)=some vn:=row_load Ar.row rfl rfl
  have lr1:oLoad false 1 Hr (cellR cb 2 1)=some vk:=row_load Ar.row rfl rfl
  have l20:oLoad false 1 H2 (cellR cb 2 0)=some vn:=row_load A2.row rfl rfl
  have l21:oLoad false 1 H2 (cellR cb 2 1)=some vk:=row_load A2.row rfl rfl
  have l31:oLoad false 1 H3 (cellR cb 2 1)=some vk:=row_load r3 rfl rfl
  have l41:oLoad false 1 H4 (cellR cb 2 1)=some vk:=row_load (r3.same (k4 cb om)) rfl rfl
  have bv3:=b3 (fun x=>x<H1.next∧(n0≤x∧x≠cb)∧Blk vk (x≠·)) (fun a j r e=>⟨bN a j r e,A.bn a j r e,A.ap a j r e⟩)
  have bv5:=b5 (fun x=>x<H1.next∧(n0≤x∧x≠cb)) (fun a j r e=>⟨bK a j r e,A.bk a j r e⟩)
  have apN:∀{x:AVal},(∀c,blkOf x=some c→H1.next+1≠c)→aPf .apart [.slice (some ⟨H1.next+1,1,0⟩) 1 (.known 1),x]=some (.bool true):=fun h=>apart_any (apB_blk _ h)
  have p1:=apN (x:=.slice (some ⟨H1.next,1,0⟩) 1 (.known 1)) fun c hc=>by simp only[blkOf,sJ]at hc; omega
  have p2:=apN (x:=cellR cb 2 0) fun c hc=>by simp only[blkOf,cellR,sJ]at hc; omega
  have p3:=apN (x:=cellR cb 2 1) fun c hc=>by simp only[blkOf,cellR,sJ]at hc; omega
  have p4:=apN (x:=fp p 1) fun c hc=>by have:c<n0:=blkOf_ptr (P:=(·<n0)) hp 1 c hc; omega
  have p5:=apN (x:=vn) fun c hc=>by have:=blkOf_blk bN A1.ln c hc; omega
  have p6:=apN (x:=vn') fun c hc=>by
   have:=blkOf_blk bv3 L3 c hc
   rcases this with⟨this,_⟩ | this <;> omega
  simp only[sA,sB,seval,hc,hin,if_false]
  refine aw_drawN ?_
  simp only[claims,newOf,reserves,resO_0,clOp_fill,← hHr]
  simp only[sR,sA,sB,seval,nc,nil_cell,fld0,fldA,lr0,g1,qr1,fl1',a3,l31,fl2',a5,m6,m7]
  simp only[ck_nil',ck_cons,ckP_load,ckP_claim,ckP_nil,ck_end,and_true,true_and,List.map_cons,List.map_nil,sA,sB,seval,nc,nil_cell,fld0,fldA]
  have aN:=LinM.aeq A1.ln
  have aK:=LinM.aeq A1.lk
  refine⟨⟨⟨_,rfl,fun _=>⟨_,l20,aN⟩⟩,⟨_,rfl,fun _=>⟨_,lr1,aK⟩⟩,⟨_,rfl,fun _=>⟨_,l21,aK⟩⟩,⟨_,rfl,fun _=>⟨_,l41,aK⟩⟩⟩,?_⟩
  simp only[sA,sB,seval,p1,p2,p3,p4,p5,p6]
  have hL3:=L3.blk
  have hL5:=L5.blk
  rw[snoc_nm E s t]at L3
  rw[snoc_kd]at L5
  have kn:Blk vn' fun c=>H7.get c=H3.get c:=fun a j r e=>by
   have h3:=hL3 a j r e
   have hc:=bv3 a j r e
   have hb:a.b≠cb:=by
    rcases hc with⟨_,⟨_,hc⟩,_⟩ | hc <;> omega
   have hv:Blk vk (a.b≠·):=by
    rcases hc with⟨_,_,hc⟩ | hc
    ·exact hc
    ·exact bK.mono fun b hb=>om
   have h1:a.b≠H1.next+1:=by
    rcases hc with⟨hc,_⟩ | hc <;> omega
   show H7.get a.b=H3.get a.b
   rw[k7 _ hb,k6 _ hb,k5 _ om hv,k4 _ h1]
  have kk:Blk vk' fun c=>H7.get c=H5.get c:=fun a j r e=>by
   have hc:=bv5 a j r e
   have hb:a.b≠cb:=by
    rcases hc with⟨_,_,hc⟩ | hc <;> omega
   show H7.get a.b=H5.get a.b
   rw[k7 _ hb,k6 _ hb]
  have hEl2:(E++[(s,t)]).length=E.length+1:=by simp
  refine⟨vn',vk',⟨tt,⟨r7,om,hn0,by rw[hEl2]; exact L3.same om kn,by rw[hEl2]; exact L5.same om kk,?_,?_,?_⟩⟩,F1.trans ⟨om,?_,?_,?_⟩⟩
  ·exact bv3.mono fun x hx=>by
    rcases hx with⟨_,hx,_⟩ | hx
    ·exact hx
    ·exact⟨om,om⟩
  ·exact bv5.mono fun x hx=>by
    rcases hx with⟨_,hx⟩ | hx
    ·exact hx
    ·exact⟨om,om⟩
  ·intro a j r e
   have h3:=hL3 a j r e
   have hc:=bv3 a j r e
   refine (b5 (a.b≠·) ?_).mono fun x hx=>?_
   ·rcases hc with⟨_,_,hc⟩ | hc
    ·exact hc
    ·exact bK.mono fun b hb=>om
   ·rcases hx with hx | hx
    ·exact hx
    ·omega
  ·intro c h1 h2 h3 h4
   rw[k7 c h2,k6 c h2,k5 c om h4,k4 c om,k3 c om h3,k2 c om,kr c h1]
  ·intro P hP
   exact (b3 P hP).mono fun x hx=>by
    rcases hx with hx | hx
    ·exact .inl hx
    ·exact .inr om
  ·intro P hP
   exact (b5 P hP).mono fun x hx=>by
    rcases hx with hx | hx
    ·exact .inl hx
    ·exact .inr om
 ·-- set
  have hh:headS E 2 s t=(match firstI s E with
   | none=>.error 110
   | some i=>if i<4 then .error 110 else match E[i]? with
    | some x=>if x.2=t then .ok E else .error 111
    | none=>.error 110):=rfl
  simp only[sA,sB,seval,Int.cast_ofNat_Int,nc,nil_cell,fld0,l10,g1,q1]
  refine (sidx_at cn s om).mono ?_
  rintro _ _ ⟨rfl,rfl⟩
  rw[hh]
  unfold idxZ
  cases hf:firstI s E with
  | none=>
   simp only[sA,sB,seval]
   exact⟨vn,vk,⟨tt,A1⟩,F1⟩
  | some i=>
   by_cases h4:i<4
   ·have h4':(i:Int)<4:=om
    simp only[sA,sB,seval,h4',h4,if_true]
    exact⟨vn,vk,⟨tt,A1⟩,F1⟩
   ·have h4':¬(i:Int)<4:=om
    obtain⟨ty,hty2⟩:=firstI_lt hf
    have hil:=(List.getElem?_eq_some_iff.1 hty2).1
    have i2:=ck.idx .i64 (i:=i) (by rw[kdL_len]; omega)
    have q2:=ck.load (i:=i) (x:=kdA ty) (by simp[kdL,hty2])
    simp only[kdA]at q2
    simp only[sA,sB,seval,h4',h4,if_false,nil_cell,fldA,l11,i2,q2,hty2,kdA]
    by_cases he:ty=t
    ·subst he
     simp only[sA,sB,seval]
     exact⟨vn,vk,⟨tt,A1⟩,F1⟩
    ·have he':¬(ty:Int)=(t:Int):=om
     simp only[sA,sB,seval,he',he]
     exact⟨vn,vk,⟨tt,A1⟩,F1⟩
 ·have hh:headS E 3 s t=if t=2 then .error 111 else .ok E:=rfl
  rw[hh]
  rcases ht2 with rfl | rfl
  ·simp only[sA,sB,seval,Int.cast_ofNat_Int,kdA]
   exact⟨vn,vk,⟨tt,A1⟩,F1⟩
  ·simp only[sA,sB,seval,Int.cast_ofNat_Int,kdA]
   exact⟨vn,vk,⟨tt,A1⟩,F1⟩
 ·have hh:headS E 4 s t=if t=2 then .error 111 else .ok E:=rfl
  rw[hh]
  rcases ht2 with rfl | rfl
  ·simp only[sA,sB,seval,Int.cast_ofNat_Int,kdA]
   exact⟨vn,vk,⟨tt,A1⟩,F1⟩
  ·simp only[sA,sB,seval,Int.cast_ofNat_Int,kdA]
   exact⟨vn,vk,⟨tt,A1⟩,F1⟩
 ·have hh:headS E 5 s t=if t=1 then .error 111 else .ok E:=rfl
  rw[hh]
  rcases ht2 with rfl | rfl
  ·simp only[sA,sB,seval,Int.cast_ofNat_Int,kdA]
   exact⟨vn,vk,⟨tt,A1⟩,F1⟩
  ·simp only[sA,sB,seval,Int.cast_ofNat_Int,kdA]
   exact⟨vn,vk,⟨tt,A1⟩,F1⟩
open Go.Abs Go.Abs.S
theorem nm_take(E:Env')(n:Nat):(nmL E).take n=nmL (E.take n):=by simp[nmL,List.map_take]
theorem kd_take(E:Env')(n:Nat):(kdL E).take n=kdL (E.take n):=by simp[kdL,List.map_take]
theorem dcl_spec{E:Env'}{cb n0 ob sb n:Nat}{vn vk:AVal}{H:AHeap}(A:ChS E cb n0 vn vk H)(ho:Row H ob [cellR cb 2 0])(hs:Row H sb [.int .i64 (n:Int)])(hob:ob≠cb)(hsb:sb≠cb)(hn:n≤E.length) :
  ACalls Tryz.prog natT 3169 [cellR ob 1 0,cellR sb 1 0] H fun _ H'=>∃vn' vk',ChS (E.take n) cb n0 vn' vk' H'∧ChF cb vn vk H vn' vk' H'∧H'.next=H.next∧∀c,c≠cb→H'.get c=H.get c:=by
 refine acalls_ofE rfl za3169 rfl ?_
 have lo:oLoad false 1 H (cellR ob 1 0)=some (cellR cb 2 0):=row_load ho rfl rfl
 have ls:oLoad false 1 H (cellR sb 1 0)=some (.int .i64 (n:Int)):=row_load hs rfl rfl
 have l0:oLoad false 1 H (cellR cb 2 0)=some vn:=row_load A.row rfl rfl
 have l1:oLoad false 1 H (cellR cb 2 1)=some vk:=row_load A.row rfl rfl
 obtain⟨vn',sn,ln',bn'⟩:=A.ln.cut om hn
 obtain⟨vk',sk,lk',bk'⟩:=A.lk.cut om hn
 rw[Nat.mul_one,nm_take]at ln'
 rw[Nat.mul_one,kd_take]at lk'
 obtain⟨H1,m1,r1,n1,k1⟩:=row_st A.row (n:=2) rfl (i:=0) om (x:=vn') ln'.one (l':=[vn',vk]) rfl
 obtain⟨H2,m2,r2,n2,k2⟩:=row_st r1 (n:=2) rfl (i:=1) om (x:=vk') lk'.one (l':=[vn',vk']) rfl
 simp only[c3169,sA,sB,seval,nil_cell,fld0,fldA,lo,ls,l0,l1,sn,sk,m1,m2]
 have k12:∀c,c≠cb→H2.get c=H.get c:=fun c hc=>by rw[k2 c hc,k1 c hc]
 have b1:=bn' _ A.bn
 have b2:=bk' _ A.bk
 have ht:(E.take n).length=n:=by rw[List.length_take]; omega
 refine⟨_,rfl,vn',vk',⟨r2,by have:=A.lt; omega,A.n0l,by rw[ht]; exact ln'.same om (b1.mono fun x hx=>k12 x hx.2),by rw[ht]; exact lk'.same om (b2.mono fun x hx=>k12 x hx.2),b1,b2,(bn' _ A.ap).mono fun x hx=>bk' _ hx⟩,⟨om,fun c _ h _ _=>k12 c h,fun P hP=>(bn' P hP).mono fun _ q=>.inl q,fun P hP=>(bk' P hP).mono fun _ q=>.inl q⟩,om,k12⟩
def flI(f:FltI):List AVal:=[.int .i64 (f.1:Int),.int .i64 f.2]
def fltL{α:Type}(o:Except FltI α):FltI:=match o with
 | .ok _=>(0,0)
 | .error f=>f
def LiO(E:Env')(cb n0:Nat)(vn vk:AVal)(H:AHeap)(f:FltI)(u:AVal)(H':AHeap):Prop:=u=.agg (flI f)∧∃vn' vk',ChS E cb n0 vn' vk' H'∧ChF cb vn vk H vn' vk' H'
def LiT(N:Nat):Prop:=∀{l:List St} {C:List AVal} {v:AVal} {E:Env'} {cb n0:Nat} {vn vk:AVal} {H:AHeap},sizesS l≤N→ChS E cb n0 vn vk H→SlK (·<n0) H 9 v l.length C→XSws (·<n0) H l C→oksS l=true→deepsS l≤40→Scp E→E.length+sizesS l≤100000 →
 ACalls Tryz.prog natT 54 [cellR cb 2 0,v] H (LiO E cb n0 vn vk H (fltL (ckL E false l)))
theorem stT_err{E:Env'}{k:Nat}{s:Bs}{e:Ex}{f:Nat}(h:stT E k s e=.error f):f≠0:=by
 unfold stT at h
 cases he:tyE E e with
 | error g=>
  rw[he]at h
  simp only[Except.error.injEq]at h
  subst h
  exact tyE_err he
 | ok t=>
  rw[he]at h
  simp only[headS]at h
  repeat' split at h
  all_goals first | (simp at h; done) | (simp only[Except.error.injEq]at h; omega)
mutual
theorem ckS_err{E:Env'}:∀{x:St} {f:FltI},ckS E x=.error f→f.1≠0
 | .mk k s e body els line,f,h=>by
  simp only[ckS]at h
  cases hs:stT E k s e with
  | error g=>
   simp only[hs,Except.error.injEq]at h
   subst h
   exact stT_err hs
  | ok E'=>
   cases hb:ckL E' false body with
   | error g=>
    simp only[hs,hb,Except.error.injEq]at h
    subst h
    exact ckL_err hb
   | ok _=>
    cases he:ckL E' false els with
    | error g=>
     simp only[hs,hb,he,Except.error.injEq]at h
     subst h
     exact ckL_err he
    | ok _=>simp[hs,hb,he]at h
theorem ckL_err{E:Env'}:∀{b:Bool} {l:List St} {f:FltI},ckL E b l=.error f→f.1≠0
 | b,[],f,h=>by simp[ckL]at h
 | b,x::l,f,h=>by
  simp only[ckL]at h
  by_cases hb:b=true
  ·rw[if_pos hb]at h
   simp only[Except.error.injEq]at h
   subst h
   simp
  ·rw[if_neg hb]at h
   cases hs:ckS E x with
   | error g=>
    rw[hs]at h
    simp only[Except.error.injEq]at h
    subst h
    exact ckS_err hs
   | ok E'=>
    rw[hs]at h
    exact ckL_err h
end
theorem stT_len{E E':Env'}{k:Nat}{s:Bs}{e:Ex}(h:stT E k s e=.ok E'):E.length≤E'.length∧E'.length≤E.length+1:=by
 unfold stT at h
 cases he:tyE E e with
 | error g=>rw[he]at h; simp at h
 | ok t=>
  rw[he]at h
  simp only[headS]at h
  repeat' split at h
  all_goals first | (simp at h; done) | (simp only[Except.ok.injEq]at h; subst h; simp)
theorem stT_take{E E':Env'}{k n:Nat}{s:Bs}{e:Ex}(h:stT E k s e=.ok E')(hn:n≤E.length):E'.take n=E.take n:=by
 unfold stT at h
 cases he:tyE E e with
 | error g=>rw[he]at h; simp at h
 | ok t=>
  rw[he]at h
  simp only[headS]at h
  repeat' split at h
  all_goals first | (simp at h; done) | (simp only[Except.ok.injEq]at h; subst h; first | rfl | rw[List.take_append_of_le_length hn])
def prevR(l:List St):Nat→Bool
 | 0=>false
 | i+1=>match l[i]? with
  | some x=>decide (x.kind=5)
  | none=>false
theorem ChS.other{E:Env'}{cb n0:Nat}{vn vk:AVal}{H H':AHeap}(A:ChS E cb n0 vn vk H)(b:Nat)(k:∀c,c≠b→H'.get c=H.get c)(hn:H.next≤H'.next)(hb:b≠cb)(h1:Blk vn (·≠b))(h2:Blk vk (·≠b)):ChS E cb n0 vn vk H':=
 A.ext hn (k cb (fun e=>hb e.symm)) (h1.mono fun x hx=>k x hx) (h2.mono fun x hx=>k x hx)
theorem ChF.otherF{cb:Nat}{vn vk vn' vk':AVal}{H H1 H2:AHeap}(F:ChF cb vn vk H vn' vk' H1)(b:Nat)(k:∀c,c≠b→H2.get c=H1.get c)(hn:H1.next≤H2.next)(hb:H.next≤b):ChF cb vn vk H vn' vk' H2:=
 ⟨Nat.le_trans F.next hn,fun c h1 h2 h3 h4=>by rw[k c om,F.old c h1 h2 h3 h4],F.bn,F.bk⟩
theorem pf_isF2(g:Nat)(x y:AVal):aPf (.isF g 2) [.func (.func g) [] [x,y]]=some (.bool true):=by
 simp[aPf,aIsF]
theorem pf_capt20(f:Fn)(x y:AVal):aPf (.capt 0) [.func f [] [x,y]]=some x:=_root_.id rfl
theorem pf_capt21(f:Fn)(x y:AVal):aPf (.capt 1) [.func f [] [x,y]]=some y:=_root_.id rfl
theorem pf_tup1(x:AVal):aPf .tup [x]=some x:=_root_.id rfl
theorem okS_parts{k:Nat}{s:Bs}{e:Ex}{body els:List St}{line:Int}(h:okS (.mk k s e body els line)=true):lineF' k s body.length els.length=true∧okE e=true∧oksS body=true∧oksS els=true:=by
 simpa[okS,and_assoc] using h
theorem okS_at{l:List St}(h:oksS l=true){e:St}(he:e∈l):okS e=true:=by
 induction l with
 | nil=>simp at he
 | cons x l ih=>
  simp only[oksS,Bool.and_eq_true]at h
  rcases List.mem_cons.1 he with rfl | he
  ·exact h.1
  ·exact ih h.2 he
theorem deepsS_mem{l:List St}{e:St}(he:e∈l):e.deep≤deepsS l:=by
 induction l with
 | nil=>simp at he
 | cons x l ih=>
  simp only[deepsS]
  rcases List.mem_cons.1 he with rfl | he
  ·omega
  ·have:=ih he; omega
theorem loadBox{H:AHeap}{ob cb:Nat}(h:Row H ob [cellR cb 2 0]):oLoad false 1 H (cellR ob 1 0)=some (cellR cb 2 0):=row_load h rfl rfl
set_option maxHeartbeats 1000000 in
theorem li_step{N:Nat}(hN:N≤1000)(ih:∀M,M<N→LiT M):LiT N:=by
 intro l C v E cb n0 vn vk H hsz A z1 z2 hok hd hE hl
 have hlt:=A.lt
 have hn0:=A.n0l
 obtain⟨H1,m1,r1,n1,k1⟩:=row_newL H [cellR cb 2 0] (n:=1) rfl
 obtain⟨H2,m2,r2,n2,k2⟩:=row_newL H1 [.int .i64 0,.int .i64 0] (n:=2) rfl
 obtain⟨H3,m3,r3,n3,k3⟩:=row_newL H2 [.int .i64 0] (n:=1) rfl
 obtain⟨H4,m4,r4,n4,k4⟩:=row_st r3 (n:=1) rfl (i:=0) om (x:=.int .i64 (E.length:Int)) rfl (l':=[.int .i64 (E.length:Int)]) rfl
 have E2:Ext H.next H H2:=⟨om,fun c hc=>by rw[k2 c om,k1 c om]⟩
 have E4:Ext H.next H H4:=⟨om,fun c hc=>by rw[k4 c om,k3 c om,E2.old c hc]⟩
 have A4:=A.exts E4
 obtain⟨ob,hob⟩:∃b,b=H.next:=⟨_,rfl⟩
 obtain⟨fb,hfb⟩:∃b,b=H1.next:=⟨_,rfl⟩
 obtain⟨sb,hsb⟩:∃b,b=H2.next:=⟨_,rfl⟩
 rw[← hob]at m1 r1 k1
 rw[← hfb]at m2 r2 k2
 rw[← hsb]at m3 r3 k3 m4 r4 k4
 have ro4:Row H4 ob [cellR cb 2 0]:=r1.same (by rw[k4 _ om,k3 _ om,k2 _ om])
 have rf4:Row H4 fb [.int .i64 0,.int .i64 0]:=r2.same (by rw[k4 _ om,k3 _ om])
 have lo2:oLoad false 1 H2 (cellR ob 1 0)=some (cellR cb 2 0):=row_load (r1.same (k2 _ om)) rfl rfl
 have lN2:oLoad false 1 H2 (cellR cb 2 0)=some vn:=row_load (A.exts E2).row rfl rfl
 have lnn:=A.ln.len
 have lv:=z1.len
 have g77:argE [cellR cb 2 0,v] 77=.tuple []:=rfl
 have g76:argE [cellR cb 2 0,v] 76=.tuple []:=rfl
 have fin:∀(K:AHeap) (E':Env') (vn1 vk1:AVal) (f:FltI),ChS E' cb n0 vn1 vk1 K→ChF cb vn vk H vn1 vk1 K→E'.take E.length=E→E.length≤E'.length→Row K ob [cellR cb 2 0]→Row K sb [.int .i64 (E.length:Int)]→Row K fb (flI f)→H.next≤fb→fltL (ckL E false l)=f →
   ACalls Tryz.prog natT 3169 [cellR ob 1 0,cellR sb 1 0] K fun _ K'=>oLoad true 2 K' (cellR fb 2 0)=some (.agg (flI f))∧LiO E cb n0 vn vk H (fltL (ckL E false l)) (.agg (flI f)) K':=by
  intro K E' vn1 vk1 f AK FK htk hlE rO rS rF hfb2 hf
  have hlK:=AK.lt
  refine (dcl_spec AK rO rS om om hlE).mono ?_
  rintro _ K' ⟨vn2,vk2,A2,F2,n2,k2⟩
  rw[htk]at A2
  exact⟨row_loadN (rF.same (k2 _ om)) rfl,by rw[hf],vn2,vk2,A2,FK.trans F2⟩
 have bq0:Blk vn fun b=>b<H.next:=A.ln.blk
 have bq1:Blk vk fun b=>b<H.next:=A.lk.blk
 refine acalls_ofE rfl za54 rfl ?_
 simp only[c54,sA,sB,seval,cellR_cells,m1,m2,lo2,nil_cell,fld0,lN2,lnn,m3,m4,g77,pf_dset,lv]
 refine aw_loop (fun m (T:Env) K=>∃(i:Nat) (Ei:Env') (vn1 vk1:AVal),m=l.length-i∧i≤l.length∧T 1=v∧T 2=cellR ob 1 0∧T 4=cellR fb 2 0∧T 5=cellR sb 1 0∧T 18=.int .i64 (l.length:Int)∧T 19=.int .i64 (i:Int)∧T 76=.tuple []∧T 77=.func (.func 97) [] [cellR ob 1 0,cellR sb 1 0] ∧
   ChS Ei cb n0 vn1 vk1 K∧ChF cb vn vk H vn1 vk1 K∧(Blk vn1 fun b=>b<H.next∨H4.next≤b)∧(Blk vk1 fun b=>b<H.next∨H4.next≤b)∧Ei.take E.length=E∧E.length≤Ei.length∧Scp Ei∧Ei.length≤E.length+sizesS (l.take i)∧H4.next≤K.next∧Row K ob [cellR cb 2 0]∧Row K sb [.int .i64 (E.length:Int)]∧Row K fb [.int .i64 0,.int .i64 0]∧ckL E false l=ckL Ei (prevR l i) (l.drop i)) l.length
  ⟨0,E,vn,vk,rfl,Nat.zero_le _,by simp only[sA,sB,seval]; try rfl,by simp only[sA,sB,seval]; try rfl,by simp only[sA,sB,seval]; try rfl,by simp only[sA,sB,seval]; try rfl,by simp only[sA,sB,seval]; try rfl,by simp only[sA,sB,seval]; try rfl,by simp only[sA,sB,seval,g76]; try rfl,by simp only[sA,sB,seval]; try rfl,A4,ChF.exts E4,bq0.mono fun x hx=>.inl hx,bq1.mono fun x hx=>.inl hx,by rw[List.take_length],Nat.le_refl _,hE,by simp[sizesS],Nat.le_refl _,ro4,r4,rf4,rfl⟩ ?_
 rintro m T K ⟨i,Ei,vn1,vk1,rfl,hi,t1,t2,t4,t5,t18,t19,t76,t77,AK,FK,bq3,bq4,htk,hEl2,hEi,hEil,nK,ro,rs,rf,hck⟩
 have nf:∀x,(x<H.next∨H4.next≤x)→x≠fb:=fun x hx=>om
 by_cases hlt:i<l.length
 case neg=>
  obtain rfl:i=l.length:=om
  have hlt':¬(l.length:Int)<(l.length:Int):=om
  have bz:aBuild [.int .i64 0,.int .i64 0] []=some (.agg [.int .i64 0,.int .i64 0]):=rfl
  obtain⟨K5,m5,r5,n5,k5⟩:=row_storeN rf (n:=2) rfl (xs:=[.int .i64 0,.int .i64 0]) rfl rfl
  have ff:fltL (ckL E false l)=(0,0):=by rw[hck,List.drop_length]; rfl
  simp only[sA,sB,seval,t1,t2,t4,t5,t18,t19,t76,t77,hlt',bz,m5,pf_isU,isU_func,isU_0,pf_isF2,pf_capt20,pf_capt21]
  refine (fin K5 Ei vn1 vk1 (0,0) (AK.other fb k5 om om (bq3.mono nf) (bq4.mono nf)) (FK.otherF fb k5 om om) htk hEl2 (ro.same (k5 _ om)) (rs.same (k5 _ om)) r5 om ff).mono ?_
  rintro _ K6 ⟨l6,o6⟩
  simp only[sA,sB,seval,t4,l6,pf_tup1]
  exact o6
 have hlt':(i:Int)<(l.length:Int):=om
 obtain⟨x,he⟩:∃e,l[i]?=some e:=⟨_,List.getElem?_eq_getElem hlt⟩
 have hts:l.take (i+1)=l.take i++[x]:=by rw[List.take_add_one,he]; rfl
 have hdrop:l.drop i=x::l.drop (i+1):=by
  rw[← (List.getElem?_eq_some_iff.1 he).2,← List.drop_eq_getElem_cons hlt]
 have hmem:=List.mem_of_getElem? he
 have hsm:=size_memS hmem
 have hdm:=deepsS_mem hmem
 have hlenl:=len_sizesS l
 have lowK:∀c,c<n0→c<n0∧K.get c=H.get c:=fun c hc=>⟨hc,FK.low A hc⟩
 have z1K:=z1.mono lowK
 have z2K:=z2.mono lowK
 have ix:=z1K.idx hlt
 have pt:=z1K.pt hlt
 have pblk:=z1K.blk hlt
 have wi:IntKind.i64.wrap ((i:Int)+1)=((i+1:Nat):Int):=addN i 1 om
 have hx3:=z2K.at he
 have hokx:=okS_at hok hmem
 have hszt:sizesS (l.take i)+x.size≤sizesS l:=by
  have:sizesS (l.take (i+1))≤sizesS l:=by
   conv=>rhs; rw[← List.take_append_drop (i+1) l,sizesS_app]
   omega
  rw[hts,sizesS_app]at this
  simp only[sizesS]at this
  omega
 have joinF:∀{vn2 vk2:AVal} {K2:AHeap},ChF cb vn1 vk1 K vn2 vk2 K2→ChF cb vn vk H vn2 vk2 K2∧(Blk vn2 fun b=>b<H.next∨H4.next≤b)∧(Blk vk2 fun b=>b<H.next∨H4.next≤b):=fun F=>⟨FK.trans F,(F.bn _ bq3).mono fun x hx=>by rcases hx with (hx | hx) | hx <;> omega,(F.bk _ bq4).mono fun x hx=>by rcases hx with (hx | hx) | hx <;> omega⟩
 have keep:∀{vn2 vk2:AVal} {K2:AHeap} {c:Nat},ChF cb vn1 vk1 K vn2 vk2 K2→c<K.next→c≠cb→(H.next≤c∧c<H4.next)→K2.get c=K.get c:=fun F h1 h2 h3=>F.old _ h1 h2 (bq3.mono fun x hx=>om) (bq4.mono fun x hx=>om)
 obtain⟨k,sx,e,body,els,line⟩:=x
 obtain⟨ce,vb,Cb,ve,Ce,hcell,x1,y1,y2,y3,y4⟩:=hx3
 rw[hcell]at pt
 obtain⟨hlf,hokE,hokB,hokL⟩:=okS_parts hokx
 have hk5:=lineF_k hlf
 have hsz:(St.mk k sx e body els line).size=e.size+sizesS body+sizesS els+1:=rfl
 have hdp:(St.mk k sx e body els line).deep=max e.deep (max (deepsS body) (deepsS els))+1:=rfl
 have hnx:prevR l (i+1)=decide (k=5):=by simp only[prevR,he]; rfl
 have nc:=pt.chk
 have fl8:=pt.fld 8
 obtain⟨c0,c1,c2,c3,rfl⟩:∃a b c d,ce=[a,b,c,d]:=by
  have:=x1.len
  match ce,this with
  | [a,b,c,d],_=>exact⟨a,b,c,d,rfl⟩
 by_cases hi0:i=0
 ·have h0:¬(0:Int)<(i:Int):=om
  have hprev:prevR l i=false:=by rw[hi0]; rfl
  simp only[sA,sB,seval,t1,t2,t4,t5,t18,t19,t76,t77,hlt',ix,h0,loadBox ro]
  refine (tcstmt_spec hEi om AK (vb:=vb) (ve:=ve) (body:=body) (els:=els) (line:=line) pt (fun a e=>pblk a e) x1 hokE hk5 om om).mono ?_
  rintro u K2 ⟨vn2,vk2,ho,F2⟩
  have e2:=F2.next
  obtain⟨FH2,q1,q2⟩:=joinF F2
  have low2:∀c,c<n0→K2.get c=K.get c:=fun c hc=>F2.low AK hc
  have pt2:=pt.same (H':=K2) fun a e=>low2 _ (pblk a e)
  have ro2:Row K2 ob [cellR cb 2 0]:=ro.same (keep F2 om om om)
  have rs2:Row K2 sb [.int .i64 (E.length:Int)]:=rs.same (keep F2 om om om)
  have rf2:Row K2 fb [.int .i64 0,.int .i64 0]:=rf.same (keep F2 om om om)
  cases hst:stT Ei k sx e with
  | error f=>
   rw[hst]at ho
   obtain⟨rfl,A2⟩:=ho
   have hf0:f≠0:=stT_err hst
   have hf':¬(f:Int)=0:=om
   have ff:fltL (ckL E false l)=(f,line):=by rw[hck,hdrop]; simp only[ckL,ckS,hprev,hst]; rfl
   obtain⟨K3,m3,r3,n3,k3⟩:=row_storeN rf2 (n:=2) rfl (xs:=[.int .i64 0,.int .i64 0]) rfl rfl
   obtain⟨K4,m4,r4,n4,k4⟩:=row_st r3 (n:=2) rfl (i:=0) om (x:=.int .i64 (f:Int)) rfl (l':=[.int .i64 (f:Int),.int .i64 0]) rfl
   obtain⟨K5,m5,r5,n5,k5⟩:=row_st r4 (n:=2) rfl (i:=1) om (x:=.int .i64 line) rfl (l':=flI (f,line)) rfl
   have k25:∀c,c≠fb→K5.get c=K2.get c:=fun c hc=>by rw[k5 c hc,k4 c hc,k3 c hc]
   have pl2:oLoad false 1 K2 (fp (placeK 9 v i) 8)=some (.int .i64 line):=pt2.load (o:=8) rfl
   have pl3:oLoad false 1 K3 (fp (placeK 9 v i) 8)=some (.int .i64 line):=(pt2.same (H':=K3) fun a e=>k3 _ (by have:=pblk a e; omega)).load (o:=8) rfl
   have pl4:oLoad false 1 K4 (fp (placeK 9 v i) 8)=some (.int .i64 line):=(pt2.same (H':=K4) fun a e=>by rw[k4 _ (by have:=pblk a e; omega),k3 _ (by have:=pblk a e; omega)]).load (o:=8) rfl
   simp only[sA,sB,seval,t1,t2,t4,t5,t18,t19,t76,t77,hf']
   refine aw_drawC rfl ?_
   simp only[sR,sA,sB,seval,t1,t2,t4,t5,t18,t19,t76,t77,nc,fl8,nil_cell,fld0,fldA,pl2,m3,m4,m5]
   simp only[ck_nil',ck_cons,ckP_load,ckP_nil,ck_end,and_true,true_and,List.map_cons,List.map_nil,sA,sB,seval,t1,t2,t4,t5,t18,t19,t76,t77,nc,fl8,nil_cell,fld0,fldA]
   refine⟨⟨⟨_,rfl,fun _=>⟨_,pl3,aeq_int _ _⟩⟩,⟨_,rfl,fun _=>⟨_,pl4,aeq_int _ _⟩⟩⟩,?_⟩
   simp only[sA,sB,seval,t2,t4,t5,t76,t77,pf_isU,isU_func,isU_0,pf_isF2,pf_capt20,pf_capt21]
   refine (fin K5 Ei vn2 vk2 (f,line) (A2.other fb k25 om om (q1.mono nf) (q2.mono nf)) (FH2.otherF fb k25 om om) htk hEl2 (ro2.same (k25 _ om)) (rs2.same (k25 _ om)) r5 om ff).mono ?_
   rintro _ K6 ⟨l6,o6⟩
   simp only[sA,sB,seval,t4,l6,pf_tup1]
   exact o6
  | ok E2=>
  rw[hst]at ho
  obtain⟨rfl,A2⟩:=ho
  have hE2:=stT_scp hEi hst
  have hlen2:=stT_len hst
  have z0:(0:Int)=0:=rfl
  have lb2:oLoad false 1 K2 (fp (placeK 9 v i) 6)=some vb:=pt2.load (o:=6) rfl
  simp only[sA,sB,seval,t1,t2,t4,t5,t18,t19,t76,t77]
  obtain⟨Kr,hKr⟩:∃J,J=K2.push (.cells [.int .i64 0,.int .i64 0] 0 false):=⟨_,rfl⟩
  have nr:Kr.next=K2.next+1:=by rw[hKr]; rfl
  have gr:Kr.get K2.next=some (.cells [.int .i64 0,.int .i64 0] 0 false):=by rw[hKr,AHeap.get_push,if_pos rfl]
  have Er:Ext K2.next K2 Kr:=⟨om,fun c hc=>by rw[hKr,get_push_lt hc]⟩
  have Ar:=A2.exts Er
  have lor:oLoad false 1 Kr (cellR ob 1 0)=some (cellR cb 2 0):=row_load (ro2.same (Er.old _ om)) rfl rfl
  have lbr:oLoad false 1 Kr (fp (placeK 9 v i) 6)=some vb:=(pt2.same (H':=Kr) fun a e=>Er.old _ (by have:=pblk a e; omega)).load (o:=6) rfl
  have lowr:∀c,c<n0→c<n0∧Kr.get c=K.get c:=fun c hc=>⟨hc,by rw[Er.old c om,low2 c hc]⟩
  have fl6:=pt.fld 6
  refine aw_drawN ?_
  simp only[claims,newOf,reserves,resO_0,clOp_new,← hKr]
  simp only[sR,sA,sB,seval,t1,t2,t4,t5,t18,t19,t76,t77,lor,nc,fl6,lbr]
  refine (ih (sizesS body) om rL Ar (y1.mono lowr) (y2.mono lowr) hokB om hE2 om).mono ?_
  rintro _ K3 ⟨rfl,vn3,vk3,A3,F3⟩
  have e3:=F3.next
  have F23:ChF cb vn2 vk2 K2 vn3 vk3 K3:=(ChF.exts Er).trans F3
  obtain⟨FH3,q3,q4⟩:=joinF (F2.trans F23)
  have gr3:Row K3 K2.next [.int .i64 0,.int .i64 0]:=⟨0,(F3.old _ om om (A2.ln.blk.mono fun x hx=>om) (A2.lk.blk.mono fun x hx=>om)).trans gr,Nat.zero_le _⟩
  have clr:aClaim Kr K2.next _ none=some (cellR K2.next 2 0):=claim_ok gr rfl
  have clg:∀{J:AHeap},J.get K2.next=some (.cells [.int .i64 0,.int .i64 0] 0 false)→aClaim J K2.next [.int .i64 0,.int .i64 0] none=some (cellR K2.next 2 0):=fun h=>claim_ok h rfl
  have cl3:=clg ((F3.old _ om om (A2.ln.blk.mono fun x hx=>om) (A2.lk.blk.mono fun x hx=>om)).trans gr)
  obtain⟨K4,m4,r4,n4,k4⟩:=row_storeN gr3 (n:=2) rfl (xs:=flI (fltL (ckL E2 false body))) rfl rfl
  have A4:ChS E2 cb n0 vn3 vk3 K4:=A3.other K2.next k4 om om (by
   exact (F3.bn (·≠K2.next) (A2.ln.blk.mono fun x hx=>om)).mono fun x hx=>om) (by
   exact (F3.bk (·≠K2.next) (A2.lk.blk.mono fun x hx=>om)).mono fun x hx=>om)
  have F24:ChF cb vn2 vk2 K2 vn3 vk3 K4:=⟨om,fun c h1 h2 h3 h4=>by rw[k4 c om,F23.old c h1 h2 h3 h4],F23.bn,F23.bk⟩
  have F4:=F2.trans F24
  obtain⟨FH4,q5,q6⟩:=joinF F4
  have ro4:Row K4 ob [cellR cb 2 0]:=ro.same (keep F4 om om om)
  have rs4:Row K4 sb [.int .i64 (E.length:Int)]:=rs.same (keep F4 om om om)
  have rf4:Row K4 fb [.int .i64 0,.int .i64 0]:=rf.same (keep F4 om om om)
  have lf0:oLoad false 1 K4 (cellR K2.next 2 0)=some (.int .i64 ((fltL (ckL E2 false body)).1:Int)):=row_load r4 rfl rfl
  have lfa:oLoad true 2 K4 (cellR K2.next 2 0)=some (.agg (flI (fltL (ckL E2 false body)))):=row_loadN r4 rfl
  simp only[sR,sA,sB,seval,t1,t2,t4,t5,t18,t19,t76,t77,tr_claim,cl3,m4]
  simp only[ck_nil',ck_cons,ckP_load,ckP_claim,ckP_nil,ck_end,and_true,true_and,List.map_cons,List.map_nil,sA,sB,seval,t1,t2,t4,t5,t18,t19,t76,t77]
  refine⟨⟨_,rfl,fun _=>⟨_,clr,aeq_cellR _ _ _⟩⟩,?_⟩
  simp only[sA,sB,seval,fld0,lf0]
  cases hb:ckL E2 false body with
  | error f=>
   have hf0:f.1≠0:=ckL_err hb
   have hf':¬(f.1:Int)=0:=om
   have ff:fltL (ckL E false l)=f:=by rw[hck,hdrop]; simp only[ckL,ckS,hprev,hst,hb]; rfl
   rw[hb]at lfa
   obtain⟨K5,m5,r5,n5,k5⟩:=row_storeN rf4 (n:=2) rfl (xs:=flI f) rfl rfl
   simp only[sA,sB,seval,fltL,hf',t1,t2,t4,t5,t18,t19,t76,t77,lfa,m5,pf_isU,isU_func,isU_0,pf_isF2,pf_capt20,pf_capt21]
   refine (fin K5 E2 vn3 vk3 f (A4.other fb k5 om om (q5.mono nf) (q6.mono nf)) (FH4.otherF fb k5 om om) (by rw[stT_take hst hEl2]; exact htk) om (ro4.same (k5 _ om)) (rs4.same (k5 _ om)) r5 om ff).mono ?_
   rintro _ K6 ⟨l6,o6⟩
   simp only[sA,sB,seval,t4,l6,pf_tup1]
   exact o6
  | ok Eb=>
  simp only[sA,sB,seval,fltL,Int.cast_ofNat_Int,t1,t2,t4,t5,t18,t19,t76,t77]
  have low4:∀c,c<n0→K4.get c=K.get c:=fun c hc=>F4.low AK hc
  have pt4:=pt.same (H':=K4) fun a e=>low4 _ (pblk a e)
  obtain⟨Ks,hKs⟩:∃J,J=K4.push (.cells [.int .i64 0,.int .i64 0] 0 false):=⟨_,rfl⟩
  have ns:Ks.next=K4.next+1:=by rw[hKs]; rfl
  have gs:Ks.get K4.next=some (.cells [.int .i64 0,.int .i64 0] 0 false):=by rw[hKs,AHeap.get_push,if_pos rfl]
  have Es:Ext K4.next K4 Ks:=⟨om,fun c hc=>by rw[hKs,get_push_lt hc]⟩
  have As:=A4.exts Es
  have los:oLoad false 1 Ks (cellR ob 1 0)=some (cellR cb 2 0):=row_load (ro4.same (Es.old _ om)) rfl rfl
  have les:oLoad false 1 Ks (fp (placeK 9 v i) 7)=some ve:=(pt4.same (H':=Ks) fun a e=>Es.old _ (by have:=pblk a e; omega)).load (o:=7) rfl
  have lows:∀c,c<n0→c<n0∧Ks.get c=K.get c:=fun c hc=>⟨hc,by rw[Es.old c om,low4 c hc]⟩
  have fl7:=pt.fld 7
  refine aw_drawN ?_
  simp only[claims,newOf,reserves,resO_0,clOp_new,← hKs]
  simp only[sR,sA,sB,seval,t1,t2,t4,t5,t18,t19,t76,t77,los,nc,fl7,les]
  refine (ih (sizesS els) om rL As (y3.mono lows) (y4.mono lows) hokL om hE2 om).mono ?_
  rintro _ K5 ⟨rfl,vn5,vk5,A5,F5⟩
  have e5:=F5.next
  have gs5:=(F5.old _ om om (A4.ln.blk.mono fun x hx=>om) (A4.lk.blk.mono fun x hx=>om)).trans gs
  have cls:∀{J:AHeap},J.get K4.next=some (.cells [.int .i64 0,.int .i64 0] 0 false)→aClaim J K4.next [.int .i64 0,.int .i64 0] none=some (cellR K4.next 2 0):=fun h=>claim_ok h rfl
  have cl5:=cls gs5
  obtain⟨K6,m6,r6,n6,k6⟩:=row_storeN (H:=K5) (b:=K4.next) ⟨0,gs5,Nat.zero_le _⟩ (n:=2) rfl (xs:=flI (fltL (ckL E2 false els))) rfl rfl
  have A6:ChS E2 cb n0 vn5 vk5 K6:=A5.other K4.next k6 om om (by
   exact (F5.bn (·≠K4.next) (A4.ln.blk.mono fun x hx=>om)).mono fun x hx=>om) (by
   exact (F5.bk (·≠K4.next) (A4.lk.blk.mono fun x hx=>om)).mono fun x hx=>om)
  have F46:ChF cb vn3 vk3 K4 vn5 vk5 K6:=by
   have F45:=(ChF.exts (cb:=cb) (vn:=vn3) (vk:=vk3) Es).trans F5
   exact⟨om,fun c h1 h2 h3 h4=>by rw[k6 c om,F45.old c h1 h2 h3 h4],F45.bn,F45.bk⟩
  have F6:=F4.trans F46
  obtain⟨FH6,q7,q8⟩:=joinF F6
  have ro6:Row K6 ob [cellR cb 2 0]:=ro.same (keep F6 om om om)
  have rs6:Row K6 sb [.int .i64 (E.length:Int)]:=rs.same (keep F6 om om om)
  have rf6:Row K6 fb [.int .i64 0,.int .i64 0]:=rf.same (keep F6 om om om)
  have lg0:oLoad false 1 K6 (cellR K4.next 2 0)=some (.int .i64 ((fltL (ckL E2 false els)).1:Int)):=row_load r6 rfl rfl
  have lga:oLoad true 2 K6 (cellR K4.next 2 0)=some (.agg (flI (fltL (ckL E2 false els)))):=row_loadN r6 rfl
  simp only[sR,sA,sB,seval,t1,t2,t4,t5,t18,t19,t76,t77,tr_claim,cl5,m6]
  simp only[ck_nil',ck_cons,ckP_load,ckP_claim,ckP_nil,ck_end,and_true,true_and,List.map_cons,List.map_nil,sA,sB,seval,t1,t2,t4,t5,t18,t19,t76,t77]
  refine⟨⟨_,rfl,fun _=>⟨_,cls gs,aeq_cellR _ _ _⟩⟩,?_⟩
  simp only[sA,sB,seval,fld0,lg0]
  cases hc:ckL E2 false els with
  | error f=>
   have hf0:f.1≠0:=ckL_err hc
   have hf':¬(f.1:Int)=0:=om
   have ff:fltL (ckL E false l)=f:=by rw[hck,hdrop]; simp only[ckL,ckS,hprev,hst,hb,hc]; rfl
   rw[hc]at lga
   obtain⟨K7,m7,r7,n7,k7⟩:=row_storeN rf6 (n:=2) rfl (xs:=flI f) rfl rfl
   simp only[sA,sB,seval,fltL,hf',t1,t2,t4,t5,t18,t19,t76,t77,lga,m7,pf_isU,isU_func,isU_0,pf_isF2,pf_capt20,pf_capt21]
   refine (fin K7 E2 vn5 vk5 f (A6.other fb k7 om om (q7.mono nf) (q8.mono nf)) (FH6.otherF fb k7 om om) (by rw[stT_take hst hEl2]; exact htk) om (ro6.same (k7 _ om)) (rs6.same (k7 _ om)) r7 om ff).mono ?_
   rintro _ K8 ⟨l8,o8⟩
   simp only[sA,sB,seval,t4,l8,pf_tup1]
   exact o8
  | ok Ec=>
  simp only[sA,sB,seval,fltL,Int.cast_ofNat_Int,t1,t2,t4,t5,t18,t19,t76,t77,wi]
  refine⟨l.length-(i+1),om,i+1,E2,vn5,vk5,rfl,om,tt,tt,tt,tt,tt,tt,tt,tt,A6,FH6,q7,q8,by rw[stT_take hst hEl2]; exact htk,om,hE2,?_,om,ro6,rs6,rf6,?_⟩
  ·rw[hts,sizesS_app]; simp only[sizesS]; omega
  ·rw[hck,hdrop,hnx]
   simp only[ckL,ckS,hprev,hst,hb,hc]
   rfl
 obtain⟨j,hj⟩:∃j,i=j+1:=⟨i-1,om⟩
 have h0:(0:Int)<(i:Int):=om
 have wj:IntKind.i64.wrap ((i:Int)-1)=(j:Int):=w64
 have hjl:j<l.length:=om
 obtain⟨y,hy⟩:∃e,l[j]?=some e:=⟨_,List.getElem?_eq_getElem hjl⟩
 have ixj:=z1K.idx hjl
 have ptj:=z1K.pt hjl
 have hyx:=z2K.at hy
 obtain⟨k',s',e',body',els',line'⟩:=y
 obtain⟨ce',vb',Cb',ve',Ce',hcell',_⟩:=hyx
 rw[hcell']at ptj
 have fj0:=ptj.fld0
 have ldj:oLoad false 1 K (placeK 9 v j)=some (.int .u8 (k':Int)):=ptj.load0 rfl
 have hpv:prevR l i=decide (k'=5):=by rw[hj]; simp only[prevR,hy]; rfl
 by_cases hk':k'=5
 ·subst hk'
  have hprev:prevR l i=true:=by rw[hpv]; rfl
  simp only[Int.cast_ofNat_Int]at ldj
  have ff:fltL (ckL E false l)=(113,line):=by rw[hck,hdrop]; simp only[ckL,hprev]; rfl
  obtain⟨K3,m3,r3,n3,k3⟩:=row_storeN rf (n:=2) rfl (xs:=[.int .i64 0,.int .i64 0]) rfl rfl
  obtain⟨K4,m4,r4,n4,k4⟩:=row_st r3 (n:=2) rfl (i:=0) om (x:=.int .i64 113) rfl (l':=[.int .i64 113,.int .i64 0]) rfl
  obtain⟨K5,m5,r5,n5,k5⟩:=row_st r4 (n:=2) rfl (i:=1) om (x:=.int .i64 line) rfl (l':=flI (113,line)) rfl
  have k25:∀c,c≠fb→K5.get c=K.get c:=fun c hc=>by rw[k5 c hc,k4 c hc,k3 c hc]
  have pl2:oLoad false 1 K (fp (placeK 9 v i) 8)=some (.int .i64 line):=pt.load (o:=8) rfl
  have pl3:oLoad false 1 K3 (fp (placeK 9 v i) 8)=some (.int .i64 line):=(pt.same (H':=K3) fun a e=>k3 _ (by have:=pblk a e; omega)).load (o:=8) rfl
  have pl4:oLoad false 1 K4 (fp (placeK 9 v i) 8)=some (.int .i64 line):=(pt.same (H':=K4) fun a e=>by rw[k4 _ (by have:=pblk a e; omega),k3 _ (by have:=pblk a e; omega)]).load (o:=8) rfl
  simp only[sA,sB,seval,t1,t2,t4,t5,t18,t19,t76,t77,hlt',ix,h0,wj,ixj,fj0,ldj]
  refine aw_drawC rfl ?_
  simp only[sR,sA,sB,seval,t1,t2,t4,t5,t18,t19,t76,t77,nc,fl8,nil_cell,fld0,fldA,pl2,m3,m4,m5]
  simp only[ck_nil',ck_cons,ckP_load,ckP_nil,ck_end,and_true,true_and,List.map_cons,List.map_nil,sA,sB,seval,t1,t2,t4,t5,t18,t19,t76,t77,nc,fl8,nil_cell,fld0,fldA]
  refine⟨⟨⟨_,rfl,fun _=>⟨_,pl3,aeq_int _ _⟩⟩,⟨_,rfl,fun _=>⟨_,pl4,aeq_int _ _⟩⟩⟩,?_⟩
  simp only[sA,sB,seval,t2,t4,t5,t76,t77,pf_isU,isU_func,isU_0,pf_isF2,pf_capt20,pf_capt21]
  refine (fin K5 Ei vn1 vk1 (113,line) (AK.other fb k25 om om (bq3.mono nf) (bq4.mono nf)) (FK.otherF fb k25 om om) htk hEl2 (ro.same (k25 _ om)) (rs.same (k25 _ om)) r5 om ff).mono ?_
  rintro _ K6 ⟨l6,o6⟩
  simp only[sA,sB,seval,t4,l6,pf_tup1]
  exact o6
 ·have hprev:prevR l i=false:=by rw[hpv]; exact decide_eq_false hk'
  have hk5':¬(k':Int)=5:=om
  simp only[sA,sB,seval,t1,t2,t4,t5,t18,t19,t76,t77,hlt',ix,h0,wj,ixj,fj0,ldj,hk5',loadBox ro]
  refine (tcstmt_spec hEi om AK (vb:=vb) (ve:=ve) (body:=body) (els:=els) (line:=line) pt (fun a e=>pblk a e) x1 hokE hk5 om om).mono ?_
  rintro u K2 ⟨vn2,vk2,ho,F2⟩
  have e2:=F2.next
  obtain⟨FH2,q1,q2⟩:=joinF F2
  have low2:∀c,c<n0→K2.get c=K.get c:=fun c hc=>F2.low AK hc
  have pt2:=pt.same (H':=K2) fun a e=>low2 _ (pblk a e)
  have ro2:Row K2 ob [cellR cb 2 0]:=ro.same (keep F2 om om om)
  have rs2:Row K2 sb [.int .i64 (E.length:Int)]:=rs.same (keep F2 om om om)
  have rf2:Row K2 fb [.int .i64 0,.int .i64 0]:=rf.same (keep F2 om om om)
  cases hst:stT Ei k sx e with
  | error f=>
   rw[hst]at ho
   obtain⟨rfl,A2⟩:=ho
   have hf0:f≠0:=stT_err hst
   have hf':¬(f:Int)=0:=om
   have ff:fltL (ckL E false l)=(f,line):=by rw[hck,hdrop]; simp only[ckL,ckS,hprev,hst]; rfl
   obtain⟨K3,m3,r3,n3,k3⟩:=row_storeN rf2 (n:=2) rfl (xs:=[.int .i64 0,.int .i64 0]) rfl rfl
   obtain⟨K4,m4,r4,n4,k4⟩:=row_st r3 (n:=2) rfl (i:=0) om (x:=.int .i64 (f:Int)) rfl (l':=[.int .i64 (f:Int),.int .i64 0]) rfl
   obtain⟨K5,m5,r5,n5,k5⟩:=row_st r4 (n:=2) rfl (i:=1) om (x:=.int .i64 line) rfl (l':=flI (f,line)) rfl
   have k25:∀c,c≠fb→K5.get c=K2.get c:=fun c hc=>by rw[k5 c hc,k4 c hc,k3 c hc]
   have pl2:oLoad false 1 K2 (fp (placeK 9 v i) 8)=some (.int .i64 line):=pt2.load (o:=8) rfl
   have pl3:oLoad false 1 K3 (fp (placeK 9 v i) 8)=some (.int .i64 line):=(pt2.same (H':=K3) fun a e=>k3 _ (by have:=pblk a e; omega)).load (o:=8) rfl
   have pl4:oLoad false 1 K4 (fp (placeK 9 v i) 8)=some (.int .i64 line):=(pt2.same (H':=K4) fun a e=>by rw[k4 _ (by have:=pblk a e; omega),k3 _ (by have:=pblk a e; omega)]).load (o:=8) rfl
   simp only[sA,sB,seval,t1,t2,t4,t5,t18,t19,t76,t77,hf']
   refine aw_drawC rfl ?_
   simp only[sR,sA,sB,seval,t1,t2,t4,t5,t18,t19,t76,t77,nc,fl8,nil_cell,fld0,fldA,pl2,m3,m4,m5]
   simp only[ck_nil',ck_cons,ckP_load,ckP_nil,ck_end,and_true,true_and,List.map_cons,List.map_nil,sA,sB,seval,t1,t2,t4,t5,t18,t19,t76,t77,nc,fl8,nil_cell,fld0,fldA]
   refine⟨⟨⟨_,rfl,fun _=>⟨_,pl3,aeq_int _ _⟩⟩,⟨_,rfl,fun _=>⟨_,pl4,aeq_int _ _⟩⟩⟩,?_⟩
   simp only[sA,sB,seval,t2,t4,t5,t76,t77,pf_isU,isU_func,isU_0,pf_isF2,pf_capt20,pf_capt21]
   refine (fin K5 Ei vn2 vk2 (f,line) (A2.other fb k25 om om (q1.mono nf) (q2.mono nf)) (FH2.otherF fb k25 om om) htk hEl2 (ro2.same (k25 _ om)) (rs2.same (k25 _ om)) r5 om ff).mono ?_
   rintro _ K6 ⟨l6,o6⟩
   simp only[sA,sB,seval,t4,l6,pf_tup1]
   exact o6
  | ok E2=>
  rw[hst]at ho
  obtain⟨rfl,A2⟩:=ho
  have hE2:=stT_scp hEi hst
  have hlen2:=stT_len hst
  have z0:(0:Int)=0:=rfl
  have lb2:oLoad false 1 K2 (fp (placeK 9 v i) 6)=some vb:=pt2.load (o:=6) rfl
  simp only[sA,sB,seval,t1,t2,t4,t5,t18,t19,t76,t77]
  obtain⟨Kr,hKr⟩:∃J,J=K2.push (.cells [.int .i64 0,.int .i64 0] 0 false):=⟨_,rfl⟩
  have nr:Kr.next=K2.next+1:=by rw[hKr]; rfl
  have gr:Kr.get K2.next=some (.cells [.int .i64 0,.int .i64 0] 0 false):=by rw[hKr,AHeap.get_push,if_pos rfl]
  have Er:Ext K2.next K2 Kr:=⟨om,fun c hc=>by rw[hKr,get_push_lt hc]⟩
  have Ar:=A2.exts Er
  have lor:oLoad false 1 Kr (cellR ob 1 0)=some (cellR cb 2 0):=row_load (ro2.same (Er.old _ om)) rfl rfl
  have lbr:oLoad false 1 Kr (fp (placeK 9 v i) 6)=some vb:=(pt2.same (H':=Kr) fun a e=>Er.old _ (by have:=pblk a e; omega)).load (o:=6) rfl
  have lowr:∀c,c<n0→c<n0∧Kr.get c=K.get c:=fun c hc=>⟨hc,by rw[Er.old c om,low2 c hc]⟩
  have fl6:=pt.fld 6
  refine aw_drawN ?_
  simp only[claims,newOf,reserves,resO_0,clOp_new,← hKr]
  simp only[sR,sA,sB,seval,t1,t2,t4,t5,t18,t19,t76,t77,lor,nc,fl6,lbr]
  refine (ih (sizesS body) om rL Ar (y1.mono lowr) (y2.mono lowr) hokB om hE2 om).mono ?_
  rintro _ K3 ⟨rfl,vn3,vk3,A3,F3⟩
  have e3:=F3.next
  have F23:ChF cb vn2 vk2 K2 vn3 vk3 K3:=(ChF.exts Er).trans F3
  obtain⟨FH3,q3,q4⟩:=joinF (F2.trans F23)
  have gr3:Row K3 K2.next [.int .i64 0,.int .i64 0]:=⟨0,(F3.old _ om om (A2.ln.blk.mono fun x hx=>om) (A2.lk.blk.mono fun x hx=>om)).trans gr,Nat.zero_le _⟩
  have clr:aClaim Kr K2.next _ none=some (cellR K2.next 2 0):=claim_ok gr rfl
  have clg:∀{J:AHeap},J.get K2.next=some (.cells [.int .i64 0,.int .i64 0] 0 false)→aClaim J K2.next [.int .i64 0,.int .i64 0] none=some (cellR K2.next 2 0):=fun h=>claim_ok h rfl
  have cl3:=clg ((F3.old _ om om (A2.ln.blk.mono fun x hx=>om) (A2.lk.blk.mono fun x hx=>om)).trans gr)
  obtain⟨K4,m4,r4,n4,k4⟩:=row_storeN gr3 (n:=2) rfl (xs:=flI (fltL (ckL E2 false body))) rfl rfl
  have A4:ChS E2 cb n0 vn3 vk3 K4:=A3.other K2.next k4 om om (by
   exact (F3.bn (·≠K2.next) (A2.ln.blk.mono fun x hx=>om)).mono fun x hx=>om) (by
   exact (F3.bk (·≠K2.next) (A2.lk.blk.mono fun x hx=>om)).mono fun x hx=>om)
  have F24:ChF cb vn2 vk2 K2 vn3 vk3 K4:=⟨om,fun c h1 h2 h3 h4=>by rw[k4 c om,F23.old c h1 h2 h3 h4],F23.bn,F23.bk⟩
  have F4:=F2.trans F24
  obtain⟨FH4,q5,q6⟩:=joinF F4
  have ro4:Row K4 ob [cellR cb 2 0]:=ro.same (keep F4 om om om)
  have rs4:Row K4 sb [.int .i64 (E.length:Int)]:=rs.same (keep F4 om om om)
  have rf4:Row K4 fb [.int .i64 0,.int .i64 0]:=rf.same (keep F4 om om om)
  have lf0:oLoad false 1 K4 (cellR K2.next 2 0)=some (.int .i64 ((fltL (ckL E2 false body)).1:Int)):=row_load r4 rfl rfl
  have lfa:oLoad true 2 K4 (cellR K2.next 2 0)=some (.agg (flI (fltL (ckL E2 false body)))):=row_loadN r4 rfl
  simp only[sR,sA,sB,seval,t1,t2,t4,t5,t18,t19,t76,t77,tr_claim,cl3,m4]
  simp only[ck_nil',ck_cons,ckP_load,ckP_claim,ckP_nil,ck_end,and_true,true_and,List.map_cons,List.map_nil,sA,sB,seval,t1,t2,t4,t5,t18,t19,t76,t77]
  refine⟨⟨_,rfl,fun _=>⟨_,clr,aeq_cellR _ _ _⟩⟩,?_⟩
  simp only[sA,sB,seval,fld0,lf0]
  cases hb:ckL E2 false body with
  | error f=>
   have hf0:f.1≠0:=ckL_err hb
   have hf':¬(f.1:Int)=0:=om
   have ff:fltL (ckL E false l)=f:=by rw[hck,hdrop]; simp only[ckL,ckS,hprev,hst,hb]; rfl
   rw[hb]at lfa
   obtain⟨K5,m5,r5,n5,k5⟩:=row_storeN rf4 (n:=2) rfl (xs:=flI f) rfl rfl
   simp only[sA,sB,seval,fltL,hf',t1,t2,t4,t5,t18,t19,t76,t77,lfa,m5,pf_isU,isU_func,isU_0,pf_isF2,pf_capt20,pf_capt21]
   refine (fin K5 E2 vn3 vk3 f (A4.other fb k5 om om (q5.mono nf) (q6.mono nf)) (FH4.otherF fb k5 om om) (by rw[stT_take hst hEl2]; exact htk) om (ro4.same (k5 _ om)) (rs4.same (k5 _ om)) r5 om ff).mono ?_
   rintro _ K6 ⟨l6,o6⟩
   simp only[sA,sB,seval,t4,l6,pf_tup1]
   exact o6
  | ok Eb=>
  simp only[sA,sB,seval,fltL,Int.cast_ofNat_Int,t1,t2,t4,t5,t18,t19,t76,t77]
  have low4:∀c,c<n0→K4.get c=K.get c:=fun c hc=>F4.low AK hc
  have pt4:=pt.same (H':=K4) fun a e=>low4 _ (pblk a e)
  obtain⟨Ks,hKs⟩:∃J,J=K4.push (.cells [.int .i64 0,.int .i64 0] 0 false):=⟨_,rfl⟩
  have ns:Ks.next=K4.next+1:=by rw[hKs]; rfl
  have gs:Ks.get K4.next=some (.cells [.int .i64 0,.int .i64 0] 0 false):=by rw[hKs,AHeap.get_push,if_pos rfl]
  have Es:Ext K4.next K4 Ks:=⟨om,fun c hc=>by rw[hKs,get_push_lt hc]⟩
  have As:=A4.exts Es
  have los:oLoad false 1 Ks (cellR ob 1 0)=some (cellR cb 2 0):=row_load (ro4.same (Es.old _ om)) rfl rfl
  have les:oLoad false 1 Ks (fp (placeK 9 v i) 7)=some ve:=(pt4.same (H':=Ks) fun a e=>Es.old _ (by have:=pblk a e; omega)).load (o:=7) rfl
  have lows:∀c,c<n0→c<n0∧Ks.get c=K.get c:=fun c hc=>⟨hc,by rw[Es.old c om,low4 c hc]⟩
  have fl7:=pt.fld 7
  refine aw_drawN ?_
  simp only[claims,newOf,reserves,resO_0,clOp_new,← hKs]
  simp only[sR,sA,sB,seval,t1,t2,t4,t5,t18,t19,t76,t77,los,nc,fl7,les]
  refine (ih (sizesS els) om rL As (y3.mono lows) (y4.mono lows) hokL om hE2 om).mono ?_
  rintro _ K5 ⟨rfl,vn5,vk5,A5,F5⟩
  have e5:=F5.next
  have gs5:=(F5.old _ om om (A4.ln.blk.mono fun x hx=>om) (A4.lk.blk.mono fun x hx=>om)).trans gs
  have cls:∀{J:AHeap},J.get K4.next=some (.cells [.int .i64 0,.int .i64 0] 0 false)→aClaim J K4.next [.int .i64 0,.int .i64 0] none=some (cellR K4.next 2 0):=fun h=>claim_ok h rfl
  have cl5:=cls gs5
  obtain⟨K6,m6,r6,n6,k6⟩:=row_storeN (H:=K5) (b:=K4.next) ⟨0,gs5,Nat.zero_le _⟩ (n:=2) rfl (xs:=flI (fltL (ckL E2 false els))) rfl rfl
  have A6:ChS E2 cb n0 vn5 vk5 K6:=A5.other K4.next k6 om om (by
   exact (F5.bn (·≠K4.next) (A4.ln.blk.mono fun x hx=>om)).mono fun x hx=>om) (by
   exact (F5.bk (·≠K4.next) (A4.lk.blk.mono fun x hx=>om)).mono fun x hx=>om)
  have F46:ChF cb vn3 vk3 K4 vn5 vk5 K6:=by
   have F45:=(ChF.exts (cb:=cb) (vn:=vn3) (vk:=vk3) Es).trans F5
   exact⟨om,fun c h1 h2 h3 h4=>by rw[k6 c om,F45.old c h1 h2 h3 h4],F45.bn,F45.bk⟩
  have F6:=F4.trans F46
  obtain⟨FH6,q7,q8⟩:=joinF F6
  have ro6:Row K6 ob [cellR cb 2 0]:=ro.same (keep F6 om om om)
  have rs6:Row K6 sb [.int .i64 (E.length:Int)]:=rs.same (keep F6 om om om)
  have rf6:Row K6 fb [.int .i64 0,.int .i64 0]:=rf.same (keep F6 om om om)
  have lg0:oLoad false 1 K6 (cellR K4.next 2 0)=some (.int .i64 ((fltL (ckL E2 false els)).1:Int)):=row_load r6 rfl rfl
  have lga:oLoad true 2 K6 (cellR K4.next 2 0)=some (.agg (flI (fltL (ckL E2 false els)))):=row_loadN r6 rfl
  simp only[sR,sA,sB,seval,t1,t2,t4,t5,t18,t19,t76,t77,tr_claim,cl5,m6]
  simp only[ck_nil',ck_cons,ckP_load,ckP_claim,ckP_nil,ck_end,and_true,true_and,List.map_cons,List.map_nil,sA,sB,seval,t1,t2,t4,t5,t18,t19,t76,t77]
  refine⟨⟨_,rfl,fun _=>⟨_,cls gs,aeq_cellR _ _ _⟩⟩,?_⟩
  simp only[sA,sB,seval,fld0,lg0]
  cases hc:ckL E2 false els with
  | error f=>
   have hf0:f.1≠0:=ckL_err hc
   have hf':¬(f.1:Int)=0:=om
   have ff:fltL (ckL E false l)=f:=by rw[hck,hdrop]; simp only[ckL,ckS,hprev,hst,hb,hc]; rfl
   rw[hc]at lga
   obtain⟨K7,m7,r7,n7,k7⟩:=row_storeN rf6 (n:=2) rfl (xs:=flI f) rfl rfl
   simp only[sA,sB,seval,fltL,hf',t1,t2,t4,t5,t18,t19,t76,t77,lga,m7,pf_isU,isU_func,isU_0,pf_isF2,pf_capt20,pf_capt21]
   refine (fin K7 E2 vn5 vk5 f (A6.other fb k7 om om (q7.mono nf) (q8.mono nf)) (FH6.otherF fb k7 om om) (by rw[stT_take hst hEl2]; exact htk) om (ro6.same (k7 _ om)) (rs6.same (k7 _ om)) r7 om ff).mono ?_
   rintro _ K8 ⟨l8,o8⟩
   simp only[sA,sB,seval,t4,l8,pf_tup1]
   exact o8
  | ok Ec=>
  simp only[sA,sB,seval,fltL,Int.cast_ofNat_Int,t1,t2,t4,t5,t18,t19,t76,t77,wi]
  refine⟨l.length-(i+1),om,i+1,E2,vn5,vk5,rfl,om,tt,tt,tt,tt,tt,tt,tt,tt,A6,FH6,q7,q8,by rw[stT_take hst hEl2]; exact htk,om,hE2,?_,om,ro6,rs6,rf6,?_⟩
  ·rw[hts,sizesS_app]; simp only[sizesS]; omega
  ·rw[hck,hdrop,hnx]
   simp only[ckL,ckS,hprev,hst,hb,hc]
   rfl
end Go.Proofs.Wo
