/- Part of a proof (UFM UFN UFO UFP U5 UFQ UFR UFS UG1 UG2 UG3); no condition. -/
import Derived.Test.YtkkjbpmlejjhjaaGreatP5
import Derived.Test.YtkkjbpmlejjhjaaGreatP6
import Derived.Test.YtkkjbpmlejjhjaaGreatP8
set_option linter.unusedSimpArgs false
set_option linter.unusedVariables false
set_option linter.defProp false
set_option linter.unnecessarySimpa false
namespace Go.Proofs.Tc
open Go.Abs Go.Abs.S
def nats(l:List Nat):List AVal:=l.map fun (n:Nat)=>AVal.int .i64 (n:Int)
theorem nats_len(l:List Nat):(nats l).length=l.length:=List.length_map ..
theorem nats_get{l:List Nat}{i x:Nat}(h:l[i]?=some x):(nats l)[i]?=some (.int .i64 (x:Int)):=by unfold nats; rw[List.getElem?_map,h]; rfl
theorem nats_set(l:List Nat)(i x:Nat):(nats l).set i (.int .i64 (x:Int))=nats (l.set i x):=by unfold nats; rw[List.map_set]
theorem sub_idx{b n lo k j:Nat}{r:Room}(hj:j<k):aIdxA 1 (.slice (some ⟨b,n,lo⟩) k r) (.int .i64 (j:Int))=some (cellR b n (lo+j)):=by
 show (bif Nat.blt j k then some (AVal.ptr (some ⟨b,n,lo+j*1⟩)) else none)=_
 rw[show Nat.blt j k=true by simpa[Nat.blt_eq] using hj,Nat.mul_one]; rfl
theorem swap_at{α:Type}(P S:List α)(x y:α):((P++y::x::S).set (P.length+1) y).set P.length x=P++x::y::S:=by
 rw[List.set_append_right _ _ om,show P.length+1-P.length=1 by omega]
 rw[List.set_append_right _ _ om,Nat.sub_self]
 rfl
def Only(b:Nat)(H K:AHeap):Prop:=H.next≤K.next∧∀c,c<H.next→c≠b→K.get c=H.get c
theorem Only.refl(b:Nat)(H:AHeap):Only b H H:=⟨Nat.le_refl _,fun _ _ _=>rfl⟩
theorem Only.ext{b:Nat}{H K L:AHeap}(h:Only b H K)(e:Ext K.next K L):Only b H L:=⟨Nat.le_trans h.1 e.next,fun c hc hb=>by rw[e.old c (Nat.lt_of_lt_of_le hc h.1),h.2 c hc hb]⟩
theorem Only.set{b:Nat}{H K L:AHeap}(h:Only b H K)(n:L.next=K.next)(e:∀c,c≠b→L.get c=K.get c):Only b H L:=⟨by rw[n]; exact h.1,fun c hc hb=>by rw[e c hb,h.2 c hc hb]⟩
theorem fin_0{T:Env}{H:AHeap}(K:AVal→AHeap→Prop):fin [] K .ret T H=K (.tuple []) H:=by
 rw[fin_ret]; simp only[wRes,OptP_some]; rfl
theorem insert_spec{ls:Nat→Nat→Int}{N f:Nat}(hf:f<1024){caps:List AVal}{H:AHeap}{b n lo k:Nat}{r:Room}{os:List Nat}(hos:∀x∈os,x<N)(hb:b<H.next)(hn:os.length=n)(hlo:lo+k≤n)(hk:0<k)(hn2:n<4611686018427387904)(R:Row H b (nats os))
  (hless:∀{K:AHeap} {i j:Nat},Only b H K→i<N→j<N→ACalls Tryz.prog noNat f ([.int .i64 (i:Int),.int .i64 (j:Int)]++caps) K fun v K'=>v=.int .i64 (ls i j)∧Ext K.next K K') :
  ACalls Tryz.prog noNat 150 [.slice (some ⟨b,n,lo⟩) k r,.int .i64 0,.int .i64 (k:Int),.func (.func f) [] caps] H fun v H'=>v=.tuple []∧Only b H H'∧Row H' b (nats (os.take lo++(sortF (fun i j=>decide (ls i j<0)) ((os.drop lo).take k)++os.drop (lo+k)))):=by
 obtain⟨lt,hlt⟩:∃lt:Nat→Nat→Bool,lt=fun i j=>decide (ls i j<0):=⟨_,rfl⟩
 obtain⟨sub,hsub⟩:∃s,s=(os.drop lo).take k:=⟨_,rfl⟩
 obtain⟨pre,hpre⟩:∃s,s=os.take lo:=⟨_,rfl⟩
 obtain⟨post,hpost⟩:∃s,s=os.drop (lo+k):=⟨_,rfl⟩
 have hsl:sub.length=k:=by rw[hsub]; simp; omega
 have hpl:pre.length=lo:=by rw[hpre]; simp; omega
 have hall:os=pre++(sub++post):=by
  rw[hpre,hsub,hpost,← List.drop_drop,List.take_append_drop,List.take_append_drop]
 have hsx:∀x∈sub,x<N:=fun x hx=>hos x (by rw[hall]; simp[hx])
 rw[← hsub,← hpre,← hpost,← hlt]
 let accF:Nat→List Nat:=fun i=>(sub.take i).foldl (fun acc x=>insF lt x acc) []
 have acc_s:∀{i x:Nat},sub[i]?=some x→accF (i+1)=insF lt x (accF i):=by
  intro i x h
  show (sub.take (i+1)).foldl _ []=_
  rw[List.take_add_one,h,List.foldl_append]; rfl
 have ins_mem:∀(x:Nat) (l:List Nat),(insF lt x l).length=l.length+1∧∀y∈insF lt x l,y=x∨y∈l:=by
  intro x l
  induction l with
  | nil=>exact⟨rfl,fun y hy=>by simpa[insF] using hy⟩
  | cons z l ih=>
   unfold insF
   cases lt x z with
   | true=>exact⟨by simp[ih.1],fun y hy=>by
     rcases List.mem_cons.1 hy with h | h
     ·exact .inr (by simp[h])
     ·rcases ih.2 y h with h | h
      ·exact .inl h
      ·exact .inr (by simp[h])⟩
   | false=>exact⟨by simp,fun y hy=>by
     rcases List.mem_cons.1 hy with h | h
     ·exact .inl h
     ·exact .inr h⟩
 have acc_p:∀i,i≤k→(accF i).length=i∧∀y∈accF i,y<N:=by
  intro i
  induction i with
  | zero=>exact fun _=>⟨rfl,fun y hy=>by simp[accF]at hy⟩
  | succ i ih=>
   intro hi
   obtain⟨x,hx⟩:=isSome_of_lt (show i<sub.length by omega)
   obtain⟨h1,h2⟩:=ih om
   rw[acc_s hx]
   refine⟨by rw[(ins_mem x _).1,h1],fun y hy=>?_⟩
   rcases (ins_mem x _).2 y hy with h | h
   ·rw[h]; exact hsx x (List.mem_of_getElem? hx)
   ·exact h2 y h
 have hacc1:(accF 1).reverse++sub.drop 1=sub:=by
  obtain⟨x,hx⟩:=isSome_of_lt (show 0<sub.length by omega)
  rw[acc_s hx]
  show [x]++_=_
  have:=drop_cons hx
  simpa using this.symm
 refine acalls_ofN rfl za150 rfl ?_
 simp only[c150,sA,sB,seval]
 refine aw_loop (fun m (T:Env) H'=>∃i:Nat,m=k-i∧1≤i∧i≤k∧Only b H H'∧Row H' b (nats (pre++(((accF i).reverse++sub.drop i)++post)))∧T 0=.slice (some ⟨b,n,lo⟩) k r∧T 1=.int .i64 0∧T 2=.int .i64 (k:Int)∧T 3=.func (.func f) [] caps∧T 8=.int .i64 (i:Int)) (k-1)
  ⟨1,rfl,Nat.le_refl _,hk,.refl _ _,by rw[hacc1,← hall]; exact R,by simp only[sA,sB,seval],by simp only[sA,sB,seval],by simp only[sA,sB,seval],by simp only[sA,sB,seval],by simp only[sA,sB,seval]; rfl⟩ ?_
 rintro m T H1 ⟨i,rfl,hi1,hik,O1,R1,t0,t1,t2,t3,t8⟩
 by_cases hlti:i<k
 rotate_left
 ·have:i=k:=om
  subst this
  have c1:¬(i:Int)<(i:Int):=om
  simp only[sA,sB,seval,t2,t8,c1,fin_n0]
  have e:sub.drop i=[]:=List.drop_of_length_le om
  rw[e,List.append_nil]at R1
  have e2:sortF lt sub=(accF i).reverse:=by unfold sortF; show _=(List.foldl _ [] (sub.take i)).reverse; rw[List.take_of_length_le om]
  exact⟨by first | rfl | trivial,O1,by rw[e2]; exact R1⟩
 obtain⟨x,hx⟩:=isSome_of_lt (show i<sub.length by omega)
 have c1:(i:Int)<(k:Int):=om
 simp only[sA,sB,seval,t2,t8,c1]
 obtain⟨ap1,ap2⟩:=acc_p i hik
 have hdr:=drop_cons hx
 refine aw_cut (fun (T':Env) H'=>Only b H H'∧Row H' b (nats (pre++(((accF (i+1)).reverse++sub.drop (i+1))++post)))∧T' 0=.slice (some ⟨b,n,lo⟩) k r∧T' 1=.int .i64 0∧T' 2=.int .i64 (k:Int)∧T' 3=.func (.func f) [] caps∧T' 8=.int .i64 (i:Int)) (calls_mono _ _) ?_ ?_
 rotate_left
 ·rintro T2 H2 ⟨O2,R2,t0,t1,t2,t3,t8⟩
  have w1:=wrap1 i om
  simp only[sA,sB,seval,t8,w1]
  exact⟨k-(i+1),om,i+1,rfl,om,om,O2,R2,t0,t1,t2,t3,tt⟩
 refine aw_loop (fun m (T:Env) H'=>∃(left done:List Nat),m=left.length∧left.length+done.length=i∧(∀y∈left,y<N)∧done++insF lt x left=insF lt x (accF i)∧Only b H H'∧Row H' b (nats (pre++((left.reverse++(x::done.reverse))++(sub.drop (i+1)++post))))∧T 0=.slice (some ⟨b,n,lo⟩) k r∧T 1=.int .i64 0∧T 2=.int .i64 (k:Int)∧T 3=.func (.func f) [] caps∧T 8=.int .i64 (i:Int)∧T 9=.int .i64 (left.length:Int)) i
  ⟨accF i,[],ap1.symm,by simpa using ap1,ap2,rfl,O1,by rw[hdr]at R1; simpa using R1,by simp only[sA,sB,seval,t0],by simp only[sA,sB,seval,t1],by simp only[sA,sB,seval,t2],by simp only[sA,sB,seval,t3],by simp only[sA,sB,seval,t8],by rw[ap1]; simp only[sA,sB,seval]⟩ ?_
 rintro m T H2 ⟨left,done,rfl,hld,hln,hins,O2,R2,t0,t1,t2,t3,t8,t9⟩
 have hxN:x<N:=hsx x (List.mem_of_getElem? hx)
 have fin1:insF lt x left=x::left→Row H2 b (nats (pre++(((accF (i+1)).reverse++sub.drop (i+1))++post))):=fun h=>by
  have e:(accF (i+1)).reverse=left.reverse++(x::done.reverse):=by
   rw[acc_s hx,← hins,h]; simp
  rw[e]; simpa using R2
 cases left with
 | nil=>
  have c2:¬(0:Int)<((([]:List Nat).length:Nat):Int):=by decide
  simp only[sA,sB,seval,t1,t9,c2]
  exact⟨O2,fin1 rfl,t0,by first | exact t1 | trivial,t2,t3,t8⟩
 | cons y left=>
  have hj:(y::left).length=left.length+1:=rfl
  rw[hj]at t9 hld
  have c2:(0:Int)<((left.length+1:Nat):Int):=om
  have w3:IntKind.i64.wrap (((left.length+1:Nat):Int)-1)=(left.length:Int):=w64
  obtain⟨P,hP⟩:∃P,P=pre++left.reverse:=⟨_,rfl⟩
  obtain⟨S,hS⟩:∃S,S=done.reverse++(sub.drop (i+1)++post):=⟨_,rfl⟩
  have hPl:P.length=lo+left.length:=by rw[hP]; simp[hpl]
  have hA:pre++(((y::left).reverse++(x::done.reverse))++(sub.drop (i+1)++post))=P++y::x::S:=by rw[hP,hS]; simp
  have hA':pre++((left.reverse++(x::(done++[y]).reverse))++(sub.drop (i+1)++post))=P++x::y::S:=by rw[hP,hS]; simp
  rw[hA]at R2
  have hAl:(P++y::x::S).length=n:=by
   have:(sub.drop (i+1)++post).length+(i+1)+lo=n:=by
    have e1:=congrArg List.length hall
    simp only[lA]at e1
    simp only[lA,List.length_drop]; omega
   rw[hS]; simp only[lA,List.length_cons,List.length_reverse,hPl]at this ⊢; omega
  have nl:(nats (P++y::x::S)).length=n:=by rw[nats_len,hAl]
  have hyN:y<N:=hln y (by simp)
  have hjk:left.length+1<k:=om
  have iy:=sub_idx (b:=b) (n:=n) (lo:=lo) (r:=r) (show left.length<k by omega)
  have ix:=sub_idx (b:=b) (n:=n) (lo:=lo) (r:=r) hjk
  have gy:(P++y::x::S)[lo+left.length]?=some y:=by rw[← hPl,List.getElem?_append_right rL,Nat.sub_self]; rfl
  have gx:(P++y::x::S)[lo+(left.length+1)]?=some x:=by rw[← Nat.add_assoc,← hPl,List.getElem?_append_right om,show P.length+1-P.length=1 by omega]; rfl
  have ly:oLoad false 1 H2 (cellR b n (lo+left.length))=some (.int .i64 (y:Int)):=row_load R2 nl (nats_get gy)
  have lx:oLoad false 1 H2 (cellR b n (lo+(left.length+1)))=some (.int .i64 (x:Int)):=row_load R2 nl (nats_get gx)
  simp only[sA,sB,seval,t0,t1,t3,t9,c2,ix,lx,w3,iy,ly,hf]
  refine (hless O2 hxN hyN).mono ?_
  rintro _ H3 ⟨rfl,e3⟩
  have O3:Only b H H3:=O2.ext e3
  have R3:Row H3 b (nats (P++y::x::S)):=R2.same (e3.old _ (Nat.lt_of_lt_of_le hb O2.1))
  by_cases h:ls x y<0
  rotate_left
  ·have hf':lt x y=false:=by rw[hlt]; exact decide_eq_false h
   simp only[sA,sB,seval,h]
   have e:(accF (i+1)).reverse=(y::left).reverse++(x::done.reverse):=by
    rw[acc_s hx,← hins]; unfold insF; rw[hf']; simp
   refine⟨O3,?_,t0,by first | exact t1 | trivial,t2,by first | exact t3 | trivial,t8⟩
   rw[e,List.append_assoc,hA]; exact R3
  have ht':lt x y=true:=by rw[hlt]; exact decide_eq_true h
  have ly3:oLoad false 1 H3 (cellR b n (lo+left.length))=some (.int .i64 (y:Int)):=row_load R3 nl (nats_get gy)
  have lx3:oLoad false 1 H3 (cellR b n (lo+(left.length+1)))=some (.int .i64 (x:Int)):=row_load R3 nl (nats_get gx)
  obtain⟨H4,m4,r4,n4,k4⟩:=row_st R3 nl (i:=lo+(left.length+1)) om (x:=.int .i64 (y:Int)) rfl (nats_set _ _ _)
  obtain⟨H5,m5,r5,n5,k5⟩:=row_st r4 (by rw[nats_len,List.length_set,hAl]) (i:=lo+left.length) om (x:=.int .i64 (x:Int)) rfl (nats_set _ _ _)
  have e5:((P++y::x::S).set (lo+(left.length+1)) y).set (lo+left.length) x=P++x::y::S:=by
   rw[← Nat.add_assoc,← hPl]; exact swap_at P S x y
  rw[e5]at r5
  simp only[sA,sB,seval,h,t0,t9,w3,ix,iy,ly3,lx3,m4,m5]
  refine⟨left.length,om,left,done++[y],rfl,by simp; omega,fun z hz=>hln z (by simp[hz]),?_,(O3.set n4 k4).set n5 k5,by rw[hA']; exact r5,by first | exact t0 | trivial,t1,t2,t3,t8,tt⟩
  rw[← hins]
  conv=>rhs; unfold insF
  rw[ht']; simp
theorem pdq_spec{ls:Nat→Nat→Int}{N f:Nat}(hf:f<1024){caps:List AVal}{H:AHeap}{b n lo k:Nat}{r:Room}{os:List Nat}(hos:∀x∈os,x<N)(hb:b<H.next)(hn:os.length=n)(hlo:lo+k≤n)(hk:0<k)(hk2:k≤12)(hn2:n<4611686018427387904)(R:Row H b (nats os)){q:AVal}
  (hless:∀{K:AHeap} {i j:Nat},Only b H K→i<N→j<N→ACalls Tryz.prog noNat f ([.int .i64 (i:Int),.int .i64 (j:Int)]++caps) K fun v K'=>v=.int .i64 (ls i j)∧Ext K.next K K') :
  ACalls Tryz.prog noNat 146 [.slice (some ⟨b,n,lo⟩) k r,.int .i64 0,.int .i64 (k:Int),q,.func (.func f) [] caps] H fun v H'=>v=.tuple []∧Only b H H'∧Row H' b (nats (os.take lo++(sortF (fun i j=>decide (ls i j<0)) ((os.drop lo).take k)++os.drop (lo+k)))):=by
 refine acalls_ofN rfl za146 rfl ?_
 have w1:IntKind.i64.wrap ((k:Int)-0)=(k:Int):=w64
 have w2:IntKind.i64.wrap (k:Int)=(k:Int):=w64
 have c1:(k:Int)≤12:=om
 simp only[c146,sA,sB,seval]
 refine aw_loop (fun m (T:Env) H'=>H=H'∧T 0=.slice (some ⟨b,n,lo⟩) k r∧T 1=.int .i64 0∧T 2=.int .i64 (k:Int)∧T 4=.func (.func f) [] caps) 0 ⟨rfl,tt,tt,tt,tt⟩ ?_
 rintro m T _ ⟨rfl,t0,t1,t2,t4⟩
 simp only[sA,sB,seval,t0,t1,t2,t4,w1,w2,c1]
 refine (insert_spec hf hos hb hn hlo hk hn2 R hless).mono ?_
 rintro _ H' ⟨rfl,O,R'⟩
 simp only[sA,sB,seval,fin_0]
 exact⟨tt,O,R'⟩
open Go.Abs Go.Abs.S
theorem len_spec{u:Nat}(hu:u<18446744073709551616){H:AHeap}:ACalls Tryz.prog noNat 147 [.int .u64 (u:Int)] H fun v H'=>v=.int .i64 (bl u:Int)∧H=H':=by
 refine acalls_ofN rfl za147 rfl ?_
 simp only[c147,sA,sB,seval]
 refine (len64_spec hu).mono ?_
 rintro _ _ ⟨rfl,rfl⟩
 simp only[sA,sB,seval]; exact⟨tt,tt⟩
theorem sortf_spec{ls:Nat→Nat→Int}{N f:Nat}(hf:f<1024){caps:List AVal}{H:AHeap}{b n lo k:Nat}{r:Room}{os:List Nat}(hos:∀x∈os,x<N)(hb:b<H.next)(hn:os.length=n)(hlo:lo+k≤n)(hk:0<k)(hk2:k≤12)(hn2:n<4611686018427387904)(R:Row H b (nats os))
  (hless:∀{K:AHeap} {i j:Nat},Only b H K→i<N→j<N→ACalls Tryz.prog noNat f ([.int .i64 (i:Int),.int .i64 (j:Int)]++caps) K fun v K'=>v=.int .i64 (ls i j)∧Ext K.next K K') :
  ACalls Tryz.prog noNat 130 [.slice (some ⟨b,n,lo⟩) k r,.func (.func f) [] caps] H fun v H'=>v=.tuple []∧Only b H H'∧Row H' b (nats (os.take lo++(sortF (fun i j=>decide (ls i j<0)) ((os.drop lo).take k)++os.drop (lo+k)))):=by
 refine acalls_ofN rfl za130 rfl ?_
 have ln:aLenK false (.slice (some ⟨b,n,lo⟩) k r)=some (.int .i64 (k:Int)):=rfl
 have w:IntKind.u64.wrap (k:Int)=((k:Nat):Int):=by rw[IntKind.wrap_u64]; omega
 simp only[c130,sA,sB,seval,ln,w]
 refine (len_spec (u:=k) om).mono ?_
 rintro _ _ ⟨rfl,rfl⟩
 simp only[sA,sB,seval]
 refine (pdq_spec hf hos hb hn hlo hk hk2 hn2 R hless).mono ?_
 rintro _ H' ⟨rfl,O,R'⟩
 simp only[sA,sB,seval,fin_n0]
 exact⟨tt,O,R'⟩
theorem sl_sub{b n lo hi:Nat}(h1:lo≤hi)(h2:hi≤n):aSl 1 (.slice (some ⟨b,n,0⟩) n (.open_ 1)) (some (.int .i64 (lo:Int))) (some (.int .i64 (hi:Int))) none=some (.slice (some ⟨b,n,lo⟩) (hi-lo) (.open_ 1)):=by
 simp only[aSl,Nat.beq_refl,cond_true,Nat.sub_zero,Nat.div_one,bnd_lh h1 h2,Nat.zero_add,Nat.mul_one,Nat.ble_eq_true_of_le h2]
def ordS(b n:Nat):AVal:=.slice (some ⟨b,n,0⟩) n (.open_ 1)
theorem ldN{H:AHeap}{b:Nat}{x:Nod}(r:Row H b x.cells):oLoad false 1 H (cellR b 10 0)=some (.int .i64 x.box.lo.x)∧oLoad false 1 H (cellR b 10 1)=some (.int .i64 x.box.lo.y)∧oLoad false 1 H (cellR b 10 2)=some (.int .i64 x.box.lo.z) ∧
  oLoad false 1 H (cellR b 10 3)=some (.int .i64 x.box.hi.x)∧oLoad false 1 H (cellR b 10 4)=some (.int .i64 x.box.hi.y)∧oLoad false 1 H (cellR b 10 5)=some (.int .i64 x.box.hi.z)∧oLoad false 1 H (cellR b 10 6)=some (.int .i64 x.from_)∧oLoad false 1 H (cellR b 10 7)=some (.int .i64 x.to_)∧oLoad true 10 H (cellR b 10 0)=some (.agg x.cells):=
 ⟨row_load r rfl rfl,row_load r rfl rfl,row_load r rfl rfl,row_load r rfl rfl,row_load r rfl rfl,row_load r rfl rfl,row_load r rfl rfl,row_load r rfl rfl,row_loadN r rfl⟩
open Go.Abs Go.Abs.S
theorem sort_spec{bs:List Bx}(hj:∀b∈bs,b.j){x:Nod}(hx:x.box.j){os:List Nat}(hos:∀y∈os,y<bs.length){H:AHeap}{bo kb tb n:Nat}{vp vt vb vN vX:AVal}{w most d:Int}(hn:os.length=n)(h1:x.from_+2<x.to_)(h2:x.to_≤n)(h12:x.to_-x.from_≤12)(hn2:n<4611686018427387904)
  (hbo:bo<H.next) (hkb:kb<H.next) (htb:tb<H.next) (nk:bo≠kb) (nt:bo≠tb) (rt:Row H tb (treL vp vt vb vN (ordS bo n) d)) (rk:Row H kb (mkL tb vX w most)) (ro:Row H bo (nats os)) (X:SlK (fun c=>c<H.next∧c≠bo) H 6 vX bs.length (bs.flatMap Bx.cells)) :
  ACalls Tryz.prog noNat 113 [cellR kb 4 0,.agg x.cells] H fun v H'=>v=.tuple []∧Only bo H H'∧Row H' bo (nats (os.take x.from_++(sortF (ltF bs (axisF x.box)) (cutL os x.from_ x.to_)++os.drop x.to_))):=by
 obtain⟨⟨lx,ly,lz⟩,ux,uy,uz⟩:=hx
 obtain⟨H1,m1,r1,n1,k1⟩:=row_newL H [cellR kb 4 0] (n:=1) rfl
 obtain⟨H2,m2,r2,n2,k2⟩:=row_newL H1 x.cells (n:=10) rfl
 obtain⟨H3,m3,r3,n3,k3⟩:=row_newL H2 [.nilFunc] (n:=1) rfl
 obtain⟨H4,m4,r4,n4,k4⟩:=row_st r3 (n:=1) rfl (i:=0) om (x:=.func (.func 127) [] [cellR H.next 1 0]) rfl (l':=[.func (.func 127) [] [cellR H.next 1 0]]) rfl
 obtain⟨z0,z1,z2,z3,z4,z5,_⟩:=ldN r2
 have cc:(cellR kb 4 0).cells=[cellR kb 4 0]:=rfl
 obtain⟨a,ha⟩:∃a,a=fSub x.box.hi.x x.box.lo.x:=⟨_,rfl⟩
 obtain⟨b,hb⟩:∃a,a=fSub x.box.hi.y x.box.lo.y:=⟨_,rfl⟩
 obtain⟨c,hc⟩:∃a,a=fSub x.box.hi.z x.box.lo.z:=⟨_,rfl⟩
 have eax:axisF x.box=if c≤a∧b≤a then 0 else if c≤b then 1 else 2:=by subst ha hb hc; rfl
 obtain⟨ax,hax⟩:∃ax,ax=axisF x.box:=⟨_,rfl⟩
 have hax3:ax<3:=by
  rw[hax,eax]
  split
  ·omega
  ·split <;> omega
 rw[← hax]at eax
 have loads:∀{K:AHeap},K.next=H4.next→(∀c,c≠H2.next→K.get c=H4.get c)→oLoad false 1 K (cellR H.next 1 0)=some (cellR kb 4 0)∧oLoad false 1 K (cellR kb 4 0)=some (cellR tb 7 0)∧oLoad false 1 K (cellR tb 7 5)=some (ordS bo n)∧oLoad false 1 K (cellR H1.next 10 6)=some (.int .i64 x.from_)∧oLoad false 1 K (cellR H1.next 10 7)=some (.int .i64 x.to_):=fun {K} kn kk=>by
  have g:∀q,q<H.next→K.get q=H.get q:=fun q hq=>by rw[kk _ om,k4 _ om,k3 _ om,k2 _ om,k1 _ om]
  obtain⟨_,_,_,_,_,_,q6,q7,_⟩:=ldN (r2.same (H':=K) (by rw[kk _ om,k4 _ om,k3 _ om]))
  exact⟨row_load (r1.same (H':=K) (by rw[kk _ om,k4 _ om,k3 _ om,k2 _ om])) rfl rfl,(ldK (rk.same (H':=K) (g _ hkb))).1,(ldTr (rt.same (H':=K) (g _ htb))).2.2.1,q6,q7⟩
 have tail:∀{K:AHeap},K.next=H4.next→(∀c,c≠H2.next→K.get c=H4.get c)→Row K H2.next [.func (.func (keyN ax)) [] [cellR H.next 1 0]] →
   ACalls Tryz.prog noNat 130 [.slice (some ⟨bo,n,x.from_⟩) (x.to_-x.from_) (.open_ 1),.func (.func 131) [] [cellR H2.next 1 0]] K fun v H'=>v=.tuple []∧Only bo H H'∧Row H' bo (nats (os.take x.from_++(sortF (ltF bs ax) (cutL os x.from_ x.to_)++os.drop x.to_))):=fun {K} kn kk rf=>by
  have g:∀q,q<H.next→K.get q=H.get q:=fun q hq=>by rw[kk _ om,k4 _ om,k3 _ om,k2 _ om,k1 _ om]
  refine (sortf_spec (ls:=lessF bs ax) (N:=bs.length) (f:=131) om (caps:=[cellR H2.next 1 0]) hos om hn om om h12 hn2 (ro.same (g _ hbo)) fun {L i j} O hi hjj=>?_).mono ?_
  ·have gl:∀q,q<H.next→q≠bo→L.get q=H.get q:=fun q hq hqb=>by rw[O.2 q om hqb,g q hq]
   have on:=O.1
   exact less_spec ax hax3 hj hi hjj (rf.same (O.2 _ om om)) ((r1.same (H':=K) (by rw[kk _ om,k4 _ om,k3 _ om,k2 _ om])).same (O.2 _ om om)) (rk.same (gl _ hkb (Ne.symm nk))) (X.mono fun q hq=>⟨om,gl q hq.1 hq.2⟩)
  ·rintro _ L ⟨rfl,O,R⟩
   refine⟨rfl,⟨by have:=O.1; omega,fun q hq hqb=>by rw[O.2 q om hqb,g q hq]⟩,?_⟩
   have e:(fun i j=>decide (lessF bs ax i j<0))=ltF bs ax:=funext fun i=>funext fun j=>lessF_lt bs ax i j
   rw[e,show x.from_+(x.to_-x.from_)=x.to_ by omega]at R
   exact R
 have sl:=sl_sub (b:=bo) (n:=n) (lo:=x.from_) (hi:=x.to_) om h2
 have sl':aSl 1 (ordS bo n) (some (.int .i64 (x.from_:Int))) (some (.int .i64 (x.to_:Int))) none=some (.slice (some ⟨bo,n,x.from_⟩) (x.to_-x.from_) (.open_ 1)):=sl
 refine acalls_ofN rfl za113 rfl ?_
 rw[← hax]
 simp only[c113,sA,sB,seval,cc,cells_agg,m1,m2,fld0,fldA,z3,z0]
 refine (sub_spec ux lx).mono ?_
 rintro _ _ ⟨rfl,rfl⟩
 simp only[sA,sB,seval,fld0,fldA,z4,z1]
 refine (sub_spec uy ly).mono ?_
 rintro _ _ ⟨rfl,rfl⟩
 simp only[sA,sB,seval,fld0,fldA,z5,z2]
 refine (sub_spec uz lz).mono ?_
 rintro _ _ ⟨rfl,rfl⟩
 rw[← ha,← hb,← hc]
 by_cases c1:b≤a
 ·by_cases c2:c≤a
  ·have key:keyN ax=127:=by rw[eax]; simp[keyN,c1,c2]
   obtain⟨q1,q2,q3,q6,q7⟩:=loads rfl (fun _ _=>rfl)
   simp only[sA,sB,seval,m3,m4,c1,c2,q1,q2,q3,q6,q7,nil_cell,fldA,fld0,sl']
   refine (tail rfl (fun _ _=>rfl) (by rw[key]; exact r4)).mono ?_
   rintro _ L ⟨rfl,O,R⟩
   simp only[sA,sB,seval,fin_n0]
   exact⟨tt,O,R⟩
  ·by_cases c3:c≤b
   ·exfalso; omega
   ·have key:keyN ax=129:=by rw[eax]; simp[keyN,c2,c3]
    obtain⟨K,mk,rk',nk',kk'⟩:=row_st r4 (n:=1) rfl (i:=0) om (x:=.func (.func 129) [] [cellR H.next 1 0]) rfl (l':=[.func (.func 129) [] [cellR H.next 1 0]]) rfl
    obtain⟨q1,q2,q3,q6,q7⟩:=loads nk' kk'
    simp only[sA,sB,seval,m3,m4,c1,c2,c3,mk,q1,q2,q3,q6,q7,nil_cell,fldA,fld0,sl']
    refine (tail nk' kk' (by rw[key]; exact rk')).mono ?_
    rintro _ L ⟨rfl,O,R⟩
    simp only[sA,sB,seval,fin_n0]
    exact⟨tt,O,R⟩
 ·by_cases c3:c≤b
  ·have key:keyN ax=128:=by rw[eax]; simp[keyN,c1,c3]
   obtain⟨K,mk,rk',nk',kk'⟩:=row_st r4 (n:=1) rfl (i:=0) om (x:=.func (.func 128) [] [cellR H.next 1 0]) rfl (l':=[.func (.func 128) [] [cellR H.next 1 0]]) rfl
   obtain⟨q1,q2,q3,q6,q7⟩:=loads nk' kk'
   simp only[sA,sB,seval,m3,m4,c1,c3,mk,q1,q2,q3,q6,q7,nil_cell,fldA,fld0,sl']
   refine (tail nk' kk' (by rw[key]; exact rk')).mono ?_
   rintro _ L ⟨rfl,O,R⟩
   simp only[sA,sB,seval,fin_n0]
   exact⟨tt,O,R⟩
  ·have key:keyN ax=129:=by rw[eax]; simp[keyN,c1,c3]
   obtain⟨K,mk,rk',nk',kk'⟩:=row_st r4 (n:=1) rfl (i:=0) om (x:=.func (.func 129) [] [cellR H.next 1 0]) rfl (l':=[.func (.func 129) [] [cellR H.next 1 0]]) rfl
   obtain⟨q1,q2,q3,q6,q7⟩:=loads nk' kk'
   simp only[sA,sB,seval,m3,m4,c1,c3,mk,q1,q2,q3,q6,q7,nil_cell,fldA,fld0,sl']
   refine (tail nk' kk' (by rw[key]; exact rk')).mono ?_
   rintro _ L ⟨rfl,O,R⟩
   simp only[sA,sB,seval,fin_n0]
   exact⟨tt,O,R⟩
open Go.Abs Go.Abs.S
theorem uni_j{a b:Bx}(ha:a.j)(hb:b.j):(uni a b).j:=by
 obtain⟨⟨a1,a2,a3⟩,a4,a5,a6⟩:=ha
 obtain⟨⟨b1,b2,b3⟩,b4,b5,b6⟩:=hb
 exact⟨⟨min_j a1 b1,min_j a2 b2,min_j a3 b3⟩,max_j a4 b4,max_j a5 b5,max_j a6 b6⟩
theorem ld6{H:AHeap}{b:Nat}{x:Bx}(r:Row H b x.cells):oLoad false 1 H (cellR b 6 0)=some (.int .i64 x.lo.x)∧oLoad false 1 H (cellR b 6 1)=some (.int .i64 x.lo.y)∧oLoad false 1 H (cellR b 6 2)=some (.int .i64 x.lo.z) ∧
  oLoad false 1 H (cellR b 6 3)=some (.int .i64 x.hi.x)∧oLoad false 1 H (cellR b 6 4)=some (.int .i64 x.hi.y)∧oLoad false 1 H (cellR b 6 5)=some (.int .i64 x.hi.z)∧oLoad true 6 H (cellR b 6 0)=some (.agg x.cells):=
 ⟨row_load r rfl rfl,row_load r rfl rfl,row_load r rfl rfl,row_load r rfl rfl,row_load r rfl rfl,row_load r rfl rfl,row_loadN r rfl⟩
abbrev cSix(a b c d e f:Int):List AVal:=[.int .i64 a,.int .i64 b,.int .i64 c,.int .i64 d,.int .i64 e,.int .i64 f]
theorem around_spec{bs:List Bx}{os:List Nat}(hos:∀y∈os,y<bs.length){H:AHeap}{bo kb tb n a b:Nat}{vp vt vb vN vX:AVal}{w most d:Int}(hn:os.length=n)(h1:a<b)(h2:b≤n)(hn2:n<4611686018427387904)
  (hbo:bo<H.next) (hkb:kb<H.next) (htb:tb<H.next) (rt:Row H tb (treL vp vt vb vN (ordS bo n) d)) (rk:Row H kb (mkL tb vX w most)) (ro:Row H bo (nats os)) (X:SlK (·<H.next) H 6 vX bs.length (bs.flatMap Bx.cells)) :
  ACalls Tryz.prog noNat 112 [cellR kb 4 0,.int .i64 (a:Int),.int .i64 (b:Int)] H fun v H'=>v=.agg (aroundF bs (cutL os a b)).cells∧Ext H.next H H':=by
 obtain⟨i0,hi0⟩:=isSome_of_lt (show a<os.length by omega)
 have hi0b:=hos i0 (List.mem_of_getElem? hi0)
 obtain⟨x0,hx0⟩:=isSome_of_lt hi0b
 obtain⟨rest,hrest⟩:∃l,l=cutL os (a+1) b:=⟨_,rfl⟩
 have hcut:cutL os a b=i0::rest:=by
  rw[hrest]; unfold cutL
  rw[drop_cons hi0,show b-a=(b-(a+1))+1 by omega,List.take_succ_cons]
 have hrl:rest.length=b-(a+1):=by rw[hrest]; unfold cutL; simp; omega
 have ebx:∀{i:Nat} {x:Bx},bs[i]?=some x→bxAt bs i=x:=fun h=>by unfold bxAt; rw[h]; rfl
 have ear:aroundF bs (cutL os a b)=rest.foldl (fun o j=>uni o (bxAt bs j)) x0:=by rw[hcut]; show List.foldl _ (bxAt bs i0) rest=_; rw[ebx hx0]
 obtain⟨H1,m1,r1,n1,k1⟩:=row_newL H (cSix 0 0 0 0 0 0) (n:=6) rfl
 have E1:Ext H.next H H1:=⟨om,fun c hc=>k1 c om⟩
 have ca:aIdxA 1 (ordS bo n) (.int .i64 (a:Int))=some (cellR bo n a):=by
  have:=sub_idx (b:=bo) (n:=n) (lo:=0) (r:=.open_ 1) (show a<n by omega)
  rwa [Nat.zero_add]at this
 have sl:aSl 1 (ordS bo n) (some (.int .i64 ((a+1:Nat):Int))) (some (.int .i64 (b:Int))) none=some (.slice (some ⟨bo,n,a+1⟩) (b-(a+1)) (.open_ 1)):=sl_sub om h2
 have lk:∀{K:AHeap},Ext H.next H K→oLoad false 1 K (cellR kb 4 0)=some (cellR tb 7 0)∧oLoad false 1 K (cellR kb 4 1)=some vX∧oLoad false 1 K (cellR tb 7 5)=some (ordS bo n):=fun {K} e=>
  ⟨(ldK (rk.same (H':=K) (e.old _ hkb))).1,(ldK (rk.same (H':=K) (e.old _ hkb))).2.1,(ldTr (rt.same (H':=K) (e.old _ htb))).2.2.1⟩
 have lo:∀{K:AHeap} {i y:Nat},Ext H.next H K→os[i]?=some y→oLoad false 1 K (cellR bo n i)=some (.int .i64 (y:Int)):=fun {K} {i} {y} e h=>row_load (ro.same (H':=K) (e.old _ hbo)) (by rw[nats_len,hn]) (nats_get h)
 have XK:∀{K:AHeap},Ext H.next H K→SlK (·<H.next) K 6 vX bs.length (bs.flatMap Bx.cells):=fun {K} e=>X.mono fun b hb=>⟨hb,e.old b hb⟩
 refine acalls_ofN rfl za112 rfl ?_
 rw[ear]
 simp only[c112,sA,sB,seval,m1]
 refine aw_drawN ?_
 simp only[claims,newOf,reserves,resO_0,clOp_new]
 obtain⟨Hp,hHp⟩:∃K,K=H1.push (.cells (cSix 0 0 0 0 0 0) 0 false):=⟨_,rfl⟩
 rw[← hHp]
 have np:Hp.next=H1.next+1:=by rw[hHp]; rfl
 have g1:Hp.get H1.next=some (.cells (cSix 0 0 0 0 0 0) 0 false):=by rw[hHp,AHeap.get_push]; exact if_pos rfl
 have E1p:Ext H1.next H1 Hp:=by rw[hHp]; exact (Ext.refl _ _).push rL _
 have Ep:Ext H.next H Hp:=E1.trans (E1p.less E1.next)
 obtain⟨q0,q1,q5⟩:=lk Ep
 have qo:=lo Ep hi0
 have ix:=(XK Ep).idx hi0b
 have lx:=(XK Ep).loadE X_len hx0
 have cl:aClaim Hp H1.next (cSix 0 0 0 0 0 0) none=some (cellR H1.next 6 0):=claim_ok (z:=cSix 0 0 0 0 0 0) g1 rfl
 obtain⟨H2,m2,r2,n2,k2⟩:=row_storeN (H:=Hp) (b:=H1.next) (l:=cSix 0 0 0 0 0 0) ⟨0,g1,Nat.zero_le _⟩ (n:=6) rfl (xs:=x0.cells) rfl rfl
 simp only[sR,sA,sB,seval,nil_cell,fldA,fld0,q0,q1,q5,ca,qo,ix,lx,tr_claim,cl,m2]
 simp only[ck_nil',ck_cons,ckP_load,ckP_claim,ckP_nil,ck_end,and_true,true_and,List.map_cons,List.map_nil]
 have E2:Ext H.next H H2:=⟨om,fun c hc=>by rw[k2 c om,Ep.old c hc]⟩
 have w1:=wrap1 a om
 obtain⟨q0,q1,q5⟩:=lk E2
 simp only[sA,sB,seval,nil_cell,fldA,fld0,q0,q5,w1,sl,show aLenK false (.slice (some ⟨bo,n,a+1⟩) (b-(a+1)) (.open_ 1))=some (.int .i64 ((b-(a+1):Nat):Int)) from rfl]
 refine aw_cut (fun (T':Env) H'=>Ext H.next H H'∧H1.next<H'.next∧Row H' H1.next (rest.foldl (fun o j=>uni o (bxAt bs j)) x0).cells∧Row H' H.next (cSix 0 0 0 0 0 0)∧T' 6=cellR H.next 6 0∧T' 7=cellR H1.next 6 0) (calls_mono _ _) ?_ ?_
 rotate_left
 ·rintro T H3 ⟨E3,n3,r3,r36,t6,t7⟩
  have l3:=(ld6 r3).2.2.2.2.2.2
  obtain⟨H4,m4,r4,n4,k4⟩:=row_storeN r36 (n:=6) rfl (xs:=(rest.foldl (fun o j=>uni o (bxAt bs j)) x0).cells) rfl rfl
  have l4:=(ld6 r4).2.2.2.2.2.2
  simp only[sA,sB,seval,t6,t7,l3,m4,fin_cc,OptP_some,l4]
  exact⟨by first | rfl | trivial,⟨by have:=E3.next; omega,fun c hc=>by rw[k4 c om,E3.old c hc]⟩⟩
 refine aw_loop (fun m (T:Env) H'=>∃i:Nat,m=rest.length-i∧i≤rest.length∧Ext H.next H H'∧H1.next<H'.next∧Row H' H1.next ((rest.take i).foldl (fun o j=>uni o (bxAt bs j)) x0).cells∧Row H' H.next (cSix 0 0 0 0 0 0)∧T 0=cellR kb 4 0∧T 6=cellR H.next 6 0∧T 7=cellR H1.next 6 0∧T 37=.slice (some ⟨bo,n,a+1⟩) (b-(a+1)) (.open_ 1)∧T 38=.int .i64 (rest.length:Int)∧T 39=.int .i64 (i:Int)) rest.length
  ⟨0,rfl,Nat.zero_le _,E2,om,r2,r1.same (by rw[k2 _ om,E1p.old _ om]),tt,tt,tt,tt,by rw[hrl]; simp only[sA,sB,seval],tt⟩ ?_
 rintro m T H3 ⟨i,rfl,hi,E3,n3,r3,r36,t0,t6,t7,t37,t38,t39⟩
 by_cases hlt:i<rest.length
 rotate_left
 ·have c1:¬(i:Int)<(rest.length:Int):=om
  simp only[sA,sB,seval,t38,t39,c1]
  rw[List.take_of_length_le om]at r3
  exact⟨E3,n3,r3,r36,t6,t7⟩
 have c1:(i:Int)<(rest.length:Int):=om
 obtain⟨y,hy⟩:=isSome_of_lt hlt
 have hyo:os[a+1+i]?=some y:=by
  rw[hrest]at hy
  unfold cutL at hy
  rw[List.getElem?_take_of_lt om,List.getElem?_drop]at hy
  exact hy
 have hyb:=hos y (List.mem_of_getElem? hyo)
 obtain⟨x,hx⟩:=isSome_of_lt hyb
 have iy:=sub_idx (b:=bo) (n:=n) (lo:=a+1) (r:=.open_ 1) (show i<b-(a+1) by omega)
 have ly:=lo E3 hyo
 obtain⟨q0,q1,q5⟩:=lk E3
 have ix:=(XK E3).idx hyb
 have lx:=(XK E3).loadE X_len hx
 obtain⟨o,ho⟩:∃o,o=(rest.take i).foldl (fun o j=>uni o (bxAt bs j)) x0:=⟨_,rfl⟩
 rw[← ho]at r3
 have hnx:(rest.take (i+1)).foldl (fun o j=>uni o (bxAt bs j)) x0=uni o x:=by rw[List.take_add_one,hy,List.foldl_append,← ho]; show uni o (bxAt bs y)=_; rw[ebx hx]
 have e3:=E3.next
 obtain⟨H4,m4,r4,n4,k4⟩:=row_newL H3 (cSix 0 0 0 0 0 0) (n:=6) rfl
 obtain⟨H5,m5,r5,n5,k5⟩:=row_storeN r4 (n:=6) rfl (xs:=x.cells) rfl rfl
 have s5:Row H5 H1.next (cSix o.lo.x o.lo.y o.lo.z o.hi.x o.hi.y o.hi.z):=r3.same (by rw[k5 _ om,k4 _ om])
 have w2:=wrap1 i om
 have u00:oLoad false 1 H5 (cellR H1.next 6 0)=some (.int .i64 o.lo.x):=row_load s5 rfl rfl
 have u01:oLoad false 1 H5 (cellR H1.next 6 3)=some (.int .i64 o.hi.x):=row_load s5 rfl rfl
 have v0:Row H5 H3.next x.cells:=r5.same (rfl)
 have v00:oLoad false 1 H5 (cellR H3.next 6 0)=some (.int .i64 x.lo.x):=row_load v0 rfl rfl
 have v01:oLoad false 1 H5 (cellR H3.next 6 3)=some (.int .i64 x.hi.x):=row_load v0 rfl rfl
 obtain⟨Ha0,ma0,ra0,na0,ka0⟩:=row_st s5 (n:=6) rfl (i:=0) om (x:=.int .i64 (min o.lo.x x.lo.x)) rfl (l':=cSix (min o.lo.x x.lo.x) (o.lo.y) (o.lo.z) (o.hi.x) (o.hi.y) (o.hi.z)) rfl
 have y0:oLoad false 1 Ha0 (cellR H1.next 6 3)=some (.int .i64 o.hi.x):=row_load ra0 rfl rfl
 obtain⟨Hb0,mb0,rb0,nb0,kb0⟩:=row_st ra0 (n:=6) rfl (i:=3) om (x:=.int .i64 (max o.hi.x x.hi.x)) rfl (l':=cSix (min o.lo.x x.lo.x) (o.lo.y) (o.lo.z) (max o.hi.x x.hi.x) (o.hi.y) (o.hi.z)) rfl
 have p00:oLoad false 1 Ha0 (cellR H3.next 6 3)=some (.int .i64 x.hi.x):=row_load (v0.same (ka0 _ om)) rfl rfl
 have p01:oLoad false 1 Hb0 (cellR H3.next 6 3)=some (.int .i64 x.hi.x):=row_load ((v0.same (ka0 _ om)).same (kb0 _ om)) rfl rfl
 have u10:oLoad false 1 Hb0 (cellR H1.next 6 1)=some (.int .i64 o.lo.y):=row_load rb0 rfl rfl
 have u11:oLoad false 1 Hb0 (cellR H1.next 6 4)=some (.int .i64 o.hi.y):=row_load rb0 rfl rfl
 have v1:Row Hb0 H3.next x.cells:=r5.same (by rw[kb0 _ om,ka0 _ om])
 have v10:oLoad false 1 Hb0 (cellR H3.next 6 1)=some (.int .i64 x.lo.y):=row_load v1 rfl rfl
 have v11:oLoad false 1 Hb0 (cellR H3.next 6 4)=some (.int .i64 x.hi.y):=row_load v1 rfl rfl
 obtain⟨Ha1,ma1,ra1,na1,ka1⟩:=row_st rb0 (n:=6) rfl (i:=1) om (x:=.int .i64 (min o.lo.y x.lo.y)) rfl (l':=cSix (min o.lo.x x.lo.x) (min o.lo.y x.lo.y) (o.lo.z) (max o.hi.x x.hi.x) (o.hi.y) (o.hi.z)) rfl
 have y1:oLoad false 1 Ha1 (cellR H1.next 6 4)=some (.int .i64 o.hi.y):=row_load ra1 rfl rfl
 obtain⟨Hb1,mb1,rb1,nb1,kb1⟩:=row_st ra1 (n:=6) rfl (i:=4) om (x:=.int .i64 (max o.hi.y x.hi.y)) rfl (l':=cSix (min o.lo.x x.lo.x) (min o.lo.y x.lo.y) (o.lo.z) (max o.hi.x x.hi.x) (max o.hi.y x.hi.y) (o.hi.z)) rfl
 have p10:oLoad false 1 Ha1 (cellR H3.next 6 4)=some (.int .i64 x.hi.y):=row_load (v1.same (ka1 _ om)) rfl rfl
 have p11:oLoad false 1 Hb1 (cellR H3.next 6 4)=some (.int .i64 x.hi.y):=row_load ((v1.same (ka1 _ om)).same (kb1 _ om)) rfl rfl
 have u20:oLoad false 1 Hb1 (cellR H1.next 6 2)=some (.int .i64 o.lo.z):=row_load rb1 rfl rfl
 have u21:oLoad false 1 Hb1 (cellR H1.next 6 5)=some (.int .i64 o.hi.z):=row_load rb1 rfl rfl
 have v2:Row Hb1 H3.next x.cells:=r5.same (by rw[kb1 _ om,ka1 _ om,kb0 _ om,ka0 _ om])
 have v20:oLoad false 1 Hb1 (cellR H3.next 6 2)=some (.int .i64 x.lo.z):=row_load v2 rfl rfl
 have v21:oLoad false 1 Hb1 (cellR H3.next 6 5)=some (.int .i64 x.hi.z):=row_load v2 rfl rfl
 obtain⟨Ha2,ma2,ra2,na2,ka2⟩:=row_st rb1 (n:=6) rfl (i:=2) om (x:=.int .i64 (min o.lo.z x.lo.z)) rfl (l':=cSix (min o.lo.x x.lo.x) (min o.lo.y x.lo.y) (min o.lo.z x.lo.z) (max o.hi.x x.hi.x) (max o.hi.y x.hi.y) (o.hi.z)) rfl
 have y2:oLoad false 1 Ha2 (cellR H1.next 6 5)=some (.int .i64 o.hi.z):=row_load ra2 rfl rfl
 obtain⟨Hb2,mb2,rb2,nb2,kb2⟩:=row_st ra2 (n:=6) rfl (i:=5) om (x:=.int .i64 (max o.hi.z x.hi.z)) rfl (l':=cSix (min o.lo.x x.lo.x) (min o.lo.y x.lo.y) (min o.lo.z x.lo.z) (max o.hi.x x.hi.x) (max o.hi.y x.hi.y) (max o.hi.z x.hi.z)) rfl
 have p20:oLoad false 1 Ha2 (cellR H3.next 6 5)=some (.int .i64 x.hi.z):=row_load (v2.same (ka2 _ om)) rfl rfl
 have p21:oLoad false 1 Hb2 (cellR H3.next 6 5)=some (.int .i64 x.hi.z):=row_load ((v2.same (ka2 _ om)).same (kb2 _ om)) rfl rfl
 simp only[sA,sB,seval,t0,t37,t38,t39,c1,iy,ly,nil_cell,fldA,fld0,q0,q1,ix,lx,m4,m5]
 refine aw_drawC rfl ?_
 simp only[sR,sA,sB,seval,t7,fld0,fldA,u00,u01,v00,v01,pf_min,min_if,pf_maxI,max_if,ma0,mb0]
 simp only[ck_nil',ck_cons,ckP_load,ckP_nil,ck_end,and_true,true_and,List.map_cons,List.map_nil,sA,sB,seval,t7,fld0,fldA]
 refine⟨?_,?_⟩
 ·and_intros <;> first | rfl | exact⟨_,rfl,fun _=>⟨_,by first | assumption | (simp only[sA,sB,seval,t7,fld0,fldA]; assumption),aeq_int _ _⟩⟩
 refine aw_drawC rfl ?_
 simp only[sR,sA,sB,seval,t7,fld0,fldA,u10,u11,v10,v11,pf_min,min_if,pf_maxI,max_if,ma1,mb1]
 simp only[ck_nil',ck_cons,ckP_load,ckP_nil,ck_end,and_true,true_and,List.map_cons,List.map_nil,sA,sB,seval,t7,fld0,fldA]
 refine⟨?_,?_⟩
 ·and_intros <;> first | rfl | exact⟨_,rfl,fun _=>⟨_,by first | assumption | (simp only[sA,sB,seval,t7,fld0,fldA]; assumption),aeq_int _ _⟩⟩
 refine aw_drawC rfl ?_
 simp only[sR,sA,sB,seval,t7,fld0,fldA,u20,u21,v20,v21,pf_min,min_if,pf_maxI,max_if,ma2,mb2]
 simp only[ck_nil',ck_cons,ckP_load,ckP_nil,ck_end,and_true,true_and,List.map_cons,List.map_nil,sA,sB,seval,t7,fld0,fldA]
 refine⟨?_,?_⟩
 ·and_intros <;> first | rfl | exact⟨_,rfl,fun _=>⟨_,by first | assumption | (simp only[sA,sB,seval,t7,fld0,fldA]; assumption),aeq_int _ _⟩⟩
 simp only[sA,sB,seval,t39,w2]
 refine⟨rest.length-(i+1),om,i+1,rfl,om,⟨om,fun c hc=>by rw[kb2 c om,ka2 c om,kb1 c om,ka1 c om,kb0 c om,ka0 c om,k5 c om,k4 c om,E3.old c hc]⟩,om,?_,r36.same (by rw[kb2 _ om,ka2 _ om,kb1 _ om,ka1 _ om,kb0 _ om,ka0 _ om,k5 _ om,k4 _ om]),t0,t6,by first | exact t7 | trivial,t37,t38,tt⟩
 rw[hnx]; exact rb2
open Go.Abs Go.Abs.S
theorem ins_len(lt:Nat→Nat→Bool)(x:Nat):∀l:List Nat,(insF lt x l).length=l.length+1
 | []=>rfl
 | y::l=>by
  unfold insF
  cases lt x y with
  | true=>simp[ins_len lt x l]
  | false=>simp
theorem ins_mem(lt:Nat→Nat→Bool)(x:Nat):∀(l:List Nat) {y:Nat},y∈insF lt x l→y=x∨y∈l
 | [],y,h=>by simpa[insF] using h
 | z::l,y,h=>by
  unfold insF at h
  cases hl:lt x z with
  | true=>
   rw[hl]at h
   rcases List.mem_cons.1 h with h | h
   ·exact .inr (by simp[h])
   ·rcases ins_mem lt x l h with h | h
    ·exact .inl h
    ·exact .inr (by simp[h])
  | false=>
   rw[hl]at h
   rcases List.mem_cons.1 h with h | h
   ·exact .inl h
   ·exact .inr h
theorem fold_ins(lt:Nat→Nat→Bool):∀(l acc:List Nat),(l.foldl (fun a x=>insF lt x a) acc).length=acc.length+l.length∧∀y∈l.foldl (fun a x=>insF lt x a) acc,y∈acc∨y∈l
 | [],acc=>⟨rfl,fun y h=>.inl h⟩
 | x::l,acc=>by
  obtain⟨h1,h2⟩:=fold_ins lt l (insF lt x acc)
  refine⟨by rw[List.foldl_cons,h1,ins_len,List.length_cons]; omega,fun y h=>?_⟩
  rw[List.foldl_cons]at h
  rcases h2 y h with h | h
  ·rcases ins_mem lt x acc h with h | h
   ·exact .inr (by simp[h])
   ·exact .inl h
  ·exact .inr (by simp[h])
theorem sort_len(lt:Nat→Nat→Bool)(l:List Nat):(sortF lt l).length=l.length:=by
 unfold sortF; rw[List.length_reverse,(fold_ins lt l []).1]; simp
theorem sort_mem{lt:Nat→Nat→Bool}{l:List Nat}{y:Nat}(h:y∈sortF lt l):y∈l:=by
 unfold sortF at h
 rw[List.mem_reverse]at h
 rcases (fold_ins lt l []).2 y h with h | h
 ·simp at h
 ·exact h
theorem cut_mem{l:List Nat}{a b y:Nat}(h:y∈cutL l a b):y∈l:=List.mem_of_mem_drop (List.mem_of_mem_take h)
def ordF(bs:List Bx)(ax:Nat)(os:List Nat)(a b:Nat):List Nat:=os.take a++(sortF (ltF bs ax) (cutL os a b)++os.drop b)
theorem ord_len{bs:List Bx}{ax a b:Nat}{os:List Nat}(h1:a≤b)(h2:b≤os.length):(ordF bs ax os a b).length=os.length:=by
 unfold ordF cutL; simp only[lA,sort_len,List.length_take,List.length_drop]; omega
theorem ord_mem{bs:List Bx}{ax a b y:Nat}{os:List Nat}(h:y∈ordF bs ax os a b):y∈os:=by
 unfold ordF at h
 rcases List.mem_append.1 h with h | h
 ·exact List.mem_of_mem_take h
 ·rcases List.mem_append.1 h with h | h
  ·exact cut_mem (sort_mem h)
  ·exact List.mem_of_mem_drop h
def nodF(bs:List Bx)(os:List Nat)(a b:Nat):Nod:=⟨aroundF bs (cutL os a b),a,b,-1,-1⟩
theorem add_leaf{bs:List Bx}{k a b:Nat}{ns:List Nod}{os:List Nat}(h:b-a≤2):addF bs (k+1) a b (ns,os)=(ns++[nodF bs os a b],os):=by
 show (if b-a≤2 then _ else _)=_
 rw[if_pos h]; rfl
theorem add_fork{bs:List Bx}{k a b:Nat}{ns:List Nod}{os:List Nat}(h:¬b-a≤2):addF bs (k+1) a b (ns,os) =
  (let p1 := addF bs k a (a + (b - a) / 2) (ns ++ [nodF bs os a b], ordF bs (axisF (nodF bs os a b).box) os a b)
   let p2 := addF bs k (a + (b - a) / 2) b p1
   (p2.1.set ns.length { nodF bs os a b with first := ns.length + 1, second := p1.1.length }, p2.2)) := by
 show (if b-a≤2 then _ else _)=_
 rw[if_neg h]; rfl
theorem add_more(bs:List Bx):∀(k a b:Nat) (ns:List Nod) (os:List Nat),a<b→b≤os.length→b-a≤k →
  ∃t,(addF bs k a b (ns,os)).1=ns++t∧1≤t.length∧t.length≤2*(b-a)-1∧(addF bs k a b (ns,os)).2.length=os.length∧∀y∈(addF bs k a b (ns,os)).2,y∈os
 | 0,a,b,ns,os,h1,_,h3=>om
 | k+1,a,b,ns,os,h1,h2,h3=>by
  by_cases h:b-a≤2
  ·rw[add_leaf h]; exact⟨[_],rfl,Nat.le_refl _,by simp; omega,rfl,fun y h=>h⟩
  ·rw[add_fork h]
   obtain⟨os1,ho⟩:∃o,o=ordF bs (axisF (nodF bs os a b).box) os a b:=⟨_,rfl⟩
   have ol:os1.length=os.length:=by rw[ho]; exact ord_len om h2
   rw[← ho]
   obtain⟨t1,e1,l1,l1',o1,q1⟩:=add_more bs k a (a+(b-a) / 2) (ns++[nodF bs os a b]) os1 om om om
   obtain⟨p1,hp1⟩:∃p,p=addF bs k a (a+(b-a) / 2) (ns++[nodF bs os a b],os1):=⟨_,rfl⟩
   rw[← hp1]at e1 o1 q1
   obtain⟨ns1,os2⟩:=p1
   simp only[← hp1]
   simp only at e1 o1 q1
   obtain⟨t2,e2,l2,l2',o2,q2⟩:=add_more bs k (a+(b-a) / 2) b ns1 os2 om om om
   refine⟨({ nodF bs os a b with first:=ns.length+1,second:=ns1.length }::t1)++t2,?_,by simp,by simp; omega,by rw[o2,o1,ol],fun y hy=>?_⟩
   ·show ((addF bs k (a+(b-a) / 2) b (ns1,os2)).1).set _ _=_
    rw[e2,e1]
    simp only[List.append_assoc,List.cons_append,List.nil_append]
    rw[List.set_append_right _ _ rL,Nat.sub_self]; rfl
   ·have:=q1 y (q2 y hy)
    rw[ho]at this
    exact ord_mem this
theorem flat_set{α:Type}{f:α→List AVal}{m:Nat}(hf:∀x,(f x).length=m):∀{l:List α} {i:Nat} {x x':α} {o:Nat} {y:AVal},l[i]?=some x→o<m→(f x).set o y=f x'→(l.flatMap f).set (i*m+o) y=(l.set i x').flatMap f
 | [],i,x,_,_,_,h,_,_=>by simp at h
 | z::l,0,x,x',o,y,h,ho,e=>by
  simp only[List.getElem?_cons_zero,sJ]at h
  subst h
  rw[Nat.zero_mul,Nat.zero_add,List.flatMap_cons,List.set_append_left _ _ (by rw[hf]; exact ho),e]; rfl
 | z::l,i+1,x,x',o,y,h,ho,e=>by
  simp only[List.getElem?_cons_succ]at h
  have hz:=hf z
  rw[List.flatMap_cons,List.set_append_right _ _ (by rw[hz,Nat.succ_mul]; omega),hz,show (i+1)*m+o-m=i*m+o by rw[Nat.succ_mul]; omega,flat_set hf h ho e]; rfl
open Go.Abs Go.Abs.S
theorem _root_.Go.Abs.S.AppN.keep{m lo k:Nat}{H H':AHeap}{s:AVal}{L:List AVal}(h:AppN m lo H s L k)(hn:H.next≤H'.next)(e:∀c,lo≤c→c<H.next→H'.get c=H.get c):AppN m lo H' s L k:=by
 rcases h with h | ⟨b,low,h1,h2,h3,h4,h5,h6⟩
 ·exact .inl h
 ·exact .inr ⟨b,low,h1,h2,h3,Nat.lt_of_lt_of_le h4 hn,(e b h3 h4).trans h5,h6⟩
theorem N_len(x:Nod):x.cells.length=10:=rfl
structure MkS(bs:List Bx)(lo kb tb bo n:Nat)(vp vt vb vX:AVal)(most:Int)(H:AHeap)(vN:AVal)(d w:Int)(ns:List Nod)(os:List Nat):Prop where
 ln:lo≤H.next
 rt:Row H tb (treL vp vt vb vN (ordS bo n) d)
 rk:Row H kb (mkL tb vX w most)
 ro:Row H bo (nats os)
 nd:AppN 10 lo H vN (ns.flatMap Nod.cells) ns.length
 X:SlK (fun c=>c<lo∧c≠bo∧c≠kb∧c≠tb) H 6 vX bs.length (bs.flatMap Bx.cells)
 ol:os.length=n
 om:∀y∈os,y<bs.length
def FrM(lo kb tb bo:Nat)(H H':AHeap):Prop:=H.next≤H'.next∧∀c,c<lo→c≠kb→c≠tb→c≠bo→H'.get c=H.get c
theorem FrM.trans{lo kb tb bo:Nat}{H H' H'':AHeap}(h:FrM lo kb tb bo H H')(k:FrM lo kb tb bo H' H''):FrM lo kb tb bo H H'':=⟨Nat.le_trans h.1 k.1,fun c h1 h2 h3 h4=>by rw[k.2 c h1 h2 h3 h4,h.2 c h1 h2 h3 h4]⟩
theorem MkS.ext{bs:List Bx}{lo kb tb bo n:Nat}{vp vt vb vX:AVal}{most:Int}{H H':AHeap}{vN:AVal}{d w:Int}{ns:List Nod}{os:List Nat}(h:MkS bs lo kb tb bo n vp vt vb vX most H vN d w ns os)(hk:kb<lo)(ht:tb<lo)(hb:bo<lo)(e:Ext H.next H H'):MkS bs lo kb tb bo n vp vt vb vX most H' vN d w ns os:=
 ⟨Nat.le_trans h.ln e.next,h.rt.same (e.old _ (Nat.lt_of_lt_of_le ht h.ln)),h.rk.same (e.old _ (Nat.lt_of_lt_of_le hk h.ln)),h.ro.same (e.old _ (Nat.lt_of_lt_of_le hb h.ln)),h.nd.ext e,h.X.mono fun q hq=>⟨hq,e.old q (Nat.lt_of_lt_of_le hq.1 h.ln)⟩,h.ol,h.om⟩
theorem bN(x:Bx)(a b:Int):aBuild [.int .i64 0,.int .i64 0,.int .i64 0,.int .i64 0,.int .i64 0,.int .i64 0,.int .i64 0,.int .i64 0,.int .i64 0,.int .i64 0] [(0,6,.agg x.cells),(6,1,.int .i64 a),(7,1,.int .i64 b),(8,1,.int .i64 (-1)),(9,1,.int .i64 (-1))]=some (.agg (x.cells++[.int .i64 a,.int .i64 b,.int .i64 (-1),.int .i64 (-1)])):=rfl
abbrev z10:List AVal:=[.int .i64 0,.int .i64 0,.int .i64 0,.int .i64 0,.int .i64 0,.int .i64 0,.int .i64 0,.int .i64 0,.int .i64 0,.int .i64 0]
theorem bxAt_j{bs:List Bx}(hj:∀b∈bs,b.j)(i:Nat):(bxAt bs i).j:=by
 unfold bxAt
 cases h:bs[i]? with
 | none=>exact⟨V0_j,V0_j⟩
 | some b=>exact hj b (List.mem_of_getElem? h)
theorem fold_j{bs:List Bx}(hj:∀b∈bs,b.j):∀(l:List Nat) (o:Bx),o.j→(l.foldl (fun o j=>uni o (bxAt bs j)) o).j
 | [],_,h=>h
 | i::l,o,h=>fold_j hj l _ (uni_j h (bxAt_j hj i))
theorem aroundF_j{bs:List Bx}(hj:∀b∈bs,b.j)(l:List Nat):(aroundF bs l).j:=by
 cases l with
 | nil=>exact⟨V0_j,V0_j⟩
 | cons i l=>exact fold_j hj l _ (bxAt_j hj i)
theorem _root_.Go.Abs.S.AppN.one'{m lo k:Nat}{H:AHeap}{s:AVal}{L:List AVal}(h:AppN m lo H s L k):s.one=true:=by
 rcases h with⟨rfl,_⟩ | ⟨b,low,rfl,_⟩ <;> rfl
theorem _root_.Go.Abs.S.AppN.put2{m lo k:Nat}{H:AHeap}{s:AVal}{L:List AVal}(h:AppN m lo H s L k){i:Nat}(hi:i<k){o p:Nat}(ho:o<m)(hp:p<m){x y:AVal}(hx:x.one=true)(hy:y.one=true) :
  ∃b lim H' H'',aIdxA m s (.int .i64 (i:Int))=some (cellR b lim (i*m))∧oStore 1 H (cellR b lim (i*m+o)) x=some H'∧oStore 1 H' (cellR b lim (i*m+p)) y=some H''∧AppN m lo H'' s ((L.set (i*m+o) x).set (i*m+p) y) k∧H'.next=H.next∧H''.next=H.next∧lo≤b∧(∀c,c≠b→H'.get c=H.get c)∧∀c,c≠b→H''.get c=H.get c:=by
 rcases h with⟨_,_,h⟩ | ⟨b,low,rfl,h2,h3,h4,h5,h6,h7⟩
 ·omega
 ·have hR:Row H b L:=⟨low,h5,h6⟩
  have hm:i*m+m≤L.length:=by
   rw[h2,Nat.mul_comm m k]
   have:(i+1)*m≤k*m:=Nat.mul_le_mul_right m hi
   rw[Nat.add_mul,Nat.one_mul]at this; exact this
  obtain⟨H1,m1,r1,n1,k1⟩:=row_store hR rfl (i:=i*m+o) om hx
  obtain⟨H2,m2,r2,n2,k2⟩:=row_store r1 (List.length_set) (i:=i*m+p) om hy
  obtain⟨low2,g1,g2⟩:=r2
  exact⟨b,L.length,H1,H2,idxM .i64 hi,m1,m2,.inr ⟨b,low2,by simp,by simp[h2],h3,om,g1,g2,h7⟩,n1,om,h3,k1,fun c hc=>by rw[k2 c hc,k1 c hc]⟩
theorem sq_add{s t:Nat}(h1:1≤s)(h2:1≤t):s*s+t*t+(s+t)≤(s+t)*(s+t):=by
 have e:(s+t)*(s+t)=s*s+t*t+(s*t+s*t):=by rw[Nat.mul_add,Nat.add_mul,Nat.add_mul,Nat.mul_comm t s]; omega
 have a1:s≤s*t:=Nat.le_mul_of_pos_right _ h2
 have a2:t≤s*t:=Nat.le_mul_of_pos_left _ h1
 omega
theorem add_spec'{bs:List Bx}(hj:∀b∈bs,b.j){lo kb tb bo n:Nat}{vp vt vb vX:AVal}{most:Int}(hk:kb<lo)(ht:tb<lo)(hb:bo<lo)(nkt:kb≠tb)(nkb:kb≠bo)(ntb:tb≠bo)(hn2:n≤12)(hmost:most<4611686018427387904) :
  ∀(k a b:Nat) (ns:List Nod) (os:List Nat) (H:AHeap) (vN:AVal) (d w dep:Int),MkS bs lo kb tb bo n vp vt vb vX most H vN d w ns os→a<b→b≤n→b-a≤k→ns.length+2*(b-a)≤1000→0≤w→w+((b-a)*(b-a):Nat)≤most→0≤dep→dep+k≤1000 →
   ACalls Tryz.prog noNat 86 [cellR kb 4 0,.int .i64 (a:Int),.int .i64 (b:Int),.int .i64 dep] H fun v H'=>v=.int .i64 (ns.length:Int)∧FrM lo kb tb bo H H'∧∃vN' d' w',MkS bs lo kb tb bo n vp vt vb vX most H' vN' d' w' (addF bs k a b (ns,os)).1 (addF bs k a b (ns,os)).2∧0≤w'∧w'≤w+((b-a)*(b-a):Nat):=by
 intro k
 induction k with
 | zero=>intro a b ns os H vN d w dep S h1 h2 h3 _ _ _ _ _; omega
 | succ k ih=>
  intro a b ns os H vN d w dep S h1 h2 h3 hc hw0 hw hd0 hd1
  have hln:=S.ln
  have hsq:b-a≤(b-a)*(b-a):=Nat.le_mul_of_pos_left _ om
  refine acalls_ofN rfl za86 rfl ?_
  obtain⟨q0,_,_,_⟩:=ldK S.rk
  obtain⟨_,q4,_,_,_⟩:=ldTr S.rt
  simp only[c86,sA,sB,seval,nil_cell,fld0,fldA,q0,q4,S.nd.len]
  refine (around_spec S.om (by exact S.ol) h1 h2 om om om om S.rt S.rk S.ro (S.X.mono fun c hc=>⟨om,rfl⟩)).mono ?_
  rintro _ H1 ⟨rfl,E1⟩
  have S1:=S.ext hk ht hb E1
  have n1:=E1.next
  obtain⟨nd,hnd⟩:∃x,x=nodF bs os a b:=⟨_,rfl⟩
  have ndc:(aroundF bs (cutL os a b)).cells++[.int .i64 (a:Int),.int .i64 (b:Int),.int .i64 (-1),.int .i64 (-1)]=nd.cells:=by rw[hnd]; rfl
  have hbN:=bN (aroundF bs (cutL os a b)) (a:Int) (b:Int)
  rw[ndc]at hbN
  have cneg:(Int.negSucc 0)=-1:=rfl
  obtain⟨H2,m2,r2,n2,k2⟩:=row_newL H1 z10 (n:=10) rfl
  obtain⟨H3,m3,r3,n3,k3⟩:=row_storeN r2 (n:=10) rfl (xs:=nd.cells) rfl rfl
  have E3:Ext H1.next H1 H3:=⟨om,fun c hc=>by rw[k3 c om,k2 c om]⟩
  have S3:=S1.ext hk ht hb E3
  have l10:=(ldN r3).2.2.2.2.2.2.2.2
  obtain⟨q0,_,_,_⟩:=ldK S3.rk
  obtain⟨_,q4,_,_,_⟩:=ldTr S3.rt
  have hbl:=buildM (m:=10) H3 (z:=z10) (xs:=nd.cells) rfl rfl
  obtain⟨s',H5,m5,A5,e5,o5⟩:=S3.nd.push (by have:=S3.ln; omega) (xs:=nd.cells) rfl rfl om (bytes:=80) om om
  have n35:H3.next≤H5.next:=e5.next
  have gk:∀c,c<lo→H5.get c=H3.get c:=fun c hc=>e5.old c hc
  have rt5:Row H5 tb (treL vp vt vb vN (ordS bo n) d):=S3.rt.same (gk _ ht)
  obtain⟨H6,m6,r6,n6,k6⟩:=row_st rt5 (n:=7) rfl (i:=4) om (x:=s') A5.one' (l':=treL vp vt vb s' (ordS bo n) d) rfl
  simp only[sA,sB,seval,cneg,hbN,m2,m3]
  refine aw_drawC rfl ?_
  simp only[sR,sA,sB,seval,nil_cell,fldA,q4,l10,hbl,m5,m6]
  simp only[ck_nil',ck_cons,ckP_load,ckP_nil,ck_end,and_true,true_and,List.map_cons,List.map_nil]
  have q4p:oLoad false 1 (H3.push (.cells nd.cells 0 false)) (cellR tb 7 4)=some vN:=(ldTr (S3.rt.same (H':=H3.push (.cells nd.cells 0 false)) (get_push_lt (by have:=S3.ln; omega)))).2.1
  refine⟨?_,?_⟩
  ·and_intros <;> first | rfl | exact⟨_,rfl,fun _=>⟨_,by first | assumption | (simp only[sA,sB,seval,nil_cell,fldA]; assumption),by rcases S.nd with⟨h,_⟩ | ⟨b,low,h,_⟩ <;> rw[h] <;> first | exact aeq_nilS | exact aeq_open _ _ _⟩⟩
  have l3:=S3.ln
  obtain⟨_,_,_,l6,_⟩:=ldTr r6
  obtain⟨H7,m7,r7,n7,k7⟩:=row_st r6 (n:=7) rfl (i:=6) om (x:=.int .i64 (max d dep)) rfl (l':=treL vp vt vb s' (ordS bo n) (max d dep)) rfl
  have rk7:Row H7 kb (mkL tb vX w most):=S3.rk.same (by rw[k7 _ nkt,k6 _ nkt,gk _ hk])
  obtain⟨j0,_,j2,_⟩:=ldK rk7
  obtain⟨H8,m8,r8,n8,k8⟩:=row_st rk7 (n:=4) rfl (i:=2) om (x:=.int .i64 (w+(b-a:Nat))) rfl (l':=mkL tb vX (w+(b-a:Nat)) most) rfl
  have g8:∀c,c<lo→c≠kb→c≠tb→H8.get c=H.get c:=fun c hc1 hc2 hc3=>by rw[k8 c hc2,k7 c hc3,k6 c hc3,gk c hc1,E3.old c om,E1.old c om]
  have S8:MkS bs lo kb tb bo n vp vt vb vX most H8 s' (max d dep) (w+(b-a:Nat)) (ns++[nd]) os:=
   ⟨om,r7.same (k8 _ (Ne.symm nkt)),r8,S.ro.same (g8 _ hb (Ne.symm nkb) (Ne.symm ntb)),by
    have:=A5.keep (H':=H8) om (fun c hc1 hc2=>by rw[k8 c om,k7 c om,k6 c om])
    rw[List.flatMap_append,lA]; simpa using this,S.X.mono fun q hq=>⟨hq,g8 q hq.1 hq.2.2.1 hq.2.2.2⟩,S.ol,S.om⟩
  have F8:FrM lo kb tb bo H H8:=⟨om,fun c h1 h2 h3 h4=>g8 c h1 h2 h3⟩
  have wba:IntKind.i64.wrap ((b:Int)-(a:Int))=((b-a:Nat):Int):=w64
  have www:IntKind.i64.wrap (w+((b-a:Nat):Int))=w+((b-a:Nat):Int):=w64
  by_cases hleaf:b-a≤2
  ·have c1:((b-a:Nat):Int)≤2:=om
   simp only[sA,sB,seval,nil_cell,fld0,fldA,l6,pf_maxI,max_if,m7,j0,j2,wba,www,m8,c1]
   rw[add_leaf hleaf,← hnd]
   exact⟨by first | rfl | trivial,F8,_,_,_,S8,om,om⟩
  have c1:¬((b-a:Nat):Int)≤2:=om
  obtain⟨_,_,j2',j3'⟩:=ldK r8
  have c2:¬most<w+((b-a:Nat):Int):=om
  have l10':=(ldN (r3.same (H':=H8) (by rw[k8 _ om,k7 _ om,k6 _ om]; exact o5 _ om (fun p j r e=>by have:=S.nd.blk p j r e; omega)))).2.2.2.2.2.2.2.2
  simp only[sA,sB,seval,nil_cell,fld0,fldA,l6,pf_maxI,max_if,m7,j0,j2,wba,www,m8,eq_false c1,j2',j3',eq_false c2,l10']
  have bj:=aroundF_j hj (cutL os a b)
  have hfr:nd.from_=a:=by rw[hnd]; rfl
  have hto:nd.to_=b:=by rw[hnd]; rfl
  have l8:=S8.ln
  refine (sort_spec hj (x:=nd) (by rw[hnd]; exact bj) S8.om (n:=n) (kb:=kb) (tb:=tb) (bo:=bo) S8.ol om om om om om om om (Ne.symm nkb) (Ne.symm ntb) S8.rt S8.rk S8.ro (S8.X.mono fun c hc=>⟨⟨om,hc.2.1⟩,rfl⟩)).mono ?_
  rintro _ H9 ⟨rfl,O9,R9⟩
  obtain⟨os1,ho⟩:∃o,o=ordF bs (axisF nd.box) os a b:=⟨_,rfl⟩
  rw[hfr,hto]at R9
  have R9':Row H9 bo (nats os1):=by rw[ho]; exact R9
  have ol1:os1.length=n:=by rw[ho,ord_len om (by rw[S.ol]; exact h2),S.ol]
  have om1:∀y∈os1,y<bs.length:=fun y hy=>S.om y (by rw[ho]at hy; exact ord_mem hy)
  have S9:MkS bs lo kb tb bo n vp vt vb vX most H9 s' (max d dep) (w+(b-a:Nat)) (ns++[nd]) os1:=
   ⟨Nat.le_trans l8 O9.1,S8.rt.same (O9.2 _ om ntb),S8.rk.same (O9.2 _ om nkb),R9',S8.nd.keep O9.1 (fun c h1 h2=>O9.2 c h2 om),S8.X.mono fun q hq=>⟨hq,O9.2 q om hq.2.1⟩,ol1,om1⟩
  have F9:FrM lo kb tb bo H H9:=F8.trans ⟨O9.1,fun c h1 _ _ h4=>O9.2 c om h4⟩
  obtain⟨h,hh⟩:∃h,h=a+(b-a) / 2:=⟨_,rfl⟩
  have hq:aBin .quo (.int .i64 ((b-a:Nat):Int)) (.int .i64 2)=some (.int .i64 (((b-a) / 2:Nat):Int)):=by
   rw[quoC dD ⟨om,om⟩]
   rfl
  have wh:IntKind.i64.wrap ((a:Int)+(((b-a) / 2:Nat):Int))=(h:Int):=w64
  have wd:IntKind.i64.wrap (dep+1)=dep+1:=w64
  have hsq2:=sq_add (s:=h-a) (t:=b-h) om om
  rw[show h-a+(b-h)=b-a by omega]at hsq2
  have hl1:(ns++[nd]).length=ns.length+1:=by simp
  simp only[sA,sB,seval,wba,hq,wh,wd]
  refine (ih a h (ns++[nd]) os1 H9 s' (max d dep) (w+(b-a:Nat)) (dep+1) S9 om om om om om om om om).mono ?_
  rintro _ H10 ⟨rfl,F10,vN1,d1,w1,S10,hw1,hw1'⟩
  obtain⟨t1,e1,l1,l1',o1,q1⟩:=add_more bs k a h (ns++[nd]) os1 om om om
  obtain⟨p1,hp1⟩:∃p,p=addF bs k a h (ns++[nd],os1):=⟨_,rfl⟩
  rw[← hp1]at S10 e1 o1 q1
  obtain⟨ns1,os2⟩:=p1
  simp only at S10 e1 o1 q1
  have hl2:ns1.length=ns.length+1+t1.length:=by rw[e1]; simp; omega
  simp only[sA,sB,seval,wd]
  refine (ih h b ns1 os2 H10 vN1 d1 w1 (dep+1) S10 om h2 om om om om om om).mono ?_
  rintro _ H11 ⟨rfl,F11,vN2,d2,w2,S11,hw2,hw2'⟩
  obtain⟨t2,e2,l2,l2',o2,q2⟩:=add_more bs k h b ns1 os2 om (by rw[S10.ol]; exact h2) om
  obtain⟨p2,hp2⟩:∃p,p=addF bs k h b (ns1,os2):=⟨_,rfl⟩
  rw[← hp2]at S11 e2 o2 q2
  obtain⟨ns2,os3⟩:=p2
  simp only at S11 e2 o2 q2
  have hg:ns2[ns.length]?=some nd:=by rw[e2,e1]; simp
  have hlt:ns.length<ns2.length:=(List.getElem?_eq_some_iff.1 hg).1
  have efin:addF bs (k+1) a b (ns,os)=(ns2.set ns.length { nd with first:=ns.length+1,second:=ns1.length },os3):=by
   rw[add_fork hleaf,← hnd,← ho,← hh]
   simp only[← hp1,← hp2]
  obtain⟨bb,lim,Ha,Hb,ix,ma,mb,Ab,na,nb,hlo,ka,kb'⟩:=S11.nd.put2 hlt (o:=8) (p:=9) om om (x:=.int .i64 ((ns.length+1:Nat):Int)) (y:=.int .i64 (ns1.length:Int)) rfl rfl
  have es:((ns2.flatMap Nod.cells).set (ns.length*10+8) (.int .i64 ((ns.length+1:Nat):Int))).set (ns.length*10+9) (.int .i64 (ns1.length:Int))=(ns2.set ns.length { nd with first:=ns.length+1,second:=ns1.length }).flatMap Nod.cells:=by
   rw[flat_set N_len hg om (x':={ nd with first:=((ns.length+1:Nat):Int) }) rfl,
    flat_set N_len (l:=ns2.set ns.length { nd with first:=((ns.length+1:Nat):Int) }) (i:=ns.length) (x:={ nd with first:=((ns.length+1:Nat):Int) }) (by rw[List.getElem?_set_self hlt]) om (x':={ nd with first:=ns.length+1,second:=ns1.length }) rfl,List.set_set]
  rw[es]at Ab
  have l11:=S11.ln
  obtain⟨_,u4,_,_,_⟩:=ldTr S11.rt
  have S12:MkS bs lo kb tb bo n vp vt vb vX most Hb vN2 d2 w2 (ns2.set ns.length { nd with first:=ns.length+1,second:=ns1.length }) os3:=
   ⟨om,S11.rt.same (kb' _ om),S11.rk.same (kb' _ om),S11.ro.same (kb' _ om),by rw[List.length_set]; exact Ab,S11.X.mono fun q hq=>⟨hq,kb' q om⟩,S11.ol,S11.om⟩
  simp only[sA,sB,seval,nil_cell,fldA,u4,ix,hl1,ma,mb]
  rw[efin]
  exact⟨by first | rfl | trivial,(F9.trans (F10.trans F11)).trans ⟨om,fun c h1 _ _ _=>kb' c om⟩,_,_,_,S12,hw2,om⟩
open Go.Abs Go.Abs.S
theorem SlK.src{P:Nat→Prop}{H:AHeap}{m k:Nat}{v:AVal}{C:List AVal}(h:SlK P H m v k C):aSrc m H v=some (k,C):=by
 rcases h with⟨h,rfl,rfl⟩ | ⟨a,r,rfl,_,h3⟩
 ·rcases isE_cases h with rfl | ⟨a,rfl⟩ <;> rfl
 ·simp only[aSrc]; rw[Nat.mul_comm k m,h3]
theorem rd_leng{H:AHeap}{a:Ad}{n:Nat}{xs:List AVal}(h:rdCells H a n=some xs):xs.length=n:=by
 obtain⟨l,low,ro,mk,h1,h2,h3,h4,rfl⟩:=rd_spec h
 simp; omega
theorem SlK.clen{P:Nat→Prop}{H:AHeap}{m k:Nat}{v:AVal}{C:List AVal}(h:SlK P H m v k C):C.length=k*m:=by
 rcases h with⟨h,rfl,rfl⟩ | ⟨a,r,rfl,_,h3⟩
 ·simp
 ·rw[rd_leng h3,Nat.mul_comm]
theorem SlK.eqn{P:Nat→Prop}{H:AHeap}{m k:Nat}{v:AVal}{C:List AVal}(h:SlK P H m v k C):∃t,aPf (.eqv false .slice) [v,.slice none 0 (.known 0)]=some (.bool t)∧(t=true→k=0∧C=[]):=by
 rcases h with⟨h,rfl,rfl⟩ | ⟨a,r,rfl,_,h3⟩
 ·rcases isE_cases h with rfl | ⟨a,rfl⟩
  ·exact⟨true,rfl,fun _=>⟨rfl,rfl⟩⟩
  ·exact⟨false,rfl,fun h=>by cases h⟩
 ·exact⟨false,rfl,fun h=>by cases h⟩
theorem SlK.ofLin{P:Nat→Prop}{H:AHeap}{m k:Nat}{v:AVal}{C:List AVal}(h:LinM m H v C k)(hb:Blk v P):SlK P H m v k C:=by
 rcases h with⟨rfl,rfl,rfl⟩ | ⟨b,L,low,r,rfl,h2,h3,h4,h5,h6,h7,h8⟩
 ·exact .nil P H m
 ·refine .inr ⟨_,_,rfl,hb _ _ _ rfl,?_⟩
  have hR:Row H b L:=⟨low,h3,h4⟩
  have:=rd_row hR rfl (i:=0) (k:=m*k) (by rw[Nat.mul_comm]; omega)
  rw[this,List.drop_zero,Nat.mul_comm,h5]
theorem clv_spec{k:Nat}{C:List AVal}{v:AVal}{H:AHeap}(h:SlK (·<H.next) H 3 v k C)(ho:C.all AVal.one=true)(hk:2*k*24≤281474976710656) :
  ACalls Tryz.prog noNat 39 [v] H fun r H'=>SlK (fun b=>H.next≤b∧b<H'.next) H' 3 r k C∧Ext H.next H H':=by
 refine acalls_ofN rfl za39 rfl ?_
 obtain⟨t,ht,he⟩:=h.eqn
 cases t with
 | true=>
  obtain⟨rfl,rfl⟩:=he rfl
  simp only[c39,sA,sB,seval,ht]
  exact⟨.nil _ _ _,.refl _ _⟩
 | false=>
  have hbl:aBuildSl 0 [.int .i64 0,.int .i64 0,.int .i64 0] H []=some (.slice (some ⟨H.next,0,0⟩) 0 (.known 0),H.push (.cells [] 0 false)):=rfl
  have L0:LinM 3 (H.push (.cells [] 0 false)) (.slice (some ⟨H.next,0,0⟩) 0 (.known 0)) [] 0:=LinM.built (m:=3) (k:=0) H (xs:=[]) rfl
  have e1:Ext H.next H (H.push (.cells [] 0 false)):=(Ext.refl _ _).push rL _
  have hs:aSrc 3 (H.push (.cells [] 0 false)) v=some (k,C):=(h.mono (Q:=(·<H.next)) fun b hb=>⟨hb,e1.old b hb⟩).src
  obtain⟨s',H',m',L',n',b',k'⟩:=L0.many hs h.clen ho om (bytes:=24) (by rw[Nat.zero_add]; exact hk) om
  simp only[c39,sA,sB,seval,ht,hbl,m']
  rw[List.nil_append,Nat.zero_add]at L'
  have bl:Blk s' (fun b=>H.next≤b∧b<H'.next):=fun a n r e=>by
   have q1:=b' (fun b=>H.next≤b) (blk_some rL) a n r e
   have q2:=L'.blk a n r e
   have np:(H.push (.cells [] 0 false)).next=H.next+1:=rfl
   rcases q1 with q | q
   ·exact⟨q,q2⟩
   ·exact⟨om,q2⟩
  exact⟨SlK.ofLin L' bl,⟨by have:(H.push (.cells [] 0 false)).next=H.next+1:=rfl; omega,fun c hc=>by rw[k' c (by have:(H.push (.cells [] 0 false)).next=H.next+1:=rfl; omega) (blk_some (by show c≠H.next; omega)),e1.old c hc]⟩⟩
theorem clm_spec{k:Nat}{C:List AVal}{v:AVal}{H:AHeap}(h:SlK (·<H.next) H 6 v k C)(ho:C.all AVal.one=true)(hk:2*k*64≤281474976710656) :
  ACalls Tryz.prog noNat 36 [v] H fun r H'=>SlK (fun b=>H.next≤b∧b<H'.next) H' 6 r k C∧Ext H.next H H':=by
 refine acalls_ofN rfl za36 rfl ?_
 obtain⟨t,ht,he⟩:=h.eqn
 cases t with
 | true=>
  obtain⟨rfl,rfl⟩:=he rfl
  simp only[c36,sA,sB,seval,ht]
  exact⟨.nil _ _ _,.refl _ _⟩
 | false=>
  have hbl:aBuildSl 0 [.int .u8 0,.int .i64 0,.int .i64 0,.int .i64 0,.str [],.str []] H []=some (.slice (some ⟨H.next,0,0⟩) 0 (.known 0),H.push (.cells [] 0 false)):=rfl
  have L0:LinM 6 (H.push (.cells [] 0 false)) (.slice (some ⟨H.next,0,0⟩) 0 (.known 0)) [] 0:=LinM.built (m:=6) (k:=0) H (xs:=[]) rfl
  have e1:Ext H.next H (H.push (.cells [] 0 false)):=(Ext.refl _ _).push rL _
  have hs:aSrc 6 (H.push (.cells [] 0 false)) v=some (k,C):=(h.mono (Q:=(·<H.next)) fun b hb=>⟨hb,e1.old b hb⟩).src
  obtain⟨s',H',m',L',n',b',k'⟩:=L0.many hs h.clen ho om (bytes:=64) (by rw[Nat.zero_add]; exact hk) om
  simp only[c36,sA,sB,seval,ht,hbl,m']
  rw[List.nil_append,Nat.zero_add]at L'
  have bl:Blk s' (fun b=>H.next≤b∧b<H'.next):=fun a n r e=>by
   have q1:=b' (fun b=>H.next≤b) (blk_some rL) a n r e
   have q2:=L'.blk a n r e
   have np:(H.push (.cells [] 0 false)).next=H.next+1:=rfl
   rcases q1 with q | q
   ·exact⟨q,q2⟩
   ·exact⟨om,q2⟩
  exact⟨SlK.ofLin L' bl,⟨by have:(H.push (.cells [] 0 false)).next=H.next+1:=rfl; omega,fun c hc=>by rw[k' c (by have:(H.push (.cells [] 0 false)).next=H.next+1:=rfl; omega) (blk_some (by show c≠H.next; omega)),e1.old c hc]⟩⟩
theorem clr_spec{k:Nat}{C:List AVal}{v:AVal}{H:AHeap}(h:SlK (·<H.next) H 5 v k C)(ho:C.all AVal.one=true)(hk:2*k*40≤281474976710656) :
  ACalls Tryz.prog noNat 37 [v] H fun r H'=>SlK (fun b=>H.next≤b∧b<H'.next) H' 5 r k C∧Ext H.next H H':=by
 refine acalls_ofN rfl za37 rfl ?_
 obtain⟨t,ht,he⟩:=h.eqn
 cases t with
 | true=>
  obtain⟨rfl,rfl⟩:=he rfl
  simp only[c37,sA,sB,seval,ht]
  exact⟨.nil _ _ _,.refl _ _⟩
 | false=>
  have hbl:aBuildSl 0 [.int .i64 0,.int .i64 0,.int .i64 0,.int .i64 0,.int .i64 0] H []=some (.slice (some ⟨H.next,0,0⟩) 0 (.known 0),H.push (.cells [] 0 false)):=rfl
  have L0:LinM 5 (H.push (.cells [] 0 false)) (.slice (some ⟨H.next,0,0⟩) 0 (.known 0)) [] 0:=LinM.built (m:=5) (k:=0) H (xs:=[]) rfl
  have e1:Ext H.next H (H.push (.cells [] 0 false)):=(Ext.refl _ _).push rL _
  have hs:aSrc 5 (H.push (.cells [] 0 false)) v=some (k,C):=(h.mono (Q:=(·<H.next)) fun b hb=>⟨hb,e1.old b hb⟩).src
  obtain⟨s',H',m',L',n',b',k'⟩:=L0.many hs h.clen ho om (bytes:=40) (by rw[Nat.zero_add]; exact hk) om
  simp only[c37,sA,sB,seval,ht,hbl,m']
  rw[List.nil_append,Nat.zero_add]at L'
  have bl:Blk s' (fun b=>H.next≤b∧b<H'.next):=fun a n r e=>by
   have q1:=b' (fun b=>H.next≤b) (blk_some rL) a n r e
   have q2:=L'.blk a n r e
   have np:(H.push (.cells [] 0 false)).next=H.next+1:=rfl
   rcases q1 with q | q
   ·exact⟨q,q2⟩
   ·exact⟨om,q2⟩
  exact⟨SlK.ofLin L' bl,⟨by have:(H.push (.cells [] 0 false)).next=H.next+1:=rfl; omega,fun c hc=>by rw[k' c (by have:(H.push (.cells [] 0 false)).next=H.next+1:=rfl; omega) (blk_some (by show c≠H.next; omega)),e1.old c hc]⟩⟩
theorem clu_spec{k:Nat}{C:List AVal}{v:AVal}{H:AHeap}(h:SlK (·<H.next) H 5 v k C)(ho:C.all AVal.one=true)(hk:2*k*48≤281474976710656) :
  ACalls Tryz.prog noNat 38 [v] H fun r H'=>SlK (fun b=>H.next≤b∧b<H'.next) H' 5 r k C∧Ext H.next H H':=by
 refine acalls_ofN rfl za38 rfl ?_
 obtain⟨t,ht,he⟩:=h.eqn
 cases t with
 | true=>
  obtain⟨rfl,rfl⟩:=he rfl
  simp only[c38,sA,sB,seval,ht]
  exact⟨.nil _ _ _,.refl _ _⟩
 | false=>
  have hbl:aBuildSl 0 [.str [],.int .i64 0,.int .i64 0,.int .i64 0,.int .i64 0] H []=some (.slice (some ⟨H.next,0,0⟩) 0 (.known 0),H.push (.cells [] 0 false)):=rfl
  have L0:LinM 5 (H.push (.cells [] 0 false)) (.slice (some ⟨H.next,0,0⟩) 0 (.known 0)) [] 0:=LinM.built (m:=5) (k:=0) H (xs:=[]) rfl
  have e1:Ext H.next H (H.push (.cells [] 0 false)):=(Ext.refl _ _).push rL _
  have hs:aSrc 5 (H.push (.cells [] 0 false)) v=some (k,C):=(h.mono (Q:=(·<H.next)) fun b hb=>⟨hb,e1.old b hb⟩).src
  obtain⟨s',H',m',L',n',b',k'⟩:=L0.many hs h.clen ho om (bytes:=48) (by rw[Nat.zero_add]; exact hk) om
  simp only[c38,sA,sB,seval,ht,hbl,m']
  rw[List.nil_append,Nat.zero_add]at L'
  have bl:Blk s' (fun b=>H.next≤b∧b<H'.next):=fun a n r e=>by
   have q1:=b' (fun b=>H.next≤b) (blk_some rL) a n r e
   have q2:=L'.blk a n r e
   have np:(H.push (.cells [] 0 false)).next=H.next+1:=rfl
   rcases q1 with q | q
   ·exact⟨q,q2⟩
   ·exact⟨om,q2⟩
  exact⟨SlK.ofLin L' bl,⟨by have:(H.push (.cells [] 0 false)).next=H.next+1:=rfl; omega,fun c hc=>by rw[k' c (by have:(H.push (.cells [] 0 false)).next=H.next+1:=rfl; omega) (blk_some (by show c≠H.next; omega)),e1.old c hc]⟩⟩
theorem clt_spec{k:Nat}{C:List AVal}{v:AVal}{H:AHeap}(h:SlK (·<H.next) H 3 v k C)(ho:C.all AVal.one=true)(hk:2*k*24≤281474976710656) :
  ACalls Tryz.prog noNat 40 [v] H fun r H'=>SlK (fun b=>H.next≤b∧b<H'.next) H' 3 r k C∧Ext H.next H H':=by
 refine acalls_ofN rfl za40 rfl ?_
 obtain⟨t,ht,he⟩:=h.eqn
 cases t with
 | true=>
  obtain⟨rfl,rfl⟩:=he rfl
  simp only[c40,sA,sB,seval,ht]
  exact⟨.nil _ _ _,.refl _ _⟩
 | false=>
  have hbl:aBuildSl 0 [.int .i64 0,.int .i64 0,.int .i64 0] H []=some (.slice (some ⟨H.next,0,0⟩) 0 (.known 0),H.push (.cells [] 0 false)):=rfl
  have L0:LinM 3 (H.push (.cells [] 0 false)) (.slice (some ⟨H.next,0,0⟩) 0 (.known 0)) [] 0:=LinM.built (m:=3) (k:=0) H (xs:=[]) rfl
  have e1:Ext H.next H (H.push (.cells [] 0 false)):=(Ext.refl _ _).push rL _
  have hs:aSrc 3 (H.push (.cells [] 0 false)) v=some (k,C):=(h.mono (Q:=(·<H.next)) fun b hb=>⟨hb,e1.old b hb⟩).src
  obtain⟨s',H',m',L',n',b',k'⟩:=L0.many hs h.clen ho om (bytes:=24) (by rw[Nat.zero_add]; exact hk) om
  simp only[c40,sA,sB,seval,ht,hbl,m']
  rw[List.nil_append,Nat.zero_add]at L'
  have bl:Blk s' (fun b=>H.next≤b∧b<H'.next):=fun a n r e=>by
   have q1:=b' (fun b=>H.next≤b) (blk_some rL) a n r e
   have q2:=L'.blk a n r e
   have np:(H.push (.cells [] 0 false)).next=H.next+1:=rfl
   rcases q1 with q | q
   ·exact⟨q,q2⟩
   ·exact⟨om,q2⟩
  exact⟨SlK.ofLin L' bl,⟨by have:(H.push (.cells [] 0 false)).next=H.next+1:=rfl; omega,fun c hc=>by rw[k' c (by have:(H.push (.cells [] 0 false)).next=H.next+1:=rfl; omega) (blk_some (by show c≠H.next; omega)),e1.old c hc]⟩⟩
theorem clb_spec{k:Nat}{C:List AVal}{v:AVal}{H:AHeap}(h:SlK (·<H.next) H 4 v k C)(ho:C.all AVal.one=true)(hk:2*k*32≤281474976710656) :
  ACalls Tryz.prog noNat 41 [v] H fun r H'=>SlK (fun b=>H.next≤b∧b<H'.next) H' 4 r k C∧Ext H.next H H':=by
 refine acalls_ofN rfl za41 rfl ?_
 obtain⟨t,ht,he⟩:=h.eqn
 cases t with
 | true=>
  obtain⟨rfl,rfl⟩:=he rfl
  simp only[c41,sA,sB,seval,ht]
  exact⟨.nil _ _ _,.refl _ _⟩
 | false=>
  have hbl:aBuildSl 0 [.int .i64 0,.int .i64 0,.int .i64 0,.int .i64 0] H []=some (.slice (some ⟨H.next,0,0⟩) 0 (.known 0),H.push (.cells [] 0 false)):=rfl
  have L0:LinM 4 (H.push (.cells [] 0 false)) (.slice (some ⟨H.next,0,0⟩) 0 (.known 0)) [] 0:=LinM.built (m:=4) (k:=0) H (xs:=[]) rfl
  have e1:Ext H.next H (H.push (.cells [] 0 false)):=(Ext.refl _ _).push rL _
  have hs:aSrc 4 (H.push (.cells [] 0 false)) v=some (k,C):=(h.mono (Q:=(·<H.next)) fun b hb=>⟨hb,e1.old b hb⟩).src
  obtain⟨s',H',m',L',n',b',k'⟩:=L0.many hs h.clen ho om (bytes:=32) (by rw[Nat.zero_add]; exact hk) om
  simp only[c41,sA,sB,seval,ht,hbl,m']
  rw[List.nil_append,Nat.zero_add]at L'
  have bl:Blk s' (fun b=>H.next≤b∧b<H'.next):=fun a n r e=>by
   have q1:=b' (fun b=>H.next≤b) (blk_some rL) a n r e
   have q2:=L'.blk a n r e
   have np:(H.push (.cells [] 0 false)).next=H.next+1:=rfl
   rcases q1 with q | q
   ·exact⟨q,q2⟩
   ·exact⟨om,q2⟩
  exact⟨SlK.ofLin L' bl,⟨by have:(H.push (.cells [] 0 false)).next=H.next+1:=rfl; omega,fun c hc=>by rw[k' c (by have:(H.push (.cells [] 0 false)).next=H.next+1:=rfl; omega) (blk_some (by show c≠H.next; omega)),e1.old c hc]⟩⟩
theorem cln_spec{k:Nat}{C:List AVal}{v:AVal}{H:AHeap}(h:SlK (·<H.next) H 1 v k C)(ho:C.all AVal.one=true)(hk:2*k*8≤281474976710656) :
  ACalls Tryz.prog noNat 43 [v] H fun r H'=>SlK (fun b=>H.next≤b∧b<H'.next) H' 1 r k C∧Ext H.next H H':=by
 refine acalls_ofN rfl za43 rfl ?_
 obtain⟨t,ht,he⟩:=h.eqn
 cases t with
 | true=>
  obtain⟨rfl,rfl⟩:=he rfl
  simp only[c43,sA,sB,seval,ht]
  exact⟨.nil _ _ _,.refl _ _⟩
 | false=>
  have hbl:aBuildSl 0 [.int .i64 0] H []=some (.slice (some ⟨H.next,0,0⟩) 0 (.known 0),H.push (.cells [] 0 false)):=rfl
  have L0:LinM 1 (H.push (.cells [] 0 false)) (.slice (some ⟨H.next,0,0⟩) 0 (.known 0)) [] 0:=LinM.built (m:=1) (k:=0) H (xs:=[]) rfl
  have e1:Ext H.next H (H.push (.cells [] 0 false)):=(Ext.refl _ _).push rL _
  have hs:aSrc 1 (H.push (.cells [] 0 false)) v=some (k,C):=(h.mono (Q:=(·<H.next)) fun b hb=>⟨hb,e1.old b hb⟩).src
  obtain⟨s',H',m',L',n',b',k'⟩:=L0.many hs h.clen ho om (bytes:=8) (by rw[Nat.zero_add]; exact hk) om
  simp only[c43,sA,sB,seval,ht,hbl,m']
  rw[List.nil_append,Nat.zero_add]at L'
  have bl:Blk s' (fun b=>H.next≤b∧b<H'.next):=fun a n r e=>by
   have q1:=b' (fun b=>H.next≤b) (blk_some rL) a n r e
   have q2:=L'.blk a n r e
   have np:(H.push (.cells [] 0 false)).next=H.next+1:=rfl
   rcases q1 with q | q
   ·exact⟨q,q2⟩
   ·exact⟨om,q2⟩
  exact⟨SlK.ofLin L' bl,⟨by have:(H.push (.cells [] 0 false)).next=H.next+1:=rfl; omega,fun c hc=>by rw[k' c (by have:(H.push (.cells [] 0 false)).next=H.next+1:=rfl; omega) (blk_some (by show c≠H.next; omega)),e1.old c hc]⟩⟩
theorem cli_spec{k:Nat}{C:List AVal}{v:AVal}{H:AHeap}(h:SlK (·<H.next) H 4 v k C)(ho:C.all AVal.one=true)(hk:2*k*32≤281474976710656) :
  ACalls Tryz.prog noNat 44 [v] H fun r H'=>SlK (fun b=>H.next≤b∧b<H'.next) H' 4 r k C∧Ext H.next H H':=by
 refine acalls_ofN rfl za44 rfl ?_
 obtain⟨t,ht,he⟩:=h.eqn
 cases t with
 | true=>
  obtain⟨rfl,rfl⟩:=he rfl
  simp only[c44,sA,sB,seval,ht]
  exact⟨.nil _ _ _,.refl _ _⟩
 | false=>
  have hbl:aBuildSl 0 [.int .u8 0,.int .i64 0,.int .i64 0,.int .i64 0] H []=some (.slice (some ⟨H.next,0,0⟩) 0 (.known 0),H.push (.cells [] 0 false)):=rfl
  have L0:LinM 4 (H.push (.cells [] 0 false)) (.slice (some ⟨H.next,0,0⟩) 0 (.known 0)) [] 0:=LinM.built (m:=4) (k:=0) H (xs:=[]) rfl
  have e1:Ext H.next H (H.push (.cells [] 0 false)):=(Ext.refl _ _).push rL _
  have hs:aSrc 4 (H.push (.cells [] 0 false)) v=some (k,C):=(h.mono (Q:=(·<H.next)) fun b hb=>⟨hb,e1.old b hb⟩).src
  obtain⟨s',H',m',L',n',b',k'⟩:=L0.many hs h.clen ho om (bytes:=32) (by rw[Nat.zero_add]; exact hk) om
  simp only[c44,sA,sB,seval,ht,hbl,m']
  rw[List.nil_append,Nat.zero_add]at L'
  have bl:Blk s' (fun b=>H.next≤b∧b<H'.next):=fun a n r e=>by
   have q1:=b' (fun b=>H.next≤b) (blk_some rL) a n r e
   have q2:=L'.blk a n r e
   have np:(H.push (.cells [] 0 false)).next=H.next+1:=rfl
   rcases q1 with q | q
   ·exact⟨q,q2⟩
   ·exact⟨om,q2⟩
  exact⟨SlK.ofLin L' bl,⟨by have:(H.push (.cells [] 0 false)).next=H.next+1:=rfl; omega,fun c hc=>by rw[k' c (by have:(H.push (.cells [] 0 false)).next=H.next+1:=rfl; omega) (blk_some (by show c≠H.next; omega)),e1.old c hc]⟩⟩
theorem clp_spec{k:Nat}{C:List AVal}{v:AVal}{H:AHeap}(h:SlK (·<H.next) H 1 v k C)(ho:C.all AVal.one=true)(hk:2*k*1≤281474976710656) :
  ACalls Tryz.prog noNat 45 [v] H fun r H'=>SlK (fun b=>H.next≤b∧b<H'.next) H' 1 r k C∧Ext H.next H H':=by
 refine acalls_ofN rfl za45 rfl ?_
 obtain⟨t,ht,he⟩:=h.eqn
 cases t with
 | true=>
  obtain⟨rfl,rfl⟩:=he rfl
  simp only[c45,sA,sB,seval,ht]
  exact⟨.nil _ _ _,.refl _ _⟩
 | false=>
  have hbl:aBuildSl 0 [.int .u8 0] H []=some (.slice (some ⟨H.next,0,0⟩) 0 (.known 0),H.push (.cells [] 0 false)):=rfl
  have L0:LinM 1 (H.push (.cells [] 0 false)) (.slice (some ⟨H.next,0,0⟩) 0 (.known 0)) [] 0:=LinM.built (m:=1) (k:=0) H (xs:=[]) rfl
  have e1:Ext H.next H (H.push (.cells [] 0 false)):=(Ext.refl _ _).push rL _
  have hs:aSrc 1 (H.push (.cells [] 0 false)) v=some (k,C):=(h.mono (Q:=(·<H.next)) fun b hb=>⟨hb,e1.old b hb⟩).src
  obtain⟨s',H',m',L',n',b',k'⟩:=L0.many hs h.clen ho om (bytes:=1) (by rw[Nat.zero_add]; exact hk) om
  simp only[c45,sA,sB,seval,ht,hbl,m']
  rw[List.nil_append,Nat.zero_add]at L'
  have bl:Blk s' (fun b=>H.next≤b∧b<H'.next):=fun a n r e=>by
   have q1:=b' (fun b=>H.next≤b) (blk_some rL) a n r e
   have q2:=L'.blk a n r e
   have np:(H.push (.cells [] 0 false)).next=H.next+1:=rfl
   rcases q1 with q | q
   ·exact⟨q,q2⟩
   ·exact⟨om,q2⟩
  exact⟨SlK.ofLin L' bl,⟨by have:(H.push (.cells [] 0 false)).next=H.next+1:=rfl; omega,fun c hc=>by rw[k' c (by have:(H.push (.cells [] 0 false)).next=H.next+1:=rfl; omega) (blk_some (by show c≠H.next; omega)),e1.old c hc]⟩⟩
open Go.Abs Go.Abs.S
theorem ldHt{H:AHeap}{b:Nat}{x:Hit}(r:Row H b (h4 x.t x.i x.u x.v)):oLoad false 1 H (cellR b 4 0)=some (.int .i64 x.t)∧oLoad false 1 H (cellR b 4 1)=some (.int .i64 x.i)∧oLoad true 4 H (cellR b 4 0)=some (.agg x.cells):=
 ⟨row_load r rfl rfl,row_load r rfl rfl,row_loadN r rfl⟩
theorem better_spec{h best:Hit}{H:AHeap}:ACalls Tryz.prog noNat 91 [.agg h.cells,.agg best.cells] H fun r H'=>r=.bool (better h best)∧Ext H.next H H':=by
 obtain⟨H1,m1,r1,n1,k1⟩:=row_newL H h.cells (n:=4) rfl
 obtain⟨H2,m2,r2,n2,k2⟩:=row_newL H1 best.cells (n:=4) rfl
 have E2:Ext H.next H H2:=⟨om,fun c hc=>by rw[k2 c om,k1 c om]⟩
 obtain⟨a0,a1,_⟩:=ldHt (x:=h) (r1.same (k2 _ om))
 obtain⟨b0,b1,_⟩:=ldHt (x:=best) r2
 refine acalls_ofN rfl za91 rfl ?_
 unfold better
 by_cases c1:best.i<0
 ·simp only[c91,sA,sB,seval,cells_agg,m1,m2,fldA,b1,c1]
  exact⟨by simp,E2⟩
 by_cases c2:h.t<best.t
 ·simp only[c91,sA,sB,seval,cells_agg,m1,m2,fld0,fldA,b1,a0,b0,c1,c2]
  exact⟨by simp,E2⟩
 by_cases c3:h.t=best.t
 ·by_cases c4:h.i<best.i
  ·simp only[c91,sA,sB,seval,cells_agg,m1,m2,fld0,fldA,b1,a0,b0,a1,eq_false c1,eq_false c2,eq_true c3,eq_true c4]
   exact⟨by simp,E2⟩
  ·simp only[c91,sA,sB,seval,cells_agg,m1,m2,fld0,fldA,b1,a0,b0,a1,eq_false c1,eq_false c2,eq_true c3,eq_false c4]
   exact⟨by simp,E2⟩
 ·simp only[c91,sA,sB,seval,cells_agg,m1,m2,fld0,fldA,b1,a0,b0,eq_false c1,eq_false c2,eq_false c3]
  exact⟨by simp,E2⟩
open Go.Abs Go.Abs.S
def vcL(v:V):List AVal:=[.int .i64 v.x,.int .i64 v.y,.int .i64 v.z]
theorem row_ld(n i:Nat){H:AHeap}{b:Nat}{l:List AVal}(h:Row H b l)(hn:l.length=n){x:AVal}(hi:l[i]?=some x):oLoad false 1 H (cellR b n i)=some x:=row_load h hn hi
theorem row_ldK(n i k:Nat){H:AHeap}{b:Nat}{l:List AVal}(h:Row H b l)(hn:l.length=n){xs:List AVal}(hik:i+k≤n)(e:(l.drop i).take k=xs):oLoad true k H (cellR b n i)=some (.agg xs):=by subst e; exact row_loadK h hn hik
theorem _root_.Go.Abs.S.Row.up{n:Nat}{H H':AHeap}{b:Nat}{l:List AVal}(h:Row H b l)(e:Ext n H H')(hb:b<n):Row H' b l:=h.same (e.old b hb)
theorem ext_new{H H':AHeap}(hn:H'.next=H.next+1)(k:∀c,c≠H.next→H'.get c=H.get c):Ext H.next H H':=⟨om,fun b hb=>k b om⟩
theorem in1_spec{H:AHeap}{b1 b2:Nat}{x lo hi:Int}(r1:Row H b1 [.int .i64 lo])(r2:Row H b2 [.int .i64 hi]) :
  ACalls Tryz.prog noNat 107 [.int .i64 x,cellR b1 1 0,cellR b2 1 0] H fun v H'=>v=.bool (inI x lo hi)∧H=H':=by
 refine acalls_ofN rfl za107 rfl ?_
 have l1:=row_ld 1 0 r1 rfl rfl
 have l2:=row_ld 1 0 r2 rfl rfl
 by_cases c1:lo≤x
 ·by_cases c2:x≤hi
  ·simp only[c107,sA,sB,seval,l1,l2,c1,c2]; exact⟨by simp[inI,c1,c2],tt⟩
  ·simp only[c107,sA,sB,seval,l1,l2,c1,c2]; exact⟨by simp[inI,c2],tt⟩
 ·simp only[c107,sA,sB,seval,l1,l2,c1]; exact⟨by simp[inI,c1],tt⟩
theorem within_spec{H:AHeap}{v:V}{lo hi:Int}:ACalls Tryz.prog noNat 72 [.agg (vcL v),.int .i64 lo,.int .i64 hi] H fun r H'=>r=.bool (inV v lo hi)∧Ext H.next H H':=by
 refine acalls_ofN rfl za72 rfl ?_
 obtain⟨H1,m1,r1,n1,k1⟩:=row_newL H (vcL v) (n:=3) rfl
 obtain⟨H2,m2,r2,n2,k2⟩:=row_newL H1 [.int .i64 lo] (n:=1) rfl
 obtain⟨H3,m3,r3,n3,k3⟩:=row_newL H2 [.int .i64 hi] (n:=1) rfl
 have q1:Row H3 H.next (vcL v):=(r1.same (k2 _ om)).same (k3 _ om)
 have q2:Row H3 H1.next [.int .i64 lo]:=r2.same (k3 _ om)
 have e:Ext H.next H H3:=⟨om,fun b hb=>by rw[k3 b om,k2 b om,k1 b om]⟩
 have l0:=row_ld 3 0 q1 rfl rfl
 have l1:=row_ld 3 1 q1 rfl rfl
 have l2:=row_ld 3 2 q1 rfl rfl
 have ca:(AVal.agg (vcL v)).cells=vcL v:=rfl
 have c1:(AVal.int .i64 lo).cells=[.int .i64 lo]:=rfl
 have c2:(AVal.int .i64 hi).cells=[.int .i64 hi]:=rfl
 simp only[c72,sA,sB,seval,ca,c1,c2,m1,m2,m3,fldA,l0]
 refine (in1_spec q2 r3).mono ?_
 rintro _ _ ⟨rfl,rfl⟩
 unfold inV
 cases h0:inI v.x lo hi with
 | false=>simp only[sA,sB,seval]; exact⟨rfl,e⟩
 | true=>
  simp only[sA,sB,seval,fldA,l1]
  refine (in1_spec q2 r3).mono ?_
  rintro _ _ ⟨rfl,rfl⟩
  cases h1:inI v.y lo hi with
  | false=>simp only[sA,sB,seval]; exact⟨rfl,e⟩
  | true=>
   simp only[sA,sB,seval,fldA,l2]
   refine (in1_spec q2 r3).mono ?_
   rintro _ _ ⟨rfl,rfl⟩
   simp only[sA,sB,seval]
   exact⟨rfl,e⟩
theorem far_spec{H:AHeap}{v:V}:ACalls Tryz.prog noNat 71 [.agg (vcL v)] H fun r H'=>r=.bool (farB v)∧Ext H.next H H':=by
 refine acalls_ofN rfl za71 rfl ?_
 obtain⟨H1,m1,r1,n1,k1⟩:=row_newL H (vcL v) (n:=3) rfl
 have ca:(AVal.agg (vcL v)).cells=vcL v:=rfl
 have l0:=row_ldK 3 0 3 r1 rfl (xs:=vcL v) om rfl
 simp only[c71,sA,sB,seval,ca,m1,l0]
 refine (within_spec (v:=v)).mono ?_
 rintro _ H2 ⟨rfl,e⟩
 simp only[sA,sB,seval]
 exact⟨rfl,(ext_new n1 k1).trans (e.less om)⟩
theorem nameC_iff{c:UInt8}:nameC c=true↔(((97≤c.toNat∧c.toNat≤122)∨(65≤c.toNat∧c.toNat≤90))∨((48≤c.toNat∧c.toNat≤57)∨(c.toNat=95∨(c.toNat=45∨c.toNat=46)))):=by
 simp only[nameC,Bool.or_eq_true,Bool.and_eq_true,decide_eq_true_eq]
theorem zname_spec{H:AHeap}{s:Bs}:ACalls Tryz.prog noNat 75 [.str s] H fun r H'=>r=.bool (nameB s)∧H=H':=by
 refine acalls_ofN rfl za75 rfl ?_
 by_cases c1:s.length<1
 ·have c1':(s.length:Int)<1:=om
  simp only[c75,sA,sB,seval,c1']
  exact⟨by simp only[nameB,decide_eq_false (show ¬1≤s.length by omega),Bool.false_and],tt⟩
 have c1':¬(s.length:Int)<1:=om
 by_cases c2:40<s.length
 ·have c2':(40:Int)<(s.length:Int):=om
  simp only[c75,sA,sB,seval,c1',c2']
  exact⟨by simp only[nameB,decide_eq_false (show ¬s.length≤40 by omega),Bool.false_and,Bool.and_false],tt⟩
 have c2':¬(40:Int)<(s.length:Int):=om
 have e0:nameB s=s.all nameC:=by simp only[nameB,decide_eq_true (show 1≤s.length by omega),decide_eq_true (show s.length≤40 by omega),Bool.true_and]
 simp only[c75,sA,sB,seval,c1',c2']
 refine aw_loop (fun m (T:Env) H'=>∃i:Nat,H=H'∧i≤s.length∧m=s.length-i∧(s.take i).all nameC=true∧T 0=.str s∧T 15=.int .i64 (s.length:Int)∧T 16=.int .i64 (i:Int)) s.length
  ⟨0,rfl,om,om,rfl,by simp only[sA,sB,seval],by simp only[sA,sB,seval],by simp only[sA,sB,seval]⟩ ?_
 rintro m T _ ⟨i,rfl,hi,rfl,ha,g0,g15,g16⟩
 by_cases hlt:i<s.length
 ·have hlt':(i:Int)<(s.length:Int):=om
  obtain⟨c,hc⟩:=isSome_of_lt hlt
  have w1:=wrap1 i om
  have hat:(s.take (i+1)).all nameC=nameC c:=by
   rw[List.take_add_one,hc,List.all_append,ha]; simp
  have hc255:=c.toNat_lt
  have hno:nameC c=false→s.all nameC=false:=by
   intro h
   have:=List.take_append_drop (i+1) s
   rw[← this,List.all_append,hat,h,Bool.false_and]
  have hR:(c.toNat<45)∨(c.toNat=45)∨(c.toNat=46)∨(c.toNat=47)∨(48≤c.toNat∧c.toNat≤57)∨(58≤c.toNat∧c.toNat≤64)∨(65≤c.toNat∧c.toNat≤90)∨(91≤c.toNat∧c.toNat≤94)∨(c.toNat=95)∨(c.toNat=96)∨(97≤c.toNat∧c.toNat≤122)∨(123≤c.toNat):=om
  rcases hR with h | h | h | h | h | h | h | h | h | h | h | h
  ·have f0:¬(97:Int)≤(c.toNat:Int):=om
   have f1:(c.toNat:Int)≤122:=om
   have f2:¬(65:Int)≤(c.toNat:Int):=om
   have f3:(c.toNat:Int)≤90:=om
   have f4:(c.toNat:Int)<48:=om
   have f5:¬(57:Int)<(c.toNat:Int):=om
   have f6:¬(c.toNat:Int)=95:=om
   have f7:¬(c.toNat:Int)=45:=om
   have f8:¬(c.toNat:Int)=46:=om
   simp only[sA,sB,seval,g0,g15,g16,hlt',str_idx hc,w1,f0,f1,f2,f3,f4,f5,f6,f7,f8]
   exact⟨by rw[e0,hno (Bool.eq_false_iff.2 fun h'=>by have:=nameC_iff.1 h'; omega)],tt⟩
  ·have f0:¬(97:Int)≤(c.toNat:Int):=om
   have f1:(c.toNat:Int)≤122:=om
   have f2:¬(65:Int)≤(c.toNat:Int):=om
   have f3:(c.toNat:Int)≤90:=om
   have f4:(c.toNat:Int)<48:=om
   have f5:¬(57:Int)<(c.toNat:Int):=om
   have f6:¬(c.toNat:Int)=95:=om
   have f7:(c.toNat:Int)=45:=om
   have f8:¬(c.toNat:Int)=46:=om
   simp only[sA,sB,seval,g0,g15,g16,hlt',str_idx hc,w1,f0,f1,f2,f3,f4,f5,f6,f7,f8]
   exact⟨_,om,i+1,tt,om,rfl,by rw[hat]; exact nameC_iff.2 om,tt,tt,tt⟩
  ·have f0:¬(97:Int)≤(c.toNat:Int):=om
   have f1:(c.toNat:Int)≤122:=om
   have f2:¬(65:Int)≤(c.toNat:Int):=om
   have f3:(c.toNat:Int)≤90:=om
   have f4:(c.toNat:Int)<48:=om
   have f5:¬(57:Int)<(c.toNat:Int):=om
   have f6:¬(c.toNat:Int)=95:=om
   have f7:¬(c.toNat:Int)=45:=om
   have f8:(c.toNat:Int)=46:=om
   simp only[sA,sB,seval,g0,g15,g16,hlt',str_idx hc,w1,f0,f1,f2,f3,f4,f5,f6,f7,f8]
   exact⟨_,om,i+1,tt,om,rfl,by rw[hat]; exact nameC_iff.2 om,tt,tt,tt⟩
  ·have f0:¬(97:Int)≤(c.toNat:Int):=om
   have f1:(c.toNat:Int)≤122:=om
   have f2:¬(65:Int)≤(c.toNat:Int):=om
   have f3:(c.toNat:Int)≤90:=om
   have f4:(c.toNat:Int)<48:=om
   have f5:¬(57:Int)<(c.toNat:Int):=om
   have f6:¬(c.toNat:Int)=95:=om
   have f7:¬(c.toNat:Int)=45:=om
   have f8:¬(c.toNat:Int)=46:=om
   simp only[sA,sB,seval,g0,g15,g16,hlt',str_idx hc,w1,f0,f1,f2,f3,f4,f5,f6,f7,f8]
   exact⟨by rw[e0,hno (Bool.eq_false_iff.2 fun h'=>by have:=nameC_iff.1 h'; omega)],tt⟩
  ·have f0:¬(97:Int)≤(c.toNat:Int):=om
   have f1:(c.toNat:Int)≤122:=om
   have f2:¬(65:Int)≤(c.toNat:Int):=om
   have f3:(c.toNat:Int)≤90:=om
   have f4:¬(c.toNat:Int)<48:=om
   have f5:¬(57:Int)<(c.toNat:Int):=om
   have f6:¬(c.toNat:Int)=95:=om
   have f7:¬(c.toNat:Int)=45:=om
   have f8:¬(c.toNat:Int)=46:=om
   simp only[sA,sB,seval,g0,g15,g16,hlt',str_idx hc,w1,f0,f1,f2,f3,f4,f5,f6,f7,f8]
   exact⟨_,om,i+1,tt,om,rfl,by rw[hat]; exact nameC_iff.2 om,tt,tt,tt⟩
  ·have f0:¬(97:Int)≤(c.toNat:Int):=om
   have f1:(c.toNat:Int)≤122:=om
   have f2:¬(65:Int)≤(c.toNat:Int):=om
   have f3:(c.toNat:Int)≤90:=om
   have f4:¬(c.toNat:Int)<48:=om
   have f5:(57:Int)<(c.toNat:Int):=om
   have f6:¬(c.toNat:Int)=95:=om
   have f7:¬(c.toNat:Int)=45:=om
   have f8:¬(c.toNat:Int)=46:=om
   simp only[sA,sB,seval,g0,g15,g16,hlt',str_idx hc,w1,f0,f1,f2,f3,f4,f5,f6,f7,f8]
   exact⟨by rw[e0,hno (Bool.eq_false_iff.2 fun h'=>by have:=nameC_iff.1 h'; omega)],tt⟩
  ·have f0:¬(97:Int)≤(c.toNat:Int):=om
   have f1:(c.toNat:Int)≤122:=om
   have f2:(65:Int)≤(c.toNat:Int):=om
   have f3:(c.toNat:Int)≤90:=om
   have f4:¬(c.toNat:Int)<48:=om
   have f5:(57:Int)<(c.toNat:Int):=om
   have f6:¬(c.toNat:Int)=95:=om
   have f7:¬(c.toNat:Int)=45:=om
   have f8:¬(c.toNat:Int)=46:=om
   simp only[sA,sB,seval,g0,g15,g16,hlt',str_idx hc,w1,f0,f1,f2,f3,f4,f5,f6,f7,f8]
   exact⟨_,om,i+1,tt,om,rfl,by rw[hat]; exact nameC_iff.2 om,tt,tt,tt⟩
  ·have f0:¬(97:Int)≤(c.toNat:Int):=om
   have f1:(c.toNat:Int)≤122:=om
   have f2:(65:Int)≤(c.toNat:Int):=om
   have f3:¬(c.toNat:Int)≤90:=om
   have f4:¬(c.toNat:Int)<48:=om
   have f5:(57:Int)<(c.toNat:Int):=om
   have f6:¬(c.toNat:Int)=95:=om
   have f7:¬(c.toNat:Int)=45:=om
   have f8:¬(c.toNat:Int)=46:=om
   simp only[sA,sB,seval,g0,g15,g16,hlt',str_idx hc,w1,f0,f1,f2,f3,f4,f5,f6,f7,f8]
   exact⟨by rw[e0,hno (Bool.eq_false_iff.2 fun h'=>by have:=nameC_iff.1 h'; omega)],tt⟩
  ·have f0:¬(97:Int)≤(c.toNat:Int):=om
   have f1:(c.toNat:Int)≤122:=om
   have f2:(65:Int)≤(c.toNat:Int):=om
   have f3:¬(c.toNat:Int)≤90:=om
   have f4:¬(c.toNat:Int)<48:=om
   have f5:(57:Int)<(c.toNat:Int):=om
   have f6:(c.toNat:Int)=95:=om
   have f7:¬(c.toNat:Int)=45:=om
   have f8:¬(c.toNat:Int)=46:=om
   simp only[sA,sB,seval,g0,g15,g16,hlt',str_idx hc,w1,f0,f1,f2,f3,f4,f5,f6,f7,f8]
   exact⟨_,om,i+1,tt,om,rfl,by rw[hat]; exact nameC_iff.2 om,tt,tt,tt⟩
  ·have f0:¬(97:Int)≤(c.toNat:Int):=om
   have f1:(c.toNat:Int)≤122:=om
   have f2:(65:Int)≤(c.toNat:Int):=om
   have f3:¬(c.toNat:Int)≤90:=om
   have f4:¬(c.toNat:Int)<48:=om
   have f5:(57:Int)<(c.toNat:Int):=om
   have f6:¬(c.toNat:Int)=95:=om
   have f7:¬(c.toNat:Int)=45:=om
   have f8:¬(c.toNat:Int)=46:=om
   simp only[sA,sB,seval,g0,g15,g16,hlt',str_idx hc,w1,f0,f1,f2,f3,f4,f5,f6,f7,f8]
   exact⟨by rw[e0,hno (Bool.eq_false_iff.2 fun h'=>by have:=nameC_iff.1 h'; omega)],tt⟩
  ·have f0:(97:Int)≤(c.toNat:Int):=om
   have f1:(c.toNat:Int)≤122:=om
   have f2:(65:Int)≤(c.toNat:Int):=om
   have f3:¬(c.toNat:Int)≤90:=om
   have f4:¬(c.toNat:Int)<48:=om
   have f5:(57:Int)<(c.toNat:Int):=om
   have f6:¬(c.toNat:Int)=95:=om
   have f7:¬(c.toNat:Int)=45:=om
   have f8:¬(c.toNat:Int)=46:=om
   simp only[sA,sB,seval,g0,g15,g16,hlt',str_idx hc,w1,f0,f1,f2,f3,f4,f5,f6,f7,f8]
   exact⟨_,om,i+1,tt,om,rfl,by rw[hat]; exact nameC_iff.2 om,tt,tt,tt⟩
  ·have f0:(97:Int)≤(c.toNat:Int):=om
   have f1:¬(c.toNat:Int)≤122:=om
   have f2:(65:Int)≤(c.toNat:Int):=om
   have f3:¬(c.toNat:Int)≤90:=om
   have f4:¬(c.toNat:Int)<48:=om
   have f5:(57:Int)<(c.toNat:Int):=om
   have f6:¬(c.toNat:Int)=95:=om
   have f7:¬(c.toNat:Int)=45:=om
   have f8:¬(c.toNat:Int)=46:=om
   simp only[sA,sB,seval,g0,g15,g16,hlt',str_idx hc,w1,f0,f1,f2,f3,f4,f5,f6,f7,f8]
   exact⟨by rw[e0,hno (Bool.eq_false_iff.2 fun h'=>by have:=nameC_iff.1 h'; omega)],tt⟩
 ·have hlt':¬(i:Int)<(s.length:Int):=om
  simp only[sA,sB,seval,g15,g16,hlt']
  rw[List.take_of_length_le om]at ha
  exact⟨by rw[e0,ha],tt⟩
open Go.Abs Go.Abs.S
theorem eqS_vc(v w:V):aPf (.eqS false [(0,.int),(1,.int),(2,.int)]) [.agg (vcL v),.agg (vcL w)]=some (.bool (decide (v.x=w.x)&&(decide (v.y=w.y)&&decide (v.z=w.z)))):=by
 have e:∀a b:Int,(a==b)=decide (a=b):=fun a b=>by by_cases h:a=b <;> simp[h]
 by_cases h1:v.x=w.x <;> by_cases h2:v.y=w.y <;> by_cases h3:v.z=w.z <;> simp[aPf,vcL,aEqSs,aEqFs,fEq,fEqI,fEqS,eqF_eq,e,h1,h2,h3]
theorem build_v0:aBuild [.int .i64 0,.int .i64 0,.int .i64 0] []=some (.agg (vcL ⟨0,0,0⟩)):=rfl
theorem matB_12{m:Mt}(h:m.k=1∨m.k=2):matB m=(decide (m.sh=[])&&(decide (m.tx=[])&&inV m.c 0 4294967296)):=by rw[matB,if_pos h]
theorem matB_3{m:Mt}(h:m.k=3):matB m=(decide (m.sh=[])&&(decide (m.tx=[])&&inV m.c 0 274877906944)):=by rw[matB,if_neg om,if_pos h]
theorem matB_4{m:Mt}(h:m.k=4):matB m=(noV m.c&&(nameB m.sh&&(decide (m.tx=[])||nameB m.tx))):=by rw[matB,if_neg om,if_neg om,if_pos h]
theorem matB_no{m:Mt}(h:¬(m.k=1∨m.k=2))(h3:m.k≠3)(h4:m.k≠4):matB m=false:=by rw[matB,if_neg h,if_neg h3,if_neg h4]
theorem zmat_spec{H:AHeap}{m:Mt}:ACalls Tryz.prog noNat 73 [.agg (mtL m)] H fun r H'=>r=.bool (matB m)∧Ext H.next H H':=by
 refine acalls_ofN rfl za73 rfl ?_
 obtain⟨H1,m1,r1,n1,k1⟩:=row_newL H (mtL m) (n:=6) rfl
 have e:=ext_new n1 k1
 have ca:(AVal.agg (mtL m)).cells=mtL m:=rfl
 have l0:=row_ld 6 0 r1 rfl rfl
 have l4:=row_ld 6 4 r1 rfl rfl
 have l5:=row_ld 6 5 r1 rfl rfl
 have lv:=row_ldK 6 1 3 r1 rfl (xs:=vcL m.c) om rfl
 have col:∀{lo hi:Int} {K:AVal→AHeap→Prop},(∀H',Ext H.next H H'→K (.bool (inV m.c lo hi)) H')→ACalls Tryz.prog noNat 72 [.agg (vcL m.c),.int .i64 lo,.int .i64 hi] H1 K:=fun h=>(within_spec (v:=m.c)).mono fun r H' ⟨a,b⟩=>by subst a; exact h H' (e.trans (b.less om))
 by_cases k12:m.k=1∨m.k=2
 ·rw[matB_12 k12]
  have hk:(((m.k:Nat):Int)=1∧¬((m.k:Nat):Int)=2)∨(¬((m.k:Nat):Int)=1∧((m.k:Nat):Int)=2):=om
  rcases hk with⟨a1,a2⟩ | ⟨a1,a2⟩
  ·by_cases c1:m.sh=[]
   ·by_cases c2:m.tx=[]
    ·simp only[c73,sA,sB,seval,ca,m1,fldA,l0,a1,l4,l5,lv,c1,c2]
     refine col fun H' e'=>?_
     simp only[sA,sB,seval]; exact⟨tt,e'⟩
    ·simp only[c73,sA,sB,seval,ca,m1,fldA,l0,a1,l4,l5,lv,c1,c2]
     exact⟨tt,e⟩
   ·simp only[c73,sA,sB,seval,ca,m1,fldA,l0,a1,l4,l5,lv,c1]
    exact⟨tt,e⟩
  ·by_cases c1:m.sh=[]
   ·by_cases c2:m.tx=[]
    ·simp only[c73,sA,sB,seval,ca,m1,fldA,l0,a1,a2,l4,l5,lv,c1,c2]
     refine col fun H' e'=>?_
     simp only[sA,sB,seval]; exact⟨tt,e'⟩
    ·simp only[c73,sA,sB,seval,ca,m1,fldA,l0,a1,a2,l4,l5,lv,c1,c2]
     exact⟨tt,e⟩
   ·simp only[c73,sA,sB,seval,ca,m1,fldA,l0,a1,a2,l4,l5,lv,c1]
    exact⟨tt,e⟩
 have a1:¬((m.k:Nat):Int)=1:=om
 have a2:¬((m.k:Nat):Int)=2:=om
 by_cases k3:m.k=3
 ·rw[matB_3 k3]
  have a3:((m.k:Nat):Int)=3:=om
  by_cases c1:m.sh=[]
  ·by_cases c2:m.tx=[]
   ·simp only[c73,sA,sB,seval,ca,m1,fldA,l0,a1,a2,a3,l4,l5,lv,c1,c2]
    refine col fun H' e'=>?_
    simp only[sA,sB,seval]; exact⟨tt,e'⟩
   ·simp only[c73,sA,sB,seval,ca,m1,fldA,l0,a1,a2,a3,l4,l5,lv,c1,c2]
    exact⟨tt,e⟩
  ·simp only[c73,sA,sB,seval,ca,m1,fldA,l0,a1,a2,a3,l4,l5,lv,c1]
   exact⟨tt,e⟩
 have a3:¬((m.k:Nat):Int)=3:=om
 by_cases k4:m.k=4
 ·rw[matB_4 k4]
  have a4:((m.k:Nat):Int)=4:=om
  have ev:aPf (.eqS false [(0,.int),(1,.int),(2,.int)]) [.agg (vcL m.c),.agg (vcL ⟨0,0,0⟩)]=some (.bool (noV m.c)):=eqS_vc _ _
  simp only[c73,sA,sB,seval,ca,m1,fldA,l0,a1,a2,a3,a4,lv,build_v0,ev]
  cases hv:noV m.c with
  | false=>simp only[sA,sB,seval]; exact⟨tt,e⟩
  | true=>
   simp only[sA,sB,seval,fldA,l4]
   refine zname_spec.mono ?_
   rintro _ _ ⟨rfl,rfl⟩
   cases hn:nameB m.sh with
   | false=>simp only[sA,sB,seval]; exact⟨tt,e⟩
   | true=>
    by_cases c2:m.tx=[]
    ·simp only[sA,sB,seval,fldA,l5,c2]; exact⟨tt,e⟩
    ·simp only[sA,sB,seval,fldA,l5,c2]
     refine zname_spec.mono ?_
     rintro _ _ ⟨rfl,rfl⟩
     simp only[sA,sB,seval]; exact⟨by simp[c2],e⟩
 ·rw[matB_no k12 k3 k4]
  have a4:¬((m.k:Nat):Int)=4:=om
  simp only[c73,sA,sB,seval,ca,m1,fldA,l0,a1,a2,a3,a4]
  exact⟨tt,e⟩
theorem rnd_spec{H:AHeap}{b:Rd}:ACalls Tryz.prog noNat 74 [.agg (rdL b)] H fun r H'=>r=.bool (rndB b)∧Ext H.next H H':=by
 refine acalls_ofN rfl za74 rfl ?_
 obtain⟨H1,m1,r1,n1,k1⟩:=row_newL H (rdL b) (n:=5) rfl
 have e:=ext_new n1 k1
 have ca:(AVal.agg (rdL b)).cells=rdL b:=rfl
 have lv:=row_ldK 5 0 3 r1 rfl (xs:=vcL b.c) om rfl
 simp only[c74,sA,sB,seval,ca,m1,fldA,lv]
 refine (far_spec (v:=b.c)).mono ?_
 rintro _ H2 ⟨rfl,e2⟩
 have l3:=row_ld 5 3 (r1.up e2 om) rfl rfl
 have e':=e.trans (e2.less om)
 unfold rndB
 cases hf:farB b.c with
 | false=>simp only[sA,sB,seval]; exact⟨tt,e'⟩
 | true=>
  by_cases c1:0<b.r
  ·by_cases c2:b.r≤42949672960000
   ·simp only[sA,sB,seval,fldA,l3,c1,c2]; exact⟨tt,e'⟩
   ·simp only[sA,sB,seval,fldA,l3,c1,c2]; exact⟨tt,e'⟩
  ·simp only[sA,sB,seval,fldA,l3,c1]; exact⟨tt,e'⟩
structure ScIn(P:Nat→Prop)(H:AHeap)(s:Sc)(vm vb vu:AVal):Prop where
 m:SlK P H 6 vm s.ms.length (s.ms.flatMap mtL)
 b:SlK P H 5 vb s.bs.length (s.bs.flatMap rdL)
 u:SlK P H 5 vu s.us.length (s.us.flatMap usL)
theorem ScIn.mono{P Q:Nat→Prop}{H H':AHeap}{s:Sc}{vm vb vu:AVal}(h:ScIn P H s vm vb vu)(q:∀b,P b→Q b∧H'.get b=H.get b):ScIn Q H' s vm vb vu:=⟨h.m.mono q,h.b.mono q,h.u.mono q⟩
theorem ScIn.up{n:Nat}{H H':AHeap}{s:Sc}{vm vb vu:AVal}(h:ScIn (·<n) H s vm vb vu)(e:Ext n H H'):ScIn (·<n) H' s vm vb vu:=h.mono fun b hb=>⟨hb,e.old b hb⟩
theorem zhas_spec{H:AHeap}{b:Nat}{s:Sc}{vm vb vu:AVal}{k:Nat}(r:Row H b (scL s vm vb vu))(hm:aLenK false vm=some (.int .i64 (k:Int))){x:Int} :
  ACalls Tryz.prog noNat 108 [.int .i64 x,cellR b 21 0] H fun v H'=>v=.bool (hasB k x)∧H=H':=by
 refine acalls_ofN rfl za108 rfl ?_
 have l1:=row_ld 21 18 r rfl rfl
 by_cases c1:0≤x
 ·by_cases c2:x<k
  ·simp only[c108,sA,sB,seval,fldA,l1,hm,c1,c2]; exact⟨by simp[hasB,c1,c2],tt⟩
  ·simp only[c108,sA,sB,seval,fldA,l1,hm,c1,c2]; exact⟨by simp[hasB,c2],tt⟩
 ·simp only[c108,sA,sB,seval,c1]; exact⟨by simp[hasB,c1],tt⟩
theorem hasm_spec{H:AHeap}{s:Sc}{vm vb vu:AVal}(I:ScIn (·<H.next) H s vm vb vu)(hb:s.bs.length≤4611686018427387904)(hu:s.us.length≤4611686018427387904) :
  ACalls Tryz.prog noNat 76 [.agg (scL s vm vb vu)] H fun r H'=>r=.bool (allM s)∧Ext H.next H H':=by
 refine acalls_ofN rfl za76 rfl ?_
 obtain⟨H1,m1,r1,n1,k1⟩:=row_newL H (scL s vm vb vu) (n:=21) rfl
 have e1:=ext_new n1 k1
 have ca:(AVal.agg (scL s vm vb vu)).cells=scL s vm vb vu:=rfl
 have l19:=row_ld 21 19 r1 rfl rfl
 have lb:=I.b.len
 have lm:=I.m.len
 have lu:=I.u.len
 have rb:∀x:Rd,(rdL x).length=5:=fun _=>rfl
 have ru:∀x:Us,(usL x).length=5:=fun _=>rfl
 simp only[c76,sA,sB,seval,ca,m1,fldA,l19,lb]
 refine aw_cut (fun (T:Env) H'=>Ext (H.next+1) H1 H'∧s.bs.all (fun b=>hasB s.ms.length b.m)=true∧T 1=cellR H.next 21 0∧T 3=.func (.func 108) [] [cellR H.next 21 0]) (calls_mono _ _) ?_ ?_
 ·refine aw_loop (fun m (T:Env) H'=>∃i:Nat,Ext (H.next+1) H1 H'∧i≤s.bs.length∧m=s.bs.length-i∧(s.bs.take i).all (fun b=>hasB s.ms.length b.m)=true∧T 1=cellR H.next 21 0∧T 3=.func (.func 108) [] [cellR H.next 21 0]∧T 10=vb∧T 11=.int .i64 (s.bs.length:Int)∧T 12=.int .i64 (i:Int)) s.bs.length
   ⟨0,Ext.refl _ _,om,om,rfl,by simp only[sA,sB,seval],by simp only[sA,sB,seval],by simp only[sA,sB,seval],by simp only[sA,sB,seval],by simp only[sA,sB,seval]⟩ ?_
  rintro m T H2 ⟨i,e2,hi,rfl,ha,g1,g3,g10,g11,g12⟩
  by_cases hlt:i<s.bs.length
  ·have hlt':(i:Int)<(s.bs.length:Int):=om
   obtain⟨x,hx⟩:=isSome_of_lt hlt
   have w1:=wrap1 i om
   have I2:=I.up (e1.trans (e2.less om))
   have ix:=I2.b.idx hlt
   have lx:=I2.b.loadE rb hx
   obtain⟨H3,m3,r3,n3,k3⟩:=row_newL H2 [.int .i64 0,.int .i64 0,.int .i64 0,.int .i64 0,.int .i64 0] (n:=5) rfl
   obtain⟨H4,m4,r4,n4,k4⟩:=row_storeN (n:=5) r3 rfl (xs:=rdL x) rfl rfl
   have hn2:=e2.next
   have e4:Ext (H.next+1) H1 H4:=⟨om,fun b hb=>by rw[k4 b om,k3 b om,e2.old b hb]⟩
   have rr:Row H4 H.next (scL s vm vb vu):=r1.up e4 om
   have l4:=row_ld 5 4 r4 rfl rfl
   simp only[sA,sB,seval,g10,g11,g12,g3,hlt',ix,lx,m3,m4,fldA,l4]
   refine (zhas_spec rr lm).mono ?_
   rintro _ _ ⟨rfl,rfl⟩
   cases hh:hasB s.ms.length x.m with
   | false=>
    simp only[sA,sB,seval]
    exact⟨by simp only[allM,all_no (p:=fun b:Rd=>hasB s.ms.length b.m) hx hh,Bool.false_and],e1.trans (e4.less om)⟩
   | true=>
    simp only[sA,sB,seval,g12,w1]
    exact⟨_,om,i+1,e4,om,rfl,by rw[all_take hx ha]; exact hh,g1,g3,g10,g11,tt⟩
  ·have hlt':¬(i:Int)<(s.bs.length:Int):=om
   simp only[sA,sB,seval,g11,g12,hlt']
   rw[List.take_of_length_le om]at ha
   exact⟨e2,ha,g1,g3⟩
 rintro T H2 ⟨e2,ha,g1,g3⟩
 have hn2:=e2.next
 have rr:=r1.up e2 om
 have l20:=row_ld 21 20 rr rfl rfl
 simp only[sA,sB,seval,g1,fldA,l20,lu]
 refine aw_loop (fun m (T:Env) H'=>∃i:Nat,Ext (H.next+1) H1 H'∧i≤s.us.length∧m=s.us.length-i∧(s.us.take i).all (fun b=>hasB s.ms.length b.m)=true∧T 3=.func (.func 108) [] [cellR H.next 21 0]∧T 23=vu∧T 24=.int .i64 (s.us.length:Int)∧T 25=.int .i64 (i:Int)) s.us.length
  ⟨0,e2,om,om,rfl,by simp only[sA,sB,seval,g3],by simp only[sA,sB,seval],by simp only[sA,sB,seval],by simp only[sA,sB,seval]⟩ ?_
 rintro m T H2 ⟨i,e2,hi,rfl,hau,g3,g10,g11,g12⟩
 by_cases hlt:i<s.us.length
 ·have hlt':(i:Int)<(s.us.length:Int):=om
  obtain⟨x,hx⟩:=isSome_of_lt hlt
  have w1:=wrap1 i om
  have I2:=I.up (e1.trans (e2.less om))
  have ix:=I2.u.idx hlt
  have lx:=I2.u.loadE ru hx
  obtain⟨H3,m3,r3,n3,k3⟩:=row_newL H2 [.str [],.int .i64 0,.int .i64 0,.int .i64 0,.int .i64 0] (n:=5) rfl
  obtain⟨H4,m4,r4,n4,k4⟩:=row_storeN (n:=5) r3 rfl (xs:=usL x) rfl rfl
  have hn2:=e2.next
  have e4:Ext (H.next+1) H1 H4:=⟨om,fun b hb=>by rw[k4 b om,k3 b om,e2.old b hb]⟩
  have rr:Row H4 H.next (scL s vm vb vu):=r1.up e4 om
  have l4:=row_ld 5 4 r4 rfl rfl
  simp only[sA,sB,seval,g10,g11,g12,g3,hlt',ix,lx,m3,m4,fldA,l4]
  refine (zhas_spec rr lm).mono ?_
  rintro _ _ ⟨rfl,rfl⟩
  cases hh:hasB s.ms.length x.m with
  | false=>
   simp only[sA,sB,seval]
   exact⟨by simp only[allM,all_no (p:=fun b:Us=>hasB s.ms.length b.m) hx hh,Bool.and_false],e1.trans (e4.less om)⟩
  | true=>
   simp only[sA,sB,seval,g12,w1]
   exact⟨_,om,i+1,e4,om,rfl,by rw[all_take hx hau]; exact hh,g3,g10,g11,tt⟩
 ·have hlt':¬(i:Int)<(s.us.length:Int):=om
  simp only[sA,sB,seval,g11,g12,hlt']
  rw[List.take_of_length_le om]at hau
  exact⟨by simp only[allM,ha,hau,Bool.and_self],e1.trans (e2.less om)⟩
open Go.Abs Go.Abs.S
theorem chk1_spec{H:AHeap}{x lo hi:Int}:ACalls Tryz.prog noNat 70 [.int .i64 x,.int .i64 lo,.int .i64 hi] H fun v H'=>v=.bool (inI x lo hi)∧H=H':=by
 refine acalls_ofN rfl za70 rfl ?_
 by_cases c1:lo≤x
 ·by_cases c2:x≤hi
  ·simp only[c70,sA,sB,seval,c1,c2]; exact⟨by simp[inI,c1,c2],tt⟩
  ·simp only[c70,sA,sB,seval,c1,c2]; exact⟨by simp[inI,c2],tt⟩
 ·simp only[c70,sA,sB,seval,c1]; exact⟨by simp[inI,c1],tt⟩
def errI(b:Bool):AVal:=.int .i64 (bif b then 0 else 130)
theorem mem_at{α:Type}{l:List α}{i:Nat}{x:α}(h:l[i]?=some x):x∈l:=List.mem_of_getElem? h
set_option maxHeartbeats 1000000 in
theorem chk_spec{H:AHeap}{s:Sc}{vm vb vu:AVal}(I:ScIn (·<H.next) H s vm vb vu) :
  ACalls Tryz.prog noNat 33 [.agg (scL s vm vb vu)] H fun r H'=>r=errI (checkB s)∧Ext H.next H H':=by
 refine acalls_ofN rfl za33 rfl ?_
 obtain⟨H1,m1,r1,n1,k1⟩:=row_newL H (scL s vm vb vu) (n:=21) rfl
 have e1:=ext_new n1 k1
 have ca:(AVal.agg (scL s vm vb vu)).cells=scL s vm vb vu:=rfl
 have lb:=I.b.len
 have lm:=I.m.len
 have lu:=I.u.len
 have rm:∀x:Mt,(mtL x).length=6:=fun _=>rfl
 have rb:∀x:Rd,(rdL x).length=5:=fun _=>rfl
 have ru:∀x:Us,(usL x).length=5:=fun _=>rfl
 have L1:=row_ld 21 0 r1 rfl rfl
 have L2:=row_ld 21 1 r1 rfl rfl
 have L3:=row_ld 21 2 r1 rfl rfl
 have L4:=row_ld 21 3 r1 rfl rfl
 have L5:=row_ldK 21 5 3 r1 rfl (xs:=vcL s.eye) om rfl
 unfold checkB headB wideB
 simp only[c33,sA,sB,seval,ca,m1,fldA,L1]
 refine chk1_spec.mono ?_
 rintro _ _ ⟨rfl,rfl⟩
 cases h1:inI s.w 1 1024
 ·simp only[sA,sB,seval]; exact⟨rfl,e1⟩
 simp only[sA,sB,seval,fldA,L2]
 refine chk1_spec.mono ?_
 rintro _ _ ⟨rfl,rfl⟩
 cases h2:inI s.h 1 1024
 ·simp only[sA,sB,seval]; exact⟨rfl,e1⟩
 simp only[sA,sB,seval,fldA,L3]
 refine chk1_spec.mono ?_
 rintro _ _ ⟨rfl,rfl⟩
 cases h3:inI s.sm 1 64
 ·simp only[sA,sB,seval]; exact⟨rfl,e1⟩
 simp only[sA,sB,seval,fldA,L4]
 refine chk1_spec.mono ?_
 rintro _ _ ⟨rfl,rfl⟩
 cases h4:inI s.bo 0 8
 ·simp only[sA,sB,seval]; exact⟨rfl,e1⟩
 simp only[sA,sB,seval,fldA,L5]
 refine (far_spec (v:=s.eye)).mono ?_
 rintro _ K1 ⟨rfl,x1⟩
 have r2:=r1.up x1 om
 have L6:=row_ldK 21 8 3 r2 rfl (xs:=vcL s.at_) om rfl
 cases h5:farB s.eye
 ·simp only[sA,sB,seval]; exact⟨rfl,e1.trans (x1.less om)⟩
 simp only[sA,sB,seval,fldA,L6]
 refine (far_spec (v:=s.at_)).mono ?_
 rintro _ K2 ⟨rfl,x2⟩
 have x2:=x1.trans (x2.less x1.next)
 have r2:=r1.up x2 om
 have L7:=row_ldK 21 11 3 r2 rfl (xs:=vcL s.up) om rfl
 cases h6:farB s.at_
 ·simp only[sA,sB,seval]; exact⟨rfl,e1.trans (x2.less om)⟩
 simp only[sA,sB,seval,fldA,L7]
 refine (far_spec (v:=s.up)).mono ?_
 rintro _ K3 ⟨rfl,x3⟩
 have x3:=x2.trans (x3.less x2.next)
 have r3:=r1.up x3 om
 have L8:=row_ld 21 14 r3 rfl rfl
 cases h7:farB s.up
 ·simp only[sA,sB,seval]; exact⟨rfl,e1.trans (x3.less om)⟩
 by_cases h8:0<s.wide
 rotate_left
 ·simp only[sA,sB,seval,fldA,L8,h8]; exact⟨tt,e1.trans (x3.less om)⟩
 by_cases h9:s.wide≤429496729600
 rotate_left
 ·simp only[sA,sB,seval,fldA,L8,h8,h9]; exact⟨tt,e1.trans (x3.less om)⟩
 have L9:=row_ldK 21 15 3 r3 rfl (xs:=vcL s.sky) om rfl
 simp only[sA,sB,seval,fldA,L8,h8,h9,L9]
 refine (within_spec (v:=s.sky)).mono ?_
 rintro _ K4 ⟨rfl,x4⟩
 have x4:=x3.trans (x4.less x3.next)
 have r4:=r1.up x4 om
 have L10:=row_ld 21 18 r4 rfl rfl
 have L11:=row_ld 21 19 r4 rfl rfl
 have L12:=row_ld 21 20 r4 rfl rfl
 have q4:=e1.trans (x4.less om)
 cases h10:inV s.sky 0 274877906944
 ·simp only[sA,sB,seval]; exact⟨rfl,q4⟩
 by_cases h11:s.ms.length≤64
 rotate_left
 ·have h11':¬(s.ms.length:Int)≤64:=om
  simp only[sA,sB,seval,fldA,L10,lm,h11',h11]; exact⟨tt,q4⟩
 have h11':(s.ms.length:Int)≤64:=om
 by_cases h12:s.bs.length≤256
 rotate_left
 ·have h12':¬(s.bs.length:Int)≤256:=om
  simp only[sA,sB,seval,fldA,L10,L11,lm,lb,h11',h12',h11,h12]; exact⟨tt,q4⟩
 have h12':(s.bs.length:Int)≤256:=om
 by_cases h13:s.us.length≤16
 rotate_left
 ·have h13':¬(s.us.length:Int)≤16:=om
  simp only[sA,sB,seval,fldA,L10,L11,L12,lm,lb,lu,h11',h12',h13',h11,h12,h13]; exact⟨tt,q4⟩
 have h13':(s.us.length:Int)≤16:=om
 simp only[sA,sB,seval,fldA,L10,L11,L12,lm,lb,lu,h11',h12',h13',h11,h12,h13]
 refine aw_cut (fun (T:Env) H'=>Ext (H.next+1) H1 H'∧s.ms.all matB=true∧T 1=cellR H.next 21 0) (calls_mono _ _) ?_ ?_
 ·refine aw_loop (fun m (T:Env) H'=>∃i:Nat,Ext (H.next+1) H1 H'∧i≤s.ms.length∧m=s.ms.length-i∧(s.ms.take i).all matB=true∧T 1=cellR H.next 21 0∧T 84=vm∧T 85=.int .i64 (s.ms.length:Int)∧T 86=.int .i64 (i:Int)) s.ms.length
   ⟨0,n1 ▸ x4,om,om,rfl,by simp only[sA,sB,seval],by simp only[sA,sB,seval],by simp only[sA,sB,seval],by simp only[sA,sB,seval]⟩ ?_
  rintro m T H2 ⟨i,e2,hi,rfl,ha,g1,g10,g11,g12⟩
  by_cases hlt:i<s.ms.length
  ·have hlt':(i:Int)<(s.ms.length:Int):=om
   obtain⟨x,hx⟩:=isSome_of_lt hlt
   have w1:=wrap1 i om
   have I2:=I.up (e1.trans (e2.less om))
   have ix:=I2.m.idx hlt
   have lx:=I2.m.loadE rm hx
   obtain⟨H3,m3,r3,n3,k3⟩:=row_newL H2 [.int .u8 0,.int .i64 0,.int .i64 0,.int .i64 0,.str [],.str []] (n:=6) rfl
   obtain⟨H4,m4,r4,n4,k4⟩:=row_storeN (n:=6) r3 rfl (xs:=mtL x) rfl rfl
   have hn2:=e2.next
   have e4:Ext (H.next+1) H1 H4:=⟨om,fun b hb=>by rw[k4 b om,k3 b om,e2.old b hb]⟩
   have l4:=row_ldK 6 0 6 r4 rfl (xs:=mtL x) om rfl
   simp only[sA,sB,seval,g10,g11,g12,hlt',ix,lx,m3,m4,fldA,l4]
   refine zmat_spec.mono ?_
   rintro _ H5 ⟨rfl,e5⟩
   have e5:=e4.trans (e5.less e4.next |>.less om)
   cases hh:matB x with
   | false=>
    simp only[sA,sB,seval]
    exact⟨by rw[all_no hx hh]; rfl,e1.trans (e5.less om)⟩
   | true=>
    simp only[sA,sB,seval,g12,w1]
    exact⟨_,om,i+1,e5,om,rfl,by rw[all_take hx ha]; exact hh,g1,g10,g11,tt⟩
  ·have hlt':¬(i:Int)<(s.ms.length:Int):=om
   simp only[sA,sB,seval,g11,g12,hlt']
   rw[List.take_of_length_le om]at ha
   exact⟨e2,ha,g1⟩
 rintro T H2 ⟨y2,hma,g1⟩
 have hn2:=y2.next
 have rr:=r1.up y2 om
 have l19:=row_ld 21 19 rr rfl rfl
 simp only[sA,sB,seval,g1,fldA,l19,lb]
 refine aw_cut (fun (T:Env) H'=>Ext (H.next+1) H1 H'∧s.bs.all rndB=true∧T 1=cellR H.next 21 0) (calls_mono _ _) ?_ ?_
 ·refine aw_loop (fun m (T:Env) H'=>∃i:Nat,Ext (H.next+1) H1 H'∧i≤s.bs.length∧m=s.bs.length-i∧(s.bs.take i).all rndB=true∧T 1=cellR H.next 21 0∧T 95=vb∧T 96=.int .i64 (s.bs.length:Int)∧T 97=.int .i64 (i:Int)) s.bs.length
   ⟨0,y2,om,om,rfl,by simp only[sA,sB,seval,g1],by simp only[sA,sB,seval],by simp only[sA,sB,seval],by simp only[sA,sB,seval]⟩ ?_
  rintro m T H2 ⟨i,e2,hi,rfl,ha,g1,g10,g11,g12⟩
  by_cases hlt:i<s.bs.length
  ·have hlt':(i:Int)<(s.bs.length:Int):=om
   obtain⟨x,hx⟩:=isSome_of_lt hlt
   have w1:=wrap1 i om
   have I2:=I.up (e1.trans (e2.less om))
   have ix:=I2.b.idx hlt
   have lx:=I2.b.loadE rb hx
   obtain⟨H3,m3,r3,n3,k3⟩:=row_newL H2 [.int .i64 0,.int .i64 0,.int .i64 0,.int .i64 0,.int .i64 0] (n:=5) rfl
   obtain⟨H4,m4,r4,n4,k4⟩:=row_storeN (n:=5) r3 rfl (xs:=rdL x) rfl rfl
   have hn2:=e2.next
   have e4:Ext (H.next+1) H1 H4:=⟨om,fun b hb=>by rw[k4 b om,k3 b om,e2.old b hb]⟩
   have l4:=row_ldK 5 0 5 r4 rfl (xs:=rdL x) om rfl
   simp only[sA,sB,seval,g10,g11,g12,hlt',ix,lx,m3,m4,fldA,l4]
   refine (rnd_spec (b:=x)).mono ?_
   rintro _ H5 ⟨rfl,e5⟩
   have e5:=e4.trans (e5.less om)
   cases hh:rndB x with
   | false=>
    simp only[sA,sB,seval]
    exact⟨by rw[hma,all_no hx hh]; rfl,e1.trans (e5.less om)⟩
   | true=>
    simp only[sA,sB,seval,g12,w1]
    exact⟨_,om,i+1,e5,om,rfl,by rw[all_take hx ha]; exact hh,g1,g10,g11,tt⟩
  ·have hlt':¬(i:Int)<(s.bs.length:Int):=om
   simp only[sA,sB,seval,g11,g12,hlt']
   rw[List.take_of_length_le om]at ha
   exact⟨e2,ha,g1⟩
 clear y2 hn2 rr l19
 rintro T H2 ⟨y2,hba,g1⟩
 have hn2:=y2.next
 have rr:=r1.up y2 om
 have l20:=row_ld 21 20 rr rfl rfl
 simp only[sA,sB,seval,g1,fldA,l20,lu]
 refine aw_cut (fun (T:Env) H'=>Ext (H.next+1) H1 H'∧s.us.all useB=true∧T 1=cellR H.next 21 0) (calls_mono _ _) ?_ ?_
 ·refine aw_loop (fun m (T:Env) H'=>∃i:Nat,Ext (H.next+1) H1 H'∧i≤s.us.length∧m=s.us.length-i∧(s.us.take i).all useB=true∧T 1=cellR H.next 21 0∧T 106=vu∧T 107=.int .i64 (s.us.length:Int)∧T 108=.int .i64 (i:Int)) s.us.length
   ⟨0,y2,om,om,rfl,by simp only[sA,sB,seval,g1],by simp only[sA,sB,seval],by simp only[sA,sB,seval],by simp only[sA,sB,seval]⟩ ?_
  rintro m T H2 ⟨i,e2,hi,rfl,ha,g1,g10,g11,g12⟩
  by_cases hlt:i<s.us.length
  ·have hlt':(i:Int)<(s.us.length:Int):=om
   obtain⟨x,hx⟩:=isSome_of_lt hlt
   have w1:=wrap1 i om
   have I2:=I.up (e1.trans (e2.less om))
   have ix:=I2.u.idx hlt
   have lx:=I2.u.loadE ru hx
   obtain⟨H3,m3,r3,n3,k3⟩:=row_newL H2 [.str [],.int .i64 0,.int .i64 0,.int .i64 0,.int .i64 0] (n:=5) rfl
   obtain⟨H4,m4,r4,n4,k4⟩:=row_storeN (n:=5) r3 rfl (xs:=usL x) rfl rfl
   have hn2:=e2.next
   have e4:Ext (H.next+1) H1 H4:=⟨om,fun b hb=>by rw[k4 b om,k3 b om,e2.old b hb]⟩
   have l4:=row_ld 5 0 r4 rfl rfl
   have l5:=row_ldK 5 1 3 r4 rfl (xs:=vcL x.p) om rfl
   simp only[sA,sB,seval,g10,g11,g12,hlt',ix,lx,m3,m4,fldA,l4]
   refine zname_spec.mono ?_
   rintro _ _ ⟨rfl,rfl⟩
   cases hn:nameB x.n with
   | false=>
    simp only[sA,sB,seval]
    have hu:useB x=false:=by simp only[useB,hn,Bool.false_and]
    exact⟨by rw[hma,hba,all_no hx hu]; rfl,e1.trans (e4.less om)⟩
   | true=>
    simp only[sA,sB,seval,fldA,l5]
    refine (far_spec (v:=x.p)).mono ?_
    rintro _ H5 ⟨rfl,e5⟩
    have e5:=e4.trans (e5.less om)
    cases hf:farB x.p with
    | false=>
     simp only[sA,sB,seval]
     have hu:useB x=false:=by simp only[useB,hf,Bool.and_false]
     exact⟨by rw[hma,hba,all_no hx hu]; rfl,e1.trans (e5.less om)⟩
    | true=>
     simp only[sA,sB,seval,g12,w1]
     exact⟨_,om,i+1,e5,om,rfl,by rw[all_take hx ha]; simp only[useB,hn,hf,Bool.and_self],g1,g10,g11,tt⟩
  ·have hlt':¬(i:Int)<(s.us.length:Int):=om
   simp only[sA,sB,seval,g11,g12,hlt']
   rw[List.take_of_length_le om]at ha
   exact⟨e2,ha,g1⟩
 clear y2 hn2 rr l20
 rintro T H2 ⟨y2,hua,g1⟩
 have hn2:=y2.next
 have rr:=r1.up y2 om
 have l0:=row_ldK 21 0 21 rr rfl (xs:=scL s vm vb vu) om rfl
 have I2:=(I.up (e1.trans (y2.less om))).mono (Q:=(·<H2.next)) fun b hb=>⟨om,rfl⟩
 simp only[sA,sB,seval,g1,l0]
 refine (hasm_spec I2 om om).mono ?_
 rintro _ H3 ⟨rfl,e3⟩
 have e3:=e1.trans ((y2.trans (e3.less om)).less om)
 rw[hma,hba,hua]
 cases ha:allM s
 ·simp only[sA,sB,seval]; exact⟨rfl,e3⟩
 ·simp only[sA,sB,seval]; exact⟨rfl,e3⟩
end Go.Proofs.Tc
