/- Part of a proof (T72 T73 T74 T75 T76 T77 T78 T79 T80 T81); no condition. -/
import Derived.Test.YtmfjeemdgdaelaaGreatP11
set_option linter.unusedSimpArgs false
set_option linter.unusedVariables false
set_option linter.unnecessarySimpa false
namespace Go.Proofs.Tb
open Go.Abs Go.Abs.S
def Op(n:Nat)(H:AHeap)(s:AVal)(L:List AVal):Prop:=
 (s=nilS∧L=[])∨∃b o low C,s=.slice (some ⟨b,C.length,o⟩) L.length (.open_ 1)∧H.get b=some (.cells C low false)∧low≤C.length∧o+L.length≤C.length∧(C.drop o).take L.length=L∧b<n
theorem AppN.op{n k:Nat}{H:AHeap}{s:AVal}{L:List AVal}(h:AppN 1 0 H s L k)(hb:Blk s (·<n)):Op n H s L:=by
 rcases h with⟨rfl,rfl,_⟩ | ⟨b,low,rfl,h2,_,h4,h5,h6,_⟩
 ·exact .inl ⟨rfl,rfl⟩
 ·obtain rfl:k=L.length:=om
  exact .inr ⟨b,0,low,L,rfl,h5,h6,om,by simp,hb _ _ _ rfl⟩
theorem Op.cel{n:Nat}{H:AHeap}{s:AVal}{L:List AVal}(h:Op n H s L):Cel n H s L:=by
 rcases h with⟨rfl,rfl⟩ | ⟨b,o,low,C,rfl,h1,h2,h3,h4,h5⟩
 ·exact .inl ⟨rfl,rfl⟩
 ·refine .inr ⟨_,_,rfl,h5,?_⟩
  rw[rd_row (H:=H) (b:=b) ⟨low,h1,h2⟩ rfl (i:=o) (k:=L.length) h3,h4]
theorem Op.len{n:Nat}{H:AHeap}{s:AVal}{L:List AVal}(h:Op n H s L):aLenK false s=some (.int .i64 (L.length:Int)):=h.cel.len
theorem Op.same{n m:Nat}{H H':AHeap}{s:AVal}{L:List AVal}(h:Op n H s L)(hm:n≤m)(e:Blk s fun c=>H'.get c=H.get c):Op m H' s L:=by
 rcases h with⟨rfl,rfl⟩ | ⟨b,o,low,C,rfl,h1,h2,h3,h4,h5⟩
 ·exact .inl ⟨rfl,rfl⟩
 ·exact .inr ⟨b,o,low,C,rfl,(e _ _ _ rfl).trans h1,h2,h3,h4,om⟩
theorem Op.ext{n:Nat}{H H':AHeap}{s:AVal}{L:List AVal}(h:Op n H s L)(e:Ext n H H'):Op n H' s L:=by
 rcases h with⟨rfl,rfl⟩ | ⟨b,o,low,C,rfl,h1,h2,h3,h4,h5⟩
 ·exact .inl ⟨rfl,rfl⟩
 ·exact .inr ⟨b,o,low,C,rfl,(e.old b h5).trans h1,h2,h3,h4,h5⟩
theorem Op.more{n m:Nat}{H:AHeap}{s:AVal}{L:List AVal}(h:Op n H s L)(hm:n≤m):Op m H s L:=by
 rcases h with⟨rfl,rfl⟩ | ⟨b,o,low,C,rfl,h1,h2,h3,h4,h5⟩
 ·exact .inl ⟨rfl,rfl⟩
 ·exact .inr ⟨b,o,low,C,rfl,h1,h2,h3,h4,om⟩
theorem Op.blk{n:Nat}{H:AHeap}{s:AVal}{L:List AVal}(h:Op n H s L):Blk s (·<n):=by
 rcases h with⟨rfl,rfl⟩ | ⟨b,o,low,C,rfl,h1,h2,h3,h4,h5⟩
 ·exact blk_nil _
 ·exact blk_some h5
theorem Op.sub{n:Nat}{H:AHeap}{s:AVal}{L:List AVal}(h:Op n H s L){lo hi:Nat}(h1:lo≤hi)(h2:hi≤L.length) :
  ∃s',aSl 1 s (some (.int .i64 (lo:Int))) (some (.int .i64 (hi:Int))) none=some s'∧Op n H s' ((L.drop lo).take (hi-lo))∧∀P,Blk s P→Blk s' P:=by
 rcases h with⟨rfl,rfl⟩ | ⟨b,o,low,C,rfl,g1,g2,g3,g4,g5⟩
 ·have:hi=0:=by simpa using h2
  subst this
  obtain rfl:lo=0:=om
  exact⟨nilS,rfl,.inl ⟨rfl,by simp⟩,fun P hP=>hP⟩
 ·have hl:((L.drop lo).take (hi-lo)).length=hi-lo:=by simp; omega
  refine⟨.slice (some ⟨b,C.length,o+lo⟩) (hi-lo) (.open_ 1),?_,.inr ⟨b,o+lo,low,C,by rw[hl],g1,g2,by rw[hl]; omega,?_,g5⟩,fun P hP=>(have q:P b:=hP _ _ _ rfl; blk_some q)⟩
  ·simp only[aSl,Nat.beq_refl,cond_true,Nat.div_one,bnd_lh h1 (show hi≤C.length-o by omega),Nat.mul_one,Nat.ble_eq_true_of_le (show o+hi≤C.length by omega)]
  ·rw[hl]
   conv=>rhs; rw[← g4]
   rw[List.drop_take,List.drop_drop,List.take_take,Nat.min_eq_left om]
theorem Op.from_{n:Nat}{H:AHeap}{s:AVal}{L:List AVal}(h:Op n H s L){lo:Nat}(h1:lo≤L.length) :
  ∃s',aSl 1 s (some (.int .i64 (lo:Int))) none none=some s'∧Op n H s' (L.drop lo)∧∀P,Blk s P→Blk s' P:=by
 obtain⟨s',e,h2,h3⟩:=h.sub h1 rL
 refine⟨s',?_,by rwa [List.take_of_length_le (by simp)]at h2,h3⟩
 rw[← e]
 rcases h with⟨rfl,rfl⟩ | ⟨b,o,low,C,rfl,g1,g2,g3,g4,g5⟩
 ·obtain rfl:lo=0:=by simpa using h1
  rfl
 ·simp only[aSl,bnd_l h1,bnd_lh h1 (show L.length≤(C.length-o) / 1 by omega)]
theorem Op.upto{n:Nat}{H:AHeap}{s:AVal}{L:List AVal}(h:Op n H s L){hi:Nat}(h2:hi≤L.length) :
  ∃s',aSl 1 s none (some (.int .i64 (hi:Int))) none=some s'∧Op n H s' (L.take hi)∧∀P,Blk s P→Blk s' P:=by
 obtain⟨s',e,h3,h4⟩:=h.sub (Nat.zero_le hi) h2
 rw[List.drop_zero,Nat.sub_zero]at h3
 exact⟨s',by rw[sl_none]; exact e,h3,h4⟩
theorem Op.idx{n:Nat}{H:AHeap}{s:AVal}{L:List AVal}(h:Op n H s L){i:Nat}{x:AVal}(hi:L[i]?=some x):∃b lim o,aIdxA 1 s (.int .i64 (i:Int))=some (cellR b lim o)∧oLoad false 1 H (cellR b lim o)=some x:=by
 have hlt:=(List.getElem?_eq_some_iff.1 hi).1
 rcases h with⟨rfl,rfl⟩ | ⟨b,o,low,C,rfl,g1,g2,g3,g4,g5⟩
 ·simp at hi
 ·have hb:Nat.blt i L.length=true:=by simpa[Nat.blt_eq] using hlt
  refine⟨b,C.length,o+i*1,?_,row_load (H:=H) ⟨low,g1,g2⟩ rfl ?_⟩
  ·show (bif Nat.blt i L.length then some (AVal.ptr (some ⟨b,C.length,o+i*1⟩)) else none)=_
   rw[hb]; rfl
  ·rw[← g4,List.getElem?_take,if_pos hlt,List.getElem?_drop]at hi
   rw[Nat.mul_one]; exact hi
def Mk(H:AHeap)(b cap:Nat)(s:AVal)(L:List AVal):Prop:=
 ∃low C,s=.slice (some ⟨b,cap,0⟩) L.length (.known cap)∧H.get b=some (.cells C low false)∧low≤C.length∧C.length=cap∧C.take L.length=L∧L.length≤cap∧b<H.next
theorem rep1_len(z:AVal)(n:Nat):(rep [z] n).length=n:=by
 induction n with
 | zero=>rfl
 | succ n ih=>simp only[rep,lA,ih,List.length_cons,List.length_nil]; omega
theorem Mk.make{bytes cap:Nat}{z:AVal}(H:AHeap)(hb:bytes*cap≤281474976710656)(hc:cap≤1000000) :
  ∃s H',aMake bytes [z] H (.int .i64 (0:Int)) (.int .i64 (cap:Int))=some (s,H')∧Mk H' H.next cap s []∧H'.next=H.next+1∧∀c,c<H.next→H'.get c=H.get c:=by
 have hr:=rep1_len z cap
 refine⟨.slice (some ⟨H.next,cap,0⟩) 0 (.known cap),H.push (.cells (rep [z] cap) 0 false),?_,⟨0,rep [z] cap,rfl,by rw[AHeap.get_push,if_pos rfl],Nat.zero_le _,hr,by simp,Nat.zero_le _,Nat.lt_succ_self _⟩,rfl,fun c hc=>get_push_lt hc⟩
 have h0:Go.Abs.natOf (.int .i64 (0:Int))=some 0:=rfl
 have h1:Go.Abs.natOf (.int .i64 (cap:Int))=some cap:=by
  show Go.Abs.natOf (.int .i64 (Int.ofNat cap))=some cap
  simp only[Go.Abs.natOf,Nat.ble_eq_true_of_le (show cap≤9223372036854775807 by omega),cond_true]
 simp only[aMake,h0,h1,Nat.ble_eq_true_of_le (Nat.zero_le _),Nat.ble_eq_true_of_le hb,Bool.and_self,cond_true,hr]
theorem Mk.len{H:AHeap}{b cap:Nat}{s:AVal}{L:List AVal}(h:Mk H b cap s L):aLenK false s=some (.int .i64 (L.length:Int)):=by
 obtain⟨low,C,rfl,_⟩:=h; rfl
theorem Mk.one{H:AHeap}{b cap:Nat}{s:AVal}{L:List AVal}(h:Mk H b cap s L):s.one=true:=by
 obtain⟨low,C,rfl,_⟩:=h; rfl
theorem Mk.blk{H:AHeap}{b cap:Nat}{s:AVal}{L:List AVal}(h:Mk H b cap s L)(P:Nat→Prop)(hp:P b):Blk s P:=by
 obtain⟨low,C,rfl,_⟩:=h; exact blk_some hp
theorem Mk.same{H H':AHeap}{b cap:Nat}{s:AVal}{L:List AVal}(h:Mk H b cap s L)(hn:H.next≤H'.next)(e:H'.get b=H.get b):Mk H' b cap s L:=by
 obtain⟨low,C,h1,h2,h3,h4,h5,h6,h7⟩:=h
 exact⟨low,C,h1,e.trans h2,h3,h4,h5,h6,om⟩
theorem Mk.push{H:AHeap}{b cap:Nat}{s x:AVal}{L:List AVal}(h:Mk H b cap s L)(hl:L.length<cap)(hx:x.one=true){bytes:Nat}(hb:2*cap*bytes≤281474976710656)(hb1:0<bytes) :
  ∃s' H',aAppend 1 bytes (H.push (.cells [x] 0 false)) s (oneS H)=some (s',H')∧Mk H' b cap s' (L++[x])∧H'.next=H.next+1∧∀c,c<H.next→c≠b→H'.get c=H.get c:=by
 obtain⟨low,C,rfl,h2,h3,h4,h5,h6,h7⟩:=h
 have hbl:2*(L.length+1)*bytes≤281474976710656:=Nat.le_trans (Nat.mul_le_mul_right _ (Nat.mul_le_mul_left 2 hl)) hb
 have hlen:L.length+1≤9223372036854775807:=by
  have:2*(L.length+1)≤2*(L.length+1)*bytes:=Nat.le_mul_of_pos_right _ hb1
  omega
 have c1:(Nat.blt 0 1&&(Nat.ble ((2*(L.length+1)+0)*bytes) 281474976710656&&(Nat.ble (L.length+1) 9223372036854775807&&(Nat.beq [x].length (1*1)&&[x].all AVal.one))))=true:=by
  simp only[Nat.add_zero,Nat.ble_eq_true_of_le hbl,Nat.ble_eq_true_of_le hlen,List.length_cons,List.length_nil,Nat.zero_add,Nat.one_mul,Nat.beq_refl,List.all_cons,List.all_nil,hx,Bool.and_self,show Nat.blt 0 1=true from rfl]
 have hg:(H.push (.cells [x] 0 false)).get b=some (.cells C low false):=by rw[get_push_lt h7]; exact h2
 have h3':low≤cap:=om
 have hw:wrCells (H.push (.cells [x] 0 false)) ⟨b,cap,0+L.length*1⟩ [x]=some ((H.push (.cells [x] 0 false)).set b (.cells (C.take L.length++([x]++C.drop (L.length+1))) C.length false)):=by
  unfold wrCells
  simp only[hg,h4,Nat.ble_eq_true_of_le h3',Nat.beq_refl,Nat.zero_add,Nat.mul_one,List.length_cons,List.length_nil,Nat.ble_eq_true_of_le (show L.length+1≤cap by omega),List.all_cons,List.all_nil,hx,Bool.and_self,cond_true]
 have hl2:(C.take L.length++([x]++C.drop (L.length+1))).length=C.length:=by simp; omega
 refine⟨.slice (some ⟨b,cap,0⟩) (L.length+1) (.known cap),(H.push (.cells [x] 0 false)).set b (.cells (C.take L.length++([x]++C.drop (L.length+1))) C.length false),?_,⟨C.length,C.take L.length++([x]++C.drop (L.length+1)),by simp,by rw[AHeap.get_set,if_pos rfl],by rw[hl2]; exact Nat.le_refl _,by rw[hl2,h4],?_,by simp; omega,by rw[set_next,push_next]; omega⟩,by rw[set_next,push_next],fun c hc hne=>by rw[AHeap.get_set,if_neg hne,get_push_lt hc]⟩
 ·simp only[aAppend,src1]
  rw[show Nat.beq 1 0=false from rfl,cond_false,c1,cond_true]
  simp only[Nat.ble_eq_true_of_le (show L.length+1≤cap by omega),cond_true,hw]
 ·rw[h5,← List.append_assoc,List.take_left' (by simp)]
theorem Mk.cel{n:Nat}{H:AHeap}{b cap:Nat}{s:AVal}{L:List AVal}(h:Mk H b cap s L)(hn:b<n):Cel n H s L:=by
 obtain⟨low,C,rfl,h2,h3,h4,h5,h6,h7⟩:=h
 subst h4
 refine .inr ⟨_,_,rfl,hn,?_⟩
 rw[rd_row (H:=H) (b:=b) ⟨low,h2,h3⟩ rfl (i:=0) (k:=L.length) om,List.drop_zero,h5]
theorem Mk.from_{H:AHeap}{b cap:Nat}{s:AVal}{L:List AVal}(h:Mk H b cap s L){lo:Nat}(hl:lo≤L.length)(hc:0<cap-lo∨True) :
  aSl 1 s (some (.int .i64 (lo:Int))) none none=some (bif Nat.beq cap lo then .slice (some ⟨b,cap,0⟩) (L.length-lo) (.known (cap-lo)) else .slice (some ⟨b,cap,lo⟩) (L.length-lo) (.known (cap-lo))):=by
 obtain⟨low,C,rfl,h2,h3,h4,h5,h6,h7⟩:=h
 simp only[aSl,bnd_l hl,Option.getD_none,Nat.zero_add,Nat.mul_one]
 cases Nat.beq cap lo <;> rfl
theorem Mk.look{H:AHeap}{b cap:Nat}{s:AVal}{L:List AVal}(h:Mk H b cap s L){lo k i:Nat}(hi:i<k){x:AVal}(hx:L[lo+i]?=some x):aIdxA 1 (.slice (some ⟨b,cap,lo⟩) k (.known (cap-lo))) (.int .i64 (i:Int))=some (cellR b cap (lo+i))∧oLoad false 1 H (cellR b cap (lo+i))=some x:=by
 obtain⟨low,C,rfl,h2,h3,h4,h5,h6,h7⟩:=h
 subst h4
 have hlt:=(List.getElem?_eq_some_iff.1 hx).1
 refine⟨?_,row_load (H:=H) ⟨low,h2,h3⟩ rfl ?_⟩
 ·have hb:Nat.blt i k=true:=by simpa[Nat.blt_eq] using hi
  show (bif Nat.blt i k then some (AVal.ptr (some ⟨b,C.length,lo+i*1⟩)) else none)=_
  rw[hb,Nat.mul_one]; rfl
 ·rw[← h5,List.getElem?_take,if_pos hlt]at hx; exact hx
def nats(l:List Nat):List AVal:=l.map fun (n:Nat)=>.int .i64 (n:Int)
theorem nats_len(l:List Nat):(nats l).length=l.length:=by simp[nats]
theorem nats_append(a b:List Nat):nats (a++b)=nats a++nats b:=by simp[nats]
theorem nats_at{l:List Nat}{i n:Nat}(h:l[i]?=some n):(nats l)[i]?=some (.int .i64 (n:Int)):=by simp[nats,h]
theorem right_spec{w h:Nat}(hw:1≤w)(hw2:w≤20)(hh:1≤h)(hh2:h≤20){H:AHeap}:ACalls Tryz.prog natT 13 [.int .i64 (w:Int),.int .i64 (h:Int)] H fun v H'=>v=.bool true∧H=H':=by
 refine acalls_ofN rfl za13 rfl ?_
 have a1:(1:Int)≤(w:Int):=om
 have a2:(w:Int)≤1024:=om
 have a3:(1:Int)≤(h:Int):=om
 have a4:(h:Int)≤1024:=om
 simp only[c13,sA,sB,seval,a1,a2,a3,a4]
 exact⟨tt,tt⟩
theorem orderR_at{r:Nat×Nat×Nat}{i:Nat}(h:i<r.2.2):(orderR r)[i]?=some (r.1+i*r.2.1):=by
 unfold orderR
 rw[List.getElem?_map,List.getElem?_range h]; rfl
theorem orderR_len(r:Nat×Nat×Nat):(orderR r).length=r.2.2:=by simp[orderR]
def ordI(v b cap:Nat)(R:List (Nat×Nat×Nat))(k:Nat)(O:Nat→Prop)(H:AHeap):Prop:=
 ∃s,Row H v [s]∧v<H.next∧v≠b∧Mk H b cap s (nats ((R.take k).flatMap orderR))∧∀c,O c↔c=v∨c=b
theorem take_flat{α β:Type}{f:α→List β}{R:List α}{k:Nat}{r:α}(h:R[k]?=some r):(R.take (k+1)).flatMap f=(R.take k).flatMap f++f r:=by
 rw[List.take_add_one,h]; simp
theorem flat_le{α β:Type}{f:α→List β}{R:List α}(k:Nat):((R.take k).flatMap f).length≤(R.flatMap f).length:=by
 conv=>rhs; rw[← List.take_append_drop k R]
 rw[List.flatMap_append,lA]
 exact Nat.le_add_right _ _
theorem ord_clo{v b cap:Nat}{R:List (Nat×Nat×Nat)}(hcap:(R.flatMap orderR).length≤cap)(hc:cap≤100000)(hR:∀r∈R,r.1<100000∧r.2.1<9∧r.2.2≤20):Clo 17 [cellR v 1 0] R (ordI v b cap R):=by
 refine⟨?_,?_,?_⟩
 ·rintro k O H ⟨s,r,hv,_,m,ho⟩ c hc
  rcases (ho c).1 hc with rfl | rfl
  ·exact hv
  ·obtain⟨_,_,_,_,_,_,_,_,h⟩:=m; exact h
 ·rintro k O H H' ⟨s,r,hv,hne,m,ho⟩ hn e
  exact⟨s,r.same (e _ ((ho _).2 (.inl rfl))),om,hne,m.same hn (e _ ((ho _).2 (.inr rfl))),ho⟩
 ·rintro k ⟨f,st,n⟩ O H hr ⟨s,r,hv,hne,m,ho⟩
  obtain⟨q1,q2,q3⟩:=hR _ (List.mem_of_getElem? hr)
  simp only at q1 q2 q3
  have hfl:=flat_le (f:=orderR) (R:=R) (k+1)
  rw[take_flat hr,lA,orderR_len]at hfl
  simp only at hfl
  refine acalls_ofN rfl za17 rfl ?_
  simp only[List.cons_append,List.nil_append,c17,sA,sB,seval]
  refine aw_loop (fun m (T:Env) H'=>∃i s',m=n-i∧i≤n∧T 0=.int .i64 (f:Int)∧T 1=.int .i64 (st:Int)∧T 3=cellR v 1 0∧T 8=.int .i64 (n:Int)∧T 9=.int .i64 (i:Int)∧Row H' v [s']∧Mk H' b cap s' (nats ((R.take k).flatMap orderR++(orderR (f,st,n)).take i))∧H.next≤H'.next∧∀c,c<H.next→c≠v→c≠b→H'.get c=H.get c) n
   ⟨0,s,rfl,Nat.zero_le _,by simp only[sA,sB,seval],by simp only[sA,sB,seval],by simp only[sA,sB,seval],by simp only[sA,sB,seval],by simp only[sA,sB,seval]; try rfl,r,by simpa using m,Nat.le_refl _,fun _ _ _ _=>rfl⟩ ?_
  rintro m' T H1 ⟨i,s1,rfl,hi,t0,t1,t3,t8,t9,r1,m1,n1,f1⟩
  by_cases hlt:i<n
  case neg=>
   have hlt':¬(i:Int)<(n:Int):=om
   simp only[sA,sB,seval,t8,t9,hlt']
   obtain rfl:i=n:=om
   refine⟨[],rfl,O,⟨s1,r1,om,hne,?_,ho⟩,n1,fun c hc hO=>f1 c hc (fun e=>hO ((ho c).2 (.inl e))) fun e=>hO ((ho c).2 (.inr e)),fun c hc=>.inl hc⟩
   have e:(orderR (f,st,i)).take i=orderR (f,st,i):=List.take_of_length_le (by rw[orderR_len]; exact Nat.le_refl _)
   rw[e]at m1
   rwa [take_flat hr]
  have hlt':(i:Int)<(n:Int):=om
  have hmul:i*st≤20*9:=Nat.mul_le_mul om om
  have v1:IntKind.i64.wrap ((i:Int)*(st:Int))=((i*st:Nat):Int):=by rw[← Int.natCast_mul,wrap64 om om]
  have v2:IntKind.i64.wrap ((f:Int)+((i*st:Nat):Int))=((f+i*st:Nat):Int):=w64
  have v3:IntKind.i64.wrap ((i:Int)+1)=((i+1:Nat):Int):=w64
  have ll:(nats ((R.take k).flatMap orderR++(orderR (f,st,n)).take i)).length=((R.take k).flatMap orderR).length+i:=by
   rw[nats_len,lA,List.length_take,orderR_len]
   simp only
   omega
  obtain⟨s2,H2,a2,m2,k2,o2⟩:=m1.push (x:=.int .i64 ((f+i*st:Nat):Int)) (by rw[ll]; omega) rfl (bytes:=8) om om
  have vb:v<H1.next:=om
  have r2:=r1.same (o2 v vb hne)
  obtain⟨H3,a3,r3,k3,o3⟩:=row_st r2 (n:=1) rfl (i:=0) om (x:=s2) m2.one (l':=[s2]) rfl
  have l1:oLoad false 1 H1 (cellR v 1 0)=some s1:=row_load r1 rfl rfl
  have bd:=build1 (.int .i64 0) H1 (x:=.int .i64 ((f+i*st:Nat):Int)) rfl
  simp only[sA,sB,seval,t0,t1,t3,t8,t9,hlt',l1,v1,v2,v3,bd,a2,a3]
  refine⟨n-(i+1),om,i+1,s2,rfl,om,tt,tt,tt,tt,tt,r3,?_,om,fun c hc h1 h2=>by rw[o3 c h1,o2 c om h2,f1 c hc h1 h2]⟩
  have e:(orderR (f,st,n)).take (i+1)=(orderR (f,st,n)).take i++[f+i*st]:=by
   rw[List.take_add_one,orderR_at (r:=(f,st,n)) hlt]; rfl
  rw[e,← List.append_assoc,nats_append]
  exact m2.same om (o3 b (fun e=>hne e.symm))
theorem order_spec{w h:Nat}(hw:1≤w)(hw2:w≤20)(hh:1≤h)(hh2:h≤20)(H:AHeap):ACalls Tryz.prog natT 6 [.int .i64 (w:Int),.int .i64 (h:Int)] H fun v H'=>Cel H'.next H' v (nats (orderL w h))∧Blk v (H.next≤·)∧Ext H.next H H':=by
 have OK:=okP hw hw2 hh hh2
 have hwh:w*h≤20*20:=Nat.mul_le_mul hw2 hh2
 have hm:IntKind.i64.wrap ((w:Int)*(h:Int))=((w*h:Nat):Int):=by rw[← Int.natCast_mul,wrap64 om om]
 obtain⟨s1,H1,a1,m1,k1,o1⟩:=Mk.make (z:=.int .i64 0) (bytes:=8) (cap:=w*h) H om om
 obtain⟨H2,a2,r2,k2,o2⟩:=row_newL H1 [nilS] (n:=1) rfl
 obtain⟨H3,a3,r3,k3,o3⟩:=row_st r2 (n:=1) rfl (i:=0) om (x:=s1) m1.one (l':=[s1]) rfl
 have m3:Mk H3 H.next (w*h) s1 []:=m1.same om (by rw[o3 _ om,o2 _ om])
 have C:=ord_clo (v:=H1.next) (b:=H.next) (cap:=w*h) (R:=rowsL w h) (by have:=OK.len; unfold orderL at this; omega) om (fun r hr=>by
  obtain⟨q1,q2⟩:=OK.row r hr
  exact⟨q1,q2,(OK.many r.2.2 (List.mem_map_of_mem hr)).2⟩)
 refine acalls_ofN rfl za6 rfl ?_
 simp only[c6,sA,sB,seval]
 refine (right_spec hw hw2 hh hh2).mono ?_
 rintro _ _ ⟨rfl,rfl⟩
 simp only[nilS]at a2
 simp only[sA,sB,seval,hm,a1,a2,a3]
 refine (rows_spec C om hw hw2 hh hh2 (O:=fun c=>c=H1.next∨c=H.next) (H:=H3) ⟨s1,r3,om,om,m3,fun c=>Iff.rfl⟩).mono ?_
 rintro _ H4 ⟨O,⟨s4,r4,v4,ne4,m4,ho4⟩,n4,f4,-⟩
 have l4:oLoad false 1 H4 (cellR H1.next 1 0)=some s4:=row_load r4 rfl rfl
 simp only[sA,sB,seval,l4]
 rw[List.take_length]at m4
 refine⟨m4.cel om,m4.blk _ rL,⟨om,fun c hc=>?_⟩⟩
 rw[f4 c om om,o3 c om,o2 c om,o1 c om]
def z256:List AVal:=[.int .u32 0,.int .u32 0,.int .u32 0,.int .u32 0,.int .u32 0,.int .u32 0,.int .u32 0,.int .u32 0,.int .u32 0,.int .u32 0,.int .u32 0,.int .u32 0,.int .u32 0,.int .u32 0,.int .u32 0,.int .u32 0,.int .u32 0,.int .u32 0,.int .u32 0,.int .u32 0,.int .u32 0,.int .u32 0,.int .u32 0,.int .u32 0,.int .u32 0,.int .u32 0,.int .u32 0,.int .u32 0,.int .u32 0,.int .u32 0,.int .u32 0,.int .u32 0,.int .u32 0,.int .u32 0,.int .u32 0,.int .u32 0,.int .u32 0,.int .u32 0,.int .u32 0,.int .u32 0,.int .u32 0,.int .u32 0,.int .u32 0,.int .u32 0,.int .u32 0,.int .u32 0,.int .u32 0,.int .u32 0,.int .u32 0,.int .u32 0,.int .u32 0,.int .u32 0,.int .u32 0,.int .u32 0,.int .u32 0,.int .u32 0,.int .u32 0,.int .u32 0,.int .u32 0,.int .u32 0,.int .u32 0,.int .u32 0,.int .u32 0,.int .u32 0,.int .u32 0,.int .u32 0,.int .u32 0,.int .u32 0,.int .u32 0,.int .u32 0,.int .u32 0,.int .u32 0,.int .u32 0,.int .u32 0,.int .u32 0,.int .u32 0,.int .u32 0,.int .u32 0,.int .u32 0,.int .u32 0,.int .u32 0,.int .u32 0,.int .u32 0,.int .u32 0,.int .u32 0,.int .u32 0,.int .u32 0,.int .u32 0,.int .u32 0,.int .u32 0,.int .u32 0,.int .u32 0,.int .u32 0,.int .u32 0,.int .u32 0,.int .u32 0,.int .u32 0,.int .u32 0,.int .u32 0,.int .u32 0,.int .u32 0,.int .u32 0,.int .u32 0,.int .u32 0,.int .u32 0,.int .u32 0,.int .u32 0,.int .u32 0,.int .u32 0,.int .u32 0,.int .u32 0,.int .u32 0,.int .u32 0,.int .u32 0,.int .u32 0,.int .u32 0,.int .u32 0,.int .u32 0,.int .u32 0,.int .u32 0,.int .u32 0,.int .u32 0,.int .u32 0,.int .u32 0,.int .u32 0,.int .u32 0,.int .u32 0,.int .u32 0,.int .u32 0,.int .u32 0,.int .u32 0,.int .u32 0,.int .u32 0,.int .u32 0,.int .u32 0,.int .u32 0,.int .u32 0,.int .u32 0,.int .u32 0,.int .u32 0,.int .u32 0,.int .u32 0,.int .u32 0,.int .u32 0,.int .u32 0,.int .u32 0,.int .u32 0,.int .u32 0,.int .u32 0,.int .u32 0,.int .u32 0,.int .u32 0,.int .u32 0,.int .u32 0,.int .u32 0,.int .u32 0,.int .u32 0,.int .u32 0,.int .u32 0,.int .u32 0,.int .u32 0,.int .u32 0,.int .u32 0,.int .u32 0,.int .u32 0,.int .u32 0,.int .u32 0,.int .u32 0,.int .u32 0,.int .u32 0,.int .u32 0,.int .u32 0,.int .u32 0,.int .u32 0,.int .u32 0,.int .u32 0,.int .u32 0,.int .u32 0,.int .u32 0,.int .u32 0,.int .u32 0,.int .u32 0,.int .u32 0,.int .u32 0,.int .u32 0,.int .u32 0,.int .u32 0,.int .u32 0,.int .u32 0,.int .u32 0,.int .u32 0,.int .u32 0,.int .u32 0,.int .u32 0,.int .u32 0,.int .u32 0,.int .u32 0,.int .u32 0,.int .u32 0,.int .u32 0,.int .u32 0,.int .u32 0,.int .u32 0,.int .u32 0,.int .u32 0,.int .u32 0,.int .u32 0,.int .u32 0,.int .u32 0,.int .u32 0,.int .u32 0,.int .u32 0,.int .u32 0,.int .u32 0,.int .u32 0,.int .u32 0,.int .u32 0,.int .u32 0,.int .u32 0,.int .u32 0,.int .u32 0,.int .u32 0,.int .u32 0,.int .u32 0,.int .u32 0,.int .u32 0,.int .u32 0,.int .u32 0,.int .u32 0,.int .u32 0,.int .u32 0,.int .u32 0,.int .u32 0,.int .u32 0,.int .u32 0,.int .u32 0,.int .u32 0,.int .u32 0,.int .u32 0,.int .u32 0,.int .u32 0,.int .u32 0,.int .u32 0,.int .u32 0,.int .u32 0,.int .u32 0,.int .u32 0,.int .u32 0,.int .u32 0,.int .u32 0,.int .u32 0,.int .u32 0,.int .u32 0,.int .u32 0,.int .u32 0,.int .u32 0]
set_option maxRecDepth 100000 in
theorem z256_len:z256.length=256:=rfl
def tabC:List AVal:=(List.range 256).map fun i=>.int .u32 (crcT i:Int)
def tabK(k:Nat):List AVal:=(List.range k).map (fun i=>AVal.int .u32 (crcT i:Int))++z256.drop k
theorem tabK_len{k:Nat}(h:k≤256):(tabK k).length=256:=by
 have:=z256_len
 simp only[tabK,lA,List.length_map,List.length_range,List.length_drop,this]; omega
theorem tabK_set{k:Nat}(h:k<256):(tabK k).set k (.int .u32 (crcT k:Int))=tabK (k+1):=by
 have hz:=z256_len
 unfold tabK
 rw[List.set_append_right _ _ (by simp),List.length_map,List.length_range,Nat.sub_self,List.range_succ,List.map_append,List.append_assoc]
 congr 1
 rw[List.drop_eq_getElem_cons (show k<z256.length by omega)]
 rfl
theorem tabC_at{i:Nat}(h:i<256):tabC[i]?=some (.int .u32 (crcT i:Int)):=by
 unfold tabC
 rw[List.getElem?_map,List.getElem?_range h]; rfl
set_option maxRecDepth 100000 in
theorem tab_256:tabK 256=tabC:=by
 unfold tabK tabC
 rw[List.drop_of_length_le (by exact Nat.le_refl _),List.append_nil]
def itr:Nat→Nat→Nat
 | 0,c=>c
 | n+1,c=>crc1 (itr n c)
theorem itr_lt{c:Nat}(h:c<4294967296):∀n,itr n c<4294967296
 | 0=>h
 | n+1=>crc1_lt (itr_lt h n)
theorem tabC_one:tabC.all AVal.one=true:=by
 rw[List.all_eq_true]
 intro x hx
 obtain⟨i,_,rfl⟩:=List.mem_map.1 hx
 rfl
set_option maxRecDepth 100000 in
theorem table_spec(H:AHeap):ACalls Tryz.prog natT 66 [] H fun v H'=>v=.agg tabC∧Ext H.next H H':=by
 obtain⟨H1,m1,r1,k1,q1⟩:=row_newL H z256 z256_len
 obtain⟨H2,m2,r2,k2,q2⟩:=row_newL H1 z256 z256_len
 refine acalls_ofN rfl za66 rfl ?_
 simp only[z256]at m1 m2
 simp only[c66,sA,sB,seval,m1,m2]
 refine aw_loop (fun m (T:Env) H'=>∃k,m=256-k∧k≤256∧T 0=cellR H.next 256 0∧T 1=cellR H1.next 256 0∧T 4=.int .i64 (k:Int)∧Row H' H1.next (tabK k)∧H'.next=H2.next∧∀c,c≠H1.next→H'.get c=H2.get c) 256
  ⟨0,rfl,om,by simp only[sA,sB,seval],by simp only[sA,sB,seval],by simp only[sA,sB,seval]; try rfl,r2,rfl,fun _ _=>rfl⟩ ?_
 rintro m T H3 ⟨k,rfl,hk,t0,t1,t4,r3,n3,f3⟩
 by_cases hlt:k<256
 case neg=>
  have hlt':¬(k:Int)<256:=om
  obtain rfl:k=256:=om
  have r0:Row H3 H.next z256:=r1.same (by rw[f3 _ om,q2 _ om])
  rw[tab_256]at r3
  have l1:=row_loadN r3 (n:=256) (by unfold tabC; simp)
  obtain⟨H4,m4,r4,k4,q4⟩:=row_storeN r0 z256_len (xs:=tabC) (by unfold tabC; simp) tabC_one
  simp only[sA,sB,seval,t0,t1,t4,hlt',l1,m4]
  exact fin_c1 _ _ _ _ (by simp only[sA,sB,seval,t0]; exact row_loadN r4 (n:=256) (by unfold tabC; simp)) ⟨rfl,⟨om,fun c hc=>by rw[q4 c om,f3 c om,q2 c om,q1 c om]⟩⟩
 have hlt':(k:Int)<256:=om
 have w0:IntKind.u32.wrap (k:Int)=(k:Int):=wrapU32 om om
 have w1:IntKind.i64.wrap ((k:Int)+1)=((k+1:Nat):Int):=w64
 simp only[sA,sB,seval,t0,t1,t4,hlt',w0]
 refine aw_loop (fun m (T:Env) H'=>∃j,m=8-j∧j≤8∧T 0=cellR H.next 256 0∧T 1=cellR H1.next 256 0∧T 2=.int .i64 (k:Int)∧T 3=.int .u32 (itr j k:Int)∧T 4=.int .i64 (k:Int)∧T 9=.int .i64 (j:Int)∧H'=H3) 8
  ⟨0,rfl,om,by simp only[sA,sB,seval,t0],by simp only[sA,sB,seval,t1],by simp only[sA,sB,seval],by simp only[sA,sB,seval]; try rfl,by simp only[sA,sB,seval,t4],by simp only[sA,sB,seval]; try rfl,rfl⟩ ?_
 rintro m T _ ⟨j,rfl,hj,u0,u1,u2,u3,u4,u9,rfl⟩
 by_cases hjl:j<8
 case neg=>
  have hjl':¬(j:Int)<8:=om
  obtain rfl:j=8:=om
  have u3':T 3=.int .u32 (crcT k:Int):=u3
  obtain⟨H4,m4,r4,k4,q4⟩:=row_st r3 (n:=256) (tabK_len hk) (i:=k) hlt (x:=.int .u32 (crcT k:Int)) rfl (tabK_set hlt)
  have ix:aIdxArr 256 1 (cellR H1.next 256 0) (.int .i64 (k:Int))=some (cellR H1.next 256 k):=by
   have hb:Nat.blt k 256=true:=by simpa[Nat.blt_eq] using hlt
   show (bif Nat.blt k 256 then some (AVal.ptr (some ⟨H1.next,256,0+k*1⟩)) else none)=_
   rw[hb,Nat.zero_add,Nat.mul_one]; rfl
  simp only[sA,sB,seval,u0,u1,u2,u3',u4,u9,hjl',ix,m4,w1]
  exact⟨256-(k+1),om,k+1,rfl,om,tt,tt,tt,r4,om,fun c hc=>by rw[q4 c hc,f3 c hc]⟩
 have hjl':(j:Int)<8:=om
 have hc:itr j k<4294967296:=itr_lt om j
 have w9:IntKind.i64.wrap ((j:Int)+1)=((j+1:Nat):Int):=w64
 have e1:itr (j+1) k=crc1 (itr j k):=rfl
 generalize itr j k=c at *
 have ha:aBin .and (.int .u32 (c:Int)) (.int .u32 1)=some (.int .u32 ((c % 2:Nat):Int)):=by
  have:=bin_andU .u32 (.inr (.inr (.inl rfl))) (a:=c) (b:=1) (by simpa[IntKind.bits] using hc) (by simp[IntKind.bits])
  rw[Nat.and_two_pow_sub_one_eq_mod c 1]at this
  exact this
 have hs:aBin .shr (.int .u32 (c:Int)) (.int .u64 1)=some (.int .u32 ((c / 2:Nat):Int)):=shrN .u32 .u64 c (b:=1) (by simp[IntKind.bits])
 have hx:aBin .xor (.int .u32 ((c / 2:Nat):Int)) (.int .u32 3988292384)=some (.int .u32 (((c / 2) ^^^ 3988292384:Nat):Int)):=
  bin_xorU .u32 (.inr (.inr (.inl rfl))) (a:=c / 2) (b:=3988292384) (by simp only[IntKind.bits]; omega) (by simp[IntKind.bits])
 by_cases h1:c % 2=1
 ·have h1':((c % 2:Nat):Int)=1:=om
  simp only[sA,sB,seval,u0,u1,u2,u3,u4,u9,hjl',ha,h1',hs,hx,w9]
  exact⟨8-(j+1),om,j+1,rfl,om,tt,tt,tt,by rw[e1,crc1,if_pos h1],tt,tt,tt⟩
 ·have h1':¬((c % 2:Nat):Int)=1:=om
  simp only[sA,sB,seval,u0,u1,u2,u3,u4,u9,hjl',ha,h1',hs,hx,w9]
  exact⟨8-(j+1),om,j+1,rfl,om,tt,tt,tt,by rw[e1,crc1,if_neg h1],tt,tt,tt⟩
theorem un_not32{c:Nat}(h:c<4294967296):aUn .xor (.int .u32 (c:Int))=some (.int .u32 ((4294967295-c:Nat):Int)):=by
 have e:aUn .xor (.int .u32 (c:Int))=some (.int .u32 (IntKind.u32.wrap ((BitVec.ofInt 32 4294967295 ^^^ BitVec.ofInt 32 (c:Int)).toNat:Int))):=_root_.id rfl
 have e2:(BitVec.ofInt 32 4294967295 ^^^ BitVec.ofInt 32 (c:Int)).toNat=4294967295-c:=by
  have a:(BitVec.ofInt 32 4294967295)=BitVec.allOnes 32:=by decide
  rw[a,BitVec.allOnes_xor,BitVec.toNat_not,BitVec.ofInt_natCast,BitVec.toNat_ofNat]
  omega
 rw[e,e2,wrapU32 om om]
set_option maxRecDepth 100000 in
theorem crc_spec{n:Nat}{H:AHeap}{v:AVal}{b:Bs}(h:Cel n H v (byts b))(hl:b.length≤1000000)(hn:n≤H.next) :
  ACalls Tryz.prog natT 45 [.int .u32 0,v] H fun w H'=>w=.int .u32 (crcF b:Int)∧Ext H.next H H':=by
 have hlen:aLenK false v=some (.int .i64 (b.length:Int)):=by have:=h.len; rwa [byts_len]at this
 refine acalls_ofN rfl za45 rfl ?_
 by_cases h0:b.length=0
 ·obtain rfl:b=[]:=List.length_eq_zero_iff.1 h0
  simp only[c45,sA,sB,seval,hlen,List.length_nil,Int.natCast_zero]
  exact⟨tt,Ext.refl _ _⟩
 have h0':¬(b.length:Int)=0:=om
 simp only[c45,sA,sB,seval,hlen,h0']
 refine (table_spec H).mono ?_
 rintro _ H1 ⟨rfl,E1⟩
 have e1n:=E1.next
 obtain⟨H2,m2,r2,k2,q2⟩:=row_newL H1 z256 z256_len
 obtain⟨H3,m3,r3,k3,q3⟩:=row_storeN r2 z256_len (xs:=tabC) (by unfold tabC; simp) tabC_one
 have E3:Ext H.next H H3:=⟨om,fun c hc=>by rw[q3 c om,q2 c om,E1.old c hc]⟩
 have h3:=h.ext (E3.less hn)
 have un0:aUn .xor (.int .u32 0)=some (.int .u32 4294967295):=_root_.id rfl
 simp only[z256]at m2
 simp only[sA,sB,seval,m2,m3,un0,hlen]
 refine aw_loop (fun m (T:Env) H'=>∃j,m=b.length-j∧j≤b.length∧T 5=cellR H1.next 256 0∧T 6=.int .u32 (((b.take j).foldl crcS 4294967295:Nat):Int)∧T 16=v∧T 17=.int .i64 (b.length:Int)∧T 18=.int .i64 (j:Int)∧H'=H3) b.length
  ⟨0,rfl,om,by simp only[sA,sB,seval],by simp only[sA,sB,seval]; try rfl,by simp only[sA,sB,seval],by simp only[sA,sB,seval],by simp only[sA,sB,seval]; try rfl,rfl⟩ ?_
 rintro m T _ ⟨j,rfl,hj,t5,t6,t16,t17,t18,rfl⟩
 have hc:=crcs_lt (c:=4294967295) om (b.take j)
 by_cases hlt:j<b.length
 case neg=>
  have hlt':¬(j:Int)<(b.length:Int):=om
  obtain rfl:j=b.length:=om
  rw[List.take_length]at t6 hc
  have un:aUn .xor (.int .u32 ((b.foldl crcS 4294967295:Nat):Int))=some (.int .u32 (crcF b:Int)):=un_not32 hc
  simp only[sA,sB,seval,t5,t6,t16,t17,t18,hlt',un]
  exact⟨tt,E3⟩
 have hlt':(j:Int)<(b.length:Int):=om
 obtain⟨x,hb⟩:∃x,b[j]?=some x:=⟨_,List.getElem?_eq_getElem hlt⟩
 have hidx:=h3.idx .i64 (i:=j) (by rw[byts_len]; exact hlt)
 have hld:=h3.load (byts_get hb)
 have hxl:=x.toNat_lt
 have e1:(b.take (j+1)).foldl crcS 4294967295=crcS ((b.take j).foldl crcS 4294967295) x:=by
  rw[take_snoc hb,List.foldl_append]; rfl
 generalize (b.take j).foldl crcS 4294967295=c at *
 have hs:aBin .shr (.int .u32 (c:Int)) (.int .u64 8)=some (.int .u32 ((c / 256:Nat):Int)):=shrN .u32 .u64 c (b:=8) (by simp[IntKind.bits])
 have w8:IntKind.u8.wrap (c:Int)=((c % 256:Nat):Int):=by rw[IntKind.wrap_u8]; omega
 have hx:aBin .xor (.int .u8 ((c % 256:Nat):Int)) (.int .u8 (x.toNat:Int))=some (.int .u8 (((c % 256) ^^^ x.toNat:Nat):Int)):=
  bin_xorU .u8 (.inl rfl) (a:=c % 256) (b:=x.toNat) (by simp only[IntKind.bits]; omega) (by simp only[IntKind.bits]; omega)
 have hi:=xor_byte (a:=c % 256) om x
 obtain⟨i,hi2⟩:∃i,i=(c % 256) ^^^ x.toNat:=⟨_,rfl⟩
 rw[← hi2]at hx hi
 have ix:aIdxArr 256 1 (cellR H1.next 256 0) (.int .u8 (i:Int))=some (cellR H1.next 256 i):=by
  have hb:Nat.blt i 256=true:=by simpa[Nat.blt_eq] using hi
  show (bif Nat.blt i 256 then some (AVal.ptr (some ⟨H1.next,256,0+i*1⟩)) else none)=_
  rw[hb,Nat.zero_add,Nat.mul_one]; rfl
 have ld:=row_load r3 (n:=256) (by unfold tabC; simp) (tabC_at hi)
 have hx2:aBin .xor (.int .u32 ((c / 256:Nat):Int)) (.int .u32 (crcT i:Int))=some (.int .u32 (crcS c x:Int)):=by
  have:=bin_xorU .u32 (.inr (.inr (.inl rfl))) (a:=c / 256) (b:=crcT i) (by simp only[IntKind.bits]; omega) (by have:=crcT_lt hi; simpa only [IntKind.bits] using this)
  rw[this,crcS,hi2]
 have w1:IntKind.i64.wrap ((j:Int)+1)=((j+1:Nat):Int):=w64
 simp only[sA,sB,seval,t5,t6,t16,t17,t18,hlt',hidx,hld,hs,w8,hx,ix,ld,hx2,w1]
 exact⟨b.length-(j+1),om,j+1,rfl,om,tt,by rw[e1],tt,tt,tt,tt⟩
def Gw(H:AHeap)(s:AVal)(H':AHeap)(v:AVal):Prop:=H.next≤H'.next∧(∀P,Blk s P→Blk v fun b=>P b∨H.next≤b)∧∀c,c<H.next→Blk s (c≠·)→H'.get c=H.get c
theorem Gw.refl(H:AHeap)(s:AVal):Gw H s H s:=⟨Nat.le_refl _,fun P h=>h.mono fun b hb=>.inl hb,fun _ _ _=>rfl⟩
theorem Gw.trans{H H1 H2:AHeap}{s v w:AVal}(h:Gw H s H1 v)(k:Gw H1 v H2 w):Gw H s H2 w:=by
 obtain⟨a1,a2,a3⟩:=h
 obtain⟨b1,b2,b3⟩:=k
 refine⟨om,fun P hP=>(b2 _ (a2 P hP)).mono fun b hb=>?_,fun c hc hs=>?_⟩
 ·rcases hb with (hb | hb) | hb
  ·exact .inl hb
  ·exact .inr hb
  ·exact .inr om
 ·rw[b3 c om ((a2 _ hs).mono fun b hb=>hb.elim id fun q=>om),a3 c hc hs]
theorem Gw.ext{H H1 H2:AHeap}{s v:AVal}(h:Gw H s H1 v)(e:Ext H1.next H1 H2):Gw H s H2 v:=
 ⟨by have:=e.next; have:=h.1; omega,h.2.1,fun c hc hs=>by rw[e.old c (by have:=h.1; omega),h.2.2 c hc hs]⟩
theorem Gw.pre{H H1 H2:AHeap}{s v:AVal}(e:Ext H.next H H1)(h:Gw H1 s H2 v):Gw H s H2 v:=
 ⟨by have:=e.next; have:=h.1; omega,fun P hP=>(h.2.1 P hP).mono fun b hb=>hb.imp id fun q=>by have:=e.next; omega,fun c hc hs=>by rw[h.2.2 c (by have:=e.next; omega) hs,e.old c hc]⟩
theorem Gw.new{H H':AHeap}{v:AVal}(h:Gw H nilS H' v):Blk v (H.next≤·):=(h.2.1 (fun _=>False) (blk_nil _)).mono fun _ hb=>hb.elim False.elim id
theorem Gw.ext0{H H':AHeap}{v:AVal}(h:Gw H nilS H' v):Ext H.next H H':=⟨h.1,fun c hc=>h.2.2 c hc (blk_nil _)⟩
def Ap(H:AHeap)(s:AVal)(a:Bs):Prop:=AppN 1 0 H s (byts a) a.length∨∃b,s=slR b a.length (.known a.length)∧b<H.next∧Row H b (byts a)
theorem Ap.same{H H':AHeap}{s:AVal}{a:Bs}(h:Ap H s a)(hn:H.next≤H'.next)(e:Blk s fun c=>H'.get c=H.get c):Ap H' s a:=by
 rcases h with h | ⟨b,rfl,h1,h2⟩
 ·exact .inl (h.same hn e)
 ·exact .inr ⟨b,rfl,om,h2.same (e _ _ _ rfl)⟩
theorem Ap.blk{H:AHeap}{s:AVal}{a:Bs}(h:Ap H s a):Blk s (·<H.next):=by
 rcases h with h | ⟨b,rfl,h1,h2⟩
 ·exact h.blk'
 ·exact blk_some h1
theorem Ap.push{H:AHeap}{s x:AVal}{a l:Bs}(h:Ap H s a)(hx:aSrc 1 H x=some (l.length,byts l))(h0:0<l.length)(hl:a.length+l.length≤1000000) :
  ∃s' H',aAppend 1 1 H s x=some (s',H')∧AppN 1 0 H' s' (byts (a++l)) (a++l).length∧Gw H s H' s':=by
 rcases h with h | ⟨b,rfl,h1,h2⟩
 ·obtain⟨s',H',q1,q2,q3,q4,q5⟩:=app_bytes h hx hl
  exact⟨s',H',q1,q2,q3,q4,q5⟩
 ·have hr:=rd_row h2 (byts_len a) (i:=0) (k:=a.length) (Nat.le_of_eq (Nat.zero_add _))
  rw[List.drop_zero,List.take_of_length_le (by rw[byts_len]; exact Nat.le_refl _)]at hr
  have c1:(Nat.blt 0 1&&(Nat.ble ((2*(a.length+l.length)+0)*1) 281474976710656&&(Nat.ble (a.length+l.length) 9223372036854775807&&(Nat.beq (byts l).length (l.length*1)&&(byts l).all AVal.one))))=true:=by
   simp only[Nat.add_zero,Nat.mul_one,Nat.ble_eq_true_of_le (show 2*(a.length+l.length)≤281474976710656 by omega),Nat.ble_eq_true_of_le (show a.length+l.length≤9223372036854775807 by omega),byts_len,Nat.beq_refl,byts_one,Bool.and_self,show Nat.blt 0 1=true from rfl]
  have c2:Nat.ble (a.length+l.length) a.length=false:=by
   rw[ble_dec]; exact decide_eq_false om
  have c3:Nat.beq l.length 0=false:=by
   cases hq:Nat.beq l.length 0 with
   | false=>rfl
   | true=>have:=Nat.eq_of_beq_eq_true hq; omega
  have el:(byts a++byts l).length=a.length+l.length:=by rw[lA,byts_len,byts_len]
  refine⟨.slice (some ⟨H.next,a.length+l.length,0⟩) (a.length+l.length) (.open_ 1),H.push (.cells (byts a++byts l) 0 false),?_,?_,?_⟩
  ·simp only[aAppend,hx,slR,c3,cond_false,c1,cond_true,c2]
   simp only[Nat.mul_one,hr,el]
  ·rw[byts_append,show (a++l).length=a.length+l.length from lA]
   exact .inr ⟨H.next,0,by rw[el],by rw[el,Nat.one_mul],Nat.zero_le _,Nat.lt_succ_self _,by rw[AHeap.get_push,if_pos rfl],Nat.zero_le _,om⟩
  ·exact⟨by rw[push_next]; omega,fun P _=>blk_some (.inr rL),fun c hc _=>get_push_lt hc⟩
theorem hfM(H:AHeap)(l:List AVal):aHf .mark H l=aMark H l:=_root_.id rfl
theorem lit_cel(H:AHeap)(d:Bs){m:Nat}(hm:d.length=m):Cel (H.next+1) (H.push (.cells (byts d) 0 false)) (slR H.next m (.known m)) (byts d):=(lit_arg H d hm).cel
theorem be4_byts(n:Nat):byts (be4 n)=[.int .u8 ((n / 16777216 % 256:Nat):Int),.int .u8 ((n / 65536 % 256:Nat):Int),.int .u8 ((n / 256 % 256:Nat):Int),.int .u8 ((n % 256:Nat):Int)]:=by
 simp only[be4,byts,List.map_cons,List.map_nil,UInt8.toNat_ofNat',show (2:Nat) ^ 8=256 from rfl,Nat.mod_mod]
theorem efour_spec{H:AHeap}{s:AVal}{a:Bs}{n:Nat}(A:Ap H s a)(hn:n<4294967296)(ha:a.length≤900000):ACalls Tryz.prog natT 38 [s,.int .u32 (n:Int)] H fun v H'=>AppN 1 0 H' v (byts (a++be4 n)) (a++be4 n).length∧Gw H s H' v:=by
 refine acalls_ofN rfl za38 rfl ?_
 have hsr:∀k:Nat,k≤32→aBin .shr (.int .u32 (n:Int)) (.int .u64 (k:Int))=some (.int .u32 ((n / 2 ^ k:Nat):Int)):=fun k hk=>shrN .u32 .u64 n hk
 have h24:aBin .shr (.int .u32 (n:Int)) (.int .u64 24)=some (.int .u32 ((n / 16777216:Nat):Int)):=hsr 24 om
 have h16:aBin .shr (.int .u32 (n:Int)) (.int .u64 16)=some (.int .u32 ((n / 65536:Nat):Int)):=hsr 16 om
 have h08:aBin .shr (.int .u32 (n:Int)) (.int .u64 8)=some (.int .u32 ((n / 256:Nat):Int)):=hsr 8 om
 have wu:∀a:Nat,IntKind.u8.wrap (a:Int)=((a % 256:Nat):Int):=fun a=>wrap_um .u8 (.inl rfl) a
 have bs:=build4 H ((n / 16777216 % 256:Nat):Int) ((n / 65536 % 256:Nat):Int) ((n / 256 % 256:Nat):Int) ((n % 256:Nat):Int)
 rw[← be4_byts]at bs
 have E:Ext H.next H (H.push (.cells (byts (be4 n)) 0 false)):=⟨by rw[push_next]; omega,fun c hc=>get_push_lt hc⟩
 obtain⟨s',H',m,A',G⟩:=(A.same (H':=H.push (.cells (byts (be4 n)) 0 false)) E.next (A.blk.mono fun c hc=>get_push_lt hc)).push (src_cel (lit_cel H (be4 n) (m:=4) rfl)) (by rw[be4_len]; omega) (by rw[be4_len]; omega)
 simp only[c38,sA,sB,seval,h24,h16,h08,conv_in,wu,bs,m]
 exact⟨A',Gw.pre E G⟩
theorem chunk_spec{H:AHeap}{s v:AVal}{a kind body:Bs}{n:Nat}(A:Ap H s a)(hv:Cel n H v (byts body))(hn:n≤H.next)(hsv:Blk v fun c=>Blk s (c≠·))(hk:kind.length=4)(ha:a.length+body.length≤800000) :
  ACalls Tryz.prog natT 21 [s,.str kind,v] H fun w H'=>AppN 1 0 H' w (byts (a++chunkF kind body)) (a++chunkF kind body).length∧Gw H s H' w:=by
 refine acalls_ofN rfl za21 rfl ?_
 have lv:=hv.len
 rw[byts_len]at lv
 have w1:IntKind.u32.wrap (body.length:Int)=(body.length:Int):=wrapU32 om om
 simp only[c21,sA,sB,seval,lv,w1]
 refine (efour_spec A om om).mono ?_
 rintro s1 H1 ⟨A1,G1⟩
 have l1:=A1.len
 rw[lA,be4_len]at l1
 have hv1:Cel H1.next H1 v (byts body):=cel_same hv (by have:=G1.1; omega) (((cel_blk hv).and hsv).mono fun c hc=>G1.2.2 c om hc.2)
 obtain⟨s2,H2,m2,A2,q1,q2,q3⟩:=app_bytes A1 (src_str H1 kind) (by rw[lA,be4_len]; omega)
 have G2:Gw H1 s1 H2 s2:=⟨q1,q2,q3⟩
 have b1:Blk v fun c=>Blk s1 (c≠·):=((cel_blk hv).and hsv).mono fun c hc=>(G1.2.1 _ hc.2).mono fun d hd=>hd.elim id fun q=>om
 have hv2:Cel H2.next H2 v (byts body):=cel_same hv1 (by have:=G2.1; omega) (((cel_blk hv1).and b1).mono fun c hc=>G2.2.2 c om hc.2)
 obtain⟨s3,H3,m3,A3,q4,q5,q6⟩:=app_bytes A2 (src_cel hv2) (by simp only[lA,be4_len]; omega)
 have G3:Gw H2 s2 H3 s3:=⟨q4,q5,q6⟩
 have l3:=A3.len
 obtain⟨s4,m4,C4,-⟩:=A3.from_ (lo:=a.length+4) (by simp only[lA,be4_len]; omega)
 have e4:(byts (a++be4 body.length++kind++body)).drop (a.length+4)=byts (kind++body):=by
  rw[byts_drop,List.append_assoc,List.drop_left' (by rw[lA,be4_len])]
 rw[e4]at C4
 simp only[sA,sB,seval,l1,m2,m3,m4]
 refine (crc_spec C4 (by rw[lA]; omega) rL).mono ?_
 rintro _ H4 ⟨rfl,E4⟩
 have A4:=A3.same (H':=H4) E4.next (A3.blk'.mono fun c hc=>E4.old c hc)
 simp only[sA,sB,seval]
 refine (efour_spec (.inl A4) (by have:=crcF_lt (kind++body); omega) (by simp only[lA,be4_len]; omega)).mono ?_
 rintro s5 H5 ⟨A5,G5⟩
 have e5:a++be4 body.length++kind++body++be4 (crcF (kind++body))=a++chunkF kind body:=by simp only[chunkF,List.append_assoc]
 rw[e5]at A5
 simp only[sA,sB,seval]
 exact⟨A5,((G1.trans G2).trans G3).trans (Gw.pre E4 G5)⟩
def eC(w h left:Nat)(rows:AVal)(at_:Nat)(st:AVal):List AVal:=[.bool true,.int .i64 (w:Int),.int .i64 (h:Int),.int .i64 (left:Int),rows,.int .i64 (at_:Int),st]
theorem head_spec{H:AHeap}{e w h left at_:Nat}{rows st:AVal}(R:Row H e (eC w h left rows at_ st))(hw:w≤20)(hh:h≤20)(he:e<H.next) :
  ACalls Tryz.prog natT 18 [cellR e 7 0] H fun v H'=>AppN 1 0 H' v (byts (headF w h)) (headF w h).length∧Blk v (H.next≤·)∧Ext H.next H H':=by
 refine acalls_ofN rfl za18 rfl ?_
 have l1:oLoad false 1 H (cellR e 7 1)=some (.int .i64 (w:Int)):=row_load R rfl rfl
 have w1:IntKind.u32.wrap (w:Int)=(w:Int):=wrapU32 om om
 have w2:IntKind.u32.wrap (h:Int)=(h:Int):=wrapU32 om om
 simp only[c18,sA,sB,seval]
 refine aw_drawC rfl ?_
 simp only[sR,sA,sB,seval,nil_cell,fldA,fld0,l1,w1]
 refine (efour_spec (.inl (app_nil H)) om (by simp)).mono ?_
 rintro s1 H1 ⟨A1,G1⟩
 have E1:=G1.ext0
 have l2:oLoad false 1 H1 (cellR e 7 2)=some (.int .i64 (h:Int)):=row_load (R.same (E1.old e he)) rfl rfl
 simp only[sR,sA,sB,seval,nil_cell,fldA,fld0,l2,w2]
 refine (efour_spec (.inl A1) om (by simp[be4_len])).mono ?_
 rintro s2 H2 ⟨A2,G2⟩
 have b2:=(G1.trans G2).new
 have E2:=(G1.trans G2).ext0
 have e2n:=E2.next
 have bs:aBuildSl 8 [.int .u8 0] H2 [(0,1,.int .u8 137),(1,1,.int .u8 80),(2,1,.int .u8 78),(3,1,.int .u8 71),(4,1,.int .u8 13),(5,1,.int .u8 10),(6,1,.int .u8 26),(7,1,.int .u8 10)]=some (slR H2.next 8 (.known 8),H2.push (.cells (byts sigB) 0 false)):=_root_.id rfl
 have g3:(H2.push (.cells (byts sigB) 0 false)).get H2.next=some (.cells (byts sigB) 0 false):=by rw[AHeap.get_push,if_pos rfl]
 obtain⟨H3,hH3⟩:∃H3,H3=(H2.push (.cells (byts sigB) 0 false)).set H2.next (.cells (byts sigB) 0 false):=⟨_,rfl⟩
 have mk:aMark (H2.push (.cells (byts sigB) 0 false)) [slR H2.next 8 (.known 8)]=some (slR H2.next 8 (.known 8),H3):=by
  simp only[aMark,slR,g3,hH3]
 have n3:H3.next=H2.next+1:=by rw[hH3,set_next,push_next]
 have q3:∀c,c≠H2.next→H3.get c=H2.get c:=fun c hc=>by rw[hH3,AHeap.get_set,if_neg hc,AHeap.get_push,if_neg hc]
 have r3:Row H3 H2.next (byts sigB):=⟨0,by rw[hH3,AHeap.get_set,if_pos rfl],Nat.zero_le _⟩
 have A3:=A2.same (H':=H3) om (A2.blk'.mono fun c hc=>q3 c om)
 have bs5:aBuildSl 5 [.int .u8 0] H3 [(0,1,.int .u8 8),(1,1,.int .u8 6),(2,1,.int .u8 0),(3,1,.int .u8 0),(4,1,.int .u8 1)]=some (slR H3.next 5 (.known 5),H3.push (.cells (byts [8,6,0,0,1]) 0 false)):=_root_.id rfl
 have A3':=A3.same (H':=H3.push (.cells (byts [8,6,0,0,1]) 0 false)) (by rw[push_next]; omega) (A3.blk'.mono fun c hc=>get_push_lt hc)
 obtain⟨s4,H4,m4,A4,n4,b4,o4⟩:=app_bytes A3' (src_cel (lit_cel H3 [8,6,0,0,1] (m:=5) rfl)) (by simp only[lA,be4_len,List.length_nil]; decide)
 rw[push_next]at n4 b4 o4
 have r4:Row H4 H2.next (byts sigB):=r3.same (by rw[o4 _ om (A2.blk'.mono fun c hc=>om),get_push_lt om])
 have b4':Blk s4 fun c=>H.next≤c∧c≠H2.next:=(b4 _ (A2.blk'.and b2)).mono fun c hc=>om
 have hb4:([]:Bs)++be4 w++be4 h++[8,6,0,0,1]=headB w h:=rfl
 rw[hb4]at A4
 have E4:Ext H.next H H4:=⟨om,fun c hc=>by rw[o4 c om (b2.mono fun d hd=>om),get_push_lt om,q3 c om,E2.old c hc]⟩
 have e4n:=E4.next
 simp only[sR,sA,sB,seval,bs,hfM,mk,bs5,m4]
 refine⟨?_,?_⟩
 ·simp only[ck_nil',ck_cons,ck_end,ckP_nil,ckP_load]
  exact⟨⟨⟨H,rfl,fun _=>⟨_,row_load R rfl rfl,aeq_int _ _⟩⟩,trivial⟩,trivial⟩
 refine (chunk_spec (a:=sigB) (kind:=kIHDR) (.inr ⟨H2.next,rfl,om,r4⟩) (A4.cel1 A4.blk') rL (b4'.mono fun c hc=>blk_some hc.2) rfl (by show 8+13≤800000; decide)).mono ?_
 rintro s5 H5 ⟨A5,G5⟩
 simp only[sA,sB,seval]
 refine⟨A5,(G5.2.1 (H2.next≤·) (blk_some rL)).mono fun c hc=>om,by have:=G5.1; omega,fun c hc=>by rw[G5.2.2 c om (blk_some (show c≠H2.next by omega)),E4.old c hc]⟩
theorem lt_pack{bg:Bool}{T:List Bool}:∀x∈hd bg++pack T,x<256:=by
 intro x hx
 rcases List.mem_append.1 hx with h | h
 ·cases bg <;> simp[hd]at h
  omega
 ·exact pack_lt h
theorem lt_end{bg:Bool}{T:List Bool}{s:Nat}:∀x∈hd bg++pack T++fourL s,x<256:=by
 intro x hx
 rcases List.mem_append.1 hx with h | h
 ·exact lt_pack x h
 ·simp only[fourL,List.mem_cons,List.not_mem_nil,or_false]at h; omega
theorem blk_flip{s v:AVal}(h:Blk v fun c=>Blk s (c≠·)):Blk s fun c=>Blk v (c≠·):=fun a m r e a' m' r' e' q=>h a' m' r' e' a m r e q.symm
def idatF(told:Bs):Bs:=if told=[] then [] else chunkF kIDAT told
def iendF(left:Nat):Bs:=if left=0 then chunkF kIEND [] else []
theorem put12{T:Env}{H:AHeap}{K:AVal→AHeap→Prop}{e w h left at_:Nat}{rows st s tv:AVal}{a told:Bs}(t0:T 0=cellR e 7 0)(R:Row H e (eC w h left rows at_ st))(he:e<H.next)(t6:T 6=s)(A:AppN 1 0 H s (byts a) a.length)(t8:T 8=tv)(C:Cel H.next H tv (byts told))(hs:Blk tv fun c=>Blk s (c≠·))(hse:Blk s (e≠·))(hl:a.length+told.length≤700000)
  (hK:∀v H',AppN 1 0 H' v (byts (a++idatF told++iendF left)) (a++idatF told++iendF left).length→Gw H s H' v→K (.tuple [v,.int .i64 0]) H'):wp (ACalls Tryz.prog natT) (restP [1,1,1,1,1,1,1,1,1,1,1,1] c7.body) (fin [.t 4,.t 5] K) T H:=by
 have lt:=C.len
 rw[byts_len]at lt
 have main:∀T' H' s',T' 0=cellR e 7 0→T' 6=s'→AppN 1 0 H' s' (byts (a++idatF told)) (a++idatF told).length→Gw H s H' s'→(a++idatF told).length≤750000→wp (ACalls Tryz.prog natT) (restP [1,1,1,1,1,1,1,1,1,1,1,1,1] c7.body) (fin [.t 4,.t 5] K) T' H':=by
  intro T' H' s' u0 u6 A' G hl'
  have R':=R.same (G.2.2 e he hse)
  have l3:oLoad false 1 H' (cellR e 7 3)=some (.int .i64 (left:Int)):=row_load R' rfl rfl
  by_cases h0:left=0
  ·subst h0
   have l3':oLoad false 1 H' (cellR e 7 3)=some (.int .i64 0):=l3
   have ef:iendF 0=chunkF kIEND []:=rfl
   rw[ef]at hK
   simp only[c7,restP,sA,sB,seval,u0,u6,nil_cell,fldA,fld0,l3']
   refine (chunk_spec (kind:=kIEND) (body:=[]) (.inl A') (.inl ⟨rfl,rfl⟩) (Nat.zero_le _) (blk_nil _) rfl (by simp only[List.length_nil]; omega)).mono ?_
   rintro s5 H5 ⟨A5,G5⟩
   simp only[sA,sB,seval]
   exact hK _ _ A5 (G.trans G5)
  ·have h0':¬(left:Int)=0:=om
   have ef:iendF left=[]:=by unfold iendF; rw[if_neg h0]
   rw[ef,List.append_nil]at hK
   simp only[c7,restP,sA,sB,seval,u0,u6,nil_cell,fldA,fld0,l3,h0']
   exact hK _ _ A' G
 by_cases h0:told=[]
 ·subst h0
  have ei:idatF []=[]:=rfl
  rw[ei,List.append_nil]at main
  have lt':aLenK false tv=some (.int .i64 0):=lt
  refine wp_cutP [1] ?_
  simp only[c7,restP,sC,sA,sB,seval,t8,lt']
  exact main _ _ s (by simp only[sA,sB,seval,t0]) (by simp only[sA,sB,seval,t6]) A (Gw.refl _ _) (by simp only[List.length_nil]at hl; omega)
 ·have hpos:0<told.length:=List.length_pos_iff.2 h0
  have hp':(0:Int)<(told.length:Int):=om
  have ei:idatF told=chunkF kIDAT told:=by unfold idatF; rw[if_neg h0]
  rw[ei]at main
  refine wp_cutP [1] ?_
  simp only[c7,restP,sC,sA,sB,seval,t8,lt,hp',t6]
  refine (chunk_spec (kind:=kIDAT) (.inl A) C rL hs rfl om).mono ?_
  rintro s5 H5 ⟨A5,G5⟩
  simp only[sA,sB,seval]
  exact main _ _ s5 (by simp only[sA,sB,seval,t0]) (by simp only[sA,sB,seval]) A5 G5 (by rw[lA,chunkF_len rfl]; omega)
def endB8(bg:Bool)(b:Bs):Bs:=(hd bg++pack ([]++endX ([]:List Bool).length b 0)++fourL (adler 1 b)).map UInt8.ofNat
theorem endX_len{b:Bs}(hl:b.length≤4096):(pack ([]++endX ([]:List Bool).length b 0)).length≤20000:=by
 have hbl:=blkB_len 1 ([]:List Bool).length (b:=b) (sent:=0) (to:=b.length) (Nat.zero_le _) rL
 have hf:fillN (([]:List Bool).length+(blkB 1 ([]:List Bool).length b 0 b.length).length)≤7:=by unfold fillN; omega
 rw[pack_len]
 unfold endX
 simp only[List.nil_append,lA,List.length_replicate]; omega
theorem endB8_len{bg:Bool}{b:Bs}(hl:b.length≤4096):(endB8 bg b).length≤20010:=by
 have:=endX_len hl
 have hdl:(hd bg).length≤2:=by cases bg <;> simp[hd]
 simp only[endB8,List.length_map,lA,fourL,List.length_cons,List.length_nil]at this ⊢; omega
structure PE(m:Nat)(τ:Nat→Nat)(H:AHeap)(e z w h left:Nat)(rows:List Nat)(at_:Nat)(bg:Bool)(b:Bs):Prop where
 zw:∃n0 K,ZW n0 τ H z bg b 0 K [] 0
 ro:∃s,Row H e (eC w h left s at_ (cellR z 5 0))∧Op m H s (nats rows)∧Blk s (fun c=>τ c=0∧c≠z∧c≠e)
 en:e<H.next
 et:τ e=0
 ez:e≠z
theorem u8s_hd(bg:Bool):u8s (hd bg)=byts ((hd bg).map UInt8.ofNat):=u8s_byts (by intro x hx; cases bg <;> simp[hd]at hx; omega)
theorem ZW.lt{n0:Nat}{τ:Nat→Nat}{H:AHeap}{z:Nat}{bg:Bool}{b:Bs}{sent K:Nat}{M:List Bool}{pl:Nat}(h:ZW n0 τ H z bg b sent K M pl):z<H.next∧τ z=0∧∀c,H.next≤c→τ c=0:=by
 obtain⟨_,_,_,_,D,_,h1,h2⟩:=h
 exact⟨h1,h2,D.pw.tz⟩
theorem ZW.fr{n0:Nat}{τ:Nat→Nat}{H H':AHeap}{z:Nat}{bg:Bool}{b:Bs}{sent K:Nat}{M:List Bool}{pl:Nat}(h:ZW n0 τ H z bg b sent K M pl)(hn:H.next≤H'.next)(e:∀c,c<H.next→(τ c≠0∨c=z)→H'.get c=H.get c):ZW n0 τ H' z bg b sent K M pl:=by
 obtain⟨ow,o,mb,kept,D,R,hz,tz⟩:=h
 exact⟨ow,o,mb,kept,D.fr0 hn fun c hc h0=>e c hc (.inl h0),R.same (e z hz (.inr rfl)),om,tz⟩
theorem PE.fr{m:Nat}{τ:Nat→Nat}{H H':AHeap}{e z w h left:Nat}{rows:List Nat}{at_:Nat}{bg:Bool}{b:Bs}(P:PE m τ H e z w h left rows at_ bg b)(hm:m≤H.next)(hn:H.next≤H'.next)(ek:∀c,c<H.next→(τ c≠0∨c<m∨c=z∨c=e)→H'.get c=H.get c):PE m τ H' e z w h left rows at_ bg b:=by
 obtain⟨⟨n0,Kz,Z⟩,⟨rs,R,ro,rb⟩,en,et,ez⟩:=P
 exact⟨⟨n0,Kz,Z.fr hn fun c hc q=>ek c hc (q.imp id fun q=>.inr (.inl q))⟩,⟨rs,R.same (ek e en (.inr (.inr (.inr rfl)))),ro.same rL (ro.blk.mono fun c hc=>ek c om (.inr (.inl hc))),rb⟩,om,et,ez⟩
theorem put11{T:Env}{H:AHeap}{K:AVal→AHeap→Prop}{τ:Nat→Nat}{m n1 e z w h left at_:Nat}{rows:List Nat}{bg:Bool}{b a told:Bs}{s tv:AVal}(P:PE m τ H e z w h left rows at_ bg b)(hm:m≤n1)(he:e<n1)(hzn:z<n1)(hn1:n1≤H.next)(hb:b.length≤4096)(t0:T 0=cellR e 7 0)(t6:T 6=s)(A:AppN 1 0 H s (byts a) a.length)(ab:Blk s fun c=>τ c=0∧n1≤c)(t8:T 8=tv)(C:AppN 1 0 H tv (byts told) told.length)(ct:Blk tv fun c=>τ c=0∧n1≤c)(hs:Blk tv fun c=>Blk s (c≠·))(hl:a.length+told.length≤600000)
  (hK:∀v H',(left≠0→PE m τ H' e z w h left rows at_ bg b∧AppN 1 0 H' v (byts (a++idatF told)) (a++idatF told).length∧Blk v fun c=>τ c=0∧n1≤c) →
   (left=0→AppN 1 0 H' v (byts (a++idatF (told++endB8 bg b)++chunkF kIEND [])) (a++idatF (told++endB8 bg b)++chunkF kIEND []).length∧Blk v (n1≤·))→H.next≤H'.next→(∀c,c<n1→τ c=0→c≠z→c≠e→H'.get c=H.get c)→K (.tuple [v,.int .i64 0]) H') :
  wp (ACalls Tryz.prog natT) (restP [1,1,1,1,1,1,1,1,1,1,1] c7.body) (fin [.t 4,.t 5] K) T H:=by
 have P':=P
 obtain⟨⟨n0,Kz,Z⟩,⟨rs,R,ro,rb⟩,en,et,ez⟩:=P
 obtain⟨hz,tz,tzn⟩:=Z.lt
 have l3:oLoad false 1 H (cellR e 7 3)=some (.int .i64 (left:Int)):=row_load R rfl rfl
 by_cases h0:left=0
 ·subst h0
  have l3':oLoad false 1 H (cellR e 7 3)=some (.int .i64 0):=l3
  have l6:oLoad false 1 H (cellR e 7 6)=some (cellR z 5 0):=row_load R rfl rfl
  refine wp_cutP [1] ?_
  simp only[c7,restP,sC,sA,sB,seval,t0,nil_cell,fldA,fld0,l3',l6]
  refine (zend_spec Z om (Nat.zero_le _) om (Nat.zero_le _) (by simp)).mono ?_
  rintro _ H1 ⟨s1,rfl,C1,k1,o1⟩
  rw[u8s_byts lt_end]at C1
  have C1':Cel H1.next H1 s1 (byts (endB8 bg b)):=C1
  have A1:=A.same (H':=H1) k1 ((A.blk'.and ab).mono fun c hc=>o1 c hc.1 hc.2.1 om)
  have T1:=C.same (H':=H1) k1 ((C.blk'.and ct).mono fun c hc=>o1 c hc.1 hc.2.1 om)
  have R1:=R.same (o1 e en et ez)
  have hel:=endB8_len (bg:=bg) hb
  obtain⟨s2,H2,m2,A2,q1,q2,q3⟩:=app_bytes T1 (src_cel C1') om
  have R2:=R1.same (q3 e om (ct.mono fun c hc=>om))
  have A1':AppN 1 0 H2 s (byts a) a.length:=A1.same q1 (A.blk'.and (blk_flip hs) |>.mono fun c hc=>q3 c om hc.2)
  have s2b:Blk s2 fun c=>(n1≤c∧Blk s (c≠·))∨H1.next≤c:=q2 _ ((ct.and hs).mono fun c hc=>⟨hc.1.2,hc.2⟩)
  obtain⟨H3,m3,R3,k3,q4⟩:=row_st R2 (n:=7) rfl (i:=4) om (x:=nilS) rfl (l':=eC w h 0 nilS at_ (cellR z 5 0)) rfl
  obtain⟨H4,m4,R4,k4,q5⟩:=row_st R3 (n:=7) rfl (i:=6) om (x:=.ptr none) rfl (l':=eC w h 0 nilS at_ (.ptr none)) rfl
  have m3':oStore 1 H2 (cellR e 7 4) (.slice none 0 (.known 0))=some H3:=m3
  simp only[sA,sB,seval,ext_0,ext_1,t0,t8,m2,nil_cell,fldA,fld0,m3',m4]
  have e4:∀c,c≠e→H4.get c=H2.get c:=fun c hc=>by rw[q5 c hc,q4 c hc]
  have A4:=A1'.same (H':=H4) om (ab.mono fun c hc=>e4 c om)
  have T4:=A2.same (H':=H4) om (s2b.mono fun c hc=>e4 c om)
  refine put12 (by simp only[sA,sB,seval,t0]) R4 om (by simp only[sA,sB,seval,t6]) A4 (by simp only[sA,sB,seval]) (T4.cel1 T4.blk') (s2b.mono fun c hc=>hc.elim And.right fun q=>A.blk'.mono fun d hd=>om) (ab.mono fun c hc=>om) (by rw[lA]; omega) fun v H' A' G=>?_
  have ef:iendF 0=chunkF kIEND []:=rfl
  rw[ef]at A'
  have g1:=G.1
  refine hK v H' (fun q=>absurd rfl q) (fun _=>⟨A',(G.2.1 _ (ab.mono fun c hc=>hc.2)).mono fun c hc=>om⟩) om fun c hc h1 h2 h3=>?_
  rw[G.2.2 c om (ab.mono fun d hd=>om),e4 c h3,q3 c om (ct.mono fun d hd=>om),o1 c om h1 h2]
 ·have h0':¬(left:Int)=0:=om
  refine wp_cutP [1] ?_
  simp only[c7,restP,sC,sA,sB,seval,t0,nil_cell,fldA,fld0,l3,h0']
  refine put12 (by simp only[sA,sB,seval,t0]) R en (by simp only[sA,sB,seval,t6]) A (by simp only[sA,sB,seval,t8]) (C.cel1 C.blk') hs (ab.mono fun c hc=>om) om fun v H' A' G=>?_
  have ef:iendF left=[]:=by unfold iendF; rw[if_neg h0]
  rw[ef,List.append_nil]at A'
  have g1:=G.1
  have fr:∀c,c<H.next→(τ c≠0∨c<n1)→H'.get c=H.get c:=fun c hc q=>G.2.2 c hc (ab.mono fun d hd=>by rintro rfl; omega)
  refine hK v H' (fun _=>⟨P'.fr om g1 fun c hc q=>fr c hc om,A',(G.2.1 _ ab).mono fun c hc=>hc.elim id fun q=>⟨tzn c q,om⟩⟩) (fun q=>absurd q h0) g1 fun c hc _ _ _=>fr c om (.inr hc)
def rowsS(m0:Nat)(rest:List Nat)(at_:Nat):List Nat:=if at_+1=m0 then rest else m0::rest
def atS(m0 at_:Nat):Nat:=if at_+1=m0 then 0 else at_+1
theorem put8{T:Env}{H:AHeap}{K:AVal→AHeap→Prop}{τ:Nat→Nat}{m n1 e z w h left m0 at_:Nat}{rest:List Nat}{bg:Bool}{b a told:Bs}{s tv:AVal}(P:PE m τ H e z w h (left+1) (m0::rest) at_ bg b)(hlf:left≤400)(hm0:m0≤20)(hat:at_<m0)(hm:m≤n1)(he:e<n1)(hzn:z<n1)(hn1:n1≤H.next)(hb:b.length≤4096)(t0:T 0=cellR e 7 0)(t6:T 6=s)(A:AppN 1 0 H s (byts a) a.length)(ab:Blk s fun c=>τ c=0∧n1≤c)(t8:T 8=tv)(C:AppN 1 0 H tv (byts told) told.length)(ct:Blk tv fun c=>τ c=0∧n1≤c)(hs:Blk tv fun c=>Blk s (c≠·))(hl:a.length+told.length≤600000)
  (hK:∀v H',(left≠0→PE m τ H' e z w h left (rowsS m0 rest at_) (atS m0 at_) bg b∧AppN 1 0 H' v (byts (a++idatF told)) (a++idatF told).length∧Blk v fun c=>τ c=0∧n1≤c) →
   (left=0→AppN 1 0 H' v (byts (a++idatF (told++endB8 bg b)++chunkF kIEND [])) (a++idatF (told++endB8 bg b)++chunkF kIEND []).length∧Blk v (n1≤·))→H.next≤H'.next→(∀c,c<n1→τ c=0→c≠z→c≠e→H'.get c=H.get c)→K (.tuple [v,.int .i64 0]) H') :
  wp (ACalls Tryz.prog natT) (restP [1,1,1,1,1,1,1,1] c7.body) (fin [.t 4,.t 5] K) T H:=by
 obtain⟨⟨n0,Kz,Z⟩,⟨rs,R,ro,rb⟩,en,et,ez⟩:=P
 obtain⟨hz,tz,tzn⟩:=Z.lt
 have l3:oLoad false 1 H (cellR e 7 3)=some (.int .i64 ((left+1:Nat):Int)):=row_load R rfl rfl
 have w1:IntKind.i64.wrap (((left+1:Nat):Int)-1)=(left:Int):=w64
 have w2:IntKind.i64.wrap ((at_:Int)+1)=((at_+1:Nat):Int):=w64
 obtain⟨H1,m1,R1,k1,q1⟩:=row_st R (n:=7) rfl (i:=3) om (x:=.int .i64 (left:Int)) rfl (l':=eC w h left rs at_ (cellR z 5 0)) rfl
 have l5:oLoad false 1 H1 (cellR e 7 5)=some (.int .i64 (at_:Int)):=row_load R1 rfl rfl
 obtain⟨H2,m2,R2,k2,q2⟩:=row_st R1 (n:=7) rfl (i:=5) om (x:=.int .i64 ((at_+1:Nat):Int)) rfl (l':=eC w h left rs (at_+1) (cellR z 5 0)) rfl
 have l5':oLoad false 1 H2 (cellR e 7 5)=some (.int .i64 ((at_+1:Nat):Int)):=row_load R2 rfl rfl
 have l4':oLoad false 1 H2 (cellR e 7 4)=some rs:=row_load R2 rfl rfl
 have e2:∀c,c≠e→H2.get c=H.get c:=fun c hc=>by rw[q2 c hc,q1 c hc]
 have ro2:Op m H2 rs (nats (m0::rest)):=ro.same rL (rb.mono fun c hc=>e2 c hc.2.2)
 obtain⟨ib,il,io,ii,ix⟩:=ro2.idx (i:=0) (x:=.int .i64 (m0:Int)) rfl
 have ii':aIdxA 1 rs (.int .i64 0)=some (cellR ib il io):=ii
 obtain⟨rs',ms,ros,rbs⟩:=ro2.from_ (lo:=1) (by simp[nats])
 have ms':aSl 1 rs (some (.int .i64 1)) none none=some rs':=ms
 have ros':Op m H2 rs' (nats rest):=ros
 have Z2:ZW n0 τ H2 z bg b 0 Kz [] 0:=Z.fr om fun c hc q=>e2 c (by rintro rfl; rcases q with q | q; exact q et; exact ez q)
 have go:∀(T':Env) (H':AHeap) (R':List Nat) (at':Nat),PE m τ H' e z w h left R' at' bg b→(∀c,c≠e→H'.get c=H.get c)→H'.next=H.next→R'=rowsS m0 rest at_→at'=atS m0 at_→T' 0=cellR e 7 0→T' 6=s→T' 8=tv→wp (ACalls Tryz.prog natT) (restP [1,1,1,1,1,1,1,1,1,1,1] c7.body) (fin [.t 4,.t 5] K) T' H':=by
  rintro T' H' _ _ P' fr nn rfl rfl u0 u6 u8
  refine put11 P' hm he hzn om hb u0 u6 (A.same om (ab.mono fun c hc=>fr c om)) ab u8 (C.same om (ct.mono fun c hc=>fr c om)) ct hs hl fun v H5 g1 g2 g3 g4=>?_
  exact hK v H5 g1 g2 om fun c hc h1 h2 h3=>by rw[g4 c hc h1 h2 h3,fr c h3]
 by_cases hrow:at_+1=m0
 ·subst hrow
  obtain⟨H3,m3,R3,k3,q3⟩:=row_st R2 (n:=7) rfl (i:=4) om (x:=rs') (cel_one ros'.cel) (l':=eC w h left rs' (at_+1) (cellR z 5 0)) rfl
  obtain⟨H4,m4,R4,k4,q4⟩:=row_st R3 (n:=7) rfl (i:=5) om (x:=.int .i64 0) rfl (l':=eC w h left rs' 0 (cellR z 5 0)) rfl
  have e4:∀c,c≠e→H4.get c=H2.get c:=fun c hc=>by rw[q4 c hc,q3 c hc]
  refine wp_cutP [1,1,1] ?_
  simp only[c7,restP,sC,sA,sB,seval,t0,nil_cell,fldA,fld0,l3,w1,m1,l5,w2,m2,l5',l4',ii',ix,ms',m3,m4]
  exact go _ H4 rest 0 ⟨⟨n0,Kz,Z2.fr om fun c hc q=>e4 c (by rintro rfl; rcases q with q | q; exact q et; exact ez q)⟩,⟨rs',R4,ros'.same rL ((rbs _ rb).mono fun c hc=>e4 c hc.2.2),rbs _ rb⟩,om,et,ez⟩ (fun c hc=>by rw[e4 c hc,e2 c hc]) om (by unfold rowsS; rw[if_pos rfl]) (by unfold atS; rw[if_pos rfl]) (by simp only[sA,sB,seval,t0]) (by simp only[sA,sB,seval,t6]) (by simp only[sA,sB,seval,t8])
 ·have hrow':¬((at_+1:Nat):Int)=(m0:Int):=om
  refine wp_cutP [1,1,1] ?_
  simp only[c7,restP,sC,sA,sB,seval,t0,nil_cell,fldA,fld0,l3,w1,m1,l5,w2,m2,l5',l4',ii',ix,hrow']
  exact go _ H2 (m0::rest) (at_+1) ⟨⟨n0,Kz,Z2⟩,⟨rs,R2,ro2,rb⟩,om,et,ez⟩ e2 om (by unfold rowsS; rw[if_neg hrow]) (by unfold atS; rw[if_neg hrow]) (by simp only[sA,sB,seval,t0]) (by simp only[sA,sB,seval,t6]) (by simp only[sA,sB,seval,t8])
theorem Mk.many{H:AHeap}{b cap:Nat}{s x:AVal}{L xs:List AVal}(h:Mk H b cap s L)(hs:aSrc 1 H x=some (xs.length,xs))(hl:L.length+xs.length≤cap)(h0:0<xs.length)(ho:xs.all AVal.one=true){bytes:Nat}(hb:2*cap*bytes≤281474976710656)(hb1:0<bytes) :
  ∃s' H',aAppend 1 bytes H s x=some (s',H')∧Mk H' b cap s' (L++xs)∧H'.next=H.next∧∀c,c≠b→H'.get c=H.get c:=by
 obtain⟨low,C,rfl,h2,h3,h4,h5,h6,h7⟩:=h
 have hbl:2*(L.length+xs.length)*bytes≤281474976710656:=Nat.le_trans (Nat.mul_le_mul_right _ (Nat.mul_le_mul_left 2 hl)) hb
 have hlen:L.length+xs.length≤9223372036854775807:=by
  have:2*(L.length+xs.length)≤2*(L.length+xs.length)*bytes:=Nat.le_mul_of_pos_right _ hb1
  omega
 have c0:Nat.beq xs.length 0=false:=by
  cases hq:Nat.beq xs.length 0 with
  | false=>rfl
  | true=>have:=Nat.eq_of_beq_eq_true hq; omega
 have c1:(Nat.blt 0 1&&(Nat.ble ((2*(L.length+xs.length)+0)*bytes) 281474976710656&&(Nat.ble (L.length+xs.length) 9223372036854775807&&(Nat.beq xs.length (xs.length*1)&&xs.all AVal.one))))=true:=by
  simp only[Nat.add_zero,Nat.ble_eq_true_of_le hbl,Nat.ble_eq_true_of_le hlen,Nat.mul_one,Nat.beq_refl,ho,Bool.and_self,show Nat.blt 0 1=true from rfl]
 have h3':low≤cap:=om
 have hw:wrCells H ⟨b,cap,0+L.length*1⟩ xs=some (H.set b (.cells (C.take L.length++(xs++C.drop (L.length+xs.length))) C.length false)):=by
  unfold wrCells
  simp only[h2,h4,Nat.ble_eq_true_of_le h3',Nat.beq_refl,Nat.zero_add,Nat.mul_one,Nat.ble_eq_true_of_le hl,ho,Bool.and_self,cond_true]
 have hl2:(C.take L.length++(xs++C.drop (L.length+xs.length))).length=C.length:=by simp; omega
 refine⟨.slice (some ⟨b,cap,0⟩) (L.length+xs.length) (.known cap),H.set b (.cells (C.take L.length++(xs++C.drop (L.length+xs.length))) C.length false),?_,⟨C.length,C.take L.length++(xs++C.drop (L.length+xs.length)),by simp,by rw[AHeap.get_set,if_pos rfl],by rw[hl2]; exact Nat.le_refl _,by rw[hl2,h4],?_,by simp; omega,by rw[set_next]; exact h7⟩,by rw[set_next],fun c hne=>by rw[AHeap.get_set,if_neg hne]⟩
 ·simp only[aAppend,hs]
  rw[c0,cond_false,c1,cond_true]
  simp only[Nat.ble_eq_true_of_le hl,cond_true,hw]
 ·rw[h5,← List.append_assoc,List.take_left' (by simp)]
def leadB(at_:Nat):Bs:=if at_=0 then [0] else []
def hdB(bg:Bool):Bs:=(hd bg).map UInt8.ofNat
theorem put7{T:Env}{H:AHeap}{K:AVal→AHeap→Prop}{τ:Nat→Nat}{m n1 e z w h left m0 at_ bl bp:Nat}{rest:List Nat}{bg:Bool}{b a l p:Bs}{s lv:AVal}(P:PE m τ H e z w h (left+1) (m0::rest) at_ bg b)(hlf:left≤400)(hm0:m0≤20)(hat:at_<m0)(hm:m≤n1)(he:e<n1)(hzn:z<n1)(hn1:n1≤H.next)(hb:b.length≤4000)(hl1:l.length≤1)(hp:p.length=4)(t0:T 0=cellR e 7 0)(t3:T 3=cellR bp 4 0)(rp:Row H bp (byts p))(nbp:n1≤bp)(htn:∀c,n1≤c→τ c=0)(t6:T 6=s)(A:AppN 1 0 H s (byts a) a.length)(ab:Blk s fun c=>n1≤c∧c<bl)(t7:T 7=lv)(ml:Mk H bl 5 lv (byts l))(hbl:n1≤bl)(hbp:bp≠bl)(hl:a.length≤500000)
  (hK:∀v H' τ',(left≠0→PE m τ' H' e z w h left (rowsS m0 rest at_) (atS m0 at_) true (b++(l++p))∧AppN 1 0 H' v (byts (a++idatF (hdB bg))) (a++idatF (hdB bg)).length∧Blk v fun c=>τ' c=0∧n1≤c) →
   (left=0→AppN 1 0 H' v (byts (a++idatF (hdB bg++endB8 true (b++(l++p)))++chunkF kIEND [])) (a++idatF (hdB bg++endB8 true (b++(l++p)))++chunkF kIEND []).length∧Blk v (n1≤·))→H.next≤H'.next→(∀c,c<n1→τ c=0→τ' c=0∧(c≠z→c≠e→H'.get c=H.get c))→K (.tuple [v,.int .i64 0]) H') :
  wp (ACalls Tryz.prog natT) (restP [1,1,1,1,1,1,1] c7.body) (fin [.t 4,.t 5] K) T H:=by
 obtain⟨⟨n0,Kz,Z⟩,⟨rs,R,ro,rb⟩,en,et,ez⟩:=P
 obtain⟨hz,tz,tzn⟩:=Z.lt
 have l6:oLoad false 1 H (cellR e 7 6)=some (cellR z 5 0):=row_load R rfl rfl
 have sl:aSlArr 4 1 (cellR bp 4 0) none none none=some (slR bp 4 (.known 4)):=_root_.id rfl
 have cp:Cel (bp+1) H (slR bp 4 (.known 4)) (byts p):=rp.cel (by rw[byts_len,hp]) (Nat.lt_succ_self _)
 have sp:aSrc 1 H (slR bp 4 (.known 4))=some ((byts p).length,byts p):=by have:=src_cel cp; rwa [byts_len]
 obtain⟨lv',H1,m1,ml1,k1,q1⟩:=ml.many sp (by rw[byts_len,byts_len]; omega) (by rw[byts_len]; omega) (byts_one p) (bytes:=1) om om
 rw[← byts_append]at ml1
 have hbln:bl<H.next:=by obtain⟨_,_,_,_,_,_,_,_,q⟩:=ml; exact q
 have e1:∀c,c<n1→H1.get c=H.get c:=fun c hc=>q1 c om
 have Z1:ZW n0 τ H1 z bg b 0 Kz [] 0:=Z.fr om fun c hc q=>q1 c (by
  rintro rfl
  have:=htn c hbl
  omega)
 have R1:=R.same (e1 e he)
 have clv:=ml1.cel (n:=H.next) hbln
 have lvb:Blk lv' (·=bl):=ml1.blk _ rfl
 refine wp_cutP [1] ?_
 simp only[c7,restP,sC,sA,sB,seval]
 refine aw_drawC rfl ?_
 simp only[sR,sA,sB,seval,t0,t3,t7,nil_cell,fldA,fld0,l6,sl,m1]
 refine (zwrite_spec Z1 clv om (lvb.mono fun c hc=>om) (by rw[lA,hp]; omega) (Nat.zero_le _) rL rL).mono ?_
 rintro _ H2 ⟨tv,X,sent',pl',M',T',rfl,A2,eT,tT,hM',hpl',hs',hlong,h9,hB,⟨τ',K',Z2,bs,f2⟩,sm⟩
 obtain⟨rfl,rfl⟩:=sm (by rw[lA,lA,hp]; omega)
 have eT':T'++M'=[]:=eT
 obtain⟨rfl,rfl⟩:=List.append_eq_nil_iff.1 eT'
 obtain rfl:pl'=0:=by simpa using hpl'
 have f2n:=f2.1
 have ep:hd bg++pack []=hd bg:=by cases bg <;> rfl
 rw[ep]at A2
 have et1:u8s (hd bg)=byts (hdB bg):=u8s_hd bg
 have ln1:(hd bg).length=(hdB bg).length:=by simp[hdB]
 rw[et1,ln1]at A2
 have R2:Row H2 e (eC w h (left+1) rs at_ (cellR z 5 0)):=R1.same ((f2.2 e om et).2 ez)
 simp only[sR,sA,sB,seval,ext_0,ext_1]
 refine⟨?_,?_⟩
 ·simp only[ck_nil',ck_cons,ck_end,ckP_nil,ckP_load]
  exact⟨⟨⟨H1,rfl,fun _=>⟨_,row_load R1 rfl rfl,by simp[aeq,cellR]⟩⟩,trivial⟩,trivial⟩
 have k0:∀c,c<H.next→τ c=0→c≠z→c≠bl→τ' c=0∧H2.get c=H.get c:=fun c hc h0 h1 h2=>by
  obtain⟨a1,a2⟩:=f2.2 c om h0
  exact⟨a1,by rw[a2 h1,q1 c h2]⟩
 have ro2:Op m H2 rs (nats (m0::rest)):=ro.same rL ((ro.blk.and rb).mono fun c hc=>(k0 c om hc.2.1 hc.2.2.1 om).2)
 have hdl:(hdB bg).length≤2:=by cases bg <;> simp[hdB,hd]
 have ab':Blk s fun c=>c<H.next∧n1≤c∧c<bl:=A.blk'.and ab
 refine put8 (τ:=τ') (n1:=n1) ⟨⟨n0,K',Z2⟩,⟨rs,R2,ro2,(ro.blk.and rb).mono fun c hc=>⟨(k0 c om hc.2.1 hc.2.2.1 om).1,hc.2.2⟩⟩,om,(f2.2 e om et).1,ez⟩ hlf hm0 hat hm he hzn om (by simp only[lA,hp]; omega) (by simp only[sA,sB,seval,t0]) (by simp only[sA,sB,seval,t6]) (A.same om (ab'.mono fun c hc=>(k0 c hc.1 (htn c hc.2.1) om om).2)) (ab'.mono fun c hc=>⟨(k0 c hc.1 (htn c hc.2.1) om om).1,hc.2.1⟩) (by simp only[sA,sB,seval]) A2 (bs.mono fun c hc=>⟨hc.1,om⟩) (bs.mono fun c hc=>ab'.mono fun d hd=>om) om fun v H' g1 g2 g3 g4=>?_
 refine hK v H' τ' g1 g2 om fun c hc h0=>?_
 have a1:=(f2.2 c om h0).1
 exact⟨a1,fun h1 h2=>by rw[g4 c hc a1 h1 h2,(k0 c om h0 h1 om).2]⟩
def putF(w h left:Nat)(bg:Bool):Bs:=(if left+1=w*h then headF w h else [])++idatF (hdB bg)
theorem eput_spec{H:AHeap}{τ:Nat→Nat}{m e z w h left m0 at_:Nat}{rest:List Nat}{bg:Bool}{b p:Bs}(P:PE m τ H e z w h (left+1) (m0::rest) at_ bg b)(hw:w≤20)(hh:h≤20)(hlf:left<400)(hm0:m0≤20)(hat:at_<m0)(hm:m≤H.next)(hb:b.length≤4000)(hp:p.length=4) :
  ACalls Tryz.prog natT 7 [cellR e 7 0,.agg (byts p)] H fun x H'=>∃v τ',x=.tuple [v,.int .i64 0] ∧
   (left≠0→PE m τ' H' e z w h left (rowsS m0 rest at_) (atS m0 at_) true (b++(leadB at_++p))∧AppN 1 0 H' v (byts (putF w h left bg)) (putF w h left bg).length∧Blk v fun c=>τ' c=0∧H.next≤c) ∧
   (left=0→∃l,l=(if left+1=w*h then headF w h else [])++idatF (hdB bg++endB8 true (b++(leadB at_++p)))++chunkF kIEND []∧AppN 1 0 H' v (byts l) l.length∧Blk v (H.next≤·))∧H.next≤H'.next∧∀c,c<H.next→τ c=0→τ' c=0∧(c≠z→c≠e→H'.get c=H.get c):=by
 refine acalls_ofN rfl za7 rfl ?_
 have P0:=P
 obtain⟨⟨n0,Kz,Z⟩,⟨rs,R,ro,rb⟩,en,et,ez⟩:=P
 obtain⟨hz,tz,tzn⟩:=Z.lt
 obtain⟨H1,m1,r1,k1,q1⟩:=row_newL H (byts p) (n:=4) (by rw[byts_len,hp])
 have R1:=R.same (q1 e om)
 have l0:oLoad false 1 H1 (cellR e 7 0)=some (.bool true):=row_load R1 rfl rfl
 have l3:oLoad false 1 H1 (cellR e 7 3)=some (.int .i64 ((left+1:Nat):Int)):=row_load R1 rfl rfl
 have lw:oLoad false 1 H1 (cellR e 7 1)=some (.int .i64 (w:Int)):=row_load R1 rfl rfl
 have lh:oLoad false 1 H1 (cellR e 7 2)=some (.int .i64 (h:Int)):=row_load R1 rfl rfl
 have hwh:w*h≤20*20:=Nat.mul_le_mul hw hh
 have wm:IntKind.i64.wrap ((w:Int)*(h:Int))=((w*h:Nat):Int):=by rw[← Int.natCast_mul,wrap64 om om]
 have hl0:¬((left+1:Nat):Int)=0:=om
 have go:∀(T:Env) (H':AHeap) (s:AVal) (a:Bs),T 0=cellR e 7 0→T 3=cellR H.next 4 0→T 6=s→AppN 1 0 H' s (byts a) a.length→Blk s (H.next+1≤·)→Ext H1.next H1 H'→a.length≤500000→a=(if left+1=w*h then headF w h else [])→wp (ACalls Tryz.prog natT) (restP [1,1,1,1,1] c7.body) (fin [.t 4,.t 5] fun x H'=>∃v τ',x=.tuple [v,.int .i64 0] ∧
   (left≠0→PE m τ' H' e z w h left (rowsS m0 rest at_) (atS m0 at_) true (b++(leadB at_++p))∧AppN 1 0 H' v (byts (putF w h left bg)) (putF w h left bg).length∧Blk v fun c=>τ' c=0∧H.next≤c) ∧
   (left=0→∃l,l=(if left+1=w*h then headF w h else [])++idatF (hdB bg++endB8 true (b++(leadB at_++p)))++chunkF kIEND []∧AppN 1 0 H' v (byts l) l.length∧Blk v (H.next≤·))∧H.next≤H'.next∧∀c,c<H.next→τ c=0→τ' c=0∧(c≠z→c≠e→H'.get c=H.get c)) T H':=by
  intro T H' s a t0 t3 t6 A ab E1 hal ha
  have e1n:=E1.next
  have P1:PE m τ H' e z w h (left+1) (m0::rest) at_ bg b:=P0.fr hm om fun c hc _=>by rw[E1.old c om,q1 c om]
  have rp:=r1.same (E1.old _ om)
  obtain⟨lv,H5,a5,m5,k5,o5⟩:=Mk.make (z:=.int .u8 0) (bytes:=1) (cap:=5) H' om om
  have a5':aMake 1 [.int .u8 0] H' (.int .i64 0) (.int .i64 5)=some (lv,H5):=a5
  have k7:∀v H6 τ',(left≠0→PE m τ' H6 e z w h left (rowsS m0 rest at_) (atS m0 at_) true (b++(leadB at_++p))∧AppN 1 0 H6 v (byts (a++idatF (hdB bg))) (a++idatF (hdB bg)).length∧Blk v fun c=>τ' c=0∧H.next≤c) →
   (left=0→AppN 1 0 H6 v (byts (a++idatF (hdB bg++endB8 true (b++(leadB at_++p)))++chunkF kIEND [])) (a++idatF (hdB bg++endB8 true (b++(leadB at_++p)))++chunkF kIEND []).length∧Blk v (H.next≤·))→H'.next≤H6.next→(∀c,c<H.next→τ c=0→τ' c=0∧(c≠z→c≠e→H6.get c=H'.get c))→∃v_1 τ',AVal.tuple [v,.int .i64 0]=.tuple [v_1,.int .i64 0] ∧
   (left≠0→PE m τ' H6 e z w h left (rowsS m0 rest at_) (atS m0 at_) true (b++(leadB at_++p))∧AppN 1 0 H6 v_1 (byts (putF w h left bg)) (putF w h left bg).length∧Blk v_1 fun c=>τ' c=0∧H.next≤c) ∧
   (left=0→∃l,l=(if left+1=w*h then headF w h else [])++idatF (hdB bg++endB8 true (b++(leadB at_++p)))++chunkF kIEND []∧AppN 1 0 H6 v_1 (byts l) l.length∧Blk v_1 (H.next≤·))∧H.next≤H6.next∧∀c,c<H.next→τ c=0→τ' c=0∧(c≠z→c≠e→H6.get c=H.get c):=by
   subst ha
   intro v H6 τ' g1 g2 g3 g4
   refine⟨v,τ',rfl,g1,fun q=>⟨_,rfl,g2 q⟩,om,fun c hc h0=>?_⟩
   obtain⟨a1,a2⟩:=g4 c hc h0
   exact⟨a1,fun h1 h2=>by rw[a2 h1 h2,E1.old c om,q1 c om]⟩
  refine wp_cutP [1,1] ?_
  by_cases h0:at_=0
  ·subst h0
   have lA:oLoad false 1 H5 (cellR e 7 5)=some (.int .i64 0):=row_load (R1.same (by rw[o5 e om,E1.old e om])) rfl rfl
   have bd:=build1 (.int .u8 0) H5 (x:=.int .u8 0) rfl
   obtain⟨lv',H6,a6,m6,k6,o6⟩:=m5.push (x:=.int .u8 0) (by simp) rfl (bytes:=1) om om
   have fr:∀c,c<H'.next→H6.get c=H'.get c:=fun c hc=>by rw[o6 c om om,o5 c hc]
   simp only[c7,restP,sC,sA,sB,seval,a5',t0,nil_cell,fldA,fld0,lA,bd,a6]
   refine put7 (n1:=H.next) (bl:=H'.next) (bp:=H.next) (l:=leadB 0) (P1.fr om om fun c hc _=>fr c hc) om hm0 hat hm en hz om hb dD hp (by simp only[sA,sB,seval,t0]) (by simp only[sA,sB,seval,t3]) (rp.same (fr _ om)) rL tzn (by simp only[sA,sB,seval,t6]) (A.same om (A.blk'.mono fun c hc=>fr c hc)) ((A.blk'.and ab).mono fun c hc=>om) (by simp only[sA,sB,seval]) m6 om om hal fun v H7 τ' g1 g2 g3 g4=>?_
   exact k7 v H7 τ' g1 g2 om fun c hc h0=>⟨(g4 c hc h0).1,fun h1 h2=>by rw[(g4 c hc h0).2 h1 h2,fr c om]⟩
  ·have h0':¬(at_:Int)=0:=om
   have lA:oLoad false 1 H5 (cellR e 7 5)=some (.int .i64 (at_:Int)):=row_load (R1.same (by rw[o5 e om,E1.old e om])) rfl rfl
   have el:leadB at_=[]:=by unfold leadB; rw[if_neg h0]
   simp only[c7,restP,sC,sA,sB,seval,a5',t0,nil_cell,fldA,fld0,lA,h0']
   refine put7 (n1:=H.next) (bl:=H'.next) (bp:=H.next) (l:=leadB at_) (P1.fr om om fun c hc _=>o5 c hc) om hm0 hat hm en hz om hb (by rw[el]; simp) hp (by simp only[sA,sB,seval,t0]) (by simp only[sA,sB,seval,t3]) (rp.same (o5 _ om)) rL tzn (by simp only[sA,sB,seval,t6]) (A.same om (A.blk'.mono fun c hc=>o5 c hc)) ((A.blk'.and ab).mono fun c hc=>om) (by simp only[sA,sB,seval]; try rfl) (by rw[el]; exact m5) om om hal fun v H7 τ' g1 g2 g3 g4=>?_
   exact k7 v H7 τ' g1 g2 om fun c hc h0=>⟨(g4 c hc h0).1,fun h1 h2=>by rw[(g4 c hc h0).2 h1 h2,o5 c om]⟩
 refine wp_cutP [1,1,1,1,1] ?_
 by_cases hf:left+1=w*h
 ·have hf':((left+1:Nat):Int)=((w*h:Nat):Int):=om
  have lf:oLoad false 1 H1 (cellR e 7 3)=some (.int .i64 ((w*h:Nat):Int)):=by rw[l3,hf']
  rw[hf]at hl0
  simp only[c7,sC,sA,sB,seval,eq_ptr_nil,nil_cell,fldA,fld0,cells_agg,m1,l0,lf,lw,lh,wm,hl0]
  refine (head_spec R1 hw hh om).mono ?_
  rintro s2 H2 ⟨A2,b2,E2⟩
  simp only[sA,sB,seval]
  exact go _ H2 s2 (headF w h) (by simp only[sA,sB,seval]) (by simp only[sA,sB,seval]) (by simp only[sA,sB,seval]) A2 (b2.mono fun c hc=>om) E2 (by show 33≤500000; decide) (by rw[if_pos hf])
 ·have hf':¬((left+1:Nat):Int)=((w*h:Nat):Int):=om
  simp only[c7,sC,sA,sB,seval,eq_ptr_nil,nil_cell,fldA,fld0,cells_agg,m1,l0,l3,lw,lh,wm,hl0,hf']
  exact go _ H1 nilS [] (by simp only[sA,sB,seval]) (by simp only[sA,sB,seval]) (by simp only[sA,sB,seval]; try rfl) (AppN.nil _ _ _) (blk_nil _) (Ext.refl _ _) (by simp) (by rw[if_neg hf])
def newI(v e w h left:Nat)(st:AVal)(R:List (Nat×Nat×Nat))(n1 k:Nat)(O:Nat→Prop)(H:AHeap):Prop:=
 ∃s,Row H v [cellR e 7 0]∧Row H e (eC w h left s 0 st)∧AppN 1 0 H s (nats ((R.take k).map fun r=>r.2.2)) ((R.take k).map fun r=>r.2.2).length∧Blk s (n1≤·)∧v<n1∧e<n1∧v≠e∧n1≤H.next∧∀c,O c↔c=v∨c=e∨¬Blk s (·≠c)
theorem take_map{α β:Type}{f:α→β}{R:List α}{k:Nat}{r:α}(h:R[k]?=some r):(R.take (k+1)).map f=(R.take k).map f++[f r]:=by
 rw[List.take_add_one,h]; simp
theorem blk_self(s:AVal):Blk s fun c=>¬Blk s (·≠c):=fun _ _ _ e q=>q _ _ _ e rfl
theorem new_clo{v e w h left n1:Nat}{st:AVal}{R:List (Nat×Nat×Nat)}(hR:R.length≤60)(hR2:∀r∈R,r.2.2≤20):Clo 16 [cellR v 1 0] R (newI v e w h left st R n1):=by
 refine⟨?_,?_,?_⟩
 ·rintro k O H ⟨s,r1,r2,A,b,hv,he,hne,hn,ho⟩ c hc
  rcases (ho c).1 hc with rfl | rfl | hc
  ·omega
  ·omega
  ·exact Classical.byContradiction fun q=>hc (A.blk'.mono fun d hd=>om)
 ·rintro k O H H' ⟨s,r1,r2,A,b,hv,he,hne,hn,ho⟩ hn' ek
  exact⟨s,r1.same (ek _ ((ho _).2 (.inl rfl))),r2.same (ek _ ((ho _).2 (.inr (.inl rfl)))),A.same hn' ((blk_self s).mono fun c hc=>ek c ((ho c).2 (.inr (.inr hc)))),b,hv,he,hne,om,ho⟩
 ·rintro k ⟨f,stp,n⟩ O H hr ⟨s,r1,r2,A,b,hv,he,hne,hn,ho⟩
  have hn20:=hR2 _ (List.mem_of_getElem? hr)
  simp only at hn20
  have hlen:((R.take k).map fun r=>r.2.2).length≤60:=by simp; omega
  refine acalls_ofN rfl za16 rfl ?_
  have lv:oLoad false 1 H (cellR v 1 0)=some (cellR e 7 0):=row_load r1 rfl rfl
  have l4:oLoad false 1 H (cellR e 7 4)=some s:=row_load r2 rfl rfl
  have bd:=build1 (.int .i64 0) H (x:=.int .i64 (n:Int)) rfl
  obtain⟨s',H1,a1,A1,n1',b1,o1⟩:=A.pushB (m:=1) (xs:=[.int .i64 (n:Int)]) rfl rfl om (bytes:=8) om om
  have a1':aAppend 1 8 (H.push (.cells [.int .i64 (n:Int)] 0 false)) s (oneS H)=some (s',H1):=a1
  have o1':∀c,c<n1→H1.get c=H.get c:=fun c hc=>o1 c om (b.mono fun d hd=>om)
  obtain⟨H2,m2,R2,k2,q2⟩:=row_st (r2.same (o1' e he)) (n:=7) rfl (i:=4) om (x:=s') A1.one (l':=eC w h left s' 0 st) rfl
  simp only[List.cons_append,List.nil_append,c16,sA,sB,seval]
  refine aw_drawC rfl ?_
  simp only[sR,sA,sB,seval,lv,nil_cell,fldA,fld0,l4,bd,a1',m2]
  refine⟨?_,?_⟩
  ·simp only[ck_nil',ck_cons,ck_end,ckP_nil,ckP_load]
   have rvP:Row (H.push (.cells [.int .i64 (n:Int)] 0 false)) v [cellR e 7 0]:=r1.same (get_push_lt om)
   have reP:Row (H.push (.cells [.int .i64 (n:Int)] 0 false)) e (eC w h left s 0 st):=r2.same (get_push_lt om)
   have aes:aeq s s=true:=by rcases A with⟨rfl,_⟩ | ⟨_,_,rfl,_⟩; exact aeq_nilS; exact aeq_open _ _ _
   exact⟨⟨⟨_,rfl,fun _=>⟨_,row_load rvP rfl rfl,aeq_cellR _ _ _⟩⟩,⟨_,rfl,fun _=>⟨_,row_load (r1.same (o1' v hv)) rfl rfl,aeq_cellR _ _ _⟩⟩,trivial⟩,⟨⟨_,rfl,fun _=>⟨_,row_load rvP rfl rfl,aeq_cellR _ _ _⟩⟩,trivial⟩,⟨⟨_,rfl,fun _=>⟨_,row_load reP rfl rfl,aes⟩⟩,trivial⟩,trivial⟩
  have bs':=b1 _ b
  refine⟨[],rfl,fun c=>c=v∨c=e∨¬Blk s' (·≠c),⟨s',r1.same (by rw[q2 v hne,o1' v hv]),R2,?_,bs'.mono fun c hc=>om,hv,he,hne,om,fun c=>Iff.rfl⟩,om,fun c hc hO=>?_,fun c hc=>?_⟩
  ·rw[take_map hr,nats_append,lA]
   exact A1.same om (bs'.mono fun c hc=>q2 c om)
  ·have hO':¬(c=v∨c=e∨¬Blk s (·≠c)):=fun q=>hO ((ho c).2 q)
   have h3:Blk s (·≠c):=Classical.byContradiction fun q=>hO' (.inr (.inr q))
   rw[q2 c (fun q=>hO' (.inr (.inl q))),o1 c hc (h3.mono fun d hd=>hd.symm)]
  ·rcases hc with hc | hc | hc
   ·exact .inl ((ho c).2 (.inl hc))
   ·exact .inl ((ho c).2 (.inr (.inl hc)))
   ·by_cases hcn:H.next≤c
    ·exact .inr hcn
    ·exact .inl ((ho c).2 (.inr (.inr fun q=>hc ((b1 _ q).mono fun d hd=>om))))
theorem pnew_spec{w h:Nat}(hw:1≤w)(hw2:w≤20)(hh:1≤h)(hh2:h≤20)(H:AHeap):ACalls Tryz.prog natT 5 [.int .i64 (w:Int),.int .i64 (h:Int)] H fun x H'=>∃e z m τ,x=.tuple [cellR e 7 0,.int .i64 0]∧PE m τ H' e z w h (w*h) (manyL w h) 0 false []∧m≤H'.next∧H.next≤e∧H.next≤z∧(∀c,c<H.next→τ c=0)∧Ext H.next H H':=by
 have OK:=okP hw hw2 hh hh2
 have hwh:w*h≤20*20:=Nat.mul_le_mul hw2 hh2
 have hm:IntKind.i64.wrap ((w:Int)*(h:Int))=((w*h:Nat):Int):=by rw[← Int.natCast_mul,wrap64 om om]
 refine acalls_ofN rfl za5 rfl ?_
 simp only[c5,sA,sB,seval]
 refine (right_spec hw hw2 hh hh2).mono ?_
 rintro _ _ ⟨rfl,rfl⟩
 simp only[sA,sB,seval,hm]
 refine (znew_spec H).mono ?_
 rintro _ H1 ⟨rfl,r0,r1,r2,g1,n1,E1⟩
 obtain⟨Z0,tz0⟩:=newZ_ZW r0 r1 r2 g1 n1
 have bd:aBuild [.bool false,.int .i64 0,.int .i64 0,.int .i64 0,.slice none 0 (.known 0),.int .i64 0,.ptr none] [(0,1,.bool true),(1,1,.int .i64 (w:Int)),(2,1,.int .i64 (h:Int)),(3,1,.int .i64 ((w*h:Nat):Int)),(6,1,cellR (H.next+3) 5 0)]=some (.agg (eC w h (w*h) nilS 0 (cellR (H.next+3) 5 0))):=_root_.id rfl
 obtain⟨H2,m2,re,k2,q2⟩:=row_newL H1 (eC w h (w*h) nilS 0 (cellR (H.next+3) 5 0)) (n:=7) rfl
 obtain⟨H3,m3,rv,k3,q3⟩:=row_newL H2 [.ptr none] (n:=1) rfl
 obtain⟨H4,m4,rv4,k4,q4⟩:=row_st rv (n:=1) rfl (i:=0) om (x:=cellR H1.next 7 0) rfl (l':=[cellR H1.next 7 0]) rfl
 have e4:∀c,c<H1.next→H4.get c=H1.get c:=fun c hc=>by rw[q4 c om,q3 c om,q2 c om]
 simp only[sA,sB,seval,bd,cells_agg,m2,m3,m4]
 refine (rows_spec (new_clo (v:=H2.next) (e:=H1.next) (w:=w) (h:=h) (left:=w*h) (st:=cellR (H.next+3) 5 0) (n1:=H2.next+1) (R:=rowsL w h) (by have:=OK.few; simpa[manyL] using this) fun r hr=>(OK.many r.2.2 (List.mem_map_of_mem hr)).2) om hw hw2 hh hh2 (O:=fun c=>c=H2.next∨c=H1.next∨¬Blk nilS (·≠c)) (H:=H4) ⟨nilS,rv4,re.same (by rw[q4 _ om,q3 _ om]),AppN.nil _ _ _,blk_nil _,om,om,om,om,fun c=>Iff.rfl⟩).mono ?_
 rintro _ H5 ⟨O,⟨s,s1,s2,A,b,hv,he,hne,hn,ho⟩,n5,f5,-⟩
 have lv:oLoad false 1 H5 (cellR H2.next 1 0)=some (cellR H1.next 7 0):=row_load s1 rfl rfl
 simp only[sA,sB,seval,lv]
 have fr:∀c,c<H1.next→H5.get c=H1.get c:=fun c hc=>by
  rw[f5 c om fun q=>?_,e4 c hc]
  rcases q with q | q | q
  ·omega
  ·omega
  ·exact q (blk_nil _)
 refine⟨H1.next,H.next+3,H5.next,newZ H.next,rfl,⟨⟨_,_,Z0.fr om fun c hc _=>fr c hc⟩,⟨s,s2,?_,?_⟩,om,?_,om⟩,Nat.le_refl _,om,om,tz0,⟨om,fun c hc=>by rw[fr c om,E1.old c hc]⟩⟩
 ·rw[List.take_length]at A
  have:=AppN.op A A.blk'
  exact this
 ·exact b.mono fun c hc=>⟨by unfold newZ; rw[if_neg om,if_neg om,if_neg om],om,om⟩
 ·unfold newZ; rw[if_neg om,if_neg om,if_neg om]
theorem fin_t4{T:Env}{H:AHeap}(a b c d:Nat)(K:AVal→AHeap→Prop):fin [.t a,.t b,.t c,.t d] K .ret T H=K (.tuple [T a,T b,T c,T d]) H:=by
 simp only[fin,wRes,OptP_some]; rfl
theorem tfour_spec{n:Nat}{H:AHeap}{v:AVal}{tl:Bs}(C3':Cel n H v (byts tl))(h4:4≤tl.length):ACalls Tryz.prog natT 67 [v] H fun w H'=>w=.int .u32 (num4 tl:Int)∧H=H':=by
 refine acalls_ofN rfl za67 rfl ?_
 have gd:∀i,i<4→tl[i]?=some (tl.getD i 0):=fun i hi=>by rw[List.getD_eq_getElem?_getD,List.getElem?_eq_getElem om]; rfl
 have j0:=C3'.idx .i64 (i:=0) (by rw[byts_len]; omega)
 have j1:=C3'.idx .i64 (i:=1) (by rw[byts_len]; omega)
 have j2:=C3'.idx .i64 (i:=2) (by rw[byts_len]; omega)
 have j3:=C3'.idx .i64 (i:=3) (by rw[byts_len]; omega)
 have y0:=C3'.load (byts_get (gd 0 om))
 have y1:=C3'.load (byts_get (gd 1 om))
 have y2:=C3'.load (byts_get (gd 2 om))
 have y3:=C3'.load (byts_get (gd 3 om))
 simp only[Int.natCast_zero,Int.natCast_one]at j0 j1
 have j2':aIdxA 1 v (.int .i64 2)=some (cellP v 2):=j2
 have j3':aIdxA 1 v (.int .i64 3)=some (cellP v 3):=j3
 have b0:=(tl.getD 0 0).toNat_lt
 have b1:=(tl.getD 1 0).toNat_lt
 have b2:=(tl.getD 2 0).toNat_lt
 have b3:=(tl.getD 3 0).toNat_lt
 have u0:=b_u32 (tl.getD 0 0)
 have u1:=b_u32 (tl.getD 1 0)
 have u2:=b_u32 (tl.getD 2 0)
 have u3:=b_u32 (tl.getD 3 0)
 have hs4:num4 tl=(tl.getD 0 0).toNat*16777216+(tl.getD 1 0).toNat*65536+(tl.getD 2 0).toNat*256+(tl.getD 3 0).toNat:=rfl
 generalize (tl.getD 0 0).toNat=a at *
 generalize (tl.getD 1 0).toNat=b at *
 generalize (tl.getD 2 0).toNat=c at *
 generalize (tl.getD 3 0).toNat=d at *
 have sh:∀(x k:Nat),k≤32→x*2 ^ k<2 ^ 32→aBin .shl (.int .u32 (x:Int)) (.int .u64 (k:Int))=some (.int .u32 ((x*2 ^ k:Nat):Int)):=fun x k hk hx=>by
  have:=bin_shlU .u32 .u64 (by simp) x (b:=k) (by simp only[IntKind.bits]; omega)
  rw[Nat.mod_eq_of_lt (by simp only[IntKind.bits]; omega)]at this
  exact this
 have s24:aBin .shl (.int .u32 (a:Int)) (.int .u64 24)=some (.int .u32 ((a*2 ^ 24:Nat):Int)):=sh a 24 om om
 have s16:aBin .shl (.int .u32 (b:Int)) (.int .u64 16)=some (.int .u32 ((b*2 ^ 16:Nat):Int)):=sh b 16 om om
 have s08:aBin .shl (.int .u32 (c:Int)) (.int .u64 8)=some (.int .u32 ((c*2 ^ 8:Nat):Int)):=sh c 8 om om
 have o1:=bin_orU .u32 (by simp) (a:=a*2 ^ 24) (b:=b*2 ^ 16) (by simp only[IntKind.bits]; omega) (by simp only[IntKind.bits]; omega)
 rw[or_low 24 a om]at o1
 have o2:=bin_orU .u32 (by simp) (a:=a*2 ^ 24+b*2 ^ 16) (b:=c*2 ^ 8) (by simp only[IntKind.bits]; omega) (by simp only[IntKind.bits]; omega)
 rw[show a*2 ^ 24+b*2 ^ 16=(a*256+b)*2 ^ 16 by omega,or_low 16 (a*256+b) om,← show a*2 ^ 24+b*2 ^ 16=(a*256+b)*2 ^ 16 by omega]at o2
 have o3:=bin_orU .u32 (by simp) (a:=a*2 ^ 24+b*2 ^ 16+c*2 ^ 8) (b:=d) (by simp only[IntKind.bits]; omega) (by simp only[IntKind.bits]; omega)
 rw[show a*2 ^ 24+b*2 ^ 16+c*2 ^ 8=(a*65536+b*256+c)*2 ^ 8 by omega,or_low 8 (a*65536+b*256+c) om,show (a*65536+b*256+c)*2 ^ 8+d=num4 tl by omega,← show a*2 ^ 24+b*2 ^ 16+c*2 ^ 8=(a*65536+b*256+c)*2 ^ 8 by omega]at o3
 simp only[c67,sA,sB,seval,j0,j1,j2',j3',y0,y1,y2,y3,conv_in,u0,u1,u2,u3,s24,s16,s08,o1,o2,o3]
 exact⟨tt,tt⟩
theorem tchunk_spec{n:Nat}{H:AHeap}{v:AVal}{kind body rest:Bs}(h:Op n H v (byts (chunkF kind body++rest)))(hn:n≤H.next)(hk:kind.length=4)(hb:body.length≤900000) :
  ACalls Tryz.prog natT 47 [v] H fun w H'=>∃bv rv,w=.tuple [.str kind,bv,rv,.int .i64 0]∧Op n H' bv (byts body)∧Op n H' rv (byts rest)∧Ext H.next H H':=by
 refine acalls_ofN rfl za47 rfl ?_
 have hcl:=chunkF_len hk body
 have ll:(chunkF kind body++rest).length=body.length+12+rest.length:=by rw[lA,hcl]
 have lv:=h.len
 rw[byts_len,ll]at lv
 have a1:¬((body.length+12+rest.length:Nat):Int)<4:=om
 have e0:chunkF kind body++rest=be4 body.length++(kind++body++(be4 (crcF (kind++body))++rest)):=by simp only[chunkF,List.append_assoc]
 have n4:num4 (chunkF kind body++rest)=body.length:=by rw[e0]; exact num_be4 om _
 have a2:¬(1048576:Int)<(body.length:Int):=om
 have w1:IntKind.i64.wrap (body.length:Int)=(body.length:Int):=wrap64 om om
 have w12:IntKind.i64.wrap (12+(body.length:Int))=((12+body.length:Nat):Int):=w64
 have w8:IntKind.i64.wrap (8+(body.length:Int))=((8+body.length:Nat):Int):=w64
 have a3:¬((body.length+12+rest.length:Nat):Int)<((12+body.length:Nat):Int):=om
 have d4:(be4 body.length).length=4:=rfl
 obtain⟨s1,m1,o1,-⟩:=h.from_ (lo:=8+body.length) (by rw[byts_len,ll]; omega)
 have e1:(chunkF kind body++rest).drop (8+body.length)=be4 (crcF (kind++body))++rest:=by
  rw[e0,← List.append_assoc,List.drop_left' (by simp only[lA,d4,hk]; omega)]
 rw[byts_drop,e1]at o1
 obtain⟨s2,m2,o2,-⟩:=h.sub (lo:=4) (hi:=8+body.length) om (by rw[byts_len,ll]; omega)
 have e2:((chunkF kind body++rest).drop 4).take (8+body.length-4)=kind++body:=by
  rw[e0,List.drop_left' d4,List.take_left' (by rw[lA,hk]; omega)]
 rw[byts_drop,byts_take,e2]at o2
 obtain⟨s3,m3,o3,-⟩:=h.sub (lo:=4) (hi:=8) om (by rw[byts_len,ll]; omega)
 have e3:((chunkF kind body++rest).drop 4).take (8-4)=kind:=by
  rw[e0,List.drop_left' d4,List.append_assoc,List.take_left' hk]
 rw[byts_drop,byts_take,e3]at o3
 obtain⟨s4,m4,o4,-⟩:=h.sub (lo:=8) (hi:=8+body.length) om (by rw[byts_len,ll]; omega)
 have e4:((chunkF kind body++rest).drop 8).take (8+body.length-8)=body:=by
  have:be4 body.length++(kind++body++(be4 (crcF (kind++body))++rest))=(be4 body.length++kind)++(body++(be4 (crcF (kind++body))++rest)):=by simp only[List.append_assoc]
  rw[e0,this,List.drop_left' (by rw[lA,d4,hk]),List.take_left' om]
 rw[byts_drop,byts_take,e4]at o4
 obtain⟨s5,m5,o5,-⟩:=h.from_ (lo:=12+body.length) (by rw[byts_len,ll]; omega)
 have e5:(chunkF kind body++rest).drop (12+body.length)=rest:=List.drop_left' om
 rw[byts_drop,e5]at o5
 have m2':aSl 1 v (some (.int .i64 4)) (some (.int .i64 ((8+body.length:Nat):Int))) none=some s2:=m2
 have m3':aSl 1 v (some (.int .i64 4)) (some (.int .i64 8)) none=some s3:=m3
 have m4':aSl 1 v (some (.int .i64 8)) (some (.int .i64 ((8+body.length:Nat):Int))) none=some s4:=m4
 simp only[c47,sA,sB,seval,lv,a1]
 refine (tfour_spec h.cel (by rw[ll]; omega)).mono ?_
 rintro _ _ ⟨rfl,rfl⟩
 simp only[sA,sB,seval,n4,a2,conv_in,w1,lv,w12,a3,w8,m1]
 refine (tfour_spec o1.cel (by rw[lA,be4_len]; omega)).mono ?_
 rintro _ _ ⟨rfl,rfl⟩
 rw[num_be4 (crcF_lt _)]
 simp only[sA,sB,seval,w8,m2']
 refine (crc_spec o2.cel (by rw[lA]; omega) hn).mono ?_
 rintro _ H1 ⟨rfl,E1⟩
 have o3':=o3.ext (E1.less hn)
 have s3b:=bs_cel o3'.cel
 simp only[sA,sB,seval,m3',s3b,w8,m4',w12,m5,fin_t4]
 exact⟨s4,s5,tt,o4.ext (E1.less hn),o5.ext (E1.less hn),E1⟩
def pC(w h wide:Nat)(laced:Bool)(data:AVal):List AVal:=[.int .i64 (w:Int),.int .i64 (h:Int),.int .i64 (wide:Int),.bool laced,data]
theorem thead_spec{n pb w h:Nat}{H:AHeap}{v:AVal}(R:Row H pb (pC 0 0 0 false nilS))(C:Op n H v (byts (headB w h)))(hn:n≤pb)(hw:1≤w)(hw2:w≤20)(hh:1≤h)(hh2:h≤20) :
  ACalls Tryz.prog natT 48 [cellR pb 5 0,v] H fun x H'=>x=.int .i64 0∧Row H' pb (pC w h 4 true nilS)∧H'.next=H.next∧∀c,c≠pb→H'.get c=H.get c:=by
 refine acalls_ofN rfl za48 rfl ?_
 have lv:aLenK false v=some (.int .i64 13):=C.len
 have n0:num4 (headB w h)=w:=by
  show num4 (be4 w++be4 h++_)=w
  rw[List.append_assoc]; exact num_be4 om _
 obtain⟨s4,m4,o4,-⟩:=C.from_ (lo:=4) (by show 4≤13; decide)
 have e4:(byts (headB w h)).drop 4=byts (be4 h++[8,6,0,0,1]):=rfl
 rw[e4]at o4
 have m4':aSl 1 v (some (.int .i64 4)) none none=some s4:=m4
 have n4:num4 (be4 h++[8,6,0,0,1])=h:=num_be4 om _
 have a1:¬(w:Int)<1:=om
 have a2:¬(1024:Int)<(w:Int):=om
 have a3:¬(h:Int)<1:=om
 have a4:¬(1024:Int)<(h:Int):=om
 have w1:IntKind.i64.wrap (w:Int)=(w:Int):=wrap64 om om
 have w2:IntKind.i64.wrap (h:Int)=(h:Int):=wrap64 om om
 have ix:∀(i:Nat) (x:Int),(byts (headB w h))[i]?=some (.int .u8 x)→i<13→aIdxA 1 v (.int .i64 (i:Int))=some (cellP v i):=fun i x _ hi=>C.cel.idx .i64 (i:=i) hi
 have i8:aIdxA 1 v (.int .i64 8)=some (cellP v 8):=C.cel.idx .i64 (i:=8) (by show 8<13; decide)
 have i9:aIdxA 1 v (.int .i64 9)=some (cellP v 9):=C.cel.idx .i64 (i:=9) (by show 9<13; decide)
 have i10:aIdxA 1 v (.int .i64 10)=some (cellP v 10):=C.cel.idx .i64 (i:=10) (by show 10<13; decide)
 have i11:aIdxA 1 v (.int .i64 11)=some (cellP v 11):=C.cel.idx .i64 (i:=11) (by show 11<13; decide)
 have i12:aIdxA 1 v (.int .i64 12)=some (cellP v 12):=C.cel.idx .i64 (i:=12) (by show 12<13; decide)
 obtain⟨H1,s1,R1,k1,q1⟩:=row_st R (n:=5) rfl (i:=0) om (x:=.int .i64 (w:Int)) rfl (l':=pC w 0 0 false nilS) rfl
 obtain⟨H2,s2,R2,k2,q2⟩:=row_st R1 (n:=5) rfl (i:=1) om (x:=.int .i64 (h:Int)) rfl (l':=pC w h 0 false nilS) rfl
 obtain⟨H3,s3,R3,k3,q3⟩:=row_st R2 (n:=5) rfl (i:=2) om (x:=.int .i64 4) rfl (l':=pC w h 4 false nilS) rfl
 obtain⟨H4,s4',R4,k4,q4⟩:=row_st R3 (n:=5) rfl (i:=3) om (x:=.bool true) rfl (l':=pC w h 4 true nilS) rfl
 have C2:Cel n H2 v (byts (headB w h)):=cel_same C.cel rL (C.blk.mono fun c hc=>by rw[q2 c om,q1 c om])
 have C3:Cel n H3 v (byts (headB w h)):=cel_same C2 rL (C.blk.mono fun c hc=>by rw[q3 c om])
 have g9:oLoad false 1 H2 (cellP v 9)=some (.int .u8 6):=C2.load (i:=9) rfl
 have g8:oLoad false 1 H3 (cellP v 8)=some (.int .u8 8):=C3.load (i:=8) rfl
 have g10:oLoad false 1 H3 (cellP v 10)=some (.int .u8 0):=C3.load (i:=10) rfl
 have g11:oLoad false 1 H3 (cellP v 11)=some (.int .u8 0):=C3.load (i:=11) rfl
 have g12:oLoad false 1 H3 (cellP v 12)=some (.int .u8 1):=C3.load (i:=12) rfl
 have lw:oLoad false 1 H3 (cellR pb 5 2)=some (.int .i64 4):=row_load R3 rfl rfl
 simp only[c48,sA,sB,seval,lv]
 refine (tfour_spec C.cel (by show 4≤13; decide)).mono ?_
 rintro _ _ ⟨rfl,rfl⟩
 simp only[sA,sB,seval,m4']
 refine (tfour_spec o4.cel (by show 4≤9; decide)).mono ?_
 rintro _ _ ⟨rfl,rfl⟩
 rw[n0,n4]
 simp only[sA,sB,seval,a1,a2,a3,a4,conv_in,w1,w2,nil_cell,fldA,fld0,s1,s2,i9,g9,s3,i8,g8,lw,i10,g10,i11,g11,i12,g12,s4']
 exact⟨tt,R4,om,fun c hc=>by rw[q4 c hc,q3 c hc,q2 c hc,q1 c hc]⟩
def idatsF(ts:List Bs):Bs:=ts.flatMap (chunkF kIDAT)
theorem ext_3(a b c d:AVal)(l:List AVal):aExtract 3 (.tuple (a::b::c::d::l))=some d:=_root_.id rfl
theorem nqb:aPf (.eqv true .bool) [.bool true,.bool true]=some (.bool false)∧aPf (.eqv true .bool) [.bool false,.bool false]=some (.bool false):=⟨_root_.id rfl,_root_.id rfl⟩
theorem chunks_spec{n pb w h:Nat}{H:AHeap}{v:AVal}{ts:List Bs}(R:Row H pb (pC 0 0 0 false nilS))(C:Op n H v (byts (chunkF kIHDR (headB w h)++(idatsF ts++chunkF kIEND []))))(hn:n≤pb)(hpb:pb<H.next)(hw:1≤w)(hw2:w≤20)(hh:1≤h)(hh2:h≤20)(hts:ts.flatten.length≤500000) :
  ACalls Tryz.prog natT 23 [cellR pb 5 0,v] H fun x H'=>∃dv,x=.int .i64 0∧Row H' pb (pC w h 4 true dv)∧AppN 1 0 H' dv (byts ts.flatten) ts.flatten.length∧Blk dv (H.next≤·)∧H.next≤H'.next∧∀c,c<H.next→c≠pb→H'.get c=H.get c:=by
 refine acalls_ofN rfl za23 rfl ?_
 have q1:aBin .eql (.str kIHDR) (.str [73,72,68,82])=some (.bool true):=_root_.id rfl
 have q2:aBin .eql (.str kIDAT) (.str [73,72,68,82])=some (.bool false):=_root_.id rfl
 have q3:aBin .eql (.str kIEND) (.str [73,72,68,82])=some (.bool false):=_root_.id rfl
 have q4:aBin .eql (.str kIDAT) (.str [73,68,65,84])=some (.bool true):=_root_.id rfl
 have q5:aBin .eql (.str kIEND) (.str [73,68,65,84])=some (.bool false):=_root_.id rfl
 have q6:aBin .eql (.str kIEND) (.str [73,69,78,68])=some (.bool true):=_root_.id rfl
 obtain⟨p1,p2⟩:=nqb
 have lnil:∀{H':AHeap} {s:AVal},Op n H' s (byts [])→aLenK false s=some (.int .i64 0):=fun h=>h.len
 simp only[c23,sA,sB,seval]
 refine aw_loop (fun m (T:Env) H'=>T 0=cellR pb 5 0∧H.next≤H'.next∧(∀c,c<H.next→c≠pb→H'.get c=H.get c)∧((m=ts.length+2∧T 5=.bool true∧T 1=v∧H'=H)∨∃j dv rv,j≤ts.length∧m=ts.length+1-j∧T 5=.bool false∧T 1=rv∧Op n H' rv (byts (idatsF (ts.drop j)++chunkF kIEND []))∧Row H' pb (pC w h 4 true dv)∧AppN 1 0 H' dv (byts (ts.take j).flatten) (ts.take j).flatten.length∧Blk dv (H.next≤·))) (ts.length+2)
  ⟨by simp only[sA,sB,seval],Nat.le_refl _,fun _ _ _=>rfl,.inl ⟨rfl,by simp only[sA,sB,seval],by simp only[sA,sB,seval],rfl⟩⟩ ?_
 rintro m T H1 ⟨t0,n1,f1,⟨rfl,t5,t1,rfl⟩ | ⟨j,dv,rv,hj,rfl,t5,t1,O1,R1,A1,b1⟩⟩
 ·simp only[sA,sB,seval,t0,t1,t5]
  refine (tchunk_spec C om rfl (by show 13≤900000; decide)).mono ?_
  rintro _ H2 ⟨bv,rv,rfl,ob,orv,E2⟩
  have e2n:=E2.next
  simp only[sA,sB,seval,t0,t5,ext_0,ext_1,ext_2,ext_3,q1,p1]
  refine (thead_spec (R.same (E2.old pb hpb)) ob hn hw hw2 hh hh2).mono ?_
  rintro _ H3 ⟨rfl,R3,k3,o3⟩
  simp only[sA,sB,seval,t0,t5]
  refine⟨ts.length+1,om,tt,om,fun c hc hne=>by rw[o3 c hne,E2.old c hc],.inr ⟨0,nilS,rv,om,rfl,tt,tt,?_,R3,AppN.nil _ _ _,blk_nil _⟩⟩
  exact orv.same rL (orv.blk.mono fun c hc=>o3 c om)
 by_cases hlt:j<ts.length
 ·obtain⟨t,ht⟩:∃t,ts[j]?=some t:=⟨_,List.getElem?_eq_getElem hlt⟩
  have ed:idatsF (ts.drop j)=chunkF kIDAT t++idatsF (ts.drop (j+1)):=by
   rw[List.drop_eq_getElem_cons hlt,(List.getElem?_eq_some_iff.1 ht).2]; rfl
  have et:(ts.take (j+1)).flatten=(ts.take j).flatten++t:=by
   rw[List.take_add_one,ht]; simp
  have htl:(ts.take j).flatten.length+t.length≤500000:=by
   have e:ts.flatten=(ts.take (j+1)).flatten++(ts.drop (j+1)).flatten:=by rw[← List.flatten_append,List.take_append_drop]
   rw[e,et,lA,lA]at hts; omega
  rw[ed,List.append_assoc]at O1
  simp only[sA,sB,seval,t0,t1,t5]
  refine (tchunk_spec O1 om rfl om).mono ?_
  rintro _ H2 ⟨bv,rv2,rfl,ob,orv,E2⟩
  have e2n:=E2.next
  have R2:=R1.same (E2.old pb om)
  have l4:oLoad false 1 H2 (cellR pb 5 4)=some dv:=row_load R2 rfl rfl
  obtain⟨dv',H3,m3,A3,k3,b3,o3⟩:=app_bytes (A1.same e2n (A1.blk'.mono fun c hc=>E2.old c hc)) (src_cel ob.cel) om
  have o3':∀c,c<H.next→H3.get c=H2.get c:=fun c hc=>o3 c om (b1.mono fun d hd=>om)
  have b3':=(b3 _ b1).mono fun c hc=>show H.next≤c by omega
  obtain⟨H4,m4,R4,k4,o4⟩:=row_st (R2.same (o3' pb hpb)) (n:=5) rfl (i:=4) om (x:=dv') A3.one (l':=pC w h 4 true dv') rfl
  simp only[sA,sB,seval,t0,t5,ext_0,ext_1,ext_2,ext_3,q2,p2,q4,nil_cell,fldA,fld0,l4,m3,m4]
  refine⟨ts.length+1-(j+1),om,tt,om,fun c hc hne=>by rw[o4 c hne,o3' c hc,E2.old c om,f1 c hc hne],.inr ⟨j+1,dv',rv2,om,rfl,tt,tt,?_,R4,?_,b3'⟩⟩
  ·exact orv.same rL (orv.blk.mono fun c hc=>by rw[o4 c om,o3' c om])
  ·rw[et]
   exact A3.same om (b3'.mono fun c hc=>o4 c om)
 ·obtain rfl:j=ts.length:=om
  rw[List.drop_length]at O1
  have O1':Op n H1 rv (byts (chunkF kIEND []++[])):=by rw[List.append_nil]; exact O1
  rw[List.take_length]at A1
  simp only[sA,sB,seval,t0,t1,t5]
  refine (tchunk_spec O1' om rfl (by simp)).mono ?_
  rintro _ H2 ⟨bv,rv2,rfl,ob,orv,E2⟩
  have e2n:=E2.next
  simp only[sA,sB,seval,t0,t5,ext_0,ext_1,ext_2,ext_3,q3,p2,q5,q6,lnil ob,lnil orv]
  exact⟨dv,tt,R1.same (E2.old pb om),A1.same e2n (A1.blk'.mono fun c hc=>E2.old c hc),b1,om,fun c hc hne=>by rw[E2.old c om,f1 c hc hne]⟩
def eachP(w h:Nat)(p:Nat×Nat×Nat×Nat):Option (Nat×Nat):=if 0<colsP w p∧0<rowsN h p then some (colsP w p,rowsN h p) else none
theorem eachL_eq(w h:Nat):eachL w h=passesL.filterMap (eachP w h):=rfl
structure CloE(g:Nat)(cs:List AVal)(pb:Nat)(E:List (Nat×Nat))(I:Nat→(Nat→Prop)→AHeap→Prop):Prop where
 own:∀k O H,I k O H→∀c,O c→c<H.next
 pic:∀k O H,I k O H→¬O pb
 keep:∀k O H H',I k O H→H.next≤H'.next→H'.get pb=H.get pb→(∀c,O c→H'.get c=H.get c)→I k O H'
 step:∀k e O H,E[k]?=some e→I k O H→ACalls Tryz.prog natT g ([.int .i64 (e.1:Int),.int .i64 (e.2:Int)]++cs) H fun _ H'=>∃O',I (k+1) O' H'∧H.next≤H'.next∧(∀c,c<H.next→¬O c→H'.get c=H.get c)∧∀c,O' c→O c∨H.next≤c
theorem quo64N{a b:Nat}(hb:0<b)(ha:a≤1000000):aBin .quo (.int .i64 (a:Int)) (.int .i64 (b:Int))=some (.int .i64 ((a / b:Nat):Int)):=by
 have bq:=bin_quo .i64 (a:Int) (b:Int) om
 have hle:a / b≤a:=Nat.div_le_self _ _
 rw[bq,show (a:Int).tdiv (b:Int)=((a / b:Nat):Int) from rfl]
 generalize a / b=q at *
 rw[wrap64 om om]
theorem passes_ok2:∀p∈passesL,p.2.1<p.2.2.2:=by decide
def preE(w h k:Nat):Nat:=((passesL.take k).filterMap (eachP w h)).length
theorem each_at{w h k:Nat}{p:Nat×Nat×Nat×Nat}(hp:passesL[k]?=some p){e:Nat×Nat}(he:eachP w h p=some e):(eachL w h)[preE w h k]?=some e∧preE w h (k+1)=preE w h k+1:=by
 have hk:=(List.getElem?_eq_some_iff.1 hp).1
 have ee:passesL=passesL.take k++p::passesL.drop (k+1):=by
  rw[← (List.getElem?_eq_some_iff.1 hp).2,← List.drop_eq_getElem_cons hk,List.take_append_drop]
 constructor
 ·have:eachL w h=(passesL.take k).filterMap (eachP w h)++e::(passesL.drop (k+1)).filterMap (eachP w h):=by
   rw[eachL_eq]
   conv=>lhs; rw[ee]
   rw[List.filterMap_append,List.filterMap_cons,he]
  rw[this,List.getElem?_append_right (by unfold preE; omega)]
  unfold preE
  rw[Nat.sub_self]; rfl
 ·unfold preE
  rw[List.take_add_one,hp,List.filterMap_append,lA]
  simp[he]
theorem each_none{w h k:Nat}{p:Nat×Nat×Nat×Nat}(hp:passesL[k]?=some p)(he:eachP w h p=none):preE w h (k+1)=preE w h k:=by
 unfold preE
 rw[List.take_add_one,hp,List.filterMap_append,lA]
 simp[he]
theorem tpasses_spec{H:AHeap}{pb w h:Nat}{dv:AVal}(R:Row H pb (pC w h 4 true dv)):ACalls Tryz.prog natT 49 [cellR pb 5 0] H fun v H'=>v=.slice (some ⟨H.next,28,0⟩) 7 (.known 7)∧Row H' H.next pcells∧H'.next=H.next+1∧∀c,c<H.next→H'.get c=H.get c:=by
 refine acalls_ofN rfl za49 rfl ?_
 have l3:oLoad false 1 H (cellR pb 5 3)=some (.bool true):=row_load R rfl rfl
 have bs:aBuildSl 7 [i0,i0,i0,i0] H [(0,4,.agg (pcell (0,0,8,8))),(4,4,.agg (pcell (4,0,8,8))),(8,4,.agg (pcell (0,4,4,8))),(12,4,.agg (pcell (2,0,4,4))),(16,4,.agg (pcell (0,2,2,4))),(20,4,.agg (pcell (1,0,2,2))),(24,4,.agg (pcell (0,1,1,2)))]=some (.slice (some ⟨H.next,28,0⟩) 7 (.known 7),H.push (.cells pcells 0 false)):=_root_.id rfl
 have b0:=bld0
 have b1:=bld1
 have b2:=bld2
 have b3:=bld3
 have b4:=bld4
 have b5:=bld5
 have b6:=bld6
 simp only[i0]at bs b0 b1 b2 b3 b4 b5 b6
 simp only[c49,sA,sB,seval,nil_cell,fldA,fld0,l3,b0,b1,b2,b3,b4,b5,b6,bs]
 exact⟨tt,row_push _ _,push_next _ _,fun c hc=>get_push_lt hc⟩
theorem pcells_ld{k:Nat}{p:Nat×Nat×Nat×Nat}(h:passesL[k]?=some p):(pcells.drop (k*4)).take 4=pcell p:=by
 have hk:k<7:=(List.getElem?_eq_some_iff.1 h).1
 match k,hk with
 | 0,_ | 1,_ | 2,_ | 3,_ | 4,_ | 5,_ | 6,_=>cases h; rfl
theorem each_spec{g pb:Nat}{cs:List AVal}{w h:Nat}{dv:AVal}{I:Nat→(Nat→Prop)→AHeap→Prop}(C:CloE g cs pb (eachL w h) I)(hg:g<1024)(hw:1≤w)(hw2:w≤20)(hh:1≤h)(hh2:h≤20){O:Nat→Prop}{H:AHeap}(h0:I 0 O H)(R:Row H pb (pC w h 4 true dv))(hpb:pb<H.next) :
  ACalls Tryz.prog natT 24 [cellR pb 5 0,.func (.func g) [] cs] H fun _ H'=>∃O',I (eachL w h).length O' H'∧H.next≤H'.next∧(∀c,c<H.next→¬O c→H'.get c=H.get c)∧∀c,O' c→O c∨H.next≤c:=by
 refine acalls_ofN rfl za24 rfl ?_
 simp only[c24,sA,sB,seval]
 refine (tpasses_spec R).mono ?_
 rintro _ H1 ⟨rfl,rp,k1,q1⟩
 have i1:=C.keep 0 O H H1 h0 om (q1 pb hpb) fun c hc=>q1 c (C.own _ _ _ h0 c hc)
 have ll:∀b,aLenK false (.slice (some ⟨b,28,0⟩) 7 (.known 7))=some (.int .i64 7):=fun _=>_root_.id rfl
 simp only[sA,sB,seval,ll]
 refine aw_loop (fun m (T:Env) H'=>∃k O',m=7-k∧k≤7∧T 0=cellR pb 5 0∧T 1=.func (.func g) [] cs∧T 9=.slice (some ⟨H.next,28,0⟩) 7 (.known 7)∧T 10=.int .i64 7∧T 11=.int .i64 (k:Int)∧Row H' H.next pcells∧¬O' H.next∧I (preE w h k) O' H'∧H.next<H'.next∧(∀c,c<H.next→¬O c→H'.get c=H.get c)∧∀c,O' c→O c∨H.next≤c) 7
  ⟨0,O,rfl,om,by simp only[sA,sB,seval],by simp only[sA,sB,seval],by simp only[sA,sB,seval],by simp only[sA,sB,seval],by simp only[sA,sB,seval]; try rfl,rp,fun q=>by have:=C.own _ _ _ h0 _ q; omega,i1,om,fun c hc _=>q1 c hc,fun c hc=>.inl hc⟩ ?_
 rintro m T H2 ⟨k,O2,rfl,hk,t0,t1,t9,t10,t11,rp2,no2,i2,n2,f2,o2⟩
 by_cases hlt:k<7
 case neg=>
  obtain rfl:k=7:=om
  have h7:¬((7:Nat):Int)<7:=om
  simp only[sA,sB,seval,t10,t11,h7]
  have e:preE w h 7=(eachL w h).length:=rfl
  rw[e]at i2
  exact⟨[],rfl,O2,i2,om,f2,o2⟩
 have hlt':(k:Int)<7:=om
 obtain⟨p,hp⟩:∃p,passesL[k]?=some p:=⟨_,List.getElem?_eq_getElem hlt⟩
 obtain⟨p1,p2,p3,p4,p5⟩:=passes_ok p (List.mem_of_getElem? hp)
 have p6:=passes_ok2 p (List.mem_of_getElem? hp)
 have wk:IntKind.i64.wrap ((k:Int)+1)=((k+1:Nat):Int):=w64
 have ix:aIdxA 4 (.slice (some ⟨H.next,28,0⟩) 7 (.known 7)) (.int .i64 (k:Int))=some (cellR H.next 28 (k*4)):=by
  show (bif Nat.blt k 7 then some (AVal.ptr (some ⟨H.next,28,0+k*4⟩)) else none)=_
  rw[show Nat.blt k 7=true by simpa[Nat.blt_eq] using hlt,Nat.zero_add]; rfl
 have ld:oLoad true 4 H2 (cellR H.next 28 (k*4))=some (.agg (pcell p)):=by
  rw[row_loadK rp2 (n:=28) rfl (i:=k*4) (k:=4) om,pcells_ld hp]
 obtain⟨H3,m3,r3,k3,q3⟩:=row_newL H2 [i0,i0,i0,i0] (n:=4) rfl
 obtain⟨H4,m4,r4',k4,q4⟩:=row_storeK r3 (n:=4) rfl (i:=0) (k:=4) om (xs:=pcell p) rfl rfl
 have r4:Row H4 H2.next (pcell p):=r4'
 have E4:Ext H2.next H2 H4:=⟨om,fun c hc=>by rw[q4 c om,q3 c om]⟩
 have hno:¬O pb:=C.pic _ _ _ h0
 have R4:Row H4 pb (pC w h 4 true dv):=R.same (by rw[E4.old pb om,f2 pb hpb hno])
 have i4:=C.keep _ _ _ H4 i2 E4.next (E4.old pb om) fun c hc=>E4.old c (C.own _ _ _ i2 c hc)
 have lw:oLoad false 1 H4 (cellR pb 5 0)=some (.int .i64 (w:Int)):=row_load R4 rfl rfl
 have lh:oLoad false 1 H4 (cellR pb 5 1)=some (.int .i64 (h:Int)):=row_load R4 rfl rfl
 have l0:oLoad false 1 H4 (cellR H2.next 4 0)=some (.int .i64 (p.1:Int)):=row_load r4 rfl rfl
 have l1:oLoad false 1 H4 (cellR H2.next 4 1)=some (.int .i64 (p.2.1:Int)):=row_load r4 rfl rfl
 have l2:oLoad false 1 H4 (cellR H2.next 4 2)=some (.int .i64 (p.2.2.1:Int)):=row_load r4 rfl rfl
 have l3:oLoad false 1 H4 (cellR H2.next 4 3)=some (.int .i64 (p.2.2.2:Int)):=row_load r4 rfl rfl
 have x0:=ia0 H2.next
 have x1:=ia1 H2.next
 have x2:=ia2 H2.next
 have x3:=ia3 H2.next
 simp only[i0]at m3
 have w1:IntKind.i64.wrap ((w:Int)-(p.1:Int))=(w:Int)-(p.1:Int):=wrap64 om om
 have w2:IntKind.i64.wrap ((w:Int)-(p.1:Int)+(p.2.2.1:Int))=(w:Int)-(p.1:Int)+(p.2.2.1:Int):=wrap64 om om
 have w3:IntKind.i64.wrap ((w:Int)-(p.1:Int)+(p.2.2.1:Int)-1)=((w+p.2.2.1-1-p.1:Nat):Int):=by rw[wrap64 om om]; omega
 have v1:IntKind.i64.wrap ((h:Int)-(p.2.1:Int))=(h:Int)-(p.2.1:Int):=wrap64 om om
 have v2:IntKind.i64.wrap ((h:Int)-(p.2.1:Int)+(p.2.2.2:Int))=(h:Int)-(p.2.1:Int)+(p.2.2.2:Int):=wrap64 om om
 have v3:IntKind.i64.wrap ((h:Int)-(p.2.1:Int)+(p.2.2.2:Int)-1)=((h+p.2.2.2-1-p.2.1:Nat):Int):=by rw[wrap64 om om]; omega
 have bq:aBin .quo (.int .i64 ((w+p.2.2.1-1-p.1:Nat):Int)) (.int .i64 (p.2.2.1:Int))=some (.int .i64 (colsP w p:Int)):=quo64N om om
 have br:aBin .quo (.int .i64 ((h+p.2.2.2-1-p.2.1:Nat):Int)) (.int .i64 (p.2.2.2:Int))=some (.int .i64 (rowsN h p:Int)):=quo64N om om
 have fr4:∀c,c<H.next→¬O c→H4.get c=H.get c:=fun c hc q=>by rw[E4.old c om,f2 c hc q]
 have rp4:=rp2.same (E4.old _ n2)
 have done:∀T':Env,T' 0=cellR pb 5 0→True:=fun _ _=>trivial
 by_cases hc:0<colsP w p
 ·have hc':(0:Int)<(colsP w p:Int):=om
  by_cases hr:0<rowsN h p
  ·have hr':(0:Int)<(rowsN h p:Int):=om
   have he:eachP w h p=some (colsP w p,rowsN h p):=by unfold eachP; rw[if_pos ⟨hc,hr⟩]
   obtain⟨ea,es⟩:=each_at hp he
   simp only[sA,sB,seval,t0,t1,t9,t10,t11,hlt',ix,ld,m3,m4,nil_cell,fldA,fld0,lw,lh,x0,x1,x2,x3,l0,l1,l2,l3,w1,w2,w3,v1,v2,v3,bq,br,hc',hr',callvP_func _ _ _ _ _ hg]
   refine (C.step _ _ _ _ ea i4).mono ?_
   rintro v6 H6 ⟨O6,i6,n6,f6,o6⟩
   simp only[sA,sB,seval,t0,t1,t9,t10,t11,wk]
   exact⟨7-(k+1),om,k+1,O6,rfl,om,tt,tt,tt,tt,tt,rp4.same (f6 _ om no2),fun q=>(o6 _ q).elim no2 fun q=>om,by rw[es]; exact i6,om,fun c hc q=>by rw[f6 c om fun q2=>(o2 c q2).elim q fun q3=>om,fr4 c hc q],fun c hc=>(o6 c hc).elim (o2 c) fun q=>.inr om⟩
  ·have hr':¬(0:Int)<(rowsN h p:Int):=om
   have he:eachP w h p=none:=by unfold eachP; rw[if_neg fun q=>hr q.2]
   simp only[sA,sB,seval,t0,t1,t9,t10,t11,hlt',ix,ld,m3,m4,nil_cell,fldA,fld0,lw,lh,x0,x1,x2,x3,l0,l1,l2,l3,w1,w2,w3,v1,v2,v3,bq,br,hc',hr',wk]
   exact⟨7-(k+1),om,k+1,O2,rfl,om,tt,tt,tt,tt,tt,rp4,no2,by rw[each_none hp he]; exact i4,om,fr4,o2⟩
 ·have hc':¬(0:Int)<(colsP w p:Int):=om
  have he:eachP w h p=none:=by unfold eachP; rw[if_neg fun q=>hc q.1]
  simp only[sA,sB,seval,t0,t1,t9,t10,t11,hlt',ix,ld,m3,m4,nil_cell,fldA,fld0,lw,lh,x0,x1,x2,x3,l0,l1,l2,l3,w1,w2,w3,v1,v2,v3,bq,br,hc',wk]
  exact⟨7-(k+1),om,k+1,O2,rfl,om,tt,tt,tt,tt,tt,rp4,no2,by rw[each_none hp he]; exact i4,om,fr4,o2⟩
end Go.Proofs.Tb
