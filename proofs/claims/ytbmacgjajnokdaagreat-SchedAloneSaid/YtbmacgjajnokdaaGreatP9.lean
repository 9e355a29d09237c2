/- Part of a proof (T73 T74 T75 T76 T77 T78 UC1 UC5); no condition. -/
import Derived.Test.YtbmacgjajnokdaaGreatProg
import Derived.KernelRfl
import Derived.Test.YtbmacgjajnokdaaGreatP5
import Derived.Test.YtbmacgjajnokdaaGreatP8
set_option linter.unusedSimpArgs false
set_option linter.unusedVariables false
set_option linter.defProp false
set_option linter.unnecessarySimpa false
namespace Go.Proofs.Tb
open Go.Abs Go.Abs.S
def nats(l:List Nat):List AVal:=l.map fun (n:Nat)=>.int .i64 (n:Int)
theorem nats_len(l:List Nat):(nats l).length=l.length:=by simp[nats]
theorem nats_append(a b:List Nat):nats (a++b)=nats a++nats b:=by simp[nats]
theorem right_spec{w h:Nat}(hw:1≤w)(hw2:w≤20)(hh:1≤h)(hh2:h≤20){H:AHeap}:ACalls Tryz.prog noNat 96 [.int .i64 (w:Int),.int .i64 (h:Int)] H fun v H'=>v=.bool true∧H=H':=by
 refine acalls_ofN rfl za96 rfl ?_
 have a1:(1:Int)≤(w:Int):=om
 have a2:(w:Int)≤1024:=om
 have a3:(1:Int)≤(h:Int):=om
 have a4:(h:Int)≤1024:=om
 simp only[c96,sA,sB,seval,a1,a2,a3,a4]
 exact⟨tt,tt⟩
theorem orderR_at{r:Nat×Nat×Nat}{i:Nat}(h:i<r.2.2):(orderR r)[i]?=some (r.1+i*r.2.1):=by
 unfold orderR
 rw[List.getElem?_map,List.getElem?_range h]; rfl
theorem orderR_len(r:Nat×Nat×Nat):(orderR r).length=r.2.2:=by simp[orderR]
def ordI(v b cap:Nat)(R:List (Nat×Nat×Nat))(k:Nat)(O:Nat→Prop)(H:AHeap):Prop:=
 ∃s,Row H v [s]∧v<H.next∧v≠b∧Mk H b cap s (nats ((R.take k).flatMap orderR))∧∀c,O c↔c=v∨c=b
theorem take_flat{α β:Type}{f:α→List β}{R:List α}{k:Nat}{r:α}(h:R[k]?=some r):(R.take (k+1)).flatMap f=(R.take k).flatMap f++f r:=by
 rw[List.take_add_one,h]; simp
theorem flat_le{α β:Type}{f:α→List β}{R:List α}(k:Nat):((R.take k).flatMap f).length≤(R.flatMap f).length:=by
 conv=>rhs; rw[← List.take_append_drop k R]
 rw[List.flatMap_append,lA]
 exact Nat.le_add_right _ _
theorem ord_clo{v b cap:Nat}{R:List (Nat×Nat×Nat)}(hcap:(R.flatMap orderR).length≤cap)(hc:cap≤100000)(hR:∀r∈R,r.1<100000∧r.2.1<9∧r.2.2≤20):Clo 100 [cellR v 1 0] R (ordI v b cap R):=by
 refine⟨?_,?_,?_⟩
 ·rintro k O H ⟨s,r,hv,_,m,ho⟩ c hc
  rcases (ho c).1 hc with rfl | rfl
  ·exact hv
  ·obtain⟨_,_,_,_,_,_,_,_,h⟩:=m; exact h
 ·rintro k O H H' ⟨s,r,hv,hne,m,ho⟩ hn e
  exact⟨s,r.same (e _ ((ho _).2 (.inl rfl))),om,hne,m.same hn (e _ ((ho _).2 (.inr rfl))),ho⟩
 ·rintro k ⟨f,st,n⟩ O H hr ⟨s,r,hv,hne,m,ho⟩
  obtain⟨q1,q2,q3⟩:=hR _ (List.mem_of_getElem? hr)
  simp only at q1 q2 q3
  have hfl:=flat_le (f:=orderR) (R:=R) (k+1)
  rw[take_flat hr,lA,orderR_len]at hfl
  simp only at hfl
  refine acalls_ofN rfl za100 rfl ?_
  simp only[List.cons_append,List.nil_append,c100,sA,sB,seval]
  refine aw_loop (fun m (T:Env) H'=>∃i s',m=n-i∧i≤n∧T 0=.int .i64 (f:Int)∧T 1=.int .i64 (st:Int)∧T 3=cellR v 1 0∧T 8=.int .i64 (n:Int)∧T 9=.int .i64 (i:Int)∧Row H' v [s']∧Mk H' b cap s' (nats ((R.take k).flatMap orderR++(orderR (f,st,n)).take i))∧H.next≤H'.next∧∀c,c<H.next→c≠v→c≠b→H'.get c=H.get c) n
   ⟨0,s,rfl,Nat.zero_le _,by simp only[sA,sB,seval],by simp only[sA,sB,seval],by simp only[sA,sB,seval],by simp only[sA,sB,seval],by simp only[sA,sB,seval]; try rfl,r,by simpa using m,Nat.le_refl _,fun _ _ _ _=>rfl⟩ ?_
  rintro m' T H1 ⟨i,s1,rfl,hi,t0,t1,t3,t8,t9,r1,m1,n1,f1⟩
  by_cases hlt:i<n
  case neg=>
   have hlt':¬(i:Int)<(n:Int):=om
   simp only[sA,sB,seval,t8,t9,hlt']
   obtain rfl:i=n:=om
   refine⟨[],rfl,O,⟨s1,r1,om,hne,?_,ho⟩,n1,fun c hc hO=>f1 c hc (fun e=>hO ((ho c).2 (.inl e))) fun e=>hO ((ho c).2 (.inr e)),fun c hc=>.inl hc⟩
   have e:(orderR (f,st,i)).take i=orderR (f,st,i):=List.take_of_length_le (by rw[orderR_len]; exact Nat.le_refl _)
   rw[e]at m1
   rwa [take_flat hr]
  have hlt':(i:Int)<(n:Int):=om
  have hmul:i*st≤20*9:=Nat.mul_le_mul om om
  have v1:IntKind.i64.wrap ((i:Int)*(st:Int))=((i*st:Nat):Int):=by rw[← Int.natCast_mul,wrap64 om om]
  have v2:IntKind.i64.wrap ((f:Int)+((i*st:Nat):Int))=((f+i*st:Nat):Int):=w64
  have v3:IntKind.i64.wrap ((i:Int)+1)=((i+1:Nat):Int):=w64
  have ll:(nats ((R.take k).flatMap orderR++(orderR (f,st,n)).take i)).length=((R.take k).flatMap orderR).length+i:=by
   rw[nats_len,lA,List.length_take,orderR_len]
   simp only
   omega
  obtain⟨s2,H2,a2,m2,k2,o2⟩:=m1.push (x:=.int .i64 ((f+i*st:Nat):Int)) (by rw[ll]; omega) rfl (bytes:=8) om om
  have vb:v<H1.next:=om
  have r2:=r1.same (o2 v vb hne)
  obtain⟨H3,a3,r3,k3,o3⟩:=row_st r2 (n:=1) rfl (i:=0) om (x:=s2) m2.one (l':=[s2]) rfl
  have l1:oLoad false 1 H1 (cellR v 1 0)=some s1:=row_load r1 rfl rfl
  have bd:=build1 (.int .i64 0) H1 (x:=.int .i64 ((f+i*st:Nat):Int)) rfl
  simp only[sA,sB,seval,t0,t1,t3,t8,t9,hlt',l1,v1,v2,v3,bd,a2,a3]
  refine⟨n-(i+1),om,i+1,s2,rfl,om,tt,tt,tt,tt,tt,r3,?_,om,fun c hc h1 h2=>by rw[o3 c h1,o2 c om h2,f1 c hc h1 h2]⟩
  have e:(orderR (f,st,n)).take (i+1)=(orderR (f,st,n)).take i++[f+i*st]:=by
   rw[List.take_add_one,orderR_at (r:=(f,st,n)) hlt]; rfl
  rw[e,← List.append_assoc,nats_append]
  exact m2.same om (o3 b (fun e=>hne e.symm))
theorem order_spec{w h:Nat}(hw:1≤w)(hw2:w≤20)(hh:1≤h)(hh2:h≤20)(H:AHeap):ACalls Tryz.prog noNat 66 [.int .i64 (w:Int),.int .i64 (h:Int)] H fun v H'=>Cel H'.next H' v (nats (orderL w h))∧Blk v (H.next≤·)∧Ext H.next H H':=by
 have OK:=okP hw hw2 hh hh2
 have hwh:w*h≤20*20:=Nat.mul_le_mul hw2 hh2
 have hm:IntKind.i64.wrap ((w:Int)*(h:Int))=((w*h:Nat):Int):=by rw[← Int.natCast_mul,wrap64 om om]
 obtain⟨s1,H1,a1,m1,k1,o1⟩:=Mk.make (z:=.int .i64 0) (bytes:=8) (cap:=w*h) H om om
 obtain⟨H2,a2,r2,k2,o2⟩:=row_newL H1 [nilS] (n:=1) rfl
 obtain⟨H3,a3,r3,k3,o3⟩:=row_st r2 (n:=1) rfl (i:=0) om (x:=s1) m1.one (l':=[s1]) rfl
 have m3:Mk H3 H.next (w*h) s1 []:=m1.same om (by rw[o3 _ om,o2 _ om])
 have C:=ord_clo (v:=H1.next) (b:=H.next) (cap:=w*h) (R:=rowsL w h) (by have:=OK.len; unfold orderL at this; omega) om (fun r hr=>by
  obtain⟨q1,q2⟩:=OK.row r hr
  exact⟨q1,q2,(OK.many r.2.2 (List.mem_map_of_mem hr)).2⟩)
 refine acalls_ofN rfl za66 rfl ?_
 simp only[c66,sA,sB,seval]
 refine (right_spec hw hw2 hh hh2).mono ?_
 rintro _ _ ⟨rfl,rfl⟩
 simp only[nilS]at a2
 simp only[sA,sB,seval,hm,a1,a2,a3]
 refine (rows_spec C om hw hw2 hh hh2 (O:=fun c=>c=H1.next∨c=H.next) (H:=H3) ⟨s1,r3,om,om,m3,fun c=>Iff.rfl⟩).mono ?_
 rintro _ H4 ⟨O,⟨s4,r4,v4,ne4,m4,ho4⟩,n4,f4,-⟩
 have l4:oLoad false 1 H4 (cellR H1.next 1 0)=some s4:=row_load r4 rfl rfl
 simp only[sA,sB,seval,l4]
 rw[List.take_length]at m4
 refine⟨m4.cel om,m4.blk _ rL,⟨om,fun c hc=>?_⟩⟩
 rw[f4 c om om,o3 c om,o2 c om,o1 c om]
open Go.Abs Go.Abs.S
def z256:List AVal:=[.int .u32 0,.int .u32 0,.int .u32 0,.int .u32 0,.int .u32 0,.int .u32 0,.int .u32 0,.int .u32 0,.int .u32 0,.int .u32 0,.int .u32 0,.int .u32 0,.int .u32 0,.int .u32 0,.int .u32 0,.int .u32 0,.int .u32 0,.int .u32 0,.int .u32 0,.int .u32 0,.int .u32 0,.int .u32 0,.int .u32 0,.int .u32 0,.int .u32 0,.int .u32 0,.int .u32 0,.int .u32 0,.int .u32 0,.int .u32 0,.int .u32 0,.int .u32 0,.int .u32 0,.int .u32 0,.int .u32 0,.int .u32 0,.int .u32 0,.int .u32 0,.int .u32 0,.int .u32 0,.int .u32 0,.int .u32 0,.int .u32 0,.int .u32 0,.int .u32 0,.int .u32 0,.int .u32 0,.int .u32 0,.int .u32 0,.int .u32 0,.int .u32 0,.int .u32 0,.int .u32 0,.int .u32 0,.int .u32 0,.int .u32 0,.int .u32 0,.int .u32 0,.int .u32 0,.int .u32 0,.int .u32 0,.int .u32 0,.int .u32 0,.int .u32 0,.int .u32 0,.int .u32 0,.int .u32 0,.int .u32 0,.int .u32 0,.int .u32 0,.int .u32 0,.int .u32 0,.int .u32 0,.int .u32 0,.int .u32 0,.int .u32 0,.int .u32 0,.int .u32 0,.int .u32 0,.int .u32 0,.int .u32 0,.int .u32 0,.int .u32 0,.int .u32 0,.int .u32 0,.int .u32 0,.int .u32 0,.int .u32 0,.int .u32 0,.int .u32 0,.int .u32 0,.int .u32 0,.int .u32 0,.int .u32 0,.int .u32 0,.int .u32 0,.int .u32 0,.int .u32 0,.int .u32 0,.int .u32 0,.int .u32 0,.int .u32 0,.int .u32 0,.int .u32 0,.int .u32 0,.int .u32 0,.int .u32 0,.int .u32 0,.int .u32 0,.int .u32 0,.int .u32 0,.int .u32 0,.int .u32 0,.int .u32 0,.int .u32 0,.int .u32 0,.int .u32 0,.int .u32 0,.int .u32 0,.int .u32 0,.int .u32 0,.int .u32 0,.int .u32 0,.int .u32 0,.int .u32 0,.int .u32 0,.int .u32 0,.int .u32 0,.int .u32 0,.int .u32 0,.int .u32 0,.int .u32 0,.int .u32 0,.int .u32 0,.int .u32 0,.int .u32 0,.int .u32 0,.int .u32 0,.int .u32 0,.int .u32 0,.int .u32 0,.int .u32 0,.int .u32 0,.int .u32 0,.int .u32 0,.int .u32 0,.int .u32 0,.int .u32 0,.int .u32 0,.int .u32 0,.int .u32 0,.int .u32 0,.int .u32 0,.int .u32 0,.int .u32 0,.int .u32 0,.int .u32 0,.int .u32 0,.int .u32 0,.int .u32 0,.int .u32 0,.int .u32 0,.int .u32 0,.int .u32 0,.int .u32 0,.int .u32 0,.int .u32 0,.int .u32 0,.int .u32 0,.int .u32 0,.int .u32 0,.int .u32 0,.int .u32 0,.int .u32 0,.int .u32 0,.int .u32 0,.int .u32 0,.int .u32 0,.int .u32 0,.int .u32 0,.int .u32 0,.int .u32 0,.int .u32 0,.int .u32 0,.int .u32 0,.int .u32 0,.int .u32 0,.int .u32 0,.int .u32 0,.int .u32 0,.int .u32 0,.int .u32 0,.int .u32 0,.int .u32 0,.int .u32 0,.int .u32 0,.int .u32 0,.int .u32 0,.int .u32 0,.int .u32 0,.int .u32 0,.int .u32 0,.int .u32 0,.int .u32 0,.int .u32 0,.int .u32 0,.int .u32 0,.int .u32 0,.int .u32 0,.int .u32 0,.int .u32 0,.int .u32 0,.int .u32 0,.int .u32 0,.int .u32 0,.int .u32 0,.int .u32 0,.int .u32 0,.int .u32 0,.int .u32 0,.int .u32 0,.int .u32 0,.int .u32 0,.int .u32 0,.int .u32 0,.int .u32 0,.int .u32 0,.int .u32 0,.int .u32 0,.int .u32 0,.int .u32 0,.int .u32 0,.int .u32 0,.int .u32 0,.int .u32 0,.int .u32 0,.int .u32 0,.int .u32 0,.int .u32 0,.int .u32 0,.int .u32 0,.int .u32 0,.int .u32 0,.int .u32 0,.int .u32 0,.int .u32 0,.int .u32 0,.int .u32 0,.int .u32 0,.int .u32 0,.int .u32 0,.int .u32 0,.int .u32 0,.int .u32 0,.int .u32 0,.int .u32 0]
set_option maxRecDepth 100000 in
theorem z256_len:z256.length=256:=rfl
def tabC:List AVal:=(List.range 256).map fun i=>.int .u32 (crcT i:Int)
def tabK(k:Nat):List AVal:=(List.range k).map (fun i=>AVal.int .u32 (crcT i:Int))++z256.drop k
theorem tabK_len{k:Nat}(h:k≤256):(tabK k).length=256:=by
 have:=z256_len
 simp only[tabK,lA,List.length_map,List.length_range,List.length_drop,this]; omega
theorem tabK_set{k:Nat}(h:k<256):(tabK k).set k (.int .u32 (crcT k:Int))=tabK (k+1):=by
 have hz:=z256_len
 unfold tabK
 rw[List.set_append_right _ _ (by simp),List.length_map,List.length_range,Nat.sub_self,List.range_succ,List.map_append,List.append_assoc]
 congr 1
 rw[List.drop_eq_getElem_cons (show k<z256.length by omega)]
 rfl
theorem tabC_at{i:Nat}(h:i<256):tabC[i]?=some (.int .u32 (crcT i:Int)):=by
 unfold tabC
 rw[List.getElem?_map,List.getElem?_range h]; rfl
set_option maxRecDepth 100000 in
theorem tab_256:tabK 256=tabC:=by
 unfold tabK tabC
 rw[List.drop_of_length_le (by exact Nat.le_refl _),List.append_nil]
def itr:Nat→Nat→Nat
 | 0,c=>c
 | n+1,c=>crc1 (itr n c)
theorem itr_lt{c:Nat}(h:c<4294967296):∀n,itr n c<4294967296
 | 0=>h
 | n+1=>crc1_lt (itr_lt h n)
theorem tabC_one:tabC.all AVal.one=true:=by
 rw[List.all_eq_true]
 intro x hx
 obtain⟨i,_,rfl⟩:=List.mem_map.1 hx
 rfl
set_option maxRecDepth 100000 in
theorem table_spec(H:AHeap):ACalls Tryz.prog noNat 294 [] H fun v H'=>v=.agg tabC∧Ext H.next H H':=by
 obtain⟨H1,m1,r1,k1,q1⟩:=row_newL H z256 z256_len
 obtain⟨H2,m2,r2,k2,q2⟩:=row_newL H1 z256 z256_len
 refine acalls_ofN rfl za294 rfl ?_
 simp only[z256]at m1 m2
 simp only[c294,sA,sB,seval,m1,m2]
 refine aw_loop (fun m (T:Env) H'=>∃k,m=256-k∧k≤256∧T 0=cellR H.next 256 0∧T 1=cellR H1.next 256 0∧T 4=.int .i64 (k:Int)∧Row H' H1.next (tabK k)∧H'.next=H2.next∧∀c,c≠H1.next→H'.get c=H2.get c) 256
  ⟨0,rfl,om,by simp only[sA,sB,seval],by simp only[sA,sB,seval],by simp only[sA,sB,seval]; try rfl,r2,rfl,fun _ _=>rfl⟩ ?_
 rintro m T H3 ⟨k,rfl,hk,t0,t1,t4,r3,n3,f3⟩
 by_cases hlt:k<256
 case neg=>
  have hlt':¬(k:Int)<256:=om
  obtain rfl:k=256:=om
  have r0:Row H3 H.next z256:=r1.same (by rw[f3 _ om,q2 _ om])
  rw[tab_256]at r3
  have l1:=row_loadN r3 (n:=256) (by unfold tabC; simp)
  obtain⟨H4,m4,r4,k4,q4⟩:=row_storeN r0 z256_len (xs:=tabC) (by unfold tabC; simp) tabC_one
  simp only[sA,sB,seval,t0,t1,t4,hlt',l1,m4]
  exact fin_c1 _ _ _ _ (by simp only[sA,sB,seval,t0]; exact row_loadN r4 (n:=256) (by unfold tabC; simp)) ⟨rfl,⟨om,fun c hc=>by rw[q4 c om,f3 c om,q2 c om,q1 c om]⟩⟩
 have hlt':(k:Int)<256:=om
 have w0:IntKind.u32.wrap (k:Int)=(k:Int):=wrapU32 om om
 have w1:IntKind.i64.wrap ((k:Int)+1)=((k+1:Nat):Int):=w64
 simp only[sA,sB,seval,t0,t1,t4,hlt',w0]
 refine aw_loop (fun m (T:Env) H'=>∃j,m=8-j∧j≤8∧T 0=cellR H.next 256 0∧T 1=cellR H1.next 256 0∧T 2=.int .i64 (k:Int)∧T 3=.int .u32 (itr j k:Int)∧T 4=.int .i64 (k:Int)∧T 9=.int .i64 (j:Int)∧H'=H3) 8
  ⟨0,rfl,om,by simp only[sA,sB,seval,t0],by simp only[sA,sB,seval,t1],by simp only[sA,sB,seval],by simp only[sA,sB,seval]; try rfl,by simp only[sA,sB,seval,t4],by simp only[sA,sB,seval]; try rfl,rfl⟩ ?_
 rintro m T _ ⟨j,rfl,hj,u0,u1,u2,u3,u4,u9,rfl⟩
 by_cases hjl:j<8
 case neg=>
  have hjl':¬(j:Int)<8:=om
  obtain rfl:j=8:=om
  have u3':T 3=.int .u32 (crcT k:Int):=u3
  obtain⟨H4,m4,r4,k4,q4⟩:=row_st r3 (n:=256) (tabK_len hk) (i:=k) hlt (x:=.int .u32 (crcT k:Int)) rfl (tabK_set hlt)
  have ix:aIdxArr 256 1 (cellR H1.next 256 0) (.int .i64 (k:Int))=some (cellR H1.next 256 k):=by
   have hb:Nat.blt k 256=true:=by simpa[Nat.blt_eq] using hlt
   show (bif Nat.blt k 256 then some (AVal.ptr (some ⟨H1.next,256,0+k*1⟩)) else none)=_
   rw[hb,Nat.zero_add,Nat.mul_one]; rfl
  simp only[sA,sB,seval,u0,u1,u2,u3',u4,u9,hjl',ix,m4,w1]
  exact⟨256-(k+1),om,k+1,rfl,om,tt,tt,tt,r4,om,fun c hc=>by rw[q4 c hc,f3 c hc]⟩
 have hjl':(j:Int)<8:=om
 have hc:itr j k<4294967296:=itr_lt om j
 have w9:IntKind.i64.wrap ((j:Int)+1)=((j+1:Nat):Int):=w64
 have e1:itr (j+1) k=crc1 (itr j k):=rfl
 generalize itr j k=c at *
 have ha:aBin .and (.int .u32 (c:Int)) (.int .u32 1)=some (.int .u32 ((c % 2:Nat):Int)):=by
  have:=bin_andU .u32 (.inr (.inr (.inl rfl))) (a:=c) (b:=1) (by simpa[IntKind.bits] using hc) (by simp[IntKind.bits])
  rw[Nat.and_two_pow_sub_one_eq_mod c 1]at this
  exact this
 have hs:aBin .shr (.int .u32 (c:Int)) (.int .u64 1)=some (.int .u32 ((c / 2:Nat):Int)):=shrN .u32 .u64 c (b:=1) (by simp[IntKind.bits])
 have hx:aBin .xor (.int .u32 ((c / 2:Nat):Int)) (.int .u32 3988292384)=some (.int .u32 (((c / 2) ^^^ 3988292384:Nat):Int)):=
  bin_xorU .u32 (.inr (.inr (.inl rfl))) (a:=c / 2) (b:=3988292384) (by simp only[IntKind.bits]; omega) (by simp[IntKind.bits])
 by_cases h1:c % 2=1
 ·have h1':((c % 2:Nat):Int)=1:=om
  simp only[sA,sB,seval,u0,u1,u2,u3,u4,u9,hjl',ha,h1',hs,hx,w9]
  exact⟨8-(j+1),om,j+1,rfl,om,tt,tt,tt,by rw[e1,crc1,if_pos h1],tt,tt,tt⟩
 ·have h1':¬((c % 2:Nat):Int)=1:=om
  simp only[sA,sB,seval,u0,u1,u2,u3,u4,u9,hjl',ha,h1',hs,hx,w9]
  exact⟨8-(j+1),om,j+1,rfl,om,tt,tt,tt,by rw[e1,crc1,if_neg h1],tt,tt,tt⟩
theorem un_not32{c:Nat}(h:c<4294967296):aUn .xor (.int .u32 (c:Int))=some (.int .u32 ((4294967295-c:Nat):Int)):=by
 have e:aUn .xor (.int .u32 (c:Int))=some (.int .u32 (IntKind.u32.wrap ((BitVec.ofInt 32 4294967295 ^^^ BitVec.ofInt 32 (c:Int)).toNat:Int))):=_root_.id rfl
 have e2:(BitVec.ofInt 32 4294967295 ^^^ BitVec.ofInt 32 (c:Int)).toNat=4294967295-c:=by
  have a:(BitVec.ofInt 32 4294967295)=BitVec.allOnes 32:=by decide
  rw[a,BitVec.allOnes_xor,BitVec.toNat_not,BitVec.ofInt_natCast,BitVec.toNat_ofNat]
  omega
 rw[e,e2,wrapU32 om om]
set_option maxRecDepth 100000 in
theorem crc_spec{n:Nat}{H:AHeap}{v:AVal}{b:Bs}(h:Cel n H v (byts b))(hl:b.length≤1000000)(hn:n≤H.next) :
  ACalls Tryz.prog noNat 249 [.int .u32 0,v] H fun w H'=>w=.int .u32 (crcF b:Int)∧Ext H.next H H':=by
 have hlen:aLenK false v=some (.int .i64 (b.length:Int)):=by have:=h.len; rwa [byts_len]at this
 refine acalls_ofN rfl za249 rfl ?_
 by_cases h0:b.length=0
 ·obtain rfl:b=[]:=List.length_eq_zero_iff.1 h0
  simp only[c249,sA,sB,seval,hlen,List.length_nil,Int.natCast_zero]
  exact⟨tt,Ext.refl _ _⟩
 have h0':¬(b.length:Int)=0:=om
 simp only[c249,sA,sB,seval,hlen,h0']
 refine (table_spec H).mono ?_
 rintro _ H1 ⟨rfl,E1⟩
 have e1n:=E1.next
 obtain⟨H2,m2,r2,k2,q2⟩:=row_newL H1 z256 z256_len
 obtain⟨H3,m3,r3,k3,q3⟩:=row_storeN r2 z256_len (xs:=tabC) (by unfold tabC; simp) tabC_one
 have E3:Ext H.next H H3:=⟨om,fun c hc=>by rw[q3 c om,q2 c om,E1.old c hc]⟩
 have h3:=h.ext (E3.less hn)
 have un0:aUn .xor (.int .u32 0)=some (.int .u32 4294967295):=_root_.id rfl
 simp only[z256]at m2
 simp only[sA,sB,seval,m2,m3,un0,hlen]
 refine aw_loop (fun m (T:Env) H'=>∃j,m=b.length-j∧j≤b.length∧T 5=cellR H1.next 256 0∧T 6=.int .u32 (((b.take j).foldl crcS 4294967295:Nat):Int)∧T 16=v∧T 17=.int .i64 (b.length:Int)∧T 18=.int .i64 (j:Int)∧H'=H3) b.length
  ⟨0,rfl,om,by simp only[sA,sB,seval],by simp only[sA,sB,seval]; try rfl,by simp only[sA,sB,seval],by simp only[sA,sB,seval],by simp only[sA,sB,seval]; try rfl,rfl⟩ ?_
 rintro m T _ ⟨j,rfl,hj,t5,t6,t16,t17,t18,rfl⟩
 have hc:=crcs_lt (c:=4294967295) om (b.take j)
 by_cases hlt:j<b.length
 case neg=>
  have hlt':¬(j:Int)<(b.length:Int):=om
  obtain rfl:j=b.length:=om
  rw[List.take_length]at t6 hc
  have un:aUn .xor (.int .u32 ((b.foldl crcS 4294967295:Nat):Int))=some (.int .u32 (crcF b:Int)):=un_not32 hc
  simp only[sA,sB,seval,t5,t6,t16,t17,t18,hlt',un]
  exact⟨tt,E3⟩
 have hlt':(j:Int)<(b.length:Int):=om
 obtain⟨x,hb⟩:∃x,b[j]?=some x:=⟨_,List.getElem?_eq_getElem hlt⟩
 have hidx:=h3.idx .i64 (i:=j) (by rw[byts_len]; exact hlt)
 have hld:=h3.load (byts_get hb)
 have hxl:=x.toNat_lt
 have e1:(b.take (j+1)).foldl crcS 4294967295=crcS ((b.take j).foldl crcS 4294967295) x:=by
  rw[take_snoc hb,List.foldl_append]; rfl
 generalize (b.take j).foldl crcS 4294967295=c at *
 have hs:aBin .shr (.int .u32 (c:Int)) (.int .u64 8)=some (.int .u32 ((c / 256:Nat):Int)):=shrN .u32 .u64 c (b:=8) (by simp[IntKind.bits])
 have w8:IntKind.u8.wrap (c:Int)=((c % 256:Nat):Int):=by rw[IntKind.wrap_u8]; omega
 have hx:aBin .xor (.int .u8 ((c % 256:Nat):Int)) (.int .u8 (x.toNat:Int))=some (.int .u8 (((c % 256) ^^^ x.toNat:Nat):Int)):=
  bin_xorU .u8 (.inl rfl) (a:=c % 256) (b:=x.toNat) (by simp only[IntKind.bits]; omega) (by simp only[IntKind.bits]; omega)
 have hi:=xor_byte (a:=c % 256) om x
 obtain⟨i,hi2⟩:∃i,i=(c % 256) ^^^ x.toNat:=⟨_,rfl⟩
 rw[← hi2]at hx hi
 have ix:aIdxArr 256 1 (cellR H1.next 256 0) (.int .u8 (i:Int))=some (cellR H1.next 256 i):=by
  have hb:Nat.blt i 256=true:=by simpa[Nat.blt_eq] using hi
  show (bif Nat.blt i 256 then some (AVal.ptr (some ⟨H1.next,256,0+i*1⟩)) else none)=_
  rw[hb,Nat.zero_add,Nat.mul_one]; rfl
 have ld:=row_load r3 (n:=256) (by unfold tabC; simp) (tabC_at hi)
 have hx2:aBin .xor (.int .u32 ((c / 256:Nat):Int)) (.int .u32 (crcT i:Int))=some (.int .u32 (crcS c x:Int)):=by
  have:=bin_xorU .u32 (.inr (.inr (.inl rfl))) (a:=c / 256) (b:=crcT i) (by simp only[IntKind.bits]; omega) (by have:=crcT_lt hi; simpa only [IntKind.bits] using this)
  rw[this,crcS,hi2]
 have w1:IntKind.i64.wrap ((j:Int)+1)=((j+1:Nat):Int):=w64
 simp only[sA,sB,seval,t5,t6,t16,t17,t18,hlt',hidx,hld,hs,w8,hx,ix,ld,hx2,w1]
 exact⟨b.length-(j+1),om,j+1,rfl,om,tt,by rw[e1],tt,tt,tt,tt⟩
open Go.Abs Go.Abs.S
theorem byts_drop(s:Bs)(k:Nat):(byts s).drop k=byts (s.drop k):=by simp[byts,List.map_drop]
theorem lit_arg(H:AHeap)(d:Bs){m:Nat}(hm:d.length=m):ArgS (H.next+1) (H.push (.cells (byts d) 0 false)) (slR H.next m (.known m)) (byts d):=by
 have hl:(byts d).length=m:=by rw[byts_len,hm]
 refine .inr ⟨⟨H.next,m,0⟩,m,by rw[hl]; rfl,om,Nat.lt_succ_self _,?_⟩
 have:=rd_row (row_push H (byts d)) hl (i:=0) (k:=m) om
 rw[List.drop_zero,List.take_of_length_le om]at this
 rw[hl]; exact this
def MRow(H:AHeap)(b:Nat)(l:List AVal):Prop:=∃low,H.get b=some (.cells l low false true)∧low≤l.length
theorem rd_mrow{H:AHeap}{b n:Nat}{l:List AVal}(h:MRow H b l)(hn:l.length=n){i k:Nat}(hik:i+k≤n):rdCells H ⟨b,n,i⟩ k=some ((l.drop i).take k):=by
 subst hn
 obtain⟨low,h1,h2⟩:=h
 unfold rdCells
 simp only[h1,Nat.ble_eq_true_of_le h2,Nat.ble_eq_true_of_le rL,Nat.ble_eq_true_of_le hik,Bool.and_self,cond_true]
theorem MRow.same{H H':AHeap}{b:Nat}{l:List AVal}(h:MRow H b l)(e:H'.get b=H.get b):MRow H' b l:=by
 obtain⟨low,h1,h2⟩:=h
 exact⟨low,by rw[e,h1],h2⟩
def Gw(H:AHeap)(s:AVal)(H':AHeap)(v:AVal):Prop:=H.next≤H'.next∧(∀P,Blk s P→Blk v fun b=>P b∨H.next≤b)∧∀c,c<H.next→Blk s (c≠·)→H'.get c=H.get c
theorem Gw.refl(H:AHeap)(s:AVal):Gw H s H s:=⟨Nat.le_refl _,fun P h=>h.mono fun b hb=>.inl hb,fun _ _ _=>rfl⟩
theorem Gw.trans{H H1 H2:AHeap}{s v w:AVal}(h:Gw H s H1 v)(k:Gw H1 v H2 w):Gw H s H2 w:=by
 obtain⟨a1,a2,a3⟩:=h
 obtain⟨b1,b2,b3⟩:=k
 refine⟨om,fun P hP=>(b2 _ (a2 P hP)).mono fun b hb=>?_,fun c hc hs=>?_⟩
 ·rcases hb with (hb | hb) | hb
  ·exact .inl hb
  ·exact .inr hb
  ·exact .inr om
 ·rw[b3 c om ((a2 _ hs).mono fun b hb=>hb.elim id fun q=>om),a3 c hc hs]
theorem Gw.ext{H H1 H2:AHeap}{s v:AVal}(h:Gw H s H1 v)(e:Ext H1.next H1 H2):Gw H s H2 v:=
 ⟨by have:=e.next; have:=h.1; omega,h.2.1,fun c hc hs=>by rw[e.old c (by have:=h.1; omega),h.2.2 c hc hs]⟩
theorem Gw.pre{H H1 H2:AHeap}{s v:AVal}(e:Ext H.next H H1)(h:Gw H1 s H2 v):Gw H s H2 v:=
 ⟨by have:=e.next; have:=h.1; omega,fun P hP=>(h.2.1 P hP).mono fun b hb=>hb.imp id fun q=>by have:=e.next; omega,fun c hc hs=>by rw[h.2.2 c (by have:=e.next; omega) hs,e.old c hc]⟩
theorem Gw.new{H H':AHeap}{v:AVal}(h:Gw H nilS H' v):Blk v (H.next≤·):=(h.2.1 (fun _=>False) (blk_nil _)).mono fun _ hb=>hb.elim False.elim id
theorem Gw.ext0{H H':AHeap}{v:AVal}(h:Gw H nilS H' v):Ext H.next H H':=⟨h.1,fun c hc=>h.2.2 c hc (blk_nil _)⟩
def Ap(H:AHeap)(s:AVal)(a:Bs):Prop:=AppN 1 0 H s (byts a) a.length∨∃b,s=slR b a.length (.known a.length)∧b<H.next∧MRow H b (byts a)
theorem Ap.same{H H':AHeap}{s:AVal}{a:Bs}(h:Ap H s a)(hn:H.next≤H'.next)(e:Blk s fun c=>H'.get c=H.get c):Ap H' s a:=by
 rcases h with h | ⟨b,rfl,h1,h2⟩
 ·exact .inl (h.same hn e)
 ·exact .inr ⟨b,rfl,om,h2.same (e _ _ _ rfl)⟩
theorem Ap.blk{H:AHeap}{s:AVal}{a:Bs}(h:Ap H s a):Blk s (·<H.next):=by
 rcases h with h | ⟨b,rfl,h1,h2⟩
 ·exact h.blk'
 ·exact blk_some h1
theorem Ap.push{H:AHeap}{s x:AVal}{a l:Bs}(h:Ap H s a)(hx:aSrc 1 H x=some (l.length,byts l))(h0:0<l.length)(hl:a.length+l.length≤1000000) :
  ∃s' H',aAppend 1 1 H s x=some (s',H')∧AppN 1 0 H' s' (byts (a++l)) (a++l).length∧Gw H s H' s':=by
 rcases h with h | ⟨b,rfl,h1,h2⟩
 ·obtain⟨s',H',q1,q2,q3,q4,q5⟩:=app_bytes h hx hl
  exact⟨s',H',q1,q2,q3,q4,q5⟩
 ·have hr:=rd_mrow h2 (byts_len a) (i:=0) (k:=a.length) (Nat.le_of_eq (Nat.zero_add _))
  rw[List.drop_zero,List.take_of_length_le (by rw[byts_len]; exact Nat.le_refl _)]at hr
  have c1:(Nat.blt 0 1&&(Nat.ble ((2*(a.length+l.length)+0)*1) 281474976710656&&(Nat.ble (a.length+l.length) 9223372036854775807&&(Nat.beq (byts l).length (l.length*1)&&(byts l).all AVal.one))))=true:=by
   simp only[Nat.add_zero,Nat.mul_one,Nat.ble_eq_true_of_le (show 2*(a.length+l.length)≤281474976710656 by omega),Nat.ble_eq_true_of_le (show a.length+l.length≤9223372036854775807 by omega),byts_len,Nat.beq_refl,byts_one,Bool.and_self,show Nat.blt 0 1=true from rfl]
  have c2:Nat.ble (a.length+l.length) a.length=false:=by
   rw[ble_dec]; exact decide_eq_false om
  have c3:Nat.beq l.length 0=false:=by
   cases hq:Nat.beq l.length 0 with
   | false=>rfl
   | true=>have:=Nat.eq_of_beq_eq_true hq; omega
  have el:(byts a++byts l).length=a.length+l.length:=by rw[lA,byts_len,byts_len]
  refine⟨.slice (some ⟨H.next,a.length+l.length,0⟩) (a.length+l.length) (.open_ 1),H.push (.cells (byts a++byts l) 0 false),?_,?_,?_⟩
  ·simp only[aAppend,hx,slR,c3,cond_false,c1,cond_true,c2]
   simp only[Nat.mul_one,hr,el]
  ·rw[byts_append,show (a++l).length=a.length+l.length from lA]
   exact .inr ⟨H.next,0,by rw[el],by rw[el,Nat.one_mul],Nat.zero_le _,Nat.lt_succ_self _,by rw[AHeap.get_push,if_pos rfl],Nat.zero_le _,om⟩
  ·exact⟨by rw[push_next]; omega,fun P _=>blk_some (.inr rL),fun c hc _=>get_push_lt hc⟩
theorem hfM(H:AHeap)(l:List AVal):aHf .mark H l=aMark H l:=_root_.id rfl
theorem lit_cel(H:AHeap)(d:Bs){m:Nat}(hm:d.length=m):Cel (H.next+1) (H.push (.cells (byts d) 0 false)) (slR H.next m (.known m)) (byts d):=(lit_arg H d hm).cel
theorem be4_byts(n:Nat):byts (be4 n)=[.int .u8 ((n / 16777216 % 256:Nat):Int),.int .u8 ((n / 65536 % 256:Nat):Int),.int .u8 ((n / 256 % 256:Nat):Int),.int .u8 ((n % 256:Nat):Int)]:=by
 simp only[be4,byts,List.map_cons,List.map_nil,UInt8.toNat_ofNat',show (2:Nat) ^ 8=256 from rfl,Nat.mod_mod]
theorem efour_spec{H:AHeap}{s:AVal}{a:Bs}{n:Nat}(A:Ap H s a)(hn:n<4294967296)(ha:a.length≤900000):ACalls Tryz.prog noNat 242 [s,.int .u32 (n:Int)] H fun v H'=>AppN 1 0 H' v (byts (a++be4 n)) (a++be4 n).length∧Gw H s H' v:=by
 refine acalls_ofN rfl za242 rfl ?_
 have hsr:∀k:Nat,k≤32→aBin .shr (.int .u32 (n:Int)) (.int .u64 (k:Int))=some (.int .u32 ((n / 2 ^ k:Nat):Int)):=fun k hk=>shrN .u32 .u64 n hk
 have h24:aBin .shr (.int .u32 (n:Int)) (.int .u64 24)=some (.int .u32 ((n / 16777216:Nat):Int)):=hsr 24 om
 have h16:aBin .shr (.int .u32 (n:Int)) (.int .u64 16)=some (.int .u32 ((n / 65536:Nat):Int)):=hsr 16 om
 have h08:aBin .shr (.int .u32 (n:Int)) (.int .u64 8)=some (.int .u32 ((n / 256:Nat):Int)):=hsr 8 om
 have wu:∀a:Nat,IntKind.u8.wrap (a:Int)=((a % 256:Nat):Int):=fun a=>wrap_um .u8 (.inl rfl) a
 have bs:=build4 H ((n / 16777216 % 256:Nat):Int) ((n / 65536 % 256:Nat):Int) ((n / 256 % 256:Nat):Int) ((n % 256:Nat):Int)
 rw[← be4_byts]at bs
 have E:Ext H.next H (H.push (.cells (byts (be4 n)) 0 false)):=⟨by rw[push_next]; omega,fun c hc=>get_push_lt hc⟩
 obtain⟨s',H',m,A',G⟩:=(A.same (H':=H.push (.cells (byts (be4 n)) 0 false)) E.next (A.blk.mono fun c hc=>get_push_lt hc)).push (src_cel (lit_cel H (be4 n) (m:=4) rfl)) (by rw[be4_len]; omega) (by rw[be4_len]; omega)
 simp only[c242,sA,sB,seval,h24,h16,h08,conv_in,wu,bs,m]
 exact⟨A',Gw.pre E G⟩
theorem chunk_spec{H:AHeap}{s v:AVal}{a kind body:Bs}{n:Nat}(A:Ap H s a)(hv:Cel n H v (byts body))(hn:n≤H.next)(hsv:Blk v fun c=>Blk s (c≠·))(hk:kind.length=4)(ha:a.length+body.length≤800000) :
  ACalls Tryz.prog noNat 182 [s,.str kind,v] H fun w H'=>AppN 1 0 H' w (byts (a++chunkF kind body)) (a++chunkF kind body).length∧Gw H s H' w:=by
 refine acalls_ofN rfl za182 rfl ?_
 have lv:=hv.len
 rw[byts_len]at lv
 have w1:IntKind.u32.wrap (body.length:Int)=(body.length:Int):=wrapU32 om om
 simp only[c182,sA,sB,seval,lv,w1]
 refine (efour_spec A om om).mono ?_
 rintro s1 H1 ⟨A1,G1⟩
 have l1:=A1.len
 rw[lA,be4_len]at l1
 have hv1:Cel H1.next H1 v (byts body):=cel_same hv (by have:=G1.1; omega) (((cel_blk hv).and hsv).mono fun c hc=>G1.2.2 c om hc.2)
 obtain⟨s2,H2,m2,A2,q1,q2,q3⟩:=app_bytes A1 (src_str H1 kind) (by rw[lA,be4_len]; omega)
 have G2:Gw H1 s1 H2 s2:=⟨q1,q2,q3⟩
 have b1:Blk v fun c=>Blk s1 (c≠·):=((cel_blk hv).and hsv).mono fun c hc=>(G1.2.1 _ hc.2).mono fun d hd=>hd.elim id fun q=>om
 have hv2:Cel H2.next H2 v (byts body):=cel_same hv1 (by have:=G2.1; omega) (((cel_blk hv1).and b1).mono fun c hc=>G2.2.2 c om hc.2)
 obtain⟨s3,H3,m3,A3,q4,q5,q6⟩:=app_bytes A2 (src_cel hv2) (by simp only[lA,be4_len]; omega)
 have G3:Gw H2 s2 H3 s3:=⟨q4,q5,q6⟩
 have l3:=A3.len
 obtain⟨s4,m4,C4,-⟩:=A3.from_ (lo:=a.length+4) (by simp only[lA,be4_len]; omega)
 have e4:(byts (a++be4 body.length++kind++body)).drop (a.length+4)=byts (kind++body):=by
  rw[byts_drop,List.append_assoc,List.drop_left' (by rw[lA,be4_len])]
 rw[e4]at C4
 simp only[sA,sB,seval,l1,m2,m3,m4]
 refine (crc_spec C4 (by rw[lA]; omega) rL).mono ?_
 rintro _ H4 ⟨rfl,E4⟩
 have A4:=A3.same (H':=H4) E4.next (A3.blk'.mono fun c hc=>E4.old c hc)
 simp only[sA,sB,seval]
 refine (efour_spec (.inl A4) (by have:=crcF_lt (kind++body); omega) (by simp only[lA,be4_len]; omega)).mono ?_
 rintro s5 H5 ⟨A5,G5⟩
 have e5:a++be4 body.length++kind++body++be4 (crcF (kind++body))=a++chunkF kind body:=by simp only[chunkF,List.append_assoc]
 rw[e5]at A5
 simp only[sA,sB,seval]
 exact⟨A5,((G1.trans G2).trans G3).trans (Gw.pre E4 G5)⟩
def eC(w h left:Nat)(rows:AVal)(at_:Nat)(st:AVal):List AVal:=[.bool true,.int .i64 (w:Int),.int .i64 (h:Int),.int .i64 (left:Int),rows,.int .i64 (at_:Int),st]
theorem head_spec{H:AHeap}{e w h left at_:Nat}{rows st:AVal}(R:Row H e (eC w h left rows at_ st))(hw:w≤20)(hh:h≤20)(he:e<H.next) :
  ACalls Tryz.prog noNat 179 [cellR e 7 0] H fun v H'=>AppN 1 0 H' v (byts (headF w h)) (headF w h).length∧Blk v (H.next≤·)∧Ext H.next H H':=by
 refine acalls_ofN rfl za179 rfl ?_
 have l1:oLoad false 1 H (cellR e 7 1)=some (.int .i64 (w:Int)):=row_load R rfl rfl
 have w1:IntKind.u32.wrap (w:Int)=(w:Int):=wrapU32 om om
 have w2:IntKind.u32.wrap (h:Int)=(h:Int):=wrapU32 om om
 simp only[c179,sA,sB,seval]
 refine aw_drawC rfl ?_
 simp only[sR,sA,sB,seval,nil_cell,fldA,fld0,l1,w1]
 refine (efour_spec (.inl (app_nil H)) om (by simp)).mono ?_
 rintro s1 H1 ⟨A1,G1⟩
 have E1:=G1.ext0
 have l2:oLoad false 1 H1 (cellR e 7 2)=some (.int .i64 (h:Int)):=row_load (R.same (E1.old e he)) rfl rfl
 simp only[sR,sA,sB,seval,nil_cell,fldA,fld0,l2,w2]
 refine (efour_spec (.inl A1) om (by simp[be4_len])).mono ?_
 rintro s2 H2 ⟨A2,G2⟩
 have b2:=(G1.trans G2).new
 have E2:=(G1.trans G2).ext0
 have e2n:=E2.next
 have bs:aBuildSl 8 [.int .u8 0] H2 [(0,1,.int .u8 137),(1,1,.int .u8 80),(2,1,.int .u8 78),(3,1,.int .u8 71),(4,1,.int .u8 13),(5,1,.int .u8 10),(6,1,.int .u8 26),(7,1,.int .u8 10)]=some (slR H2.next 8 (.known 8),H2.push (.cells (byts sigB) 0 false)):=_root_.id rfl
 have g3:(H2.push (.cells (byts sigB) 0 false)).get H2.next=some (.cells (byts sigB) 0 false):=by rw[AHeap.get_push,if_pos rfl]
 obtain⟨H3,hH3⟩:∃H3,H3=(H2.push (.cells (byts sigB) 0 false)).set H2.next (.cells (byts sigB) 0 false true):=⟨_,rfl⟩
 have mk:aMark (H2.push (.cells (byts sigB) 0 false)) [slR H2.next 8 (.known 8)]=some (slR H2.next 8 (.known 8),H3):=by
  simp only[aMark,slR,g3,hH3]
 have n3:H3.next=H2.next+1:=by rw[hH3,set_next,push_next]
 have q3:∀c,c≠H2.next→H3.get c=H2.get c:=fun c hc=>by rw[hH3,AHeap.get_set,if_neg hc,AHeap.get_push,if_neg hc]
 have r3:MRow H3 H2.next (byts sigB):=⟨0,by rw[hH3,AHeap.get_set,if_pos rfl],Nat.zero_le _⟩
 have A3:=A2.same (H':=H3) om (A2.blk'.mono fun c hc=>q3 c om)
 have bs5:aBuildSl 5 [.int .u8 0] H3 [(0,1,.int .u8 8),(1,1,.int .u8 6),(2,1,.int .u8 0),(3,1,.int .u8 0),(4,1,.int .u8 1)]=some (slR H3.next 5 (.known 5),H3.push (.cells (byts [8,6,0,0,1]) 0 false)):=_root_.id rfl
 have A3':=A3.same (H':=H3.push (.cells (byts [8,6,0,0,1]) 0 false)) (by rw[push_next]; omega) (A3.blk'.mono fun c hc=>get_push_lt hc)
 obtain⟨s4,H4,m4,A4,n4,b4,o4⟩:=app_bytes A3' (src_cel (lit_cel H3 [8,6,0,0,1] (m:=5) rfl)) (by simp only[lA,be4_len,List.length_nil]; decide)
 rw[push_next]at n4 b4 o4
 have r4:MRow H4 H2.next (byts sigB):=r3.same (by rw[o4 _ om (A2.blk'.mono fun c hc=>om),get_push_lt om])
 have b4':Blk s4 fun c=>H.next≤c∧c≠H2.next:=(b4 _ (A2.blk'.and b2)).mono fun c hc=>om
 have hb4:([]:Bs)++be4 w++be4 h++[8,6,0,0,1]=headB w h:=rfl
 rw[hb4]at A4
 have E4:Ext H.next H H4:=⟨om,fun c hc=>by rw[o4 c om (b2.mono fun d hd=>om),get_push_lt om,q3 c om,E2.old c hc]⟩
 have e4n:=E4.next
 simp only[sR,sA,sB,seval,bs,hfM,mk,bs5,m4]
 refine⟨?_,?_⟩
 ·simp only[ck_nil',ck_cons,ck_end,ckP_nil,ckP_load]
  exact⟨⟨⟨H,rfl,fun _=>⟨_,row_load R rfl rfl,aeq_int _ _⟩⟩,trivial⟩,trivial⟩
 refine (chunk_spec (a:=sigB) (kind:=kIHDR) (.inr ⟨H2.next,rfl,om,r4⟩) (A4.cel1 A4.blk') rL (b4'.mono fun c hc=>blk_some hc.2) rfl (by show 8+13≤800000; decide)).mono ?_
 rintro s5 H5 ⟨A5,G5⟩
 simp only[sA,sB,seval]
 refine⟨A5,(G5.2.1 (H2.next≤·) (blk_some rL)).mono fun c hc=>om,by have:=G5.1; omega,fun c hc=>by rw[G5.2.2 c om (blk_some (show c≠H2.next by omega)),E4.old c hc]⟩
open Go.Abs Go.Abs.S
theorem lt_pack{bg:Bool}{T:List Bool}:∀x∈hd bg++pack T,x<256:=by
 intro x hx
 rcases List.mem_append.1 hx with h | h
 ·cases bg <;> simp[hd]at h
  omega
 ·exact pack_lt h
theorem lt_end{bg:Bool}{T:List Bool}{s:Nat}:∀x∈hd bg++pack T++fourL s,x<256:=by
 intro x hx
 rcases List.mem_append.1 hx with h | h
 ·exact lt_pack x h
 ·simp only[fourL,List.mem_cons,List.not_mem_nil,or_false]at h; omega
theorem blk_flip{s v:AVal}(h:Blk v fun c=>Blk s (c≠·)):Blk s fun c=>Blk v (c≠·):=fun a m r e a' m' r' e' q=>h a' m' r' e' a m r e q.symm
def idatF(told:Bs):Bs:=if told=[] then [] else chunkF kIDAT told
def iendF(left:Nat):Bs:=if left=0 then chunkF kIEND [] else []
theorem put12{T:Env}{H:AHeap}{K:AVal→AHeap→Prop}{e w h left at_:Nat}{rows st s tv:AVal}{a told:Bs}(t0:T 0=cellR e 7 0)(R:Row H e (eC w h left rows at_ st))(he:e<H.next)(t6:T 6=s)(A:AppN 1 0 H s (byts a) a.length)(t8:T 8=tv)(C:Cel H.next H tv (byts told))(hs:Blk tv fun c=>Blk s (c≠·))(hse:Blk s (e≠·))(hl:a.length+told.length≤700000)
  (hK:∀v H',AppN 1 0 H' v (byts (a++idatF told++iendF left)) (a++idatF told++iendF left).length→Gw H s H' v→K (.tuple [v,.int .i64 0]) H'):wp (ACalls Tryz.prog noNat) (restP [1,1,1,1,1,1,1,1,1,1,1,1] c116.body) (fin [.t 4,.t 5] K) T H:=by
 have lt:=C.len
 rw[byts_len]at lt
 have main:∀T' H' s',T' 0=cellR e 7 0→T' 6=s'→AppN 1 0 H' s' (byts (a++idatF told)) (a++idatF told).length→Gw H s H' s'→(a++idatF told).length≤750000→wp (ACalls Tryz.prog noNat) (restP [1,1,1,1,1,1,1,1,1,1,1,1,1] c116.body) (fin [.t 4,.t 5] K) T' H':=by
  intro T' H' s' u0 u6 A' G hl'
  have R':=R.same (G.2.2 e he hse)
  have l3:oLoad false 1 H' (cellR e 7 3)=some (.int .i64 (left:Int)):=row_load R' rfl rfl
  by_cases h0:left=0
  ·subst h0
   have l3':oLoad false 1 H' (cellR e 7 3)=some (.int .i64 0):=l3
   have ef:iendF 0=chunkF kIEND []:=rfl
   rw[ef]at hK
   simp only[c116,restP,sA,sB,seval,u0,u6,nil_cell,fldA,fld0,l3']
   refine (chunk_spec (kind:=kIEND) (body:=[]) (.inl A') (.inl ⟨rfl,rfl⟩) (Nat.zero_le _) (blk_nil _) rfl (by simp only[List.length_nil]; omega)).mono ?_
   rintro s5 H5 ⟨A5,G5⟩
   simp only[sA,sB,seval]
   exact hK _ _ A5 (G.trans G5)
  ·have h0':¬(left:Int)=0:=om
   have ef:iendF left=[]:=by unfold iendF; rw[if_neg h0]
   rw[ef,List.append_nil]at hK
   simp only[c116,restP,sA,sB,seval,u0,u6,nil_cell,fldA,fld0,l3,h0']
   exact hK _ _ A' G
 by_cases h0:told=[]
 ·subst h0
  have ei:idatF []=[]:=rfl
  rw[ei,List.append_nil]at main
  have lt':aLenK false tv=some (.int .i64 0):=lt
  refine wp_cutP [1] ?_
  simp only[c116,restP,sC,sA,sB,seval,t8,lt']
  exact main _ _ s (by simp only[sA,sB,seval,t0]) (by simp only[sA,sB,seval,t6]) A (Gw.refl _ _) (by simp only[List.length_nil]at hl; omega)
 ·have hpos:0<told.length:=List.length_pos_iff.2 h0
  have hp':(0:Int)<(told.length:Int):=om
  have ei:idatF told=chunkF kIDAT told:=by unfold idatF; rw[if_neg h0]
  rw[ei]at main
  refine wp_cutP [1] ?_
  simp only[c116,restP,sC,sA,sB,seval,t8,lt,hp',t6]
  refine (chunk_spec (kind:=kIDAT) (.inl A) C rL hs rfl om).mono ?_
  rintro s5 H5 ⟨A5,G5⟩
  simp only[sA,sB,seval]
  exact main _ _ s5 (by simp only[sA,sB,seval,t0]) (by simp only[sA,sB,seval]) A5 G5 (by rw[lA,chunkF_len rfl]; omega)
def endB8(bg:Bool)(b:Bs):Bs:=(hd bg++pack ([]++endX ([]:List Bool).length b 0)++fourL (adler 1 b)).map UInt8.ofNat
theorem endX_len{b:Bs}(hl:b.length≤4096):(pack ([]++endX ([]:List Bool).length b 0)).length≤20000:=by
 have hbl:=blkB_len 1 ([]:List Bool).length (b:=b) (sent:=0) (to:=b.length) (Nat.zero_le _) rL
 have hf:fillN (([]:List Bool).length+(blkB 1 ([]:List Bool).length b 0 b.length).length)≤7:=by unfold fillN; omega
 rw[pack_len]
 unfold endX
 simp only[List.nil_append,lA,List.length_replicate]; omega
theorem endB8_len{bg:Bool}{b:Bs}(hl:b.length≤4096):(endB8 bg b).length≤20010:=by
 have:=endX_len hl
 have hdl:(hd bg).length≤2:=by cases bg <;> simp[hd]
 simp only[endB8,List.length_map,lA,fourL,List.length_cons,List.length_nil]at this ⊢; omega
structure PE(m lo:Nat)(τ:Nat→Nat)(H:AHeap)(e z w h left:Nat)(rows:List Nat)(at_:Nat)(bg:Bool)(b:Bs):Prop where
 zw:∃n0 K,ZW n0 τ H z bg b 0 K [] 0
 ro:∃s,Row H e (eC w h left s at_ (cellR z 5 0))∧Op m H s (nats rows)∧Blk s (fun c=>τ c=0∧c≠z∧c≠e∧lo≤c)
 en:e<H.next
 et:τ e=0
 ez:e≠z
theorem u8s_hd(bg:Bool):u8s (hd bg)=byts ((hd bg).map UInt8.ofNat):=u8s_byts (by intro x hx; cases bg <;> simp[hd]at hx; omega)
theorem ZW.lt{n0:Nat}{τ:Nat→Nat}{H:AHeap}{z:Nat}{bg:Bool}{b:Bs}{sent K:Nat}{M:List Bool}{pl:Nat}(h:ZW n0 τ H z bg b sent K M pl):z<H.next∧τ z=0∧∀c,H.next≤c→τ c=0:=by
 obtain⟨_,_,_,_,D,_,h1,h2⟩:=h
 exact⟨h1,h2,D.pw.tz⟩
theorem ZW.fr{n0:Nat}{τ:Nat→Nat}{H H':AHeap}{z:Nat}{bg:Bool}{b:Bs}{sent K:Nat}{M:List Bool}{pl:Nat}(h:ZW n0 τ H z bg b sent K M pl)(hn:H.next≤H'.next)(e:∀c,c<H.next→(τ c≠0∨c=z)→H'.get c=H.get c):ZW n0 τ H' z bg b sent K M pl:=by
 obtain⟨ow,o,mb,kept,D,R,hz,tz⟩:=h
 exact⟨ow,o,mb,kept,D.fr0 hn fun c hc h0=>e c hc (.inl h0),R.same (e z hz (.inr rfl)),om,tz⟩
theorem PE.fr{m lo:Nat}{τ:Nat→Nat}{H H':AHeap}{e z w h left:Nat}{rows:List Nat}{at_:Nat}{bg:Bool}{b:Bs}(P:PE m lo τ H e z w h left rows at_ bg b)(hm:m≤H.next)(hn:H.next≤H'.next)(ek:∀c,c<H.next→(τ c≠0∨c<m∨c=z∨c=e)→H'.get c=H.get c):PE m lo τ H' e z w h left rows at_ bg b:=by
 obtain⟨⟨n0,Kz,Z⟩,⟨rs,R,ro,rb⟩,en,et,ez⟩:=P
 exact⟨⟨n0,Kz,Z.fr hn fun c hc q=>ek c hc (q.imp id fun q=>.inr (.inl q))⟩,⟨rs,R.same (ek e en (.inr (.inr (.inr rfl)))),ro.same rL (ro.blk.mono fun c hc=>ek c om (.inr (.inl hc))),rb⟩,om,et,ez⟩
theorem PE.fr2{m lo:Nat}{τ:Nat→Nat}{H H':AHeap}{e z w h left:Nat}{rows:List Nat}{at_:Nat}{bg:Bool}{b:Bs}(P:PE m lo τ H e z w h left rows at_ bg b)(hm:m≤H.next)(hn:H.next≤H'.next)(ek:∀c,c<H.next→(τ c≠0∨(lo≤c∧c<m)∨c=z∨c=e)→H'.get c=H.get c):PE m lo τ H' e z w h left rows at_ bg b:=by
 obtain⟨⟨n0,Kz,Z⟩,⟨rs,R,ro,rb⟩,en,et,ez⟩:=P
 exact⟨⟨n0,Kz,Z.fr hn fun c hc q=>ek c hc (q.imp id fun q=>.inr (.inl q))⟩,⟨rs,R.same (ek e en (.inr (.inr (.inr rfl)))),ro.same rL ((ro.blk.and rb).mono fun c hc=>ek c om (.inr (.inl ⟨hc.2.2.2.2,hc.1⟩))),rb⟩,om,et,ez⟩
theorem put11{T:Env}{H:AHeap}{K:AVal→AHeap→Prop}{τ:Nat→Nat}{m lo n1 e z w h left at_:Nat}{rows:List Nat}{bg:Bool}{b a told:Bs}{s tv:AVal}(P:PE m lo τ H e z w h left rows at_ bg b)(hm:m≤n1)(he:e<n1)(hzn:z<n1)(hn1:n1≤H.next)(hb:b.length≤4096)(t0:T 0=cellR e 7 0)(t6:T 6=s)(A:AppN 1 0 H s (byts a) a.length)(ab:Blk s fun c=>τ c=0∧n1≤c)(t8:T 8=tv)(C:AppN 1 0 H tv (byts told) told.length)(ct:Blk tv fun c=>τ c=0∧n1≤c)(hs:Blk tv fun c=>Blk s (c≠·))(hl:a.length+told.length≤600000)
  (hK:∀v H',(left≠0→PE m lo τ H' e z w h left rows at_ bg b∧AppN 1 0 H' v (byts (a++idatF told)) (a++idatF told).length∧Blk v fun c=>τ c=0∧n1≤c) →
   (left=0→AppN 1 0 H' v (byts (a++idatF (told++endB8 bg b)++chunkF kIEND [])) (a++idatF (told++endB8 bg b)++chunkF kIEND []).length∧Blk v (n1≤·))→H.next≤H'.next→(∀c,c<n1→τ c=0→c≠z→c≠e→H'.get c=H.get c)→K (.tuple [v,.int .i64 0]) H') :
  wp (ACalls Tryz.prog noNat) (restP [1,1,1,1,1,1,1,1,1,1,1] c116.body) (fin [.t 4,.t 5] K) T H:=by
 have P':=P
 obtain⟨⟨n0,Kz,Z⟩,⟨rs,R,ro,rb⟩,en,et,ez⟩:=P
 obtain⟨hz,tz,tzn⟩:=Z.lt
 have l3:oLoad false 1 H (cellR e 7 3)=some (.int .i64 (left:Int)):=row_load R rfl rfl
 by_cases h0:left=0
 ·subst h0
  have l3':oLoad false 1 H (cellR e 7 3)=some (.int .i64 0):=l3
  have l6:oLoad false 1 H (cellR e 7 6)=some (cellR z 5 0):=row_load R rfl rfl
  refine wp_cutP [1] ?_
  simp only[c116,restP,sC,sA,sB,seval,t0,nil_cell,fldA,fld0,l3',l6]
  refine (zend_spec Z om (Nat.zero_le _) om (Nat.zero_le _) (by simp)).mono ?_
  rintro _ H1 ⟨s1,rfl,C1,k1,o1⟩
  rw[u8s_byts lt_end]at C1
  have C1':Cel H1.next H1 s1 (byts (endB8 bg b)):=C1
  have A1:=A.same (H':=H1) k1 ((A.blk'.and ab).mono fun c hc=>o1 c hc.1 hc.2.1 om)
  have T1:=C.same (H':=H1) k1 ((C.blk'.and ct).mono fun c hc=>o1 c hc.1 hc.2.1 om)
  have R1:=R.same (o1 e en et ez)
  have hel:=endB8_len (bg:=bg) hb
  obtain⟨s2,H2,m2,A2,q1,q2,q3⟩:=app_bytes T1 (src_cel C1') om
  have R2:=R1.same (q3 e om (ct.mono fun c hc=>om))
  have A1':AppN 1 0 H2 s (byts a) a.length:=A1.same q1 (A.blk'.and (blk_flip hs) |>.mono fun c hc=>q3 c om hc.2)
  have s2b:Blk s2 fun c=>(n1≤c∧Blk s (c≠·))∨H1.next≤c:=q2 _ ((ct.and hs).mono fun c hc=>⟨hc.1.2,hc.2⟩)
  obtain⟨H3,m3,R3,k3,q4⟩:=row_st R2 (n:=7) rfl (i:=4) om (x:=nilS) rfl (l':=eC w h 0 nilS at_ (cellR z 5 0)) rfl
  obtain⟨H4,m4,R4,k4,q5⟩:=row_st R3 (n:=7) rfl (i:=6) om (x:=.ptr none) rfl (l':=eC w h 0 nilS at_ (.ptr none)) rfl
  have m3':oStore 1 H2 (cellR e 7 4) (.slice none 0 (.known 0))=some H3:=m3
  simp only[sA,sB,seval,ext_0,ext_1,t0,t8,m2,nil_cell,fldA,fld0,m3',m4]
  have e4:∀c,c≠e→H4.get c=H2.get c:=fun c hc=>by rw[q5 c hc,q4 c hc]
  have A4:=A1'.same (H':=H4) om (ab.mono fun c hc=>e4 c om)
  have T4:=A2.same (H':=H4) om (s2b.mono fun c hc=>e4 c om)
  refine put12 (by simp only[sA,sB,seval,t0]) R4 om (by simp only[sA,sB,seval,t6]) A4 (by simp only[sA,sB,seval]) (T4.cel1 T4.blk') (s2b.mono fun c hc=>hc.elim And.right fun q=>A.blk'.mono fun d hd=>om) (ab.mono fun c hc=>om) (by rw[lA]; omega) fun v H' A' G=>?_
  have ef:iendF 0=chunkF kIEND []:=rfl
  rw[ef]at A'
  have g1:=G.1
  refine hK v H' (fun q=>absurd rfl q) (fun _=>⟨A',(G.2.1 _ (ab.mono fun c hc=>hc.2)).mono fun c hc=>om⟩) om fun c hc h1 h2 h3=>?_
  rw[G.2.2 c om (ab.mono fun d hd=>om),e4 c h3,q3 c om (ct.mono fun d hd=>om),o1 c om h1 h2]
 ·have h0':¬(left:Int)=0:=om
  refine wp_cutP [1] ?_
  simp only[c116,restP,sC,sA,sB,seval,t0,nil_cell,fldA,fld0,l3,h0']
  refine put12 (by simp only[sA,sB,seval,t0]) R en (by simp only[sA,sB,seval,t6]) A (by simp only[sA,sB,seval,t8]) (C.cel1 C.blk') hs (ab.mono fun c hc=>om) om fun v H' A' G=>?_
  have ef:iendF left=[]:=by unfold iendF; rw[if_neg h0]
  rw[ef,List.append_nil]at A'
  have g1:=G.1
  have fr:∀c,c<H.next→(τ c≠0∨c<n1)→H'.get c=H.get c:=fun c hc q=>G.2.2 c hc (ab.mono fun d hd=>by rintro rfl; omega)
  refine hK v H' (fun _=>⟨P'.fr om g1 fun c hc q=>fr c hc om,A',(G.2.1 _ ab).mono fun c hc=>hc.elim id fun q=>⟨tzn c q,om⟩⟩) (fun q=>absurd q h0) g1 fun c hc _ _ _=>fr c om (.inr hc)
open Go.Abs Go.Abs.S
def rowsS(m0:Nat)(rest:List Nat)(at_:Nat):List Nat:=if at_+1=m0 then rest else m0::rest
def atS(m0 at_:Nat):Nat:=if at_+1=m0 then 0 else at_+1
theorem put8{T:Env}{H:AHeap}{K:AVal→AHeap→Prop}{τ:Nat→Nat}{m lo n1 e z w h left m0 at_:Nat}{rest:List Nat}{bg:Bool}{b a told:Bs}{s tv:AVal}(P:PE m lo τ H e z w h (left+1) (m0::rest) at_ bg b)(hlf:left≤400)(hm0:m0≤20)(hat:at_<m0)(hm:m≤n1)(he:e<n1)(hzn:z<n1)(hn1:n1≤H.next)(hb:b.length≤4096)(t0:T 0=cellR e 7 0)(t6:T 6=s)(A:AppN 1 0 H s (byts a) a.length)(ab:Blk s fun c=>τ c=0∧n1≤c)(t8:T 8=tv)(C:AppN 1 0 H tv (byts told) told.length)(ct:Blk tv fun c=>τ c=0∧n1≤c)(hs:Blk tv fun c=>Blk s (c≠·))(hl:a.length+told.length≤600000)
  (hK:∀v H',(left≠0→PE m lo τ H' e z w h left (rowsS m0 rest at_) (atS m0 at_) bg b∧AppN 1 0 H' v (byts (a++idatF told)) (a++idatF told).length∧Blk v fun c=>τ c=0∧n1≤c) →
   (left=0→AppN 1 0 H' v (byts (a++idatF (told++endB8 bg b)++chunkF kIEND [])) (a++idatF (told++endB8 bg b)++chunkF kIEND []).length∧Blk v (n1≤·))→H.next≤H'.next→(∀c,c<n1→τ c=0→c≠z→c≠e→H'.get c=H.get c)→K (.tuple [v,.int .i64 0]) H') :
  wp (ACalls Tryz.prog noNat) (restP [1,1,1,1,1,1,1,1] c116.body) (fin [.t 4,.t 5] K) T H:=by
 obtain⟨⟨n0,Kz,Z⟩,⟨rs,R,ro,rb⟩,en,et,ez⟩:=P
 obtain⟨hz,tz,tzn⟩:=Z.lt
 have l3:oLoad false 1 H (cellR e 7 3)=some (.int .i64 ((left+1:Nat):Int)):=row_load R rfl rfl
 have w1:IntKind.i64.wrap (((left+1:Nat):Int)-1)=(left:Int):=w64
 have w2:IntKind.i64.wrap ((at_:Int)+1)=((at_+1:Nat):Int):=w64
 obtain⟨H1,m1,R1,k1,q1⟩:=row_st R (n:=7) rfl (i:=3) om (x:=.int .i64 (left:Int)) rfl (l':=eC w h left rs at_ (cellR z 5 0)) rfl
 have l5:oLoad false 1 H1 (cellR e 7 5)=some (.int .i64 (at_:Int)):=row_load R1 rfl rfl
 obtain⟨H2,m2,R2,k2,q2⟩:=row_st R1 (n:=7) rfl (i:=5) om (x:=.int .i64 ((at_+1:Nat):Int)) rfl (l':=eC w h left rs (at_+1) (cellR z 5 0)) rfl
 have l5':oLoad false 1 H2 (cellR e 7 5)=some (.int .i64 ((at_+1:Nat):Int)):=row_load R2 rfl rfl
 have l4':oLoad false 1 H2 (cellR e 7 4)=some rs:=row_load R2 rfl rfl
 have e2:∀c,c≠e→H2.get c=H.get c:=fun c hc=>by rw[q2 c hc,q1 c hc]
 have ro2:Op m H2 rs (nats (m0::rest)):=ro.same rL (rb.mono fun c hc=>e2 c hc.2.2.1)
 obtain⟨ib,il,io,ii,ix⟩:=ro2.idx (i:=0) (x:=.int .i64 (m0:Int)) rfl
 have ii':aIdxA 1 rs (.int .i64 0)=some (cellR ib il io):=ii
 obtain⟨rs',ms,ros,rbs⟩:=ro2.from_ (lo:=1) (by simp[nats])
 have ms':aSl 1 rs (some (.int .i64 1)) none none=some rs':=ms
 have ros':Op m H2 rs' (nats rest):=ros
 have Z2:ZW n0 τ H2 z bg b 0 Kz [] 0:=Z.fr om fun c hc q=>e2 c (by rintro rfl; rcases q with q | q; exact q et; exact ez q)
 have go:∀(T':Env) (H':AHeap) (R':List Nat) (at':Nat),PE m lo τ H' e z w h left R' at' bg b→(∀c,c≠e→H'.get c=H.get c)→H'.next=H.next→R'=rowsS m0 rest at_→at'=atS m0 at_→T' 0=cellR e 7 0→T' 6=s→T' 8=tv→wp (ACalls Tryz.prog noNat) (restP [1,1,1,1,1,1,1,1,1,1,1] c116.body) (fin [.t 4,.t 5] K) T' H':=by
  rintro T' H' _ _ P' fr nn rfl rfl u0 u6 u8
  refine put11 P' hm he hzn om hb u0 u6 (A.same om (ab.mono fun c hc=>fr c om)) ab u8 (C.same om (ct.mono fun c hc=>fr c om)) ct hs hl fun v H5 g1 g2 g3 g4=>?_
  exact hK v H5 g1 g2 om fun c hc h1 h2 h3=>by rw[g4 c hc h1 h2 h3,fr c h3]
 by_cases hrow:at_+1=m0
 ·subst hrow
  obtain⟨H3,m3,R3,k3,q3⟩:=row_st R2 (n:=7) rfl (i:=4) om (x:=rs') (cel_one ros'.cel) (l':=eC w h left rs' (at_+1) (cellR z 5 0)) rfl
  obtain⟨H4,m4,R4,k4,q4⟩:=row_st R3 (n:=7) rfl (i:=5) om (x:=.int .i64 0) rfl (l':=eC w h left rs' 0 (cellR z 5 0)) rfl
  have e4:∀c,c≠e→H4.get c=H2.get c:=fun c hc=>by rw[q4 c hc,q3 c hc]
  refine wp_cutP [1,1,1] ?_
  simp only[c116,restP,sC,sA,sB,seval,t0,nil_cell,fldA,fld0,l3,w1,m1,l5,w2,m2,l5',l4',ii',ix,ms',m3,m4]
  exact go _ H4 rest 0 ⟨⟨n0,Kz,Z2.fr om fun c hc q=>e4 c (by rintro rfl; rcases q with q | q; exact q et; exact ez q)⟩,⟨rs',R4,ros'.same rL ((rbs _ rb).mono fun c hc=>e4 c hc.2.2.1),rbs _ rb⟩,om,et,ez⟩ (fun c hc=>by rw[e4 c hc,e2 c hc]) om (by unfold rowsS; rw[if_pos rfl]) (by unfold atS; rw[if_pos rfl]) (by simp only[sA,sB,seval,t0]) (by simp only[sA,sB,seval,t6]) (by simp only[sA,sB,seval,t8])
 ·have hrow':¬((at_+1:Nat):Int)=(m0:Int):=om
  refine wp_cutP [1,1,1] ?_
  simp only[c116,restP,sC,sA,sB,seval,t0,nil_cell,fldA,fld0,l3,w1,m1,l5,w2,m2,l5',l4',ii',ix,hrow']
  exact go _ H2 (m0::rest) (at_+1) ⟨⟨n0,Kz,Z2⟩,⟨rs,R2,ro2,rb⟩,om,et,ez⟩ e2 om (by unfold rowsS; rw[if_neg hrow]) (by unfold atS; rw[if_neg hrow]) (by simp only[sA,sB,seval,t0]) (by simp only[sA,sB,seval,t6]) (by simp only[sA,sB,seval,t8])
theorem Mk.many{H:AHeap}{b cap:Nat}{s x:AVal}{L xs:List AVal}(h:Mk H b cap s L)(hs:aSrc 1 H x=some (xs.length,xs))(hl:L.length+xs.length≤cap)(h0:0<xs.length)(ho:xs.all AVal.one=true){bytes:Nat}(hb:2*cap*bytes≤281474976710656)(hb1:0<bytes) :
  ∃s' H',aAppend 1 bytes H s x=some (s',H')∧Mk H' b cap s' (L++xs)∧H'.next=H.next∧∀c,c≠b→H'.get c=H.get c:=by
 obtain⟨low,C,rfl,h2,h3,h4,h5,h6,h7⟩:=h
 have hbl:2*(L.length+xs.length)*bytes≤281474976710656:=Nat.le_trans (Nat.mul_le_mul_right _ (Nat.mul_le_mul_left 2 hl)) hb
 have hlen:L.length+xs.length≤9223372036854775807:=by
  have:2*(L.length+xs.length)≤2*(L.length+xs.length)*bytes:=Nat.le_mul_of_pos_right _ hb1
  omega
 have c0:Nat.beq xs.length 0=false:=by
  cases hq:Nat.beq xs.length 0 with
  | false=>rfl
  | true=>have:=Nat.eq_of_beq_eq_true hq; omega
 have c1:(Nat.blt 0 1&&(Nat.ble ((2*(L.length+xs.length)+0)*bytes) 281474976710656&&(Nat.ble (L.length+xs.length) 9223372036854775807&&(Nat.beq xs.length (xs.length*1)&&xs.all AVal.one))))=true:=by
  simp only[Nat.add_zero,Nat.ble_eq_true_of_le hbl,Nat.ble_eq_true_of_le hlen,Nat.mul_one,Nat.beq_refl,ho,Bool.and_self,show Nat.blt 0 1=true from rfl]
 have h3':low≤cap:=om
 have hw:wrCells H ⟨b,cap,0+L.length*1⟩ xs=some (H.set b (.cells (C.take L.length++(xs++C.drop (L.length+xs.length))) C.length false)):=by
  unfold wrCells
  simp only[h2,h4,Nat.ble_eq_true_of_le h3',Nat.beq_refl,Nat.zero_add,Nat.mul_one,Nat.ble_eq_true_of_le hl,ho,Bool.and_self,cond_true]
 have hl2:(C.take L.length++(xs++C.drop (L.length+xs.length))).length=C.length:=by simp; omega
 refine⟨.slice (some ⟨b,cap,0⟩) (L.length+xs.length) (.known cap),H.set b (.cells (C.take L.length++(xs++C.drop (L.length+xs.length))) C.length false),?_,⟨C.length,C.take L.length++(xs++C.drop (L.length+xs.length)),by simp,by rw[AHeap.get_set,if_pos rfl],by rw[hl2]; exact Nat.le_refl _,by rw[hl2,h4],?_,by simp; omega,by rw[set_next]; exact h7⟩,by rw[set_next],fun c hne=>by rw[AHeap.get_set,if_neg hne]⟩
 ·simp only[aAppend,hs]
  rw[c0,cond_false,c1,cond_true]
  simp only[Nat.ble_eq_true_of_le hl,cond_true,hw]
 ·rw[h5,← List.append_assoc,List.take_left' (by simp)]
def leadB(at_:Nat):Bs:=if at_=0 then [0] else []
def hdB(bg:Bool):Bs:=(hd bg).map UInt8.ofNat
theorem put7{T:Env}{H:AHeap}{K:AVal→AHeap→Prop}{τ:Nat→Nat}{m lo n1 e z w h left m0 at_ bl bp:Nat}{rest:List Nat}{bg:Bool}{b a l p:Bs}{s lv:AVal}(P:PE m lo τ H e z w h (left+1) (m0::rest) at_ bg b)(hlf:left≤400)(hm0:m0≤20)(hat:at_<m0)(hm:m≤n1)(he:e<n1)(hzn:z<n1)(hn1:n1≤H.next)(hb:b.length≤4000)(hl1:l.length≤1)(hp:p.length=4)(t0:T 0=cellR e 7 0)(t3:T 3=cellR bp 4 0)(rp:Row H bp (byts p))(nbp:n1≤bp)(htn:∀c,n1≤c→τ c=0)(t6:T 6=s)(A:AppN 1 0 H s (byts a) a.length)(ab:Blk s fun c=>n1≤c∧c<bl)(t7:T 7=lv)(ml:Mk H bl 5 lv (byts l))(hbl:n1≤bl)(hbp:bp≠bl)(hl:a.length≤500000)
  (hK:∀v H' τ',(left≠0→PE m lo τ' H' e z w h left (rowsS m0 rest at_) (atS m0 at_) true (b++(l++p))∧AppN 1 0 H' v (byts (a++idatF (hdB bg))) (a++idatF (hdB bg)).length∧Blk v fun c=>τ' c=0∧n1≤c) →
   (left=0→AppN 1 0 H' v (byts (a++idatF (hdB bg++endB8 true (b++(l++p)))++chunkF kIEND [])) (a++idatF (hdB bg++endB8 true (b++(l++p)))++chunkF kIEND []).length∧Blk v (n1≤·))→H.next≤H'.next→(∀c,c<n1→τ c=0→τ' c=0∧(c≠z→c≠e→H'.get c=H.get c))→K (.tuple [v,.int .i64 0]) H') :
  wp (ACalls Tryz.prog noNat) (restP [1,1,1,1,1,1,1] c116.body) (fin [.t 4,.t 5] K) T H:=by
 obtain⟨⟨n0,Kz,Z⟩,⟨rs,R,ro,rb⟩,en,et,ez⟩:=P
 obtain⟨hz,tz,tzn⟩:=Z.lt
 have l6:oLoad false 1 H (cellR e 7 6)=some (cellR z 5 0):=row_load R rfl rfl
 have sl:aSlArr 4 1 (cellR bp 4 0) none none none=some (slR bp 4 (.known 4)):=_root_.id rfl
 have cp:Cel (bp+1) H (slR bp 4 (.known 4)) (byts p):=rp.cel (by rw[byts_len,hp]) (Nat.lt_succ_self _)
 have sp:aSrc 1 H (slR bp 4 (.known 4))=some ((byts p).length,byts p):=by have:=src_cel cp; rwa [byts_len]
 obtain⟨lv',H1,m1,ml1,k1,q1⟩:=ml.many sp (by rw[byts_len,byts_len]; omega) (by rw[byts_len]; omega) (byts_one p) (bytes:=1) om om
 rw[← byts_append]at ml1
 have hbln:bl<H.next:=by obtain⟨_,_,_,_,_,_,_,_,q⟩:=ml; exact q
 have e1:∀c,c<n1→H1.get c=H.get c:=fun c hc=>q1 c om
 have Z1:ZW n0 τ H1 z bg b 0 Kz [] 0:=Z.fr om fun c hc q=>q1 c (by
  rintro rfl
  have:=htn c hbl
  omega)
 have R1:=R.same (e1 e he)
 have clv:=ml1.cel (n:=H.next) hbln
 have lvb:Blk lv' (·=bl):=ml1.blk _ rfl
 refine wp_cutP [1] ?_
 simp only[c116,restP,sC,sA,sB,seval]
 refine aw_drawC rfl ?_
 simp only[sR,sA,sB,seval,t0,t3,t7,nil_cell,fldA,fld0,l6,sl,m1]
 refine (zwrite_spec Z1 clv om (lvb.mono fun c hc=>om) (by rw[lA,hp]; omega) (Nat.zero_le _) rL rL).mono ?_
 rintro _ H2 ⟨tv,X,sent',pl',M',T',rfl,A2,eT,tT,hM',hpl',hs',hlong,h9,hB,⟨τ',K',Z2,bs,f2⟩,sm⟩
 obtain⟨rfl,rfl⟩:=sm (by rw[lA,lA,hp]; omega)
 have eT':T'++M'=[]:=eT
 obtain⟨rfl,rfl⟩:=List.append_eq_nil_iff.1 eT'
 obtain rfl:pl'=0:=by simpa using hpl'
 have f2n:=f2.1
 have ep:hd bg++pack []=hd bg:=by cases bg <;> rfl
 rw[ep]at A2
 have et1:u8s (hd bg)=byts (hdB bg):=u8s_hd bg
 have ln1:(hd bg).length=(hdB bg).length:=by simp[hdB]
 rw[et1,ln1]at A2
 have R2:Row H2 e (eC w h (left+1) rs at_ (cellR z 5 0)):=R1.same ((f2.2 e om et).2 ez)
 simp only[sR,sA,sB,seval,ext_0,ext_1]
 refine⟨?_,?_⟩
 ·simp only[ck_nil',ck_cons,ck_end,ckP_nil,ckP_load]
  exact⟨⟨⟨H1,rfl,fun _=>⟨_,row_load R1 rfl rfl,by simp[aeq,cellR]⟩⟩,trivial⟩,trivial⟩
 have k0:∀c,c<H.next→τ c=0→c≠z→c≠bl→τ' c=0∧H2.get c=H.get c:=fun c hc h0 h1 h2=>by
  obtain⟨a1,a2⟩:=f2.2 c om h0
  exact⟨a1,by rw[a2 h1,q1 c h2]⟩
 have ro2:Op m H2 rs (nats (m0::rest)):=ro.same rL ((ro.blk.and rb).mono fun c hc=>(k0 c om hc.2.1 hc.2.2.1 om).2)
 have hdl:(hdB bg).length≤2:=by cases bg <;> simp[hdB,hd]
 have ab':Blk s fun c=>c<H.next∧n1≤c∧c<bl:=A.blk'.and ab
 refine put8 (τ:=τ') (n1:=n1) ⟨⟨n0,K',Z2⟩,⟨rs,R2,ro2,(ro.blk.and rb).mono fun c hc=>⟨(k0 c om hc.2.1 hc.2.2.1 om).1,hc.2.2⟩⟩,om,(f2.2 e om et).1,ez⟩ hlf hm0 hat hm he hzn om (by simp only[lA,hp]; omega) (by simp only[sA,sB,seval,t0]) (by simp only[sA,sB,seval,t6]) (A.same om (ab'.mono fun c hc=>(k0 c hc.1 (htn c hc.2.1) om om).2)) (ab'.mono fun c hc=>⟨(k0 c hc.1 (htn c hc.2.1) om om).1,hc.2.1⟩) (by simp only[sA,sB,seval]) A2 (bs.mono fun c hc=>⟨hc.1,om⟩) (bs.mono fun c hc=>ab'.mono fun d hd=>om) om fun v H' g1 g2 g3 g4=>?_
 refine hK v H' τ' g1 g2 om fun c hc h0=>?_
 have a1:=(f2.2 c om h0).1
 exact⟨a1,fun h1 h2=>by rw[g4 c hc a1 h1 h2,(k0 c om h0 h1 om).2]⟩
def putF(w h left:Nat)(bg:Bool):Bs:=(if left+1=w*h then headF w h else [])++idatF (hdB bg)
theorem eput_spec{H:AHeap}{τ:Nat→Nat}{m lo e z w h left m0 at_:Nat}{rest:List Nat}{bg:Bool}{b p:Bs}(P:PE m lo τ H e z w h (left+1) (m0::rest) at_ bg b)(hw:w≤20)(hh:h≤20)(hlf:left<400)(hm0:m0≤20)(hat:at_<m0)(hm:m≤H.next)(hb:b.length≤4000)(hp:p.length=4) :
  ACalls Tryz.prog noNat 116 [cellR e 7 0,.agg (byts p)] H fun x H'=>∃v τ',x=.tuple [v,.int .i64 0] ∧
   (left≠0→PE m lo τ' H' e z w h left (rowsS m0 rest at_) (atS m0 at_) true (b++(leadB at_++p))∧AppN 1 0 H' v (byts (putF w h left bg)) (putF w h left bg).length∧Blk v fun c=>τ' c=0∧H.next≤c) ∧
   (left=0→∃l,l=(if left+1=w*h then headF w h else [])++idatF (hdB bg++endB8 true (b++(leadB at_++p)))++chunkF kIEND []∧AppN 1 0 H' v (byts l) l.length∧Blk v (H.next≤·))∧H.next≤H'.next∧∀c,c<H.next→τ c=0→τ' c=0∧(c≠z→c≠e→H'.get c=H.get c):=by
 refine acalls_ofN rfl za116 rfl ?_
 have P0:=P
 obtain⟨⟨n0,Kz,Z⟩,⟨rs,R,ro,rb⟩,en,et,ez⟩:=P
 obtain⟨hz,tz,tzn⟩:=Z.lt
 obtain⟨H1,m1,r1,k1,q1⟩:=row_newL H (byts p) (n:=4) (by rw[byts_len,hp])
 have R1:=R.same (q1 e om)
 have l0:oLoad false 1 H1 (cellR e 7 0)=some (.bool true):=row_load R1 rfl rfl
 have l3:oLoad false 1 H1 (cellR e 7 3)=some (.int .i64 ((left+1:Nat):Int)):=row_load R1 rfl rfl
 have lw:oLoad false 1 H1 (cellR e 7 1)=some (.int .i64 (w:Int)):=row_load R1 rfl rfl
 have lh:oLoad false 1 H1 (cellR e 7 2)=some (.int .i64 (h:Int)):=row_load R1 rfl rfl
 have hwh:w*h≤20*20:=Nat.mul_le_mul hw hh
 have wm:IntKind.i64.wrap ((w:Int)*(h:Int))=((w*h:Nat):Int):=by rw[← Int.natCast_mul,wrap64 om om]
 have hl0:¬((left+1:Nat):Int)=0:=om
 have go:∀(T:Env) (H':AHeap) (s:AVal) (a:Bs),T 0=cellR e 7 0→T 3=cellR H.next 4 0→T 6=s→AppN 1 0 H' s (byts a) a.length→Blk s (H.next+1≤·)→Ext H1.next H1 H'→a.length≤500000→a=(if left+1=w*h then headF w h else [])→wp (ACalls Tryz.prog noNat) (restP [1,1,1,1,1] c116.body) (fin [.t 4,.t 5] fun x H'=>∃v τ',x=.tuple [v,.int .i64 0] ∧
   (left≠0→PE m lo τ' H' e z w h left (rowsS m0 rest at_) (atS m0 at_) true (b++(leadB at_++p))∧AppN 1 0 H' v (byts (putF w h left bg)) (putF w h left bg).length∧Blk v fun c=>τ' c=0∧H.next≤c) ∧
   (left=0→∃l,l=(if left+1=w*h then headF w h else [])++idatF (hdB bg++endB8 true (b++(leadB at_++p)))++chunkF kIEND []∧AppN 1 0 H' v (byts l) l.length∧Blk v (H.next≤·))∧H.next≤H'.next∧∀c,c<H.next→τ c=0→τ' c=0∧(c≠z→c≠e→H'.get c=H.get c)) T H':=by
  intro T H' s a t0 t3 t6 A ab E1 hal ha
  have e1n:=E1.next
  have P1:PE m lo τ H' e z w h (left+1) (m0::rest) at_ bg b:=P0.fr hm om fun c hc _=>by rw[E1.old c om,q1 c om]
  have rp:=r1.same (E1.old _ om)
  obtain⟨lv,H5,a5,m5,k5,o5⟩:=Mk.make (z:=.int .u8 0) (bytes:=1) (cap:=5) H' om om
  have a5':aMake 1 [.int .u8 0] H' (.int .i64 0) (.int .i64 5)=some (lv,H5):=a5
  have k7:∀v H6 τ',(left≠0→PE m lo τ' H6 e z w h left (rowsS m0 rest at_) (atS m0 at_) true (b++(leadB at_++p))∧AppN 1 0 H6 v (byts (a++idatF (hdB bg))) (a++idatF (hdB bg)).length∧Blk v fun c=>τ' c=0∧H.next≤c) →
   (left=0→AppN 1 0 H6 v (byts (a++idatF (hdB bg++endB8 true (b++(leadB at_++p)))++chunkF kIEND [])) (a++idatF (hdB bg++endB8 true (b++(leadB at_++p)))++chunkF kIEND []).length∧Blk v (H.next≤·))→H'.next≤H6.next→(∀c,c<H.next→τ c=0→τ' c=0∧(c≠z→c≠e→H6.get c=H'.get c))→∃v_1 τ',AVal.tuple [v,.int .i64 0]=.tuple [v_1,.int .i64 0] ∧
   (left≠0→PE m lo τ' H6 e z w h left (rowsS m0 rest at_) (atS m0 at_) true (b++(leadB at_++p))∧AppN 1 0 H6 v_1 (byts (putF w h left bg)) (putF w h left bg).length∧Blk v_1 fun c=>τ' c=0∧H.next≤c) ∧
   (left=0→∃l,l=(if left+1=w*h then headF w h else [])++idatF (hdB bg++endB8 true (b++(leadB at_++p)))++chunkF kIEND []∧AppN 1 0 H6 v_1 (byts l) l.length∧Blk v_1 (H.next≤·))∧H.next≤H6.next∧∀c,c<H.next→τ c=0→τ' c=0∧(c≠z→c≠e→H6.get c=H.get c):=by
   subst ha
   intro v H6 τ' g1 g2 g3 g4
   refine⟨v,τ',rfl,g1,fun q=>⟨_,rfl,g2 q⟩,om,fun c hc h0=>?_⟩
   obtain⟨a1,a2⟩:=g4 c hc h0
   exact⟨a1,fun h1 h2=>by rw[a2 h1 h2,E1.old c om,q1 c om]⟩
  refine wp_cutP [1,1] ?_
  by_cases h0:at_=0
  ·subst h0
   have lA:oLoad false 1 H5 (cellR e 7 5)=some (.int .i64 0):=row_load (R1.same (by rw[o5 e om,E1.old e om])) rfl rfl
   have bd:=build1 (.int .u8 0) H5 (x:=.int .u8 0) rfl
   obtain⟨lv',H6,a6,m6,k6,o6⟩:=m5.push (x:=.int .u8 0) (by simp) rfl (bytes:=1) om om
   have fr:∀c,c<H'.next→H6.get c=H'.get c:=fun c hc=>by rw[o6 c om om,o5 c hc]
   simp only[c116,restP,sC,sA,sB,seval,a5',t0,nil_cell,fldA,fld0,lA,bd,a6]
   refine put7 (n1:=H.next) (bl:=H'.next) (bp:=H.next) (l:=leadB 0) (P1.fr om om fun c hc _=>fr c hc) om hm0 hat hm en hz om hb dD hp (by simp only[sA,sB,seval,t0]) (by simp only[sA,sB,seval,t3]) (rp.same (fr _ om)) rL tzn (by simp only[sA,sB,seval,t6]) (A.same om (A.blk'.mono fun c hc=>fr c hc)) ((A.blk'.and ab).mono fun c hc=>om) (by simp only[sA,sB,seval]) m6 om om hal fun v H7 τ' g1 g2 g3 g4=>?_
   exact k7 v H7 τ' g1 g2 om fun c hc h0=>⟨(g4 c hc h0).1,fun h1 h2=>by rw[(g4 c hc h0).2 h1 h2,fr c om]⟩
  ·have h0':¬(at_:Int)=0:=om
   have lA:oLoad false 1 H5 (cellR e 7 5)=some (.int .i64 (at_:Int)):=row_load (R1.same (by rw[o5 e om,E1.old e om])) rfl rfl
   have el:leadB at_=[]:=by unfold leadB; rw[if_neg h0]
   simp only[c116,restP,sC,sA,sB,seval,a5',t0,nil_cell,fldA,fld0,lA,h0']
   refine put7 (n1:=H.next) (bl:=H'.next) (bp:=H.next) (l:=leadB at_) (P1.fr om om fun c hc _=>o5 c hc) om hm0 hat hm en hz om hb (by rw[el]; simp) hp (by simp only[sA,sB,seval,t0]) (by simp only[sA,sB,seval,t3]) (rp.same (o5 _ om)) rL tzn (by simp only[sA,sB,seval,t6]) (A.same om (A.blk'.mono fun c hc=>o5 c hc)) ((A.blk'.and ab).mono fun c hc=>om) (by simp only[sA,sB,seval]; try rfl) (by rw[el]; exact m5) om om hal fun v H7 τ' g1 g2 g3 g4=>?_
   exact k7 v H7 τ' g1 g2 om fun c hc h0=>⟨(g4 c hc h0).1,fun h1 h2=>by rw[(g4 c hc h0).2 h1 h2,o5 c om]⟩
 refine wp_cutP [1,1,1,1,1] ?_
 by_cases hf:left+1=w*h
 ·have hf':((left+1:Nat):Int)=((w*h:Nat):Int):=om
  have lf:oLoad false 1 H1 (cellR e 7 3)=some (.int .i64 ((w*h:Nat):Int)):=by rw[l3,hf']
  rw[hf]at hl0
  simp only[c116,sC,sA,sB,seval,eq_ptr_nil,nil_cell,fldA,fld0,cells_agg,m1,l0,lf,lw,lh,wm,hl0]
  refine (head_spec R1 hw hh om).mono ?_
  rintro s2 H2 ⟨A2,b2,E2⟩
  simp only[sA,sB,seval]
  exact go _ H2 s2 (headF w h) (by simp only[sA,sB,seval]) (by simp only[sA,sB,seval]) (by simp only[sA,sB,seval]) A2 (b2.mono fun c hc=>om) E2 (by show 33≤500000; decide) (by rw[if_pos hf])
 ·have hf':¬((left+1:Nat):Int)=((w*h:Nat):Int):=om
  simp only[c116,sC,sA,sB,seval,eq_ptr_nil,nil_cell,fldA,fld0,cells_agg,m1,l0,l3,lw,lh,wm,hl0,hf']
  exact go _ H1 nilS [] (by simp only[sA,sB,seval]) (by simp only[sA,sB,seval]) (by simp only[sA,sB,seval]; try rfl) (AppN.nil _ _ _) (blk_nil _) (Ext.refl _ _) (by simp) (by rw[if_neg hf])
open Go.Abs Go.Abs.S
def newZ(n:Nat):Nat→Nat:=fun c=>if c=n then 2 else if c=n+1 then 3 else if c=n+2 then 1 else 0
theorem newZ_ZW{H0 H:AHeap}(r0:Row H (H0.next+3) (zC false (cellR (H0.next+2) 9 0) 1))(r1:Row H (H0.next+2) (dC 0 (cellR H0.next 3 0) nilS 0 (.map (some (H0.next+1)))))(r2:Row H H0.next [.bool true,nilS,.int .i64 0])(g:H.get (H0.next+1)=some (.map [] 0))(hn:H.next=H0.next+4):ZW (H0.next+3) (newZ H0.next) H (H0.next+3) false [] 0 0 [] 0∧(∀c,c<H0.next→newZ H0.next c=0):=by
 have tz:∀c,H0.next+3≤c→newZ H0.next c=0:=fun c hc=>by unfold newZ; rw[if_neg om,if_neg om,if_neg om]
 have t1:newZ H0.next (H0.next+2)=1:=by unfold newZ; rw[if_neg om,if_neg om,if_pos rfl]
 have ea:adler 1 []=1:=by simp[adler,adlerF]
 refine⟨⟨H0.next+2,H0.next,H0.next+1,nilS,⟨⟨r1,AppN.nil _ _ _,blk_nil _,⟨[],g,fun i e h=>by simp at h,fun i j e f h=>by simp at h,fun k hk=>absurd rfl hk⟩,om,om,om,by rw[t1]; omega,om,fun c hc=>tz c om⟩,⟨nilS,r2,om,Nat.le_refl _,by simp[newZ],fun c hc=>tz c om,AppN.nil _ _ _,blk_nil _,rfl⟩,blk_nil _,t1,by unfold newZ; rw[if_neg om,if_pos rfl],fun c hc=>by unfold newZ; split <;> (try split) <;> (try split) <;> omega,Nat.le_refl _,.inl rfl⟩,by rw[ea]; exact r0,om,tz _ om⟩,fun c hc=>by unfold newZ; rw[if_neg om,if_neg om,if_neg om]⟩
def newI(v e w h left:Nat)(st:AVal)(R:List (Nat×Nat×Nat))(n1 k:Nat)(O:Nat→Prop)(H:AHeap):Prop:=
 ∃s,Row H v [cellR e 7 0]∧Row H e (eC w h left s 0 st)∧AppN 1 0 H s (nats ((R.take k).map fun r=>r.2.2)) ((R.take k).map fun r=>r.2.2).length∧Blk s (n1≤·)∧v<n1∧e<n1∧v≠e∧n1≤H.next∧∀c,O c↔c=v∨c=e∨¬Blk s (·≠c)
theorem take_map{α β:Type}{f:α→β}{R:List α}{k:Nat}{r:α}(h:R[k]?=some r):(R.take (k+1)).map f=(R.take k).map f++[f r]:=by
 rw[List.take_add_one,h]; simp
theorem blk_self(s:AVal):Blk s fun c=>¬Blk s (·≠c):=fun _ _ _ e q=>q _ _ _ e rfl
theorem new_clo{v e w h left n1:Nat}{st:AVal}{R:List (Nat×Nat×Nat)}(hR:R.length≤60)(hR2:∀r∈R,r.2.2≤20):Clo 99 [cellR v 1 0] R (newI v e w h left st R n1):=by
 refine⟨?_,?_,?_⟩
 ·rintro k O H ⟨s,r1,r2,A,b,hv,he,hne,hn,ho⟩ c hc
  rcases (ho c).1 hc with rfl | rfl | hc
  ·omega
  ·omega
  ·exact Classical.byContradiction fun q=>hc (A.blk'.mono fun d hd=>om)
 ·rintro k O H H' ⟨s,r1,r2,A,b,hv,he,hne,hn,ho⟩ hn' ek
  exact⟨s,r1.same (ek _ ((ho _).2 (.inl rfl))),r2.same (ek _ ((ho _).2 (.inr (.inl rfl)))),A.same hn' ((blk_self s).mono fun c hc=>ek c ((ho c).2 (.inr (.inr hc)))),b,hv,he,hne,om,ho⟩
 ·rintro k ⟨f,stp,n⟩ O H hr ⟨s,r1,r2,A,b,hv,he,hne,hn,ho⟩
  have hn20:=hR2 _ (List.mem_of_getElem? hr)
  simp only at hn20
  have hlen:((R.take k).map fun r=>r.2.2).length≤60:=by simp; omega
  refine acalls_ofN rfl za99 rfl ?_
  have lv:oLoad false 1 H (cellR v 1 0)=some (cellR e 7 0):=row_load r1 rfl rfl
  have l4:oLoad false 1 H (cellR e 7 4)=some s:=row_load r2 rfl rfl
  have bd:=build1 (.int .i64 0) H (x:=.int .i64 (n:Int)) rfl
  obtain⟨s',H1,a1,A1,n1',b1,o1⟩:=A.pushB (m:=1) (xs:=[.int .i64 (n:Int)]) rfl rfl om (bytes:=8) om om
  have a1':aAppend 1 8 (H.push (.cells [.int .i64 (n:Int)] 0 false)) s (oneS H)=some (s',H1):=a1
  have o1':∀c,c<n1→H1.get c=H.get c:=fun c hc=>o1 c om (b.mono fun d hd=>om)
  obtain⟨H2,m2,R2,k2,q2⟩:=row_st (r2.same (o1' e he)) (n:=7) rfl (i:=4) om (x:=s') A1.one (l':=eC w h left s' 0 st) rfl
  simp only[List.cons_append,List.nil_append,c99,sA,sB,seval]
  refine aw_drawC rfl ?_
  simp only[sR,sA,sB,seval,lv,nil_cell,fldA,fld0,l4,bd,a1',m2]
  refine⟨?_,?_⟩
  ·simp only[ck_nil',ck_cons,ck_end,ckP_nil,ckP_load]
   have rvP:Row (H.push (.cells [.int .i64 (n:Int)] 0 false)) v [cellR e 7 0]:=r1.same (get_push_lt om)
   have reP:Row (H.push (.cells [.int .i64 (n:Int)] 0 false)) e (eC w h left s 0 st):=r2.same (get_push_lt om)
   have aes:aeq s s=true:=by rcases A with⟨rfl,_⟩ | ⟨_,_,rfl,_⟩; exact aeq_nilS; exact aeq_open _ _ _
   exact⟨⟨⟨_,rfl,fun _=>⟨_,row_load rvP rfl rfl,aeq_cellR _ _ _⟩⟩,⟨_,rfl,fun _=>⟨_,row_load (r1.same (o1' v hv)) rfl rfl,aeq_cellR _ _ _⟩⟩,trivial⟩,⟨⟨_,rfl,fun _=>⟨_,row_load rvP rfl rfl,aeq_cellR _ _ _⟩⟩,trivial⟩,⟨⟨_,rfl,fun _=>⟨_,row_load reP rfl rfl,aes⟩⟩,trivial⟩,trivial⟩
  have bs':=b1 _ b
  refine⟨[],rfl,fun c=>c=v∨c=e∨¬Blk s' (·≠c),⟨s',r1.same (by rw[q2 v hne,o1' v hv]),R2,?_,bs'.mono fun c hc=>om,hv,he,hne,om,fun c=>Iff.rfl⟩,om,fun c hc hO=>?_,fun c hc=>?_⟩
  ·rw[take_map hr,nats_append,lA]
   exact A1.same om (bs'.mono fun c hc=>q2 c om)
  ·have hO':¬(c=v∨c=e∨¬Blk s (·≠c)):=fun q=>hO ((ho c).2 q)
   have h3:Blk s (·≠c):=Classical.byContradiction fun q=>hO' (.inr (.inr q))
   rw[q2 c (fun q=>hO' (.inr (.inl q))),o1 c hc (h3.mono fun d hd=>hd.symm)]
  ·rcases hc with hc | hc | hc
   ·exact .inl ((ho c).2 (.inl hc))
   ·exact .inl ((ho c).2 (.inr (.inl hc)))
   ·by_cases hcn:H.next≤c
    ·exact .inr hcn
    ·exact .inl ((ho c).2 (.inr (.inr fun q=>hc ((b1 _ q).mono fun d hd=>om))))
theorem pnew_spec{w h:Nat}(hw:1≤w)(hw2:w≤20)(hh:1≤h)(hh2:h≤20)(H:AHeap):ACalls Tryz.prog noNat 65 [.int .i64 (w:Int),.int .i64 (h:Int)] H fun x H'=>∃e z m τ,x=.tuple [cellR e 7 0,.int .i64 0]∧PE m H.next τ H' e z w h (w*h) (manyL w h) 0 false []∧m≤H'.next∧H.next≤e∧H.next≤z∧(∀c,c<H.next→τ c=0)∧Ext H.next H H':=by
 have OK:=okP hw hw2 hh hh2
 have hwh:w*h≤20*20:=Nat.mul_le_mul hw2 hh2
 have hm:IntKind.i64.wrap ((w:Int)*(h:Int))=((w*h:Nat):Int):=by rw[← Int.natCast_mul,wrap64 om om]
 refine acalls_ofN rfl za65 rfl ?_
 simp only[c65,sA,sB,seval]
 refine (right_spec hw hw2 hh hh2).mono ?_
 rintro _ _ ⟨rfl,rfl⟩
 simp only[sA,sB,seval,hm]
 refine (znew_spec H).mono ?_
 rintro _ H1 ⟨rfl,r0,r1,r2,g1,n1,E1⟩
 obtain⟨Z0,tz0⟩:=newZ_ZW r0 r1 r2 g1 n1
 have bd:aBuild [.bool false,.int .i64 0,.int .i64 0,.int .i64 0,.slice none 0 (.known 0),.int .i64 0,.ptr none] [(0,1,.bool true),(1,1,.int .i64 (w:Int)),(2,1,.int .i64 (h:Int)),(3,1,.int .i64 ((w*h:Nat):Int)),(6,1,cellR (H.next+3) 5 0)]=some (.agg (eC w h (w*h) nilS 0 (cellR (H.next+3) 5 0))):=_root_.id rfl
 obtain⟨H2,m2,re,k2,q2⟩:=row_newL H1 (eC w h (w*h) nilS 0 (cellR (H.next+3) 5 0)) (n:=7) rfl
 obtain⟨H3,m3,rv,k3,q3⟩:=row_newL H2 [.ptr none] (n:=1) rfl
 obtain⟨H4,m4,rv4,k4,q4⟩:=row_st rv (n:=1) rfl (i:=0) om (x:=cellR H1.next 7 0) rfl (l':=[cellR H1.next 7 0]) rfl
 have e4:∀c,c<H1.next→H4.get c=H1.get c:=fun c hc=>by rw[q4 c om,q3 c om,q2 c om]
 simp only[sA,sB,seval,bd,cells_agg,m2,m3,m4]
 refine (rows_spec (new_clo (v:=H2.next) (e:=H1.next) (w:=w) (h:=h) (left:=w*h) (st:=cellR (H.next+3) 5 0) (n1:=H2.next+1) (R:=rowsL w h) (by have:=OK.few; simpa[manyL] using this) fun r hr=>(OK.many r.2.2 (List.mem_map_of_mem hr)).2) om hw hw2 hh hh2 (O:=fun c=>c=H2.next∨c=H1.next∨¬Blk nilS (·≠c)) (H:=H4) ⟨nilS,rv4,re.same (by rw[q4 _ om,q3 _ om]),AppN.nil _ _ _,blk_nil _,om,om,om,om,fun c=>Iff.rfl⟩).mono ?_
 rintro _ H5 ⟨O,⟨s,s1,s2,A,b,hv,he,hne,hn,ho⟩,n5,f5,-⟩
 have lv:oLoad false 1 H5 (cellR H2.next 1 0)=some (cellR H1.next 7 0):=row_load s1 rfl rfl
 simp only[sA,sB,seval,lv]
 have fr:∀c,c<H1.next→H5.get c=H1.get c:=fun c hc=>by
  rw[f5 c om fun q=>?_,e4 c hc]
  rcases q with q | q | q
  ·omega
  ·omega
  ·exact q (blk_nil _)
 refine⟨H1.next,H.next+3,H5.next,newZ H.next,rfl,⟨⟨_,_,Z0.fr om fun c hc _=>fr c hc⟩,⟨s,s2,?_,?_⟩,om,?_,om⟩,Nat.le_refl _,om,om,tz0,⟨om,fun c hc=>by rw[fr c om,E1.old c hc]⟩⟩
 ·rw[List.take_length]at A
  have:=AppN.op A A.blk'
  exact this
 ·exact b.mono fun c hc=>⟨by unfold newZ; rw[if_neg om,if_neg om,if_neg om],om,om,om⟩
 ·unfold newZ; rw[if_neg om,if_neg om,if_neg om]
end Go.Proofs.Tb
namespace Go.Proofs.Tc
open Go.Abs Go.Abs.S
noncomputable section
def c211:AFn:=⟨26,zq [zo 4 (.mv (zi 0))] (.seq (.block 0 (zq [zm 6 1,zk 7 .lss 6 0,zm 8 7,zg 9 (.mv (.t 0)) 8 true,zg 10 (.mv (.t 1)) 8 true,zg 11 (.bin .add (zi 9223372036854775807) (.t 10)) 8 true,zg 12 (.bin .gtr (.t 9) (.t 11)) 8 true,zo 13 (.pick (.t 8) (.t 12) (.c (.bool false))),zm 5 13] (.cond (.t 5) (zq [zo 4 (.mv (zi 9223372036854775807))] .ret) (zq [zm 15 1,zk 16 .gtr 15 0,zm 17 16,zg 18 (.mv (.t 0)) 17 true,zg 19 (.mv (.t 1)) 17 true,zg 20 (.bin .add (.c (.int .i64 (.negSucc 9223372036854775807))) (.t 19)) 17 true,zg 21 (.bin .lss (.t 18) (.t 20)) 17 true,zo 22 (.pick (.t 17) (.t 21) (.c (.bool false))),zm 14 22] (.cond (.t 14) (zq [zo 4 (.mv (.c (.int .i64 (.negSucc 9223372036854775807))))] .ret) .skip))))) (zq [zm 23 0,zm 24 1,zb 25 .sub 23 24,zm 4 25] .ret)),[.t 4]⟩
theorem za211:cN Tryz.prog 211=some c211:=by kernel_rfl
def c205:AFn:=⟨26,zq [zo 4 (.mv (zi 0))] (.seq (.block 0 (zq [zm 6 1,zk 7 .gtr 6 0,zm 8 7,zg 9 (.mv (.t 0)) 8 true,zg 10 (.mv (.t 1)) 8 true,zg 11 (.bin .sub (zi 9223372036854775807) (.t 10)) 8 true,zg 12 (.bin .gtr (.t 9) (.t 11)) 8 true,zo 13 (.pick (.t 8) (.t 12) (.c (.bool false))),zm 5 13] (.cond (.t 5) (zq [zo 4 (.mv (zi 9223372036854775807))] .ret) (zq [zm 15 1,zk 16 .lss 15 0,zm 17 16,zg 18 (.mv (.t 0)) 17 true,zg 19 (.mv (.t 1)) 17 true,zg 20 (.bin .sub (.c (.int .i64 (.negSucc 9223372036854775807))) (.t 19)) 17 true,zg 21 (.bin .lss (.t 18) (.t 20)) 17 true,zo 22 (.pick (.t 17) (.t 21) (.c (.bool false))),zm 14 22] (.cond (.t 14) (zq [zo 4 (.mv (.c (.int .i64 (.negSucc 9223372036854775807))))] .ret) .skip))))) (zq [zm 23 0,zm 24 1,zb 25 .add 23 24,zm 4 25] .ret)),[.t 4]⟩
theorem za205:cN Tryz.prog 205=some c205:=by kernel_rfl
def c342:AFn:=⟨25,zq [zo 2 (.mv (zi 0))] (zr [zm 3 0,zo 4 (.bin .geq (.t 3) (.c (.int .u64 (.ofNat 4294967296))))] 4 (zq [zm 5 0,zo 6 (.bin .shr (.t 5) (.c (.int .u64 (.ofNat 32)))),zm 0 6] (.reg [zo 2 (.mv (zi 32))])) .skip (zr [zm 7 0,zo 8 (.bin .geq (.t 7) (.c (.int .u64 (.ofNat 65536))))] 8 (zq [zm 9 0,zo 10 (.bin .shr (.t 9) (.c (.int .u64 (.ofNat 16)))),zm 0 10] (.reg [zm 11 2,zk 12 .add 11 16,zm 2 12])) .skip (zr [zm 13 0,zo 14 (.bin .geq (.t 13) (.c (.int .u64 (.ofNat 256))))] 14 (zq [zm 15 0,zo 16 (.bin .shr (.t 15) (.c (.int .u64 (.ofNat 8)))),zm 0 16] (.reg [zm 17 2,zk 18 .add 17 8,zm 2 18])) .skip (zq [zm 19 2,zm 20 0,zv 21 .u8 20,zo 22 (.idxS (.c (.str [0,1,2,2,3,3,3,3,4,4,4,4,4,4,4,4,5,5,5,5,5,5,5,5,5,5,5,5,5,5,5,5,6,6,6,6,6,6,6,6,6,6,6,6,6,6,6,6,6,6,6,6,6,6,6,6,6,6,6,6,6,6,6,6,7,7,7,7,7,7,7,7,7,7,7,7,7,7,7,7,7,7,7,7,7,7,7,7,7,7,7,7,7,7,7,7,7,7,7,7,7,7,7,7,7,7,7,7,7,7,7,7,7,7,7,7,7,7,7,7,7,7,7,7,7,7,7,7,8,8,8,8,8,8,8,8,8,8,8,8,8,8,8,8,8,8,8,8,8,8,8,8,8,8,8,8,8,8,8,8,8,8,8,8,8,8,8,8,8,8,8,8,8,8,8,8,8,8,8,8,8,8,8,8,8,8,8,8,8,8,8,8,8,8,8,8,8,8,8,8,8,8,8,8,8,8,8,8,8,8,8,8,8,8,8,8,8,8,8,8,8,8,8,8,8,8,8,8,8,8,8,8,8,8,8,8,8,8,8,8,8,8,8,8,8,8,8,8,8,8,8,8,8,8,8,8])) (.t 21)),zv 23 .i64 22,zb 24 .add 19 23,zm 2 24] .ret)))),[.t 2]⟩
theorem za342:cN Tryz.prog 342=some c342:=by kernel_rfl
def c250:AFn:=⟨17,zq [zo 8 (.mv (zi 0))] (zq [zm 9 0,zm 10 1,zm 11 2,zm 12 3,zo 13 (.buildSl 3 [zI 0] [(0,1,.t 10),(1,1,.t 11),(2,1,.t 12)]),zx 14 295 [.t 9,.t 13],zo 15 (.bin .shr (.t 14) (.c (.int .u64 (.ofNat 32)))),zv 16 .i64 15,zm 8 16] .ret),[.t 8]⟩
theorem za250:cN Tryz.prog 250=some c250:=by kernel_rfl
def c295:AFn:=⟨25,zq [zo 4 (.mv (.c (.int .u64 (.ofNat 0))))] (zq [zm 8 0,zo 9 (.bin .add (.t 8) (.c (.int .u64 (.ofNat 11400714819323198485)))),zx 10 332 [.t 9],zm 5 10] (.seq (zq [zm 11 1,zh 12 11,zo 13 (.mv (zi 0))] (.block 0 (.loop (zq [zb 14 .lss 13 12] (.seq (.cond (.t 14) .skip (.exit 0)) (.seq (.block 1 (zq [zd 15 11 13,zl 16 15,zm 7 16] (.reg [zm 17 5,zm 18 7,zv 19 .u64 18,zb 20 .add 17 19,zo 21 (.bin .add (.t 20) (.c (.int .u64 (.ofNat 11400714819323198485)))),zx 22 332 [.t 21],zm 5 22]))) (.reg [zk 23 .add 13 1,zm 13 23]))))))) (zq [zm 24 5,zm 4 24] .ret))),[.t 4]⟩
theorem za295:cN Tryz.prog 295=some c295:=by kernel_rfl
def c332:AFn:=⟨17,zq [zo 2 (.mv (.c (.int .u64 (.ofNat 0))))] (zq [zm 3 0,zm 4 0,zo 5 (.bin .shr (.t 4) (.c (.int .u64 (.ofNat 30)))),zb 6 .xor 3 5,zo 7 (.bin .mul (.t 6) (.c (.int .u64 (.ofNat 13787848793156543929)))),zm 0 7] (zq [zm 8 0,zm 9 0,zo 10 (.bin .shr (.t 9) (.c (.int .u64 (.ofNat 27)))),zb 11 .xor 8 10,zo 12 (.bin .mul (.t 11) (.c (.int .u64 (.ofNat 10723151780598845931)))),zm 0 12] (zq [zm 13 0,zm 14 0,zo 15 (.bin .shr (.t 14) (.c (.int .u64 (.ofNat 31)))),zb 16 .xor 13 15,zm 2 16] .ret))),[.t 2]⟩
theorem za332:cN Tryz.prog 332=some c332:=by kernel_rfl
def c201:AFn:=⟨11,zq [zo 2 (.mv (zi 0))] (.seq (.block 0 (zq [zm 4 0,zk 5 .gtr 4 2147483647,zm 3 5] (.cond (.t 3) (zq [zo 2 (.mv (zi 9223372036854775807))] .ret) (zq [zm 7 0,zo 8 (.bin .lss (.t 7) (.c (.int .i64 (.negSucc 2147483647)))),zm 6 8] (.cond (.t 6) (zq [zo 2 (.mv (.c (.int .i64 (.negSucc 9223372036854775807))))] .ret) .skip))))) (zq [zm 9 0,zo 10 (.bin .shl (.t 9) (.c (.int .u64 (.ofNat 32)))),zm 2 10] .ret)),[.t 2]⟩
theorem za201:cN Tryz.prog 201=some c201:=by kernel_rfl
def c190:AFn:=⟨8,zq [zo 2 (.box (.t 0)),zo 3 (.box (.t 1)),zo 4 (.new [zI 0,zI 0,zI 0])] (zq [zt 5 3 2,zt 6 3 3,zx 7 195 [.t 5,.t 6,.f 211],zp (.store 3 (.t 4) (.t 7))] .ret),[.cell true 3 4]⟩
theorem za190:cN Tryz.prog 190=some c190:=by kernel_rfl
def c195:AFn:=⟨26,zq [zo 3 (.box (.t 0)),zo 4 (.box (.t 1)),zo 6 (.new [zI 0,zI 0,zI 0])] (.seq (.draw [zm 7 2,zf 8 0 3,zl 9 8,zf 10 0 4,zl 11 10,zo 12 (.callv (.t 7) [.t 9,.t 11]),zm 13 2,zf 14 1 3,zl 15 14,zf 16 1 4,zl 17 16,zo 18 (.callv (.t 13) [.t 15,.t 17]),zm 19 2,zf 20 2 3,zl 21 20,zf 22 2 4,zl 23 22,zo 24 (.callv (.t 19) [.t 21,.t 23]),zo 25 (.build [zI 0,zI 0,zI 0] [(0,1,.t 12),(1,1,.t 18),(2,1,.t 24)]),zp (.store 3 (.t 6) (.t 25))] [[],[],[],[],[],[],[],[],[5],[],[5],[],[],[],[5,11],[],[5,11],[],[],[]]) .ret),[.cell true 3 6]⟩
theorem za195:cN Tryz.prog 195=some c195:=by kernel_rfl
def c188:AFn:=⟨13,zq [zo 1 (.box (.t 0)),zo 2 (.new [zI 0,zI 0,zI 0])] (zq [zt 4 3 1,zx 5 254 [.t 4],zo 3 (.new [zI 0]),zs 3 5] (zr [zl 6 3,zk 7 .eql 6 0] 7 (zq [zo 8 (.build [zI 0,zI 0,zI 0] []),zp (.store 3 (.t 2) (.t 8))] .ret) .skip (zq [zt 9 3 1,zt 10 3 1,zo 11 (.mkFunc (.func 255) [] [.t 3]),zx 12 195 [.t 9,.t 10,.t 11],zp (.store 3 (.t 2) (.t 12))] .ret))),[.cell true 3 2]⟩
theorem za188:cN Tryz.prog 188=some c188:=by kernel_rfl
def c254:AFn:=⟨7,zq [zo 1 (.box (.t 0)),zo 2 (.mv (zi 0))] (zq [zt 3 3 1,zt 4 3 1,zx 5 192 [.t 3,.t 4],zx 6 266 [.t 5],zm 2 6] .ret),[.t 2]⟩
theorem za254:cN Tryz.prog 254=some c254:=by kernel_rfl
def c192:AFn:=⟨17,zq [zo 2 (.box (.t 0)),zo 3 (.box (.t 1)),zo 4 (.mv (zi 0))] (zq [zt 6 3 2,zt 7 3 3,zx 8 126 [.t 6,.t 7],zo 5 (.new [zI 0,zI 0,zI 0]),zp (.store 3 (.t 5) (.t 8))] (.seq (.draw [zf 9 0 5,zl 10 9,zf 11 1 5,zl 12 11,zx 13 205 [.t 10,.t 12],zf 14 2 5,zl 15 14,zx 16 205 [.t 13,.t 15],zm 4 16] [[],[],[],[],[],[],[4],[],[]]) .ret)),[.t 4]⟩
theorem za192:cN Tryz.prog 192=some c192:=by kernel_rfl
def c126:AFn:=⟨8,zq [zo 2 (.box (.t 0)),zo 3 (.box (.t 1)),zo 4 (.new [zI 0,zI 0,zI 0])] (zq [zt 5 3 2,zt 6 3 3,zx 7 195 [.t 5,.t 6,.f 196],zp (.store 3 (.t 4) (.t 7))] .ret),[.cell true 3 4]⟩
theorem za126:cN Tryz.prog 126=some c126:=by kernel_rfl
def c196:AFn:=⟨31,zq [zo 4 (.mv (zi 0))] (zq [zm 8 0,zm 9 1,zx 10 261 [.t 8,.t 9],zm 5 10] (zq [zm 12 0,zx 13 263 [.t 12],zm 14 1,zx 15 263 [.t 14],zx 16 262 [.t 13,.t 15],zm 11 16,ze 17 0 11,ze 18 1 11,zm 6 17,zm 7 18] (zq [zm 19 5,zm 20 6,zo 21 (.bin .shr (.t 20) (.c (.int .u64 (.ofNat 32)))),zm 22 6,zo 23 (.bin .shl (.t 22) (.c (.int .u64 (.ofNat 32)))),zm 24 7,zo 25 (.bin .shr (.t 24) (.c (.int .u64 (.ofNat 32)))),zb 26 .or 23 25,zm 27 7,zo 28 (.bin .shl (.t 27) (.c (.int .u64 (.ofNat 32)))),zo 29 (.bin .neq (.t 28) (.c (.int .u64 (.ofNat 0)))),zo 30 (.callv (.t 19) [.t 21,.t 26,.t 29]),zm 4 30] .ret))),[.t 4]⟩
theorem za196:cN Tryz.prog 196=some c196:=by kernel_rfl
def c261:AFn:=⟨10,zq [zo 4 (.mv (.c .nilFunc))] (zr [zm 5 0,zk 6 .lss 5 0,zm 7 1,zk 8 .lss 7 0,zo 9 (.pf (.eqv false .bool) [.t 6,.t 8])] 9 (zq [zo 4 (.mv (.f 305))] .ret) .skip (zq [zo 4 (.mv (.f 306))] .ret)),[.t 4]⟩
theorem za261:cN Tryz.prog 261=some c261:=by kernel_rfl
def c305:AFn:=⟨15,zq [zo 6 (.mv (zi 0))] (zr [zm 7 0,zo 8 (.bin .neq (.t 7) (.c (.int .u64 (.ofNat 0)))),zm 9 8,zg 10 (.mv (.t 1)) 9 false,zg 11 (.bin .gtr (.t 10) (.c (.int .u64 (.ofNat 9223372036854775807)))) 9 false,zo 12 (.pick (.t 9) (.c (.bool true)) (.t 11))] 12 (zq [zo 6 (.mv (zi 9223372036854775807))] .ret) .skip (zq [zm 13 1,zv 14 .i64 13,zm 6 14] .ret)),[.t 6]⟩
theorem za305:cN Tryz.prog 305=some c305:=by kernel_rfl
def c306:AFn:=⟨21,zq [zo 6 (.mv (zi 0))] (zr [zm 8 0,zo 9 (.bin .neq (.t 8) (.c (.int .u64 (.ofNat 0)))),zm 10 9,zg 11 (.mv (.t 1)) 10 false,zg 12 (.bin .gtr (.t 11) (.c (.int .u64 (.ofNat 9223372036854775807)))) 10 false,zo 13 (.pick (.t 10) (.c (.bool true)) (.t 12))] 13 (zq [zo 6 (.mv (.c (.int .i64 (.negSucc 9223372036854775807))))] .ret) .skip (zq [zm 14 1,zv 15 .i64 14,zo 16 (.un .neg (.t 15)),zm 7 16] (zr [zm 17 2] 17 (.reg [zm 18 7,zk 19 .sub 18 1,zm 7 19]) .skip (zq [zm 20 7,zm 6 20] .ret)))),[.t 6]⟩
theorem za306:cN Tryz.prog 306=some c306:=by kernel_rfl
def c263:AFn:=⟨10,zq [zo 2 (.mv (.c (.int .u64 (.ofNat 0))))] (zr [zm 3 0,zk 4 .lss 3 0] 4 (zq [zm 5 0,zv 6 .u64 5,zo 7 (.un .neg (.t 6)),zm 2 7] .ret) .skip (zq [zm 8 0,zv 9 .u64 8,zm 2 9] .ret)),[.t 2]⟩
theorem za263:cN Tryz.prog 263=some c263:=by kernel_rfl
def c262:AFn:=⟨51,zq [zo 4 (.mv (.c (.int .u64 (.ofNat 0)))),zo 5 (.mv (.c (.int .u64 (.ofNat 0))))] (zq [zm 14 0,zo 15 (.bin .and (.t 14) (.c (.int .u64 (.ofNat 4294967295)))),zm 6 15] (zq [zm 16 0,zo 17 (.bin .shr (.t 16) (.c (.int .u64 (.ofNat 32)))),zm 7 17] (zq [zm 18 1,zo 19 (.bin .and (.t 18) (.c (.int .u64 (.ofNat 4294967295)))),zm 8 19] (zq [zm 20 1,zo 21 (.bin .shr (.t 20) (.c (.int .u64 (.ofNat 32)))),zm 9 21] (zq [zm 22 6,zm 23 8,zb 24 .mul 22 23,zm 10 24] (zq [zm 25 7,zm 26 8,zb 27 .mul 25 26,zm 28 10,zo 29 (.bin .shr (.t 28) (.c (.int .u64 (.ofNat 32)))),zb 30 .add 27 29,zm 11 30] (zq [zm 31 11,zo 32 (.bin .and (.t 31) (.c (.int .u64 (.ofNat 4294967295)))),zm 12 32] (zq [zm 33 11,zo 34 (.bin .shr (.t 33) (.c (.int .u64 (.ofNat 32)))),zm 13 34] (zq [zm 35 12,zm 36 6,zm 37 9,zb 38 .mul 36 37,zb 39 .add 35 38,zm 12 39] (zq [zm 40 7,zm 41 9,zb 42 .mul 40 41,zm 43 13,zb 44 .add 42 43,zm 45 12,zo 46 (.bin .shr (.t 45) (.c (.int .u64 (.ofNat 32)))),zb 47 .add 44 46,zm 4 47] (zq [zm 48 0,zm 49 1,zb 50 .mul 48 49,zm 5 50] .ret))))))))))),[.t 4,.t 5]⟩
theorem za262:cN Tryz.prog 262=some c262:=by kernel_rfl
def c266:AFn:=⟨47,zq [zo 2 (.mv (zi 0))] (zr [zm 10 0,zk 11 .lss 10 1] 11 (zq [zo 2 (.mv (zi 0))] .ret) .skip (zq [zm 12 0,zv 13 .u64 12,zo 14 (.bin .shr (.t 13) (.c (.int .u64 (.ofNat 32)))),zm 15 0,zv 16 .u64 15,zo 17 (.bin .shl (.t 16) (.c (.int .u64 (.ofNat 32)))),zm 3 14,zm 4 17] (zq [zo 5 (.mv (.c (.int .u64 (.ofNat 0))))] (.seq (zq [zo 6 (.mv (.c (.int .u64 (.ofNat 140737488355328))))] (.block 0 (.loop (zr [zm 18 6,zo 19 (.bin .gtr (.t 18) (.c (.int .u64 (.ofNat 0))))] 19 .skip (.exit 0) (.seq (.block 1 (zq [zm 22 5,zm 23 6,zb 24 .or 22 23,zm 7 24] (zq [zm 26 7,zm 27 7,zx 28 262 [.t 26,.t 27],zm 25 28,ze 29 0 25,ze 30 1 25,zm 8 29,zm 9 30] (zq [zm 31 8,zm 32 3,zb 33 .lss 31 32,zm 34 33,zg 35 (.mv (.t 8)) 34 false,zg 36 (.mv (.t 3)) 34 false,zg 37 (.bin .eql (.t 35) (.t 36)) 34 false,zg 38 (.mv (.t 37)) 34 false,zg 39 (.mv (.t 9)) 38 true,zg 40 (.mv (.t 4)) 38 true,zg 41 (.bin .leq (.t 39) (.t 40)) 38 true,zg 42 (.pick (.t 38) (.t 41) (.c (.bool false))) 34 false,zo 43 (.pick (.t 34) (.c (.bool true)) (.t 42))] (.cond (.t 43) (.reg [zm 44 7,zm 5 44]) .skip))))) (.reg [zm 20 6,zo 21 (.bin .shr (.t 20) (.c (.int .u64 (.ofNat 1)))),zm 6 21])))))) (zq [zm 45 5,zv 46 .i64 45,zm 2 46] .ret))))),[.t 2]⟩
theorem za266:cN Tryz.prog 266=some c266:=by kernel_rfl
def c255:AFn:=⟨9,zq [zo 5 (.mv (zi 0))] (zq [zm 6 0,zl 7 2,zx 8 199 [.t 6,.t 7],zm 5 8] .ret),[.t 5]⟩
theorem za255:cN Tryz.prog 255=some c255:=by kernel_rfl
def c199:AFn:=⟨46,zq [zo 4 (.mv (zi 0))] (zr [zm 11 1,zk 12 .eql 11 0] 12 (.seq (.block 0 (zq [zm 14 0,zk 15 .gtr 14 0,zm 13 15] (.cond (.t 13) (zq [zo 4 (.mv (zi 9223372036854775807))] .ret) (zq [zm 17 0,zk 18 .lss 17 0,zm 16 18] (.cond (.t 16) (zq [zo 4 (.mv (.c (.int .i64 (.negSucc 9223372036854775807))))] .ret) .skip))))) (zq [zo 4 (.mv (zi 0))] .ret)) .skip (zq [zm 19 0,zm 20 1,zx 21 261 [.t 19,.t 20],zm 5 21] (zq [zm 22 0,zx 23 263 [.t 22],zm 24 1,zx 25 263 [.t 24],zm 6 23,zm 7 25] (zq [zm 26 6,zo 27 (.bin .shr (.t 26) (.c (.int .u64 (.ofNat 32)))),zm 8 27] (zq [zm 29 8,zm 30 7,zb 31 .rem 29 30,zm 32 6,zo 33 (.bin .shl (.t 32) (.c (.int .u64 (.ofNat 32)))),zm 34 7,zx 35 264 [.t 31,.t 33,.t 34],zm 28 35,ze 36 0 28,ze 37 1 28,zm 9 36,zm 10 37] (zq [zm 38 5,zm 39 8,zm 40 7,zb 41 .quo 39 40,zm 42 9,zm 43 10,zo 44 (.bin .neq (.t 43) (.c (.int .u64 (.ofNat 0)))),zo 45 (.callv (.t 38) [.t 41,.t 42,.t 44]),zm 4 45] .ret)))))),[.t 4]⟩
theorem za199:cN Tryz.prog 199=some c199:=by kernel_rfl
def c264:AFn:=⟨135,zq [zo 6 (.mv (.c (.int .u64 (.ofNat 0)))),zo 7 (.mv (.c (.int .u64 (.ofNat 0))))] (zr [zm 19 2,zo 20 (.bin .eql (.t 19) (.c (.int .u64 (.ofNat 0))))] 20 (.reg [zo 21 .bad,zp .bad]) .skip (zr [zm 22 2,zm 23 0,zb 24 .leq 22 23] 24 (.reg [zo 25 .bad,zp .bad]) .skip (zr [zm 26 0,zo 27 (.bin .eql (.t 26) (.c (.int .u64 (.ofNat 0))))] 27 (zq [zm 28 1,zm 29 2,zb 30 .quo 28 29,zm 31 1,zm 32 2,zb 33 .rem 31 32,zm 6 30,zm 7 33] .ret) .skip (zq [zm 34 2,zx 35 307 [.t 34],zv 36 .u64 35,zm 8 36] (zq [zm 37 2,zm 38 8,zb 39 .shl 37 38,zm 2 39] (zq [zm 40 2,zo 41 (.bin .shr (.t 40) (.c (.int .u64 (.ofNat 32)))),zm 9 41] (zq [zm 42 2,zo 43 (.bin .and (.t 42) (.c (.int .u64 (.ofNat 4294967295)))),zm 10 43] (zq [zm 44 0,zm 45 8,zb 46 .shl 44 45,zm 47 1,zm 48 8,zo 49 (.bin .sub (.c (.int .u64 (.ofNat 64))) (.t 48)),zb 50 .shr 47 49,zb 51 .or 46 50,zm 11 51] (zq [zm 52 1,zm 53 8,zb 54 .shl 52 53,zm 12 54] (zq [zm 55 12,zo 56 (.bin .shr (.t 55) (.c (.int .u64 (.ofNat 32)))),zm 13 56] (zq [zm 57 12,zo 58 (.bin .and (.t 57) (.c (.int .u64 (.ofNat 4294967295)))),zm 14 58] (zq [zm 59 11,zm 60 9,zb 61 .quo 59 60,zm 15 61] (zq [zm 62 11,zm 63 15,zm 64 9,zb 65 .mul 63 64,zb 66 .sub 62 65,zm 16 66] (.seq (.block 0 (.loop (zr [zm 67 15,zo 68 (.bin .geq (.t 67) (.c (.int .u64 (.ofNat 4294967296)))),zm 69 68,zg 70 (.mv (.t 15)) 69 false,zg 71 (.mv (.t 10)) 69 false,zg 72 (.bin .mul (.t 70) (.t 71)) 69 false,zg 73 (.mv (.t 16)) 69 false,zg 74 (.bin .mul (.c (.int .u64 (.ofNat 4294967296))) (.t 73)) 69 false,zg 75 (.mv (.t 13)) 69 false,zg 76 (.bin .add (.t 74) (.t 75)) 69 false,zg 77 (.bin .gtr (.t 72) (.t 76)) 69 false,zo 78 (.pick (.t 69) (.c (.bool true)) (.t 77))] 78 .skip (.exit 0) (.block 1 (zq [zm 79 15,zo 80 (.bin .sub (.t 79) (.c (.int .u64 (.ofNat 1)))),zm 15 80] (zq [zm 81 16,zm 82 9,zb 83 .add 81 82,zm 16 83] (zq [zm 84 16,zo 85 (.bin .geq (.t 84) (.c (.int .u64 (.ofNat 4294967296))))] (.cond (.t 85) (.exit 0) .skip)))))))) (zq [zm 86 11,zo 87 (.bin .mul (.t 86) (.c (.int .u64 (.ofNat 4294967296)))),zm 88 13,zb 89 .add 87 88,zm 90 15,zm 91 2,zb 92 .mul 90 91,zb 93 .sub 89 92,zm 17 93] (zq [zm 94 17,zm 95 9,zb 96 .quo 94 95,zm 18 96] (zq [zm 97 17,zm 98 18,zm 99 9,zb 100 .mul 98 99,zb 101 .sub 97 100,zm 16 101] (.seq (.block 2 (.loop (zr [zm 102 18,zo 103 (.bin .geq (.t 102) (.c (.int .u64 (.ofNat 4294967296)))),zm 104 103,zg 105 (.mv (.t 18)) 104 false,zg 106 (.mv (.t 10)) 104 false,zg 107 (.bin .mul (.t 105) (.t 106)) 104 false,zg 108 (.mv (.t 16)) 104 false,zg 109 (.bin .mul (.c (.int .u64 (.ofNat 4294967296))) (.t 108)) 104 false,zg 110 (.mv (.t 14)) 104 false,zg 111 (.bin .add (.t 109) (.t 110)) 104 false,zg 112 (.bin .gtr (.t 107) (.t 111)) 104 false,zo 113 (.pick (.t 104) (.c (.bool true)) (.t 112))] 113 .skip (.exit 2) (.block 3 (zq [zm 114 18,zo 115 (.bin .sub (.t 114) (.c (.int .u64 (.ofNat 1)))),zm 18 115] (zq [zm 116 16,zm 117 9,zb 118 .add 116 117,zm 16 118] (zq [zm 119 16,zo 120 (.bin .geq (.t 119) (.c (.int .u64 (.ofNat 4294967296))))] (.cond (.t 120) (.exit 2) .skip)))))))) (zq [zm 121 15,zo 122 (.bin .mul (.t 121) (.c (.int .u64 (.ofNat 4294967296)))),zm 123 18,zb 124 .add 122 123,zm 125 17,zo 126 (.bin .mul (.t 125) (.c (.int .u64 (.ofNat 4294967296)))),zm 127 14,zb 128 .add 126 127,zm 129 18,zm 130 2,zb 131 .mul 129 130,zb 132 .sub 128 131,zm 133 8,zb 134 .shr 132 133,zm 6 124,zm 7 134] .ret))))))))))))))))))),[.t 6,.t 7]⟩
theorem za264:cN Tryz.prog 264=some c264:=by kernel_rfl
def c307:AFn:=⟨6,zq [zo 2 (.mv (zi 0))] (zq [zm 3 0,zx 4 342 [.t 3],zo 5 (.bin .sub (zi 64) (.t 4)),zm 2 5] .ret),[.t 2]⟩
theorem za307:cN Tryz.prog 307=some c307:=by kernel_rfl
def c189:AFn:=⟨39,zq [zo 2 (.box (.t 0)),zo 3 (.box (.t 1)),zo 4 (.new [zI 0,zI 0,zI 0])] (.seq (.draw [zf 5 1 2,zl 6 5,zf 7 2 3,zl 8 7,zx 9 196 [.t 6,.t 8],zf 10 2 2,zl 11 10,zf 12 1 3,zl 13 12,zx 14 196 [.t 11,.t 13],zx 15 211 [.t 9,.t 14],zf 16 2 2,zl 17 16,zf 18 0 3,zl 19 18,zx 20 196 [.t 17,.t 19],zf 21 0 2,zl 22 21,zf 23 2 3,zl 24 23,zx 25 196 [.t 22,.t 24],zx 26 211 [.t 20,.t 25],zf 27 0 2,zl 28 27,zf 29 1 3,zl 30 29,zx 31 196 [.t 28,.t 30],zf 32 1 2,zl 33 32,zf 34 0 3,zl 35 34,zx 36 196 [.t 33,.t 35],zx 37 211 [.t 31,.t 36],zo 38 (.build [zI 0,zI 0,zI 0] [(0,1,.t 15),(1,1,.t 26),(2,1,.t 37)]),zp (.store 3 (.t 4) (.t 38))] [[],[],[],[],[],[],[4],[],[4],[],[],[],[4,9,10],[],[4,9,10],[],[],[4,9,10,15],[],[4,9,10,15],[],[],[],[4,9,10,15,20,21],[],[4,9,10,15,20,21],[],[],[4,9,10,15,20,21,26],[],[4,9,10,15,20,21,26],[],[],[],[]]) .ret),[.cell true 3 4]⟩
theorem za189:cN Tryz.prog 189=some c189:=by kernel_rfl
def c191:AFn:=⟨9,zq [zo 2 (.box (.t 0)),zo 3 (.box (.t 1)),zo 4 (.new [zI 0,zI 0,zI 0])] (zq [zt 5 3 2,zt 6 3 2,zo 7 (.mkFunc (.func 256) [] [.t 3]),zx 8 195 [.t 5,.t 6,.t 7],zp (.store 3 (.t 4) (.t 8))] .ret),[.cell true 3 4]⟩
theorem za191:cN Tryz.prog 191=some c191:=by kernel_rfl
def c256:AFn:=⟨9,zq [zo 5 (.mv (zi 0))] (zq [zm 6 0,zl 7 2,zx 8 196 [.t 6,.t 7],zm 5 8] .ret),[.t 5]⟩
theorem za256:cN Tryz.prog 256=some c256:=by kernel_rfl
def c186:AFn:=⟨8,zq [zo 2 (.box (.t 0)),zo 3 (.box (.t 1)),zo 4 (.new [zI 0,zI 0,zI 0])] (zq [zt 5 3 2,zt 6 3 3,zx 7 195 [.t 5,.t 6,.f 205],zp (.store 3 (.t 4) (.t 7))] .ret),[.cell true 3 4]⟩
theorem za186:cN Tryz.prog 186=some c186:=by kernel_rfl
def c258:AFn:=⟨7,zq [zo 2 (.mv (zi 0))] (zr [zm 3 0,zo 4 (.bin .eql (.t 3) (.c (.int .i64 (.negSucc 9223372036854775807))))] 4 (zq [zo 2 (.mv (zi 9223372036854775807))] .ret) .skip (zq [zm 5 0,zo 6 (.un .neg (.t 5)),zm 2 6] .ret)),[.t 2]⟩
theorem za258:cN Tryz.prog 258=some c258:=by kernel_rfl
def c193:AFn:=⟨6,zq [zo 1 (.box (.t 0)),zo 2 (.new [zI 0,zI 0,zI 0])] (zq [zt 3 3 1,zt 4 3 1,zx 5 195 [.t 3,.t 4,.f 257],zp (.store 3 (.t 2) (.t 5))] .ret),[.cell true 3 2]⟩
theorem za193:cN Tryz.prog 193=some c193:=by kernel_rfl
def c257:AFn:=⟨7,zq [zo 4 (.mv (zi 0))] (zq [zm 5 0,zx 6 258 [.t 5],zm 4 6] .ret),[.t 4]⟩
theorem za257:cN Tryz.prog 257=some c257:=by kernel_rfl
def c204:AFn:=⟨5,zq [zo 2 (.mv (zi 0))] (zq [zm 3 0,zo 4 (.bin .shr (.t 3) (.c (.int .u64 (.ofNat 32)))),zm 2 4] .ret),[.t 2]⟩
theorem za204:cN Tryz.prog 204=some c204:=by kernel_rfl
end
open Go.Abs Go.Abs.S
noncomputable section
def c36:AFn:=⟨159,zq [zo 4 (.box (.t 0)),zo 8 (.mv (.c (.ptr none))),zo 9 (.mv (zi 0)),zo 10 (.mv (zi 0))] (.seq (zq [zt 27 21 4,zm 28 1,zm 29 2,zm 30 3,zx 31 57 [.t 27,.t 28,.t 29,.t 30],zm 11 31] (zq [zm 32 11,zk 33 .neq 32 0] (.cond (.t 33) (zq [zm 34 11,zo 8 (.mv (.c (.ptr none))),zo 9 (.mv (zi 0)),zm 10 34] .ret) .skip))) (zq [zt 35 21 4,zx 36 58 [.t 35],zo 37 (.build [.ptr none,zI 0,zI 0,zI 0,zI 0,.int .u64 (.ofNat 0),zI 0,zI 0,zI 0,zI 0,zI 0,zI 0,zI 0,zI 0,zI 0,zI 0,zI 0,zI 0,zI 0,zN,zN,zN,zN,zN,zN] [(1,21,.t 36)]),zo 38 (.box (.t 37)),zm 12 38] (zq [zm 39 12,zm 40 12,zc 41 39,zf 42 0 41,zs 42 40] (zq [zo 13 (.mv (zi 0))] (.seq (zq [zm 43 1,zh 44 43,zo 45 (.mv (zi 0))] (.block 0 (.loop (zq [zb 46 .lss 45 44] (.seq (.cond (.t 46) .skip (.exit 0)) (.seq (.block 1 (zq [zm 47 45,zo 48 (.idxA 3 (.t 43) (.t 45)),zt 49 3 48,zo 15 (.new [zN,zN,zN]),zm 14 47,zp (.store 3 (.t 15) (.t 49))] (zq [zm 50 12,zc 51 50,zf 52 1 51,zf 53 20 52,zl 54 53,zm 55 14,zo 56 (.idxA 5 (.t 54) (.t 55)),zt 57 5 56,zo 16 (.new [.str [],zI 0,zI 0,zI 0,zI 0]),zp (.store 5 (.t 16) (.t 57))] (zq [zm 59 12,zt 60 3 15,zf 61 1 16,zt 62 3 61,zo 63 (.mkFunc (.func 60) [] [.t 16]),zx 64 59 [.t 59,.t 60,.t 62,.t 63],zm 58 64,ze 65 0 58,ze 66 1 58,zm 17 65,zm 18 66] (zr [zm 67 18,zk 68 .neq 67 0] 68 (zq [zm 69 18,zo 8 (.mv (.c (.ptr none))),zo 9 (.mv (zi 0)),zm 10 69] .ret) .skip (.reg [zm 70 13,zm 71 17,zb 72 .add 70 71,zm 13 72])))))) (.reg [zk 73 .add 45 1,zm 45 73]))))))) (zr [zf 74 19 4,zl 75 74,zh 76 75,zk 77 .gtr 76 0] 77 (zq [zm 78 12,zc 79 78,zf 80 1 79,zf 81 19 80,zl 82 81,zo 19 (.new [zN]),zs 19 82] (zq [zo 83 (.build [zN,zN,zN] []),zo 20 (.new [zN,zN,zN]),zp (.store 3 (.t 20) (.t 83))] (.seq (zq [zl 84 19,zh 85 84,zo 86 (.mv (zi 0))] (.block 2 (.loop (zq [zb 87 .lss 86 85] (.seq (.cond (.t 87) .skip (.exit 2)) (.seq (.block 3 (zq [zo 88 (.idxA 5 (.t 84) (.t 86)),zt 89 5 88,zo 22 (.new [zI 0,zI 0,zI 0,zI 0,zI 0]),zp (.store 5 (.t 22) (.t 89))] (.reg [zf 90 2 20,zl 91 90,zf 92 0 22,zt 93 4 92,zo 94 (.buildSl 1 [zI 0,zI 0,zI 0,zI 0] [(0,4,.t 93)]),zo 95 (.append 4 32 (.t 91) (.t 94)),zf 96 2 20,zs 96 95]))) (.reg [zk 97 .add 86 1,zm 86 97]))))))) (zq [zm 99 12,zt 100 3 20,zo 101 (.build [zI 0,zI 0,zI 0] []),zo 102 (.mkFunc (.func 61) [] [.t 19]),zx 103 59 [.t 99,.t 100,.t 101,.t 102],zm 98 103,ze 104 0 98,ze 105 1 98,zm 23 104,zm 24 105] (zq [zm 106 24,zk 107 .neq 106 0] (.cond (.t 107) (zq [zm 108 24,zo 8 (.mv (.c (.ptr none))),zo 9 (.mv (zi 0)),zm 10 108] .ret) .skip)))))) .skip (zq [zm 109 12,zf 110 18 4,zl 111 110,zh 112 111,zo 113 (.mkSlice 56 [zN,zI 0,zN] (.t 112) (.t 112)),zc 114 109,zf 115 23 114,zs 115 113] (zq [zm 116 12,zf 117 18 4,zl 118 117,zh 119 118,zo 120 (.mkSlice 40 [zI 0,zI 0,zN] (.t 119) (.t 119)),zc 121 116,zf 122 24 121,zs 122 120] (.seq (zq [zf 123 18 4,zl 124 123,zh 125 124,zo 126 (.mv (zi 0))] (.block 4 (.loop (zq [zb 127 .lss 126 125] (.seq (.cond (.t 127) .skip (.exit 4)) (.seq (.block 5 (zq [zm 128 126,zo 129 (.idxA 6 (.t 124) (.t 126)),zt 130 6 129,zo 26 (.new [zU 0,zI 0,zI 0,zI 0,.str [],.str []]),zm 25 128,zp (.store 6 (.t 26) (.t 130))] (zq [zf 131 0 26,zl 132 131,zo 133 (.bin .eql (.t 132) (zu 4))] (.cond (.t 133) (.seq (.draw [zm 134 12,zc 135 134,zf 136 23 135,zl 137 136,zm 138 25,zm 139 2,zm 140 25,zo 141 (.idxA 3 (.t 139) (.t 140)),zt 142 3 141,zx 143 62 [.t 142],zo 144 (.idxA 3 (.t 137) (.t 138)),zp (.store 3 (.t 144) (.t 143))] [[],[],[],[11],[],[],[],[],[],[],[],[]]) (.draw [zm 145 12,zc 146 145,zf 147 24 146,zl 148 147,zm 149 25,zm 150 3,zm 151 25,zo 152 (.idxA 3 (.t 150) (.t 151)),zt 153 3 152,zx 154 63 [.t 153],zo 155 (.idxA 3 (.t 148) (.t 149)),zp (.store 3 (.t 155) (.t 154))] [[],[],[],[11],[],[],[],[],[],[],[],[]])) .skip)))) (.reg [zk 156 .add 126 1,zm 126 156]))))))) (zq [zm 157 12,zm 158 13,zm 8 157,zm 9 158,zo 10 (.mv (zi 0))] .ret)))))))))),[.t 8,.t 9,.t 10]⟩
theorem za36:cN Tryz.prog 36=some c36:=by kernel_rfl
def c57:AFn:=⟨75,zq [zo 4 (.box (.t 0)),zo 8 (.mv (zi 0))] (.seq (zq [zt 16 21 4,zx 17 83 [.t 16],zm 9 17] (zq [zm 18 9,zk 19 .neq 18 0] (.cond (.t 19) (zq [zm 20 9,zm 8 20] .ret) .skip))) (zr [zm 21 1,zh 22 21,zf 23 20 4,zl 24 23,zh 25 24,zb 26 .neq 22 25,zm 27 26,zg 28 (.mv (.t 2)) 27 false,zg 29 (.len false (.t 28)) 27 false,zg 30 (.fieldA 18 (.t 4)) 27 false,zg 31 (.load false 1 (.t 30)) 27 false,zg 32 (.len false (.t 31)) 27 false,zg 33 (.bin .neq (.t 29) (.t 32)) 27 false,zo 34 (.pick (.t 27) (.c (.bool true)) (.t 33)),zm 35 34,zg 36 (.mv (.t 3)) 35 false,zg 37 (.len false (.t 36)) 35 false,zg 38 (.fieldA 18 (.t 4)) 35 false,zg 39 (.load false 1 (.t 38)) 35 false,zg 40 (.len false (.t 39)) 35 false,zg 41 (.bin .neq (.t 37) (.t 40)) 35 false,zo 42 (.pick (.t 35) (.c (.bool true)) (.t 41))] 42 (zq [zo 8 (.mv (zi 2))] .ret) .skip (.seq (zq [zm 43 1,zh 44 43,zo 45 (.mv (zi 0))] (.block 0 (.loop (zq [zb 46 .lss 45 44] (.seq (.cond (.t 46) .skip (.exit 0)) (.seq (.block 1 (zq [zo 47 (.idxA 3 (.t 43) (.t 45)),zt 48 3 47,zo 11 (.new [zN,zN,zN]),zp (.store 3 (.t 11) (.t 48))] (zq [zt 49 3 11,zx 50 84 [.t 49],zm 12 50] (zq [zm 51 12,zk 52 .neq 51 0] (.cond (.t 52) (zq [zm 53 12,zm 8 53] .ret) .skip))))) (.reg [zk 54 .add 45 1,zm 45 54]))))))) (.seq (zq [zf 55 18 4,zl 56 55,zh 57 56,zo 58 (.mv (zi 0))] (.block 2 (.loop (zq [zb 59 .lss 58 57] (.seq (.cond (.t 59) .skip (.exit 2)) (.seq (.block 3 (zq [zm 60 58,zo 61 (.idxA 6 (.t 56) (.t 58)),zt 62 6 61,zo 14 (.new [zU 0,zI 0,zI 0,zI 0,.str [],.str []]),zm 13 60,zp (.store 6 (.t 14) (.t 62))] (zr [zf 63 0 14,zl 64 63,zo 65 (.bin .neq (.t 64) (zu 4))] 65 (.exit 3) .skip (zq [zm 66 2,zm 67 13,zo 68 (.idxA 3 (.t 66) (.t 67)),zt 69 3 68,zx 70 85 [.t 69],zm 15 70] (zq [zm 71 15,zk 72 .neq 71 0] (.cond (.t 72) (zq [zm 73 15,zm 8 73] .ret) .skip)))))) (.reg [zk 74 .add 58 1,zm 58 74]))))))) (zq [zo 8 (.mv (zi 0))] .ret))))),[.t 8]⟩
theorem za57:cN Tryz.prog 57=some c57:=by kernel_rfl
def c58:AFn:=⟨16,zq [zo 1 (.box (.t 0)),zo 2 (.new [zI 0,zI 0,zI 0,zI 0,.int .u64 (.ofNat 0),zI 0,zI 0,zI 0,zI 0,zI 0,zI 0,zI 0,zI 0,zI 0,zI 0,zI 0,zI 0,zI 0,zN,zN,zN])] (zq [zf 3 18 1,zl 4 3,zx 5 86 [.t 4],zf 6 18 1,zs 6 5] (zq [zf 7 19 1,zl 8 7,zx 9 87 [.t 8],zf 10 19 1,zs 10 9] (zq [zf 11 20 1,zl 12 11,zx 13 88 [.t 12],zf 14 20 1,zs 14 13] (zq [zt 15 21 1,zp (.store 21 (.t 2) (.t 15))] .ret)))),[.cell true 21 2]⟩
theorem za58:cN Tryz.prog 58=some c58:=by kernel_rfl
def c86:AFn:=⟨8,zq [zo 2 (.mv zn)] (zr [zm 3 0,zo 4 (.pf (.eqv false .slice) [.t 3,zn])] 4 (zq [zo 2 (.mv zn)] .ret) .skip (zq [zo 5 (.buildSl 0 [zU 0,zI 0,zI 0,zI 0,.str [],.str []] []),zm 6 0,zo 7 (.append 6 64 (.t 5) (.t 6)),zm 2 7] .ret)),[.t 2]⟩
theorem za86:cN Tryz.prog 86=some c86:=by kernel_rfl
def c87:AFn:=⟨8,zq [zo 2 (.mv zn)] (zr [zm 3 0,zo 4 (.pf (.eqv false .slice) [.t 3,zn])] 4 (zq [zo 2 (.mv zn)] .ret) .skip (zq [zo 5 (.buildSl 0 [zI 0,zI 0,zI 0,zI 0,zI 0] []),zm 6 0,zo 7 (.append 5 40 (.t 5) (.t 6)),zm 2 7] .ret)),[.t 2]⟩
theorem za87:cN Tryz.prog 87=some c87:=by kernel_rfl
def c88:AFn:=⟨8,zq [zo 2 (.mv zn)] (zr [zm 3 0,zo 4 (.pf (.eqv false .slice) [.t 3,zn])] 4 (zq [zo 2 (.mv zn)] .ret) .skip (zq [zo 5 (.buildSl 0 [.str [],zI 0,zI 0,zI 0,zI 0] []),zm 6 0,zo 7 (.append 5 48 (.t 5) (.t 6)),zm 2 7] .ret)),[.t 2]⟩
theorem za88:cN Tryz.prog 88=some c88:=by kernel_rfl
def c64:AFn:=⟨17,zq [zo 2 (.mv (zi 0)),zo 3 (.mv (zi 0))] (zr [zm 4 0,zx 5 95 [.t 4],zo 6 (.un .not (.t 5))] 6 (zq [zo 2 (.mv (zi 0)),zo 3 (.mv (zi 0))] .ret) .skip (zq [zm 7 0,zc 8 7,zf 9 1 8,zf 10 0 9,zl 11 10,zm 12 0,zc 13 12,zf 14 1 13,zf 15 1 14,zl 16 15,zm 2 11,zm 3 16] .ret)),[.t 2,.t 3]⟩
theorem za64:cN Tryz.prog 64=some c64:=by kernel_rfl
def c95:AFn:=⟨13,zq [zo 2 (.mv (.c (.bool false)))] (zq [zm 3 0,zo 4 (.pf (.eqv true .ptr) [.t 3,.c (.ptr none)]),zm 5 4,zg 6 (.mv (.t 0)) 5 true,zg 7 (.nilChk (.t 6)) 5 true,zg 8 (.fieldA 0 (.t 7)) 5 true,zg 9 (.load false 1 (.t 8)) 5 true,zg 10 (.mv (.t 0)) 5 true,zg 11 (.pf (.eqv false .ptr) [.t 9,.t 10]) 5 true,zo 12 (.pick (.t 5) (.t 11) (.c (.bool false))),zm 2 12] .ret),[.t 2]⟩
theorem za95:cN Tryz.prog 95=some c95:=by kernel_rfl
def c78:AFn:=⟨38,zq [zo 4 (.mv (.c (.ptr none))),zo 5 (.mv (zi 0))] (zr [zm 7 0,zx 8 95 [.t 7],zo 9 (.un .not (.t 8))] 9 (zq [zo 4 (.mv (.c (.ptr none))),zo 5 (.mv (zi 1))] .ret) .skip (zr [zm 10 1,zk 11 .lss 10 0,zm 12 11,zg 13 (.mv (.t 1)) 12 false,zg 14 (.mv (.t 0)) 12 false,zg 15 (.nilChk (.t 14)) 12 false,zg 16 (.fieldA 1 (.t 15)) 12 false,zg 17 (.fieldA 0 (.t 16)) 12 false,zg 18 (.load false 1 (.t 17)) 12 false,zg 19 (.mv (.t 0)) 12 false,zg 20 (.nilChk (.t 19)) 12 false,zg 21 (.fieldA 1 (.t 20)) 12 false,zg 22 (.fieldA 1 (.t 21)) 12 false,zg 23 (.load false 1 (.t 22)) 12 false,zg 24 (.bin .mul (.t 18) (.t 23)) 12 false,zg 25 (.bin .geq (.t 13) (.t 24)) 12 false,zo 26 (.pick (.t 12) (.c (.bool true)) (.t 25))] 26 (zq [zo 4 (.mv (.c (.ptr none))),zo 5 (.mv (zi 2))] .ret) .skip (zq [zm 27 0,zm 28 1,zo 29 (.build [.ptr none,.ptr none,zI 0,zI 0,zI 0,zI 0,zI 0,zI 0,zI 0,zI 0,zI 0,zI 0,zI 0,zI 0,zI 0,zI 0,zI 0,.bool false,zI 0,zI 0] [(1,1,.t 27),(2,1,.t 28)]),zo 30 (.box (.t 29)),zm 6 30] (zq [zm 31 6,zm 32 6,zc 33 31,zf 34 0 33,zs 34 32] (zq [zm 35 6,zx 36 117 [.t 35]] (zq [zm 37 6,zm 4 37,zo 5 (.mv (zi 0))] .ret)))))),[.t 4,.t 5]⟩
theorem za78:cN Tryz.prog 78=some c78:=by kernel_rfl
def c117:AFn:=⟨40,zq [zm 3 0,zc 4 3,zf 5 1 4,zl 6 5,zc 7 6,zf 8 1 7,zt 9 21 8,zo 2 (.new [zI 0,zI 0,zI 0,zI 0,.int .u64 (.ofNat 0),zI 0,zI 0,zI 0,zI 0,zI 0,zI 0,zI 0,zI 0,zI 0,zI 0,zI 0,zI 0,zI 0,zN,zN,zN]),zp (.store 21 (.t 2) (.t 9))] (zq [zm 10 0,zc 11 10,zf 12 4 11,zp (.store 1 (.t 12) (zi 0))] (zq [zm 13 0,zo 14 (.build [zI 0,zI 0,zI 0] [(0,1,zi 4294967296),(1,1,zi 4294967296),(2,1,zi 4294967296)]),zc 15 13,zf 16 11 15,zp (.store 3 (.t 16) (.t 14))] (.draw [zm 17 0,zt 18 21 2,zm 19 0,zc 20 19,zf 21 2 20,zl 22 21,zf 23 0 2,zl 24 23,zb 25 .rem 22 24,zm 26 0,zc 27 26,zf 28 2 27,zl 29 28,zf 30 0 2,zl 31 30,zb 32 .quo 29 31,zm 33 0,zx 34 184 [.t 33,zi 0],zm 35 0,zx 36 184 [.t 35,zi 1],zx 37 183 [.t 18,.t 25,.t 32,.t 34,.t 36],zc 38 17,zf 39 5 38,zp (.store 6 (.t 39) (.t 37))] [[],[19,20],[],[],[],[19,20],[],[19,20],[],[],[],[],[19,20],[],[19,20],[],[],[],[],[],[],[],[],[]]))),[]⟩
theorem za117:cN Tryz.prog 117=some c117:=by kernel_rfl
def c184:AFn:=⟨23,zq [zo 4 (.mv (zi 0))] (zq [zm 5 0,zc 6 5,zf 7 1 6,zl 8 7,zc 9 8,zf 10 1 9,zf 11 4 10,zl 12 11,zm 13 0,zc 14 13,zf 15 2 14,zl 16 15,zm 17 0,zc 18 17,zf 19 3 18,zl 20 19,zm 21 1,zx 22 250 [.t 12,.t 16,.t 20,.t 21],zm 4 22] .ret),[.t 4]⟩
theorem za184:cN Tryz.prog 184=some c184:=by kernel_rfl
def c79:AFn:=⟨15,zq [zo 2 (.mv (zi 0)),zo 3 (.mv (zi 0))] (zr [zm 4 0,zx 5 118 [.t 4],zo 6 (.un .not (.t 5))] 6 (zq [zo 2 (.mv (zi 0)),zo 3 (.mv (zi 0))] .ret) .skip (zq [zm 7 0,zc 8 7,zf 9 18 8,zl 10 9,zm 11 0,zc 12 11,zf 13 19 12,zl 14 13,zm 2 10,zm 3 14] .ret)),[.t 2,.t 3]⟩
theorem za79:cN Tryz.prog 79=some c79:=by kernel_rfl
def c118:AFn:=⟨13,zq [zo 2 (.mv (.c (.bool false)))] (zq [zm 3 0,zo 4 (.pf (.eqv true .ptr) [.t 3,.c (.ptr none)]),zm 5 4,zg 6 (.mv (.t 0)) 5 true,zg 7 (.nilChk (.t 6)) 5 true,zg 8 (.fieldA 0 (.t 7)) 5 true,zg 9 (.load false 1 (.t 8)) 5 true,zg 10 (.mv (.t 0)) 5 true,zg 11 (.pf (.eqv false .ptr) [.t 9,.t 10]) 5 true,zo 12 (.pick (.t 5) (.t 11) (.c (.bool false))),zm 2 12] .ret),[.t 2]⟩
theorem za118:cN Tryz.prog 118=some c118:=by kernel_rfl
def c80:AFn:=⟨186,zq [zo 2 (.mv (zi 0)),zo 3 (.mv (.c (.bool false)))] (zr [zm 15 0,zx 16 118 [.t 15],zo 17 (.un .not (.t 16)),zm 18 17,zg 19 (.mv (.t 0)) 18 false,zg 20 (.nilChk (.t 19)) 18 false,zg 21 (.fieldA 17 (.t 20)) 18 false,zg 22 (.load false 1 (.t 21)) 18 false,zo 23 (.pick (.t 18) (.c (.bool true)) (.t 22))] 23 (zq [zo 2 (.mv (zi 0)),zo 3 (.mv (.c (.bool true)))] .ret) .skip (zq [zo 4 (.mv (zi 65536))] (zr [zm 24 0,zc 25 24,zf 26 4 25,zl 27 26,zk 28 .eql 27 0] 28 (.reg [zo 4 (.mv (zi 1))]) .skip (.seq (.draw [zm 30 0,zc 31 30,zf 32 1 31,zl 33 32,zm 34 0,zc 35 34,zf 36 5 35,zt 37 6 36,zm 38 4,zx 39 119 [.t 33,.t 37,.t 38],zm 29 39,ze 40 0 29,ze 41 1 29,ze 42 2 29,zo 5 (.new [zI 0,zI 0,zI 0,zI 0]),zp (.store 4 (.t 5) (.t 40)),zm 6 41,zm 7 42] [[],[],[],[],[],[],[],[],[],[],[],[],[],[],[9],[],[],[]]) (zq [zm 43 0,zc 44 43,zf 45 18 44,zl 46 45,zk 47 .add 46 1,zc 48 43,zf 49 18 48,zs 49 47] (zr [zm 50 6,zk 51 .lss 50 0] 51 (zq [zm 52 0,zm 53 0,zc 54 53,zf 55 1 54,zl 56 55,zc 57 56,zf 58 1 57,zf 59 15 58,zt 60 3 59,zx 61 120 [.t 52,.t 60]] (zq [zm 62 0,zx 63 121 [.t 62]] (zq [zm 64 7,zm 65 0,zc 66 65,zf 67 17 66,zl 68 67,zm 2 64,zm 3 68] .ret))) .skip (zq [zm 69 0,zc 70 69,zf 71 1 70,zl 72 71,zc 73 72,zf 74 22 73,zl 75 74,zm 76 6,zo 77 (.idxA 8 (.t 75) (.t 76)),zt 78 8 77,zo 8 (.new [zN,zN,zN,.ptr none,zI 0,zI 0,zI 0,.nilFunc]),zp (.store 8 (.t 8) (.t 78))] (zq [zf 79 7 8,zl 80 79,zf 81 1 5,zl 82 81,zo 83 (.callv (.t 80) [.t 82]),zm 9 83] (zq [zm 84 0,zc 85 84,zf 86 1 85,zl 87 86,zc 88 87,zf 89 1 88,zf 90 18 89,zl 91 90,zm 92 9,zo 93 (.idxA 6 (.t 91) (.t 92)),zt 94 6 93,zo 10 (.new [zU 0,zI 0,zI 0,zI 0,.str [],.str []]),zp (.store 6 (.t 10) (.t 94))] (.seq (.draw [zf 95 0 8,zt 96 3 95,zt 97 4 5,zt 98 8 8,zm 99 0,zc 100 99,zf 101 5 100,zt 102 6 101,zx 103 123 [.t 98,.t 102],zx 104 122 [.t 96,.t 97,.t 103],zo 11 (.new [zI 0,zI 0,zI 0]),zp (.store 3 (.t 11) (.t 104))] [[],[9],[9],[],[],[],[],[],[],[],[8,9],[]]) (.seq (.draw [zm 105 0,zc 106 105,zf 107 5 106,zt 108 6 107,zt 109 4 5,zt 110 3 11,zx 111 124 [.t 108,.t 109,.t 110],zo 12 (.new [zI 0,zI 0,zI 0,zI 0,zI 0,zI 0,zI 0,zI 0]),zp (.store 8 (.t 12) (.t 111))] [[],[],[],[],[],[],[],[6],[]]) (.seq (zq [zf 112 0 10,zl 113 112] (.block 0 (zq [zo 125 (.bin .eql (.t 113) (zu 3)),zm 124 125] (.cond (.t 124) (zq [zm 126 0,zf 127 1 10,zt 128 3 127,zx 129 120 [.t 126,.t 128]] (zq [zm 130 0,zx 131 121 [.t 130]] (zq [zm 132 7,zm 133 0,zc 134 133,zf 135 17 134,zl 136 135,zm 2 132,zm 3 136] .ret))) (zq [zo 138 (.bin .eql (.t 113) (zu 4)),zm 137 138] (.cond (.t 137) (zq [zm 140 0,zm 141 9,zt 142 8 12,zx 143 125 [.t 140,.t 141,.t 142],zm 139 143,ze 144 0 139,ze 145 1 139,zo 13 (.new [zI 0,zI 0,zI 0]),zp (.store 3 (.t 13) (.t 144)),zm 14 145] (.seq (.draw [zm 146 0,zm 147 0,zc 148 147,zf 149 11 148,zt 150 3 149,zt 151 3 13,zx 152 127 [.t 151],zx 153 126 [.t 150,.t 152],zc 154 146,zf 155 11 154,zp (.store 3 (.t 155) (.t 153))] [[],[],[],[],[7],[],[],[],[],[],[]]) (zq [zm 156 0,zc 157 156,zf 158 19 157,zl 159 158,zm 160 14,zb 161 .add 159 160,zc 162 156,zf 163 19 162,zs 163 161] (.reg [zm 164 7,zm 165 14,zb 166 .add 164 165,zm 7 166])))) (.reg [zm 114 0,zm 115 0,zc 116 115,zf 117 11 116,zt 118 3 117,zf 119 1 10,zt 120 3 119,zx 121 126 [.t 118,.t 120],zc 122 114,zf 123 11 122,zp (.store 3 (.t 123) (.t 121))]))))))) (zr [zm 167 0,zx 168 128 [.t 167]] 168 (zq [zm 169 0,zx 170 121 [.t 169]] (zq [zm 171 7,zm 172 0,zc 173 172,zf 174 17 173,zl 175 174,zm 2 171,zm 3 175] .ret)) .skip (zq [zm 176 0,zf 177 0 10,zl 178 177,zt 179 8 12,zx 180 129 [.t 176,.t 178,.t 179]] (zq [zm 181 7,zm 182 0,zc 183 182,zf 184 17 183,zl 185 184,zm 2 181,zm 3 185] .ret))))))))))))))),[.t 2,.t 3]⟩
theorem za80:cN Tryz.prog 80=some c80:=by kernel_rfl
def c119:AFn:=⟨65,zq [zo 4 (.box (.t 1)),zo 6 (.new [zI 0,zI 0,zI 0,zI 0]),zo 7 (.mv (zi 0)),zo 8 (.mv (zi 0))] (zq [zo 16 (.build [zI 0,zI 0,zI 0,zI 0] [(1,1,.c (.int .i64 (.negSucc 0)))]),zo 9 (.new [zI 0,zI 0,zI 0,zI 0]),zp (.store 4 (.t 9) (.t 16)),zo 10 (.mv (.c (.int .i64 (.negSucc 0))))] (zr [zm 17 0,zx 18 95 [.t 17],zo 19 (.un .not (.t 18))] 19 (zq [zt 20 4 9,zm 21 10,zp (.store 4 (.t 6) (.t 20)),zm 7 21,zo 8 (.mv (zi 0))] .ret) .skip (zq [zo 11 (.mv (zi 1))] (.seq (zq [zm 22 0,zc 23 22,zf 24 22 23,zl 25 24,zh 26 25,zo 27 (.mv (zi 0))] (.block 0 (.loop (zq [zb 28 .lss 27 26] (.seq (.cond (.t 28) .skip (.exit 0)) (.seq (.block 1 (zq [zm 29 27,zo 30 (.idxA 8 (.t 25) (.t 27)),zt 31 8 30,zo 13 (.new [zN,zN,zN,.ptr none,zI 0,zI 0,zI 0,.nilFunc]),zm 12 29,zp (.store 8 (.t 13) (.t 31))] (.seq (.draw [zf 33 3 13,zl 34 33,zt 35 8 13,zt 36 6 4,zx 37 123 [.t 35,.t 36],zm 38 2,zx 39 185 [.t 34,.t 37,.t 38],zm 32 39,ze 40 0 32,ze 41 1 32,zo 14 (.new [zI 0,zI 0,zI 0,zI 0]),zp (.store 4 (.t 14) (.t 40)),zm 15 41] [[],[6],[],[],[],[],[],[],[],[],[4,6],[],[]]) (zq [zm 42 11,zm 43 15,zb 44 .add 42 43,zm 11 44] (zq [zf 45 1 14,zl 46 45,zk 47 .geq 46 0,zm 48 47,zg 49 (.mv (.t 10)) 48 true,zg 50 (.bin .lss (.t 49) (zi 0)) 48 true,zg 51 (.mv (.t 50)) 48 true,zg 52 (.fieldA 0 (.t 14)) 51 false,zg 53 (.load false 1 (.t 52)) 51 false,zg 54 (.fieldA 0 (.t 9)) 51 false,zg 55 (.load false 1 (.t 54)) 51 false,zg 56 (.bin .lss (.t 53) (.t 55)) 51 false,zg 57 (.pick (.t 51) (.c (.bool true)) (.t 56)) 48 true,zo 58 (.pick (.t 48) (.t 57) (.c (.bool false)))] (.cond (.t 58) (.reg [zt 59 4 14,zm 60 12,zp (.store 4 (.t 9) (.t 59)),zm 10 60]) .skip)))))) (.reg [zk 61 .add 27 1,zm 27 61]))))))) (zq [zt 62 4 9,zm 63 10,zm 64 11,zp (.store 4 (.t 6) (.t 62)),zm 7 63,zm 8 64] .ret))))),[.cell true 4 6,.t 7,.t 8]⟩
theorem za119:cN Tryz.prog 119=some c119:=by kernel_rfl
def c120:AFn:=⟨18,zq [zo 3 (.box (.t 1))] (.draw [zm 4 0,zm 5 0,zc 6 5,zf 7 14 6,zt 8 3 7,zm 9 0,zc 10 9,zf 11 11 10,zt 12 3 11,zt 13 3 3,zx 14 126 [.t 12,.t 13],zx 15 186 [.t 8,.t 14],zc 16 4,zf 17 14 16,zp (.store 3 (.t 17) (.t 15))] [[],[],[],[],[11],[],[],[],[],[],[],[],[],[],[]]),[]⟩
theorem za120:cN Tryz.prog 120=some c120:=by kernel_rfl
def c121:AFn:=⟨27,zq [zm 2 0,zc 3 2,zf 4 3 3,zl 5 4,zk 6 .add 5 1,zc 7 2,zf 8 3 7,zs 8 6] (zr [zm 9 0,zc 10 9,zf 11 3 10,zl 12 11,zm 13 0,zc 14 13,zf 15 1 14,zl 16 15,zc 17 16,zf 18 1 17,zf 19 2 18,zl 20 19,zb 21 .geq 12 20] 21 (zq [zm 22 0,zc 23 22,zf 24 17 23,zp (.store 1 (.t 24) (.c (.bool true)))] .ret) .skip (.reg [zm 25 0,zx 26 117 [.t 25]])),[]⟩
theorem za121:cN Tryz.prog 121=some c121:=by kernel_rfl
def c82:AFn:=⟨27,zq [zo 2 (.new [zU 0,zU 0,zU 0,zU 0])] (zr [zm 3 0,zx 4 118 [.t 3],zo 5 (.un .not (.t 4)),zm 6 5,zg 7 (.mv (.t 0)) 6 false,zg 8 (.nilChk (.t 7)) 6 false,zg 9 (.fieldA 17 (.t 8)) 6 false,zg 10 (.load false 1 (.t 9)) 6 false,zg 11 (.un .not (.t 10)) 6 false,zo 12 (.pick (.t 6) (.c (.bool true)) (.t 11))] 12 (zq [zo 13 (.build [zU 0,zU 0,zU 0,zU 0] []),zp (.store 4 (.t 2) (.t 13))] .ret) .skip (zq [zm 14 0,zc 15 14,zf 16 14 15,zt 17 3 16,zm 18 0,zc 19 18,zf 20 1 19,zl 21 20,zc 22 21,zf 23 1 22,zf 24 2 23,zl 25 24,zx 26 130 [.t 17,.t 25],zp (.store 4 (.t 2) (.t 26))] .ret)),[.cell true 4 2]⟩
theorem za82:cN Tryz.prog 82=some c82:=by kernel_rfl
end
end Go.Proofs.Tc
