/- Part of a proof (T7 T8 T9 T11 T12 T14 T15 T16 T17 T18 T19 T20 T21 T22 T23 T24 T25 T26 T27); no condition. -/
import Derived.Test.YtmfjeemdgdaelaaGreatP7
set_option linter.unusedSimpArgs false
set_option linter.unusedVariables false
set_option linter.unnecessarySimpa false
namespace Go.Proofs.Tb
open Go.Abs Go.Abs.S
def Holds(H:AHeap)(q:Nat)(w:AVal):Prop:=∃cs,w=.agg cs∧cs.length=2∧Row H q cs
theorem Holds.load{H:AHeap}{q:Nat}{w:AVal}(h:Holds H q w):oLoad true 2 H (cellR q 2 0)=some w:=by
 obtain⟨cs,rfl,h1,h2⟩:=h; exact row_loadN h2 h1
theorem Holds.same{H H':AHeap}{q:Nat}{w:AVal}(h:Holds H q w)(e:H'.get q=H.get q):Holds H' q w:=by
 obtain⟨cs,h0,h1,h2⟩:=h; exact⟨cs,h0,h1,h2.same e⟩
theorem rw_same{H H':AHeap}{w:AVal}{L:List Bool}{t:Nat}(h:RW H.next H w L t)(hn:H.next≤H'.next)(e:VB w fun b=>H'.get b=H.get b):RW H'.next H' w L t:=by
 obtain⟨sv,rfl,hC⟩:=h
 exact⟨sv,rfl,cel_same hC hn (e _ _ rfl)⟩
theorem rw_store{H:AHeap}{w:AVal}{L:List Bool}{t:Nat}(h:RW H.next H w L t){q:Nat}{u:AVal}(hR:Holds H q u)(hb:VB w (·≠q)) :
  ∃H',oStore 2 H (cellR q 2 0) w=some H'∧Holds H' q w∧RW H'.next H' w L t∧H'.next=H.next∧∀c,c≠q→H'.get c=H.get c:=by
 obtain⟨cs,rfl,h1,h2⟩:=hR
 have h':=h
 obtain⟨sv,rfl,hC⟩:=h
 obtain⟨H',m,r,k,o⟩:=row_storeN h2 h1 (xs:=[sv,.int .i64 (t:Int)]) rfl (by simp only[List.all_cons,List.all_nil,cel_one hC]; rfl)
 exact⟨H',m,⟨_,rfl,rfl,r⟩,rw_same h' om (hb.mono fun b hb=>o b hb),k,o⟩
def RB(H:AHeap)(v:AVal)(L:List Bool)(t:Nat)(w:AVal)(H':AHeap):Prop:=RW H'.next H' w L t∧(∀P,VB v P→VB w fun b=>P b∨H.next≤b)∧Ext H.next H H'
def WS(n0:Nat)(H:AHeap)(q:Nat)(v w:AVal)(L:List Bool)(t:Nat):Prop:=Holds H q w∧RW H.next H w L t∧(∀P,VB v P→VB w fun b=>P b∨n0≤b)∧VB v (·<q)∧q<n0∧n0≤H.next
def Kp(n0 q:Nat)(H H':AHeap):Prop:=H.next≤H'.next∧∀c,c<n0→c≠q→H'.get c=H.get c
theorem Kp.trans{n0 q:Nat}{H H' H'':AHeap}(h:Kp n0 q H H')(k:Kp n0 q H' H''):Kp n0 q H H'':=⟨Nat.le_trans h.1 k.1,fun c h1 h2=>(k.2 c h1 h2).trans (h.2 c h1 h2)⟩
theorem WS.load{n0:Nat}{H:AHeap}{q:Nat}{v w:AVal}{L:List Bool}{t:Nat}(h:WS n0 H q v w L t):oLoad true 2 H (cellR q 2 0)=some w:=h.1.load
theorem WS.ext{n0:Nat}{H H':AHeap}{q:Nat}{v w:AVal}{L:List Bool}{t:Nat}(h:WS n0 H q v w L t)(e:Ext H.next H H'):WS n0 H' q v w L t:=by
 obtain⟨h1,h2,h3,h4,h5,h6⟩:=h
 exact⟨h1.same (e.old _ om),h2.fwd e,h3,h4,h5,Nat.le_trans h6 e.next⟩
theorem WS.step{n0:Nat}{H:AHeap}{q:Nat}{v w:AVal}{L L':List Bool}{t:Nat}(h:WS n0 H q v w L t){w':AVal}{H':AHeap}(k:RB H w L' t w' H') :
  ∃H2,oStore 2 H' (cellR q 2 0) w'=some H2∧WS n0 H2 q v w' L' t∧Kp n0 q H H2:=by
 obtain⟨h1,h2,h3,h4,h5,h6⟩:=h
 obtain⟨k1,k2,k3⟩:=k
 have n3:=k3.next
 have hb:∀P,VB v P→VB w' fun b=>P b∨n0≤b:=fun P hP=>(k2 _ (h3 P hP)).mono fun b hb=>by
  rcases hb with hb | hb
  ·exact hb
  ·exact .inr om
 obtain⟨H2,m,q1,q2,q3,q4⟩:=rw_store k1 (h1.same (k3.old _ om)) ((hb _ h4).mono fun b hb=>om)
 exact⟨H2,m,⟨q1,q2,hb,h4,h5,om⟩,om,fun c h1 h2=>by rw[q4 c h2,k3.old c om]⟩
theorem ws_start{H:AHeap}{v:AVal}{L:List Bool}{t:Nat}(h:RW H.next H v L t):∃H1 H2,oNew H v.cells=(cellR H.next 2 0,H1)∧oNew H1 [.slice none 0 (.known 0),.int .i64 0]=(cellR H1.next 2 0,H2)∧H1.next=H.next+1∧H2.next=H.next+2∧WS (H.next+2) H2 H.next v v L t∧Holds H2 (H.next+1) (.agg [.slice none 0 (.known 0),.int .i64 0])∧Ext H.next H H2:=by
 have h':=h
 obtain⟨sv,rfl,hC⟩:=h
 obtain⟨H1,m1,r1,k1,o1⟩:=row_newL H [sv,.int .i64 (t:Int)] (n:=2) rfl
 obtain⟨H2,m2,r2,k2',o2⟩:=row_newL H1 [.slice none 0 (.known 0),.int .i64 0] (n:=2) rfl
 have E2:Ext H.next H H2:=⟨om,fun c hc=>by rw[o2 c om,o1 c om]⟩
 exact⟨H1,H2,m1,m2,k1,om,⟨⟨_,rfl,rfl,r1.same (o2 _ om)⟩,h'.fwd E2,fun P hP=>hP.mono fun b hb=>.inl hb,h'.vb,om,om⟩,⟨_,rfl,rfl,by rw[← k1]; exact r2⟩,E2⟩
theorem ws_end{H H':AHeap}{v w u:AVal}{L:List Bool}{t:Nat}(h:WS (H.next+2) H' H.next v w L t)(hu:Holds H' (H.next+1) u)(e:Ext H.next H H') :
  ∃H2,oStore 2 H' (cellR (H.next+1) 2 0) w=some H2∧oLoad true 2 H2 (cellR (H.next+1) 2 0)=some w∧RB H v L t w H2:=by
 obtain⟨h1,h2,h3,h4,h5,h6⟩:=h
 obtain⟨H2,m,q1,q2,q3,q4⟩:=rw_store h2 hu ((h3 _ h4).mono fun b hb=>om)
 exact⟨H2,m,q1.load,q2,fun P hP=>(h3 P hP).mono fun b hb=>hb.imp (fun q=>q) fun q=>om,⟨by have:=e.next; omega,fun c hc=>by rw[q4 c om]; exact e.old c hc⟩⟩
theorem bitsT_f(x k:Nat):bitsT x k false=bitsN x k:=rfl
theorem bitsT_t(x k:Nat):bitsT x k true=(bitsN x k).reverse:=rfl
def ints(l:List Nat):List AVal:=l.map fun n:Nat=>.int .i64 (n:Int)
theorem ints_len(l:List Nat):(ints l).length=l.length:=by simp[ints]
theorem ints_get{l:List Nat}{i n:Nat}(h:l[i]?=some n):(ints l)[i]?=some (.int .i64 (n:Int)):=by simp[ints,h]
theorem two_tables{H:AHeap}{a b:List Nat}{n:Nat}(ha:a.length=n)(hb:b.length=n):Cel (H.next+2) ((H.push (.cells (ints a) 0 false)).push (.cells (ints b) 0 false)) (.slice (some ⟨H.next,n,0⟩) n (.known n)) (ints a)∧Cel (H.next+2) ((H.push (.cells (ints a) 0 false)).push (.cells (ints b) 0 false)) (.slice (some ⟨H.next+1,n,0⟩) n (.known n)) (ints b)∧Ext H.next H ((H.push (.cells (ints a) 0 false)).push (.cells (ints b) 0 false)):=by
 have ra:=row_push H (ints a)
 have rb:=row_push (H.push (.cells (ints a) 0 false)) (ints b)
 refine⟨(ra.same (get_push_lt (Nat.lt_succ_self _))).cel (r:=.known n) (by rw[ints_len,ha]) om,rb.cel (r:=.known n) (by rw[ints_len,hb]) (by rw[push_next]; omega),⟨by simp only[push_next]; omega,fun c hc=>by rw[get_push_lt (by rw[push_next]; omega),get_push_lt hc]⟩⟩
def tailP:List Nat:=[1,1,0,1,2,3,1,0,2,1,1]
theorem run_step(b:Bs)(p i m j:Nat)(h:j<m):run b (p+j) (i+j) (m-j)=if b[p+j]?=b[i+j]? then 1+run b (p+(j+1)) (i+(j+1)) (m-(j+1)) else 0:=by
 rw[show m-j=(m-(j+1))+1 by omega,run]; rfl
def tkC(t:Tok):List AVal:=[.int .i64 (t.n:Int),.int .i64 (t.back:Int),.int .u8 (t.b.toNat:Int)]
def tks(l:List Tok):List AVal:=l.flatMap tkC
theorem tks_append(a b:List Tok):tks (a++b)=tks a++tks b:=by simp[tks]
theorem tks_len(l:List Tok):(tks l).length=l.length*3:=by
 induction l with
 | nil=>rfl
 | cons f r ih=>
  have:tks (f::r)=tkC f++tks r:=by simp[tks]
  rw[this,lA,ih,List.length_cons]; simp[tkC]; omega
def tokOk(t:Tok):Prop:=t.back=0∨(3≤t.n∧t.n≤258∧1≤t.back∧t.back≤20000)
theorem match_ok(b:Bs)(i to:Nat)(h:3≤(matchF b i to).1):(matchF b i to).2<i∧(matchF b i to).1≤258∧i+(matchF b i to).1≤to:=by
 have hs:=best_spec b i (mlen i to) i (0,0) rL (.inl rfl)
 rcases hs with hs | ⟨h1,h2⟩
 ·have:(matchF b i to).1=0:=hs
  omega
 ·have h2':(matchF b i to).1=run b (matchF b i to).2 i (mlen i to):=h2
  have hl:=run_le b (matchF b i to).2 i (mlen i to)
  have hm:mlen i to=min 258 (to-i):=rfl
  refine⟨h1,om,om⟩
theorem toks_ok(b:Bs)(to:Nat)(hto:to≤20000):∀(f i:Nat),∀t∈toksF b to f i,tokOk t
 | 0,i,t,ht=>by simp[toksF]at ht
 | f+1,i,t,ht=>by
  unfold toksF at ht
  split at ht
  ·rename_i hi
   split at ht
   ·rename_i hm
    obtain⟨h1,h2,h3⟩:=match_ok b i to hm
    rcases List.mem_cons.1 ht with rfl | ht
    ·exact .inr ⟨hm,h2,by simp only; omega,by simp only; omega⟩
    ·exact toks_ok b to hto f _ t ht
   ·rcases List.mem_cons.1 ht with rfl | ht
    ·exact .inl rfl
    ·exact toks_ok b to hto f _ t ht
  ·simp at ht
theorem toks_length(b:Bs)(to:Nat):∀(f i:Nat),(toksF b to f i).length≤f
 | 0,i=>by simp[toksF]
 | f+1,i=>by
  unfold toksF
  split
  ·split
   ·have:=toks_length b to f (i+(matchF b i to).1); simp only[List.length_cons]; omega
   ·have:=toks_length b to f (i+1); simp only[List.length_cons]; omega
  ·simp
theorem buildT1(a c:Int):aBuild [.int .i64 0,.int .i64 0,.int .u8 0] [(0,1,.int .i64 a),(1,1,.int .i64 c)]=some (.agg [.int .i64 a,.int .i64 c,.int .u8 0]):=_root_.id rfl
theorem buildT2(a:Int):aBuild [.int .i64 0,.int .i64 0,.int .u8 0] [(2,1,.int .u8 a)]=some (.agg [.int .i64 0,.int .i64 0,.int .u8 a]):=_root_.id rfl
theorem buildT(H:AHeap)(a c d:Int):aBuildSl 1 [.int .i64 0,.int .i64 0,.int .u8 0] H [(0,3,.agg [.int .i64 a,.int .i64 c,.int .u8 d])]=some (.slice (some ⟨H.next,3,0⟩) 1 (.known 1),H.push (.cells [.int .i64 a,.int .i64 c,.int .u8 d] 0 false)):=_root_.id rfl
def TL(H:AHeap)(v:AVal)(l:List Tok):Prop:=LinM 3 H v (tks l) l.length
theorem TL.add{H:AHeap}{v:AVal}{l:List Tok}(h:TL H v l)(t:Tok)(hl:l.length≤1000000) :
  ∃w H',aAppend 3 24 (H.push (.cells (tkC t) 0 false)) v (.slice (some ⟨H.next,3,0⟩) 1 (.known 1))=some (w,H')∧TL H' w (l++[t])∧Stp v H w H':=by
 obtain⟨w,H',a1,a2,a3,a4,a5⟩:=LinM.add h (xs:=tkC t) (j:=1) rfl rfl om (bytes:=24) om om
 refine⟨w,H',a1,?_,a3,a4,a5⟩
 show LinM 3 H' w (tks (l++[t])) (l++[t]).length
 rw[tks_append,lA]
 have e:tks [t]=tkC t:=by simp[tks]
 rw[e]; exact a2
theorem WS.step2{n0:Nat}{H:AHeap}{q:Nat}{v w:AVal}{L L':List Bool}{t:Nat}(h:WS n0 H q v w L t){w':AVal}{H':AHeap}(k:RB H w L' t w' H') :
  ∃H2,oStore 2 H' (cellR q 2 0) w'=some H2∧WS n0 H2 q v w' L' t∧Kp n0 q H H2∧Kp H.next q H H2:=by
 obtain⟨h1,h2,h3,h4,h5,h6⟩:=h
 obtain⟨k1,k2,k3⟩:=k
 have n3:=k3.next
 have hb:∀P,VB v P→VB w' fun b=>P b∨n0≤b:=fun P hP=>(k2 _ (h3 P hP)).mono fun b hb=>by
  rcases hb with hb | hb
  ·exact hb
  ·exact .inr om
 obtain⟨H2,m,q1,q2,q3,q4⟩:=rw_store k1 (h1.same (k3.old _ om)) ((hb _ h4).mono fun b hb=>om)
 exact⟨H2,m,⟨q1,q2,hb,h4,h5,om⟩,⟨om,fun c h1 h2=>by rw[q4 c h2,k3.old c om]⟩,⟨om,fun c h1 h2=>by rw[q4 c h2,k3.old c om]⟩⟩
theorem cel_kp{H H2:AHeap}{u:AVal}{l:List AVal}{q:Nat}(h:Cel H.next H u l)(k:Kp H.next q H H2)(hb:Blk u (·≠q)):Cel H2.next H2 u l:=
 cel_same h k.1 ((hb.and (cel_blk h)).mono fun b hb=>k.2 b hb.2 hb.1)
theorem kp_ext{n0 q:Nat}{H H':AHeap}(e:Ext H.next H H')(h:n0≤H.next):Kp n0 q H H':=⟨e.next,fun c h1 _=>e.old c om⟩
theorem LinM.fld{m k:Nat}{H:AHeap}{s:AVal}{L:List AVal}(h:LinM m H s L k){i:Nat}(hi:i<k):∃b lim,aIdxA m s (.int .i64 (i:Int))=some (cellR b lim (i*m))∧∀o x,o<m→L[i*m+o]?=some x→oLoad false 1 H (cellR b lim (i*m+o))=some x:=by
 have him:i*m+m≤k*m:=by
  have:(i+1)*m≤k*m:=Nat.mul_le_mul_right _ hi
  rwa [Nat.add_mul,Nat.one_mul]at this
 have hb:Nat.blt i k=true:=by simpa[Nat.blt_eq] using hi
 rcases h with⟨_,_,h⟩ | ⟨b,C,low,r,rfl,h2,h3,h4,h5,h6,h7,h8⟩
 ·omega
 ·refine⟨b,C.length,?_,?_⟩
  ·rcases h2 with rfl | ⟨cap,rfl,_⟩
   ·exact idxM .i64 hi
   ·show (bif Nat.blt i k then some (AVal.ptr (some ⟨b,C.length,0+i*m⟩)) else none)=_
    rw[hb,Nat.zero_add]; rfl
  ·intro o x ho hx
   refine row_load ⟨low,h3,h4⟩ rfl ?_
   rw[← h5,List.getElem?_take_of_lt om]at hx
   exact hx
theorem tks_get{l:List Tok}{i:Nat}{t:Tok}(h:l[i]?=some t):(tks l)[i*3]?=some (.int .i64 (t.n:Int))∧(tks l)[i*3+1]?=some (.int .i64 (t.back:Int))∧(tks l)[i*3+2]?=some (.int .u8 (t.b.toNat:Int)):=by
 have hi:=(List.getElem?_eq_some_iff.1 h).1
 have e:l=l.take i++t::l.drop (i+1):=by
  have h2:l[i]=t:=by rw[List.getElem?_eq_getElem hi]at h; exact Option.some.inj h
  conv=>lhs; rw[← List.take_append_drop i l]
  rw[← List.getElem_cons_drop (h:=hi),h2]
 have e2:tks l=tks (l.take i)++(tkC t++tks (l.drop (i+1))):=by
  conv=>lhs; rw[e]
  rw[tks_append]
  simp[tks]
 have hl:(tks (l.take i)).length=i*3:=by rw[tks_len,List.length_take,Nat.min_eq_left om]
 rw[e2]
 refine⟨?_,?_,?_⟩
 ·rw[List.getElem?_append_right om,hl,Nat.sub_self]; rfl
 ·rw[List.getElem?_append_right om,hl,show i*3+1-i*3=1 by omega]; rfl
 ·rw[List.getElem?_append_right om,hl,show i*3+2-i*3=2 by omega]; rfl
theorem TL.at{H:AHeap}{v:AVal}{l:List Tok}(h:TL H v l){i:Nat}{t:Tok}(ht:l[i]?=some t):∃b lim,aIdxA 3 v (.int .i64 (i:Int))=some (cellR b lim (i*3))∧oLoad false 1 H (cellR b lim (i*3))=some (.int .i64 (t.n:Int))∧oLoad false 1 H (cellR b lim (i*3+0))=some (.int .i64 (t.n:Int))∧oLoad false 1 H (cellR b lim (i*3+1))=some (.int .i64 (t.back:Int))∧oLoad false 1 H (cellR b lim (i*3+2))=some (.int .u8 (t.b.toNat:Int)):=by
 obtain⟨b,lim,h1,h2⟩:=LinM.fld h (List.getElem?_eq_some_iff.1 ht).1
 obtain⟨g1,g2,g3⟩:=tks_get ht
 exact⟨b,lim,h1,h2 0 _ om g1,h2 0 _ om g1,h2 1 _ om g2,h2 2 _ om g3⟩
theorem getD_le{l:List Nat}{m:Nat}(h:∀x∈l,x≤m)(k:Nat):l.getD k 0≤m:=by
 rw[List.getD_eq_getElem?_getD]
 cases e:l[k]? with
 | none=>exact Nat.zero_le _
 | some x=>exact h x (List.mem_of_getElem? e)
theorem lenE_le(k:Nat):lenE.getD k 0≤5:=getD_le dD k
theorem disE_le(k:Nat):disE.getD k 0≤13:=getD_le dD k
theorem fixB_len(s:Nat):(fixB s).length≤9:=by
 unfold fixB codeF
 rw[List.length_reverse,bitsN_len]
 split
 ·simp
 ·split
  ·simp
  ·split <;> simp
theorem tokB_len(t:Tok):(tokB t).length≤64:=by
 unfold tokB
 split
 ·have:=fixB_len t.b.toNat; omega
 ·unfold lenB disB
  have h1:=fixB_len (257+find lenL t.n)
  have h2:=lenE_le (find lenL t.n)
  have h3:=disE_le (find disL t.back)
  simp only[lA,bitsN_len,List.length_reverse]
  omega
theorem tokBs_len(l:List Tok):(l.flatMap tokB).length≤64*l.length:=by
 induction l with
 | nil=>simp
 | cons t r ih=>
  have:=tokB_len t
  simp only[List.flatMap_cons,lA,List.length_cons]; omega
theorem find_len{n:Nat}(h1:3≤n)(h2:n≤258):find lenL n≤28∧lenL.getD (find lenL n) 0≤n:=by
 have h:(List.range 259).all (fun n=>Nat.blt n 3||(decide (find lenL n≤28)&&decide (lenL.getD (find lenL n) 0≤n)))=true:=by decide +kernel
 have:=all_range h (show n<259 by omega)
 have h3:Nat.blt n 3=false:=by rw[Bool.eq_false_iff]; intro h; rw[Nat.blt_eq]at h; omega
 simp only[h3,Bool.false_or,Bool.and_eq_true,decide_eq_true_eq]at this
 exact this
theorem tab_at{n:Nat}{H:AHeap}{u:AVal}{l:List Nat}(h:Cel n H u (ints l)){k:Nat}(hk:k<l.length):aIdxA 1 u (.int .i64 (k:Int))=some (cellP u k)∧oLoad false 1 H (cellP u k)=some (.int .i64 ((l.getD k 0:Nat):Int)):=by
 have e:l[k]?=some (l.getD k 0):=by rw[List.getD_eq_getElem?_getD,List.getElem?_eq_getElem hk]; rfl
 exact⟨h.idx .i64 (by rw[ints_len]; exact hk),h.load (ints_get e)⟩
theorem fin_c3{T:Env}{H:AHeap}(n i j k:Nat)(K:AVal→AHeap→Prop){v:AVal}(h:oLoad true n H (T i)=some v)(hk:K (.tuple [v,T j,T k]) H):fin [.cell true n i,.t j,.t k] K .ret T H:=by
 simp only[fin,wRes,h,OptP_some]; exact hk
theorem src_app{H:AHeap}{s:AVal}{l:Bs}(h:AppN 1 0 H s (byts l) l.length):aSrc 1 H s=some (l.length,byts l):=by
 have:=(h.cel1 h.blk').src
 rwa [byts_len]at this
theorem src_cel{n:Nat}{H:AHeap}{s:AVal}{l:Bs}(h:Cel n H s (byts l)):aSrc 1 H s=some (l.length,byts l):=by
 have:=h.src
 rwa [byts_len]at this
theorem app_bytes{H:AHeap}{s x:AVal}{a l:Bs}(h:AppN 1 0 H s (byts a) a.length)(hx:aSrc 1 H x=some (l.length,byts l))(hl:a.length+l.length≤1000000) :
  ∃s' H',aAppend 1 1 H s x=some (s',H')∧AppN 1 0 H' s' (byts (a++l)) (a++l).length∧H.next≤H'.next∧(∀P,Blk s P→Blk s' fun b=>P b∨H.next≤b)∧∀c,c<H.next→Blk s (c≠·)→H'.get c=H.get c:=by
 obtain⟨s',H',h1,h2,h3,h4,h5⟩:=h.many hx (by rw[byts_len]; omega) (byts_one l) om (bytes:=1) om om
 exact⟨s',H',h1,by rw[byts_append,lA]; exact h2,h3,h4,h5⟩
theorem app_nil(H:AHeap):AppN 1 0 H nilS (byts []) ([]:Bs).length:=AppN.nil _ _ _
theorem app_one{m n k:Nat}{H:AHeap}{s:AVal}{L:List AVal}(h:AppN m n H s L k):s.one=true:=by
 rcases h with⟨rfl,_⟩ | ⟨_,_,rfl,_⟩ <;> rfl
def DW(H:AHeap)(av sv:AVal)(b:Bs)(L:List Bool):Prop:=AppN 1 0 H av (byts b) b.length∧RW H.next H (.agg [sv,.int .i64 0]) L 0
theorem build21(H:AHeap):aBuildSl 2 [.int .u8 0] H [(0,1,.int .u8 120),(1,1,.int .u8 1)]=some (slR H.next 2 (.known 2),H.push (.cells (u8s [120,1]) 0 false)):=_root_.id rfl
theorem ones_u8(l:List Nat):(u8s l).all AVal.one=true:=u8s_one l
theorem app_u8{H:AHeap}{s x:AVal}{a l:List Nat}{n:Nat}(h:AppN 1 0 H s (u8s a) a.length)(hx:Cel n H x (u8s l))(hl:a.length+l.length≤1000000) :
  ∃s' H',aAppend 1 1 H s x=some (s',H')∧AppN 1 0 H' s' (u8s (a++l)) (a++l).length∧H.next≤H'.next∧(∀P,Blk s P→Blk s' fun b=>P b∨H.next≤b)∧∀c,c<H.next→Blk s (c≠·)→H'.get c=H.get c:=by
 have hs:=hx.src
 rw[u8s_len]at hs
 obtain⟨s',H',h1,h2,h3,h4,h5⟩:=h.many hs (by rw[u8s_len]; omega) (u8s_one l) om (bytes:=1) om om
 exact⟨s',H',h1,by rw[u8s_append,lA]; exact h2,h3,h4,h5⟩
theorem app_at{H:AHeap}{s:AVal}{L:List AVal}{k n:Nat}(h:AppN 1 0 H s L k)(hb:Blk s (n≤·)):AppN 1 n H s L k:=by
 rcases h with h | ⟨b,low,rfl,h2,h3,h4,h5,h6,h7⟩
 ·exact .inl h
 ·exact .inr ⟨b,low,rfl,h2,hb _ _ _ rfl,h4,h5,h6,h7⟩
theorem fin_c6{T:Env}{H:AHeap}(i j:Nat)(K:AVal→AHeap→Prop){v:AVal}(h:oLoad true 6 H (T i)=some v)(hk:K (.tuple [v,T j]) H):fin [.cell true 6 i,.t j] K .ret T H:=by
 simp only[fin,wRes,h,OptP_some]; exact hk
def hd(bg:Bool):List Nat:=if bg then [] else [120,1]
variable {sent:Nat}
def dC(sent:Nat)(out kept:AVal)(noted:Nat)(mv:AVal):List AVal:=[.bool true,.bool false,out,kept,.int .i64 0,.int .i64 (sent:Int),.int .i64 (noted:Int),mv,.int .i64 0]
theorem dnew_spec(H:AHeap):ACalls Tryz.prog natT 36 [] H fun w H'=>w=cellR (H.next+2) 9 0∧Row H' (H.next+2) (dC 0 (cellR H.next 3 0) nilS 0 (.map (some (H.next+1))))∧Row H' H.next [.bool true,nilS,.int .i64 0]∧H'.get (H.next+1)=some (.map [] 0)∧H'.next=H.next+3∧Ext H.next H H':=by
 refine acalls_ofN rfl za36 rfl ?_
 simp only[c36,sA,sB,seval]
 refine (bnew_spec H).mono ?_
 rintro _ H1 ⟨rfl,r1,k1,o1⟩
 have mk:aHf .mkMap H1 []=some (.map (some H1.next),H1.push (.map [] 0)):=rfl
 obtain⟨H3,m3,r3,k3,o3⟩:=row_newL (H1.push (.map [] 0)) (dC 0 (cellR H.next 3 0) nilS 0 (.map (some H1.next))) (n:=9) rfl
 have bd:aBuild [.bool false,.bool false,.ptr none,.slice none 0 (.known 0),.int .i64 0,.int .i64 0,.int .i64 0,.map none,.int .i64 0] [(0,1,.bool true),(2,1,cellR H.next 3 0),(7,1,.map (some H1.next))]=some (.agg (dC 0 (cellR H.next 3 0) nilS 0 (.map (some H1.next)))):=rfl
 simp only[sA,sB,seval,mk,bd,cells_agg,m3]
 rw[push_next]at r3 k3 o3
 rw[push_next,k1]
 rw[k1]at r3 k3 o3
 refine⟨tt,r3,(r1.same (get_push_lt om)).same (o3 _ om),?_,om,⟨om,fun c hc=>by rw[o3 c om,get_push_lt om,o1 c om]⟩⟩
 rw[o3 _ om,AHeap.get_push,if_pos k1.symm]
def zC(bg:Bool)(dw:AVal)(sum:Nat):List AVal:=[.bool true,.bool bg,.bool false,dw,.int .u32 (sum:Int)]
theorem trim_spec{H:AHeap}{ow:Nat}{out kept mv:AVal}{noted:Nat}(h:Row H ow (dC sent out kept noted mv))(hs:sent≤20000):ACalls Tryz.prog natT 63 [cellR ow 9 0] H fun w H'=>H=H':=by
 refine acalls_ofN rfl za63 rfl ?_
 have l4:oLoad false 1 H (cellR ow 9 4)=some (.int .i64 0):=row_load h rfl rfl
 have l5:oLoad false 1 H (cellR ow 9 5)=some (.int .i64 (sent:Int)):=row_load h rfl rfl
 have w0:IntKind.i64.wrap ((sent:Int)-0)=(sent:Int):=w64
 have w1:(sent:Int)≤65536:=om
 simp only[c63,sA,sB,seval,nil_cell,fldA,fld0,l4,l5,w0,w1]
 simp only[fin,wRes,OptP_some]
theorem prune_spec{H:AHeap}{ow:Nat}{out kept mv:AVal}{noted:Nat}(h:Row H ow (dC sent out kept noted mv))(hs:sent≤20000):ACalls Tryz.prog natT 81 [cellR ow 9 0] H fun w H'=>H=H':=by
 refine acalls_ofN rfl za81 rfl ?_
 have l8:oLoad false 1 H (cellR ow 9 8)=some (.int .i64 0):=row_load h rfl rfl
 have l5:oLoad false 1 H (cellR ow 9 5)=some (.int .i64 (sent:Int)):=row_load h rfl rfl
 have w0:IntKind.i64.wrap ((sent:Int)-0)=(sent:Int):=w64
 have w1:(sent:Int)<32768:=om
 simp only[c81,sA,sB,seval,nil_cell,fldA,fld0,l8,l5,w0,w1]
 simp only[fin,wRes,OptP_some]
def k3(b:Bs)(i:Nat):List Nat:=[(b.getD i 0).toNat,(b.getD (i+1) 0).toNat,(b.getD (i+2) 0).toNat]
theorem k3_cut{b:Bs}{i:Nat}(h:i+3≤b.length):((byts b).drop i).take 3=u8s (k3 b i):=by
 have e:∀j,j<b.length→b[j]?=some (b.getD j 0):=fun j hj=>by rw[List.getD_eq_getElem?_getD,List.getElem?_eq_getElem hj]; rfl
 apply List.ext_getElem?
 intro j
 by_cases hj:j<3
 ·rw[List.getElem?_take_of_lt hj,List.getElem?_drop,byts_get (e (i+j) om)]
  have:j=0∨j=1∨j=2:=om
  rcases this with rfl | rfl | rfl <;> rfl
 ·rw[List.getElem?_eq_none (by simp; omega),List.getElem?_eq_none (by simp[u8s,k3]; omega)]
theorem three_spec{H:AHeap}{ow:Nat}{out kept mv:AVal}{noted:Nat}{b:Bs}(h:Row H ow (dC sent out kept noted mv))(hn:ow<H.next)(hk:AppN 1 0 H kept (byts b) b.length)(i:Nat)(hi:i+3≤b.length)(hb:b.length≤100000) :
  ACalls Tryz.prog natT 104 [cellR ow 9 0,.int .i64 (i:Int)] H fun w H'=>w=.agg (u8s (k3 b i))∧Ext H.next H H':=by
 refine acalls_ofN rfl za104 rfl ?_
 obtain⟨H1,m1,r1,k1,o1⟩:=row_newL H [.int .u8 0,.int .u8 0,.int .u8 0] (n:=3) rfl
 have E1:Ext H.next H H1:=Ext.of_new k1 o1 rL
 obtain⟨s,ms,cs,bs⟩:=(hk.ext E1).from_ (lo:=i) om
 obtain⟨a,r,rfl,hab,hrd⟩:∃a r,s=.slice (some a) (b.length-i) r∧a.b<H1.next∧rdCells H1 a 3=some (u8s (k3 b i)):=by
  have hl:((byts b).drop i).length=b.length-i:=by simp[byts_len]
  rcases cs with⟨_,e⟩ | ⟨a,r,e,h1,h2⟩
  ·rw[e]at hl; simp at hl; omega
  ·refine⟨a,r,by rw[e,hl],h1,?_⟩
   have:=rd_pre h2 (k:=3) (by rw[hl]; omega)
   rw[this,k3_cut hi]
 have l3:oLoad false 1 H1 (cellR ow 9 3)=some kept:=row_load (h.same (o1 _ (Nat.ne_of_lt hn))) rfl rfl
 have l4:oLoad false 1 H1 (cellR ow 9 4)=some (.int .i64 0):=row_load (h.same (o1 _ (Nat.ne_of_lt hn))) rfl rfl
 have ws:IntKind.i64.wrap (i:Int)=(i:Int):=wrap64 om om
 have e0:(i:Int)-0=(i:Int):=om
 have hble:Nat.ble 3 (b.length-i)=true:=Nat.ble_eq_true_of_le om
 have sa:aPf (.s2a 3) [.slice (some a) (b.length-i) r]=some (.ptr (some a)):=by
  show (bif Nat.ble 3 (b.length-i)&&Nat.blt 0 3 then some (AVal.ptr (some a)) else none)=_
  rw[hble]; rfl
 have la:oLoad true 3 H1 (.ptr (some a))=some (.agg (u8s (k3 b i))):=by simp only[oLoad,hrd,cond_true]
 obtain⟨H2,m2,r2,k2',o2⟩:=row_storeN r1 (n:=3) rfl (xs:=u8s (k3 b i)) rfl (u8s_one _)
 have nc:aNilChk (.ptr (some a))=some (.ptr (some a)):=rfl
 simp only[c104,sA,sB,seval,m1,nil_cell,fldA,fld0,l3,l4,e0,ws,ms,sa,la,m2,nc]
 exact fin_1 _ _ _ (by simp only[sA,sB,seval]; exact row_loadN r2 (n:=3) rfl) ⟨rfl,⟨om,fun c hc=>by rw[o2 c om,o1 c om]⟩⟩
def kv(k:List Nat):AVal:=.agg (u8s k)
def posL(b:Bs)(k:List Nat):Nat→List Nat
 | 0=>[]
 | K+1=>if k3 b K=k then posL b k K++[K] else posL b k K
theorem posL_same(b:Bs)(K:Nat):posL b (k3 b K) (K+1)=posL b (k3 b K) K++[K]:=if_pos rfl
theorem posL_other{b:Bs}{k:List Nat}{K:Nat}(h:k3 b K≠k):posL b k (K+1)=posL b k K:=if_neg h
theorem posL_len(b:Bs)(k:List Nat)(K:Nat):(posL b k K).length≤K:=by
 induction K with
 | zero=>exact Nat.le_refl _
 | succ K ih=>
  unfold posL
  split
  ·rw[lA,List.length_singleton]; omega
  ·omega
theorem posL_mem{b:Bs}{k:List Nat}{K p:Nat}:p∈posL b k K↔p<K∧k3 b p=k:=by
 induction K with
 | zero=>simp[posL]
 | succ K ih=>
  unfold posL
  split
  ·rename_i h
   simp only[List.mem_append,List.mem_singleton,ih]
   constructor
   ·rintro (h1 | rfl)
    ·exact⟨om,h1.2⟩
    ·exact⟨om,h⟩
   ·rintro ⟨h1,h2⟩
    by_cases e:p=K
    ·exact .inr e
    ·exact .inl ⟨om,h2⟩
  ·rename_i h
   rw[ih]
   constructor
   ·rintro ⟨h1,h2⟩; exact⟨om,h2⟩
   ·rintro ⟨h1,h2⟩
    refine⟨?_,h2⟩
    rcases Nat.lt_or_ge p K with h3 | h3
    ·exact h3
    ·exact absurd (by rw[show K=p by omega]; exact h2) h
theorem kEqs_u8:∀(a c:List Nat),a.length=c.length→kEqs (u8s a) (u8s c)=some (decide (a=c))
 | [],[],_=>rfl
 | x::a,y::c,h=>by
  have ih:=kEqs_u8 a c (by simpa using h)
  simp only[u8s,List.map_cons]at ih ⊢
  simp only[kEqs,if_true,eqF_eq]
  by_cases e:x=y
  ·subst e
   simp only[beq_self_eq_true,cond_true,ih,List.cons.injEq,true_and]
  ·have e2:((x:Int)==(y:Int))=false:=by rw[beq_eq_false_iff_ne]; omega
   simp only[e2,cond_false,List.cons.injEq,e,false_and,decide_false]
 | [],_::_,h=>by simp at h
 | _::_,[],h=>by simp at h
theorem kEq_kv{a c:List Nat}(ha:a.length=3)(hc:c.length=3):kEq (.arr 3) (kv a) (kv c)=some (decide (a=c)):=by
 simp only[kEq,kv,u8s_len,ha,hc,Nat.beq_refl,Bool.and_self,cond_true]
 exact kEqs_u8 a c om
theorem isKs_u8(l:List Nat):isKs (u8s l)=true:=by
 induction l with
 | nil=>rfl
 | cons x l ih=>exact ih
theorem isK_kv{k:List Nat}(h:k.length=3):isK (.arr 3) (kv k)=true:=by
 simp only[isK,kv,u8s_len,h,Nat.beq_refl,isKs_u8,Bool.and_self]
theorem kv_inj{a c:List Nat}(h:kv a=kv c):a=c:=by
 simp only[kv,AVal.agg.injEq]at h
 unfold u8s at h
 exact List.map_inj_right (fun x y e=>by simp only[AVal.int.injEq,true_and]at e; omega) |>.1 h
theorem mFind_kv{k:List Nat}(hk:k.length=3):∀(es:List Ent) (i:Nat),(∀e∈es,∃a:List Nat,a.length=3∧e.1=kv a) →
  (∃j e,es[j]?=some e∧e.1=kv k∧mFind (.arr 3) (kv k) es i=some (some (i+j,e)))∨((∀e∈es,e.1≠kv k)∧mFind (.arr 3) (kv k) es i=some none)
 | [],i,_=>.inr ⟨fun e he=>by simp at he,rfl⟩
 | e::r,i,h=>by
  obtain⟨a,ha,ea⟩:=h e (by simp)
  have hq:=kEq_kv hk ha
  by_cases e1:k=a
  ·rw[decide_eq_true e1]at hq
   refine .inl ⟨0,e,rfl,by rw[ea,e1],?_⟩
   unfold mFind
   rw[ea,hq]; rfl
  ·rw[decide_eq_false e1]at hq
   rcases mFind_kv hk r (i+1) (fun e' he=>h e' (by simp[he])) with⟨j,e',h1,h2,h3⟩ | ⟨h1,h2⟩
   ·refine .inl ⟨j+1,e',by simpa using h1,h2,?_⟩
    unfold mFind
    rw[ea,hq]
    simp only[h3,sJ,pJ,and_true]; omega
   ·refine .inr ⟨fun e' he=>?_,?_⟩
    ·rcases List.mem_cons.1 he with rfl | he
     ·rw[ea]; intro x; exact e1 (kv_inj x).symm
     ·exact h1 e' he
    ·unfold mFind
     rw[ea,hq]
     exact h2
theorem mBorn_at:∀(es:List Ent) (i n:Nat) (e:Ent),es[n]?=some e→(∀j e,es[j]?=some e→e.2.2=i+j)→mBorn (i+n) es i=some (i+n,e)
 | [],i,n,e,h,_=>by simp at h
 | x::r,i,0,e,h,hb=>by
  have e1:x=e:=by simpa using h
  subst e1
  have:=hb 0 x rfl
  unfold mBorn
  rw[this,Nat.beq_refl]; rfl
 | x::r,i,n+1,e,h,hb=>by
  have h0:=hb 0 x rfl
  have hr:=mBorn_at r (i+1) n e (by simpa using h) (fun j e he=>by have:=hb (j+1) e (by simpa using he); omega)
  unfold mBorn
  have hne:Nat.beq x.2.2 (i+(n+1))=false:=by rw[beq_dec]; exact decide_eq_false om
  rw[hne,cond_false,show i+(n+1)=i+1+n by omega]
  exact hr
theorem mSet_set:∀(es:List Ent) (i:Nat) (e:Ent),mSet es i e=es.set i e
 | [],_,_=>rfl
 | _::_,0,_=>rfl
 | x::r,i+1,e=>by simp only[mSet,List.set_cons_succ,mSet_set r i e]
def MR(n0:Nat)(τ:Nat→Nat)(H:AHeap)(mb:Nat)(b:Bs)(K:Nat):Prop:=
 ∃es:List Ent,H.get mb=some (.map es es.length)∧(∀i e,es[i]?=some e→e.2.2=i∧∃k:List Nat,k.length=3∧e.1=kv k∧AppN 1 n0 H e.2.1 (ints (posL b k K)) (posL b k K).length∧Blk e.2.1 (τ ·=100+i)) ∧
  (∀(i j:Nat) (e f:Ent),es[i]?=some e→es[j]?=some f→e.1=f.1→i=j)∧(∀k:List Nat,posL b k K≠[]→∃e∈es,e.1=kv k)
theorem MR.keys{n0:Nat}{τ:Nat→Nat}{H:AHeap}{b:Bs}{K:Nat}{es:List Ent}(h:∀i e,es[i]?=some e→e.2.2=i∧∃k:List Nat,k.length=3∧e.1=kv k∧AppN 1 n0 H e.2.1 (ints (posL b k K)) (posL b k K).length∧Blk e.2.1 (τ ·=100+i)):∀e∈es,∃a:List Nat,a.length=3∧e.1=kv a:=by
 intro e he
 obtain⟨i,hi⟩:=List.getElem?_of_mem he
 obtain⟨_,k,h1,h2,_⟩:=h i e hi
 exact⟨k,h1,h2⟩
theorem MR.look{n0:Nat}{τ:Nat→Nat}{H:AHeap}{mb:Nat}{b:Bs}{K:Nat}(h:MR n0 τ H mb b K){k:List Nat}(hk:k.length=3) :
  ∃v,aHf (.mLook (.arr 3) false (.slice none 0 (.known 0))) H [.map (some mb),kv k]=some (v,H)∧AppN 1 n0 H v (ints (posL b k K)) (posL b k K).length:=by
 obtain⟨es,h1,h2,h3,h4⟩:=h
 rcases mFind_kv hk es 0 (MR.keys h2) with⟨j,e,q1,q2,q3⟩ | ⟨q1,q2⟩
 ·obtain⟨_,k',a1,a2,a3,_⟩:=h2 j e q1
  have ek:k'=k:=kv_inj (a2.symm.trans q2)
  subst ek
  refine⟨e.2.1,?_,a3⟩
  simp only[aHf,aMLook,h1,aLookE,isK_kv hk,cond_true,q3,mRet,cond_false]
 ·have hp:posL b k K=[]:=by
   rcases Decidable.em (posL b k K=[]) with h | h
   ·exact h
   ·obtain⟨e,he,hek⟩:=h4 k h
    exact absurd hek (q1 e he)
  refine⟨nilS,?_,by rw[hp]; exact AppN.nil _ _ _⟩
  simp only[aHf,aMLook,h1,aLookE,isK_kv hk,cond_true,q2,mRet,cond_false]; rfl
def ER(n0:Nat)(τ:Nat→Nat)(H:AHeap)(b:Bs)(K:Nat)(es:List Ent):Prop:=
 (∀i e,es[i]?=some e→e.2.2=i∧∃k:List Nat,k.length=3∧e.1=kv k∧AppN 1 n0 H e.2.1 (ints (posL b k K)) (posL b k K).length∧Blk e.2.1 (τ ·=100+i)) ∧
  (∀(i j:Nat) (e f:Ent),es[i]?=some e→es[j]?=some f→e.1=f.1→i=j)∧(∀k:List Nat,posL b k K≠[]→∃e∈es,e.1=kv k)
theorem MR.iff{n0:Nat}{τ:Nat→Nat}{H:AHeap}{mb:Nat}{b:Bs}{K:Nat}:MR n0 τ H mb b K↔∃es:List Ent,H.get mb=some (.map es es.length)∧ER n0 τ H b K es:=Iff.rfl
theorem app_sameN{m n k:Nat}{H H':AHeap}{s:AVal}{L:List AVal}(h:AppN m n H s L k)(hn:H.next≤H'.next)(e:Blk s fun c=>H'.get c=H.get c):AppN m n H' s L k:=by
 rcases h with h | ⟨b,low,rfl,h2,h3,h4,h5,h6⟩
 ·exact .inl h
 ·exact .inr ⟨b,low,rfl,h2,h3,om,(e _ _ _ rfl).trans h5,h6⟩
theorem ER.same{n0:Nat}{τ τ':Nat→Nat}{H H':AHeap}{b:Bs}{K:Nat}{es:List Ent}(h:ER n0 τ H b K es)(hn:H.next≤H'.next)(e:∀c,c<H.next→100≤τ c→H'.get c=H.get c∧τ' c=τ c):ER n0 τ' H' b K es:=by
 obtain⟨h1,h2,h3⟩:=h
 refine⟨fun i x hx=>?_,h2,h3⟩
 obtain⟨q1,k,q2,q3,q4,q5⟩:=h1 i x hx
 have hb:Blk x.2.1 fun c=>c<H.next∧τ c=100+i:=by
  rcases q4 with⟨ev,_⟩ | ⟨c,low,ev,_,_,h4,_⟩
  ·rw[ev]; exact blk_nil _
  ·rw[ev]at q5 ⊢
   exact blk_some ⟨h4,q5 _ _ _ rfl⟩
 exact⟨q1,k,q2,q3,app_sameN q4 hn (hb.mono fun c hc=>(e c hc.1 om).1),hb.mono fun c hc=>by rw[(e c hc.1 om).2]; exact hc.2⟩
theorem entry_spec{n0:Nat}{τ:Nat→Nat}{H:AHeap}{mb:Nat}{b:Bs}{K:Nat}{es:List Ent}(hg:H.get mb=some (.map es es.length))(h:ER n0 τ H b K es){k:List Nat}(hk:k.length=3) :
  ∃es' i v,aHf (.mf (.entry (.arr 3) (.slice none 0 (.known 0)))) H [.map (some mb),kv k]=some (.tuple [v,.int .i64 (Int.ofNat i)],H.set mb (.map es' es'.length))∧es'[i]?=some (kv k,v,i)∧ER n0 τ H b K es':=by
 have h':=h
 obtain⟨h1,h2,h3⟩:=h
 rcases mFind_kv hk es 0 (MR.keys h1) with⟨j,e,q1,q2,q3⟩ | ⟨q1,q2⟩
 ·obtain⟨e1,e2,e3⟩:=e
  simp only at q2
  subst q2
  have hb:e3=j:=(h1 j _ q1).1
  subst hb
  have hset:mSet es e3 (kv k,e2,e3)=es:=by
   rw[mSet_set]
   apply List.ext_getElem?
   intro i
   by_cases hi:i=e3
   ·subst hi
    rw[List.getElem?_set_self (List.getElem?_eq_some_iff.1 q1).1,q1]
   ·rw[List.getElem?_set_ne (Ne.symm hi)]
  refine⟨es,e3,e2,?_,q1,h'⟩
  rw[Nat.zero_add]at q3
  simp only[aHf,aMF,hg,aMf,isK_kv hk,cond_true,q3,hset]
 ·refine⟨es++[(kv k,nilS,es.length)],es.length,nilS,?_,by simp,?_,?_,?_⟩
  ·simp only[aHf,aMF,hg,aMf,isK_kv hk,cond_true,q2,lA,List.length_singleton]; rfl
  ·intro i e he
   by_cases hi:i<es.length
   ·rw[List.getElem?_append_left hi]at he
    exact h1 i e he
   ·have hi2:i=es.length:=by
     have:=(List.getElem?_eq_some_iff.1 he).1
     rw[lA,List.length_singleton]at this; omega
    subst hi2
    simp only[List.getElem?_concat_length,sJ]at he
    subst he
    have hp:posL b k K=[]:=by
     rcases Decidable.em (posL b k K=[]) with h | h
     ·exact h
     ·obtain⟨e,he,hek⟩:=h3 k h
      exact absurd hek (q1 e he)
    exact⟨rfl,k,hk,rfl,by rw[hp]; exact AppN.nil _ _ _,blk_nil _⟩
  ·intro i j e f he hf hef
   have hi:=(List.getElem?_eq_some_iff.1 he).1
   have hj:=(List.getElem?_eq_some_iff.1 hf).1
   rw[lA,List.length_singleton]at hi hj
   by_cases hi2:i<es.length
   ·rw[List.getElem?_append_left hi2]at he
    by_cases hj2:j<es.length
    ·rw[List.getElem?_append_left hj2]at hf
     exact h2 i j e f he hf hef
    ·have:j=es.length:=om
     subst this
     simp only[List.getElem?_concat_length,sJ]at hf
     subst hf
     exact absurd hef (q1 e (List.mem_of_getElem? he))
   ·have:i=es.length:=om
    subst this
    simp only[List.getElem?_concat_length,sJ]at he
    subst he
    by_cases hj2:j<es.length
    ·rw[List.getElem?_append_left hj2]at hf
     exact absurd hef.symm (q1 f (List.mem_of_getElem? hf))
    ·omega
  ·intro k' hk'
   obtain⟨e,he,hek⟩:=h3 k' hk'
   exact⟨e,by simp[he],hek⟩
theorem ints_append(a c:List Nat):ints (a++c)=ints a++ints c:=by simp[ints]
theorem note_spec{n0:Nat}{τ:Nat→Nat}{H:AHeap}{mb:Nat}{b:Bs}{K:Nat}(h:MR n0 τ H mb b K)(hn0:n0≤H.next)(hmb:mb<n0)(hK:K≤100000)(tz:∀c,H.next≤c→τ c=0) :
  ∃i v v' H1 H2 H3 τ',aHf (.mf (.entry (.arr 3) (.slice none 0 (.known 0)))) (H.push (.cells [.int .i64 (K:Int)] 0 false)) [.map (some mb),kv (k3 b K)]=some (.tuple [v,.int .i64 (Int.ofNat i)],H1) ∧
   aAppend 1 8 H1 v (oneS H)=some (v',H2)∧aHf (.mf .store) H2 [.map (some mb),.int .i64 (Int.ofNat i),v']=some (.tuple [],H3)∧MR n0 τ' H3 mb b (K+1)∧H.next≤H3.next∧(∀c,H3.next≤c→τ' c=0)∧(∀c,c<H.next→τ' c=τ c∧(c≠mb→τ c<100→H3.get c=H.get c))∧H1.next=H.next+1∧(∀c,c<H.next→c≠mb→H1.get c=H.get c):=by
 obtain⟨es,hg,hE⟩:=MR.iff.1 h
 obtain⟨Hb,hHb⟩:∃G,G=H.push (.cells [.int .i64 (K:Int)] 0 false):=⟨_,rfl⟩
 have kb:Hb.next=H.next+1:=by rw[hHb]; rfl
 have ob:∀c,c<H.next→Hb.get c=H.get c:=fun c hc=>by rw[hHb]; exact get_push_lt hc
 have gb:Hb.get H.next=some (.cells [.int .i64 (K:Int)] 0 false):=by rw[hHb,AHeap.get_push,if_pos rfl]
 have hgb:Hb.get mb=some (.map es es.length):=by rw[ob _ om]; exact hg
 have hEb:ER n0 τ Hb b K es:=hE.same om fun c hc _=>⟨ob c hc,rfl⟩
 obtain⟨es',i,v,m1,q1,hE'⟩:=entry_spec hgb hEb (k:=k3 b K) rfl
 obtain⟨H1,hH1⟩:∃G,G=Hb.set mb (.map es' es'.length):=⟨_,rfl⟩
 have k1:H1.next=Hb.next:=by rw[hH1]; rfl
 have o1:∀c,c≠mb→H1.get c=Hb.get c:=fun c hc=>by rw[hH1,AHeap.get_set,if_neg hc]
 have g1:H1.get mb=some (.map es' es'.length):=by rw[hH1,AHeap.get_set,if_pos rfl]
 have hE1:ER n0 τ H1 b K es':=by
  obtain⟨a1,a2,a3⟩:=hE'
  refine⟨fun j x hx=>?_,a2,a3⟩
  obtain⟨p1,k,p2,p3,p4,p5⟩:=a1 j x hx
  refine⟨p1,k,p2,p3,app_sameN p4 om ?_,p5⟩
  rcases p4 with⟨ev,_⟩ | ⟨c,low,ev,_,h4,_⟩
  ·rw[ev]; exact blk_nil _
  ·rw[ev]; exact blk_some (o1 c om)
 obtain⟨a1,a2,a3⟩:=hE1
 obtain⟨_,k,p2,p3,p4,p5⟩:=a1 i _ q1
 have ek:k3 b K=k:=kv_inj p3
 subst ek
 have hsrc:aSrc 1 H1 (oneS H)=some (1,[.int .i64 (K:Int)]):=by
  have g:H1.get H.next=some (.cells [.int .i64 (K:Int)] 0 false):=(o1 _ om).trans gb
  have:=rd_whole g (Nat.zero_le _)
  simp only[List.length_cons,List.length_nil,Nat.zero_add]at this
  simp only[aSrc,oneS,Nat.mul_one,this]
 have pb:Blk v fun c=>n0≤c∧c<H1.next∧τ c=100+i:=by
  rcases p4 with⟨ev,_⟩ | ⟨c,low,ev,_,h3,h4,_⟩
  ·simp only at ev; rw[ev]; exact blk_nil _
  ·simp only at ev p5
   rw[ev]at p5 ⊢
   exact blk_some ⟨h3,h4,p5 _ _ _ rfl⟩
 have pl:=posL_len b (k3 b K) K
 have p40:AppN 1 0 H1 v (ints (posL b (k3 b K) K)) (posL b (k3 b K) K).length:=AppN.samN' p4 (Nat.zero_le _) rL fun _ _ _=>rfl
 obtain⟨v',H2,m2,A2,n2,b2,o2⟩:=p40.many hsrc rfl rfl om (bytes:=8) om om
 have g2:H2.get mb=some (.map es' es'.length):=(o2 mb om (pb.mono fun c hc=>om)).trans g1
 have hborn:=mBorn_at es' 0 i _ q1 fun j e he=>by rw[(a1 j e he).1,Nat.zero_add]
 rw[Nat.zero_add]at hborn
 obtain⟨es2,hes2⟩:∃l,l=es'.set i (kv (k3 b K),v',i):=⟨_,rfl⟩
 have l2:es2.length=es'.length:=by rw[hes2,List.length_set]
 have m3:aHf (.mf .store) H2 [.map (some mb),.int .i64 (Int.ofNat i),v']=some (.tuple [],H2.set mb (.map es2 es'.length)):=by
  simp only[aHf,aMF,g2,aMf,hborn,mSet_set,← hes2]
 obtain⟨H3,hH3⟩:∃G,G=H2.set mb (.map es2 es'.length):=⟨_,rfl⟩
 have k3':H3.next=H2.next:=by rw[hH3]; rfl
 have o3:∀c,c≠mb→H3.get c=H2.get c:=fun c hc=>by rw[hH3,AHeap.get_set,if_neg hc]
 have g3:H3.get mb=some (.map es2 es2.length):=by rw[hH3,AHeap.get_set,if_pos rfl,l2]
 have hil:=(List.getElem?_eq_some_iff.1 q1).1
 have nb:Blk v' fun c=>n0≤c∧upT τ H1 H2 (100+i) c=100+i:=by
  refine ((b2 _ pb).and A2.blk').mono fun c hc=>?_
  rcases hc.1 with hc1 | hc1
  ·exact⟨hc1.1,by rw[upT_old hc1.2.1]; exact hc1.2.2⟩
  ·exact⟨om,upT_new hc1 hc.2⟩
 have key:∀j e,es2[j]?=some e→∃e',es'[j]?=some e'∧e.1=e'.1∧(j≠i→e=e'):=by
  intro j e he
  by_cases hj:j=i
  ·subst hj
   rw[hes2,List.getElem?_set_self hil,sJ]at he
   exact⟨_,q1,by rw[← he],fun h=>absurd rfl h⟩
  ·rw[hes2,List.getElem?_set_ne (Ne.symm hj)]at he
   exact⟨e,he,rfl,fun _=>rfl⟩
 refine⟨i,v,v',H1,H2,H3,upT τ H1 H2 (100+i),by rw[← hHb,hH1]; exact m1,m2,by rw[hH3]; exact m3,MR.iff.2 ⟨es2,g3,?_,?_,?_⟩,om,fun c hc=>upT_z n2 om,fun c hc=>⟨upT_old om,fun h1 h2=>?_⟩,om,fun c hc hd=>by rw[o1 c hd,ob c hc]⟩
 ·intro j e he
  by_cases hj:j=i
  ·subst hj
   rw[hes2,List.getElem?_set_self hil,sJ]at he
   subst he
   refine⟨rfl,k3 b K,rfl,rfl,?_,nb.mono fun c hc=>hc.2⟩
   rw[posL_same,ints_append,lA]
   exact app_at (A2.same om (nb.mono fun c hc=>o3 c om)) (nb.mono fun c hc=>hc.1)
  ·rw[hes2,List.getElem?_set_ne (Ne.symm hj)]at he
   obtain⟨r1,k',r2,r3,r4,r5⟩:=a1 j e he
   have hne:k3 b K≠k':=fun e'=>hj (a2 j i _ _ he q1 (by rw[r3,← e']))
   have rb:Blk e.2.1 fun c=>n0≤c∧c<H1.next∧τ c=100+j:=by
    rcases r4 with⟨ev,_⟩ | ⟨c,low,ev,_,h3,h4,_⟩
    ·rw[ev]; exact blk_nil _
    ·rw[ev]at r5 ⊢
     exact blk_some ⟨h3,h4,r5 _ _ _ rfl⟩
   refine⟨r1,k',r2,r3,?_,rb.mono fun c hc=>by rw[upT_old hc.2.1]; exact hc.2.2⟩
   rw[posL_other hne]
   exact app_sameN r4 om (rb.mono fun c hc=>by rw[o3 c om,o2 c hc.2.1 (pb.mono fun d hd=>by rintro rfl; omega)])
 ·intro j l e f he hf hef
  obtain⟨e',h1,h2,_⟩:=key j e he
  obtain⟨f',h3,h4,_⟩:=key l f hf
  exact a2 j l e' f' h1 h3 (by rw[← h2,← h4]; exact hef)
 ·intro k' hk'
  by_cases hkk:k3 b K=k'
  ·subst hkk
   exact⟨_,List.mem_of_getElem? (by rw[hes2,List.getElem?_set_self hil]),rfl⟩
  ·rw[posL_other hkk]at hk'
   obtain⟨e,he,hek⟩:=a3 k' hk'
   obtain⟨j,hj⟩:=List.getElem?_of_mem he
   have hji:j≠i:=by
    rintro rfl
    rw[q1,sJ]at hj
    subst hj
    exact hkk (kv_inj hek)
   exact⟨e,List.mem_of_getElem? (i:=j) (by rw[hes2,List.getElem?_set_ne (Ne.symm hji)]; exact hj),hek⟩
 ·rw[o3 c h1,o2 c om (pb.mono fun d hd=>by rintro rfl; omega),o1 c h1,ob c hc]
def stepF(b:Bs)(i m p:Nat)(x:Nat×Nat):Nat×Nat:=if x.1<run b p i m then (run b p i m,i-p) else x
def scanF(b:Bs)(i m:Nat)(l:List Nat):Nat→Nat×Nat→Nat×Nat
 | 0,x=>x
 | n+1,x=>scanF b i m l n (stepF b i m (l.getD n 0) x)
theorem scanF_pre(b:Bs)(i m:Nat)(l r:List Nat):∀(n:Nat) (x:Nat×Nat),n≤l.length→scanF b i m (l++r) n x=scanF b i m l n x
 | 0,_,_=>rfl
 | n+1,x,h=>by
  have e:(l++r).getD n 0=l.getD n 0:=by
   rw[List.getD_eq_getElem?_getD,List.getD_eq_getElem?_getD,List.getElem?_append_left om]
  simp only[scanF,e]
  exact scanF_pre b i m l r n _ om
theorem scanF_snoc(b:Bs)(i m:Nat)(l:List Nat)(p:Nat)(x:Nat×Nat):scanF b i m (l++[p]) (l++[p]).length x=scanF b i m l l.length (stepF b i m p x):=by
 rw[lA,List.length_singleton]
 have e:(l++[p]).getD l.length 0=p:=by rw[List.getD_eq_getElem?_getD,List.getElem?_concat_length]; rfl
 simp only[scanF,e]
 exact scanF_pre b i m l [p] _ _ rL
theorem k3_eq{b:Bs}{p i:Nat}(hp:p+3≤b.length)(hi:i+3≤b.length):k3 b p=k3 b i↔∀j,j<3→b[p+j]?=b[i+j]?:=by
 have e:∀j,j<b.length→b[j]?=some (b.getD j 0):=fun j hj=>by rw[List.getD_eq_getElem?_getD,List.getElem?_eq_getElem hj]; rfl
 constructor
 ·intro h j hj
  simp only[k3,List.cons.injEq,and_true]at h
  obtain⟨h0,h1,h2⟩:=h
  rw[e _ om,e _ om]
  have:j=0∨j=1∨j=2:=om
  rcases this with rfl | rfl | rfl
  ·exact congrArg some (UInt8.toNat_inj.1 h0)
  ·exact congrArg some (UInt8.toNat_inj.1 h1)
  ·exact congrArg some (UInt8.toNat_inj.1 h2)
 ·intro h
  have g:∀j,j<3→b.getD (p+j) 0=b.getD (i+j) 0:=fun j hj=>by
   have:=h j hj
   rw[e _ om,e _ om]at this
   exact Option.some.inj this
  simp only[k3]
  have g0:=g 0 om
  have g1:=g 1 om
  have g2:=g 2 om
  simp only[Nat.add_zero]at g0
  rw[g0,g1,g2]
theorem run_three{b:Bs}{p i m:Nat}(hm:3≤m)(hp:p+3≤b.length)(hi:i+3≤b.length):3≤run b p i m↔k3 b p=k3 b i:=by
 rw[k3_eq hp hi]
 constructor
 ·intro h j hj
  exact run_at b m p i j om
 ·intro h
  rcases Nat.lt_or_ge (run b p i m) 3 with h1 | h1
  ·exact absurd (h _ h1) (run_stop b m p i om)
  ·exact h1
def Both(i:Nat)(x y:Nat×Nat):Prop:=(x.1<3∧y=(0,0))∨(3≤x.1∧y=(x.1,i-x.2))
theorem both_scan{b:Bs}{i m:Nat}(hm:3≤m)(hi:i+3≤b.length):∀(p:Nat) (x y:Nat×Nat),p≤i→Both i x y→Both i (best b i m p x) (scanF b i m (posL b (k3 b i) p) (posL b (k3 b i) p).length y)
 | 0,x,y,_,h=>h
 | p+1,x,y,hp,h=>by
  have h3:=run_three (b:=b) (p:=p) hm om hi
  simp only[best]
  by_cases hk:k3 b p=k3 b i
  ·have e:posL b (k3 b i) (p+1)=posL b (k3 b i) p++[p]:=if_pos hk
   rw[e,scanF_snoc]
   have hr:=h3.2 hk
   refine both_scan hm hi p _ _ om ?_
   unfold stepF
   rcases h with⟨h1,rfl⟩ | ⟨h1,rfl⟩
   ·rw[if_pos om,if_pos (by simp only; omega)]
    exact .inr ⟨hr,rfl⟩
   ·by_cases hlt:x.1<run b p i m
    ·rw[if_pos hlt,if_pos hlt]
     exact .inr ⟨hr,rfl⟩
    ·rw[if_neg hlt,if_neg hlt]
     exact .inr ⟨h1,rfl⟩
  ·have e:posL b (k3 b i) (p+1)=posL b (k3 b i) p:=if_neg hk
   rw[e]
   have hr:¬3≤run b p i m:=fun h=>hk (h3.1 h)
   refine both_scan hm hi p _ _ om ?_
   rcases h with⟨h1,rfl⟩ | ⟨h1,rfl⟩
   ·refine .inl ⟨?_,rfl⟩
    split
    ·simp only; omega
    ·exact h1
   ·rw[if_neg om]
    exact .inr ⟨h1,rfl⟩
def matchG(b:Bs)(i to:Nat):Nat×Nat:=if mlen i to<3 then (0,0) else scanF b i (mlen i to) (posL b (k3 b i) i) (posL b (k3 b i) i).length (0,0)
theorem matchG_both{b:Bs}{i to:Nat}(hi:i<to)(hto:to≤b.length):Both i (matchF b i to) (matchG b i to):=by
 unfold matchG
 by_cases h:mlen i to<3
 ·rw[if_pos h]
  refine .inl ⟨?_,rfl⟩
  have hs:=best_spec b i (mlen i to) i (0,0) rL (.inl rfl)
  rcases hs with hs | ⟨_,h2⟩
  ·show (best b i (mlen i to) i (0,0)).1<3
   omega
  ·show (best b i (mlen i to) i (0,0)).1<3
   have:=run_le b (best b i (mlen i to) i (0,0)).2 i (mlen i to)
   omega
 ·rw[if_neg h]
  have hm:mlen i to=min 258 (to-i):=rfl
  exact both_scan om om i (0,0) (0,0) rL (.inl ⟨by simp,rfl⟩)
theorem scan_full(b:Bs)(i m:Nat)(l:List Nat):∀(n:Nat) (x:Nat×Nat),m≤x.1→scanF b i m l n x=x
 | 0,_,_=>rfl
 | n+1,x,h=>by
  have e:stepF b i m (l.getD n 0) x=x:=by
   unfold stepF
   have:=run_le b (l.getD n 0) i m
   rw[if_neg om]
  simp only[scanF,e]
  exact scan_full b i m l n x h
theorem run_cut{b:Bs}{p i m j:Nat}(h:b[p+j]?≠b[i+j]?):run b p i m≤j:=by
 rcases Nat.lt_or_ge j (run b p i m) with h1 | h1
 ·exact absurd (run_at b m p i j h1) h
 ·exact h1
variable {sent:Nat}
def Fm(mb ow:Nat)(τ:Nat→Nat)(H:AHeap)(τ':Nat→Nat)(H':AHeap):Prop:=H.next≤H'.next∧∀c,c<H.next→τ' c=τ c∧(c≠mb→c≠ow→τ c<100→H'.get c=H.get c)
theorem Fm.refl(mb ow:Nat)(τ:Nat→Nat)(H:AHeap):Fm mb ow τ H τ H:=⟨Nat.le_refl _,fun _ _=>⟨rfl,fun _ _ _=>rfl⟩⟩
theorem Fm.trans{mb ow:Nat}{τ τ' τ'':Nat→Nat}{H H' H'':AHeap}(h:Fm mb ow τ H τ' H')(k:Fm mb ow τ' H' τ'' H''):Fm mb ow τ H τ'' H'':=
 ⟨Nat.le_trans h.1 k.1,fun c hc=>by
  obtain⟨e1,e2⟩:=h.2 c hc
  obtain⟨e3,e4⟩:=k.2 c (Nat.lt_of_lt_of_le hc h.1)
  exact⟨e3.trans e1,fun h1 h2 h3=>(e4 h1 h2 (by rw[e1]; exact h3)).trans (e2 h1 h2 h3)⟩⟩
theorem Fm.of_ext{mb ow:Nat}{τ:Nat→Nat}{H H':AHeap}(e:Ext H.next H H'):Fm mb ow τ H τ H':=⟨e.next,fun c hc=>⟨rfl,fun _ _ _=>e.old c hc⟩⟩
theorem MR.ext{n0:Nat}{τ:Nat→Nat}{H H':AHeap}{mb:Nat}{b:Bs}{K:Nat}(h:MR n0 τ H mb b K)(hmb:mb<H.next)(e:Ext H.next H H'):MR n0 τ H' mb b K:=by
 obtain⟨es,h1,h2⟩:=MR.iff.1 h
 exact MR.iff.2 ⟨es,(e.old _ hmb).trans h1,h2.same e.next fun c hc _=>⟨e.old c hc,rfl⟩⟩
structure PW(sent:Nat)(n0:Nat)(τ:Nat→Nat)(H:AHeap)(ow mb:Nat)(out kept:AVal)(b:Bs)(K:Nat):Prop where
 row:Row H ow (dC sent out kept K (.map (some mb)))
 kp:AppN 1 0 H kept (byts b) b.length
 kb:Blk kept fun c=>c<H.next∧(τ c<100∧τ c≠6)∧c≠mb∧c≠ow
 map:MR n0 τ H mb b K
 own:ow<n0
 mbn:mb<n0
 ne:ow≠mb
 tow:τ ow<100
 n0n:n0≤H.next
 tz:∀c,H.next≤c→τ c=0
theorem PW.ext{n0:Nat}{τ:Nat→Nat}{H H':AHeap}{ow mb:Nat}{out kept:AVal}{b:Bs}{K:Nat}(h:PW sent n0 τ H ow mb out kept b K)(e:Ext H.next H H'):PW sent n0 τ H' ow mb out kept b K:=
 ⟨h.row.same (e.old _ (Nat.lt_of_lt_of_le h.own h.n0n)),h.kp.ext e,h.kb.mono fun c hc=>⟨Nat.lt_of_lt_of_le hc.1 e.next,hc.2⟩,h.map.ext (Nat.lt_of_lt_of_le h.mbn h.n0n) e,h.own,h.mbn,h.ne,h.tow,Nat.le_trans h.n0n e.next,fun c hc=>h.tz c (Nat.le_trans e.next hc)⟩
theorem match_note{n0:Nat}{τ:Nat→Nat}{H:AHeap}{ow mb:Nat}{out kept:AVal}{b:Bs}{K:Nat}(P:PW sent n0 τ H ow mb out kept b K)(hK:K≤20000) :
  ∃i v v' H1 H2 H3 H4 τ',aHf (.mf (.entry (.arr 3) (.slice none 0 (.known 0)))) (H.push (.cells [.int .i64 (K:Int)] 0 false)) [.map (some mb),.agg (u8s (k3 b K))]=some (.tuple [v,.int .i64 (Int.ofNat i)],H1) ∧
   aAppend 1 8 H1 v (oneS H)=some (v',H2)∧aHf (.mf .store) H2 [.map (some mb),.int .i64 (Int.ofNat i),v']=some (.tuple [],H3)∧oLoad false 1 H3 (cellR ow 9 6)=some (.int .i64 (K:Int))∧oStore 1 H3 (cellR ow 9 6) (.int .i64 ((K+1:Nat):Int))=some H4∧PW sent n0 τ' H4 ow mb out kept b (K+1)∧Fm mb ow τ H τ' H4:=by
 obtain⟨i,v,v',H1,H2,H3,τ',m1,m2,m3,hM,hn,tz',fr,_,_⟩:=note_spec P.map P.n0n P.mbn om P.tz
 have o1:=P.own
 have o2:=P.n0n
 have R3:Row H3 ow (dC sent out kept K (.map (some mb))):=P.row.same ((fr ow om).2 P.ne P.tow)
 obtain⟨H4,m4,r4,k4,q4⟩:=row_st R3 (n:=9) rfl (i:=6) om (x:=.int .i64 ((K+1:Nat):Int)) rfl rfl
 refine⟨i,v,v',H1,H2,H3,H4,τ',m1,m2,m3,row_load R3 rfl rfl,m4,⟨r4,P.kp.same om (P.kb.mono fun c hc=>by rw[q4 c hc.2.2.2,(fr c om).2 hc.2.2.1 hc.2.1.1]),P.kb.mono fun c hc=>⟨om,by rw[(fr c om).1]; exact hc.2.1,hc.2.2⟩,?_,P.own,P.mbn,P.ne,by rw[(fr ow om).1]; exact P.tow,om,fun c hc=>tz' c om⟩,om,fun c hc=>⟨(fr c hc).1,fun h1 h2 h3=>by rw[q4 c h2]; exact (fr c hc).2 h1 h3⟩⟩
 obtain⟨es,h1,h2⟩:=MR.iff.1 hM
 refine MR.iff.2 ⟨es,(q4 _ (Ne.symm P.ne)).trans h1,h2.same om fun c hc ht=>⟨q4 c ?_,rfl⟩⟩
 rintro rfl
 rw[(fr c om).1]at ht
 have:=P.tow
 omega
variable {sent:Nat}
def restM:List Nat:=[1,1,1,1]
theorem aeq_map(r:Nat):aeq (.map (some r)) (.map (some r))=true:=by simp[aeq]
theorem aeq_k3(b:Bs)(i:Nat):aeq (.agg (u8s (k3 b i))) (.agg (u8s (k3 b i)))=true:=by simp[aeq,aeqs,u8s,k3,eqF_eq]
theorem match_pre{n0:Nat}{τ:Nat→Nat}{H:AHeap}{ow mb:Nat}{out kept:AVal}{b:Bs}{K:Nat}(P:PW sent n0 τ H ow mb out kept b K)(i to:Nat)(hKi:K≤i)(hi:i<to)(hto:to≤b.length)(hb:b.length≤20000)(Q:AVal→AHeap→Prop)
  (h0:mlen i to<3→Q (.tuple [.int .i64 0,.int .i64 0]) H)
  (hrest:3≤mlen i to→∀(T2:Env) (H2:AHeap) (τ2:Nat→Nat),T2 0=cellR ow 9 0→T2 1=.int .i64 (i:Int)→T2 2=.int .i64 (to:Int)→T2 6=.int .i64 0→T2 7=.int .i64 0→T2 8=.int .i64 ((mlen i to:Nat):Int)→PW sent n0 τ2 H2 ow mb out kept b i→Fm mb ow τ H τ2 H2→wp (ACalls Tryz.prog natT) (hold (restP restM c82.body)) (fin c82.res Q) T2 H2) :
  ACalls Tryz.prog natT 82 [cellR ow 9 0,.int .i64 (i:Int),.int .i64 (to:Int)] H Q:=by
 refine acalls_ofN rfl za82 rfl ?_
 refine wp_cutP restM ?_
 have ws:IntKind.i64.wrap ((to:Int)-(i:Int))=((to-i:Nat):Int):=by rw[wrap64 om om]; omega
 have hm:mlen i to=min 258 (to-i):=rfl
 have emin:(if ((to-i:Nat):Int)<258 then ((to-i:Nat):Int) else 258)=((mlen i to:Nat):Int):=by split <;> omega
 by_cases h3:mlen i to<3
 ·have h3':((mlen i to:Nat):Int)<3:=om
  simp only[c82,restM,sC,sA,sB,seval,ws,pf_min,emin,h3']
  exact h0 h3
 ·have h3':¬((mlen i to:Nat):Int)<3:=om
  have hrest:=hrest om
  generalize mlen i to=m at *
  simp only[c82,restM]at hrest
  simp only[c82,restM,sC,sA,sB,seval,ws,pf_min,emin,h3']
  refine aw_loop (fun q (T:Env) H'=>∃(K':Nat) (τ':Nat→Nat),K'≤i∧q=i-K'∧T 0=cellR ow 9 0∧T 1=.int .i64 (i:Int)∧T 2=.int .i64 (to:Int)∧T 6=.int .i64 0∧T 7=.int .i64 0∧T 8=.int .i64 (m:Int)∧PW sent n0 τ' H' ow mb out kept b K'∧Fm mb ow τ H τ' H') (i-K)
   ⟨K,τ,hKi,rfl,by simp only[sA,sB,seval]; try rfl,by simp only[sA,sB,seval]; try rfl,by simp only[sA,sB,seval]; try rfl,by simp only[sA,sB,seval]; try rfl,by simp only[sA,sB,seval]; try rfl,by simp only[sA,sB,seval]; try rfl,P,Fm.refl _ _ _ _⟩ ?_
  rintro q T H' ⟨K',τ',hK',rfl,g0,g1,g2,g6,g7,g8,P',F'⟩
  have l6:oLoad false 1 H' (cellR ow 9 6)=some (.int .i64 (K':Int)):=row_load P'.row rfl rfl
  by_cases hlt:K'<i
  ·have hlt':(K':Int)<(i:Int):=om
   have o1:=P'.own
   have o2:=P'.n0n
   simp only[sA,sB,seval,g0,g1,g2,g6,g7,g8,nil_cell,fldA,fld0,l6,hlt']
   refine (three_spec P'.row om P'.kp K' om om).mono ?_
   rintro _ Ha ⟨rfl,Ea⟩
   have na:=Ea.next
   obtain⟨Hb,mb1,rb,kb,ob⟩:=row_newL Ha [.int .u8 0,.int .u8 0,.int .u8 0] (n:=3) rfl
   obtain⟨Hc,mc,rc,kc,oc⟩:=row_storeN rb (n:=3) rfl (xs:=u8s (k3 b K')) rfl (u8s_one _)
   have Ec:Ext H'.next H' Hc:=⟨om,fun c hc=>by rw[oc c om,ob c om]; exact Ea.old c hc⟩
   have Pc:=P'.ext Ec
   obtain⟨j,v,v',H1,H2,H3,H4,τ2,m1,m2,m3,l63,m4,P4,F4⟩:=match_note Pc om
   have m1':aHf (.mf (.entry (.arr 3) (.slice none 0 (.known 0)))) (Hc.push (.cells [.int .i64 (K':Int)] 0 false)) [.map (some mb),.agg (u8s (k3 b K'))]=some (.tuple [v,.int .i64 (j:Int)],H1):=m1
   have m3':aHf (.mf .store) H2 [.map (some mb),.int .i64 (j:Int),v']=some (.tuple [],H3):=m3
   have l7c:oLoad false 1 Hc (cellR ow 9 7)=some (.map (some mb)):=row_load Pc.row rfl rfl
   have l6c:oLoad false 1 Hc (cellR ow 9 6)=some (.int .i64 (K':Int)):=row_load Pc.row rfl rfl
   have lkc:oLoad true 3 Hc (cellR Ha.next 3 0)=some (.agg (u8s (k3 b K'))):=row_loadN rc (n:=3) rfl
   have bld:=build1 (.int .i64 0) Hc (x:=.int .i64 (K':Int)) rfl
   have l7d:oLoad false 1 (Hc.push (.cells [.int .i64 (K':Int)] 0 false)) (cellR ow 9 7)=some (.map (some mb)):=row_load (Pc.row.same (get_push_lt om)) rfl rfl
   have lkd:oLoad true 3 (Hc.push (.cells [.int .i64 (K':Int)] 0 false)) (cellR Ha.next 3 0)=some (.agg (u8s (k3 b K'))):=row_loadN (rc.same (get_push_lt om)) (n:=3) rfl
   simp only[sA,sB,seval,g0,g1,g2,g6,g7,g8,mb1,mc]
   refine aw_drawC rfl ?_
   simp only[sA,sB,seval,sR,g0,nil_cell,fldA,fld0,l7c,lkc,l6c,bld,m1',ext_0,ext_1,m2,m3']
   simp only[ck_nil',ck_cons,ckP_load,ckP_nil,ck_end,and_true,true_and,List.map_cons,List.map_nil,sA,sB,seval,g0,fldA,fld0]
   refine⟨⟨⟨_,rfl,fun _=>⟨_,l7d,aeq_map _⟩⟩,⟨_,rfl,fun _=>⟨_,lkd,aeq_k3 _ _⟩⟩⟩,?_⟩
   simp only[sA,sB,seval,g0,g1,g2,g6,g7,g8,nil_cell,fldA,fld0,l63,wrap1 K' om,m4]
   exact⟨_,om,K'+1,τ2,om,rfl,tt,tt,tt,tt,tt,tt,P4,F'.trans ((Fm.of_ext Ec).trans F4)⟩
  ·have hlt':¬(K':Int)<(i:Int):=om
   obtain rfl:K'=i:=om
   simp only[sA,sB,seval,g0,g1,g2,g6,g7,g8,nil_cell,fldA,fld0,l6,hlt']
   exact hrest _ _ τ' (by simp only[sA,sB,seval,g0]) (by simp only[sA,sB,seval,g1]) (by simp only[sA,sB,seval,g2]) (by simp only[sA,sB,seval,g6]) (by simp only[sA,sB,seval,g7]) (by simp only[sA,sB,seval,g8]) P' F'
variable {sent:Nat}
theorem match_rest{n0:Nat}{τ:Nat→Nat}{H:AHeap}{ow mb:Nat}{out kept:AVal}{b:Bs}{T:Env}{i to m:Nat}(P:PW sent n0 τ H ow mb out kept b i)(hm:m=mlen i to)(hm3:3≤m)(hi:i<to)(hto:to≤b.length)(hb:b.length≤20000)(Q:AVal→AHeap→Prop)
  (g0:T 0=cellR ow 9 0) (g1:T 1=.int .i64 (i:Int)) (g6:T 6=.int .i64 0) (g7:T 7=.int .i64 0) (g8:T 8=.int .i64 (m:Int))
  (hQ:∀H2,Ext H.next H H2→Q (.tuple [.int .i64 (((matchG b i to).1:Nat):Int),.int .i64 (((matchG b i to).2:Nat):Int)]) H2) :
  wp (ACalls Tryz.prog natT) (hold (restP restM c82.body)) (fin c82.res Q) T H:=by
 have hmm:mlen i to=min 258 (to-i):=rfl
 have l3:oLoad false 1 H (cellR ow 9 3)=some kept:=row_load P.row rfl rfl
 have l4:oLoad false 1 H (cellR ow 9 4)=some (.int .i64 0):=row_load P.row rfl rfl
 have l7:oLoad false 1 H (cellR ow 9 7)=some (.map (some mb)):=row_load P.row rfl rfl
 have e0:(i:Int)-0=(i:Int):=om
 have wi:IntKind.i64.wrap (i:Int)=(i:Int):=wrap64 om om
 obtain⟨here,mh,ch,_⟩:=P.kp.slice (lo:=i) (hi:=i+m) om om
 have eh:((byts b).drop i).take (i+m-i)=byts ((b.drop i).take m):=by rw[show i+m-i=m by omega]; simp[byts]
 rw[eh]at ch
 have o1:=P.own
 have o2:=P.n0n
 simp only[c82,restP,restM,hold_eq,sA,sB,seval,g0,g1,g6,g7,g8,nil_cell,fldA,fld0,l3,l4,e0,wi,wrapN i m om,mh]
 refine aw_drawC rfl ?_
 simp only[sA,sB,seval,sR,g0,g1,nil_cell,fldA,fld0,l7]
 refine (three_spec P.row om P.kp i om om).mono ?_
 rintro _ Ha ⟨rfl,Ea⟩
 have Pa:=P.ext Ea
 have l7a:oLoad false 1 Ha (cellR ow 9 7)=some (.map (some mb)):=row_load Pa.row rfl rfl
 have l3a:oLoad false 1 Ha (cellR ow 9 3)=some kept:=row_load Pa.row rfl rfl
 have l4a:oLoad false 1 Ha (cellR ow 9 4)=some (.int .i64 0):=row_load Pa.row rfl rfl
 obtain⟨v,ml,Av⟩:=Pa.map.look (k:=k3 b i) rfl
 have ml':aHf (.mLook (.arr 3) false (.slice none 0 (.known 0))) Ha [.map (some mb),.agg (u8s (k3 b i))]=some (v,Ha):=ml
 simp only[sA,sB,seval,sR,ml']
 simp only[ck_nil',ck_cons,ckP_load,ckP_nil,ck_end,and_true,true_and,List.map_cons,List.map_nil,sA,sB,seval,g0,g1,fldA,fld0]
 refine⟨⟨_,rfl,fun _=>⟨_,l7a,aeq_map _⟩⟩,?_⟩
 have Av0:AppN 1 0 Ha v (ints (posL b (k3 b i) i)) (posL b (k3 b i) i).length:=AppN.samN' Av (Nat.zero_le _) rL fun _ _ _=>rfl
 have Cv:Cel Ha.next Ha v (ints (posL b (k3 b i) i)):=Av0.cel1 Av0.blk'
 have hlen:=Av0.len
 have hpl:=posL_len b (k3 b i) i
 have hmem:∀p,p∈posL b (k3 b i) i→p<i:=fun p hp=>(posL_mem.1 hp).1
 have hG:matchG b i to=scanF b i m (posL b (k3 b i) i) (posL b (k3 b i) i).length (0,0):=by unfold matchG; rw[if_neg om,← hm]
 obtain⟨l,hl⟩:∃l,l=posL b (k3 b i) i:=⟨_,rfl⟩
 rw[← hl]at Cv hlen hpl hmem hG
 have cha:=ch.ext Ea
 have wl:IntKind.i64.wrap ((l.length:Int)-1)=(l.length:Int)-1:=wrap64 om om
 have w3:IntKind.i64.wrap ((i:Int)-32768)=(i:Int)-32768:=wrap64 om om
 simp only[sA,sB,seval,g0,g1,g6,g7,g8,hlen,wl]
 refine aw_loop (fun q (T:Env) H'=>∃y:Nat×Nat,q≤l.length∧y.1≤m∧T 0=cellR ow 9 0∧T 1=.int .i64 (i:Int)∧T 6=.int .i64 (y.1:Int)∧T 7=.int .i64 (y.2:Int)∧T 8=.int .i64 (m:Int)∧T 10=here∧T 11=v∧T 12=.int .i64 ((q:Int)-1)∧scanF b i m l q y=matchG b i to∧Ha=H') l.length
  ⟨(0,0),Nat.le_refl _,Nat.zero_le _,by simp only[sA,sB,seval,g0],by simp only[sA,sB,seval,g1],by simp only[sA,sB,seval,g6]; try rfl,by simp only[sA,sB,seval,g7]; try rfl,by simp only[sA,sB,seval,g8],by simp only[sA,sB,seval],by simp only[sA,sB,seval],by simp only[sA,sB,seval],hG.symm,rfl⟩ ?_
 rintro q T _ ⟨y,hq,hym,k0,k1,k6,k7,k8,k10,k11,k12,hsc,rfl⟩
 have leave:scanF b i m l q y=y→Q (.tuple [.int .i64 (y.1:Int),.int .i64 (y.2:Int)]) Ha:=fun h=>by
  have:=hQ Ha Ea
  rw[← hsc,h]at this
  exact this
 cases q with
 | zero=>
  have hge:¬(0:Int)≤((0:Nat):Int)-1:=om
  simp only[sA,sB,seval,k0,k1,k6,k7,k8,k10,k11,k12,hge]
  exact leave rfl
 | succ n=>
  have en:((n+1:Nat):Int)-1=(n:Int):=om
  rw[en]at k12
  have hge:(0:Int)≤(n:Int):=om
  obtain⟨p,hp⟩:∃p,l[n]?=some p:=⟨_,List.getElem?_eq_getElem om⟩
  have hpd:l.getD n 0=p:=by rw[List.getD_eq_getElem?_getD,hp]; rfl
  have hpi:=hmem p (List.mem_of_getElem? hp)
  have hidx:=Cv.idx .i64 (i:=n) (by rw[ints_len]; omega)
  have hld:=Cv.load (ints_get hp)
  have hge2:(i:Int)-32768≤(p:Int):=om
  have wn:IntKind.i64.wrap ((n:Int)-1)=(n:Int)-1:=wrap64 om om
  by_cases hy:y.1<m
  ·have hy':(y.1:Int)<(m:Int):=om
   have hpi':¬(i:Int)≤(p:Int):=om
   simp only[scanF,hpd]at hsc
   obtain⟨th,mt,ct,_⟩:=Pa.kp.from_ (lo:=p) om
   have et:(byts b).drop p=byts (b.drop p):=by simp[byts]
   rw[et]at ct
   have e0p:(p:Int)-0=(p:Int):=om
   have wp_:IntKind.i64.wrap (p:Int)=(p:Int):=wrap64 om om
   have wsp:IntKind.i64.wrap ((i:Int)-(p:Int))=((i-p:Nat):Int):=by rw[wrap64 om om]; omega
   have at1:∀j,j<m→∃c d,b[p+j]?=some c∧b[i+j]?=some d∧aIdxA 1 th (.int .i64 (j:Int))=some (cellP th j)∧oLoad false 1 Ha (cellP th j)=some (.int .u8 (c.toNat:Int))∧aIdxA 1 here (.int .i64 (j:Int))=some (cellP here j)∧oLoad false 1 Ha (cellP here j)=some (.int .u8 (d.toNat:Int)):=by
    intro j hj
    obtain⟨c,hc⟩:∃c,b[p+j]?=some c:=⟨_,List.getElem?_eq_getElem om⟩
    obtain⟨d,hd⟩:∃d,b[i+j]?=some d:=⟨_,List.getElem?_eq_getElem om⟩
    exact⟨c,d,hc,hd,ct.idx .i64 (by rw[byts_len,List.length_drop]; omega),ct.load (byts_get (by rw[List.getElem?_drop]; exact hc)),cha.idx .i64 (by rw[byts_len,List.length_take,List.length_drop]; omega),cha.load (byts_get (by rw[List.getElem?_take_of_lt hj,List.getElem?_drop]; exact hd))⟩
   obtain⟨c,d,hc,hd,i1,x1,i2,x2⟩:=at1 y.1 hy
   by_cases hcd:c=d
   ·have hne:(c.toNat:Int)=(d.toNat:Int):=by rw[hcd]
    simp only[sA,sB,seval,k0,k1,k6,k7,k8,k10,k11,k12,hge,hidx,hld,w3,hge2,hy',hpi',nil_cell,fldA,fld0,l3a,l4a,e0p,wp_,mt,i1,x1,i2,x2,hne]
    refine aw_loop (fun q (T2:Env) H'=>∃j:Nat,j≤m∧q=m-j∧T2 0=cellR ow 9 0∧T2 1=.int .i64 (i:Int)∧T2 6=.int .i64 (y.1:Int)∧T2 7=.int .i64 (y.2:Int)∧T2 8=.int .i64 (m:Int)∧T2 10=here∧T2 11=v∧T2 12=.int .i64 (n:Int)∧T2 13=th∧T2 14=.int .i64 (j:Int)∧run b p i m=j+run b (p+j) (i+j) (m-j)∧Ha=H') m
     ⟨0,Nat.zero_le _,rfl,by simp only[sA,sB,seval,k0],by simp only[sA,sB,seval,k1],by simp only[sA,sB,seval,k6],by simp only[sA,sB,seval,k7],by simp only[sA,sB,seval,k8],by simp only[sA,sB,seval,k10],by simp only[sA,sB,seval,k11],by simp only[sA,sB,seval,k12],by simp only[sA,sB,seval],by simp only[sA,sB,seval]; try rfl,by simp,rfl⟩ ?_
    rintro q T2 _ ⟨j,hj,rfl,f0,f1,f6,f7,f8,f10,f11,f12,f13,f14,hrun,rfl⟩
    by_cases hjm:j<m
    ·have hjm':(j:Int)<(m:Int):=om
     obtain⟨c',d',hc',hd',j1,z1,j2,z2⟩:=at1 j hjm
     rw[run_step b p i m j hjm,hc',hd']at hrun
     by_cases hcd':c'=d'
     ·have heq:(c'.toNat:Int)=(d'.toNat:Int):=by rw[hcd']
      rw[if_pos (by rw[hcd'])]at hrun
      simp only[sA,sB,seval,f0,f1,f6,f7,f8,f10,f11,f12,f13,f14,hjm',j1,z1,j2,z2,heq,wrap1 j om]
      exact⟨_,om,j+1,om,rfl,tt,tt,tt,tt,tt,tt,tt,tt,tt,tt,by rw[hrun]; omega,tt⟩
     ·have heq:¬(c'.toNat:Int)=(d'.toNat:Int):=fun e=>hcd' (UInt8.toNat_inj.1 om)
      rw[if_neg (by simpa using hcd')]at hrun
      have hr:run b p i m=j:=om
      by_cases hcmp:y.1<j
      ·have hcmp':(y.1:Int)<(j:Int):=om
       have hst:stepF b i m p y=(j,i-p):=by unfold stepF; rw[hr,if_pos hcmp]
       simp only[sA,sB,seval,f0,f1,f6,f7,f8,f10,f11,f12,f13,f14,hjm',j1,z1,j2,z2,heq,hcmp',hidx,hld,wsp,wn]
       exact⟨n,om,(j,i-p),om,by simp only; omega,tt,tt,tt,tt,tt,tt,tt,tt,by rw[← hst]; exact hsc,tt⟩
      ·have hcmp':¬(y.1:Int)<(j:Int):=om
       have hst:stepF b i m p y=y:=by unfold stepF; rw[hr,if_neg hcmp]
       rw[hst]at hsc
       simp only[sA,sB,seval,f0,f1,f6,f7,f8,f10,f11,f12,f13,f14,hjm',j1,z1,j2,z2,heq,hcmp',wn]
       exact⟨n,om,y,om,hym,tt,tt,tt,tt,tt,tt,tt,tt,hsc,tt⟩
    ·have hjm':¬(j:Int)<(m:Int):=om
     have hr:run b p i m=j:=by rw[hrun,show m-j=0 by omega,run]; rfl
     by_cases hcmp:y.1<j
     ·have hcmp':(y.1:Int)<(j:Int):=om
      have hst:stepF b i m p y=(j,i-p):=by unfold stepF; rw[hr,if_pos hcmp]
      simp only[sA,sB,seval,f0,f1,f6,f7,f8,f10,f11,f12,f13,f14,hjm',hcmp',hidx,hld,wsp,wn]
      exact⟨n,om,(j,i-p),om,by simp only; omega,tt,tt,tt,tt,tt,tt,tt,tt,by rw[← hst]; exact hsc,tt⟩
     ·have hcmp':¬(y.1:Int)<(j:Int):=om
      have hst:stepF b i m p y=y:=by unfold stepF; rw[hr,if_neg hcmp]
      rw[hst]at hsc
      simp only[sA,sB,seval,f0,f1,f6,f7,f8,f10,f11,f12,f13,f14,hjm',hcmp',wn]
      exact⟨n,om,y,om,hym,tt,tt,tt,tt,tt,tt,tt,tt,hsc,tt⟩
   ·have hne:¬(c.toNat:Int)=(d.toNat:Int):=fun e=>hcd (UInt8.toNat_inj.1 om)
    have hcut:=run_cut (b:=b) (p:=p) (i:=i) (m:=m) (j:=y.1) (by rw[hc,hd]; simpa using hcd)
    have hst:stepF b i m p y=y:=by unfold stepF; rw[if_neg om]
    rw[hst]at hsc
    simp only[sA,sB,seval,k0,k1,k6,k7,k8,k10,k11,k12,hge,hidx,hld,w3,hge2,hy',hpi',nil_cell,fldA,fld0,l3a,l4a,e0p,wp_,mt,i1,x1,i2,x2,hne,wn]
    exact⟨n,om,y,om,hym,tt,tt,tt,tt,tt,tt,tt,tt,hsc,tt⟩
  ·have hy':¬(y.1:Int)<(m:Int):=om
   simp only[sA,sB,seval,k0,k1,k6,k7,k8,k10,k11,k12,hge,hidx,hld,w3,hge2,hy']
   exact leave (scan_full b i m l _ _ om)
theorem match_spec{n0:Nat}{τ:Nat→Nat}{H:AHeap}{ow mb:Nat}{out kept:AVal}{b:Bs}{K:Nat}(P:PW sent n0 τ H ow mb out kept b K)(i to:Nat)(hKi:K≤i)(hi:i<to)(hto:to≤b.length)(hb:b.length≤20000) :
  ACalls Tryz.prog natT 82 [cellR ow 9 0,.int .i64 (i:Int),.int .i64 (to:Int)] H fun w H'=>w=.tuple [.int .i64 (((matchG b i to).1:Nat):Int),.int .i64 (((matchG b i to).2:Nat):Int)]∧∃τ' K',(K'≤i∧(K'=K∨K'+3≤to))∧PW sent n0 τ' H' ow mb out kept b K'∧Fm mb ow τ H τ' H':=by
 refine match_pre P i to hKi hi hto hb _ (fun h=>?_) fun h3 T2 H2 τ2 g0 g1 g2 g6 g7 g8 P2 F2=>?_
 ·have e:matchG b i to=(0,0):=by unfold matchG; rw[if_pos h]
  rw[e]
  exact⟨rfl,τ,K,⟨hKi,.inl rfl⟩,P,Fm.refl _ _ _ _⟩
 ·exact match_rest P2 rfl h3 hi hto hb _ g0 g1 g6 g7 g8 fun H3 E3=>⟨rfl,τ2,i,⟨Nat.le_refl _,.inr (by have:mlen i to=min 258 (to-i):=rfl; omega)⟩,P2.ext E3,F2.trans (Fm.of_ext E3)⟩
def tokFl(t:Tok):List (Nat×Nat):=if t.back=0 then [symF t.b.toNat] else lenFl t.n++disFl t.back
theorem tokFl_ok{t:Tok}(h:tokOk t):fldBits (tokFl t)=tokB t∧∀f∈tokFl t,fldOk f=true:=by
 unfold tokFl tokB
 by_cases h0:t.back=0
 ·rw[if_pos h0,if_pos h0]
  have hb:=t.b.toNat_lt
  obtain⟨a,e⟩:=symF_ok (s:=t.b.toNat) om
  refine⟨by simp[fldBits,e],fun f hf=>?_⟩
  rw[List.mem_singleton]at hf; rw[hf]; exact a
 ·rw[if_neg h0,if_neg h0]
  rcases h with h | ⟨h1,h2,h3,h4⟩
  ·exact absurd h h0
  ·obtain⟨a1,a2⟩:=lenFl_ok h1 h2
   obtain⟨b1,b2⟩:=disFl_ok h3 om
   refine⟨by rw[fldBits_append,a1,b1],fun f hf=>?_⟩
   rcases List.mem_append.1 hf with hf | hf
   ·exact a2 f hf
   ·exact b2 f hf
theorem toksFl_ok:∀(l:List Tok),(∀t∈l,tokOk t)→fldBits (l.flatMap tokFl)=l.flatMap tokB∧∀f∈l.flatMap tokFl,fldOk f=true
 | [],_=>⟨rfl,fun f hf=>by simp at hf⟩
 | t::r,h=>by
  obtain⟨a1,a2⟩:=tokFl_ok (h t (by simp))
  obtain⟨b1,b2⟩:=toksFl_ok r fun t ht=>h t (by simp[ht])
  refine⟨by simp only[List.flatMap_cons,fldBits_append,a1,b1],fun f hf=>?_⟩
  rw[List.flatMap_cons]at hf
  rcases List.mem_append.1 hf with hf | hf
  ·exact a2 f hf
  ·exact b2 f hf
def blockFl(last:Nat)(l:List Tok):List (Nat×Nat):=[(last,1),(1,2)]++l.flatMap tokFl++[symF 256]
theorem blockFl_ok{last:Nat}(hla:last≤1){l:List Tok}(h:∀t∈l,tokOk t):fldBits (blockFl last l)=fixedB l last∧∀f∈blockFl last l,fldOk f=true:=by
 obtain⟨a1,a2⟩:=toksFl_ok l h
 obtain⟨b1,b2⟩:=symF_ok (s:=256) om
 unfold blockFl
 refine⟨?_,fun f hf=>?_⟩
 ·rw[fldBits_append,fldBits_append,a1]
  have e1:fldBits [(last,1),(1,2)]=bitsN last 1++bitsN 1 2:=by simp[fldBits]
  have e2:fldBits [symF 256]=fixB 256:=by simp[fldBits,b2]
  rw[e1,e2]
  simp only[fixedB,List.append_assoc]
 ·rcases List.mem_append.1 hf with hf | hf
  ·rcases List.mem_append.1 hf with hf | hf
   ·simp only[List.mem_cons,List.not_mem_nil,or_false]at hf
    rcases hf with rfl | rfl
    ·have:last=0∨last=1:=om
     rcases this with rfl | rfl <;> rfl
    ·rfl
   ·exact a2 f hf
  ·rw[List.mem_singleton]at hf; rw[hf]; exact b1
def wideF(fs:List (Nat×Nat)):Nat:=(fs.map (·.2)).sum
theorem wideF_bits(fs:List (Nat×Nat)):wideF fs=(fldBits fs).length:=by
 induction fs with
 | nil=>rfl
 | cons f r ih=>
  simp only[wideF,fldBits]at ih
  simp only[wideF,fldBits,List.map_cons,List.sum_cons,List.flatMap_cons,lA,bitsN_len,ih]
theorem tok_at{b:Bs}{to i f:Nat}(hi:i<to)(hto:to≤b.length) :
  (3≤(matchG b i to).1∧toksF b to (f+1) i=⟨(matchG b i to).1,(matchG b i to).2,0⟩::toksF b to f (i+(matchG b i to).1)) ∨
  (¬3≤(matchG b i to).1∧toksF b to (f+1) i=⟨0,0,b.getD i 0⟩::toksF b to f (i+1)):=by
 have hB:=matchG_both hi hto
 simp only[toksF,if_pos hi]
 rcases hB with⟨h1,h2⟩ | ⟨h1,h2⟩
 ·refine .inr ⟨by rw[h2]; simp,?_⟩
  rw[if_neg om]
 ·refine .inl ⟨by rw[h2]; exact h1,?_⟩
  rw[if_pos h1,h2]
variable {sent:Nat}
def FM(τ:Nat→Nat)(H:AHeap)(v:AVal)(fs:List (Nat×Nat)):Prop:=FL H v fs∧Blk v (τ ·=6)
theorem PW.mark{n0:Nat}{τ:Nat→Nat}{H H':AHeap}{ow mb:Nat}{out kept:AVal}{b:Bs}{K:Nat}(h:PW sent n0 τ H ow mb out kept b K)(h6:∀c,c<n0→τ c≠6)(hn:H.next≤H'.next)(e:∀c,c<H.next→τ c≠6→H'.get c=H.get c):PW sent n0 (upT τ H H' 6) H' ow mb out kept b K:=by
 have o1:=h.own
 have o2:=h.mbn
 have o3:=h.n0n
 refine⟨h.row.same (e _ om (h6 _ o1)),h.kp.same hn (h.kb.mono fun c hc=>e c hc.1 hc.2.1.2),h.kb.mono fun c hc=>⟨om,by rw[upT_old hc.1]; exact hc.2.1,hc.2.2⟩,?_,o1,o2,h.ne,by rw[upT_old om]; exact h.tow,om,fun c hc=>upT_z hn hc⟩
 obtain⟨es,h1,h2⟩:=MR.iff.1 h.map
 exact MR.iff.2 ⟨es,(e _ om (h6 _ o2)).trans h1,h2.same hn fun c hc ht=>⟨e c hc om,upT_old hc⟩⟩
theorem FM.fm{τ τ':Nat→Nat}{H H':AHeap}{v:AVal}{fs:List (Nat×Nat)}{mb ow:Nat}(h:FM τ H v fs)(f:Fm mb ow τ H τ' H')(hm:τ mb≠6)(ho:τ ow≠6):FM τ' H' v fs:=by
 have hb:Blk v fun c=>c<H.next∧τ c=6:=(LinM.blk h.1).and h.2
 exact⟨LinM.same h.1 f.1 (hb.mono fun c hc=>(f.2 c hc.1).2 (by rintro rfl; exact hm hc.2) (by rintro rfl; exact ho hc.2) om),hb.mono fun c hc=>by rw[(f.2 c hc.1).1]; exact hc.2⟩
theorem FM.stp{τ:Nat→Nat}{H H':AHeap}{v w:AVal}{fs gs:List (Nat×Nat)}(h:FM τ H v fs)(k:FL H' w gs)(s:Stp v H w H'):FM (upT τ H H' 6) H' w gs∧∀c,c<H.next→τ c≠6→H'.get c=H.get c:=by
 have hb:Blk v fun c=>c<H.next∧τ c=6:=(LinM.blk h.1).and h.2
 refine⟨⟨k,((s.2.1 _ hb).and (LinM.blk k)).mono fun c hc=>?_⟩,fun c hc h6=>s.2.2 c hc (hb.mono fun d hd=>by rintro rfl; exact h6 hd.2)⟩
 rcases hc.1 with h1 | h1
 ·rw[upT_old h1.1]; exact h1.2
 ·exact upT_new h1 hc.2
variable {sent:Nat}
theorem block_step{n0:Nat}{τ:Nat→Nat}{H:AHeap}{ow mb:Nat}{out kept v:AVal}{b:Bs}{K i:Nat}{fs:List (Nat×Nat)}(P:PW sent n0 τ H ow mb out kept b K)(F:FM τ H v fs)(h6:∀c,c<n0→τ c≠6)(hKi:K≤i){to:Nat}(hi:i<to)(hto:to≤b.length)(hb:b.length≤20000) :
  ACalls Tryz.prog natT 82 [cellR ow 9 0,.int .i64 (i:Int),.int .i64 (to:Int)] H fun w H'=>w=.tuple [.int .i64 (((matchG b i to).1:Nat):Int),.int .i64 (((matchG b i to).2:Nat):Int)]∧∃τ' K',(K'≤i∧(K'=K∨K'+3≤to))∧PW sent n0 τ' H' ow mb out kept b K'∧FM τ' H' v fs∧(∀c,c<n0→τ' c≠6)∧Fm mb ow τ H τ' H':=by
 refine (match_spec P i to hKi hi hto hb).mono ?_
 rintro w H' ⟨rfl,τ',K',h1,P',f⟩
 have o3:=P.n0n
 exact⟨rfl,τ',K',h1,P',F.fm f (h6 _ P.mbn) (h6 _ P.own),fun c hc=>by rw[(f.2 c om).1]; exact h6 c hc,f⟩
theorem matchG_ok{b:Bs}{i to:Nat}(hi:i<to)(hto:to≤b.length)(hb:b.length≤20000)(h:3≤(matchG b i to).1):(matchG b i to).1≤258∧1≤(matchG b i to).2∧(matchG b i to).2≤20000∧i+(matchG b i to).1≤to:=by
 rcases matchG_both hi hto with⟨_,h2⟩ | ⟨h1,h2⟩
 ·rw[h2]at h; simp at h
 ·obtain⟨m1,m2,m3⟩:=match_ok b i to h1
  rw[h2]
  simp only
  omega
variable {sent:Nat}
theorem tokFl_len(t:Tok):(tokFl t).length≤4:=by
 unfold tokFl lenFl disFl
 split
 ·simp
 ·split <;> simp
theorem tokFls_len(l:List Tok):(l.flatMap tokFl).length≤4*l.length:=by
 induction l with
 | nil=>simp
 | cons t r ih=>
  have:=tokFl_len t
  simp only[List.flatMap_cons,lA,List.length_cons]; omega
theorem toksF_end{b:Bs}{to f i:Nat}(h:¬i<to):toksF b to f i=[]:=by
 cases f with
 | zero=>rfl
 | succ f=>simp only[toksF,if_neg h]
def lastN(last:Bool):Nat:=if last then 1 else 0
def restB:List Nat:=[1,1,1,1,1]
theorem block_preT{n0:Nat}{τ:Nat→Nat}{H:AHeap}{ow mb:Nat}{out kept:AVal}{b:Bs}{K0 to:Nat}(P:PW sent n0 τ H ow mb out kept b K0)(hK0:K0≤sent)(hKB:K0=0∨K0+3≤b.length)(hst:sent≤to)(hto:to≤b.length)(hlong:to-sent≤4096)(h6:∀c,c<n0→τ c≠6)(hb:b.length≤20000)(Q:AVal→AHeap→Prop)
  (hrest:∀(T2:Env) (H2:AHeap) (τ2:Nat→Nat) (K q:Nat),T2 0=cellR ow 9 0→T2 1=.int .i64 (to:Int)→T2 6=cellR q 2 0→PW sent n0 τ2 H2 ow mb out kept b K→(K≤to∧(K=0∨K+3≤b.length))→FM τ2 H2 (T2 7) ([(1,1),(1,2)]++(toks b sent to).flatMap tokFl)→Row H2 q (fldC (1,1))→τ2 q=0→n0≤q→q<H2.next→(∀c,c<n0→τ2 c≠6)→(∀c,c<H.next→τ2 c=τ c∧(c≠mb→c≠ow→τ c<100→τ c≠6→H2.get c=H.get c))→H.next≤H2.next→wp (ACalls Tryz.prog natT) (hold (restP restB c62.body)) (fin c62.res Q) T2 H2) :
  ACalls Tryz.prog natT 62 [cellR ow 9 0,.int .i64 (to:Int),.bool true] H Q:=by
 refine acalls_ofN rfl za62 rfl ?_
 refine wp_cutP restB ?_
 have o1:=P.own
 have o3:=P.n0n
 obtain⟨H1,m1,r1,k1,q1⟩:=row_newL H [.int .u32 0,.int .i64 0] (n:=2) rfl
 obtain⟨H2,m2,r2,k2',q2⟩:=row_storeN r1 (n:=2) rfl (xs:=[.int .u32 0,.int .i64 1]) rfl rfl
 obtain⟨H3,m3,r3,k3',q3⟩:=row_st r2 (n:=2) rfl (i:=0) om (x:=.int .u32 1) rfl rfl
 have r3':Row H3 H.next (fldC (1,1)):=r3
 have b0:aBuild [.int .u32 0,.int .i64 0] [(0,1,.int .u32 0),(1,1,.int .i64 1)]=some (.agg [.int .u32 0,.int .i64 1]):=rfl
 have b1:aBuild [.int .u32 0,.int .i64 0] [(0,1,.int .u32 1),(1,1,.int .i64 2)]=some (fldV (1,2)):=rfl
 have E3:Ext H.next H H3:=⟨om,fun c hc=>by rw[q3 c om,q2 c om,q1 c om]⟩
 have P3:=P.ext E3
 have ld:oLoad true 2 H3 (cellR H.next 2 0)=some (fldV (1,1)):=row_loadN r3' (n:=2) rfl
 simp only[c62,restB]at hrest
 simp only[c62,restB,sC,sA,sB,seval,b0,m1,m2,fldA,fld0,m3]
 refine (prune_spec P3.row om).mono ?_
 rintro w _ rfl
 have e5:Ext H3.next H3 (H3.push (.cells (flds [(1,1),(1,2)]) 0 false)):=(Ext.refl _ _).push rL _
 have P4:=P3.mark h6 e5.next fun c hc _=>e5.old c hc
 have F4:FM (upT τ H3 (H3.push (.cells (flds [(1,1),(1,2)]) 0 false)) 6) (H3.push (.cells (flds [(1,1),(1,2)]) 0 false)) (.slice (some ⟨H3.next,4,0⟩) 2 (.known 2)) [(1,1),(1,2)]:=⟨LinM.built (m:=2) (k:=2) H3 (xs:=flds [(1,1),(1,2)]) rfl,blk_some (upT_new rL (by rw[push_next]; exact Nat.lt_succ_self _))⟩
 have l5:oLoad false 1 (H3.push (.cells (flds [(1,1),(1,2)]) 0 false)) (cellR ow 9 5)=some (.int .i64 (sent:Int)):=row_load P4.row rfl rfl
 simp only[sA,sB,seval,ld,b1,buildF2,nil_cell,fldA,fld0,l5]
 obtain⟨Hs,hHs⟩:∃G,G=H3.push (.cells (flds [(1,1),(1,2)]) 0 false):=⟨_,rfl⟩
 have ks:Hs.next=H3.next+1:=by rw[hHs]; rfl
 obtain⟨τs,hτs⟩:∃t,t=upT τ H3 Hs 6:=⟨_,rfl⟩
 rw[← hHs]at e5 P4 F4 l5 ⊢
 rw[← hτs]at P4 F4
 have hs6:∀c,c<n0→τs c≠6:=fun c hc=>by rw[hτs,upT_old om]; exact h6 c hc
 have fs0:∀c,c<H3.next→τs c=τ c:=fun c hc=>by rw[hτs,upT_old hc]
 have tz0:=P.tz H.next rL
 refine aw_loop (fun q (T:Env) H'=>∃(i K:Nat) (τ':Nat→Nat) (acc:List Tok),(K≤i∧(K=0∨K+3≤b.length))∧sent≤i∧i≤to∧to-i≤q∧acc++toksF b to q i=toks b sent to∧acc.length+q≤4096∧T 0=cellR ow 9 0∧T 1=.int .i64 (to:Int)∧T 6=cellR H.next 2 0∧T 8=.int .i64 (i:Int)∧PW sent n0 τ' H' ow mb out kept b K∧FM τ' H' (T 7) ([(1,1),(1,2)]++acc.flatMap tokFl)∧Row H' H.next (fldC (1,1))∧τ' H.next=0∧H.next<H'.next∧(∀c,c<n0→τ' c≠6)∧(∀c,c<H.next→τ' c=τ c∧(c≠mb→c≠ow→τ c<100→τ c≠6→H'.get c=H.get c))) (to-sent)
  ⟨sent,K0,τs,[],⟨hK0,hKB⟩,Nat.le_refl _,hst,Nat.le_refl _,rfl,by simp only[List.length_nil]; omega,by simp only[sA,sB,seval]; try rfl,by simp only[sA,sB,seval]; try rfl,by simp only[sA,sB,seval]; try rfl,by simp only[sA,sB,seval]; try rfl,P4,by simp only[sA,sB,seval]; exact F4,r3'.same (e5.old _ om),by rw[fs0 _ om]; exact tz0,om,hs6,fun c hc=>⟨fs0 c om,fun _ _ _ _=>by rw[e5.old c om]; exact E3.old c hc⟩⟩ ?_
 rintro q T H' ⟨i,K,τ',acc,hKi,hsi,hib,hq,htk,hal,g0,g1,g6,g8,P',F',R',tq,hn',h6',fr⟩
 by_cases hlt:i<to
 ·have hlt':(i:Int)<(to:Int):=om
  obtain⟨q,rfl⟩:∃n,q=n+1:=⟨q-1,om⟩
  have hfl:=tokFls_len acc
  simp only[sA,sB,seval,g0,g1,g6,g8,hlt']
  refine (block_step P' F' h6' hKi.1 hlt hto hb).mono ?_
  rintro _ H4 ⟨rfl,τ4,K4,hK4,P4,F4,h64,fm⟩
  have n4:=fm.1
  have o4:=P4.mbn
  have fr4:∀c,c<H.next→τ4 c=τ c∧(c≠mb→c≠ow→τ c<100→τ c≠6→H4.get c=H.get c):=fun c hc=>by
   obtain⟨e1,e2⟩:=fr c hc
   obtain⟨e3,e4⟩:=fm.2 c om
   exact⟨e3.trans e1,fun a1 a2 a3 a4=>(e4 a1 a2 (by rw[e1]; exact a3)).trans (e2 a1 a2 a3 a4)⟩
  have R4:Row H4 H.next (fldC (1,1)):=R'.same ((fm.2 _ hn').2 om om (by rw[tq]; omega))
  have tq4:τ4 H.next=0:=(fm.2 _ hn').1.trans tq
  rcases tok_at (b:=b) (to:=to) (f:=q) hlt hto with⟨h3,et⟩ | ⟨h3,et⟩
  ·obtain⟨x1,x2,x3,x4⟩:=matchG_ok hlt hto hb h3
   generalize matchG b i to=mg at *
   have h3':(3:Int)≤(mg.1:Int):=om
   simp only[sA,sB,seval,g0,g1,g6,g8,ext_0,ext_1,h3']
   refine (matched_spec mg.1 mg.2 F4.1 (by simp only[lA,List.length_cons,List.length_nil]; omega) h3 x1 x2 om).mono ?_
   rintro w H5 ⟨k5,s5⟩
   obtain⟨F5,e5⟩:=F4.stp k5 s5
   have P5:=P4.mark h64 s5.1 e5
   have n5:=s5.1
   have ef:[(1,1),(1,2)]++List.flatMap tokFl acc++(lenFl mg.1++disFl mg.2)=[(1,1),(1,2)]++(acc++[(⟨mg.1,mg.2,0⟩:Tok)]).flatMap tokFl:=by
    simp only[List.flatMap_append,List.flatMap_cons,List.flatMap_nil,List.append_nil,List.append_assoc,tokFl]
    rw[if_neg om]
   rw[ef]at F5; simp only[List.cons_append,List.nil_append]at F5
   simp only[sA,sB,seval,g0,g1,g6,g8,wrapN i mg.1 om]
   exact⟨q,Nat.lt_succ_self _,i+mg.1,K4,_,acc++[⟨mg.1,mg.2,0⟩],om,om,om,om,by rw[← htk,et]; simp,by simp; omega,tt,tt,tt,tt,P5,F5,R4.same (e5 _ om (by rw[tq4]; omega)),by rw[upT_old om]; exact tq4,om,fun c hc=>by rw[upT_old om]; exact h64 c hc,fun c hc=>⟨by rw[upT_old om]; exact (fr4 c hc).1,fun a1 a2 a3 a4=>by rw[e5 c om (by rw[(fr4 c hc).1]; exact a4)]; exact (fr4 c hc).2 a1 a2 a3 a4⟩⟩
  ·generalize matchG b i to=mg at *
   have h3':¬(3:Int)≤(mg.1:Int):=om
   have l3:oLoad false 1 H4 (cellR ow 9 3)=some kept:=row_load P4.row rfl rfl
   have l4:oLoad false 1 H4 (cellR ow 9 4)=some (.int .i64 0):=row_load P4.row rfl rfl
   have e0:(i:Int)-0=(i:Int):=om
   have wi:IntKind.i64.wrap (i:Int)=(i:Int):=wrap64 om om
   obtain⟨c,hc⟩:∃c,b[i]?=some c:=⟨_,List.getElem?_eq_getElem om⟩
   have ck:Cel H4.next H4 kept (byts b):=P4.kp.cel1 P4.kp.blk'
   have ix:=ck.idx .i64 (i:=i) (by rw[byts_len]; omega)
   have lx:=ck.load (byts_get hc)
   have cv:=c.toNat_lt
   have egd:b.getD i 0=c:=by rw[List.getD_eq_getElem?_getD,hc]; rfl
   have wc:IntKind.i64.wrap (c.toNat:Int)=(c.toNat:Int):=wrap64 om om
   simp only[sA,sB,seval,g0,g1,g6,g8,ext_0,ext_1,h3',nil_cell,fldA,fld0,l3,l4,e0,wi,ix,lx,conv_in,wc]
   refine (symbol_spec H4 c.toNat om).mono ?_
   rintro _ H5 ⟨rfl,E5⟩
   have P5:=P4.ext E5
   have F5:FM τ4 H5 (T 7) _:=⟨F4.1.ext E5,F4.2⟩
   have n5:=E5.next
   obtain⟨w,H6,m6,k6,s6⟩:=FL.add F5.1 [symF c.toNat] (by simp only[lA,List.length_cons,List.length_nil]; omega)
   obtain⟨F6,e6⟩:=F5.stp k6 s6
   have P6:=P5.mark h64 s6.1 e6
   have n6:=s6.1
   have m6':aAppend 2 16 (H5.push (.cells (fldC (symF c.toNat)) 0 false)) (T 7) (.slice (some ⟨H5.next,2,0⟩) 1 (.known 1))=some (w,H6):=by simpa[flds] using m6
   have ef:[(1,1),(1,2)]++List.flatMap tokFl acc++[symF c.toNat]=[(1,1),(1,2)]++(acc++[(⟨0,0,b.getD i 0⟩:Tok)]).flatMap tokFl:=by
    simp only[List.flatMap_append,List.flatMap_cons,List.flatMap_nil,List.append_nil,List.append_assoc,tokFl,if_true,egd]
   rw[ef]at F6; simp only[List.cons_append,List.nil_append]at F6
   simp only[sA,sB,seval,g0,g1,g6,g8,buildF1,m6',wrap1 i om]
   exact⟨q,Nat.lt_succ_self _,i+1,K4,_,acc++[⟨0,0,b.getD i 0⟩],om,om,om,om,by rw[← htk,et]; simp,by simp; omega,tt,tt,tt,tt,P6,F6,R4.same (by rw[e6 _ om (by rw[tq4]; omega)]; exact E5.old _ om),by rw[upT_old om]; exact tq4,om,fun c hc=>by rw[upT_old om]; exact h64 c hc,fun c hc=>⟨by rw[upT_old om]; exact (fr4 c hc).1,fun a1 a2 a3 a4=>by rw[e6 c om (by rw[(fr4 c hc).1]; exact a4),E5.old c om]; exact (fr4 c hc).2 a1 a2 a3 a4⟩⟩
 ·have hlt':¬(i:Int)<(to:Int):=om
  simp only[sA,sB,seval,g0,g1,g6,g8,hlt']
  rw[toksF_end hlt,List.append_nil]at htk
  subst htk
  exact hrest _ _ τ' K H.next (by simp only[sA,sB,seval,g0]) (by simp only[sA,sB,seval,g1]) (by simp only[sA,sB,seval,g6]) P' om (by simp only[sA,sB,seval]; exact F') R' tq o3 hn' h6' fr om
theorem block_preF{n0:Nat}{τ:Nat→Nat}{H:AHeap}{ow mb:Nat}{out kept:AVal}{b:Bs}{K0 to:Nat}(P:PW sent n0 τ H ow mb out kept b K0)(hK0:K0≤sent)(hKB:K0=0∨K0+3≤b.length)(hst:sent≤to)(hto:to≤b.length)(hlong:to-sent≤4096)(h6:∀c,c<n0→τ c≠6)(hb:b.length≤20000)(Q:AVal→AHeap→Prop)
  (hrest:∀(T2:Env) (H2:AHeap) (τ2:Nat→Nat) (K q:Nat),T2 0=cellR ow 9 0→T2 1=.int .i64 (to:Int)→T2 6=cellR q 2 0→PW sent n0 τ2 H2 ow mb out kept b K→(K≤to∧(K=0∨K+3≤b.length))→FM τ2 H2 (T2 7) ([(0,1),(1,2)]++(toks b sent to).flatMap tokFl)→Row H2 q (fldC (0,1))→τ2 q=0→n0≤q→q<H2.next→(∀c,c<n0→τ2 c≠6)→(∀c,c<H.next→τ2 c=τ c∧(c≠mb→c≠ow→τ c<100→τ c≠6→H2.get c=H.get c))→H.next≤H2.next→wp (ACalls Tryz.prog natT) (hold (restP restB c62.body)) (fin c62.res Q) T2 H2) :
  ACalls Tryz.prog natT 62 [cellR ow 9 0,.int .i64 (to:Int),.bool false] H Q:=by
 refine acalls_ofN rfl za62 rfl ?_
 refine wp_cutP restB ?_
 have o1:=P.own
 have o3:=P.n0n
 obtain⟨H1,m1,r1,k1,q1⟩:=row_newL H [.int .u32 0,.int .i64 0] (n:=2) rfl
 obtain⟨H2,m2,r2,k2',q2⟩:=row_storeN r1 (n:=2) rfl (xs:=[.int .u32 0,.int .i64 1]) rfl rfl
 obtain⟨H3,hH3⟩:∃G,G=H2:=⟨_,rfl⟩
 rw[← hH3]at m2 r2 k2' q2
 have r3':Row H3 H.next (fldC (0,1)):=r2
 have b0:aBuild [.int .u32 0,.int .i64 0] [(0,1,.int .u32 0),(1,1,.int .i64 1)]=some (.agg [.int .u32 0,.int .i64 1]):=rfl
 have b1:aBuild [.int .u32 0,.int .i64 0] [(0,1,.int .u32 1),(1,1,.int .i64 2)]=some (fldV (1,2)):=rfl
 have E3:Ext H.next H H3:=⟨om,fun c hc=>by rw[q2 c om,q1 c om]⟩
 have P3:=P.ext E3
 have ld:oLoad true 2 H3 (cellR H.next 2 0)=some (fldV (0,1)):=row_loadN r3' (n:=2) rfl
 simp only[c62,restB]at hrest
 simp only[c62,restB,sC,sA,sB,seval,b0,m1,m2,fldA,fld0]
 refine (prune_spec P3.row om).mono ?_
 rintro w _ rfl
 have e5:Ext H3.next H3 (H3.push (.cells (flds [(0,1),(1,2)]) 0 false)):=(Ext.refl _ _).push rL _
 have P4:=P3.mark h6 e5.next fun c hc _=>e5.old c hc
 have F4:FM (upT τ H3 (H3.push (.cells (flds [(0,1),(1,2)]) 0 false)) 6) (H3.push (.cells (flds [(0,1),(1,2)]) 0 false)) (.slice (some ⟨H3.next,4,0⟩) 2 (.known 2)) [(0,1),(1,2)]:=⟨LinM.built (m:=2) (k:=2) H3 (xs:=flds [(0,1),(1,2)]) rfl,blk_some (upT_new rL (by rw[push_next]; exact Nat.lt_succ_self _))⟩
 have l5:oLoad false 1 (H3.push (.cells (flds [(0,1),(1,2)]) 0 false)) (cellR ow 9 5)=some (.int .i64 (sent:Int)):=row_load P4.row rfl rfl
 simp only[sA,sB,seval,ld,b1,buildF2,nil_cell,fldA,fld0,l5]
 obtain⟨Hs,hHs⟩:∃G,G=H3.push (.cells (flds [(0,1),(1,2)]) 0 false):=⟨_,rfl⟩
 have ks:Hs.next=H3.next+1:=by rw[hHs]; rfl
 obtain⟨τs,hτs⟩:∃t,t=upT τ H3 Hs 6:=⟨_,rfl⟩
 rw[← hHs]at e5 P4 F4 l5 ⊢
 rw[← hτs]at P4 F4
 have hs6:∀c,c<n0→τs c≠6:=fun c hc=>by rw[hτs,upT_old om]; exact h6 c hc
 have fs0:∀c,c<H3.next→τs c=τ c:=fun c hc=>by rw[hτs,upT_old hc]
 have tz0:=P.tz H.next rL
 refine aw_loop (fun q (T:Env) H'=>∃(i K:Nat) (τ':Nat→Nat) (acc:List Tok),(K≤i∧(K=0∨K+3≤b.length))∧sent≤i∧i≤to∧to-i≤q∧acc++toksF b to q i=toks b sent to∧acc.length+q≤4096∧T 0=cellR ow 9 0∧T 1=.int .i64 (to:Int)∧T 6=cellR H.next 2 0∧T 8=.int .i64 (i:Int)∧PW sent n0 τ' H' ow mb out kept b K∧FM τ' H' (T 7) ([(0,1),(1,2)]++acc.flatMap tokFl)∧Row H' H.next (fldC (0,1))∧τ' H.next=0∧H.next<H'.next∧(∀c,c<n0→τ' c≠6)∧(∀c,c<H.next→τ' c=τ c∧(c≠mb→c≠ow→τ c<100→τ c≠6→H'.get c=H.get c))) (to-sent)
  ⟨sent,K0,τs,[],⟨hK0,hKB⟩,Nat.le_refl _,hst,Nat.le_refl _,rfl,by simp only[List.length_nil]; omega,by simp only[sA,sB,seval]; try rfl,by simp only[sA,sB,seval]; try rfl,by simp only[sA,sB,seval]; try rfl,by simp only[sA,sB,seval]; try rfl,P4,by simp only[sA,sB,seval]; exact F4,r3'.same (e5.old _ om),by rw[fs0 _ om]; exact tz0,om,hs6,fun c hc=>⟨fs0 c om,fun _ _ _ _=>by rw[e5.old c om]; exact E3.old c hc⟩⟩ ?_
 rintro q T H' ⟨i,K,τ',acc,hKi,hsi,hib,hq,htk,hal,g0,g1,g6,g8,P',F',R',tq,hn',h6',fr⟩
 by_cases hlt:i<to
 ·have hlt':(i:Int)<(to:Int):=om
  obtain⟨q,rfl⟩:∃n,q=n+1:=⟨q-1,om⟩
  have hfl:=tokFls_len acc
  simp only[sA,sB,seval,g0,g1,g6,g8,hlt']
  refine (block_step P' F' h6' hKi.1 hlt hto hb).mono ?_
  rintro _ H4 ⟨rfl,τ4,K4,hK4,P4,F4,h64,fm⟩
  have n4:=fm.1
  have o4:=P4.mbn
  have fr4:∀c,c<H.next→τ4 c=τ c∧(c≠mb→c≠ow→τ c<100→τ c≠6→H4.get c=H.get c):=fun c hc=>by
   obtain⟨e1,e2⟩:=fr c hc
   obtain⟨e3,e4⟩:=fm.2 c om
   exact⟨e3.trans e1,fun a1 a2 a3 a4=>(e4 a1 a2 (by rw[e1]; exact a3)).trans (e2 a1 a2 a3 a4)⟩
  have R4:Row H4 H.next (fldC (0,1)):=R'.same ((fm.2 _ hn').2 om om (by rw[tq]; omega))
  have tq4:τ4 H.next=0:=(fm.2 _ hn').1.trans tq
  rcases tok_at (b:=b) (to:=to) (f:=q) hlt hto with⟨h3,et⟩ | ⟨h3,et⟩
  ·obtain⟨x1,x2,x3,x4⟩:=matchG_ok hlt hto hb h3
   generalize matchG b i to=mg at *
   have h3':(3:Int)≤(mg.1:Int):=om
   simp only[sA,sB,seval,g0,g1,g6,g8,ext_0,ext_1,h3']
   refine (matched_spec mg.1 mg.2 F4.1 (by simp only[lA,List.length_cons,List.length_nil]; omega) h3 x1 x2 om).mono ?_
   rintro w H5 ⟨k5,s5⟩
   obtain⟨F5,e5⟩:=F4.stp k5 s5
   have P5:=P4.mark h64 s5.1 e5
   have n5:=s5.1
   have ef:[(0,1),(1,2)]++List.flatMap tokFl acc++(lenFl mg.1++disFl mg.2)=[(0,1),(1,2)]++(acc++[(⟨mg.1,mg.2,0⟩:Tok)]).flatMap tokFl:=by
    simp only[List.flatMap_append,List.flatMap_cons,List.flatMap_nil,List.append_nil,List.append_assoc,tokFl]
    rw[if_neg om]
   rw[ef]at F5; simp only[List.cons_append,List.nil_append]at F5
   simp only[sA,sB,seval,g0,g1,g6,g8,wrapN i mg.1 om]
   exact⟨q,Nat.lt_succ_self _,i+mg.1,K4,_,acc++[⟨mg.1,mg.2,0⟩],om,om,om,om,by rw[← htk,et]; simp,by simp; omega,tt,tt,tt,tt,P5,F5,R4.same (e5 _ om (by rw[tq4]; omega)),by rw[upT_old om]; exact tq4,om,fun c hc=>by rw[upT_old om]; exact h64 c hc,fun c hc=>⟨by rw[upT_old om]; exact (fr4 c hc).1,fun a1 a2 a3 a4=>by rw[e5 c om (by rw[(fr4 c hc).1]; exact a4)]; exact (fr4 c hc).2 a1 a2 a3 a4⟩⟩
  ·generalize matchG b i to=mg at *
   have h3':¬(3:Int)≤(mg.1:Int):=om
   have l3:oLoad false 1 H4 (cellR ow 9 3)=some kept:=row_load P4.row rfl rfl
   have l4:oLoad false 1 H4 (cellR ow 9 4)=some (.int .i64 0):=row_load P4.row rfl rfl
   have e0:(i:Int)-0=(i:Int):=om
   have wi:IntKind.i64.wrap (i:Int)=(i:Int):=wrap64 om om
   obtain⟨c,hc⟩:∃c,b[i]?=some c:=⟨_,List.getElem?_eq_getElem om⟩
   have ck:Cel H4.next H4 kept (byts b):=P4.kp.cel1 P4.kp.blk'
   have ix:=ck.idx .i64 (i:=i) (by rw[byts_len]; omega)
   have lx:=ck.load (byts_get hc)
   have cv:=c.toNat_lt
   have egd:b.getD i 0=c:=by rw[List.getD_eq_getElem?_getD,hc]; rfl
   have wc:IntKind.i64.wrap (c.toNat:Int)=(c.toNat:Int):=wrap64 om om
   simp only[sA,sB,seval,g0,g1,g6,g8,ext_0,ext_1,h3',nil_cell,fldA,fld0,l3,l4,e0,wi,ix,lx,conv_in,wc]
   refine (symbol_spec H4 c.toNat om).mono ?_
   rintro _ H5 ⟨rfl,E5⟩
   have P5:=P4.ext E5
   have F5:FM τ4 H5 (T 7) _:=⟨F4.1.ext E5,F4.2⟩
   have n5:=E5.next
   obtain⟨w,H6,m6,k6,s6⟩:=FL.add F5.1 [symF c.toNat] (by simp only[lA,List.length_cons,List.length_nil]; omega)
   obtain⟨F6,e6⟩:=F5.stp k6 s6
   have P6:=P5.mark h64 s6.1 e6
   have n6:=s6.1
   have m6':aAppend 2 16 (H5.push (.cells (fldC (symF c.toNat)) 0 false)) (T 7) (.slice (some ⟨H5.next,2,0⟩) 1 (.known 1))=some (w,H6):=by simpa[flds] using m6
   have ef:[(0,1),(1,2)]++List.flatMap tokFl acc++[symF c.toNat]=[(0,1),(1,2)]++(acc++[(⟨0,0,b.getD i 0⟩:Tok)]).flatMap tokFl:=by
    simp only[List.flatMap_append,List.flatMap_cons,List.flatMap_nil,List.append_nil,List.append_assoc,tokFl,if_true,egd]
   rw[ef]at F6; simp only[List.cons_append,List.nil_append]at F6
   simp only[sA,sB,seval,g0,g1,g6,g8,buildF1,m6',wrap1 i om]
   exact⟨q,Nat.lt_succ_self _,i+1,K4,_,acc++[⟨0,0,b.getD i 0⟩],om,om,om,om,by rw[← htk,et]; simp,by simp; omega,tt,tt,tt,tt,P6,F6,R4.same (by rw[e6 _ om (by rw[tq4]; omega)]; exact E5.old _ om),by rw[upT_old om]; exact tq4,om,fun c hc=>by rw[upT_old om]; exact h64 c hc,fun c hc=>⟨by rw[upT_old om]; exact (fr4 c hc).1,fun a1 a2 a3 a4=>by rw[e6 c om (by rw[(fr4 c hc).1]; exact a4),E5.old c om]; exact (fr4 c hc).2 a1 a2 a3 a4⟩⟩
 ·have hlt':¬(i:Int)<(to:Int):=om
  simp only[sA,sB,seval,g0,g1,g6,g8,hlt']
  rw[toksF_end hlt,List.append_nil]at htk
  subst htk
  exact hrest _ _ τ' K H.next (by simp only[sA,sB,seval,g0]) (by simp only[sA,sB,seval,g1]) (by simp only[sA,sB,seval,g6]) P' om (by simp only[sA,sB,seval]; exact F') R' tq o3 hn' h6' fr om
variable {sent:Nat}
theorem flds_at{fs:List (Nat×Nat)}{i:Nat}{f:Nat×Nat}(h:fs[i]?=some f):((flds fs).drop (i*2)).take 2=fldC f:=by
 induction fs generalizing i with
 | nil=>simp at h
 | cons g r ih=>
  cases i with
  | zero=>simp at h; subst h; simp[flds,fldC]
  | succ i=>
   have:=ih (by simpa using h)
   have e:(i+1)*2=i*2+2:=om
   rw[e]
   simpa[flds,fldC] using this
theorem FL.at{H:AHeap}{v:AVal}{fs:List (Nat×Nat)}(h:FL H v fs){i:Nat}{f:Nat×Nat}(hf:fs[i]?=some f):∃a,aIdxA 2 v (.int .i64 (i:Int))=some a∧oLoad true 2 H a=some (.agg (fldC f)):=by
 obtain⟨b,lim,h1,h2,_⟩:=LinM.at h (i:=i) (List.getElem?_eq_some_iff.1 hf).1
 exact⟨_,h1,by rw[h2,flds_at hf]⟩
theorem fldOk_lt{f:Nat×Nat}(h:fldOk f=true):f.1<2 ^ f.2∧f.2≤16:=by
 simp only[fldOk,Bool.and_eq_true,Nat.blt_eq,Nat.ble_eq]at h
 exact⟨of_decide_eq_true (by simpa[Nat.blt] using h.1),h.2⟩
theorem fldBits_snoc(fs:List (Nat×Nat))(f:Nat×Nat):fldBits (fs++[f])=fldBits fs++bitsN f.1 f.2:=by simp[fldBits]
theorem wideF_le{fs:List (Nat×Nat)}(h:∀f∈fs,fldOk f=true):wideF fs≤16*fs.length:=by
 induction fs with
 | nil=>simp[wideF]
 | cons f r ih=>
  have h1:=(fldOk_lt (h f (by simp))).2
  have h2:=ih fun g hg=>h g (by simp[hg])
  simp only[wideF,List.map_cons,List.sum_cons,List.length_cons]at h2 ⊢; omega
def kB(k:Nat):Prop:=k=1∨k=2∨k=4∨k=6
structure BR(sent ln:Nat)(τ:Nat→Nat)(H:AHeap)(ow o K q:Nat)(mv kept:AVal)(b:Bs):Prop where
 row:Row H ow (dC sent (cellR o 3 0) kept K mv)
 tow:τ ow=1
 own:ow<H.next
 kp:AppN 1 0 H kept (byts b) b.length
 kb:Blk kept (τ ·=5)
 fst:Row H q (fldC (ln,1))
 tq:τ q=0
 qn:q<H.next
theorem BR.fr{ln:Nat}{S:Nat→Prop}{τ τ':Nat→Nat}{H H':AHeap}{ow o K q:Nat}{mv kept:AVal}{b:Bs}(B:BR sent ln τ H ow o K q mv kept b)(f:FrS S τ H τ' H')(h0:¬S 0)(h1:¬S 1)(h5:¬S 5):BR sent ln τ' H' ow o K q mv kept b:=
 have hk:Blk kept fun c=>c<H.next∧τ c=5:=B.kp.blk'.and B.kb
 ⟨B.row.same ((f.2 _ B.own).2 (by rw[B.tow]; exact h1)),(f.2 _ B.own).1.trans B.tow,Nat.lt_of_lt_of_le B.own f.1,B.kp.same f.1 (hk.mono fun c hc=>(f.2 c hc.1).2 (by rw[hc.2]; exact h5)),hk.mono fun c hc=>(f.2 c hc.1).1.trans hc.2,B.fst.same ((f.2 _ B.qn).2 (by rw[B.tq]; exact h0)),(f.2 _ B.qn).1.trans B.tq,Nat.lt_of_lt_of_le B.qn f.1⟩
theorem FM.fr{S:Nat→Prop}{τ τ':Nat→Nat}{H H':AHeap}{v:AVal}{fs:List (Nat×Nat)}(h:FM τ H v fs)(f:FrS S τ H τ' H')(h6:¬S 6):FM τ' H' v fs:=
 have hb:Blk v fun c=>c<H.next∧τ c=6:=(LinM.blk h.1).and h.2
 ⟨LinM.same h.1 f.1 (hb.mono fun c hc=>(f.2 c hc.1).2 (by rw[hc.2]; exact h6)),hb.mono fun c hc=>(f.2 c hc.1).1.trans hc.2⟩
theorem OW.ext'{τ:Nat→Nat}{H H':AHeap}{o:Nat}{M:List Bool}{pl:Nat}(h:OW H.next τ H o M pl)(e:Ext H.next H H'):OW H'.next τ H' o M pl:=(OW.ext h e.next fun c hc=>e.old c hc).more e.next rL
theorem OW.tz{n:Nat}{τ:Nat→Nat}{H:AHeap}{o:Nat}{M:List Bool}{pl:Nat}(h:OW n τ H o M pl):∀c,n≤c→τ c=0:=by
 obtain⟨vb,h1,h2,h3,h4,h5,h6,h7,h8⟩:=h
 exact h5
def restC:List Nat:=[1,1,1,1,1,1,1,1,1,1]
theorem put_loop{to ln:Nat}{τ:Nat→Nat}{H:AHeap}{T:Env}{Q:AVal→AHeap→Prop}{ow o K q:Nat}{mv kept:AVal}{b:Bs}{fs:List (Nat×Nat)}{M:List Bool}{pl:Nat}(g0:T 0=cellR ow 9 0)(g1:T 1=.int .i64 (to:Int))(B:BR sent ln τ H ow o K q mv kept b)(W:OW H.next τ H o M pl)(F:FM τ H (T 7) fs)
  (hf:∀f∈fs,fldOk f=true) (hl:fs.length≤20000) (hpl:pl≤1000000) (hM:M.length≤1000000) (hto:to≤20000)
  (hQ:∀w H2 τ2,OW H2.next τ2 H2 o (M++fldBits fs) (pl+wideF fs)→Row H2 ow (dC to (cellR o 3 0) kept K mv)→τ2 ow=1→ow<H2.next→FrS (kB) τ H τ2 H2→Q w H2) :
  wp (ACalls Tryz.prog natT) (hold (restP restC c62.body)) (fin c62.res Q) T H:=by
 have hlen:aLenK false (T 7)=some (.int .i64 (fs.length:Int)):=LinM.len F.1
 obtain⟨fv,hfv⟩:∃fv,fv=T 7:=⟨_,rfl⟩
 rw[← hfv]at hlen F
 simp only[c62,restP,restC,hold_eq,sA,sB,seval,g0,g1,← hfv,hlen]
 refine aw_loop (fun m (T:Env) H'=>∃(i:Nat) (τ':Nat→Nat),i≤fs.length∧m=fs.length-i∧T 0=cellR ow 9 0∧T 1=.int .i64 (to:Int)∧T 174=fv∧T 175=.int .i64 (fs.length:Int)∧T 176=.int .i64 (i:Int)∧BR sent ln τ' H' ow o K q mv kept b∧FM τ' H' fv fs∧OW H'.next τ' H' o (M++fldBits (fs.take i)) (pl+wideF (fs.take i))∧FrS (kB) τ H τ' H') fs.length
  ⟨0,τ,Nat.zero_le _,rfl,by simp only[sA,sB,seval,g0],by simp only[sA,sB,seval,g1],by simp only[sA,sB,seval],by simp only[sA,sB,seval]; try rfl,by simp only[sA,sB,seval]; try rfl,B,F,by simpa[fldBits,wideF] using W,FrS.refl _ _ _⟩ ?_
 rintro m T H' ⟨i,τ',hi,rfl,k0,k1,k74,k75,k76,B',F',W',fr⟩
 have hwl:wideF (fs.take i)≤16*fs.length:=by
  have:=wideF_le (fs:=fs.take i) fun f hf'=>hf f (List.mem_of_mem_take hf')
  rw[List.length_take]at this; omega
 have hbl:(fldBits (fs.take i)).length≤12000000:=by rw[← wideF_bits]; omega
 by_cases hlt:i<fs.length
 ·have hlt':(i:Int)<(fs.length:Int):=om
  obtain⟨f,hfi⟩:∃f,fs[i]?=some f:=⟨_,List.getElem?_eq_getElem hlt⟩
  obtain⟨a,ma,la⟩:=FL.at F'.1 hfi
  obtain⟨hf1,hf2⟩:=fldOk_lt (hf f (List.mem_of_getElem? hfi))
  obtain⟨H1,m1,r1,k1',q1⟩:=row_newL H' [.int .u32 0,.int .i64 0] (n:=2) rfl
  obtain⟨H2,m2,r2,k2',q2⟩:=row_storeN r1 (n:=2) rfl (xs:=fldC f) rfl rfl
  have E:Ext H'.next H' H2:=⟨om,fun c hc=>by rw[q2 c om,q1 c om]⟩
  have B2:=B'.fr (FrS.of_ext (S:=fun _=>False) E) (by simp) (by simp) (by simp)
  have F2:=F'.fr (FrS.of_ext (S:=fun _=>False) E) (by simp)
  have W2:=W'.ext' E
  have l2:oLoad false 1 H2 (cellR ow 9 2)=some (cellR o 3 0):=row_load B2.row rfl rfl
  have lf0:oLoad false 1 H2 (cellR H'.next 2 0)=some (.int .u32 (f.1:Int)):=row_load r2 rfl rfl
  have lf1:oLoad false 1 H2 (cellR H'.next 2 1)=some (.int .i64 (f.2:Int)):=row_load r2 rfl rfl
  simp only[sA,sB,seval,k0,k1,k74,k75,k76,hlt',ma,la,m1,m2,nil_cell,fldA,fld0,l2,lf0,lf1]
  refine (put_spec W2 f.1 f.2 om hf1 om (by rw[lA]; omega)).mono ?_
  rintro _ H3 ⟨rfl,τ3,W3,fr3⟩
  have ns:∀k,k2 k→kB k:=fun k hk=>by unfold kB; unfold k2 at hk; omega
  have n1:¬k2 1:=by unfold k2; omega
  have n5:¬k2 5:=by unfold k2; omega
  have n6:¬k2 6:=by unfold k2; omega
  have n0:¬k2 0:=by unfold k2; omega
  simp only[sA,sB,seval,k0,k1,k74,k75,k76,wrap1 i om]
  refine⟨_,om,i+1,τ3,om,rfl,tt,tt,tt,tt,tt,B2.fr fr3 n0 n1 n5,F2.fr fr3 n6,?_,fr.trans ((FrS.of_ext E).trans (fr3.wide ns))⟩
  rw[take_snoc hfi,fldBits_snoc,wideF_bits,fldBits_snoc,← List.append_assoc,lA,bitsN_len,← wideF_bits,← Nat.add_assoc]
  exact W3
 ·have hlt':¬(i:Int)<(fs.length:Int):=om
  obtain rfl:i=fs.length:=om
  rw[List.take_length]at W'
  obtain⟨H3,m3,r3,k3,q3⟩:=row_st B'.row (n:=9) rfl (i:=5) om (x:=.int .i64 (to:Int)) rfl (l':=dC to (cellR o 3 0) kept K mv) rfl
  simp only[sA,sB,seval,k0,k1,k74,k75,k76,hlt',nil_cell,fldA,fld0,m3]
  have hB:=B'.own
  have fz:FrS (fun k=>k=1) τ' H' τ' H3:=⟨om,fun c hc=>⟨rfl,fun h=>q3 c (by rintro rfl; exact h B'.tow)⟩⟩
  have W3:OW H3.next τ' H3 o (M++fldBits fs) (pl+wideF fs):=by
   rw[k3]
   exact W'.fr rL om om W'.tz (fun _ _ _=>rfl) fun c hc hk=>q3 c (by rintro rfl; rw[B'.tow]at hk; unfold k2 at hk; omega)
  simp only[fin,wRes,OptP_some]
  exact hQ _ _ τ' W3 r3 B'.tow om (fr.trans (fz.wide fun k hk=>.inl hk))
variable {sent:Nat}
theorem xor_16{a:Nat}(h:a<65536):a ^^^ 65535=65535-a:=by
 apply Nat.eq_of_testBit_eq
 intro i
 rw[Nat.testBit_xor,show (65535:Nat)=2 ^ 16-1 from rfl,Nat.testBit_two_pow_sub_one,show 2 ^ 16-1-a=2 ^ 16-(a+1) by omega,Nat.testBit_two_pow_sub_succ om]
 by_cases hi:i<16
 ·simp[hi]
 ·have:a.testBit i=false:=Nat.testBit_lt_two_pow (Nat.lt_of_lt_of_le h (by have:=Nat.pow_le_pow_right (n:=2) om (show 16≤i by omega); omega))
  simp[hi,this]
theorem OW.frS{S:Nat→Prop}{τ τ':Nat→Nat}{H H':AHeap}{o:Nat}{M:List Bool}{pl:Nat}(h:OW H.next τ H o M pl)(f:FrS S τ H τ' H')(h2:¬S 2)(h4:¬S 4)(tz:∀c,H'.next≤c→τ' c=0):OW H'.next τ' H' o M pl:=
 h.fr f.1 rL f.1 tz (fun c hc _=>(f.2 c hc).1) fun c hc hk=>(f.2 c hc).2 (by rcases hk with e | e <;> rw[e] <;> assumption)
theorem FM.stpS{τ:Nat→Nat}{H H':AHeap}{v w:AVal}{fs gs:List (Nat×Nat)}(h:FM τ H v fs)(k:FL H' w gs)(s:Stp v H w H'):FM (upT τ H H' 6) H' w gs∧FrS (·=6) τ H (upT τ H H' 6) H':=by
 obtain⟨a,e⟩:=h.stp k s
 exact⟨a,s.1,fun c hc=>⟨upT_old hc,fun h6=>e c hc h6⟩⟩
theorem fldV_one(x:Nat):aBuild [.int .u32 0,.int .i64 0] [(0,1,.int .u32 (x:Int)),(1,1,.int .i64 8)]=some (fldV (x,8)):=rfl
def byFl(b:Bs):List (Nat×Nat):=b.map fun x=>(x.toNat,8)
theorem byFl_bits(b:Bs):fldBits (byFl b)=b.flatMap fun x=>bitsN x.toNat 8:=by simp[fldBits,byFl,List.flatMap_map]
theorem byFl_ok(b:Bs):∀f∈byFl b,fldOk f=true:=by
 intro f hf
 simp only[byFl,List.mem_map]at hf
 obtain⟨x,_,rfl⟩:=hf
 have:=x.toNat_lt
 simp only[fldOk,Bool.and_eq_true,Nat.blt_eq,Nat.ble_eq]
 exact⟨by simpa using this,om⟩
def segB(b:Bs)(sent to:Nat):Bs:=(b.drop sent).take (to-sent)
theorem segB_len{b:Bs}{to:Nat}(h1:sent≤to)(h2:to≤b.length):(segB b sent to).length=to-sent:=by
 simp only[segB,List.length_take,List.length_drop]; omega
theorem segB_byts(b:Bs)(to:Nat):((byts b).drop sent).take (to-sent)=byts (segB b sent to):=by
 simp only[segB,byts,List.map_take,List.map_drop]
def stoH(ln m n:Nat):List Bool:=bitsN ln 1++bitsN 0 2++List.replicate (fillN (m+3)) false++bitsN n 16++bitsN (65535-n) 16
def restD:List Nat:=[1,1,1,1,1,1,1,1,1,0,1,1,4]
theorem stored_branch{to ln:Nat}{M:List Bool}{pl:Nat}{τ:Nat→Nat}{H:AHeap}{T:Env}{Q':Post}{ow o K q:Nat}{mv kept:AVal}{b:Bs}{fs:List (Nat×Nat)}(hln:ln≤1)(hst:sent≤to)(hto:to≤b.length)(hlong:to-sent≤4096)(hpl:pl≤1000000)(hMl:M.length≤1000000)(g0:T 0=cellR ow 9 0)(g1:T 1=.int .i64 (to:Int))(g6:T 6=cellR q 2 0)(g15:T 15=.int .i64 ((to-sent:Nat):Int))(B:BR sent ln τ H ow o K q mv kept b)(W:OW H.next τ H o M pl)(F:FM τ H (T 7) fs)(hb:b.length≤20000)
  (hQ:∀(T2:Env) (H2:AHeap) (τ2:Nat→Nat),T2 0=cellR ow 9 0→T2 1=.int .i64 (to:Int)→BR sent ln τ2 H2 ow o K q mv kept b→FM τ2 H2 (T2 7) (byFl (segB b sent to))→OW H2.next τ2 H2 o (M++stoH ln M.length (to-sent)) (pl+(stoH ln M.length (to-sent)).length)→FrS kB τ H τ2 H2→Q' .normal T2 H2) :
  wp (ACalls Tryz.prog natT) (restP restD c62.body) Q' T H:=by
 have ns:∀k,k2 k→kB k:=fun k hk=>by unfold kB; unfold k2 at hk; omega
 obtain⟨n,hn⟩:∃n,n=to-sent:=⟨_,rfl⟩
 have hsl:=segB_len hst hto
 rw[← hn]at g15 hlong hsl hQ
 have n1:¬k2 1:=by unfold k2; omega
 have n5:¬k2 5:=by unfold k2; omega
 have n6:¬k2 6:=by unfold k2; omega
 have n0:¬k2 0:=by unfold k2; omega
 have l2:oLoad false 1 H (cellR ow 9 2)=some (cellR o 3 0):=row_load B.row rfl rfl
 have lq:oLoad false 1 H (cellR q 2 0)=some (.int .u32 (ln:Int)):=row_load B.fst rfl rfl
 simp only[c62,restP,restD,sA,sB,seval,g0,g1,g6,nil_cell,fldA,fld0,l2,lq]
 refine (put_spec W ln 1 om om om om).mono ?_
 rintro _ H1 ⟨rfl,τ1,W1,f1⟩
 have B1:=B.fr f1 n0 n1 n5
 have F1:=F.fr f1 n6
 have l21:oLoad false 1 H1 (cellR ow 9 2)=some (cellR o 3 0):=row_load B1.row rfl rfl
 simp only[sA,sB,seval,g0,g1,g15,nil_cell,fldA,fld0,l21]
 refine (put_spec W1 0 2 om om om (by rw[lA,bitsN_len]; omega)).mono ?_
 rintro _ H2 ⟨rfl,τ2,W2,f2⟩
 have B2:=B1.fr f2 n0 n1 n5
 have F2:=F1.fr f2 n6
 have l22:oLoad false 1 H2 (cellR ow 9 2)=some (cellR o 3 0):=row_load B2.row rfl rfl
 simp only[sA,sB,seval,g0,g1,g15,nil_cell,fldA,fld0,l22]
 refine (align_spec W2 om (by simp only[lA,bitsN_len]; omega)).mono ?_
 rintro _ H3 ⟨rfl,τ3,W3,f3⟩
 have B3:=B2.fr f3 n0 n1 n5
 have F3:=F2.fr f3 n6
 have l23:oLoad false 1 H3 (cellR ow 9 2)=some (cellR o 3 0):=row_load B3.row rfl rfl
 have eM:(M++bitsN ln 1++bitsN 0 2:List Bool).length=M.length+3:=by simp only[lA,bitsN_len]
 rw[eM]at W3
 have wl:IntKind.u32.wrap (n:Int)=(n:Int):=wrap_u .u32 (by simp) (by simp only[IntKind.bits]; omega)
 simp only[sA,sB,seval,g0,g1,g15,nil_cell,fldA,fld0,l23,conv_in,wl]
 refine (put_spec W3 n 16 om om (by unfold fillN; omega) (by simp only[lA,bitsN_len,List.length_replicate]; unfold fillN; omega)).mono ?_
 rintro _ H4 ⟨rfl,τ4,W4,f4⟩
 have B4:=B3.fr f4 n0 n1 n5
 have F4:=F3.fr f4 n6
 have l24:oLoad false 1 H4 (cellR ow 9 2)=some (cellR o 3 0):=row_load B4.row rfl rfl
 have xo:aBin .xor (.int .u32 (n:Int)) (.int .u32 65535)=some (.int .u32 ((65535-n:Nat):Int)):=by
  have:=bin_xorU .u32 (by simp) (a:=n) (b:=65535) (by simp only[IntKind.bits]; omega) (by simp only[IntKind.bits]; omega)
  rw[xor_16 om]at this
  exact this
 simp only[sA,sB,seval,g0,g1,g15,nil_cell,fldA,fld0,l24,conv_in,wl,xo]
 refine (put_spec W4 (65535-n) 16 om om (by unfold fillN; omega) (by simp only[lA,bitsN_len,List.length_replicate]; unfold fillN; omega)).mono ?_
 rintro _ H5 ⟨rfl,τ5,W5,f5⟩
 have B5:=B4.fr f5 n0 n1 n5
 have F5:=F4.fr f5 n6
 have fA:FrS kB τ H τ5 H5:=(f1.trans (f2.trans (f3.trans (f4.trans f5)))).wide ns
 clear f1 f2 f3 f4 f5 B1 B2 B3 B4 F1 F2 F3 F4 W1 W2 W3 W4
 obtain⟨s,ms,Ls,Bs⟩:=LinM.zero F5.1 om
 have F6:FM τ5 H5 s []:=⟨Ls,Bs _ F5.2⟩
 obtain⟨sk,mk,ck,bk⟩:=B5.kp.slice (lo:=sent) (hi:=to) hst hto
 rw[segB_byts]at ck
 have k5:=bk _ B5.kb
 have l3:oLoad false 1 H5 (cellR ow 9 3)=some kept:=row_load B5.row rfl rfl
 have l4:oLoad false 1 H5 (cellR ow 9 4)=some (.int .i64 0):=row_load B5.row rfl rfl
 have l5:oLoad false 1 H5 (cellR ow 9 5)=some (.int .i64 (sent:Int)):=row_load B5.row rfl rfl
 have e0:(to:Int)-0=(to:Int):=om
 have e1:(sent:Int)-0=(sent:Int):=om
 have wb:IntKind.i64.wrap (to:Int)=(to:Int):=wrap64 om om
 have wc:IntKind.i64.wrap (sent:Int)=(sent:Int):=wrap64 om om
 have hlen:=ck.len
 rw[byts_len,hsl]at hlen
 have mk':aSl 1 kept (some (.int .i64 (sent:Int))) (some (.int .i64 (to:Int))) none=some sk:=mk
 simp only[sA,sB,seval,g0,g1,g15,nil_cell,fldA,fld0,l3,l4,l5,ms,e0,e1,wb,wc,mk',hlen]
 have hW:M++bitsN ln 1++bitsN 0 2++List.replicate (fillN (M.length+3)) false++bitsN n 16++bitsN (65535-n) 16=M++stoH ln M.length n:=by simp only[stoH,List.append_assoc]
 have hpl5:pl+1+2+fillN (M.length+3)+16+16=pl+(stoH ln M.length n).length:=by simp only[stoH,lA,bitsN_len,List.length_replicate]; omega
 rw[hW,hpl5]at W5
 generalize M++stoH ln M.length n=MM at *
 generalize pl+(stoH ln M.length n).length=pp at *
 generalize segB b sent to=sg at *
 refine aw_loop (fun m (T:Env) H'=>∃(j:Nat) (τ':Nat→Nat),j≤n∧m=n-j∧T 0=cellR ow 9 0∧T 1=.int .i64 (to:Int)∧T 161=sk∧T 162=.int .i64 (n:Int)∧T 163=.int .i64 (j:Int)∧BR sent ln τ' H' ow o K q mv kept b∧FM τ' H' (T 7) (byFl (sg.take j))∧OW H'.next τ' H' o MM pp∧FrS kB τ H τ' H'∧Cel H'.next H' sk (byts sg)∧Blk sk (τ' ·=5)) n
  ⟨0,τ5,Nat.zero_le _,rfl,by simp only[sA,sB,seval,g0],by simp only[sA,sB,seval,g1],by simp only[sA,sB,seval],by simp only[sA,sB,seval]; try rfl,by simp only[sA,sB,seval]; try rfl,B5,by simp only[sA,sB,seval]; exact F6,W5,fA,ck,k5⟩ ?_
 rintro m T H' ⟨j,τ',hj,rfl,k0,k1,k161,k162,k163,B',F',W',fr,ck',kb'⟩
 by_cases hlt:j<n
 ·have hlt':(j:Int)<(n:Int):=om
  obtain⟨x,hx⟩:∃x,sg[j]?=some x:=⟨_,List.getElem?_eq_getElem om⟩
  have hidx:=ck'.idx .i64 (i:=j) (by rw[byts_len]; omega)
  have hld:=ck'.load (byts_get hx)
  have hxl:=x.toNat_lt
  have wx:IntKind.u32.wrap (x.toNat:Int)=(x.toNat:Int):=b_u32 x
  have hlb:(byFl (sg.take j)).length=j:=by simp[byFl]; omega
  obtain⟨w,H6,m6,k6,s6⟩:=FL.add F'.1 [(x.toNat,8)] (by simp only[hlb,List.length_cons,List.length_nil]; omega)
  obtain⟨F6,f6⟩:=F'.stpS k6 s6
  have m6':aAppend 2 16 (H'.push (.cells (fldC (x.toNat,8)) 0 false)) (T 7) (.slice (some ⟨H'.next,2,0⟩) 1 (.known 1))=some (w,H6):=by simpa[flds] using m6
  have ef:byFl (sg.take j)++[(x.toNat,8)]=byFl (sg.take (j+1)):=by rw[take_snoc hx]; simp[byFl]
  rw[ef]at F6
  have z6:∀c,H6.next≤c→upT τ' H' H6 6 c=0:=fun c hc=>upT_z f6.1 hc
  have hb6:Blk sk fun c=>c<H'.next∧τ' c=5:=(cel_blk ck').and kb'
  simp only[sA,sB,seval,k0,k1,k161,k162,k163,hlt',hidx,hld,conv_in,wx,fldV_one,buildF1,m6',wrap1 j om]
  exact⟨_,om,j+1,_,om,rfl,tt,tt,tt,tt,tt,B'.fr f6 om om om,F6,W'.frS f6 om om z6,fr.trans (f6.wide fun k hk=>.inr (.inr (.inr hk))),cel_same ck' f6.1 (hb6.mono fun c hc=>(f6.2 c hc.1).2 om),hb6.mono fun c hc=>by rw[(f6.2 c hc.1).1]; exact hc.2⟩
 ·have hlt':¬(j:Int)<(n:Int):=om
  have hj2:j=sg.length:=om
  rw[hj2,List.take_length]at F'
  simp only[sA,sB,seval,k0,k1,k161,k162,k163,hlt']
  exact hQ _ _ τ' (by simp only[sA,sB,seval,k0]) (by simp only[sA,sB,seval,k1]) B' (by simp only[sA,sB,seval]; exact F') W' fr
variable {sent:Nat}
def blkB(ln m:Nat)(b:Bs)(sent to:Nat):List Bool:=if 3+fillN (m+3)+32+8*(to-sent)<wideF (blockFl ln (toks b sent to)) then stoH ln m (to-sent)++fldBits (byFl (segB b sent to)) else fldBits (blockFl ln (toks b sent to))
theorem OW.mod{n:Nat}{τ:Nat→Nat}{H:AHeap}{o:Nat}{M:List Bool}{pl:Nat}(h:OW n τ H o M pl):pl % 8=M.length % 8:=by
 obtain⟨vb,_,_,_,_,_,_,_,h8⟩:=h
 exact h8
theorem block_rest{to ln:Nat}{M:List Bool}{pl:Nat}{τ:Nat→Nat}{H:AHeap}{T:Env}{Q:AVal→AHeap→Prop}{ow o K q:Nat}{mv kept:AVal}{b:Bs}(hln:ln≤1)(hst:sent≤to)(hto:to≤b.length)(hlong:to-sent≤4096)(hpl:pl≤300000)(hMl:M.length≤300000)(g0:T 0=cellR ow 9 0)(g1:T 1=.int .i64 (to:Int))(g6:T 6=cellR q 2 0)(B:BR sent ln τ H ow o K q mv kept b)(W:OW H.next τ H o M pl)(F:FM τ H (T 7) ([(ln,1),(1,2)]++(toks b sent to).flatMap tokFl))(hb:b.length≤20000)
  (hQ:∀w H2 τ2,OW H2.next τ2 H2 o (M++blkB ln M.length b sent to) (pl+(blkB ln M.length b sent to).length)→Row H2 ow (dC to (cellR o 3 0) kept K mv)→τ2 ow=1→ow<H2.next→FrS kB τ H τ2 H2→Q w H2) :
  wp (ACalls Tryz.prog natT) (hold (restP restB c62.body)) (fin c62.res Q) T H:=by
 rw[hold_eq]
 refine wp_cutP [1,1,1,1,0,1,1,4] ?_
 refine wp_cutP [1,1,1,1,1] ?_
 simp only[c62,restP,restB,sC,sA,sB,seval,g0,g1,g6]
 refine (symbol_spec H 256 om).mono ?_
 rintro _ H1 ⟨rfl,E1⟩
 have B1:=B.fr (FrS.of_ext (S:=fun _=>False) E1) (by simp) (by simp) (by simp)
 have F1:FM τ H1 (T 7) _:=⟨F.1.ext E1,F.2⟩
 have W1:=W.ext' E1
 have hfl:=tokFls_len (toks b sent to)
 have htl:(toks b sent to).length≤to-sent:=toks_length b to (to-sent) sent
 obtain⟨fv,H2,m2,k2',s2⟩:=FL.add F1.1 [symF 256] (by simp only[lA,List.length_cons,List.length_nil]; omega)
 obtain⟨F2,f2⟩:=F1.stpS k2' s2
 have m2':aAppend 2 16 (H1.push (.cells (fldC (symF 256)) 0 false)) (T 7) (.slice (some ⟨H1.next,2,0⟩) 1 (.known 1))=some (fv,H2):=by simpa[flds] using m2
 have z2:∀c,H2.next≤c→upT τ H1 H2 6 c=0:=fun c hc=>upT_z f2.1 hc
 have B2:=B1.fr f2 om om om
 have W2:=W1.frS f2 om om z2
 have fr2:FrS kB τ H (upT τ H1 H2 6) H2:=(FrS.of_ext E1).trans (f2.wide fun k hk=>.inr (.inr (.inr hk)))
 obtain⟨fs,hfs⟩:∃fs,fs=blockFl ln (toks b sent to):=⟨_,rfl⟩
 have ef:[(ln,1),(1,2)]++(toks b sent to).flatMap tokFl++[symF 256]=fs:=by rw[hfs]; rfl
 rw[ef]at F2
 have hok:∀f∈fs,fldOk f=true:=by rw[hfs]; exact (blockFl_ok (last:=ln) hln (toks_ok b to om (to-sent) sent)).2
 have hbl:blkB ln M.length b sent to=if 3+fillN (M.length+3)+32+8*(to-sent)<wideF (blockFl ln (toks b sent to)) then stoH ln M.length (to-sent)++fldBits (byFl (segB b sent to)) else fldBits (blockFl ln (toks b sent to)):=rfl
 rw[← hfs]at hbl
 have hfsl:fs.length≤17000:=by rw[← ef]; simp only[lA,List.length_cons,List.length_nil]; omega
 have hlen:aLenK false fv=some (.int .i64 (fs.length:Int)):=LinM.len F2.1
 generalize upT τ H1 H2 6=τ2 at *
 simp only[sA,sB,seval,g0,g1,g6,buildF1,m2',hlen]
 clear F1 k2' s2 f2 m2 m2' B1 W1 ef hfs
 refine aw_loop (fun m (T:Env) H'=>∃i:Nat,i≤fs.length∧m=fs.length-i∧T 0=cellR ow 9 0∧T 1=.int .i64 (to:Int)∧T 6=cellR q 2 0∧T 7=fv∧T 11=.int .i64 ((wideF (fs.take i):Nat):Int)∧T 74=fv∧T 75=.int .i64 (fs.length:Int)∧T 76=.int .i64 (i:Int)∧Ext H2.next H2 H') fs.length
  ⟨0,Nat.zero_le _,rfl,by simp only[sA,sB,seval,g0],by simp only[sA,sB,seval,g1],by simp only[sA,sB,seval,g6],by simp only[sA,sB,seval],by simp only[sA,sB,seval]; try rfl,by simp only[sA,sB,seval]; try rfl,by simp only[sA,sB,seval]; try rfl,by simp only[sA,sB,seval]; try rfl,Ext.refl _ _⟩ ?_
 rintro m T H' ⟨i,hi,rfl,k0,k1,k6,k7,k11,k74,k75,k76,E⟩
 have hwl:wideF (fs.take i)≤16*fs.length:=by
  have:=wideF_le (fs:=fs.take i) fun f hf'=>hok f (List.mem_of_mem_take hf')
  rw[List.length_take]at this; omega
 have F':FM τ2 H' fv fs:=⟨F2.1.ext E,F2.2⟩
 by_cases hlt:i<fs.length
 ·have hlt':(i:Int)<(fs.length:Int):=om
  obtain⟨f,hfi⟩:∃f,fs[i]?=some f:=⟨_,List.getElem?_eq_getElem hlt⟩
  obtain⟨a,ma,la⟩:=FL.at F'.1 hfi
  obtain⟨hf1,hf2⟩:=fldOk_lt (hok f (List.mem_of_getElem? hfi))
  obtain⟨H3,m3,r3,k3,q3⟩:=row_newL H' [.int .u32 0,.int .i64 0] (n:=2) rfl
  obtain⟨H4,m4,r4,k4,q4⟩:=row_storeN r3 (n:=2) rfl (xs:=fldC f) rfl rfl
  have E4:Ext H'.next H' H4:=⟨om,fun c hc=>by rw[q4 c om,q3 c om]⟩
  have lf1:oLoad false 1 H4 (cellR H'.next 2 1)=some (.int .i64 (f.2:Int)):=row_load r4 rfl rfl
  simp only[sA,sB,seval,k0,k1,k6,k7,k11,k74,k75,k76,hlt',ma,la,m3,m4,fldA,fld0,lf1,wrapN (wideF (fs.take i)) f.2 om,wrap1 i om]
  have ew:wideF (fs.take (i+1))=wideF (fs.take i)+f.2:=by rw[take_snoc hfi]; simp[wideF]
  exact⟨_,om,i+1,om,rfl,tt,tt,tt,tt,by rw[ew],tt,tt,tt,E.trans (E4.less E.next)⟩
 ·have hlt':¬(i:Int)<(fs.length:Int):=om
  obtain rfl:i=fs.length:=om
  rw[List.take_length]at k11 hwl
  have B':=B2.fr (FrS.of_ext (S:=fun _=>False) E) (by simp) (by simp) (by simp)
  have W':=W2.ext' E
  have fr':=fr2.trans (FrS.of_ext E)
  have l2:oLoad false 1 H' (cellR ow 9 2)=some (cellR o 3 0):=row_load B'.row rfl rfl
  have l5:oLoad false 1 H' (cellR ow 9 5)=some (.int .i64 (sent:Int)):=row_load B'.row rfl rfl
  simp only[sA,sB,seval,k0,k1,k6,k7,k11,k74,k75,k76,hlt',nil_cell,fldA,fld0,l2]
  refine (bits_spec W').mono ?_
  rintro _ _ ⟨rfl,rfl⟩
  obtain⟨F,hF⟩:∃F,F=fillN (pl+3):=⟨_,rfl⟩
  have hF7:F≤7:=by rw[hF]; unfold fillN; omega
  have hFM:fillN (M.length+3)=F:=by
   have:=W'.mod
   rw[hF]; unfold fillN; omega
  obtain⟨n,hn⟩:∃n,n=to-sent:=⟨_,rfl⟩
  have w3:IntKind.i64.wrap ((pl:Int)+3)=((pl+3:Nat):Int):=wrapN pl 3 om
  have r3:aBin .rem (.int .i64 ((pl+3:Nat):Int)) (.int .i64 8)=some (.int .i64 (((pl+3) % 8:Nat):Int)):=bin_remN (pl+3) 8 om
  have w5:IntKind.i64.wrap (8-(((pl+3) % 8:Nat):Int))=((8-(pl+3) % 8:Nat):Int):=w64
  have r5:aBin .rem (.int .i64 ((8-(pl+3) % 8:Nat):Int)) (.int .i64 8)=some (.int .i64 (F:Int)):=by
   have:=bin_remN (8-(pl+3) % 8) 8 om
   rw[hF]; exact this
  have e0:IntKind.i64.wrap ((to:Int)-(sent:Int))=(n:Int):=w64
  have w8:IntKind.i64.wrap (3+(F:Int))=((3+F:Nat):Int):=wrapN 3 F om
  have w40:IntKind.i64.wrap (((3+F:Nat):Int)+32)=((3+F+32:Nat):Int):=wrapN (3+F) 32 om
  have wm:IntKind.i64.wrap (8*(n:Int))=((8*n:Nat):Int):=w64
  have ws:IntKind.i64.wrap (((3+F+32:Nat):Int)+((8*n:Nat):Int))=((3+F+32+8*n:Nat):Int):=wrapN _ _ om
  simp only[sA,sB,seval,k0,k1,k6,k7,k11,nil_cell,fldA,fld0,w3,r3,w5,r5,l5,e0,w8,w40,wm,ws]
  rw[hFM,← hn]at hbl
  by_cases hcmp:3+F+32+8*n<wideF fs
  ·have hcmp':((3+F+32+8*n:Nat):Int)<((wideF fs:Nat):Int):=om
   rw[if_pos hcmp]at hbl
   simp only[hcmp',sA,sB,seval]
   refine stored_branch (q:=q) (fs:=fs) (kept:=kept) (b:=b) (mv:=mv) (o:=o) (K:=K) (ow:=ow) (τ:=τ2) hln hst hto hlong om om (by simp only[sA,sB,seval,k0]) (by simp only[sA,sB,seval,k1]) (by simp only[sA,sB,seval,k6]) (by simp only[sA,sB,seval]; rw[hn]) B' W' (by simp only[sA,sB,seval,k7]; exact F') hb ?_
   intro T3 H3 τ3 h0 h1 B3 F3 W3 f3
   rw[← hn]at W3
   have hsl:=segB_len hst hto
   have hlen2:(stoH ln M.length n).length≤60:=by simp only[stoH,lA,bitsN_len,List.length_replicate,hFM]; omega
   have PL:=put_loop h0 h1 B3 W3 F3 (byFl_ok _) (by simp[byFl]; omega) om (by rw[lA]; omega) om (Q:=Q) fun w H4 τ4 W4 r4 t4 o4 f4=>hQ w H4 τ4 (by
    rw[hbl,lA,← List.append_assoc,← Nat.add_assoc,← wideF_bits]; exact W4) r4 t4 o4 (fr'.trans (f3.trans f4))
   simp only[c62,restP,restC]at PL
   simp only[sA,sB,seval]
   exact PL
  ·have hcmp':¬((3+F+32+8*n:Nat):Int)<((wideF fs:Nat):Int):=om
   rw[if_neg hcmp]at hbl
   simp only[hcmp',sA,sB,seval]
   have PL:=fun T2 h0 h1 h7=>put_loop (T:=T2) (fs:=fs) h0 h1 B' W' h7 hok om om om om (Q:=Q) fun w H4 τ4 W4 r4 t4 o4 f4=>hQ w H4 τ4 (by
    rw[hbl,← wideF_bits]; exact W4) r4 t4 o4 (fr'.trans f4)
   simp only[c62,restP,restC]at PL
   exact PL _ (by simp only[sA,sB,seval,k0]) (by simp only[sA,sB,seval,k1]) (by simp only[sA,sB,seval,k7]; exact F')
end Go.Proofs.Tb
