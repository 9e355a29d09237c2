/- Part of a proof (T1 T2 T3 T4 T5 T6 T7 T8 T9 T11 T12 T14 T15 T16 T17 T18 T19 T20 T21 T22 T23); no condition. -/
import Derived.Test.YtbmacgjajnokdaaGreatP5
import Derived.Test.YtbmacgjajnokdaaGreatP6
set_option linter.unusedSimpArgs false
set_option linter.unusedVariables false
set_option linter.defProp false
set_option linter.unnecessarySimpa false
namespace Go.Proofs.Tb
open Go.Abs Go.Abs.S
def k2(k:Nat):Prop:=k=2∨k=4
theorem row_st{H:AHeap}{b n:Nat}{l l':List AVal}(h:Row H b l)(hn:l.length=n){i:Nat}(hi:i<n){x:AVal}(hx:x.one=true)(e:l.set i x=l') :
  ∃H',oStore 1 H (cellR b n i) x=some H'∧Row H' b l'∧H'.next=H.next∧∀c,c≠b→H'.get c=H.get c:=by
 subst e; exact row_store h hn hi hx
def OW(n:Nat)(τ:Nat→Nat)(H:AHeap)(o:Nat)(M:List Bool)(pl:Nat):Prop:=
 ∃vb,Row H o [.bool true,vb,.int .i64 (pl:Int)]∧o<n∧n≤H.next∧τ o=2∧(∀c,n≤c→τ c=0)∧AppN 1 0 H vb (u8s (pack M)) (pack M).length∧Blk vb (fun b=>b<n∧τ b=4)∧pl % 8=M.length % 8
theorem OW.fr{n n':Nat}{τ τ':Nat→Nat}{H H':AHeap}{o:Nat}{M:List Bool}{pl:Nat}(h:OW n τ H o M pl)(hn:n≤n')(hn':n'≤H'.next)(hH:H.next≤H'.next)(tz:∀c,n'≤c→τ' c=0)(ht:∀c,c<n→k2 (τ c)→τ' c=τ c)(e:∀c,c<n→k2 (τ c)→H'.get c=H.get c):OW n' τ' H' o M pl:=by
 obtain⟨vb,h1,h2,h3,h4,h5,h6,h7,h8⟩:=h
 exact⟨vb,h1.same (e o h2 (.inl h4)),om,hn',by rw[ht o h2 (.inl h4)]; exact h4,tz,h6.same hH (h7.mono fun b hb=>e b hb.1 (.inr hb.2)),h7.mono fun b hb=>⟨om,by rw[ht b hb.1 (.inr hb.2)]; exact hb.2⟩,h8⟩
theorem OW.ext{n:Nat}{τ:Nat→Nat}{H H':AHeap}{o:Nat}{M:List Bool}{pl:Nat}(h:OW n τ H o M pl)(hH:H.next≤H'.next)(e:∀c,c<n→H'.get c=H.get c):OW n τ H' o M pl:=by
 have h':=h
 obtain⟨vb,h1,h2,h3,h4,h5,h6,h7,h8⟩:=h
 exact h'.fr rL om hH h5 (fun _ _ _=>rfl) fun c hc _=>e c hc
theorem OW.more{n m:Nat}{τ:Nat→Nat}{H:AHeap}{o:Nat}{M:List Bool}{pl:Nat}(h:OW n τ H o M pl)(hm:n≤m)(hH:m≤H.next):OW m τ H o M pl:=by
 have h':=h
 obtain⟨vb,h1,h2,h3,h4,h5,h6,h7,h8⟩:=h
 exact h'.fr hm hH rL (fun c hc=>h5 c om) (fun _ _ _=>rfl) fun _ _ _=>rfl
theorem fldA(b n i o:Nat):aField o (cellR b n i)=some (cellR b n (i+o)):=_root_.id rfl
theorem nil_cell(b n i:Nat):aNilChk (cellR b n i)=some (cellR b n i):=_root_.id rfl
theorem eq_ptr_nil(b n i:Nat):aPf (.eqv false .ptr) [cellR b n i,.ptr none]=some (.bool false):=_root_.id rfl
theorem inside_spec{H:AHeap}{o pl:Nat}{v0 v1:AVal}(h:Row H o [v0,v1,.int .i64 (pl:Int)]):ACalls Tryz.prog noNat 331 [cellR o 3 0] H fun v H'=>v=.int .i64 ((pl % 8:Nat):Int)∧H=H':=by
 refine acalls_ofN rfl za331 rfl ?_
 have l2:oLoad false 1 H (cellR o 3 2)=some (.int .i64 (pl:Int)):=row_load h rfl rfl
 have r8:aBin .rem (.int .i64 (pl:Int)) (.int .i64 8)=some (.int .i64 ((pl % 8:Nat):Int)):=bin_remN pl 8 om
 simp only[c331,sA,sB,seval,nil_cell,fldA,l2,r8]
 exact⟨tt,tt⟩
theorem bits_spec{n:Nat}{τ:Nat→Nat}{H:AHeap}{o:Nat}{M:List Bool}{pl:Nat}(h:OW n τ H o M pl):ACalls Tryz.prog noNat 329 [cellR o 3 0] H fun v H'=>v=.int .i64 (pl:Int)∧H=H':=by
 obtain⟨vb,h1,_⟩:=h
 refine acalls_ofN rfl za329 rfl ?_
 have l0:oLoad false 1 H (cellR o 3 0)=some (.bool true):=row_load h1 rfl rfl
 have l2:oLoad false 1 H (cellR o 3 2)=some (.int .i64 (pl:Int)):=row_load h1 rfl rfl
 simp only[c329,sA,sB,seval,eq_ptr_nil,nil_cell,fldA,l0,l2]
 exact⟨tt,tt⟩
def putP:List Nat:=[1,1,1,0,2,3,1,2,1,1]
theorem put_tail{H:AHeap}{o:Nat}{N:List Bool}{pl u m at_ st:Nat}{vb:AVal}{τ:Nat→Nat}{T:Env}{Q:Post}(g0:T 0=cellR o 3 0)(g1:T 1=.int .u32 (u:Int))(g2:T 2=.int .i64 (m:Int))(g7:T 7=.int .i64 (at_:Int))
  (hat:at_=N.length % 8) (hst:st=min (8-at_) m) (hm:0<m) (hm32:m≤32) (hu:u<2 ^ m) (hpl:pl≤1000000100) (hN:N.length≤1000000100)
  (R:Row H o [.bool true,vb,.int .i64 (pl:Int)]) (on:o<H.next) (to:τ o=2) (tz:∀c,H.next≤c→τ c=0) (A:AppN 1 0 H vb (u8s (openP N)) (openP N).length) (B:Blk vb fun b=>b<H.next∧τ b=4) (hp:pl % 8=at_)
  (hQ:∀T2 H2,T2 0=cellR o 3 0→T2 1=.int .u32 ((u / 2 ^ st:Nat):Int)→T2 2=.int .i64 ((m-st:Nat):Int)→OW H2.next τ H2 o (N++bitsN u st) (pl+st)→FrS k2 τ H τ H2→Q .normal T2 H2) :
  wp (ACalls Tryz.prog noNat) (hold (restP putP c330.body)) Q T H:=by
 have hst8:at_+st≤8:=om
 have hst0:0<st:=om
 have lb:oLoad false 1 H (cellR o 3 1)=some vb:=row_load R rfl rfl
 have hOl:=openP_len N
 have hlen:aLenK false vb=some (.int .i64 ((openP N).length:Int)):=A.len
 have w1:IntKind.i64.wrap (((openP N).length:Int)-1)=((N.length / 8:Nat):Int):=by rw[wrap64 om om]; omega
 have hlast:=openP_last N
 have hb256:=byteAt_lt N (N.length / 8)
 have hlow:byteAt N (N.length / 8)<2 ^ at_:=by
  have h1:=natOf_lt ((N.drop (8*(N.length / 8))).take 8)
  have h2:((N.drop (8*(N.length / 8))).take 8).length=at_:=by simp; omega
  rw[h2]at h1; exact h1
 have hput:(u % 256*2 ^ at_ % 256)=u % 2 ^ st*2 ^ at_:=by
  have h256:(256:Nat)=2 ^ (8-at_)*2 ^ at_:=by rw[← Nat.pow_add,show 8-at_+at_=8 by omega]
  have e1:u % 256*2 ^ at_ % 256=u % 2 ^ (8-at_)*2 ^ at_:=by
   have hmm:u % 256*2 ^ at_ % (2 ^ (8-at_)*2 ^ at_)=(u % 256 % 2 ^ (8-at_))*2 ^ at_:=Nat.mul_mod_mul_right _ _ _
   rw[← h256]at hmm
   rw[hmm]
   congr 1
   have:(256:Nat)=2 ^ (8-at_)*2 ^ at_:=h256
   rw[this,Nat.mod_mul_right_mod]
  rw[e1]
  congr 1
  by_cases hc:8-at_≤m
  ·rw[show st=8-at_ by omega]
  ·have e:st=m:=om
   rw[e,Nat.mod_eq_of_lt hu,Nat.mod_eq_of_lt (Nat.lt_of_lt_of_le hu (Nat.pow_le_pow_right om om))]
 have hps:=pack_step N (bitsN u st) (by rw[bitsN_len]; exact hst0) (by rw[bitsN_len]; omega)
 rw[natOf_take,← hat]at hps
 have hor:byteAt N (N.length / 8) ||| (u % 2 ^ st*2 ^ at_)=byteAt N (N.length / 8)+u % 2 ^ st*2 ^ at_:=by
  rw[Nat.or_comm,or_low at_ (u % 2 ^ st) hlow]; omega
 have hsum:byteAt N (N.length / 8)+u % 2 ^ st*2 ^ at_<256:=by
  have:byteAt N (N.length / 8) ||| (u % 2 ^ st*2 ^ at_)<2 ^ 8:=Nat.or_lt_two_pow hb256 (by rw[← hput]; exact Nat.mod_lt _ om)
  rw[hor]at this; exact this
 obtain⟨a,H1,i1,i2,i3,A1,k1,o1⟩:=A.write (i:=N.length / 8) om (x:=.int .u8 ((byteAt N (N.length / 8)+u % 2 ^ st*2 ^ at_:Nat):Int)) rfl
 have ld:=i2 _ (u8s_get hlast)
 have hn8:IntKind.u8.wrap (u:Int)=((u % 256:Nat):Int):=wrap_um .u8 (.inl rfl) u
 have hsh:=bin_shlU .u8 .i64 (.inl rfl) (u % 256) (b:=at_) (by simp only[IntKind.bits]; omega)
 simp only[IntKind.bits]at hsh
 rw[show (2:Nat) ^ 8=256 from rfl,hput]at hsh
 have hr:=bin_orU .u8 (.inl rfl) (a:=byteAt N (N.length / 8)) (b:=u % 2 ^ st*2 ^ at_) hb256 (by rw[← hput]; exact Nat.mod_lt _ (by simp[IntKind.bits]))
 rw[hor]at hr
 have w8:IntKind.i64.wrap (8-(at_:Int))=((8-at_:Nat):Int):=by rw[wrap64 om om]; omega
 have hmin:(if (m:Int)<((8-at_:Nat):Int) then (m:Int) else ((8-at_:Nat):Int))=(st:Int):=by split <;> omega
 have hshr:=shrN .u32 .i64 u (b:=st) (by simp only[IntKind.bits]; omega)
 have wm:IntKind.i64.wrap ((m:Int)-(st:Int))=((m-st:Nat):Int):=by rw[wrap64 om om]; omega
 have R1:Row H1 o [.bool true,vb,.int .i64 (pl:Int)]:=R.same (o1 o (B.mono fun b hb=>by rintro rfl; omega))
 have lp:oLoad false 1 H1 (cellR o 3 2)=some (.int .i64 (pl:Int)):=row_load R1 rfl rfl
 obtain⟨H2,m2,r2,k2',o2⟩:=row_st R1 (n:=3) rfl (i:=2) om (x:=.int .i64 ((pl+st:Nat):Int)) rfl rfl
 simp only[c330,restP,putP,hold_eq,sA,sB,seval,g0,g1,g2,g7,nil_cell,fldA,lb,hlen,w1,i1,ld,hn8,hsh,hr,i3,w8,hmin,hshr,wm,lp,wrapN pl st om,m2]
 refine hQ _ _ (by simp only[sA,sB,seval,g0]) (by simp only[sA,sB,seval]) (by simp only[sA,sB,seval]) ⟨vb,r2,om,Nat.le_refl _,to,fun c hc=>tz c om,?_,B.mono fun b hb=>⟨om,hb.2⟩,?_⟩ ⟨om,fun c hc=>⟨rfl,fun hs=>?_⟩⟩
 ·have e:u8s (pack (N++bitsN u st))=(u8s (openP N)).set (N.length / 8) (.int .u8 ((byteAt N (N.length / 8)+u % 2 ^ st*2 ^ at_:Nat):Int)):=by rw[hps,u8s_set]
  have el:(pack (N++bitsN u st)).length=(openP N).length:=by rw[hps,List.length_set]
  rw[e,el]
  exact A1.same om (B.mono fun b hb=>o2 b (by rintro rfl; omega))
 ·rw[lA,bitsN_len]; omega
 ·have h2:τ c≠2:=fun e=>hs (.inl e)
  have h4:τ c≠4:=fun e=>hs (.inr e)
  rw[o2 c (by rintro rfl; omega),o1 c (B.mono fun b hb=>by rintro rfl; omega)]
theorem put_spec{n:Nat}{τ:Nat→Nat}{H:AHeap}{o:Nat}{M:List Bool}{pl:Nat}(h:OW n τ H o M pl)(v k:Nat)(hk:k≤32)(hv:v<2 ^ k)(hpl:pl≤1000000000)(hM:M.length≤1000000000) :
  ACalls Tryz.prog noNat 330 [cellR o 3 0,.int .u32 (v:Int),.int .i64 (k:Int)] H fun w H'=>w=.int .i64 0∧∃τ',OW H'.next τ' H' o (M++bitsN v k) (pl+k)∧FrS k2 τ H τ' H':=by
 refine acalls_ofN rfl za330 rfl ?_
 refine wp_cutP putP ?_
 have l0:oLoad false 1 H (cellR o 3 0)=some (.bool true):=by
  obtain⟨vb,h1,_⟩:=h
  exact row_load h1 rfl rfl
 have hv32:v<2 ^ 32:=Nat.lt_of_lt_of_le hv (Nat.pow_le_pow_right om hk)
 have c1:¬(k:Int)<0:=om
 have c2:¬(32:Int)<(k:Int):=om
 have w1:IntKind.u64.wrap (v:Int)=(v:Int):=wrapU64' om om
 have s1:=shrN .u64 .i64 v (b:=k) (by simp only[IntKind.bits]; omega)
 have d0:v / 2 ^ k=0:=Nat.div_eq_of_lt hv
 rw[d0]at s1
 simp only[c330,putP,sC,sA,sB,seval,eq_ptr_nil,nil_cell,fldA,l0,c1,c2,w1,s1,Int.natCast_zero]
 refine aw_loop (fun q (T:Env) H'=>∃(j u:Nat) (τ':Nat→Nat) (n':Nat),j≤k∧q=k-j∧T 0=cellR o 3 0∧T 1=.int .u32 (u:Int)∧T 2=.int .i64 ((k-j:Nat):Int)∧u=v / 2 ^ j∧u<2 ^ (k-j)∧OW n' τ' H' o (M++bitsN v j) (pl+j)∧FrS k2 τ H τ' H') k
  ⟨0,v,τ,n,Nat.zero_le _,rfl,by simp only[sA,sB,seval]; try rfl,by simp only[sA,sB,seval]; try rfl,by simp only[sA,sB,seval]; try rfl,by simp,by simpa using hv,by simpa[bitsN] using h,FrS.refl _ _ _⟩ ?_
 rintro q T H' ⟨j,u,τ',n',hj,rfl,g0,g1,g2,hu,hul,hO,hF⟩
 by_cases hlt:j<k
 ·have hlt':(0:Int)<((k-j:Nat):Int):=om
  obtain⟨vb,R,on,nn,to,tz,A,B,hp⟩:=hO
  obtain⟨N,hN⟩:∃N,N=M++bitsN v j:=⟨_,rfl⟩
  rw[← hN]at A hp
  have hNl:N.length=M.length+j:=by rw[hN,lA,bitsN_len]
  obtain⟨st,hst⟩:∃s,s=min (8-N.length % 8) (k-j):=⟨_,rfl⟩
  have lp:oLoad false 1 H' (cellR o 3 2)=some (.int .i64 ((pl+j:Nat):Int)):=row_load R rfl rfl
  have lb:oLoad false 1 H' (cellR o 3 1)=some vb:=row_load R rfl rfl
  have next:∀(T2:Env) (H2:AHeap) (τ1:Nat→Nat),FrS k2 τ H τ1 H2→OW H2.next τ1 H2 o (N++bitsN u st) (pl+j+st)→OW H2.next τ1 H2 o (M++bitsN v (j+st)) (pl+(j+st)):=fun T2 H2 τ1 _ h=>by
   rw[bits_split,← hu,← List.append_assoc,← hN,← Nat.add_assoc]; exact h
  have hdiv:u / 2 ^ st=v / 2 ^ (j+st):=by rw[hu,Nat.div_div_eq_div_mul,← Nat.pow_add]
  have hul2:u / 2 ^ st<2 ^ (k-(j+st)):=by
   rw[Nat.div_lt_iff_lt_mul (Nat.two_pow_pos st),← Nat.pow_add,show k-(j+st)+st=k-j by omega]
   exact hul
  simp only[sA,sB,seval,g0,g1,g2,hlt',nil_cell,fldA]
  refine (inside_spec R).mono ?_
  rintro w _ ⟨rfl,rfl⟩
  rw[hp]
  by_cases ha:N.length % 8=0
  ·have ha':((N.length % 8:Nat):Int)=0:=om
   obtain⟨vb1,H1,m1,A1,n1,b1,o1⟩:=A.pushB (m:=1) (xs:=[.int .u8 0]) rfl rfl om (bytes:=1) (by rw[pack_len]; omega) om
   have m1':aAppend 1 1 (H'.push (.cells [.int .u8 0] 0 false)) vb (oneS H')=some (vb1,H1):=m1
   have bld:=build1 (.int .u8 0) H' (x:=.int .u8 0) rfl
   have R1:=R.same (o1 o om (B.mono fun b hb=>by rintro rfl; omega))
   obtain⟨H2,m2,r2,k2',o2⟩:=row_st R1 (n:=3) rfl (i:=1) om (x:=vb1) A1.one rfl
   have hop:openP N=pack N++[0]:=by unfold openP; rw[if_pos ha]
   have B1:Blk vb1 fun b=>b<H2.next∧upT τ' H' H1 4 b=4:=by
    refine ((b1 (fun b=>b<n'∧τ' b=4) B).and A1.blk').mono fun b hb=>⟨om,?_⟩
    rcases hb.1 with h | h
    ·rw[upT_old om]; exact h.2
    ·exact upT_new h hb.2
   have to1:upT τ' H' H1 4 o=2:=by rw[upT_old om]; exact to
   have A2:AppN 1 0 H2 vb1 (u8s (openP N)) (openP N).length:=by
    have e1:u8s (openP N)=u8s (pack N)++[.int .u8 0]:=by rw[hop,u8s_append]; rfl
    have e2:(openP N).length=(pack N).length+1:=by rw[hop]; simp
    rw[e1,e2]
    exact A1.same om (B1.mono fun b hb=>o2 b (by rintro rfl; omega))
   have F2:FrS k2 τ' H' (upT τ' H' H1 4) H2:=⟨om,fun c hc=>⟨upT_old hc,fun hs=>by
    have h2:τ' c≠2:=fun e=>hs (.inl e)
    have h4:τ' c≠4:=fun e=>hs (.inr e)
    rw[o2 c (by rintro rfl; omega),o1 c hc (B.mono fun b hb=>by rintro rfl; omega)]⟩⟩
   simp only[sA,sB,seval,g0,g1,g2,ha',nil_cell,fldA,lb,bld,m1',m2]
   refine put_tail (τ:=upT τ' H' H1 4) (N:=N) (pl:=pl+j) (u:=u) (m:=k-j) (at_:=N.length % 8) (st:=st) (vb:=vb1) (by simp only[sA,sB,seval,g0]) (by simp only[sA,sB,seval,g1]) (by simp only[sA,sB,seval,g2]) (by simp only[sA,sB,seval]; rw[ha]; rfl) rfl hst om om hul om om r2 om to1 (fun c hc=>upT_z n1 om) A2 B1 om ?_
   intro T2 H3 q0 q1 q2 q3 q4
   simp only[sA,sB,seval]
   exact⟨_,om,j+st,u / 2 ^ st,upT τ' H' H1 4,H3.next,om,rfl,q0,q1,by rw[q2]; congr 2; omega,hdiv,hul2,next T2 H3 _ ((hF.trans F2).trans q4) q3,(hF.trans F2).trans q4⟩
  ·have ha':¬((N.length % 8:Nat):Int)=0:=om
   simp only[sA,sB,seval,g0,g1,g2,ha']
   have hop:openP N=pack N:=by unfold openP; rw[if_neg ha]
   refine put_tail (τ:=τ') (N:=N) (pl:=pl+j) (u:=u) (m:=k-j) (at_:=N.length % 8) (st:=st) (vb:=vb) (by simp only[sA,sB,seval,g0]) (by simp only[sA,sB,seval,g1]) (by simp only[sA,sB,seval,g2]) (by simp only[sA,sB,seval]) rfl hst om om hul om om R om to (fun c hc=>tz c om) (by rw[hop]; exact A) (B.mono fun b hb=>⟨om,hb.2⟩) om ?_
   intro T2 H2 q0 q1 q2 q3 q4
   simp only[sA,sB,seval]
   exact⟨_,om,j+st,u / 2 ^ st,τ',H2.next,om,rfl,q0,q1,by rw[q2]; congr 2; omega,hdiv,hul2,next T2 H2 τ' (hF.trans q4) q3,hF.trans q4⟩
 ·have hlt':¬(0:Int)<((k-j:Nat):Int):=om
  have hjk:j=k:=om
  subst hjk
  simp only[sA,sB,seval,g0,g1,g2,hlt']
  obtain⟨_,_,_,nn,_⟩:=id hO
  exact⟨tt,τ',hO.more nn rL,hF⟩
open Go.Abs Go.Abs.S
theorem cel_same{n m:Nat}{H H':AHeap}{s:AVal}{l:List AVal}(h:Cel n H s l)(hm:n≤m)(e:Blk s fun b=>H'.get b=H.get b):Cel m H' s l:=by
 rcases h with h | ⟨a,r,rfl,h2,h3⟩
 ·exact .inl h
 ·exact .inr ⟨a,r,rfl,om,by rw[rd_congr (e _ _ _ rfl)]; exact h3⟩
theorem cel_blk{n:Nat}{H:AHeap}{s:AVal}{l:List AVal}(h:Cel n H s l):Blk s (·<n):=by
 rcases h with⟨h,_⟩ | ⟨a,r,rfl,h3,_⟩
 ·exact isE_blk h _
 ·exact blk_some h3
theorem cel_one{n:Nat}{H:AHeap}{s:AVal}{l:List AVal}(h:Cel n H s l):s.one=true:=by
 rcases h with⟨h,_⟩ | ⟨a,r,rfl,_⟩
 ·exact isE_one h
 ·rfl
theorem fin_1{T:Env}{H:AHeap}(n i:Nat)(K:AVal→AHeap→Prop){v:AVal}(h:oLoad true n H (T i)=some v)(hk:K v H):fin [.cell true n i] K .ret T H:=by
 simp only[fin,wRes,h,OptP_some]; exact hk
theorem take_snoc{α:Type}{l:List α}{i:Nat}{x:α}(h:l[i]?=some x):l.take (i+1)=l.take i++[x]:=by rw[List.take_add_one,h]; rfl
open Go.Abs Go.Abs.S
theorem bitsN_zero(k:Nat):bitsN 0 k=List.replicate k false:=by
 induction k with
 | zero=>rfl
 | succ k ih=>simp only[bitsN,List.replicate_succ,Nat.zero_div,ih]; rfl
theorem align_spec{n:Nat}{τ:Nat→Nat}{H:AHeap}{o:Nat}{M:List Bool}{pl:Nat}(h:OW n τ H o M pl)(hpl:pl≤1000000000)(hM:M.length≤1000000000) :
  ACalls Tryz.prog noNat 293 [cellR o 3 0] H fun w H'=>w=.int .i64 0∧∃τ',OW H'.next τ' H' o (M++List.replicate (fillN M.length) false) (pl+fillN M.length)∧FrS k2 τ H τ' H':=by
 have hh:=h
 obtain⟨vb,h1,h2,h3,h4,h5,h6,h7,h8⟩:=hh
 refine acalls_ofN rfl za293 rfl ?_
 have l0:oLoad false 1 H (cellR o 3 0)=some (.bool true):=row_load h1 rfl rfl
 have w1:IntKind.i64.wrap (8-((pl % 8:Nat):Int))=((8-pl % 8:Nat):Int):=by rw[wrap64 om om]; omega
 have r1:aBin .rem (.int .i64 ((8-pl % 8:Nat):Int)) (.int .i64 8)=some (.int .i64 ((fillN M.length:Nat):Int)):=by
  have:=bin_remN (8-pl % 8) 8 om
  unfold fillN; rw[h8]at this ⊢; exact this
 have hf:fillN M.length<8:=by unfold fillN; omega
 simp only[c293,sA,sB,seval,eq_ptr_nil,nil_cell,fldA,l0]
 refine (inside_spec h1).mono ?_
 rintro w _ ⟨rfl,rfl⟩
 simp only[sA,sB,seval,w1,r1]
 have p:=put_spec h 0 (fillN M.length) om (Nat.two_pow_pos _) hpl hM
 rw[bitsN_zero]at p
 refine p.mono ?_
 rintro w H' ⟨rfl,τ',q1,q2⟩
 simp only[sA,sB,seval]
 exact⟨tt,τ',q1,q2⟩
theorem bnew_spec(H:AHeap):ACalls Tryz.prog noNat 214 [] H fun w H'=>w=cellR H.next 3 0∧Row H' H.next [.bool true,nilS,.int .i64 0]∧H'.next=H.next+1∧∀c,c≠H.next→H'.get c=H.get c:=by
 refine acalls_ofN rfl za214 rfl ?_
 obtain⟨H1,m1,r1,k1,o1⟩:=row_newL H [.bool true,nilS,.int .i64 0] (n:=3) rfl
 have b1:aBuild [.bool false,.slice none 0 (.known 0),.int .i64 0] [(0,1,.bool true)]=some (.agg [.bool true,nilS,.int .i64 0]):=rfl
 have b2:aBuild [.bool false,.slice none 0 (.known 0),.int .i64 0] [(0,3,.agg [.bool true,nilS,.int .i64 0])]=some (.agg [.bool true,nilS,.int .i64 0]):=rfl
 simp only[c214,sA,sB,seval,b1,b2,cells_agg,m1]
 exact⟨tt,r1,k1,o1⟩
theorem AppN.samN'{m n n' k:Nat}{H H':AHeap}{s:AVal}{L:List AVal}(h:AppN m n H s L k)(hn':n'≤n)(hn:H.next≤H'.next)(e:∀c,n≤c→c<H.next→H'.get c=H.get c):AppN m n' H' s L k:=by
 rcases h with h | ⟨b,low,h1,h2,h3,h4,h5,h6⟩
 ·exact .inl h
 ·exact .inr ⟨b,low,h1,h2,om,om,(e b h3 h4).trans h5,h6⟩
open Go.Abs Go.Abs.S
theorem adlerF_snoc(x:Nat×Nat)(l:Bs)(b:UInt8):adlerF x (l++[b])=(((adlerF x l).1+b.toNat) % 65521,((adlerF x l).2+((adlerF x l).1+b.toNat) % 65521) % 65521):=by simp[adlerF,List.foldl_append]
theorem adlerF_lt(l:Bs):∀x:Nat×Nat,x.1<65521→x.2<65521→(adlerF x l).1<65521∧(adlerF x l).2<65521:=by
 induction l with
 | nil=>intro x h1 h2; exact⟨h1,h2⟩
 | cons b l ih=>intro x h1 h2; exact ih _ (Nat.mod_lt _ om) (Nat.mod_lt _ om)
def adlerS(sum:Nat):Nat×Nat:=(sum % 65536 % 65521,sum / 65536 % 65521)
theorem adler_eq(sum:Nat)(l:Bs):adler sum l=(adlerF (adlerS sum) l).2*65536+(adlerF (adlerS sum) l).1:=rfl
theorem adlerS_lt(sum:Nat)(l:Bs):(adlerF (adlerS sum) l).1<65521∧(adlerF (adlerS sum) l).2<65521:=adlerF_lt l _ (Nat.mod_lt _ om) (Nat.mod_lt _ om)
theorem adler_lt(sum:Nat)(l:Bs):adler sum l<2 ^ 32:=by
 have:=adlerS_lt sum l
 rw[adler_eq]; omega
theorem adler_append(sum:Nat)(a b:Bs):adler (adler sum a) b=adler sum (a++b):=by
 have h:=adlerS_lt sum a
 have e:adlerS (adler sum a)=adlerF (adlerS sum) a:=by
  rw[adler_eq]
  generalize adlerF (adlerS sum) a=p at h
  unfold adlerS
  exact Prod.ext (by simp only; omega) (by simp only; omega)
 rw[adler_eq,e,adler_eq]
 simp only[adlerF,List.foldl_append]
theorem b_u32(b:UInt8):IntKind.u32.wrap (b.toNat:Int)=(b.toNat:Int):=by
 have:=b.toNat_lt
 exact wrapU32 om om
def fourL(n:Nat):List Nat:=[n / 16777216 % 256,n / 65536 % 256,n / 256 % 256,n % 256]
theorem build4(H:AHeap)(a b c d:Int):aBuildSl 4 [.int .u8 0] H [(0,1,.int .u8 a),(1,1,.int .u8 b),(2,1,.int .u8 c),(3,1,.int .u8 d)]=some (slR H.next 4 (.known 4),H.push (.cells [.int .u8 a,.int .u8 b,.int .u8 c,.int .u8 d] 0 false)):=_root_.id rfl
open Go.Abs Go.Abs.S
def rv(m s x:Nat):Nat:=(x / 2 ^ s &&& m) ||| ((x &&& m)*2 ^ s % 2 ^ 32)
def rvb(x:Nat):Nat:=x / 2 ^ 16 ||| (x*2 ^ 16 % 2 ^ 32)
def rev32(x:Nat):Nat:=rvb (rv 16711935 8 (rv 252645135 4 (rv 858993459 2 (rv 1431655765 1 x))))
theorem rv_lt{m s x:Nat}(hm:m<2 ^ 32):rv m s x<2 ^ 32:=Nat.or_lt_two_pow (Nat.and_lt_two_pow _ hm) (Nat.mod_lt _ (Nat.two_pow_pos _))
theorem rv_steps{x m s:Nat}{M S:Int}(hx:x<2 ^ 32)(eM:M=(m:Int))(eS:S=(s:Int))(hm:m<2 ^ 32)(hs:s≤32) :
  aBin .shr (.int .u32 (x:Int)) (.int .u64 S)=some (.int .u32 ((x / 2 ^ s:Nat):Int)) ∧
  aBin .and (.int .u32 ((x / 2 ^ s:Nat):Int)) (.int .u32 M)=some (.int .u32 ((x / 2 ^ s &&& m:Nat):Int)) ∧
  aBin .and (.int .u32 (x:Int)) (.int .u32 M)=some (.int .u32 ((x &&& m:Nat):Int)) ∧
  aBin .shl (.int .u32 ((x &&& m:Nat):Int)) (.int .u64 S)=some (.int .u32 (((x &&& m)*2 ^ s % 2 ^ 32:Nat):Int)) ∧
  aBin .or (.int .u32 ((x / 2 ^ s &&& m:Nat):Int)) (.int .u32 (((x &&& m)*2 ^ s % 2 ^ 32:Nat):Int))=some (.int .u32 ((rv m s x:Nat):Int)):=by
 subst eM eS
 exact⟨shrN .u32 .u64 x (b:=s) hs,bin_andU .u32 (.inr (.inr (.inl rfl))) (Nat.lt_of_le_of_lt (Nat.div_le_self _ _) hx) hm,bin_andU .u32 (.inr (.inr (.inl rfl))) hx hm,bin_shlU .u32 .u64 (.inr (.inr (.inl rfl))) _ hs,bin_orU .u32 (.inr (.inr (.inl rfl))) (Nat.and_lt_two_pow _ hm) (Nat.mod_lt _ (Nat.two_pow_pos _))⟩
theorem revb_spec(H:AHeap)(x:Nat)(hx:x<2 ^ 32):ACalls Tryz.prog noNat 366 [.int .u32 (x:Int)] H fun w H'=>w=.int .u32 ((rvb (rv 16711935 8 x):Nat):Int)∧H=H':=by
 refine acalls_ofN rfl za366 rfl ?_
 obtain⟨a1,a2,a3,a4,a5⟩:=rv_steps (M:=16711935) (S:=8) (m:=16711935) (s:=8) hx rfl rfl om om
 have hy:rv 16711935 8 x<2 ^ 32:=rv_lt om
 obtain⟨y,ey⟩:∃y,y=rv 16711935 8 x:=⟨_,rfl⟩
 rw[← ey]at hy a5
 have b1:aBin .shr (.int .u32 (y:Int)) (.int .u64 16)=some (.int .u32 ((y / 2 ^ 16:Nat):Int)):=shrN .u32 .u64 y (b:=16) (by simp only[IntKind.bits]; omega)
 have b2:aBin .shl (.int .u32 (y:Int)) (.int .u64 16)=some (.int .u32 ((y*2 ^ 16 % 2 ^ 32:Nat):Int)):=bin_shlU .u32 .u64 (.inr (.inr (.inl rfl))) y (b:=16) (by simp only[IntKind.bits]; omega)
 have b3:aBin .or (.int .u32 ((y / 2 ^ 16:Nat):Int)) (.int .u32 ((y*2 ^ 16 % 2 ^ 32:Nat):Int))=some (.int .u32 ((rvb y:Nat):Int)):=bin_orU .u32 (.inr (.inr (.inl rfl))) (Nat.lt_of_le_of_lt (Nat.div_le_self _ _) hy) (Nat.mod_lt _ (Nat.two_pow_pos _))
 rw[← ey]
 simp only[c366,sA,sB,seval,a1,a2,a3,a4,a5,b1,b2,b3]
 exact⟨tt,tt⟩
theorem rev_spec(H:AHeap)(x:Nat)(hx:x<2 ^ 32):ACalls Tryz.prog noNat 364 [.int .u32 (x:Int)] H fun w H'=>w=.int .u32 ((rev32 x:Nat):Int)∧H=H':=by
 refine acalls_ofN rfl za364 rfl ?_
 obtain⟨a1,a2,a3,a4,a5⟩:=rv_steps (M:=1431655765) (S:=1) (m:=1431655765) (s:=1) hx rfl rfl om om
 obtain⟨y,ey⟩:∃y,y=rv 1431655765 1 x:=⟨_,rfl⟩
 have hy:y<2 ^ 32:=by rw[ey]; exact rv_lt om
 rw[← ey]at a5
 obtain⟨b1,b2,b3,b4,b5⟩:=rv_steps (M:=858993459) (S:=2) (m:=858993459) (s:=2) hy rfl rfl om om
 obtain⟨z,ez⟩:∃z,z=rv 858993459 2 y:=⟨_,rfl⟩
 have hz:z<2 ^ 32:=by rw[ez]; exact rv_lt om
 rw[← ez]at b5
 obtain⟨d1,d2,d3,d4,d5⟩:=rv_steps (M:=252645135) (S:=4) (m:=252645135) (s:=4) hz rfl rfl om om
 obtain⟨u,eu⟩:∃u,u=rv 252645135 4 z:=⟨_,rfl⟩
 have hu:u<2 ^ 32:=by rw[eu]; exact rv_lt om
 rw[← eu]at d5
 simp only[c364,sA,sB,seval,a1,a2,a3,a4,a5,b1,b2,b3,b4,b5,d1,d2,d3,d4,d5]
 refine (revb_spec H u hu).mono ?_
 rintro w _ ⟨rfl,rfl⟩
 simp only[sA,sB,seval]
 refine⟨?_,tt⟩
 rw[eu,ez,ey]; rfl
def turnF(c w:Nat):Nat×Nat:=(rev32 c / 2 ^ (32-w),w)
def fldV(f:Nat×Nat):AVal:=.agg [.int .u32 (f.1:Int),.int .i64 (f.2:Int)]
def fldC(f:Nat×Nat):List AVal:=[.int .u32 (f.1:Int),.int .i64 (f.2:Int)]
theorem buildF(a b:Int):aBuild [.int .u32 0,.int .i64 0] [(0,1,.int .u32 a),(1,1,.int .i64 b)]=some (.agg [.int .u32 a,.int .i64 b]):=_root_.id rfl
theorem turned_spec(H:AHeap)(c w:Nat)(hc:c<2 ^ 32)(hw:w≤32):ACalls Tryz.prog noNat 358 [.int .i64 (c:Int),.int .i64 (w:Int)] H fun v H'=>v=fldV (turnF c w)∧Ext H.next H H':=by
 refine acalls_ofN rfl za358 rfl ?_
 obtain⟨H1,m1,r1,k1,o1⟩:=row_newL H [.int .u32 0,.int .i64 0] (n:=2) rfl
 have w1:IntKind.u32.wrap (c:Int)=(c:Int):=wrapU32 om om
 have w2:IntKind.i64.wrap (32-(w:Int))=((32-w:Nat):Int):=by rw[wrap64 om om]; omega
 have sh:=shrN .u32 .i64 (rev32 c) (b:=32-w) (by simp only[IntKind.bits]; omega)
 obtain⟨H2,m2,r2,k2',o2⟩:=row_storeN r1 (n:=2) rfl (xs:=fldC (turnF c w)) rfl rfl
 have m2':oStore 2 H1 (cellR H.next 2 0) (.agg [.int .u32 ((rev32 c / 2 ^ (32-w):Nat):Int),.int .i64 (w:Int)])=some H2:=m2
 simp only[c358,sA,sB,seval,m1,w1]
 refine (rev_spec H1 c hc).mono ?_
 rintro v _ ⟨rfl,rfl⟩
 simp only[sA,sB,seval,w2,sh,buildF,m2']
 exact fin_1 _ _ _ (by simp only[sA,sB,seval]; exact row_loadN r2 (n:=2) rfl) ⟨rfl,⟨om,fun b hb=>by rw[o2 b om,o1 b om]⟩⟩
def symF(s:Nat):Nat×Nat:=turnF (codeF s).1 (codeF s).2
theorem symbol_spec(H:AHeap)(s:Nat)(hs:s≤287):ACalls Tryz.prog noNat 328 [.int .i64 (s:Int)] H fun v H'=>v=fldV (symF s)∧Ext H.next H H':=by
 refine acalls_ofN rfl za328 rfl ?_
 obtain⟨H1,m1,r1,k1,o1⟩:=row_newL H [.int .u32 0,.int .i64 0] (n:=2) rfl
 have tail:∀(c w:Nat),codeF s=(c,w)→c<2 ^ 32→w≤32→∀Q:AVal→AHeap→Prop,(∀(H2:AHeap) (H3:AHeap),Ext H1.next H1 H2→oStore 2 H2 (cellR H.next 2 0) (fldV (symF s))=some H3→oLoad true 2 H3 (cellR H.next 2 0)=some (fldV (symF s))→Ext H.next H H3→Q (fldV (symF s)) H2)→ACalls Tryz.prog noNat 358 [.int .i64 (c:Int),.int .i64 (w:Int)] H1 Q:=by
  intro c w hc h1 h2 Q hQ
  refine (turned_spec H1 c w h1 h2).mono ?_
  rintro v H2 ⟨rfl,E⟩
  have en:=E.next
  obtain⟨H3,m3,r3,k3,o3⟩:=row_storeN (r1.same (E.old _ om)) (n:=2) rfl (xs:=fldC (turnF c w)) rfl rfl
  have e:symF s=turnF c w:=by unfold symF; rw[hc]
  rw[← e]at m3 r3 ⊢
  exact hQ H2 H3 E m3 (row_loadN r3 (n:=2) rfl) ⟨om,fun b hb=>by rw[o3 b om,E.old b om,o1 b om]⟩
 by_cases h1:s<144
 ·have h1':(s:Int)<144:=om
  have w1:IntKind.i64.wrap (48+(s:Int))=((48+s:Nat):Int):=by rw[wrap64 om om]; omega
  have e:codeF s=(48+s,8):=by unfold codeF; rw[if_pos om]
  simp only[c328,sA,sB,seval,m1,h1',w1]
  refine tail _ 8 e om om _ ?_
  intro H2 H3 E m3 l3 E3
  simp only[sA,sB,seval,m3]
  exact fin_1 _ _ _ (by simp only[sA,sB,seval]; exact l3) ⟨rfl,E3⟩
 ·have h1':¬(s:Int)<144:=om
  by_cases h2:s<256
  ·have h2':(s:Int)<256:=om
   have w1:IntKind.i64.wrap (400+(s:Int))=((400+s:Nat):Int):=by rw[wrap64 om om]; omega
   have w2:IntKind.i64.wrap (((400+s:Nat):Int)-144)=((400+s-144:Nat):Int):=by rw[wrap64 om om]; omega
   have e:codeF s=(400+s-144,9):=by unfold codeF; rw[if_neg om,if_pos om]
   simp only[c328,sA,sB,seval,m1,h1',h2',w1,w2]
   refine tail _ 9 e om om _ ?_
   intro H2 H3 E m3 l3 E3
   simp only[sA,sB,seval,m3]
   exact fin_1 _ _ _ (by simp only[sA,sB,seval]; exact l3) ⟨rfl,E3⟩
  ·have h2':¬(s:Int)<256:=om
   by_cases h3:s<280
   ·have h3':(s:Int)<280:=om
    have w1:IntKind.i64.wrap ((s:Int)-256)=((s-256:Nat):Int):=by rw[wrap64 om om]; omega
    have e:codeF s=(s-256,7):=by unfold codeF; rw[if_neg om,if_neg om,if_pos om]
    simp only[c328,sA,sB,seval,m1,h1',h2',h3',w1]
    refine tail _ 7 e om om _ ?_
    intro H2 H3 E m3 l3 E3
    simp only[sA,sB,seval,m3]
    exact fin_1 _ _ _ (by simp only[sA,sB,seval]; exact l3) ⟨rfl,E3⟩
   ·have h3':¬(s:Int)<280:=om
    have w1:IntKind.i64.wrap (192+(s:Int))=((192+s:Nat):Int):=by rw[wrap64 om om]; omega
    have w2:IntKind.i64.wrap (((192+s:Nat):Int)-280)=((192+s-280:Nat):Int):=by rw[wrap64 om om]; omega
    have e:codeF s=(192+s-280,8):=by unfold codeF; rw[if_neg om,if_neg om,if_neg om]
    simp only[c328,sA,sB,seval,m1,h1',h2',h3',w1,w2]
    refine tail _ 8 e om om _ ?_
    intro H2 H3 E m3 l3 E3
    simp only[sA,sB,seval,m3]
    exact fin_1 _ _ _ (by simp only[sA,sB,seval]; exact l3) ⟨rfl,E3⟩
theorem fin_tc{T:Env}{H:AHeap}(i j:Nat)(K:AVal→AHeap→Prop){v:AVal}(h:oLoad true 2 H (T j)=some v)(hk:K (.tuple [T i,v]) H):fin [.t i,.cell true 2 j] K .ret T H:=by
 simp only[fin,wRes,h,OptP_some]; exact hk
def wd4(s:Nat):Nat:=s / 4-1
def wd2(s:Nat):Nat:=s / 2-1
theorem pf_max(a b:Int):aPf (.mm true) [.int .i64 a,.int .i64 b]=some (.int .i64 (if a<b then b else a)):=by
 simp only[aPf,aMMs,aMM,aMM1,ltF_eq,cond_true]
 by_cases h:a<b <;> simp[h]
theorem quo64(a b:Nat)(h:0<b)(ha:a<2 ^ 62):aBin .quo (.int .i64 (a:Int)) (.int .i64 (b:Int))=some (.int .i64 ((a / b:Nat):Int)):=by
 have hq:a / b≤a:=Nat.div_le_self _ _
 rw[bin_quo _ _ _ om]
 show some (AVal.int .i64 (IntKind.i64.wrap ((a / b:Nat):Int)))=_
 generalize a / b=c at hq ⊢
 rw[wrap64 om om]
theorem wide1_spec(sp:Nat)(H:AHeap)(hs:sp≤40):ACalls Tryz.prog noNat 356 [.int .i64 (sp:Int)] H fun w H'=>w=.int .i64 ((wd4 sp:Nat):Int)∧H=H':=by
 refine acalls_ofN rfl za356 rfl ?_
 have q:aBin .quo (.int .i64 (sp:Int)) (.int .i64 4)=some (.int .i64 ((sp / 4:Nat):Int)):=quo64 sp 4 om om
 have w:IntKind.i64.wrap (((sp / 4:Nat):Int)-1)=((sp / 4:Nat):Int)-1:=wrap64 om om
 have e:(if (0:Int)<((sp / 4:Nat):Int)-1 then ((sp / 4:Nat):Int)-1 else 0)=((wd4 sp:Nat):Int):=by unfold wd4; split <;> omega
 simp only[c356,sA,sB,seval,q,w,pf_max,e]
 exact⟨tt,tt⟩
theorem wide2_spec(sp:Nat)(H:AHeap)(hs:sp≤40):ACalls Tryz.prog noNat 357 [.int .i64 (sp:Int)] H fun w H'=>w=.int .i64 ((wd2 sp:Nat):Int)∧H=H':=by
 refine acalls_ofN rfl za357 rfl ?_
 have q:aBin .quo (.int .i64 (sp:Int)) (.int .i64 2)=some (.int .i64 ((sp / 2:Nat):Int)):=quo64 sp 2 om om
 have w:IntKind.i64.wrap (((sp / 2:Nat):Int)-1)=((sp / 2:Nat):Int)-1:=wrap64 om om
 have e:(if (0:Int)<((sp / 2:Nat):Int)-1 then ((sp / 2:Nat):Int)-1 else 0)=((wd2 sp:Nat):Int):=by unfold wd2; split <;> omega
 simp only[c357,sA,sB,seval,q,w,pf_max,e]
 exact⟨tt,tt⟩
def amX(wd:Nat→Nat)(n:Nat):Nat→Nat→Nat→Option (Nat×Nat)
 | 0,_,_=>none
 | f+1,fr,sp=>if 2 ^ wd sp≤n-fr then amX wd n f (fr+2 ^ wd sp) (sp+1) else some (sp,fr)
theorem among_spec{g:Nat}{wd:Nat→Nat}(hgb:g<1024)(hg:∀(sp:Nat) (H:AHeap),sp≤40→ACalls Tryz.prog noNat g [.int .i64 (sp:Int)] H fun w H'=>w=.int .i64 ((wd sp:Nat):Int)∧H=H')(hw:∀sp,sp≤40→wd sp≤30)
  (n fr:Nat) (hn:n≤1000000) (hf:fr≤n) {S F:Nat} (hR:amX wd n 40 fr 0=some (S,F)) (H:AHeap) :
  ACalls Tryz.prog noNat 355 [.int .i64 (n:Int),.int .i64 (fr:Int),.func (.func g) [] []] H fun w H'=>w=.tuple [.int .i64 (S:Int),fldV (n-F,wd S)]∧Ext H.next H H':=by
 refine acalls_ofN rfl za355 rfl ?_
 obtain⟨H1,m1,r1,k1,o1⟩:=row_newL H [.int .u32 0,.int .i64 0] (n:=2) rfl
 simp only[c355,sA,sB,seval,m1]
 refine aw_loop (fun q (T:Env) H'=>∃(fr' sp:Nat),fr'≤n∧sp+q=40∧amX wd n q fr' sp=some (S,F)∧T 0=.int .i64 (n:Int)∧T 1=.int .i64 (fr':Int)∧T 2=.func (.func g) [] []∧T 7=cellR H.next 2 0∧T 8=.int .i64 (sp:Int)∧H1=H') 40
  ⟨fr,0,hf,rfl,hR,by simp only[sA,sB,seval]; try rfl,by simp only[sA,sB,seval]; try rfl,by simp only[sA,sB,seval]; try rfl,by simp only[sA,sB,seval]; try rfl,by simp only[sA,sB,seval]; try rfl,rfl⟩ ?_
 rintro q T _ ⟨fr',sp,hf',hsq,hR',g0,g1,g2,g7,g8,rfl⟩
 cases q with
 | zero=>simp[amX]at hR'
 | succ q=>
 have hwd:=hw sp om
 have hpw:2 ^ wd sp≤2 ^ 30:=Nat.pow_le_pow_right om hwd
 have ws:IntKind.i64.wrap ((n:Int)-(fr':Int))=((n-fr':Nat):Int):=by rw[wrap64 om om]; omega
 have sh:aBin .shl (.int .i64 1) (.int .i64 ((wd sp:Nat):Int))=some (.int .i64 ((2 ^ wd sp:Nat):Int)):=by
  have:=bin_shlN (k':=.i64) (a:=1) (b:=wd sp) om om
  rw[Nat.one_mul]at this
  exact this
 simp only[sA,sB,seval,g0,g1,g2,g8,ws,hgb]
 refine (hg sp H1 om).mono ?_
 rintro w _ ⟨rfl,rfl⟩
 by_cases hlt:2 ^ wd sp≤n-fr'
 ·have hlt':((2 ^ wd sp:Nat):Int)≤((n-fr':Nat):Int):=om
  simp only[sA,sB,seval,g0,g1,g2,g8,sh,hlt',hgb]
  refine (hg sp H1 om).mono ?_
  rintro w _ ⟨rfl,rfl⟩
  simp only[amX]at hR'
  rw[if_pos hlt]at hR'
  simp only[sA,sB,seval,g0,g1,g2,g8,sh,wrapN fr' (2 ^ wd sp) om,wrap1 sp om]
  exact⟨q,om,fr'+2 ^ wd sp,sp+1,om,om,hR',tt,tt,tt,tt,tt,tt⟩
 ·have hlt':¬((2 ^ wd sp:Nat):Int)≤((n-fr':Nat):Int):=om
  simp only[amX]at hR'
  rw[if_neg hlt]at hR'
  simp only[sJ,pJ]at hR'
  obtain⟨rfl,rfl⟩:=hR'
  have w3:IntKind.u32.wrap ((n-fr':Nat):Int)=((n-fr':Nat):Int):=wrapU32 om om
  simp only[sA,sB,seval,g0,g1,g2,g8,sh,hlt',ws,w3,hgb]
  refine (hg sp H1 om).mono ?_
  rintro w _ ⟨rfl,rfl⟩
  obtain⟨H2,m2,r2,k2',o2⟩:=row_storeN r1 (n:=2) rfl (xs:=fldC (n-fr',wd sp)) rfl rfl
  have m2':oStore 2 H1 (cellR H.next 2 0) (.agg [.int .u32 ((n-fr':Nat):Int),.int .i64 ((wd sp:Nat):Int)])=some H2:=m2
  simp only[sA,sB,seval,g7,buildF,m2']
  exact fin_tc _ _ _ (by simp only[sA,sB,seval,g7]; exact row_loadN r2 (n:=2) rfl) ⟨by simp only[sA,sB,seval]; rfl,⟨om,fun b hb=>by rw[o2 b om,o1 b om]⟩⟩
open Go.Abs Go.Abs.S
def fldBits(fs:List (Nat×Nat)):List Bool:=fs.flatMap fun f=>bitsN f.1 f.2
def fldOk(f:Nat×Nat):Bool:=Nat.blt f.1 (2 ^ f.2)&&Nat.ble f.2 16
def flds(fs:List (Nat×Nat)):List AVal:=fs.flatMap fldC
theorem flds_append(a b:List (Nat×Nat)):flds (a++b)=flds a++flds b:=by simp[flds]
theorem fldBits_append(a b:List (Nat×Nat)):fldBits (a++b)=fldBits a++fldBits b:=by simp[fldBits]
theorem flds_len(fs:List (Nat×Nat)):(flds fs).length=fs.length*2:=by
 induction fs with
 | nil=>rfl
 | cons f r ih=>
  have:flds (f::r)=fldC f++flds r:=by simp[flds]
  rw[this,lA,ih,List.length_cons]; simp[fldC]; omega
theorem all_range{p:Nat→Bool}{n:Nat}(h:(List.range n).all p=true){i:Nat}(hi:i<n):p i=true:=List.all_eq_true.1 h i (List.mem_range.2 hi)
theorem symF_ok{s:Nat}(hs:s<286):fldOk (symF s)=true∧bitsN (symF s).1 (symF s).2=fixB s:=by
 have h:(List.range 286).all (fun s=>fldOk (symF s)&&(bitsN (symF s).1 (symF s).2==fixB s))=true:=by decide +kernel
 have:=all_range h hs
 simp only[Bool.and_eq_true,beq_iff_eq]at this
 exact this
theorem turn5_ok{s:Nat}(hs:s<32):fldOk (turnF s 5)=true∧bitsN (turnF s 5).1 (turnF s 5).2=(bitsN s 5).reverse:=by
 have h:(List.range 32).all (fun s=>fldOk (turnF s 5)&&(bitsN (turnF s 5).1 (turnF s 5).2==(bitsN s 5).reverse))=true:=by decide +kernel
 have:=all_range h hs
 simp only[Bool.and_eq_true,beq_iff_eq]at this
 exact this
def lenR(n:Nat):Nat×Nat:=(find lenL n,lenL.getD (find lenL n) 0)
def disR(n:Nat):Nat×Nat:=(find disL n,disL.getD (find disL n) 0)
theorem len_ok{n:Nat}(h1:3≤n)(h2:n≤257):amX wd4 n 40 3 0=some (lenR n)∧wd4 (lenR n).1=lenE.getD (lenR n).1 0∧(lenR n).1≤28∧fldOk (n-(lenR n).2,wd4 (lenR n).1)=true:=by
 have h:(List.range 258).all (fun n=>Nat.blt n 3||(decide (amX wd4 n 40 3 0=some (lenR n))&&(decide (wd4 (lenR n).1=lenE.getD (lenR n).1 0)&&(decide ((lenR n).1≤28)&&fldOk (n-(lenR n).2,wd4 (lenR n).1)))))=true:=by decide +kernel
 have:=all_range h (show n<258 by omega)
 have h3:Nat.blt n 3=false:=by rw[Bool.eq_false_iff]; intro h; rw[Nat.blt_eq]at h; omega
 simp only[h3,Bool.false_or,Bool.and_eq_true,decide_eq_true_eq]at this
 exact this
theorem amX_find{wd:Nat→Nat}{l:List Nat}{n:Nat}(hs:∀sp,sp+1<l.length→l.getD (sp+1) 0=l.getD sp 0+2 ^ wd sp)(hl:∀sp,sp+1=l.length→n<l.getD sp 0+2 ^ wd sp) :
  ∀(f sp g:Nat),l.length≤sp+f→l.length≤sp+g→sp<l.length→l.getD sp 0≤n→amX wd n f (l.getD sp 0) sp=some (findF l n g sp,l.getD (findF l n g sp) 0)∧findF l n g sp<l.length∧n-l.getD (findF l n g sp) 0<2 ^ wd (findF l n g sp)
 | 0,sp,g,h1,_,h3,_=>om
 | f+1,sp,0,_,h2,h3,_=>om
 | f+1,sp,g+1,h1,h2,h3,h4=>by
  by_cases hk:sp+1<l.length
  ·have e:=hs sp hk
   by_cases hn:l.getD (sp+1) 0≤n
   ·have:=amX_find hs hl f (sp+1) g om om hk hn
    simp only[amX,findF]
    rw[if_pos om,if_pos ⟨hk,hn⟩,← e]
    exact this
   ·simp only[amX,findF]
    rw[if_neg om,if_neg (fun h=>hn h.2)]
    exact⟨rfl,h3,om⟩
  ·have e:=hl sp om
   simp only[amX,findF]
   rw[if_neg om,if_neg (fun h=>hk h.1)]
   exact⟨rfl,h3,om⟩
theorem dis_tab{sp:Nat}(h:sp<30):(sp+1<30→disL.getD (sp+1) 0=disL.getD sp 0+2 ^ wd2 sp)∧(sp=29→disL.getD sp 0+2 ^ wd2 sp=32769)∧wd2 sp=disE.getD sp 0∧wd2 sp≤13:=by
 have a:(List.range 30).all (fun sp=>(!Nat.blt (sp+1) 30||Nat.beq (disL.getD (sp+1) 0) (disL.getD sp 0+2 ^ wd2 sp))&&((!Nat.beq sp 29||Nat.beq (disL.getD sp 0+2 ^ wd2 sp) 32769)&&(Nat.beq (wd2 sp) (disE.getD sp 0)&&Nat.ble (wd2 sp) 13)))=true:=by decide +kernel
 have:=all_range a h
 simp only[Bool.and_eq_true,Bool.or_eq_true,Bool.not_eq_true',Nat.beq_eq,Nat.ble_eq]at this
 refine⟨fun q=>?_,fun q=>?_,this.2.2.1,this.2.2.2⟩
 ·rcases this.1 with r | r
  ·rw[Bool.eq_false_iff]at r; exact absurd (Nat.ble_eq_true_of_le q) r
  ·exact r
 ·rcases this.2.1 with r | r
  ·subst q; rw[Nat.beq_refl]at r; simp at r
  ·exact r
theorem dis_ok{n:Nat}(h1:1≤n)(h2:n≤32768):amX wd2 n 40 1 0=some (disR n)∧wd2 (disR n).1=disE.getD (disR n).1 0∧(disR n).1≤29∧fldOk (n-(disR n).2,wd2 (disR n).1)=true:=by
 have hlen:disL.length=30:=rfl
 obtain⟨a1,a2,a3⟩:=amX_find (wd:=wd2) (l:=disL) (n:=n) (fun sp h=>(dis_tab om).1 om) (fun sp h=>by have:=(dis_tab (sp:=sp) om).2.1 om; omega) 40 0 30 om om om (show 1≤n from h1)
 obtain⟨_,_,b3,b4⟩:=dis_tab (sp:=findF disL n 30 0) om
 refine⟨a1,b3,?_,?_⟩
 ·show findF disL n 30 0≤29
  omega
 ·show (Nat.blt (n-disL.getD (findF disL n 30 0) 0) (2 ^ wd2 (findF disL n 30 0))&&Nat.ble (wd2 (findF disL n 30 0)) 16)=true
  rw[Bool.and_eq_true]
  exact⟨Nat.ble_eq_true_of_le a3,Nat.ble_eq_true_of_le om⟩
def lenFl(n:Nat):List (Nat×Nat):=if n=258 then [symF 285] else [symF (257+(lenR n).1),(n-(lenR n).2,wd4 (lenR n).1)]
def disFl(n:Nat):List (Nat×Nat):=[turnF (disR n).1 5,(n-(disR n).2,wd2 (disR n).1)]
theorem lenFl_ok{n:Nat}(h1:3≤n)(h2:n≤258):fldBits (lenFl n)=lenB n∧∀f∈lenFl n,fldOk f=true:=by
 unfold lenFl lenB
 by_cases h:n=258
 ·subst h
  rw[if_pos rfl]
  obtain⟨a,b⟩:=symF_ok (s:=285) om
  refine⟨?_,fun f hf=>?_⟩
  ·have e:find lenL 258=28:=by decide +kernel
   rw[e]
   have e2:fldBits [symF 285]=fixB 285:=by simp[fldBits,b]
   rw[e2]
   have e3:bitsN (258-lenL.getD 28 0) (lenE.getD 28 0)=[]:=rfl
   rw[e3,List.append_nil]
  ·rw[List.mem_singleton]at hf; rw[hf]; exact a
 ·rw[if_neg h]
  obtain⟨a1,a2,a3,a4⟩:=len_ok h1 om
  obtain⟨b1,b2⟩:=symF_ok (s:=257+(lenR n).1) om
  refine⟨?_,fun f hf=>?_⟩
  ·have e:fldBits [symF (257+(lenR n).1),(n-(lenR n).2,wd4 (lenR n).1)]=bitsN (symF (257+(lenR n).1)).1 (symF (257+(lenR n).1)).2++bitsN (n-(lenR n).2) (wd4 (lenR n).1):=by simp[fldBits]
   rw[e,b2,a2]; rfl
  ·simp only[List.mem_cons,List.not_mem_nil,or_false]at hf
   rcases hf with rfl | rfl
   ·exact b1
   ·exact a4
theorem disFl_ok{n:Nat}(h1:1≤n)(h2:n≤32768):fldBits (disFl n)=disB n∧∀f∈disFl n,fldOk f=true:=by
 unfold disFl disB
 obtain⟨a1,a2,a3,a4⟩:=dis_ok h1 h2
 obtain⟨b1,b2⟩:=turn5_ok (s:=(disR n).1) om
 refine⟨?_,fun f hf=>?_⟩
 ·have e:fldBits [turnF (disR n).1 5,(n-(disR n).2,wd2 (disR n).1)]=bitsN (turnF (disR n).1 5).1 (turnF (disR n).1 5).2++bitsN (n-(disR n).2) (wd2 (disR n).1):=by simp[fldBits]
  rw[e,b2,a2]; rfl
 ·simp only[List.mem_cons,List.not_mem_nil,or_false]at hf
  rcases hf with rfl | rfl
  ·exact b1
  ·exact a4
def Stp(v:AVal)(H:AHeap)(w:AVal)(H':AHeap):Prop:=H.next≤H'.next∧(∀P,Blk v P→Blk w fun b=>P b∨H.next≤b)∧∀c,c<H.next→Blk v (c≠·)→H'.get c=H.get c
theorem Stp.of_ext{v:AVal}{H H':AHeap}(e:Ext H.next H H'):Stp v H v H':=⟨e.next,fun _ hP=>hP.mono fun _ hb=>.inl hb,fun c hc _=>e.old c hc⟩
theorem Stp.trans{u v w:AVal}{H H' H'':AHeap}(h:Stp u H v H')(k:Stp v H' w H''):Stp u H w H'':=
 ⟨Nat.le_trans h.1 k.1,fun P hP=>(k.2.1 _ (h.2.1 P hP)).mono fun b hb=>by
  rcases hb with hb | hb
  ·exact hb
  ·exact .inr (Nat.le_trans h.1 hb),fun c hc hd=>(k.2.2 c (Nat.lt_of_lt_of_le hc h.1) ((h.2.1 _ hd).mono fun b hb=>by
  rcases hb with hb | hb
  ·exact hb
  ·omega)).trans (h.2.2 c hc hd)⟩
theorem buildF1(H:AHeap)(f:Nat×Nat):aBuildSl 1 [.int .u32 0,.int .i64 0] H [(0,2,fldV f)]=some (.slice (some ⟨H.next,2,0⟩) 1 (.known 1),H.push (.cells (fldC f) 0 false)):=_root_.id rfl
theorem buildF2(H:AHeap)(f g:Nat×Nat):aBuildSl 2 [.int .u32 0,.int .i64 0] H [(0,2,fldV f),(2,2,fldV g)]=some (.slice (some ⟨H.next,4,0⟩) 2 (.known 2),H.push (.cells (flds [f,g]) 0 false)):=_root_.id rfl
theorem fldV_aeq(f:Nat×Nat):aeq (fldV f) (fldV f)=true:=by simp[aeq,aeqs,fldV,eqF_eq]
def FL(H:AHeap)(v:AVal)(fs:List (Nat×Nat)):Prop:=LinM 2 H v (flds fs) fs.length
theorem FL.add{H:AHeap}{v:AVal}{fs:List (Nat×Nat)}(h:FL H v fs)(gs:List (Nat×Nat))(hl:fs.length+gs.length≤1000000) :
  ∃w H',aAppend 2 16 (H.push (.cells (flds gs) 0 false)) v (.slice (some ⟨H.next,gs.length*2,0⟩) gs.length (.known gs.length))=some (w,H')∧FL H' w (fs++gs)∧Stp v H w H':=by
 have ho:(flds gs).all AVal.one=true:=by
  rw[List.all_eq_true]
  intro x hx
  simp only[flds,List.mem_flatMap]at hx
  obtain⟨f,_,hf⟩:=hx
  simp only[fldC,List.mem_cons,List.not_mem_nil,or_false]at hf
  rcases hf with rfl | rfl <;> rfl
 obtain⟨w,H',a1,a2,a3,a4,a5⟩:=LinM.add h (xs:=flds gs) (j:=gs.length) (flds_len gs) ho om (bytes:=16) om om
 rw[flds_len]at a1
 refine⟨w,H',a1,?_,a3,a4,a5⟩
 show LinM 2 H' w (flds (fs++gs)) (fs++gs).length
 rw[flds_append,lA]; exact a2
theorem FL.ext{H H':AHeap}{v:AVal}{fs:List (Nat×Nat)}(h:FL H v fs)(e:Ext H.next H H'):FL H' v fs:=LinM.same h e.next (LinM.blk h |>.mono fun b hb=>e.old b hb)
theorem matched_tail{H:AHeap}{v:AVal}{fs:List (Nat×Nat)}{T:Env}{Q:Post}(back:Nat)(g0:T 0=v)(g2:T 2=.int .i64 (back:Int))(h:FL H v fs)(hl:fs.length≤100000)(h1:1≤back)(h2:back≤32768)
  (hQ:∀T2 H2,FL H2 (T2 6) (fs++disFl back)→Stp v H (T2 6) H2→Q .ret T2 H2) :
  wp (ACalls Tryz.prog noNat) (hold (restP [1,1] c327.body)) Q T H:=by
 obtain⟨a1,a2,a3,a4⟩:=dis_ok h1 h2
 obtain⟨S,F,hSF⟩:∃S F,disR back=(S,F):=⟨_,_,rfl⟩
 rw[hSF]at a1 a2 a3 a4
 simp only[c327,restP,hold_eq,sA,sB,seval,g0,g2]
 refine (among_spec (g:=357) om wide2_spec (fun s hs=>by unfold wd2; omega) back 1 om h1 a1 H).mono ?_
 rintro w H1 ⟨rfl,E1⟩
 have n1:=E1.next
 obtain⟨H2,m2,r2,k2',o2⟩:=row_newL H1 [.int .u32 0,.int .i64 0] (n:=2) rfl
 obtain⟨H3,m3,r3,k3,o3⟩:=row_storeN r2 (n:=2) rfl (xs:=fldC (back-F,wd2 S)) rfl rfl
 have m3':oStore 2 H2 (cellR H1.next 2 0) (fldV (back-F,wd2 S))=some H3:=m3
 have E3:Ext H1.next H1 H3:=⟨om,fun c hc=>by rw[o3 c om,o2 c om]⟩
 have l3:oLoad true 2 H3 (cellR H1.next 2 0)=some (fldV (back-F,wd2 S)):=row_loadN r3 (n:=2) rfl
 simp only[sA,sB,seval,ext_0,ext_1,m2,m3']
 refine aw_drawC rfl ?_
 simp only[sA,sB,seval,sR,g0]
 refine (turned_spec H3 S 5 om om).mono ?_
 rintro w H4 ⟨rfl,E4⟩
 have l4:oLoad true 2 H4 (cellR H1.next 2 0)=some (fldV (back-F,wd2 S)):=row_loadN (r3.same (E4.old _ om)) (n:=2) rfl
 have E14:Ext H.next H H4:=E1.trans ((E3.less n1).trans (E4.less om))
 obtain⟨w,H5,m5,A5,S5⟩:=(h.ext E14).add [turnF S 5,(back-F,wd2 S)] (by simp; omega)
 have m5':aAppend 2 16 (H4.push (.cells (flds [turnF S 5,(back-F,wd2 S)]) 0 false)) v (.slice (some ⟨H4.next,4,0⟩) 2 (.known 2))=some (w,H5):=m5
 simp only[sA,sB,seval,sR,g0,l4,buildF2,m5']
 simp only[ck_nil',ck_cons,ckP_load,ckP_nil,ck_end,and_true,true_and,List.map_cons,List.map_nil,sA,sB,seval,l3]
 refine⟨⟨_,rfl,fun _=>⟨_,l3,fldV_aeq _⟩⟩,?_⟩
 have e:disFl back=[turnF S 5,(back-F,wd2 S)]:=by unfold disFl; rw[hSF]
 refine hQ _ _ ?_ ?_
 ·simp only[sA,sB,seval]; rw[e]; exact A5
 ·simp only[sA,sB,seval]; exact (Stp.of_ext E14).trans S5
theorem matched_spec{H:AHeap}{v:AVal}{fs:List (Nat×Nat)}(n back:Nat)(h:FL H v fs)(hl:fs.length≤20000)(hn:3≤n)(hn2:n≤258)(h1:1≤back)(h2:back≤32768) :
  ACalls Tryz.prog noNat 327 [v,.int .i64 (n:Int),.int .i64 (back:Int)] H fun w H'=>FL H' w (fs++(lenFl n++disFl back))∧Stp v H w H':=by
 refine acalls_ofN rfl za327 rfl ?_
 refine wp_cutP [1,1] ?_
 by_cases h258:n=258
 ·have h258':(n:Int)=258:=om
  simp only[c327,sC,sA,sB,seval,h258']
  refine (symbol_spec H 285 om).mono ?_
  rintro w H1 ⟨rfl,E1⟩
  obtain⟨w,H2,m2,A2,S2⟩:=(h.ext E1).add [symF 285] (by simp; omega)
  have m2':aAppend 2 16 (H1.push (.cells (fldC (symF 285)) 0 false)) v (.slice (some ⟨H1.next,2,0⟩) 1 (.known 1))=some (w,H2):=m2
  simp only[sA,sB,seval,buildF1,m2']
  refine matched_tail back (by simp only[sA,sB,seval]) (by simp only[sA,sB,seval]) A2 (by simp; omega) h1 h2 ?_
  intro T2 H3 A3 S3
  simp only[sA,sB,seval]
  have e:lenFl n=[symF 285]:=by unfold lenFl; rw[if_pos h258]
  rw[e,← List.append_assoc]
  exact⟨A3,((Stp.of_ext E1).trans S2).trans S3⟩
 ·have h258':¬(n:Int)=258:=om
  obtain⟨a1,a2,a3,a4⟩:=len_ok hn om
  have e:lenFl n=[symF (257+(lenR n).1),(n-(lenR n).2,wd4 (lenR n).1)]:=by unfold lenFl; rw[if_neg h258]
  obtain⟨S,F,hSF⟩:∃S F,lenR n=(S,F):=⟨_,_,rfl⟩
  rw[hSF]at a1 a2 a3 a4 e
  simp only[c327,sC,sA,sB,seval,h258']
  refine (among_spec (g:=356) om wide1_spec (fun s hs=>by unfold wd4; omega) n 3 om hn a1 H).mono ?_
  rintro w H1 ⟨rfl,E1⟩
  have n1:=E1.next
  obtain⟨H2,m2,r2,k2',o2⟩:=row_newL H1 [.int .u32 0,.int .i64 0] (n:=2) rfl
  obtain⟨H3,m3,r3,k3,o3⟩:=row_storeN r2 (n:=2) rfl (xs:=fldC (n-F,wd4 S)) rfl rfl
  have m3':oStore 2 H2 (cellR H1.next 2 0) (fldV (n-F,wd4 S))=some H3:=m3
  have E3:Ext H1.next H1 H3:=⟨om,fun c hc=>by rw[o3 c om,o2 c om]⟩
  have l3:oLoad true 2 H3 (cellR H1.next 2 0)=some (fldV (n-F,wd4 S)):=row_loadN r3 (n:=2) rfl
  have wS:IntKind.i64.wrap (257+(S:Int))=((257+S:Nat):Int):=by rw[wrap64 om om]; omega
  simp only[sA,sB,seval,ext_0,ext_1,m2,m3']
  refine aw_drawC rfl ?_
  simp only[sA,sB,seval,sR,wS]
  refine (symbol_spec H3 (257+S) om).mono ?_
  rintro w H4 ⟨rfl,E4⟩
  have l4:oLoad true 2 H4 (cellR H1.next 2 0)=some (fldV (n-F,wd4 S)):=row_loadN (r3.same (E4.old _ om)) (n:=2) rfl
  have E14:Ext H.next H H4:=E1.trans ((E3.less n1).trans (E4.less om))
  obtain⟨w,H5,m5,A5,S5⟩:=(h.ext E14).add [symF (257+S),(n-F,wd4 S)] (by simp; omega)
  have m5':aAppend 2 16 (H4.push (.cells (flds [symF (257+S),(n-F,wd4 S)]) 0 false)) v (.slice (some ⟨H4.next,4,0⟩) 2 (.known 2))=some (w,H5):=m5
  simp only[sA,sB,seval,sR,l4,buildF2,m5']
  simp only[ck_nil',ck_cons,ckP_load,ckP_nil,ck_end,and_true,true_and,List.map_cons,List.map_nil,sA,sB,seval,l3]
  refine⟨⟨_,rfl,fun _=>⟨_,l3,fldV_aeq _⟩⟩,?_⟩
  refine matched_tail back (by simp only[sA,sB,seval]) (by simp only[sA,sB,seval]) A5 (by simp; omega) h1 h2 ?_
  intro T2 H6 A6 S6
  simp only[sA,sB,seval]
  rw[e,← List.append_assoc]
  exact⟨A6,((Stp.of_ext E14).trans S5).trans S6⟩
open Go.Abs Go.Abs.S
def ints(l:List Nat):List AVal:=l.map fun n:Nat=>.int .i64 (n:Int)
theorem ints_len(l:List Nat):(ints l).length=l.length:=by simp[ints]
theorem ints_get{l:List Nat}{i n:Nat}(h:l[i]?=some n):(ints l)[i]?=some (.int .i64 (n:Int)):=by simp[ints,h]
open Go.Abs Go.Abs.S
theorem run_step(b:Bs)(p i m j:Nat)(h:j<m):run b (p+j) (i+j) (m-j)=if b[p+j]?=b[i+j]? then 1+run b (p+(j+1)) (i+(j+1)) (m-(j+1)) else 0:=by
 rw[show m-j=(m-(j+1))+1 by omega,run]; rfl
def tokOk(t:Tok):Prop:=t.back=0∨(3≤t.n∧t.n≤258∧1≤t.back∧t.back≤20000)
theorem match_ok(b:Bs)(i to:Nat)(h:3≤(matchF b i to).1):(matchF b i to).2<i∧(matchF b i to).1≤258∧i+(matchF b i to).1≤to:=by
 have hs:=best_spec b i (mlen i to) i (0,0) rL (.inl rfl)
 rcases hs with hs | ⟨h1,h2⟩
 ·have:(matchF b i to).1=0:=hs
  omega
 ·have h2':(matchF b i to).1=run b (matchF b i to).2 i (mlen i to):=h2
  have hl:=run_le b (matchF b i to).2 i (mlen i to)
  have hm:mlen i to=min 258 (to-i):=rfl
  refine⟨h1,om,om⟩
theorem toks_ok(b:Bs)(to:Nat)(hto:to≤20000):∀(f i:Nat),∀t∈toksF b to f i,tokOk t
 | 0,i,t,ht=>by simp[toksF]at ht
 | f+1,i,t,ht=>by
  unfold toksF at ht
  split at ht
  ·rename_i hi
   split at ht
   ·rename_i hm
    obtain⟨h1,h2,h3⟩:=match_ok b i to hm
    rcases List.mem_cons.1 ht with rfl | ht
    ·exact .inr ⟨hm,h2,by simp only; omega,by simp only; omega⟩
    ·exact toks_ok b to hto f _ t ht
   ·rcases List.mem_cons.1 ht with rfl | ht
    ·exact .inl rfl
    ·exact toks_ok b to hto f _ t ht
  ·simp at ht
theorem toks_length(b:Bs)(to:Nat):∀(f i:Nat),(toksF b to f i).length≤f
 | 0,i=>by simp[toksF]
 | f+1,i=>by
  unfold toksF
  split
  ·split
   ·have:=toks_length b to f (i+(matchF b i to).1); simp only[List.length_cons]; omega
   ·have:=toks_length b to f (i+1); simp only[List.length_cons]; omega
  ·simp
open Go.Abs Go.Abs.S
end Go.Proofs.Tb
namespace Go.Proofs.Tb
open Go.Abs Go.Abs.S
theorem src_cel{n:Nat}{H:AHeap}{s:AVal}{l:Bs}(h:Cel n H s (byts l)):aSrc 1 H s=some (l.length,byts l):=by
 have:=h.src
 rwa [byts_len]at this
theorem app_bytes{H:AHeap}{s x:AVal}{a l:Bs}(h:AppN 1 0 H s (byts a) a.length)(hx:aSrc 1 H x=some (l.length,byts l))(hl:a.length+l.length≤1000000) :
  ∃s' H',aAppend 1 1 H s x=some (s',H')∧AppN 1 0 H' s' (byts (a++l)) (a++l).length∧H.next≤H'.next∧(∀P,Blk s P→Blk s' fun b=>P b∨H.next≤b)∧∀c,c<H.next→Blk s (c≠·)→H'.get c=H.get c:=by
 obtain⟨s',H',h1,h2,h3,h4,h5⟩:=h.many hx (by rw[byts_len]; omega) (byts_one l) om (bytes:=1) om om
 exact⟨s',H',h1,by rw[byts_append,lA]; exact h2,h3,h4,h5⟩
theorem app_nil(H:AHeap):AppN 1 0 H nilS (byts []) ([]:Bs).length:=AppN.nil _ _ _
theorem app_one{m n k:Nat}{H:AHeap}{s:AVal}{L:List AVal}(h:AppN m n H s L k):s.one=true:=by
 rcases h with⟨rfl,_⟩ | ⟨_,_,rfl,_⟩ <;> rfl
open Go.Abs Go.Abs.S
theorem build21(H:AHeap):aBuildSl 2 [.int .u8 0] H [(0,1,.int .u8 120),(1,1,.int .u8 1)]=some (slR H.next 2 (.known 2),H.push (.cells (u8s [120,1]) 0 false)):=_root_.id rfl
theorem ones_u8(l:List Nat):(u8s l).all AVal.one=true:=u8s_one l
theorem app_u8{H:AHeap}{s x:AVal}{a l:List Nat}{n:Nat}(h:AppN 1 0 H s (u8s a) a.length)(hx:Cel n H x (u8s l))(hl:a.length+l.length≤1000000) :
  ∃s' H',aAppend 1 1 H s x=some (s',H')∧AppN 1 0 H' s' (u8s (a++l)) (a++l).length∧H.next≤H'.next∧(∀P,Blk s P→Blk s' fun b=>P b∨H.next≤b)∧∀c,c<H.next→Blk s (c≠·)→H'.get c=H.get c:=by
 have hs:=hx.src
 rw[u8s_len]at hs
 obtain⟨s',H',h1,h2,h3,h4,h5⟩:=h.many hs (by rw[u8s_len]; omega) (u8s_one l) om (bytes:=1) om om
 exact⟨s',H',h1,by rw[u8s_append,lA]; exact h2,h3,h4,h5⟩
theorem app_at{H:AHeap}{s:AVal}{L:List AVal}{k n:Nat}(h:AppN 1 0 H s L k)(hb:Blk s (n≤·)):AppN 1 n H s L k:=by
 rcases h with h | ⟨b,low,rfl,h2,h3,h4,h5,h6,h7⟩
 ·exact .inl h
 ·exact .inr ⟨b,low,rfl,h2,hb _ _ _ rfl,h4,h5,h6,h7⟩
def hd(bg:Bool):List Nat:=if bg then [] else [120,1]
open Go.Abs Go.Abs.S
variable {sent:Nat}
def dC(sent:Nat)(out kept:AVal)(noted:Nat)(mv:AVal):List AVal:=[.bool true,.bool false,out,kept,.int .i64 0,.int .i64 (sent:Int),.int .i64 (noted:Int),mv,.int .i64 0]
theorem dnew_spec(H:AHeap):ACalls Tryz.prog noNat 149 [] H fun w H'=>w=cellR (H.next+2) 9 0∧Row H' (H.next+2) (dC 0 (cellR H.next 3 0) nilS 0 (.map (some (H.next+1))))∧Row H' H.next [.bool true,nilS,.int .i64 0]∧H'.get (H.next+1)=some (.map [] 0)∧H'.next=H.next+3∧Ext H.next H H':=by
 refine acalls_ofN rfl za149 rfl ?_
 simp only[c149,sA,sB,seval]
 refine (bnew_spec H).mono ?_
 rintro _ H1 ⟨rfl,r1,k1,o1⟩
 have mk:aHf .mkMap H1 []=some (.map (some H1.next),H1.push (.map [] 0)):=rfl
 obtain⟨H3,m3,r3,k3,o3⟩:=row_newL (H1.push (.map [] 0)) (dC 0 (cellR H.next 3 0) nilS 0 (.map (some H1.next))) (n:=9) rfl
 have bd:aBuild [.bool false,.bool false,.ptr none,.slice none 0 (.known 0),.int .i64 0,.int .i64 0,.int .i64 0,.map none,.int .i64 0] [(0,1,.bool true),(2,1,cellR H.next 3 0),(7,1,.map (some H1.next))]=some (.agg (dC 0 (cellR H.next 3 0) nilS 0 (.map (some H1.next)))):=rfl
 simp only[sA,sB,seval,mk,bd,cells_agg,m3]
 rw[push_next]at r3 k3 o3
 rw[push_next,k1]
 rw[k1]at r3 k3 o3
 refine⟨tt,r3,(r1.same (get_push_lt om)).same (o3 _ om),?_,om,⟨om,fun c hc=>by rw[o3 c om,get_push_lt om,o1 c om]⟩⟩
 rw[o3 _ om,AHeap.get_push,if_pos k1.symm]
def zC(bg:Bool)(dw:AVal)(sum:Nat):List AVal:=[.bool true,.bool bg,.bool false,dw,.int .u32 (sum:Int)]
theorem trim_spec{H:AHeap}{ow:Nat}{out kept mv:AVal}{noted:Nat}(h:Row H ow (dC sent out kept noted mv))(hs:sent≤20000):ACalls Tryz.prog noNat 291 [cellR ow 9 0] H fun w H'=>H=H':=by
 refine acalls_ofN rfl za291 rfl ?_
 have l4:oLoad false 1 H (cellR ow 9 4)=some (.int .i64 0):=row_load h rfl rfl
 have l5:oLoad false 1 H (cellR ow 9 5)=some (.int .i64 (sent:Int)):=row_load h rfl rfl
 have w0:IntKind.i64.wrap ((sent:Int)-0)=(sent:Int):=w64
 have w1:(sent:Int)≤65536:=om
 simp only[c291,sA,sB,seval,nil_cell,fldA,fld0,l4,l5,w0,w1]
 simp only[fin,wRes,OptP_some]
theorem prune_spec{H:AHeap}{ow:Nat}{out kept mv:AVal}{noted:Nat}(h:Row H ow (dC sent out kept noted mv))(hs:sent≤20000):ACalls Tryz.prog noNat 325 [cellR ow 9 0] H fun w H'=>H=H':=by
 refine acalls_ofN rfl za325 rfl ?_
 have l8:oLoad false 1 H (cellR ow 9 8)=some (.int .i64 0):=row_load h rfl rfl
 have l5:oLoad false 1 H (cellR ow 9 5)=some (.int .i64 (sent:Int)):=row_load h rfl rfl
 have w0:IntKind.i64.wrap ((sent:Int)-0)=(sent:Int):=w64
 have w1:(sent:Int)<32768:=om
 simp only[c325,sA,sB,seval,nil_cell,fldA,fld0,l8,l5,w0,w1]
 simp only[fin,wRes,OptP_some]
def k3(b:Bs)(i:Nat):List Nat:=[(b.getD i 0).toNat,(b.getD (i+1) 0).toNat,(b.getD (i+2) 0).toNat]
theorem k3_cut{b:Bs}{i:Nat}(h:i+3≤b.length):((byts b).drop i).take 3=u8s (k3 b i):=by
 have e:∀j,j<b.length→b[j]?=some (b.getD j 0):=fun j hj=>by rw[List.getD_eq_getElem?_getD,List.getElem?_eq_getElem hj]; rfl
 apply List.ext_getElem?
 intro j
 by_cases hj:j<3
 ·rw[List.getElem?_take_of_lt hj,List.getElem?_drop,byts_get (e (i+j) om)]
  have:j=0∨j=1∨j=2:=om
  rcases this with rfl | rfl | rfl <;> rfl
 ·rw[List.getElem?_eq_none (by simp; omega),List.getElem?_eq_none (by simp[u8s,k3]; omega)]
theorem three_spec{H:AHeap}{ow:Nat}{out kept mv:AVal}{noted:Nat}{b:Bs}(h:Row H ow (dC sent out kept noted mv))(hn:ow<H.next)(hk:AppN 1 0 H kept (byts b) b.length)(i:Nat)(hi:i+3≤b.length)(hb:b.length≤100000) :
  ACalls Tryz.prog noNat 354 [cellR ow 9 0,.int .i64 (i:Int)] H fun w H'=>w=.agg (u8s (k3 b i))∧Ext H.next H H':=by
 refine acalls_ofN rfl za354 rfl ?_
 obtain⟨H1,m1,r1,k1,o1⟩:=row_newL H [.int .u8 0,.int .u8 0,.int .u8 0] (n:=3) rfl
 have E1:Ext H.next H H1:=Ext.of_new k1 o1 rL
 obtain⟨s,ms,cs,bs⟩:=(hk.ext E1).from_ (lo:=i) om
 obtain⟨a,r,rfl,hab,hrd⟩:∃a r,s=.slice (some a) (b.length-i) r∧a.b<H1.next∧rdCells H1 a 3=some (u8s (k3 b i)):=by
  have hl:((byts b).drop i).length=b.length-i:=by simp[byts_len]
  rcases cs with⟨_,e⟩ | ⟨a,r,e,h1,h2⟩
  ·rw[e]at hl; simp at hl; omega
  ·refine⟨a,r,by rw[e,hl],h1,?_⟩
   have:=rd_pre h2 (k:=3) (by rw[hl]; omega)
   rw[this,k3_cut hi]
 have l3:oLoad false 1 H1 (cellR ow 9 3)=some kept:=row_load (h.same (o1 _ (Nat.ne_of_lt hn))) rfl rfl
 have l4:oLoad false 1 H1 (cellR ow 9 4)=some (.int .i64 0):=row_load (h.same (o1 _ (Nat.ne_of_lt hn))) rfl rfl
 have ws:IntKind.i64.wrap (i:Int)=(i:Int):=wrap64 om om
 have e0:(i:Int)-0=(i:Int):=om
 have hble:Nat.ble 3 (b.length-i)=true:=Nat.ble_eq_true_of_le om
 have sa:aPf (.s2a 3) [.slice (some a) (b.length-i) r]=some (.ptr (some a)):=by
  show (bif Nat.ble 3 (b.length-i)&&Nat.blt 0 3 then some (AVal.ptr (some a)) else none)=_
  rw[hble]; rfl
 have la:oLoad true 3 H1 (.ptr (some a))=some (.agg (u8s (k3 b i))):=by simp only[oLoad,hrd,cond_true]
 obtain⟨H2,m2,r2,k2',o2⟩:=row_storeN r1 (n:=3) rfl (xs:=u8s (k3 b i)) rfl (u8s_one _)
 have nc:aNilChk (.ptr (some a))=some (.ptr (some a)):=rfl
 simp only[c354,sA,sB,seval,m1,nil_cell,fldA,fld0,l3,l4,e0,ws,ms,sa,la,m2,nc]
 exact fin_1 _ _ _ (by simp only[sA,sB,seval]; exact row_loadN r2 (n:=3) rfl) ⟨rfl,⟨om,fun c hc=>by rw[o2 c om,o1 c om]⟩⟩
open Go.Abs Go.Abs.S
def kv(k:List Nat):AVal:=.agg (u8s k)
def posL(b:Bs)(k:List Nat):Nat→List Nat
 | 0=>[]
 | K+1=>if k3 b K=k then posL b k K++[K] else posL b k K
theorem posL_same(b:Bs)(K:Nat):posL b (k3 b K) (K+1)=posL b (k3 b K) K++[K]:=if_pos rfl
theorem posL_other{b:Bs}{k:List Nat}{K:Nat}(h:k3 b K≠k):posL b k (K+1)=posL b k K:=if_neg h
theorem posL_len(b:Bs)(k:List Nat)(K:Nat):(posL b k K).length≤K:=by
 induction K with
 | zero=>exact Nat.le_refl _
 | succ K ih=>
  unfold posL
  split
  ·rw[lA,List.length_singleton]; omega
  ·omega
theorem posL_mem{b:Bs}{k:List Nat}{K p:Nat}:p∈posL b k K↔p<K∧k3 b p=k:=by
 induction K with
 | zero=>simp[posL]
 | succ K ih=>
  unfold posL
  split
  ·rename_i h
   simp only[List.mem_append,List.mem_singleton,ih]
   constructor
   ·rintro (h1 | rfl)
    ·exact⟨om,h1.2⟩
    ·exact⟨om,h⟩
   ·rintro ⟨h1,h2⟩
    by_cases e:p=K
    ·exact .inr e
    ·exact .inl ⟨om,h2⟩
  ·rename_i h
   rw[ih]
   constructor
   ·rintro ⟨h1,h2⟩; exact⟨om,h2⟩
   ·rintro ⟨h1,h2⟩
    refine⟨?_,h2⟩
    rcases Nat.lt_or_ge p K with h3 | h3
    ·exact h3
    ·exact absurd (by rw[show K=p by omega]; exact h2) h
theorem kEqs_u8:∀(a c:List Nat),a.length=c.length→kEqs (u8s a) (u8s c)=some (decide (a=c))
 | [],[],_=>rfl
 | x::a,y::c,h=>by
  have ih:=kEqs_u8 a c (by simpa using h)
  simp only[u8s,List.map_cons]at ih ⊢
  simp only[kEqs,if_true,eqF_eq]
  by_cases e:x=y
  ·subst e
   simp only[beq_self_eq_true,cond_true,ih,List.cons.injEq,true_and]
  ·have e2:((x:Int)==(y:Int))=false:=by rw[beq_eq_false_iff_ne]; omega
   simp only[e2,cond_false,List.cons.injEq,e,false_and,decide_false]
 | [],_::_,h=>by simp at h
 | _::_,[],h=>by simp at h
theorem kEq_kv{a c:List Nat}(ha:a.length=3)(hc:c.length=3):kEq (.arr 3) (kv a) (kv c)=some (decide (a=c)):=by
 simp only[kEq,kv,u8s_len,ha,hc,Nat.beq_refl,Bool.and_self,cond_true]
 exact kEqs_u8 a c om
theorem isKs_u8(l:List Nat):isKs (u8s l)=true:=by
 induction l with
 | nil=>rfl
 | cons x l ih=>exact ih
theorem isK_kv{k:List Nat}(h:k.length=3):isK (.arr 3) (kv k)=true:=by
 simp only[isK,kv,u8s_len,h,Nat.beq_refl,isKs_u8,Bool.and_self]
theorem kv_inj{a c:List Nat}(h:kv a=kv c):a=c:=by
 simp only[kv,AVal.agg.injEq]at h
 unfold u8s at h
 exact List.map_inj_right (fun x y e=>by simp only[AVal.int.injEq,true_and]at e; omega) |>.1 h
theorem mFind_kv{k:List Nat}(hk:k.length=3):∀(es:List Ent) (i:Nat),(∀e∈es,∃a:List Nat,a.length=3∧e.1=kv a) →
  (∃j e,es[j]?=some e∧e.1=kv k∧mFind (.arr 3) (kv k) es i=some (some (i+j,e)))∨((∀e∈es,e.1≠kv k)∧mFind (.arr 3) (kv k) es i=some none)
 | [],i,_=>.inr ⟨fun e he=>by simp at he,rfl⟩
 | e::r,i,h=>by
  obtain⟨a,ha,ea⟩:=h e (by simp)
  have hq:=kEq_kv hk ha
  by_cases e1:k=a
  ·rw[decide_eq_true e1]at hq
   refine .inl ⟨0,e,rfl,by rw[ea,e1],?_⟩
   unfold mFind
   rw[ea,hq]; rfl
  ·rw[decide_eq_false e1]at hq
   rcases mFind_kv hk r (i+1) (fun e' he=>h e' (by simp[he])) with⟨j,e',h1,h2,h3⟩ | ⟨h1,h2⟩
   ·refine .inl ⟨j+1,e',by simpa using h1,h2,?_⟩
    unfold mFind
    rw[ea,hq]
    simp only[h3,sJ,pJ,and_true]; omega
   ·refine .inr ⟨fun e' he=>?_,?_⟩
    ·rcases List.mem_cons.1 he with rfl | he
     ·rw[ea]; intro x; exact e1 (kv_inj x).symm
     ·exact h1 e' he
    ·unfold mFind
     rw[ea,hq]
     exact h2
theorem mBorn_at:∀(es:List Ent) (i n:Nat) (e:Ent),es[n]?=some e→(∀j e,es[j]?=some e→e.2.2=i+j)→mBorn (i+n) es i=some (i+n,e)
 | [],i,n,e,h,_=>by simp at h
 | x::r,i,0,e,h,hb=>by
  have e1:x=e:=by simpa using h
  subst e1
  have:=hb 0 x rfl
  unfold mBorn
  rw[this,Nat.beq_refl]; rfl
 | x::r,i,n+1,e,h,hb=>by
  have h0:=hb 0 x rfl
  have hr:=mBorn_at r (i+1) n e (by simpa using h) (fun j e he=>by have:=hb (j+1) e (by simpa using he); omega)
  unfold mBorn
  have hne:Nat.beq x.2.2 (i+(n+1))=false:=by rw[beq_dec]; exact decide_eq_false om
  rw[hne,cond_false,show i+(n+1)=i+1+n by omega]
  exact hr
theorem mSet_set:∀(es:List Ent) (i:Nat) (e:Ent),mSet es i e=es.set i e
 | [],_,_=>rfl
 | _::_,0,_=>rfl
 | x::r,i+1,e=>by simp only[mSet,List.set_cons_succ,mSet_set r i e]
def MR(n0:Nat)(τ:Nat→Nat)(H:AHeap)(mb:Nat)(b:Bs)(K:Nat):Prop:=
 ∃es:List Ent,H.get mb=some (.map es es.length)∧(∀i e,es[i]?=some e→e.2.2=i∧∃k:List Nat,k.length=3∧e.1=kv k∧AppN 1 n0 H e.2.1 (ints (posL b k K)) (posL b k K).length∧Blk e.2.1 (τ ·=100+i)) ∧
  (∀(i j:Nat) (e f:Ent),es[i]?=some e→es[j]?=some f→e.1=f.1→i=j)∧(∀k:List Nat,posL b k K≠[]→∃e∈es,e.1=kv k)
theorem MR.keys{n0:Nat}{τ:Nat→Nat}{H:AHeap}{b:Bs}{K:Nat}{es:List Ent}(h:∀i e,es[i]?=some e→e.2.2=i∧∃k:List Nat,k.length=3∧e.1=kv k∧AppN 1 n0 H e.2.1 (ints (posL b k K)) (posL b k K).length∧Blk e.2.1 (τ ·=100+i)):∀e∈es,∃a:List Nat,a.length=3∧e.1=kv a:=by
 intro e he
 obtain⟨i,hi⟩:=List.getElem?_of_mem he
 obtain⟨_,k,h1,h2,_⟩:=h i e hi
 exact⟨k,h1,h2⟩
theorem MR.look{n0:Nat}{τ:Nat→Nat}{H:AHeap}{mb:Nat}{b:Bs}{K:Nat}(h:MR n0 τ H mb b K){k:List Nat}(hk:k.length=3) :
  ∃v,aHf (.mLook (.arr 3) false (.slice none 0 (.known 0))) H [.map (some mb),kv k]=some (v,H)∧AppN 1 n0 H v (ints (posL b k K)) (posL b k K).length:=by
 obtain⟨es,h1,h2,h3,h4⟩:=h
 rcases mFind_kv hk es 0 (MR.keys h2) with⟨j,e,q1,q2,q3⟩ | ⟨q1,q2⟩
 ·obtain⟨_,k',a1,a2,a3,_⟩:=h2 j e q1
  have ek:k'=k:=kv_inj (a2.symm.trans q2)
  subst ek
  refine⟨e.2.1,?_,a3⟩
  simp only[aHf,aMLook,h1,aLookE,isK_kv hk,cond_true,q3,mRet,cond_false]
 ·have hp:posL b k K=[]:=by
   rcases Decidable.em (posL b k K=[]) with h | h
   ·exact h
   ·obtain⟨e,he,hek⟩:=h4 k h
    exact absurd hek (q1 e he)
  refine⟨nilS,?_,by rw[hp]; exact AppN.nil _ _ _⟩
  simp only[aHf,aMLook,h1,aLookE,isK_kv hk,cond_true,q2,mRet,cond_false]; rfl
open Go.Abs Go.Abs.S
def ER(n0:Nat)(τ:Nat→Nat)(H:AHeap)(b:Bs)(K:Nat)(es:List Ent):Prop:=
 (∀i e,es[i]?=some e→e.2.2=i∧∃k:List Nat,k.length=3∧e.1=kv k∧AppN 1 n0 H e.2.1 (ints (posL b k K)) (posL b k K).length∧Blk e.2.1 (τ ·=100+i)) ∧
  (∀(i j:Nat) (e f:Ent),es[i]?=some e→es[j]?=some f→e.1=f.1→i=j)∧(∀k:List Nat,posL b k K≠[]→∃e∈es,e.1=kv k)
theorem MR.iff{n0:Nat}{τ:Nat→Nat}{H:AHeap}{mb:Nat}{b:Bs}{K:Nat}:MR n0 τ H mb b K↔∃es:List Ent,H.get mb=some (.map es es.length)∧ER n0 τ H b K es:=Iff.rfl
theorem app_sameN{m n k:Nat}{H H':AHeap}{s:AVal}{L:List AVal}(h:AppN m n H s L k)(hn:H.next≤H'.next)(e:Blk s fun c=>H'.get c=H.get c):AppN m n H' s L k:=by
 rcases h with h | ⟨b,low,rfl,h2,h3,h4,h5,h6⟩
 ·exact .inl h
 ·exact .inr ⟨b,low,rfl,h2,h3,om,(e _ _ _ rfl).trans h5,h6⟩
theorem ER.same{n0:Nat}{τ τ':Nat→Nat}{H H':AHeap}{b:Bs}{K:Nat}{es:List Ent}(h:ER n0 τ H b K es)(hn:H.next≤H'.next)(e:∀c,c<H.next→100≤τ c→H'.get c=H.get c∧τ' c=τ c):ER n0 τ' H' b K es:=by
 obtain⟨h1,h2,h3⟩:=h
 refine⟨fun i x hx=>?_,h2,h3⟩
 obtain⟨q1,k,q2,q3,q4,q5⟩:=h1 i x hx
 have hb:Blk x.2.1 fun c=>c<H.next∧τ c=100+i:=by
  rcases q4 with⟨ev,_⟩ | ⟨c,low,ev,_,_,h4,_⟩
  ·rw[ev]; exact blk_nil _
  ·rw[ev]at q5 ⊢
   exact blk_some ⟨h4,q5 _ _ _ rfl⟩
 exact⟨q1,k,q2,q3,app_sameN q4 hn (hb.mono fun c hc=>(e c hc.1 om).1),hb.mono fun c hc=>by rw[(e c hc.1 om).2]; exact hc.2⟩
theorem entry_spec{n0:Nat}{τ:Nat→Nat}{H:AHeap}{mb:Nat}{b:Bs}{K:Nat}{es:List Ent}(hg:H.get mb=some (.map es es.length))(h:ER n0 τ H b K es){k:List Nat}(hk:k.length=3) :
  ∃es' i v,aHf (.mf (.entry (.arr 3) (.slice none 0 (.known 0)))) H [.map (some mb),kv k]=some (.tuple [v,.int .i64 (Int.ofNat i)],H.set mb (.map es' es'.length))∧es'[i]?=some (kv k,v,i)∧ER n0 τ H b K es':=by
 have h':=h
 obtain⟨h1,h2,h3⟩:=h
 rcases mFind_kv hk es 0 (MR.keys h1) with⟨j,e,q1,q2,q3⟩ | ⟨q1,q2⟩
 ·obtain⟨e1,e2,e3⟩:=e
  simp only at q2
  subst q2
  have hb:e3=j:=(h1 j _ q1).1
  subst hb
  have hset:mSet es e3 (kv k,e2,e3)=es:=by
   rw[mSet_set]
   apply List.ext_getElem?
   intro i
   by_cases hi:i=e3
   ·subst hi
    rw[List.getElem?_set_self (List.getElem?_eq_some_iff.1 q1).1,q1]
   ·rw[List.getElem?_set_ne (Ne.symm hi)]
  refine⟨es,e3,e2,?_,q1,h'⟩
  rw[Nat.zero_add]at q3
  simp only[aHf,aMF,hg,aMf,isK_kv hk,cond_true,q3,hset]
 ·refine⟨es++[(kv k,nilS,es.length)],es.length,nilS,?_,by simp,?_,?_,?_⟩
  ·simp only[aHf,aMF,hg,aMf,isK_kv hk,cond_true,q2,lA,List.length_singleton]; rfl
  ·intro i e he
   by_cases hi:i<es.length
   ·rw[List.getElem?_append_left hi]at he
    exact h1 i e he
   ·have hi2:i=es.length:=by
     have:=(List.getElem?_eq_some_iff.1 he).1
     rw[lA,List.length_singleton]at this; omega
    subst hi2
    simp only[List.getElem?_concat_length,sJ]at he
    subst he
    have hp:posL b k K=[]:=by
     rcases Decidable.em (posL b k K=[]) with h | h
     ·exact h
     ·obtain⟨e,he,hek⟩:=h3 k h
      exact absurd hek (q1 e he)
    exact⟨rfl,k,hk,rfl,by rw[hp]; exact AppN.nil _ _ _,blk_nil _⟩
  ·intro i j e f he hf hef
   have hi:=(List.getElem?_eq_some_iff.1 he).1
   have hj:=(List.getElem?_eq_some_iff.1 hf).1
   rw[lA,List.length_singleton]at hi hj
   by_cases hi2:i<es.length
   ·rw[List.getElem?_append_left hi2]at he
    by_cases hj2:j<es.length
    ·rw[List.getElem?_append_left hj2]at hf
     exact h2 i j e f he hf hef
    ·have:j=es.length:=om
     subst this
     simp only[List.getElem?_concat_length,sJ]at hf
     subst hf
     exact absurd hef (q1 e (List.mem_of_getElem? he))
   ·have:i=es.length:=om
    subst this
    simp only[List.getElem?_concat_length,sJ]at he
    subst he
    by_cases hj2:j<es.length
    ·rw[List.getElem?_append_left hj2]at hf
     exact absurd hef.symm (q1 f (List.mem_of_getElem? hf))
    ·omega
  ·intro k' hk'
   obtain⟨e,he,hek⟩:=h3 k' hk'
   exact⟨e,by simp[he],hek⟩
theorem ints_append(a c:List Nat):ints (a++c)=ints a++ints c:=by simp[ints]
theorem note_spec{n0:Nat}{τ:Nat→Nat}{H:AHeap}{mb:Nat}{b:Bs}{K:Nat}(h:MR n0 τ H mb b K)(hn0:n0≤H.next)(hmb:mb<n0)(hK:K≤100000)(tz:∀c,H.next≤c→τ c=0) :
  ∃i v v' H1 H2 H3 τ',aHf (.mf (.entry (.arr 3) (.slice none 0 (.known 0)))) (H.push (.cells [.int .i64 (K:Int)] 0 false)) [.map (some mb),kv (k3 b K)]=some (.tuple [v,.int .i64 (Int.ofNat i)],H1) ∧
   aAppend 1 8 H1 v (oneS H)=some (v',H2)∧aHf (.mf .store) H2 [.map (some mb),.int .i64 (Int.ofNat i),v']=some (.tuple [],H3)∧MR n0 τ' H3 mb b (K+1)∧H.next≤H3.next∧(∀c,H3.next≤c→τ' c=0)∧(∀c,c<H.next→τ' c=τ c∧(c≠mb→τ c<100→H3.get c=H.get c))∧H1.next=H.next+1∧(∀c,c<H.next→c≠mb→H1.get c=H.get c):=by
 obtain⟨es,hg,hE⟩:=MR.iff.1 h
 obtain⟨Hb,hHb⟩:∃G,G=H.push (.cells [.int .i64 (K:Int)] 0 false):=⟨_,rfl⟩
 have kb:Hb.next=H.next+1:=by rw[hHb]; rfl
 have ob:∀c,c<H.next→Hb.get c=H.get c:=fun c hc=>by rw[hHb]; exact get_push_lt hc
 have gb:Hb.get H.next=some (.cells [.int .i64 (K:Int)] 0 false):=by rw[hHb,AHeap.get_push,if_pos rfl]
 have hgb:Hb.get mb=some (.map es es.length):=by rw[ob _ om]; exact hg
 have hEb:ER n0 τ Hb b K es:=hE.same om fun c hc _=>⟨ob c hc,rfl⟩
 obtain⟨es',i,v,m1,q1,hE'⟩:=entry_spec hgb hEb (k:=k3 b K) rfl
 obtain⟨H1,hH1⟩:∃G,G=Hb.set mb (.map es' es'.length):=⟨_,rfl⟩
 have k1:H1.next=Hb.next:=by rw[hH1]; rfl
 have o1:∀c,c≠mb→H1.get c=Hb.get c:=fun c hc=>by rw[hH1,AHeap.get_set,if_neg hc]
 have g1:H1.get mb=some (.map es' es'.length):=by rw[hH1,AHeap.get_set,if_pos rfl]
 have hE1:ER n0 τ H1 b K es':=by
  obtain⟨a1,a2,a3⟩:=hE'
  refine⟨fun j x hx=>?_,a2,a3⟩
  obtain⟨p1,k,p2,p3,p4,p5⟩:=a1 j x hx
  refine⟨p1,k,p2,p3,app_sameN p4 om ?_,p5⟩
  rcases p4 with⟨ev,_⟩ | ⟨c,low,ev,_,h4,_⟩
  ·rw[ev]; exact blk_nil _
  ·rw[ev]; exact blk_some (o1 c om)
 obtain⟨a1,a2,a3⟩:=hE1
 obtain⟨_,k,p2,p3,p4,p5⟩:=a1 i _ q1
 have ek:k3 b K=k:=kv_inj p3
 subst ek
 have hsrc:aSrc 1 H1 (oneS H)=some (1,[.int .i64 (K:Int)]):=by
  have g:H1.get H.next=some (.cells [.int .i64 (K:Int)] 0 false):=(o1 _ om).trans gb
  have:=rd_whole g (Nat.zero_le _)
  simp only[List.length_cons,List.length_nil,Nat.zero_add]at this
  simp only[aSrc,oneS,Nat.mul_one,this]
 have pb:Blk v fun c=>n0≤c∧c<H1.next∧τ c=100+i:=by
  rcases p4 with⟨ev,_⟩ | ⟨c,low,ev,_,h3,h4,_⟩
  ·simp only at ev; rw[ev]; exact blk_nil _
  ·simp only at ev p5
   rw[ev]at p5 ⊢
   exact blk_some ⟨h3,h4,p5 _ _ _ rfl⟩
 have pl:=posL_len b (k3 b K) K
 have p40:AppN 1 0 H1 v (ints (posL b (k3 b K) K)) (posL b (k3 b K) K).length:=AppN.samN' p4 (Nat.zero_le _) rL fun _ _ _=>rfl
 obtain⟨v',H2,m2,A2,n2,b2,o2⟩:=p40.many hsrc rfl rfl om (bytes:=8) om om
 have g2:H2.get mb=some (.map es' es'.length):=(o2 mb om (pb.mono fun c hc=>om)).trans g1
 have hborn:=mBorn_at es' 0 i _ q1 fun j e he=>by rw[(a1 j e he).1,Nat.zero_add]
 rw[Nat.zero_add]at hborn
 obtain⟨es2,hes2⟩:∃l,l=es'.set i (kv (k3 b K),v',i):=⟨_,rfl⟩
 have l2:es2.length=es'.length:=by rw[hes2,List.length_set]
 have m3:aHf (.mf .store) H2 [.map (some mb),.int .i64 (Int.ofNat i),v']=some (.tuple [],H2.set mb (.map es2 es'.length)):=by
  simp only[aHf,aMF,g2,aMf,hborn,mSet_set,← hes2]
 obtain⟨H3,hH3⟩:∃G,G=H2.set mb (.map es2 es'.length):=⟨_,rfl⟩
 have k3':H3.next=H2.next:=by rw[hH3]; rfl
 have o3:∀c,c≠mb→H3.get c=H2.get c:=fun c hc=>by rw[hH3,AHeap.get_set,if_neg hc]
 have g3:H3.get mb=some (.map es2 es2.length):=by rw[hH3,AHeap.get_set,if_pos rfl,l2]
 have hil:=(List.getElem?_eq_some_iff.1 q1).1
 have nb:Blk v' fun c=>n0≤c∧upT τ H1 H2 (100+i) c=100+i:=by
  refine ((b2 _ pb).and A2.blk').mono fun c hc=>?_
  rcases hc.1 with hc1 | hc1
  ·exact⟨hc1.1,by rw[upT_old hc1.2.1]; exact hc1.2.2⟩
  ·exact⟨om,upT_new hc1 hc.2⟩
 have key:∀j e,es2[j]?=some e→∃e',es'[j]?=some e'∧e.1=e'.1∧(j≠i→e=e'):=by
  intro j e he
  by_cases hj:j=i
  ·subst hj
   rw[hes2,List.getElem?_set_self hil,sJ]at he
   exact⟨_,q1,by rw[← he],fun h=>absurd rfl h⟩
  ·rw[hes2,List.getElem?_set_ne (Ne.symm hj)]at he
   exact⟨e,he,rfl,fun _=>rfl⟩
 refine⟨i,v,v',H1,H2,H3,upT τ H1 H2 (100+i),by rw[← hHb,hH1]; exact m1,m2,by rw[hH3]; exact m3,MR.iff.2 ⟨es2,g3,?_,?_,?_⟩,om,fun c hc=>upT_z n2 om,fun c hc=>⟨upT_old om,fun h1 h2=>?_⟩,om,fun c hc hd=>by rw[o1 c hd,ob c hc]⟩
 ·intro j e he
  by_cases hj:j=i
  ·subst hj
   rw[hes2,List.getElem?_set_self hil,sJ]at he
   subst he
   refine⟨rfl,k3 b K,rfl,rfl,?_,nb.mono fun c hc=>hc.2⟩
   rw[posL_same,ints_append,lA]
   exact app_at (A2.same om (nb.mono fun c hc=>o3 c om)) (nb.mono fun c hc=>hc.1)
  ·rw[hes2,List.getElem?_set_ne (Ne.symm hj)]at he
   obtain⟨r1,k',r2,r3,r4,r5⟩:=a1 j e he
   have hne:k3 b K≠k':=fun e'=>hj (a2 j i _ _ he q1 (by rw[r3,← e']))
   have rb:Blk e.2.1 fun c=>n0≤c∧c<H1.next∧τ c=100+j:=by
    rcases r4 with⟨ev,_⟩ | ⟨c,low,ev,_,h3,h4,_⟩
    ·rw[ev]; exact blk_nil _
    ·rw[ev]at r5 ⊢
     exact blk_some ⟨h3,h4,r5 _ _ _ rfl⟩
   refine⟨r1,k',r2,r3,?_,rb.mono fun c hc=>by rw[upT_old hc.2.1]; exact hc.2.2⟩
   rw[posL_other hne]
   exact app_sameN r4 om (rb.mono fun c hc=>by rw[o3 c om,o2 c hc.2.1 (pb.mono fun d hd=>by rintro rfl; omega)])
 ·intro j l e f he hf hef
  obtain⟨e',h1,h2,_⟩:=key j e he
  obtain⟨f',h3,h4,_⟩:=key l f hf
  exact a2 j l e' f' h1 h3 (by rw[← h2,← h4]; exact hef)
 ·intro k' hk'
  by_cases hkk:k3 b K=k'
  ·subst hkk
   exact⟨_,List.mem_of_getElem? (by rw[hes2,List.getElem?_set_self hil]),rfl⟩
  ·rw[posL_other hkk]at hk'
   obtain⟨e,he,hek⟩:=a3 k' hk'
   obtain⟨j,hj⟩:=List.getElem?_of_mem he
   have hji:j≠i:=by
    rintro rfl
    rw[q1,sJ]at hj
    subst hj
    exact hkk (kv_inj hek)
   exact⟨e,List.mem_of_getElem? (i:=j) (by rw[hes2,List.getElem?_set_ne (Ne.symm hji)]; exact hj),hek⟩
 ·rw[o3 c h1,o2 c om (pb.mono fun d hd=>by rintro rfl; omega),o1 c h1,ob c hc]
open Go.Abs Go.Abs.S
def stepF(b:Bs)(i m p:Nat)(x:Nat×Nat):Nat×Nat:=if x.1<run b p i m then (run b p i m,i-p) else x
def scanF(b:Bs)(i m:Nat)(l:List Nat):Nat→Nat×Nat→Nat×Nat
 | 0,x=>x
 | n+1,x=>scanF b i m l n (stepF b i m (l.getD n 0) x)
theorem scanF_pre(b:Bs)(i m:Nat)(l r:List Nat):∀(n:Nat) (x:Nat×Nat),n≤l.length→scanF b i m (l++r) n x=scanF b i m l n x
 | 0,_,_=>rfl
 | n+1,x,h=>by
  have e:(l++r).getD n 0=l.getD n 0:=by
   rw[List.getD_eq_getElem?_getD,List.getD_eq_getElem?_getD,List.getElem?_append_left om]
  simp only[scanF,e]
  exact scanF_pre b i m l r n _ om
theorem scanF_snoc(b:Bs)(i m:Nat)(l:List Nat)(p:Nat)(x:Nat×Nat):scanF b i m (l++[p]) (l++[p]).length x=scanF b i m l l.length (stepF b i m p x):=by
 rw[lA,List.length_singleton]
 have e:(l++[p]).getD l.length 0=p:=by rw[List.getD_eq_getElem?_getD,List.getElem?_concat_length]; rfl
 simp only[scanF,e]
 exact scanF_pre b i m l [p] _ _ rL
theorem k3_eq{b:Bs}{p i:Nat}(hp:p+3≤b.length)(hi:i+3≤b.length):k3 b p=k3 b i↔∀j,j<3→b[p+j]?=b[i+j]?:=by
 have e:∀j,j<b.length→b[j]?=some (b.getD j 0):=fun j hj=>by rw[List.getD_eq_getElem?_getD,List.getElem?_eq_getElem hj]; rfl
 constructor
 ·intro h j hj
  simp only[k3,List.cons.injEq,and_true]at h
  obtain⟨h0,h1,h2⟩:=h
  rw[e _ om,e _ om]
  have:j=0∨j=1∨j=2:=om
  rcases this with rfl | rfl | rfl
  ·exact congrArg some (UInt8.toNat_inj.1 h0)
  ·exact congrArg some (UInt8.toNat_inj.1 h1)
  ·exact congrArg some (UInt8.toNat_inj.1 h2)
 ·intro h
  have g:∀j,j<3→b.getD (p+j) 0=b.getD (i+j) 0:=fun j hj=>by
   have:=h j hj
   rw[e _ om,e _ om]at this
   exact Option.some.inj this
  simp only[k3]
  have g0:=g 0 om
  have g1:=g 1 om
  have g2:=g 2 om
  simp only[Nat.add_zero]at g0
  rw[g0,g1,g2]
theorem run_three{b:Bs}{p i m:Nat}(hm:3≤m)(hp:p+3≤b.length)(hi:i+3≤b.length):3≤run b p i m↔k3 b p=k3 b i:=by
 rw[k3_eq hp hi]
 constructor
 ·intro h j hj
  exact run_at b m p i j om
 ·intro h
  rcases Nat.lt_or_ge (run b p i m) 3 with h1 | h1
  ·exact absurd (h _ h1) (run_stop b m p i om)
  ·exact h1
def Both(i:Nat)(x y:Nat×Nat):Prop:=(x.1<3∧y=(0,0))∨(3≤x.1∧y=(x.1,i-x.2))
theorem both_scan{b:Bs}{i m:Nat}(hm:3≤m)(hi:i+3≤b.length):∀(p:Nat) (x y:Nat×Nat),p≤i→Both i x y→Both i (best b i m p x) (scanF b i m (posL b (k3 b i) p) (posL b (k3 b i) p).length y)
 | 0,x,y,_,h=>h
 | p+1,x,y,hp,h=>by
  have h3:=run_three (b:=b) (p:=p) hm om hi
  simp only[best]
  by_cases hk:k3 b p=k3 b i
  ·have e:posL b (k3 b i) (p+1)=posL b (k3 b i) p++[p]:=if_pos hk
   rw[e,scanF_snoc]
   have hr:=h3.2 hk
   refine both_scan hm hi p _ _ om ?_
   unfold stepF
   rcases h with⟨h1,rfl⟩ | ⟨h1,rfl⟩
   ·rw[if_pos om,if_pos (by simp only; omega)]
    exact .inr ⟨hr,rfl⟩
   ·by_cases hlt:x.1<run b p i m
    ·rw[if_pos hlt,if_pos hlt]
     exact .inr ⟨hr,rfl⟩
    ·rw[if_neg hlt,if_neg hlt]
     exact .inr ⟨h1,rfl⟩
  ·have e:posL b (k3 b i) (p+1)=posL b (k3 b i) p:=if_neg hk
   rw[e]
   have hr:¬3≤run b p i m:=fun h=>hk (h3.1 h)
   refine both_scan hm hi p _ _ om ?_
   rcases h with⟨h1,rfl⟩ | ⟨h1,rfl⟩
   ·refine .inl ⟨?_,rfl⟩
    split
    ·simp only; omega
    ·exact h1
   ·rw[if_neg om]
    exact .inr ⟨h1,rfl⟩
def matchG(b:Bs)(i to:Nat):Nat×Nat:=if mlen i to<3 then (0,0) else scanF b i (mlen i to) (posL b (k3 b i) i) (posL b (k3 b i) i).length (0,0)
theorem matchG_both{b:Bs}{i to:Nat}(hi:i<to)(hto:to≤b.length):Both i (matchF b i to) (matchG b i to):=by
 unfold matchG
 by_cases h:mlen i to<3
 ·rw[if_pos h]
  refine .inl ⟨?_,rfl⟩
  have hs:=best_spec b i (mlen i to) i (0,0) rL (.inl rfl)
  rcases hs with hs | ⟨_,h2⟩
  ·show (best b i (mlen i to) i (0,0)).1<3
   omega
  ·show (best b i (mlen i to) i (0,0)).1<3
   have:=run_le b (best b i (mlen i to) i (0,0)).2 i (mlen i to)
   omega
 ·rw[if_neg h]
  have hm:mlen i to=min 258 (to-i):=rfl
  exact both_scan om om i (0,0) (0,0) rL (.inl ⟨by simp,rfl⟩)
theorem scan_full(b:Bs)(i m:Nat)(l:List Nat):∀(n:Nat) (x:Nat×Nat),m≤x.1→scanF b i m l n x=x
 | 0,_,_=>rfl
 | n+1,x,h=>by
  have e:stepF b i m (l.getD n 0) x=x:=by
   unfold stepF
   have:=run_le b (l.getD n 0) i m
   rw[if_neg om]
  simp only[scanF,e]
  exact scan_full b i m l n x h
theorem run_cut{b:Bs}{p i m j:Nat}(h:b[p+j]?≠b[i+j]?):run b p i m≤j:=by
 rcases Nat.lt_or_ge j (run b p i m) with h1 | h1
 ·exact absurd (run_at b m p i j h1) h
 ·exact h1
open Go.Abs Go.Abs.S
variable {sent:Nat}
def Fm(mb ow:Nat)(τ:Nat→Nat)(H:AHeap)(τ':Nat→Nat)(H':AHeap):Prop:=H.next≤H'.next∧∀c,c<H.next→τ' c=τ c∧(c≠mb→c≠ow→τ c<100→H'.get c=H.get c)
theorem Fm.refl(mb ow:Nat)(τ:Nat→Nat)(H:AHeap):Fm mb ow τ H τ H:=⟨Nat.le_refl _,fun _ _=>⟨rfl,fun _ _ _=>rfl⟩⟩
theorem Fm.trans{mb ow:Nat}{τ τ' τ'':Nat→Nat}{H H' H'':AHeap}(h:Fm mb ow τ H τ' H')(k:Fm mb ow τ' H' τ'' H''):Fm mb ow τ H τ'' H'':=
 ⟨Nat.le_trans h.1 k.1,fun c hc=>by
  obtain⟨e1,e2⟩:=h.2 c hc
  obtain⟨e3,e4⟩:=k.2 c (Nat.lt_of_lt_of_le hc h.1)
  exact⟨e3.trans e1,fun h1 h2 h3=>(e4 h1 h2 (by rw[e1]; exact h3)).trans (e2 h1 h2 h3)⟩⟩
theorem Fm.of_ext{mb ow:Nat}{τ:Nat→Nat}{H H':AHeap}(e:Ext H.next H H'):Fm mb ow τ H τ H':=⟨e.next,fun c hc=>⟨rfl,fun _ _ _=>e.old c hc⟩⟩
theorem MR.ext{n0:Nat}{τ:Nat→Nat}{H H':AHeap}{mb:Nat}{b:Bs}{K:Nat}(h:MR n0 τ H mb b K)(hmb:mb<H.next)(e:Ext H.next H H'):MR n0 τ H' mb b K:=by
 obtain⟨es,h1,h2⟩:=MR.iff.1 h
 exact MR.iff.2 ⟨es,(e.old _ hmb).trans h1,h2.same e.next fun c hc _=>⟨e.old c hc,rfl⟩⟩
structure PW(sent:Nat)(n0:Nat)(τ:Nat→Nat)(H:AHeap)(ow mb:Nat)(out kept:AVal)(b:Bs)(K:Nat):Prop where
 row:Row H ow (dC sent out kept K (.map (some mb)))
 kp:AppN 1 0 H kept (byts b) b.length
 kb:Blk kept fun c=>c<H.next∧(τ c<100∧τ c≠6)∧c≠mb∧c≠ow
 map:MR n0 τ H mb b K
 own:ow<n0
 mbn:mb<n0
 ne:ow≠mb
 tow:τ ow<100
 n0n:n0≤H.next
 tz:∀c,H.next≤c→τ c=0
theorem PW.ext{n0:Nat}{τ:Nat→Nat}{H H':AHeap}{ow mb:Nat}{out kept:AVal}{b:Bs}{K:Nat}(h:PW sent n0 τ H ow mb out kept b K)(e:Ext H.next H H'):PW sent n0 τ H' ow mb out kept b K:=
 ⟨h.row.same (e.old _ (Nat.lt_of_lt_of_le h.own h.n0n)),h.kp.ext e,h.kb.mono fun c hc=>⟨Nat.lt_of_lt_of_le hc.1 e.next,hc.2⟩,h.map.ext (Nat.lt_of_lt_of_le h.mbn h.n0n) e,h.own,h.mbn,h.ne,h.tow,Nat.le_trans h.n0n e.next,fun c hc=>h.tz c (Nat.le_trans e.next hc)⟩
theorem match_note{n0:Nat}{τ:Nat→Nat}{H:AHeap}{ow mb:Nat}{out kept:AVal}{b:Bs}{K:Nat}(P:PW sent n0 τ H ow mb out kept b K)(hK:K≤20000) :
  ∃i v v' H1 H2 H3 H4 τ',aHf (.mf (.entry (.arr 3) (.slice none 0 (.known 0)))) (H.push (.cells [.int .i64 (K:Int)] 0 false)) [.map (some mb),.agg (u8s (k3 b K))]=some (.tuple [v,.int .i64 (Int.ofNat i)],H1) ∧
   aAppend 1 8 H1 v (oneS H)=some (v',H2)∧aHf (.mf .store) H2 [.map (some mb),.int .i64 (Int.ofNat i),v']=some (.tuple [],H3)∧oLoad false 1 H3 (cellR ow 9 6)=some (.int .i64 (K:Int))∧oStore 1 H3 (cellR ow 9 6) (.int .i64 ((K+1:Nat):Int))=some H4∧PW sent n0 τ' H4 ow mb out kept b (K+1)∧Fm mb ow τ H τ' H4:=by
 obtain⟨i,v,v',H1,H2,H3,τ',m1,m2,m3,hM,hn,tz',fr,_,_⟩:=note_spec P.map P.n0n P.mbn om P.tz
 have o1:=P.own
 have o2:=P.n0n
 have R3:Row H3 ow (dC sent out kept K (.map (some mb))):=P.row.same ((fr ow om).2 P.ne P.tow)
 obtain⟨H4,m4,r4,k4,q4⟩:=row_st R3 (n:=9) rfl (i:=6) om (x:=.int .i64 ((K+1:Nat):Int)) rfl rfl
 refine⟨i,v,v',H1,H2,H3,H4,τ',m1,m2,m3,row_load R3 rfl rfl,m4,⟨r4,P.kp.same om (P.kb.mono fun c hc=>by rw[q4 c hc.2.2.2,(fr c om).2 hc.2.2.1 hc.2.1.1]),P.kb.mono fun c hc=>⟨om,by rw[(fr c om).1]; exact hc.2.1,hc.2.2⟩,?_,P.own,P.mbn,P.ne,by rw[(fr ow om).1]; exact P.tow,om,fun c hc=>tz' c om⟩,om,fun c hc=>⟨(fr c hc).1,fun h1 h2 h3=>by rw[q4 c h2]; exact (fr c hc).2 h1 h3⟩⟩
 obtain⟨es,h1,h2⟩:=MR.iff.1 hM
 refine MR.iff.2 ⟨es,(q4 _ (Ne.symm P.ne)).trans h1,h2.same om fun c hc ht=>⟨q4 c ?_,rfl⟩⟩
 rintro rfl
 rw[(fr c om).1]at ht
 have:=P.tow
 omega
open Go.Abs Go.Abs.S
variable {sent:Nat}
def restM:List Nat:=[1,1,1,1]
theorem aeq_map(r:Nat):aeq (.map (some r)) (.map (some r))=true:=by simp[aeq]
theorem aeq_k3(b:Bs)(i:Nat):aeq (.agg (u8s (k3 b i))) (.agg (u8s (k3 b i)))=true:=by simp[aeq,aeqs,u8s,k3,eqF_eq]
theorem match_pre{n0:Nat}{τ:Nat→Nat}{H:AHeap}{ow mb:Nat}{out kept:AVal}{b:Bs}{K:Nat}(P:PW sent n0 τ H ow mb out kept b K)(i to:Nat)(hKi:K≤i)(hi:i<to)(hto:to≤b.length)(hb:b.length≤20000)(Q:AVal→AHeap→Prop)
  (h0:mlen i to<3→Q (.tuple [.int .i64 0,.int .i64 0]) H)
  (hrest:3≤mlen i to→∀(T2:Env) (H2:AHeap) (τ2:Nat→Nat),T2 0=cellR ow 9 0→T2 1=.int .i64 (i:Int)→T2 2=.int .i64 (to:Int)→T2 6=.int .i64 0→T2 7=.int .i64 0→T2 8=.int .i64 ((mlen i to:Nat):Int)→PW sent n0 τ2 H2 ow mb out kept b i→Fm mb ow τ H τ2 H2→wp (ACalls Tryz.prog noNat) (hold (restP restM c326.body)) (fin c326.res Q) T2 H2) :
  ACalls Tryz.prog noNat 326 [cellR ow 9 0,.int .i64 (i:Int),.int .i64 (to:Int)] H Q:=by
 refine acalls_ofN rfl za326 rfl ?_
 refine wp_cutP restM ?_
 have ws:IntKind.i64.wrap ((to:Int)-(i:Int))=((to-i:Nat):Int):=by rw[wrap64 om om]; omega
 have hm:mlen i to=min 258 (to-i):=rfl
 have emin:(if ((to-i:Nat):Int)<258 then ((to-i:Nat):Int) else 258)=((mlen i to:Nat):Int):=by split <;> omega
 by_cases h3:mlen i to<3
 ·have h3':((mlen i to:Nat):Int)<3:=om
  simp only[c326,restM,sC,sA,sB,seval,ws,pf_min,emin,h3']
  exact h0 h3
 ·have h3':¬((mlen i to:Nat):Int)<3:=om
  have hrest:=hrest om
  generalize mlen i to=m at *
  simp only[c326,restM]at hrest
  simp only[c326,restM,sC,sA,sB,seval,ws,pf_min,emin,h3']
  refine aw_loop (fun q (T:Env) H'=>∃(K':Nat) (τ':Nat→Nat),K'≤i∧q=i-K'∧T 0=cellR ow 9 0∧T 1=.int .i64 (i:Int)∧T 2=.int .i64 (to:Int)∧T 6=.int .i64 0∧T 7=.int .i64 0∧T 8=.int .i64 (m:Int)∧PW sent n0 τ' H' ow mb out kept b K'∧Fm mb ow τ H τ' H') (i-K)
   ⟨K,τ,hKi,rfl,by simp only[sA,sB,seval]; try rfl,by simp only[sA,sB,seval]; try rfl,by simp only[sA,sB,seval]; try rfl,by simp only[sA,sB,seval]; try rfl,by simp only[sA,sB,seval]; try rfl,by simp only[sA,sB,seval]; try rfl,P,Fm.refl _ _ _ _⟩ ?_
  rintro q T H' ⟨K',τ',hK',rfl,g0,g1,g2,g6,g7,g8,P',F'⟩
  have l6:oLoad false 1 H' (cellR ow 9 6)=some (.int .i64 (K':Int)):=row_load P'.row rfl rfl
  by_cases hlt:K'<i
  ·have hlt':(K':Int)<(i:Int):=om
   have o1:=P'.own
   have o2:=P'.n0n
   simp only[sA,sB,seval,g0,g1,g2,g6,g7,g8,nil_cell,fldA,fld0,l6,hlt']
   refine (three_spec P'.row om P'.kp K' om om).mono ?_
   rintro _ Ha ⟨rfl,Ea⟩
   have na:=Ea.next
   obtain⟨Hb,mb1,rb,kb,ob⟩:=row_newL Ha [.int .u8 0,.int .u8 0,.int .u8 0] (n:=3) rfl
   obtain⟨Hc,mc,rc,kc,oc⟩:=row_storeN rb (n:=3) rfl (xs:=u8s (k3 b K')) rfl (u8s_one _)
   have Ec:Ext H'.next H' Hc:=⟨om,fun c hc=>by rw[oc c om,ob c om]; exact Ea.old c hc⟩
   have Pc:=P'.ext Ec
   obtain⟨j,v,v',H1,H2,H3,H4,τ2,m1,m2,m3,l63,m4,P4,F4⟩:=match_note Pc om
   have m1':aHf (.mf (.entry (.arr 3) (.slice none 0 (.known 0)))) (Hc.push (.cells [.int .i64 (K':Int)] 0 false)) [.map (some mb),.agg (u8s (k3 b K'))]=some (.tuple [v,.int .i64 (j:Int)],H1):=m1
   have m3':aHf (.mf .store) H2 [.map (some mb),.int .i64 (j:Int),v']=some (.tuple [],H3):=m3
   have l7c:oLoad false 1 Hc (cellR ow 9 7)=some (.map (some mb)):=row_load Pc.row rfl rfl
   have l6c:oLoad false 1 Hc (cellR ow 9 6)=some (.int .i64 (K':Int)):=row_load Pc.row rfl rfl
   have lkc:oLoad true 3 Hc (cellR Ha.next 3 0)=some (.agg (u8s (k3 b K'))):=row_loadN rc (n:=3) rfl
   have bld:=build1 (.int .i64 0) Hc (x:=.int .i64 (K':Int)) rfl
   have l7d:oLoad false 1 (Hc.push (.cells [.int .i64 (K':Int)] 0 false)) (cellR ow 9 7)=some (.map (some mb)):=row_load (Pc.row.same (get_push_lt om)) rfl rfl
   have lkd:oLoad true 3 (Hc.push (.cells [.int .i64 (K':Int)] 0 false)) (cellR Ha.next 3 0)=some (.agg (u8s (k3 b K'))):=row_loadN (rc.same (get_push_lt om)) (n:=3) rfl
   simp only[sA,sB,seval,g0,g1,g2,g6,g7,g8,mb1,mc]
   refine aw_drawC rfl ?_
   simp only[sA,sB,seval,sR,g0,nil_cell,fldA,fld0,l7c,lkc,l6c,bld,m1',ext_0,ext_1,m2,m3']
   simp only[ck_nil',ck_cons,ckP_load,ckP_nil,ck_end,and_true,true_and,List.map_cons,List.map_nil,sA,sB,seval,g0,fldA,fld0]
   refine⟨⟨⟨_,rfl,fun _=>⟨_,l7d,aeq_map _⟩⟩,⟨_,rfl,fun _=>⟨_,lkd,aeq_k3 _ _⟩⟩⟩,?_⟩
   simp only[sA,sB,seval,g0,g1,g2,g6,g7,g8,nil_cell,fldA,fld0,l63,wrap1 K' om,m4]
   exact⟨_,om,K'+1,τ2,om,rfl,tt,tt,tt,tt,tt,tt,P4,F'.trans ((Fm.of_ext Ec).trans F4)⟩
  ·have hlt':¬(K':Int)<(i:Int):=om
   obtain rfl:K'=i:=om
   simp only[sA,sB,seval,g0,g1,g2,g6,g7,g8,nil_cell,fldA,fld0,l6,hlt']
   exact hrest _ _ τ' (by simp only[sA,sB,seval,g0]) (by simp only[sA,sB,seval,g1]) (by simp only[sA,sB,seval,g2]) (by simp only[sA,sB,seval,g6]) (by simp only[sA,sB,seval,g7]) (by simp only[sA,sB,seval,g8]) P' F'
open Go.Abs Go.Abs.S
variable {sent:Nat}
theorem match_rest{n0:Nat}{τ:Nat→Nat}{H:AHeap}{ow mb:Nat}{out kept:AVal}{b:Bs}{T:Env}{i to m:Nat}(P:PW sent n0 τ H ow mb out kept b i)(hm:m=mlen i to)(hm3:3≤m)(hi:i<to)(hto:to≤b.length)(hb:b.length≤20000)(Q:AVal→AHeap→Prop)
  (g0:T 0=cellR ow 9 0) (g1:T 1=.int .i64 (i:Int)) (g6:T 6=.int .i64 0) (g7:T 7=.int .i64 0) (g8:T 8=.int .i64 (m:Int))
  (hQ:∀H2,Ext H.next H H2→Q (.tuple [.int .i64 (((matchG b i to).1:Nat):Int),.int .i64 (((matchG b i to).2:Nat):Int)]) H2) :
  wp (ACalls Tryz.prog noNat) (hold (restP restM c326.body)) (fin c326.res Q) T H:=by
 have hmm:mlen i to=min 258 (to-i):=rfl
 have l3:oLoad false 1 H (cellR ow 9 3)=some kept:=row_load P.row rfl rfl
 have l4:oLoad false 1 H (cellR ow 9 4)=some (.int .i64 0):=row_load P.row rfl rfl
 have l7:oLoad false 1 H (cellR ow 9 7)=some (.map (some mb)):=row_load P.row rfl rfl
 have e0:(i:Int)-0=(i:Int):=om
 have wi:IntKind.i64.wrap (i:Int)=(i:Int):=wrap64 om om
 obtain⟨here,mh,ch,_⟩:=P.kp.slice (lo:=i) (hi:=i+m) om om
 have eh:((byts b).drop i).take (i+m-i)=byts ((b.drop i).take m):=by rw[show i+m-i=m by omega]; simp[byts]
 rw[eh]at ch
 have o1:=P.own
 have o2:=P.n0n
 simp only[c326,restP,restM,hold_eq,sA,sB,seval,g0,g1,g6,g7,g8,nil_cell,fldA,fld0,l3,l4,e0,wi,wrapN i m om,mh]
 refine aw_drawC rfl ?_
 simp only[sA,sB,seval,sR,g0,g1,nil_cell,fldA,fld0,l7]
 refine (three_spec P.row om P.kp i om om).mono ?_
 rintro _ Ha ⟨rfl,Ea⟩
 have Pa:=P.ext Ea
 have l7a:oLoad false 1 Ha (cellR ow 9 7)=some (.map (some mb)):=row_load Pa.row rfl rfl
 have l3a:oLoad false 1 Ha (cellR ow 9 3)=some kept:=row_load Pa.row rfl rfl
 have l4a:oLoad false 1 Ha (cellR ow 9 4)=some (.int .i64 0):=row_load Pa.row rfl rfl
 obtain⟨v,ml,Av⟩:=Pa.map.look (k:=k3 b i) rfl
 have ml':aHf (.mLook (.arr 3) false (.slice none 0 (.known 0))) Ha [.map (some mb),.agg (u8s (k3 b i))]=some (v,Ha):=ml
 simp only[sA,sB,seval,sR,ml']
 simp only[ck_nil',ck_cons,ckP_load,ckP_nil,ck_end,and_true,true_and,List.map_cons,List.map_nil,sA,sB,seval,g0,g1,fldA,fld0]
 refine⟨⟨_,rfl,fun _=>⟨_,l7a,aeq_map _⟩⟩,?_⟩
 have Av0:AppN 1 0 Ha v (ints (posL b (k3 b i) i)) (posL b (k3 b i) i).length:=AppN.samN' Av (Nat.zero_le _) rL fun _ _ _=>rfl
 have Cv:Cel Ha.next Ha v (ints (posL b (k3 b i) i)):=Av0.cel1 Av0.blk'
 have hlen:=Av0.len
 have hpl:=posL_len b (k3 b i) i
 have hmem:∀p,p∈posL b (k3 b i) i→p<i:=fun p hp=>(posL_mem.1 hp).1
 have hG:matchG b i to=scanF b i m (posL b (k3 b i) i) (posL b (k3 b i) i).length (0,0):=by unfold matchG; rw[if_neg om,← hm]
 obtain⟨l,hl⟩:∃l,l=posL b (k3 b i) i:=⟨_,rfl⟩
 rw[← hl]at Cv hlen hpl hmem hG
 have cha:=ch.ext Ea
 have wl:IntKind.i64.wrap ((l.length:Int)-1)=(l.length:Int)-1:=wrap64 om om
 have w3:IntKind.i64.wrap ((i:Int)-32768)=(i:Int)-32768:=wrap64 om om
 simp only[sA,sB,seval,g0,g1,g6,g7,g8,hlen,wl]
 refine aw_loop (fun q (T:Env) H'=>∃y:Nat×Nat,q≤l.length∧y.1≤m∧T 0=cellR ow 9 0∧T 1=.int .i64 (i:Int)∧T 6=.int .i64 (y.1:Int)∧T 7=.int .i64 (y.2:Int)∧T 8=.int .i64 (m:Int)∧T 10=here∧T 11=v∧T 12=.int .i64 ((q:Int)-1)∧scanF b i m l q y=matchG b i to∧Ha=H') l.length
  ⟨(0,0),Nat.le_refl _,Nat.zero_le _,by simp only[sA,sB,seval,g0],by simp only[sA,sB,seval,g1],by simp only[sA,sB,seval,g6]; try rfl,by simp only[sA,sB,seval,g7]; try rfl,by simp only[sA,sB,seval,g8],by simp only[sA,sB,seval],by simp only[sA,sB,seval],by simp only[sA,sB,seval],hG.symm,rfl⟩ ?_
 rintro q T _ ⟨y,hq,hym,k0,k1,k6,k7,k8,k10,k11,k12,hsc,rfl⟩
 have leave:scanF b i m l q y=y→Q (.tuple [.int .i64 (y.1:Int),.int .i64 (y.2:Int)]) Ha:=fun h=>by
  have:=hQ Ha Ea
  rw[← hsc,h]at this
  exact this
 cases q with
 | zero=>
  have hge:¬(0:Int)≤((0:Nat):Int)-1:=om
  simp only[sA,sB,seval,k0,k1,k6,k7,k8,k10,k11,k12,hge]
  exact leave rfl
 | succ n=>
  have en:((n+1:Nat):Int)-1=(n:Int):=om
  rw[en]at k12
  have hge:(0:Int)≤(n:Int):=om
  obtain⟨p,hp⟩:∃p,l[n]?=some p:=⟨_,List.getElem?_eq_getElem om⟩
  have hpd:l.getD n 0=p:=by rw[List.getD_eq_getElem?_getD,hp]; rfl
  have hpi:=hmem p (List.mem_of_getElem? hp)
  have hidx:=Cv.idx .i64 (i:=n) (by rw[ints_len]; omega)
  have hld:=Cv.load (ints_get hp)
  have hge2:(i:Int)-32768≤(p:Int):=om
  have wn:IntKind.i64.wrap ((n:Int)-1)=(n:Int)-1:=wrap64 om om
  by_cases hy:y.1<m
  ·have hy':(y.1:Int)<(m:Int):=om
   have hpi':¬(i:Int)≤(p:Int):=om
   simp only[scanF,hpd]at hsc
   obtain⟨th,mt,ct,_⟩:=Pa.kp.from_ (lo:=p) om
   have et:(byts b).drop p=byts (b.drop p):=by simp[byts]
   rw[et]at ct
   have e0p:(p:Int)-0=(p:Int):=om
   have wp_:IntKind.i64.wrap (p:Int)=(p:Int):=wrap64 om om
   have wsp:IntKind.i64.wrap ((i:Int)-(p:Int))=((i-p:Nat):Int):=by rw[wrap64 om om]; omega
   have at1:∀j,j<m→∃c d,b[p+j]?=some c∧b[i+j]?=some d∧aIdxA 1 th (.int .i64 (j:Int))=some (cellP th j)∧oLoad false 1 Ha (cellP th j)=some (.int .u8 (c.toNat:Int))∧aIdxA 1 here (.int .i64 (j:Int))=some (cellP here j)∧oLoad false 1 Ha (cellP here j)=some (.int .u8 (d.toNat:Int)):=by
    intro j hj
    obtain⟨c,hc⟩:∃c,b[p+j]?=some c:=⟨_,List.getElem?_eq_getElem om⟩
    obtain⟨d,hd⟩:∃d,b[i+j]?=some d:=⟨_,List.getElem?_eq_getElem om⟩
    exact⟨c,d,hc,hd,ct.idx .i64 (by rw[byts_len,List.length_drop]; omega),ct.load (byts_get (by rw[List.getElem?_drop]; exact hc)),cha.idx .i64 (by rw[byts_len,List.length_take,List.length_drop]; omega),cha.load (byts_get (by rw[List.getElem?_take_of_lt hj,List.getElem?_drop]; exact hd))⟩
   obtain⟨c,d,hc,hd,i1,x1,i2,x2⟩:=at1 y.1 hy
   by_cases hcd:c=d
   ·have hne:(c.toNat:Int)=(d.toNat:Int):=by rw[hcd]
    simp only[sA,sB,seval,k0,k1,k6,k7,k8,k10,k11,k12,hge,hidx,hld,w3,hge2,hy',hpi',nil_cell,fldA,fld0,l3a,l4a,e0p,wp_,mt,i1,x1,i2,x2,hne]
    refine aw_loop (fun q (T2:Env) H'=>∃j:Nat,j≤m∧q=m-j∧T2 0=cellR ow 9 0∧T2 1=.int .i64 (i:Int)∧T2 6=.int .i64 (y.1:Int)∧T2 7=.int .i64 (y.2:Int)∧T2 8=.int .i64 (m:Int)∧T2 10=here∧T2 11=v∧T2 12=.int .i64 (n:Int)∧T2 13=th∧T2 14=.int .i64 (j:Int)∧run b p i m=j+run b (p+j) (i+j) (m-j)∧Ha=H') m
     ⟨0,Nat.zero_le _,rfl,by simp only[sA,sB,seval,k0],by simp only[sA,sB,seval,k1],by simp only[sA,sB,seval,k6],by simp only[sA,sB,seval,k7],by simp only[sA,sB,seval,k8],by simp only[sA,sB,seval,k10],by simp only[sA,sB,seval,k11],by simp only[sA,sB,seval,k12],by simp only[sA,sB,seval],by simp only[sA,sB,seval]; try rfl,by simp,rfl⟩ ?_
    rintro q T2 _ ⟨j,hj,rfl,f0,f1,f6,f7,f8,f10,f11,f12,f13,f14,hrun,rfl⟩
    by_cases hjm:j<m
    ·have hjm':(j:Int)<(m:Int):=om
     obtain⟨c',d',hc',hd',j1,z1,j2,z2⟩:=at1 j hjm
     rw[run_step b p i m j hjm,hc',hd']at hrun
     by_cases hcd':c'=d'
     ·have heq:(c'.toNat:Int)=(d'.toNat:Int):=by rw[hcd']
      rw[if_pos (by rw[hcd'])]at hrun
      simp only[sA,sB,seval,f0,f1,f6,f7,f8,f10,f11,f12,f13,f14,hjm',j1,z1,j2,z2,heq,wrap1 j om]
      exact⟨_,om,j+1,om,rfl,tt,tt,tt,tt,tt,tt,tt,tt,tt,tt,by rw[hrun]; omega,tt⟩
     ·have heq:¬(c'.toNat:Int)=(d'.toNat:Int):=fun e=>hcd' (UInt8.toNat_inj.1 om)
      rw[if_neg (by simpa using hcd')]at hrun
      have hr:run b p i m=j:=om
      by_cases hcmp:y.1<j
      ·have hcmp':(y.1:Int)<(j:Int):=om
       have hst:stepF b i m p y=(j,i-p):=by unfold stepF; rw[hr,if_pos hcmp]
       simp only[sA,sB,seval,f0,f1,f6,f7,f8,f10,f11,f12,f13,f14,hjm',j1,z1,j2,z2,heq,hcmp',hidx,hld,wsp,wn]
       exact⟨n,om,(j,i-p),om,by simp only; omega,tt,tt,tt,tt,tt,tt,tt,tt,by rw[← hst]; exact hsc,tt⟩
      ·have hcmp':¬(y.1:Int)<(j:Int):=om
       have hst:stepF b i m p y=y:=by unfold stepF; rw[hr,if_neg hcmp]
       rw[hst]at hsc
       simp only[sA,sB,seval,f0,f1,f6,f7,f8,f10,f11,f12,f13,f14,hjm',j1,z1,j2,z2,heq,hcmp',wn]
       exact⟨n,om,y,om,hym,tt,tt,tt,tt,tt,tt,tt,tt,hsc,tt⟩
    ·have hjm':¬(j:Int)<(m:Int):=om
     have hr:run b p i m=j:=by rw[hrun,show m-j=0 by omega,run]; rfl
     by_cases hcmp:y.1<j
     ·have hcmp':(y.1:Int)<(j:Int):=om
      have hst:stepF b i m p y=(j,i-p):=by unfold stepF; rw[hr,if_pos hcmp]
      simp only[sA,sB,seval,f0,f1,f6,f7,f8,f10,f11,f12,f13,f14,hjm',hcmp',hidx,hld,wsp,wn]
      exact⟨n,om,(j,i-p),om,by simp only; omega,tt,tt,tt,tt,tt,tt,tt,tt,by rw[← hst]; exact hsc,tt⟩
     ·have hcmp':¬(y.1:Int)<(j:Int):=om
      have hst:stepF b i m p y=y:=by unfold stepF; rw[hr,if_neg hcmp]
      rw[hst]at hsc
      simp only[sA,sB,seval,f0,f1,f6,f7,f8,f10,f11,f12,f13,f14,hjm',hcmp',wn]
      exact⟨n,om,y,om,hym,tt,tt,tt,tt,tt,tt,tt,tt,hsc,tt⟩
   ·have hne:¬(c.toNat:Int)=(d.toNat:Int):=fun e=>hcd (UInt8.toNat_inj.1 om)
    have hcut:=run_cut (b:=b) (p:=p) (i:=i) (m:=m) (j:=y.1) (by rw[hc,hd]; simpa using hcd)
    have hst:stepF b i m p y=y:=by unfold stepF; rw[if_neg om]
    rw[hst]at hsc
    simp only[sA,sB,seval,k0,k1,k6,k7,k8,k10,k11,k12,hge,hidx,hld,w3,hge2,hy',hpi',nil_cell,fldA,fld0,l3a,l4a,e0p,wp_,mt,i1,x1,i2,x2,hne,wn]
    exact⟨n,om,y,om,hym,tt,tt,tt,tt,tt,tt,tt,tt,hsc,tt⟩
  ·have hy':¬(y.1:Int)<(m:Int):=om
   simp only[sA,sB,seval,k0,k1,k6,k7,k8,k10,k11,k12,hge,hidx,hld,w3,hge2,hy']
   exact leave (scan_full b i m l _ _ om)
theorem match_spec{n0:Nat}{τ:Nat→Nat}{H:AHeap}{ow mb:Nat}{out kept:AVal}{b:Bs}{K:Nat}(P:PW sent n0 τ H ow mb out kept b K)(i to:Nat)(hKi:K≤i)(hi:i<to)(hto:to≤b.length)(hb:b.length≤20000) :
  ACalls Tryz.prog noNat 326 [cellR ow 9 0,.int .i64 (i:Int),.int .i64 (to:Int)] H fun w H'=>w=.tuple [.int .i64 (((matchG b i to).1:Nat):Int),.int .i64 (((matchG b i to).2:Nat):Int)]∧∃τ' K',(K'≤i∧(K'=K∨K'+3≤to))∧PW sent n0 τ' H' ow mb out kept b K'∧Fm mb ow τ H τ' H':=by
 refine match_pre P i to hKi hi hto hb _ (fun h=>?_) fun h3 T2 H2 τ2 g0 g1 g2 g6 g7 g8 P2 F2=>?_
 ·have e:matchG b i to=(0,0):=by unfold matchG; rw[if_pos h]
  rw[e]
  exact⟨rfl,τ,K,⟨hKi,.inl rfl⟩,P,Fm.refl _ _ _ _⟩
 ·exact match_rest P2 rfl h3 hi hto hb _ g0 g1 g6 g7 g8 fun H3 E3=>⟨rfl,τ2,i,⟨Nat.le_refl _,.inr (by have:mlen i to=min 258 (to-i):=rfl; omega)⟩,P2.ext E3,F2.trans (Fm.of_ext E3)⟩
open Go.Abs Go.Abs.S
def tokFl(t:Tok):List (Nat×Nat):=if t.back=0 then [symF t.b.toNat] else lenFl t.n++disFl t.back
theorem tokFl_ok{t:Tok}(h:tokOk t):fldBits (tokFl t)=tokB t∧∀f∈tokFl t,fldOk f=true:=by
 unfold tokFl tokB
 by_cases h0:t.back=0
 ·rw[if_pos h0,if_pos h0]
  have hb:=t.b.toNat_lt
  obtain⟨a,e⟩:=symF_ok (s:=t.b.toNat) om
  refine⟨by simp[fldBits,e],fun f hf=>?_⟩
  rw[List.mem_singleton]at hf; rw[hf]; exact a
 ·rw[if_neg h0,if_neg h0]
  rcases h with h | ⟨h1,h2,h3,h4⟩
  ·exact absurd h h0
  ·obtain⟨a1,a2⟩:=lenFl_ok h1 h2
   obtain⟨b1,b2⟩:=disFl_ok h3 om
   refine⟨by rw[fldBits_append,a1,b1],fun f hf=>?_⟩
   rcases List.mem_append.1 hf with hf | hf
   ·exact a2 f hf
   ·exact b2 f hf
theorem toksFl_ok:∀(l:List Tok),(∀t∈l,tokOk t)→fldBits (l.flatMap tokFl)=l.flatMap tokB∧∀f∈l.flatMap tokFl,fldOk f=true
 | [],_=>⟨rfl,fun f hf=>by simp at hf⟩
 | t::r,h=>by
  obtain⟨a1,a2⟩:=tokFl_ok (h t (by simp))
  obtain⟨b1,b2⟩:=toksFl_ok r fun t ht=>h t (by simp[ht])
  refine⟨by simp only[List.flatMap_cons,fldBits_append,a1,b1],fun f hf=>?_⟩
  rw[List.flatMap_cons]at hf
  rcases List.mem_append.1 hf with hf | hf
  ·exact a2 f hf
  ·exact b2 f hf
def blockFl(last:Nat)(l:List Tok):List (Nat×Nat):=[(last,1),(1,2)]++l.flatMap tokFl++[symF 256]
theorem blockFl_ok{last:Nat}(hla:last≤1){l:List Tok}(h:∀t∈l,tokOk t):fldBits (blockFl last l)=fixedB l last∧∀f∈blockFl last l,fldOk f=true:=by
 obtain⟨a1,a2⟩:=toksFl_ok l h
 obtain⟨b1,b2⟩:=symF_ok (s:=256) om
 unfold blockFl
 refine⟨?_,fun f hf=>?_⟩
 ·rw[fldBits_append,fldBits_append,a1]
  have e1:fldBits [(last,1),(1,2)]=bitsN last 1++bitsN 1 2:=by simp[fldBits]
  have e2:fldBits [symF 256]=fixB 256:=by simp[fldBits,b2]
  rw[e1,e2]
  simp only[fixedB,List.append_assoc]
 ·rcases List.mem_append.1 hf with hf | hf
  ·rcases List.mem_append.1 hf with hf | hf
   ·simp only[List.mem_cons,List.not_mem_nil,or_false]at hf
    rcases hf with rfl | rfl
    ·have:last=0∨last=1:=om
     rcases this with rfl | rfl <;> rfl
    ·rfl
   ·exact a2 f hf
  ·rw[List.mem_singleton]at hf; rw[hf]; exact b1
def wideF(fs:List (Nat×Nat)):Nat:=(fs.map (·.2)).sum
theorem wideF_bits(fs:List (Nat×Nat)):wideF fs=(fldBits fs).length:=by
 induction fs with
 | nil=>rfl
 | cons f r ih=>
  simp only[wideF,fldBits]at ih
  simp only[wideF,fldBits,List.map_cons,List.sum_cons,List.flatMap_cons,lA,bitsN_len,ih]
theorem tok_at{b:Bs}{to i f:Nat}(hi:i<to)(hto:to≤b.length) :
  (3≤(matchG b i to).1∧toksF b to (f+1) i=⟨(matchG b i to).1,(matchG b i to).2,0⟩::toksF b to f (i+(matchG b i to).1)) ∨
  (¬3≤(matchG b i to).1∧toksF b to (f+1) i=⟨0,0,b.getD i 0⟩::toksF b to f (i+1)):=by
 have hB:=matchG_both hi hto
 simp only[toksF,if_pos hi]
 rcases hB with⟨h1,h2⟩ | ⟨h1,h2⟩
 ·refine .inr ⟨by rw[h2]; simp,?_⟩
  rw[if_neg om]
 ·refine .inl ⟨by rw[h2]; exact h1,?_⟩
  rw[if_pos h1,h2]
open Go.Abs Go.Abs.S
variable {sent:Nat}
def FM(τ:Nat→Nat)(H:AHeap)(v:AVal)(fs:List (Nat×Nat)):Prop:=FL H v fs∧Blk v (τ ·=6)
theorem PW.mark{n0:Nat}{τ:Nat→Nat}{H H':AHeap}{ow mb:Nat}{out kept:AVal}{b:Bs}{K:Nat}(h:PW sent n0 τ H ow mb out kept b K)(h6:∀c,c<n0→τ c≠6)(hn:H.next≤H'.next)(e:∀c,c<H.next→τ c≠6→H'.get c=H.get c):PW sent n0 (upT τ H H' 6) H' ow mb out kept b K:=by
 have o1:=h.own
 have o2:=h.mbn
 have o3:=h.n0n
 refine⟨h.row.same (e _ om (h6 _ o1)),h.kp.same hn (h.kb.mono fun c hc=>e c hc.1 hc.2.1.2),h.kb.mono fun c hc=>⟨om,by rw[upT_old hc.1]; exact hc.2.1,hc.2.2⟩,?_,o1,o2,h.ne,by rw[upT_old om]; exact h.tow,om,fun c hc=>upT_z hn hc⟩
 obtain⟨es,h1,h2⟩:=MR.iff.1 h.map
 exact MR.iff.2 ⟨es,(e _ om (h6 _ o2)).trans h1,h2.same hn fun c hc ht=>⟨e c hc om,upT_old hc⟩⟩
theorem FM.fm{τ τ':Nat→Nat}{H H':AHeap}{v:AVal}{fs:List (Nat×Nat)}{mb ow:Nat}(h:FM τ H v fs)(f:Fm mb ow τ H τ' H')(hm:τ mb≠6)(ho:τ ow≠6):FM τ' H' v fs:=by
 have hb:Blk v fun c=>c<H.next∧τ c=6:=(LinM.blk h.1).and h.2
 exact⟨LinM.same h.1 f.1 (hb.mono fun c hc=>(f.2 c hc.1).2 (by rintro rfl; exact hm hc.2) (by rintro rfl; exact ho hc.2) om),hb.mono fun c hc=>by rw[(f.2 c hc.1).1]; exact hc.2⟩
theorem FM.stp{τ:Nat→Nat}{H H':AHeap}{v w:AVal}{fs gs:List (Nat×Nat)}(h:FM τ H v fs)(k:FL H' w gs)(s:Stp v H w H'):FM (upT τ H H' 6) H' w gs∧∀c,c<H.next→τ c≠6→H'.get c=H.get c:=by
 have hb:Blk v fun c=>c<H.next∧τ c=6:=(LinM.blk h.1).and h.2
 refine⟨⟨k,((s.2.1 _ hb).and (LinM.blk k)).mono fun c hc=>?_⟩,fun c hc h6=>s.2.2 c hc (hb.mono fun d hd=>by rintro rfl; exact h6 hd.2)⟩
 rcases hc.1 with h1 | h1
 ·rw[upT_old h1.1]; exact h1.2
 ·exact upT_new h1 hc.2
open Go.Abs Go.Abs.S
variable {sent:Nat}
theorem block_step{n0:Nat}{τ:Nat→Nat}{H:AHeap}{ow mb:Nat}{out kept v:AVal}{b:Bs}{K i:Nat}{fs:List (Nat×Nat)}(P:PW sent n0 τ H ow mb out kept b K)(F:FM τ H v fs)(h6:∀c,c<n0→τ c≠6)(hKi:K≤i){to:Nat}(hi:i<to)(hto:to≤b.length)(hb:b.length≤20000) :
  ACalls Tryz.prog noNat 326 [cellR ow 9 0,.int .i64 (i:Int),.int .i64 (to:Int)] H fun w H'=>w=.tuple [.int .i64 (((matchG b i to).1:Nat):Int),.int .i64 (((matchG b i to).2:Nat):Int)]∧∃τ' K',(K'≤i∧(K'=K∨K'+3≤to))∧PW sent n0 τ' H' ow mb out kept b K'∧FM τ' H' v fs∧(∀c,c<n0→τ' c≠6)∧Fm mb ow τ H τ' H':=by
 refine (match_spec P i to hKi hi hto hb).mono ?_
 rintro w H' ⟨rfl,τ',K',h1,P',f⟩
 have o3:=P.n0n
 exact⟨rfl,τ',K',h1,P',F.fm f (h6 _ P.mbn) (h6 _ P.own),fun c hc=>by rw[(f.2 c om).1]; exact h6 c hc,f⟩
theorem matchG_ok{b:Bs}{i to:Nat}(hi:i<to)(hto:to≤b.length)(hb:b.length≤20000)(h:3≤(matchG b i to).1):(matchG b i to).1≤258∧1≤(matchG b i to).2∧(matchG b i to).2≤20000∧i+(matchG b i to).1≤to:=by
 rcases matchG_both hi hto with⟨_,h2⟩ | ⟨h1,h2⟩
 ·rw[h2]at h; simp at h
 ·obtain⟨m1,m2,m3⟩:=match_ok b i to h1
  rw[h2]
  simp only
  omega
end Go.Proofs.Tb
