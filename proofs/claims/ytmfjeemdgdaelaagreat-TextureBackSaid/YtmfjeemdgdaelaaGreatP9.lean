/- Part of a proof (T28 T29 T30 T31 T32 T33 T34 T35 T36 T37 T38 T39 T40 T41 T42 T43 T44 T45 T46 T47); no condition. -/
import Derived.Test.YtmfjeemdgdaelaaGreatP8
set_option linter.unusedSimpArgs false
set_option linter.unusedVariables false
set_option linter.unnecessarySimpa false
namespace Go.Proofs.Tb
open Go.Abs Go.Abs.S
structure DB(n0:Nat)(τ:Nat→Nat)(H:AHeap)(ow o mb:Nat)(kept:AVal)(b:Bs)(sent K:Nat)(M:List Bool)(pl:Nat):Prop where
 pw:PW sent n0 τ H ow mb (cellR o 3 0) kept b K
 w:OW H.next τ H o M pl
 k5:Blk kept (τ ·=5)
 t1:τ ow=1
 t3:τ mb=3
 h6:∀c,c<n0→τ c≠6
 Ks:K≤sent∧(K=0∨K+3≤b.length)
theorem PW.frB{sent to n0:Nat}{τ τ':Nat→Nat}{H H':AHeap}{ow mb:Nat}{out kept:AVal}{b:Bs}{K:Nat}(P:PW sent n0 τ H ow mb out kept b K)(f:FrS kB τ H τ' H')(k5:Blk kept (τ ·=5))(t3:τ mb=3)(t1:τ' ow=1)(r:Row H' ow (dC to out kept K (.map (some mb))))(tz:∀c,H'.next≤c→τ' c=0):PW to n0 τ' H' ow mb out kept b K∧Blk kept (τ' ·=5):=by
 have o1:=P.own
 have o2:=P.mbn
 have o3:=P.n0n
 have fn:=f.1
 have kb:Blk kept fun c=>(c<H.next∧(τ c<100∧τ c≠6)∧c≠mb∧c≠ow)∧τ c=5:=P.kb.and k5
 have kk:Blk kept fun c=>H'.get c=H.get c∧τ' c=5∧c<H.next∧c≠mb∧c≠ow:=kb.mono fun c hc=>by
  obtain⟨e1,e2⟩:=f.2 c hc.1.1
  exact⟨e2 (by unfold kB; omega),e1.trans hc.2,hc.1.1,hc.1.2.2.1,hc.1.2.2.2⟩
 refine⟨⟨r,P.kp.same fn (kk.mono fun c hc=>hc.1),kk.mono fun c hc=>⟨om,⟨om,om⟩,hc.2.2.2.1,hc.2.2.2.2⟩,?_,o1,o2,P.ne,om,om,tz⟩,kk.mono fun c hc=>hc.2.1⟩
 obtain⟨es,h1,h2⟩:=MR.iff.1 P.map
 refine MR.iff.2 ⟨es,((f.2 mb om).2 (by rw[t3]; unfold kB; omega)).trans h1,h2.same fn fun c hc ht=>?_⟩
 obtain⟨e1,e2⟩:=f.2 c hc
 exact⟨e2 (by unfold kB; omega),e1⟩
theorem block_spec{n0:Nat}{τ:Nat→Nat}{H:AHeap}{ow o mb:Nat}{kept:AVal}{b:Bs}{sent K:Nat}{M:List Bool}{pl to:Nat}(D:DB n0 τ H ow o mb kept b sent K M pl)(last:Bool)(hst:sent≤to)(hto:to≤b.length)(hlong:to-sent≤4096)(hb:b.length≤20000)(hpl:pl≤300000)(hMl:M.length≤300000) :
  ACalls Tryz.prog natT 62 [cellR ow 9 0,.int .i64 (to:Int),.bool last] H fun _ H'=>∃τ' K',DB n0 τ' H' ow o mb kept b to K' (M++blkB (lastN last) M.length b sent to) (pl+(blkB (lastN last) M.length b sent to).length)∧FrS (fun k=>k≠0∧k≠7) τ H τ' H':=by
 have o1:=D.pw.own
 have o2:=D.pw.mbn
 have o3:=D.pw.n0n
 have t1:=D.t1
 have t3:=D.t3
 have main:∀(ln:Nat),ln≤1→∀(T2:Env) (H2:AHeap) (τ2:Nat→Nat) (K2 q:Nat),T2 0=cellR ow 9 0→T2 1=.int .i64 (to:Int)→T2 6=cellR q 2 0→PW sent n0 τ2 H2 ow mb (cellR o 3 0) kept b K2→(K2≤to∧(K2=0∨K2+3≤b.length))→FM τ2 H2 (T2 7) ([(ln,1),(1,2)]++(toks b sent to).flatMap tokFl)→Row H2 q (fldC (ln,1))→τ2 q=0→n0≤q→q<H2.next→(∀c,c<n0→τ2 c≠6)→(∀c,c<H.next→τ2 c=τ c∧(c≠mb→c≠ow→τ c<100→τ c≠6→H2.get c=H.get c))→H.next≤H2.next →
   wp (ACalls Tryz.prog natT) (hold (restP restB c62.body)) (fin c62.res fun _ H'=>∃τ' K',DB n0 τ' H' ow o mb kept b to K' (M++blkB ln M.length b sent to) (pl+(blkB ln M.length b sent to).length)∧FrS (fun k=>k≠0∧k≠7) τ H τ' H') T2 H2:=by
  intro ln hln T2 H2 τ2 K2 q g0 g1 g6 P2 hK2 F2 R2 tq hq hq2 h62 fr hn
  have f2:FrS (fun k=>k≠0∧k≠7) τ H τ2 H2:=⟨hn,fun c hc=>⟨(fr c hc).1,fun h=>by
   have h0:τ c=0∨τ c=7:=om
   exact (fr c hc).2 (by rintro rfl; omega) (by rintro rfl; omega) om om⟩⟩
  have kb:Blk kept fun c=>c<H.next∧τ c=5:=(D.pw.kb.mono fun c hc=>hc.1).and D.k5
  have k52:Blk kept (τ2 ·=5):=kb.mono fun c hc=>(fr c hc.1).1.trans hc.2
  have t12:τ2 ow=1:=(fr _ om).1.trans t1
  have t32:τ2 mb=3:=(fr _ om).1.trans t3
  have B:BR sent ln τ2 H2 ow o K2 q (.map (some mb)) kept b:=⟨P2.row,t12,om,P2.kp,k52,R2,tq,hq2⟩
  have W2:OW H2.next τ2 H2 o M pl:=D.w.fr hn rL hn P2.tz (fun c hc _=>(fr c hc).1) fun c hc hk=>(fr c hc).2 (by rintro rfl; unfold k2 at hk; omega) (by rintro rfl; unfold k2 at hk; omega) (by unfold k2 at hk; omega) (by unfold k2 at hk; omega)
  refine block_rest hln hst hto hlong hpl hMl g0 g1 g6 B W2 F2 hb fun w H3 τ3 W3 r3 t13 o33 f3=>?_
  obtain⟨P3,k53⟩:=P2.frB f3 k52 t32 t13 r3 W3.tz
  have n2:=P2.n0n
  exact⟨τ3,K2,⟨P3,W3,k53,t13,(f3.2 _ om).1.trans t32,fun c hc=>by rw[(f3.2 c om).1]; exact h62 c hc,hK2⟩,f2.trans (f3.wide fun k hk=>by unfold kB at hk; omega)⟩
 cases last with
 | true=>exact block_preT D.pw D.Ks.1 D.Ks.2 hst hto hlong D.h6 hb _ (main 1 om)
 | false=>exact block_preF D.pw D.Ks.1 D.Ks.2 hst hto hlong D.h6 hb _ (main 0 om)
theorem pack_take{M:List Bool}{w:Nat}(h:8*w≤M.length):(pack M).take w=pack (M.take (8*w)):=by
 apply List.ext_getElem?
 intro j
 have hl:(M.take (8*w)).length=8*w:=by rw[List.length_take]; omega
 by_cases hj:j<w
 ·rw[List.getElem?_take_of_lt hj,pack_get om,pack_get om]
  unfold byteAt
  rw[List.drop_take,List.take_take,show min 8 (8*w-8*j)=8 by omega]
 ·rw[List.getElem?_eq_none (by rw[List.length_take]; omega),List.getElem?_eq_none (by rw[pack_len]; omega)]
theorem pack_drop{M:List Bool}{w:Nat}(h:8*w≤M.length):(pack M).drop w=pack (M.drop (8*w)):=by
 apply List.ext_getElem?
 intro j
 have hl:(M.drop (8*w)).length=M.length-8*w:=by rw[List.length_drop]
 rw[List.getElem?_drop]
 by_cases hj:w+j<(M.length+7) / 8
 ·rw[pack_get hj,pack_get om]
  unfold byteAt
  rw[List.drop_drop,show 8*w+8*j=8*(w+j) by omega]
 ·rw[List.getElem?_eq_none (by rw[pack_len]; omega),List.getElem?_eq_none (by rw[pack_len]; omega)]
def FT(τ:Nat→Nat)(H:AHeap)(τ':Nat→Nat)(H':AHeap):Prop:=H.next≤H'.next∧∀c,c<H.next→(τ c≠4→τ' c=τ c)∧(τ c=4→τ' c=4∨τ' c=7)∧(¬k2 (τ c)→H'.get c=H.get c)
theorem take_spec{τ:Nat→Nat}{H:AHeap}{o:Nat}{M:List Bool}{pl:Nat}(h:OW H.next τ H o M pl)(hb:M.length≤1000000) :
  ACalls Tryz.prog natT 64 [cellR o 3 0] H fun w H'=>Cel H'.next H' w (u8s (pack (M.take (8*(M.length / 8)))))∧∃τ',Blk w (τ' ·=7)∧OW H'.next τ' H' o (M.drop (8*(M.length / 8))) pl∧FT τ H τ' H':=by
 have hOW:=h
 obtain⟨vb,h1,h2,h3,h4,h5,h6,h7,h8⟩:=h
 obtain⟨k,hk⟩:∃k,k=(pack M).length:=⟨_,rfl⟩
 have hkl:k=(M.length+7) / 8:=by rw[hk,pack_len]
 have hul:(u8s (pack M)).length=k:=by rw[hk]; simp[u8s]
 rw[← hk]at h6
 obtain⟨w,hw⟩:∃w,w=M.length / 8:=⟨_,rfl⟩
 rw[← hw]
 refine acalls_ofN rfl za64 rfl ?_
 have l0:oLoad false 1 H (cellR o 3 0)=some (.bool true):=row_load h1 rfl rfl
 have l1:oLoad false 1 H (cellR o 3 1)=some vb:=row_load h1 rfl rfl
 have hlen:aLenK false vb=some (.int .i64 (k:Int)):=h6.len
 have hw8:8*w≤M.length:=om
 have ud:(u8s (pack M)).drop w=u8s (pack (M.drop (8*w))):=by rw[← pack_drop hw8]; simp only[u8s,List.map_drop]
 have ut:(u8s (pack M)).take w=u8s (pack (M.take (8*w))):=by rw[← pack_take hw8]; simp only[u8s,List.map_take]
 have hdl:(M.drop (8*w)).length=M.length-8*w:=List.length_drop
 have hudl:(u8s (pack (M.drop (8*w)))).length=k-w:=by rw[← ud,List.length_drop,hul]
 have big:0<w→∃s' s2 v2 H2 H3,aSl 1 vb none (some (.int .i64 (w:Int))) (some (.int .i64 (w:Int)))=some s'∧aSl 1 vb (some (.int .i64 (w:Int))) none none=some s2∧aAppend 1 1 H (.slice none 0 (.known 0)) s2=some (v2,H2)∧oStore 1 H2 (cellR o 3 1) v2=some H3 ∧
   Cel H3.next H3 s' (u8s (pack (M.take (8*w))))∧∃τ',Blk s' (τ' ·=7)∧OW H3.next τ' H3 o (M.drop (8*w)) pl∧FT τ H τ' H3:=by
  intro hw0
  obtain⟨s',m1,C1,B1⟩:=h6.take3 (show w≤k by omega) hw0
  obtain⟨s2,m2,C2,B2⟩:=h6.from_ (show w≤k by omega)
  rw[ut]at C1
  rw[ud]at C2
  have hs2:=C2.src
  rw[hudl]at hs2
  obtain⟨v2,H2,m3,A2,n2,b2,o2⟩:=(AppN.nil 1 0 H).many hs2 (by rw[hudl]; omega) (ones_u8 _) om (bytes:=1) om om
  have vb2:Blk v2 (H.next≤·):=(b2 (fun _=>False) (blk_nil _)).mono fun b hb=>hb.resolve_left id
  have r2:Row H2 o [.bool true,vb,.int .i64 (pl:Int)]:=h1.same (o2 o h2 (blk_nil _))
  obtain⟨H3,m4,r3,k3,o3⟩:=row_st r2 (n:=3) rfl (i:=1) om (x:=v2) (app_one A2) rfl
  have gone:∀c,c<H.next→c≠o→H3.get c=H.get c:=fun c hc hne=>(o3 c hne).trans (o2 c hc (blk_nil _))
  refine⟨s',s2,v2,H2,H3,m1,m2,m3,m4,?_,fun c=>if c<H.next then (if τ c=4 then 7 else τ c) else if c<H2.next then 4 else 0,?_,?_,?_⟩
  ·exact cel_same C1 om ((B1 _ h7).mono fun b hb=>gone b hb.1 (by rintro rfl; omega))
  ·exact (B1 _ h7).mono fun b hb=>by simp only[if_pos hb.1,if_pos hb.2]
  ·have A3:=A2.same (H':=H3) om (vb2.mono fun c hc=>o3 c om)
   rw[List.nil_append,Nat.zero_add]at A3
   have bb:=vb2.and A2.blk'
   have e7:(pack (M.drop (8*w))).length=k-w:=by rw[← hudl]; simp[u8s]
   refine⟨v2,r3,om,Nat.le_refl _,?_,fun c hc=>?_,by rw[e7]; exact A3,bb.mono fun c hc=>⟨om,?_⟩,by rw[hdl]; omega⟩
   ·simp only[if_pos h2,h4,show ¬(2:Nat)=4 by omega,if_false]
   ·simp only[if_neg (show ¬c<H.next by omega),if_neg (show ¬c<H2.next by omega)]
   ·simp only[if_neg (show ¬c<H.next by omega),if_pos (show c<H2.next by omega)]
  ·refine⟨om,fun c hc=>⟨fun h=>by simp only[if_pos hc,if_neg h],fun h=>.inr (by simp only[if_pos hc,if_pos h]),fun h=>gone c hc (by rintro rfl; exact h (.inl h4))⟩⟩
 have none:w=0→Cel H.next H nilS (u8s (pack (M.take (8*w))))∧∃τ',Blk nilS (τ' ·=7)∧OW H.next τ' H o (M.drop (8*w)) pl∧FT τ H τ' H:=by
  intro h0
  rw[h0]
  exact⟨.inl ⟨rfl,by simp[u8s,pack]⟩,τ,blk_nil _,hOW,Nat.le_refl _,fun c _=>⟨fun _=>rfl,fun h=>.inl h,fun _=>rfl⟩⟩
 simp only[c64,sA,sB,seval,eq_ptr_nil,nil_cell,fldA,l0,l1,hlen]
 refine (inside_spec h1).mono ?_
 rintro _ _ ⟨rfl,rfl⟩
 by_cases hp:pl % 8=0
 ·have hkw:k=w:=om
  rw[hp]
  by_cases hw0:w=0
  ·have ek:(k:Int)=0:=om
   simp only[sA,sB,seval,Int.natCast_zero,ek]
   exact none hw0
  ·have ek:¬(k:Int)=0:=om
   obtain⟨s',s2,v2,H2,H3,m1,m2,m3,m4,q⟩:=big om
   rw[← hkw]at m1 m2
   simp only[sA,sB,seval,Int.natCast_zero,ek,nil_cell,fldA,l1,m1,m2,m3,m4]
   exact q
 ·have hkw:k=w+1:=om
  have ep:¬((pl % 8:Nat):Int)=0:=om
  have ws:IntKind.i64.wrap ((k:Int)-1)=(w:Int):=w64
  by_cases hw0:w=0
  ·have ek:(w:Int)=0:=om
   simp only[sA,sB,seval,ep,ws,ek]
   exact none hw0
  ·have ek:¬(w:Int)=0:=om
   obtain⟨s',s2,v2,H2,H3,m1,m2,m3,m4,q⟩:=big om
   simp only[sA,sB,seval,ep,ws,ek,nil_cell,fldA,l1,m1,m2,m3,m4]
   exact q
theorem k3_app{b p:Bs}{i:Nat}(h:i+3≤b.length):k3 (b++p) i=k3 b i:=by
 have e:∀j,j<b.length→(b++p).getD j 0=b.getD j 0:=fun j hj=>by rw[List.getD_eq_getElem?_getD,List.getD_eq_getElem?_getD,List.getElem?_append_left hj]
 simp only[k3,e i om,e (i+1) om,e (i+2) om]
theorem posL_app{b p:Bs}{k:List Nat}:∀{K:Nat},(K=0∨K+2≤b.length)→posL (b++p) k K=posL b k K
 | 0,_=>rfl
 | K+1,h=>by
  unfold posL
  rw[k3_app om,posL_app (K:=K) om]
theorem MR.app{n0:Nat}{τ:Nat→Nat}{H:AHeap}{mb:Nat}{b:Bs}{K:Nat}(h:MR n0 τ H mb b K)(p:Bs)(hK:K=0∨K+3≤b.length):MR n0 τ H mb (b++p) K:=by
 have e:∀k,posL (b++p) k K=posL b k K:=fun k=>posL_app om
 obtain⟨es,h1,h2,h3,h4⟩:=h
 refine⟨es,h1,fun i x hx=>?_,h3,fun k hk=>h4 k (by rwa [e]at hk)⟩
 obtain⟨q1,k,q2,q3,q4,q5⟩:=h2 i x hx
 exact⟨q1,k,q2,q3,by rw[e]; exact q4,q5⟩
theorem blkB_len(ln m:Nat){b:Bs}{sent to:Nat}(hst:sent≤to)(hto:to≤b.length):(blkB ln m b sent to).length≤42+8*(to-sent):=by
 have hf:fillN (m+3)≤7:=by unfold fillN; omega
 have hsl:=segB_len hst hto
 unfold blkB
 split
 ·rw[lA,← wideF_bits]
  have:wideF (byFl (segB b sent to))=8*(to-sent):=by
   rw[← hsl,byFl]
   generalize segB b sent to=l
   induction l with
   | nil=>rfl
   | cons x l ih=>simp only[wideF,List.map_cons,List.sum_cons,List.length_cons]at ih ⊢; omega
  simp only[stoH,lA,bitsN_len,List.length_replicate]; omega
 ·rw[← wideF_bits]; omega
inductive Blks:Nat→Bs→List Bool→Bs→Prop where
 | nil (t:Nat) (c:Bs):Blks t c [] c
 | more {t:Nat} {c c':Bs} {X:List Bool} {b:Bs} {sent to:Nat} (h:Blks t c X c') (e:c'=b.take sent) (h1:sent≤to) (h2:to≤b.length) (h3:b.length≤20000):Blks t c (X++blkB 0 (t+X.length) b sent to) (b.take to)
def FW(τ:Nat→Nat)(H:AHeap)(τ':Nat→Nat)(H':AHeap):Prop:=H.next≤H'.next∧∀c,c<H.next→(τ c=0∨τ c=7)→τ' c=τ c∧H'.get c=H.get c
theorem FW.refl(τ:Nat→Nat)(H:AHeap):FW τ H τ H:=⟨Nat.le_refl _,fun _ _ _=>⟨rfl,rfl⟩⟩
theorem FW.trans{τ τ' τ'':Nat→Nat}{H H' H'':AHeap}(h:FW τ H τ' H')(k:FW τ' H' τ'' H''):FW τ H τ'' H'':=
 ⟨Nat.le_trans h.1 k.1,fun c hc ht=>by
  obtain⟨e1,e2⟩:=h.2 c hc ht
  obtain⟨e3,e4⟩:=k.2 c (Nat.lt_of_lt_of_le hc h.1) (by rw[e1]; exact ht)
  exact⟨e3.trans e1,e4.trans e2⟩⟩
theorem FW.of_fr{S:Nat→Prop}{τ τ':Nat→Nat}{H H':AHeap}(f:FrS S τ H τ' H')(h0:¬S 0)(h7:¬S 7):FW τ H τ' H':=
 ⟨f.1,fun c hc ht=>⟨(f.2 c hc).1,(f.2 c hc).2 (by rcases ht with e | e <;> rw[e] <;> assumption)⟩⟩
theorem FW.of_ft{τ τ':Nat→Nat}{H H':AHeap}(f:FT τ H τ' H'):FW τ H τ' H':=
 ⟨f.1,fun c hc ht=>⟨(f.2 c hc).1 om,(f.2 c hc).2.2 (by unfold k2; omega)⟩⟩
theorem DB.take{n0:Nat}{τ τ':Nat→Nat}{H H':AHeap}{ow o mb:Nat}{kept:AVal}{b:Bs}{sent K:Nat}{M M':List Bool}{pl:Nat}(D:DB n0 τ H ow o mb kept b sent K M pl)(w:OW H'.next τ' H' o M' pl)(f:FT τ H τ' H'):DB n0 τ' H' ow o mb kept b sent K M' pl:=by
 have P:=D.pw
 have o1:=P.own
 have o2:=P.mbn
 have o3:=P.n0n
 have t1:=D.t1
 have t3:=D.t3
 have fn:=f.1
 have kb:Blk kept fun c=>(c<H.next∧(τ c<100∧τ c≠6)∧c≠mb∧c≠ow)∧τ c=5:=P.kb.and D.k5
 have kk:Blk kept fun c=>H'.get c=H.get c∧τ' c=5∧c<H.next∧c≠mb∧c≠ow:=kb.mono fun c hc=>by
  obtain⟨e1,_,e3⟩:=f.2 c hc.1.1
  exact⟨e3 (by unfold k2; omega),(e1 om).trans hc.2,hc.1.1,hc.1.2.2.1,hc.1.2.2.2⟩
 have eow:τ' ow=1:=((f.2 ow om).1 om).trans t1
 refine⟨⟨P.row.same ((f.2 ow om).2.2 (by rw[t1]; unfold k2; omega)),P.kp.same fn (kk.mono fun c hc=>hc.1),kk.mono fun c hc=>⟨om,⟨om,om⟩,hc.2.2.2.1,hc.2.2.2.2⟩,?_,o1,o2,P.ne,om,om,w.tz⟩,w,kk.mono fun c hc=>hc.2.1,eow,((f.2 mb om).1 om).trans t3,fun c hc=>?_,D.Ks⟩
 ·obtain⟨es,h1,h2⟩:=MR.iff.1 P.map
  refine MR.iff.2 ⟨es,((f.2 mb om).2.2 (by rw[t3]; unfold k2; omega)).trans h1,h2.same fn fun c hc ht=>?_⟩
  obtain⟨e1,_,e3⟩:=f.2 c hc
  exact⟨e3 (by unfold k2; omega),e1 om⟩
 ·have:=D.h6 c hc
  obtain⟨e1,e2,_⟩:=f.2 c om
  by_cases h4:τ c=4
  ·rcases e2 h4 with e | e <;> omega
  ·rw[e1 h4]; exact this
theorem DB.push{n0:Nat}{τ:Nat→Nat}{H H2:AHeap}{ow o mb:Nat}{kept s:AVal}{b p:Bs}{sent K:Nat}{M:List Bool}{pl:Nat}(D:DB n0 τ H ow o mb kept b sent K M pl)(r2:Row H2 ow (dC sent (cellR o 3 0) s K (.map (some mb))))(A2:AppN 1 0 H2 s (byts (b++p)) (b++p).length)
  (f2:FrS (fun k=>k=1∨k=5) τ H (upT τ H H2 5) H2) (sb:Blk s fun c=>upT τ H H2 5 c=5∧c<H2.next∧c≠mb∧c≠ow):DB n0 (upT τ H H2 5) H2 ow o mb s (b++p) sent K M pl:=by
 have P:=D.pw
 have o1:=P.own
 have o2:=P.mbn
 have o3:=P.n0n
 have fn:=f2.1
 have z2:∀c,H2.next≤c→upT τ H H2 5 c=0:=fun c hc=>upT_z fn hc
 refine⟨⟨r2,A2,sb.mono fun c hc=>⟨hc.2.1,⟨om,om⟩,hc.2.2.1,hc.2.2.2⟩,?_,o1,o2,P.ne,by rw[upT_old om]; exact P.tow,om,z2⟩,D.w.frS f2 om om z2,sb.mono fun c hc=>hc.1,by rw[upT_old om]; exact D.t1,by rw[upT_old om]; exact D.t3,fun c hc=>by rw[upT_old om]; exact D.h6 c hc,⟨D.Ks.1,by have:=D.Ks.2; rw[lA]; omega⟩⟩
 refine MR.app ?_ p D.Ks.2
 obtain⟨es,h1,h2⟩:=MR.iff.1 P.map
 have t3:=D.t3
 refine MR.iff.2 ⟨es,((f2.2 mb om).2 om).trans h1,h2.same fn fun c hc ht=>?_⟩
 obtain⟨e1,e2⟩:=f2.2 c hc
 exact⟨e2 om,e1⟩
theorem dwrite_spec{n n0:Nat}{τ:Nat→Nat}{H:AHeap}{ow o mb:Nat}{kept bv:AVal}{b p:Bs}{sent K:Nat}{M:List Bool}{pl:Nat}(D:DB n0 τ H ow o mb kept b sent K M pl)(hp:Cel n H bv (byts p))(hl:b.length+p.length≤20000)(hs:sent≤b.length)(hpl:pl≤9*sent)(hM:M.length≤pl) :
  ACalls Tryz.prog natT 41 [cellR ow 9 0,bv] H fun w H'=>∃s X sent' pl' M' T,w=.tuple [s,.int .i64 0]∧Cel H'.next H' s (u8s (pack T))∧T++M'=M++X∧T.length % 8=0∧M'.length<8∧pl'=pl+X.length∧sent≤sent'∧sent'≤(b++p).length∧(b++p).length-sent'≤4096∧pl'≤9*sent'∧Blks M.length (b.take sent) X ((b++p).take sent')∧∃τ' K' kept',DB n0 τ' H' ow o mb kept' (b++p) sent' K' M' pl'∧Blk s (τ' ·=7)∧FW τ H τ' H'∧((b++p).length-sent≤4096→sent'=sent∧X=[]):=by
 refine acalls_ofN rfl za41 rfl ?_
 have P:=D.pw
 obtain⟨s,H1,m1,A1,n1,b1,o1⟩:=app_bytes P.kp (src_cel hp) om
 have l0:oLoad false 1 H (cellR ow 9 0)=some (.bool true):=row_load P.row rfl rfl
 have l1:oLoad false 1 H (cellR ow 9 1)=some (.bool false):=row_load P.row rfl rfl
 have l3:oLoad false 1 H (cellR ow 9 3)=some kept:=row_load P.row rfl rfl
 have t1:=D.t1
 have t3:=D.t3
 have o9:=P.own
 have omb:=P.mbn
 have o3:=P.n0n
 have kb:Blk kept fun c=>c<H.next∧τ c=5:=(P.kb.mono fun c hc=>hc.1).and D.k5
 have row1:Row H1 ow (dC sent (cellR o 3 0) kept K (.map (some mb))):=P.row.same (o1 ow om (kb.mono fun c hc=>by rintro rfl; omega))
 have s1:s.one=true:=app_one A1
 obtain⟨H2,m2,r2,k2',q2⟩:=row_st row1 (n:=9) rfl (i:=3) om (x:=s) s1 (l':=dC sent (cellR o 3 0) s K (.map (some mb))) rfl
 have f2:FrS (fun k=>k=1∨k=5) τ H (upT τ H H2 5) H2:=⟨om,fun c hc=>⟨upT_old hc,fun h=>by rw[q2 c (by rintro rfl; exact h (.inl t1)),o1 c hc (kb.mono fun d hd=>by rintro rfl; exact h (.inr hd.2))]⟩⟩
 have sb:Blk s fun c=>upT τ H H2 5 c=5∧c<H2.next∧c≠mb∧c≠ow:=((b1 _ kb).and A1.blk').mono fun c hc=>by
  rcases hc.1 with h | h
  ·exact⟨by rw[upT_old h.1]; exact h.2,om,by rintro rfl; omega,by rintro rfl; omega⟩
  ·exact⟨upT_new h om,om,om,om⟩
 have A2:AppN 1 0 H2 s (byts (b++p)) (b++p).length:=A1.same om (sb.mono fun c hc=>q2 c hc.2.2.2)
 have D2:=D.push r2 A2 f2 sb
 have fw2:FW τ H (upT τ H H2 5) H2:=FW.of_fr f2 om om
 have hbl:(b++p).length=b.length+p.length:=lA
 have hts:(b++p).take sent=b.take sent:=by rw[List.take_append_of_le_length hs]
 simp only[c41,sA,sB,seval,eq_ptr_nil,nil_cell,fldA,fld0,l0,l1,l3,m1,m2]
 obtain⟨τ2,hτ2⟩:∃t,t=upT τ H H2 5:=⟨_,rfl⟩
 rw[← hτ2]at D2 fw2
 obtain⟨bb,hbb⟩:∃l,l=b++p:=⟨_,rfl⟩
 rw[← hbb]at D2 A2 hbl hts ⊢
 refine aw_loop (fun m (T:Env) H'=>∃τ' K' sent' pl' M' X,m=bb.length-sent'∧T 0=cellR ow 9 0∧DB n0 τ' H' ow o mb s bb sent' K' M' pl'∧M'=M++X∧pl'=pl+X.length∧sent≤sent'∧sent'≤bb.length∧pl'≤9*sent'∧Blks M.length (b.take sent) X (bb.take sent')∧FW τ2 H2 τ' H'∧(bb.length-sent≤4096→sent'=sent∧X=[])) (bb.length-sent)
  ⟨τ2,K,sent,pl,M,[],rfl,by simp only[sA,sB,seval],D2,by simp,by simp,Nat.le_refl _,om,hpl,by rw[hts]; exact Blks.nil _ _,FW.refl _ _,fun _=>⟨rfl,rfl⟩⟩ ?_
 rintro m T H' ⟨τ',K',sent',pl',M',X,rfl,g0,D',rfl,rfl,hss,hsl,hpl',hB,fw,sm⟩
 have P':=D'.pw
 have l42:oLoad false 1 H' (cellR ow 9 4)=some (.int .i64 0):=row_load P'.row rfl rfl
 have l52:oLoad false 1 H' (cellR ow 9 5)=some (.int .i64 (sent':Int)):=row_load P'.row rfl rfl
 have l32:oLoad false 1 H' (cellR ow 9 3)=some s:=row_load P'.row rfl rfl
 have l22:oLoad false 1 H' (cellR ow 9 2)=some (cellR o 3 0):=row_load P'.row rfl rfl
 have hlen:=P'.kp.len
 have wl:IntKind.i64.wrap (bb.length:Int)=(bb.length:Int):=wrap64 om om
 have e0:0+(bb.length:Int)=(bb.length:Int):=om
 have e1:IntKind.i64.wrap ((bb.length:Int)-(sent':Int))=((bb.length-sent':Nat):Int):=w64
 by_cases hgt:4096<bb.length-sent'
 ·have hgt':4096<((bb.length-sent':Nat):Int):=om
  have e2:IntKind.i64.wrap ((sent':Int)+4096)=((sent'+4096:Nat):Int):=wrapN sent' 4096 om
  simp only[sA,sB,seval,g0,nil_cell,fldA,fld0,l42,l32,l52,hlen,e0,wl,e1,hgt',e2]
  refine (block_spec D' false (to:=sent'+4096) om om om om om (by rw[lA]; omega)).mono ?_
  rintro _ H4 ⟨τ4,K4,D4,f4⟩
  have hb:=blkB_len (lastN false) (M++X).length (b:=bb) (sent:=sent') (to:=sent'+4096) om om
  have hB2:=Blks.more (to:=sent'+4096) hB rfl om om om
  have el:M.length+X.length=(M++X).length:=by rw[lA]
  rw[el]at hB2
  simp only[sA,sB,seval,g0]
  refine⟨_,?_,τ4,K4,sent'+4096,_,_,X++blkB (lastN false) (M++X).length bb sent' (sent'+4096),rfl,tt,D4,by rw[List.append_assoc],by simp only[lA]; omega,om,om,om,hB2,fw.trans (FW.of_fr f4 om om),fun h=>om⟩
  omega
 ·have hgt':¬4096<((bb.length-sent':Nat):Int):=om
  simp only[sA,sB,seval,g0,nil_cell,fldA,fld0,l42,l32,l52,hlen,e0,wl,e1,hgt']
  refine (trim_spec P'.row om).mono ?_
  rintro w _ rfl
  simp only[sA,sB,seval,g0,nil_cell,fldA,fld0,l22]
  refine (take_spec D'.w (by rw[lA]; omega)).mono ?_
  rintro sv H4 ⟨C4,τ4,B4,W4,f4⟩
  simp only[sA,sB,seval]
  refine⟨sv,X,sent',_,_,_,tt,C4,List.take_append_drop _ _,by rw[List.length_take]; omega,by rw[List.length_drop]; omega,rfl,hss,hsl,om,hpl',hB,τ4,K',s,D'.take W4 f4,B4,fw2.trans (fw.trans (FW.of_ft f4)),sm⟩
def endX(m:Nat)(b:Bs)(sent:Nat):List Bool:=blkB 1 m b sent b.length++List.replicate (fillN (m+(blkB 1 m b sent b.length).length)) false
theorem dend_spec{n0:Nat}{τ:Nat→Nat}{H:AHeap}{ow o mb:Nat}{kept:AVal}{b:Bs}{sent K:Nat}{M:List Bool}{pl:Nat}(D:DB n0 τ H ow o mb kept b sent K M pl)(hl:b.length≤20000)(hs:sent≤b.length)(hlong:b.length-sent≤4096)(hpl:pl≤9*sent)(hM:M.length<8) :
  ACalls Tryz.prog natT 44 [cellR ow 9 0] H fun w H'=>∃s,w=.tuple [s,.int .i64 0]∧Cel H'.next H' s (u8s (pack (M++endX M.length b sent)))∧∃τ',Blk s (τ' ·=7)∧FW τ H τ' H':=by
 refine acalls_ofN rfl za44 rfl ?_
 have P:=D.pw
 have l0:oLoad false 1 H (cellR ow 9 0)=some (.bool true):=row_load P.row rfl rfl
 have l1:oLoad false 1 H (cellR ow 9 1)=some (.bool false):=row_load P.row rfl rfl
 have l3:oLoad false 1 H (cellR ow 9 3)=some kept:=row_load P.row rfl rfl
 have l4:oLoad false 1 H (cellR ow 9 4)=some (.int .i64 0):=row_load P.row rfl rfl
 have hlen:=P.kp.len
 have e0:0+(b.length:Int)=(b.length:Int):=om
 have wl:IntKind.i64.wrap (b.length:Int)=(b.length:Int):=wrap64 om om
 simp only[c44,sA,sB,seval,eq_ptr_nil,nil_cell,fldA,fld0,l0,l1,l3,l4,hlen,e0,wl]
 refine (block_spec D true hs rL hlong hl om om).mono ?_
 rintro w H1 ⟨τ1,K1,D1,f1⟩
 have hb:=blkB_len (lastN true) M.length (b:=b) (sent:=sent) (to:=b.length) hs rL
 have P1:=D1.pw
 have t1:=D1.t1
 have l2:oLoad false 1 H1 (cellR ow 9 2)=some (cellR o 3 0):=row_load P1.row rfl rfl
 have o1:=P1.own
 have o3:=P1.n0n
 simp only[sA,sB,seval,nil_cell,fldA,fld0,l2]
 refine (align_spec D1.w om (by rw[lA]; omega)).mono ?_
 rintro _ H2 ⟨rfl,τ2,W2,f2⟩
 have r2:Row H2 ow (dC b.length (cellR o 3 0) kept K1 (.map (some mb))):=P1.row.same ((f2.2 ow om).2 (by rw[t1]; unfold k2; omega))
 have t2:τ2 ow=1:=(f2.2 ow om).1.trans t1
 have n2:=f2.1
 obtain⟨H3,m3,r3,k3,q3⟩:=row_st r2 (n:=9) rfl (i:=1) om (x:=.bool true) rfl rfl
 obtain⟨H4,m4,r4,k4,q4⟩:=row_st r3 (n:=9) rfl (i:=3) dD (x:=.slice none 0 (.known 0)) rfl rfl
 obtain⟨H5,m5,r5,k5,q5⟩:=row_st r4 (n:=9) rfl (i:=7) dD (x:=.map none) rfl rfl
 have f5:FrS (fun k=>k=1) τ2 H2 τ2 H5:=⟨om,fun c hc=>⟨rfl,fun h=>by
  have hne:c≠ow:=by rintro rfl; exact h t2
  rw[q5 c hne,q4 c hne,q3 c hne]⟩⟩
 have W5:=W2.frS f5 om om fun c hc=>W2.tz c om
 have l25:oLoad false 1 H5 (cellR ow 9 2)=some (cellR o 3 0):=row_load r5 rfl rfl
 have eM:M++blkB (lastN true) M.length b sent b.length++List.replicate (fillN (M++blkB (lastN true) M.length b sent b.length).length) false=M++endX M.length b sent:=by
  simp only[endX,List.append_assoc,lA]; rfl
 rw[eM]at W5
 have h8:(M++endX M.length b sent).length % 8=0:=by
  rw[← eM,lA,List.length_replicate]; exact fill_ok _
 have hle:(M++endX M.length b sent).length≤100000:=by
  rw[← eM,lA,List.length_replicate,lA]; unfold fillN; omega
 simp only[sA,sB,seval,nil_cell,fldA,fld0,m3,m4,m5,l25]
 refine (take_spec W5 om).mono ?_
 rintro s H6 ⟨C6,τ6,B6,_,f6⟩
 rw[List.take_of_length_le om]at C6
 simp only[sA,sB,seval]
 refine⟨s,tt,C6,τ6,B6,(FW.of_fr f1 om om).trans ((FW.of_fr f2 (by unfold k2; omega) (by unfold k2; omega)).trans ((FW.of_fr f5 om om).trans (FW.of_ft f6)))⟩
def bitsB(d:Bs):List Bool:=d.flatMap fun x=>bitsN x.toNat 8
theorem bitsB_len(d:Bs):(bitsB d).length=8*d.length:=by
 induction d with
 | nil=>rfl
 | cons x d ih=>simp only[bitsB,List.flatMap_cons,lA,bitsN_len,List.length_cons]at ih ⊢; omega
theorem bitsB_drop(d:Bs):∀j,(bitsB d).drop (8*j)=bitsB (d.drop j):=by
 induction d with
 | nil=>intro j; simp[bitsB]
 | cons x d ih=>
  intro j
  cases j with
  | zero=>simp
  | succ j=>
   simp only[bitsB,List.flatMap_cons,List.drop_succ_cons]at ih ⊢
   rw[← ih j,List.drop_append,List.drop_of_length_le (by rw[bitsN_len]; omega),bitsN_len,List.nil_append,show 8*(j+1)-8=8*j by omega]
theorem bitsN_drop(n:Nat):∀(k a:Nat),(bitsN n k).drop a=bitsN (n / 2 ^ a) (k-a):=by
 intro k a
 induction a generalizing n k with
 | zero=>simp
 | succ a ih=>
  cases k with
  | zero=>simp[bitsN]
  | succ k=>
   simp only[bitsN,List.drop_succ_cons,Nat.add_sub_add_right]
   rw[ih,Nat.div_div_eq_div_mul,Nat.pow_succ,Nat.mul_comm]
theorem bitsN_take(n:Nat):∀(k s:Nat),s≤k→(bitsN n k).take s=bitsN n s:=by
 intro k s
 induction s generalizing n k with
 | zero=>intro _; simp[bitsN]
 | succ s ih=>
  intro h
  cases k with
  | zero=>omega
  | succ k=>simp only[bitsN,List.take_succ_cons]; rw[ih _ _ om]
theorem bits_step{d:Bs}{q s:Nat}(h1:q % 8+s≤8)(h2:q / 8<d.length):natOf (((bitsB d).drop q).take s)=(d.getD (q / 8) 0).toNat / 2 ^ (q % 8) % 2 ^ s:=by
 have e:(bitsB d).drop q=(bitsB (d.drop (q / 8))).drop (q % 8):=by
  rw[← bitsB_drop,List.drop_drop,Nat.div_add_mod]
 have ed:d.drop (q / 8)=d.getD (q / 8) 0::d.drop (q / 8+1):=by
  rw[List.drop_eq_getElem_cons h2,List.getD_eq_getElem?_getD,List.getElem?_eq_getElem h2]; rfl
 rw[e,ed]
 simp only[bitsB,List.flatMap_cons]
 rw[List.drop_append,bitsN_len,show q % 8-8=0 by omega,List.drop_zero,List.take_append_of_le_length (by rw[List.length_drop,bitsN_len]; omega),bitsN_drop,bitsN_take _ _ _ om,natOf_take]
theorem take_more(l:List Bool)(a s:Nat):natOf (l.take (a+s))=natOf (l.take a)+2 ^ (l.take a).length*natOf ((l.drop a).take s):=by
 rw[List.take_add,natOf_append]
structure RD(H:AHeap)(i:Nat)(bv:AVal)(d:Bs)(p:Nat):Prop where
 row:Row H i [.bool true,bv,.int .i64 (p:Int)]
 cel:Cel H.next H bv (byts d)
 ne:Blk bv (·≠i)
 lt:i<H.next
 le:p≤8*d.length
theorem RD.same{H H':AHeap}{i:Nat}{bv:AVal}{d:Bs}{p:Nat}(h:RD H i bv d p)(hn:H.next≤H'.next)(e1:H'.get i=H.get i)(e2:Blk bv fun c=>H'.get c=H.get c):RD H' i bv d p:=
 ⟨h.row.same e1,cel_same h.cel hn e2,h.ne,Nat.lt_of_lt_of_le h.lt hn,h.le⟩
theorem RD.set{H:AHeap}{i:Nat}{bv:AVal}{d:Bs}{p:Nat}(h:RD H i bv d p)(q:Nat)(hq:q≤8*d.length):∃H',oStore 1 H (cellR i 3 2) (.int .i64 (q:Int))=some H'∧RD H' i bv d q∧H'.next=H.next∧∀c,c≠i→H'.get c=H.get c:=by
 obtain⟨H',m,r,k,o⟩:=row_st h.row (n:=3) rfl (i:=2) om (x:=.int .i64 (q:Int)) rfl rfl
 exact⟨H',m,⟨r,cel_same h.cel om (h.ne.mono fun c hc=>o c hc),h.ne,by have:=h.lt; omega,hq⟩,k,o⟩
theorem at_spec{H:AHeap}{i:Nat}{bv:AVal}{d:Bs}{p:Nat}(h:RD H i bv d p):ACalls Tryz.prog natT 90 [cellR i 3 0] H fun w H'=>w=.int .i64 (p:Int)∧H=H':=by
 refine acalls_ofN rfl za90 rfl ?_
 have l0:oLoad false 1 H (cellR i 3 0)=some (.bool true):=row_load h.row rfl rfl
 have l2:oLoad false 1 H (cellR i 3 2)=some (.int .i64 (p:Int)):=row_load h.row rfl rfl
 simp only[c90,sA,sB,seval,eq_ptr_nil,nil_cell,fldA,l0,l2]
 exact⟨tt,tt⟩
theorem and_low(a s:Nat):a &&& (2 ^ s-1)=a % 2 ^ s:=Nat.and_two_pow_sub_one_eq_mod a s
theorem or_high{n m g:Nat}(h:n<2 ^ g):n ||| m*2 ^ g=n+m*2 ^ g:=by
 rw[Nat.or_comm,Nat.mul_comm,← Nat.two_pow_add_eq_or_of_lt h]; omega
theorem rget_spec{H:AHeap}{i:Nat}{bv:AVal}{d:Bs}{p:Nat}(h:RD H i bv d p)(k:Nat)(hk:k≤32)(hd:d.length≤1000000) :
  ACalls Tryz.prog natT 119 [cellR i 3 0,.int .i64 (k:Int)] H fun w H'=>(p+k≤8*d.length∧w=.tuple [.int .u32 ((natOf (((bitsB d).drop p).take k):Nat):Int),.int .i64 0]∧RD H' i bv d (p+k)∧H'.next=H.next∧∀c,c≠i→H'.get c=H.get c)∨(8*d.length<p+k∧w=.tuple [.int .u32 0,.int .i64 12]∧H=H'):=by
 refine acalls_ofN rfl za119 rfl ?_
 have hp:=h.le
 have l0:oLoad false 1 H (cellR i 3 0)=some (.bool true):=row_load h.row rfl rfl
 have l1:oLoad false 1 H (cellR i 3 1)=some bv:=row_load h.row rfl rfl
 have l2:oLoad false 1 H (cellR i 3 2)=some (.int .i64 (p:Int)):=row_load h.row rfl rfl
 have hlen:=h.cel.len
 rw[byts_len]at hlen
 have k0:¬(k:Int)<0:=om
 have k1:¬32<(k:Int):=om
 have wm:IntKind.i64.wrap ((d.length:Int)*8)=((8*d.length:Nat):Int):=w64
 have ws:IntKind.i64.wrap (((8*d.length:Nat):Int)-(p:Int))=((8*d.length-p:Nat):Int):=w64
 by_cases hsh:8*d.length<p+k
 ·have hc:((8*d.length-p:Nat):Int)<(k:Int):=om
  simp only[c119,sA,sB,seval,eq_ptr_nil,nil_cell,fldA,l0,l1,l2,hlen,k0,k1,wm,ws,hc]
  exact .inr ⟨hsh,tt,tt⟩
 ·have hc:¬((8*d.length-p:Nat):Int)<(k:Int):=om
  simp only[c119,sA,sB,seval,eq_ptr_nil,nil_cell,fldA,l0,l1,l2,hlen,k0,k1,wm,ws,hc]
  refine aw_loop (fun m (T:Env) H'=>∃g:Nat,m=k-g∧g≤k∧T 0=cellR i 3 0∧T 1=.int .i64 (k:Int)∧T 5=.int .i64 0∧T 6=.int .u32 ((natOf (((bitsB d).drop p).take g):Nat):Int)∧T 7=.int .i64 (g:Int)∧RD H' i bv d (p+g)∧H'.next=H.next∧∀c,c≠i→H'.get c=H.get c) k
   ⟨0,rfl,Nat.zero_le _,by simp only[sA,sB,seval],by simp only[sA,sB,seval],by simp only[sA,sB,seval]; try rfl,by simp only[sA,sB,seval]; rfl,by simp only[sA,sB,seval]; try rfl,h,rfl,fun _ _=>rfl⟩ ?_
  rintro m T H' ⟨g,rfl,hg,g0,g1,g5,g6,g7,R,kn,fr⟩
  by_cases hlt:g<k
  ·have hlt':(g:Int)<(k:Int):=om
   have hql:(p+g) / 8<d.length:=om
   obtain⟨s,hs⟩:∃s,s=min (8-(p+g) % 8) (k-g):=⟨_,rfl⟩
   have l1':oLoad false 1 H' (cellR i 3 1)=some bv:=row_load R.row rfl rfl
   have l2':oLoad false 1 H' (cellR i 3 2)=some (.int .i64 ((p+g:Nat):Int)):=row_load R.row rfl rfl
   simp only[sA,sB,seval,g0,g1,g5,g6,g7,hlt',nil_cell,fldA]
   refine (inside_spec R.row).mono ?_
   rintro _ _ ⟨rfl,rfl⟩
   have w8:IntKind.i64.wrap (8-(((p+g) % 8:Nat):Int))=((8-(p+g) % 8:Nat):Int):=w64
   have wg:IntKind.i64.wrap ((k:Int)-(g:Int))=((k-g:Nat):Int):=w64
   have mn:(if ((k-g:Nat):Int)<((8-(p+g) % 8:Nat):Int) then ((k-g:Nat):Int) else ((8-(p+g) % 8:Nat):Int))=(s:Int):=by split <;> omega
   have qd:aBin .quo (.int .i64 ((p+g:Nat):Int)) (.int .i64 8)=some (.int .i64 (((p+g) / 8:Nat):Int)):=quo64 (p+g) 8 om om
   obtain⟨x,hx⟩:∃x,d[(p+g) / 8]?=some x:=⟨_,List.getElem?_eq_getElem hql⟩
   have ix:=R.cel.idx .i64 (i:=(p+g) / 8) (by rw[byts_len]; exact hql)
   have lx:=R.cel.load (byts_get hx)
   have hxl:=x.toNat_lt
   have sr:=shrN .u8 .i64 x.toNat (b:=(p+g) % 8) (by simp only[IntKind.bits]; omega)
   have hxd:x.toNat / 2 ^ ((p+g) % 8)<2 ^ 8:=Nat.lt_of_le_of_lt (Nat.div_le_self _ _) om
   have wx:IntKind.u32.wrap ((x.toNat / 2 ^ ((p+g) % 8):Nat):Int)=((x.toNat / 2 ^ ((p+g) % 8):Nat):Int):=wrap_u .u32 (by simp) (by simp only[IntKind.bits]; omega)
   have h2s:2 ^ s≤2 ^ 8:=Nat.pow_le_pow_right om om
   have h2p:0<2 ^ s:=Nat.two_pow_pos s
   have sl:aBin .shl (.int .u32 1) (.int .i64 (s:Int))=some (.int .u32 ((2 ^ s:Nat):Int)):=by
    have:=bin_shlU .u32 .i64 (by simp) 1 (b:=s) (by simp only[IntKind.bits]; omega)
    rw[Nat.one_mul,Nat.mod_eq_of_lt (by simp only[IntKind.bits]; omega)]at this
    exact this
   have w1:IntKind.u32.wrap (((2 ^ s:Nat):Int)-1)=((2 ^ s-1:Nat):Int):=by rw[wrapU32 om om]; omega
   have an:=bin_andU .u32 (by simp) (a:=x.toNat / 2 ^ ((p+g) % 8)) (b:=2 ^ s-1) (by simp only[IntKind.bits]; omega) (by simp only[IntKind.bits]; omega)
   rw[and_low]at an
   have hst:=bits_step (d:=d) (q:=p+g) (s:=s) om hql
   have egd:d.getD ((p+g) / 8) 0=x:=by rw[List.getD_eq_getElem?_getD,hx]; rfl
   rw[egd]at hst
   rw[← hst]at an
   obtain⟨pt,hpt⟩:∃pt,pt=natOf (((bitsB d).drop (p+g)).take s):=⟨_,rfl⟩
   have hpl:pt<2 ^ s:=by rw[hpt,hst]; exact Nat.mod_lt _ h2p
   rw[← hpt]at an
   obtain⟨nv,hnv⟩:∃nv,nv=natOf (((bitsB d).drop p).take g):=⟨_,rfl⟩
   have hlg:(((bitsB d).drop p).take g).length=g:=by rw[List.length_take,List.length_drop,bitsB_len]; omega
   have hnl:nv<2 ^ g:=by rw[hnv]; have:=natOf_lt (((bitsB d).drop p).take g); rwa [hlg]at this
   have hps:pt*2 ^ g<2 ^ 32:=by
    have a:pt*2 ^ g<2 ^ s*2 ^ g:=Nat.mul_lt_mul_of_pos_right hpl (Nat.two_pow_pos g)
    rw[← Nat.pow_add]at a
    exact Nat.lt_of_lt_of_le a (Nat.pow_le_pow_right om om)
   have sh:=bin_shlU .u32 .i64 (by simp) pt (b:=g) (by simp only[IntKind.bits]; omega)
   rw[Nat.mod_eq_of_lt (by simp only[IntKind.bits]; omega)]at sh
   have hn32:nv<2 ^ 32:=Nat.lt_of_lt_of_le hnl (Nat.pow_le_pow_right om om)
   have or_:=bin_orU .u32 (by simp) (a:=nv) (b:=pt*2 ^ g) (by simp only[IntKind.bits]; omega) (by simp only[IntKind.bits]; omega)
   have hnew:nv ||| pt*2 ^ g=natOf (((bitsB d).drop p).take (g+s)):=by
    rw[or_high hnl,take_more,hlg,← hnv,List.drop_drop,← hpt,Nat.mul_comm]
   rw[hnew]at or_
   rw[← hnv]at g6
   obtain⟨H4,m4,R4,k4,o4⟩:=R.set (p+g+s) om
   simp only[sA,sB,seval,g0,g1,g5,g6,g7,w8,wg,mn,l1',l2',qd,ix,lx,sr,conv_in,wx,sl,w1,an,sh,or_,nil_cell,fldA,wrapN g s om,wrapN (p+g) s om,m4]
   exact⟨_,om,g+s,rfl,om,tt,tt,tt,tt,tt,by rw[← Nat.add_assoc]; exact R4,om,fun c hc=>by rw[o4 c hc,fr c hc]⟩
  ·have hlt':¬(g:Int)<(k:Int):=om
   obtain rfl:g=k:=om
   simp only[sA,sB,seval,g0,g1,g5,g6,g7,hlt']
   exact .inl ⟨om,tt,R,kn,fr⟩
theorem rdnew_spec{n:Nat}{H:AHeap}{v:AVal}{d:Bs}(hv:Cel n H v (byts d))(hd:d.length≤1000000) :
  ACalls Tryz.prog natT 68 [v] H fun w H'=>∃i bv,w=cellR i 3 0∧RD H' i bv d 0∧H.next≤i∧Blk bv (H.next≤·)∧Ext H.next H H':=by
 refine acalls_ofN rfl za68 rfl ?_
 obtain⟨s,H1,m1,A1,n1,b1,o1⟩:=app_bytes (app_nil H) (src_cel hv) (by simpa using hd)
 have sb:Blk s (H.next≤·):=(b1 (fun _=>False) (blk_nil _)).mono fun b hb=>hb.resolve_left id
 have s1:s.one=true:=app_one A1
 obtain⟨H3,m3,r3,k3,o3⟩:=row_newL H1 [.bool true,s,.int .i64 0] (n:=3) (by simp[s1,AVal.one])
 have bd1:aBuild [.bool false,.slice none 0 (.known 0),.int .i64 0] [(0,1,.bool true),(1,1,s)]=some (.agg [.bool true,s,.int .i64 0]):=by
  rcases A1 with⟨e,_⟩ | ⟨b,low,e,_⟩ <;> (rw[e]; rfl)
 have bd2:aBuild [.bool false,.slice none 0 (.known 0),.int .i64 0] [(0,3,.agg [.bool true,s,.int .i64 0])]=some (.agg [.bool true,s,.int .i64 0]):=by
  rcases A1 with⟨e,_⟩ | ⟨b,low,e,_⟩ <;> (rw[e]; rfl)
 have m1':aAppend 1 1 H (.slice none 0 (.known 0)) v=some (s,H1):=m1
 simp only[c68,sA,sB,seval,m1',bd1,bd2,cells_agg,m3]
 have A3:AppN 1 0 H3 s (byts d) d.length:=by
  have:=A1.same (H':=H3) om ((sb.and A1.blk').mono fun c hc=>o3 c om)
  simpa using this
 exact⟨H1.next,s,tt,⟨r3,A3.cel1 A3.blk',((sb.and A1.blk').mono fun c hc=>om),om,Nat.zero_le _⟩,n1,sb,⟨om,fun c hc=>by rw[o3 c om,o1 c hc (blk_nil _)]⟩⟩
def rC(i:Nat)(out:AVal)(most:Nat)(near far:AVal):List AVal:=[cellR i 3 0,out,.int .i64 (most:Int),near,far]
def fault(e:Nat):AVal:=panV (.iface 149 (.int .i64 (e:Int)))
theorem pf_isU(x:AVal):aPf .isU [x]=some (.bool (isU x)):=_root_.id rfl
theorem pf_isP(x:AVal):aPf .isP [x]=some (.bool (isPan x)):=_root_.id rfl
theorem pf_mkP(t:Nat)(x:AVal):aPf .mkP [.iface t x]=some (panV (.iface t x)):=_root_.id rfl
theorem pf_tup1(x:AVal):aPf .tup [x]=some x:=_root_.id rfl
theorem pf_tup0:aPf .tup []=some (.tuple []):=_root_.id rfl
theorem isU_pan(x:AVal):isU (panV x)=false:=_root_.id rfl
theorem isPan_pan(x:AVal):isPan (panV x)=true:=_root_.id rfl
theorem isPan_int(k:IntKind)(n:Int):isPan (.int k n)=false:=_root_.id rfl
theorem get_spec{H:AHeap}{r i most p:Nat}{out near far bv:AVal}{d:Bs}(hr:Row H r (rC i out most near far))(R:RD H i bv d p)(k:Nat)(hk:k≤32)(hd:d.length≤1000000) :
  ACalls Tryz.prog natT 1133 [cellR r 5 0,.int .i64 (k:Int)] H fun w H'=>(p+k≤8*d.length∧w=.int .i64 ((natOf (((bitsB d).drop p).take k):Nat):Int)∧RD H' i bv d (p+k)∧H'.next=H.next∧∀c,c≠i→H'.get c=H.get c)∨(8*d.length<p+k∧w=fault 12∧H=H'):=by
 refine acalls_ofE rfl za1133 rfl ?_
 have l0:oLoad false 1 H (cellR r 5 0)=some (cellR i 3 0):=row_load hr rfl rfl
 have u1:isU (argE [cellR r 5 0,.int .i64 (k:Int)] 23)=true:=rfl
 have u0:isU (argE [cellR r 5 0,.int .i64 (k:Int)] 22)=true:=rfl
 simp only[c1133,sA,sB,seval,nil_cell,fldA,fld0,l0]
 refine (rget_spec R k hk hd).mono ?_
 rintro _ H1 (⟨h1,rfl,R1,k1,o1⟩ | ⟨h1,rfl,rfl⟩)
 ·have hn:natOf (((bitsB d).drop p).take k)<2 ^ 32:=by
   have:=natOf_lt (((bitsB d).drop p).take k)
   exact Nat.lt_of_lt_of_le this (Nat.pow_le_pow_right om (by rw[List.length_take]; omega))
  generalize natOf (((bitsB d).drop p).take k)=nv at *
  have wv:IntKind.i64.wrap (nv:Int)=(nv:Int):=wrap64 om om
  simp only[sA,sB,seval,ext_0,ext_1,conv_in,wv,pf_isU,u0,u1,pf_tup1]
  exact .inl ⟨h1,tt,R1,k1,o1⟩
 ·simp only[sA,sB,seval,ext_0,ext_1,pf_mkP,pf_isU,u1,isU_pan]
  exact .inr ⟨h1,tt,tt⟩
theorem room_spec{H:AHeap}{r i most ol:Nat}{out near far:AVal}(hr:Row H r (rC i out most near far))(ho:aLenK false out=some (.int .i64 (ol:Int)))(n:Nat)(hn:n≤100000)(hm:most≤100000)(hol:ol≤100000) :
  ACalls Tryz.prog natT 1145 [cellR r 5 0,.int .i64 (n:Int)] H fun w H'=>((ol+n≤most∧w=.tuple [])∨(most<ol+n∧w=fault 3))∧H=H':=by
 refine acalls_ofE rfl za1145 rfl ?_
 have l1:oLoad false 1 H (cellR r 5 1)=some out:=row_load hr rfl rfl
 have l2:oLoad false 1 H (cellR r 5 2)=some (.int .i64 (most:Int)):=row_load hr rfl rfl
 have u1:isU (argE [cellR r 5 0,.int .i64 (n:Int)] 18)=true:=rfl
 have u0:isU (argE [cellR r 5 0,.int .i64 (n:Int)] 17)=true:=rfl
 have w1:IntKind.i64.wrap ((most:Int)-(ol:Int))=(most:Int)-(ol:Int):=wrap64 om om
 by_cases hlt:most<ol+n
 ·have hlt':(most:Int)-(ol:Int)<(n:Int):=om
  simp only[c1145,sA,sB,seval,nil_cell,fldA,fld0,l1,l2,ho,w1,hlt',pf_mkP,pf_isU,u1,isU_pan]
  exact⟨.inr ⟨hlt,tt⟩,tt⟩
 ·have hlt':¬(most:Int)-(ol:Int)<(n:Int):=om
  simp only[c1145,sA,sB,seval,nil_cell,fldA,fld0,l1,l2,ho,w1,hlt',pf_isU,u0,u1,pf_tup0]
  exact⟨.inl ⟨om,tt⟩,tt⟩
inductive SR(α:Type) where
 | ok (x:α) (p:Nat)
 | bad (e:Nat)
 | unk
def symM(cnt syms:List Nat)(S:List Bool):Nat→Nat→Nat→Nat→Nat→Nat→SR Nat
 | 0,_,_,_,_,_=>.bad 10
 | f+1,long,code,first,at_,p=>match S[p]? with
  | none=>.bad 12
  | some c=>
   if 2*code+(if c then 1 else 0)<2*first then .unk
   else if 2*code+(if c then 1 else 0)-2*first<cnt.getD long 0 then
    (match syms[at_+(2*code+(if c then 1 else 0)-2*first)]? with
     | some s=>.ok s (p+1)
     | none=>.unk)
   else symM cnt syms S f (long+1) (2*code+(if c then 1 else 0)) (2*first+cnt.getD long 0) (at_+cnt.getD long 0) (p+1)
def cntF(ls:List Nat)(k:Nat):Nat:=if k=0 then 0 else (ls.filter (·==k)).length
def cntT(ls:List Nat):List Nat:=(List.range 16).map (cntF ls)
def symT(ls:List Nat):List Nat:=(List.range 16).flatMap fun k=>if k=0 then [] else (List.range ls.length).filter fun s=>ls.getD s 0==k
def nearL:List Nat:=List.replicate 144 8++List.replicate 112 9++List.replicate 24 7++List.replicate 8 8
def farL:List Nat:=List.replicate 32 5
theorem near_sym:(List.range 286).all (fun s=>match symM (cntT nearL) (symT nearL) (fixB s) 15 1 0 0 0 0 with | .ok t p=>Nat.beq t s&&Nat.beq p (fixB s).length | _=>false)=true:=by decide +kernel
theorem far_sym:(List.range 30).all (fun s=>match symM (cntT farL) (symT farL) (bitsN s 5).reverse 15 1 0 0 0 0 with | .ok t p=>Nat.beq t s&&Nat.beq p 5 | _=>false)=true:=by decide +kernel
structure CD(H:AHeap)(c:Nat)(sv:AVal)(cnt syms:List Nat)(longest:Nat):Prop where
 row:Row H c (ints cnt++[sv,.int .i64 (longest:Int)])
 len:cnt.length=16
 cel:Cel H.next H sv (ints syms)
 one:sv.one=true
theorem CD.same{H H':AHeap}{c:Nat}{sv:AVal}{cnt syms:List Nat}{longest:Nat}(h:CD H c sv cnt syms longest)(hn:H.next≤H'.next)(e1:H'.get c=H.get c)(e2:Blk sv fun b=>H'.get b=H.get b):CD H' c sv cnt syms longest:=
 ⟨h.row.same e1,h.len,cel_same h.cel hn e2,h.one⟩
theorem CD.loads{H:AHeap}{c:Nat}{sv:AVal}{cnt syms:List Nat}{longest:Nat}(h:CD H c sv cnt syms longest):oLoad false 1 H (cellR c 18 16)=some sv∧oLoad false 1 H (cellR c 18 17)=some (.int .i64 (longest:Int))∧∀k,k<16→oLoad false 1 H (cellR c 18 k)=some (.int .i64 ((cnt.getD k 0:Nat):Int)):=by
 have hl:(ints cnt++[sv,.int .i64 (longest:Int)]).length=18:=by rw[lA,ints_len,h.len]; rfl
 refine⟨row_load h.row hl ?_,row_load h.row hl ?_,fun k hk=>row_load h.row hl ?_⟩
 ·rw[List.getElem?_append_right (by rw[ints_len,h.len]; omega),ints_len,h.len]; rfl
 ·rw[List.getElem?_append_right (by rw[ints_len,h.len]; omega),ints_len,h.len]; rfl
 ·rw[List.getElem?_append_left (by rw[ints_len,h.len]; exact hk)]
  exact ints_get (by rw[List.getD_eq_getElem?_getD,List.getElem?_eq_getElem (by rw[h.len]; exact hk)]; rfl)
theorem or_bit(n:Nat)(c:Bool):n*2 ^ 1 ||| (if c then 1 else 0)=2*n+(if c then 1 else 0):=by
 have:=or_low 1 n (b:=if c then 1 else 0) (by cases c <;> simp)
 rw[this]; omega
theorem natOf_one{l:List Bool}{p:Nat}{c:Bool}(h:l[p]?=some c):natOf ((l.drop p).take 1)=if c then 1 else 0:=by
 have hp:=(List.getElem?_eq_some_iff.1 h).1
 rw[List.drop_eq_getElem_cons hp]
 have e:l[p]=c:=(List.getElem?_eq_some_iff.1 h).2
 rw[e]; cases c <;> rfl
theorem sym_spec{H:AHeap}{r i most p c:Nat}{out near far bv sv:AVal}{d:Bs}{cnt syms:List Nat}{longest:Nat}(hr:Row H r (rC i out most near far))(R:RD H i bv d p)(C:CD H c sv cnt syms longest)(hci:c≠i)(hri:r≠i)(hsv:Blk sv (·≠i))(hlo:longest≤15)(hcn:∀k,cnt.getD k 0≤1000)(hd:d.length≤1000000)(hu:symM cnt syms (bitsB d) longest 1 0 0 0 p≠.unk) :
  ACalls Tryz.prog natT 1147 [cellR r 5 0,cellR c 18 0] H fun w H'=>∃q,RD H' i bv d q∧H'.next=H.next∧(∀b,b≠i→H'.get b=H.get b)∧((∃s,symM cnt syms (bitsB d) longest 1 0 0 0 p=.ok s q∧w=.int .i64 (s:Int))∨∃e,symM cnt syms (bitsB d) longest 1 0 0 0 p=.bad e∧w=fault e):=by
 refine acalls_ofE rfl za1147 rfl ?_
 have u1:isU (argE [cellR r 5 0,cellR c 18 0] 55)=true:=rfl
 have u0:isU (argE [cellR r 5 0,cellR c 18 0] 54)=true:=rfl
 simp only[c1147,sA,sB,seval,nil_cell,fldA,fld0]
 refine aw_loop (fun m (T:Env) H'=>∃(f long code first at_ q:Nat),m=f∧f+long=longest+1∧1≤long∧code<2 ^ (long-1)∧first≤1000*2 ^ long∧at_≤1000*long∧symM cnt syms (bitsB d) longest 1 0 0 0 p=symM cnt syms (bitsB d) f long code first at_ q∧T 0=cellR r 5 0∧T 1=cellR c 18 0∧T 5=.int .i64 (code:Int)∧T 6=.int .i64 (first:Int)∧T 7=.int .i64 (at_:Int)∧T 8=.int .i64 (long:Int)∧isU (T 55)=true∧isU (T 54)=true∧RD H' i bv d q∧H'.next=H.next∧∀b,b≠i→H'.get b=H.get b) longest
  ⟨longest,1,0,0,0,p,rfl,rfl,Nat.le_refl _,by simp,by simp,by simp,rfl,by simp only[sA,sB,seval],by simp only[sA,sB,seval],by simp only[sA,sB,seval]; try rfl,by simp only[sA,sB,seval]; try rfl,by simp only[sA,sB,seval]; try rfl,by simp only[sA,sB,seval]; try rfl,by simp only[sA,sB,seval]; exact u1,by simp only[sA,sB,seval]; exact u0,R,rfl,fun _ _=>rfl⟩ ?_
 rintro m T H' ⟨f,long,code,first,at_,q,rfl,hf,h1,hcode,hfirst,hat,hM,g0,g1,g5,g6,g7,g8,v1,v0,R',kn,fr⟩
 have C':=C.same om (fr c hci) (hsv.mono fun b hb=>fr b hb)
 obtain⟨l16,l17,lk⟩:=C'.loads
 have hr':Row H' r (rC i out most near far):=hr.same (fr r hri)
 have hS:=bitsB_len d
 cases m with
 | zero=>
  have hle:¬(long:Int)≤(longest:Int):=om
  simp only[sA,sB,seval,g0,g1,g5,g6,g7,g8,nil_cell,fldA,fld0,l17,hle,pf_mkP,pf_isU,v1,isU_pan]
  exact⟨q,R',kn,fr,.inr ⟨10,by rw[hM]; rfl,tt⟩⟩
 | succ m=>
  have hle:(long:Int)≤(longest:Int):=om
  have hp2:2 ^ long≤2 ^ 15:=Nat.pow_le_pow_right om om
  have hp1:2*2 ^ (long-1)=2 ^ long:=by rw[Nat.mul_comm,← Nat.pow_succ]; congr 1; omega
  have s1:aBin .shl (.int .i64 (code:Int)) (.int .u64 1)=some (.int .i64 ((code*2 ^ 1:Nat):Int)):=bin_shlN (k':=.u64) (b:=1) om om
  have s2:aBin .shl (.int .i64 (first:Int)) (.int .u64 1)=some (.int .i64 ((first*2 ^ 1:Nat):Int)):=bin_shlN (k':=.u64) (b:=1) om om
  simp only[sA,sB,seval,g0,g1,g5,g6,g7,g8,nil_cell,fldA,fld0,l17,hle,s1]
  refine (get_spec hr' R' 1 om hd).mono ?_
  rintro _ H1 (⟨hq,rfl,R1,k1,o1⟩ | ⟨hq,rfl,rfl⟩)
  ·obtain⟨b,hb⟩:∃b,(bitsB d)[q]?=some b:=⟨_,List.getElem?_eq_getElem om⟩
   rw[natOf_one hb]
   have hcb:=or_bit code b
   generalize hbv:(if b then 1 else 0:Nat)=bv1 at *
   have hb1:bv1≤1:=by cases b <;> simp at hbv <;> omega
   have or_:=bin_orN (a:=code*2 ^ 1) (b:=bv1) om om
   rw[hcb]at or_
   have C1:=C'.same (H':=H1) om (o1 c hci) (hsv.mono fun b hb=>o1 b hb)
   obtain⟨m16,m17,mk⟩:=C1.loads
   have mk':=mk long om
   have hn:=hcn long
   generalize hnv:cnt.getD long 0=nv at *
   have ixa:aIdxArr 16 1 (cellR c 18 0) (.int .i64 (long:Int))=some (cellR c 18 long):=by
    show (bif Nat.blt long 16 then some (AVal.ptr (some ⟨c,18,0+long*1⟩)) else none)=_
    have:Nat.blt long 16=true:=by simpa[Nat.blt_eq] using (show long<16 by omega)
    rw[this,Nat.zero_add,Nat.mul_one]; rfl
   have hstep:symM cnt syms (bitsB d) (m+1) long code first at_ q=if 2*code+bv1<2*first then .unk else if 2*code+bv1-2*first<nv then (match syms[at_+(2*code+bv1-2*first)]? with | some s=>.ok s (q+1) | none=>.unk) else symM cnt syms (bitsB d) m (long+1) (2*code+bv1) (2*first+nv) (at_+nv) (q+1):=by
    simp only[symM,hb,hbv,hnv] <;> rfl
   rw[hstep]at hM
   have hge:¬2*code+bv1<2*first:=fun h=>hu (by rw[hM,if_pos h])
   rw[if_neg hge]at hM
   have w1:IntKind.i64.wrap (((2*code+bv1:Nat):Int)-((first*2 ^ 1:Nat):Int))=((2*code+bv1-2*first:Nat):Int):=w64
   by_cases hlt:2*code+bv1-2*first<nv
   ·have hlt':((2*code+bv1-2*first:Nat):Int)<(nv:Int):=om
    rw[if_pos hlt]at hM
    obtain⟨sy,hsy⟩:∃sy,syms[at_+(2*code+bv1-2*first)]?=some sy:=by
     cases hx:syms[at_+(2*code+bv1-2*first)]? with
     | some sy=>exact⟨sy,rfl⟩
     | none=>rw[hx]at hM; exact absurd hM hu
    rw[hsy]at hM
    have hsl:=(List.getElem?_eq_some_iff.1 hsy).1
    have w2:IntKind.i64.wrap ((at_:Int)+((2*code+bv1:Nat):Int))=((at_+(2*code+bv1):Nat):Int):=wrapN _ _ om
    have w3:IntKind.i64.wrap (((at_+(2*code+bv1):Nat):Int)-((first*2 ^ 1:Nat):Int))=((at_+(2*code+bv1-2*first):Nat):Int):=w64
    have ix:=C1.cel.idx .i64 (i:=at_+(2*code+bv1-2*first)) (by rw[ints_len]; exact hsl)
    have lx:=C1.cel.load (ints_get hsy)
    simp only[sA,sB,seval,pf_isP,isPan_int,g0,g1,g5,g6,g7,g8,nil_cell,fldA,fld0,or_,s2,ixa,mk',w1,hlt',m16,w2,w3,ix,lx,pf_isU,v0,v1,pf_tup1]
    exact⟨q+1,R1,om,fun b hb=>by rw[o1 b hb,fr b hb],.inl ⟨sy,hM,tt⟩⟩
   ·have hlt':¬((2*code+bv1-2*first:Nat):Int)<(nv:Int):=om
    rw[if_neg hlt]at hM
    have w4:IntKind.i64.wrap ((at_:Int)+(nv:Int))=((at_+nv:Nat):Int):=wrapN _ _ om
    have w5:IntKind.i64.wrap (((first*2 ^ 1:Nat):Int)+(nv:Int))=((2*first+nv:Nat):Int):=by rw[wrapN _ _ om]; congr 1; omega
    simp only[sA,sB,seval,pf_isP,isPan_int,g0,g1,g5,g6,g7,g8,nil_cell,fldA,fld0,or_,s2,ixa,mk',w1,hlt',w4,w5,wrap1 long om]
    have hp3:2 ^ (long+1)=2*2 ^ long:=by rw[Nat.pow_succ]; omega
    exact⟨_,Nat.lt_succ_self _,m,long+1,2*code+bv1,2*first+nv,at_+nv,q+1,rfl,om,om,by rw[Nat.add_sub_cancel]; omega,om,om,hM,tt,tt,tt,tt,tt,tt,tt,tt,R1,om,fun b hb=>by rw[o1 b hb,fr b hb]⟩
  ·have hnone:(bitsB d)[q]?=none:=List.getElem?_eq_none om
   simp only[sA,sB,seval,pf_isP,pf_isU,v1,isPan_pan,isU_pan,fault]
   exact⟨q,R',kn,fr,.inr ⟨12,by rw[hM]; simp only[symM,hnone],tt⟩⟩
def spanM(sp gr:Nat)(S:List Bool)(p:Nat):SR Nat:=if sp<gr then .ok sp p else if p+(sp / gr-1)≤S.length then .ok ((gr+sp % gr)*2 ^ (sp / gr-1)+natOf ((S.drop p).take (sp / gr-1))) (p+(sp / gr-1)) else .bad 12
theorem span_spec{H:AHeap}{r i most p:Nat}{out near far bv:AVal}{d:Bs}(hr:Row H r (rC i out most near far))(R:RD H i bv d p)(sp gr:Nat)(hg:0<gr)(hg4:gr≤4)(hs:sp≤29)(hd:d.length≤1000000) :
  ACalls Tryz.prog natT 1158 [cellR r 5 0,.int .i64 (sp:Int),.int .i64 (gr:Int)] H fun w H'=>∃q,RD H' i bv d q∧H'.next=H.next∧(∀b,b≠i→H'.get b=H.get b)∧((∃s,spanM sp gr (bitsB d) p=.ok s q∧s≤10000000000∧w=.int .i64 (s:Int))∨∃e,spanM sp gr (bitsB d) p=.bad e∧w=fault e):=by
 refine acalls_ofE rfl za1158 rfl ?_
 have u8:isU (argE [cellR r 5 0,.int .i64 (sp:Int),.int .i64 (gr:Int)] 28)=true:=rfl
 have u7:isU (argE [cellR r 5 0,.int .i64 (sp:Int),.int .i64 (gr:Int)] 27)=true:=rfl
 by_cases hlt:sp<gr
 ·have hlt':(sp:Int)<(gr:Int):=om
  simp only[c1158,sA,sB,seval,hlt',pf_isU,u7,u8,pf_tup1]
  exact⟨p,R,by trivial,by first | (intros; rfl) | (intros; trivial),.inl ⟨sp,by unfold spanM; rw[if_pos hlt],om,tt⟩⟩
 ·have hlt':¬(sp:Int)<(gr:Int):=om
  obtain⟨e,he⟩:∃e,e=sp / gr-1:=⟨_,rfl⟩
  have hdv:sp / gr≤sp:=Nat.div_le_self _ _
  have hd1:1≤sp / gr:=(Nat.one_le_div_iff hg).2 om
  have qd:aBin .quo (.int .i64 (sp:Int)) (.int .i64 (gr:Int))=some (.int .i64 ((sp / gr:Nat):Int)):=quo64 sp gr hg om
  have w1:IntKind.i64.wrap (((sp / gr:Nat):Int)-1)=(e:Int):=w64
  have rm:=bin_remN sp gr hg
  have hml:=Nat.mod_lt sp hg
  have w2:IntKind.i64.wrap ((gr:Int)+((sp % gr:Nat):Int))=((gr+sp % gr:Nat):Int):=wrapN _ _ om
  have hp:2 ^ e≤2 ^ 28:=Nat.pow_le_pow_right om om
  have hmul:(gr+sp % gr)*2 ^ e≤8*2 ^ 28:=Nat.mul_le_mul om hp
  have sl:aBin .shl (.int .i64 ((gr+sp % gr:Nat):Int)) (.int .i64 (e:Int))=some (.int .i64 (((gr+sp % gr)*2 ^ e:Nat):Int)):=bin_shlN om om
  simp only[c1158,sA,sB,seval,hlt',qd,w1,rm,w2,sl]
  refine (get_spec hr R e om hd).mono ?_
  rintro _ H1 (⟨hq,rfl,R1,k1,o1⟩ | ⟨hq,rfl,rfl⟩)
  ·have hM:spanM sp gr (bitsB d) p=.ok ((gr+sp % gr)*2 ^ e+natOf (((bitsB d).drop p).take e)) (p+e):=by
    unfold spanM; rw[if_neg hlt,← he,if_pos (by rw[bitsB_len]; omega)]
   have hnl:natOf (((bitsB d).drop p).take e)<2 ^ 28:=Nat.lt_of_lt_of_le (natOf_lt _) (Nat.pow_le_pow_right om (by rw[List.length_take]; omega))
   generalize natOf (((bitsB d).drop p).take e)=nv at *
   generalize (gr+sp % gr)*2 ^ e=hi at *
   have w3:IntKind.i64.wrap ((hi:Int)+(nv:Int))=((hi+nv:Nat):Int):=wrapN _ _ om
   simp only[sA,sB,seval,ar_skip,Nat.reduceLeDiff,Nat.reduceSub,isPan_int,Bool.false_eq_true,w3,pf_isP,pf_isU,u7,u8,pf_tup1]
   exact⟨p+e,R1,k1,o1,.inl ⟨_,hM,om,tt⟩⟩
  ·have hM:spanM sp gr (bitsB d) p=.bad 12:=by
    unfold spanM; rw[if_neg hlt,← he,if_neg (by rw[bitsB_len]; omega)]
   simp only[sA,sB,seval,ar_skip,Nat.reduceLeDiff,Nat.reduceSub,fault,isPan_pan,pf_isP,pf_isU,u7,u8,isU_pan]
   exact⟨p,R,by trivial,by first | (intros; rfl) | (intros; trivial),.inr ⟨12,hM,tt⟩⟩
theorem ralign_spec{H:AHeap}{i p:Nat}{bv:AVal}{d:Bs}(R:RD H i bv d p)(hd:d.length≤1000000) :
  ACalls Tryz.prog natT 120 [cellR i 3 0] H fun _ H'=>RD H' i bv d (p+fillN p)∧H'.next=H.next∧∀c,c≠i→H'.get c=H.get c:=by
 refine acalls_ofN rfl za120 rfl ?_
 have hp:=R.le
 have l0:oLoad false 1 H (cellR i 3 0)=some (.bool true):=row_load R.row rfl rfl
 have l2:oLoad false 1 H (cellR i 3 2)=some (.int .i64 (p:Int)):=row_load R.row rfl rfl
 have w8:IntKind.i64.wrap (8-((p % 8:Nat):Int))=((8-p % 8:Nat):Int):=w64
 have r8:aBin .rem (.int .i64 ((8-p % 8:Nat):Int)) (.int .i64 8)=some (.int .i64 ((fillN p:Nat):Int)):=bin_remN (8-p % 8) 8 om
 have wp:IntKind.i64.wrap ((p:Int)+((fillN p:Nat):Int))=((p+fillN p:Nat):Int):=wrapN _ _ (by unfold fillN; omega)
 obtain⟨H4,m4,R4,k4,o4⟩:=R.set (p+fillN p) (by unfold fillN; omega)
 simp only[c120,sA,sB,seval,eq_ptr_nil,nil_cell,fldA,l0]
 refine aw_drawC rfl ?_
 simp only[sR,sA,sB,seval,nil_cell,fldA,l2]
 refine (inside_spec R.row).mono ?_
 rintro _ _ ⟨rfl,rfl⟩
 simp only[sR,sA,sB,seval,w8,r8,wp,nil_cell,fldA,m4,ck_nil',ck_cons,ck_end,ckP_nil,ckP_load]
 refine⟨⟨⟨⟨H,rfl,fun _=>⟨.int .i64 (p:Int),?_,aeq_int _ _⟩⟩,trivial⟩,trivial⟩,R4,k4,o4⟩
 exact l2
def cntG:List Nat→List Nat→Option (List Nat)
 | [],c=>some c
 | l::r,c=>if l<16∧c.getD l 0≤100000 then cntG r (c.set l (c.getD l 0+1)) else none
def atG(c:List Nat):Nat→Nat→List Nat→Option (List Nat)
 | 0,_,a=>some a
 | f+1,k,a=>if a.getD (k-1) 0+c.getD (k-1) 0≤100000 then atG c f (k+1) (a.set k (a.getD (k-1) 0+c.getD (k-1) 0)) else none
def symG:List Nat→Nat→List Nat→List Nat→Option (List Nat)
 | [],_,sy,_=>some sy
 | l::r,s,sy,a=>if l=0 then symG r (s+1) sy a else if l<16∧a.getD l 0<sy.length then symG r (s+1) (sy.set (a.getD l 0) s) (a.set l (a.getD l 0+1)) else none
def codeM(ls:List Nat):Option (List Nat×List Nat):=
 match cntG ls (List.replicate 16 0) with
 | none=>none
 | some c=>if c.getD 0 0≤ls.length∧ls.length-c.getD 0 0≠1 then
   (match atG (c.set 0 0) 15 1 (List.replicate 16 0) with
    | none=>none
    | some a=>(match symG ls 0 (List.replicate (ls.length-c.getD 0 0) 0) a with
     | none=>none
     | some sy=>some (c.set 0 0,sy)))
  else none
theorem codeM_near:codeM nearL=some (cntT nearL,symT nearL):=by decide +kernel
theorem codeM_far:codeM farL=some (cntT farL,symT farL):=by decide +kernel
theorem ints_setL(l:List Nat)(i n:Nat):ints (l.set i n)=(ints l).set i (.int .i64 (n:Int)):=by simp[ints]
theorem cC_set(c:List Nat)(hc:c.length=16)(sv lg:AVal){k n:Nat}(hk:k<16):(ints c++[sv,lg]).set k (.int .i64 (n:Int))=ints (c.set k n)++[sv,lg]:=by
 rw[ints_setL,List.set_append_left _ _ (by rw[ints_len,hc]; exact hk)]
theorem cC_get(c:List Nat)(hc:c.length=16)(sv lg:AVal){k:Nat}(hk:k<16):(ints c++[sv,lg])[k]?=some (.int .i64 ((c.getD k 0:Nat):Int)):=by
 rw[List.getElem?_append_left (by rw[ints_len,hc]; exact hk)]
 exact ints_get (by rw[List.getD_eq_getElem?_getD,List.getElem?_eq_getElem (by rw[hc]; exact hk)]; rfl)
theorem cC_len(c:List Nat)(hc:c.length=16)(sv lg:AVal):(ints c++[sv,lg]).length=18:=by rw[lA,ints_len,hc]; rfl
theorem cC_16(c:List Nat)(hc:c.length=16)(sv lg x:AVal):(ints c++[sv,lg]).set 16 x=ints c++[x,lg]∧(ints c++[sv,lg])[16]?=some sv:=by
 have h16:(ints c).length=16:=by rw[ints_len,hc]
 refine⟨?_,?_⟩
 ·rw[List.set_append_right _ _ om,h16]; rfl
 ·rw[List.getElem?_append_right om,h16]; rfl
theorem ints_getD(l:List Nat){k:Nat}(hk:k<l.length):(ints l)[k]?=some (.int .i64 ((l.getD k 0:Nat):Int)):=
 ints_get (by rw[List.getD_eq_getElem?_getD,List.getElem?_eq_getElem hk]; rfl)
theorem idx_in{n lim c k:Nat}(h:k<n):aIdxArr n 1 (cellR c lim 0) (.int .i64 (k:Int))=some (cellR c lim k):=by
 show (bif Nat.blt k n then some (AVal.ptr (some ⟨c,lim,0+k*1⟩)) else none)=_
 have:Nat.blt k n=true:=by simpa[Nat.blt_eq] using h
 rw[this,Nat.zero_add,Nat.mul_one]; rfl
theorem z16:[AVal.int .i64 0,.int .i64 0,.int .i64 0,.int .i64 0,.int .i64 0,.int .i64 0,.int .i64 0,.int .i64 0,.int .i64 0,.int .i64 0,.int .i64 0,.int .i64 0,.int .i64 0,.int .i64 0,.int .i64 0,.int .i64 0]=ints (List.replicate 16 0):=by first | rfl | (simp[ints])
theorem drop_cons{ls:List Nat}{g:Nat}(h:g<ls.length):ls.drop g=ls.getD g 0::ls.drop (g+1):=by
 rw[List.drop_eq_getElem_cons h,List.getD_eq_getElem?_getD,List.getElem?_eq_getElem h]; rfl
theorem coded_spec{H:AHeap}{v:AVal}{ls cnt syms:List Nat}(hv:Cel H.next H v (ints ls))(hl:ls.length≤1000)(hM:codeM ls=some (cnt,syms)) :
  ACalls Tryz.prog natT 122 [v] H fun w H'=>∃c sv,w=cellR c 18 0∧CD H' c sv cnt syms 15∧H.next≤c∧c<H'.next∧Blk sv (fun b=>H.next≤b∧b<H'.next∧b≠c)∧Ext H.next H H':=by
 refine acalls_ofN rfl za122 rfl ?_
 obtain⟨c,hc⟩:∃c,c=H.next:=⟨_,rfl⟩
 obtain⟨H1,m1,r1,n1,o1⟩:=row_newL H (ints (List.replicate 16 0)++[nilS,.int .i64 15]) (n:=18) rfl
 have bd:aBuild [.int .i64 0,.int .i64 0,.int .i64 0,.int .i64 0,.int .i64 0,.int .i64 0,.int .i64 0,.int .i64 0,.int .i64 0,.int .i64 0,.int .i64 0,.int .i64 0,.int .i64 0,.int .i64 0,.int .i64 0,.int .i64 0,.slice none 0 (.known 0),.int .i64 0] [(17,1,.int .i64 15)]=some (.agg (ints (List.replicate 16 0)++[nilS,.int .i64 15])):=_root_.id rfl
 rw[← hc]at m1 r1 o1
 have hlen:=hv.len
 rw[ints_len]at hlen
 have E1:Ext H.next H H1:=⟨om,fun b hb=>o1 b om⟩
 simp only[c122,sA,sB,Int.reduceNegSucc,reduceCtorEq,Nat.reduceEqDiff,↓reduceIte,Nat.reduceAdd,Int.reduceEq,Int.reduceLT,Int.reduceLE,Nat.reduceLT,bd,cells_agg,m1,hlen]
 obtain⟨cn0,hcn0⟩:∃q,cntG ls (List.replicate 16 0)=some q:=by
  unfold codeM at hM
  cases e:cntG ls (List.replicate 16 0) with
  | none=>rw[e]at hM; simp at hM
  | some q=>exact⟨q,rfl⟩
 refine aw_loop (fun m (T:Env) H'=>∃(g:Nat) (cc:List Nat),m=ls.length-g∧g≤ls.length∧T 0=v∧T 3=cellR c 18 0∧T 13=v∧T 14=.int .i64 (ls.length:Int)∧T 15=.int .i64 (g:Int)∧cc.length=16∧cntG (ls.drop g) cc=some cn0∧Row H' c (ints cc++[nilS,.int .i64 15])∧Ext H.next H H'∧c<H'.next) ls.length
  ⟨0,List.replicate 16 0,rfl,Nat.zero_le _,by simp only[sA,sB,Int.reduceNegSucc,reduceCtorEq,Nat.reduceEqDiff,↓reduceIte,Nat.reduceAdd,Int.reduceEq,Int.reduceLT,Int.reduceLE,Nat.reduceLT],by simp only[sA,sB,Int.reduceNegSucc,reduceCtorEq,Nat.reduceEqDiff,↓reduceIte,Nat.reduceAdd,Int.reduceEq,Int.reduceLT,Int.reduceLE,Nat.reduceLT],by simp only[sA,sB,Int.reduceNegSucc,reduceCtorEq,Nat.reduceEqDiff,↓reduceIte,Nat.reduceAdd,Int.reduceEq,Int.reduceLT,Int.reduceLE,Nat.reduceLT],by simp only[sA,sB,Int.reduceNegSucc,reduceCtorEq,Nat.reduceEqDiff,↓reduceIte,Nat.reduceAdd,Int.reduceEq,Int.reduceLT,Int.reduceLE,Nat.reduceLT],by simp only[sA,sB,Int.reduceNegSucc,reduceCtorEq,Nat.reduceEqDiff,↓reduceIte,Nat.reduceAdd,Int.reduceEq,Int.reduceLT,Int.reduceLE,Nat.reduceLT]; try rfl,rfl,by simpa using hcn0,r1,E1,om⟩ ?_
 rintro m T H2 ⟨g,cc,rfl,hg,g0,g3,g13,g14,g15,hcc,hG,R2,E2,cn2⟩
 by_cases hlt:g<ls.length
 ·have hlt':(g:Int)<(ls.length:Int):=om
  rw[drop_cons hlt]at hG
  obtain⟨l,hll⟩:∃l,l=ls.getD g 0:=⟨_,rfl⟩
  rw[← hll]at hG
  have hGG:l<16∧cc.getD l 0≤100000:=Decidable.byContradiction fun hn=>by unfold cntG at hG; rw[if_neg hn]at hG; simp at hG
  have hG':cntG (ls.drop (g+1)) (cc.set l (cc.getD l 0+1))=some cn0:=by
   unfold cntG at hG; rw[if_pos hGG]at hG; exact hG
  have ix:=hv.idx .i64 (i:=g) (by rw[ints_len]; exact hlt)
  have lx:=(hv.ext E2).load (ints_getD ls hlt)
  rw[← hll]at lx
  have ia:=idx_in (n:=16) (lim:=18) (c:=c) hGG.1
  have lc:=row_load R2 (cC_len cc hcc _ _) (cC_get cc hcc _ _ hGG.1)
  obtain⟨H3,m3,r3,n3,o3⟩:=row_st R2 (cC_len cc hcc _ _) (i:=l) om (x:=.int .i64 ((cc.getD l 0+1:Nat):Int)) rfl (cC_set cc hcc _ _ hGG.1)
  simp only[sA,sB,Int.reduceNegSucc,reduceCtorEq,Nat.reduceEqDiff,↓reduceIte,Nat.reduceAdd,Int.reduceEq,Int.reduceLT,Int.reduceLE,Nat.reduceLT,g0,g3,g13,g14,g15,hlt',ix,lx,ia,lc,nil_cell,fldA,wrap1 (cc.getD l 0) om,m3,wrap1 g om]
  exact⟨_,om,g+1,cc.set l (cc.getD l 0+1),rfl,om,tt,tt,tt,tt,tt,by rw[List.length_set]; exact hcc,hG',r3,⟨by have:=E2.next; omega,fun b hb=>by rw[o3 b om]; exact E2.old b hb⟩,om⟩
 have hgl:g=ls.length:=om
 subst hgl
 have hlt':¬(ls.length:Int)<(ls.length:Int):=om
 rw[List.drop_of_length_le rL]at hG
 obtain rfl:cc=cn0:=by simpa[cntG] using hG
 have hM2:=hM
 unfold codeM at hM2
 rw[hcn0]at hM2
 simp only at hM2
 have hsz:cc.getD 0 0≤ls.length∧ls.length-cc.getD 0 0≠1:=Decidable.byContradiction fun hn=>by rw[if_neg hn]at hM2; simp at hM2
 rw[if_pos hsz]at hM2
 obtain⟨some_,hso⟩:∃s,s=ls.length-cc.getD 0 0:=⟨_,rfl⟩
 rw[← hso]at hM2 hsz
 obtain⟨c1,hc1⟩:∃s,s=cc.set 0 0:=⟨_,rfl⟩
 rw[← hc1]at hM2
 have hc1l:c1.length=16:=by rw[hc1,List.length_set]; exact hcc
 have i0:aIdxArr 16 1 (cellR c 18 0) (.int .i64 0)=some (cellR c 18 0):=idx_in (k:=0) om
 have l0:=row_load R2 (cC_len cc hcc _ _) (cC_get cc hcc nilS (.int .i64 15) (k:=0) om)
 have w0:IntKind.i64.wrap ((ls.length:Int)-((cc.getD 0 0:Nat):Int))=(some_:Int):=w64
 obtain⟨H3,m3,r3,n3,o3⟩:=row_st R2 (cC_len cc hcc _ _) (i:=0) om (x:=.int .i64 0) rfl (l':=ints c1++[nilS,.int .i64 15]) (by rw[hc1]; exact cC_set cc hcc _ _ (n:=0) om)
 obtain⟨a,ha⟩:∃a,a=H3.next:=⟨_,rfl⟩
 obtain⟨H4,m4,r4,n4,o4⟩:=row_newL H3 (ints (List.replicate 16 0)) (n:=16) rfl
 rw[← ha]at m4 r4 o4
 rw[← z16]at m4
 have E4:Ext H.next H H4:=⟨by have:=E2.next; omega,fun b hb=>by rw[o4 b (by have:=E2.next; omega),o3 b om]; exact E2.old b hb⟩
 have r3':Row H4 c (ints c1++[nilS,.int .i64 15]):=r3.same (o4 c om)
 simp only[sA,sB,Int.reduceNegSucc,reduceCtorEq,Nat.reduceEqDiff,↓reduceIte,Nat.reduceAdd,Int.reduceEq,Int.reduceLT,Int.reduceLE,Nat.reduceLT,g0,g3,g13,g14,g15,hlt',hlen,i0,l0,w0,nil_cell,fldA,m3,m4]
 obtain⟨an,han⟩:∃q,atG c1 15 1 (List.replicate 16 0)=some q:=by
  cases e:atG c1 15 1 (List.replicate 16 0) with
  | none=>rw[e]at hM2; simp at hM2
  | some q=>exact⟨q,rfl⟩
 rw[han]at hM2
 simp only at hM2
 refine aw_loop (fun m (T:Env) H'=>∃(g:Nat) (aa:List Nat),m=g∧g≤15∧T 0=v∧T 3=cellR c 18 0∧T 6=.int .i64 (some_:Int)∧T 7=cellR a 16 0∧T 8=.int .i64 ((16-g:Nat):Int)∧aa.length=16∧atG c1 g (16-g) aa=some an∧Row H' c (ints c1++[nilS,.int .i64 15])∧Row H' a (ints aa)∧Ext H.next H H'∧c<H'.next∧a<H'.next) 15
  ⟨15,List.replicate 16 0,rfl,Nat.le_refl _,by simp only[sA,sB,Int.reduceNegSucc,reduceCtorEq,Nat.reduceEqDiff,↓reduceIte,Nat.reduceAdd,Int.reduceEq,Int.reduceLT,Int.reduceLE,Nat.reduceLT,g0],by simp only[sA,sB,Int.reduceNegSucc,reduceCtorEq,Nat.reduceEqDiff,↓reduceIte,Nat.reduceAdd,Int.reduceEq,Int.reduceLT,Int.reduceLE,Nat.reduceLT,g3],by simp only[sA,sB,Int.reduceNegSucc,reduceCtorEq,Nat.reduceEqDiff,↓reduceIte,Nat.reduceAdd,Int.reduceEq,Int.reduceLT,Int.reduceLE,Nat.reduceLT],by simp only[sA,sB,Int.reduceNegSucc,reduceCtorEq,Nat.reduceEqDiff,↓reduceIte,Nat.reduceAdd,Int.reduceEq,Int.reduceLT,Int.reduceLE,Nat.reduceLT],by simp only[sA,sB,Int.reduceNegSucc,reduceCtorEq,Nat.reduceEqDiff,↓reduceIte,Nat.reduceAdd,Int.reduceEq,Int.reduceLT,Int.reduceLE,Nat.reduceLT]; rfl,rfl,han,r3',r4,E4,om,om⟩ ?_
 rintro m T2 H5 ⟨g,aa,rfl,hg,q0,q3,q6,q7,q8,haa,hA,R5,A5,E5,cn5,an5⟩
 have hca:c≠a:=by have:=E2.next; omega
 cases m with
 | succ m=>
  have hle:((16-(m+1):Nat):Int)≤15:=om
  obtain⟨k,hk⟩:∃k,k=16-(m+1):=⟨_,rfl⟩
  rw[← hk]at hA hle q8
  have hAA:aa.getD (k-1) 0+c1.getD (k-1) 0≤100000:=Decidable.byContradiction fun hn=>by unfold atG at hA; rw[if_neg hn]at hA; simp at hA
  have hA':atG c1 m (k+1) (aa.set k (aa.getD (k-1) 0+c1.getD (k-1) 0))=some an:=by
   unfold atG at hA; rw[if_pos hAA]at hA; exact hA
  have wk:IntKind.i64.wrap ((k:Int)-1)=((k-1:Nat):Int):=w64
  have ia1:=idx_in (n:=16) (lim:=16) (c:=a) (k:=k-1) om
  have ia2:=idx_in (n:=16) (lim:=18) (c:=c) (k:=k-1) om
  have ia3:=idx_in (n:=16) (lim:=16) (c:=a) (k:=k) om
  have la:=row_load A5 (n:=16) (by rw[ints_len]; exact haa) (ints_getD aa (k:=k-1) om)
  have lc:=row_load R5 (cC_len c1 hc1l _ _) (cC_get c1 hc1l nilS (.int .i64 15) (k:=k-1) om)
  obtain⟨H6,m6,r6,n6,o6⟩:=row_st A5 (n:=16) (by rw[ints_len]; exact haa) (i:=k) om (x:=.int .i64 ((aa.getD (k-1) 0+c1.getD (k-1) 0:Nat):Int)) rfl (ints_setL aa _ _).symm
  simp only[sA,sB,Int.reduceNegSucc,reduceCtorEq,Nat.reduceEqDiff,↓reduceIte,Nat.reduceAdd,Int.reduceEq,Int.reduceLT,Int.reduceLE,Nat.reduceLT,q0,q3,q6,q7,q8,hle,wk,ia1,ia2,ia3,la,lc,nil_cell,fldA,wrapN (aa.getD (k-1) 0) (c1.getD (k-1) 0) om,m6,wrap1 k om]
  exact⟨m,om,m,aa.set k (aa.getD (k-1) 0+c1.getD (k-1) 0),rfl,om,tt,tt,tt,tt,by rw[show 16-m=k+1 by omega],by rw[List.length_set]; exact haa,by rw[show 16-m=k+1 by omega]; exact hA',R5.same (o6 c hca),r6,⟨by have:=E5.next; omega,fun b hb=>by rw[o6 b (by have:=E2.next; omega)]; exact E5.old b hb⟩,om,om⟩
 | zero=>
 have hle:¬((16-0:Nat):Int)≤15:=om
 obtain rfl:aa=an:=by simpa[atG] using hA
 obtain⟨b,hb⟩:∃b,b=H5.next:=⟨_,rfl⟩
 obtain⟨H6,m6,r6,n6,o6⟩:=row_make1 (H:=H5) (z:=.int .i64 0) (bytes:=8) (k:=some_) om om
 rw[← hb]at m6 r6 o6
 obtain⟨H7,m7,r7,n7,o7⟩:=row_st (R5.same (o6 c om)) (cC_len c1 hc1l _ _) (i:=16) om (x:=slR b some_ (.known some_)) rfl (cC_16 c1 hc1l nilS (.int .i64 15) _).1
 have e2:=E2.next
 have e5:=E5.next
 simp only[sA,sB,Int.reduceNegSucc,reduceCtorEq,Nat.reduceEqDiff,↓reduceIte,Nat.reduceAdd,Int.reduceEq,Int.reduceLT,Int.reduceLE,Nat.reduceLT,q0,q3,q6,q7,q8,hle,m6,m7,nil_cell,fldA,hlen]
 obtain⟨sn,hsn⟩:∃q,symG ls 0 (List.replicate some_ 0) aa=some q:=by
  cases e:symG ls 0 (List.replicate some_ 0) aa with
  | none=>rw[e]at hM2; simp at hM2
  | some q=>exact⟨q,rfl⟩
 rw[hsn]at hM2
 obtain⟨rfl,rfl⟩:c1=cnt∧sn=syms:=by simpa using hM2
 have r6':Row H7 b (ints (List.replicate some_ 0)):=by
  have:ints (List.replicate some_ 0)=List.replicate some_ (.int .i64 0):=by simp[ints]
  rw[this]; exact r6.same (o7 b om)
 refine aw_loop (fun m (T:Env) H'=>∃(g:Nat) (sy aa:List Nat),m=ls.length-g∧g≤ls.length∧T 3=cellR c 18 0∧T 6=.int .i64 (some_:Int)∧T 7=cellR a 16 0∧T 65=v∧T 66=.int .i64 (ls.length:Int)∧T 67=.int .i64 (g:Int)∧aa.length=16∧sy.length=some_∧symG (ls.drop g) g sy aa=some sn∧Row H' c (ints c1++[slR b some_ (.known some_),.int .i64 15])∧Row H' a (ints aa)∧Row H' b (ints sy)∧Ext H.next H H'∧b<H'.next) ls.length
  ⟨0,List.replicate some_ 0,aa,rfl,Nat.zero_le _,by simp only[sA,sB,Int.reduceNegSucc,reduceCtorEq,Nat.reduceEqDiff,↓reduceIte,Nat.reduceAdd,Int.reduceEq,Int.reduceLT,Int.reduceLE,Nat.reduceLT,q3],by simp only[sA,sB,Int.reduceNegSucc,reduceCtorEq,Nat.reduceEqDiff,↓reduceIte,Nat.reduceAdd,Int.reduceEq,Int.reduceLT,Int.reduceLE,Nat.reduceLT,q6],by simp only[sA,sB,Int.reduceNegSucc,reduceCtorEq,Nat.reduceEqDiff,↓reduceIte,Nat.reduceAdd,Int.reduceEq,Int.reduceLT,Int.reduceLE,Nat.reduceLT,q7],by simp only[sA,sB,Int.reduceNegSucc,reduceCtorEq,Nat.reduceEqDiff,↓reduceIte,Nat.reduceAdd,Int.reduceEq,Int.reduceLT,Int.reduceLE,Nat.reduceLT],by simp only[sA,sB,Int.reduceNegSucc,reduceCtorEq,Nat.reduceEqDiff,↓reduceIte,Nat.reduceAdd,Int.reduceEq,Int.reduceLT,Int.reduceLE,Nat.reduceLT],by simp only[sA,sB,Int.reduceNegSucc,reduceCtorEq,Nat.reduceEqDiff,↓reduceIte,Nat.reduceAdd,Int.reduceEq,Int.reduceLT,Int.reduceLE,Nat.reduceLT]; try rfl,haa,by simp,by simpa using hsn,r7,A5.same (by rw[o7 a om,o6 a om]),r6',⟨om,fun x hx=>by rw[o7 x om,o6 x om]; exact E5.old x hx⟩,om⟩ ?_
 rintro m T3 H8 ⟨g,sy,ab,rfl,hg,p3,p6,p7,p65,p66,p67,hab,hsy,hS,R8,A8,B8,E8,bn8⟩
 by_cases hlt:g<ls.length
 ·have hlt':(g:Int)<(ls.length:Int):=om
  rw[drop_cons hlt]at hS
  obtain⟨l,hll⟩:∃l,l=ls.getD g 0:=⟨_,rfl⟩
  rw[← hll]at hS
  have ix:=hv.idx .i64 (i:=g) (by rw[ints_len]; exact hlt)
  have lx:=(hv.ext E8).load (ints_getD ls hlt)
  rw[← hll]at lx
  by_cases hl0:l=0
  ·subst hl0
   have hS':symG (ls.drop (g+1)) (g+1) sy ab=some sn:=by unfold symG at hS; rw[if_pos rfl]at hS; exact hS
   simp only[Int.natCast_zero]at lx
   simp only[sA,sB,Int.reduceNegSucc,reduceCtorEq,Nat.reduceEqDiff,↓reduceIte,Nat.reduceAdd,Int.reduceEq,Int.reduceLT,Int.reduceLE,Nat.reduceLT,p3,p6,p7,p65,p66,p67,hlt',ix,lx,wrap1 g om]
   exact⟨_,om,g+1,sy,ab,rfl,om,tt,tt,tt,tt,tt,tt,hab,hsy,hS',R8,A8,B8,E8,bn8⟩
  ·have hSS:l<16∧ab.getD l 0<sy.length:=Decidable.byContradiction fun hn=>by unfold symG at hS; rw[if_neg hl0,if_neg hn]at hS; simp at hS
   have hS':symG (ls.drop (g+1)) (g+1) (sy.set (ab.getD l 0) g) (ab.set l (ab.getD l 0+1))=some sn:=by
    unfold symG at hS; rw[if_neg hl0,if_pos hSS]at hS; exact hS
   have hl0':¬(l:Int)=0:=om
   have ls16:=row_load R8 (cC_len c1 hc1l _ _) (cC_16 c1 hc1l (slR b some_ (.known some_)) (.int .i64 15) nilS).2
   have ia:=idx_in (n:=16) (lim:=16) (c:=a) (k:=l) hSS.1
   have la:=row_load A8 (n:=16) (by rw[ints_len]; exact hab) (ints_getD ab (k:=l) om)
   have ib:=row_idx (b:=b) (n:=some_) (r:=.known some_) .i64 (i:=ab.getD l 0) om
   obtain⟨H9,m9,r9,n9,o9⟩:=row_st B8 (n:=some_) (by rw[ints_len]; exact hsy) (i:=ab.getD l 0) om (x:=.int .i64 (g:Int)) rfl (ints_setL sy _ _).symm
   have A9:Row H9 a (ints ab):=A8.same (o9 a om)
   have la':=row_load A9 (n:=16) (by rw[ints_len]; exact hab) (ints_getD ab (k:=l) om)
   obtain⟨HA,mA,rA,nA,oA⟩:=row_st A9 (n:=16) (by rw[ints_len]; exact hab) (i:=l) om (x:=.int .i64 ((ab.getD l 0+1:Nat):Int)) rfl (ints_setL ab _ _).symm
   simp only[sA,sB,Int.reduceNegSucc,reduceCtorEq,Nat.reduceEqDiff,↓reduceIte,Nat.reduceAdd,Int.reduceEq,Int.reduceLT,Int.reduceLE,Nat.reduceLT,p3,p6,p7,p65,p66,p67,hlt',ix,lx,hl0',nil_cell,fldA,ls16,ia,la,ib,m9,la',wrap1 (ab.getD l 0) om,mA,wrap1 g om]
   exact⟨_,om,g+1,sy.set (ab.getD l 0) g,ab.set l (ab.getD l 0+1),rfl,om,tt,tt,tt,tt,tt,tt,by rw[List.length_set]; exact hab,by rw[List.length_set]; exact hsy,hS',R8.same (by rw[oA c hca,o9 c om]),rA,r9.same (oA b om),⟨by have:=E8.next; omega,fun x hx=>by rw[oA x om,o9 x om]; exact E8.old x hx⟩,om⟩
 have hgl:g=ls.length:=om
 subst hgl
 have hlt':¬(ls.length:Int)<(ls.length:Int):=om
 rw[List.drop_of_length_le rL]at hS
 obtain rfl:sy=sn:=by simpa[symG] using hS
 have h1:¬(some_:Int)=1:=om
 simp only[sA,sB,Int.reduceNegSucc,reduceCtorEq,Nat.reduceEqDiff,↓reduceIte,Nat.reduceAdd,Int.reduceEq,Int.reduceLT,Int.reduceLE,Nat.reduceLT,p3,p6,p7,p65,p66,p67,hlt',h1]
 have hbl:Blk (slR b some_ (.known some_)) fun x=>x=b:=blk_some rfl
 exact⟨c,slR b some_ (.known some_),tt,⟨R8,hc1l,B8.cel (by rw[ints_len]; exact hsy) bn8,rfl⟩,om,om,hbl.mono fun x hx=>om,E8⟩
set_option maxRecDepth 100000 in
theorem z288:[AVal.int .i64 0,.int .i64 0,.int .i64 0,.int .i64 0,.int .i64 0,.int .i64 0,.int .i64 0,.int .i64 0,.int .i64 0,.int .i64 0,.int .i64 0,.int .i64 0,.int .i64 0,.int .i64 0,.int .i64 0,.int .i64 0,.int .i64 0,.int .i64 0,.int .i64 0,.int .i64 0,.int .i64 0,.int .i64 0,.int .i64 0,.int .i64 0,.int .i64 0,.int .i64 0,.int .i64 0,.int .i64 0,.int .i64 0,.int .i64 0,.int .i64 0,.int .i64 0,.int .i64 0,.int .i64 0,.int .i64 0,.int .i64 0,.int .i64 0,.int .i64 0,.int .i64 0,.int .i64 0,.int .i64 0,.int .i64 0,.int .i64 0,.int .i64 0,.int .i64 0,.int .i64 0,.int .i64 0,.int .i64 0,.int .i64 0,.int .i64 0,.int .i64 0,.int .i64 0,.int .i64 0,.int .i64 0,.int .i64 0,.int .i64 0,.int .i64 0,.int .i64 0,.int .i64 0,.int .i64 0,.int .i64 0,.int .i64 0,.int .i64 0,.int .i64 0,.int .i64 0,.int .i64 0,.int .i64 0,.int .i64 0,.int .i64 0,.int .i64 0,.int .i64 0,.int .i64 0,.int .i64 0,.int .i64 0,.int .i64 0,.int .i64 0,.int .i64 0,.int .i64 0,.int .i64 0,.int .i64 0,.int .i64 0,.int .i64 0,.int .i64 0,.int .i64 0,.int .i64 0,.int .i64 0,.int .i64 0,.int .i64 0,.int .i64 0,.int .i64 0,.int .i64 0,.int .i64 0,.int .i64 0,.int .i64 0,.int .i64 0,.int .i64 0,.int .i64 0,.int .i64 0,.int .i64 0,.int .i64 0,.int .i64 0,.int .i64 0,.int .i64 0,.int .i64 0,.int .i64 0,.int .i64 0,.int .i64 0,.int .i64 0,.int .i64 0,.int .i64 0,.int .i64 0,.int .i64 0,.int .i64 0,.int .i64 0,.int .i64 0,.int .i64 0,.int .i64 0,.int .i64 0,.int .i64 0,.int .i64 0,.int .i64 0,.int .i64 0,.int .i64 0,.int .i64 0,.int .i64 0,.int .i64 0,.int .i64 0,.int .i64 0,.int .i64 0,.int .i64 0,.int .i64 0,.int .i64 0,.int .i64 0,.int .i64 0,.int .i64 0,.int .i64 0,.int .i64 0,.int .i64 0,.int .i64 0,.int .i64 0,.int .i64 0,.int .i64 0,.int .i64 0,.int .i64 0,.int .i64 0,.int .i64 0,.int .i64 0,.int .i64 0,.int .i64 0,.int .i64 0,.int .i64 0,.int .i64 0,.int .i64 0,.int .i64 0,.int .i64 0,.int .i64 0,.int .i64 0,.int .i64 0,.int .i64 0,.int .i64 0,.int .i64 0,.int .i64 0,.int .i64 0,.int .i64 0,.int .i64 0,.int .i64 0,.int .i64 0,.int .i64 0,.int .i64 0,.int .i64 0,.int .i64 0,.int .i64 0,.int .i64 0,.int .i64 0,.int .i64 0,.int .i64 0,.int .i64 0,.int .i64 0,.int .i64 0,.int .i64 0,.int .i64 0,.int .i64 0,.int .i64 0,.int .i64 0,.int .i64 0,.int .i64 0,.int .i64 0,.int .i64 0,.int .i64 0,.int .i64 0,.int .i64 0,.int .i64 0,.int .i64 0,.int .i64 0,.int .i64 0,.int .i64 0,.int .i64 0,.int .i64 0,.int .i64 0,.int .i64 0,.int .i64 0,.int .i64 0,.int .i64 0,.int .i64 0,.int .i64 0,.int .i64 0,.int .i64 0,.int .i64 0,.int .i64 0,.int .i64 0,.int .i64 0,.int .i64 0,.int .i64 0,.int .i64 0,.int .i64 0,.int .i64 0,.int .i64 0,.int .i64 0,.int .i64 0,.int .i64 0,.int .i64 0,.int .i64 0,.int .i64 0,.int .i64 0,.int .i64 0,.int .i64 0,.int .i64 0,.int .i64 0,.int .i64 0,.int .i64 0,.int .i64 0,.int .i64 0,.int .i64 0,.int .i64 0,.int .i64 0,.int .i64 0,.int .i64 0,.int .i64 0,.int .i64 0,.int .i64 0,.int .i64 0,.int .i64 0,.int .i64 0,.int .i64 0,.int .i64 0,.int .i64 0,.int .i64 0,.int .i64 0,.int .i64 0,.int .i64 0,.int .i64 0,.int .i64 0,.int .i64 0,.int .i64 0,.int .i64 0,.int .i64 0,.int .i64 0,.int .i64 0,.int .i64 0,.int .i64 0,.int .i64 0,.int .i64 0,.int .i64 0,.int .i64 0,.int .i64 0,.int .i64 0,.int .i64 0,.int .i64 0,.int .i64 0,.int .i64 0,.int .i64 0,.int .i64 0,.int .i64 0,.int .i64 0,.int .i64 0,.int .i64 0,.int .i64 0,.int .i64 0,.int .i64 0,.int .i64 0,.int .i64 0,.int .i64 0,.int .i64 0,.int .i64 0,.int .i64 0,.int .i64 0,.int .i64 0,.int .i64 0]=ints (List.replicate 288 0):=_root_.id rfl
theorem z32:[AVal.int .i64 0,.int .i64 0,.int .i64 0,.int .i64 0,.int .i64 0,.int .i64 0,.int .i64 0,.int .i64 0,.int .i64 0,.int .i64 0,.int .i64 0,.int .i64 0,.int .i64 0,.int .i64 0,.int .i64 0,.int .i64 0,.int .i64 0,.int .i64 0,.int .i64 0,.int .i64 0,.int .i64 0,.int .i64 0,.int .i64 0,.int .i64 0,.int .i64 0,.int .i64 0,.int .i64 0,.int .i64 0,.int .i64 0,.int .i64 0,.int .i64 0,.int .i64 0]=ints (List.replicate 32 0):=_root_.id rfl
def fixL(g:Nat):List Nat:=nearL.take g++List.replicate (288-g) 0
theorem near_at:(List.range 288).all (fun g=>Nat.beq (nearL.getD g 0) (if g<144 then 8 else if g<256 then 9 else if g<280 then 7 else 8))=true:=by decide +kernel
theorem near_len:nearL.length=288:=by decide +kernel
theorem fixL_set(g:Nat)(hg:g<288):(fixL g).set g (nearL.getD g 0)=fixL (g+1):=by
 have hn:=near_len
 unfold fixL
 rw[List.set_append_right _ _ (by rw[List.length_take]; omega),List.length_take,show g-min g nearL.length=0 by omega]
 have e:List.replicate (288-g) 0=(0:Nat)::List.replicate (288-(g+1)) 0:=by rw[← List.replicate_succ]; congr 1; omega
 rw[e,List.set_cons_zero,List.take_add_one,List.append_assoc]
 congr 1
 rw[List.getD_eq_getElem?_getD,List.getElem?_eq_getElem (by omega:g<nearL.length)]; rfl
theorem fixL_len(g:Nat)(hg:g≤288):(fixL g).length=288:=by
 have hn:=near_len
 unfold fixL; rw[lA,List.length_take,List.length_replicate]; omega
def farG(g:Nat):List Nat:=List.replicate g 5++List.replicate (32-g) 0
theorem farG_set(g:Nat)(hg:g<32):(farG g).set g 5=farG (g+1):=by
 unfold farG
 rw[List.set_append_right _ _ (by simp),List.length_replicate,Nat.sub_self]
 have e:List.replicate (32-g) 0=(0:Nat)::List.replicate (32-(g+1)) 0:=by rw[← List.replicate_succ]; congr 1; omega
 rw[e,List.set_cons_zero,List.replicate_succ',List.append_assoc]; rfl
theorem farG_len(g:Nat)(hg:g≤32):(farG g).length=32:=by
 unfold farG; rw[lA,List.length_replicate,List.length_replicate]; omega
theorem sl_arr{b n:Nat}(hn:0<n):aSlArr n 1 (cellR b n 0) none none none=some (slR b n (.known n)):=by
 have e:Nat.beq n 0=false:=by rw[beq_dec]; exact decide_eq_false om
 simp only[aSlArr,cellR,slR,aBnd,bdO,Option.getD_none,e,cond_false,Nat.zero_mul,Nat.add_zero,Nat.sub_zero]
set_option maxRecDepth 100000 in
theorem fixed_spec{H:AHeap} :
  ACalls Tryz.prog natT 111 [] H fun w H'=>∃c sv c' sv',w=.tuple [cellR c 18 0,cellR c' 18 0]∧CD H' c sv (cntT nearL) (symT nearL) 15∧CD H' c' sv' (cntT farL) (symT farL) 15∧(∀x,x=c∨x=c'→H.next≤x∧x<H'.next)∧Blk sv (fun b=>H.next≤b∧b<H'.next)∧Blk sv' (fun b=>H.next≤b∧b<H'.next)∧Ext H.next H H':=by
 refine acalls_ofN rfl za111 rfl ?_
 obtain⟨a,ha⟩:∃a,a=H.next:=⟨_,rfl⟩
 obtain⟨H1,m1,r1,n1,o1⟩:=row_newL H (ints (List.replicate 288 0)) (n:=288) (by rw[ints_len,List.length_replicate])
 rw[← ha]at m1 r1 o1
 rw[← z288]at m1
 simp only[c111,sA,sB,seval,m1]
 refine aw_loop (fun m (T:Env) H'=>∃g,m=288-g∧g≤288∧T 2=cellR a 288 0∧T 6=.int .i64 (g:Int)∧Row H' a (ints (fixL g))∧Ext H.next H H'∧H'.next=a+1) 288
  ⟨0,rfl,om,by simp only[sA,sB,seval],by simp only[sA,sB,seval]; try rfl,by unfold fixL; simpa using r1,⟨om,fun b hb=>o1 b om⟩,om⟩ ?_
 rintro m T H2 ⟨g,rfl,hg,g2,g6,R2,E2,n2⟩
 by_cases hlt:g<288
 ·have hlt':(g:Int)<288:=om
  have ia:=idx_in (n:=288) (lim:=288) (c:=a) (k:=g) hlt
  have hat:nearL.getD g 0=if g<144 then 8 else if g<256 then 9 else if g<280 then 7 else 8:=by
   have:=List.all_eq_true.1 near_at g (List.mem_range.2 hlt)
   simpa using this
  have hs:=fixL_set g hlt
  rw[hat]at hs
  obtain⟨H3,m3,r3,n3,o3⟩:=row_st R2 (n:=288) (by rw[ints_len]; exact fixL_len g hg) (i:=g) hlt (x:=.int .i64 ((if g<144 then 8 else if g<256 then 9 else if g<280 then 7 else 8:Nat):Int)) rfl (l':=ints (fixL (g+1))) (by rw[← hs,ints_setL])
  have E3:Ext H.next H H3:=⟨om,fun b hb=>by rw[o3 b om]; exact E2.old b hb⟩
  by_cases c1:g<144
  ·have c1':(g:Int)<144:=om
   rw[if_pos c1]at m3
   have m3':oStore 1 H2 (cellR a 288 g) (.int .i64 8)=some H3:=m3
   simp only[sA,sB,seval,g2,g6,hlt',c1',ia,m3',wrap1 g om]
   exact⟨_,om,g+1,rfl,om,tt,tt,r3,E3,om⟩
  ·have c1':¬(g:Int)<144:=om
   rw[if_neg c1]at m3
   by_cases c2:g<256
   ·have c2':(g:Int)<256:=om
    rw[if_pos c2]at m3
    have m3':oStore 1 H2 (cellR a 288 g) (.int .i64 9)=some H3:=m3
    simp only[sA,sB,seval,g2,g6,hlt',c1',c2',ia,m3',wrap1 g om]
    exact⟨_,om,g+1,rfl,om,tt,tt,r3,E3,om⟩
   ·have c2':¬(g:Int)<256:=om
    rw[if_neg c2]at m3
    by_cases c3:g<280
    ·have c3':(g:Int)<280:=om
     rw[if_pos c3]at m3
     have m3':oStore 1 H2 (cellR a 288 g) (.int .i64 7)=some H3:=m3
     simp only[sA,sB,seval,g2,g6,hlt',c1',c2',c3',ia,m3',wrap1 g om]
     exact⟨_,om,g+1,rfl,om,tt,tt,r3,E3,om⟩
    ·have c3':¬(g:Int)<280:=om
     rw[if_neg c3]at m3
     have m3':oStore 1 H2 (cellR a 288 g) (.int .i64 8)=some H3:=m3
     simp only[sA,sB,seval,g2,g6,hlt',c1',c2',c3',ia,m3',wrap1 g om]
     exact⟨_,om,g+1,rfl,om,tt,tt,r3,E3,om⟩
 obtain rfl:g=288:=om
 have hlt':¬(((288:Nat):Int)<288):=om
 have R2':Row H2 a (ints nearL):=by
  have e:fixL 288=nearL:=by unfold fixL; rw[← near_len,List.take_length,near_len]; simp
  rw[e]at R2; exact R2
 obtain⟨b,hb⟩:∃b,b=H2.next:=⟨_,rfl⟩
 obtain⟨H3,m3,r3,n3,o3⟩:=row_newL H2 (ints (List.replicate 32 0)) (n:=32) (by rw[ints_len,List.length_replicate])
 rw[← hb]at m3 r3 o3
 rw[← z32]at m3
 simp only[sA,sB,seval,g2,g6,hlt',m3]
 have e2:=E2.next
 refine aw_loop (fun m (T:Env) H'=>∃g,m=32-g∧g≤32∧T 2=cellR a 288 0∧T 4=cellR b 32 0∧T 27=.int .i64 (g:Int)∧Row H' a (ints nearL)∧Row H' b (ints (farG g))∧Ext H.next H H'∧H'.next=b+1) 32
  ⟨0,rfl,om,by simp only[sA,sB,seval,g2],by simp only[sA,sB,seval],by simp only[sA,sB,seval]; try rfl,R2'.same (o3 a om),by unfold farG; simpa using r3,⟨om,fun x hx=>by rw[o3 x om]; exact E2.old x hx⟩,om⟩ ?_
 rintro m T H4 ⟨g,rfl,hg,q2,q4,q27,R4,B4,E4,n4⟩
 by_cases hlt:g<32
 ·have hlt':(g:Int)<32:=om
  have ia:=idx_in (n:=32) (lim:=32) (c:=b) (k:=g) hlt
  obtain⟨H5,m5,r5,n5,o5⟩:=row_st B4 (n:=32) (by rw[ints_len]; exact farG_len g hg) (i:=g) hlt (x:=.int .i64 5) rfl (l':=ints (farG (g+1))) (by rw[← farG_set g hlt,ints_setL]; rfl)
  simp only[sA,sB,seval,q2,q4,q27,hlt',ia,m5,wrap1 g om]
  exact⟨_,om,g+1,rfl,om,tt,tt,tt,R4.same (o5 a om),r5,⟨om,fun x hx=>by rw[o5 x om]; exact E4.old x hx⟩,om⟩
 obtain rfl:g=32:=om
 have hlt':¬(((32:Nat):Int)<32):=om
 have B4':Row H4 b (ints farL):=B4
 have s1:=sl_arr (b:=a) (n:=288) om
 have s2:=sl_arr (b:=b) (n:=32) om
 simp only[sA,sB,seval,q2,q4,q27,hlt',s1,s2]
 refine (coded_spec (R4.cel (r:=.known 288) (by rw[ints_len]; exact near_len) om) (by rw[near_len]; omega) codeM_near).mono ?_
 rintro _ H5 ⟨c,sv,rfl,C1,cn1,cl1,sb1,E5⟩
 simp only[sA,sB,seval,q4,s2]
 have e5:=E5.next
 refine (coded_spec ((B4'.same (E5.old b om)).cel (n:=32) (r:=.known 32) (by simp[ints_len,farL]) om) dD codeM_far).mono ?_
 rintro _ H6 ⟨c',sv',rfl,C2,cn2,cl2,sb2,E6⟩
 simp only[sA,sB,seval]
 have e6:=E6.next
 refine⟨c,sv,c',sv',tt,C1.same e6 (E6.old c om) (sb1.mono fun x hx=>E6.old x om),C2,?_,sb1.mono fun x hx=>?_,sb2.mono fun x hx=>?_,(E4.trans (E5.less om)).trans (E6.less om)⟩
 ·rintro x (rfl | rfl) <;> omega
 ·omega
 ·omega
def rS(k:Nat):Prop:=k=1∨k=2∨k=4
def TBL(κ:Nat→Nat)(H:AHeap)(c c':Nat):Prop:=∃sv sv',CD H c sv (cntT nearL) (symT nearL) 15∧CD H c' sv' (cntT farL) (symT farL) 15∧(κ c=5∧c<H.next)∧(κ c'=5∧c'<H.next)∧Blk sv (fun b=>κ b=5∧b<H.next)∧Blk sv' (fun b=>κ b=5∧b<H.next)
theorem TBL.fr{S:Nat→Prop}{κ κ':Nat→Nat}{H H':AHeap}{c c':Nat}(h:TBL κ H c c')(f:FrS S κ H κ' H')(h5:¬S 5):TBL κ' H' c c':=by
 obtain⟨sv,sv',h1,h2,⟨h3,h3'⟩,⟨h4,h4'⟩,b1,b2⟩:=h
 have fn:=f.1
 have g:∀x,κ x=5∧x<H.next→(κ' x=5∧x<H'.next)∧H'.get x=H.get x:=fun x hx=>by
  obtain⟨e1,e2⟩:=f.2 x hx.2
  exact⟨⟨e1.trans hx.1,om⟩,e2 (by rw[hx.1]; exact h5)⟩
 exact⟨sv,sv',h1.same fn (g c ⟨h3,h3'⟩).2 (b1.mono fun x hx=>(g x hx).2),h2.same fn (g c' ⟨h4,h4'⟩).2 (b2.mono fun x hx=>(g x hx).2),(g c ⟨h3,h3'⟩).1,(g c' ⟨h4,h4'⟩).1,b1.mono fun x hx=>(g x hx).1,b2.mono fun x hx=>(g x hx).1⟩
structure RO(κ:Nat→Nat)(H:AHeap)(r i:Nat)(bv out:AVal)(d:Bs)(p:Nat)(o:Bs)(most:Nat)(near far:AVal):Prop where
 row:Row H r (rC i out most near far)
 rd:RD H i bv d p
 ap:AppN 1 0 H out (byts o) o.length
 kr:κ r=1∧r<H.next
 ki:κ i=2∧i<H.next
 kb:Blk bv fun b=>κ b=3∧b<H.next
 ko:Blk out fun b=>κ b=4∧b<H.next
 tz:∀c,H.next≤c→κ c=0
theorem rS5:¬rS 5:=by unfold rS; omega
theorem rS0:¬rS 0:=by unfold rS; omega
theorem RO.at{κ:Nat→Nat}{H H':AHeap}{r i:Nat}{bv out:AVal}{d:Bs}{p:Nat}{o:Bs}{most:Nat}{near far:AVal}(R:RO κ H r i bv out d p o most near far){q:Nat}(h:RD H' i bv d q)(hn:H'.next=H.next)(e:∀c,c≠i→H'.get c=H.get c):RO κ H' r i bv out d q o most near far∧FrS rS κ H κ H':=by
 have hki:=R.ki
 have hkr:=R.kr
 have ne:∀c,κ c≠2→c≠i:=by rintro c hc rfl; exact hc hki.1
 refine⟨⟨R.row.same (e r (ne r om)),h,R.ap.same om (R.ko.mono fun b hb=>e b (ne b om)),⟨hkr.1,om⟩,⟨hki.1,om⟩,R.kb.mono fun b hb=>om,R.ko.mono fun b hb=>om,fun c hc=>R.tz c om⟩,om,fun c _=>⟨rfl,fun hc=>e c (by rintro rfl; exact hc (.inr (.inl hki.1)))⟩⟩
theorem RO.len{κ:Nat→Nat}{H:AHeap}{r i:Nat}{bv out:AVal}{d:Bs}{p:Nat}{o:Bs}{most:Nat}{near far:AVal}(R:RO κ H r i bv out d p o most near far):aLenK false out=some (.int .i64 (o.length:Int)):=R.ap.len
theorem app_aeq{m n k:Nat}{H:AHeap}{s:AVal}{L:List AVal}(h:AppN m n H s L k):aeq s s=true:=by
 rcases h with⟨e,_⟩ | ⟨b,low,e,_⟩
 ·rw[e]; exact aeq_nilS
 ·rw[e]; exact aeq_open _ _ _
theorem RO.push{κ:Nat→Nat}{H:AHeap}{r i:Nat}{bv out:AVal}{d:Bs}{p:Nat}{o:Bs}{most:Nat}{near far:AVal}(R:RO κ H r i bv out d p o most near far)(x:UInt8)(ho:o.length≤1000000) :
  ∃s H1 H2 κ',aAppend 1 1 (H.push (.cells [.int .u8 (x.toNat:Int)] 0 false)) out (oneS H)=some (s,H1)∧oStore 1 H1 (cellR r 5 1) s=some H2∧RO κ' H2 r i bv s d p (o++[x]) most near far∧FrS rS κ H κ' H2:=by
 have hki:=R.ki
 have hkr:=R.kr
 obtain⟨s,H1,m1,A1,n1,b1,o1⟩:=R.ap.pushB (m:=1) (xs:=[.int .u8 (x.toNat:Int)]) rfl rfl om (bytes:=1) om om
 have hne:∀c,κ c≠4→Blk out (c≠·):=fun c hc=>R.ko.mono fun b hb e=>hc (by rw[e]; exact hb.1)
 have er:=o1 r hkr.2 (hne r om)
 obtain⟨H2,m2,r2,n2,o2⟩:=row_st (R.row.same er) (n:=5) rfl (i:=1) om (x:=s) (app_one A1) (l':=rC i s most near far) rfl
 have sb:Blk s fun b=>(κ b=4∧b<H.next)∨H.next≤b:=b1 _ R.ko
 have sb2:Blk s fun b=>((κ b=4∧b<H.next)∨H.next≤b)∧b<H1.next:=sb.and A1.blk'
 have ei:H2.get i=H.get i:=by rw[o2 i (by rintro rfl; omega),o1 i hki.2 (hne i om)]
 have eb:Blk bv fun c=>H2.get c=H.get c:=R.kb.mono fun c hc=>by rw[o2 c (by rintro rfl; omega),o1 c hc.2 (hne c om)]
 refine⟨s,H1,H2,upT κ H H2 4,m1,m2,⟨r2,R.rd.same om ei eb,?_,⟨by rw[upT_old hkr.2]; exact hkr.1,om⟩,⟨by rw[upT_old hki.2]; exact hki.1,om⟩,R.kb.mono fun b hb=>⟨by rw[upT_old hb.2]; exact hb.1,om⟩,sb2.mono fun b hb=>?_,fun c hc=>upT_z om hc⟩,om,fun c hc=>⟨upT_old hc,fun hs=>?_⟩⟩
 ·have A2:=A1.same (H':=H2) om (sb2.mono fun c hc=>o2 c (by rintro rfl; omega))
  rw[byts_append,lA]
  exact A2
 ·rcases hb.1 with h | h
  ·exact⟨by rw[upT_old h.2]; exact h.1,om⟩
  ·exact⟨upT_new h om,om⟩
 ·rw[o2 c (by rintro rfl; exact hs (.inl hkr.1)),o1 c hc (hne c fun e=>hs (.inr (.inr e)))]
theorem near_cn:∀k,(cntT nearL).getD k 0≤1000:=by
 intro k
 by_cases h:k<16
 ·have a:(List.range 16).all (fun k=>Nat.ble ((cntT nearL).getD k 0) 1000)=true:=by decide +kernel
  have:=List.all_eq_true.1 a k (List.mem_range.2 h)
  simpa using this
 ·have hl:(cntT nearL).length=16:=by simp[cntT]
  rw[List.getD_eq_getElem?_getD,List.getElem?_eq_none om]; simp
theorem far_cn:∀k,(cntT farL).getD k 0≤1000:=by
 intro k
 by_cases h:k<16
 ·have a:(List.range 16).all (fun k=>Nat.ble ((cntT farL).getD k 0) 1000)=true:=by decide +kernel
  have:=List.all_eq_true.1 a k (List.mem_range.2 h)
  simpa using this
 ·have hl:(cntT farL).length=16:=by simp[cntT]
  rw[List.getD_eq_getElem?_getD,List.getElem?_eq_none om]; simp
def nearM(S:List Bool)(p:Nat):SR Nat:=symM (cntT nearL) (symT nearL) S 15 1 0 0 0 p
def farM(S:List Bool)(p:Nat):SR Nat:=symM (cntT farL) (symT farL) S 15 1 0 0 0 p
theorem near_ro{κ:Nat→Nat}{H:AHeap}{r i c c':Nat}{bv out:AVal}{d:Bs}{p:Nat}{o:Bs}{most:Nat}{near far:AVal}(R:RO κ H r i bv out d p o most near far)(T:TBL κ H c c')(hd:d.length≤1000000)(hu:nearM (bitsB d) p≠.unk) :
  ACalls Tryz.prog natT 1147 [cellR r 5 0,cellR c 18 0] H fun w H'=>FrS rS κ H κ H'∧((∃s q,nearM (bitsB d) p=.ok s q∧w=.int .i64 (s:Int)∧RO κ H' r i bv out d q o most near far)∨∃e,nearM (bitsB d) p=.bad e∧w=fault e):=by
 obtain⟨sv,sv',h1,h2,⟨h3,h3'⟩,⟨h4,h4'⟩,b1,b2⟩:=T
 have hki:=R.ki
 have hkr:=R.kr
 refine (sym_spec R.row R.rd h1 (by rintro rfl; omega) (by rintro rfl; omega) (b1.mono fun b hb=>by rintro rfl; omega) rL near_cn hd hu).mono ?_
 rintro w H' ⟨q,k1,k2,k3,k4⟩
 obtain⟨R',F⟩:=R.at k1 k2 k3
 refine⟨F,?_⟩
 rcases k4 with⟨s,e1,e2⟩ | ⟨e,e1,e2⟩
 ·exact .inl ⟨s,q,e1,e2,R'⟩
 ·exact .inr ⟨e,e1,e2⟩
theorem far_ro{κ:Nat→Nat}{H:AHeap}{r i c c':Nat}{bv out:AVal}{d:Bs}{p:Nat}{o:Bs}{most:Nat}{near far:AVal}(R:RO κ H r i bv out d p o most near far)(T:TBL κ H c c')(hd:d.length≤1000000)(hu:farM (bitsB d) p≠.unk) :
  ACalls Tryz.prog natT 1147 [cellR r 5 0,cellR c' 18 0] H fun w H'=>FrS rS κ H κ H'∧((∃s q,farM (bitsB d) p=.ok s q∧w=.int .i64 (s:Int)∧RO κ H' r i bv out d q o most near far)∨∃e,farM (bitsB d) p=.bad e∧w=fault e):=by
 obtain⟨sv,sv',h1,h2,⟨h3,h3'⟩,⟨h4,h4'⟩,b1,b2⟩:=T
 have hki:=R.ki
 have hkr:=R.kr
 refine (sym_spec R.row R.rd h2 (by rintro rfl; omega) (by rintro rfl; omega) (b2.mono fun b hb=>by rintro rfl; omega) rL far_cn hd hu).mono ?_
 rintro w H' ⟨q,k1,k2,k3,k4⟩
 obtain⟨R',F⟩:=R.at k1 k2 k3
 refine⟨F,?_⟩
 rcases k4 with⟨s,e1,e2⟩ | ⟨e,e1,e2⟩
 ·exact .inl ⟨s,q,e1,e2,R'⟩
 ·exact .inr ⟨e,e1,e2⟩
theorem span_ro{κ:Nat→Nat}{H:AHeap}{r i:Nat}{bv out:AVal}{d:Bs}{p:Nat}{o:Bs}{most:Nat}{near far:AVal}(R:RO κ H r i bv out d p o most near far)(sp gr:Nat)(hg:0<gr)(hg4:gr≤4)(hs:sp≤29)(hd:d.length≤1000000) :
  ACalls Tryz.prog natT 1158 [cellR r 5 0,.int .i64 (sp:Int),.int .i64 (gr:Int)] H fun w H'=>FrS rS κ H κ H'∧((∃s q,spanM sp gr (bitsB d) p=.ok s q∧s≤10000000000∧w=.int .i64 (s:Int)∧RO κ H' r i bv out d q o most near far)∨∃e,spanM sp gr (bitsB d) p=.bad e∧w=fault e):=by
 refine (span_spec R.row R.rd sp gr hg hg4 hs hd).mono ?_
 rintro w H' ⟨q,k1,k2,k3,k4⟩
 obtain⟨R',F⟩:=R.at k1 k2 k3
 refine⟨F,?_⟩
 rcases k4 with⟨s,e1,e2,e3⟩ | ⟨e,e1,e2⟩
 ·exact .inl ⟨s,q,e1,e2,e3,R'⟩
 ·exact .inr ⟨e,e1,e2⟩
def SR.bind{α β:Type}(x:SR α)(f:α→Nat→SR β):SR β:=match x with
 | .ok a p=>f a p
 | .bad e=>.bad e
 | .unk=>.unk
def copyB(back:Nat):Nat→Bs→Bs
 | 0,o=>o
 | n+1,o=>copyB back n (o++[o.getD (o.length-back) 0])
def matchR(S:List Bool)(most long:Nat)(o:Bs)(q:Nat):SR Bs:=(farM S q).bind fun s q2=>if 30≤s then .bad 10 else (spanM s 2 S q2).bind fun k q3=>if o.length<1+k then .bad 10 else if most<o.length+long then .bad 3 else .ok (copyB (1+k) long o) q3
def lenM(sp:Nat)(S:List Bool)(p:Nat):SR Nat:=if sp<28 then (spanM sp 4 S p).bind fun s q=>.ok (3+s) q else .ok 258 p
def matchM(S:List Bool)(most sp:Nat)(o:Bs)(p:Nat):SR Bs:=(lenM sp S p).bind fun long q=>matchR S most long o q
theorem mrest_spec{κ:Nat→Nat}{T:Env}{H:AHeap}{Q:Post}{r i c c':Nat}{bv out:AVal}{d:Bs}{p:Nat}{o:Bs}{most long:Nat}{near far:AVal}(R:RO κ H r i bv out d p o most near far)(TB:TBL κ H c c')(hd:d.length≤1000000)(hm:most≤100000)(ho:o.length≤100000)(hl:long≤1000)
  (g0:T 0=cellR r 5 0) (g2:T 2=cellR c' 18 0) (g6:T 6=.int .i64 (long:Int)) (u62:isU (T 62)=true) (u63:isU (T 63)=true) (hu:matchR (bitsB d) most long o p≠.unk)
  (hN:∀T2 H2 κ2 out2 o2 q2,matchR (bitsB d) most long o p=.ok o2 q2→isU (T2 62)=true→isU (T2 63)=true→FrS rS κ H κ2 H2→RO κ2 H2 r i bv out2 d q2 o2 most near far→Q .normal T2 H2)
  (hE:∀T2 H2 κ2 e,matchR (bitsB d) most long o p=.bad e→T2 62=fault e→isU (T2 63)=true→FrS rS κ H κ2 H2→Q (.exit 1000000) T2 H2) :
  wp (ACalls Tryz.prog natT) (hold (restP [0,2,1,1] c1148.body)) Q T H:=by
 have hfu:farM (bitsB d) p≠.unk:=fun e=>hu (by unfold matchR; rw[e]; rfl)
 simp only[c1148,restP,hold_eq,sA,sB,seval,g0,g2,g6]
 refine (far_ro R TB hd hfu).mono ?_
 rintro _ H1 ⟨F1,⟨s,q,e1,rfl,R1⟩ | ⟨e,e1,rfl⟩⟩
 ·have hM:matchR (bitsB d) most long o p=if 30≤s then .bad 10 else (spanM s 2 (bitsB d) q).bind fun k q3=>if o.length<1+k then .bad 10 else if most<o.length+long then .bad 3 else .ok (copyB (1+k) long o) q3:=by
   unfold matchR; rw[e1]; rfl
  by_cases hs:30≤s
  ·have hs':(30:Int)≤(s:Int):=om
   rw[if_pos hs]at hM
   simp only[sA,sB,seval,pf_isP,isPan_int,g0,g2,g6,hs',pf_mkP,pf_isU]
   exact hE _ _ κ 10 hM tt (by simp only[sA,sB,seval]; exact u63) F1
  ·have hs':¬(30:Int)≤(s:Int):=om
   rw[if_neg hs]at hM
   simp only[sA,sB,seval,pf_isP,isPan_int,g0,g2,g6,hs']
   refine (span_ro R1 s 2 om om om hd).mono ?_
   rintro _ H2 ⟨F2,⟨k,q3,e2,hk,rfl,R2⟩ | ⟨e,e2,rfl⟩⟩
   ·rw[e2]at hM
    simp only[SR.bind]at hM
    have wk:IntKind.i64.wrap (1+(k:Int))=((1+k:Nat):Int):=w64
    have l1:oLoad false 1 H2 (cellR r 5 1)=some out:=row_load R2.row rfl rfl
    have hlen:=R2.len
    by_cases hb:o.length<1+k
    ·have hb':(o.length:Int)<((1+k:Nat):Int):=om
     rw[if_pos hb]at hM
     simp only[sA,sB,seval,pf_isP,isPan_int,g0,g2,g6,wk,nil_cell,fldA,l1,hlen,hb',pf_mkP,pf_isU]
     exact hE _ _ κ 10 hM tt (by simp only[sA,sB,seval]; exact u63) (F1.trans F2)
    ·have hb':¬(o.length:Int)<((1+k:Nat):Int):=om
     rw[if_neg hb]at hM
     simp only[sA,sB,seval,pf_isP,isPan_int,g0,g2,g6,wk,nil_cell,fldA,l1,hlen,hb']
     refine (room_spec R2.row hlen long om hm ho).mono ?_
     rintro _ _ ⟨⟨hr,rfl⟩ | ⟨hr,rfl⟩,rfl⟩
     ·rw[if_neg om]at hM
      simp only[sA,sB,seval,pf_isP,isPan,g0,g6]
      refine aw_loop (fun m (T:Env) H'=>∃g κ2 out2 o2,m=long-g∧g≤long∧T 0=cellR r 5 0∧T 8=.int .i64 ((1+k:Nat):Int)∧T 36=.int .i64 (long:Int)∧T 37=.int .i64 (g:Int)∧isU (T 62)=true∧isU (T 63)=true∧o2.length=o.length+g∧copyB (1+k) (long-g) o2=copyB (1+k) long o∧FrS rS κ H κ2 H'∧RO κ2 H' r i bv out2 d q3 o2 most near far) long
       ⟨0,κ,out,o,rfl,Nat.zero_le _,by simp only[sA,sB,seval,g0],by simp only[sA,sB,seval],by simp only[sA,sB,seval],by simp only[sA,sB,seval]; try rfl,by simp only[sA,sB,seval]; exact u62,by simp only[sA,sB,seval]; exact u63,rfl,rfl,F1.trans F2,R2⟩ ?_
      rintro m T H3 ⟨g,κ2,out2,o2,rfl,hg,q0,q8,q36,q37,v62,v63,hol,hcp,F3,R3⟩
      by_cases hlt:g<long
      ·have hlt':(g:Int)<(long:Int):=om
       obtain⟨x,hx⟩:∃x,x=o2.getD (o2.length-(1+k)) 0:=⟨_,rfl⟩
       obtain⟨s3,H4,H5,κ3,m4,m5,R5,F5⟩:=R3.push x om
       have hcp':copyB (1+k) (long-(g+1)) (o2++[x])=copyB (1+k) long o:=by
        rw[← hcp,show long-g=(long-(g+1))+1 by omega,hx]; rfl
       have l1a:oLoad false 1 H3 (cellR r 5 1)=some out2:=row_load R3.row rfl rfl
       have l1b:oLoad false 1 (H3.push (.cells [.int .u8 (x.toNat:Int)] 0 false)) (cellR r 5 1)=some out2:=row_load (R3.row.same (get_push_lt R3.kr.2)) rfl rfl
       have wb:IntKind.i64.wrap ((o2.length:Int)-((1+k:Nat):Int))=((o2.length-(1+k):Nat):Int):=w64
       have C3:=R3.ap.cel1 R3.ap.blk'
       have ix:=C3.idx .i64 (i:=o2.length-(1+k)) (by rw[byts_len]; omega)
       have lx:=C3.load (i:=o2.length-(1+k)) (byts_get (b:=x) (by rw[hx,List.getD_eq_getElem?_getD,List.getElem?_eq_getElem om]; rfl))
       have bld:=build1 (.int .u8 0) H3 (x:=.int .u8 (x.toNat:Int)) rfl
       simp only[sA,sB,seval,q0,q8,q36,q37,hlt']
       refine aw_drawC rfl ?_
       simp only[sA,sB,seval,sR,q0,q8,nil_cell,fldA,l1a,R3.len,wb,ix,lx,bld,m4,m5]
       simp only[ck_nil',ck_cons,ckP_load,ckP_nil,ck_end,and_true,true_and,List.map_cons,List.map_nil,sA,sB,seval,q0,q8,fldA]
       refine⟨⟨_,rfl,fun _=>⟨_,l1b,app_aeq R3.ap⟩⟩,?_⟩
       simp only[sA,sB,seval,q0,q8,q36,q37,wrap1 g om]
       exact⟨_,om,g+1,κ3,s3,o2++[x],rfl,om,tt,tt,tt,tt,tt,tt,by rw[lA,hol]; rfl,hcp',F3.trans F5,R5⟩
      ·have hlt':¬(g:Int)<(long:Int):=om
       obtain rfl:g=long:=om
       rw[Nat.sub_self]at hcp
       simp only[copyB]at hcp
       rw[← hcp]at hM
       simp only[sA,sB,seval,q0,q8,q36,q37,hlt']
       exact hN _ _ κ2 out2 o2 q3 hM (by simp only[sA,sB,seval]; exact v62) (by simp only[sA,sB,seval]; exact v63) F3 R3
     ·rw[if_pos om]at hM
      simp only[sA,sB,seval,fault,pf_isP,isPan_pan]
      exact hE _ _ κ 3 hM tt (by simp only[sA,sB,seval]; exact u63) (F1.trans F2)
   ·rw[e2]at hM
    simp only[sA,sB,seval,fault,pf_isP,isPan_pan]
    exact hE _ _ κ e hM tt (by simp only[sA,sB,seval]; exact u63) (F1.trans F2)
 ·have hM:matchR (bitsB d) most long o p=.bad e:=by unfold matchR; rw[e1]; rfl
  simp only[sA,sB,seval,fault,pf_isP,isPan_pan]
  exact hE _ _ κ e hM tt (by simp only[sA,sB,seval]; exact u63) F1
theorem lenM_le{sp s q:Nat}{S:List Bool}{p:Nat}(h:spanM sp 4 S p=.ok s q)(hs:sp<28):s≤500:=by
 unfold spanM at h
 split at h
 ·injection h with h1 h2; omega
 ·split at h
  ·injection h with h1 h2
   have hd:sp / 4-1≤5:=om
   have hp:2 ^ (sp / 4-1)≤2 ^ 5:=Nat.pow_le_pow_right om hd
   have hn:natOf ((S.drop p).take (sp / 4-1))<2 ^ 5:=Nat.lt_of_lt_of_le (natOf_lt _) (Nat.pow_le_pow_right om (by rw[List.length_take]; omega))
   have hmul:(4+sp % 4)*2 ^ (sp / 4-1)≤7*2 ^ 5:=Nat.mul_le_mul om hp
   omega
  ·cases h
theorem match_ro{κ:Nat→Nat}{H:AHeap}{r i c c':Nat}{bv out:AVal}{d:Bs}{p:Nat}{o:Bs}{most sp:Nat}{near far:AVal}(R:RO κ H r i bv out d p o most near far)(TB:TBL κ H c c')(hd:d.length≤1000000)(hm:most≤100000)(ho:o.length≤100000)(hs:sp≤28)(hu:matchM (bitsB d) most sp o p≠.unk) :
  ACalls Tryz.prog natT 1148 [cellR r 5 0,.int .i64 (sp:Int),cellR c' 18 0] H fun w H'=>∃κ',FrS rS κ H κ' H'∧((∃out2 o2 q2,matchM (bitsB d) most sp o p=.ok o2 q2∧w=.tuple []∧RO κ' H' r i bv out2 d q2 o2 most near far)∨∃e,matchM (bitsB d) most sp o p=.bad e∧w=fault e):=by
 refine acalls_ofE rfl za1148 rfl ?_
 have u1:isU (argE [cellR r 5 0,.int .i64 (sp:Int),cellR c' 18 0] 63)=true:=rfl
 have u0:isU (argE [cellR r 5 0,.int .i64 (sp:Int),cellR c' 18 0] 62)=true:=rfl
 refine wp_cutP [0,2,1,1] ?_
 by_cases hlt:sp<28
 ·have hlt':(sp:Int)<28:=om
  simp only[c1148,sC,sA,sB,seval,hlt']
  refine (span_ro R sp 4 om om om hd).mono ?_
  rintro _ H1 ⟨F1,⟨s,q,e1,hk,rfl,R1⟩ | ⟨e,e1,rfl⟩⟩
  ·have hM:matchM (bitsB d) most sp o p=matchR (bitsB d) most (3+s) o q:=by
    unfold matchM lenM; rw[if_pos hlt,e1]; rfl
   have hle:=lenM_le e1 hlt
   have w3:IntKind.i64.wrap (3+(s:Int))=((3+s:Nat):Int):=w64
   simp only[sA,sB,seval,pf_isP,isPan_int,w3]
   rw[hM]at hu ⊢
   refine mrest_spec R1 (TB.fr F1 rS5) hd hm ho om (by simp only[sA,sB,seval]) (by simp only[sA,sB,seval]) (by simp only[sA,sB,seval]) (by simp only[sA,sB,seval]; exact u0) (by simp only[sA,sB,seval]; exact u1) hu ?_ ?_
   ·intro T2 H2 κ2 out2 o2 q2 e v62 v63 F R'
    simp only[sA,sB,seval,pf_isU,v62,v63,pf_tup0]
    exact⟨κ2,F1.trans F,.inl ⟨out2,o2,q2,e,tt,R'⟩⟩
   ·intro T2 H2 κ2 e e' v62 v63 F
    simp only[sA,sB,seval,pf_isU,v62,v63,fault,isU_pan]
    exact⟨κ2,F1.trans F,.inr ⟨e,e',tt⟩⟩
  ·have hM:matchM (bitsB d) most sp o p=.bad e:=by
    unfold matchM lenM; rw[if_pos hlt,e1]; rfl
   simp only[sA,sB,seval,fault,pf_isP,isPan_pan,pf_isU,u0,u1,isU_pan]
   exact⟨κ,F1,.inr ⟨e,hM,tt⟩⟩
 ·have hlt':¬(sp:Int)<28:=om
  simp only[c1148,sC,sA,sB,seval,hlt']
  have hM:matchM (bitsB d) most sp o p=matchR (bitsB d) most 258 o p:=by
   unfold matchM lenM; rw[if_neg hlt]; rfl
  rw[hM]at hu ⊢
  refine mrest_spec R TB hd hm ho (long:=258) om (by simp only[sA,sB,seval]) (by simp only[sA,sB,seval]) (by simp only[sA,sB,seval]; try rfl) (by simp only[sA,sB,seval]; exact u0) (by simp only[sA,sB,seval]; exact u1) hu ?_ ?_
  ·intro T2 H2 κ2 out2 o2 q2 e v62 v63 F R'
   simp only[sA,sB,seval,pf_isU,v62,v63,pf_tup0]
   exact⟨κ2,F,.inl ⟨out2,o2,q2,e,tt,R'⟩⟩
  ·intro T2 H2 κ2 e e' v62 v63 F
   simp only[sA,sB,seval,pf_isU,v62,v63,fault,isU_pan]
   exact⟨κ2,F,.inr ⟨e,e',tt⟩⟩
theorem copyB_len(back:Nat):∀(n:Nat) (o:Bs),(copyB back n o).length=o.length+n
 | 0,o=>rfl
 | n+1,o=>by simp only[copyB]; rw[copyB_len back n,lA]; simp; omega
theorem SR.bind_ok{α β:Type}{x:SR α}{f:α→Nat→SR β}{b:β}{q:Nat}(h:x.bind f=.ok b q):∃a p,x=.ok a p∧f a p=.ok b q:=by
 cases x with
 | ok a p=>exact⟨a,p,rfl,h⟩
 | bad e=>cases h
 | unk=>cases h
theorem matchR_ok{S:List Bool}{most long:Nat}{o o2:Bs}{q q2:Nat}(h:matchR S most long o q=.ok o2 q2):∃s a k,farM S q=.ok s a∧s<30∧spanM s 2 S a=.ok k q2∧1+k≤o.length∧o.length+long≤most∧o2=copyB (1+k) long o:=by
 unfold matchR at h
 obtain⟨s,a,e1,h⟩:=SR.bind_ok h
 split at h
 ·cases h
 rename_i hs
 obtain⟨k,b,e2,h⟩:=SR.bind_ok h
 split at h
 ·cases h
 rename_i hk
 split at h
 ·cases h
 rename_i hm
 injection h with h1 h2
 subst h2
 exact⟨s,a,k,e1,om,e2,om,om,h1.symm⟩
theorem matchM_ok{S:List Bool}{most sp:Nat}{o o2:Bs}{p q2:Nat}(h:matchM S most sp o p=.ok o2 q2):∃long q,lenM sp S p=.ok long q∧matchR S most long o q=.ok o2 q2:=SR.bind_ok h
def symsM(S:List Bool)(most:Nat):Nat→Bs→Nat→SR Bs
 | 0,_,_=>.unk
 | f+1,o,p=>(nearM S p).bind fun s q=>
   if s<256 then (if most<o.length+1 then .bad 3 else symsM S most f (o++[UInt8.ofNat s]) q)
   else if s=256 then .ok o q
   else if s<286 then (matchM S most (s-257) o q).bind fun o2 q2=>symsM S most f o2 q2
   else .bad 10
theorem syms_ro{κ:Nat→Nat}{H:AHeap}{r i c c':Nat}{bv out:AVal}{d:Bs}{p F:Nat}{o:Bs}{most:Nat}{near far:AVal}(R:RO κ H r i bv out d p o most near far)(TB:TBL κ H c c')(hd:d.length≤1000000)(hm:most≤100000)(ho:o.length≤100000)(hu:symsM (bitsB d) most F o p≠.unk) :
  ACalls Tryz.prog natT 1136 [cellR r 5 0,cellR c 18 0,cellR c' 18 0] H fun w H'=>∃κ',FrS rS κ H κ' H'∧((∃out2 o2 q2,symsM (bitsB d) most F o p=.ok o2 q2∧w=.tuple []∧o2.length≤100000∧RO κ' H' r i bv out2 d q2 o2 most near far)∨∃e,symsM (bitsB d) most F o p=.bad e∧w=fault e):=by
 refine acalls_ofE rfl za1136 rfl ?_
 have u1:isU (argE [cellR r 5 0,cellR c 18 0,cellR c' 18 0] 40)=true:=rfl
 have u0:isU (argE [cellR r 5 0,cellR c 18 0,cellR c' 18 0] 39)=true:=rfl
 simp only[c1136,sA,sB,seval]
 refine aw_loop (fun m (T:Env) H'=>∃κ2 out2 o2 q,T 0=cellR r 5 0∧T 1=cellR c 18 0∧T 2=cellR c' 18 0∧isU (T 39)=true∧isU (T 40)=true∧o2.length≤100000∧symsM (bitsB d) most m o2 q=symsM (bitsB d) most F o p∧FrS rS κ H κ2 H'∧RO κ2 H' r i bv out2 d q o2 most near far) F
  ⟨κ,out,o,p,by simp only[sA,sB,seval],by simp only[sA,sB,seval],by simp only[sA,sB,seval],by exact u0,by exact u1,ho,rfl,FrS.refl _ _ _,R⟩ ?_
 rintro m T H1 ⟨κ2,out2,o2,q,g0,g1,g2,v39,v40,hol,hM,F1,R1⟩
 cases m with
 | zero=>exact absurd hM.symm hu
 | succ m=>
 rw[← hM]at hu ⊢
 have TB1:=TBL.fr TB F1 rS5
 have hnu:nearM (bitsB d) q≠.unk:=fun e=>hu (by simp only[symsM,e,SR.bind])
 simp only[sA,sB,seval,g0,g1,g2]
 refine (near_ro R1 TB1 hd hnu).mono ?_
 rintro _ H2 ⟨F2,⟨s,q2,e1,rfl,R2⟩ | ⟨e,e1,rfl⟩⟩
 ·have hS:symsM (bitsB d) most (m+1) o2 q=if s<256 then (if most<o2.length+1 then .bad 3 else symsM (bitsB d) most m (o2++[UInt8.ofNat s]) q2) else if s=256 then .ok o2 q2 else if s<286 then (matchM (bitsB d) most (s-257) o2 q2).bind fun o2 q2=>symsM (bitsB d) most m o2 q2 else .bad 10:=by
   simp only[symsM,e1,SR.bind]
  by_cases h1:s<256
  ·have h1':(s:Int)<256:=om
   rw[if_pos h1]at hS
   simp only[sA,sB,seval,pf_isP,isPan_int,g0,h1']
   refine (room_spec R2.row R2.len 1 om hm hol).mono ?_
   rintro _ _ ⟨⟨hr,rfl⟩ | ⟨hr,rfl⟩,rfl⟩
   ·rw[if_neg om]at hS
    obtain⟨s3,H4,H5,κ3,m4,m5,R5,F5⟩:=R2.push (UInt8.ofNat s) om
    have l1:oLoad false 1 H2 (cellR r 5 1)=some out2:=row_load R2.row rfl rfl
    have ws:IntKind.u8.wrap (s:Int)=((UInt8.ofNat s).toNat:Int):=by
     rw[wrap_u .u8 (by simp) (by simp only[IntKind.bits]; omega)]
     have:(UInt8.ofNat s).toNat=s:=by simp; omega
     rw[this]
    have bld:=build1 (.int .u8 0) H2 (x:=.int .u8 ((UInt8.ofNat s).toNat:Int)) rfl
    simp only[sA,sB,seval,pf_isP,isPan,g0,g1,g2,nil_cell,fldA,l1,conv_in,ws,bld,m4,m5]
    exact⟨m,om,κ3,s3,o2++[UInt8.ofNat s],q2,tt,tt,tt,by exact v39,by exact v40,by rw[lA]; simp; omega,by rw[← hS,hM],(F1.trans F2).trans F5,R5⟩
   ·rw[if_pos om]at hS
    simp only[sA,sB,seval,fault,pf_isP,isPan_pan,pf_isU,v39,v40,isU_pan]
    exact⟨κ2,F1.trans F2,.inr ⟨3,hS,by rfl⟩⟩
  ·have h1':¬(s:Int)<256:=om
   rw[if_neg h1]at hS
   by_cases h2:s=256
   ·have h2':(s:Int)=256:=om
    rw[if_pos h2]at hS
    simp only[sA,sB,seval,pf_isP,isPan_int,g0,h1',h2',pf_isU,v39,v40,pf_tup0]
    exact⟨κ2,F1.trans F2,.inl ⟨out2,o2,q2,hS,tt,hol,R2⟩⟩
   ·have h2':¬(s:Int)=256:=om
    rw[if_neg h2]at hS
    by_cases h3:s<286
    ·have h3':(s:Int)<286:=om
     rw[if_pos h3]at hS
     have w1:IntKind.i64.wrap ((s:Int)-256)=((s-256:Nat):Int):=w64
     have w2:IntKind.i64.wrap (((s-256:Nat):Int)-1)=((s-257:Nat):Int):=w64
     have hmu:matchM (bitsB d) most (s-257) o2 q2≠.unk:=fun e=>hu (by rw[hS,e]; rfl)
     simp only[sA,sB,seval,pf_isP,isPan_int,g0,g1,g2,h1',h2',h3',w1,w2]
     refine (match_ro R2 (TBL.fr TB1 F2 rS5) hd hm hol om hmu).mono ?_
     rintro _ H3 ⟨κ3,F3,⟨out3,o3,q3,e3,rfl,R3⟩ | ⟨e,e3,rfl⟩⟩
     ·rw[e3]at hS
      obtain⟨long,qq,_,e4⟩:=matchM_ok e3
      obtain⟨_,_,k,_,_,_,_,hle,rfl⟩:=matchR_ok e4
      simp only[sA,sB,seval,pf_isP,isPan,g0,g1,g2]
      exact⟨m,om,κ3,out3,copyB (1+k) long o2,q3,tt,tt,tt,by exact v39,by exact v40,by rw[copyB_len]; omega,hS.symm,(F1.trans F2).trans F3,R3⟩
     ·rw[e3]at hS
      simp only[sA,sB,seval,fault,pf_isP,isPan_pan,pf_isU,v39,v40,isU_pan]
      exact⟨κ3,(F1.trans F2).trans F3,.inr ⟨e,hS,tt⟩⟩
    ·have h3':¬(s:Int)<286:=om
     rw[if_neg h3]at hS
     simp only[sA,sB,seval,pf_isP,isPan_int,g0,g1,g2,h1',h2',h3',pf_mkP,pf_isU,v39,v40,isU_pan]
     exact⟨κ2,F1.trans F2,.inr ⟨10,hS,by rfl⟩⟩
 ·have hS:symsM (bitsB d) most (m+1) o2 q=.bad e:=by simp only[symsM,e1,SR.bind]
  simp only[sA,sB,seval,fault,pf_isP,isPan_pan,pf_isU,v39,v40,isU_pan]
  exact⟨κ2,F1.trans F2,.inr ⟨e,hS,tt⟩⟩
end Go.Proofs.Tb
