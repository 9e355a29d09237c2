/- Part of a proof (V25 V26 V27 V28 V29 V30 VP1 VFQ V31 V32 V33 V34 V35 V36 V37 V38 V39 V40 VC2 V41 V42 V43 V44 V45 V46 L1); no condition. -/
import Derived.OpenShut
import Derived.SizedLaws
import Derived.Test.YtbmacgjajnokdaaGreatProg
import Derived.KernelRfl
import Derived.WalkKit
import Derived.Below
import Derived.ChangeSame
import Derived.ReadAgain
import Derived.ProofKit
import Derived.Test.YtbmacgjajnokdaaGreatP5
import Derived.Test.YtbmacgjajnokdaaGreatP6
import Derived.Test.YtbmacgjajnokdaaGreatP12
set_option linter.unusedSimpArgs false
set_option linter.unusedVariables false
set_option linter.defProp false
set_option linter.unnecessarySimpa false
namespace Go.Proofs.Sd
open Go.Abs Go.Abs.S
theorem bnd_t{len c lo hi m:Nat}(h1:lo≤hi)(h2:hi≤m)(h3:m≤c):aBnd len c (some (.int .i64 (lo:Int))) (some (.int .i64 (hi:Int))) (some (.int .i64 (m:Int)))=some (lo,hi,some m):=by
 show (match bd (AVal.int .i64 (Int.ofNat m)) c with | some m'=>(match bd (AVal.int .i64 (Int.ofNat hi)) m' with | some h=>(match bdO (some (AVal.int .i64 (Int.ofNat lo))) h 0 with | some l=>some (l,h,some m') | none=>none) | none=>none) | none=>none)=_
 simp only[bd,bdO,Nat.ble_eq_true_of_le h1,Nat.ble_eq_true_of_le h2,Nat.ble_eq_true_of_le h3,cond_true]
def LinB(H:AHeap)(b:Nat)(C:List AVal)(r:Room)(k:Nat):Prop:=
 ∃low,(r=.open_ 2∨∃cap,r=.known cap∧k≤cap∧C.length=cap*2)∧H.get b=some (.cells C low false)∧low≤C.length∧k*2≤C.length∧b<H.next
theorem LinB.lin{H:AHeap}{b:Nat}{C:List AVal}{r:Room}{k j:Nat}(h:LinB H b C r k)(hj:j≤k):LinM 2 H (.slice (some ⟨b,C.length,0⟩) j r) (C.take (j*2)) j:=by
 obtain⟨low,h1,h2,h3,h4,h5⟩:=h
 refine .inr ⟨b,C,low,r,rfl,h1.imp id fun ⟨cap,a,b,c⟩=>⟨cap,a,om,c⟩,h2,h3,rfl,?_,om,h5⟩
 rw[List.length_take]; omega
theorem LinB.clr{H:AHeap}{b:Nat}{C:List AVal}{r:Room}{k:Nat}(h:LinB H b C r (k+1)) :
  ∃z H2 C2,aSl 2 (.slice (some ⟨b,C.length,0⟩) k r) (some (.int .i64 (k:Int))) (some (.int .i64 ((k+1:Nat):Int))) none=some z∧aHf (.clr [.int .i64 0,.ptr none]) H [z]=some (.tuple [],H2)∧LinB H2 b C2 r (k+1)∧C2.length=C.length∧C2.take (k*2)=C.take (k*2)∧H2.next=H.next∧∀c,c≠b→H2.get c=H.get c:=by
 obtain⟨low,h1,h2,h3,h4,h5⟩:=h
 have hw:wrCells H ⟨b,C.length,0+k*2⟩ [.int .i64 0,.ptr none]=some (H.set b (.cells (C.take (0+k*2)++([.int .i64 0,.ptr none]++C.drop (0+k*2+2))) C.length false)):=by
  unfold wrCells
  have ho:([.int .i64 0,.ptr none]:List AVal).all AVal.one=true:=rfl
  simp only[h2,Nat.ble_eq_true_of_le h3,Nat.beq_refl,List.length_cons,List.length_nil,Nat.ble_eq_true_of_le (show 0+k*2+(0+1+1)≤C.length by omega),ho,Bool.and_self,cond_true]
 obtain⟨C2,hC2⟩:∃C2,C2=C.take (0+k*2)++([.int .i64 0,.ptr none]++C.drop (0+k*2+2)):=⟨_,rfl⟩
 have hl2:C2.length=C.length:=by rw[hC2]; simp; omega
 have hB:LinB (H.set b (.cells C2 C.length false)) b C2 r (k+1):=⟨C.length,h1.imp id fun ⟨cap,a,b,c⟩=>⟨cap,a,b,by rw[hl2]; exact c⟩,by rw[AHeap.get_set,if_pos rfl],om,om,h5⟩
 have ht:C2.take (k*2)=C.take (k*2):=by
  rw[hC2,Nat.zero_add,List.take_append_of_le_length (by rw[List.length_take]; omega),List.take_take,Nat.min_self]
 rw[← hC2]at hw
 have hc:∀r',aHf (.clr [.int .i64 0,.ptr none]) H [.slice (some ⟨b,C.length,0+k*2⟩) (k+1-k) r']=some (.tuple [],H.set b (.cells C2 C.length false)):=fun r'=>by
  rw[Nat.add_sub_cancel_left]
  show (bif Nat.beq 1 0 then some (AVal.tuple [],H) else match wrCells H ⟨b,C.length,0+k*2⟩ (rep [.int .i64 0,.ptr none] 1) with | some H'=>some (.tuple [],H') | none=>none)=_
  rw[show rep [AVal.int .i64 0,.ptr none] 1=[.int .i64 0,.ptr none] from rfl,hw]
  rfl
 have fin:=fun c (hc:c≠b)=>show (H.set b (.cells C2 C.length false)).get c=H.get c by rw[AHeap.get_set,if_neg hc]
 rcases h1 with rfl | ⟨cap,rfl,hkc,hcap⟩
 ·refine⟨_,H.set b (.cells C2 C.length false),C2,?_,hc (.open_ 2),hB,hl2,ht,set_next ..,fin⟩
  have hd:k+1≤(C.length-0) / 2:=om
  simp only[aSl,Nat.beq_refl,cond_true,bnd_lh (show k≤k+1 by omega) hd,Nat.ble_eq_true_of_le (show 0+(k+1)*2≤C.length by omega)]
 ·refine⟨_,H.set b (.cells C2 C.length false),C2,?_,hc (.known (cap-k)),hB,hl2,ht,set_next ..,fin⟩
  have hb:Nat.beq cap k=false:=by rw[beq_dec]; exact decide_eq_false om
  simp only[aSl,bnd_lh (show k≤k+1 by omega) hkc,Option.getD_none,hb,cond_false]
theorem lin_del{H:AHeap}{s:AVal}{L:List AVal}{k i:Nat}(h:LinM 2 H s L (k+1))(hi:i≤k)(ho:L.all AVal.one=true)(hk:k≤1000) :
  ∃y s1 s2 s3 H1 z H2,aSl 2 s (some (.int .i64 (i:Int))) (some (.int .i64 ((i+1:Nat):Int))) (some (.int .i64 ((k+1:Nat):Int)))=some y∧aSl 2 s none (some (.int .i64 (i:Int))) none=some s1∧aSl 2 s (some (.int .i64 ((i+1:Nat):Int))) none none=some s2∧aAppend 2 16 H s1 s2=some (s3,H1)∧aLenK false s3=some (.int .i64 (k:Int)) ∧
   aSl 2 s3 (some (.int .i64 (k:Int))) (some (.int .i64 ((k+1:Nat):Int))) none=some z∧aHf (.clr [.int .i64 0,.ptr none]) H1 [z]=some (.tuple [],H2)∧LinM 2 H2 s3 (L.take (i*2)++L.drop ((i+1)*2)) k∧H2.next=H.next∧(∀P,Blk s P→Blk s3 P)∧∀c,Blk s (c≠·)→H2.get c=H.get c:=by
 rcases h with⟨_,_,h⟩ | ⟨b,C,low,r,rfl,h2,h3,h4,h5,h6,h7,h8⟩
 ·omega
 have hB:LinB H b C r (k+1):=⟨low,h2,h3,h4,om,h8⟩
 obtain⟨xs,hxs⟩:∃xs,xs=L.drop ((i+1)*2):=⟨_,rfl⟩
 have hxl:xs.length=(k-i)*2:=by rw[hxs,List.length_drop]; omega
 have hxo:xs.all AVal.one=true:=by
  rw[hxs]
  rw[List.all_eq_true]at ho ⊢
  exact fun y hy=>ho y (List.mem_of_mem_drop hy)
 have hrd:rdCells H ⟨b,C.length,0+(i+1)*2⟩ ((k-i)*2)=some xs:=by
  have hr:=rd_row (H:=H) ⟨low,h3,h4⟩ rfl (i:=(i+1)*2) (k:=(k-i)*2) om
  rw[Nat.zero_add,hr,hxs,← h5,List.drop_take,show (k+1)*2-(i+1)*2=(k-i)*2 by omega]
 have e12:(k+1)-(i+1)=k-i:=om
 have hy:∃y,aSl 2 (.slice (some ⟨b,C.length,0⟩) (k+1) r) (some (.int .i64 (i:Int))) (some (.int .i64 ((i+1:Nat):Int))) (some (.int .i64 ((k+1:Nat):Int)))=some y:=by
  rcases h2 with rfl | ⟨cap,rfl,hkc,hcap⟩
  ·simp only[aSl,Nat.beq_refl,cond_true,bnd_t (show i≤i+1 by omega) (show i+1≤k+1 by omega) (show k+1≤(C.length-0) / 2 by omega),show Nat.beq (k+1) 0=false from rfl,cond_false]
   cases Nat.beq (k+1) i <;> exact⟨_,rfl⟩
  ·simp only[aSl,bnd_t (show i≤i+1 by omega) (show i+1≤k+1 by omega) hkc]
   cases Nat.beq ((some (k+1)).getD cap) i <;> exact⟨_,rfl⟩
 obtain⟨y,hy⟩:=hy
 have h1:aSl 2 (.slice (some ⟨b,C.length,0⟩) (k+1) r) none (some (.int .i64 (i:Int))) none=some (.slice (some ⟨b,C.length,0⟩) i r):=by
  rcases h2 with rfl | ⟨cap,rfl,hkc,hcap⟩
  ·simp only[aSl,Nat.beq_refl,cond_true,Nat.sub_zero,bnd_h0 (show i≤C.length / 2 by omega),Nat.zero_mul,Nat.add_zero,Nat.zero_add,Nat.sub_zero,Nat.ble_eq_true_of_le (show i*2≤C.length by omega)]
  ·have hc:(bif Nat.beq cap 0 then some (AVal.slice (some ⟨b,C.length,0⟩) i (.known cap)) else some (AVal.slice (some ⟨b,C.length,0⟩) i (.known cap)))=some (AVal.slice (some ⟨b,C.length,0⟩) i (.known cap)):=by cases Nat.beq cap 0 <;> rfl
   simp only[aSl,bnd_h0 (show i≤cap by omega),Option.getD_none,Nat.zero_mul,Nat.add_zero,Nat.sub_zero,hc]
 have hs2:∃s2,aSl 2 (.slice (some ⟨b,C.length,0⟩) (k+1) r) (some (.int .i64 ((i+1:Nat):Int))) none none=some s2∧aSrc 2 H s2=some (k-i,xs):=by
  rcases h2 with rfl | ⟨cap,rfl,hkc,hcap⟩
  ·refine⟨_,by simp only[aSl,Nat.beq_refl,cond_true,bnd_l (show i+1≤k+1 by omega),Nat.ble_eq_true_of_le (show 0+(k+1)*2≤C.length by omega)]; rfl,?_⟩
   rw[e12]
   simp only[aSrc,hrd]
  ·cases hb:Nat.beq cap (i+1) with
   | false=>
    refine⟨_,by simp only[aSl,bnd_l (show i+1≤k+1 by omega),Option.getD_none,hb,cond_false]; rfl,?_⟩
    rw[e12]
    simp only[aSrc,hrd]
   | true=>
    have:=Nat.eq_of_beq_eq_true hb
    refine⟨_,by simp only[aSl,bnd_l (show i+1≤k+1 by omega),Option.getD_none,hb,cond_true]; rfl,?_⟩
    have e0:k-i=0:=om
    have x0:xs=[]:=List.length_eq_zero_iff.1 om
    rw[e12,e0,x0]
    have hr0:=rd_row (H:=H) ⟨low,h3,h4⟩ rfl (i:=0) (k:=0*2) om
    simp only[aSrc,hr0]
    rfl
 obtain⟨s2,hs2,hsrc⟩:=hs2
 have hap:∃H1 C1,aAppend 2 16 H (.slice (some ⟨b,C.length,0⟩) i r) s2=some (.slice (some ⟨b,C1.length,0⟩) k r,H1)∧LinB H1 b C1 r (k+1)∧C1.length=C.length∧C1.take (k*2)=L.take (i*2)++xs∧H1.next=H.next∧∀c,c≠b→H1.get c=H.get c:=by
  have hLi:L.take (i*2)=C.take (i*2):=by rw[← h5,List.take_take,Nat.min_eq_left om]
  by_cases hj:k-i=0
  ·obtain rfl:i=k:=om
   refine⟨H,C,?_,hB,rfl,?_,rfl,fun _ _=>rfl⟩
   ·simp only[aAppend,hsrc,hj,show Nat.beq 0 0=true from rfl,cond_true]
   ·rw[hLi,List.length_eq_zero_iff.1 (show xs.length=0 by omega),List.append_nil]
  ·have e0:Nat.beq (k-i) 0=false:=by rw[beq_dec]; exact decide_eq_false hj
   have c1:(Nat.blt 0 2&&(Nat.ble ((2*(i+(k-i))+0)*16) 281474976710656&&(Nat.ble (i+(k-i)) 9223372036854775807&&(Nat.beq xs.length ((k-i)*2)&&xs.all AVal.one))))=true:=by
    simp only[hxl,Nat.beq_refl,hxo,Nat.ble_eq_true_of_le (show (2*(i+(k-i))+0)*16≤281474976710656 by omega),Nat.ble_eq_true_of_le (show i+(k-i)≤9223372036854775807 by omega),Bool.and_self,show Nat.blt 0 2=true from rfl]
   have ek:i+(k-i)=k:=om
   have hw:wrCells H ⟨b,C.length,0+i*2⟩ xs=some (H.set b (.cells (C.take (0+i*2)++(xs++C.drop (0+i*2+xs.length))) C.length false)):=by
    unfold wrCells
    simp only[h3,Nat.ble_eq_true_of_le h4,Nat.beq_refl,Nat.ble_eq_true_of_le (show 0+i*2+xs.length≤C.length by omega),hxo,Bool.and_self,cond_true]
   obtain⟨C1,hC1⟩:∃C1,C1=C.take (0+i*2)++(xs++C.drop (0+i*2+xs.length)):=⟨_,rfl⟩
   have hl1:C1.length=C.length:=by rw[hC1]; simp; omega
   rw[← hC1]at hw
   refine⟨H.set b (.cells C1 C.length false),C1,?_,⟨C.length,h2.imp id fun ⟨cap,a,b,c⟩=>⟨cap,a,b,by rw[hl1]; exact c⟩,by rw[AHeap.get_set,if_pos rfl],om,om,h8⟩,hl1,?_,set_next ..,fun c hc=>by rw[AHeap.get_set,if_neg hc]⟩
   ·rw[hl1]
    rcases h2 with rfl | ⟨cap,rfl,hkc,hcap⟩
    ·simp only[aAppend,hsrc,e0,cond_false]
     rw[c1,cond_true]
     simp only[Nat.beq_refl,cond_true,ek,Nat.ble_eq_true_of_le (show 0+k*2≤C.length by omega),hw]
    ·simp only[aAppend,hsrc,e0,cond_false]
     rw[c1,cond_true]
     simp only[ek,Nat.ble_eq_true_of_le (show k≤cap by omega),cond_true,hw]
   ·have e:k*2=(C.take (0+i*2)++xs).length:=by rw[lA,List.length_take,hxl]; omega
    rw[hC1,hLi,← List.append_assoc,e,List.take_left,Nat.zero_add]
 obtain⟨H1,C1,ha,hB1,hl1,ht1,n1,k1⟩:=hap
 obtain⟨z,H2,C2,hz,hcl,hB2,hl2,ht2,n2,k2⟩:=hB1.clr
 refine⟨y,_,s2,_,H1,z,H2,hy,h1,hs2,ha,rfl,hz,hcl,?_,om,fun P hP=>(have q:P b:=hP _ _ _ rfl; blk_some q),fun c hc=>by
  have q:c≠b:=hc _ _ _ rfl
  rw[k2 c q,k1 c q]⟩
 have:=hB2.lin (j:=k) om
 rw[ht2,ht1,hl2,hxs]at this
 exact this
theorem del_spec{H:AHeap}{s:AVal}{L:List AVal}{k i:Nat}(h:LinM 2 H s L (k+1))(hi:i≤k)(ho:L.all AVal.one=true)(hk:k≤1000) :
  ACalls Tryz.prog noNat 42 [s,.int .i64 (i:Int),.int .i64 ((i+1:Nat):Int)] H fun r H'=>LinM 2 H' r (L.take (i*2)++L.drop ((i+1)*2)) k∧H'.next=H.next∧(∀P,Blk s P→Blk r P)∧∀c,Blk s (c≠·)→H'.get c=H.get c:=by
 obtain⟨y,s1,s2,s3,H1,z,H2,a1,a2,a3,a4,a5,a6,a7,a8,a9,a10,a11⟩:=lin_del h hi ho hk
 have ln:=h.len
 have c1:¬(i:Int)=((i+1:Nat):Int):=om
 refine acalls_ofN rfl za42 rfl ?_
 simp only[c42,sA,sB,seval,ln,a1,c1,a2,a3,a4,a5,a6,a7]
 exact⟨a8,a9,a10,a11⟩
open Go.Abs Go.Abs.S
open Go.Proofs.Tb (row_st)
theorem entC_erase:∀(l:List (Int×AVal)) (i:Nat),(entC l).take (i*2)++(entC l).drop ((i+1)*2)=entC (l.eraseIdx i)
 | [],i=>by simp[entC]
 | x::l,0=>by simp[entC,entL]
 | x::l,i+1=>by
  have ih:=entC_erase l i
  rw[List.eraseIdx_cons_succ]
  show ((entL x.1 x.2)++entC l).take ((i+1)*2)++((entL x.1 x.2)++entC l).drop ((i+1+1)*2)=entL x.1 x.2++entC (l.eraseIdx i)
  rw[← ih,show (i+1)*2=(entL x.1 x.2).length+i*2 by show _=2+_; omega,List.take_length_add_append,show (i+1+1)*2=(entL x.1 x.2).length+((entL x.1 x.2).length+i*2) by show _=2+(2+_); omega,List.drop_length_add_append,List.append_assoc]
theorem map_erase{α β:Type}(f:α→β):∀(l:List α) (i:Nat),(l.map f).eraseIdx i=(l.eraseIdx i).map f
 | [],_=>rfl
 | x::l,0=>rfl
 | x::l,i+1=>by simp[map_erase f l i]
theorem ents_one(l:List JobV):(entC (l.map JobV.ent)).all AVal.one=true:=by
 rw[List.all_eq_true]
 intro y hy
 obtain⟨x,hx,hy⟩:=List.mem_flatMap.1 hy
 obtain⟨j,_,rfl⟩:=List.mem_map.1 hx
 simp only[entL,JobV.ent,List.mem_cons,List.not_mem_nil,or_false]at hy
 rcases hy with rfl | rfl <;> rfl
section
variable {S:Nat→Prop} {H:AHeap} {b:Nat} {fv:AVal} {fr:List Int} {units slots ticks bs:Nat} {l:List SeatV}
theorem cancel_spec(I:SchI S H b fv fr units slots ticks bs l){k:Nat}{x:SeatV}(hk:l[k]?=some x)(hl:x.l.length≤1000)(id:Int) :
  ACalls Tryz.prog noNat 14 [cellR b 6 0,.int .i64 (k:Int),.int .i64 id] H fun r H'=>
   (placeV x id<0→r=.bool false∧Ext H.next H H') ∧
   (∀i:Nat,placeV x id=(i:Int)→r=.bool true∧∃v',SchI S H' b fv fr units slots ticks bs (l.set k ⟨v',x.given,x.served,x.l.eraseIdx i⟩)∧H.next≤H'.next∧∀c,c<H.next→¬S c→H'.get c=H.get c):=by
 have hkl:k<l.length:=(List.getElem?_eq_some_iff.1 hk).1
 refine acalls_ofN rfl za14 rfl ?_
 simp only[c14,sA,sB,seval]
 refine (seat_spec I.r rfl).mono ?_
 rintro _ _ ⟨rfl,rfl⟩
 rw[if_pos om,Int.toNat_natCast]
 simp only[sA,sB,seval]
 refine (I.place hk hl id).mono ?_
 rintro _ H1 ⟨rfl,E1⟩
 by_cases c:placeV x id<0
 ·simp only[sA,sB,seval,c]
  exact⟨fun _=>⟨tt,E1⟩,fun i hi=>absurd hi om⟩
 ·obtain⟨r,hr⟩:=Int.eq_ofNat_of_zero_le (show 0≤placeV x id by omega)
  obtain⟨j,hj,_⟩:=place_lt hr
  have hrl:r<x.l.length:=(List.getElem?_eq_some_iff.1 hj).1
  obtain⟨q,hq⟩:∃q,x.l.length=q+1:=⟨x.l.length-1,om⟩
  have e1:=E1.next
  have I1:=I.ext E1
  have lv:=(I1.ld hk).1
  obtain⟨S0,h1,⟨p1,p2,p3⟩,h3⟩:=I1.seat hk
  rw[hq]at p1
  have c':¬(r:Int)<0:=om
  have w1:IntKind.i64.wrap ((r:Int)+1)=((r+1:Nat):Int):=w64
  rw[hr]
  simp only[sA,sB,seval,c',nil_cell,fld0,fldA,Nat.add_zero,lv,w1]
  refine (del_spec p1 (i:=r) om (ents_one _) om).mono ?_
  rintro v' H2 ⟨L2,n2,b2,k2⟩
  have hbs:=I1.sn _ I1.ss
  have nbs:Blk x.v (bs≠·):=p2.mono fun c hc q=>(h1 c hc).2.2.1 q.symm
  have r2:Row H2 bs (l.flatMap SeatV.cells):=I1.rs.same (k2 _ nbs)
  obtain⟨H3,m3,R3,n3,k3⟩:=row_st r2 (n:=3*l.length) (fm_len seat_len l) (i:=k*3+0) om (x:=v') L2.one (fm_set seat_len hk om (x':=⟨v',x.given,x.served,x.l.eraseIdx r⟩) rfl)
  rw[Nat.add_zero]at m3
  simp only[sA,sB,seval,nil_cell,fld0,fldA,Nat.add_zero,m3]
  refine⟨fun q=>q.elim,fun i hi=>?_⟩
  obtain rfl:r=i:=Int.ofNat_inj.1 hi
  have bv:=(b2 _ p2)
  have e3:∀c,¬S0 c→c≠bs→H3.get c=H1.get c:=fun c q1 q2=>by rw[k3 c q2,k2 c (p2.mono fun d hd z=>q1 (z ▸ hd))]
  have K:=h3 H3 (fun _=>False) S0 ⟨v',x.given,x.served,x.l.eraseIdx r⟩ om (fun c hc=>.inl hc) (fun c hc=>hc.elim) (fun c _ _ q1 q2=>e3 c q1 q2) R3 ⟨?_,bv,?_⟩
  ·refine⟨tt,v',⟨K.r,K.f,K.rs,K.st.mono fun c hc=>⟨hc.1.elim (fun q=>q) False.elim,hc.2⟩,I.sb,I.ss,K.sf.mono fun c hc=>⟨hc.1.elim (fun q=>q) False.elim,hc.2⟩,I.ne,fun c hc=>K.sn c (.inl hc)⟩,om,fun c hc hn=>?_⟩
   rw[e3 c (fun z=>hn (h1 c z).1) (fun z=>hn (z ▸ I.ss)),E1.old c hc]
  ·show LinM 2 H3 v' (entC ((x.l.eraseIdx r).map JobV.ent)) (x.l.eraseIdx r).length
   rw[← map_erase,← entC_erase,List.length_eraseIdx_of_lt hrl,hq,Nat.add_sub_cancel]
   exact L2.same om (bv.mono fun c hc=>k3 c fun z=>(h1 c hc).2.2.1 z)
  ·refine ((p3.same job_stay om fun c hc=>?_).mono fun c hc=>⟨hc.1,b2 _ hc.2⟩).erase r
   rw[k3 c (h1 c hc.1).2.2.1,k2 c hc.2]
end
open Go.Abs Go.Abs.S
section
variable {S:Nat→Prop} {H:AHeap} {b:Nat} {fv:AVal} {fr:List Int} {units slots ticks bs:Nat} {l:List SeatV}
end
open Go.Abs Go.Abs.S
open Go.Proofs.Fr (ownerF frame okB)
theorem fit_sta(o:Opn):Fit o.W o.H (staO o):=by
 have hf:=pickF_lt o.first (m:=100) om
 have hwh:o.W*o.H≤6*6:=Nat.mul_le_mul o.W_le.2 o.H_le.2
 refine⟨o.W_le,o.H_le,sta0_good o.W_le o.H_le om,⟨Nat.zero_le _,Nat.zero_le _,rfl,.inr rfl⟩,?_⟩
 show 0+(pickF o.first 100+(o.W*o.H-0))≤200
 omega
def opA:Opn:=⟨0,0,0,0,0,0,50,0⟩
def opB:Opn:=⟨0,0,0,0,0,0,0,0⟩
def stA:Sta:=staO opA
def stA1:Sta:=grantS 1 1 10 stA
def stA2:Sta:=grantS 1 1 10 stA1
theorem tk1(v:AVal)(a b:Nat):tickV 10 ⟨v,2,0,[⟨1,a,1,1,stA⟩,⟨2,b,1,1,stA⟩]⟩=(1,10,⟨v,2,1,[⟨1,a,1,1,stA1⟩,⟨2,b,1,1,stA⟩]⟩):=rfl
theorem tk2:tickV 10 seat0=(0,0,seat0):=rfl
theorem tk3(v:AVal)(a b:Nat):tickV 10 ⟨v,2,1,[⟨1,a,1,1,stA1⟩,⟨2,b,1,1,stA⟩]⟩=(2,10,⟨v,2,2,[⟨1,a,1,1,stA1⟩,⟨2,b,1,1,stA1⟩]⟩):=rfl
theorem tk4(v:AVal)(a b:Nat):tickV 10 ⟨v,2,2,[⟨1,a,1,1,stA1⟩,⟨2,b,1,1,stA1⟩]⟩=(1,10,⟨v,2,1,[⟨1,a,1,1,stA2⟩,⟨2,b,1,1,stA1⟩]⟩):=rfl
theorem pl1(v:AVal)(a b:Nat):placeV ⟨v,2,1,[⟨1,a,1,1,stA2⟩,⟨2,b,1,1,stA1⟩]⟩ 1=((0:Nat):Int):=rfl
theorem fr21:frame [2,1]=[0,1,0]:=by decide
theorem own21:ownerF (frame [2,1]) (0:Nat)=((0:Nat):Int)∧ownerF (frame [2,1]) (1:Nat)=((1:Nat):Int)∧ownerF (frame [2,1]) (2:Nat)=((0:Nat):Int)∧ownerF (frame [2,1]) (3:Nat)=((0:Nat):Int)∧ownerF (frame [2,1]) (4:Nat)=((1:Nat):Int):=by
 rw[fr21]; decide
open Go.Abs Go.Abs.S
open Go.Proofs.Fr (ownerF)
def SchR(R:Nat→Prop)(K0 K:AHeap)(b:Nat)(fv:AVal)(fr:List Int)(units slots ticks bs:Nat)(l:List SeatV):Prop:=
 (∀c,R c→c<K0.next∧K.get c=K0.get c)∧K0.next≤K.next∧∃S,SchI S K b fv fr units slots ticks bs l∧∀c,S c→¬R c
def tookS(n:Int)(s:Sta):Sta:=(s.1,s.2.1,s.2.2.drop (min n.toNat s.2.2.length))
def tookJ(n:Int)(j:JobV):JobV:={ j with s:=tookS n j.s }
theorem Fit.took{w h:Nat}{s:Sta}(F:Fit w h s)(n:Int):Fit w h (tookS n s):=by
 obtain⟨a,b,⟨g1,g2,g3,g4⟩,⟨k1,k2,k3,k4⟩,t⟩:=F
 refine⟨a,b,⟨g1,g2,g3,g4⟩,⟨Nat.le_trans ?_ k1,k2,k3,k4⟩,t⟩
 show (s.2.2.drop _).length≤_
 rw[List.length_drop]; omega
section
variable {R:Nat→Prop} {K0 K:AHeap} {b:Nat} {fv:AVal} {fr:List Int} {units slots ticks bs:Nat} {l:List SeatV}
theorem SchR.ext(Q:SchR R K0 K b fv fr units slots ticks bs l){K':AHeap}(E:Ext K.next K K'):SchR R K0 K' b fv fr units slots ticks bs l:=by
 obtain⟨h1,h2,S,I,h3⟩:=Q
 have e:=E.next
 exact⟨fun c hc=>⟨(h1 c hc).1,by rw[E.old c (by have:=(h1 c hc).1; omega),(h1 c hc).2]⟩,om,S,I.ext E,h3⟩
theorem tickR(Q:SchR R K0 K b fv fr units slots ticks bs l){k:Nat}{x:SeatV}(ho:ownerF fr ticks=(k:Int))(hk:l[k]?=some x)(hu:units≤2000000)(ht:ticks≤1000000)(hl:x.l.length≤1000) :
  ACalls Tryz.prog noNat 16 [cellR b 6 0] K fun r K'=>r=.tuple [.int .i64 (k:Int),.int .i64 ((tickV units x).1:Int),.int .i64 ((tickV units x).2.1:Int)]∧SchR R K0 K' b fv fr units slots (ticks+1) bs (l.set k (tickV units x).2.2):=by
 obtain⟨h1,h2,S,I,h3⟩:=Q
 refine (tick_spec I ho hk hu ht hl).mono ?_
 rintro _ K' ⟨rfl,S',I',f1,f2,f3⟩
 exact⟨rfl,fun c hc=>⟨(h1 c hc).1,by rw[f3 c (by have:=(h1 c hc).1; omega) fun q=>h3 c q hc,(h1 c hc).2]⟩,om,S',I',fun c hc q=>(f2 c hc).elim (fun z=>h3 c z q) fun z=>by have:=(h1 c q).1; omega⟩
theorem addR(Q:SchR R K0 K b fv fr units slots ticks bs l){k:Nat}{x:SeatV}(hk:l[k]?=some x){j:JobV}{K1:AHeap}{Sj:Nat→Prop}(E:Ext K.next K K1)(J:JobP j Sj K1)(hj:∀c,Sj c→K.next≤c)(hl:x.l.length≤1000)(hg:x.given≤1000000) :
  ACalls Tryz.prog noNat 10 [cellR b 6 0,.int .i64 (k:Int),cellR j.b 14 0] K1 fun r K'=>
   (slots≤x.l.length→r=.tuple [.int .i64 0,.int .i64 142]∧SchR R K0 K' b fv fr units slots ticks bs l) ∧
   (x.l.length<slots→r=.tuple [.int .i64 ((x.given+1:Nat):Int),.int .i64 0]∧∃v',SchR R K0 K' b fv fr units slots ticks bs (l.set k ⟨v',x.given+1,x.served,x.l++[{ j with id:=x.given+1 }]⟩)):=by
 obtain⟨h1,h2,S,I,h3⟩:=Q
 have e:=E.next
 refine (add_spec (I.ext E) hk J (fun c hc q=>by have:=I.sn c q; have:=hj c hc; omega) hl hg).mono ?_
 rintro r K' ⟨a1,a2⟩
 refine⟨fun hs=>?_,fun hs=>?_⟩
 ·obtain⟨rfl,rfl⟩:=a1 hs
  exact⟨rfl,SchR.ext ⟨h1,h2,S,I,h3⟩ E⟩
 ·obtain⟨rfl,v',N,I',n1,n2,n3⟩:=a2 hs
  refine⟨rfl,v',fun c hc=>⟨(h1 c hc).1,by rw[n3 c (by have:=(h1 c hc).1; omega) fun q=>h3 c q hc,E.old c (by have:=(h1 c hc).1; omega),(h1 c hc).2]⟩,om,_,I',fun c hc q=>?_⟩
  rcases hc with hc | hc
  ·exact h3 c hc q
  ·have:=(h1 c q).1
   exact (n1 c hc).elim (fun z=>by have:=hj c z; omega) fun z=>om
theorem cancelR(Q:SchR R K0 K b fv fr units slots ticks bs l){k:Nat}{x:SeatV}(hk:l[k]?=some x)(hl:x.l.length≤1000)(id:Int) :
  ACalls Tryz.prog noNat 14 [cellR b 6 0,.int .i64 (k:Int),.int .i64 id] K fun r K'=>
   (placeV x id<0→r=.bool false∧SchR R K0 K' b fv fr units slots ticks bs l) ∧
   (∀i:Nat,placeV x id=(i:Int)→r=.bool true∧∃v',SchR R K0 K' b fv fr units slots ticks bs (l.set k ⟨v',x.given,x.served,x.l.eraseIdx i⟩)):=by
 have Q':=Q
 obtain⟨h1,h2,S,I,h3⟩:=Q
 refine (cancel_spec I hk hl id).mono ?_
 rintro r K' ⟨a1,a2⟩
 refine⟨fun hs=>?_,fun i hs=>?_⟩
 ·obtain⟨rfl,E⟩:=a1 hs
  exact⟨rfl,Q'.ext E⟩
 ·obtain⟨rfl,v',I',n2,n3⟩:=a2 i hs
  exact⟨rfl,v',fun c hc=>⟨(h1 c hc).1,by rw[n3 c (by have:=(h1 c hc).1; omega) fun q=>h3 c q hc,(h1 c hc).2]⟩,om,_,I',h3⟩
theorem takeI{S:Nat→Prop}(I:SchI S K b fv fr units slots ticks bs l){k i:Nat}{x:SeatV}{j:JobV}(hk:l[k]?=some x)(hi:x.l[i]?=some j){n:Int}(hn:1≤n) :
  ACalls Tryz.prog noNat 24 [cellR j.b 14 0,.int .i64 n] K fun r K'=>Cel K'.next K' r (byts (j.s.2.2.take (min n.toNat j.s.2.2.length)))∧SchI S K' b fv fr units slots ticks bs (l.set k { x with l:=x.l.set i (tookJ n j) })∧Blk r (K.next≤·)∧K.next≤K'.next∧∀c,c<K.next→¬S c→K'.get c=K.get c:=by
 obtain⟨S1,a1,⟨J,F⟩,a3⟩:=I.job hk hi
 refine (take_spec J hn (by have:=F.k.len; omega) (J.lt.2 _ J.lt.1)).mono ?_
 rintro r K' ⟨C,J',⟨f1,f2,f3⟩,B⟩
 have I':=a3 K' S1 (tookJ n j) ⟨f1,f2,f3⟩ ⟨J',F.took n⟩ rfl
 have e:(fun c=>S c∨(K.next≤c∧S1 c))=S:=funext fun c=>propext ⟨fun q=>q.elim (fun z=>z) fun z=>a1 c z.2,.inl⟩
 rw[e]at I'
 exact⟨C,I',B,f1,fun c hc hn=>f3 c hc fun q=>hn (a1 c q)⟩
end
open Go.Abs Go.Abs.S
open Go.Proofs.Fr (ownerF frame okB)
theorem jobP_of{o:Opn}{S:Nat→Prop}{H:AHeap}{b:Nat}(J:JobS S H b o.W o.H (staO o))(id:Nat):JobP ⟨id,b,o.W,o.H,staO o⟩ S H:=⟨J,fit_sta o⟩
theorem awake_spec(H:AHeap):ACalls Tryz.prog noNat 8 [] H fun r H'=>r=.bool true∧Ext H.next H H':=by
 have bl:aBuildSl 2 [.int .i64 0] H [(0,1,.int .i64 2),(1,1,.int .i64 1)]=some (.slice (some ⟨H.next,2,0⟩) 2 (.known 2),H.push (.cells (ints [2,1]) 0 false)):=rfl
 have rr:Row (H.push (.cells (ints [2,1]) 0 false)) H.next (ints [2,1]):=row_push _ _
 have C:Cel (H.next+1) (H.push (.cells (ints [2,1]) 0 false)) (.slice (some ⟨H.next,2,0⟩) 2 (.known 2)) (ints [2,1]):=rr.cel rfl om
 have bA:aBuild [.int .i64 0,.int .i64 0,.int .i64 0,.int .i64 0,.int .i64 0,.int .i64 0,.int .i64 0,.int .i64 0] [(6,1,.int .i64 50)]=some (.agg opA.cells):=rfl
 have bB:aBuild [.int .i64 0,.int .i64 0,.int .i64 0,.int .i64 0,.int .i64 0,.int .i64 0,.int .i64 0,.int .i64 0] []=some (.agg opB.cells):=rfl
 obtain⟨o0,o1,o2,o3,o4⟩:=own21
 have ex2:∀a b c:AVal,aExtract 2 (.tuple [a,b,c])=some c:=fun _ _ _=>_root_.id rfl
 refine acalls_ofN rfl za8 rfl ?_
 simp only[c8,sA,sB,seval,bl]
 refine (snew_spec C (by simp[AHeap.push]) dD 10 2).mono ?_
 rintro _ K1 ⟨E1,_,_,c1⟩
 obtain⟨S,b,fv,bs,rfl,I1,hS⟩:=c1 dD dD dD dD dD
 rw[push_next]at E1 hS
 have e1:H.next+1≤K1.next:=E1.next
 have Q1:SchR (·<H.next) H K1 b fv (frame [2,1]) 10 2 0 bs [seat0,seat0]:=⟨fun c hc=>⟨hc,by have h1:c<H.next:=hc; rw[E1.old c om,get_push_lt hc]⟩,om,S,I1,fun c hc q=>by have h1:=hS c hc; have h2:c<H.next:=q; omega⟩
 simp only[sA,sB,seval,ext_0,ext_1,bA]
 refine (made_spec opA).mono ?_
 rintro _ K2 ⟨b2,S2,rfl,J2,_,h2,E2⟩
 simp only[sA,sB,seval]
 refine (addR Q1 (k:=0) rfl E2 (jobP_of J2 0) h2 (show 0≤1000 by decide) (show 0≤1000000 by decide)).mono ?_
 rintro r K3 ⟨_,a3⟩
 obtain⟨(rfl:r=.tuple [.int .i64 1,.int .i64 0]),v3,Q3⟩:=a3 (show 0<2 by decide)
 simp only[sA,sB,seval,ext_0,ext_1,bA]
 refine (made_spec opA).mono ?_
 rintro _ K4 ⟨b4,S4,rfl,J4,_,h4,E4⟩
 simp only[sA,sB,seval]
 refine (addR (l:=[⟨v3,1,0,[⟨1,b2,1,1,stA⟩]⟩,seat0]) Q3 (k:=0) rfl E4 (jobP_of J4 0) h4 (show 1≤1000 by decide) (show 1≤1000000 by decide)).mono ?_
 rintro r K5 ⟨_,a5⟩
 obtain⟨(rfl:r=.tuple [.int .i64 2,.int .i64 0]),v5,Q5⟩:=a5 (show 1<2 by decide)
 simp only[sA,sB,seval,ext_0,ext_1,bB]
 refine (made_spec opB).mono ?_
 rintro _ K6 ⟨b6,S6,rfl,J6,_,h6,E6⟩
 simp only[sA,sB,seval]
 refine (addR (l:=[⟨v5,2,0,[⟨1,b2,1,1,stA⟩,⟨2,b4,1,1,stA⟩]⟩,seat0]) Q5 (k:=0) rfl E6 (jobP_of J6 0) h6 (show 2≤1000 by decide) (show 2≤1000000 by decide)).mono ?_
 rintro r K7 ⟨a7,_⟩
 obtain⟨rfl,Q7⟩:=a7 (show 2≤2 by decide)
 simp only[sA,sB,seval,ext_0,ext_1]
 refine (tickR (l:=[⟨v5,2,0,[⟨1,b2,1,1,stA⟩,⟨2,b4,1,1,stA⟩]⟩,seat0]) Q7 o0 rfl dD dD (show 2≤1000 by decide)).mono ?_
 rw[tk1]
 rintro r K8 ⟨(rfl:r=.tuple [.int .i64 0,.int .i64 1,.int .i64 10]),Q8⟩
 simp only[sA,sB,seval,ext_0,ext_1,ex2]
 refine (tickR (l:=[⟨v5,2,1,[⟨1,b2,1,1,stA1⟩,⟨2,b4,1,1,stA⟩]⟩,seat0]) Q8 o1 rfl dD dD (show 0≤1000 by decide)).mono ?_
 rw[tk2]
 rintro r K9 ⟨(rfl:r=.tuple [.int .i64 1,.int .i64 0,.int .i64 0]),Q9⟩
 simp only[sA,sB,seval,ext_0,ext_1,ex2]
 refine (tickR (l:=[⟨v5,2,1,[⟨1,b2,1,1,stA1⟩,⟨2,b4,1,1,stA⟩]⟩,seat0]) Q9 o2 rfl dD dD (show 2≤1000 by decide)).mono ?_
 rw[tk3]
 rintro r K10 ⟨(rfl:r=.tuple [.int .i64 0,.int .i64 2,.int .i64 10]),Q10⟩
 simp only[sA,sB,seval,ext_0,ext_1,ex2]
 refine (tickR (l:=[⟨v5,2,2,[⟨1,b2,1,1,stA1⟩,⟨2,b4,1,1,stA1⟩]⟩,seat0]) Q10 o3 rfl dD dD (show 2≤1000 by decide)).mono ?_
 rw[tk4]
 rintro r K11 ⟨(rfl:r=.tuple [.int .i64 0,.int .i64 1,.int .i64 10]),Q11⟩
 simp only[sA,sB,seval,ext_0,ext_1,ex2]
 refine (cancelR (l:=[⟨v5,2,1,[⟨1,b2,1,1,stA2⟩,⟨2,b4,1,1,stA1⟩]⟩,seat0]) Q11 (k:=0) rfl (show 2≤1000 by decide) 1).mono ?_
 rintro _ K12 ⟨_,a12⟩
 obtain⟨rfl,v12,Q12⟩:=a12 0 (pl1 v5 b2 b4)
 simp only[sA,sB,seval,bB]
 refine (made_spec opB).mono ?_
 rintro _ K13 ⟨b13,S13,rfl,J13,_,h13,E13⟩
 simp only[sA,sB,seval]
 refine (addR (l:=[⟨v12,2,1,[⟨2,b4,1,1,stA1⟩]⟩,seat0]) Q12 (k:=0) rfl E13 (jobP_of J13 0) h13 (show 1≤1000 by decide) (show 2≤1000000 by decide)).mono ?_
 rintro r K14 ⟨_,a14⟩
 obtain⟨(rfl:r=.tuple [.int .i64 3,.int .i64 0]),v14,Q14⟩:=a14 (show 1<2 by decide)
 obtain⟨g1,g2,S14,I14,_⟩:=Q14
 simp only[sA,sB,seval,ext_0,ext_1]
 refine (ticks_spec I14.r).mono ?_
 rintro r _ ⟨(rfl:r=.int .i64 4),rfl⟩
 simp only[sA,sB,seval]
 refine (sowner_spec I14.r I14.f).mono ?_
 rintro r _ ⟨(rfl:r=.int .i64 1),rfl⟩
 simp only[sA,sB,seval]
 exact⟨tt,g2,fun c hc=>(g1 c hc).2⟩
open Go.Abs Go.Abs.S
structure Jb where
 tot:Nat
 u:Nat
def Jb.goes(j:Jb):Bool:=Nat.blt j.u j.tot
def Jb.grant(q:Nat)(j:Jb):Jb:=⟨j.tot,min j.tot (j.u+q)⟩
def findP(p:Nat→Jb→Bool):List Jb→Nat→Option Nat
 | [],_=>none
 | j::l,i=>if p i j then some i else findP p l (i+1)
def pick(s:Nat)(l:List Jb):Option Nat:=
 match findP (fun i j=>Nat.blt s (i+1)&&j.goes) l 0 with
 | some i=>some i
 | none=>findP (fun _ j=>j.goes) l 0
end Go.Proofs.Sd
namespace Go.Proofs.Fr
open Go.Abs Go.Abs.S
theorem getD_set(l:List Int)(i j:Nat)(a:Int)(hi:i<l.length):(l.set i a).getD j 0=if j=i then a else l.getD j 0:=by
 simp only[List.getD,List.getElem?_set]
 by_cases h:i=j
 ·subst h; simp[hi]
 ·rw[if_neg h,if_neg (fun e=>h e.symm)]
theorem getD_add{o w:List Int}(h:o.length=w.length)(i:Nat):(add o w).getD i 0=o.getD i 0+w.getD i 0:=by
 simp only[List.getD,add,List.getElem?_zipWith]
 by_cases hi:i<w.length
 ·rw[List.getElem?_eq_getElem (show i<o.length by omega),List.getElem?_eq_getElem hi]; rfl
 ·rw[List.getElem?_eq_none (show o.length≤i by omega),List.getElem?_eq_none (show w.length≤i by omega)]; rfl
theorem sum_add:∀{o w:List Int},o.length=w.length→(add o w).sum=o.sum+w.sum
 | [],[],_=>rfl
 | a::o,b::w,h=>by
  have:=sum_add (o:=o) (w:=w) (by simpa using h)
  simp only[add,List.zipWith_cons_cons,List.sum_cons]at this ⊢
  omega
theorem sum_set:∀(l:List Int) (i:Nat) (a:Int),i<l.length→(l.set i a).sum=l.sum-l.getD i 0+a
 | [],i,a,h=>by simp at h
 | x::l,0,a,_=>by simp only[List.set_cons_zero,List.sum_cons,List.getD,List.getElem?_cons_zero,Option.getD_some]; omega
 | x::l,i+1,a,h=>by
  have:=sum_set l i a (by simpa using h)
  simp only[List.set_cons_succ,List.sum_cons,this,List.getD,List.getElem?_cons_succ]
  omega
theorem am_max(o:List Int):∀(k who i:Nat),o.getD who 0≤o.getD (am o who i k) 0∧∀j,i≤j→j<i+k→o.getD j 0≤o.getD (am o who i k) 0
 | 0,who,i=>⟨Int.le_refl _,fun j h1 h2=>om⟩
 | k+1,who,i=>by
  simp only[am]
  by_cases h:o.getD who 0<o.getD i 0
  ·rw[if_pos h]
   obtain⟨h1,h2⟩:=am_max o k i (i+1)
   refine⟨om,fun j a b=>?_⟩
   by_cases e:j=i
   ·subst e; exact h1
   ·exact h2 j om om
  ·rw[if_neg h]
   obtain⟨h1,h2⟩:=am_max o k who (i+1)
   refine⟨h1,fun j a b=>?_⟩
   by_cases e:j=i
   ·subst e; omega
   ·exact h2 j om om
theorem amax_max(o:List Int)(j:Nat)(h:j<o.length):o.getD j 0≤o.getD (amax o) 0:=(am_max o o.length 0 0).2 j (Nat.zero_le _) om
theorem sum_nonpos:∀{l:List Int},(∀x∈l,x≤0)→l.sum≤0
 | [],_=>by simp
 | x::l,h=>by
  have h1:=h x (by simp)
  have h2:=sum_nonpos (l:=l) fun y hy=>h y (by simp[hy])
  simp only[List.sum_cons]; omega
theorem getD_mem{l:List Int}{x:Int}(h:x∈l):∃i,i<l.length∧l.getD i 0=x:=by
 obtain⟨i,hi,e⟩:=List.mem_iff_getElem.1 h
 exact⟨i,hi,by simp[List.getD,hi,e]⟩
theorem max_pos{o:List Int}(h:0<o.sum):0<o.getD (amax o) 0:=by
 by_cases c:0<o.getD (amax o) 0
 ·exact c
 ·have:o.sum≤0:=sum_nonpos fun x hx=>by
   obtain⟨i,hi,rfl⟩:=getD_mem hx
   have:=amax_max o i hi
   omega
  omega
theorem ow_sum(w:List Int)(hn:0<w.length):∀k,(ow w w.sum k).sum=0
 | 0=>by simp[ow]
 | k+1=>by
  have hl:=add_len _ _ (ow_len w w.sum k)
  have hp:=pk_lt w w.sum k hn
  simp only[ow]
  rw[sum_set _ _ _ (by rw[hl]; exact hp),sum_add (ow_len w w.sum k),ow_sum w hn k]
  omega
theorem ow_low(w:List Int)(hn:0<w.length)(hs:0<w.sum)(hw:∀x∈w,1≤x∧x≤256):∀k i,i<w.length→-w.sum<(ow w w.sum k).getD i 0
 | 0,i,hi=>by simp only[ow,List.getD,List.getElem?_replicate,if_pos hi,Option.getD_some]; omega
 | k+1,i,hi=>by
  have hl:=add_len _ _ (ow_len w w.sum k)
  have hp:=pk_lt w w.sum k hn
  have ih:=ow_low w hn hs hw k i hi
  have hwi:=hw (w.getD i 0) (by simp[List.getD,hi])
  have hm:=max_pos (o:=add (ow w w.sum k) w) (by rw[sum_add (ow_len w w.sum k),ow_sum w hn k]; omega)
  simp only[ow]
  rw[getD_set _ _ _ _ (by rw[hl]; exact hp)]
  split
  ·omega
  ·rw[getD_add (ow_len w w.sum k)]; omega
def cnt(w:List Int)(i:Nat)(k:Nat):Nat:=((List.range k).map (pk w w.sum)).count i
theorem cnt_succ(w:List Int)(i k:Nat):cnt w i (k+1)=cnt w i k+if i=pk w w.sum k then 1 else 0:=by
 simp only[cnt,List.range_succ,List.map_append,List.map_cons,List.map_nil,List.count_append,List.count_singleton]
 congr 1
 by_cases h:i=pk w w.sum k
 ·rw[if_pos h,h]; simp
 ·rw[if_neg h,if_neg (by simpa using fun e=>h e.symm)]
theorem ow_cnt(w:List Int)(hn:0<w.length):∀k i,i<w.length→(ow w w.sum k).getD i 0=k*w.getD i 0-w.sum*cnt w i k
 | 0,i,hi=>by simp only[ow,List.getD,List.getElem?_replicate,if_pos hi,Option.getD_some,cnt]; simp
 | k+1,i,hi=>by
  have hl:=add_len _ _ (ow_len w w.sum k)
  have hp:=pk_lt w w.sum k hn
  have ih:=ow_cnt w hn k i hi
  simp only[ow]
  rw[getD_set _ _ _ _ (by rw[hl]; exact hp),cnt_succ]
  have e:((k+1:Nat):Int)*w.getD i 0=k*w.getD i 0+w.getD i 0:=by
   rw[Int.natCast_add,Int.add_mul]; simp
  rw[e]
  by_cases h:i=pk w w.sum k
  ·have h':i=amax (add (ow w w.sum k) w):=h
   rw[if_pos h',if_pos h,← h',getD_add (ow_len w w.sum k),ih]
   rw[Int.natCast_add,Int.mul_add]; simp; omega
  ·have h':¬i=amax (add (ow w w.sum k) w):=h
   rw[if_neg h',if_neg h,getD_add (ow_len w w.sum k),ih]
   simp; omega
theorem sum_nonneg_zero:∀{l:List Int},(∀x∈l,0≤x)→l.sum=0→∀x∈l,x=0
 | [],_,_=>by simp
 | x::l,h,hs=>by
  have h1:=h x (by simp)
  have hl:0≤l.sum:=by
   have:=sum_nonpos (l:=l.map fun y=>-y) (by intro y hy; obtain⟨z,hz,rfl⟩:=List.mem_map.1 hy; have:=h z (by simp[hz]); omega)
   have e:(l.map fun y=>-y).sum=- l.sum:=by
    clear h hs h1 this
    induction l with
    | nil=>simp
    | cons a l ih=>simp only[List.map_cons,List.sum_cons,ih]; omega
   omega
  simp only[List.sum_cons]at hs
  intro y hy
  rcases List.mem_cons.1 hy with rfl | hy
  ·omega
  ·exact sum_nonneg_zero (l:=l) (fun z hz=>h z (by simp[hz])) om y hy
theorem ow_end(w:List Int)(hn:0<w.length)(hs:0<w.sum)(hw:∀x∈w,1≤x∧x≤256){sN:Nat}(hN:w.sum=sN):ow w w.sum sN=List.replicate w.length 0:=by
 have hlen:=ow_len w w.sum sN
 have hz:∀i,i<w.length→(ow w w.sum sN).getD i 0=w.sum*(w.getD i 0-cnt w i sN):=fun i hi=>by
  rw[ow_cnt w hn sN i hi,← hN,Int.mul_sub]
 have hnn:∀x∈ow w w.sum sN,0≤x:=by
  intro x hx
  obtain⟨i,hi,rfl⟩:=getD_mem hx
  have h1:=ow_low w hn hs hw sN i om
  rw[hz i om]at h1 ⊢
  generalize w.getD i 0-(cnt w i sN:Int)=d at h1
  have:0≤d:=by
   by_cases c:0≤d
   ·exact c
   ·have:w.sum*d≤w.sum*(-1):=Int.mul_le_mul_of_nonneg_left om om
    omega
  exact Int.mul_nonneg om this
 have h0:=sum_nonneg_zero hnn (ow_sum w hn sN)
 rw[List.eq_replicate_iff]
 exact⟨hlen,h0⟩
theorem cnt_end(w:List Int)(hn:0<w.length)(hs:0<w.sum)(hw:∀x∈w,1≤x∧x≤256){sN:Nat}(hN:w.sum=sN)(i:Nat)(hi:i<w.length):(cnt w i sN:Int)=w.getD i 0:=by
 have h1:=ow_cnt w hn sN i hi
 rw[ow_end w hn hs hw hN]at h1
 simp only[List.getD,List.getElem?_replicate,if_pos hi,Option.getD_some]at h1
 have h2:w.sum*((w[i]?.getD 0)-cnt w i sN)=0:=by rw[hN]at h1; rw[Int.mul_sub,hN]; omega
 rcases Int.mul_eq_zero.1 h2 with h | h
 ·omega
 ·simp only[List.getD]; omega
theorem count_cast:∀(l:List Nat) (i:Nat),(l.map fun x:Nat=>(x:Int)).count (i:Int)=l.count i
 | [],i=>rfl
 | x::l,i=>by
  simp only[List.map_cons,List.count_cons,count_cast l i]
  congr 1
  by_cases h:x=i
  ·subst h; simp
  ·have:¬(x:Int)=i:=om
   simp[h,this]
theorem frame_count(w:List Int)(h:okB w=true)(i:Nat)(hi:i<w.length):((frame w).count (i:Int):Int)=w.getD i 0:=by
 obtain⟨h1,h2,h3,h4⟩:=(okB_iff w).1 h
 have hb:=sum_bd h3
 obtain⟨sN,hN⟩:=Int.eq_ofNat_of_zero_le (show 0≤w.sum by omega)
 have:=cnt_end w om om h3 hN i hi
 rw[← this]
 have e:frame w=((List.range sN).map (pk w w.sum)).map fun x:Nat=>(x:Int):=by
  rw[frame,picks,hN,List.map_map]; rfl
 rw[e,count_cast]; rfl
theorem turn(f:List Int)(a:Nat)(h:0<f.length):((List.range f.length).map fun n=>f.getD ((a+n) % f.length) 0)=f.drop (a % f.length)++f.take (a % f.length):=by
 have hr:=Nat.mod_lt a h
 have hd:=Nat.div_add_mod a f.length
 apply List.ext_getElem?
 intro i
 by_cases hi:i<f.length
 ·rw[List.getElem?_map,List.getElem?_range hi]
  simp only[Option.map_some]
  by_cases hlt:i<f.length-a % f.length
  ·have e:(a+i) % f.length=a % f.length+i:=by
    rw[Nat.add_mod,Nat.mod_eq_of_lt hi,Nat.mod_eq_of_lt om]
   rw[List.getElem?_append_left (by simp; omega),List.getElem?_drop,e]
   simp[List.getD,show a % f.length+i<f.length by omega]
  ·have e:(a+i) % f.length=a % f.length+i-f.length:=by
    rw[Nat.add_mod,Nat.mod_eq_of_lt hi,Nat.mod_eq_sub_mod om,Nat.mod_eq_of_lt om]
   rw[List.getElem?_append_right (by simp; omega),List.getElem?_take_of_lt (by simp; omega),e]
   simp only[List.length_drop]
   rw[show i-(f.length-a % f.length)=a % f.length+i-f.length by omega]
   simp[List.getD,show a % f.length+i-f.length<f.length by omega]
 ·rw[List.getElem?_eq_none (by simp; omega),List.getElem?_eq_none (by simp; omega)]
def met(f:List Int)(a k:Nat)(i:Int):Nat:=((List.range k).map fun n=>f.getD ((a+n) % f.length) 0).count i
theorem met_succ(f:List Int)(a k:Nat)(i:Int):met f a (k+1) i=met f a k i+if f.getD ((a+k) % f.length) 0=i then 1 else 0:=by
 simp only[met,List.range_succ,List.map_append,List.map_cons,List.map_nil,List.count_append,List.count_singleton]
 congr 1
 by_cases h:f.getD ((a+k) % f.length) 0=i
 ·rw[if_pos h,h]; simp
 ·rw[if_neg h,if_neg (by simpa using h)]
theorem met_all(f:List Int)(a:Nat)(h:0<f.length)(i:Int):met f a f.length i=f.count i:=by
 rw[met,turn f a h,List.count_append,Nat.add_comm,← List.count_append,List.take_append_drop]
end Go.Proofs.Fr
namespace Go.Proofs.Sd
open Go.Abs Go.Abs.S
open Go.Proofs.Fr (ownerF frame okB okB_iff met met_succ met_all frame_count pk_lt picks)
theorem owner_at{w:List Int}(h:okB w=true)(t:Nat):∃k,k<w.length∧ownerF (frame w) t=(k:Int)∧(frame w).getD (t % (frame w).length) 0=(k:Int):=by
 obtain⟨h1,h2,h3,h4⟩:=(okB_iff w).1 h
 have hb:=Go.Proofs.Fr.sum_bd h3
 have hl:(frame w).length=w.sum.toNat:=by rw[frame,picks]; simp
 have hp:0<(frame w).length:=by rw[hl]; omega
 have hm:=Nat.mod_lt t hp
 obtain⟨y,hy⟩:∃y,(frame w)[t % (frame w).length]?=some y:=⟨_,List.getElem?_eq_getElem hm⟩
 have hyk:∃k,k<w.length∧y=(k:Int):=by
  have:y∈frame w:=List.mem_of_getElem? hy
  rw[frame,picks,List.mem_map]at this
  obtain⟨i,_,rfl⟩:=this
  exact⟨_,pk_lt w _ i om,rfl⟩
 obtain⟨k,hk,rfl⟩:=hyk
 have hg:(frame w).getD (t % (frame w).length) 0=(k:Int):=by simp[List.getD,hy]
 refine⟨k,hk,?_,hg⟩
 unfold ownerF
 rw[if_neg om,Int.toNat_natCast]
 exact hg
open Go.Abs Go.Abs.S
open Go.Proofs.Fr (ownerF frame okB okB_iff met met_succ met_all frame_count picks)
section
variable {w:List Int} {Q m:Nat} {wk:List Nat} {n:Nat} {l:List SeatV} {x:SeatV}
end
open Go.Abs Go.Abs.S
open Go.Proofs.Fr (ownerF frame okB met)
open Go.Proofs.Tb (cel_same cel_blk)
section
variable {R:Nat→Prop} {K0 K:AHeap} {b:Nat} {fv:AVal} {fr:List Int} {units slots ticks bs:Nat} {l:List SeatV}
end
open Go.Abs Go.Abs.S
open Go.Proofs.Fr (ownerF frame okB met)
open Go.Abs Go.Abs.S
open Go.Proofs.Fr (ownerF frame okB met)
open Go.Proofs.Tc (SlK rd_part)
theorem op_len(o:Opn):o.cells.length=8:=rfl
theorem slk_op{P:Nat→Prop}{H:AHeap}{v:AVal}{l:List Opn}(h:SlK P H 8 v l.length (l.flatMap Opn.cells)){i:Nat}{o:Opn}(hi:l[i]?=some o) :
  ∃b lim f,aIdxA 8 v (.int .i64 (i:Int))=some (cellR b lim f)∧oLoad true 8 H (cellR b lim f)=some (.agg o.cells)∧∀(k:Nat) (x:AVal),o.cells[k]?=some x→oLoad false 1 H (cellR b lim (f+k))=some x:=by
 have hlt:=(List.getElem?_eq_some_iff.1 hi).1
 rcases h with⟨_,h0,_⟩ | ⟨a,r,rfl,_,h3⟩
 ·omega
 ·have hm:i*8+8≤8*l.length:=om
  refine⟨a.b,a.lim,a.o+i*8,?_,?_,fun k x hk=>?_⟩
  ·show (bif Nat.blt i l.length then some (AVal.ptr (some ⟨a.b,a.lim,a.o+i*8⟩)) else none)=_
   rw[show Nat.blt i l.length=true by simpa[Nat.blt_eq] using hlt]; rfl
  ·have e:((l.flatMap Opn.cells).drop (i*8)).take 8=o.cells:=by
    refine List.ext_getElem? fun t=>?_
    rw[List.getElem?_take,List.getElem?_drop]
    split
    ·rename_i ht
     exact fm_get op_len hi ht
    ·rename_i ht
     rw[List.getElem?_eq_none (by rw[op_len]; omega)]
   simp only[oLoad,cellR,rd_part h3 hm,cond_true,e]
  ·have hk8:k<8:=by have:=(List.getElem?_eq_some_iff.1 hk).1; rw[op_len]at this; exact this
   have e:((l.flatMap Opn.cells).drop (i*8+k)).take 1=[x]:=by
    have:(l.flatMap Opn.cells)[i*8+k]?=some x:=by rw[fm_get op_len hi hk8,hk]
    obtain⟨hl,he⟩:=List.getElem?_eq_some_iff.1 this
    rw[List.drop_eq_getElem_cons hl,he]; rfl
   simp only[oLoad,cellR,Nat.add_assoc,rd_part h3 (show i*8+k+1≤8*l.length by omega),e]
   rfl
open Go.Abs Go.Abs.S
open Go.Proofs.Fr (ownerF frame okB met)
open Go.Proofs.Tc (SlK)
open Go.Abs Go.Abs.S
open Go.Proofs.Fr (ownerF frame okB okB_iff met)
open Go.Proofs.Tc (SlK)
open Go.Proofs.Tb (src_cel cel_same cel_blk)
open Go.Abs Go.Abs.S
open Go.WideShapes Go.ChangeShapes
open Go.Proofs.Tc (SlK)
variable {K:Type} {enc:TypeId×Value→K}
theorem mapM_none{α:Type}{f:Nat→Option α}{m:Nat}(h:f 0=none)(hm:0<m):(List.range m).mapM f=none:=by
 obtain⟨m,rfl⟩:∃k,m=k+1:=⟨m-1,om⟩
 rw[List.range_succ_eq_map,List.mapM_cons,h]; rfl
theorem cells_spot{W:World}{c off:Nat}{q}{m:Nat}(hm:0<m):W.cells? 0 ⟨c,off,some q⟩ m=none:=by
 unfold World.cells?
 split
 ·refine mapM_none ?_ hm
  show W.cell? ⟨c,off,some q⟩=none
  unfold World.cell?
  split
  ·rfl
  ·rfl
 ·rfl
theorem slk_empty{W:World}{m:Nat}{a:Addr}:SlK (·<(heapW W).next) (heapW W) m (absW W (.slice (some a) 0 0)) 0 []:=by
 obtain⟨c,off,spot⟩:=a
 cases spot with
 | some q=>exact .inl ⟨rfl,rfl,rfl⟩
 | none=>
  cases hr:rowOf W c with
  | none=>exact .inl ⟨by simp only[absW,Nat.le_refl,if_true,hr]; rfl,rfl,rfl⟩
  | some n=>
   by_cases ho:off≤n
   ·obtain⟨C,e',fz,g1,g2,g3⟩:=objW_some hr
    have hlt:c<(heapW W).next:=(Array.getElem?_eq_some_iff.1 g1).1
    refine .inr ⟨⟨c,n,off⟩,.known 0,by simp only[absW,Nat.le_refl,if_true,hr,ho],hlt,?_⟩
    unfold rdCells
    rw[heapW_get,g3]
    simp only[List.length_map,Array.length_toList,g2,Nat.mul_zero,Nat.add_zero,List.take_zero,Nat.ble_eq_true_of_le (Nat.zero_le _),Nat.ble_eq_true_of_le rL,Nat.ble_eq_true_of_le ho,Bool.and_self,cond_true]
   ·exact .inl ⟨by simp only[absW,Nat.le_refl,if_true,hr]; rw[if_neg ho]; rfl,rfl,rfl⟩
theorem trod_sl{P:Program}{W:World}{t e:TypeId}{m fuel:Nat}{cs:List Value}{x:DataW K×List MemPlace}(ht:P.underlying t=some (.slice e))(hm:P.cellsOf e=m)(h0:0<m)
  (hf:DataW.trod enc P W 0 (fun _=>true) true fuel t cs=some x) :
  ∃v k C,cs=[v]∧(k=0∨∃el sp,x.1=.slice el sp∧el.length=k)∧SlK (·<(heapW W).next) (heapW W) m (absW W v) k C∧C.length=m*k∧∀i,i<k→∃f es y,f<fuel∧es.map (absW W)=(C.drop (i*m)).take m∧DataW.trod enc P W 0 (fun _=>true) true f e es=some y∧∃el sp,x.1=.slice el sp∧el[i]?=some y.1:=by
 subst hm
 rcases DataW.trod_slice ht hf with⟨rfl,_⟩ | ⟨a,len,cap,elems,rest,n',hfu,rfl,hx,_,h3,h4,h5,h6,h7,_⟩
 ·exact⟨_,0,[],rfl,.inl rfl,.inl ⟨by simp only[absW]; rfl,rfl,rfl⟩,rfl,fun i hi=>om⟩
 obtain⟨h7a,h7b⟩:=h7 rfl
 by_cases hc:cap=0
 ·obtain rfl:len=0:=om
  subst hc
  exact⟨_,0,[],rfl,.inl rfl,slk_empty,rfl,fun i hi=>om⟩
 have hal:∀i,i<cap→∃es,W.cells? 0 (a.add (i*P.cellsOf e)) (P.cellsOf e)=some es:=by
  intro i hi
  by_cases hlt:i<len
  ·have:=h6 i hlt
   rw[List.getElem?_eq_getElem om]at this
   obtain⟨es,q,_⟩:=Option.bind_eq_some_iff.1 this
   exact⟨es,q⟩
  ·have:=h7b (i-len) om
   rw[List.getElem?_eq_getElem om,show len+(i-len)=i by omega]at this
   obtain⟨es,q,_⟩:=Option.bind_eq_some_iff.1 this
   exact⟨es,q⟩
 obtain⟨c,off,spot⟩:=a
 cases spot with
 | some q=>
  obtain⟨es,hes⟩:=hal 0 om
  rw[Nat.zero_mul,show (⟨c,off,some q⟩:Addr).add 0=⟨c,off,some q⟩ from rfl,cells_spot h0]at hes
  simp at hes
 | none=>
  have key:∀i,i<cap→∀es,W.cells? 0 ((⟨c,off,none⟩:Addr).add (i*P.cellsOf e)) (P.cellsOf e)=some es→es.length=P.cellsOf e∧∀j,j<P.cellsOf e→W.cell? ⟨c,off+i*P.cellsOf e+j,none⟩=es[j]?:=by
   intro i _ es hes
   rw[add_none]at hes
   exact cells_at hes
  obtain⟨es0,hes0⟩:=hal (cap-1) om
  obtain⟨q1,q2⟩:=key (cap-1) om es0 hes0
  have q3:=q2 (P.cellsOf e-1) om
  rw[List.getElem?_eq_getElem om]at q3
  obtain⟨n,hn⟩:∃n,rowOf W c=some n:=by
   unfold World.cell? at q3
   unfold rowOf
   split at q3
   ·rename_i C _ _ hC; exact⟨C.size,by simp only at hC; rw[hC]⟩
   ·simp at q3
  obtain⟨C,e',fz,g1,g2,g3⟩:=objW_some hn
  rw[cell?_of g1]at q3
  have hb:=(Array.getElem?_eq_some_iff.1 q3).1
  have hcap:(cap-1)*P.cellsOf e+P.cellsOf e=cap*P.cellsOf e:=by
   rw[← Nat.succ_mul]; congr 1; omega
  have hlc:len*P.cellsOf e≤cap*P.cellsOf e:=Nat.mul_le_mul_right _ h3
  have hlt:c<(heapW W).next:=(Array.getElem?_eq_some_iff.1 g1).1
  have hmul:P.cellsOf e*len=len*P.cellsOf e:=Nat.mul_comm _ _
  refine⟨_,len,((C.toList.map (absW W)).drop off).take (P.cellsOf e*len),rfl,.inr ⟨_,_,congrArg Prod.fst hx,by rw[List.length_map]; omega⟩,.inr ⟨⟨c,n,off⟩,.known cap,?_,hlt,?_⟩,?_,?_⟩
  ·simp only[absW,h3,if_true,hn,show off≤n by omega]
  ·unfold rdCells
   rw[heapW_get,g3]
   simp only[List.length_map,Array.length_toList,g2,Nat.ble_eq_true_of_le (Nat.zero_le _),Nat.ble_eq_true_of_le rL,Nat.ble_eq_true_of_le (show off+P.cellsOf e*len≤n by omega),Bool.and_self,cond_true]
  ·rw[List.length_take,List.length_drop,List.length_map,Array.length_toList]; omega
  ·intro i hi
   have:=h6 i hi
   rw[List.getElem?_eq_getElem om]at this
   obtain⟨es,r1,r2⟩:=Option.bind_eq_some_iff.1 this
   obtain⟨l1,l2⟩:=key i om es r1
   refine⟨n',es,_,om,?_,r2,_,_,congrArg Prod.fst hx,by rw[List.getElem?_map,List.getElem?_eq_getElem om]; rfl⟩
   apply List.ext_getElem?
   intro j
   have hil:i*P.cellsOf e+P.cellsOf e≤len*P.cellsOf e:=by
    rw[← Nat.succ_mul]; exact Nat.mul_le_mul_right _ hi
   by_cases hj:j<P.cellsOf e
   ·rw[List.getElem?_take_of_lt hj,List.getElem?_drop,List.getElem?_take_of_lt om,List.getElem?_drop,List.getElem?_map,List.getElem?_map,← l2 j hj,cell?_of g1,Array.getElem?_toList,Nat.add_assoc]
   ·rw[List.getElem?_eq_none (by rw[List.length_map]; omega),List.getElem?_eq_none (by rw[List.length_take]; omega)]
def Fd(P:Program)(fs:Array Field)(i off n:Nat)(T:TypeId→Prop):Prop:=∃f,fs[i]?=some f∧f.offset=off∧P.cellsOf f.type=n∧T f.type
theorem fd_trod{P:Program}{W:World}{fuel:Nat}{cs:List Value}{xs:List (DataW K×List MemPlace)}{fs:Array Field}{i off n:Nat}{T:TypeId→Prop}(h:Fd P fs i off n T)(hl:xs.length=fs.size)
  (hi:∀(i:Nat) (f:Field),fs[i]?=some f→DataW.trod enc P W 0 (fun _=>true) true fuel f.type ((cs.drop f.offset).take (P.cellsOf f.type))=xs[i]?) :
  ∃t y,T t∧DataW.trod enc P W 0 (fun _=>true) true fuel t ((cs.drop off).take n)=some y∧xs[i]?=some y∧(fs.toList.map (·.type))[i]?=some t:=by
 obtain⟨f,h1,rfl,rfl,h4⟩:=h
 have h5:=hi i f h1
 have hlt:=(Array.getElem?_eq_some_iff.1 h1).1
 rw[List.getElem?_eq_getElem om]at h5
 exact⟨_,_,h4,h5,List.getElem?_eq_getElem _,by rw[List.getElem?_map,Array.getElem?_toList,h1]; rfl⟩
abbrev IsI(P:Program)(k:IntKind)(t:TypeId):Prop:=P.underlying t=some (.int k)
theorem flat_of{α:Type}{g:α→List AVal}{m:Nat}:∀(k:Nat) (C:List AVal),C.length=m*k→(∀i,i<k→∃e,(C.drop (i*m)).take m=g e)→∃l:List α,l.length=k∧C=l.flatMap g
 | 0,C,h,_=>⟨[],rfl,by cases C with | nil=>rfl | cons a b=>simp at h⟩
 | k+1,C,h,hq=>by
  obtain⟨e,h1⟩:=hq 0 om
  obtain⟨l,a1,a2⟩:=flat_of (g:=g) (m:=m) k (C.drop m) (by rw[List.length_drop,h,Nat.mul_succ]; omega) fun i hi=>by
   obtain⟨e,g1⟩:=hq (i+1) om
   refine⟨e,?_⟩
   rw[List.drop_drop,show m+i*m=(i+1)*m by rw[Nat.succ_mul]; omega]; exact g1
  rw[Nat.zero_mul,List.drop_zero]at h1
  exact⟨e::l,by simp[a1],by rw[List.flatMap_cons,← h1,← a2,List.take_append_drop]⟩
structure OpT(P:Program)(t:TypeId):Prop where
 c:P.cellsOf t=8
 f:∃fs:Array Field,P.underlying t=some (.struct fs)∧Fd P fs 0 0 1 (IsI P .i64)∧Fd P fs 1 1 1 (IsI P .i64)∧Fd P fs 2 2 1 (IsI P .i64)∧Fd P fs 3 3 1 (IsI P .i64)∧Fd P fs 4 4 1 (IsI P .i64)∧Fd P fs 5 5 1 (IsI P .i64)∧Fd P fs 6 6 1 (IsI P .i64)∧Fd P fs 7 7 1 (IsI P .i64)
theorem trod_op{P:Program}{W:World}{t:TypeId}(Y:OpT P t){fuel:Nat}{cs:List Value}{x:DataW K×List MemPlace}(hf:DataW.trod enc P W 0 (fun _=>true) true fuel t cs=some x) :
  ∃o:Opn,cs.map (absW W)=o.cells:=by
 obtain⟨fs,hfs,d0,d1,d2,d3,d4,d5,d6,d7⟩:=Y.f
 obtain⟨xs,n,hfu,_,hl,hn,hi⟩:=DataW.trod_struct hfs hf
 rw[Y.c]at hl
 obtain⟨c0,c1,c2,c3,c4,c5,c6,c7,rfl⟩:∃a b c d e f g h,cs=[a,b,c,d,e,f,g,h]:=by
  match cs,hl with
  | [a,b,c,d,e,f,g,h],_=>exact⟨a,b,c,d,e,f,g,h,rfl⟩
 obtain⟨_,_,g0,t0,_⟩:=fd_trod d0 hn hi
 obtain⟨_,_,g1,t1,_⟩:=fd_trod d1 hn hi
 obtain⟨_,_,g2,t2,_⟩:=fd_trod d2 hn hi
 obtain⟨_,_,g3,t3,_⟩:=fd_trod d3 hn hi
 obtain⟨_,_,g4,t4,_⟩:=fd_trod d4 hn hi
 obtain⟨_,_,g5,t5,_⟩:=fd_trod d5 hn hi
 obtain⟨_,_,g6,t6,_⟩:=fd_trod d6 hn hi
 obtain⟨_,_,g7,t7,_⟩:=fd_trod d7 hn hi
 obtain⟨z0,e0,_,_⟩:=DataW.trod_int g0 t0
 obtain⟨z1,e1,_,_⟩:=DataW.trod_int g1 t1
 obtain⟨z2,e2,_,_⟩:=DataW.trod_int g2 t2
 obtain⟨z3,e3,_,_⟩:=DataW.trod_int g3 t3
 obtain⟨z4,e4,_,_⟩:=DataW.trod_int g4 t4
 obtain⟨z5,e5,_,_⟩:=DataW.trod_int g5 t5
 obtain⟨z6,e6,_,_⟩:=DataW.trod_int g6 t6
 obtain⟨z7,e7,_,_⟩:=DataW.trod_int g7 t7
 simp at e0 e1 e2 e3 e4 e5 e6 e7
 subst e0 e1 e2 e3 e4 e5 e6 e7
 exact⟨⟨z0,z1,z2,z3,z4,z5,z6,z7⟩,rfl⟩
theorem trod_ops{P:Program}{W:World}{t e:TypeId}(ht:P.underlying t=some (.slice e))(Y:OpT P e){fuel:Nat}{cs:List Value}{x:DataW K×List MemPlace}(hf:DataW.trod enc P W 0 (fun _=>true) true fuel t cs=some x) :
  ∃(v:Value) (l:List Opn),cs=[v]∧SlK (·<(heapW W).next) (heapW W) 8 (absW W v) l.length (l.flatMap Opn.cells):=by
 obtain⟨v,k,C,e1,l1,S,lC,u⟩:=trod_sl ht Y.c om hf
 obtain⟨l,hl,rfl⟩:=flat_of (g:=Opn.cells) (m:=8) k C lC fun i hi=>by
  obtain⟨f,es,y,_,r2,r3,_⟩:=u i hi
  obtain⟨o,ho⟩:=trod_op Y r3
  exact⟨o,r2.symm.trans ho⟩
 subst hl
 exact⟨v,l,e1,S⟩
open Go.Abs Go.Abs.S
theorem made_nil{H:AHeap}:ACalls Tryz.prog noNat 34 [.ptr none] H fun v H'=>v=.bool false∧H=H':=by
 have e1:aPf (.eqv true .ptr) [.ptr none,.ptr none]=some (.bool false):=rfl
 refine acalls_ofN rfl za34 rfl ?_
 simp only[c34,sA,sB,seval,e1]
 exact⟨tt,tt⟩
theorem take_nil{H:AHeap}{n:Int}:ACalls Tryz.prog noNat 24 [.ptr none,.int .i64 n] H fun v H'=>v=nilS∧H=H':=by
 refine acalls_ofN rfl za24 rfl ?_
 simp only[c24,sA,sB,seval]
 refine made_nil.mono ?_
 rintro _ _ ⟨rfl,rfl⟩
 simp only[sA,sB,seval]
 exact⟨tt,tt⟩
theorem take_few{S:Nat→Prop}{H:AHeap}{b w h:Nat}{s:Sta}{n:Int}(J:JobS S H b w h s)(hn:n<1):ACalls Tryz.prog noNat 24 [cellR b 14 0,.int .i64 n] H fun v H'=>v=nilS∧H=H':=by
 refine acalls_ofN rfl za24 rfl ?_
 simp only[c24,sA,sB,seval]
 refine J.made.mono ?_
 rintro _ _ ⟨rfl,rfl⟩
 simp only[sA,sB,seval,hn]
 exact⟨tt,tt⟩
def takeV(x:SeatV)(id n:Int):List UInt8×SeatV:=
 if placeV x id<0 then ([],x) else match x.l[(placeV x id).toNat]? with
 | some j=>if n<1 then ([],x) else (j.s.2.2.take (min n.toNat j.s.2.2.length),{ x with l:=x.l.set (placeV x id).toNat (tookJ n j) })
 | none=>([],x)
theorem cel_nilB(n:Nat)(H:AHeap):Cel n H nilS (byts []):=.inl ⟨rfl,rfl⟩
theorem takeP{S:Nat→Prop}{K:AHeap}{b:Nat}{fv:AVal}{fr:List Int}{units slots ticks bs:Nat}{l:List SeatV}(I:SchI S K b fv fr units slots ticks bs l){k:Nat}{x:SeatV}(hk:l[k]?=some x)(id n:Int) :
  ACalls Tryz.prog noNat 24 [jobA x (placeV x id),.int .i64 n] K fun r K'=>Cel K'.next K' r (byts (takeV x id n).1)∧SchI S K' b fv fr units slots ticks bs (l.set k (takeV x id n).2)∧Blk r (K.next≤·)∧K.next≤K'.next∧∀c,c<K.next→¬S c→K'.get c=K.get c:=by
 unfold takeV jobA
 by_cases c:placeV x id<0
 ·rw[if_pos c,if_pos c]
  refine take_nil.mono ?_
  rintro _ _ ⟨rfl,rfl⟩
  exact⟨cel_nilB _ _,by rw[set_self hk]; exact I,blk_nil _,Nat.le_refl _,fun _ _ _=>rfl⟩
 ·rw[if_neg c,if_neg c]
  obtain⟨r,hr⟩:=Int.eq_ofNat_of_zero_le (show 0≤placeV x id by omega)
  obtain⟨j,hj,_⟩:=place_lt hr
  rw[hr,Int.toNat_natCast,hj]
  by_cases c1:n<1
  ·simp only[if_pos c1]
   obtain⟨S1,_,p⟩:=(I.ents hk).2.2 r j hj
   refine (take_few p.1 c1).mono ?_
   rintro _ _ ⟨rfl,rfl⟩
   exact⟨cel_nilB _ _,by rw[set_self hk]; exact I,blk_nil _,Nat.le_refl _,fun _ _ _=>rfl⟩
  ·simp only[if_neg c1]
   exact takeI I hk hj om
structure Hd where
 b:Nat
 fv:AVal
 fr:List Int
 units:Nat
 slots:Nat
 bs:Nat
def Tw(X:Nat→Prop)(K0 K:AHeap)(a:Hd)(ta:Nat)(la:List SeatV)(b:Hd)(tb:Nat)(lb:List SeatV):Prop:=
 (∀c,X c→c<K0.next∧K.get c=K0.get c)∧K0.next≤K.next∧∃Sa Sb,SchI Sa K a.b a.fv a.fr a.units a.slots ta a.bs la∧SchI Sb K b.b b.fv b.fr b.units b.slots tb b.bs lb∧(∀c,Sa c→¬Sb c)∧(∀c,Sa c→¬X c)∧(∀c,Sb c→¬X c)
section
variable {X:Nat→Prop} {K0 K:AHeap} {a b:Hd} {ta tb:Nat} {la lb:List SeatV}
theorem Tw.swap(h:Tw X K0 K a ta la b tb lb):Tw X K0 K b tb lb a ta la:=by
 obtain⟨h1,h2,Sa,Sb,A,B,d,ha,hb⟩:=h
 exact⟨h1,h2,Sb,Sa,B,A,fun c hc q=>d c q hc,hb,ha⟩
theorem Tw.ext(h:Tw X K0 K a ta la b tb lb){K':AHeap}(E:Ext K.next K K'):Tw X K0 K' a ta la b tb lb:=by
 obtain⟨h1,h2,Sa,Sb,A,B,d,ha,hb⟩:=h
 have e:=E.next
 exact⟨fun c hc=>⟨(h1 c hc).1,by rw[E.old c (by have:=(h1 c hc).1; omega),(h1 c hc).2]⟩,om,Sa,Sb,A.ext E,B.ext E,d,ha,hb⟩
theorem Tw.more(h:Tw X K0 K a ta la b tb lb){K1:AHeap}(E:Ext K.next K K1):Tw (fun c=>X c∨(K.next≤c∧c<K1.next)) K1 K1 a ta la b tb lb:=by
 obtain⟨h1,h2,Sa,Sb,A,B,d,ha,hb⟩:=h
 have e:=E.next
 exact⟨fun c hc=>⟨hc.elim (fun q=>by have:=(h1 c q).1; omega) fun q=>q.2,rfl⟩,Nat.le_refl _,Sa,Sb,A.ext E,B.ext E,d,fun c hc q=>q.elim (ha c hc) fun z=>by have:=A.sn c hc; omega,fun c hc q=>q.elim (hb c hc) fun z=>by have:=B.sn c hc; omega⟩
theorem Tw.back(h:Tw X K0 K a ta la b tb lb){X':Nat→Prop}{K2:AHeap}{ta' tb':Nat}{la' lb':List SeatV}(h':Tw X' K K2 a ta' la' b tb' lb')(hX:∀c,X c→X' c):Tw X K0 K2 a ta' la' b tb' lb':=by
 obtain⟨h1,h2,_⟩:=h
 obtain⟨g1,g2,Sa,Sb,A,B,d,ha,hb⟩:=h'
 exact⟨fun c hc=>⟨(h1 c hc).1,by rw[(g1 c (hX c hc)).2,(h1 c hc).2]⟩,om,Sa,Sb,A,B,d,fun c hc q=>ha c hc (hX c q),fun c hc q=>hb c hc (hX c q)⟩
theorem Tw.left(h:Tw X K0 K a ta la b tb lb):∃R,SchR R K K a.b a.fv a.fr a.units a.slots ta a.bs la∧∀K' ta' la',SchR R K K' a.b a.fv a.fr a.units a.slots ta' a.bs la'→Tw X K0 K' a ta' la' b tb lb:=by
 obtain⟨h1,h2,Sa,Sb,A,B,d,ha,hb⟩:=h
 refine⟨fun c=>c<K.next∧¬Sa c,⟨fun c hc=>⟨hc.1,rfl⟩,Nat.le_refl _,Sa,A,fun c hc q=>q.2 hc⟩,fun K' ta' la' Z=>?_⟩
 obtain⟨g1,g2,S',A',g3⟩:=Z
 have new:∀c,S' c→K.next≤c∨Sa c:=fun c hc=>Classical.byContradiction fun q=>by
  have q1:¬K.next≤c:=fun z=>q (.inl z)
  exact g3 c hc ⟨om,fun z=>q (.inr z)⟩
 refine⟨fun c hc=>⟨(h1 c hc).1,by rw[(g1 c ⟨by have:=(h1 c hc).1; omega,fun q=>ha c q hc⟩).2,(h1 c hc).2]⟩,om,S',Sb,A',B.same g2 fun c hc=>(g1 c ⟨B.sn c hc,fun q=>d c q hc⟩).2,fun c hc q=>?_,fun c hc q=>?_,hb⟩
 ·have:=B.sn c q
  exact (new c hc).elim (fun z=>om) fun z=>d c z q
 ·have:=(h1 c q).1
  exact (new c hc).elim (fun z=>om) fun z=>ha c z q
end
end Go.Proofs.Sd
namespace Go.Proofs.Sd
open Go.Abs
def strip(j:JobV):Nat×Nat×Nat×Sta:=(j.id,j.w,j.h,j.s)
structure Sm(x y:SeatV):Prop where
 g:x.given=y.given
 s:x.served=y.served
 l:x.l.map strip=y.l.map strip
theorem strip_inj{j j':JobV}(h:strip j=strip j'):j.id=j'.id∧j.w=j'.w∧j.h=j'.h∧j.s=j'.s:=by
 unfold strip at h
 simp only[pJ]at h
 exact⟨h.1,h.2.1,h.2.2.1,h.2.2.2⟩
section
variable {x y:SeatV}
theorem Sm.len(h:Sm x y):x.l.length=y.l.length:=by
 have:=congrArg List.length h.l
 simpa using this
theorem Sm.opt(h:Sm x y)(i:Nat):(x.l[i]?=none∧y.l[i]?=none)∨∃j j',x.l[i]?=some j∧y.l[i]?=some j'∧j.id=j'.id∧j.w=j'.w∧j.h=j'.h∧j.s=j'.s:=by
 have e:(x.l.map strip)[i]?=(y.l.map strip)[i]?:=by rw[h.l]
 rw[List.getElem?_map,List.getElem?_map]at e
 cases hx:x.l[i]? with
 | none=>
  rw[hx]at e
  cases hy:y.l[i]? with
  | none=>exact .inl ⟨rfl,rfl⟩
  | some j'=>rw[hy]at e; simp at e
 | some j=>
  rw[hx]at e
  cases hy:y.l[i]? with
  | none=>rw[hy]at e; simp at e
  | some j'=>
   rw[hy]at e
   exact .inr ⟨j,j',rfl,rfl,strip_inj (by simpa using e)⟩
theorem Sm.seek(h:Sm x y):seekV x=seekV y:=by
 have hl:=h.len
 have e1:(fun (i:Nat)=>match x.l[i]? with | some j=>decide ((x.served:Int)<(j.id:Int))&&goesJ j | none=>false)=(fun (i:Nat)=>match y.l[i]? with | some j=>decide ((y.served:Int)<(j.id:Int))&&goesJ j | none=>false):=funext fun i=>by
  rcases h.opt i with⟨a,b⟩ | ⟨j,j',a,b,c1,c2,c3,c4⟩
  ·simp only[a,b]
  ·simp only[a,b,h.s,c1]
   unfold goesJ
   rw[c2,c3,c4]
 have e2:(fun (i:Nat)=>match x.l[i]? with | some j=>goesJ j | none=>false)=(fun (i:Nat)=>match y.l[i]? with | some j=>goesJ j | none=>false):=funext fun i=>by
  rcases h.opt i with⟨a,b⟩ | ⟨j,j',a,b,c1,c2,c3,c4⟩
  ·simp only[a,b]
  ·simp only[a,b]
   unfold goesJ
   rw[c2,c3,c4]
 have f1:=congrArg (fun p=>firstF p x.l.length x.l.length 0) e1
 have f2:=congrArg (fun p=>firstF p x.l.length x.l.length 0) e2
 simp only[hl]at f1 f2
 unfold seekV
 simp only[hl]
 exact (congrArg (fun z=>if z<0 then _ else z) f1).trans (congrArg (fun z=>if _<0 then z else _) f2)
theorem Sm.place(h:Sm x y)(id:Int):placeV x id=placeV y id:=by
 have hl:=h.len
 have e1:(fun (i:Nat)=>match x.l[i]? with | some j=>decide ((j.id:Int)=id) | none=>false)=(fun (i:Nat)=>match y.l[i]? with | some j=>decide ((j.id:Int)=id) | none=>false):=funext fun i=>by
  rcases h.opt i with⟨a,b⟩ | ⟨j,j',a,b,c1,c2,c3,c4⟩
  ·simp only[a,b]
  ·simp only[a,b,c1]
 have f1:=congrArg (fun p=>firstF p x.l.length x.l.length 0) e1
 simp only[hl]at f1
 unfold placeV
 simp only[hl]
 exact f1
theorem Sm.set(h:Sm x y){r:Nat}{j j':JobV}(e:strip j=strip j'){v v':AVal}{s:Nat}:Sm ⟨v,x.given,s,x.l.set r j⟩ ⟨v',y.given,s,y.l.set r j'⟩:=by
 refine⟨h.g,rfl,?_⟩
 show (x.l.set r j).map strip=(y.l.set r j').map strip
 rw[List.map_set,List.map_set,h.l,e]
theorem Sm.tick(h:Sm x y)(q:Nat):(tickV q x).1=(tickV q y).1∧(tickV q x).2.1=(tickV q y).2.1∧Sm (tickV q x).2.2 (tickV q y).2.2:=by
 unfold tickV
 rw[h.seek]
 rcases h.opt (seekV y).toNat with⟨a,b⟩ | ⟨j,j',a,b,c1,c2,c3,c4⟩
 ·rw[a,b]
  exact⟨rfl,rfl,h⟩
 ·rw[a,b]
  by_cases c:seekV y<0
  ·simp only[if_pos c]
   exact⟨trivial,trivial,h⟩
  ·simp only[if_neg c]
   refine⟨c1,by rw[c2,c3,c4],?_⟩
   have e:strip { j with s:=grantS j.w j.h q j.s }=strip { j' with s:=grantS j'.w j'.h q j'.s }:=by
    unfold strip
    simp only[c1,c2,c3,c4]
   have k:=h.set (r:=(seekV y).toNat) e (v:=x.v) (v':=y.v) (s:=j'.id)
   exact⟨k.g,c1,k.l⟩
theorem Sm.take(h:Sm x y)(id n:Int):(takeV x id n).1=(takeV y id n).1∧Sm (takeV x id n).2 (takeV y id n).2:=by
 unfold takeV
 rw[h.place]
 by_cases c0:placeV y id<0
 ·simp only[if_pos c0]
  exact⟨trivial,h⟩
 simp only[if_neg c0]
 rcases h.opt (placeV y id).toNat with⟨a,b⟩ | ⟨j,j',a,b,c1,c2,c3,c4⟩
 ·rw[a,b]
  exact⟨rfl,h⟩
 ·rw[a,b]
  by_cases c:n<1
  ·simp only[if_pos c]
   exact⟨trivial,h⟩
  ·simp only[if_neg c]
   refine⟨by rw[c4],?_⟩
   have e:strip (tookJ n j)=strip (tookJ n j'):=by
    unfold strip tookJ
    simp only[c1,c2,c3,c4]
   have k:=h.set (r:=(placeV y id).toNat) e (v:=x.v) (v':=y.v) (s:=x.served)
   have e2:(⟨y.v,y.given,x.served,y.l.set (placeV y id).toNat (tookJ n j')⟩:SeatV)={ y with l:=y.l.set (placeV y id).toNat (tookJ n j') }:=by rw[h.s]
   rw[e2]at k
   exact k
theorem Sm.add(h:Sm x y){j j':JobV}(hw:j.w=j'.w)(hh:j.h=j'.h)(hs:j.s=j'.s)(v v':AVal):Sm ⟨v,x.given+1,x.served,x.l++[{ j with id:=x.given+1 }]⟩ ⟨v',y.given+1,y.served,y.l++[{ j' with id:=y.given+1 }]⟩:=by
 refine⟨by show x.given+1=y.given+1; rw[h.g],h.s,?_⟩
 show (x.l++[{ j with id:=x.given+1 }]).map strip=(y.l++[{ j' with id:=y.given+1 }]).map strip
 rw[List.map_append,List.map_append,h.l]
 congr 1
 show [strip { j with id:=x.given+1 }]=[strip { j' with id:=y.given+1 }]
 unfold strip
 simp only[h.g,hw,hh,hs]
theorem Sm.erase(h:Sm x y)(i:Nat)(v v':AVal):Sm ⟨v,x.given,x.served,x.l.eraseIdx i⟩ ⟨v',y.given,y.served,y.l.eraseIdx i⟩:=by
 refine⟨h.g,h.s,?_⟩
 show (x.l.eraseIdx i).map strip=(y.l.eraseIdx i).map strip
 rw[← map_erase,← map_erase,h.l]
theorem Sm.ids(h:Sm x y):(x.l.map fun j=>(j.id:Int))=y.l.map fun j=>(j.id:Int):=by
 have e:∀l:List JobV,(l.map fun j=>(j.id:Int))=(l.map strip).map fun z=>(z.1:Int):=fun l=>by rw[List.map_map]; rfl
 rw[e,e,h.l]
theorem takeV_len(x:SeatV)(id n:Int):(takeV x id n).2.l.length=x.l.length∧(takeV x id n).2.given=x.given:=by
 unfold takeV
 split
 ·exact⟨rfl,rfl⟩
 ·split
  ·split
   ·exact⟨rfl,rfl⟩
   ·exact⟨List.length_set,rfl⟩
  ·exact⟨rfl,rfl⟩
theorem tickV_fit(q:Nat)(x:SeatV):(tickV q x).2.2.l.length=x.l.length∧(tickV q x).2.2.given=x.given:=by
 unfold tickV
 split
 ·split
  ·exact⟨rfl,rfl⟩
  ·exact⟨List.length_set,rfl⟩
 ·exact⟨rfl,rfl⟩
end
open Go.Abs Go.Abs.S
noncomputable section
def c25:AFn:=⟨10,(.seq (.reg [⟨(some 4),.mv (.c (.bool false)),none⟩]) (.seq (.reg [⟨(some 5),.mv (.t 0),none⟩,⟨(some 6),.convBS (.t 5),none⟩,⟨(some 7),.mv (.t 1),none⟩,⟨(some 8),.convBS (.t 7),none⟩,⟨(some 9),.bin .eql (.t 6) (.t 8),none⟩,⟨(some 4),.mv (.t 9),none⟩]) .ret)),[.t 4]⟩
theorem za25:cN Tryz.prog 25=some c25:=by kernel_rfl
end
open Go.Abs Go.Abs.S
open Go.Proofs.Fr (ownerF)
open Go.Proofs.Tb (cel_same cel_blk)
section
variable {X:Nat→Prop} {K0 K:AHeap} {a b:Hd} {ta tb:Nat} {la lb:List SeatV}
theorem tickT(W:Tw X K0 K a ta la b tb lb){k:Nat}{x:SeatV}(ho:ownerF a.fr ta=(k:Int))(hk:la[k]?=some x)(hu:a.units≤2000000)(ht:ta≤1000000)(hl:x.l.length≤1000) :
  ACalls Tryz.prog noNat 16 [cellR a.b 6 0] K fun r K'=>r=.tuple [.int .i64 (k:Int),.int .i64 ((tickV a.units x).1:Int),.int .i64 ((tickV a.units x).2.1:Int)]∧Tw X K0 K' a (ta+1) (la.set k (tickV a.units x).2.2) b tb lb:=by
 obtain⟨R,Z,back⟩:=W.left
 refine (tickR Z ho hk hu ht hl).mono ?_
 rintro _ K' ⟨rfl,Z'⟩
 exact⟨rfl,back _ _ _ Z'⟩
theorem addT(W:Tw X K0 K a ta la b tb lb){k:Nat}{x:SeatV}(hk:la[k]?=some x){j:JobV}{K1:AHeap}{Sj:Nat→Prop}(E:Ext K.next K K1)(J:JobP j Sj K1)(hj:∀c,Sj c→K.next≤c)(hl:x.l.length≤1000)(hg:x.given≤1000000) :
  ACalls Tryz.prog noNat 10 [cellR a.b 6 0,.int .i64 (k:Int),cellR j.b 14 0] K1 fun r K'=>
   (a.slots≤x.l.length→r=.tuple [.int .i64 0,.int .i64 142]∧Tw X K0 K' a ta la b tb lb) ∧
   (x.l.length<a.slots→r=.tuple [.int .i64 ((x.given+1:Nat):Int),.int .i64 0]∧∃v',Tw X K0 K' a ta (la.set k ⟨v',x.given+1,x.served,x.l++[{ j with id:=x.given+1 }]⟩) b tb lb):=by
 obtain⟨R,Z,back⟩:=W.left
 refine (addR Z hk E J hj hl hg).mono ?_
 rintro r K' ⟨h1,h2⟩
 exact⟨fun q=>⟨(h1 q).1,back _ _ _ (h1 q).2⟩,fun q=>by
  obtain⟨e,v',Z'⟩:=h2 q
  exact⟨e,v',back _ _ _ Z'⟩⟩
theorem cancelT(W:Tw X K0 K a ta la b tb lb){k:Nat}{x:SeatV}(hk:la[k]?=some x)(hl:x.l.length≤1000)(id:Int) :
  ACalls Tryz.prog noNat 14 [cellR a.b 6 0,.int .i64 (k:Int),.int .i64 id] K fun r K'=>
   (placeV x id<0→r=.bool false∧Tw X K0 K' a ta la b tb lb) ∧
   (∀i:Nat,placeV x id=(i:Int)→r=.bool true∧∃v',Tw X K0 K' a ta (la.set k ⟨v',x.given,x.served,x.l.eraseIdx i⟩) b tb lb):=by
 obtain⟨R,Z,back⟩:=W.left
 refine (cancelR Z hk hl id).mono ?_
 rintro r K' ⟨h1,h2⟩
 exact⟨fun q=>⟨(h1 q).1,back _ _ _ (h1 q).2⟩,fun i q=>by
  obtain⟨e,v',Z'⟩:=h2 i q
  exact⟨e,v',back _ _ _ Z'⟩⟩
theorem jobT(W:Tw X K0 K a ta la b tb lb){k:Nat}{x:SeatV}(hk:la[k]?=some x)(hl:x.l.length≤1000)(id:Int) :
  ACalls Tryz.prog noNat 23 [cellR a.b 6 0,.int .i64 (k:Int),.int .i64 id] K fun r K'=>r=jobA x (placeV x id)∧Ext K.next K K':=by
 obtain⟨_,_,Sa,Sb,A,_⟩:=W
 exact job_spec A hk hl id
theorem jobsT(W:Tw X K0 K a ta la b tb lb){k:Nat}{x:SeatV}(hk:la[k]?=some x)(hl:x.l.length≤1000) :
  ACalls Tryz.prog noNat 22 [cellR a.b 6 0,.int .i64 (k:Int)] K fun r K'=>App K.next K' r (ints (x.l.map fun j=>(j.id:Int)))∧Ext K.next K K':=by
 obtain⟨_,_,Sa,Sb,A,_⟩:=W
 exact jobs_spec A hk hl
theorem ticksT(W:Tw X K0 K a ta la b tb lb):ACalls Tryz.prog noNat 19 [cellR a.b 6 0] K fun v K'=>v=.int .i64 (ta:Int)∧K=K':=by
 obtain⟨_,_,Sa,Sb,A,_⟩:=W
 exact ticks_spec A.r
theorem takeT(W:Tw X K0 K a ta la b tb lb){k:Nat}{x:SeatV}(hk:la[k]?=some x)(id n:Int) :
  ACalls Tryz.prog noNat 24 [jobA x (placeV x id),.int .i64 n] K fun r K'=>Cel K'.next K' r (byts (takeV x id n).1)∧Blk r (fun c=>K.next≤c∧c<K'.next)∧Tw X K0 K' a ta (la.set k (takeV x id n).2) b tb lb∧Tw (fun c=>X c∨(K.next≤c∧c<K'.next)) K' K' a ta (la.set k (takeV x id n).2) b tb lb:=by
 obtain⟨h1,h2,Sa,Sb,A,B,d,ha,hb⟩:=W
 refine (takeP A hk id n).mono ?_
 rintro r K' ⟨C,A',bl,f1,f3⟩
 have B':=B.same f1 fun c hc=>f3 c (B.sn c hc) fun q=>d c q hc
 exact⟨C,bl.and (cel_blk C),⟨fun c hc=>⟨(h1 c hc).1,by rw[f3 c (by have:=(h1 c hc).1; omega) (fun q=>ha c q hc),(h1 c hc).2]⟩,om,Sa,Sb,A',B',d,ha,hb⟩,
  ⟨fun c hc=>⟨hc.elim (fun q=>by have:=(h1 c q).1; omega) fun q=>q.2,rfl⟩,Nat.le_refl _,Sa,Sb,A',B',d,fun c hc q=>q.elim (ha c hc) fun z=>by have:=A.sn c hc; omega,fun c hc q=>q.elim (hb c hc) fun z=>by have:=B.sn c hc; omega⟩⟩
theorem Tw.row(W:Tw X K0 K a ta la b tb lb){c:Nat}{l:List AVal}(r:Row K0 c l)(hc:X c):Row K c l:=r.same (W.1 c hc).2
theorem Tw.cel(W:Tw X K0 K a ta la b tb lb){v:AVal}{L:List AVal}(C:Cel K0.next K0 v L)(hb:Blk v X):Cel K.next K v L:=cel_same C W.2.1 (hb.mono fun c hc=>(W.1 c hc).2)
end
theorem equal_spec{n n':Nat}{H:AHeap}{v v':AVal}{l l':List UInt8}(h:Cel n H v (byts l))(h':Cel n' H v' (byts l')):ACalls Tryz.prog noNat 25 [v,v'] H fun r H'=>r=.bool (decide (l=l'))∧H=H':=by
 have b1:=bs_cel h
 have b2:=bs_cel h'
 refine acalls_ofN rfl za25 rfl ?_
 simp only[c25,sA,sB,seval,b1,b2]
 exact⟨by first | trivial | rfl,tt⟩
theorem same_spec{n n':Nat}{H:AHeap}{v v':AVal}{l:List Int}(h:Cel n H v (ints l))(h':Cel n' H v' (ints l))(hl:l.length≤1000000):ACalls Tryz.prog noNat 26 [v,v'] H fun r H'=>r=.bool true∧H=H':=by
 have l1:=h.len
 have l2:=h'.len
 rw[ints_len]at l1 l2
 refine acalls_ofN rfl za26 rfl ?_
 simp only[c26,sA,sB,seval,l1,l2]
 refine aw_loop (fun mu (T:Env) K=>∃i:Nat,mu=l.length-i∧i≤l.length∧H=K∧T 0=v∧T 1=v'∧T 5=.int .i64 (i:Int)) l.length ⟨0,om,om,rfl,tt,tt,tt⟩ ?_
 rintro mu T _ ⟨i,rfl,hi,rfl,t0,t1,t5⟩
 by_cases c:i<l.length
 ·have c':(i:Int)<(l.length:Int):=om
  obtain⟨z,hz⟩:∃z,l[i]?=some z:=⟨_,List.getElem?_eq_getElem c⟩
  have e1:=h.idx .i64 (i:=i) (by rw[ints_len]; exact c)
  have e2:=h'.idx .i64 (i:=i) (by rw[ints_len]; exact c)
  have d1:=h.load (ints_get hz)
  have d2:=h'.load (ints_get hz)
  have wi:IntKind.i64.wrap ((i:Int)+1)=((i+1:Nat):Int):=w64
  simp only[sA,sB,seval,t0,t1,t5,l1,c',e1,e2,d1,d2,wi]
  exact⟨l.length-(i+1),om,i+1,rfl,om,by first | trivial | rfl,by simp only[sA,sB,seval,t0],by simp only[sA,sB,seval,t1],tt⟩
 ·have c':¬(i:Int)<(l.length:Int):=om
  simp only[sA,sB,seval,t0,t5,l1,c']
  exact⟨tt,tt⟩
open Go.Abs Go.Abs.S
open Go.Proofs.Fr (ownerF frame okB)
structure AI(N i:Nat)(la lb:List SeatV)(x y:SeatV):Prop where
 a:la.length=N
 b:lb.length=N
 x0:la[0]?=some x
 y0:lb[0]?=some y
 sm:Sm x y
 ba:∀(k:Nat) (z:SeatV),la[k]?=some z→z.l.length≤16∧z.given≤i
 bb:∀(k:Nat) (z:SeatV),lb[k]?=some z→z.l.length≤16∧z.given≤i
theorem bd_set{l:List SeatV}{i k:Nat}{z':SeatV}(h:∀(k:Nat) (z:SeatV),l[k]?=some z→z.l.length≤16∧z.given≤i)(hz:z'.l.length≤16∧z'.given≤i+1):∀(m:Nat) (z:SeatV),(l.set k z')[m]?=some z→z.l.length≤16∧z.given≤i+1:=fun m z hm=>by
 rw[List.getElem?_set]at hm
 by_cases e:k=m
 ·rw[if_pos e]at hm
  split at hm
  ·obtain rfl:=Option.some.inj hm
   exact hz
  ·simp at hm
 ·rw[if_neg e]at hm
  have:=h m z hm
  omega
section
variable {N i:Nat} {la lb:List SeatV} {x y:SeatV}
theorem AI.up(A:AI N i la lb x y):AI N (i+1) la lb x y:=⟨A.a,A.b,A.x0,A.y0,A.sm,fun k z h=>by have:=A.ba k z h; omega,fun k z h=>by have:=A.bb k z h; omega⟩
theorem AI.setA(A:AI N i la lb x y){k:Nat}{z':SeatV}(hk:k≠0)(hz:z'.l.length≤16∧z'.given≤i+1):AI N (i+1) (la.set k z') lb x y:=
 ⟨by rw[List.length_set]; exact A.a,A.b,by rw[List.getElem?_set,if_neg hk]; exact A.x0,A.y0,A.sm,bd_set A.ba hz,A.up.bb⟩
theorem AI.set2(A:AI N i la lb x y){k:Nat}{z' u':SeatV}(hk:k≠0)(hz:z'.l.length≤16∧z'.given≤i+1)(hu:u'.l.length≤16∧u'.given≤i+1):AI N (i+1) (la.set k z') (lb.set k u') x y:=
 ⟨by rw[List.length_set]; exact A.a,by rw[List.length_set]; exact A.b,by rw[List.getElem?_set,if_neg hk]; exact A.x0,by rw[List.getElem?_set,if_neg hk]; exact A.y0,A.sm,bd_set A.ba hz,bd_set A.bb hu⟩
theorem AI.set0(A:AI N i la lb x y){x' y':SeatV}(hs:Sm x' y')(hz:x'.l.length≤16∧x'.given≤i+1):AI N (i+1) (la.set 0 x') (lb.set 0 y') x' y':=by
 have h1:=(List.getElem?_eq_some_iff.1 A.x0).1
 have h2:=(List.getElem?_eq_some_iff.1 A.y0).1
 exact⟨by rw[List.length_set]; exact A.a,by rw[List.length_set]; exact A.b,List.getElem?_set_self h1,List.getElem?_set_self h2,hs,bd_set A.ba hz,bd_set A.bb ⟨by rw[← hs.len]; exact hz.1,by rw[← hs.g]; exact hz.2⟩⟩
end
def pT:List Nat:=[1,1,1,1,0,1,2,3,1,0,2,1,1,0,1,4]
theorem alone_tick{X:Nat→Prop}{K0 K:AHeap}{a b:Hd}{t N i bx:Nat}{la lb:List SeatV}{x y:SeatV}{w:List Int}{o:Opn}{wv lv v11:AVal}{T:Env}{Qp:Post}
  (W:Tw X K0 K a t la b t lb) (A:AI N i la lb x y) (hN:N=w.length) (ok:okB w=true) (hi:i≤60) (ht:t≤i) (hfa:a.fr=frame w) (hfb:b.fr=frame w) (hu:b.units=a.units∧a.units≤2000000) (hs:b.slots=a.slots∧a.slots≤16) (rb:Row K0 bx o.cells) (hbx:X bx)
  (t0:T 0=wv) (t2:T 2=lv) (t7:T 7=cellR a.b 6 0) (t9:T 9=cellR b.b 6 0) (t11:T 11=v11) (t12:T 12=cellR bx 8 0)
  (hQ:∀(T':Env) K' t' la' lb' x' y',Tw X K0 K' a t' la' b t' lb'→AI N (i+1) la' lb' x' y'→t'≤i+1→T' 0=wv→T' 2=lv→T' 7=cellR a.b 6 0→T' 9=cellR b.b 6 0→T' 11=v11→Qp (.exit 1) T' K') :
  wp (ACalls Tryz.prog noNat) (hold (restP pT c4.body)) Qp T K:=by
 have ex2:∀a b c:AVal,aExtract 2 (.tuple [a,b,c])=some c:=fun _ _ _=>_root_.id rfl
 obtain⟨kt,hkt,hoa,_⟩:=owner_at ok t
 obtain⟨za,hza⟩:∃z,la[kt]?=some z:=⟨_,List.getElem?_eq_getElem (by rw[A.a]; omega)⟩
 obtain⟨zb,hzb⟩:∃z,lb[kt]?=some z:=⟨_,List.getElem?_eq_getElem (by rw[A.b]; omega)⟩
 obtain⟨zal,zag⟩:=A.ba kt za hza
 obtain⟨zbl,zbg⟩:=A.bb kt zb hzb
 obtain⟨fa1,fa2⟩:=tickV_fit a.units za
 obtain⟨fb1,fb2⟩:=tickV_fit b.units zb
 rw[hold_eq]
 simp only[c4,restP,pT,sA,sB,seval,t7]
 refine (tickT W (by rw[hfa]; exact hoa) hza hu.2 om om).mono ?_
 rintro _ K1 ⟨rfl,W1⟩
 simp only[sA,sB,seval,ext_0,ext_1,ex2,t9]
 refine (tickT W1.swap (by rw[hfb]; exact hoa) hzb (by rw[hu.1]; exact hu.2) om om).mono ?_
 rintro _ K2 ⟨rfl,W2⟩
 have W3:=W2.swap
 by_cases c:kt=0
 ·subst c
  have e1:=A.x0
  have e2:=A.y0
  rw[hza]at e1
  rw[hzb]at e2
  obtain rfl:=Option.some.inj e1
  obtain rfl:=Option.some.inj e2
  rw[hu.1]at W3 ⊢
  obtain⟨s1,s2,s3⟩:=A.sm.tick a.units
  have c0:((0:Nat):Int)=0:=rfl
  rw[s1,s2]
  simp only[sA,sB,seval,ext_0,ext_1,ex2,c0]
  exact hQ _ K2 (t+1) _ _ _ _ W3 (A.set0 s3 ⟨om,om⟩) om (by simp only[sA,sB,seval,t0]) (by simp only[sA,sB,seval,t2]) (by simp only[sA,sB,seval,t7]) (by simp only[sA,sB,seval,t9]) (by simp only[sA,sB,seval,t11])
 ·have c':¬(kt:Int)=0:=om
  simp only[sA,sB,seval,ext_0,ext_1,ex2,c']
  exact hQ _ K2 (t+1) _ _ _ _ W3 (A.set2 c ⟨om,om⟩ ⟨om,om⟩) om (by simp only[sA,sB,seval,t0]) (by simp only[sA,sB,seval,t2]) (by simp only[sA,sB,seval,t7]) (by simp only[sA,sB,seval,t9]) (by simp only[sA,sB,seval,t11])
def pA:List Nat:=[1,1,1,1,0,1,2,3,1,0,2,1,1,1,1,1,2,1,4]
theorem alone_add{X:Nat→Prop}{K0 K:AHeap}{a b:Hd}{t N i bx:Nat}{la lb:List SeatV}{x y:SeatV}{w:List Int}{o:Opn}{wv lv v11:AVal}{T:Env}{Qp:Post}
  (W:Tw X K0 K a t la b t lb) (A:AI N i la lb x y) (hN:N=w.length) (ok:okB w=true) (hi:i≤60) (ht:t≤i) (hfa:a.fr=frame w) (hfb:b.fr=frame w) (hu:b.units=a.units∧a.units≤2000000) (hs:b.slots=a.slots∧a.slots≤16) (rb:Row K0 bx o.cells) (hbx:X bx) {k:Nat} (hk:k<N)
  (t0:T 0=wv) (t2:T 2=lv) (t7:T 7=cellR a.b 6 0) (t9:T 9=cellR b.b 6 0) (t11:T 11=v11) (t12:T 12=cellR bx 8 0) (t20:T 20=.int .i64 (k:Int))
  (hQ:∀(T':Env) K' t' la' lb' x' y',Tw X K0 K' a t' la' b t' lb'→AI N (i+1) la' lb' x' y'→t'≤i+1→T' 0=wv→T' 2=lv→T' 7=cellR a.b 6 0→T' 9=cellR b.b 6 0→T' 11=v11→Qp .normal T' K') :
  wp (ACalls Tryz.prog noNat) (hold (restP pA c4.body)) Qp T K:=by
 obtain⟨z,hz⟩:∃z,la[k]?=some z:=⟨_,List.getElem?_eq_getElem (by rw[A.a]; omega)⟩
 obtain⟨zl,zg⟩:=A.ba k z hz
 obtain⟨xl,xg⟩:=A.ba 0 x A.x0
 obtain⟨yl,yg⟩:=A.bb 0 y A.y0
 have l8:oLoad true 8 K (cellR bx 8 0)=some (.agg o.cells):=row_loadN (W.row rb hbx) rfl
 rw[hold_eq]
 simp only[c4,restP,pA,sA,sB,seval,t7,t12,t20,l8]
 refine (made_spec o).mono ?_
 rintro _ K1 ⟨b1,S1,rfl,J1,_,hS1,E1⟩
 simp only[sA,sB,seval]
 refine (addT W hz E1 (jobP_of J1 0) hS1 om om).mono ?_
 rintro r K2 ⟨a1,a2⟩
 by_cases c:k=0
 ·subst c
  have e1:=A.x0
  rw[hz]at e1
  obtain rfl:=Option.some.inj e1
  have c0:((0:Nat):Int)=0:=rfl
  have sl:=A.sm.len
  by_cases hsl:a.slots≤z.l.length
  ·obtain⟨rfl,W2⟩:=a1 hsl
   have l82:oLoad true 8 K2 (cellR bx 8 0)=some (.agg o.cells):=row_loadN (W2.row rb hbx) rfl
   simp only[sA,sB,seval,ext_0,ext_1,t20,c0,t9,t12,l82]
   refine (made_spec o).mono ?_
   rintro _ K3 ⟨b3,S3,rfl,J3,_,hS3,E3⟩
   simp only[sA,sB,seval]
   refine (addT (k:=0) W2.swap A.y0 E3 (jobP_of J3 0) hS3 om om).mono ?_
   rintro r K4 ⟨b1',_⟩
   obtain⟨rfl,W4⟩:=b1' om
   simp only[sA,sB,seval,ext_0,ext_1]
   exact hQ _ K4 t _ _ _ _ W4.swap A.up om (by simp only[sA,sB,seval,t0]) (by simp only[sA,sB,seval,t2]) (by simp only[sA,sB,seval,t7]) (by simp only[sA,sB,seval,t9]) (by simp only[sA,sB,seval,t11])
  ·obtain⟨rfl,v',W2⟩:=a2 om
   have l82:oLoad true 8 K2 (cellR bx 8 0)=some (.agg o.cells):=row_loadN (W2.row rb hbx) rfl
   simp only[sA,sB,seval,ext_0,ext_1,t20,c0,t9,t12,l82]
   refine (made_spec o).mono ?_
   rintro _ K3 ⟨b3,S3,rfl,J3,_,hS3,E3⟩
   simp only[sA,sB,seval]
   refine (addT (k:=0) W2.swap A.y0 E3 (jobP_of J3 0) hS3 om om).mono ?_
   rintro r K4 ⟨_,b2'⟩
   obtain⟨rfl,v2',W4⟩:=b2' om
   have eg:((y.given+1:Nat):Int)=((z.given+1:Nat):Int):=by rw[A.sm.g]
   rw[eg]
   simp only[sA,sB,seval,ext_0,ext_1]
   exact hQ _ K4 t _ _ _ _ W4.swap (A.set0 (A.sm.add (j:=⟨0,b1,o.W,o.H,staO o⟩) (j':=⟨0,b3,o.W,o.H,staO o⟩) rfl rfl rfl v' v2') ⟨by show (_++_:List JobV).length≤16; rw[lA]; show _+1≤16; omega,by show z.given+1≤i+1; omega⟩) om (by simp only[sA,sB,seval,t0]) (by simp only[sA,sB,seval,t2]) (by simp only[sA,sB,seval,t7]) (by simp only[sA,sB,seval,t9]) (by simp only[sA,sB,seval,t11])
 ·have c':¬(k:Int)=0:=om
  by_cases hsl:a.slots≤z.l.length
  ·obtain⟨rfl,W2⟩:=a1 hsl
   simp only[sA,sB,seval,ext_0,ext_1,t20,c']
   exact hQ _ K2 t _ _ _ _ W2 A.up om (by simp only[sA,sB,seval,t0]) (by simp only[sA,sB,seval,t2]) (by simp only[sA,sB,seval,t7]) (by simp only[sA,sB,seval,t9]) (by simp only[sA,sB,seval,t11])
  ·obtain⟨rfl,v',W2⟩:=a2 om
   simp only[sA,sB,seval,ext_0,ext_1,t20,c']
   exact hQ _ K2 t _ _ _ _ W2 (A.setA c ⟨by show (_++_:List JobV).length≤16; rw[lA]; show _+1≤16; omega,by show z.given+1≤i+1; omega⟩) om (by simp only[sA,sB,seval,t0]) (by simp only[sA,sB,seval,t2]) (by simp only[sA,sB,seval,t7]) (by simp only[sA,sB,seval,t9]) (by simp only[sA,sB,seval,t11])
open Go.Abs Go.Abs.S
open Go.Proofs.Fr (ownerF frame okB)
def pC:List Nat:=[1,1,1,1,0,1,2,3,1,0,2,1,1,1,1,1,2,1,5,1,4]
theorem alone_cancel{X:Nat→Prop}{K0 K:AHeap}{a b:Hd}{t N i bx:Nat}{la lb:List SeatV}{x y:SeatV}{w:List Int}{o:Opn}{wv lv v11:AVal}{T:Env}{Qp:Post}
  (W:Tw X K0 K a t la b t lb) (A:AI N i la lb x y) (hN:N=w.length) (ok:okB w=true) (hi:i≤60) (ht:t≤i) (hfa:a.fr=frame w) (hfb:b.fr=frame w) (hu:b.units=a.units∧a.units≤2000000) (hs:b.slots=a.slots∧a.slots≤16) (rb:Row K0 bx o.cells) (hbx:X bx) {k:Nat} (hk:k<N)
  (t0:T 0=wv) (t2:T 2=lv) (t7:T 7=cellR a.b 6 0) (t9:T 9=cellR b.b 6 0) (t11:T 11=v11) (t12:T 12=cellR bx 8 0) (t20:T 20=.int .i64 (k:Int))
  (hQ:∀(T':Env) K' t' la' lb' x' y',Tw X K0 K' a t' la' b t' lb'→AI N (i+1) la' lb' x' y'→t'≤i+1→T' 0=wv→T' 2=lv→T' 7=cellR a.b 6 0→T' 9=cellR b.b 6 0→T' 11=v11→Qp .normal T' K') :
  wp (ACalls Tryz.prog noNat) (hold (restP pC c4.body)) Qp T K:=by
 obtain⟨z,hz⟩:∃z,la[k]?=some z:=⟨_,List.getElem?_eq_getElem (by rw[A.a]; omega)⟩
 obtain⟨zl,zg⟩:=A.ba k z hz
 obtain⟨xl,xg⟩:=A.ba 0 x A.x0
 obtain⟨yl,yg⟩:=A.bb 0 y A.y0
 have l2:oLoad false 1 K (cellR bx 8 2)=some (.int .i64 o.id):=row_load (W.row rb hbx) rfl rfl
 have eT:aPf (.eqv true .bool) [.bool true,.bool true]=some (.bool false):=rfl
 have eF:aPf (.eqv true .bool) [.bool false,.bool false]=some (.bool false):=rfl
 rw[hold_eq]
 simp only[c4,restP,pC,sA,sB,seval,t7,t12,t20,fldA,l2]
 refine (cancelT W hz om o.id).mono ?_
 rintro r K1 ⟨a1,a2⟩
 by_cases hp:placeV z o.id<0
 ·obtain⟨rfl,W1⟩:=a1 hp
  by_cases c:k=0
  ·subst c
   have e1:=A.x0
   rw[hz]at e1
   obtain rfl:=Option.some.inj e1
   have c0:((0:Nat):Int)=0:=rfl
   have l21:oLoad false 1 K1 (cellR bx 8 2)=some (.int .i64 o.id):=row_load (W1.row rb hbx) rfl rfl
   simp only[sA,sB,seval,t20,c0,t9,t12,fldA,l21]
   refine (cancelT (k:=0) W1.swap A.y0 om o.id).mono ?_
   rintro r K2 ⟨b1,_⟩
   obtain⟨rfl,W2⟩:=b1 (by rw[← A.sm.place]; exact hp)
   simp only[sA,sB,seval,eF]
   exact hQ _ K2 t _ _ _ _ W2.swap A.up om (by simp only[sA,sB,seval,t0]) (by simp only[sA,sB,seval,t2]) (by simp only[sA,sB,seval,t7]) (by simp only[sA,sB,seval,t9]) (by simp only[sA,sB,seval,t11])
  ·have c':¬(k:Int)=0:=om
   simp only[sA,sB,seval,t20,c']
   exact hQ _ K1 t _ _ _ _ W1 A.up om (by simp only[sA,sB,seval,t0]) (by simp only[sA,sB,seval,t2]) (by simp only[sA,sB,seval,t7]) (by simp only[sA,sB,seval,t9]) (by simp only[sA,sB,seval,t11])
 ·obtain⟨q,hq⟩:=Int.eq_ofNat_of_zero_le (show 0≤placeV z o.id by omega)
  obtain⟨rfl,v',W1⟩:=a2 q hq
  obtain⟨j,hj,_⟩:=place_lt hq
  have hql:=(List.getElem?_eq_some_iff.1 hj).1
  by_cases c:k=0
  ·subst c
   have e1:=A.x0
   rw[hz]at e1
   obtain rfl:=Option.some.inj e1
   have c0:((0:Nat):Int)=0:=rfl
   have l21:oLoad false 1 K1 (cellR bx 8 2)=some (.int .i64 o.id):=row_load (W1.row rb hbx) rfl rfl
   simp only[sA,sB,seval,t20,c0,t9,t12,fldA,l21]
   refine (cancelT (k:=0) W1.swap A.y0 om o.id).mono ?_
   rintro r K2 ⟨_,b2⟩
   obtain⟨rfl,v2',W2⟩:=b2 q (by rw[← A.sm.place]; exact hq)
   simp only[sA,sB,seval,eT]
   exact hQ _ K2 t _ _ _ _ W2.swap (A.set0 (A.sm.erase q v' v2') ⟨by show (z.l.eraseIdx q).length≤16; rw[List.length_eraseIdx_of_lt hql]; omega,by show z.given≤i+1; omega⟩) om (by simp only[sA,sB,seval,t0]) (by simp only[sA,sB,seval,t2]) (by simp only[sA,sB,seval,t7]) (by simp only[sA,sB,seval,t9]) (by simp only[sA,sB,seval,t11])
  ·have c':¬(k:Int)=0:=om
   simp only[sA,sB,seval,t20,c']
   exact hQ _ K1 t _ _ _ _ W1 (A.setA c ⟨by show (z.l.eraseIdx q).length≤16; rw[List.length_eraseIdx_of_lt hql]; omega,by show z.given≤i+1; omega⟩) om (by simp only[sA,sB,seval,t0]) (by simp only[sA,sB,seval,t2]) (by simp only[sA,sB,seval,t7]) (by simp only[sA,sB,seval,t9]) (by simp only[sA,sB,seval,t11])
def pD:List Nat:=[1,1,1,1,0,1,2,3,1,0,2,1,1,1,1,1,2,1,5,1,5]
theorem alone_take{X:Nat→Prop}{K0 K:AHeap}{a b:Hd}{t N i bx:Nat}{la lb:List SeatV}{x y:SeatV}{w:List Int}{o:Opn}{wv lv v11:AVal}{T:Env}{Qp:Post}
  (W:Tw X K0 K a t la b t lb) (A:AI N i la lb x y) (hN:N=w.length) (ok:okB w=true) (hi:i≤60) (ht:t≤i) (hfa:a.fr=frame w) (hfb:b.fr=frame w) (hu:b.units=a.units∧a.units≤2000000) (hs:b.slots=a.slots∧a.slots≤16) (rb:Row K0 bx o.cells) (hbx:X bx) {k:Nat} (hk:k<N)
  (t0:T 0=wv) (t2:T 2=lv) (t7:T 7=cellR a.b 6 0) (t9:T 9=cellR b.b 6 0) (t11:T 11=v11) (t12:T 12=cellR bx 8 0) (t20:T 20=.int .i64 (k:Int))
  (hQ:∀(T':Env) K' t' la' lb' x' y',Tw X K0 K' a t' la' b t' lb'→AI N (i+1) la' lb' x' y'→t'≤i+1→T' 0=wv→T' 2=lv→T' 7=cellR a.b 6 0→T' 9=cellR b.b 6 0→T' 11=v11→Qp .normal T' K') :
  wp (ACalls Tryz.prog noNat) (hold (restP pD c4.body)) Qp T K:=by
 obtain⟨z,hz⟩:∃z,la[k]?=some z:=⟨_,List.getElem?_eq_getElem (by rw[A.a]; omega)⟩
 obtain⟨zl,zg⟩:=A.ba k z hz
 obtain⟨xl,xg⟩:=A.ba 0 x A.x0
 obtain⟨yl,yg⟩:=A.bb 0 y A.y0
 have l2:oLoad false 1 K (cellR bx 8 2)=some (.int .i64 o.id):=row_load (W.row rb hbx) rfl rfl
 have l3:oLoad false 1 K (cellR bx 8 3)=some (.int .i64 o.n):=row_load (W.row rb hbx) rfl rfl
 obtain⟨f1,f2⟩:=takeV_len z o.id o.n
 rw[hold_eq]
 simp only[c4,restP,pD,sA,sB,seval]
 refine aw_drawC rfl ?_
 simp only[sR,sA,sB,seval,t7,t12,t20,fldA,l2]
 refine (jobT W hz om o.id).mono ?_
 rintro _ K1 ⟨rfl,E1⟩
 have W1:=W.ext E1
 have l31:oLoad false 1 K1 (cellR bx 8 3)=some (.int .i64 o.n):=row_load (W1.row rb hbx) rfl rfl
 simp only[sR,sA,sB,seval,t12,fldA,l31]
 refine (takeT W1 hz o.id o.n).mono ?_
 rintro r1 K2 ⟨C2,B2,W2,V2⟩
 have l22:oLoad false 1 K2 (cellR bx 8 2)=some (.int .i64 o.id):=row_load (W2.row rb hbx) rfl rfl
 have l32:oLoad false 1 K2 (cellR bx 8 3)=some (.int .i64 o.n):=row_load (W2.row rb hbx) rfl rfl
 simp only[sR,sA,sB,seval]
 simp only[ck_nil',ck_cons,ckP_load,ckP_nil,ck_end,and_true,true_and,List.map_cons,List.map_nil,sA,sB,seval,nil_cell,fldA]
 refine⟨?_,?_⟩
 ·and_intros <;> first | rfl | exact⟨_,rfl,fun _=>⟨_,by assumption,aeq_int _ _⟩⟩
 refine aw_drawC rfl ?_
 by_cases c:k=0
 ·subst c
  have e1:=A.x0
  rw[hz]at e1
  obtain rfl:=Option.some.inj e1
  have c0:((0:Nat):Int)=0:=rfl
  simp only[sR,sA,sB,seval,t20,c0,t9,t12,fldA,l22]
  refine (jobT (k:=0) V2.swap A.y0 om o.id).mono ?_
  rintro _ K3 ⟨rfl,E3⟩
  have V3:=V2.ext E3
  have W3:=W2.ext E3
  have l33:oLoad false 1 K3 (cellR bx 8 3)=some (.int .i64 o.n):=row_load (W3.row rb hbx) rfl rfl
  simp only[sR,sA,sB,seval,t12,fldA,l33]
  refine (takeT (k:=0) V3.swap A.y0 o.id o.n).mono ?_
  rintro r2 K4 ⟨C4,_,V4,_⟩
  have W4:=W2.back V4.swap fun c hc=>.inl hc
  have C24:=V4.cel C2 (B2.mono fun c hc=>.inr ⟨by have:=E1.next; omega,hc.2⟩)
  simp only[sR,sA,sB,seval]
  refine (equal_spec C24 C4).mono ?_
  rintro _ _ ⟨rfl,rfl⟩
  obtain⟨s1,s2⟩:=A.sm.take o.id o.n
  rw[s1,decide_eq_true rfl]
  simp only[sR,sA,sB,seval]
  simp only[ck_nil',ck_cons,ckP_load,ckP_nil,ck_end,and_true,true_and,List.map_cons,List.map_nil,sA,sB,seval,nil_cell,fldA]
  refine⟨?_,?_⟩
  ·and_intros <;> first | rfl | exact⟨_,rfl,fun _=>⟨_,by assumption,aeq_int _ _⟩⟩
  ·exact hQ _ K4 t _ _ _ _ W4 (A.set0 s2 ⟨om,om⟩) om (by simp only[sA,sB,seval,t0]) (by simp only[sA,sB,seval,t2]) (by simp only[sA,sB,seval,t7]) (by simp only[sA,sB,seval,t9]) (by simp only[sA,sB,seval,t11])
 ·have c':¬(k:Int)=0:=om
  simp only[sR,sA,sB,seval,t20,c']
  simp only[ck_nil',ck_cons,ckP_load,ckP_nil,ck_end,and_true,true_and,List.map_cons,List.map_nil,sA,sB,seval,nil_cell,fldA]
  refine⟨?_,?_⟩
  ·and_intros <;> exact⟨_,rfl,fun h=>Bool.noConfusion (show false=true from h)⟩
  ·exact hQ _ K2 t _ _ _ _ W2 (A.setA c ⟨om,om⟩) om (by simp only[sA,sB,seval,t0]) (by simp only[sA,sB,seval,t2]) (by simp only[sA,sB,seval,t7]) (by simp only[sA,sB,seval,t9]) (by simp only[sA,sB,seval,t11])
open Go.Abs Go.Abs.S
open Go.Proofs.Fr (ownerF frame okB)
def pI:List Nat:=[1,1,1,1,0,1,2,3,1,0,2,1]
theorem alone_body{X:Nat→Prop}{K0 K:AHeap}{a b:Hd}{t N i bx:Nat}{la lb:List SeatV}{x y:SeatV}{w:List Int}{o:Opn}{wv lv v11:AVal}{T:Env}{Qp:Post}
  (W:Tw X K0 K a t la b t lb) (A:AI N i la lb x y) (hN:N=w.length) (ok:okB w=true) (hi:i≤60) (ht:t≤i) (hfa:a.fr=frame w) (hfb:b.fr=frame w) (hu:b.units=a.units∧a.units≤2000000) (hs:b.slots=a.slots∧a.slots≤16) (rb:Row K0 bx o.cells) (hbx:X bx) (lw:aLenK false wv=some (.int .i64 (N:Int)))
  (t0:T 0=wv) (t2:T 2=lv) (t7:T 7=cellR a.b 6 0) (t9:T 9=cellR b.b 6 0) (t11:T 11=v11) (t12:T 12=cellR bx 8 0)
  (hQ:∀(T':Env) K' t' la' lb' x' y',Tw X K0 K' a t' la' b t' lb'→AI N (i+1) la' lb' x' y'→t'≤i+1→T' 0=wv→T' 2=lv→T' 7=cellR a.b 6 0→T' 9=cellR b.b 6 0→T' 11=v11→Qp .normal T' K'∧Qp (.exit 1) T' K') :
  wp (ACalls Tryz.prog noNat) (hold (restP pI c4.body)) Qp T K:=by
 obtain⟨o1,o2,_,_⟩:=(Go.Proofs.Fr.okB_iff w).1 ok
 have rK:=W.row rb hbx
 have l0:oLoad false 1 K (cellR bx 8 0)=some (.int .i64 o.do_):=row_load rK rfl rfl
 have l1:oLoad false 1 K (cellR bx 8 1)=some (.int .i64 o.who):=row_load rK rfl rfl
 obtain⟨kd,hkd⟩:∃k,k=pickF o.do_ 5:=⟨_,rfl⟩
 have hkd5:kd<5:=hkd ▸ pickF_lt _ om
 obtain⟨k,hk⟩:∃k,k=pickF o.who N:=⟨_,rfl⟩
 have hkN:k<N:=hk ▸ pickF_lt _ om
 rw[hold_eq]
 refine wp_cutP [1,0,1,4] ?_
 refine wp_cutP [1,1,1,1,2,1,4] ?_
 refine wp_cutP [1,1,1,1,2,1,5,1,4] ?_
 refine wp_cutP [1,1,1,1,2,1,5,1,5] ?_
 simp only[c4,restP,pI,sC,sA,sB,seval,t12,fld0,l0]
 refine (pickN_spec o.do_ 5 om om).mono ?_
 rintro _ _ ⟨rfl,rfl⟩
 rw[← hkd]
 by_cases c2:kd=2
 ·have n2:(kd:Int)=2:=om
  simp only[sA,sB,seval,n2]
  exact alone_tick (wv:=wv) (lv:=lv) (v11:=v11) W A hN ok hi ht hfa hfb hu hs rb hbx (by simp only[sA,sB,seval,t0]) (by simp only[sA,sB,seval,t2]) (by simp only[sA,sB,seval,t7]) (by simp only[sA,sB,seval,t9]) (by simp only[sA,sB,seval,t11]) (by simp only[sA,sB,seval,t12]) fun T' K' t' la' lb' x' y' h1 h2 h3 u0 u2 u7 u9 u11=>by simp only[sA,sB,seval]; exact (hQ T' K' t' la' lb' x' y' h1 h2 h3 u0 u2 u7 u9 u11).2
 have n2:¬(kd:Int)=2:=om
 by_cases c3:kd=3
 ·have n3:(kd:Int)=3:=om
  have n32:¬(3:Int)=2:=om
  simp only[sA,sB,seval,n3,n32]
  exact alone_tick (wv:=wv) (lv:=lv) (v11:=v11) W A hN ok hi ht hfa hfb hu hs rb hbx (by simp only[sA,sB,seval,t0]) (by simp only[sA,sB,seval,t2]) (by simp only[sA,sB,seval,t7]) (by simp only[sA,sB,seval,t9]) (by simp only[sA,sB,seval,t11]) (by simp only[sA,sB,seval,t12]) fun T' K' t' la' lb' x' y' h1 h2 h3 u0 u2 u7 u9 u11=>by simp only[sA,sB,seval]; exact (hQ T' K' t' la' lb' x' y' h1 h2 h3 u0 u2 u7 u9 u11).2
 have n3:¬(kd:Int)=3:=om
 simp only[sA,sB,seval,n2,n3,t0,t12,fldA,l1,lw]
 refine (pickN_spec o.who N om om).mono ?_
 rintro _ _ ⟨rfl,rfl⟩
 rw[← hk]
 by_cases c0:kd=0
 ·have n0:(kd:Int)=0:=om
  simp only[sA,sB,seval,n0]
  exact alone_add (wv:=wv) (lv:=lv) (v11:=v11) W A hN ok hi ht hfa hfb hu hs rb hbx hkN (by simp only[sA,sB,seval,t0]) (by simp only[sA,sB,seval,t2]) (by simp only[sA,sB,seval,t7]) (by simp only[sA,sB,seval,t9]) (by simp only[sA,sB,seval,t11]) (by simp only[sA,sB,seval,t12]) (by simp only[sA,sB,seval]) fun T' K' t' la' lb' x' y' h1 h2 h3 u0 u2 u7 u9 u11=>by simp only[sA,sB,seval]; exact (hQ T' K' t' la' lb' x' y' h1 h2 h3 u0 u2 u7 u9 u11).1
 have n0:¬(kd:Int)=0:=om
 by_cases c1:kd=1
 ·have n1:(kd:Int)=1:=om
  have n10:¬(1:Int)=0:=om
  simp only[sA,sB,seval,n1,n10]
  exact alone_cancel (wv:=wv) (lv:=lv) (v11:=v11) W A hN ok hi ht hfa hfb hu hs rb hbx hkN (by simp only[sA,sB,seval,t0]) (by simp only[sA,sB,seval,t2]) (by simp only[sA,sB,seval,t7]) (by simp only[sA,sB,seval,t9]) (by simp only[sA,sB,seval,t11]) (by simp only[sA,sB,seval,t12]) (by simp only[sA,sB,seval]) fun T' K' t' la' lb' x' y' h1 h2 h3 u0 u2 u7 u9 u11=>by simp only[sA,sB,seval]; exact (hQ T' K' t' la' lb' x' y' h1 h2 h3 u0 u2 u7 u9 u11).1
 have n1:¬(kd:Int)=1:=om
 simp only[sA,sB,seval,n0,n1]
 exact alone_take (wv:=wv) (lv:=lv) (v11:=v11) W A hN ok hi ht hfa hfb hu hs rb hbx hkN (by simp only[sA,sB,seval,t0]) (by simp only[sA,sB,seval,t2]) (by simp only[sA,sB,seval,t7]) (by simp only[sA,sB,seval,t9]) (by simp only[sA,sB,seval,t11]) (by simp only[sA,sB,seval,t12]) (by simp only[sA,sB,seval]) fun T' K' t' la' lb' x' y' h1 h2 h3 u0 u2 u7 u9 u11=>by simp only[sA,sB,seval]; exact (hQ T' K' t' la' lb' x' y' h1 h2 h3 u0 u2 u7 u9 u11).1
open Go.Abs Go.Abs.S
open Go.Proofs.Fr (ownerF frame okB)
open Go.Proofs.Tc (SlK)
open Go.Proofs.Tb (cel_same cel_blk)
def pF:List Nat:=[1,1,1,1,1]
theorem alone_end{X:Nat→Prop}{K0 K:AHeap}{a b:Hd}{t N i:Nat}{la lb:List SeatV}{x y:SeatV}{T:Env}{P:AVal→AHeap→Prop}
  (W:Tw X K0 K a t la b t lb) (A:AI N i la lb x y) (t7:T 7=cellR a.b 6 0) (t9:T 9=cellR b.b 6 0) (hP:∀K',P (.bool true) K') :
  wp (ACalls Tryz.prog noNat) (hold (restP pF c4.body)) (fin c4.res P) T K:=by
 obtain⟨xl,xg⟩:=A.ba 0 x A.x0
 obtain⟨yl,yg⟩:=A.bb 0 y A.y0
 rw[hold_eq]
 simp only[c4,restP,pF,sA,sB,seval,t7]
 refine (jobsT (k:=0) W A.x0 om).mono ?_
 rintro r1 K1 ⟨A1,E1⟩
 have W1:=W.ext E1
 simp only[sA,sB,seval,t9]
 refine (jobsT (k:=0) W1.swap A.y0 om).mono ?_
 rintro r2 K2 ⟨A2,E2⟩
 have W2:=W1.ext E2
 have C1:=A1.cel
 have C2:=A2.cel
 rw[A.sm.ids]at C1
 simp only[sA,sB,seval]
 refine (same_spec (cel_same C1 E2.next ((cel_blk C1).mono fun c hc=>E2.old c hc)) C2 (by rw[List.length_map]; omega)).mono ?_
 rintro _ _ ⟨rfl,rfl⟩
 simp only[sA,sB,seval,t7]
 refine (ticksT W2).mono ?_
 rintro _ _ ⟨rfl,rfl⟩
 simp only[sA,sB,seval,t9]
 refine (ticksT W2.swap).mono ?_
 rintro _ _ ⟨rfl,rfl⟩
 simp only[sA,sB,seval]
 refine (awake_spec K2).mono ?_
 rintro _ K3 ⟨rfl,_⟩
 simp only[sA,sB,seval]
 exact hP _
def pG:List Nat:=[1,1,1,1]
theorem alone_main{H K:AHeap}{a b:Hd}{N:Nat}{la lb:List SeatV}{x y:SeatV}{w:List Int}{ops:List Opn}{wv lv:AVal}{T:Env}{P:AVal→AHeap→Prop}
  (W:Tw (·<H.next) H K a 0 la b 0 lb) (A:AI N 0 la lb x y) (L:SlK (·<H.next) H 8 lv ops.length (ops.flatMap Opn.cells)) (hN:N=w.length) (ok:okB w=true) (hfa:a.fr=frame w) (hfb:b.fr=frame w) (hu:b.units=a.units∧a.units≤2000000) (hs:b.slots=a.slots∧a.slots≤16) (lw:aLenK false wv=some (.int .i64 (N:Int)))
  (t0:T 0=wv) (t2:T 2=lv) (t7:T 7=cellR a.b 6 0) (t9:T 9=cellR b.b 6 0) (hP:∀K',P (.bool true) K') :
  wp (ACalls Tryz.prog noNat) (hold (restP pG c4.body)) (fin c4.res P) T K:=by
 have lnl:=L.len
 rw[hold_eq]
 refine wp_cutP [1] ?_
 refine wp_cutP [0,1,2,3,1,0,2,1] ?_
 simp only[c4,restP,pG,sC,sA,sB,seval]
 refine aw_loop (fun mu (T:Env) K'=>∃(i t:Nat) (la lb:List SeatV) (x y:SeatV),mu=60-i∧i≤60∧Tw (·<H.next) H K' a t la b t lb∧AI N i la lb x y∧t≤i∧T 0=wv∧T 2=lv∧T 7=cellR a.b 6 0∧T 9=cellR b.b 6 0∧T 11=.int .i64 (i:Int)) 60
  ⟨0,0,la,lb,x,y,om,om,W,A,om,by simp only[sA,sB,seval,t0],by simp only[sA,sB,seval,t2],by simp only[sA,sB,seval,t7],by simp only[sA,sB,seval,t9],tt⟩ ?_
 clear t0 t2 t7 t9 W A
 rintro mu T K1 ⟨i,t,la,lb,x,y,rfl,hi,W,A,ht,t0,t2,t7,t9,t11⟩
 by_cases c1:i<ops.length
 case neg=>
  have c1':¬(i:Int)<(ops.length:Int):=om
  simp only[sA,sB,seval,t2,t11,lnl,c1']
  exact alone_end W A (by simp only[sA,sB,seval,t7]) (by simp only[sA,sB,seval,t9]) hP
 have c1':(i:Int)<(ops.length:Int):=om
 by_cases c2:i<60
 case neg=>
  have c2':¬(i:Int)<60:=om
  simp only[sA,sB,seval,t2,t11,lnl,c1',c2']
  exact alone_end W A (by simp only[sA,sB,seval,t7]) (by simp only[sA,sB,seval,t9]) hP
 have c2':(i:Int)<60:=om
 obtain⟨o,ho⟩:∃o,ops[i]?=some o:=⟨_,List.getElem?_eq_getElem c1⟩
 obtain⟨ob,olim,of,x1,x2,_⟩:=slk_op (L.mono (Q:=(·<H.next)) (H':=K1) fun c hc=>⟨hc,(W.1 c hc).2⟩) ho
 obtain⟨K2,m2,r2,n2,k2⟩:=row_newL K1 [.int .i64 0,.int .i64 0,.int .i64 0,.int .i64 0,.int .i64 0,.int .i64 0,.int .i64 0,.int .i64 0] (n:=8) rfl
 obtain⟨K3,m3,r3,n3,k3⟩:=row_storeN r2 (n:=8) rfl (xs:=o.cells) rfl rfl
 have E3:Ext K1.next K1 K3:=⟨om,fun c hc=>by rw[k3 c om,k2 c om]⟩
 have wi:IntKind.i64.wrap ((i:Int)+1)=((i+1:Nat):Int):=w64
 have ob':o.cells.all AVal.one=true:=rfl
 simp only[sA,sB,seval,t2,t11,lnl,c1',c2',x1,x2,m2,m3]
 refine alone_body (wv:=wv) (lv:=lv) (v11:=.int .i64 (i:Int)) (W.more E3) A hN ok hi ht hfa hfb hu hs r3 (.inr ⟨om,om⟩) lw (by simp only[sA,sB,seval,t0]) (by simp only[sA,sB,seval,t2]) (by simp only[sA,sB,seval,t7]) (by simp only[sA,sB,seval,t9]) (by simp only[sA,sB,seval,t11]) (by simp only[sA,sB,seval]) ?_
 intro T' K4 t' la' lb' x' y' W4 A4 ht' u0 u2 u7 u9 u11
 have W5:=(W.ext E3).back W4 fun c hc=>.inl hc
 constructor
 ·simp only[sA,sB,seval,u11,wi]
  exact⟨60-(i+1),om,i+1,t',la',lb',x',y',rfl,om,W5,A4,om,by simp only[sA,sB,seval,u0],by simp only[sA,sB,seval,u2],by simp only[sA,sB,seval,u7],by simp only[sA,sB,seval,u9],tt⟩
 ·simp only[sA,sB,seval,u11,wi]
  exact⟨60-(i+1),om,i+1,t',la',lb',x',y',rfl,om,W5,A4,om,by simp only[sA,sB,seval,u0],by simp only[sA,sB,seval,u2],by simp only[sA,sB,seval,u7],by simp only[sA,sB,seval,u9],tt⟩
open Go.Abs Go.Abs.S
open Go.Proofs.Fr (ownerF frame okB)
open Go.Proofs.Tc (SlK)
open Go.Proofs.Tb (cel_same cel_blk)
theorem seat0_ai(N:Nat)(h:0<N):AI N 0 (List.replicate N seat0) (List.replicate N seat0) seat0 seat0:=by
 have h0:(List.replicate N seat0)[0]?=some seat0:=by rw[List.getElem?_replicate,if_pos h]
 have hb:∀(k:Nat) (z:SeatV),(List.replicate N seat0)[k]?=some z→z.l.length≤16∧z.given≤0:=fun k z hz=>by
  rw[List.getElem?_replicate]at hz
  split at hz
  ·obtain rfl:=Option.some.inj hz
   exact⟨Nat.zero_le _,Nat.le_refl _⟩
  ·simp at hz
 exact⟨List.length_replicate ..,List.length_replicate ..,h0,h0,⟨rfl,rfl,rfl⟩,hb,hb⟩
theorem alone_spec{H:AHeap}{wv lv:AVal}{ws:List Int}{q sl:Int}{ops:List Opn}(Cw:Cel H.next H wv (ints ws))(hl:ws.length≤4611686018427387904)(L:SlK (·<H.next) H 8 lv ops.length (ops.flatMap Opn.cells)) :
  ACalls Tryz.prog noNat 4 [wv,.agg [.int .i64 q,.int .i64 sl],lv] H fun r _=>r=.bool true:=by
 obtain⟨H1,m1,r1,n1,k1⟩:=row_newL H [.int .i64 q,.int .i64 sl] (n:=2) rfl
 have E1:Ext H.next H H1:=⟨om,fun c hc=>k1 c om⟩
 have C1:Cel H1.next H1 wv (ints ws):=cel_same Cw om ((cel_blk Cw).mono fun c hc=>E1.old c hc)
 have a0:aIdxArr 2 1 (cellR H.next 2 0) (.int .i64 0)=some (cellR H.next 2 0):=arr_idx (i:=0) om .i64
 have a1:aIdxArr 2 1 (cellR H.next 2 0) (.int .i64 1)=some (cellR H.next 2 1):=arr_idx (i:=1) om .i64
 have l0:∀K,Ext H1.next H1 K→oLoad false 1 K (cellR H.next 2 0)=some (.int .i64 q)∧oLoad false 1 K (cellR H.next 2 1)=some (.int .i64 sl):=fun K E=>by
  have r:=r1.same (E.old _ om)
  exact⟨row_load r rfl rfl,row_load r rfl rfl⟩
 obtain⟨b0,b1⟩:=l0 H1 (.refl _ _)
 refine acalls_ofN rfl za4 rfl ?_
 refine wp_cutP [1,1,1,1] ?_
 simp only[c4,sC,sA,sB,seval,cells_agg,m1,a0,a1,b0,b1]
 refine (snew_spec C1 rL hl q sl).mono ?_
 rintro ra K1 ⟨E2,e143,e2,eok⟩
 have C2:Cel K1.next K1 wv (ints ws):=cel_same C1 E2.next ((cel_blk C1).mono fun c hc=>E2.old c hc)
 cases ok:okB ws with
 | false=>
  obtain rfl:=e143 ok
  simp only[sA,sB,seval,ext_0,ext_1,a0,a1,(l0 K1 E2).1,(l0 K1 E2).2]
  refine (snew_spec C2 rL hl q sl).mono ?_
  rintro rb K2 ⟨E3,f143,f2,fok⟩
  obtain rfl:=f143 ok
  simp only[sA,sB,seval,ext_0,ext_1]
  refine (awake_spec K2).mono ?_
  rintro _ K3 ⟨rfl,_⟩
  simp only[sA,sB,seval]
  try exact tt
 | true=>
  by_cases rng:1≤q∧q≤1048576∧1≤sl∧sl≤16
  case neg=>
   obtain rfl:=e2 ok om
   simp only[sA,sB,seval,ext_0,ext_1,a0,a1,(l0 K1 E2).1,(l0 K1 E2).2]
   refine (snew_spec C2 rL hl q sl).mono ?_
   rintro rb K2 ⟨E3,f143,f2,fok⟩
   obtain rfl:=f2 ok om
   simp only[sA,sB,seval,ext_0,ext_1]
   refine (awake_spec K2).mono ?_
   rintro _ K3 ⟨rfl,_⟩
   simp only[sA,sB,seval]
   try exact tt
  case pos=>
   obtain⟨g1,g2,g3,g4⟩:=rng
   obtain⟨Sa,ba,fva,bsa,rfl,A,hSa⟩:=eok ok g1 g2 g3 g4
   simp only[sA,sB,seval,ext_0,ext_1,a0,a1,(l0 K1 E2).1,(l0 K1 E2).2]
   refine (snew_spec C2 rL hl q sl).mono ?_
   rintro rb K2 ⟨E3,_,_,fok⟩
   obtain⟨Sb,bb,fvb,bsb,rfl,B,hSb⟩:=fok ok g1 g2 g3 g4
   have e2':=E2.next
   have e3':=E3.next
   obtain⟨o1,_⟩:=(Go.Proofs.Fr.okB_iff ws).1 ok
   have lw:=Cw.len
   rw[ints_len]at lw
   have W:Tw (·<H.next) H K2 ⟨ba,fva,frame ws,q.toNat,sl.toNat,bsa⟩ 0 (List.replicate ws.length seat0) ⟨bb,fvb,frame ws,q.toNat,sl.toNat,bsb⟩ 0 (List.replicate ws.length seat0):=
    ⟨fun c hc=>⟨hc,by have h1:c<H.next:=hc; rw[E3.old c om,E2.old c om,E1.old c h1]⟩,om,Sa,Sb,A.ext E3,B,fun c hc q=>by have:=A.sn c hc; have:=hSb c q; omega,fun c hc q=>by have h1:c<H.next:=q; have:=hSa c hc; omega,fun c hc q=>by have h1:c<H.next:=q; have:=hSb c hc; omega⟩
   simp only[sA,sB,seval,ext_0,ext_1]
   exact alone_main (wv:=wv) W (seat0_ai _ o1) L rfl ok rfl rfl ⟨rfl,show q.toNat≤2000000 by omega⟩ ⟨rfl,show sl.toNat≤16 by omega⟩ lw (by simp only[sA,sB,seval]) (by simp only[sA,sB,seval]) (by simp only[sA,sB,seval]) (by simp only[sA,sB,seval]) (fun _=>rfl)
end Go.Proofs.Sd
namespace Go.Abs
open Go.ChangeShapes Go.WideShapes Go.ChangeAt Go.RowKit
section
variable {H:Type} {enc:TypeId×Value→H} {P:Program}
theorem trodAll_below{W W':World}{base:Nat}{sp:Nat→Bool}{held:Bool}(hb:Below W.heap.size W W'):∀{ts:List TypeId} {vs:List Value} {ds:List (DataW H)} {ps:List MemPlace},
  DataW.TrodAll enc P W base sp held ts vs ds ps→DataW.TrodAll enc P W' base sp held ts vs ds ps
 | [],[],[],_,h=>h
 | _::_,_::_,_::_,_,⟨p,q,⟨n,h1⟩,h2,e⟩=>by
  refine⟨p,q,⟨n,DataW.trod_carry n _ _ _ h1 fun x hx=>hb.same (DataW.trod_lt n _ _ _ h1 x hx)⟩,trodAll_below hb h2,e⟩
theorem trodVars_below{W W':World}{sp:Nat→Bool}{gs:List (DataW H)}{q:List MemPlace}(h:DataW.TrodVars enc P W sp [] gs q):DataW.TrodVars enc P W' sp [] gs q:=by
 obtain⟨rfl,rfl⟩:=trodVars_none h
 exact h
theorem law_post{f:Func}{s:ChangeSpec}{apart:Bool}{W W':World}{args:Array Value}{ds gs:List (DataW H)}{before:List MemPlace}{tb:TypeId}
  (hl:laidOutB P=true) (hm:mapsRowed P=true)
  (hz:((List.range P.types.size).all fun t=>match P.underlying t with | some (.slice e)=>decide (0<P.cellsOf e) | _=>true)=true)
  (hts:(f.params.toList.all fun t=>decide (t<P.types.size))=true) (hv:s.vars=[])
  (hW:DataW.Whole enc P f.params.toList s.vars apart W args.toList ds gs before)
  (hfn:s.fn H (ds++gs)={ results:=[.lit (.bool true)],args:=ds }) (hr:f.resultTypes=#[tb]) (ht:P.underlying tb=some .bool) (hb:Below W.heap.size W W') :
  s.post enc P f apart true false false W args (.bool true) W':=by
 have hlt:∀p∈before,p.block<W.heap.size:=fun p hp=>hW.lt p hp
 have hW0:=hW
 obtain⟨p,q,hA,hV,rfl,hfz,hnd⟩:=hW
 rw[hv]at hV
 obtain⟨rfl,rfl⟩:=trodVars_none hV
 have hT:∀t∈f.params.toList,t<P.types.size:=fun t ht=>by simpa using List.all_eq_true.1 hts t ht
 refine⟨ds,[],p++[],[],p,[],hW0,?_,?_,?_,World.keptBut_mono (fun x hx=>⟨hx,by simpa using hx⟩) (hb.frame (·∈p++[])),fun h=>by simp at h⟩
 ·rw[hfn,hr]
  exact trodAll_cons_mk (shut_bool ht _) trodAll_mk0
 ·rw[hfn]
  refine trodAll_below hb (DataW.TrodAll.respare (kids_rows hl hm) (slices_full_of P hz) hT hA fun x hx=>?_)
  simpa using hlt x (by simpa using hx)
 ·rw[hfn,hv]
  exact trodVars_below (W:=W) hV
end
end Go.Abs
