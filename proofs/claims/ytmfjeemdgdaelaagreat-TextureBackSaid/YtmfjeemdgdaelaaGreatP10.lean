/- Part of a proof (T48 T49 T50 T51 T52 T53 T54 T57 T58); no condition. -/
import Derived.Test.YtmfjeemdgdaelaaGreatP7
import Derived.Test.YtmfjeemdgdaelaaGreatP9
set_option linter.unusedSimpArgs false
set_option linter.unusedVariables false
set_option linter.unnecessarySimpa false
namespace Go.Proofs.Tb
open Go.Abs Go.Abs.S
def getM(k:Nat)(S:List Bool)(p:Nat):SR Nat:=if p+k≤S.length then .ok (natOf ((S.drop p).take k)) (p+k) else .bad 12
theorem get_m{κ:Nat→Nat}{H:AHeap}{r i:Nat}{bv out:AVal}{d:Bs}{p:Nat}{o:Bs}{most:Nat}{near far:AVal}(R:RO κ H r i bv out d p o most near far)(k:Nat)(hk:k≤32)(hd:d.length≤1000000) :
  ACalls Tryz.prog natT 1133 [cellR r 5 0,.int .i64 (k:Int)] H fun w H'=>FrS rS κ H κ H'∧((∃v q,getM k (bitsB d) p=.ok v q∧w=.int .i64 (v:Int)∧v<2 ^ k∧RO κ H' r i bv out d q o most near far∧H'.next=H.next∧∀c,c≠i→H'.get c=H.get c)∨(getM k (bitsB d) p=.bad 12∧w=fault 12∧H=H')):=
 (get_spec R.row R.rd k hk hd).mono fun w H' h=>by
  rcases h with⟨h1,h2,h3,h4,h5⟩ | ⟨h1,h2,rfl⟩
  ·obtain⟨R',F⟩:=R.at h3 h4 h5
   have:=natOf_lt (((bitsB d).drop p).take k)
   exact⟨F,.inl ⟨_,p+k,by unfold getM; rw[if_pos (by rw[bitsB_len]; exact h1)],h2,Nat.lt_of_lt_of_le this (Nat.pow_le_pow_right om (by rw[List.length_take]; omega)),R',h4,h5⟩⟩
  ·exact⟨FrS.refl _ _ _,.inr ⟨by unfold getM; rw[if_neg (by rw[bitsB_len]; omega)],h2,rfl⟩⟩
def bytesM(S:List Bool):Nat→Bs→Nat→SR Bs
 | 0,o,q=>.ok o q
 | n+1,o,q=>(getM 8 S q).bind fun x q'=>bytesM S n (o++[UInt8.ofNat x]) q'
def storedM(S:List Bool)(most:Nat)(o:Bs)(p:Nat):SR Bs:=(getM 16 S (p+fillN p)).bind fun n q=>(getM 16 S q).bind fun m q2=>if m≠65535-n then .bad 10 else if most<o.length+n then .bad 3 else bytesM S n o q2
theorem stored_ro{κ:Nat→Nat}{H:AHeap}{r i:Nat}{bv out:AVal}{d:Bs}{p:Nat}{o:Bs}{most:Nat}{near far:AVal}(R:RO κ H r i bv out d p o most near far)(hd:d.length≤1000000)(hm:most≤100000)(ho:o.length≤100000) :
  ACalls Tryz.prog natT 1134 [cellR r 5 0] H fun w H'=>∃κ',FrS rS κ H κ' H'∧((∃out2 o2 q2,storedM (bitsB d) most o p=.ok o2 q2∧w=.tuple []∧o2.length≤100000∧RO κ' H' r i bv out2 d q2 o2 most near far)∨∃e,storedM (bitsB d) most o p=.bad e∧w=fault e):=by
 refine acalls_ofE rfl za1134 rfl ?_
 have u1:isU (argE [cellR r 5 0] 36)=true:=rfl
 have u0:isU (argE [cellR r 5 0] 35)=true:=rfl
 have l0:oLoad false 1 H (cellR r 5 0)=some (cellR i 3 0):=row_load R.row rfl rfl
 simp only[c1134,sA,sB,seval,nil_cell,fldA,fld0,l0]
 refine (ralign_spec R.rd hd).mono ?_
 rintro _ H1 ⟨D1,n1,o1⟩
 obtain⟨R1,F1⟩:=R.at D1 n1 o1
 simp only[sA,sB,seval]
 refine (get_m R1 16 om hd).mono ?_
 rintro _ H2 ⟨F2,⟨n,q,e2,rfl,hn,R2,-,-⟩ | ⟨e2,rfl,rfl⟩⟩
 ·simp only[sA,sB,seval,pf_isP,isPan_int]
  refine (get_m R2 16 om hd).mono ?_
  rintro _ H3 ⟨F3,⟨m,q2,e3,rfl,hm3,R3,-,-⟩ | ⟨e3,rfl,rfl⟩⟩
  ·have xo:aBin .xor (.int .i64 (n:Int)) (.int .i64 65535)=some (.int .i64 ((65535-n:Nat):Int)):=by
    have e:(BitVec.ofInt IntKind.i64.bits (n:Int) ^^^ BitVec.ofInt IntKind.i64.bits 65535).toNat=n ^^^ 65535:=by
     rw[BitVec.toNat_xor,ofInt_nat]
     have h1:n % 2 ^ IntKind.i64.bits=n:=Nat.mod_eq_of_lt (by simp only[IntKind.bits]; omega)
     rw[h1]; rfl
    simp only[aBin,isShift,cond_false,if_true,aIntF_eq,aInt,e]
    rw[xor_16 om,wrapI om]
   have hS:storedM (bitsB d) most o p=if m≠65535-n then .bad 10 else if most<o.length+n then .bad 3 else bytesM (bitsB d) n o q2:=by
    unfold storedM; rw[e2]; simp only[SR.bind]; rw[e3]
   by_cases hmn:m≠65535-n
   ·have hmn':¬(m:Int)=((65535-n:Nat):Int):=om
    rw[if_pos hmn]at hS
    simp only[sA,sB,seval,pf_isP,isPan_int,xo,hmn',pf_mkP,pf_isU,u0,u1,isU_pan]
    exact⟨κ,(F1.trans F2).trans F3,.inr ⟨10,hS,by rfl⟩⟩
   ·rw[if_neg hmn]at hS
    obtain rfl:m=65535-n:=om
    simp only[sA,sB,seval,pf_isP,isPan_int,xo]
    refine (room_spec R3.row R3.len n om hm ho).mono ?_
    rintro _ _ ⟨⟨hr,rfl⟩ | ⟨hr,rfl⟩,rfl⟩
    ·rw[if_neg om]at hS
     simp only[sA,sB,seval,pf_isP,isPan]
     refine aw_loop (fun m (T:Env) H'=>∃g κ2 out2 o2 q3,m=n-g∧g≤n∧T 0=cellR r 5 0∧T 19=.int .i64 (n:Int)∧T 20=.int .i64 (g:Int)∧isU (T 35)=true∧isU (T 36)=true∧o2.length=o.length+g∧bytesM (bitsB d) (n-g) o2 q3=bytesM (bitsB d) n o q2∧FrS rS κ H κ2 H'∧RO κ2 H' r i bv out2 d q3 o2 most near far) n
      ⟨0,κ,out,o,q2,rfl,Nat.zero_le _,by simp only[sA,sB,seval],by simp only[sA,sB,seval],by simp only[sA,sB,seval]; try rfl,by simp only[sA,sB,seval]; exact u0,by simp only[sA,sB,seval]; exact u1,rfl,rfl,(F1.trans F2).trans F3,R3⟩ ?_
     rintro m T H4 ⟨g,κ2,out2,o2,q3,rfl,hg,g0,g19,g20,v35,v36,hol,hB,F4,R4⟩
     by_cases hlt:g<n
     ·have hlt':(g:Int)<(n:Int):=om
      have l1:oLoad false 1 H4 (cellR r 5 1)=some out2:=row_load R4.row rfl rfl
      have hB2:bytesM (bitsB d) (n-g) o2 q3=(getM 8 (bitsB d) q3).bind fun x q'=>bytesM (bitsB d) (n-(g+1)) (o2++[UInt8.ofNat x]) q':=by
       rw[show n-g=(n-(g+1))+1 by omega]; rfl
      simp only[sA,sB,seval,g0,g19,g20,hlt']
      refine aw_drawC rfl ?_
      simp only[sR,sA,sB,seval,g0,nil_cell,fldA,l1]
      refine (get_m R4 8 om hd).mono ?_
      rintro _ H5 ⟨F5,⟨x,q4,e5,rfl,hx,R5,-,-⟩ | ⟨e5,rfl,rfl⟩⟩
      ·rw[e5]at hB2
       simp only[SR.bind]at hB2
       have wx:IntKind.u8.wrap (x:Int)=((UInt8.ofNat x).toNat:Int):=by
        rw[wrap_u .u8 (by simp) (by simp only[IntKind.bits]; omega)]
        have:(UInt8.ofNat x).toNat=x:=by simp; omega
        rw[this]
       have bld:=build1 (.int .u8 0) H5 (x:=.int .u8 ((UInt8.ofNat x).toNat:Int)) rfl
       obtain⟨s6,H6,H7,κ7,m6,m7,R7,F7⟩:=R5.push (UInt8.ofNat x) om
       have l1a:oLoad false 1 H5 (cellR r 5 1)=some out2:=row_load R5.row rfl rfl
       have l1b:oLoad false 1 (H5.push (.cells [.int .u8 ((UInt8.ofNat x).toNat:Int)] 0 false)) (cellR r 5 1)=some out2:=row_load (R5.row.same (get_push_lt R5.kr.2)) rfl rfl
       simp only[sR,sA,sB,seval,tr_skip,Nat.reduceLeDiff,Nat.reduceSub,isPan_int,Bool.false_eq_true,g0,conv_in,wx,bld,m6,nil_cell,fldA,m7]
       simp only[ck_nil',ck_cons,ckP_load,ckP_nil,ck_end,and_true,true_and,List.map_cons,List.map_nil,sA,sB,seval,g0,fldA]
       refine⟨⟨⟨_,rfl,fun _=>⟨_,l1a,app_aeq R4.ap⟩⟩,⟨_,rfl,fun _=>⟨_,l1b,app_aeq R4.ap⟩⟩⟩,?_⟩
       simp only[sA,sB,seval,pf_isP,isPan_int,g0,g19,g20,wrap1 g om]
       exact⟨_,om,g+1,κ7,s6,o2++[UInt8.ofNat x],q4,rfl,om,tt,tt,tt,by exact v35,by exact v36,by rw[lA,hol]; rfl,hB2.symm.trans hB,(F4.trans F5).trans F7,R7⟩
      ·rw[e5]at hB2
       simp only[SR.bind]at hB2
       rw[← hB,hB2]at hS
       simp only[sR,sA,sB,seval,tr_skip,Nat.reduceLeDiff,Nat.reduceSub,fault,isPan_pan]
       simp only[ck_nil',ck_cons,ckP_load,ckP_nil,ck_end,and_true,true_and,List.map_cons,List.map_nil,sA,sB,seval,g0,fldA]
       refine⟨⟨⟨_,rfl,fun _=>⟨_,l1,app_aeq R4.ap⟩⟩,⟨_,rfl,fun _=>⟨_,l1,app_aeq R4.ap⟩⟩⟩,?_⟩
       simp only[sA,sB,seval,pf_isP,isPan_pan,pf_isU,v35,v36,isU_pan]
       exact⟨κ2,F4,.inr ⟨12,hS,by rfl⟩⟩
     ·have hlt':¬(g:Int)<(n:Int):=om
      obtain rfl:g=n:=om
      rw[Nat.sub_self]at hB
      simp only[bytesM]at hB
      rw[← hB]at hS
      simp only[sA,sB,seval,g0,g19,g20,hlt',pf_isU,v35,v36,pf_tup0]
      exact⟨κ2,F4,.inl ⟨out2,o2,q3,hS,tt,om,R4⟩⟩
    ·rw[if_pos om]at hS
     simp only[sA,sB,seval,fault,pf_isP,isPan_pan,pf_isU,u0,u1,isU_pan]
     exact⟨κ,(F1.trans F2).trans F3,.inr ⟨3,hS,by rfl⟩⟩
  ·have hS:storedM (bitsB d) most o p=.bad 12:=by unfold storedM; rw[e2]; simp only[SR.bind]; rw[e3]
   simp only[sA,sB,seval,fault,pf_isP,isPan_pan,pf_isU,u0,u1,isU_pan]
   exact⟨κ,F1.trans F2,.inr ⟨12,hS,by rfl⟩⟩
 ·have hS:storedM (bitsB d) most o p=.bad 12:=by unfold storedM; rw[e2]; rfl
  simp only[sA,sB,seval,fault,pf_isP,isPan_pan,pf_isU,u0,u1,isU_pan]
  exact⟨κ,F1,.inr ⟨12,hS,by rfl⟩⟩
def NF(κ:Nat→Nat)(H:AHeap)(near far:AVal):Prop:=near=.ptr none∨∃c c',near=cellR c 18 0∧far=cellR c' 18 0∧TBL κ H c c'
theorem NF.fr{S:Nat→Prop}{κ κ':Nat→Nat}{H H':AHeap}{near far:AVal}(h:NF κ H near far)(f:FrS S κ H κ' H')(h5:¬S 5):NF κ' H' near far:=by
 rcases h with h | ⟨c,c',e1,e2,t⟩
 ·exact .inl h
 ·exact .inr ⟨c,c',e1,e2,t.fr f h5⟩
theorem nil_nil:aPf (.eqv false .ptr) [.ptr none,.ptr none]=some (.bool true):=_root_.id rfl
theorem RO.ext{κ:Nat→Nat}{H H':AHeap}{r i:Nat}{bv out:AVal}{d:Bs}{p:Nat}{o:Bs}{most:Nat}{near far:AVal}(R:RO κ H r i bv out d p o most near far)(E:Ext H.next H H')(k:Nat):RO (upT κ H H' k) H' r i bv out d p o most near far:=by
 have hki:=R.ki
 have hkr:=R.kr
 have en:=E.next
 exact⟨R.row.same (E.old r hkr.2),R.rd.same en (E.old i hki.2) (R.kb.mono fun b hb=>E.old b hb.2),R.ap.same en (R.ko.mono fun b hb=>E.old b hb.2),⟨by rw[upT_old hkr.2]; exact hkr.1,om⟩,⟨by rw[upT_old hki.2]; exact hki.1,om⟩,R.kb.mono fun b hb=>⟨by rw[upT_old hb.2]; exact hb.1,om⟩,R.ko.mono fun b hb=>⟨by rw[upT_old hb.2]; exact hb.1,om⟩,fun c hc=>upT_z en hc⟩
theorem FrS.up{S:Nat→Prop}{κ:Nat→Nat}{H H':AHeap}(E:Ext H.next H H')(k:Nat):FrS S κ H (upT κ H H' k) H':=⟨E.next,fun c hc=>⟨upT_old hc,fun _=>E.old c hc⟩⟩
theorem RO.rset{κ:Nat→Nat}{H H':AHeap}{r i:Nat}{bv out:AVal}{d:Bs}{p:Nat}{o:Bs}{most:Nat}{near far near2 far2:AVal}(R:RO κ H r i bv out d p o most near far)(hr:Row H' r (rC i out most near2 far2))(hn:H'.next=H.next)(e:∀c,c≠r→H'.get c=H.get c):RO κ H' r i bv out d p o most near2 far2∧FrS rS κ H κ H':=by
 have hki:=R.ki
 have hkr:=R.kr
 have ne:∀c,κ c≠1→c≠r:=by rintro c hc rfl; exact hc hkr.1
 refine⟨⟨hr,R.rd.same om (e i (ne i om)) (R.kb.mono fun b hb=>e b (ne b om)),R.ap.same om (R.ko.mono fun b hb=>e b (ne b om)),⟨hkr.1,om⟩,⟨hki.1,om⟩,R.kb.mono fun b hb=>om,R.ko.mono fun b hb=>om,fun c hc=>R.tz c om⟩,om,fun c _=>⟨rfl,fun hc=>e c (by rintro rfl; exact hc (.inl hkr.1))⟩⟩
def blockM(S:List Bool)(most F:Nat)(o:Bs)(p:Nat):SR (Bs×Bool):=(getM 1 S p).bind fun last q=>(getM 2 S q).bind fun k q2=>
 if k=0 then (storedM S most o q2).bind fun o2 q3=>.ok (o2,last==0) q3
 else if k=1 then (symsM S most F o q2).bind fun o2 q3=>.ok (o2,last==0) q3
 else if k=2 then .unk
 else .bad 10
theorem block7_ro{κ:Nat→Nat}{H:AHeap}{r i:Nat}{bv out:AVal}{d:Bs}{p F:Nat}{o:Bs}{most:Nat}{near far:AVal}(R:RO κ H r i bv out d p o most near far)(N:NF κ H near far)(hd:d.length≤1000000)(hm:most≤100000)(ho:o.length≤100000)(hu:blockM (bitsB d) most F o p≠.unk) :
  ACalls Tryz.prog natT 1113 [cellR r 5 0] H fun w H'=>∃κ',FrS rS κ H κ' H'∧((∃out2 o2 b q2 near2 far2,blockM (bitsB d) most F o p=.ok (o2,b) q2∧w=.bool b∧o2.length≤100000∧RO κ' H' r i bv out2 d q2 o2 most near2 far2∧NF κ' H' near2 far2)∨∃e,blockM (bitsB d) most F o p=.bad e∧w=fault e):=by
 refine acalls_ofE rfl za1113 rfl ?_
 have u1:isU (argE [cellR r 5 0] 51)=true:=rfl
 have u0:isU (argE [cellR r 5 0] 50)=true:=rfl
 simp only[c1113,sA,sB,seval]
 refine (get_m R 1 om hd).mono ?_
 rintro _ H1 ⟨F1,⟨last,q,e1,rfl,hla,R1,-,-⟩ | ⟨e1,rfl,rfl⟩⟩
 ·simp only[sA,sB,seval,pf_isP,isPan_int]
  refine (get_m R1 2 om hd).mono ?_
  rintro _ H2 ⟨F2,⟨k,q2,e2,rfl,hk,R2,-,-⟩ | ⟨e2,rfl,rfl⟩⟩
  ·have F12:=F1.trans F2
   have N2:=N.fr F12 rS5
   have hS:blockM (bitsB d) most F o p=if k=0 then (storedM (bitsB d) most o q2).bind fun o2 q3=>.ok (o2,last==0) q3
    else if k=1 then (symsM (bitsB d) most F o q2).bind fun o2 q3=>.ok (o2,last==0) q3
    else if k=2 then .unk
    else .bad 10:=by
    unfold blockM; rw[e1]; simp only[SR.bind]; rw[e2]
   have hlb:decide ((last:Int)=0)=(last==0):=by
    by_cases h:last=0
    ·subst h; rfl
    ·have:¬(last:Int)=0:=om
     simp[h]
   by_cases h0:k=0
   ·have h0':(k:Int)=0:=om
    rw[if_pos h0]at hS
    simp only[sA,sB,seval,pf_isP,isPan_int,h0']
    refine (stored_ro R2 hd hm ho).mono ?_
    rintro _ H3 ⟨κ3,F3,⟨out3,o3,q3,e3,rfl,hol,R3⟩ | ⟨e,e3,rfl⟩⟩
    ·rw[e3]at hS
     simp only[sA,sB,seval,pf_isP,isPan,hlb,pf_isU,u0,u1,pf_tup1]
     exact⟨κ3,F12.trans F3,.inl ⟨out3,o3,last==0,q3,near,far,hS,tt,hol,R3,N2.fr F3 rS5⟩⟩
    ·rw[e3]at hS
     simp only[sA,sB,seval,fault,pf_isP,isPan_pan,pf_isU,u0,u1,isU_pan]
     exact⟨κ3,F12.trans F3,.inr ⟨e,hS,by rfl⟩⟩
   ·have h0':¬(k:Int)=0:=om
    rw[if_neg h0]at hS
    by_cases h1:k=1
    ·have h1':(k:Int)=1:=om
     rw[if_pos h1]at hS
     have hsu:symsM (bitsB d) most F o q2≠.unk:=fun e=>hu (by rw[hS,e]; rfl)
     have l3:oLoad false 1 H2 (cellR r 5 3)=some near:=row_load R2.row rfl rfl
     have l4:oLoad false 1 H2 (cellR r 5 4)=some far:=row_load R2.row rfl rfl
     rcases N2 with rfl | ⟨c,c',rfl,rfl,TB⟩
     ·have hkr:=R2.kr
      simp only[sA,sB,seval,pf_isP,isPan_int,h0',h1',nil_cell,fldA,l3,nil_nil]
      refine fixed_spec.mono ?_
      rintro _ H3 ⟨c,sv,c',sv',rfl,C1,C2,hcc,sb1,sb2,E3⟩
      have en:=E3.next
      have R3:=R2.ext E3 5
      have F3:FrS rS κ H2 (upT κ H2 H3 5) H3:=FrS.up E3 5
      have T3:TBL (upT κ H2 H3 5) H3 c c':=⟨sv,sv',C1,C2,⟨upT_new (hcc c (.inl rfl)).1 (hcc c (.inl rfl)).2,(hcc c (.inl rfl)).2⟩,⟨upT_new (hcc c' (.inr rfl)).1 (hcc c' (.inr rfl)).2,(hcc c' (.inr rfl)).2⟩,sb1.mono fun b hb=>⟨upT_new hb.1 hb.2,hb.2⟩,sb2.mono fun b hb=>⟨upT_new hb.1 hb.2,hb.2⟩⟩
      obtain⟨H4,m4,r4,n4,o4⟩:=row_st R3.row (n:=5) rfl (i:=3) om (x:=cellR c 18 0) rfl (l':=rC i out most (cellR c 18 0) far) rfl
      obtain⟨R4,F4⟩:=R3.rset r4 n4 o4
      obtain⟨H5,m5,r5,n5,o5⟩:=row_st R4.row (n:=5) rfl (i:=4) om (x:=cellR c' 18 0) rfl (l':=rC i out most (cellR c 18 0) (cellR c' 18 0)) rfl
      obtain⟨R5,F5⟩:=R4.rset r5 n5 o5
      have F35:=(F3.trans F4).trans F5
      have T5:TBL (upT κ H2 H3 5) H5 c c':=T3.fr (F4.trans F5) rS5
      have l3':oLoad false 1 H5 (cellR r 5 3)=some (cellR c 18 0):=row_load R5.row rfl rfl
      have l4':oLoad false 1 H5 (cellR r 5 4)=some (cellR c' 18 0):=row_load R5.row rfl rfl
      simp only[sA,sB,seval,ext_0,ext_1,nil_cell,fldA,m4,m5,l3',l4']
      refine (syms_ro R5 T5 hd hm ho hsu).mono ?_
      rintro _ H6 ⟨κ6,F6,⟨out6,o6,q6,e6,rfl,hol,R6⟩ | ⟨e,e6,rfl⟩⟩
      ·rw[e6]at hS
       simp only[sA,sB,seval,pf_isP,isPan,hlb,pf_isU,u0,u1,pf_tup1]
       exact⟨κ6,(F12.trans F35).trans F6,.inl ⟨out6,o6,last==0,q6,_,_,hS,tt,hol,R6,.inr ⟨c,c',rfl,rfl,T5.fr F6 rS5⟩⟩⟩
      ·rw[e6]at hS
       simp only[sA,sB,seval,fault,pf_isP,isPan_pan,pf_isU,u0,u1,isU_pan]
       exact⟨κ6,(F12.trans F35).trans F6,.inr ⟨e,hS,by rfl⟩⟩
     ·simp only[sA,sB,seval,pf_isP,isPan_int,h0',h1',nil_cell,fldA,l3,eq_ptr_nil,l4]
      refine (syms_ro R2 TB hd hm ho hsu).mono ?_
      rintro _ H6 ⟨κ6,F6,⟨out6,o6,q6,e6,rfl,hol,R6⟩ | ⟨e,e6,rfl⟩⟩
      ·rw[e6]at hS
       simp only[sA,sB,seval,pf_isP,isPan,hlb,pf_isU,u0,u1,pf_tup1]
       exact⟨κ6,F12.trans F6,.inl ⟨out6,o6,last==0,q6,_,_,hS,tt,hol,R6,.inr ⟨c,c',rfl,rfl,TB.fr F6 rS5⟩⟩⟩
      ·rw[e6]at hS
       simp only[sA,sB,seval,fault,pf_isP,isPan_pan,pf_isU,u0,u1,isU_pan]
       exact⟨κ6,F12.trans F6,.inr ⟨e,hS,by rfl⟩⟩
    ·have h1':¬(k:Int)=1:=om
     rw[if_neg h1]at hS
     by_cases h2:k=2
     ·rw[if_pos h2]at hS
      exact absurd hS hu
     ·have h2':¬(k:Int)=2:=om
      rw[if_neg h2]at hS
      simp only[sA,sB,seval,pf_isP,isPan_int,h0',h1',h2',pf_mkP,pf_isU,u0,u1,isU_pan]
      exact⟨κ,F12,.inr ⟨10,hS,by rfl⟩⟩
  ·have hS:blockM (bitsB d) most F o p=.bad 12:=by unfold blockM; rw[e1]; simp only[SR.bind]; rw[e2]
   simp only[sA,sB,seval,fault,pf_isP,isPan_pan,pf_isU,u0,u1,isU_pan]
   exact⟨κ,F1.trans F2,.inr ⟨12,hS,by rfl⟩⟩
 ·have hS:blockM (bitsB d) most F o p=.bad 12:=by unfold blockM; rw[e1]; rfl
  simp only[sA,sB,seval,fault,pf_isP,isPan_pan,pf_isU,u0,u1,isU_pan]
  exact⟨κ,F1,.inr ⟨12,hS,by rfl⟩⟩
theorem dfd_ok{H:AHeap}{a b c:Nat}:ACalls Tryz.prog natT 2136 [cellR a 1 0,cellR b 1 0,cellR c 1 0,.nilIface] H fun _ H'=>H=H':=by
 refine acalls_ofE rfl za2136 rfl ?_
 have ta:aPf (.tAss 149 true (.int .i64 0)) [.nilIface]=some (.tuple [.int .i64 0,.bool false]):=_root_.id rfl
 simp only[c2136,sA,sB,seval,ta,ext_0,ext_1]
 exact⟨[],rfl,rfl⟩
theorem dfd_fault{H:AHeap}{a b c e:Nat}{x y z:AVal}(ha:Row H a [x])(hb:Row H b [y])(hc:Row H c [z])(hab:a≠b)(hac:a≠c)(hbc:b≠c):ACalls Tryz.prog natT 2136 [cellR a 1 0,cellR b 1 0,cellR c 1 0,.iface 149 (.int .i64 (e:Int))] H fun _ H'=>Row H' a [nilS]∧Row H' b [.int .i64 0]∧Row H' c [.int .i64 (e:Int)]∧H'.next=H.next∧∀k,k≠a→k≠b→k≠c→H'.get k=H.get k:=by
 refine acalls_ofE rfl za2136 rfl ?_
 have ta:aPf (.tAss 149 true (.int .i64 0)) [.iface 149 (.int .i64 (e:Int))]=some (.tuple [.int .i64 (e:Int),.bool true]):=_root_.id rfl
 obtain⟨H1,m1,r1,n1,o1⟩:=row_st ha (n:=1) rfl (i:=0) om (x:=.slice none 0 (.known 0)) rfl (l':=[nilS]) rfl
 obtain⟨H2,m2,r2,n2,o2⟩:=row_st (hb.same (o1 b (Ne.symm hab))) (n:=1) rfl (i:=0) om (x:=.int .i64 0) rfl (l':=[.int .i64 0]) rfl
 obtain⟨H3,m3,r3,n3,o3⟩:=row_st (hc.same (by rw[o2 c (Ne.symm hbc),o1 c (Ne.symm hac)])) (n:=1) rfl (i:=0) om (x:=.int .i64 (e:Int)) rfl (l':=[.int .i64 (e:Int)]) rfl
 simp only[c2136,sA,sB,seval,ta,ext_0,ext_1,m1,m2,m3]
 exact⟨[],rfl,r1.same (by rw[o3 a hac,o2 a hab]),r2.same (o3 b hbc),r3,om,fun k h1 h2 h3=>by rw[o3 k h3,o2 k h2,o1 k h1]⟩
def blocksM(S:List Bool)(most F:Nat):Nat→Bs→Nat→SR Bs
 | 0,_,_=>.unk
 | f+1,o,p=>(blockM S most F o p).bind fun x q=>if x.2 then blocksM S most F f x.1 q else .ok x.1 q
theorem pf_unP0:aPf .unP [.tuple []]=some .nilIface:=_root_.id rfl
theorem pf_unPf(x:AVal):aPf .unP [panV x]=some x:=_root_.id rfl
theorem pf_isF(x y z:AVal):aPf (.isF 88 3) [.func (.func 88) [] [x,y,z]]=some (.bool true):=_root_.id rfl
theorem pf_capt0(f:Fn)(x y z:AVal):aPf (.capt 0) [.func f [] [x,y,z]]=some x:=_root_.id rfl
theorem pf_capt1(f:Fn)(x y z:AVal):aPf (.capt 1) [.func f [] [x,y,z]]=some y:=_root_.id rfl
theorem pf_capt2(f:Fn)(x y z:AVal):aPf (.capt 2) [.func f [] [x,y,z]]=some z:=_root_.id rfl
theorem pf_dset(f:Nat)(a b:List AVal):aPf .dset [.tuple [],.func (.func f) a b]=some (.func (.func f) a b):=_root_.id rfl
theorem pf_tup3(x y z:AVal):aPf .tup [x,y,z]=some (.tuple [x,y,z]):=_root_.id rfl
theorem isU_func(f:Fn)(a b:List AVal):isU (.func f a b)=false:=_root_.id rfl
theorem isPan_bool(b:Bool):isPan (.bool b)=false:=_root_.id rfl
theorem blocks_ro{κ:Nat→Nat}{H:AHeap}{r i:Nat}{bv out:AVal}{d:Bs}{p F G:Nat}{o:Bs}{most:Nat}{near far:AVal}(R:RO κ H r i bv out d p o most near far)(N:NF κ H near far)(hd:d.length≤1000000)(hm:most≤100000)(ho:o.length≤100000)(hu:blocksM (bitsB d) most F G o p≠.unk) :
  ACalls Tryz.prog natT 69 [cellR r 5 0] H fun w H'=>H.next≤H'.next∧(∀c,c<H.next→¬rS (κ c)→H'.get c=H.get c)∧((∃out2 o2 q,blocksM (bitsB d) most F G o p=.ok o2 q∧w=.tuple [out2,.int .i64 (((q+7) / 8:Nat):Int),.int .i64 0]∧AppN 1 0 H' out2 (byts o2) o2.length∧Blk out2 fun b=>H.next≤b∨κ b=4)∨∃e,blocksM (bitsB d) most F G o p=.bad e∧w=.tuple [nilS,.int .i64 0,.int .i64 (e:Int)]):=by
 refine acalls_ofE rfl za69 rfl ?_
 obtain⟨H1,m1,r1,n1,o1⟩:=row_new1 H (.slice none 0 (.known 0))
 obtain⟨H2,m2,r2,n2,o2⟩:=row_new1 H1 (.int .i64 0)
 obtain⟨H3,m3,r3,n3,o3⟩:=row_new1 H2 (.int .i64 0)
 obtain⟨a,ha⟩:∃a,a=H.next:=⟨_,rfl⟩
 obtain⟨b,hb⟩:∃b,b=H1.next:=⟨_,rfl⟩
 obtain⟨c,hc⟩:∃c,c=H2.next:=⟨_,rfl⟩
 rw[← ha]at m1 r1 o1
 rw[← hb]at m2 r2 o2
 rw[← hc]at m3 r3 o3
 have E3:Ext H.next H H3:=⟨om,fun x hx=>by rw[o3 x om,o2 x om,o1 x om]⟩
 have R3:=R.ext E3 6
 have F3:FrS rS κ H (upT κ H H3 6) H3:=FrS.up E3 6
 have N3:=N.fr F3 rS5
 have g20:argE [cellR r 5 0] 20=.tuple []:=rfl
 have g19:argE [cellR r 5 0] 19=.tuple []:=rfl
 have ka:upT κ H H3 6 a=6:=upT_new om om
 have kb:upT κ H H3 6 b=6:=upT_new om om
 have kc:upT κ H H3 6 c=6:=upT_new om om
 have s6:¬rS 6:=by unfold rS; omega
 have a3:Row H3 a [.slice none 0 (.known 0)]:=r1.same (by rw[o3 a om,o2 a om])
 have b3:Row H3 b [.int .i64 0]:=r2.same (o3 b om)
 generalize hκ:upT κ H H3 6=κ3 at *
 have hout:Blk out fun x=>H.next≤x∨κ x=4:=R.ko.mono fun x hx=>.inr hx.1
 simp only[c69,sA,sB,seval,m1,m2,m3,g20,pf_dset]
 refine aw_loop (fun m (T:Env) H'=>∃κ2 out2 o2 q near2 far2,T 0=cellR r 5 0∧T 2=cellR a 1 0∧T 3=cellR b 1 0∧T 4=cellR c 1 0∧T 19=.tuple []∧T 20=.func (.func 88) [] [cellR a 1 0,cellR b 1 0,cellR c 1 0]∧o2.length≤100000∧blocksM (bitsB d) most F m o2 q=blocksM (bitsB d) most F G o p∧FrS rS κ3 H3 κ2 H'∧RO κ2 H' r i bv out2 d q o2 most near2 far2∧NF κ2 H' near2 far2) G
  ⟨κ3,out,o,p,near,far,by simp only[sA,sB,seval],by simp only[sA,sB,seval],by simp only[sA,sB,seval],by simp only[sA,sB,seval],by simp only[sA,sB,seval]; exact g19,by simp only[sA,sB,seval],ho,rfl,FrS.refl _ _ _,R3,N3⟩ ?_
 rintro m T H4 ⟨κ4,out4,p4,q4,near4,far4,g0,g2,g3,g4,g19,g20,hol,hM,F4,R4,N4⟩
 cases m with
 | zero=>exact absurd hM.symm hu
 | succ m=>
 have hM':=hM
 rw[← hM]at hu
 have hbu:blockM (bitsB d) most F p4 q4≠.unk:=fun e=>hu (by simp only[blocksM,e,SR.bind])
 have fn:=F4.1
 have cells:∀{κ5:Nat→Nat} {H5:AHeap},FrS rS κ3 H3 κ5 H5→Row H5 a [.slice none 0 (.known 0)]∧Row H5 b [.int .i64 0]∧Row H5 c [.int .i64 0]:=fun f=>
  ⟨a3.same ((f.2 a om).2 (by rw[ka]; exact s6)),b3.same ((f.2 b om).2 (by rw[kb]; exact s6)),r3.same ((f.2 c om).2 (by rw[kc]; exact s6))⟩
 have old:∀{κ5:Nat→Nat} {H5:AHeap},FrS rS κ3 H3 κ5 H5→∀x,x<H.next→¬rS (κ x)→H5.get x=H.get x:=fun f x hx hs=>by
  have e1:=F3.2 x hx
  rw[(f.2 x om).2 (by rw[e1.1]; exact hs),e1.2 hs]
 simp only[sA,sB,seval,g0]
 refine (block7_ro R4 N4 hd hm hol hbu).mono ?_
 rintro _ H5 ⟨κ5,F5,⟨out5,p5,bb,q5,near5,far5,e5,rfl,hol5,R5,N5⟩ | ⟨e,e5,rfl⟩⟩
 ·have hS:blocksM (bitsB d) most F (m+1) p4 q4=if bb then blocksM (bitsB d) most F m p5 q5 else .ok p5 q5:=by
   simp only[blocksM,e5,SR.bind]
  have F45:=F4.trans F5
  cases bb with
  | true=>
   simp only[sA,sB,seval,pf_isP,isPan_bool,g0]
   exact⟨m,om,κ5,out5,p5,q5,near5,far5,tt,tt,tt,tt,tt,tt,hol5,by rw[← hM',hS]; rfl,F45,R5,N5⟩
  | false=>
   have hS':blocksM (bitsB d) most F G o p=.ok p5 q5:=by rw[← hM',hS]; rfl
   obtain⟨ra,rb,rc⟩:=cells F45
   have l0:oLoad false 1 H5 (cellR r 5 0)=some (cellR i 3 0):=row_load R5.row rfl rfl
   have l1:oLoad false 1 H5 (cellR r 5 1)=some out5:=row_load R5.row rfl rfl
   have hq:=R5.rd.le
   have wq:IntKind.i64.wrap ((q5:Int)+7)=((q5+7:Nat):Int):=wrapN q5 7 om
   have qd:aBin .quo (.int .i64 ((q5+7:Nat):Int)) (.int .i64 8)=some (.int .i64 (((q5+7) / 8:Nat):Int)):=quo64 (q5+7) 8 om om
   obtain⟨H6,m6,r6,n6,o6⟩:=row_st ra (n:=1) rfl (i:=0) om (x:=out5) (app_one R5.ap) (l':=[out5]) rfl
   obtain⟨H7,m7,r7,n7,o7⟩:=row_st (rb.same (o6 b om)) (n:=1) rfl (i:=0) om (x:=.int .i64 (((q5+7) / 8:Nat):Int)) rfl (l':=[.int .i64 (((q5+7) / 8:Nat):Int)]) rfl
   obtain⟨H8,m8,r8,n8,o8⟩:=row_st (rc.same (by rw[o7 c om,o6 c om])) (n:=1) rfl (i:=0) om (x:=.int .i64 0) rfl (l':=[.int .i64 0]) rfl
   have la:oLoad false 1 H8 (cellR a 1 0)=some out5:=row_load (r6.same (by rw[o8 a om,o7 a om])) rfl rfl
   have lb:oLoad false 1 H8 (cellR b 1 0)=some (.int .i64 (((q5+7) / 8:Nat):Int)):=row_load (r7.same (o8 b om)) rfl rfl
   have lc:oLoad false 1 H8 (cellR c 1 0)=some (.int .i64 0):=row_load r8 rfl rfl
   simp only[sA,sB,seval,pf_isP,isPan_bool,g0]
   refine aw_drawC rfl ?_
   simp only[sR,sA,sB,seval,g0,g2,g3,g4,nil_cell,fldA,fld0,l0,l1]
   refine (at_spec R5.rd).mono ?_
   rintro _ _ ⟨rfl,rfl⟩
   simp only[sR,sA,sB,seval,g0,g2,g3,g4,wq,qd,m6,m7,m8]
   simp only[ck_nil',ck_cons,ckP_load,ckP_nil,ck_end,and_true,true_and,List.map_cons,List.map_nil,sA,sB,seval,g0,fldA,fld0]
   refine⟨⟨_,rfl,fun _=>⟨_,l1,app_aeq R5.ap⟩⟩,?_⟩
   simp only[sA,sB,seval,g2,g3,g4,g19,g20,pf_isU,isU_func,pf_unP0,pf_isF,pf_capt0,pf_capt1,pf_capt2]
   refine dfd_ok.mono ?_
   rintro _ _ rfl
   simp only[sA,sB,seval,g2,g3,g4,la,lb,lc,pf_tup3]
   have f5:=F45.1
   have hblk:Blk out5 fun x=>(κ5 x=4∧x<H5.next):=R5.ko
   have hne:∀x,κ5 x=4→x<H5.next→x≠a∧x≠b∧x≠c:=fun x hx hl=>by
    have h1:=(F45.2 a om).1
    have h2:=(F45.2 b om).1
    have h3:=(F45.2 c om).1
    refine⟨?_,?_,?_⟩ <;> (rintro rfl; omega)
   refine⟨om,fun x hx hs=>by rw[o8 x om,o7 x om,o6 x om]; exact old F45 x hx hs,.inl ⟨out5,p5,q5,hS',tt,?_,hblk.mono fun x hx=>?_⟩⟩
   ·have A8:=R5.ap.same (H':=H8) om (hblk.mono fun x hx=>by
     obtain⟨h1,h2,h3⟩:=hne x hx.1 hx.2
     rw[o8 x h3,o7 x h2,o6 x h1])
    exact A8
   ·by_cases hx2:x<H.next
    ·right
     have e1:=(F3.2 x hx2).1
     have e2:=(F45.2 x om).1
     omega
    ·left; omega
 ·have hS':blocksM (bitsB d) most F G o p=.bad e:=by rw[← hM']; simp only[blocksM,e5,SR.bind]
  have F45:=F4.trans F5
  obtain⟨ra,rb,rc⟩:=cells F45
  have f5:=F45.1
  simp only[sA,sB,seval,fault,pf_isP,isPan_pan,g2,g3,g4,g19,g20,pf_isU,isU_func,isU_pan,pf_unPf,pf_isF,pf_capt0,pf_capt1,pf_capt2]
  refine (dfd_fault ra rb rc om om om).mono ?_
  rintro _ H6 ⟨qa,qb,qc,n6,o6⟩
  have la:oLoad false 1 H6 (cellR a 1 0)=some nilS:=row_load qa rfl rfl
  have lb:oLoad false 1 H6 (cellR b 1 0)=some (.int .i64 0):=row_load qb rfl rfl
  have lc:oLoad false 1 H6 (cellR c 1 0)=some (.int .i64 (e:Int)):=row_load qc rfl rfl
  simp only[sA,sB,seval,g2,g3,g4,la,lb,lc,pf_tup3]
  exact⟨om,fun x hx hs=>by rw[o6 x om om om]; exact old F45 x hx hs,.inr ⟨e,hS',tt⟩⟩
theorem inflate_spec{n:Nat}{H:AHeap}{v:AVal}{d:Bs}{most F G:Nat}(hv:Cel n H v (byts d))(hd:d.length≤1000000)(hm:most≤100000)(hu:blocksM (bitsB d) most F G [] 0≠.unk) :
  ACalls Tryz.prog natT 51 [v,.int .i64 (most:Int)] H fun w H'=>Ext H.next H H'∧((∃out o q,blocksM (bitsB d) most F G [] 0=.ok o q∧w=.tuple [out,.int .i64 (((q+7) / 8:Nat):Int),.int .i64 0]∧AppN 1 0 H' out (byts o) o.length)∨∃e,blocksM (bitsB d) most F G [] 0=.bad e∧w=.tuple [nilS,.int .i64 0,.int .i64 (e:Int)]):=by
 refine acalls_ofN rfl za51 rfl ?_
 simp only[c51,sA,sB,seval]
 refine (rdnew_spec hv hd).mono ?_
 rintro _ H1 ⟨i,bv,rfl,D1,hi,hb,E1⟩
 have e1:=E1.next
 have hil:=D1.lt
 obtain⟨r,hr⟩:∃r,r=H1.next:=⟨_,rfl⟩
 obtain⟨H2,m2,r2,n2,o2⟩:=row_newL H1 [.ptr none,.slice none 0 (.known 0),.int .i64 0,.ptr none,.ptr none] (n:=5) rfl
 rw[← hr]at m2 r2 o2
 have bd:aBuild [.ptr none,.slice none 0 (.known 0),.int .i64 0,.ptr none,.ptr none] [(0,1,cellR i 3 0),(2,1,.int .i64 (most:Int))]=some (.agg (rC i nilS most (.ptr none) (.ptr none))):=_root_.id rfl
 obtain⟨H3,m3,r3,n3,o3⟩:=row_storeN r2 (n:=5) rfl (xs:=rC i nilS most (.ptr none) (.ptr none)) rfl rfl
 have D3:RD H3 i bv d 0:=D1.same om (by rw[o3 i om,o2 i om]) ((cel_blk D1.cel).mono fun c hc=>by rw[o3 c om,o2 c om])
 have R3:RO (fun c=>if c=r then 1 else if c=i then 2 else if H.next≤c∧c<H1.next then 3 else 0) H3 r i bv nilS d 0 [] most (.ptr none) (.ptr none):=by
  refine⟨r3,D3,AppN.nil _ _ _,⟨if_pos rfl,om⟩,⟨by rw[if_neg om,if_pos rfl],om⟩,((hb.and D1.ne).and (cel_blk D1.cel)).mono fun c hc=>⟨by rw[if_neg om,if_neg hc.1.2,if_pos ⟨hc.1.1,hc.2⟩],om⟩,blk_nil _,fun c hc=>by rw[if_neg om,if_neg om,if_neg om]⟩
 simp only[sA,sB,seval,m2,bd,m3]
 refine (blocks_ro R3 (.inl rfl) hd hm (Nat.zero_le _) hu).mono ?_
 rintro _ H4 ⟨n4,o4,h4⟩
 have E4:Ext H.next H H4:=⟨om,fun c hc=>by
  rw[o4 c om (by rw[if_neg om,if_neg om,if_neg om]; exact rS0),o3 c om,o2 c om]
  exact E1.old c hc⟩
 rcases h4 with⟨out,o,q,hM,rfl,hC,-⟩ | ⟨e,hM,rfl⟩
 ·simp only[sA,sB,seval,ext_0,ext_1,ext_2]
  exact⟨E4,.inl ⟨out,o,q,hM,tt,hC⟩⟩
 ·simp only[sA,sB,seval,ext_0,ext_1,ext_2]
  exact⟨E4,.inr ⟨e,hM,tt⟩⟩
def Loc{α:Type}(g:List Bool→SR α)(S:List Bool)(p q:Nat)(a:α):Prop:=p≤q∧∀n,(q≤n→g (S.take n)=.ok a q)∧(p≤n→n<q→g (S.take n)=.bad 12)
theorem Loc.bind{α β:Type}{g:List Bool→SR α}{h:List Bool→α→Nat→SR β}{S:List Bool}{p q q':Nat}{a:α}{b:β}(h1:Loc g S p q a)(h2:Loc (fun S=>h S a q) S q q' b):Loc (fun S=>(g S).bind (h S)) S p q' b:=by
 obtain⟨k1,k2⟩:=h1
 obtain⟨k3,k4⟩:=h2
 refine⟨Nat.le_trans k1 k3,fun n=>⟨fun hn=>?_,fun hp hn=>?_⟩⟩
 ·show (g (S.take n)).bind (h (S.take n))=_
  rw[(k2 n).1 om]
  exact (k4 n).1 hn
 ·show (g (S.take n)).bind (h (S.take n))=_
  by_cases hq:n<q
  ·rw[(k2 n).2 hp hq]; rfl
  ·rw[(k2 n).1 om]
   exact (k4 n).2 om hn
theorem Loc.pure{α:Type}(S:List Bool)(p:Nat)(a:α):Loc (fun _=>.ok a p) S p p a:=⟨Nat.le_refl _,fun _=>⟨fun _=>rfl,fun h1 h2=>om⟩⟩
theorem Loc.congr{α:Type}{g g':List Bool→SR α}{S:List Bool}{p q:Nat}{a:α}(h:Loc g S p q a)(e:∀T,g' T=g T):Loc g' S p q a:=⟨h.1,fun n=>by rw[e]; exact h.2 n⟩
theorem getM_loc{k:Nat}{S:List Bool}{p0 p v q:Nat}(h:getM k S p=.ok v q)(h0:p0≤p):q=p+k∧Loc (fun S=>getM k S p) S p0 q v:=by
 unfold getM at h
 split at h
 ·rename_i hl
  injection h with h1 h2
  subst h2
  refine⟨rfl,om,fun n=>⟨fun hn=>?_,fun _ hn=>?_⟩⟩
  ·show (if p+k≤(S.take n).length then SR.ok (natOf (((S.take n).drop p).take k)) (p+k) else .bad 12)=_
   rw[if_pos (by rw[List.length_take]; omega),List.drop_take,List.take_take,Nat.min_eq_left om,h1]
  ·show (if p+k≤(S.take n).length then SR.ok (natOf (((S.take n).drop p).take k)) (p+k) else .bad 12)=_
   rw[if_neg (by rw[List.length_take]; omega)]
 ·cases h
theorem symM_loc{cnt syms:List Nat}{S:List Bool}:∀(f long code first at_ p s q:Nat),symM cnt syms S f long code first at_ p=.ok s q→Loc (fun S=>symM cnt syms S f long code first at_ p) S p q s∧p<q
 | 0,_,_,_,_,_,_,_,h=>by cases h
 | f+1,long,code,first,at_,p,s,q,h=>by
  unfold symM at h
  cases hc:S[p]? with
  | none=>rw[hc]at h; cases h
  | some c=>
   rw[hc]at h
   simp only at h
   have hpl:=(List.getElem?_eq_some_iff.1 hc).1
   have e1:∀n,p<n→(S.take n)[p]?=some c:=fun n hn=>by rw[List.getElem?_take_of_lt hn]; exact hc
   have e2:∀n,n≤p→(S.take n)[p]?=none:=fun n hn=>List.getElem?_eq_none (by rw[List.length_take]; omega)
   have short:∀n,p≤n→n<p+1→symM cnt syms (S.take n) (f+1) long code first at_ p=.bad 12:=fun n h1 h2=>by
    unfold symM; rw[e2 n om]
   obtain⟨cc,hcc⟩:∃x,x=2*code+(if c then 1 else 0):=⟨_,rfl⟩
   rw[← hcc]at h
   by_cases c1:cc<2*first
   ·rw[if_pos c1]at h; cases h
   rw[if_neg c1]at h
   by_cases c2:cc-2*first<cnt.getD long 0
   ·rw[if_pos c2]at h
    cases hs:syms[at_+(cc-2*first)]? with
    | none=>rw[hs]at h; cases h
    | some sy=>
     rw[hs]at h
     injection h with h1 h2
     subst h2 h1
     refine⟨⟨om,fun n=>⟨fun hn=>?_,fun h1 h2=>short n h1 h2⟩⟩,om⟩
     show symM cnt syms (S.take n) (f+1) long code first at_ p=_
     unfold symM
     rw[e1 n om]
     simp only
     rw[← hcc,if_neg c1,if_pos c2,hs]
   ·rw[if_neg c2]at h
    obtain⟨⟨k1,k2⟩,k3⟩:=symM_loc f _ _ _ _ _ _ _ h
    have step:∀n,p<n→symM cnt syms (S.take n) (f+1) long code first at_ p=symM cnt syms (S.take n) f (long+1) cc (2*first+cnt.getD long 0) (at_+cnt.getD long 0) (p+1):=fun n hn=>by
     rw[symM,e1 n hn]
     simp only
     rw[← hcc,if_neg c1,if_neg c2]
    refine⟨⟨om,fun n=>⟨fun hn=>?_,fun h1 h2=>?_⟩⟩,om⟩
    ·show symM cnt syms (S.take n) (f+1) long code first at_ p=_
     rw[step n om]; exact (k2 n).1 hn
    ·show symM cnt syms (S.take n) (f+1) long code first at_ p=_
     by_cases hn:n≤p
     ·exact short n h1 om
     ·rw[step n om]; exact (k2 n).2 om h2
theorem spanM_loc{sp gr:Nat}{S:List Bool}{p s q:Nat}(h:spanM sp gr S p=.ok s q):Loc (fun S=>spanM sp gr S p) S p q s:=by
 unfold spanM at h
 by_cases hs:sp<gr
 ·rw[if_pos hs]at h
  injection h with h1 h2
  subst h1 h2
  exact (Loc.pure S p sp).congr fun T=>by unfold spanM; rw[if_pos hs]
 ·rw[if_neg hs]at h
  split at h
  ·rename_i hl
   injection h with h1 h2
   subst h2
   obtain⟨e,he⟩:∃e,e=sp / gr-1:=⟨_,rfl⟩
   rw[← he]at hl h1 ⊢
   refine⟨om,fun n=>⟨fun hn=>?_,fun _ hn=>?_⟩⟩
   ·show spanM sp gr (S.take n) p=_
    unfold spanM
    rw[if_neg hs,← he,if_pos (by rw[List.length_take]; omega),List.drop_take,List.take_take,Nat.min_eq_left om,h1]
   ·show spanM sp gr (S.take n) p=_
    unfold spanM
    rw[if_neg hs,← he,if_neg (by rw[List.length_take]; omega)]
  ·cases h
theorem lenM_loc{sp:Nat}{S:List Bool}{p s q:Nat}(h:lenM sp S p=.ok s q):Loc (fun S=>lenM sp S p) S p q s:=by
 unfold lenM at h
 split at h
 ·rename_i hs
  obtain⟨a,q1,e1,e2⟩:=SR.bind_ok h
  injection e2 with e3 e4
  subst e3 e4
  exact ((spanM_loc e1).bind (h:=fun _ s q=>.ok (3+s) q) (Loc.pure S q1 (3+a))).congr fun T=>by unfold lenM; rw[if_pos hs]
 ·rename_i hs
  injection h with h1 h2
  subst h1 h2
  exact (Loc.pure S p 258).congr fun T=>by unfold lenM; rw[if_neg hs]
theorem matchR_loc{S:List Bool}{most long:Nat}{o o2:Bs}{p q:Nat}(h:matchR S most long o p=.ok o2 q):Loc (fun S=>matchR S most long o p) S p q o2:=by
 obtain⟨s,a,k,e1,hs,e2,hk,hm,rfl⟩:=matchR_ok h
 have L1:Loc (fun S=>farM S p) S p a s:=(symM_loc _ _ _ _ _ _ _ _ e1).1
 have L2:=(spanM_loc e2).bind (h:=fun _ k q3=>if o.length<1+k then .bad 10 else if most<o.length+long then .bad 3 else .ok (copyB (1+k) long o) q3) (b:=copyB (1+k) long o) (q':=q) ((Loc.pure S q (copyB (1+k) long o)).congr fun T=>by
  show (if o.length<1+k then SR.bad 10 else if most<o.length+long then SR.bad 3 else SR.ok (copyB (1+k) long o) q)=_
  rw[if_neg om,if_neg om])
 exact L1.bind (h:=fun S s q2=>if 30≤s then .bad 10 else (spanM s 2 S q2).bind fun k q3=>if o.length<1+k then .bad 10 else if most<o.length+long then .bad 3 else .ok (copyB (1+k) long o) q3) (L2.congr fun T=>by
  show (if 30≤s then SR.bad 10 else _)=_
  rw[if_neg om])
theorem matchM_loc{S:List Bool}{most sp:Nat}{o o2:Bs}{p q:Nat}(h:matchM S most sp o p=.ok o2 q):Loc (fun S=>matchM S most sp o p) S p q o2:=by
 obtain⟨long,a,e1,e2⟩:=matchM_ok h
 exact (lenM_loc e1).bind (h:=fun S long q=>matchR S most long o q) (matchR_loc e2)
theorem symsM_loc{S:List Bool}{most:Nat}:∀(f:Nat) (o o2:Bs) (p q:Nat),symsM S most f o p=.ok o2 q→Loc (fun S=>symsM S most f o p) S p q o2
 | 0,_,_,_,_,h=>by cases h
 | f+1,o,o2,p,q,h=>by
  unfold symsM at h
  obtain⟨s,a,e1,h⟩:=SR.bind_ok h
  have L1:Loc (fun S=>nearM S p) S p a s:=(symM_loc _ _ _ _ _ _ _ _ e1).1
  refine L1.bind (h:=fun S s q=>if s<256 then (if most<o.length+1 then .bad 3 else symsM S most f (o++[UInt8.ofNat s]) q) else if s=256 then .ok o q else if s<286 then (matchM S most (s-257) o q).bind fun o2 q2=>symsM S most f o2 q2 else .bad 10) ?_
  by_cases h1:s<256
  ·rw[if_pos h1]at h
   split at h
   ·cases h
   rename_i hr
   exact (symsM_loc f _ _ _ _ h).congr fun T=>by simp only[if_pos h1,if_neg hr]
  ·rw[if_neg h1]at h
   by_cases h2:s=256
   ·rw[if_pos h2]at h
    injection h with k1 k2
    subst k1 k2
    exact (Loc.pure S a o).congr fun T=>by simp only[if_neg h1,if_pos h2]
   ·rw[if_neg h2]at h
    by_cases h3:s<286
    ·rw[if_pos h3]at h
     obtain⟨o3,q3,e3,e4⟩:=SR.bind_ok h
     exact ((matchM_loc e3).bind (h:=fun S o2 q2=>symsM S most f o2 q2) (symsM_loc f _ _ _ _ e4)).congr fun T=>by simp only[if_neg h1,if_neg h2,if_pos h3]
    ·rw[if_neg h3]at h; cases h
theorem bytesM_loc{S:List Bool}:∀(n:Nat) (o o2:Bs) (p q:Nat),bytesM S n o p=.ok o2 q→Loc (fun S=>bytesM S n o p) S p q o2∧o2.length=o.length+n
 | 0,o,o2,p,q,h=>by
  injection h with k1 k2
  subst k1 k2
  exact⟨Loc.pure S p o,rfl⟩
 | n+1,o,o2,p,q,h=>by
  unfold bytesM at h
  obtain⟨x,a,e1,h⟩:=SR.bind_ok h
  obtain⟨L,hl⟩:=bytesM_loc n _ _ _ _ h
  exact⟨(getM_loc e1 (Nat.le_refl p)).2.bind (h:=fun S x q'=>bytesM S n (o++[UInt8.ofNat x]) q') L,by rw[hl,lA]; simp; omega⟩
theorem storedM_ok{S:List Bool}{most:Nat}{o o2:Bs}{p q:Nat}(h:storedM S most o p=.ok o2 q):∃n a m c,getM 16 S (p+fillN p)=.ok n a∧getM 16 S a=.ok m c∧m=65535-n∧o.length+n≤most∧bytesM S n o c=.ok o2 q:=by
 unfold storedM at h
 obtain⟨n,a,e1,h⟩:=SR.bind_ok h
 obtain⟨m,c,e2,h⟩:=SR.bind_ok h
 split at h
 ·cases h
 rename_i hm
 split at h
 ·cases h
 exact⟨n,a,m,c,e1,e2,om,om,h⟩
theorem blockM_ok{S:List Bool}{most F:Nat}{o o2:Bs}{b:Bool}{p q:Nat}(h:blockM S most F o p=.ok (o2,b) q):∃last a k c,getM 1 S p=.ok last a∧getM 2 S a=.ok k c∧b=(last==0)∧((k=0∧storedM S most o c=.ok o2 q)∨(k=1∧symsM S most F o c=.ok o2 q)):=by
 unfold blockM at h
 obtain⟨last,a,e1,h⟩:=SR.bind_ok h
 obtain⟨k,c,e2,h⟩:=SR.bind_ok h
 by_cases h0:k=0
 ·rw[if_pos h0]at h
  obtain⟨o3,q3,e3,h⟩:=SR.bind_ok h
  injection h with k1 k2
  injection k1 with k3 k4
  subst k2 k3 k4
  exact⟨last,a,k,c,e1,e2,rfl,.inl ⟨h0,e3⟩⟩
 ·rw[if_neg h0]at h
  by_cases h1:k=1
  ·rw[if_pos h1]at h
   obtain⟨o3,q3,e3,h⟩:=SR.bind_ok h
   injection h with k1 k2
   injection k1 with k3 k4
   subst k2 k3 k4
   exact⟨last,a,k,c,e1,e2,rfl,.inr ⟨h1,e3⟩⟩
  ·rw[if_neg h1]at h
   split at h <;> cases h
def Less(x x':SR Bs)(m:Nat):Prop:=∀o q,x=.ok o q→if o.length≤m then x'=.ok o q else x'=.bad 3
theorem matchR_less{S:List Bool}{most long m:Nat}{o:Bs}{p:Nat}:Less (matchR S most long o p) (matchR S m long o p) m∧∀o2 q,matchR S most long o p=.ok o2 q→o.length≤o2.length:=by
 refine⟨fun o2 q h=>?_,fun o2 q h=>?_⟩
 ·obtain⟨s,a,k,e1,hs,e2,hk,hm,rfl⟩:=matchR_ok h
  rw[copyB_len]
  have:matchR S m long o p=if m<o.length+long then .bad 3 else .ok (copyB (1+k) long o) q:=by
   unfold matchR; rw[e1]; simp only[SR.bind]; rw[if_neg om,e2]; simp only; rw[if_neg om]
  rw[this]
  split
  ·rw[if_neg om]
  ·rw[if_pos om]
 ·obtain⟨s,a,k,e1,hs,e2,hk,hm,rfl⟩:=matchR_ok h
  rw[copyB_len]; omega
theorem matchM_less{S:List Bool}{most sp m:Nat}{o:Bs}{p:Nat}:Less (matchM S most sp o p) (matchM S m sp o p) m∧∀o2 q,matchM S most sp o p=.ok o2 q→o.length≤o2.length:=by
 refine⟨fun o2 q h=>?_,fun o2 q h=>?_⟩
 ·obtain⟨long,a,e1,e2⟩:=matchM_ok h
  have:matchM S m sp o p=matchR S m long o a:=by unfold matchM; rw[e1]; rfl
  rw[this]
  exact matchR_less.1 o2 q e2
 ·obtain⟨long,a,e1,e2⟩:=matchM_ok h
  exact (matchR_less (m:=0)).2 o2 q e2
theorem symsM_grow{S:List Bool}{most:Nat}:∀(f:Nat) (o o2:Bs) (p q:Nat),symsM S most f o p=.ok o2 q→o.length≤o2.length
 | 0,_,_,_,_,h=>by cases h
 | f+1,o,o2,p,q,h=>by
  unfold symsM at h
  obtain⟨s,a,e1,h⟩:=SR.bind_ok h
  by_cases h1:s<256
  ·rw[if_pos h1]at h
   split at h
   ·cases h
   have:=symsM_grow f _ _ _ _ h
   rw[lA]at this
   omega
  ·rw[if_neg h1]at h
   by_cases h2:s=256
   ·rw[if_pos h2]at h
    injection h with k1 k2
    subst k1; exact Nat.le_refl _
   ·rw[if_neg h2]at h
    by_cases h3:s<286
    ·rw[if_pos h3]at h
     obtain⟨o3,q3,e3,e4⟩:=SR.bind_ok h
     exact Nat.le_trans ((matchM_less (m:=0)).2 _ _ e3) (symsM_grow f _ _ _ _ e4)
    ·rw[if_neg h3]at h; cases h
theorem symsM_less{S:List Bool}{most m:Nat}:∀(f:Nat) (o:Bs) (p:Nat),o.length≤m→Less (symsM S most f o p) (symsM S m f o p) m
 | 0,_,_,_=>fun _ _ h=>by cases h
 | f+1,o,p,hm=>fun o2 q h=>by
  unfold symsM at h ⊢
  obtain⟨s,a,e1,h⟩:=SR.bind_ok h
  rw[e1]
  simp only[SR.bind]
  by_cases h1:s<256
  ·rw[if_pos h1]at h ⊢
   split at h
   ·cases h
   have hg:=symsM_grow f _ _ _ _ h
   rw[lA]at hg
   simp only[List.length_cons,List.length_nil]at hg
   by_cases h2:m<o.length+1
   ·rw[if_pos h2,if_neg om]
   ·rw[if_neg h2]
    exact symsM_less f _ _ (by rw[lA]; simp; omega) _ _ h
  ·rw[if_neg h1]at h ⊢
   by_cases h2:s=256
   ·rw[if_pos h2]at h ⊢
    injection h with k1 k2
    subst k1 k2
    rw[if_pos hm]
   ·rw[if_neg h2]at h ⊢
    by_cases h3:s<286
    ·rw[if_pos h3]at h ⊢
     obtain⟨o3,q3,e3,e4⟩:=SR.bind_ok h
     have hg:=symsM_grow f _ _ _ _ e4
     have hl:=(matchM_less (m:=m)).1 o3 q3 e3
     by_cases h4:o3.length≤m
     ·rw[if_pos h4]at hl
      rw[hl]
      exact symsM_less f _ _ h4 _ _ e4
     ·rw[if_neg h4]at hl
      rw[hl,if_neg om]
    ·rw[if_neg h3]at h; cases h
theorem storedM_less{S:List Bool}{most m:Nat}{o:Bs}{p:Nat}:Less (storedM S most o p) (storedM S m o p) m∧∀o2 q,storedM S most o p=.ok o2 q→o.length≤o2.length:=by
 refine⟨fun o2 q h=>?_,fun o2 q h=>?_⟩
 ·obtain⟨n,a,m2,c,e1,e2,e3,e4,e5⟩:=storedM_ok h
  have hl:=(bytesM_loc n o o2 c q e5).2
  have:storedM S m o p=if m<o.length+n then .bad 3 else .ok o2 q:=by
   unfold storedM; rw[e1]; simp only[SR.bind]; rw[e2]; simp only; rw[if_neg om,e5]
  rw[this,hl]
  split
  ·rw[if_neg om]
  ·rw[if_pos om]
 ·obtain⟨n,a,m2,c,e1,e2,e3,e4,e5⟩:=storedM_ok h
  have hl:=(bytesM_loc n o o2 c q e5).2
  omega
theorem blockM_less{S:List Bool}{most F m:Nat}{o o2:Bs}{b:Bool}{p q:Nat}(hm:o.length≤m)(h:blockM S most F o p=.ok (o2,b) q):o.length≤o2.length∧if o2.length≤m then blockM S m F o p=.ok (o2,b) q else blockM S m F o p=.bad 3:=by
 obtain⟨last,a,k,c,e1,e2,e3,e4⟩:=blockM_ok h
 subst e3
 rcases e4 with⟨rfl,e4⟩ | ⟨rfl,e4⟩
 ·have:blockM S m F o p=(storedM S m o c).bind fun o2 q3=>.ok (o2,last==0) q3:=by
   unfold blockM; rw[e1]; simp only[SR.bind]; rw[e2]; simp only; rw[if_pos trivial]
  rw[this]
  have hl:=(storedM_less (m:=m)).1 o2 q e4
  refine⟨(storedM_less (m:=0)).2 _ _ e4,?_⟩
  split at hl
  ·rename_i h1; rw[if_pos h1,hl]; rfl
  ·rename_i h1; rw[if_neg h1,hl]; rfl
 ·have:blockM S m F o p=(symsM S m F o c).bind fun o2 q3=>.ok (o2,last==0) q3:=by
   unfold blockM; rw[e1]; simp only[SR.bind]; rw[e2]; simp only; rw[if_neg om,if_pos trivial]
  rw[this]
  have hl:=symsM_less F o c hm o2 q e4
  refine⟨symsM_grow F _ _ _ _ e4,?_⟩
  split at hl
  ·rename_i h1; rw[if_pos h1,hl]; rfl
  ·rename_i h1; rw[if_neg h1,hl]; rfl
theorem blocksM_less{S:List Bool}{most F m:Nat}:∀(f:Nat) (o:Bs) (p:Nat),o.length≤m→Less (blocksM S most F f o p) (blocksM S m F f o p) m∧∀o2 q,blocksM S most F f o p=.ok o2 q→o.length≤o2.length
 | 0,_,_,_=>by
  refine⟨fun o2 q h=>?_,fun o2 q h=>?_⟩ <;> cases h
 | f+1,o,p,hm=>by
  refine⟨fun o2 q h=>?_,fun o2 q h=>?_⟩
  ·unfold blocksM at h ⊢
   obtain⟨⟨o3,b⟩,a,e1,h⟩:=SR.bind_ok h
   obtain⟨g1,hl⟩:=blockM_less hm e1
   by_cases h4:o3.length≤m
   ·rw[if_pos h4]at hl
    rw[hl]
    cases b with
    | true=>exact (blocksM_less f o3 a h4).1 o2 q h
    | false=>
     injection h with k1 k2
     subst k1 k2
     rw[if_pos h4]; rfl
   ·rw[if_neg h4]at hl
    rw[hl]
    have:o3.length≤o2.length:=by
     cases b with
     | true=>
      exact (blocksM_less (m:=o3.length) f o3 a rL).2 o2 q h
     | false=>injection h with k1 k2; subst k1; exact Nat.le_refl _
    rw[if_neg om]; rfl
  ·unfold blocksM at h
   obtain⟨⟨o3,b⟩,a,e1,h⟩:=SR.bind_ok h
   obtain⟨g1,_⟩:=blockM_less hm e1
   refine Nat.le_trans g1 ?_
   cases b with
   | true=>exact (blocksM_less (m:=o3.length) f o3 a rL).2 o2 q h
   | false=>injection h with k1 k2; subst k1; exact Nat.le_refl _
def At(S:List Bool)(p:Nat)(X:List Bool):Prop:=p≤S.length∧X <+: S.drop p
theorem At.app{S:List Bool}{p:Nat}{X Y:List Bool}(h:At S p (X++Y)):At S p X∧At S (p+X.length) Y:=by
 obtain⟨h1,t,h2⟩:=h
 have hl:(X++Y++t).length=S.length-p:=by rw[h2,List.length_drop]
 simp only[lA]at hl
 refine⟨⟨h1,Y++t,by rw[← h2,List.append_assoc]⟩,om,t,?_⟩
 rw[← List.drop_drop,← h2,List.append_assoc,List.drop_left]
theorem At.len{S:List Bool}{p:Nat}{X:List Bool}(h:At S p X):p+X.length≤S.length:=by
 obtain⟨h1,t,h2⟩:=h
 have hl:(X++t).length=S.length-p:=by rw[h2,List.length_drop]
 simp only[lA]at hl
 omega
theorem At.take{S:List Bool}{p:Nat}{X:List Bool}(h:At S p X):(S.drop p).take X.length=X:=by
 obtain⟨h1,t,h2⟩:=h
 rw[← h2,List.take_left]
theorem At.get{S:List Bool}{p j:Nat}{X:List Bool}(h:At S p X){c:Bool}(hj:X[j]?=some c):S[p+j]?=some c:=by
 obtain⟨h1,t,h2⟩:=h
 rw[← List.getElem?_drop,← h2,List.getElem?_append_left (List.getElem?_eq_some_iff.1 hj).1,hj]
theorem getM_at{S:List Bool}{p v k:Nat}(h:At S p (bitsN v k))(hv:v<2 ^ k):getM k S p=.ok v (p+k):=by
 have h1:=h.len
 have h2:=h.take
 rw[bitsN_len]at h1 h2
 unfold getM
 rw[if_pos h1,h2,natOf_bits hv]
theorem symM_at{cnt syms:List Nat}{S X:List Bool}{p:Nat}(h:At S p X):∀(f long code first at_ j t e:Nat),symM cnt syms X f long code first at_ j=.ok t e→symM cnt syms S f long code first at_ (p+j)=.ok t (p+e)
 | 0,_,_,_,_,_,_,_,hx=>by cases hx
 | f+1,long,code,first,at_,j,t,e,hx=>by
  unfold symM at hx ⊢
  cases hc:X[j]? with
  | none=>rw[hc]at hx; cases hx
  | some c=>
   rw[hc]at hx
   rw[h.get hc]
   simp only at hx ⊢
   obtain⟨cc,hcc⟩:∃x,x=2*code+(if c then 1 else 0):=⟨_,rfl⟩
   rw[← hcc]at hx ⊢
   by_cases c1:cc<2*first
   ·rw[if_pos c1]at hx; cases hx
   rw[if_neg c1]at hx ⊢
   by_cases c2:cc-2*first<cnt.getD long 0
   ·rw[if_pos c2]at hx ⊢
    cases hs:syms[at_+(cc-2*first)]? with
    | none=>rw[hs]at hx; cases hx
    | some sy=>
     rw[hs]at hx
     injection hx with h1 h2
     subst h1 h2
     rfl
   ·rw[if_neg c2]at hx ⊢
    exact symM_at h f _ _ _ _ _ _ _ hx
theorem nearM_at{S:List Bool}{p s:Nat}(hs:s<286)(h:At S p (fixB s)):nearM S p=.ok s (p+(fixB s).length):=by
 have hn:=all_range near_sym hs
 cases e:symM (cntT nearL) (symT nearL) (fixB s) 15 1 0 0 0 0 with
 | ok t q=>
  rw[e]at hn
  simp only[Bool.and_eq_true,Nat.beq_eq]at hn
  have:=symM_at h _ _ _ _ _ _ _ _ e
  rw[hn.1,hn.2]at this
  exact this
 | bad _=>rw[e]at hn; cases hn
 | unk=>rw[e]at hn; cases hn
theorem farM_at{S:List Bool}{p s:Nat}(hs:s<30)(h:At S p (bitsN s 5).reverse):farM S p=.ok s (p+5):=by
 have hn:=all_range far_sym hs
 cases e:symM (cntT farL) (symT farL) (bitsN s 5).reverse 15 1 0 0 0 0 with
 | ok t q=>
  rw[e]at hn
  simp only[Bool.and_eq_true,Nat.beq_eq]at hn
  have:=symM_at h _ _ _ _ _ _ _ _ e
  rw[hn.1,hn.2]at this
  exact this
 | bad _=>rw[e]at hn; cases hn
 | unk=>rw[e]at hn; cases hn
theorem len_tab:(List.range 259).all (fun n=>Nat.blt n 3||(if n=258 then Nat.beq (find lenL n) 28&&Nat.beq (lenE.getD (find lenL n) 0) 0 else Nat.blt (find lenL n) 28&&(if find lenL n<4 then Nat.beq n (3+find lenL n)&&Nat.beq (lenE.getD (find lenL n) 0) 0 else Nat.beq (lenE.getD (find lenL n) 0) (find lenL n / 4-1)&&(Nat.beq n (3+((4+find lenL n % 4)*2 ^ (find lenL n / 4-1)+(n-lenL.getD (find lenL n) 0)))&&Nat.blt (n-lenL.getD (find lenL n) 0) (2 ^ lenE.getD (find lenL n) 0)))))=true:=by decide +kernel
theorem span_at{S:List Bool}{p sp gr v:Nat}(hg:¬sp<gr)(h:At S p (bitsN v (sp / gr-1)))(hv:v<2 ^ (sp / gr-1)):spanM sp gr S p=.ok ((gr+sp % gr)*2 ^ (sp / gr-1)+v) (p+(sp / gr-1)):=by
 have h1:=h.len
 have h2:=h.take
 rw[bitsN_len]at h1 h2
 unfold spanM
 rw[if_neg hg,if_pos h1,h2,natOf_bits hv]
theorem len_at{S:List Bool}{p n:Nat}(h1:3≤n)(h2:n≤258)(h:At S p (bitsN (n-lenL.getD (find lenL n) 0) (lenE.getD (find lenL n) 0))):find lenL n≤28∧lenM (find lenL n) S p=.ok n (p+lenE.getD (find lenL n) 0):=by
 have hn:=all_range len_tab (i:=n) om
 have hn3:Nat.blt n 3=false:=Bool.eq_false_iff.2 (by rw[ne_eq,Nat.blt_eq]; omega)
 rw[hn3,Bool.false_or]at hn
 generalize find lenL n=sp at *
 by_cases he:n=258
 ·rw[if_pos he]at hn
  simp only[Bool.and_eq_true,Nat.beq_eq]at hn
  obtain⟨rfl,h0⟩:=hn
  refine⟨Nat.le_refl _,?_⟩
  rw[h0,he]; rfl
 ·rw[if_neg he]at hn
  simp only[Bool.and_eq_true,Nat.blt_eq]at hn
  obtain⟨hs,hn⟩:=hn
  refine⟨om,?_⟩
  unfold lenM
  rw[if_pos hs]
  by_cases h4:sp<4
  ·rw[if_pos h4]at hn
   simp only[Bool.and_eq_true,Nat.beq_eq]at hn
   obtain⟨e,h0⟩:=hn
   have:spanM sp 4 S p=.ok sp p:=by unfold spanM; rw[if_pos h4]
   rw[this,h0]
   simp only[SR.bind]
   rw[← e]; rfl
  ·rw[if_neg h4]at hn
   simp only[Bool.and_eq_true,Nat.beq_eq,Nat.blt_eq]at hn
   obtain⟨e1,e2,e3⟩:=hn
   rw[e1]at h e3 ⊢
   rw[span_at h4 h e3]
   simp only[SR.bind]
   rw[← e2]
theorem dis_tab2:(List.range 30).all (fun sp=>if sp<2 then Nat.beq (disL.getD sp 0) (1+sp)&&Nat.beq (disE.getD sp 0) 0 else Nat.beq (disE.getD sp 0) (sp / 2-1)&&Nat.beq (disL.getD sp 0) (1+(2+sp % 2)*2 ^ (sp / 2-1)))=true:=by decide +kernel
theorem findF_le(l:List Nat)(n:Nat):∀(f k:Nat),l.getD k 0≤n→l.getD (findF l n f k) 0≤n
 | 0,k,h=>h
 | f+1,k,h=>by
  unfold findF
  split
  ·rename_i hk; exact findF_le l n f (k+1) hk.2
  ·exact h
theorem dis_at{S:List Bool}{p n:Nat}(h1:1≤n)(h2:n≤32768)(h:At S p (bitsN (n-disL.getD (find disL n) 0) (disE.getD (find disL n) 0))):find disL n<30∧spanM (find disL n) 2 S p=.ok (n-1) (p+disE.getD (find disL n) 0):=by
 have hle:disL.getD (find disL n) 0≤n:=findF_le disL n _ 0 h1
 obtain⟨_,q2,q3,q4⟩:=dis_ok h1 h2
 simp only[disR]at q2 q3 q4
 rw[q2]at q4
 have q5:n-disL.getD (find disL n) 0<2 ^ disE.getD (find disL n) 0:=by
  simp only[fldOk,Bool.and_eq_true,Nat.blt_eq]at q4; exact q4.1
 have ht:=all_range dis_tab2 (i:=find disL n) om
 generalize find disL n=sp at *
 refine⟨om,?_⟩
 by_cases hs:sp<2
 ·rw[if_pos hs]at ht
  simp only[Bool.and_eq_true,Nat.beq_eq]at ht
  rw[ht.2]at q5 ⊢
  rw[ht.1]at hle q5
  unfold spanM
  rw[if_pos hs]
  congr 1
  omega
 ·rw[if_neg hs]at ht
  simp only[Bool.and_eq_true,Nat.beq_eq]at ht
  rw[ht.1]at h q5 ⊢
  rw[span_at hs h q5]
  congr 1
  have:=ht.2
  omega
theorem copyB_at{b:Bs}{back:Nat}:∀(m i pos:Nat),i-pos=back→pos<i→i+m≤b.length→(∀j,j<m→b[pos+j]?=b[i+j]?)→copyB back m (b.take i)=b.take (i+m)
 | 0,_,_,_,_,_,_=>rfl
 | m+1,i,pos,hb,hp,hl,he=>by
  have hx:(b.take i).getD ((b.take i).length-back) 0=b.getD i 0:=by
   have h0:=he 0 om
   rw[Nat.add_zero,Nat.add_zero]at h0
   rw[List.length_take,List.getD_eq_getElem?_getD,List.getD_eq_getElem?_getD,show min i b.length-back=pos by omega,List.getElem?_take_of_lt hp,h0]
  have e:b.take i++[b.getD i 0]=b.take (i+1):=by
   rw[List.take_add_one,List.getD_eq_getElem?_getD,List.getElem?_eq_getElem (by omega:i<b.length)]; rfl
  unfold copyB
  rw[hx,e,copyB_at m (i+1) (pos+1) om om om fun j hj=>by
   have:=he (j+1) om
   rw[show pos+1+j=pos+(j+1) by omega,show i+1+j=i+(j+1) by omega]; exact this]
  congr 1; omega
theorem toks_at{S:List Bool}{b:Bs}{to most:Nat}(hto:to≤b.length)(hm:to≤most)(h2:to≤20000):∀(f i p F:Nat),to-i≤f→i≤to→At S p ((toksF b to f i).flatMap tokB++fixB 256)→(toksF b to f i).length<F→symsM S most F (b.take i) p=.ok (b.take to) (p+((toksF b to f i).flatMap tokB++fixB 256).length)
 | f,i,p,0,_,_,_,hF=>om
 | 0,i,p,F+1,h1,hi,h,_=>by
  obtain rfl:i=to:=om
  simp only[toksF,List.flatMap_nil,List.nil_append]at h ⊢
  unfold symsM
  rw[nearM_at om h]
  rfl
 | f+1,i,p,F+1,h1,hi,h,hF=>by
  unfold toksF at h hF ⊢
  by_cases hlt:i<to
  ·rw[if_pos hlt]at h hF ⊢
   by_cases h3:3≤(matchF b i to).1
   ·rw[if_pos h3]at h hF ⊢
    have hb:=best_spec b i (mlen i to) i (0,0) rL (.inl rfl)
    have hmf:best b i (mlen i to) i (0,0)=matchF b i to:=rfl
    rw[hmf]at hb
    obtain⟨n,hn⟩:∃n,n=(matchF b i to).1:=⟨_,rfl⟩
    obtain⟨pos,hpos⟩:∃n,n=(matchF b i to).2:=⟨_,rfl⟩
    rw[← hn,← hpos]at hb
    rw[← hn]at h3
    rw[← hn,← hpos]at h hF ⊢
    have hb':pos<i∧n=run b pos i (mlen i to):=by
     rcases hb with hb | hb
     ·omega
     ·exact hb
    have hrl:=run_le b pos i (mlen i to)
    have hml:mlen i to≤258∧mlen i to≤to-i:=by unfold mlen; omega
    rw[List.flatMap_cons,List.append_assoc]at h ⊢
    have htb:tokB ⟨n,i-pos,0⟩=lenB n++disB (i-pos):=by unfold tokB; rw[if_neg (by simp only; omega)]
    rw[htb]at h ⊢
    obtain⟨ha,hrest⟩:=h.app
    obtain⟨hl,hd⟩:=ha.app
    unfold lenB at hl
    obtain⟨hl1,hl2⟩:=hl.app
    unfold disB at hd
    obtain⟨hd1,hd2⟩:=hd.app
    obtain⟨k1,k2⟩:=len_at h3 om hl2
    have hls:(lenB n).length=(fixB (257+find lenL n)).length+lenE.getD (find lenL n) 0:=by unfold lenB; rw[lA,bitsN_len]
    have h5:(bitsN (find disL (i-pos)) 5).reverse.length=5:=by rw[List.length_reverse,bitsN_len]
    rw[h5]at hd2
    obtain⟨k3,k4⟩:=dis_at (n:=i-pos) om om hd2
    have hds:(disB (i-pos)).length=5+disE.getD (find disL (i-pos)) 0:=by unfold disB; rw[lA,bitsN_len,h5]
    have hq:p+(fixB (257+find lenL n)).length+lenE.getD (find lenL n) 0=p+(lenB n).length:=by rw[hls]; omega
    have hMR:matchR S most n (b.take i) (p+(lenB n).length)=.ok (b.take (i+n)) (p+(lenB n).length+(disB (i-pos)).length):=by
     unfold matchR
     rw[farM_at k3 hd1]
     simp only[SR.bind]
     rw[if_neg om,k4]
     simp only
     rw[if_neg (by rw[List.length_take]; omega),if_neg (by rw[List.length_take]; omega),show 1+(i-pos-1)=i-pos by omega,copyB_at n i pos rfl hb'.1 om fun j hj=>run_at b (mlen i to) pos i j om,hds]
     congr 1; omega
    have hMM:matchM S most (257+find lenL n-257) (b.take i) (p+(fixB (257+find lenL n)).length)=.ok (b.take (i+n)) (p+(lenB n).length+(disB (i-pos)).length):=by
     unfold matchM
     rw[show 257+find lenL n-257=find lenL n by omega,k2]
     simp only[SR.bind]
     rw[hq,hMR]
    unfold symsM
    rw[nearM_at om hl1]
    simp only[SR.bind]
    rw[if_neg om,if_neg om,if_pos om,hMM]
    simp only
    have hp:p+(lenB n++disB (i-pos)).length=p+(lenB n).length+(disB (i-pos)).length:=by rw[lA]; omega
    rw[hp]at hrest
    rw[toks_at hto hm h2 f (i+n) _ F om om hrest (by simp only[List.length_cons]at hF; omega)]
    have hz:∀(a c x:Nat),a=c→(SR.ok (b.take to) a:SR Bs)=SR.ok (b.take to) c:=fun a c _ e=>by rw[e]
    exact hz _ _ 0 (by simp only[lA]; omega)
   ·rw[if_neg h3]at h hF ⊢
    rw[List.flatMap_cons,List.append_assoc]at h ⊢
    have hbl:=(b.getD i 0).toNat_lt
    have htb:tokB ⟨0,0,b.getD i 0⟩=fixB (b.getD i 0).toNat:=by unfold tokB; rw[if_pos rfl]
    rw[htb]at h ⊢
    obtain⟨ha,hrest⟩:=h.app
    have e:b.take i++[b.getD i 0]=b.take (i+1):=by
     rw[List.take_add_one,List.getD_eq_getElem?_getD,List.getElem?_eq_getElem (by omega:i<b.length)]; rfl
    unfold symsM
    rw[nearM_at om ha]
    simp only[SR.bind]
    have hu:UInt8.ofNat (b.getD i 0).toNat=b.getD i 0:=by simp
    rw[if_pos om,if_neg (by rw[List.length_take]; omega),hu,e,toks_at hto hm h2 f (i+1) _ F om om hrest (by simp only[List.length_cons]at hF; omega)]
    have hz:∀(a c x:Nat),a=c→(SR.ok (b.take to) a:SR Bs)=SR.ok (b.take to) c:=fun a c _ e=>by rw[e]
    exact hz _ _ 0 (by simp only[lA]; omega)
  ·rw[if_neg hlt]at h hF ⊢
   obtain rfl:i=to:=om
   simp only[List.flatMap_nil,List.nil_append]at h ⊢
   unfold symsM
   rw[nearM_at om h]
   rfl
theorem toksF_len(b:Bs)(to:Nat):∀(f i:Nat),(toksF b to f i).length≤f
 | 0,_=>Nat.le_refl _
 | f+1,i=>by
  unfold toksF
  split
  ·split
   ·have:=toksF_len b to f (i+(matchF b i to).1); simp only[List.length_cons]; omega
   ·have:=toksF_len b to f (i+1); simp only[List.length_cons]; omega
  ·simp
theorem bytesM_at{S:List Bool}:∀(l o:Bs) (q:Nat),At S q (l.flatMap fun x=>bitsN x.toNat 8)→bytesM S l.length o q=.ok (o++l) (q+8*l.length)
 | [],o,q,_=>by simp[bytesM]
 | x::l,o,q,h=>by
  rw[List.flatMap_cons]at h
  obtain⟨h1,h2⟩:=h.app
  rw[bitsN_len]at h2
  have:=x.toNat_lt
  show bytesM S (l.length+1) o q=_
  unfold bytesM
  rw[getM_at h1 om]
  simp only[SR.bind]
  have hu:UInt8.ofNat x.toNat=x:=by simp
  rw[hu,bytesM_at l _ _ h2,List.append_assoc]
  simp only[List.length_cons,List.cons_append,List.nil_append]
  congr 1; omega
theorem block_at{S:List Bool}{b:Bs}{ln m sent to p most F:Nat}(hln:ln≤1)(hst:sent≤to)(hto:to≤b.length)(hb:b.length≤20000)(hm:to≤most)(hF:20000<F)(hp:p % 8=m % 8)(h:At S p (blkB ln m b sent to)):blockM S most F (b.take sent) p=.ok (b.take to,ln==0) (p+(blkB ln m b sent to).length):=by
 have hfill:fillN (m+3)=fillN (p+3):=by unfold fillN; omega
 have hsl:=segB_len hst hto
 unfold blkB at h ⊢
 split at h
 ·rename_i hc
  rw[if_pos hc]at ⊢
  have e:stoH ln m (to-sent)++fldBits (byFl (segB b sent to))=bitsN ln 1++(bitsN 0 2++(List.replicate (fillN (p+3)) false++(bitsN (to-sent) 16++(bitsN (65535-(to-sent)) 16++(segB b sent to).flatMap fun x=>bitsN x.toNat 8)))):=by
   rw[byFl_bits]; simp only[stoH,List.append_assoc,hfill]
  rw[e]at h ⊢
  obtain⟨h1,h⟩:=h.app
  obtain⟨h2,h⟩:=h.app
  obtain⟨h3,h⟩:=h.app
  obtain⟨h4,h⟩:=h.app
  obtain⟨h5,h6⟩:=h.app
  simp only[bitsN_len,List.length_replicate]at h2 h4 h5 h6
  have hS:storedM S most (b.take sent) (p+1+2)=.ok (b.take to) (p+1+2+fillN (p+3)+16+16+8*(to-sent)):=by
   unfold storedM
   rw[show p+1+2+fillN (p+1+2)=p+1+2+fillN (p+3) from rfl,getM_at h4 om]
   simp only[SR.bind]
   rw[getM_at h5 om]
   simp only
   rw[if_neg om,if_neg (by rw[List.length_take]; omega)]
   have:=bytesM_at (segB b sent to) (b.take sent) _ h6
   rw[hsl]at this
   rw[this]
   congr 1
   unfold segB
   rw[← List.take_add,show sent+(to-sent)=to by omega]
  unfold blockM
  rw[getM_at h1 om]
  simp only[SR.bind]
  rw[getM_at h2 om]
  simp only
  rw[if_pos trivial,hS]
  simp only
  congr 1
  have hbl:((segB b sent to).flatMap fun x=>bitsN x.toNat 8).length=8*(to-sent):=by
   rw[← hsl]; exact bitsB_len _
  simp only[lA,bitsN_len,List.length_replicate,hbl]; omega
 ·rename_i hc
  rw[if_neg hc]at ⊢
  obtain⟨e,_⟩:=blockFl_ok hln (toks_ok b to om (to-sent) sent)
  have e':fldBits (blockFl ln (toks b sent to))=bitsN ln 1++(bitsN 1 2++((toks b sent to).flatMap tokB++fixB 256)):=by
   unfold toks
   rw[e]; simp only[fixedB,List.append_assoc]
  rw[e']at h ⊢
  obtain⟨h1,h⟩:=h.app
  obtain⟨h2,h⟩:=h.app
  simp only[bitsN_len]at h2 h
  have hl:=toksF_len b to (to-sent) sent
  have hS:=toks_at (S:=S) (b:=b) (to:=to) (most:=most) hto hm om (to-sent) sent (p+1+2) F rL hst h om
  unfold blockM
  rw[getM_at h1 om]
  simp only[SR.bind]
  rw[getM_at h2 om]
  simp only
  rw[if_neg om,if_pos trivial,hS]
  simp only
  congr 1
  simp only[lA,bitsN_len,toks]; omega
theorem blks_all{most F t p:Nat}{c c':Bs}{X:List Bool}(h:Blks t c X c')(hm:20000≤most)(hF:20000<F)(hp:p % 8=t % 8):∃k,∀f S,At S p X→blocksM S most F (f+k) c p=blocksM S most F f c' (p+X.length):=by
 induction h with
 | nil=>exact⟨0,fun f S _=>rfl⟩
 | more h e h1 h2 h3 ih=>
  obtain⟨k,hk⟩:=ih
  refine⟨k+1,fun f S ha=>?_⟩
  obtain⟨a1,a2⟩:=ha.app
  rw[show f+(k+1)=(f+1)+k by omega,hk (f+1) S a1,e,blocksM,block_at om h1 h2 h3 om hF om a2]
  simp only[SR.bind]
  rw[if_pos (show ((0:Nat)==0)=true from rfl),lA]
  congr 1; omega
theorem bits_pack{T:List Bool}(h:T.length % 8=0):bitsB ((pack T).map UInt8.ofNat)=T:=by
 apply List.ext_getElem?
 intro i
 have hl:(bitsB ((pack T).map UInt8.ofNat)).length=T.length:=by rw[bitsB_len,List.length_map,pack_len]; omega
 by_cases hi:i<T.length
 ·have hb:=bitsB_drop ((pack T).map UInt8.ofNat) (i / 8)
  have hj:i / 8<(pack T).length:=by rw[pack_len]; omega
  have e1:(bitsB ((pack T).map UInt8.ofNat))[i]?=(bitsB (((pack T).map UInt8.ofNat).drop (i / 8)))[i % 8]?:=by
   rw[← hb,List.getElem?_drop,show 8*(i / 8)+i % 8=i by omega]
  have hg:=pack_get (l:=T) (j:=i / 8) om
  have e2:((pack T).map UInt8.ofNat).drop (i / 8)=UInt8.ofNat (byteAt T (i / 8))::((pack T).map UInt8.ofNat).drop (i / 8+1):=by
   rw[List.drop_eq_getElem_cons (by rw[List.length_map]; exact hj)]
   congr 1
   rw[List.getElem_map]
   congr 1
   have:=List.getElem?_eq_getElem hj
   rw[hg]at this
   exact (Option.some.inj this).symm
  have hlt:=byteAt_lt T (i / 8)
  have hu:(UInt8.ofNat (byteAt T (i / 8))).toNat=byteAt T (i / 8):=by simp; omega
  rw[e1,e2]
  simp only[bitsB,List.flatMap_cons]
  rw[List.getElem?_append_left (by rw[bitsN_len]; omega),hu]
  unfold byteAt
  have h8:((T.drop (8*(i / 8))).take 8).length=8:=by rw[List.length_take,List.length_drop]; omega
  have:=bits_natOf ((T.drop (8*(i / 8))).take 8)
  rw[h8]at this
  rw[this,List.getElem?_take_of_lt om,List.getElem?_drop,show 8*(i / 8)+i % 8=i by omega]
 ·rw[List.getElem?_eq_none om,List.getElem?_eq_none om]
theorem bitsB_append(a b:Bs):bitsB (a++b)=bitsB a++bitsB b:=by simp[bitsB]
structure Told(b d:Bs)(G q:Nat):Prop where
 q1:8*d.length<q+8
 q2:q≤8*d.length
 ok:∀S,At S 0 (bitsB d)→blocksM S 20000 20001 G [] 0=.ok b q
theorem told_of{b c1:Bs}{T1 T2 M1 M2 X1 X2:List Bool}{sent:Nat}(hb:b.length≤20000)(hs:sent≤b.length)(b1:Blks 0 [] X1 c1)(b2:Blks M1.length c1 X2 (b.take sent))(e1:T1++M1=X1)(e2:T2++M2=M1++X2)(t1:T1.length % 8=0)(t2:T2.length % 8=0) :
  ∃G q,Told b ((pack T1).map UInt8.ofNat++(pack T2).map UInt8.ofNat++(pack (M2++endX M2.length b sent)).map UInt8.ofNat) G q:=by
 have l1:X1.length=T1.length+M1.length:=by rw[← e1,lA]
 have l2:T2.length+M2.length=M1.length+X2.length:=by rw[← lA,e2,lA]
 obtain⟨eb,heb⟩:∃e,e=blkB 1 M2.length b sent b.length:=⟨_,rfl⟩
 obtain⟨fl,hfl⟩:∃f,f=fillN (M2.length+eb.length):=⟨_,rfl⟩
 have hend:endX M2.length b sent=eb++List.replicate fl false:=by unfold endX; rw[heb,hfl,heb]
 have t3:(M2++endX M2.length b sent).length % 8=0:=by
  rw[hend]; simp only[lA,List.length_replicate]
  have:=fill_ok (M2.length+eb.length)
  rw[← hfl]at this; omega
 have hbits:bitsB ((pack T1).map UInt8.ofNat++(pack T2).map UInt8.ofNat++(pack (M2++endX M2.length b sent)).map UInt8.ofNat)=X1++(X2++(eb++List.replicate fl false)):=by
  rw[bitsB_append,bitsB_append,bits_pack t1,bits_pack t2,bits_pack t3,hend,← e1]
  have:T2++(M2++(eb++List.replicate fl false))=M1++(X2++(eb++List.replicate fl false)):=by rw[← List.append_assoc,e2,List.append_assoc]
  simp only[List.append_assoc]at this ⊢
  rw[this]
 generalize (pack T1).map UInt8.ofNat++(pack T2).map UInt8.ofNat++(pack (M2++endX M2.length b sent)).map UInt8.ofNat=d at hbits ⊢
 have hlen:=congrArg List.length hbits
 rw[bitsB_len]at hlen
 simp only[lA,List.length_replicate]at hlen
 have hf7:fl<8:=by rw[hfl]; unfold fillN; omega
 obtain⟨k1,h1⟩:∃k,∀f S,At S 0 X1→blocksM S 20000 20001 (f+k) [] 0=blocksM S 20000 20001 f c1 (0+X1.length):=blks_all b1 om om om
 obtain⟨k2,h2⟩:∃k,∀f S,At S X1.length X2→blocksM S 20000 20001 (f+k) c1 X1.length=blocksM S 20000 20001 f (b.take sent) (X1.length+X2.length):=blks_all b2 om om om
 refine⟨1+k2+k1,X1.length+X2.length+eb.length,om,om,fun S hS=>?_⟩
 rw[hbits]at hS
 obtain⟨a1,hS⟩:=hS.app
 rw[Nat.zero_add]at hS
 obtain⟨a2,hS⟩:=hS.app
 obtain⟨a3,_⟩:=hS.app
 rw[h1 _ S a1,Nat.zero_add,h2 _ S a2]
 unfold blocksM
 rw[heb]at a3 ⊢
 rw[block_at om hs rL hb om om om a3,List.take_length]
 rfl
theorem Told.most{b d:Bs}{G q:Nat}(h:Told b d G q)(hb:b.length≤20000){S:List Bool}(hS:At S 0 (bitsB d)):blocksM S b.length 20001 G [] 0=.ok b q:=by
 have:=(blocksM_less (m:=b.length) G [] 0 (Nat.zero_le _)).1 b q (h.ok S hS)
 rw[if_pos rL]at this
 exact this
theorem at_self(X Y:List Bool):At (X++Y) 0 X:=⟨Nat.zero_le _,Y,rfl⟩
theorem Told.pos{b d:Bs}{G q:Nat}(h:Told b d G q):0<d.length:=by
 rcases Nat.eq_zero_or_pos d.length with h0 | h0
 ·obtain rfl:d=[]:=List.length_eq_zero_iff.1 h0
  exfalso
  have k0:=h.ok [] ⟨Nat.le_refl _,[],rfl⟩
  cases G with
  | zero=>cases k0
  | succ G=>cases k0
 ·exact h0
theorem adler_spec{n:Nat}{H:AHeap}{v:AVal}{s:Bs}(h:Cel n H v (byts s))(sum:Nat)(hs:sum<2 ^ 32)(hl:s.length≤1000000000) :
  ACalls Tryz.prog natT 40 [.int .u32 (sum:Int),v] H fun w H'=>w=.int .u32 ((adler sum s:Nat):Int)∧H=H':=by
 refine acalls_ofN rfl za40 rfl ?_
 have ha:aBin .and (.int .u32 (sum:Int)) (.int .u32 65535)=some (.int .u32 ((sum % 65536:Nat):Int)):=by
  have:=bin_andU .u32 (.inr (.inr (.inl rfl))) (a:=sum) (b:=65535) hs (by simp[IntKind.bits])
  rw[Nat.and_two_pow_sub_one_eq_mod sum 16]at this
  exact this
 have hr:aBin .rem (.int .u32 ((sum % 65536:Nat):Int)) (.int .u32 65521)=some (.int .u32 ((sum % 65536 % 65521:Nat):Int)):=remU32 65521 om
 have hsh:aBin .shr (.int .u32 (sum:Int)) (.int .u64 16)=some (.int .u32 ((sum / 65536:Nat):Int)):=shrN .u32 .u64 sum (b:=16) (by simp[IntKind.bits])
 have hr2:aBin .rem (.int .u32 ((sum / 65536:Nat):Int)) (.int .u32 65521)=some (.int .u32 ((sum / 65536 % 65521:Nat):Int)):=remU32 65521 om
 have hlen:aLenK false v=some (.int .i64 (s.length:Int)):=by have:=h.len; rwa [byts_len]at this
 simp only[c40,sA,sB,seval,ha,hr,hsh,hr2,hlen]
 refine aw_loop (fun q (T:Env) H'=>∃j:Nat,j≤s.length∧q=s.length-j∧T 5=.int .u32 (((adlerF (adlerS sum) (s.take j)).1:Nat):Int)∧T 6=.int .u32 (((adlerF (adlerS sum) (s.take j)).2:Nat):Int)∧T 15=v∧T 16=.int .i64 (s.length:Int)∧T 17=.int .i64 (j:Int)∧H=H') s.length
  ⟨0,Nat.zero_le _,rfl,by simp only[sA,sB,seval]; rfl,by simp only[sA,sB,seval]; rfl,by simp only[sA,sB,seval]; try rfl,by simp only[sA,sB,seval]; try rfl,by simp only[sA,sB,seval]; try rfl,rfl⟩ ?_
 rintro q T _ ⟨j,hj,rfl,g5,g6,g15,g16,g17,rfl⟩
 have hx:=adlerS_lt sum (s.take j)
 by_cases hlt:j<s.length
 ·have hlt':(j:Int)<(s.length:Int):=om
  obtain⟨b,hb⟩:∃b,s[j]?=some b:=⟨_,List.getElem?_eq_getElem hlt⟩
  have hidx:=h.idx .i64 (i:=j) (by rw[byts_len]; exact hlt)
  have hld:=h.load (byts_get hb)
  have hbl:=b.toNat_lt
  have hsn:=adlerF_snoc (adlerS sum) (s.take j) b
  rw[← take_snoc hb]at hsn
  generalize (adlerF (adlerS sum) (s.take j)).1=x at *
  generalize (adlerF (adlerS sum) (s.take j)).2=y at *
  have w1:IntKind.u32.wrap ((x:Int)+(b.toNat:Int))=((x+b.toNat:Nat):Int):=by rw[wrapU32 om om]; omega
  have q1:aBin .rem (.int .u32 ((x+b.toNat:Nat):Int)) (.int .u32 65521)=some (.int .u32 (((x+b.toNat) % 65521:Nat):Int)):=remU32 65521 om
  have hm:(x+b.toNat) % 65521<65521:=Nat.mod_lt _ om
  have w2:IntKind.u32.wrap ((y:Int)+(((x+b.toNat) % 65521:Nat):Int))=((y+(x+b.toNat) % 65521:Nat):Int):=by rw[wrapU32 om om]; omega
  have q2:aBin .rem (.int .u32 ((y+(x+b.toNat) % 65521:Nat):Int)) (.int .u32 65521)=some (.int .u32 (((y+(x+b.toNat) % 65521) % 65521:Nat):Int)):=remU32 65521 om
  simp only[sA,sB,seval,g5,g6,g15,g16,g17,hlt',hidx,hld,b_u32,w1,q1,w2,q2,wrap1 j om]
  exact⟨_,om,j+1,om,rfl,by rw[hsn],by rw[hsn],tt,tt,tt,tt⟩
 ·have hlt':¬(j:Int)<(s.length:Int):=om
  obtain rfl:j=s.length:=om
  rw[List.take_length]at g5 g6 hx
  have hae:=adler_eq sum s
  generalize (adlerF (adlerS sum) s).1=x at *
  generalize (adlerF (adlerS sum) s).2=y at *
  have s1:aBin .shl (.int .u32 (y:Int)) (.int .u64 16)=some (.int .u32 ((y*65536:Nat):Int)):=by
   have:=bin_shlU .u32 .u64 (.inr (.inr (.inl rfl))) y (b:=16) (by simp[IntKind.bits])
   rw[show y*2 ^ 16 % 2 ^ IntKind.u32.bits=y*65536 by simp only[IntKind.bits]; omega]at this
   exact this
  have s2:aBin .or (.int .u32 ((y*65536:Nat):Int)) (.int .u32 (x:Int))=some (.int .u32 ((y*65536+x:Nat):Int)):=by
   have:=bin_orU .u32 (.inr (.inr (.inl rfl))) (a:=y*65536) (b:=x) (by simp only[IntKind.bits]; omega) (by simp only[IntKind.bits]; omega)
   rw[show y*65536 ||| x=y*65536+x from or_low 16 y om]at this
   exact this
  simp only[sA,sB,seval,g5,g6,g15,g16,g17,hlt',s1,s2,← hae]
  exact⟨tt,tt⟩
theorem zstate_spec{H:AHeap}{z:Nat}{bg:Bool}{dw:AVal}{sum:Nat}(h:Row H z (zC bg dw sum)):ACalls Tryz.prog natT 39 [cellR z 5 0] H fun w H'=>w=.int .i64 0∧H=H':=by
 refine acalls_ofN rfl za39 rfl ?_
 have l0:oLoad false 1 H (cellR z 5 0)=some (.bool true):=row_load h rfl rfl
 have l2:oLoad false 1 H (cellR z 5 2)=some (.bool false):=row_load h rfl rfl
 simp only[c39,sA,sB,seval,eq_ptr_nil,nil_cell,fldA,fld0,l0,l2]
 exact⟨tt,tt⟩
theorem told_spec{H:AHeap}{z g:Nat}{bg:Bool}{dw:AVal}{sum:Nat}{rs cs:List AVal}{Q:AVal→AHeap→Prop}(Z:Row H z (zC bg dw sum))(hz:z<H.next)(hg:g<1024)
  (hcall:∀H1 s0,AppN 1 0 H1 s0 (u8s (hd bg)) (hd bg).length→Blk s0 (H.next≤·)→Row H1 z (zC true dw sum)→H.next≤H1.next→(∀c,c<H.next→c≠z→H1.get c=H.get c)→ACalls Tryz.prog natT g (rs++cs) H1 fun w H2=>∃s e,w=.tuple [s,e]∧∃s' H3,aAppend 1 1 H2 s0 s=some (s',H3)∧Q s' H3) :
  ACalls Tryz.prog natT 42 [cellR z 5 0,.func (.func g) rs cs] H Q:=by
 refine acalls_ofN rfl za42 rfl ?_
 have l1:oLoad false 1 H (cellR z 5 1)=some (.bool bg):=row_load Z rfl rfl
 cases bg with
 | true=>
  simp only[c42,sA,sB,seval,nil_cell,fldA,fld0,l1,hg]
  refine (hcall H nilS (AppN.nil _ _ _) (blk_nil _) Z rL fun _ _ _=>rfl).mono ?_
  rintro _ H2 ⟨s,e,rfl,s',H3,m,q⟩
  have m':aAppend 1 1 H2 (.slice none 0 (.known 0)) s=some (s',H3):=m
  simp only[sA,sB,seval,ext_0,ext_1,m']
  exact q
 | false=>
  have c2:Cel (H.next+1) (H.push (.cells (u8s [120,1]) 0 false)) (slR H.next 2 (.known 2)) (u8s [120,1]):=(row_push H (u8s [120,1])).cel rfl (Nat.lt_succ_self _)
  obtain⟨s3,H3,m3,A3,n3,b3,o3⟩:=app_u8 (a:=[]) (AppN.nil 1 0 (H.push (.cells (u8s [120,1]) 0 false))) c2 (by simp)
  rw[push_next]at n3 b3 o3
  have m3':aAppend 1 1 (H.push (.cells (u8s [120,1]) 0 false)) (.slice none 0 (.known 0)) (slR H.next 2 (.known 2))=some (s3,H3):=m3
  have g3:∀c,c<H.next→H3.get c=H.get c:=fun c hc=>(o3 c om (blk_nil _)).trans (get_push_lt hc)
  have B3:Blk s3 (H.next≤·):=(b3 (fun _=>False) (blk_nil _)).mono fun b hb=>hb.elim (fun q=>q.elim) fun q=>om
  obtain⟨H4,m4,r4,k4,q4⟩:=row_st (Z.same (g3 z hz)) (n:=5) rfl (i:=1) om (x:=.bool true) rfl (l':=zC true dw sum) rfl
  simp only[c42,sA,sB,seval,nil_cell,fldA,fld0,l1,build21,m3',m4,hg]
  refine (hcall H4 s3 (A3.same om (B3.mono fun b hb=>q4 b om)) B3 r4 om fun c hc hne=>by rw[q4 c hne]; exact g3 c hc).mono ?_
  rintro _ H5 ⟨s,e,rfl,s',H6,m,q⟩
  simp only[sA,sB,seval,ext_0,ext_1,m]
  exact q
theorem znew_spec(H:AHeap):ACalls Tryz.prog natT 14 [] H fun w H'=>w=cellR (H.next+3) 5 0∧Row H' (H.next+3) (zC false (cellR (H.next+2) 9 0) 1)∧Row H' (H.next+2) (dC 0 (cellR H.next 3 0) nilS 0 (.map (some (H.next+1))))∧Row H' H.next [.bool true,nilS,.int .i64 0]∧H'.get (H.next+1)=some (.map [] 0)∧H'.next=H.next+4∧Ext H.next H H':=by
 refine acalls_ofN rfl za14 rfl ?_
 simp only[c14,sA,sB,seval]
 refine (dnew_spec H).mono ?_
 rintro _ H1 ⟨rfl,r1,r2,g1,k1,E1⟩
 obtain⟨H3,m3,r3,k3,o3⟩:=row_newL H1 (zC false (cellR (H.next+2) 9 0) 1) (n:=5) rfl
 have bd:aBuild [.bool false,.bool false,.bool false,.ptr none,.int .u32 0] [(0,1,.bool true),(3,1,cellR (H.next+2) 9 0),(4,1,.int .u32 1)]=some (.agg (zC false (cellR (H.next+2) 9 0) 1)):=rfl
 simp only[sA,sB,seval,bd,cells_agg,m3]
 rw[k1]at r3 k3 o3 ⊢
 exact⟨tt,r3,r1.same (o3 _ om),r2.same (o3 _ om),by rw[o3 _ om]; exact g1,om,⟨om,fun c hc=>by rw[o3 c om]; exact E1.old c hc⟩⟩
theorem DB.fr0{n0:Nat}{τ:Nat→Nat}{H H':AHeap}{ow o mb:Nat}{kept:AVal}{b:Bs}{sent K:Nat}{M:List Bool}{pl:Nat}(D:DB n0 τ H ow o mb kept b sent K M pl)(hn:H.next≤H'.next)(e:∀c,c<H.next→τ c≠0→H'.get c=H.get c):DB n0 τ H' ow o mb kept b sent K M pl:=by
 have P:=D.pw
 have o1:=P.own
 have o2:=P.mbn
 have o3:=P.n0n
 have t1:=D.t1
 have t3:=D.t3
 have f:FrS (·=0) τ H τ H':=⟨hn,fun c hc=>⟨rfl,fun h=>e c hc h⟩⟩
 have kb:Blk kept fun c=>(c<H.next∧(τ c<100∧τ c≠6)∧c≠mb∧c≠ow)∧τ c=5:=P.kb.and D.k5
 refine⟨⟨P.row.same (e ow om om),P.kp.same hn (kb.mono fun c hc=>e c hc.1.1 om),kb.mono fun c hc=>⟨om,hc.1.2⟩,?_,o1,o2,P.ne,P.tow,om,fun c hc=>P.tz c om⟩,D.w.frS f om om fun c hc=>P.tz c om,D.k5,t1,t3,D.h6,D.Ks⟩
 obtain⟨es,h1,h2⟩:=MR.iff.1 P.map
 exact MR.iff.2 ⟨es,(e mb om om).trans h1,h2.same hn fun c hc ht=>⟨e c hc om,rfl⟩⟩
def ZW(n0:Nat)(τ:Nat→Nat)(H:AHeap)(z:Nat)(bg:Bool)(b:Bs)(sent K:Nat)(M:List Bool)(pl:Nat):Prop:=
 ∃ow o mb kept,DB n0 τ H ow o mb kept b sent K M pl∧Row H z (zC bg (cellR ow 9 0) (adler 1 b))∧z<H.next∧τ z=0
def FZ(z:Nat)(τ:Nat→Nat)(H:AHeap)(τ':Nat→Nat)(H':AHeap):Prop:=H.next≤H'.next∧∀c,c<H.next→τ c=0→τ' c=0∧(c≠z→H'.get c=H.get c)
theorem zwrite_spec{n n0:Nat}{τ:Nat→Nat}{H:AHeap}{z:Nat}{bg:Bool}{bv:AVal}{b p:Bs}{sent K:Nat}{M:List Bool}{pl:Nat}(h:ZW n0 τ H z bg b sent K M pl)(hp:Cel n H bv (byts p))(hn:n≤H.next)(hbz:Blk bv (·≠z))(hl:b.length+p.length≤20000)(hs:sent≤b.length)(hpl:pl≤9*sent)(hM:M.length≤pl) :
  ACalls Tryz.prog natT 19 [cellR z 5 0,bv] H fun w H'=>∃s X sent' pl' M' T,w=.tuple [s,.int .i64 0]∧AppN 1 0 H' s (u8s (hd bg++pack T)) (hd bg++pack T).length∧T++M'=M++X∧T.length % 8=0∧M'.length<8∧pl'=pl+X.length∧sent'≤(b++p).length∧(b++p).length-sent'≤4096∧pl'≤9*sent'∧Blks M.length (b.take sent) X ((b++p).take sent')∧(∃τ' K',ZW n0 τ' H' z true (b++p) sent' K' M' pl'∧Blk s (fun c=>τ' c=0∧H.next≤c)∧FZ z τ H τ' H')∧((b++p).length-sent≤4096→sent'=sent∧X=[]):=by
 obtain⟨ow,o,mb,kept,D,R,hz,tz⟩:=h
 refine acalls_ofN rfl za19 rfl ?_
 have b1:bv.one=true:=cel_one hp
 obtain⟨H1,m1,r1,k1,q1⟩:=row_newL H [bv] (n:=1) rfl
 have E1:Ext H.next H H1:=⟨om,fun c hc=>q1 c om⟩
 have R1:=R.same (E1.old z hz)
 have l4:oLoad false 1 H1 (cellR z 5 4)=some (.int .u32 ((adler 1 b:Nat):Int)):=row_load R1 rfl rfl
 have lb:oLoad false 1 H1 (cellR H.next 1 0)=some bv:=row_load r1 rfl rfl
 have hp1:=hp.ext (E1.less hn)
 simp only[c19,sA,sB,seval,cells_one b1,m1]
 refine (zstate_spec R1).mono ?_
 rintro _ _ ⟨rfl,rfl⟩
 simp only[sA,sB,seval,nil_cell,fldA,fld0,l4,lb]
 refine (adler_spec hp1 (adler 1 b) (adler_lt 1 b) om).mono ?_
 rintro _ _ ⟨rfl,rfl⟩
 rw[adler_append]
 obtain⟨H2,m2,r2,k2',q2⟩:=row_st R1 (n:=5) rfl (i:=4) om (x:=.int .u32 ((adler 1 (b++p):Nat):Int)) rfl (l':=zC bg (cellR ow 9 0) (adler 1 (b++p))) rfl
 have l3:oLoad false 1 H2 (cellR z 5 3)=some (cellR ow 9 0):=row_load r2 rfl rfl
 obtain⟨H3,m3,r3,k3,q3⟩:=row_newL H2 [.nilFunc] (n:=1) rfl
 obtain⟨H4,m4,r4,k4,q4⟩:=row_st r3 (n:=1) rfl (i:=0) om (x:=.func (.func 41) [cellR ow 9 0] []) rfl (l':=[.func (.func 41) [cellR ow 9 0] []]) rfl
 have g4:∀c,c<H2.next→H4.get c=H2.get c:=fun c hc=>by rw[q4 c om,q3 c om]
 have R4:=r2.same (g4 z om)
 simp only[sA,sB,seval,nil_cell,fldA,fld0,m2,l3,m3,m4]
 refine told_spec R4 om om fun H5 s0 A0 B0 R5 n5 e5=>?_
 have e05:∀c,c<H.next→c≠z→H5.get c=H.get c:=fun c hc hne=>by rw[e5 c om hne,g4 c om,q2 c hne,q1 c om]
 have D5:=D.fr0 (H':=H5) om fun c hc h0=>e05 c hc (by rintro rfl; exact h0 tz)
 have hp5:Cel H5.next H5 bv (byts p):=cel_same hp om (((cel_blk hp).and hbz).mono fun c hc=>e05 c om hc.2)
 have r5:Row H5 H2.next [.func (.func 41) [cellR ow 9 0] []]:=r4.same (e5 _ om om)
 have rb5:Row H5 H.next [bv]:=r1.same (by rw[e5 _ om om,g4 _ om,q2 _ om])
 have lf:oLoad false 1 H5 (cellR H2.next 1 0)=some (.func (.func 41) [cellR ow 9 0] []):=row_load r5 rfl rfl
 have lb5:oLoad false 1 H5 (cellR H.next 1 0)=some bv:=row_load rb5 rfl rfl
 have tz0:=D.pw.tz
 simp only[List.nil_append]
 refine acalls_ofN rfl za43 rfl ?_
 simp only[c43,sA,sB,seval,lf,lb5]
 refine (dwrite_spec D5 hp5 hl hs hpl hM).mono ?_
 rintro _ H6 ⟨s,X,sent',pl',M',T,rfl,cs,eT,tT,hM',hpl',-,hs',hlong,h9,hB,τ6,K6,kept6,D6,bs,f6,sm⟩
 have f6n:=f6.1
 have b0:Blk s0 fun c=>H.next≤c∧c<H5.next:=((B0.mono fun c hc=>om).and A0.blk')
 have A6:AppN 1 0 H6 s0 (u8s (hd bg)) (hd bg).length:=A0.same f6n (b0.mono fun c hc=>(f6.2 c hc.2 (.inl (tz0 c hc.1))).2)
 have hz5:z<H5.next:=om
 have R6:=R5.same (f6.2 z hz5 (.inl tz)).2
 have hdl:(hd bg).length≤2:=by cases bg <;> simp[hd]
 have eTl:=congrArg List.length eT
 rw[lA,lA]at eTl
 have hbp:(b++p).length=b.length+p.length:=lA
 have hpk:(pack T).length≤50000:=by rw[pack_len]; omega
 obtain⟨s7,H7,m7,A7,n7,b7,o7⟩:=app_u8 A6 cs om
 have s7b:Blk s7 fun c=>(H.next≤c∧c<H5.next)∨H6.next≤c:=b7 _ b0
 have tz6:=D6.pw.tz
 have kp7:∀c,c<H6.next→(c<H.next∨H5.next≤c∨τ6 c≠0)→H7.get c=H6.get c:=fun c hc hx=>o7 c hc (b0.mono fun d hd=>by
  rintro rfl
  have:=(f6.2 c hd.2 (.inl (tz0 c hd.1))).1
  have:=tz0 c hd.1
  omega)
 have D7:=D6.fr0 (H':=H7) n7 fun c hc h0=>kp7 c hc (.inr (.inr h0))
 have R7:=R6.same (kp7 z om (.inl hz))
 simp only[sA,sB,seval,ext_0,ext_1]
 refine⟨s,.int .i64 0,tt,s7,H7,m7,?_⟩
 refine⟨s7,X,sent',pl',M',T,tt,A7,eT,tT,hM',hpl',hs',hlong,h9,hB,⟨τ6,K6,⟨ow,o,mb,kept6,D7,R7,om,(f6.2 z hz5 (.inl tz)).1.trans tz⟩,s7b.mono fun c hc=>?_,om,fun c hc h0=>?_⟩,sm⟩
 ·rcases hc with hc | hc
  ·exact⟨(f6.2 c hc.2 (.inl (tz0 c hc.1))).1.trans (tz0 c hc.1),hc.1⟩
  ·exact⟨tz6 c hc,om⟩
 ·obtain⟨e1,e2⟩:=f6.2 c om (.inl h0)
  exact⟨e1.trans h0,fun hne=>by rw[kp7 c om (.inl hc),e2,e05 c hc hne]⟩
theorem zend_spec{n0:Nat}{τ:Nat→Nat}{H:AHeap}{z:Nat}{bg:Bool}{b:Bs}{sent K:Nat}{M:List Bool}{pl:Nat}(h:ZW n0 τ H z bg b sent K M pl)(hl:b.length≤20000)(hs:sent≤b.length)(hlong:b.length-sent≤4096)(hpl:pl≤9*sent)(hM:M.length<8) :
  ACalls Tryz.prog natT 20 [cellR z 5 0] H fun w H'=>∃s,w=.tuple [s,.int .i64 0]∧Cel H'.next H' s (u8s (hd bg++pack (M++endX M.length b sent)++fourL (adler 1 b)))∧H.next≤H'.next∧∀c,c<H.next→τ c=0→c≠z→H'.get c=H.get c:=by
 obtain⟨ow,o,mb,kept,D,R,hz,tz⟩:=h
 refine acalls_ofN rfl za20 rfl ?_
 have l3:oLoad false 1 H (cellR z 5 3)=some (cellR ow 9 0):=row_load R rfl rfl
 have tz0:=D.pw.tz
 simp only[c20,sA,sB,seval]
 refine (zstate_spec R).mono ?_
 rintro _ _ ⟨rfl,rfl⟩
 simp only[sA,sB,seval,nil_cell,fldA,fld0,l3]
 refine told_spec R hz om fun H1 s0 A0 B0 R1 n1 e1=>?_
 have D1:=D.fr0 (H':=H1) n1 fun c hc h0=>e1 c hc (by rintro rfl; exact h0 tz)
 refine (dend_spec D1 hl hs hlong hpl hM).mono ?_
 rintro _ H2 ⟨s,rfl,C2,τ2,bs2,f2⟩
 have b0:Blk s0 fun c=>H.next≤c∧c<H1.next:=B0.and A0.blk'
 have n2:=f2.1
 have A2:AppN 1 0 H2 s0 (u8s (hd bg)) (hd bg).length:=A0.same n2 (b0.mono fun c hc=>(f2.2 c hc.2 (.inl (tz0 c hc.1))).2)
 have hbl:=blkB_len 1 M.length (b:=b) (sent:=sent) (to:=b.length) hs rL
 have el:(M++endX M.length b sent).length≤40000:=by
  have hf:fillN (M.length+(blkB 1 M.length b sent b.length).length)≤7:=by unfold fillN; omega
  unfold endX
  simp only[lA,List.length_replicate]; omega
 have pl':(pack (M++endX M.length b sent)).length≤10000:=by rw[pack_len]; omega
 generalize pack (M++endX M.length b sent)=pk at *
 have hdl:(hd bg).length≤2:=by cases bg <;> simp[hd]
 obtain⟨s3,H3,m3,A3,n3,b3,o3⟩:=app_u8 A2 C2 om
 refine⟨s,.int .i64 0,rfl,s3,H3,m3,?_⟩
 have hz1:z<H1.next:=om
 have g3:∀c,c<H.next→H3.get c=H2.get c:=fun c hc=>o3 c om (b0.mono fun d hd=>om)
 have R3:Row H3 z (zC true (cellR ow 9 0) (adler 1 b)):=R1.same (by rw[g3 z hz,(f2.2 z hz1 (.inl tz)).2])
 have B3:Blk s3 (H.next≤·):=(b3 _ B0).mono fun c hc=>om
 obtain⟨H4,m4,r4,k4,q4⟩:=row_st R3 (n:=5) rfl (i:=2) om (x:=.bool true) rfl rfl
 obtain⟨H5,m5,r5,k5,q5⟩:=row_st r4 (n:=5) rfl (i:=3) dD (x:=.ptr none) rfl rfl
 have A5:AppN 1 0 H5 s3 (u8s (hd bg++pk)) (hd bg++pk).length:=A3.same om (B3.mono fun c hc=>by rw[q5 c om,q4 c om])
 have l4:oLoad false 1 H5 (cellR z 5 4)=some (.int .u32 ((adler 1 b:Nat):Int)):=row_load r5 rfl rfl
 have ha:=adler_lt 1 b
 have hsr:∀k:Nat,k≤32→aBin .shr (.int .u32 ((adler 1 b:Nat):Int)) (.int .u64 (k:Int))=some (.int .u32 ((adler 1 b / 2 ^ k:Nat):Int)):=fun k hk=>shrN .u32 .u64 (adler 1 b) hk
 have h24:aBin .shr (.int .u32 ((adler 1 b:Nat):Int)) (.int .u64 24)=some (.int .u32 ((adler 1 b / 16777216:Nat):Int)):=hsr 24 om
 have h16:aBin .shr (.int .u32 ((adler 1 b:Nat):Int)) (.int .u64 16)=some (.int .u32 ((adler 1 b / 65536:Nat):Int)):=hsr 16 om
 have h08:aBin .shr (.int .u32 ((adler 1 b:Nat):Int)) (.int .u64 8)=some (.int .u32 ((adler 1 b / 256:Nat):Int)):=hsr 8 om
 have wu:∀a:Nat,IntKind.u8.wrap (a:Int)=((a % 256:Nat):Int):=fun a=>wrap_um .u8 (.inl rfl) a
 have A6:=A5.same (H':=H5.push (.cells (u8s (fourL (adler 1 b))) 0 false)) (by rw[push_next]; omega) (A5.blk'.mono fun c hc=>get_push_lt hc)
 have C6:Cel (H5.next+1) (H5.push (.cells (u8s (fourL (adler 1 b))) 0 false)) (slR H5.next 4 (.known 4)) (u8s (fourL (adler 1 b))):=(row_push H5 (u8s (fourL (adler 1 b)))).cel rfl (Nat.lt_succ_self _)
 obtain⟨s7,H7,m7,A7,n7,b7,o7⟩:=app_u8 A6 C6 (by simp only[lA,fourL,List.length_cons,List.length_nil]; omega)
 rw[push_next]at n7 o7
 have bs:aBuildSl 4 [.int .u8 0] H5 [(0,1,.int .u8 ((adler 1 b / 16777216 % 256:Nat):Int)),(1,1,.int .u8 ((adler 1 b / 65536 % 256:Nat):Int)),(2,1,.int .u8 ((adler 1 b / 256 % 256:Nat):Int)),(3,1,.int .u8 ((adler 1 b % 256:Nat):Int))]=some (slR H5.next 4 (.known 4),H5.push (.cells (u8s (fourL (adler 1 b))) 0 false)):=build4 _ _ _ _ _
 simp only[sA,sB,seval,nil_cell,fldA,fld0,m4,m5,l4,h24,h16,h08,conv_in,wu,bs,m7]
 refine⟨s7,tt,A7.cel1 A7.blk',om,fun c hc h0 hne=>?_⟩
 rw[o7 c om (B3.mono fun d hd=>om),get_push_lt om,q5 c hne,q4 c hne,g3 c hc,(f2.2 c om (.inl h0)).2]
 exact e1 c hc hne
def sum4(l:Bs):Nat:=(l.getD 0 0).toNat*16777216+(l.getD 1 0).toNat*65536+(l.getD 2 0).toNat*256+(l.getD 3 0).toNat
def openE(o tl:Bs):Nat:=if tl.length<4 then 12 else if sum4 tl≠adler 1 o then 11 else if 4<tl.length then 10 else 0
theorem head_ok{H:AHeap}:ACalls Tryz.prog natT 50 [.int .u8 120,.int .u8 1] H fun w H'=>w=.bool true∧H=H':=by
 refine acalls_ofN rfl za50 rfl ?_
 have r1:aBin .rem (.int .u8 120) (.int .u8 16)=some (.int .u8 8):=rfl
 have r2:aBin .quo (.int .u8 120) (.int .u8 16)=some (.int .u8 7):=rfl
 have r3:IntKind.i64.wrap 120=120:=rfl
 have r4:IntKind.i64.wrap 1=1:=rfl
 have r5:IntKind.i64.wrap 30720=30720:=rfl
 have r6:IntKind.i64.wrap 30721=30721:=rfl
 have r7:aBin .rem (.int .i64 30721) (.int .i64 31)=some (.int .i64 0):=rfl
 have r8:aBin .and (.int .u8 1) (.int .u8 32)=some (.int .u8 0):=rfl
 simp only[c50,sA,sB,seval,r1,r2,conv_in,r3,r4,r5,r6,r7,r8]
 exact⟨tt,tt⟩
theorem open_ok{n:Nat}{H:AHeap}{v:AVal}{rest o:Bs}{q most F G:Nat}(hv:Cel n H v (byts (120::1::rest)))(hs:∀lo,lo≤rest.length+2→∃s',aSl 1 v (some (.int .i64 (lo:Int))) none none=some s'∧Cel n H s' (byts ((120::1::rest:Bs).drop lo)))(hn:n≤H.next)
  (hd:rest.length≤500000) (hm:most≤100000) (hM:blocksM (bitsB rest) most F G [] 0=.ok o q) (hq:(q+7) / 8≤rest.length) (ho:o.length≤1000000) {tl:Bs} (ht:rest.drop ((q+7) / 8)=tl) :
  ACalls Tryz.prog natT 26 [v,.int .i64 (most:Int)] H fun w H'=>Ext H.next H H'∧((openE o tl=0∧∃out,w=.tuple [out,.int .i64 0]∧AppN 1 0 H' out (byts o) o.length)∨(openE o tl≠0∧w=.tuple [nilS,.int .i64 (openE o tl:Int)])):=by
 refine acalls_ofN rfl za26 rfl ?_
 have lv:=hv.len
 rw[byts_len]at lv
 have hl':¬(((120::1::rest:Bs).length:Nat):Int)<2:=by simp only[List.length_cons]; omega
 have i0:=hv.idx .i64 (i:=0) (by simp[byts])
 have i1:=hv.idx .i64 (i:=1) (by simp[byts])
 have x0:oLoad false 1 H (cellP v 0)=some (.int .u8 120):=hv.load (i:=0) rfl
 have x1:oLoad false 1 H (cellP v 1)=some (.int .u8 1):=hv.load (i:=1) rfl
 simp only[Int.natCast_zero,Int.natCast_one]at i0 i1
 obtain⟨s2,m2,C2⟩:=hs 2 om
 obtain⟨s3,m3,C3⟩:=hs (2+(q+7) / 8) om
 have e2:(120::1::rest:Bs).drop 2=rest:=rfl
 have e3:(120::1::rest:Bs).drop (2+(q+7) / 8)=tl:=by rw[← List.drop_drop,e2,ht]
 rw[e2]at C2
 rw[e3]at C3
 have m2':aSl 1 v (some (.int .i64 2)) none none=some s2:=m2
 simp only[c26,sA,sB,seval,lv,hl',i0,i1,x0,x1]
 refine head_ok.mono ?_
 rintro _ _ ⟨rfl,rfl⟩
 simp only[sA,sB,seval,m2']
 refine (inflate_spec C2 om hm (by rw[hM]; exact fun h=>by cases h)).mono ?_
 rintro _ H1 ⟨E1,⟨out,o',q',hB,rfl,cO⟩ | ⟨e,hB,rfl⟩⟩
 case inr=>rw[hM]at hB; cases hB
 rw[hM]at hB
 injection hB with hB1 hB2
 subst hB1 hB2
 have w2:IntKind.i64.wrap (2+(((q+7) / 8:Nat):Int))=((2+(q+7) / 8:Nat):Int):=w64
 have C3':=C3.ext (E1.less hn)
 have l3:=C3'.len
 rw[byts_len]at l3
 by_cases h4:tl.length<4
 ·have h4':(tl.length:Int)<4:=om
  have hE:openE o tl=12:=by unfold openE; rw[if_pos h4]
  simp only[sA,sB,seval,ext_0,ext_1,ext_2,w2,m3,l3,h4']
  exact⟨E1,.inr ⟨by rw[hE]; omega,by rw[hE]; rfl⟩⟩
 have h4':¬(tl.length:Int)<4:=om
 have gd:∀i,i<4→tl[i]?=some (tl.getD i 0):=fun i hi=>by rw[List.getD_eq_getElem?_getD,List.getElem?_eq_getElem om]; rfl
 have j0:=C3'.idx .i64 (i:=0) (by rw[byts_len]; omega)
 have j1:=C3'.idx .i64 (i:=1) (by rw[byts_len]; omega)
 have j2:=C3'.idx .i64 (i:=2) (by rw[byts_len]; omega)
 have j3:=C3'.idx .i64 (i:=3) (by rw[byts_len]; omega)
 have y0:=C3'.load (byts_get (gd 0 om))
 have y1:=C3'.load (byts_get (gd 1 om))
 have y2:=C3'.load (byts_get (gd 2 om))
 have y3:=C3'.load (byts_get (gd 3 om))
 simp only[Int.natCast_zero,Int.natCast_one]at j0 j1
 have j2':aIdxA 1 s3 (.int .i64 2)=some (cellP s3 2):=j2
 have j3':aIdxA 1 s3 (.int .i64 3)=some (cellP s3 3):=j3
 have b0:=(tl.getD 0 0).toNat_lt
 have b1:=(tl.getD 1 0).toNat_lt
 have b2:=(tl.getD 2 0).toNat_lt
 have b3:=(tl.getD 3 0).toNat_lt
 have u0:=b_u32 (tl.getD 0 0)
 have u1:=b_u32 (tl.getD 1 0)
 have u2:=b_u32 (tl.getD 2 0)
 have u3:=b_u32 (tl.getD 3 0)
 have hs4:sum4 tl=(tl.getD 0 0).toNat*16777216+(tl.getD 1 0).toNat*65536+(tl.getD 2 0).toNat*256+(tl.getD 3 0).toNat:=rfl
 generalize (tl.getD 0 0).toNat=a at *
 generalize (tl.getD 1 0).toNat=b at *
 generalize (tl.getD 2 0).toNat=c at *
 generalize (tl.getD 3 0).toNat=d at *
 have sh:∀(x k:Nat),k≤32→x*2 ^ k<2 ^ 32→aBin .shl (.int .u32 (x:Int)) (.int .u64 (k:Int))=some (.int .u32 ((x*2 ^ k:Nat):Int)):=fun x k hk hx=>by
  have:=bin_shlU .u32 .u64 (by simp) x (b:=k) (by simp only[IntKind.bits]; omega)
  rw[Nat.mod_eq_of_lt (by simp only[IntKind.bits]; omega)]at this
  exact this
 have s24:aBin .shl (.int .u32 (a:Int)) (.int .u64 24)=some (.int .u32 ((a*2 ^ 24:Nat):Int)):=sh a 24 om om
 have s16:aBin .shl (.int .u32 (b:Int)) (.int .u64 16)=some (.int .u32 ((b*2 ^ 16:Nat):Int)):=sh b 16 om om
 have s08:aBin .shl (.int .u32 (c:Int)) (.int .u64 8)=some (.int .u32 ((c*2 ^ 8:Nat):Int)):=sh c 8 om om
 have o1:=bin_orU .u32 (by simp) (a:=a*2 ^ 24) (b:=b*2 ^ 16) (by simp only[IntKind.bits]; omega) (by simp only[IntKind.bits]; omega)
 rw[or_low 24 a om]at o1
 have o2:=bin_orU .u32 (by simp) (a:=a*2 ^ 24+b*2 ^ 16) (b:=c*2 ^ 8) (by simp only[IntKind.bits]; omega) (by simp only[IntKind.bits]; omega)
 rw[show a*2 ^ 24+b*2 ^ 16=(a*256+b)*2 ^ 16 by omega,or_low 16 (a*256+b) om,← show a*2 ^ 24+b*2 ^ 16=(a*256+b)*2 ^ 16 by omega]at o2
 have o3:=bin_orU .u32 (by simp) (a:=a*2 ^ 24+b*2 ^ 16+c*2 ^ 8) (b:=d) (by simp only[IntKind.bits]; omega) (by simp only[IntKind.bits]; omega)
 rw[show a*2 ^ 24+b*2 ^ 16+c*2 ^ 8=(a*65536+b*256+c)*2 ^ 8 by omega,or_low 8 (a*65536+b*256+c) om,show (a*65536+b*256+c)*2 ^ 8+d=sum4 tl by omega,← show a*2 ^ 24+b*2 ^ 16+c*2 ^ 8=(a*65536+b*256+c)*2 ^ 8 by omega]at o3
 simp only[sA,sB,seval,ext_0,ext_1,ext_2,w2,m3,l3,h4',j0,j1,j2',j3',y0,y1,y2,y3,conv_in,u0,u1,u2,u3,s24,s16,s08,o1,o2,o3]
 have aspec:=adler_spec (cO.cel1 cO.blk') 1 om om
 simp only[Int.natCast_one]at aspec
 refine aspec.mono ?_
 rintro _ _ ⟨rfl,rfl⟩
 by_cases hsum:sum4 tl=adler 1 o
 ·have hsum':((sum4 tl:Nat):Int)=((adler 1 o:Nat):Int):=by rw[hsum]
  by_cases h5:4<tl.length
  ·have h5':(4:Int)<(tl.length:Int):=om
   have hE:openE o tl=10:=by unfold openE; rw[if_neg h4,if_neg (by simpa using hsum),if_pos h5]
   simp only[sA,sB,seval,hsum',l3,h5']
   exact⟨E1,.inr ⟨by rw[hE]; omega,by rw[hE]; rfl⟩⟩
  ·have h5':¬(4:Int)<(tl.length:Int):=om
   have hE:openE o tl=0:=by unfold openE; rw[if_neg h4,if_neg (by simpa using hsum),if_neg h5]
   simp only[sA,sB,seval,hsum',l3,h5']
   exact⟨E1,.inl ⟨hE,out,tt,cO⟩⟩
 ·have hsum':¬((sum4 tl:Nat):Int)=((adler 1 o:Nat):Int):=om
  have hE:openE o tl=11:=by unfold openE; rw[if_neg h4,if_pos hsum]
  simp only[sA,sB,seval,hsum']
  exact⟨E1,.inr ⟨by rw[hE]; omega,by rw[hE]; rfl⟩⟩
end Go.Proofs.Tb
