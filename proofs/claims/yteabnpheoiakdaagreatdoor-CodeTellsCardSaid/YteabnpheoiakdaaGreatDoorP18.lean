/- Part of a proof (YK3 YK5 YWE YWF YWG YK6 YK7 YK4 YX13 YX14 YCl); no condition. -/
import Derived.OpenShut
import Derived.SizedLaws
import Derived.Shelf.LaysM
import Derived.Shelf.Strconv.Clone
import Derived.Test.YteabnpheoiakdaaGreatDoorProg
import Derived.Test.YteabnpheoiakdaaGreatDoorP8
import Derived.Test.YteabnpheoiakdaaGreatDoorP10
import Derived.Test.YteabnpheoiakdaaGreatDoorP17
set_option linter.unusedSimpArgs false
set_option linter.unusedVariables false
set_option linter.unnecessarySimpa false
namespace Go.Proofs.Wo
open Go.Abs Go.Abs.S
def I64(z:Int):Prop:=-9223372036854775808≤z∧z<9223372036854775808
theorem intF_len{z:Int}(h:I64 z):(intF z).length≤1000000000000000000:=by
 obtain⟨h1,h2⟩:=h
 have:=digsF_len z.natAbs z.natAbs rL
 unfold intF
 split
 ·simp only[List.length_cons]; omega
 ·omega
theorem opNames_len:∀s∈opNames,s.length≤10:=by decide
theorem wordO_len{o:Nat}(h:o<256):(wordO o).length≤100:=by
 have d:∀n:Nat,n<256→(intF (n:Int)).length≤30:=fun n hn=>by
  have:=digsF_len n n rL
  unfold intF
  rw[if_neg om,show ((n:Int)).natAbs=n from rfl]
  omega
 unfold wordO
 split
 ·have:=d 0 om
  simp only[lA,List.length_cons,List.length_nil]
  have e:(intF 0).length=(intF ((0:Nat):Int)).length:=rfl
  omega
 ·split
  ·rename_i s hs
   have:=opNames_len s (List.mem_of_getElem? hs)
   omega
  ·have:=d o h
   simp only[lA,List.length_cons,List.length_nil]
   omega
set_option maxRecDepth 100000 in
theorem zshow_spec{i:InZ}{H:AHeap}(ho:i.o<256)(ha:I64 i.a)(hb:I64 i.b)(hc:I64 i.c):ACalls Tryz.prog natT 26 [izA i] H fun u H'=>u=.str (showI i)∧Ext H.next H H':=by
 obtain⟨o,a,b,c⟩:=i
 simp only at ho ha hb hc
 obtain⟨H1,m1,r1,n1,k1⟩:=row_newL H [.int .u8 (o:Int),.int .i64 a,.int .i64 b,.int .i64 c] (n:=4) rfl
 have E1:Ext H.next H H1:=⟨om,fun c hc=>k1 c om⟩
 obtain⟨H2,hH2⟩:∃J,J=H1.push (.cells (opNames.map .str) 0 false):=⟨_,rfl⟩
 have E2:Ext H1.next H1 H2:=by rw[hH2]; exact⟨by show _≤H1.next+1; omega,fun c hc=>get_push_lt hc⟩
 have e2:=E2.next
 have b2:aBuildSl 34 [.str []] H1 [(0,1,.str [99,111,110,115,116]),(1,1,.str [109,111,118,101]),(2,1,.str [97,100,100]),(3,1,.str [115,117,98]),(4,1,.str [116,105,109,101,115]),(5,1,.str [111,118,101,114]),(6,1,.str [110,101,103]),(7,1,.str [110,111,116]),(8,1,.str [101,113]),(9,1,.str [110,101]),(10,1,.str [108,101]),(11,1,.str [103,101]),(12,1,.str [108,116]),(13,1,.str [103,116]),(14,1,.str [97,110,100]),(15,1,.str [111,114]),(16,1,.str [118,101,99]),(17,1,.str [120]),(18,1,.str [121]),(19,1,.str [122]),(20,1,.str [100,111,116]),(21,1,.str [99,114,111,115,115]),(22,1,.str [117,110,105,116]),(23,1,.str [115,113,114,116]),(24,1,.str [115,105,110]),(25,1,.str [99,111,115]),(26,1,.str [97,98,115]),(27,1,.str [102,108,111,111,114]),(28,1,.str [109,105,110]),(29,1,.str [109,97,120]),(30,1,.str [115,97,109,112,108,101]),(31,1,.str [106,117,109,112]),(32,1,.str [117,110,108,101,115,115]),(33,1,.str [114,101,116,117,114,110])]=some (.slice (some ⟨H1.next,34,0⟩) 34 (.known 34),H2):=by rw[hH2]; rfl
 have c2:Cel (H1.next+1) H2 (.slice (some ⟨H1.next,34,0⟩) 34 (.known 34)) (opNames.map .str):=by rw[hH2]; exact bs_celA (xs:=opNames.map .str)
 have n2:H2.next=H1.next+1:=by rw[hH2]; rfl
 have c2l:aLenK false (.slice (some ⟨H1.next,34,0⟩) 34 (.known 34))=some (.int .i64 34):=rfl
 have LD:∀{K:AHeap},Ext H1.next H1 K→oLoad false 1 K (cellR H.next 4 0)=some (.int .u8 (o:Int))∧oLoad false 1 K (cellR H.next 4 1)=some (.int .i64 a)∧oLoad false 1 K (cellR H.next 4 2)=some (.int .i64 b)∧oLoad false 1 K (cellR H.next 4 3)=some (.int .i64 c):=fun e=>by
  have r:=r1.same (e.old _ om)
  exact⟨row_load r rfl rfl,row_load r rfl rfl,row_load r rfl rfl,row_load r rfl rfl⟩
 obtain⟨f0,_,_,_⟩:=LD E2
 have w0:IntKind.i64.wrap (o:Int)=(o:Int):=w64
 have d0:(intF (o:Int)).length≤1000000000000000000:=intF_len ⟨om,om⟩
 have so:aBin .add (.str [111,112]) (.str (intF (o:Int)))=some (.str ([111,112]++intF (o:Int))):=str_add (by simp only[List.length_cons,List.length_nil]; omega)
 have wl:=wordO_len ho
 have la:=intF_len ha
 have lb:=intF_len hb
 have lc:=intF_len hc
 have tr:∀{K L:AHeap},Ext H1.next H1 K→Ext K.next K L→Ext H1.next H1 L:=fun e f=>e.trans ⟨f.next,fun c hc=>f.old c (by have:=e.next; omega)⟩
 have t1:aBin .add (.str (wordO o)) (.str [32])=some (.str (wordO o++[32])):=str_add (by simp only[List.length_cons,List.length_nil]; omega)
 have t2:aBin .add (.str (wordO o++[32])) (.str (intF a))=some (.str (wordO o++[32]++intF a)):=str_add (by simp only[lA,List.length_cons,List.length_nil]; omega)
 have t3:aBin .add (.str (wordO o++[32]++intF a)) (.str [32])=some (.str (wordO o++[32]++intF a++[32])):=str_add (by simp only[lA,List.length_cons,List.length_nil]; omega)
 have t4:aBin .add (.str (wordO o++[32]++intF a++[32])) (.str (intF b))=some (.str (wordO o++[32]++intF a++[32]++intF b)):=str_add (by simp only[lA,List.length_cons,List.length_nil]; omega)
 have t5:aBin .add (.str (wordO o++[32]++intF a++[32]++intF b)) (.str [32])=some (.str (wordO o++[32]++intF a++[32]++intF b++[32])):=str_add (by simp only[lA,List.length_cons,List.length_nil]; omega)
 have t6:aBin .add (.str (wordO o++[32]++intF a++[32]++intF b++[32])) (.str (intF c))=some (.str (wordO o++[32]++intF a++[32]++intF b++[32]++intF c)):=str_add (by simp only[lA,List.length_cons,List.length_nil]; omega)
 have hs:showI ⟨o,a,b,c⟩=wordO o++[32]++intF a++[32]++intF b++[32]++intF c:=by simp[showI]
 rw[hs]
 obtain⟨W,hW⟩:∃W,W=wordO o:=⟨_,rfl⟩
 obtain⟨S2,hS2⟩:∃S,S=W++[32]:=⟨_,rfl⟩
 obtain⟨S3,hS3⟩:∃S,S=S2++intF a:=⟨_,rfl⟩
 obtain⟨S4,hS4⟩:∃S,S=S3++[32]:=⟨_,rfl⟩
 obtain⟨S5,hS5⟩:∃S,S=S4++intF b:=⟨_,rfl⟩
 obtain⟨S6,hS6⟩:∃S,S=S5++[32]:=⟨_,rfl⟩
 obtain⟨S7,hS7⟩:∃S,S=S6++intF c:=⟨_,rfl⟩
 rw[← hW]at t1 t2 t3 t4 t5 t6 ⊢
 rw[← hS2]at t1 t2 t3 t4 t5 t6 ⊢
 rw[← hS3]at t2 t3 t4 t5 t6 ⊢
 rw[← hS4]at t3 t4 t5 t6 ⊢
 rw[← hS5]at t4 t5 t6 ⊢
 rw[← hS6]at t5 t6 ⊢
 rw[← hS7]at t6 ⊢
 unfold izA
 refine acalls_ofN rfl za26 rfl ?_
 simp only[c26,sA,sB,seval,cells_agg,m1,b2,fld0,f0,conv_in,w0]
 refine (zdec_spec (z:=(o:Int)) om om).mono ?_
 rintro _ H3 ⟨rfl,E3⟩
 have e3:=E3.next
 have EK:=tr E2 E3
 obtain⟨f0,fa,fb,fc⟩:=LD EK
 simp only[sA,sB,seval,so,fld0,f0]
 by_cases h1:1≤o∧o≤34
 ·have g1:(1:Int)≤(o:Int):=om
  have g2:(o:Int)≤34:=om
  have w8:IntKind.u8.wrap ((o:Int)-1)=((o-1:Nat):Int):=by rw[IntKind.wrap_u8]; omega
  obtain⟨y,hy⟩:∃y,opNames[o-1]?=some y:=⟨_,List.getElem?_eq_getElem (by show o-1<34; omega)⟩
  have hwo:wordO o=y:=by unfold wordO; rw[if_neg om,hy]
  have c3:Cel (H1.next+1) H3 (.slice (some ⟨H1.next,34,0⟩) 34 (.known 34)) (opNames.map .str):=c2.ext (E3.less om)
  have ix:=c3.idx .u8 (i:=o-1) (by rw[List.length_map]; show o-1<34; omega)
  have lo:=c3.load (i:=o-1) (x:=.str y) (by simp[hy])
  rw[← hwo,← hW]at lo
  simp only[sA,sB,seval,g1,g2,conv_in,w0,c2l,fld0,f0,w8,ix,lo]
  refine aw_drawC rfl ?_
  simp only[sR,sA,sB,seval,t1,fldA,fa]
  refine (zdec_spec ha.1 ha.2).mono ?_
  rintro _ H4 ⟨rfl,E4⟩
  obtain⟨_,fa4,fb4,fc4⟩:=LD (tr EK E4)
  simp only[sR,sA,sB,seval,t2,t3,fldA,fb4]
  refine (zdec_spec hb.1 hb.2).mono ?_
  rintro _ H5 ⟨rfl,E5⟩
  obtain⟨_,fa5,fb5,fc5⟩:=LD (tr (tr EK E4) E5)
  simp only[sR,sA,sB,seval,t4,t5,fldA,fc5]
  refine (zdec_spec hc.1 hc.2).mono ?_
  rintro _ H6 ⟨rfl,E6⟩
  simp only[sR,sA,sB,seval,t6]
  simp only[ck_nil',ck_cons,ckP_load,ckP_nil,ck_end,and_true,true_and,List.map_cons,List.map_nil,sA,sB,seval]
  refine⟨⟨⟨_,rfl,fun _=>⟨_,fb,aeq_int _ _⟩⟩,⟨_,rfl,fun _=>⟨_,fc,aeq_int _ _⟩⟩,⟨_,rfl,fun _=>⟨_,fc4,aeq_int _ _⟩⟩⟩,?_⟩
  have EE:=tr (tr (tr EK E4) E5) E6
  exact⟨by have:=EE.next; omega,fun c hc=>by rw[EE.old c om,E1.old c hc]⟩
 ·have hwo:wordO o=[111,112]++intF (o:Int):=by
   unfold wordO
   by_cases h0:o=0
   ·subst h0; rfl
   ·rw[if_neg h0]
    have:opNames[o-1]?=none:=List.getElem?_eq_none (by show 34≤o-1; omega)
    rw[this]
  rw[← hwo,← hW]at so
  by_cases g1:(1:Int)≤(o:Int)
  ·have g2:¬(o:Int)≤34:=om
   have hq:([111,112]++intF (o:Int):Bs)=W:=by rw[hW,hwo]
   simp only[List.cons_append,List.nil_append]at hq
   simp only[sA,sB,seval,g1,g2,conv_in,w0,c2l,fld0,f0,hq]
   refine aw_drawC rfl ?_
   simp only[sR,sA,sB,seval,t1,fldA,fa]
   refine (zdec_spec ha.1 ha.2).mono ?_
   rintro _ H4 ⟨rfl,E4⟩
   obtain⟨_,fa4,fb4,fc4⟩:=LD (tr EK E4)
   simp only[sR,sA,sB,seval,t2,t3,fldA,fb4]
   refine (zdec_spec hb.1 hb.2).mono ?_
   rintro _ H5 ⟨rfl,E5⟩
   obtain⟨_,fa5,fb5,fc5⟩:=LD (tr (tr EK E4) E5)
   simp only[sR,sA,sB,seval,t4,t5,fldA,fc5]
   refine (zdec_spec hc.1 hc.2).mono ?_
   rintro _ H6 ⟨rfl,E6⟩
   simp only[sR,sA,sB,seval,t6]
   simp only[ck_nil',ck_cons,ckP_load,ckP_nil,ck_end,and_true,true_and,List.map_cons,List.map_nil,sA,sB,seval]
   refine⟨⟨⟨_,rfl,fun _=>⟨_,fb,aeq_int _ _⟩⟩,⟨_,rfl,fun _=>⟨_,fc,aeq_int _ _⟩⟩,⟨_,rfl,fun _=>⟨_,fc4,aeq_int _ _⟩⟩⟩,?_⟩
   have EE:=tr (tr (tr EK E4) E5) E6
   exact⟨by have:=EE.next; omega,fun c hc=>by rw[EE.old c om,E1.old c hc]⟩
  ·have hq:([111,112]++intF (o:Int):Bs)=W:=by rw[hW,hwo]
   simp only[List.cons_append,List.nil_append]at hq
   simp only[sA,sB,seval,g1,hq]
   refine aw_drawC rfl ?_
   simp only[sR,sA,sB,seval,t1,fldA,fa]
   refine (zdec_spec ha.1 ha.2).mono ?_
   rintro _ H4 ⟨rfl,E4⟩
   obtain⟨_,fa4,fb4,fc4⟩:=LD (tr EK E4)
   simp only[sR,sA,sB,seval,t2,t3,fldA,fb4]
   refine (zdec_spec hb.1 hb.2).mono ?_
   rintro _ H5 ⟨rfl,E5⟩
   obtain⟨_,fa5,fb5,fc5⟩:=LD (tr (tr EK E4) E5)
   simp only[sR,sA,sB,seval,t4,t5,fldA,fc5]
   refine (zdec_spec hc.1 hc.2).mono ?_
   rintro _ H6 ⟨rfl,E6⟩
   simp only[sR,sA,sB,seval,t6]
   simp only[ck_nil',ck_cons,ckP_load,ckP_nil,ck_end,and_true,true_and,List.map_cons,List.map_nil,sA,sB,seval]
   refine⟨⟨⟨_,rfl,fun _=>⟨_,fb,aeq_int _ _⟩⟩,⟨_,rfl,fun _=>⟨_,fc,aeq_int _ _⟩⟩,⟨_,rfl,fun _=>⟨_,fc4,aeq_int _ _⟩⟩⟩,?_⟩
   have EE:=tr (tr (tr EK E4) E5) E6
   exact⟨by have:=EE.next; omega,fun c hc=>by rw[EE.old c om,E1.old c hc]⟩
open Go.Abs Go.Abs.S
def AppM(n:Nat)(H:AHeap)(s:AVal)(l:List AVal):Prop:=
 ∃b low,s=.slice (some ⟨b,l.length,0⟩) l.length (.open_ 1)∧n≤b∧b<H.next∧H.get b=some (.cells l low false true)∧low≤l.length
theorem AppM.sb(H:AHeap)(s:Bs):∃v H',aSB H (.str s)=some (v,H')∧AppM H.next H' v (byts s)∧Ext H.next H H':=by
 refine⟨_,_,rfl,⟨H.next,0,by simp[byts],Nat.le_refl _,Nat.lt_succ_self _,?_,Nat.zero_le _⟩,⟨by show _≤H.next+1; omega,fun c hc=>get_push_lt hc⟩⟩
 rw[AHeap.get_push,if_pos rfl]; rfl
theorem AppM.app{n:Nat}{H:AHeap}{s x:AVal}{l xs:List AVal}{k:Nat}(h:AppM n H s l)(hs:aSrc 1 H x=some (k,xs))(hk:xs.length=k)(hk0:0<k)(ho:xs.all AVal.one=true)(hb:2*(l.length+k)≤281474976710656) :
  ∃s' H',aAppend 1 1 H s x=some (s',H')∧AppM n H' s' (l++xs)∧Ext n H H':=by
 obtain⟨b,low,rfl,h2,h3,h4,h5⟩:=h
 have hgrow:growCells H ⟨b,l.length,0⟩ l.length xs=some (H.set b (.cells (l++xs) low false true)):=by
  unfold growCells
  simp only[h4,Nat.ble_eq_true_of_le h5,Nat.ble_eq_true_of_le rL,Nat.ble_eq_true_of_le (Nat.zero_le _),Nat.beq_refl,ho,Nat.ble_eq_true_of_le (show l.length+1≤l.length+xs.length by omega),Bool.and_self,cond_true,List.take_length]
 have e1:Nat.ble (0+(l.length+k)*1) l.length=false:=by rw[ble_dec]; exact decide_eq_false om
 have e0:Nat.beq k 0=false:=by rw[beq_dec]; exact decide_eq_false om
 have c1:(Nat.blt 0 1&&(Nat.ble ((2*(l.length+k)+0)*1) 281474976710656&&(Nat.ble (l.length+k) 9223372036854775807&&(Nat.beq xs.length (k*1)&&xs.all AVal.one))))=true:=by
  simp only[Nat.add_zero,Nat.mul_one,Nat.ble_eq_true_of_le hb,Nat.ble_eq_true_of_le (show l.length+k≤9223372036854775807 by omega),hk,Nat.beq_refl,ho]
  rfl
 refine⟨.slice (some ⟨b,(l++xs).length,0⟩) (l++xs).length (.open_ 1),H.set b (.cells (l++xs) low false true),?_,⟨b,low,rfl,h2,by rw[set_next]; exact h3,by rw[AHeap.get_set,if_pos rfl],by simp; omega⟩,⟨by rw[set_next]; exact Nat.le_refl _,fun c hc=>by rw[AHeap.get_set,if_neg om]⟩⟩
 have q1:Nat.ble (2*(l.length+k)) 281474976710656=true:=Nat.ble_eq_true_of_le hb
 have q2:Nat.ble (l.length+k) 9223372036854775807=true:=Nat.ble_eq_true_of_le om
 have q3:Nat.ble (l.length+k) l.length=false:=by rw[ble_dec]; exact decide_eq_false om
 have q4:Nat.beq k k=true:=by rw[beq_dec]; exact decide_eq_true rfl
 have q5:Nat.blt 0 1=true:=rfl
 simp only[aAppend,hs,e0,cond_false,hk,q1,q2,q3,q4,q5,ho,Bool.and_self,cond_true,Nat.beq_refl,Nat.zero_add,Nat.mul_one,Nat.add_zero,hgrow,lA]
open Go.Abs Go.Abs.S
def pd:Nat→Nat→List Nat
 | 0,_=>[]
 | k+1,u=>pd k (u / 10)++[u % 10]
theorem pd_len(k u:Nat):(pd k u).length=k:=by
 induction k generalizing u with
 | zero=>rfl
 | succ k ih=>simp[pd,ih]
theorem pd_dec(k:Nat):∀u,10 ^ k≤u→u<10 ^ (k+1)→pd (k+1) u=decD u:=by
 induction k with
 | zero=>
  intro u h1 h2
  rw[decD_lt (by simpa using h2)]
  have:u % 10=u:=Nat.mod_eq_of_lt (by simpa using h2)
  simp[pd,this]
 | succ k ih=>
  intro u h1 h2
  have h10:¬u<10:=by
   have:10 ^ 1≤10 ^ (k+1):=Nat.pow_le_pow_right om om
   omega
  rw[decD_ge h10,pd,ih (u / 10) (by rw[Nat.pow_succ]at h1; omega) (by rw[Nat.pow_succ]at h2; omega)]
def smalls:Bs:=(List.range 100).flatMap fun d=>[UInt8.ofNat (48+d / 10),UInt8.ofNat (48+d % 10)]
theorem small_hi{d:Nat}(h:d<100):smalls[d*2]?=some (UInt8.ofNat (48+d / 10)):=by
 have:∀d,d<100→smalls[d*2]?=some (UInt8.ofNat (48+d / 10)):=by decide
 exact this d h
theorem small_lo{d:Nat}(h:d<100):smalls[d*2+1]?=some (UInt8.ofNat (48+d % 10)):=by
 have:∀d,d<100→smalls[d*2+1]?=some (UInt8.ofNat (48+d % 10)):=by decide
 exact this d h
open Go.Abs Go.Abs.S
theorem smalls_lit:smalls=[48,48,48,49,48,50,48,51,48,52,48,53,48,54,48,55,48,56,48,57,49,48,49,49,49,50,49,51,49,52,49,53,49,54,49,55,49,56,49,57,50,48,50,49,50,50,50,51,50,52,50,53,50,54,50,55,50,56,50,57,51,48,51,49,51,50,51,51,51,52,51,53,51,54,51,55,51,56,51,57,52,48,52,49,52,50,52,51,52,52,52,53,52,54,52,55,52,56,52,57,53,48,53,49,53,50,53,51,53,52,53,53,53,54,53,55,53,56,53,57,54,48,54,49,54,50,54,51,54,52,54,53,54,54,54,55,54,56,54,57,55,48,55,49,55,50,55,51,55,52,55,53,55,54,55,55,55,56,55,57,56,48,56,49,56,50,56,51,56,52,56,53,56,54,56,55,56,56,56,57,57,48,57,49,57,50,57,51,57,52,57,53,57,54,57,55,57,56,57,57]:=by kernel_rfl
theorem small_at{d:Nat}(h:d<100)(k:IntKind):aIdxS (.str smalls) (.int k ((d*2:Nat):Int))=some (.int .u8 ((48+d / 10:Nat):Int)):=by
 rw[str_idx (small_hi h)]
 have:(UInt8.ofNat (48+d / 10)).toNat=48+d / 10:=by rw[UInt8.toNat_ofNat']; omega
 rw[this]
theorem small_at1{d:Nat}(h:d<100)(k:IntKind):aIdxS (.str smalls) (.int k ((d*2+1:Nat):Int))=some (.int .u8 ((48+d % 10:Nat):Int)):=by
 rw[str_idx (small_lo h)]
 have:(UInt8.ofNat (48+d % 10)).toNat=48+d % 10:=by rw[UInt8.toNat_ofNat']; omega
 rw[this]
theorem small_sl{d:Nat}(h:d<100):aSlStr (.str smalls) (some (.int .i64 ((d*2:Nat):Int))) (some (.int .i64 ((d*2+2:Nat):Int)))=some (.str [UInt8.ofNat (48+d / 10),UInt8.ofNat (48+d % 10)]):=by
 have hl:smalls.length=200:=by kernel_rfl
 rw[str_sl om om]
 have:∀d,d<100→(smalls.drop (d*2)).take 2=[UInt8.ofNat (48+d / 10),UInt8.ofNat (48+d % 10)]:=of_decide_eq_true (by kernel_rfl)
 rw[show d*2+2-d*2=2 by omega,this d h]
def tens:Bs:=[48,49,50,51,52,53,54,55,56,57,97,98,99,100,101,102,103,104,105,106,107,108,109,110,111,112,113,114,115,116,117,118,119,120,121,122]
theorem tens_sl{d:Nat}(h:d<10):aSlStr (.str tens) (some (.int .i64 (d:Int))) (some (.int .i64 ((d+1:Nat):Int)))=some (.str [UInt8.ofNat (48+d)]):=by
 have hl:tens.length=36:=by decide
 rw[str_sl om om]
 have:∀d,d<10→(tens.drop d).take 1=[UInt8.ofNat (48+d)]:=by decide
 rw[show d+1-d=1 by omega,this d h]
theorem lit_tens:tens=[48,49,50,51,52,53,54,55,56,57,97,98,99,100,101,102,103,104,105,106,107,108,109,110,111,112,113,114,115,116,117,118,119,120,121,122]:=rfl
set_option maxRecDepth 100000 in
theorem small_spec(h77:natT.is 177=false){d:Nat}(hd:d<100){H:AHeap} :
  ACalls Tryz.prog natT 177 [.int .i64 (d:Int)] H fun v H'=>v=.str (asc (decD d))∧H'=H:=by
 refine acalls_ofN h77 za177 rfl ?_
 simp only[c177,← smalls_lit,← lit_tens]
 by_cases h:d<10
 ·have h':(d:Int)<10:=om
  simp only[sA,sB,Int.reduceNegSucc,reduceCtorEq,Nat.reduceEqDiff,↓reduceIte,Nat.reduceAdd,Int.reduceEq,Int.reduceLT,Int.reduceLE,Nat.reduceLT,h',wrap1 d om,tens_sl h]
  exact⟨by rw[decD_lt h]; rfl,by trivial⟩
 ·have h':¬(d:Int)<10:=om
  have w1:IntKind.i64.wrap ((d:Int)*2)=((d*2:Nat):Int):=by rw[wrap64 om om]; omega
  have w2:IntKind.i64.wrap (((d*2:Nat):Int)+2)=((d*2+2:Nat):Int):=by rw[wrap64 om om]; omega
  simp only[sA,sB,Int.reduceNegSucc,reduceCtorEq,Nat.reduceEqDiff,↓reduceIte,Nat.reduceAdd,Int.reduceEq,Int.reduceLT,Int.reduceLE,Nat.reduceLT,h',w1,w2,small_sl hd]
  refine⟨?_,by trivial⟩
  rw[decD_ge h,decD_lt om]; simp[asc]
theorem bool2_spec(h95:natT.is 197=false)(b:Bool){H:AHeap} :
  ACalls Tryz.prog natT 197 [.bool b] H fun v H'=>v=.int .i64 ((if b=true then 1 else 0:Nat):Int)∧H'=H:=by
 refine acalls_ofN h95 za197 rfl ?_
 cases b with
 | true=>simp only[c197,sA,sB,Int.reduceNegSucc,reduceCtorEq,Nat.reduceEqDiff,↓reduceIte,Nat.reduceAdd,Int.reduceEq,Int.reduceLT,Int.reduceLE,Nat.reduceLT]; exact⟨by trivial,by trivial⟩
 | false=>simp only[c197,sA,sB,Int.reduceNegSucc,reduceCtorEq,Nat.reduceEqDiff,↓reduceIte,Nat.reduceAdd,Int.reduceEq,Int.reduceLT,Int.reduceLE,Nat.reduceLT]; exact⟨by trivial,by trivial⟩
theorem log10_spec(h93:natT.is 195=false){x:Nat}(hx:x≤64){H:AHeap} :
  ACalls Tryz.prog natT 195 [.int .i64 (x:Int)] H fun v H'=>v=.int .i64 ((x*78913 / 262144:Nat):Int)∧H'=H:=by
 refine acalls_ofN h93 za195 rfl ?_
 have w1:IntKind.i64.wrap ((x:Int)*78913)=((x*78913:Nat):Int):=by rw[wrap64 om om]; omega
 have e1:=shrN .i64 .u64 (x*78913) (b:=18) dD
 simp only[Int.cast_ofNat_Int]at e1
 simp only[c195,sA,sB,Int.reduceNegSucc,reduceCtorEq,Nat.reduceEqDiff,↓reduceIte,Nat.reduceAdd,Int.reduceEq,Int.reduceLT,Int.reduceLE,Nat.reduceLT,w1,e1]
 exact⟨by trivial,by trivial⟩
def len8:Bs:=[0,1,2,2,3,3,3,3,4,4,4,4,4,4,4,4,5,5,5,5,5,5,5,5,5,5,5,5,5,5,5,5,6,6,6,6,6,6,6,6,6,6,6,6,6,6,6,6,6,6,6,6,6,6,6,6,6,6,6,6,6,6,6,6,7,7,7,7,7,7,7,7,7,7,7,7,7,7,7,7,7,7,7,7,7,7,7,7,7,7,7,7,7,7,7,7,7,7,7,7,7,7,7,7,7,7,7,7,7,7,7,7,7,7,7,7,7,7,7,7,7,7,7,7,7,7,7,7,8,8,8,8,8,8,8,8,8,8,8,8,8,8,8,8,8,8,8,8,8,8,8,8,8,8,8,8,8,8,8,8,8,8,8,8,8,8,8,8,8,8,8,8,8,8,8,8,8,8,8,8,8,8,8,8,8,8,8,8,8,8,8,8,8,8,8,8,8,8,8,8,8,8,8,8,8,8,8,8,8,8,8,8,8,8,8,8,8,8,8,8,8,8,8,8,8,8,8,8,8,8,8,8,8,8,8,8,8,8,8,8,8,8,8,8,8,8,8,8,8,8,8,8,8,8,8,8]
theorem len8_lit:len8=[0,1,2,2,3,3,3,3,4,4,4,4,4,4,4,4,5,5,5,5,5,5,5,5,5,5,5,5,5,5,5,5,6,6,6,6,6,6,6,6,6,6,6,6,6,6,6,6,6,6,6,6,6,6,6,6,6,6,6,6,6,6,6,6,7,7,7,7,7,7,7,7,7,7,7,7,7,7,7,7,7,7,7,7,7,7,7,7,7,7,7,7,7,7,7,7,7,7,7,7,7,7,7,7,7,7,7,7,7,7,7,7,7,7,7,7,7,7,7,7,7,7,7,7,7,7,7,7,8,8,8,8,8,8,8,8,8,8,8,8,8,8,8,8,8,8,8,8,8,8,8,8,8,8,8,8,8,8,8,8,8,8,8,8,8,8,8,8,8,8,8,8,8,8,8,8,8,8,8,8,8,8,8,8,8,8,8,8,8,8,8,8,8,8,8,8,8,8,8,8,8,8,8,8,8,8,8,8,8,8,8,8,8,8,8,8,8,8,8,8,8,8,8,8,8,8,8,8,8,8,8,8,8,8,8,8,8,8,8,8,8,8,8,8,8,8,8,8,8,8,8,8,8,8,8,8]:=rfl
theorem len8_at{v:Nat}(h:v<256):∃l:UInt8,len8[v]?=some l∧v<2 ^ l.toNat∧(0<v→2 ^ l.toNat≤2*v)∧l.toNat≤8:=by
 have:∀v,v<256→(match len8[v]? with | some l=>decide (v<2 ^ l.toNat)&&(decide (v=0)||decide (2 ^ l.toNat≤2*v))&&decide (l.toNat≤8) | none=>false)=true:=of_decide_eq_true (by kernel_rfl)
 have:=this v h
 cases hl:len8[v]? with
 | none=>rw[hl]at this; simp at this
 | some l=>
  rw[hl]at this
  simp only[Bool.and_eq_true,Bool.or_eq_true,decide_eq_true_eq]at this
  exact⟨l,rfl,this.1.1,fun h0=>by rcases this.1.2 with h | h; omega; exact h,this.2⟩
set_option maxRecDepth 100000 in
theorem len64_spec(h94:natT.is 196=false){u:Nat}(h0:0<u)(hu:u<18446744073709551616){H:AHeap} :
  ACalls Tryz.prog natT 196 [.int .u64 (u:Int)] H fun v H'=>(∃L:Nat,v=.int .i64 (L:Int)∧u<2 ^ L∧2 ^ L≤2*u∧L≤64)∧H'=H:=by
 refine acalls_ofN h94 za196 rfl ?_
 simp only[c196,← len8_lit]
 have key:∀(x:Nat) (s l:Nat),u / 2 ^ s=x→0<x→x<2 ^ l→2 ^ l≤2*x→s≤56→u<2 ^ (s+l)∧2 ^ (s+l)≤2*u:=by
  intro x s l hx hx0 h1 h2 hs
  have hp:0<2 ^ s:=Nat.pos_of_ne_zero (by simp)
  rw[Nat.pow_add]
  generalize 2 ^ s=p at *
  generalize 2 ^ l=q at *
  subst hx
  have h3:=Nat.div_mul_le_self u p
  have h4:=Nat.lt_div_mul_add hp (a:=u)
  constructor
  ·have:(u / p+1)*p≤q*p:=Nat.mul_le_mul_right _ h1
   rw[Nat.add_mul,Nat.one_mul]at this
   rw[Nat.mul_comm p q]
   omega
  ·calc p*q≤p*(2*(u / p)):=Nat.mul_le_mul_left _ h2
    _=2*(u / p*p):=by rw[Nat.mul_comm p,Nat.mul_assoc]
    _≤2*u:=om
 by_cases c0:4294967296≤u
 ·have n32:(4294967296:Int)≤(u:Int):=om
  have e32:=shrN .u64 .u64 u (b:=32) dD
  simp only[Int.cast_ofNat_Int,Nat.reducePow]at e32
  have w0:IntKind.i64.wrap (0+32)=32:=by decide
  have hy:u / 4294967296<4294967296:=om
  have hyu:u / 2 ^ 32=u / 4294967296:=rfl
  have key':∀(x s:Nat) (l:Nat),u / 4294967296 / 2 ^ s=x→0<x→x<2 ^ l→2 ^ l≤2*x→s≤24→u<2 ^ (32+s+l)∧2 ^ (32+s+l)≤2*u:=fun x s l h a b c d=>key x (32+s) l (by rw[Nat.pow_add,← Nat.div_div_eq_div_mul]; exact h) a b c om
  have hy0:0<u / 4294967296:=om
  generalize u / 4294967296=y at *
  have e16:=shrN .u64 .u64 y (b:=16) dD
  simp only[Int.cast_ofNat_Int,Nat.reducePow]at e16
  by_cases c1:65536≤y
  ·have c1':(65536:Int)≤(y:Int):=om
   have e8:=shrN .u64 .u64 (y / 65536) (b:=8) dD
   simp only[Int.cast_ofNat_Int,Nat.reducePow]at e8
   have w1:IntKind.i64.wrap (32+16)=48:=by decide
   by_cases c2:256≤y / 65536
   ·have c2':(256:Int)≤((y / 65536:Nat):Int):=om
    have w2:IntKind.i64.wrap (48+8)=56:=by decide
    obtain⟨l,l1,l2,l3,l4⟩:=len8_at (v:=y / 65536 / 256) om
    have w3:IntKind.u8.wrap ((y / 65536 / 256:Nat):Int)=((y / 65536 / 256:Nat):Int):=wrapU8 om om
    have w4:IntKind.i64.wrap (l.toNat:Int)=(l.toNat:Int):=wrap64 om om
    have w5:IntKind.i64.wrap (56+(l.toNat:Int))=((56+l.toNat:Nat):Int):=by rw[wrap64 om om]; omega
    simp only[sA,sB,Int.reduceNegSucc,reduceCtorEq,Nat.reduceEqDiff,↓reduceIte,Nat.reduceAdd,Int.reduceEq,Int.reduceLT,Int.reduceLE,Nat.reduceLT,n32,e32,w0,e16,c1',w1,c2',e8,w2,w3,str_idx l1,w4,w5]
    obtain⟨k1,k2⟩:=key' (y / 65536 / 256) 24 l.toNat om om l2 (l3 om) om
    exact⟨⟨56+l.toNat,by trivial,k1,k2,om⟩,by trivial⟩
   ·have c2':¬(256:Int)≤((y / 65536:Nat):Int):=om
    obtain⟨l,l1,l2,l3,l4⟩:=len8_at (v:=y / 65536) om
    have w3:IntKind.u8.wrap ((y / 65536:Nat):Int)=((y / 65536:Nat):Int):=wrapU8 om om
    have w4:IntKind.i64.wrap (l.toNat:Int)=(l.toNat:Int):=wrap64 om om
    have w5:IntKind.i64.wrap (48+(l.toNat:Int))=((48+l.toNat:Nat):Int):=by rw[wrap64 om om]; omega
    simp only[sA,sB,Int.reduceNegSucc,reduceCtorEq,Nat.reduceEqDiff,↓reduceIte,Nat.reduceAdd,Int.reduceEq,Int.reduceLT,Int.reduceLE,Nat.reduceLT,n32,e32,w0,e16,c1',w1,c2',w3,str_idx l1,w4,w5]
    obtain⟨k1,k2⟩:=key' (y / 65536) 16 l.toNat om om l2 (l3 om) om
    exact⟨⟨48+l.toNat,by trivial,k1,k2,om⟩,by trivial⟩
  ·have c1':¬(65536:Int)≤(y:Int):=om
   have e8:=shrN .u64 .u64 y (b:=8) dD
   simp only[Int.cast_ofNat_Int,Nat.reducePow]at e8
   by_cases c2:256≤y
   ·have c2':(256:Int)≤(y:Int):=om
    have w2:IntKind.i64.wrap (32+8)=40:=by decide
    obtain⟨l,l1,l2,l3,l4⟩:=len8_at (v:=y / 256) om
    have w3:IntKind.u8.wrap ((y / 256:Nat):Int)=((y / 256:Nat):Int):=wrapU8 om om
    have w4:IntKind.i64.wrap (l.toNat:Int)=(l.toNat:Int):=wrap64 om om
    have w5:IntKind.i64.wrap (40+(l.toNat:Int))=((40+l.toNat:Nat):Int):=by rw[wrap64 om om]; omega
    simp only[sA,sB,Int.reduceNegSucc,reduceCtorEq,Nat.reduceEqDiff,↓reduceIte,Nat.reduceAdd,Int.reduceEq,Int.reduceLT,Int.reduceLE,Nat.reduceLT,n32,e32,w0,c1',c2',e8,w2,w3,str_idx l1,w4,w5]
    obtain⟨k1,k2⟩:=key' (y / 256) 8 l.toNat om om l2 (l3 om) om
    exact⟨⟨40+l.toNat,by trivial,k1,k2,om⟩,by trivial⟩
   ·have c2':¬(256:Int)≤(y:Int):=om
    obtain⟨l,l1,l2,l3,l4⟩:=len8_at (v:=y) om
    have w3:IntKind.u8.wrap (y:Int)=(y:Int):=wrapU8 om om
    have w4:IntKind.i64.wrap (l.toNat:Int)=(l.toNat:Int):=wrap64 om om
    have w5:IntKind.i64.wrap (32+(l.toNat:Int))=((32+l.toNat:Nat):Int):=by rw[wrap64 om om]; omega
    simp only[sA,sB,Int.reduceNegSucc,reduceCtorEq,Nat.reduceEqDiff,↓reduceIte,Nat.reduceAdd,Int.reduceEq,Int.reduceLT,Int.reduceLE,Nat.reduceLT,n32,e32,w0,c1',c2',w3,str_idx l1,w4,w5]
    obtain⟨k1,k2⟩:=key' y 0 l.toNat (by simp) om l2 (l3 om) om
    exact⟨⟨32+l.toNat,by trivial,k1,k2,om⟩,by trivial⟩
 ·have n32:¬(4294967296:Int)≤(u:Int):=om
  have e16:=shrN .u64 .u64 u (b:=16) dD
  simp only[Int.cast_ofNat_Int,Nat.reducePow]at e16
  by_cases c1:65536≤u
  ·have c1':(65536:Int)≤(u:Int):=om
   have e8:=shrN .u64 .u64 (u / 65536) (b:=8) dD
   simp only[Int.cast_ofNat_Int,Nat.reducePow]at e8
   have w1:IntKind.i64.wrap (0+16)=16:=by decide
   by_cases c2:256≤u / 65536
   ·have c2':(256:Int)≤((u / 65536:Nat):Int):=om
    have w2:IntKind.i64.wrap (16+8)=24:=by decide
    obtain⟨l,l1,l2,l3,l4⟩:=len8_at (v:=u / 65536 / 256) om
    have w3:IntKind.u8.wrap ((u / 65536 / 256:Nat):Int)=((u / 65536 / 256:Nat):Int):=wrapU8 om om
    have w4:IntKind.i64.wrap (l.toNat:Int)=(l.toNat:Int):=wrap64 om om
    have w5:IntKind.i64.wrap (24+(l.toNat:Int))=((24+l.toNat:Nat):Int):=by rw[wrap64 om om]; omega
    simp only[sA,sB,Int.reduceNegSucc,reduceCtorEq,Nat.reduceEqDiff,↓reduceIte,Nat.reduceAdd,Int.reduceEq,Int.reduceLT,Int.reduceLE,Nat.reduceLT,n32,e16,c1',w1,c2',e8,w2,w3,str_idx l1,w4,w5]
    obtain⟨k1,k2⟩:=key (u / 65536 / 256) 24 l.toNat om om l2 (l3 om) om
    exact⟨⟨24+l.toNat,by trivial,k1,k2,om⟩,by trivial⟩
   ·have c2':¬(256:Int)≤((u / 65536:Nat):Int):=om
    obtain⟨l,l1,l2,l3,l4⟩:=len8_at (v:=u / 65536) om
    have w3:IntKind.u8.wrap ((u / 65536:Nat):Int)=((u / 65536:Nat):Int):=wrapU8 om om
    have w4:IntKind.i64.wrap (l.toNat:Int)=(l.toNat:Int):=wrap64 om om
    have w5:IntKind.i64.wrap (16+(l.toNat:Int))=((16+l.toNat:Nat):Int):=by rw[wrap64 om om]; omega
    simp only[sA,sB,Int.reduceNegSucc,reduceCtorEq,Nat.reduceEqDiff,↓reduceIte,Nat.reduceAdd,Int.reduceEq,Int.reduceLT,Int.reduceLE,Nat.reduceLT,n32,e16,c1',w1,c2',w3,str_idx l1,w4,w5]
    obtain⟨k1,k2⟩:=key (u / 65536) 16 l.toNat om om l2 (l3 om) om
    exact⟨⟨16+l.toNat,by trivial,k1,k2,om⟩,by trivial⟩
  ·have c1':¬(65536:Int)≤(u:Int):=om
   have e8:=shrN .u64 .u64 u (b:=8) dD
   simp only[Int.cast_ofNat_Int,Nat.reducePow]at e8
   by_cases c2:256≤u
   ·have c2':(256:Int)≤(u:Int):=om
    have w2:IntKind.i64.wrap (0+8)=8:=by decide
    obtain⟨l,l1,l2,l3,l4⟩:=len8_at (v:=u / 256) om
    have w3:IntKind.u8.wrap ((u / 256:Nat):Int)=((u / 256:Nat):Int):=wrapU8 om om
    have w4:IntKind.i64.wrap (l.toNat:Int)=(l.toNat:Int):=wrap64 om om
    have w5:IntKind.i64.wrap (8+(l.toNat:Int))=((8+l.toNat:Nat):Int):=by rw[wrap64 om om]; omega
    simp only[sA,sB,Int.reduceNegSucc,reduceCtorEq,Nat.reduceEqDiff,↓reduceIte,Nat.reduceAdd,Int.reduceEq,Int.reduceLT,Int.reduceLE,Nat.reduceLT,n32,c1',c2',e8,w2,w3,str_idx l1,w4,w5]
    obtain⟨k1,k2⟩:=key (u / 256) 8 l.toNat om om l2 (l3 om) om
    exact⟨⟨8+l.toNat,by trivial,k1,k2,om⟩,by trivial⟩
   ·have c2':¬(256:Int)≤(u:Int):=om
    obtain⟨l,l1,l2,l3,l4⟩:=len8_at (v:=u) om
    have w3:IntKind.u8.wrap (u:Int)=(u:Int):=wrapU8 om om
    have w4:IntKind.i64.wrap (l.toNat:Int)=(l.toNat:Int):=wrap64 om om
    have w5:IntKind.i64.wrap (0+(l.toNat:Int))=(l.toNat:Int):=by rw[wrap64 om om]; omega
    simp only[sA,sB,Int.reduceNegSucc,reduceCtorEq,Nat.reduceEqDiff,↓reduceIte,Nat.reduceAdd,Int.reduceEq,Int.reduceLT,Int.reduceLE,Nat.reduceLT,n32,c1',c2',w3,str_idx l1,w4,w5]
    exact⟨⟨l.toNat,by trivial,l2,l3 h0,om⟩,by trivial⟩
def powL:List AVal:=(List.range 20).map fun i=>.int .u64 ((10 ^ i:Nat):Int)
theorem powL_get{i:Nat}(h:i<20):powL[i]?=some (.int .u64 ((10 ^ i:Nat):Int)):=by
 simp[powL,h]
theorem digits_spec(h78:natT.is 178=false)(h93:natT.is 195=false)(h94:natT.is 196=false)(h95:natT.is 197=false){u:Nat}(h0:0<u)(hu:u<18446744073709551616){H:AHeap}(G:Glo H 1 powL) :
  ACalls Tryz.prog natT 178 [.int .u64 (u:Int)] H fun v H'=>(∃k:Nat,v=.int .i64 ((k+1:Nat):Int)∧10 ^ k≤u∧u<10 ^ (k+1)∧k<20)∧H'=H:=by
 refine acalls_ofN h78 za178 rfl ?_
 simp only[c178,sA,sB,Int.reduceNegSucc,reduceCtorEq,Nat.reduceEqDiff,↓reduceIte,Nat.reduceAdd,Int.reduceEq,Int.reduceLT,Int.reduceLE,Nat.reduceLT]
 refine (len64_spec h94 h0 hu).mono ?_
 rintro v _ ⟨⟨L,rfl,l1,l2,l3⟩,rfl⟩
 simp only[sA,sB,Int.reduceNegSucc,reduceCtorEq,Nat.reduceEqDiff,↓reduceIte,Nat.reduceAdd,Int.reduceEq,Int.reduceLT,Int.reduceLE,Nat.reduceLT]
 refine (log10_spec h93 (show L≤64 by omega)).mono ?_
 rintro v _ ⟨rfl,rfl⟩
 have hL:1≤L:=by
  rcases Nat.eq_zero_or_pos L with h | h
  ·subst h; simp at l1; omega
  ·exact h
 have all:∀L,L≤64→1≤L→2 ^ L≤10 ^ (L*78913 / 262144+1)∧(10 ^ (L*78913 / 262144-1)*2≤2 ^ L)∧L*78913 / 262144<20:=of_decide_eq_true (by kernel_rfl)
 obtain⟨a1,a2,a3⟩:=all L l3 hL
 generalize L*78913 / 262144=t at *
 have ht:t<20:=om
 simp only[sA,sB,Int.reduceNegSucc,reduceCtorEq,Nat.reduceEqDiff,↓reduceIte,Nat.reduceAdd,Int.reduceEq,Int.reduceLT,Int.reduceLE,Nat.reduceLT,gl_idx G (n:=20) dD ht,gl_load G (n:=20) dD (powL_get ht)]
 refine (bool2_spec h95 _).mono ?_
 rintro v _ ⟨rfl,rfl⟩
 by_cases hc:10 ^ t≤u
 ·have hc':((10 ^ t:Nat):Int)≤(u:Int):=om
  have w:IntKind.i64.wrap ((t:Int)+1)=((t+1:Nat):Int):=by rw[wrap64 om om]; omega
  simp only[sA,sB,Int.reduceNegSucc,reduceCtorEq,Nat.reduceEqDiff,↓reduceIte,Nat.reduceAdd,Int.reduceEq,Int.reduceLT,Int.reduceLE,Nat.reduceLT,hc',w]
  exact⟨⟨t,by trivial,hc,om,a3⟩,by trivial⟩
 ·have hc':¬((10 ^ t:Nat):Int)≤(u:Int):=om
  have w:IntKind.i64.wrap ((t:Int)+0)=(t:Int):=by rw[wrap64 om om]; omega
  simp only[sA,sB,Int.reduceNegSucc,reduceCtorEq,Nat.reduceEqDiff,↓reduceIte,Nat.reduceAdd,Int.reduceEq,Int.reduceLT,Int.reduceLE,Nat.reduceLT,hc',w]
  have ht0:t≠0:=by rintro rfl; simp at hc; omega
  obtain⟨s,rfl⟩:=Nat.exists_eq_succ_of_ne_zero ht0
  exact⟨⟨s,rfl,by simp at a2; omega,by simpa using hc,om⟩,by trivial⟩
open Go.Abs Go.Abs.S
def put:Nat→List Nat→Nat→List Nat
 | 0,l,_=>l
 | i+1,l,u=>put i (l.set i (48+u % 10)) (u / 10)
def set2(l:List Nat)(i d:Nat):List Nat:=(l.set (i+1) (48+d % 10)).set i (48+d / 10)
theorem set2_len(l:List Nat)(i d:Nat):(set2 l i d).length=l.length:=by simp[set2]
theorem put_two(i:Nat)(l:List Nat)(u:Nat):put (i+2) l u=put i (set2 l i (u % 100)) (u / 100):=by
 simp only[put,set2]
 rw[Nat.div_div_eq_div_mul]
 congr 3
 ·omega
 ·omega
theorem put_spec:∀(k:Nat) (l:List Nat) (u:Nat),k≤l.length→put k l u=(pd k u).map (48+·)++l.drop k
 | 0,l,u,_=>by simp[put,pd]
 | k+1,l,u,h=>by
  rw[put,put_spec k _ _ (by simp; omega),pd,List.map_append,List.append_assoc]
  congr 1
  have hlt:k<(l.set k (48+u % 10)).length:=by simp; omega
  rw[List.drop_eq_getElem_cons hlt]
  simp[List.drop_set]
theorem put_len:∀(k:Nat) (l:List Nat) (u:Nat),(put k l u).length=l.length
 | 0,l,u=>rfl
 | k+1,l,u=>by rw[put,put_len k]; simp
def bufO(b o k:Nat):AVal:=.slice (some ⟨b,24,o⟩) k (.known (24-o))
theorem bufO_idx{b o k:Nat}(K:IntKind){i:Nat}(h:i<k):aIdxA 1 (bufO b o k) (.int K (i:Int))=some (cellR b 24 (o+i)):=by
 show (bif Nat.blt i k then some (AVal.ptr (some ⟨b,24,o+i*1⟩)) else none)=_
 have:Nat.blt i k=true:=by simpa[Nat.blt_eq] using h
 rw[this,Nat.mul_one]; rfl
theorem u8s_set_app(p l:List Nat)(i x:Nat):u8s (p++l.set i x)=(u8s (p++l)).set (p.length+i) (.int .u8 (x:Int)):=by
 rw[← u8s_set,List.set_append,if_neg om,show p.length+i-p.length=i by omega]
theorem bufO_len(b o k:Nat):aLenK false (bufO b o k)=some (.int .i64 (k:Int)):=_root_.id rfl
theorem pair_row{H:AHeap}{b:Nat}{p l:List Nat}(hr:Row H b (u8s (p++l)))(hl:p.length+l.length=24){i d:Nat}(hi:p.length+i+1<24) :
  ∃H1 H2,oStore 1 H (cellR b 24 (p.length+(i+1))) (.int .u8 ((48+d % 10:Nat):Int))=some H1∧oStore 1 H1 (cellR b 24 (p.length+i)) (.int .u8 ((48+d / 10:Nat):Int))=some H2∧Row H2 b (u8s (p++set2 l i d))∧H2.next=H.next∧∀c,c≠b→H2.get c=H.get c:=by
 have hL:(u8s (p++l)).length=24:=by rw[u8s_len,lA,hl]
 obtain⟨H1,m1,r1,n1,k1⟩:=row_store hr (n:=24) hL (i:=p.length+(i+1)) om (x:=.int .u8 ((48+d % 10:Nat):Int)) rfl
 rw[← u8s_set_app]at r1
 obtain⟨H2,m2,r2,n2,k2⟩:=row_store r1 (n:=24) (by rw[u8s_len,lA,List.length_set,hl]) (i:=p.length+i) om (x:=.int .u8 ((48+d / 10:Nat):Int)) rfl
 rw[← u8s_set_app]at r2
 exact⟨H1,H2,m1,m2,r2,om,fun c hc=>(k2 c hc).trans (k1 c hc)⟩
def seq2:ACode→ACode
 | .seq _ b=>b
 | c=>c
def pre79(t:ACode):ACode:=match c179.body with
 | .seq a (.seq b (.seq c (.seq d _)))=>.seq a (.seq b (.seq c (.seq d t)))
 | x=>x
def code79:ACode:=seq2 (seq2 (seq2 (seq2 c179.body)))
set_option maxRecDepth 100000 in
theorem tail79{b k:Nat}{p:List Nat}(hk:p.length+k≤24){R:List Nat}{Q:AHeap→Prop}(hQ:∀H',Row H' b (u8s (p++R))→Q H'→Q H'){H0:AHeap}{H:AHeap}{m:List Nat}(hm:p.length+m.length=24){i x:Nat}(hi:i<4)(hik:i≤k)(hx:x<10 ^ i)(hp:put i m x=R)
  {T:Env} (g0:T 0=bufO b p.length k) (g4:T 4=.int .i64 (i:Int)) (g12:T 12=.int .u32 (x:Int)) (hr:Row H b (u8s (p++m))) (hn:H.next=H0.next) (ho:∀c,c≠b→H.get c=H0.get c) :
  wp (ACalls Tryz.prog natT) code79 (fin c179.res fun v H'=>Row H' b (u8s (p++R))∧H'.next=H0.next∧∀c,c≠b→H'.get c=H0.get c) T H:=by
 simp only[code79,seq2,c179,← smalls_lit,sA,sB,seval]
 have fin1:∀{T:Env} {H:AHeap} {m:List Nat} {x:Nat},x<10→p.length+m.length=24→put 1 m x=R→Row H b (u8s (p++m))→H.next=H0.next→(∀c,c≠b→H.get c=H0.get c)→1≤k →
   IntKind.u32.wrap (48+(x:Int))=((48+x:Nat):Int)∧IntKind.u8.wrap ((48+x:Nat):Int)=((48+x:Nat):Int)∧aIdxA 1 (bufO b p.length k) (.int .i64 0)=some (cellR b 24 (p.length+0)) ∧
   ∃H',oStore 1 H (cellR b 24 (p.length+0)) (.int .u8 ((48+x:Nat):Int))=some H'∧Row H' b (u8s (p++R))∧H'.next=H0.next∧∀c,c≠b→H'.get c=H0.get c:=by
  intro T H m x hx hm hp hr hn ho hk1
  refine⟨by rw[wrapU32 om om]; omega,wrapU8 om om,bufO_idx .i64 (i:=0) hk1,?_⟩
  obtain⟨H1,m1,r1,n1,k1⟩:=row_store hr (n:=24) (by rw[u8s_len,lA,hm]) (i:=p.length+0) om (x:=.int .u8 ((48+x:Nat):Int)) rfl
  rw[← u8s_set_app]at r1
  refine⟨H1,m1,?_,om,fun c hc=>(k1 c hc).trans (ho c hc)⟩
  have:x % 10=x:=om
  rw[← hp]
  simpa only [put,this] using r1
 by_cases c2:2≤i
 ·obtain⟨j,rfl⟩:∃j,i=j+2:=⟨i-2,om⟩
  have c2':(2:Int)≤((j+2:Nat):Int):=om
  have e1:=remU32 (a:=x) 100 om
  have hx4:x<10 ^ 4:=Nat.lt_of_lt_of_le hx (Nat.pow_le_pow_right om om)
  have e2:=quoU32 (a:=x) 100 om om
  simp only[Int.cast_ofNat_Int]at e1 e2
  have w1:IntKind.u32.wrap (((x % 100:Nat):Int)*2)=((x % 100*2:Nat):Int):=by rw[wrapU32 om om]; omega
  have w2:IntKind.u32.wrap (((x % 100*2:Nat):Int)+1)=((x % 100*2+1:Nat):Int):=by rw[wrapU32 om om]; omega
  have s1:IntKind.i64.wrap (((j+2:Nat):Int)-1)=((j+1:Nat):Int):=by rw[wrap64 om om]; omega
  have s2:IntKind.i64.wrap (((j+2:Nat):Int)-2)=((j:Nat):Int):=by rw[wrap64 om om]; omega
  obtain⟨H1,H2,m1,m2,r2,n2,k2⟩:=pair_row hr hm (i:=j) (d:=x % 100) om
  have hd:x % 100<100:=om
  rw[put_two]at hp
  by_cases c0:0<j
  ·have hj:j=1:=om
   have c0':(0:Int)<(j:Int):=om
   have hx2:x / 100<10:=by
    rw[hj]at hx
    have:x<10 ^ 3:=hx
    omega
   rw[hj]at hp r2
   obtain⟨f1,f2,f3,H3,f4,f5⟩:=fin1 (T:=T) hx2 (by rw[set2_len,hm]) hp r2 om (fun c hc=>(k2 c hc).trans (ho c hc)) om
   simp only[sA,sB,seval,g0,g4,g12,c2',e1,e2,w1,w2,s1,s2,small_at hd,small_at1 hd,bufO_idx .i64 (show j+1<k by omega),bufO_idx .i64 (show j<k by omega),m1,m2,c0',f1,f2,f3,f4,fin_n0]
   exact f5
  ·have hj:j=0:=om
   have c0':¬(0:Int)<(j:Int):=om
   rw[hj]at hp r2
   simp only[sA,sB,seval,g0,g4,g12,c2',e1,e2,w1,w2,s1,s2,small_at hd,small_at1 hd,bufO_idx .i64 (show j+1<k by omega),bufO_idx .i64 (show j<k by omega),m1,m2,c0',fin_n0]
   refine⟨by rw[← hp]; exact r2,om,fun c hc=>(k2 c hc).trans (ho c hc)⟩
 ·have c2':¬(2:Int)≤(i:Int):=om
  by_cases c0:0<i
  ·have hj:i=1:=om
   have c0':(0:Int)<(i:Int):=om
   rw[hj]at hp hx
   obtain⟨f1,f2,f3,H3,f4,f5⟩:=fin1 (T:=T) (by simpa using hx) hm hp hr hn ho om
   simp only[sA,sB,seval,g0,g4,g12,c2',c0',f1,f2,f3,f4,fin_n0]
   exact f5
  ·have hj:i=0:=om
   have c0':¬(0:Int)<(i:Int):=om
   rw[hj]at hp
   simp only[sA,sB,seval,g0,g4,g12,c2',c0',fin_n0]
   exact⟨by rw[← hp]; exact hr,hn,ho⟩
set_option maxRecDepth 100000 in
theorem fmtO_spec(h79:natT.is 179=false){b k u:Nat}{p l:List Nat}{H:AHeap}(hr:Row H b (u8s (p++l)))(hl:p.length+l.length=24)(hk:p.length+k≤24)(hu:u<10 ^ k)(hu64:u<18446744073709551616) :
  ACalls Tryz.prog natT 179 [bufO b p.length k,.int .u64 (u:Int)] H fun v H'=>Row H' b (u8s (p++put k l u))∧H'.next=H.next∧∀c,c≠b→H'.get c=H.get c:=by
 refine acalls_ofN h79 za179 rfl ?_
 have t:=fun (T:Env) (H1:AHeap) (m:List Nat) (i x:Nat) hm hi hik hx hp g0 g4 g12 hr hn ho=>tail79 (b:=b) (k:=k) (p:=p) hk (R:=put k l u) (Q:=fun _=>True) (fun _ _ h=>h) (H0:=H) (H:=H1) (m:=m) hm (i:=i) (x:=x) hi hik hx hp (T:=T) g0 g4 g12 hr hn ho
 show wp _ (pre79 code79) (fin c179.res _) _ _
 simp only[pre79,c179,← smalls_lit,sA,sB,seval,bufO_len]
 refine aw_loop (fun q (T:Env) H'=>∃(i x:Nat) (m:List Nat),i≤k∧i=q∧p.length+m.length=24∧x<10 ^ i∧x<18446744073709551616∧T 0=bufO b p.length k∧T 1=.int .u64 (x:Int)∧T 4=.int .i64 (i:Int)∧put i m x=put k l u∧Row H' b (u8s (p++m))∧H'.next=H.next∧∀c,c≠b→H'.get c=H.get c) k
  ⟨k,u,l,Nat.le_refl _,rfl,hl,hu,hu64,by simp only[sA,sB,seval],by simp only[sA,sB,seval],by simp only[sA,sB,seval],rfl,hr,rfl,fun c _=>rfl⟩ ?_
 rintro q T H1 ⟨i,x,m,hi,rfl,hm,hx,hx64,g0,g1,g4,hp,hr1,hn,ho⟩
 clear hr
 by_cases c8:8≤i
 ·obtain⟨j,rfl⟩:∃j,i=j+8:=⟨i-8,om⟩
  have c8':(8:Int)≤((j+8:Nat):Int):=om
  have e1:=remU64 (a:=x) 100000000 om
  have e2:=quoU64 (a:=x) 100000000 om hx64
  have w0:IntKind.u32.wrap ((x % 100000000:Nat):Int)=((x % 100000000:Nat):Int):=wrapU32 om om
  have p1:x % 100000000 % 10000 % 100=x % 100:=om
  have p2:x % 100000000 % 10000 / 100=x / 100 % 100:=om
  have p3:x % 100000000 / 10000 % 100=x / 100 / 100 % 100:=om
  have p4:x % 100000000 / 10000 / 100=x / 100 / 100 / 100 % 100:=om
  have p5:x / 100 / 100 / 100 / 100=x / 100000000:=om
  rw[put_two (j+6),put_two (j+4),put_two (j+2),put_two j,p5,← p1,← p2,← p3,← p4]at hp
  have hA:x % 100000000<100000000:=om
  have hx':x / 100000000<10 ^ j:=by
   rw[Nat.pow_add]at hx
   exact Nat.div_lt_of_lt_mul (by rw[Nat.mul_comm]; exact hx)
  have hxx:x / 100000000<18446744073709551616:=om
  generalize x / 100000000=x' at *
  generalize x % 100000000=A at *
  have e3:=quoU32 (a:=A) 10000 om om
  have e4:=remU32 (a:=A) 10000 om
  have hB:A / 10000<10000:=om
  have hC:A % 10000<10000:=om
  generalize A / 10000=B at *
  generalize A % 10000=C at *
  have e5:=quoU32 (a:=C) 100 om om
  have e6:=remU32 (a:=C) 100 om
  have e7:=quoU32 (a:=B) 100 om om
  have e8:=remU32 (a:=B) 100 om
  have d1:C % 100<100:=om
  have d2:C / 100<100:=om
  have d3:B % 100<100:=om
  have d4:B / 100<100:=om
  generalize C % 100=y1 at *
  generalize C / 100=y2 at *
  generalize B % 100=y3 at *
  generalize B / 100=y4 at *
  simp only[Int.cast_ofNat_Int]at e1 e2 e3 e4 e5 e6 e7 e8
  have ww:∀y:Nat,y<100→IntKind.u32.wrap ((y:Int)*2)=((y*2:Nat):Int):=fun y hy=>by rw[wrapU32 om om]; omega
  have wa:∀y:Nat,y<100→IntKind.u32.wrap (((y*2:Nat):Int)+1)=((y*2+1:Nat):Int):=fun y hy=>by rw[wrapU32 om om]; omega
  have s1:IntKind.i64.wrap (((j+8:Nat):Int)-1)=((j+6+1:Nat):Int):=by rw[wrap64 om om]; omega
  have s2:IntKind.i64.wrap (((j+8:Nat):Int)-2)=((j+6:Nat):Int):=by rw[wrap64 om om]; omega
  have s3:IntKind.i64.wrap (((j+8:Nat):Int)-3)=((j+4+1:Nat):Int):=by rw[wrap64 om om]; omega
  have s4:IntKind.i64.wrap (((j+8:Nat):Int)-4)=((j+4:Nat):Int):=by rw[wrap64 om om]; omega
  have s5:IntKind.i64.wrap (((j+8:Nat):Int)-5)=((j+2+1:Nat):Int):=by rw[wrap64 om om]; omega
  have s6:IntKind.i64.wrap (((j+8:Nat):Int)-6)=((j+2:Nat):Int):=by rw[wrap64 om om]; omega
  have s7:IntKind.i64.wrap (((j+8:Nat):Int)-7)=((j+1:Nat):Int):=by rw[wrap64 om om]; omega
  have s8:IntKind.i64.wrap (((j+8:Nat):Int)-8)=((j:Nat):Int):=by rw[wrap64 om om]; omega
  obtain⟨H2,H3,m2,m3,r3,n3,k3⟩:=pair_row hr1 hm (i:=j+6) (d:=y1) om
  obtain⟨H4,H5,m4,m5,r5,n5,k5⟩:=pair_row r3 (by rw[set2_len,hm]) (i:=j+4) (d:=y2) om
  obtain⟨H6,H7,m6,m7,r7,n7,k7⟩:=pair_row r5 (by rw[set2_len,set2_len,hm]) (i:=j+2) (d:=y3) om
  obtain⟨H8,H9,m8,m9,r9,n9,k9⟩:=pair_row r7 (by rw[set2_len,set2_len,set2_len,hm]) (i:=j) (d:=y4) om
  have ix:∀i,i<k→aIdxA 1 (bufO b p.length k) (.int .i64 (i:Int))=some (cellR b 24 (p.length+i)):=fun i h=>bufO_idx .i64 h
  simp only[sA,sB,seval,g0,g1,g4,c8',e1,e2,e3,e4,e5,e6,e7,e8,w0,ww y1 d1,ww y2 d2,ww y3 d3,ww y4 d4,wa y1 d1,wa y2 d2,wa y3 d3,wa y4 d4,s1,s2,s3,s4,s5,s6,s7,s8,small_at d1,small_at1 d1,small_at d2,small_at1 d2,small_at d3,small_at1 d3,small_at d4,small_at1 d4,
   ix (j+6+1) om,ix (j+6) om,ix (j+4+1) om,ix (j+4) om,ix (j+2+1) om,ix (j+2) om,ix (j+1) om,ix j om,m2,m3,m4,m5,m6,m7,m8,m9]
  refine⟨_,Nat.lt_add_of_pos_right om,j,x',_,om,rfl,?_,hx',hxx,by trivial,by trivial,by trivial,hp,r9,om,fun c hc=>(k9 c hc).trans ((k7 c hc).trans ((k5 c hc).trans ((k3 c hc).trans (ho c hc))))⟩
  simp only[set2_len,hm]
 ·have c8':¬(8:Int)≤(i:Int):=om
  have hx7:x<10 ^ 7:=Nat.lt_of_lt_of_le hx (Nat.pow_le_pow_right om om)
  have w0:IntKind.u32.wrap (x:Int)=(x:Int):=wrapU32 om om
  by_cases c4:4≤i
  ·obtain⟨j,rfl⟩:∃j,i=j+4:=⟨i-4,om⟩
   have c4':(4:Int)≤((j+4:Nat):Int):=om
   have e1:=remU32 (a:=x) 10000 om
   have e2:=quoU32 (a:=x) 10000 om om
   have p1:x % 10000 % 100=x % 100:=om
   have p2:x % 10000 / 100=x / 100 % 100:=om
   have p5:x / 100 / 100=x / 10000:=om
   rw[put_two (j+2),put_two j,p5,← p1,← p2]at hp
   have hx':x / 10000<10 ^ j:=by
    rw[Nat.pow_add]at hx
    exact Nat.div_lt_of_lt_mul (by rw[Nat.mul_comm]; exact hx)
   have hC:x % 10000<10000:=om
   generalize x / 10000=x' at *
   generalize x % 10000=C at *
   have e5:=quoU32 (a:=C) 100 om om
   have e6:=remU32 (a:=C) 100 om
   have d1:C % 100<100:=om
   have d2:C / 100<100:=om
   generalize C % 100=y1 at *
   generalize C / 100=y2 at *
   simp only[Int.cast_ofNat_Int]at e1 e2 e5 e6
   have ww:∀y:Nat,y<100→IntKind.u32.wrap ((y:Int)*2)=((y*2:Nat):Int):=fun y hy=>by rw[wrapU32 om om]; omega
   have wa:∀y:Nat,y<100→IntKind.u32.wrap (((y*2:Nat):Int)+1)=((y*2+1:Nat):Int):=fun y hy=>by rw[wrapU32 om om]; omega
   have s1:IntKind.i64.wrap (((j+4:Nat):Int)-1)=((j+2+1:Nat):Int):=by rw[wrap64 om om]; omega
   have s2:IntKind.i64.wrap (((j+4:Nat):Int)-2)=((j+2:Nat):Int):=by rw[wrap64 om om]; omega
   have s3:IntKind.i64.wrap (((j+4:Nat):Int)-3)=((j+1:Nat):Int):=by rw[wrap64 om om]; omega
   have s4:IntKind.i64.wrap (((j+4:Nat):Int)-4)=((j:Nat):Int):=by rw[wrap64 om om]; omega
   obtain⟨H2,H3,m2,m3,r3,n3,k3⟩:=pair_row hr1 hm (i:=j+2) (d:=y1) om
   obtain⟨H4,H5,m4,m5,r5,n5,k5⟩:=pair_row r3 (by rw[set2_len,hm]) (i:=j) (d:=y2) om
   have ix:∀i,i<k→aIdxA 1 (bufO b p.length k) (.int .i64 (i:Int))=some (cellR b 24 (p.length+i)):=fun i h=>bufO_idx .i64 h
   simp only[sA,sB,seval,g0,g1,g4,c8',w0,c4',e1,e2,e5,e6,ww y1 d1,ww y2 d2,wa y1 d1,wa y2 d2,s1,s2,s3,s4,small_at d1,small_at1 d1,small_at d2,small_at1 d2,ix (j+2+1) om,ix (j+2) om,ix (j+1) om,ix j om,m2,m3,m4,m5]
   refine t _ _ (set2 (set2 m (j+2) y1) j y2) j x' ?_ om om hx' hp ?_ ?_ ?_ r5 om fun c hc=>(k5 c hc).trans ((k3 c hc).trans (ho c hc))
   ·simp only[set2_len,hm]
   all_goals simp only[sA,sB,seval,g0]
  ·have c4':¬(4:Int)≤(i:Int):=om
   simp only[sA,sB,seval,g0,g1,g4,c8',w0,c4']
   refine t _ _ m i x hm om hi hx hp ?_ ?_ ?_ hr1 hn ho
   all_goals simp only[sA,sB,seval,g0,g4]
theorem fmt_spec(h79:natT.is 179=false){b k u:Nat}{l:List Nat}{H:AHeap}(hr:Row H b (u8s l))(hl:l.length=24)(hk:k≤24)(hu:u<10 ^ k)(hu64:u<18446744073709551616) :
  ACalls Tryz.prog natT 179 [bufS b 24 k,.int .u64 (u:Int)] H fun v H'=>Row H' b (u8s (put k l u))∧H'.next=H.next∧∀c,c≠b→H'.get c=H.get c:=
 fmtO_spec (p:=[]) h79 hr (by simpa using hl) (by simpa using hk) hu hu64
open Go.Abs Go.Abs.S
theorem map_byts{l:List Nat}(h:∀d∈l,d≤9):u8s (l.map (48+·))=byts (asc l):=by
 simp only[u8s,byts,asc,List.map_map]
 apply List.map_congr_left
 intro d hd
 have:=h d hd
 have e:(UInt8.ofNat (48+d)).toNat=48+d:=by rw[UInt8.toNat_ofNat']; omega
 simp[e]; omega
theorem pd_dig:∀(k u:Nat),∀d∈pd k u,d≤9
 | 0,_,d,h=>by simp[pd]at h
 | k+1,u,d,h=>by
  rcases List.mem_append.1 h with h | h
  ·exact pd_dig k _ d h
  ·simp at h; omega
theorem digs_put{u k:Nat}(q1:10 ^ k≤u)(q2:u<10 ^ (k+1))(l:List Nat)(hl:k+1≤l.length):(u8s (put (k+1) l u)).take (k+1)=byts (asc (decD u))∧(asc (decD u)).length=k+1:=by
 have hlen:(asc (decD u)).length=k+1:=by rw[asc_len,← pd_dec k u q1 q2,pd_len]
 refine⟨?_,hlen⟩
 rw[put_spec _ _ _ hl,pd_dec k u q1 q2]
 have e:u8s ((decD u).map (48+·))=byts (asc (decD u)):=by
  rw[← pd_dec k u q1 q2]; exact map_byts (pd_dig _ _)
 have e2:u8s ((decD u).map (48+·)++l.drop (k+1))=byts (asc (decD u))++u8s (l.drop (k+1)):=by rw[← e]; simp[u8s]
 have e3:k+1=(byts (asc (decD u))).length:=by rw[byts_len,hlen]
 rw[e2,e3,List.take_left]
theorem asc_digs:∀(N n:Nat),n≤N→asc (decD n)=digsF n
 | 0,n,h=>by rw[decD_lt om,digsF_lt om]; rfl
 | N+1,n,h=>by
  by_cases h10:n<10
  ·rw[decD_lt h10,digsF_lt h10]; rfl
  ·rw[decD_ge h10,digsF_ge h10,asc_append,asc_digs N (n / 10) om]; rfl
theorem digs_small{n:Nat}(h:n<18446744073709551616):(digsF n).length≤20:=by
 rw[← asc_digs n n rL,asc_len]; exact decD_len 19 n om
theorem AppM.same{n:Nat}{H H':AHeap}{s:AVal}{l:List AVal}(h:AppM n H s l)(e:Ext H.next H H'):AppM n H' s l:=by
 obtain⟨b,low,rfl,h2,h3,h4,h5⟩:=h
 exact⟨b,low,rfl,h2,by have:=e.next; omega,(e.old b h3).trans h4,h5⟩
theorem AppM.str{n:Nat}{H:AHeap}{s:AVal}{t:Bs}(h:AppM n H s (byts t)):aBS H s=some (.str t):=by
 obtain⟨b,low,rfl,h2,h3,h4,h5⟩:=h
 simp only[aBS,rdCells,h4,Nat.ble_eq_true_of_le h5,Nat.ble_eq_true_of_le rL,Nat.zero_add,Bool.and_self,cond_true,List.drop_zero,List.take_length,bytesOf_byts]
theorem AppM.app_str{n:Nat}{H:AHeap}{s x:AVal}{t u:Bs}(h:AppM n H s (byts t))(hs:aSrc 1 H x=some (u.length,byts u))(hu:u≠[])(hb:t.length+u.length≤1000000) :
  ∃s' H',aAppend 1 1 H s x=some (s',H')∧AppM n H' s' (byts (t++u))∧Ext n H H':=by
 have:=h.app hs (by rw[byts_len]) (by cases u with | nil=>exact absurd rfl hu | cons=>simp) (byts_one u) (by rw[byts_len]; omega)
 rw[byts_append]; exact this
set_option maxRecDepth 20000 in
theorem uapp_spec{n u:Nat}{s:AVal}{t:Bs}{H:AHeap}(A:AppM n H s (byts t))(h0:1<n)(hn:n≤H.next)(G:Glo H 1 powL)(hu:u<18446744073709551616)(ht:t.length≤900000) :
  ACalls Tryz.prog natT 145 [s,.int .u64 (u:Int),.int .i64 10] H fun v H'=>AppM n H' v (byts (t++digsF u))∧Ext n H H':=by
 refine acalls_ofN rfl za145 rfl ?_
 rw[← asc_digs u u rL]
 have hdl:(asc (decD u)).length≤20:=by rw[asc_len]; exact decD_len 19 u om
 by_cases c1:u<100
 ·have c1':(u:Int)<100:=om
  have w1:IntKind.i64.wrap (u:Int)=(u:Int):=wrap64 om om
  simp only[c145,sA,sB,seval,c1',w1]
  refine (small_spec rfl c1).mono ?_
  rintro v _ ⟨rfl,rfl⟩
  obtain⟨s',H2,m2,A2,E2⟩:=A.app_str (src_str _ (asc (decD u))) (asc_ne u) om
  simp only[sA,sB,seval,m2]
  exact⟨A2,E2⟩
 ·have c1':¬(u:Int)<100:=om
  obtain⟨H1,m1,r1,n1,k1⟩:=row_newL H (u8s (List.replicate 24 0)) (n:=24) rfl
  have hz:u8s (List.replicate 24 0)=[.int .u8 0,.int .u8 0,.int .u8 0,.int .u8 0,.int .u8 0,.int .u8 0,.int .u8 0,.int .u8 0,.int .u8 0,.int .u8 0,.int .u8 0,.int .u8 0,.int .u8 0,.int .u8 0,.int .u8 0,.int .u8 0,.int .u8 0,.int .u8 0,.int .u8 0,.int .u8 0,.int .u8 0,.int .u8 0,.int .u8 0,.int .u8 0]:=rfl
  rw[hz]at m1
  simp only[c145,sA,sB,seval,c1',m1]
  have E1:Ext H.next H H1:=⟨om,fun c hc=>k1 c om⟩
  have G1:Glo H1 1 powL:=G.ext om E1
  refine (digits_spec rfl rfl rfl rfl (u:=u) om hu G1).mono ?_
  rintro v _ ⟨⟨k,rfl,q1,q2,q3⟩,rfl⟩
  simp only[sA,sB,seval,slA_buf (show k+1≤24 by omega) om]
  refine (fmt_spec rfl r1 (by simp) (show k+1≤24 by omega) q2 hu).mono ?_
  rintro v H2 ⟨r2,n2,k2⟩
  obtain⟨p1,p2⟩:=digs_put q1 q2 (List.replicate 24 0) (by simp; omega)
  have hB:Buf H2 H.next 24 (asc (decD u)):=⟨_,r2,by rw[u8s_len,put_len]; simp,by rw[p2]; exact p1⟩
  have hs:=buf_src hB om
  have E2:Ext H.next H H2:=⟨om,fun c hc=>by rw[k2 c om,k1 c om]⟩
  obtain⟨s',H3,m3,A3,E3⟩:=(A.same E2).app_str hs (asc_ne u) om
  rw[p2]at m3
  simp only[sA,sB,seval,slA_buf (show k+1≤24 by omega) om,m3]
  exact⟨A3,⟨by have:=E2.next; have:=E3.next; omega,fun c hc=>by rw[E3.old c hc,E2.old c om]⟩⟩
open Go.Abs Go.Abs.S
theorem intF_small{z:Int}(h:I64 z):(intF z).length≤21:=by
 obtain⟨h1,h2⟩:=h
 have:=digs_small (n:=z.natAbs) om
 unfold intF
 split
 ·simp only[List.length_cons]; omega
 ·omega
theorem app1_spec{n:Nat}{s:AVal}{t:Bs}{H:AHeap}(A:AppM n H s (byts t))(hn:n≤H.next)(c:UInt8)(ht:t.length≤900000) :
  ∃s' H',aAppend 1 1 (H.push (.cells [.int .u8 (c.toNat:Int)] 0 false)) s (oneS H)=some (s',H')∧AppM n H' s' (byts (t++[c]))∧Ext n H H':=by
 have e:Ext H.next H (H.push (.cells [.int .u8 (c.toNat:Int)] 0 false)):=Ext.push (Ext.refl _ _) rL _
 obtain⟨s',H',a1,a2,a3⟩:=(A.same e).app_str (u:=[c]) (src1 H (.int .u8 (c.toNat:Int))) (by simp) (by simp; omega)
 exact⟨s',H',a1,a2,⟨by have:=e.next; have:=a3.next; omega,fun b hb=>by rw[a3.old b hb,e.old b om]⟩⟩
theorem appi_spec{n:Nat}{z:Int}{s:AVal}{t:Bs}{H:AHeap}(A:AppM n H s (byts t))(h0:1<n)(hn:n≤H.next)(G:Glo H 1 powL)(hz:I64 z)(ht:t.length≤800000) :
  ACalls Tryz.prog natT 52 [s,.int .i64 z,.int .i64 10] H fun v H'=>AppM n H' v (byts (t++intF z))∧Ext n H H':=by
 refine acalls_ofN rfl za52 rfl ?_
 simp only[c52,sA,sB,seval]
 refine acalls_ofN rfl za96 rfl ?_
 obtain⟨z1,z2⟩:=hz
 by_cases hneg:z<0
 ·have w1:IntKind.u64.wrap z=z+18446744073709551616:=by rw[IntKind.wrap_u64]; omega
  have w2:IntKind.u64.wrap (0-(z+18446744073709551616))=(z.natAbs:Int):=by rw[IntKind.wrap_u64]; omega
  have hd:intF z=[45]++digsF z.natAbs:=by rw[intF,if_pos hneg]; rfl
  obtain⟨s',H2,m2,A2,E2⟩:=app1_spec A hn 45 om
  have m2':aAppend 1 1 (H.push (.cells [.int .u8 45] 0 false)) s (oneS H)=some (s',H2):=m2
  simp only[c96,sA,sB,seval,hneg,w1,un_neg,w2,build1 _ _ (x:=.int .u8 45) rfl,m2']
  refine (uapp_spec A2 h0 (by have:=E2.next; omega) (G.ext h0 E2) om (by simp; omega)).mono ?_
  rintro v H3 ⟨A3,E3⟩
  simp only[sA,sB,seval]
  rw[hd,← List.append_assoc]
  exact⟨A3,E2.trans E3⟩
 ·have w1:IntKind.u64.wrap z=(z.natAbs:Int):=by rw[IntKind.wrap_u64]; omega
  have hd:intF z=digsF z.natAbs:=by rw[intF,if_neg hneg]
  simp only[c96,sA,sB,seval,hneg,w1]
  refine (uapp_spec A h0 hn G om om).mono ?_
  rintro v H3 ⟨A3,E3⟩
  simp only[sA,sB,seval]
  rw[hd]
  exact⟨A3,E3⟩
theorem slA_off{b k:Nat}(h:1+k≤24):aSlArr 24 1 (cellR b 24 0) (some (.int .i64 1)) (some (.int .i64 ((1+k:Nat):Int))) none=some (bufO b 1 k):=by
 have e:aBnd 24 24 (some (.int .i64 1)) (some (.int .i64 ((1+k:Nat):Int))) none=some (1,1+k,none):=bnd_lh (lo:=1) om h
 simp only[aSlArr,cellR,e,Option.getD_none,show Nat.beq 24 1=false from rfl,cond_false,bufO,Nat.zero_add,Nat.mul_one,Nat.add_sub_cancel_left]
theorem bs_off{H:AHeap}{b k:Nat}{l:List AVal}{s:Bs}(hr:Row H b l)(hl:l.length=24)(hk:1+k≤24)(hs:(l.drop 1).take k=byts s):aBS H (bufO b 1 k)=some (.str s):=by
 have:=rd_row hr hl (i:=1) (k:=k) hk
 simp only[aBS,bufO,this,hs,bytesOf_byts]
set_option maxRecDepth 20000 in
theorem sitoa_spec{n:Nat}(hn:n≤1000000){H:AHeap}(h0:1<H.next)(G:Glo H 1 powL):ACalls Tryz.prog natT 95 [.int .i64 (n:Int)] H fun v H'=>v=.str (intF (n:Int))∧Ext H.next H H':=by
 have hd:intF (n:Int)=asc (decD n):=by rw[intF,if_neg om,show ((n:Int)).natAbs=n from rfl,asc_digs n n rL]
 rw[hd]
 refine acalls_ofN rfl za95 rfl ?_
 simp only[c95,sA,sB,seval]
 refine acalls_ofN rfl za144 rfl ?_
 simp only[c144,sA,sB,seval]
 refine acalls_ofN rfl za176 rfl ?_
 have c0:(0:Int)≤(n:Int):=om
 by_cases c1:n<100
 ·have c1':(n:Int)<100:=om
  simp only[c176,sA,sB,seval,c0,c1']
  refine (small_spec rfl c1).mono ?_
  rintro v _ ⟨rfl,rfl⟩
  simp only[sA,sB,seval]
  exact⟨tt,Ext.refl _ _⟩
 have c1':¬(n:Int)<100:=om
 have c2:¬(n:Int)<0:=om
 obtain⟨H1,m1,r1,n1,k1⟩:=row_newL H (u8s (List.replicate 24 0)) (n:=24) rfl
 have hz:u8s (List.replicate 24 0)=[.int .u8 0,.int .u8 0,.int .u8 0,.int .u8 0,.int .u8 0,.int .u8 0,.int .u8 0,.int .u8 0,.int .u8 0,.int .u8 0,.int .u8 0,.int .u8 0,.int .u8 0,.int .u8 0,.int .u8 0,.int .u8 0,.int .u8 0,.int .u8 0,.int .u8 0,.int .u8 0,.int .u8 0,.int .u8 0,.int .u8 0,.int .u8 0]:=rfl
 rw[hz]at m1
 have w1:IntKind.u64.wrap (n:Int)=(n:Int):=by rw[IntKind.wrap_u64]; omega
 have G1:Glo H1 1 powL:=by unfold Glo; rw[k1 1 om]; exact G
 simp only[c176,sA,sB,seval,c0,c1',c2,m1,w1]
 refine (digits_spec rfl rfl rfl rfl (u:=n) om om G1).mono ?_
 rintro v _ ⟨⟨k,rfl,q1,q2,q3⟩,rfl⟩
 have q3:k<7:=Nat.lt_of_not_le fun h=>by have:=Nat.pow_le_pow_right (n:=10) om h; omega
 have w2:IntKind.i64.wrap (1+((k+1:Nat):Int))=((1+(k+1):Nat):Int):=by rw[wrap64 om om]; omega
 simp only[sA,sB,seval,w2,slA_off (show 1+(k+1)≤24 by omega)]
 have r1':Row _ H.next (u8s ([0]++List.replicate 23 0)):=r1
 refine (fmtO_spec (p:=[0]) (l:=List.replicate 23 0) rfl r1' (by simp) (by simp; omega) q2 om).mono ?_
 rintro v H2 ⟨r2,n2,k2⟩
 obtain⟨p1,p2⟩:=digs_put q1 q2 (List.replicate 23 0) (by simp; omega)
 have hbs:=bs_off (k:=k+1) (s:=asc (decD n)) r2 (by rw[u8s_len,lA,put_len]; simp) om (by
  have:(u8s ([0]++put (k+1) (List.replicate 23 0) n)).drop 1=u8s (put (k+1) (List.replicate 23 0) n):=rfl
  rw[this,p1])
 simp only[sA,sB,seval,c2,w2,slA_off (show 1+(k+1)≤24 by omega),hbs]
 exact⟨tt,⟨om,fun c hc=>by rw[k2 c om,k1 c om]⟩⟩
theorem names_cells:(opNames.map AVal.str).all AVal.one=true:=rfl
set_option maxRecDepth 100000 in
theorem kword_spec{o:Nat}(ho:o<256){H:AHeap}(h0:1<H.next)(G:Glo H 1 powL):ACalls Tryz.prog natT 51 [.int .u8 (o:Int)] H fun v H'=>v=.str (wordO o)∧Ext H.next H H':=by
 obtain⟨H1,m1,r1,n1,k1⟩:=row_newL H (List.replicate 34 (.str [])) (n:=34) rfl
 obtain⟨H2,m2,r2,n2,k2⟩:=row_storeN r1 (n:=34) rfl (xs:=opNames.map .str) rfl names_cells
 have E2:Ext H.next H H2:=⟨om,fun c hc=>by rw[k2 c om,k1 c om]⟩
 have hz:(List.replicate 34 (AVal.str []))=[.str [],.str [],.str [],.str [],.str [],.str [],.str [],.str [],.str [],.str [],.str [],.str [],.str [],.str [],.str [],.str [],.str [],.str [],.str [],.str [],.str [],.str [],.str [],.str [],.str [],.str [],.str [],.str [],.str [],.str [],.str [],.str [],.str [],.str []]:=rfl
 rw[hz]at m1
 have bl:aBuild [.str [],.str [],.str [],.str [],.str [],.str [],.str [],.str [],.str [],.str [],.str [],.str [],.str [],.str [],.str [],.str [],.str [],.str [],.str [],.str [],.str [],.str [],.str [],.str [],.str [],.str [],.str [],.str [],.str [],.str [],.str [],.str [],.str [],.str []] [(0,1,.str [99,111,110,115,116]),(1,1,.str [109,111,118,101]),(2,1,.str [97,100,100]),(3,1,.str [115,117,98]),(4,1,.str [116,105,109,101,115]),(5,1,.str [111,118,101,114]),(6,1,.str [110,101,103]),(7,1,.str [110,111,116]),(8,1,.str [101,113]),(9,1,.str [110,101]),(10,1,.str [108,101]),(11,1,.str [103,101]),(12,1,.str [108,116]),(13,1,.str [103,116]),(14,1,.str [97,110,100]),(15,1,.str [111,114]),(16,1,.str [118,101,99]),(17,1,.str [120]),(18,1,.str [121]),(19,1,.str [122]),(20,1,.str [100,111,116]),(21,1,.str [99,114,111,115,115]),(22,1,.str [117,110,105,116]),(23,1,.str [115,113,114,116]),(24,1,.str [115,105,110]),(25,1,.str [99,111,115]),(26,1,.str [97,98,115]),(27,1,.str [102,108,111,111,114]),(28,1,.str [109,105,110]),(29,1,.str [109,97,120]),(30,1,.str [115,97,109,112,108,101]),(31,1,.str [106,117,109,112]),(32,1,.str [117,110,108,101,115,115]),(33,1,.str [114,101,116,117,114,110])]=some (.agg (opNames.map .str)):=rfl
 refine acalls_ofN rfl za51 rfl ?_
 simp only[c51,sA,sB,seval,m1,bl,m2]
 by_cases h1:1≤o∧o≤34
 ·have g1:¬(o:Int)<1:=om
  have g2:¬(34:Int)<(o:Int):=om
  have w8:IntKind.u8.wrap ((o:Int)-1)=((o-1:Nat):Int):=by rw[IntKind.wrap_u8]; omega
  obtain⟨y,hy⟩:∃y,opNames[o-1]?=some y:=⟨_,List.getElem?_eq_getElem (by show o-1<34; omega)⟩
  have hwo:wordO o=y:=by unfold wordO; rw[if_neg om,hy]
  have lo:oLoad false 1 H2 (cellR H.next 34 (o-1))=some (.str y):=row_load r2 rfl (by simp[hy])
  rw[← hwo]at lo
  simp only[sA,sB,seval,g1,g2,w8,arr_idx (show o-1<34 by omega),lo]
  exact⟨tt,E2⟩
 ·have hwo:wordO o=[111,112]++intF (o:Int):=by
   unfold wordO
   by_cases h0:o=0
   ·subst h0; rfl
   ·rw[if_neg h0]
    have:opNames[o-1]?=none:=List.getElem?_eq_none (by show 34≤o-1; omega)
    rw[this]
  have wl:=wordO_len ho
  have w0:IntKind.i64.wrap (o:Int)=(o:Int):=w64
  have so:aBin .add (.str [111,112]) (.str (intF (o:Int)))=some (.str (wordO o)):=by rw[hwo]; exact str_add (by rw[hwo]at wl; simp only[lA]at wl ⊢; omega)
  have t:=fun (T:Env)=>sitoa_spec (n:=o) om (H:=H2) om (G.ext h0 E2)
  by_cases g1:(o:Int)<1
  ·simp only[sA,sB,seval,g1,w0]
   refine (sitoa_spec om om (G.ext h0 E2)).mono ?_
   rintro _ H3 ⟨rfl,E3⟩
   simp only[sA,sB,seval,so]
   exact⟨tt,E2.trans (E3.less om)⟩
  ·have g2:(34:Int)<(o:Int):=om
   simp only[sA,sB,seval,g1,g2,w0]
   refine (sitoa_spec om om (G.ext h0 E2)).mono ?_
   rintro _ H3 ⟨rfl,E3⟩
   simp only[sA,sB,seval,so]
   exact⟨tt,E2.trans (E3.less om)⟩
theorem idx3(a b c:Int){i:Nat}(h:i<3):∃z,[a,b,c][i]?=some z∧aIdx 3 1 false (.agg [.int .i64 a,.int .i64 b,.int .i64 c]) (.int .i64 (i:Int))=some (.int .i64 z)∧(I64 a→I64 b→I64 c→I64 z):=by
 match i,h with
 | 0,_=>exact⟨a,rfl,rfl,fun h _ _=>h⟩
 | 1,_=>exact⟨b,rfl,rfl,fun _ h _=>h⟩
 | 2,_=>exact⟨c,rfl,rfl,fun _ _ h=>h⟩
theorem kshow_spec{i:InZ}{H:AHeap}(ho:i.o<256)(ha:I64 i.a)(hb:I64 i.b)(hc:I64 i.c)(h0:1<H.next)(G:Glo H 1 powL):ACalls Tryz.prog natT 25 [izA i] H fun u H'=>u=.str (showI i)∧Ext H.next H H':=by
 obtain⟨o,a,b,c⟩:=i
 simp only at ho ha hb hc
 obtain⟨H1,m1,r1,n1,k1⟩:=row_newL H [.int .u8 (o:Int),.int .i64 a,.int .i64 b,.int .i64 c] (n:=4) rfl
 have E1:Ext H.next H H1:=⟨om,fun c hc=>k1 c om⟩
 have f0:=row_load (i:=0) r1 (n:=4) rfl rfl
 have wl:=wordO_len ho
 unfold izA
 refine acalls_ofN rfl za25 rfl ?_
 simp only[c25,sA,sB,seval,cells_agg,m1,fldA,f0]
 refine (kword_spec ho om (G.ext h0 E1)).mono ?_
 rintro _ H2 ⟨rfl,E2⟩
 have e2:=E2.next
 obtain⟨v,H3,m3,A3,E3⟩:=AppM.sb H2 (wordO o)
 have e3:=E3.next
 have X3:Ext H.next H H3:=E1.trans ((E2.less om).trans (E3.less om))
 have r3:Row H3 H.next _:=r1.same (by rw[E3.old _ om,E2.old _ om])
 have f1:=row_load (i:=1) r3 (n:=4) rfl rfl
 have f2:=row_load (i:=2) r3 (n:=4) rfl rfl
 have f3:=row_load (i:=3) r3 (n:=4) rfl rfl
 have bl:aBuild [.int .i64 0,.int .i64 0,.int .i64 0] [(0,1,.int .i64 a),(1,1,.int .i64 b),(2,1,.int .i64 c)]=some (.agg [.int .i64 a,.int .i64 b,.int .i64 c]):=rfl
 simp only[sA,sB,seval,m3,fldA,f1,f2,f3,bl]
 have hs:showI ⟨o,a,b,c⟩=wordO o++([a,b,c].take 3).flatMap (fun z=>32::intF z):=by simp[showI]
 rw[hs]
 generalize wordO o=W at *
 refine aw_loop (fun m (T:Env) K=>∃(i:Nat) (s:AVal) (t:Bs),m=3-i∧i≤3∧t.length≤100+22*i∧t=W++([a,b,c].take i).flatMap (fun z=>32::intF z)∧T 3=s∧T 16=.agg [.int .i64 a,.int .i64 b,.int .i64 c]∧T 17=.int .i64 (i:Int)∧AppM H2.next K s (byts t)∧Ext H2.next H3 K) 3
  ⟨0,v,W,rfl,om,om,by simp,by simp only[sA,sB,seval],by simp only[sA,sB,seval],by simp only[sA,sB,seval,Int.cast_ofNat_Int],A3,Ext.refl _ _⟩ ?_
 clear m1 r1 f0 f1 f2 f3 bl m3 A3
 rintro m T K ⟨i,s,t,rfl,hi,hl,ht,g3,g16,g17,A,E⟩
 by_cases h3:i<3
 ·have h3':(i:Int)<3:=om
  obtain⟨z,z1,z2,z3⟩:=idx3 a b c h3
  have hz:=z3 ha hb hc
  have wi:IntKind.i64.wrap ((i:Int)+1)=((i+1:Nat):Int):=by rw[wrap64 om om]; omega
  obtain⟨s',K2,m2,A2,E2'⟩:=app1_spec A (by have:=E.next; omega) 32 om
  have m2':aAppend 1 1 (K.push (.cells [.int .u8 32] 0 false)) s (oneS K)=some (s',K2):=m2
  have il:=intF_small hz
  have X:=E.trans E2'
  simp only[sA,sB,seval,g3,g16,g17,h3',z2,build1 _ _ (x:=.int .u8 32) rfl,m2']
  refine (appi_spec A2 om (by have:=X.next; omega) ((G.ext h0 X3).ext om X) hz (by simp; omega)).mono ?_
  rintro v' K3 ⟨A4,E4⟩
  simp only[sA,sB,seval,g17,wi]
  refine⟨_,om,i+1,v',_,rfl,om,?_,?_,rfl,g16,by trivial,A4,X.trans E4⟩
  ·simp only[lA,List.length_cons,List.length_nil]; omega
  ·rw[ht,List.take_add_one,z1]; simp
 ·have h3':¬(i:Int)<3:=om
  have:i=3:=om
  subst this
  rw[ht]at A
  simp only[sA,sB,seval,g3,g16,g17,h3',A.str]
  exact⟨tt,X3.trans (E.less om)⟩
open Go.Abs Go.Abs.S
theorem CdR.ext{x:Cs}{vc vd:AVal}{P:Nat→Prop}{H H':AHeap}(A:CdR x vc vd P H)(e:Ext H.next H H'):CdR x vc vd P H':=
 ⟨A.lc.same e.next (A.lc.blk.mono fun b hb=>e.old b hb),A.ld.same e.next (A.ld.blk.mono fun b hb=>e.old b hb),A.bc,A.bd,A.cd⟩
theorem keep_cd{x:Cs}{vc vd:AVal}{P:Nat→Prop}{H:AHeap}(A:CdR x vc vd P H)(f:FltI):∃H1 H2 H3 H4,oNew H [.slice none 0 (.known 0),.int .i64 0,.slice none 0 (.known 0)]=(cellR H.next 3 0,H1)∧oNew H1 [.int .i64 0,.int .i64 0]=(cellR (H.next+1) 2 0,H2)∧oStore 3 H2 (cellR H.next 3 0) (CdA x vc vd)=some H3∧oStore 2 H3 (cellR (H.next+1) 2 0) (.agg (flI f))=some H4 ∧
  Row H4 H.next [vc,.int .i64 (x.regs:Int),vd]∧Row H4 (H.next+1) (flI f)∧H4.next=H.next+2∧∀c,c<H.next→H4.get c=H.get c:=by
 obtain⟨H1,m1,r1,n1,k1⟩:=row_newL H [nilS,.int .i64 0,nilS] (n:=3) rfl
 obtain⟨H2,m2,r2,n2,k2⟩:=row_newL H1 [.int .i64 0,.int .i64 0] (n:=2) rfl
 rw[n1]at m2 r2 k2
 obtain⟨H3,m3,r3,n3,k3⟩:=row_storeN (r1.same (k2 _ om)) (n:=3) rfl (xs:=[vc,.int .i64 (x.regs:Int),vd]) rfl (by simp only[List.all_cons,List.all_nil,A.lc.one,A.ld.one]; rfl)
 obtain⟨H4,m4,r4,n4,k4⟩:=row_storeN (r2.same (k3 _ om)) (n:=2) rfl (xs:=flI f) rfl rfl
 exact⟨H1,H2,H3,H4,m1,m2,m3,m4,r3.same (k4 _ om),r4,om,fun c hc=>by rw[k4 c om,k3 c om,k2 c om,k1 c om]⟩
theorem compileF_len(l:List St)(hs:sizesS l≤2000):(compileF l).1.code.length≤10000∧(compileF l).1.cons.length≤10000:=by
 unfold compileF
 have h:=cL_lim given4 l cs0
 have c0:cs0.code.length=0:=rfl
 have c1:cs0.cons.length=0:=rfl
 rw[c0,c1]at h
 split
 ·split
  ·exact⟨by show 0≤_; omega,by show 0≤_; omega⟩
  ·exact⟨by show (cL given4 l cs0).code.length≤_; omega,by show (cL given4 l cs0).cons.length≤_; omega⟩
 ·exact⟨by show 0≤_; omega,by show 0≤_; omega⟩
theorem hawake{H:AHeap}:ACalls Tryz.prog natT 19 [] H fun u H'=>u=.bool true∧Ext H.next H H':=acalls_nat (v:=.bool true) (H':=H) rfl rfl ⟨rfl,Ext.refl _ _⟩
theorem lcode_spec{l:List St}{C:List AVal}{v:AVal}{ins:List InZ}{vc vd:AVal}{R:Int}{nk:Nat}{i:InZ}{H:AHeap}(h01:1<H.next)(G:Glo H 1 powL)
  (z1:SlK (·<H.next) H 9 v l.length C) (z2:XSs (·<H.next) H l C) (hc:aLenK false vc=some (.int .i64 (nk:Int))) (ho:vc.one=true) (hcq:aeq vc vc=true) (zi:SlK (·<H.next) H 4 vd ins.length (izL ins)) (hn1:nk≤281474976710656) (hn2:ins.length≤281474976710656)
  (i0:i.o<256) (ia:I64 i.a) (ib:I64 i.b) (ic:I64 i.c) :
  ACalls Tryz.prog natT 5 [v,.agg [vc,.int .i64 R,vd],izA i] H fun u H'=>u=.bool true∧Ext H.next H H':=by
 have od:=zi.one
 have hd:=zi.len
 obtain⟨H1,m1,r1,n1,k1⟩:=row_newL H [vc,.int .i64 R,vd] (n:=3) rfl
 obtain⟨H2,m2,r2,n2,k2⟩:=row_newL H1 (izC i) (n:=4) rfl
 have m2':oNew H1 [.int .u8 (i.o:Int),.int .i64 i.a,.int .i64 i.b,.int .i64 i.c]=(cellR H1.next 4 0,H2):=m2
 have E2:Ext H.next H H2:=⟨om,fun c hc=>by rw[k2 c om,k1 c om]⟩
 have kk:∀{J:AHeap},Ext H.next H J→∀b,b<H.next→b<J.next∧J.get b=H.get b:=fun q b hb=>⟨by have:=q.next; omega,q.old b hb⟩
 have kn:∀{J:AHeap},Ext H.next H J→∀b,b<H.next→b<H.next∧J.get b=H.get b:=fun q b hb=>⟨hb,q.old b hb⟩
 obtain⟨b4,hb4⟩:∃b,b=H.next:=⟨_,rfl⟩
 obtain⟨b5,hb5⟩:∃b,b=H1.next:=⟨_,rfl⟩
 rw[← hb4]at m1 r1 k1
 rw[← hb5]at m2' r2 k2
 have r12:=r1.same (k2 b4 om)
 have LD:∀{J:AHeap},Ext H2.next H2 J→oLoad false 1 J (cellR b4 3 0)=some vc∧oLoad false 1 J (cellR b4 3 2)=some vd∧oLoad true 3 J (cellR b4 3 0)=some (.agg [vc,.int .i64 R,vd])∧oLoad true 4 J (cellR b5 4 0)=some (izA i):=fun q=>by
  have s1:=r12.same (q.old b4 om)
  have s2:=r2.same (q.old b5 om)
  exact⟨row_load s1 rfl rfl,row_load s1 rfl rfl,row_loadN s1 rfl,row_loadN s2 rfl⟩
 have tr:∀{K L:AHeap},Ext H2.next H2 K→Ext K.next K L→Ext H2.next H2 L:=fun e f=>e.trans ⟨f.next,fun c hc=>f.old c (by have:=e.next; omega)⟩
 have tg:∀{A K L:AHeap},Ext A.next A K→Ext K.next K L→Ext A.next A L:=fun e f=>e.trans ⟨f.next,fun c hc=>f.old c (by have:=e.next; omega)⟩
 have toH:∀{K:AHeap},Ext H2.next H2 K→Ext H.next H K:=fun e=>⟨by have:=e.next; omega,fun c hc=>by rw[e.old c om,E2.old c hc]⟩
 refine acalls_ofN rfl za5 rfl ?_
 unfold izA
 simp only[c5,sA,sB,seval,cells_agg,m1,m2']
 refine (huge_spec (z1.mono (kk E2)) (z2.mono (kk E2))).mono ?_
 rintro _ H3 ⟨E3,r,rfl,hsm⟩
 obtain⟨g0,g2,g3,g5⟩:=LD E3
 cases r with
 | true=>
  simp only[sA,sB,seval]
  refine hawake.mono ?_
  rintro _ H4 ⟨rfl,E4⟩
  simp only[sA,sB,seval]
  exact⟨tt,toH (tr E3 E4)⟩
 | false=>
 obtain⟨s1,s2,s3⟩:=hsm rfl
 have wl:IntKind.i64.wrap ((ins.length:Int)+(nk:Int))=(ins.length:Int)+(nk:Int):=w64
 by_cases h5:(5000:Int)<(ins.length:Int)+(nk:Int)
 ·simp only[sA,sB,seval,fld0,fldA,g2,hd,g0,hc,wl,h5]
  refine hawake.mono ?_
  rintro _ H4 ⟨rfl,E4⟩
  simp only[sA,sB,seval]
  exact⟨tt,toH (tr E3 E4)⟩
 have E03:=toH E3
 simp only[sA,sB,seval,fld0,fldA,g2,hd,g0,hc,wl,h5]
 refine (copys_spec (sizesS l) rL om (z1.mono (kk E03)) (z2.mono (kk E03))).mono ?_
 rintro vp H4 ⟨⟨Cc,c1,c2⟩,E4⟩
 have e4:=E4.next
 have E24:=tr E3 E4
 have c1':SlK (·<H4.next) H4 9 vp l.length Cc:=c1.mono fun b hb=>⟨hb.2,rfl⟩
 have c2':XSws (·<H4.next) H4 l Cc:=c2.mono fun b hb=>⟨hb.2,rfl⟩
 simp only[sA,sB,seval]
 refine (kcompile_spec c1' c2' rL).mono ?_
 rintro _ H5 ⟨⟨wc,wd,rfl,A⟩,E5⟩
 have e5:=E5.next
 obtain⟨Ha,Hb,Hc,H6,ma,mb,mc,md,ra,rb,n6,k6⟩:=keep_cd A (compileF l).2
 have E6:Ext H5.next H5 H6:=⟨om,k6⟩
 have E26:=tr (tr E24 E5) E6
 have E06:=toH E26
 simp only[sA,sB,seval,ext_0,ext_1,ma,mb,mc,md]
 refine (zcompile_spec (z1.mono (kk E06)) (z2.mono (kk E06)) rL om).mono ?_
 rintro _ H7 ⟨⟨yc,yd,rfl,B⟩,E7⟩
 have e7:=E7.next
 obtain⟨Hd,He,Hf,H8,me,mf,mg,mh,rc,rd,n8,k8⟩:=keep_cd B (compileF l).2
 have E8:Ext H7.next H7 H8:=⟨om,k8⟩
 have E68:Ext H6.next H6 H8:=⟨om,fun c hc=>by rw[E8.old c om,E7.old c hc]⟩
 have E28:=tr E26 E68
 have A8:=(A.ext E6).ext E68
 have B8:=B.ext E8
 have qa:Row H8 H5.next _:=ra.same (E68.old _ om)
 have qb:Row H8 (H5.next+1) _:=rb.same (E68.old _ om)
 have la:oLoad true 3 H8 (cellR H5.next 3 0)=some (CdA (compileF l).1 wc wd):=row_loadN qa rfl
 have lb:oLoad true 3 H8 (cellR H7.next 3 0)=some (CdA (compileF l).1 yc yd):=row_loadN rc rfl
 obtain⟨cl1,cl2⟩:=compileF_len l om
 simp only[sA,sB,seval,ext_0,ext_1,me,mf,mg,mh]
 refine aw_drawC rfl ?_
 simp only[sR,sA,sB,seval,la,lb]
 refine (same18_spec A8 B8 om om).mono ?_
 rintro _ H9 ⟨rfl,E9⟩
 have e9:=E9.next
 have E29:=tr E28 E9
 obtain⟨_,_,g9,g9'⟩:=LD E29
 have lf1:oLoad true 2 H9 (cellR (H5.next+1) 2 0)=some (.agg (flI (compileF l).2)):=row_loadN (qb.same (E9.old _ om)) rfl
 have lf2:oLoad true 2 H9 (cellR (H7.next+1) 2 0)=some (.agg (flI (compileF l).2)):=row_loadN (rd.same (E9.old _ om)) rfl
 have E09:=toH E29
 simp only[sR,sA,sB,seval,lf1,lf2,eq_flI,g9]
 refine (kcheck_spec hc (zi.mono (kn E09)) (by have:=E09.next; omega) ho om).mono ?_
 rintro _ H10 ⟨rfl,E10⟩
 have E2a:=tr E29 E10
 obtain⟨_,_,g10,_⟩:=LD E2a
 have E0a:=toH E2a
 simp only[sR,sA,sB,seval,g10]
 refine (zcheck_spec hc (zi.mono (kn E0a)) (by have:=E0a.next; omega) om).mono ?_
 rintro _ H11 ⟨rfl,E11⟩
 have E2b:=tr E2a E11
 obtain⟨_,_,_,g11⟩:=LD E2b
 simp only[sR,sA,sB,seval,g11]
 refine (kshow_spec i0 ia ib ic (by have:=(toH E2b).next; omega) (G.ext h01 (toH E2b))).mono ?_
 rintro _ H12 ⟨rfl,E12⟩
 have E2c:=tr E2b E12
 obtain⟨_,_,_,g12⟩:=LD E2c
 simp only[sR,sA,sB,seval,g12]
 refine (zshow_spec i0 ia ib ic).mono ?_
 rintro _ H13 ⟨rfl,E13⟩
 have E2d:=tr E2c E13
 have E0d:=toH E2d
 have E4d:Ext H4.next H4 H13:=tg (tg (tg (tg (tg (tg (tg E5 E6) E68) E9) E10) E11) E12) E13
 simp only[sR,sA,sB,seval]
 refine (sames_spec (sizesS l) rL om (c1'.mono fun b hb=>⟨by have:=E4d.next; omega,E4d.old b hb⟩) (c2'.xss.mono fun b hb=>⟨by have:=E4d.next; omega,E4d.old b hb⟩) (z1.mono (kk E0d)) (z2.mono (kk E0d))).mono ?_
 rintro _ H14 ⟨rfl,E14⟩
 have E2e:=tr E2d E14
 simp only[sR,sA,sB,seval]
 refine hawake.mono ?_
 rintro _ H15 ⟨rfl,E15⟩
 have E0f:=toH (tr E2e E15)
 simp only[sR,sA,sB,seval]
 simp only[ck_nil',ck_cons,ckP_load,ckP_nil,ck_end,and_true,true_and,List.map_cons,List.map_nil,sA,sB,seval]
 refine⟨⟨⟨_,rfl,fun _=>⟨_,g9,by simp[aeq,aeqs,hcq,zi.aeq,eqF_eq]⟩⟩,⟨_,rfl,fun _=>⟨_,g11,by simp[izA,aeq,aeqs,eqF_eq]⟩⟩⟩,?_⟩
 exact E0f
open Go.Abs Go.Abs.S
open Go.WideShapes Go.ChangeShapes
variable {K:Type} {enc:TypeId×Value→K}
theorem mapM_none{α:Type}{f:Nat→Option α}{m:Nat}(h:f 0=none)(hm:0<m):(List.range m).mapM f=none:=by
 obtain⟨m,rfl⟩:∃k,m=k+1:=⟨m-1,om⟩
 rw[List.range_succ_eq_map,List.mapM_cons,h]; rfl
theorem cells_spot{W:World}{c off:Nat}{q}{m:Nat}(hm:0<m):W.cells? 0 ⟨c,off,some q⟩ m=none:=by
 unfold World.cells?
 split
 ·refine mapM_none ?_ hm
  show W.cell? ⟨c,off,some q⟩=none
  unfold World.cell?
  split
  ·rfl
  ·rfl
 ·rfl
theorem SlK.empty{W:World}{m:Nat}{a:Addr}:SlK (·<(heapW W).next) (heapW W) m (absW W (.slice (some a) 0 0)) 0 []:=by
 obtain⟨c,off,spot⟩:=a
 cases spot with
 | some q=>exact .inl ⟨rfl,rfl,rfl⟩
 | none=>
  cases hr:rowOf W c with
  | none=>exact .inl ⟨by simp only[absW,Nat.le_refl,if_true,hr]; rfl,rfl,rfl⟩
  | some n=>
   by_cases ho:off≤n
   ·obtain⟨C,e',fz,g1,g2,g3⟩:=objW_some hr
    have hlt:c<(heapW W).next:=(Array.getElem?_eq_some_iff.1 g1).1
    refine .inr ⟨⟨c,n,off⟩,.known 0,by simp only[absW,Nat.le_refl,if_true,hr,ho],hlt,?_⟩
    unfold rdCells
    rw[heapW_get,g3]
    simp only[List.length_map,Array.length_toList,g2,Nat.mul_zero,Nat.add_zero,List.take_zero,Nat.ble_eq_true_of_le (Nat.zero_le _),Nat.ble_eq_true_of_le rL,Nat.ble_eq_true_of_le ho,Bool.and_self,cond_true]
   ·exact .inl ⟨by simp only[absW,Nat.le_refl,if_true,hr]; rw[if_neg ho]; rfl,rfl,rfl⟩
theorem trod_slL{P:Program}{W:World}{t e:TypeId}{m fuel:Nat}{cs:List Value}{x:DataW K×List MemPlace}(ht:P.underlying t=some (.slice e))(hm:P.cellsOf e=m)(h0:0<m)
  (hf:DataW.trod enc P W 0 (fun _=>true) true fuel t cs=some x) :
  ∃v k C,cs=[v]∧(k=0∨∃el sp,x.1=.slice el sp∧el.length=k)∧SlK (·<(heapW W).next) (heapW W) m (absW W v) k C∧C.length=m*k∧∀i,i<k→∃f es y,f<fuel∧es.map (absW W)=(C.drop (i*m)).take m∧DataW.trod enc P W 0 (fun _=>true) true f e es=some y:=by
 subst hm
 rcases DataW.trod_slice ht hf with⟨rfl,_⟩ | ⟨a,len,cap,elems,rest,n',hfu,rfl,hx,_,h3,h4,h5,h6,h7,_⟩
 ·exact⟨_,0,[],rfl,.inl rfl,.inl ⟨by simp only[absW]; rfl,rfl,rfl⟩,rfl,fun i hi=>om⟩
 obtain⟨h7a,h7b⟩:=h7 rfl
 by_cases hc:cap=0
 ·obtain rfl:len=0:=om
  subst hc
  exact⟨_,0,[],rfl,.inl rfl,SlK.empty,rfl,fun i hi=>om⟩
 have hal:∀i,i<cap→∃es,W.cells? 0 (a.add (i*P.cellsOf e)) (P.cellsOf e)=some es:=by
  intro i hi
  by_cases hlt:i<len
  ·have:=h6 i hlt
   rw[List.getElem?_eq_getElem om]at this
   obtain⟨es,q,_⟩:=Option.bind_eq_some_iff.1 this
   exact⟨es,q⟩
  ·have:=h7b (i-len) om
   rw[List.getElem?_eq_getElem om,show len+(i-len)=i by omega]at this
   obtain⟨es,q,_⟩:=Option.bind_eq_some_iff.1 this
   exact⟨es,q⟩
 obtain⟨c,off,spot⟩:=a
 cases spot with
 | some q=>
  obtain⟨es,hes⟩:=hal 0 om
  rw[Nat.zero_mul,show (⟨c,off,some q⟩:Addr).add 0=⟨c,off,some q⟩ from rfl,cells_spot h0]at hes
  simp at hes
 | none=>
  have key:∀i,i<cap→∀es,W.cells? 0 ((⟨c,off,none⟩:Addr).add (i*P.cellsOf e)) (P.cellsOf e)=some es→es.length=P.cellsOf e∧∀j,j<P.cellsOf e→W.cell? ⟨c,off+i*P.cellsOf e+j,none⟩=es[j]?:=by
   intro i _ es hes
   rw[add_none]at hes
   exact cells_at hes
  obtain⟨es0,hes0⟩:=hal (cap-1) om
  obtain⟨q1,q2⟩:=key (cap-1) om es0 hes0
  have q3:=q2 (P.cellsOf e-1) om
  rw[List.getElem?_eq_getElem om]at q3
  obtain⟨n,hn⟩:∃n,rowOf W c=some n:=by
   unfold World.cell? at q3
   unfold rowOf
   split at q3
   ·rename_i C _ _ hC; exact⟨C.size,by simp only at hC; rw[hC]⟩
   ·simp at q3
  obtain⟨C,e',fz,g1,g2,g3⟩:=objW_some hn
  rw[cell?_of g1]at q3
  have hb:=(Array.getElem?_eq_some_iff.1 q3).1
  have hcap:(cap-1)*P.cellsOf e+P.cellsOf e=cap*P.cellsOf e:=by
   rw[← Nat.succ_mul]; congr 1; omega
  have hlc:len*P.cellsOf e≤cap*P.cellsOf e:=Nat.mul_le_mul_right _ h3
  have hlt:c<(heapW W).next:=(Array.getElem?_eq_some_iff.1 g1).1
  have hmul:P.cellsOf e*len=len*P.cellsOf e:=Nat.mul_comm _ _
  refine⟨_,len,((C.toList.map (absW W)).drop off).take (P.cellsOf e*len),rfl,.inr ⟨_,_,congrArg Prod.fst hx,by rw[List.length_map]; omega⟩,.inr ⟨⟨c,n,off⟩,.known cap,?_,hlt,?_⟩,?_,?_⟩
  ·simp only[absW,h3,if_true,hn,show off≤n by omega]
  ·unfold rdCells
   rw[heapW_get,g3]
   simp only[List.length_map,Array.length_toList,g2,Nat.ble_eq_true_of_le (Nat.zero_le _),Nat.ble_eq_true_of_le rL,Nat.ble_eq_true_of_le (show off+P.cellsOf e*len≤n by omega),Bool.and_self,cond_true]
  ·rw[List.length_take,List.length_drop,List.length_map,Array.length_toList]; omega
  ·intro i hi
   have:=h6 i hi
   rw[List.getElem?_eq_getElem om]at this
   obtain⟨es,r1,r2⟩:=Option.bind_eq_some_iff.1 this
   obtain⟨l1,l2⟩:=key i om es r1
   refine⟨n',es,_,om,?_,r2⟩
   apply List.ext_getElem?
   intro j
   have hil:i*P.cellsOf e+P.cellsOf e≤len*P.cellsOf e:=by
    rw[← Nat.succ_mul]; exact Nat.mul_le_mul_right _ hi
   by_cases hj:j<P.cellsOf e
   ·rw[List.getElem?_take_of_lt hj,List.getElem?_drop,List.getElem?_take_of_lt om,List.getElem?_drop,List.getElem?_map,List.getElem?_map,← l2 j hj,cell?_of g1,Array.getElem?_toList,Nat.add_assoc]
   ·rw[List.getElem?_eq_none (by rw[List.length_map]; omega),List.getElem?_eq_none (by rw[List.length_take]; omega)]
theorem trod_sl{P:Program}{W:World}{t e:TypeId}{m fuel:Nat}{cs:List Value}{x:DataW K×List MemPlace}(ht:P.underlying t=some (.slice e))(hm:P.cellsOf e=m)(h0:0<m)
  (hf:DataW.trod enc P W 0 (fun _=>true) true fuel t cs=some x) :
  ∃v k C,cs=[v]∧SlK (·<(heapW W).next) (heapW W) m (absW W v) k C∧C.length=m*k∧∀i,i<k→∃f es y,f<fuel∧es.map (absW W)=(C.drop (i*m)).take m∧DataW.trod enc P W 0 (fun _=>true) true f e es=some y:=by
 obtain⟨v,k,C,a,_,b⟩:=trod_slL (enc:=enc) ht hm h0 hf
 exact⟨v,k,C,a,b⟩
theorem xes_of{P:Nat→Prop}{H:AHeap}:∀(k:Nat) (C:List AVal),C.length=4*k→(∀i,i<k→∃e,XE P H e ((C.drop (i*4)).take 4))→∃l:List Ex,l.length=k∧XEs P H l C
 | 0,C,h,_=>⟨[],rfl,by cases C with | nil=>rfl | cons a b=>simp at h⟩
 | k+1,C,h,hq=>by
  obtain⟨e,h1⟩:=hq 0 om
  obtain⟨l,a1,a2⟩:=xes_of k (C.drop 4) (by rw[List.length_drop]; omega) fun i hi=>by
   obtain⟨e,g1⟩:=hq (i+1) om
   refine⟨e,?_⟩
   rw[List.drop_drop,show 4+i*4=(i+1)*4 by omega]; exact g1
  rw[Nat.zero_mul,List.drop_zero]at h1
  exact⟨e::l,by simp[a1],⟨_,_,(List.take_append_drop 4 C).symm,h1,a2⟩⟩
theorem xss_of{P:Nat→Prop}{H:AHeap}:∀(k:Nat) (C:List AVal),C.length=9*k→(∀i,i<k→∃e,XS P H e ((C.drop (i*9)).take 9))→∃l:List St,l.length=k∧XSs P H l C
 | 0,C,h,_=>⟨[],rfl,by cases C with | nil=>rfl | cons a b=>simp at h⟩
 | k+1,C,h,hq=>by
  obtain⟨e,h1⟩:=hq 0 om
  obtain⟨l,a1,a2⟩:=xss_of k (C.drop 9) (by rw[List.length_drop]; omega) fun i hi=>by
   obtain⟨e,g1⟩:=hq (i+1) om
   refine⟨e,?_⟩
   rw[List.drop_drop,show 9+i*9=(i+1)*9 by omega]; exact g1
  rw[Nat.zero_mul,List.drop_zero]at h1
  exact⟨e::l,by simp[a1],⟨_,_,(List.take_append_drop 9 C).symm,h1,a2⟩⟩
open Go.Abs Go.Abs.S
open Go.WideShapes Go.ChangeShapes
variable {K:Type} {enc:TypeId×Value→K}
def Fd(P:Program)(fs:Array Field)(i off n:Nat)(T:TypeId→Prop):Prop:=∃f,fs[i]?=some f∧f.offset=off∧P.cellsOf f.type=n∧T f.type
structure Types(P:Program)(tl ts te tel:TypeId) where
 l:P.underlying tl=some (.slice ts)
 el:P.underlying tel=some (.slice te)
 cs:P.cellsOf ts=9
 ce:P.cellsOf te=4
 fe:∃fs:Array Field,P.underlying te=some (.struct fs)∧Fd P fs 0 0 1 (fun t=>P.underlying t=some (.int .u8))∧Fd P fs 1 1 1 (fun t=>P.underlying t=some .string)∧Fd P fs 2 2 1 (fun t=>P.underlying t=some (.int .i64))∧Fd P fs 3 3 1 (·=tel)
 fs:∃fs:Array Field,P.underlying ts=some (.struct fs)∧Fd P fs 0 0 1 (fun t=>P.underlying t=some (.int .u8))∧Fd P fs 1 1 1 (fun t=>P.underlying t=some .string)∧Fd P fs 2 2 4 (·=te)∧Fd P fs 3 6 1 (·=tl)∧Fd P fs 4 7 1 (·=tl)∧Fd P fs 5 8 1 (fun t=>P.underlying t=some (.int .i64))
theorem fd_trod{P:Program}{W:World}{fuel:Nat}{cs:List Value}{xs:List (DataW K×List MemPlace)}{fs:Array Field}{i off n:Nat}{T:TypeId→Prop}(h:Fd P fs i off n T)(hl:xs.length=fs.size)
  (hi:∀(i:Nat) (f:Field),fs[i]?=some f→DataW.trod enc P W 0 (fun _=>true) true fuel f.type ((cs.drop f.offset).take (P.cellsOf f.type))=xs[i]?) :
  ∃t y,T t∧DataW.trod enc P W 0 (fun _=>true) true fuel t ((cs.drop off).take n)=some y:=by
 obtain⟨f,h1,rfl,rfl,h4⟩:=h
 have h5:=hi i f h1
 have hlt:=(Array.getElem?_eq_some_iff.1 h1).1
 rw[List.getElem?_eq_getElem om]at h5
 exact⟨_,_,h4,h5⟩
theorem wf_u8{z:Int}(h:(Lit.int .u8 z).wf=true):∃k:Nat,z=(k:Int):=by
 simp only[Lit.wf,Bool.and_eq_true,decide_eq_true_eq]at h
 have h1:(0:Int)≤z:=h.1
 exact⟨z.toNat,om⟩
theorem wf_i64{z:Int}(h:(Lit.int .i64 z).wf=true):-9223372036854775808≤z∧z≤9223372036854775807:=by
 simp only[Lit.wf,Bool.and_eq_true,decide_eq_true_eq]at h
 exact h
theorem tree_E{P:Program}{W:World}{tl ts te tel:TypeId}(Y:Types P tl ts te tel):∀(fuel:Nat) {cs:List Value} {x:DataW K×List MemPlace},DataW.trod enc P W 0 (fun _=>true) true fuel te cs=some x →
  ∃e,XE (·<(heapW W).next) (heapW W) e (cs.map (absW W)):=by
 intro fuel
 induction fuel using Nat.strongRecOn with
 | ind fuel ih=>
  intro cs x hf
  obtain⟨fs,hfs,d0,d1,d2,d3⟩:=Y.fe
  obtain⟨xs,n,hfu,_,hl,hn,hi⟩:=DataW.trod_struct hfs hf
  rw[Y.ce]at hl
  obtain⟨c0,c1,c2,c3,rfl⟩:∃a b c d,cs=[a,b,c,d]:=by
   match cs,hl with
   | [a,b,c,d],_=>exact⟨a,b,c,d,rfl⟩
  obtain⟨_,_,g0,t0⟩:=fd_trod d0 hn hi
  obtain⟨_,_,g1,t1⟩:=fd_trod d1 hn hi
  obtain⟨_,_,g2,t2⟩:=fd_trod d2 hn hi
  obtain⟨_,_,rfl,t3⟩:=fd_trod d3 hn hi
  obtain⟨z0,e0,_,w0⟩:=DataW.trod_int g0 t0
  obtain⟨s1,e1,_,_⟩:=DataW.trod_string g1 t1
  obtain⟨z2,e2,_,w2⟩:=DataW.trod_int g2 t2
  obtain⟨v,k,C,e3,q1,q2,q3⟩:=trod_sl Y.el Y.ce om t3
  simp at e0 e1 e2 e3
  subst e0 e1 e2 e3
  obtain⟨k0,rfl⟩:=wf_u8 w0
  obtain⟨l,hl1,hl2⟩:=xes_of (P:=(·<(heapW W).next)) (H:=heapW W) k C q2 fun i hi=>by
   obtain⟨f,es,y,r1,r2,r3⟩:=q3 i hi
   obtain⟨e,a1⟩:=ih f om r3
   exact⟨e,by rw[← r2]; exact a1⟩
  subst hl1
  exact⟨.mk k0 s1.data.toList z2 l,⟨_,C,rfl,q1,hl2⟩⟩
theorem tree_S{P:Program}{W:World}{tl ts te tel:TypeId}(Y:Types P tl ts te tel):∀(fuel:Nat) {cs:List Value} {x:DataW K×List MemPlace},DataW.trod enc P W 0 (fun _=>true) true fuel ts cs=some x →
  ∃e,XS (·<(heapW W).next) (heapW W) e (cs.map (absW W)):=by
 intro fuel
 induction fuel using Nat.strongRecOn with
 | ind fuel ih=>
  intro cs x hf
  obtain⟨fs,hfs,d0,d1,d2,d3,d4,d5⟩:=Y.fs
  obtain⟨xs,n,hfu,_,hl,hn,hi⟩:=DataW.trod_struct hfs hf
  rw[Y.cs]at hl
  obtain⟨c0,c1,c2,c3,c4,c5,c6,c7,c8,rfl⟩:∃a b c d e f g h i,cs=[a,b,c,d,e,f,g,h,i]:=by
   match cs,hl with
   | [a,b,c,d,e,f,g,h,i],_=>exact⟨a,b,c,d,e,f,g,h,i,rfl⟩
  obtain⟨_,_,g0,t0⟩:=fd_trod d0 hn hi
  obtain⟨_,_,g1,t1⟩:=fd_trod d1 hn hi
  obtain⟨_,_,rfl,t2⟩:=fd_trod d2 hn hi
  obtain⟨_,_,rfl,t3⟩:=fd_trod d3 hn hi
  obtain⟨_,_,rfl,t4⟩:=fd_trod d4 hn hi
  obtain⟨_,_,g5,t5⟩:=fd_trod d5 hn hi
  obtain⟨z0,e0,_,w0⟩:=DataW.trod_int g0 t0
  obtain⟨s1,e1,_,_⟩:=DataW.trod_string g1 t1
  obtain⟨e,x1⟩:=tree_E Y _ t2
  obtain⟨vb,kb,Cb,e3,q1,q2,q3⟩:=trod_sl Y.l Y.cs om t3
  obtain⟨ve,ke,Ce,e4,p1,p2,p3⟩:=trod_sl Y.l Y.cs om t4
  obtain⟨z5,e5,_,w5⟩:=DataW.trod_int g5 t5
  simp at e0 e1 e3 e4 e5
  subst e0 e1 e3 e4 e5
  obtain⟨k0,rfl⟩:=wf_u8 w0
  obtain⟨lb,hl1,hl2⟩:=xss_of (P:=(·<(heapW W).next)) (H:=heapW W) kb Cb q2 fun i hi=>by
   obtain⟨f,es,y,r1,r2,r3⟩:=q3 i hi
   obtain⟨e,a1⟩:=ih f om r3
   exact⟨e,by rw[← r2]; exact a1⟩
  obtain⟨le,hm1,hm2⟩:=xss_of (P:=(·<(heapW W).next)) (H:=heapW W) ke Ce p2 fun i hi=>by
   obtain⟨f,es,y,r1,r2,r3⟩:=p3 i hi
   obtain⟨e,a1⟩:=ih f om r3
   exact⟨e,by rw[← r2]; exact a1⟩
  subst hl1 hm1
  exact⟨.mk k0 s1.data.toList e lb le z5,⟨_,_,Cb,_,Ce,rfl,x1,q1,hl2,p1,hm2⟩⟩
theorem arg_tree{P:Program}{W:World}{tl ts te tel:TypeId}(Y:Types P tl ts te tel){v:Value}{d:DataW K}{p:List MemPlace}(hv:v.cells.toList=[v])(h:DataW.Trod enc P W 0 (fun _=>true) true tl v d p) :
  ∃(l:List St) (C:List AVal),SlK (·<(heapW W).next) (heapW W) 9 (absW W v) l.length C∧XSs (·<(heapW W).next) (heapW W) l C:=by
 obtain⟨fuel,hf⟩:=h
 rw[hv]at hf
 obtain⟨v',k,C,e,q1,q2,q3⟩:=trod_sl Y.l Y.cs om hf
 simp only[List.cons.injEq,and_true]at e
 subst e
 obtain⟨l,hl1,hl2⟩:=xss_of (P:=(·<(heapW W).next)) (H:=heapW W) k C q2 fun i hi=>by
  obtain⟨f,es,y,r1,r2,r3⟩:=q3 i hi
  obtain⟨e,a1⟩:=tree_S Y f r3
  exact⟨e,by rw[← r2]; exact a1⟩
 subst hl1
 exact⟨l,C,q1,hl2⟩
theorem fd_trodL{P:Program}{W:World}{fuel:Nat}{cs:List Value}{xs:List (DataW K×List MemPlace)}{fs:Array Field}{i off n:Nat}{T:TypeId→Prop}(h:Fd P fs i off n T)(hl:xs.length=fs.size)
  (hi:∀(i:Nat) (f:Field),fs[i]?=some f→DataW.trod enc P W 0 (fun _=>true) true fuel f.type ((cs.drop f.offset).take (P.cellsOf f.type))=xs[i]?) :
  ∃t y,T t∧DataW.trod enc P W 0 (fun _=>true) true fuel t ((cs.drop off).take n)=some y∧xs[i]?=some y∧(fs.toList.map (·.type))[i]?=some t:=by
 obtain⟨f,h1,rfl,rfl,h4⟩:=h
 have h5:=hi i f h1
 have hlt:=(Array.getElem?_eq_some_iff.1 h1).1
 rw[List.getElem?_eq_getElem om]at h5
 exact⟨_,_,h4,h5,List.getElem?_eq_getElem _,by rw[List.getElem?_map,Array.getElem?_toList,h1]; rfl⟩
theorem sl_len{P:Program}{t e:TypeId}{d:DataW K}{k:Nat}(ht:P.underlying t=some (.slice e))(hb:0<P.bytesOf e)(hw:∀n∈d.weights P t,n≤reachBytes)(h:k=0∨∃el sp,d=.slice el sp∧el.length=k):k≤281474976710656:=by
 rcases h with rfl | ⟨el,sp,rfl,rfl⟩
 ·omega
 ·have h1:=hw ((el.length+sp.length)*P.bytesOf e) (by simp[DataW.weights,ht])
  have h2:el.length*1≤(el.length+sp.length)*P.bytesOf e:=Nat.mul_le_mul om hb
  have h3:=reachBytes_lt
  omega
theorem vrels_map(W:World):∀(cs:List Value),VRels (plW W) (cs.map (absW W)) cs
 | []=>rfl
 | c::cs=>⟨_,_,rfl,absW_rel W c,vrels_map W cs⟩
theorem wf_u8l{z:Int}(h:(Lit.int .u8 z).wf=true):∃k:Nat,z=(k:Int)∧k<256:=by
 simp only[Lit.wf,Bool.and_eq_true,decide_eq_true_eq]at h
 have h1:(0:Int)≤z:=h.1
 have h2:z≤255:=h.2
 exact⟨z.toNat,om,om⟩
theorem wf_I64{z:Int}(h:(Lit.int .i64 z).wf=true):I64 z:=by
 have:=wf_i64 h
 exact⟨this.1,om⟩
abbrev IsI(P:Program)(k:IntKind)(t:TypeId):Prop:=P.underlying t=some (.int k)
structure InsT(P:Program)(t:TypeId):Prop where
 c:P.cellsOf t=4
 b:0<P.bytesOf t
 f:∃fs:Array Field,P.underlying t=some (.struct fs)∧Fd P fs 0 0 1 (IsI P .u8)∧Fd P fs 1 1 1 (IsI P .i64)∧Fd P fs 2 2 1 (IsI P .i64)∧Fd P fs 3 3 1 (IsI P .i64)
theorem trod_ins{P:Program}{W:World}{t:TypeId}(Y:InsT P t){fuel:Nat}{cs:List Value}{x:DataW K×List MemPlace}(hf:DataW.trod enc P W 0 (fun _=>true) true fuel t cs=some x) :
  ∃i:InZ,cs.map (absW W)=izC i∧i.o<256∧I64 i.a∧I64 i.b∧I64 i.c:=by
 obtain⟨fs,hfs,d0,d1,d2,d3⟩:=Y.f
 obtain⟨xs,n,hfu,_,hl,hn,hi⟩:=DataW.trod_struct hfs hf
 rw[Y.c]at hl
 obtain⟨c0,c1,c2,c3,rfl⟩:∃a b c d,cs=[a,b,c,d]:=by
  match cs,hl with
  | [a,b,c,d],_=>exact⟨a,b,c,d,rfl⟩
 obtain⟨_,_,g0,t0⟩:=fd_trod d0 hn hi
 obtain⟨_,_,g1,t1⟩:=fd_trod d1 hn hi
 obtain⟨_,_,g2,t2⟩:=fd_trod d2 hn hi
 obtain⟨_,_,g3,t3⟩:=fd_trod d3 hn hi
 obtain⟨z0,e0,_,w0⟩:=DataW.trod_int g0 t0
 obtain⟨z1,e1,_,w1⟩:=DataW.trod_int g1 t1
 obtain⟨z2,e2,_,w2⟩:=DataW.trod_int g2 t2
 obtain⟨z3,e3,_,w3⟩:=DataW.trod_int g3 t3
 simp at e0 e1 e2 e3
 subst e0 e1 e2 e3
 obtain⟨k0,rfl,hk⟩:=wf_u8l w0
 exact⟨⟨k0,z1,z2,z3⟩,rfl,hk,wf_I64 w1,wf_I64 w2,wf_I64 w3⟩
theorem izL_of:∀(k:Nat) (C:List AVal),C.length=4*k→(∀i,i<k→∃e,(C.drop (i*4)).take 4=izC e)→∃l:List InZ,l.length=k∧C=izL l
 | 0,C,h,_=>⟨[],rfl,by cases C with | nil=>rfl | cons a b=>simp at h⟩
 | k+1,C,h,hq=>by
  obtain⟨e,h1⟩:=hq 0 om
  obtain⟨l,a1,a2⟩:=izL_of k (C.drop 4) (by rw[List.length_drop]; omega) fun i hi=>by
   obtain⟨e,g1⟩:=hq (i+1) om
   refine⟨e,?_⟩
   rw[List.drop_drop,show 4+i*4=(i+1)*4 by omega]; exact g1
  rw[Nat.zero_mul,List.drop_zero]at h1
  exact⟨e::l,by simp[a1],by show C=izC e++izL l; rw[← h1,← a2,List.take_append_drop]⟩
structure ShadeT(P:Program)(t:TypeId):Prop where
 c:P.cellsOf t=3
 f:∃fs:Array Field,P.underlying t=some (.struct fs)∧Fd P fs 0 0 1 (fun t=>∃e,P.underlying t=some (.slice e)∧P.cellsOf e=1∧0<P.bytesOf e)∧Fd P fs 1 1 1 (IsI P .i64)∧Fd P fs 2 2 1 (fun t=>∃e,P.underlying t=some (.slice e)∧InsT P e)
theorem trod_shade{P:Program}{W:World}{t:TypeId}(Y:ShadeT P t){fuel:Nat}{cs:List Value}{x:DataW K×List MemPlace}(hf:DataW.trod enc P W 0 (fun _=>true) true fuel t cs=some x)(hw:∀n∈x.1.weights P t,n≤reachBytes) :
  ∃vc R vd nk ins,cs.map (absW W)=[vc,.int .i64 R,vd]∧aLenK false vc=some (.int .i64 ((nk:Nat):Int))∧vc.one=true∧aeq vc vc=true∧nk≤281474976710656∧SlK (·<(heapW W).next) (heapW W) 4 vd (ins:List InZ).length (izL ins)∧ins.length≤281474976710656:=by
 obtain⟨fs,hfs,d0,d1,d2⟩:=Y.f
 obtain⟨xs,n,hfu,rfl,hl,hn,hi⟩:=DataW.trod_struct hfs hf
 have hw':∀n∈DataW.weightsEach P (fs.toList.map (·.type)) (xs.map (·.1)),n≤reachBytes:=fun n h=>hw n (by simp only[DataW.weights,hfs]; exact h)
 rw[Y.c]at hl
 obtain⟨c0,c1,c2,rfl⟩:∃a b c,cs=[a,b,c]:=by
  match cs,hl with
  | [a,b,c],_=>exact⟨a,b,c,rfl⟩
 obtain⟨_,y0,g0,t0,x0,f0⟩:=fd_trodL d0 hn hi
 obtain⟨_,y1,g1,t1,x1,f1⟩:=fd_trodL d1 hn hi
 obtain⟨_,y2,g2,t2,x2,f2⟩:=fd_trodL d2 hn hi
 obtain⟨z1,e1,_,_⟩:=DataW.trod_int g1 t1
 obtain⟨_,g0,h0,m0⟩:=g0
 obtain⟨v0,k0,C0,e0,l0,q0,j0,u0⟩:=trod_slL g0 h0 om t0
 obtain⟨_,g2,h2⟩:=g2
 obtain⟨v2,k2,C2,e2,l2,q2,j2,u2⟩:=trod_slL g2 h2.c om t2
 simp at e0 e1 e2
 subst e0 e1 e2
 have s0:=sl_len g0 m0 (fun n h=>hw' n (DataW.weights_mem_each f0 (by rw[List.getElem?_map,x0]; rfl) n h)) l0
 have s2:=sl_len g2 h2.b (fun n h=>hw' n (DataW.weights_mem_each f2 (by rw[List.getElem?_map,x2]; rfl) n h)) l2
 obtain⟨L2,n2,r2⟩:=izL_of k2 C2 j2 fun i hi=>by
  obtain⟨f,es,y,r1,r2,r3⟩:=u2 i hi
  obtain⟨e,a1,_⟩:=trod_ins h2 r3
  exact⟨e,by rw[← r2]; exact a1⟩
 subst n2 r2
 exact⟨_,z1,_,k0,L2,rfl,q0.len,q0.one,q0.aeq,s0,q2,s2⟩
end Go.Proofs.Wo
namespace Go.Proofs
open Go.Shelf
def Tryz.laysM316_ren:Go.Shelf.Ren:=⟨fun | 316=>153 | n=>n,fun | 9=>9 | 3=>3 | 4=>4 | 37=>80 | 0=>0 | 127=>206 | 5=>5 | n=>n,fun | n=>n⟩
theorem Tryz.laysM316:Go.Proofs.LaysM.n316 Tryz.prog Tryz.laysM316_ren:={
 mixed:=by kernel_rfl
 f316:=Tryz.func153.trans (congrArg some (by kernel_rfl))
 t0:=Tryz.underlying0
 a0:=Tryz.isAgg0
 z0:=Tryz.sizeOf0
 v0:=Tryz.zeroValue0
 t3:=Tryz.underlying3
 a3:=Tryz.isAgg3
 z3:=Tryz.sizeOf3
 v3:=Tryz.zeroValue3
 t4:=Tryz.underlying4
 a4:=Tryz.isAgg4
 z4:=Tryz.sizeOf4
 v4:=Tryz.zeroValue4
 t9:=Tryz.underlying9
 a9:=Tryz.isAgg9
 z9:=Tryz.sizeOf9
 v9:=Tryz.zeroValue9
 t37:=Tryz.underlying80
 a37:=Tryz.isAgg80
 z37:=Tryz.sizeOf80
 v37:=Tryz.zeroValue80
 t127:=Tryz.underlying206
 a127:=Tryz.isAgg206
 z127:=Tryz.sizeOf206
 v127:=Tryz.zeroValue206
 t5:=Tryz.underlying5
 a5:=Tryz.isAgg5
 z5:=Tryz.sizeOf5
 v5:=Tryz.zeroValue5
 i0:=by kernel_rfl
 i3:=by kernel_rfl
 i4:=by kernel_rfl
 i5:=by kernel_rfl
 i9:=by kernel_rfl
 i37:=by kernel_rfl
 i127:=by kernel_rfl }
open Go.RowKit in
theorem Tryz.stringslite_Clone(s:ByteArray)(w:World)(hlim:s.size≤281474976710656) :
  Calls Tryz.prog 153 #[.string s] w fun e w'=>e=.returned (.string s)∧Below w.heap.size w w':=Any.stringslite_Clone Tryz.laysM316 s w hlim
end Go.Proofs
