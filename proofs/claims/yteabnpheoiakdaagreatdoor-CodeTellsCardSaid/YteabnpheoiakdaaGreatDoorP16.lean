/- Part of a proof (YH1 YH2 YH3 YH4 YH5 YH6); no condition. -/
import Derived.Test.YteabnpheoiakdaaGreatDoorP15
set_option linter.unusedSimpArgs false
set_option linter.unusedVariables false
set_option linter.unnecessarySimpa false
namespace Go.Proofs.Wo
open Go.Abs Go.Abs.S
def thF(o:Nat):Nat:=if o∈twoO then 2 else if o∈threeO then 3 else 0
theorem zthree_2{H:AHeap}:ACalls Tryz.prog natT 93 [.int .u8 2] H fun u H'=>u=.int .i64 2∧H=H':=by
 refine acalls_ofN rfl za93 rfl ?_
 simp only[c93,sA,sB,seval]
 exact⟨tt,tt⟩
theorem zthree_7{H:AHeap}:ACalls Tryz.prog natT 93 [.int .u8 7] H fun u H'=>u=.int .i64 2∧H=H':=by
 refine acalls_ofN rfl za93 rfl ?_
 simp only[c93,sA,sB,seval]
 exact⟨tt,tt⟩
theorem zthree_8{H:AHeap}:ACalls Tryz.prog natT 93 [.int .u8 8] H fun u H'=>u=.int .i64 2∧H=H':=by
 refine acalls_ofN rfl za93 rfl ?_
 simp only[c93,sA,sB,seval]
 exact⟨tt,tt⟩
theorem zthree_18{H:AHeap}:ACalls Tryz.prog natT 93 [.int .u8 18] H fun u H'=>u=.int .i64 2∧H=H':=by
 refine acalls_ofN rfl za93 rfl ?_
 simp only[c93,sA,sB,seval]
 exact⟨tt,tt⟩
theorem zthree_19{H:AHeap}:ACalls Tryz.prog natT 93 [.int .u8 19] H fun u H'=>u=.int .i64 2∧H=H':=by
 refine acalls_ofN rfl za93 rfl ?_
 simp only[c93,sA,sB,seval]
 exact⟨tt,tt⟩
theorem zthree_20{H:AHeap}:ACalls Tryz.prog natT 93 [.int .u8 20] H fun u H'=>u=.int .i64 2∧H=H':=by
 refine acalls_ofN rfl za93 rfl ?_
 simp only[c93,sA,sB,seval]
 exact⟨tt,tt⟩
theorem zthree_23{H:AHeap}:ACalls Tryz.prog natT 93 [.int .u8 23] H fun u H'=>u=.int .i64 2∧H=H':=by
 refine acalls_ofN rfl za93 rfl ?_
 simp only[c93,sA,sB,seval]
 exact⟨tt,tt⟩
theorem zthree_24{H:AHeap}:ACalls Tryz.prog natT 93 [.int .u8 24] H fun u H'=>u=.int .i64 2∧H=H':=by
 refine acalls_ofN rfl za93 rfl ?_
 simp only[c93,sA,sB,seval]
 exact⟨tt,tt⟩
theorem zthree_25{H:AHeap}:ACalls Tryz.prog natT 93 [.int .u8 25] H fun u H'=>u=.int .i64 2∧H=H':=by
 refine acalls_ofN rfl za93 rfl ?_
 simp only[c93,sA,sB,seval]
 exact⟨tt,tt⟩
theorem zthree_26{H:AHeap}:ACalls Tryz.prog natT 93 [.int .u8 26] H fun u H'=>u=.int .i64 2∧H=H':=by
 refine acalls_ofN rfl za93 rfl ?_
 simp only[c93,sA,sB,seval]
 exact⟨tt,tt⟩
theorem zthree_27{H:AHeap}:ACalls Tryz.prog natT 93 [.int .u8 27] H fun u H'=>u=.int .i64 2∧H=H':=by
 refine acalls_ofN rfl za93 rfl ?_
 simp only[c93,sA,sB,seval]
 exact⟨tt,tt⟩
theorem zthree_28{H:AHeap}:ACalls Tryz.prog natT 93 [.int .u8 28] H fun u H'=>u=.int .i64 2∧H=H':=by
 refine acalls_ofN rfl za93 rfl ?_
 simp only[c93,sA,sB,seval]
 exact⟨tt,tt⟩
theorem zthree_3{H:AHeap}:ACalls Tryz.prog natT 93 [.int .u8 3] H fun u H'=>u=.int .i64 3∧H=H':=by
 refine acalls_ofN rfl za93 rfl ?_
 simp only[c93,sA,sB,seval]
 exact⟨tt,tt⟩
theorem zthree_4{H:AHeap}:ACalls Tryz.prog natT 93 [.int .u8 4] H fun u H'=>u=.int .i64 3∧H=H':=by
 refine acalls_ofN rfl za93 rfl ?_
 simp only[c93,sA,sB,seval]
 exact⟨tt,tt⟩
theorem zthree_5{H:AHeap}:ACalls Tryz.prog natT 93 [.int .u8 5] H fun u H'=>u=.int .i64 3∧H=H':=by
 refine acalls_ofN rfl za93 rfl ?_
 simp only[c93,sA,sB,seval]
 exact⟨tt,tt⟩
theorem zthree_6{H:AHeap}:ACalls Tryz.prog natT 93 [.int .u8 6] H fun u H'=>u=.int .i64 3∧H=H':=by
 refine acalls_ofN rfl za93 rfl ?_
 simp only[c93,sA,sB,seval]
 exact⟨tt,tt⟩
theorem zthree_9{H:AHeap}:ACalls Tryz.prog natT 93 [.int .u8 9] H fun u H'=>u=.int .i64 3∧H=H':=by
 refine acalls_ofN rfl za93 rfl ?_
 simp only[c93,sA,sB,seval]
 exact⟨tt,tt⟩
theorem zthree_10{H:AHeap}:ACalls Tryz.prog natT 93 [.int .u8 10] H fun u H'=>u=.int .i64 3∧H=H':=by
 refine acalls_ofN rfl za93 rfl ?_
 simp only[c93,sA,sB,seval]
 exact⟨tt,tt⟩
theorem zthree_11{H:AHeap}:ACalls Tryz.prog natT 93 [.int .u8 11] H fun u H'=>u=.int .i64 3∧H=H':=by
 refine acalls_ofN rfl za93 rfl ?_
 simp only[c93,sA,sB,seval]
 exact⟨tt,tt⟩
theorem zthree_12{H:AHeap}:ACalls Tryz.prog natT 93 [.int .u8 12] H fun u H'=>u=.int .i64 3∧H=H':=by
 refine acalls_ofN rfl za93 rfl ?_
 simp only[c93,sA,sB,seval]
 exact⟨tt,tt⟩
theorem zthree_13{H:AHeap}:ACalls Tryz.prog natT 93 [.int .u8 13] H fun u H'=>u=.int .i64 3∧H=H':=by
 refine acalls_ofN rfl za93 rfl ?_
 simp only[c93,sA,sB,seval]
 exact⟨tt,tt⟩
theorem zthree_14{H:AHeap}:ACalls Tryz.prog natT 93 [.int .u8 14] H fun u H'=>u=.int .i64 3∧H=H':=by
 refine acalls_ofN rfl za93 rfl ?_
 simp only[c93,sA,sB,seval]
 exact⟨tt,tt⟩
theorem zthree_15{H:AHeap}:ACalls Tryz.prog natT 93 [.int .u8 15] H fun u H'=>u=.int .i64 3∧H=H':=by
 refine acalls_ofN rfl za93 rfl ?_
 simp only[c93,sA,sB,seval]
 exact⟨tt,tt⟩
theorem zthree_16{H:AHeap}:ACalls Tryz.prog natT 93 [.int .u8 16] H fun u H'=>u=.int .i64 3∧H=H':=by
 refine acalls_ofN rfl za93 rfl ?_
 simp only[c93,sA,sB,seval]
 exact⟨tt,tt⟩
theorem zthree_21{H:AHeap}:ACalls Tryz.prog natT 93 [.int .u8 21] H fun u H'=>u=.int .i64 3∧H=H':=by
 refine acalls_ofN rfl za93 rfl ?_
 simp only[c93,sA,sB,seval]
 exact⟨tt,tt⟩
theorem zthree_22{H:AHeap}:ACalls Tryz.prog natT 93 [.int .u8 22] H fun u H'=>u=.int .i64 3∧H=H':=by
 refine acalls_ofN rfl za93 rfl ?_
 simp only[c93,sA,sB,seval]
 exact⟨tt,tt⟩
theorem zthree_29{H:AHeap}:ACalls Tryz.prog natT 93 [.int .u8 29] H fun u H'=>u=.int .i64 3∧H=H':=by
 refine acalls_ofN rfl za93 rfl ?_
 simp only[c93,sA,sB,seval]
 exact⟨tt,tt⟩
theorem zthree_30{H:AHeap}:ACalls Tryz.prog natT 93 [.int .u8 30] H fun u H'=>u=.int .i64 3∧H=H':=by
 refine acalls_ofN rfl za93 rfl ?_
 simp only[c93,sA,sB,seval]
 exact⟨tt,tt⟩
theorem zthree_31{H:AHeap}:ACalls Tryz.prog natT 93 [.int .u8 31] H fun u H'=>u=.int .i64 3∧H=H':=by
 refine acalls_ofN rfl za93 rfl ?_
 simp only[c93,sA,sB,seval]
 exact⟨tt,tt⟩
theorem zthree_spec{o:Nat}{H:AHeap}:ACalls Tryz.prog natT 93 [.int .u8 (o:Int)] H fun u H'=>u=.int .i64 (thF o:Int)∧H=H':=by
 unfold thF
 by_cases h2:o∈twoO
 ·rw[if_pos h2]
  simp only[twoO,List.mem_cons,List.not_mem_nil,or_false]at h2
  rcases h2 with rfl | rfl | rfl | rfl | rfl | rfl | rfl | rfl | rfl | rfl | rfl | rfl
  ·exact zthree_2
  ·exact zthree_7
  ·exact zthree_8
  ·exact zthree_18
  ·exact zthree_19
  ·exact zthree_20
  ·exact zthree_23
  ·exact zthree_24
  ·exact zthree_25
  ·exact zthree_26
  ·exact zthree_27
  ·exact zthree_28
 rw[if_neg h2]
 by_cases h3:o∈threeO
 ·rw[if_pos h3]
  simp only[threeO,List.mem_cons,List.not_mem_nil,or_false]at h3
  rcases h3 with rfl | rfl | rfl | rfl | rfl | rfl | rfl | rfl | rfl | rfl | rfl | rfl | rfl | rfl | rfl | rfl | rfl
  ·exact zthree_3
  ·exact zthree_4
  ·exact zthree_5
  ·exact zthree_6
  ·exact zthree_9
  ·exact zthree_10
  ·exact zthree_11
  ·exact zthree_12
  ·exact zthree_13
  ·exact zthree_14
  ·exact zthree_15
  ·exact zthree_16
  ·exact zthree_21
  ·exact zthree_22
  ·exact zthree_29
  ·exact zthree_30
  ·exact zthree_31
 rw[if_neg h3]
 simp only[twoO,threeO,List.mem_cons,List.not_mem_nil,or_false]at h2 h3
 have z2:¬(o:Int)=2:=om
 have z7:¬(o:Int)=7:=om
 have z8:¬(o:Int)=8:=om
 have z18:¬(o:Int)=18:=om
 have z19:¬(o:Int)=19:=om
 have z20:¬(o:Int)=20:=om
 have z23:¬(o:Int)=23:=om
 have z24:¬(o:Int)=24:=om
 have z25:¬(o:Int)=25:=om
 have z26:¬(o:Int)=26:=om
 have z27:¬(o:Int)=27:=om
 have z28:¬(o:Int)=28:=om
 have z3:¬(o:Int)=3:=om
 have z4:¬(o:Int)=4:=om
 have z5:¬(o:Int)=5:=om
 have z6:¬(o:Int)=6:=om
 have z9:¬(o:Int)=9:=om
 have z10:¬(o:Int)=10:=om
 have z11:¬(o:Int)=11:=om
 have z12:¬(o:Int)=12:=om
 have z13:¬(o:Int)=13:=om
 have z14:¬(o:Int)=14:=om
 have z15:¬(o:Int)=15:=om
 have z16:¬(o:Int)=16:=om
 have z21:¬(o:Int)=21:=om
 have z22:¬(o:Int)=22:=om
 have z29:¬(o:Int)=29:=om
 have z30:¬(o:Int)=30:=om
 have z31:¬(o:Int)=31:=om
 refine acalls_ofN rfl za93 rfl ?_
 simp only[c93,sA,sB,seval,z2,z7,z8,z18,z19,z20,z23,z24,z25,z26,z27,z28,z3,z4,z5,z6,z9,z10,z11,z12,z13,z14,z15,z16,z21,z22,z29,z30,z31]
 exact⟨tt,tt⟩
theorem zisreg_spec{vc vd:AVal}{R x:Int}{H:AHeap}:ACalls Tryz.prog natT 94 [.agg [vc,.int .i64 R,vd],.int .i64 x] H fun u H'=>u=.bool (rgF R x)∧Ext H.next H H':=by
 obtain⟨H1,m1,r1,n1,k1⟩:=row_newL H [vc,.int .i64 R,vd] (n:=3) rfl
 have l1:oLoad false 1 H1 (cellR H.next 3 1)=some (.int .i64 R):=row_load r1 rfl rfl
 have E1:Ext H.next H H1:=⟨om,fun c hc=>k1 c om⟩
 refine acalls_ofN rfl za94 rfl ?_
 unfold rgF
 by_cases h1:0≤x
 ·simp only[c94,sA,sB,seval,cells_agg,m1,h1,fldA,l1]
  exact⟨by simp,E1⟩
 ·simp only[c94,sA,sB,seval,cells_agg,m1,h1]
  exact⟨by simp,E1⟩
structure ZLd(cb ib:Nat)(vc vd:AVal)(R:Int)(o:Nat)(a b c:Int)(K:AHeap):Prop where
 f0:oLoad false 1 K (cellR ib 4 0)=some (.int .u8 (o:Int))
 fa:oLoad false 1 K (cellR ib 4 1)=some (.int .i64 a)
 fb:oLoad false 1 K (cellR ib 4 2)=some (.int .i64 b)
 fc:oLoad false 1 K (cellR ib 4 3)=some (.int .i64 c)
 lw:oLoad true 3 K (cellR cb 3 0)=some (.agg [vc,.int .i64 R,vd])
 l0:oLoad false 1 K (cellR cb 3 0)=some vc
 l1:oLoad false 1 K (cellR cb 3 1)=some (.int .i64 R)
 l2:oLoad false 1 K (cellR cb 3 2)=some vd
theorem zmay_spec{i:InZ}{vc vd:AVal}{R:Int}{nk nc:Nat}{H:AHeap}(hc:aLenK false vc=some (.int .i64 (nk:Int)))(hd:aLenK false vd=some (.int .i64 (nc:Int)))(hR:4≤R∧R≤250) :
  ACalls Tryz.prog natT 50 [.agg [vc,.int .i64 R,vd],izA i] H fun u H'=>u=.bool (okI R nk nc i)∧Ext H.next H H':=by
 obtain⟨o,a,b,c⟩:=i
 obtain⟨H1,m1,r1,n1,k1⟩:=row_newL H [vc,.int .i64 R,vd] (n:=3) rfl
 obtain⟨H2,m2,r2,n2,k2⟩:=row_newL H1 [.int .u8 (o:Int),.int .i64 a,.int .i64 b,.int .i64 c] (n:=4) rfl
 have r12:Row H2 H.next [vc,.int .i64 R,vd]:=r1.same (k2 _ om)
 have E2:Ext H.next H H2:=⟨om,fun c hc=>by rw[k2 c om,k1 c om]⟩
 have LD:∀{K:AHeap},Ext H2.next H2 K→ZLd H.next H1.next vc vd R o a b c K:=fun e=>by
  have q1:=r12.same (e.old _ om)
  have q2:=r2.same (e.old _ om)
  exact⟨row_load q2 rfl rfl,row_load q2 rfl rfl,row_load q2 rfl rfl,row_load q2 rfl rfl,row_loadN q1 rfl,row_load q1 rfl rfl,row_load q1 rfl rfl,row_load q1 rfl rfl⟩
 have to:∀{K:AHeap},Ext H2.next H2 K→Ext H.next H K:=fun e=>⟨by have:=e.next; omega,fun c hc=>by rw[e.old c om,E2.old c hc]⟩
 have tr:∀{K L:AHeap},Ext H2.next H2 K→Ext K.next K L→Ext H2.next H2 L:=fun e f=>e.trans ⟨f.next,fun c hc=>f.old c (by have:=e.next; omega)⟩
 have e2:Ext H2.next H2 H2:=⟨Nat.le_refl _,fun _ _=>rfl⟩
 obtain⟨f0,fa,fb,fc,lw,l0,l1,l2⟩:=LD e2
 refine acalls_ofN rfl za50 rfl ?_
 unfold izA
 by_cases hc0:0≤c
 case pos=>
  obtain⟨w,hw⟩:∃w,w=decide (c<(nc:Int)):=⟨_,rfl⟩
  have hj:rgF nc c=w:=by rw[hw]; simp[rgF,hc0]
  simp only[c50,sA,sB,seval,cells_agg,m1,m2,fld0,fldA,fc,hc0,l2,hd,f0,← hw]
  refine zthree_spec.mono ?_
  rintro _ _ ⟨rfl,rfl⟩
  by_cases h2:o∈twoO
  ·have hok:okI R nk nc ⟨o,a,b,c⟩=(rgF R a&&(rgF R b&&decide (c=0))):=by
    simp only[okI]
    rw[if_neg (fun h=>by rw[h]at h2; exact absurd h2 dD),if_pos h2]
   have ht:((thF o:Nat):Int)=2:=by unfold thF; rw[if_pos h2]; rfl
   rw[hok]
   simp only[sA,sB,seval,fld0,fldA,ht,lw,fa]
   refine zisreg_spec.mono ?_
   rintro _ K ⟨rfl,e⟩
   have e:=tr e2 e
   cases ha:rgF R a with
   | false=>
    simp only[sA,sB,seval]
    exact⟨by simp,to e⟩
   | true=>
    obtain⟨f0,fa,fb,fc,lw,l0,l1,l2⟩:=LD e
    simp only[sA,sB,seval,fldA,lw,fb]
    refine zisreg_spec.mono ?_
    rintro _ L ⟨rfl,g⟩
    have g:=tr e g
    cases hb:rgF R b with
    | false=>
     simp only[sA,sB,seval]
     exact⟨by simp,to g⟩
    | true=>
     obtain⟨f0,fa,fb,fc,lw,l0,l1,l2⟩:=LD g
     simp only[sA,sB,seval,fldA,fc]
     exact⟨by simp,to g⟩
  by_cases h3:o∈threeO
  ·have hok:okI R nk nc ⟨o,a,b,c⟩=(rgF R a&&(rgF R b&&rgF R c)):=by
    simp only[okI]
    rw[if_neg (fun h=>by rw[h]at h3; exact absurd h3 dD),if_neg h2,if_pos h3]
   have ht:((thF o:Nat):Int)=3:=by unfold thF; rw[if_neg h2,if_pos h3]; rfl
   rw[hok]
   simp only[sA,sB,seval,fld0,fldA,ht,lw,fa]
   refine zisreg_spec.mono ?_
   rintro _ K ⟨rfl,e⟩
   have e:=tr e2 e
   cases ha:rgF R a with
   | false=>
    simp only[sA,sB,seval]
    exact⟨by simp,to e⟩
   | true=>
    obtain⟨f0,fa,fb,fc,lw,l0,l1,l2⟩:=LD e
    simp only[sA,sB,seval,fldA,lw,fb]
    refine zisreg_spec.mono ?_
    rintro _ L ⟨rfl,g⟩
    have g:=tr e g
    cases hb:rgF R b with
    | false=>
     simp only[sA,sB,seval]
     exact⟨by simp,to g⟩
    | true=>
     obtain⟨f0,fa,fb,fc,lw,l0,l1,l2⟩:=LD g
     simp only[sA,sB,seval,fldA,lw,fc]
     refine zisreg_spec.mono ?_
     rintro _ M ⟨rfl,k⟩
     simp only[sA,sB,seval]
     exact⟨by simp,to (tr g k)⟩
  have ht:((thF o:Nat):Int)=0:=by unfold thF; rw[if_neg h2,if_neg h3]; rfl
  by_cases h1:o=1
  ·have hok:okI R nk nc ⟨o,a,b,c⟩=(rgF R a&&(rgF nk b&&decide (c=0))):=by simp only[okI]; rw[if_pos h1]
   have h1':(o:Int)=1:=om
   rw[hok]
   simp only[sA,sB,seval,fld0,fldA,ht,f0,h1',lw,fa]
   refine zisreg_spec.mono ?_
   rintro _ K ⟨rfl,e⟩
   have e:=tr e2 e
   cases ha:rgF R a with
   | false=>
    simp only[sA,sB,seval]
    exact⟨by simp,to e⟩
   | true=>
    obtain⟨f0,fa,fb,fc,lw,l0,l1,l2⟩:=LD e
    by_cases hb0:0≤b
    ·by_cases hb1:b<(nk:Int)
     ·simp only[sA,sB,seval,fld0,fldA,fb,hb0,l0,hc,hb1,fc]
      exact⟨by simp[rgF,hb0,hb1],to e⟩
     ·simp only[sA,sB,seval,fld0,fldA,fb,hb0,l0,hc,hb1]
      exact⟨by simp[rgF,hb0,hb1],to e⟩
    ·simp only[sA,sB,seval,fldA,fb,hb0]
     exact⟨by simp[rgF,hb0],to e⟩
  have h1':¬(o:Int)=1:=om
  by_cases h17:o=17
  ·have hok:okI R nk nc ⟨o,a,b,c⟩=(rgF R a&&(rgF R b&&(decide (b+2<R)&&decide (c=0)))):=by simp only[okI]; rw[if_neg h1,if_neg h2,if_neg h3,if_pos h17]
   have h17':(o:Int)=17:=om
   have wR:IntKind.i64.wrap (R-2)=R-2:=w64
   rw[hok]
   simp only[sA,sB,seval,fld0,fldA,ht,f0,h17',lw,fa]
   refine zisreg_spec.mono ?_
   rintro _ K ⟨rfl,e⟩
   have e:=tr e2 e
   cases ha:rgF R a with
   | false=>
    simp only[sA,sB,seval]
    exact⟨by simp,to e⟩
   | true=>
    obtain⟨f0,fa,fb,fc,lw,l0,l1,l2⟩:=LD e
    simp only[sA,sB,seval,fldA,lw,fb]
    refine zisreg_spec.mono ?_
    rintro _ L ⟨rfl,g⟩
    have g:=tr e g
    cases hb:rgF R b with
    | false=>
     simp only[sA,sB,seval]
     exact⟨by simp,to g⟩
    | true=>
     obtain⟨f0,fa,fb,fc,lw,l0,l1,l2⟩:=LD g
     by_cases hb2:b<R-2
     ·have hb3:b+2<R:=om
      simp only[sA,sB,seval,fldA,fb,l1,wR,hb2,fc]
      exact⟨by simp[hb3],to g⟩
     ·have hb3:¬b+2<R:=om
      simp only[sA,sB,seval,fldA,fb,l1,wR,hb2]
      exact⟨by simp[hb3],to g⟩
  have h17':¬(o:Int)=17:=om
  by_cases h32:o=32
  ·have hok:okI R nk nc ⟨o,a,b,c⟩=(decide (a=0)&&(decide (b=0)&&rgF nc c)):=by simp only[okI]; rw[if_neg h1,if_neg h2,if_neg h3,if_neg h17,if_pos h32]
   have h32':(o:Int)=32:=om
   rw[hok,hj]
   by_cases ha:a=0
   ·by_cases hb:b=0
    ·simp only[sA,sB,seval,fld0,fldA,ht,f0,h32',fa,ha,fb,hb]
     exact⟨by simp[ha,hb],to e2⟩
    ·simp only[sA,sB,seval,fld0,fldA,ht,f0,h32',fa,ha,fb,hb]
     exact⟨by simp[ha,hb],to e2⟩
   ·simp only[sA,sB,seval,fld0,fldA,ht,f0,h32',fa,ha]
    exact⟨by simp[ha],to e2⟩
  have h32':¬(o:Int)=32:=om
  by_cases h33:o=33
  ·have hok:okI R nk nc ⟨o,a,b,c⟩=(rgF R a&&(decide (b=0)&&rgF nc c)):=by simp only[okI]; rw[if_neg h1,if_neg h2,if_neg h3,if_neg h17,if_neg h32,if_pos h33]
   have h33':(o:Int)=33:=om
   rw[hok,hj]
   simp only[sA,sB,seval,fld0,fldA,ht,f0,h33',lw,fa]
   refine zisreg_spec.mono ?_
   rintro _ K ⟨rfl,e⟩
   have e:=tr e2 e
   cases ha:rgF R a with
   | false=>
    simp only[sA,sB,seval]
    exact⟨by simp,to e⟩
   | true=>
    obtain⟨f0,fa,fb,fc,lw,l0,l1,l2⟩:=LD e
    by_cases hb:b=0
    ·simp only[sA,sB,seval,fldA,fb,hb]
     exact⟨by simp[hb],to e⟩
    ·simp only[sA,sB,seval,fldA,fb,hb]
     exact⟨by simp[hb],to e⟩
  have h33':¬(o:Int)=33:=om
  by_cases h34:o=34
  ·have hok:okI R nk nc ⟨o,a,b,c⟩=(rgF R a&&(decide (b=0)&&decide (c=0))):=by simp only[okI]; rw[if_neg h1,if_neg h2,if_neg h3,if_neg h17,if_neg h32,if_neg h33,if_pos h34]
   have h34':(o:Int)=34:=om
   rw[hok]
   simp only[sA,sB,seval,fld0,fldA,ht,f0,h34',lw,fa]
   refine zisreg_spec.mono ?_
   rintro _ K ⟨rfl,e⟩
   have e:=tr e2 e
   cases ha:rgF R a with
   | false=>
    simp only[sA,sB,seval]
    exact⟨by simp,to e⟩
   | true=>
    obtain⟨f0,fa,fb,fc,lw,l0,l1,l2⟩:=LD e
    by_cases hb:b=0
    ·simp only[sA,sB,seval,fldA,fb,hb,fc]
     exact⟨by simp[hb],to e⟩
    ·simp only[sA,sB,seval,fldA,fb,hb]
     exact⟨by simp[hb],to e⟩
  have h34':¬(o:Int)=34:=om
  have hok:okI R nk nc ⟨o,a,b,c⟩=false:=by simp only[okI]; rw[if_neg h1,if_neg h2,if_neg h3,if_neg h17,if_neg h32,if_neg h33,if_neg h34]
  rw[hok]
  simp only[sA,sB,seval,fld0,fldA,ht,f0,h1',h17',h32',h33',h34']
  exact⟨tt,to e2⟩
 case neg=>
  have hj:rgF nc c=false:=by simp[rgF,hc0]
  simp only[c50,sA,sB,seval,cells_agg,m1,m2,fld0,fldA,fc,hc0,f0]
  refine zthree_spec.mono ?_
  rintro _ _ ⟨rfl,rfl⟩
  by_cases h2:o∈twoO
  ·have hok:okI R nk nc ⟨o,a,b,c⟩=(rgF R a&&(rgF R b&&decide (c=0))):=by
    simp only[okI]
    rw[if_neg (fun h=>by rw[h]at h2; exact absurd h2 dD),if_pos h2]
   have ht:((thF o:Nat):Int)=2:=by unfold thF; rw[if_pos h2]; rfl
   rw[hok]
   simp only[sA,sB,seval,fld0,fldA,ht,lw,fa]
   refine zisreg_spec.mono ?_
   rintro _ K ⟨rfl,e⟩
   have e:=tr e2 e
   cases ha:rgF R a with
   | false=>
    simp only[sA,sB,seval]
    exact⟨by simp,to e⟩
   | true=>
    obtain⟨f0,fa,fb,fc,lw,l0,l1,l2⟩:=LD e
    simp only[sA,sB,seval,fldA,lw,fb]
    refine zisreg_spec.mono ?_
    rintro _ L ⟨rfl,g⟩
    have g:=tr e g
    cases hb:rgF R b with
    | false=>
     simp only[sA,sB,seval]
     exact⟨by simp,to g⟩
    | true=>
     obtain⟨f0,fa,fb,fc,lw,l0,l1,l2⟩:=LD g
     simp only[sA,sB,seval,fldA,fc]
     exact⟨by simp,to g⟩
  by_cases h3:o∈threeO
  ·have hok:okI R nk nc ⟨o,a,b,c⟩=(rgF R a&&(rgF R b&&rgF R c)):=by
    simp only[okI]
    rw[if_neg (fun h=>by rw[h]at h3; exact absurd h3 dD),if_neg h2,if_pos h3]
   have ht:((thF o:Nat):Int)=3:=by unfold thF; rw[if_neg h2,if_pos h3]; rfl
   rw[hok]
   simp only[sA,sB,seval,fld0,fldA,ht,lw,fa]
   refine zisreg_spec.mono ?_
   rintro _ K ⟨rfl,e⟩
   have e:=tr e2 e
   cases ha:rgF R a with
   | false=>
    simp only[sA,sB,seval]
    exact⟨by simp,to e⟩
   | true=>
    obtain⟨f0,fa,fb,fc,lw,l0,l1,l2⟩:=LD e
    simp only[sA,sB,seval,fldA,lw,fb]
    refine zisreg_spec.mono ?_
    rintro _ L ⟨rfl,g⟩
    have g:=tr e g
    cases hb:rgF R b with
    | false=>
     simp only[sA,sB,seval]
     exact⟨by simp,to g⟩
    | true=>
     obtain⟨f0,fa,fb,fc,lw,l0,l1,l2⟩:=LD g
     simp only[sA,sB,seval,fldA,lw,fc]
     refine zisreg_spec.mono ?_
     rintro _ M ⟨rfl,k⟩
     simp only[sA,sB,seval]
     exact⟨by simp,to (tr g k)⟩
  have ht:((thF o:Nat):Int)=0:=by unfold thF; rw[if_neg h2,if_neg h3]; rfl
  by_cases h1:o=1
  ·have hok:okI R nk nc ⟨o,a,b,c⟩=(rgF R a&&(rgF nk b&&decide (c=0))):=by simp only[okI]; rw[if_pos h1]
   have h1':(o:Int)=1:=om
   rw[hok]
   simp only[sA,sB,seval,fld0,fldA,ht,f0,h1',lw,fa]
   refine zisreg_spec.mono ?_
   rintro _ K ⟨rfl,e⟩
   have e:=tr e2 e
   cases ha:rgF R a with
   | false=>
    simp only[sA,sB,seval]
    exact⟨by simp,to e⟩
   | true=>
    obtain⟨f0,fa,fb,fc,lw,l0,l1,l2⟩:=LD e
    by_cases hb0:0≤b
    ·by_cases hb1:b<(nk:Int)
     ·simp only[sA,sB,seval,fld0,fldA,fb,hb0,l0,hc,hb1,fc]
      exact⟨by simp[rgF,hb0,hb1],to e⟩
     ·simp only[sA,sB,seval,fld0,fldA,fb,hb0,l0,hc,hb1]
      exact⟨by simp[rgF,hb0,hb1],to e⟩
    ·simp only[sA,sB,seval,fldA,fb,hb0]
     exact⟨by simp[rgF,hb0],to e⟩
  have h1':¬(o:Int)=1:=om
  by_cases h17:o=17
  ·have hok:okI R nk nc ⟨o,a,b,c⟩=(rgF R a&&(rgF R b&&(decide (b+2<R)&&decide (c=0)))):=by simp only[okI]; rw[if_neg h1,if_neg h2,if_neg h3,if_pos h17]
   have h17':(o:Int)=17:=om
   have wR:IntKind.i64.wrap (R-2)=R-2:=w64
   rw[hok]
   simp only[sA,sB,seval,fld0,fldA,ht,f0,h17',lw,fa]
   refine zisreg_spec.mono ?_
   rintro _ K ⟨rfl,e⟩
   have e:=tr e2 e
   cases ha:rgF R a with
   | false=>
    simp only[sA,sB,seval]
    exact⟨by simp,to e⟩
   | true=>
    obtain⟨f0,fa,fb,fc,lw,l0,l1,l2⟩:=LD e
    simp only[sA,sB,seval,fldA,lw,fb]
    refine zisreg_spec.mono ?_
    rintro _ L ⟨rfl,g⟩
    have g:=tr e g
    cases hb:rgF R b with
    | false=>
     simp only[sA,sB,seval]
     exact⟨by simp,to g⟩
    | true=>
     obtain⟨f0,fa,fb,fc,lw,l0,l1,l2⟩:=LD g
     by_cases hb2:b<R-2
     ·have hb3:b+2<R:=om
      simp only[sA,sB,seval,fldA,fb,l1,wR,hb2,fc]
      exact⟨by simp[hb3],to g⟩
     ·have hb3:¬b+2<R:=om
      simp only[sA,sB,seval,fldA,fb,l1,wR,hb2]
      exact⟨by simp[hb3],to g⟩
  have h17':¬(o:Int)=17:=om
  by_cases h32:o=32
  ·have hok:okI R nk nc ⟨o,a,b,c⟩=(decide (a=0)&&(decide (b=0)&&rgF nc c)):=by simp only[okI]; rw[if_neg h1,if_neg h2,if_neg h3,if_neg h17,if_pos h32]
   have h32':(o:Int)=32:=om
   rw[hok,hj]
   by_cases ha:a=0
   ·by_cases hb:b=0
    ·simp only[sA,sB,seval,fld0,fldA,ht,f0,h32',fa,ha,fb,hb]
     exact⟨by simp[ha,hb],to e2⟩
    ·simp only[sA,sB,seval,fld0,fldA,ht,f0,h32',fa,ha,fb,hb]
     exact⟨by simp[ha,hb],to e2⟩
   ·simp only[sA,sB,seval,fld0,fldA,ht,f0,h32',fa,ha]
    exact⟨by simp[ha],to e2⟩
  have h32':¬(o:Int)=32:=om
  by_cases h33:o=33
  ·have hok:okI R nk nc ⟨o,a,b,c⟩=(rgF R a&&(decide (b=0)&&rgF nc c)):=by simp only[okI]; rw[if_neg h1,if_neg h2,if_neg h3,if_neg h17,if_neg h32,if_pos h33]
   have h33':(o:Int)=33:=om
   rw[hok,hj]
   simp only[sA,sB,seval,fld0,fldA,ht,f0,h33',lw,fa]
   refine zisreg_spec.mono ?_
   rintro _ K ⟨rfl,e⟩
   have e:=tr e2 e
   cases ha:rgF R a with
   | false=>
    simp only[sA,sB,seval]
    exact⟨by simp,to e⟩
   | true=>
    obtain⟨f0,fa,fb,fc,lw,l0,l1,l2⟩:=LD e
    by_cases hb:b=0
    ·simp only[sA,sB,seval,fldA,fb,hb]
     exact⟨by simp[hb],to e⟩
    ·simp only[sA,sB,seval,fldA,fb,hb]
     exact⟨by simp[hb],to e⟩
  have h33':¬(o:Int)=33:=om
  by_cases h34:o=34
  ·have hok:okI R nk nc ⟨o,a,b,c⟩=(rgF R a&&(decide (b=0)&&decide (c=0))):=by simp only[okI]; rw[if_neg h1,if_neg h2,if_neg h3,if_neg h17,if_neg h32,if_neg h33,if_pos h34]
   have h34':(o:Int)=34:=om
   rw[hok]
   simp only[sA,sB,seval,fld0,fldA,ht,f0,h34',lw,fa]
   refine zisreg_spec.mono ?_
   rintro _ K ⟨rfl,e⟩
   have e:=tr e2 e
   cases ha:rgF R a with
   | false=>
    simp only[sA,sB,seval]
    exact⟨by simp,to e⟩
   | true=>
    obtain⟨f0,fa,fb,fc,lw,l0,l1,l2⟩:=LD e
    by_cases hb:b=0
    ·simp only[sA,sB,seval,fldA,fb,hb,fc]
     exact⟨by simp[hb],to e⟩
    ·simp only[sA,sB,seval,fldA,fb,hb]
     exact⟨by simp[hb],to e⟩
  have h34':¬(o:Int)=34:=om
  have hok:okI R nk nc ⟨o,a,b,c⟩=false:=by simp only[okI]; rw[if_neg h1,if_neg h2,if_neg h3,if_neg h17,if_neg h32,if_neg h33,if_neg h34]
  rw[hok]
  simp only[sA,sB,seval,fld0,fldA,ht,f0,h1',h17',h32',h33',h34']
  exact⟨tt,to e2⟩
theorem zcheck_spec{l:List InZ}{vc vd:AVal}{R:Int}{nk n0:Nat}{H:AHeap}(hc:aLenK false vc=some (.int .i64 (nk:Int)))(z:SlK (·<n0) H 4 vd l.length (izL l))(hn:n0≤H.next)(hl:l.length≤1000000) :
  ACalls Tryz.prog natT 24 [.agg [vc,.int .i64 R,vd]] H fun u H'=>u=.int .i64 (okCode R nk l:Int)∧Ext H.next H H':=by
 have hd:=z.len
 obtain⟨H1,m1,r1,n1,k1⟩:=row_newL H [vc,.int .i64 R,vd] (n:=3) rfl
 have E1:Ext H.next H H1:=⟨om,fun c hc=>k1 c om⟩
 obtain⟨bb,hbb⟩:∃b,b=H.next:=⟨_,rfl⟩
 rw[← hbb]at m1 r1 k1
 have l0:oLoad false 1 H1 (cellR bb 3 0)=some vc:=row_load r1 rfl rfl
 have l1:oLoad false 1 H1 (cellR bb 3 1)=some (.int .i64 R):=row_load r1 rfl rfl
 have l2:oLoad false 1 H1 (cellR bb 3 2)=some vd:=row_load r1 rfl rfl
 refine acalls_ofN rfl za24 rfl ?_
 unfold okCode
 by_cases h4:R<4
 ·rw[if_pos (.inl h4)]
  simp only[c24,sA,sB,seval,cells_agg,m1,fldA,l1,l2,hd,h4]
  exact⟨tt,E1⟩
 by_cases h250:250<R
 ·rw[if_pos (.inr h250)]
  simp only[c24,sA,sB,seval,cells_agg,m1,fldA,l1,l2,hd,h4,h250]
  exact⟨tt,E1⟩
 rw[if_neg om]
 by_cases h0:l.length=0
 ·have h0':(l.length:Int)<1:=om
  rw[if_pos (.inl h0)]
  simp only[c24,sA,sB,seval,cells_agg,m1,fldA,l1,h4,h250,l2,hd,h0']
  exact⟨tt,E1⟩
 have h0':¬(l.length:Int)<1:=om
 by_cases h6:65536<l.length
 ·have h6':(65536:Int)<(l.length:Int):=om
  rw[if_pos (.inr (.inl h6))]
  simp only[c24,sA,sB,seval,cells_agg,m1,fldA,l1,h4,h250,l2,hd,h0',h6']
  exact⟨tt,E1⟩
 have h6':¬(65536:Int)<(l.length:Int):=om
 by_cases h7:65536<nk
 ·have h7':(65536:Int)<(nk:Int):=om
  rw[if_pos (.inr (.inr h7))]
  simp only[c24,sA,sB,seval,cells_agg,m1,fld0,fldA,l1,h4,h250,l2,hd,h0',h6',l0,hc,h7']
  exact⟨tt,E1⟩
 have h7':¬(65536:Int)<(nk:Int):=om
 rw[if_neg om]
 simp only[c24,sA,sB,seval,cells_agg,m1,fld0,fldA,l1,h4,h250,l2,hd,h0',h6',l0,hc,h7']
 refine aw_loop (fun m (T:Env) K=>∃i:Nat,m=l.length-i∧i≤l.length∧T 1=cellR bb 3 0∧T 3=.int .i64 (l.length:Int)∧T 4=.int .i64 (i:Int)∧Ext H1.next H1 K∧(l.take i).all (okI R nk l.length)=true) l.length
  ⟨0,rfl,Nat.zero_le _,by simp only[sA,sB,seval]; try rfl,by simp only[sA,sB,seval]; try rfl,by simp only[sA,sB,seval]; try rfl,⟨Nat.le_refl _,fun _ _=>rfl⟩,rfl⟩ ?_
 rintro m T K ⟨i,rfl,hi,t1,t3,t4,EK,hx⟩
 have eK:=EK.next
 have rK:=r1.same (EK.old bb om)
 have zK:SlK (·<n0) K 4 vd l.length (izL l):=z.mono fun c hcc=>⟨hcc,by have:c<n0:=hcc; rw[EK.old c om,E1.old c om]⟩
 have to:∀{K':AHeap},Ext K.next K K'→Ext H.next H K':=fun e=>⟨by have:=e.next; omega,fun c hcc=>by rw[e.old c om,EK.old c om,E1.old c hcc]⟩
 have lK2:oLoad false 1 K (cellR bb 3 2)=some vd:=row_load rK rfl rfl
 by_cases hlt:i<l.length
 case neg=>
  obtain rfl:i=l.length:=om
  have hlt':¬(l.length:Int)<(l.length:Int):=om
  rw[List.take_length]at hx
  rw[if_pos hx]
  obtain⟨x,hx2⟩:∃x,l[l.length-1]?=some x:=⟨_,List.getElem?_eq_getElem om⟩
  have hlo:lastO l=x.o:=by unfold lastO; rw[List.getLast?_eq_getElem?,hx2]
  have wj:IntKind.i64.wrap ((l.length:Int)-1)=((l.length-1:Nat):Int):=w64
  have ix:=zK.idx (i:=l.length-1) om
  have pt:=zK.pt (i:=l.length-1) om
  rw[izL_at hx2]at pt
  have lo:oLoad false 1 K (placeK 4 vd (l.length-1))=some (.int .u8 (x.o:Int)):=pt.load0 rfl
  have f0:=pt.fld0
  rw[hlo]
  by_cases h32:x.o=32
  ·have q:(x.o:Int)=32:=om
   rw[if_pos (.inl h32)]
   simp only[sA,sB,seval,t1,t3,t4,hlt',fldA,lK2,hd,wj,ix,f0,lo,q]
   exact⟨tt,to ⟨Nat.le_refl _,fun _ _=>rfl⟩⟩
  have q:¬(x.o:Int)=32:=om
  by_cases h34:x.o=34
  ·have q2:(x.o:Int)=34:=om
   rw[if_pos (.inr h34)]
   simp only[sA,sB,seval,t1,t3,t4,hlt',fldA,lK2,hd,wj,ix,f0,lo,q2]
   exact⟨tt,to ⟨Nat.le_refl _,fun _ _=>rfl⟩⟩
  ·have q2:¬(x.o:Int)=34:=om
   rw[if_neg om]
   simp only[sA,sB,seval,t1,t3,t4,hlt',fldA,lK2,hd,wj,ix,f0,lo,q,q2]
   exact⟨tt,to ⟨Nat.le_refl _,fun _ _=>rfl⟩⟩
 have hlt':(i:Int)<(l.length:Int):=om
 obtain⟨x,hx2⟩:∃x,l[i]?=some x:=⟨_,List.getElem?_eq_getElem hlt⟩
 have ix:=zK.idx hlt
 have ld:oLoad true 4 K (placeK 4 vd i)=some (izA x):=by
  have:=zK.load hlt
  rw[izL_at hx2]at this
  exact this
 have wk:IntKind.i64.wrap ((i:Int)+1)=((i+1:Nat):Int):=addN i 1 om
 have lb:oLoad true 3 K (cellR bb 3 0)=some (.agg [vc,.int .i64 R,vd]):=row_loadN rK rfl
 simp only[sA,sB,seval,t1,t3,t4,hlt',lb,fldA,lK2,ix,ld]
 refine (zmay_spec (nk:=nk) (nc:=l.length) hc hd ⟨om,om⟩).mono ?_
 rintro _ H4 ⟨rfl,E4⟩
 have e4:=E4.next
 cases hok:okI R nk l.length x with
 | false=>
  rw[if_neg (fun h=>by rw[List.all_eq_true]at h; rw[h x (List.mem_of_getElem? hx2)]at hok; exact absurd hok (by simp))]
  simp only[sA,sB,seval]
  exact⟨tt,to E4⟩
 | true=>
  simp only[sA,sB,seval,t1,t3,t4,wk]
  refine⟨l.length-(i+1),om,i+1,rfl,om,tt,tt,tt,⟨om,fun c hcc=>by rw[E4.old c om,EK.old c hcc]⟩,?_⟩
  rw[List.take_add_one,hx2,List.all_append,hx]
  simp[hok]
open Go.Abs Go.Abs.S
theorem dhas_spec{L:List Bs}{s:Bs}{v:AVal}{n:Nat}{H:AHeap}(c:Cel n H v (L.map .str))(hl:L.length≤1000000):ACalls Tryz.prog natT 137 [.str s,v] H fun u H'=>u=.bool (decide (s∈L))∧H=H':=by
 have ln:=c.len
 rw[List.length_map]at ln
 refine acalls_ofN rfl za137 rfl ?_
 simp only[c137,sA,sB,seval]
 refine aw_loop (fun m (T:Env) H'=>H=H'∧∃i:Nat,m=L.length-i∧i≤L.length∧T 0=.str s∧T 1=v∧T 5=.int .i64 (i:Int)∧s∉L.take i) L.length
  ⟨rfl,0,rfl,Nat.zero_le _,by simp only[sA,sB,seval]; try rfl,by simp only[sA,sB,seval]; try rfl,by simp only[sA,sB,seval]; try rfl,by simp⟩ ?_
 rintro m T _ ⟨rfl,i,rfl,hi,t0,t1,t5,hx⟩
 by_cases hlt:i<L.length
 case neg=>
  obtain rfl:i=L.length:=om
  have hlt':¬(L.length:Int)<(L.length:Int):=om
  rw[List.take_length]at hx
  have hd:decide (s∈L)=false:=decide_eq_false hx
  simp only[sA,sB,seval,t0,t1,t5,ln,hlt',hd]
  exact⟨tt,tt⟩
 have hlt':(i:Int)<(L.length:Int):=om
 obtain⟨y,hy⟩:∃y,L[i]?=some y:=⟨_,List.getElem?_eq_getElem hlt⟩
 have io:=c.idx .i64 (i:=i) (by rw[List.length_map]; exact hlt)
 have lo:=c.load (i:=i) (x:=.str y) (by simp[hy])
 have wk:IntKind.i64.wrap ((i:Int)+1)=((i+1:Nat):Int):=w64
 by_cases he:y=s
 ·subst he
  have hd:decide (y∈L)=true:=decide_eq_true (List.mem_of_getElem? hy)
  simp only[sA,sB,seval,t0,t1,t5,ln,hlt',io,lo,hd]
  exact⟨tt,tt⟩
 ·simp only[sA,sB,seval,t0,t1,t5,ln,hlt',io,lo,he,wk]
  refine⟨L.length-(i+1),om,tt,i+1,rfl,om,tt,tt,tt,?_⟩
  rw[List.take_add_one,hy]
  simp only[Option.toList_some,List.mem_append,List.mem_singleton,not_or]
  exact⟨hx,fun e=>he e.symm⟩
def fndT(s:Bs)(E:Env'):Nat:=match firstI s E with
 | some i=>(E[i]?.map (·.2)).getD 0
 | none=>0
theorem dfind_spec{E:Env'}{s:Bs}{vn vk:AVal}{n:Nat}{H:AHeap}(cn:Cel n H vn (nmL E))(ck:Cel n H vk (kdL E))(hl:E.length≤1000000):ACalls Tryz.prog natT 136 [.str s,vn,vk] H fun u H'=>u=kdA (fndT s E)∧H=H':=by
 have ln:=cn.len
 rw[nmL_len]at ln
 refine acalls_ofN rfl za136 rfl ?_
 unfold fndT
 simp only[c136,sA,sB,seval]
 refine aw_loop (fun m (T:Env) H'=>H=H'∧∃i:Nat,m=E.length-i∧i≤E.length∧T 0=.str s∧T 1=vn∧T 2=vk∧T 7=.int .i64 (i:Int)∧firstI s (E.take i)=none) E.length
  ⟨rfl,0,rfl,Nat.zero_le _,by simp only[sA,sB,seval]; try rfl,by simp only[sA,sB,seval]; try rfl,by simp only[sA,sB,seval]; try rfl,by simp only[sA,sB,seval]; try rfl,rfl⟩ ?_
 rintro m T _ ⟨rfl,i,rfl,hi,t0,t1,t2,t7,hx⟩
 by_cases hlt:i<E.length
 case neg=>
  obtain rfl:i=E.length:=om
  have hlt':¬(E.length:Int)<(E.length:Int):=om
  rw[List.take_length]at hx
  rw[hx]
  simp only[sA,sB,seval,t0,t1,t2,t7,ln,hlt']
  exact⟨tt,tt⟩
 have hlt':(i:Int)<(E.length:Int):=om
 obtain⟨y,hy⟩:∃y,E[i]?=some y:=⟨_,List.getElem?_eq_getElem hlt⟩
 have io:=cn.idx .i64 (i:=i) (by rw[nmL_len]; exact hlt)
 have lo:=cn.load (i:=i) (x:=.str y.1) (by simp[nmL,hy])
 have io2:=ck.idx .i64 (i:=i) (by rw[kdL_len]; exact hlt)
 have lo2:=ck.load (i:=i) (x:=kdA y.2) (by simp[kdL,hy])
 have wk:IntKind.i64.wrap ((i:Int)+1)=((i+1:Nat):Int):=w64
 have hf:=firstI_take E i y hx hy
 by_cases he:y.1=s
 ·rw[if_pos he]at hf
  rw[hf]
  simp only[sA,sB,seval,t0,t1,t2,t7,ln,hlt',io,lo,he,io2,lo2,hy]
  exact⟨tt,tt⟩
 ·simp only[sA,sB,seval,t0,t1,t2,t7,ln,hlt',io,lo,he,wk]
  refine⟨E.length-(i+1),om,tt,i+1,rfl,om,tt,tt,tt,tt,?_⟩
  rw[List.take_add_one,hy]
  exact firstI_snoc he _ hx
theorem bs_celA{H:AHeap}{xs:List AVal}:Cel (H.next+1) (H.push (.cells xs 0 false)) (.slice (some ⟨H.next,xs.length,0⟩) xs.length (.known xs.length)) xs:=by
 refine .inr ⟨⟨H.next,xs.length,0⟩,.known xs.length,rfl,by show H.next<H.next+1; omega,?_⟩
 have:=rd_row (H:=H.push (.cells xs 0 false)) (b:=H.next) (l:=xs) ⟨0,by rw[AHeap.get_push,if_pos rfl],Nat.zero_le _⟩ (n:=xs.length) rfl (i:=0) (k:=xs.length) om
 rw[this,List.drop_zero,List.take_of_length_le rL]
def BtO(o:Option (List Nat×Nat))(u:AVal)(H':AHeap):Prop:=match o with
 | some (args,own)=>∃v,u=.tuple [v,kdA own]∧Cel H'.next H' v (tyL args)
 | none=>u=.tuple [nilS,kdA 0]
theorem dblt_spec{s:Bs}{H:AHeap}:ACalls Tryz.prog natT 193 [.str s] H fun u H'=>BtO (atKey argTab s) u H'∧Ext H.next H H':=by
 refine acalls_ofN rfl za193 rfl ?_
 have E1:∀xs:List AVal,Ext H.next H (H.push (.cells xs 0 false)):=fun xs=>⟨by show _≤H.next+1; omega,fun c hc=>get_push_lt hc⟩
 by_cases h0:s=[118,101,99]
 ·subst h0
  have bs:aBuildSl 3 [.int .u8 0] H [(0,1,.int .u8 1),(1,1,.int .u8 1),(2,1,.int .u8 1)]=some (.slice (some ⟨H.next,3,0⟩) 3 (.known 3),H.push (.cells (tyL [1,1,1]) 0 false)):=rfl
  simp only[c193,sA,sB,seval,bs]
  exact⟨⟨_,rfl,bs_celA (xs:=tyL [1,1,1])⟩,E1 _⟩
 by_cases h1:s=[120]
 ·subst h1
  have bs:aBuildSl 1 [.int .u8 0] H [(0,1,.int .u8 2)]=some (.slice (some ⟨H.next,1,0⟩) 1 (.known 1),H.push (.cells (tyL [2]) 0 false)):=rfl
  simp only[c193,sA,sB,seval,bs]
  exact⟨⟨_,rfl,bs_celA (xs:=tyL [2])⟩,E1 _⟩
 by_cases h2:s=[121]
 ·subst h2
  have bs:aBuildSl 1 [.int .u8 0] H [(0,1,.int .u8 2)]=some (.slice (some ⟨H.next,1,0⟩) 1 (.known 1),H.push (.cells (tyL [2]) 0 false)):=rfl
  simp only[c193,sA,sB,seval,bs]
  exact⟨⟨_,rfl,bs_celA (xs:=tyL [2])⟩,E1 _⟩
 by_cases h3:s=[122]
 ·subst h3
  have bs:aBuildSl 1 [.int .u8 0] H [(0,1,.int .u8 2)]=some (.slice (some ⟨H.next,1,0⟩) 1 (.known 1),H.push (.cells (tyL [2]) 0 false)):=rfl
  simp only[c193,sA,sB,seval,bs]
  exact⟨⟨_,rfl,bs_celA (xs:=tyL [2])⟩,E1 _⟩
 by_cases h4:s=[100,111,116]
 ·subst h4
  have bs:aBuildSl 2 [.int .u8 0] H [(0,1,.int .u8 2),(1,1,.int .u8 2)]=some (.slice (some ⟨H.next,2,0⟩) 2 (.known 2),H.push (.cells (tyL [2,2]) 0 false)):=rfl
  simp only[c193,sA,sB,seval,bs]
  exact⟨⟨_,rfl,bs_celA (xs:=tyL [2,2])⟩,E1 _⟩
 by_cases h5:s=[99,114,111,115,115]
 ·subst h5
  have bs:aBuildSl 2 [.int .u8 0] H [(0,1,.int .u8 2),(1,1,.int .u8 2)]=some (.slice (some ⟨H.next,2,0⟩) 2 (.known 2),H.push (.cells (tyL [2,2]) 0 false)):=rfl
  simp only[c193,sA,sB,seval,bs]
  exact⟨⟨_,rfl,bs_celA (xs:=tyL [2,2])⟩,E1 _⟩
 by_cases h6:s=[117,110,105,116]
 ·subst h6
  have bs:aBuildSl 1 [.int .u8 0] H [(0,1,.int .u8 2)]=some (.slice (some ⟨H.next,1,0⟩) 1 (.known 1),H.push (.cells (tyL [2]) 0 false)):=rfl
  simp only[c193,sA,sB,seval,bs]
  exact⟨⟨_,rfl,bs_celA (xs:=tyL [2])⟩,E1 _⟩
 by_cases h7:s=[115,113,114,116]
 ·subst h7
  have bs:aBuildSl 1 [.int .u8 0] H [(0,1,.int .u8 1)]=some (.slice (some ⟨H.next,1,0⟩) 1 (.known 1),H.push (.cells (tyL [1]) 0 false)):=rfl
  simp only[c193,sA,sB,seval,bs]
  exact⟨⟨_,rfl,bs_celA (xs:=tyL [1])⟩,E1 _⟩
 by_cases h8:s=[115,105,110]
 ·subst h8
  have bs:aBuildSl 1 [.int .u8 0] H [(0,1,.int .u8 1)]=some (.slice (some ⟨H.next,1,0⟩) 1 (.known 1),H.push (.cells (tyL [1]) 0 false)):=rfl
  simp only[c193,sA,sB,seval,bs]
  exact⟨⟨_,rfl,bs_celA (xs:=tyL [1])⟩,E1 _⟩
 by_cases h9:s=[99,111,115]
 ·subst h9
  have bs:aBuildSl 1 [.int .u8 0] H [(0,1,.int .u8 1)]=some (.slice (some ⟨H.next,1,0⟩) 1 (.known 1),H.push (.cells (tyL [1]) 0 false)):=rfl
  simp only[c193,sA,sB,seval,bs]
  exact⟨⟨_,rfl,bs_celA (xs:=tyL [1])⟩,E1 _⟩
 by_cases h10:s=[97,98,115]
 ·subst h10
  have bs:aBuildSl 1 [.int .u8 0] H [(0,1,.int .u8 1)]=some (.slice (some ⟨H.next,1,0⟩) 1 (.known 1),H.push (.cells (tyL [1]) 0 false)):=rfl
  simp only[c193,sA,sB,seval,bs]
  exact⟨⟨_,rfl,bs_celA (xs:=tyL [1])⟩,E1 _⟩
 by_cases h11:s=[102,108,111,111,114]
 ·subst h11
  have bs:aBuildSl 1 [.int .u8 0] H [(0,1,.int .u8 1)]=some (.slice (some ⟨H.next,1,0⟩) 1 (.known 1),H.push (.cells (tyL [1]) 0 false)):=rfl
  simp only[c193,sA,sB,seval,bs]
  exact⟨⟨_,rfl,bs_celA (xs:=tyL [1])⟩,E1 _⟩
 by_cases h12:s=[109,105,110]
 ·subst h12
  have bs:aBuildSl 2 [.int .u8 0] H [(0,1,.int .u8 1),(1,1,.int .u8 1)]=some (.slice (some ⟨H.next,2,0⟩) 2 (.known 2),H.push (.cells (tyL [1,1]) 0 false)):=rfl
  simp only[c193,sA,sB,seval,bs]
  exact⟨⟨_,rfl,bs_celA (xs:=tyL [1,1])⟩,E1 _⟩
 by_cases h13:s=[109,97,120]
 ·subst h13
  have bs:aBuildSl 2 [.int .u8 0] H [(0,1,.int .u8 1),(1,1,.int .u8 1)]=some (.slice (some ⟨H.next,2,0⟩) 2 (.known 2),H.push (.cells (tyL [1,1]) 0 false)):=rfl
  simp only[c193,sA,sB,seval,bs]
  exact⟨⟨_,rfl,bs_celA (xs:=tyL [1,1])⟩,E1 _⟩
 by_cases h14:s=[115,97,109,112,108,101]
 ·subst h14
  have bs:aBuildSl 2 [.int .u8 0] H [(0,1,.int .u8 1),(1,1,.int .u8 1)]=some (.slice (some ⟨H.next,2,0⟩) 2 (.known 2),H.push (.cells (tyL [1,1]) 0 false)):=rfl
  simp only[c193,sA,sB,seval,bs]
  exact⟨⟨_,rfl,bs_celA (xs:=tyL [1,1])⟩,E1 _⟩
 have g0:¬([118,101,99]:Bs)=s:=fun e=>h0 e.symm
 have g1:¬([120]:Bs)=s:=fun e=>h1 e.symm
 have g2:¬([121]:Bs)=s:=fun e=>h2 e.symm
 have g3:¬([122]:Bs)=s:=fun e=>h3 e.symm
 have g4:¬([100,111,116]:Bs)=s:=fun e=>h4 e.symm
 have g5:¬([99,114,111,115,115]:Bs)=s:=fun e=>h5 e.symm
 have g6:¬([117,110,105,116]:Bs)=s:=fun e=>h6 e.symm
 have g7:¬([115,113,114,116]:Bs)=s:=fun e=>h7 e.symm
 have g8:¬([115,105,110]:Bs)=s:=fun e=>h8 e.symm
 have g9:¬([99,111,115]:Bs)=s:=fun e=>h9 e.symm
 have g10:¬([97,98,115]:Bs)=s:=fun e=>h10 e.symm
 have g11:¬([102,108,111,111,114]:Bs)=s:=fun e=>h11 e.symm
 have g12:¬([109,105,110]:Bs)=s:=fun e=>h12 e.symm
 have g13:¬([109,97,120]:Bs)=s:=fun e=>h13 e.symm
 have g14:¬([115,97,109,112,108,101]:Bs)=s:=fun e=>h14 e.symm
 have hn:atKey argTab s=none:=by
  simp only[argTab,atKey,g0,g1,g2,g3,g4,g5,g6,g7,g8,g9,g10,g11,g12,g13,g14,if_false]
 rw[hn]
 simp only[c193,sA,sB,seval,h0,h1,h2,h3,h4,h5,h6,h7,h8,h9,h10,h11,h12,h13,h14]
 exact⟨tt,Ext.refl _ _⟩
theorem doper_spec{s:Bs}{ts:List Nat}{v:AVal}{n:Nat}{H:AHeap}(c:Cel n H v (tyL ts))(hn:n≤H.next)(ht:∀t∈ts,t=1∨t=2):ACalls Tryz.prog natT 194 [.str s,v] H fun u H'=>u=kdA (opT s ts)∧Ext H.next H H':=by
 have ln:=c.len
 rw[tyL_len]at ln
 refine acalls_ofN rfl za194 rfl ?_
 match ts,c,ht,ln with
 | [],c,ht,ln=>
  have l0:(([]:List Nat).length:Int)=0:=rfl
  simp only[c194,sA,sB,seval,ln,l0]
  exact⟨tt,Ext.refl _ _⟩
 | [a],c,ht,ln=>
  have i0:=c.idx .i64 (i:=0) (by simp[tyL])
  have l0:=c.load (i:=0) (x:=kdA a) rfl
  simp only[Int.cast_ofNat_Int,List.length_cons,List.length_nil,Nat.zero_add]at i0 ln
  have ha:=ht a (by simp)
  by_cases h1:s=[45]
  ·subst h1
   simp only[c194,sA,sB,seval,ln,i0,l0]
   exact⟨tt,Ext.refl _ _⟩
  by_cases h2:s=[33]
  ·subst h2
   rcases ha with rfl | rfl
   ·simp only[kdA,Int.cast_ofNat_Int]at l0
    simp only[c194,kdA,Int.cast_ofNat_Int,sA,sB,seval,ln,i0,l0]
    exact⟨by first | trivial | rfl,Ext.refl _ _⟩
   ·simp only[kdA,Int.cast_ofNat_Int]at l0
    simp only[c194,kdA,Int.cast_ofNat_Int,sA,sB,seval,ln,i0,l0]
    exact⟨by first | trivial | rfl,Ext.refl _ _⟩
  ·have ho:opT s [a]=0:=by simp only[opT]; rw[if_neg (by rintro (h | h); exact h1 h; exact h2 h.1)]
   rw[ho]
   simp only[c194,sA,sB,seval,ln,h1,h2]
   exact⟨tt,Ext.refl _ _⟩
 | [a,b],c,ht,ln=>
  have i0:=c.idx .i64 (i:=0) (by simp[tyL])
  have l0:=c.load (i:=0) (x:=kdA a) rfl
  have i1:=c.idx .i64 (i:=1) (by simp[tyL])
  have l1:=c.load (i:=1) (x:=kdA b) rfl
  simp only[Int.cast_ofNat_Int,List.length_cons,List.length_nil,Nat.zero_add,Nat.reduceAdd]at i0 i1 ln
  have ha:=ht a (by simp)
  have hb:=ht b (by simp)
  obtain⟨H1,hH1⟩:∃J,J=H.push (.cells (cmpS.map .str) 0 false):=⟨_,rfl⟩
  have E1:Ext H.next H H1:=by rw[hH1]; exact⟨by show _≤H.next+1; omega,fun c hc=>get_push_lt hc⟩
  have bs:aBuildSl 8 [.str []] H [(0,1,.str [124,124]),(1,1,.str [38,38]),(2,1,.str [61,61]),(3,1,.str [33,61]),(4,1,.str [60,61]),(5,1,.str [62,61]),(6,1,.str [60]),(7,1,.str [62])]=some (.slice (some ⟨H.next,8,0⟩) 8 (.known 8),H1):=by rw[hH1]; rfl
  have c8:Cel (H.next+1) H1 (.slice (some ⟨H.next,8,0⟩) 8 (.known 8)) (cmpS.map .str):=by rw[hH1]; exact bs_celA (xs:=cmpS.map .str)
  have ho:opT s [a,b]=pairT s a b:=rfl
  rw[ho]
  simp only[c194,sA,sB,seval,ln,i0,l0,i1,l1,bs]
  refine (dhas_spec c8 dD).mono ?_
  rintro _ _ ⟨rfl,rfl⟩
  unfold pairT
  by_cases hc:s∈cmpS
  ·have hd:decide (s∈cmpS)=true:=decide_eq_true hc
   rw[if_pos hc]
   rcases ha with rfl | rfl <;> rcases hb with rfl | rfl <;> (simp only[kdA,Int.cast_ofNat_Int,sA,sB,seval,hd]; exact⟨by first | trivial | rfl,E1⟩)
  have hd:decide (s∈cmpS)=false:=decide_eq_false hc
  rw[if_neg hc]
  by_cases h1:s=[43]
  ·rw[if_pos (.inl h1)]
   rcases ha with rfl | rfl <;> rcases hb with rfl | rfl <;> (simp only[kdA,Int.cast_ofNat_Int,sA,sB,seval,hd,h1]; exact⟨by first | trivial | rfl,E1⟩)
  by_cases h2:s=[45]
  ·rw[if_pos (.inr h2)]
   rcases ha with rfl | rfl <;> rcases hb with rfl | rfl <;> (simp only[kdA,Int.cast_ofNat_Int,sA,sB,seval,hd,h1,h2]; exact⟨by first | trivial | rfl,E1⟩)
  rw[if_neg (by rintro (h | h); exact h1 h; exact h2 h)]
  by_cases h3:s=[42]
  ·rw[if_pos h3]
   rcases ha with rfl | rfl <;> rcases hb with rfl | rfl <;> (simp only[kdA,Int.cast_ofNat_Int,sA,sB,seval,hd,h1,h2,h3]; exact⟨by first | trivial | rfl,E1⟩)
  rw[if_neg h3]
  by_cases h4:s=[47]
  ·rw[if_pos h4]
   rcases ha with rfl | rfl <;> rcases hb with rfl | rfl <;> (simp only[kdA,Int.cast_ofNat_Int,sA,sB,seval,hd,h1,h2,h3,h4]; exact⟨by first | trivial | rfl,E1⟩)
  rw[if_neg h4]
  simp only[sA,sB,seval,hd,h1,h2,h3,h4]
  exact⟨tt,E1⟩
 | a::b::d::l,c,ht,ln=>
  have q1:¬((a::b::d::l).length:Int)=1:=by simp only[List.length_cons]; omega
  have q2:¬((a::b::d::l).length:Int)=2:=by simp only[List.length_cons]; omega
  simp only[c194,sA,sB,seval,ln,q1,q2]
  exact⟨tt,Ext.refl _ _⟩
theorem ddeep_spec:∀(N:Nat) {e:Ex} {c:List AVal} {H:AHeap} {n:Nat},e.size≤N→XE (·<H.next) H e c→n≤1000→e.size≤1000000→ACalls Tryz.prog natT 171 [.agg c,.int .i64 (n:Int)] H fun u H'=>u=.bool (decide (n<e.deep))∧Ext H.next H H'
 | 0,e,_,_,_,h,_,_,_=>absurd (sizeE_pos e) om
 | N+1,.mk k s z kids,c,H,n,h,hx,hl,hs=>by
  obtain⟨v,C,rfl,z1,z2⟩:=hx
  have hsz:(Ex.mk k s z kids).size=sizesE kids+1:=rfl
  have hdp:(Ex.mk k s z kids).deep=deepsE kids+1:=rfl
  refine acalls_ofN rfl za171 rfl ?_
  obtain⟨H1,m1,r1,n1,k1⟩:=row_newL H [.int .u8 (k:Int),.str s,.int .i64 z,v] (n:=4) rfl
  have E1:Ext H.next H H1:=⟨om,fun c hc=>k1 c om⟩
  by_cases hl0:n=0
  ·subst hl0
   have hl':((0:Nat):Int)<1:=om
   have hd:decide (0<(Ex.mk k s z kids).deep)=true:=decide_eq_true om
   simp only[c171,sA,sB,seval,cells_agg,m1,hl',hd]
   exact⟨tt,E1⟩
  have hl':¬(n:Int)<1:=om
  have hlw:IntKind.i64.wrap ((n:Int)-1)=((n-1:Nat):Int):=w64
  have l3:∀{K:AHeap},Ext H1.next H1 K→oLoad false 1 K (cellR H.next 4 3)=some v:=fun q=>row_load (r1.same (q.old _ om)) rfl rfl
  have ln:=z1.len
  simp only[c171,sA,sB,seval,cells_agg,m1,hl']
  refine aw_loop (fun m (T:Env) K=>∃i:Nat,m=kids.length-i∧i≤kids.length∧T 1=.int .i64 (n:Int)∧T 2=cellR H.next 4 0∧T 5=.int .i64 (i:Int)∧Ext H1.next H1 K∧deepsE (kids.take i)<n) kids.length
   ⟨0,rfl,Nat.zero_le _,by simp only[sA,sB,seval]; try rfl,by simp only[sA,sB,seval],by simp only[sA,sB,seval]; try rfl,Ext.refl _ _,by simp only[List.take_zero,deepsE]; omega⟩ ?_
  rintro m T K ⟨i,rfl,hi,t1,t2,t5,EK,hd⟩
  have eK:=EK.next
  have l3K:=l3 EK
  by_cases hlt:i<kids.length
  case neg=>
   obtain rfl:i=kids.length:=om
   have hlt':¬(kids.length:Int)<(kids.length:Int):=om
   rw[List.take_length]at hd
   have hd2:decide (n<(Ex.mk k s z kids).deep)=false:=decide_eq_false om
   simp only[sA,sB,seval,t1,t2,t5,fldA,l3K,ln,hlt',hd2]
   exact⟨tt,om,fun c hc=>by rw[EK.old c om,E1.old c hc]⟩
  have hlt':(i:Int)<(kids.length:Int):=om
  obtain⟨e,he⟩:∃e,kids[i]?=some e:=⟨_,List.getElem?_eq_getElem hlt⟩
  have hts:kids.take (i+1)=kids.take i++[e]:=by rw[List.take_add_one,he]; rfl
  have km:∀b,b<H.next→b<K.next∧K.get b=H.get b:=fun b hb=>⟨om,by rw[EK.old b om,E1.old b hb]⟩
  have z13:=z1.mono km
  have z23:=z2.mono km
  have ix:=z13.idx hlt
  have ld:=z13.load hlt
  have he3:=z23.at he
  have hsm:=size_mem (List.mem_of_getElem? he)
  have hdm:=deepsE_memT (List.mem_of_getElem? he)
  have hlen:=len_sizesE kids
  have wi:IntKind.i64.wrap ((i:Int)+1)=((i+1:Nat):Int):=addN i 1 om
  simp only[sA,sB,seval,t1,t2,t5,fldA,l3K,ln,hlt',ix,ld,hlw]
  refine (ddeep_spec N om he3 om om).mono ?_
  rintro _ K2 ⟨rfl,E2⟩
  have e2:=E2.next
  by_cases hde:n-1<e.deep
  ·have hd1:decide (n-1<e.deep)=true:=decide_eq_true hde
   have hd2:decide (n<(Ex.mk k s z kids).deep)=true:=decide_eq_true om
   simp only[sA,sB,seval,hd1,hd2]
   exact⟨tt,om,fun c hc=>by rw[E2.old c om,EK.old c om,E1.old c hc]⟩
  ·have hd1:decide (n-1<e.deep)=false:=decide_eq_false hde
   simp only[sA,sB,seval,hd1,t1,t2,t5,wi]
   refine⟨kids.length-(i+1),om,i+1,rfl,om,tt,tt,tt,EK.trans (E2.less om),?_⟩
   rw[hts,deepsE_app]; simp only[deepsE]; omega
open Go.Abs Go.Abs.S
theorem lastT_take{E:Env'}{s:Bs}{j:Nat}{y:Bs×Nat}(hy:E[j]?=some y):lastT (E.take (j+1)) s=if y.1=s then some y.2 else lastT (E.take j) s:=by
 rw[List.take_add_one,hy,Option.toList_some,lastT_snoc]
theorem dof_spec{E:Env'}(hE:Scp E)(hEl:E.length≤1000000):∀(N:Nat) {e:Ex} {c:List AVal} {vn vk:AVal} {H:AHeap},e.size≤N→XE (·<H.next) H e c→Cel H.next H vn (nmL E)→Cel H.next H vk (kdL E)→e.size≤100000→ACalls Tryz.prog natT 172 [.agg c,vn,vk] H fun u H'=>u=tyO (tyE E e)∧Ext H.next H H'
 | 0,e,_,_,_,_,h,_,_,_,_=>absurd (sizeE_pos e) om
 | N+1,.mk k s z kids,c,vn,vk,H,h,hx,cn,ck,hs=>by
  obtain⟨v,C,rfl,z1,z2⟩:=hx
  have hsz:(Ex.mk k s z kids).size=sizesE kids+1:=rfl
  refine acalls_ofN rfl za172 rfl ?_
  obtain⟨H1,m1,r1,n1,k1⟩:=row_newL H [.int .u8 (k:Int),.str s,.int .i64 z,v] (n:=4) rfl
  have E1:Ext H.next H H1:=⟨om,fun c hc=>k1 c om⟩
  have ln:=z1.len
  have lnn:=cn.len
  rw[nmL_len]at lnn
  have lnk:=ck.len
  rw[kdL_len]at lnk
  have hlen:=len_sizesE kids
  simp only[c172,sA,sB,seval,cells_agg,m1]
  refine aw_loop (fun m (T:Env) K=>∃(i:Nat) (ts:List Nat) (vt:AVal),m=kids.length-i∧i≤kids.length∧T 1=vn∧T 2=vk∧T 3=cellR H.next 4 0∧T 8=vt∧T 9=.int .i64 (i:Int)∧Ext H1.next H1 K∧LinM 1 K vt (tyL ts) ts.length∧Blk vt (fun b=>H1.next≤b)∧tyEs E (kids.take i)=.ok ts) kids.length
   ⟨0,[],nilS,rfl,Nat.zero_le _,by simp only[sA,sB,seval]; try rfl,by simp only[sA,sB,seval]; try rfl,by simp only[sA,sB,seval]; try rfl,by simp only[sA,sB,seval]; try rfl,by simp only[sA,sB,seval]; try rfl,Ext.refl _ _,.inl ⟨rfl,rfl,rfl⟩,blk_nil _,rfl⟩ ?_
  rintro m T K ⟨i,ts,vt,rfl,hi,t1,t2,t3,t8,t9,EK,lt,bt,hts⟩
  have eK:=EK.next
  have rK:=r1.same (EK.old H.next om)
  have f0:oLoad false 1 K (cellR H.next 4 0)=some (.int .u8 (k:Int)):=row_load rK rfl rfl
  have f1:oLoad false 1 K (cellR H.next 4 1)=some (.str s):=row_load rK rfl rfl
  have f3:oLoad false 1 K (cellR H.next 4 3)=some v:=row_load rK rfl rfl
  have toK:∀{L:AHeap},Ext K.next K L→Ext H.next H L:=fun q=>⟨by have:=q.next; omega,fun c hc=>by rw[q.old c om,EK.old c om,E1.old c hc]⟩
  have EHK:=toK (Ext.refl _ _)
  by_cases hlt:i<kids.length
  ·have hlt':(i:Int)<(kids.length:Int):=om
   obtain⟨e,he⟩:∃e,kids[i]?=some e:=⟨_,List.getElem?_eq_getElem hlt⟩
   have hti:kids.take (i+1)=kids.take i++[e]:=by rw[List.take_add_one,he]; rfl
   have km:∀b,b<H.next→b<K.next∧K.get b=H.get b:=fun b hb=>⟨om,EHK.old b hb⟩
   have z13:=z1.mono km
   have z23:=z2.mono km
   have ix:=z13.idx hlt
   have ld:=z13.load hlt
   have he3:=z23.at he
   have hsm:=sizesE_memT (List.mem_of_getElem? he)
   have wi:IntKind.i64.wrap ((i:Int)+1)=((i+1:Nat):Int):=addN i 1 om
   have hE2:Ext H.next H K:=EHK
   simp only[sA,sB,seval,t1,t2,t3,t8,t9,fldA,f3,ln,hlt',ix,ld]
   refine (dof_spec hE hEl N om he3 (Cel.more (cn.ext EHK) om) (Cel.more (ck.ext EHK) om) om).mono ?_
   rintro _ K2 ⟨rfl,E2⟩
   have e2:=E2.next
   cases hty:tyE E e with
   | error f=>
    have hf:=tyE_err hty
    have hf':¬(f:Int)=0:=om
    have hb:tyE E (.mk k s z kids)=.error f:=by
     simp only[tyE]; rw[tyEs_bad i ⟨ts,hts⟩ he hty]
    rw[hb]
    simp only[sA,sB,seval,tyO,ext_0,ext_1,hf']
    exact⟨tt,toK E2⟩
   | ok t=>
    have lt2:LinM 1 K2 vt (tyL ts) ts.length:=lt.same om (lt.blk.mono fun b hb=>E2.old b hb)
    have tl:=tyEs_len hts
    rw[List.length_take]at tl
    have bs:aBuildSl 1 [.int .u8 0] K2 [(0,1,kdA t)]=some (.slice (some ⟨K2.next,1,0⟩) 1 (.known 1),K2.push (.cells [kdA t] 0 false)):=rfl
    obtain⟨vt',K3,a3,L3,n3,b3,k3⟩:=lt2.add (j:=1) (xs:=[kdA t]) rfl rfl om (bytes:=1) om om
    have a3':aAppend 1 1 (K2.push (.cells [kdA t] 0 false)) vt (.slice (some ⟨K2.next,1,0⟩) 1 (.known 1))=some (vt',K3):=a3
    rw[tyL_snoc,show ts.length+1=(ts++[t]).length by simp]at L3
    simp only[sA,sB,seval,tyO,ext_0,ext_1,t1,t2,t3,t8,t9,bs,a3',wi]
    refine⟨kids.length-(i+1),om,i+1,ts++[t],vt',rfl,om,tt,tt,tt,tt,tt,EK.trans ⟨om,fun c hc=>?_⟩,L3,?_,?_⟩
    ·rw[k3 c om (bt.mono fun b hb=>om),E2.old c om]
    ·exact (b3 _ bt).mono fun b hb=>by rcases hb with hb | hb <;> omega
    ·rw[hti,tyEs_snoc hts,hty]
  obtain rfl:i=kids.length:=om
  have hlt':¬(kids.length:Int)<(kids.length:Int):=om
  rw[List.take_length]at hts
  have htl:=tyEs_len hts
  have h2:=tyEs_two hE hts
  have hty:tyE E (.mk k s z kids)=kindT E k s ts:=by simp only[tyE]; rw[hts]
  have lnt:=lt.len
  have ct:=(LinM.cel1 lt lt.blk).1
  have cnK:=(cn.ext EHK)
  have ckK:=(ck.ext EHK)
  rw[hty]
  simp only[sA,sB,seval,t1,t2,t3,t8,t9,fld0,fldA,f3,ln,hlt',f0]
  unfold kindT
  by_cases h1:k=1
  ·have h1':(k:Int)=1:=om
   rw[if_pos h1]
   simp only[sA,sB,seval,h1',tyO]
   exact⟨tt,EHK⟩
  have h1':¬(k:Int)=1:=om
  rw[if_neg h1]
  by_cases h2k:k=2
  ·have h2':(k:Int)=2:=om
   rw[if_pos h2k]
   have wl:IntKind.i64.wrap ((E.length:Int)-1)=(E.length:Int)-1:=w64
   simp only[sA,sB,seval,h2',t1,t2,lnn,lnk,ite_self,wl]
   refine aw_loop (fun m (T:Env) L=>L=K∧∃j:Nat,m=j∧j≤E.length∧T 1=vn∧T 2=vk∧T 3=cellR H.next 4 0∧T 12=.int .i64 ((j:Int)-1)∧lastT E s=lastT (E.take j) s) E.length
    ⟨rfl,E.length,rfl,Nat.le_refl _,by simp only[sA,sB,seval]; try exact t1,by simp only[sA,sB,seval]; try exact t2,by simp only[sA,sB,seval]; try exact t3,by simp only[sA,sB,seval]; try rfl,by rw[List.take_length]⟩ ?_
   rintro j U L ⟨rfl,j',hm,hj,u1,u2,u3,u12,hls⟩
   subst hm
   cases j with
   | zero=>
    have hz:¬(0:Int)≤((0:Nat):Int)-1:=om
    rw[hls]
    simp only[sA,sB,seval,u1,u2,u3,u12,hz,List.take_zero,lastT,tyO]
    exact⟨tt,EHK⟩
   | succ j=>
    have hcast:((j+1:Nat):Int)-1=(j:Int):=om
    rw[hcast]at u12
    have hz:(0:Int)≤(j:Int):=om
    obtain⟨y,hy⟩:∃y,E[j]?=some y:=⟨_,List.getElem?_eq_getElem om⟩
    have i1:=cnK.idx .i64 (i:=j) (by rw[nmL_len]; omega)
    have q1:=cnK.load (i:=j) (x:=.str y.1) (by simp[nmL,hy])
    have i2:=ckK.idx .i64 (i:=j) (by rw[kdL_len]; omega)
    have q2:=ckK.load (i:=j) (x:=kdA y.2) (by simp[kdL,hy])
    have wj:IntKind.i64.wrap ((j:Int)-1)=(j:Int)-1:=w64
    rw[lastT_take hy]at hls
    by_cases he:y.1=s
    ·rw[if_pos he]at hls
     rw[hls]
     simp only[sA,sB,seval,u1,u2,u3,u12,hz,i1,q1,fldA,f1,he,i2,q2,tyO]
     exact⟨tt,EHK⟩
    ·rw[if_neg he]at hls
     simp only[sA,sB,seval,u1,u2,u3,u12,hz,i1,q1,fldA,f1,he,wj]
     exact⟨j,om,tt,j,rfl,om,tt,tt,tt,tt,hls⟩
  have h2':¬(k:Int)=2:=om
  rw[if_neg h2k]
  by_cases h4:k=4
  ·have h4':(k:Int)=4:=om
   rw[if_neg (show ¬k=3 by omega),if_pos h4]
   simp only[sA,sB,seval,h4',fldA,f1]
   refine dblt_spec.mono ?_
   rintro u K2 ⟨ho,E2⟩
   have e2:=E2.next
   unfold callT
   cases ha:atKey argTab s with
   | none=>
    rw[ha]at ho
    obtain rfl:u=.tuple [nilS,kdA 0]:=ho
    simp only[sA,sB,seval,ext_0,ext_1,kdA,Int.cast_ofNat_Int,tyO]
    exact⟨tt,toK E2⟩
   | some x=>
    obtain⟨args,own⟩:=x
    rw[ha]at ho
    obtain⟨va,rfl,ca⟩:=ho
    have how:=argTab_two _ (atKey_mem ha)
    obtain⟨ha3,_⟩:=argTab_len _ (atKey_mem ha)
    simp only at how ha3
    have how':¬(own:Int)=0:=om
    have la:=ca.len
    rw[tyL_len]at la
    have ct2:Cel K.next K2 vt (tyL ts):=ct.ext E2
    simp only
    by_cases hl:ts.length≠args.length
    ·have hl':¬(args.length:Int)=(ts.length:Int):=om
     rw[if_pos hl]
     simp only[sA,sB,seval,ext_0,ext_1,kdA,how',t8,la,lnt,hl',tyO]
     exact⟨tt,toK E2⟩
    rw[if_neg hl]
    have hl2:ts.length=args.length:=by simpa using hl
    have hl':(args.length:Int)=(ts.length:Int):=om
    have hll:(ts.length:Int)=(args.length:Int):=om
    rw[hll]at lnt
    simp only[sA,sB,seval,ext_0,ext_1,kdA,how',t8,la,lnt]
    refine aw_loop (fun m (T:Env) L=>L=K2∧∃j:Nat,m=args.length-j∧j≤args.length∧T 8=vt∧T 13=va∧T 14=.int .u8 (own:Int)∧T 15=.int .i64 (j:Int)∧ts.take j=args.take j) args.length
     ⟨rfl,0,rfl,Nat.zero_le _,by simp only[sA,sB,seval]; try exact t8,by simp only[sA,sB,seval]; try rfl,by simp only[sA,sB,seval]; try rfl,by simp only[sA,sB,seval]; try rfl,rfl⟩ ?_
    rintro m U L ⟨rfl,j,rfl,hj,u8,u13,u14,u15,he⟩
    by_cases hjl:j<args.length
    case neg=>
     obtain rfl:j=args.length:=om
     have hjl':¬(args.length:Int)<(args.length:Int):=om
     rw[List.take_length,← hl2,List.take_length]at he
     rw[if_neg (fun q:ts≠args=>q he)]
     simp only[sA,sB,seval,u8,u13,u14,u15,la,hjl',tyO,kdA]
     exact⟨tt,toK E2⟩
    have hjl':(j:Int)<(args.length:Int):=om
    obtain⟨a,hja⟩:∃a,args[j]?=some a:=⟨_,List.getElem?_eq_getElem hjl⟩
    obtain⟨b,hjb⟩:∃b,ts[j]?=some b:=⟨_,List.getElem?_eq_getElem om⟩
    have i1:=ca.idx .i64 (i:=j) (by rw[tyL_len]; exact hjl)
    have q1:=ca.load (i:=j) (x:=kdA a) (by simp[tyL,hja])
    have i2:=ct2.idx .i64 (i:=j) (by rw[tyL_len]; omega)
    have q2:=ct2.load (i:=j) (x:=kdA b) (by simp[tyL,hjb])
    have wj:IntKind.i64.wrap ((j:Int)+1)=((j+1:Nat):Int):=w64
    simp only[kdA]at q1 q2
    by_cases hab:a=b
    ·subst hab
     simp only[sA,sB,seval,u8,u13,u14,u15,la,hjl',i1,q1,i2,q2,wj]
     refine⟨args.length-(j+1),om,tt,j+1,rfl,om,tt,tt,tt,tt,?_⟩
     rw[List.take_add_one,List.take_add_one,hja,hjb,he]
    ·have hab':¬(a:Int)=(b:Int):=om
     have hne:ts≠args:=fun q=>by
      rw[q,hja]at hjb
      exact hab (Option.some.inj hjb)
     rw[if_pos hne]
     simp only[sA,sB,seval,u8,u13,u14,u15,la,hjl',i1,q1,i2,q2,hab',tyO,kdA]
     exact⟨tt,toK E2⟩
  have h4':¬(k:Int)=4:=om
  by_cases h3:k=3
  ·have h3':(k:Int)=3:=om
   rw[if_pos h3]
   simp only[sA,sB,seval,h3',fldA,f1,t8]
   refine (doper_spec ct rL h2).mono ?_
   rintro _ K2 ⟨rfl,E2⟩
   by_cases h0:opT s ts=0
   ·have h0':((opT s ts:Nat):Int)=0:=om
    rw[if_pos h0]
    simp only[sA,sB,seval,kdA,h0',tyO]
    exact⟨tt,toK E2⟩
   ·have h0':¬((opT s ts:Nat):Int)=0:=om
    rw[if_neg h0]
    simp only[sA,sB,seval,kdA,h0',tyO]
    exact⟨tt,toK E2⟩
  ·have h3':¬(k:Int)=3:=om
   rw[if_neg h3,if_neg h4]
   simp only[sA,sB,seval,h1',h2',h3',h4',tyO]
   exact⟨tt,EHK⟩
theorem dofx_spec{E:Env'}(hE:Scp E)(hEl:E.length≤1000000){e:Ex}{c:List AVal}{vn vk:AVal}{H:AHeap}(hx:XE (·<H.next) H e c)(cn:Cel H.next H vn (nmL E))(ck:Cel H.next H vk (kdL E))(hs:e.size≤100000)(hd:e.deep≤40) :
  ACalls Tryz.prog natT 135 [.agg c,vn,vk] H fun u H'=>u=tyO (tyE E e)∧Ext H.next H H':=by
 refine acalls_ofN rfl za135 rfl ?_
 obtain⟨H1,m1,r1,n1,k1⟩:=row_newL H c (n:=4) hx.len
 have E1:Ext H.next H H1:=⟨om,fun c hc=>k1 c om⟩
 have l4:oLoad true 4 H1 (cellR H.next 4 0)=some (.agg c):=row_loadN r1 hx.len
 have km:∀b,b<H.next→b<H1.next∧H1.get b=H.get b:=fun b hb=>⟨om,E1.old b hb⟩
 simp only[c135,sA,sB,seval,cells_agg,m1,l4]
 refine (ddeep_spec e.size (n:=40) rL (hx.mono km) om om).mono ?_
 rintro _ H2 ⟨rfl,E2⟩
 have e2:=E2.next
 have hd':decide (40<e.deep)=false:=decide_eq_false om
 have E12:Ext H.next H H2:=⟨om,fun c hc=>by rw[E2.old c om,E1.old c hc]⟩
 have l42:oLoad true 4 H2 (cellR H.next 4 0)=some (.agg c):=row_loadN (r1.same (E2.old _ om)) hx.len
 have km2:∀b,b<H.next→b<H2.next∧H2.get b=H.get b:=fun b hb=>⟨om,E12.old b hb⟩
 simp only[sA,sB,seval,hd',l42]
 refine (dof_spec hE hEl e.size rL (hx.mono km2) (Cel.more (cn.ext E12) om) (Cel.more (ck.ext E12) om) hs).mono ?_
 rintro _ H3 ⟨rfl,E3⟩
 cases hty:tyE E e with
 | error f=>
  simp only[sA,sB,seval,tyO,ext_0,ext_1]
  exact⟨tt,by have:=E3.next; omega,fun c hc=>by rw[E3.old c om,E12.old c hc]⟩
 | ok t=>
  simp only[sA,sB,seval,tyO,ext_0,ext_1]
  exact⟨tt,by have:=E3.next; omega,fun c hc=>by rw[E3.old c om,E12.old c hc]⟩
open Go.Abs Go.Abs.S
def failF(x:FltI)(f:Nat)(line:Int):FltI:=if x.1=0∧f≠0 then (f,line) else x
theorem dcfail_spec{x:FltI}{f:Nat}{line:Int}{cb:Nat}{H:AHeap}(r:Row H cb (flI x))(hcb:cb<H.next):ACalls Tryz.prog natT 134 [cellR cb 2 0,.int .i64 (f:Int),.int .i64 line] H fun _ H'=>Row H' cb (flI (failF x f line))∧H'.next=H.next∧∀c,c≠cb→H'.get c=H.get c:=by
 have l0:oLoad false 1 H (cellR cb 2 0)=some (.int .i64 (x.1:Int)):=row_load r rfl rfl
 refine acalls_ofN rfl za134 rfl ?_
 unfold failF
 by_cases h0:x.1=0
 ·have h0':(x.1:Int)=0:=om
  by_cases hf:f=0
  ·have hf':(f:Int)=0:=om
   rw[if_neg (fun h=>h.2 hf)]
   simp only[c134,sA,sB,seval,nil_cell,fld0,l0,h0',hf']
   exact⟨_,rfl,r,rfl,fun _ _=>rfl⟩
  ·have hf':¬(f:Int)=0:=om
   have bb:aBuild [.int .i64 0,.int .i64 0] [(0,1,.int .i64 (f:Int)),(1,1,.int .i64 line)]=some (.agg [.int .i64 (f:Int),.int .i64 line]):=rfl
   obtain⟨H1,m1,r1,n1,k1⟩:=row_storeN r (n:=2) rfl (xs:=flI (f,line)) rfl rfl
   have m1':oStore 2 H (cellR cb 2 0) (.agg [.int .i64 (f:Int),.int .i64 line])=some H1:=m1
   rw[if_pos ⟨h0,hf⟩]
   simp only[c134,sA,sB,seval,nil_cell,fld0,l0,h0',hf',bb,m1']
   exact⟨_,rfl,r1,n1,k1⟩
 ·have h0':¬(x.1:Int)=0:=om
  rw[if_neg (fun h=>h0 h.1)]
  simp only[c134,sA,sB,seval,nil_cell,fld0,l0,h0']
  exact⟨_,rfl,r,rfl,fun _ _=>rfl⟩
theorem dcst_bad{x:FltI}{v vn vk:AVal}{k cb:Nat}{H:AHeap}(r:Row H cb (flI x))(hx:x.1≠0)(hv:aLenK false v=some (.int .i64 (k:Int))):ACalls Tryz.prog natT 88 [cellR cb 2 0,v,vn,vk] H fun _ H'=>H=H':=by
 have l0:oLoad false 1 H (cellR cb 2 0)=some (.int .i64 (x.1:Int)):=row_load r rfl rfl
 have hx':¬(x.1:Int)=0:=om
 refine acalls_ofN rfl za88 rfl ?_
 simp only[c88,sA,sB,seval]
 refine aw_loop (fun m (T:Env) K=>K=H∧T 0=cellR cb 2 0∧T 1=v∧T 8=.int .i64 0) 0 ⟨rfl,by simp only[sA,sB,seval]; try rfl,by simp only[sA,sB,seval]; try rfl,by simp only[sA,sB,seval]; try rfl⟩ ?_
 rintro m T K ⟨rfl,t0,t1,t8⟩
 by_cases h0:(0:Int)<(k:Int)
 ·simp only[sA,sB,seval,t0,t1,t8,hv,h0,nil_cell,fld0,l0,hx']
  exact⟨_,rfl,rfl⟩
 ·simp only[sA,sB,seval,t0,t1,t8,hv,h0]
  exact⟨_,rfl,rfl⟩
theorem dreturns_spec:∀(N:Nat) {l:List St} {C:List AVal} {v:AVal} {H:AHeap},sizesS l≤N→N≤1000000→SlK (·<H.next) H 9 v l.length C→XSs (·<H.next) H l C→ACalls Tryz.prog natT 89 [v] H fun u H'=>u=.bool (retL l)∧Ext H.next H H':=by
 intro N
 induction N with
 | zero=>
  intro l C v H hsz hN z1 z2
  have hl0:l=[]:=by
   cases l with
   | nil=>rfl
   | cons x l=>have:=sizeS_pos x; simp only[sizesS]at hsz; omega
  subst hl0
  have ln:=z1.len
  have h0:(([]:List St).length:Int)=0:=rfl
  refine acalls_ofN rfl za89 rfl ?_
  simp only[c89,sA,sB,seval,ln,h0]
  exact⟨tt,Ext.refl _ _⟩
 | succ N ih=>
  intro l C v H hsz hN z1 z2
  have ln:=z1.len
  by_cases hl0:l=[]
  ·subst hl0
   have h0:(([]:List St).length:Int)=0:=rfl
   refine acalls_ofN rfl za89 rfl ?_
   simp only[c89,sA,sB,seval,ln,h0]
   exact⟨tt,Ext.refl _ _⟩
  obtain⟨x,j,hj,he,hr⟩:=last_of hl0
  have hjl:j<l.length:=om
  have hlen:=len_sizesS l
  have hn0:¬(l.length:Int)=0:=om
  have wj:IntKind.i64.wrap ((l.length:Int)-1)=(j:Int):=w64
  have ix:=z1.idx hjl
  have ld:=z1.load hjl
  have hsm:=size_memS (List.mem_of_getElem? he)
  have hx:=z2.at he
  obtain⟨k,s,e,body,els,line⟩:=x
  obtain⟨ce,vb,Cb,ve,Ce,hcell,x1,y1,y2,y3,y4⟩:=hx
  obtain⟨c0,c1,c2,c3,rfl⟩:∃a b c d,ce=[a,b,c,d]:=by
   have:=x1.len
   match ce,this with
   | [a,b,c,d],_=>exact⟨a,b,c,d,rfl⟩
  have hone:((C.drop (j*9)).take 9).all AVal.one=true:=(z2.at he).one
  rw[hcell]at ld hone
  have hsz2:(St.mk k s e body els line).size=e.size+sizesS body+sizesS els+1:=rfl
  have hrs:retS (.mk k s e body els line)=(decide (k=5)||(decide (k=3)&&(retL body&&retL els))):=rfl
  obtain⟨H1,m1,r1,n1,k1⟩:=row_newL H [.int .u8 0,.str [],.int .u8 0,.str [],.int .i64 0,.slice none 0 (.known 0),.slice none 0 (.known 0),.slice none 0 (.known 0),.int .i64 0] (n:=9) rfl
  obtain⟨H2,m2,r2,n2,k2⟩:=row_storeN r1 (n:=9) rfl (xs:=.int .u8 (k:Int)::.str s::([c0,c1,c2,c3]++[vb,ve,.int .i64 line])) rfl hone
  have m2':oStore 9 H1 (cellR H.next 9 0) (.agg [.int .u8 (k:Int),.str s,c0,c1,c2,c3,vb,ve,.int .i64 line])=some H2:=m2
  have E2:Ext H.next H H2:=⟨om,fun c hc=>by rw[k2 c om,k1 c om]⟩
  have km:∀b,b<H.next→b<H2.next∧H2.get b=H.get b:=fun b hb=>⟨om,E2.old b hb⟩
  have l0:oLoad false 1 H2 (cellR H.next 9 0)=some (.int .u8 (k:Int)):=row_load r2 rfl rfl
  have l6:oLoad false 1 H2 (cellR H.next 9 6)=some vb:=row_load r2 rfl rfl
  rw[hr,hrs]
  refine acalls_ofN rfl za89 rfl ?_
  by_cases h5:k=5
  ·subst h5
   simp only[Int.cast_ofNat_Int]at ld m2' l0
   simp only[c89,sA,sB,seval,ln,hn0,wj,ix,ld,m1,m2',fld0,l0,Int.cast_ofNat_Int]
   exact⟨tt,E2⟩
  have h5':¬(k:Int)=5:=om
  by_cases h3:k=3
  ·subst h3
   simp only[Int.cast_ofNat_Int]at ld m2' l0
   simp only[c89,sA,sB,seval,ln,hn0,wj,ix,ld,m1,m2',fld0,fldA,l0,l6,Int.cast_ofNat_Int]
   refine (ih om om (y1.mono km) (y2.mono km)).mono ?_
   rintro _ H3 ⟨rfl,E3⟩
   have e3:=E3.next
   have E23:Ext H.next H H3:=⟨om,fun c hc=>by rw[E3.old c om,E2.old c hc]⟩
   cases hb:retL body with
   | false=>
    simp only[sA,sB,seval]
    exact⟨tt,E23⟩
   | true=>
    have l7:oLoad false 1 H3 (cellR H.next 9 7)=some ve:=row_load (r2.same (E3.old _ om)) rfl rfl
    have km3:∀b,b<H.next→b<H3.next∧H3.get b=H.get b:=fun b hb=>⟨om,E23.old b hb⟩
    simp only[sA,sB,seval,fldA,l7]
    refine (ih om om (y3.mono km3) (y4.mono km3)).mono ?_
    rintro _ H4 ⟨rfl,E4⟩
    have e4:=E4.next
    simp only[sA,sB,seval]
    exact⟨by simp,om,fun c hc=>by rw[E4.old c om,E23.old c hc]⟩
  ·have h3':¬(k:Int)=3:=om
   simp only[c89,sA,sB,seval,ln,hn0,wj,ix,ld,m1,m2',fld0,l0,h5',h3',h5,h3]
   exact⟨tt,E2⟩
open Go.Abs Go.Abs.S
theorem nm_one(E:Env'):(nmL E).all AVal.one=true:=by rw[List.all_eq_true]; intro x hx; simp only[nmL,List.mem_map]at hx; obtain⟨_,_,rfl⟩:=hx; rfl
theorem kd_one(E:Env'):(kdL E).all AVal.one=true:=by rw[List.all_eq_true]; intro x hx; simp only[kdL,List.mem_map]at hx; obtain⟨_,_,rfl⟩:=hx; rfl
theorem lin_src{H:AHeap}{v:AVal}{L:List AVal}{k:Nat}(h:LinM 1 H v L k):aSrc 1 H v=some (k,L):=by
 obtain⟨c,hl⟩:=LinM.cel1 h h.blk
 have:=c.src
 rwa [hl]at this
theorem lin_nil{H:AHeap}{b:Nat}(g:H.get b=some (.cells [] 0 false))(hb:b<H.next):LinM 1 H (.slice (some ⟨b,0,0⟩) 0 (.known 0)) [] 0:=
 .inr ⟨b,[],0,.known 0,rfl,.inr ⟨0,rfl,Nat.le_refl _,rfl⟩,g,Nat.le_refl _,rfl,rfl,Nat.le_refl _,hb⟩
theorem dsc_let{E:Env'}{vn vk:AVal}{H Hr:AHeap}(ln:LinM 1 H vn (nmL E) E.length)(lk:LinM 1 H vk (kdL E) E.length)(hHr:Hr=(H.push (.cells [] 0 false)).push (.cells [] 0 false))(s:Bs)(t:Nat)(hEl:E.length≤200000) :
  ∃H2 v1 H3 H4 v2 H5 w1 H6 w2 H7,aHf (.fill H.next (.lit 0 [.str []] [])) Hr []=some (.slice (some ⟨H.next,0,0⟩) 0 (.known 0),H2)∧aAppend 1 16 H2 (.slice (some ⟨H.next,0,0⟩) 0 (.known 0)) vn=some (v1,H3) ∧
   aHf (.fill (H.next+1) (.lit 1 [.str []] [(0,1)])) H3 [.str s]=some (.slice (some ⟨H.next+1,1,0⟩) 1 (.known 1),H4)∧aAppend 1 16 H4 v1 (.slice (some ⟨H.next+1,1,0⟩) 1 (.known 1))=some (v2,H5) ∧
   aAppend 1 1 (H5.push (.cells [] 0 false)) (.slice (some ⟨H5.next,0,0⟩) 0 (.known 0)) vk=some (w1,H6)∧aAppend 1 1 (H6.push (.cells [kdA t] 0 false)) w1 (.slice (some ⟨H6.next,1,0⟩) 1 (.known 1))=some (w2,H7) ∧
   (∀c,blkOf vn=some c→H.next+1≠c)∧(∀c,blkOf v1=some c→H.next+1≠c)∧(∀c,c<H.next→Hr.get c=H.get c)∧(∀c,c<H.next→H2.get c=H.get c)∧(∀c,c<H.next→H3.get c=H.get c) ∧
   LinM 1 H7 v2 (nmL (E++[(s,t)])) (E++[(s,t)]).length∧LinM 1 H7 w2 (kdL (E++[(s,t)])) (E++[(s,t)]).length∧Blk v2 (H.next≤·)∧Blk w2 (H.next≤·)∧Ext H.next H H7:=by
 have nr:Hr.next=H.next+2:=by rw[hHr]; rfl
 have kr:∀c,c<H.next→Hr.get c=H.get c:=fun c hc=>by rw[hHr,AHeap.get_push,if_neg (by rw[push_next]; omega),get_push_lt hc]
 have gr0:Hr.get H.next=some (.cells [] 0 false):=by rw[hHr,AHeap.get_push,if_neg (by rw[push_next]; omega),AHeap.get_push,if_pos rfl]
 have gr1:Hr.get (H.next+1)=some (.cells [] 0 false):=by rw[hHr,AHeap.get_push,if_pos (by rw[push_next])]
 have bN:=ln.blk
 have bK:=lk.blk
 obtain⟨H2,fl1,n2,g2,k2⟩:=fill_at gr0 (len:=0) (z:=[.str []]) (ofs:=[]) (l:=[]) (xs:=[]) rfl
 have k02:∀c,c<H.next→H2.get c=H.get c:=fun c hc=>by rw[k2 c om,kr c hc]
 have L2:LinM 1 H2 (.slice (some ⟨H.next,0,0⟩) 0 (.known 0)) [] 0:=lin_nil g2 om
 have ln2:LinM 1 H2 vn (nmL E) E.length:=ln.same om (bN.mono fun b hb=>k02 b hb)
 obtain⟨v1,H3,a3,L3,n3,b3,k3⟩:=L2.many (lin_src ln2) (by rw[nmL_len]; omega) (nm_one E) om (bytes:=16) om om
 have bE:Blk (.slice (some ⟨H.next,0,0⟩) 0 (.known 0)) (·=H.next):=blk_some rfl
 have bv1:=b3 _ bE
 have k03:∀c,c<H.next→H3.get c=H.get c:=fun c hc=>by rw[k3 c om (bE.mono fun b hb=>om),k02 c hc]
 have gr13:H3.get (H.next+1)=some (.cells [] 0 false):=by rw[k3 _ om (bE.mono fun b hb=>om),k2 _ om]; exact gr1
 rw[List.nil_append,Nat.zero_add]at L3
 have bL3:=L3.blk
 obtain⟨H4,fl2,n4,g4,k4⟩:=fill_at gr13 (len:=1) (z:=[.str []]) (ofs:=[(0,1)]) (l:=[.str s]) (xs:=[.str s]) rfl
 have L4:LinM 1 H4 v1 (nmL E) E.length:=L3.same om (bv1.mono fun b hb=>k4 b (by rcases hb with hb | hb <;> omega))
 obtain⟨v2,H5,a5,L5,n5,b5,k5⟩:=L4.many (src_one g4) rfl rfl om (bytes:=16) om om
 rw[snoc_nm E s t]at L5
 have bv2:=b5 _ bv1
 have k05:∀c,c<H.next→H5.get c=H.get c:=fun c hc=>by rw[k5 c om (bv1.mono fun b hb=>by rcases hb with hb | hb <;> omega),k4 c om,k03 c hc]
 have gp:(H5.push (.cells [] 0 false)).get H5.next=some (.cells [] 0 false):=by rw[AHeap.get_push,if_pos rfl]
 have np:(H5.push (.cells [] 0 false)).next=H5.next+1:=rfl
 have M5:LinM 1 (H5.push (.cells [] 0 false)) (.slice (some ⟨H5.next,0,0⟩) 0 (.known 0)) [] 0:=lin_nil gp om
 have lk5:LinM 1 (H5.push (.cells [] 0 false)) vk (kdL E) E.length:=lk.same om (bK.mono fun b hb=>by show _=_; rw[get_push_lt om,k05 b hb])
 obtain⟨w1,H6,a6,M6,n6,c6,k6⟩:=M5.many (lin_src lk5) (by rw[kdL_len]; omega) (kd_one E) om (bytes:=1) om om
 have bF:Blk (.slice (some ⟨H5.next,0,0⟩) 0 (.known 0)) (·=H5.next):=blk_some rfl
 have bw1:=c6 _ bF
 rw[List.nil_append,Nat.zero_add]at M6
 obtain⟨w2,H7,a7,M7,n7,c7,k7⟩:=M6.add (j:=1) (xs:=[kdA t]) rfl rfl om (bytes:=1) om om
 have a7':aAppend 1 1 (H6.push (.cells [kdA t] 0 false)) w1 (.slice (some ⟨H6.next,1,0⟩) 1 (.known 1))=some (w2,H7):=a7
 rw[snoc_kd E s t]at M7
 have bw2:=c7 _ bw1
 have k57:∀c,c<H5.next→H7.get c=H5.get c:=fun c hc=>by rw[k7 c om (bw1.mono fun b hb=>by rcases hb with hb | hb <;> omega),k6 c om (bF.mono fun b hb=>om),get_push_lt hc]
 have hEl2:(E++[(s,t)]).length=E.length+1:=by simp
 refine⟨H2,v1,H3,H4,v2,H5,w1,H6,w2,H7,fl1,a3,fl2,a5,a6,a7',?_,?_,kr,k02,k03,by rw[hEl2]; exact L5.same om (L5.blk.mono fun b hb=>k57 b hb),by rw[hEl2]; exact M7,?_,?_,om,fun c hc=>by rw[k57 c om,k05 c hc]⟩
 ·intro c hc
  have:=blkOf_blk bN ln c hc
  omega
 ·intro c hc
  have:=blkOf_blk bv1 L3 c hc
  rcases this with this | this <;> omega
 ·exact bv2.mono fun b hb=>by rcases hb with (hb | hb) | hb <;> omega
 ·exact bw2.mono fun b hb=>by rcases hb with (hb | hb) | hb <;> omega
theorem fnd_0{s:Bs}{E:Env'}(hE:Scp E):fndT s E=0↔firstI s E=none:=by
 unfold fndT
 cases hf:firstI s E with
 | none=>simp
 | some i=>
  obtain⟨t,ht⟩:=firstI_lt hf
  have:=hE.kind _ (List.mem_of_getElem? ht)
  simp only at this
  simp only[ht,Option.map_some,Option.getD_some]
  constructor
  ·intro h; omega
  ·intro h; simp at h
theorem fnd_some{s:Bs}{E:Env'}{i:Nat}(hf:firstI s E=some i):E[i]?=some (s,fndT s E):=by
 obtain⟨t,ht⟩:=firstI_lt hf
 unfold fndT
 rw[hf]
 simp only[ht,Option.map_some,Option.getD_some]
def nm4:List Bs:=[[117],[118],[112],[110]]
theorem first_take{s:Bs}{n:Nat}:∀{E:Env'} {i:Nat},firstI s E=some i→(s∈(E.take n).map (·.1)↔i<n)
 | [],i,h=>by simp[firstI]at h
 | x::E,i,h=>by
  cases n with
  | zero=>simp
  | succ n=>
   simp only[firstI]at h
   simp only[List.take_succ_cons,List.map_cons,List.mem_cons]
   by_cases hx:x.1=s
   ·rw[if_pos hx]at h
    simp only[sJ]at h
    subst h
    simp[hx]
   ·rw[if_neg hx]at h
    cases hf:firstI s E with
    | none=>rw[hf]at h; simp at h
    | some j=>
     rw[hf]at h
     simp only[Option.map_some,sJ]at h
     subst h
     have:=first_take (n:=n) hf
     rw[this]
     constructor
     ·rintro (h | h)
      ·exact absurd h.symm hx
      ·omega
     ·intro h; exact .inr om
theorem nm4_iff{s:Bs}{E:Env'}(hE:Scp E){i:Nat}(hf:firstI s E=some i):s∈nm4↔i<4:=by
 rw[← first_take hf,hE.four]
 rfl
theorem headS_err{E:Env'}{k:Nat}{s:Bs}{t g:Nat}(h:headS E k s t=.error g):g≠0:=by
 simp only[headS]at h
 repeat' split at h
 all_goals first | (simp at h; done) | (simp only[Except.error.injEq]at h; omega)
theorem failF_0{f:Nat}{line:Int}(h:f≠0):failF (0,0) f line=(f,line):=by unfold failF; rw[if_pos ⟨rfl,h⟩]
theorem failF_n{line:Int}:failF (0,0) 0 line=(0,0):=by unfold failF; rw[if_neg (fun h=>h.2 rfl)]
open Go.Abs Go.Abs.S
def LiD(N:Nat):Prop:=∀{l:List St} {C:List AVal} {v vn vk:AVal} {E:Env'} {cb:Nat} {H:AHeap},sizesS l≤N→Row H cb (flI (0,0))→cb<H.next→SlK (fun b=>b<H.next∧b≠cb) H 9 v l.length C→XSs (fun b=>b<H.next∧b≠cb) H l C→LinM 1 H vn (nmL E) E.length→LinM 1 H vk (kdL E) E.length→Blk vn (·≠cb)→Blk vk (·≠cb) →
 oksS l=true→sizesS l≤1000→deepsS l≤40→Scp E→E.length+sizesS l≤100000→ACalls Tryz.prog natT 88 [cellR cb 2 0,v,vn,vk] H fun _ H'=>Row H' cb (flI (fltL (ckL E false l)))∧Fp cb H H'
structure DSt(l:List St)(E0:Env')(cb:Nat)(H K:AHeap)(i:Nat)(Ei:Env')(vn vk:AVal):Prop where
 ck:ckL E0 false l=ckL Ei (prevR l i) (l.drop i)
 ln:LinM 1 K vn (nmL Ei) Ei.length
 lk:LinM 1 K vk (kdL Ei) Ei.length
 bn:Blk vn (·≠cb)
 bk:Blk vk (·≠cb)
 sc:Scp Ei
 len:Ei.length≤E0.length+sizesS (l.take i)
set_option maxHeartbeats 2000000 in
theorem dli_step{N:Nat}(ih:∀M,M<N→LiD M):LiD N:=by
 intro l C v vn vk E cb H hsz rc hcb z1 z2 ln lk bn bk hok hs hd hE hl
 have lv:=z1.len
 have hlenl:=len_sizesS l
 refine acalls_ofN rfl za88 rfl ?_
 simp only[c88,sA,sB,seval]
 refine aw_loop (fun m (T:Env) K=>∃(i:Nat) (f:FltI) (vn1 vk1:AVal),m=l.length-i∧i≤l.length∧T 0=cellR cb 2 0∧T 1=v∧T 2=vn1∧T 3=vk1∧T 8=.int .i64 (i:Int)∧Row K cb (flI f)∧Fp cb H K∧((f.1≠0∧fltL (ckL E false l)=f)∨(f=(0,0)∧∃Ei,DSt l E cb H K i Ei vn1 vk1))) l.length
  ⟨0,(0,0),vn,vk,rfl,Nat.zero_le _,by simp only[sA,sB,seval]; try rfl,by simp only[sA,sB,seval]; try rfl,by simp only[sA,sB,seval]; try rfl,by simp only[sA,sB,seval]; try rfl,by simp only[sA,sB,seval]; try rfl,rc,Fp.refl _ _,.inr ⟨rfl,E,rfl,ln,lk,bn,bk,hE,by simp[sizesS]⟩⟩ ?_
 rintro m T K ⟨i,f,vn1,vk1,rfl,hi,t0,t1,t2,t3,t8,rK,FK,hst⟩
 have nK:=FK.next
 have lf:oLoad false 1 K (cellR cb 2 0)=some (.int .i64 (f.1:Int)):=row_load rK rfl rfl
 rcases hst with⟨hf,hfl⟩ | ⟨rfl,Ei,D⟩
 ·have hf':¬(f.1:Int)=0:=om
  by_cases hlt:(i:Int)<(l.length:Int)
  ·simp only[sA,sB,seval,t0,t1,t8,lv,hlt,nil_cell,fld0,lf,hf']
   exact⟨_,rfl,by rw[hfl]; exact rK,FK⟩
  ·simp only[sA,sB,seval,t0,t1,t8,lv,hlt]
   exact⟨_,rfl,by rw[hfl]; exact rK,FK⟩
 have lf0:oLoad false 1 K (cellR cb 2 0)=some (.int .i64 0):=lf
 by_cases hlt:i<l.length
 case neg=>
  obtain rfl:i=l.length:=om
  have hlt':¬(l.length:Int)<(l.length:Int):=om
  have hfl:fltL (ckL E false l)=(0,0):=by rw[D.ck,List.drop_length]; rfl
  simp only[sA,sB,seval,t0,t1,t8,lv,hlt']
  exact⟨_,rfl,by rw[hfl]; exact rK,FK⟩
 have hlt':(i:Int)<(l.length:Int):=om
 obtain⟨x,he⟩:∃e,l[i]?=some e:=⟨_,List.getElem?_eq_getElem hlt⟩
 have hts:l.take (i+1)=l.take i++[x]:=by rw[List.take_add_one,he]; rfl
 have hdrop:l.drop i=x::l.drop (i+1):=by
  rw[← (List.getElem?_eq_some_iff.1 he).2,← List.drop_eq_getElem_cons hlt]
 have hmem:=List.mem_of_getElem? he
 have hsm:=size_memS hmem
 have hdm:=deepsS_mem hmem
 have km:∀{K:AHeap},Fp cb H K→∀b,(b<H.next∧b≠cb)→(b<K.next∧b≠cb)∧K.get b=H.get b:=fun F b hb=>⟨⟨by have:=F.next; omega,hb.2⟩,F.old b hb.1 hb.2⟩
 have z1K:=z1.mono (km FK)
 have z2K:=z2.mono (km FK)
 have ix:=z1K.idx hlt
 have ld:=z1K.load hlt
 have wi:IntKind.i64.wrap ((i:Int)+1)=((i+1:Nat):Int):=addN i 1 om
 have hx3:=z2K.at he
 have hone:=hx3.one
 have hokx:=okS_at hok hmem
 have hszt:sizesS (l.take i)+x.size≤sizesS l:=by
  have:sizesS (l.take (i+1))≤sizesS l:=by
   conv=>rhs; rw[← List.take_append_drop (i+1) l,sizesS_app]
   omega
  rw[hts,sizesS_app]at this
  simp only[sizesS]at this
  omega
 have hck:=D.ck
 rw[hdrop]at hck
 have hnl:=D.len
 obtain⟨k,s,e,body,els,line⟩:=x
 obtain⟨ce,vb,Cb,ve,Ce,hcell,x1,y1,y2,y3,y4⟩:=hx3
 obtain⟨c0,c1,c2,c3,rfl⟩:∃a b c d,ce=[a,b,c,d]:=by
  have:=x1.len
  match ce,this with
  | [a,b,c,d],_=>exact⟨a,b,c,d,rfl⟩
 rw[hcell]at ld hone
 obtain⟨hlf,hokE,hokB,hokL⟩:=okS_parts hokx
 have hk5:=lineF_k hlf
 have hS:(St.mk k s e body els line).size=e.size+sizesS body+sizesS els+1:=rfl
 have hD:(St.mk k s e body els line).deep=max e.deep (max (deepsS body) (deepsS els))+1:=rfl
 obtain⟨H1,m1,r1,n1,k1⟩:=row_newL K [.int .u8 0,.str [],.int .u8 0,.str [],.int .i64 0,.slice none 0 (.known 0),.slice none 0 (.known 0),.slice none 0 (.known 0),.int .i64 0] (n:=9) rfl
 obtain⟨H2,m2,r2,n2,k2⟩:=row_storeN r1 (n:=9) rfl (xs:=.int .u8 (k:Int)::.str s::([c0,c1,c2,c3]++[vb,ve,.int .i64 line])) rfl hone
 have m2':oStore 9 H1 (cellR K.next 9 0) (.agg [.int .u8 (k:Int),.str s,c0,c1,c2,c3,vb,ve,.int .i64 line])=some H2:=m2
 obtain⟨sb,hsb⟩:∃b,b=K.next:=⟨_,rfl⟩
 rw[← hsb]at m1 r1 k1 m2' r2 k2
 have E2:Ext K.next K H2:=⟨om,fun c hc=>by rw[k2 c om,k1 c om]⟩
 have F2:Fp cb H H2:=⟨om,fun c h1 h2=>by rw[E2.old c om,FK.old c h1 h2]⟩
 have rc2:=rK.same (E2.old cb om)
 have ldS:∀{L:AHeap},L.get sb=H2.get sb→oLoad false 1 L (cellR sb 9 0)=some (.int .u8 (k:Int))∧oLoad false 1 L (cellR sb 9 1)=some (.str s)∧oLoad true 4 L (cellR sb 9 2)=some (.agg [c0,c1,c2,c3])∧oLoad false 1 L (cellR sb 9 6)=some vb∧oLoad false 1 L (cellR sb 9 7)=some ve∧oLoad false 1 L (cellR sb 9 8)=some (.int .i64 line):=fun q=>by
  have r:=r2.same q
  refine⟨row_load r rfl rfl,row_load r rfl rfl,?_,row_load r rfl rfl,row_load r rfl rfl,row_load r rfl rfl⟩
  have h:=rd_row r (n:=9) rfl (i:=2) (k:=4) (by simp)
  simp only[oLoad,cellR]
  rw[h]; rfl
 obtain⟨q0,q1,q2,q6,q7,q8⟩:=ldS (L:=H2) rfl
 have ln2:LinM 1 H2 vn1 (nmL Ei) Ei.length:=D.ln.same om fun a j r e=>E2.old _ (D.ln.blk a j r e)
 have lk2:LinM 1 H2 vk1 (kdL Ei) Ei.length:=D.lk.same om fun a j r e=>E2.old _ (D.lk.blk a j r e)
 have cn2:=(LinM.cel1 ln2 ln2.blk).1
 have ck2:=(LinM.cel1 lk2 lk2.blk).1
 by_cases hi0:i=0
 ·have h0:¬(0:Int)<(i:Int):=om
  have hprev:prevR l i=false:=by rw[hi0]; rfl
  simp only[sA,sB,seval,t0,t1,t2,t3,t8,lv,hlt',nil_cell,fld0,lf0,ix,ld,m1,m2',h0,fldA,q2]
  refine (dofx_spec D.sc om (x1.mono fun b hb=>⟨om,E2.old b hb.1⟩) cn2 ck2 om om).mono ?_
  rintro _ H3 ⟨rfl,E3⟩
  have e3:=E3.next
  have rc3:=rc2.same (E3.old cb om)
  have F3:Fp cb K H3:=⟨om,fun c h1 _=>by rw[E3.old c om,E2.old c h1]⟩
  have g3:=E3.old sb om
  obtain⟨q0,q1,q2,q6,q7,q8⟩:=ldS g3
  cases hty:tyE Ei e with
  | error g=>
   have hg:=tyE_err hty
   have hg':¬(g:Int)=0:=om
   have hfl:fltL (ckL E false l)=(g,line):=by rw[hck,hprev]; simp only[ckL,ckS,stT,hty]; rfl
   simp only[sA,sB,seval,tyO,ext_0,ext_1,t0,t1,t2,t3,t8,fldA,q8]
   refine (dcfail_spec rc3 om).mono ?_
   rintro _ H4 ⟨rc4,n4,k4⟩
   rw[failF_0 hg]at rc4
   have lg:oLoad false 1 H4 (cellR cb 2 0)=some (.int .i64 (g:Int)):=row_load rc4 rfl rfl
   simp only[sA,sB,seval,t0,t1,t2,t3,t8,nil_cell,fld0,lg,hg']
   exact⟨_,rfl,by rw[hfl]; exact rc4,FK.trans (F3.trans ⟨om,fun c _ h2=>k4 c h2⟩)⟩
  | ok t=>
   have ht2:=tyE_two D.sc hty
   simp only[sA,sB,seval,tyO,ext_0,ext_1,t0,t1,t2,t3,t8,fldA,q8]
   refine (dcfail_spec (f:=0) rc3 om).mono ?_
   rintro _ H4 ⟨rc4,n4,k4⟩
   rw[failF_n]at rc4
   have F4:Fp cb K H4:=F3.trans ⟨om,fun c _ h2=>k4 c h2⟩
   have g4:H4.get sb=H2.get sb:=(k4 sb om).trans g3
   have lg:oLoad false 1 H4 (cellR cb 2 0)=some (.int .i64 0):=row_load rc4 rfl rfl
   have ln4:LinM 1 H4 vn1 (nmL Ei) Ei.length:=D.ln.same om fun a j r e=>F4.old _ (D.ln.blk a j r e) (D.bn a j r e)
   have lk4:LinM 1 H4 vk1 (kdL Ei) Ei.length:=D.lk.same om fun a j r e=>F4.old _ (D.lk.blk a j r e) (D.bk a j r e)
   obtain⟨q0,q1,q2,q6,q7,q8⟩:=ldS g4
   simp only[sA,sB,seval,t0,t1,t2,t3,t8,nil_cell,fld0,fldA,lg,q1]
   refine (dfind_spec (LinM.cel1 ln4 ln4.blk).1 (LinM.cel1 lk4 lk4.blk).1 om).mono ?_
   rintro _ _ ⟨rfl,rfl⟩
   simp only[sW,sL,sXs,sXO,sXP,sB,seval,t0,t1,t2,t3,t8,fld0,q0]
   rw[aw_block]
   refine aw_cut (fun (U:Env) L=>U 0=cellR cb 2 0∧U 1=v∧U 8=.int .i64 (i:Int)∧U 9=cellR sb 9 0∧L.get sb=H2.get sb∧Fp cb K L∧H2.next≤L.next∧((∃g,headS Ei k s t=.error g∧Row L cb (flI (g,line)))∨(∃E',headS Ei k s t=.ok E'∧Row L cb (flI (0,0))∧∃vn2 vk2,U 2=vn2∧U 3=vk2∧LinM 1 L vn2 (nmL E') E'.length∧LinM 1 L vk2 (kdL E') E'.length∧Blk vn2 (·≠cb)∧Blk vk2 (·≠cb)))) (calls_mono _ _) ?_ ?_
   rotate_left
   ·rintro U L ⟨u0,u1,u8,u9,gs,FL,nL,ho⟩
    obtain⟨q0,q1,q2,q6,q7,q8⟩:=ldS gs
    have kmL:∀{L':AHeap},Fp cb K L'→∀b,(b<K.next∧b≠cb)→(b<L'.next∧b≠cb)∧L'.get b=K.get b:=fun F b hb=>⟨⟨by have:=F.next; omega,hb.2⟩,F.old b hb.1 hb.2⟩
    have lb:=y1.len
    have le:=y3.len
    have next:∀{L':AHeap} {g:FltI} {w1 w2:AVal},Fp cb K L'→Row L' cb (flI g)→g.1≠0→fltL (ckL E false l)=g→∃n',n'<l.length-i∧∃(i':Nat) (f:FltI) (vn1 vk1:AVal),n'=l.length-i'∧i'≤l.length∧cellR cb 2 0=cellR cb 2 0∧v=v∧w1=vn1∧w2=vk1∧AVal.int .i64 ((i+1:Nat):Int)=.int .i64 (i':Int)∧Row L' cb (flI f)∧Fp cb H L'∧((f.1≠0∧fltL (ckL E false l)=f)∨(f=(0,0)∧∃Ei,DSt l E cb H L' i' Ei vn1 vk1)):=fun F r h1 h2=>
     ⟨l.length-(i+1),om,i+1,_,_,_,rfl,om,rfl,rfl,rfl,rfl,rfl,r,FK.trans F,.inl ⟨h1,h2⟩⟩
    rcases ho with⟨g,hh,rL⟩ | ⟨E',hh,rL,vn2,vk2,u2,u3,ln2,lk2,bn2,bk2⟩
    ·have hg:g≠0:=headS_err hh
     have hfl:fltL (ckL E false l)=(g,line):=by rw[hck,hprev]; simp only[ckL,ckS,stT,hty,hh]; rfl
     simp only[sA,sB,seval,u0,u1,u8,u9,fldA,q6]
     refine (dcst_bad (x:=(g,line)) rL hg lb).mono ?_
     rintro _ _ rfl
     simp only[sA,sB,seval,u0,u1,u8,u9,fldA,q7]
     refine (dcst_bad (x:=(g,line)) rL hg le).mono ?_
     rintro _ _ rfl
     simp only[sA,sB,seval,u0,u1,u8,u9,wi]
     exact⟨l.length-(i+1),om,i+1,(g,line),_,_,rfl,om,tt,tt,rfl,rfl,tt,rL,FK.trans FL,.inl ⟨hg,hfl⟩⟩
    ·have hE':=headS_scp D.sc ht2 hh
     have hst:stT Ei k s e=.ok E':=by simp only[stT,hty]; exact hh
     have hln:=stT_len hst
     simp only[sA,sB,seval,u0,u1,u2,u3,u8,u9,fldA,q6]
     refine (ih (sizesS body) om rL rL om (y1.mono (kmL FL)) (y2.mono (kmL FL)) ln2 lk2 bn2 bk2 hokB om om hE' om).mono ?_
     rintro _ L2 ⟨rL2,FL2⟩
     have nL2:=FL2.next
     have gs2:L2.get sb=H2.get sb:=(FL2.old sb om om).trans gs
     have FK2:=FL.trans FL2
     obtain⟨q0,q1,q2,q6,q7,q8⟩:=ldS gs2
     cases hb:ckL E' false body with
     | error g=>
      rw[hb]at rL2
      have hg:=ckL_err hb
      have hfl:fltL (ckL E false l)=g:=by rw[hck,hprev]; simp only[ckL,ckS,hst,hb]; rfl
      simp only[sA,sB,seval,u0,u1,u2,u3,u8,u9,fldA,q7]
      refine (dcst_bad (x:=g) rL2 hg le).mono ?_
      rintro _ _ rfl
      simp only[sA,sB,seval,u0,u1,u2,u3,u8,u9,wi]
      exact⟨l.length-(i+1),om,i+1,g,_,_,rfl,om,tt,tt,rfl,rfl,tt,rL2,FK.trans FK2,.inl ⟨hg,hfl⟩⟩
     | ok Eb=>
      rw[hb]at rL2
      have ln3:LinM 1 L2 vn2 (nmL E') E'.length:=ln2.same om fun a j r e=>FL2.old _ (ln2.blk a j r e) (bn2 a j r e)
      have lk3:LinM 1 L2 vk2 (kdL E') E'.length:=lk2.same om fun a j r e=>FL2.old _ (lk2.blk a j r e) (bk2 a j r e)
      simp only[sA,sB,seval,u0,u1,u2,u3,u8,u9,fldA,q7]
      refine (ih (sizesS els) om rL rL2 om (y3.mono (kmL FK2)) (y4.mono (kmL FK2)) ln3 lk3 bn2 bk2 hokL om om hE' om).mono ?_
      rintro _ L3 ⟨rL3,FL3⟩
      have FK3:=FK2.trans FL3
      have nL3:=FL3.next
      simp only[sA,sB,seval,u0,u1,u2,u3,u8,u9,wi]
      cases hl2:ckL E' false els with
      | error g=>
       rw[hl2]at rL3
       have hg:=ckL_err hl2
       have hfl:fltL (ckL E false l)=g:=by rw[hck,hprev]; simp only[ckL,ckS,hst,hb,hl2]; rfl
       exact⟨l.length-(i+1),om,i+1,g,_,_,rfl,om,tt,tt,rfl,rfl,tt,rL3,FK.trans FK3,.inl ⟨hg,hfl⟩⟩
      | ok El=>
       rw[hl2]at rL3
       have hnx:prevR l (i+1)=decide (k=5):=by simp only[prevR,he]; rfl
       exact⟨l.length-(i+1),om,i+1,(0,0),_,_,rfl,om,tt,tt,rfl,rfl,tt,rL3,FK.trans FK3,.inr ⟨rfl,E',by rw[hck,hprev,hnx]; simp only[ckL,ckS,hst,hb,hl2]; rfl,
        ln3.same om fun a j r e=>FL3.old _ (ln3.blk a j r e) (bn2 a j r e),lk3.same om fun a j r e=>FL3.old _ (lk3.blk a j r e) (bk2 a j r e),bn2,bk2,hE',by rw[hts,sizesS_app]; simp only[sizesS]; omega⟩⟩
   ·have keepS:∀{L:AHeap},(∀c,c≠cb→L.get c=H4.get c)→L.next=H4.next→LinM 1 L vn1 (nmL Ei) Ei.length∧LinM 1 L vk1 (kdL Ei) Ei.length:=fun h hn=>⟨ln4.same om (D.bn.mono fun c hc=>h c hc),lk4.same om (D.bk.mono fun c hc=>h c hc)⟩
    have bad:∀{L:AHeap} {g:Nat},(∀c,c≠cb→L.get c=H4.get c)→L.next=H4.next→L.get sb=H2.get sb∧Fp cb K L∧H2.next≤L.next:=fun h hn=>⟨(h sb om).trans g4,F4.trans ⟨om,fun c _ h2=>h c h2⟩,om⟩
    rcases hk5 with rfl | rfl | rfl | rfl | rfl
    ·by_cases hin:firstI s Ei=none
     ·have h0:((fndT s Ei:Nat):Int)=0:=by rw[(fnd_0 D.sc).2 hin]; rfl
      have hh:headS Ei 1 s t=.ok (Ei++[(s,t)]):=by simp only[headS,if_true]; rw[if_neg (firstI_none.1 hin)]
      have lnJ:=ln4
      have lkJ:=lk4
      have gJ:=g4
      have FJ:=F4
      have rJ:=rc4
      simp only[sA,sB,seval,t0,t1,t2,t3,t8,Int.cast_ofNat_Int,kdA,h0,fldA,q8]
      obtain⟨Jr,hJr⟩:∃X,X=(H4.push (.cells [] 0 false)).push (.cells [] 0 false):=⟨_,rfl⟩
      obtain⟨A2,v1,A3,A4,v2,A5,w1,A6,w2,A7,fl1,a3,fl2,a5,a6,a7,ap1,ap2,kr,kq,ks,M1,M2,bm1,bm2,EJ⟩:=dsc_let lnJ lkJ hJr s t om
      have s1r:=(ldS (L:=Jr) ((kr sb om).trans gJ)).2.1
      have s12:=(ldS (L:=A2) ((kq sb om).trans gJ)).2.1
      have s13:=(ldS (L:=A3) ((ks sb om).trans gJ)).2.1
      have apN:∀{x:AVal},(∀c,blkOf x=some c→H4.next+1≠c)→aPf .apart [.slice (some ⟨H4.next+1,1,0⟩) 1 (.known 1),x]=some (.bool true):=fun h=>apart_any (apB_blk _ h)
      have p1:=apN (x:=.slice (some ⟨H4.next,0,0⟩) 0 (.known 0)) fun c hc=>by simp only[blkOf,sJ]at hc; omega
      have p2:=apN (x:=vn1) ap1
      have p3:=apN (x:=v1) ap2
      have b0:aBuildSl 0 [.int .u8 0] A5 []=some (.slice (some ⟨A5.next,0,0⟩) 0 (.known 0),A5.push (.cells [] 0 false)):=rfl
      have b1:aBuildSl 1 [.int .u8 0] A6 [(0,1,.int .u8 (t:Int))]=some (.slice (some ⟨A6.next,1,0⟩) 1 (.known 1),A6.push (.cells [kdA t] 0 false)):=rfl
      refine aw_drawN ?_
      simp only[claims,newOf,reserves,resO_0,clOp_fill,← hJr]
      simp only[sR,sA,sB,seval,t0,t1,t2,t3,t8,fldA,fl1,a3,s13,fl2,a5]
      simp only[ck_nil',ck_cons,ckP_load,ckP_claim,ckP_nil,ck_end,and_true,true_and,List.map_cons,List.map_nil,sA,sB,seval,t0,t1,t2,t3,t8,fldA]
      refine⟨⟨⟨_,rfl,fun _=>⟨_,s1r,by simp[aeq]⟩⟩,⟨_,rfl,fun _=>⟨_,s12,by simp[aeq]⟩⟩⟩,?_⟩
      simp only[sA,sB,seval,t0,t1,t2,t3,t8,p1,p2,p3,b0,a6,b1,a7]
      exact⟨tt,tt,tt,tt,(EJ.old sb om).trans gJ,FJ.trans ⟨EJ.next,fun c h1 _=>EJ.old c h1⟩,by have:=EJ.next; omega,.inr ⟨_,hh,rJ.same (EJ.old cb om),v2,w2,tt,tt,M1,M2,bm1.mono fun c hc=>om,bm2.mono fun c hc=>om⟩⟩
     ·have h0:¬((fndT s Ei:Nat):Int)=0:=by
       have:=mt (fnd_0 D.sc).1 hin
       omega
      have hh:headS Ei 1 s t=.error 110:=by
       simp only[headS,if_true]
       rw[if_pos (Classical.byContradiction fun q=>hin (firstI_none.2 q))]
      simp only[sA,sB,seval,t0,t1,t2,t3,t8,Int.cast_ofNat_Int,kdA,h0,fldA,q8]
      refine (dcfail_spec (f:=110) rc4 om).mono ?_
      rintro _ H5 ⟨rJ,n5,k5⟩
      rw[failF_0 dD]at rJ
      obtain⟨lnJ,lkJ⟩:=keepS k5 n5
      obtain⟨gJ,FJ,_⟩:=bad (g:=0) k5 n5
      simp only[sA,sB,seval,t0,t1,t2,t3,t8]
      obtain⟨Jr,hJr⟩:∃X,X=(H5.push (.cells [] 0 false)).push (.cells [] 0 false):=⟨_,rfl⟩
      obtain⟨A2,v1,A3,A4,v2,A5,w1,A6,w2,A7,fl1,a3,fl2,a5,a6,a7,ap1,ap2,kr,kq,ks,M1,M2,bm1,bm2,EJ⟩:=dsc_let lnJ lkJ hJr s t om
      have s1r:=(ldS (L:=Jr) ((kr sb om).trans gJ)).2.1
      have s12:=(ldS (L:=A2) ((kq sb om).trans gJ)).2.1
      have s13:=(ldS (L:=A3) ((ks sb om).trans gJ)).2.1
      have apN:∀{x:AVal},(∀c,blkOf x=some c→H5.next+1≠c)→aPf .apart [.slice (some ⟨H5.next+1,1,0⟩) 1 (.known 1),x]=some (.bool true):=fun h=>apart_any (apB_blk _ h)
      have p1:=apN (x:=.slice (some ⟨H5.next,0,0⟩) 0 (.known 0)) fun c hc=>by simp only[blkOf,sJ]at hc; omega
      have p2:=apN (x:=vn1) ap1
      have p3:=apN (x:=v1) ap2
      have b0:aBuildSl 0 [.int .u8 0] A5 []=some (.slice (some ⟨A5.next,0,0⟩) 0 (.known 0),A5.push (.cells [] 0 false)):=rfl
      have b1:aBuildSl 1 [.int .u8 0] A6 [(0,1,.int .u8 (t:Int))]=some (.slice (some ⟨A6.next,1,0⟩) 1 (.known 1),A6.push (.cells [kdA t] 0 false)):=rfl
      refine aw_drawN ?_
      simp only[claims,newOf,reserves,resO_0,clOp_fill,← hJr]
      simp only[sR,sA,sB,seval,t0,t1,t2,t3,t8,fldA,fl1,a3,s13,fl2,a5]
      simp only[ck_nil',ck_cons,ckP_load,ckP_claim,ckP_nil,ck_end,and_true,true_and,List.map_cons,List.map_nil,sA,sB,seval,t0,t1,t2,t3,t8,fldA]
      refine⟨⟨⟨_,rfl,fun _=>⟨_,s1r,by simp[aeq]⟩⟩,⟨_,rfl,fun _=>⟨_,s12,by simp[aeq]⟩⟩⟩,?_⟩
      simp only[sA,sB,seval,t0,t1,t2,t3,t8,p1,p2,p3,b0,a6,b1,a7]
      exact⟨tt,tt,tt,tt,(EJ.old sb om).trans gJ,FJ.trans ⟨EJ.next,fun c h1 _=>EJ.old c h1⟩,by have:=EJ.next; omega,.inl ⟨110,hh,rJ.same (EJ.old cb om)⟩⟩
    ·obtain⟨Hq,hHq⟩:∃X,X=H4.push (.cells (nm4.map .str) 0 false):=⟨_,rfl⟩
     have Eq:Ext H4.next H4 Hq:=by rw[hHq]; exact⟨by show _≤H4.next+1; omega,fun c hc=>get_push_lt hc⟩
     have nq:Hq.next=H4.next+1:=by rw[hHq]; rfl
     have bq:aBuildSl 4 [.str []] H4 [(0,1,.str [117]),(1,1,.str [118]),(2,1,.str [112]),(3,1,.str [110])]=some (.slice (some ⟨H4.next,4,0⟩) 4 (.known 4),Hq):=by rw[hHq]; rfl
     have cq:Cel (H4.next+1) Hq (.slice (some ⟨H4.next,4,0⟩) 4 (.known 4)) (nm4.map .str):=by rw[hHq]; exact bs_celA (xs:=nm4.map .str)
     cases hin:firstI s Ei with
     | none=>
      have h0:((fndT s Ei:Nat):Int)=0:=by rw[(fnd_0 D.sc).2 hin]; rfl
      have hh:headS Ei 2 s t=.error 110:=by simp only[headS,hin]; rfl
      simp only[sA,sB,seval,t0,t1,t2,t3,t8,Int.cast_ofNat_Int,kdA,h0,fldA,q8]
      refine (dcfail_spec (f:=110) rc4 om).mono ?_
      rintro _ H5 ⟨rJ,n5,k5⟩
      rw[failF_0 dD]at rJ
      obtain⟨gJ,FJ,nJ⟩:=bad (g:=0) k5 n5
      simp only[sA,sB,seval,t0,t1,t2,t3,t8]
      exact⟨tt,tt,tt,tt,gJ,FJ,nJ,.inl ⟨110,hh,rJ⟩⟩
     | some n=>
      have h0:¬((fndT s Ei:Nat):Int)=0:=by
       have:=mt (fnd_0 D.sc).1 (by rw[hin]; simp)
       omega
      have hei:=fnd_some hin
      have h4i:=nm4_iff D.sc hin
      have rq:=rc4.same (Eq.old cb om)
      simp only[sA,sB,seval,t0,t1,t2,t3,t8,Int.cast_ofNat_Int,kdA,h0,fldA,q1,bq]
      refine (dhas_spec cq dD).mono ?_
      rintro _ _ ⟨rfl,rfl⟩
      by_cases h4:n<4
      ·have hd:decide (s∈nm4)=true:=decide_eq_true (h4i.2 h4)
       have hh:headS Ei 2 s t=.error 110:=by simp only[headS,hin,if_pos h4]; rfl
       obtain⟨q0,q1,q2,q6,q7,q8⟩:=ldS (L:=Hq) ((Eq.old sb om).trans g4)
       simp only[sA,sB,seval,t0,t1,t2,t3,t8,hd,fldA,q8]
       refine (dcfail_spec (f:=110) rq om).mono ?_
       rintro _ H5 ⟨rJ,n5,k5⟩
       rw[failF_0 dD]at rJ
       simp only[sA,sB,seval,t0,t1,t2,t3,t8]
       exact⟨tt,tt,tt,tt,by rw[k5 sb om,Eq.old sb om,g4],F4.trans ⟨om,fun c h1 h2=>by rw[k5 c h2,Eq.old c h1]⟩,om,.inl ⟨110,hh,rJ⟩⟩
      ·have hd:decide (s∈nm4)=false:=decide_eq_false (mt h4i.1 h4)
       by_cases hkt:fndT s Ei=t
       ·have hkt':((fndT s Ei:Nat):Int)=(t:Int):=om
        have hh:headS Ei 2 s t=.ok Ei:=by simp only[headS,hin,if_neg h4,hei,if_pos hkt]; rfl
        simp only[sA,sB,seval,t0,t1,t2,t3,t8,hd,hkt']
        exact⟨tt,tt,tt,tt,by rw[Eq.old sb om,g4],F4.trans ⟨om,fun c h1 _=>Eq.old c h1⟩,om,.inr ⟨_,hh,rq,vn1,vk1,tt,tt,ln4.same om (ln4.blk.mono fun c hc=>Eq.old c hc),lk4.same om (lk4.blk.mono fun c hc=>Eq.old c hc),D.bn,D.bk⟩⟩
       ·have hkt':¬((fndT s Ei:Nat):Int)=(t:Int):=om
        have hh:headS Ei 2 s t=.error 111:=by simp only[headS,hin,if_neg h4,hei,if_neg hkt]; rfl
        obtain⟨q0,q1,q2,q6,q7,q8⟩:=ldS (L:=Hq) ((Eq.old sb om).trans g4)
        simp only[sA,sB,seval,t0,t1,t2,t3,t8,hd,hkt',fldA,q8]
        refine (dcfail_spec (f:=111) rq om).mono ?_
        rintro _ H5 ⟨rJ,n5,k5⟩
        rw[failF_0 dD]at rJ
        simp only[sA,sB,seval,t0,t1,t2,t3,t8]
        exact⟨tt,tt,tt,tt,by rw[k5 sb om,Eq.old sb om,g4],F4.trans ⟨om,fun c h1 h2=>by rw[k5 c h2,Eq.old c h1]⟩,om,.inl ⟨111,hh,rJ⟩⟩
    ·rcases ht2 with rfl | rfl
     ·have hh:headS Ei 3 s 1=.ok Ei:=rfl
      simp only[sA,sB,seval,t0,t1,t2,t3,t8,Int.cast_ofNat_Int,kdA]
      exact⟨tt,tt,tt,tt,g4,F4,om,.inr ⟨_,hh,rc4,vn1,vk1,tt,tt,ln4,lk4,D.bn,D.bk⟩⟩
     ·have hh:headS Ei 3 s 2=.error 111:=rfl
      simp only[sA,sB,seval,t0,t1,t2,t3,t8,Int.cast_ofNat_Int,kdA,fldA,q8]
      refine (dcfail_spec (f:=111) rc4 om).mono ?_
      rintro _ H5 ⟨rJ,n5,k5⟩
      rw[failF_0 dD]at rJ
      obtain⟨gJ,FJ,nJ⟩:=bad (g:=0) k5 n5
      simp only[sA,sB,seval,t0,t1,t2,t3,t8]
      exact⟨tt,tt,tt,tt,gJ,FJ,nJ,.inl ⟨111,hh,rJ⟩⟩
    ·rcases ht2 with rfl | rfl
     ·have hh:headS Ei 4 s 1=.ok Ei:=rfl
      simp only[sA,sB,seval,t0,t1,t2,t3,t8,Int.cast_ofNat_Int,kdA]
      exact⟨tt,tt,tt,tt,g4,F4,om,.inr ⟨_,hh,rc4,vn1,vk1,tt,tt,ln4,lk4,D.bn,D.bk⟩⟩
     ·have hh:headS Ei 4 s 2=.error 111:=rfl
      simp only[sA,sB,seval,t0,t1,t2,t3,t8,Int.cast_ofNat_Int,kdA,fldA,q8]
      refine (dcfail_spec (f:=111) rc4 om).mono ?_
      rintro _ H5 ⟨rJ,n5,k5⟩
      rw[failF_0 dD]at rJ
      obtain⟨gJ,FJ,nJ⟩:=bad (g:=0) k5 n5
      simp only[sA,sB,seval,t0,t1,t2,t3,t8]
      exact⟨tt,tt,tt,tt,gJ,FJ,nJ,.inl ⟨111,hh,rJ⟩⟩
    ·rcases ht2 with rfl | rfl
     ·have hh:headS Ei 5 s 1=.error 111:=rfl
      simp only[sA,sB,seval,t0,t1,t2,t3,t8,Int.cast_ofNat_Int,kdA,fldA,q8]
      refine (dcfail_spec (f:=111) rc4 om).mono ?_
      rintro _ H5 ⟨rJ,n5,k5⟩
      rw[failF_0 dD]at rJ
      obtain⟨gJ,FJ,nJ⟩:=bad (g:=0) k5 n5
      simp only[sA,sB,seval,t0,t1,t2,t3,t8]
      exact⟨tt,tt,tt,tt,gJ,FJ,nJ,.inl ⟨111,hh,rJ⟩⟩
     ·have hh:headS Ei 5 s 2=.ok Ei:=rfl
      simp only[sA,sB,seval,t0,t1,t2,t3,t8,Int.cast_ofNat_Int,kdA]
      exact⟨tt,tt,tt,tt,g4,F4,om,.inr ⟨_,hh,rc4,vn1,vk1,tt,tt,ln4,lk4,D.bn,D.bk⟩⟩
 ·have h0:(0:Int)<(i:Int):=om
  obtain⟨y,hy⟩:∃y,l[i-1]?=some y:=⟨_,List.getElem?_eq_getElem om⟩
  have z12:=z1.mono (km F2)
  have z22:=z2.mono (km F2)
  have wj:IntKind.i64.wrap ((i:Int)-1)=((i-1:Nat):Int):=w64
  have ixy:=z12.idx (i:=i-1) om
  have pty:=z12.pt (i:=i-1) om
  have hxy:=z22.at hy
  have hpr:prevR l i=decide (y.kind=5):=by
   rw[show i=(i-1)+1 by omega]
   simp only[prevR,hy]
  obtain⟨ky,sy,ey,by_,ly,ny⟩:=y
  obtain⟨cy,vby,Cby,vey,Cey,hcy,_⟩:=hxy
  rw[hcy]at pty
  have f0y:=pty.fld0
  have l0y:oLoad false 1 H2 (placeK 9 v (i-1))=some (.int .u8 (ky:Int)):=pty.load0 rfl
  have hkd:(St.mk ky sy ey by_ ly ny).kind=ky:=rfl
  rw[hkd]at hpr
  by_cases h5:ky=5
  ·have h5':(ky:Int)=5:=om
   have hprev:prevR l i=true:=by rw[hpr]; exact decide_eq_true h5
   have hfl:fltL (ckL E false l)=(113,line):=by rw[hck,hprev]; rfl
   simp only[sA,sB,seval,t0,t1,t2,t3,t8,lv,hlt',nil_cell,fld0,lf0,ix,ld,m1,m2',h0,wj,ixy,f0y,l0y,h5',fldA,q8]
   refine (dcfail_spec (f:=113) rc2 om).mono ?_
   rintro _ H5 ⟨rJ,n5,k5⟩
   rw[failF_0 dD]at rJ
   simp only[sA,sB,seval]
   exact⟨_,rfl,by rw[hfl]; exact rJ,F2.trans ⟨om,fun c _ h2=>k5 c h2⟩⟩
  have h5':¬(ky:Int)=5:=om
  have hprev:prevR l i=false:=by rw[hpr]; exact decide_eq_false h5
  simp only[sA,sB,seval,t0,t1,t2,t3,t8,lv,hlt',nil_cell,fld0,lf0,ix,ld,m1,m2',h0,wj,ixy,f0y,l0y,h5',fldA,q2]
  refine (dofx_spec D.sc om (x1.mono fun b hb=>⟨om,E2.old b hb.1⟩) cn2 ck2 om om).mono ?_
  rintro _ H3 ⟨rfl,E3⟩
  have e3:=E3.next
  have rc3:=rc2.same (E3.old cb om)
  have F3:Fp cb K H3:=⟨om,fun c h1 _=>by rw[E3.old c om,E2.old c h1]⟩
  have g3:=E3.old sb om
  obtain⟨q0,q1,q2,q6,q7,q8⟩:=ldS g3
  cases hty:tyE Ei e with
  | error g=>
   have hg:=tyE_err hty
   have hg':¬(g:Int)=0:=om
   have hfl:fltL (ckL E false l)=(g,line):=by rw[hck,hprev]; simp only[ckL,ckS,stT,hty]; rfl
   simp only[sA,sB,seval,tyO,ext_0,ext_1,t0,t1,t2,t3,t8,fldA,q8]
   refine (dcfail_spec rc3 om).mono ?_
   rintro _ H4 ⟨rc4,n4,k4⟩
   rw[failF_0 hg]at rc4
   have lg:oLoad false 1 H4 (cellR cb 2 0)=some (.int .i64 (g:Int)):=row_load rc4 rfl rfl
   simp only[sA,sB,seval,t0,t1,t2,t3,t8,nil_cell,fld0,lg,hg']
   exact⟨_,rfl,by rw[hfl]; exact rc4,FK.trans (F3.trans ⟨om,fun c _ h2=>k4 c h2⟩)⟩
  | ok t=>
   have ht2:=tyE_two D.sc hty
   simp only[sA,sB,seval,tyO,ext_0,ext_1,t0,t1,t2,t3,t8,fldA,q8]
   refine (dcfail_spec (f:=0) rc3 om).mono ?_
   rintro _ H4 ⟨rc4,n4,k4⟩
   rw[failF_n]at rc4
   have F4:Fp cb K H4:=F3.trans ⟨om,fun c _ h2=>k4 c h2⟩
   have g4:H4.get sb=H2.get sb:=(k4 sb om).trans g3
   have lg:oLoad false 1 H4 (cellR cb 2 0)=some (.int .i64 0):=row_load rc4 rfl rfl
   have ln4:LinM 1 H4 vn1 (nmL Ei) Ei.length:=D.ln.same om fun a j r e=>F4.old _ (D.ln.blk a j r e) (D.bn a j r e)
   have lk4:LinM 1 H4 vk1 (kdL Ei) Ei.length:=D.lk.same om fun a j r e=>F4.old _ (D.lk.blk a j r e) (D.bk a j r e)
   obtain⟨q0,q1,q2,q6,q7,q8⟩:=ldS g4
   simp only[sA,sB,seval,t0,t1,t2,t3,t8,nil_cell,fld0,fldA,lg,q1]
   refine (dfind_spec (LinM.cel1 ln4 ln4.blk).1 (LinM.cel1 lk4 lk4.blk).1 om).mono ?_
   rintro _ _ ⟨rfl,rfl⟩
   simp only[sW,sL,sXs,sXO,sXP,sB,seval,t0,t1,t2,t3,t8,fld0,q0]
   rw[aw_block]
   refine aw_cut (fun (U:Env) L=>U 0=cellR cb 2 0∧U 1=v∧U 8=.int .i64 (i:Int)∧U 9=cellR sb 9 0∧L.get sb=H2.get sb∧Fp cb K L∧H2.next≤L.next∧((∃g,headS Ei k s t=.error g∧Row L cb (flI (g,line)))∨(∃E',headS Ei k s t=.ok E'∧Row L cb (flI (0,0))∧∃vn2 vk2,U 2=vn2∧U 3=vk2∧LinM 1 L vn2 (nmL E') E'.length∧LinM 1 L vk2 (kdL E') E'.length∧Blk vn2 (·≠cb)∧Blk vk2 (·≠cb)))) (calls_mono _ _) ?_ ?_
   rotate_left
   ·rintro U L ⟨u0,u1,u8,u9,gs,FL,nL,ho⟩
    obtain⟨q0,q1,q2,q6,q7,q8⟩:=ldS gs
    have kmL:∀{L':AHeap},Fp cb K L'→∀b,(b<K.next∧b≠cb)→(b<L'.next∧b≠cb)∧L'.get b=K.get b:=fun F b hb=>⟨⟨by have:=F.next; omega,hb.2⟩,F.old b hb.1 hb.2⟩
    have lb:=y1.len
    have le:=y3.len
    have next:∀{L':AHeap} {g:FltI} {w1 w2:AVal},Fp cb K L'→Row L' cb (flI g)→g.1≠0→fltL (ckL E false l)=g→∃n',n'<l.length-i∧∃(i':Nat) (f:FltI) (vn1 vk1:AVal),n'=l.length-i'∧i'≤l.length∧cellR cb 2 0=cellR cb 2 0∧v=v∧w1=vn1∧w2=vk1∧AVal.int .i64 ((i+1:Nat):Int)=.int .i64 (i':Int)∧Row L' cb (flI f)∧Fp cb H L'∧((f.1≠0∧fltL (ckL E false l)=f)∨(f=(0,0)∧∃Ei,DSt l E cb H L' i' Ei vn1 vk1)):=fun F r h1 h2=>
     ⟨l.length-(i+1),om,i+1,_,_,_,rfl,om,rfl,rfl,rfl,rfl,rfl,r,FK.trans F,.inl ⟨h1,h2⟩⟩
    rcases ho with⟨g,hh,rL⟩ | ⟨E',hh,rL,vn2,vk2,u2,u3,ln2,lk2,bn2,bk2⟩
    ·have hg:g≠0:=headS_err hh
     have hfl:fltL (ckL E false l)=(g,line):=by rw[hck,hprev]; simp only[ckL,ckS,stT,hty,hh]; rfl
     simp only[sA,sB,seval,u0,u1,u8,u9,fldA,q6]
     refine (dcst_bad (x:=(g,line)) rL hg lb).mono ?_
     rintro _ _ rfl
     simp only[sA,sB,seval,u0,u1,u8,u9,fldA,q7]
     refine (dcst_bad (x:=(g,line)) rL hg le).mono ?_
     rintro _ _ rfl
     simp only[sA,sB,seval,u0,u1,u8,u9,wi]
     exact⟨l.length-(i+1),om,i+1,(g,line),_,_,rfl,om,tt,tt,rfl,rfl,tt,rL,FK.trans FL,.inl ⟨hg,hfl⟩⟩
    ·have hE':=headS_scp D.sc ht2 hh
     have hst:stT Ei k s e=.ok E':=by simp only[stT,hty]; exact hh
     have hln:=stT_len hst
     simp only[sA,sB,seval,u0,u1,u2,u3,u8,u9,fldA,q6]
     refine (ih (sizesS body) om rL rL om (y1.mono (kmL FL)) (y2.mono (kmL FL)) ln2 lk2 bn2 bk2 hokB om om hE' om).mono ?_
     rintro _ L2 ⟨rL2,FL2⟩
     have nL2:=FL2.next
     have gs2:L2.get sb=H2.get sb:=(FL2.old sb om om).trans gs
     have FK2:=FL.trans FL2
     obtain⟨q0,q1,q2,q6,q7,q8⟩:=ldS gs2
     cases hb:ckL E' false body with
     | error g=>
      rw[hb]at rL2
      have hg:=ckL_err hb
      have hfl:fltL (ckL E false l)=g:=by rw[hck,hprev]; simp only[ckL,ckS,hst,hb]; rfl
      simp only[sA,sB,seval,u0,u1,u2,u3,u8,u9,fldA,q7]
      refine (dcst_bad (x:=g) rL2 hg le).mono ?_
      rintro _ _ rfl
      simp only[sA,sB,seval,u0,u1,u2,u3,u8,u9,wi]
      exact⟨l.length-(i+1),om,i+1,g,_,_,rfl,om,tt,tt,rfl,rfl,tt,rL2,FK.trans FK2,.inl ⟨hg,hfl⟩⟩
     | ok Eb=>
      rw[hb]at rL2
      have ln3:LinM 1 L2 vn2 (nmL E') E'.length:=ln2.same om fun a j r e=>FL2.old _ (ln2.blk a j r e) (bn2 a j r e)
      have lk3:LinM 1 L2 vk2 (kdL E') E'.length:=lk2.same om fun a j r e=>FL2.old _ (lk2.blk a j r e) (bk2 a j r e)
      simp only[sA,sB,seval,u0,u1,u2,u3,u8,u9,fldA,q7]
      refine (ih (sizesS els) om rL rL2 om (y3.mono (kmL FK2)) (y4.mono (kmL FK2)) ln3 lk3 bn2 bk2 hokL om om hE' om).mono ?_
      rintro _ L3 ⟨rL3,FL3⟩
      have FK3:=FK2.trans FL3
      have nL3:=FL3.next
      simp only[sA,sB,seval,u0,u1,u2,u3,u8,u9,wi]
      cases hl2:ckL E' false els with
      | error g=>
       rw[hl2]at rL3
       have hg:=ckL_err hl2
       have hfl:fltL (ckL E false l)=g:=by rw[hck,hprev]; simp only[ckL,ckS,hst,hb,hl2]; rfl
       exact⟨l.length-(i+1),om,i+1,g,_,_,rfl,om,tt,tt,rfl,rfl,tt,rL3,FK.trans FK3,.inl ⟨hg,hfl⟩⟩
      | ok El=>
       rw[hl2]at rL3
       have hnx:prevR l (i+1)=decide (k=5):=by simp only[prevR,he]; rfl
       exact⟨l.length-(i+1),om,i+1,(0,0),_,_,rfl,om,tt,tt,rfl,rfl,tt,rL3,FK.trans FK3,.inr ⟨rfl,E',by rw[hck,hprev,hnx]; simp only[ckL,ckS,hst,hb,hl2]; rfl,
        ln3.same om fun a j r e=>FL3.old _ (ln3.blk a j r e) (bn2 a j r e),lk3.same om fun a j r e=>FL3.old _ (lk3.blk a j r e) (bk2 a j r e),bn2,bk2,hE',by rw[hts,sizesS_app]; simp only[sizesS]; omega⟩⟩
   ·have keepS:∀{L:AHeap},(∀c,c≠cb→L.get c=H4.get c)→L.next=H4.next→LinM 1 L vn1 (nmL Ei) Ei.length∧LinM 1 L vk1 (kdL Ei) Ei.length:=fun h hn=>⟨ln4.same om (D.bn.mono fun c hc=>h c hc),lk4.same om (D.bk.mono fun c hc=>h c hc)⟩
    have bad:∀{L:AHeap} {g:Nat},(∀c,c≠cb→L.get c=H4.get c)→L.next=H4.next→L.get sb=H2.get sb∧Fp cb K L∧H2.next≤L.next:=fun h hn=>⟨(h sb om).trans g4,F4.trans ⟨om,fun c _ h2=>h c h2⟩,om⟩
    rcases hk5 with rfl | rfl | rfl | rfl | rfl
    ·by_cases hin:firstI s Ei=none
     ·have h0:((fndT s Ei:Nat):Int)=0:=by rw[(fnd_0 D.sc).2 hin]; rfl
      have hh:headS Ei 1 s t=.ok (Ei++[(s,t)]):=by simp only[headS,if_true]; rw[if_neg (firstI_none.1 hin)]
      have lnJ:=ln4
      have lkJ:=lk4
      have gJ:=g4
      have FJ:=F4
      have rJ:=rc4
      simp only[sA,sB,seval,t0,t1,t2,t3,t8,Int.cast_ofNat_Int,kdA,h0,fldA,q8]
      obtain⟨Jr,hJr⟩:∃X,X=(H4.push (.cells [] 0 false)).push (.cells [] 0 false):=⟨_,rfl⟩
      obtain⟨A2,v1,A3,A4,v2,A5,w1,A6,w2,A7,fl1,a3,fl2,a5,a6,a7,ap1,ap2,kr,kq,ks,M1,M2,bm1,bm2,EJ⟩:=dsc_let lnJ lkJ hJr s t om
      have s1r:=(ldS (L:=Jr) ((kr sb om).trans gJ)).2.1
      have s12:=(ldS (L:=A2) ((kq sb om).trans gJ)).2.1
      have s13:=(ldS (L:=A3) ((ks sb om).trans gJ)).2.1
      have apN:∀{x:AVal},(∀c,blkOf x=some c→H4.next+1≠c)→aPf .apart [.slice (some ⟨H4.next+1,1,0⟩) 1 (.known 1),x]=some (.bool true):=fun h=>apart_any (apB_blk _ h)
      have p1:=apN (x:=.slice (some ⟨H4.next,0,0⟩) 0 (.known 0)) fun c hc=>by simp only[blkOf,sJ]at hc; omega
      have p2:=apN (x:=vn1) ap1
      have p3:=apN (x:=v1) ap2
      have b0:aBuildSl 0 [.int .u8 0] A5 []=some (.slice (some ⟨A5.next,0,0⟩) 0 (.known 0),A5.push (.cells [] 0 false)):=rfl
      have b1:aBuildSl 1 [.int .u8 0] A6 [(0,1,.int .u8 (t:Int))]=some (.slice (some ⟨A6.next,1,0⟩) 1 (.known 1),A6.push (.cells [kdA t] 0 false)):=rfl
      refine aw_drawN ?_
      simp only[claims,newOf,reserves,resO_0,clOp_fill,← hJr]
      simp only[sR,sA,sB,seval,t0,t1,t2,t3,t8,fldA,fl1,a3,s13,fl2,a5]
      simp only[ck_nil',ck_cons,ckP_load,ckP_claim,ckP_nil,ck_end,and_true,true_and,List.map_cons,List.map_nil,sA,sB,seval,t0,t1,t2,t3,t8,fldA]
      refine⟨⟨⟨_,rfl,fun _=>⟨_,s1r,by simp[aeq]⟩⟩,⟨_,rfl,fun _=>⟨_,s12,by simp[aeq]⟩⟩⟩,?_⟩
      simp only[sA,sB,seval,t0,t1,t2,t3,t8,p1,p2,p3,b0,a6,b1,a7]
      exact⟨tt,tt,tt,tt,(EJ.old sb om).trans gJ,FJ.trans ⟨EJ.next,fun c h1 _=>EJ.old c h1⟩,by have:=EJ.next; omega,.inr ⟨_,hh,rJ.same (EJ.old cb om),v2,w2,tt,tt,M1,M2,bm1.mono fun c hc=>om,bm2.mono fun c hc=>om⟩⟩
     ·have h0:¬((fndT s Ei:Nat):Int)=0:=by
       have:=mt (fnd_0 D.sc).1 hin
       omega
      have hh:headS Ei 1 s t=.error 110:=by
       simp only[headS,if_true]
       rw[if_pos (Classical.byContradiction fun q=>hin (firstI_none.2 q))]
      simp only[sA,sB,seval,t0,t1,t2,t3,t8,Int.cast_ofNat_Int,kdA,h0,fldA,q8]
      refine (dcfail_spec (f:=110) rc4 om).mono ?_
      rintro _ H5 ⟨rJ,n5,k5⟩
      rw[failF_0 dD]at rJ
      obtain⟨lnJ,lkJ⟩:=keepS k5 n5
      obtain⟨gJ,FJ,_⟩:=bad (g:=0) k5 n5
      simp only[sA,sB,seval,t0,t1,t2,t3,t8]
      obtain⟨Jr,hJr⟩:∃X,X=(H5.push (.cells [] 0 false)).push (.cells [] 0 false):=⟨_,rfl⟩
      obtain⟨A2,v1,A3,A4,v2,A5,w1,A6,w2,A7,fl1,a3,fl2,a5,a6,a7,ap1,ap2,kr,kq,ks,M1,M2,bm1,bm2,EJ⟩:=dsc_let lnJ lkJ hJr s t om
      have s1r:=(ldS (L:=Jr) ((kr sb om).trans gJ)).2.1
      have s12:=(ldS (L:=A2) ((kq sb om).trans gJ)).2.1
      have s13:=(ldS (L:=A3) ((ks sb om).trans gJ)).2.1
      have apN:∀{x:AVal},(∀c,blkOf x=some c→H5.next+1≠c)→aPf .apart [.slice (some ⟨H5.next+1,1,0⟩) 1 (.known 1),x]=some (.bool true):=fun h=>apart_any (apB_blk _ h)
      have p1:=apN (x:=.slice (some ⟨H5.next,0,0⟩) 0 (.known 0)) fun c hc=>by simp only[blkOf,sJ]at hc; omega
      have p2:=apN (x:=vn1) ap1
      have p3:=apN (x:=v1) ap2
      have b0:aBuildSl 0 [.int .u8 0] A5 []=some (.slice (some ⟨A5.next,0,0⟩) 0 (.known 0),A5.push (.cells [] 0 false)):=rfl
      have b1:aBuildSl 1 [.int .u8 0] A6 [(0,1,.int .u8 (t:Int))]=some (.slice (some ⟨A6.next,1,0⟩) 1 (.known 1),A6.push (.cells [kdA t] 0 false)):=rfl
      refine aw_drawN ?_
      simp only[claims,newOf,reserves,resO_0,clOp_fill,← hJr]
      simp only[sR,sA,sB,seval,t0,t1,t2,t3,t8,fldA,fl1,a3,s13,fl2,a5]
      simp only[ck_nil',ck_cons,ckP_load,ckP_claim,ckP_nil,ck_end,and_true,true_and,List.map_cons,List.map_nil,sA,sB,seval,t0,t1,t2,t3,t8,fldA]
      refine⟨⟨⟨_,rfl,fun _=>⟨_,s1r,by simp[aeq]⟩⟩,⟨_,rfl,fun _=>⟨_,s12,by simp[aeq]⟩⟩⟩,?_⟩
      simp only[sA,sB,seval,t0,t1,t2,t3,t8,p1,p2,p3,b0,a6,b1,a7]
      exact⟨tt,tt,tt,tt,(EJ.old sb om).trans gJ,FJ.trans ⟨EJ.next,fun c h1 _=>EJ.old c h1⟩,by have:=EJ.next; omega,.inl ⟨110,hh,rJ.same (EJ.old cb om)⟩⟩
    ·obtain⟨Hq,hHq⟩:∃X,X=H4.push (.cells (nm4.map .str) 0 false):=⟨_,rfl⟩
     have Eq:Ext H4.next H4 Hq:=by rw[hHq]; exact⟨by show _≤H4.next+1; omega,fun c hc=>get_push_lt hc⟩
     have nq:Hq.next=H4.next+1:=by rw[hHq]; rfl
     have bq:aBuildSl 4 [.str []] H4 [(0,1,.str [117]),(1,1,.str [118]),(2,1,.str [112]),(3,1,.str [110])]=some (.slice (some ⟨H4.next,4,0⟩) 4 (.known 4),Hq):=by rw[hHq]; rfl
     have cq:Cel (H4.next+1) Hq (.slice (some ⟨H4.next,4,0⟩) 4 (.known 4)) (nm4.map .str):=by rw[hHq]; exact bs_celA (xs:=nm4.map .str)
     cases hin:firstI s Ei with
     | none=>
      have h0:((fndT s Ei:Nat):Int)=0:=by rw[(fnd_0 D.sc).2 hin]; rfl
      have hh:headS Ei 2 s t=.error 110:=by simp only[headS,hin]; rfl
      simp only[sA,sB,seval,t0,t1,t2,t3,t8,Int.cast_ofNat_Int,kdA,h0,fldA,q8]
      refine (dcfail_spec (f:=110) rc4 om).mono ?_
      rintro _ H5 ⟨rJ,n5,k5⟩
      rw[failF_0 dD]at rJ
      obtain⟨gJ,FJ,nJ⟩:=bad (g:=0) k5 n5
      simp only[sA,sB,seval,t0,t1,t2,t3,t8]
      exact⟨tt,tt,tt,tt,gJ,FJ,nJ,.inl ⟨110,hh,rJ⟩⟩
     | some n=>
      have h0:¬((fndT s Ei:Nat):Int)=0:=by
       have:=mt (fnd_0 D.sc).1 (by rw[hin]; simp)
       omega
      have hei:=fnd_some hin
      have h4i:=nm4_iff D.sc hin
      have rq:=rc4.same (Eq.old cb om)
      simp only[sA,sB,seval,t0,t1,t2,t3,t8,Int.cast_ofNat_Int,kdA,h0,fldA,q1,bq]
      refine (dhas_spec cq dD).mono ?_
      rintro _ _ ⟨rfl,rfl⟩
      by_cases h4:n<4
      ·have hd:decide (s∈nm4)=true:=decide_eq_true (h4i.2 h4)
       have hh:headS Ei 2 s t=.error 110:=by simp only[headS,hin,if_pos h4]; rfl
       obtain⟨q0,q1,q2,q6,q7,q8⟩:=ldS (L:=Hq) ((Eq.old sb om).trans g4)
       simp only[sA,sB,seval,t0,t1,t2,t3,t8,hd,fldA,q8]
       refine (dcfail_spec (f:=110) rq om).mono ?_
       rintro _ H5 ⟨rJ,n5,k5⟩
       rw[failF_0 dD]at rJ
       simp only[sA,sB,seval,t0,t1,t2,t3,t8]
       exact⟨tt,tt,tt,tt,by rw[k5 sb om,Eq.old sb om,g4],F4.trans ⟨om,fun c h1 h2=>by rw[k5 c h2,Eq.old c h1]⟩,om,.inl ⟨110,hh,rJ⟩⟩
      ·have hd:decide (s∈nm4)=false:=decide_eq_false (mt h4i.1 h4)
       by_cases hkt:fndT s Ei=t
       ·have hkt':((fndT s Ei:Nat):Int)=(t:Int):=om
        have hh:headS Ei 2 s t=.ok Ei:=by simp only[headS,hin,if_neg h4,hei,if_pos hkt]; rfl
        simp only[sA,sB,seval,t0,t1,t2,t3,t8,hd,hkt']
        exact⟨tt,tt,tt,tt,by rw[Eq.old sb om,g4],F4.trans ⟨om,fun c h1 _=>Eq.old c h1⟩,om,.inr ⟨_,hh,rq,vn1,vk1,tt,tt,ln4.same om (ln4.blk.mono fun c hc=>Eq.old c hc),lk4.same om (lk4.blk.mono fun c hc=>Eq.old c hc),D.bn,D.bk⟩⟩
       ·have hkt':¬((fndT s Ei:Nat):Int)=(t:Int):=om
        have hh:headS Ei 2 s t=.error 111:=by simp only[headS,hin,if_neg h4,hei,if_neg hkt]; rfl
        obtain⟨q0,q1,q2,q6,q7,q8⟩:=ldS (L:=Hq) ((Eq.old sb om).trans g4)
        simp only[sA,sB,seval,t0,t1,t2,t3,t8,hd,hkt',fldA,q8]
        refine (dcfail_spec (f:=111) rq om).mono ?_
        rintro _ H5 ⟨rJ,n5,k5⟩
        rw[failF_0 dD]at rJ
        simp only[sA,sB,seval,t0,t1,t2,t3,t8]
        exact⟨tt,tt,tt,tt,by rw[k5 sb om,Eq.old sb om,g4],F4.trans ⟨om,fun c h1 h2=>by rw[k5 c h2,Eq.old c h1]⟩,om,.inl ⟨111,hh,rJ⟩⟩
    ·rcases ht2 with rfl | rfl
     ·have hh:headS Ei 3 s 1=.ok Ei:=rfl
      simp only[sA,sB,seval,t0,t1,t2,t3,t8,Int.cast_ofNat_Int,kdA]
      exact⟨tt,tt,tt,tt,g4,F4,om,.inr ⟨_,hh,rc4,vn1,vk1,tt,tt,ln4,lk4,D.bn,D.bk⟩⟩
     ·have hh:headS Ei 3 s 2=.error 111:=rfl
      simp only[sA,sB,seval,t0,t1,t2,t3,t8,Int.cast_ofNat_Int,kdA,fldA,q8]
      refine (dcfail_spec (f:=111) rc4 om).mono ?_
      rintro _ H5 ⟨rJ,n5,k5⟩
      rw[failF_0 dD]at rJ
      obtain⟨gJ,FJ,nJ⟩:=bad (g:=0) k5 n5
      simp only[sA,sB,seval,t0,t1,t2,t3,t8]
      exact⟨tt,tt,tt,tt,gJ,FJ,nJ,.inl ⟨111,hh,rJ⟩⟩
    ·rcases ht2 with rfl | rfl
     ·have hh:headS Ei 4 s 1=.ok Ei:=rfl
      simp only[sA,sB,seval,t0,t1,t2,t3,t8,Int.cast_ofNat_Int,kdA]
      exact⟨tt,tt,tt,tt,g4,F4,om,.inr ⟨_,hh,rc4,vn1,vk1,tt,tt,ln4,lk4,D.bn,D.bk⟩⟩
     ·have hh:headS Ei 4 s 2=.error 111:=rfl
      simp only[sA,sB,seval,t0,t1,t2,t3,t8,Int.cast_ofNat_Int,kdA,fldA,q8]
      refine (dcfail_spec (f:=111) rc4 om).mono ?_
      rintro _ H5 ⟨rJ,n5,k5⟩
      rw[failF_0 dD]at rJ
      obtain⟨gJ,FJ,nJ⟩:=bad (g:=0) k5 n5
      simp only[sA,sB,seval,t0,t1,t2,t3,t8]
      exact⟨tt,tt,tt,tt,gJ,FJ,nJ,.inl ⟨111,hh,rJ⟩⟩
    ·rcases ht2 with rfl | rfl
     ·have hh:headS Ei 5 s 1=.error 111:=rfl
      simp only[sA,sB,seval,t0,t1,t2,t3,t8,Int.cast_ofNat_Int,kdA,fldA,q8]
      refine (dcfail_spec (f:=111) rc4 om).mono ?_
      rintro _ H5 ⟨rJ,n5,k5⟩
      rw[failF_0 dD]at rJ
      obtain⟨gJ,FJ,nJ⟩:=bad (g:=0) k5 n5
      simp only[sA,sB,seval,t0,t1,t2,t3,t8]
      exact⟨tt,tt,tt,tt,gJ,FJ,nJ,.inl ⟨111,hh,rJ⟩⟩
     ·have hh:headS Ei 5 s 2=.ok Ei:=rfl
      simp only[sA,sB,seval,t0,t1,t2,t3,t8,Int.cast_ofNat_Int,kdA]
      exact⟨tt,tt,tt,tt,g4,F4,om,.inr ⟨_,hh,rc4,vn1,vk1,tt,tt,ln4,lk4,D.bn,D.bk⟩⟩
theorem dli_all(N:Nat):LiD N:=by
 induction N using Nat.strongRecOn with
 | _ N ih=>exact dli_step ih
end Go.Proofs.Wo
