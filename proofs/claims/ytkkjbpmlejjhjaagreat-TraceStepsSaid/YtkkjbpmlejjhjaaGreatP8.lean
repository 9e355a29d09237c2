/- Part of a proof (UFF UFG UFH UFI UFJ UFK UC4 UFL); no condition. -/
import Derived.Test.YtkkjbpmlejjhjaaGreatProg
import Derived.KernelRfl
import Derived.Test.YtkkjbpmlejjhjaaGreatP5
import Derived.Test.YtkkjbpmlejjhjaaGreatP6
import Derived.Test.YtkkjbpmlejjhjaaGreatP7
set_option linter.unusedSimpArgs false
set_option linter.unusedVariables false
set_option linter.defProp false
set_option linter.unnecessarySimpa false
namespace Go.Proofs.Tc
open Go.Abs Go.Abs.S
def mshL(vp vt vb:AVal):List AVal:=[vp,vt,vb]
structure MsIn(P:Nat→Prop)(H:AHeap)(vp vt vb:AVal)(m:Msh):Prop where
 p:SlK P H 3 vp m.pts.length (m.pts.flatMap V.cells)
 t:SlK P H 3 vt m.tris.length (m.tris.flatMap Tri.cells)
 b:SlK P H 4 vb m.balls.length (m.balls.flatMap Bll.cells)
theorem MsIn.mono{P Q:Nat→Prop}{H H':AHeap}{m:Msh}{vp vt vb:AVal}(h:MsIn P H vp vt vb m)(q:∀b,P b→Q b∧H'.get b=H.get b):MsIn Q H' vp vt vb m:=⟨h.p.mono q,h.t.mono q,h.b.mono q⟩
theorem MsIn.up{n:Nat}{H H':AHeap}{m:Msh}{vp vt vb:AVal}(h:MsIn (·<n) H vp vt vb m)(e:Ext n H H'):MsIn (·<n) H' vp vt vb m:=h.mono fun b hb=>⟨hb,e.old b hb⟩
theorem MsIn.more{n k:Nat}{H:AHeap}{m:Msh}{vp vt vb:AVal}(h:MsIn (·<n) H vp vt vb m)(e:n≤k):MsIn (·<k) H vp vt vb m:=h.mono fun b hb=>⟨Nat.lt_of_lt_of_le hb e,rfl⟩
theorem ldM{H:AHeap}{b:Nat}{vp vt vb:AVal}(r:Row H b (mshL vp vt vb)):oLoad false 1 H (cellR b 3 0)=some vp∧oLoad false 1 H (cellR b 3 1)=some vt∧oLoad false 1 H (cellR b 3 2)=some vb∧oLoad true 3 H (cellR b 3 0)=some (.agg (mshL vp vt vb)):=
 ⟨row_load r rfl rfl,row_load r rfl rfl,row_load r rfl rfl,row_loadN r rfl⟩
theorem V_len(x:V):x.cells.length=3:=rfl
theorem T_len(x:Tri):x.cells.length=3:=rfl
theorem B_len(x:Bll):x.cells.length=4:=rfl
theorem allv_spec{l:List V}(hl:l.length≤4611686018427387904){f:Nat}(hf:f<1024){g:V→Bool}{caps:List AVal}{H:AHeap}{v:AVal}(h:SlK (·<H.next) H 3 v l.length (l.flatMap V.cells))
  (hg:∀{x:V} {K:AHeap},Ext H.next H K→ACalls Tryz.prog noNat f ([.agg x.cells]++caps) K fun r K'=>r=.bool (g x)∧Ext K.next K K') :
  ACalls Tryz.prog noNat 77 [v,.func (.func f) [] caps] H fun r H'=>r=.bool (l.all g)∧Ext H.next H H':=by
 refine acalls_ofN rfl za77 rfl ?_
 have ln:=h.len
 simp only[c77,sA,sB,seval,ln]
 refine aw_loop (fun m (T:Env) H'=>∃i:Nat,Ext H.next H H'∧i≤l.length∧m=l.length-i∧(l.take i).all g=true∧T 1=.func (.func f) [] caps∧T 7=v∧T 8=.int .i64 (l.length:Int)∧T 9=.int .i64 (i:Int)) l.length
  ⟨0,Ext.refl _ _,om,om,rfl,tt,tt,tt,tt⟩ ?_
 rintro m T H1 ⟨i,e1,hi,rfl,ha,t1,t7,t8,t9⟩
 by_cases hlt:i<l.length
 ·have hlt':(i:Int)<(l.length:Int):=om
  obtain⟨x,hx⟩:=isSome_of_lt hlt
  have w1:=wrap1 i om
  have I1:SlK (·<H.next) H1 3 v l.length (l.flatMap V.cells):=h.mono fun b hb=>⟨hb,e1.old b hb⟩
  have ix:=I1.idx hlt
  have lx:=I1.loadE V_len hx
  obtain⟨H2,m2,r2,n2,k2⟩:=row_newL H1 [.int .i64 0,.int .i64 0,.int .i64 0] (n:=3) rfl
  obtain⟨H3,m3,r3,n3,k3⟩:=row_storeN r2 (n:=3) rfl (xs:=x.cells) rfl rfl
  have l3:=row_loadN r3 (n:=3) rfl
  have en:=e1.next
  have e3:Ext H.next H H3:=⟨om,fun b hb=>by rw[k3 b om,k2 b om,e1.old b hb]⟩
  simp only[sA,sB,seval,t1,t7,t8,t9,hlt',ix,lx,m2,m3,l3,hf]
  refine (hg e3).mono ?_
  rintro _ H4 ⟨rfl,e4⟩
  have e34:=e3.trans (e4.less e3.next)
  cases hh:g x with
  | false=>
   simp only[sA,sB,seval]
   exact⟨by rw[all_no hx hh],e34⟩
  | true=>
   simp only[sA,sB,seval,t9,w1]
   exact⟨_,om,i+1,e34,om,rfl,by rw[all_take hx ha]; exact hh,t1,t7,t8,tt⟩
 ·have hlt':¬(i:Int)<(l.length:Int):=om
  simp only[sA,sB,seval,t8,t9,hlt']
  rw[List.take_of_length_le om]at ha
  exact⟨by rw[ha],e1⟩
theorem allt_spec{l:List Tri}(hl:l.length≤4611686018427387904){f:Nat}(hf:f<1024){g:Tri→Bool}{caps:List AVal}{H:AHeap}{v:AVal}(h:SlK (·<H.next) H 3 v l.length (l.flatMap Tri.cells))
  (hg:∀{x:Tri} {K:AHeap},Ext H.next H K→ACalls Tryz.prog noNat f ([.agg x.cells]++caps) K fun r K'=>r=.bool (g x)∧Ext K.next K K') :
  ACalls Tryz.prog noNat 79 [v,.func (.func f) [] caps] H fun r H'=>r=.bool (l.all g)∧Ext H.next H H':=by
 refine acalls_ofN rfl za79 rfl ?_
 have ln:=h.len
 simp only[c79,sA,sB,seval,ln]
 refine aw_loop (fun m (T:Env) H'=>∃i:Nat,Ext H.next H H'∧i≤l.length∧m=l.length-i∧(l.take i).all g=true∧T 1=.func (.func f) [] caps∧T 7=v∧T 8=.int .i64 (l.length:Int)∧T 9=.int .i64 (i:Int)) l.length
  ⟨0,Ext.refl _ _,om,om,rfl,tt,tt,tt,tt⟩ ?_
 rintro m T H1 ⟨i,e1,hi,rfl,ha,t1,t7,t8,t9⟩
 by_cases hlt:i<l.length
 ·have hlt':(i:Int)<(l.length:Int):=om
  obtain⟨x,hx⟩:=isSome_of_lt hlt
  have w1:=wrap1 i om
  have I1:SlK (·<H.next) H1 3 v l.length (l.flatMap Tri.cells):=h.mono fun b hb=>⟨hb,e1.old b hb⟩
  have ix:=I1.idx hlt
  have lx:=I1.loadE T_len hx
  obtain⟨H2,m2,r2,n2,k2⟩:=row_newL H1 [.int .i64 0,.int .i64 0,.int .i64 0] (n:=3) rfl
  obtain⟨H3,m3,r3,n3,k3⟩:=row_storeN r2 (n:=3) rfl (xs:=x.cells) rfl rfl
  have l3:=row_loadN r3 (n:=3) rfl
  have en:=e1.next
  have e3:Ext H.next H H3:=⟨om,fun b hb=>by rw[k3 b om,k2 b om,e1.old b hb]⟩
  simp only[sA,sB,seval,t1,t7,t8,t9,hlt',ix,lx,m2,m3,l3,hf]
  refine (hg e3).mono ?_
  rintro _ H4 ⟨rfl,e4⟩
  have e34:=e3.trans (e4.less e3.next)
  cases hh:g x with
  | false=>
   simp only[sA,sB,seval]
   exact⟨by rw[all_no hx hh],e34⟩
  | true=>
   simp only[sA,sB,seval,t9,w1]
   exact⟨_,om,i+1,e34,om,rfl,by rw[all_take hx ha]; exact hh,t1,t7,t8,tt⟩
 ·have hlt':¬(i:Int)<(l.length:Int):=om
  simp only[sA,sB,seval,t8,t9,hlt']
  rw[List.take_of_length_le om]at ha
  exact⟨by rw[ha],e1⟩
theorem allb_spec{l:List Bll}(hl:l.length≤4611686018427387904){f:Nat}(hf:f<1024){g:Bll→Bool}{caps:List AVal}{H:AHeap}{v:AVal}(h:SlK (·<H.next) H 4 v l.length (l.flatMap Bll.cells))
  (hg:∀{x:Bll} {K:AHeap},Ext H.next H K→ACalls Tryz.prog noNat f ([.agg x.cells]++caps) K fun r K'=>r=.bool (g x)∧Ext K.next K K') :
  ACalls Tryz.prog noNat 82 [v,.func (.func f) [] caps] H fun r H'=>r=.bool (l.all g)∧Ext H.next H H':=by
 refine acalls_ofN rfl za82 rfl ?_
 have ln:=h.len
 simp only[c82,sA,sB,seval,ln]
 refine aw_loop (fun m (T:Env) H'=>∃i:Nat,Ext H.next H H'∧i≤l.length∧m=l.length-i∧(l.take i).all g=true∧T 1=.func (.func f) [] caps∧T 7=v∧T 8=.int .i64 (l.length:Int)∧T 9=.int .i64 (i:Int)) l.length
  ⟨0,Ext.refl _ _,om,om,rfl,tt,tt,tt,tt⟩ ?_
 rintro m T H1 ⟨i,e1,hi,rfl,ha,t1,t7,t8,t9⟩
 by_cases hlt:i<l.length
 ·have hlt':(i:Int)<(l.length:Int):=om
  obtain⟨x,hx⟩:=isSome_of_lt hlt
  have w1:=wrap1 i om
  have I1:SlK (·<H.next) H1 4 v l.length (l.flatMap Bll.cells):=h.mono fun b hb=>⟨hb,e1.old b hb⟩
  have ix:=I1.idx hlt
  have lx:=I1.loadE B_len hx
  obtain⟨H2,m2,r2,n2,k2⟩:=row_newL H1 [.int .i64 0,.int .i64 0,.int .i64 0,.int .i64 0] (n:=4) rfl
  obtain⟨H3,m3,r3,n3,k3⟩:=row_storeN r2 (n:=4) rfl (xs:=x.cells) rfl rfl
  have l3:=row_loadN r3 (n:=4) rfl
  have en:=e1.next
  have e3:Ext H.next H H3:=⟨om,fun b hb=>by rw[k3 b om,k2 b om,e1.old b hb]⟩
  simp only[sA,sB,seval,t1,t7,t8,t9,hlt',ix,lx,m2,m3,l3,hf]
  refine (hg e3).mono ?_
  rintro _ H4 ⟨rfl,e4⟩
  have e34:=e3.trans (e4.less e3.next)
  cases hh:g x with
  | false=>
   simp only[sA,sB,seval]
   exact⟨by rw[all_no hx hh],e34⟩
  | true=>
   simp only[sA,sB,seval,t9,w1]
   exact⟨_,om,i+1,e34,om,rfl,by rw[all_take hx ha]; exact hh,t1,t7,t8,tt⟩
 ·have hlt':¬(i:Int)<(l.length:Int):=om
  simp only[sA,sB,seval,t8,t9,hlt']
  rw[List.take_of_length_le om]at ha
  exact⟨by rw[ha],e1⟩
def nearI(x:Int):Bool:=decide (-4503599627370496≤x∧x≤4503599627370496)
theorem near1_spec{x:Int}{H:AHeap}:ACalls Tryz.prog noNat 109 [.int .i64 x] H fun r H'=>r=.bool (nearI x)∧H=H':=by
 refine acalls_ofN rfl za109 rfl ?_
 have c:(Int.negSucc 4503599627370495)=-4503599627370496:=rfl
 unfold nearI
 by_cases c1:(-4503599627370496:Int)≤x
 ·by_cases c2:x≤4503599627370496
  ·simp only[c109,sA,sB,seval,c,c1,c2]; exact⟨tt,tt⟩
  ·simp only[c109,sA,sB,seval,c,c1,c2]; exact⟨tt,tt⟩
 ·simp only[c109,sA,sB,seval,c,c1]; exact⟨tt,tt⟩
theorem farV_eq(v:V):decide (farV v)=(nearI v.x&&(nearI v.y&&nearI v.z)):=by
 rw[Bool.eq_iff_iff,decide_eq_true_iff]; simp[farV,nearI]
theorem near_spec{v:V}{H:AHeap}:ACalls Tryz.prog noNat 78 [.agg v.cells] H fun r H'=>r=.bool (decide (farV v))∧Ext H.next H H':=by
 obtain⟨H1,m1,r1,n1,k1⟩:=row_newL H v.cells (n:=3) rfl
 obtain⟨p0,p1,p2,_⟩:=ld3 r1
 have e1:Ext H.next H H1:=⟨om,fun c hc=>k1 c om⟩
 refine acalls_ofN rfl za78 rfl ?_
 rw[farV_eq]
 simp only[c78,sA,sB,seval,cells_agg,m1,fld0,p0,List.nil_append]
 refine near1_spec.mono ?_
 rintro _ _ ⟨rfl,rfl⟩
 cases nearI v.x with
 | false=>simp only[sA,sB,seval]; exact⟨tt,e1⟩
 | true=>
  simp only[sA,sB,seval,fldA,p1,List.nil_append]
  refine near1_spec.mono ?_
  rintro _ _ ⟨rfl,rfl⟩
  cases nearI v.y with
  | false=>simp only[sA,sB,seval]; exact⟨tt,e1⟩
  | true=>
   simp only[sA,sB,seval,fldA,p2,List.nil_append]
   refine near1_spec.mono ?_
   rintro _ _ ⟨rfl,rfl⟩
   simp only[sA,sB,seval]; exact⟨by simp,e1⟩
theorem has_spec{n:Nat}{t:Tri}{H:AHeap}:ACalls Tryz.prog noNat 81 [.int .i64 (n:Int),.agg t.cells] H fun r H'=>r=.bool (decide (hasT n t))∧Ext H.next H H':=by
 obtain⟨a,b,c⟩:=t
 obtain⟨H1,m1,r1,n1,k1⟩:=row_newL H (v3 a b c) (n:=3) rfl
 obtain⟨_,_,_,p⟩:=ld3 r1
 have e1:Ext H.next H H1:=⟨om,fun c hc=>k1 c om⟩
 refine acalls_ofN rfl za81 rfl ?_
 unfold Tri.cells
 have e:hasT n ⟨a,b,c⟩=((0≤a∧a<n)∧(0≤b∧b<n)∧(0≤c∧c<n)):=rfl
 have at3:∀i:Nat,i<3→aIdx 3 1 false (.agg (v3 a b c)) (.int .i64 (i:Int))=some (.int .i64 (if i=0 then a else if i=1 then b else c)):=by
  intro i hi
  match i,hi with
  | 0,_=>rfl
  | 1,_=>rfl
  | 2,_=>rfl
 simp only[c81,sA,sB,seval,cells_agg,m1,p]
 refine aw_loop (fun m (T:Env) H'=>∃i:Nat,H1=H'∧i≤3∧m=3-i∧(∀j:Nat,j<i→0≤(if j=0 then a else if j=1 then b else c)∧(if j=0 then a else if j=1 then b else c)<n)∧T 0=.int .i64 (n:Int)∧T 7=.agg (v3 a b c)∧T 8=.int .i64 (i:Int)) 3
  ⟨0,rfl,om,om,fun j hj=>om,tt,tt,tt⟩ ?_
 rintro m T _ ⟨i,rfl,hi,rfl,ha,t0,t7,t8⟩
 by_cases hlt:i<3
 ·have hlt':(i:Int)<3:=om
  have w1:=wrap1 i om
  have ix:=at3 i hlt
  obtain⟨y,hy⟩:∃y,y=(if i=0 then a else if i=1 then b else c):=⟨_,rfl⟩
  rw[← hy]at ix
  have no:¬(0≤y∧y<n)→¬hasT n ⟨a,b,c⟩:=by
   rw[e,hy]
   match i,hlt with
   | 0,_=>exact fun h g=>h g.1
   | 1,_=>exact fun h g=>h g.2.1
   | 2,_=>exact fun h g=>h g.2.2
  by_cases c1:y<0
  ·simp only[sA,sB,seval,t0,t7,t8,hlt',ix,c1]
   exact⟨by rw[decide_eq_false (no om)],e1⟩
  by_cases c2:(n:Int)≤y
  ·simp only[sA,sB,seval,t0,t7,t8,hlt',ix,c1,c2]
   exact⟨by rw[decide_eq_false (no om)],e1⟩
  ·simp only[sA,sB,seval,t0,t7,t8,hlt',ix,c1,c2,w1]
   refine⟨_,om,i+1,by first | rfl | trivial,om,rfl,fun j hj=>?_,by first | exact t0 | trivial,by first | exact t7 | trivial,tt⟩
   by_cases hji:j=i
   ·subst hji; rw[← hy]; omega
   ·exact ha j om
 ·have hlt':¬(i:Int)<3:=om
  have h0:=ha 0 om
  have h1:=ha 1 om
  have h2:=ha 2 om
  simp only[sA,sB,seval,t8,hlt']
  exact⟨by rw[decide_eq_true (e ▸ ⟨h0,h1,h2⟩)],e1⟩
theorem mcheck1_spec{m:Msh}{vp vt vb:AVal}{t:Tri}{b:Nat}{H:AHeap}(hb:b<H.next)(r:Row H b (mshL vp vt vb))(I:MsIn (·<H.next) H vp vt vb m):ACalls Tryz.prog noNat 80 [.agg t.cells,cellR b 3 0] H fun r H'=>r=.bool (decide (hasT m.pts.length t))∧Ext H.next H H':=by
 obtain⟨H1,m1,r1,n1,k1⟩:=row_newL H t.cells (n:=3) rfl
 have lp:=I.p.len
 have w:=row_loadN r1 (n:=3) rfl
 refine acalls_ofN rfl za80 rfl ?_
 have l0:=(ldM (r.same (H':=H1) (k1 _ om))).1
 have e1:Ext H.next H H1:=⟨om,fun c hc=>k1 c om⟩
 simp only[c80,sA,sB,seval,cells_agg,m1,fld0,l0,lp,w]
 refine has_spec.mono ?_
 rintro _ H2 ⟨rfl,e2⟩
 simp only[sA,sB,seval]
 exact⟨tt,e1.trans (e2.less e1.next)⟩
theorem mcheck2_spec{b:Bll}{H:AHeap}:ACalls Tryz.prog noNat 83 [.agg b.cells] H fun r H'=>r=.bool (decide (ballOk b))∧Ext H.next H H':=by
 obtain⟨H1,m1,r1,n1,k1⟩:=row_newL H b.cells (n:=4) rfl
 have e1:Ext H.next H H1:=⟨om,fun c hc=>k1 c om⟩
 have l0:=(ldL r1).1
 refine acalls_ofN rfl za83 rfl ?_
 have e:decide (ballOk b)=(decide (farV b.c)&&(decide (1≤b.r)&&decide (b.r≤4503599627370496))):=by rw[Bool.eq_iff_iff,decide_eq_true_iff]; simp[ballOk]
 rw[e]
 simp only[c83,sA,sB,seval,cells_agg,m1,fld0,l0]
 refine near_spec.mono ?_
 rintro _ H2 ⟨rfl,e2⟩
 have e12:=e1.trans (e2.less e1.next)
 have l3:=(ldL (r1.same (H':=H2) (e2.old _ om))).2
 cases decide (farV b.c) with
 | false=>simp only[sA,sB,seval]; exact⟨tt,e12⟩
 | true=>
  by_cases c1:1≤b.r
  ·by_cases c2:b.r≤4503599627370496
   ·simp only[sA,sB,seval,fldA,l3,c1,c2]; exact⟨tt,e12⟩
   ·simp only[sA,sB,seval,fldA,l3,c1,c2]; exact⟨tt,e12⟩
  ·simp only[sA,sB,seval,fldA,l3,c1]; exact⟨tt,e12⟩
theorem mcheck_spec{m:Msh}{vp vt vb:AVal}{H:AHeap}(I:MsIn (·<H.next) H vp vt vb m)(hp:m.pts.length≤4611686018427387904)(ht:m.tris.length≤4611686018427387904)(hb:m.balls.length≤4611686018427387904) :
  ACalls Tryz.prog noNat 34 [.agg (mshL vp vt vb)] H fun r H'=>r=.int .i64 (if mshOk m then 0 else 14)∧Ext H.next H H':=by
 obtain⟨H1,m1,r1,n1,k1⟩:=row_newL H (mshL vp vt vb) (n:=3) rfl
 have e1:Ext H.next H H1:=⟨om,fun c hc=>k1 c om⟩
 have lp:=I.p.len
 have lt:=I.t.len
 have lb:=I.b.len
 obtain⟨l0,l1,l2,_⟩:=ldM r1
 refine acalls_ofN rfl za34 rfl ?_
 unfold mshOk
 by_cases c1:m.pts.length≤4096
 rotate_left
 ·have c1':(4096:Int)<(m.pts.length:Int):=om
  simp only[c34,sA,sB,seval,cells_agg,m1,fld0,l0,lp,c1']
  exact⟨by simp[c1],e1⟩
 have c1':¬(4096:Int)<(m.pts.length:Int):=om
 by_cases c2:m.tris.length≤4096
 rotate_left
 ·have c2':(4096:Int)<(m.tris.length:Int):=om
  simp only[c34,sA,sB,seval,cells_agg,m1,fld0,fldA,l0,l1,lp,lt,c1',c2']
  exact⟨by simp[c2],e1⟩
 have c2':¬(4096:Int)<(m.tris.length:Int):=om
 have w1:IntKind.i64.wrap (4096-(m.tris.length:Int))=4096-(m.tris.length:Int):=w64
 by_cases c3:m.balls.length≤4096-m.tris.length
 rotate_left
 ·have c3':4096-(m.tris.length:Int)<(m.balls.length:Int):=om
  simp only[c34,sA,sB,seval,cells_agg,m1,fld0,fldA,l0,l1,l2,lp,lt,lb,c1',c2',w1,c3']
  exact⟨by simp[c3],e1⟩
 have c3':¬4096-(m.tris.length:Int)<(m.balls.length:Int):=om
 simp only[c34,sA,sB,seval,cells_agg,m1,fld0,fldA,l0,l1,l2,lp,lt,lb,c1',c2',w1,c3']
 have h0:(decide (m.pts.length≤4096)&&(decide (m.tris.length≤4096)&&decide (m.balls.length≤4096-m.tris.length)))=true:=by simp[c1,c2,c3]
 rw[h0,Bool.true_and]
 refine (allv_spec (l:=m.pts) om (f:=78) om (g:=fun v=>decide (farV v)) (caps:=[]) ((I.up e1).more e1.next).p fun {_ _} _=>near_spec).mono ?_
 rintro _ H2 ⟨rfl,e2⟩
 have e12:=e1.trans (e2.less e1.next)
 have n2:=e2.next
 obtain⟨l0,l1,l2,_⟩:=ldM (r1.same (H':=H2) (e2.old _ om))
 cases m.pts.all fun v=>decide (farV v) with
 | false=>simp only[sA,sB,seval]; exact⟨tt,e12⟩
 | true=>
  simp only[sA,sB,seval,fldA,l1]
  refine (allt_spec (l:=m.tris) om (f:=80) om (g:=fun t=>decide (hasT m.pts.length t)) (caps:=[cellR H.next 3 0]) ((I.up e12).more e12.next).t fun {_ _} e=>mcheck1_spec (m:=m) (by have:=e.next; omega) (r1.same (by rw[e.old _ om,e2.old _ om])) (((I.up e12).more e12.next).up e |>.more e.next)).mono ?_
  rintro _ H3 ⟨rfl,e3⟩
  have e13:=e12.trans (e3.less e12.next)
  obtain⟨l0,l1,l2,_⟩:=ldM (r1.same (H':=H3) (by rw[e3.old _ om,e2.old _ om]))
  cases m.tris.all fun t=>decide (hasT m.pts.length t) with
  | false=>simp only[sA,sB,seval]; exact⟨tt,e13⟩
  | true=>
   simp only[sA,sB,seval,fldA,l2]
   refine (allb_spec (l:=m.balls) om (f:=83) om (g:=fun b=>decide (ballOk b)) (caps:=[]) ((I.up e13).more e13.next).b fun {_ _} _=>mcheck2_spec).mono ?_
   rintro _ H4 ⟨rfl,e4⟩
   have e14:=e13.trans (e4.less e13.next)
   cases m.balls.all fun b=>decide (ballOk b) with
   | false=>simp only[sA,sB,seval]; exact⟨tt,e14⟩
   | true=>simp only[sA,sB,seval]; exact⟨tt,e14⟩
theorem count_spec{m:Msh}{vp vt vb:AVal}{P:Nat→Prop}{H:AHeap}(I:MsIn P H vp vt vb m)(hn:m.n≤4611686018427387904) :
  ACalls Tryz.prog noNat 50 [.agg (mshL vp vt vb)] H fun r H'=>r=.int .i64 (m.n:Int)∧Ext H.next H H':=by
 obtain⟨H1,m1,r1,n1,k1⟩:=row_newL H (mshL vp vt vb) (n:=3) rfl
 have e1:Ext H.next H H1:=⟨om,fun c hc=>k1 c om⟩
 have lt:=I.t.len
 have lb:=I.b.len
 obtain⟨l0,l1,l2,_⟩:=ldM r1
 have w:IntKind.i64.wrap ((m.tris.length:Int)+(m.balls.length:Int))=(m.n:Int):=by unfold Msh.n at *; rw[IntKind.wrap_i64]; omega
 refine acalls_ofN rfl za50 rfl ?_
 simp only[c50,sA,sB,seval,cells_agg,m1,fldA,l1,l2,lt,lb,w]
 exact⟨tt,e1⟩
open Go.Abs Go.Abs.S
structure Msh.ok(m:Msh):Prop where
 np:m.pts.length≤4096
 nt:m.tris.length≤4096
 nb:m.balls.length≤4096
 p:∀v∈m.pts,farV v
 t:∀t∈m.tris,hasT m.pts.length t
 b:∀b∈m.balls,ballOk b
theorem mshOk_ok{m:Msh}(h:mshOk m=true):m.ok:=by
 simp only[mshOk,Bool.and_eq_true,decide_eq_true_eq,List.all_eq_true]at h
 obtain⟨⟨h1,h2,h3⟩,h4,h5,h6⟩:=h
 exact⟨h1,h2,om,h4,h5,h6⟩
theorem farV_j{v:V}(h:farV v):v.j:=by obtain⟨⟨_,_⟩,⟨_,_⟩,_,_⟩:=h; exact⟨⟨om,om⟩,⟨om,om⟩,om,om⟩
theorem ballOk_j{b:Bll}(h:ballOk b):b.j:=by obtain⟨h1,h2,h3⟩:=h; exact⟨farV_j h1,om,om⟩
theorem Msh.ok.pt{m:Msh}(h:m.ok)(i:Int):(m.pt i).j:=by
 unfold Msh.pt
 cases hp:m.pts[i.toNat]? with
 | none=>exact V0_j
 | some v=>exact farV_j (h.p v (List.mem_of_getElem? hp))
theorem Msh.ok.tri{m:Msh}(h:m.ok)(i:Nat):(m.tri i).1.j∧(m.tri i).2.1.j∧(m.tri i).2.2.j:=by
 unfold Msh.tri
 split
 ·exact⟨h.pt _,h.pt _,h.pt _⟩
 ·exact⟨V0_j,V0_j,V0_j⟩
theorem Msh.ok.ball{m:Msh}(h:m.ok)(i:Nat):(m.ball i).j:=by
 unfold Msh.ball
 cases hp:m.balls[i]? with
 | none=>exact⟨V0_j,by decide,by decide⟩
 | some v=>exact ballOk_j (h.b v (List.mem_of_getElem? hp))
theorem min_j{a b:Int}(ha:J64 a)(hb:J64 b):J64 (min a b):=by unfold J64 at *; omega
theorem max_j{a b:Int}(ha:J64 a)(hb:J64 b):J64 (max a b):=by unfold J64 at *; omega
theorem boxT_j{a b c:V}(ha:a.j)(hb:b.j)(hc:c.j):(boxT a b c).j:=by
 obtain⟨a1,a2,a3⟩:=ha
 obtain⟨b1,b2,b3⟩:=hb
 obtain⟨c1,c2,c3⟩:=hc
 exact⟨⟨min_j (min_j a1 b1) c1,min_j (min_j a2 b2) c2,min_j (min_j a3 b3) c3⟩,⟨max_j (max_j a1 b1) c1,max_j (max_j a2 b2) c2,max_j (max_j a3 b3) c3⟩⟩
theorem boxB_j{b:Bll}(h:b.j):(boxB b).j:=by
 obtain⟨⟨h1,h2,h3⟩,hr⟩:=h
 exact⟨⟨fSub_j h1 hr,fSub_j h2 hr,fSub_j h3 hr⟩,⟨fAdd_j h1 hr,fAdd_j h2 hr,fAdd_j h3 hr⟩⟩
theorem Msh.ok.box{m:Msh}(h:m.ok)(i:Nat):(boxOf m i).j:=by
 unfold boxOf
 split
 ·obtain⟨a,b,c⟩:=h.tri i; exact boxT_j a b c
 ·exact boxB_j (h.ball _)
theorem ld4{H:AHeap}{b:Nat}{x:Bll}(r:Row H b x.cells):oLoad false 1 H (cellR b 4 0)=some (.int .i64 x.c.x)∧oLoad false 1 H (cellR b 4 1)=some (.int .i64 x.c.y)∧oLoad false 1 H (cellR b 4 2)=some (.int .i64 x.c.z)∧oLoad false 1 H (cellR b 4 3)=some (.int .i64 x.r):=
 ⟨row_load r rfl rfl,row_load r rfl rfl,row_load r rfl rfl,row_load r rfl rfl⟩
theorem ldT{H:AHeap}{b:Nat}{x:Tri}(r:Row H b x.cells):oLoad false 1 H (cellR b 3 0)=some (.int .i64 x.a)∧oLoad false 1 H (cellR b 3 1)=some (.int .i64 x.b)∧oLoad false 1 H (cellR b 3 2)=some (.int .i64 x.c)∧oLoad true 3 H (cellR b 3 0)=some (.agg x.cells):=
 ⟨row_load r rfl rfl,row_load r rfl rfl,row_load r rfl rfl,row_loadN r rfl⟩
theorem bl6(a b:V):aBuild [.int .i64 0,.int .i64 0,.int .i64 0,.int .i64 0,.int .i64 0,.int .i64 0] [(0,3,.agg (v3 a.x a.y a.z)),(3,3,.agg (v3 b.x b.y b.z))]=some (.agg (Bx.mk a b).cells):=rfl
theorem arr3(b:Nat):aIdxArr 3 1 (cellR b 3 0) (.int .i64 0)=some (cellR b 3 0)∧aIdxArr 3 1 (cellR b 3 0) (.int .i64 1)=some (cellR b 3 1)∧aIdxArr 3 1 (cellR b 3 0) (.int .i64 2)=some (cellR b 3 2):=⟨rfl,rfl,rfl⟩
theorem mm3(a b c:Int):aPf (.mm false) [.int .i64 a,.int .i64 b,.int .i64 c]=some (.int .i64 (min (min a b) c))∧aPf (.mm true) [.int .i64 a,.int .i64 b,.int .i64 c]=some (.int .i64 (max (max a b) c)):=by
 constructor
 ·simp only[aPf,aMMs,aMM,aMM1,ltF_eq,cond_false,Bool.cond_decide]
  congr 2
  repeat' split
  all_goals omega
 ·simp only[aPf,aMMs,aMM,aMM1,ltF_eq,cond_true,Bool.cond_decide]
  congr 2
  repeat' split
  all_goals omega
theorem mbox_spec{m:Msh}(hm:m.ok){vp vt vb:AVal}{i:Nat}(hi:i<m.n){H:AHeap}(I:MsIn (·<H.next) H vp vt vb m) :
  ACalls Tryz.prog noNat 85 [.agg (mshL vp vt vb),.int .i64 (i:Int)] H fun r H'=>r=.agg (boxOf m i).cells∧Ext H.next H H':=by
 have hnb:m.n≤8192:=by unfold Msh.n; have:=hm.nt; have:=hm.nb; omega
 obtain⟨H1,m1,r1,n1,k1⟩:=row_newL H (mshL vp vt vb) (n:=3) rfl
 obtain⟨H2,m2,r2,n2,k2⟩:=row_newL H1 [.int .i64 0,.int .i64 0,.int .i64 0,.int .i64 0,.int .i64 0,.int .i64 0] (n:=6) rfl
 have e2:Ext H.next H H2:=⟨om,fun c hc=>by rw[k2 c om,k1 c om]⟩
 have lp:=I.p.len
 have lt:=I.t.len
 have lb:=I.b.len
 have a2:∀{K:AHeap},Ext H2.next H2 K→_:=fun {K} e=>ldM (r1.same (H':=K) (by rw[e.old _ om,k2 _ om]))
 have I2:∀{K:AHeap},Ext H2.next H2 K→MsIn (·<H.next) K vp vt vb m:=fun {K} e=>I.up (e2.trans (e.less e2.next))
 have E0:Ext H2.next H2 H2:=.refl _ _
 obtain⟨l0,l1,l2,l3⟩:=a2 E0
 refine acalls_ofN rfl za85 rfl ?_
 have c0:¬(i:Int)<0:=om
 simp only[c85,sA,sB,seval,cells_agg,m1,m2,c0,l3]
 refine (count_spec (I2 E0) om).mono ?_
 rintro _ H3 ⟨rfl,E3⟩
 have c1:¬(m.n:Int)≤(i:Int):=om
 obtain⟨l0,l1,l2,l3⟩:=a2 E3
 unfold boxOf
 by_cases hlt:i<m.tris.length
 ·have c2:¬(m.tris.length:Int)≤(i:Int):=om
  rw[if_pos hlt]
  obtain⟨t,ht⟩:=isSome_of_lt hlt
  have ok:=hm.t t (List.mem_of_getElem? ht)
  obtain⟨⟨ha0,ha1⟩,⟨hb0,hb1⟩,hc0,hc1⟩:=ok
  have ix:=(I2 E3).t.idx hlt
  have lx:=(I2 E3).t.loadE T_len ht
  have e3:=E3.next
  obtain⟨H4,m4,r4,n4,k4⟩:=row_newL H3 (v3 0 0 0) (n:=3) rfl
  obtain⟨H5,m5,r5,n5,k5⟩:=row_storeN r4 (n:=3) rfl (xs:=t.cells) rfl rfl
  have E5:Ext H2.next H2 H5:=⟨om,fun c hc=>by rw[k5 c om,k4 c om,E3.old c hc]⟩
  have w5:=(ldT r5).2.2.2
  obtain⟨l0',l1',_,_⟩:=a2 E5
  simp only[sA,sB,seval,c1,fld0,fldA,l1,lt,c2,ix,lx,m4,m5,l0',lp,w5]
  refine has_spec.mono ?_
  rintro _ H6 ⟨rfl,E6⟩
  rw[decide_eq_true (show hasT m.pts.length t from⟨⟨ha0,ha1⟩,⟨hb0,hb1⟩,hc0,hc1⟩)]
  have E26:Ext H2.next H2 H6:=E5.trans (E6.less E5.next)
  have e26:=E26.next
  have e6:=E6.next
  simp only[sA,sB,seval]
  refine aw_drawN ?_
  simp only[claims,newOf,reserves,resO_0,clOp_new]
  obtain⟨Hp,hHp⟩:∃K,K=((H6.push (.cells (v3 0 0 0) 0 false)).push (.cells (v3 0 0 0) 0 false)).push (.cells (v3 0 0 0) 0 false):=⟨_,rfl⟩
  rw[← hHp]
  have np:Hp.next=H6.next+3:=by rw[hHp]; rfl
  have g1:Hp.get H6.next=some (.cells (v3 0 0 0) 0 false):=by rw[hHp,AHeap.get_push,if_neg (by show H6.next≠H6.next+1+1; omega),AHeap.get_push,if_neg (by show H6.next≠H6.next+1; omega),AHeap.get_push,if_pos rfl]
  have g2:Hp.get (H6.next+1)=some (.cells (v3 0 0 0) 0 false):=by rw[hHp,AHeap.get_push,if_neg (by show H6.next+1≠H6.next+1+1; omega),AHeap.get_push]; exact if_pos rfl
  have g3:Hp.get (H6.next+1+1)=some (.cells (v3 0 0 0) 0 false):=by rw[hHp,AHeap.get_push]; exact if_pos rfl
  have Ep:Ext H6.next H6 Hp:=by rw[hHp]; exact (((Ext.refl _ _).push rL _).push (Nat.le_succ _) _).push (by show H6.next≤H6.next+1+1; omega) _
  have E2p:Ext H2.next H2 Hp:=E26.trans (Ep.less E26.next)
  have cell:∀{x:Int},0≤x→x<(m.pts.length:Int)→∃v,m.pt x=v∧aIdxA 3 vp (.int .i64 x)=some (placeK 3 vp x.toNat)∧∀{K:AHeap},Ext H6.next H6 K→oLoad true 3 K (placeK 3 vp x.toNat)=some (.agg v.cells):=by
   intro x h0 h1
   have hx:x.toNat<m.pts.length:=om
   obtain⟨v,hv⟩:=isSome_of_lt hx
   refine⟨v,by unfold Msh.pt; rw[hv]; rfl,?_,fun {K} k=>(I2 (E26.trans (k.less E26.next))).p.loadE V_len hv⟩
   have:=(I2 E2p).p.idx hx
   rwa [show ((x.toNat:Nat):Int)=x by omega]at this
  obtain⟨i0,i1,i2⟩:=arr3 H3.next
  obtain⟨va,pa,xa,fa⟩:=cell ha0 ha1
  obtain⟨wb,pb,xb,fb⟩:=cell hb0 hb1
  obtain⟨vc,pc,xc,fc⟩:=cell hc0 hc1
  have em:m.tri i=(va,wb,vc):=by unfold Msh.tri; rw[ht]; simp only[pa,pb,pc]
  rw[em]
  have all:∀{K:AHeap},Ext H6.next H6 K→oLoad false 1 K (cellR H.next 3 0)=some vp∧oLoad false 1 K (cellR H3.next 3 0)=some (.int .i64 t.a)∧oLoad false 1 K (cellR H3.next 3 1)=some (.int .i64 t.b)∧oLoad false 1 K (cellR H3.next 3 2)=some (.int .i64 t.c)∧oLoad true 3 K (placeK 3 vp t.a.toNat)=some (.agg va.cells)∧oLoad true 3 K (placeK 3 vp t.b.toNat)=some (.agg wb.cells)∧oLoad true 3 K (placeK 3 vp t.c.toNat)=some (.agg vc.cells):=fun {K} k=>by
   obtain⟨u1,u2,u3,_⟩:=ldT (r5.same (H':=K) (by rw[k.old _ om,E6.old _ om]))
   exact⟨(a2 (E26.trans (k.less E26.next))).1,u1,u2,u3,fa k,fb k,fc k⟩
  obtain⟨q0,ta,tb,tc,ya,yb,yc⟩:=all Ep
  have d1:aClaim Hp H6.next (v3 0 0 0) none=some (cellR H6.next 3 0):=claim_ok (z:=v3 0 0 0) g1 rfl
  have d2:aClaim Hp (H6.next+1) (v3 0 0 0) none=some (cellR (H6.next+1) 3 0):=claim_ok (z:=v3 0 0 0) g2 rfl
  have d3:aClaim Hp (H6.next+1+1) (v3 0 0 0) none=some (cellR (H6.next+1+1) 3 0):=claim_ok (z:=v3 0 0 0) g3 rfl
  obtain⟨Ha,ma,ra,na,ka⟩:=row_storeN (H:=Hp) (b:=H6.next) (l:=v3 0 0 0) ⟨0,g1,Nat.zero_le _⟩ (n:=3) rfl (xs:=va.cells) rfl rfl
  obtain⟨Hb,mb,rb,nb,kb⟩:=row_storeN (H:=Ha) (b:=H6.next+1) (l:=v3 0 0 0) ⟨0,(ka _ om).trans g2,Nat.zero_le _⟩ (n:=3) rfl (xs:=wb.cells) rfl rfl
  obtain⟨Hc,mc,rc,nc,kc⟩:=row_storeN (H:=Hb) (b:=H6.next+1+1) (l:=v3 0 0 0) ⟨0,by rw[kb _ om,ka _ om]; exact g3,Nat.zero_le _⟩ (n:=3) rfl (xs:=vc.cells) rfl rfl
  have kA:Ext H6.next H6 Ha:=⟨om,fun c hc=>by rw[ka c om,Ep.old c hc]⟩
  have kB:Ext H6.next H6 Hb:=⟨om,fun c hc=>by rw[kb c om,kA.old c hc]⟩
  have allA:=all kA
  have allB:=all kB
  simp only[sR,sA,sB,seval,fld0,q0,i0,i1,i2,ta,tb,tc,xa,ya,xb,yb,xc,yc,tr_claim,d1,d2,d3,ma,mb,mc]
  simp only[ck_nil',ck_cons,ckP_load,ckP_claim,ckP_nil,ck_end,and_true,true_and,List.map_cons,List.map_nil]
  refine⟨?_,?_⟩
  ·obtain⟨_,_,_,_,_,_,_⟩:=allA
   obtain⟨_,_,_,_,_,_,_⟩:=allB
   and_intros <;> first | rfl | exact⟨_,rfl,fun _=>⟨_,by first | assumption | (simp only[sA,sB,seval,fld0,fldA]; assumption),by first | exact aeq_V _ | exact aeq_int _ _ | exact aeq_cellR .. | exact (I2 E2p).p.aeq⟩⟩
  obtain⟨x0,x1,x2,_⟩:=ld3 (x:=va.x) (y:=va.y) (z:=va.z) (ra.same (H':=Hc) (by rw[kc _ om,kb _ om]))
  obtain⟨y0,y1,y2,_⟩:=ld3 (x:=wb.x) (y:=wb.y) (z:=wb.z) (rb.same (H':=Hc) (by rw[kc _ om]))
  obtain⟨z0,z1,z2,_⟩:=ld3 (x:=vc.x) (y:=vc.y) (z:=vc.z) rc
  obtain⟨Hd,md,rd,nd,kd⟩:=row_storeN (r2.same (H':=Hc) (by rw[kc _ om,kb _ om,ka _ om,E2p.old _ om])) (n:=6) rfl (xs:=(boxT va wb vc).cells) rfl rfl
  have w:=row_loadN rd (n:=6) rfl
  have bl:aBuild [.int .i64 0,.int .i64 0,.int .i64 0,.int .i64 0,.int .i64 0,.int .i64 0] [(0,3,.agg (v3 (min (min va.x wb.x) vc.x) (min (min va.y wb.y) vc.y) (min (min va.z wb.z) vc.z))),(3,3,.agg (v3 (max (max va.x wb.x) vc.x) (max (max va.y wb.y) vc.y) (max (max va.z wb.z) vc.z)))]=some (.agg (boxT va wb vc).cells):=rfl
  simp only[sA,sB,seval,fld0,fldA,x0,x1,x2,y0,y1,y2,z0,z1,z2,(mm3 va.x wb.x vc.x).1,(mm3 va.y wb.y vc.y).1,(mm3 va.z wb.z vc.z).1,(mm3 va.x wb.x vc.x).2,(mm3 va.y wb.y vc.y).2,(mm3 va.z wb.z vc.z).2,bl3,bl,md,fin_cc,OptP_some,w]
  exact⟨by first | rfl | trivial,⟨om,fun c hc=>by rw[kd c om,kc c om,kb c om,ka c om,E2p.old c om,e2.old c hc]⟩⟩
 ·have c2:(m.tris.length:Int)≤(i:Int):=om
  have c3:IntKind.i64.wrap ((i:Int)-(m.tris.length:Int))=((i-m.tris.length:Nat):Int):=w64
  rw[if_neg hlt]
  have hib:i-m.tris.length<m.balls.length:=by unfold Msh.n at hi; omega
  obtain⟨x,hx⟩:=isSome_of_lt hib
  have ix:=(I2 E3).b.idx hib
  have lx:=(I2 E3).b.loadE B_len hx
  have e3:=E3.next
  obtain⟨H4,m4,r4,n4,k4⟩:=row_newL H3 [.int .i64 0,.int .i64 0,.int .i64 0,.int .i64 0] (n:=4) rfl
  obtain⟨H5,m5,r5,n5,k5⟩:=row_storeN r4 (n:=4) rfl (xs:=x.cells) rfl rfl
  obtain⟨p0,p1,p2,p3⟩:=ld4 r5
  have xb:m.ball (i-m.tris.length)=x:=by unfold Msh.ball; rw[hx]; rfl
  rw[xb]
  obtain⟨⟨jx,jy,jz⟩,jr⟩:=ballOk_j (hm.b x (List.mem_of_getElem? hx))
  simp only[sA,sB,seval,c1,fldA,l1,l2,lt,c2,c3,ix,lx,m4,m5]
  refine aw_drawC rfl ?_
  simp only[sR,sA,sB,seval,fld0,fldA,p0,p3]
  refine (sub_spec jx jr).mono ?_
  rintro _ _ ⟨rfl,rfl⟩
  simp only[sR,sA,sB,seval,fld0,fldA,p1,p3]
  refine (sub_spec jy jr).mono ?_
  rintro _ _ ⟨rfl,rfl⟩
  simp only[sR,sA,sB,seval,fld0,fldA,p2,p3]
  refine (sub_spec jz jr).mono ?_
  rintro _ _ ⟨rfl,rfl⟩
  simp only[sR,sA,sB,seval,bl3,fld0,fldA,p0,p3]
  refine (add_spec jx jr).mono ?_
  rintro _ _ ⟨rfl,rfl⟩
  simp only[sR,sA,sB,seval,fld0,fldA,p1,p3]
  refine (add_spec jy jr).mono ?_
  rintro _ _ ⟨rfl,rfl⟩
  simp only[sR,sA,sB,seval,fld0,fldA,p2,p3]
  refine (add_spec jz jr).mono ?_
  rintro _ _ ⟨rfl,rfl⟩
  obtain⟨H6,m6,r6,n6,k6⟩:=row_storeN (r2.same (H':=H5) (by rw[k5 _ om,k4 _ om,E3.old _ om])) (n:=6) rfl (xs:=(boxB x).cells) rfl rfl
  have w:=row_loadN r6 (n:=6) rfl
  have bl:aBuild [.int .i64 0,.int .i64 0,.int .i64 0,.int .i64 0,.int .i64 0,.int .i64 0] [(0,3,.agg (v3 (fSub x.c.x x.r) (fSub x.c.y x.r) (fSub x.c.z x.r))),(3,3,.agg (v3 (fAdd x.c.x x.r) (fAdd x.c.y x.r) (fAdd x.c.z x.r)))]=some (.agg (boxB x).cells):=rfl
  simp only[sR,sA,sB,seval,bl3,bl,m6]
  simp only[ck_nil',ck_cons,ckP_load,ckP_nil,ck_end,and_true,true_and,List.map_cons,List.map_nil,sA,sB,seval,fin_cc,OptP_some,w]
  refine⟨?_,?_⟩
  ·and_intros <;> first | rfl | exact⟨_,rfl,fun _=>⟨_,by first | assumption | (simp only[sA,sB,seval,fld0,fldA]; assumption),aeq_int _ _⟩⟩
  ·exact⟨om,fun c hc=>by rw[k6 c om,k5 c om,k4 c om,E3.old c om,e2.old c hc]⟩
open Go.Abs Go.Abs.S
theorem fin_ccct{T:Env}{H:AHeap}(g1 g2 g3:Bool)(n1 n2 n3 i1 i2 i3 j:Nat)(K:AVal→AHeap→Prop){a b c:AVal}(h1:oLoad g1 n1 H (T i1)=some a)(h2:oLoad g2 n2 H (T i2)=some b)(h3:oLoad g3 n3 H (T i3)=some c)(hk:K (.tuple [a,b,c,T j]) H):fin [.cell g1 n1 i1,.cell g2 n2 i2,.cell g3 n3 i3,.t j] K .ret T H:=by
 rw[fin_ret]
 simp only[wRes,h1,h2,h3,OptP_some]
 exact hk
theorem at3(a b c:Int)(i:Nat)(hi:i<3):aIdx 3 1 false (.agg (v3 a b c)) (.int .i64 (i:Int))=some (.int .i64 (if i=0 then a else if i=1 then b else c)):=by
 match i,hi with
 | 0,_=>rfl
 | 1,_=>rfl
 | 2,_=>rfl
theorem corners_spec{m:Msh}(hm:m.ok){vp vt vb:AVal}{i:Nat}(hi:i<m.tris.length){H:AHeap}(I:MsIn (·<H.next) H vp vt vb m) :
  ACalls Tryz.prog noNat 51 [.agg (mshL vp vt vb),.int .i64 (i:Int)] H fun r H'=>r=.tuple [.agg (m.tri i).1.cells,.agg (m.tri i).2.1.cells,.agg (m.tri i).2.2.cells,.bool true]∧Ext H.next H H':=by
 have hnt:=hm.nt
 have hnp:=hm.np
 obtain⟨t,ht⟩:=isSome_of_lt hi
 have ok:=hm.t t (List.mem_of_getElem? ht)
 obtain⟨⟨ha0,ha1⟩,⟨hb0,hb1⟩,hc0,hc1⟩:=ok
 obtain⟨H1,m1,r1,n1,k1⟩:=row_newL H (mshL vp vt vb) (n:=3) rfl
 obtain⟨H2,m2,r2,n2,k2⟩:=row_newL H1 (v3 0 0 0) (n:=3) rfl
 obtain⟨H3,m3,r3,n3,k3⟩:=row_newL H2 (v3 0 0 0) (n:=3) rfl
 obtain⟨H4,m4,r4,n4,k4⟩:=row_newL H3 (v3 0 0 0) (n:=3) rfl
 obtain⟨H5,m5,r5,n5,k5⟩:=row_newL H4 (v3 0 0 0) (n:=3) rfl
 obtain⟨H6,m6,r6,n6,k6⟩:=row_storeN r5 (n:=3) rfl (xs:=t.cells) rfl rfl
 have old:∀c,c<H.next→H6.get c=H.get c:=fun c hc=>by rw[k6 c om,k5 c om,k4 c om,k3 c om,k2 c om,k1 c om]
 have E6:Ext H.next H H6:=⟨om,old⟩
 have E4:Ext H.next H H4:=⟨om,fun c hc=>by rw[k4 c om,k3 c om,k2 c om,k1 c om]⟩
 have q1:Row H4 H.next (mshL vp vt vb):=r1.same (by rw[k4 _ om,k3 _ om,k2 _ om])
 have s1:Row H6 H.next (mshL vp vt vb):=q1.same (by rw[k6 _ om,k5 _ om])
 have s2:Row H6 H1.next (v3 0 0 0):=r2.same (by rw[k6 _ om,k5 _ om,k4 _ om,k3 _ om])
 have s3:Row H6 H2.next (v3 0 0 0):=r3.same (by rw[k6 _ om,k5 _ om,k4 _ om])
 have s4:Row H6 H3.next (v3 0 0 0):=r4.same (by rw[k6 _ om,k5 _ om])
 have lp:=I.p.len
 have lt:=I.t.len
 obtain⟨_,l1,_,_⟩:=ldM q1
 have ix:=(I.up E4).t.idx hi
 have lx:=(I.up E4).t.loadE T_len ht
 have w6:oLoad true 3 H6 (cellR H4.next 3 0)=some (.agg (v3 t.a t.b t.c)):=(ldT r6).2.2.2
 refine acalls_ofN rfl za51 rfl ?_
 have c0:¬(i:Int)<0:=om
 have c1:¬(m.tris.length:Int)≤(i:Int):=om
 simp only[c51,sA,sB,seval,cells_agg,m1,m2,m3,m4,c0,fldA,l1,lt,c1,ix,lx,m5,m6,w6]
 refine aw_cut (fun (T':Env) H'=>H6=H'∧T' 2=cellR H.next 3 0∧T' 4=cellR H1.next 3 0∧T' 5=cellR H2.next 3 0∧T' 6=cellR H3.next 3 0∧T' 8=cellR H4.next 3 0) (calls_mono _ _) ?_ ?_
 ·refine aw_loop (fun k (T:Env) H'=>∃j:Nat,H6=H'∧j≤3∧k=3-j∧T 2=cellR H.next 3 0∧T 4=cellR H1.next 3 0∧T 5=cellR H2.next 3 0∧T 6=cellR H3.next 3 0∧T 8=cellR H4.next 3 0∧T 28=.agg (v3 t.a t.b t.c)∧T 29=.int .i64 (j:Int)) 3
   ⟨0,rfl,om,om,by simp only[sA,sB,seval],by simp only[sA,sB,seval],by simp only[sA,sB,seval],by simp only[sA,sB,seval],by simp only[sA,sB,seval],by simp only[sA,sB,seval],by simp only[sA,sB,seval]⟩ ?_
  rintro k T _ ⟨j,rfl,hj,rfl,t2,t4,t5,t6,t8,t28,t29⟩
  by_cases hlt:j<3
  ·have hlt':(j:Int)<3:=om
   have w1:=wrap1 j om
   have ij:=at3 t.a t.b t.c j hlt
   have hy:0≤(if j=0 then t.a else if j=1 then t.b else t.c)∧(if j=0 then t.a else if j=1 then t.b else t.c)<(m.pts.length:Int):=by
    split
    ·exact⟨ha0,ha1⟩
    ·split
     ·exact⟨hb0,hb1⟩
     ·exact⟨hc0,hc1⟩
   generalize (if j=0 then t.a else if j=1 then t.b else t.c)=y at ij hy
   have y0:¬y<0:=om
   have y1:¬(m.pts.length:Int)≤y:=om
   obtain⟨l0,_⟩:=ldM s1
   simp only[sA,sB,seval,t2,t28,t29,hlt',ij,y0,fld0,l0,lp,y1,w1]
   exact⟨_,om,j+1,by first | rfl | trivial,om,rfl,by first | exact t2 | trivial,t4,t5,t6,t8,by first | exact t28 | trivial,tt⟩
  ·have hlt':¬(j:Int)<3:=om
   simp only[sA,sB,seval,t29,hlt']
   exact⟨by first | rfl | trivial,t2,t4,t5,t6,t8⟩
 rintro T _ ⟨rfl,t2,t4,t5,t6,t8⟩
 have cell:∀{x:Int},0≤x→x<(m.pts.length:Int)→∃v,m.pt x=v∧aIdxA 3 vp (.int .i64 x)=some (placeK 3 vp x.toNat)∧∀{K:AHeap},Ext H.next H K→oLoad true 3 K (placeK 3 vp x.toNat)=some (.agg v.cells):=by
  intro x h0 h1
  have hx:x.toNat<m.pts.length:=om
  obtain⟨v,hv⟩:=isSome_of_lt hx
  refine⟨v,by unfold Msh.pt; rw[hv]; rfl,?_,fun {K} k=>(I.up k).p.loadE V_len hv⟩
  have:=I.p.idx hx
  rwa [show ((x.toNat:Nat):Int)=x by omega]at this
 obtain⟨i0,i1,i2⟩:=arr3 H4.next
 obtain⟨va,pa,xa,fa⟩:=cell ha0 ha1
 obtain⟨wb,pb,xb,fb⟩:=cell hb0 hb1
 obtain⟨vc,pc,xc,fc⟩:=cell hc0 hc1
 have em:m.tri i=(va,wb,vc):=by unfold Msh.tri; rw[ht]; simp only[pa,pb,pc]
 rw[em]
 have ya:=fa E6
 have yb:=fb E6
 have yc:=fc E6
 obtain⟨q0,_⟩:=ldM s1
 obtain⟨ta,tb,tc,_⟩:=ldT r6
 obtain⟨Ha,ma,ra,na,ka⟩:=row_storeN s2 (n:=3) rfl (xs:=va.cells) rfl rfl
 obtain⟨Hb,mb,rb,nb,kb⟩:=row_storeN (s3.same (H':=Ha) (ka _ om)) (n:=3) rfl (xs:=wb.cells) rfl rfl
 obtain⟨Hc,mc,rc,nc,kc⟩:=row_storeN (s4.same (H':=Hb) (by rw[kb _ om,ka _ om])) (n:=3) rfl (xs:=vc.cells) rfl rfl
 have all:∀{K:AHeap},(∀c,c≠H1.next→c≠H2.next→K.get c=H6.get c)→K.next=H6.next→oLoad false 1 K (cellR H.next 3 0)=some vp∧oLoad false 1 K (cellR H4.next 3 0)=some (.int .i64 t.a)∧oLoad false 1 K (cellR H4.next 3 1)=some (.int .i64 t.b)∧oLoad false 1 K (cellR H4.next 3 2)=some (.int .i64 t.c)∧oLoad true 3 K (placeK 3 vp t.a.toNat)=some (.agg va.cells)∧oLoad true 3 K (placeK 3 vp t.b.toNat)=some (.agg wb.cells)∧oLoad true 3 K (placeK 3 vp t.c.toNat)=some (.agg vc.cells):=fun {K} k kn=>by
  obtain⟨u1,u2,u3,_⟩:=ldT (r6.same (H':=K) (k _ om om))
  have e:Ext H.next H K:=⟨om,fun c hc=>by rw[k c om om,old c hc]⟩
  exact⟨(ldM (s1.same (H':=K) (k _ om om))).1,u1,u2,u3,fa e,fb e,fc e⟩
 have allA:=all (K:=Ha) (fun c h1 h2=>ka c h1) om
 have allB:=all (K:=Hb) (fun c h1 h2=>by rw[kb c h2,ka c h1]) om
 simp only[sA,sB,seval]
 refine aw_drawC rfl ?_
 simp only[sR,sA,sB,seval,t2,t4,t5,t6,t8,fld0,q0,i0,i1,i2,ta,tb,tc,xa,ya,xb,yb,xc,yc,ma,mb,mc]
 simp only[ck_nil',ck_cons,ckP_load,ckP_nil,ck_end,and_true,true_and,List.map_cons,List.map_nil,sA,sB,seval,t2,t4,t5,t6,t8]
 refine⟨?_,?_⟩
 ·obtain⟨_,_,_,_,_,_,_⟩:=allA
  obtain⟨_,_,_,_,_,_,_⟩:=allB
  and_intros <;> first | rfl | exact⟨_,rfl,fun _=>⟨_,by first | assumption | (simp only[sA,sB,seval,t2,t8,fld0,fldA,i0,i1,i2]; assumption),by first | exact aeq_V _ | exact aeq_int _ _ | exact aeq_cellR .. | exact I.p.aeq⟩⟩
 ·refine fin_ccct _ _ _ _ _ _ _ _ _ _ _ (a:=.agg va.cells) (b:=.agg wb.cells) (c:=.agg vc.cells) ?_ ?_ ?_ ?_
  ·simp only[sA,sB,seval,t4]; exact ld3V (ra.same (by rw[kc _ om,kb _ om]))
  ·simp only[sA,sB,seval,t5]; exact ld3V (rb.same (by rw[kc _ om]))
  ·simp only[sA,sB,seval,t6]; exact ld3V rc
  ·simp only[sA,sB,seval]; exact⟨by first | rfl | trivial,⟨om,fun c hc=>by rw[kc c om,kb c om,ka c om,old c hc]⟩⟩
open Go.Abs Go.Abs.S
def oS:Option Hit→AVal
 | some h=>.tuple [.agg h.cells,.bool true]
 | none=>.tuple [.agg noHit.cells,.bool false]
theorem hb2(t i:Int):aBuild (h4 0 0 0 0) [(0,1,.int .i64 t),(1,1,.int .i64 i)]=some (.agg (h4 t i 0 0)):=rfl
theorem ballF_j{r:Ray}{b:Bll}{p:Int×Int}(h:ballF r b=some p):J64 p.1∧J64 p.2:=by
 unfold ballF at h
 simp only at h
 split at h
 ·cases h
 split at h
 ·cases h
 obtain rfl:=Option.some.inj h
 exact⟨fDiv_j ..,fDiv_j ..⟩
theorem ball2(a b:Int):aBuild [.int .i64 0,.int .i64 0] [(0,1,.int .i64 a),(1,1,.int .i64 b)]=some (.agg [.int .i64 a,.int .i64 b]):=rfl
theorem idx2(a b:Int)(i:Nat)(hi:i<2):aIdx 2 1 false (.agg [.int .i64 a,.int .i64 b]) (.int .i64 (i:Int))=some (.int .i64 (if i=0 then a else b)):=by
 match i,hi with
 | 0,_=>rfl
 | 1,_=>rfl
theorem aeq_R(r:Ray):aeq (.agg r.cells) (.agg r.cells)=true:=by simp[Ray.cells,V.cells,aeq,aeqs,aeq_int,eqF_eq]
theorem bshape_spec{m:Msh}(hm:m.ok){vp vt vb:AVal}{i:Nat}(hi:i<m.n)(hnt:¬i<m.tris.length){r:Ray}(hr:r.j){least:Int}{H:AHeap}(I:MsIn (·<H.next) H vp vt vb m) :
  ACalls Tryz.prog noNat 117 [.agg (mshL vp vt vb),.int .i64 (i:Int),.agg r.cells,.int .i64 least] H fun v H'=>v=oS (shapeF m i r least)∧Ext H.next H H':=by
 have hnb:m.n≤8192:=by unfold Msh.n; have:=hm.nt; have:=hm.nb; omega
 obtain⟨H1,m1,r1,n1,k1⟩:=row_newL H (mshL vp vt vb) (n:=3) rfl
 obtain⟨H2,m2,r2,n2,k2⟩:=row_newL H1 r.cells (n:=6) rfl
 obtain⟨H3,m3,r3,n3,k3⟩:=row_newL H2 (h4 0 0 0 0) (n:=4) rfl
 have E3:Ext H.next H H3:=⟨om,fun c hc=>by rw[k3 c om,k2 c om,k1 c om]⟩
 have lt:=I.t.len
 have a1:∀{K:AHeap},Ext H3.next H3 K→_:=fun {K} e=>ldM (r1.same (H':=K) (by rw[e.old _ om,k3 _ om,k2 _ om]))
 have a2:∀{K:AHeap},Ext H3.next H3 K→oLoad true 6 K (cellR H1.next 6 0)=some (.agg r.cells):=fun {K} e=>row_loadN (r2.same (H':=K) (by rw[e.old _ om,k3 _ om])) (n:=6) rfl
 have I3:∀{K:AHeap},Ext H3.next H3 K→MsIn (·<K.next) K vp vt vb m:=fun {K} e=>(I.up (E3.trans (e.less E3.next))).more (Nat.le_trans E3.next e.next)
 have fin4:∀{K:AHeap} (x:Hit),Ext H3.next H3 K→∃K',oStore 4 K (cellR H2.next 4 0) (.agg (h4 x.t x.i x.u x.v))=some K'∧oLoad true 4 K' (cellR H2.next 4 0)=some (.agg (h4 x.t x.i x.u x.v))∧Ext H.next H K':=fun {K} x e=>by
  have:=e.next
  obtain⟨K',q1,q2,q3,q4⟩:=row_storeN (r3.same (H':=K) (e.old _ om)) (n:=4) rfl (xs:=h4 x.t x.i x.u x.v) rfl rfl
  exact⟨K',q1,row_loadN q2 (n:=4) rfl,om,fun c hc=>by rw[q4 c om,e.old c om,E3.old c hc]⟩
 have finN:∀{K:AHeap},Ext H3.next H3 K→∃K',oStore 4 K (cellR H2.next 4 0) (.agg noHit.cells)=some K'∧oLoad true 4 K' (cellR H2.next 4 0)=some (.agg noHit.cells)∧Ext H.next H K':=fun {K} e=>fin4 noHit e
 refine acalls_ofN rfl za117 rfl ?_
 have D0:Ext H3.next H3 H3:=.refl _ _
 have l6:=a2 D0
 have l3:=(a1 D0).2.2.2
 simp only[c117,sA,sB,seval,cells_agg,m1,m2,m3]
 refine aw_drawC rfl ?_
 simp only[sR,sA,sB,seval,l6,l3]
 refine (mbox_spec hm hi (I3 D0)).mono ?_
 rintro _ H4 ⟨rfl,E4⟩
 simp only[sR,sA,sB,seval]
 refine (box_spec hr (hm.box i)).mono ?_
 rintro _ H5 ⟨rfl,E5⟩
 have E35:Ext H3.next H3 H5:=E4.trans (E5.less E4.next)
 have l64:=a2 E4
 unfold shapeF
 have hib:i-m.tris.length<m.balls.length:=by unfold Msh.n at hi; omega
 obtain⟨x,hx⟩:=isSome_of_lt hib
 have xb:m.ball (i-m.tris.length)=x:=by unfold Msh.ball; rw[hx]; rfl
 have jx:=ballOk_j (hm.b x (List.mem_of_getElem? hx))
 rw[xb]
 cases hbx:boxF r (boxOf m i) with
 | none=>
  simp only[sR,sA,sB,seval,oI,ext_0,ext_1]
  simp only[ck_nil',ck_cons,ckP_load,ckP_nil,ck_end,and_true,true_and,List.map_cons,List.map_nil]
  refine⟨?_,?_⟩
  ·and_intros <;> first | rfl | exact⟨_,rfl,fun _=>⟨_,by first | assumption | (simp only[sA,sB,seval]; assumption),aeq_R _⟩⟩
  refine none_spec.mono ?_
  rintro _ H6 ⟨rfl,E6⟩
  obtain⟨K,q1,q2,q3⟩:=finN (E35.trans (E6.less E35.next))
  simp only[sA,sB,seval,q1,fin_ct,OptP_some,q2]
  exact⟨tt,q3⟩
 | some near=>
  have jn:=boxF_j hbx
  have c0:¬i<m.tris.length:=hnt
  have c3:IntKind.i64.wrap ((i:Int)-(m.tris.length:Int))=((i-m.tris.length:Nat):Int):=w64
  have ix:=(I3 E35).b.idx hib
  have lx:=(I3 E35).b.loadE B_len hx
  obtain⟨_,l1,l2,_⟩:=a1 E35
  have l65:=a2 E35
  simp only[sR,sA,sB,seval,oI,ext_0,ext_1]
  simp only[ck_nil',ck_cons,ckP_load,ckP_nil,ck_end,and_true,true_and,List.map_cons,List.map_nil]
  refine⟨?_,?_⟩
  ·and_intros <;> first | rfl | exact⟨_,rfl,fun _=>⟨_,by first | assumption | (simp only[sA,sB,seval]; assumption),aeq_R _⟩⟩
  simp only[sA,sB,seval,fldA,l65,l2,l1,lt,c3,ix,lx,if_neg c0]
  refine (ball_spec hr jx).mono ?_
  rintro _ H6 ⟨rfl,E6⟩
  have E36:Ext H3.next H3 H6:=E35.trans (E6.less E35.next)
  cases hbf:ballF r x with
  | none=>
   simp only[sA,sB,seval,oB,ext_0,ext_1,ext_2]
   refine none_spec.mono ?_
   rintro _ H7 ⟨rfl,E7⟩
   obtain⟨K,q1,q2,q3⟩:=finN (E36.trans (E7.less E36.next))
   simp only[sA,sB,seval,q1,fin_ct,OptP_some,q2]
   exact⟨tt,q3⟩
  | some p=>
   simp only[sA,sB,seval,oB,ext_0,ext_1,ext_2,ball2]
   obtain⟨pk,hpk⟩:∃f:Nat→Int,f=fun k=>if k=0 then p.1 else p.2:=⟨_,rfl⟩
   have hp0:pk 0=p.1:=by rw[hpk]; rfl
   have hp1:pk 1=p.2:=by rw[hpk]; rfl
   refine aw_cut (fun (T':Env) H'=>H6=H'∧(∀k,k<2→¬(0≤pk k∧least≤max (pk k) near))∧T' 8=cellR H2.next 4 0) (calls_mono _ _) ?_ ?_
   ·refine aw_loop (fun q (T:Env) H'=>∃j:Nat,H6=H'∧j≤2∧q=2-j∧(∀k,k<j→¬(0≤pk k∧least≤max (pk k) near))∧T 1=.int .i64 (i:Int)∧T 3=.int .i64 least∧T 8=cellR H2.next 4 0∧T 10=.int .i64 near∧T 47=.agg [.int .i64 p.1,.int .i64 p.2]∧T 48=.int .i64 (j:Int)) 2
     ⟨0,rfl,om,om,fun k hk=>om,by simp only[sA,sB,seval],by simp only[sA,sB,seval],by simp only[sA,sB,seval],by simp only[sA,sB,seval],by simp only[sA,sB,seval],by simp only[sA,sB,seval]⟩ ?_
    rintro q T _ ⟨j,rfl,hj,rfl,ha,t1,t3,t8,t10,t47,t48⟩
    by_cases hlt:j<2
    ·have hlt':(j:Int)<2:=om
     have w1:=wrap1 j om
     have ij:=idx2 p.1 p.2 j hlt
     have ij':aIdx 2 1 false (.agg [.int .i64 p.1,.int .i64 p.2]) (.int .i64 (j:Int))=some (.int .i64 (pk j)):=by rw[hpk]; exact ij
     have next:¬(0≤pk j∧least≤max (pk j) near)→∀k,k<j+1→¬(0≤pk k∧least≤max (pk k) near):=fun h k hk=>by
      by_cases hkj:k=j
      ·rw[hkj]; exact h
      ·exact ha k om
     by_cases y0:pk j<0
     ·simp only[sA,sB,seval,t47,t48,hlt',ij',y0,w1]
      exact⟨_,om,j+1,by first | rfl | trivial,om,rfl,next om,t1,t3,t8,t10,by first | exact t47 | trivial,tt⟩
     ·by_cases y1:least≤max (pk j) near
      ·obtain⟨K,q1,q2,q3⟩:=fin4 ⟨max (pk j) near,i,0,0⟩ E36
       have q1':oStore 4 H6 (cellR H2.next 4 0) (.agg (h4 (max (pk j) near) (i:Int) 0 0))=some K:=q1
       have q2':oLoad true 4 K (cellR H2.next 4 0)=some (.agg (h4 (max (pk j) near) (i:Int) 0 0)):=q2
       simp only[sA,sB,seval,t1,t3,t8,t10,t47,t48,hlt',ij',y0,pf_maxI,max_if,y1,hb2,q1',fin_ct,OptP_some,q2']
       refine⟨?_,q3⟩
       match j,hlt with
       | 0,_=>rw[hp0]at y0 y1 ⊢; rw[if_pos ⟨om,y1⟩]; rfl
       | 1,_=>
        have h0:=ha 0 om
        rw[hp0]at h0
        rw[hp1]at y0 y1 ⊢; rw[if_neg h0,if_pos ⟨om,y1⟩]; rfl
      ·simp only[sA,sB,seval,t3,t10,t47,t48,hlt',ij',y0,pf_maxI,max_if,y1,w1]
       exact⟨_,om,j+1,by first | rfl | trivial,om,rfl,next om,t1,by first | exact t3 | trivial,t8,by first | exact t10 | trivial,by first | exact t47 | trivial,tt⟩
    ·have hlt':¬(j:Int)<2:=om
     simp only[sA,sB,seval,t48,hlt']
     exact⟨by first | rfl | trivial,fun k hk=>ha k om,t8⟩
   rintro T _ ⟨rfl,ha,t8⟩
   have h0:=ha 0 om
   have h1:=ha 1 om
   rw[hp0]at h0
   rw[hp1]at h1
   simp only[if_neg h0,if_neg h1]
   simp only[sA,sB,seval,t8]
   refine none_spec.mono ?_
   rintro _ H7 ⟨rfl,E7⟩
   obtain⟨K,q1,q2,q3⟩:=finN (E36.trans (E7.less E36.next))
   simp only[sA,sB,seval,t8,q1,fin_ct,OptP_some,q2]
   exact⟨by first | rfl | trivial,q3⟩
open Go.Abs Go.Abs.S
theorem ext_3(a b c d:AVal)(r:List AVal):aExtract 3 (.tuple (a::b::c::d::r))=some d:=_root_.id rfl
theorem oS_cases(o:Option Hit):∃h b,oS o=.tuple [.agg (h4 h.t h.i h.u h.v),.bool b]∧((o=some h∧b=true)∨(o=none∧b=false∧h=noHit)):=by
 cases o with
 | none=>exact⟨noHit,false,rfl,.inr ⟨rfl,rfl,rfl⟩⟩
 | some h=>exact⟨h,true,rfl,.inl ⟨rfl,rfl⟩⟩
theorem shape_spec{m:Msh}(hm:m.ok){vp vt vb:AVal}{i:Nat}(hi:i<m.n){r:Ray}(hr:r.j){least:Int}{H:AHeap}(I:MsIn (·<H.next) H vp vt vb m) :
  ACalls Tryz.prog noNat 90 [.agg (mshL vp vt vb),.int .i64 (i:Int),.agg r.cells,.int .i64 least] H fun v H'=>v=oS (shapeF m i r least)∧Ext H.next H H':=by
 have hnb:m.n≤8192:=by unfold Msh.n; have:=hm.nt; have:=hm.nb; omega
 obtain⟨H1,m1,r1,n1,k1⟩:=row_newL H (mshL vp vt vb) (n:=3) rfl
 obtain⟨H2,m2,r2,n2,k2⟩:=row_newL H1 r.cells (n:=6) rfl
 obtain⟨H3,m3,r3,n3,k3⟩:=row_newL H2 (h4 0 0 0 0) (n:=4) rfl
 have E3:Ext H.next H H3:=⟨om,fun c hc=>by rw[k3 c om,k2 c om,k1 c om]⟩
 have lt:=I.t.len
 have a1:∀{K:AHeap},Ext H3.next H3 K→_:=fun {K} e=>ldM (r1.same (H':=K) (by rw[e.old _ om,k3 _ om,k2 _ om]))
 have a2:∀{K:AHeap},Ext H3.next H3 K→oLoad true 6 K (cellR H1.next 6 0)=some (.agg r.cells):=fun {K} e=>row_loadN (r2.same (H':=K) (by rw[e.old _ om,k3 _ om])) (n:=6) rfl
 have I3:∀{K:AHeap},Ext H3.next H3 K→MsIn (·<K.next) K vp vt vb m:=fun {K} e=>(I.up (E3.trans (e.less E3.next))).more (Nat.le_trans E3.next e.next)
 have fin4:∀{K:AHeap} (x:Hit),Ext H3.next H3 K→∃K',oStore 4 K (cellR H2.next 4 0) (.agg (h4 x.t x.i x.u x.v))=some K'∧oLoad true 4 K' (cellR H2.next 4 0)=some (.agg (h4 x.t x.i x.u x.v))∧Ext H.next H K':=fun {K} x e=>by
  have:=e.next
  obtain⟨K',q1,q2,q3,q4⟩:=row_storeN (r3.same (H':=K) (e.old _ om)) (n:=4) rfl (xs:=h4 x.t x.i x.u x.v) rfl rfl
  exact⟨K',q1,row_loadN q2 (n:=4) rfl,om,fun c hc=>by rw[q4 c om,e.old c om,E3.old c hc]⟩
 have finN:∀{K:AHeap},Ext H3.next H3 K→∃K',oStore 4 K (cellR H2.next 4 0) (.agg noHit.cells)=some K'∧oLoad true 4 K' (cellR H2.next 4 0)=some (.agg noHit.cells)∧Ext H.next H K':=fun {K} e=>fin4 noHit e
 refine acalls_ofN rfl za90 rfl ?_
 have D0:Ext H3.next H3 H3:=.refl _ _
 have c0:¬(i:Int)<0:=om
 have c1:¬(m.n:Int)≤(i:Int):=om
 have l3:=(a1 D0).2.2.2
 simp only[c90,sA,sB,seval,cells_agg,m1,m2,m3,c0,l3]
 refine (count_spec (I3 D0) om).mono ?_
 rintro _ H4 ⟨rfl,E4⟩
 obtain⟨_,l1,_,l3⟩:=a1 E4
 have l6:=a2 E4
 by_cases hlt:i<m.tris.length
 rotate_left
 ·have c2:(m.tris.length:Int)≤(i:Int):=om
  simp only[sA,sB,seval,c1,fldA,l1,lt,c2,l3,l6]
  refine (bshape_spec hm hi hlt hr (I3 E4)).mono ?_
  rintro _ H5 ⟨rfl,E5⟩
  obtain⟨h,b,eo,_⟩:=oS_cases (shapeF m i r least)
  obtain⟨K,q1,q2,q3⟩:=fin4 h (E4.trans (E5.less E4.next))
  simp only[sA,sB,seval,eo,ext_0,ext_1,q1,fin_ct,OptP_some,q2]
  exact⟨tt,q3⟩
 have c2:¬(m.tris.length:Int)≤(i:Int):=om
 unfold shapeF
 simp only[sA,sB,seval,c1,fldA,l1,lt,c2,l3]
 refine (corners_spec hm hlt (I3 E4)).mono ?_
 rintro _ H5 ⟨rfl,E5⟩
 have E35:Ext H3.next H3 H5:=E4.trans (E5.less E4.next)
 obtain⟨ja,jb,jc⟩:=hm.tri i
 simp only[if_pos hlt]
 obtain⟨T3,hT⟩:∃t,t=m.tri i:=⟨_,rfl⟩
 rw[← hT]at ja jb jc ⊢
 obtain⟨va,wb,vc⟩:=T3
 have n35:=E35.next
 obtain⟨H6,m6,r6,n6,k6⟩:=row_newL H5 (v3 0 0 0) (n:=3) rfl
 obtain⟨H7,m7,r7,n7,k7⟩:=row_newL H6 (v3 0 0 0) (n:=3) rfl
 obtain⟨H8,m8,r8,n8,k8⟩:=row_newL H7 (v3 0 0 0) (n:=3) rfl
 obtain⟨H9,m9,r9,n9,k9⟩:=row_storeN (r6.same (H':=H8) (by rw[k8 _ om,k7 _ om])) (n:=3) rfl (xs:=va.cells) rfl rfl
 obtain⟨Ha,ma,ra,na,ka⟩:=row_storeN (r7.same (H':=H9) (by rw[k9 _ om,k8 _ om])) (n:=3) rfl (xs:=wb.cells) rfl rfl
 obtain⟨Hb,mb,rb,nb,kb⟩:=row_storeN (r8.same (H':=Ha) (by rw[ka _ om,k9 _ om])) (n:=3) rfl (xs:=vc.cells) rfl rfl
 have Eb:Ext H3.next H3 Hb:=⟨om,fun c hc=>by rw[kb c om,ka c om,k9 c om,k8 c om,k7 c om,k6 c om,E35.old c hc]⟩
 have sa:∀{K:AHeap},Ext Hb.next Hb K→oLoad true 3 K (cellR H5.next 3 0)=some (.agg va.cells):=fun {K} x=>ld3V (r9.same (H':=K) (by rw[x.old _ om,kb _ om,ka _ om]))
 have sb:∀{K:AHeap},Ext Hb.next Hb K→oLoad true 3 K (cellR H6.next 3 0)=some (.agg wb.cells):=fun {K} x=>ld3V (ra.same (H':=K) (by rw[x.old _ om,kb _ om]))
 have sc:∀{K:AHeap},Ext Hb.next Hb K→oLoad true 3 K (cellR H7.next 3 0)=some (.agg vc.cells):=fun {K} x=>ld3V (rb.same (H':=K) (x.old _ om))
 simp only[sA,sB,seval,ext_0,ext_1,ext_2,ext_3,m6,m7,m8,m9,ma,mb]
 have lb6:=a2 Eb
 have lb3:=(a1 Eb).2.2.2
 refine aw_drawC rfl ?_
 simp only[sR,sA,sB,seval,lb6,lb3]
 refine (mbox_spec hm hi (I3 Eb)).mono ?_
 rintro _ Hc ⟨rfl,Ec⟩
 simp only[sR,sA,sB,seval]
 refine (box_spec hr (hm.box i)).mono ?_
 rintro _ Hd ⟨rfl,Ed⟩
 have Ebc:Ext H3.next H3 Hc:=Eb.trans (Ec.less Eb.next)
 have Ebd':Ext Hb.next Hb Hd:=Ec.trans (Ed.less Ec.next)
 have Ebd:Ext H3.next H3 Hd:=Eb.trans (Ebd'.less Eb.next)
 have lc6:=a2 Ebc
 cases hbx:boxF r (boxOf m i) with
 | none=>
  simp only[sR,sA,sB,seval,oI,ext_0,ext_1]
  simp only[ck_nil',ck_cons,ckP_load,ckP_nil,ck_end,and_true,true_and,List.map_cons,List.map_nil]
  refine⟨?_,?_⟩
  ·and_intros <;> first | rfl | exact⟨_,rfl,fun _=>⟨_,by first | assumption | (simp only[sA,sB,seval]; assumption),aeq_R _⟩⟩
  refine none_spec.mono ?_
  rintro _ He ⟨rfl,Ee⟩
  obtain⟨K,q1,q2,q3⟩:=finN (Ebd.trans (Ee.less Ebd.next))
  simp only[sA,sB,seval,q1,fin_ct,OptP_some,q2]
  exact⟨tt,q3⟩
 | some near=>
  have ld6:=a2 Ebd
  have xa:=sa Ebd'
  have xb:=sb Ebd'
  have xc:=sc Ebd'
  simp only[sR,sA,sB,seval,oI,ext_0,ext_1]
  simp only[ck_nil',ck_cons,ckP_load,ckP_nil,ck_end,and_true,true_and,List.map_cons,List.map_nil]
  refine⟨?_,?_⟩
  ·and_intros <;> first | rfl | exact⟨_,rfl,fun _=>⟨_,by first | assumption | (simp only[sA,sB,seval]; assumption),aeq_R _⟩⟩
  simp only[sA,sB,seval,ld6,xa,xb,xc]
  refine (tri_spec hr ja jb jc).mono ?_
  rintro _ He ⟨rfl,Ee⟩
  have Ebe:Ext H3.next H3 He:=Ebd.trans (Ee.less Ebd.next)
  have nbe:=Ebe.next
  cases htf:triF r va wb vc with
  | none=>
   obtain⟨Hf,mf,rf,nf,kf⟩:=row_newL He (h4 0 0 0 0) (n:=4) rfl
   obtain⟨Hg,mg,rg,ng,kg⟩:=row_storeN rf (n:=4) rfl (xs:=H0.cells) rfl rfl
   have Eg:Ext H3.next H3 Hg:=⟨om,fun c hc=>by rw[kg c om,kf c om,Ebe.old c hc]⟩
   simp only[sA,sB,seval,oT,ext_0,ext_1,mf,mg]
   refine none_spec.mono ?_
   rintro _ Hh ⟨rfl,Eh⟩
   obtain⟨K,q1,q2,q3⟩:=finN (Eg.trans (Eh.less Eg.next))
   simp only[sA,sB,seval,q1,fin_ct,OptP_some,q2]
   exact⟨tt,q3⟩
  | some h=>
   obtain⟨Hf,mf,rf,nf,kf⟩:=row_newL He (h4 0 0 0 0) (n:=4) rfl
   obtain⟨Hg,mg,rg,ng,kg⟩:=row_storeN rf (n:=4) rfl (xs:=h4 h.t h.i h.u h.v) rfl rfl
   have mg':oStore 4 Hf (cellR He.next 4 0) (.agg h.cells)=some Hg:=mg
   have w0:oLoad false 1 Hg (cellR He.next 4 0)=some (.int .i64 h.t):=row_load rg rfl rfl
   obtain⟨Hh,mh,rh,nh,kh⟩:=row_st rg (n:=4) rfl (i:=0) om (x:=.int .i64 (max h.t near)) rfl (l':=h4 (max h.t near) h.i h.u h.v) rfl
   have w1:oLoad false 1 Hh (cellR He.next 4 0)=some (.int .i64 (max h.t near)):=row_load rh rfl rfl
   have Eh:Ext H3.next H3 Hh:=⟨om,fun c hc=>by rw[kh c om,kg c om,kf c om,Ebe.old c hc]⟩
   by_cases hl:max h.t near<least
   ·simp only[sA,sB,seval,oT,ext_0,ext_1,mf,mg',fld0,w0,pf_maxI,max_if,mh,w1,hl]
    refine none_spec.mono ?_
    rintro _ Hi ⟨rfl,Ei⟩
    obtain⟨K,q1,q2,q3⟩:=finN (Eh.trans (Ei.less Eh.next))
    simp only[sA,sB,seval,q1,fin_ct,OptP_some,q2]
    exact⟨tt,q3⟩
   ·obtain⟨Hi,mi,ri,ni,ki⟩:=row_st rh (n:=4) rfl (i:=1) om (x:=.int .i64 (i:Int)) rfl (l':=h4 (max h.t near) (i:Int) h.u h.v) rfl
    have w4:=row_loadN ri (n:=4) rfl
    have Ei:Ext H3.next H3 Hi:=⟨om,fun c hc=>by rw[ki c om,Eh.old c hc]⟩
    obtain⟨K,q1,q2,q3⟩:=fin4 ⟨max h.t near,i,h.u,h.v⟩ Ei
    have q1':oStore 4 Hi (cellR H2.next 4 0) (.agg (h4 (max h.t near) (i:Int) h.u h.v))=some K:=q1
    have q2':oLoad true 4 K (cellR H2.next 4 0)=some (.agg (h4 (max h.t near) (i:Int) h.u h.v)):=q2
    simp only[sA,sB,seval,oT,ext_0,ext_1,mf,mg',fld0,fldA,w0,pf_maxI,max_if,mh,w1,hl,mi,w4,q1',fin_ct,OptP_some,q2']
    exact⟨by first | rfl | trivial,q3⟩
open Go.Abs Go.Abs.S
theorem SlK.loadJ{P:Nat→Prop}{H:AHeap}{m k:Nat}{v:AVal}{C:List AVal}(h:SlK P H m v k C){i j:Nat}(hi:i<k)(hj:j≤m):oLoad true j H (placeK m v i)=some (.agg ((C.drop (i*m)).take j)):=by
 rcases h with⟨_,rfl,_⟩ | ⟨a,r,rfl,_,h3⟩
 ·omega
 ·have hm:i*m+j≤m*k:=by
   have:(i+1)*m≤k*m:=Nat.mul_le_mul_right m hi
   rw[Nat.mul_comm m k]; rw[Nat.add_mul,Nat.one_mul]at this; omega
  simp only[oLoad,placeK,rd_part h3 hm,cond_true]
theorem SlK.fld{P:Nat→Prop}{H:AHeap}{m k:Nat}{v:AVal}{C:List AVal}(h:SlK P H m v k C){i:Nat}(hi:i<k):aField 0 (placeK m v i)=some (placeK m v i):=by
 rcases h with⟨_,rfl,_⟩ | ⟨a,r,rfl,_,h3⟩
 ·omega
 ·rfl
theorem normal_spec{m:Msh}(hm:m.ok){vp vt vb:AVal}{h:Hit}(hj:J64 h.t){i:Nat}(hhi:h.i=(i:Int))(hi:i<m.n){r:Ray}(hr:r.j){H:AHeap}(I:MsIn (·<H.next) H vp vt vb m) :
  ACalls Tryz.prog noNat 24 [.agg (mshL vp vt vb),.agg h.cells,.agg r.cells] H fun v H'=>v=.agg (normalF m h r).cells∧Ext H.next H H':=by
 have hnb:m.n≤8192:=by unfold Msh.n; have:=hm.nt; have:=hm.nb; omega
 obtain⟨H1,m1,r1,n1,k1⟩:=row_newL H (mshL vp vt vb) (n:=3) rfl
 obtain⟨H2,m2,r2,n2,k2⟩:=row_newL H1 (h4 h.t h.i h.u h.v) (n:=4) rfl
 have m2':oNew H1 h.cells=(cellR H1.next 4 0,H2):=m2
 obtain⟨H3,m3,r3,n3,k3⟩:=row_newL H2 r.cells (n:=6) rfl
 obtain⟨H4,m4,r4,n4,k4⟩:=row_newL H3 (v3 0 0 0) (n:=3) rfl
 have E4:Ext H.next H H4:=⟨om,fun c hc=>by rw[k4 c om,k3 c om,k2 c om,k1 c om]⟩
 have lt:=I.t.len
 have w1:∀{K:AHeap},Ext H4.next H4 K→_:=fun {K} e=>ldM (r1.same (H':=K) (by rw[e.old _ om,k4 _ om,k3 _ om,k2 _ om]))
 have s2:∀{K:AHeap},Ext H4.next H4 K→Row K H1.next (h4 h.t h.i h.u h.v):=fun {K} e=>r2.same (H':=K) (by rw[e.old _ om,k4 _ om,k3 _ om])
 have w3:∀{K:AHeap},Ext H4.next H4 K→_:=fun {K} e=>ldB (v:=r.o) (u:=r.d) (r3.same (H':=K) (by rw[e.old _ om,k4 _ om]))
 have I4:∀{K:AHeap},Ext H4.next H4 K→MsIn (·<K.next) K vp vt vb m:=fun {K} e=>(I.up (E4.trans (e.less E4.next))).more (Nat.le_trans E4.next e.next)
 refine acalls_ofN rfl za24 rfl ?_
 have D0:Ext H4.next H4 H4:=.refl _ _
 have li:∀{K:AHeap},Ext H4.next H4 K→oLoad false 1 K (cellR H1.next 4 1)=some (.int .i64 (i:Int)):=fun {K} e=>by rw[← hhi]; exact row_load (s2 e) rfl rfl
 have lt0:∀{K:AHeap},Ext H4.next H4 K→oLoad false 1 K (cellR H1.next 4 0)=some (.int .i64 h.t):=fun {K} e=>row_load (s2 e) rfl rfl
 have li0:=li D0
 have l3:=(w1 D0).2.2.2
 have c0:¬(i:Int)<0:=om
 have c1:¬(m.n:Int)≤(i:Int):=om
 simp only[c24,sA,sB,seval,cells_agg,m1,m2',m3,m4,fldA,li0,c0,l3]
 refine (count_spec (I4 D0) om).mono ?_
 rintro _ H5 ⟨rfl,E5⟩
 have n5:=E5.next
 obtain⟨H6,m6,r6,n6,k6⟩:=row_newL H5 (v3 0 0 0) (n:=3) rfl
 have E6:Ext H4.next H4 H6:=⟨om,fun c hc=>by rw[k6 c om,E5.old c hc]⟩
 obtain⟨_,l1,_,l36⟩:=w1 E6
 unfold normalF
 rw[hhi,Int.toNat_natCast]
 by_cases hlt:i<m.tris.length
 ·have c2:(i:Int)<(m.tris.length:Int):=om
  simp only[if_pos c2]
  simp only[sA,sB,seval,c1,m6,fldA,l1,lt,eq_true c2,l36]
  refine (corners_spec hm hlt (I4 E6)).mono ?_
  rintro _ H7 ⟨rfl,E7⟩
  obtain⟨ja,jb,jc⟩:=hm.tri i
  obtain⟨T3,hT⟩:∃t,t=m.tri i:=⟨_,rfl⟩
  rw[← hT]at ja jb jc ⊢
  obtain⟨va,wb,vc⟩:=T3
  have n7:=E7.next
  obtain⟨H8,m8,r8,n8,k8⟩:=row_newL H7 (v3 0 0 0) (n:=3) rfl
  obtain⟨H9,m9,r9,n9,k9⟩:=row_newL H8 (v3 0 0 0) (n:=3) rfl
  obtain⟨Ha,ma,ra,na,ka⟩:=row_newL H9 (v3 0 0 0) (n:=3) rfl
  obtain⟨Hb,mb,rb,nb,kb⟩:=row_storeN (r8.same (H':=Ha) (by rw[ka _ om,k9 _ om])) (n:=3) rfl (xs:=va.cells) rfl rfl
  obtain⟨Hc,mc,rc,nc,kc⟩:=row_storeN (r9.same (H':=Hb) (by rw[kb _ om,ka _ om])) (n:=3) rfl (xs:=wb.cells) rfl rfl
  obtain⟨Hd,md,rd,nd,kd⟩:=row_storeN (ra.same (H':=Hc) (by rw[kc _ om,kb _ om])) (n:=3) rfl (xs:=vc.cells) rfl rfl
  have Ed:Ext H6.next H6 Hd:=⟨om,fun c hc=>by rw[kd c om,kc c om,kb c om,ka c om,k9 c om,k8 c om,E7.old c hc]⟩
  have sa:∀{K:AHeap},Ext Hd.next Hd K→oLoad true 3 K (cellR H7.next 3 0)=some (.agg va.cells):=fun {K} x=>ld3V (rb.same (H':=K) (by rw[x.old _ om,kd _ om,kc _ om]))
  have sb:∀{K:AHeap},Ext Hd.next Hd K→oLoad true 3 K (cellR H8.next 3 0)=some (.agg wb.cells):=fun {K} x=>ld3V (rc.same (H':=K) (by rw[x.old _ om,kd _ om]))
  have sc:∀{K:AHeap},Ext Hd.next Hd K→oLoad true 3 K (cellR H9.next 3 0)=some (.agg vc.cells):=fun {K} x=>ld3V (rd.same (H':=K) (x.old _ om))
  have F0:Ext Hd.next Hd Hd:=.refl _ _
  have xa:=sa F0
  have xb:=sb F0
  simp only[sA,sB,seval,ext_0,ext_1,ext_2,ext_3,m8,m9,ma,mb,mc,md]
  refine aw_drawC rfl ?_
  simp only[sR,sA,sB,seval,xb,xa]
  refine (vsub_spec jb ja).mono ?_
  rintro _ He ⟨rfl,Ee⟩
  have ya:=sa Ee
  have yc:=sc Ee
  simp only[sR,sA,sB,seval,ya,yc]
  refine (vsub_spec jc ja).mono ?_
  rintro _ Hf ⟨rfl,Ef⟩
  have Edf:Ext Hd.next Hd Hf:=Ee.trans (Ef.less Ee.next)
  simp only[sR,sA,sB,seval]
  refine (vcross_spec (vSub_j jb ja) (vSub_j jc ja)).mono ?_
  rintro _ Hg ⟨rfl,Eg⟩
  have Edg:Ext Hd.next Hd Hg:=Edf.trans (Eg.less Edf.next)
  simp only[sR,sA,sB,seval]
  refine (vunit_spec (vCross_j ..)).mono ?_
  rintro _ Hh ⟨rfl,Eh⟩
  have Edh:Ext Hd.next Hd Hh:=Edg.trans (Eh.less Edg.next)
  have E6h:Ext H6.next H6 Hh:=Ed.trans (Edh.less Ed.next)
  obtain⟨n,hn⟩:∃n,n=vUnit (vCross (vSub wb va) (vSub vc va)):=⟨_,rfl⟩
  have jn:n.j:=by rw[hn]; exact vUnit_j _
  rw[← hn]
  have nh:=E6h.next
  obtain⟨Hi,mi,ri,ni,ki⟩:=row_storeN (r6.same (H':=Hh) (E6h.old _ om)) (n:=3) rfl (xs:=n.cells) rfl rfl
  simp only[sR,sA,sB,seval,mi]
  simp only[ck_nil',ck_cons,ckP_load,ckP_nil,ck_end,and_true,true_and,List.map_cons,List.map_nil]
  refine⟨?_,?_⟩
  ·and_intros <;> first | rfl | exact⟨_,rfl,fun _=>⟨_,by first | assumption | exact sb (by assumption) | exact sa (by assumption) | exact sc (by assumption) | (simp only[sA,sB,seval]; assumption),aeq_V _⟩⟩
  have E8d:Ext H5.next H5 Hi:=⟨om,fun c hc=>by rw[ki c om,E6h.old c om,k6 c om]⟩
  have s8:=ri
  have l8:oLoad true 3 Hi (cellR H5.next 3 0)=some (.agg n.cells):=ld3V s8
  have E4k:Ext H4.next H4 Hi:=⟨om,fun c hc=>by rw[ki c om,E6h.old c om,E6.old c hc]⟩
  have n4k:=E4k.next
  obtain⟨_,_,_,_,_,_,_,d3,_⟩:=w3 E4k
  simp only[sA,sB,seval,ext_0,l8,fldA,d3]
  refine (vdot_spec jn hr.2).mono ?_
  rintro _ Hx ⟨rfl,Ex⟩
  have E4x:Ext H4.next H4 Hx:=E4k.trans (Ex.less E4k.next)
  have n4x:=E4x.next
  have nkx:=Ex.next
  have s8x:Row Hx H5.next n.cells:=s8.same (Ex.old _ (by have:=E8d.next; omega))
  have l8x:=ld3V s8x
  by_cases hp:0<vDot n r.d
  ·simp only[sA,sB,seval,eq_true hp,l8x]
   refine (vneg_spec jn).mono ?_
   rintro _ Hy ⟨rfl,Ey⟩
   have nxy:=Ey.next
   obtain⟨Hz,mz,rz,nz,kz⟩:=row_storeN (s8x.same (H':=Hy) (Ey.old _ (by have:=E8d.next; omega))) (n:=3) rfl (xs:=(vNeg n).cells) rfl rfl
   have l9:=ld3V rz
   obtain⟨Hq,mq,rq,nq,kq⟩:=row_storeN (r4.same (H':=Hz) (by rw[kz _ om,Ey.old _ om,E4x.old _ om])) (n:=3) rfl (xs:=(vNeg n).cells) rfl rfl
   have w:=ld3V rq
   simp only[sA,sB,seval,mz,l9,mq,fin_cc,OptP_some,w,if_pos hp]
   exact⟨by first | rfl | trivial,⟨om,fun c hc=>by rw[kq c om,kz c om,Ey.old c om,E4x.old c om,E4.old c hc]⟩⟩
  ·obtain⟨Hq,mq,rq,nq,kq⟩:=row_storeN (r4.same (H':=Hx) (E4x.old _ om)) (n:=3) rfl (xs:=n.cells) rfl rfl
   have w:=ld3V rq
   simp only[sA,sB,seval,eq_false hp,l8x,mq,fin_cc,OptP_some,w,if_neg hp]
   exact⟨by first | rfl | trivial,⟨om,fun c hc=>by rw[kq c om,E4x.old c om,E4.old c hc]⟩⟩
 ·have c2:¬(i:Int)<(m.tris.length:Int):=om
  simp only[if_neg c2]
  have n6':=E6.next
  simp only[sA,sB,seval,c1,m6,fldA,l1,lt,eq_false c2]
  refine aw_drawN ?_
  simp only[claims,newOf,reserves,resO_0,clOp_new]
  obtain⟨Hp,hHp⟩:∃K,K=H6.push (.cells (v3 0 0 0) 0 false):=⟨_,rfl⟩
  rw[← hHp]
  have np:Hp.next=H6.next+1:=by rw[hHp]; rfl
  have g1:Hp.get H6.next=some (.cells (v3 0 0 0) 0 false):=by rw[hHp,AHeap.get_push]; exact if_pos rfl
  have Ep:Ext H6.next H6 Hp:=by rw[hHp]; exact (Ext.refl _ _).push rL _
  have t4:∀{K:AHeap},Ext Hp.next Hp K→Ext H4.next H4 K:=fun x=>E6.trans ((Ep.trans (x.less Ep.next)).less E6.next)
  have lo:∀{K:AHeap},Ext Hp.next Hp K→oLoad true 3 K (cellR H2.next 6 0)=some (.agg r.o.cells):=fun x=>(w3 (t4 x)).2.2.2.2.2.2.1
  have ld:∀{K:AHeap},Ext Hp.next Hp K→oLoad true 3 K (cellR H2.next 6 3)=some (.agg r.d.cells):=fun x=>(w3 (t4 x)).2.2.2.2.2.2.2.1
  have lh:∀{K:AHeap},Ext Hp.next Hp K→oLoad false 1 K (cellR H1.next 4 0)=some (.int .i64 h.t):=fun x=>lt0 (t4 x)
  have cl:∀{K:AHeap},Ext Hp.next Hp K→aClaim K H6.next (v3 0 0 0) none=some (cellR H6.next 3 0):=fun x=>claim_ok (z:=v3 0 0 0) ((x.old _ om).trans g1) rfl
  have P0:Ext Hp.next Hp Hp:=.refl _ _
  have lo0:=lo P0
  have ld0:=ld P0
  have lh0:=lh P0
  simp only[sR,sA,sB,seval,fld0,fldA,lo0,ld0,lh0]
  refine (vscale_spec hr.2 hj).mono ?_
  rintro _ H7 ⟨rfl,E7⟩
  simp only[sR,sA,sB,seval]
  refine (vadd_spec hr.1 (vScale_j ..)).mono ?_
  rintro _ H8 ⟨rfl,E8⟩
  have E78:Ext Hp.next Hp H8:=E7.trans (E8.less E7.next)
  have n78:=E78.next
  obtain⟨q,hq⟩:∃q,q=vAdd r.o (vScale r.d h.t):=⟨_,rfl⟩
  have jq:q.j:=by rw[hq]; exact vAdd_j hr.1 (vScale_j ..)
  rw[← hq]
  have cl1:=cl E78
  obtain⟨H9,m9,r9,n9,k9⟩:=row_storeN (H:=H8) (b:=H6.next) (l:=v3 0 0 0) ⟨0,(E78.old _ om).trans g1,Nat.zero_le _⟩ (n:=3) rfl (xs:=q.cells) rfl rfl
  have E69:Ext H6.next H6 H9:=⟨om,fun c hc=>by rw[k9 c om,E78.old c om,Ep.old c hc]⟩
  have E49:Ext H4.next H4 H9:=E6.trans (E69.less E6.next)
  have lq:=ld3V r9
  simp only[sR,sA,sB,seval,tr_claim,cl1,m9]
  simp only[ck_nil',ck_cons,ckP_load,ckP_claim,ckP_nil,ck_end,and_true,true_and,List.map_cons,List.map_nil]
  refine⟨?_,?_⟩
  ·and_intros <;> first | rfl | exact⟨_,rfl,fun _=>⟨_,by first | exact lo (by assumption) | exact ld (by assumption) | exact lh (by assumption) | exact cl (by assumption) | (simp only[sA,sB,seval,fld0,fldA]; first | exact lo (by assumption) | exact ld (by assumption) | exact lh (by assumption)),by first | exact aeq_V _ | exact aeq_int _ _ | exact aeq_cellR ..⟩⟩
  have hib:i-m.tris.length<m.balls.length:=by unfold Msh.n at hi; omega
  obtain⟨x,hx⟩:=isSome_of_lt hib
  have xb:m.ball (i-m.tris.length)=x:=by unfold Msh.ball; rw[hx]; rfl
  have jx:=ballOk_j (hm.b x (List.mem_of_getElem? hx))
  rw[xb]
  have c3:IntKind.i64.wrap ((i:Int)-(m.tris.length:Int))=((i-m.tris.length:Nat):Int):=w64
  obtain⟨_,l1',l2',_⟩:=w1 E49
  have IB:=(I4 E49).b
  have ix:=IB.idx hib
  have fx:=IB.fld hib
  have lx:oLoad true 3 H9 (placeK 4 vb (i-m.tris.length))=some (.agg x.c.cells):=by
   rw[IB.loadJ hib om]
   have h4:=flat_at B_len hx
   have e:∀L:List AVal,L.take 3=(L.take 4).take 3:=fun L=>by rw[List.take_take]; rfl
   rw[e,h4]; rfl
  simp only[sA,sB,seval,lq,fldA,l1',l2',lt,c3,ix,fx,lx]
  refine (vsub_spec jq jx.1).mono ?_
  rintro _ Ha ⟨rfl,Ea⟩
  simp only[sA,sB,seval]
  refine (vunit_spec (vSub_j jq jx.1)).mono ?_
  rintro _ Hb ⟨rfl,Eb⟩
  have Eab:Ext H9.next H9 Hb:=Ea.trans (Eb.less Ea.next)
  have nab:=Eab.next
  have E6b:Ext H6.next H6 Hb:=E69.trans (Eab.less E69.next)
  obtain⟨n,hn⟩:∃n,n=vUnit (vSub q x.c):=⟨_,rfl⟩
  have jn:n.j:=by rw[hn]; exact vUnit_j _
  rw[← hn]
  obtain⟨Hi,mi,ri,ni,ki⟩:=row_storeN (r6.same (H':=Hb) (E6b.old _ om)) (n:=3) rfl (xs:=n.cells) rfl rfl
  have E8d:Ext H5.next H5 Hi:=⟨om,fun c hc=>by rw[ki c om,E6b.old c om,k6 c om]⟩
  have s8:=ri
  have l8:oLoad true 3 Hi (cellR H5.next 3 0)=some (.agg n.cells):=ld3V s8
  have E4k:Ext H4.next H4 Hi:=⟨om,fun c hc=>by rw[ki c om,E6b.old c om,E6.old c hc]⟩
  have n4k:=E4k.next
  obtain⟨_,_,_,_,_,_,_,d3,_⟩:=w3 E4k
  simp only[sA,sB,seval,mi,l8,fldA,d3]
  refine (vdot_spec jn hr.2).mono ?_
  rintro _ Hx ⟨rfl,Ex⟩
  have E4x:Ext H4.next H4 Hx:=E4k.trans (Ex.less E4k.next)
  have n4x:=E4x.next
  have nkx:=Ex.next
  have s8x:Row Hx H5.next n.cells:=s8.same (Ex.old _ (by have:=E8d.next; omega))
  have l8x:=ld3V s8x
  by_cases hp:0<vDot n r.d
  ·simp only[sA,sB,seval,eq_true hp,l8x]
   refine (vneg_spec jn).mono ?_
   rintro _ Hy ⟨rfl,Ey⟩
   have nxy:=Ey.next
   obtain⟨Hz,mz,rz,nz,kz⟩:=row_storeN (s8x.same (H':=Hy) (Ey.old _ (by have:=E8d.next; omega))) (n:=3) rfl (xs:=(vNeg n).cells) rfl rfl
   have l9:=ld3V rz
   obtain⟨Hq,mq,rq,nq,kq⟩:=row_storeN (r4.same (H':=Hz) (by rw[kz _ om,Ey.old _ om,E4x.old _ om])) (n:=3) rfl (xs:=(vNeg n).cells) rfl rfl
   have w:=ld3V rq
   simp only[sA,sB,seval,mz,l9,mq,fin_cc,OptP_some,w,if_pos hp]
   exact⟨by first | rfl | trivial,⟨om,fun c hc=>by rw[kq c om,kz c om,Ey.old c om,E4x.old c om,E4.old c hc]⟩⟩
  ·obtain⟨Hq,mq,rq,nq,kq⟩:=row_storeN (r4.same (H':=Hx) (E4x.old _ om)) (n:=3) rfl (xs:=n.cells) rfl rfl
   have w:=ld3V rq
   simp only[sA,sB,seval,eq_false hp,l8x,mq,fin_cc,OptP_some,w,if_neg hp]
   exact⟨by first | rfl | trivial,⟨om,fun c hc=>by rw[kq c om,E4x.old c om,E4.old c hc]⟩⟩
open Go.Abs Go.Abs.S
noncomputable section
def c36:AFn:=⟨8,zq [zo 2 (.mv zn)] (zr [zm 3 0,zo 4 (.pf (.eqv false .slice) [.t 3,zn])] 4 (zq [zo 2 (.mv zn)] .ret) .skip (zq [zo 5 (.buildSl 0 [zU 0,zI 0,zI 0,zI 0,.str [],.str []] []),zm 6 0,zo 7 (.append 6 64 (.t 5) (.t 6)),zm 2 7] .ret)),[.t 2]⟩
theorem za36:cN Tryz.prog 36=some c36:=by kernel_rfl
def c37:AFn:=⟨8,zq [zo 2 (.mv zn)] (zr [zm 3 0,zo 4 (.pf (.eqv false .slice) [.t 3,zn])] 4 (zq [zo 2 (.mv zn)] .ret) .skip (zq [zo 5 (.buildSl 0 [zI 0,zI 0,zI 0,zI 0,zI 0] []),zm 6 0,zo 7 (.append 5 40 (.t 5) (.t 6)),zm 2 7] .ret)),[.t 2]⟩
theorem za37:cN Tryz.prog 37=some c37:=by kernel_rfl
def c38:AFn:=⟨8,zq [zo 2 (.mv zn)] (zr [zm 3 0,zo 4 (.pf (.eqv false .slice) [.t 3,zn])] 4 (zq [zo 2 (.mv zn)] .ret) .skip (zq [zo 5 (.buildSl 0 [.str [],zI 0,zI 0,zI 0,zI 0] []),zm 6 0,zo 7 (.append 5 48 (.t 5) (.t 6)),zm 2 7] .ret)),[.t 2]⟩
theorem za38:cN Tryz.prog 38=some c38:=by kernel_rfl
def c39:AFn:=⟨8,zq [zo 2 (.mv zn)] (zr [zm 3 0,zo 4 (.pf (.eqv false .slice) [.t 3,zn])] 4 (zq [zo 2 (.mv zn)] .ret) .skip (zq [zo 5 (.buildSl 0 [zI 0,zI 0,zI 0] []),zm 6 0,zo 7 (.append 3 24 (.t 5) (.t 6)),zm 2 7] .ret)),[.t 2]⟩
theorem za39:cN Tryz.prog 39=some c39:=by kernel_rfl
def c40:AFn:=⟨8,zq [zo 2 (.mv zn)] (zr [zm 3 0,zo 4 (.pf (.eqv false .slice) [.t 3,zn])] 4 (zq [zo 2 (.mv zn)] .ret) .skip (zq [zo 5 (.buildSl 0 [zI 0,zI 0,zI 0] []),zm 6 0,zo 7 (.append 3 24 (.t 5) (.t 6)),zm 2 7] .ret)),[.t 2]⟩
theorem za40:cN Tryz.prog 40=some c40:=by kernel_rfl
def c41:AFn:=⟨8,zq [zo 2 (.mv zn)] (zr [zm 3 0,zo 4 (.pf (.eqv false .slice) [.t 3,zn])] 4 (zq [zo 2 (.mv zn)] .ret) .skip (zq [zo 5 (.buildSl 0 [zI 0,zI 0,zI 0,zI 0] []),zm 6 0,zo 7 (.append 4 32 (.t 5) (.t 6)),zm 2 7] .ret)),[.t 2]⟩
theorem za41:cN Tryz.prog 41=some c41:=by kernel_rfl
def c42:AFn:=⟨84,zq [zo 2 (.box (.t 0)),zo 4 (.mv (.c (.ptr none))),zo 5 (.mv (zi 0)),zo 6 (.mv (zi 0))] (.seq (zq [zt 11 3 2,zx 12 34 [.t 11],zm 7 12] (zq [zm 13 7,zk 14 .neq 13 0] (.cond (.t 14) (zq [zm 15 7,zo 4 (.mv (.c (.ptr none))),zo 5 (.mv (zi 0)),zm 6 15] .ret) .skip))) (.seq (.draw [zf 16 0 2,zl 17 16,zx 18 39 [.t 17],zf 19 1 2,zl 20 19,zx 21 40 [.t 20],zf 22 2 2,zl 23 22,zx 24 41 [.t 23],zo 25 (.build [zN,zN,zN] [(0,1,.t 18),(1,1,.t 21),(2,1,.t 24)]),zo 26 (.build [.bool false,zN,zN,zN,zN,zN,zI 0] [(0,1,.c (.bool true)),(1,3,.t 25)]),zo 27 (.box (.t 26)),zm 8 27] [[],[],[],[],[2],[],[],[2,5],[],[],[],[],[]]) (zq [zm 28 8,zm 29 1,zo 30 (.build [.ptr none,zN,zI 0,zI 0] [(0,1,.t 28),(3,1,.t 29)]),zo 31 (.box (.t 30)),zm 9 31] (.seq (zq [zt 32 3 2,zx 33 50 [.t 32],zo 34 (.mv (zi 0))] (.block 0 (.loop (zq [zb 35 .lss 34 33] (.seq (.cond (.t 35) .skip (.exit 0)) (.seq (.block 1 (zq [zm 36 34,zm 10 36] (.seq (.draw [zm 37 9,zm 38 9,zc 39 38,zf 40 1 39,zl 41 40,zt 42 3 2,zm 43 10,zx 44 85 [.t 42,.t 43],zo 45 (.buildSl 1 [zI 0,zI 0,zI 0,zI 0,zI 0,zI 0] [(0,6,.t 44)]),zo 46 (.append 6 48 (.t 41) (.t 45)),zc 47 37,zf 48 1 47,zs 48 46] [[],[],[],[],[8,9],[],[],[],[],[],[],[],[]]) (.reg [zm 49 8,zm 50 8,zc 51 50,zf 52 5 51,zl 53 52,zm 54 10,zo 55 (.buildSl 1 [zI 0] [(0,1,.t 54)]),zo 56 (.append 1 8 (.t 53) (.t 55)),zc 57 49,zf 58 5 57,zs 58 56])))) (.reg [zk 59 .add 34 1,zm 34 59]))))))) (zr [zm 60 8,zc 61 60,zf 62 5 61,zl 63 62,zh 64 63,zk 65 .gtr 64 0] 65 (.reg [zm 66 9,zm 67 8,zc 68 67,zf 69 5 68,zl 70 69,zh 71 70,zx 72 86 [.t 66,zi 0,.t 71,zi 1]]) .skip (zr [zm 73 9,zc 74 73,zf 75 2 74,zl 76 75,zm 77 1,zb 78 .gtr 76 77] 78 (zq [zo 4 (.mv (.c (.ptr none))),zo 5 (.mv (zi 0)),zo 6 (.mv (zi 15))] .ret) .skip (zq [zm 79 8,zm 80 9,zc 81 80,zf 82 2 81,zl 83 82,zm 4 79,zm 5 83,zo 6 (.mv (zi 0))] .ret))))))),[.t 4,.t 5,.t 6]⟩
theorem za42:cN Tryz.prog 42=some c42:=by kernel_rfl
def c86:AFn:=⟨114,zq [zo 8 (.mv (zi 0))] (zq [zm 15 0,zc 16 15,zf 17 0 16,zl 18 17,zm 9 18] (zq [zm 19 9,zc 20 19,zf 21 4 20,zl 22 21,zh 23 22,zm 10 23] (zq [zm 24 0,zm 25 1,zm 26 2,zx 27 112 [.t 24,.t 25,.t 26],zm 28 1,zm 29 2,zo 30 (.build [zI 0,zI 0,zI 0,zI 0,zI 0,zI 0,zI 0,zI 0,zI 0,zI 0] [(0,6,.t 27),(6,1,.t 28),(7,1,.t 29),(8,1,.c (.int .i64 (.negSucc 0))),(9,1,.c (.int .i64 (.negSucc 0)))]),zo 11 (.new [zI 0,zI 0,zI 0,zI 0,zI 0,zI 0,zI 0,zI 0,zI 0,zI 0]),zp (.store 10 (.t 11) (.t 30))] (.seq (.draw [zm 31 9,zm 32 9,zc 33 32,zf 34 4 33,zl 35 34,zt 36 10 11,zo 37 (.buildSl 1 [zI 0,zI 0,zI 0,zI 0,zI 0,zI 0,zI 0,zI 0,zI 0,zI 0] [(0,10,.t 36)]),zo 38 (.append 10 80 (.t 35) (.t 37)),zc 39 31,zf 40 4 39,zs 40 38] [[],[],[],[],[7],[],[],[],[],[],[]]) (zq [zm 41 9,zm 42 9,zc 43 42,zf 44 6 43,zl 45 44,zm 46 3,zo 47 (.pf (.mm true) [.t 45,.t 46]),zc 48 41,zf 49 6 48,zs 49 47] (zq [zm 50 0,zc 51 50,zf 52 2 51,zl 53 52,zm 54 2,zm 55 1,zb 56 .sub 54 55,zb 57 .add 53 56,zc 58 50,zf 59 2 58,zs 59 57] (zr [zm 60 2,zm 61 1,zb 62 .sub 60 61,zk 63 .leq 62 2,zm 64 63,zg 65 (.mv (.t 0)) 64 false,zg 66 (.nilChk (.t 65)) 64 false,zg 67 (.fieldA 2 (.t 66)) 64 false,zg 68 (.load false 1 (.t 67)) 64 false,zg 69 (.mv (.t 0)) 64 false,zg 70 (.nilChk (.t 69)) 64 false,zg 71 (.fieldA 3 (.t 70)) 64 false,zg 72 (.load false 1 (.t 71)) 64 false,zg 73 (.bin .gtr (.t 68) (.t 72)) 64 false,zo 74 (.pick (.t 64) (.c (.bool true)) (.t 73))] 74 (zq [zm 75 10,zm 8 75] .ret) .skip (zq [zm 76 0,zt 77 10 11,zx 78 113 [.t 76,.t 77]] (zq [zm 79 1,zm 80 2,zm 81 1,zb 82 .sub 80 81,zk 83 .quo 82 2,zb 84 .add 79 83,zm 12 84] (zq [zm 85 0,zm 86 1,zm 87 12,zm 88 3,zk 89 .add 88 1,zx 90 86 [.t 85,.t 86,.t 87,.t 89],zm 13 90] (zq [zm 91 0,zm 92 12,zm 93 2,zm 94 3,zk 95 .add 94 1,zx 96 86 [.t 91,.t 92,.t 93,.t 95],zm 14 96] (zq [zm 97 9,zc 98 97,zf 99 4 98,zl 100 99,zm 101 10,zm 102 9,zc 103 102,zf 104 4 103,zl 105 104,zm 106 10,zm 107 13,zm 108 14,zo 109 (.idxA 10 (.t 100) (.t 101)),zf 110 8 109,zs 110 107,zo 111 (.idxA 10 (.t 105) (.t 106)),zf 112 9 111,zs 112 108] (zq [zm 113 10,zm 8 113] .ret))))))))))))),[.t 8]⟩
theorem za86:cN Tryz.prog 86=some c86:=by kernel_rfl
def c112:AFn:=⟨106,zq [zo 6 (.new [zI 0,zI 0,zI 0,zI 0,zI 0,zI 0])] (.seq (.draw [zm 11 0,zc 12 11,zf 13 1 12,zl 14 13,zm 15 0,zc 16 15,zf 17 0 16,zl 18 17,zc 19 18,zf 20 5 19,zl 21 20,zm 22 1,zd 23 21 22,zl 24 23,zo 25 (.idxA 6 (.t 14) (.t 24)),zt 26 6 25,zo 7 (.new [zI 0,zI 0,zI 0,zI 0,zI 0,zI 0]),zp (.store 6 (.t 7) (.t 26))] [[],[],[],[],[],[],[],[],[],[],[],[],[],[],[],[],[],[]]) (.seq (zq [zm 27 0,zc 28 27,zf 29 0 28,zl 30 29,zc 31 30,zf 32 5 31,zl 33 32,zm 34 1,zk 35 .add 34 1,zm 36 2,zo 37 (.sl 1 (.t 33) (some (.t 35)) (some (.t 36)) none),zh 38 37,zo 39 (.mv (zi 0))] (.block 0 (.loop (zq [zb 40 .lss 39 38] (.seq (.cond (.t 40) .skip (.exit 0)) (.seq (.block 1 (zq [zd 41 37 39,zl 42 41,zm 9 42] (zq [zm 43 0,zc 44 43,zf 45 1 44,zl 46 45,zm 47 9,zo 48 (.idxA 6 (.t 46) (.t 47)),zt 49 6 48,zo 10 (.new [zI 0,zI 0,zI 0,zI 0,zI 0,zI 0]),zp (.store 6 (.t 10) (.t 49))] (.seq (.draw [zf 50 0 7,zf 51 0 50,zl 52 51,zf 53 0 10,zf 54 0 53,zl 55 54,zo 56 (.pf (.mm false) [.t 52,.t 55]),zf 57 3 7,zf 58 0 57,zl 59 58,zf 60 3 10,zf 61 0 60,zl 62 61,zo 63 (.pf (.mm true) [.t 59,.t 62]),zf 64 0 7,zf 65 0 64,zs 65 56,zf 66 3 7,zf 67 0 66,zs 67 63] [[],[],[],[],[],[],[],[],[],[],[],[],[19],[],[],[],[],[],[],[]]) (.seq (.draw [zf 68 0 7,zf 69 1 68,zl 70 69,zf 71 0 10,zf 72 1 71,zl 73 72,zo 74 (.pf (.mm false) [.t 70,.t 73]),zf 75 3 7,zf 76 1 75,zl 77 76,zf 78 3 10,zf 79 1 78,zl 80 79,zo 81 (.pf (.mm true) [.t 77,.t 80]),zf 82 0 7,zf 83 1 82,zs 83 74,zf 84 3 7,zf 85 1 84,zs 85 81] [[],[],[],[],[],[],[],[],[],[],[],[],[19],[],[],[],[],[],[],[]]) (.draw [zf 86 0 7,zf 87 2 86,zl 88 87,zf 89 0 10,zf 90 2 89,zl 91 90,zo 92 (.pf (.mm false) [.t 88,.t 91]),zf 93 3 7,zf 94 2 93,zl 95 94,zf 96 3 10,zf 97 2 96,zl 98 97,zo 99 (.pf (.mm true) [.t 95,.t 98]),zf 100 0 7,zf 101 2 100,zs 101 92,zf 102 3 7,zf 103 2 102,zs 103 99] [[],[],[],[],[],[],[],[],[],[],[],[],[19],[],[],[],[],[],[],[]])))))) (.reg [zk 104 .add 39 1,zm 39 104]))))))) (zq [zt 105 6 7,zp (.store 6 (.t 6) (.t 105))] .ret))),[.cell true 6 6]⟩
theorem za112:cN Tryz.prog 112=some c112:=by kernel_rfl
def c113:AFn:=⟨65,zq [zo 2 (.box (.t 0)),zo 3 (.box (.t 1))] (zq [zf 8 0 3,zf 9 3 8,zf 10 0 9,zl 11 10,zf 12 0 3,zf 13 0 12,zf 14 0 13,zl 15 14,zx 16 87 [.t 11,.t 15],zm 4 16] (zq [zf 17 0 3,zf 18 3 17,zf 19 1 18,zl 20 19,zf 21 0 3,zf 22 0 21,zf 23 1 22,zl 24 23,zx 25 87 [.t 20,.t 24],zm 5 25] (zq [zf 26 0 3,zf 27 3 26,zf 28 2 27,zl 29 28,zf 30 0 3,zf 31 0 30,zf 32 2 31,zl 33 32,zx 34 87 [.t 29,.t 33],zm 6 34] (zq [zo 35 (.mkFunc (.func 127) [] [.t 2]),zo 7 (.new [.nilFunc]),zs 7 35] (.seq (.block 0 (zq [zm 38 4,zm 39 5,zb 40 .geq 38 39,zm 41 40,zg 42 (.mv (.t 4)) 41 true,zg 43 (.mv (.t 6)) 41 true,zg 44 (.bin .geq (.t 42) (.t 43)) 41 true,zo 45 (.pick (.t 41) (.t 44) (.c (.bool false))),zm 37 45] (.cond (.t 37) .skip (zq [zm 47 5,zm 48 6,zb 49 .geq 47 48,zm 46 49] (.cond (.t 46) (.reg [zo 50 (.mkFunc (.func 128) [] [.t 2]),zs 7 50]) (.reg [zo 36 (.mkFunc (.func 129) [] [.t 2]),zs 7 36])))))) (.reg [zl 51 2,zc 52 51,zf 53 0 52,zl 54 53,zc 55 54,zf 56 5 55,zl 57 56,zf 58 6 3,zl 59 58,zf 60 7 3,zl 61 60,zo 62 (.sl 1 (.t 57) (some (.t 59)) (some (.t 61)) none),zo 63 (.mkFunc (.func 131) [] [.t 7]),zx 64 130 [.t 62,.t 63]])))))),[]⟩
theorem za113:cN Tryz.prog 113=some c113:=by kernel_rfl
def c127:AFn:=⟨23,zq [zo 3 (.mv (zi 0))] (zq [zl 4 1,zc 5 4,zf 6 1 5,zl 7 6,zm 8 0,zo 9 (.idxA 6 (.t 7) (.t 8)),zf 10 0 9,zf 11 0 10,zl 12 11,zl 13 1,zc 14 13,zf 15 1 14,zl 16 15,zm 17 0,zo 18 (.idxA 6 (.t 16) (.t 17)),zf 19 3 18,zf 20 0 19,zl 21 20,zx 22 69 [.t 12,.t 21],zm 3 22] .ret),[.t 3]⟩
theorem za127:cN Tryz.prog 127=some c127:=by kernel_rfl
def c128:AFn:=⟨23,zq [zo 3 (.mv (zi 0))] (zq [zl 4 1,zc 5 4,zf 6 1 5,zl 7 6,zm 8 0,zo 9 (.idxA 6 (.t 7) (.t 8)),zf 10 0 9,zf 11 1 10,zl 12 11,zl 13 1,zc 14 13,zf 15 1 14,zl 16 15,zm 17 0,zo 18 (.idxA 6 (.t 16) (.t 17)),zf 19 3 18,zf 20 1 19,zl 21 20,zx 22 69 [.t 12,.t 21],zm 3 22] .ret),[.t 3]⟩
theorem za128:cN Tryz.prog 128=some c128:=by kernel_rfl
def c129:AFn:=⟨23,zq [zo 3 (.mv (zi 0))] (zq [zl 4 1,zc 5 4,zf 6 1 5,zl 7 6,zm 8 0,zo 9 (.idxA 6 (.t 7) (.t 8)),zf 10 0 9,zf 11 2 10,zl 12 11,zl 13 1,zc 14 13,zf 15 1 14,zl 16 15,zm 17 0,zo 18 (.idxA 6 (.t 16) (.t 17)),zf 19 3 18,zf 20 2 19,zl 21 20,zx 22 69 [.t 12,.t 21],zm 3 22] .ret),[.t 3]⟩
theorem za129:cN Tryz.prog 129=some c129:=by kernel_rfl
def c131:AFn:=⟨18,zq [zo 5 (.mv (zi 0))] (.seq (.draw [zl 6 2,zm 7 0,zo 8 (.callv (.t 6) [.t 7]),zl 9 2,zm 10 1,zo 11 (.callv (.t 9) [.t 10]),zx 12 133 [.t 8,.t 11],zm 13 0,zm 14 1,zx 15 134 [.t 13,.t 14],zo 16 (.buildSl 2 [zI 0] [(0,1,.t 12),(1,1,.t 15)]),zx 17 132 [.t 16],zm 5 17] [[],[],[],[2],[],[],[],[],[],[],[],[],[]]) .ret),[.t 5]⟩
theorem za131:cN Tryz.prog 131=some c131:=by kernel_rfl
def c130:AFn:=⟨14,zq [zm 5 0,zh 6 5,zm 4 6] (.reg [zm 7 0,zm 8 4,zm 9 4,zv 10 .u64 9,zx 11 147 [.t 10],zm 12 1,zx 13 146 [.t 7,zi 0,.t 8,.t 11,.t 12]]),[]⟩
theorem za130:cN Tryz.prog 130=some c130:=by kernel_rfl
def c146:AFn:=⟨148,zq [zo 10 (.mv (.c (.bool true)))] (zq [zo 11 (.mv (.c (.bool true)))] (.block 0 (.loop (.block 1 (zq [zm 21 2,zm 22 1,zb 23 .sub 21 22,zm 12 23] (zr [zm 24 12,zk 25 .leq 24 12] 25 (zq [zm 26 0,zm 27 1,zm 28 2,zm 29 4,zx 30 150 [.t 26,.t 27,.t 28,.t 29]] .ret) .skip (zr [zm 31 3,zk 32 .eql 31 0] 32 (zq [zm 33 0,zm 34 1,zm 35 2,zm 36 4,zx 37 151 [.t 33,.t 34,.t 35,.t 36]] .ret) .skip (zr [zm 38 10,zo 39 (.un .not (.t 38))] 39 (zq [zm 40 0,zm 41 1,zm 42 2,zm 43 4,zx 44 152 [.t 40,.t 41,.t 42,.t 43]] (.reg [zm 45 3,zk 46 .sub 45 1,zm 3 46])) .skip (zq [zm 48 0,zm 49 1,zm 50 2,zm 51 4,zx 52 153 [.t 48,.t 49,.t 50,.t 51],zm 47 52,ze 53 0 47,ze 54 1 47,zm 13 53,zm 14 54] (zr [zm 55 14,zk 56 .eql 55 2] 56 (zq [zm 57 0,zm 58 1,zm 59 2,zm 60 4,zx 61 154 [.t 57,.t 58,.t 59,.t 60]] (zq [zm 62 2,zk 63 .sub 62 1,zm 64 13,zm 65 1,zb 66 .sub 64 65,zb 67 .sub 63 66,zm 13 67] (.reg [zo 14 (.mv (zi 1))]))) .skip (zr [zm 68 10,zm 69 68,zg 70 (.mv (.t 11)) 69 true,zo 71 (.pick (.t 69) (.t 70) (.c (.bool false))),zm 72 71,zg 73 (.mv (.t 14)) 72 true,zg 74 (.bin .eql (.t 73) (zi 1)) 72 true,zo 75 (.pick (.t 72) (.t 74) (.c (.bool false)))] 75 (zq [zm 76 0,zm 77 1,zm 78 2,zm 79 4,zx 80 155 [.t 76,.t 77,.t 78,.t 79]] (.cond (.t 80) .ret .skip)) .skip (zr [zm 81 1,zk 82 .gtr 81 0,zm 83 82,zg 84 (.mv (.t 4)) 83 true,zg 85 (.mv (.t 0)) 83 true,zg 86 (.mv (.t 1)) 83 true,zg 87 (.bin .sub (.t 86) (zi 1)) 83 true,zg 88 (.idxA 1 (.t 85) (.t 87)) 83 true,zg 89 (.load false 1 (.t 88)) 83 true,zg 90 (.mv (.t 0)) 83 true,zg 91 (.mv (.t 13)) 83 true,zg 92 (.idxA 1 (.t 90) (.t 91)) 83 true,zg 93 (.load false 1 (.t 92)) 83 true,zg 94 (.callv (.t 84) [.t 89,.t 93]) 83 true,zg 95 (.bin .lss (.t 94) (zi 0)) 83 true,zg 96 (.un .not (.t 95)) 83 true,zo 97 (.pick (.t 83) (.t 96) (.c (.bool false)))] 97 (zq [zm 98 0,zm 99 1,zm 100 2,zm 101 13,zm 102 4,zx 103 156 [.t 98,.t 99,.t 100,.t 101,.t 102],zm 15 103] (zq [zm 104 15,zm 1 104] (.exit 1))) .skip (zq [zm 106 0,zm 107 1,zm 108 2,zm 109 13,zm 110 4,zx 111 157 [.t 106,.t 107,.t 108,.t 109,.t 110],zm 105 111,ze 112 0 105,ze 113 1 105,zm 16 112,zm 17 113] (zq [zm 114 17,zm 11 114] (zq [zm 115 16,zm 116 1,zb 117 .sub 115 116,zm 118 2,zm 119 16,zb 120 .sub 118 119,zm 18 117,zm 19 120] (zq [zm 121 12,zk 122 .quo 121 8,zm 20 122] (zq [zm 123 18,zm 124 19,zb 125 .lss 123 124] (.cond (.t 125) (zq [zm 126 18,zm 127 20,zb 128 .geq 126 127,zm 10 128] (zq [zm 129 0,zm 130 1,zm 131 16,zm 132 3,zm 133 4,zx 134 146 [.t 129,.t 130,.t 131,.t 132,.t 133]] (.reg [zm 135 16,zk 136 .add 135 1,zm 1 136]))) (zq [zm 137 19,zm 138 20,zb 139 .geq 137 138,zm 10 139] (zq [zm 140 0,zm 141 16,zk 142 .add 141 1,zm 143 2,zm 144 3,zm 145 4,zx 146 146 [.t 140,.t 142,.t 143,.t 144,.t 145]] (.reg [zm 147 16,zm 2 147]))))))))))))))))))))),[]⟩
theorem za146:cN Tryz.prog 146=some c146:=by kernel_rfl
def c150:AFn:=⟨53,zq [zm 10 1,zk 11 .add 10 1,zm 8 11] (.block 0 (.loop (zr [zm 12 8,zm 13 2,zb 14 .lss 12 13] 14 .skip (.exit 0) (.seq (.block 1 (zq [zm 17 8,zm 9 17] (.block 2 (.loop (zr [zm 18 9,zm 19 1,zb 20 .gtr 18 19,zm 21 20,zg 22 (.mv (.t 3)) 21 true,zg 23 (.mv (.t 0)) 21 true,zg 24 (.mv (.t 9)) 21 true,zg 25 (.idxA 1 (.t 23) (.t 24)) 21 true,zg 26 (.load false 1 (.t 25)) 21 true,zg 27 (.mv (.t 0)) 21 true,zg 28 (.mv (.t 9)) 21 true,zg 29 (.bin .sub (.t 28) (zi 1)) 21 true,zg 30 (.idxA 1 (.t 27) (.t 29)) 21 true,zg 31 (.load false 1 (.t 30)) 21 true,zg 32 (.callv (.t 22) [.t 26,.t 31]) 21 true,zg 33 (.bin .lss (.t 32) (zi 0)) 21 true,zo 34 (.pick (.t 21) (.t 33) (.c (.bool false)))] 34 .skip (.exit 2) (.seq (.block 3 (.reg [zm 37 0,zm 38 9,zm 39 0,zm 40 9,zk 41 .sub 40 1,zm 42 0,zm 43 9,zk 44 .sub 43 1,zd 45 42 44,zl 46 45,zm 47 0,zm 48 9,zd 49 47 48,zl 50 49,zd 51 37 38,zs 51 46,zd 52 39 41,zs 52 50])) (.reg [zm 35 9,zk 36 .sub 35 1,zm 9 36]))))))) (.reg [zm 15 8,zk 16 .add 15 1,zm 8 16]))))),[]⟩
theorem za150:cN Tryz.prog 150=some c150:=by kernel_rfl
def c43:AFn:=⟨8,zq [zo 2 (.mv zn)] (zr [zm 3 0,zo 4 (.pf (.eqv false .slice) [.t 3,zn])] 4 (zq [zo 2 (.mv zn)] .ret) .skip (zq [zo 5 (.buildSl 0 [zI 0] []),zm 6 0,zo 7 (.append 1 8 (.t 5) (.t 6)),zm 2 7] .ret)),[.t 2]⟩
theorem za43:cN Tryz.prog 43=some c43:=by kernel_rfl
def c44:AFn:=⟨8,zq [zo 2 (.mv zn)] (zr [zm 3 0,zo 4 (.pf (.eqv false .slice) [.t 3,zn])] 4 (zq [zo 2 (.mv zn)] .ret) .skip (zq [zo 5 (.buildSl 0 [zU 0,zI 0,zI 0,zI 0] []),zm 6 0,zo 7 (.append 4 32 (.t 5) (.t 6)),zm 2 7] .ret)),[.t 2]⟩
theorem za44:cN Tryz.prog 44=some c44:=by kernel_rfl
def c45:AFn:=⟨8,zq [zo 2 (.mv zn)] (zr [zm 3 0,zo 4 (.pf (.eqv false .slice) [.t 3,zn])] 4 (zq [zo 2 (.mv zn)] .ret) .skip (zq [zo 5 (.buildSl 0 [zU 0] []),zm 6 0,zy 7 5 6,zm 2 7] .ret)),[.t 2]⟩
theorem za45:cN Tryz.prog 45=some c45:=by kernel_rfl
def c48:AFn:=⟨135,zq [zo 4 (.box (.t 1)),zo 6 (.new [zI 0,zI 0,zI 0,zI 0]),zo 7 (.mv (zi 0))] (zq [zo 19 (.build [zI 0,zI 0,zI 0,zI 0] [(1,1,.c (.int .i64 (.negSucc 0)))]),zo 8 (.new [zI 0,zI 0,zI 0,zI 0]),zp (.store 4 (.t 8) (.t 19))] (zr [zm 20 0,zo 21 (.pf (.eqv false .ptr) [.t 20,.c (.ptr none)]),zm 22 21,zg 23 (.mv (.t 0)) 22 false,zg 24 (.nilChk (.t 23)) 22 false,zg 25 (.fieldA 0 (.t 24)) 22 false,zg 26 (.load false 1 (.t 25)) 22 false,zg 27 (.un .not (.t 26)) 22 false,zo 28 (.pick (.t 22) (.c (.bool true)) (.t 27)),zm 29 28,zg 30 (.mv (.t 0)) 29 false,zg 31 (.nilChk (.t 30)) 29 false,zg 32 (.fieldA 4 (.t 31)) 29 false,zg 33 (.load false 1 (.t 32)) 29 false,zg 34 (.len false (.t 33)) 29 false,zg 35 (.bin .eql (.t 34) (zi 0)) 29 false,zo 36 (.pick (.t 29) (.c (.bool true)) (.t 35))] 36 (zq [zt 37 4 8,zp (.store 4 (.t 6) (.t 37)),zo 7 (.mv (zi 0))] .ret) .skip (zq [zo 9 (.mv (zi 0))] (zq [zo 10 (.new [zI 0,zI 0,zI 0,zI 0,zI 0,zI 0,zI 0,zI 0,zI 0,zI 0,zI 0,zI 0,zI 0,zI 0,zI 0,zI 0,zI 0,zI 0,zI 0,zI 0,zI 0,zI 0,zI 0,zI 0,zI 0,zI 0,zI 0,zI 0,zI 0,zI 0,zI 0,zI 0])] (zq [zo 11 (.mv (zi 1))] (.seq (.block 0 (.loop (zr [zm 38 11,zk 39 .gtr 38 0] 39 .skip (.exit 0) (.block 1 (zq [zm 40 11,zk 41 .sub 40 1,zm 11 41] (zq [zm 42 0,zc 43 42,zf 44 4 43,zl 45 44,zm 46 11,zo 47 (.idxArr 32 1 (.t 10) (.t 46)),zl 48 47,zo 49 (.idxA 10 (.t 45) (.t 48)),zm 12 49] (zq [zm 50 9,zk 51 .add 50 1,zm 9 51] (zq [zt 53 6 4,zm 54 12,zc 55 54,zf 56 0 55,zt 57 6 56,zx 58 89 [.t 53,.t 57],zm 52 58,ze 59 0 52,ze 60 1 52,zm 13 59,zm 14 60] (zr [zm 61 14,zo 62 (.un .not (.t 61)),zm 63 62,zg 64 (.fieldA 1 (.t 8)) 63 false,zg 65 (.load false 1 (.t 64)) 63 false,zg 66 (.bin .geq (.t 65) (zi 0)) 63 false,zg 67 (.mv (.t 66)) 63 false,zg 68 (.mv (.t 13)) 67 true,zg 69 (.fieldA 0 (.t 8)) 67 true,zg 70 (.load false 1 (.t 69)) 67 true,zg 71 (.bin .gtr (.t 68) (.t 70)) 67 true,zg 72 (.pick (.t 67) (.t 71) (.c (.bool false))) 63 false,zo 73 (.pick (.t 63) (.c (.bool true)) (.t 72))] 73 (.exit 1) .skip (zr [zm 74 12,zc 75 74,zf 76 8 75,zl 77 76,zk 78 .geq 77 0] 78 (.seq (.draw [zm 79 11,zm 80 11,zk 81 .add 80 1,zm 82 12,zc 83 82,zf 84 9 83,zl 85 84,zm 86 12,zc 87 86,zf 88 8 87,zl 89 88,zo 90 (.idxArr 32 1 (.t 10) (.t 79)),zs 90 85,zo 91 (.idxArr 32 1 (.t 10) (.t 81)),zs 91 89] [[],[],[],[],[],[],[],[],[],[],[14],[],[],[],[]]) (zq [zm 92 11,zk 93 .add 92 2,zm 11 93] (.exit 1))) .skip (zq [zm 94 0,zc 95 94,zf 96 5 95,zl 97 96,zm 98 12,zc 99 98,zf 100 6 99,zl 101 100,zm 102 12,zc 103 102,zf 104 7 103,zl 105 104,zo 106 (.sl 1 (.t 97) (some (.t 101)) (some (.t 105)) none),zh 107 106,zo 108 (.mv (zi 0))] (.block 2 (.loop (zq [zb 109 .lss 108 107] (.seq (.cond (.t 109) .skip (.exit 2)) (.seq (.block 3 (zq [zd 110 106 108,zl 111 110,zm 16 111] (zq [zm 112 9,zk 113 .add 112 1,zm 9 113] (.seq (.draw [zm 115 0,zc 116 115,zf 117 1 116,zt 118 3 117,zm 119 16,zt 120 6 4,zm 121 2,zx 122 90 [.t 118,.t 119,.t 120,.t 121],zm 114 122,ze 123 0 114,ze 124 1 114,zo 17 (.new [zI 0,zI 0,zI 0,zI 0]),zp (.store 4 (.t 17) (.t 123)),zm 18 124] [[],[],[],[],[],[],[],[],[],[],[],[7],[],[]]) (zq [zm 125 18,zm 126 125,zg 127 (.load true 4 (.t 17)) 126 true,zg 128 (.load true 4 (.t 8)) 126 true,zg 129 (.call 91 [.t 127,.t 128]) 126 true,zo 130 (.pick (.t 126) (.t 129) (.c (.bool false)))] (.cond (.t 130) (.reg [zt 131 4 17,zp (.store 4 (.t 8) (.t 131))]) .skip)))))) (.reg [zk 132 .add 108 1,zm 108 132]))))))))))))))))) (zq [zt 133 4 8,zm 134 9,zp (.store 4 (.t 6) (.t 133)),zm 7 134] .ret))))))),[.cell true 4 6,.t 7]⟩
theorem za48:cN Tryz.prog 48=some c48:=by kernel_rfl
def c91:AFn:=⟨27,zq [zo 2 (.box (.t 0)),zo 3 (.box (.t 1)),zo 4 (.mv (.c (.bool false)))] (zr [zf 5 1 3,zl 6 5,zk 7 .lss 6 0,zm 8 7,zg 9 (.fieldA 0 (.t 2)) 8 false,zg 10 (.load false 1 (.t 9)) 8 false,zg 11 (.fieldA 0 (.t 3)) 8 false,zg 12 (.load false 1 (.t 11)) 8 false,zg 13 (.bin .lss (.t 10) (.t 12)) 8 false,zo 14 (.pick (.t 8) (.c (.bool true)) (.t 13))] 14 (zq [zo 4 (.mv (.c (.bool true)))] .ret) .skip (zq [zf 15 0 2,zl 16 15,zf 17 0 3,zl 18 17,zb 19 .eql 16 18,zm 20 19,zg 21 (.fieldA 1 (.t 2)) 20 true,zg 22 (.load false 1 (.t 21)) 20 true,zg 23 (.fieldA 1 (.t 3)) 20 true,zg 24 (.load false 1 (.t 23)) 20 true,zg 25 (.bin .lss (.t 22) (.t 24)) 20 true,zo 26 (.pick (.t 20) (.t 25) (.c (.bool false))),zm 4 26] .ret)),[.t 4]⟩
theorem za91:cN Tryz.prog 91=some c91:=by kernel_rfl
end
open Go.Abs Go.Abs.S
theorem nan_spec{x:Int}{H:AHeap}:ACalls Tryz.prog noNat 148 [.int .i64 x] H fun r H'=>r=.bool false∧H=H':=by
 refine acalls_ofN rfl za148 rfl ?_
 simp only[c148,sA,sB,seval]; exact⟨by simp,tt⟩
theorem nan2_spec{x:Int}{H:AHeap}:ACalls Tryz.prog noNat 149 [.int .i64 x] H fun r H'=>r=.bool false∧H=H':=by
 refine acalls_ofN rfl za149 rfl ?_
 simp only[c149,sA,sB,seval]; exact⟨by simp,tt⟩
def cmpI(a b:Int):Int:=if a<b then -1 else if b<a then 1 else 0
theorem cmp_spec{a b:Int}{H:AHeap}:ACalls Tryz.prog noNat 133 [.int .i64 a,.int .i64 b] H fun r H'=>r=.int .i64 (cmpI a b)∧H=H':=by
 refine acalls_ofN rfl za133 rfl ?_
 have c:(Int.negSucc 0)=-1:=rfl
 unfold cmpI
 simp only[c133,sA,sB,seval]
 refine nan_spec.mono ?_
 rintro _ _ ⟨rfl,rfl⟩
 simp only[sA,sB,seval]
 refine nan_spec.mono ?_
 rintro _ _ ⟨rfl,rfl⟩
 by_cases h1:a<b
 ·simp only[sA,sB,seval,h1,c]; exact⟨tt,tt⟩
 ·by_cases h2:b<a
  ·simp only[sA,sB,seval,h1,h2]; exact⟨tt,tt⟩
  ·simp only[sA,sB,seval,h1,h2]; exact⟨tt,tt⟩
theorem cmp2_spec{a b:Int}{H:AHeap}:ACalls Tryz.prog noNat 134 [.int .i64 a,.int .i64 b] H fun r H'=>r=.int .i64 (cmpI a b)∧H=H':=by
 refine acalls_ofN rfl za134 rfl ?_
 have c:(Int.negSucc 0)=-1:=rfl
 unfold cmpI
 simp only[c134,sA,sB,seval]
 refine nan2_spec.mono ?_
 rintro _ _ ⟨rfl,rfl⟩
 simp only[sA,sB,seval]
 refine nan2_spec.mono ?_
 rintro _ _ ⟨rfl,rfl⟩
 by_cases h1:a<b
 ·simp only[sA,sB,seval,h1,c]; exact⟨tt,tt⟩
 ·by_cases h2:b<a
  ·simp only[sA,sB,seval,h1,h2]; exact⟨tt,tt⟩
  ·simp only[sA,sB,seval,h1,h2]; exact⟨tt,tt⟩
theorem or_spec{a b:Int}{H:AHeap}{s:AVal}(h:Cel H.next H s [.int .i64 a,.int .i64 b]):ACalls Tryz.prog noNat 132 [s] H fun r H'=>r=.int .i64 (if a=0 then b else a)∧H=H':=by
 refine acalls_ofN rfl za132 rfl ?_
 have ln:aLenK false s=some (.int .i64 2):=h.len
 have i0:aIdxA 1 s (.int .i64 0)=some (cellP s 0):=h.idx .i64 (i:=0) (by simp)
 have i1:aIdxA 1 s (.int .i64 1)=some (cellP s 1):=h.idx .i64 (i:=1) (by simp)
 have l0:oLoad false 1 H (cellP s 0)=some (.int .i64 a):=h.load rfl
 have l1:oLoad false 1 H (cellP s 1)=some (.int .i64 b):=h.load rfl
 simp only[c132,sA,sB,seval,ln]
 refine aw_loop (fun k (T:Env) H'=>H=H'∧T 3=.int .i64 0∧T 6=s∧T 7=.int .i64 2∧((k=2∧T 8=.int .i64 0)∨(k=1∧a=0∧T 8=.int .i64 1)∨(k=0∧a=0∧b=0∧T 8=.int .i64 2))) 2 ⟨rfl,tt,tt,tt,.inl ⟨rfl,tt⟩⟩ ?_
 rintro k T _ ⟨rfl,t3,t6,t7,⟨rfl,t8⟩ | ⟨rfl,ha,t8⟩ | ⟨rfl,ha,hb,t8⟩⟩
 ·by_cases ha:a=0
  ·simp only[sA,sB,seval,t3,t6,t7,t8,i0,l0,ha]
   exact⟨1,om,by first | rfl | trivial,by first | exact t3 | trivial,by first | exact t6 | trivial,by first | exact t7 | trivial,.inr (.inl ⟨rfl,by first | rfl | trivial,tt⟩)⟩
  ·simp only[sA,sB,seval,t3,t6,t7,t8,i0,l0,ha]
   exact⟨tt,tt⟩
 ·by_cases hb:b=0
  ·simp only[sA,sB,seval,t3,t6,t7,t8,i1,l1,hb]
   exact⟨0,om,by first | rfl | trivial,by first | exact t3 | trivial,by first | exact t6 | trivial,by first | exact t7 | trivial,.inr (.inr ⟨rfl,ha,by first | rfl | trivial,tt⟩)⟩
  ·simp only[sA,sB,seval,t3,t6,t7,t8,i1,l1,hb,ha]
   exact⟨tt,tt⟩
 ·simp only[sA,sB,seval,t3,t7,t8]
  exact⟨by rw[if_pos ha,hb],tt⟩
def placeO(m:Nat)(v:AVal)(i o:Nat):AVal:=match v with
 | .slice (some a) _ _=>.ptr (some ⟨a.b,a.lim,a.o+i*m+o⟩)
 | _=>undefA
theorem SlK.fldO{P:Nat→Prop}{H:AHeap}{m k:Nat}{v:AVal}{C:List AVal}(h:SlK P H m v k C){i:Nat}(hi:i<k)(o:Nat):aField o (placeK m v i)=some (placeO m v i o):=by
 rcases h with⟨_,rfl,_⟩ | ⟨a,r,rfl,_,h3⟩
 ·omega
 ·rfl
theorem SlK.fldO'{P:Nat→Prop}{H:AHeap}{m k:Nat}{v:AVal}{C:List AVal}(h:SlK P H m v k C){i:Nat}(hi:i<k)(o p:Nat):aField p (placeO m v i o)=some (placeO m v i (o+p)):=by
 rcases h with⟨_,rfl,_⟩ | ⟨a,r,rfl,_,h3⟩
 ·omega
 ·simp only[placeO,← Nat.add_assoc]; rfl
theorem SlK.loadO{α:Type}{f:α→List AVal}{P:Nat→Prop}{H:AHeap}{m:Nat}{v:AVal}{l:List α}(h:SlK P H m v l.length (l.flatMap f))(hf:∀x,(f x).length=m){i:Nat}{x:α}(hi:l[i]?=some x){o:Nat}(ho:o<m){y:AVal}(hy:(f x)[o]?=some y):oLoad false 1 H (placeO m v i o)=some y:=by
 have hlt:=(List.getElem?_eq_some_iff.1 hi).1
 have hfl:=flat_at hf hi
 rcases h with⟨_,h0,_⟩ | ⟨a,r,rfl,_,h3⟩
 ·omega
 ·have hm:i*m+o+1≤m*l.length:=by
   have:(i+1)*m≤l.length*m:=Nat.mul_le_mul_right m hlt
   rw[Nat.mul_comm m]; rw[Nat.add_mul,Nat.one_mul]at this; omega
  have:=rd_part h3 hm
  have e:((l.flatMap f).drop (i*m+o)).take 1=[y]:=by
   have:(l.flatMap f)[i*m+o]?=some y:=by
    rw[← hy,← hfl,List.getElem?_take_of_lt ho,List.getElem?_drop]
   obtain⟨hl,he⟩:=List.getElem?_eq_some_iff.1 this
   rw[List.drop_eq_getElem_cons hl,he]; rfl
  rw[e]at this
  simp only[oLoad,placeO,← Nat.add_assoc]at this ⊢
  rw[this]; rfl
def treL(vp vt vb vN vO:AVal)(deep:Int):List AVal:=[.bool true,vp,vt,vb,vN,vO,.int .i64 deep]
def mkL(tb:Nat)(vX:AVal)(w most:Int):List AVal:=[cellR tb 7 0,vX,.int .i64 w,.int .i64 most]
theorem ldK{H:AHeap}{b tb:Nat}{vX:AVal}{w most:Int}(r:Row H b (mkL tb vX w most)):oLoad false 1 H (cellR b 4 0)=some (cellR tb 7 0)∧oLoad false 1 H (cellR b 4 1)=some vX∧oLoad false 1 H (cellR b 4 2)=some (.int .i64 w)∧oLoad false 1 H (cellR b 4 3)=some (.int .i64 most):=
 ⟨row_load r rfl rfl,row_load r rfl rfl,row_load r rfl rfl,row_load r rfl rfl⟩
theorem ldTr{H:AHeap}{b:Nat}{vp vt vb vN vO:AVal}{d:Int}(r:Row H b (treL vp vt vb vN vO d)):oLoad false 1 H (cellR b 7 0)=some (.bool true)∧oLoad false 1 H (cellR b 7 4)=some vN∧oLoad false 1 H (cellR b 7 5)=some vO∧oLoad false 1 H (cellR b 7 6)=some (.int .i64 d)∧oLoad true 3 H (cellR b 7 1)=some (.agg (mshL vp vt vb)):=
 ⟨row_load r rfl rfl,row_load r rfl rfl,row_load r rfl rfl,row_load r rfl rfl,row_loadK r (n:=7) rfl (show 1+3≤7 by decide)⟩
theorem X_len(x:Bx):x.cells.length=6:=rfl
theorem key0_spec{bs:List Bx}(hj:∀b∈bs,b.j){i:Nat}(hi:i<bs.length){H:AHeap}{cb kb tb:Nat}{vX:AVal}{w most:Int}(rc:Row H cb [cellR kb 4 0])(rk:Row H kb (mkL tb vX w most))(X:SlK (·<H.next) H 6 vX bs.length (bs.flatMap Bx.cells)) :
  ACalls Tryz.prog noNat 127 [.int .i64 (i:Int),cellR cb 1 0] H fun r H'=>r=.int .i64 (keyF bs 0 i)∧H=H':=by
 obtain⟨b,hb⟩:=isSome_of_lt hi
 obtain⟨⟨lx,ly,lz⟩,ux,uy,uz⟩:=hj b (List.mem_of_getElem? hb)
 have e:keyF bs 0 i=fAdd b.lo.x b.hi.x:=by unfold keyF bxAt; rw[hb]; rfl
 have lc:oLoad false 1 H (cellR cb 1 0)=some (cellR kb 4 0):=row_load rc rfl rfl
 obtain⟨_,l1,_,_⟩:=ldK rk
 have ix:=X.idx hi
 have a1:oLoad false 1 H (placeO 6 vX i 0)=some (.int .i64 b.lo.x):=X.loadO X_len hb om rfl
 have a2:oLoad false 1 H (placeO 6 vX i 3)=some (.int .i64 b.hi.x):=X.loadO X_len hb om rfl
 refine acalls_ofN rfl za127 rfl ?_
 rw[e]
 simp only[c127,sA,sB,seval,lc,nil_cell,fldA,l1,ix,X.fldO hi,X.fldO' hi,a1,a2]
 refine (add_spec lx ux).mono ?_
 rintro _ _ ⟨rfl,rfl⟩
 simp only[sA,sB,seval]; exact⟨tt,tt⟩
theorem key1_spec{bs:List Bx}(hj:∀b∈bs,b.j){i:Nat}(hi:i<bs.length){H:AHeap}{cb kb tb:Nat}{vX:AVal}{w most:Int}(rc:Row H cb [cellR kb 4 0])(rk:Row H kb (mkL tb vX w most))(X:SlK (·<H.next) H 6 vX bs.length (bs.flatMap Bx.cells)) :
  ACalls Tryz.prog noNat 128 [.int .i64 (i:Int),cellR cb 1 0] H fun r H'=>r=.int .i64 (keyF bs 1 i)∧H=H':=by
 obtain⟨b,hb⟩:=isSome_of_lt hi
 obtain⟨⟨lx,ly,lz⟩,ux,uy,uz⟩:=hj b (List.mem_of_getElem? hb)
 have e:keyF bs 1 i=fAdd b.lo.y b.hi.y:=by unfold keyF bxAt; rw[hb]; rfl
 have lc:oLoad false 1 H (cellR cb 1 0)=some (cellR kb 4 0):=row_load rc rfl rfl
 obtain⟨_,l1,_,_⟩:=ldK rk
 have ix:=X.idx hi
 have a1:oLoad false 1 H (placeO 6 vX i 1)=some (.int .i64 b.lo.y):=X.loadO X_len hb om rfl
 have a2:oLoad false 1 H (placeO 6 vX i 4)=some (.int .i64 b.hi.y):=X.loadO X_len hb om rfl
 refine acalls_ofN rfl za128 rfl ?_
 rw[e]
 simp only[c128,sA,sB,seval,lc,nil_cell,fldA,l1,ix,X.fldO hi,X.fldO' hi,a1,a2]
 refine (add_spec ly uy).mono ?_
 rintro _ _ ⟨rfl,rfl⟩
 simp only[sA,sB,seval]; exact⟨tt,tt⟩
theorem key2_spec{bs:List Bx}(hj:∀b∈bs,b.j){i:Nat}(hi:i<bs.length){H:AHeap}{cb kb tb:Nat}{vX:AVal}{w most:Int}(rc:Row H cb [cellR kb 4 0])(rk:Row H kb (mkL tb vX w most))(X:SlK (·<H.next) H 6 vX bs.length (bs.flatMap Bx.cells)) :
  ACalls Tryz.prog noNat 129 [.int .i64 (i:Int),cellR cb 1 0] H fun r H'=>r=.int .i64 (keyF bs 2 i)∧H=H':=by
 obtain⟨b,hb⟩:=isSome_of_lt hi
 obtain⟨⟨lx,ly,lz⟩,ux,uy,uz⟩:=hj b (List.mem_of_getElem? hb)
 have e:keyF bs 2 i=fAdd b.lo.z b.hi.z:=by unfold keyF bxAt; rw[hb]; rfl
 have lc:oLoad false 1 H (cellR cb 1 0)=some (cellR kb 4 0):=row_load rc rfl rfl
 obtain⟨_,l1,_,_⟩:=ldK rk
 have ix:=X.idx hi
 have a1:oLoad false 1 H (placeO 6 vX i 2)=some (.int .i64 b.lo.z):=X.loadO X_len hb om rfl
 have a2:oLoad false 1 H (placeO 6 vX i 5)=some (.int .i64 b.hi.z):=X.loadO X_len hb om rfl
 refine acalls_ofN rfl za129 rfl ?_
 rw[e]
 simp only[c129,sA,sB,seval,lc,nil_cell,fldA,l1,ix,X.fldO hi,X.fldO' hi,a1,a2]
 refine (add_spec lz uz).mono ?_
 rintro _ _ ⟨rfl,rfl⟩
 simp only[sA,sB,seval]; exact⟨tt,tt⟩
def keyN(ax:Nat):Nat:=if ax=0 then 127 else if ax=1 then 128 else 129
theorem keyN_lt(ax:Nat):keyN ax<1024:=by
 unfold keyN
 split
 ·decide
 ·split <;> decide
theorem keyA_spec(ax:Nat)(hax:ax<3){bs:List Bx}(hj:∀b∈bs,b.j){i:Nat}(hi:i<bs.length){H:AHeap}{cb kb tb:Nat}{vX:AVal}{w most:Int}(rc:Row H cb [cellR kb 4 0])(rk:Row H kb (mkL tb vX w most))(X:SlK (·<H.next) H 6 vX bs.length (bs.flatMap Bx.cells)) :
  ACalls Tryz.prog noNat (keyN ax) [.int .i64 (i:Int),cellR cb 1 0] H fun r H'=>r=.int .i64 (keyF bs ax i)∧H=H':=by
 match ax,hax with
 | 0,_=>exact key0_spec hj hi rc rk X
 | 1,_=>exact key1_spec hj hi rc rk X
 | 2,_=>exact key2_spec hj hi rc rk X
def lessF(bs:List Bx)(ax i j:Nat):Int:=let c:=cmpI (keyF bs ax i) (keyF bs ax j); if c=0 then cmpI i j else c
theorem lessF_lt(bs:List Bx)(ax i j:Nat):decide (lessF bs ax i j<0)=ltF bs ax i j:=by
 unfold lessF ltF cmpI
 generalize keyF bs ax i=a
 generalize keyF bs ax j=b
 rw[Bool.eq_iff_iff]
 simp only[Bool.or_eq_true,Bool.and_eq_true,decide_eq_true_eq]
 by_cases h1:a<b
 ·simp[h1]
 ·by_cases h2:b<a
  ·have:¬a=b:=om
   simp[h1,h2,this]
  ·have:a=b:=om
   simp only[h1,h2,this,if_false,if_true,false_or,true_and]
   by_cases h3:(i:Int)<j
   ·simp[h3]; omega
   ·by_cases h4:(j:Int)<i
    ·simp[h3,h4]; omega
    ·simp[h3,h4]; omega
theorem sls2(H:AHeap)(a b:Int):aBuildSl 2 [.int .i64 0] H [(0,1,.int .i64 a),(1,1,.int .i64 b)]=some (slR H.next 2 (.known 2),H.push (.cells [.int .i64 a,.int .i64 b] 0 false)):=_root_.id rfl
theorem aeq_fn(f cb:Nat):aeq (.func (.func f) [] [cellR cb 1 0]) (.func (.func f) [] [cellR cb 1 0])=true:=by
 simp[aeq,aeqs,aeq_cellR]
theorem less_spec(ax:Nat)(hax:ax<3){bs:List Bx}(hj:∀b∈bs,b.j){i j:Nat}(hi:i<bs.length)(hk:j<bs.length){H:AHeap}{fb cb kb tb:Nat}{vX:AVal}{w most:Int}(rf:Row H fb [.func (.func (keyN ax)) [] [cellR cb 1 0]])(rc:Row H cb [cellR kb 4 0])(rk:Row H kb (mkL tb vX w most))(X:SlK (·<H.next) H 6 vX bs.length (bs.flatMap Bx.cells)) :
  ACalls Tryz.prog noNat 131 [.int .i64 (i:Int),.int .i64 (j:Int),cellR fb 1 0] H fun r H'=>r=.int .i64 (lessF bs ax i j)∧Ext H.next H H':=by
 have lf:oLoad false 1 H (cellR fb 1 0)=some (.func (.func (keyN ax)) [] [cellR cb 1 0]):=row_load rf rfl rfl
 have hn:=keyN_lt ax
 refine acalls_ofN rfl za131 rfl ?_
 simp only[c131,sA,sB,seval]
 refine aw_drawC rfl ?_
 simp only[sR,sA,sB,seval,lf,hn,List.cons_append,List.nil_append]
 refine (keyA_spec ax hax hj hi rc rk X).mono ?_
 rintro _ _ ⟨rfl,rfl⟩
 simp only[sR,sA,sB,seval,lf,hn,List.cons_append,List.nil_append]
 refine (keyA_spec ax hax hj hk rc rk X).mono ?_
 rintro _ _ ⟨rfl,rfl⟩
 simp only[sR,sA,sB,seval]
 refine cmp_spec.mono ?_
 rintro _ _ ⟨rfl,rfl⟩
 simp only[sR,sA,sB,seval]
 refine cmp2_spec.mono ?_
 rintro _ _ ⟨rfl,rfl⟩
 obtain⟨a,ha⟩:∃a,a=cmpI (keyF bs ax i) (keyF bs ax j):=⟨_,rfl⟩
 obtain⟨b,hb⟩:∃b,b=cmpI (i:Int) (j:Int):=⟨_,rfl⟩
 have e:lessF bs ax i j=if a=0 then b else a:=by subst ha hb; rfl
 rw[e,← ha,← hb]
 have cl:Cel (H.push (.cells [.int .i64 a,.int .i64 b] 0 false)).next (H.push (.cells [.int .i64 a,.int .i64 b] 0 false)) (slR H.next 2 (.known 2)) [.int .i64 a,.int .i64 b]:=(row_push H [.int .i64 a,.int .i64 b]).cel rfl (Nat.lt_succ_self _)
 simp only[sR,sA,sB,seval,sls2]
 refine (or_spec cl).mono ?_
 rintro _ _ ⟨rfl,rfl⟩
 simp only[sR,sA,sB,seval]
 simp only[ck_nil',ck_cons,ckP_load,ckP_nil,ck_end,and_true,true_and,List.map_cons,List.map_nil,sA,sB,seval]
 refine⟨?_,?_⟩
 ·and_intros <;> first | rfl | exact⟨_,rfl,fun _=>⟨_,lf,aeq_fn _ _⟩⟩
 ·exact (Ext.refl _ _).push rL _
end Go.Proofs.Tc
