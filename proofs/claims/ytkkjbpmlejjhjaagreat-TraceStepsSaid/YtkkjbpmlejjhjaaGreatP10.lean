/- Part of a proof (UH1 UH2 UI1 UI2 UI3 UI4 UJ1 UJ2 UJ3 UJ4 UJ5); no condition. -/
import Derived.Test.YtkkjbpmlejjhjaaGreatP6
import Derived.Test.YtkkjbpmlejjhjaaGreatP8
import Derived.Test.YtkkjbpmlejjhjaaGreatP9
set_option linter.unusedSimpArgs false
set_option linter.unusedVariables false
set_option linter.defProp false
set_option linter.unnecessarySimpa false
namespace Go.Proofs.Tc
open Go.Abs Go.Abs.S
def PtC(H:AHeap)(p:AVal)(c:List AVal):Prop:=∃a,p=.ptr (some a)∧rdCells H a c.length=some c
def fp(p:AVal)(o:Nat):AVal:=match p with
 | .ptr (some a)=>.ptr (some ⟨a.b,a.lim,a.o+o⟩)
 | _=>undefA
theorem PtC.fld{H:AHeap}{p:AVal}{c:List AVal}(h:PtC H p c)(o:Nat):aField o p=some (fp p o):=by
 obtain⟨a,rfl,_⟩:=h; rfl
theorem PtC.fld0{H:AHeap}{p:AVal}{c:List AVal}(h:PtC H p c):aField 0 p=some p:=by
 obtain⟨a,rfl,_⟩:=h; rfl
theorem PtC.load{H:AHeap}{p:AVal}{c:List AVal}(h:PtC H p c){o:Nat}{x:AVal}(hx:c[o]?=some x):oLoad false 1 H (fp p o)=some x:=by
 obtain⟨a,rfl,h1⟩:=h
 have hlt:=(List.getElem?_eq_some_iff.1 hx).1
 have:=rd_part h1 (i:=o) (j:=1) om
 have e:(c.drop o).take 1=[x]:=by
  rw[List.drop_eq_getElem_cons hlt,List.take_succ_cons,List.take_zero,(List.getElem?_eq_some_iff.1 hx).2]
 rw[e]at this
 simp only[fp,oLoad,this,cond_false]
theorem PtC.load0{H:AHeap}{p:AVal}{c:List AVal}(h:PtC H p c){x:AVal}(hx:c[0]?=some x):oLoad false 1 H p=some x:=by
 have:=h.load hx
 obtain⟨a,rfl,_⟩:=h
 exact this
theorem SlK.pt{P:Nat→Prop}{H:AHeap}{m k:Nat}{v:AVal}{C:List AVal}(h:SlK P H m v k C){i:Nat}(hi:i<k):PtC H (placeK m v i) ((C.drop (i*m)).take m):=by
 rcases h with⟨_,rfl,_⟩ | ⟨a,r,rfl,_,h3⟩
 ·omega
 ·have hm:i*m+m≤m*k:=by
   have:(i+1)*m≤k*m:=Nat.mul_le_mul_right m hi
   rw[Nat.mul_comm m k]; rw[Nat.add_mul,Nat.one_mul]at this; exact this
  have hl:C.length=m*k:=by
   obtain⟨l,low,ro,mk,h1,h2,h3',h4,rfl⟩:=rd_spec h3
   rw[List.length_take,List.length_drop]; omega
  refine⟨_,rfl,?_⟩
  rw[show ((C.drop (i*m)).take m).length=m by rw[List.length_take,List.length_drop]; omega]
  exact rd_part h3 hm
def rgF(R x:Int):Bool:=decide (0≤x)&&decide (x<R)
def twoO:List Nat:=[2,7,8,18,19,20,23,24,25,26,27,28]
def threeO:List Nat:=[3,4,5,6,9,10,11,12,13,14,15,16,21,22,29,30,31]
def okI(R:Int)(nk nc:Nat)(i:InZ):Bool:=
 if i.o=1 then rgF R i.a&&(rgF nk i.b&&decide (i.c=0))
 else if i.o∈twoO then rgF R i.a&&(rgF R i.b&&decide (i.c=0))
 else if i.o∈threeO then rgF R i.a&&(rgF R i.b&&rgF R i.c)
 else if i.o=17 then rgF R i.a&&(rgF R i.b&&(decide (i.b+2<R)&&decide (i.c=0)))
 else if i.o=32 then decide (i.a=0)&&(decide (i.b=0)&&rgF nc i.c)
 else if i.o=33 then rgF R i.a&&(decide (i.b=0)&&rgF nc i.c)
 else if i.o=34 then rgF R i.a&&(decide (i.b=0)&&decide (i.c=0))
 else false
def lastO(l:List InZ):Nat:=match l.getLast? with
 | some i=>i.o
 | none=>0
def okCode(R:Int)(nk:Nat)(l:List InZ):Nat:=
 if R<4∨250<R then 120
 else if l.length=0∨65536<l.length∨65536<nk then 120
 else if l.all (okI R nk l.length) then (if lastO l=32∨lastO l=34 then 0 else 120)
 else 120
def zL(xs:List Int):List AVal:=xs.map (.int .i64)
theorem zL_len(xs:List Int):(zL xs).length=xs.length:=by simp[zL]
theorem kright1_spec{xs:List Int}{v vc vd:AVal}{R:Int}{n bb:Nat}{H:AHeap}(c:Cel n H v (zL xs))(r:Row H bb [vc,.int .i64 R,vd])(hl:xs.length≤3):ACalls Tryz.prog noNat 110 [v,cellR bb 3 0] H fun u H'=>u=.bool (xs.all (rgF R))∧H=H':=by
 have ln:=c.len
 rw[zL_len]at ln
 refine acalls_ofN rfl za110 rfl ?_
 simp only[c110,sA,sB,seval,ln]
 refine aw_loop (fun m (T:Env) H'=>H=H'∧∃i:Nat,m=xs.length-i∧i≤xs.length∧T 1=cellR bb 3 0∧T 6=v∧T 7=.int .i64 (xs.length:Int)∧T 8=.int .i64 (i:Int)∧(xs.take i).all (rgF R)=true) xs.length
  ⟨rfl,0,rfl,Nat.zero_le _,by simp only[sA,sB,seval]; try rfl,by simp only[sA,sB,seval]; try rfl,by simp only[sA,sB,seval]; try rfl,by simp only[sA,sB,seval]; try rfl,rfl⟩ ?_
 rintro m T _ ⟨rfl,i,rfl,hi,t1,t6,t7,t8,hx⟩
 by_cases hlt:i<xs.length
 case neg=>
  obtain rfl:i=xs.length:=om
  have hlt':¬(xs.length:Int)<(xs.length:Int):=om
  rw[List.take_length]at hx
  simp only[sA,sB,seval,t1,t6,t7,t8,hlt',hx]
  exact⟨tt,tt⟩
 have hlt':(i:Int)<(xs.length:Int):=om
 obtain⟨y,hy⟩:∃y,xs[i]?=some y:=⟨_,List.getElem?_eq_getElem hlt⟩
 have io:=c.idx .i64 (i:=i) (by rw[zL_len]; exact hlt)
 have lo:=c.load (i:=i) (x:=.int .i64 y) (by simp[zL,hy])
 have lR:oLoad false 1 H (cellR bb 3 1)=some (.int .i64 R):=row_load r rfl rfl
 have wk:IntKind.i64.wrap ((i:Int)+1)=((i+1:Nat):Int):=w64
 have hts:(xs.take (i+1)).all (rgF R)=rgF R y:=by rw[List.take_add_one,hy,List.all_append,hx]; simp
 have bad:rgF R y=false→xs.all (rgF R)=false:=fun h=>by
  rw[List.all_eq_false]
  exact⟨y,List.mem_of_getElem? hy,by rw[h]; simp⟩
 by_cases h1:y<0
 ·have hb:=bad (by simp only[rgF]; rw[decide_eq_false om]; rfl)
  simp only[sA,sB,seval,t1,t6,t7,t8,hlt',io,lo,h1,hb]
  exact⟨tt,tt⟩
 by_cases h2:R≤y
 ·have hb:=bad (by simp only[rgF]; rw[decide_eq_false (by omega:¬y<R)]; simp)
  simp only[sA,sB,seval,t1,t6,t7,t8,hlt',io,lo,h1,fldA,lR,h2,hb]
  exact⟨tt,tt⟩
 ·have hb:rgF R y=true:=by simp only[rgF]; rw[decide_eq_true om,decide_eq_true (by omega:y<R)]; rfl
  rw[hb]at hts
  simp only[sA,sB,seval,t1,t6,t7,t8,hlt',io,lo,h1,fldA,lR,h2,wk]
  exact⟨xs.length-(i+1),om,tt,i+1,rfl,om,tt,tt,tt,tt,hts⟩
theorem kright2_spec{x n:Int}{H:AHeap}:ACalls Tryz.prog noNat 111 [.int .i64 x,.int .i64 n] H fun u H'=>u=.bool (rgF n x)∧H=H':=by
 refine acalls_ofN rfl za111 rfl ?_
 unfold rgF
 by_cases h1:0≤x
 ·simp only[c111,sA,sB,seval,h1]
  exact⟨by simp,tt⟩
 ·simp only[c111,sA,sB,seval,h1]
  exact⟨by simp,tt⟩
theorem bs_cel{H:AHeap}{xs:List Int}:Cel (H.next+1) (H.push (.cells (zL xs) 0 false)) (.slice (some ⟨H.next,xs.length,0⟩) xs.length (.known xs.length)) (zL xs):=by
 refine .inr ⟨⟨H.next,xs.length,0⟩,.known xs.length,by rw[zL_len],by show H.next<H.next+1; omega,?_⟩
 have:=rd_row (H:=H.push (.cells (zL xs) 0 false)) (b:=H.next) (l:=zL xs) ⟨0,by rw[AHeap.get_push,if_pos rfl],Nat.zero_le _⟩ (n:=xs.length) (by rw[zL_len]) (i:=0) (k:=xs.length) om
 rw[zL_len,this,List.drop_zero,List.take_of_length_le (by rw[zL_len]; omega)]
def izA(i:InZ):AVal:=.agg [.int .u8 (i.o:Int),.int .i64 i.a,.int .i64 i.b,.int .i64 i.c]
theorem kright_spec{i:InZ}{vc vd:AVal}{R:Int}{nk nc:Nat}{H:AHeap}(hc:aLenK false vc=some (.int .i64 (nk:Int)))(hd:aLenK false vd=some (.int .i64 (nc:Int)))(hR:R≤250)(o1:vc.one=true)(o2:vd.one=true) :
  ACalls Tryz.prog noNat 84 [izA i,.agg [vc,.int .i64 R,vd]] H fun u H'=>u=.bool (okI R nk nc i)∧Ext H.next H H':=by
 obtain⟨o,a,b,c⟩:=i
 obtain⟨H1,m1,r1,n1,k1⟩:=row_newL H [.int .u8 (o:Int),.int .i64 a,.int .i64 b,.int .i64 c] (n:=4) rfl
 obtain⟨H2,m2,r2,n2,k2⟩:=row_newL H1 [vc,.int .i64 R,vd] (n:=3) rfl
 have r12:Row H2 H.next [.int .u8 (o:Int),.int .i64 a,.int .i64 b,.int .i64 c]:=r1.same (k2 _ om)
 have E2:Ext H.next H H2:=⟨om,fun c hc=>by rw[k2 c om,k1 c om]⟩
 have f0:oLoad false 1 H2 (cellR H.next 4 0)=some (.int .u8 (o:Int)):=row_load r12 rfl rfl
 obtain⟨H3,hH3⟩:∃J,J=H2.push (.cells (zL [a]) 0 false):=⟨_,rfl⟩
 obtain⟨H4,hH4⟩:∃J,J=H2.push (.cells (zL [a,b]) 0 false):=⟨_,rfl⟩
 obtain⟨H5,hH5⟩:∃J,J=H2.push (.cells (zL [a,b,c]) 0 false):=⟨_,rfl⟩
 have E3:Ext H2.next H2 H3:=by rw[hH3]; exact⟨by show _≤H2.next+1; omega,fun c hc=>get_push_lt hc⟩
 have E4:Ext H2.next H2 H4:=by rw[hH4]; exact⟨by show _≤H2.next+1; omega,fun c hc=>get_push_lt hc⟩
 have E5:Ext H2.next H2 H5:=by rw[hH5]; exact⟨by show _≤H2.next+1; omega,fun c hc=>get_push_lt hc⟩
 have to:∀{K:AHeap},Ext H2.next H2 K→Ext H.next H K:=fun e=>⟨by have:=e.next; omega,fun c hc=>by rw[e.old c om,E2.old c hc]⟩
 have bs3:aBuildSl 1 [.int .i64 0] H2 [(0,1,.int .i64 a)]=some (.slice (some ⟨H2.next,1,0⟩) 1 (.known 1),H3):=by rw[hH3]; rfl
 have bs4:aBuildSl 2 [.int .i64 0] H2 [(0,1,.int .i64 a),(1,1,.int .i64 b)]=some (.slice (some ⟨H2.next,2,0⟩) 2 (.known 2),H4):=by rw[hH4]; rfl
 have bs5:aBuildSl 3 [.int .i64 0] H2 [(0,1,.int .i64 a),(1,1,.int .i64 b),(2,1,.int .i64 c)]=some (.slice (some ⟨H2.next,3,0⟩) 3 (.known 3),H5):=by rw[hH5]; rfl
 have c3:Cel (H2.next+1) H3 (.slice (some ⟨H2.next,1,0⟩) 1 (.known 1)) (zL [a]):=by rw[hH3]; exact bs_cel (xs:=[a])
 have c4:Cel (H2.next+1) H4 (.slice (some ⟨H2.next,2,0⟩) 2 (.known 2)) (zL [a,b]):=by rw[hH4]; exact bs_cel (xs:=[a,b])
 have c5:Cel (H2.next+1) H5 (.slice (some ⟨H2.next,3,0⟩) 3 (.known 3)) (zL [a,b,c]):=by rw[hH5]; exact bs_cel (xs:=[a,b,c])
 have p3:=r2.same (E3.old _ om)
 have p4:=r2.same (E4.old _ om)
 have p5:=r2.same (E5.old _ om)
 have q3:=r12.same (E3.old _ om)
 have q4:=r12.same (E4.old _ om)
 have la2:oLoad false 1 H2 (cellR H.next 4 1)=some (.int .i64 a):=row_load r12 rfl rfl
 have lb2:oLoad false 1 H2 (cellR H.next 4 2)=some (.int .i64 b):=row_load r12 rfl rfl
 have lc2:oLoad false 1 H2 (cellR H.next 4 3)=some (.int .i64 c):=row_load r12 rfl rfl
 have lb3:oLoad false 1 H3 (cellR H.next 4 2)=some (.int .i64 b):=row_load q3 rfl rfl
 have lc3:oLoad false 1 H3 (cellR H.next 4 3)=some (.int .i64 c):=row_load q3 rfl rfl
 have lb4:oLoad false 1 H4 (cellR H.next 4 2)=some (.int .i64 b):=row_load q4 rfl rfl
 have lc4:oLoad false 1 H4 (cellR H.next 4 3)=some (.int .i64 c):=row_load q4 rfl rfl
 have lk3:oLoad false 1 H3 (cellR H1.next 3 0)=some vc:=row_load p3 rfl rfl
 have ld3:oLoad false 1 H3 (cellR H1.next 3 2)=some vd:=row_load p3 rfl rfl
 have ld2:oLoad false 1 H2 (cellR H1.next 3 2)=some vd:=row_load r2 rfl rfl
 have lR4:oLoad false 1 H4 (cellR H1.next 3 1)=some (.int .i64 R):=row_load p4 rfl rfl
 have F2:=E2
 have F3:=to E3
 have F4:=to E4
 have F5:=to E5
 have w3:=kright1_spec c3 p3 (by simp)
 have w4:=kright1_spec c4 p4 (by simp)
 have w5:=kright1_spec c5 p5 (by simp)
 have e3:[a].all (rgF R)=rgF R a:=by simp
 have e4:[a,b].all (rgF R)=(rgF R a&&rgF R b):=by simp
 have e5:[a,b,c].all (rgF R)=(rgF R a&&(rgF R b&&rgF R c)):=by simp
 rw[e3]at w3
 rw[e4]at w4
 rw[e5]at w5
 unfold izA
 refine acalls_ofN rfl za84 rfl ?_
 by_cases h:o=1
 ·have hok:okI R nk nc ⟨o,a,b,c⟩=(rgF R a&&(rgF nk b&&decide (c=0))):=by rw[h]; rfl
  rw[hok]
  subst h
  simp only[Int.cast_ofNat_Int]at m1 f0
  simp only[c84,sA,sB,seval,Int.cast_ofNat_Int,cells_agg,m1,m2,fld0,fldA,f0,la2,bs3]
  refine w3.mono ?_
  rintro _ _ ⟨rfl,rfl⟩
  cases ha:rgF R a with
  | false=>
   simp only[sA,sB,seval]
   exact⟨by simp,F3⟩
  | true=>
   simp only[sA,sB,seval,fld0,fldA,lb3,lk3,hc]
   refine kright2_spec.mono ?_
   rintro _ _ ⟨rfl,rfl⟩
   cases hb:rgF nk b with
   | false=>
    simp only[sA,sB,seval]
    exact⟨by simp,F3⟩
   | true=>
    simp only[sA,sB,seval,fldA,lc3]
    exact⟨by simp,F3⟩
 by_cases h:o=2∨o=7∨o=8∨o=18∨o=19∨o=20∨o=23∨o=24∨o=25∨o=26∨o=27∨o=28
 ·rcases h with h | h | h | h | h | h | h | h | h | h | h | h
  all_goals
   have hok:okI R nk nc ⟨o,a,b,c⟩=(rgF R a&&(rgF R b&&decide (c=0))):=by rw[h]; rfl
   rw[hok]
   subst h
   simp only[Int.cast_ofNat_Int]at m1 f0
   simp only[c84,sA,sB,seval,Int.cast_ofNat_Int,cells_agg,m1,m2,fld0,fldA,f0,la2,lb2,bs4]
   refine w4.mono ?_
   rintro _ _ ⟨rfl,rfl⟩
   cases ha:(rgF R a&&rgF R b) with
   | false=>
    simp only[sA,sB,seval]
    exact⟨by rw[← Bool.and_assoc,ha]; simp,F4⟩
   | true=>
    simp only[sA,sB,seval,fldA,lc4]
    exact⟨by rw[← Bool.and_assoc,ha]; simp,F4⟩
 by_cases h:o=3∨o=4∨o=5∨o=6∨o=9∨o=10∨o=11∨o=12∨o=13∨o=14∨o=15∨o=16∨o=21∨o=22∨o=29∨o=30∨o=31
 ·rcases h with h | h | h | h | h | h | h | h | h | h | h | h | h | h | h | h | h
  all_goals
   have hok:okI R nk nc ⟨o,a,b,c⟩=(rgF R a&&(rgF R b&&rgF R c)):=by rw[h]; rfl
   rw[hok]
   subst h
   simp only[Int.cast_ofNat_Int]at m1 f0
   simp only[c84,sA,sB,seval,Int.cast_ofNat_Int,cells_agg,m1,m2,fld0,fldA,f0,la2,lb2,lc2,bs5]
   refine w5.mono ?_
   rintro _ _ ⟨rfl,rfl⟩
   simp only[sA,sB,seval]
   exact⟨tt,F5⟩
 by_cases h:o=17
 ·have hok:okI R nk nc ⟨o,a,b,c⟩=(rgF R a&&(rgF R b&&(decide (b+2<R)&&decide (c=0)))):=by rw[h]; rfl
  rw[hok]
  subst h
  simp only[Int.cast_ofNat_Int]at m1 f0
  simp only[c84,sA,sB,seval,Int.cast_ofNat_Int,cells_agg,m1,m2,fld0,fldA,f0,la2,lb2,bs4]
  refine w4.mono ?_
  rintro _ _ ⟨rfl,rfl⟩
  cases ha:(rgF R a&&rgF R b) with
  | false=>
   simp only[sA,sB,seval]
   exact⟨by rw[← Bool.and_assoc,ha]; simp,F4⟩
  | true=>
   have hb:0≤b∧b<R:=by
    simp only[Bool.and_eq_true,rgF,decide_eq_true_eq]at ha; exact ha.2
   have wb:IntKind.i64.wrap (b+2)=b+2:=w64
   by_cases h2:b+2<R
   ·simp only[sA,sB,seval,fldA,lb4,lR4,wb,h2,lc4]
    exact⟨by rw[← Bool.and_assoc,ha]; simp,F4⟩
   ·simp only[sA,sB,seval,fldA,lb4,lR4,wb,h2]
    exact⟨by rw[← Bool.and_assoc,ha]; simp,F4⟩
 by_cases h:o=32
 ·have hok:okI R nk nc ⟨o,a,b,c⟩=(decide (a=0)&&(decide (b=0)&&rgF nc c)):=by rw[h]; rfl
  rw[hok]
  subst h
  simp only[Int.cast_ofNat_Int]at m1 f0
  by_cases ha:a=0
  ·subst ha
   by_cases hb:b=0
   ·subst hb
    simp only[c84,sA,sB,seval,Int.cast_ofNat_Int,cells_agg,m1,m2,fld0,fldA,f0,la2,lb2,lc2,ld2,hd]
    refine kright2_spec.mono ?_
    rintro _ _ ⟨rfl,rfl⟩
    simp only[sA,sB,seval]
    exact⟨by simp,F2⟩
   ·simp only[c84,sA,sB,seval,Int.cast_ofNat_Int,cells_agg,m1,m2,fld0,fldA,f0,la2,lb2,hb]
    exact⟨by simp,F2⟩
  ·simp only[c84,sA,sB,seval,Int.cast_ofNat_Int,cells_agg,m1,m2,fld0,fldA,f0,la2,ha]
   exact⟨by simp,F2⟩
 by_cases h:o=33
 ·have hok:okI R nk nc ⟨o,a,b,c⟩=(rgF R a&&(decide (b=0)&&rgF nc c)):=by rw[h]; rfl
  rw[hok]
  subst h
  simp only[Int.cast_ofNat_Int]at m1 f0
  simp only[c84,sA,sB,seval,Int.cast_ofNat_Int,cells_agg,m1,m2,fld0,fldA,f0,la2,bs3]
  refine w3.mono ?_
  rintro _ _ ⟨rfl,rfl⟩
  cases ha:rgF R a with
  | false=>
   simp only[sA,sB,seval]
   exact⟨by simp,F3⟩
  | true=>
   by_cases hb:b=0
   ·simp only[sA,sB,seval,fld0,fldA,lb3,hb,lc3,ld3,hd]
    refine kright2_spec.mono ?_
    rintro _ _ ⟨rfl,rfl⟩
    simp only[sA,sB,seval]
    exact⟨by simp,F3⟩
   ·simp only[sA,sB,seval,fld0,fldA,lb3,hb]
    exact⟨by simp,F3⟩
 by_cases h:o=34
 ·have hok:okI R nk nc ⟨o,a,b,c⟩=(rgF R a&&(decide (b=0)&&decide (c=0))):=by rw[h]; rfl
  rw[hok]
  subst h
  simp only[Int.cast_ofNat_Int]at m1 f0
  simp only[c84,sA,sB,seval,Int.cast_ofNat_Int,cells_agg,m1,m2,fld0,fldA,f0,la2,bs3]
  refine w3.mono ?_
  rintro _ _ ⟨rfl,rfl⟩
  cases ha:rgF R a with
  | false=>
   simp only[sA,sB,seval]
   exact⟨by simp,F3⟩
  | true=>
   by_cases hb:b=0
   ·simp only[sA,sB,seval,fld0,fldA,lb3,hb,lc3]
    exact⟨by simp,F3⟩
   ·simp only[sA,sB,seval,fld0,fldA,lb3,hb]
    exact⟨by simp,F3⟩
 have hok:okI R nk nc ⟨o,a,b,c⟩=false:=by
  unfold okI
  rw[if_neg (by assumption),if_neg (by simp only[twoO,List.mem_cons,List.not_mem_nil,or_false]; omega),if_neg (by simp only[threeO,List.mem_cons,List.not_mem_nil,or_false]; omega),if_neg (by assumption),if_neg (by assumption),if_neg (by assumption),if_neg (by assumption)]
 rw[hok]
 have z:¬(o:Int)=1∧¬(o:Int)=2∧¬(o:Int)=7∧¬(o:Int)=8∧¬(o:Int)=18∧¬(o:Int)=19∧¬(o:Int)=20∧¬(o:Int)=23∧¬(o:Int)=24∧¬(o:Int)=25∧¬(o:Int)=26∧¬(o:Int)=27∧¬(o:Int)=28∧¬(o:Int)=3∧¬(o:Int)=4∧¬(o:Int)=5∧¬(o:Int)=6∧¬(o:Int)=9∧¬(o:Int)=10∧¬(o:Int)=11∧¬(o:Int)=12∧¬(o:Int)=13∧¬(o:Int)=14∧¬(o:Int)=15∧¬(o:Int)=16∧¬(o:Int)=21∧¬(o:Int)=22∧¬(o:Int)=29∧¬(o:Int)=30∧¬(o:Int)=31∧¬(o:Int)=17∧¬(o:Int)=32∧¬(o:Int)=33∧¬(o:Int)=34:=om
 simp only[c84,sA,sB,seval,cells_agg,m1,m2,fld0,fldA,f0,z]
 exact⟨tt,F2⟩
open Go.Abs Go.Abs.S
def izC(i:InZ):List AVal:=[.int .u8 (i.o:Int),.int .i64 i.a,.int .i64 i.b,.int .i64 i.c]
def izL:List InZ→List AVal
 | []=>[]
 | i::l=>izC i++izL l
theorem izL_at:∀{l:List InZ} {i:Nat} {x:InZ},l[i]?=some x→((izL l).drop (i*4)).take 4=izC x
 | [],i,x,h=>by simp at h
 | y::l,0,x,h=>by
  simp only[List.getElem?_cons_zero,sJ]at h
  subst h; rfl
 | y::l,i+1,x,h=>by
  simp only[List.getElem?_cons_succ]at h
  have:=izL_at h
  rw[show (i+1)*4=(izC y).length+i*4 by simp[izC]; omega]
  simp only[izL]
  rw[List.drop_append,List.drop_of_length_le om,List.nil_append,show (izC y).length+i*4-(izC y).length=i*4 by omega]
  exact this
theorem kcheck_spec{l:List InZ}{vc vd:AVal}{R:Int}{nk n0:Nat}{H:AHeap}(hc:aLenK false vc=some (.int .i64 (nk:Int)))(z:SlK (·<n0) H 4 vd l.length (izL l))(hn:n0≤H.next)(o1:vc.one=true)(hl:l.length≤1000000) :
  ACalls Tryz.prog noNat 35 [.agg [vc,.int .i64 R,vd]] H fun u H'=>u=.int .i64 (okCode R nk l:Int)∧Ext H.next H H':=by
 have o2:=z.one
 have hd:=z.len
 obtain⟨H1,m1,r1,n1,k1⟩:=row_newL H [vc,.int .i64 R,vd] (n:=3) (by rfl)
 have E1:Ext H.next H H1:=⟨om,fun c hc=>k1 c om⟩
 obtain⟨bb,hbb⟩:∃b,b=H.next:=⟨_,rfl⟩
 rw[← hbb]at m1 r1 k1
 have l0:oLoad false 1 H1 (cellR bb 3 0)=some vc:=row_load r1 rfl rfl
 have l1:oLoad false 1 H1 (cellR bb 3 1)=some (.int .i64 R):=row_load r1 rfl rfl
 have l2:oLoad false 1 H1 (cellR bb 3 2)=some vd:=row_load r1 rfl rfl
 refine acalls_ofN rfl za35 rfl ?_
 unfold okCode
 by_cases h4:R<4
 ·rw[if_pos (.inl h4)]
  simp only[c35,sA,sB,seval,cells_agg,m1,fldA,l1,h4]
  exact⟨tt,E1⟩
 by_cases h250:250<R
 ·rw[if_pos (.inr h250)]
  simp only[c35,sA,sB,seval,cells_agg,m1,fldA,l1,h4,h250]
  exact⟨tt,E1⟩
 rw[if_neg om]
 by_cases h0:l.length=0
 ·have h0':(l.length:Int)=0:=om
  rw[if_pos (.inl h0)]
  simp only[c35,sA,sB,seval,cells_agg,m1,fldA,l1,h4,h250,l2,hd,h0']
  exact⟨tt,E1⟩
 have h0':¬(l.length:Int)=0:=om
 by_cases h6:65536<l.length
 ·have h6':(65536:Int)<(l.length:Int):=om
  rw[if_pos (.inr (.inl h6))]
  simp only[c35,sA,sB,seval,cells_agg,m1,fldA,l1,h4,h250,l2,hd,h0',h6']
  exact⟨tt,E1⟩
 have h6':¬(65536:Int)<(l.length:Int):=om
 by_cases h7:65536<nk
 ·have h7':(65536:Int)<(nk:Int):=om
  rw[if_pos (.inr (.inr h7))]
  simp only[c35,sA,sB,seval,cells_agg,m1,fld0,fldA,l1,h4,h250,l2,hd,h0',h6',l0,hc,h7']
  exact⟨tt,E1⟩
 have h7':¬(65536:Int)<(nk:Int):=om
 rw[if_neg om]
 simp only[c35,sA,sB,seval,cells_agg,m1,fld0,fldA,l1,h4,h250,l2,hd,h0',h6',l0,hc,h7']
 refine aw_loop (fun m (T:Env) K=>∃i:Nat,m=l.length-i∧i≤l.length∧T 1=cellR bb 3 0∧T 31=vd∧T 32=.int .i64 (l.length:Int)∧T 33=.int .i64 (i:Int)∧Ext H1.next H1 K∧(l.take i).all (okI R nk l.length)=true) l.length
  ⟨0,rfl,Nat.zero_le _,by simp only[sA,sB,seval]; try rfl,by simp only[sA,sB,seval]; try rfl,by simp only[sA,sB,seval]; try rfl,by simp only[sA,sB,seval]; try rfl,⟨Nat.le_refl _,fun _ _=>rfl⟩,rfl⟩ ?_
 rintro m T K ⟨i,rfl,hi,t1,t31,t32,t33,EK,hx⟩
 have eK:=EK.next
 have rK:=r1.same (EK.old bb om)
 have zK:SlK (·<n0) K 4 vd l.length (izL l):=z.mono fun c hcc=>⟨hcc,by have:c<n0:=hcc; rw[EK.old c om,E1.old c om]⟩
 have to:∀{K':AHeap},Ext K.next K K'→Ext H.next H K':=fun e=>⟨by have:=e.next; omega,fun c hcc=>by rw[e.old c om,EK.old c om,E1.old c hcc]⟩
 by_cases hlt:i<l.length
 case neg=>
  obtain rfl:i=l.length:=om
  have hlt':¬(l.length:Int)<(l.length:Int):=om
  rw[List.take_length]at hx
  rw[if_pos hx]
  obtain⟨x,hx2⟩:∃x,l[l.length-1]?=some x:=⟨_,List.getElem?_eq_getElem om⟩
  have hlo:lastO l=x.o:=by unfold lastO; rw[List.getLast?_eq_getElem?,hx2]
  have wj:IntKind.i64.wrap ((l.length:Int)-1)=((l.length-1:Nat):Int):=w64
  have ix:=zK.idx (i:=l.length-1) om
  have pt:=zK.pt (i:=l.length-1) om
  rw[izL_at hx2]at pt
  have lo:oLoad false 1 K (placeK 4 vd (l.length-1))=some (.int .u8 (x.o:Int)):=pt.load0 rfl
  have f0:=pt.fld0
  have lK2:oLoad false 1 K (cellR bb 3 2)=some vd:=row_load rK rfl rfl
  rw[hlo]
  by_cases h32:x.o=32
  ·have q:(x.o:Int)=32:=om
   rw[if_pos (.inl h32)]
   simp only[sA,sB,seval,t1,t31,t32,t33,hlt',fldA,lK2,hd,wj,ix,f0,lo,q]
   exact⟨tt,to ⟨Nat.le_refl _,fun _ _=>rfl⟩⟩
  have q:¬(x.o:Int)=32:=om
  by_cases h34:x.o=34
  ·have q2:(x.o:Int)=34:=om
   rw[if_pos (.inr h34)]
   simp only[sA,sB,seval,t1,t31,t32,t33,hlt',fldA,lK2,hd,wj,ix,f0,lo,q2]
   exact⟨tt,to ⟨Nat.le_refl _,fun _ _=>rfl⟩⟩
  ·have q2:¬(x.o:Int)=34:=om
   rw[if_neg om]
   simp only[sA,sB,seval,t1,t31,t32,t33,hlt',fldA,lK2,hd,wj,ix,f0,lo,q,q2]
   exact⟨tt,to ⟨Nat.le_refl _,fun _ _=>rfl⟩⟩
 have hlt':(i:Int)<(l.length:Int):=om
 obtain⟨x,hx2⟩:∃x,l[i]?=some x:=⟨_,List.getElem?_eq_getElem hlt⟩
 have ix:=zK.idx hlt
 have ld:=zK.load hlt
 rw[izL_at hx2]at ld
 have wk:IntKind.i64.wrap ((i:Int)+1)=((i+1:Nat):Int):=wrap1 i om
 obtain⟨H2,m2,r2,n2,k2⟩:=row_newL K [.int .u8 0,.int .i64 0,.int .i64 0,.int .i64 0] (n:=4) rfl
 obtain⟨H3,m3,r3,n3,k3⟩:=row_storeN r2 (n:=4) rfl (xs:=izC x) rfl rfl
 have la:oLoad true 4 H3 (cellR K.next 4 0)=some (izA x):=row_loadN r3 rfl
 have k03:∀c,c<K.next→H3.get c=K.get c:=fun c hcc=>by rw[k3 c om,k2 c om]
 have lb:oLoad true 3 H3 (cellR bb 3 0)=some (.agg [vc,.int .i64 R,vd]):=row_loadN (rK.same (k03 bb om)) rfl
 have m3':oStore 4 H2 (cellR K.next 4 0) (.agg (izC x))=some H3:=m3
 simp only[sA,sB,seval,t1,t31,t32,t33,hlt',ix,ld,m2,m3',la,lb]
 refine (kright_spec (nk:=nk) (nc:=l.length) hc hd om o1 o2).mono ?_
 rintro _ H4 ⟨rfl,E4⟩
 have e4:=E4.next
 have EK4:Ext K.next K H4:=⟨om,fun c hcc=>by rw[E4.old c om,k03 c hcc]⟩
 cases hok:okI R nk l.length x with
 | false=>
  rw[if_neg (fun h=>by rw[List.all_eq_true]at h; rw[h x (List.mem_of_getElem? hx2)]at hok; exact absurd hok (by simp))]
  simp only[sA,sB,seval]
  exact⟨tt,to EK4⟩
 | true=>
  simp only[sA,sB,seval,t1,t31,t32,t33,wk]
  refine⟨l.length-(i+1),om,i+1,rfl,om,tt,tt,tt,tt,⟨om,fun c hcc=>by rw[EK4.old c om,EK.old c hcc]⟩,?_⟩
  rw[List.take_add_one,hx2,List.all_append,hx]
  simp[hok]
open Go.Abs Go.Abs.S
def GdAt(N:Nat)(ns:List Nod)(i:Nat)(x:Nod):Prop:=
 x.from_<x.to_∧x.to_≤N∧(x.first=-1∨∃(a b:Nat) (y z:Nod),x.first=a∧x.second=b∧i<a∧i<b∧ns[a]?=some y∧ns[b]?=some z∧(y.to_-y.from_)+(z.to_-z.from_)=x.to_-x.from_)
theorem GdAt.to{N:Nat}{ns ns':List Nod}{i:Nat}{x:Nod}(h:GdAt N ns i x)(e:∀j y,i<j→ns[j]?=some y→ns'[j]?=some y):GdAt N ns' i x:=by
 obtain⟨h1,h2,h3 | ⟨a,b,y,z,g1,g2,g3,g4,g5,g6,g7⟩⟩:=h
 ·exact⟨h1,h2,.inl h3⟩
 ·exact⟨h1,h2,.inr ⟨a,b,y,z,g1,g2,g3,g4,e _ _ g3 g5,e _ _ g4 g6,g7⟩⟩
theorem add_good(bs:List Bx)(N:Nat)(hj:∀b∈bs,b.j):∀(k a b:Nat) (ns:List Nod) (os:List Nat),a<b→b≤os.length→b≤N→b-a≤k →
  (∃y,(addF bs k a b (ns,os)).1[ns.length]?=some y∧y.from_=a∧y.to_=b)∧∀i x,ns.length≤i→(addF bs k a b (ns,os)).1[i]?=some x→GdAt N (addF bs k a b (ns,os)).1 i x∧x.box.j
 | 0,a,b,ns,os,h1,_,_,h3=>om
 | k+1,a,b,ns,os,h1,h2,hN,h3=>by
  by_cases h:b-a≤2
  ·rw[add_leaf h]
   refine⟨⟨nodF bs os a b,by simp,rfl,rfl⟩,fun i x hi hx=>?_⟩
   obtain⟨j,rfl⟩:∃j,i=ns.length+j:=⟨i-ns.length,om⟩
   rw[List.getElem?_append_right om,Nat.add_sub_cancel_left]at hx
   cases j with
   | zero=>simp at hx; subst hx; exact⟨⟨h1,hN,.inl rfl⟩,aroundF_j hj _⟩
   | succ j=>simp at hx
  ·rw[add_fork h]
   obtain⟨os1,ho⟩:∃o,o=ordF bs (axisF (nodF bs os a b).box) os a b:=⟨_,rfl⟩
   have ol:os1.length=os.length:=by rw[ho]; exact ord_len om h2
   rw[← ho]
   obtain⟨hf,hhf⟩:∃q,q=a+(b-a) / 2:=⟨_,rfl⟩
   rw[← hhf]
   obtain⟨t1,e1,l1,l1',o1,q1⟩:=add_more bs k a hf (ns++[nodF bs os a b]) os1 om om om
   obtain⟨⟨y1,r1,r1a,r1b⟩,g1⟩:=add_good bs N hj k a hf (ns++[nodF bs os a b]) os1 om om om om
   obtain⟨p1,hp1⟩:∃p,p=addF bs k a hf (ns++[nodF bs os a b],os1):=⟨_,rfl⟩
   rw[← hp1]at e1 o1 q1 r1 g1
   obtain⟨ns1,os2⟩:=p1
   simp only[← hp1]
   simp only at e1 o1 q1 r1 g1
   have hl1:ns1.length=ns.length+1+t1.length:=by rw[e1]; simp; omega
   obtain⟨t2,e2,l2,l2',o2,q2⟩:=add_more bs k hf b ns1 os2 om om om
   obtain⟨⟨y2,r2,r2a,r2b⟩,g2⟩:=add_good bs N hj k hf b ns1 os2 om om om om
   obtain⟨p2,hp2⟩:∃p,p=addF bs k hf b (ns1,os2):=⟨_,rfl⟩
   rw[← hp2]at e2 r2 g2
   obtain⟨ns2,os3⟩:=p2
   simp only at e2 r2 g2
   simp only[← hp2]
   have keep:∀j y,ns.length<j→ns2[j]?=some y→(ns2.set ns.length { nodF bs os a b with first:=ns.length+1,second:=ns1.length })[j]?=some y:=fun j y hj hy=>by
    rw[List.getElem?_set_ne om]; exact hy
   have up:∀j y,ns1[j]?=some y→ns2[j]?=some y:=fun j y hy=>by
    rw[e2,List.getElem?_append_left (List.getElem?_eq_some_iff.1 hy).1]; exact hy
   have hlt:ns.length<ns2.length:=by rw[e2,lA]; omega
   rw[show (ns++[nodF bs os a b]).length=ns.length+1 by simp]at r1 g1
   refine⟨⟨{ nodF bs os a b with first:=ns.length+1,second:=ns1.length },by rw[List.getElem?_set_self hlt],rfl,rfl⟩,fun i x hi hx=>?_⟩
   by_cases hi0:i=ns.length
   ·subst hi0
    rw[List.getElem?_set_self hlt]at hx
    simp only[sJ]at hx
    subst hx
    refine⟨⟨h1,hN,.inr ⟨ns.length+1,ns1.length,y1,y2,by simp,rfl,om,om,keep _ _ om (up _ _ r1),keep _ _ om r2,?_⟩⟩,aroundF_j hj _⟩
    rw[r1a,r1b,r2a,r2b]
    show hf-a+(b-hf)=b-a
    omega
   ·rw[List.getElem?_set_ne om]at hx
    by_cases hi1:i<ns1.length
    ·rw[e2,List.getElem?_append_left hi1]at hx
     have:=g1 i x om hx
     exact⟨this.1.to fun j y hj hy=>keep j y om (up j y hy),this.2⟩
    ·have:=g2 i x om hx
     exact⟨this.1.to fun j y hj hy=>keep j y om hy,this.2⟩
structure Tre.ok(t:Tre):Prop where
 m:t.msh.ok
 g:∀i x,t.nods[i]?=some x→GdAt t.order.length t.nods i x∧x.box.j
 o:∀y∈t.order,y<t.msh.n
 r:t.nods=[]∨∃x,t.nods[0]?=some x∧x.to_-x.from_≤t.order.length
 s:t.order.length≤12
 l:t.nods.length≤1000
theorem build_ok{m:Msh}(h:m.ok)(hn:m.n≤12):(buildF m).ok:=by
 unfold buildF
 by_cases h0:m.n=0
 ·rw[if_pos h0]
  exact⟨h,fun i x hx=>by simp at hx,fun y hy=>by simp at hy,.inl rfl,by simp,by simp⟩
 rw[if_neg h0]
 have hb:∀b∈boxesF m,b.j:=fun b hb=>by
  unfold boxesF at hb
  obtain⟨i,_,rfl⟩:=List.mem_map.1 hb
  exact h.box i
 obtain⟨⟨y,r1,r2,r3⟩,g⟩:=add_good (boxesF m) m.n hb 20 0 m.n [] (List.range m.n) om (by simp) rL om
 obtain⟨t,e,l1,l2,o1,q1⟩:=add_more (boxesF m) 20 0 m.n [] (List.range m.n) om (by simp) om
 obtain⟨p,hp⟩:∃p,p=addF (boxesF m) 20 0 m.n ([],List.range m.n):=⟨_,rfl⟩
 rw[← hp]at r1 g e o1 q1
 rw[← hp]
 have ol:p.2.length=m.n:=by rw[o1]; simp
 refine⟨h,fun i x hx=>?_,fun y hy=>by have:=q1 y hy; simpa using this,.inr ⟨y,r1,?_⟩,?_,?_⟩
 ·show GdAt p.2.length p.1 i x∧_
  rw[ol]; exact g i x (Nat.zero_le _) hx
 ·show y.to_-y.from_≤p.2.length
  omega
 ·show p.2.length≤12
  omega
 ·show p.1.length≤1000
  rw[e,List.nil_append]; omega
def wtN(ns:List Nod)(i:Nat):Nat:=match ns[i]? with
 | some x=>x.to_-x.from_
 | none=>0
def wtS(ns:List Nod)(st:List Nat):Nat:=(st.map (wtN ns)).sum
theorem wtS_cons(ns:List Nod)(i:Nat)(st:List Nat):wtS ns (i::st)=wtN ns i+wtS ns st:=rfl
theorem wt_some{ns:List Nod}{i:Nat}{x:Nod}(h:ns[i]?=some x):wtN ns i=x.to_-x.from_:=by unfold wtN; rw[h]
theorem Tre.ok.len{t:Tre}(h:t.ok):∀{st:List Nat},(∀i∈st,i<t.nods.length)→st.length≤wtS t.nods st
 | [],_=>Nat.zero_le _
 | i::st,hs=>by
  have:=h.len (st:=st) fun j hj=>hs j (List.mem_cons_of_mem _ hj)
  obtain⟨x,hx⟩:=isSome_of_lt (hs i (List.mem_cons_self ..))
  have:=(h.g i x hx).1.1
  rw[wtS_cons,wt_some hx,List.length_cons]; omega
def Hit.in(n:Nat)(h:Hit):Prop:=h.j∧(h.i=-1∨∃i:Nat,h.i=i∧i<n)
theorem noHit_in(n:Nat):noHit.in n:=⟨⟨⟨by decide,by decide⟩,⟨by decide,by decide⟩,⟨by decide,by decide⟩,by decide,by decide⟩,.inl rfl⟩
theorem triF_j{r:Ray}{a b c:V}{h:Hit}(e:triF r a b c=some h):J64 h.t∧J64 h.u∧J64 h.v:=by
 unfold triF at e
 simp only at e
 split at e
 ·simp at e
 split at e
 ·simp at e
 split at e
 ·simp at e
 split at e
 ·simp at e
 simp only[sJ]at e
 subst e
 exact⟨fDiv_j ..,fDiv_j ..,fDiv_j ..⟩
theorem shapeF_in{m:Msh}{i:Nat}(hi:i<m.n)(hn:m.n≤10000){r:Ray}{least:Int}{h:Hit}(e:shapeF m i r least=some h):h.in m.n:=by
 have hi64:J64 (i:Int):=⟨om,om⟩
 have z:J64 0:=⟨by decide,by decide⟩
 unfold shapeF at e
 split at e
 ·simp at e
 rename_i near hb
 have hnj:=boxF_j hb
 split at e
 ·simp only at e
  split at e
  ·simp at e
  rename_i q hq
  obtain⟨a1,a2,a3⟩:=triF_j hq
  split at e
  ·simp at e
  simp only[sJ]at e
  subst e
  exact⟨⟨max_j a1 hnj,hi64,a2,a3⟩,.inr ⟨i,rfl,hi⟩⟩
 ·split at e
  ·simp at e
  rename_i p hp
  obtain⟨b1,b2⟩:=ballF_j hp
  split at e
  ·simp only[sJ]at e
   subst e
   exact⟨⟨max_j b1 hnj,hi64,z,z⟩,.inr ⟨i,rfl,hi⟩⟩
  split at e
  ·simp only[sJ]at e
   subst e
   exact⟨⟨max_j b2 hnj,hi64,z,z⟩,.inr ⟨i,rfl,hi⟩⟩
  ·simp at e
open Go.Abs Go.Abs.S
def TrK(P:Nat→Prop)(H:AHeap)(p:AVal)(t:Tre):Prop:=∃b vp vt vb vN vO d,p=cellR b 7 0∧P b∧Row H b (treL vp vt vb vN vO d)∧MsIn P H vp vt vb t.msh∧SlK P H 10 vN t.nods.length (t.nods.flatMap Nod.cells)∧vO.one=true∧(t.nods=[]∨∃bo,vO=ordS bo t.order.length∧P bo∧Row H bo (nats t.order))
theorem TrK.mono{P Q:Nat→Prop}{H H':AHeap}{p:AVal}{t:Tre}(h:TrK P H p t)(q:∀b,P b→Q b∧H'.get b=H.get b):TrK Q H' p t:=by
 obtain⟨b,vp,vt,vb,vN,vO,d,h1,h2,h3,h4,h5,h6,h7⟩:=h
 refine⟨b,vp,vt,vb,vN,vO,d,h1,(q _ h2).1,h3.same (q _ h2).2,h4.mono q,h5.mono q,h6,?_⟩
 rcases h7 with h7 | ⟨bo,g1,g2,g3⟩
 ·exact .inl h7
 ·exact .inr ⟨bo,g1,(q _ g2).1,g3.same (q _ g2).2⟩
theorem treB(vp vt vb:AVal)(o1:vp.one=true)(o2:vt.one=true)(o3:vb.one=true):aBuild [.bool false,.slice none 0 (.known 0),.slice none 0 (.known 0),.slice none 0 (.known 0),.slice none 0 (.known 0),.slice none 0 (.known 0),.int .i64 0] [(0,1,.bool true),(1,3,.agg [vp,vt,vb])]=some (.agg (treL vp vt vb nilS nilS 0)):=by
 have h:∀v:AVal,v.one=true→v.cells=[v]:=fun v hv=>by cases v <;> first | rfl | simp[AVal.one]at hv
 have h1:=h vp o1
 have h2:=h vt o2
 have h3:=h vb o3
 rfl
theorem ms1(vp vt vb:AVal)(o1:vp.one=true)(o2:vt.one=true)(o3:vb.one=true):aBuild [.slice none 0 (.known 0),.slice none 0 (.known 0),.slice none 0 (.known 0)] [(0,1,vp),(1,1,vt),(2,1,vb)]=some (.agg [vp,vt,vb]):=by
 have h:∀v:AVal,v.one=true→v.cells=[v]:=fun v hv=>by cases v <;> first | rfl | simp[AVal.one]at hv
 simp only[aBuild,aFill,h vp o1,h vt o2,h vb o3]; rfl
theorem take_boxes(m:Msh){i:Nat}(hi:i<m.n):((boxesF m).take (i+1)).flatMap Bx.cells=((boxesF m).take i).flatMap Bx.cells++(boxOf m i).cells:=by
 rw[List.take_add_one,List.flatMap_append]
 have:(boxesF m)[i]?=some (boxOf m i):=by unfold boxesF; rw[List.getElem?_map,List.getElem?_range hi]; rfl
 rw[this]; simp
theorem nats_succ(i:Nat):nats (List.range (i+1))=nats (List.range i)++[.int .i64 (i:Int)]:=by
 unfold nats; rw[List.range_succ,List.map_append]; rfl
theorem one1(H:AHeap)(i:Int):aBuildSl 1 [.int .i64 0] H [(0,1,.int .i64 i)]=some (oneM H 1,H.push (.cells [.int .i64 i] 0 false)):=rfl
theorem _root_.Go.Abs.S.AppN.aeq{m n k:Nat}{H:AHeap}{s:AVal}{L:List AVal}(h:AppN m n H s L k):aeq s s=true:=by
 rcases h with⟨rfl,_⟩ | ⟨b,low,rfl,_⟩
 ·exact aeq_nilS
 ·exact aeq_open _ _ _
open Go.Abs Go.Abs.S
theorem build_spec{m:Msh}(hm:mshOk m=true)(hn:m.n≤12){steps:Int}(hs1:1000≤steps)(hs2:steps<4611686018427387904){vp vt vb:AVal}{H:AHeap}(I:MsIn (·<H.next) H vp vt vb m) :
  ACalls Tryz.prog noNat 42 [.agg (mshL vp vt vb),.int .i64 steps] H fun r H'=>∃p w,r=.tuple [p,.int .i64 w,.int .i64 0]∧0≤w∧w≤1000∧TrK (fun b=>H.next≤b∧b<H'.next) H' p (buildF m)∧Ext H.next H H':=by
 have hok:=mshOk_ok hm
 have np:=hok.np
 have nt:=hok.nt
 have nb:=hok.nb
 obtain⟨H1,m1,r1,n1,k1⟩:=row_newL H (mshL vp vt vb) (n:=3) rfl
 have E1:Ext H.next H H1:=⟨om,fun c hc=>k1 c om⟩
 have lm:∀{K:AHeap},Ext H1.next H1 K→_:=fun {K} e=>ldM (r1.same (H':=K) (e.old _ om))
 have Iat:∀{K:AHeap},Ext H1.next H1 K→MsIn (·<K.next) K vp vt vb m:=fun {K} e=>(I.up (E1.trans (e.less E1.next))).more (by have:=e.next; omega)
 have D1:Ext H1.next H1 H1:=.refl _ _
 obtain⟨_,_,_,l3⟩:=lm D1
 refine acalls_ofN rfl za42 rfl ?_
 simp only[c42,sA,sB,seval,cells_agg,m1,l3]
 refine (mcheck_spec (Iat D1) om om om).mono ?_
 rintro _ H2 ⟨rfl,E2⟩
 rw[if_pos hm]
 obtain⟨l20,_,_,_⟩:=lm E2
 simp only[sA,sB,seval]
 refine aw_drawC rfl ?_
 simp only[sR,sA,sB,seval,fld0,fldA,l20]
 have one3:∀l:List V,(l.flatMap V.cells).all AVal.one=true:=fun l=>List.all_eq_true.2 fun x hx=>by
  obtain⟨v,_,hv⟩:=List.mem_flatMap.1 hx
  simp[V.cells]at hv; rcases hv with rfl | rfl | rfl <;> rfl
 have oneT:∀l:List Tri,(l.flatMap Tri.cells).all AVal.one=true:=fun l=>List.all_eq_true.2 fun x hx=>by
  obtain⟨v,_,hv⟩:=List.mem_flatMap.1 hx
  simp[Tri.cells]at hv; rcases hv with rfl | rfl | rfl <;> rfl
 have oneB:∀l:List Bll,(l.flatMap Bll.cells).all AVal.one=true:=fun l=>List.all_eq_true.2 fun x hx=>by
  obtain⟨v,_,hv⟩:=List.mem_flatMap.1 hx
  simp[Bll.cells,V.cells]at hv; rcases hv with rfl | rfl | rfl | rfl <;> rfl
 refine (clv_spec (Iat E2).p (one3 _) om).mono ?_
 rintro vp' H3 ⟨Sp,E3⟩
 have E13:=E2.trans (E3.less E2.next)
 obtain⟨_,l31,_,_⟩:=lm E13
 simp only[sR,sA,sB,seval,fldA,l31]
 refine (clt_spec (Iat E13).t (oneT _) om).mono ?_
 rintro vt' H4 ⟨St,E4⟩
 have E14:=E13.trans (E4.less E13.next)
 obtain⟨_,l41',l42,_⟩:=lm E14
 simp only[sR,sA,sB,seval,fldA,l42]
 refine (clb_spec (Iat E14).b (oneB _) om).mono ?_
 rintro vb' H5 ⟨Sb,E5⟩
 have E15:=E14.trans (E5.less E14.next)
 have e2:=E2.next
 have e3:=E3.next
 have e4:=E4.next
 have e5:=E5.next
 have MS:MsIn (fun b=>H.next<b∧b<H5.next) H5 vp' vt' vb' m:=⟨Sp.mono fun b hb=>⟨om,by rw[E5.old b om,E4.old b om]⟩,St.mono fun b hb=>⟨om,E5.old b om⟩,Sb.mono fun b hb=>⟨om,rfl⟩⟩
 obtain⟨H6,m6,r6,n6,k6⟩:=row_newL H5 (treL vp' vt' vb' nilS nilS 0) (n:=7) rfl
 have tB:=treB vp' vt' vb' Sp.one St.one Sb.one
 have m1B:=ms1 vp' vt' vb' Sp.one St.one Sb.one
 simp only[sR,sA,sB,seval,fldA,m1B,tB,cells_agg,m6]
 obtain⟨_,l41,_,_⟩:=lm E2
 obtain⟨_,_,l22,_⟩:=lm E2
 obtain⟨_,_,l52,_⟩:=lm E15
 obtain⟨_,_,l32,_⟩:=lm E13
 simp only[ck_nil',ck_cons,ckP_load,ckP_nil,ck_end,and_true,true_and,List.map_cons,List.map_nil,sA,sB,seval,fld0,fldA]
 refine⟨?_,?_⟩
 ·and_intros <;> first | rfl | exact⟨_,rfl,fun _=>⟨_,by first | assumption | (simp only[sA,sB,seval,fldA]; assumption),(I.t.aeq)⟩⟩ | exact⟨_,rfl,fun _=>⟨_,by first | assumption | (simp only[sA,sB,seval,fldA]; assumption),(I.b.aeq)⟩⟩
 obtain⟨H7,m7,r7,n7,k7⟩:=row_newL H6 (mkL H5.next nilS 0 steps) (n:=4) rfl
 have kB:aBuild [.ptr none,.slice none 0 (.known 0),.int .i64 0,.int .i64 0] [(0,1,cellR H5.next 7 0),(3,1,.int .i64 steps)]=some (.agg (mkL H5.next nilS 0 steps)):=rfl
 have E17:Ext H1.next H1 H7:=⟨om,fun c hc=>by rw[k7 c om,k6 c om,E15.old c hc]⟩
 obtain⟨_,_,_,l7⟩:=lm E17
 simp only[sA,sB,seval,kB,cells_agg,m7,l7]
 refine (count_spec (Iat E17) om).mono ?_
 rintro _ H8 ⟨rfl,E8⟩
 have e8:=E8.next
 have E18:=E17.trans (E8.less E17.next)
 have rt8:Row H8 H5.next (treL vp' vt' vb' nilS nilS 0):=r6.same (by rw[E8.old _ om,k7 _ om])
 have rk8:Row H8 H6.next (mkL H5.next nilS 0 steps):=r7.same (E8.old _ om)
 obtain⟨tb,htb⟩:∃b,b=H5.next:=⟨_,rfl⟩
 obtain⟨kb,hkb⟩:∃b,b=H6.next:=⟨_,rfl⟩
 rw[← htb]at rt8 rk8
 rw[← hkb]at rk8
 rw[← htb,← hkb]
 have hbl:(boxesF m).length=m.n:=by simp[boxesF]
 simp only[sA,sB,seval]
 refine aw_loop (fun k (T:Env) K=>∃(i:Nat) (vX vO:AVal) (A:Nat→Prop),k=m.n-i∧i≤m.n∧H8.next≤K.next∧(∀c,c<H8.next→c≠tb→c≠kb→K.get c=H8.get c)∧Row K tb (treL vp' vt' vb' nilS vO 0)∧Row K kb (mkL tb vX 0 steps) ∧
   AppN 6 0 K vX (((boxesF m).take i).flatMap Bx.cells) i∧AppN 1 0 K vO (nats (List.range i)) i∧Blk vX A∧Blk vO (fun b=>¬A b∧H8.next≤b∧b<K.next)∧(∀b,A b→H8.next≤b∧b<K.next)∧T 1=.int .i64 steps∧T 2=cellR H.next 3 0∧T 8=cellR tb 7 0∧T 9=cellR kb 4 0∧T 33=.int .i64 (m.n:Int)∧T 34=.int .i64 (i:Int)) m.n
  ⟨0,nilS,nilS,fun _=>False,rfl,Nat.zero_le _,Nat.le_refl _,fun _ _ _ _=>rfl,rt8,rk8,.nil _ _ _,.nil _ _ _,(fun a j r e=>by cases e),(fun a j r e=>by cases e),(fun b h=>h.elim),tt,tt,tt,tt,tt,tt⟩ ?_
 rintro k T K ⟨i,vX,vO,A,rfl,hi,kn,kg,rt,rk,AX,AO,bX,bO,hA,t1,t2,t8,t9,t33,t34⟩
 have EK:Ext H1.next H1 K:=⟨om,fun c hc=>by rw[kg c om om om,E18.old c hc]⟩
 by_cases hlt:i<m.n
 ·have hlt':(i:Int)<(m.n:Int):=om
  obtain⟨_,_,_,lmK⟩:=lm EK
  obtain⟨_,q1,_,_⟩:=ldK rk
  simp only[sA,sB,seval,t33,t34,hlt']
  refine aw_drawC rfl ?_
  simp only[sR,sA,sB,seval,t2,t9,fldA,nil_cell,q1,lmK]
  refine (mbox_spec hok hlt (Iat EK)).mono ?_
  rintro _ K2 ⟨rfl,EK2⟩
  have ek2:=EK2.next
  have bl6:=buildM (m:=6) K2 (z:=cSix 0 0 0 0 0 0) (xs:=(boxOf m i).cells) rfl rfl
  obtain⟨vX',K3,m3,AX3,n3,b3,g3⟩:=(AX.same (H':=K2) ek2 (fun a j r e=>EK2.old _ (AX.blk a j r e))).pushB (xs:=(boxOf m i).cells) rfl rfl om (bytes:=48) om om
  rw[← take_boxes m hlt]at AX3
  have gX:∀c,c<K.next→¬A c→K3.get c=K.get c:=fun c hc hAc=>by rw[g3 c om (fun a j r e h=>hAc (h ▸ bX a j r e)),EK2.old c hc]
  have ntA:¬A tb:=fun h=>by have:=hA _ h; omega
  have nkA:¬A kb:=fun h=>by have:=hA _ h; omega
  have rt3:Row K3 tb (treL vp' vt' vb' nilS vO 0):=rt.same (gX _ om ntA)
  have rk3:Row K3 kb (mkL tb vX 0 steps):=rk.same (gX _ om nkA)
  obtain⟨K4,m4,rk4,n4,g4⟩:=row_st rk3 (n:=4) rfl (i:=1) om (x:=vX') AX3.one (l':=mkL tb vX' 0 steps) rfl
  have cSixe:cSix 0 0 0 0 0 0=[.int .i64 0,.int .i64 0,.int .i64 0,.int .i64 0,.int .i64 0,.int .i64 0]:=rfl
  rw[cSixe]at bl6
  simp only[sR,sA,sB,seval,t9,fldA,nil_cell,bl6,m3,m4]
  simp only[ck_nil',ck_cons,ckP_load,ckP_nil,ck_end,and_true,true_and,List.map_cons,List.map_nil,sA,sB,seval,t9,fldA,nil_cell]
  have p1:oLoad false 1 K2 (cellR kb 4 1)=some vX:=(ldK (rk.same (EK2.old _ om))).2.1
  have p2:oLoad false 1 (K2.push (.cells (boxOf m i).cells 0 false)) (cellR kb 4 1)=some vX:=(ldK ((rk.same (EK2.old _ om)).same (H':=K2.push (.cells (boxOf m i).cells 0 false)) (get_push_lt om))).2.1
  refine⟨?_,?_⟩
  ·and_intros <;> first | rfl | exact⟨_,rfl,fun _=>⟨_,by first | assumption | (simp only[sA,sB,seval,t9,fldA,nil_cell]; assumption),AX.aeq⟩⟩
  have gY:∀c,c<K.next→c≠kb→¬A c→K4.get c=K.get c:=fun c hc h1 h2=>by rw[g4 c h1,gX c hc h2]
  have rt4:Row K4 tb (treL vp' vt' vb' nilS vO 0):=rt.same (gY _ om om ntA)
  have AO4:AppN 1 0 K4 vO (nats (List.range i)) i:=AO.same om (fun a j r e=>by have:=bO a j r e; exact gY _ this.2.2 om this.1)
  obtain⟨vO',K5,m5,AO5,n5,b5,g5⟩:=AO4.pushB (xs:=[.int .i64 (i:Int)]) rfl rfl om (bytes:=8) om om
  rw[← nats_succ]at AO5
  have g54:∀c,c<K4.next→Blk vO (c≠·)→K5.get c=K4.get c:=g5
  have nOk:∀c,c<H8.next→Blk vO (c≠·):=fun c hc a j r e h=>by have:=(bO a j r e).2.1; omega
  have rt5:Row K5 tb (treL vp' vt' vb' nilS vO 0):=rt4.same (g54 _ om (nOk _ om))
  have rk5:Row K5 kb (mkL tb vX' 0 steps):=rk4.same (g54 _ om (nOk _ om))
  obtain⟨K6,m6',rt6,n6',g6⟩:=row_st rt5 (n:=7) rfl (i:=5) om (x:=vO') AO5.one (l':=treL vp' vt' vb' nilS vO' 0) rfl
  have l5:=(ldTr rt4).2.2.1
  have wk:=wrap1 i om
  have o1:=one1 K4 (i:Int)
  simp only[sA,sB,seval,t8,fldA,nil_cell,l5,o1,m5,m6',t34,wk]
  have bX3:=b3 _ bX
  have A3:∀a j r,vX'=.slice (some a) j r→a.b<K3.next:=AX3.blk
  refine⟨_,?_,i+1,vX',vO',fun b=>A b∨(K2.next≤b∧b<K3.next),rfl,om,om,?_,rt6,rk5.same (g6 _ om),?_,?_,?_,?_,?_,tt,tt,tt,tt,tt,tt⟩
  ·omega
  ·intro c h1 h2 h3
   rw[g6 c h2,g54 c om (nOk c h1),gY c om h3 (fun h=>by have:=hA _ h; omega),kg c h1 h2 h3]
  ·refine AX3.same om fun a j r e=>?_
   have h1:=bX3 a j r e
   have h2:=A3 a j r e
   have hge:H8.next≤a.b:=by rcases h1 with h | h; exact (hA _ h).1; omega
   show K6.get a.b=K3.get a.b
   rw[g6 a.b om,g54 a.b om (fun a' j' r' e' h=>by
    have q:=bO a' j' r' e'
    rcases h1 with h' | h'
    ·exact q.1 (h ▸ h')
    ·omega),g4 a.b om]
  ·exact AO5.same om fun a j r e=>g6 _ (by
    have:=b5 _ bO a j r e
    rcases this with h | h
    ·have:=h.2.1; omega
    ·omega)
  ·intro a j r e
   have h1:=bX3 a j r e
   have h2:=A3 a j r e
   rcases h1 with h | h
   ·exact .inl h
   ·exact .inr ⟨h,h2⟩
  ·intro a j r e
   have h1:=b5 _ bO a j r e
   have h2:=AO5.blk a j r e
   rcases h1 with⟨h,h',h''⟩ | h
   ·exact⟨fun hh=>by rcases hh with hh | hh; exact h hh; omega,h',om⟩
   ·exact⟨fun hh=>by rcases hh with hh | hh; have:=hA _ hh; omega; omega,om,om⟩
  ·intro b hb
   rcases hb with h | h
   ·have:=hA _ h; omega
   ·omega
 ·obtain rfl:i=m.n:=om
  have hlt':¬(m.n:Int)<(m.n:Int):=om
  rw[List.take_of_length_le om]at AX
  obtain⟨_,_,l5,_,_⟩:=ldTr rt
  by_cases h0:m.n=0
  ·have h0':¬(0:Int)<(m.n:Int):=om
   obtain⟨_,_,q2,_⟩:=ldK rk
   have hst:¬steps<0:=om
   simp only[sA,sB,seval,t33,t34,t8,t9,t1,hlt',fldA,nil_cell,l5,AO.len,h0',q2,hst]
   refine⟨_,_,rfl,om,om,?_,⟨om,fun c hc=>by rw[EK.old c om,E1.old c hc]⟩⟩
   refine⟨tb,vp',vt',vb',nilS,vO,0,rfl,⟨om,om⟩,rt,?_,?_,AO.one,?_⟩
   ·have:(buildF m).msh=m:=by unfold buildF; rw[if_pos h0]
    rw[this]
    exact MS.mono fun b hb=>⟨om,by rw[kg b om om om,E8.old b om,k7 b om,k6 b om]⟩
   ·have:(buildF m).nods=[]:=by unfold buildF; rw[if_pos h0]
    rw[this]
    exact .nil _ _ _
   ·exact .inl (by unfold buildF; rw[if_pos h0])
  have h0':(0:Int)<(m.n:Int):=om
  obtain⟨bo,low,eO,lO,_,bk,gO,lwO,_⟩:∃b low,vO=.slice (some ⟨b,(nats (List.range m.n)).length,0⟩) m.n (.open_ 1)∧(nats (List.range m.n)).length=1*m.n∧0≤b∧b<K.next∧K.get b=some (.cells (nats (List.range m.n)) low false)∧low≤(nats (List.range m.n)).length∧0<m.n:=by
   rcases AO with⟨_,_,h⟩ | h
   ·exact absurd h h0
   ·exact h
  have hbO:=bO _ _ _ eO
  simp only at hbO
  have lnn:(nats (List.range m.n)).length=m.n:=by simp[nats]
  rw[lnn]at eO
  have eO':vO=ordS bo m.n:=eO
  have jb:∀b∈boxesF m,b.j:=fun b hb=>by
   unfold boxesF at hb
   obtain⟨i,_,rfl⟩:=List.mem_map.1 hb
   exact hok.box i
  have S0:MkS (boxesF m) K.next kb tb bo m.n vp' vt' vb' vX steps K nilS 0 0 [] (List.range m.n):=by
   refine⟨Nat.le_refl _,by rw[← eO']; exact rt,rk,⟨low,gO,lwO⟩,.nil _ _ _,?_,by simp,fun y hy=>by simpa[boxesF] using hy⟩
   rw[hbl]
   exact SlK.app AX fun a j r e=>by
    have h1:=bX a j r e
    have h2:=hA _ h1
    exact⟨h2.2,fun h=>hbO.1 (h ▸ h1),om,om⟩
  have sqb:m.n*m.n≤144:=Nat.mul_le_mul hn hn
  have w00:IntKind.i64.wrap 0=0:=rfl
  simp only[sA,sB,seval,t33,t34,t8,t9,t1,hlt',fldA,nil_cell,l5,AO.len,h0']
  refine (add_spec' jb om om om om om om hn hs2 20 0 m.n [] (List.range m.n) K nilS 0 0 1 S0 om rL om (by simp; omega) om (by rw[Nat.sub_zero]; omega) om om).mono ?_
  rintro _ L ⟨rfl,F,vN',d',w',SL,hw1,hw2⟩
  rw[Nat.sub_zero]at hw2
  obtain⟨_,_,q2,_⟩:=ldK SL.rk
  have hst:¬steps<w':=om
  have fn:=F.1
  have fg:∀c,c<K.next→c≠kb→c≠tb→c≠bo→L.get c=K.get c:=F.2
  have nnO:∀c,c<H8.next→c≠bo:=fun c hc h=>om
  simp only[sA,sB,seval,t8,t9,t1,fld0,fldA,nil_cell,q2,hst]
  refine⟨_,_,rfl,om,om,?_,⟨om,fun c hc=>by rw[fg c om om om (nnO c om),EK.old c om,E1.old c hc]⟩⟩
  have eb:buildF m=⟨m,(addF (boxesF m) 20 0 m.n ([],List.range m.n)).1,(addF (boxesF m) 20 0 m.n ([],List.range m.n)).2⟩:=by unfold buildF; rw[if_neg h0]
  rw[eb]
  obtain⟨p,hp⟩:∃p,p=addF (boxesF m) 20 0 m.n ([],List.range m.n):=⟨_,rfl⟩
  rw[← hp]at SL ⊢
  refine⟨tb,vp',vt',vb',vN',ordS bo m.n,d',rfl,⟨om,om⟩,SL.rt,?_,?_,rfl,.inr ⟨bo,?_,⟨om,om⟩,SL.ro⟩⟩
  ·exact MS.mono fun b hb=>⟨om,by rw[fg b om om om (nnO b om),kg b om om om,E8.old b om,k7 b om,k6 b om]⟩
  ·have:=SL.nd
   have q:AppN 10 0 L vN' (p.1.flatMap Nod.cells) p.1.length:=by
    rcases this with h | ⟨b,low,a1,a2,a3,a4⟩
    ·exact .inl h
    ·exact .inr ⟨b,low,a1,a2,Nat.zero_le _,a4⟩
   exact SlK.app q fun a j r e=>by
    have h1:=this.blk a j r e
    rcases this with⟨h,_⟩ | ⟨b,low,a1,a2,a3,a4⟩
    ·rw[h]at e; cases e
    ·rw[a1]at e; cases e; exact⟨by show H.next≤b; omega,h1⟩
  ·show ordS bo m.n=ordS bo p.2.length
   rw[SL.ol]
open Go.Abs Go.Abs.S
section
variable {t:Tre} {r:Ray} {least:Int} {k i:Nat} {st:List Nat} {best:Hit} {cost:Nat} {x:Nod}
theorem walk_none(h:t.nods[i]?=some x)(hb:boxF r x.box=none):walkF t r least (k+1) (i::st) (best,cost)=walkF t r least k st (best,cost+1):=by
 simp only[walkF,h,hb]
theorem walk_far{near:Int}(h:t.nods[i]?=some x)(hb:boxF r x.box=some near)(hf:0≤best.i∧best.t<near):walkF t r least (k+1) (i::st) (best,cost)=walkF t r least k st (best,cost+1):=by
 simp only[walkF,h,hb]; rw[if_pos hf]
theorem walk_fork{near:Int}(h:t.nods[i]?=some x)(hb:boxF r x.box=some near)(hf:¬(0≤best.i∧best.t<near))(h0:0≤x.first):walkF t r least (k+1) (i::st) (best,cost)=walkF t r least k (x.first.toNat::x.second.toNat::st) (best,cost+1):=by
 simp only[walkF,h,hb]; rw[if_neg hf,if_pos h0]
theorem walk_leaf{near:Int}(h:t.nods[i]?=some x)(hb:boxF r x.box=some near)(hf:¬(0≤best.i∧best.t<near))(h0:¬0≤x.first):walkF t r least (k+1) (i::st) (best,cost)=walkF t r least k st (leafF t.msh r least (cutL t.order x.from_ x.to_) (best,cost+1)):=by
 simp only[walkF,h,hb]; rw[if_neg hf,if_neg h0]; rfl
theorem leaf_cons{m:Msh}{j:Nat}{l:List Nat}:leafF m r least (j::l) (best,cost)=leafF m r least l (match shapeF m j r least with
  | some h=>bif better h best then h else best
  | none=>best,cost+1):=rfl
end
theorem Hit.in.pos{n:Nat}{h:Hit}(k:h.in n)(h0:0≤h.i):∃i:Nat,h.i=i∧i<n:=by
 rcases k.2 with k | k
 ·omega
 ·exact k
theorem cut_len{l:List Nat}{a b:Nat}(h:b≤l.length):(cutL l a b).length=b-a:=by
 unfold cutL; rw[List.length_take,List.length_drop]; omega
theorem cut_get{l:List Nat}{a b j:Nat}(hj:j<b-a):(cutL l a b)[j]?=l[a+j]?:=by
 unfold cutL; rw[List.getElem?_take_of_lt hj,List.getElem?_drop]
theorem ms_fork{w W l k c:Nat}(h1:1≤w)(hl:l+2≤w+W)(hc:c+20*(2*(w+W)-(l+1))≤500)(hk:2*(w+W)-(l+1)<k+1) :
  2*(w+W)-(l+2)<2*(w+W)-(l+1)∧c+1+20*(2*(w+W)-(l+2))≤500∧2*(w+W)-(l+2)<k:=⟨om,om,om⟩
theorem ms_pop{w W l k c d:Nat}(h1:1≤w)(hl:l≤W)(hd:d≤w)(hc:c+20*(2*(w+W)-(l+1))≤500)(hk:2*(w+W)-(l+1)<k+1) :
  2*W-l<2*(w+W)-(l+1)∧c+1+d+20*(2*W-l)≤500∧2*W-l<k:=⟨om,om,om⟩
theorem stk_top{i:Nat}{st:List Nat}{S R:List AVal}(h:S=nats (i::st).reverse++R):S[st.length]?=some (.int .i64 (i:Int))∧S=nats st.reverse++(.int .i64 (i:Int))::R:=by
 have e:nats (i::st).reverse++R=nats st.reverse++(.int .i64 (i:Int))::R:=by
  unfold nats; rw[List.reverse_cons,List.map_append,List.append_assoc]; rfl
 rw[h,e]
 refine⟨?_,rfl⟩
 rw[List.getElem?_append_right (by simp[nats]),nats_len,List.length_reverse,Nat.sub_self]; rfl
theorem stk_push{a b:Nat}{st:List Nat}{S R:List AVal}{u v:AVal}(h:S=nats st.reverse++u::v::R):(S.set st.length (.int .i64 (b:Int))).set (st.length+1) (.int .i64 (a:Int))=nats (a::b::st).reverse++R:=by
 have l:(nats st.reverse).length=st.length:=by rw[nats_len,List.length_reverse]
 rw[h,List.set_append_right _ _ om,l,Nat.sub_self,List.set_cons_zero,List.set_append_right _ _ om,l,Nat.add_sub_cancel_left,List.set_cons_succ,List.set_cons_zero]
 unfold nats; simp
open Go.Abs Go.Abs.S
theorem floor_rng{x:Int}(h:J64 x):-2147483648≤fFloor x∧fFloor x≤2147483647:=by
 unfold J64 at h; unfold fFloor; omega
theorem part_mod{u:Int}(h:J64 u):fSub u (fOf (fFloor u))=u % 4294967296:=by
 have:=floor_rng h
 unfold J64 at h
 unfold fOf
 rw[if_neg om,if_neg om]
 unfold fSub fFloor
 unfold fFloor at this
 rw[if_neg om,if_neg om]
 omega
theorem mul_ex{a b:Nat}(h:a*b<4294967296*4096):fMul (a:Int) ((b:Int)*4294967296)=((a*b:Nat):Int):=by
 unfold fMul
 have e1:((a:Int)).natAbs=a:=rfl
 have e2:((b:Int)*4294967296).natAbs=b*4294967296:=om
 have es:sames (a:Int) ((b:Int)*4294967296)=true:=by
  unfold sames
  rw[decide_eq_false om,decide_eq_false om]; rfl
 rw[e1,e2,es,← Nat.mul_assoc]
 generalize a*b=c at *
 unfold told
 rw[if_pos rfl,if_neg om]
 omega
theorem place_lt{u:Int}(h:J64 u){m:Nat}(h1:1≤m)(h2:m≤1024):0≤placeF u m∧placeF u m<m:=by
 unfold placeF
 rw[part_mod h]
 obtain⟨a,ha⟩:∃a:Nat,u % 4294967296=a:=⟨(u % 4294967296).toNat,om⟩
 have hlt:a<4294967296:=om
 rw[ha]
 have eo:fOf (m:Int)=(m:Int)*4294967296:=by unfold fOf; rw[if_neg om,if_neg om]
 have hm:a*m<4294967296*m:=Nat.mul_lt_mul_of_pos_right hlt om
 rw[eo,mul_ex om]
 unfold fFloor
 generalize a*m=c at *
 omega
def texL(t:Tex)(vp:AVal):List AVal:=[.int .i64 t.w,.int .i64 t.h,vp]
theorem ldX{H:AHeap}{b:Nat}{t:Tex}{vp:AVal}(r:Row H b (texL t vp)):oLoad false 1 H (cellR b 3 0)=some (.int .i64 t.w)∧oLoad false 1 H (cellR b 3 1)=some (.int .i64 t.h)∧oLoad false 1 H (cellR b 3 2)=some vp∧oLoad true 3 H (cellR b 3 0)=some (.agg (texL t vp)):=
 ⟨row_load r rfl rfl,row_load r rfl rfl,row_load r rfl rfl,row_loadN r rfl⟩
theorem right_spec{t:Tex}{vp:AVal}{H:AHeap}{P:Nat→Prop}(S:SlK P H 1 vp t.pix.length (byts t.pix)):ACalls Tryz.prog noNat 141 [.agg (texL t vp)] H fun r H'=>r=.bool (texOk t)∧Ext H.next H H':=by
 obtain⟨H1,m1,r1,n1,k1⟩:=row_newL H (texL t vp) (n:=3) rfl
 have E1:Ext H.next H H1:=⟨om,fun c hc=>k1 c om⟩
 obtain⟨l0,l1,l2,_⟩:=ldX r1
 have ln:=S.len
 refine acalls_ofN rfl za141 rfl ?_
 unfold texOk
 by_cases c1:1≤t.w
 case neg=>
  simp only[c141,sA,sB,seval,cells_agg,m1,fld0,fldA,l0,c1]; exact⟨by simp,E1⟩
 by_cases c2:t.w≤1024
 case neg=>
  simp only[c141,sA,sB,seval,cells_agg,m1,fld0,fldA,l0,c1,c2]; exact⟨by simp,E1⟩
 by_cases c3:1≤t.h
 case neg=>
  simp only[c141,sA,sB,seval,cells_agg,m1,fld0,fldA,l0,l1,c1,c2,c3]; exact⟨by simp,E1⟩
 by_cases c4:t.h≤1024
 case neg=>
  simp only[c141,sA,sB,seval,cells_agg,m1,fld0,fldA,l0,l1,c1,c2,c3,c4]; exact⟨by simp,E1⟩
 have w4:IntKind.i64.wrap (4*t.w)=4*t.w:=w64
 have w5:IntKind.i64.wrap (4*t.w*t.h)=4*t.w*t.h:=by
  have h1:0≤4*t.w*t.h:=Int.mul_nonneg om om
  have h2:4*t.w*t.h≤4096*1024:=Int.mul_le_mul om c4 om om
  rw[IntKind.wrap_i64]; omega
 simp only[c141,sA,sB,seval,cells_agg,m1,fld0,fldA,l0,l1,l2,c1,c2,c3,c4,ln,w4,w5]
 exact⟨by simp,E1⟩
theorem place_spec{u m:Int}(hu:J64 u){H:AHeap}:ACalls Tryz.prog noNat 142 [.int .i64 u,.int .i64 m] H fun r H'=>r=.int .i64 (placeF u m)∧H=H':=by
 refine acalls_ofN rfl za142 rfl ?_
 simp only[c142,sA,sB,seval]
 refine floor_spec.mono ?_
 rintro _ _ ⟨rfl,rfl⟩
 simp only[sA,sB,seval]
 refine of_spec.mono ?_
 rintro _ _ ⟨rfl,rfl⟩
 simp only[sA,sB,seval]
 refine (sub_spec hu (fOf_j _)).mono ?_
 rintro _ _ ⟨rfl,rfl⟩
 simp only[sA,sB,seval]
 refine of_spec.mono ?_
 rintro _ _ ⟨rfl,rfl⟩
 simp only[sA,sB,seval]
 refine (mul_spec (fSub_j hu (fOf_j _)) (fOf_j _)).mono ?_
 rintro _ _ ⟨rfl,rfl⟩
 simp only[sA,sB,seval]
 refine floor_spec.mono ?_
 rintro _ _ ⟨rfl,rfl⟩
 simp only[sA,sB,seval]
 exact⟨tt,tt⟩
theorem SlK.load1{P:Nat→Prop}{H:AHeap}{k:Nat}{v:AVal}{C:List AVal}(h:SlK P H 1 v k C){i:Nat}(hi:i<k){x:AVal}(hx:C[i]?=some x):oLoad false 1 H (placeK 1 v i)=some x:=by
 refine (h.pt hi).load0 ?_
 rw[List.getElem?_take_of_lt om,List.getElem?_drop,Nat.mul_one,Nat.add_zero]; exact hx
def partF(t:Tex)(a i:Nat):Int:=fDiv (fOf (((t.pix[a+i]?).getD 0).toNat:Int)) (fOf 255)
theorem samp1_spec{t:Tex}{vp:AVal}{H:AHeap}{P:Nat→Prop}{tb ab a i:Nat}(S:SlK P H 1 vp t.pix.length (byts t.pix))(rt:Row H tb (texL t vp))(ra:Row H ab [.int .i64 (a:Int)])(hi:a+i<t.pix.length)(hl:t.pix.length≤10000000) :
  ACalls Tryz.prog noNat 143 [.int .i64 (i:Int),cellR tb 3 0,cellR ab 1 0] H fun r H'=>r=.int .i64 (partF t a i)∧H=H':=by
 obtain⟨_,_,l2,_⟩:=ldX rt
 have la:oLoad false 1 H (cellR ab 1 0)=some (.int .i64 (a:Int)):=row_load ra rfl rfl
 have w:IntKind.i64.wrap ((a:Int)+(i:Int))=((a+i:Nat):Int):=w64
 have ix:=S.idx hi
 obtain⟨x,hx⟩:=isSome_of_lt hi
 have lx:=S.load1 hi (byts_get hx)
 have wc:IntKind.i64.wrap (x.toNat:Int)=(x.toNat:Int):=by have:=x.toNat_lt; rw[IntKind.wrap_i64]; omega
 refine acalls_ofN rfl za143 rfl ?_
 unfold partF
 rw[hx]
 simp only[c143,sA,sB,seval,fldA,l2,la,w,ix,lx,wc]
 refine of_spec.mono ?_
 rintro _ _ ⟨rfl,rfl⟩
 simp only[sA,sB,seval]
 refine of_spec.mono ?_
 rintro _ _ ⟨rfl,rfl⟩
 simp only[sA,sB,seval]
 refine (div_spec (fOf_j _) (fOf_j _)).mono ?_
 rintro _ _ ⟨rfl,rfl⟩
 simp only[sA,sB,seval]
 exact⟨tt,tt⟩
theorem sample_spec{t:Tex}{vp:AVal}{u v:Int}(hu:J64 u)(hv:J64 v){H:AHeap}(S:SlK (·<H.next) H 1 vp t.pix.length (byts t.pix)) :
  ACalls Tryz.prog noNat 122 [.agg (texL t vp),.int .i64 u,.int .i64 v] H fun r H'=>r=.agg (sampleF t u v).cells∧Ext H.next H H':=by
 obtain⟨H1,m1,r1,n1,k1⟩:=row_newL H (texL t vp) (n:=3) rfl
 obtain⟨H2,m2,r2,n2,k2⟩:=row_newL H1 (v3 0 0 0) (n:=3) rfl
 have E2:Ext H.next H H2:=⟨om,fun c hc=>by rw[k2 c om,k1 c om]⟩
 have r12:=r1.same (H':=H2) (k2 _ om)
 have l3:=(ldX r12).2.2.2
 refine acalls_ofN rfl za122 rfl ?_
 simp only[c122,sA,sB,seval,cells_agg,m1,m2,l3]
 refine (right_spec (S.mono (Q:=fun _=>True) fun b hb=>⟨trivial,E2.old b hb⟩)).mono ?_
 rintro _ H3 ⟨rfl,E3⟩
 have e3:=E3.next
 have E13:Ext H.next H H3:=E2.trans (E3.less E2.next)
 cases ht:texOk t with
 | false=>
  have eV:sampleF t u v=V0:=by unfold sampleF; rw[ht]; rfl
  rw[eV]
  obtain⟨H4,m4,r4,n4,k4⟩:=row_storeN (r2.same (H':=H3) (E3.old _ om)) (n:=3) rfl (xs:=v3 0 0 0) rfl rfl
  have l4:=row_loadN r4 (n:=3) rfl
  simp only[sA,sB,seval,bl30,m4,fin_cc,OptP_some,l4]
  exact⟨tt,⟨om,fun c hc=>by rw[k4 c om,E13.old c hc]⟩⟩
 | true=>
  have hok:=ht
  simp only[texOk,Bool.and_eq_true,decide_eq_true_eq]at hok
  obtain⟨a1,a2,a3,a4,a5⟩:=hok
  obtain⟨w,hw⟩:∃w:Nat,t.w=w:=⟨t.w.toNat,om⟩
  obtain⟨h,hh⟩:∃h:Nat,t.h=h:=⟨t.h.toNat,om⟩
  obtain⟨p1,p2⟩:=place_lt hu (m:=w) om om
  obtain⟨q1,q2⟩:=place_lt hv (m:=h) om om
  obtain⟨pu,hpu⟩:∃n:Nat,placeF u w=n:=⟨(placeF u w).toNat,om⟩
  obtain⟨pv,hpv⟩:∃n:Nat,placeF v h=n:=⟨(placeF v h).toNat,om⟩
  have hb:pv*w+pu+1≤h*w:=by
   have:(pv+1)*w≤h*w:=Nat.mul_le_mul_right w om
   rw[Nat.add_mul]at this; omega
  have hb2:h*w≤1024*1024:=Nat.mul_le_mul om om
  have hpl:t.pix.length=4*(h*w):=by
   rw[hw,hh]at a5
   have:(4*(w:Int)*(h:Int))=((4*(h*w):Nat):Int):=by
    rw[Int.mul_assoc,Int.mul_comm (w:Int)]; simp
   omega
  have eV:sampleF t u v=⟨partF t (4*(pv*w+pu)) 0,partF t (4*(pv*w+pu)) 1,partF t (4*(pv*w+pu)) 2⟩:=by
   unfold sampleF
   rw[ht,hw,hh,hpu,hpv]
   have:(4*((pv:Int)*(w:Int)+(pu:Int))).toNat=4*(pv*w+pu):=by
    have:(4*((pv:Int)*(w:Int)+(pu:Int)))=((4*(pv*w+pu):Nat):Int):=by simp
    rw[this]; rfl
   simp only[this]; rfl
  rw[eV]
  have r13:=r12.same (H':=H3) (E3.old _ om)
  simp only[sA,sB,seval]
  refine aw_drawN ?_
  simp only[claims,newOf,reserves,resO_0,clOp_new]
  obtain⟨Hp,hHp⟩:∃K,K=H3.push (.cells [.int .i64 0] 0 false):=⟨_,rfl⟩
  rw[← hHp]
  have np:Hp.next=H3.next+1:=by rw[hHp]; rfl
  have gp:Hp.get H3.next=some (.cells [.int .i64 0] 0 false):=by rw[hHp,AHeap.get_push,if_pos rfl]
  have op:∀c,c<H3.next→Hp.get c=H3.get c:=fun c hc=>by rw[hHp]; exact get_push_lt hc
  have d1:aClaim Hp H3.next [.int .i64 0] none=some (cellR H3.next 1 0):=claim_ok (z:=[.int .i64 0]) gp rfl
  obtain⟨l0,l1,_,_⟩:=ldX (r13.same (H':=Hp) (op _ om))
  rw[hw]at l0
  rw[hh]at l1
  have w1:IntKind.i64.wrap ((pv:Int)*(w:Int))=((pv*w:Nat):Int):=by
   have:(pv:Int)*(w:Int)=((pv*w:Nat):Int):=by simp
   rw[this,IntKind.wrap_i64]; omega
  have w2:IntKind.i64.wrap (((pv*w:Nat):Int)+(pu:Int))=((pv*w+pu:Nat):Int):=w64
  have w3:IntKind.i64.wrap (4*((pv*w+pu:Nat):Int))=((4*(pv*w+pu):Nat):Int):=w64
  obtain⟨K,m5,r5,n5,k5⟩:=row_st (H:=Hp) (b:=H3.next) (l:=[.int .i64 0]) ⟨0,gp,Nat.zero_le _⟩ (n:=1) rfl (i:=0) om (x:=.int .i64 ((4*(pv*w+pu):Nat):Int)) rfl (l':=[.int .i64 ((4*(pv*w+pu):Nat):Int)]) rfl
  simp only[sR,sA,sB,seval,fld0,fldA,l1]
  refine (place_spec hv).mono ?_
  rintro _ _ ⟨rfl,rfl⟩
  rw[hpv]
  simp only[sR,sA,sB,seval,fld0,fldA,l0,w1]
  refine (place_spec hu).mono ?_
  rintro _ _ ⟨rfl,rfl⟩
  rw[hpu]
  simp only[sR,sA,sB,seval,w2,w3,tr_claim,d1,m5]
  simp only[ck_nil',ck_cons,ckP_load,ckP_claim,ckP_nil,ck_end,and_true,true_and,List.map_cons,List.map_nil,sA,sB,seval,fld0,fldA]
  refine⟨?_,?_⟩
  ·and_intros <;> first | rfl | exact⟨_,rfl,fun _=>⟨_,by first | assumption | (simp only[sA,sB,seval,fld0,fldA]; assumption),by first | exact aeq_int _ _ | exact aeq_cellR ..⟩⟩
  have oK:∀c,c<H3.next→K.get c=H3.get c:=fun c hc=>by rw[k5 c om,op c hc]
  have SK:SlK (fun _=>True) K 1 vp t.pix.length (byts t.pix):=S.mono fun b hb=>⟨trivial,by
   have hb':b<H.next:=hb
   rw[oK b om,E13.old b hb']⟩
  have rtK:=r13.same (oK _ om)
  have hl:t.pix.length≤10000000:=om
  have part:=fun (i:Nat) (hi:i<4)=>samp1_spec (H:=K) (ab:=H3.next) (a:=4*(pv*w+pu)) (i:=i) SK rtK r5 om hl
  refine (part 0 om).mono ?_
  rintro _ _ ⟨rfl,rfl⟩
  simp only[sA,sB,seval]
  refine (part 1 om).mono ?_
  rintro _ _ ⟨rfl,rfl⟩
  simp only[sA,sB,seval]
  refine (part 2 om).mono ?_
  rintro _ _ ⟨rfl,rfl⟩
  obtain⟨H4,m4,r4,n4,k4⟩:=row_storeN (r2.same (H':=K) (by rw[oK _ om,E3.old _ om])) (n:=3) rfl (xs:=v3 (partF t (4*(pv*w+pu)) 0) (partF t (4*(pv*w+pu)) 1) (partF t (4*(pv*w+pu)) 2)) rfl rfl
  have l4:=row_loadN r4 (n:=3) rfl
  simp only[sA,sB,seval,bl3,m4,fin_cc,OptP_some,l4]
  exact⟨tt,⟨om,fun c hc=>by rw[k4 c om,oK c om,E13.old c hc]⟩⟩
open Go.Abs Go.Abs.S
theorem number_spec{a:Int}{H:AHeap}:ACalls Tryz.prog noNat 97 [.int .i64 a] H fun r H'=>r=.agg (numV a).cells∧Ext H.next H H':=by
 obtain⟨H1,m1,r1,n1,k1⟩:=row_newL H (v3 0 0 0) (n:=3) rfl
 obtain⟨H2,m2,r2,n2,k2⟩:=row_storeN r1 (n:=3) rfl (xs:=v3 a 0 0) rfl rfl
 have l:=row_loadN r2 (n:=3) rfl
 have b:aBuild [.int .i64 0,.int .i64 0,.int .i64 0] [(0,1,.int .i64 a)]=some (.agg (v3 a 0 0)):=rfl
 refine acalls_ofN rfl za97 rfl ?_
 simp only[c97,sA,sB,seval,m1,b,m2,fin_cc,OptP_some,l]
 exact⟨tt,⟨om,fun c hc=>by rw[k2 c om,k1 c om]⟩⟩
theorem tail3{H H1:AHeap}{b:Nat}(hb:b=H.next)(r1:Row H1 b (v3 0 0 0))(n1:H.next<H1.next)(k1:∀c,c<H.next→H1.get c=H.get c):∀{K:AHeap} (v:V),Ext H1.next H1 K→∃K',oStore 3 K (cellR b 3 0) (.agg v.cells)=some K'∧oLoad true 3 K' (cellR b 3 0)=some (.agg v.cells)∧Ext H.next H K':=fun {K} v e=>by
 have:=e.next
 obtain⟨K',q1,q2,q3,q4⟩:=row_storeN (r1.same (H':=K) (e.old _ om)) (n:=3) rfl (xs:=v.cells) rfl rfl
 exact⟨K',q1,row_loadN q2 (n:=3) rfl,om,fun c hc=>by rw[q4 c om,e.old c om,k1 c hc]⟩
theorem truth_spec{b:Bool}{H:AHeap}:ACalls Tryz.prog noNat 144 [.bool b] H fun r H'=>r=.agg (truthF b).cells∧Ext H.next H H':=by
 obtain⟨H1,m1,r1,n1,k1⟩:=row_newL H (v3 0 0 0) (n:=3) rfl
 have tl:=fun {K:AHeap} (v:V) (e:Ext H1.next H1 K)=>tail3 rfl r1 om (fun c hc=>k1 c om) v e
 refine acalls_ofN rfl za144 rfl ?_
 cases b with
 | true=>
  simp only[c144,sA,sB,seval,m1]
  refine number_spec.mono ?_
  rintro _ K ⟨rfl,E⟩
  obtain⟨K',s1,s2,s3⟩:=tl (numV 4294967296) E
  simp only[sA,sB,seval,s1,fin_cc,OptP_some,s2]
  exact⟨tt,s3⟩
 | false=>
  obtain⟨K',s1,s2,s3⟩:=tl V0 (.refl _ _)
  have s1':oStore 3 H1 (cellR H.next 3 0) (.agg (v3 0 0 0))=some K':=s1
  simp only[c144,sA,sB,seval,m1,bl30,s1',fin_cc,OptP_some,s2]
  exact⟨tt,s3⟩
theorem seach_spec{f:Nat}(hf:f<1024){F:Int→Int}{caps:List AVal}{v:V}(hv:v.j){H:AHeap}
  (hF:∀{a:Int} {K:AHeap},Ext H.next H K→J64 a→ACalls Tryz.prog noNat f ([.int .i64 a]++caps) K fun r K'=>r=.int .i64 (F a)∧K=K') :
  ACalls Tryz.prog noNat 137 [.agg v.cells,.func (.func f) [] caps] H fun r H'=>r=.agg (V.mk (F v.x) (F v.y) (F v.z)).cells∧Ext H.next H H':=by
 obtain⟨a,b,c⟩:=v
 obtain⟨ha,hb,hc⟩:=hv
 show ACalls Tryz.prog noNat 137 [.agg (v3 a b c),.func (.func f) [] caps] H fun r H'=>r=.agg (v3 (F a) (F b) (F c))∧Ext H.next H H'
 obtain⟨H1,m1,r1,n1,k1⟩:=row_newL H (v3 a b c) (n:=3) rfl
 obtain⟨H3,m3,r3,n3,k3⟩:=row_newL H1 (v3 0 0 0) (n:=3) rfl
 have E3:Ext H.next H H3:=⟨om,fun c hc=>by rw[k3 c om,k1 c om]⟩
 obtain⟨p0,p1,p2,_⟩:=ld3 (r1.same (k3 _ om))
 obtain⟨H4,m4,r4,n4,k4⟩:=row_storeN r3 (n:=3) rfl (xs:=v3 (F a) (F b) (F c)) rfl rfl
 obtain⟨_,_,_,w⟩:=ld3 r4
 refine acalls_ofN rfl za137 rfl ?_
 simp only[c137,sA,sB,seval,cells_agg,m1,m3]
 refine aw_drawC rfl ?_
 simp only[sR,sA,sB,seval,fld0,fldA,p0,hf,List.nil_append]
 refine (hF E3 ha).mono ?_
 rintro _ _ ⟨rfl,rfl⟩
 simp only[sR,sA,sB,seval,fld0,fldA,p1,hf,List.nil_append]
 refine (hF E3 hb).mono ?_
 rintro _ _ ⟨rfl,rfl⟩
 simp only[sR,sA,sB,seval,fld0,fldA,p2,hf,List.nil_append]
 refine (hF E3 hc).mono ?_
 rintro _ _ ⟨rfl,rfl⟩
 simp only[sR,sA,sB,seval,bl3,m4]
 simp only[ck_nil',ck_cons,ckP_load,ckP_nil,ck_end,and_true,true_and,List.map_cons,List.map_nil,sA,sB,seval,fin_cc,OptP_some,w]
 refine⟨?_,⟨om,fun c hc=>by rw[k4 c om,E3.old c hc]⟩⟩
 and_intros <;> first | rfl | exact⟨_,rfl,fun _=>⟨_,by first | exact p1 | exact p2,aeq_int _ _⟩⟩
theorem times1_spec{a s:Int}(ha:J64 a)(hs:J64 s){cb:Nat}{H:AHeap}(r:Row H cb [.int .i64 s]):ACalls Tryz.prog noNat 138 [.int .i64 a,cellR cb 1 0] H fun r H'=>r=.int .i64 (fMul a s)∧H=H':=by
 have l:oLoad false 1 H (cellR cb 1 0)=some (.int .i64 s):=row_load r rfl rfl
 refine acalls_ofN rfl za138 rfl ?_
 simp only[c138,sA,sB,seval,l]
 refine (mul_spec ha hs).mono ?_
 rintro _ _ ⟨rfl,rfl⟩
 simp only[sA,sB,seval]; exact⟨tt,tt⟩
theorem over1_spec{a s:Int}(ha:J64 a)(hs:J64 s){cb:Nat}{H:AHeap}(r:Row H cb [.int .i64 s]):ACalls Tryz.prog noNat 139 [.int .i64 a,cellR cb 1 0] H fun r H'=>r=.int .i64 (fDiv a s)∧H=H':=by
 have l:oLoad false 1 H (cellR cb 1 0)=some (.int .i64 s):=row_load r rfl rfl
 refine acalls_ofN rfl za139 rfl ?_
 simp only[c139,sA,sB,seval,l]
 refine (div_spec ha hs).mono ?_
 rintro _ _ ⟨rfl,rfl⟩
 simp only[sA,sB,seval]; exact⟨tt,tt⟩
theorem minus1_spec{a:Int}(ha:J64 a){H:AHeap}:ACalls Tryz.prog noNat 140 [.int .i64 a] H fun r H'=>r=.int .i64 (fSub 0 a)∧H=H':=by
 refine acalls_ofN rfl za140 rfl ?_
 simp only[c140,sA,sB,seval]
 refine (sub_spec (a:=0) ⟨by decide,by decide⟩ ha).mono ?_
 rintro _ _ ⟨rfl,rfl⟩
 simp only[sA,sB,seval]; exact⟨tt,tt⟩
theorem stimes_spec{v:V}{s:Int}(hv:v.j)(hs:J64 s){H:AHeap}:ACalls Tryz.prog noNat 119 [.int .i64 s,.agg v.cells] H fun r H'=>r=.agg (vScale v s).cells∧Ext H.next H H':=by
 obtain⟨H1,m1,r1,n1,k1⟩:=row_newL H [.int .i64 s] (n:=1) rfl
 obtain⟨H2,m2,r2,n2,k2⟩:=row_newL H1 v.cells (n:=3) rfl
 obtain⟨H3,m3,r3,n3,k3⟩:=row_newL H2 (v3 0 0 0) (n:=3) rfl
 have rs:=((r1.same (k2 _ om)).same (k3 _ om))
 have lv:=ld3V (r2.same (k3 _ om))
 have E3:Ext H.next H H3:=⟨om,fun c hc=>by rw[k3 c om,k2 c om,k1 c om]⟩
 refine acalls_ofN rfl za119 rfl ?_
 simp only[c119,sA,sB,seval,cells_agg,i_cells,m1,m2,m3,lv]
 refine (seach_spec (v:=v) om (F:=fun a=>fMul a s) hv (caps:=[cellR H.next 1 0]) fun {_ _} e h=>times1_spec h hs (rs.same (e.old _ om))).mono ?_
 rintro _ H4 ⟨rfl,E4⟩
 have e4:=E4.next
 obtain⟨H5,m5,r5,n5,k5⟩:=row_storeN (r3.same (E4.old _ om)) (n:=3) rfl (xs:=(vScale v s).cells) rfl rfl
 have w:=row_loadN r5 (n:=3) rfl
 have m5':oStore 3 H4 (cellR H2.next 3 0) (.agg (V.mk (fMul v.x s) (fMul v.y s) (fMul v.z s)).cells)=some H5:=m5
 simp only[sA,sB,seval,m5',fin_cc,OptP_some,w]
 exact⟨tt,⟨om,fun c hc=>by rw[k5 c om,E4.old c om,E3.old c hc]⟩⟩
theorem sover_spec{v:V}{s:Int}(hv:v.j)(hs:J64 s){H:AHeap}:ACalls Tryz.prog noNat 120 [.agg v.cells,.int .i64 s] H fun r H'=>r=.agg (vOver v s).cells∧Ext H.next H H':=by
 obtain⟨H1,m1,r1,n1,k1⟩:=row_newL H v.cells (n:=3) rfl
 obtain⟨H2,m2,r2,n2,k2⟩:=row_newL H1 [.int .i64 s] (n:=1) rfl
 obtain⟨H3,m3,r3,n3,k3⟩:=row_newL H2 (v3 0 0 0) (n:=3) rfl
 have rs:=(r2.same (k3 _ om))
 have lv:=ld3V ((r1.same (k2 _ om)).same (k3 _ om))
 have E3:Ext H.next H H3:=⟨om,fun c hc=>by rw[k3 c om,k2 c om,k1 c om]⟩
 refine acalls_ofN rfl za120 rfl ?_
 simp only[c120,sA,sB,seval,cells_agg,i_cells,m1,m2,m3,lv]
 refine (seach_spec (v:=v) om (F:=fun a=>fDiv a s) hv (caps:=[cellR H1.next 1 0]) fun {_ _} e h=>over1_spec h hs (rs.same (e.old _ om))).mono ?_
 rintro _ H4 ⟨rfl,E4⟩
 have e4:=E4.next
 obtain⟨H5,m5,r5,n5,k5⟩:=row_storeN (r3.same (E4.old _ om)) (n:=3) rfl (xs:=(vOver v s).cells) rfl rfl
 have w:=row_loadN r5 (n:=3) rfl
 have m5':oStore 3 H4 (cellR H2.next 3 0) (.agg (V.mk (fDiv v.x s) (fDiv v.y s) (fDiv v.z s)).cells)=some H5:=m5
 simp only[sA,sB,seval,m5',fin_cc,OptP_some,w]
 exact⟨tt,⟨om,fun c hc=>by rw[k5 c om,E4.old c om,E3.old c hc]⟩⟩
def vMinus(v:V):V:=⟨fSub 0 v.x,fSub 0 v.y,fSub 0 v.z⟩
theorem vMinus_j{v:V}(h:v.j):(vMinus v).j:=⟨fSub_j ⟨by decide,by decide⟩ h.1,fSub_j ⟨by decide,by decide⟩ h.2.1,fSub_j ⟨by decide,by decide⟩ h.2.2⟩
theorem sminus_spec{v:V}(hv:v.j){H:AHeap}:ACalls Tryz.prog noNat 121 [.agg v.cells] H fun r H'=>r=.agg (vMinus v).cells∧Ext H.next H H':=by
 obtain⟨H1,m1,r1,n1,k1⟩:=row_newL H v.cells (n:=3) rfl
 obtain⟨H3,m3,r3,n3,k3⟩:=row_newL H1 (v3 0 0 0) (n:=3) rfl
 have lv:=ld3V (r1.same (k3 _ om))
 have E3:Ext H.next H H3:=⟨om,fun c hc=>by rw[k3 c om,k1 c om]⟩
 refine acalls_ofN rfl za121 rfl ?_
 simp only[c121,sA,sB,seval,cells_agg,m1,m3,lv]
 refine (seach_spec (v:=v) om (F:=fun a=>fSub 0 a) hv (caps:=[]) fun {_ _} e h=>minus1_spec h).mono ?_
 rintro _ H4 ⟨rfl,E4⟩
 have e4:=E4.next
 obtain⟨H5,m5,r5,n5,k5⟩:=row_storeN (r3.same (E4.old _ om)) (n:=3) rfl (xs:=(vMinus v).cells) rfl rfl
 have w:=row_loadN r5 (n:=3) rfl
 have m5':oStore 3 H4 (cellR H1.next 3 0) (.agg (V.mk (fSub 0 v.x) (fSub 0 v.y) (fSub 0 v.z)).cells)=some H5:=m5
 simp only[sA,sB,seval,m5',fin_cc,OptP_some,w]
 exact⟨tt,⟨om,fun c hc=>by rw[k5 c om,E4.old c om,E3.old c hc]⟩⟩
open Go.Abs Go.Abs.S
set_option maxHeartbeats 4000000 in
theorem ofn_spec{o:Nat}{a b:Int}(ha:J64 a)(hb:J64 b){H:AHeap}:ACalls Tryz.prog noNat 123 [.int .u8 (o:Int),.int .i64 a,.int .i64 b] H fun r H'=>r=.agg (ofNumF o a b).cells∧Ext H.next H H':=by
 obtain⟨H1,m1,r1,n1,k1⟩:=row_newL H (v3 0 0 0) (n:=3) rfl
 have tl:=fun {K:AHeap} (v:V) (e:Ext H1.next H1 K)=>tail3 rfl r1 om (fun c hc=>k1 c om) v e
 have z:J64 0:=⟨by decide,by decide⟩
 refine acalls_ofN rfl za123 rfl ?_
 by_cases h8:o=8
 ·have e:ofNumF o a b=truthF (decide (a=0)):=by rw[h8]; rfl
  rw[e]; subst h8
  by_cases c0:a=0
  ·have et:(decide (a=0))=true:=by simp[c0]
   rw[et]
   simp only[c123,sA,sB,seval,Int.cast_ofNat_Int,m1,c0]
   refine (truth_spec (b:=true)).mono ?_
   rintro _ K ⟨rfl,E⟩
   obtain⟨K',s1,s2,s3⟩:=tl (truthF true) E
   simp only[sA,sB,seval,s1,fin_cc,OptP_some,s2]
   exact⟨tt,s3⟩
  ·have et:(decide (a=0))=false:=by simp[c0]
   rw[et]
   simp only[c123,sA,sB,seval,Int.cast_ofNat_Int,m1,c0]
   refine (truth_spec (b:=false)).mono ?_
   rintro _ K ⟨rfl,E⟩
   obtain⟨K',s1,s2,s3⟩:=tl (truthF false) E
   simp only[sA,sB,seval,s1,fin_cc,OptP_some,s2]
   exact⟨tt,s3⟩
 by_cases h9:o=9
 ·have e:ofNumF o a b=truthF (decide (a=b)):=by rw[h9]; rfl
  rw[e]; subst h9
  by_cases c0:a=b
  ·have et:(decide (a=b))=true:=by simp[c0]
   rw[et]
   simp only[c123,sA,sB,seval,Int.cast_ofNat_Int,m1,c0]
   refine (truth_spec (b:=true)).mono ?_
   rintro _ K ⟨rfl,E⟩
   obtain⟨K',s1,s2,s3⟩:=tl (truthF true) E
   simp only[sA,sB,seval,s1,fin_cc,OptP_some,s2]
   exact⟨tt,s3⟩
  ·have et:(decide (a=b))=false:=by simp[c0]
   rw[et]
   simp only[c123,sA,sB,seval,Int.cast_ofNat_Int,m1,c0]
   refine (truth_spec (b:=false)).mono ?_
   rintro _ K ⟨rfl,E⟩
   obtain⟨K',s1,s2,s3⟩:=tl (truthF false) E
   simp only[sA,sB,seval,s1,fin_cc,OptP_some,s2]
   exact⟨tt,s3⟩
 by_cases h10:o=10
 ·have e:ofNumF o a b=truthF (!decide (a=b)):=by rw[h10]; rfl
  rw[e]; subst h10
  by_cases c0:a=b
  ·have et:(!decide (a=b))=false:=by simp[c0]
   rw[et]
   simp only[c123,sA,sB,seval,Int.cast_ofNat_Int,m1,c0]
   refine (truth_spec (b:=false)).mono ?_
   rintro _ K ⟨rfl,E⟩
   obtain⟨K',s1,s2,s3⟩:=tl (truthF false) E
   simp only[sA,sB,seval,s1,fin_cc,OptP_some,s2]
   exact⟨tt,s3⟩
  ·have et:(!decide (a=b))=true:=by simp[c0]
   rw[et]
   simp only[c123,sA,sB,seval,Int.cast_ofNat_Int,m1,c0]
   refine (truth_spec (b:=true)).mono ?_
   rintro _ K ⟨rfl,E⟩
   obtain⟨K',s1,s2,s3⟩:=tl (truthF true) E
   simp only[sA,sB,seval,s1,fin_cc,OptP_some,s2]
   exact⟨tt,s3⟩
 by_cases h11:o=11
 ·have e:ofNumF o a b=truthF (decide (a≤b)):=by rw[h11]; rfl
  rw[e]; subst h11
  by_cases c0:a≤b
  ·have et:(decide (a≤b))=true:=by simp[c0]
   rw[et]
   simp only[c123,sA,sB,seval,Int.cast_ofNat_Int,m1,c0]
   refine (truth_spec (b:=true)).mono ?_
   rintro _ K ⟨rfl,E⟩
   obtain⟨K',s1,s2,s3⟩:=tl (truthF true) E
   simp only[sA,sB,seval,s1,fin_cc,OptP_some,s2]
   exact⟨tt,s3⟩
  ·have et:(decide (a≤b))=false:=by simp[c0]
   rw[et]
   simp only[c123,sA,sB,seval,Int.cast_ofNat_Int,m1,c0]
   refine (truth_spec (b:=false)).mono ?_
   rintro _ K ⟨rfl,E⟩
   obtain⟨K',s1,s2,s3⟩:=tl (truthF false) E
   simp only[sA,sB,seval,s1,fin_cc,OptP_some,s2]
   exact⟨tt,s3⟩
 by_cases h12:o=12
 ·have e:ofNumF o a b=truthF (decide (b≤a)):=by rw[h12]; rfl
  rw[e]; subst h12
  by_cases c0:b≤a
  ·have et:(decide (b≤a))=true:=by simp[c0]
   rw[et]
   simp only[c123,sA,sB,seval,Int.cast_ofNat_Int,m1,c0]
   refine (truth_spec (b:=true)).mono ?_
   rintro _ K ⟨rfl,E⟩
   obtain⟨K',s1,s2,s3⟩:=tl (truthF true) E
   simp only[sA,sB,seval,s1,fin_cc,OptP_some,s2]
   exact⟨tt,s3⟩
  ·have et:(decide (b≤a))=false:=by simp[c0]
   rw[et]
   simp only[c123,sA,sB,seval,Int.cast_ofNat_Int,m1,c0]
   refine (truth_spec (b:=false)).mono ?_
   rintro _ K ⟨rfl,E⟩
   obtain⟨K',s1,s2,s3⟩:=tl (truthF false) E
   simp only[sA,sB,seval,s1,fin_cc,OptP_some,s2]
   exact⟨tt,s3⟩
 by_cases h13:o=13
 ·have e:ofNumF o a b=truthF (decide (a<b)):=by rw[h13]; rfl
  rw[e]; subst h13
  by_cases c0:a<b
  ·have et:(decide (a<b))=true:=by simp[c0]
   rw[et]
   simp only[c123,sA,sB,seval,Int.cast_ofNat_Int,m1,c0]
   refine (truth_spec (b:=true)).mono ?_
   rintro _ K ⟨rfl,E⟩
   obtain⟨K',s1,s2,s3⟩:=tl (truthF true) E
   simp only[sA,sB,seval,s1,fin_cc,OptP_some,s2]
   exact⟨tt,s3⟩
  ·have et:(decide (a<b))=false:=by simp[c0]
   rw[et]
   simp only[c123,sA,sB,seval,Int.cast_ofNat_Int,m1,c0]
   refine (truth_spec (b:=false)).mono ?_
   rintro _ K ⟨rfl,E⟩
   obtain⟨K',s1,s2,s3⟩:=tl (truthF false) E
   simp only[sA,sB,seval,s1,fin_cc,OptP_some,s2]
   exact⟨tt,s3⟩
 by_cases h14:o=14
 ·have e:ofNumF o a b=truthF (decide (b<a)):=by rw[h14]; rfl
  rw[e]; subst h14
  by_cases c0:b<a
  ·have et:(decide (b<a))=true:=by simp[c0]
   rw[et]
   simp only[c123,sA,sB,seval,Int.cast_ofNat_Int,m1,c0]
   refine (truth_spec (b:=true)).mono ?_
   rintro _ K ⟨rfl,E⟩
   obtain⟨K',s1,s2,s3⟩:=tl (truthF true) E
   simp only[sA,sB,seval,s1,fin_cc,OptP_some,s2]
   exact⟨tt,s3⟩
  ·have et:(decide (b<a))=false:=by simp[c0]
   rw[et]
   simp only[c123,sA,sB,seval,Int.cast_ofNat_Int,m1,c0]
   refine (truth_spec (b:=false)).mono ?_
   rintro _ K ⟨rfl,E⟩
   obtain⟨K',s1,s2,s3⟩:=tl (truthF false) E
   simp only[sA,sB,seval,s1,fin_cc,OptP_some,s2]
   exact⟨tt,s3⟩
 by_cases h15:o=15
 ·have e:ofNumF o a b=truthF (!decide (a=0)&&!decide (b=0)):=by rw[h15]; rfl
  rw[e]; subst h15
  by_cases c0:a=0
  ·by_cases c1:b=0
   ·have et:(!decide (a=0)&&!decide (b=0))=false:=by simp[c0,c1]
    rw[et]
    simp only[c123,sA,sB,seval,Int.cast_ofNat_Int,m1,c0,c1]
    refine (truth_spec (b:=false)).mono ?_
    rintro _ K ⟨rfl,E⟩
    obtain⟨K',s1,s2,s3⟩:=tl (truthF false) E
    simp only[sA,sB,seval,s1,fin_cc,OptP_some,s2]
    exact⟨tt,s3⟩
   ·have et:(!decide (a=0)&&!decide (b=0))=false:=by simp[c0,c1]
    rw[et]
    simp only[c123,sA,sB,seval,Int.cast_ofNat_Int,m1,c0,c1]
    refine (truth_spec (b:=false)).mono ?_
    rintro _ K ⟨rfl,E⟩
    obtain⟨K',s1,s2,s3⟩:=tl (truthF false) E
    simp only[sA,sB,seval,s1,fin_cc,OptP_some,s2]
    exact⟨tt,s3⟩
  ·by_cases c1:b=0
   ·have et:(!decide (a=0)&&!decide (b=0))=false:=by simp[c0,c1]
    rw[et]
    simp only[c123,sA,sB,seval,Int.cast_ofNat_Int,m1,c0,c1]
    refine (truth_spec (b:=false)).mono ?_
    rintro _ K ⟨rfl,E⟩
    obtain⟨K',s1,s2,s3⟩:=tl (truthF false) E
    simp only[sA,sB,seval,s1,fin_cc,OptP_some,s2]
    exact⟨tt,s3⟩
   ·have et:(!decide (a=0)&&!decide (b=0))=true:=by simp[c0,c1]
    rw[et]
    simp only[c123,sA,sB,seval,Int.cast_ofNat_Int,m1,c0,c1]
    refine (truth_spec (b:=true)).mono ?_
    rintro _ K ⟨rfl,E⟩
    obtain⟨K',s1,s2,s3⟩:=tl (truthF true) E
    simp only[sA,sB,seval,s1,fin_cc,OptP_some,s2]
    exact⟨tt,s3⟩
 by_cases h16:o=16
 ·have e:ofNumF o a b=truthF (!decide (a=0)||!decide (b=0)):=by rw[h16]; rfl
  rw[e]; subst h16
  by_cases c0:a=0
  ·by_cases c1:b=0
   ·have et:(!decide (a=0)||!decide (b=0))=false:=by simp[c0,c1]
    rw[et]
    simp only[c123,sA,sB,seval,Int.cast_ofNat_Int,m1,c0,c1]
    refine (truth_spec (b:=false)).mono ?_
    rintro _ K ⟨rfl,E⟩
    obtain⟨K',s1,s2,s3⟩:=tl (truthF false) E
    simp only[sA,sB,seval,s1,fin_cc,OptP_some,s2]
    exact⟨tt,s3⟩
   ·have et:(!decide (a=0)||!decide (b=0))=true:=by simp[c0,c1]
    rw[et]
    simp only[c123,sA,sB,seval,Int.cast_ofNat_Int,m1,c0,c1]
    refine (truth_spec (b:=true)).mono ?_
    rintro _ K ⟨rfl,E⟩
    obtain⟨K',s1,s2,s3⟩:=tl (truthF true) E
    simp only[sA,sB,seval,s1,fin_cc,OptP_some,s2]
    exact⟨tt,s3⟩
  ·by_cases c1:b=0
   ·have et:(!decide (a=0)||!decide (b=0))=true:=by simp[c0,c1]
    rw[et]
    simp only[c123,sA,sB,seval,Int.cast_ofNat_Int,m1,c0,c1]
    refine (truth_spec (b:=true)).mono ?_
    rintro _ K ⟨rfl,E⟩
    obtain⟨K',s1,s2,s3⟩:=tl (truthF true) E
    simp only[sA,sB,seval,s1,fin_cc,OptP_some,s2]
    exact⟨tt,s3⟩
   ·have et:(!decide (a=0)||!decide (b=0))=true:=by simp[c0,c1]
    rw[et]
    simp only[c123,sA,sB,seval,Int.cast_ofNat_Int,m1,c0,c1]
    refine (truth_spec (b:=true)).mono ?_
    rintro _ K ⟨rfl,E⟩
    obtain⟨K',s1,s2,s3⟩:=tl (truthF true) E
    simp only[sA,sB,seval,s1,fin_cc,OptP_some,s2]
    exact⟨tt,s3⟩
 by_cases h24:o=24
 ·have e:ofNumF o a b=numV (fSqrt a):=by rw[h24]; rfl
  rw[e]; subst h24
  simp only[c123,sA,sB,seval,Int.cast_ofNat_Int,m1]
  refine (sqrt_spec ha).mono ?_
  rintro _ _ ⟨rfl,rfl⟩
  simp only[sA,sB,seval]
  refine number_spec.mono ?_
  rintro _ K ⟨rfl,E⟩
  obtain⟨K',s1,s2,s3⟩:=tl (numV (fSqrt a)) E
  simp only[sA,sB,seval,s1,fin_cc,OptP_some,s2]
  exact⟨tt,s3⟩
 by_cases h25:o=25
 ·have e:ofNumF o a b=numV (fSin a):=by rw[h25]; rfl
  rw[e]; subst h25
  simp only[c123,sA,sB,seval,Int.cast_ofNat_Int,m1]
  refine (sin_spec ha).mono ?_
  rintro _ _ ⟨rfl,rfl⟩
  simp only[sA,sB,seval]
  refine number_spec.mono ?_
  rintro _ K ⟨rfl,E⟩
  obtain⟨K',s1,s2,s3⟩:=tl (numV (fSin a)) E
  simp only[sA,sB,seval,s1,fin_cc,OptP_some,s2]
  exact⟨tt,s3⟩
 by_cases h26:o=26
 ·have e:ofNumF o a b=numV (fCos a):=by rw[h26]; rfl
  rw[e]; subst h26
  simp only[c123,sA,sB,seval,Int.cast_ofNat_Int,m1]
  refine (cos_spec ha).mono ?_
  rintro _ _ ⟨rfl,rfl⟩
  simp only[sA,sB,seval]
  refine number_spec.mono ?_
  rintro _ K ⟨rfl,E⟩
  obtain⟨K',s1,s2,s3⟩:=tl (numV (fCos a)) E
  simp only[sA,sB,seval,s1,fin_cc,OptP_some,s2]
  exact⟨tt,s3⟩
 by_cases h27:o=27
 ·have e:ofNumF o a b=numV (if a<0 then fSub 0 a else a):=by rw[h27]; rfl
  rw[e]; subst h27
  by_cases c0:a<0
  ·rw[if_pos c0]
   simp only[c123,sA,sB,seval,Int.cast_ofNat_Int,m1,c0]
   refine (sub_spec z ha).mono ?_
   rintro _ _ ⟨rfl,rfl⟩
   simp only[sA,sB,seval]
   refine number_spec.mono ?_
   rintro _ K ⟨rfl,E⟩
   obtain⟨K',s1,s2,s3⟩:=tl (numV (fSub 0 a)) E
   simp only[sA,sB,seval,s1,fin_cc,OptP_some,s2]
   exact⟨tt,s3⟩
  ·rw[if_neg c0]
   simp only[c123,sA,sB,seval,Int.cast_ofNat_Int,m1,c0]
   refine number_spec.mono ?_
   rintro _ K ⟨rfl,E⟩
   obtain⟨K',s1,s2,s3⟩:=tl (numV a) E
   simp only[sA,sB,seval,s1,fin_cc,OptP_some,s2]
   exact⟨tt,s3⟩
 by_cases h28:o=28
 ·have e:ofNumF o a b=numV (fOf (fFloor a)):=by rw[h28]; rfl
  rw[e]; subst h28
  simp only[c123,sA,sB,seval,Int.cast_ofNat_Int,m1]
  refine floor_spec.mono ?_
  rintro _ _ ⟨rfl,rfl⟩
  simp only[sA,sB,seval]
  refine of_spec.mono ?_
  rintro _ _ ⟨rfl,rfl⟩
  simp only[sA,sB,seval]
  refine number_spec.mono ?_
  rintro _ K ⟨rfl,E⟩
  obtain⟨K',s1,s2,s3⟩:=tl (numV (fOf (fFloor a))) E
  simp only[sA,sB,seval,s1,fin_cc,OptP_some,s2]
  exact⟨tt,s3⟩
 by_cases h29:o=29
 ·have e:ofNumF o a b=numV (min a b):=by rw[h29]; rfl
  rw[e]; subst h29
  simp only[c123,sA,sB,seval,Int.cast_ofNat_Int,m1,pf_min,min_if]
  refine number_spec.mono ?_
  rintro _ K ⟨rfl,E⟩
  obtain⟨K',s1,s2,s3⟩:=tl (numV (min a b)) E
  simp only[sA,sB,seval,s1,fin_cc,OptP_some,s2]
  exact⟨tt,s3⟩
 by_cases h30:o=30
 ·have e:ofNumF o a b=numV (max a b):=by rw[h30]; rfl
  rw[e]; subst h30
  simp only[c123,sA,sB,seval,Int.cast_ofNat_Int,m1,pf_maxI,max_if]
  refine number_spec.mono ?_
  rintro _ K ⟨rfl,E⟩
  obtain⟨K',s1,s2,s3⟩:=tl (numV (max a b)) E
  simp only[sA,sB,seval,s1,fin_cc,OptP_some,s2]
  exact⟨tt,s3⟩
 have e:ofNumF o a b=V0:=by
  unfold ofNumF
  rw[if_neg h8,if_neg h9,if_neg h10,if_neg h11,if_neg h12,if_neg h13,if_neg h14,if_neg h15,if_neg h16,if_neg h24,if_neg h25,if_neg h26,if_neg h27,if_neg h28,if_neg h29,if_neg h30]
 rw[e]
 replace h8:¬(o:Int)=8:=om
 replace h9:¬(o:Int)=9:=om
 replace h10:¬(o:Int)=10:=om
 replace h11:¬(o:Int)=11:=om
 replace h12:¬(o:Int)=12:=om
 replace h13:¬(o:Int)=13:=om
 replace h14:¬(o:Int)=14:=om
 replace h15:¬(o:Int)=15:=om
 replace h16:¬(o:Int)=16:=om
 replace h24:¬(o:Int)=24:=om
 replace h25:¬(o:Int)=25:=om
 replace h26:¬(o:Int)=26:=om
 replace h27:¬(o:Int)=27:=om
 replace h28:¬(o:Int)=28:=om
 replace h29:¬(o:Int)=29:=om
 replace h30:¬(o:Int)=30:=om
 simp only[c123,sA,sB,seval,m1,bl30,h8,h9,h10,h11,h12,h13,h14,h15,h16,h24,h25,h26,h27,h28,h29,h30]
 obtain⟨K',s1,s2,s3⟩:=tl V0 (.refl _ _)
 have s1':oStore 3 H1 (cellR H.next 3 0) (.agg (v3 0 0 0))=some K':=s1
 simp only[sA,sB,seval,s1',fin_cc,OptP_some,s2]
 exact⟨tt,s3⟩
open Go.Abs Go.Abs.S
set_option maxHeartbeats 4000000 in
theorem apply_spec{o:Nat}{b c:V}(hb:b.j)(hc:c.j){t:Tex}{vp:AVal}{H:AHeap}(S:SlK (·<H.next) H 1 vp t.pix.length (byts t.pix)) :
  ACalls Tryz.prog noNat 98 [.int .u8 (o:Int),.agg b.cells,.agg c.cells,.agg (texL t vp)] H fun r H'=>r=.agg (applyF o b c t).cells∧Ext H.next H H':=by
 obtain⟨H1,m1,r1,n1,k1⟩:=row_newL H b.cells (n:=3) rfl
 obtain⟨H2,m2,r2,n2,k2⟩:=row_newL H1 c.cells (n:=3) rfl
 obtain⟨H3,m3,r3,n3,k3⟩:=row_newL H2 (texL t vp) (n:=3) rfl
 obtain⟨H4,m4,r4,n4,k4⟩:=row_newL H3 (v3 0 0 0) (n:=3) rfl
 have E3:Ext H.next H H3:=⟨om,fun c hc=>by rw[k3 c om,k2 c om,k1 c om]⟩
 have tl:=fun {K:AHeap} (v:V) (e:Ext H4.next H4 K)=>tail3 rfl r4 om (fun c hc=>k4 c om) v e
 have ex:∀{K:AHeap},Ext H3.next H3 K→Ext H.next H K:=fun e=>E3.trans (e.less E3.next)
 obtain⟨bx,b1,b2,lb⟩:=ld3 (x:=b.x) (y:=b.y) (z:=b.z) (r1.same (H':=H4) (by rw[k4 _ om,k3 _ om,k2 _ om]))
 obtain⟨cx,c1,c2,lc⟩:=ld3 (x:=c.x) (y:=c.y) (z:=c.z) (r2.same (H':=H4) (by rw[k4 _ om,k3 _ om]))
 replace lb:oLoad true 3 H4 (cellR H.next 3 0)=some (.agg b.cells):=lb
 replace lc:oLoad true 3 H4 (cellR H1.next 3 0)=some (.agg c.cells):=lc
 have lx:=(ldX (r3.same (H':=H4) (k4 _ om))).2.2.2
 have S4:SlK (·<H4.next) H4 1 vp t.pix.length (byts t.pix):=S.mono fun q hq=>⟨by have:q<H.next:=hq; omega,by have:q<H.next:=hq; rw[k4 _ om,E3.old _ om]⟩
 refine acalls_ofN rfl za98 rfl ?_
 by_cases h2:o=2
 ·have e:applyF o b c t=b:=by rw[h2]; rfl
  rw[e]; subst h2
  obtain⟨K',s1,s2,s3⟩:=tl (b) (.refl _ _)
  simp only[c98,sA,sB,seval,Int.cast_ofNat_Int,cells_agg,m1,m2,m3,m4,fld0,fldA,bx,b1,b2,cx,lb,lc,lx,s1,fin_cc,OptP_some,s2]
  exact⟨tt,ex s3⟩
 by_cases h3:o=3
 ·have e:applyF o b c t=vAdd b c:=by rw[h3]; rfl
  rw[e]; subst h3
  simp only[c98,sA,sB,seval,Int.cast_ofNat_Int,cells_agg,m1,m2,m3,m4,fld0,fldA,bx,b1,b2,cx,lb,lc,lx]
  refine (vadd_spec hb hc).mono ?_
  rintro _ K ⟨rfl,E⟩
  obtain⟨K',s1,s2,s3⟩:=tl (vAdd b c) E
  simp only[sA,sB,seval,s1,fin_cc,OptP_some,s2]
  exact⟨tt,ex s3⟩
 by_cases h4:o=4
 ·have e:applyF o b c t=vSub b c:=by rw[h4]; rfl
  rw[e]; subst h4
  simp only[c98,sA,sB,seval,Int.cast_ofNat_Int,cells_agg,m1,m2,m3,m4,fld0,fldA,bx,b1,b2,cx,lb,lc,lx]
  refine (vsub_spec hb hc).mono ?_
  rintro _ K ⟨rfl,E⟩
  obtain⟨K',s1,s2,s3⟩:=tl (vSub b c) E
  simp only[sA,sB,seval,s1,fin_cc,OptP_some,s2]
  exact⟨tt,ex s3⟩
 by_cases h5:o=5
 ·have e:applyF o b c t=vScale c b.x:=by rw[h5]; rfl
  rw[e]; subst h5
  simp only[c98,sA,sB,seval,Int.cast_ofNat_Int,cells_agg,m1,m2,m3,m4,fld0,fldA,bx,b1,b2,cx,lb,lc,lx]
  refine (stimes_spec hc hb.1).mono ?_
  rintro _ K ⟨rfl,E⟩
  obtain⟨K',s1,s2,s3⟩:=tl (vScale c b.x) E
  simp only[sA,sB,seval,s1,fin_cc,OptP_some,s2]
  exact⟨tt,ex s3⟩
 by_cases h6:o=6
 ·have e:applyF o b c t=vOver b c.x:=by rw[h6]; rfl
  rw[e]; subst h6
  simp only[c98,sA,sB,seval,Int.cast_ofNat_Int,cells_agg,m1,m2,m3,m4,fld0,fldA,bx,b1,b2,cx,lb,lc,lx]
  refine (sover_spec hb hc.1).mono ?_
  rintro _ K ⟨rfl,E⟩
  obtain⟨K',s1,s2,s3⟩:=tl (vOver b c.x) E
  simp only[sA,sB,seval,s1,fin_cc,OptP_some,s2]
  exact⟨tt,ex s3⟩
 by_cases h7:o=7
 ·have e:applyF o b c t=vMinus b:=by rw[h7]; rfl
  rw[e]; subst h7
  simp only[c98,sA,sB,seval,Int.cast_ofNat_Int,cells_agg,m1,m2,m3,m4,fld0,fldA,bx,b1,b2,cx,lb,lc,lx]
  refine (sminus_spec hb).mono ?_
  rintro _ K ⟨rfl,E⟩
  obtain⟨K',s1,s2,s3⟩:=tl (vMinus b) E
  simp only[sA,sB,seval,s1,fin_cc,OptP_some,s2]
  exact⟨tt,ex s3⟩
 by_cases h18:o=18
 ·have e:applyF o b c t=numV b.x:=by rw[h18]; rfl
  rw[e]; subst h18
  simp only[c98,sA,sB,seval,Int.cast_ofNat_Int,cells_agg,m1,m2,m3,m4,fld0,fldA,bx,b1,b2,cx,lb,lc,lx]
  refine number_spec.mono ?_
  rintro _ K ⟨rfl,E⟩
  obtain⟨K',s1,s2,s3⟩:=tl (numV b.x) E
  simp only[sA,sB,seval,s1,fin_cc,OptP_some,s2]
  exact⟨tt,ex s3⟩
 by_cases h19:o=19
 ·have e:applyF o b c t=numV b.y:=by rw[h19]; rfl
  rw[e]; subst h19
  simp only[c98,sA,sB,seval,Int.cast_ofNat_Int,cells_agg,m1,m2,m3,m4,fld0,fldA,bx,b1,b2,cx,lb,lc,lx]
  refine number_spec.mono ?_
  rintro _ K ⟨rfl,E⟩
  obtain⟨K',s1,s2,s3⟩:=tl (numV b.y) E
  simp only[sA,sB,seval,s1,fin_cc,OptP_some,s2]
  exact⟨tt,ex s3⟩
 by_cases h20:o=20
 ·have e:applyF o b c t=numV b.z:=by rw[h20]; rfl
  rw[e]; subst h20
  simp only[c98,sA,sB,seval,Int.cast_ofNat_Int,cells_agg,m1,m2,m3,m4,fld0,fldA,bx,b1,b2,cx,lb,lc,lx]
  refine number_spec.mono ?_
  rintro _ K ⟨rfl,E⟩
  obtain⟨K',s1,s2,s3⟩:=tl (numV b.z) E
  simp only[sA,sB,seval,s1,fin_cc,OptP_some,s2]
  exact⟨tt,ex s3⟩
 by_cases h21:o=21
 ·have e:applyF o b c t=numV (vDot b c):=by rw[h21]; rfl
  rw[e]; subst h21
  simp only[c98,sA,sB,seval,Int.cast_ofNat_Int,cells_agg,m1,m2,m3,m4,fld0,fldA,bx,b1,b2,cx,lb,lc,lx]
  refine (vdot_spec hb hc).mono ?_
  rintro _ L ⟨rfl,EL⟩
  simp only[sA,sB,seval]
  refine number_spec.mono ?_
  rintro _ K ⟨rfl,E⟩
  obtain⟨K',s1,s2,s3⟩:=tl (numV (vDot b c)) (EL.trans (E.less EL.next))
  simp only[sA,sB,seval,s1,fin_cc,OptP_some,s2]
  exact⟨tt,ex s3⟩
 by_cases h22:o=22
 ·have e:applyF o b c t=vCross b c:=by rw[h22]; rfl
  rw[e]; subst h22
  simp only[c98,sA,sB,seval,Int.cast_ofNat_Int,cells_agg,m1,m2,m3,m4,fld0,fldA,bx,b1,b2,cx,lb,lc,lx]
  refine (vcross_spec hb hc).mono ?_
  rintro _ K ⟨rfl,E⟩
  obtain⟨K',s1,s2,s3⟩:=tl (vCross b c) E
  simp only[sA,sB,seval,s1,fin_cc,OptP_some,s2]
  exact⟨tt,ex s3⟩
 by_cases h23:o=23
 ·have e:applyF o b c t=vUnit b:=by rw[h23]; rfl
  rw[e]; subst h23
  simp only[c98,sA,sB,seval,Int.cast_ofNat_Int,cells_agg,m1,m2,m3,m4,fld0,fldA,bx,b1,b2,cx,lb,lc,lx]
  refine (vunit_spec hb).mono ?_
  rintro _ K ⟨rfl,E⟩
  obtain⟨K',s1,s2,s3⟩:=tl (vUnit b) E
  simp only[sA,sB,seval,s1,fin_cc,OptP_some,s2]
  exact⟨tt,ex s3⟩
 by_cases h31:o=31
 ·have e:applyF o b c t=sampleF t b.x c.x:=by rw[h31]; rfl
  rw[e]; subst h31
  simp only[c98,sA,sB,seval,Int.cast_ofNat_Int,cells_agg,m1,m2,m3,m4,fld0,fldA,bx,b1,b2,cx,lb,lc,lx]
  refine (sample_spec hb.1 hc.1 S4).mono ?_
  rintro _ K ⟨rfl,E⟩
  obtain⟨K',s1,s2,s3⟩:=tl (sampleF t b.x c.x) E
  simp only[sA,sB,seval,s1,fin_cc,OptP_some,s2]
  exact⟨tt,ex s3⟩
 have e:applyF o b c t=ofNumF o b.x c.x:=by
  unfold applyF
  rw[if_neg h2,if_neg h3,if_neg h4,if_neg h5,if_neg h6,if_neg h7,if_neg h18,if_neg h19,if_neg h20,if_neg h21,if_neg h22,if_neg h23,if_neg h31]
 rw[e]
 replace h2:¬(o:Int)=2:=om
 replace h3:¬(o:Int)=3:=om
 replace h4:¬(o:Int)=4:=om
 replace h5:¬(o:Int)=5:=om
 replace h6:¬(o:Int)=6:=om
 replace h7:¬(o:Int)=7:=om
 replace h18:¬(o:Int)=18:=om
 replace h19:¬(o:Int)=19:=om
 replace h20:¬(o:Int)=20:=om
 replace h21:¬(o:Int)=21:=om
 replace h22:¬(o:Int)=22:=om
 replace h23:¬(o:Int)=23:=om
 replace h31:¬(o:Int)=31:=om
 simp only[c98,sA,sB,seval,cells_agg,m1,m2,m3,m4,fld0,fldA,bx,cx,h2,h3,h4,h5,h6,h7,h18,h19,h20,h21,h22,h23,h31]
 refine (ofn_spec hb.1 hc.1).mono ?_
 rintro _ K ⟨rfl,E⟩
 obtain⟨K',s1,s2,s3⟩:=tl (ofNumF o b.x c.x) E
 simp only[sA,sB,seval,s1,fin_cc,OptP_some,s2]
 exact⟨tt,ex s3⟩
open Go.Abs Go.Abs.S
theorem flat_setN{α:Type}{f:α→List AVal}{m:Nat}(hf:∀x,(f x).length=m):∀{l:List α} {i:Nat} {x':α},i<l.length→(l.flatMap f).take (i*m)++(f x'++(l.flatMap f).drop (i*m+m))=(l.set i x').flatMap f
 | [],i,x',h=>by simp at h
 | y::l,0,x',h=>by
  have hy:=hf y
  rw[Nat.zero_mul,List.take_zero,Nat.zero_add,List.nil_append,List.flatMap_cons,List.drop_append,List.drop_of_length_le om,List.nil_append,hy,Nat.sub_self,List.drop_zero]; rfl
 | y::l,i+1,x',h=>by
  have hy:=hf y
  have e:=flat_setN hf (l:=l) (i:=i) (x':=x') (by rw[List.length_cons]at h; omega)
  rw[List.flatMap_cons,Nat.succ_mul,List.take_append,List.take_of_length_le om,hy,show i*m+m-m=i*m by omega,List.drop_append,List.drop_of_length_le om,List.nil_append,hy,show i*m+m+m-m=i*m+m by omega,List.append_assoc,e]; rfl
def rgS(b R:Nat):AVal:=.slice (some ⟨b,R*3,0⟩) R (.known R)
theorem rep_flat:∀n,rep (v3 0 0 0) n=(List.replicate n V0).flatMap V.cells
 | 0=>rfl
 | n+1=>by rw[List.replicate_succ,List.flatMap_cons,← rep_flat n]; rfl
theorem rg_make(H:AHeap){R:Nat}(h:R≤250):∃H',aMake 24 (v3 0 0 0) H (.int .i64 (R:Int)) (.int .i64 (R:Int))=some (rgS H.next R,H')∧Row H' H.next ((List.replicate R V0).flatMap V.cells)∧H'.next=H.next+1∧∀c,c≠H.next→H'.get c=H.get c:=by
 have h1:natOf (.int .i64 (R:Int))=some R:=by
  show natOf (.int .i64 (Int.ofNat R))=some R
  simp only[natOf,Nat.ble_eq_true_of_le (show R≤9223372036854775807 by omega),cond_true]
 refine⟨H.push (.cells (rep (v3 0 0 0) R) 0 false),?_,?_,rfl,fun c hc=>by rw[AHeap.get_push,if_neg hc]⟩
 ·simp only[aMake,h1,Nat.ble_eq_true_of_le rL,Nat.ble_eq_true_of_le (show 24*R≤281474976710656 by omega),Bool.and_self,cond_true,rep_len]
  rfl
 ·rw[← rep_flat]; exact row_push _ _
theorem rg_idx{b R i:Nat}(h:i<R):aIdxA 3 (rgS b R) (.int .i64 (i:Int))=some (cellR b (R*3) (i*3)):=by
 show (bif Nat.blt i R then some (AVal.ptr (some ⟨b,R*3,0+i*3⟩)) else none)=_
 rw[show Nat.blt i R=true by simpa[Nat.blt_eq] using h,Nat.zero_add]; rfl
theorem rg_ld3{H:AHeap}{b R i:Nat}{regs:List V}{v:V}(h:Row H b (regs.flatMap V.cells))(hl:regs.length=R)(hv:regs[i]?=some v):oLoad true 3 H (cellR b (R*3) (i*3))=some (.agg v.cells):=by
 have hi:=(List.getElem?_eq_some_iff.1 hv).1
 rw[row_loadK h (n:=R*3) (by rw[flat_len V_len,hl]) om,flat_at V_len hv]
theorem rg_ldx{H:AHeap}{b R i:Nat}{regs:List V}{v:V}(h:Row H b (regs.flatMap V.cells))(hl:regs.length=R)(hv:regs[i]?=some v):oLoad false 1 H (cellR b (R*3) (i*3))=some (.int .i64 v.x):=by
 have hi:=(List.getElem?_eq_some_iff.1 hv).1
 have e:=flat_at V_len hv
 refine row_load h (by rw[flat_len V_len,hl]) ?_
 have e0:(((regs.flatMap V.cells).drop (i*3)).take 3)[0]?=some (.int .i64 v.x):=by rw[e]; rfl
 rw[List.getElem?_take_of_lt om,List.getElem?_drop,Nat.add_zero]at e0
 exact e0
theorem rg_st{H:AHeap}{b R i:Nat}{regs:List V}{v:V}(h:Row H b (regs.flatMap V.cells))(hl:regs.length=R)(hi:i<R):∃H',oStore 3 H (cellR b (R*3) (i*3)) (.agg v.cells)=some H'∧Row H' b ((regs.set i v).flatMap V.cells)∧H'.next=H.next∧∀c,c≠b→H'.get c=H.get c:=
 row_stK h (n:=R*3) (by rw[flat_len V_len,hl]) om (xs:=v.cells) rfl rfl (flat_setN V_len om)
theorem rgF_iff{R x:Int}(h:rgF R x=true):0≤x∧x<R:=by
 simp only[rgF,Bool.and_eq_true,decide_eq_true_eq]at h; exact h
structure CodOk(s:Cod):Prop where
 r1:4≤s.regs
 r2:s.regs≤250
 l1:0<s.code.length
 i:∀x∈s.code,okI s.regs s.consts.length s.code.length x=true
 l:∀x,s.code[s.code.length-1]?=some x→x.o=32∨x.o=34
theorem okCode_ok{s:Cod}(h:okCode s.regs s.consts.length s.code=0):CodOk s:=by
 unfold okCode at h
 split at h
 ·simp at h
 split at h
 ·simp at h
 split at h
 ·rename_i h1 h2 h3
  split at h
  ·rename_i h4
   refine⟨om,om,om,fun x hx=>List.all_eq_true.1 h3 x hx,fun x hx=>?_⟩
   have:lastO s.code=x.o:=by unfold lastO; rw[List.getLast?_eq_getElem?,hx]
   rw[this]at h4; exact h4
  ·simp at h
 ·simp at h
theorem ok_con{R:Int}{nk nc:Nat}{i:InZ}(h:okI R nk nc i=true)(ho:i.o=1):(0≤i.a∧i.a<R)∧(0≤i.b∧i.b<nk):=by
 obtain⟨o,a,b,c⟩:=i
 simp only at ho
 subst ho
 have e:okI R nk nc ⟨1,a,b,c⟩=(rgF R a&&(rgF nk b&&decide (c=0))):=rfl
 rw[e,Bool.and_eq_true,Bool.and_eq_true]at h
 exact⟨rgF_iff h.1,rgF_iff h.2.1⟩
theorem ok_vec{R:Int}{nk nc:Nat}{i:InZ}(h:okI R nk nc i=true)(ho:i.o=17):(0≤i.a∧i.a<R)∧0≤i.b∧i.b+2<R:=by
 obtain⟨o,a,b,c⟩:=i
 simp only at ho
 subst ho
 have e:okI R nk nc ⟨17,a,b,c⟩=(rgF R a&&(rgF R b&&(decide (b+2<R)&&decide (c=0)))):=rfl
 rw[e,Bool.and_eq_true,Bool.and_eq_true,Bool.and_eq_true,decide_eq_true_eq]at h
 exact⟨rgF_iff h.1,(rgF_iff h.2.1).1,h.2.2.1⟩
theorem ok_jmp{R:Int}{nk nc:Nat}{i:InZ}(h:okI R nk nc i=true)(ho:i.o=32):0≤i.c∧i.c<nc:=by
 obtain⟨o,a,b,c⟩:=i
 simp only at ho
 subst ho
 have e:okI R nk nc ⟨32,a,b,c⟩=(decide (a=0)&&(decide (b=0)&&rgF nc c)):=rfl
 rw[e,Bool.and_eq_true,Bool.and_eq_true]at h
 exact rgF_iff h.2.2
theorem ok_unl{R:Int}{nk nc:Nat}{i:InZ}(h:okI R nk nc i=true)(ho:i.o=33):(0≤i.a∧i.a<R)∧0≤i.c∧i.c<nc:=by
 obtain⟨o,a,b,c⟩:=i
 simp only at ho
 subst ho
 have e:okI R nk nc ⟨33,a,b,c⟩=(rgF R a&&(decide (b=0)&&rgF nc c)):=rfl
 rw[e,Bool.and_eq_true,Bool.and_eq_true]at h
 exact⟨rgF_iff h.1,rgF_iff h.2.2⟩
theorem ok_ret{R:Int}{nk nc:Nat}{i:InZ}(h:okI R nk nc i=true)(ho:i.o=34):0≤i.a∧i.a<R:=by
 obtain⟨o,a,b,c⟩:=i
 simp only at ho
 subst ho
 have e:okI R nk nc ⟨34,a,b,c⟩=(rgF R a&&(decide (b=0)&&decide (c=0))):=rfl
 rw[e,Bool.and_eq_true]at h
 exact rgF_iff h.1
theorem ok_gen{R:Int}{nk nc:Nat}{i:InZ}(hR:4≤R)(h:okI R nk nc i=true)(h1:i.o≠1)(h17:i.o≠17)(h32:i.o≠32)(h33:i.o≠33)(h34:i.o≠34):(0≤i.a∧i.a<R)∧(0≤i.b∧i.b<R)∧(0≤i.c∧i.c<R):=by
 unfold okI at h
 rw[if_neg h1]at h
 split at h
 ·rw[Bool.and_eq_true,Bool.and_eq_true,decide_eq_true_eq]at h
  exact⟨rgF_iff h.1,rgF_iff h.2.1,om⟩
 split at h
 ·rw[Bool.and_eq_true,Bool.and_eq_true]at h
  exact⟨rgF_iff h.1,rgF_iff h.2.1,rgF_iff h.2.2⟩
 ·simp[h17,h32,h33,h34]at h
section
variable {s:Cod} {t:Tex} {k p:Nat} {regs:List V} {steps:Nat} {i:InZ}
theorem vm_con(h:s.code[p]?=some i)(ho:i.o=1):vmF s t (k+1) p regs steps=vmF s t k (p+1) (regs.set i.a.toNat (numV ((s.consts[i.b.toNat]?).getD 0))) (steps+1):=by
 simp only[vmF,h]; rw[if_pos ho]
theorem vm_vec(h:s.code[p]?=some i)(ho:i.o=17):vmF s t (k+1) p regs steps=vmF s t k (p+1) (regs.set i.a.toNat ⟨(rg regs i.b).x,(rg regs (i.b+1)).x,(rg regs (i.b+2)).x⟩) (steps+1):=by
 simp only[vmF,h]; rw[if_neg om,if_pos ho]
theorem vm_jmp(h:s.code[p]?=some i)(ho:i.o=32):vmF s t (k+1) p regs steps=vmF s t k i.c.toNat regs (steps+1):=by
 simp only[vmF,h]; rw[if_neg om,if_neg om,if_pos ho]
theorem vm_unl(h:s.code[p]?=some i)(ho:i.o=33):vmF s t (k+1) p regs steps=vmF s t k (if (rg regs i.a).x=0 then i.c.toNat else p+1) regs (steps+1):=by
 simp only[vmF,h]; rw[if_neg om,if_neg om,if_neg om,if_pos ho]
theorem vm_ret(h:s.code[p]?=some i)(ho:i.o=34):vmF s t (k+1) p regs steps=(rg regs i.a,steps+1):=by
 simp only[vmF,h]; rw[if_neg om,if_neg om,if_neg om,if_neg om,if_pos ho]
theorem vm_gen(h:s.code[p]?=some i)(h1:i.o≠1)(h17:i.o≠17)(h32:i.o≠32)(h33:i.o≠33)(h34:i.o≠34):vmF s t (k+1) p regs steps=vmF s t k (p+1) (regs.set i.a.toNat (applyF i.o (rg regs i.b) (rg regs i.c) t)) (steps+1):=by
 simp only[vmF,h]; rw[if_neg h1,if_neg h17,if_neg h32,if_neg h33,if_neg h34]
end
theorem rg_j{regs:List V}(h:∀v∈regs,v.j)(x:Int):(rg regs x).j:=by
 unfold rg
 cases e:regs[x.toNat]? with
 | none=>exact V0_j
 | some v=>exact h v (List.mem_of_getElem? e)
theorem set_j{regs:List V}(h:∀v∈regs,v.j)(i:Nat){v:V}(hv:v.j):∀u∈regs.set i v,u.j:=fun u hu=>by
 rcases List.mem_or_eq_of_mem_set hu with h1 | h1
 ·exact h u h1
 ·rw[h1]; exact hv
theorem z64:J64 0:=⟨by decide,by decide⟩
theorem ite_j{p:Prop}[Decidable p]{x y:V}(h:x.j)(k:y.j):(if p then x else y).j:=by by_cases hp:p; rw[if_pos hp]; exact h; rw[if_neg hp]; exact k
theorem mk_j{a b c:Int}(h:J64 a)(k:J64 b)(l:J64 c):(V.mk a b c).j:=⟨h,k,l⟩
theorem numV_j{x:Int}(h:J64 x):(numV x).j:=⟨h,z64,z64⟩
theorem truthF_j(b:Bool):(truthF b).j:=by cases b <;> exact⟨⟨by decide,by decide⟩,⟨by decide,by decide⟩,by decide,by decide⟩
theorem ofNumF_j{o:Nat}{a b:Int}(ha:J64 a)(hb:J64 b):(ofNumF o a b).j:=by
 unfold ofNumF
 repeat' refine ite_j ?_ ?_
 all_goals first | exact truthF_j _ | exact V0_j | refine numV_j ?_
 all_goals first | exact (fSqrt_j _).1 | (split; exact fSub_j z64 ha; exact ha) | exact fSin_j _ | exact fCos_j _ | exact fOf_j _ | exact min_j ha hb | exact max_j ha hb | exact fSub_j ⟨by decide,by decide⟩ ha | exact ha
theorem sampleF_j(t:Tex)(u v:Int):(sampleF t u v).j:=by
 unfold sampleF
 cases texOk t with
 | false=>exact V0_j
 | true=>simp only[cond_true]; exact mk_j (fDiv_j _ _) (fDiv_j _ _) (fDiv_j _ _)
theorem applyF_j{o:Nat}{b c:V}(hb:b.j)(hc:c.j)(t:Tex):(applyF o b c t).j:=by
 unfold applyF
 exact ite_j hb (ite_j (vAdd_j hb hc) (ite_j (vSub_j hb hc) (ite_j (vScale_j ..) (ite_j (vOver_j ..) (ite_j (vMinus_j hb) (ite_j (numV_j hb.1) (ite_j (numV_j hb.2.1) (ite_j (numV_j hb.2.2) (ite_j (numV_j (vDot_j ..)) (ite_j (vCross_j ..) (ite_j (vUnit_j _) (ite_j (sampleF_j ..) (ofNumF_j hb.1 hc.1)))))))))))))
end Go.Proofs.Tc
