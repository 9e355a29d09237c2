/- Part of a proof (YQ1 YQ2 YPS YG1 YPN YQ3 YG2 YG3 YG4); no condition. -/
import Derived.Test.YtfleblkgifoeaaaGreatDoorP9
import Derived.Test.YtfleblkgifoeaaaGreatDoorP10
set_option linter.unusedSimpArgs false
set_option linter.unusedVariables false
set_option linter.unnecessarySimpa false
namespace Go.Proofs.Wo
open Go.Abs Go.Abs.S
def PtC(H:AHeap)(p:AVal)(c:List AVal):Prop:=∃a,p=.ptr (some a)∧rdCells H a c.length=some c
def fp(p:AVal)(o:Nat):AVal:=match p with
 | .ptr (some a)=>.ptr (some ⟨a.b,a.lim,a.o+o⟩)
 | _=>undefA
theorem PtC.chk{H:AHeap}{p:AVal}{c:List AVal}(h:PtC H p c):aNilChk p=some p:=by
 obtain⟨a,rfl,_⟩:=h; rfl
theorem PtC.fld{H:AHeap}{p:AVal}{c:List AVal}(h:PtC H p c)(o:Nat):aField o p=some (fp p o):=by
 obtain⟨a,rfl,_⟩:=h; rfl
theorem PtC.fld0{H:AHeap}{p:AVal}{c:List AVal}(h:PtC H p c):aField 0 p=some p:=by
 obtain⟨a,rfl,_⟩:=h; rfl
theorem PtC.part{H:AHeap}{p:AVal}{c:List AVal}(h:PtC H p c){o k:Nat}(hk:o+k≤c.length):PtC H (fp p o) ((c.drop o).take k):=by
 obtain⟨a,rfl,h1⟩:=h
 refine⟨_,rfl,?_⟩
 rw[show ((c.drop o).take k).length=k by rw[List.length_take,List.length_drop]; omega]
 exact rd_part h1 hk
theorem PtC.load{H:AHeap}{p:AVal}{c:List AVal}(h:PtC H p c){o:Nat}{x:AVal}(hx:c[o]?=some x):oLoad false 1 H (fp p o)=some x:=by
 obtain⟨a,rfl,h1⟩:=h
 have hlt:=(List.getElem?_eq_some_iff.1 hx).1
 have:=rd_part h1 (i:=o) (j:=1) om
 have e:(c.drop o).take 1=[x]:=by
  rw[List.drop_eq_getElem_cons hlt,List.take_succ_cons,List.take_zero,(List.getElem?_eq_some_iff.1 hx).2]
 rw[e]at this
 simp only[fp,oLoad,this,cond_false]
theorem PtC.load0{H:AHeap}{p:AVal}{c:List AVal}(h:PtC H p c){x:AVal}(hx:c[0]?=some x):oLoad false 1 H p=some x:=by
 have:=h.load hx
 obtain⟨a,rfl,_⟩:=h
 exact this
theorem PtC.same{H H':AHeap}{p:AVal}{c:List AVal}(h:PtC H p c)(e:∀a,p=.ptr (some a)→H'.get a.b=H.get a.b):PtC H' p c:=by
 obtain⟨a,rfl,h1⟩:=h
 exact⟨a,rfl,by rw[rd_congr (e a rfl)]; exact h1⟩
theorem SlK.pt{P:Nat→Prop}{H:AHeap}{m k:Nat}{v:AVal}{C:List AVal}(h:SlK P H m v k C){i:Nat}(hi:i<k):PtC H (placeK m v i) ((C.drop (i*m)).take m):=by
 rcases h with⟨_,rfl,_⟩ | ⟨a,r,rfl,_,h3⟩
 ·omega
 ·have hm:i*m+m≤m*k:=by
   have:(i+1)*m≤k*m:=Nat.mul_le_mul_right m hi
   rw[Nat.mul_comm m k]; rw[Nat.add_mul,Nat.one_mul]at this; exact this
  have hl:C.length=m*k:=by
   obtain⟨l,low,ro,h1,h2,h3',h4,rfl⟩:=rd_spec h3
   rw[List.length_take,List.length_drop]; omega
  refine⟨_,rfl,?_⟩
  rw[show ((C.drop (i*m)).take m).length=m by rw[List.length_take,List.length_drop]; omega]
  exact rd_part h3 hm
theorem isname_spec(s:Bs){H:AHeap}:ACalls Tryz.prog natT 124 [.str s] H fun u H'=>u=.bool (nameF s)∧Ext H.next H H':=by
 refine acalls_ofN rfl za124 rfl ?_
 simp only[c124,sA,sB,seval]
 refine (next_spec nwoT (s:=s) (p:=((0:Nat):Int)) om om).mono ?_
 rintro v H1 ⟨rfl,E1⟩
 have e1:=E1.next
 obtain⟨H2,m2,r2,n2,k2⟩:=row_newL H1 [.int .u8 0,.str [],.int .i64 0,.int .i64 0,.int .i64 0,.int .i64 0] (n:=6) rfl
 obtain⟨H3,m3,r3,n3,k3⟩:=row_newL H2 [.int .i64 0,.int .i64 0] (n:=2) rfl
 cases hn:nextW s 0 with
 | error e=>
  rw[nextA_bad hn]
  have he:=nextW_err hn
  have he':¬(e.1:Int)=0:=om
  obtain⟨H4,m4,r4,n4,k4⟩:=row_storeN (H:=H3) (r2.same (k3 _ om)) (n:=6) rfl (xs:=wdL 0 [] 0 0 0 0) rfl rfl
  obtain⟨H5,m5,r5,n5,k5⟩:=row_storeN (H:=H4) (r3.same (k4 _ om)) (n:=2) rfl (xs:=flL e.1 e.2) rfl rfl
  have l5:oLoad false 1 H5 (cellR H2.next 2 0)=some (.int .i64 (e.1:Int)):=row_load r5 rfl rfl
  have hf:nameF s=false:=by unfold nameF; rw[hn]
  simp only[sA,sB,seval,pairA,ext_0,ext_1,m2,m3,m4,m5,fld0,l5,he',hf]
  exact⟨tt,om,fun c hc=>by rw[k5 c om,k4 c om,k3 c om,k2 c om,E1.old c hc]⟩
 | ok w=>
  rw[nextA_ok hn]
  obtain⟨H4,m4,r4,n4,k4⟩:=row_storeN (H:=H3) (r2.same (k3 _ om)) (n:=6) rfl (xs:=wdL w.k w.S w.n w.line w.at_ w.en) rfl rfl
  obtain⟨H5,m5,r5,n5,k5⟩:=row_storeN (H:=H4) (r3.same (k4 _ om)) (n:=2) rfl (xs:=flL 0 0) rfl rfl
  have r45:=r4.same (k5 _ om)
  have l5:oLoad false 1 H5 (cellR H2.next 2 0)=some (.int .i64 0):=row_load r5 rfl rfl
  have q0:oLoad false 1 H5 (cellR H1.next 6 0)=some (.int .u8 (w.k:Int)):=row_load r45 rfl rfl
  have q1:oLoad false 1 H5 (cellR H1.next 6 1)=some (.str w.S):=row_load r45 rfl rfl
  have E5:Ext H.next H H5:=⟨om,fun c hc=>by rw[k5 c om,k4 c om,k3 c om,k2 c om,E1.old c hc]⟩
  by_cases hk:w.k=2
  ·have hk':(w.k:Int)=2:=om
   have hf:nameF s=decide (w.S=s):=by unfold nameF; rw[hn]; simp only[hk]; rfl
   simp only[sA,sB,seval,pairA,ext_0,ext_1,m2,m3,m4,m5,fld0,fldA,l5,q0,q1,hk',hf]
   exact⟨tt,E5⟩
  ·have hk':¬(w.k:Int)=2:=om
   have hf:nameF s=false:=by
    unfold nameF; rw[hn]
    have:Nat.beq w.k 2=false:=by rw[beq_dec]; exact decide_eq_false hk
    simp only[this]; rfl
   simp only[sA,sB,seval,pairA,ext_0,ext_1,m2,m3,m4,m5,fld0,fldA,l5,q0,q1,hk',hf]
   exact⟨tt,E5⟩
theorem issign_spec(s:Bs)(n:Nat){H:AHeap}:ACalls Tryz.prog natT 164 [.str s,.int .i64 (n:Int)] H fun u H'=>u=.bool (opF s n)∧H=H':=by
 refine acalls_ofN rfl za164 rfl ?_
 by_cases h1:n=1
 ·subst h1
  by_cases e1:s=[45]
  ·subst e1; simp only[c164,sA,sB,seval]; exact⟨tt,tt⟩
  by_cases e2:s=[33]
  ·subst e2; simp only[c164,sA,sB,seval,e1]; exact⟨tt,tt⟩
  have:opF s 1=false:=by simp[opF,e1,e2]
  simp only[c164,sA,sB,seval,e1,e2,this]
  exact⟨tt,tt⟩
 have h1':¬(n:Int)=1:=om
 by_cases h2:n=2
 ·subst h2
  have op:opF s 2=[[124,124],[38,38],[61,61],[33,61],[60,61],[62,61],[60],[62],[43],[45],[42],[47]].contains s:=rfl
  rw[op]
  by_cases e0:s=[124,124]
  ·subst e0; simp only[c164,sA,sB,seval]; exact⟨by rfl,tt⟩
  by_cases e1:s=[38,38]
  ·subst e1; simp only[c164,sA,sB,seval]; exact⟨by rfl,tt⟩
  by_cases e2:s=[61,61]
  ·subst e2; simp only[c164,sA,sB,seval]; exact⟨by rfl,tt⟩
  by_cases e3:s=[33,61]
  ·subst e3; simp only[c164,sA,sB,seval]; exact⟨by rfl,tt⟩
  by_cases e4:s=[60,61]
  ·subst e4; simp only[c164,sA,sB,seval]; exact⟨by rfl,tt⟩
  by_cases e5:s=[62,61]
  ·subst e5; simp only[c164,sA,sB,seval]; exact⟨by rfl,tt⟩
  by_cases e6:s=[60]
  ·subst e6; simp only[c164,sA,sB,seval]; exact⟨by rfl,tt⟩
  by_cases e7:s=[62]
  ·subst e7; simp only[c164,sA,sB,seval]; exact⟨by rfl,tt⟩
  by_cases e8:s=[43]
  ·subst e8; simp only[c164,sA,sB,seval]; exact⟨by rfl,tt⟩
  by_cases e9:s=[45]
  ·subst e9; simp only[c164,sA,sB,seval]; exact⟨by rfl,tt⟩
  by_cases e10:s=[42]
  ·subst e10; simp only[c164,sA,sB,seval]; exact⟨by rfl,tt⟩
  by_cases e11:s=[47]
  ·subst e11; simp only[c164,sA,sB,seval]; exact⟨by rfl,tt⟩
  have:([[124,124],[38,38],[61,61],[33,61],[60,61],[62,61],[60],[62],[43],[45],[42],[47]]:List Bs).contains s=false:=by simp[e0,e1,e2,e3,e4,e5,e6,e7,e8,e9,e10,e11]
  simp only[c164,sA,sB,seval,e0,e1,e2,e3,e4,e5,e6,e7,e8,e9,e10,e11,this]
  exact⟨tt,tt⟩
 have h2':¬(n:Int)=2:=om
 have:opF s n=false:=by
  unfold opF
  split
  ·exact absurd rfl h1
  ·exact absurd rfl h2
  ·rfl
 simp only[c164,sA,sB,seval,h1',h2',this]
 exact⟨tt,tt⟩
theorem size_mem{e:Ex}:∀{l:List Ex},e∈l→e.size≤sizesE l
 | [],h=>by simp at h
 | x::l,h=>by
  simp only[sizesE]
  rcases List.mem_cons.1 h with rfl | h
  ·omega
  ·have:=size_mem h; omega
theorem sizesE_app(l m:List Ex):sizesE (l++m)=sizesE l+sizesE m:=by
 induction l with
 | nil=>simp[sizesE]
 | cons x l ih=>simp only[List.cons_append,sizesE,ih]; omega
theorem deepsE_app(l m:List Ex):deepsE (l++m)=max (deepsE l) (deepsE m):=by
 induction l with
 | nil=>simp[deepsE]
 | cons x l ih=>simp only[List.cons_append,deepsE,ih]; omega
theorem oksE_app(l m:List Ex):oksE (l++m)=(oksE l&&oksE m):=by
 induction l with
 | nil=>simp[oksE]
 | cons x l ih=>simp only[List.cons_append,oksE,ih,Bool.and_assoc]
theorem len_sizesE(l:List Ex):l.length≤sizesE l:=by
 induction l with
 | nil=>simp
 | cons x l ih=>cases x; simp only[List.length_cons,sizesE,Ex.size]; omega
def RtE(n deep:Nat)(e:Ex):Prop:=okE e=true∧n+e.size≤1000∧deep+e.deep≤41
def RtEs(n deep:Nat)(l:List Ex):Prop:=oksE l=true∧n+sizesE l≤1000∧deep+deepsE l≤41
theorem rtEs_snoc{n deep:Nat}{l:List Ex}{e:Ex}:RtEs n deep (l++[e])↔RtEs n deep l∧RtE (n+sizesE l) deep e:=by
 unfold RtEs RtE
 rw[oksE_app,sizesE_app,deepsE_app]
 simp only[oksE,sizesE,deepsE,Bool.and_true,Bool.and_eq_true]
 constructor
 ·rintro ⟨⟨a,b⟩,c,d⟩; exact⟨⟨a,om,om⟩,b,om,om⟩
 ·rintro ⟨⟨a,b,c⟩,d,e,f⟩; exact⟨⟨a,d⟩,om,om⟩
theorem rtEs_take{n deep:Nat}{l:List Ex}(h:RtEs n deep l)(i:Nat):RtEs n deep (l.take i):=by
 have:=List.take_append_drop i l
 unfold RtEs at *
 rw[← this,oksE_app,sizesE_app,deepsE_app]at h
 simp only[Bool.and_eq_true]at h
 obtain⟨⟨a,b⟩,c,d⟩:=h
 exact⟨a,om,om⟩
theorem mone_spec{H:AHeap}{mb:Nat}{n deep:Nat}(hm:Row H mb [.int .i64 (n:Int)])(hn:n≤1000000):ACalls Tryz.prog natT 123 [cellR mb 1 0,.int .i64 (deep:Int)] H fun u H'=>(∃b,u=.bool b∧(b=true↔n+1≤1000∧deep≤40))∧Row H' mb [.int .i64 ((n+1:Nat):Int)]∧H'.next=H.next∧∀c,c≠mb→H'.get c=H.get c:=by
 refine acalls_ofN rfl za123 rfl ?_
 have l0:oLoad false 1 H (cellR mb 1 0)=some (.int .i64 (n:Int)):=row_load hm rfl rfl
 have wk:IntKind.i64.wrap ((n:Int)+1)=((n+1:Nat):Int):=w64
 obtain⟨H1,m1,r1,n1,k1⟩:=row_st hm (n:=1) rfl (i:=0) om (x:=.int .i64 ((n+1:Nat):Int)) rfl (l':=[.int .i64 ((n+1:Nat):Int)]) rfl
 have l1:oLoad false 1 H1 (cellR mb 1 0)=some (.int .i64 ((n+1:Nat):Int)):=row_load r1 rfl rfl
 by_cases h1:n+1≤1000
 ·have h1':((n+1:Nat):Int)≤1000:=om
  by_cases h2:deep≤40
  ·have h2':(deep:Int)≤40:=om
   simp only[c123,sA,sB,seval,nil_cell,fld0,l0,wk,m1,l1,h1',h2']
   exact⟨⟨true,tt,fun _=>⟨om,om⟩,fun _=>rfl⟩,r1,n1,k1⟩
  ·have h2':¬(deep:Int)≤40:=om
   simp only[c123,sA,sB,seval,nil_cell,fld0,l0,wk,m1,l1,h1',h2']
   exact⟨⟨false,tt,by simp; omega⟩,r1,n1,k1⟩
 ·have h1':¬((n+1:Nat):Int)≤1000:=om
  simp only[c123,sA,sB,seval,nil_cell,fld0,l0,wk,m1,l1,h1']
  exact⟨⟨false,tt,by simp; omega⟩,r1,n1,k1⟩
def OutR(mb:Nat)(n size:Nat)(ok:Prop)(H:AHeap)(u:AVal)(H':AHeap):Prop:=
 ((ok∧u=.bool true∧Row H' mb [.int .i64 ((n+size:Nat):Int)])∨(¬ok∧u=.bool false))∧Fp mb H H'
theorem PtC.fp{H H':AHeap}{mb:Nat}{p:AVal}{c:List AVal}(h:PtC H p c)(f:Fp mb H H')(hp:∀a,p=.ptr (some a)→a.b<H.next∧a.b≠mb):PtC H' p c:=h.same fun a e=>f.old _ (hp a e).1 (hp a e).2
theorem mexpr_spec:∀(N:Nat) {e:Ex} {c:List AVal} {H:AHeap} {mb n deep:Nat} {p:AVal},e.size≤N→PtC H p c→(∀a,p=.ptr (some a)→a.b<H.next∧a.b≠mb)→XE (fun b=>b<H.next∧b≠mb) H e c→Row H mb [.int .i64 (n:Int)]→mb<H.next→n≤1000→deep≤41 →
  ACalls Tryz.prog natT 125 [cellR mb 1 0,p,.int .i64 (deep:Int)] H (OutR mb n e.size (RtE n deep e) H)
 | 0,e,_,_,_,_,_,_,h,_,_,_,_,_,_,_=>by cases e; simp[Ex.size]at h
 | N+1,.mk k s z kids,c,H,mb,n,deep,p,h,hp,hpb,hx,hm,hmb,hn,hd=>by
  obtain⟨v,C,rfl,z1,z2⟩:=hx
  obtain⟨Q,hQ⟩:∃Q,Q=OutR mb n (Ex.mk k s z kids).size (RtE n deep (Ex.mk k s z kids)) H:=⟨_,rfl⟩
  obtain⟨PF,hPF⟩:∃PF:Prop,PF↔partF k s z kids.length=true:=⟨_,Iff.rfl⟩
  rw[← hQ]
  refine acalls_ofN rfl za125 rfl ?_
  have hsz:(Ex.mk k s z kids).size=sizesE kids+1:=rfl
  have hdp:(Ex.mk k s z kids).deep=deepsE kids+1:=rfl
  simp only[c125,sA,sB,seval]
  refine (mone_spec (deep:=deep) hm om).mono ?_
  rintro _ H1 ⟨⟨b,rfl,hb⟩,r1,n1,k1⟩
  have F1:Fp mb H H1:=⟨om,fun c _ hc=>k1 c hc⟩
  have pp:=hp.fp F1 hpb
  have p0:=pp.load0 (x:=.int .u8 (k:Int)) rfl
  have p1:=pp.load (o:=1) (x:=.str s) rfl
  have p2:=pp.load (o:=2) (x:=.int .i64 z) rfl
  have p3:=pp.load (o:=3) (x:=v) rfl
  have q0:=pp.fld0
  have q1:=pp.fld 1
  have q2:=pp.fld 2
  have q3:=pp.fld 3
  have qc:=pp.chk
  have ln:=z1.len
  cases b with
  | false=>
   have hno:¬RtE n deep (.mk k s z kids):=by
    rintro ⟨_,q1,q2⟩; exact absurd (hb.2 ⟨om,om⟩) (by simp)
   simp only[sA,sB,seval]
   rw[hQ]
   exact⟨.inr ⟨hno,tt⟩,F1⟩
  | true=>
  obtain⟨h01,h02⟩:=hb.1 rfl
  have hok:okE (.mk k s z kids)=(partF k s z kids.length&&oksE kids):=by simp only[okE]
  have hR:RtE n deep (.mk k s z kids)↔partF k s z kids.length=true∧RtEs (n+1) (deep+1) kids:=by
   unfold RtE RtEs
   rw[hok,hsz,hdp,Bool.and_eq_true]
   constructor
   ·rintro ⟨⟨a,b⟩,c,d⟩; exact⟨a,b,om,om⟩
   ·rintro ⟨a,b,c,d⟩; exact⟨⟨a,b⟩,om,om⟩
  have leaf:kids=[]→RtEs (n+1) (deep+1) kids:=by
   rintro rfl; exact⟨rfl,by simp only[sizesE]; omega,by simp only[deepsE]; omega⟩
  have fin:∀(b:Bool) (H2:AHeap),partF k s z kids.length=b→(b=true→kids=[])→Fp mb H H2→Row H2 mb [.int .i64 ((n+1:Nat):Int)]→Q (.bool b) H2:=by
   intro b H2 h1 h2 h3 h4
   rw[hQ]
   refine⟨?_,h3⟩
   cases b with
   | false=>exact .inr ⟨fun q=>by rw[(hR.1 q).1]at h1; simp at h1,rfl⟩
   | true=>
    have hk:=h2 rfl
    refine .inl ⟨hR.2 ⟨h1,leaf hk⟩,rfl,?_⟩
    rw[hsz,hk]
    exact h4
  simp only[sW,sL,sXs,sXO,sXP,sB,seval,qc,q0,p0]
  rw[aw_block]
  refine aw_cut (fun (T:Env) H'=>T 0=cellR mb 1 0∧T 1=p∧T 2=.int .i64 (deep:Int)∧Fp mb H H'∧Row H' mb [.int .i64 ((n+1:Nat):Int)]∧PF) (calls_mono _ _) ?_ ?_
  rotate_left
  ·rintro T H2 ⟨t0,t1,t2,F2,r2,hpt⟩
   have e2:=F2.next
   have pp2:=hp.fp F2 hpb
   have p32:=pp2.load (o:=3) (x:=v) rfl
   simp only[sA,sB,seval,t0,t1,t2,qc,q3,p32,ln]
   refine aw_loop (fun m (T:Env) H'=>∃i:Nat,m=kids.length-i∧i≤kids.length∧T 0=cellR mb 1 0∧T 1=p∧T 2=.int .i64 (deep:Int)∧T 99=.int .i64 (kids.length:Int)∧T 100=.int .i64 (i:Int)∧Fp mb H H'∧Row H' mb [.int .i64 ((n+1+sizesE (kids.take i):Nat):Int)]∧RtEs (n+1) (deep+1) (kids.take i)) kids.length
    ⟨0,rfl,Nat.zero_le _,by simp only[sA,sB,seval,t0],by simp only[sA,sB,seval,t1],by simp only[sA,sB,seval,t2],by simp only[sA,sB,seval],by simp only[sA,sB,seval]; try rfl,F2,r2,rfl,by simp only[List.take_zero,sizesE]; omega,by simp only[List.take_zero,deepsE]; omega⟩ ?_
   rintro m T H3 ⟨i,rfl,hi,t0,t1,t2,t99,t100,F3,r3,hR3⟩
   have e3:=F3.next
   by_cases hlt:i<kids.length
   case neg=>
    obtain rfl:i=kids.length:=om
    have hlt':¬(kids.length:Int)<(kids.length:Int):=om
    rw[List.take_length]at hR3 r3
    simp only[sA,sB,seval,t99,t100,hlt']
    rw[hQ]
    refine⟨.inl ⟨hR.2 ⟨hPF.1 hpt,hR3⟩,tt,?_⟩,F3⟩
    rw[hsz,show n+(sizesE kids+1)=n+1+sizesE kids by omega]; exact r3
   have hlt':(i:Int)<(kids.length:Int):=om
   obtain⟨e,he⟩:∃e,kids[i]?=some e:=⟨_,List.getElem?_eq_getElem hlt⟩
   have hts:kids.take (i+1)=kids.take i++[e]:=by rw[List.take_add_one,he]; rfl
   have pp3:=hp.fp F3 hpb
   have p33:=pp3.load (o:=3) (x:=v) rfl
   have km:∀b,(b<H.next∧b≠mb)→(b<H3.next∧b≠mb)∧H3.get b=H.get b:=fun b hb=>⟨⟨om,hb.2⟩,F3.old b hb.1 hb.2⟩
   have z13:=z1.mono km
   have z23:=z2.mono km
   have ix:=z13.idx hlt
   have hk:=z13.pt hlt
   have he3:=z23.at he
   have hmem:e∈kids:=List.mem_of_getElem? he
   have hsm:=size_mem hmem
   have wd:IntKind.i64.wrap ((deep:Int)+1)=((deep+1:Nat):Int):=w64
   have wi:IntKind.i64.wrap ((i:Int)+1)=((i+1:Nat):Int):=by
    have e1:=len_sizesE (kids.take i)
    have e2:=hR3.2.1
    rw[List.length_take,Nat.min_eq_left hi]at e1
    rw[IntKind.wrap_i64]; omega
   simp only[sA,sB,seval,t0,t1,t2,t99,t100,hlt',qc,q3,p33,ix,wd]
   refine (mexpr_spec N (by rw[hsz]at h; omega) hk ?_ he3 r3 om hR3.2.1 om).mono ?_
   ·intro a ea
    rcases z13 with⟨_,h0,_⟩ | ⟨a',r,rfl,h0,_⟩
    ·omega
    ·simp only[placeK,AVal.ptr.injEq,sJ]at ea
     subst ea; exact h0
   rintro u H4 ⟨ho,F4⟩
   have F04:=F3.trans F4
   rcases ho with⟨hgo,rfl,r4⟩ | ⟨hgo,rfl⟩
   ·simp only[sA,sB,seval,t0,t1,t2,t99,t100,wi]
    refine⟨kids.length-(i+1),om,i+1,rfl,om,tt,tt,tt,tt,tt,F04,?_,?_⟩
    ·rw[hts,sizesE_app]
     simp only[sizesE,Nat.add_zero]
     rw[← Nat.add_assoc]; exact r4
    ·rw[hts,rtEs_snoc]; exact⟨hR3,hgo⟩
   ·simp only[sA,sB,seval]
    rw[hQ]
    refine⟨.inr ⟨fun q=>hgo ?_,tt⟩,F04⟩
    have:=rtEs_take (hR.1 q).2 (i+1)
    rw[hts,rtEs_snoc]at this
    exact this.2
  by_cases k1':k=1
  ·have k1i:(k:Int)=1:=om
   have hpart:partF k s z kids.length=(decide (0≤z)&&(s.isEmpty&&Nat.beq kids.length 0)):=by unfold partF; rw[if_pos k1']
   by_cases a1:0≤z
   ·by_cases a2:s=[]
    ·by_cases a3:kids=[]
     ·have a3':(kids.length:Int)=0:=by rw[a3]; rfl
      simp only[sA,sB,seval,qc,q0,q1,q2,q3,p0,p1,p2,p3,ln,k1i,a1,a2,a3']
      exact fin true H1 (by rw[hpart,a2,a3,decide_eq_true a1]; rfl) (fun _=>a3) F1 r1
     ·have a3':¬(kids.length:Int)=0:=by have:=List.length_pos_iff.2 a3; omega
      simp only[sA,sB,seval,qc,q0,q1,q2,q3,p0,p1,p2,p3,ln,k1i,a1,a2,a3']
      exact fin false H1 (by rw[hpart,show Nat.beq kids.length 0=false by rw[beq_dec]; exact decide_eq_false om]; simp) (by simp) F1 r1
    ·simp only[sA,sB,seval,qc,q0,q1,q2,q3,p0,p1,p2,p3,ln,k1i,a1,a2]
     exact fin false H1 (by rw[hpart,show s.isEmpty=false by cases s <;> simp_all]; simp) (by simp) F1 r1
   ·simp only[sA,sB,seval,qc,q0,q1,q2,q3,p0,p1,p2,p3,ln,k1i,a1]
    exact fin false H1 (by rw[hpart,decide_eq_false a1]; rfl) (by simp) F1 r1
  have k1i:¬(k:Int)=1:=om
  by_cases k2':k=2
  ·have k2i:(k:Int)=2:=om
   have hpart:partF k s z kids.length=(decide (z=0)&&(nameF s&&Nat.beq kids.length 0)):=by unfold partF; rw[if_neg k1',if_pos k2']
   by_cases a1:z=0
   ·simp only[sA,sB,seval,qc,q0,q1,q2,q3,p0,p1,p2,p3,ln,k1i,k2i,a1]
    refine (isname_spec s).mono ?_
    rintro _ H2 ⟨rfl,E2⟩
    have F12:Fp mb H1 H2:=⟨E2.next,fun c hc _=>E2.old c hc⟩
    have pp2:=hp.fp (F1.trans F12) hpb
    have p32:=pp2.load (o:=3) (x:=v) rfl
    have r2:=r1.same (E2.old mb om)
    cases a2:nameF s with
    | false=>
     simp only[sA,sB,seval]
     exact fin false H2 (by rw[hpart,a2]; simp) (by simp) (F1.trans F12) r2
    | true=>
     by_cases a3:kids=[]
     ·have a3':(kids.length:Int)=0:=by rw[a3]; rfl
      simp only[sA,sB,seval,qc,q3,p32,ln,a3']
      exact fin true H2 (by rw[hpart,a2,a3,decide_eq_true a1]; rfl) (fun _=>a3) (F1.trans F12) r2
     ·have a3':¬(kids.length:Int)=0:=by have:=List.length_pos_iff.2 a3; omega
      simp only[sA,sB,seval,qc,q3,p32,ln,a3']
      exact fin false H2 (by rw[hpart,show Nat.beq kids.length 0=false by rw[beq_dec]; exact decide_eq_false om]; simp) (by simp) (F1.trans F12) r2
   ·simp only[sA,sB,seval,qc,q0,q1,q2,q3,p0,p1,p2,p3,ln,k1i,k2i,a1]
    exact fin false H1 (by rw[hpart,decide_eq_false a1]; rfl) (by simp) F1 r1
  have k2i:¬(k:Int)=2:=om
  by_cases k3':k=3
  ·have k3i:(k:Int)=3:=om
   have hpart:partF k s z kids.length=(decide (z=0)&&opF s kids.length):=by unfold partF; rw[if_neg k1',if_neg k2',if_pos k3']
   by_cases a1:z=0
   ·simp only[sA,sB,seval,qc,q0,q1,q2,q3,p0,p1,p2,p3,ln,k1i,k2i,k3i,a1]
    refine (issign_spec s kids.length).mono ?_
    rintro _ _ ⟨rfl,rfl⟩
    cases a2:opF s kids.length with
    | false=>
     simp only[sA,sB,seval]
     exact fin false H1 (by rw[hpart,a2]; simp) (by simp) F1 r1
    | true=>
     simp only[sA,sB,seval]
     exact⟨tt,tt,tt,F1,r1,hPF.2 (by rw[hpart,a2,decide_eq_true a1]; rfl)⟩
   ·simp only[sA,sB,seval,qc,q0,q1,q2,q3,p0,p1,p2,p3,ln,k1i,k2i,k3i,a1]
    exact fin false H1 (by rw[hpart,decide_eq_false a1]; rfl) (by simp) F1 r1
  have k3i:¬(k:Int)=3:=om
  by_cases k4':k=4
  ·have k4i:(k:Int)=4:=om
   have hpart:partF k s z kids.length=(decide (z=0)&&nameF s):=by unfold partF; rw[if_neg k1',if_neg k2',if_neg k3',if_pos k4']
   by_cases a1:z=0
   ·simp only[sA,sB,seval,qc,q0,q1,q2,q3,p0,p1,p2,p3,ln,k1i,k2i,k3i,k4i,a1]
    refine (isname_spec s).mono ?_
    rintro _ H2 ⟨rfl,E2⟩
    have F12:Fp mb H1 H2:=⟨E2.next,fun c hc _=>E2.old c hc⟩
    have r2:=r1.same (E2.old mb om)
    cases a2:nameF s with
    | false=>
     simp only[sA,sB,seval]
     exact fin false H2 (by rw[hpart,a2]; simp) (by simp) (F1.trans F12) r2
    | true=>
     simp only[sA,sB,seval]
     exact⟨tt,tt,tt,F1.trans F12,r2,hPF.2 (by rw[hpart,a2,decide_eq_true a1]; rfl)⟩
   ·simp only[sA,sB,seval,qc,q0,q1,q2,q3,p0,p1,p2,p3,ln,k1i,k2i,k3i,k4i,a1]
    exact fin false H1 (by rw[hpart,decide_eq_false a1]; rfl) (by simp) F1 r1
  have k4i:¬(k:Int)=4:=om
  simp only[sA,sB,seval,k1i,k2i,k3i,k4i]
  exact fin false H1 (by unfold partF; rw[if_neg k1',if_neg k2',if_neg k3',if_neg k4']) (by simp) F1 r1
open Go.Abs Go.Abs.S
theorem size_memS{e:St}:∀{l:List St},e∈l→e.size≤sizesS l
 | [],h=>by simp at h
 | x::l,h=>by
  simp only[sizesS]
  rcases List.mem_cons.1 h with rfl | h
  ·omega
  ·have:=size_memS h; omega
theorem sizesS_app(l m:List St):sizesS (l++m)=sizesS l+sizesS m:=by
 induction l with
 | nil=>simp[sizesS]
 | cons x l ih=>simp only[List.cons_append,sizesS,ih]; omega
theorem deepsS_app(l m:List St):deepsS (l++m)=max (deepsS l) (deepsS m):=by
 induction l with
 | nil=>simp[deepsS]
 | cons x l ih=>simp only[List.cons_append,deepsS,ih]; omega
theorem oksS_app(l m:List St):oksS (l++m)=(oksS l&&oksS m):=by
 induction l with
 | nil=>simp[oksS]
 | cons x l ih=>simp only[List.cons_append,oksS,ih,Bool.and_assoc]
theorem len_sizesS(l:List St):l.length≤sizesS l:=by
 induction l with
 | nil=>simp
 | cons x l ih=>cases x; simp only[List.length_cons,sizesS,St.size]; omega
def RtS(n deep:Nat)(e:St):Prop:=okS e=true∧n+e.size≤1000∧deep+e.deep≤41
def RtSs(n deep:Nat)(l:List St):Prop:=oksS l=true∧n+sizesS l≤1000∧deep+deepsS l≤41
theorem rtSs_snoc{n deep:Nat}{l:List St}{e:St}:RtSs n deep (l++[e])↔RtSs n deep l∧RtS (n+sizesS l) deep e:=by
 unfold RtSs RtS
 rw[oksS_app,sizesS_app,deepsS_app]
 simp only[oksS,sizesS,deepsS,Bool.and_true,Bool.and_eq_true]
 constructor
 ·rintro ⟨⟨a,b⟩,c,d⟩; exact⟨⟨a,om,om⟩,b,om,om⟩
 ·rintro ⟨⟨a,b,c⟩,d,e,f⟩; exact⟨⟨a,d⟩,om,om⟩
theorem rtSs_take{n deep:Nat}{l:List St}(h:RtSs n deep l)(i:Nat):RtSs n deep (l.take i):=by
 have:=List.take_append_drop i l
 unfold RtSs at *
 rw[← this,oksS_app,sizesS_app,deepsS_app]at h
 simp only[Bool.and_eq_true]at h
 obtain⟨⟨a,b⟩,c,d⟩:=h
 exact⟨a,om,om⟩
theorem SlK.blk{P:Nat→Prop}{H:AHeap}{m k:Nat}{v:AVal}{C:List AVal}(h:SlK P H m v k C){i:Nat}(hi:i<k):∀a,placeK m v i=.ptr (some a)→P a.b:=by
 intro a ea
 rcases h with⟨_,h0,_⟩ | ⟨a',r,rfl,h0,_⟩
 ·omega
 ·simp only[placeK,AVal.ptr.injEq,sJ]at ea
  subst ea; exact h0
def StR(N:Nat):Prop:=∀{e:St} {c:List AVal} {H:AHeap} {mb n deep:Nat} {p:AVal},e.size≤N→PtC H p c→(∀a,p=.ptr (some a)→a.b<H.next∧a.b≠mb)→XS (fun b=>b<H.next∧b≠mb) H e c→Row H mb [.int .i64 (n:Int)]→mb<H.next→n≤1000→deep≤41 →
  ACalls Tryz.prog natT 84 [cellR mb 1 0,p,.int .i64 (deep:Int)] H (OutR mb n e.size (RtS n deep e) H)
def LiR(N:Nat):Prop:=∀{l:List St} {C:List AVal} {H:AHeap} {mb n deep:Nat} {v:AVal},sizesS l≤N→SlK (fun b=>b<H.next∧b≠mb) H 9 v l.length C→XSs (fun b=>b<H.next∧b≠mb) H l C→Row H mb [.int .i64 (n:Int)]→mb<H.next→n≤1000→deep≤41 →
  ACalls Tryz.prog natT 40 [cellR mb 1 0,v,.int .i64 (deep:Int)] H (OutR mb n (sizesS l) (RtSs n deep l) H)
theorem liR{N:Nat}(ih:StR N):LiR N:=by
 intro l C H mb n deep v h z1 z2 hm hmb hn hd
 obtain⟨Q,hQ⟩:∃Q,Q=OutR mb n (sizesS l) (RtSs n deep l) H:=⟨_,rfl⟩
 rw[← hQ]
 refine acalls_ofN rfl za40 rfl ?_
 have ln:=z1.len
 simp only[c40,sA,sB,seval,ln]
 refine aw_loop (fun m (T:Env) H'=>∃i:Nat,m=l.length-i∧i≤l.length∧T 0=cellR mb 1 0∧T 1=v∧T 2=.int .i64 (deep:Int)∧T 9=.int .i64 (l.length:Int)∧T 10=.int .i64 (i:Int)∧Fp mb H H'∧Row H' mb [.int .i64 ((n+sizesS (l.take i):Nat):Int)]∧RtSs n deep (l.take i)) l.length
  ⟨0,rfl,Nat.zero_le _,by simp only[sA,sB,seval],by simp only[sA,sB,seval],by simp only[sA,sB,seval],by simp only[sA,sB,seval],by simp only[sA,sB,seval]; try rfl,Fp.refl _ _,hm,rfl,by simp only[List.take_zero,sizesS]; omega,by simp only[List.take_zero,deepsS]; omega⟩ ?_
 rintro m T H3 ⟨i,rfl,hi,t0,t1,t2,t9,t10,F3,r3,hR3⟩
 have e3:=F3.next
 by_cases hlt:i<l.length
 case neg=>
  obtain rfl:i=l.length:=om
  have hlt':¬(l.length:Int)<(l.length:Int):=om
  rw[List.take_length]at hR3 r3
  simp only[sA,sB,seval,t9,t10,hlt']
  rw[hQ]
  exact⟨.inl ⟨hR3,tt,r3⟩,F3⟩
 have hlt':(i:Int)<(l.length:Int):=om
 obtain⟨e,he⟩:∃e,l[i]?=some e:=⟨_,List.getElem?_eq_getElem hlt⟩
 have hts:l.take (i+1)=l.take i++[e]:=by rw[List.take_add_one,he]; rfl
 have km:∀b,(b<H.next∧b≠mb)→(b<H3.next∧b≠mb)∧H3.get b=H.get b:=fun b hb=>⟨⟨om,hb.2⟩,F3.old b hb.1 hb.2⟩
 have z13:=z1.mono km
 have z23:=z2.mono km
 have ix:=z13.idx hlt
 have hk:=z13.pt hlt
 have he3:=z23.at he
 have hsm:=size_memS (List.mem_of_getElem? he)
 have wi:IntKind.i64.wrap ((i:Int)+1)=((i+1:Nat):Int):=by
  have e1:=len_sizesS (l.take i)
  have e2:=hR3.2.1
  rw[List.length_take,Nat.min_eq_left hi]at e1
  rw[IntKind.wrap_i64]; omega
 simp only[sA,sB,seval,t0,t1,t2,t9,t10,hlt',ix]
 refine (ih om hk (z13.blk hlt) he3 r3 om hR3.2.1 hd).mono ?_
 rintro u H4 ⟨ho,F4⟩
 have F04:=F3.trans F4
 rcases ho with⟨hgo,rfl,r4⟩ | ⟨hgo,rfl⟩
 ·simp only[sA,sB,seval,t0,t1,t2,t9,t10,wi]
  refine⟨l.length-(i+1),om,i+1,rfl,om,tt,tt,tt,tt,tt,F04,?_,?_⟩
  ·rw[hts,sizesS_app]
   simp only[sizesS,Nat.add_zero]
   rw[← Nat.add_assoc]; exact r4
  ·rw[hts,rtSs_snoc]; exact⟨hR3,hgo⟩
 ·simp only[sA,sB,seval]
  rw[hQ]
  refine⟨.inr ⟨fun q=>hgo ?_,tt⟩,F04⟩
  have:=rtSs_take q (i+1)
  rw[hts,rtSs_snoc]at this
  exact this.2
theorem stR{N:Nat}(ih:LiR N):StR (N+1):=by
 rintro ⟨k,s,e,body,els,line⟩ c H mb n deep p h hp hpb hx hm hmb hn hd
 obtain⟨ce,vb,Cb,ve,Ce,rfl,x1,z1,z2,y1,y2⟩:=hx
 obtain⟨c0,c1,c2,c3,rfl⟩:∃a b c d,ce=[a,b,c,d]:=by
  have:=x1.len
  match ce,this with
  | [a,b,c,d],_=>exact⟨a,b,c,d,rfl⟩
 obtain⟨Q,hQ⟩:∃Q,Q=OutR mb n (St.mk k s e body els line).size (RtS n deep (St.mk k s e body els line)) H:=⟨_,rfl⟩
 obtain⟨PF,hPF⟩:∃PF:Prop,PF↔lineF' k s body.length els.length=true:=⟨_,Iff.rfl⟩
 rw[← hQ]
 refine acalls_ofN rfl za84 rfl ?_
 have hsz:(St.mk k s e body els line).size=e.size+sizesS body+sizesS els+1:=rfl
 have hdp:(St.mk k s e body els line).deep=max e.deep (max (deepsS body) (deepsS els))+1:=rfl
 simp only[c84,sW,sL,sXs,sXO,sXP,sB,seval]
 refine (mone_spec (deep:=deep) hm om).mono ?_
 rintro _ H1 ⟨⟨b,rfl,hb⟩,r1,n1,k1⟩
 have F1:Fp mb H H1:=⟨om,fun c _ hc=>k1 c hc⟩
 have pp:=hp.fp F1 hpb
 have p0:=pp.load0 (x:=.int .u8 (k:Int)) rfl
 have p1:=pp.load (o:=1) (x:=.str s) rfl
 have p6:=pp.load (o:=6) (x:=vb) rfl
 have p7:=pp.load (o:=7) (x:=ve) rfl
 have q0:=pp.fld0
 have q1:=pp.fld 1
 have q2:=pp.fld 2
 have q6:=pp.fld 6
 have q7:=pp.fld 7
 have qc:=pp.chk
 have lb:=z1.len
 have le:=y1.len
 cases b with
 | false=>
  have hno:¬RtS n deep (.mk k s e body els line):=by
   rintro ⟨_,q1,q2⟩; exact absurd (hb.2 ⟨om,om⟩) (by simp)
  simp only[sA,sB,seval]
  rw[hQ]
  exact⟨.inr ⟨hno,tt⟩,F1⟩
 | true=>
 obtain⟨h01,h02⟩:=hb.1 rfl
 have hok:okS (.mk k s e body els line)=(lineF' k s body.length els.length&&(okE e&&(oksS body&&oksS els))):=by simp only[okS]
 have hR:RtS n deep (.mk k s e body els line)↔lineF' k s body.length els.length=true∧RtE (n+1) (deep+1) e∧RtSs (n+1+e.size) (deep+1) body∧RtSs (n+1+e.size+sizesS body) (deep+1) els:=by
  unfold RtS RtE RtSs
  rw[hok,hsz,hdp,Bool.and_eq_true,Bool.and_eq_true,Bool.and_eq_true]
  constructor
  ·rintro ⟨⟨a,b,c,d⟩,e,f⟩; exact⟨a,⟨b,om,om⟩,⟨c,om,om⟩,d,om,om⟩
  ·rintro ⟨a,⟨b,_,_⟩,⟨c,_,_⟩,d,_,_⟩; exact⟨⟨a,b,c,d⟩,om,om⟩
 have fin:∀(H2:AHeap),lineF' k s body.length els.length=false→Fp mb H H2→Q (.bool false) H2:=by
  intro H2 h1 h3
  rw[hQ]
  exact⟨.inr ⟨fun q=>by rw[(hR.1 q).1]at h1; simp at h1,rfl⟩,h3⟩
 simp only[sW,sL,sXs,sXO,sXP,sB,seval,qc,q0,p0]
 rw[aw_block]
 refine aw_cut (fun (T:Env) H'=>T 0=cellR mb 1 0∧T 1=p∧T 2=.int .i64 (deep:Int)∧Fp mb H H'∧Row H' mb [.int .i64 ((n+1:Nat):Int)]∧PF) (calls_mono _ _) ?_ ?_
 rotate_left
 ·rintro T H2 ⟨t0,t1,t2,F2,r2,hpt⟩
  have e2:=F2.next
  have km:∀{K:AHeap},Fp mb H K→∀b,(b<H.next∧b≠mb)→(b<K.next∧b≠mb)∧K.get b=H.get b:=fun F b hb=>⟨⟨by have:=F.next; omega,hb.2⟩,F.old b hb.1 hb.2⟩
  have pp2:=hp.fp F2 hpb
  have pe:=pp2.part (o:=2) (k:=4) (by simp)
  have wd:IntKind.i64.wrap ((deep:Int)+1)=((deep+1:Nat):Int):=w64
  simp only[sA,sB,seval,t0,t1,t2,qc,q2,wd]
  refine (mexpr_spec e.size rL pe ?_ (x1.mono (km F2)) r2 om om om).mono ?_
  ·intro a ea
   obtain⟨a',rfl,_⟩:=hp
   simp only[fp,AVal.ptr.injEq,sJ]at ea
   subst ea
   have:=hpb a' rfl
   exact⟨by show a'.b<H2.next; omega,this.2⟩
  rintro u H3 ⟨ho,F3⟩
  have F03:=F2.trans F3
  have e3:=F03.next
  rcases ho with⟨g1,rfl,r3⟩ | ⟨g1,rfl⟩
  case inr=>
   simp only[sA,sB,seval,t0,t1,t2]
   rw[hQ]
   exact⟨.inr ⟨fun q=>g1 (hR.1 q).2.1,tt⟩,F03⟩
  have pp3:=hp.fp F03 hpb
  have p63:=pp3.load (o:=6) (x:=vb) rfl
  simp only[sA,sB,seval,t0,t1,t2,qc,q6,p63,wd]
  refine (ih (by rw[hsz]at h; omega) (z1.mono (km F03)) (z2.mono (km F03)) r3 om g1.2.1 om).mono ?_
  rintro u H4 ⟨ho,F4⟩
  have F04:=F03.trans F4
  have e4:=F04.next
  rcases ho with⟨g2,rfl,r4⟩ | ⟨g2,rfl⟩
  case inr=>
   simp only[sA,sB,seval,t0,t1,t2]
   rw[hQ]
   exact⟨.inr ⟨fun q=>g2 (hR.1 q).2.2.1,tt⟩,F04⟩
  have pp4:=hp.fp F04 hpb
  have p74:=pp4.load (o:=7) (x:=ve) rfl
  simp only[sA,sB,seval,t0,t1,t2,qc,q7,p74,wd]
  refine (ih (by rw[hsz]at h; omega) (y1.mono (km F04)) (y2.mono (km F04)) r4 om g2.2.1 om).mono ?_
  rintro u H5 ⟨ho,F5⟩
  have F05:=F04.trans F5
  rcases ho with⟨g3,rfl,r5⟩ | ⟨g3,rfl⟩
  ·simp only[sA,sB,seval]
   rw[hQ]
   refine⟨.inl ⟨hR.2 ⟨hPF.1 hpt,g1,g2,g3⟩,tt,?_⟩,F05⟩
   rw[hsz,show n+(e.size+sizesS body+sizesS els+1)=n+1+e.size+sizesS body+sizesS els by omega]; exact r5
  ·simp only[sA,sB,seval]
   rw[hQ]
   exact⟨.inr ⟨fun q=>g3 (hR.1 q).2.2.2,tt⟩,F05⟩
 have nb0:∀{α:Type} {l:List α},l≠[]→Nat.beq l.length 0=false:=fun q=>by rw[beq_dec]; exact decide_eq_false (by have:=List.length_pos_iff.2 q; omega)
 have pos:∀{α:Type} {l:List α},l≠[]→(0:Int)<(l.length:Int):=fun q=>by have:=List.length_pos_iff.2 q; omega
 have emp:s≠[]→s.isEmpty=false:=fun q=>by cases s <;> simp_all
 have nil0:¬(0:Int)<((([]:List St)).length:Int):=by simp
 by_cases k1:k=1
 ·have i1:(k:Int)=1:=om
  have hpart:lineF' k s body.length els.length=(nameF s&&(Nat.beq body.length 0&&Nat.beq els.length 0)):=by unfold lineF'; rw[if_pos (.inl k1)]
  simp only[sA,sB,seval,qc,q0,q1,q6,q7,p0,p1,p6,p7,lb,le,i1]
  refine (isname_spec s).mono ?_
  rintro _ H2 ⟨rfl,E2⟩
  have F12:Fp mb H1 H2:=⟨E2.next,fun c hc _=>E2.old c hc⟩
  have F02:=F1.trans F12
  have pp2:=hp.fp F02 hpb
  have p62:=pp2.load (o:=6) (x:=vb) rfl
  have p72:=pp2.load (o:=7) (x:=ve) rfl
  have r2:=r1.same (E2.old mb om)
  cases a2:nameF s with
  | false=>
   simp only[sA,sB,seval]
   exact fin H2 (by rw[hpart,a2]; rfl) F02
  | true=>
  by_cases a3:body=[]
  ·by_cases a4:els=[]
   ·have b3:¬(0:Int)<(body.length:Int):=by rw[a3]; simp
    have b4:¬(0:Int)<(els.length:Int):=by rw[a4]; simp
    simp only[sA,sB,seval,qc,q6,q7,p62,p72,lb,le,b3,b4]
    exact⟨tt,tt,tt,F02,r2,hPF.2 (by rw[hpart,a2,a3,a4]; rfl)⟩
   ·have b3:¬(0:Int)<(body.length:Int):=by rw[a3]; simp
    have b4:=pos a4
    simp only[sA,sB,seval,qc,q6,q7,p62,p72,lb,le,b3,b4]
    exact fin H2 (by rw[hpart,nb0 a4]; simp) F02
  ·have b3:=pos a3
   simp only[sA,sB,seval,qc,q6,q7,p62,p72,lb,le,b3]
   exact fin H2 (by rw[hpart,nb0 a3]; simp) F02
 have i1:¬(k:Int)=1:=om
 by_cases k2:k=2
 ·have i2:(k:Int)=2:=om
  have hpart:lineF' k s body.length els.length=(nameF s&&(Nat.beq body.length 0&&Nat.beq els.length 0)):=by unfold lineF'; rw[if_pos (.inr k2)]
  simp only[sA,sB,seval,qc,q0,q1,q6,q7,p0,p1,p6,p7,lb,le,i1,i2]
  refine (isname_spec s).mono ?_
  rintro _ H2 ⟨rfl,E2⟩
  have F12:Fp mb H1 H2:=⟨E2.next,fun c hc _=>E2.old c hc⟩
  have F02:=F1.trans F12
  have pp2:=hp.fp F02 hpb
  have p62:=pp2.load (o:=6) (x:=vb) rfl
  have p72:=pp2.load (o:=7) (x:=ve) rfl
  have r2:=r1.same (E2.old mb om)
  cases a2:nameF s with
  | false=>
   simp only[sA,sB,seval]
   exact fin H2 (by rw[hpart,a2]; rfl) F02
  | true=>
  by_cases a3:body=[]
  ·by_cases a4:els=[]
   ·have b3:¬(0:Int)<(body.length:Int):=by rw[a3]; simp
    have b4:¬(0:Int)<(els.length:Int):=by rw[a4]; simp
    simp only[sA,sB,seval,qc,q6,q7,p62,p72,lb,le,b3,b4]
    exact⟨tt,tt,tt,F02,r2,hPF.2 (by rw[hpart,a2,a3,a4]; rfl)⟩
   ·have b3:¬(0:Int)<(body.length:Int):=by rw[a3]; simp
    have b4:=pos a4
    simp only[sA,sB,seval,qc,q6,q7,p62,p72,lb,le,b3,b4]
    exact fin H2 (by rw[hpart,nb0 a4]; simp) F02
  ·have b3:=pos a3
   simp only[sA,sB,seval,qc,q6,q7,p62,p72,lb,le,b3]
   exact fin H2 (by rw[hpart,nb0 a3]; simp) F02
 have i2:¬(k:Int)=2:=om
 have i12:¬(k=1∨k=2):=om
 by_cases k3:k=3
 ·have i3:(k:Int)=3:=om
  have hpart:lineF' k s body.length els.length=s.isEmpty:=by unfold lineF'; rw[if_neg i12,if_pos k3]
  by_cases a2:s=[]
  ·simp only[sA,sB,seval,qc,q0,q1,q6,q7,p0,p1,p6,p7,lb,le,i1,i2,i3,a2]
   exact⟨tt,tt,tt,F1,r1,hPF.2 (by rw[hpart,a2]; rfl)⟩
  ·simp only[sA,sB,seval,qc,q0,q1,q6,q7,p0,p1,p6,p7,lb,le,i1,i2,i3,a2]
   exact fin H1 (by rw[hpart,emp a2]) F1
 have i3:¬(k:Int)=3:=om
 by_cases k4:k=4
 ·have i4:(k:Int)=4:=om
  have hpart:lineF' k s body.length els.length=(s.isEmpty&&Nat.beq els.length 0):=by unfold lineF'; rw[if_neg i12,if_neg k3,if_pos k4]
  by_cases a2:s=[]
  ·by_cases a4:els=[]
   ·have b4:¬(0:Int)<(els.length:Int):=by rw[a4]; simp
    simp only[sA,sB,seval,qc,q0,q1,q6,q7,p0,p1,p6,p7,lb,le,i1,i2,i3,i4,a2,b4]
    exact⟨tt,tt,tt,F1,r1,hPF.2 (by rw[hpart,a2,a4]; rfl)⟩
   ·have b4:=pos a4
    simp only[sA,sB,seval,qc,q0,q1,q6,q7,p0,p1,p6,p7,lb,le,i1,i2,i3,i4,a2,b4]
    exact fin H1 (by rw[hpart,nb0 a4]; simp) F1
  ·simp only[sA,sB,seval,qc,q0,q1,q6,q7,p0,p1,p6,p7,lb,le,i1,i2,i3,i4,a2]
   exact fin H1 (by rw[hpart,emp a2]; rfl) F1
 have i4:¬(k:Int)=4:=om
 by_cases k5:k=5
 ·have i5:(k:Int)=5:=om
  have hpart:lineF' k s body.length els.length=(s.isEmpty&&(Nat.beq body.length 0&&Nat.beq els.length 0)):=by unfold lineF'; rw[if_neg i12,if_neg k3,if_neg k4,if_pos k5]
  by_cases a2:s=[]
  ·by_cases a3:body=[]
   ·have b3:¬(0:Int)<(body.length:Int):=by rw[a3]; simp
    by_cases a4:els=[]
    ·have b4:¬(0:Int)<(els.length:Int):=by rw[a4]; simp
     simp only[sA,sB,seval,qc,q0,q1,q6,q7,p0,p1,p6,p7,lb,le,i1,i2,i3,i4,i5,a2,b3,b4]
     exact⟨tt,tt,tt,F1,r1,hPF.2 (by rw[hpart,a2,a3,a4]; rfl)⟩
    ·have b4:=pos a4
     simp only[sA,sB,seval,qc,q0,q1,q6,q7,p0,p1,p6,p7,lb,le,i1,i2,i3,i4,i5,a2,b3,b4]
     exact fin H1 (by rw[hpart,nb0 a4]; simp) F1
   ·have b3:=pos a3
    simp only[sA,sB,seval,qc,q0,q1,q6,q7,p0,p1,p6,p7,lb,le,i1,i2,i3,i4,i5,a2,b3]
    exact fin H1 (by rw[hpart,nb0 a3]; simp) F1
  ·simp only[sA,sB,seval,qc,q0,q1,q6,q7,p0,p1,p6,p7,lb,le,i1,i2,i3,i4,i5,a2]
   exact fin H1 (by rw[hpart,emp a2]; rfl) F1
 have i5:¬(k:Int)=5:=om
 simp only[sA,sB,seval,i1,i2,i3,i4,i5]
 exact fin H1 (by unfold lineF'; rw[if_neg i12,if_neg k3,if_neg k4,if_neg k5]) F1
theorem sizeS_pos(e:St):0<e.size:=by cases e; simp only[St.size]; omega
theorem stR0:StR 0:=by
 intro e c H mb n deep p h
 exact absurd h (Nat.not_le.2 (sizeS_pos e))
theorem stR_all:∀(N:Nat),StR N
 | 0=>stR0
 | N+1=>stR (liR (stR_all N))
theorem mright_spec{l:List St}{C:List AVal}{H:AHeap}{v:AVal}(z1:SlK (·<H.next) H 9 v l.length C)(z2:XSs (·<H.next) H l C):ACalls Tryz.prog natT 15 [v] H fun u H'=>u=.bool (rightF l)∧Ext H.next H H':=by
 refine acalls_ofN rfl za15 rfl ?_
 obtain⟨H1,m1,r1,n1,k1⟩:=row_newL H [.int .i64 0] (n:=1) rfl
 have b1:aBuild [.int .i64 0] []=some (.agg [.int .i64 0]):=rfl
 simp only[c15,sA,sB,seval,b1,cells_agg,m1]
 have km:∀b,b<H.next→(b<H1.next∧b≠H.next)∧H1.get b=H.get b:=fun b hb=>⟨⟨om,om⟩,k1 b om⟩
 refine (liR (stR_all (sizesS l)) (n:=0) (deep:=1) rL (z1.mono km) (z2.mono km) r1 om om om).mono ?_
 rintro u H2 ⟨ho,F2⟩
 have E:Ext H.next H H2:=⟨by have:=F2.next; omega,fun c hc=>by rw[F2.old c om om,k1 c om]⟩
 have hr:RtSs 0 1 l↔rightF l=true:=by
  unfold RtSs rightF fitsF
  simp only[Bool.and_eq_true,decide_eq_true_eq]
  constructor
  ·rintro ⟨a,b,c⟩; exact⟨a,om,om⟩
  ·rintro ⟨a,b,c⟩; exact⟨a,om,om⟩
 rcases ho with⟨h,rfl,_⟩ | ⟨h,rfl⟩
 ·rw[hr.1 h]
  simp only[sA,sB,seval]
  exact⟨tt,E⟩
 ·have:rightF l=false:=by
   cases hh:rightF l with
   | false=>rfl
   | true=>exact absurd (hr.2 hh) h
  rw[this]
  simp only[sA,sB,seval]
  exact⟨tt,E⟩
open Go.Abs Go.Abs.S
def Ex.kind:Ex→Nat
 | .mk k _ _ _=>k
def commaF:List Bs→Bs
 | []=>[]
 | a::l=>a++l.flatMap fun t=>44::32::t
theorem commaF_snoc(l:List Bs)(t:Bs):commaF (l++[t])=commaF l++((if l.isEmpty then [] else [44,32])++t):=by
 cases l with
 | nil=>simp[commaF]
 | cons a l=>simp[commaF]
def shapeE(k:Nat)(s:Bs)(n:Int)(ts:List Bs):Bs:=
 if k=1 then numeralF n else if k=2 then s else if k=4 then s++40::(commaF ts++[41])
 else match ts with
  | [a]=>s++32::a
  | [a,b]=>a++32::(s++32::b)
  | _=>[]
mutual
def showE:Ex→Bs
 | .mk k s n kids=>shapeE k s n (showKs kids)
def showKs:List Ex→List Bs
 | []=>[]
 | e::l=>(if e.kind=3 then 40::(showE e++[41]) else showE e)::showKs l
end
def showK(e:Ex):Bs:=if e.kind=3 then 40::(showE e++[41]) else showE e
theorem showKs_map:∀l:List Ex,showKs l=l.map showK
 | []=>by simp[showKs]
 | e::l=>by rw[showKs,List.map_cons,showKs_map l,showK]
def tabsF(n:Nat):Bs:=List.replicate n 9
def shapeS(k:Nat)(s:Bs)(lev:Nat)(x b c:Bs)(noElse:Bool):Bs:=
 tabsF lev++(if k=1 then [108,101,116,32]++(s++([32,61,32]++(x++[59,10])))
 else if k=2 then [115,101,116,32]++(s++([32,61,32]++(x++[59,10])))
 else if k=5 then [114,101,116,117,114,110,32]++(x++[59,10])
 else (if k=3 then [105,102,32,40] else [119,104,105,108,101,32,40])++(x++([41,32,123,10]++(b++((if noElse then [] else tabsF lev++([125,32,101,108,115,101,32,123,10]++c))++(tabsF lev++[125,10]))))))
mutual
def showS:Nat→St→Bs
 | lev,.mk k s e body els _=>shapeS k s lev (showE e) (showSs (lev+1) body) (showSs (lev+1) els) els.isEmpty
def showSs:Nat→List St→Bs
 | _,[]=>[]
 | lev,x::l=>showS lev x++showSs lev l
end
theorem showSs_app(lev:Nat)(l m:List St):showSs lev (l++m)=showSs lev l++showSs lev m:=by
 induction l with
 | nil=>simp[showSs]
 | cons x l ih=>simp only[List.cons_append,showSs,ih,List.append_assoc]
def showF(l:List St):Bs×Nat:=if rightF l then (if 16384<(showSs 0 l).length then ([],3) else (showSs 0 l,0)) else ([],103)
mutual
def rngE:Ex→Bool
 | .mk _ _ n kids=>(decide (-9223372036854775808≤n)&&decide (n≤9223372036854775807))&&rngEs kids
def rngEs:List Ex→Bool
 | []=>true
 | e::l=>rngE e&&rngEs l
end
mutual
def rngS:St→Bool
 | .mk _ _ e body els line=>(rngE e&&(decide (-9223372036854775808≤line)&&decide (line≤9223372036854775807)))&&(rngSs body&&rngSs els)
def rngSs:List St→Bool
 | []=>true
 | e::l=>rngS e&&rngSs l
end
theorem rngEs_mem{l:List Ex}{e:Ex}(h:rngEs l=true)(he:e∈l):rngE e=true:=by
 induction l with
 | nil=>simp at he
 | cons x l ih=>
  simp only[rngEs,Bool.and_eq_true]at h
  rcases List.mem_cons.1 he with rfl | he
  ·exact h.1
  ·exact ih h.2 he
theorem rngSs_mem{l:List St}{e:St}(h:rngSs l=true)(he:e∈l):rngS e=true:=by
 induction l with
 | nil=>simp at he
 | cons x l ih=>
  simp only[rngSs,Bool.and_eq_true]at h
  rcases List.mem_cons.1 he with rfl | he
  ·exact h.1
  ·exact ih h.2 he
theorem oksE_mem{l:List Ex}{e:Ex}(h:oksE l=true)(he:e∈l):okE e=true:=by
 induction l with
 | nil=>simp at he
 | cons x l ih=>
  simp only[oksE,Bool.and_eq_true]at h
  rcases List.mem_cons.1 he with rfl | he
  ·exact h.1
  ·exact ih h.2 he
theorem oksS_mem{l:List St}{e:St}(h:oksS l=true)(he:e∈l):okS e=true:=by
 induction l with
 | nil=>simp at he
 | cons x l ih=>
  simp only[oksS,Bool.and_eq_true]at h
  rcases List.mem_cons.1 he with rfl | he
  ·exact h.1
  ·exact ih h.2 he
open Go.Abs Go.Abs.S
def Cut(W Y:Bs):Prop:=(Y=W∨16384<Y.length)∧Y.length≤W.length
theorem Cut.app{W Y:Bs}(h:Cut W Y)(z:Bs):Cut (W++z) (Y++z):=by
 refine⟨h.1.imp (fun e=>by rw[e]) fun q=>by rw[lA]; omega,?_⟩
 have:=h.2
 simp only[lA]; omega
theorem Cut.stop{W Y:Bs}(h:Cut W Y)(z:Bs)(hy:16384<Y.length):Cut (W++z) Y:=⟨.inr hy,by have:=h.2; rw[lA]; omega⟩
def Pg(n pg:Nat)(H:AHeap)(W:Bs):Prop:=n≤pg∧pg<H.next∧∃v Y,Row H pg [v]∧AppN 1 0 H v (byts Y) Y.length∧Blk v (fun b=>n≤b∧b≠pg)∧Cut W Y
theorem byts_one'(s:Bs):(byts s).all AVal.one=true:=by
 simp only[byts,List.all_map,List.all_eq_true]; intro x _; rfl
theorem byts_app(a b:Bs):byts (a++b)=byts a++byts b:=by simp[byts]
theorem gput_spec{n pg:Nat}{K:AHeap}{W:Bs}(G:Pg n pg K W)(L:List Bs)(hL:W.length+L.flatten.length≤1000000000)(hL2:L.length≤100) :
  ACalls Tryz.prog natT 119 [cellR pg 1 0,slR K.next L.length (.known L.length)] (K.push (.cells (L.map AVal.str) 0 false)) fun _ H'=>Pg n pg H' (W++L.flatten)∧Ext n K H':=by
 refine acalls_ofN rfl za119 rfl ?_
 obtain⟨g1,g2,v,Y,hr,hv,hb,hc⟩:=G
 obtain⟨H0,hH0⟩:∃H0,H0=K.push (.cells (L.map AVal.str) 0 false):=⟨_,rfl⟩
 have n0:H0.next=K.next+1:=by rw[hH0]; rfl
 have q0:∀c,c<K.next→H0.get c=K.get c:=fun c hc=>by rw[hH0]; exact get_push_lt hc
 have rb:Row H0 K.next (L.map AVal.str):=by rw[hH0]; exact row_push _ _
 have hln:(L.map AVal.str).length=L.length:=List.length_map _
 have hbK:=hv.blk'
 rw[← hH0]
 simp only[c119,sA,sB,seval,row_len]
 refine aw_loop (fun m (T:Env) H'=>∃i v Y',m=L.length-i∧i≤L.length∧T 0=cellR pg 1 0∧T 6=slR K.next L.length (.known L.length)∧T 7=.int .i64 (L.length:Int)∧T 8=.int .i64 (i:Int)∧Row H' K.next (L.map AVal.str)∧Row H' pg [v]∧AppN 1 0 H' v (byts Y') Y'.length∧Blk v (fun b=>n≤b∧b≠pg)∧Blk v (K.next≠·)∧Cut (W++(L.take i).flatten) Y'∧H0.next≤H'.next∧∀c,c<n→H'.get c=K.get c) L.length
  ⟨0,v,Y,rfl,Nat.zero_le _,by simp only[sA,sB,seval],by simp only[sA,sB,seval],by simp only[sA,sB,seval],by simp only[sA,sB,seval]; try rfl,rb,hr.same (q0 pg g2),hv.same om (hbK.mono fun b hb=>q0 b hb),hb,hbK.mono fun b hb=>om,by simpa using hc,Nat.le_refl _,fun c hc=>q0 c om⟩ ?_
 rintro m T H1 ⟨i,v,Y',rfl,hi,t0,t6,t7,t8,rK,rp,A,b1,b2,hC,n1,k1⟩
 by_cases hlt:i<L.length
 case neg=>
  obtain rfl:i=L.length:=om
  have hlt':¬(L.length:Int)<(L.length:Int):=om
  rw[List.take_length]at hC
  simp only[sA,sB,seval,t7,t8,hlt']
  exact⟨[],rfl,⟨g1,om,v,Y',rp,A,b1,hC⟩,om,k1⟩
 have hlt':(i:Int)<(L.length:Int):=om
 obtain⟨x,hx⟩:∃x,L[i]?=some x:=⟨_,List.getElem?_eq_getElem hlt⟩
 have hts:(L.take (i+1)).flatten=(L.take i).flatten++x:=by rw[List.take_add_one,hx]; simp
 have ix:=row_idx (b:=K.next) (n:=L.length) (r:=.known L.length) .i64 hlt
 have lx:oLoad false 1 H1 (cellR K.next L.length i)=some (.str x):=row_load rK hln (by rw[List.getElem?_map,hx]; rfl)
 have lp:oLoad false 1 H1 (cellR pg 1 0)=some v:=row_load rp rfl rfl
 have wi:IntKind.i64.wrap ((i:Int)+1)=((i+1:Nat):Int):=w64
 have hle:(L.take (i+1)).flatten.length≤L.flatten.length:=by
  have:L.flatten=(L.take (i+1)).flatten++(L.drop (i+1)).flatten:=by rw[← List.flatten_append,List.take_append_drop]
  rw[this,lA]; omega
 rw[hts,lA]at hle
 have hC2:=hC.2
 rw[lA]at hC2
 have hs:aSrc 1 H1 (.str x)=some (x.length,byts x):=rfl
 obtain⟨v',H2,a2,A2,n2,b3,k2⟩:=A.many (j:=x.length) hs (by rw[byts_len]; omega) (byts_one' x) om (bytes:=1) om om
 have hpv:Blk v (pg≠·):=b1.mono fun b hb=>om
 obtain⟨H3,m3,r3,n3,k3⟩:=row_st (rp.same (k2 pg om hpv)) (n:=1) rfl (i:=0) om (x:=v') A2.one (l':=[v']) rfl
 have b1':=b3 _ b1
 have b2':=b3 _ b2
 have ne3:Blk v' (·≠pg):=b1'.mono fun b hb=>by
  rcases hb with hb | hb
  ·exact hb.2
  ·intro e; rw[e]at hb; omega
 simp only[sA,sB,seval,t0,t6,t7,t8,hlt',ix,lx,nil_cell,fld0,lp,a2,m3,wi]
 refine⟨L.length-(i+1),om,i+1,v',Y'++x,rfl,om,tt,tt,tt,tt,rK.same (by rw[k3 _ om,k2 _ om b2]),r3,?_,?_,?_,?_,om,fun c hc=>by rw[k3 c om,k2 c om (b1.mono fun b hb=>om),k1 c hc]⟩
 ·rw[byts_app,lA]
  exact A2.same om (ne3.mono fun b hb=>k3 b hb)
 ·refine (b1'.and ne3).mono fun b hb=>⟨?_,hb.2⟩
  rcases hb.1 with h | h
  ·exact h.1
  ·exact Nat.le_trans om h
 ·refine b2'.mono fun b hb=>?_
  rcases hb with h | h
  ·exact h
  ·intro e; rw[← e]at h; omega
 ·rw[hts,← List.append_assoc]; exact hC.app x
theorem gtabs_spec{n pg:Nat}{K:AHeap}{W:Bs}(G:Pg n pg K W)(lev:Nat)(hL:W.length+lev≤1000000000)(hl2:lev≤1000) :
  ACalls Tryz.prog natT 118 [cellR pg 1 0,.int .i64 (lev:Int)] K fun _ H'=>Pg n pg H' (W++tabsF lev)∧Ext n K H':=by
 refine acalls_ofN rfl za118 rfl ?_
 obtain⟨g1,g2,v,Y,hr,hv,hb,hc⟩:=G
 simp only[c118,sA,sB,seval]
 refine aw_loop (fun m (T:Env) H'=>∃i v Y',m=lev-i∧i≤lev∧T 0=cellR pg 1 0∧T 4=.int .i64 (lev:Int)∧T 5=.int .i64 (i:Int)∧Row H' pg [v]∧AppN 1 0 H' v (byts Y') Y'.length∧Blk v (fun b=>n≤b∧b≠pg)∧Cut (W++tabsF i) Y'∧K.next≤H'.next∧∀c,c<n→H'.get c=K.get c) lev
  ⟨0,v,Y,rfl,Nat.zero_le _,by simp only[sA,sB,seval],by simp only[sA,sB,seval]; try rfl,by simp only[sA,sB,seval]; try rfl,hr,hv,hb,by simpa[tabsF] using hc,Nat.le_refl _,fun c hc=>rfl⟩ ?_
 rintro m T H1 ⟨i,v,Y',rfl,hi,t0,t4,t5,rp,A,b1,hC,n1,k1⟩
 by_cases hlt:i<lev
 case neg=>
  obtain rfl:i=lev:=om
  have hlt':¬(i:Int)<(i:Int):=om
  simp only[sA,sB,seval,t4,t5,hlt']
  exact⟨[],rfl,⟨g1,om,v,Y',rp,A,b1,hC⟩,om,k1⟩
 have hlt':(i:Int)<(lev:Int):=om
 have lp:oLoad false 1 H1 (cellR pg 1 0)=some v:=row_load rp rfl rfl
 have wi:IntKind.i64.wrap ((i:Int)+1)=((i+1:Nat):Int):=w64
 have hC2:=hC.2
 rw[lA,tabsF,List.length_replicate]at hC2
 have bs:=build1 (.int .u8 0) H1 (x:=.int .u8 9) rfl
 have n1':(H1.push (.cells [.int .u8 9] 0 false)).next=H1.next+1:=rfl
 have A1:=A.same (H':=H1.push (.cells [.int .u8 9] 0 false)) om (A.blk'.mono fun b hb=>get_push_lt hb)
 obtain⟨v',H2,a2,A2,n2,b3,k2⟩:=A1.many (j:=1) (src1 H1 (.int .u8 9)) (by simp) rfl om (bytes:=1) om om
 have hpv:Blk v (pg≠·):=b1.mono fun b hb=>om
 have kp:∀c,c<H1.next→Blk v (c≠·)→H2.get c=H1.get c:=fun c hc hd=>by rw[k2 c om hd,get_push_lt hc]
 obtain⟨H3,m3,r3,n3,k3⟩:=row_st (rp.same (kp pg om hpv)) (n:=1) rfl (i:=0) om (x:=v') A2.one (l':=[v']) rfl
 have b1':=b3 _ b1
 have ne3:Blk v' (·≠pg):=b1'.mono fun b hb=>by
  rcases hb with hb | hb
  ·exact hb.2
  ·intro e; rw[e]at hb; omega
 have ht:tabsF (i+1)=tabsF i++[9]:=by unfold tabsF; rw[List.replicate_succ']
 have e9:byts Y'++[AVal.int .u8 9]=byts (Y'++[9]):=by rw[byts_app]; rfl
 simp only[sA,sB,seval,t0,t4,t5,hlt',nil_cell,fld0,lp,bs,a2,m3,wi]
 refine⟨lev-(i+1),om,i+1,v',Y'++[9],rfl,om,tt,tt,tt,r3,?_,?_,?_,om,fun c hc=>by rw[k3 c om,kp c om (b1.mono fun b hb=>om),k1 c hc]⟩
 ·rw[← e9,lA]
  exact A2.same om (ne3.mono fun b hb=>k3 b hb)
 ·refine (b1'.and ne3).mono fun b hb=>⟨?_,hb.2⟩
  rcases hb.1 with h | h
  ·exact h.1
  ·exact Nat.le_trans om h
 ·rw[ht,← List.append_assoc]; exact hC.app [9]
open Go.Abs Go.Abs.S
structure Nm(S:Bs):Prop where
 beg:∃c r,S=c::r∧beg c=true
 all:∀c∈S,bgd c=true
 key:keyF S=false
 len:S.length≤16384
theorem beg_not{c:UInt8}(h:beg c=true):dig c=false∧blk c=false∧c.toNat≠35:=by
 simp only[beg,Bool.or_eq_true,Bool.and_eq_true,decide_eq_true_eq]at h
 refine⟨?_,?_,?_⟩
 ·simp only[dig,Bool.and_eq_false_iff,decide_eq_false_iff_not]; omega
 ·simp only[blk,Bool.or_eq_false_iff,decide_eq_false_iff_not]; omega
 ·omega
theorem tw_whole{p:UInt8→Bool}{l:Bs}(h:∀c∈l,p c=true):l.takeWhile p=l:=by
 induction l with
 | nil=>rfl
 | cons a l ih=>rw[List.takeWhile_cons_of_pos (h a (by simp)),ih fun c hc=>h c (by simp[hc])]
theorem Nm.name{S:Bs}(h:Nm S):nameF S=true:=by
 obtain⟨c,r,rfl,hc⟩:=h.beg
 obtain⟨h1,h2,h3⟩:=beg_not hc
 have hs:skipF (c::r) 0=0:=skip_stop (s:=c::r) (i:=0) (c:=c) rfl h2 h3
 have hr:runF bgd (c::r) 0=(c::r).length:=by unfold runF; rw[List.drop_zero,tw_whole h.all]; omega
 have hsub:sub (c::r) 0 (c::r).length=c::r:=by
  unfold sub; rw[List.drop_zero,Nat.sub_zero,List.take_length]
 have ho:oneF (c::r) 0=some ⟨2,c::r,0,(c::r).length⟩:=by
  unfold oneF
  simp only[List.getElem?_cons_zero,h1,Bool.false_eq_true,if_false,hc,if_true,hr,hsub,h.key]
 have hn:nextW (c::r) 0=.ok ⟨2,c::r,0,lineF (c::r) 0,0,(c::r).length⟩:=by
  unfold nextW
  have:=h.len
  rw[if_neg om,if_neg om,hs,if_neg (by simp),ho]
 unfold nameF
 rw[hn]
 simp
theorem next_nm{s:Bs}{p:Nat}{w:Wd}(h:nextW s p=.ok w)(hk:w.k=2):Nm w.S:=by
 have hlen:=(nextW_ok h).1.long
 unfold nextW at h
 rw[if_neg om]at h
 by_cases a2:s.length<p
 ·rw[if_pos a2]at h; simp at h
 rw[if_neg a2]at h
 by_cases a3:skipF s p=s.length
 ·rw[if_pos a3]at h
  simp only[Except.ok.injEq]at h
  subst h
  simp at hk
 rw[if_neg a3]at h
 have hj:=skipF_le s p
 generalize skipF s p=j at *
 cases ho:oneF s j with
 | none=>rw[ho]at h; simp at h
 | some t=>
  rw[ho]at h
  simp only[Except.ok.injEq]at h
  subst h
  simp only at hk ⊢
  unfold oneF at ho
  cases hc:s[j]? with
  | none=>rw[hc]at ho; simp at ho
  | some c=>
   rw[hc]at ho
   simp only at ho
   by_cases hd:dig c=true
   ·rw[if_pos hd]at ho
    split at ho
    ·simp only[sJ]at ho; subst ho; simp at hk
    ·simp at ho
   rw[if_neg hd]at ho
   by_cases hb:beg c=true
   ·rw[if_pos hb]at ho
    simp only[sJ]at ho
    subst ho
    simp only at hk ⊢
    have hkey:keyF (sub s j (runF bgd s j))=false:=by
     cases hh:keyF (sub s j (runF bgd s j)) with
     | false=>rfl
     | true=>rw[hh]at hk; simp at hk
    have hsub:sub s j (runF bgd s j)=(s.drop j).takeWhile bgd:=by
     unfold sub runF
     rw[Nat.add_sub_cancel_left]
     exact (List.prefix_iff_eq_take.1 (List.takeWhile_prefix bgd)).symm
    have hg:bgd c=true:=by simp[bgd,hb]
    rw[hsub]at hkey ⊢
    refine⟨?_,fun d hd=>List.all_eq_true.1 List.all_takeWhile d hd,hkey,?_⟩
    ·rw[drop_some hc,List.takeWhile_cons_of_pos hg]
     exact⟨c,_,rfl,hb⟩
    ·have:=(List.takeWhile_prefix bgd (l:=s.drop j)).length_le
     rw[List.length_drop]at this
     omega
   ·rw[if_neg hb]at ho
    split at ho
    ·simp at ho
    ·simp only[sJ]at ho; subst ho; simp at hk
def TkW(w:Wd):Prop:=w.k=2→nameF w.S=true
theorem step_tk{s:Bs}{w w':Wd}(h:stepW s w=.ok w'):TkW w':=fun hk=>(next_nm h hk).name
theorem take_tk{s c:Bs}{w w':Wd}(h:takeW s c w=.ok w'):TkW w':=by
 unfold takeW at h
 split at h
 ·exact step_tk h
 ·simp at h
def Tel{α:Type}(o:Option (Res α))(P:α→Prop):Prop:=∀a w',o=some (.ok (a,w'))→P a∧TkW w'
theorem tel_onW{α:Type}{o:Except Flt Wd}{f:Wd→Option (Res α)}{P:α→Prop}(h:∀w',o=.ok w'→Tel (f w') P):Tel (onW o f) P:=by
 cases o with
 | error e=>intro a w' q; simp[onW]at q
 | ok w=>exact h w rfl
theorem tel_onR{α β:Type}{o:Option (Res α)}{f:α→Wd→Option (Res β)}{P:α→Prop}{Q:β→Prop}(ho:Tel o P)(h:∀a w',P a→TkW w'→Tel (f a w') Q):Tel (onR o f) Q:=by
 cases o with
 | none=>intro a w' q; simp[onR]at q
 | some o=>
  cases o with
  | error e=>intro a w' q; simp[onR]at q
  | ok p=>obtain⟨a,w⟩:=p; exact h a w (ho a w rfl).1 (ho a w rfl).2
theorem tel_fine{α:Type}{a:α}{w:Wd}{P:α→Prop}(h:P a)(hw:TkW w):Tel (fineR a w) P:=by
 intro a' w' q
 simp only[fineR,sJ,Except.ok.injEq,pJ]at q
 rw[← q.1,← q.2]; exact⟨h,hw⟩
theorem tel_bad{α:Type}{e:Nat}{w:Wd}{P:α→Prop}:Tel (badR (α:=α) e w) P:=by intro a w' q; simp[badR]at q
theorem sgn_mem{w:Wd}{l:List Bs}(h:sgn w l=true):w.S∈l:=by
 simp only[sgn,Bool.and_eq_true]at h
 simpa using h.2
theorem op2{k:Nat}{S:Bs}(hk:1≤k)(hk5:k≤5)(h:S∈lvl k):opF S 2=true:=by
 have key:∀k,1≤k→k≤5→∀S∈lvl k,opF S 2=true:=by
  intro k h1 h5
  match k,h1,h5 with
  | 1,_,_ | 2,_,_ | 3,_,_ | 4,_,_ | 5,_,_=>decide
 exact key k hk hk5 S h
theorem op1{S:Bs}(h:S∈([[45],[33]]:List Bs)):opF S 1=true:=by
 have key:∀S∈([[45],[33]]:List Bs),opF S 1=true:=by decide
 exact key S h
theorem okE_op{S:Bs}{kids:List Ex}(h:opF S kids.length=true)(hk:oksE kids=true):okE (.mk 3 S 0 kids)=true:=by
 simp[okE,partF,h,hk]
theorem okE_call{S:Bs}{kids:List Ex}(h:nameF S=true)(hk:oksE kids=true):okE (.mk 4 S 0 kids)=true:=by
 simp[okE,partF,h,hk]
theorem oksE_snoc{l:List Ex}{e:Ex}(h:oksE l=true)(he:okE e=true):oksE (l++[e])=true:=by
 induction l with
 | nil=>simp[oksE,he]
 | cons x l ih=>simp only[oksE,Bool.and_eq_true]at h; simp only[List.cons_append,oksE,h.1,ih h.2,Bool.and_self]
theorem oksS_snoc{l m:List St}(h:oksS l=true)(he:oksS m=true):oksS (l++m)=true:=by
 induction l with
 | nil=>exact he
 | cons x l ih=>simp only[oksS,Bool.and_eq_true]at h; simp only[List.cons_append,oksS,h.1,ih h.2,Bool.and_self]
def okNT:NT→Prop
 | .rule k=>k≤5
 | .loop k e=>1≤k∧k≤5∧okE e=true
 | .prim=>True
 | .args S out=>nameF S=true∧oksE out=true
theorem tellE(s:Bs):∀(f:Nat) (nt:NT) (g:Nat) (w:Wd),TkW w→okNT nt→Tel (pE s f nt g w) fun e=>okE e=true
 | 0,_,_,_,_,_=>by intro a w' q; simp[pE]at q
 | f+1,nt,g,w,hw,hk=>by
  have ih:=tellE s f
  rw[pE_succ]
  cases nt with
  | rule k=>
   cases k with
   | zero=>
    simp only[stepE]
    split
    ·exact tel_bad
    split
    ·rename_i hs
     refine tel_onW fun w1 h1=>tel_onR (ih (.rule 0) (g+1) w1 (step_tk h1) (by simp only[okNT]; omega)) fun e w2 he hw2=>?_
     exact tel_fine (okE_op (op1 (sgn_mem hs)) (by simp[oksE,he])) hw2
    ·exact ih .prim (g+1) w hw trivial
   | succ k=>
    simp only[stepE]
    simp only[okNT]at hk
    refine tel_onR (ih (.rule k) g w hw (by simp only[okNT]; omega)) fun e w1 he hw1=>?_
    exact ih (.loop (k+1) e) g w1 hw1 ⟨om,hk,he⟩
  | loop k e=>
   simp only[stepE]
   obtain⟨k1,k5,he⟩:=hk
   split
   ·rename_i hs
    refine tel_onW fun w1 h1=>tel_onR (ih (.rule (k-1)) g w1 (step_tk h1) (by simp only[okNT]; omega)) fun r w2 hr hw2=>?_
    have hok:okE (.mk 3 w.S 0 [e,r])=true:=okE_op (op2 k1 k5 (sgn_mem hs)) (by simp[oksE,he,hr])
    split
    ·exact tel_fine hok hw2
    ·exact ih (.loop k _) g w2 hw2 ⟨k1,k5,hok⟩
   ·exact tel_fine he hw
  | prim=>
   simp only[stepE]
   split
   ·refine tel_onW fun w1 h1=>tel_fine ?_ (step_tk h1)
    simp[okE,partF,oksE]
   split
   ·rename_i h2
    refine tel_onW fun w1 h1=>?_
    split
    ·refine tel_onW fun w2 h2'=>?_
     split
     ·exact tel_onW fun w3 h3=>tel_fine (okE_call (hw h2) rfl) (step_tk h3)
     ·exact ih (.args w.S []) g w2 (step_tk h2') ⟨hw h2,rfl⟩
    ·refine tel_fine ?_ (step_tk h1)
     simp[okE,partF,oksE,hw h2]
   split
   ·refine tel_onW fun w1 h1=>tel_onR (ih (.rule 5) g w1 (step_tk h1) (by simp only[okNT]; omega)) fun e w2 he hw2=>?_
    exact tel_onW fun w3 h3=>tel_fine he (take_tk h3)
   ·exact tel_bad
  | args S out=>
   simp only[stepE]
   obtain⟨hS,ho⟩:=hk
   refine tel_onR (ih (.rule 5) g w hw (by simp only[okNT]; omega)) fun e w1 he hw1=>?_
   split
   ·exact tel_onW fun w2 h2=>ih (.args S (out++[e])) g w2 (step_tk h2) ⟨hS,oksE_snoc ho he⟩
   ·exact tel_onW fun w2 h2=>tel_fine (okE_call hS (oksE_snoc ho he)) (take_tk h2)
def okNS:NS→Prop
 | .more out=>oksS out=true
 | _=>True
theorem tellS(s:Bs):∀(f:Nat) (nt:NS) (g:Nat) (w:Wd),TkW w→okNS nt→Tel (pS s f nt g w) fun l=>oksS l=true
 | 0,_,_,_,_,_=>by intro a w' q; simp[pS]at q
 | f+1,nt,g,w,hw,hk=>by
  have ih:=tellS s f
  have pe:∀g w1,TkW w1→Tel (pE s f (.rule 5) g w1) fun e=>okE e=true:=fun g w1 h=>tellE s f (.rule 5) g w1 h (by simp only[okNT]; omega)
  rw[pS_succ]
  have named:∀k line g w1,(k=1∨k=2)→TkW w1→Tel (namedW s (pE s f) k line g w1) fun l=>oksS l=true:=by
   intro k line g w1 hk h1
   unfold namedW
   split
   ·rename_i c
    refine tel_onW fun w2 h2=>tel_onW fun w3 h3=>tel_onR (pe g w3 (take_tk h3)) fun e w4 he hw4=>tel_onW fun w5 h5=>tel_fine ?_ (take_tk h5)
    have:lineF' k w1.S ([]:List St).length ([]:List St).length=true:=by
     unfold lineF'; rw[if_pos hk,h1 c]; rfl
    simp only[oksS,okS,this,he,Bool.and_self]
   ·exact tel_bad
  have asked:∀g w1 F,(∀e l w4,okE e=true→oksS l=true→TkW w4→Tel (F e l w4) fun l=>oksS l=true)→Tel (askedW s (pE s f) (pS s f) g w1 F) fun l=>oksS l=true:=by
   intro g w1 F hF
   unfold askedW
   refine tel_onW fun w2 h2=>tel_onR (pe g w2 (take_tk h2)) fun e w3 he hw3=>tel_onW fun w4 h4=>tel_onR (ih .body g w4 (take_tk h4) trivial) fun l w5 hl hw5=>hF e l w5 he hl hw5
  cases nt with
  | stmt=>
   simp only[stepS]
   split
   ·exact tel_bad
   split
   ·exact tel_onW fun w1 h1=>named _ _ _ w1 (.inl rfl) (step_tk h1)
   split
   ·exact tel_onW fun w1 h1=>named _ _ _ w1 (.inr rfl) (step_tk h1)
   split
   ·refine tel_onW fun w1 h1=>asked _ w1 _ fun e l w2 he hl hw2=>?_
    split
    ·refine tel_onW fun w3 h3=>tel_onR (ih .body _ w3 (step_tk h3) trivial) fun m w4 hm hw4=>tel_fine ?_ hw4
     simp[oksS,okS,he,hl,hm,lineF']
    ·refine tel_fine ?_ hw2
     simp[oksS,okS,he,hl,lineF']
   split
   ·refine tel_onW fun w1 h1=>asked _ w1 _ fun e l w2 he hl hw2=>tel_fine ?_ hw2
    simp[oksS,okS,he,hl,lineF']
   split
   ·refine tel_onW fun w1 h1=>tel_onR (pe _ w1 (step_tk h1)) fun e w2 he hw2=>tel_onW fun w3 h3=>tel_fine ?_ (take_tk h3)
    simp[oksS,okS,he,lineF']
   ·exact tel_bad
  | body=>
   simp only[stepS]
   exact tel_onW fun w1 h1=>ih (.more []) g w1 (take_tk h1) rfl
  | more out=>
   simp only[stepS]
   split
   ·exact tel_onW fun w1 h1=>tel_fine hk (step_tk h1)
   ·exact tel_onR (ih .stmt g w hw trivial) fun x w1 hx hw1=>ih (.more (out++x)) g w1 hw1 (oksS_snoc hk hx)
theorem tellTop(s:Bs):∀(f:Nat) (out:List St) (w:Wd) (l:List St),TkW w→oksS out=true→pTop s f out w=some (.ok l)→oksS l=true
 | 0,_,_,_,_,_,h=>by simp[pTop]at h
 | f+1,out,w,l,hw,ho,h=>by
  unfold pTop at h
  by_cases c:w.k=5
  ·rw[if_pos c]at h
   simp only[sJ,Except.ok.injEq]at h
   subst h; exact ho
  rw[if_neg c]at h
  cases hp:pS s f .stmt 0 w with
  | none=>rw[hp]at h; simp at h
  | some r=>
   rw[hp]at h
   cases r with
   | error e=>simp at h
   | ok p=>
    obtain⟨x,w1⟩:=p
    obtain⟨h1,h2⟩:=tellS s f .stmt 0 w hw trivial x w1 hp
    exact tellTop s f (out++x) w1 l h2 (oksS_snoc ho h1) h
theorem top_right{s:Bs}{w:Wd}{f:Nat}{l:List St}(hn:nextW s 0=.ok w)(hp:pTop s f [] w=some (.ok l)):rightF l=fitsF l:=by
 have:=tellTop s _ [] w l (fun hk=>(next_nm hn hk).name) rfl hp
 unfold rightF
 rw[this]; rfl
open Go.Abs Go.Abs.S
theorem fin_tc{T:Env}{H:AHeap}(g:Bool)(n i j:Nat)(K:AVal→AHeap→Prop):fin [.t i,.cell g n j] K .ret T H=OptP (oLoad g n H (T j)) fun v=>K (.tuple [T i,v]) H:=by
 rw[fin_ret]
 simp only[wRes]
 cases oLoad g n H (T j) with
 | none=>simp[OptP]
 | some v=>simp only[OptP_some]; rfl
theorem ptwo_spec{n pb k b m:Nat}{H:AHeap}{vb:AVal}(hv:Rul n pb H k vb)(hn:n≤H.next)(hpb:pb<n)(hb:Row H b ((lvl (k+1)).map AVal.str))(hm:((lvl (k+1)).map AVal.str).length=m)(hbn:b<H.next)(hbp:b≠pb) :
  ACalls Tryz.prog natT 29 [cellR pb 11 0,vb,.bool (!Nat.beq (k+1) 3),slR b m (.known m)] H fun u H'=>Rul H'.next pb H' (k+1) u∧Ext H.next H H':=by
 refine acalls_ofN rfl za29 rfl ?_
 obtain⟨H1,m1,r1,n1,k1⟩:=row_newL H [cellR pb 11 0] (n:=1) rfl
 have hvo:vb.cells=[vb]:=by
  cases k with
  | zero=>rw[show vb=_ from hv]; rfl
  | succ k=>obtain⟨c0,c1,c2,c3,b,m,vb',rfl,_⟩:=hv; rfl
 obtain⟨H2,m2,r2,n2,k2⟩:=row_newL H1 [vb] (n:=1) rfl
 obtain⟨H3,m3,r3,n3,k3⟩:=row_newL H2 [.bool (!Nat.beq (k+1) 3)] (n:=1) rfl
 obtain⟨H4,m4,r4,n4,k4⟩:=row_newL H3 [slR b m (.known m)] (n:=1) rfl
 have k04:∀c,c<H.next→H4.get c=H.get c:=fun c hc=>by rw[k4 c om,k3 c om,k2 c om,k1 c om]
 have c3:∀x:Bool,(AVal.bool x).cells=[.bool x]:=fun _=>rfl
 have c4:(slR b m (.known m)).cells=[slR b m (.known m)]:=rfl
 simp only[c29,sA,sB,seval,cellR_cells,m1,hvo,m2,c3,m3,c4,m4]
 refine⟨⟨H1.next,H.next,H3.next,H2.next,b,m,vb,tt,r2.same (by rw[k4 _ om,k3 _ om]),r1.same (by rw[k4 _ om,k3 _ om,k2 _ om]),r4,r3.same (k4 _ om),hb.same (k04 b hbn),hm,?_,(hv.keep fun c hc _=>k04 c om).more om⟩,om,k04⟩
 rintro c (rfl | rfl | rfl | rfl | rfl) <;> omega
theorem GS.bound{n m:Nat}{H:AHeap}{v:AVal}{l:List St}(h:GS n H v l)(hn:m≤n):GS m H v l:=by
 obtain⟨C,h1,h2,h3⟩:=h
 exact⟨C,h1,h2.mono fun c hc=>⟨by have:=hc.1; omega,hc.2⟩,h3.mono fun c hc=>⟨⟨⟨by have:=hc.1.1; omega,hc.1.2⟩,hc.2⟩,rfl⟩⟩
theorem pparse_spec(s:Bs){H:AHeap}:ACalls Tryz.prog natT 9 [.str s] H fun u H'=>(match parseF s with
   | .ok l=>∃v C,u=.tuple [v,.agg (flL 0 0)]∧SlK (In H.next H'.next) H' 9 v l.length C∧XSs (In H.next H'.next) H' l C
   | .error e=>u=.tuple [nilS,.agg (flL e.1 e.2)])∧Ext H.next H H':=by
 refine acalls_ofN rfl za9 rfl ?_
 obtain⟨H1,m1,r1,n1,k1⟩:=row_newL H [.int .i64 0,.int .i64 0] (n:=2) rfl
 have bo:aBuild [.str [],.int .u8 0,.str [],.int .i64 0,.int .i64 0,.int .i64 0,.int .i64 0,.int .i64 0,.int .i64 0,.int .i64 0,.nilFunc] [(0,1,.str s)]=some (.agg (pObj s ⟨0,[],0,0,0,0⟩ 0 0 0 .nilFunc)):=rfl
 obtain⟨H2,m2,r2,n2,k2⟩:=row_newL H1 (pObj s ⟨0,[],0,0,0,0⟩ 0 0 0 .nilFunc) (n:=11) rfl
 obtain⟨pb,hpb⟩:∃pb,pb=H1.next:=⟨_,rfl⟩
 rw[← hpb]at m2 r2 k2
 have sg:∀{K:AHeap} (L:List AVal),Ext H2.next H2 K→(Row (K.push (.cells L 0 false)) K.next L∧Ext H2.next H2 (K.push (.cells L 0 false))∧(K.push (.cells L 0 false)).next=K.next+1∧∀k v,Rul K.next pb K k v→Rul K.next pb (K.push (.cells L 0 false)) k v):=fun {K} L E=>
  ⟨row_push _ _,E.push E.next _,rfl,fun k v h=>h.keep fun c hc _=>get_push_lt hc⟩
 have s6:∀K:AHeap,aBuildSl 6 [.str []] K [(0,1,.str [61,61]),(1,1,.str [33,61]),(2,1,.str [60,61]),(3,1,.str [62,61]),(4,1,.str [60]),(5,1,.str [62])]=some (slR K.next 6 (.known 6),K.push (.cells [.str [61,61],.str [33,61],.str [60,61],.str [62,61],.str [60],.str [62]] 0 false)):=fun _=>rfl
 have s1:∀(K:AHeap) (c:Bs),aBuildSl 1 [.str []] K [(0,1,.str c)]=some (slR K.next 1 (.known 1),K.push (.cells [.str c] 0 false)):=fun _ _=>rfl
 have ag:∀l:List AVal,(AVal.agg l).cells=l:=cells_agg
 simp only[c9,sW,sL,sXs,sXO,sXP,sB,seval,m1,bo,ag,m2,sls2]
 obtain⟨p1,E1,e1,u1⟩:=sg [.str [42],.str [47]] (Ext.refl H2.next H2)
 refine (ptwo_spec (k:=0) (b:=H2.next) (m:=2) (u1 0 (.func (.func 30) [cellR pb 11 0] []) rfl) om om p1 rfl om om).mono ?_
 rintro u1 H3 ⟨R3,X3⟩
 have E3:=E1.trans (X3.less (by have:=E1.next; omega))
 generalize H2.push (.cells [.str [42],.str [47]] 0 false)=K1 at *
 simp only[sW,sL,sXs,sXO,sXP,sB,seval,sls2]
 obtain⟨p2,E4,e4,u4⟩:=sg [.str [43],.str [45]] E3
 have x3:=E3.next
 refine (ptwo_spec (k:=1) (b:=H3.next) (m:=2) (u4 1 _ R3) om om p2 rfl om om).mono ?_
 rintro u2 H5 ⟨R5,X5⟩
 have E5:=E4.trans (X5.less (by have:=E4.next; omega))
 simp only[sW,sL,sXs,sXO,sXP,sB,seval,s6]
 obtain⟨p3,E6,e6,u6⟩:=sg [.str [61,61],.str [33,61],.str [60,61],.str [62,61],.str [60],.str [62]] E5
 have x5:=E5.next
 refine (ptwo_spec (k:=2) (b:=H5.next) (m:=6) (u6 2 _ R5) om om p3 rfl om om).mono ?_
 rintro u3 H7 ⟨R7,X7⟩
 have E7:=E6.trans (X7.less (by have:=E6.next; omega))
 simp only[sW,sL,sXs,sXO,sXP,sB,seval,s1]
 obtain⟨p4,E8,e8,u8⟩:=sg [.str [38,38]] E7
 have x7:=E7.next
 refine (ptwo_spec (k:=3) (b:=H7.next) (m:=1) (u8 3 _ R7) om om p4 rfl om om).mono ?_
 rintro u4' H9 ⟨R9,X9⟩
 have E9:=E8.trans (X9.less (by have:=E8.next; omega))
 simp only[sW,sL,sXs,sXO,sXP,sB,seval,s1]
 obtain⟨p5,Ea,ea,ua⟩:=sg [.str [124,124]] E9
 have x9:=E9.next
 refine (ptwo_spec (k:=4) (b:=H9.next) (m:=1) (ua 4 _ R9) om om p5 rfl om om).mono ?_
 rintro orv Hb ⟨Rb,Xb⟩
 have Eb:=Ea.trans (Xb.less (by have:=Ea.next; omega))
 have xb:=Eb.next
 have oo:orv.one=true:=by obtain⟨c0,c1,c2,c3,b,m,vb',rfl,_⟩:=Rb; rfl
 have q2:Row Hb pb (pObj s ⟨0,[],0,0,0,0⟩ 0 0 0 .nilFunc):=r2.same (Eb.old pb om)
 obtain⟨Hc,mc,rc,nc,kc⟩:=row_st q2 (n:=11) rfl (i:=10) om (x:=orv) oo (l':=pObj s ⟨0,[],0,0,0,0⟩ 0 0 0 orv) rfl
 have Rc:Rul Hb.next pb Hc 5 orv:=Rb.keep fun c _ hc=>kc c hc
 have rt:Row Hc H.next [.int .i64 0,.int .i64 0]:=r1.same (by rw[kc _ om,Eb.old _ om,k2 _ om])
 have hold:∀c,c<H.next→Hc.get c=H.get c:=fun c hc=>by rw[kc c om,Eb.old c om,k2 c om,k1 c om]
 simp only[sW,sL,sXs,sXO,sXP,sB,seval,nil_cell,fldA,mc]
 refine (pstep_spec rc om (by simp)).mono ?_
 rintro u Hd ⟨ho,Fd⟩
 have xd:=Fd.next
 have b0:aBuild [.int .i64 0,.int .i64 0] []=some (.agg (flL 0 0)):=rfl
 have bn:aBuild [.int .i64 0,.int .i64 0] [(0,1,.int .i64 102)]=some (.agg (flL 102 0)):=rfl
 have hst:stepW s ⟨0,[],0,0,0,0⟩=nextW s 0:=rfl
 rw[hst]at ho
 cases hn:nextW s 0 with
 | error e=>
  rw[hn]at ho
  obtain⟨rfl,rd⟩:=ho
  have hp:parseF s=.error e:=by unfold parseF; rw[hn]
  have lf:oLoad true 2 Hd (cellR pb 11 8)=some (.agg (flL e.1 e.2)):=row_loadK rd (n:=11) rfl (i:=8) (k:=2) om
  obtain⟨He,me,re,ne,ke⟩:=row_storeN (rt.same (Fd.old _ om om)) (n:=2) rfl (xs:=flL e.1 e.2) rfl rfl
  have le:=row_loadN re (n:=2) rfl
  rw[hp]
  simp only[sA,sB,seval,nil_cell,fldA,lf,me,fin_tc,le,OptP_some]
  exact⟨tt,om,fun c hc=>by rw[ke c om,Fd.old c om om,hold c hc]⟩
 | ok w=>
 rw[hn]at ho
 obtain⟨rfl,rd⟩:=ho
 obtain⟨hw,-,-⟩:=nextW_ok hn
 obtain⟨r,hr⟩:=fuelT_ok hn
 have A:PA Hb.next pb s Hd w 0 0 0 orv:=⟨rd,om,om,Rc.keep fun c hc hp=>Fd.old c om hp,hw,om⟩
 have hfu:fuelT s≤1000000:=by have:=hw.long; unfold fuelT; omega
 have hp:parseF s=match r with
   | .error e=>.error e
   | .ok l=>if fitsF l then .ok l else .error (102,0):=by
  unfold parseF; rw[hn]; simp only[hr]; cases r <;> rfl
 have holdd:∀c,c<H.next→Hd.get c=H.get c:=fun c hc=>by rw[Fd.old c om om,hold c hc]
 have rtd:=rt.same (Fd.old _ om om)
 rw[hp]
 simp only[sW,sL,sXs,sXO,sXP,sB,seval]
 rw[aw_block]
 refine aw_cut (fun (T:Env) H'=>T 3=cellR H.next 2 0∧Row H' H.next [.int .i64 0,.int .i64 0]∧H.next<H'.next∧(∀c,c<H.next→H'.get c=H.get c)∧∃l,r=.ok l∧T 9=T 9∧GS (H.next+1) H' (T 9) l) (calls_mono _ _) ?_ ?_
 rotate_left
 ·rintro T He ⟨t3,re,ne,oe,l,rfl,-,G⟩
  have hrf:=top_right hn hr
  obtain⟨C,z1,z2⟩:=G.sl
  simp only[sA,sB,seval]
  refine (mright_spec (z1.mono fun c hc=>⟨hc.2,rfl⟩) (z2.mono fun c hc=>⟨hc.2,rfl⟩)).mono ?_
  rintro _ Hf ⟨rfl,Ef⟩
  have xf:=Ef.next
  rw[hrf]
  cases hfit:fitsF l with
  | true=>
   obtain⟨Hg,mg,rg,ng,kg⟩:=row_storeN (re.same (Ef.old _ ne)) (n:=2) rfl (xs:=flL 0 0) rfl rfl
   have lg:=row_loadN rg (n:=2) rfl
   have km:∀c,In (H.next+1) He.next c→In H.next Hg.next c∧Hg.get c=He.get c:=fun c hc=>by
    have h1:=hc.1
    have h2:=hc.2
    exact⟨⟨om,om⟩,by rw[kg c om,Ef.old c h2]⟩
   simp only[sA,sB,seval,t3,b0,mg,fin_tc,lg,OptP_some]
   exact⟨⟨_,C,rfl,z1.mono km,z2.mono km⟩,om,fun c hc=>by rw[kg c om,Ef.old c om,oe c hc]⟩
  | false=>
   obtain⟨Hg,mg,rg,ng,kg⟩:=row_storeN (re.same (Ef.old _ ne)) (n:=2) rfl (xs:=flL 102 0) rfl rfl
   have lg:=row_loadN rg (n:=2) rfl
   simp only[sA,sB,seval,t3,bn,mg,fin_tc,lg,OptP_some]
   exact⟨tt,om,fun c hc=>by rw[kg c om,Ef.old c om,oe c hc]⟩
 refine aw_loop (fun m (T:Env) H'=>∃out w' v,T 3=cellR H.next 2 0∧T 4=cellR pb 11 0∧T 9=v∧GS Hd.next H' v out∧out.length+m≤fuelT s∧PA Hb.next pb s H' w' 0 0 0 orv∧Fp pb Hd H'∧pTop s m out w'=some r) (fuelT s)
  ⟨[],w,nilS,by simp only[sA,sB,seval],by simp only[sA,sB,seval],by simp only[sA,sB,seval]; rfl,GS.nil _ _,by simp,A,Fp.refl _ _,hr⟩ ?_
 rintro m T He ⟨out,w',v,t3,t4,t9,G,hm,Ae,Fe,hpt⟩
 have xe:=Fe.next
 have rte:=rtd.same (Fe.old _ om om)
 cases m with
 | zero=>simp[pTop]at hpt
 | succ m=>
 unfold pTop at hpt
 have lk:oLoad false 1 He (cellR pb 11 1)=some (.int .u8 (w'.k:Int)):=row_load Ae.row rfl rfl
 by_cases hk:w'.k=5
 ·rw[if_pos hk]at hpt
  simp only[sJ]at hpt
  subst hpt
  have hk':(w'.k:Int)=5:=om
  simp only[sA,sB,seval,t3,t4,t9,nil_cell,fldA,fld0,lk,hk']
  exact⟨tt,rte,om,fun c hc=>by rw[Fe.old c om om,holdd c hc],out,rfl,tt,G.bound om⟩
 rw[if_neg hk]at hpt
 have hk':¬(w'.k:Int)=5:=om
 obtain⟨r0,hr0⟩:∃r0,pS s m .stmt 0 w'=some r0:=by
  cases hq:pS s m .stmt 0 w' with
  | none=>rw[hq]at hpt; simp at hpt
  | some r=>exact⟨r,rfl⟩
 rw[hr0]at hpt
 simp only[sA,sB,seval,t3,t4,t9,nil_cell,fldA,fld0,lk,hk']
 refine ((allS_ok Hb.next pb s m om m rL).stmt He w' 0 0 0 orv r0 Ae hr0).mono ?_
 rintro u Hf ⟨ho,Ff⟩
 have xf:=Ff.next
 cases r0 with
 | error e=>
  simp only[sJ]at hpt
  subst hpt
  obtain⟨rfl,w2,rf⟩:=ho
  obtain⟨Hg,mg,rg,ng,kg⟩:=row_newL Hf [.int .u8 0,.str [],.int .u8 0,.str [],.int .i64 0,.slice none 0 (.known 0),.slice none 0 (.known 0),.slice none 0 (.known 0),.int .i64 0] (n:=9) rfl
  obtain⟨Hh,mh,rh,nh,kh⟩:=row_storeN rg (n:=9) rfl (xs:=Z9) rfl rfl
  have lf:oLoad true 2 Hh (cellR pb 11 8)=some (.agg (flL e.1 e.2)):=row_loadK (rf.same (by rw[kh _ om,kg _ om])) (n:=11) rfl (i:=8) (k:=2) om
  obtain⟨Hi,mi,ri,ni,ki⟩:=row_storeN (H:=Hh) (rte.same (by rw[kh _ om,kg _ om,Ff.old _ om om])) (n:=2) rfl (xs:=flL e.1 e.2) rfl rfl
  have li:=row_loadN ri (n:=2) rfl
  simp only[sA,sB,seval,ext_0,ext_1,t3,t4,mg,mh,nil_cell,fldA,lf,mi,fin_tc,li,OptP_some]
  exact⟨tt,om,fun c hc=>by rw[ki c om,kh c om,kg c om,Ff.old c om om,Fe.old c om om,holdd c hc]⟩
 | ok p=>
  obtain⟨st',w2⟩:=p
  obtain⟨st,xs,rfl,rfl,hx,rf,of⟩:=ho
  obtain⟨Hg,mg,rg,ng,kg⟩:=row_newL Hf [.int .u8 0,.str [],.int .u8 0,.str [],.int .i64 0,.slice none 0 (.known 0),.slice none 0 (.known 0),.slice none 0 (.known 0),.int .i64 0] (n:=9) rfl
  obtain⟨Hh,mh,rh,nh,kh⟩:=row_storeN rg (n:=9) rfl hx.len hx.one
  have lh:=row_loadN rh hx.len
  have khf:∀c,c<Hf.next→Hh.get c=Hf.get c:=fun c hc=>by rw[kh c om,kg c om]
  have bm:=buildM (z:=[.int .u8 0,.str [],.int .u8 0,.str [],.int .i64 0,.slice none 0 (.known 0),.slice none 0 (.known 0),.slice none 0 (.known 0),.int .i64 0]) (xs:=xs) (m:=9) Hh rfl hx.len
  have hbs:Blk v (In Hd.next He.next):=by
   obtain⟨C,_,q,_⟩:=G
   exact q
  have Gh:GS Hd.next Hh v out:=G.keep om fun c hc=>by
   have h1:=hc.1
   have h2:=hc.2
   rw[khf c om,Ff.old c h2 om]
  have hxh:XS (In He.next Hh.next) Hh st xs:=hx.mono fun c hc=>⟨⟨hc.1,by have:=hc.2; omega⟩,khf c hc.2⟩
  obtain⟨v',Hi,ai,Gi,ni,ki⟩:=Gh.push hxh om om (hbs.mono fun c hc=>hc.2) om (bytes:=136) om om
  have bpb:Blk v (pb≠·):=hbs.mono fun c hc=>by have:=hc.1; omega
  have Fi:Fp pb Hd Hi:=⟨om,fun c hc hp=>by
   rw[ki c om (hbs.mono fun d hd=>by have:=hd.1; omega),khf c om,Ff.old c om hp,Fe.old c hc hp]⟩
  simp only[sA,sB,seval,ext_0,ext_1,t3,t4,t9,mg,mh,lh,bm,ai]
  refine⟨m,om,out++[st],w2,v',by simp only[sA,sB,seval,t3],by simp only[sA,sB,seval,t4],by simp only[sA,sB,seval],Gi,by simp; omega,?_,Fi,hpt⟩
  refine⟨rf.same (by rw[ki pb om bpb,khf pb om]),om,om,A.or.keep fun c hc hp=>Fi.old c om hp,of,om⟩
open Go.Abs Go.Abs.S
theorem sl1(K:AHeap)(c:Bs):aBuildSl 1 [.str []] K [(0,1,.str c)]=some (slR K.next 1 (.known 1),K.push (.cells [.str c] 0 false)):=_root_.id rfl
theorem sl3(K:AHeap)(a b c:Bs):aBuildSl 3 [.str []] K [(0,1,.str a),(1,1,.str b),(2,1,.str c)]=some (slR K.next 3 (.known 3),K.push (.cells [.str a,.str b,.str c] 0 false)):=_root_.id rfl
structure Pge(n pg:Nat)(H:AHeap)(W:Bs):Prop where
 pg:Pg n pg H W
 n1:1<n
 glo:Glo H 1 powL
theorem Pge.lt{n pg:Nat}{H:AHeap}{W:Bs}(h:Pge n pg H W):n≤H.next:=by
 obtain⟨h1,h2,_⟩:=h.pg; omega
theorem Pge.fwd{n pg:Nat}{H H':AHeap}{W W':Bs}(h:Pge n pg H W)(e:Ext n H H')(g:Pg n pg H' W'):Pge n pg H' W':=⟨g,h.n1,by unfold Glo; rw[e.old 1 h.n1]; exact h.glo⟩
theorem put1{n pg:Nat}{K:AHeap}{W:Bs}(G:Pge n pg K W)(a:Bs)(hL:W.length+a.length≤1000000000):ACalls Tryz.prog natT 119 [cellR pg 1 0,slR K.next 1 (.known 1)] (K.push (.cells [.str a] 0 false)) fun _ H'=>Pge n pg H' (W++a)∧Ext n K H':=by
 refine (gput_spec G.pg [a] (by simpa using hL) (by simp)).mono ?_
 rintro _ H' ⟨g,e⟩
 exact⟨G.fwd e (by simpa using g),e⟩
theorem put2{n pg:Nat}{K:AHeap}{W:Bs}(G:Pge n pg K W)(a b:Bs)(hL:W.length+(a.length+b.length)≤1000000000):ACalls Tryz.prog natT 119 [cellR pg 1 0,slR K.next 2 (.known 2)] (K.push (.cells [.str a,.str b] 0 false)) fun _ H'=>Pge n pg H' (W++(a++b))∧Ext n K H':=by
 refine (gput_spec G.pg [a,b] (by simpa using hL) (by simp)).mono ?_
 rintro _ H' ⟨g,e⟩
 exact⟨G.fwd e (by simpa using g),e⟩
theorem put3{n pg:Nat}{K:AHeap}{W:Bs}(G:Pge n pg K W)(a b c:Bs)(hL:W.length+(a.length+(b.length+c.length))≤1000000000):ACalls Tryz.prog natT 119 [cellR pg 1 0,slR K.next 3 (.known 3)] (K.push (.cells [.str a,.str b,.str c] 0 false)) fun _ H'=>Pge n pg H' (W++(a++(b++c)))∧Ext n K H':=by
 refine (gput_spec G.pg [a,b,c] (by simpa using hL) (by simp)).mono ?_
 rintro _ H' ⟨g,e⟩
 exact⟨G.fwd e (by simpa using g),e⟩
def ExG(n pg N:Nat):Prop:=∀(e:Ex) (c:List AVal) (H:AHeap) (p:AVal) (W:Bs),e.size≤N→okE e=true→rngE e=true→PtC H p c→(∀a,p=.ptr (some a)→a.b<n)→XE (·<n) H e c→Pge n pg H W→W.length+(showE e).length≤1000000000 →
  ACalls Tryz.prog natT 120 [cellR pg 1 0,p] H fun _ H'=>Pge n pg H' (W++showE e)∧Ext n H H'
def KiG(n pg N:Nat):Prop:=∀(e:Ex) (c:List AVal) (H:AHeap) (p:AVal) (W:Bs),e.size≤N→okE e=true→rngE e=true→PtC H p c→(∀a,p=.ptr (some a)→a.b<n)→XE (·<n) H e c→Pge n pg H W→W.length+(showK e).length≤1000000000 →
  ACalls Tryz.prog natT 163 [cellR pg 1 0,p] H fun _ H'=>Pge n pg H' (W++showK e)∧Ext n H H'
theorem PtC.ext{n:Nat}{H H':AHeap}{p:AVal}{c:List AVal}(h:PtC H p c)(e:Ext n H H')(hp:∀a,p=.ptr (some a)→a.b<n):PtC H' p c:=h.same fun a ea=>e.old _ (hp a ea)
theorem XE.ext{n:Nat}{H H':AHeap}{e:Ex}{c:List AVal}(h:XE (·<n) H e c)(q:Ext n H H'):XE (·<n) H' e c:=h.mono fun b hb=>⟨hb,q.old b hb⟩
theorem kiG{n pg N:Nat}(ih:ExG n pg N):KiG n pg N:=by
 rintro ⟨k,s,z,kids⟩ c H p W h ho hr hp hpb hx G hL
 refine acalls_ofN rfl za163 rfl ?_
 obtain⟨v,C,hc,z1,z2⟩:=id hx
 subst hc
 have p0:=hp.load0 (x:=.int .u8 (k:Int)) rfl
 have q0:=hp.fld0
 have qc:=hp.chk
 unfold showK at hL ⊢
 by_cases hk:k=3
 ·have hk':(k:Int)=3:=om
  have e3:(Ex.mk k s z kids).kind=3:=hk
  rw[if_pos e3]at hL ⊢
  have hl:(40::(showE (Ex.mk k s z kids)++[41])).length=(showE (Ex.mk k s z kids)).length+2:=by simp
  rw[hl]at hL
  simp only[c163,sA,sB,seval,qc,q0,p0,hk',sl1]
  refine (put1 G [40] (by simp; omega)).mono ?_
  rintro _ H1 ⟨G1,E1⟩
  simp only[sA,sB,seval]
  refine (ih _ _ H1 p (W++[40]) h ho hr (hp.ext E1 hpb) hpb (hx.ext E1) G1 (by simp; omega)).mono ?_
  rintro _ H2 ⟨G2,E2⟩
  simp only[sA,sB,seval,sl1]
  refine (put1 G2 [41] (by simp; omega)).mono ?_
  rintro _ H3 ⟨G3,E3⟩
  simp only[sA,sB,seval]
  refine⟨[],rfl,?_,(E1.trans E2).trans E3⟩
  simpa using G3
 ·have hk':¬(k:Int)=3:=om
  have e3:¬(Ex.mk k s z kids).kind=3:=hk
  rw[if_neg e3]at hL ⊢
  simp only[c163,sA,sB,seval,qc,q0,p0,hk']
  refine (ih _ _ H p W h ho hr hp hpb hx G hL).mono ?_
  rintro _ H1 ⟨G1,E1⟩
  simp only[sA,sB,seval]
  exact⟨[],rfl,G1,E1⟩
theorem commaF_take_le(ts:List Bs)(i:Nat):(commaF (ts.take i)).length≤(commaF ts).length:=by
 have h:=List.take_append_drop i ts
 generalize ts.take i=a at *
 generalize ts.drop i=b at *
 subst h
 cases a with
 | nil=>simp[commaF]
 | cons x a=>simp[commaF]
theorem sizeE_pos'(e:Ex):1≤e.size:=by cases e; simp only[Ex.size]; omega
theorem commaF_len(ts:List Bs):ts.length≤(commaF ts).length+1:=by
 cases ts with
 | nil=>simp
 | cons a l=>
  have h2:(commaF (a::l)).length=a.length+(l.flatMap fun t:Bs=>44::32::t).length:=by rw[commaF,lA]
  rw[h2]
  clear h2
  have:l.length≤(l.flatMap fun t:Bs=>44::32::t).length:=by
   induction l with
   | nil=>simp
   | cons b l ih=>simp only[List.flatMap_cons,lA,List.length_cons]; omega
  simp only[List.length_cons]; omega
theorem exG0(n pg:Nat):ExG n pg 0:=by
 intro e c H p W h
 have:=sizeE_pos' e
 omega
theorem exG{n pg N:Nat}(ih:KiG n pg N):ExG n pg (N+1):=by
 rintro ⟨k,s,z,kids⟩ c H p W h ho hr hp hpb hx G hL
 refine acalls_ofN rfl za120 rfl ?_
 obtain⟨v,C,hc,z1,z2⟩:=id hx
 subst hc
 have hsz:(Ex.mk k s z kids).size=sizesE kids+1:=rfl
 have p0:=hp.load0 (x:=.int .u8 (k:Int)) rfl
 have p1:=hp.load (o:=1) (x:=.str s) rfl
 have p2:=hp.load (o:=2) (x:=.int .i64 z) rfl
 have p3:=hp.load (o:=3) (x:=v) rfl
 have q0:=hp.fld0
 have q1:=hp.fld 1
 have q2:=hp.fld 2
 have q3:=hp.fld 3
 have qc:=hp.chk
 have ln:=z1.len
 have hG:=G.lt
 have hsh:showE (Ex.mk k s z kids)=shapeE k s z (kids.map showK):=by rw[showE,showKs_map]
 rw[hsh]at hL ⊢
 have hok:partF k s z kids.length=true∧oksE kids=true:=by simpa only [okE,Bool.and_eq_true] using ho
 have hrg:(-9223372036854775808≤z∧z≤9223372036854775807)∧rngEs kids=true:=by simpa only [rngE,Bool.and_eq_true,decide_eq_true_eq] using hr
 obtain⟨Q,hQ⟩:∃Q:AVal→AHeap→Prop,Q=fun _ H'=>Pge n pg H' (W++shapeE k s z (kids.map showK))∧Ext n H H':=⟨_,rfl⟩
 rw[← hQ]
 have tm:∀{K:AHeap},Ext n H K→SlK (·<n) K 4 v kids.length C∧XEs (·<n) K kids C∧PtC K p _:=fun q=>⟨z1.mono fun b hb=>⟨hb,q.old b hb⟩,z2.mono fun b hb=>⟨hb,q.old b hb⟩,hp.ext q hpb⟩
 by_cases k1:k=1
 ·have i1:(k:Int)=1:=om
  have e:shapeE k s z (kids.map showK)=numeralF z:=by unfold shapeE; rw[if_pos k1]
  rw[e]at hQ hL
  simp only[c120,sA,sB,seval,qc,q0,q2,p0,p2,i1]
  refine (said_spec nwoT.str rfl hrg.1.1 hrg.1.2 (by have:=G.n1; omega) G.glo).mono ?_
  rintro _ H1 ⟨rfl,E1⟩
  have E1':=E1.less hG
  have G1:Pge n pg H1 W:=G.fwd E1' (by
   obtain⟨a1,a2,v,Y,b1,b2,b3,b4⟩:=G.pg
   exact⟨a1,by have:=E1.next; omega,v,Y,b1.same (E1.old _ a2),b2.same E1.next (b2.blk'.mono fun b hb=>E1.old b hb),b3,b4⟩)
  simp only[sA,sB,seval,sl1]
  refine (put1 G1 (numeralF z) hL).mono ?_
  rintro _ H2 ⟨G2,E2⟩
  simp only[sA,sB,seval,hQ]
  exact⟨[],rfl,G2,E1'.trans E2⟩
 have i1:¬(k:Int)=1:=om
 by_cases k2:k=2
 ·have i2:(k:Int)=2:=om
  have e:shapeE k s z (kids.map showK)=s:=by unfold shapeE; rw[if_neg k1,if_pos k2]
  rw[e]at hQ hL
  simp only[c120,sA,sB,seval,qc,q0,q1,p0,p1,i1,i2,sl1]
  refine (put1 G s hL).mono ?_
  rintro _ H2 ⟨G2,E2⟩
  simp only[sA,sB,seval,hQ]
  exact⟨[],rfl,G2,E2⟩
 have i2:¬(k:Int)=2:=om
 by_cases k4:k=4
 ·have i4:(k:Int)=4:=om
  have e:shapeE k s z (kids.map showK)=s++40::(commaF (kids.map showK)++[41]):=by unfold shapeE; rw[if_neg k1,if_neg k2,if_pos k4]
  rw[e]at hQ hL
  simp only[lA,List.length_cons,List.length_nil]at hL
  simp only[c120,sA,sB,seval,qc,q0,q1,p0,p1,i1,i2,i4,sls2]
  refine (put2 G s [40] (by simp; omega)).mono ?_
  rintro _ H1 ⟨G1,E1⟩
  obtain⟨_,_,pp1⟩:=tm E1
  have p31:=pp1.load (o:=3) (x:=v) rfl
  simp only[sA,sB,seval,qc,q3,p31,ln]
  refine aw_loop (fun m (T:Env) K=>∃i,m=kids.length-i∧i≤kids.length∧T 0=cellR pg 1 0∧T 1=p∧T 41=.int .i64 (kids.length:Int)∧T 42=.int .i64 (i:Int)∧Pge n pg K (W++(s++40::commaF ((kids.map showK).take i)))∧Ext n H K) kids.length
   ⟨0,rfl,Nat.zero_le _,by simp only[sA,sB,seval],by simp only[sA,sB,seval],by simp only[sA,sB,seval],by simp only[sA,sB,seval]; try rfl,by simpa[commaF] using G1,E1⟩ ?_
  rintro m T K ⟨i,rfl,hi,t0,t1,t41,t42,GK,EK⟩
  by_cases hlt:i<kids.length
  case neg=>
   obtain rfl:i=kids.length:=om
   have hlt':¬(kids.length:Int)<(kids.length:Int):=om
   rw[List.take_of_length_le (by simp)]at GK
   simp only[sA,sB,seval,t0,t1,t41,t42,hlt',sl1]
   refine (put1 GK [41] (by simp; omega)).mono ?_
   rintro _ H2 ⟨G2,E2⟩
   simp only[sA,sB,seval,hQ]
   exact⟨[],rfl,by simpa using G2,EK.trans E2⟩
  have hlt':(i:Int)<(kids.length:Int):=om
  obtain⟨x,hx'⟩:∃x,kids[i]?=some x:=⟨_,List.getElem?_eq_getElem hlt⟩
  have hmem:=List.mem_of_getElem? hx'
  have hsm:=size_mem hmem
  have hts:(kids.map showK).take (i+1)=(kids.map showK).take i++[showK x]:=by rw[List.take_add_one,List.getElem?_map,hx']; rfl
  have hle:=commaF_take_le (kids.map showK) (i+1)
  rw[hts,commaF_snoc,lA]at hle
  have wi:IntKind.i64.wrap ((i:Int)+1)=((i+1:Nat):Int):=by
   have:=commaF_len (kids.map showK)
   rw[List.length_map]at this
   rw[IntKind.wrap_i64]; omega
  obtain⟨zz1,zz2,ppK⟩:=tm EK
  have p3K:=ppK.load (o:=3) (x:=v) rfl
  have rest:∀(K2:AHeap) (W2:Bs),Pge n pg K2 W2→Ext n H K2→W2++showK x=W++(s++40::commaF ((kids.map showK).take (i+1)))→∃a,aIdxA 4 v (.int .i64 (i:Int))=some a∧oLoad false 1 K2 (fp p 3)=some v∧ACalls Tryz.prog natT 163 [cellR pg 1 0,a] K2 fun _ K3=>Pge n pg K3 (W++(s++40::commaF ((kids.map showK).take (i+1))))∧Ext n H K3:=by
   intro K2 W2 G2 E2 hW
   obtain⟨y1,y2,pp2⟩:=tm E2
   refine⟨_,y1.idx hlt,pp2.load (o:=3) (x:=v) rfl,?_⟩
   have hl:W2.length+(showK x).length≤1000000000:=by
    have:=congrArg List.length hW
    simp only[lA,List.length_cons]at this
    rw[hts,commaF_snoc,lA]at this
    omega
   refine (ih x _ K2 _ W2 om (oksE_mem hok.2 hmem) (rngEs_mem hrg.2 hmem) (y1.pt hlt) (fun a ea=>y1.blk hlt a ea) (y2.at hx') G2 hl).mono ?_
   rintro _ K3 ⟨G3,E3⟩
   rw[hW]at G3
   exact⟨G3,E2.trans E3⟩
  by_cases h0:i=0
  ·have h0':¬(0:Int)<(i:Int):=om
   obtain⟨a,a1,a2,a3⟩:=rest K _ GK EK (by subst h0; rw[hts]; simp[commaF])
   simp only[sA,sB,seval,t0,t1,t41,t42,hlt',h0',qc,q3,a2,a1]
   refine a3.mono ?_
   rintro _ K3 ⟨G3,E3⟩
   simp only[sA,sB,seval,t0,t1,t41,t42,wi]
   exact⟨kids.length-(i+1),om,i+1,rfl,om,tt,tt,tt,tt,G3,E3⟩
  ·have h0':(0:Int)<(i:Int):=om
   simp only[sA,sB,seval,t0,t1,t41,t42,hlt',h0',sl1]
   have htk:¬((kids.map showK).take i).isEmpty=true:=fun q=>by
    have:=congrArg List.length (List.isEmpty_iff.1 q)
    rw[List.length_take,List.length_map,List.length_nil]at this
    omega
   rw[if_neg htk]at hle
   refine (put1 GK [44,32] (by simp only[lA,List.length_cons,List.length_nil]at hle ⊢; omega)).mono ?_
   rintro _ K2 ⟨G2,E2⟩
   obtain⟨a,a1,a2,a3⟩:=rest K2 _ G2 (EK.trans E2) (by rw[hts,commaF_snoc,if_neg htk]; simp)
   simp only[sA,sB,seval,t0,t1,t41,t42,qc,q3,a2,a1]
   refine a3.mono ?_
   rintro _ K3 ⟨G3,E3⟩
   simp only[sA,sB,seval,t0,t1,t41,t42,wi]
   exact⟨kids.length-(i+1),om,i+1,rfl,om,tt,tt,tt,tt,G3,E3⟩
 have i4:¬(k:Int)=4:=om
 by_cases k3:k=3
 case neg=>
  have:partF k s z kids.length=false:=by unfold partF; rw[if_neg k1,if_neg k2,if_neg k3,if_neg k4]
  rw[this]at hok
  exact absurd hok.1 (by simp)
 have i3:(k:Int)=3:=om
 have hop:opF s kids.length=true:=by
  have:=hok.1
  unfold partF at this
  rw[if_neg k1,if_neg k2,if_pos k3]at this
  simp only[Bool.and_eq_true]at this
  exact this.2
 have hcase:kids.length=1∨kids.length=2:=by
  unfold opF at hop
  split at hop
  ·left; assumption
  ·right; assumption
  ·simp at hop
 rcases hcase with h1 | h2
 ·obtain⟨x,hkx⟩:∃x,kids=[x]:=List.length_eq_one_iff.1 h1
  have hk0:kids[0]?=some x:=by rw[hkx]; rfl
  have hm:=List.mem_of_getElem? hk0
  have e:shapeE k s z (kids.map showK)=s++32::showK x:=by rw[hkx]; unfold shapeE; rw[if_neg k1,if_neg k2,if_neg k4]; rfl
  rw[e]at hQ hL
  simp only[lA,List.length_cons]at hL
  have n2:¬(kids.length:Int)=2:=om
  have n1:IntKind.i64.wrap ((kids.length:Int)-1)=0:=by rw[h1]; rfl
  simp only[c120,sA,sB,seval,qc,q0,q1,q3,p0,p1,p3,i1,i2,i4,i3,ln,n2,sls2]
  refine (put2 G s [32] (by simp; omega)).mono ?_
  rintro _ H1 ⟨G1,E1⟩
  obtain⟨y1,y2,pp1⟩:=tm E1
  have p31:=pp1.load (o:=3) (x:=v) rfl
  have ix:aIdxA 4 v (.int .i64 0)=some (placeK 4 v 0):=y1.idx (i:=0) om
  simp only[sA,sB,seval,qc,q3,p31,ln,n1,ix]
  have hsm:=size_mem hm
  refine (ih x _ H1 _ _ om (oksE_mem hok.2 hm) (rngEs_mem hrg.2 hm) (y1.pt om) (fun a ea=>y1.blk om a ea) (y2.at (i:=0) hk0) G1 (by simp; omega)).mono ?_
  rintro _ H2 ⟨G2,E2⟩
  simp only[sA,sB,seval,hQ]
  exact⟨[],rfl,by simpa using G2,E1.trans E2⟩
 ·obtain⟨x,y,hkx⟩:∃x y,kids=[x,y]:=by
   match kids,h2 with
   | [x,y],_=>exact⟨x,y,rfl⟩
  have hk0:kids[0]?=some x:=by rw[hkx]; rfl
  have hk1:kids[1]?=some y:=by rw[hkx]; rfl
  have hm0:=List.mem_of_getElem? hk0
  have hm1:=List.mem_of_getElem? hk1
  have e:shapeE k s z (kids.map showK)=showK x++32::(s++32::showK y):=by rw[hkx]; unfold shapeE; rw[if_neg k1,if_neg k2,if_neg k4]; rfl
  rw[e]at hQ hL
  simp only[lA,List.length_cons]at hL
  have n2:(kids.length:Int)=2:=om
  have n1:IntKind.i64.wrap ((2:Int)-1)=1:=rfl
  have n1':IntKind.i64.wrap 1=1:=rfl
  have ix0:aIdxA 4 v (.int .i64 0)=some (placeK 4 v 0):=z1.idx (i:=0) om
  have hsx:=size_mem hm0
  have hsy:=size_mem hm1
  simp only[c120,sA,sB,seval,qc,q0,q1,q3,p0,p1,p3,i1,i2,i4,i3,ln,n2,ix0]
  refine (ih x _ H _ _ om (oksE_mem hok.2 hm0) (rngEs_mem hrg.2 hm0) (z1.pt om) (fun a ea=>z1.blk om a ea) (z2.at (i:=0) hk0) G om).mono ?_
  rintro _ H1 ⟨G1,E1⟩
  simp only[sA,sB,seval,sl1]
  refine (put1 G1 [32] (by simp; omega)).mono ?_
  rintro _ H2 ⟨G2,E2⟩
  have E02:=E1.trans E2
  obtain⟨y1,y2,pp2⟩:=tm E02
  have p12:=pp2.load (o:=1) (x:=.str s) rfl
  simp only[sA,sB,seval,qc,q1,p12,sls2]
  refine (put2 G2 s [32] (by simp; omega)).mono ?_
  rintro _ H3 ⟨G3,E3⟩
  have E03:=E02.trans E3
  obtain⟨x1,x2,pp3⟩:=tm E03
  have p33:=pp3.load (o:=3) (x:=v) rfl
  have ix1:aIdxA 4 v (.int .i64 1)=some (placeK 4 v 1):=x1.idx (i:=1) om
  simp only[sA,sB,seval,qc,q3,p33,ln,n2,n1,n1',ix1]
  refine (ih y _ H3 _ _ om (oksE_mem hok.2 hm1) (rngEs_mem hrg.2 hm1) (x1.pt om) (fun a ea=>x1.blk om a ea) (x2.at (i:=1) hk1) G3 (by simp; omega)).mono ?_
  rintro _ H4 ⟨G4,E4⟩
  simp only[sA,sB,seval,hQ]
  exact⟨[],rfl,by simpa using G4,E03.trans E4⟩
theorem exG_all(n pg:Nat):∀N,ExG n pg N
 | 0=>exG0 n pg
 | N+1=>exG (kiG (exG_all n pg N))
open Go.Abs Go.Abs.S
def StG(n pg N:Nat):Prop:=∀(st:St) (c:List AVal) (H:AHeap) (p:AVal) (W:Bs) (lev:Nat),st.size≤N→okS st=true→rngS st=true→PtC H p c→(∀a,p=.ptr (some a)→a.b<n)→XS (·<n) H st c→Pge n pg H W→W.length+(showS lev st).length≤1000000000→lev+st.deep≤1000 →
  ACalls Tryz.prog natT 82 [cellR pg 1 0,p,.int .i64 (lev:Int)] H fun _ H'=>Pge n pg H' (W++showS lev st)∧Ext n H H'
def LiG(n pg N:Nat):Prop:=∀(l:List St) (C:List AVal) (H:AHeap) (v:AVal) (W:Bs) (lev:Nat),sizesS l≤N→oksS l=true→rngSs l=true→SlK (·<n) H 9 v l.length C→XSs (·<n) H l C→Pge n pg H W→W.length+(showSs lev l).length≤1000000000→lev+deepsS l≤1000 →
  ACalls Tryz.prog natT 37 [cellR pg 1 0,v,.int .i64 (lev:Int)] H fun _ H'=>Pge n pg H' (W++showSs lev l)∧Ext n H H'
theorem deep_memS{e:St}:∀{l:List St},e∈l→e.deep≤deepsS l
 | [],h=>by simp at h
 | x::l,h=>by
  simp only[deepsS]
  rcases List.mem_cons.1 h with rfl | h
  ·omega
  ·have:=deep_memS h; omega
theorem showSs_len(lev:Nat)(l:List St):l.length≤(showSs lev l).length:=by
 induction l with
 | nil=>simp
 | cons x l ih=>
  have:1≤(showS lev x).length:=by
   cases x
   rename_i k s e b el ln
   simp only[showS,shapeS]
   split
   ·simp; omega
   split
   ·simp; omega
   split
   ·simp; omega
   ·simp; omega
  simp only[showSs,lA,List.length_cons]; omega
theorem liG{n pg N:Nat}(ih:StG n pg N):LiG n pg N:=by
 intro l C H v W lev h ho hr z1 z2 G hL hd
 refine acalls_ofN rfl za37 rfl ?_
 have ln:=z1.len
 have hlen:=showSs_len lev l
 simp only[c37,sA,sB,seval,ln]
 refine aw_loop (fun m (T:Env) K=>∃i,m=l.length-i∧i≤l.length∧T 0=cellR pg 1 0∧T 1=v∧T 2=.int .i64 (lev:Int)∧T 8=.int .i64 (l.length:Int)∧T 9=.int .i64 (i:Int)∧Pge n pg K (W++showSs lev (l.take i))∧Ext n H K) l.length
  ⟨0,rfl,Nat.zero_le _,by simp only[sA,sB,seval],by simp only[sA,sB,seval],by simp only[sA,sB,seval],by simp only[sA,sB,seval],by simp only[sA,sB,seval]; try rfl,by simpa[showSs] using G,Ext.refl _ _⟩ ?_
 rintro m T K ⟨i,rfl,hi,t0,t1,t2,t8,t9,GK,EK⟩
 by_cases hlt:i<l.length
 case neg=>
  obtain rfl:i=l.length:=om
  have hlt':¬(l.length:Int)<(l.length:Int):=om
  rw[List.take_length]at GK
  simp only[sA,sB,seval,t0,t1,t2,t8,t9,hlt']
  exact⟨[],rfl,GK,EK⟩
 have hlt':(i:Int)<(l.length:Int):=om
 obtain⟨x,hx'⟩:∃x,l[i]?=some x:=⟨_,List.getElem?_eq_getElem hlt⟩
 have hmem:=List.mem_of_getElem? hx'
 have hsm:=size_memS hmem
 have hdm:=deep_memS hmem
 have hts:l.take (i+1)=l.take i++[x]:=by rw[List.take_add_one,hx']; rfl
 have hall:showSs lev l=showSs lev (l.take i)++showSs lev (l.drop i):=by rw[← showSs_app,List.take_append_drop]
 have hall2:showSs lev l=showSs lev (l.take (i+1))++showSs lev (l.drop (i+1)):=by rw[← showSs_app,List.take_append_drop]
 have hs1:showSs lev (l.take (i+1))=showSs lev (l.take i)++showS lev x:=by rw[hts,showSs_app]; simp[showSs]
 have hl2:=congrArg List.length hall2
 rw[hs1,lA,lA]at hl2
 have wi:IntKind.i64.wrap ((i:Int)+1)=((i+1:Nat):Int):=w64
 obtain⟨g1,g2,v',Y,hrp,hv,hb,hc⟩:=id GK.pg
 have lp:oLoad false 1 K (cellR pg 1 0)=some v':=row_load hrp rfl rfl
 have lY:=hv.len
 by_cases hy:16384<Y.length
 ·have hy':(16384:Int)<(Y.length:Int):=om
  simp only[sA,sB,seval,t0,t1,t2,t8,t9,hlt',nil_cell,fld0,lp,lY,hy']
  refine⟨[],rfl,⟨⟨g1,g2,v',Y,hrp,hv,hb,?_⟩,GK.n1,GK.glo⟩,EK⟩
  rw[hall,← List.append_assoc]
  exact hc.stop _ hy
 have hy':¬(16384:Int)<(Y.length:Int):=om
 have y1:=z1.mono (H':=K) fun b hb=>⟨hb,EK.old b hb⟩
 have y2:=z2.mono (H':=K) fun b hb=>⟨hb,EK.old b hb⟩
 have ix:=y1.idx hlt
 simp only[sA,sB,seval,t0,t1,t2,t8,t9,hlt',nil_cell,fld0,lp,lY,hy',ix]
 refine (ih x _ K _ _ lev om (oksS_mem ho hmem) (rngSs_mem hr hmem) (y1.pt hlt) (fun a ea=>y1.blk hlt a ea) (y2.at hx') GK (by rw[lA]; omega) om).mono ?_
 rintro _ K2 ⟨G2,E2⟩
 simp only[sA,sB,seval,t0,t1,t2,t8,t9,wi]
 refine⟨l.length-(i+1),om,i+1,rfl,om,tt,tt,tt,tt,tt,?_,EK.trans E2⟩
 rw[hs1,← List.append_assoc]; exact G2
theorem stG{n pg N:Nat}(ih:LiG n pg N):StG n pg (N+1):=by
 rintro ⟨k,s,e,body,els,line⟩ c H p W lev h ho hr hp hpb hx G hL hd
 refine acalls_ofN rfl za82 rfl ?_
 have hsz:(St.mk k s e body els line).size=e.size+sizesS body+sizesS els+1:=rfl
 have hdp:(St.mk k s e body els line).deep=max e.deep (max (deepsS body) (deepsS els))+1:=rfl
 obtain⟨ce,vb,Cb,ve,Ce,hc,x1,z1,z2,y1,y2⟩:=hx
 subst hc
 obtain⟨c0,c1,c2,c3,rfl⟩:∃a b c d,ce=[a,b,c,d]:=by
  have:=x1.len
  match ce,this with
  | [a,b,c,d],_=>exact⟨a,b,c,d,rfl⟩
 have hok:lineF' k s body.length els.length=true∧okE e=true∧oksS body=true∧oksS els=true:=by simpa only [okS,Bool.and_eq_true] using ho
 have hrg:rngE e=true∧rngSs body=true∧rngSs els=true:=by
  simp only[rngS,Bool.and_eq_true]at hr
  exact⟨hr.1.1,hr.2.1,hr.2.2⟩
 have hpF:∀{K:AHeap},Ext n H K→PtC K p (.int .u8 (k:Int)::.str s::([c0,c1,c2,c3]++[vb,ve,.int .i64 line])):=fun q=>hp.ext q hpb
 have q0:=hp.fld0
 have q1:=hp.fld 1
 have q2:=hp.fld 2
 have q6:=hp.fld 6
 have q7:=hp.fld 7
 have qc:=hp.chk
 have le:=y1.len
 have wl:IntKind.i64.wrap ((lev:Int)+1)=((lev+1:Nat):Int):=w64
 have hsh:showS lev (.mk k s e body els line)=shapeS k s lev (showE e) (showSs (lev+1) body) (showSs (lev+1) els) els.isEmpty:=by rw[showS]
 obtain⟨X,hX⟩:∃X,X=showE e:=⟨_,rfl⟩
 obtain⟨B,hB⟩:∃B,B=showSs (lev+1) body:=⟨_,rfl⟩
 obtain⟨EL,hEL⟩:∃EL,EL=showSs (lev+1) els:=⟨_,rfl⟩
 rw[← hX,← hB,← hEL]at hsh
 have htl:(tabsF lev).length=lev:=List.length_replicate
 obtain⟨Q,hQ⟩:∃Q:AVal→AHeap→Prop,Q=fun _ H'=>Pge n pg H' (W++showS lev (.mk k s e body els line))∧Ext n H H':=⟨_,rfl⟩
 rw[← hQ]
 rw[hsh]at hQ hL
 have ex:∀{K:AHeap} {W2:Bs},Ext n H K→Pge n pg K W2→W2.length+X.length≤1000000000→ACalls Tryz.prog natT 120 [cellR pg 1 0,fp p 2] K fun _ K2=>Pge n pg K2 (W2++X)∧Ext n H K2:=by
  intro K W2 EK GK hl
  have pK:=hpF EK
  refine (exG_all n pg e.size e [c0,c1,c2,c3] K (fp p 2) W2 rL hok.2.1 hrg.1 (pK.part (o:=2) (k:=4) (by simp)) ?_ (x1.mono fun b hb=>⟨hb,EK.old b hb⟩) GK (by rw[← hX]; exact hl)).mono ?_
  ·intro a ea
   obtain⟨a',ha',_⟩:=hp
   rw[ha']at ea
   simp only[fp,AVal.ptr.injEq,sJ]at ea
   subst ea
   exact hpb a' ha'
  ·rintro _ K2 ⟨G2,E2⟩
   rw[← hX]at G2
   exact⟨G2,EK.trans E2⟩
 have b0:0<[1].length:=by simp
 simp only[c82,sA,sB,seval]
 by_cases k1:k=1
 ·have i1:(k:Int)=1:=om
  have hs:shapeS k s lev X B EL els.isEmpty=tabsF lev++([108,101,116,32]++(s++([32,61,32]++(X++[59,10])))):=by unfold shapeS; rw[if_pos k1]
  rw[hs]at hQ hL
  simp only[lA,List.length_cons,List.length_nil,htl]at hL
  refine (gtabs_spec G.pg lev om om).mono ?_
  rintro _ H1 ⟨g1,E1⟩
  have G1:=G.fwd E1 g1
  have p0a:=(hpF E1).load0 (x:=.int .u8 (k:Int)) rfl
  have p1a:=(hpF E1).load (o:=1) (x:=.str s) rfl
  simp only[sA,sB,seval,qc,q0,q1,p0a,p1a,i1,sl3]
  refine (put3 G1 [108,101,116,32] s [32,61,32] (by simp only[lA,List.length_cons,List.length_nil,htl]; omega)).mono ?_
  rintro _ H2 ⟨G2,E2⟩
  have E02:=E1.trans E2
  simp only[sA,sB,seval,qc,q2]
  refine (ex E02 G2 (by simp only[lA,List.length_cons,List.length_nil,htl]; omega)).mono ?_
  rintro _ H3 ⟨G3,E3⟩
  have p0b:=(hpF E3).load0 (x:=.int .u8 (k:Int)) rfl
  have p1b:=(hpF E3).load (o:=1) (x:=.str s) rfl
  simp only[sA,sB,seval,qc,q0,p0b,i1,sl1]
  refine (put1 G3 [59,10] (by simp only[lA,List.length_cons,List.length_nil,htl]; omega)).mono ?_
  rintro _ H4 ⟨G4,E4⟩
  simp only[sA,sB,seval,hQ]
  exact⟨[],rfl,by simpa only [List.append_assoc,List.nil_append,List.cons_append] using G4,E3.trans E4⟩
 have i1:¬(k:Int)=1:=om
 by_cases k2:k=2
 ·have i2:(k:Int)=2:=om
  have hs:shapeS k s lev X B EL els.isEmpty=tabsF lev++([115,101,116,32]++(s++([32,61,32]++(X++[59,10])))):=by unfold shapeS; rw[if_neg k1,if_pos k2]
  rw[hs]at hQ hL
  simp only[lA,List.length_cons,List.length_nil,htl]at hL
  refine (gtabs_spec G.pg lev om om).mono ?_
  rintro _ H1 ⟨g1,E1⟩
  have G1:=G.fwd E1 g1
  have p0a:=(hpF E1).load0 (x:=.int .u8 (k:Int)) rfl
  have p1a:=(hpF E1).load (o:=1) (x:=.str s) rfl
  simp only[sA,sB,seval,qc,q0,q1,p0a,p1a,i2,i1,sl3]
  refine (put3 G1 [115,101,116,32] s [32,61,32] (by simp only[lA,List.length_cons,List.length_nil,htl]; omega)).mono ?_
  rintro _ H2 ⟨G2,E2⟩
  have E02:=E1.trans E2
  simp only[sA,sB,seval,qc,q2]
  refine (ex E02 G2 (by simp only[lA,List.length_cons,List.length_nil,htl]; omega)).mono ?_
  rintro _ H3 ⟨G3,E3⟩
  have p0b:=(hpF E3).load0 (x:=.int .u8 (k:Int)) rfl
  have p1b:=(hpF E3).load (o:=1) (x:=.str s) rfl
  simp only[sA,sB,seval,qc,q0,p0b,i2,sl1]
  refine (put1 G3 [59,10] (by simp only[lA,List.length_cons,List.length_nil,htl]; omega)).mono ?_
  rintro _ H4 ⟨G4,E4⟩
  simp only[sA,sB,seval,hQ]
  exact⟨[],rfl,by simpa only [List.append_assoc,List.nil_append,List.cons_append] using G4,E3.trans E4⟩
 have i2:¬(k:Int)=2:=om
 by_cases k5:k=5
 ·have i5:(k:Int)=5:=om
  have hs:shapeS k s lev X B EL els.isEmpty=tabsF lev++([114,101,116,117,114,110,32]++(X++[59,10])):=by unfold shapeS; rw[if_neg k1,if_neg k2,if_pos k5]
  rw[hs]at hQ hL
  simp only[lA,List.length_cons,List.length_nil,htl]at hL
  refine (gtabs_spec G.pg lev om om).mono ?_
  rintro _ H1 ⟨g1,E1⟩
  have G1:=G.fwd E1 g1
  have p0a:=(hpF E1).load0 (x:=.int .u8 (k:Int)) rfl
  have p1a:=(hpF E1).load (o:=1) (x:=.str s) rfl
  simp only[sA,sB,seval,qc,q0,q1,p0a,p1a,i5,i1,i2,sl1]
  refine (put1 G1 [114,101,116,117,114,110,32] (by simp only[lA,List.length_cons,List.length_nil,htl]; omega)).mono ?_
  rintro _ H2 ⟨G2,E2⟩
  have E02:=E1.trans E2
  simp only[sA,sB,seval,qc,q2]
  refine (ex E02 G2 (by simp only[lA,List.length_cons,List.length_nil,htl]; omega)).mono ?_
  rintro _ H3 ⟨G3,E3⟩
  have p0b:=(hpF E3).load0 (x:=.int .u8 (k:Int)) rfl
  have p1b:=(hpF E3).load (o:=1) (x:=.str s) rfl
  simp only[sA,sB,seval,qc,q0,p0b,i5,sl1]
  refine (put1 G3 [59,10] (by simp only[lA,List.length_cons,List.length_nil,htl]; omega)).mono ?_
  rintro _ H4 ⟨G4,E4⟩
  simp only[sA,sB,seval,hQ]
  exact⟨[],rfl,by simpa only [List.append_assoc,List.nil_append,List.cons_append] using G4,E3.trans E4⟩
 have i5:¬(k:Int)=5:=om
 by_cases k3:k=3
 ·have i3:(k:Int)=3:=om
  have hs:shapeS k s lev X B EL els.isEmpty=tabsF lev++([105,102,32,40]++(X++([41,32,123,10]++(B++((if els.isEmpty then [] else tabsF lev++([125,32,101,108,115,101,32,123,10]++EL))++(tabsF lev++[125,10])))))):=by unfold shapeS; rw[if_neg k1,if_neg k2,if_neg k5,if_pos k3]
  by_cases hel:els.isEmpty=true
  ·have hel':¬(0:Int)<(els.length:Int):=by rw[List.isEmpty_iff.1 hel]; simp
   rw[if_pos hel]at hs
   rw[hs]at hQ hL
   simp only[lA,List.length_cons,List.length_nil,htl]at hL
   refine (gtabs_spec G.pg lev om om).mono ?_
   rintro _ H1 ⟨g1,E1⟩
   have G1:=G.fwd E1 g1
   have p0a:=(hpF E1).load0 (x:=.int .u8 (k:Int)) rfl
   have p1a:=(hpF E1).load (o:=1) (x:=.str s) rfl
   simp only[sA,sB,seval,qc,q0,p0a,i3,i1,i2,i5,sl1]
   refine (put1 G1 [105,102,32,40] (by simp only[lA,List.length_cons,List.length_nil,htl]; omega)).mono ?_
   rintro _ H2 ⟨G2,E2⟩
   have E02:=E1.trans E2
   simp only[sA,sB,seval,qc,q2]
   refine (ex E02 G2 (by simp only[lA,List.length_cons,List.length_nil,htl]; omega)).mono ?_
   rintro _ H3 ⟨G3,E3⟩
   have p0b:=(hpF E3).load0 (x:=.int .u8 (k:Int)) rfl
   have p1b:=(hpF E3).load (o:=1) (x:=.str s) rfl
   simp only[sA,sB,seval,qc,q0,p0b,i3,i1,i2,i5,sl1]
   refine (put1 G3 [41,32,123,10] (by simp only[lA,List.length_cons,List.length_nil,htl]; omega)).mono ?_
   rintro _ H4 ⟨G4,E4⟩
   have E04:=E3.trans E4
   have p6:=(hpF E04).load (o:=6) (x:=vb) rfl
   simp only[sA,sB,seval,qc,q6,p6,wl]
   refine (ih body Cb H4 vb _ (lev+1) om hok.2.2.1 hrg.2.1 (z1.mono fun b hb=>⟨hb,E04.old b hb⟩) (z2.mono fun b hb=>⟨hb,E04.old b hb⟩) G4 (by rw[← hB]; simp only[lA,List.length_cons,List.length_nil,htl]; omega) om).mono ?_
   rintro _ H5 ⟨G5,E5⟩
   rw[← hB]at G5
   have E05:=E04.trans E5
   have p7:=(hpF E05).load (o:=7) (x:=ve) rfl
   simp only[sA,sB,seval,qc,q7,p7,le,hel']
   refine (gtabs_spec G5.pg lev (by simp only[lA,List.length_cons,List.length_nil,htl]; omega) om).mono ?_
   rintro _ H6 ⟨g6,E6⟩
   have G6:=G5.fwd E6 g6
   simp only[sA,sB,seval,sl1]
   refine (put1 G6 [125,10] (by simp only[lA,List.length_cons,List.length_nil,htl]; omega)).mono ?_
   rintro _ H7 ⟨G7,E7⟩
   simp only[sA,sB,seval,hQ]
   exact⟨[],rfl,by simpa only [List.append_assoc,List.nil_append,List.cons_append] using G7,(E05.trans E6).trans E7⟩
  ·have hel':(0:Int)<(els.length:Int):=by
    have:=List.length_pos_iff.2 fun q=>hel (List.isEmpty_iff.2 q)
    omega
   rw[if_neg hel]at hs
   rw[hs]at hQ hL
   simp only[lA,List.length_cons,List.length_nil,htl]at hL
   refine (gtabs_spec G.pg lev om om).mono ?_
   rintro _ H1 ⟨g1,E1⟩
   have G1:=G.fwd E1 g1
   have p0a:=(hpF E1).load0 (x:=.int .u8 (k:Int)) rfl
   have p1a:=(hpF E1).load (o:=1) (x:=.str s) rfl
   simp only[sA,sB,seval,qc,q0,p0a,i3,i1,i2,i5,sl1]
   refine (put1 G1 [105,102,32,40] (by simp only[lA,List.length_cons,List.length_nil,htl]; omega)).mono ?_
   rintro _ H2 ⟨G2,E2⟩
   have E02:=E1.trans E2
   simp only[sA,sB,seval,qc,q2]
   refine (ex E02 G2 (by simp only[lA,List.length_cons,List.length_nil,htl]; omega)).mono ?_
   rintro _ H3 ⟨G3,E3⟩
   have p0b:=(hpF E3).load0 (x:=.int .u8 (k:Int)) rfl
   have p1b:=(hpF E3).load (o:=1) (x:=.str s) rfl
   simp only[sA,sB,seval,qc,q0,p0b,i3,i1,i2,i5,sl1]
   refine (put1 G3 [41,32,123,10] (by simp only[lA,List.length_cons,List.length_nil,htl]; omega)).mono ?_
   rintro _ H4 ⟨G4,E4⟩
   have E04:=E3.trans E4
   have p6:=(hpF E04).load (o:=6) (x:=vb) rfl
   simp only[sA,sB,seval,qc,q6,p6,wl]
   refine (ih body Cb H4 vb _ (lev+1) om hok.2.2.1 hrg.2.1 (z1.mono fun b hb=>⟨hb,E04.old b hb⟩) (z2.mono fun b hb=>⟨hb,E04.old b hb⟩) G4 (by rw[← hB]; simp only[lA,List.length_cons,List.length_nil,htl]; omega) om).mono ?_
   rintro _ H5 ⟨G5,E5⟩
   rw[← hB]at G5
   have E05:=E04.trans E5
   have p7:=(hpF E05).load (o:=7) (x:=ve) rfl
   simp only[sA,sB,seval,qc,q7,p7,le,hel']
   refine (gtabs_spec G5.pg lev (by simp only[lA,List.length_cons,List.length_nil,htl]; omega) om).mono ?_
   rintro _ H6 ⟨g6,E6⟩
   have G6:=G5.fwd E6 g6
   have E06:=E05.trans E6
   simp only[sA,sB,seval,sl1]
   refine (put1 G6 [125,32,101,108,115,101,32,123,10] (by simp only[lA,List.length_cons,List.length_nil,htl]; omega)).mono ?_
   rintro _ H7 ⟨G7,E7⟩
   have E07:=E06.trans E7
   have p7':=(hpF E07).load (o:=7) (x:=ve) rfl
   simp only[sA,sB,seval,qc,q7,p7',wl]
   refine (ih els Ce H7 ve _ (lev+1) om hok.2.2.2 hrg.2.2 (y1.mono fun b hb=>⟨hb,E07.old b hb⟩) (y2.mono fun b hb=>⟨hb,E07.old b hb⟩) G7 (by rw[← hEL]; simp only[lA,List.length_cons,List.length_nil,htl]; omega) om).mono ?_
   rintro _ H8 ⟨G8,E8⟩
   rw[← hEL]at G8
   have E08:=E07.trans E8
   simp only[sA,sB,seval]
   refine (gtabs_spec G8.pg lev (by simp only[lA,List.length_cons,List.length_nil,htl]; omega) om).mono ?_
   rintro _ H9 ⟨g9,E9⟩
   have G9:=G8.fwd E9 g9
   simp only[sA,sB,seval,sl1]
   refine (put1 G9 [125,10] (by simp only[lA,List.length_cons,List.length_nil,htl]; omega)).mono ?_
   rintro _ Ha ⟨Ga,Ea⟩
   simp only[sA,sB,seval,hQ]
   exact⟨[],rfl,by simpa only [List.append_assoc,List.nil_append,List.cons_append] using Ga,(E08.trans E9).trans Ea⟩
 have i3:¬(k:Int)=3:=om
 by_cases k4:k=4
 ·have i4:(k:Int)=4:=om
  have hs:shapeS k s lev X B EL els.isEmpty=tabsF lev++([119,104,105,108,101,32,40]++(X++([41,32,123,10]++(B++((if els.isEmpty then [] else tabsF lev++([125,32,101,108,115,101,32,123,10]++EL))++(tabsF lev++[125,10])))))):=by unfold shapeS; rw[if_neg k1,if_neg k2,if_neg k5,if_neg k3]
  have hle:lineF' k s body.length els.length=(s.isEmpty&&Nat.beq els.length 0):=by unfold lineF'; rw[if_neg om,if_neg k3,if_pos k4]
  have h0:els.length=0:=by
   have:=hok.1
   rw[hle,Bool.and_eq_true]at this
   exact Nat.eq_of_beq_eq_true this.2
  have hel:els.isEmpty=true:=List.isEmpty_iff.2 (List.length_eq_zero_iff.1 h0)
  have hel':¬(0:Int)<(els.length:Int):=om
  rw[if_pos hel]at hs
  rw[hs]at hQ hL
  simp only[lA,List.length_cons,List.length_nil,htl]at hL
  refine (gtabs_spec G.pg lev om om).mono ?_
  rintro _ H1 ⟨g1,E1⟩
  have G1:=G.fwd E1 g1
  have p0a:=(hpF E1).load0 (x:=.int .u8 (k:Int)) rfl
  have p1a:=(hpF E1).load (o:=1) (x:=.str s) rfl
  simp only[sA,sB,seval,qc,q0,p0a,i4,i1,i2,i5,i3,sl1]
  refine (put1 G1 [119,104,105,108,101,32,40] (by simp only[lA,List.length_cons,List.length_nil,htl]; omega)).mono ?_
  rintro _ H2 ⟨G2,E2⟩
  have E02:=E1.trans E2
  simp only[sA,sB,seval,qc,q2]
  refine (ex E02 G2 (by simp only[lA,List.length_cons,List.length_nil,htl]; omega)).mono ?_
  rintro _ H3 ⟨G3,E3⟩
  have p0b:=(hpF E3).load0 (x:=.int .u8 (k:Int)) rfl
  have p1b:=(hpF E3).load (o:=1) (x:=.str s) rfl
  simp only[sA,sB,seval,qc,q0,p0b,i4,i1,i2,i5,i3,sl1]
  refine (put1 G3 [41,32,123,10] (by simp only[lA,List.length_cons,List.length_nil,htl]; omega)).mono ?_
  rintro _ H4 ⟨G4,E4⟩
  have E04:=E3.trans E4
  have p6:=(hpF E04).load (o:=6) (x:=vb) rfl
  simp only[sA,sB,seval,qc,q6,p6,wl]
  refine (ih body Cb H4 vb _ (lev+1) om hok.2.2.1 hrg.2.1 (z1.mono fun b hb=>⟨hb,E04.old b hb⟩) (z2.mono fun b hb=>⟨hb,E04.old b hb⟩) G4 (by rw[← hB]; simp only[lA,List.length_cons,List.length_nil,htl]; omega) om).mono ?_
  rintro _ H5 ⟨G5,E5⟩
  rw[← hB]at G5
  have E05:=E04.trans E5
  have p7:=(hpF E05).load (o:=7) (x:=ve) rfl
  simp only[sA,sB,seval,qc,q7,p7,le,hel']
  refine (gtabs_spec G5.pg lev (by simp only[lA,List.length_cons,List.length_nil,htl]; omega) om).mono ?_
  rintro _ H6 ⟨g6,E6⟩
  have G6:=G5.fwd E6 g6
  simp only[sA,sB,seval,sl1]
  refine (put1 G6 [125,10] (by simp only[lA,List.length_cons,List.length_nil,htl]; omega)).mono ?_
  rintro _ H7 ⟨G7,E7⟩
  simp only[sA,sB,seval,hQ]
  exact⟨[],rfl,by simpa only [List.append_assoc,List.nil_append,List.cons_append] using G7,(E05.trans E6).trans E7⟩
 have:lineF' k s body.length els.length=false:=by unfold lineF'; rw[if_neg om,if_neg k3,if_neg k4,if_neg k5]
 rw[this]at hok
 exact absurd hok.1 (by simp)
theorem stG0(n pg:Nat):StG n pg 0:=by
 intro st c H p W lev h
 have:=sizeS_pos st
 omega
theorem stG_all(n pg:Nat):∀N,StG n pg N
 | 0=>stG0 n pg
 | N+1=>stG (liG (stG_all n pg N))
open Go.Abs Go.Abs.S
theorem deepS_bound{l:List St}(h:rightF l=true):deepsS l≤40:=by
 unfold rightF fitsF at h
 simp only[Bool.and_eq_true,decide_eq_true_eq]at h
 exact h.2.2
theorem mshow_spec{l:List St}{C:List AVal}{v:AVal}{H:AHeap}(z1:SlK (·<H.next) H 9 v l.length C)(z2:XSs (·<H.next) H l C)(hr:rngSs l=true)(hlen:rightF l=true→(showSs 0 l).length≤1000000000)(h1:1<H.next)(hG:Glo H 1 powL) :
  ACalls Tryz.prog natT 12 [v] H fun u H'=>u=.tuple [.str (showF l).1,.int .i64 ((showF l).2:Int)]∧Ext H.next H H':=by
 refine acalls_ofN rfl za12 rfl ?_
 simp only[c12,sA,sB,seval]
 refine (mright_spec z1 z2).mono ?_
 rintro _ H1 ⟨rfl,E1⟩
 have e1:=E1.next
 cases hR:rightF l with
 | false=>
  have hs:showF l=([],103):=by unfold showF; rw[if_neg (by rw[hR]; simp)]
  simp only[sA,sB,seval,hs]
  exact⟨tt,E1⟩
 | true=>
 have hok:oksS l=true:=by
  unfold rightF at hR
  simp only[Bool.and_eq_true]at hR
  exact hR.1
 have b1:aBuild [.slice none 0 (.known 0)] []=some (.agg [.slice none 0 (.known 0)]):=rfl
 obtain⟨H2,m2,r2,n2,k2⟩:=row_newL H1 [.slice none 0 (.known 0)] (n:=1) rfl
 have E2:Ext H.next H H2:=E1.trans ⟨om,fun c hc=>k2 c om⟩
 have G2:Pge H.next H1.next H2 []:=⟨⟨om,om,nilS,[],r2,AppN.nil _ _ _,blk_nil _,.inl rfl,Nat.le_refl _⟩,h1,by unfold Glo; rw[E2.old 1 h1]; exact hG⟩
 have ag:∀l:List AVal,(AVal.agg l).cells=l:=cells_agg
 simp only[sA,sB,seval,b1,ag,m2]
 refine (liG (stG_all H.next H1.next (sizesS l)) l C H2 v [] 0 rL hok hr (z1.mono fun b hb=>⟨hb,E2.old b hb⟩) (z2.mono fun b hb=>⟨hb,E2.old b hb⟩) G2 (by simpa using hlen hR) (by have:=deepS_bound hR; omega)).mono ?_
 rintro _ H3 ⟨G3,E3⟩
 have E03:=E2.trans E3
 rw[List.nil_append]at G3
 obtain⟨g1,g2,v',Y,hrp,hv,hb,hc,hcl⟩:=G3.pg
 have lp:oLoad false 1 H3 (cellR H1.next 1 0)=some v':=row_load hrp rfl rfl
 have lY:=hv.len
 have hYb:=hlen hR
 by_cases hy:16384<Y.length
 ·have hy':(16384:Int)<(Y.length:Int):=om
  have hs:showF l=([],3):=by unfold showF; rw[if_pos hR,if_pos om]
  simp only[sA,sB,seval,nil_cell,fld0,lp,lY,hy',hs]
  exact⟨tt,E03⟩
 ·have hy':¬(16384:Int)<(Y.length:Int):=om
  have hYe:Y=showSs 0 l:=by rcases hc with h | h; exact h; omega
  have hs:showF l=(Y,0):=by unfold showF; rw[if_pos hR,← hYe,if_neg om]
  have hbs:aBS H3 v'=some (.str Y):=bs_cel (hv.cel1 hv.blk')
  simp only[sA,sB,seval,nil_cell,fld0,lp,lY,hy',hbs,hs]
  exact⟨tt,E03⟩
end Go.Proofs.Wo
