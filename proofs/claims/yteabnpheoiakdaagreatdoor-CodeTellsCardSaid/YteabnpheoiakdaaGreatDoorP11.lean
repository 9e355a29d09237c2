/- Part of a proof (YQ2 YPN YQ3 YC5 YPZ YR9 YX1 YX2 YT1 YT2 YT4 YT6 YT7); no condition. -/
import Derived.Test.YteabnpheoiakdaaGreatDoorProg
import Derived.KernelRfl
import Derived.Test.YteabnpheoiakdaaGreatDoorP8
import Derived.Test.YteabnpheoiakdaaGreatDoorP9
import Derived.Test.YteabnpheoiakdaaGreatDoorP10
set_option linter.unusedSimpArgs false
set_option linter.unusedVariables false
set_option linter.unnecessarySimpa false
namespace Go.Proofs.Wo
open Go.Abs Go.Abs.S
theorem size_memS{e:St}:∀{l:List St},e∈l→e.size≤sizesS l
 | [],h=>by simp at h
 | x::l,h=>by
  simp only[sizesS]
  rcases List.mem_cons.1 h with rfl | h
  ·omega
  ·have:=size_memS h; omega
theorem sizesS_app(l m:List St):sizesS (l++m)=sizesS l+sizesS m:=by
 induction l with
 | nil=>simp[sizesS]
 | cons x l ih=>simp only[List.cons_append,sizesS,ih]; omega
theorem deepsS_app(l m:List St):deepsS (l++m)=max (deepsS l) (deepsS m):=by
 induction l with
 | nil=>simp[deepsS]
 | cons x l ih=>simp only[List.cons_append,deepsS,ih]; omega
theorem oksS_app(l m:List St):oksS (l++m)=(oksS l&&oksS m):=by
 induction l with
 | nil=>simp[oksS]
 | cons x l ih=>simp only[List.cons_append,oksS,ih,Bool.and_assoc]
theorem len_sizesS(l:List St):l.length≤sizesS l:=by
 induction l with
 | nil=>simp
 | cons x l ih=>cases x; simp only[List.length_cons,sizesS,St.size]; omega
def RtS(n deep:Nat)(e:St):Prop:=okS e=true∧n+e.size≤1000∧deep+e.deep≤41
def RtSs(n deep:Nat)(l:List St):Prop:=oksS l=true∧n+sizesS l≤1000∧deep+deepsS l≤41
theorem rtSs_snoc{n deep:Nat}{l:List St}{e:St}:RtSs n deep (l++[e])↔RtSs n deep l∧RtS (n+sizesS l) deep e:=by
 unfold RtSs RtS
 rw[oksS_app,sizesS_app,deepsS_app]
 simp only[oksS,sizesS,deepsS,Bool.and_true,Bool.and_eq_true]
 constructor
 ·rintro ⟨⟨a,b⟩,c,d⟩; exact⟨⟨a,om,om⟩,b,om,om⟩
 ·rintro ⟨⟨a,b,c⟩,d,e,f⟩; exact⟨⟨a,d⟩,om,om⟩
theorem rtSs_take{n deep:Nat}{l:List St}(h:RtSs n deep l)(i:Nat):RtSs n deep (l.take i):=by
 have:=List.take_append_drop i l
 unfold RtSs at *
 rw[← this,oksS_app,sizesS_app,deepsS_app]at h
 simp only[Bool.and_eq_true]at h
 obtain⟨⟨a,b⟩,c,d⟩:=h
 exact⟨a,om,om⟩
theorem SlK.blk{P:Nat→Prop}{H:AHeap}{m k:Nat}{v:AVal}{C:List AVal}(h:SlK P H m v k C){i:Nat}(hi:i<k):∀a,placeK m v i=.ptr (some a)→P a.b:=by
 intro a ea
 rcases h with⟨_,h0,_⟩ | ⟨a',r,rfl,h0,_⟩
 ·omega
 ·simp only[placeK,AVal.ptr.injEq,sJ]at ea
  subst ea; exact h0
def StR(N:Nat):Prop:=∀{e:St} {c:List AVal} {H:AHeap} {mb n deep:Nat} {p:AVal},e.size≤N→PtC H p c→(∀a,p=.ptr (some a)→a.b<H.next∧a.b≠mb)→XS (fun b=>b<H.next∧b≠mb) H e c→Row H mb [.int .i64 (n:Int)]→mb<H.next→n≤1000→deep≤41 →
  ACalls Tryz.prog natT 84 [cellR mb 1 0,p,.int .i64 (deep:Int)] H (OutR mb n e.size (RtS n deep e) H)
def LiR(N:Nat):Prop:=∀{l:List St} {C:List AVal} {H:AHeap} {mb n deep:Nat} {v:AVal},sizesS l≤N→SlK (fun b=>b<H.next∧b≠mb) H 9 v l.length C→XSs (fun b=>b<H.next∧b≠mb) H l C→Row H mb [.int .i64 (n:Int)]→mb<H.next→n≤1000→deep≤41 →
  ACalls Tryz.prog natT 40 [cellR mb 1 0,v,.int .i64 (deep:Int)] H (OutR mb n (sizesS l) (RtSs n deep l) H)
theorem liR{N:Nat}(ih:StR N):LiR N:=by
 intro l C H mb n deep v h z1 z2 hm hmb hn hd
 obtain⟨Q,hQ⟩:∃Q,Q=OutR mb n (sizesS l) (RtSs n deep l) H:=⟨_,rfl⟩
 rw[← hQ]
 refine acalls_ofN rfl za40 rfl ?_
 have ln:=z1.len
 simp only[c40,sA,sB,seval,ln]
 refine aw_loop (fun m (T:Env) H'=>∃i:Nat,m=l.length-i∧i≤l.length∧T 0=cellR mb 1 0∧T 1=v∧T 2=.int .i64 (deep:Int)∧T 9=.int .i64 (l.length:Int)∧T 10=.int .i64 (i:Int)∧Fp mb H H'∧Row H' mb [.int .i64 ((n+sizesS (l.take i):Nat):Int)]∧RtSs n deep (l.take i)) l.length
  ⟨0,rfl,Nat.zero_le _,by simp only[sA,sB,seval],by simp only[sA,sB,seval],by simp only[sA,sB,seval],by simp only[sA,sB,seval],by simp only[sA,sB,seval]; try rfl,Fp.refl _ _,hm,rfl,by simp only[List.take_zero,sizesS]; omega,by simp only[List.take_zero,deepsS]; omega⟩ ?_
 rintro m T H3 ⟨i,rfl,hi,t0,t1,t2,t9,t10,F3,r3,hR3⟩
 have e3:=F3.next
 by_cases hlt:i<l.length
 case neg=>
  obtain rfl:i=l.length:=om
  have hlt':¬(l.length:Int)<(l.length:Int):=om
  rw[List.take_length]at hR3 r3
  simp only[sA,sB,seval,t9,t10,hlt']
  rw[hQ]
  exact⟨.inl ⟨hR3,tt,r3⟩,F3⟩
 have hlt':(i:Int)<(l.length:Int):=om
 obtain⟨e,he⟩:∃e,l[i]?=some e:=⟨_,List.getElem?_eq_getElem hlt⟩
 have hts:l.take (i+1)=l.take i++[e]:=by rw[List.take_add_one,he]; rfl
 have km:∀b,(b<H.next∧b≠mb)→(b<H3.next∧b≠mb)∧H3.get b=H.get b:=fun b hb=>⟨⟨om,hb.2⟩,F3.old b hb.1 hb.2⟩
 have z13:=z1.mono km
 have z23:=z2.mono km
 have ix:=z13.idx hlt
 have hk:=z13.pt hlt
 have he3:=z23.at he
 have hsm:=size_memS (List.mem_of_getElem? he)
 have wi:IntKind.i64.wrap ((i:Int)+1)=((i+1:Nat):Int):=by
  have e1:=len_sizesS (l.take i)
  have e2:=hR3.2.1
  rw[List.length_take,Nat.min_eq_left hi]at e1
  rw[IntKind.wrap_i64]; omega
 simp only[sA,sB,seval,t0,t1,t2,t9,t10,hlt',ix]
 refine (ih om hk (z13.blk hlt) he3 r3 om hR3.2.1 hd).mono ?_
 rintro u H4 ⟨ho,F4⟩
 have F04:=F3.trans F4
 rcases ho with⟨hgo,rfl,r4⟩ | ⟨hgo,rfl⟩
 ·simp only[sA,sB,seval,t0,t1,t2,t9,t10,wi]
  refine⟨l.length-(i+1),om,i+1,rfl,om,tt,tt,tt,tt,tt,F04,?_,?_⟩
  ·rw[hts,sizesS_app]
   simp only[sizesS,Nat.add_zero]
   rw[← Nat.add_assoc]; exact r4
  ·rw[hts,rtSs_snoc]; exact⟨hR3,hgo⟩
 ·simp only[sA,sB,seval]
  rw[hQ]
  refine⟨.inr ⟨fun q=>hgo ?_,tt⟩,F04⟩
  have:=rtSs_take q (i+1)
  rw[hts,rtSs_snoc]at this
  exact this.2
theorem stR{N:Nat}(ih:LiR N):StR (N+1):=by
 rintro ⟨k,s,e,body,els,line⟩ c H mb n deep p h hp hpb hx hm hmb hn hd
 obtain⟨ce,vb,Cb,ve,Ce,rfl,x1,z1,z2,y1,y2⟩:=hx
 obtain⟨c0,c1,c2,c3,rfl⟩:∃a b c d,ce=[a,b,c,d]:=by
  have:=x1.len
  match ce,this with
  | [a,b,c,d],_=>exact⟨a,b,c,d,rfl⟩
 obtain⟨Q,hQ⟩:∃Q,Q=OutR mb n (St.mk k s e body els line).size (RtS n deep (St.mk k s e body els line)) H:=⟨_,rfl⟩
 obtain⟨PF,hPF⟩:∃PF:Prop,PF↔lineF' k s body.length els.length=true:=⟨_,Iff.rfl⟩
 rw[← hQ]
 refine acalls_ofN rfl za84 rfl ?_
 have hsz:(St.mk k s e body els line).size=e.size+sizesS body+sizesS els+1:=rfl
 have hdp:(St.mk k s e body els line).deep=max e.deep (max (deepsS body) (deepsS els))+1:=rfl
 simp only[c84,sW,sL,sXs,sXO,sXP,sB,seval]
 refine (mone_spec (deep:=deep) hm om).mono ?_
 rintro _ H1 ⟨⟨b,rfl,hb⟩,r1,n1,k1⟩
 have F1:Fp mb H H1:=⟨om,fun c _ hc=>k1 c hc⟩
 have pp:=hp.fp F1 hpb
 have p0:=pp.load0 (x:=.int .u8 (k:Int)) rfl
 have p1:=pp.load (o:=1) (x:=.str s) rfl
 have p6:=pp.load (o:=6) (x:=vb) rfl
 have p7:=pp.load (o:=7) (x:=ve) rfl
 have q0:=pp.fld0
 have q1:=pp.fld 1
 have q2:=pp.fld 2
 have q6:=pp.fld 6
 have q7:=pp.fld 7
 have qc:=pp.chk
 have lb:=z1.len
 have le:=y1.len
 cases b with
 | false=>
  have hno:¬RtS n deep (.mk k s e body els line):=by
   rintro ⟨_,q1,q2⟩; exact absurd (hb.2 ⟨om,om⟩) (by simp)
  simp only[sA,sB,seval]
  rw[hQ]
  exact⟨.inr ⟨hno,tt⟩,F1⟩
 | true=>
 obtain⟨h01,h02⟩:=hb.1 rfl
 have hok:okS (.mk k s e body els line)=(lineF' k s body.length els.length&&(okE e&&(oksS body&&oksS els))):=by simp only[okS]
 have hR:RtS n deep (.mk k s e body els line)↔lineF' k s body.length els.length=true∧RtE (n+1) (deep+1) e∧RtSs (n+1+e.size) (deep+1) body∧RtSs (n+1+e.size+sizesS body) (deep+1) els:=by
  unfold RtS RtE RtSs
  rw[hok,hsz,hdp,Bool.and_eq_true,Bool.and_eq_true,Bool.and_eq_true]
  constructor
  ·rintro ⟨⟨a,b,c,d⟩,e,f⟩; exact⟨a,⟨b,om,om⟩,⟨c,om,om⟩,d,om,om⟩
  ·rintro ⟨a,⟨b,_,_⟩,⟨c,_,_⟩,d,_,_⟩; exact⟨⟨a,b,c,d⟩,om,om⟩
 have fin:∀(H2:AHeap),lineF' k s body.length els.length=false→Fp mb H H2→Q (.bool false) H2:=by
  intro H2 h1 h3
  rw[hQ]
  exact⟨.inr ⟨fun q=>by rw[(hR.1 q).1]at h1; simp at h1,rfl⟩,h3⟩
 simp only[sW,sL,sXs,sXO,sXP,sB,seval,qc,q0,p0]
 rw[aw_block]
 refine aw_cut (fun (T:Env) H'=>T 0=cellR mb 1 0∧T 1=p∧T 2=.int .i64 (deep:Int)∧Fp mb H H'∧Row H' mb [.int .i64 ((n+1:Nat):Int)]∧PF) (calls_mono _ _) ?_ ?_
 rotate_left
 ·rintro T H2 ⟨t0,t1,t2,F2,r2,hpt⟩
  have e2:=F2.next
  have km:∀{K:AHeap},Fp mb H K→∀b,(b<H.next∧b≠mb)→(b<K.next∧b≠mb)∧K.get b=H.get b:=fun F b hb=>⟨⟨by have:=F.next; omega,hb.2⟩,F.old b hb.1 hb.2⟩
  have pp2:=hp.fp F2 hpb
  have pe:=pp2.part (o:=2) (k:=4) (by simp)
  have wd:IntKind.i64.wrap ((deep:Int)+1)=((deep+1:Nat):Int):=w64
  simp only[sA,sB,seval,t0,t1,t2,qc,q2,wd]
  refine (mexpr_spec e.size rL pe ?_ (x1.mono (km F2)) r2 om om om).mono ?_
  ·intro a ea
   obtain⟨a',rfl,_⟩:=hp
   simp only[fp,AVal.ptr.injEq,sJ]at ea
   subst ea
   have:=hpb a' rfl
   exact⟨by show a'.b<H2.next; omega,this.2⟩
  rintro u H3 ⟨ho,F3⟩
  have F03:=F2.trans F3
  have e3:=F03.next
  rcases ho with⟨g1,rfl,r3⟩ | ⟨g1,rfl⟩
  case inr=>
   simp only[sA,sB,seval,t0,t1,t2]
   rw[hQ]
   exact⟨.inr ⟨fun q=>g1 (hR.1 q).2.1,tt⟩,F03⟩
  have pp3:=hp.fp F03 hpb
  have p63:=pp3.load (o:=6) (x:=vb) rfl
  simp only[sA,sB,seval,t0,t1,t2,qc,q6,p63,wd]
  refine (ih (by rw[hsz]at h; omega) (z1.mono (km F03)) (z2.mono (km F03)) r3 om g1.2.1 om).mono ?_
  rintro u H4 ⟨ho,F4⟩
  have F04:=F03.trans F4
  have e4:=F04.next
  rcases ho with⟨g2,rfl,r4⟩ | ⟨g2,rfl⟩
  case inr=>
   simp only[sA,sB,seval,t0,t1,t2]
   rw[hQ]
   exact⟨.inr ⟨fun q=>g2 (hR.1 q).2.2.1,tt⟩,F04⟩
  have pp4:=hp.fp F04 hpb
  have p74:=pp4.load (o:=7) (x:=ve) rfl
  simp only[sA,sB,seval,t0,t1,t2,qc,q7,p74,wd]
  refine (ih (by rw[hsz]at h; omega) (y1.mono (km F04)) (y2.mono (km F04)) r4 om g2.2.1 om).mono ?_
  rintro u H5 ⟨ho,F5⟩
  have F05:=F04.trans F5
  rcases ho with⟨g3,rfl,r5⟩ | ⟨g3,rfl⟩
  ·simp only[sA,sB,seval]
   rw[hQ]
   refine⟨.inl ⟨hR.2 ⟨hPF.1 hpt,g1,g2,g3⟩,tt,?_⟩,F05⟩
   rw[hsz,show n+(e.size+sizesS body+sizesS els+1)=n+1+e.size+sizesS body+sizesS els by omega]; exact r5
  ·simp only[sA,sB,seval]
   rw[hQ]
   exact⟨.inr ⟨fun q=>g3 (hR.1 q).2.2.2,tt⟩,F05⟩
 have nb0:∀{α:Type} {l:List α},l≠[]→Nat.beq l.length 0=false:=fun q=>by rw[beq_dec]; exact decide_eq_false (by have:=List.length_pos_iff.2 q; omega)
 have pos:∀{α:Type} {l:List α},l≠[]→(0:Int)<(l.length:Int):=fun q=>by have:=List.length_pos_iff.2 q; omega
 have emp:s≠[]→s.isEmpty=false:=fun q=>by cases s <;> simp_all
 have nil0:¬(0:Int)<((([]:List St)).length:Int):=by simp
 by_cases k1:k=1
 ·have i1:(k:Int)=1:=om
  have hpart:lineF' k s body.length els.length=(nameF s&&(Nat.beq body.length 0&&Nat.beq els.length 0)):=by unfold lineF'; rw[if_pos (.inl k1)]
  simp only[sA,sB,seval,qc,q0,q1,q6,q7,p0,p1,p6,p7,lb,le,i1]
  refine (isname_spec s).mono ?_
  rintro _ H2 ⟨rfl,E2⟩
  have F12:Fp mb H1 H2:=⟨E2.next,fun c hc _=>E2.old c hc⟩
  have F02:=F1.trans F12
  have pp2:=hp.fp F02 hpb
  have p62:=pp2.load (o:=6) (x:=vb) rfl
  have p72:=pp2.load (o:=7) (x:=ve) rfl
  have r2:=r1.same (E2.old mb om)
  cases a2:nameF s with
  | false=>
   simp only[sA,sB,seval]
   exact fin H2 (by rw[hpart,a2]; rfl) F02
  | true=>
  by_cases a3:body=[]
  ·by_cases a4:els=[]
   ·have b3:¬(0:Int)<(body.length:Int):=by rw[a3]; simp
    have b4:¬(0:Int)<(els.length:Int):=by rw[a4]; simp
    simp only[sA,sB,seval,qc,q6,q7,p62,p72,lb,le,b3,b4]
    exact⟨tt,tt,tt,F02,r2,hPF.2 (by rw[hpart,a2,a3,a4]; rfl)⟩
   ·have b3:¬(0:Int)<(body.length:Int):=by rw[a3]; simp
    have b4:=pos a4
    simp only[sA,sB,seval,qc,q6,q7,p62,p72,lb,le,b3,b4]
    exact fin H2 (by rw[hpart,nb0 a4]; simp) F02
  ·have b3:=pos a3
   simp only[sA,sB,seval,qc,q6,q7,p62,p72,lb,le,b3]
   exact fin H2 (by rw[hpart,nb0 a3]; simp) F02
 have i1:¬(k:Int)=1:=om
 by_cases k2:k=2
 ·have i2:(k:Int)=2:=om
  have hpart:lineF' k s body.length els.length=(nameF s&&(Nat.beq body.length 0&&Nat.beq els.length 0)):=by unfold lineF'; rw[if_pos (.inr k2)]
  simp only[sA,sB,seval,qc,q0,q1,q6,q7,p0,p1,p6,p7,lb,le,i1,i2]
  refine (isname_spec s).mono ?_
  rintro _ H2 ⟨rfl,E2⟩
  have F12:Fp mb H1 H2:=⟨E2.next,fun c hc _=>E2.old c hc⟩
  have F02:=F1.trans F12
  have pp2:=hp.fp F02 hpb
  have p62:=pp2.load (o:=6) (x:=vb) rfl
  have p72:=pp2.load (o:=7) (x:=ve) rfl
  have r2:=r1.same (E2.old mb om)
  cases a2:nameF s with
  | false=>
   simp only[sA,sB,seval]
   exact fin H2 (by rw[hpart,a2]; rfl) F02
  | true=>
  by_cases a3:body=[]
  ·by_cases a4:els=[]
   ·have b3:¬(0:Int)<(body.length:Int):=by rw[a3]; simp
    have b4:¬(0:Int)<(els.length:Int):=by rw[a4]; simp
    simp only[sA,sB,seval,qc,q6,q7,p62,p72,lb,le,b3,b4]
    exact⟨tt,tt,tt,F02,r2,hPF.2 (by rw[hpart,a2,a3,a4]; rfl)⟩
   ·have b3:¬(0:Int)<(body.length:Int):=by rw[a3]; simp
    have b4:=pos a4
    simp only[sA,sB,seval,qc,q6,q7,p62,p72,lb,le,b3,b4]
    exact fin H2 (by rw[hpart,nb0 a4]; simp) F02
  ·have b3:=pos a3
   simp only[sA,sB,seval,qc,q6,q7,p62,p72,lb,le,b3]
   exact fin H2 (by rw[hpart,nb0 a3]; simp) F02
 have i2:¬(k:Int)=2:=om
 have i12:¬(k=1∨k=2):=om
 by_cases k3:k=3
 ·have i3:(k:Int)=3:=om
  have hpart:lineF' k s body.length els.length=s.isEmpty:=by unfold lineF'; rw[if_neg i12,if_pos k3]
  by_cases a2:s=[]
  ·simp only[sA,sB,seval,qc,q0,q1,q6,q7,p0,p1,p6,p7,lb,le,i1,i2,i3,a2]
   exact⟨tt,tt,tt,F1,r1,hPF.2 (by rw[hpart,a2]; rfl)⟩
  ·simp only[sA,sB,seval,qc,q0,q1,q6,q7,p0,p1,p6,p7,lb,le,i1,i2,i3,a2]
   exact fin H1 (by rw[hpart,emp a2]) F1
 have i3:¬(k:Int)=3:=om
 by_cases k4:k=4
 ·have i4:(k:Int)=4:=om
  have hpart:lineF' k s body.length els.length=(s.isEmpty&&Nat.beq els.length 0):=by unfold lineF'; rw[if_neg i12,if_neg k3,if_pos k4]
  by_cases a2:s=[]
  ·by_cases a4:els=[]
   ·have b4:¬(0:Int)<(els.length:Int):=by rw[a4]; simp
    simp only[sA,sB,seval,qc,q0,q1,q6,q7,p0,p1,p6,p7,lb,le,i1,i2,i3,i4,a2,b4]
    exact⟨tt,tt,tt,F1,r1,hPF.2 (by rw[hpart,a2,a4]; rfl)⟩
   ·have b4:=pos a4
    simp only[sA,sB,seval,qc,q0,q1,q6,q7,p0,p1,p6,p7,lb,le,i1,i2,i3,i4,a2,b4]
    exact fin H1 (by rw[hpart,nb0 a4]; simp) F1
  ·simp only[sA,sB,seval,qc,q0,q1,q6,q7,p0,p1,p6,p7,lb,le,i1,i2,i3,i4,a2]
   exact fin H1 (by rw[hpart,emp a2]; rfl) F1
 have i4:¬(k:Int)=4:=om
 by_cases k5:k=5
 ·have i5:(k:Int)=5:=om
  have hpart:lineF' k s body.length els.length=(s.isEmpty&&(Nat.beq body.length 0&&Nat.beq els.length 0)):=by unfold lineF'; rw[if_neg i12,if_neg k3,if_neg k4,if_pos k5]
  by_cases a2:s=[]
  ·by_cases a3:body=[]
   ·have b3:¬(0:Int)<(body.length:Int):=by rw[a3]; simp
    by_cases a4:els=[]
    ·have b4:¬(0:Int)<(els.length:Int):=by rw[a4]; simp
     simp only[sA,sB,seval,qc,q0,q1,q6,q7,p0,p1,p6,p7,lb,le,i1,i2,i3,i4,i5,a2,b3,b4]
     exact⟨tt,tt,tt,F1,r1,hPF.2 (by rw[hpart,a2,a3,a4]; rfl)⟩
    ·have b4:=pos a4
     simp only[sA,sB,seval,qc,q0,q1,q6,q7,p0,p1,p6,p7,lb,le,i1,i2,i3,i4,i5,a2,b3,b4]
     exact fin H1 (by rw[hpart,nb0 a4]; simp) F1
   ·have b3:=pos a3
    simp only[sA,sB,seval,qc,q0,q1,q6,q7,p0,p1,p6,p7,lb,le,i1,i2,i3,i4,i5,a2,b3]
    exact fin H1 (by rw[hpart,nb0 a3]; simp) F1
  ·simp only[sA,sB,seval,qc,q0,q1,q6,q7,p0,p1,p6,p7,lb,le,i1,i2,i3,i4,i5,a2]
   exact fin H1 (by rw[hpart,emp a2]; rfl) F1
 have i5:¬(k:Int)=5:=om
 simp only[sA,sB,seval,i1,i2,i3,i4,i5]
 exact fin H1 (by unfold lineF'; rw[if_neg i12,if_neg k3,if_neg k4,if_neg k5]) F1
theorem sizeS_pos(e:St):0<e.size:=by cases e; simp only[St.size]; omega
theorem stR0:StR 0:=by
 intro e c H mb n deep p h
 exact absurd h (Nat.not_le.2 (sizeS_pos e))
theorem stR_all:∀(N:Nat),StR N
 | 0=>stR0
 | N+1=>stR (liR (stR_all N))
theorem mright_spec{l:List St}{C:List AVal}{H:AHeap}{v:AVal}(z1:SlK (·<H.next) H 9 v l.length C)(z2:XSs (·<H.next) H l C):ACalls Tryz.prog natT 15 [v] H fun u H'=>u=.bool (rightF l)∧Ext H.next H H':=by
 refine acalls_ofN rfl za15 rfl ?_
 obtain⟨H1,m1,r1,n1,k1⟩:=row_newL H [.int .i64 0] (n:=1) rfl
 have b1:aBuild [.int .i64 0] []=some (.agg [.int .i64 0]):=rfl
 simp only[c15,sA,sB,seval,b1,cells_agg,m1]
 have km:∀b,b<H.next→(b<H1.next∧b≠H.next)∧H1.get b=H.get b:=fun b hb=>⟨⟨om,om⟩,k1 b om⟩
 refine (liR (stR_all (sizesS l)) (n:=0) (deep:=1) rL (z1.mono km) (z2.mono km) r1 om om om).mono ?_
 rintro u H2 ⟨ho,F2⟩
 have E:Ext H.next H H2:=⟨by have:=F2.next; omega,fun c hc=>by rw[F2.old c om om,k1 c om]⟩
 have hr:RtSs 0 1 l↔rightF l=true:=by
  unfold RtSs rightF fitsF
  simp only[Bool.and_eq_true,decide_eq_true_eq]
  constructor
  ·rintro ⟨a,b,c⟩; exact⟨a,om,om⟩
  ·rintro ⟨a,b,c⟩; exact⟨a,om,om⟩
 rcases ho with⟨h,rfl,_⟩ | ⟨h,rfl⟩
 ·rw[hr.1 h]
  simp only[sA,sB,seval]
  exact⟨tt,E⟩
 ·have:rightF l=false:=by
   cases hh:rightF l with
   | false=>rfl
   | true=>exact absurd (hr.2 hh) h
  rw[this]
  simp only[sA,sB,seval]
  exact⟨tt,E⟩
open Go.Abs Go.Abs.S
end Go.Proofs.Wo
namespace Go.Proofs.Wo
open Go.Abs Go.Abs.S
open Go.Abs Go.Abs.S
noncomputable section
def c7:AFn:=⟨12,zq [zo 6 (.mv (.c (.bool false)))] (zq [zo 7 (.new [zI 0]),zp (.store 1 (.t 7) (zi 0))] (zq [zm 8 0,zm 9 1,zm 10 2,zx 11 28 [.t 8,.t 9,.t 10,.t 7],zm 6 11] .ret)),[.t 6]⟩
theorem za7:cN Tryz.prog 7=some c7:=by kernel_rfl
def c28:AFn:=⟨76,zq [zo 8 (.mv (.c (.bool false)))] (.seq (zq [zo 9 (.mv (zi 0))] (.block 0 (.loop (zr [zm 10 9,zm 11 0,zh 12 11,zb 13 .lss 10 12] 13 .skip (.exit 0) (.seq (.block 1 (zq [zm 16 3,zm 17 3,zc 18 17,zl 19 18,zk 20 .add 19 1,zc 21 16,zs 21 20] (zq [zm 22 3,zc 23 22,zl 24 23,zm 25 2,zb 26 .gtr 24 25,zm 27 26,zg 28 (.mv (.t 1)) 27 false,zg 29 (.bin .lss (.t 28) (zi 1)) 27 false,zo 30 (.pick (.t 27) (.c (.bool true)) (.t 29)),zm 31 30,zg 32 (.mv (.t 0)) 31 false,zg 33 (.mv (.t 9)) 31 false,zg 34 (.idxA 9 (.t 32) (.t 33)) 31 false,zg 35 (.fieldA 1 (.t 34)) 31 false,zg 36 (.load false 1 (.t 35)) 31 false,zg 37 (.len true (.t 36)) 31 false,zg 38 (.bin .gtr (.t 37) (zi 1000)) 31 false,zo 39 (.pick (.t 31) (.c (.bool true)) (.t 38)),zm 40 39,zg 41 (.mv (.t 0)) 40 false,zg 42 (.mv (.t 9)) 40 false,zg 43 (.idxA 9 (.t 41) (.t 42)) 40 false,zg 44 (.fieldA 2 (.t 43)) 40 false,zg 45 (.load true 4 (.t 44)) 40 false,zg 46 (.mv (.t 1)) 40 false,zg 47 (.bin .sub (.t 46) (zi 1)) 40 false,zg 48 (.mv (.t 2)) 40 false,zg 49 (.mv (.t 3)) 40 false,zg 50 (.call 56 [.t 45,.t 47,.t 48,.t 49]) 40 false,zo 51 (.pick (.t 40) (.c (.bool true)) (.t 50)),zm 52 51,zg 53 (.mv (.t 0)) 52 false,zg 54 (.mv (.t 9)) 52 false,zg 55 (.idxA 9 (.t 53) (.t 54)) 52 false,zg 56 (.fieldA 6 (.t 55)) 52 false,zg 57 (.load false 1 (.t 56)) 52 false,zg 58 (.mv (.t 1)) 52 false,zg 59 (.bin .sub (.t 58) (zi 1)) 52 false,zg 60 (.mv (.t 2)) 52 false,zg 61 (.mv (.t 3)) 52 false,zg 62 (.call 28 [.t 57,.t 59,.t 60,.t 61]) 52 false,zo 63 (.pick (.t 52) (.c (.bool true)) (.t 62)),zm 64 63,zg 65 (.mv (.t 0)) 64 false,zg 66 (.mv (.t 9)) 64 false,zg 67 (.idxA 9 (.t 65) (.t 66)) 64 false,zg 68 (.fieldA 7 (.t 67)) 64 false,zg 69 (.load false 1 (.t 68)) 64 false,zg 70 (.mv (.t 1)) 64 false,zg 71 (.bin .sub (.t 70) (zi 1)) 64 false,zg 72 (.mv (.t 2)) 64 false,zg 73 (.mv (.t 3)) 64 false,zg 74 (.call 28 [.t 69,.t 71,.t 72,.t 73]) 64 false,zo 75 (.pick (.t 64) (.c (.bool true)) (.t 74))] (.cond (.t 75) (zq [zo 8 (.mv (.c (.bool true)))] .ret) .skip)))) (.reg [zm 14 9,zk 15 .add 14 1,zm 9 15])))))) (zq [zo 8 (.mv (.c (.bool false)))] .ret)),[.t 8]⟩
theorem za28:cN Tryz.prog 28=some c28:=by kernel_rfl
def c56:AFn:=⟨48,zq [zo 4 (.box (.t 0)),zo 8 (.mv (.c (.bool false)))] (zq [zm 10 3,zm 11 3,zc 12 11,zl 13 12,zk 14 .add 13 1,zc 15 10,zs 15 14] (zr [zm 16 3,zc 17 16,zl 18 17,zm 19 2,zb 20 .gtr 18 19,zm 21 20,zg 22 (.mv (.t 1)) 21 false,zg 23 (.bin .lss (.t 22) (zi 1)) 21 false,zo 24 (.pick (.t 21) (.c (.bool true)) (.t 23)),zm 25 24,zg 26 (.fieldA 1 (.t 4)) 25 false,zg 27 (.load false 1 (.t 26)) 25 false,zg 28 (.len true (.t 27)) 25 false,zg 29 (.bin .gtr (.t 28) (zi 1000)) 25 false,zo 30 (.pick (.t 25) (.c (.bool true)) (.t 29))] 30 (zq [zo 8 (.mv (.c (.bool true)))] .ret) .skip (.seq (zq [zo 9 (.mv (zi 0))] (.block 0 (.loop (zr [zm 31 9,zf 32 3 4,zl 33 32,zh 34 33,zb 35 .lss 31 34] 35 .skip (.exit 0) (.seq (.block 1 (zq [zf 38 3 4,zl 39 38,zm 40 9,zo 41 (.idxA 4 (.t 39) (.t 40)),zt 42 4 41,zm 43 1,zk 44 .sub 43 1,zm 45 2,zm 46 3,zx 47 56 [.t 42,.t 44,.t 45,.t 46]] (.cond (.t 47) (zq [zo 8 (.mv (.c (.bool true)))] .ret) .skip))) (.reg [zm 36 9,zk 37 .add 36 1,zm 9 37])))))) (zq [zo 8 (.mv (.c (.bool false)))] .ret)))),[.t 8]⟩
theorem za56:cN Tryz.prog 56=some c56:=by kernel_rfl
def c11:AFn:=⟨33,zq [zo 2 (.mv zn)] (zq [zo 3 (.mv zn)] (.seq (zq [zo 4 (.mv (zi 0))] (.block 0 (.loop (zr [zm 6 4,zm 7 0,zh 8 7,zb 9 .lss 6 8] 9 .skip (.exit 0) (.seq (.block 1 (zq [zm 12 0,zm 13 4,zo 14 (.idxA 9 (.t 12) (.t 13)),zt 15 9 14,zo 5 (.new [zU 0,.str [],zU 0,.str [],zI 0,zN,zN,zN,zI 0]),zp (.store 9 (.t 5) (.t 15))] (.seq (.draw [zf 16 2 5,zt 17 4 16,zx 18 36 [.t 17],zf 19 6 5,zl 20 19,zx 21 11 [.t 20],zf 22 7 5,zl 23 22,zx 24 11 [.t 23],zf 25 2 5,zp (.store 4 (.t 25) (.t 18)),zf 26 6 5,zs 26 21,zf 27 7 5,zs 27 24] [[],[],[],[],[2],[],[],[2,5],[],[],[],[],[],[],[]]) (.reg [zm 28 3,zt 29 9 5,zo 30 (.buildSl 1 [zU 0,.str [],zU 0,.str [],zI 0,zN,zN,zN,zI 0] [(0,9,.t 29)]),zo 31 (.append 9 136 (.t 28) (.t 30)),zm 3 31])))) (.reg [zm 10 4,zk 11 .add 10 1,zm 4 11])))))) (zq [zm 32 3,zm 2 32] .ret))),[.t 2]⟩
theorem za11:cN Tryz.prog 11=some c11:=by kernel_rfl
def c36:AFn:=⟨31,zq [zo 1 (.box (.t 0)),zo 2 (.new [zU 0,.str [],zI 0,zN])] (zq [zf 5 0 1,zl 6 5,zf 7 1 1,zl 8 7,zf 9 2 1,zl 10 9,zo 11 (.build [zU 0,.str [],zI 0,zN] [(0,1,.t 6),(1,1,.t 8),(2,1,.t 10)]),zo 3 (.new [zU 0,.str [],zI 0,zN]),zp (.store 4 (.t 3) (.t 11))] (.seq (zq [zo 4 (.mv (zi 0))] (.block 0 (.loop (zr [zm 12 4,zf 13 3 1,zl 14 13,zh 15 14,zb 16 .lss 12 15] 16 .skip (.exit 0) (.seq (.block 1 (.draw [zf 19 3 3,zl 20 19,zf 21 3 1,zl 22 21,zm 23 4,zo 24 (.idxA 4 (.t 22) (.t 23)),zt 25 4 24,zx 26 36 [.t 25],zo 27 (.buildSl 1 [zU 0,.str [],zI 0,zN] [(0,4,.t 26)]),zo 28 (.append 4 56 (.t 20) (.t 27)),zf 29 3 3,zs 29 28] [[],[8,9],[],[],[],[],[],[],[],[],[],[]])) (.reg [zm 17 4,zk 18 .add 17 1,zm 4 18])))))) (zq [zt 30 4 3,zp (.store 4 (.t 2) (.t 30))] .ret))),[.cell true 4 2]⟩
theorem za36:cN Tryz.prog 36=some c36:=by kernel_rfl
def c16:AFn:=⟨9,zq [zo 2 (.mv (.c (.bool false)))] (zq [zm 3 0,zx 4 35 [.t 3],zm 5 4,zg 6 (.mv (.t 0)) 5 true,zg 7 (.call 41 [.t 6]) 5 true,zo 8 (.pick (.t 5) (.t 7) (.c (.bool false))),zm 2 8] .ret),[.t 2]⟩
theorem za16:cN Tryz.prog 16=some c16:=by kernel_rfl
def c35:AFn:=⟨16,zq [zo 2 (.mv (.c (.bool false)))] (zq [zm 6 0,zx 7 81 [.t 6,zi 41],zm 5 7,ze 8 0 5,ze 9 1 5,zm 3 8,zm 4 9] (zq [zm 10 3,zk 11 .leq 10 1000,zm 12 11,zg 13 (.mv (.t 4)) 12 true,zg 14 (.bin .leq (.t 13) (zi 40)) 12 true,zo 15 (.pick (.t 12) (.t 14) (.c (.bool false))),zm 2 15] .ret)),[.t 2]⟩
theorem za35:cN Tryz.prog 35=some c35:=by kernel_rfl
def c81:AFn:=⟨80,zq [zo 4 (.mv (zi 0)),zo 5 (.mv (zi 0))] (zr [zm 11 0,zh 12 11,zk 13 .eql 12 0,zm 14 13,zg 15 (.mv (.t 1)) 14 false,zg 16 (.bin .lss (.t 15) (zi 1)) 14 false,zo 17 (.pick (.t 14) (.c (.bool true)) (.t 16))] 17 (zq [zo 4 (.mv (zi 0)),zo 5 (.mv (zi 0))] .ret) .skip (zq [zm 18 0,zh 19 18,zm 6 19,zo 7 (.mv (zi 0))] (.seq (zq [zo 8 (.mv (zi 0))] (.block 0 (.loop (zr [zm 20 8,zm 21 0,zh 22 21,zb 23 .lss 20 22] 23 .skip (.exit 0) (.seq (.block 1 (zq [zm 27 0,zm 28 8,zo 29 (.idxA 9 (.t 27) (.t 28)),zf 30 2 29,zt 31 4 30,zm 32 1,zk 33 .sub 32 1,zx 34 117 [.t 31,.t 33],zm 26 34,ze 35 0 26,ze 36 1 26,zm 9 35,zm 10 36] (zq [zm 37 6,zm 38 9,zb 39 .add 37 38,zm 40 7,zm 41 10,zo 42 (.pf (.mm true) [.t 40,.t 41]),zm 6 39,zm 7 42] (zq [zm 44 0,zm 45 8,zo 46 (.idxA 9 (.t 44) (.t 45)),zf 47 6 46,zl 48 47,zm 49 1,zk 50 .sub 49 1,zx 51 81 [.t 48,.t 50],zm 43 51,ze 52 0 43,ze 53 1 43,zm 9 52,zm 10 53] (zq [zm 54 6,zm 55 9,zb 56 .add 54 55,zm 57 7,zm 58 10,zo 59 (.pf (.mm true) [.t 57,.t 58]),zm 6 56,zm 7 59] (zq [zm 61 0,zm 62 8,zo 63 (.idxA 9 (.t 61) (.t 62)),zf 64 7 63,zl 65 64,zm 66 1,zk 67 .sub 66 1,zx 68 81 [.t 65,.t 67],zm 60 68,ze 69 0 60,ze 70 1 60,zm 9 69,zm 10 70] (.reg [zm 71 6,zm 72 9,zb 73 .add 71 72,zm 74 7,zm 75 10,zo 76 (.pf (.mm true) [.t 74,.t 75]),zm 6 73,zm 7 76]))))))) (.reg [zm 24 8,zk 25 .add 24 1,zm 8 25])))))) (zq [zm 77 6,zm 78 7,zk 79 .add 78 1,zm 4 77,zm 5 79] .ret)))),[.t 4,.t 5]⟩
theorem za81:cN Tryz.prog 81=some c81:=by kernel_rfl
def c117:AFn:=⟨40,zq [zo 2 (.box (.t 0)),zo 4 (.mv (zi 0)),zo 5 (.mv (zi 0))] (zr [zm 11 1,zk 12 .lss 11 1] 12 (zq [zo 4 (.mv (zi 0)),zo 5 (.mv (zi 0))] .ret) .skip (zq [zo 6 (.mv (zi 1)),zo 7 (.mv (zi 0))] (.seq (zq [zo 8 (.mv (zi 0))] (.block 0 (.loop (zr [zm 13 8,zf 14 3 2,zl 15 14,zh 16 15,zb 17 .lss 13 16] 17 .skip (.exit 0) (.seq (.block 1 (zq [zf 21 3 2,zl 22 21,zm 23 8,zo 24 (.idxA 4 (.t 22) (.t 23)),zt 25 4 24,zm 26 1,zk 27 .sub 26 1,zx 28 117 [.t 25,.t 27],zm 20 28,ze 29 0 20,ze 30 1 20,zm 9 29,zm 10 30] (.reg [zm 31 6,zm 32 9,zb 33 .add 31 32,zm 34 7,zm 35 10,zo 36 (.pf (.mm true) [.t 34,.t 35]),zm 6 33,zm 7 36]))) (.reg [zm 18 8,zk 19 .add 18 1,zm 8 19])))))) (zq [zm 37 6,zm 38 7,zk 39 .add 38 1,zm 4 37,zm 5 39] .ret)))),[.t 4,.t 5]⟩
theorem za117:cN Tryz.prog 117=some c117:=by kernel_rfl
def c41:AFn:=⟨89,zq [zo 2 (.mv (.c (.bool false)))] (.seq (zq [zo 3 (.mv (zi 0))] (.block 0 (.loop (zr [zm 6 3,zm 7 0,zh 8 7,zb 9 .lss 6 8] 9 .skip (.exit 0) (.seq (.block 1 (zq [zm 12 0,zm 13 3,zo 14 (.idxA 9 (.t 12) (.t 13)),zt 15 9 14,zo 4 (.new [zU 0,.str [],zU 0,.str [],zI 0,zN,zN,zN,zI 0]),zp (.store 9 (.t 4) (.t 15))] (zq [zf 16 0 4,zl 17 16,zo 18 (.bin .eql (.t 17) (zu 1)),zm 19 18,zg 20 (.fieldA 0 (.t 4)) 19 false,zg 21 (.load false 1 (.t 20)) 19 false,zg 22 (.bin .eql (.t 21) (zu 2)) 19 false,zo 23 (.pick (.t 19) (.c (.bool true)) (.t 22)),zm 5 23] (zr [zm 24 5,zf 25 1 4,zl 26 25,zx 27 85 [.t 26],zo 28 (.pf (.eqv true .bool) [.t 24,.t 27]),zm 29 28,zg 30 (.mv (.t 5)) 29 false,zg 31 (.un .not (.t 30)) 29 false,zg 32 (.mv (.t 31)) 29 false,zg 33 (.fieldA 1 (.t 4)) 32 true,zg 34 (.load false 1 (.t 33)) 32 true,zg 35 (.bin .neq (.t 34) (.c (.str []))) 32 true,zg 36 (.pick (.t 32) (.t 35) (.c (.bool false))) 29 false,zo 37 (.pick (.t 29) (.c (.bool true)) (.t 36)),zm 38 37,zg 39 (.fieldA 0 (.t 4)) 38 false,zg 40 (.load false 1 (.t 39)) 38 false,zg 41 (.bin .lss (.t 40) (zu 1)) 38 false,zo 42 (.pick (.t 38) (.c (.bool true)) (.t 41)),zm 43 42,zg 44 (.fieldA 0 (.t 4)) 43 false,zg 45 (.load false 1 (.t 44)) 43 false,zg 46 (.bin .gtr (.t 45) (zu 5)) 43 false,zo 47 (.pick (.t 43) (.c (.bool true)) (.t 46)),zm 48 47,zg 49 (.fieldA 2 (.t 4)) 48 false,zg 50 (.load true 4 (.t 49)) 48 false,zg 51 (.call 86 [.t 50]) 48 false,zg 52 (.un .not (.t 51)) 48 false,zo 53 (.pick (.t 48) (.c (.bool true)) (.t 52))] 53 (zq [zo 2 (.mv (.c (.bool false)))] .ret) .skip (zr [zf 54 7 4,zl 55 54,zh 56 55,zk 57 .gtr 56 0,zm 58 57,zg 59 (.fieldA 0 (.t 4)) 58 true,zg 60 (.load false 1 (.t 59)) 58 true,zg 61 (.bin .neq (.t 60) (zu 3)) 58 true,zo 62 (.pick (.t 58) (.t 61) (.c (.bool false))),zm 63 62,zg 64 (.fieldA 6 (.t 4)) 63 false,zg 65 (.load false 1 (.t 64)) 63 false,zg 66 (.len false (.t 65)) 63 false,zg 67 (.bin .gtr (.t 66) (zi 0)) 63 false,zg 68 (.mv (.t 67)) 63 false,zg 69 (.fieldA 0 (.t 4)) 68 true,zg 70 (.load false 1 (.t 69)) 68 true,zg 71 (.bin .neq (.t 70) (zu 3)) 68 true,zg 72 (.pick (.t 68) (.t 71) (.c (.bool false))) 63 false,zg 73 (.mv (.t 72)) 63 false,zg 74 (.fieldA 0 (.t 4)) 73 true,zg 75 (.load false 1 (.t 74)) 73 true,zg 76 (.bin .neq (.t 75) (zu 4)) 73 true,zg 77 (.pick (.t 73) (.t 76) (.c (.bool false))) 63 false,zo 78 (.pick (.t 63) (.c (.bool true)) (.t 77))] 78 (zq [zo 2 (.mv (.c (.bool false)))] .ret) .skip (zq [zf 79 6 4,zl 80 79,zx 81 41 [.t 80],zo 82 (.un .not (.t 81)),zm 83 82,zg 84 (.fieldA 7 (.t 4)) 83 false,zg 85 (.load false 1 (.t 84)) 83 false,zg 86 (.call 41 [.t 85]) 83 false,zg 87 (.un .not (.t 86)) 83 false,zo 88 (.pick (.t 83) (.c (.bool true)) (.t 87))] (.cond (.t 88) (zq [zo 2 (.mv (.c (.bool false)))] .ret) .skip))))))) (.reg [zm 10 3,zk 11 .add 10 1,zm 3 11])))))) (zq [zo 2 (.mv (.c (.bool true)))] .ret)),[.t 2]⟩
theorem za41:cN Tryz.prog 41=some c41:=by kernel_rfl
def c85:AFn:=⟨30,zq [zo 2 (.mv (.c (.bool false)))] (zq [zm 6 0,zx 7 71 [.t 6,zi 0],zm 5 7,ze 8 0 5,ze 9 1 5,zo 3 (.new [zU 0,.str [],zI 0,zI 0,zI 0,zI 0]),zo 4 (.new [zI 0,zI 0]),zp (.store 6 (.t 3) (.t 8)),zp (.store 2 (.t 4) (.t 9))] (zq [zf 10 0 4,zl 11 10,zk 12 .eql 11 0,zm 13 12,zg 14 (.fieldA 0 (.t 3)) 13 true,zg 15 (.load false 1 (.t 14)) 13 true,zg 16 (.bin .eql (.t 15) (zu 2)) 13 true,zo 17 (.pick (.t 13) (.t 16) (.c (.bool false))),zm 18 17,zg 19 (.fieldA 4 (.t 3)) 18 true,zg 20 (.load false 1 (.t 19)) 18 true,zg 21 (.bin .eql (.t 20) (zi 0)) 18 true,zo 22 (.pick (.t 18) (.t 21) (.c (.bool false))),zm 23 22,zg 24 (.fieldA 5 (.t 3)) 23 true,zg 25 (.load false 1 (.t 24)) 23 true,zg 26 (.mv (.t 0)) 23 true,zg 27 (.len true (.t 26)) 23 true,zg 28 (.bin .eql (.t 25) (.t 27)) 23 true,zo 29 (.pick (.t 23) (.t 28) (.c (.bool false))),zm 2 29] .ret)),[.t 2]⟩
theorem za85:cN Tryz.prog 85=some c85:=by kernel_rfl
def c86:AFn:=⟨91,zq [zo 1 (.box (.t 0)),zo 2 (.mv (.c (.bool false)))] (.seq (zq [zo 3 (.mv (zi 0))] (.block 0 (.loop (zr [zm 4 3,zf 5 3 1,zl 6 5,zh 7 6,zb 8 .lss 4 7] 8 .skip (.exit 0) (.seq (.block 1 (zq [zf 11 3 1,zl 12 11,zm 13 3,zo 14 (.idxA 4 (.t 12) (.t 13)),zt 15 4 14,zx 16 86 [.t 15],zo 17 (.un .not (.t 16))] (.cond (.t 17) (zq [zo 2 (.mv (.c (.bool false)))] .ret) .skip))) (.reg [zm 9 3,zk 10 .add 9 1,zm 3 10])))))) (.seq (zq [zf 18 0 1,zl 19 18] (.block 2 (zq [zo 21 (.bin .eql (.t 19) (zu 1)),zm 20 21] (.cond (.t 20) (zq [zf 22 2 1,zl 23 22,zk 24 .geq 23 0,zm 25 24,zg 26 (.fieldA 1 (.t 1)) 25 true,zg 27 (.load false 1 (.t 26)) 25 true,zg 28 (.bin .eql (.t 27) (.c (.str []))) 25 true,zo 29 (.pick (.t 25) (.t 28) (.c (.bool false))),zm 30 29,zg 31 (.fieldA 3 (.t 1)) 30 true,zg 32 (.load false 1 (.t 31)) 30 true,zg 33 (.len false (.t 32)) 30 true,zg 34 (.bin .eql (.t 33) (zi 0)) 30 true,zo 35 (.pick (.t 30) (.t 34) (.c (.bool false))),zm 2 35] .ret) (zq [zo 37 (.bin .eql (.t 19) (zu 2)),zm 36 37] (.cond (.t 36) (zq [zf 38 2 1,zl 39 38,zk 40 .eql 39 0,zm 41 40,zg 42 (.fieldA 1 (.t 1)) 41 true,zg 43 (.load false 1 (.t 42)) 41 true,zg 44 (.call 85 [.t 43]) 41 true,zo 45 (.pick (.t 41) (.t 44) (.c (.bool false))),zm 46 45,zg 47 (.fieldA 3 (.t 1)) 46 true,zg 48 (.load false 1 (.t 47)) 46 true,zg 49 (.len false (.t 48)) 46 true,zg 50 (.bin .eql (.t 49) (zi 0)) 46 true,zo 51 (.pick (.t 46) (.t 50) (.c (.bool false))),zm 2 51] .ret) (zq [zo 53 (.bin .eql (.t 19) (zu 3)),zm 52 53] (.cond (.t 52) (zq [zf 54 2 1,zl 55 54,zk 56 .eql 55 0,zm 57 56,zg 58 (.fieldA 3 (.t 1)) 57 true,zg 59 (.load false 1 (.t 58)) 57 true,zg 60 (.len false (.t 59)) 57 true,zg 61 (.bin .eql (.t 60) (zi 2)) 57 true,zg 62 (.mv (.t 61)) 57 true,zg 63 (.fieldA 1 (.t 1)) 62 true,zg 64 (.load false 1 (.t 63)) 62 true,zg 65 (.buildSl 12 [.str []] [(0,1,.c (.str [124,124])),(1,1,.c (.str [38,38])),(2,1,.c (.str [61,61])),(3,1,.c (.str [33,61])),(4,1,.c (.str [60,61])),(5,1,.c (.str [62,61])),(6,1,.c (.str [60])),(7,1,.c (.str [62])),(8,1,.c (.str [43])),(9,1,.c (.str [45])),(10,1,.c (.str [42])),(11,1,.c (.str [47]))]) 62 true,zg 66 (.call 126 [.t 64,.t 65]) 62 true,zg 67 (.pick (.t 62) (.t 66) (.c (.bool false))) 57 true,zg 68 (.mv (.t 67)) 57 true,zg 69 (.fieldA 3 (.t 1)) 68 false,zg 70 (.load false 1 (.t 69)) 68 false,zg 71 (.len false (.t 70)) 68 false,zg 72 (.bin .eql (.t 71) (zi 1)) 68 false,zg 73 (.mv (.t 72)) 68 false,zg 74 (.fieldA 1 (.t 1)) 73 true,zg 75 (.load false 1 (.t 74)) 73 true,zg 76 (.buildSl 2 [.str []] [(0,1,.c (.str [45])),(1,1,.c (.str [33]))]) 73 true,zg 77 (.call 126 [.t 75,.t 76]) 73 true,zg 78 (.pick (.t 73) (.t 77) (.c (.bool false))) 68 false,zg 79 (.pick (.t 68) (.c (.bool true)) (.t 78)) 57 true,zo 80 (.pick (.t 57) (.t 79) (.c (.bool false))),zm 2 80] .ret) (zq [zo 82 (.bin .eql (.t 19) (zu 4)),zm 81 82] (.cond (.t 81) (zq [zf 83 2 1,zl 84 83,zk 85 .eql 84 0,zm 86 85,zg 87 (.fieldA 1 (.t 1)) 86 true,zg 88 (.load false 1 (.t 87)) 86 true,zg 89 (.call 85 [.t 88]) 86 true,zo 90 (.pick (.t 86) (.t 89) (.c (.bool false))),zm 2 90] .ret) .skip)))))))))) (zq [zo 2 (.mv (.c (.bool false)))] .ret))),[.t 2]⟩
theorem za86:cN Tryz.prog 86=some c86:=by kernel_rfl
def c126:AFn:=⟨18,zq [zo 4 (.mv (.c (.bool false)))] (.seq (zq [zo 5 (.mv (zi 0))] (.block 0 (.loop (zr [zm 6 5,zm 7 1,zh 8 7,zb 9 .lss 6 8] 9 .skip (.exit 0) (.seq (.block 1 (zq [zm 12 1,zm 13 5,zd 14 12 13,zl 15 14,zm 16 0,zb 17 .eql 15 16] (.cond (.t 17) (zq [zo 4 (.mv (.c (.bool true)))] .ret) .skip))) (.reg [zm 10 5,zk 11 .add 10 1,zm 5 11])))))) (zq [zo 4 (.mv (.c (.bool false)))] .ret)),[.t 4]⟩
theorem za126:cN Tryz.prog 126=some c126:=by kernel_rfl
def c14:AFn:=⟨77,zq [zo 6 (.mv (.c (.bool false)))] (zr [zm 10 0,zh 11 10,zm 12 1,zh 13 12,zb 14 .neq 11 13] 14 (zq [zo 6 (.mv (.c (.bool false)))] .ret) .skip (.seq (zq [zo 7 (.mv (zi 0))] (.block 0 (.loop (zr [zm 15 7,zm 16 0,zh 17 16,zb 18 .lss 15 17] 18 .skip (.exit 0) (.seq (.block 1 (.seq (.draw [zm 21 0,zm 22 7,zo 23 (.idxA 9 (.t 21) (.t 22)),zt 24 9 23,zm 25 1,zm 26 7,zo 27 (.idxA 9 (.t 25) (.t 26)),zt 28 9 27,zo 8 (.new [zU 0,.str [],zU 0,.str [],zI 0,zN,zN,zN,zI 0]),zo 9 (.new [zU 0,.str [],zU 0,.str [],zI 0,zN,zN,zN,zI 0]),zp (.store 9 (.t 8) (.t 24)),zp (.store 9 (.t 9) (.t 28))] [[],[],[],[],[],[],[],[11],[],[],[],[]]) (zq [zf 29 0 8,zl 30 29,zf 31 0 9,zl 32 31,zb 33 .neq 30 32,zm 34 33,zg 35 (.fieldA 1 (.t 8)) 34 false,zg 36 (.load false 1 (.t 35)) 34 false,zg 37 (.fieldA 1 (.t 9)) 34 false,zg 38 (.load false 1 (.t 37)) 34 false,zg 39 (.bin .neq (.t 36) (.t 38)) 34 false,zo 40 (.pick (.t 34) (.c (.bool true)) (.t 39)),zm 41 40,zg 42 (.mv (.t 2)) 41 false,zg 43 (.mv (.t 42)) 41 false,zg 44 (.fieldA 8 (.t 8)) 43 true,zg 45 (.load false 1 (.t 44)) 43 true,zg 46 (.fieldA 8 (.t 9)) 43 true,zg 47 (.load false 1 (.t 46)) 43 true,zg 48 (.bin .neq (.t 45) (.t 47)) 43 true,zg 49 (.pick (.t 43) (.t 48) (.c (.bool false))) 41 false,zo 50 (.pick (.t 41) (.c (.bool true)) (.t 49)),zm 51 50,zg 52 (.fieldA 2 (.t 8)) 51 false,zg 53 (.load true 4 (.t 52)) 51 false,zg 54 (.fieldA 2 (.t 9)) 51 false,zg 55 (.load true 4 (.t 54)) 51 false,zg 56 (.call 39 [.t 53,.t 55]) 51 false,zg 57 (.un .not (.t 56)) 51 false,zo 58 (.pick (.t 51) (.c (.bool true)) (.t 57)),zm 59 58,zg 60 (.fieldA 6 (.t 8)) 59 false,zg 61 (.load false 1 (.t 60)) 59 false,zg 62 (.fieldA 6 (.t 9)) 59 false,zg 63 (.load false 1 (.t 62)) 59 false,zg 64 (.mv (.t 2)) 59 false,zg 65 (.call 14 [.t 61,.t 63,.t 64]) 59 false,zg 66 (.un .not (.t 65)) 59 false,zo 67 (.pick (.t 59) (.c (.bool true)) (.t 66)),zm 68 67,zg 69 (.fieldA 7 (.t 8)) 68 false,zg 70 (.load false 1 (.t 69)) 68 false,zg 71 (.fieldA 7 (.t 9)) 68 false,zg 72 (.load false 1 (.t 71)) 68 false,zg 73 (.mv (.t 2)) 68 false,zg 74 (.call 14 [.t 70,.t 72,.t 73]) 68 false,zg 75 (.un .not (.t 74)) 68 false,zo 76 (.pick (.t 68) (.c (.bool true)) (.t 75))] (.cond (.t 76) (zq [zo 6 (.mv (.c (.bool false)))] .ret) .skip)))) (.reg [zm 19 7,zk 20 .add 19 1,zm 7 20])))))) (zq [zo 6 (.mv (.c (.bool true)))] .ret))),[.t 6]⟩
theorem za14:cN Tryz.prog 14=some c14:=by kernel_rfl
def c39:AFn:=⟨53,zq [zo 2 (.box (.t 0)),zo 3 (.box (.t 1)),zo 4 (.mv (.c (.bool false)))] (zr [zf 6 0 2,zl 7 6,zf 8 0 3,zl 9 8,zb 10 .neq 7 9,zm 11 10,zg 12 (.fieldA 1 (.t 2)) 11 false,zg 13 (.load false 1 (.t 12)) 11 false,zg 14 (.fieldA 1 (.t 3)) 11 false,zg 15 (.load false 1 (.t 14)) 11 false,zg 16 (.bin .neq (.t 13) (.t 15)) 11 false,zo 17 (.pick (.t 11) (.c (.bool true)) (.t 16)),zm 18 17,zg 19 (.fieldA 2 (.t 2)) 18 false,zg 20 (.load false 1 (.t 19)) 18 false,zg 21 (.fieldA 2 (.t 3)) 18 false,zg 22 (.load false 1 (.t 21)) 18 false,zg 23 (.bin .neq (.t 20) (.t 22)) 18 false,zo 24 (.pick (.t 18) (.c (.bool true)) (.t 23)),zm 25 24,zg 26 (.fieldA 3 (.t 2)) 25 false,zg 27 (.load false 1 (.t 26)) 25 false,zg 28 (.len false (.t 27)) 25 false,zg 29 (.fieldA 3 (.t 3)) 25 false,zg 30 (.load false 1 (.t 29)) 25 false,zg 31 (.len false (.t 30)) 25 false,zg 32 (.bin .neq (.t 28) (.t 31)) 25 false,zo 33 (.pick (.t 25) (.c (.bool true)) (.t 32))] 33 (zq [zo 4 (.mv (.c (.bool false)))] .ret) .skip (.seq (zq [zo 5 (.mv (zi 0))] (.block 0 (.loop (zr [zm 34 5,zf 35 3 2,zl 36 35,zh 37 36,zb 38 .lss 34 37] 38 .skip (.exit 0) (.seq (.block 1 (zq [zf 41 3 2,zl 42 41,zm 43 5,zo 44 (.idxA 4 (.t 42) (.t 43)),zt 45 4 44,zf 46 3 3,zl 47 46,zm 48 5,zo 49 (.idxA 4 (.t 47) (.t 48)),zt 50 4 49,zx 51 39 [.t 45,.t 50],zo 52 (.un .not (.t 51))] (.cond (.t 52) (zq [zo 4 (.mv (.c (.bool false)))] .ret) .skip))) (.reg [zm 39 5,zk 40 .add 39 1,zm 5 40])))))) (zq [zo 4 (.mv (.c (.bool true)))] .ret))),[.t 4]⟩
theorem za39:cN Tryz.prog 39=some c39:=by kernel_rfl
end
open Go.Abs Go.Abs.S
end Go.Proofs.Wo
namespace Go.Proofs.Wo
open Go.Abs Go.Abs.S
theorem pf_maxN(a b:Nat):aPf (.mm true) [.int .i64 (a:Int),.int .i64 (b:Int)]=some (.int .i64 ((max a b:Nat):Int)):=by
 have:aPf (.mm true) [.int .i64 (a:Int),.int .i64 (b:Int)]=some (.int .i64 (if (a:Int)<(b:Int) then (b:Int) else a)):=by
  simp only[aPf,aMMs,aMM,aMM1,ltF_eq,cond_true]
  by_cases h:(a:Int)<b <;> simp[h]
 rw[this]
 congr 2
 split <;> omega
theorem addN(a b:Nat)(h:a+b≤1000000000):IntKind.i64.wrap ((a:Int)+(b:Int))=((a+b:Nat):Int):=w64
theorem sizeE_pos(e:Ex):1≤e.size:=by cases e; simp only[Ex.size]; omega
theorem fsizee_spec:∀(N:Nat) {e:Ex} {c:List AVal} {H:AHeap} {lv:Nat},e.size≤N→XE (·<H.next) H e c→lv≤100→e.size≤1000000 →
  ACalls Tryz.prog natT 117 [.agg c,.int .i64 (lv:Int)] H fun u H'=>(∃n d:Nat,u=.tuple [.int .i64 (n:Int),.int .i64 (d:Int)]∧n≤e.size∧d=min lv e.deep∧(e.deep≤lv→n=e.size))∧Ext H.next H H'
 | 0,e,_,_,_,h,_,_,_=>absurd (sizeE_pos e) om
 | N+1,.mk k s z kids,c,H,lv,h,hx,hl,hs=>by
  obtain⟨v,C,rfl,z1,z2⟩:=hx
  have hsz:(Ex.mk k s z kids).size=sizesE kids+1:=rfl
  have hdp:(Ex.mk k s z kids).deep=deepsE kids+1:=rfl
  refine acalls_ofN rfl za117 rfl ?_
  obtain⟨H1,m1,r1,n1,k1⟩:=row_newL H [.int .u8 (k:Int),.str s,.int .i64 z,v] (n:=4) rfl
  have E1:Ext H.next H H1:=⟨om,fun c hc=>k1 c om⟩
  by_cases hl0:lv=0
  ·subst hl0
   have hl':((0:Nat):Int)<1:=om
   simp only[c117,sA,sB,seval,cells_agg,m1,hl']
   exact⟨⟨0,0,tt,om,om,om⟩,E1⟩
  have hl':¬(lv:Int)<1:=om
  have hlw:IntKind.i64.wrap ((lv:Int)-1)=((lv-1:Nat):Int):=w64
  have l3:∀{K:AHeap},Ext H1.next H1 K→oLoad false 1 K (cellR H.next 4 3)=some v:=fun q=>row_load (r1.same (q.old _ om)) rfl rfl
  have ln:=z1.len
  simp only[c117,sA,sB,seval,cells_agg,m1,hl']
  refine aw_loop (fun m (T:Env) K=>∃i n d:Nat,m=kids.length-i∧i≤kids.length∧T 1=.int .i64 (lv:Int)∧T 2=cellR H.next 4 0∧T 6=.int .i64 (n:Int)∧T 7=.int .i64 (d:Int)∧T 8=.int .i64 (i:Int)∧Ext H1.next H1 K∧n≤1+sizesE (kids.take i)∧d=min (lv-1) (deepsE (kids.take i))∧(deepsE (kids.take i)≤lv-1→n=1+sizesE (kids.take i))) kids.length
   ⟨0,1,0,rfl,Nat.zero_le _,by simp only[sA,sB,seval]; try rfl,by simp only[sA,sB,seval],by simp only[sA,sB,seval]; try rfl,by simp only[sA,sB,seval]; try rfl,by simp only[sA,sB,seval]; try rfl,Ext.refl _ _,by simp[sizesE],by simp[deepsE],fun _=>by simp[sizesE]⟩ ?_
  rintro m T K ⟨i,n,d,rfl,hi,t1,t2,t6,t7,t8,EK,hn,hd,hnd⟩
  have eK:=EK.next
  have l3K:=l3 EK
  by_cases hlt:i<kids.length
  case neg=>
   obtain rfl:i=kids.length:=om
   have hlt':¬(kids.length:Int)<(kids.length:Int):=om
   rw[List.take_length]at hn hd hnd
   have wd:IntKind.i64.wrap ((d:Int)+1)=((d+1:Nat):Int):=addN d 1 om
   simp only[sA,sB,seval,t1,t2,t6,t7,t8,fldA,l3K,ln,hlt',wd]
   refine⟨⟨n,d+1,tt,om,om,fun q=>by rw[hnd om]; omega⟩,om,fun c hc=>by rw[EK.old c om,E1.old c hc]⟩
  have hlt':(i:Int)<(kids.length:Int):=om
  obtain⟨e,he⟩:∃e,kids[i]?=some e:=⟨_,List.getElem?_eq_getElem hlt⟩
  have hts:kids.take (i+1)=kids.take i++[e]:=by rw[List.take_add_one,he]; rfl
  have km:∀b,b<H.next→b<K.next∧K.get b=H.get b:=fun b hb=>⟨om,by rw[EK.old b om,E1.old b hb]⟩
  have z13:=z1.mono km
  have z23:=z2.mono km
  have ix:=z13.idx hlt
  have ld:=z13.load hlt
  have he3:=z23.at he
  have hsm:=size_mem (List.mem_of_getElem? he)
  have hlen:=len_sizesE kids
  have wi:IntKind.i64.wrap ((i:Int)+1)=((i+1:Nat):Int):=addN i 1 om
  simp only[sA,sB,seval,t1,t2,t6,t7,t8,fldA,l3K,ln,hlt',ix,ld,hlw]
  refine (fsizee_spec N om he3 om om).mono ?_
  rintro _ K2 ⟨⟨n2,d2,rfl,a1,a2,a3⟩,E2⟩
  have htk:sizesE (kids.take (i+1))≤sizesE kids:=by
   have:=List.take_append_drop (i+1) kids
   have h2:sizesE kids=sizesE (kids.take (i+1))+sizesE (kids.drop (i+1)):=by rw[← sizesE_app,this]
   omega
  rw[hts,sizesE_app]at htk
  simp only[sizesE]at htk
  have wn:IntKind.i64.wrap ((n:Int)+(n2:Int))=((n+n2:Nat):Int):=addN n n2 om
  simp only[sA,sB,seval,ext_0,ext_1,t1,t2,t6,t7,t8,wn,pf_maxN,wi]
  refine⟨kids.length-(i+1),om,i+1,n+n2,max d d2,rfl,om,tt,tt,tt,tt,tt,EK.trans (E2.less om),?_,?_,?_⟩
  ·rw[hts,sizesE_app]; simp only[sizesE]; omega
  ·rw[hts,deepsE_app]; simp only[deepsE]; omega
  ·rw[hts,sizesE_app,deepsE_app]; simp only[sizesE,deepsE]; intro q
   rw[hnd om,a3 om]; omega
theorem arD{lv D e b s d d1 d2 d3:Nat}(hd:d=min (lv-1) (D-1))(a2:d1=min (lv-1) e)(b2:d2=min (lv-1) b)(g2:d3=min (lv-1) s):max (max (max d d1) d2) d3=min (lv-1) (max D (max (max e (max b s)+1) 0)-1):=om
theorem arN{lv D e b s n n1 n2 n3 i L S E B Q:Nat}(hl:1≤lv)(hn:D≤lv→n+i=L+S)(a:e≤lv-1→n1=E)(b':b≤lv-1→n2=B)(g:s≤lv-1→n3=Q):max D (max (max e (max b s)+1) 0)≤lv→n+n1+n2+n3+(i+1)=L+(S+(E+B+Q+1+0)):=by
 intro q
 have h1:=hn om
 have h2:=a om
 have h3:=b' om
 have h4:=g om
 omega
set_option maxHeartbeats 1000000 in
theorem fsizes_spec:∀(N:Nat) {l:List St} {C:List AVal} {v:AVal} {H:AHeap} {lv:Nat},sizesS l≤N→SlK (·<H.next) H 9 v l.length C→XSs (·<H.next) H l C→lv≤100→sizesS l≤1000000 →
  ACalls Tryz.prog natT 81 [v,.int .i64 (lv:Int)] H fun u H'=>(∃n d:Nat,u=.tuple [.int .i64 (n:Int),.int .i64 (d:Int)]∧n≤sizesS l∧d=min lv (deepsS l)∧(deepsS l≤lv→n=sizesS l))∧Ext H.next H H':=by
 intro N
 induction N with
 | zero=>
  intro l C v H lv h z1 z2 hl hs
  have hl0:l=[]:=by
   cases l with
   | nil=>rfl
   | cons x l=>have:=sizeS_pos x; simp only[sizesS]at h; omega
  subst hl0
  have ln:=z1.len
  have h0:(([]:List St).length:Int)=0:=rfl
  refine acalls_ofN rfl za81 rfl ?_
  simp only[c81,sA,sB,seval,ln,h0]
  exact⟨⟨0,0,tt,om,by simp[deepsS],fun _=>rfl⟩,Ext.refl _ _⟩
 | succ N ih=>
  intro l C v H lv h z1 z2 hl hs
  have ln:=z1.len
  refine acalls_ofN rfl za81 rfl ?_
  by_cases hl0:l=[]
  ·subst hl0
   have h0:(([]:List St).length:Int)=0:=rfl
   simp only[c81,sA,sB,seval,ln,h0]
   exact⟨⟨0,0,tt,om,by simp[deepsS],fun _=>rfl⟩,Ext.refl _ _⟩
  have h0:¬(l.length:Int)=0:=by have:=List.length_pos_iff.2 hl0; omega
  have hdl:1≤deepsS l:=by
   cases l with
   | nil=>exact absurd rfl hl0
   | cons x l=>cases x; simp only[deepsS,St.deep]; omega
  by_cases hlv:lv=0
  ·subst hlv
   have hl':((0:Nat):Int)<1:=om
   simp only[c81,sA,sB,seval,ln,h0,hl']
   exact⟨⟨0,0,tt,om,om,om⟩,Ext.refl _ _⟩
  have hl':¬(lv:Int)<1:=om
  have hlw:IntKind.i64.wrap ((lv:Int)-1)=((lv-1:Nat):Int):=w64
  have hlen:=len_sizesS l
  simp only[c81,sA,sB,seval,ln,h0,hl']
  refine aw_loop (fun m (T:Env) K=>∃i n d:Nat,m=l.length-i∧i≤l.length∧T 0=v∧T 1=.int .i64 (lv:Int)∧T 6=.int .i64 (n:Int)∧T 7=.int .i64 (d:Int)∧T 8=.int .i64 (i:Int)∧Ext H.next H K∧n+i≤l.length+sizesS (l.take i)∧d=min (lv-1) (deepsS (l.take i)-1)∧(deepsS (l.take i)≤lv→n+i=l.length+sizesS (l.take i))) l.length
   ⟨0,l.length,0,rfl,Nat.zero_le _,by simp only[sA,sB,seval],by simp only[sA,sB,seval]; try rfl,by simp only[sA,sB,seval],by simp only[sA,sB,seval]; try rfl,by simp only[sA,sB,seval]; try rfl,Ext.refl _ _,by simp[sizesS],by simp[deepsS],fun _=>by simp[sizesS]⟩ ?_
  rintro m T K ⟨i,n,d,rfl,hi,t0,t1,t6,t7,t8,EK,hn,hd,hnd⟩
  have eK:=EK.next
  by_cases hlt:i<l.length
  case neg=>
   obtain rfl:i=l.length:=om
   have hlt':¬(l.length:Int)<(l.length:Int):=om
   rw[List.take_length]at hn hd hnd
   have wd:IntKind.i64.wrap ((d:Int)+1)=((d+1:Nat):Int):=addN d 1 om
   simp only[sA,sB,seval,t0,t1,t6,t7,t8,ln,hlt',wd]
   exact⟨⟨n,d+1,tt,om,om,fun q=>by have:=hnd q; omega⟩,EK⟩
  have hlt':(i:Int)<(l.length:Int):=om
  obtain⟨x,he⟩:∃e,l[i]?=some e:=⟨_,List.getElem?_eq_getElem hlt⟩
  have hts:l.take (i+1)=l.take i++[x]:=by rw[List.take_add_one,he]; rfl
  have km:∀{K:AHeap},Ext H.next H K→∀b,b<H.next→b<K.next∧K.get b=H.get b:=fun q b hb=>⟨by have:=q.next; omega,q.old b hb⟩
  have z13:=z1.mono (km EK)
  have ix:=z13.idx hlt
  have pt:=z13.pt hlt
  have hsm:=size_memS (List.mem_of_getElem? he)
  have wi:IntKind.i64.wrap ((i:Int)+1)=((i+1:Nat):Int):=addN i 1 om
  have htk:sizesS (l.take (i+1))≤sizesS l:=by
   have:=List.take_append_drop (i+1) l
   have h2:sizesS l=sizesS (l.take (i+1))+sizesS (l.drop (i+1)):=by rw[← sizesS_app,this]
   omega
  rw[hts,sizesS_app]at htk
  simp only[sizesS]at htk
  have hx3:=(z2.mono (km EK)).at he
  obtain⟨k,s,e,body,els,line⟩:=x
  obtain⟨ce,vb,Cb,ve,Ce,hcell,x1,y1,y2,y3,y4⟩:=hx3
  obtain⟨c0,c1,c2,c3,rfl⟩:∃a b c d,ce=[a,b,c,d]:=by
   have:=x1.len
   match ce,this with
   | [a,b,c,d],_=>exact⟨a,b,c,d,rfl⟩
  rw[hcell]at pt
  have hsz:(St.mk k s e body els line).size=e.size+sizesS body+sizesS els+1:=rfl
  have hdp:(St.mk k s e body els line).deep=max e.deep (max (deepsS body) (deepsS els))+1:=rfl
  have fl2:=pt.fld 2
  have le:oLoad true 4 K (fp (placeK 9 v i) 2)=some (.agg [c0,c1,c2,c3]):=by
   have pe:=pt.part (o:=2) (k:=4) (by simp)
   obtain⟨a,ea,hrd⟩:=pe
   rw[ea]
   simp only[oLoad]
   have hrd':rdCells K a 4=some [c0,c1,c2,c3]:=hrd
   rw[hrd']; rfl
  simp only[sA,sB,seval,t0,t1,t6,t7,t8,ln,hlt',ix,fl2,le,hlw]
  refine (fsizee_spec e.size rL x1 om om).mono ?_
  rintro _ K1 ⟨⟨n1,d1,rfl,a1,a2,a3⟩,E1⟩
  have e1:=E1.next
  have EK1:=EK.trans (E1.less om)
  have kk:∀{K':AHeap},Ext K.next K K'→∀b,b<K.next→b<K'.next∧K'.get b=K.get b:=fun q b hb=>⟨by have:=q.next; omega,q.old b hb⟩
  have pk:∀{K':AHeap},Ext H.next H K'→PtC K' (placeK 9 v i) (.int .u8 (k:Int)::.str s::([c0,c1,c2,c3]++[vb,ve,.int .i64 line])):=by
   intro K' q
   refine pt.same fun a ea=>?_
   have hb:=z1.blk hlt a ea
   rw[q.old _ hb,EK.old _ hb]
  have p6:=(pk EK1).load (o:=6) (x:=vb) rfl
  have fl6:=pt.fld 6
  have w1:IntKind.i64.wrap ((n:Int)+(n1:Int))=((n+n1:Nat):Int):=addN n n1 om
  simp only[sA,sB,seval,ext_0,ext_1,t0,t1,t6,t7,t8,w1,pf_maxN,ix,fl6,p6,hlw]
  refine (ih om (y1.mono (kk E1)) (y2.mono (kk E1)) om om).mono ?_
  rintro _ K2 ⟨⟨n2,d2,rfl,b1,b2,b3⟩,E2⟩
  have e2:=E2.next
  have EK2:=EK1.trans (E2.less om)
  have E12:=E1.trans (E2.less om)
  have p7:=(pk EK2).load (o:=7) (x:=ve) rfl
  have fl7:=pt.fld 7
  have w2:IntKind.i64.wrap (((n+n1:Nat):Int)+(n2:Int))=((n+n1+n2:Nat):Int):=addN (n+n1) n2 om
  simp only[sA,sB,seval,ext_0,ext_1,t0,t1,t6,t7,t8,w2,pf_maxN,ix,fl7,p7,hlw]
  refine (ih om (y3.mono (kk E12)) (y4.mono (kk E12)) om om).mono ?_
  rintro _ K3 ⟨⟨n3,d3,rfl,g1,g2,g3⟩,E3⟩
  have EK3:=EK2.trans (E3.less om)
  have w3:IntKind.i64.wrap (((n+n1+n2:Nat):Int)+(n3:Int))=((n+n1+n2+n3:Nat):Int):=addN (n+n1+n2) n3 om
  simp only[sA,sB,seval,ext_0,ext_1,t0,t1,t6,t7,t8,w3,pf_maxN,wi]
  refine⟨l.length-(i+1),om,i+1,n+n1+n2+n3,max (max (max d d1) d2) d3,rfl,om,tt,tt,tt,tt,tt,EK3,?_,?_,?_⟩
  ·rw[hts,sizesS_app]; simp only[sizesS]; omega
  ·rw[hts,deepsS_app]; simp only[deepsS]; rw[hdp]; exact arD hd a2 b2 g2
  ·rw[hts,sizesS_app,deepsS_app]; simp only[sizesS,deepsS]; rw[hsz,hdp]; exact arN om hnd a3 b3 g3
theorem ffits_spec{l:List St}{C:List AVal}{v:AVal}{H:AHeap}(z1:SlK (·<H.next) H 9 v l.length C)(z2:XSs (·<H.next) H l C)(hs:sizesS l≤1000000) :
  ACalls Tryz.prog natT 35 [v] H fun u H'=>u=.bool (fitsF l)∧Ext H.next H H':=by
 refine acalls_ofN rfl za35 rfl ?_
 simp only[c35,sA,sB,seval]
 refine (fsizes_spec (sizesS l) (lv:=41) rL z1 z2 om hs).mono ?_
 rintro _ H1 ⟨⟨n,d,rfl,a1,a2,a3⟩,E1⟩
 simp only[sA,sB,seval,ext_0,ext_1]
 by_cases h1:n≤1000
 ·have h1':(n:Int)≤1000:=om
  by_cases h2:d≤40
  ·have h2':(d:Int)≤40:=om
   have hf:fitsF l=true:=by
    unfold fitsF
    rw[decide_eq_true (by have:=a3 om; omega),decide_eq_true om]; rfl
   simp only[sA,sB,seval,h1',h2',hf]
   exact⟨tt,E1⟩
  ·have h2':¬(d:Int)≤40:=om
   have hf:fitsF l=false:=by
    unfold fitsF
    rw[show decide (deepsS l≤40)=false from decide_eq_false om,Bool.and_false]
   simp only[sA,sB,seval,h1',h2',hf]
   exact⟨tt,E1⟩
 ·have h1':¬(n:Int)≤1000:=om
  have hf:fitsF l=false:=by
   unfold fitsF
   rw[show decide (sizesS l≤1000)=false from decide_eq_false om]; rfl
  simp only[sA,sB,seval,h1',hf]
  exact⟨tt,E1⟩
open Go.Abs Go.Abs.S
mutual
def smE:Ex→Bool
 | .mk _ s _ kids=>decide (s.length≤1000)&&smEs kids
def smEs:List Ex→Bool
 | []=>true
 | e::l=>smE e&&smEs l
end
mutual
def smS:St→Bool
 | .mk _ s e body els _=>decide (s.length≤1000)&&(smE e&&(smSs body&&smSs els))
def smSs:List St→Bool
 | []=>true
 | e::l=>smS e&&smSs l
end
theorem smEs_app(l m:List Ex):smEs (l++m)=(smEs l&&smEs m):=by
 induction l with
 | nil=>simp[smEs]
 | cons x l ih=>simp only[List.cons_append,smEs,ih,Bool.and_assoc]
theorem smSs_app(l m:List St):smSs (l++m)=(smSs l&&smSs m):=by
 induction l with
 | nil=>simp[smSs]
 | cons x l ih=>simp only[List.cons_append,smSs,ih,Bool.and_assoc]
def HgO(b n sz lv dp:Nat)(sm:Bool)(H:AHeap)(u:AVal)(H':AHeap):Prop:=
 Fp b H H'∧∃(r:Bool) (n':Nat),u=.bool r∧Row H' b [.int .i64 (n':Int)]∧(r=false→n'=n+sz∧n'≤1500∧dp≤lv∧sm=true)
theorem hugee_spec:∀(N:Nat) {e:Ex} {c:List AVal} {H:AHeap} {lv n b:Nat},e.size≤N→XE (fun x=>x<H.next∧x≠b) H e c→Row H b [.int .i64 (n:Int)]→b<H.next→n≤1500→lv≤100 →
  ACalls Tryz.prog natT 56 [.agg c,.int .i64 (lv:Int),.int .i64 1500,cellR b 1 0] H (HgO b n e.size lv e.deep (smE e) H)
 | 0,e,_,_,_,_,_,h,_,_,_,_,_=>absurd (sizeE_pos e) om
 | N+1,.mk k s z kids,c,H,lv,n,b,h,hx,hr,hb,hn,hl=>by
  obtain⟨v,C,rfl,z1,z2⟩:=hx
  have hsz:(Ex.mk k s z kids).size=sizesE kids+1:=rfl
  have hdp:(Ex.mk k s z kids).deep=deepsE kids+1:=rfl
  obtain⟨Q,hQ⟩:∃Q,Q=HgO b n (Ex.mk k s z kids).size lv (Ex.mk k s z kids).deep (smE (.mk k s z kids)) H:=⟨_,rfl⟩
  rw[← hQ]
  refine acalls_ofN rfl za56 rfl ?_
  obtain⟨H1,m1,r1,n1,k1⟩:=row_newL H [.int .u8 (k:Int),.str s,.int .i64 z,v] (n:=4) rfl
  have hr1:Row H1 b [.int .i64 (n:Int)]:=hr.same (k1 b om)
  have lb1:oLoad false 1 H1 (cellR b 1 0)=some (.int .i64 (n:Int)):=row_load hr1 rfl rfl
  have wn:IntKind.i64.wrap ((n:Int)+1)=((n+1:Nat):Int):=addN n 1 om
  obtain⟨H2,m2,r2,n2,k2⟩:=row_st hr1 (n:=1) rfl (i:=0) om (x:=.int .i64 ((n+1:Nat):Int)) rfl (l':=[.int .i64 ((n+1:Nat):Int)]) rfl
  have hr2:Row H2 b [.int .i64 ((n+1:Nat):Int)]:=r2
  have lb2:oLoad false 1 H2 (cellR b 1 0)=some (.int .i64 ((n+1:Nat):Int)):=row_load hr2 rfl rfl
  have f2:Fp b H H2:=⟨om,fun c hc hne=>by rw[k2 c hne,k1 c om]⟩
  have x2:Row H2 H.next [.int .u8 (k:Int),.str s,.int .i64 z,v]:=r1.same (k2 _ om)
  have s1:oLoad false 1 H2 (cellR H.next 4 1)=some (.str s):=row_load x2 rfl rfl
  by_cases hn1:1500<n+1
  ·have hn':((n+1:Nat):Int) > 1500:=om
   simp only[c56,sA,sB,seval,cells_agg,nil_cell,fld0,m1,lb1,wn,m2,lb2,hn']
   rw[hQ]
   exact⟨f2,true,n+1,tt,hr2,by simp⟩
  have hn':¬((n+1:Nat):Int) > 1500:=om
  by_cases hl0:lv=0
  ·subst hl0
   have hl':((0:Nat):Int)<1:=om
   simp only[c56,sA,sB,seval,cells_agg,nil_cell,fld0,m1,lb1,wn,m2,lb2,hn',hl']
   rw[hQ]
   exact⟨f2,true,n+1,tt,hr2,by simp⟩
  have hl':¬(lv:Int)<1:=om
  by_cases hs0:1000<s.length
  ·have hs':(s.length:Int) > 1000:=om
   simp only[c56,sA,sB,seval,cells_agg,nil_cell,fld0,m1,lb1,wn,m2,lb2,hn',hl',fldA,s1,hs']
   rw[hQ]
   exact⟨f2,true,n+1,tt,hr2,by simp⟩
  have hs':¬(s.length:Int) > 1000:=om
  have hlw:IntKind.i64.wrap ((lv:Int)-1)=((lv-1:Nat):Int):=w64
  have ln:=z1.len
  simp only[c56,sA,sB,seval,cells_agg,nil_cell,fld0,m1,lb1,wn,m2,lb2,hn',hl',fldA,s1,hs']
  refine aw_loop (fun m (T:Env) K=>∃i n':Nat,m=kids.length-i∧i≤kids.length∧T 1=.int .i64 (lv:Int)∧T 2=.int .i64 1500∧T 3=cellR b 1 0∧T 4=cellR H.next 4 0∧T 9=.int .i64 (i:Int)∧Fp b H2 K∧Row K b [.int .i64 (n':Int)]∧n'=n+1+sizesE (kids.take i)∧n'≤1500∧deepsE (kids.take i)≤lv-1∧smEs (kids.take i)=true) kids.length
   ⟨0,n+1,rfl,Nat.zero_le _,by simp only[sA,sB,seval]; try rfl,by simp only[sA,sB,seval]; try rfl,by simp only[sA,sB,seval],by simp only[sA,sB,seval],by simp only[sA,sB,seval]; try rfl,Fp.refl _ _,hr2,by simp[sizesE],om,by simp[deepsE],by simp[smEs]⟩ ?_
  rintro m T K ⟨i,n',rfl,hi,t1,t2,t3,t4,t9,FK,rK,hn2,hn3,hdk,hsk⟩
  have eK:=FK.next
  have l3K:oLoad false 1 K (cellR H.next 4 3)=some v:=row_load (x2.same (FK.old _ om om)) rfl rfl
  have F0K:Fp b H K:=f2.trans FK
  by_cases hlt:i<kids.length
  case neg=>
   obtain rfl:i=kids.length:=om
   have hlt':¬(kids.length:Int)<(kids.length:Int):=om
   rw[List.take_length]at hn2 hdk hsk
   simp only[sA,sB,seval,t1,t2,t3,t4,t9,fldA,l3K,ln,hlt']
   rw[hQ]
   refine⟨F0K,false,n',tt,rK,fun _=>⟨om,hn3,om,?_⟩⟩
   simp only[smE,hsk,Bool.and_true,decide_eq_true_eq]
   omega
  have hlt':(i:Int)<(kids.length:Int):=om
  obtain⟨e,he⟩:∃e,kids[i]?=some e:=⟨_,List.getElem?_eq_getElem hlt⟩
  have hts:kids.take (i+1)=kids.take i++[e]:=by rw[List.take_add_one,he]; rfl
  have km:∀c,(c<H.next∧c≠b)→(c<K.next∧c≠b)∧K.get c=H.get c:=fun c hc=>⟨⟨by have:=F0K.next; omega,hc.2⟩,F0K.old c hc.1 hc.2⟩
  have z13:=z1.mono km
  have z23:=z2.mono km
  have ix:=z13.idx hlt
  have ld:=z13.load hlt
  have he3:=z23.at he
  have hsm:=size_mem (List.mem_of_getElem? he)
  have hlen:=len_sizesE (kids.take i)
  rw[List.length_take,Nat.min_eq_left hi]at hlen
  have wi:IntKind.i64.wrap ((i:Int)+1)=((i+1:Nat):Int):=addN i 1 om
  simp only[sA,sB,seval,t1,t2,t3,t4,t9,fldA,l3K,ln,hlt',ix,ld,hlw]
  refine (hugee_spec N om he3 rK (by have:=f2.next; omega) hn3 om).mono ?_
  rintro _ K2 ⟨F2,r,n3,rfl,rK2,hgo⟩
  cases r with
  | true=>
   simp only[sA,sB,seval]
   rw[hQ]
   exact⟨F0K.trans F2,true,n3,tt,rK2,by simp⟩
  | false=>
   obtain⟨g1,g2,g3,g4⟩:=hgo rfl
   simp only[sA,sB,seval,t1,t2,t3,t4,t9,wi]
   refine⟨kids.length-(i+1),om,i+1,n3,rfl,om,tt,tt,tt,tt,tt,FK.trans F2,rK2,?_,g2,?_,?_⟩
   ·rw[hts,sizesE_app]; simp only[sizesE]; omega
   ·rw[hts,deepsE_app]; simp only[deepsE]; omega
   ·rw[hts,smEs_app,hsk]; simp only[smEs,g4]; rfl
open Go.Abs Go.Abs.S
theorem HgO.more{b n sz lv dp n1 sz1 lv1 dp1:Nat}{sm sm1:Bool}{H H1 H2:AHeap}{u:AVal}(f:Fp b H H1)(h:HgO b n1 sz1 lv1 dp1 sm1 H1 u H2):u=.bool true→HgO b n sz lv dp sm H u H2:=by
 rintro rfl
 obtain⟨F,r,n',hu,hr,_⟩:=h
 exact⟨f.trans F,true,n',rfl,hr,by simp⟩
theorem huges_spec:∀(N:Nat) {l:List St} {C:List AVal} {v:AVal} {H:AHeap} {lv n b:Nat},sizesS l≤N→SlK (fun x=>x<H.next∧x≠b) H 9 v l.length C→XSs (fun x=>x<H.next∧x≠b) H l C→Row H b [.int .i64 (n:Int)]→b<H.next→n≤1500→lv≤100 →
  ACalls Tryz.prog natT 28 [v,.int .i64 (lv:Int),.int .i64 1500,cellR b 1 0] H (HgO b n (sizesS l) lv (deepsS l) (smSs l) H):=by
 intro N
 induction N with
 | zero=>
  intro l C v H lv n b h z1 z2 hr hb hn hl
  have hl0:l=[]:=by
   cases l with
   | nil=>rfl
   | cons x l=>have:=sizeS_pos x; simp only[sizesS]at h; omega
  subst hl0
  have ln:=z1.len
  have h0:¬(0:Int)<(([]:List St).length:Int):=by simp
  refine acalls_ofN rfl za28 rfl ?_
  simp only[c28,sA,sB,seval]
  refine aw_loop (fun m (T:Env) K=>H=K∧T 0=v∧T 9=.int .i64 0) 0 ⟨rfl,by simp only[sA,sB,seval],by simp only[sA,sB,seval]⟩ ?_
  rintro m T K ⟨rfl,t0,t9⟩
  simp only[sA,sB,seval,t0,t9,ln,h0]
  exact⟨Fp.refl _ _,false,n,tt,hr,fun _=>⟨by simp[sizesS],hn,by simp[deepsS],by simp[smSs]⟩⟩
 | succ N ih=>
  intro l C v H lv n b h z1 z2 hr hb hn hl
  have ln:=z1.len
  obtain⟨Q,hQ⟩:∃Q,Q=HgO b n (sizesS l) lv (deepsS l) (smSs l) H:=⟨_,rfl⟩
  rw[← hQ]
  refine acalls_ofN rfl za28 rfl ?_
  simp only[c28,sA,sB,seval]
  refine aw_loop (fun m (T:Env) K=>∃i n':Nat,m=l.length-i∧i≤l.length∧T 0=v∧T 1=.int .i64 (lv:Int)∧T 2=.int .i64 1500∧T 3=cellR b 1 0∧T 9=.int .i64 (i:Int)∧Fp b H K∧Row K b [.int .i64 (n':Int)]∧n'=n+sizesS (l.take i)∧n'≤1500∧deepsS (l.take i)≤lv∧smSs (l.take i)=true) l.length
   ⟨0,n,rfl,Nat.zero_le _,by simp only[sA,sB,seval],by simp only[sA,sB,seval]; try rfl,by simp only[sA,sB,seval]; try rfl,by simp only[sA,sB,seval],by simp only[sA,sB,seval]; try rfl,Fp.refl _ _,hr,by simp[sizesS],hn,by simp[deepsS],by simp[smSs]⟩ ?_
  rintro m T K ⟨i,n',rfl,hi,t0,t1,t2,t3,t9,FK,rK,hn2,hn3,hdk,hsk⟩
  have eK:=FK.next
  by_cases hlt:i<l.length
  case neg=>
   obtain rfl:i=l.length:=om
   have hlt':¬(l.length:Int)<(l.length:Int):=om
   rw[List.take_length]at hn2 hdk hsk
   simp only[sA,sB,seval,t0,t1,t2,t3,t9,ln,hlt']
   rw[hQ]
   exact⟨FK,false,n',tt,rK,fun _=>⟨hn2,hn3,hdk,hsk⟩⟩
  have hlt':(i:Int)<(l.length:Int):=om
  obtain⟨x,he⟩:∃e,l[i]?=some e:=⟨_,List.getElem?_eq_getElem hlt⟩
  have hts:l.take (i+1)=l.take i++[x]:=by rw[List.take_add_one,he]; rfl
  have lbK:oLoad false 1 K (cellR b 1 0)=some (.int .i64 (n':Int)):=row_load rK rfl rfl
  have wn:IntKind.i64.wrap ((n':Int)+1)=((n'+1:Nat):Int):=addN n' 1 om
  obtain⟨H2,m2,r2,n2,k2⟩:=row_st rK (n:=1) rfl (i:=0) om (x:=.int .i64 ((n'+1:Nat):Int)) rfl (l':=[.int .i64 ((n'+1:Nat):Int)]) rfl
  have lb2:oLoad false 1 H2 (cellR b 1 0)=some (.int .i64 ((n'+1:Nat):Int)):=row_load r2 rfl rfl
  have F2:Fp b H H2:=FK.trans ⟨om,fun c hc hne=>k2 c hne⟩
  have km:∀{K:AHeap},Fp b H K→∀c,(c<H.next∧c≠b)→(c<K.next∧c≠b)∧K.get c=H.get c:=fun q c hc=>⟨⟨by have:=q.next; omega,hc.2⟩,q.old c hc.1 hc.2⟩
  have z13:=z1.mono (km F2)
  have ix:=z13.idx hlt
  have pt:=z13.pt hlt
  have hsm:=size_memS (List.mem_of_getElem? he)
  have hlen:=len_sizesS (l.take i)
  rw[List.length_take,Nat.min_eq_left hi]at hlen
  have wi:IntKind.i64.wrap ((i:Int)+1)=((i+1:Nat):Int):=addN i 1 om
  have hx3:=(z2.mono (km F2)).at he
  obtain⟨k,s,e,body,els,line⟩:=x
  obtain⟨ce,vb,Cb,ve,Ce,hcell,x1,y1,y2,y3,y4⟩:=hx3
  obtain⟨c0,c1,c2,c3,rfl⟩:∃a b c d,ce=[a,b,c,d]:=by
   have:=x1.len
   match ce,this with
   | [a,b,c,d],_=>exact⟨a,b,c,d,rfl⟩
  rw[hcell]at pt
  have hsz:(St.mk k s e body els line).size=e.size+sizesS body+sizesS els+1:=rfl
  have hdp:(St.mk k s e body els line).deep=max e.deep (max (deepsS body) (deepsS els))+1:=rfl
  have hss:smS (St.mk k s e body els line)=(decide (s.length≤1000)&&(smE e&&(smSs body&&smSs els))):=rfl
  have fl1:=pt.fld 1
  have ls:oLoad false 1 H2 (fp (placeK 9 v i) 1)=some (.str s):=pt.load (o:=1) rfl
  have fl2:=pt.fld 2
  have le:oLoad true 4 H2 (fp (placeK 9 v i) 2)=some (.agg [c0,c1,c2,c3]):=by
   have pe:=pt.part (o:=2) (k:=4) (by simp)
   obtain⟨a,ea,hrd⟩:=pe
   rw[ea]
   simp only[oLoad]
   have hrd':rdCells H2 a 4=some [c0,c1,c2,c3]:=hrd
   rw[hrd']; rfl
  by_cases hn1:1500<n'+1
  ·have hn':(1500:Int)<((n'+1:Nat):Int):=om
   simp only[sA,sB,seval,t0,t1,t2,t3,t9,nil_cell,ln,hlt',lbK,wn,m2,lb2,hn']
   rw[hQ]
   exact⟨F2,true,n'+1,tt,r2,by simp⟩
  have hn':¬(1500:Int)<((n'+1:Nat):Int):=om
  by_cases hl0:lv=0
  ·subst hl0
   have hl':((0:Nat):Int)<1:=om
   simp only[sA,sB,seval,t0,t1,t2,t3,t9,nil_cell,ln,hlt',lbK,wn,m2,lb2,hn',hl']
   rw[hQ]
   exact⟨F2,true,n'+1,tt,r2,by simp⟩
  have hl':¬(lv:Int)<1:=om
  by_cases hs0:1000<s.length
  ·have hs':(1000:Int)<(s.length:Int):=om
   simp only[sA,sB,seval,t0,t1,t2,t3,t9,nil_cell,ln,hlt',lbK,wn,m2,lb2,hn',hl',ix,fl1,ls,hs']
   rw[hQ]
   exact⟨F2,true,n'+1,tt,r2,by simp⟩
  have hs':¬(1000:Int)<(s.length:Int):=om
  have hlw:IntKind.i64.wrap ((lv:Int)-1)=((lv-1:Nat):Int):=w64
  simp only[sA,sB,seval,t0,t1,t2,t3,t9,nil_cell,ln,hlt',lbK,wn,m2,lb2,hn',hl',ix,fl1,ls,hs',fl2,le,hlw]
  have bK:b<H2.next:=by have:=F2.next; omega
  refine (hugee_spec e.size rL x1 r2 bK om om).mono ?_
  rintro u K3 hO
  obtain⟨F3,r,n3,rfl,r3,hgo⟩:=id hO
  cases r with
  | true=>
   simp only[sA,sB,seval]
   rw[hQ]
   exact hO.more F2 rfl
  | false=>
  obtain⟨g1,g2,g3,g4⟩:=hgo rfl
  have e3:=F3.next
  have F03:=F2.trans F3
  have kk:∀{K:AHeap},Fp b H2 K→∀c,(c<H2.next∧c≠b)→(c<K.next∧c≠b)∧K.get c=H2.get c:=fun q c hc=>⟨⟨by have:=q.next; omega,hc.2⟩,q.old c hc.1 hc.2⟩
  have pk:∀{K':AHeap},Fp b H2 K'→PtC K' (placeK 9 v i) (.int .u8 (k:Int)::.str s::([c0,c1,c2,c3]++[vb,ve,.int .i64 line])):=by
   intro K' q
   exact pt.same fun a ea=>q.old _ (z13.blk hlt a ea).1 (z13.blk hlt a ea).2
  have p6:=(pk F3).load (o:=6) (x:=vb) rfl
  have fl6:=pt.fld 6
  simp only[sA,sB,seval,t0,t1,t2,t3,t9,ix,fl6,p6,hlw]
  refine (ih om (y1.mono (kk F3)) (y2.mono (kk F3)) r3 om g2 om).mono ?_
  rintro u K4 hO4
  obtain⟨F4,r,n4,rfl,r4,hgo4⟩:=id hO4
  cases r with
  | true=>
   simp only[sA,sB,seval]
   rw[hQ]
   exact hO4.more F03 rfl
  | false=>
  obtain⟨j1,j2,j3,j4⟩:=hgo4 rfl
  have e4:=F4.next
  have F24:=F3.trans F4
  have F04:=F03.trans F4
  have p7:=(pk F24).load (o:=7) (x:=ve) rfl
  have fl7:=pt.fld 7
  simp only[sA,sB,seval,t0,t1,t2,t3,t9,ix,fl7,p7,hlw]
  refine (ih om (y3.mono (kk F24)) (y4.mono (kk F24)) r4 om j2 om).mono ?_
  rintro u K5 hO5
  obtain⟨F5,r,n5,rfl,r5,hgo5⟩:=id hO5
  cases r with
  | true=>
   simp only[sA,sB,seval]
   rw[hQ]
   exact hO5.more F04 rfl
  | false=>
  obtain⟨q1,q2,q3,q4⟩:=hgo5 rfl
  simp only[sA,sB,seval,t0,t1,t2,t3,t9,wi]
  refine⟨l.length-(i+1),om,i+1,n5,rfl,om,tt,tt,tt,tt,tt,F04.trans F5,r5,?_,q2,?_,?_⟩
  ·rw[hts,sizesS_app]; simp only[sizesS]; omega
  ·rw[hts,deepsS_app]; simp only[deepsS]; omega
  ·rw[hts,smSs_app,hsk]
   simp only[smSs,hss,g4,j4,q4,Bool.and_true,Bool.true_and,decide_eq_true_eq]
   omega
theorem huge_spec{l:List St}{C:List AVal}{v:AVal}{H:AHeap}(z1:SlK (·<H.next) H 9 v l.length C)(z2:XSs (·<H.next) H l C) :
  ACalls Tryz.prog natT 7 [v,.int .i64 100,.int .i64 1500] H fun u H'=>Ext H.next H H'∧∃r:Bool,u=.bool r∧(r=false→sizesS l≤1500∧deepsS l≤100∧smSs l=true):=by
 refine acalls_ofN rfl za7 rfl ?_
 obtain⟨H1,m1,r1,n1,k1⟩:=row_newL H [.int .i64 0] (n:=1) rfl
 obtain⟨H2,m2,r2,n2,k2⟩:=row_st r1 (n:=1) rfl (i:=0) om (x:=.int .i64 0) rfl (l':=[.int .i64 ((0:Nat):Int)]) rfl
 have km:∀b,b<H.next→(b<H2.next∧b≠H.next)∧H2.get b=H.get b:=fun b hb=>⟨⟨om,om⟩,by rw[k2 b om,k1 b om]⟩
 simp only[c7,sA,sB,seval,m1,m2]
 refine (huges_spec (sizesS l) (lv:=100) rL (z1.mono km) (z2.mono km) r2 om om om).mono ?_
 rintro _ H3 ⟨F,r,n',rfl,_,hgo⟩
 simp only[sA,sB,seval]
 refine⟨⟨by have:=F.next; omega,fun c hc=>by rw[F.old c om om,k2 c om,k1 c om]⟩,r,tt,fun q=>?_⟩
 obtain⟨g1,g2,g3,g4⟩:=hgo q
 exact⟨om,g3,g4⟩
open Go.Abs Go.Abs.S
def argTab:List (Bs×(List Nat×Nat)):=
 [([118, 101, 99], ([1, 1, 1], 2)), ([120], ([2], 1)), ([121], ([2], 1)), ([122], ([2], 1)), ([100, 111, 116], ([2, 2], 1)), ([99, 114, 111, 115, 115], ([2, 2], 2)),
  ([117, 110, 105, 116], ([2], 2)), ([115, 113, 114, 116], ([1], 1)), ([115, 105, 110], ([1], 1)), ([99, 111, 115], ([1], 1)), ([97, 98, 115], ([1], 1)),
  ([102, 108, 111, 111, 114], ([1], 1)), ([109, 105, 110], ([1, 1], 1)), ([109, 97, 120], ([1, 1], 1)), ([115, 97, 109, 112, 108, 101], ([1, 1], 2))]
def atKey{α:Type}:List (Bs×α)→Bs→Option α
 | [],_=>none
 | x::l,s=>if x.1=s then some x.2 else atKey l s
def cmpS:List Bs:=[[124,124],[38,38],[61,61],[33,61],[60,61],[62,61],[60],[62]]
def pairT(s:Bs)(a b:Nat):Nat:=
 if s∈cmpS then (if a=1∧b=1 then 1 else 0)
 else if s=[43]∨s=[45] then (if a=b then a else 0)
 else if s=[42] then (if a=1 then b else if b=1 then a else 0)
 else if s=[47] then (if b=1 then a else 0)
 else 0
def opT(s:Bs):List Nat→Nat
 | [a]=>if s=[45]∨(s=[33]∧a=1) then a else 0
 | [a,b]=>pairT s a b
 | _=>0
abbrev Env':=List (Bs×Nat)
def lastT:Env'→Bs→Option Nat
 | [],_=>none
 | x::l,s=>match lastT l s with
  | some t=>some t
  | none=>if x.1=s then some x.2 else none
def callT(s:Bs)(ts:List Nat):Except Nat Nat:=match atKey argTab s with
 | none=>.error 110
 | some (args,own)=>if ts.length≠args.length then .error 112 else if ts≠args then .error 111 else .ok own
def kindT(E:Env')(k:Nat)(s:Bs)(ts:List Nat):Except Nat Nat:=
 if k=1 then .ok 1
 else if k=2 then (match lastT E s with | some t=>.ok t | none=>.error 110)
 else if k=3 then (if opT s ts=0 then .error 111 else .ok (opT s ts))
 else if k=4 then callT s ts
 else .error 111
mutual
def tyE(E:Env'):Ex→Except Nat Nat
 | .mk k s _ kids=>match tyEs E kids with
  | .error e=>.error e
  | .ok ts=>kindT E k s ts
def tyEs(E:Env'):List Ex→Except Nat (List Nat)
 | []=>.ok []
 | e::l=>match tyE E e with
  | .error f=>.error f
  | .ok t=>match tyEs E l with
   | .error f=>.error f
   | .ok ts=>.ok (t::ts)
end
def thenT(a:Except Nat (List Nat))(b:Except Nat (List Nat)):Except Nat (List Nat):=match a with
 | .error e=>.error e
 | .ok x=>match b with
  | .error e=>.error e
  | .ok y=>.ok (x++y)
theorem tyEs_app(E:Env')(m:List Ex):∀l:List Ex,tyEs E (l++m)=thenT (tyEs E l) (tyEs E m)
 | []=>by
  simp only[List.nil_append,tyEs,thenT]
  cases tyEs E m <;> rfl
 | e::l=>by
  simp only[List.cons_append,tyEs,tyEs_app E m l]
  cases tyE E e with
  | error f=>rfl
  | ok t=>
   cases tyEs E l with
   | error f=>rfl
   | ok ts=>cases tyEs E m <;> rfl
theorem tyEs_snoc{E:Env'}{l:List Ex}{e:Ex}{ts:List Nat}(h:tyEs E l=.ok ts):tyEs E (l++[e])=match tyE E e with | .error f=>.error f | .ok t=>.ok (ts++[t]):=by
 rw[tyEs_app,h]
 simp only[thenT,tyEs]
 cases tyE E e <;> rfl
theorem tyEs_bad{E:Env'}{l:List Ex}{e:Ex}{f:Nat}(i:Nat)(h:∃ts,tyEs E (l.take i)=.ok ts)(hi:l[i]?=some e)(he:tyE E e=.error f):tyEs E l=.error f:=by
 obtain⟨ts,h⟩:=h
 have hlt:i<l.length:=(List.getElem?_eq_some_iff.1 hi).1
 have hd:l=l.take i++(e::l.drop (i+1)):=by
  rw[← (List.getElem?_eq_some_iff.1 hi).2,← List.drop_eq_getElem_cons hlt,List.take_append_drop]
 rw[hd,tyEs_app,h]
 simp only[thenT,tyEs,he]
theorem tyEs_len{E:Env'}:∀{l:List Ex} {ts:List Nat},tyEs E l=.ok ts→ts.length=l.length
 | [],ts,h=>by simp only[tyEs,Except.ok.injEq]at h; subst h; rfl
 | e::l,ts,h=>by
  simp only[tyEs]at h
  cases he:tyE E e with
  | error f=>rw[he]at h; simp at h
  | ok t=>
   rw[he]at h
   cases hl:tyEs E l with
   | error f=>rw[hl]at h; simp at h
   | ok us=>
    rw[hl]at h
    simp only[Except.ok.injEq]at h
    subst h
    rw[List.length_cons,List.length_cons,tyEs_len hl]
theorem lastT_snoc(x:Bs×Nat)(s:Bs):∀E:Env',lastT (E++[x]) s=if x.1=s then some x.2 else lastT E s
 | []=>rfl
 | y::E=>by
  simp only[List.cons_append,lastT,lastT_snoc x s E]
  by_cases h:x.1=s
  ·simp only[if_pos h]
  ·simp only[if_neg h]
def given4:Env':=[([117],1),([118],1),([112],2),([110],2)]
structure Scp(E:Env'):Prop where
 four:E.take 4=given4
 once:(E.map (·.1)).Nodup
 kind:∀x∈E,x.2=1∨x.2=2
theorem Scp.len{E:Env'}(h:Scp E):4≤E.length:=by
 have:=congrArg List.length h.four
 rw[List.length_take]at this
 simp only[given4,List.length_cons,List.length_nil]at this
 omega
theorem Scp.given:Scp given4:=⟨rfl,by decide,by decide⟩
theorem Scp.snoc{E:Env'}{s:Bs}{t:Nat}(h:Scp E)(hs:s∉E.map (·.1))(ht:t=1∨t=2):Scp (E++[(s,t)]):=by
 refine⟨?_,?_,?_⟩
 ·rw[List.take_append_of_le_length h.len]; exact h.four
 ·rw[List.map_append,List.nodup_append]
  refine⟨h.once,by simp,?_⟩
  intro a ha b hb e
  simp only[List.map_cons,List.map_nil,List.mem_singleton]at hb
  subst hb; subst e
  exact hs ha
 ·intro x hx
  rcases List.mem_append.1 hx with hx | hx
  ·exact h.kind x hx
  ·rw[List.mem_singleton.1 hx]; exact ht
theorem lastT_mem{s:Bs}{t:Nat}:∀{E:Env'},lastT E s=some t→(s,t)∈E
 | [],h=>by simp[lastT]at h
 | x::E,h=>by
  simp only[lastT]at h
  cases hl:lastT E s with
  | some u=>
   rw[hl]at h
   simp only[sJ]at h
   subst h
   exact List.mem_cons_of_mem _ (lastT_mem hl)
  | none=>
   rw[hl]at h
   by_cases hx:x.1=s
   ·rw[if_pos hx]at h
    simp only[sJ]at h
    subst h; subst hx
    exact List.mem_cons_self ..
   ·rw[if_neg hx]at h; simp at h
theorem opT_two{s:Bs}{ts:List Nat}(h:∀t∈ts,t=1∨t=2)(hn:opT s ts≠0):opT s ts=1∨opT s ts=2:=by
 match ts,h,hn with
 | [],_,hn=>exact absurd rfl hn
 | [a],h,hn=>
  simp only[opT]at hn ⊢
  by_cases q:s=[45]∨(s=[33]∧a=1)
  ·rw[if_pos q]; exact h a (by simp)
  ·rw[if_neg q]at hn; exact absurd rfl hn
 | [a,b],h,hn=>
  have ha:=h a (by simp)
  have hb:=h b (by simp)
  simp only[opT,pairT]at hn ⊢
  repeat' split
  all_goals first | exact .inl rfl | exact ha | exact hb | simp_all
 | _::_::_::_,_,hn=>exact absurd rfl hn
theorem argTab_two:∀x∈argTab,x.2.2=1∨x.2.2=2:=by decide
theorem atKey_mem{α:Type}{s:Bs}{x:α}:∀{l:List (Bs×α)},atKey l s=some x→(s,x)∈l
 | [],h=>by simp[atKey]at h
 | y::l,h=>by
  simp only[atKey]at h
  by_cases hy:y.1=s
  ·rw[if_pos hy]at h
   simp only[sJ]at h
   subst h; subst hy
   exact List.mem_cons_self ..
  ·rw[if_neg hy]at h
   exact List.mem_cons_of_mem _ (atKey_mem h)
theorem callT_two{s:Bs}{ts:List Nat}{t:Nat}(h:callT s ts=.ok t):t=1∨t=2:=by
 unfold callT at h
 cases ha:atKey argTab s with
 | none=>rw[ha]at h; simp at h
 | some x=>
  obtain⟨args,own⟩:=x
  rw[ha]at h
  simp only at h
  by_cases h1:ts.length≠args.length
  ·rw[if_pos h1]at h; simp at h
  rw[if_neg h1]at h
  by_cases h2:ts≠args
  ·rw[if_pos h2]at h; simp at h
  rw[if_neg h2]at h
  simp only[Except.ok.injEq]at h
  subst h
  exact argTab_two _ (atKey_mem ha)
theorem kindT_two{E:Env'}(hE:Scp E){k:Nat}{s:Bs}{ts:List Nat}(hts:∀t∈ts,t=1∨t=2){t:Nat}(h:kindT E k s ts=.ok t):t=1∨t=2:=by
 unfold kindT at h
 by_cases h1:k=1
 ·rw[if_pos h1]at h
  simp only[Except.ok.injEq]at h
  omega
 rw[if_neg h1]at h
 by_cases h2:k=2
 ·rw[if_pos h2]at h
  cases hl:lastT E s with
  | none=>rw[hl]at h; simp at h
  | some u=>
   rw[hl]at h
   simp only[Except.ok.injEq]at h
   subst h
   exact hE.kind _ (lastT_mem hl)
 rw[if_neg h2]at h
 by_cases h3:k=3
 ·rw[if_pos h3]at h
  by_cases h0:opT s ts=0
  ·rw[if_pos h0]at h; simp at h
  ·rw[if_neg h0]at h
   simp only[Except.ok.injEq]at h
   subst h
   exact opT_two hts h0
 rw[if_neg h3]at h
 by_cases h4:k=4
 ·rw[if_pos h4]at h
  exact callT_two h
 ·rw[if_neg h4]at h; simp at h
mutual
theorem tyE_two{E:Env'}(hE:Scp E):∀{e:Ex} {t:Nat},tyE E e=.ok t→t=1∨t=2
 | .mk k s n kids,t,h=>by
  simp only[tyE]at h
  cases hk:tyEs E kids with
  | error f=>rw[hk]at h; simp at h
  | ok ts=>
   rw[hk]at h
   exact kindT_two hE (tyEs_two hE hk) h
theorem tyEs_two{E:Env'}(hE:Scp E):∀{l:List Ex} {ts:List Nat},tyEs E l=.ok ts→∀t∈ts,t=1∨t=2
 | [],ts,h=>by simp only[tyEs,Except.ok.injEq]at h; subst h; simp
 | e::l,ts,h=>by
  simp only[tyEs]at h
  cases he:tyE E e with
  | error f=>rw[he]at h; simp at h
  | ok t=>
   rw[he]at h
   cases hl:tyEs E l with
   | error f=>rw[hl]at h; simp at h
   | ok us=>
    rw[hl]at h
    simp only[Except.ok.injEq]at h
    subst h
    intro u hu
    rcases List.mem_cons.1 hu with rfl | hu
    ·exact tyE_two hE he
    ·exact tyEs_two hE hl u hu
end
def firstI(s:Bs):Env'→Option Nat
 | []=>none
 | x::l=>if x.1=s then some 0 else (firstI s l).map (·+1)
def headS(E:Env')(k:Nat)(s:Bs)(t:Nat):Except Nat Env':=
 if k=1 then (if s∈E.map (·.1) then .error 110 else .ok (E++[(s,t)]))
 else if k=2 then (match firstI s E with
  | none=>.error 110
  | some i=>if i<4 then .error 110 else match E[i]? with
   | some x=>if x.2=t then .ok E else .error 111
   | none=>.error 110)
 else if k=3∨k=4 then (if t=2 then .error 111 else .ok E)
 else if k=5 then (if t=1 then .error 111 else .ok E)
 else .ok E
def stT(E:Env')(k:Nat)(s:Bs)(e:Ex):Except Nat Env':=match tyE E e with
 | .error f=>.error f
 | .ok t=>headS E k s t
abbrev FltI:=Nat×Int
def St.kind:St→Nat
 | .mk k _ _ _ _ _=>k
def St.line:St→Int
 | .mk _ _ _ _ _ n=>n
mutual
def ckS(E:Env'):St→Except FltI Env'
 | .mk k s e body els line=>match stT E k s e with
  | .error f=>.error (f,line)
  | .ok E'=>match ckL E' false body with
   | .error f=>.error f
   | .ok _=>match ckL E' false els with
    | .error f=>.error f
    | .ok _=>.ok E'
def ckL(E:Env')(ret:Bool):List St→Except FltI Env'
 | []=>.ok E
 | x::l=>if ret then .error (113,x.line) else match ckS E x with
  | .error f=>.error f
  | .ok E'=>ckL E' (decide (x.kind=5)) l
end
mutual
def retS:St→Bool
 | .mk k _ _ body els _=>decide (k=5)||(decide (k=3)&&(retL body&&retL els))
def retL:List St→Bool
 | []=>false
 | [x]=>retS x
 | _::y::l=>retL (y::l)
end
def checkF(l:List St):FltI:=if rightF l then (match ckL given4 false l with
  | .error f=>f
  | .ok _=>if retL l then (0,0) else (113,0)) else (103,0)
theorem headS_scp{E E':Env'}(hE:Scp E){k:Nat}{s:Bs}{t:Nat}(ht:t=1∨t=2)(h:headS E k s t=.ok E'):Scp E':=by
 unfold headS at h
 repeat' split at h
 all_goals first
  | (simp at h; done)
  | (simp only[Except.ok.injEq]at h; subst h; first | exact hE | exact hE.snoc ‹_› ht)
theorem stT_scp{E E':Env'}(hE:Scp E){k:Nat}{s:Bs}{e:Ex}(h:stT E k s e=.ok E'):Scp E':=by
 unfold stT at h
 cases he:tyE E e with
 | error f=>rw[he]at h; simp at h
 | ok t=>rw[he]at h; exact headS_scp hE (tyE_two hE he) h
theorem firstI_lt{s:Bs}:∀{E:Env'} {i:Nat},firstI s E=some i→∃t,E[i]?=some (s,t)
 | [],i,h=>by simp[firstI]at h
 | x::E,i,h=>by
  simp only[firstI]at h
  by_cases hx:x.1=s
  ·rw[if_pos hx]at h
   simp only[sJ]at h
   subst h; subst hx
   exact⟨x.2,rfl⟩
  ·rw[if_neg hx]at h
   cases hf:firstI s E with
   | none=>rw[hf]at h; simp at h
   | some j=>
    rw[hf]at h
    simp only[Option.map_some,sJ]at h
    subst h
    obtain⟨t,ht⟩:=firstI_lt hf
    exact⟨t,by rw[List.getElem?_cons_succ]; exact ht⟩
theorem firstI_none{s:Bs}:∀{E:Env'},firstI s E=none↔s∉E.map (·.1)
 | []=>by simp[firstI]
 | x::E=>by
  simp only[firstI,List.map_cons,List.mem_cons,not_or]
  by_cases hx:x.1=s
  ·simp[hx]
  ·rw[if_neg hx,Option.map_eq_none_iff,firstI_none]
   constructor
   ·intro h; exact⟨fun e=>hx e.symm,h⟩
   ·intro h; exact h.2
open Go.Abs Go.Abs.S
structure In4 where
 o:Nat
 a:Nat
 b:Nat
 c:Nat
structure Cs where
 code:List In4
 cons:List Int
 regs:Nat
def Cs.put(o a b c:Nat)(x:Cs):Cs:={ x with code:=x.code++[⟨o,a,b,c⟩] }
def landL(i n:Nat):List In4→List In4
 | []=>[]
 | x::l=>match i with
  | 0=>{ x with c:=n }::l
  | i+1=>x::landL i n l
def Cs.land(i:Nat)(x:Cs):Cs:={ x with code:=landL i x.code.length x.code }
def Cs.use(r:Nat)(x:Cs):Cs:={ x with regs:=max x.regs (r+1) }
def firstC(n:Int):List Int→Option Nat
 | []=>none
 | x::l=>if x=n then some 0 else (firstC n l).map (·+1)
def Cs.con(n:Int)(x:Cs):Cs:=match firstC n x.cons with
 | some _=>x
 | none=>{ x with cons:=x.cons++[n] }
def Cs.conI(n:Int)(x:Cs):Nat:=(firstC n x.cons).getD x.cons.length
def regOf(s:Bs)(E:Env'):Nat:=(firstI s E).getD 0
def sgnOp(s:Bs):Nat:=(atKey [([124,124],16),([38,38],15),([61,61],9),([33,61],10),([60,61],11),([62,61],12),([60],13),([62],14),([43],3),([45],4),([42],5)] s).getD 6
def bltOp (s : Bs) : Nat := (atKey [([118, 101, 99], 17), ([120], 18), ([121], 19), ([122], 20), ([100, 111, 116], 21), ([99, 114, 111, 115, 115], 22), ([117, 110, 105, 116], 23), ([115, 113, 114, 116], 24), ([115, 105, 110], 25),
   ([99, 111, 115], 26), ([97, 98, 115], 27), ([102, 108, 111, 111, 114], 28), ([109, 105, 110], 29), ([109, 97, 120], 30), ([115, 97, 109, 112, 108, 101], 31)] s).getD 0
def tyOf(E:Env')(e:Ex):Nat:=match tyE E e with
 | .ok t=>t
 | .error _=>0
def headT(E:Env'):List Ex→Nat
 | []=>0
 | e::_=>tyOf E e
def lastE(E:Env')(k:Nat)(s:Bs)(n:Int)(kids:List Ex)(r:Nat)(x:Cs):Cs:=
 if k=1 then (x.con n).put 1 r (x.conI n) 0
 else if k=2 then x.put 2 r (regOf s E) 0
 else if k=3 then (if kids.length=1 then x.put (if s=[33] then 8 else 7) r r 0
  else if s=[42]∧headT E kids=2 then x.put 5 r (r+1) r else x.put (sgnOp s) r r (r+1))
 else if k=4 then x.put (bltOp s) r r (if kids.length=2 then r+1 else 0)
 else x
mutual
def cE(E:Env'):Ex→Nat→Cs→Cs
 | .mk k s n kids,r,x=>lastE E k s n kids r (cEs E kids r (x.use r))
def cEs(E:Env'):List Ex→Nat→Cs→Cs
 | [],_,x=>x
 | e::l,r,x=>cEs E l (r+1) (cE E e r x)
end
def nextE(E:Env'):St→Env'
 | .mk k s e _ _ _=>if k=1 then E++[(s,tyOf E e)] else E
mutual
def cS(E:Env'):St→Cs→Cs
 | .mk k s e body els _,x=>
  let r:=E.length
  let y:=cE E e r x
  if k=1 then y
  else if k=2 then y.put 2 (regOf s E) r 0
  else if k=3 then
   let z:=cL E body (y.put 33 r 0 0)
   if els.length=0 then z.land y.code.length
   else if retL body then cL E els (z.land y.code.length)
   else (cL E els ((z.put 32 0 0 0).land y.code.length)).land z.code.length
  else if k=4 then ((cL E body (y.put 33 r 0 0)).put 32 0 0 x.code.length).land y.code.length
  else y.put 34 r 0 0
def cL(E:Env'):List St→Cs→Cs
 | [],x=>x
 | s::l,x=>cL (nextE E s) l (cS E s x)
end
def cs0:Cs:=⟨[],[],4⟩
def csN:Cs:=⟨[],[],0⟩
def compileF(l:List St):Cs×FltI:=
 if (checkF l).1=0 then (if 250<(cL given4 l cs0).regs then (csN,(102,0)) else (cL given4 l cs0,(0,0))) else (csN,checkF l)
theorem landL_len(i n:Nat):∀l:List In4,(landL i n l).length=l.length:=by
 induction i with
 | zero=>intro l; cases l <;> rfl
 | succ i ih=>intro l; cases l with
  | nil=>rfl
  | cons x l=>simp only[landL,List.length_cons,ih]
theorem cEs_app(E:Env')(m:List Ex):∀(l:List Ex) (r:Nat) (x:Cs),cEs E (l++m) r x=cEs E m (r+l.length) (cEs E l r x)
 | [],r,x=>rfl
 | e::l,r,x=>by
  simp only[List.cons_append,cEs,cEs_app E m l,List.length_cons]
  rw[show r+1+l.length=r+(l.length+1) by omega]
theorem con_code(n:Int)(x:Cs):(x.con n).code=x.code∧(x.con n).regs=x.regs∧(x.con n).cons.length≤x.cons.length+1:=by
 unfold Cs.con
 cases firstC n x.cons <;> simp
theorem lastE_lim(E:Env')(k:Nat)(s:Bs)(n:Int)(kids:List Ex)(r:Nat)(x:Cs) :
  (lastE E k s n kids r x).code.length≤x.code.length+1∧(lastE E k s n kids r x).cons.length≤x.cons.length+1∧(lastE E k s n kids r x).regs=x.regs:=by
 obtain⟨h1,h2,h3⟩:=con_code n x
 unfold lastE
 repeat' split
 all_goals simp only[Cs.put,lA,List.length_cons,List.length_nil,h1,h2]
 all_goals refine⟨om,om,by first | rfl | trivial⟩
mutual
theorem cE_lim(E:Env'):∀(e:Ex) (r:Nat) (x:Cs),(cE E e r x).code.length≤x.code.length+e.size∧(cE E e r x).cons.length≤x.cons.length+e.size∧(cE E e r x).regs≤max x.regs (r+e.size)
 | .mk k s n kids,r,x=>by
  have h:=lastE_lim E k s n kids r (cEs E kids r (x.use r))
  have g:=cEs_lim E kids r (x.use r)
  have u:(x.use r).regs=max x.regs (r+1):=rfl
  have u1:(x.use r).code=x.code:=rfl
  have u2:(x.use r).cons=x.cons:=rfl
  simp only[cE,Ex.size]
  rw[u,u1,u2]at g
  refine⟨om,om,om⟩
theorem cEs_lim(E:Env'):∀(l:List Ex) (r:Nat) (x:Cs),(cEs E l r x).code.length≤x.code.length+sizesE l∧(cEs E l r x).cons.length≤x.cons.length+sizesE l∧(cEs E l r x).regs≤max x.regs (r+sizesE l)
 | [],r,x=>by simp only[cEs,sizesE]; refine⟨om,om,om⟩
 | e::l,r,x=>by
  have h:=cE_lim E e r x
  have g:=cEs_lim E l (r+1) (cE E e r x)
  have p:0<e.size:=by cases e; simp only[Ex.size]; omega
  simp only[cEs,sizesE]
  refine⟨om,om,om⟩
end
theorem nextE_len(E:Env')(s:St):(nextE E s).length≤E.length+1∧E.length≤(nextE E s).length:=by
 cases s; simp only[nextE]
 split <;> simp
mutual
theorem cS_lim(E:Env'):∀(s:St) (x:Cs),(cS E s x).code.length≤x.code.length+3*s.size∧(cS E s x).cons.length≤x.cons.length+s.size∧(cS E s x).regs≤max x.regs (E.length+s.size)
 | .mk k s e body els line,x=>by
  have h:=cE_lim E e E.length x
  have p:0<e.size:=by cases e; simp only[Ex.size]; omega
  have b:=cL_lim E body ((cE E e E.length x).put 33 E.length 0 0)
  have pl:∀(y:Cs) (o a b c:Nat),(y.put o a b c).code.length=y.code.length+1∧(y.put o a b c).cons=y.cons∧(y.put o a b c).regs=y.regs:=by
   intro y o a b c; simp[Cs.put]
  have ll:∀(y:Cs) (i:Nat),(y.land i).code.length=y.code.length∧(y.land i).cons=y.cons∧(y.land i).regs=y.regs:=by
   intro y i; simp[Cs.land,landL_len]
  simp only[cS,St.size]
  simp only[pl]at b
  split
  ·refine⟨om,om,om⟩
  split
  ·simp only[pl]; refine⟨om,om,om⟩
  split
  ·split
   ·simp only[ll]; refine⟨om,om,om⟩
   split
   ·have c:=cL_lim E els ((cL E body ((cE E e E.length x).put 33 E.length 0 0)).land (cE E e E.length x).code.length)
    simp only[ll]at c
    refine⟨om,om,om⟩
   ·have c:=cL_lim E els (((cL E body ((cE E e E.length x).put 33 E.length 0 0)).put 32 0 0 0).land (cE E e E.length x).code.length)
    simp only[ll,pl]at c ⊢
    refine⟨om,om,om⟩
  split
  ·simp only[ll,pl]; refine⟨om,om,om⟩
  ·simp only[pl]; refine⟨om,om,om⟩
theorem cL_lim(E:Env'):∀(l:List St) (x:Cs),(cL E l x).code.length≤x.code.length+3*sizesS l∧(cL E l x).cons.length≤x.cons.length+sizesS l∧(cL E l x).regs≤max x.regs (E.length+sizesS l)
 | [],x=>by simp only[cL,sizesS]; refine⟨om,om,om⟩
 | s::l,x=>by
  have h:=cS_lim E s x
  have g:=cL_lim (nextE E s) l (cS E s x)
  have n:=nextE_len E s
  have p:0<s.size:=by cases s; simp only[St.size]; omega
  simp only[cL,sizesS]
  refine⟨om,om,om⟩
end
open Go.Abs Go.Abs.S
def WhK(P:Nat→Prop)(H:AHeap)(m:Nat)(v:AVal)(k:Nat)(C:List AVal):Prop:=
 (isE v=true∧k=0∧C=[])∨∃b low r,v=.slice (some ⟨b,C.length,0⟩) k r∧P b∧H.get b=some (.cells C low false)∧low≤C.length∧C.length=m*k
theorem WhK.sl{P:Nat→Prop}{H:AHeap}{m k:Nat}{v:AVal}{C:List AVal}(h:WhK P H m v k C):SlK P H m v k C:=by
 rcases h with h | ⟨b,low,r,h1,h2,h3,h4,h5⟩
 ·exact .inl h
 ·refine .inr ⟨_,r,h1,h2,?_⟩
  rw[← h5]; exact rd_whole h3 h4
theorem WhK.mono{P Q:Nat→Prop}{H H':AHeap}{m k:Nat}{v:AVal}{C:List AVal}(h:WhK P H m v k C)(q:∀b,P b→Q b∧H'.get b=H.get b):WhK Q H' m v k C:=by
 rcases h with h | ⟨b,low,r,h1,h2,h3,h4,h5⟩
 ·exact .inl h
 ·exact .inr ⟨b,low,r,h1,(q b h2).1,(q b h2).2.trans h3,h4,h5⟩
theorem WhK.app{P:Nat→Prop}{H:AHeap}{m k:Nat}{v:AVal}{C:List AVal}(h:AppN m 0 H v C k)(hb:Blk v P):WhK P H m v k C:=by
 rcases h with⟨rfl,rfl,rfl⟩ | ⟨b,low,rfl,h2,h3,h4,h5,h6,h7⟩
 ·exact .inl ⟨rfl,rfl,rfl⟩
 ·exact .inr ⟨b,low,_,rfl,hb _ _ _ rfl,h5,h6,h2⟩
mutual
def XEw(P:Nat→Prop)(H:AHeap):Ex→List AVal→Prop
 | .mk k s n kids,c=>∃v C,c=[.int .u8 (k:Int),.str s,.int .i64 n,v]∧WhK P H 4 v kids.length C∧XEws P H kids C
def XEws(P:Nat→Prop)(H:AHeap):List Ex→List AVal→Prop
 | [],C=>C=[]
 | e::l,C=>∃c D,C=c++D∧XEw P H e c∧XEws P H l D
end
mutual
theorem XEw.xe{P:Nat→Prop}{H:AHeap}:∀{e:Ex} {c:List AVal},XEw P H e c→XE P H e c
 | .mk _ _ _ _,_,⟨v,C,h1,h2,h3⟩=>⟨v,C,h1,h2.sl,XEws.xes h3⟩
theorem XEws.xes{P:Nat→Prop}{H:AHeap}:∀{l:List Ex} {C:List AVal},XEws P H l C→XEs P H l C
 | [],_,h=>h
 | _::_,_,⟨c,D,h1,h2,h3⟩=>⟨c,D,h1,XEw.xe h2,XEws.xes h3⟩
end
mutual
theorem XEw.mono{P Q:Nat→Prop}{H H':AHeap}(q:∀b,P b→Q b∧H'.get b=H.get b):∀{e:Ex} {c:List AVal},XEw P H e c→XEw Q H' e c
 | .mk _ _ _ _,_,⟨v,C,h1,h2,h3⟩=>⟨v,C,h1,h2.mono q,XEws.mono q h3⟩
theorem XEws.mono{P Q:Nat→Prop}{H H':AHeap}(q:∀b,P b→Q b∧H'.get b=H.get b):∀{l:List Ex} {C:List AVal},XEws P H l C→XEws Q H' l C
 | [],_,h=>h
 | _::_,_,⟨c,D,h1,h2,h3⟩=>⟨c,D,h1,XEw.mono q h2,XEws.mono q h3⟩
end
theorem XEw.len{P:Nat→Prop}{H:AHeap}{e:Ex}{c:List AVal}(h:XEw P H e c):c.length=4:=h.xe.len
theorem XEws.app{P:Nat→Prop}{H:AHeap}{l':List Ex}{C':List AVal}(h':XEws P H l' C'):∀{l:List Ex} {C:List AVal},XEws P H l C→XEws P H (l++l') (C++C')
 | [],_,h=>by rw[show _=[] from h]; exact h'
 | _::l,_,⟨c,D,h1,h2,h3⟩=>⟨c,D++C',by rw[h1,List.append_assoc],h2,XEws.app h' h3⟩
theorem XEws.sing{P:Nat→Prop}{H:AHeap}{e:Ex}{c:List AVal}(h:XEw P H e c):XEws P H [e] c:=⟨c,[],by simp,h,rfl⟩
theorem XEws.at{P:Nat→Prop}{H:AHeap}:∀{l:List Ex} {C:List AVal},XEws P H l C→∀{i:Nat} {e:Ex},l[i]?=some e→XEw P H e ((C.drop (i*4)).take 4)
 | [],_,_,i,e,hi=>by simp at hi
 | x::l,_,⟨c,D,h1,h2,h3⟩,i,e,hi=>by
  subst h1
  have hl:=h2.len
  cases i with
  | zero=>
   simp only[List.getElem?_cons_zero,sJ]at hi
   subst hi
   rw[Nat.zero_mul,List.drop_zero,List.take_append_of_le_length om,List.take_of_length_le om]
   exact h2
  | succ i=>
   rw[List.getElem?_cons_succ]at hi
   have:=XEws.at h3 hi
   rw[show (i+1)*4=c.length+i*4 by omega,List.drop_append,List.drop_of_length_le om,List.nil_append,show c.length+i*4-c.length=i*4 by omega]
   exact this
theorem WhK.same{P Q:Nat→Prop}{H:AHeap}{m k k':Nat}{v:AVal}{C C':List AVal}(h:WhK P H m v k C)(h':WhK Q H m v k' C'):k=k'∧C=C':=by
 rcases h with⟨h1,h2,h3⟩ | ⟨b,low,r,h1,h2,h3,h4,h5⟩
 ·rcases h' with⟨_,g2,g3⟩ | ⟨b,low,r,g1,g2,g3,g4,g5⟩
  ·exact⟨h2.trans g2.symm,h3.trans g3.symm⟩
  ·rcases isE_cases h1 with e | ⟨a,e⟩ <;> rw[e]at g1 <;> simp[nilS]at g1
 ·rcases h' with⟨g1,g2,g3⟩ | ⟨b',low',r',g1,g2,g3,g4,g5⟩
  ·rcases isE_cases g1 with e | ⟨a,e⟩ <;> rw[e]at h1 <;> simp[nilS]at h1
  ·rw[h1]at g1
   simp only[AVal.slice.injEq,sJ,Ad.mk.injEq]at g1
   obtain⟨⟨rfl,_,_⟩,rfl,_⟩:=g1
   rw[h3]at g3
   simp only[sJ,AObj.cells.injEq]at g3
   exact⟨rfl,g3.1⟩
mutual
theorem XEw.same{P Q:Nat→Prop}{H:AHeap}:∀{e e':Ex} {c:List AVal},XEw P H e c→XEw Q H e' c→e=e'
 | .mk k s n kids,.mk k' s' n' kids',c,⟨v,C,h1,h2,h3⟩,⟨v',C',g1,g2,g3⟩=>by
  rw[h1]at g1
  simp only[List.cons.injEq,AVal.int.injEq,true_and,AVal.str.injEq,and_true]at g1
  obtain⟨q1,q2,q3,q4⟩:=g1
  subst q4
  obtain⟨q5,rfl⟩:=h2.same g2
  rw[XEws.same q5 h3 g3,q2,q3,show k=k' by omega]
theorem XEws.same{P Q:Nat→Prop}{H:AHeap}:∀{l l':List Ex} {C:List AVal},l.length=l'.length→XEws P H l C→XEws Q H l' C→l=l'
 | [],[],_,_,_,_=>rfl
 | [],_::_,_,h,_,_=>by simp at h
 | _::_,[],_,h,_,_=>by simp at h
 | e::l,e'::l',C,h,⟨c,D,h1,h2,h3⟩,⟨c',D',g1,g2,g3⟩=>by
  rw[h1]at g1
  obtain⟨rfl,rfl⟩:=List.append_inj g1 (h2.len.trans g2.len.symm)
  rw[XEw.same h2 g2,XEws.same (by simpa using h) h3 g3]
end
mutual
def XSw(P:Nat→Prop)(H:AHeap):St→List AVal→Prop
 | .mk k s e body els line,c=>∃ce vb Cb ve Ce,c=.int .u8 (k:Int)::.str s::(ce++[vb,ve,.int .i64 line])∧XEw P H e ce∧SlK P H 9 vb body.length Cb∧XSws P H body Cb∧SlK P H 9 ve els.length Ce∧XSws P H els Ce
def XSws(P:Nat→Prop)(H:AHeap):List St→List AVal→Prop
 | [],C=>C=[]
 | e::l,C=>∃c D,C=c++D∧XSw P H e c∧XSws P H l D
end
mutual
theorem XSw.xs{P:Nat→Prop}{H:AHeap}:∀{e:St} {c:List AVal},XSw P H e c→XS P H e c
 | .mk _ _ _ _ _ _,_,⟨ce,vb,Cb,ve,Ce,h1,h2,h3,h4,h5,h6⟩=>⟨ce,vb,Cb,ve,Ce,h1,h2.xe,h3,XSws.xss h4,h5,XSws.xss h6⟩
theorem XSws.xss{P:Nat→Prop}{H:AHeap}:∀{l:List St} {C:List AVal},XSws P H l C→XSs P H l C
 | [],_,h=>h
 | _::_,_,⟨c,D,h1,h2,h3⟩=>⟨c,D,h1,XSw.xs h2,XSws.xss h3⟩
end
mutual
theorem XSw.mono{P Q:Nat→Prop}{H H':AHeap}(q:∀b,P b→Q b∧H'.get b=H.get b):∀{e:St} {c:List AVal},XSw P H e c→XSw Q H' e c
 | .mk _ _ _ _ _ _,_,⟨ce,vb,Cb,ve,Ce,h1,h2,h3,h4,h5,h6⟩=>⟨ce,vb,Cb,ve,Ce,h1,h2.mono q,h3.mono q,XSws.mono q h4,h5.mono q,XSws.mono q h6⟩
theorem XSws.mono{P Q:Nat→Prop}{H H':AHeap}(q:∀b,P b→Q b∧H'.get b=H.get b):∀{l:List St} {C:List AVal},XSws P H l C→XSws Q H' l C
 | [],_,h=>h
 | _::_,_,⟨c,D,h1,h2,h3⟩=>⟨c,D,h1,XSw.mono q h2,XSws.mono q h3⟩
end
theorem XSws.app{P:Nat→Prop}{H:AHeap}{l':List St}{C':List AVal}(h':XSws P H l' C'):∀{l:List St} {C:List AVal},XSws P H l C→XSws P H (l++l') (C++C')
 | [],_,h=>by rw[show _=[] from h]; exact h'
 | _::l,_,⟨c,D,h1,h2,h3⟩=>⟨c,D++C',by rw[h1,List.append_assoc],h2,XSws.app h' h3⟩
theorem XSws.sing{P:Nat→Prop}{H:AHeap}{e:St}{c:List AVal}(h:XSw P H e c):XSws P H [e] c:=⟨c,[],by simp,h,rfl⟩
theorem XSws.at{P:Nat→Prop}{H:AHeap}:∀{l:List St} {C:List AVal},XSws P H l C→∀{i:Nat} {e:St},l[i]?=some e→XSw P H e ((C.drop (i*9)).take 9)
 | [],_,_,i,e,hi=>by simp at hi
 | x::l,_,⟨c,D,h1,h2,h3⟩,i,e,hi=>by
  subst h1
  have hl:=h2.xs.len
  cases i with
  | zero=>
   simp only[List.getElem?_cons_zero,sJ]at hi
   subst hi
   rw[Nat.zero_mul,List.drop_zero,List.take_append_of_le_length om,List.take_of_length_le om]
   exact h2
  | succ i=>
   rw[List.getElem?_cons_succ]at hi
   have:=XSws.at h3 hi
   rw[show (i+1)*9=c.length+i*9 by omega,List.drop_append,List.drop_of_length_le om,List.nil_append,show c.length+i*9-c.length=i*9 by omega]
   exact this
def GEw(n:Nat)(H:AHeap)(v:AVal)(l:List Ex):Prop:=∃C,AppN 4 0 H v C l.length∧Blk v (In n H.next)∧XEws (fun c=>In n H.next c∧Blk v (c≠·)) H l C
theorem GEw.nil(n:Nat)(H:AHeap):GEw n H nilS []:=⟨[],.nil _ _ _,blk_nil _,rfl⟩
theorem GEw.keep{n:Nat}{H H':AHeap}{v:AVal}{l:List Ex}(h:GEw n H v l)(hn:H.next≤H'.next)(e:∀c,In n H.next c→H'.get c=H.get c):GEw n H' v l:=by
 obtain⟨C,h1,h2,h3⟩:=h
 exact⟨C,h1.same hn (h2.mono fun b hb=>e b hb),h2.mono fun b hb=>⟨hb.1,Nat.lt_of_lt_of_le hb.2 hn⟩,h3.mono fun b hb=>⟨⟨⟨hb.1.1,Nat.lt_of_lt_of_le hb.1.2 hn⟩,hb.2⟩,e b hb.1⟩⟩
theorem GEw.sl{n:Nat}{H:AHeap}{v:AVal}{l:List Ex}(h:GEw n H v l):∃C,WhK (In n H.next) H 4 v l.length C∧XEws (In n H.next) H l C:=by
 obtain⟨C,h1,h2,h3⟩:=h
 exact⟨C,.app h1 h2,h3.mono fun b hb=>⟨hb.1,rfl⟩⟩
theorem GEw.push{n m:Nat}{H:AHeap}{v:AVal}{l:List Ex}(h:GEw n H v l){e:Ex}{xs:List AVal}(hx:XEw (In m H.next) H e xs)(hm:n≤m)(hn:n≤H.next)(hv:Blk v (·<m))(hl:l.length≤1000000){bytes:Nat}(hb1:0<bytes)(hb2:bytes≤1000) :
  ∃v' H',aAppend 4 bytes (H.push (.cells xs 0 false)) v (oneM H 4)=some (v',H')∧GEw n H' v' (l++[e])∧H.next≤H'.next∧∀c,c<H.next→Blk v (c≠·)→H'.get c=H.get c:=by
 obtain⟨C,h1,h2,h3⟩:=h
 have hb:2*(l.length+1)*bytes≤281474976710656:=by
  have:2*(l.length+1)*bytes≤2*(1000000+1)*1000:=Nat.mul_le_mul om hb2
  omega
 obtain⟨v',H',a1,a2,a3,a4,a5⟩:=h1.pushB hx.len hx.xe.one om hb hb1
 have k:∀c,In n H.next c→Blk v (c≠·)→In n H'.next c∧Blk v' (c≠·):=by
  intro c hc hd
  refine⟨⟨hc.1,Nat.lt_of_lt_of_le hc.2 a3⟩,(a4 _ hd).mono fun b hb=>?_⟩
  rcases hb with hb | hb
  ·exact hb
  ·have:=hc.2; omega
 refine⟨v',H',a1,⟨C++xs,by rw[lA]; exact a2,?_,XEws.app (XEws.sing ?_) ?_⟩,a3,a5⟩
 ·intro a j r e
  refine⟨?_,a2.blk' a j r e⟩
  rcases (a4 _ h2) a j r e with hb | hb
  ·exact hb.1
  ·omega
 ·refine hx.mono fun b hb=>⟨?_,a5 b hb.2 ?_⟩
  ·exact k b ⟨Nat.le_trans hm hb.1,hb.2⟩ (hv.mono fun c hc=>by have:=hb.1; omega)
  ·exact hv.mono fun c hc=>by have:=hb.1; omega
 ·exact h3.mono fun b hb=>⟨k b hb.1 hb.2,a5 b hb.1.2 hb.2⟩
def GSw(n:Nat)(H:AHeap)(v:AVal)(l:List St):Prop:=∃C,AppN 9 0 H v C l.length∧Blk v (In n H.next)∧XSws (fun c=>In n H.next c∧Blk v (c≠·)) H l C
theorem GSw.nil(n:Nat)(H:AHeap):GSw n H nilS []:=⟨[],.nil _ _ _,blk_nil _,rfl⟩
theorem GSw.keep{n:Nat}{H H':AHeap}{v:AVal}{l:List St}(h:GSw n H v l)(hn:H.next≤H'.next)(e:∀c,In n H.next c→H'.get c=H.get c):GSw n H' v l:=by
 obtain⟨C,h1,h2,h3⟩:=h
 exact⟨C,h1.same hn (h2.mono fun b hb=>e b hb),h2.mono fun b hb=>⟨hb.1,Nat.lt_of_lt_of_le hb.2 hn⟩,h3.mono fun b hb=>⟨⟨⟨hb.1.1,Nat.lt_of_lt_of_le hb.1.2 hn⟩,hb.2⟩,e b hb.1⟩⟩
theorem GSw.sl{n:Nat}{H:AHeap}{v:AVal}{l:List St}(h:GSw n H v l):∃C,SlK (In n H.next) H 9 v l.length C∧XSws (In n H.next) H l C:=by
 obtain⟨C,h1,h2,h3⟩:=h
 exact⟨C,.app h1 h2,h3.mono fun b hb=>⟨hb.1,rfl⟩⟩
theorem GSw.push{n m:Nat}{H:AHeap}{v:AVal}{l:List St}(h:GSw n H v l){e:St}{xs:List AVal}(hx:XSw (In m H.next) H e xs)(hm:n≤m)(hn:n≤H.next)(hv:Blk v (·<m))(hl:l.length≤1000000){bytes:Nat}(hb1:0<bytes)(hb2:bytes≤1000) :
  ∃v' H',aAppend 9 bytes (H.push (.cells xs 0 false)) v (oneM H 9)=some (v',H')∧GSw n H' v' (l++[e])∧H.next≤H'.next∧∀c,c<H.next→Blk v (c≠·)→H'.get c=H.get c:=by
 obtain⟨C,h1,h2,h3⟩:=h
 have hb:2*(l.length+1)*bytes≤281474976710656:=by
  have:2*(l.length+1)*bytes≤2*(1000000+1)*1000:=Nat.mul_le_mul om hb2
  omega
 obtain⟨v',H',a1,a2,a3,a4,a5⟩:=h1.pushB hx.xs.len hx.xs.one om hb hb1
 have k:∀c,In n H.next c→Blk v (c≠·)→In n H'.next c∧Blk v' (c≠·):=by
  intro c hc hd
  refine⟨⟨hc.1,Nat.lt_of_lt_of_le hc.2 a3⟩,(a4 _ hd).mono fun b hb=>?_⟩
  rcases hb with hb | hb
  ·exact hb
  ·have:=hc.2; omega
 refine⟨v',H',a1,⟨C++xs,by rw[lA]; exact a2,?_,XSws.app (XSws.sing ?_) ?_⟩,a3,a5⟩
 ·intro a j r e
  refine⟨?_,a2.blk' a j r e⟩
  rcases (a4 _ h2) a j r e with hb | hb
  ·exact hb.1
  ·omega
 ·refine hx.mono fun b hb=>⟨?_,a5 b hb.2 ?_⟩
  ·exact k b ⟨Nat.le_trans hm hb.1,hb.2⟩ (hv.mono fun c hc=>by have:=hb.1; omega)
  ·exact hv.mono fun c hc=>by have:=hb.1; omega
 ·exact h3.mono fun b hb=>⟨k b hb.1 hb.2,a5 b hb.1.2 hb.2⟩
open Go.Abs Go.Abs.S
def plKey(b n k:Nat):AVal:=.agg [.ptr (some ⟨b,n,0⟩),.int .i64 (k:Int)]
abbrev kPI:FKd×FKd:=(.p,.i)
theorem isPK_pl(b n k:Nat):isPK kPI (plKey b n k)=true:=rfl
def EntK(P:Nat→Prop)(H:AHeap)(f:List Ex→AVal→Prop)(e:Ent):Prop:=
 ∃b C low kids,e.1=plKey b C.length kids.length∧P b∧H.get b=some (.cells C low false)∧XEws P H kids C∧f kids e.2.1
theorem XEws.len{P:Nat→Prop}{H:AHeap}{l:List Ex}{C:List AVal}(h:XEws P H l C):C.length=4*l.length:=h.xes.len
theorem pl_eq{P Q:Nat→Prop}{H:AHeap}{b b' low low':Nat}{C C':List AVal}{kids kids':List Ex}(h:H.get b=some (.cells C low false))(hx:XEws P H kids C)(h':H.get b'=some (.cells C' low' false))(hx':XEws Q H kids' C') :
  pEqK H.get kPI (plKey b C.length kids.length) (plKey b' C'.length kids'.length)=some (Nat.beq b b')∧(b=b'→kids=kids'):=by
 by_cases hb:b=b'
 ·subst hb
  rw[h]at h'
  simp only[sJ,AObj.cells.injEq]at h'
  obtain⟨rfl,_⟩:=h'
  have hl:kids.length=kids'.length:=by have:=hx.len; have:=hx'.len; omega
  refine⟨?_,fun _=>XEws.same hl hx hx'⟩
  simp only[pEqK,plKey,pEqV,pEqP,Nat.beq_refl,cond_true,hl,if_true,eqF_eq,beq_self_eq_true]
 ·have e:Nat.beq b b'=false:=by rw[beq_dec]; exact decide_eq_false hb
  refine⟨?_,fun e'=>absurd e' hb⟩
  simp only[pEqK,plKey,pEqV,pEqP,e,cond_false,h,h']
theorem pFind_tree{P Q:Nat→Prop}{H:AHeap}{f:List Ex→AVal→Prop}{b low:Nat}{C:List AVal}{kids:List Ex}(h:H.get b=some (.cells C low false))(hx:XEws Q H kids C):∀(es:List Ent) (i:Nat),(∀e∈es,EntK P H f e) →
  pFind H.get kPI (plKey b C.length kids.length) es i=some none∨∃j e,es[j]?=some e∧f kids e.2.1∧pFind H.get kPI (plKey b C.length kids.length) es i=some (some (i+j,e))
 | [],i,_=>.inl rfl
 | e::r,i,he=>by
  obtain⟨b',C',low',kids',h1,h2,h3,h4,h5⟩:=he e (by simp)
  obtain⟨q1,q2⟩:=pl_eq h hx h3 h4
  by_cases hb:b=b'
  ·refine .inr ⟨0,e,rfl,by rw[q2 hb]; exact h5,?_⟩
   rw[show Nat.beq b b'=true by rw[hb]; exact Nat.beq_refl _]at q1
   simp only[pFind,h1,q1,Nat.add_zero]
  ·rw[show Nat.beq b b'=false by rw[beq_dec]; exact decide_eq_false hb]at q1
   have ih:=pFind_tree h hx r (i+1) fun x hx=>he x (by simp[hx])
   rcases ih with ih | ⟨j,x,g1,g2,g3⟩
   ·exact .inl (by simp only[pFind,h1,q1]; exact ih)
   ·refine .inr ⟨j+1,x,by rw[List.getElem?_cons_succ]; exact g1,g2,?_⟩
    simp only[pFind,h1,q1]
    rw[g3,show i+1+j=i+(j+1) by omega]
def MapOk(P:Nat→Prop)(f:AHeap→List Ex→AVal→Prop)(mt:Nat)(H:AHeap):Prop:=mt<H.next∧∃es c,H.get mt=some (.map es c)∧∀e∈es,EntK P H (f H) e
theorem MapOk.new{P:Nat→Prop}{f:AHeap→List Ex→AVal→Prop}{mt:Nat}{H:AHeap}(h:H.get mt=some (.map [] 0))(hn:mt<H.next):MapOk P f mt H:=⟨hn,[],0,h,fun e he=>by simp at he⟩
theorem EntK.mono{P Q:Nat→Prop}{H H':AHeap}{f f':List Ex→AVal→Prop}{e:Ent}(h:EntK P H f e)(q:∀b,P b→Q b∧H'.get b=H.get b)(hf:∀k y,f k y→f' k y):EntK Q H' f' e:=by
 obtain⟨b,C,low,kids,h1,h2,h3,h4,h5⟩:=h
 exact⟨b,C,low,kids,h1,(q b h2).1,(q b h2).2.trans h3,h4.mono q,hf _ _ h5⟩
theorem MapOk.keep{P Q:Nat→Prop}{f f':AHeap→List Ex→AVal→Prop}{mt:Nat}{H H':AHeap}(h:MapOk P f mt H)(hn:H.next≤H'.next)(hm:H'.get mt=H.get mt)(q:∀b,P b→Q b∧H'.get b=H.get b)(hf:∀k y,f H k y→f' H' k y):MapOk Q f' mt H':=by
 obtain⟨h0,es,c,h1,h2⟩:=h
 exact⟨om,es,c,hm.trans h1,fun e he=>(h2 e he).mono q hf⟩
theorem MapOk.look{P Q:Nat→Prop}{f:AHeap→List Ex→AVal→Prop}{mt:Nat}{H:AHeap}(h:MapOk P f mt H){b low:Nat}{C:List AVal}{kids:List Ex}(hb:H.get b=some (.cells C low false))(hx:XEws Q H kids C)(z:AVal) :
  aPLook kPI true z H [.map (some mt),plKey b C.length kids.length]=some (.tuple [z,.bool false],H)∨∃y,f H kids y∧aPLook kPI true z H [.map (some mt),plKey b C.length kids.length]=some (.tuple [y,.bool true],H):=by
 obtain⟨h0,es,c,h1,h2⟩:=h
 rcases pFind_tree hb hx es 0 h2 with q | ⟨j,e,_,g2,g3⟩
 ·exact .inl (by simp only[aPLook,h1,aPLookE,isPK_pl,cond_true,q]; rfl)
 ·exact .inr ⟨e.2.1,g2,by simp only[aPLook,h1,aPLookE,isPK_pl,cond_true,g3]; rfl⟩
theorem MapOk.upd{P:Nat→Prop}{f:AHeap→List Ex→AVal→Prop}{mt:Nat}{H:AHeap}(h:MapOk P f mt H){b low:Nat}{C:List AVal}{kids:List Ex}(hb:H.get b=some (.cells C low false))(hx:XEws P H kids C)(hp:P b)(hm:∀c,P c→c≠mt){y:AVal}
  (hf:∀H':AHeap,(∀c,c≠mt→H'.get c=H.get c)→H'.next=H.next→∀k x,(f H k x∨k=kids∧x=y)→f H' k x) :
  ∃H',aPUpd kPI H [.map (some mt),plKey b C.length kids.length,y]=some (.tuple [],H')∧MapOk P f mt H'∧H'.next=H.next∧∀c,c≠mt→H'.get c=H.get c:=by
 obtain⟨h0,es,c,h1,h2⟩:=h
 have key:∀es' c',(∀e∈es',e∈es∨e.1=plKey b C.length kids.length∧e.2.1=y)→MapOk P f mt (H.set mt (.map es' c')):=by
  intro es' c' he
  have g:∀c,c≠mt→(H.set mt (.map es' c')).get c=H.get c:=fun c hc=>by rw[AHeap.get_set,if_neg hc]
  refine⟨h0,es',c',by rw[AHeap.get_set,if_pos rfl],fun e q=>?_⟩
  rcases he e q with q | ⟨q1,q2⟩
  ·exact (h2 e q).mono (fun b hb=>⟨hb,g b (hm b hb)⟩) fun k x hk=>hf _ g (by rw[set_next]) k x (.inl hk)
  ·exact⟨b,C,low,kids,q1,hp,(g b (hm b hp)).trans hb,hx.mono fun b hb=>⟨hb,g b (hm b hb)⟩,by rw[q2]; exact hf _ g (by rw[set_next]) kids y (.inr ⟨rfl,rfl⟩)⟩
 rcases pFind_tree hb hx es 0 h2 with q | ⟨j,e,g1,g2,g3⟩
 ·refine⟨H.set mt (.map (es++[(plKey b C.length kids.length,y,c)]) (c+1)),by simp only[aPUpd,h1,aPUpdE,isPK_pl,cond_true,q],key _ _ ?_,set_next ..,fun c hc=>by rw[AHeap.get_set,if_neg hc]⟩
  intro e he
  rcases List.mem_append.1 he with he | he
  ·exact .inl he
  ·rw[List.mem_singleton.1 he]; exact .inr ⟨rfl,rfl⟩
 ·refine⟨H.set mt (.map (mSet es (0+j) (plKey b C.length kids.length,y,e.2.2)) c),by simp only[aPUpd,h1,aPUpdE,isPK_pl,cond_true,g3],key _ _ ?_,set_next ..,fun c hc=>by rw[AHeap.get_set,if_neg hc]⟩
  intro x hx
  have ms:∀(es:List Ent) (i:Nat) (z x:Ent),x∈mSet es i z→x∈es∨x=z:=by
   intro es
   induction es with
   | nil=>intro i z x h; cases i <;> simp[mSet]at h
   | cons a r ih=>
    intro i z x h
    cases i with
    | zero=>
     simp only[mSet,List.mem_cons]at h
     rcases h with h | h
     ·exact .inr h
     ·exact .inl (by simp[h])
    | succ i=>
     simp only[mSet,List.mem_cons]at h
     rcases h with h | h
     ·exact .inl (by simp[h])
     ·rcases ih i z x h with h | h
      ·exact .inl (by simp[h])
      ·exact .inr h
  rcases ms _ _ _ _ hx with h | h
  ·exact .inl h
  ·rw[h]; exact .inr ⟨rfl,rfl⟩
open Go.Abs Go.Abs.S
theorem GEw.aeq{n:Nat}{H:AHeap}{v:AVal}{l:List Ex}(h:GEw n H v l):Go.Abs.aeq v v=true:=by
 obtain⟨C,h1,_⟩:=h.sl
 exact h1.sl.aeq
theorem GEw.one{n:Nat}{H:AHeap}{v:AVal}{l:List Ex}(h:GEw n H v l):v.one=true:=by
 obtain⟨C,h1,_⟩:=h.sl
 exact h1.sl.one
theorem copye_spec:∀(N:Nat) {e:Ex} {c:List AVal} {H:AHeap},e.size≤N→e.size≤1000000→XE (·<H.next) H e c →
  ACalls Tryz.prog natT 36 [.agg c] H fun u H'=>(∃c',u=.agg c'∧XEw (In H.next H'.next) H' e c')∧Ext H.next H H'
 | 0,e,_,_,h,_,_=>absurd (sizeE_pos e) om
 | N+1,.mk k s z kids,c,H,h,hs,hx=>by
  obtain⟨v0,C,rfl,z1,z2⟩:=hx
  have hsz:(Ex.mk k s z kids).size=sizesE kids+1:=rfl
  refine acalls_ofN rfl za36 rfl ?_
  obtain⟨H1,m1,r1,n1,k1⟩:=row_newL H [.int .u8 (k:Int),.str s,.int .i64 z,v0] (n:=4) rfl
  obtain⟨H2,m2,r2,n2,k2⟩:=row_newL H1 [.int .u8 0,.str [],.int .i64 0,.slice none 0 (.known 0)] (n:=4) rfl
  obtain⟨H3,m3,r3,n3,k3⟩:=row_newL H2 [.int .u8 0,.str [],.int .i64 0,.slice none 0 (.known 0)] (n:=4) rfl
  obtain⟨H4,m4,r4,n4,k4⟩:=row_storeN r3 (n:=4) rfl (xs:=[.int .u8 (k:Int),.str s,.int .i64 z,nilS]) rfl rfl
  have r12:Row H2 H.next [.int .u8 (k:Int),.str s,.int .i64 z,v0]:=r1.same (k2 _ om)
  have q0:oLoad false 1 H2 (cellR H.next 4 0)=some (.int .u8 (k:Int)):=row_load r12 rfl rfl
  have q1:oLoad false 1 H2 (cellR H.next 4 1)=some (.str s):=row_load r12 rfl rfl
  have q2:oLoad false 1 H2 (cellR H.next 4 2)=some (.int .i64 z):=row_load r12 rfl rfl
  have bo:aBuild [.int .u8 0,.str [],.int .i64 0,.slice none 0 (.known 0)] [(0,1,.int .u8 (k:Int)),(1,1,.str s),(2,1,.int .i64 z)]=some (.agg [.int .u8 (k:Int),.str s,.int .i64 z,nilS]):=rfl
  have E4:Ext H.next H H4:=⟨om,fun c hc=>by rw[k4 c om,k3 c om,k2 c om,k1 c om]⟩
  have r14:Row H4 H.next [.int .u8 (k:Int),.str s,.int .i64 z,v0]:=r12.same (by rw[k4 _ om,k3 _ om])
  have r24:Row H4 H1.next [.int .u8 0,.str [],.int .i64 0,.slice none 0 (.known 0)]:=r2.same (by rw[k4 _ om,k3 _ om])
  obtain⟨b3,hb3⟩:∃b,b=H2.next:=⟨_,rfl⟩
  rw[← hb3]at m3 r4 m4 k4
  have ln:=z1.len
  have hlen:=len_sizesE kids
  simp only[c36,sA,sB,seval,cells_agg,m1,m2,m3,m4,fld0,fldA,q0,q1,q2,bo]
  refine aw_loop (fun m (T:Env) K=>∃(i:Nat) (v:AVal),m=kids.length-i∧i≤kids.length∧T 1=cellR H.next 4 0∧T 2=cellR H1.next 4 0∧T 3=cellR b3 4 0∧T 4=.int .i64 (i:Int)∧Fp b3 H4 K∧Row K b3 [.int .u8 (k:Int),.str s,.int .i64 z,v]∧GEw (b3+1) K v (kids.take i)) kids.length
   ⟨0,nilS,rfl,Nat.zero_le _,by simp only[sA,sB,seval],by simp only[sA,sB,seval],by simp only[sA,sB,seval],by simp only[sA,sB,seval]; try rfl,Fp.refl _ _,r4,GEw.nil _ _⟩ ?_
  rintro m T K ⟨i,v,rfl,hi,t1,t2,t3,t4,FK,rK,gK⟩
  have eK:=FK.next
  have l3K:oLoad false 1 K (cellR H.next 4 3)=some v0:=row_load (r14.same (FK.old _ om om)) rfl rfl
  have EK:Ext H.next H K:=E4.trans ⟨om,fun c hc=>FK.old c om om⟩
  by_cases hlt:i<kids.length
  case neg=>
   obtain rfl:i=kids.length:=om
   have hlt':¬(kids.length:Int)<(kids.length:Int):=om
   rw[List.take_length]at gK
   obtain⟨Cv,g1,g2⟩:=gK.sl
   have lw:oLoad true 4 K (cellR b3 4 0)=some (.agg [.int .u8 (k:Int),.str s,.int .i64 z,v]):=row_loadN rK rfl
   obtain⟨H5,m5,r5,n5,k5⟩:=row_storeN (H:=K) (r24.same (FK.old _ om om)) (n:=4) rfl (xs:=[.int .u8 (k:Int),.str s,.int .i64 z,v]) rfl (by simp only[List.all_cons,List.all_nil,g1.sl.one]; rfl)
   have l5:oLoad true 4 H5 (cellR H1.next 4 0)=some (.agg [.int .u8 (k:Int),.str s,.int .i64 z,v]):=row_loadN r5 rfl
   simp only[sA,sB,seval,t1,t2,t3,t4,fldA,l3K,ln,hlt',lw,m5]
   refine fin_c1 _ _ _ _ (by simp only[sA,sB,seval,t2]; exact l5) ?_
   have km:∀b,In (b3+1) K.next b→In H.next H5.next b∧H5.get b=K.get b:=fun b hb=>⟨⟨by have:=hb.1; omega,by have:=hb.2; omega⟩,k5 b (by have:=hb.1; omega)⟩
   exact⟨⟨_,rfl,v,Cv,rfl,g1.mono km,g2.mono km⟩,by have:=EK.next; omega,fun c hc=>by rw[k5 c om,EK.old c hc]⟩
  have hlt':(i:Int)<(kids.length:Int):=om
  obtain⟨e,he⟩:∃e,kids[i]?=some e:=⟨_,List.getElem?_eq_getElem hlt⟩
  have hts:kids.take (i+1)=kids.take i++[e]:=by rw[List.take_add_one,he]; rfl
  have km:∀b,b<H.next→b<K.next∧K.get b=H.get b:=fun b hb=>⟨by have:=EK.next; omega,EK.old b hb⟩
  have z13:=z1.mono km
  have z23:=z2.mono km
  have ix:=z13.idx hlt
  have ld:=z13.load hlt
  have he3:=z23.at he
  have hsm:=size_mem (List.mem_of_getElem? he)
  have wi:IntKind.i64.wrap ((i:Int)+1)=((i+1:Nat):Int):=addN i 1 om
  have l3v:oLoad false 1 K (cellR b3 4 3)=some v:=row_load rK rfl rfl
  simp only[sA,sB,seval,t1,t2,t3,t4,fldA,l3K,ln,hlt']
  refine aw_drawC rfl ?_
  simp only[sR,sA,sB,seval,t1,t2,t3,t4,fldA,l3K,l3v,ix,ld]
  refine (copye_spec N om om he3).mono ?_
  rintro _ K2 ⟨⟨ys,rfl,xy⟩,E2⟩
  have e2:=E2.next
  have hbv:Blk v (In (b3+1) K.next):=by
   obtain⟨C,_,q,_⟩:=gK
   exact q
  have bb:Blk v (b3≠·):=hbv.mono fun c hc=>by have:=hc.1; omega
  have rK2:=rK.same (H':=K2) (E2.old b3 om)
  have rKP:=rK2.same (H':=K2.push (.cells ys 0 false)) (get_push_lt om)
  have gE2:=gK.keep E2.next fun c hc=>E2.old c hc.2
  have hv:=gK.aeq
  obtain⟨v',K3,a3,G3,n3',k3'⟩:=gE2.push xy om om (hbv.mono fun c hc=>hc.2) (by rw[List.length_take]; omega) (bytes:=56) om om
  obtain⟨K4,m4',r4',n4',k4'⟩:=row_st (H:=K3) (rK2.same (k3' b3 om bb)) (n:=4) rfl (i:=3) om (x:=v') G3.one (l':=[.int .u8 (k:Int),.str s,.int .i64 z,v']) rfl
  have G4:=G3.keep (H':=K4) om fun c hc=>k4' c (by have:=hc.1; omega)
  have z2':oLoad false 1 K2 (cellR b3 4 3)=some v:=row_load rK2 rfl rfl
  have z3':oLoad false 1 (K2.push (.cells ys 0 false)) (cellR b3 4 3)=some v:=row_load rKP rfl rfl
  have bm:=buildM (z:=[.int .u8 0,.str [],.int .i64 0,.slice none 0 (.known 0)]) (m:=4) K2 rfl xy.len
  simp only[sR,sA,sB,seval,t1,t2,t3,t4,fldA,bm,a3,m4']
  simp only[ck_nil',ck_cons,ckP_load,ckP_nil,ck_end,and_true,true_and,List.map_cons,List.map_nil,sA,sB,seval,t1,t2,t3,t4,fldA,wi]
  refine⟨⟨⟨_,rfl,fun _=>⟨_,z2',hv⟩⟩,⟨_,rfl,fun _=>⟨_,z3',hv⟩⟩⟩,kids.length-(i+1),om,i+1,v',rfl,om,tt,⟨om,fun c h1 h2=>?_⟩,r4',?_⟩
  ·rw[k4' c h2,k3' c om (hbv.mono fun x hx=>by have:=hx.1; omega),E2.old c om,FK.old c h1 h2]
  ·rw[hts]; exact G4
end Go.Proofs.Wo
