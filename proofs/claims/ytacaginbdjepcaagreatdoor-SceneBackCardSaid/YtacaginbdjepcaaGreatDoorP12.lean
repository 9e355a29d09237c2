/- Part of a proof (VD19 VD20 VD21 VP4 VD22 VD23 VD24 VAX VSh VN1 L1 VDoor); no condition. -/
import Derived.OpenShut
import Derived.SizedLaws
import Derived.Shelf.Strings.OnBuilder
import Derived.Shelf.LaysM
import Derived.Shelf.Strconv.Clone
import Derived.Shelf.Strings.Repeat
import Derived.Test.YtacaginbdjepcaaGreatDoorProg
import Derived.WalkKit
import Derived.Below
import Derived.ChangeSame
import Derived.ReadAgain
import Derived.ProofKit
import Derived.Test.YtacaginbdjepcaaGreatDoorRows
import Derived.LaidLaws
import Derived.LaidHandle
import Derived.Lay
import Derived.Test.YtacaginbdjepcaaGreatDoorP6
import Derived.Test.YtacaginbdjepcaaGreatDoorP7
import Derived.Test.YtacaginbdjepcaaGreatDoorP8
import Derived.Test.YtacaginbdjepcaaGreatDoorP9
import Derived.Test.YtacaginbdjepcaaGreatDoorP11
set_option linter.unusedSimpArgs false
set_option linter.unusedVariables false
set_option linter.unnecessarySimpa false
namespace Go.Proofs.Wo
open Go.Abs Go.Abs.S
structure Pg(H:ae)(pb:Nat)(t:Bs):Prop where
 ex:∃v,Row H pb [v]/\dI 1 0 H v (dm t) t.length/\ed v (pb<·)
 lt:pb<H.next
theorem Pg.ext{H H':ae}{pb:Nat}{t:Bs}(h:Pg H pb t)(e:bg H.next H H'):Pg H' pb t:=by
 obtain⟨v,r,a,b⟩:=h.ex
 exact⟨⟨v,r.up e h.lt,a.ext e,b⟩,PH h.lt e.next⟩
theorem ew(H:ae)(a b:Bs):cf 2 [.str []] H [(0,1,.str a),(1,1,.str b)]=some (kB H.next 2 (.known 2),H.push (.cells (bX [a,b]) 0 false)):=rfl
theorem BT(H:ae)(a b c:Bs):cf 3 [.str []] H [(0,1,.str a),(1,1,.str b),(2,1,.str c)]=some (kB H.next 3 (.known 3),H.push (.cells (bX [a,b,c]) 0 false)):=rfl
theorem BS(H:ae)(a b c d:Bs):cf 4 [.str []] H [(0,1,.str a),(1,1,.str b),(2,1,.str c),(3,1,.str d)]=some (kB H.next 4 (.known 4),H.push (.cells (bX [a,b,c,d]) 0 false)):=rfl
theorem pz(H:ae)(l:List Bs){k:Nat}(hk:l.length=k):Wl (·=H.next) (H.push (.cells (bX l) 0 false)) (kB H.next k (.known k)) l:=by
 subst hk
 exact gW.row (jM H _) (eh l) om rfl
theorem LJ:[af.int .u8 10]=dm [10]:=rfl
theorem nI{P:Nat->Prop}{pb:Nat}{t:Bs}{ws:List Bs}{vl:af}{H:ae}(h:Pg H pb t)(hw:Wl P H vl ws)(h2:2<=ws.length)(hn:ws.length<=100)(hl:(bZ ws).length<=1000000)(ht:t.length<=1000000) :
  aq Tryz.prog aG 13 [aj pb 1 0,vl] H fun _ H'=>Pg H' pb (t++aY ws)/\bg pb H H'/\H.next<=H'.next:=by
 refine ai rfl OP rfl ?_
 obtain⟨v,r,a,b⟩:=h.ex
 have hlt:=h.lt
 have l0:=an 1 0 r rfl rfl
 obtain⟨v1,H1,m1,a1,n1,b1,k1⟩:=a.many (AR H (bZ ws)) (by rw[gL]; omega) (qK _) om (bytes:=1) om om
 have bp:ed v (pb≠·):=b.mono fun c hc=>om
 have bp1:ed v1 (pb<·):=(b1 _ b).mono fun c hc=>om
 obtain⟨H2,m2,r2,n2,k2⟩:=bA (r.same (k1 pb hlt bp)) (n:=1) rfl (i:=0) om (x:=v1) a1.one
 have a2:dI 1 0 H2 v1 (dm (t++bZ ws)) (t++bZ ws).length:=by
  rw[kj,lA]
  exact a1.same om (bp1.mono fun c hc=>k2 c om)
 have r2':Row H2 pb [v1]:=r2
 have l2:=an 1 0 r2' rfl rfl
 obtain⟨v3,H3,m3,a3,n3,b3,k3⟩:=a2.pushB (xs:=[.int .u8 10]) rfl rfl om (bytes:=1) (by rw[lA]; omega) om
 have bq:ed v1 (pb≠·):=bp1.mono fun c hc=>om
 have bp3:ed v3 (pb<·):=(b3 _ bp1).mono fun c hc=>om
 obtain⟨H4,m4,r4,n4,k4⟩:=bA (r2'.same (k3 pb om bq)) (n:=1) rfl (i:=0) om (x:=v3) a3.one
 have bl:cf 1 [.int .u8 0] H2 [(0,1,.int .u8 10)]=some (p8 H2 1,H2.push (.cells [.int .u8 10] 0 false)):=rfl
 have hae:aeq v v=true:=(gW.app a (P:=fun _=>True) (fun _ _ _ _=>trivial)).aeq
 simp only[LF,sA,sB,seval]
 refine ff rfl ?_
 simp only[sR,sA,sB,seval,aI,aF,l0]
 refine (Da hw h2 hn hl).mono ?_
 rintro _ _ ⟨rfl,rfl⟩
 simp only[sR,sA,sB,seval,aI,aF,m1,m2]
 simp only[gk,gn,fe,go,jw,and_true,true_and,List.map_cons,List.map_nil,sA,sB,seval,aF]
 refine⟨⟨_,rfl,fun _=>⟨_,l0,hae⟩⟩,?_⟩
 simp only[sA,sB,seval,aI,aF,l2,bl,m3,m4,gH]
 refine⟨⟨⟨v3,r4,?_,bp3⟩,om⟩,⟨om,fun c hc=>?_⟩,om⟩
 ·have:=a3.same (H':=H4) om (bp3.mono fun c hc=>k4 c om)
  rw[LJ,<- kj]at this
  have e:t++aY ws=t++bZ ws++[10]:=by rw[aY,PG]
  have e2:(t++bZ ws++[10]).length=(t++bZ ws).length+1:=by rw[lA]; rfl
  rw[e,e2]
  exact this
 ·rw[k4 c om,k3 c om (bp1.mono fun d hd=>om),k2 c om,k1 c om (b.mono fun d hd=>om)]
theorem JV(a b:Bs):(bZ [a,b]).length=a.length+1+b.length:=by simp[bZ]; omega
theorem JU(a b c:Bs):(bZ [a,b,c]).length=a.length+1+(b.length+1+c.length):=by simp[bZ]; omega
theorem JT(a b c d:Bs):(bZ [a,b,c,d]).length=a.length+1+(b.length+1+(c.length+1+d.length)):=by simp[bZ]; omega
theorem jF{pb:Nat}{t a b:Bs}{H:ae}(h:Pg H pb t)(ha:a.length<=100)(hb:b.length<=1000)(ht:t.length<=1000000) :
  aq Tryz.prog aG 13 [aj pb 1 0,kB H.next 2 (.known 2)] (H.push (.cells (bX [a,b]) 0 false)) fun _ H'=>Pg H' pb (t++aY [a,b])/\bg pb H H'/\H.next<=H'.next:=by
 have hp:bg H.next H (H.push (.cells (bX [a,b]) 0 false)):=(bg.refl _ _).push rL _
 refine (nI (h.ext hp) (pz H [a,b] rfl) (by simp) (by simp) (by rw[JV]; omega) ht).mono ?_
 rintro v H' ⟨p,e,n⟩
 exact⟨p,(hp.less (Nat.le_of_lt h.lt)).trans e,Nat.le_trans hp.next n⟩
theorem JR{pb:Nat}{t a b c:Bs}{H:ae}(h:Pg H pb t)(ha:a.length<=100)(hb:b.length<=1000)(hc:c.length<=1000)(ht:t.length<=1000000) :
  aq Tryz.prog aG 13 [aj pb 1 0,kB H.next 3 (.known 3)] (H.push (.cells (bX [a,b,c]) 0 false)) fun _ H'=>Pg H' pb (t++aY [a,b,c])/\bg pb H H'/\H.next<=H'.next:=by
 have hp:bg H.next H (H.push (.cells (bX [a,b,c]) 0 false)):=(bg.refl _ _).push rL _
 refine (nI (h.ext hp) (pz H [a,b,c] rfl) (by simp) (by simp) (by rw[JU]; omega) ht).mono ?_
 rintro v H' ⟨p,e,n⟩
 exact⟨p,(hp.less (Nat.le_of_lt h.lt)).trans e,Nat.le_trans hp.next n⟩
theorem JQ{pb:Nat}{t a b c d:Bs}{H:ae}(h:Pg H pb t)(ha:a.length<=100)(hb:b.length<=1000)(hc:c.length<=1000)(hd:d.length<=1000)(ht:t.length<=1000000) :
  aq Tryz.prog aG 13 [aj pb 1 0,kB H.next 4 (.known 4)] (H.push (.cells (bX [a,b,c,d]) 0 false)) fun _ H'=>Pg H' pb (t++aY [a,b,c,d])/\bg pb H H'/\H.next<=H'.next:=by
 have hp:bg H.next H (H.push (.cells (bX [a,b,c,d]) 0 false)):=(bg.refl _ _).push rL _
 refine (nI (h.ext hp) (pz H [a,b,c,d] rfl) (by simp) (by simp) (by rw[JT]; omega) ht).mono ?_
 rintro v H' ⟨p,e,n⟩
 exact⟨p,(hp.less (Nat.le_of_lt h.lt)).trans e,Nat.le_trans hp.next n⟩
set_option maxRecDepth 20000 in
theorem Dh{pb:Nat}{t:Bs}{m:Mt}{H:ae}(h:Pg H pb t)(hv:De m.c)(hs:m.sh.length<=1000)(hx:m.tx.length<=1000)(ht:t.length<=1000000)(hp:0<pb)(G:nd H 0 iC) :
  aq Tryz.prog aG 18 [aj pb 1 0,.agg (iD m)] H fun _ H'=>Pg H' pb (t++dQ m)/\bg pb H H'/\H.next<=H'.next:=by
 refine ai rfl OK rfl ?_
 obtain⟨k,c,sh,tx⟩:=m
 obtain⟨H1,m1,r1,n1,k1⟩:=aP H (iD ⟨k,c,sh,tx⟩) (n:=6) rfl
 have e1:=dY n1 k1
 have ca:(af.agg (iD ⟨k,c,sh,tx⟩)).cells=iD ⟨k,c,sh,tx⟩:=rfl
 have hlt:=h.lt
 have l0:=an 6 0 r1 rfl rfl
 have lv:=aH 6 1 3 r1 rfl (xs:=fk c) om rfl
 have l4:=an 6 4 r1 rfl rfl
 have l5:=an 6 5 r1 rfl rfl
 have hvl:(dk c).length<=182:=eg hv
 have G1:=G.ext om e1
 have ij:∀{K K':ae} {w:Bs},bg H.next H K->Pg K' pb (t++w)/\bg pb K K'/\K.next<=K'.next->Pg K' pb (t++w)/\bg pb H K'/\H.next<=K'.next:=fun e hh=>⟨hh.1,(e.less (Nat.le_of_lt hlt)).trans hh.2.1,Nat.le_trans e.next hh.2.2⟩
 have col:∀{K:af->ae->Prop},(∀H',bg H.next H H'->K (.str (dk c)) H')->aq Tryz.prog aG 16 [.agg (fk c)] H1 K:=fun hh=>(dP hv om G1).mono fun r H' ⟨a,b⟩=>by subst a; exact hh H' (e1.trans (b.less om))
 simp only[LB,sA,sB,seval,ca,m1,aF,l0]
 by_cases h1:k=1
 ·subst h1
  have a1:((1:Nat):Int)=1:=rfl
  simp only[sA,sB,seval,a1,aF,lv]
  refine col fun H2 e2=>?_
  simp only[sA,sB,seval,ew]
  refine (jF (h.ext e2) (by simp) om ht).mono ?_
  rintro v H3 hh
  simp only[sA,sB,seval,gH]
  exact ij e2 hh
 have a1:¬(k:Int)=1:=om
 by_cases h2:k=2
 ·subst h2
  have a2:((2:Nat):Int)=2:=rfl
  simp only[sA,sB,seval,a1,a2,aF,lv]
  refine col fun H2 e2=>?_
  simp only[sA,sB,seval,ew]
  refine (jF (h.ext e2) (by simp) om ht).mono ?_
  rintro v H3 hh
  simp only[sA,sB,seval,gH]
  exact ij e2 hh
 have a2:¬(k:Int)=2:=om
 by_cases h3:k=3
 ·subst h3
  have a3:((3:Nat):Int)=3:=rfl
  simp only[sA,sB,seval,a1,a2,a3,aF,lv]
  refine col fun H2 e2=>?_
  simp only[sA,sB,seval,ew]
  refine (jF (h.ext e2) (by simp) om ht).mono ?_
  rintro v H3 hh
  simp only[sA,sB,seval,gH]
  exact ij e2 hh
 have a3:¬(k:Int)=3:=om
 by_cases h4:k=4
 ·subst h4
  have a4:((4:Nat):Int)=4:=rfl
  by_cases c5:tx=[]
  ·subst c5
   simp only[sA,sB,seval,a1,a2,a3,a4,aF,l5,l4,ew]
   refine (jF (h.ext e1) (by simp) hs ht).mono ?_
   rintro v H3 hh
   simp only[sA,sB,seval,gH]
   exact ij e1 hh
  ·have e:dQ ⟨4,c,sh,tx⟩=aY [eC 3,sh,tx]:=by show (if tx=[] then _ else _)=_; rw[if_neg c5]
   rw[e]
   simp only[sA,sB,seval,a1,a2,a3,a4,aF,l5,l4,c5,BT]
   refine (JR (h.ext e1) (by simp) hs hx ht).mono ?_
   rintro v H3 hh
   simp only[sA,sB,seval,gH]
   exact ij e1 hh
 ·have a4:¬(k:Int)=4:=om
  have e:dQ ⟨k,c,sh,tx⟩=[]:=by
   unfold dQ
   split
   ·rename_i he; exact absurd he h1
   ·rename_i he; exact absurd he h2
   ·rename_i he; exact absurd he h3
   ·rename_i he; exact absurd he h4
   ·rfl
  rw[e,List.append_nil]
  simp only[sA,sB,seval,a1,a2,a3,a4,gH]
  exact⟨h.ext e1,e1.less (Nat.le_of_lt hlt),e1.next⟩
open Go.Abs Go.Abs.S
theorem qo{v:Vc}{lo hi:Int}(h:vE v lo hi=true)(h1:-9223372036854775808<=lo)(h2:hi<=9223372036854775807):De v:=by
 obtain⟨a,b,c⟩:=Bw.1 h
 exact⟨⟨om,om⟩,⟨om,om⟩,⟨om,om⟩⟩
theorem eu{v:Vc}(h:gZ v=true):De v:=qo h dD dD
theorem cL(a b:Bs):(aY [a,b]).length=a.length+b.length+2:=by rw[aY,lA,JV]; simp; omega
theorem ta(a b c:Bs):(aY [a,b,c]).length=a.length+b.length+c.length+3:=by rw[aY,lA,JU]; simp; omega
theorem sZ(a b c d:Bs):(aY [a,b,c,d]).length=a.length+b.length+c.length+d.length+4:=by rw[aY,lA,JT]; simp; omega
theorem mH{n lo hi:Int}(h:lT n lo hi=true)(h1:0<=lo)(h2:hi<=1000000):∃k:Nat,n=(k:Int)/\k<=1000000/\cF n=bV (bR k):=by
 have:=lF.1 h
 obtain⟨k,rfl⟩:∃k:Nat,n=(k:Int):=⟨n.toNat,om⟩
 exact⟨k,rfl,om,by rw[cF,Int.toNat_natCast]⟩
theorem sV{m:Mt}(h:gF m=true):De m.c/\m.sh.length<=40/\m.tx.length<=40:=by
 have nm:∀{s:Bs},eS s=true->s.length<=40:=fun h=>by simp only[eS,Pu,PE]at h; exact h.2.1
 by_cases k12:m.k=1∨m.k=2
 ·rw[Bp k12]at h
  simp only[Pu,PE]at h
  exact⟨qo h.2.2 dD dD,by rw[h.1]; simp,by rw[h.2.1]; simp⟩
 by_cases k3:m.k=3
 ·rw[FM k3]at h
  simp only[Pu,PE]at h
  exact⟨qo h.2.2 dD dD,by rw[h.1]; simp,by rw[h.2.1]; simp⟩
 by_cases k4:m.k=4
 ·rw[FL k4]at h
  simp only[Pu,Bool.or_eq_true,PE,Mh]at h
  obtain⟨⟨a,b,c⟩,d,e⟩:=h
  refine⟨⟨om,om,om⟩,nm d,?_⟩
  rcases e with e | e
  ·rw[e]; simp
  ·exact nm e
 ·rw[Bo k12 k3 k4]at h; simp at h
theorem CG{m:Mt}(h:gF m=true):(dQ m).length<=2000:=by
 obtain⟨a,b,c⟩:=sV h
 have d:=eg a
 have n3:∀i,i<6->(eC i).length<=10:=by
  have:∀i:Fin 6,(eC i.1).length<=10:=by decide
  exact fun i hi=>this ⟨i,hi⟩
 unfold dQ
 split
 ·rw[cL]; have:=n3 0 om; omega
 ·rw[cL]; have:=n3 1 om; omega
 ·rw[cL]; have:=n3 2 om; omega
 ·split
  ·rw[cL]; have:=n3 3 om; omega
  ·rw[ta]; have:=n3 3 om; omega
 ·simp
theorem IQ{α:Type}{f:α->Bs}{l:List α}{M:Nat}(h:∀x∈l,(f x).length<=M):(l.flatMap f).length<=l.length*M:=by
 induction l with
 | nil=>simp
 | cons x l ih=>
  rw[List.flatMap_cons,lA,Pv,Nat.succ_mul]
  have:=h x (by simp)
  have:=ih fun y hy=>h y (by simp[hy])
  omega
theorem nM{α:Type}{f:α->Bs}{l:List α}{i:Nat}{x:α}(h:l[i]?=some x):(l.take (i+1)).flatMap f=(l.take i).flatMap f++f x:=by
 rw[List.take_add_one,h]; simp
theorem js{α:Type}{f:α->Bs}{l:List α}{M i:Nat}(h:∀x∈l,(f x).length<=M):((l.take i).flatMap f).length<=l.length*M:=by
 have h1:=IQ (f:=f) (l:=l.take i) (M:=M) fun x hx=>h x (List.mem_of_mem_take hx)
 have h2:(l.take i).length<=l.length:=by rw[PO]; omega
 have:=Nat.mul_le_mul_right M h2
 omega
theorem Jf{H:ae}{v:af}{t:Bs}(h:dI 1 0 H v (dm t) t.length):DL H v=some (.str t):=by
 rcases h with⟨rfl,h1,_⟩ | ⟨b,low,rfl,h2,h3,h4,h5,h6,h7⟩
 ·obtain rfl:t=[]:=by cases t with | nil=>rfl | cons a l=>simp[dm]at h1
  rfl
 ·have:=eQ h5 h6
  rw[gL]at this
  simp only[DL,gL,this,gp]
set_option maxHeartbeats 4000000 in
set_option maxRecDepth 20000 in
theorem nl{H:ae}{s:Sc}{vm vb vu:af}(I:fV (·<H.next) H s vm vb vu)(hs:s.seed<18446744073709551616)(h0:0<H.next)(G:nd H 0 iC) :
  aq Tryz.prog aG 6 [.agg (dH s vm vb vu)] H fun v H'=>v=.tuple [.str (eA s).1,.int .i64 ((eA s).2:Int)]/\bg H.next H H':=by
 refine ai rfl za6 rfl ?_
 obtain⟨H1,m1,r1,n1,k1⟩:=aP H (dH s vm vb vu) (n:=21) rfl
 have e1:=dY n1 k1
 have ca:(af.agg (dH s vm vb vu)).cells=dH s vm vb vu:=rfl
 have lz:=aH 21 0 21 r1 rfl (xs:=dH s vm vb vu) om rfl
 have I1:fV (·<H1.next) H1 s vm vb vu:=(I.up e1).mono fun b hb=>⟨om,rfl⟩
 simp only[c6,sA,sB,seval,ca,m1,lz]
 refine (xA I1).mono ?_
 rintro _ H2 ⟨rfl,x2⟩
 cases hc:fG s with
 | false=>
  have e0:IU false=.int .i64 130:=rfl
  have es:eA s=([],130):=by rw[eA,if_neg (by rw[hc]; simp)]
  rw[es]
  simp only[sA,sB,seval,e0]
  exact⟨tt,e1.trans (x2.less om)⟩
 | true=>
 have e0:IU true=.int .i64 0:=rfl
 have hcc:=hc
 simp only[fG,oE,kV,Pu,PE]at hcc
 obtain⟨⟨cw,ch,csm,cbo,ce,cat_,cup,⟨cw0,cw1⟩,csky,cml,cbl,cul⟩,cm,cb,cu,cal⟩:=hcc
 have x2':=e1.trans (x2.less om)
 have x2n:=x2.next
 obtain⟨K0,mK,rK,nK,kK⟩:=aP H2 [cz] (n:=1) rfl
 have bz:cj [.slice none 0 (.known 0)] []=some (.agg [cz]):=rfl
 have ca2:(af.agg [cz]).cells=[cz]:=rfl
 obtain⟨pb,hpb⟩:∃pb,pb=H2.next:=⟨_,rfl⟩
 have xK:bg H2.next H2 K0:=dY nK kK
 rw[<- hpb]at mK rK xK
 have hp1:H.next<pb:=om
 have r:Row K0 H.next (dH s vm vb vu):=(r1.up x2 om).up xK om
 have old0:bg H.next H K0:=x2'.trans (xK.less om)
 have G0:nd K0 0 iC:=G.ext h0 old0
 have I0:fV (·<pb) K0 s vm vb vu:=(I.up old0).mono fun b hb=>⟨om,rfl⟩
 have P0:Pg K0 pb []:=⟨⟨cz,rK,.nil _ _ _,po _⟩,om⟩
 have E0:bg pb K0 K0:=bg.refl _ _
 have un:∀i,i<9->(ef i).length<=10:=by
  have:∀i:Fin 9,(ef i.1).length<=10:=by decide
  exact fun i hi=>this ⟨i,hi⟩
 simp only[sA,sB,seval,e0,bz,ca2,mK]
 obtain⟨nw,qw,qwl,iw⟩:=mH cw dD dD
 obtain⟨nh,qh,qhl,ih_⟩:=mH ch dD dD
 have Lw:=an 21 0 r rfl rfl
 have Lh:=an 21 1 r rfl rfl
 rw[qw]at Lw
 rw[qh]at Lh
 refine ff rfl ?_
 simp only[sR,sA,sB,seval,aF,Lw]
 refine (gt qwl om G0).mono ?_
 rintro _ Ka ⟨rfl,xa⟩
 have xa':bg pb K0 Ka:=xa.less om
 have Lh2:=an 21 1 (r.up xa' hp1) rfl rfl
 rw[qh]at Lh2
 simp only[sR,sA,sB,seval,aF,Lh2]
 refine (gt qhl (by have:=xa.next; omega) (G0.ext om xa)).mono ?_
 rintro _ Kb ⟨rfl,xb⟩
 have xb':bg K0.next K0 Kb:=xa.trans (xb.less xa.next)
 simp only[sR,sA,sB,seval,BT]
 have lnw:=da (n:=nw) 6 om
 have lnh:=da (n:=nh) 6 om
 refine (JR (P0.ext xb') (by simp) om om (by simp)).mono ?_
 rintro _ K1 ⟨P1,y1,z1⟩
 simp only[sR,sA,sB,seval]
 simp only[gk,gn,fe,go,jw,and_true,true_and,List.map_cons,List.map_nil,sA,sB,seval,aF]
 refine⟨⟨_,rfl,fun _=>⟨_,Lh,ir _ _⟩⟩,?_⟩
 have E1:bg pb K0 K1:=(xb'.less om).trans y1
 obtain⟨T1,hT1⟩:∃T,T=[]++aY [ef 0,cF s.w,cF s.h]:=⟨_,rfl⟩
 have P1:Pg K1 pb T1:=by rw[hT1,iw,ih_]; exact P1
 have t1:T1.length<=600:=by rw[hT1,List.nil_append,ta,iw,ih_]; have:=un 0 om; omega
 have R1:=r.up E1 hp1
 obtain⟨nsm,qsm,qsml,ism⟩:=mH csm dD dD
 have L1:=an 21 2 R1 rfl rfl
 rw[qsm]at L1
 simp only[sA,sB,seval,aF,L1]
 refine (gt qsml (by have:=E1.next; omega) (G0.ext om E1)).mono ?_
 have ln1:(cF s.sm).length<=200:=by rw[ism]; have:=da (n:=nsm) 6 om; omega
 rintro _ X1 ⟨rfl,x1⟩
 simp only[sA,sB,seval,ew]
 rw[<- ism]
 refine (jF (a:=ef 1) (P1.ext x1) (by have:=un 1 om; omega) om om).mono ?_
 rintro _ K2 ⟨P2,y2,z2⟩
 have E2:bg pb K0 K2:=E1.trans ((x1.less (Nat.le_of_lt P1.lt)).trans y2)
 obtain⟨T2,hT2⟩:∃T,T=T1++aY [ef 1,cF s.sm]:=⟨_,rfl⟩
 rw[<- hT2]at P2
 have t2:T2.length<=1200:=by rw[hT2,lA,cL]; have:=un 1 om; omega
 have R2:=r.up E2 hp1
 obtain⟨nbo,qbo,qbol,ibo⟩:=mH cbo dD dD
 have L2:=an 21 3 R2 rfl rfl
 rw[qbo]at L2
 simp only[sA,sB,seval,aF,L2]
 refine (gt qbol (by have:=E2.next; omega) (G0.ext om E2)).mono ?_
 have ln2:(cF s.bo).length<=200:=by rw[ibo]; have:=da (n:=nbo) 6 om; omega
 rintro _ X2 ⟨rfl,x2⟩
 simp only[sA,sB,seval,ew]
 rw[<- ibo]
 refine (jF (a:=ef 2) (P2.ext x2) (by have:=un 2 om; omega) om om).mono ?_
 rintro _ K3 ⟨P3,y3,z3⟩
 have E3:bg pb K0 K3:=E2.trans ((x2.less (Nat.le_of_lt P2.lt)).trans y3)
 obtain⟨T3,hT3⟩:∃T,T=T2++aY [ef 2,cF s.bo]:=⟨_,rfl⟩
 rw[<- hT3]at P3
 have t3:T3.length<=1800:=by rw[hT3,lA,cL]; have:=un 2 om; omega
 have R3:=r.up E3 hp1
 have L3:=an 21 4 R3 rfl rfl
 simp only[sA,sB,seval,aF,L3]
 refine (Cz hs (by have:=E3.next; omega) (G0.ext om E3)).mono ?_
 have ln3:(bV (bR s.seed)).length<=200:=by have:=da (n:=s.seed) 20 om; omega
 rintro _ X3 ⟨rfl,x3⟩
 simp only[sA,sB,seval,ew]
 refine (jF (a:=ef 3) (P3.ext x3) (by have:=un 3 om; omega) om om).mono ?_
 rintro _ K4 ⟨P4,y4,z4⟩
 have E4:bg pb K0 K4:=E3.trans ((x3.less (Nat.le_of_lt P3.lt)).trans y4)
 obtain⟨T4,hT4⟩:∃T,T=T3++aY [ef 3,bV (bR s.seed)]:=⟨_,rfl⟩
 rw[<- hT4]at P4
 have t4:T4.length<=2400:=by rw[hT4,lA,cL]; have:=un 3 om; omega
 have R4:=r.up E4 hp1
 have L4:=aH 21 5 3 R4 rfl (xs:=fk s.eye) om rfl
 simp only[sA,sB,seval,aF,L4]
 refine (dP (eu ce) (by have:=E4.next; omega) (G0.ext om E4)).mono ?_
 have ln4:(dk s.eye).length<=200:=by have:=eg (eu ce); omega
 rintro _ X4 ⟨rfl,x4⟩
 simp only[sA,sB,seval,ew]
 refine (jF (a:=ef 4) (P4.ext x4) (by have:=un 4 om; omega) om om).mono ?_
 rintro _ K5 ⟨P5,y5,z5⟩
 have E5:bg pb K0 K5:=E4.trans ((x4.less (Nat.le_of_lt P4.lt)).trans y5)
 obtain⟨T5,hT5⟩:∃T,T=T4++aY [ef 4,dk s.eye]:=⟨_,rfl⟩
 rw[<- hT5]at P5
 have t5:T5.length<=3000:=by rw[hT5,lA,cL]; have:=un 4 om; omega
 have R5:=r.up E5 hp1
 have L5:=aH 21 8 3 R5 rfl (xs:=fk s.at_) om rfl
 simp only[sA,sB,seval,aF,L5]
 refine (dP (eu cat_) (by have:=E5.next; omega) (G0.ext om E5)).mono ?_
 have ln5:(dk s.at_).length<=200:=by have:=eg (eu cat_); omega
 rintro _ X5 ⟨rfl,x5⟩
 simp only[sA,sB,seval,ew]
 refine (jF (a:=ef 5) (P5.ext x5) (by have:=un 5 om; omega) om om).mono ?_
 rintro _ K6 ⟨P6,y6,z6⟩
 have E6:bg pb K0 K6:=E5.trans ((x5.less (Nat.le_of_lt P5.lt)).trans y6)
 obtain⟨T6,hT6⟩:∃T,T=T5++aY [ef 5,dk s.at_]:=⟨_,rfl⟩
 rw[<- hT6]at P6
 have t6:T6.length<=3600:=by rw[hT6,lA,cL]; have:=un 5 om; omega
 have R6:=r.up E6 hp1
 have L6:=aH 21 11 3 R6 rfl (xs:=fk s.up) om rfl
 simp only[sA,sB,seval,aF,L6]
 refine (dP (eu cup) (by have:=E6.next; omega) (G0.ext om E6)).mono ?_
 have ln6:(dk s.up).length<=200:=by have:=eg (eu cup); omega
 rintro _ X6 ⟨rfl,x6⟩
 simp only[sA,sB,seval,ew]
 refine (jF (a:=ef 6) (P6.ext x6) (by have:=un 6 om; omega) om om).mono ?_
 rintro _ K7 ⟨P7,y7,z7⟩
 have E7:bg pb K0 K7:=E6.trans ((x6.less (Nat.le_of_lt P6.lt)).trans y7)
 obtain⟨T7,hT7⟩:∃T,T=T6++aY [ef 6,dk s.up]:=⟨_,rfl⟩
 rw[<- hT7]at P7
 have t7:T7.length<=4200:=by rw[hT7,lA,cL]; have:=un 6 om; omega
 have R7:=r.up E7 hp1
 have L7:=an 21 14 R7 rfl rfl
 simp only[sA,sB,seval,aF,L7]
 refine (iM FA rfl (n:=s.wide) om om (by have:=E7.next; omega) (G0.ext om E7)).mono ?_
 have ln7:(al s.wide).length<=200:=by have:=cS (n:=s.wide) om om; omega
 rintro _ X7 ⟨rfl,x7⟩
 simp only[sA,sB,seval,ew]
 refine (jF (a:=ef 7) (P7.ext x7) (by have:=un 7 om; omega) om om).mono ?_
 rintro _ K8 ⟨P8,y8,z8⟩
 have E8:bg pb K0 K8:=E7.trans ((x7.less (Nat.le_of_lt P7.lt)).trans y8)
 obtain⟨T8,hT8⟩:∃T,T=T7++aY [ef 7,al s.wide]:=⟨_,rfl⟩
 rw[<- hT8]at P8
 have t8:T8.length<=4800:=by rw[hT8,lA,cL]; have:=un 7 om; omega
 have R8:=r.up E8 hp1
 have L8:=aH 21 15 3 R8 rfl (xs:=fk s.sky) om rfl
 simp only[sA,sB,seval,aF,L8]
 refine (dP (qo csky dD dD) (by have:=E8.next; omega) (G0.ext om E8)).mono ?_
 have ln8:(dk s.sky).length<=200:=by have:=eg (qo csky dD dD); omega
 rintro _ X8 ⟨rfl,x8⟩
 simp only[sA,sB,seval,ew]
 refine (jF (a:=ef 8) (P8.ext x8) (by have:=un 8 om; omega) om om).mono ?_
 rintro _ K9 ⟨P9,y9,z9⟩
 have E9:bg pb K0 K9:=E8.trans ((x8.less (Nat.le_of_lt P8.lt)).trans y9)
 obtain⟨T9,hT9⟩:∃T,T=T8++aY [ef 8,dk s.sky]:=⟨_,rfl⟩
 rw[<- hT9]at P9
 have t9:T9.length<=5400:=by rw[hT9,lA,cL]; have:=un 8 om; omega
 have hT:T9=ga s:=by
  rw[hT9,hT8,hT7,hT6,hT5,hT4,hT3,hT2,hT1]
  simp only[ga,List.nil_append,PG]
 rw[hT]at P9 t9
 have lb:=I0.b.len
 have lm:=I0.m.len
 have lu:=I0.u.len
 have rm:∀x:Mt,(iD x).length=6:=fun _=>rfl
 have rb:∀x:Rd,(oz x).length=5:=fun _=>rfl
 have ru:∀x:Us,(rx x).length=5:=fun _=>rfl
 have am:∀x∈s.ms,gF x=true:=List.all_eq_true.1 cm
 have ab:∀x∈s.bs,lj x=true:=List.all_eq_true.1 cb
 have au:∀x∈s.us,jk x=true:=List.all_eq_true.1 cu
 have hal:=cal
 simp only[rP,Pu,List.all_eq_true,Bx]at hal
 have lenM:∀i,((s.ms.take i).flatMap dQ).length<=128000:=fun i=>by
  have:=js (f:=dQ) (l:=s.ms) (i:=i) fun x hx=>CG (am x hx)
  have:=Nat.mul_le_mul_right 2000 cml
  omega
 have ln4:(eC 4).length=4:=rfl
 have ln5:(eC 5).length=4:=rfl
 have matN:∀{m:Int},0<=m->m<s.ms.length->∃k:Nat,m=(k:Int)/\k<=64/\cF m=bV (bR k):=fun {m} h1 h2=>by
  obtain⟨k,rfl⟩:∃k:Nat,m=(k:Int):=⟨m.toNat,om⟩
  exact⟨k,rfl,om,by rw[cF,Int.toNat_natCast]⟩
 have showB_len:∀x∈s.bs,(fq x).length<=400:=fun x hx=>by
  have h1:=ab x hx
  simp only[lj,Pu,PE]at h1
  obtain⟨k,q1,q2,q3⟩:=matN (hal.1 x hx).1 (hal.1 x hx).2
  have d:=eg (eu h1.1)
  have e:=cS (n:=x.r) om om
  have f:=da (n:=k) 6 om
  rw[fq,sZ,q3]; omega
 have nameL:∀{s:Bs},eS s=true->s.length<=40:=fun h=>by simp only[eS,Pu,PE]at h; exact h.2.1
 have showU_len:∀x∈s.us,(iK x).length<=400:=fun x hx=>by
  have h1:=au x hx
  simp only[jk,Pu]at h1
  obtain⟨k,q1,q2,q3⟩:=matN (hal.2 x hx).1 (hal.2 x hx).2
  have d:=eg (eu h1.2)
  have e:=nameL h1.1
  have f:=da (n:=k) 6 om
  rw[iK,sZ,q3]; omega
 have lenB:∀i,((s.bs.take i).flatMap fq).length<=102400:=fun i=>by
  have:=js (f:=fq) (l:=s.bs) (i:=i) showB_len
  have:=Nat.mul_le_mul_right 400 cbl
  omega
 have lenU:∀i,((s.us.take i).flatMap iK).length<=6400:=fun i=>by
  have:=js (f:=iK) (l:=s.us) (i:=i) showU_len
  have:=Nat.mul_le_mul_right 400 cul
  omega
 have L18:=an 21 18 (r.up E9 hp1) rfl rfl
 simp only[sA,sB,seval,aF,L18,lm]
 refine fH (fun (T:bN) K=>bg pb K0 K/\Pg K pb (ga s++s.ms.flatMap dQ)/\T 1=aj H.next 21 0/\T 5=aj pb 1 0) (bP _ _) ?_ ?_
 ·refine bM (fun m (T:bN) K=>∃i:Nat,bg pb K0 K/\i<=s.ms.length/\m=s.ms.length-i/\Pg K pb (ga s++(s.ms.take i).flatMap dQ)/\T 1=aj H.next 21 0/\T 5=aj pb 1 0/\T 77=vm/\T 78=.int .i64 (s.ms.length:Int)/\T 79=.int .i64 (i:Int)) s.ms.length
   ⟨0,E9,om,om,by rw[List.take_zero,List.flatMap_nil,List.append_nil]; exact P9,by simp only[sA,sB,seval],by simp only[sA,sB,seval],by simp only[sA,sB,seval],by simp only[sA,sB,seval],by simp only[sA,sB,seval]⟩ ?_
  rintro m T K ⟨i,E,hi,rfl,P,g1,g5,g10,g11,g12⟩
  by_cases hlt:i<s.ms.length
  ·have hlt':(i:Int)<(s.ms.length:Int):=om
   obtain⟨x,hx⟩:=aM hlt
   have w1:=cE i om
   have IK:=I0.up E
   have ix:=IK.m.idx hlt
   have lx:=IK.m.loadE rm hx
   obtain⟨H3,m3,r3,n3,k3⟩:=aP K [.int .u8 0,.int .i64 0,.int .i64 0,.int .i64 0,.str [],.str []] (n:=6) rfl
   obtain⟨H4,m4,r4,n4,k4⟩:=bC (n:=6) r3 rfl (xs:=iD x) rfl rfl
   have xe:bg K.next K H4:=⟨om,fun b hb=>by rw[k4 b om,k3 b om]⟩
   have l4:=aH 6 0 6 r4 rfl (xs:=iD x) om rfl
   have hm:=am x (lB hx)
   obtain⟨f1,f2,f3⟩:=sV hm
   have lm1:=lenM i
   have plt:=P.lt
   simp only[sA,sB,seval,g5,g10,g11,g12,hlt',ix,lx,m3,m4,l4]
   refine (Dh (P.ext xe) f1 om om (by rw[lA]; omega) om ((G0.ext om E).ext (by have:=E.next; omega) xe)).mono ?_
   rintro _ H5 ⟨P5,y5,z5⟩
   rw[PG,<- nM hx]at P5
   simp only[sA,sB,seval,g12,w1]
   exact⟨_,om,i+1,E.trans ((xe.less om).trans y5),om,rfl,P5,g1,tt,g10,g11,tt⟩
  ·have hlt':¬(i:Int)<(s.ms.length:Int):=om
   simp only[sA,sB,seval,g11,g12,hlt']
   rw[List.take_of_length_le om]at P
   exact⟨E,P,g1,g5⟩
 rintro T K ⟨Em,Pm,g1,g5⟩
 have tm:=lenM s.ms.length
 rw[List.take_length]at tm
 have L19:=an 21 19 (r.up Em hp1) rfl rfl
 simp only[sA,sB,seval,g1,aF,L19,lb]
 refine fH (fun (T:bN) K=>bg pb K0 K/\Pg K pb (ga s++s.ms.flatMap dQ++s.bs.flatMap fq)/\T 1=aj H.next 21 0/\T 5=aj pb 1 0) (bP _ _) ?_ ?_
 ·refine bM (fun m (T:bN) K=>∃i:Nat,bg pb K0 K/\i<=s.bs.length/\m=s.bs.length-i/\Pg K pb (ga s++s.ms.flatMap dQ++(s.bs.take i).flatMap fq)/\T 1=aj H.next 21 0/\T 5=aj pb 1 0/\T 88=vb/\T 89=.int .i64 (s.bs.length:Int)/\T 90=.int .i64 (i:Int)) s.bs.length
   ⟨0,Em,om,om,by rw[List.take_zero,List.flatMap_nil,List.append_nil]; exact Pm,by simp only[sA,sB,seval,g1],by simp only[sA,sB,seval,g5],by simp only[sA,sB,seval],by simp only[sA,sB,seval],by simp only[sA,sB,seval]⟩ ?_
  clear g1 g5
  rintro m T K ⟨i,E,hi,rfl,P,g1,g5,g10,g11,g12⟩
  by_cases hlt:i<s.bs.length
  ·have hlt':(i:Int)<(s.bs.length:Int):=om
   obtain⟨x,hx⟩:=aM hlt
   have w1:=cE i om
   have IK:=I0.up E
   have ix:=IK.b.idx hlt
   have lx:=IK.b.loadE rb hx
   obtain⟨H3,m3,r3,n3,k3⟩:=aP K [.int .i64 0,.int .i64 0,.int .i64 0,.int .i64 0,.int .i64 0] (n:=5) rfl
   obtain⟨H4,m4,r4,n4,k4⟩:=bC (n:=5) r3 rfl (xs:=oz x) rfl rfl
   have xe:bg K.next K H4:=⟨om,fun b hb=>by rw[k4 b om,k3 b om]⟩
   have hm:=ab x (lB hx)
   simp only[lj,Pu,PE]at hm
   obtain⟨k,q1,q2,q3⟩:=matN (hal.1 x (lB hx)).1 (hal.1 x (lB hx)).2
   have vL:=eg (eu hm.1)
   have nL:=cS (n:=x.r) om om
   have aL:=da (n:=k) 6 om
   have lm1:=lenB i
   have plt:=P.lt
   have G4:=(G0.ext om E).ext (by have:=E.next; omega) xe
   have l0:=aH 5 0 3 r4 rfl (xs:=fk x.c) om rfl
   have l3:=an 5 3 r4 rfl rfl
   have l4:=an 5 4 r4 rfl rfl
   rw[q1]at l4
   simp only[sA,sB,seval,g5,g10,g11,g12,hlt',ix,lx,m3,m4]
   refine ff rfl ?_
   simp only[sR,sA,sB,seval,g5,aF,l0]
   refine (dP (eu hm.1) om G4).mono ?_
   rintro _ V1 ⟨rfl,v1⟩
   have l3a:=an 5 3 (r4.up v1 om) rfl rfl
   have l4a:=an 5 4 (r4.up v1 om) rfl rfl
   rw[q1]at l4a
   simp only[sR,sA,sB,seval,g5,aF,l3a]
   refine (iM FA rfl (n:=x.r) om om (by have:=v1.next; omega) (G4.ext om v1)).mono ?_
   rintro _ V2 ⟨rfl,v2⟩
   have v2':=v1.trans (v2.less v1.next)
   have l4b:=an 5 4 (r4.up v2' om) rfl rfl
   rw[q1]at l4b
   simp only[sR,sA,sB,seval,g5,aF,l4b]
   refine (gt (n:=k) om (by have:=v2'.next; omega) (G4.ext om v2')).mono ?_
   rintro _ V3 ⟨rfl,v3⟩
   have v3':=v2'.trans (v3.less v2'.next)
   simp only[sR,sA,sB,seval,g5,BS]
   refine (JQ (a:=eC 4) ((P.ext xe).ext v3') om om om om (by rw[lA,lA]; omega)).mono ?_
   rintro _ H5 ⟨P5,y5,z5⟩
   rw[<- q3]at P5
   have P5:Pg H5 pb (ga s++s.ms.flatMap dQ++(s.bs.take i).flatMap fq++fq x):=P5
   rw[PG (ga s++s.ms.flatMap dQ),<- nM hx]at P5
   simp only[sR,sA,sB,seval]
   simp only[gk,gn,fe,go,jw,and_true,true_and,List.map_cons,List.map_nil,sA,sB,seval,aF]
   refine⟨⟨⟨_,rfl,fun _=>⟨_,l3,ir _ _⟩⟩,⟨_,rfl,fun _=>⟨_,l4,ir _ _⟩⟩,⟨_,rfl,fun _=>⟨_,l4a,ir _ _⟩⟩⟩,?_⟩
   simp only[sA,sB,seval,g12,w1]
   exact⟨_,om,i+1,E.trans ((xe.less om).trans ((v3'.less om).trans y5)),om,rfl,P5,g1,tt,g10,g11,tt⟩
  ·have hlt':¬(i:Int)<(s.bs.length:Int):=om
   simp only[sA,sB,seval,g11,g12,hlt']
   rw[List.take_of_length_le om]at P
   exact⟨E,P,g1,g5⟩
 clear g1 g5 Em Pm L19
 rintro T K ⟨Em,Pm,g1,g5⟩
 have tb:=lenB s.bs.length
 rw[List.take_length]at tb
 have L20:=an 21 20 (r.up Em hp1) rfl rfl
 simp only[sA,sB,seval,g1,aF,L20,lu]
 refine fH (fun (T:bN) K=>bg pb K0 K/\Pg K pb (cX s)/\T 1=aj H.next 21 0/\T 5=aj pb 1 0) (bP _ _) ?_ ?_
 ·refine bM (fun m (T:bN) K=>∃i:Nat,bg pb K0 K/\i<=s.us.length/\m=s.us.length-i/\Pg K pb (ga s++s.ms.flatMap dQ++s.bs.flatMap fq++(s.us.take i).flatMap iK)/\T 1=aj H.next 21 0/\T 5=aj pb 1 0/\T 110=vu/\T 111=.int .i64 (s.us.length:Int)/\T 112=.int .i64 (i:Int)) s.us.length
   ⟨0,Em,om,om,by rw[List.take_zero,List.flatMap_nil,List.append_nil]; exact Pm,by simp only[sA,sB,seval,g1],by simp only[sA,sB,seval,g5],by simp only[sA,sB,seval],by simp only[sA,sB,seval],by simp only[sA,sB,seval]⟩ ?_
  clear g1 g5
  rintro m T K ⟨i,E,hi,rfl,P,g1,g5,g10,g11,g12⟩
  by_cases hlt:i<s.us.length
  ·have hlt':(i:Int)<(s.us.length:Int):=om
   obtain⟨x,hx⟩:=aM hlt
   have w1:=cE i om
   have IK:=I0.up E
   have ix:=IK.u.idx hlt
   have lx:=IK.u.loadE ru hx
   obtain⟨H3,m3,r3,n3,k3⟩:=aP K [.str [],.int .i64 0,.int .i64 0,.int .i64 0,.int .i64 0] (n:=5) rfl
   obtain⟨H4,m4,r4,n4,k4⟩:=bC (n:=5) r3 rfl (xs:=rx x) rfl rfl
   have xe:bg K.next K H4:=⟨om,fun b hb=>by rw[k4 b om,k3 b om]⟩
   have hm:=au x (lB hx)
   simp only[jk,Pu]at hm
   obtain⟨k,q1,q2,q3⟩:=matN (hal.2 x (lB hx)).1 (hal.2 x (lB hx)).2
   have vL:=eg (eu hm.2)
   have nL:=nameL hm.1
   have aL:=da (n:=k) 6 om
   have lm1:=lenU i
   have plt:=P.lt
   have G4:=(G0.ext om E).ext (by have:=E.next; omega) xe
   have l0:=an 5 0 r4 rfl rfl
   have l1:=aH 5 1 3 r4 rfl (xs:=fk x.p) om rfl
   have l4:=an 5 4 r4 rfl rfl
   rw[q1]at l4
   simp only[sA,sB,seval,g5,g10,g11,g12,hlt',ix,lx,m3,m4]
   refine ff rfl ?_
   simp only[sR,sA,sB,seval,g5,aF,l0,l1]
   refine (dP (eu hm.2) om G4).mono ?_
   rintro _ V1 ⟨rfl,v1⟩
   have l4a:=an 5 4 (r4.up v1 om) rfl rfl
   have l0a:=an 5 0 (r4.up v1 om) rfl rfl
   rw[q1]at l4a
   simp only[sR,sA,sB,seval,g5,aF,l4a]
   refine (gt (n:=k) om (by have:=v1.next; omega) (G4.ext om v1)).mono ?_
   rintro _ V2 ⟨rfl,v2⟩
   have v2':=v1.trans (v2.less v1.next)
   have l0b:=an 5 0 (r4.up v2' om) rfl rfl
   simp only[sR,sA,sB,seval,g5,BS]
   refine (JQ (a:=eC 5) ((P.ext xe).ext v2') om om om om (by rw[lA,lA,lA]; omega)).mono ?_
   rintro _ H5 ⟨P5,y5,z5⟩
   rw[<- q3]at P5
   have P5:Pg H5 pb (ga s++s.ms.flatMap dQ++s.bs.flatMap fq++(s.us.take i).flatMap iK++iK x):=P5
   rw[PG (ga s++s.ms.flatMap dQ++s.bs.flatMap fq),<- nM hx]at P5
   simp only[sR,sA,sB,seval]
   simp only[gk,gn,fe,go,jw,and_true,true_and,List.map_cons,List.map_nil,sA,sB,seval,aF]
   refine⟨⟨⟨⟨_,rfl,fun _=>⟨_,l0a,by simp[aeq]⟩⟩,⟨_,rfl,fun _=>⟨_,l0b,by simp[aeq]⟩⟩⟩,⟨_,rfl,fun _=>⟨_,l4,ir _ _⟩⟩⟩,?_⟩
   simp only[sA,sB,seval,g12,w1]
   exact⟨_,om,i+1,E.trans ((xe.less om).trans ((v2'.less om).trans y5)),om,rfl,P5,g1,tt,g10,g11,tt⟩
  ·have hlt':¬(i:Int)<(s.us.length:Int):=om
   simp only[sA,sB,seval,g11,g12,hlt']
   rw[List.take_of_length_le om]at P
   refine⟨E,?_,g1,g5⟩
   have:cX s=ga s++s.ms.flatMap dQ++s.bs.flatMap fq++s.us.flatMap iK:=by simp only[cX,PG]
   rw[this]; exact P
 clear g1 g5 Em Pm L20
 rintro T K ⟨Em,Pm,g1,g5⟩
 obtain⟨v,rv,av,bv⟩:=Pm.ex
 have lv:=an 1 0 rv rfl rfl
 have ll:=av.len
 have lend:bg H.next H K:=old0.trans (Em.less om)
 by_cases hl:16384<(cX s).length
 ·have hl':(16384:Int)<((cX s).length:Int):=om
  have es:eA s=([],3):=by rw[eA,if_pos hc,if_pos hl]
  rw[es]
  simp only[sA,sB,seval,g5,aI,aF,lv,ll,hl']
  exact⟨tt,lend⟩
 ·have hl':¬(16384:Int)<((cX s).length:Int):=om
  have es:eA s=(cX s,0):=by rw[eA,if_pos hc,if_neg hl]
  have bs:DL K v=some (.str (cX s)):=Jf av
  rw[es]
  simp only[sA,sB,seval,g5,aI,aF,lv,ll,hl',bs]
  exact⟨tt,lend⟩
open Go.Abs Go.Abs.S
theorem MT(v:Vc):iu (.eqS true [(0,.int),(1,.int),(2,.int)]) [.agg (fk v),.agg (fk v)]=some (.bool false):=by
 simp[iu,fk,mZ,cV,HB,xf,xd,fB]
theorem MW(m:Mt):iu (.eqS true [(0,.int),(1,.int),(2,.int),(3,.int),(4,.str),(5,.str)]) [.agg (iD m),.agg (iD m)]=some (.bool false):=by
 simp[iu,iD,mZ,cV,HB,xf,xd,fB]
theorem MV(m:Rd):iu (.eqS true [(0,.int),(1,.int),(2,.int),(3,.int),(4,.int)]) [.agg (oz m),.agg (oz m)]=some (.bool false):=by
 simp[iu,oz,mZ,cV,HB,xf,xd,fB]
theorem MU(m:Us):iu (.eqS true [(0,.str),(1,.int),(2,.int),(3,.int),(4,.int)]) [.agg (rx m),.agg (rx m)]=some (.bool false):=by
 simp[iu,rx,mZ,cV,HB,xf,xd,fB]
set_option maxHeartbeats 1000000 in
set_option maxRecDepth 20000 in
theorem nq{H:ae}{s:Sc}{vm vb vu wm wb wu:af}(I:fV (·<H.next) H s vm vb vu)(J:fV (·<H.next) H s wm wb wu)(hm:s.ms.length<=1000)(hb:s.bs.length<=1000)(hu:s.us.length<=1000) :
  aq Tryz.prog aG 8 [.agg (dH s vm vb vu),.agg (dH s wm wb wu)] H fun v H'=>v=.bool true/\bg H.next H H':=by
 refine ai rfl za8 rfl ?_
 obtain⟨H1,m1,r1,n1,k1⟩:=aP H (dH s vm vb vu) (n:=21) rfl
 obtain⟨H2,m2,r2,n2,k2⟩:=aP H1 (dH s wm wb wu) (n:=21) rfl
 have q1:Row H2 H.next (dH s vm vb vu):=r1.same (k2 _ om)
 have e:bg H.next H H2:=⟨om,fun b hb=>by rw[k2 b om,k1 b om]⟩
 have ca:(af.agg (dH s vm vb vu)).cells=dH s vm vb vu:=rfl
 have cb:(af.agg (dH s wm wb wu)).cells=dH s wm wb wu:=rfl
 have I2:=I.up e
 have J2:=J.up e
 have rm:∀x:Mt,(iD x).length=6:=fun _=>rfl
 have rb:∀x:Rd,(oz x).length=5:=fun _=>rfl
 have ru:∀x:Us,(rx x).length=5:=fun _=>rfl
 have a0:=an 21 0 q1 rfl rfl
 have a1:=an 21 1 q1 rfl rfl
 have a2:=an 21 2 q1 rfl rfl
 have a3:=an 21 3 q1 rfl rfl
 have a4:=an 21 4 q1 rfl rfl
 have a5:=aH 21 5 3 q1 rfl (xs:=fk s.eye) om rfl
 have a8:=aH 21 8 3 q1 rfl (xs:=fk s.at_) om rfl
 have a11:=aH 21 11 3 q1 rfl (xs:=fk s.up) om rfl
 have a14:=an 21 14 q1 rfl rfl
 have a15:=aH 21 15 3 q1 rfl (xs:=fk s.sky) om rfl
 have a18:=an 21 18 q1 rfl rfl
 have a19:=an 21 19 q1 rfl rfl
 have a20:=an 21 20 q1 rfl rfl
 have b0:=an 21 0 r2 rfl rfl
 have b1:=an 21 1 r2 rfl rfl
 have b2:=an 21 2 r2 rfl rfl
 have b3:=an 21 3 r2 rfl rfl
 have b4:=an 21 4 r2 rfl rfl
 have b5:=aH 21 5 3 r2 rfl (xs:=fk s.eye) om rfl
 have b8:=aH 21 8 3 r2 rfl (xs:=fk s.at_) om rfl
 have b11:=aH 21 11 3 r2 rfl (xs:=fk s.up) om rfl
 have b14:=an 21 14 r2 rfl rfl
 have b15:=aH 21 15 3 r2 rfl (xs:=fk s.sky) om rfl
 have b18:=an 21 18 r2 rfl rfl
 have b19:=an 21 19 r2 rfl rfl
 have NH:=an 21 20 r2 rfl rfl
 have l1:=I2.m.len
 have l2:=I2.b.len
 have l3:=I2.u.len
 have l4:=J2.m.len
 have l5:=J2.b.len
 have l6:=J2.u.len
 simp only[c8,sA,sB,seval,ca,cb,m1,m2,aF,a0,a1,a2,a3,a4,a5,a8,a11,a14,a15,a18,a19,a20,b0,b1,b2,b3,b4,b5,b8,b11,b14,b15,b18,b19,NH,l1,l2,l3,l4,l5,l6,MT]
 refine fH (fun (T:bN) K=>H2=K/\T 2=aj H.next 21 0/\T 3=aj H1.next 21 0) (bP _ _) ?_ ?_
 ·refine bM (fun m (T:bN) K=>∃i:Nat,H2=K/\i<=s.ms.length/\m=s.ms.length-i/\T 2=aj H.next 21 0/\T 3=aj H1.next 21 0/\T 105=.int .i64 (s.ms.length:Int)/\T 106=.int .i64 (i:Int)) s.ms.length
   ⟨0,rfl,om,om,by simp only[sA,sB,seval],by simp only[sA,sB,seval],by simp only[sA,sB,seval],by simp only[sA,sB,seval]⟩ ?_
  rintro m T _ ⟨i,rfl,hi,rfl,g2,g3,g11,g12⟩
  by_cases hlt:i<s.ms.length
  ·have hlt':(i:Int)<(s.ms.length:Int):=om
   obtain⟨x,hx⟩:=aM hlt
   simp only[sA,sB,seval,g2,g3,g11,g12,hlt',aF,a18,b18,I2.m.idx hlt,J2.m.idx hlt,I2.m.loadE rm hx,J2.m.loadE rm hx,MW,cE i om]
   exact⟨_,om,i+1,tt,om,rfl,tt,tt,tt,tt⟩
  ·have hlt':¬(i:Int)<(s.ms.length:Int):=om
   simp only[sA,sB,seval,g11,g12,hlt']
   exact⟨tt,g2,g3⟩
 rintro T _ ⟨rfl,g2,g3⟩
 simp only[sA,sB,seval,g2,aF,a19,l2]
 refine fH (fun (T:bN) K=>H2=K/\T 2=aj H.next 21 0/\T 3=aj H1.next 21 0) (bP _ _) ?_ ?_
 ·refine bM (fun m (T:bN) K=>∃i:Nat,H2=K/\i<=s.bs.length/\m=s.bs.length-i/\T 2=aj H.next 21 0/\T 3=aj H1.next 21 0/\T 123=.int .i64 (s.bs.length:Int)/\T 124=.int .i64 (i:Int)) s.bs.length
   ⟨0,rfl,om,om,by simp only[sA,sB,seval,g2],by simp only[sA,sB,seval,g3],by simp only[sA,sB,seval],by simp only[sA,sB,seval]⟩ ?_
  clear g2 g3
  rintro m T _ ⟨i,rfl,hi,rfl,g2,g3,g11,g12⟩
  by_cases hlt:i<s.bs.length
  ·have hlt':(i:Int)<(s.bs.length:Int):=om
   obtain⟨x,hx⟩:=aM hlt
   simp only[sA,sB,seval,g2,g3,g11,g12,hlt',aF,a19,b19,I2.b.idx hlt,J2.b.idx hlt,I2.b.loadE rb hx,J2.b.loadE rb hx,MV,cE i om]
   exact⟨_,om,i+1,tt,om,rfl,tt,tt,tt,tt⟩
  ·have hlt':¬(i:Int)<(s.bs.length:Int):=om
   simp only[sA,sB,seval,g11,g12,hlt']
   exact⟨tt,g2,g3⟩
 clear g2 g3
 rintro T _ ⟨rfl,g2,g3⟩
 simp only[sA,sB,seval,g2,aF,a20,l3]
 refine bM (fun m (T:bN) K=>∃i:Nat,H2=K/\i<=s.us.length/\m=s.us.length-i/\T 2=aj H.next 21 0/\T 3=aj H1.next 21 0/\T 141=.int .i64 (s.us.length:Int)/\T 142=.int .i64 (i:Int)) s.us.length
  ⟨0,rfl,om,om,by simp only[sA,sB,seval,g2],by simp only[sA,sB,seval,g3],by simp only[sA,sB,seval],by simp only[sA,sB,seval]⟩ ?_
 clear g2 g3
 rintro m T _ ⟨i,rfl,hi,rfl,g2,g3,g11,g12⟩
 by_cases hlt:i<s.us.length
 ·have hlt':(i:Int)<(s.us.length:Int):=om
  obtain⟨x,hx⟩:=aM hlt
  simp only[sA,sB,seval,g2,g3,g11,g12,hlt',aF,a20,NH,I2.u.idx hlt,J2.u.idx hlt,I2.u.loadE ru hx,J2.u.loadE ru hx,MU,cE i om]
  exact⟨_,om,i+1,tt,om,rfl,tt,tt,tt,tt⟩
 ·have hlt':¬(i:Int)<(s.us.length:Int):=om
  simp only[sA,sB,seval,g11,g12,hlt']
  exact⟨tt,e⟩
open Go.Abs Go.Abs.S
theorem ma(l:Bs):∀k,(List.replicate k l).flatten.length=k*l.length
 | 0=>by simp
 | k+1=>by rw[List.replicate_succ,List.flatten_cons,lA,ma l k,Nat.succ_mul,Nat.add_comm]
open Go.Abs Go.Abs.S
def DD:Sc:={ bU with w:=2,h:=1,ms:=[⟨1,⟨4294967296,2147483648,0⟩,[],[]⟩],bs:=[⟨⟨0,0,0⟩,4294967296,0⟩] }
def Ng:Bs:=[115,105,122,101,32,50,32,49,10,100,105,102,102,117,115,101,32,49,32,48,46,53,32,48,10,98,97,108,108,32,48,32,48,32,48,32,49,32,48]
theorem aw0:bj Ng=.ok DD:=by kernel_rfl
def Nf:Bs:=[115,105,122,101,32,50]
theorem aw1:bj Nf=.error (130,1):=by kernel_rfl
def Nd:Bs:=[115,105,122,101,32,50,32,50,10,115,105,122,101,32,50,32,50]
theorem Pi:bj Nd=.error (130,2):=by kernel_rfl
def Nc:Bs:=[115,105,122,101,32,50,32,50,10,98,97,108,108,32,48,32,48,32,48,32,49,32,48]
theorem aw3:bj Nc=.error (130,0):=by kernel_rfl
def Nb:Bs:=[115,105,122,101,32,49,32,49,10,98,97,108,108,32,48,32,48,32,48,32,45,49,32,48]
theorem aw4:bj Nb=.error (130,2):=by kernel_rfl
def Mi:Bs:=[115,105,122,101,32,50,32,49,10,115,97,109,112,108,101,115,32,49,10,98,111,117,110,99,101,115,32,50,10,115,101,101,100,32,48,10,101,121,101,32,48,32,48,32,45,52,10]
def NI:Bs:=[97,116,32,48,32,48,32,48,10,117,112,32,48,32,49,32,48,10,119,105,100,101,32,49,10,115,107,121,32,48,32,48,32,48,10,100,105,102,102,117,115,101,32,49,32,48,46,53,32,48,10,98,97,108,108,32,48,32,48,32,48,32,49,32,48,10]
theorem xu{n:Nat}(h:n<10):bV (bR n)=[UInt8.ofNat (48+n)]:=by rw[gj h]; rfl
theorem nm0:al 0=[48]:=by
 have:al 0=bV (bR 0)++fo 0:=rfl
 rw[this,xu dD]; rfl
theorem nm1:al 4294967296=[49]:=by
 have:al 4294967296=bV (bR 1)++fo 0:=rfl
 rw[this,xu dD]; rfl
theorem nmh:al 2147483648=[48,46,53]:=by
 have:al 2147483648=bV (bR 0)++fo 2147483648:=rfl
 rw[this,xu dD]; decide +kernel
theorem nm4:al (-17179869184)=[45,52]:=by
 have:al (-17179869184)=45::(bV (bR 4)++fo 0):=rfl
 rw[this,xu dD]; rfl
theorem it0:cF 0=[48]:=xu (n:=0) dD
theorem it1:cF 1=[49]:=xu (n:=1) dD
theorem it2:cF 2=[50]:=xu (n:=2) dD
theorem LP:cX DD=Mi++NI:=by
 have h:cX DD=aY [ef 0,cF 2,cF 1]++(aY [ef 1,cF 1]++(aY [ef 2,cF 2]++(aY [ef 3,bV (bR 0)]++(aY [ef 4,al 0++32::(al 0++32::al (-17179869184))]++(aY [ef 5,al 0++32::(al 0++32::al 0)]++(aY [ef 6,al 0++32::(al 4294967296++32::al 0)]++(aY [ef 7,al 4294967296]++aY [ef 8,al 0++32::(al 0++32::al 0)])))))))
   ++ (aY [eC 0,al 4294967296++32::(al 2147483648++32::al 0)]++(aY [eC 4,al 0++32::(al 0++32::al 0),al 4294967296,cF 0])):=by
  simp only[cX,ga,DD,bU,dk,List.flatMap_cons,List.flatMap_nil,List.append_nil,dQ,fq]
 rw[h,nm0,nm1,nmh,nm4,it0,it1,it2,xu dD]
 decide +kernel
theorem LQ:eA DD=(Mi++NI,0):=by
 rw[eA,if_pos dD,LP,if_neg dD]
theorem Nh:pre (Mi++NI) Mi=true:=by decide
theorem dS(K:ae){xs ys:List af}(hx:xs.length=21)(ox:xs.all af.one=true)(hy:ys.length=2)(oy:ys.all af.one=true) :
  ∃A B C D,eR K ob=(aj K.next 21 0,A)/\eR A (fL 0 0)=(aj (K.next+1) 2 0,B)/\bD 21 B (aj K.next 21 0) (.agg xs)=some C/\bD 2 C (aj (K.next+1) 2 0) (.agg ys)=some D/\Row D K.next xs/\Row D (K.next+1) ys/\D.next=K.next+2/\bg K.next K D:=by
 obtain⟨A,m1,r1,n1,k1⟩:=aP K ob (n:=21) rfl
 obtain⟨B,m2,r2,n2,k2⟩:=aP A (fL 0 0) (n:=2) rfl
 rw[n1]at m2 r2
 obtain⟨C,m3,r3,n3,k3⟩:=bC (n:=21) (r1.same (k2 _ om)) rfl hx ox
 obtain⟨D,m4,r4,n4,k4⟩:=bC (n:=2) (r2.same (k3 _ om)) rfl hy oy
 exact⟨A,B,C,D,m1,m2,m3,m4,r3.same (k4 _ om),r4,om,om,fun c hc=>by rw[k4 c om,k3 c om,k2 c om,k1 c om]⟩
theorem l8{P:Nat->Prop}{H:ae}{s:Sc}{vm vb vu:af}(I:fV P H s vm vb vu):(dH s vm vb vu).all af.one=true:=by
 simp only[dH,List.all_cons,List.all_nil,I.m.one,I.b.one,I.u.one,Bool.and_true]; rfl
theorem Lj(a b:Nat):iu (.eqS false [(0,.int),(1,.int)]) [.agg (fL a b),.agg (fL a b)]=some (.bool true):=by
 simp[iu,fL,mZ,cV,HB,xf,xd,fB]
set_option maxHeartbeats 1000000 in
set_option maxRecDepth 20000 in
theorem gN{H:ae}(h0:0<H.next)(G:nd H 0 iC):aq Tryz.prog aG 5 [] H fun v H'=>v=.bool true/\bg H.next H H':=by
 refine ai rfl za5 rfl ?_
 have z21:[af.int .i64 0,.int .i64 0,.int .i64 0,.int .i64 0,.int .u64 0,.int .i64 0,.int .i64 0,.int .i64 0,.int .i64 0,.int .i64 0,.int .i64 0,.int .i64 0,.int .i64 0,.int .i64 0,.int .i64 0,.int .i64 0,.int .i64 0,.int .i64 0,.slice none 0 (.known 0),.slice none 0 (.known 0),.slice none 0 (.known 0)]=ob:=rfl
 have z2:[af.int .i64 0,.int .i64 0]=fL 0 0:=rfl
 simp only[c5,sA,sB,seval,z21,z2]
 refine (cY _).mono ?_
 rintro _ A0 ha0
 have ha0:yo (bj Ng) H _ A0:=ha0
 rw[aw0]at ha0
 obtain⟨x0,vm,vb,vu,rfl,I0⟩:=ha0
 obtain⟨a0,b0,c0,D0,m01,m02,m03,m04,r0,f0,n0,y0⟩:=dS A0 (xs:=dH DD vm vb vu) (ys:=fL 0 0) rfl (l8 I0) rfl (eV _ _)
 have g0:=x0.next
 simp only[sA,sB,seval,bK,bJ,m01,m02,m03,m04]
 have e0:bg H.next H D0:=x0.trans (y0.less g0)
 have I1:fV (·<D0.next) D0 DD vm vb vu:=I0.mono fun c hc=>⟨om,y0.old c hc.2⟩
 refine (cY _).mono ?_
 rintro _ A1 ha1
 have ha1:yo (bj Nf) D0 _ A1:=ha1
 rw[aw1]at ha1
 obtain⟨x1,rfl⟩:=ha1
 obtain⟨a1,b1,c1,D1,m11,m12,m13,m14,r1,f1,n1,y1⟩:=dS A1 (xs:=ob) (ys:=fL 130 1) rfl rfl rfl (eV _ _)
 have g1:=x1.next
 simp only[sA,sB,seval,bK,bJ,m11,m12,m13,m14]
 have e1:bg D0.next D0 D1:=x1.trans (y1.less g1)
 refine (cY _).mono ?_
 rintro _ A2 ha2
 have ha2:yo (bj Nd) D1 _ A2:=ha2
 rw[Pi]at ha2
 obtain⟨x2,rfl⟩:=ha2
 obtain⟨a2,b2,c2,D2,m21,m22,m23,m24,r2,f2,n2,y2⟩:=dS A2 (xs:=ob) (ys:=fL 130 2) rfl rfl rfl (eV _ _)
 have g2:=x2.next
 simp only[sA,sB,seval,bK,bJ,m21,m22,m23,m24]
 have e2:bg D0.next D0 D2:=e1.trans ((x2.trans (y2.less g2)).less e1.next)
 refine (cY _).mono ?_
 rintro _ A3 ha3
 have ha3:yo (bj Nc) D2 _ A3:=ha3
 rw[aw3]at ha3
 obtain⟨x3,rfl⟩:=ha3
 obtain⟨a3,b3,c3,D3,m31,m32,m33,m34,r3,f3,n3,y3⟩:=dS A3 (xs:=ob) (ys:=fL 130 0) rfl rfl rfl (eV _ _)
 have g3:=x3.next
 simp only[sA,sB,seval,bK,bJ,m31,m32,m33,m34]
 have e3:bg D0.next D0 D3:=e2.trans ((x3.trans (y3.less g3)).less e2.next)
 refine (cY _).mono ?_
 rintro _ A4 ha4
 have ha4:yo (bj Nb) D3 _ A4:=ha4
 rw[aw4]at ha4
 obtain⟨x4,rfl⟩:=ha4
 obtain⟨a4,b4,c4,D4,m41,m42,m43,m44,r4,f4,n4,y4⟩:=dS A4 (xs:=ob) (ys:=fL 130 2) rfl rfl rfl (eV _ _)
 have g4:=x4.next
 simp only[sA,sB,seval,bK,bJ,m41,m42,m43,m44]
 have e4:bg D0.next D0 D4:=e3.trans ((x4.trans (y4.less g4)).less e3.next)
 have d1:=e1.next
 have d2:=e2.next
 have d3:=e3.next
 have d4:=e4.next
 have R0:Row D4 A0.next (dH DD vm vb vu):=r0.up e4 om
 have I4:fV (·<D4.next) D4 DD vm vb vu:=(I1.up e4).mono fun c hc=>⟨om,rfl⟩
 have e5:bg H.next H D4:=e0.trans (e4.less om)
 have L0:=aH 21 0 21 R0 rfl (xs:=dH DD vm vb vu) om rfl
 simp only[sA,sB,seval,L0]
 refine (nl I4 dD om (G.ext h0 e5)).mono ?_
 rintro _ D5 ⟨rfl,x5⟩
 rw[LQ]
 have e6:bg D0.next D0 D5:=e4.trans (x5.less d4)
 have I5:=I4.up x5
 have R5:Row D5 A0.next (dH DD vm vb vu):=R0.up x5 om
 have F0:Row D5 (A0.next+1) (fL 0 0):=f0.up e6 om
 have F1:Row D5 (A1.next+1) (fL 130 1):=((((f1).up (x2.trans (y2.less g2)) om).up (x3.trans (y3.less g3)) om).up (x4.trans (y4.less g4)) om).up x5 om
 have F2:Row D5 (A2.next+1) (fL 130 2):=(((f2).up (x3.trans (y3.less g3)) om).up (x4.trans (y4.less g4)) om).up x5 om
 have F3:Row D5 (A3.next+1) (fL 130 0):=((f3).up (x4.trans (y4.less g4)) om).up x5 om
 have F4:Row D5 (A4.next+1) (fL 130 2):=(f4).up x5 om
 have s0:=an 21 0 R5 rfl rfl
 have s1:=an 21 1 R5 rfl rfl
 have s18:=an 21 18 R5 rfl rfl
 have s19:=an 21 19 R5 rfl rfl
 have Pi:DD.w=2:=rfl
 have ah1:DD.h=1:=rfl
 rw[Pi]at s0
 rw[ah1]at s1
 have l18:gd false vm=some (.int .i64 1):=I5.m.len
 have l19:gd false vb=some (.int .i64 1):=I5.b.len
 have q0:=an 2 0 F0 rfl rfl
 have q1:=dW (n:=2) F1 rfl
 have q2:=dW (n:=2) F2 rfl
 have q3:=dW (n:=2) F3 rfl
 have q4:=dW (n:=2) F4 rfl
 have b1:cj (fL 0 0) [(0,1,.int .i64 130),(1,1,.int .i64 1)]=some (.agg (fL 130 1)):=rfl
 have b2:cj (fL 0 0) [(0,1,.int .i64 130),(1,1,.int .i64 2)]=some (.agg (fL 130 2)):=rfl
 have b3:cj (fL 0 0) [(0,1,.int .i64 130)]=some (.agg (fL 130 0)):=rfl
 have hz0:(((0:Nat):Int))=0:=rfl
 simp only[sA,sB,seval,bK,bJ,z2,aF,q0,s0,s1,s18,s19,l18,l19,q1,q2,q3,q4,b1,b2,b3,Lj,hz0]
 refine (Fq rfl rfl (Mi++NI) Mi).mono ?_
 rintro _ _ ⟨rfl,rfl⟩
 rw[Nh]
 simp only[sA,sB,seval]
 exact⟨tt,e5.trans (x5.less om)⟩
open Go.Abs Go.Abs.S
theorem xz(a b:Bool):iu (.eqv false .bool) [.bool a,.bool b]=some (.bool (a==b)):=by cases a <;> cases b <;> rfl
open Go.Abs Go.Abs.S
theorem JW:∀(L:List Bs) (s:PS) (n e:Nat),oG s n L=.error e->e<n+L.length
 | [],s,n,e,h=>by simp[oG]at h
 | l::L,s,n,e,h=>by
  rw[oG]at h
  rw[Pv]
  split at h
  ·simp only[Except.error.injEq]at h; omega
  ·have:=JW L _ _ _ h; omega
theorem CO{t:Bs}{e l:Nat}(ht:t.length<=4000)(h:bj t=.error (e,l)):e=130/\l<=5000:=by
 rw[bj,if_neg om]at h
 split at h
 ·rename_i n hn
  simp only[Except.error.injEq,pJ]at h
  have:=JW _ _ _ _ hn
  rw[pP]at this
  have:=List.count_le_length (a:=(10:UInt8)) (l:=t)
  omega
 ·unfold uX at h
  split at h <;> first | (simp at h; done) | skip
  simp only[Except.error.injEq,pJ]at h
  omega
theorem sy{s:Sc}(h:fG s=true):(eA s=(cX s,0)/\(cX s).length<=16384)∨eA s=([],3):=by
 rw[eA,if_pos h]
 split
 ·exact .inr rfl
 ·exact .inl ⟨rfl,om⟩
theorem Br{s:Sc}(h:fG s=true):s.ms.length<=1000/\s.bs.length<=1000/\s.us.length<=1000:=by
 simp only[fG,oE,Pu,PE]at h
 omega
theorem fV.in{n:Nat}{K D:ae}{s:Sc}{vm vb vu:af}(I:fV (fun c=>n<=c/\c<K.next) K s vm vb vu)(y:bg K.next K D):fV (·<D.next) D s vm vb vu:=I.mono fun c hc=>⟨by have:=y.next; omega,y.old c hc.2⟩
theorem fV.on{K D:ae}{s:Sc}{vm vb vu:af}(I:fV (·<K.next) K s vm vb vu)(y:bg K.next K D):fV (·<D.next) D s vm vb vu:=I.mono fun c hc=>⟨by have:=y.next; omega,y.old c hc⟩
set_option maxHeartbeats 1000000 in
set_option maxRecDepth 20000 in
theorem DC{H0 H:ae}{T:bN}{t:Bs}(h0:0<H0.next)(G:nd H0 0 iC)(E:bg H0.next H0 H)(g1:T 1=.str t)(ht:t.length<=4000) :
  wp (aq Tryz.prog aG) (hold (uA 3 c3.body)) (ij c3.res fun v H'=>v=.bool true/\bg H0.next H0 H') T H:=by
 have z21:[af.int .i64 0,.int .i64 0,.int .i64 0,.int .i64 0,.int .u64 0,.int .i64 0,.int .i64 0,.int .i64 0,.int .i64 0,.int .i64 0,.int .i64 0,.int .i64 0,.int .i64 0,.int .i64 0,.int .i64 0,.int .i64 0,.int .i64 0,.int .i64 0,.slice none 0 (.known 0),.slice none 0 (.known 0),.slice none 0 (.known 0)]=ob:=rfl
 have z2:[af.int .i64 0,.int .i64 0]=fL 0 0:=rfl
 have s1:cq .add (.str [35,32,102,105,114,115,116,10,9,32,13,10]) (.str t)=some (.str (wz++t)):=lZ (x:=wz) (y:=t) (by rw[show wz.length=12 from rfl]; omega)
 have f0:((0:Nat):Int)=0:=rfl
 have En:=E.next
 have fin2:∀{K:ae},bg H0.next H0 K->0<K.next/\nd K 0 iC:=fun {K} x=>⟨by have:=x.next; omega,G.ext h0 x⟩
 simp only[c3,uA,IL,sA,sB,seval,g1]
 refine (cY t).mono ?_
 rintro _ A1 h1
 cases hp:bj t with
 | error e=>
  obtain⟨e,l⟩:=e
  obtain⟨rfl,hl⟩:=CO ht hp
  rw[hp]at h1
  obtain⟨x1,rfl⟩:=h1
  have x1n:=x1.next
  obtain⟨A,B,C,D,m1,m2,m3,m4,r,f,n,y⟩:=dS A1 (xs:=ob) (ys:=fL 130 l) rfl rfl rfl (eV _ _)
  have ED:bg H0.next H0 D:=E.trans ((x1.trans (y.less x1n)).less En)
  have yn:=y.next
  simp only[sA,sB,seval,bK,bJ,z21,z2,m1,m2,m3,m4,g1,s1]
  refine (cY (wz++t)).mono ?_
  rintro _ A2 h2
  rw[sP ht,hp]at h2
  obtain⟨x2,rfl⟩:=h2
  have x2n:=x2.next
  obtain⟨l',hl'⟩:∃l',l'=if l=0 then 0 else l+2:=⟨_,rfl⟩
  rw[<- hl']
  obtain⟨A',B',C',D',m1',m2',m3',m4',r',f',n',y'⟩:=dS A2 (xs:=ob) (ys:=fL 130 l') rfl rfl rfl (eV _ _)
  have ED':bg H0.next H0 D':=ED.trans ((x2.trans (y'.less x2n)).less om)
  have fD:Row D' (A1.next+1) (fL 130 l):=(f.up x2 om).up y' om
  have q0:=an 2 0 fD rfl rfl
  have q1:=an 2 1 fD rfl rfl
  have p0:=an 2 0 f' rfl rfl
  have p1:=an 2 1 f' rfl rfl
  have f130:((130:Nat):Int)=130:=rfl
  have w:IntKind.i64.wrap ((l:Int)+2)=((l+2:Nat):Int):=by rw[aV om om]; omega
  by_cases hz:l=0
  ·have hz':l'=0:=by rw[hl',if_pos hz]
   subst hz
   subst hz'
   simp only[sA,sB,seval,bK,bJ,z21,z2,m1',m2',m3',m4',aF,q0,q1,p0,p1,f130,f0,xz,BEq.rfl]
   refine (gN (fin2 ED').1 (fin2 ED').2).mono ?_
   rintro _ K4 ⟨rfl,x4⟩
   simp only[sA,sB,seval]
   exact⟨tt,ED'.trans (x4.less ED'.next)⟩
  ·have hz':l'=l+2:=by rw[hl',if_neg hz]
   have c1:¬(l:Int)=0:=om
   have c2:¬((l+2:Nat):Int)=0:=om
   rw[hz']at p1 m4'
   rw[hz']
   simp only[sA,sB,seval,bK,bJ,z21,z2,m1',m2',m3',m4',aF,q0,q1,p0,p1,f130,c1,c2,xz,BEq.rfl,w]
   refine (gN (fin2 ED').1 (fin2 ED').2).mono ?_
   rintro _ K4 ⟨rfl,x4⟩
   simp only[sA,sB,seval]
   exact⟨tt,ED'.trans (x4.less ED'.next)⟩
 | ok s=>
  obtain⟨hc,hsd⟩:=CN hp
  obtain⟨q1,q2,q3⟩:=Br hc
  rw[hp]at h1
  obtain⟨x1,vm,vb,vu,rfl,I⟩:=h1
  have x1n:=x1.next
  obtain⟨A,B,C,D,m1,m2,m3,m4,r,f,n,y⟩:=dS A1 (xs:=dH s vm vb vu) (ys:=fL 0 0) rfl (l8 I) rfl (eV _ _)
  have ED:bg H0.next H0 D:=E.trans ((x1.trans (y.less x1n)).less En)
  have yn:=y.next
  have ID:=I.in y
  simp only[sA,sB,seval,bK,bJ,z21,z2,m1,m2,m3,m4,g1,s1]
  refine (cY (wz++t)).mono ?_
  rintro _ A2 h2
  rw[sP ht,hp]at h2
  obtain⟨x2,wm,wb,wu,rfl,J⟩:=h2
  have x2n:=x2.next
  obtain⟨A',B',C',D',m1',m2',m3',m4',r',f',n',y'⟩:=dS A2 (xs:=dH s wm wb wu) (ys:=fL 0 0) rfl (l8 J) rfl (eV _ _)
  have ED':bg H0.next H0 D':=ED.trans ((x2.trans (y'.less x2n)).less om)
  have xD:bg D.next D D':=x2.trans (y'.less x2n)
  have I':=ID.on xD
  have J':=J.in y'
  have rD:Row D' A1.next (dH s vm vb vu):=r.up xD om
  have fD:Row D' (A1.next+1) (fL 0 0):=f.up xD om
  have q0:=an 2 0 fD rfl rfl
  have ls:=aH 21 0 21 rD rfl (xs:=dH s vm vb vu) om rfl
  simp only[sA,sB,seval,bK,bJ,z21,z2,m1',m2',m3',m4',aF,q0,f0,ls]
  refine (nl I' hsd (fin2 ED').1 (fin2 ED').2).mono ?_
  rintro _ B1 ⟨rfl,z1⟩
  have z1n:=z1.next
  have xD':=xD.next
  have r1:Row B1 A1.next (dH s vm vb vu):=rD.up z1 om
  have ls1:=aH 21 0 21 r1 rfl (xs:=dH s vm vb vu) om rfl
  simp only[sA,sB,seval,bK,bJ,ls1]
  refine (xA (I'.on z1)).mono ?_
  rintro _ B2 ⟨rfl,z2'⟩
  rw[hc]
  have e0:IU true=.int .i64 0:=rfl
  have zz:bg D'.next D' B2:=z1.trans (z2'.less z1n)
  have zzn:=zz.next
  have p0:=an 2 0 (f'.up zz om) rfl rfl
  have ls2:=aH 21 0 21 (rD.up zz om) rfl (xs:=dH s vm vb vu) om rfl
  have lt2:=aH 21 0 21 (r'.up zz om) rfl (xs:=dH s wm wb wu) om rfl
  simp only[sA,sB,seval,e0,aF,p0,f0,ls2,lt2]
  refine (nq (I'.on zz) (J'.on zz) q1 q2 q3).mono ?_
  rintro _ B3 ⟨rfl,z3⟩
  have zw:bg D'.next D' B3:=zz.trans (z3.less zzn)
  have zwn:=zw.next
  have EB:bg H0.next H0 B3:=ED'.trans (zw.less om)
  rcases sy hc with⟨hsaid,hlen⟩ | hsaid
  ·rw[hsaid]
   simp only[sA,sB,seval,f0]
   refine (cY (cX s)).mono ?_
   rintro _ A3 h3
   rw[sw hc hsd hlen]at h3
   obtain⟨x3,um,ub,uu,rfl,L⟩:=h3
   have x3n:=x3.next
   obtain⟨A4,B4,C4,D4,m14,m24,m34,m44,r4,f4,n4,y4⟩:=dS A3 (xs:=dH s um ub uu) (ys:=fL 0 0) rfl (l8 L) rfl (eV _ _)
   have xE:bg B3.next B3 D4:=x3.trans (y4.less x3n)
   have xF:bg D'.next D' D4:=zw.trans (xE.less zwn)
   have ED4:bg H0.next H0 D4:=EB.trans (xE.less EB.next)
   have p4:=an 2 0 f4 rfl rfl
   have ls4:=aH 21 0 21 (rD.up xF om) rfl (xs:=dH s vm vb vu) om rfl
   have lt4:=aH 21 0 21 r4 rfl (xs:=dH s um ub uu) om rfl
   simp only[sA,sB,seval,bK,bJ,z21,z2,m14,m24,m34,m44,aF,p4,f0,ls4,lt4]
   refine (nq (I'.on xF) (L.in y4) q1 q2 q3).mono ?_
   rintro _ B5 ⟨rfl,z5⟩
   have E5:bg H0.next H0 B5:=ED4.trans (z5.less ED4.next)
   simp only[sA,sB,seval]
   refine (gN (fin2 E5).1 (fin2 E5).2).mono ?_
   rintro _ K4 ⟨rfl,x4⟩
   simp only[sA,sB,seval]
   exact⟨tt,E5.trans (x4.less E5.next)⟩
  ·rw[hsaid]
   have f3:((3:Nat):Int)=3:=rfl
   have p1:=an 2 0 (f'.up zw om) rfl rfl
   simp only[sA,sB,seval,f3,aF,p1,f0]
   refine (gN (fin2 EB).1 (fin2 EB).2).mono ?_
   rintro _ K4 ⟨rfl,x4⟩
   simp only[sA,sB,seval]
   exact⟨tt,EB.trans (x4.less EB.next)⟩
set_option maxHeartbeats 1000000 in
set_option maxRecDepth 20000 in
theorem tP{H:ae}{s:Sc}{vm vb vu:af}{t:Bs}(I:fV (·<H.next) H s vm vb vu)(hs:s.seed<18446744073709551616)(hm:s.ms.length<=281474976710656)(hb:s.bs.length<=281474976710656)(hu:s.us.length<=281474976710656)(h0:0<H.next)(G:nd H 0 iC) :
  aq Tryz.prog aG 3 [.agg (dH s vm vb vu),.str t] H fun v H'=>v=.bool true/\bg H.next H H':=by
 refine ai rfl za3 rfl ?_
 refine DX 3 ?_
 have z21:[af.int .i64 0,.int .i64 0,.int .i64 0,.int .i64 0,.int .u64 0,.int .i64 0,.int .i64 0,.int .i64 0,.int .i64 0,.int .i64 0,.int .i64 0,.int .i64 0,.int .i64 0,.int .i64 0,.int .i64 0,.int .i64 0,.int .i64 0,.int .i64 0,.slice none 0 (.known 0),.slice none 0 (.known 0),.slice none 0 (.known 0)]=ob:=rfl
 have z2:[af.int .i64 0,.int .i64 0]=fL 0 0:=rfl
 have f0:((0:Nat):Int)=0:=rfl
 obtain⟨H1,m1,r1,n1,k1⟩:=aP H (dH s vm vb vu) (n:=21) rfl
 have e1:=dY n1 k1
 have ca:(af.agg (dH s vm vb vu)).cells=dH s vm vb vu:=rfl
 have I1:=I.on e1
 have a18:=an 21 18 r1 rfl rfl
 have a19:=an 21 19 r1 rfl rfl
 have a20:=an 21 20 r1 rfl rfl
 have l1:=I1.m.len
 have l2:=I1.b.len
 have l3:=I1.u.len
 have w1:IntKind.i64.wrap ((s.ms.length:Int)+(s.bs.length:Int))=((s.ms.length+s.bs.length:Nat):Int):=Jx _ _ om
 have w2:IntKind.i64.wrap (((s.ms.length+s.bs.length:Nat):Int)+(s.us.length:Int))=((s.ms.length+s.bs.length+s.us.length:Nat):Int):=Jx _ _ om
 have aw:∀{K:af->ae->Prop},(∀H',bg H.next H H'->K (.bool true) H')->aq Tryz.prog aG 5 [] H1 K:=fun hh=>(gN om (G.ext h0 e1)).mono fun r H' ⟨a,b⟩=>by subst a; exact hh H' (e1.trans (b.less om))
 by_cases c1:400<s.ms.length+s.bs.length+s.us.length
 ·have c1':(400:Int)<((s.ms.length+s.bs.length+s.us.length:Nat):Int):=om
  simp only[c3,ve,vd,sA,sB,seval,ca,m1,aF,a18,a19,a20,l1,l2,l3,w1,w2,c1']
  refine aw fun H' x=>?_
  simp only[sA,sB,seval]
  exact⟨tt,x⟩
 have c1':¬(400:Int)<((s.ms.length+s.bs.length+s.us.length:Nat):Int):=om
 by_cases c2:4000<t.length
 ·have c2':(4000:Int)<(t.length:Int):=om
  simp only[c3,ve,vd,sA,sB,seval,ca,m1,aF,a18,a19,a20,l1,l2,l3,w1,w2,c1',c2']
  refine aw fun H' x=>?_
  simp only[sA,sB,seval]
  exact⟨tt,x⟩
 have c2':¬(4000:Int)<(t.length:Int):=om
 have ls:=aH 21 0 21 r1 rfl (xs:=dH s vm vb vu) om rfl
 simp only[c3,ve,vd,sA,sB,seval,ca,m1,aF,a18,a19,a20,l1,l2,l3,w1,w2,c1',c2',ls]
 refine (nl I1 hs om (G.ext h0 e1)).mono ?_
 rintro _ H2 ⟨rfl,x2⟩
 have x2n:=x2.next
 have E2:=e1.trans (x2.less om)
 have tl:∀{T:bN} {K:ae},bg H.next H K->T 1=.str t->wp (aq Tryz.prog aG) (hold (uA 3 c3.body)) (ij c3.res fun v H'=>v=.bool true/\bg H.next H H') T K:=fun x g=>DC h0 G x g om
 cases hc:fG s with
 | false=>
  have hsaid:eA s=([],130):=by rw[eA,if_neg (by rw[hc]; simp)]
  have f130:((130:Nat):Int)=130:=rfl
  rw[hsaid]
  simp only[sA,sB,seval,bK,bJ,f130]
  exact tl E2 (by simp only[sA,sB,seval])
 | true=>
  rcases sy hc with⟨hsaid,hlen⟩ | hsaid
  ·obtain⟨q1,q2,q3⟩:=Br hc
   rw[hsaid]
   simp only[sA,sB,seval,bK,bJ,f0]
   refine (cY (cX s)).mono ?_
   rintro _ A3 h3
   rw[sw hc hs hlen]at h3
   obtain⟨x3,um,ub,uu,rfl,L⟩:=h3
   have x3n:=x3.next
   obtain⟨A4,B4,C4,D4,m14,m24,m34,m44,r4,f4,n4,y4⟩:=dS A3 (xs:=dH s um ub uu) (ys:=fL 0 0) rfl (l8 L) rfl (eV _ _)
   have xE:bg H2.next H2 D4:=x3.trans (y4.less x3n)
   have xF:bg H1.next H1 D4:=x2.trans (xE.less x2n)
   have ED4:bg H.next H D4:=e1.trans (xF.less om)
   have p4:=an 2 0 f4 rfl rfl
   have ls4:=aH 21 0 21 (r1.up xF om) rfl (xs:=dH s vm vb vu) om rfl
   have lt4:=aH 21 0 21 r4 rfl (xs:=dH s um ub uu) om rfl
   simp only[sA,sB,seval,bK,bJ,z21,z2,m14,m24,m34,m44,aF,p4,f0,ls4,lt4]
   refine (nq (I1.on xF) (L.in y4) q1 q2 q3).mono ?_
   rintro _ B5 ⟨rfl,z5⟩
   simp only[sA,sB,seval]
   exact tl (ED4.trans (z5.less ED4.next)) (by simp only[sA,sB,seval])
  ·have f3:((3:Nat):Int)=3:=rfl
   rw[hsaid]
   simp only[sA,sB,seval,bK,bJ,f3]
   exact tl E2 (by simp only[sA,sB,seval])
open Go.Abs Go.Abs.S
open Go.WideShapes Go.ChangeShapes
variable {K:Type} {enc:TypeId×Value->K}
theorem CT{α:Type}{f:Nat->Option α}{m:Nat}(h:f 0=none)(hm:0<m):(List.range m).mapM f=none:=by
 obtain⟨m,rfl⟩:∃k,m=k+1:=⟨m-1,om⟩
 rw[List.range_succ_eq_map,List.mapM_cons,h]; rfl
theorem Aj{W:World}{c off:Nat}{q}{m:Nat}(hm:0<m):W.cells? 0 ⟨c,off,some q⟩ m=none:=by
 unfold World.cells?
 split
 ·refine CT ?_ hm
  show W.cell? ⟨c,off,some q⟩=none
  unfold World.cell?
  split
  ·rfl
  ·rfl
 ·rfl
theorem gW.empty{W:World}{m:Nat}{a:Addr}:gW (·<(ig W).next) (ig W) m (je W (.slice (some a) 0 0)) 0 []:=by
 obtain⟨c,off,spot⟩:=a
 cases spot with
 | some q=>exact .inl ⟨rfl,rfl,rfl⟩
 | none=>
  cases hr:jE W c with
  | none=>exact .inl ⟨by simp only[je,Nat.le_refl,if_true,hr]; rfl,rfl,rfl⟩
  | some n=>
   by_cases ho:off<=n
   ·obtain⟨C,e',fz,g1,g2,g3⟩:=kD hr
    have hlt:c<(ig W).next:=(Array.getElem?_eq_some_iff.1 g1).1
    refine .inr ⟨⟨c,n,off⟩,.known 0,by simp only[je,Nat.le_refl,if_true,hr,ho],hlt,?_⟩
    unfold aT
    rw[fA,g3]
    simp only[PI,Array.length_toList,g2,Nat.mul_zero,Nat.add_zero,List.take_zero,Pt (Nat.zero_le _),Pt rL,Pt ho,Bool.and_self,cond_true]
   ·exact .inl ⟨by simp only[je,Nat.le_refl,if_true,hr]; rw[if_neg ho]; rfl,rfl,rfl⟩
theorem ur{P:Program}{W:World}{t e:TypeId}{m fuel:Nat}{cs:List Value}{x:DataW K×List MemPlace}(ht:P.underlying t=some (.slice e))(hm:P.cellsOf e=m)(h0:0<m)
  (hf:DataW.trod enc P W 0 (fun _=>true) true fuel t cs=some x) :
  ∃v k C,cs=[v]/\(k=0∨∃el sp,x.1=.slice el sp/\el.length=k)/\gW (·<(ig W).next) (ig W) m (je W v) k C/\C.length=m*k/\∀i,i<k->∃f es y,f<fuel/\es.map (je W)=(C.drop (i*m)).take m/\DataW.trod enc P W 0 (fun _=>true) true f e es=some y:=by
 subst hm
 rcases DataW.trod_slice ht hf with⟨rfl,_⟩ | ⟨a,len,cap,elems,rest,n',hfu,rfl,hx,_,h3,h4,h5,h6,h7,_⟩
 ·exact⟨_,0,[],rfl,.inl rfl,.inl ⟨by simp only[je]; rfl,rfl,rfl⟩,rfl,fun i hi=>om⟩
 obtain⟨h7a,h7b⟩:=h7 rfl
 by_cases hc:cap=0
 ·obtain rfl:len=0:=om
  subst hc
  exact⟨_,0,[],rfl,.inl rfl,gW.empty,rfl,fun i hi=>om⟩
 have hal:∀i,i<cap->∃es,W.cells? 0 (a.add (i*P.cellsOf e)) (P.cellsOf e)=some es:=by
  intro i hi
  by_cases hlt:i<len
  ·have:=h6 i hlt
   rw[Pr om]at this
   obtain⟨es,q,_⟩:=Option.bind_eq_some_iff.1 this
   exact⟨es,q⟩
  ·have:=h7b (i-len) om
   rw[Pr om,show len+(i-len)=i by omega]at this
   obtain⟨es,q,_⟩:=Option.bind_eq_some_iff.1 this
   exact⟨es,q⟩
 obtain⟨c,off,spot⟩:=a
 cases spot with
 | some q=>
  obtain⟨es,hes⟩:=hal 0 om
  rw[Nat.zero_mul,show (⟨c,off,some q⟩:Addr).add 0=⟨c,off,some q⟩ from rfl,Aj h0]at hes
  simp at hes
 | none=>
  have key:∀i,i<cap->∀es,W.cells? 0 ((⟨c,off,none⟩:Addr).add (i*P.cellsOf e)) (P.cellsOf e)=some es->es.length=P.cellsOf e/\∀j,j<P.cellsOf e->W.cell? ⟨c,off+i*P.cellsOf e+j,none⟩=es[j]?:=by
   intro i _ es hes
   rw[cT]at hes
   exact GG hes
  obtain⟨es0,hes0⟩:=hal (cap-1) om
  obtain⟨q1,q2⟩:=key (cap-1) om es0 hes0
  have q3:=q2 (P.cellsOf e-1) om
  rw[Pr om]at q3
  obtain⟨n,hn⟩:∃n,jE W c=some n:=by
   unfold World.cell? at q3
   unfold jE
   split at q3
   ·rename_i C _ _ hC; exact⟨C.size,by simp only at hC; rw[hC]⟩
   ·simp at q3
  obtain⟨C,e',fz,g1,g2,g3⟩:=kD hn
  rw[kg g1]at q3
  have hb:=(Array.getElem?_eq_some_iff.1 q3).1
  have hcap:(cap-1)*P.cellsOf e+P.cellsOf e=cap*P.cellsOf e:=by
   rw[<- Nat.succ_mul]; congr 1; omega
  have hlc:len*P.cellsOf e<=cap*P.cellsOf e:=Nat.mul_le_mul_right _ h3
  have hlt:c<(ig W).next:=(Array.getElem?_eq_some_iff.1 g1).1
  have hmul:P.cellsOf e*len=len*P.cellsOf e:=Nat.mul_comm _ _
  refine⟨_,len,((C.toList.map (je W)).drop off).take (P.cellsOf e*len),rfl,.inr ⟨_,_,congrArg Prod.fst hx,by rw[PI]; omega⟩,.inr ⟨⟨c,n,off⟩,.known cap,?_,hlt,?_⟩,?_,?_⟩
  ·simp only[je,h3,if_true,hn,show off<=n by omega]
  ·unfold aT
   rw[fA,g3]
   simp only[PI,Array.length_toList,g2,Pt (Nat.zero_le _),Pt rL,Pt (show off+P.cellsOf e*len<=n by omega),Bool.and_self,cond_true]
  ·rw[PO,PN,PI,Array.length_toList]; omega
  ·intro i hi
   have:=h6 i hi
   rw[Pr om]at this
   obtain⟨es,r1,r2⟩:=Option.bind_eq_some_iff.1 this
   obtain⟨l1,l2⟩:=key i om es r1
   refine⟨n',es,_,om,?_,r2⟩
   apply List.ext_getElem?
   intro j
   have hil:i*P.cellsOf e+P.cellsOf e<=len*P.cellsOf e:=by
    rw[<- Nat.succ_mul]; exact Nat.mul_le_mul_right _ hi
   by_cases hj:j<P.cellsOf e
   ·rw[List.getElem?_take_of_lt hj,List.getElem?_drop,List.getElem?_take_of_lt om,List.getElem?_drop,List.getElem?_map,List.getElem?_map,<- l2 j hj,kg g1,Array.getElem?_toList,Nat.add_assoc]
   ·rw[PL (by rw[PI]; omega),PL (by rw[PO]; omega)]
def Fd(P:Program)(fs:Array Field)(i off n:Nat)(T:TypeId->Prop):Prop:=∃f,fs[i]?=some f/\f.offset=off/\P.cellsOf f.type=n/\T f.type
theorem bH{P:Program}{W:World}{fuel:Nat}{cs:List Value}{xs:List (DataW K×List MemPlace)}{fs:Array Field}{i off n:Nat}{T:TypeId->Prop}(h:Fd P fs i off n T)(hl:xs.length=fs.size)
  (hi:∀(i:Nat) (f:Field),fs[i]?=some f->DataW.trod enc P W 0 (fun _=>true) true fuel f.type ((cs.drop f.offset).take (P.cellsOf f.type))=xs[i]?) :
  ∃t y,T t/\DataW.trod enc P W 0 (fun _=>true) true fuel t ((cs.drop off).take n)=some y/\xs[i]?=some y/\(fs.toList.map (·.type))[i]?=some t:=by
 obtain⟨f,h1,rfl,rfl,h4⟩:=h
 have h5:=hi i f h1
 have hlt:=(Array.getElem?_eq_some_iff.1 h1).1
 rw[Pr om]at h5
 exact⟨_,_,h4,h5,Pr _,by rw[List.getElem?_map,Array.getElem?_toList,h1]; rfl⟩
theorem Mv{z:Int}(h:(Lit.int .u8 z).wf=true):∃k:Nat,z=(k:Int):=by
 simp only[Lit.wf,Pu,PE]at h
 have h1:(0:Int)<=z:=h.1
 exact⟨z.toNat,om⟩
theorem Kp{z:Int}(h:(Lit.int .u64 z).wf=true):∃k:Nat,z=(k:Int)/\k<18446744073709551616:=by
 simp only[Lit.wf,Pu,PE]at h
 have h1:(0:Int)<=z:=h.1
 have h2:z<=18446744073709551615:=h.2
 exact⟨z.toNat,om,om⟩
abbrev DQ(P:Program)(k:IntKind)(t:TypeId):Prop:=P.underlying t=some (.int k)
abbrev Pp(P:Program)(t:TypeId):Prop:=P.underlying t=some .string
structure rQ(P:Program)(tv:TypeId):Prop where
 c:P.cellsOf tv=3
 f:∃fs:Array Field,P.underlying tv=some (.struct fs)/\Fd P fs 0 0 1 (DQ P .i64)/\Fd P fs 1 1 1 (DQ P .i64)/\Fd P fs 2 2 1 (DQ P .i64)
theorem gA{P:Program}{W:World}{tv:TypeId}(Y:rQ P tv){fuel:Nat}{cs:List Value}{x:DataW K×List MemPlace}(hf:DataW.trod enc P W 0 (fun _=>true) true fuel tv cs=some x) :
  ∃x y z,cs=[.int .i64 x,.int .i64 y,.int .i64 z]:=by
 obtain⟨fs,hfs,d0,d1,d2⟩:=Y.f
 obtain⟨xs,n,hfu,_,hl,hn,hi⟩:=DataW.trod_struct hfs hf
 rw[Y.c]at hl
 obtain⟨c0,c1,c2,rfl⟩:∃a b c,cs=[a,b,c]:=by
  match cs,hl with
  | [a,b,c],_=>exact⟨a,b,c,rfl⟩
 obtain⟨_,_,g0,t0,_⟩:=bH d0 hn hi
 obtain⟨_,_,g1,t1,_⟩:=bH d1 hn hi
 obtain⟨_,_,g2,t2,_⟩:=bH d2 hn hi
 obtain⟨z0,e0,_,_⟩:=DataW.trod_int g0 t0
 obtain⟨z1,e1,_,_⟩:=DataW.trod_int g1 t1
 obtain⟨z2,e2,_,_⟩:=DataW.trod_int g2 t2
 simp at e0 e1 e2
 subst e0 e1 e2
 exact⟨_,_,_,rfl⟩
structure Jr(P:Program)(t:TypeId):Prop where
 c:P.cellsOf t=6
 f:∃fs:Array Field,P.underlying t=some (.struct fs)/\Fd P fs 0 0 1 (DQ P .u8)/\Fd P fs 1 1 3 (rQ P)/\Fd P fs 2 4 1 (Pp P)/\Fd P fs 3 5 1 (Pp P)
theorem EA{P:Program}{W:World}{t:TypeId}(Y:Jr P t){fuel:Nat}{cs:List Value}{x:DataW K×List MemPlace}(hf:DataW.trod enc P W 0 (fun _=>true) true fuel t cs=some x) :
  ∃m:Mt,cs.map (je W)=iD m:=by
 obtain⟨fs,hfs,d0,d1,d2,d3⟩:=Y.f
 obtain⟨xs,n,hfu,_,hl,hn,hi⟩:=DataW.trod_struct hfs hf
 rw[Y.c]at hl
 obtain⟨c0,c1,c2,c3,c4,c5,rfl⟩:∃a b c d e f,cs=[a,b,c,d,e,f]:=by
  match cs,hl with
  | [a,b,c,d,e,f],_=>exact⟨a,b,c,d,e,f,rfl⟩
 obtain⟨_,_,g0,t0,_⟩:=bH d0 hn hi
 obtain⟨_,_,g1,t1,_⟩:=bH d1 hn hi
 obtain⟨_,_,g2,t2,_⟩:=bH d2 hn hi
 obtain⟨_,_,g3,t3,_⟩:=bH d3 hn hi
 obtain⟨z0,e0,_,w0⟩:=DataW.trod_int g0 t0
 obtain⟨a,b,c,e1⟩:=gA g1 t1
 obtain⟨s2,e2,_,_⟩:=DataW.trod_string g2 t2
 obtain⟨s3,e3,_,_⟩:=DataW.trod_string g3 t3
 simp at e0 e1 e2 e3
 obtain⟨e1a,e1b,e1c⟩:=e1
 subst e0 e1a e1b e1c e2 e3
 obtain⟨k0,rfl⟩:=Mv w0
 exact⟨⟨k0,⟨a,b,c⟩,s2.data.toList,s3.data.toList⟩,rfl⟩
structure Hz(P:Program)(t:TypeId):Prop where
 c:P.cellsOf t=4
 f:∃fs:Array Field,P.underlying t=some (.struct fs)/\Fd P fs 0 0 3 (rQ P)/\Fd P fs 1 3 1 (DQ P .i64)
structure Jp(P:Program)(t:TypeId):Prop where
 c:P.cellsOf t=5
 f:∃fs:Array Field,P.underlying t=some (.struct fs)/\Fd P fs 0 0 4 (Hz P)/\Fd P fs 1 4 1 (DQ P .i64)
theorem Ez{P:Program}{W:World}{t:TypeId}(Y:Jp P t){fuel:Nat}{cs:List Value}{x:DataW K×List MemPlace}(hf:DataW.trod enc P W 0 (fun _=>true) true fuel t cs=some x) :
  ∃m:Rd,cs.map (je W)=oz m:=by
 obtain⟨fs,hfs,d0,d1⟩:=Y.f
 obtain⟨xs,n,hfu,_,hl,hn,hi⟩:=DataW.trod_struct hfs hf
 rw[Y.c]at hl
 obtain⟨c0,c1,c2,c3,c4,rfl⟩:∃a b c d e,cs=[a,b,c,d,e]:=by
  match cs,hl with
  | [a,b,c,d,e],_=>exact⟨a,b,c,d,e,rfl⟩
 obtain⟨_,_,g0,t0,_⟩:=bH d0 hn hi
 obtain⟨_,_,g1,t1,_⟩:=bH d1 hn hi
 obtain⟨fs',hfs',d0',d1'⟩:=g0.f
 obtain⟨xs',n',_,_,_,hn',hi'⟩:=DataW.trod_struct hfs' t0
 obtain⟨_,_,g2,t2,_⟩:=bH d0' hn' hi'
 obtain⟨_,_,g3,t3,_⟩:=bH d1' hn' hi'
 obtain⟨a,b,c,e1⟩:=gA g2 t2
 obtain⟨z3,e3,_,_⟩:=DataW.trod_int g3 t3
 obtain⟨z4,e4,_,_⟩:=DataW.trod_int g1 t1
 simp at e1 e3 e4
 obtain⟨e1a,e1b,e1c⟩:=e1
 subst e1a e1b e1c e3 e4
 exact⟨⟨⟨a,b,c⟩,z3,z4⟩,rfl⟩
structure Jn(P:Program)(t:TypeId):Prop where
 c:P.cellsOf t=5
 f:∃fs:Array Field,P.underlying t=some (.struct fs)/\Fd P fs 0 0 1 (Pp P)/\Fd P fs 1 1 3 (rQ P)/\Fd P fs 2 4 1 (DQ P .i64)
theorem Ey{P:Program}{W:World}{t:TypeId}(Y:Jn P t){fuel:Nat}{cs:List Value}{x:DataW K×List MemPlace}(hf:DataW.trod enc P W 0 (fun _=>true) true fuel t cs=some x) :
  ∃m:Us,cs.map (je W)=rx m:=by
 obtain⟨fs,hfs,d0,d1,d2⟩:=Y.f
 obtain⟨xs,n,hfu,_,hl,hn,hi⟩:=DataW.trod_struct hfs hf
 rw[Y.c]at hl
 obtain⟨c0,c1,c2,c3,c4,rfl⟩:∃a b c d e,cs=[a,b,c,d,e]:=by
  match cs,hl with
  | [a,b,c,d,e],_=>exact⟨a,b,c,d,e,rfl⟩
 obtain⟨_,_,g0,t0,_⟩:=bH d0 hn hi
 obtain⟨_,_,g1,t1,_⟩:=bH d1 hn hi
 obtain⟨_,_,g2,t2,_⟩:=bH d2 hn hi
 obtain⟨s0,e0,_,_⟩:=DataW.trod_string g0 t0
 obtain⟨a,b,c,e1⟩:=gA g1 t1
 obtain⟨z2,e2,_,_⟩:=DataW.trod_int g2 t2
 simp at e0 e1 e2
 obtain⟨e1a,e1b,e1c⟩:=e1
 subst e0 e1a e1b e1c e2
 exact⟨⟨s0.data.toList,⟨a,b,c⟩,z2⟩,rfl⟩
theorem pe{α:Type}{g:α->List af}{m:Nat}:∀(k:Nat) (C:List af),C.length=m*k->(∀i,i<k->∃e,(C.drop (i*m)).take m=g e)->∃l:List α,l.length=k/\C=l.flatMap g
 | 0,C,h,_=>⟨[],rfl,by cases C with | nil=>rfl | cons a b=>simp at h⟩
 | k+1,C,h,hq=>by
  obtain⟨e,h1⟩:=hq 0 om
  obtain⟨l,a1,a2⟩:=pe (g:=g) (m:=m) k (C.drop m) (by rw[PN,h,Nat.mul_succ]; omega) fun i hi=>by
   obtain⟨e,g1⟩:=hq (i+1) om
   refine⟨e,?_⟩
   rw[List.drop_drop,show m+i*m=(i+1)*m by rw[Nat.succ_mul]; omega]; exact g1
  rw[Nat.zero_mul,List.drop_zero]at h1
  exact⟨e::l,by simp[a1],by rw[List.flatMap_cons,<- h1,<- a2,List.take_append_drop]⟩
theorem yI{P:Program}{t e:TypeId}{d:DataW K}{k:Nat}(ht:P.underlying t=some (.slice e))(hb:0<P.bytesOf e)(hw:∀n∈d.weights P t,n<=reachBytes)(h:k=0∨∃el sp,d=.slice el sp/\el.length=k):k<=281474976710656:=by
 rcases h with rfl | ⟨el,sp,rfl,rfl⟩
 ·omega
 ·have h1:=hw ((el.length+sp.length)*P.bytesOf e) (by simp[DataW.weights,ht])
  have h2:el.length*1<=(el.length+sp.length)*P.bytesOf e:=Nat.mul_le_mul om hb
  have h3:=reachBytes_lt
  omega
abbrev Pn(P:Program)(T:TypeId->Prop)(t:TypeId):Prop:=∃e,P.underlying t=some (.slice e)/\T e/\0<P.bytesOf e
structure Az(P:Program)(t:TypeId):Prop where
 c:P.cellsOf t=21
 f:∃fs:Array Field,P.underlying t=some (.struct fs)/\Fd P fs 0 0 1 (DQ P .i64)/\Fd P fs 1 1 1 (DQ P .i64)/\Fd P fs 2 2 1 (DQ P .i64)/\Fd P fs 3 3 1 (DQ P .i64)/\Fd P fs 4 4 1 (DQ P .u64) /\
  Fd P fs 5 5 3 (rQ P)/\Fd P fs 6 8 3 (rQ P)/\Fd P fs 7 11 3 (rQ P)/\Fd P fs 8 14 1 (DQ P .i64)/\Fd P fs 9 15 3 (rQ P)/\Fd P fs 10 18 1 (Pn P (Jr P))/\Fd P fs 11 19 1 (Pn P (Jp P))/\Fd P fs 12 20 1 (Pn P (Jn P))
theorem pG{P:Program}{W:World}{t:TypeId}(Y:Az P t){fuel:Nat}{cs:List Value}{x:DataW K×List MemPlace}(hf:DataW.trod enc P W 0 (fun _=>true) true fuel t cs=some x)(hw:∀n∈x.1.weights P t,n<=reachBytes) :
  ∃s vm vb vu,cs.map (je W)=dH s vm vb vu/\fV (·<(ig W).next) (ig W) s vm vb vu/\s.seed<18446744073709551616/\s.ms.length<=281474976710656/\s.bs.length<=281474976710656/\s.us.length<=281474976710656:=by
 obtain⟨fs,hfs,d0,d1,d2,d3,d4,d5,d6,d7,d8,d9,d10,d11,d12⟩:=Y.f
 obtain⟨xs,n,hfu,rfl,hl,hn,hi⟩:=DataW.trod_struct hfs hf
 have hw':∀n∈DataW.weightsEach P (fs.toList.map (·.type)) (xs.map (·.1)),n<=reachBytes:=fun n h=>hw n (by simp only[DataW.weights,hfs]; exact h)
 rw[Y.c]at hl
 obtain⟨c0,c1,c2,c3,c4,c5,c6,c7,c8,c9,M7,c11,LG,LF,LE,LD,LC,BR,LB,LA,vF,rfl⟩:∃c0 c1 c2 c3 c4 c5 c6 c7 c8 c9 M7 c11 LG LF LE LD LC BR LB LA vF,cs=[c0,c1,c2,c3,c4,c5,c6,c7,c8,c9,M7,c11,LG,LF,LE,LD,LC,BR,LB,LA,vF]:=by
  match cs,hl with
  | [c0,c1,c2,c3,c4,c5,c6,c7,c8,c9,M7,c11,LG,LF,LE,LD,LC,BR,LB,LA,vF],_=>exact⟨c0,c1,c2,c3,c4,c5,c6,c7,c8,c9,M7,c11,LG,LF,LE,LD,LC,BR,LB,LA,vF,rfl⟩
 obtain⟨_,y0,g0,t0,x0,f0⟩:=bH d0 hn hi
 obtain⟨_,y1,g1,t1,x1,f1⟩:=bH d1 hn hi
 obtain⟨_,y2,g2,t2,x2,f2⟩:=bH d2 hn hi
 obtain⟨_,y3,g3,t3,x3,f3⟩:=bH d3 hn hi
 obtain⟨_,y4,g4,t4,x4,f4⟩:=bH d4 hn hi
 obtain⟨_,y5,g5,t5,x5,f5⟩:=bH d5 hn hi
 obtain⟨_,y6,g6,t6,x6,f6⟩:=bH d6 hn hi
 obtain⟨_,y7,g7,t7,x7,f7⟩:=bH d7 hn hi
 obtain⟨_,y8,g8,t8,x8,f8⟩:=bH d8 hn hi
 obtain⟨_,y9,g9,t9,x9,f9⟩:=bH d9 hn hi
 obtain⟨_,y10,g10,t10,x10,f10⟩:=bH d10 hn hi
 obtain⟨_,y11,g11,t11,x11,f11⟩:=bH d11 hn hi
 obtain⟨_,y12,g12,t12,x12,f12⟩:=bH d12 hn hi
 obtain⟨z0,e0,_,_⟩:=DataW.trod_int g0 t0
 obtain⟨z1,e1,_,_⟩:=DataW.trod_int g1 t1
 obtain⟨z2,e2,_,_⟩:=DataW.trod_int g2 t2
 obtain⟨z3,e3,_,_⟩:=DataW.trod_int g3 t3
 obtain⟨z8,e8,_,_⟩:=DataW.trod_int g8 t8
 obtain⟨z4,e4,_,w4⟩:=DataW.trod_int g4 t4
 obtain⟨a5,b5,k5,e5⟩:=gA g5 t5
 obtain⟨a6,b6,k6,e6⟩:=gA g6 t6
 obtain⟨a7,b7,k7,e7⟩:=gA g7 t7
 obtain⟨a9,b9,k9,e9⟩:=gA g9 t9
 obtain⟨_,g10,h10,m10⟩:=g10
 obtain⟨v10,k10,C10,e10,l10,q10,j10,u10⟩:=ur g10 h10.c om t10
 obtain⟨_,g11,h11,m11⟩:=g11
 obtain⟨v11,k11,C11,e11,l11,q11,j11,u11⟩:=ur g11 h11.c om t11
 obtain⟨_,g12,h12,m12⟩:=g12
 obtain⟨v12,k12,C12,e12,l12,q12,j12,u12⟩:=ur g12 h12.c om t12
 simp at e0 e1 e2 e3 e4 e5 e6 e7 e8 e9 e10 e11 e12
 obtain⟨e5a,e5b,e5c⟩:=e5
 obtain⟨e6a,e6b,e6c⟩:=e6
 obtain⟨e7a,e7b,e7c⟩:=e7
 obtain⟨e9a,e9b,e9c⟩:=e9
 subst e0 e1 e2 e3 e4 e5a e5b e5c e6a e6b e6c e7a e7b e7c e8 e9a e9b e9c e10 e11 e12
 obtain⟨sd,rfl,hsd⟩:=Kp w4
 obtain⟨L10,n10,r10⟩:=pe (g:=iD) (m:=6) k10 C10 j10 fun i hi=>by
  obtain⟨f,es,y,r1,r2,r3⟩:=u10 i hi
  obtain⟨e,a1⟩:=EA h10 r3
  exact⟨e,by rw[<- r2]; exact a1⟩
 have s10:=yI g10 m10 (fun n h=>hw' n (DataW.weights_mem_each f10 (by rw[List.getElem?_map,x10]; rfl) n h)) l10
 obtain⟨L11,n11,r11⟩:=pe (g:=oz) (m:=5) k11 C11 j11 fun i hi=>by
  obtain⟨f,es,y,r1,r2,r3⟩:=u11 i hi
  obtain⟨e,a1⟩:=Ez h11 r3
  exact⟨e,by rw[<- r2]; exact a1⟩
 have s11:=yI g11 m11 (fun n h=>hw' n (DataW.weights_mem_each f11 (by rw[List.getElem?_map,x11]; rfl) n h)) l11
 obtain⟨L12,n12,r12⟩:=pe (g:=rx) (m:=5) k12 C12 j12 fun i hi=>by
  obtain⟨f,es,y,r1,r2,r3⟩:=u12 i hi
  obtain⟨e,a1⟩:=Ey h12 r3
  exact⟨e,by rw[<- r2]; exact a1⟩
 have s12:=yI g12 m12 (fun n h=>hw' n (DataW.weights_mem_each f12 (by rw[List.getElem?_map,x12]; rfl) n h)) l12
 subst n10 n11 n12 r10 r11 r12
 exact⟨⟨z0,z1,z2,z3,sd,⟨a5,b5,k5⟩,⟨a6,b6,k6⟩,⟨a7,b7,k7⟩,z8,⟨a9,b9,k9⟩,L10,L11,L12⟩,_,_,_,rfl,⟨q10,q11,q12⟩,hsd,s10,s11,s12⟩
theorem ng(W:World):∀(cs:List Value),ah (KI W) (cs.map (je W)) cs
 | []=>rfl
 | c::cs=>⟨_,_,rfl,mX W c,ng W cs⟩
end Go.Proofs.Wo
namespace Go.Proofs
open Go.Shelf
def Tryz.lays156_ren:Go.Shelf.Ren:=⟨fun | 156=>36 | 165=>31 | 166=>32 | 169=>34 | 240=>69 | 241=>70 | 276=>86 | 277=>87 | n=>n,fun | 31=>72 | 9=>9 | 3=>3 | 4=>4 | 0=>0 | 20=>20 | 72=>89 | 76=>93 | 70=>87 | 37=>47 | 75=>92 | 127=>120 | 164=>140 | 5=>5 | 80=>96 | n=>n,fun | n=>n⟩
theorem Tryz.lays156:Go.Proofs.Lays.n156 Tryz.prog Tryz.lays156_ren:={
 mixed:=by kernel_rfl
 f156:=Tryz.func36.trans (congrArg some (by kernel_rfl))
 f165:=Tryz.func31.trans (congrArg some (by kernel_rfl))
 f166:=Tryz.func32.trans (congrArg some (by kernel_rfl))
 f169:=Tryz.func34.trans (congrArg some (by kernel_rfl))
 f240:=Tryz.func69.trans (congrArg some (by kernel_rfl))
 f241:=Tryz.func70.trans (congrArg some (by kernel_rfl))
 f276:=Tryz.func86.trans (congrArg some (by kernel_rfl))
 f277:=Tryz.func87.trans (congrArg some (by kernel_rfl))
 t0:=Tryz.underlying0
 a0:=Tryz.isAgg0
 z0:=Tryz.sizeOf0
 v0:=Tryz.zeroValue0
 t3:=Tryz.underlying3
 a3:=Tryz.isAgg3
 z3:=Tryz.sizeOf3
 v3:=Tryz.zeroValue3
 t4:=Tryz.underlying4
 a4:=Tryz.isAgg4
 z4:=Tryz.sizeOf4
 v4:=Tryz.zeroValue4
 t9:=Tryz.underlying9
 a9:=Tryz.isAgg9
 z9:=Tryz.sizeOf9
 v9:=Tryz.zeroValue9
 t20:=Tryz.underlying20
 a20:=Tryz.isAgg20
 z20:=Tryz.sizeOf20
 v20:=Tryz.zeroValue20
 t31:=Tryz.underlying72
 a31:=Tryz.isAgg72
 z31:=Tryz.sizeOf72
 v31:=Tryz.zeroValue72
 t37:=Tryz.underlying47
 a37:=Tryz.isAgg47
 z37:=Tryz.sizeOf47
 v37:=Tryz.zeroValue47
 t70:=Tryz.underlying87
 a70:=Tryz.isAgg87
 z70:=Tryz.sizeOf87
 v70:=Tryz.zeroValue87
 t72:=Tryz.underlying89
 a72:=Tryz.isAgg89
 z72:=Tryz.sizeOf89
 v72:=Tryz.zeroValue89
 t75:=Tryz.underlying92
 a75:=Tryz.isAgg92
 z75:=Tryz.sizeOf92
 v75:=Tryz.zeroValue92
 t76:=Tryz.underlying93
 a76:=Tryz.isAgg93
 z76:=Tryz.sizeOf93
 v76:=Tryz.zeroValue93
 t127:=Tryz.underlying120
 a127:=Tryz.isAgg120
 z127:=Tryz.sizeOf120
 v127:=Tryz.zeroValue120
 t164:=Tryz.underlying140
 a164:=Tryz.isAgg140
 z164:=Tryz.sizeOf140
 v164:=Tryz.zeroValue140 }
theorem Tryz.Builder_Extra_156:Builder.Extra Tryz.prog Tryz.lays156_ren:={
 sizeBuilder:=by kernel_rfl
 liesBuilder:=by kernel_rfl
 t5:=Tryz.underlying5
 a5:=Tryz.isAgg5
 z5:=Tryz.sizeOf5
 v5:=Tryz.zeroValue5
 infoByte:=by kernel_rfl
 cellsByte:=by kernel_rfl
 sizeByte:=by kernel_rfl
 neB5:=by decide }
open Go.RowKit in
theorem Tryz.strings_Join(bk o c:Nat)(xs:List ByteArray)(sep:ByteArray)(w:World)(hcells:∀(j:Nat) x,xs[j]?=some x->w.cell? ⟨bk,o+j,none⟩=some (.string x))(hbk:bk<w.heap.size)(hN:xs.length<=140737488355328)(hcap:xs.length<=c)(hlen:(Lib.join (xs.map (·.data.toList)) sep.data.toList).length<=140737488355328) :
  Calls Tryz.prog 36 #[.slice (some ⟨bk,o,none⟩) xs.length c,.string sep] w fun e w'=>e=.returned (.string ⟨(Lib.join (xs.map (·.data.toList)) sep.data.toList).toArray⟩)/\Below w.heap.size w w':=Any.strings_Join Tryz.lays156 Tryz.Builder_Extra_156 bk o c xs sep w hcells hbk hN hcap hlen
def Tryz.laysM316_ren:Go.Shelf.Ren:=⟨fun | 316=>95 | n=>n,fun | 9=>9 | 3=>3 | 4=>4 | 37=>47 | 0=>0 | 127=>120 | 5=>5 | n=>n,fun | n=>n⟩
theorem Tryz.laysM316:Go.Proofs.LaysM.n316 Tryz.prog Tryz.laysM316_ren:={
 mixed:=by kernel_rfl
 f316:=Tryz.func95.trans (congrArg some (by kernel_rfl))
 t0:=Tryz.underlying0
 a0:=Tryz.isAgg0
 z0:=Tryz.sizeOf0
 v0:=Tryz.zeroValue0
 t3:=Tryz.underlying3
 a3:=Tryz.isAgg3
 z3:=Tryz.sizeOf3
 v3:=Tryz.zeroValue3
 t4:=Tryz.underlying4
 a4:=Tryz.isAgg4
 z4:=Tryz.sizeOf4
 v4:=Tryz.zeroValue4
 t9:=Tryz.underlying9
 a9:=Tryz.isAgg9
 z9:=Tryz.sizeOf9
 v9:=Tryz.zeroValue9
 t37:=Tryz.underlying47
 a37:=Tryz.isAgg47
 z37:=Tryz.sizeOf47
 v37:=Tryz.zeroValue47
 t127:=Tryz.underlying120
 a127:=Tryz.isAgg120
 z127:=Tryz.sizeOf120
 v127:=Tryz.zeroValue120
 t5:=Tryz.underlying5
 a5:=Tryz.isAgg5
 z5:=Tryz.sizeOf5
 v5:=Tryz.zeroValue5
 i0:=by kernel_rfl
 i3:=by kernel_rfl
 i4:=by kernel_rfl
 i5:=by kernel_rfl
 i9:=by kernel_rfl
 i37:=by kernel_rfl
 i127:=by kernel_rfl }
open Go.RowKit in
theorem Tryz.stringslite_Clone(s:ByteArray)(w:World)(hlim:s.size<=281474976710656) :
  Calls Tryz.prog 95 #[.string s] w fun e w'=>e=.returned (.string s)/\Below w.heap.size w w':=Any.stringslite_Clone Tryz.laysM316 s w hlim
def Tryz.lays105_ren:Go.Shelf.Ren:=⟨fun | 105=>11 | 212=>30 | 99=>12 | 165=>31 | 166=>32 | 170=>33 | 169=>34 | 263=>67 | 264=>68 | 206=>35 | 240=>69 | 241=>70 | 276=>86 | 277=>87 | n=>n,fun | 9=>9 | 3=>3 | 4=>4 | 20=>20 | 0=>0 | 46=>84 | 109=>85 | 5=>5 | 72=>89 | 76=>93 | 51=>115 | 146=>116 | 53=>22 | 148=>118 | 70=>87 | 37=>47 | 75=>92 | 127=>120 | 164=>140 | 80=>96 | n=>n,fun | n=>n⟩
theorem Tryz.lays105:Go.Proofs.Lays.n105 Tryz.prog Tryz.lays105_ren:={
 mixed:=by kernel_rfl
 f99:=Tryz.func12.trans (congrArg some (by kernel_rfl))
 f105:=Tryz.func11.trans (congrArg some (by kernel_rfl))
 f165:=Tryz.func31.trans (congrArg some (by kernel_rfl))
 f166:=Tryz.func32.trans (congrArg some (by kernel_rfl))
 f169:=Tryz.func34.trans (congrArg some (by kernel_rfl))
 f170:=Tryz.func33.trans (congrArg some (by kernel_rfl))
 f206:=Tryz.func35.trans (congrArg some (by kernel_rfl))
 f212:=Tryz.func30.trans (congrArg some (by kernel_rfl))
 f240:=Tryz.func69.trans (congrArg some (by kernel_rfl))
 f241:=Tryz.func70.trans (congrArg some (by kernel_rfl))
 f263:=Tryz.func67.trans (congrArg some (by kernel_rfl))
 f264:=Tryz.func68.trans (congrArg some (by kernel_rfl))
 f276:=Tryz.func86.trans (congrArg some (by kernel_rfl))
 f277:=Tryz.func87.trans (congrArg some (by kernel_rfl))
 t0:=Tryz.underlying0
 a0:=Tryz.isAgg0
 z0:=Tryz.sizeOf0
 v0:=Tryz.zeroValue0
 t3:=Tryz.underlying3
 a3:=Tryz.isAgg3
 z3:=Tryz.sizeOf3
 v3:=Tryz.zeroValue3
 t4:=Tryz.underlying4
 a4:=Tryz.isAgg4
 z4:=Tryz.sizeOf4
 v4:=Tryz.zeroValue4
 t5:=Tryz.underlying5
 a5:=Tryz.isAgg5
 z5:=Tryz.sizeOf5
 v5:=Tryz.zeroValue5
 t9:=Tryz.underlying9
 a9:=Tryz.isAgg9
 z9:=Tryz.sizeOf9
 v9:=Tryz.zeroValue9
 t20:=Tryz.underlying20
 a20:=Tryz.isAgg20
 z20:=Tryz.sizeOf20
 v20:=Tryz.zeroValue20
 t37:=Tryz.underlying47
 a37:=Tryz.isAgg47
 z37:=Tryz.sizeOf47
 v37:=Tryz.zeroValue47
 t46:=Tryz.underlying84
 a46:=Tryz.isAgg84
 z46:=Tryz.sizeOf84
 v46:=Tryz.zeroValue84
 t51:=Tryz.underlying115
 a51:=Tryz.isAgg115
 z51:=Tryz.sizeOf115
 v51:=Tryz.zeroValue115
 t53:=Tryz.underlying22
 a53:=Tryz.isAgg22
 z53:=Tryz.sizeOf22
 v53:=Tryz.zeroValue22
 t70:=Tryz.underlying87
 a70:=Tryz.isAgg87
 z70:=Tryz.sizeOf87
 v70:=Tryz.zeroValue87
 t72:=Tryz.underlying89
 a72:=Tryz.isAgg89
 z72:=Tryz.sizeOf89
 v72:=Tryz.zeroValue89
 t75:=Tryz.underlying92
 a75:=Tryz.isAgg92
 z75:=Tryz.sizeOf92
 v75:=Tryz.zeroValue92
 t76:=Tryz.underlying93
 a76:=Tryz.isAgg93
 z76:=Tryz.sizeOf93
 v76:=Tryz.zeroValue93
 t109:=Tryz.underlying85
 a109:=Tryz.isAgg85
 z109:=Tryz.sizeOf85
 v109:=Tryz.zeroValue85
 t127:=Tryz.underlying120
 a127:=Tryz.isAgg120
 z127:=Tryz.sizeOf120
 v127:=Tryz.zeroValue120
 t146:=Tryz.underlying116
 a146:=Tryz.isAgg116
 z146:=Tryz.sizeOf116
 v146:=Tryz.zeroValue116
 t148:=Tryz.underlying118
 a148:=Tryz.isAgg118
 z148:=Tryz.sizeOf118
 v148:=Tryz.zeroValue118
 t164:=Tryz.underlying140
 a164:=Tryz.isAgg140
 z164:=Tryz.sizeOf140
 v164:=Tryz.zeroValue140 }
theorem Tryz.Builder_Extra_105:Builder.Extra Tryz.prog Tryz.lays105_ren:={
 sizeBuilder:=by kernel_rfl
 liesBuilder:=by kernel_rfl
 t5:=Tryz.underlying5
 a5:=Tryz.isAgg5
 z5:=Tryz.sizeOf5
 v5:=Tryz.zeroValue5
 infoByte:=by kernel_rfl
 cellsByte:=by kernel_rfl
 sizeByte:=by kernel_rfl
 neB5:=by decide }
open Go.RowKit Go.Lib in
theorem Tryz.strings_Repeat(s:ByteArray)(c:Nat)(w:World)(hc:c<=9223372036854775807)(hlen:s.size*c<=140737488355328) :
  Calls Tryz.prog 11 #[.string s,.int .i64 c] w fun e w'=>e=.returned (.string ⟨(Lib.repeatL s.data.toList c).toArray⟩)/\Below w.heap.size w w':=Any.strings_Repeat Tryz.lays105 Tryz.Builder_Extra_105 s c w hc hlen
end Go.Proofs
namespace Go.Proofs.Wo
open Go.Abs Go.Abs.S
theorem sk:∀{xs:List af} {l:List (List UInt8)},lf xs=some l->xs=l.map .str
 | [],l,h=>by simp only[lf,sJ]at h; subst h; rfl
 | x::xs,l,h=>by
  cases x <;> simp only[lf]at h <;> first | (simp at h; done) | skip
  split at h <;> first | (simp at h; done) | skip
  rename_i r hr
  simp only[sJ]at h
  subst h
  rw[List.map_cons,<- sk hr]
theorem AW(s:List UInt8):(aE s).size=s.length:=by simp[aE,ByteArray.size]
theorem Ai{Prot:Gh}{w0:World}{ρ:Pl}{H:ae}{w:World}(R:Rel Prot w0 ρ H w){a:Ad}{n:Nat}{l:List (List UInt8)}(h:aT H a n=some (l.map .str)){L:Go.Abs.Loc}(hL:ρ a.b a.lim=some L)(hs:L.sh<=a.o) :
  l.length=n/\∀(j:Nat) x,(l.map aE)[j]?=some x->w.cell? ⟨L.c,a.o-L.sh+j,none⟩=some (.string x):=by
 obtain⟨C0,low,ro,hg,h1,h2,h3,h4⟩:=jm h
 obtain⟨x,o,hx,ho,hr⟩:=R.obj _ _ _ hL
 rw[hg]at hx
 obtain rfl:=(sJ _ _).mp hx
 simp only[dy]at hr
 obtain⟨C,e,lo,hi,rfl,hsz,hfz,_,hc⟩:=hr
 have hc:=hc h1
 have hl:l.length=n:=by
  have:=congrArg List.length h4
  rw[PI,PO,PN]at this
  omega
 refine⟨hl,fun j x hj=>?_⟩
 have hjl:j<n:=by
  have:=(Ps.1 hj).1
  rw[PI]at this; omega
 obtain⟨y,v,p1,p2,p3⟩:=hc (a.o+j) om om
 rw[List.getElem?_map]at hj
 cases hlj:l[j]? with
 | none=>rw[hlj]at hj; simp at hj
 | some s=>
  rw[hlj]at hj
  simp only[Option.map_some,sJ]at hj
  subst hj
  have e1:(l.map af.str)[j]?=some (.str s):=by rw[List.getElem?_map,hlj]; rfl
  rw[h4,List.getElem?_take_of_lt hjl,List.getElem?_drop,p1]at e1
  simp only[sJ]at e1
  subst e1
  simp only[ag]at p3
  subst p3
  rw[kg ho,<- p2]
  congr 1
  omega
theorem wN(l:List (List UInt8)):(l.map aE).map (·.data.toList)=l:=by
 rw[List.map_map]
 conv=>rhs; rw[<- List.map_id l]
 apply List.map_congr_left
 intro s _
 simp[aE]
theorem OW:bc Tryz.prog 95=true:=by kernel_rfl
theorem OY:bc Tryz.prog 20=true:=by kernel_rfl
theorem OX:bc Tryz.prog 36=true:=by kernel_rfl
theorem OZ:bc Tryz.prog 11=true:=by kernel_rfl
theorem Bn:yp Tryz.prog aG:=by
 refine⟨fun f h=>?_,fun f args H v H' _ hr Prot w0 ρ w vs R hv=>?_⟩
 ·have h':(Nat.beq f 95||(Nat.beq f 20||(Nat.beq f 36||Nat.beq f 11)))=true:=h
  simp only[Bool.or_eq_true]at h'
  rcases h' with h | h | h | h
  ·obtain rfl:f=95:=Py h
   exact OW
  ·obtain rfl:f=20:=Py h
   exact OY
  ·obtain rfl:f=36:=Py h
   exact OX
  ·obtain rfl:f=11:=Py h
   exact OZ
 ·show Calls Tryz.prog f vs w _
  have hr2:(bif Nat.beq f 95 then re H args else bif Nat.beq f 20 then nH H args else bif Nat.beq f 36 then yl H args else bif Nat.beq f 11 then vx H args else none)=some (v,H'):=hr
  cases hb:Nat.beq f 95 with
  | true=>
   obtain rfl:f=95:=Py hb
   rw[hb,cond_true]at hr2
   unfold re at hr2
   split at hr2 <;> first | (simp at hr2; done) | skip
   rename_i s
   cases hl:Nat.ble s.length 281474976710656 with
   | false=>rw[hl]at hr2; simp at hr2
   | true=>
    rw[hl]at hr2
    simp only[cond_true,sJ,pJ]at hr2
    obtain⟨rfl,rfl⟩:=hr2
    simp only[ah,ag]at hv
    obtain⟨v1,r1,e1,rfl,rfl⟩:=hv
    have hvs:vs=#[.string (aE s)]:=Array.toList_inj.1 (by simpa using e1)
    subst hvs
    have:=Px hl
    exact (Tryz.stringslite_Clone (aE s) w (by rw[AW]; exact this)).mono fun e w' ⟨he,hk⟩=>⟨ρ,_,Pl.le_refl _,he,R.keep hk,by simp only[ag]⟩
  | false=>
  rw[hb,cond_false]at hr2
  cases hb2:Nat.beq f 20 with
  | true=>
   obtain rfl:f=20:=Py hb2
   rw[hb2,cond_true]at hr2
   exact C7 hr2 Prot w0 ρ w vs R hv
  | false=>
  rw[hb2,cond_false]at hr2
  cases hb3:Nat.beq f 36 with
  | true=>
   obtain rfl:f=36:=Py hb3
   rw[hb3,cond_true]at hr2
   unfold yl at hr2
   split at hr2 <;> first | (simp at hr2; done) | skip
   rename_i a n r sep
   split at hr2 <;> first | (simp at hr2; done) | skip
   rename_i xs hxs
   split at hr2 <;> first | (simp at hr2; done) | skip
   rename_i l hl
   cases hc:(Nat.ble 2 n&&(Nat.ble n 140737488355328&&Nat.ble (Lib.join l sep).length 140737488355328)) with
   | false=>rw[hc]at hr2; simp at hr2
   | true=>
    rw[hc]at hr2
    simp only[cond_true,sJ,pJ]at hr2
    obtain⟨rfl,rfl⟩:=hr2
    simp only[Pu,Nat.ble_eq]at hc
    simp only[ah]at hv
    obtain⟨v1,r1,e1,hv1,v2,r2,rfl,hv2,rfl⟩:=hv
    obtain⟨L,off,c,q1,q2,rfl,q3,q4⟩:=ci hv1
    simp only[ag]at hv2
    subst hv2
    obtain rfl:=q4 om
    rw[sk hl]at hxs
    obtain⟨t1,t2⟩:=Ai R hxs q1 q2
    have hvs:vs=#[.slice (some ⟨L.c,a.o-L.sh,none⟩) (l.map aE).length c,.string (aE sep)]:=by
     apply Array.toList_inj.1
     rw[e1,PI,t1]
    subst hvs
    have hd:=R.dom _ _ _ q1
    refine (Tryz.strings_Join L.c (a.o-L.sh) c (l.map aE) (aE sep) w t2 hd.2 (by rw[PI]; omega) (by rw[PI]; omega) (by rw[wN]; exact hc.2.2)).mono fun e w' ⟨he,hk⟩=>⟨ρ,_,Pl.le_refl _,he,R.keep hk,?_⟩
    rw[wN]
    simp only[ag,aE]
  | false=>
  rw[hb3,cond_false]at hr2
  cases hb4:Nat.beq f 11 with
  | false=>rw[hb4]at hr2; simp at hr2
  | true=>
   obtain rfl:f=11:=Py hb4
   rw[hb4,cond_true]at hr2
   unfold vx at hr2
   split at hr2 <;> first | (simp at hr2; done) | skip
   rename_i s c
   cases hb:Nat.ble c 9223372036854775807&&Nat.ble (s.length*c) 140737488355328 with
   | false=>rw[hb]at hr2; simp at hr2
   | true=>
    rw[hb]at hr2
    simp only[cond_true,sJ,pJ]at hr2
    obtain⟨rfl,rfl⟩:=hr2
    simp only[Pu,Nat.ble_eq]at hb
    simp only[ah,ag]at hv
    obtain⟨v1,r1,e1,rfl,v2,r2,e2,rfl,rfl⟩:=hv
    have hvs:vs=#[.string (aE s),.int .i64 c]:=by
     apply Array.toList_inj.1
     rw[e1,e2]; rfl
    subst hvs
    refine (Tryz.strings_Repeat (aE s) c w hb.1 (by rw[AW]; exact hb.2)).mono fun e w' ⟨he,hbl⟩=>⟨ρ,_,Pl.le_refl _,he,R.keep hbl,?_⟩
    simp only[ag,aE]
end Go.Proofs.Wo
namespace Go.Abs
open Go.ChangeShapes Go.WideShapes Go.ChangeAt Go.RowKit
section
variable {H:Type} {enc:TypeId×Value->H} {P:Program}
theorem kW{W W':World}{base:Nat}{sp:Nat->Bool}{held:Bool}(hb:Below W.heap.size W W'):∀{ts:List TypeId} {vs:List Value} {ds:List (DataW H)} {ps:List MemPlace},
  DataW.TrodAll enc P W base sp held ts vs ds ps->DataW.TrodAll enc P W' base sp held ts vs ds ps
 | [],[],[],_,h=>h
 | _::_,_::_,_::_,_,⟨p,q,⟨n,h1⟩,h2,e⟩=>by
  refine⟨p,q,⟨n,DataW.trod_carry n _ _ _ h1 fun x hx=>hb.same (DataW.trod_lt n _ _ _ h1 x hx)⟩,kW hb h2,e⟩
theorem pH{W W':World}{sp:Nat->Bool}{gs:List (DataW H)}{q:List MemPlace}(h:DataW.TrodVars enc P W sp [] gs q):DataW.TrodVars enc P W' sp [] gs q:=by
 obtain⟨rfl,rfl⟩:=trodVars_none h
 exact h
theorem wK{f:Func}{s:ChangeSpec}{apart:Bool}{W W':World}{args:Array Value}{ds gs:List (DataW H)}{before:List MemPlace}{tb:TypeId}
  (hl:laidOutB P=true) (hm:mapsRowed P=true)
  (hz:((List.range P.types.size).all fun t=>match P.underlying t with | some (.slice e)=>decide (0<P.cellsOf e) | _=>true)=true)
  (hts:(f.params.toList.all fun t=>decide (t<P.types.size))=true) (hv:s.vars=[])
  (hW:DataW.Whole enc P f.params.toList s.vars apart W args.toList ds gs before)
  (hfn:s.fn H (ds++gs)={ results:=[.lit (.bool true)],args:=ds }) (hr:f.resultTypes=#[tb]) (ht:P.underlying tb=some .bool) (hb:Below W.heap.size W W') :
  s.post enc P f apart true false false W args (.bool true) W':=by
 have hlt:∀p∈before,p.block<W.heap.size:=fun p hp=>hW.lt p hp
 have hW0:=hW
 obtain⟨p,q,hA,hV,rfl,hfz,hnd⟩:=hW
 rw[hv]at hV
 obtain⟨rfl,rfl⟩:=trodVars_none hV
 have hT:∀t∈f.params.toList,t<P.types.size:=fun t ht=>by simpa using List.all_eq_true.1 hts t ht
 refine⟨ds,[],p++[],[],p,[],hW0,?_,?_,?_,World.keptBut_mono (fun x hx=>⟨hx,by simpa using hx⟩) (hb.frame (·∈p++[])),fun h=>by simp at h⟩
 ·rw[hfn,hr]
  exact trodAll_cons_mk (shut_bool ht _) trodAll_mk0
 ·rw[hfn]
  refine kW hb (DataW.TrodAll.respare (kids_rows hl hm) (slices_full_of P hz) hT hA fun x hx=>?_)
  simpa using hlt x (by simpa using hx)
 ·rw[hfn,hv]
  exact pH (W:=W) hV
end
end Go.Abs
namespace Go.Proofs.YtacaginbdjepcaaGreatDoor
open Go.ChangeShapes Go.WideShapes Go.RowKit
open Go.Abs Go.Abs.S Go.Proofs.Wo
theorem own:ownKnob Tryz.prog.godebug=none:=by kernel_rfl
theorem uR{H:Type}{enc:TypeId×Value->H}{P:Program}{w:World}{base:Nat}{spare:Nat->Bool}{held:Bool}{fuel n:Nat}{t e:TypeId}{k:IntKind}{cs:List Value}{p:List MemPlace}{l:List Int}
  (ht:P.underlying t=some (.array n e)) (he:P.underlying e=some (.int k)) (hc:P.cellsOf e=1) (hct:P.cellsOf t=n)
  (h:DataW.trod enc P w base spare held fuel t cs=some (.agg (l.map fun x=>.lit (.int k x)),p)):cs=l.map (.int k):=by
 obtain⟨xs,m,_,hx,hl,hn,hi⟩:=DataW.trod_array ht h
 simp only[pJ,DataW.agg.injEq]at hx
 have hll:l.length=n:=by
  have:=congrArg List.length hx.1
  simp at this; omega
 apply List.ext_getElem?
 intro i
 by_cases hlt:i<n
 ·have h1:=hi i hlt
  rw[hc,Nat.mul_one]at h1
  have hxi:∃x,xs[i]?=some x:=⟨xs[i]'om,Pr _⟩
  obtain⟨x,hxi⟩:=hxi
  rw[hxi]at h1
  obtain⟨y,hy,hyx,_⟩:=DataW.trod_int he h1
  have hli:l[i]?=some (l[i]'om):=Pr _
  have h2:=congrArg (·[i]?) hx.1
  simp only[List.getElem?_map,hxi,hli,Option.map_some,sJ,hyx]at h2
  simp only[DataW.lit.injEq,Lit.int.injEq,true_and]at h2
  have h3:cs[i]?=some (.int k y):=by
   have:=congrArg (·[0]?) hy
   simpa[List.getElem?_take,List.getElem?_drop] using this
  rw[h3,List.getElem?_map,hli,<- h2]
  rfl
 ·rw[PL om,PL (by simp; omega)]
theorem HP{P:Program}{w:World}{n:String}{g:Nat}{cs:Array Value}(hg:P.globalNamed n=some g)(h:w.var? P n=some cs):∃e fz,w.heap[g]?=some (.cells cs e fz):=by
 simp only[World.var?,hg,Option.bind_some]at h
 split at h
 ·rename_i C e fz hC
  simp only[sJ]at h
  subst h
  exact⟨_,_,hC⟩
 ·simp at h
abbrev FU:List (String×DataW Unit):=Rows.sceneLimitsRow.laid
theorem oH{W:World}(h:laidMetH Tryz.prog FU W):nd (ig W) 0 iC/\0<(ig W).next:=by
 have h':laidMet Tryz.prog FU W:=h
 obtain⟨ps,hl,_,_⟩:=h'
 obtain⟨_,_,_,_,_,_,_,_,_,_,hl,_⟩:=hl
 obtain⟨_,_,_,_,_,_,_,_,_,_,hl,_⟩:=hl
 obtain⟨g,t,cs,f,p,q,hg,ht,hv,htr,_,_⟩:=hl
 have e1:some 0=some g:=Eq.trans (by kernel_rfl) hg
 simp only[sJ]at e1
 subst e1
 have e2:some 145=some t:=Eq.trans (by kernel_rfl) ht
 simp only[sJ]at e2
 subst e2
 have hcs:=uR (l:=(List.range 20).map fun i=>((10 ^ i:Nat):Int)) Tryz.underlying145 (k:=.u64) Tryz.underlying22 (by kernel_rfl) (by kernel_rfl) htr
 obtain⟨e,fz,hrow⟩:=HP hg hv
 refine⟨?_,(Array.getElem?_eq_some_iff.1 hrow).1⟩
 unfold nd
 rw[fA]
 unfold p9
 simp only[hrow,hcs]
 rfl
end Go.Proofs.YtacaginbdjepcaaGreatDoor
