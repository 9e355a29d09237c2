/- Part of a proof (VWH VWI VWJ VWK VP0 VB0 VP1 VP2 VP3 S28 VSK VC2 VC3 VD1); no condition. -/
import Derived.Test.YtacaginbdjepcaaGreatDoorProg
import Derived.KernelRfl
import Derived.Test.YtacaginbdjepcaaGreatDoorP7
import Derived.Test.YtacaginbdjepcaaGreatDoorP8
set_option linter.unusedSimpArgs false
set_option linter.unusedVariables false
set_option linter.unnecessarySimpa false
namespace Go.Proofs.Wo
open Go.Abs Go.Abs.S
theorem vi{l:List Nat}(h:∀d∈l,d<=9):gr (l.map (48+·))=cV (eW l):=by
 simp only[gr,cV,eW,List.map_map]
 apply List.map_congr_left
 intro d hd
 have:=h d hd
 have e:(UInt8.ofNat (48+d)).toNat=48+d:=by rw[UInt8.toNat_ofNat']; omega
 simp[e]; omega
theorem xC:∀(k u:Nat),∀d∈pd k u,d<=9
 | 0,_,d,h=>by simp[pd]at h
 | k+1,u,d,h=>by
  rcases List.mem_append.1 h with h | h
  ·exact xC k _ d h
  ·simp at h; omega
structure FN(N:go):Prop where
 (h56:N.is 76=false) (h77:N.is 72=false) (h78:N.is 73=false) (h79:N.is 74=false) (h93:N.is 88=false) (h94:N.is 89=false) (h95:N.is 90=false) (h33:N.is 39=false)
theorem Fw(hN:FN aE){b cap u:Nat}{s:Bs}{H:ae}(hb:td H b cap s)(hbn:b<H.next)(hn1:0<H.next)(G:nO H 0 iL)(hu:u<4294967296)(hf:s.length+10<=cap)(hc:cap<=1000000) :
  an Tryz.prog aE 76 [jK b cap s.length,.int .u64 (u:Int),.int .i64 10] H fun v H'=>v=jK b cap (s++eW (cg u)).length/\td H' b cap (s++eW (cg u))/\H.next<=H'.next/\∀c,c<H.next->c≠b->H'.get c=H.get c:=by
 refine ai hN.h56 LZ rfl ?_
 by_cases c1:u<100
 ·have c1':(u:Int)<100:=om
  have w1:IntKind.i64.wrap (u:Int)=(u:Int):=aR om om
  simp only[Nd,sA,sB,seval,c1',w1]
  refine (kz hN.h77 c1).mono ?_
  rintro v _ ⟨rfl,rfl⟩
  have hl:=pN 9 u om
  obtain⟨H2,m2,b2,n2,k2⟩:=qi hb (za _ (eW (cg u))) (Fg u) (by rw[ke]; omega) hc
  simp only[sA,sB,seval,m2]
  exact⟨by trivial,b2,om,fun c _ hne=>k2 c hne⟩
 ·have c1':¬(u:Int)<100:=om
  obtain⟨H1,m1,r1,n1,k1⟩:=aP H (gr (List.replicate 24 0)) (n:=24) rfl
  have hz:gr (List.replicate 24 0)=[.int .u8 0,.int .u8 0,.int .u8 0,.int .u8 0,.int .u8 0,.int .u8 0,.int .u8 0,.int .u8 0,.int .u8 0,.int .u8 0,.int .u8 0,.int .u8 0,.int .u8 0,.int .u8 0,.int .u8 0,.int .u8 0,.int .u8 0,.int .u8 0,.int .u8 0,.int .u8 0,.int .u8 0,.int .u8 0,.int .u8 0,.int .u8 0]:=rfl
  rw[hz]at m1
  simp only[Nd,sA,sB,seval,c1',m1]
  have G1:nO H1 0 iL:=by unfold nO; rw[k1 0 om]; exact G
  refine (jE hN.h78 hN.h93 hN.h94 hN.h95 (u:=u) om om G1).mono ?_
  rintro v _ ⟨⟨k,rfl,q1,q2,q3⟩,rfl⟩
  have q3:k<10:=Nat.lt_of_not_le fun h=>by have:=Nat.pow_le_pow_right (n:=10) om h; omega
  simp only[sA,sB,seval,nZ (show k+1<=24 by omega) om]
  refine (vI hN.h79 r1 (by simp) (show k+1<=24 by omega) q2 om).mono ?_
  rintro v H2 ⟨r2,n2,k2⟩
  have hB:td H2 H.next 24 (eW (cg u)):=by
   refine⟨_,r2,by rw[fG,od]; simp,?_⟩
   rw[pc _ _ _ (by simp; omega),mD k u q1 q2]
   have e:gr ((cg u).map (48+·))=cV (eW (cg u)):=by
    rw[<- mD k u q1 q2]; exact vi (xC _ _)
   simp only[gr,List.map_append]at e ⊢
   rw[e]
   have:(eW (cg u)).length=(cV (eW (cg u))).length:=by rw[gd]
   rw[this,List.take_left]
  have hlen:(eW (cg u)).length=k+1:=by rw[ke,<- mD k u q1 q2,DG]
  have hb2:td H2 b cap s:=by
   refine hb.same ?_
   rw[k2 b om,k1 b om]
  have hs:=Hn hB om
  obtain⟨H3,m3,b3,n3,k3⟩:=qi hb2 hs (Fg u) om hc
  rw[hlen]at m3
  simp only[sA,sB,seval,nZ (show k+1<=24 by omega) om,m3]
  exact⟨by trivial,b3,om,fun c hc hne=>by rw[k3 c hne,k2 c om,k1 c om]⟩
theorem wE(hN:FN aE){b cap u:Nat}{s:Bs}{H:ae}(hb:td H b cap s)(hbn:b<H.next)(hn1:0<H.next)(G:nO H 0 iL)(hu:u<4294967296)(hf:s.length+10<=cap)(hc:cap<=1000000) :
  an Tryz.prog aE 39 [jK b cap s.length,.int .u64 (u:Int),.int .i64 10] H fun v H'=>v=jK b cap (s++eW (cg u)).length/\td H' b cap (s++eW (cg u))/\H.next<=H'.next/\∀c,c<H.next->c≠b->H'.get c=H.get c:=by
 refine ai hN.h33 MG rfl ?_
 simp only[c39,sA,sB,seval]
 refine (Fw hN hb hbn hn1 G hu hf hc).mono ?_
 rintro v H' ⟨rfl,h⟩
 simp only[sA,sB,seval]
 exact⟨by trivial,h⟩
def Gx(t:bC):bC:=match Hi.body with
 | .seq a (.seq b (.seq c (.seq d _)))=>.seq a (.seq b (.seq c (.seq d t)))
 | x=>x
def Ax:bC:=qG (qG (qG (qG Hi.body)))
theorem HW(hN:FN aE){H0:ae}(hn0:0<H0.next)(G:nO H0 0 iL){sg:Bs}(hsg:sg.length<=1){n:Nat}(hn:n<=9223372036854775808){T:bK}{H:ae}{b:Nat}(hb:td H b 48 sg)(hb0:H0.next<=b)(hbn:b<H.next)(hE:bw H0.next H0 H)
  (g3:T 3=.int .u64 (n:Int)) (g4:T 4=jK b 48 sg.length) :
  wp (an Tryz.prog aE) Ax (gX Hi.res fun v H'=>v=.str (sg++(eW (cg (n / 4294967296))++hJ (n % 4294967296)))/\bw H0.next H0 H') T H:=by
 have e1:=qF .u64 .u64 n (b:=32) dD
 simp only[Int.cast_ofNat_Int,Nat.reducePow]at e1
 have e2:=qc (a:=n) (b:=4294967295) om dD
 have e2':n &&& 4294967295=n % 4294967296:=Nat.and_two_pow_sub_one_eq_mod n 32
 rw[e2']at e2
 simp only[Int.cast_ofNat_Int]at e2
 have hl10:(eW (cg (n / 4294967296))).length<=10:=by rw[ke]; exact pN 9 _ om
 simp only[Ax,qG,Hi,sA,sB,seval,g3,g4,e1]
 refine (wE hN hb hbn (by have:=hE.next; omega) (G.ext hn0 hE) (show n / 4294967296<4294967296 by omega) om om).mono ?_
 rintro v H1 ⟨rfl,hb1,hn1,ho1⟩
 have hE1:bw H0.next H0 H1:=⟨by have:=hE.next; omega,fun c hc=>by rw[ho1 c (by have:=hE.next; omega) om,hE.old c hc]⟩
 have hr:n % 4294967296<4294967296:=om
 generalize n % 4294967296=r at *
 generalize eW (cg (n / 4294967296))=w at *
 have hbn1:b<H1.next:=om
 clear hb hbn hE ho1 hn1
 by_cases hr0:r=0
 ·subst hr0
  have hbs:=yB hb1 (by simp; omega)
  simp only[sA,sB,seval,g3,e2,hbs]
  exact⟨by simp[hJ],hE1⟩
 ·have hz:¬((r:Nat):Int)=0:=om
  have ht:hJ r=[46]++eW (iq 32 r):=by rw[hJ,if_neg hr0]; rfl
  rw[ht]
  have hb2:td (H1.push (.cells [.int .u8 46] 0 false)) b 48 (sg++w):=hb1.same (aS hbn1)
  obtain⟨H2,m2,b2,n2,k2⟩:=qi hb2 (x:=[46]) (IV H1 (.int .u8 46)) (by simp) (by simp; omega) om
  have hE2:bw H0.next H0 H2:=⟨by rw[n2,aN]; have:=hE1.next; omega,fun c hc=>by rw[k2 c om,aS (by have:=hE1.next; omega),hE1.old c hc]⟩
  have hbn2:b<H2.next:=by rw[n2,aN]; omega
  simp only[sA,sB,seval,g3,e2,hz,yA _ _ (x:=.int .u8 46) rfl,m2]
  refine bL (fun q (T:bK) H'=>∃(x:Nat) (acc:Bs),q<=32/\x<4294967296/\2 ^ (32-q) ∣ x/\acc.length+q<=44/\T 5=.int .u64 (x:Int)/\T 4=jK b 48 acc.length/\td H' b 48 acc/\b<H'.next/\acc++eW (iq q x)=sg++(w++([46]++eW (iq 32 r)))/\bw H0.next H0 H') 32
   ⟨r,sg++w++[46],Nat.le_refl _,hr,by simp,by simp; omega,by simp only[sA,sB,seval],by simp only[sA,sB,seval],b2,hbn2,by simp,hE2⟩ ?_
  clear g3 g4 hb1 hb2 b2 m2 n2 k2 hE1 hE2 hbn1 hbn2 T H H1 H2 e1 e2 hz
  rintro q T H1 ⟨x,acc,hq,hx,hdv,hal,g5,g4,hb1,hbn1,hA,hE1⟩
  by_cases hx0:x=0
  ·subst hx0
   have hf:iq q 0=[]:=by cases q <;> simp[iq]
   rw[hf]at hA
   simp only[eW,List.map_nil,List.append_nil]at hA
   have hbs:=yB hb1 om
   simp only[sA,sB,seval,g4,g5,hbs,Int.cast_ofNat_Int]
   exact⟨by rw[hA]; rfl,hE1⟩
  ·obtain⟨k',rfl,hf,hdv'⟩:=BZ hq hx hdv hx0
   have hz:¬((x:Nat):Int)=0:=om
   have w1:IntKind.u64.wrap ((x:Int)*10)=((x*10:Nat):Int):=by rw[F8 om om]; omega
   have e1:=qF .u64 .u64 (x*10) (b:=32) dD
   simp only[Int.cast_ofNat_Int,Nat.reducePow]at e1
   have e2:=qc (a:=x*10) (b:=4294967295) om dD
   have e2':x*10 &&& 4294967295=x*10 % 4294967296:=Nat.and_two_pow_sub_one_eq_mod (x*10) 32
   rw[e2']at e2
   simp only[Int.cast_ofNat_Int]at e2
   have w4:IntKind.u8.wrap ((x*10 / 4294967296:Nat):Int)=((x*10 / 4294967296:Nat):Int):=dz om om
   have w5:IntKind.u8.wrap (48+((x*10 / 4294967296:Nat):Int))=((48+x*10 / 4294967296:Nat):Int):=by rw[dz om om]; omega
   have hd:x*10 / 4294967296<10:=om
   have hu:(UInt8.ofNat (48+x*10 / 4294967296)).toNat=48+x*10 / 4294967296:=by rw[UInt8.toNat_ofNat']; omega
   have hb2:td (H1.push (.cells [.int .u8 ((48+x*10 / 4294967296:Nat):Int)] 0 false)) b 48 acc:=hb1.same (aS hbn1)
   have hsrc:=IV H1 (.int .u8 ((48+x*10 / 4294967296:Nat):Int))
   have hby:[af.int .u8 ((48+x*10 / 4294967296:Nat):Int)]=cV [UInt8.ofNat (48+x*10 / 4294967296)]:=by simp only[cV,List.map_cons,List.map_nil,hu]
   obtain⟨H2,m2,b2,n2,k2⟩:=qi hb2 (x:=[UInt8.ofNat (48+x*10 / 4294967296)]) (by rw[<- hby]; exact hsrc) (by simp) (by simp; omega) om
   have hE2:bw H0.next H0 H2:=⟨by rw[n2,aN]; have:=hE1.next; omega,fun c hc=>by rw[k2 c om,aS (by have:=hE1.next; omega),hE1.old c hc]⟩
   simp only[sA,sB,seval,g4,g5,hz,w1,e1,e2,w4,w5,yA _ _ (x:=.int .u8 ((48+x*10 / 4294967296:Nat):Int)) rfl,m2]
   refine⟨k',om,x*10 % 4294967296,_,om,om,hdv',?_,by trivial,rfl,b2,by rw[n2,aN]; omega,?_,hE2⟩
   ·simp; omega
   ·refine Eq.trans ?_ hA
    rw[hf]; simp[eW]
theorem hZ(hN:FN aE)(h9:aE.is 17=false){n:Int}(h1:-9223372036854775808<=n)(h2:n<=9223372036854775807){H:ae}(hn:0<H.next)(G:nO H 0 iL) :
  an Tryz.prog aE 17 [.int .i64 n] H fun v H'=>v=.str (aC n)/\bw H.next H H':=by
 refine ai h9 MV rfl ?_
 have hsz:n.natAbs<=9223372036854775808:=om
 obtain⟨H1,m1,b1,n1,k1⟩:=EZ (H:=H) (.int .u8 0) 48 om
 simp only[Int.cast_ofNat_Int]at m1
 have hE1:bw H.next H H1:=bw.of_new n1 k1 rL
 by_cases hneg:n<0
 ·have w1:IntKind.u64.wrap n=n+18446744073709551616:=by rw[IntKind.wrap_u64]; omega
  have w2:IntKind.u64.wrap (0-(n+18446744073709551616))=(n.natAbs:Int):=by rw[IntKind.wrap_u64]; omega
  have hd:aC n=[45]++(eW (cg (n.natAbs / 4294967296))++hJ (n.natAbs % 4294967296)):=by rw[aC,if_pos hneg]
  rw[hd]
  have hb2:td (H1.push (.cells [.int .u8 45] 0 false)) H.next 48 []:=b1.same (aS om)
  obtain⟨H2,m2,b2,n2,k2⟩:=qi hb2 (x:=[45]) (IV H1 (.int .u8 45)) (by simp) (by simp) om
  simp only[NE]at m2
  have hE2:bw H.next H H2:=⟨by rw[n2,aN]; omega,fun c hc=>by rw[k2 c om,aS om,hE1.old c hc]⟩
  have t:=fun (T:bK) g3 g4=>HW hN (H0:=H) hn G (sg:=[45]) (by simp) (n:=n.natAbs) hsz (T:=T) (H:=H2) (b:=H.next) b2 rL (by rw[n2,aN]; omega) hE2 g3 g4
  show wp _ (Gx Ax) (gX Hi.res _) _ _
  simp only[Gx,Hi,sA,sB,seval,hneg,w1,C4,w2,m1,yA _ _ (x:=.int .u8 45) rfl,m2]
  refine t _ ?_ ?_ <;> simp only[sA,sB,seval] <;> rfl
 ·have w1:IntKind.u64.wrap n=(n.natAbs:Int):=by rw[IntKind.wrap_u64]; omega
  have hd:aC n=[]++(eW (cg (n.natAbs / 4294967296))++hJ (n.natAbs % 4294967296)):=by rw[aC,if_neg hneg]
  rw[hd]
  have t:=fun (T:bK) g3 g4=>HW hN (H0:=H) hn G (sg:=[]) (by simp) (n:=n.natAbs) hsz (T:=T) (H:=H1) (b:=H.next) b1 rL om hE1 g3 g4
  show wp _ (Gx Ax) (gX Hi.res _) _ _
  simp only[Gx,Hi,sA,sB,seval,hneg,w1,m1]
  refine t _ ?_ ?_ <;> simp only[sA,sB,seval] <;> rfl
open Go.Abs Go.Abs.S
def sub(s:Bs)(i e:Nat):Bs:=(s.drop i).take (e-i)
def fJ(e line:Nat):List af:=[.int .i64 (e:Int),.int .i64 (line:Int)]
open Go.Abs Go.Abs.S
theorem gF(e l:Nat):(fJ e l).all af.one=true:=rfl
open Go.Abs Go.Abs.S
end Go.Proofs.Wo
namespace Go.Proofs.Wo
open Go.Abs Go.Abs.S
structure Vc where
 x:Int
 y:Int
 z:Int
structure Mt where
 k:Nat
 c:Vc
 sh:Bs
 tx:Bs
structure Rd where
 c:Vc
 r:Int
 m:Int
structure Us where
 n:Bs
 p:Vc
 m:Int
structure Sc where
 w:Int
 h:Int
 sm:Int
 bo:Int
 seed:Nat
 eye:Vc
 at_:Vc
 up:Vc
 wide:Int
 sky:Vc
 ms:List Mt
 bs:List Rd
 us:List Us
def bY:Sc:=⟨0,0,1,2,0,⟨0,0,-17179869184⟩,⟨0,0,0⟩,⟨0,4294967296,0⟩,4294967296,⟨0,0,0⟩,[],[],[]⟩
def kY(n lo hi:Int):Bool:=decide (lo<=n)&&decide (n<=hi)
def wS(v:Vc)(lo hi:Int):Bool:=kY v.x lo hi&&(kY v.y lo hi&&kY v.z lo hi)
def gT(v:Vc):Bool:=wS v (-42949672960000) 42949672960000
def lL(b:UInt8):Bool:=((decide (97<=b.toNat)&&decide (b.toNat<=122))||(decide (65<=b.toNat)&&decide (b.toNat<=90)))||((decide (48<=b.toNat)&&decide (b.toNat<=57))||(decide (b.toNat=95)||(decide (b.toNat=45)||decide (b.toNat=46))))
def fg(s:Bs):Bool:=decide (1<=s.length)&&(decide (s.length<=40)&&s.all lL)
def KG(v:Vc):Bool:=decide (v.x=0)&&(decide (v.y=0)&&decide (v.z=0))
def im(m:Mt):Bool:=
 if m.k=1∨m.k=2 then decide (m.sh=[])&&(decide (m.tx=[])&&wS m.c 0 4294967296)
 else if m.k=3 then decide (m.sh=[])&&(decide (m.tx=[])&&wS m.c 0 274877906944)
 else if m.k=4 then KG m.c&&(fg m.sh&&(decide (m.tx=[])||fg m.tx))
 else false
def mz(b:Rd):Bool:=gT b.c&&(decide (0<b.r)&&decide (b.r<=42949672960000))
def jm(u:Us):Bool:=fg u.n&&gT u.p
def kj(n:Nat)(m:Int):Bool:=decide (0<=m)&&decide (m<n)
def mZ(s:Sc):Bool:=s.bs.all (fun b=>kj s.ms.length b.m)&&s.us.all (fun u=>kj s.ms.length u.m)
def ng(n:Int):Bool:=decide (0<n)&&decide (n<=429496729600)
def Ae(s:Sc):Bool:=kY s.w 1 1024&&(kY s.h 1 1024&&(kY s.sm 1 64&&(kY s.bo 0 8&&(gT s.eye&&(gT s.at_&&(gT s.up&&(ng s.wide&&(wS s.sky 0 274877906944&&(decide (s.ms.length<=64)&&(decide (s.bs.length<=256)&&decide (s.us.length<=16)))))))))))
def kP(s:Sc):Bool:=Ae s&&(s.ms.all im&&(s.bs.all mz&&(s.us.all jm&&mZ s)))
def fX(s:Bs):Option Int:=match s with
 | 45::r=>(fA r).map fun (n:Nat)=>-(n:Int)
 | s=>(fA s).map fun (n:Nat)=>(n:Int)
def iG(l:List Bs):Option Vc:=match l with
 | [a,b,c]=>match fX a with
  | none=>none
  | some x=>match fX b with
   | none=>none
   | some y=>match fX c with
    | none=>none
    | some z=>some ⟨x,y,z⟩
 | _=>none
def ga(s:Bs):Option Nat:=if s≠[]/\s.all fr=true then some (cR s) else none
def fk(lo hi:Nat)(s:Bs):Option Int:=match ga s with
 | some n=>if lo<=n/\n<=hi then some (n:Int) else none
 | none=>none
def kD(s:Bs):Option Int:=fk 0 1073741824 s
def dr:List Bs:=[[115,105,122,101],[115,97,109,112,108,101,115],[98,111,117,110,99,101,115],[115,101,101,100],[101,121,101],[97,116],[117,112],[119,105,100,101],[115,107,121]]
def di:List Bs:=[[100,105,102,102,117,115,101],[109,105,114,114,111,114],[103,108,111,119],[115,104,97,100,101,114],[98,97,108,108],[109,101,115,104]]
def lT(l:List Bs):Option Vc:=match iG l with
 | some v=>if gT v=true then some v else none
 | none=>none
def cS(i:Nat)(s:Sc)(l:List Bs):Option Sc:=match i with
 | 0=>match l with
  | [a,b]=>match fk 1 1024 a with
   | none=>none
   | some x=>match fk 1 1024 b with
    | none=>none
    | some y=>some { s with w:=x,h:=y }
  | _=>none
 | 1=>match l with
  | [a]=>(fk 1 64 a).map fun x=>{ s with sm:=x }
  | _=>none
 | 2=>match l with
  | [a]=>(fk 0 8 a).map fun x=>{ s with bo:=x }
  | _=>none
 | 3=>match l with
  | [a]=>match ga a with
   | some n=>if n<18446744073709551616 then some { s with seed:=n } else none
   | none=>none
  | _=>none
 | 4=>(lT l).map fun v=>{ s with eye:=v }
 | 5=>(lT l).map fun v=>{ s with at_:=v }
 | 6=>(lT l).map fun v=>{ s with up:=v }
 | 7=>match l with
  | [a]=>match fX a with
   | some n=>if ng n=true then some { s with wide:=n } else none
   | none=>none
  | _=>none
 | _=>match iG l with
  | some v=>if wS v 0 274877906944=true then some { s with sky:=v } else none
  | none=>none
def l9(s:Sc)(m:Mt):Option Sc:=if im m=true/\s.ms.length+1<=64 then some { s with ms:=s.ms++[m] } else none
def IZ(l:List Bs):Mt:=match l with
 | [a]=>⟨4,⟨0,0,0⟩,a,[]⟩
 | [a,b]=>⟨4,⟨0,0,0⟩,a,b⟩
 | _=>⟨4,⟨0,0,0⟩,[],[]⟩
def lZ(l:List Bs):Option Rd:=match l with
 | [a,b,c,r,m]=>match iG [a,b,c] with
  | none=>none
  | some v=>match fX r with
   | none=>none
   | some r=>match kD m with
    | none=>none
    | some m=>some ⟨v,r,m⟩
 | _=>none
def ux(l:List Bs):Option Us:=match l with
 | [n,a,b,c,m]=>match iG [a,b,c] with
  | none=>none
  | some v=>match kD m with
   | none=>none
   | some m=>some ⟨n,v,m⟩
 | _=>none
def cQ(i:Nat)(s:Sc)(l:List Bs):Option Sc:=match i with
 | 0=>(iG l).bind fun v=>l9 s ⟨1,v,[],[]⟩
 | 1=>(iG l).bind fun v=>l9 s ⟨2,v,[],[]⟩
 | 2=>(iG l).bind fun v=>l9 s ⟨3,v,[],[]⟩
 | 3=>l9 s (IZ l)
 | 4=>(lZ l).bind fun b=>if mz b=true/\s.bs.length+1<=256 then some { s with bs:=s.bs++[b] } else none
 | _=>(ux l).bind fun u=>if jm u=true/\s.us.length+1<=16 then some { s with us:=s.us++[u] } else none
abbrev PS:=Sc×List Nat
abbrev Nw:=Nat×Nat
def um(s:PS)(ws:List Bs):Option PS:=match ws with
 | []=>some s
 | k::l=>
  let i:=dr.idxOf k
  if i<9 then (if i∈s.2 then none else (cS i s.1 l).map fun c=>(c,i::s.2))
  else
   let j:=di.idxOf k
   if j<6 then (cQ j s.1 l).map fun c=>(c,s.2) else none
def bk(c:UInt8):Bool:=decide (c.toNat=9)||(decide (c.toNat=13)||decide (c.toNat=32))
def fl:Bs->Bs->List Bs
 | cur,[]=>if cur=[] then [] else [cur]
 | cur,c::r=>if bk c=true then (if cur=[] then fl [] r else cur::fl [] r) else fl (cur++[c]) r
def mE(c:UInt8):Bool:=!decide (c.toNat=35)
def jl(l:Bs):List Bs:=fl [] (l.takeWhile mE)
def sp:Bs->Bs->List Bs
 | cur,[]=>[cur]
 | cur,c::r=>if c.toNat=10 then cur::sp [] r else sp (cur++[c]) r
def Ah:PS->Nat->List Bs->Except Nat PS
 | s,_,[]=>.ok s
 | s,n,l::r=>match um s (jl l) with
  | none=>.error n
  | some s'=>Ah s' (n+1) r
def yk(s:PS):Except Nw Sc:=if 0∈s.2/\mZ s.1=true then .ok s.1 else .error (130,0)
def aX(t:Bs):Except Nw Sc:=
 if 16384<t.length then .error (3,0)
 else match Ah (bY,[]) 1 (sp [] t) with
  | .error n=>.error (130,n)
  | .ok s=>yk s
def ct:List Bs->Bs
 | []=>[]
 | [a]=>a
 | a::l=>a++32::ct l
def aY(l:List Bs):Bs:=ct l++[10]
def fF(v:Vc):Bs:=aC v.x++32::(aC v.y++32::aC v.z)
def du(n:Int):Bs:=eW (cg n.toNat)
def eK(i:Nat):Bs:=dr.getD i []
def gQ(i:Nat):Bs:=di.getD i []
def ef(m:Mt):Bs:=match m.k with
 | 1=>aY [gQ 0,fF m.c]
 | 2=>aY [gQ 1,fF m.c]
 | 3=>aY [gQ 2,fF m.c]
 | 4=>if m.tx=[] then aY [gQ 3,m.sh] else aY [gQ 3,m.sh,m.tx]
 | _=>[]
def gA(b:Rd):Bs:=aY [gQ 4,fF b.c,aC b.r,du b.m]
def lg(u:Us):Bs:=aY [gQ 5,u.n,fF u.p,du u.m]
def gz(s:Sc):Bs:=aY [eK 0,du s.w,du s.h]++(aY [eK 1,du s.sm]++(aY [eK 2,du s.bo]++(aY [eK 3,eW (cg s.seed)]++(aY [eK 4,fF s.eye]++(aY [eK 5,fF s.at_]++(aY [eK 6,fF s.up]++(aY [eK 7,aC s.wide]++aY [eK 8,fF s.sky])))))))
def eO(s:Sc):Bs:=gz s++(s.ms.flatMap ef++(s.bs.flatMap gA++s.us.flatMap lg))
def gO(s:Sc):Bs×Nat:=if kP s=true then (if 16384<(eO s).length then ([],3) else (eO s,0)) else ([],130)
open Go.Abs Go.Abs.S
theorem uJ{p:UInt8->Bool}{l r:Bs}(h:∀c∈l,p c=true)(hr:r=[]∨∃c t,r=c::t/\p c=false):(l++r).takeWhile p=l:=by
 rw[List.takeWhile_append_of_pos h]
 rcases hr with rfl | ⟨c,t,rfl,hc⟩
 ·simp
 ·rw[List.takeWhile_cons_of_neg (by simp[hc])]; simp
open Go.Abs Go.Abs.S
theorem GF{s:Bs}(h:∀r,s≠45::r):fX s=(fA s).map fun (n:Nat)=>(n:Int):=by
 unfold fX
 split
 ·rename_i r; exact absurd rfl (h r)
 ·rfl
def Gb(c:UInt8):Bool:=!bk c&&(!decide (c.toNat=35)&&!decide (c.toNat=10))
def HI(s:Bs):Prop:=s≠[]/\∀c∈s,Gb c=true
theorem CH{c:UInt8}(h:Gb c=true):bk c=false:=by simp only[Gb,NC,Bool.not_eq_true']at h; exact h.1
theorem yN{c:UInt8}(h:Gb c=true):mE c=true:=by simp only[Gb,NC]at h; exact h.2.1
theorem CG{c:UInt8}(h:Gb c=true):c.toNat≠10:=by simp only[Gb,NC,Bool.not_eq_true',decide_eq_false_iff_not]at h; exact h.2.2
theorem tM:∀{s:Bs} (cur r:Bs),(∀c∈s,bk c=false)->fl cur (s++r)=fl (cur++s) r
 | [],cur,r,_=>by rw[List.append_nil]; rfl
 | c::s,cur,r,h=>by
  show fl cur (c::(s++r))=_
  rw[fl,if_neg (by rw[h c (by simp)]; simp),tM _ _ (fun c hc=>h c (by simp[hc]))]
  simp
theorem Jz{s:Bs}(hs:HI s):fl [] s=[s]:=by
 have:=tM (s:=s) [] [] (fun c hc=>CH (hs.2 c hc))
 rw[List.append_nil,List.nil_append]at this
 rw[this,fl,if_neg hs.1]
theorem An:∀{l:List Bs},(∀s∈l,HI s)->fl [] (ct l)=l
 | [],_=>rfl
 | [a],h=>Jz (h a (by simp))
 | a::b::l,h=>by
  have ha:=h a (by simp)
  show fl [] (a++32::ct (b::l))=_
  rw[tM _ _ (fun c hc=>CH (ha.2 c hc)),List.nil_append,fl,if_pos dD,if_neg ha.1,An (fun s hs=>h s (by simp[hs]))]
theorem oe:∀{l:List Bs},(∀s∈l,HI s)->∀c∈ct l,mE c=true/\c.toNat≠10
 | [],_,c,hc=>by simp[ct]at hc
 | [a],h,c,hc=>⟨yN ((h a (by simp)).2 c hc),CG ((h a (by simp)).2 c hc)⟩
 | a::b::l,h,c,hc=>by
  have hc':c∈a++32::ct (b::l):=hc
  rcases List.mem_append.1 hc' with hc | hc
  ·exact⟨yN ((h a (by simp)).2 c hc),CG ((h a (by simp)).2 c hc)⟩
  rcases List.mem_cons.1 hc with rfl | hc
  ·exact⟨by decide,by decide⟩
  ·exact oe (fun s hs=>h s (by simp[hs])) c hc
theorem oK{l:List Bs}(h:∀s∈l,HI s):jl (ct l)=l:=by
 rw[jl]
 have:(ct l).takeWhile mE=ct l:=by
  have:=uJ (l:=ct l) (r:=[]) (fun c hc=>(oe h c hc).1) (.inl rfl)
  rwa [List.append_nil]at this
 rw[this,An h]
theorem tk:∀(s cur r:Bs),(∀c∈s,c.toNat≠10)->sp cur (s++10::r)=(cur++s)::sp [] r
 | [],cur,r,_=>by
  show sp cur (10::r)=_
  rw[sp,if_pos dD,List.append_nil]
 | c::s,cur,r,h=>by
  show sp cur (c::(s++10::r))=_
  rw[sp,if_neg (h c (by simp)),tk s _ r (fun c hc=>h c (by simp[hc]))]
  simp
def FU(s:PS)(n:Nat)(t:Bs):Except Nat PS:=Ah s n (sp [] t)
theorem ip{s s':PS}{n:Nat}{ws:List Bs}{r:Bs}(h:∀w∈ws,HI w)(hd:um s ws=some s'):FU s n (aY ws++r)=FU s' (n+1) r:=by
 have e:aY ws++r=ct ws++10::r:=by rw[aY,NM]; rfl
 rw[FU,e,tk _ _ _ (fun c hc=>(oe h c hc).2),List.nil_append,Ah,oK h,hd]
 rfl
theorem tR(i:Nat)(hi:i<6)(s:PS)(l:List Bs):um s (gQ i::l)=(cQ i s.1 l).map fun c=>(c,s.2):=by
 have h:¬dr.idxOf (gQ i)<9/\di.idxOf (gQ i)=i:=by
  have:∀i:Fin 6,¬dr.idxOf (gQ i.1)<9/\di.idxOf (gQ i.1)=i.1:=by decide
  exact this ⟨i,hi⟩
 simp only[um,h.2,if_neg h.1,if_pos hi]
open Go.Abs Go.Abs.S
theorem xW{n lo hi:Int}:kY n lo hi=true↔lo<=n/\n<=hi:=by simp only[kY,NC,NL]
theorem GX{v:Vc}{lo hi:Int}:wS v lo hi=true↔(lo<=v.x/\v.x<=hi)/\(lo<=v.y/\v.y<=hi)/\(lo<=v.z/\v.z<=hi):=by simp only[wS,NC,xW]
theorem Af{n:Nat}{m:Int}:kj n m=true↔0<=m/\m<n:=by simp only[kj,NC,NL]
open Go.Abs Go.Abs.S
structure Be(s:PS):Prop where
 wh:0∈s.2->kY s.1.w 1 1024=true/\kY s.1.h 1 1024=true
 sm:kY s.1.sm 1 64=true
 bo:kY s.1.bo 0 8=true
 seed:s.1.seed<18446744073709551616
 eye:gT s.1.eye=true
 at_:gT s.1.at_=true
 up:gT s.1.up=true
 wide:ng s.1.wide=true
 sky:wS s.1.sky 0 274877906944=true
 ms:s.1.ms.all im=true
 msl:s.1.ms.length<=64
 bs:s.1.bs.all mz=true
 bsl:s.1.bs.length<=256
 us:s.1.us.all jm=true
 usl:s.1.us.length<=16
theorem KI:Be (bY,[]):=⟨fun h=>by simp at h,by decide,by decide,by decide,by decide,by decide,by decide,by decide,by decide,rfl,by decide,rfl,by decide,rfl,by decide⟩
theorem JH{lo hi:Nat}{s:Bs}{n:Int}(h:fk lo hi s=some n):kY n lo hi=true:=by
 unfold fk at h
 split at h <;> first | (simp at h; done) | skip
 split at h <;> first | (simp at h; done) | skip
 rename_i h1
 simp only[sJ]at h
 subst h
 rw[xW]; omega
theorem ou{lo hi:Nat}{s:Bs}{n lo' hi':Int}(h:fk lo hi s=some n)(e1:(lo:Int)=lo')(e2:(hi:Int)=hi'):kY n lo' hi'=true:=by subst e1 e2; exact JH h
theorem pK{l:List Bs}{v:Vc}(h:lT l=some v):gT v=true:=by
 unfold lT at h
 split at h <;> first | (simp at h; done) | skip
 split at h <;> first | (simp at h; done) | skip
 simp only[sJ]at h
 subst h; assumption
theorem jx{i:Nat}{l:List Nat}(hi:i≠0)(h:0∈i::l):0∈l:=by
 rcases List.mem_cons.1 h with h | h
 ·omega
 ·exact h
theorem Jo{i:Nat}{s:PS}{l:List Bs}{c:Sc}(hi:i<9)(I:Be s)(h:cS i s.1 l=some c):Be (c,i::s.2):=by
 rcases i with _ | _ | _ | _ | _ | _ | _ | _ | _ | i
 ·simp only[cS]at h
  split at h <;> first | (simp at h; done) | skip
  split at h <;> first | (simp at h; done) | skip
  rename_i x hx
  split at h <;> first | (simp at h; done) | skip
  rename_i y hy
  simp only[sJ]at h
  subst h
  exact { I with wh:=fun _=>⟨ou hx rfl rfl,ou hy rfl rfl⟩ }
 ·simp only[cS]at h
  split at h <;> first | (simp at h; done) | skip
  obtain⟨x,hx,rfl⟩:=Option.map_eq_some_iff.1 h
  exact { I with wh:=fun h=>I.wh (jx dD h),sm:=ou hx rfl rfl }
 ·simp only[cS]at h
  split at h <;> first | (simp at h; done) | skip
  obtain⟨x,hx,rfl⟩:=Option.map_eq_some_iff.1 h
  exact { I with wh:=fun h=>I.wh (jx dD h),bo:=ou hx rfl rfl }
 ·simp only[cS]at h
  split at h <;> first | (simp at h; done) | skip
  split at h <;> first | (simp at h; done) | skip
  split at h <;> first | (simp at h; done) | skip
  rename_i hn
  simp only[sJ]at h
  subst h
  exact { I with wh:=fun h=>I.wh (jx dD h),seed:=hn }
 ·obtain⟨x,hx,rfl⟩:=Option.map_eq_some_iff.1 h
  exact { I with wh:=fun h=>I.wh (jx dD h),eye:=pK hx }
 ·obtain⟨x,hx,rfl⟩:=Option.map_eq_some_iff.1 h
  exact { I with wh:=fun h=>I.wh (jx dD h),at_:=pK hx }
 ·obtain⟨x,hx,rfl⟩:=Option.map_eq_some_iff.1 h
  exact { I with wh:=fun h=>I.wh (jx dD h),up:=pK hx }
 ·simp only[cS]at h
  split at h <;> first | (simp at h; done) | skip
  split at h <;> first | (simp at h; done) | skip
  split at h <;> first | (simp at h; done) | skip
  rename_i hn
  simp only[sJ]at h
  subst h
  exact { I with wh:=fun h=>I.wh (jx dD h),wide:=hn }
 ·simp only[cS]at h
  split at h <;> first | (simp at h; done) | skip
  split at h <;> first | (simp at h; done) | skip
  rename_i hn
  simp only[sJ]at h
  subst h
  exact { I with wh:=fun h=>I.wh (jx dD h),sky:=hn }
 ·omega
theorem qj{α:Type}{p:α->Bool}{l:List α}{x:α}(h:l.all p=true)(hx:p x=true):(l++[x]).all p=true:=by
 rw[List.all_append,h,Bool.true_and]; simp[hx]
theorem og{s:PS}{m:Mt}{c:Sc}(I:Be s)(h:l9 s.1 m=some c):Be (c,s.2):=by
 unfold l9 at h
 split at h <;> first | (simp at h; done) | skip
 rename_i hm
 simp only[sJ]at h
 subst h
 exact { I with ms:=qj I.ms hm.1,msl:=by simp only[lA,ND,NE]; omega }
theorem GW{i:Nat}{s:PS}{l:List Bs}{c:Sc}(I:Be s)(h:cQ i s.1 l=some c):Be (c,s.2):=by
 rcases i with _ | _ | _ | _ | _ | i
 ·obtain⟨v,_,h⟩:=Option.bind_eq_some_iff.1 h; exact og I h
 ·obtain⟨v,_,h⟩:=Option.bind_eq_some_iff.1 h; exact og I h
 ·obtain⟨v,_,h⟩:=Option.bind_eq_some_iff.1 h; exact og I h
 ·exact og I h
 ·obtain⟨v,_,h⟩:=Option.bind_eq_some_iff.1 h
  split at h <;> first | (simp at h; done) | skip
  rename_i hm
  simp only[sJ]at h
  subst h
  exact { I with bs:=qj I.bs hm.1,bsl:=by simp only[lA,ND,NE]; omega }
 ·obtain⟨v,_,h⟩:=Option.bind_eq_some_iff.1 h
  split at h <;> first | (simp at h; done) | skip
  rename_i hm
  simp only[sJ]at h
  subst h
  exact { I with us:=qj I.us hm.1,usl:=by simp only[lA,ND,NE]; omega }
theorem El{s s':PS}{ws:List Bs}(I:Be s)(h:um s ws=some s'):Be s':=by
 unfold um at h
 split at h
 ·simp only[sJ]at h; subst h; exact I
 ·simp only at h
  split at h
  ·rename_i hi
   split at h <;> first | (simp at h; done) | skip
   obtain⟨c,hc,rfl⟩:=Option.map_eq_some_iff.1 h
   exact Jo hi I hc
  ·split at h <;> first | (simp at h; done) | skip
   obtain⟨c,hc,rfl⟩:=Option.map_eq_some_iff.1 h
   exact GW I hc
theorem Ek:∀(L:List Bs) {s s':PS} {n:Nat},Be s->Ah s n L=.ok s'->Be s'
 | [],s,s',n,I,h=>by simp only[Ah,Except.ok.injEq]at h; subst h; exact I
 | l::L,s,s',n,I,h=>by
  rw[Ah]at h
  split at h <;> first | (simp at h; done) | skip
  rename_i hd
  exact Ek L (El I hd) h
theorem BD{t:Bs}{s:Sc}(h:aX t=.ok s):kP s=true/\s.seed<18446744073709551616:=by
 unfold aX at h
 split at h <;> first | (simp at h; done) | skip
 split at h <;> first | (simp at h; done) | skip
 rename_i s0 hg
 have I:=Ek _ KI hg
 unfold yk at h
 split at h <;> first | (simp at h; done) | skip
 rename_i hz
 simp only[Except.ok.injEq]at h
 subst h
 refine⟨?_,I.seed⟩
 have w:=I.wh hz.1
 simp only[kP,Ae,NC,NL]
 exact⟨⟨w.1,w.2,I.sm,I.bo,I.eye,I.at_,I.up,I.wide,I.sky,I.msl,I.bsl,I.usl⟩,I.ms,I.bs,I.us,hz.2⟩
theorem many(add:Sc->Option Sc)(len:Sc->Nat)(M:Nat)(P:Sc->Prop)(ws:List Bs)(hw:∀w∈ws,HI w)(hd:∀s:PS,um s ws=(add s.1).map fun c=>(c,s.2))
  (h1:∀s,P s->len s+1<=M->∃c,add s=some c/\len c=len s+1/\P c) (h2:∀s,P s->¬len s+1<=M->add s=none):∀(k:Nat) (s:PS) (n:Nat),P s.1 ->
  (len s.1+k<=M->∃c,FU s n (List.replicate k (aY ws)).flatten=.ok (c,s.2)/\P c)/\(len s.1<=M->¬len s.1+k<=M->∃e,FU s n (List.replicate k (aY ws)).flatten=.error e)
 | 0,s,n,hP=>⟨fun _=>⟨s.1,rfl,hP⟩,fun h1 h2=>absurd om h2⟩
 | k+1,s,n,hP=>by
  have ih:=many add len M P ws hw hd h1 h2 k
  rw[List.replicate_succ,List.flatten_cons]
  by_cases hl:len s.1+1<=M
  ·obtain⟨c,q1,q2,q3⟩:=h1 s.1 hP hl
   have hds:um s ws=some (c,s.2):=by rw[hd,q1]; rfl
   rw[ip hw hds]
   obtain⟨a,b⟩:=ih (c,s.2) (n+1) q3
   simp only at a b
   refine⟨fun h=>?_,fun g1 g2=>?_⟩
   ·obtain⟨c',r1,r2⟩:=a om
    exact⟨c',r1,r2⟩
   ·exact b om om
  ·refine⟨fun h=>om,fun _ _=>⟨n,?_⟩⟩
   have e:aY ws++(List.replicate k (aY ws)).flatten=ct ws++10::(List.replicate k (aY ws)).flatten:=by rw[aY,NM]; rfl
   rw[FU,e,tk _ _ _ (fun c hc=>(oe hw c hc).2),List.nil_append,Ah,oK hw,hd,h2 s.1 hP hl]
   rfl
end Go.Proofs.Wo
namespace Go.Abs.S
open Go.Abs Go.WideShapes Go.ChangeShapes
variable {H:Type} {enc:TypeId×Value->H}
end Go.Abs.S
namespace Go.Proofs.Wo
open Go.Abs Go.Abs.S
def gY(P:Nat->Prop)(H:ae)(m:Nat)(v:af)(k:Nat)(C:List af):Prop:=
 (LC v=true/\k=0/\C=[])∨∃a r,v=.slice (some a) k r/\P a.b/\aT H a (m*k)=some C
theorem gY.mono{P Q:Nat->Prop}{H H':ae}{m k:Nat}{v:af}{C:List af}(h:gY P H m v k C)(q:∀b,P b->Q b/\H'.get b=H.get b):gY Q H' m v k C:=by
 rcases h with h | ⟨a,r,h1,h2,h3⟩
 ·exact .inl h
 ·exact .inr ⟨a,r,h1,(q _ h2).1,by rw[uV (q _ h2).2]; exact h3⟩
theorem gY.one{P:Nat->Prop}{H:ae}{m k:Nat}{v:af}{C:List af}(h:gY P H m v k C):v.one=true:=by
 rcases h with⟨h,_⟩ | ⟨a,r,rfl,_⟩
 ·exact GV h
 ·rfl
theorem gY.len{P:Nat->Prop}{H:ae}{m k:Nat}{v:af}{C:List af}(h:gY P H m v k C):fD false v=some (.int .i64 (k:Int)):=by
 rcases h with⟨h,rfl,_⟩ | ⟨a,r,rfl,_⟩
 ·rcases mL h with rfl | ⟨a,rfl⟩ <;> rfl
 ·rfl
theorem gY.nil(P:Nat->Prop)(H:ae)(m:Nat):gY P H m cj 0 []:=.inl ⟨rfl,rfl,rfl⟩
theorem gY.app{P:Nat->Prop}{H:ae}{m k:Nat}{v:af}{C:List af}(h:dq m 0 H v C k)(hb:dP v P):gY P H m v k C:=by
 rcases h with⟨rfl,rfl,rfl⟩ | ⟨b,low,rfl,h2,h3,h4,h5,h6,h7⟩
 ·exact .nil P H m
 ·refine .inr ⟨_,_,rfl,hb _ _ _ rfl,?_⟩
  rw[<- h2]
  exact ew h5 h6
theorem gY.row{P:Nat->Prop}{H:ae}{m k n:Nat}{b:Nat}{r:qR}{C:List af}(h:Row H b C)(hn:C.length=n)(hk:m*k=n)(hp:P b):gY P H m (.slice (some ⟨b,n,0⟩) k r) k C:=by
 refine .inr ⟨_,_,rfl,hp,?_⟩
 obtain⟨low,h1,h2⟩:=h
 rw[hk,<- hn]
 exact ew h1 h2
def mC(m:Nat)(v:af)(i:Nat):af:=match v with
 | .slice (some a) _ _=>.ptr (some ⟨a.b,a.lim,a.o+i*m⟩)
 | _=>aJ
theorem gY.idx{P:Nat->Prop}{H:ae}{m k:Nat}{v:af}{C:List af}(h:gY P H m v k C){i:Nat}(hi:i<k):gi m v (.int .i64 (i:Int))=some (mC m v i):=by
 rcases h with⟨_,rfl,_⟩ | ⟨a,r,rfl,_⟩
 ·omega
 ·show (bif Nat.blt i k then some (af.ptr (some ⟨a.b,a.lim,a.o+i*m⟩)) else none)=_
  rw[show Nat.blt i k=true by simpa[Nat.blt_eq] using hi]; rfl
theorem zG{H:ae}{a:Ad}{n i j:Nat}{C:List af}(h:aT H a n=some C)(hij:i+j<=n):aT H ⟨a.b,a.lim,a.o+i⟩ j=some ((C.drop i).take j):=by
 obtain⟨l,low,ro,h1,h2,h3,h4,rfl⟩:=iJ h
 unfold aT
 simp only[h1,NB h2,NB h3,NB (show a.o+i+j<=a.lim by omega),Bool.and_self,cond_true]
 rw[List.drop_take,List.take_take,Nat.min_eq_left om,List.drop_drop]
theorem gY.load{P:Nat->Prop}{H:ae}{m k:Nat}{v:af}{C:List af}(h:gY P H m v k C){i:Nat}(hi:i<k):bg true m H (mC m v i)=some (.agg ((C.drop (i*m)).take m)):=by
 rcases h with⟨_,rfl,_⟩ | ⟨a,r,rfl,_,h3⟩
 ·omega
 ·have hm:i*m+m<=m*k:=by
   have:(i+1)*m<=k*m:=Nat.mul_le_mul_right m hi
   rw[Nat.mul_comm m k]; rw[Nat.add_mul,Nat.one_mul]at this; exact this
  simp only[bg,mC,zG h3 hm,cond_true]
theorem gY.aeq{P:Nat->Prop}{H:ae}{m k:Nat}{v:af}{C:List af}(h:gY P H m v k C):aeq v v=true:=by
 rcases h with⟨h,_⟩ | ⟨a,r,rfl,_⟩
 ·rcases mL h with rfl | ⟨a,rfl⟩
  ·exact FD
  ·simp[Go.Abs.aeq]
 ·cases r <;> simp[Go.Abs.aeq]
theorem Al{α:Type}{f:α->List af}{m:Nat}(hf:∀x,(f x).length=m):∀{l:List α} {i:Nat} {x:α},l[i]?=some x->((l.flatMap f).drop (i*m)).take m=f x
 | [],i,x,h=>by simp at h
 | y::l,0,x,h=>by
  simp only[NI,sJ]at h
  subst h
  rw[Nat.zero_mul,List.drop_zero,List.flatMap_cons,List.take_append_of_le_length (by rw[hf]; exact Nat.le_refl _),List.take_of_length_le (by rw[hf]; exact Nat.le_refl _)]
 | y::l,i+1,x,h=>by
  simp only[NJ]at h
  rw[List.flatMap_cons,show (i+1)*m=(f y).length+i*m by rw[hf,Nat.succ_mul,Nat.add_comm],<- List.drop_drop,List.drop_left]
  exact Al hf h
theorem gY.loadE{α:Type}{f:α->List af}{P:Nat->Prop}{H:ae}{m:Nat}{v:af}{l:List α}(h:gY P H m v l.length (l.flatMap f))(hf:∀x,(f x).length=m){i:Nat}{x:α}(hi:l[i]?=some x):bg true m H (mC m v i)=some (.agg (f x)):=by
 rw[h.load (NA.1 hi).1,Al hf hi]
theorem iA{α:Type}{p:α->Bool}{l:List α}{i:Nat}{x:α}(hi:l[i]?=some x)(h:(l.take i).all p=true):(l.take (i+1)).all p=p x:=by
 rw[List.take_add_one,hi,List.all_append,h]; simp
theorem iu{α:Type}{l:List α}{i:Nat}{x:α}(h:l[i]?=some x):l.drop i=x::l.drop (i+1):=by
 obtain⟨hl,he⟩:=NA.1 h
 rw[List.drop_eq_getElem_cons hl,he]
theorem kT{α:Type}{p:α->Bool}{l:List α}{i:Nat}{x:α}(hi:l[i]?=some x)(h:p x=false):l.all p=false:=by
 have:=List.take_append_drop i l
 rw[<- this,List.all_append,iu hi,List.all_cons,h,Bool.false_and,Bool.and_false]
open Go.Abs Go.Abs.S
noncomputable section
def c7:bW:=⟨78,zq [zo 2 (.new [zI 0,zI 0,zI 0,zI 0,.int .u64 (.ofNat 0),zI 0,zI 0,zI 0,zI 0,zI 0,zI 0,zI 0,zI 0,zI 0,zI 0,zI 0,zI 0,zI 0,zN,zN,zN]),zo 3 (.new [zI 0,zI 0])] (zr [zm 11 0,zo 12 (.len true (.t 11)),zk 13 .gtr 12 16384] 13 (zq [zo 14 (.build [zI 0,zI 0,zI 0,zI 0,.int .u64 (.ofNat 0),zI 0,zI 0,zI 0,zI 0,zI 0,zI 0,zI 0,zI 0,zI 0,zI 0,zI 0,zI 0,zI 0,zN,zN,zN] []),zo 15 (.build [zI 0,zI 0] [(0,1,zi 3)]),zp (.store 21 (.t 2) (.t 14)),zp (.store 2 (.t 3) (.t 15))] .ret) .skip (zq [zx 16 19 [],zo 17 (.hf .mkMap []),zo 18 (.build [zI 0,zI 0,zI 0,zI 0,.int .u64 (.ofNat 0),zI 0,zI 0,zI 0,zI 0,zI 0,zI 0,zI 0,zI 0,zI 0,zI 0,zI 0,zI 0,zI 0,zN,zN,zN,.map none] [(0,21,.t 16),(21,1,.t 17)]),zo 19 (.box (.t 18)),zm 4 19] (zq [zm 20 4,zx 21 20 [.t 20],zm 5 21] (.seq (zq [zm 22 0,zx 23 21 [.t 22,.c (.str [10])],zh 24 23,zo 25 (.mv (zi 0))] (.block 0 (.loop (zq [zb 26 .lss 25 24] (.seq (.cond (.t 26) .skip (.exit 0)) (.seq (.block 1 (zq [zm 27 25,zd 28 23 25,zl 29 28,zm 6 27,zm 7 29] (zq [zm 30 7,zx 31 22 [.t 30],zm 8 31] (zr [zm 32 8,zh 33 32,zk 34 .eql 33 0] 34 (.exit 1) .skip (zq [zm 36 5,zm 37 8,zo 38 (.idxA 1 (.t 37) (zi 0)),zl 39 38,zo 40 (.hf (.mLook .str true .nilFunc) [.t 36,.t 39]),zm 35 40,ze 41 0 35,ze 42 1 35,zm 9 41,zm 10 42] (zq [zm 43 10,zo 44 (.un .not (.t 43)),zm 45 44,zg 46 (.mv (.t 9)) 45 false,zg 47 (.mv (.t 8)) 45 false,zg 48 (.sl 1 (.t 47) (some (zi 1)) none none) 45 false,zg 49 (.callv (.t 46) [.t 48]) 45 false,zg 50 (.un .not (.t 49)) 45 false,zo 51 (.pick (.t 45) (.c (.bool true)) (.t 50))] (.cond (.t 51) (zq [zo 52 (.build [zI 0,zI 0,zI 0,zI 0,.int .u64 (.ofNat 0),zI 0,zI 0,zI 0,zI 0,zI 0,zI 0,zI 0,zI 0,zI 0,zI 0,zI 0,zI 0,zI 0,zN,zN,zN] []),zm 53 6,zk 54 .add 53 1,zo 55 (.build [zI 0,zI 0] [(0,1,zi 130),(1,1,.t 54)]),zp (.store 21 (.t 2) (.t 52)),zp (.store 2 (.t 3) (.t 55))] .ret) .skip))))))) (.reg [zk 56 .add 25 1,zm 25 56]))))))) (zr [zm 57 4,zc 58 57,zf 59 21 58,zl 60 59,zo 61 (.hf (.mLook .str false (zI 0)) [.t 60,.c (.str [115,105,122,101])]),zk 62 .eql 61 0,zm 63 62,zg 64 (.mv (.t 4)) 63 false,zg 65 (.nilChk (.t 64)) 63 false,zg 66 (.fieldA 0 (.t 65)) 63 false,zg 67 (.load true 21 (.t 66)) 63 false,zg 68 (.call 23 [.t 67]) 63 false,zg 69 (.un .not (.t 68)) 63 false,zo 70 (.pick (.t 63) (.c (.bool true)) (.t 69))] 70 (zq [zo 71 (.build [zI 0,zI 0,zI 0,zI 0,.int .u64 (.ofNat 0),zI 0,zI 0,zI 0,zI 0,zI 0,zI 0,zI 0,zI 0,zI 0,zI 0,zI 0,zI 0,zI 0,zN,zN,zN] []),zo 72 (.build [zI 0,zI 0] [(0,1,zi 130)]),zp (.store 21 (.t 2) (.t 71)),zp (.store 2 (.t 3) (.t 72))] .ret) .skip (zq [zm 73 4,zc 74 73,zf 75 0 74,zt 76 21 75,zo 77 (.build [zI 0,zI 0] []),zp (.store 21 (.t 2) (.t 76)),zp (.store 2 (.t 3) (.t 77))] .ret)))))),[.cell true 21 2,.cell true 2 3]⟩
theorem za7:cN Tryz.prog 7=some c7:=by kernel_rfl
def c19:bW:=⟨4,zq [zo 0 (.new [zI 0,zI 0,zI 0,zI 0,.int .u64 (.ofNat 0),zI 0,zI 0,zI 0,zI 0,zI 0,zI 0,zI 0,zI 0,zI 0,zI 0,zI 0,zI 0,zI 0,zN,zN,zN])] (zq [zo 1 (.build [zI 0,zI 0,zI 0] [(2,1,.c (.int .i64 (.negSucc 17179869183)))]),zo 2 (.build [zI 0,zI 0,zI 0] [(1,1,zi 4294967296)]),zo 3 (.build [zI 0,zI 0,zI 0,zI 0,.int .u64 (.ofNat 0),zI 0,zI 0,zI 0,zI 0,zI 0,zI 0,zI 0,zI 0,zI 0,zI 0,zI 0,zI 0,zI 0,zN,zN,zN] [(2,1,zi 1),(3,1,zi 2),(5,3,.t 1),(11,3,.t 2),(14,1,zi 4294967296)]),zp (.store 21 (.t 0) (.t 3))] .ret),[.cell true 21 0]⟩
theorem MT:cN Tryz.prog 19=some c19:=by kernel_rfl
def c40:bW:=⟨13,zq [zo 3 (.mv (.c (.bool false)))] (zq [zm 4 0,zl 5 1,zc 6 5,zf 7 0 6,zl 8 1,zc 9 8,zf 10 1 9,zo 11 (.buildSl 2 [.ptr none] [(0,1,.t 7),(1,1,.t 10)]),zx 12 41 [.t 4,.c (.int .u64 (.ofNat 1)),.c (.int .u64 (.ofNat 1024)),.t 11],zm 3 12] .ret),[.t 3]⟩
theorem ME:cN Tryz.prog 40=some c40:=by kernel_rfl
def Np:bW:=⟨52,zq [zo 8 (.mv (.c (.bool false)))] (zr [zm 14 0,zh 15 14,zm 16 3,zh 17 16,zb 18 .neq 15 17] 18 (zq [zo 8 (.mv (.c (.bool false)))] .ret) .skip (.seq (zq [zm 19 0,zh 20 19,zo 21 (.mv (zi 0))] (.block 0 (.loop (zq [zb 22 .lss 21 20] (.seq (.cond (.t 22) .skip (.exit 0)) (.seq (.block 1 (zq [zm 23 21,zd 24 19 21,zl 25 24,zm 9 23,zm 10 25] (zq [zm 27 10,zx 28 77 [.t 27],zm 26 28,ze 29 0 26,ze 30 1 26,ze 31 2 26,zm 11 29,zm 12 30,zm 13 31] (zr [zm 32 13,zo 33 (.un .not (.t 32)),zm 34 33,zg 35 (.mv (.t 11)) 34 false,zg 36 (.mv (.t 1)) 34 false,zg 37 (.bin .lss (.t 35) (.t 36)) 34 false,zo 38 (.pick (.t 34) (.c (.bool true)) (.t 37)),zm 39 38,zg 40 (.mv (.t 11)) 39 false,zg 41 (.mv (.t 2)) 39 false,zg 42 (.bin .gtr (.t 40) (.t 41)) 39 false,zo 43 (.pick (.t 39) (.c (.bool true)) (.t 42))] 43 (zq [zo 8 (.mv (.c (.bool false)))] .ret) .skip (.reg [zm 44 3,zm 45 9,zd 46 44 45,zl 47 46,zm 48 11,zv 49 .i64 48,zc 50 47,zs 50 49]))))) (.reg [zk 51 .add 21 1,zm 21 51]))))))) (zq [zo 8 (.mv (.c (.bool true)))] .ret))),[.t 8]⟩
theorem MD:cN Tryz.prog 41=some Np:=by kernel_rfl
def c77:bW:=⟨46,zq [zo 2 (.mv (.c (.int .u64 (.ofNat 0)))),zo 3 (.mv (.c (.bool false))),zo 4 (.mv (.c (.bool false)))] (zq [zo 3 (.mv (.c (.bool true)))] (.seq (zq [zm 7 0,zo 8 (.len true (.t 7)),zo 9 (.mv (zi 0))] (.block 0 (.loop (zq [zb 10 .lss 9 8] (.seq (.cond (.t 10) .skip (.exit 0)) (.seq (.block 1 (zq [zm 11 9,zm 5 11] (zr [zm 12 0,zm 13 5,zo 14 (.idxS (.t 12) (.t 13)),zo 15 (.bin .lss (.t 14) (zu 48)),zm 16 15,zg 17 (.mv (.t 0)) 16 false,zg 18 (.mv (.t 5)) 16 false,zg 19 (.idxS (.t 17) (.t 18)) 16 false,zg 20 (.bin .gtr (.t 19) (zu 57)) 16 false,zo 21 (.pick (.t 16) (.c (.bool true)) (.t 20))] 21 (zq [zo 2 (.mv (.c (.int .u64 (.ofNat 0)))),zo 3 (.mv (.c (.bool false))),zo 4 (.mv (.c (.bool false)))] .ret) .skip (zq [zm 22 0,zm 23 5,zo 24 (.idxS (.t 22) (.t 23)),zo 25 (.bin .sub (.t 24) (zu 48)),zv 26 .u64 25,zm 6 26] (zq [zm 27 3,zm 28 27,zg 29 (.mv (.t 2)) 28 true,zg 30 (.mv (.t 6)) 28 true,zg 31 (.bin .sub (.c (.int .u64 (.ofNat 18446744073709551615))) (.t 30)) 28 true,zg 32 (.bin .quo (.t 31) (.c (.int .u64 (.ofNat 10)))) 28 true,zg 33 (.bin .leq (.t 29) (.t 32)) 28 true,zo 34 (.pick (.t 28) (.t 33) (.c (.bool false))),zm 3 34] (.reg [zm 35 2,zo 36 (.bin .mul (.t 35) (.c (.int .u64 (.ofNat 10)))),zm 37 6,zb 38 .add 36 37,zm 2 38])))))) (.reg [zk 39 .add 9 1,zm 9 39]))))))) (zr [zm 40 0,zo 41 (.bin .eql (.t 40) (.c (.str [])))] 41 (zq [zo 2 (.mv (.c (.int .u64 (.ofNat 0)))),zo 3 (.mv (.c (.bool false))),zo 4 (.mv (.c (.bool false)))] .ret) .skip (zr [zm 42 3,zo 43 (.un .not (.t 42))] 43 (.reg [zo 2 (.mv (.c (.int .u64 (.ofNat 18446744073709551615))))]) .skip (zq [zm 44 2,zm 45 3,zm 2 44,zm 3 45,zo 4 (.mv (.c (.bool true)))] .ret))))),[.t 2,.t 3,.t 4]⟩
theorem LY:cN Tryz.prog 77=some c77:=by kernel_rfl
def Nn:bW:=⟨10,zq [zo 3 (.mv (.c (.bool false)))] (zq [zm 4 0,zl 5 1,zc 6 5,zf 7 2 6,zo 8 (.buildSl 1 [.ptr none] [(0,1,.t 7)]),zx 9 41 [.t 4,.c (.int .u64 (.ofNat 1)),.c (.int .u64 (.ofNat 64)),.t 8],zm 3 9] .ret),[.t 3]⟩
theorem MC:cN Tryz.prog 42=some Nn:=by kernel_rfl
def Nl:bW:=⟨10,zq [zo 3 (.mv (.c (.bool false)))] (zq [zm 4 0,zl 5 1,zc 6 5,zf 7 3 6,zo 8 (.buildSl 1 [.ptr none] [(0,1,.t 7)]),zx 9 41 [.t 4,.c (.int .u64 (.ofNat 0)),.c (.int .u64 (.ofNat 8)),.t 8],zm 3 9] .ret),[.t 3]⟩
theorem MB:cN Tryz.prog 43=some Nl:=by kernel_rfl
def c44:bW:=⟨9,zq [zo 3 (.mv (.c (.bool false)))] (zq [zm 4 0,zl 5 1,zc 6 5,zf 7 4 6,zx 8 45 [.t 4,.t 7],zm 3 8] .ret),[.t 3]⟩
theorem MA:cN Tryz.prog 44=some c44:=by kernel_rfl
def LI:bW:=⟨26,zq [zo 4 (.mv (.c (.bool false)))] (zr [zm 8 0,zh 9 8,zk 10 .neq 9 1] 10 (zq [zo 4 (.mv (.c (.bool false)))] .ret) .skip (zq [zm 12 0,zo 13 (.idxA 1 (.t 12) (zi 0)),zl 14 13,zx 15 77 [.t 14],zm 11 15,ze 16 0 11,ze 17 1 11,ze 18 2 11,zm 5 16,zm 6 17,zm 7 18] (zq [zm 19 1,zm 20 5,zc 21 19,zs 21 20] (zq [zm 22 7,zm 23 22,zg 24 (.mv (.t 6)) 23 true,zo 25 (.pick (.t 23) (.t 24) (.c (.bool false))),zm 4 25] .ret)))),[.t 4]⟩
theorem Mz:cN Tryz.prog 45=some LI:=by kernel_rfl
def c46:bW:=⟨16,zq [zo 3 (.mv (.c (.bool false)))] (zq [zm 4 0,zl 5 1,zc 6 5,zf 7 5 6,zx 8 47 [.t 4,.t 7],zm 9 8,zg 10 (.load false 1 (.t 1)) 9 true,zg 11 (.nilChk (.t 10)) 9 true,zg 12 (.fieldA 5 (.t 11)) 9 true,zg 13 (.load true 3 (.t 12)) 9 true,zg 14 (.call 25 [.t 13]) 9 true,zo 15 (.pick (.t 9) (.t 14) (.c (.bool false))),zm 3 15] .ret),[.t 3]⟩
theorem My:cN Tryz.prog 46=some c46:=by kernel_rfl
def c47:bW:=⟨17,zq [zo 4 (.mv (.c (.bool false)))] (zq [zm 5 0,zm 6 1,zc 7 6,zf 8 0 7,zm 9 1,zc 10 9,zf 11 1 10,zm 12 1,zc 13 12,zf 14 2 13,zo 15 (.buildSl 3 [.ptr none] [(0,1,.t 8),(1,1,.t 11),(2,1,.t 14)]),zx 16 51 [.t 5,.t 15],zm 4 16] .ret),[.t 4]⟩
theorem Mx:cN Tryz.prog 47=some c47:=by kernel_rfl
def Nk:bW:=⟨35,zq [zo 4 (.mv (.c (.bool false)))] (zr [zm 9 0,zh 10 9,zm 11 1,zh 12 11,zb 13 .neq 10 12] 13 (zq [zo 4 (.mv (.c (.bool false)))] .ret) .skip (.seq (zq [zm 14 0,zh 15 14,zo 16 (.mv (zi 0))] (.block 0 (.loop (zq [zb 17 .lss 16 15] (.seq (.cond (.t 17) .skip (.exit 0)) (.seq (.block 1 (zq [zm 18 16,zd 19 14 16,zl 20 19,zm 5 18,zm 6 20] (zq [zm 22 6,zx 23 78 [.t 22],zm 21 23,ze 24 0 21,ze 25 1 21,zm 7 24,zm 8 25] (zr [zm 26 8,zo 27 (.un .not (.t 26))] 27 (zq [zo 4 (.mv (.c (.bool false)))] .ret) .skip (.reg [zm 28 1,zm 29 5,zd 30 28 29,zl 31 30,zm 32 7,zc 33 31,zs 33 32]))))) (.reg [zk 34 .add 16 1,zm 16 34]))))))) (zq [zo 4 (.mv (.c (.bool true)))] .ret))),[.t 4]⟩
theorem Ms:cN Tryz.prog 51=some Nk:=by kernel_rfl
def c78:bW:=⟨23,zq [zo 2 (.mv (zi 0)),zo 3 (.mv (.c (.bool false)))] (zq [zm 9 0,zx 10 93 [.t 9,.c (.str [45])],zm 8 10,ze 11 0 8,ze 12 1 8,zm 4 11,zm 5 12] (zq [zm 14 4,zx 15 94 [.t 14],zm 13 15,ze 16 0 13,ze 17 1 13,zm 6 16,zm 7 17] (zr [zm 18 5] 18 (.reg [zm 19 6,zo 20 (.un .neg (.t 19)),zm 6 20]) .skip (zq [zm 21 6,zm 22 7,zm 2 21,zm 3 22] .ret)))),[.t 2,.t 3]⟩
theorem LX:cN Tryz.prog 78=some c78:=by kernel_rfl
def c93:bW:=⟨11,zq [zo 4 (.mv (.c (.str []))),zo 5 (.mv (.c (.bool false)))] (zq [zm 6 0,zm 7 1,zx 8 102 [.t 6,.t 7],ze 9 0 8,ze 10 1 8,zm 4 9,zm 5 10] .ret),[.t 4,.t 5]⟩
theorem LO:cN Tryz.prog 93=some c93:=by kernel_rfl
def Lc:bW:=⟨15,zq [zo 4 (.mv (.c (.str []))),zo 5 (.mv (.c (.bool false)))] (zr [zm 6 0,zm 7 1,zx 8 35 [.t 6,.t 7],zo 9 (.un .not (.t 8))] 9 (zq [zm 10 0,zm 4 10,zo 5 (.mv (.c (.bool false)))] .ret) .skip (zq [zm 11 0,zm 12 1,zo 13 (.len true (.t 12)),zo 14 (.slStr (.t 11) (some (.t 13)) none),zm 4 14,zo 5 (.mv (.c (.bool true)))] .ret)),[.t 4,.t 5]⟩
theorem Ks:cN Tryz.prog 102=some Lc:=by kernel_rfl
def c25:bW:=⟨5,zq [zo 1 (.box (.t 0)),zo 2 (.mv (.c (.bool false)))] (zq [zt 3 3 1,zx 4 26 [.t 3,.c (.int .i64 (.negSucc 42949672959999)),zi 42949672960000],zm 2 4] .ret),[.t 2]⟩
theorem MO:cN Tryz.prog 25=some c25:=by kernel_rfl
def c26:bW:=⟨25,zq [zo 3 (.box (.t 0)),zo 4 (.box (.t 1)),zo 5 (.box (.t 2)),zo 6 (.mv (.c (.bool false)))] (zq [zo 8 (.mkFunc (.func 66) [] [.t 4,.t 5]),zm 7 8] (zq [zm 9 7,zf 10 0 3,zl 11 10,zo 12 (.callv (.t 9) [.t 11]),zm 13 12,zg 14 (.mv (.t 7)) 13 true,zg 15 (.fieldA 1 (.t 3)) 13 true,zg 16 (.load false 1 (.t 15)) 13 true,zg 17 (.callv (.t 14) [.t 16]) 13 true,zo 18 (.pick (.t 13) (.t 17) (.c (.bool false))),zm 19 18,zg 20 (.mv (.t 7)) 19 true,zg 21 (.fieldA 2 (.t 3)) 19 true,zg 22 (.load false 1 (.t 21)) 19 true,zg 23 (.callv (.t 20) [.t 22]) 19 true,zo 24 (.pick (.t 19) (.t 23) (.c (.bool false))),zm 6 24] .ret)),[.t 6]⟩
theorem MN:cN Tryz.prog 26=some c26:=by kernel_rfl
def LF:bW:=⟨13,zq [zo 4 (.mv (.c (.bool false)))] (zq [zl 5 1,zm 6 0,zb 7 .leq 5 6,zm 8 7,zg 9 (.mv (.t 0)) 8 true,zg 10 (.load false 1 (.t 2)) 8 true,zg 11 (.bin .leq (.t 9) (.t 10)) 8 true,zo 12 (.pick (.t 8) (.t 11) (.c (.bool false))),zm 4 12] .ret),[.t 4]⟩
theorem Me:cN Tryz.prog 66=some LF:=by kernel_rfl
def c48:bW:=⟨16,zq [zo 3 (.mv (.c (.bool false)))] (zq [zm 4 0,zl 5 1,zc 6 5,zf 7 8 6,zx 8 47 [.t 4,.t 7],zm 9 8,zg 10 (.load false 1 (.t 1)) 9 true,zg 11 (.nilChk (.t 10)) 9 true,zg 12 (.fieldA 8 (.t 11)) 9 true,zg 13 (.load true 3 (.t 12)) 9 true,zg 14 (.call 25 [.t 13]) 9 true,zo 15 (.pick (.t 9) (.t 14) (.c (.bool false))),zm 3 15] .ret),[.t 3]⟩
theorem Mw:cN Tryz.prog 48=some c48:=by kernel_rfl
def c49:bW:=⟨16,zq [zo 3 (.mv (.c (.bool false)))] (zq [zm 4 0,zl 5 1,zc 6 5,zf 7 11 6,zx 8 47 [.t 4,.t 7],zm 9 8,zg 10 (.load false 1 (.t 1)) 9 true,zg 11 (.nilChk (.t 10)) 9 true,zg 12 (.fieldA 11 (.t 11)) 9 true,zg 13 (.load true 3 (.t 12)) 9 true,zg 14 (.call 25 [.t 13]) 9 true,zo 15 (.pick (.t 9) (.t 14) (.c (.bool false))),zm 3 15] .ret),[.t 3]⟩
theorem Mv:cN Tryz.prog 49=some c49:=by kernel_rfl
def c50:bW:=⟨24,zq [zo 3 (.mv (.c (.bool false)))] (zq [zm 4 0,zl 5 1,zc 6 5,zf 7 14 6,zo 8 (.buildSl 1 [.ptr none] [(0,1,.t 7)]),zx 9 51 [.t 4,.t 8],zm 10 9,zg 11 (.load false 1 (.t 1)) 10 true,zg 12 (.nilChk (.t 11)) 10 true,zg 13 (.fieldA 14 (.t 12)) 10 true,zg 14 (.load false 1 (.t 13)) 10 true,zg 15 (.bin .lss (zi 0) (.t 14)) 10 true,zo 16 (.pick (.t 10) (.t 15) (.c (.bool false))),zm 17 16,zg 18 (.load false 1 (.t 1)) 17 true,zg 19 (.nilChk (.t 18)) 17 true,zg 20 (.fieldA 14 (.t 19)) 17 true,zg 21 (.load false 1 (.t 20)) 17 true,zg 22 (.bin .leq (.t 21) (zi 429496729600)) 17 true,zo 23 (.pick (.t 17) (.t 22) (.c (.bool false))),zm 3 23] .ret),[.t 3]⟩
theorem Mu:cN Tryz.prog 50=some c50:=by kernel_rfl
def c52:bW:=⟨16,zq [zo 3 (.mv (.c (.bool false)))] (zq [zm 4 0,zl 5 1,zc 6 5,zf 7 15 6,zx 8 47 [.t 4,.t 7],zm 9 8,zg 10 (.load false 1 (.t 1)) 9 true,zg 11 (.nilChk (.t 10)) 9 true,zg 12 (.fieldA 15 (.t 11)) 9 true,zg 13 (.load true 3 (.t 12)) 9 true,zg 14 (.call 26 [.t 13,zi 0,zi 274877906944]) 9 true,zo 15 (.pick (.t 9) (.t 14) (.c (.bool false))),zm 3 15] .ret),[.t 3]⟩
theorem Mr:cN Tryz.prog 52=some c52:=by kernel_rfl
def Nj:bW:=⟨25,zq [zo 5 (.mv (.c (.bool false)))] (zq [zl 6 1,zc 7 6,zf 8 21 7,zl 9 8,zl 10 2,zo 11 (.hf (.mLook .str false (zI 0)) [.t 9,.t 10]),zk 12 .add 11 1,zp (.hf (.mf (.upd .str)) [.t 9,.t 10,.t 12])] (zq [zl 13 1,zc 14 13,zf 15 21 14,zl 16 15,zl 17 2,zo 18 (.hf (.mLook .str false (zI 0)) [.t 16,.t 17]),zk 19 .eql 18 1,zm 20 19,zg 21 (.load false 1 (.t 3)) 20 true,zg 22 (.mv (.t 0)) 20 true,zg 23 (.callv (.t 21) [.t 22]) 20 true,zo 24 (.pick (.t 20) (.t 23) (.c (.bool false))),zm 5 24] .ret)),[.t 5]⟩
theorem Mq:cN Tryz.prog 53=some Nj:=by kernel_rfl
def c54:bW:=⟨7,zq [zo 3 (.mv (.c (.bool false)))] (zq [zl 4 1,zm 5 0,zx 6 55 [.t 4,zu 1,.t 5],zm 3 6] .ret),[.t 3]⟩
theorem Mp:cN Tryz.prog 54=some c54:=by kernel_rfl
def c55:bW:=⟨18,zq [zo 6 (.mv (.c (.bool false)))] (zq [zm 8 1,zo 9 (.build [zU 0,zI 0,zI 0,zI 0,.str [],.str []] [(0,1,.t 8)]),zo 7 (.new [zU 0,zI 0,zI 0,zI 0,.str [],.str []]),zp (.store 6 (.t 7) (.t 9))] (zq [zm 10 2,zf 11 1 7,zx 12 47 [.t 10,.t 11],zm 13 12,zg 14 (.mv (.t 0)) 13 true,zg 15 (.load true 6 (.t 7)) 13 true,zg 16 (.call 79 [.t 14,.t 15]) 13 true,zo 17 (.pick (.t 13) (.t 16) (.c (.bool false))),zm 6 17] .ret)),[.t 6]⟩
theorem Mo:cN Tryz.prog 55=some c55:=by kernel_rfl
def c79:bW:=⟨28,zq [zo 3 (.box (.t 1)),zo 4 (.mv (.c (.bool false)))] (.seq (.draw [zm 5 0,zm 6 0,zc 7 6,zf 8 0 7,zf 9 18 8,zl 10 9,zt 11 6 3,zo 12 (.buildSl 1 [zU 0,zI 0,zI 0,zI 0,.str [],.str []] [(0,6,.t 11)]),zo 13 (.append 6 64 (.t 10) (.t 12)),zc 14 5,zf 15 0 14,zf 16 18 15,zs 16 13] [[],[],[],[],[],[8],[],[],[],[],[],[],[]]) (zq [zt 17 6 3,zx 18 27 [.t 17],zm 19 18,zg 20 (.mv (.t 0)) 19 true,zg 21 (.nilChk (.t 20)) 19 true,zg 22 (.fieldA 0 (.t 21)) 19 true,zg 23 (.fieldA 18 (.t 22)) 19 true,zg 24 (.load false 1 (.t 23)) 19 true,zg 25 (.len false (.t 24)) 19 true,zg 26 (.bin .leq (.t 25) (zi 64)) 19 true,zo 27 (.pick (.t 19) (.t 26) (.c (.bool false))),zm 4 27] .ret)),[.t 4]⟩
theorem LW:cN Tryz.prog 79=some c79:=by kernel_rfl
def CB:bW:=⟨57,zq [zo 1 (.box (.t 0)),zo 2 (.mv (.c (.bool false)))] (.seq (zq [zf 3 0 1,zl 4 3] (.block 0 (zr [zo 6 (.bin .eql (.t 4) (zu 1)),zm 5 6] 5 .skip (.reg [zo 7 (.bin .eql (.t 4) (zu 2)),zm 5 7]) (.cond (.t 5) (zq [zf 8 4 1,zl 9 8,zo 10 (.bin .eql (.t 9) (.c (.str []))),zm 11 10,zg 12 (.fieldA 5 (.t 1)) 11 true,zg 13 (.load false 1 (.t 12)) 11 true,zg 14 (.bin .eql (.t 13) (.c (.str []))) 11 true,zo 15 (.pick (.t 11) (.t 14) (.c (.bool false))),zm 16 15,zg 17 (.fieldA 1 (.t 1)) 16 true,zg 18 (.load true 3 (.t 17)) 16 true,zg 19 (.call 26 [.t 18,zi 0,zi 4294967296]) 16 true,zo 20 (.pick (.t 16) (.t 19) (.c (.bool false))),zm 2 20] .ret) (zq [zo 22 (.bin .eql (.t 4) (zu 3)),zm 21 22] (.cond (.t 21) (zq [zf 23 4 1,zl 24 23,zo 25 (.bin .eql (.t 24) (.c (.str []))),zm 26 25,zg 27 (.fieldA 5 (.t 1)) 26 true,zg 28 (.load false 1 (.t 27)) 26 true,zg 29 (.bin .eql (.t 28) (.c (.str []))) 26 true,zo 30 (.pick (.t 26) (.t 29) (.c (.bool false))),zm 31 30,zg 32 (.fieldA 1 (.t 1)) 31 true,zg 33 (.load true 3 (.t 32)) 31 true,zg 34 (.call 26 [.t 33,zi 0,zi 274877906944]) 31 true,zo 35 (.pick (.t 31) (.t 34) (.c (.bool false))),zm 2 35] .ret) (zq [zo 37 (.bin .eql (.t 4) (zu 4)),zm 36 37] (.cond (.t 36) (zq [zf 38 1 1,zt 39 3 38,zo 40 (.build [zI 0,zI 0,zI 0] []),zo 41 (.pf (.eqS false [(0,.int),(1,.int),(2,.int)]) [.t 39,.t 40]),zm 42 41,zg 43 (.fieldA 4 (.t 1)) 42 true,zg 44 (.load false 1 (.t 43)) 42 true,zg 45 (.call 29 [.t 44]) 42 true,zo 46 (.pick (.t 42) (.t 45) (.c (.bool false))),zm 47 46,zg 48 (.fieldA 5 (.t 1)) 47 true,zg 49 (.load false 1 (.t 48)) 47 true,zg 50 (.bin .eql (.t 49) (.c (.str []))) 47 true,zg 51 (.mv (.t 50)) 47 true,zg 52 (.fieldA 5 (.t 1)) 51 false,zg 53 (.load false 1 (.t 52)) 51 false,zg 54 (.call 29 [.t 53]) 51 false,zg 55 (.pick (.t 51) (.c (.bool true)) (.t 54)) 47 true,zo 56 (.pick (.t 47) (.t 55) (.c (.bool false))),zm 2 56] .ret) .skip)))))))) (zq [zo 2 (.mv (.c (.bool false)))] .ret)),[.t 2]⟩
theorem MM:cN Tryz.prog 27=some CB:=by kernel_rfl
def LJ:bW:=⟨59,zq [zo 2 (.mv (.c (.bool false)))] (zr [zm 6 0,zo 7 (.len true (.t 6)),zk 8 .lss 7 1,zm 9 8,zg 10 (.mv (.t 0)) 9 false,zg 11 (.len true (.t 10)) 9 false,zg 12 (.bin .gtr (.t 11) (zi 40)) 9 false,zo 13 (.pick (.t 9) (.c (.bool true)) (.t 12))] 13 (zq [zo 2 (.mv (.c (.bool false)))] .ret) .skip (.seq (zq [zm 14 0,zo 15 (.len true (.t 14)),zo 16 (.mv (zi 0))] (.block 0 (.loop (zq [zb 17 .lss 16 15] (.seq (.cond (.t 17) .skip (.exit 0)) (.seq (.block 1 (zq [zm 18 16,zm 3 18] (zq [zm 19 0,zm 20 3,zo 21 (.idxS (.t 19) (.t 20)),zm 4 21] (zq [zm 22 4,zo 23 (.bin .leq (zu 97) (.t 22)),zm 24 23,zg 25 (.mv (.t 4)) 24 true,zg 26 (.bin .leq (.t 25) (zu 122)) 24 true,zo 27 (.pick (.t 24) (.t 26) (.c (.bool false))),zm 28 27,zg 29 (.mv (.t 4)) 28 false,zg 30 (.bin .leq (zu 65) (.t 29)) 28 false,zg 31 (.mv (.t 30)) 28 false,zg 32 (.mv (.t 4)) 31 true,zg 33 (.bin .leq (.t 32) (zu 90)) 31 true,zg 34 (.pick (.t 31) (.t 33) (.c (.bool false))) 28 false,zo 35 (.pick (.t 28) (.c (.bool true)) (.t 34)),zm 5 35] (zq [zm 36 5,zo 37 (.un .not (.t 36)),zm 38 37,zg 39 (.mv (.t 4)) 38 true,zg 40 (.bin .lss (.t 39) (zu 48)) 38 true,zg 41 (.mv (.t 40)) 38 true,zg 42 (.mv (.t 4)) 41 false,zg 43 (.bin .gtr (.t 42) (zu 57)) 41 false,zg 44 (.pick (.t 41) (.c (.bool true)) (.t 43)) 38 true,zo 45 (.pick (.t 38) (.t 44) (.c (.bool false))),zm 46 45,zg 47 (.mv (.t 4)) 46 true,zg 48 (.bin .neq (.t 47) (zu 95)) 46 true,zo 49 (.pick (.t 46) (.t 48) (.c (.bool false))),zm 50 49,zg 51 (.mv (.t 4)) 50 true,zg 52 (.bin .neq (.t 51) (zu 45)) 50 true,zo 53 (.pick (.t 50) (.t 52) (.c (.bool false))),zm 54 53,zg 55 (.mv (.t 4)) 54 true,zg 56 (.bin .neq (.t 55) (zu 46)) 54 true,zo 57 (.pick (.t 54) (.t 56) (.c (.bool false)))] (.cond (.t 57) (zq [zo 2 (.mv (.c (.bool false)))] .ret) .skip)))))) (.reg [zk 58 .add 16 1,zm 16 58]))))))) (zq [zo 2 (.mv (.c (.bool true)))] .ret))),[.t 2]⟩
theorem MK:cN Tryz.prog 29=some LJ:=by kernel_rfl
def c56:bW:=⟨7,zq [zo 3 (.mv (.c (.bool false)))] (zq [zl 4 1,zm 5 0,zx 6 55 [.t 4,zu 2,.t 5],zm 3 6] .ret),[.t 3]⟩
theorem Mn:cN Tryz.prog 56=some c56:=by kernel_rfl
def c57:bW:=⟨7,zq [zo 3 (.mv (.c (.bool false)))] (zq [zl 4 1,zm 5 0,zx 6 55 [.t 4,zu 3,.t 5],zm 3 6] .ret),[.t 3]⟩
theorem Mm:cN Tryz.prog 57=some c57:=by kernel_rfl
def KY:bW:=⟨31,zq [zo 4 (.mv (.c (.bool false)))] (zq [zo 6 (.build [zU 0,zI 0,zI 0,zI 0,.str [],.str []] [(0,1,zu 4)]),zo 5 (.new [zU 0,zI 0,zI 0,zI 0,.str [],.str []]),zp (.store 6 (.t 5) (.t 6))] (.seq (zq [zm 7 1,zh 8 7] (.block 0 (zq [zk 10 .eql 8 1,zm 9 10] (.cond (.t 9) (.reg [zm 11 1,zo 12 (.idxA 1 (.t 11) (zi 0)),zl 13 12,zx 14 80 [.t 13],zf 15 4 5,zs 15 14]) (zq [zk 17 .eql 8 2,zm 16 17] (.cond (.t 16) (.draw [zm 18 1,zo 19 (.idxA 1 (.t 18) (zi 0)),zl 20 19,zx 21 80 [.t 20],zm 22 1,zo 23 (.idxA 1 (.t 22) (zi 1)),zl 24 23,zx 25 80 [.t 24],zf 26 4 5,zs 26 21,zf 27 5 5,zs 27 25] [[],[],[],[],[],[],[3],[],[],[],[],[]]) .skip)))))) (zq [zm 28 0,zt 29 6 5,zx 30 79 [.t 28,.t 29],zm 4 30] .ret))),[.t 4]⟩
theorem Ml:cN Tryz.prog 58=some KY:=by kernel_rfl
def Ni:bW:=⟨59,zq [zo 4 (.mv (.c (.bool false)))] (zr [zm 7 1,zh 8 7,zk 9 .neq 8 5] 9 (zq [zo 4 (.mv (.c (.bool false)))] .ret) .skip (zq [zo 5 (.new [zI 0,zI 0,zI 0,zI 0,zI 0])] (zq [zf 10 0 5,zf 11 0 10,zm 6 11] (zr [zm 12 1,zo 13 (.sl 1 (.t 12) none (some (zi 4)) none),zm 14 6,zc 15 14,zf 16 0 15,zm 17 6,zc 18 17,zf 19 1 18,zm 20 6,zc 21 20,zf 22 2 21,zf 23 0 5,zf 24 3 23,zo 25 (.buildSl 4 [.ptr none] [(0,1,.t 16),(1,1,.t 19),(2,1,.t 22),(3,1,.t 24)]),zx 26 51 [.t 13,.t 25],zo 27 (.un .not (.t 26)),zm 28 27,zg 29 (.mv (.t 1)) 28 false,zg 30 (.idxA 1 (.t 29) (zi 4)) 28 false,zg 31 (.load false 1 (.t 30)) 28 false,zg 32 (.fieldA 4 (.t 5)) 28 false,zg 33 (.call 81 [.t 31,.t 32]) 28 false,zg 34 (.un .not (.t 33)) 28 false,zo 35 (.pick (.t 28) (.c (.bool true)) (.t 34))] 35 (zq [zo 4 (.mv (.c (.bool false)))] .ret) .skip (.seq (.draw [zm 36 0,zm 37 0,zc 38 37,zf 39 0 38,zf 40 19 39,zl 41 40,zt 42 5 5,zo 43 (.buildSl 1 [zI 0,zI 0,zI 0,zI 0,zI 0] [(0,5,.t 42)]),zo 44 (.append 5 40 (.t 41) (.t 43)),zc 45 36,zf 46 0 45,zf 47 19 46,zs 47 44] [[],[],[],[],[],[8],[],[],[],[],[],[],[]]) (zq [zt 48 5 5,zx 49 28 [.t 48],zm 50 49,zg 51 (.mv (.t 0)) 50 true,zg 52 (.nilChk (.t 51)) 50 true,zg 53 (.fieldA 0 (.t 52)) 50 true,zg 54 (.fieldA 19 (.t 53)) 50 true,zg 55 (.load false 1 (.t 54)) 50 true,zg 56 (.len false (.t 55)) 50 true,zg 57 (.bin .leq (.t 56) (zi 256)) 50 true,zo 58 (.pick (.t 50) (.t 57) (.c (.bool false))),zm 4 58] .ret)))))),[.t 4]⟩
theorem Mk:cN Tryz.prog 59=some Ni:=by kernel_rfl
def c81:bW:=⟨24,zq [zo 4 (.mv (.c (.bool false)))] (zq [zm 9 0,zx 10 77 [.t 9],zm 8 10,ze 11 0 8,ze 12 1 8,ze 13 2 8,zm 5 11,zm 6 12,zm 7 13] (zr [zm 14 7,zo 15 (.un .not (.t 14)),zm 16 15,zg 17 (.mv (.t 5)) 16 false,zg 18 (.bin .gtr (.t 17) (.c (.int .u64 (.ofNat 1073741824)))) 16 false,zo 19 (.pick (.t 16) (.c (.bool true)) (.t 18))] 19 (zq [zo 4 (.mv (.c (.bool false)))] .ret) .skip (zq [zm 20 1,zm 21 5,zv 22 .i64 21,zc 23 20,zs 23 22] (zq [zo 4 (.mv (.c (.bool true)))] .ret)))),[.t 4]⟩
theorem LU:cN Tryz.prog 81=some c81:=by kernel_rfl
def c28:bW:=⟨19,zq [zo 1 (.box (.t 0)),zo 2 (.mv (.c (.bool false)))] (zq [zf 3 0 1,zf 4 0 3,zt 5 3 4,zx 6 25 [.t 5],zm 7 6,zg 8 (.fieldA 0 (.t 1)) 7 true,zg 9 (.fieldA 3 (.t 8)) 7 true,zg 10 (.load false 1 (.t 9)) 7 true,zg 11 (.bin .lss (zi 0) (.t 10)) 7 true,zo 12 (.pick (.t 7) (.t 11) (.c (.bool false))),zm 13 12,zg 14 (.fieldA 0 (.t 1)) 13 true,zg 15 (.fieldA 3 (.t 14)) 13 true,zg 16 (.load false 1 (.t 15)) 13 true,zg 17 (.bin .leq (.t 16) (zi 42949672960000)) 13 true,zo 18 (.pick (.t 13) (.t 17) (.c (.bool false))),zm 2 18] .ret),[.t 2]⟩
theorem ML:cN Tryz.prog 28=some c28:=by kernel_rfl
def Nh:bW:=⟨56,zq [zo 4 (.mv (.c (.bool false)))] (zr [zm 6 1,zh 7 6,zk 8 .neq 7 5] 8 (zq [zo 4 (.mv (.c (.bool false)))] .ret) .skip (zq [zm 9 1,zo 10 (.idxA 1 (.t 9) (zi 0)),zl 11 10,zx 12 80 [.t 11],zo 13 (.build [.str [],zI 0,zI 0,zI 0,zI 0] [(0,1,.t 12)]),zo 5 (.new [.str [],zI 0,zI 0,zI 0,zI 0]),zp (.store 5 (.t 5) (.t 13))] (zr [zm 14 1,zo 15 (.sl 1 (.t 14) (some (zi 1)) (some (zi 4)) none),zf 16 1 5,zx 17 47 [.t 15,.t 16],zo 18 (.un .not (.t 17)),zm 19 18,zg 20 (.mv (.t 1)) 19 false,zg 21 (.idxA 1 (.t 20) (zi 4)) 19 false,zg 22 (.load false 1 (.t 21)) 19 false,zg 23 (.fieldA 4 (.t 5)) 19 false,zg 24 (.call 81 [.t 22,.t 23]) 19 false,zg 25 (.un .not (.t 24)) 19 false,zo 26 (.pick (.t 19) (.c (.bool true)) (.t 25))] 26 (zq [zo 4 (.mv (.c (.bool false)))] .ret) .skip (.seq (.draw [zm 27 0,zm 28 0,zc 29 28,zf 30 0 29,zf 31 20 30,zl 32 31,zt 33 5 5,zo 34 (.buildSl 1 [.str [],zI 0,zI 0,zI 0,zI 0] [(0,5,.t 33)]),zo 35 (.append 5 48 (.t 32) (.t 34)),zc 36 27,zf 37 0 36,zf 38 20 37,zs 38 35] [[],[],[],[],[],[8],[],[],[],[],[],[],[]]) (zq [zf 39 0 5,zl 40 39,zx 41 29 [.t 40],zm 42 41,zg 43 (.fieldA 1 (.t 5)) 42 true,zg 44 (.load true 3 (.t 43)) 42 true,zg 45 (.call 25 [.t 44]) 42 true,zo 46 (.pick (.t 42) (.t 45) (.c (.bool false))),zm 47 46,zg 48 (.mv (.t 0)) 47 true,zg 49 (.nilChk (.t 48)) 47 true,zg 50 (.fieldA 0 (.t 49)) 47 true,zg 51 (.fieldA 20 (.t 50)) 47 true,zg 52 (.load false 1 (.t 51)) 47 true,zg 53 (.len false (.t 52)) 47 true,zg 54 (.bin .leq (.t 53) (zi 16)) 47 true,zo 55 (.pick (.t 47) (.t 54) (.c (.bool false))),zm 4 55] .ret))))),[.t 4]⟩
theorem Mj:cN Tryz.prog 60=some Nh:=by kernel_rfl
def c21:bW:=⟨8,zq [zo 4 (.mv zn)] (zq [zm 5 0,zm 6 1,zx 7 61 [.t 5,.t 6,zi 0,.c (.int .i64 (.negSucc 0))],zm 4 7] .ret),[.t 4]⟩
theorem MS:cN Tryz.prog 21=some c21:=by kernel_rfl
def c61:bW:=⟨66,zq [zo 8 (.mv zn)] (zr [zm 12 3,zk 13 .eql 12 0] 13 (zq [zo 8 (.mv zn)] .ret) .skip (zr [zm 14 1,zo 15 (.bin .eql (.t 14) (.c (.str [])))] 15 (zq [zm 16 0,zm 17 3,zx 18 82 [.t 16,.t 17],zm 8 18] .ret) .skip (zr [zm 19 3,zk 20 .lss 19 0] 20 (.reg [zm 21 0,zm 22 1,zx 23 83 [.t 21,.t 22],zk 24 .add 23 1,zm 3 24]) .skip (zq [zm 25 3,zm 26 0,zo 27 (.len true (.t 26)),zk 28 .add 27 1,zo 29 (.pf (.mm false) [.t 25,.t 28]),zm 3 29] (zq [zm 30 3,zo 31 (.mkSlice 16 [.str []] (.t 30) (.t 30)),zm 9 31] (zq [zm 32 3,zk 33 .sub 32 1,zm 3 33] (zq [zo 10 (.mv (zi 0))] (.seq (.block 0 (.loop (zr [zm 34 10,zm 35 3,zb 36 .lss 34 35] 36 .skip (.exit 0) (.block 1 (zq [zm 37 0,zm 38 1,zx 39 84 [.t 37,.t 38],zm 11 39] (zr [zm 40 11,zk 41 .lss 40 0] 41 (.exit 0) .skip (zq [zm 42 9,zm 43 10,zm 44 0,zm 45 11,zm 46 2,zb 47 .add 45 46,zo 48 (.slStr (.t 44) none (some (.t 47))),zd 49 42 43,zs 49 48] (zq [zm 50 0,zm 51 11,zm 52 1,zo 53 (.len true (.t 52)),zb 54 .add 51 53,zo 55 (.slStr (.t 50) (some (.t 54)) none),zm 0 55] (.reg [zm 56 10,zk 57 .add 56 1,zm 10 57]))))))))) (zq [zm 58 9,zm 59 10,zm 60 0,zd 61 58 59,zs 61 60] (zq [zm 62 9,zm 63 10,zk 64 .add 63 1,zo 65 (.sl 1 (.t 62) none (some (.t 64)) none),zm 8 65] .ret)))))))))),[.t 8]⟩
theorem Mi:cN Tryz.prog 61=some c61:=by kernel_rfl
def c84:bW:=⟨8,zq [zo 4 (.mv (zi 0))] (zq [zm 5 0,zm 6 1,zx 7 99 [.t 5,.t 6],zm 4 7] .ret),[.t 4]⟩
theorem LS:cN Tryz.prog 84=some c84:=by kernel_rfl
def c22:bW:=⟨11,zq [zo 2 (.mv zn)] (zq [zm 4 0,zx 5 62 [.t 4,.c (.str [35])],zm 3 5,ze 6 0 3,ze 7 1 3,ze 8 2 3,zm 0 6] (zq [zm 9 0,zx 10 63 [.t 9,.f 64],zm 2 10] .ret)),[.t 2]⟩
theorem MR:cN Tryz.prog 22=some c22:=by kernel_rfl
def c63:bW:=⟨65,zq [zo 4 (.mv zn)] (zq [zo 12 (.mkSlice 16 [zI 0,zI 0] (zi 0) (zi 32)),zm 5 12] (zq [zo 6 (.mv (.c (.int .i64 (.negSucc 0))))] (.seq (zq [zm 13 0,zo 14 (.hf .strRange [.t 13])] (.block 0 (.loop (zq [zo 15 (.hf .strNext [.t 14]),ze 16 0 15] (.seq (.cond (.t 16) .skip (.exit 0)) (.block 1 (zq [ze 17 1 15,ze 18 2 15,zm 7 17,zm 8 18] (zq [zm 19 1,zm 20 8,zo 21 (.callv (.t 19) [.t 20])] (.cond (.t 21) (zq [zm 22 6,zk 23 .geq 22 0] (.cond (.t 23) (zq [zm 24 5,zm 25 6,zm 26 7,zo 27 (.build [zI 0,zI 0] [(0,1,.t 25),(1,1,.t 26)]),zo 28 (.buildSl 1 [zI 0,zI 0] [(0,2,.t 27)]),zo 29 (.append 2 16 (.t 24) (.t 28)),zm 5 29] (.reg [zm 30 6,zo 31 (.un .xor (.t 30)),zm 6 31])) .skip)) (zq [zm 32 6,zk 33 .lss 32 0] (.cond (.t 33) (.reg [zm 34 7,zm 6 34]) .skip))))))))))) (zr [zm 35 6,zk 36 .geq 35 0] 36 (.reg [zm 37 5,zm 38 6,zm 39 0,zo 40 (.len true (.t 39)),zo 41 (.build [zI 0,zI 0] [(0,1,.t 38),(1,1,.t 40)]),zo 42 (.buildSl 1 [zI 0,zI 0] [(0,2,.t 41)]),zo 43 (.append 2 16 (.t 37) (.t 42)),zm 5 43]) .skip (zq [zm 44 5,zh 45 44,zo 46 (.mkSlice 16 [.str []] (.t 45) (.t 45)),zm 9 46] (.seq (zq [zm 47 5,zh 48 47,zo 49 (.mv (zi 0))] (.block 2 (.loop (zq [zb 50 .lss 49 48] (.seq (.cond (.t 50) .skip (.exit 2)) (.seq (.block 3 (zq [zm 51 49,zo 52 (.idxA 2 (.t 47) (.t 49)),zt 53 2 52,zo 11 (.new [zI 0,zI 0]),zm 10 51,zp (.store 2 (.t 11) (.t 53))] (.reg [zm 54 9,zm 55 10,zm 56 0,zf 57 0 11,zl 58 57,zf 59 1 11,zl 60 59,zo 61 (.slStr (.t 56) (some (.t 58)) (some (.t 60))),zd 62 54 55,zs 62 61]))) (.reg [zk 63 .add 49 1,zm 49 63]))))))) (zq [zm 64 9,zm 4 64] .ret))))))),[.t 4]⟩
theorem Mh:cN Tryz.prog 63=some c63:=by kernel_rfl
def c64:bW:=⟨13,zq [zo 2 (.mv (.c (.bool false)))] (zq [zm 3 0,zo 4 (.bin .eql (.t 3) (.c (.int .i32 (.ofNat 9)))),zm 5 4,zg 6 (.mv (.t 0)) 5 false,zg 7 (.bin .eql (.t 6) (.c (.int .i32 (.ofNat 13)))) 5 false,zo 8 (.pick (.t 5) (.c (.bool true)) (.t 7)),zm 9 8,zg 10 (.mv (.t 0)) 9 false,zg 11 (.bin .eql (.t 10) (.c (.int .i32 (.ofNat 32)))) 9 false,zo 12 (.pick (.t 9) (.c (.bool true)) (.t 11)),zm 2 12] .ret),[.t 2]⟩
theorem Mg:cN Tryz.prog 64=some c64:=by kernel_rfl
def c23:bW:=⟨35,zq [zo 1 (.box (.t 0)),zo 2 (.mv (.c (.bool false)))] (zq [zo 8 (.mkFunc (.func 65) [] [.t 1]),zm 3 8] (.seq (zq [zf 9 19 1,zl 10 9,zh 11 10,zo 12 (.mv (zi 0))] (.block 0 (.loop (zq [zb 13 .lss 12 11] (.seq (.cond (.t 13) .skip (.exit 0)) (.seq (.block 1 (zq [zo 14 (.idxA 5 (.t 10) (.t 12)),zt 15 5 14,zo 5 (.new [zI 0,zI 0,zI 0,zI 0,zI 0]),zp (.store 5 (.t 5) (.t 15))] (zq [zm 16 3,zf 17 4 5,zl 18 17,zo 19 (.callv (.t 16) [.t 18]),zo 20 (.un .not (.t 19))] (.cond (.t 20) (zq [zo 2 (.mv (.c (.bool false)))] .ret) .skip)))) (.reg [zk 21 .add 12 1,zm 12 21]))))))) (.seq (zq [zf 22 20 1,zl 23 22,zh 24 23,zo 25 (.mv (zi 0))] (.block 2 (.loop (zq [zb 26 .lss 25 24] (.seq (.cond (.t 26) .skip (.exit 2)) (.seq (.block 3 (zq [zo 27 (.idxA 5 (.t 23) (.t 25)),zt 28 5 27,zo 7 (.new [.str [],zI 0,zI 0,zI 0,zI 0]),zp (.store 5 (.t 7) (.t 28))] (zq [zm 29 3,zf 30 4 7,zl 31 30,zo 32 (.callv (.t 29) [.t 31]),zo 33 (.un .not (.t 32))] (.cond (.t 33) (zq [zo 2 (.mv (.c (.bool false)))] .ret) .skip)))) (.reg [zk 34 .add 25 1,zm 25 34]))))))) (zq [zo 2 (.mv (.c (.bool true)))] .ret)))),[.t 2]⟩
theorem MQ:cN Tryz.prog 23=some c23:=by kernel_rfl
def LG:bW:=⟨13,zq [zo 3 (.mv (.c (.bool false)))] (zq [zm 4 0,zo 5 (.bin .leq (zi 0) (.t 4)),zm 6 5,zg 7 (.mv (.t 0)) 6 true,zg 8 (.fieldA 18 (.t 1)) 6 true,zg 9 (.load false 1 (.t 8)) 6 true,zg 10 (.len false (.t 9)) 6 true,zg 11 (.bin .lss (.t 7) (.t 10)) 6 true,zo 12 (.pick (.t 6) (.t 11) (.c (.bool false))),zm 3 12] .ret),[.t 3]⟩
theorem Mf:cN Tryz.prog 65=some LG:=by kernel_rfl
end
open Go.Abs Go.Abs.S
noncomputable section
def c4:bW:=⟨41,zq [zo 1 (.box (.t 0)),zo 2 (.mv (.c (.bool false)))] (zq [zl 8 1,zk 9 .and 8 3,zk 10 .add 9 4,zk 11 .rem 10 5,zk 12 .sub 11 2,zs 1 12] (zq [zo 13 (.mkFunc (.func 10) [] [.t 1]),zm 3 13] (zr [zm 14 3,zo 15 (.callv (.t 14) [.c (.str [98,97,108,108,32,49,48,48,48,48,32,45,49,48,48,48,48,32,48,32,49,48,48,48,48,32,48]),zi 256]),zo 16 (.un .not (.t 15)),zm 17 16,zg 18 (.mv (.t 3)) 17 false,zg 19 (.callv (.t 18) [.c (.str [109,101,115,104,32,109,32,48,32,48,32,48,32,48]),zi 16]) 17 false,zg 20 (.un .not (.t 19)) 17 false,zo 21 (.pick (.t 17) (.c (.bool true)) (.t 20)),zm 22 21,zg 23 (.mv (.t 3)) 22 false,zg 24 (.callv (.t 23) [.c (.str [109,105,114,114,111,114,32,49,32,49,32,49]),zi 63]) 22 false,zg 25 (.un .not (.t 24)) 22 false,zo 26 (.pick (.t 22) (.c (.bool true)) (.t 25))] 26 (zq [zo 2 (.mv (.c (.bool false)))] .ret) .skip (.seq (zq [zo 27 (.build [.str [],.str [],.str [],.str [],.str [],.str [],.str [],.str [],.str [],.str [],.str [],.str [],.str []] [(0,1,.c (.str [115,105,122,101,32,49,48,50,53,32,49])),(1,1,.c (.str [115,105,122,101,32,48,32,49])),(2,1,.c (.str [115,105,122,101,32,49,32,49,10,115,97,109,112,108,101,115,32,54,53])),(3,1,.c (.str [115,105,122,101,32,49,32,49,10,115,97,109,112,108,101,115,32,48])),(4,1,.c (.str [115,105,122,101,32,49,32,49,10,98,111,117,110,99,101,115,32,57])),(5,1,.c (.str [115,105,122,101,32,49,32,49,10,119,105,100,101,32,48])),(6,1,.c (.str [115,105,122,101,32,49,32,49,10,119,105,100,101,32,49,48,48,46,49])),(7,1,.c (.str [115,105,122,101,32,49,32,49,10,115,107,121,32,54,53,32,48,32,48])),(8,1,.c (.str [115,105,122,101,32,49,32,49,10,109,105,114,114,111,114,32,49,46,49,32,48,32,48])),(9,1,.c (.str [115,105,122,101,32,49,32,49,10,101,121,101,32,49,48,48,48,49,32,48,32,48])),(10,1,.c (.str [115,105,122,101,32,49,32,49,10,115,101,101,100,32,49,56,52,52,54,55,52,52,48,55,51,55,48,57,53,53,49,54,49,54])),(11,1,.c (.str [115,105,122,101,32,49,32,49,10,102,111,103,32,49])),(12,1,.c (.str [115,97,109,112,108,101,115,32,49]))]),zo 28 (.mv (zi 0))] (.block 0 (.loop (zq [zk 29 .lss 28 13] (.seq (.cond (.t 29) .skip (.exit 0)) (.seq (.block 1 (zq [zo 30 (.idx 13 1 false (.t 27) (.t 28)),zm 5 30] (zq [zm 32 5,zx 33 7 [.t 32],zm 31 33,ze 34 0 31,ze 35 1 31,zo 6 (.new [zI 0,zI 0,zI 0,zI 0,.int .u64 (.ofNat 0),zI 0,zI 0,zI 0,zI 0,zI 0,zI 0,zI 0,zI 0,zI 0,zI 0,zI 0,zI 0,zI 0,zN,zN,zN]),zo 7 (.new [zI 0,zI 0]),zp (.store 21 (.t 6) (.t 34)),zp (.store 2 (.t 7) (.t 35))] (zq [zf 36 0 7,zl 37 36,zk 38 .neq 37 130] (.cond (.t 38) (zq [zo 2 (.mv (.c (.bool false)))] .ret) .skip))))) (.reg [zk 39 .add 28 1,zm 28 39]))))))) (zq [zx 40 5 [],zm 2 40] .ret))))),[.t 2]⟩
theorem za4:cN Tryz.prog 4=some c4:=by kernel_rfl
def c10:bW:=⟨37,zq [zo 5 (.mv (.c (.bool false)))] (zq [zm 9 0,zo 10 (.bin .add (.t 9) (.c (.str [10]))),zm 11 1,zl 12 2,zb 13 .add 11 12,zx 14 11 [.t 10,.t 13],zo 15 (.bin .add (.c (.str [115,105,122,101,32,49,48,50,52,32,49,10,115,97,109,112,108,101,115,32,54,52,10,98,111,117,110,99,101,115,32,56,10,119,105,100,101,32,49,48,48,10,103,108,111,119,32,54,52,32,48,32,48,10])) (.t 14)),zm 6 15] (zq [zm 17 6,zx 18 7 [.t 17],zm 16 18,ze 19 0 16,ze 20 1 16,zo 7 (.new [zI 0,zI 0,zI 0,zI 0,.int .u64 (.ofNat 0),zI 0,zI 0,zI 0,zI 0,zI 0,zI 0,zI 0,zI 0,zI 0,zI 0,zI 0,zI 0,zI 0,zN,zN,zN]),zo 8 (.new [zI 0,zI 0]),zp (.store 21 (.t 7) (.t 19)),zp (.store 2 (.t 8) (.t 20))] (zq [zf 21 0 8,zl 22 21,zk 23 .eql 22 0,zl 24 2,zk 25 .leq 24 0,zo 26 (.pf (.eqv false .bool) [.t 23,.t 25]),zm 27 26,zg 28 (.fieldA 0 (.t 8)) 27 true,zg 29 (.load false 1 (.t 28)) 27 true,zg 30 (.bin .neq (.t 29) (zi 0)) 27 true,zg 31 (.mv (.t 30)) 27 true,zg 32 (.load true 21 (.t 7)) 31 false,zg 33 (.call 9 [.t 32]) 31 false,zg 34 (.bin .eql (.t 33) (zi 0)) 31 false,zg 35 (.pick (.t 31) (.c (.bool true)) (.t 34)) 27 true,zo 36 (.pick (.t 27) (.t 35) (.c (.bool false))),zm 5 36] .ret))),[.t 5]⟩
theorem M1:cN Tryz.prog 10=some c10:=by kernel_rfl
def c9:bW:=⟨126,zq [zo 1 (.box (.t 0)),zo 2 (.mv (zi 0))] (zq [zo 3 (.mv (.f 24))] (zq [zm 11 3,zf 12 0 1,zl 13 12,zo 14 (.callv (.t 11) [.t 13,zi 1,zi 1024]),zm 15 14,zg 16 (.mv (.t 3)) 15 true,zg 17 (.fieldA 1 (.t 1)) 15 true,zg 18 (.load false 1 (.t 17)) 15 true,zg 19 (.callv (.t 16) [.t 18,zi 1,zi 1024]) 15 true,zo 20 (.pick (.t 15) (.t 19) (.c (.bool false))),zm 21 20,zg 22 (.mv (.t 3)) 21 true,zg 23 (.fieldA 2 (.t 1)) 21 true,zg 24 (.load false 1 (.t 23)) 21 true,zg 25 (.callv (.t 22) [.t 24,zi 1,zi 64]) 21 true,zo 26 (.pick (.t 21) (.t 25) (.c (.bool false))),zm 27 26,zg 28 (.mv (.t 3)) 27 true,zg 29 (.fieldA 3 (.t 1)) 27 true,zg 30 (.load false 1 (.t 29)) 27 true,zg 31 (.callv (.t 28) [.t 30,zi 0,zi 8]) 27 true,zo 32 (.pick (.t 27) (.t 31) (.c (.bool false))),zm 33 32,zg 34 (.fieldA 5 (.t 1)) 33 true,zg 35 (.load true 3 (.t 34)) 33 true,zg 36 (.call 25 [.t 35]) 33 true,zo 37 (.pick (.t 33) (.t 36) (.c (.bool false))),zm 38 37,zg 39 (.fieldA 8 (.t 1)) 38 true,zg 40 (.load true 3 (.t 39)) 38 true,zg 41 (.call 25 [.t 40]) 38 true,zo 42 (.pick (.t 38) (.t 41) (.c (.bool false))),zm 43 42,zg 44 (.fieldA 11 (.t 1)) 43 true,zg 45 (.load true 3 (.t 44)) 43 true,zg 46 (.call 25 [.t 45]) 43 true,zo 47 (.pick (.t 43) (.t 46) (.c (.bool false))),zm 48 47,zg 49 (.fieldA 14 (.t 1)) 48 true,zg 50 (.load false 1 (.t 49)) 48 true,zg 51 (.bin .lss (zi 0) (.t 50)) 48 true,zo 52 (.pick (.t 48) (.t 51) (.c (.bool false))),zm 53 52,zg 54 (.fieldA 14 (.t 1)) 53 true,zg 55 (.load false 1 (.t 54)) 53 true,zg 56 (.bin .leq (.t 55) (zi 429496729600)) 53 true,zo 57 (.pick (.t 53) (.t 56) (.c (.bool false))),zm 58 57,zg 59 (.fieldA 15 (.t 1)) 58 true,zg 60 (.load true 3 (.t 59)) 58 true,zg 61 (.call 26 [.t 60,zi 0,zi 274877906944]) 58 true,zo 62 (.pick (.t 58) (.t 61) (.c (.bool false))),zm 63 62,zg 64 (.fieldA 18 (.t 1)) 63 true,zg 65 (.load false 1 (.t 64)) 63 true,zg 66 (.len false (.t 65)) 63 true,zg 67 (.bin .leq (.t 66) (zi 64)) 63 true,zo 68 (.pick (.t 63) (.t 67) (.c (.bool false))),zm 69 68,zg 70 (.fieldA 19 (.t 1)) 69 true,zg 71 (.load false 1 (.t 70)) 69 true,zg 72 (.len false (.t 71)) 69 true,zg 73 (.bin .leq (.t 72) (zi 256)) 69 true,zo 74 (.pick (.t 69) (.t 73) (.c (.bool false))),zm 75 74,zg 76 (.fieldA 20 (.t 1)) 75 true,zg 77 (.load false 1 (.t 76)) 75 true,zg 78 (.len false (.t 77)) 75 true,zg 79 (.bin .leq (.t 78) (zi 16)) 75 true,zo 80 (.pick (.t 75) (.t 79) (.c (.bool false))),zm 4 80] (zr [zm 81 4,zo 82 (.un .not (.t 81))] 82 (zq [zo 2 (.mv (zi 130))] .ret) .skip (.seq (zq [zf 83 18 1,zl 84 83,zh 85 84,zo 86 (.mv (zi 0))] (.block 0 (.loop (zq [zb 87 .lss 86 85] (.seq (.cond (.t 87) .skip (.exit 0)) (.seq (.block 1 (zq [zo 88 (.idxA 6 (.t 84) (.t 86)),zt 89 6 88,zo 6 (.new [zU 0,zI 0,zI 0,zI 0,.str [],.str []]),zp (.store 6 (.t 6) (.t 89))] (zq [zt 90 6 6,zx 91 27 [.t 90],zo 92 (.un .not (.t 91))] (.cond (.t 92) (zq [zo 2 (.mv (zi 130))] .ret) .skip)))) (.reg [zk 93 .add 86 1,zm 86 93]))))))) (.seq (zq [zf 94 19 1,zl 95 94,zh 96 95,zo 97 (.mv (zi 0))] (.block 2 (.loop (zq [zb 98 .lss 97 96] (.seq (.cond (.t 98) .skip (.exit 2)) (.seq (.block 3 (zq [zo 99 (.idxA 5 (.t 95) (.t 97)),zt 100 5 99,zo 8 (.new [zI 0,zI 0,zI 0,zI 0,zI 0]),zp (.store 5 (.t 8) (.t 100))] (zq [zt 101 5 8,zx 102 28 [.t 101],zo 103 (.un .not (.t 102))] (.cond (.t 103) (zq [zo 2 (.mv (zi 130))] .ret) .skip)))) (.reg [zk 104 .add 97 1,zm 97 104]))))))) (.seq (zq [zf 105 20 1,zl 106 105,zh 107 106,zo 108 (.mv (zi 0))] (.block 4 (.loop (zq [zb 109 .lss 108 107] (.seq (.cond (.t 109) .skip (.exit 4)) (.seq (.block 5 (zq [zo 110 (.idxA 5 (.t 106) (.t 108)),zt 111 5 110,zo 10 (.new [.str [],zI 0,zI 0,zI 0,zI 0]),zp (.store 5 (.t 10) (.t 111))] (zq [zf 112 0 10,zl 113 112,zx 114 29 [.t 113],zo 115 (.un .not (.t 114)),zm 116 115,zg 117 (.fieldA 1 (.t 10)) 116 false,zg 118 (.load true 3 (.t 117)) 116 false,zg 119 (.call 25 [.t 118]) 116 false,zg 120 (.un .not (.t 119)) 116 false,zo 121 (.pick (.t 116) (.c (.bool true)) (.t 120))] (.cond (.t 121) (zq [zo 2 (.mv (zi 130))] .ret) .skip)))) (.reg [zk 122 .add 108 1,zm 108 122]))))))) (zr [zt 123 21 1,zx 124 23 [.t 123],zo 125 (.un .not (.t 124))] 125 (zq [zo 2 (.mv (zi 130))] .ret) .skip (zq [zo 2 (.mv (zi 0))] .ret)))))))),[.t 2]⟩
theorem za9:cN Tryz.prog 9=some c9:=by kernel_rfl
def LK:bW:=⟨15,zq [zo 6 (.mv (.c (.bool false)))] (zq [zm 7 1,zm 8 0,zb 9 .leq 7 8,zm 10 9,zg 11 (.mv (.t 0)) 10 true,zg 12 (.mv (.t 2)) 10 true,zg 13 (.bin .leq (.t 11) (.t 12)) 10 true,zo 14 (.pick (.t 10) (.t 13) (.c (.bool false))),zm 6 14] .ret),[.t 6]⟩
theorem MP:cN Tryz.prog 24=some LK:=by kernel_rfl
def c5:bW:=⟨91,zq [zo 0 (.mv (.c (.bool false)))] (zq [zx 14 7 [.c (.str [115,105,122,101,32,50,32,49,10,100,105,102,102,117,115,101,32,49,32,48,46,53,32,48,10,98,97,108,108,32,48,32,48,32,48,32,49,32,48])],zm 13 14,ze 15 0 13,ze 16 1 13,zo 1 (.new [zI 0,zI 0,zI 0,zI 0,.int .u64 (.ofNat 0),zI 0,zI 0,zI 0,zI 0,zI 0,zI 0,zI 0,zI 0,zI 0,zI 0,zI 0,zI 0,zI 0,zN,zN,zN]),zo 2 (.new [zI 0,zI 0]),zp (.store 21 (.t 1) (.t 15)),zp (.store 2 (.t 2) (.t 16))] (zq [zx 18 7 [.c (.str [115,105,122,101,32,50])],zm 17 18,ze 19 0 17,ze 20 1 17,zo 3 (.new [zI 0,zI 0,zI 0,zI 0,.int .u64 (.ofNat 0),zI 0,zI 0,zI 0,zI 0,zI 0,zI 0,zI 0,zI 0,zI 0,zI 0,zI 0,zI 0,zI 0,zN,zN,zN]),zo 4 (.new [zI 0,zI 0]),zp (.store 21 (.t 3) (.t 19)),zp (.store 2 (.t 4) (.t 20))] (zq [zx 22 7 [.c (.str [115,105,122,101,32,50,32,50,10,115,105,122,101,32,50,32,50])],zm 21 22,ze 23 0 21,ze 24 1 21,zo 5 (.new [zI 0,zI 0,zI 0,zI 0,.int .u64 (.ofNat 0),zI 0,zI 0,zI 0,zI 0,zI 0,zI 0,zI 0,zI 0,zI 0,zI 0,zI 0,zI 0,zI 0,zN,zN,zN]),zo 6 (.new [zI 0,zI 0]),zp (.store 21 (.t 5) (.t 23)),zp (.store 2 (.t 6) (.t 24))] (zq [zx 26 7 [.c (.str [115,105,122,101,32,50,32,50,10,98,97,108,108,32,48,32,48,32,48,32,49,32,48])],zm 25 26,ze 27 0 25,ze 28 1 25,zo 7 (.new [zI 0,zI 0,zI 0,zI 0,.int .u64 (.ofNat 0),zI 0,zI 0,zI 0,zI 0,zI 0,zI 0,zI 0,zI 0,zI 0,zI 0,zI 0,zI 0,zI 0,zN,zN,zN]),zo 8 (.new [zI 0,zI 0]),zp (.store 21 (.t 7) (.t 27)),zp (.store 2 (.t 8) (.t 28))] (zq [zx 30 7 [.c (.str [115,105,122,101,32,49,32,49,10,98,97,108,108,32,48,32,48,32,48,32,45,49,32,48])],zm 29 30,ze 31 0 29,ze 32 1 29,zo 9 (.new [zI 0,zI 0,zI 0,zI 0,.int .u64 (.ofNat 0),zI 0,zI 0,zI 0,zI 0,zI 0,zI 0,zI 0,zI 0,zI 0,zI 0,zI 0,zI 0,zI 0,zN,zN,zN]),zo 10 (.new [zI 0,zI 0]),zp (.store 21 (.t 9) (.t 31)),zp (.store 2 (.t 10) (.t 32))] (zq [zt 34 21 1,zx 35 6 [.t 34],zm 33 35,ze 36 0 33,ze 37 1 33,zm 11 36,zm 12 37] (zq [zf 38 0 2,zl 39 38,zk 40 .eql 39 0,zm 41 40,zg 42 (.fieldA 0 (.t 1)) 41 true,zg 43 (.load false 1 (.t 42)) 41 true,zg 44 (.bin .eql (.t 43) (zi 2)) 41 true,zo 45 (.pick (.t 41) (.t 44) (.c (.bool false))),zm 46 45,zg 47 (.fieldA 1 (.t 1)) 46 true,zg 48 (.load false 1 (.t 47)) 46 true,zg 49 (.bin .eql (.t 48) (zi 1)) 46 true,zo 50 (.pick (.t 46) (.t 49) (.c (.bool false))),zm 51 50,zg 52 (.fieldA 18 (.t 1)) 51 true,zg 53 (.load false 1 (.t 52)) 51 true,zg 54 (.len false (.t 53)) 51 true,zg 55 (.bin .eql (.t 54) (zi 1)) 51 true,zo 56 (.pick (.t 51) (.t 55) (.c (.bool false))),zm 57 56,zg 58 (.fieldA 19 (.t 1)) 57 true,zg 59 (.load false 1 (.t 58)) 57 true,zg 60 (.len false (.t 59)) 57 true,zg 61 (.bin .eql (.t 60) (zi 1)) 57 true,zo 62 (.pick (.t 57) (.t 61) (.c (.bool false))),zm 63 62,zg 64 (.load true 2 (.t 4)) 63 true,zg 65 (.build [zI 0,zI 0] [(0,1,zi 130),(1,1,zi 1)]) 63 true,zg 66 (.pf (.eqS false [(0,.int),(1,.int)]) [.t 64,.t 65]) 63 true,zo 67 (.pick (.t 63) (.t 66) (.c (.bool false))),zm 68 67,zg 69 (.load true 2 (.t 6)) 68 true,zg 70 (.build [zI 0,zI 0] [(0,1,zi 130),(1,1,zi 2)]) 68 true,zg 71 (.pf (.eqS false [(0,.int),(1,.int)]) [.t 69,.t 70]) 68 true,zo 72 (.pick (.t 68) (.t 71) (.c (.bool false))),zm 73 72,zg 74 (.load true 2 (.t 8)) 73 true,zg 75 (.build [zI 0,zI 0] [(0,1,zi 130)]) 73 true,zg 76 (.pf (.eqS false [(0,.int),(1,.int)]) [.t 74,.t 75]) 73 true,zo 77 (.pick (.t 73) (.t 76) (.c (.bool false))),zm 78 77,zg 79 (.load true 2 (.t 10)) 78 true,zg 80 (.build [zI 0,zI 0] [(0,1,zi 130),(1,1,zi 2)]) 78 true,zg 81 (.pf (.eqS false [(0,.int),(1,.int)]) [.t 79,.t 80]) 78 true,zo 82 (.pick (.t 78) (.t 81) (.c (.bool false))),zm 83 82,zg 84 (.mv (.t 12)) 83 true,zg 85 (.bin .eql (.t 84) (zi 0)) 83 true,zo 86 (.pick (.t 83) (.t 85) (.c (.bool false))),zm 87 86,zg 88 (.mv (.t 11)) 87 true,zg 89 (.call 12 [.t 88,.c (.str [115,105,122,101,32,50,32,49,10,115,97,109,112,108,101,115,32,49,10,98,111,117,110,99,101,115,32,50,10,115,101,101,100,32,48,10,101,121,101,32,48,32,48,32,45,52,10])]) 87 true,zo 90 (.pick (.t 87) (.t 89) (.c (.bool false))),zm 0 90] .ret))))))),[.t 0]⟩
theorem za5:cN Tryz.prog 5=some c5:=by kernel_rfl
def c6:bW:=⟨139,zq [zo 1 (.box (.t 0)),zo 2 (.mv (.c (.str []))),zo 3 (.mv (zi 0))] (.seq (zq [zt 12 21 1,zx 13 9 [.t 12],zm 4 13] (zq [zm 14 4,zk 15 .neq 14 0] (.cond (.t 15) (zq [zm 16 4,zo 2 (.mv (.c (.str []))),zm 3 16] .ret) .skip))) (zq [zo 17 (.build [zN] []),zo 18 (.box (.t 17)),zm 5 18] (.seq (.draw [zm 19 5,zf 20 0 1,zl 21 20,zx 22 14 [.t 21],zf 23 1 1,zl 24 23,zx 25 14 [.t 24],zo 26 (.buildSl 3 [.str []] [(0,1,.c (.str [115,105,122,101])),(1,1,.t 22),(2,1,.t 25)]),zx 27 13 [.t 19,.t 26]] [[],[],[],[],[],[3],[],[],[]]) (zq [zm 28 5,zf 29 2 1,zl 30 29,zx 31 14 [.t 30],zo 32 (.buildSl 2 [.str []] [(0,1,.c (.str [115,97,109,112,108,101,115])),(1,1,.t 31)]),zx 33 13 [.t 28,.t 32]] (zq [zm 34 5,zf 35 3 1,zl 36 35,zx 37 14 [.t 36],zo 38 (.buildSl 2 [.str []] [(0,1,.c (.str [98,111,117,110,99,101,115])),(1,1,.t 37)]),zx 39 13 [.t 34,.t 38]] (zq [zm 40 5,zf 41 4 1,zl 42 41,zx 43 15 [.t 42,zi 10],zo 44 (.buildSl 2 [.str []] [(0,1,.c (.str [115,101,101,100])),(1,1,.t 43)]),zx 45 13 [.t 40,.t 44]] (zq [zm 46 5,zf 47 5 1,zt 48 3 47,zx 49 16 [.t 48],zo 50 (.buildSl 2 [.str []] [(0,1,.c (.str [101,121,101])),(1,1,.t 49)]),zx 51 13 [.t 46,.t 50]] (zq [zm 52 5,zf 53 8 1,zt 54 3 53,zx 55 16 [.t 54],zo 56 (.buildSl 2 [.str []] [(0,1,.c (.str [97,116])),(1,1,.t 55)]),zx 57 13 [.t 52,.t 56]] (zq [zm 58 5,zf 59 11 1,zt 60 3 59,zx 61 16 [.t 60],zo 62 (.buildSl 2 [.str []] [(0,1,.c (.str [117,112])),(1,1,.t 61)]),zx 63 13 [.t 58,.t 62]] (zq [zm 64 5,zf 65 14 1,zl 66 65,zx 67 17 [.t 66],zo 68 (.buildSl 2 [.str []] [(0,1,.c (.str [119,105,100,101])),(1,1,.t 67)]),zx 69 13 [.t 64,.t 68]] (zq [zm 70 5,zf 71 15 1,zt 72 3 71,zx 73 16 [.t 72],zo 74 (.buildSl 2 [.str []] [(0,1,.c (.str [115,107,121])),(1,1,.t 73)]),zx 75 13 [.t 70,.t 74]] (.seq (zq [zf 76 18 1,zl 77 76,zh 78 77,zo 79 (.mv (zi 0))] (.block 0 (.loop (zq [zb 80 .lss 79 78] (.seq (.cond (.t 80) .skip (.exit 0)) (.seq (.block 1 (zq [zo 81 (.idxA 6 (.t 77) (.t 79)),zt 82 6 81,zo 7 (.new [zU 0,zI 0,zI 0,zI 0,.str [],.str []]),zp (.store 6 (.t 7) (.t 82))] (.reg [zm 83 5,zt 84 6 7,zx 85 18 [.t 83,.t 84]]))) (.reg [zk 86 .add 79 1,zm 79 86]))))))) (.seq (zq [zf 87 19 1,zl 88 87,zh 89 88,zo 90 (.mv (zi 0))] (.block 2 (.loop (zq [zb 91 .lss 90 89] (.seq (.cond (.t 91) .skip (.exit 2)) (.seq (.block 3 (zq [zo 92 (.idxA 5 (.t 88) (.t 90)),zt 93 5 92,zo 9 (.new [zI 0,zI 0,zI 0,zI 0,zI 0]),zp (.store 5 (.t 9) (.t 93))] (.draw [zm 94 5,zf 95 0 9,zf 96 0 95,zt 97 3 96,zx 98 16 [.t 97],zf 99 0 9,zf 100 3 99,zl 101 100,zx 102 17 [.t 101],zf 103 4 9,zl 104 103,zx 105 14 [.t 104],zo 106 (.buildSl 4 [.str []] [(0,1,.c (.str [98,97,108,108])),(1,1,.t 98),(2,1,.t 102),(3,1,.t 105)]),zx 107 13 [.t 94,.t 106]] [[],[],[],[],[],[],[],[4],[],[],[4,8],[],[],[]]))) (.reg [zk 108 .add 90 1,zm 90 108]))))))) (.seq (zq [zf 109 20 1,zl 110 109,zh 111 110,zo 112 (.mv (zi 0))] (.block 4 (.loop (zq [zb 113 .lss 112 111] (.seq (.cond (.t 113) .skip (.exit 4)) (.seq (.block 5 (zq [zo 114 (.idxA 5 (.t 110) (.t 112)),zt 115 5 114,zo 11 (.new [.str [],zI 0,zI 0,zI 0,zI 0]),zp (.store 5 (.t 11) (.t 115))] (.draw [zm 116 5,zf 117 0 11,zl 118 117,zf 119 1 11,zt 120 3 119,zx 121 16 [.t 120],zf 122 4 11,zl 123 122,zx 124 14 [.t 123],zo 125 (.buildSl 4 [.str []] [(0,1,.c (.str [109,101,115,104])),(1,1,.t 118),(2,1,.t 121),(3,1,.t 124)]),zx 126 13 [.t 116,.t 125]] [[],[],[8,9],[],[],[],[],[5],[],[],[]]))) (.reg [zk 127 .add 112 1,zm 112 127]))))))) (zr [zm 128 5,zc 129 128,zf 130 0 129,zl 131 130,zh 132 131,zk 133 .gtr 132 16384] 133 (zq [zo 2 (.mv (.c (.str []))),zo 3 (.mv (zi 3))] .ret) .skip (zq [zm 134 5,zc 135 134,zf 136 0 135,zl 137 136,zo 138 (.convBS (.t 137)),zm 2 138,zo 3 (.mv (zi 0))] .ret)))))))))))))))),[.t 2,.t 3]⟩
theorem za6:cN Tryz.prog 6=some c6:=by kernel_rfl
def c14:bW:=⟨5,zq [zo 2 (.mv (.c (.str [])))] (zq [zm 3 0,zx 4 37 [.t 3],zm 2 4] .ret),[.t 2]⟩
theorem MY:cN Tryz.prog 14=some c14:=by kernel_rfl
def c37:bW:=⟨5,zq [zo 2 (.mv (.c (.str [])))] (zq [zm 3 0,zx 4 71 [.t 3,zi 10],zm 2 4] .ret),[.t 2]⟩
theorem MI:cN Tryz.prog 37=some c37:=by kernel_rfl
def Nf:bW:=⟨54,zq [zo 4 (.mv (.c (.str [])))] (zr [zm 10 1,zk 11 .eql 10 10] 11 (zr [zm 12 0,zo 13 (.bin .leq (zi 0) (.t 12)),zm 14 13,zg 15 (.mv (.t 0)) 14 true,zg 16 (.bin .lss (.t 15) (zi 100)) 14 true,zo 17 (.pick (.t 14) (.t 16) (.c (.bool false)))] 17 (zq [zm 18 0,zx 19 72 [.t 18],zm 4 19] .ret) .skip (zq [zo 5 (.new [zU 0,zU 0,zU 0,zU 0,zU 0,zU 0,zU 0,zU 0,zU 0,zU 0,zU 0,zU 0,zU 0,zU 0,zU 0,zU 0,zU 0,zU 0,zU 0,zU 0,zU 0,zU 0,zU 0,zU 0])] (zq [zm 20 0,zv 21 .u64 20,zm 6 21] (zr [zm 22 0,zk 23 .lss 22 0] 23 (.reg [zm 24 6,zo 25 (.un .neg (.t 24)),zm 6 25]) .skip (zq [zm 26 6,zx 27 73 [.t 26],zm 7 27] (zq [zm 28 7,zo 29 (.bin .add (zi 1) (.t 28)),zo 30 (.slA 24 1 (.t 5) (some (zi 1)) (some (.t 29)) none),zm 31 6,zx 32 74 [.t 30,.t 31]] (zr [zm 33 0,zk 34 .lss 33 0] 34 (zq [zo 35 (.idxArr 24 1 (.t 5) (zi 0)),zp (.store 1 (.t 35) (zu 45))] (zq [zm 36 7,zo 37 (.bin .add (zi 1) (.t 36)),zo 38 (.slA 24 1 (.t 5) none (some (.t 37)) none),zo 39 (.convBS (.t 38)),zm 4 39] .ret)) .skip (zq [zm 40 7,zo 41 (.bin .add (zi 1) (.t 40)),zo 42 (.slA 24 1 (.t 5) (some (zi 1)) (some (.t 41)) none),zo 43 (.convBS (.t 42)),zm 4 43] .ret)))))))) .skip (zq [zm 45 0,zv 46 .u64 45,zm 47 1,zm 48 0,zk 49 .lss 48 0,zx 50 75 [zn,.t 46,.t 47,.t 49,.c (.bool false)],zm 44 50,ze 51 0 44,ze 52 1 44,zm 8 51,zm 9 52] (zq [zm 53 9,zm 4 53] .ret))),[.t 4]⟩
theorem Md:cN Tryz.prog 71=some Nf:=by kernel_rfl
def c13:bW:=⟨23,.seq (.draw [zm 4 0,zm 5 0,zc 6 5,zf 7 0 6,zl 8 7,zm 9 1,zx 10 36 [.t 9,.c (.str [32])],zy 11 8 10,zc 12 4,zf 13 0 12,zs 13 11] [[],[],[],[],[7],[],[],[],[],[],[]]) (.reg [zm 14 0,zm 15 0,zc 16 15,zf 17 0 16,zl 18 17,zo 19 (.buildSl 1 [zU 0] [(0,1,zu 10)]),zy 20 18 19,zc 21 14,zf 22 0 21,zs 22 20]),[]⟩
theorem MZ:cN Tryz.prog 13=some c13:=by kernel_rfl
def c15:bW:=⟨8,zq [zo 4 (.mv (.c (.str [])))] (zq [zm 5 0,zm 6 1,zx 7 38 [.t 5,.t 6],zm 4 7] .ret),[.t 4]⟩
theorem MX:cN Tryz.prog 15=some c15:=by kernel_rfl
def Nq:bW:=⟨32,zq [zo 4 (.mv (.c (.str [])))] (zr [zm 9 1,zk 10 .eql 9 10] 10 (zr [zm 11 0,zo 12 (.bin .lss (.t 11) (.c (.int .u64 (.ofNat 100))))] 12 (zq [zm 13 0,zv 14 .i64 13,zx 15 72 [.t 14],zm 4 15] .ret) .skip (zq [zo 5 (.new [zU 0,zU 0,zU 0,zU 0,zU 0,zU 0,zU 0,zU 0,zU 0,zU 0,zU 0,zU 0,zU 0,zU 0,zU 0,zU 0,zU 0,zU 0,zU 0,zU 0,zU 0,zU 0,zU 0,zU 0])] (zq [zm 16 0,zx 17 73 [.t 16],zm 6 17] (zq [zm 18 6,zo 19 (.slA 24 1 (.t 5) none (some (.t 18)) none),zm 20 0,zx 21 74 [.t 19,.t 20]] (zq [zm 22 6,zo 23 (.slA 24 1 (.t 5) none (some (.t 22)) none),zo 24 (.convBS (.t 23)),zm 4 24] .ret))))) .skip (zq [zm 26 0,zm 27 1,zx 28 75 [zn,.t 26,.t 27,.c (.bool false),.c (.bool false)],zm 25 28,ze 29 0 25,ze 30 1 25,zm 7 29,zm 8 30] (zq [zm 31 8,zm 4 31] .ret))),[.t 4]⟩
theorem MH:cN Tryz.prog 38=some Nq:=by kernel_rfl
def c16:bW:=⟨16,zq [zo 1 (.box (.t 0)),zo 2 (.mv (.c (.str [])))] (.seq (.draw [zf 3 0 1,zl 4 3,zx 5 17 [.t 4],zo 6 (.bin .add (.t 5) (.c (.str [32]))),zf 7 1 1,zl 8 7,zx 9 17 [.t 8],zb 10 .add 6 9,zo 11 (.bin .add (.t 10) (.c (.str [32]))),zf 12 2 1,zl 13 12,zx 14 17 [.t 13],zb 15 .add 11 14,zm 2 15] [[],[],[],[],[],[2],[],[],[],[],[2,6],[],[],[]]) .ret),[.t 2]⟩
theorem MW:cN Tryz.prog 16=some c16:=by kernel_rfl
def c18:bW:=⟨47,zq [zo 3 (.box (.t 1))] (zq [zf 4 0 3,zl 5 4] (.block 0 (zq [zo 7 (.bin .eql (.t 5) (zu 1)),zm 6 7] (.cond (.t 6) (.reg [zm 8 0,zf 9 1 3,zt 10 3 9,zx 11 16 [.t 10],zo 12 (.buildSl 2 [.str []] [(0,1,.c (.str [100,105,102,102,117,115,101])),(1,1,.t 11)]),zx 13 13 [.t 8,.t 12]]) (zq [zo 15 (.bin .eql (.t 5) (zu 2)),zm 14 15] (.cond (.t 14) (.reg [zm 16 0,zf 17 1 3,zt 18 3 17,zx 19 16 [.t 18],zo 20 (.buildSl 2 [.str []] [(0,1,.c (.str [109,105,114,114,111,114])),(1,1,.t 19)]),zx 21 13 [.t 16,.t 20]]) (zq [zo 23 (.bin .eql (.t 5) (zu 3)),zm 22 23] (.cond (.t 22) (.reg [zm 24 0,zf 25 1 3,zt 26 3 25,zx 27 16 [.t 26],zo 28 (.buildSl 2 [.str []] [(0,1,.c (.str [103,108,111,119])),(1,1,.t 27)]),zx 29 13 [.t 24,.t 28]]) (zq [zo 31 (.bin .eql (.t 5) (zu 4)),zm 30 31] (.cond (.t 30) (zq [zf 32 5 3,zl 33 32,zo 34 (.bin .eql (.t 33) (.c (.str [])))] (.cond (.t 34) (.reg [zm 35 0,zf 36 4 3,zl 37 36,zo 38 (.buildSl 2 [.str []] [(0,1,.c (.str [115,104,97,100,101,114])),(1,1,.t 37)]),zx 39 13 [.t 35,.t 38]]) (.reg [zm 40 0,zf 41 4 3,zl 42 41,zf 43 5 3,zl 44 43,zo 45 (.buildSl 3 [.str []] [(0,1,.c (.str [115,104,97,100,101,114])),(1,1,.t 42),(2,1,.t 44)]),zx 46 13 [.t 40,.t 45]]))) .skip)))))))))),[]⟩
theorem MU:cN Tryz.prog 18=some c18:=by kernel_rfl
def c3:bW:=⟨155,zq [zo 2 (.box (.t 0)),zo 4 (.mv (.c (.bool false)))] (zr [zf 17 18 2,zl 18 17,zh 19 18,zf 20 19 2,zl 21 20,zh 22 21,zb 23 .add 19 22,zf 24 20 2,zl 25 24,zh 26 25,zb 27 .add 23 26,zk 28 .gtr 27 400,zm 29 28,zg 30 (.mv (.t 1)) 29 false,zg 31 (.len true (.t 30)) 29 false,zg 32 (.bin .gtr (.t 31) (zi 4000)) 29 false,zo 33 (.pick (.t 29) (.c (.bool true)) (.t 32))] 33 (zq [zx 34 5 [],zm 4 34] .ret) .skip (.seq (zq [zt 36 21 2,zx 37 6 [.t 36],zm 35 37,ze 38 0 35,ze 39 1 35,zm 5 38,zm 6 39] (zq [zm 40 6,zk 41 .eql 40 0] (.cond (.t 41) (zq [zm 43 5,zx 44 7 [.t 43],zm 42 44,ze 45 0 42,ze 46 1 42,zo 7 (.new [zI 0,zI 0,zI 0,zI 0,.int .u64 (.ofNat 0),zI 0,zI 0,zI 0,zI 0,zI 0,zI 0,zI 0,zI 0,zI 0,zI 0,zI 0,zI 0,zI 0,zN,zN,zN]),zo 8 (.new [zI 0,zI 0]),zp (.store 21 (.t 7) (.t 45)),zp (.store 2 (.t 8) (.t 46))] (zq [zf 47 0 8,zl 48 47,zk 49 .neq 48 0,zm 50 49,zg 51 (.load true 21 (.t 2)) 50 false,zg 52 (.load true 21 (.t 7)) 50 false,zg 53 (.call 8 [.t 51,.t 52]) 50 false,zg 54 (.un .not (.t 53)) 50 false,zo 55 (.pick (.t 50) (.c (.bool true)) (.t 54))] (.cond (.t 55) (zq [zo 4 (.mv (.c (.bool false)))] .ret) .skip))) (zq [zm 56 6,zk 57 .neq 56 130,zm 58 57,zg 59 (.mv (.t 6)) 58 true,zg 60 (.bin .neq (.t 59) (zi 3)) 58 true,zo 61 (.pick (.t 58) (.t 60) (.c (.bool false)))] (.cond (.t 61) (zq [zo 4 (.mv (.c (.bool false)))] .ret) .skip))))) (zq [zm 63 1,zx 64 7 [.t 63],zm 62 64,ze 65 0 62,ze 66 1 62,zo 9 (.new [zI 0,zI 0,zI 0,zI 0,.int .u64 (.ofNat 0),zI 0,zI 0,zI 0,zI 0,zI 0,zI 0,zI 0,zI 0,zI 0,zI 0,zI 0,zI 0,zI 0,zN,zN,zN]),zo 10 (.new [zI 0,zI 0]),zp (.store 21 (.t 9) (.t 65)),zp (.store 2 (.t 10) (.t 66))] (zq [zm 68 1,zo 69 (.bin .add (.c (.str [35,32,102,105,114,115,116,10,9,32,13,10])) (.t 68)),zx 70 7 [.t 69],zm 67 70,ze 71 0 67,ze 72 1 67,zo 11 (.new [zI 0,zI 0,zI 0,zI 0,.int .u64 (.ofNat 0),zI 0,zI 0,zI 0,zI 0,zI 0,zI 0,zI 0,zI 0,zI 0,zI 0,zI 0,zI 0,zI 0,zN,zN,zN]),zo 12 (.new [zI 0,zI 0]),zp (.store 21 (.t 11) (.t 71)),zp (.store 2 (.t 12) (.t 72))] (zr [zf 73 0 10,zl 74 73,zk 75 .neq 74 0] 75 (zq [zf 76 0 10,zl 77 76,zf 78 0 12,zl 79 78,zb 80 .eql 77 79,zm 81 80,zg 82 (.fieldA 1 (.t 10)) 81 true,zg 83 (.load false 1 (.t 82)) 81 true,zg 84 (.bin .eql (.t 83) (zi 0)) 81 true,zg 85 (.fieldA 1 (.t 12)) 81 true,zg 86 (.load false 1 (.t 85)) 81 true,zg 87 (.bin .eql (.t 86) (zi 0)) 81 true,zg 88 (.pf (.eqv false .bool) [.t 84,.t 87]) 81 true,zo 89 (.pick (.t 81) (.t 88) (.c (.bool false))),zm 90 89,zg 91 (.fieldA 1 (.t 10)) 90 true,zg 92 (.load false 1 (.t 91)) 90 true,zg 93 (.bin .eql (.t 92) (zi 0)) 90 true,zg 94 (.mv (.t 93)) 90 true,zg 95 (.fieldA 1 (.t 12)) 94 false,zg 96 (.load false 1 (.t 95)) 94 false,zg 97 (.fieldA 1 (.t 10)) 94 false,zg 98 (.load false 1 (.t 97)) 94 false,zg 99 (.bin .add (.t 98) (zi 2)) 94 false,zg 100 (.bin .eql (.t 96) (.t 99)) 94 false,zg 101 (.pick (.t 94) (.c (.bool true)) (.t 100)) 90 true,zo 102 (.pick (.t 90) (.t 101) (.c (.bool false))),zm 103 102,zg 104 (.call 5 []) 103 true,zo 105 (.pick (.t 103) (.t 104) (.c (.bool false))),zm 4 105] .ret) .skip (zq [zt 107 21 9,zx 108 6 [.t 107],zm 106 108,ze 109 0 106,ze 110 1 106,zm 13 109,zm 14 110] (zr [zt 111 21 9,zx 112 9 [.t 111],zk 113 .neq 112 0,zm 114 113,zg 115 (.fieldA 0 (.t 12)) 114 false,zg 116 (.load false 1 (.t 115)) 114 false,zg 117 (.bin .neq (.t 116) (zi 0)) 114 false,zo 118 (.pick (.t 114) (.c (.bool true)) (.t 117)),zm 119 118,zg 120 (.load true 21 (.t 9)) 119 false,zg 121 (.load true 21 (.t 11)) 119 false,zg 122 (.call 8 [.t 120,.t 121]) 119 false,zg 123 (.un .not (.t 122)) 119 false,zo 124 (.pick (.t 119) (.c (.bool true)) (.t 123)),zm 125 124,zg 126 (.mv (.t 14)) 125 false,zg 127 (.bin .neq (.t 126) (zi 0)) 125 false,zo 128 (.pick (.t 125) (.c (.bool true)) (.t 127))] 128 (zq [zm 129 14,zk 130 .eql 129 3,zm 131 130,zg 132 (.fieldA 0 (.t 12)) 131 true,zg 133 (.load false 1 (.t 132)) 131 true,zg 134 (.bin .eql (.t 133) (zi 0)) 131 true,zo 135 (.pick (.t 131) (.t 134) (.c (.bool false))),zm 136 135,zg 137 (.call 5 []) 136 true,zo 138 (.pick (.t 136) (.t 137) (.c (.bool false))),zm 4 138] .ret) .skip (zq [zm 140 13,zx 141 7 [.t 140],zm 139 141,ze 142 0 139,ze 143 1 139,zo 15 (.new [zI 0,zI 0,zI 0,zI 0,.int .u64 (.ofNat 0),zI 0,zI 0,zI 0,zI 0,zI 0,zI 0,zI 0,zI 0,zI 0,zI 0,zI 0,zI 0,zI 0,zN,zN,zN]),zo 16 (.new [zI 0,zI 0]),zp (.store 21 (.t 15) (.t 142)),zp (.store 2 (.t 16) (.t 143))] (zq [zf 144 0 16,zl 145 144,zk 146 .eql 145 0,zm 147 146,zg 148 (.load true 21 (.t 9)) 147 true,zg 149 (.load true 21 (.t 15)) 147 true,zg 150 (.call 8 [.t 148,.t 149]) 147 true,zo 151 (.pick (.t 147) (.t 150) (.c (.bool false))),zm 152 151,zg 153 (.call 5 []) 152 true,zo 154 (.pick (.t 152) (.t 153) (.c (.bool false))),zm 4 154] .ret))))))))),[.t 4]⟩
def c8:bW:=⟨157,zq [zo 2 (.box (.t 0)),zo 3 (.box (.t 1)),zo 4 (.mv (.c (.bool false)))] (zr [zf 8 0 2,zl 9 8,zf 10 0 3,zl 11 10,zb 12 .neq 9 11,zm 13 12,zg 14 (.fieldA 1 (.t 2)) 13 false,zg 15 (.load false 1 (.t 14)) 13 false,zg 16 (.fieldA 1 (.t 3)) 13 false,zg 17 (.load false 1 (.t 16)) 13 false,zg 18 (.bin .neq (.t 15) (.t 17)) 13 false,zo 19 (.pick (.t 13) (.c (.bool true)) (.t 18)),zm 20 19,zg 21 (.fieldA 2 (.t 2)) 20 false,zg 22 (.load false 1 (.t 21)) 20 false,zg 23 (.fieldA 2 (.t 3)) 20 false,zg 24 (.load false 1 (.t 23)) 20 false,zg 25 (.bin .neq (.t 22) (.t 24)) 20 false,zo 26 (.pick (.t 20) (.c (.bool true)) (.t 25)),zm 27 26,zg 28 (.fieldA 3 (.t 2)) 27 false,zg 29 (.load false 1 (.t 28)) 27 false,zg 30 (.fieldA 3 (.t 3)) 27 false,zg 31 (.load false 1 (.t 30)) 27 false,zg 32 (.bin .neq (.t 29) (.t 31)) 27 false,zo 33 (.pick (.t 27) (.c (.bool true)) (.t 32)),zm 34 33,zg 35 (.fieldA 4 (.t 2)) 34 false,zg 36 (.load false 1 (.t 35)) 34 false,zg 37 (.fieldA 4 (.t 3)) 34 false,zg 38 (.load false 1 (.t 37)) 34 false,zg 39 (.bin .neq (.t 36) (.t 38)) 34 false,zo 40 (.pick (.t 34) (.c (.bool true)) (.t 39)),zm 41 40,zg 42 (.fieldA 5 (.t 2)) 41 false,zg 43 (.load true 3 (.t 42)) 41 false,zg 44 (.fieldA 5 (.t 3)) 41 false,zg 45 (.load true 3 (.t 44)) 41 false,zg 46 (.pf (.eqS true [(0,.int),(1,.int),(2,.int)]) [.t 43,.t 45]) 41 false,zo 47 (.pick (.t 41) (.c (.bool true)) (.t 46)),zm 48 47,zg 49 (.fieldA 8 (.t 2)) 48 false,zg 50 (.load true 3 (.t 49)) 48 false,zg 51 (.fieldA 8 (.t 3)) 48 false,zg 52 (.load true 3 (.t 51)) 48 false,zg 53 (.pf (.eqS true [(0,.int),(1,.int),(2,.int)]) [.t 50,.t 52]) 48 false,zo 54 (.pick (.t 48) (.c (.bool true)) (.t 53)),zm 55 54,zg 56 (.fieldA 11 (.t 2)) 55 false,zg 57 (.load true 3 (.t 56)) 55 false,zg 58 (.fieldA 11 (.t 3)) 55 false,zg 59 (.load true 3 (.t 58)) 55 false,zg 60 (.pf (.eqS true [(0,.int),(1,.int),(2,.int)]) [.t 57,.t 59]) 55 false,zo 61 (.pick (.t 55) (.c (.bool true)) (.t 60)),zm 62 61,zg 63 (.fieldA 14 (.t 2)) 62 false,zg 64 (.load false 1 (.t 63)) 62 false,zg 65 (.fieldA 14 (.t 3)) 62 false,zg 66 (.load false 1 (.t 65)) 62 false,zg 67 (.bin .neq (.t 64) (.t 66)) 62 false,zo 68 (.pick (.t 62) (.c (.bool true)) (.t 67)),zm 69 68,zg 70 (.fieldA 15 (.t 2)) 69 false,zg 71 (.load true 3 (.t 70)) 69 false,zg 72 (.fieldA 15 (.t 3)) 69 false,zg 73 (.load true 3 (.t 72)) 69 false,zg 74 (.pf (.eqS true [(0,.int),(1,.int),(2,.int)]) [.t 71,.t 73]) 69 false,zo 75 (.pick (.t 69) (.c (.bool true)) (.t 74)),zm 76 75,zg 77 (.fieldA 18 (.t 2)) 76 false,zg 78 (.load false 1 (.t 77)) 76 false,zg 79 (.len false (.t 78)) 76 false,zg 80 (.fieldA 18 (.t 3)) 76 false,zg 81 (.load false 1 (.t 80)) 76 false,zg 82 (.len false (.t 81)) 76 false,zg 83 (.bin .neq (.t 79) (.t 82)) 76 false,zo 84 (.pick (.t 76) (.c (.bool true)) (.t 83)),zm 85 84,zg 86 (.fieldA 19 (.t 2)) 85 false,zg 87 (.load false 1 (.t 86)) 85 false,zg 88 (.len false (.t 87)) 85 false,zg 89 (.fieldA 19 (.t 3)) 85 false,zg 90 (.load false 1 (.t 89)) 85 false,zg 91 (.len false (.t 90)) 85 false,zg 92 (.bin .neq (.t 88) (.t 91)) 85 false,zo 93 (.pick (.t 85) (.c (.bool true)) (.t 92)),zm 94 93,zg 95 (.fieldA 20 (.t 2)) 94 false,zg 96 (.load false 1 (.t 95)) 94 false,zg 97 (.len false (.t 96)) 94 false,zg 98 (.fieldA 20 (.t 3)) 94 false,zg 99 (.load false 1 (.t 98)) 94 false,zg 100 (.len false (.t 99)) 94 false,zg 101 (.bin .neq (.t 97) (.t 100)) 94 false,zo 102 (.pick (.t 94) (.c (.bool true)) (.t 101))] 102 (zq [zo 4 (.mv (.c (.bool false)))] .ret) .skip (.seq (zq [zf 103 18 2,zl 104 103,zh 105 104,zo 106 (.mv (zi 0))] (.block 0 (.loop (zq [zb 107 .lss 106 105] (.seq (.cond (.t 107) .skip (.exit 0)) (.seq (.block 1 (zq [zm 108 106,zm 5 108] (zq [zf 109 18 2,zl 110 109,zm 111 5,zo 112 (.idxA 6 (.t 110) (.t 111)),zt 113 6 112,zf 114 18 3,zl 115 114,zm 116 5,zo 117 (.idxA 6 (.t 115) (.t 116)),zt 118 6 117,zo 119 (.pf (.eqS true [(0,.int),(1,.int),(2,.int),(3,.int),(4,.str),(5,.str)]) [.t 113,.t 118])] (.cond (.t 119) (zq [zo 4 (.mv (.c (.bool false)))] .ret) .skip)))) (.reg [zk 120 .add 106 1,zm 106 120]))))))) (.seq (zq [zf 121 19 2,zl 122 121,zh 123 122,zo 124 (.mv (zi 0))] (.block 2 (.loop (zq [zb 125 .lss 124 123] (.seq (.cond (.t 125) .skip (.exit 2)) (.seq (.block 3 (zq [zm 126 124,zm 6 126] (zq [zf 127 19 2,zl 128 127,zm 129 6,zo 130 (.idxA 5 (.t 128) (.t 129)),zt 131 5 130,zf 132 19 3,zl 133 132,zm 134 6,zo 135 (.idxA 5 (.t 133) (.t 134)),zt 136 5 135,zo 137 (.pf (.eqS true [(0,.int),(1,.int),(2,.int),(3,.int),(4,.int)]) [.t 131,.t 136])] (.cond (.t 137) (zq [zo 4 (.mv (.c (.bool false)))] .ret) .skip)))) (.reg [zk 138 .add 124 1,zm 124 138]))))))) (.seq (zq [zf 139 20 2,zl 140 139,zh 141 140,zo 142 (.mv (zi 0))] (.block 4 (.loop (zq [zb 143 .lss 142 141] (.seq (.cond (.t 143) .skip (.exit 4)) (.seq (.block 5 (zq [zm 144 142,zm 7 144] (zq [zf 145 20 2,zl 146 145,zm 147 7,zo 148 (.idxA 5 (.t 146) (.t 147)),zt 149 5 148,zf 150 20 3,zl 151 150,zm 152 7,zo 153 (.idxA 5 (.t 151) (.t 152)),zt 154 5 153,zo 155 (.pf (.eqS true [(0,.str),(1,.int),(2,.int),(3,.int),(4,.int)]) [.t 149,.t 154])] (.cond (.t 155) (zq [zo 4 (.mv (.c (.bool false)))] .ret) .skip)))) (.reg [zk 156 .add 142 1,zm 142 156]))))))) (zq [zo 4 (.mv (.c (.bool true)))] .ret))))),[.t 4]⟩
end
open Go.Abs Go.Abs.S
def gp(v:Vc):List af:=[.int .i64 v.x,.int .i64 v.y,.int .i64 v.z]
def jh(m:Mt):List af:=[.int .u8 (m.k:Int),.int .i64 m.c.x,.int .i64 m.c.y,.int .i64 m.c.z,.str m.sh,.str m.tx]
def rB(b:Rd):List af:=[.int .i64 b.c.x,.int .i64 b.c.y,.int .i64 b.c.z,.int .i64 b.r,.int .i64 b.m]
def wR(u:Us):List af:=[.str u.n,.int .i64 u.p.x,.int .i64 u.p.y,.int .i64 u.p.z,.int .i64 u.m]
theorem ap(n i:Nat){H:ae}{b:Nat}{l:List af}(h:Row H b l)(hn:l.length=n){x:af}(hi:l[i]?=some x):bg false 1 H (ak b n i)=some x:=ib h hn hi
theorem aW(n i k:Nat){H:ae}{b:Nat}{l:List af}(h:Row H b l)(hn:l.length=n){xs:List af}(hik:i+k<=n)(e:(l.drop i).take k=xs):bg true k H (ak b n i)=some (.agg xs):=by subst e; exact my h hn hik
theorem _root_.Go.Abs.S.Row.up{n:Nat}{H H':ae}{b:Nat}{l:List af}(h:Row H b l)(e:bw n H H')(hb:b<n):Row H' b l:=h.same (e.old b hb)
theorem dJ{H H':ae}(hn:H'.next=H.next+1)(k:∀c,c≠H.next->H'.get c=H.get c):bw H.next H H':=⟨om,fun b hb=>k b om⟩
theorem pF{H:ae}{b1 b2:Nat}{x lo hi:Int}(r1:Row H b1 [.int .i64 lo])(r2:Row H b2 [.int .i64 hi]) :
  an Tryz.prog aE 66 [.int .i64 x,ak b1 1 0,ak b2 1 0] H fun v H'=>v=.bool (kY x lo hi)/\H=H':=by
 refine ai rfl Me rfl ?_
 have l1:=ap 1 0 r1 rfl rfl
 have l2:=ap 1 0 r2 rfl rfl
 by_cases c1:lo<=x
 ·by_cases c2:x<=hi
  ·simp only[LF,sA,sB,seval,l1,l2,c1,c2]; exact⟨by simp[kY,c1,c2],tt⟩
  ·simp only[LF,sA,sB,seval,l1,l2,c1,c2]; exact⟨by simp[kY,c2],tt⟩
 ·simp only[LF,sA,sB,seval,l1,l2,c1]; exact⟨by simp[kY,c1],tt⟩
theorem gv{H:ae}{v:Vc}{lo hi:Int}:an Tryz.prog aE 26 [.agg (gp v),.int .i64 lo,.int .i64 hi] H fun r H'=>r=.bool (wS v lo hi)/\bw H.next H H':=by
 refine ai rfl MN rfl ?_
 obtain⟨H1,m1,r1,n1,k1⟩:=aP H (gp v) (n:=3) rfl
 obtain⟨H2,m2,r2,n2,k2⟩:=aP H1 [.int .i64 lo] (n:=1) rfl
 obtain⟨H3,m3,r3,n3,k3⟩:=aP H2 [.int .i64 hi] (n:=1) rfl
 have q1:Row H3 H.next (gp v):=(r1.same (k2 _ om)).same (k3 _ om)
 have q2:Row H3 H1.next [.int .i64 lo]:=r2.same (k3 _ om)
 have e:bw H.next H H3:=⟨om,fun b hb=>by rw[k3 b om,k2 b om,k1 b om]⟩
 have l0:=ap 3 0 q1 rfl rfl
 have l1:=ap 3 1 q1 rfl rfl
 have l2:=ap 3 2 q1 rfl rfl
 have ca:(af.agg (gp v)).cells=gp v:=rfl
 have c1:(af.int .i64 lo).cells=[.int .i64 lo]:=rfl
 have c2:(af.int .i64 hi).cells=[.int .i64 hi]:=rfl
 simp only[c26,sA,sB,seval,ca,c1,c2,m1,m2,m3,aF,l0]
 refine (pF q2 r3).mono ?_
 rintro _ _ ⟨rfl,rfl⟩
 unfold wS
 cases h0:kY v.x lo hi with
 | false=>simp only[sA,sB,seval]; exact⟨rfl,e⟩
 | true=>
  simp only[sA,sB,seval,aF,l1]
  refine (pF q2 r3).mono ?_
  rintro _ _ ⟨rfl,rfl⟩
  cases h1:kY v.y lo hi with
  | false=>simp only[sA,sB,seval]; exact⟨rfl,e⟩
  | true=>
   simp only[sA,sB,seval,aF,l2]
   refine (pF q2 r3).mono ?_
   rintro _ _ ⟨rfl,rfl⟩
   simp only[sA,sB,seval]
   exact⟨rfl,e⟩
theorem eB{H:ae}{v:Vc}:an Tryz.prog aE 25 [.agg (gp v)] H fun r H'=>r=.bool (gT v)/\bw H.next H H':=by
 refine ai rfl MO rfl ?_
 obtain⟨H1,m1,r1,n1,k1⟩:=aP H (gp v) (n:=3) rfl
 have ca:(af.agg (gp v)).cells=gp v:=rfl
 have l0:=aW 3 0 3 r1 rfl (xs:=gp v) om rfl
 simp only[c25,sA,sB,seval,ca,m1,l0]
 refine (gv (v:=v)).mono ?_
 rintro _ H2 ⟨rfl,e⟩
 simp only[sA,sB,seval]
 exact⟨rfl,(dJ n1 k1).trans (e.less om)⟩
theorem cB{c:UInt8}:lL c=true↔(((97<=c.toNat/\c.toNat<=122)∨(65<=c.toNat/\c.toNat<=90))∨((48<=c.toNat/\c.toNat<=57)∨(c.toNat=95∨(c.toNat=45∨c.toNat=46)))):=by
 simp only[lL,Bool.or_eq_true,NC,NL]
theorem jX{H:ae}{s:Bs}:an Tryz.prog aE 29 [.str s] H fun r H'=>r=.bool (fg s)/\H=H':=by
 refine ai rfl MK rfl ?_
 by_cases c1:s.length<1
 ·have c1':(s.length:Int)<1:=om
  simp only[LJ,sA,sB,seval,c1']
  exact⟨by simp only[fg,decide_eq_false (show ¬1<=s.length by omega),Bool.false_and],tt⟩
 have c1':¬(s.length:Int)<1:=om
 by_cases c2:40<s.length
 ·have c2':(40:Int)<(s.length:Int):=om
  simp only[LJ,sA,sB,seval,c1',c2']
  exact⟨by simp only[fg,decide_eq_false (show ¬s.length<=40 by omega),Bool.false_and,Bool.and_false],tt⟩
 have c2':¬(40:Int)<(s.length:Int):=om
 have e0:fg s=s.all lL:=by simp only[fg,decide_eq_true (show 1<=s.length by omega),decide_eq_true (show s.length<=40 by omega),Bool.true_and]
 simp only[LJ,sA,sB,seval,c1',c2']
 refine bL (fun m (T:bK) H'=>∃i:Nat,H=H'/\i<=s.length/\m=s.length-i/\(s.take i).all lL=true/\T 0=.str s/\T 15=.int .i64 (s.length:Int)/\T 16=.int .i64 (i:Int)) s.length
  ⟨0,rfl,om,om,rfl,by simp only[sA,sB,seval],by simp only[sA,sB,seval],by simp only[sA,sB,seval]⟩ ?_
 rintro m T _ ⟨i,rfl,hi,rfl,ha,g0,g15,g16⟩
 by_cases hlt:i<s.length
 ·have hlt':(i:Int)<(s.length:Int):=om
  obtain⟨c,hc⟩:=aO hlt
  have w1:=cF i om
  have hat:(s.take (i+1)).all lL=lL c:=by
   rw[List.take_add_one,hc,List.all_append,ha]; simp
  have hc255:=c.toNat_lt
  have hno:lL c=false->s.all lL=false:=by
   intro h
   have:=List.take_append_drop (i+1) s
   rw[<- this,List.all_append,hat,h,Bool.false_and]
  have hR:(c.toNat<45)∨(c.toNat=45)∨(c.toNat=46)∨(c.toNat=47)∨(48<=c.toNat/\c.toNat<=57)∨(58<=c.toNat/\c.toNat<=64)∨(65<=c.toNat/\c.toNat<=90)∨(91<=c.toNat/\c.toNat<=94)∨(c.toNat=95)∨(c.toNat=96)∨(97<=c.toNat/\c.toNat<=122)∨(123<=c.toNat):=om
  rcases hR with h | h | h | h | h | h | h | h | h | h | h | h
  ·have f0:¬(97:Int)<=(c.toNat:Int):=om
   have f1:(c.toNat:Int)<=122:=om
   have f2:¬(65:Int)<=(c.toNat:Int):=om
   have f3:(c.toNat:Int)<=90:=om
   have f4:(c.toNat:Int)<48:=om
   have f5:¬(57:Int)<(c.toNat:Int):=om
   have f6:¬(c.toNat:Int)=95:=om
   have f7:¬(c.toNat:Int)=45:=om
   have f8:¬(c.toNat:Int)=46:=om
   simp only[sA,sB,seval,g0,g15,g16,hlt',bi hc,w1,f0,f1,f2,f3,f4,f5,f6,f7,f8]
   exact⟨by rw[e0,hno (Bool.eq_false_iff.2 fun h'=>by have:=cB.1 h'; omega)],tt⟩
  ·have f0:¬(97:Int)<=(c.toNat:Int):=om
   have f1:(c.toNat:Int)<=122:=om
   have f2:¬(65:Int)<=(c.toNat:Int):=om
   have f3:(c.toNat:Int)<=90:=om
   have f4:(c.toNat:Int)<48:=om
   have f5:¬(57:Int)<(c.toNat:Int):=om
   have f6:¬(c.toNat:Int)=95:=om
   have f7:(c.toNat:Int)=45:=om
   have f8:¬(c.toNat:Int)=46:=om
   simp only[sA,sB,seval,g0,g15,g16,hlt',bi hc,w1,f0,f1,f2,f3,f4,f5,f6,f7,f8]
   exact⟨_,om,i+1,tt,om,rfl,by rw[hat]; exact cB.2 om,tt,tt,tt⟩
  ·have f0:¬(97:Int)<=(c.toNat:Int):=om
   have f1:(c.toNat:Int)<=122:=om
   have f2:¬(65:Int)<=(c.toNat:Int):=om
   have f3:(c.toNat:Int)<=90:=om
   have f4:(c.toNat:Int)<48:=om
   have f5:¬(57:Int)<(c.toNat:Int):=om
   have f6:¬(c.toNat:Int)=95:=om
   have f7:¬(c.toNat:Int)=45:=om
   have f8:(c.toNat:Int)=46:=om
   simp only[sA,sB,seval,g0,g15,g16,hlt',bi hc,w1,f0,f1,f2,f3,f4,f5,f6,f7,f8]
   exact⟨_,om,i+1,tt,om,rfl,by rw[hat]; exact cB.2 om,tt,tt,tt⟩
  ·have f0:¬(97:Int)<=(c.toNat:Int):=om
   have f1:(c.toNat:Int)<=122:=om
   have f2:¬(65:Int)<=(c.toNat:Int):=om
   have f3:(c.toNat:Int)<=90:=om
   have f4:(c.toNat:Int)<48:=om
   have f5:¬(57:Int)<(c.toNat:Int):=om
   have f6:¬(c.toNat:Int)=95:=om
   have f7:¬(c.toNat:Int)=45:=om
   have f8:¬(c.toNat:Int)=46:=om
   simp only[sA,sB,seval,g0,g15,g16,hlt',bi hc,w1,f0,f1,f2,f3,f4,f5,f6,f7,f8]
   exact⟨by rw[e0,hno (Bool.eq_false_iff.2 fun h'=>by have:=cB.1 h'; omega)],tt⟩
  ·have f0:¬(97:Int)<=(c.toNat:Int):=om
   have f1:(c.toNat:Int)<=122:=om
   have f2:¬(65:Int)<=(c.toNat:Int):=om
   have f3:(c.toNat:Int)<=90:=om
   have f4:¬(c.toNat:Int)<48:=om
   have f5:¬(57:Int)<(c.toNat:Int):=om
   have f6:¬(c.toNat:Int)=95:=om
   have f7:¬(c.toNat:Int)=45:=om
   have f8:¬(c.toNat:Int)=46:=om
   simp only[sA,sB,seval,g0,g15,g16,hlt',bi hc,w1,f0,f1,f2,f3,f4,f5,f6,f7,f8]
   exact⟨_,om,i+1,tt,om,rfl,by rw[hat]; exact cB.2 om,tt,tt,tt⟩
  ·have f0:¬(97:Int)<=(c.toNat:Int):=om
   have f1:(c.toNat:Int)<=122:=om
   have f2:¬(65:Int)<=(c.toNat:Int):=om
   have f3:(c.toNat:Int)<=90:=om
   have f4:¬(c.toNat:Int)<48:=om
   have f5:(57:Int)<(c.toNat:Int):=om
   have f6:¬(c.toNat:Int)=95:=om
   have f7:¬(c.toNat:Int)=45:=om
   have f8:¬(c.toNat:Int)=46:=om
   simp only[sA,sB,seval,g0,g15,g16,hlt',bi hc,w1,f0,f1,f2,f3,f4,f5,f6,f7,f8]
   exact⟨by rw[e0,hno (Bool.eq_false_iff.2 fun h'=>by have:=cB.1 h'; omega)],tt⟩
  ·have f0:¬(97:Int)<=(c.toNat:Int):=om
   have f1:(c.toNat:Int)<=122:=om
   have f2:(65:Int)<=(c.toNat:Int):=om
   have f3:(c.toNat:Int)<=90:=om
   have f4:¬(c.toNat:Int)<48:=om
   have f5:(57:Int)<(c.toNat:Int):=om
   have f6:¬(c.toNat:Int)=95:=om
   have f7:¬(c.toNat:Int)=45:=om
   have f8:¬(c.toNat:Int)=46:=om
   simp only[sA,sB,seval,g0,g15,g16,hlt',bi hc,w1,f0,f1,f2,f3,f4,f5,f6,f7,f8]
   exact⟨_,om,i+1,tt,om,rfl,by rw[hat]; exact cB.2 om,tt,tt,tt⟩
  ·have f0:¬(97:Int)<=(c.toNat:Int):=om
   have f1:(c.toNat:Int)<=122:=om
   have f2:(65:Int)<=(c.toNat:Int):=om
   have f3:¬(c.toNat:Int)<=90:=om
   have f4:¬(c.toNat:Int)<48:=om
   have f5:(57:Int)<(c.toNat:Int):=om
   have f6:¬(c.toNat:Int)=95:=om
   have f7:¬(c.toNat:Int)=45:=om
   have f8:¬(c.toNat:Int)=46:=om
   simp only[sA,sB,seval,g0,g15,g16,hlt',bi hc,w1,f0,f1,f2,f3,f4,f5,f6,f7,f8]
   exact⟨by rw[e0,hno (Bool.eq_false_iff.2 fun h'=>by have:=cB.1 h'; omega)],tt⟩
  ·have f0:¬(97:Int)<=(c.toNat:Int):=om
   have f1:(c.toNat:Int)<=122:=om
   have f2:(65:Int)<=(c.toNat:Int):=om
   have f3:¬(c.toNat:Int)<=90:=om
   have f4:¬(c.toNat:Int)<48:=om
   have f5:(57:Int)<(c.toNat:Int):=om
   have f6:(c.toNat:Int)=95:=om
   have f7:¬(c.toNat:Int)=45:=om
   have f8:¬(c.toNat:Int)=46:=om
   simp only[sA,sB,seval,g0,g15,g16,hlt',bi hc,w1,f0,f1,f2,f3,f4,f5,f6,f7,f8]
   exact⟨_,om,i+1,tt,om,rfl,by rw[hat]; exact cB.2 om,tt,tt,tt⟩
  ·have f0:¬(97:Int)<=(c.toNat:Int):=om
   have f1:(c.toNat:Int)<=122:=om
   have f2:(65:Int)<=(c.toNat:Int):=om
   have f3:¬(c.toNat:Int)<=90:=om
   have f4:¬(c.toNat:Int)<48:=om
   have f5:(57:Int)<(c.toNat:Int):=om
   have f6:¬(c.toNat:Int)=95:=om
   have f7:¬(c.toNat:Int)=45:=om
   have f8:¬(c.toNat:Int)=46:=om
   simp only[sA,sB,seval,g0,g15,g16,hlt',bi hc,w1,f0,f1,f2,f3,f4,f5,f6,f7,f8]
   exact⟨by rw[e0,hno (Bool.eq_false_iff.2 fun h'=>by have:=cB.1 h'; omega)],tt⟩
  ·have f0:(97:Int)<=(c.toNat:Int):=om
   have f1:(c.toNat:Int)<=122:=om
   have f2:(65:Int)<=(c.toNat:Int):=om
   have f3:¬(c.toNat:Int)<=90:=om
   have f4:¬(c.toNat:Int)<48:=om
   have f5:(57:Int)<(c.toNat:Int):=om
   have f6:¬(c.toNat:Int)=95:=om
   have f7:¬(c.toNat:Int)=45:=om
   have f8:¬(c.toNat:Int)=46:=om
   simp only[sA,sB,seval,g0,g15,g16,hlt',bi hc,w1,f0,f1,f2,f3,f4,f5,f6,f7,f8]
   exact⟨_,om,i+1,tt,om,rfl,by rw[hat]; exact cB.2 om,tt,tt,tt⟩
  ·have f0:(97:Int)<=(c.toNat:Int):=om
   have f1:¬(c.toNat:Int)<=122:=om
   have f2:(65:Int)<=(c.toNat:Int):=om
   have f3:¬(c.toNat:Int)<=90:=om
   have f4:¬(c.toNat:Int)<48:=om
   have f5:(57:Int)<(c.toNat:Int):=om
   have f6:¬(c.toNat:Int)=95:=om
   have f7:¬(c.toNat:Int)=45:=om
   have f8:¬(c.toNat:Int)=46:=om
   simp only[sA,sB,seval,g0,g15,g16,hlt',bi hc,w1,f0,f1,f2,f3,f4,f5,f6,f7,f8]
   exact⟨by rw[e0,hno (Bool.eq_false_iff.2 fun h'=>by have:=cB.1 h'; omega)],tt⟩
 ·have hlt':¬(i:Int)<(s.length:Int):=om
  simp only[sA,sB,seval,g15,g16,hlt']
  rw[List.take_of_length_le om]at ha
  exact⟨by rw[e0,ha],tt⟩
end Go.Proofs.Wo
