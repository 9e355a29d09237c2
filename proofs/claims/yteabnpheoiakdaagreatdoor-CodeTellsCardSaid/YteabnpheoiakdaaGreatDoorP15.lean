/- Part of a proof (YWG YK6 YK7 YK8 YK9 YK4 YX13 YX14 YCl YNat L1 YDoor); no condition. -/
import Derived.KernelRfl
import Derived.OpenShut
import Derived.SizedLaws
import Derived.Shelf.LaysM
import Derived.Shelf.Strconv.Clone
import Derived.Test.YteabnpheoiakdaaGreatDoorProg
import Derived.WalkKit
import Derived.Below
import Derived.ChangeSame
import Derived.ReadAgain
import Derived.ProofKit
import Derived.Test.YteabnpheoiakdaaGreatDoorRows
import Derived.LaidLaws
import Derived.LaidHandle
import Derived.Lay
import Derived.Test.YteabnpheoiakdaaGreatDoorP5
import Derived.Test.YteabnpheoiakdaaGreatDoorP6
import Derived.Test.YteabnpheoiakdaaGreatDoorP9
import Derived.Test.YteabnpheoiakdaaGreatDoorP14
set_option linter.unusedSimpArgs false
set_option linter.unusedVariables false
set_option linter.defProp false
set_option linter.unnecessarySimpa false
namespace Go.Proofs.Wo
open Go.Abs Go.Abs.S
def put:Nat->List Nat->Nat->List Nat
 |0,l,_=>l
 |i+1,l,u=>put i (l.set i (48+u % 10)) (u / 10)
def Em(l:List Nat)(i d:Nat):List Nat:=(l.set (i+1) (48+d % 10)).set i (48+d / 10)
def gm(l:List Nat)(i d:Nat):(Em l i d).length=l.length:=by simp[Em]
def ml(i:Nat)(l:List Nat)(u:Nat):put (i+2) l u=put i (Em l i (u % 100)) (u / 100):=by
 simp only[put,Em];rw[Nat.div_div_eq_div_mul];congr 3
 ·omega
 ·omega
def BW:∀(k:Nat) (l:List Nat) (u:Nat),k<=l.length->put k l u=(pd k u).map (48+·)++l.drop k
 |0,l,u,_=>by simp[put,pd]
 |k+1,l,u,h=>by
  rw[put,BW k _ _ (by simp;omega),pd,List.map_append,List.append_assoc];congr 1;have hlt:k<(l.set k (48+u % 10)).length:=by simp;omega
  rw[List.drop_eq_getElem_cons hlt];simp[List.drop_set]
def z8:∀(k:Nat) (l:List Nat) (u:Nat),(put k l u).length=l.length
 |0,l,u=>rfl
 |k+1,l,u=>by rw[put,z8 k];simp
def uq(b o k:Nat):ae:=.slice (some ⟨b,24,o⟩) k (.known (24-o))
def j7{b o k:Nat}(K:IntKind){i:Nat}(h:i<k):jk 1 (uq b o k) (.int K (i:Int))=some (ah b 24 (o+i)):=by
 show(bif Nat.blt i k then some (ae.ptr (some ⟨b,24,o+i*1⟩))else none)=_;have:Nat.blt i k=true:=by simpa[Nat.blt_eq]using h
 rw[this,Nat.mul_one];rfl
def mY(p l:List Nat)(i x:Nat):lE (p++l.set i x)=(lE (p++l)).set (p.length+i) (.int .u8 (x:Int)):=by rw[<- zW,List.set_append,if_neg om,show p.length+i-p.length=i by omega]
def Mn(b o k:Nat):ez false (uq b o k)=some (.int .i64 (k:Int)):=_root_.id rfl
def jN{H:aa}{b:Nat}{p l:List Nat}(hr:be H b (lE (p++l)))(hl:p.length+l.length=24){i d:Nat}(hi:p.length+i+1<24) :
  ∃H1 H2,bh 1 H (ah b 24 (p.length+(i+1))) (.int .u8 ((48+d % 10:Nat):Int))=some H1/\bh 1 H1 (ah b 24 (p.length+i)) (.int .u8 ((48+d / 10:Nat):Int))=some H2/\be H2 b (lE (p++Em l i d))/\H2.next=H.next/\∀c,c≠b->H2.get c=H.get c:=by
 have hL:(lE (p++l)).length=24:=by rw[kp,lA,hl]
 obtain⟨H1,m1,r1,n1,k1⟩:=cD hr (n:=24) hL (i:=p.length+(i+1)) om (x:=.int .u8 ((48+d % 10:Nat):Int)) rfl;rw[<- mY]at r1;obtain⟨H2,m2,r2,n2,k2⟩:=cD r1 (n:=24) (by rw[kp,lA,List.length_set,hl]) (i:=p.length+i) om (x:=.int .u8 ((48+d / 10:Nat):Int)) rfl;rw[<- mY]at r2;exact⟨H1,H2,m1,m2,r2,om,λc hc=>(k2 c hc).trans (k1 c hc)⟩
def Kn:cK->cK
 | .seq _ b=>b
 |c=>c
def PY(t:cK):cK:=match FH.body with
 | .seq a (.seq b (.seq c (.seq d _)))=>.seq a (.seq b (.seq c (.seq d t)))
 |x=>x
def FA:cK:=Kn (Kn (Kn (Kn FH.body)))
set_option maxRecDepth 100000 in
def QG{b k:Nat}{p:List Nat}(hk:p.length+k<=24){R:List Nat}{Q:aa->Prop}(hQ:∀H',be H' b (lE (p++R))->Q H'->Q H'){H0:aa}{H:aa}{m:List Nat}(hm:p.length+m.length=24){i x:Nat}(hi:i<4)(hik:i<=k)(hx:x<10 ^ i)(hp:put i m x=R)
  {T:bZ} (g0:T 0=uq b p.length k) (g4:T 4=.int .i64 (i:Int)) (g12:T 12=.int .u32 (x:Int)) (hr:be H b (lE (p++m))) (hn:H.next=H0.next) (ho:∀c,c≠b->H.get c=H0.get c) :
  wp (aq Tryz.prog aF) FA (fq FH.res λv H'=>be H' b (lE (p++R))/\H'.next=H0.next/\∀c,c≠b->H'.get c=H0.get c) T H:=by
 simp only[FA,Kn,FH,<- pN,sC,seval];have fin1:∀{T:bZ} {H:aa} {m:List Nat} {x:Nat},x<10->p.length+m.length=24->put 1 m x=R->be H b (lE (p++m))->H.next=H0.next->(∀c,c≠b->H.get c=H0.get c)->1<=k ->
   IntKind.u32.wrap (48+(x:Int))=((48+x:Nat):Int)/\IntKind.u8.wrap ((48+x:Nat):Int)=((48+x:Nat):Int)/\jk 1 (uq b p.length k) (.int .i64 0)=some (ah b 24 (p.length+0)) /\
   ∃H',bh 1 H (ah b 24 (p.length+0)) (.int .u8 ((48+x:Nat):Int))=some H'/\be H' b (lE (p++R))/\H'.next=H0.next/\∀c,c≠b->H'.get c=H0.get c:=by
  intro T H m x hx hm hp hr hn ho hk1;refine⟨by rw[iM om om];omega,fZ om om,j7 .i64 (i:=0) hk1,?_⟩;obtain⟨H1,m1,r1,n1,k1⟩:=cD hr (n:=24) (by rw[kp,lA,hm]) (i:=p.length+0) om (x:=.int .u8 ((48+x:Nat):Int)) rfl;rw[<- mY]at r1;refine⟨H1,m1,?_,om,λc hc=>(k1 c hc).trans (ho c hc)⟩;have:x % 10=x:=om;rw[<- hp];simpa only [put,this]using r1
 by_cases c2:2<=i
 ·obtain⟨j,rfl⟩:∃j,i=j+2:=⟨i-2,om⟩;have c2':(2:Int)<=((j+2:Nat):Int):=om;have e1:=sH (a:=x) 100 om;have hx4:x<10 ^ 4:=XL hx (Nat.pow_le_pow_right om om);have e2:=sK (a:=x) 100 om om;simp only[Int.cast_ofNat_Int]at e1 e2;have w1:IntKind.u32.wrap (((x % 100:Nat):Int)*2)=((x % 100*2:Nat):Int):=by rw[iM om om];omega
  have w2:IntKind.u32.wrap (((x % 100*2:Nat):Int)+1)=((x % 100*2+1:Nat):Int):=by rw[iM om om];omega
  have s1:IntKind.i64.wrap (((j+2:Nat):Int)-1)=((j+1:Nat):Int):=by rw[bi om om];omega
  have s2:IntKind.i64.wrap (((j+2:Nat):Int)-2)=((j:Nat):Int):=by rw[bi om om];omega
  obtain⟨H1,H2,m1,m2,r2,n2,k2⟩:=jN hr hm (i:=j) (d:=x % 100) om;have hd:x % 100<100:=om;rw[ml]at hp;by_cases c0:0<j
  ·have hj:j=1:=om;have c0':(0:Int)<(j:Int):=om;have hx2:x / 100<10:=by
    rw[hj]at hx;have:x<10 ^ 3:=hx;omega
   rw[hj]at hp r2;obtain⟨f1,f2,f3,H3,f4,f5⟩:=fin1 (T:=T) hx2 (by rw[gm,hm]) hp r2 om (λc hc=>(k2 c hc).trans (ho c hc)) om;simp only[sC,seval,g0,g4,g12,c2',e1,e2,w1,w2,s1,s2,iY hd,gO hd,j7 .i64 (show j+1<k by omega),j7 .i64 (show j<k by omega),m1,m2,c0',f1,f2,f3,f4,Az];exact f5
  ·have hj:j=0:=om;have c0':¬(0:Int)<(j:Int):=om;rw[hj]at hp r2;simp only[sC,seval,g0,g4,g12,c2',e1,e2,w1,w2,s1,s2,iY hd,gO hd,j7 .i64 (show j+1<k by omega),j7 .i64 (show j<k by omega),m1,m2,c0',Az];refine⟨by rw[<- hp];exact r2,om,λc hc=>(k2 c hc).trans (ho c hc)⟩
 ·have c2':¬(2:Int)<=(i:Int):=om;by_cases c0:0<i
  ·have hj:i=1:=om;have c0':(0:Int)<(i:Int):=om;rw[hj]at hp hx;obtain⟨f1,f2,f3,H3,f4,f5⟩:=fin1 (T:=T) (by simpa using hx) hm hp hr hn ho om;simp only[sC,seval,g0,g4,g12,c2',c0',f1,f2,f3,f4,Az];exact f5
  ·have hj:i=0:=om;have c0':¬(0:Int)<(i:Int):=om;rw[hj]at hp;simp only[sC,seval,g0,g4,g12,c2',c0',Az];exact⟨by rw[<- hp];exact hr,hn,ho⟩
set_option maxRecDepth 100000 in
def yP(h79:aF.is 179=false){b k u:Nat}{p l:List Nat}{H:aa}(hr:be H b (lE (p++l)))(hl:p.length+l.length=24)(hk:p.length+k<=24)(hu:u<10 ^ k)(hu64:u<18446744073709551616) :
  aq Tryz.prog aF 179 [uq b p.length k,.int .u64 (u:Int)] H λv H'=>be H' b (lE (p++put k l u))/\H'.next=H.next/\∀c,c≠b->H'.get c=H.get c:=by
 refine ak h79 SL rfl ?_;have t:=λ(T:bZ) (H1:aa) (m:List Nat) (i x:Nat) hm hi hik hx hp g0 g4 g12 hr hn ho=>QG (b:=b) (k:=k) (p:=p) hk (R:=put k l u) (Q:=λ_=>True) (λ_ _ h=>h) (H0:=H) (H:=H1) (m:=m) hm (i:=i) (x:=x) hi hik hx hp (T:=T) g0 g4 g12 hr hn ho;show wp _ (PY FA) (fq FH.res _) _ _;simp only[PY,FH,<- pN,sC,seval,Mn];refine aM (λq (T:bZ) H'=>∃(i x:Nat) (m:List Nat),i<=k/\i=q/\p.length+m.length=24/\x<10 ^ i/\x<18446744073709551616/\T 0=uq b p.length k/\T 1=.int .u64 (x:Int)/\T 4=.int .i64 (i:Int)/\put i m x=put k l u/\be H' b (lE (p++m))/\H'.next=H.next/\∀c,c≠b->H'.get c=H.get c) k
  ⟨k,u,l,Nat.le_refl _,rfl,hl,hu,hu64,by simp only[sC,seval],by simp only[sC,seval],by simp only[sC,seval],rfl,hr,rfl,λc _=>rfl⟩ ?_
 rintro q T H1 ⟨i,x,m,hi,rfl,hm,hx,hx64,g0,g1,g4,hp,hr1,hn,ho⟩;clear hr;by_cases c8:8<=i
 ·obtain⟨j,rfl⟩:∃j,i=j+8:=⟨i-8,om⟩;have c8':(8:Int)<=((j+8:Nat):Int):=om;have e1:=vL (a:=x) 100000000 om;have e2:=Ew (a:=x) 100000000 om hx64;have w0:IntKind.u32.wrap ((x % 100000000:Nat):Int)=((x % 100000000:Nat):Int):=iM om om;have p1:x % 100000000 % 10000 % 100=x % 100:=om;have p2:x % 100000000 % 10000 / 100=x / 100 % 100:=om;have p3:x % 100000000 / 10000 % 100=x / 100 / 100 % 100:=om;have p4:x % 100000000 / 10000 / 100=x / 100 / 100 / 100 % 100:=om;have p5:x / 100 / 100 / 100 / 100=x / 100000000:=om;rw[ml (j+6),ml (j+4),ml (j+2),ml j,p5,<- p1,<- p2,<- p3,<- p4]at hp;have hA:x % 100000000<100000000:=om;have hx':x / 100000000<10 ^ j:=by
   rw[Nat.pow_add]at hx;exact Nat.div_lt_of_lt_mul (by rw[Nat.mul_comm];exact hx)
  have hxx:x / 100000000<18446744073709551616:=om;generalize x / 100000000=x' at *;generalize x % 100000000=A at *;have e3:=sK (a:=A) 10000 om om;have e4:=sH (a:=A) 10000 om;have hB:A / 10000<10000:=om;have hC:A % 10000<10000:=om;generalize A / 10000=B at *;generalize A % 10000=C at *;have e5:=sK (a:=C) 100 om om;have e6:=sH (a:=C) 100 om;have e7:=sK (a:=B) 100 om om;have e8:=sH (a:=B) 100 om;have d1:C % 100<100:=om;have d2:C / 100<100:=om;have d3:B % 100<100:=om;have d4:B / 100<100:=om;generalize C % 100=y1 at *;generalize C / 100=y2 at *;generalize B % 100=y3 at *;generalize B / 100=y4 at *;simp only[Int.cast_ofNat_Int]at e1 e2 e3 e4 e5 e6 e7 e8;have ww:∀y:Nat,y<100->IntKind.u32.wrap ((y:Int)*2)=((y*2:Nat):Int):=λy hy=>by rw[iM om om];omega
  have wa:∀y:Nat,y<100->IntKind.u32.wrap (((y*2:Nat):Int)+1)=((y*2+1:Nat):Int):=λy hy=>by rw[iM om om];omega
  have s1:IntKind.i64.wrap (((j+8:Nat):Int)-1)=((j+6+1:Nat):Int):=by rw[bi om om];omega
  have s2:IntKind.i64.wrap (((j+8:Nat):Int)-2)=((j+6:Nat):Int):=by rw[bi om om];omega
  have s3:IntKind.i64.wrap (((j+8:Nat):Int)-3)=((j+4+1:Nat):Int):=by rw[bi om om];omega
  have s4:IntKind.i64.wrap (((j+8:Nat):Int)-4)=((j+4:Nat):Int):=by rw[bi om om];omega
  have s5:IntKind.i64.wrap (((j+8:Nat):Int)-5)=((j+2+1:Nat):Int):=by rw[bi om om];omega
  have s6:IntKind.i64.wrap (((j+8:Nat):Int)-6)=((j+2:Nat):Int):=by rw[bi om om];omega
  have s7:IntKind.i64.wrap (((j+8:Nat):Int)-7)=((j+1:Nat):Int):=by rw[bi om om];omega
  have s8:IntKind.i64.wrap (((j+8:Nat):Int)-8)=((j:Nat):Int):=by rw[bi om om];omega
  obtain⟨H2,H3,m2,m3,r3,n3,k3⟩:=jN hr1 hm (i:=j+6) (d:=y1) om;obtain⟨H4,H5,m4,m5,r5,n5,k5⟩:=jN r3 (by rw[gm,hm]) (i:=j+4) (d:=y2) om;obtain⟨H6,H7,m6,m7,r7,n7,k7⟩:=jN r5 (by rw[gm,gm,hm]) (i:=j+2) (d:=y3) om;obtain⟨H8,H9,m8,m9,r9,n9,k9⟩:=jN r7 (by rw[gm,gm,gm,hm]) (i:=j) (d:=y4) om;have ix:∀i,i<k->jk 1 (uq b p.length k) (.int .i64 (i:Int))=some (ah b 24 (p.length+i)):=λi h=>j7 .i64 h;simp only[sC,seval,g0,g1,g4,c8',e1,e2,e3,e4,e5,e6,e7,e8,w0,ww y1 d1,ww y2 d2,ww y3 d3,ww y4 d4,wa y1 d1,wa y2 d2,wa y3 d3,wa y4 d4,s1,s2,s3,s4,s5,s6,s7,s8,iY d1,gO d1,iY d2,gO d2,iY d3,gO d3,iY d4,gO d4,
   ix (j+6+1) om,ix (j+6) om,ix (j+4+1) om,ix (j+4) om,ix (j+2+1) om,ix (j+2) om,ix (j+1) om,ix j om,m2,m3,m4,m5,m6,m7,m8,m9]
  refine⟨_,Nat.lt_add_of_pos_right om,j,x',_,om,rfl,?_,hx',hxx,by trivial,by trivial,by trivial,hp,r9,om,λc hc=>(k9 c hc).trans ((k7 c hc).trans ((k5 c hc).trans ((k3 c hc).trans (ho c hc))))⟩;simp only[gm,hm]
 ·have c8':¬(8:Int)<=(i:Int):=om;have hx7:x<10 ^ 7:=XL hx (Nat.pow_le_pow_right om om);have w0:IntKind.u32.wrap (x:Int)=(x:Int):=iM om om;by_cases c4:4<=i
  ·obtain⟨j,rfl⟩:∃j,i=j+4:=⟨i-4,om⟩;have c4':(4:Int)<=((j+4:Nat):Int):=om;have e1:=sH (a:=x) 10000 om;have e2:=sK (a:=x) 10000 om om;have p1:x % 10000 % 100=x % 100:=om;have p2:x % 10000 / 100=x / 100 % 100:=om;have p5:x / 100 / 100=x / 10000:=om;rw[ml (j+2),ml j,p5,<- p1,<- p2]at hp;have hx':x / 10000<10 ^ j:=by
    rw[Nat.pow_add]at hx;exact Nat.div_lt_of_lt_mul (by rw[Nat.mul_comm];exact hx)
   have hC:x % 10000<10000:=om;generalize x / 10000=x' at *;generalize x % 10000=C at *;have e5:=sK (a:=C) 100 om om;have e6:=sH (a:=C) 100 om;have d1:C % 100<100:=om;have d2:C / 100<100:=om;generalize C % 100=y1 at *;generalize C / 100=y2 at *;simp only[Int.cast_ofNat_Int]at e1 e2 e5 e6;have ww:∀y:Nat,y<100->IntKind.u32.wrap ((y:Int)*2)=((y*2:Nat):Int):=λy hy=>by rw[iM om om];omega
   have wa:∀y:Nat,y<100->IntKind.u32.wrap (((y*2:Nat):Int)+1)=((y*2+1:Nat):Int):=λy hy=>by rw[iM om om];omega
   have s1:IntKind.i64.wrap (((j+4:Nat):Int)-1)=((j+2+1:Nat):Int):=by rw[bi om om];omega
   have s2:IntKind.i64.wrap (((j+4:Nat):Int)-2)=((j+2:Nat):Int):=by rw[bi om om];omega
   have s3:IntKind.i64.wrap (((j+4:Nat):Int)-3)=((j+1:Nat):Int):=by rw[bi om om];omega
   have s4:IntKind.i64.wrap (((j+4:Nat):Int)-4)=((j:Nat):Int):=by rw[bi om om];omega
   obtain⟨H2,H3,m2,m3,r3,n3,k3⟩:=jN hr1 hm (i:=j+2) (d:=y1) om;obtain⟨H4,H5,m4,m5,r5,n5,k5⟩:=jN r3 (by rw[gm,hm]) (i:=j) (d:=y2) om;have ix:∀i,i<k->jk 1 (uq b p.length k) (.int .i64 (i:Int))=some (ah b 24 (p.length+i)):=λi h=>j7 .i64 h;simp only[sC,seval,g0,g1,g4,c8',w0,c4',e1,e2,e5,e6,ww y1 d1,ww y2 d2,wa y1 d1,wa y2 d2,s1,s2,s3,s4,iY d1,gO d1,iY d2,gO d2,ix (j+2+1) om,ix (j+2) om,ix (j+1) om,ix j om,m2,m3,m4,m5];refine t _ _ (Em (Em m (j+2) y1) j y2) j x' ?_ om om hx' hp ?_ ?_ ?_ r5 om λc hc=>(k5 c hc).trans ((k3 c hc).trans (ho c hc))
   ·simp only[gm,hm]
   all_goals simp only[sC,seval,g0]
  ·have c4':¬(4:Int)<=(i:Int):=om;simp only[sC,seval,g0,g1,g4,c8',w0,c4'];refine t _ _ m i x hm om hi hx hp ?_ ?_ ?_ hr1 hn ho
   all_goals simp only[sC,seval,g0,g4]
def LE(h79:aF.is 179=false){b k u:Nat}{l:List Nat}{H:aa}(hr:be H b (lE l))(hl:l.length=24)(hk:k<=24)(hu:u<10 ^ k)(hu64:u<18446744073709551616) :
  aq Tryz.prog aF 179 [FN b 24 k,.int .u64 (u:Int)] H λv H'=>be H' b (lE (put k l u))/\H'.next=H.next/\∀c,c≠b->H'.get c=H.get c:=
 yP (p:=[]) h79 hr (by simpa using hl) (by simpa using hk) hu hu64
open Go.Abs Go.Abs.S
def La{l:List Nat}(h:∀d∈l,d<=9):lE (l.map (48+·))=eJ (ur l):=by
 simp only[lE,eJ,ur,List.map_map];apply List.map_congr_left;intro d hd;have:=h d hd;have e:(UInt8.ofNat (48+d)).toNat=48+d:=by rw[UInt8.toNat_ofNat'];omega
 simp[e];omega
def KD:∀(k u:Nat),∀d∈pd k u,d<=9
 |0,_,d,h=>by simp[pd]at h
 |k+1,u,d,h=>by
  rcases List.mem_append.1 h with h|h
  ·exact KD k _ d h
  ·simp at h;omega
def CP{u k:Nat}(q1:10 ^ k<=u)(q2:u<10 ^ (k+1))(l:List Nat)(hl:k+1<=l.length):(lE (put (k+1) l u)).take (k+1)=eJ (ur (jw u))/\(ur (jw u)).length=k+1:=by
 have hlen:(ur (jw u)).length=k+1:=by rw[AQ,<- Ez k u q1 q2,QO]
 refine⟨?_,hlen⟩;rw[BW _ _ _ hl,Ez k u q1 q2];have e:lE ((jw u).map (48+·))=eJ (ur (jw u)):=by rw[<- Ez k u q1 q2];exact La (KD _ _)
 have e2:lE ((jw u).map (48+·)++l.drop (k+1))=eJ (ur (jw u))++lE (l.drop (k+1)):=by rw[<- e];simp[lE]
 have e3:k+1=(eJ (ur (jw u))).length:=by rw[wS,hlen]
 rw[e2,e3,List.take_left]
def rN:∀(N n:Nat),n<=N->ur (jw n)=gV n
 |0,n,h=>by rw[kM om,ig om];rfl
 |N+1,n,h=>by
  by_cases h10:n<10
  ·rw[kM h10,ig h10];rfl
  ·rw[rB h10,lO h10,FQ,rN N (n / 10) om];rfl
def Fv{n:Nat}(h:n<18446744073709551616):(gV n).length<=20:=by rw[<- rN n n rL,AQ];exact CQ 19 n om
def lz.same{n:Nat}{H H':aa}{s:ae}{l:List ae}(h:lz n H s l)(e:aS H.next H H'):lz n H' s l:=by obtain⟨b,low,rfl,h2,h3,h4,h5⟩:=h;exact⟨b,low,rfl,h2,by have:=e.next;omega,(e.old b h3).trans h4,h5⟩
def lz.str{n:Nat}{H:aa}{s:ae}{t:Bs}(h:lz n H s (eJ t)):FX H s=some (.str t):=by obtain⟨b,low,rfl,h2,h3,h4,h5⟩:=h;simp only[FX,bH,h4,Xz h5,Xz rL,Nat.zero_add,Bool.and_self,cond_true,List.drop_zero,List.take_length,ij]
def lz.app_str{n:Nat}{H:aa}{s x:ae}{t u:Bs}(h:lz n H s (eJ t))(hs:gz 1 H x=some (u.length,eJ u))(hu:u≠[])(hb:t.length+u.length<=1000000) :
  ∃s' H',a8 1 1 H s x=some (s',H')/\lz n H' s' (eJ (t++u))/\aS n H H':=by
 have:=h.app hs (by rw[wS]) (by cases u with|nil=>exact absurd rfl hu|cons=>simp) (Mm u) (by rw[wS];omega);rw[C9];exact this
set_option maxRecDepth 20000 in
def yb{n u:Nat}{s:ae}{t:Bs}{H:aa}(A:lz n H s (eJ t))(h0:1<n)(hn:n<=H.next)(G:AW H 1 qJ)(hu:u<18446744073709551616)(ht:t.length<=900000) :
  aq Tryz.prog aF 145 [s,.int .u64 (u:Int),.int .i64 10] H λv H'=>lz n H' v (eJ (t++gV u))/\aS n H H':=by
 refine ak rfl To rfl ?_;rw[<- rN u u rL];have hdl:(ur (jw u)).length<=20:=by rw[AQ];exact CQ 19 u om
 by_cases c1:u<100
 ·have c1':(u:Int)<100:=om;have w1:IntKind.i64.wrap (u:Int)=(u:Int):=bi om om;simp only[RH,sC,seval,c1',w1];refine(vD rfl c1).mono ?_;rintro v _ ⟨rfl,rfl⟩;obtain⟨s',H2,m2,A2,E2⟩:=A.app_str (NO _ (ur (jw u))) (Mw u) om;simp only[sC,seval,m2];exact⟨A2,E2⟩
 ·have c1':¬(u:Int)<100:=om;obtain⟨H1,m1,r1,n1,k1⟩:=aC H (lE (List.replicate 24 0)) (n:=24) rfl;have hz:lE (List.replicate 24 0)=[.int .u8 0,.int .u8 0,.int .u8 0,.int .u8 0,.int .u8 0,.int .u8 0,.int .u8 0,.int .u8 0,.int .u8 0,.int .u8 0,.int .u8 0,.int .u8 0,.int .u8 0,.int .u8 0,.int .u8 0,.int .u8 0,.int .u8 0,.int .u8 0,.int .u8 0,.int .u8 0,.int .u8 0,.int .u8 0,.int .u8 0,.int .u8 0]:=rfl;rw[hz]at m1;simp only[RH,sC,seval,c1',m1];have E1:aS H.next H H1:=⟨om,λc hc=>k1 c om⟩;have G1:AW H1 1 qJ:=G.ext om E1;refine(uf rfl rfl rfl rfl (u:=u) om hu G1).mono ?_;rintro v _ ⟨⟨k,rfl,q1,q2,q3⟩,rfl⟩;simp only[sC,seval,Gz (show k+1<=24 by omega) om];refine(LE rfl r1 (by simp) (show k+1<=24 by omega) q2 hu).mono ?_;rintro v H2 ⟨r2,n2,k2⟩;obtain⟨p1,p2⟩:=CP q1 q2 (List.replicate 24 0) (by simp;omega);have hB:Xu H2 H.next 24 (ur (jw u)):=⟨_,r2,by rw[kp,z8];simp,by rw[p2];exact p1⟩;have hs:=Pd hB om;have E2:aS H.next H H2:=⟨om,λc hc=>by rw[k2 c om,k1 c om]⟩;obtain⟨s',H3,m3,A3,E3⟩:=(A.same E2).app_str hs (Mw u) om;rw[p2]at m3;simp only[sC,seval,Gz (show k+1<=24 by omega) om,m3];exact⟨A3,⟨by have:=E2.next;have:=E3.next;omega,λc hc=>by rw[E3.old c hc,E2.old c om]⟩⟩
open Go.Abs Go.Abs.S
def ER{z:Int}(h:zP z):(cV z).length<=21:=by
 obtain⟨h1,h2⟩:=h;have:=Fv (n:=z.natAbs) om;unfold cV;split
 ·simp only[XB];omega
 ·omega
def zC{n:Nat}{s:ae}{t:Bs}{H:aa}(A:lz n H s (eJ t))(hn:n<=H.next)(c:UInt8)(ht:t.length<=900000) :
  ∃s' H',a8 1 1 (H.push (.cells [.int .u8 (c.toNat:Int)] 0 false)) s (B5 H)=some (s',H')/\lz n H' s' (eJ (t++[c]))/\aS n H H':=by
 have e:aS H.next H (H.push (.cells [.int .u8 (c.toNat:Int)] 0 false)):=aS.push (aS.refl _ _) rL _;obtain⟨s',H',a1,a2,a3⟩:=(A.same e).app_str (u:=[c]) (QI H (.int .u8 (c.toNat:Int))) (by simp) (by simp;omega);exact⟨s',H',a1,a2,⟨by have:=e.next;have:=a3.next;omega,λb hb=>by rw[a3.old b hb,e.old b om]⟩⟩
def Jv{n:Nat}{z:Int}{s:ae}{t:Bs}{H:aa}(A:lz n H s (eJ t))(h0:1<n)(hn:n<=H.next)(G:AW H 1 qJ)(hz:zP z)(ht:t.length<=800000) :
  aq Tryz.prog aF 52 [s,.int .i64 z,.int .i64 10] H λv H'=>lz n H' v (eJ (t++cV z))/\aS n H H':=by
 refine ak rfl Wl rfl ?_;simp only[c52,sC,seval];refine ak rfl VV rfl ?_;obtain⟨z1,z2⟩:=hz;by_cases hneg:z<0
 ·have w1:IntKind.u64.wrap z=z+18446744073709551616:=by rw[IntKind.wrap_u64];omega
  have w2:IntKind.u64.wrap (0-(z+18446744073709551616))=(z.natAbs:Int):=by rw[IntKind.wrap_u64];omega
  have hd:cV z=[45]++gV z.natAbs:=by rw[cV,if_pos hneg];rfl
  obtain⟨s',H2,m2,A2,E2⟩:=zC A hn 45 om;have m2':a8 1 1 (H.push (.cells [.int .u8 45] 0 false)) s (B5 H)=some (s',H2):=m2;simp only[W3,sC,seval,hneg,w1,QC,w2,lu _ _ (x:=.int .u8 45) rfl,m2'];refine(yb A2 h0 (by have:=E2.next;omega) (G.ext h0 E2) om (by simp;omega)).mono ?_;rintro v H3 ⟨A3,E3⟩;simp only[sC,seval];rw[hd,<- List.append_assoc];exact⟨A3,E2.trans E3⟩
 ·have w1:IntKind.u64.wrap z=(z.natAbs:Int):=by rw[IntKind.wrap_u64];omega
  have hd:cV z=gV z.natAbs:=by rw[cV,if_neg hneg]
  simp only[W3,sC,seval,hneg,w1];refine(yb A h0 hn G om om).mono ?_;rintro v H3 ⟨A3,E3⟩;simp only[sC,seval];rw[hd];exact⟨A3,E3⟩
def Gy{b k:Nat}(h:1+k<=24):j9 24 1 (ah b 24 0) (some (.int .i64 1)) (some (.int .i64 ((1+k:Nat):Int))) none=some (uq b 1 k):=by have e:rU 24 24 (some (.int .i64 1)) (some (.int .i64 ((1+k:Nat):Int))) none=some (1,1+k,none):=RS (lo:=1) om h;simp only[j9,ah,e,Option.getD_none,show Nat.beq 24 1=false from rfl,cond_false,uq,Nat.zero_add,Nat.mul_one,Nat.add_sub_cancel_left]
def RR{H:aa}{b k:Nat}{l:List ae}{s:Bs}(hr:be H b l)(hl:l.length=24)(hk:1+k<=24)(hs:(l.drop 1).take k=eJ s):FX H (uq b 1 k)=some (.str s):=by have:=iF hr hl (i:=1) (k:=k) hk;simp only[FX,uq,this,hs,ij]
set_option maxRecDepth 20000 in
def pO{n:Nat}(hn:n<=1000000){H:aa}(h0:1<H.next)(G:AW H 1 qJ):aq Tryz.prog aF 95 [.int .i64 (n:Int)] H λv H'=>v=.str (cV (n:Int))/\aS H.next H H':=by
 have hd:cV (n:Int)=ur (jw n):=by rw[cV,if_neg om,show((n:Int)).natAbs=n from rfl,rN n n rL]
 rw[hd];refine ak rfl VW rfl ?_;simp only[c95,sC,seval];refine ak rfl Tp rfl ?_;simp only[UQ,sC,seval];refine ak rfl SP rfl ?_;have c0:(0:Int)<=(n:Int):=om;by_cases c1:n<100
 ·have c1':(n:Int)<100:=om;simp only[RB,sC,seval,c0,c1'];refine(vD rfl c1).mono ?_;rintro v _ ⟨rfl,rfl⟩;simp only[sC,seval];exact⟨tt,aS.refl _ _⟩
 have c1':¬(n:Int)<100:=om;have c2:¬(n:Int)<0:=om;obtain⟨H1,m1,r1,n1,k1⟩:=aC H (lE (List.replicate 24 0)) (n:=24) rfl;have hz:lE (List.replicate 24 0)=[.int .u8 0,.int .u8 0,.int .u8 0,.int .u8 0,.int .u8 0,.int .u8 0,.int .u8 0,.int .u8 0,.int .u8 0,.int .u8 0,.int .u8 0,.int .u8 0,.int .u8 0,.int .u8 0,.int .u8 0,.int .u8 0,.int .u8 0,.int .u8 0,.int .u8 0,.int .u8 0,.int .u8 0,.int .u8 0,.int .u8 0,.int .u8 0]:=rfl;rw[hz]at m1;have w1:IntKind.u64.wrap (n:Int)=(n:Int):=by rw[IntKind.wrap_u64];omega
 have G1:AW H1 1 qJ:=by unfold AW;rw[k1 1 om];exact G
 simp only[RB,sC,seval,c0,c1',c2,m1,w1];refine(uf rfl rfl rfl rfl (u:=n) om om G1).mono ?_;rintro v _ ⟨⟨k,rfl,q1,q2,q3⟩,rfl⟩;have q3:k<7:=Nat.lt_of_not_le λh=>by have:=Nat.pow_le_pow_right (n:=10) om h;omega
 have w2:IntKind.i64.wrap (1+((k+1:Nat):Int))=((1+(k+1):Nat):Int):=by rw[bi om om];omega
 simp only[sC,seval,w2,Gy (show 1+(k+1)<=24 by omega)];have r1':be _ H.next (lE ([0]++List.replicate 23 0)):=r1;refine(yP (p:=[0]) (l:=List.replicate 23 0) rfl r1' (by simp) (by simp;omega) q2 om).mono ?_;rintro v H2 ⟨r2,n2,k2⟩;obtain⟨p1,p2⟩:=CP q1 q2 (List.replicate 23 0) (by simp;omega);have hbs:=RR (k:=k+1) (s:=ur (jw n)) r2 (by rw[kp,lA,z8];simp) om (by have:(lE ([0]++put (k+1) (List.replicate 23 0) n)).drop 1=lE (put (k+1) (List.replicate 23 0) n):=rfl;rw[this,p1])
 simp only[sC,seval,c2,w2,Gy (show 1+(k+1)<=24 by omega),hbs];exact⟨tt,⟨om,λc hc=>by rw[k2 c om,k1 c om]⟩⟩
def Cl:(fN.map ae.str).all ae.one=true:=rfl
set_option maxRecDepth 100000 in
def EO{o:Nat}(ho:o<256){H:aa}(h0:1<H.next)(G:AW H 1 qJ):aq Tryz.prog aF 51 [.int .u8 (o:Int)] H λv H'=>v=.str (dR o)/\aS H.next H H':=by
 obtain⟨H1,m1,r1,n1,k1⟩:=aC H (List.replicate 34 (.str [])) (n:=34) rfl;obtain⟨H2,m2,r2,n2,k2⟩:=am r1 (n:=34) rfl (xs:=fN.map .str) rfl Cl;have E2:aS H.next H H2:=⟨om,λc hc=>by rw[k2 c om,k1 c om]⟩;have hz:(List.replicate 34 (ae.str []))=[.str [],.str [],.str [],.str [],.str [],.str [],.str [],.str [],.str [],.str [],.str [],.str [],.str [],.str [],.str [],.str [],.str [],.str [],.str [],.str [],.str [],.str [],.str [],.str [],.str [],.str [],.str [],.str [],.str [],.str [],.str [],.str [],.str [],.str []]:=rfl;rw[hz]at m1;have bl:aJ [.str [],.str [],.str [],.str [],.str [],.str [],.str [],.str [],.str [],.str [],.str [],.str [],.str [],.str [],.str [],.str [],.str [],.str [],.str [],.str [],.str [],.str [],.str [],.str [],.str [],.str [],.str [],.str [],.str [],.str [],.str [],.str [],.str [],.str []] [(0,1,.str [99,111,110,115,116]),(1,1,.str [109,111,118,101]),(2,1,.str [97,100,100]),(3,1,.str [115,117,98]),(4,1,.str [116,105,109,101,115]),(5,1,.str [111,118,101,114]),(6,1,.str [110,101,103]),(7,1,.str [110,111,116]),(8,1,.str [101,113]),(9,1,.str [110,101]),(10,1,.str [108,101]),(11,1,.str [103,101]),(12,1,.str [108,116]),(13,1,.str [103,116]),(14,1,.str [97,110,100]),(15,1,.str [111,114]),(16,1,.str [118,101,99]),(17,1,.str [120]),(18,1,.str [121]),(19,1,.str [122]),(20,1,.str [100,111,116]),(21,1,.str [99,114,111,115,115]),(22,1,.str [117,110,105,116]),(23,1,.str [115,113,114,116]),(24,1,.str [115,105,110]),(25,1,.str [99,111,115]),(26,1,.str [97,98,115]),(27,1,.str [102,108,111,111,114]),(28,1,.str [109,105,110]),(29,1,.str [109,97,120]),(30,1,.str [115,97,109,112,108,101]),(31,1,.str [106,117,109,112]),(32,1,.str [117,110,108,101,115,115]),(33,1,.str [114,101,116,117,114,110])]=some (.agg (fN.map .str)):=rfl;refine ak rfl Wm rfl ?_;simp only[c51,sC,seval,m1,bl,m2];by_cases h1:1<=o/\o<=34
 ·have g1:¬(o:Int)<1:=om;have g2:¬(34:Int)<(o:Int):=om;have w8:IntKind.u8.wrap ((o:Int)-1)=((o-1:Nat):Int):=by rw[IntKind.wrap_u8];omega
  obtain⟨y,hy⟩:∃y,fN[o-1]?=some y:=⟨_,Xx (by show o-1<34;omega)⟩;have hwo:dR o=y:=by unfold dR;rw[if_neg om,hy]
  have lo:al false 1 H2 (ah H.next 34 (o-1))=some (.str y):=aj r2 rfl (by simp[hy]);rw[<- hwo]at lo;simp only[sC,seval,g1,g2,w8,uQ (show o-1<34 by omega),lo];exact⟨tt,E2⟩
 ·have hwo:dR o=[111,112]++cV (o:Int):=by
   unfold dR;by_cases h0:o=0
   ·subst h0;rfl
   ·rw[if_neg h0];have:fN[o-1]?=none:=XP (by show 34<=o-1;omega);rw[this]
  have wl:=sf ho;have w0:IntKind.i64.wrap (o:Int)=(o:Int):=iP;have so:cT .add (.str [111,112]) (.str (cV (o:Int)))=some (.str (dR o)):=by rw[hwo];exact gD (by rw[hwo]at wl;simp only[lA]at wl ⊢;omega)
  have t:=λ(T:bZ)=>pO (n:=o) om (H:=H2) om (G.ext h0 E2);by_cases g1:(o:Int)<1
  ·simp only[sC,seval,g1,w0];refine(pO om om (G.ext h0 E2)).mono ?_;rintro _ H3 ⟨rfl,E3⟩;simp only[sC,seval,so];exact⟨tt,E2.trans (E3.less om)⟩
  ·have g2:(34:Int)<(o:Int):=om;simp only[sC,seval,g1,g2,w0];refine(pO om om (G.ext h0 E2)).mono ?_;rintro _ H3 ⟨rfl,E3⟩;simp only[sC,seval,so];exact⟨tt,E2.trans (E3.less om)⟩
def WY(a b c:Int){i:Nat}(h:i<3):∃z,[a,b,c][i]?=some z/\Dt 3 1 false (.agg [.int .i64 a,.int .i64 b,.int .i64 c]) (.int .i64 (i:Int))=some (.int .i64 z)/\(zP a->zP b->zP c->zP z):=by
 match i,h with
 |0,_=>exact⟨a,rfl,rfl,λh _ _=>h⟩
 |1,_=>exact⟨b,rfl,rfl,λ_ h _=>h⟩
 |2,_=>exact⟨c,rfl,rfl,λ_ _ h=>h⟩
def we{i:xP}{H:aa}(ho:i.o<256)(ha:zP i.a)(hb:zP i.b)(hc:zP i.c)(h0:1<H.next)(G:AW H 1 qJ):aq Tryz.prog aF 25 [DG i] H λu H'=>u=.str (gk i)/\aS H.next H H':=by
 obtain⟨o,a,b,c⟩:=i;simp only at ho ha hb hc;obtain⟨H1,m1,r1,n1,k1⟩:=aC H [.int .u8 (o:Int),.int .i64 a,.int .i64 b,.int .i64 c] (n:=4) rfl;have E1:aS H.next H H1:=⟨om,λc hc=>k1 c om⟩;have f0:=aj (i:=0) r1 (n:=4) rfl rfl;have wl:=sf ho;unfold DG;refine ak rfl WI rfl ?_;simp only[c25,sC,seval,aG,m1,aA,f0];refine(EO ho om (G.ext h0 E1)).mono ?_;rintro _ H2 ⟨rfl,E2⟩;have e2:=E2.next;obtain⟨v,H3,m3,A3,E3⟩:=lz.sb H2 (dR o);have e3:=E3.next;have X3:aS H.next H H3:=E1.trans ((E2.less om).trans (E3.less om));have r3:be H3 H.next _:=r1.same (by rw[E3.old _ om,E2.old _ om]);have f1:=aj (i:=1) r3 (n:=4) rfl rfl;have f2:=aj (i:=2) r3 (n:=4) rfl rfl;have f3:=aj (i:=3) r3 (n:=4) rfl rfl;have bl:aJ [.int .i64 0,.int .i64 0,.int .i64 0] [(0,1,.int .i64 a),(1,1,.int .i64 b),(2,1,.int .i64 c)]=some (.agg [.int .i64 a,.int .i64 b,.int .i64 c]):=rfl;simp only[sC,seval,m3,aA,f1,f2,f3,bl];have hs:gk ⟨o,a,b,c⟩=dR o++([a,b,c].take 3).flatMap (λz=>32::cV z):=by simp[gk]
 rw[hs];generalize dR o=W at *;refine aM (λm (T:bZ) K=>∃(i:Nat) (s:ae) (t:Bs),m=3-i/\i<=3/\t.length<=100+22*i/\t=W++([a,b,c].take i).flatMap (λz=>32::cV z)/\T 3=s/\T 16=.agg [.int .i64 a,.int .i64 b,.int .i64 c]/\T 17=.int .i64 (i:Int)/\lz H2.next K s (eJ t)/\aS H2.next H3 K) 3
  ⟨0,v,W,rfl,om,om,by simp,by simp only[sC,seval],by simp only[sC,seval],by simp only[sC,seval,Int.cast_ofNat_Int],A3,aS.refl _ _⟩ ?_
 clear m1 r1 f0 f1 f2 f3 bl m3 A3;rintro m T K ⟨i,s,t,rfl,hi,hl,ht,g3,g16,g17,A,E⟩;by_cases h3:i<3
 ·have h3':(i:Int)<3:=om;obtain⟨z,z1,z2,z3⟩:=WY a b c h3;have hz:=z3 ha hb hc;have wi:IntKind.i64.wrap ((i:Int)+1)=((i+1:Nat):Int):=by rw[bi om om];omega
  obtain⟨s',K2,m2,A2,E2'⟩:=zC A (by have:=E.next;omega) 32 om;have m2':a8 1 1 (K.push (.cells [.int .u8 32] 0 false)) s (B5 K)=some (s',K2):=m2;have il:=ER hz;have X:=E.trans E2';simp only[sC,seval,g3,g16,g17,h3',z2,lu _ _ (x:=.int .u8 32) rfl,m2'];refine(Jv A2 om (by have:=X.next;omega) ((G.ext h0 X3).ext om X) hz (by simp;omega)).mono ?_;rintro v' K3 ⟨A4,E4⟩;simp only[sC,seval,g17,wi];refine⟨_,om,i+1,v',_,rfl,om,?_,?_,rfl,g16,by trivial,A4,X.trans E4⟩
  ·simp only[lA,XB,XC];omega
  ·rw[ht,List.take_add_one,z1];simp
 ·have h3':¬(i:Int)<3:=om;have:i=3:=om;subst this;rw[ht]at A;simp only[sC,seval,g3,g16,g17,h3',A.str];exact⟨tt,X3.trans (E.less om)⟩
open Go.Abs Go.Abs.S
def KE{s:Bs}{l:List St}(hp:jM s=.ok l){H:aa}:aq Tryz.prog aF 9 [.str s] H λu H'=>(∃v C,u=.tuple [v,.agg [.int .i64 0,.int .i64 0]]/\eM (·<H'.next) H' 9 v l.length C/\dY (·<H'.next) H' l C)/\aS H.next H H':=by refine(BX s).mono ?_;rintro u H' ⟨h,e⟩;rw[hp]at h;obtain⟨v,C,h1,h2,h3⟩:=h;exact⟨⟨v,C,h1,h2.mono λb hb=>⟨hb.2,rfl⟩,h3.mono λb hb=>⟨hb.2,rfl⟩⟩,e⟩
def DD(i:JE):xP:=⟨i.o,i.a,i.b,i.c⟩
def WS(i:JE):Bool:=decide (i.o<256)&&(decide (i.a<=1000000000)&&(decide (i.b<=1000000000)&&decide (i.c<=1000000000)))
def oM{s:Bs}{l:List St}{x:Cs}{y:Int}{H:aa}(hp:jM s=.ok l)(hc:cI l=(x,(0,y)))(hsm:x.code.all WS=true)(hlen:x.code.length<=1000)(h01:1<H.next)(G:AW H 1 qJ) :
  aq Tryz.prog aF 43 [.str s] H λu H'=>fo H'.next H' u ((x.code.map λi=>gk (DD i)).map .str)/\aS H.next H H':=by
 refine ak rfl Wv rfl ?_;simp only[c43,sC,seval];refine(KE hp).mono ?_;rintro _ H2 ⟨⟨v,C,rfl,z1,z2⟩,E2⟩;have e2:=E2.next;obtain⟨H3,m3,r3,n3,k3⟩:=aC H2 [.int .i64 0,.int .i64 0] (n:=2) rfl;obtain⟨H4,m4,r4,n4,k4⟩:=am r3 (n:=2) rfl (xs:=[.int .i64 0,.int .i64 0]) rfl rfl;have l4:=aj (i:=0) r4 (n:=2) rfl rfl;have E4:aS H2.next H2 H4:=⟨om,λc hc=>by rw[k4 c om,k3 c om]⟩;simp only[sC,seval,bv,bu,m3,m4,fld0,l4];refine(pC (n0:=H2.next) (z1.mono λb hb=>⟨hb,E4.old b hb⟩) (z2.mono λb hb=>⟨hb,E4.old b hb⟩) om).mono ?_;rintro _ H5 ⟨⟨vc,vd,rfl,A⟩,E5⟩;rw[hc]at A ⊢;have e5:=E5.next;have la:=A.ld;have lc:=A.lc;obtain⟨H6,m6,r6,n6,k6⟩:=aC H5 [.slice none 0 (.known 0),.int .i64 0,.slice none 0 (.known 0)] (n:=3) rfl;obtain⟨H7,m7,r7,n7,k7⟩:=aC H6 [.int .i64 0,.int .i64 0] (n:=2) rfl;obtain⟨H8,m8,r8,n8,k8⟩:=am (r6.same (k7 _ om)) (n:=3) rfl (xs:=[vc,.int .i64 (x.regs:Int),vd]) rfl (by simp only[List.all_cons,List.all_nil,lc.one,la.one];rfl);obtain⟨H9,m9,r9,n9,k9⟩:=am (r7.same (k8 _ om)) (n:=2) rfl (xs:=[.int .i64 0,.int .i64 y]) rfl rfl;have E9:aS H5.next H5 H9:=⟨om,λc hc=>by rw[k9 c om,k8 c om,k7 c om,k6 c om]⟩;have m8':bh 3 H7 (ah H5.next 3 0) (Ga x vc vd)=some H8:=m8;have m9':bh 2 H8 (ah H6.next 2 0) (.agg (iA (0,y)))=some H9:=m9;have l9:=aj (i:=0) r9 (n:=2) rfl rfl;have r89:=r8.same (k9 H5.next om);have ld:=aj (i:=2) r89 (n:=3) rfl rfl;have la9:=la.same E9.next (la.blk.mono λb hb=>E9.old b hb);have hl:=la9.len;have X9:aS H.next H H9:=⟨by have:=E9.next;omega,λc hc=>by rw[E9.old c om,E5.old c om,E4.old c om,E2.old c hc]⟩;simp only[sC,seval,bv,bu,m6,m7,m8',m9',fld0,aA,l9,ld,hl];refine aM (λmm (T:bZ) K=>∃(i:Nat) (o:ae),mm=x.code.length-i/\i<=x.code.length/\T 7=o/\T 27=vd/\T 28=.int .i64 (x.code.length:Int)/\T 29=.int .i64 (i:Int)/\AZ H9.next K o (((x.code.take i).map λi=>gk (DD i)).map .str)/\aS H9.next H9 K) x.code.length
  ⟨0,aX,rfl,Nat.zero_le _,(by simp only[sC,seval];rfl),by simp only[sC,seval],by simp only[sC,seval],by simp only[sC,seval,Int.cast_ofNat_Int],.inl ⟨rfl,rfl⟩,aS.refl _ _⟩ ?_
 rintro mm T K ⟨i,o,rfl,hi,g7,g27,g28,g29,Ao,EK⟩;have eK:=EK.next;by_cases hlt:i<x.code.length
 ·have hlt':(i:Int)<(x.code.length:Int):=om;have laK:=la9.same eK (la9.blk.mono λb hb=>EK.old b hb);obtain⟨b,lim,i1,i2,_⟩:=laK.at hlt;obtain⟨it,hit⟩:∃it,x.code[i]?=some it:=⟨_,Xx hlt⟩;rw[AF hit]at i2;have sm:WS it=true:=List.all_eq_true.1 hsm _ (XG hit);simp only[WS,XA,XK]at sm;obtain⟨s0,s1,s2,s3⟩:=sm;obtain⟨K1,p1,q1,n1,k1⟩:=aC K [.int .u8 0,.int .i64 0,.int .i64 0,.int .i64 0] (n:=4) rfl;obtain⟨K2,p2,q2,n2,k2⟩:=am q1 (n:=4) rfl (xs:=xr it) rfl rfl;have lk:=aw q2 (n:=4) rfl;have EK2:aS K.next K K2:=⟨om,λc hc=>by rw[k2 c om,k1 c om]⟩;have XK2:aS H.next H K2:=X9.trans ((EK.trans (EK2.less om)).less (by have:=X9.next;omega));have wi:IntKind.i64.wrap ((i:Int)+1)=((i+1:Nat):Int):=iP;simp only[sC,seval,g7,g27,g28,g29,hlt',i1,i2,p1,p2,lk];refine(we (i:=DD it) s0 ⟨by show _<=((it.a:Nat):Int);omega,by show((it.a:Nat):Int)<_;omega⟩ ⟨by show _<=((it.b:Nat):Int);omega,by show((it.b:Nat):Int)<_;omega⟩ ⟨by show _<=((it.c:Nat):Int);omega,by show((it.c:Nat):Int)<_;omega⟩ (by have:=XK2.next;omega) (G.ext h01 XK2)).mono ?_;rintro _ K3 ⟨rfl,E3⟩;have e3:=E3.next;have A3:=(Ao.ext EK2).ext (E3.less rL);have hll:(((x.code.take i).map λi=>gk (DD i)).map ae.str).length=i:=by simp;omega
  obtain⟨o',K4,a1,a2,a3⟩:=A3.push om (x:=.str (gk (DD it))) rfl (bytes:=16) (by rw[hll];omega) om;simp only[sC,seval,g7,g29,lu _ _ (x:=.str (gk (DD it))) rfl,a1,wi];refine⟨_,om,i+1,o',rfl,om,tt,g27,g28,tt,?_,(EK.trans (EK2.less om)).trans ((E3.less om).trans (a3.less rL))⟩;rw[List.take_add_one,hit];simpa using a2
 ·obtain rfl:i=x.code.length:=om;have hlt':¬(x.code.length:Int)<(x.code.length:Int):=om;rw[List.take_length]at Ao;simp only[sC,seval,g7,g28,g29,hlt'];exact⟨Ao.cel,X9.trans (EK.less (by have:=X9.next;omega))⟩
open Go.Abs Go.Abs.S
def ws{n:Nat}(h:n<10):cV (n:Int)=[UInt8.ofNat (48+n)]:=by rw[cV,if_neg om,show((n:Int)).natAbs=n from rfl,ig h]
def da{o a b c:Nat}(ha:a<10)(hb:b<10)(hc:c<10):gk (DD ⟨o,a,b,c⟩)=dR o++[32,UInt8.ofNat (48+a),32,UInt8.ofNat (48+b),32,UInt8.ofNat (48+c)]:=by simp only[gk,DD,ws ha,ws hb,ws hc,List.append_assoc,XQ,List.nil_append]
def ty1:Bs:=[114,101,116,117,114,110,32,110,59]
def tt1:List St:=[.mk 5 [] (.mk 2 [110] 0 []) [] [] 1]
def VK:Cs:=⟨[⟨2,4,3,0⟩,⟨34,4,0,0⟩],[],5⟩
def py1:jM ty1=.ok tt1:=by kernel_rfl
def cy1:cI tt1=(VK,(0,0)):=by kernel_rfl
def sy1:VK.code.map (λi=>gk (DD i))=[[109,111,118,101,32,52,32,51,32,48],[114,101,116,117,114,110,32,52,32,48,32,48]]:=by simp only[VK,List.map_cons,List.map_nil,da (o:=2) (a:=4) (b:=3) (c:=0) dD dD dD,da (o:=34) (a:=4) (b:=0) (c:=0) dD dD dD];decide +kernel
def VG:Bs:=[114,101,116,117,114,110,32,50,32,42,32,110,59]
def tt2:List St:=[.mk 5 [] (.mk 3 [42] 0 [.mk 1 [] 8589934592 [],.mk 2 [110] 0 []]) [] [] 1]
def VJ:Cs:=⟨[⟨1,4,0,0⟩,⟨2,5,3,0⟩,⟨5,4,4,5⟩,⟨34,4,0,0⟩],[8589934592],6⟩
def py2:jM VG=.ok tt2:=by kernel_rfl
def cy2:cI tt2=(VJ,(0,0)):=by kernel_rfl
def sy2:VJ.code.map (λi=>gk (DD i))=[[99,111,110,115,116,32,52,32,48,32,48],[109,111,118,101,32,53,32,51,32,48],[116,105,109,101,115,32,52,32,52,32,53],[114,101,116,117,114,110,32,52,32,48,32,48]]:=by simp only[VJ,List.map_cons,List.map_nil,da (o:=1) (a:=4) (b:=0) (c:=0) dD dD dD,da (o:=2) (a:=5) (b:=3) (c:=0) dD dD dD,da (o:=34) (a:=4) (b:=0) (c:=0) dD dD dD,da (o:=5) (a:=4) (b:=4) (c:=5) dD dD dD];decide +kernel
def ty3:Bs:=[114,101,116,117,114,110,32,110,32,42,32,50,59]
def tt3:List St:=[.mk 5 [] (.mk 3 [42] 0 [.mk 2 [110] 0 [],.mk 1 [] 8589934592 []]) [] [] 1]
def VI:Cs:=⟨[⟨2,4,3,0⟩,⟨1,5,0,0⟩,⟨5,4,5,4⟩,⟨34,4,0,0⟩],[8589934592],6⟩
def py3:jM ty3=.ok tt3:=by kernel_rfl
def cy3:cI tt3=(VI,(0,0)):=by kernel_rfl
def sy3:VI.code.map (λi=>gk (DD i))=[[109,111,118,101,32,52,32,51,32,48],[99,111,110,115,116,32,53,32,48,32,48],[116,105,109,101,115,32,52,32,53,32,52],[114,101,116,117,114,110,32,52,32,48,32,48]]:=by simp only[VI,List.map_cons,List.map_nil,da (o:=1) (a:=5) (b:=0) (c:=0) dD dD dD,da (o:=2) (a:=4) (b:=3) (c:=0) dD dD dD,da (o:=34) (a:=4) (b:=0) (c:=0) dD dD dD,da (o:=5) (a:=4) (b:=5) (c:=4) dD dD dD];decide +kernel
def ty4:Bs:=[108,101,116,32,97,32,61,32,117,59,32,115,101,116,32,97,32,61,32,97,32,43,32,49,59,32,114,101,116,117,114,110,32,118,101,99,40,97,44,32,48,44,32,48,41,59]
def tt4:List St:=[.mk 1 [97] (.mk 2 [117] 0 []) [] [] 1,.mk 2 [97] (.mk 3 [43] 0 [.mk 2 [97] 0 [],.mk 1 [] 4294967296 []]) [] [] 1,.mk 5 [] (.mk 4 [118,101,99] 0 [.mk 2 [97] 0 [],.mk 1 [] 0 [],.mk 1 [] 0 []]) [] [] 1]
def VH:Cs:=⟨[⟨2,4,0,0⟩,⟨2,5,4,0⟩,⟨1,6,0,0⟩,⟨3,5,5,6⟩,⟨2,4,5,0⟩,⟨2,5,4,0⟩,⟨1,6,1,0⟩,⟨1,7,1,0⟩,⟨17,5,5,0⟩,⟨34,5,0,0⟩],[4294967296,0],8⟩
def py4:jM ty4=.ok tt4:=by kernel_rfl
def cy4:cI tt4=(VH,(0,0)):=by kernel_rfl
def sy4:VH.code.map (λi=>gk (DD i))=[[109,111,118,101,32,52,32,48,32,48],[109,111,118,101,32,53,32,52,32,48],[99,111,110,115,116,32,54,32,48,32,48],[97,100,100,32,53,32,53,32,54],[109,111,118,101,32,52,32,53,32,48],[109,111,118,101,32,53,32,52,32,48],[99,111,110,115,116,32,54,32,49,32,48],[99,111,110,115,116,32,55,32,49,32,48],[118,101,99,32,53,32,53,32,48],[114,101,116,117,114,110,32,53,32,48,32,48]]:=by simp only[VH,List.map_cons,List.map_nil,da (o:=1) (a:=6) (b:=0) (c:=0) dD dD dD,da (o:=1) (a:=6) (b:=1) (c:=0) dD dD dD,da (o:=1) (a:=7) (b:=1) (c:=0) dD dD dD,da (o:=17) (a:=5) (b:=5) (c:=0) dD dD dD,da (o:=2) (a:=4) (b:=0) (c:=0) dD dD dD,da (o:=2) (a:=4) (b:=5) (c:=0) dD dD dD,da (o:=2) (a:=5) (b:=4) (c:=0) dD dD dD,da (o:=3) (a:=5) (b:=5) (c:=6) dD dD dD,da (o:=34) (a:=5) (b:=0) (c:=0) dD dD dD];decide +kernel
def Xl(H:aa)(a b:Bs):aL 2 [.str []] H [(0,1,.str a),(1,1,.str b)]=some (.slice (some ⟨H.next,2,0⟩) 2 (.known 2),H.push (.cells ([a,b].map .str) 0 false)):=rfl
def Vp(H:aa)(a b c d:Bs):aL 4 [.str []] H [(0,1,.str a),(1,1,.str b),(2,1,.str c),(3,1,.str d)]=some (.slice (some ⟨H.next,4,0⟩) 4 (.known 4),H.push (.cells ([a,b,c,d].map .str) 0 false)):=rfl
def Vq(H:aa)(a b c d e f g h i j:Bs):aL 10 [.str []] H [(0,1,.str a),(1,1,.str b),(2,1,.str c),(3,1,.str d),(4,1,.str e),(5,1,.str f),(6,1,.str g),(7,1,.str h),(8,1,.str i),(9,1,.str j)]=some (.slice (some ⟨H.next,10,0⟩) 10 (.known 10),H.push (.cells ([a,b,c,d,e,f,g,h,i,j].map .str) 0 false)):=rfl
def qG{H:aa}{v:ae}{a:List Bs}(c:fo H.next H v (a.map .str))(hl:a.length<=1000000):aq Tryz.prog aF 42 [v,.slice (some ⟨H.next,(a.map ae.str).length,0⟩) (a.map ae.str).length (.known (a.map ae.str).length)] (H.push (.cells (a.map .str) 0 false)) λu H2=>u=.bool true/\H.push (.cells (a.map .str) 0 false)=H2:=vF (c.ext (aS.push (aS.refl _ _) rL _)) (dd (xs:=a.map .str)) hl
set_option maxRecDepth 100000 in
def mD{H:aa}(h01:1<H.next)(G:AW H 1 qJ):aq Tryz.prog aF 19 [] H λu H'=>u=.bool true/\aS H.next H H':=by have s1:=λ{H:aa}=>oM (H:=H) py1 cy1 dD dD;have s2:=λ{H:aa}=>oM (H:=H) py2 cy2 dD dD;have s3:=λ{H:aa}=>oM (H:=H) py3 cy3 dD dD;have s4:=λ{H:aa}=>oM (H:=H) py4 cy4 dD dD;rw[sy1]at s1;rw[sy2]at s2;rw[sy3]at s3;rw[sy4]at s4;unfold ty1 at s1;unfold VG at s2;unfold ty3 at s3;unfold ty4 at s4;refine ak rfl WO rfl ?_;simp only[c19,sC,seval];refine(s1 h01 G).mono ?_;rintro v1 H1 ⟨c1,E1⟩;simp only[sC,seval,Xl];refine(qG c1 dD).mono ?_;rintro _ _ ⟨rfl,rfl⟩;have X1:=aS.push E1 E1.next (.cells ((VK.code.map λi=>gk (DD i)).map .str) 0 false);rw[sy1]at X1;simp only[sC,seval];refine(s2 (by have:=X1.next;omega) (G.ext h01 X1)).mono ?_;rintro v2 H2 ⟨c2,E2⟩;simp only[sC,seval,Vp];refine(qG c2 dD).mono ?_;rintro _ _ ⟨rfl,rfl⟩;have X2:=aS.push (X1.trans (E2.less (by have:=X1.next;omega))) (by have:=(X1.trans (E2.less (by have:=X1.next;omega))).next;omega) (.cells ((VJ.code.map λi=>gk (DD i)).map .str) 0 false);rw[sy2]at X2;simp only[sC,seval];refine(s3 (by have:=X2.next;omega) (G.ext h01 X2)).mono ?_;rintro v3 H3 ⟨c3,E3⟩;simp only[sC,seval,Vp];refine(qG c3 dD).mono ?_;rintro _ _ ⟨rfl,rfl⟩;have X3:=aS.push (X2.trans (E3.less (by have:=X2.next;omega))) (by have:=(X2.trans (E3.less (by have:=X2.next;omega))).next;omega) (.cells ((VI.code.map λi=>gk (DD i)).map .str) 0 false);rw[sy3]at X3;simp only[sC,seval];refine(s4 (by have:=X3.next;omega) (G.ext h01 X3)).mono ?_;rintro v4 H4 ⟨c4,E4⟩;simp only[sC,seval,Vq];refine(qG c4 dD).mono ?_;rintro _ _ ⟨rfl,rfl⟩;have X4:=aS.push (X3.trans (E4.less (by have:=X3.next;omega))) (by have:=(X3.trans (E4.less (by have:=X3.next;omega))).next;omega) (.cells ((VH.code.map λi=>gk (DD i)).map .str) 0 false);rw[sy4]at X4;simp only[sC,seval];exact⟨tt,X4⟩
open Go.Abs Go.Abs.S
def Ik.ext{x:Cs}{vc vd:ae}{P:Nat->Prop}{H H':aa}(A:Ik x vc vd P H)(e:aS H.next H H'):Ik x vc vd P H':=⟨A.lc.same e.next (A.lc.blk.mono λb hb=>e.old b hb),A.ld.same e.next (A.ld.blk.mono λb hb=>e.old b hb),A.bc,A.bd,A.cd⟩
def GW{x:Cs}{vc vd:ae}{P:Nat->Prop}{H:aa}(A:Ik x vc vd P H)(f:lY):∃H1 H2 H3 H4,ga H [.slice none 0 (.known 0),.int .i64 0,.slice none 0 (.known 0)]=(ah H.next 3 0,H1)/\ga H1 [.int .i64 0,.int .i64 0]=(ah (H.next+1) 2 0,H2)/\bh 3 H2 (ah H.next 3 0) (Ga x vc vd)=some H3/\bh 2 H3 (ah (H.next+1) 2 0) (.agg (iA f))=some H4 /\
  be H4 H.next [vc,.int .i64 (x.regs:Int),vd]/\be H4 (H.next+1) (iA f)/\H4.next=H.next+2/\∀c,c<H.next->H4.get c=H.get c:=by
 obtain⟨H1,m1,r1,n1,k1⟩:=aC H [aX,.int .i64 0,aX] (n:=3) rfl;obtain⟨H2,m2,r2,n2,k2⟩:=aC H1 [.int .i64 0,.int .i64 0] (n:=2) rfl;rw[n1]at m2 r2 k2;obtain⟨H3,m3,r3,n3,k3⟩:=am (r1.same (k2 _ om)) (n:=3) rfl (xs:=[vc,.int .i64 (x.regs:Int),vd]) rfl (by simp only[List.all_cons,List.all_nil,A.lc.one,A.ld.one];rfl);obtain⟨H4,m4,r4,n4,k4⟩:=am (r2.same (k3 _ om)) (n:=2) rfl (xs:=iA f) rfl rfl;exact⟨H1,H2,H3,H4,m1,m2,m3,m4,r3.same (k4 _ om),r4,om,λc hc=>by rw[k4 c om,k3 c om,k2 c om,k1 c om]⟩
def AE(l:List St)(hs:au l<=2000):(cI l).1.code.length<=10000/\(cI l).1.cons.length<=10000:=by
 unfold cI;have h:=mB ba l uo;have c0:uo.code.length=0:=rfl;have c1:uo.cons.length=0:=rfl;rw[c0,c1]at h;split
 ·split
  ·exact⟨by show 0<=_;omega,by show 0<=_;omega⟩
  ·exact⟨by show(cL ba l uo).code.length<=_;omega,by show(cL ba l uo).cons.length<=_;omega⟩
 ·exact⟨by show 0<=_;omega,by show 0<=_;omega⟩
def v8{l:List St}{C:List ae}{v:ae}{ins:List xP}{vc vd:ae}{R:Int}{nk:Nat}{i:xP}{H:aa}(h01:1<H.next)(G:AW H 1 qJ)
  (z1:eM (·<H.next) H 9 v l.length C) (z2:lV (·<H.next) H l C) (hc:ez false vc=some (.int .i64 (nk:Int))) (ho:vc.one=true) (hcq:aeq vc vc=true) (zi:eM (·<H.next) H 4 vd ins.length (Lu ins)) (hn1:nk<=281474976710656) (hn2:ins.length<=281474976710656)
  (i0:i.o<256) (ia:zP i.a) (ib:zP i.b) (ic:zP i.c) :
  aq Tryz.prog aF 5 [v,.agg [vc,.int .i64 R,vd],DG i] H λu H'=>u=.bool true/\aS H.next H H':=by
 have od:=zi.one;have hd:=zi.len;obtain⟨H1,m1,r1,n1,k1⟩:=aC H [vc,.int .i64 R,vd] (n:=3) rfl;obtain⟨H2,m2,r2,n2,k2⟩:=aC H1 (GX i) (n:=4) rfl;have m2':ga H1 [.int .u8 (i.o:Int),.int .i64 i.a,.int .i64 i.b,.int .i64 i.c]=(ah H1.next 4 0,H2):=m2;have E2:aS H.next H H2:=⟨om,λc hc=>by rw[k2 c om,k1 c om]⟩;have kk:∀{J:aa},aS H.next H J->∀b,b<H.next->b<J.next/\J.get b=H.get b:=λq b hb=>⟨by have:=q.next;omega,q.old b hb⟩;have kn:∀{J:aa},aS H.next H J->∀b,b<H.next->b<H.next/\J.get b=H.get b:=λq b hb=>⟨hb,q.old b hb⟩;obtain⟨b4,hb4⟩:∃b,b=H.next:=⟨_,rfl⟩;obtain⟨b5,hb5⟩:∃b,b=H1.next:=⟨_,rfl⟩;rw[<- hb4]at m1 r1 k1;rw[<- hb5]at m2' r2 k2;have r12:=r1.same (k2 b4 om);have LD:∀{J:aa},aS H2.next H2 J->al false 1 J (ah b4 3 0)=some vc/\al false 1 J (ah b4 3 2)=some vd/\al true 3 J (ah b4 3 0)=some (.agg [vc,.int .i64 R,vd])/\al true 4 J (ah b5 4 0)=some (DG i):=λq=>by have s1:=r12.same (q.old b4 om);have s2:=r2.same (q.old b5 om);exact⟨aj s1 rfl rfl,aj s1 rfl rfl,aw s1 rfl,aw s2 rfl⟩
 have tr:∀{K L:aa},aS H2.next H2 K->aS K.next K L->aS H2.next H2 L:=λe f=>e.trans ⟨f.next,λc hc=>f.old c (by have:=e.next;omega)⟩;have tg:∀{A K L:aa},aS A.next A K->aS K.next K L->aS A.next A L:=λe f=>e.trans ⟨f.next,λc hc=>f.old c (by have:=e.next;omega)⟩;have toH:∀{K:aa},aS H2.next H2 K->aS H.next H K:=λe=>⟨by have:=e.next;omega,λc hc=>by rw[e.old c om,E2.old c hc]⟩;refine ak rfl za5 rfl ?_;unfold DG;simp only[c5,sC,seval,aG,m1,m2'];refine(I7 (z1.mono (kk E2)) (z2.mono (kk E2))).mono ?_;rintro _ H3 ⟨E3,r,rfl,hsm⟩;obtain⟨g0,g2,g3,g5⟩:=LD E3;cases r with
 |true=>simp only[sC,seval];refine(mD (by have:=(toH E3).next;omega) (G.ext h01 (toH E3))).mono ?_;rintro _ H4 ⟨rfl,E4⟩;simp only[sC,seval];exact⟨tt,toH (tr E3 E4)⟩
 |false=>
 obtain⟨s1,s2,s3⟩:=hsm rfl;have wl:IntKind.i64.wrap ((ins.length:Int)+(nk:Int))=(ins.length:Int)+(nk:Int):=iP;by_cases h5:(5000:Int)<(ins.length:Int)+(nk:Int)
 ·simp only[sC,seval,fld0,aA,g2,hd,g0,hc,wl,h5];refine(mD (by have:=(toH E3).next;omega) (G.ext h01 (toH E3))).mono ?_;rintro _ H4 ⟨rfl,E4⟩;simp only[sC,seval];exact⟨tt,toH (tr E3 E4)⟩
 have E03:=toH E3;simp only[sC,seval,fld0,aA,g2,hd,g0,hc,wl,h5];refine(Fz (au l) rL om (z1.mono (kk E03)) (z2.mono (kk E03))).mono ?_;rintro vp H4 ⟨⟨Cc,c1,c2⟩,E4⟩;have e4:=E4.next;have E24:=tr E3 E4;have c1':eM (·<H4.next) H4 9 vp l.length Cc:=c1.mono λb hb=>⟨hb.2,rfl⟩;have c2':dY (·<H4.next) H4 l Cc:=c2.mono λb hb=>⟨hb.2,rfl⟩;simp only[sC,seval];refine(pC c1' c2' rL).mono ?_;rintro _ H5 ⟨⟨wc,wd,rfl,A⟩,E5⟩;have e5:=E5.next;obtain⟨Ha,Hb,Hc,H6,ma,mb,mc,md,ra,rb,n6,k6⟩:=GW A (cI l).2;have E6:aS H5.next H5 H6:=⟨om,k6⟩;have E26:=tr (tr E24 E5) E6;have E06:=toH E26;simp only[sC,seval,bv,bu,ma,mb,mc,md];refine(xu (z1.mono (kk E06)) (z2.mono (kk E06)) rL om).mono ?_;rintro _ H7 ⟨⟨yc,yd,rfl,B⟩,E7⟩;have e7:=E7.next;obtain⟨Hd,He,Hf,H8,me,mf,mg,mh,rc,rd,n8,k8⟩:=GW B (cI l).2;have E8:aS H7.next H7 H8:=⟨om,k8⟩;have E68:aS H6.next H6 H8:=⟨om,λc hc=>by rw[E8.old c om,E7.old c hc]⟩;have E28:=tr E26 E68;have A8:=(A.ext E6).ext E68;have B8:=B.ext E8;have qa:be H8 H5.next _:=ra.same (E68.old _ om);have qb:be H8 (H5.next+1) _:=rb.same (E68.old _ om);have la:al true 3 H8 (ah H5.next 3 0)=some (Ga (cI l).1 wc wd):=aw qa rfl;have lb:al true 3 H8 (ah H7.next 3 0)=some (Ga (cI l).1 yc yd):=aw rc rfl;obtain⟨cl1,cl2⟩:=AE l om;simp only[sC,seval,bv,bu,me,mf,mg,mh];refine dI rfl ?_;simp only[sR,sC,seval,la,lb];refine(BQ A8 B8 om om).mono ?_;rintro _ H9 ⟨rfl,E9⟩;have e9:=E9.next;have E29:=tr E28 E9;obtain⟨_,_,g9,g9'⟩:=LD E29;have lf1:al true 2 H9 (ah (H5.next+1) 2 0)=some (.agg (iA (cI l).2)):=aw (qb.same (E9.old _ om)) rfl;have lf2:al true 2 H9 (ah (H7.next+1) 2 0)=some (.agg (iA (cI l).2)):=aw (rd.same (E9.old _ om)) rfl;have E09:=toH E29;simp only[sR,sC,seval,lf1,lf2,Rj,g9];refine(Ct hc (zi.mono (kn E09)) (by have:=E09.next;omega) ho om).mono ?_;rintro _ H10 ⟨rfl,E10⟩;have E2a:=tr E29 E10;obtain⟨_,_,g10,_⟩:=LD E2a;have E0a:=toH E2a;simp only[sR,sC,seval,g10];refine(Bh hc (zi.mono (kn E0a)) (by have:=E0a.next;omega) om).mono ?_;rintro _ H11 ⟨rfl,E11⟩;have E2b:=tr E2a E11;obtain⟨_,_,_,g11⟩:=LD E2b;simp only[sR,sC,seval,g11];refine(we i0 ia ib ic (by have:=(toH E2b).next;omega) (G.ext h01 (toH E2b))).mono ?_;rintro _ H12 ⟨rfl,E12⟩;have E2c:=tr E2b E12;obtain⟨_,_,_,g12⟩:=LD E2c;simp only[sR,sC,seval,g12];refine(DO i0 ia ib ic).mono ?_;rintro _ H13 ⟨rfl,E13⟩;have E2d:=tr E2c E13;have E0d:=toH E2d;have E4d:aS H4.next H4 H13:=tg (tg (tg (tg (tg (tg (tg E5 E6) E68) E9) E10) E11) E12) E13;simp only[sR,sC,seval];refine(En (au l) rL om (c1'.mono λb hb=>⟨by have:=E4d.next;omega,E4d.old b hb⟩) (c2'.xss.mono λb hb=>⟨by have:=E4d.next;omega,E4d.old b hb⟩) (z1.mono (kk E0d)) (z2.mono (kk E0d))).mono ?_;rintro _ H14 ⟨rfl,E14⟩;have E2e:=tr E2d E14;simp only[sR,sC,seval];refine(mD (by have:=(toH E2e).next;omega) (G.ext h01 (toH E2e))).mono ?_;rintro _ H15 ⟨rfl,E15⟩;have E0f:=toH (tr E2e E15);simp only[sR,sC,seval];simp only[ci,cj,bP,cm,cQ,and_true,true_and,List.map_cons,List.map_nil,sC,seval];refine⟨⟨⟨_,rfl,λ_=>⟨_,g9,by simp[aeq,aeqs,hcq,zi.aeq,gd]⟩⟩,⟨_,rfl,λ_=>⟨_,g11,by simp[DG,aeq,aeqs,gd]⟩⟩⟩,?_⟩;exact E0f
open Go.Abs Go.Abs.S
open Go.WideShapes Go.ChangeShapes
variable {K:Type} {enc:TypeId×Value->K}
def IZ{α:Type}{f:Nat->Option α}{m:Nat}(h:f 0=none)(hm:0<m):(List.range m).mapM f=none:=by obtain⟨m,rfl⟩:∃k,m=k+1:=⟨m-1,om⟩;rw[List.range_succ_eq_map,List.mapM_cons,h];rfl
def FD{W:World}{c off:Nat}{q}{m:Nat}(hm:0<m):W.cells? 0 ⟨c,off,some q⟩ m=none:=by
 unfold World.cells?;split
 ·refine IZ ?_ hm;show W.cell? ⟨c,off,some q⟩=none;unfold World.cell?;split
  ·rfl
  ·rfl
 ·rfl
def eM.empty{W:World}{m:Nat}{a:Addr}:eM (·<(dN W).next) (dN W) m (j8 W (.slice (some a) 0 0)) 0 []:=by
 obtain⟨c,off,spot⟩:=a;cases spot with
 |some q=>exact .inl ⟨rfl,rfl,rfl⟩
 |none=>
  cases hr:mH W c with
  |none=>exact .inl ⟨by simp only[j8,Nat.le_refl,if_true,hr];rfl,rfl,rfl⟩
  |some n=>
   by_cases ho:off<=n
   ·obtain⟨C,e',fz,g1,g2,g3⟩:=oU hr;have hlt:c<(dN W).next:=(Array.getElem?_eq_some_iff.1 g1).1;refine .inr ⟨⟨c,n,off⟩,.known 0,by simp only[j8,Nat.le_refl,if_true,hr,ho],hlt,?_⟩;unfold bH;rw[iH,g3];simp only[XM,Array.length_toList,g2,Nat.mul_zero,Nat.add_zero,List.take_zero,Xz (Nat.zero_le _),Xz rL,Xz ho,Bool.and_self,cond_true]
   ·exact .inl ⟨by simp only[j8,Nat.le_refl,if_true,hr];rw[if_neg ho];rfl,rfl,rfl⟩
def vm{P:Program}{W:World}{t e:TypeId}{m fuel:Nat}{cs:List Value}{x:DataW K×List MemPlace}(ht:P.underlying t=some (.slice e))(hm:P.cellsOf e=m)(h0:0<m)
  (hf:DataW.trod enc P W 0 (λ_=>true) true fuel t cs=some x) :
  ∃v k C,cs=[v]/\(k=0∨∃el sp,x.1=.slice el sp/\el.length=k)/\eM (·<(dN W).next) (dN W) m (j8 W v) k C/\C.length=m*k/\∀i,i<k->∃f es y,f<fuel/\es.map (j8 W)=(C.drop (i*m)).take m/\DataW.trod enc P W 0 (λ_=>true) true f e es=some y:=by
 subst hm;rcases DataW.trod_slice ht hf with⟨rfl,_⟩|⟨a,len,cap,elems,rest,n',hfu,rfl,hx,_,h3,h4,h5,h6,h7,_⟩
 ·exact⟨_,0,[],rfl,.inl rfl,.inl ⟨by simp only[j8];rfl,rfl,rfl⟩,rfl,λi hi=>om⟩
 obtain⟨h7a,h7b⟩:=h7 rfl;by_cases hc:cap=0
 ·obtain rfl:len=0:=om;subst hc;exact⟨_,0,[],rfl,.inl rfl,eM.empty,rfl,λi hi=>om⟩
 have hal:∀i,i<cap->∃es,W.cells? 0 (a.add (i*P.cellsOf e)) (P.cellsOf e)=some es:=by
  intro i hi;by_cases hlt:i<len
  ·have:=h6 i hlt;rw[Xx om]at this;obtain⟨es,q,_⟩:=Option.bind_eq_some_iff.1 this;exact⟨es,q⟩
  ·have:=h7b (i-len) om;rw[Xx om,show len+(i-len)=i by omega]at this;obtain⟨es,q,_⟩:=Option.bind_eq_some_iff.1 this;exact⟨es,q⟩
 obtain⟨c,off,spot⟩:=a;cases spot with
 |some q=>obtain⟨es,hes⟩:=hal 0 om;rw[Nat.zero_mul,show(⟨c,off,some q⟩:Addr).add 0=⟨c,off,some q⟩from rfl,FD h0]at hes;simp at hes
 |none=>
  have key:∀i,i<cap->∀es,W.cells? 0 ((⟨c,off,none⟩:Addr).add (i*P.cellsOf e)) (P.cellsOf e)=some es->es.length=P.cellsOf e/\∀j,j<P.cellsOf e->W.cell? ⟨c,off+i*P.cellsOf e+j,none⟩=es[j]?:=by intro i _ es hes;rw[et]at hes;exact Me hes
  obtain⟨es0,hes0⟩:=hal (cap-1) om;obtain⟨q1,q2⟩:=key (cap-1) om es0 hes0;have q3:=q2 (P.cellsOf e-1) om;rw[Xx om]at q3;obtain⟨n,hn⟩:∃n,mH W c=some n:=by
   unfold World.cell? at q3;unfold mH;split at q3
   ·rename_i C _ _ hC;exact⟨C.size,by simp only at hC;rw[hC]⟩
   ·simp at q3
  obtain⟨C,e',fz,g1,g2,g3⟩:=oU hn;rw[rG g1]at q3;have hb:=(Array.getElem?_eq_some_iff.1 q3).1;have hcap:(cap-1)*P.cellsOf e+P.cellsOf e=cap*P.cellsOf e:=by rw[<- Nat.succ_mul];congr 1;omega
  have hlc:len*P.cellsOf e<=cap*P.cellsOf e:=Nat.mul_le_mul_right _ h3;have hlt:c<(dN W).next:=(Array.getElem?_eq_some_iff.1 g1).1;have hmul:P.cellsOf e*len=len*P.cellsOf e:=Nat.mul_comm _ _;refine⟨_,len,((C.toList.map (j8 W)).drop off).take (P.cellsOf e*len),rfl,.inr ⟨_,_,congrArg Prod.fst hx,by rw[XM];omega⟩,.inr ⟨⟨c,n,off⟩,.known cap,?_,hlt,?_⟩,?_,?_⟩
  ·simp only[j8,h3,if_true,hn,show off<=n by omega]
  ·unfold bH;rw[iH,g3];simp only[XM,Array.length_toList,g2,Xz (Nat.zero_le _),Xz rL,Xz (show off+P.cellsOf e*len<=n by omega),Bool.and_self,cond_true]
  ·rw[XT,XR,XM,Array.length_toList];omega
  ·intro i hi;have:=h6 i hi;rw[Xx om]at this;obtain⟨es,r1,r2⟩:=Option.bind_eq_some_iff.1 this;obtain⟨l1,l2⟩:=key i om es r1;refine⟨n',es,_,om,?_,r2⟩;apply List.ext_getElem?;intro j;have hil:i*P.cellsOf e+P.cellsOf e<=len*P.cellsOf e:=by
    rw[<- Nat.succ_mul];exact Nat.mul_le_mul_right _ hi
   by_cases hj:j<P.cellsOf e
   ·rw[List.getElem?_take_of_lt hj,List.getElem?_drop,List.getElem?_take_of_lt om,List.getElem?_drop,List.getElem?_map,List.getElem?_map,<- l2 j hj,rG g1,Array.getElem?_toList,Nat.add_assoc]
   ·rw[XP (by rw[XM];omega),XP (by rw[XT];omega)]
def uu{P:Program}{W:World}{t e:TypeId}{m fuel:Nat}{cs:List Value}{x:DataW K×List MemPlace}(ht:P.underlying t=some (.slice e))(hm:P.cellsOf e=m)(h0:0<m)
  (hf:DataW.trod enc P W 0 (λ_=>true) true fuel t cs=some x) :
  ∃v k C,cs=[v]/\eM (·<(dN W).next) (dN W) m (j8 W v) k C/\C.length=m*k/\∀i,i<k->∃f es y,f<fuel/\es.map (j8 W)=(C.drop (i*m)).take m/\DataW.trod enc P W 0 (λ_=>true) true f e es=some y:=by
 obtain⟨v,k,C,a,_,b⟩:=vm (enc:=enc) ht hm h0 hf;exact⟨v,k,C,a,b⟩
def JM{P:Nat->Prop}{H:aa}:∀(k:Nat) (C:List ae),C.length=4*k->(∀i,i<k->∃e,XE P H e ((C.drop (i*4)).take 4))->∃l:List Ex,l.length=k/\FY P H l C
 |0,C,h,_=>⟨[],rfl,by cases C with|nil=>rfl|cons a b=>simp at h⟩
 |k+1,C,h,hq=>by
  obtain⟨e,h1⟩:=hq 0 om;obtain⟨l,a1,a2⟩:=JM k (C.drop 4) (by rw[XR];omega) λi hi=>by obtain⟨e,g1⟩:=hq (i+1) om;refine⟨e,?_⟩;rw[List.drop_drop,show 4+i*4=(i+1)*4 by omega];exact g1
  rw[Nat.zero_mul,List.drop_zero]at h1;exact⟨e::l,by simp[a1],⟨_,_,(List.take_append_drop 4 C).symm,h1,a2⟩⟩
def zR{P:Nat->Prop}{H:aa}:∀(k:Nat) (C:List ae),C.length=9*k->(∀i,i<k->∃e,XS P H e ((C.drop (i*9)).take 9))->∃l:List St,l.length=k/\lV P H l C
 |0,C,h,_=>⟨[],rfl,by cases C with|nil=>rfl|cons a b=>simp at h⟩
 |k+1,C,h,hq=>by
  obtain⟨e,h1⟩:=hq 0 om;obtain⟨l,a1,a2⟩:=zR k (C.drop 9) (by rw[XR];omega) λi hi=>by obtain⟨e,g1⟩:=hq (i+1) om;refine⟨e,?_⟩;rw[List.drop_drop,show 9+i*9=(i+1)*9 by omega];exact g1
  rw[Nat.zero_mul,List.drop_zero]at h1;exact⟨e::l,by simp[a1],⟨_,_,(List.take_append_drop 9 C).symm,h1,a2⟩⟩
open Go.Abs Go.Abs.S
open Go.WideShapes Go.ChangeShapes
variable {K:Type} {enc:TypeId×Value->K}
def Fd(P:Program)(fs:Array Field)(i off n:Nat)(T:TypeId->Prop):Prop:=∃f,fs[i]?=some f/\f.offset=off/\P.cellsOf f.type=n/\T f.type
structure Dw(P:Program)(tl ts te tel:TypeId) where
 l:P.underlying tl=some (.slice ts)
 el:P.underlying tel=some (.slice te)
 cs:P.cellsOf ts=9
 ce:P.cellsOf te=4
 fe:∃fs:Array Field,P.underlying te=some (.struct fs)/\Fd P fs 0 0 1 (λt=>P.underlying t=some (.int .u8))/\Fd P fs 1 1 1 (λt=>P.underlying t=some .string)/\Fd P fs 2 2 1 (λt=>P.underlying t=some (.int .i64))/\Fd P fs 3 3 1 (·=tel)
 fs:∃fs:Array Field,P.underlying ts=some (.struct fs)/\Fd P fs 0 0 1 (λt=>P.underlying t=some (.int .u8))/\Fd P fs 1 1 1 (λt=>P.underlying t=some .string)/\Fd P fs 2 2 4 (·=te)/\Fd P fs 3 6 1 (·=tl)/\Fd P fs 4 7 1 (·=tl)/\Fd P fs 5 8 1 (λt=>P.underlying t=some (.int .i64))
def fm{P:Program}{W:World}{fuel:Nat}{cs:List Value}{xs:List (DataW K×List MemPlace)}{fs:Array Field}{i off n:Nat}{T:TypeId->Prop}(h:Fd P fs i off n T)(hl:xs.length=fs.size)
  (hi:∀(i:Nat) (f:Field),fs[i]?=some f->DataW.trod enc P W 0 (λ_=>true) true fuel f.type ((cs.drop f.offset).take (P.cellsOf f.type))=xs[i]?) :
  ∃t y,T t/\DataW.trod enc P W 0 (λ_=>true) true fuel t ((cs.drop off).take n)=some y:=by
 obtain⟨f,h1,rfl,rfl,h4⟩:=h;have h5:=hi i f h1;have hlt:=(Array.getElem?_eq_some_iff.1 h1).1;rw[Xx om]at h5;exact⟨_,_,h4,h5⟩
def PE{z:Int}(h:(Lit.int .u8 z).wf=true):∃k:Nat,z=(k:Int):=by simp only[Lit.wf,XA,XK]at h;have h1:(0:Int)<=z:=h.1;exact⟨z.toNat,om⟩
def QA{z:Int}(h:(Lit.int .i64 z).wf=true):-9223372036854775808<=z/\z<=9223372036854775807:=by simp only[Lit.wf,XA,XK]at h;exact h
def QF{P:Program}{W:World}{tl ts te tel:TypeId}(Y:Dw P tl ts te tel):∀(fuel:Nat) {cs:List Value} {x:DataW K×List MemPlace},DataW.trod enc P W 0 (λ_=>true) true fuel te cs=some x ->
  ∃e,XE (·<(dN W).next) (dN W) e (cs.map (j8 W)):=by
 intro fuel;induction fuel using Nat.strongRecOn with
 |ind fuel ih=>
  intro cs x hf;obtain⟨fs,hfs,d0,d1,d2,d3⟩:=Y.fe;obtain⟨xs,n,hfu,_,hl,hn,hi⟩:=DataW.trod_struct hfs hf;rw[Y.ce]at hl;obtain⟨c0,c1,c2,c3,rfl⟩:∃a b c d,cs=[a,b,c,d]:=by
   match cs,hl with
   | [a,b,c,d],_=>exact⟨a,b,c,d,rfl⟩
  obtain⟨_,_,g0,t0⟩:=fm d0 hn hi;obtain⟨_,_,g1,t1⟩:=fm d1 hn hi;obtain⟨_,_,g2,t2⟩:=fm d2 hn hi;obtain⟨_,_,rfl,t3⟩:=fm d3 hn hi;obtain⟨z0,e0,_,w0⟩:=DataW.trod_int g0 t0;obtain⟨s1,e1,_,_⟩:=DataW.trod_string g1 t1;obtain⟨z2,e2,_,w2⟩:=DataW.trod_int g2 t2;obtain⟨v,k,C,e3,q1,q2,q3⟩:=uu Y.el Y.ce om t3;simp at e0 e1 e2 e3;subst e0 e1 e2 e3;obtain⟨k0,rfl⟩:=PE w0;obtain⟨l,hl1,hl2⟩:=JM (P:=(·<(dN W).next)) (H:=dN W) k C q2 λi hi=>by obtain⟨f,es,y,r1,r2,r3⟩:=q3 i hi;obtain⟨e,a1⟩:=ih f om r3;exact⟨e,by rw[<- r2];exact a1⟩
  subst hl1;exact⟨.mk k0 s1.data.toList z2 l,⟨_,C,rfl,q1,hl2⟩⟩
def QE{P:Program}{W:World}{tl ts te tel:TypeId}(Y:Dw P tl ts te tel):∀(fuel:Nat) {cs:List Value} {x:DataW K×List MemPlace},DataW.trod enc P W 0 (λ_=>true) true fuel ts cs=some x ->
  ∃e,XS (·<(dN W).next) (dN W) e (cs.map (j8 W)):=by
 intro fuel;induction fuel using Nat.strongRecOn with
 |ind fuel ih=>
  intro cs x hf;obtain⟨fs,hfs,d0,d1,d2,d3,d4,d5⟩:=Y.fs;obtain⟨xs,n,hfu,_,hl,hn,hi⟩:=DataW.trod_struct hfs hf;rw[Y.cs]at hl;obtain⟨c0,c1,c2,c3,c4,c5,c6,c7,c8,rfl⟩:∃a b c d e f g h i,cs=[a,b,c,d,e,f,g,h,i]:=by
   match cs,hl with
   | [a,b,c,d,e,f,g,h,i],_=>exact⟨a,b,c,d,e,f,g,h,i,rfl⟩
  obtain⟨_,_,g0,t0⟩:=fm d0 hn hi;obtain⟨_,_,g1,t1⟩:=fm d1 hn hi;obtain⟨_,_,rfl,t2⟩:=fm d2 hn hi;obtain⟨_,_,rfl,t3⟩:=fm d3 hn hi;obtain⟨_,_,rfl,t4⟩:=fm d4 hn hi;obtain⟨_,_,g5,t5⟩:=fm d5 hn hi;obtain⟨z0,e0,_,w0⟩:=DataW.trod_int g0 t0;obtain⟨s1,e1,_,_⟩:=DataW.trod_string g1 t1;obtain⟨e,x1⟩:=QF Y _ t2;obtain⟨vb,kb,Cb,e3,q1,q2,q3⟩:=uu Y.l Y.cs om t3;obtain⟨ve,ke,Ce,e4,p1,p2,p3⟩:=uu Y.l Y.cs om t4;obtain⟨z5,e5,_,w5⟩:=DataW.trod_int g5 t5;simp at e0 e1 e3 e4 e5;subst e0 e1 e3 e4 e5;obtain⟨k0,rfl⟩:=PE w0;obtain⟨lb,hl1,hl2⟩:=zR (P:=(·<(dN W).next)) (H:=dN W) kb Cb q2 λi hi=>by obtain⟨f,es,y,r1,r2,r3⟩:=q3 i hi;obtain⟨e,a1⟩:=ih f om r3;exact⟨e,by rw[<- r2];exact a1⟩
  obtain⟨le,hm1,hm2⟩:=zR (P:=(·<(dN W).next)) (H:=dN W) ke Ce p2 λi hi=>by obtain⟨f,es,y,r1,r2,r3⟩:=p3 i hi;obtain⟨e,a1⟩:=ih f om r3;exact⟨e,by rw[<- r2];exact a1⟩
  subst hl1 hm1;exact⟨.mk k0 s1.data.toList e lb le z5,⟨_,_,Cb,_,Ce,rfl,x1,q1,hl2,p1,hm2⟩⟩
def Dh{P:Program}{W:World}{tl ts te tel:TypeId}(Y:Dw P tl ts te tel){v:Value}{d:DataW K}{p:List MemPlace}(hv:v.cells.toList=[v])(h:DataW.Trod enc P W 0 (λ_=>true) true tl v d p) :
  ∃(l:List St) (C:List ae),eM (·<(dN W).next) (dN W) 9 (j8 W v) l.length C/\lV (·<(dN W).next) (dN W) l C:=by
 obtain⟨fuel,hf⟩:=h;rw[hv]at hf;obtain⟨v',k,C,e,q1,q2,q3⟩:=uu Y.l Y.cs om hf;simp only[List.cons.injEq,and_true]at e;subst e;obtain⟨l,hl1,hl2⟩:=zR (P:=(·<(dN W).next)) (H:=dN W) k C q2 λi hi=>by obtain⟨f,es,y,r1,r2,r3⟩:=q3 i hi;obtain⟨e,a1⟩:=QE Y f r3;exact⟨e,by rw[<- r2];exact a1⟩
 subst hl1;exact⟨l,C,q1,hl2⟩
def wC{P:Program}{W:World}{fuel:Nat}{cs:List Value}{xs:List (DataW K×List MemPlace)}{fs:Array Field}{i off n:Nat}{T:TypeId->Prop}(h:Fd P fs i off n T)(hl:xs.length=fs.size)
  (hi:∀(i:Nat) (f:Field),fs[i]?=some f->DataW.trod enc P W 0 (λ_=>true) true fuel f.type ((cs.drop f.offset).take (P.cellsOf f.type))=xs[i]?) :
  ∃t y,T t/\DataW.trod enc P W 0 (λ_=>true) true fuel t ((cs.drop off).take n)=some y/\xs[i]?=some y/\(fs.toList.map (·.type))[i]?=some t:=by
 obtain⟨f,h1,rfl,rfl,h4⟩:=h;have h5:=hi i f h1;have hlt:=(Array.getElem?_eq_some_iff.1 h1).1;rw[Xx om]at h5;exact⟨_,_,h4,h5,Xx _,by rw[List.getElem?_map,Array.getElem?_toList,h1];rfl⟩
def Kg{P:Program}{t e:TypeId}{d:DataW K}{k:Nat}(ht:P.underlying t=some (.slice e))(hb:0<P.bytesOf e)(hw:∀n∈d.weights P t,n<=reachBytes)(h:k=0∨∃el sp,d=.slice el sp/\el.length=k):k<=281474976710656:=by
 rcases h with rfl|⟨el,sp,rfl,rfl⟩
 ·omega
 ·have h1:=hw ((el.length+sp.length)*P.bytesOf e) (by simp[DataW.weights,ht]);have h2:el.length*1<=(el.length+sp.length)*P.bytesOf e:=Nat.mul_le_mul om hb;have h3:=reachBytes_lt;omega
def oH(W:World):∀(cs:List Value),aE (QN W) (cs.map (j8 W)) cs
 | []=>rfl
 |c::cs=>⟨_,_,rfl,rT W c,oH W cs⟩
def Qz{z:Int}(h:(Lit.int .u8 z).wf=true):∃k:Nat,z=(k:Int)/\k<256:=by simp only[Lit.wf,XA,XK]at h;have h1:(0:Int)<=z:=h.1;have h2:z<=255:=h.2;exact⟨z.toNat,om,om⟩
def DT{z:Int}(h:(Lit.int .i64 z).wf=true):zP z:=by have:=QA h;exact⟨this.1,om⟩
abbrev VD(P:Program)(k:IntKind)(t:TypeId):Prop:=P.underlying t=some (.int k)
structure Pr(P:Program)(t:TypeId):Prop where
 c:P.cellsOf t=4
 b:0<P.bytesOf t
 f:∃fs:Array Field,P.underlying t=some (.struct fs)/\Fd P fs 0 0 1 (VD P .u8)/\Fd P fs 1 1 1 (VD P .i64)/\Fd P fs 2 2 1 (VD P .i64)/\Fd P fs 3 3 1 (VD P .i64)
def vq{P:Program}{W:World}{t:TypeId}(Y:Pr P t){fuel:Nat}{cs:List Value}{x:DataW K×List MemPlace}(hf:DataW.trod enc P W 0 (λ_=>true) true fuel t cs=some x) :
  ∃i:xP,cs.map (j8 W)=GX i/\i.o<256/\zP i.a/\zP i.b/\zP i.c:=by
 obtain⟨fs,hfs,d0,d1,d2,d3⟩:=Y.f;obtain⟨xs,n,hfu,_,hl,hn,hi⟩:=DataW.trod_struct hfs hf;rw[Y.c]at hl;obtain⟨c0,c1,c2,c3,rfl⟩:∃a b c d,cs=[a,b,c,d]:=by
  match cs,hl with
  | [a,b,c,d],_=>exact⟨a,b,c,d,rfl⟩
 obtain⟨_,_,g0,t0⟩:=fm d0 hn hi;obtain⟨_,_,g1,t1⟩:=fm d1 hn hi;obtain⟨_,_,g2,t2⟩:=fm d2 hn hi;obtain⟨_,_,g3,t3⟩:=fm d3 hn hi;obtain⟨z0,e0,_,w0⟩:=DataW.trod_int g0 t0;obtain⟨z1,e1,_,w1⟩:=DataW.trod_int g1 t1;obtain⟨z2,e2,_,w2⟩:=DataW.trod_int g2 t2;obtain⟨z3,e3,_,w3⟩:=DataW.trod_int g3 t3;simp at e0 e1 e2 e3;subst e0 e1 e2 e3;obtain⟨k0,rfl,hk⟩:=Qz w0;exact⟨⟨k0,z1,z2,z3⟩,rfl,hk,DT w1,DT w2,DT w3⟩
def Lt:∀(k:Nat) (C:List ae),C.length=4*k->(∀i,i<k->∃e,(C.drop (i*4)).take 4=GX e)->∃l:List xP,l.length=k/\C=Lu l
 |0,C,h,_=>⟨[],rfl,by cases C with|nil=>rfl|cons a b=>simp at h⟩
 |k+1,C,h,hq=>by
  obtain⟨e,h1⟩:=hq 0 om;obtain⟨l,a1,a2⟩:=Lt k (C.drop 4) (by rw[XR];omega) λi hi=>by obtain⟨e,g1⟩:=hq (i+1) om;refine⟨e,?_⟩;rw[List.drop_drop,show 4+i*4=(i+1)*4 by omega];exact g1
  rw[Nat.zero_mul,List.drop_zero]at h1;exact⟨e::l,by simp[a1],by show C=GX e++Lu l;rw[<- h1,<- a2,List.take_append_drop]⟩
structure FZ(P:Program)(t:TypeId):Prop where
 c:P.cellsOf t=3
 f:∃fs:Array Field,P.underlying t=some (.struct fs)/\Fd P fs 0 0 1 (λt=>∃e,P.underlying t=some (.slice e)/\P.cellsOf e=1/\0<P.bytesOf e)/\Fd P fs 1 1 1 (VD P .i64)/\Fd P fs 2 2 1 (λt=>∃e,P.underlying t=some (.slice e)/\Pr P e)
def vo{P:Program}{W:World}{t:TypeId}(Y:FZ P t){fuel:Nat}{cs:List Value}{x:DataW K×List MemPlace}(hf:DataW.trod enc P W 0 (λ_=>true) true fuel t cs=some x)(hw:∀n∈x.1.weights P t,n<=reachBytes) :
  ∃vc R vd nk ins,cs.map (j8 W)=[vc,.int .i64 R,vd]/\ez false vc=some (.int .i64 ((nk:Nat):Int))/\vc.one=true/\aeq vc vc=true/\nk<=281474976710656/\eM (·<(dN W).next) (dN W) 4 vd (ins:List xP).length (Lu ins)/\ins.length<=281474976710656:=by
 obtain⟨fs,hfs,d0,d1,d2⟩:=Y.f;obtain⟨xs,n,hfu,rfl,hl,hn,hi⟩:=DataW.trod_struct hfs hf;have hw':∀n∈DataW.weightsEach P (fs.toList.map (·.type)) (xs.map (·.1)),n<=reachBytes:=λn h=>hw n (by simp only[DataW.weights,hfs];exact h);rw[Y.c]at hl;obtain⟨c0,c1,c2,rfl⟩:∃a b c,cs=[a,b,c]:=by
  match cs,hl with
  | [a,b,c],_=>exact⟨a,b,c,rfl⟩
 obtain⟨_,y0,g0,t0,x0,f0⟩:=wC d0 hn hi;obtain⟨_,y1,g1,t1,x1,f1⟩:=wC d1 hn hi;obtain⟨_,y2,g2,t2,x2,f2⟩:=wC d2 hn hi;obtain⟨z1,e1,_,_⟩:=DataW.trod_int g1 t1;obtain⟨_,g0,h0,m0⟩:=g0;obtain⟨v0,k0,C0,e0,l0,q0,j0,u0⟩:=vm g0 h0 om t0;obtain⟨_,g2,h2⟩:=g2;obtain⟨v2,k2,C2,e2,l2,q2,j2,u2⟩:=vm g2 h2.c om t2;simp at e0 e1 e2;subst e0 e1 e2;have s0:=Kg g0 m0 (λn h=>hw' n (DataW.weights_mem_each f0 (by rw[List.getElem?_map,x0];rfl) n h)) l0;have s2:=Kg g2 h2.b (λn h=>hw' n (DataW.weights_mem_each f2 (by rw[List.getElem?_map,x2];rfl) n h)) l2;obtain⟨L2,n2,r2⟩:=Lt k2 C2 j2 λi hi=>by obtain⟨f,es,y,r1,r2,r3⟩:=u2 i hi;obtain⟨e,a1,_⟩:=vq h2 r3;exact⟨e,by rw[<- r2];exact a1⟩
 subst n2 r2;exact⟨_,z1,_,k0,L2,rfl,q0.len,q0.one,q0.aeq,s0,q2,s2⟩
end Go.Proofs.Wo
namespace Go.Proofs
open Go.Shelf
def Tryz.laysM316_ren:Go.Shelf.Ren:=⟨fun|316=>153|n=>n,fun|9=>9|3=>3|4=>4|37=>80|0=>0|127=>206|5=>5|n=>n,fun|n=>n⟩
def Tryz.laysM316:Go.Proofs.LaysM.n316 Tryz.prog Tryz.laysM316_ren:={
 mixed:=by kernel_rfl
 f316:=Tryz.func153.trans (congrArg some (by kernel_rfl))
 t0:=Tryz.underlying0
 a0:=Tryz.isAgg0
 z0:=Tryz.sizeOf0
 v0:=Tryz.zeroValue0
 t3:=Tryz.underlying3
 a3:=Tryz.isAgg3
 z3:=Tryz.sizeOf3
 v3:=Tryz.zeroValue3
 t4:=Tryz.underlying4
 a4:=Tryz.isAgg4
 z4:=Tryz.sizeOf4
 v4:=Tryz.zeroValue4
 t9:=Tryz.underlying9
 a9:=Tryz.isAgg9
 z9:=Tryz.sizeOf9
 v9:=Tryz.zeroValue9
 t37:=Tryz.underlying80
 a37:=Tryz.isAgg80
 z37:=Tryz.sizeOf80
 v37:=Tryz.zeroValue80
 t127:=Tryz.underlying206
 a127:=Tryz.isAgg206
 z127:=Tryz.sizeOf206
 v127:=Tryz.zeroValue206
 t5:=Tryz.underlying5
 a5:=Tryz.isAgg5
 z5:=Tryz.sizeOf5
 v5:=Tryz.zeroValue5
 i0:=by kernel_rfl
 i3:=by kernel_rfl
 i4:=by kernel_rfl
 i5:=by kernel_rfl
 i9:=by kernel_rfl
 i37:=by kernel_rfl
 i127:=by kernel_rfl }
open Go.RowKit in
def Tryz.stringslite_Clone(s:ByteArray)(w:World)(hlim:s.size<=281474976710656) :
  Calls Tryz.prog 153 #[.string s] w λe w'=>e=.returned (.string s)/\Below w.heap.size w w':=Any.stringslite_Clone Tryz.laysM316 s w hlim
end Go.Proofs
namespace Go.Proofs.Wo
open Go.Abs Go.Abs.S
def Uk:ep Tryz.prog 153=true:=by kernel_rfl
def QU:Dy Tryz.prog nat:=by
 refine⟨λf h=>?_,λf args H v H' _ hr Prot w0 ρ w vs R hv=>?_⟩
 ·obtain rfl:f=153:=XF h;exact Uk
 ·show Calls Tryz.prog f vs w _;have hr2:(bif Nat.beq f 153 then xg H args else none)=some (v,H'):=hr;cases hb:Nat.beq f 153 with
  |false=>rw[hb]at hr2;simp at hr2
  |true=>
   obtain rfl:f=153:=XF hb;rw[hb,cond_true]at hr2;unfold xg at hr2;split at hr2<;>first|(simp at hr2;done)|skip
   rename_i s;cases hl:Nat.ble s.length 281474976710656 with
   |false=>rw[hl]at hr2;simp at hr2
   |true=>
    rw[hl]at hr2;simp only[cond_true,sJ,pJ]at hr2;obtain⟨rfl,rfl⟩:=hr2;simp only[aE,ar]at hv;obtain⟨v1,r1,e1,rfl,rfl⟩:=hv;have hvs:vs=#[.string (bV s)]:=Array.toList_inj.1 (by simpa using e1);subst hvs;have hsz:(bV s).size=s.length:=by simp[bV,ByteArray.size]
    have:=XD hl;exact(Tryz.stringslite_Clone (bV s) w (by rw[hsz];exact this)).mono λe w' ⟨he,hk⟩=>⟨ρ,_,Pl.le_refl _,he,R.keep hk,by simp only[ar]⟩
def GP:Dy Tryz.prog aF:=QU
end Go.Proofs.Wo
namespace Go.Abs
open Go.ChangeShapes Go.WideShapes Go.ChangeAt Go.RowKit
section
variable {H:Type} {enc:TypeId×Value->H} {P:Program}
def pv{W W':World}{base:Nat}{sp:Nat->Bool}{held:Bool}(hb:Below W.heap.size W W'):∀{ts:List TypeId} {vs:List Value} {ds:List (DataW H)} {ps:List MemPlace},
  DataW.TrodAll enc P W base sp held ts vs ds ps->DataW.TrodAll enc P W' base sp held ts vs ds ps
 | [],[],[],_,h=>h
 |_::_,_::_,_::_,_,⟨p,q,⟨n,h1⟩,h2,e⟩=>by refine⟨p,q,⟨n,DataW.trod_carry n _ _ _ h1 λx hx=>hb.same (DataW.trod_lt n _ _ _ h1 x hx)⟩,pv hb h2,e⟩
def vu{W W':World}{sp:Nat->Bool}{gs:List (DataW H)}{q:List MemPlace}(h:DataW.TrodVars enc P W sp [] gs q):DataW.TrodVars enc P W' sp [] gs q:=by obtain⟨rfl,rfl⟩:=trodVars_none h;exact h
def Cn{f:Func}{s:ChangeSpec}{apart:Bool}{W W':World}{args:Array Value}{ds gs:List (DataW H)}{before:List MemPlace}{tb:TypeId}
  (hl:laidOutB P=true) (hm:mapsRowed P=true)
  (hz:((List.range P.types.size).all λt=>match P.underlying t with|some (.slice e)=>decide (0<P.cellsOf e)|_=>true)=true)
  (hts:(f.params.toList.all λt=>decide (t<P.types.size))=true) (hv:s.vars=[])
  (hW:DataW.Whole enc P f.params.toList s.vars apart W args.toList ds gs before)
  (hfn:s.fn H (ds++gs)={ results:=[.lit (.bool true)],args:=ds }) (hr:f.resultTypes=#[tb]) (ht:P.underlying tb=some .bool) (hb:Below W.heap.size W W') :
  s.post enc P f apart true false false W args (.bool true) W':=by
 have hlt:∀p∈before,p.block<W.heap.size:=λp hp=>hW.lt p hp;have hW0:=hW;obtain⟨p,q,hA,hV,rfl,hfz,hnd⟩:=hW;rw[hv]at hV;obtain⟨rfl,rfl⟩:=trodVars_none hV;have hT:∀t∈f.params.toList,t<P.types.size:=λt ht=>by simpa using List.all_eq_true.1 hts t ht
 refine⟨ds,[],p++[],[],p,[],hW0,?_,?_,?_,World.keptBut_mono (λx hx=>⟨hx,by simpa using hx⟩) (hb.frame (·∈p++[])),λh=>by simp at h⟩
 ·rw[hfn,hr];exact trodAll_cons_mk (shut_bool ht _) trodAll_mk0
 ·rw[hfn];refine pv hb (DataW.TrodAll.respare (kids_rows hl hm) (slices_full_of P hz) hT hA λx hx=>?_);simpa using hlt x (by simpa using hx)
 ·rw[hfn,hv];exact vu (W:=W) hV
end
end Go.Abs
namespace Go.Proofs.YteabnpheoiakdaaGreatDoor
open Go.ChangeShapes Go.WideShapes Go.RowKit
open Go.Abs Go.Abs.S Go.Proofs.Wo
def own:ownKnob Tryz.prog.godebug=none:=by kernel_rfl
def Aw{H:Type}{enc:TypeId×Value->H}{P:Program}{w:World}{base:Nat}{spare:Nat->Bool}{held:Bool}{fuel n:Nat}{t e:TypeId}{k:IntKind}{cs:List Value}{p:List MemPlace}{l:List Int}
  (ht:P.underlying t=some (.array n e)) (he:P.underlying e=some (.int k)) (hc:P.cellsOf e=1) (hct:P.cellsOf t=n)
  (h:DataW.trod enc P w base spare held fuel t cs=some (.agg (l.map λx=>.lit (.int k x)),p)):cs=l.map (.int k):=by
 obtain⟨xs,m,_,hx,hl,hn,hi⟩:=DataW.trod_array ht h;simp only[pJ,DataW.agg.injEq]at hx;have hll:l.length=n:=by have:=congrArg List.length hx.1;simp at this;omega
 apply List.ext_getElem?;intro i;by_cases hlt:i<n
 ·have h1:=hi i hlt;rw[hc,Nat.mul_one]at h1;have hxi:∃x,xs[i]?=some x:=⟨xs[i]'om,Xx _⟩;obtain⟨x,hxi⟩:=hxi;rw[hxi]at h1;obtain⟨y,hy,hyx,_⟩:=DataW.trod_int he h1;have hli:l[i]?=some (l[i]'om):=Xx _;have h2:=congrArg (·[i]?) hx.1;simp only[List.getElem?_map,hxi,hli,Option.map_some,sJ,hyx]at h2;simp only[DataW.lit.injEq,Lit.int.injEq,true_and]at h2;have h3:cs[i]?=some (.int k y):=by
   have:=congrArg (·[0]?) hy;simpa[List.getElem?_take,List.getElem?_drop]using this
  rw[h3,List.getElem?_map,hli,<- h2];rfl
 ·rw[XP om,XP (by simp;omega)]
def Nv{P:Program}{w:World}{n:String}{g:Nat}{cs:Array Value}(hg:P.globalNamed n=some g)(h:w.var? P n=some cs):∃e fz,w.heap[g]?=some (.cells cs e fz):=by
 simp only[World.var?,hg,Option.bind_some]at h;split at h
 ·rename_i C e fz hC;simp only[sJ]at h;subst h;exact⟨_,_,hC⟩
 ·simp at h
abbrev Lj:List (String×DataW Unit):=Rows.codeTellsRow.laid
def tZ{W:World}(h:laidMetH Tryz.prog Lj W):AW (dN W) 1 qJ/\1<(dN W).next:=by have h':laidMet Tryz.prog Lj W:=h;obtain⟨ps,hl,_,_⟩:=h';obtain⟨_,_,_,_,_,_,_,_,_,_,hl,_⟩:=hl;obtain⟨_,_,_,_,_,_,_,_,_,_,hl,_⟩:=hl;obtain⟨g,t,cs,f,p,q,hg,ht,hv,htr,_,_⟩:=hl;have e1:some 1=some g:=Eq.trans (by kernel_rfl) hg;simp only[sJ]at e1;subst e1;have e2:some 226=some t:=Eq.trans (by kernel_rfl) ht;simp only[sJ]at e2;subst e2;have hcs:=Aw (l:=(List.range 20).map λi=>((10 ^ i:Nat):Int)) Tryz.underlying226 (k:=.u64) Tryz.underlying152 (by kernel_rfl) (by kernel_rfl) htr;obtain⟨e,fz,hrow⟩:=Nv hg hv;refine⟨?_,(Array.getElem?_eq_some_iff.1 hrow).1⟩;unfold AW;rw[iH];unfold vU;simp only[hrow,hcs];rfl
end Go.Proofs.YteabnpheoiakdaaGreatDoor
