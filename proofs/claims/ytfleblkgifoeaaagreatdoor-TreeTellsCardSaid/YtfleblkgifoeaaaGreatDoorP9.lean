/- Part of a proof (YWG YWH YWI YWJ YWK YP0 YPF YPH); no condition. -/
import Derived.Test.YtfleblkgifoeaaaGreatDoorP8
set_option linter.unusedSimpArgs false
set_option linter.unusedVariables false
set_option linter.unnecessarySimpa false
namespace Go.Proofs.Wo
open Go.Abs Go.Abs.S
def put:Nat->List Nat->Nat->List Nat
 | 0,l,_=>l
 | i+1,l,u=>put i (l.set i (48+u % 10)) (u / 10)
def Ap(l:List Nat)(i d:Nat):List Nat:=(l.set (i+1) (48+d % 10)).set i (48+d / 10)
theorem fC(l:List Nat)(i d:Nat):(Ap l i d).length=l.length:=by simp[Ap]
theorem kD(i:Nat)(l:List Nat)(u:Nat):put (i+2) l u=put i (Ap l i (u % 100)) (u / 100):=by
 simp only[put,Ap]
 rw[Nat.div_div_eq_div_mul]
 congr 3
 ·omega
 ·omega
theorem xX:∀(k:Nat) (l:List Nat) (u:Nat),k<=l.length->put k l u=(pd k u).map (48+·)++l.drop k
 | 0,l,u,_=>by simp[put,pd]
 | k+1,l,u,h=>by
  rw[put,xX k _ _ (by simp; omega),pd,List.map_append,Q3]
  congr 1
  have hlt:k<(l.set k (48+u % 10)).length:=by simp; omega
  rw[List.drop_eq_getElem_cons hlt]
  simp[List.drop_set]
theorem Ch:∀(k:Nat) (l:List Nat) (u:Nat),(put k l u).length=l.length
 | 0,l,u=>rfl
 | k+1,l,u=>by rw[put,Ch k]; simp
theorem jd{H:aa}{b:Nat}{l:List Nat}(hr:aT H b (pB l))(hl:l.length=24){i d:Nat}(hi:i+1<24) :
  ∃H1 H2,a8 1 H (ae b 24 (i+1)) (.int .u8 ((48+d % 10:Nat):Int))=some H1/\a8 1 H1 (ae b 24 i) (.int .u8 ((48+d / 10:Nat):Int))=some H2/\aT H2 b (pB (Ap l i d))/\H2.next=H.next/\∀c,c≠b->H2.get c=H.get c:=by
 obtain⟨H1,m1,r1,n1,k1⟩:=ci hr (n:=24) (by rw[kz,hl]) (i:=i+1) om (x:=.int .u8 ((48+d % 10:Nat):Int)) rfl
 rw[<- oj]at r1
 obtain⟨H2,m2,r2,n2,k2⟩:=ci r1 (n:=24) (by rw[kz]; simpa using hl) (i:=i) om (x:=.int .u8 ((48+d / 10:Nat):Int)) rfl
 rw[<- oj]at r2
 exact⟨H1,H2,m1,m2,r2,om,fun c hc=>(k2 c hc).trans (k1 c hc)⟩
def tY:cp->cp
 | .seq _ b=>b
 | c=>c
def KN(t:cp):cp:=match Bv.body with
 | .seq a (.seq b (.seq c (.seq d _)))=>.seq a (.seq b (.seq c (.seq d t)))
 | x=>x
def Bo:cp:=tY (tY (tY (tY Bv.body)))
set_option maxRecDepth 100000 in
theorem Ly{b k:Nat}(hk:k<=24){R:List Nat}{Q:aa->Prop}(hQ:∀H',aT H' b (pB R)->Q H'->Q H'){H0:aa}{H:aa}{m:List Nat}(hm:m.length=24){i x:Nat}(hi:i<4)(hik:i<=k)(hx:x<10 ^ i)(hp:put i m x=R)
  {T:bG} (g0:T 0=iO b 24 k) (g4:T 4=.int .i64 (i:Int)) (g12:T 12=.int .u32 (x:Int)) (hr:aT H b (pB m)) (hn:H.next=H0.next) (ho:∀c,c≠b->H.get c=H0.get c) :
  wp (aq Tryz.prog aA) Bo (dM Bv.res fun v H'=>aT H' b (pB R)/\H'.next=H0.next/\∀c,c≠b->H'.get c=H0.get c) T H:=by
 simp only[Bo,tY,Bv,<- nF,sA,sB,seval]
 have fin1:∀{T:bG} {H:aa} {m:List Nat} {x:Nat},x<10->m.length=24->put 1 m x=R->aT H b (pB m)->H.next=H0.next->(∀c,c≠b->H.get c=H0.get c)->1<=k ->
   IntKind.u32.wrap (48+(x:Int))=((48+x:Nat):Int)/\IntKind.u8.wrap ((48+x:Nat):Int)=((48+x:Nat):Int)/\eH 1 (iO b 24 k) (.int .i64 0)=some (ae b 24 0) /\
   ∃H',a8 1 H (ae b 24 0) (.int .u8 ((48+x:Nat):Int))=some H'/\aT H' b (pB R)/\H'.next=H0.next/\∀c,c≠b->H'.get c=H0.get c:=by
  intro T H m x hx hm hp hr hn ho hk1
  refine⟨by rw[gX om om]; omega,fo om om,kO .i64 (i:=0) hk1,?_⟩
  obtain⟨H1,m1,r1,n1,k1⟩:=ci hr (n:=24) (by rw[kz,hm]) (i:=0) om (x:=.int .u8 ((48+x:Nat):Int)) rfl
  rw[<- oj]at r1
  refine⟨H1,m1,?_,om,fun c hc=>(k1 c hc).trans (ho c hc)⟩
  have:x % 10=x:=om
  rw[<- hp]
  simpa only [put,this] using r1
 by_cases c2:2<=i
 ·obtain⟨j,rfl⟩:∃j,i=j+2:=⟨i-2,om⟩
  have c2':(2:Int)<=((j+2:Nat):Int):=om
  have e1:=pL (a:=x) 100 om
  have hx4:x<10 ^ 4:=Q4 hx (Nat.pow_le_pow_right om om)
  have e2:=pM (a:=x) 100 om om
  simp only[Int.cast_ofNat_Int]at e1 e2
  have w1:IntKind.u32.wrap (((x % 100:Nat):Int)*2)=((x % 100*2:Nat):Int):=by rw[gX om om]; omega
  have w2:IntKind.u32.wrap (((x % 100*2:Nat):Int)+1)=((x % 100*2+1:Nat):Int):=by rw[gX om om]; omega
  have s1:IntKind.i64.wrap (((j+2:Nat):Int)-1)=((j+1:Nat):Int):=by rw[bj om om]; omega
  have s2:IntKind.i64.wrap (((j+2:Nat):Int)-2)=((j:Nat):Int):=by rw[bj om om]; omega
  obtain⟨H1,H2,m1,m2,r2,n2,k2⟩:=jd hr hm (i:=j) (d:=x % 100) om
  have hd:x % 100<100:=om
  rw[kD]at hp
  by_cases c0:0<j
  ·have hj:j=1:=om
   have c0':(0:Int)<(j:Int):=om
   have hx2:x / 100<10:=by
    rw[hj]at hx
    have:x<10 ^ 3:=hx
    omega
   rw[hj]at hp r2
   obtain⟨f1,f2,f3,H3,f4,f5⟩:=fin1 (T:=T) hx2 (by rw[fC,hm]) hp r2 om (fun c hc=>(k2 c hc).trans (ho c hc)) om
   simp only[sA,sB,seval,g0,g4,g12,c2',e1,e2,w1,w2,s1,s2,ig hd,fU hd,kO .i64 (show j+1<k by omega),kO .i64 (show j<k by omega),m1,m2,c0',f1,f2,f3,f4,wC]
   exact f5
  ·have hj:j=0:=om
   have c0':¬(0:Int)<(j:Int):=om
   rw[hj]at hp r2
   simp only[sA,sB,seval,g0,g4,g12,c2',e1,e2,w1,w2,s1,s2,ig hd,fU hd,kO .i64 (show j+1<k by omega),kO .i64 (show j<k by omega),m1,m2,c0',wC]
   refine⟨by rw[<- hp]; exact r2,om,fun c hc=>(k2 c hc).trans (ho c hc)⟩
 ·have c2':¬(2:Int)<=(i:Int):=om
  by_cases c0:0<i
  ·have hj:i=1:=om
   have c0':(0:Int)<(i:Int):=om
   rw[hj]at hp hx
   obtain⟨f1,f2,f3,H3,f4,f5⟩:=fin1 (T:=T) (by simpa using hx) hm hp hr hn ho om
   simp only[sA,sB,seval,g0,g4,g12,c2',c0',f1,f2,f3,f4,wC]
   exact f5
  ·have hj:i=0:=om
   have c0':¬(0:Int)<(i:Int):=om
   rw[hj]at hp
   simp only[sA,sB,seval,g0,g4,g12,c2',c0',wC]
   exact⟨by rw[<- hp]; exact hr,hn,ho⟩
set_option maxRecDepth 100000 in
theorem Hn(h79:aA.is 179=false){b k u:Nat}{l:List Nat}{H:aa}(hr:aT H b (pB l))(hl:l.length=24)(hk:k<=24)(hu:u<10 ^ k)(hu64:u<18446744073709551616) :
  aq Tryz.prog aA 179 [iO b 24 k,.int .u64 (u:Int)] H fun v H'=>aT H' b (pB (put k l u))/\H'.next=H.next/\∀c,c≠b->H'.get c=H.get c:=by
 refine af h79 Nc rfl ?_
 have t:=fun (T:bG) (H1:aa) (m:List Nat) (i x:Nat) hm hi hik hx hp g0 g4 g12 hr hn ho=>Ly (b:=b) (k:=k) hk (R:=put k l u) (Q:=fun _=>True) (fun _ _ h=>h) (H0:=H) (H:=H1) (m:=m) hm (i:=i) (x:=x) hi hik hx hp (T:=T) g0 g4 g12 hr hn ho
 show wp _ (KN Bo) (dM Bv.res _) _ _
 simp only[KN,Bv,<- nF,sA,sB,seval,JY]
 refine aG (fun q (T:bG) H'=>∃(i x:Nat) (m:List Nat),i<=k/\i=q/\m.length=24/\x<10 ^ i/\x<18446744073709551616/\T 0=iO b 24 k/\T 1=.int .u64 (x:Int)/\T 4=.int .i64 (i:Int)/\put i m x=put k l u/\aT H' b (pB m)/\H'.next=H.next/\∀c,c≠b->H'.get c=H.get c) k
  ⟨k,u,l,Nat.le_refl _,rfl,hl,hu,hu64,by simp only[sA,sB,seval],by simp only[sA,sB,seval],by simp only[sA,sB,seval],rfl,hr,rfl,fun c _=>rfl⟩ ?_
 rintro q T H1 ⟨i,x,m,hi,rfl,hm,hx,hx64,g0,g1,g4,hp,hr1,hn,ho⟩
 clear hr
 by_cases c8:8<=i
 ·obtain⟨j,rfl⟩:∃j,i=j+8:=⟨i-8,om⟩
  have c8':(8:Int)<=((j+8:Nat):Int):=om
  have e1:=LF (a:=x) 100000000 om
  have e2:=LH (a:=x) 100000000 om hx64
  have w0:IntKind.u32.wrap ((x % 100000000:Nat):Int)=((x % 100000000:Nat):Int):=gX om om
  have p1:x % 100000000 % 10000 % 100=x % 100:=om
  have p2:x % 100000000 % 10000 / 100=x / 100 % 100:=om
  have p3:x % 100000000 / 10000 % 100=x / 100 / 100 % 100:=om
  have p4:x % 100000000 / 10000 / 100=x / 100 / 100 / 100 % 100:=om
  have p5:x / 100 / 100 / 100 / 100=x / 100000000:=om
  rw[kD (j+6),kD (j+4),kD (j+2),kD j,p5,<- p1,<- p2,<- p3,<- p4]at hp
  have hA:x % 100000000<100000000:=om
  have hx':x / 100000000<10 ^ j:=by
   rw[Nat.pow_add]at hx
   exact Nat.div_lt_of_lt_mul (by rw[Nat.mul_comm]; exact hx)
  have hxx:x / 100000000<18446744073709551616:=om
  generalize x / 100000000=x' at *
  generalize x % 100000000=A at *
  have e3:=pM (a:=A) 10000 om om
  have e4:=pL (a:=A) 10000 om
  have hB:A / 10000<10000:=om
  have hC:A % 10000<10000:=om
  generalize A / 10000=B at *
  generalize A % 10000=C at *
  have e5:=pM (a:=C) 100 om om
  have e6:=pL (a:=C) 100 om
  have e7:=pM (a:=B) 100 om om
  have e8:=pL (a:=B) 100 om
  have d1:C % 100<100:=om
  have d2:C / 100<100:=om
  have d3:B % 100<100:=om
  have d4:B / 100<100:=om
  generalize C % 100=y1 at *
  generalize C / 100=y2 at *
  generalize B % 100=y3 at *
  generalize B / 100=y4 at *
  simp only[Int.cast_ofNat_Int]at e1 e2 e3 e4 e5 e6 e7 e8
  have ww:∀y:Nat,y<100->IntKind.u32.wrap ((y:Int)*2)=((y*2:Nat):Int):=fun y hy=>by rw[gX om om]; omega
  have wa:∀y:Nat,y<100->IntKind.u32.wrap (((y*2:Nat):Int)+1)=((y*2+1:Nat):Int):=fun y hy=>by rw[gX om om]; omega
  have s1:IntKind.i64.wrap (((j+8:Nat):Int)-1)=((j+6+1:Nat):Int):=by rw[bj om om]; omega
  have s2:IntKind.i64.wrap (((j+8:Nat):Int)-2)=((j+6:Nat):Int):=by rw[bj om om]; omega
  have s3:IntKind.i64.wrap (((j+8:Nat):Int)-3)=((j+4+1:Nat):Int):=by rw[bj om om]; omega
  have s4:IntKind.i64.wrap (((j+8:Nat):Int)-4)=((j+4:Nat):Int):=by rw[bj om om]; omega
  have s5:IntKind.i64.wrap (((j+8:Nat):Int)-5)=((j+2+1:Nat):Int):=by rw[bj om om]; omega
  have s6:IntKind.i64.wrap (((j+8:Nat):Int)-6)=((j+2:Nat):Int):=by rw[bj om om]; omega
  have s7:IntKind.i64.wrap (((j+8:Nat):Int)-7)=((j+1:Nat):Int):=by rw[bj om om]; omega
  have s8:IntKind.i64.wrap (((j+8:Nat):Int)-8)=((j:Nat):Int):=by rw[bj om om]; omega
  obtain⟨H2,H3,m2,m3,r3,n3,k3⟩:=jd hr1 hm (i:=j+6) (d:=y1) om
  obtain⟨H4,H5,m4,m5,r5,n5,k5⟩:=jd r3 (by rw[fC,hm]) (i:=j+4) (d:=y2) om
  obtain⟨H6,H7,m6,m7,r7,n7,k7⟩:=jd r5 (by rw[fC,fC,hm]) (i:=j+2) (d:=y3) om
  obtain⟨H8,H9,m8,m9,r9,n9,k9⟩:=jd r7 (by rw[fC,fC,fC,hm]) (i:=j) (d:=y4) om
  have ix:∀i,i<k->eH 1 (iO b 24 k) (.int .i64 (i:Int))=some (ae b 24 i):=fun i h=>kO .i64 h
  simp only[sA,sB,seval,g0,g1,g4,c8',e1,e2,e3,e4,e5,e6,e7,e8,w0,ww y1 d1,ww y2 d2,ww y3 d3,ww y4 d4,wa y1 d1,wa y2 d2,wa y3 d3,wa y4 d4,s1,s2,s3,s4,s5,s6,s7,s8,ig d1,fU d1,ig d2,fU d2,ig d3,fU d3,ig d4,fU d4,
   ix (j+6+1) om,ix (j+6) om,ix (j+4+1) om,ix (j+4) om,ix (j+2+1) om,ix (j+2) om,ix (j+1) om,ix j om,m2,m3,m4,m5,m6,m7,m8,m9]
  refine⟨_,Nat.lt_add_of_pos_right om,j,x',_,om,rfl,?_,hx',hxx,by trivial,by trivial,by trivial,hp,r9,om,fun c hc=>(k9 c hc).trans ((k7 c hc).trans ((k5 c hc).trans ((k3 c hc).trans (ho c hc))))⟩
  simp only[fC,hm]
 ·have c8':¬(8:Int)<=(i:Int):=om
  have hx7:x<10 ^ 7:=Q4 hx (Nat.pow_le_pow_right om om)
  have w0:IntKind.u32.wrap (x:Int)=(x:Int):=gX om om
  by_cases c4:4<=i
  ·obtain⟨j,rfl⟩:∃j,i=j+4:=⟨i-4,om⟩
   have c4':(4:Int)<=((j+4:Nat):Int):=om
   have e1:=pL (a:=x) 10000 om
   have e2:=pM (a:=x) 10000 om om
   have p1:x % 10000 % 100=x % 100:=om
   have p2:x % 10000 / 100=x / 100 % 100:=om
   have p5:x / 100 / 100=x / 10000:=om
   rw[kD (j+2),kD j,p5,<- p1,<- p2]at hp
   have hx':x / 10000<10 ^ j:=by
    rw[Nat.pow_add]at hx
    exact Nat.div_lt_of_lt_mul (by rw[Nat.mul_comm]; exact hx)
   have hC:x % 10000<10000:=om
   generalize x / 10000=x' at *
   generalize x % 10000=C at *
   have e5:=pM (a:=C) 100 om om
   have e6:=pL (a:=C) 100 om
   have d1:C % 100<100:=om
   have d2:C / 100<100:=om
   generalize C % 100=y1 at *
   generalize C / 100=y2 at *
   simp only[Int.cast_ofNat_Int]at e1 e2 e5 e6
   have ww:∀y:Nat,y<100->IntKind.u32.wrap ((y:Int)*2)=((y*2:Nat):Int):=fun y hy=>by rw[gX om om]; omega
   have wa:∀y:Nat,y<100->IntKind.u32.wrap (((y*2:Nat):Int)+1)=((y*2+1:Nat):Int):=fun y hy=>by rw[gX om om]; omega
   have s1:IntKind.i64.wrap (((j+4:Nat):Int)-1)=((j+2+1:Nat):Int):=by rw[bj om om]; omega
   have s2:IntKind.i64.wrap (((j+4:Nat):Int)-2)=((j+2:Nat):Int):=by rw[bj om om]; omega
   have s3:IntKind.i64.wrap (((j+4:Nat):Int)-3)=((j+1:Nat):Int):=by rw[bj om om]; omega
   have s4:IntKind.i64.wrap (((j+4:Nat):Int)-4)=((j:Nat):Int):=by rw[bj om om]; omega
   obtain⟨H2,H3,m2,m3,r3,n3,k3⟩:=jd hr1 hm (i:=j+2) (d:=y1) om
   obtain⟨H4,H5,m4,m5,r5,n5,k5⟩:=jd r3 (by rw[fC,hm]) (i:=j) (d:=y2) om
   have ix:∀i,i<k->eH 1 (iO b 24 k) (.int .i64 (i:Int))=some (ae b 24 i):=fun i h=>kO .i64 h
   simp only[sA,sB,seval,g0,g1,g4,c8',w0,c4',e1,e2,e5,e6,ww y1 d1,ww y2 d2,wa y1 d1,wa y2 d2,s1,s2,s3,s4,ig d1,fU d1,ig d2,fU d2,ix (j+2+1) om,ix (j+2) om,ix (j+1) om,ix j om,m2,m3,m4,m5]
   refine t _ _ (Ap (Ap m (j+2) y1) j y2) j x' ?_ om om hx' hp ?_ ?_ ?_ r5 om fun c hc=>(k5 c hc).trans ((k3 c hc).trans (ho c hc))
   ·simp only[fC,hm]
   all_goals simp only[sA,sB,seval,g0]
  ·have c4':¬(4:Int)<=(i:Int):=om
   simp only[sA,sB,seval,g0,g1,g4,c8',w0,c4']
   refine t _ _ m i x hm om hi hx hp ?_ ?_ ?_ hr1 hn ho
   all_goals simp only[sA,sB,seval,g0,g4]
open Go.Abs Go.Abs.S
theorem GC{l:List Nat}(h:∀d∈l,d<=9):pB (l.map (48+·))=dB (gU l):=by
 simp only[pB,dB,gU,List.map_map]
 apply List.map_congr_left
 intro d hd
 have:=h d hd
 have e:(UInt8.ofNat (48+d)).toNat=48+d:=by rw[UInt8.toNat_ofNat']; omega
 simp[e]; omega
theorem Gn:∀(k u:Nat),∀d∈pd k u,d<=9
 | 0,_,d,h=>by simp[pd]at h
 | k+1,u,d,h=>by
  rcases List.mem_append.1 h with h | h
  ·exact Gn k _ d h
  ·simp at h; omega
structure II(N:gC):Prop where
 (h56:N.is 145=false) (h77:N.is 177=false) (h78:N.is 178=false) (h79:N.is 179=false) (h93:N.is 195=false) (h94:N.is 196=false) (h95:N.is 197=false) (h33:N.is 186=false)
theorem Im(hN:II aA){b cap u:Nat}{s:Bs}{H:aa}(hb:xg H b cap s)(hbn:b<H.next)(hn1:1<H.next)(G:ru H 1 nM)(hu:u<4294967296)(hf:s.length+10<=cap)(hc:cap<=1000000) :
  aq Tryz.prog aA 145 [iO b cap s.length,.int .u64 (u:Int),.int .i64 10] H fun v H'=>v=iO b cap (s++gU (eg u)).length/\xg H' b cap (s++gU (eg u))/\H.next<=H'.next/\∀c,c<H.next->c≠b->H'.get c=H.get c:=by
 refine af hN.h56 Nw rfl ?_
 by_cases c1:u<100
 ·have c1':(u:Int)<100:=om
  have w1:IntKind.i64.wrap (u:Int)=(u:Int):=bj om om
  simp only[Mk,sA,sB,seval,c1',w1]
  refine (Ai hN.h77 c1).mono ?_
  rintro v _ ⟨rfl,rfl⟩
  have hl:=pa 9 u om
  obtain⟨H2,m2,b2,n2,k2⟩:=tF hb (I8 _ (gU (eg u))) (HX u) (by rw[pq]; omega) hc
  simp only[sA,sB,seval,m2]
  exact⟨by trivial,b2,om,fun c _ hne=>k2 c hne⟩
 ·have c1':¬(u:Int)<100:=om
  obtain⟨H1,m1,r1,n1,k1⟩:=au H (pB (List.replicate 24 0)) (n:=24) rfl
  have hz:pB (List.replicate 24 0)=[.int .u8 0,.int .u8 0,.int .u8 0,.int .u8 0,.int .u8 0,.int .u8 0,.int .u8 0,.int .u8 0,.int .u8 0,.int .u8 0,.int .u8 0,.int .u8 0,.int .u8 0,.int .u8 0,.int .u8 0,.int .u8 0,.int .u8 0,.int .u8 0,.int .u8 0,.int .u8 0,.int .u8 0,.int .u8 0,.int .u8 0,.int .u8 0]:=rfl
  rw[hz]at m1
  simp only[Mk,sA,sB,seval,c1',m1]
  have G1:ru H1 1 nM:=by unfold ru; rw[k1 1 om]; exact G
  refine (yO hN.h78 hN.h93 hN.h94 hN.h95 (u:=u) om hu G1).mono ?_
  rintro v _ ⟨⟨k,rfl,q1,q2,q3⟩,rfl⟩
  simp only[sA,sB,seval,B8 (show k+1<=24 by omega) om]
  refine (Hn hN.h79 r1 (by simp) (show k+1<=24 by omega) q2 om).mono ?_
  rintro v H2 ⟨r2,n2,k2⟩
  have hB:xg H2 H.next 24 (gU (eg u)):=by
   refine⟨_,r2,by rw[kz,Ch]; simp,?_⟩
   rw[xX _ _ _ (by simp; omega),Az k u q1 q2]
   have e:pB ((eg u).map (48+·))=dB (gU (eg u)):=by
    rw[<- Az k u q1 q2]; exact GC (Gn _ _)
   simp only[pB,List.map_append]at e ⊢
   rw[e]
   have:(gU (eg u)).length=(dB (gU (eg u))).length:=by rw[pm]
   rw[this,List.take_left]
  have hlen:(gU (eg u)).length=k+1:=by rw[pq,<- Az k u q1 q2,LJ]
  have hb2:xg H2 b cap s:=by
   refine hb.same ?_
   rw[k2 b om,k1 b om]
  have hs:=JX hB om
  obtain⟨H3,m3,b3,n3,k3⟩:=tF hb2 hs (HX u) om hc
  rw[hlen]at m3
  simp only[sA,sB,seval,B8 (show k+1<=24 by omega) om,m3]
  exact⟨by trivial,b3,om,fun c hc hne=>by rw[k3 c hne,k2 c om,k1 c om]⟩
theorem zP(hN:II aA){b cap u:Nat}{s:Bs}{H:aa}(hb:xg H b cap s)(hbn:b<H.next)(hn1:1<H.next)(G:ru H 1 nM)(hu:u<4294967296)(hf:s.length+10<=cap)(hc:cap<=1000000) :
  aq Tryz.prog aA 186 [iO b cap s.length,.int .u64 (u:Int),.int .i64 10] H fun v H'=>v=iO b cap (s++gU (eg u)).length/\xg H' b cap (s++gU (eg u))/\H.next<=H'.next/\∀c,c<H.next->c≠b->H'.get c=H.get c:=by
 refine af hN.h33 M8 rfl ?_
 simp only[OG,sA,sB,seval]
 refine (Im hN hb hbn hn1 G hu hf hc).mono ?_
 rintro v H' ⟨rfl,h⟩
 simp only[sA,sB,seval]
 exact⟨by trivial,h⟩
def Jg(t:cp):cp:=match wQ.body with
 | .seq a (.seq b (.seq c (.seq d _)))=>.seq a (.seq b (.seq c (.seq d t)))
 | x=>x
def CN:cp:=tY (tY (tY (tY wQ.body)))
theorem KB(hN:II aA){H0:aa}(hn0:1<H0.next)(G:ru H0 1 nM){sg:Bs}(hsg:sg.length<=1){n:Nat}(hn:n<=9223372036854775808){T:bG}{H:aa}{b:Nat}(hb:xg H b 48 sg)(hb0:H0.next<=b)(hbn:b<H.next)(hE:aS H0.next H0 H)
  (g3:T 3=.int .u64 (n:Int)) (g4:T 4=iO b 48 sg.length) :
  wp (aq Tryz.prog aA) CN (dM wQ.res fun v H'=>v=.str (sg++(gU (eg (n / 4294967296))++ib (n % 4294967296)))/\aS H0.next H0 H') T H:=by
 have e1:=DM .u64 .u64 n (b:=32) dD
 simp only[Int.cast_ofNat_Int,Nat.reducePow]at e1
 have e2:=tx (a:=n) (b:=4294967295) om dD
 have e2':n &&& 4294967295=n % 4294967296:=Nat.and_two_pow_sub_one_eq_mod n 32
 rw[e2']at e2
 simp only[Int.cast_ofNat_Int]at e2
 have hl10:(gU (eg (n / 4294967296))).length<=10:=by rw[pq]; exact pa 9 _ om
 simp only[CN,tY,wQ,sA,sB,seval,g3,g4,e1]
 refine (zP hN hb hbn (by have:=hE.next; omega) (G.ext hn0 hE) (show n / 4294967296<4294967296 by omega) om om).mono ?_
 rintro v H1 ⟨rfl,hb1,hn1,ho1⟩
 have hE1:aS H0.next H0 H1:=⟨by have:=hE.next; omega,fun c hc=>by rw[ho1 c (by have:=hE.next; omega) om,hE.old c hc]⟩
 have hr:n % 4294967296<4294967296:=om
 generalize n % 4294967296=r at *
 generalize gU (eg (n / 4294967296))=w at *
 have hbn1:b<H1.next:=om
 clear hb hbn hE ho1 hn1
 by_cases hr0:r=0
 ·subst hr0
  have hbs:=HR hb1 (by simp; omega)
  simp only[sA,sB,seval,g3,e2,hbs]
  exact⟨by simp[ib],hE1⟩
 ·have hz:¬((r:Nat):Int)=0:=om
  have ht:ib r=[46]++gU (gG 32 r):=by rw[ib,if_neg hr0]; rfl
  rw[ht]
  have hb2:xg (H1.push (.cells [.int .u8 46] 0 false)) b 48 (sg++w):=hb1.same (aE hbn1)
  obtain⟨H2,m2,b2,n2,k2⟩:=tF hb2 (x:=[46]) (DF H1 (.int .u8 46)) (by simp) (by simp; omega) om
  have hE2:aS H0.next H0 H2:=⟨by rw[n2,aZ]; have:=hE1.next; omega,fun c hc=>by rw[k2 c om,aE (by have:=hE1.next; omega),hE1.old c hc]⟩
  have hbn2:b<H2.next:=by rw[n2,aZ]; omega
  simp only[sA,sB,seval,g3,e2,hz,fS _ _ (x:=.int .u8 46) rfl,m2]
  refine aG (fun q (T:bG) H'=>∃(x:Nat) (acc:Bs),q<=32/\x<4294967296/\2 ^ (32-q) ∣ x/\acc.length+q<=44/\T 5=.int .u64 (x:Int)/\T 4=iO b 48 acc.length/\xg H' b 48 acc/\b<H'.next/\acc++gU (gG q x)=sg++(w++([46]++gU (gG 32 r)))/\aS H0.next H0 H') 32
   ⟨r,sg++w++[46],Nat.le_refl _,hr,by simp,by simp; omega,by simp only[sA,sB,seval],by simp only[sA,sB,seval],b2,hbn2,by simp,hE2⟩ ?_
  clear g3 g4 hb1 hb2 b2 m2 n2 k2 hE1 hE2 hbn1 hbn2 T H H1 H2 e1 e2 hz
  rintro q T H1 ⟨x,acc,hq,hx,hdv,hal,g5,g4,hb1,hbn1,hA,hE1⟩
  by_cases hx0:x=0
  ·subst hx0
   have hf:gG q 0=[]:=by cases q <;> simp[gG]
   rw[hf]at hA
   simp only[gU,List.map_nil,List.append_nil]at hA
   have hbs:=HR hb1 om
   simp only[sA,sB,seval,g4,g5,hbs,Int.cast_ofNat_Int]
   exact⟨by rw[hA]; rfl,hE1⟩
  ·obtain⟨k',rfl,hf,hdv'⟩:=vj hq hx hdv hx0
   have hz:¬((x:Nat):Int)=0:=om
   have w1:IntKind.u64.wrap ((x:Int)*10)=((x*10:Nat):Int):=by rw[ky om om]; omega
   have e1:=DM .u64 .u64 (x*10) (b:=32) dD
   simp only[Int.cast_ofNat_Int,Nat.reducePow]at e1
   have e2:=tx (a:=x*10) (b:=4294967295) om dD
   have e2':x*10 &&& 4294967295=x*10 % 4294967296:=Nat.and_two_pow_sub_one_eq_mod (x*10) 32
   rw[e2']at e2
   simp only[Int.cast_ofNat_Int]at e2
   have w4:IntKind.u8.wrap ((x*10 / 4294967296:Nat):Int)=((x*10 / 4294967296:Nat):Int):=fo om om
   have w5:IntKind.u8.wrap (48+((x*10 / 4294967296:Nat):Int))=((48+x*10 / 4294967296:Nat):Int):=by rw[fo om om]; omega
   have hd:x*10 / 4294967296<10:=om
   have hu:(UInt8.ofNat (48+x*10 / 4294967296)).toNat=48+x*10 / 4294967296:=by rw[UInt8.toNat_ofNat']; omega
   have hb2:xg (H1.push (.cells [.int .u8 ((48+x*10 / 4294967296:Nat):Int)] 0 false)) b 48 acc:=hb1.same (aE hbn1)
   have hsrc:=DF H1 (.int .u8 ((48+x*10 / 4294967296:Nat):Int))
   have hby:[ab.int .u8 ((48+x*10 / 4294967296:Nat):Int)]=dB [UInt8.ofNat (48+x*10 / 4294967296)]:=by simp only[dB,List.map_cons,List.map_nil,hu]
   obtain⟨H2,m2,b2,n2,k2⟩:=tF hb2 (x:=[UInt8.ofNat (48+x*10 / 4294967296)]) (by rw[<- hby]; exact hsrc) (by simp) (by simp; omega) om
   have hE2:aS H0.next H0 H2:=⟨by rw[n2,aZ]; have:=hE1.next; omega,fun c hc=>by rw[k2 c om,aE (by have:=hE1.next; omega),hE1.old c hc]⟩
   simp only[sA,sB,seval,g4,g5,hz,w1,e1,e2,w4,w5,fS _ _ (x:=.int .u8 ((48+x*10 / 4294967296:Nat):Int)) rfl,m2]
   refine⟨k',om,x*10 % 4294967296,_,om,om,hdv',?_,by trivial,rfl,b2,by rw[n2,aZ]; omega,?_,hE2⟩
   ·simp; omega
   ·refine Eq.trans ?_ hA
    rw[hf]; simp[gU]
theorem DN(hN:II aA)(h9:aA.is 162=false){n:Int}(h1:-9223372036854775808<=n)(h2:n<=9223372036854775807){H:aa}(hn:1<H.next)(G:ru H 1 nM) :
  aq Tryz.prog aA 162 [.int .i64 n] H fun v H'=>v=.str (cm n)/\aS H.next H H':=by
 refine af h9 Ni rfl ?_
 have hsz:n.natAbs<=9223372036854775808:=om
 obtain⟨H1,m1,b1,n1,k1⟩:=HQ (H:=H) (.int .u8 0) 48 om
 simp only[Int.cast_ofNat_Int]at m1
 have hE1:aS H.next H H1:=aS.of_new n1 k1 rL
 by_cases hneg:n<0
 ·have w1:IntKind.u64.wrap n=n+18446744073709551616:=by rw[IntKind.wrap_u64]; omega
  have w2:IntKind.u64.wrap (0-(n+18446744073709551616))=(n.natAbs:Int):=by rw[IntKind.wrap_u64]; omega
  have hd:cm n=[45]++(gU (eg (n.natAbs / 4294967296))++ib (n.natAbs % 4294967296)):=by rw[cm,if_pos hneg]
  rw[hd]
  have hb2:xg (H1.push (.cells [.int .u8 45] 0 false)) H.next 48 []:=b1.same (aE om)
  obtain⟨H2,m2,b2,n2,k2⟩:=tF hb2 (x:=[45]) (DF H1 (.int .u8 45)) (by simp) (by simp) om
  simp only[QV]at m2
  have hE2:aS H.next H H2:=⟨by rw[n2,aZ]; omega,fun c hc=>by rw[k2 c om,aE om,hE1.old c hc]⟩
  have t:=fun (T:bG) g3 g4=>KB hN (H0:=H) hn G (sg:=[45]) (by simp) (n:=n.natAbs) hsz (T:=T) (H:=H2) (b:=H.next) b2 rL (by rw[n2,aZ]; omega) hE2 g3 g4
  show wp _ (Jg CN) (dM wQ.res _) _ _
  simp only[Jg,wQ,sA,sB,seval,hneg,w1,Ft,w2,m1,fS _ _ (x:=.int .u8 45) rfl,m2]
  refine t _ ?_ ?_ <;> simp only[sA,sB,seval] <;> rfl
 ·have w1:IntKind.u64.wrap n=(n.natAbs:Int):=by rw[IntKind.wrap_u64]; omega
  have hd:cm n=[]++(gU (eg (n.natAbs / 4294967296))++ib (n.natAbs % 4294967296)):=by rw[cm,if_neg hneg]
  rw[hd]
  have t:=fun (T:bG) g3 g4=>KB hN (H0:=H) hn G (sg:=[]) (by simp) (n:=n.natAbs) hsz (T:=T) (H:=H1) (b:=H.next) b1 rL om hE1 g3 g4
  show wp _ (Jg CN) (dM wQ.res _) _ _
  simp only[Jg,wQ,sA,sB,seval,hneg,w1,m1]
  refine t _ ?_ ?_ <;> simp only[sA,sB,seval] <;> rfl
open Go.Abs Go.Abs.S
structure MK(N:gC):Prop where
 no:∀f,f≠153->N.is f=false
 yes:N.is 153=true
 clone:∀(s:Bs) (H:aa),s.length<=281474976710656->N.run 153 [.str s] H=some (.str s,H)
theorem MK.str(h:MK aA):II aA:=⟨h.no _ dD,h.no _ dD,h.no _ dD,h.no _ dD,h.no _ dD,h.no _ dD,h.no _ dD,h.no _ dD⟩
theorem tf(hN:MK aA){s:Bs}(hs:s.length<=281474976710656){H:aa}:aq Tryz.prog aA 109 [.str s] H fun v H'=>v=.str s/\H=H':=by
 refine af (hN.no _ dD) NR rfl ?_
 simp only[O5,sA,sB,seval]
 refine BG hN.yes (hN.clone s H hs) ?_
 simp only[sA,sB,seval]
 exact⟨by trivial,by trivial⟩
def sub(s:Bs)(i e:Nat):Bs:=(s.drop i).take (e-i)
def fx(k:Nat)(S:Bs)(n line at_ en:Nat):List ab:=[.int .u8 (k:Int),.str S,.int .i64 (n:Int),.int .i64 (line:Int),.int .i64 (at_:Int),.int .i64 (en:Int)]
def dQ(e line:Nat):List ab:=[.int .i64 (e:Int),.int .i64 (line:Int)]
structure QJ where
 k:Nat
 S:Bs
 n:Nat
 e:Nat
def je(s:Bs)(i:Nat):Option QJ:=match s[i]? with
 | none=>none
 | some c=>
  if dq c=true then (match fD (sub s i (dk s i)) with | some n=>some ⟨1,[],n,dk s i⟩ | none=>none)
  else if beg c=true then some ⟨if kY (sub s i (bk iE s i))=true then 3 else 2,sub s i (bk iE s i),0,bk iE s i⟩
  else if fk (s.drop i)=[] then none else some ⟨4,fk (s.drop i),0,i+(fk (s.drop i)).length⟩
def DT(i:Nat):Option QJ->List ab
 | some t=>fx t.k t.S t.n 0 i t.e
 | none=>fx 0 [] 0 0 0 0
theorem yq{s:Bs}{i:Nat}{c:UInt8}(h:s[i]?=some c):i<dk s i↔dq c=true:=by
 cases hc:dq c with
 | false=>
  have h1:=kC h hc
  have:dk s i=i:=by rw[dk,h1,if_pos (.inl rfl)]
  rw[this]; simp
 | true=>
  have h1:=fJ h hc
  have h2:=fd dq s (i+1)
  have h3:i<dk s i:=by
   unfold dk
   split
   ·omega
   ·split <;> omega
  simp[h3]
def eO:List Bs:=[[38,38],[124,124],[61,61],[33,61],[60,61],[62,61],[60],[62],[43],[45],[42],[47],[33],[40],[41],[123],[125],[44],[59],[61]]
theorem xN:eO=nD++ye.map (fun c=>[c]):=by decide
theorem nG{c:UInt8}{r:Bs}:fk (c::r)=((eO.find? (pre (c::r))).getD []):=by
 rw[xN,List.find?_append,fk]
 cases nD.find? (pre (c::r)) with
 | some t=>rfl
 | none=>
  simp only[Option.none_or]
  have key:∀l:Bs,(if c∈l then [c] else [])=((l.map fun c=>[c]).find? (pre (c::r))).getD []:=by
   intro l
   induction l with
   | nil=>simp
   | cons d l ih=>
    have hp:pre (c::r) [d]=decide (c=d):=by simp[pre]
    rw[List.map_cons]
    by_cases h:c=d
    ·subst h
     rw[List.find?_cons_of_pos (by rw[hp]; simp)]
     simp
    ·rw[List.find?_cons_of_neg (by rw[hp]; simpa using h),<- ih]
     simp[h]
  exact key ye
theorem DJ:∀t∈eO,t≠[]:=by decide
theorem Cj{s t:Bs}{i:Nat}(hi:i<=s.length):pre (s.drop i) t=(decide (i+t.length<=s.length)&&decide ((s.drop i).take t.length=t)):=by
 unfold pre
 by_cases h:i+t.length<=s.length
 ·simp[h]
 ·have:¬(s.drop i).take t.length=t:=by
   intro e
   have:=congrArg List.length e
   simp at this; omega
  simp[this]
theorem xQ{s:Bs}{i:Nat}(hi:i<=s.length):i+(fk (s.drop i)).length<=s.length:=by
 rcases Nat.lt_or_ge i s.length with h | h
 ·obtain⟨c,hc⟩:=aN h
  rw[dR hc,nG,<- dR hc]
  cases hf:eO.find? (pre (s.drop i)) with
  | none=>simpa using hi
  | some t=>
   have:=List.find?_some hf
   rw[Cj hi]at this
   simp only[QT,Q2]at this
   exact this.1
 ·rw[List.drop_eq_nil_of_le h]
  have:fk []=[]:=by decide
  rw[this]; simpa using hi
theorem cR(k:Nat)(S:Bs)(n line at_ en:Nat):(fx k S n line at_ en).all ab.one=true:=rfl
theorem cS(k:Nat)(S:Bs)(n line at_ en:Nat):(fx k S n line at_ en).length=6:=rfl
theorem GQ(s:Bs):decide (s∈[[108,101,116],[115,101,116],[105,102],[101,108,115,101],[119,104,105,108,101],[114,101,116,117,114,110]])=kY s:=by
 rw[Bool.eq_iff_iff]; simp[kY]
def ZW:List ab:=[.int .u8 0,.str [],.int .i64 0,.int .i64 0,.int .i64 0,.int .i64 0]
theorem gu:bB ZW []=some (.agg (fx 0 [] 0 0 0 0)):=rfl
theorem Mq(n i e:Nat):bB ZW [(0,1,.int .u8 1),(2,1,.int .i64 (n:Int)),(4,1,.int .i64 (i:Int)),(5,1,.int .i64 (e:Int))]=some (.agg (fx 1 [] n 0 i e)):=rfl
theorem JW(S:Bs)(i e:Nat):bB ZW [(0,1,.int .u8 2),(1,1,.str S),(4,1,.int .i64 (i:Int)),(5,1,.int .i64 (e:Int))]=some (.agg (fx 2 S 0 0 i e)):=rfl
theorem JV(S:Bs)(i e:Nat):bB ZW [(0,1,.int .u8 4),(1,1,.str S),(4,1,.int .i64 (i:Int)),(5,1,.int .i64 (e:Int))]=some (.agg (fx 4 S 0 0 i e)):=rfl
theorem Pd(i line:Nat):bB ZW [(4,1,.int .i64 (i:Int)),(5,1,.int .i64 (i:Int)),(3,1,.int .i64 (line:Int))]=some (.agg (fx 0 [] 0 line i i)):=rfl
theorem Mr(i line:Nat):bB ZW [(0,1,.int .u8 5),(3,1,.int .i64 (line:Int)),(4,1,.int .i64 (i:Int)),(5,1,.int .i64 (i:Int))]=some (.agg (fx 5 [] 0 line i i)):=rfl
theorem JM{α:Type}{p:α->Bool}{l:List α}{k:Nat}{x:α}(h:l[k]?=some x)(hn:(l.take k).find? p=none)(hp:p x=true):l.find? p=some x:=by
 have hlt:=(QR.1 h).1
 have e:l=l.take k++x::l.drop (k+1):=by
  rw[QQ hlt]at h
  simp only[sJ]at h
  rw[<- h,<- List.drop_eq_getElem_cons hlt,List.take_append_drop]
 rw[e,List.find?_append,hn,Option.none_or,List.find?_cons_of_pos hp]
theorem vk{α:Type}{p:α->Bool}{l:List α}{k:Nat}{x:α}(h:l[k]?=some x)(hn:(l.take k).find? p=none)(hp:p x=false):(l.take (k+1)).find? p=none:=by
 rw[List.take_add_one,h,List.find?_append,hn,Option.none_or]
 simp[hp]
theorem Gr(hN:MK aA){s:Bs}{i:Nat}(hi:i<s.length)(hs:s.length<=1099511627776){H:aa} :
  aq Tryz.prog aA 114 [.str s,.int .i64 (i:Int)] H fun v H'=>v=.agg (DT i (je s i))/\aS H.next H H':=by
 refine af (hN.no _ dD) NL rfl ?_
 obtain⟨c,hc⟩:=aN hi
 obtain⟨H1,m1,r1,n1,k1⟩:=au H ZW (n:=6) rfl
 have hE1:aS H.next H H1:=aS.of_new n1 k1 rL
 have hz:([.int .u8 0,.str [],.int .i64 0,.int .i64 0,.int .i64 0,.int .i64 0]:List ab)=ZW:=rfl
 simp only[O1,sA,sB,seval,hz,m1]
 refine (nq (hN.no _ dD) (hN.no _ dD) (i:=i) om om).mono ?_
 rintro v _ ⟨rfl,rfl⟩
 have hle:=oO (s:=s) (i:=i) om
 have hge:=Cq s i
 have hpos:=yq hc
 have hone:je s i=if dq c=true then (match fD (sub s i (dk s i)) with | some n=>some ⟨1,[],n,dk s i⟩ | none=>none)
  else if beg c=true then some ⟨if kY (sub s i (bk iE s i))=true then 3 else 2,sub s i (bk iE s i),0,bk iE s i⟩
  else if fk (s.drop i)=[] then none else some ⟨4,fk (s.drop i),0,i+(fk (s.drop i)).length⟩:=by rw[je,hc]
 rw[hone]
 by_cases hd:dq c=true
 ·have hlt:=hpos.2 hd
  rw[if_pos hd]
  have c1:(0:Int)<((dk s i-i:Nat):Int):=om
  have w1:IntKind.i64.wrap ((i:Int)+((dk s i-i:Nat):Int))=(dk s i:Int):=by rw[bj om om]; omega
  have s1:dT (.str s) (some (.int .i64 (i:Int))) (some (.int .i64 (dk s i:Int)))=some (.str (sub s i (dk s i))):=nE om om
  simp only[sA,sB,seval,c1,w1,s1]
  refine (v7 (hN.no _ dD) (hN.no _ dD) (hN.no _ dD) (by simp[sub]; omega)).mono ?_
  rintro v H2 ⟨rfl,hE2⟩
  have hE12:=hE1.trans (hE2.less om)
  have r2:=r1.same (hE2.old _ om)
  cases hn:fD (sub s i (dk s i)) with
  | none=>
   obtain⟨H3,m3,r3,n3,k3⟩:=aj r2 (n:=6) rfl (cS 0 [] 0 0 0 0) (cR 0 [] 0 0 0 0)
   simp only[Ac,sA,sB,seval,b9,b7,gu,m3]
   refine bL _ _ _ _ (v:=.agg (fx 0 [] 0 0 0 0)) (by simp only[sA,sB,seval]; exact al r3 rfl) ⟨by trivial,⟨by have:=hE12.next; omega,fun c hc=>by rw[k3 c om,hE12.old c hc]⟩⟩
  | some n=>
   obtain⟨H3,m3,r3,n3,k3⟩:=aj r2 (n:=6) rfl (cS 1 [] n 0 i (dk s i)) (cR 1 [] n 0 i (dk s i))
   simp only[Ac,sA,sB,seval,b9,b7,w1,Mq,m3]
   refine bL _ _ _ _ (v:=.agg (fx 1 [] n 0 i (dk s i))) (by simp only[sA,sB,seval]; exact al r3 rfl) ⟨by trivial,⟨by have:=hE12.next; omega,fun c hc=>by rw[k3 c om,hE12.old c hc]⟩⟩
 ·rw[if_neg hd]
  have hn0:dk s i-i=0:=by
   have:¬i<dk s i:=fun h=>hd (hpos.1 h)
   omega
  have c1:¬(0:Int)<((dk s i-i:Nat):Int):=om
  simp only[sA,sB,seval,c1,bq hc]
  refine (qz (hN.no _ dD) c _).mono ?_
  rintro v _ ⟨rfl,rfl⟩
  by_cases hb:beg c=true
  ·rw[if_pos hb,hb]
   simp only[sA,sB,seval]
   refine fu (fun (T:bG) H'=>T 0=.str s/\T 1=.int .i64 (i:Int)/\T 4=ae H.next 6 0/\T 8=.int .i64 (bk iE s i:Int)/\H1=H') (bH _ _) ?_ ?_
   ·refine aG (fun q (T:bG) H'=>∃j:Nat,j<=s.length/\q=s.length-j/\T 0=.str s/\T 1=.int .i64 (i:Int)/\T 4=ae H.next 6 0/\T 8=.int .i64 (j:Int)/\bk iE s i=bk iE s j/\H1=H') (s.length-i) ⟨i,om,rfl,by simp only[sA,sB,seval],by simp only[sA,sB,seval],by simp only[sA,sB,seval],by simp only[sA,sB,seval],rfl,rfl⟩ ?_
    rintro q T _ ⟨j,hj,rfl,g0,g1,g4,g8,hA,rfl⟩
    by_cases hlt:j<s.length
    ·obtain⟨d,hdj⟩:=aN hlt
     have hlt':(j:Int)<(s.length:Int):=om
     simp only[sA,sB,seval,g0,g1,g4,g8,hlt',bq hdj]
     refine (qz (hN.no _ dD) d _).mono ?_
     rintro v _ ⟨rfl,rfl⟩
     cases hbd:beg d with
     | true=>
      have hg:iE d=true:=by simp[iE,hbd]
      simp only[sA,sB,seval,g0,g1,g4,g8,de j om]
      exact⟨_,om,j+1,om,rfl,by trivial,by trivial,by trivial,by trivial,by rw[hA,fJ hdj hg],by trivial⟩
     | false=>
      simp only[sA,sB,seval,g0,g1,g4,g8,bq hdj]
      refine (lH (hN.no _ dD) d _).mono ?_
      rintro v _ ⟨rfl,rfl⟩
      cases hdd:dq d with
      | true=>
       have hg:iE d=true:=by simp[iE,hdd]
       simp only[sA,sB,seval,g0,g1,g4,g8,de j om]
       exact⟨_,om,j+1,om,rfl,by trivial,by trivial,by trivial,by trivial,by rw[hA,fJ hdj hg],by trivial⟩
      | false=>
       have hg:iE d=false:=by simp[iE,hbd,hdd]
       simp only[sA,sB,seval,g0,g1,g4,g8]
       exact⟨by trivial,by trivial,by trivial,by rw[hA,kC hdj hg],by trivial⟩
    ·have hlt':¬(j:Int)<(s.length:Int):=om
     simp only[sA,sB,seval,g0,g1,g4,g8,hlt']
     exact⟨by trivial,by trivial,by trivial,by rw[hA,lB om],by trivial⟩
   ·rintro T _ ⟨g0,g1,g4,g8,rfl⟩
    have hje:=eZ (p:=iE) (s:=s) (i:=i) om
    have hjg:=fd iE s i
    have s1:dT (.str s) (some (.int .i64 (i:Int))) (some (.int .i64 (bk iE s i:Int)))=some (.str (sub s i (bk iE s i))):=nE hjg hje
    generalize sub s i (bk iE s i)=S at *
    generalize bk iE s i=j at *
    obtain⟨H2,m2,r2,n2,k2⟩:=au H1 ZW (n:=6) rfl
    obtain⟨H3,m3,r3,n3,k3⟩:=aj r2 (n:=6) rfl (cS 2 S 0 0 i j) (cR 2 S 0 0 i j)
    have b4:cD 6 [.str []] H3 [(0,1,.str [108,101,116]),(1,1,.str [115,101,116]),(2,1,.str [105,102]),(3,1,.str [101,108,115,101]),(4,1,.str [119,104,105,108,101]),(5,1,.str [114,101,116,117,114,110])]=some (qL H3.next 6 (.known 6),H3.push (.cells ((([[108,101,116],[115,101,116],[105,102],[101,108,115,101],[119,104,105,108,101],[114,101,116,117,114,110]]:List Bs).map .str)) 0 false)):=rfl
    have C4:=(dA H3 (([[108,101,116],[115,101,116],[105,102],[101,108,115,101],[119,104,105,108,101],[114,101,116,117,114,110]]:List Bs).map .str)).cel (r:=.known 6) (n:=6) rfl (Nat.lt_succ_self _)
    have l1:=ah r3 (n:=6) rfl (i:=1) (x:=.str S) rfl
    simp only[sA,sB,seval,g0,g1,g4,g8,s1,JW,hz,m2,m3,fld0,l1,b4]
    refine (JG (hN.no _ dD) C4 dD S).mono ?_
    rintro v _ ⟨rfl,rfl⟩
    rw[GQ]
    generalize hH4:H3.push (.cells ((([[108,101,116],[115,101,116],[105,102],[101,108,115,101],[119,104,105,108,101],[114,101,116,117,114,110]]:List Bs).map .str)) 0 false)=H4
    have n4:H4.next=H3.next+1:=by rw[<- hH4]; rfl
    have k4:∀c,c<H3.next->H4.get c=H3.get c:=fun c hc=>by rw[<- hH4]; exact aE hc
    have r4:=r3.same (k4 _ om)
    have r1':aT H4 H.next ZW:=r1.same (by rw[k4 _ om,k3 _ om,k2 _ om])
    have hE4:aS H.next H H4:=⟨om,fun c hc=>by rw[k4 c om,k3 c om,k2 c om,k1 c om]⟩
    clear b4 C4 hH4
    cases hk:kY S with
    | true=>
     obtain⟨H5,m5,r5,n5,k5⟩:=ci r4 (n:=6) rfl (i:=0) om (x:=.int .u8 3) rfl
     have e5:(fx 2 S 0 0 i j).set 0 (.int .u8 3)=fx 3 S 0 0 i j:=rfl
     rw[e5]at r5
     have r1'':=r1'.same (k5 _ om)
     obtain⟨H6,m6,r6,n6,k6⟩:=aj r1'' (n:=6) rfl (cS 3 S 0 0 i j) (cR 3 S 0 0 i j)
     simp only[sA,sB,seval,g4,fld0,m5,al r5 (n:=6) rfl,m6]
     refine bL _ _ _ _ (v:=.agg (fx 3 S 0 0 i j)) (by simp only[sA,sB,seval,g4]; exact al r6 rfl) ⟨by simp only[DT,if_true],⟨om,fun c hc=>by rw[k6 c om,k5 c om,hE4.old c hc]⟩⟩
    | false=>
     obtain⟨H6,m6,r6,n6,k6⟩:=aj r1' (n:=6) rfl (cS 2 S 0 0 i j) (cR 2 S 0 0 i j)
     simp only[sA,sB,seval,g4,al r4 (n:=6) rfl,m6]
     refine bL _ _ _ _ (v:=.agg (fx 2 S 0 0 i j)) (by simp only[sA,sB,seval,g4]; exact al r6 rfl) ⟨by simp[DT],⟨om,fun c hc=>by rw[k6 c om,hE4.old c hc]⟩⟩
  ·rw[if_neg hb]
   have hbf:beg c=false:=by simpa using hb
   rw[hbf]
   have hsg:fk (s.drop i)=(eO.find? (pre (s.drop i))).getD []:=by rw[dR hc]; exact nG
   have b2:cD 20 [.str []] H1 [(0,1,.str [38,38]),(1,1,.str [124,124]),(2,1,.str [61,61]),(3,1,.str [33,61]),(4,1,.str [60,61]),(5,1,.str [62,61]),(6,1,.str [60]),(7,1,.str [62]),(8,1,.str [43]),(9,1,.str [45]),(10,1,.str [42]),(11,1,.str [47]),(12,1,.str [33]),(13,1,.str [40]),(14,1,.str [41]),(15,1,.str [123]),(16,1,.str [125]),(17,1,.str [44]),(18,1,.str [59]),(19,1,.str [61])]=some (qL H1.next 20 (.known 20),H1.push (.cells (eO.map .str) 0 false)):=rfl
   have C2:=(dA H1 (eO.map .str)).cel (r:=.known 20) (n:=20) rfl (Nat.lt_succ_self _)
   simp only[sA,sB,seval,b2]
   generalize hH2:H1.push (.cells (eO.map .str) 0 false)=H2 at *
   have n2:H2.next=H1.next+1:=by rw[<- hH2]; rfl
   have k2:∀c,c<H1.next->H2.get c=H1.get c:=fun c hc=>by rw[<- hH2]; exact aE hc
   have r2:aT H2 H.next ZW:=r1.same (k2 _ om)
   have hE2:aS H.next H H2:=⟨om,fun c hc=>by rw[k2 c om,k1 c om]⟩
   clear b2
   have hll:eO.length=20:=rfl
   refine aG (fun q (T:bG) H'=>∃k:Nat,k<=20/\q=20-k/\T 0=.str s/\T 1=.int .i64 (i:Int)/\T 4=ae H.next 6 0/\T 10=qL H1.next 20 (.known 20)/\T 11=.int .i64 (k:Int)/\(eO.take k).find? (pre (s.drop i))=none/\H2=H') 20 ⟨0,Nat.zero_le _,rfl,by simp only[sA,sB,seval],by simp only[sA,sB,seval],by simp only[sA,sB,seval],by simp only[sA,sB,seval],by simp only[sA,sB,seval]; try rfl,rfl,rfl⟩ ?_
   rintro q T _ ⟨k,hk,rfl,g0,g1,g4,g10,g11,hA,rfl⟩
   by_cases hlt:k<20
   ·have hlt':(k:Int)<20:=om
    obtain⟨t,ht⟩:=aN (l:=eO) (i:=k) om
    have e1:=C2.idx .i64 (i:=k) (by rw[Q5,hll]; exact hlt)
    have e2:=C2.load (i:=k) (x:=.str t) (by simp[ht])
    have htl:t.length<=2:=by
     have:∀t∈eO,t.length<=2:=by decide
     exact this t (QY ht)
    have w1:=Kq i t.length om
    have hpre:=Cj (s:=s) (t:=t) (i:=i) om
    have hl:=C2.len
    by_cases c1:i+t.length<=s.length
    ·have c1':((i+t.length:Nat):Int)<=(s.length:Int):=om
     have s1:=nE (s:=s) (l:=i) (h:=i+t.length) om c1
     rw[Nat.add_sub_cancel_left]at s1
     by_cases c2:(s.drop i).take t.length=t
     ·have hp:pre (s.drop i) t=true:=by rw[hpre]; simp[c1,c2]
      have hf:=JM ht hA hp
      rw[hf]at hsg
      simp only[Option.getD_some]at hsg
      have hne:=DJ t (QY ht)
      rw[hsg,if_neg hne]
      obtain⟨H3,m3,r3,n3,k3⟩:=aj r2 (n:=6) rfl (cS 4 t 0 0 i (i+t.length)) (cR 4 t 0 0 i (i+t.length))
      simp only[sA,sB,seval,g0,g1,g4,g10,g11,oB,hlt',e1,e2,w1,c1',s1,c2,JV,m3]
      refine bL _ _ _ _ (v:=.agg (fx 4 t 0 0 i (i+t.length))) (by simp only[sA,sB,seval,g4]; exact al r3 rfl) ⟨by trivial,⟨om,fun c hc=>by rw[k3 c om,hE2.old c hc]⟩⟩
     ·have hp:pre (s.drop i) t=false:=by rw[hpre]; simp[c2]
      simp only[sA,sB,seval,g0,g1,g4,g10,g11,oB,hlt',e1,e2,w1,c1',s1,c2,de k om]
      exact⟨_,om,k+1,om,rfl,by trivial,by trivial,by trivial,by trivial,rfl,vk ht hA hp,by trivial⟩
    ·have c1':¬((i+t.length:Nat):Int)<=(s.length:Int):=om
     have hp:pre (s.drop i) t=false:=by rw[hpre]; simp[c1]
     simp only[sA,sB,seval,g0,g1,g4,g10,g11,oB,hlt',e1,e2,w1,c1',de k om]
     exact⟨_,om,k+1,om,rfl,by trivial,by trivial,by trivial,by trivial,rfl,vk ht hA hp,by trivial⟩
   ·obtain rfl:k=20:=om
    rw[List.take_of_length_le om]at hA
    rw[hA,Option.getD_none]at hsg
    rw[hsg,if_pos rfl]
    obtain⟨H3,m3,r3,n3,k3⟩:=aj r2 (n:=6) rfl (cS 0 [] 0 0 0 0) (cR 0 [] 0 0 0 0)
    simp only[sA,sB,seval,g0,g1,g4,g10,g11,oB,Int.lt_irrefl,hz,gu,m3]
    refine bL _ _ _ _ (v:=.agg (fx 0 [] 0 0 0 0)) (by simp only[sA,sB,seval,g4]; exact al r3 rfl) ⟨by trivial,⟨om,fun c hc=>by rw[k3 c om,hE2.old c hc]⟩⟩
open Go.Abs Go.Abs.S
def dg(w f:List ab):ab:=.tuple [.agg w,.agg f]
def fm(s:Bs)(p:Int):ab:=
 if 16384<s.length then dg (fx 0 [] 0 0 0 0) (dQ 3 0)
 else if p<0∨(s.length:Int)<p then dg (fx 0 [] 0 0 0 0) (dQ 2 0)
 else if ba s p.toNat=s.length then dg (fx 5 [] 0 (bz s (ba s p.toNat)) (ba s p.toNat) (ba s p.toNat)) (dQ 0 0)
 else match je s (ba s p.toNat) with
  | some t=>dg (fx t.k t.S t.n (bz s (ba s p.toNat)) (ba s p.toNat) t.e) (dQ 0 0)
  | none=>dg (fx 0 [] 0 0 0 0) (dQ 100 (bz s (ba s p.toNat)))
theorem eo{H:aa}{b:Nat}{l m:List ab}(h6:aT H b l)(hl:l.length=6)(h2:aT H (b+1) m)(hm:m.length=2){xs ys:List ab}(hx:xs.length=6)(ox:xs.all ab.one=true)(hy:ys.length=2)(oy:ys.all ab.one=true) :
  ∃H1 H2,a8 6 H (ae b 6 0) (.agg xs)=some H1/\a8 2 H1 (ae (b+1) 2 0) (.agg ys)=some H2/\aT H2 b xs/\aT H2 (b+1) ys/\H2.next=H.next/\(∀c,c<b->H2.get c=H.get c)/\∀c,c≠b->H1.get c=H.get c:=by
 obtain⟨H1,m1,r1,n1,k1⟩:=aj h6 hl hx ox
 obtain⟨H2,m2,r2,n2,k2⟩:=aj (h2.same (k1 _ om)) hm hy oy
 exact⟨H1,H2,m1,m2,r1.same (k2 _ om),r2,om,fun c hc=>by rw[k2 c om,k1 c om],k1⟩
theorem fg(e l:Nat):(dQ e l).all ab.one=true:=rfl
theorem fh(e l:Nat):(dQ e l).length=2:=rfl
abbrev Z2:List ab:=[.int .i64 0,.int .i64 0]
theorem Cr(H:aa):∃H1 H2,go H ZW=(ae H.next 6 0,H1)/\go H1 [.int .i64 0,.int .i64 0]=(ae (H.next+1) 2 0,H2)/\aT H2 H.next ZW/\aT H2 (H.next+1) Z2/\H2.next=H.next+2/\∀c,c<H.next->H2.get c=H.get c:=by
 obtain⟨H1,m1,r1,n1,k1⟩:=au H ZW (n:=6) rfl
 obtain⟨H2,m2,r2,n2,k2⟩:=au H1 Z2 (n:=2) rfl
 rw[n1]at m2 r2
 exact⟨H1,H2,m1,m2,r1.same (k2 _ om),r2,om,fun c hc=>by rw[k2 c om,k1 c om]⟩
theorem rX(hN:MK aA){s:Bs}{p:Int}(h1:-9223372036854775808<=p)(h2:p<=9223372036854775807){H:aa} :
  aq Tryz.prog aA 71 [.str s,.int .i64 p] H fun v H'=>v=fm s p/\aS H.next H H':=by
 refine af (hN.no _ dD) PS rfl ?_
 obtain⟨H1,H2,m1,m2,r6,r2,n2,k2⟩:=Cr H
 have hz:([.int .u8 0,.str [],.int .i64 0,.int .i64 0,.int .i64 0,.int .i64 0]:List ab)=ZW:=rfl
 have g3:bB [.int .i64 0,.int .i64 0] [(0,1,.int .i64 3)]=some (.agg (dQ 3 0)):=rfl
 have g2:bB [.int .i64 0,.int .i64 0] [(0,1,.int .i64 2)]=some (.agg (dQ 2 0)):=rfl
 have g0:bB [.int .i64 0,.int .i64 0] []=some (.agg (dQ 0 0)):=rfl
 have E2:aS H.next H H2:=⟨om,fun c hc=>k2 c hc⟩
 have fini:∀(T:bG) (K:aa) (xs ys:List ab),T 4=ae H.next 6 0->T 5=ae (H.next+1) 2 0->aT K H.next xs->aT K (H.next+1) ys->xs.length=6->ys.length=2->dg xs ys=fm s p->aS H.next H K ->
   dM [.cell true 6 4,.cell true 2 5] (fun v H'=>v=fm s p/\aS H.next H H') .ret T K:=by
  intro T K xs ys t4 t5 q6 q2 lx ly he hE
  refine Hu _ _ _ _ _ _ _ (v:=.agg xs) (v':=.agg ys) (by rw[t4]; exact al q6 lx) (by rw[t5]; exact al q2 ly) ⟨he,hE⟩
 simp only[c71,sA,sB,seval,hz,m1,m2]
 by_cases a1:16384<s.length
 ·have a1':(16384:Int)<(s.length:Int):=om
  obtain⟨H3,H4,m3,m4,q6,q2,n4,k4,_⟩:=eo r6 rfl r2 rfl (cS 0 [] 0 0 0 0) (cR 0 [] 0 0 0 0) (fh 3 0) (fg 3 0)
  simp only[sA,sB,seval,a1',hz,gu,g3,m3,m4]
  refine fini _ _ _ _ (by simp only[sA,sB,seval]) (by simp only[sA,sB,seval]) q6 q2 rfl rfl (by rw[fm,if_pos a1]) ⟨om,fun c hc=>by rw[k4 c hc,k2 c hc]⟩
 have a1':¬(16384:Int)<(s.length:Int):=om
 by_cases a2:p<0
 ·obtain⟨H3,H4,m3,m4,q6,q2,n4,k4,_⟩:=eo r6 rfl r2 rfl (cS 0 [] 0 0 0 0) (cR 0 [] 0 0 0 0) (fh 2 0) (fg 2 0)
  simp only[sA,sB,seval,a1',a2,hz,gu,g2,m3,m4]
  refine fini _ _ _ _ (by simp only[sA,sB,seval]) (by simp only[sA,sB,seval]) q6 q2 rfl rfl (by rw[fm,if_neg a1,if_pos (.inl a2)]) ⟨om,fun c hc=>by rw[k4 c hc,k2 c hc]⟩
 by_cases a3:(s.length:Int)<p
 ·obtain⟨H3,H4,m3,m4,q6,q2,n4,k4,_⟩:=eo r6 rfl r2 rfl (cS 0 [] 0 0 0 0) (cR 0 [] 0 0 0 0) (fh 2 0) (fg 2 0)
  simp only[sA,sB,seval,a1',a2,a3,hz,gu,g2,m3,m4]
  refine fini _ _ _ _ (by simp only[sA,sB,seval]) (by simp only[sA,sB,seval]) q6 q2 rfl rfl (by rw[fm,if_neg a1,if_pos (.inr a3)]) ⟨om,fun c hc=>by rw[k4 c hc,k2 c hc]⟩
 obtain⟨i,rfl⟩:∃i:Nat,p=(i:Int):=⟨p.toNat,om⟩
 have hd:fm s (i:Int)=if ba s i=s.length then dg (fx 5 [] 0 (bz s (ba s i)) (ba s i) (ba s i)) (dQ 0 0) else match je s (ba s i) with
  | some t=>dg (fx t.k t.S t.n (bz s (ba s i)) (ba s i) t.e) (dQ 0 0)
  | none=>dg (fx 0 [] 0 0 0 0) (dQ 100 (bz s (ba s i))):=by
  rw[fm,if_neg a1,if_neg (by rintro (h | h); exact a2 h; exact a3 h),Int.toNat_natCast]
 simp only[sA,sB,seval,a1',a2,a3]
 refine (xY (hN.no _ dD) (i:=i) om om).mono ?_
 rintro v _ ⟨rfl,rfl⟩
 have hj1:=lr s i
 rw[hd]at fini
 rw[hd]
 generalize ba s i=j at *
 by_cases hj:j=s.length
 ·have hj':(j:Int)=(s.length:Int):=om
  simp only[sA,sB,seval,hj']
  rw[<- hj']
  refine (pQ (hN.no _ dD) (i:=j) hj1 om).mono ?_
  rintro v _ ⟨rfl,rfl⟩
  obtain⟨H3,H4,m3,m4,q6,q2,n4,k4,_⟩:=eo r6 rfl r2 rfl (cS 5 [] 0 (bz s j) j j) (cR 5 [] 0 (bz s j) j j) (fh 0 0) (fg 0 0)
  simp only[sA,sB,seval,<- hj',hz,Mr,g0,m3,m4]
  refine fini _ _ _ _ (by simp only[sA,sB,seval]) (by simp only[sA,sB,seval]) q6 q2 rfl rfl (by rw[if_pos hj]) ⟨om,fun c hc=>by rw[k4 c hc,k2 c hc]⟩
 have hj':¬(j:Int)=(s.length:Int):=om
 rw[if_neg hj]at fini
 rw[if_neg hj]
 simp only[sA,sB,seval,hj']
 refine (Gr hN (i:=j) om om).mono ?_
 rintro v H3 ⟨rfl,hE3⟩
 have q6:=r6.same (hE3.old _ om)
 have q2:=r2.same (hE3.old _ om)
 obtain⟨H4,m4,q4,n4,k4⟩:=au H3 ZW (n:=6) rfl
 have ho:(DT j (je s j)).length=6/\(DT j (je s j)).all ab.one=true:=by cases je s j <;> exact⟨rfl,rfl⟩
 obtain⟨H5,m5,q5,n5,k5⟩:=aj q4 (n:=6) rfl ho.1 ho.2
 have p6:aT H5 H.next ZW:=q6.same (by rw[k5 _ (by have:=hE3.next; omega),k4 _ (by have:=hE3.next; omega)])
 have p2:aT H5 (H.next+1) Z2:=q2.same (by rw[k5 _ (by have:=hE3.next; omega),k4 _ (by have:=hE3.next; omega)])
 have E5:aS H.next H H5:=⟨by have:=hE3.next; omega,fun c hc=>by have:=hE3.next; rw[k5 c om,k4 c om,hE3.old c om,k2 c hc]⟩
 have hb3:=hE3.next
 cases ht:je s j with
 | none=>
  rw[ht]at q5 m5 fini
  have l0:=ah q5 (n:=6) rfl (i:=0) (x:=.int .u8 ((0:Nat):Int)) rfl
  obtain⟨H6,H7,m6,m7,s6,s2,n7,k7,_⟩:=eo p6 rfl p2 rfl (cS 0 [] 0 0 0 0) (cR 0 [] 0 0 0 0) (fh 100 (bz s j)) (fg 100 (bz s j))
  simp only[Int.cast_ofNat_Int]at l0
  simp only[sA,sB,seval,hz,m4,m5,fld0,l0,gu]
  refine (pQ (hN.no _ dD) (i:=j) hj1 om).mono ?_
  rintro v _ ⟨rfl,rfl⟩
  have gl:bB [.int .i64 0,.int .i64 0] [(0,1,.int .i64 100),(1,1,.int .i64 (bz s j:Int))]=some (.agg (dQ 100 (bz s j))):=rfl
  simp only[sA,sB,seval,gl,m6,m7]
  refine fini _ _ _ _ (by simp only[sA,sB,seval]) (by simp only[sA,sB,seval]) s6 s2 rfl rfl rfl ⟨by have:=E5.next; omega,fun c hc=>by rw[k7 c hc,E5.old c hc]⟩
 | some t=>
  have hk:¬(t.k:Int)=0:=by
   rw[je]at ht
   split at ht
   ·simp at ht
   ·split at ht
    ·split at ht
     ·simp only[sJ]at ht; subst ht; simp
     ·simp at ht
    ·split at ht
     ·simp only[sJ]at ht; subst ht; simp only; split <;> simp
     ·split at ht
      ·simp at ht
      ·simp only[sJ]at ht; subst ht; simp
  rw[ht]at q5 m5 fini
  have l0:=ah q5 (n:=6) rfl (i:=0) (x:=.int .u8 (t.k:Int)) rfl
  simp only[sA,sB,seval,hz,m4,m5,fld0,l0,hk]
  refine (pQ (hN.no _ dD) (i:=j) hj1 om).mono ?_
  rintro v _ ⟨rfl,rfl⟩
  obtain⟨H6,m6,q6',n6,k6⟩:=ci q5 (n:=6) rfl (i:=3) om (x:=.int .i64 (bz s j:Int)) rfl
  have e6:(DT j (some t)).set 3 (.int .i64 (bz s j:Int))=fx t.k t.S t.n (bz s j) j t.e:=rfl
  rw[e6]at q6'
  obtain⟨H7,H8,m7,m8,s6,s2,n8,k8,_⟩:=eo (p6.same (k6 _ om)) rfl (p2.same (k6 _ om)) rfl (cS t.k t.S t.n (bz s j) j t.e) (cR t.k t.S t.n (bz s j) j t.e) (fh 0 0) (fg 0 0)
  simp only[sA,sB,seval,fld0,m6,al q6' (n:=6) rfl,g0,m7,m8]
  refine fini _ _ _ _ (by simp only[sA,sB,seval]) (by simp only[sA,sB,seval]) s6 s2 rfl rfl rfl ⟨by have:=E5.next; omega,fun c hc=>by rw[k8 c hc,k6 c om,E5.old c hc]⟩
open Go.Abs Go.Abs.S
theorem wW(a b:Int):aeq (.agg [.int .i64 a,.int .i64 b]) (.agg [.int .i64 a,.int .i64 b])=true:=by
 simp[aeq,aeqs,kI]
theorem uT(hN:MK aA){s:Bs}{p:Int}(h1:-9223372036854775808<=p)(h2:p<=9223372036854775807){H:aa} :
  aq Tryz.prog aA 62 [.str s,.int .i64 p] H fun v H'=>v=fm s p/\aS H.next H H':=by
 refine af (hN.no _ dD) P0 rfl ?_
 obtain⟨H1,H2,m1,m2,r6,r2,n2,k2⟩:=Cr H
 have hz:([.int .u8 0,.str [],.int .i64 0,.int .i64 0,.int .i64 0,.int .i64 0]:List ab)=ZW:=rfl
 have g3:bB [.int .i64 0,.int .i64 0] [(0,1,.int .i64 3)]=some (.agg (dQ 3 0)):=rfl
 have g2:bB [.int .i64 0,.int .i64 0] [(0,1,.int .i64 2)]=some (.agg (dQ 2 0)):=rfl
 have g0:bB [.int .i64 0,.int .i64 0] []=some (.agg (dQ 0 0)):=rfl
 have fini:∀(T:bG) (K:aa) (xs ys:List ab),T 4=ae H.next 6 0->T 5=ae (H.next+1) 2 0->aT K H.next xs->aT K (H.next+1) ys->xs.length=6->ys.length=2->dg xs ys=fm s p->aS H.next H K ->
   dM [.cell true 6 4,.cell true 2 5] (fun v H'=>v=fm s p/\aS H.next H H') .ret T K:=by
  intro T K xs ys t4 t5 q6 q2 lx ly he hE
  refine Hu _ _ _ _ _ _ _ (v:=.agg xs) (v':=.agg ys) (by rw[t4]; exact al q6 lx) (by rw[t5]; exact al q2 ly) ⟨he,hE⟩
 simp only[c62,sA,sB,seval,hz,m1,m2]
 by_cases a1:16384<s.length
 ·have a1':(16384:Int)<(s.length:Int):=om
  obtain⟨H3,H4,m3,m4,q6,q2,n4,k4,_⟩:=eo r6 rfl r2 rfl (cS 0 [] 0 0 0 0) (cR 0 [] 0 0 0 0) (fh 3 0) (fg 3 0)
  simp only[sA,sB,seval,a1',hz,gu,g3,m3,m4]
  refine fini _ _ _ _ (by simp only[sA,sB,seval]) (by simp only[sA,sB,seval]) q6 q2 rfl rfl (by rw[fm,if_pos a1]) ⟨om,fun c hc=>by rw[k4 c hc,k2 c hc]⟩
 have a1':¬(16384:Int)<(s.length:Int):=om
 by_cases a2:p<0
 ·obtain⟨H3,H4,m3,m4,q6,q2,n4,k4,_⟩:=eo r6 rfl r2 rfl (cS 0 [] 0 0 0 0) (cR 0 [] 0 0 0 0) (fh 2 0) (fg 2 0)
  simp only[sA,sB,seval,a1',a2,hz,gu,g2,m3,m4]
  refine fini _ _ _ _ (by simp only[sA,sB,seval]) (by simp only[sA,sB,seval]) q6 q2 rfl rfl (by rw[fm,if_neg a1,if_pos (.inl a2)]) ⟨om,fun c hc=>by rw[k4 c hc,k2 c hc]⟩
 by_cases a3:(s.length:Int)<p
 ·obtain⟨H3,H4,m3,m4,q6,q2,n4,k4,_⟩:=eo r6 rfl r2 rfl (cS 0 [] 0 0 0 0) (cR 0 [] 0 0 0 0) (fh 2 0) (fg 2 0)
  simp only[sA,sB,seval,a1',a2,a3,hz,gu,g2,m3,m4]
  refine fini _ _ _ _ (by simp only[sA,sB,seval]) (by simp only[sA,sB,seval]) q6 q2 rfl rfl (by rw[fm,if_neg a1,if_pos (.inr a3)]) ⟨om,fun c hc=>by rw[k4 c hc,k2 c hc]⟩
 obtain⟨i,rfl⟩:∃i:Nat,p=(i:Int):=⟨p.toNat,om⟩
 have hd:fm s (i:Int)=if ba s i=s.length then dg (fx 5 [] 0 (bz s (ba s i)) (ba s i) (ba s i)) (dQ 0 0) else match je s (ba s i) with
  | some t=>dg (fx t.k t.S t.n (bz s (ba s i)) (ba s i) t.e) (dQ 0 0)
  | none=>dg (fx 0 [] 0 0 0 0) (dQ 100 (bz s (ba s i))):=by
  rw[fm,if_neg a1,if_neg (by rintro (h | h); exact a2 h; exact a3 h),Int.toNat_natCast] <;> rfl
 simp only[sA,sB,seval,a1',a2,a3]
 refine (DI (hN.no _ dD) (hN.no _ dD) (hN.no _ dD) (hN.no _ dD) (i:=i) om om).mono ?_
 rintro v _ ⟨rfl,rfl⟩
 have hj1:=lr s i
 rw[hd]at fini
 rw[hd]
 generalize ba s i=j at *
 simp only[sA,sB,seval,ov hj1]
 refine (Bl (hN.no _ dD) (s.take j)).mono ?_
 rintro v _ ⟨rfl,rfl⟩
 have hcl:(s.take j).count 10<=j:=by
  have:=List.count_le_length (a:=(10:UInt8)) (l:=s.take j)
  simp at this; omega
 have wl:IntKind.i64.wrap (1+((s.take j).count 10:Int))=(bz s j:Int):=by rw[bj om om]; unfold bz; omega
 obtain⟨H3,m3,q3,n3,k3⟩:=au H2 ZW (n:=6) rfl
 obtain⟨H4,m4,q4,n4,k4⟩:=aj q3 (n:=6) rfl (cS 0 [] 0 (bz s j) j j) (cR 0 [] 0 (bz s j) j j)
 have l3:=ah q4 (n:=6) rfl (i:=3) (x:=.int .i64 (bz s j:Int)) rfl
 obtain⟨H5,m5,q5,n5,k5⟩:=au H4 Z2 (n:=2) rfl
 have gl:bB [.int .i64 0,.int .i64 0] [(0,1,.int .i64 100),(1,1,.int .i64 (bz s j:Int))]=some (.agg (dQ 100 (bz s j))):=rfl
 obtain⟨H6,m6,q6,n6,k6⟩:=aj q5 (n:=2) rfl (fh 100 (bz s j)) (fg 100 (bz s j))
 simp only[sW,sL,iZ,iI,nf,sB,seval,wl,hz,Pd,m3,m4,fld0,l3,gl,m5,m6]
 rw[dS]
 have b6:aT H6 H2.next (fx 0 [] 0 (bz s j) j j):=q4.same (by rw[k6 _ om,k5 _ om])
 have p6:aT H6 H.next ZW:=r6.same (by rw[k6 _ om,k5 _ om,k4 _ om,k3 _ om])
 have p2:aT H6 (H.next+1) Z2:=r2.same (by rw[k6 _ om,k5 _ om,k4 _ om,k3 _ om])
 have E6:aS H.next H H6:=⟨om,fun c hc=>by rw[k6 c om,k5 c om,k4 c om,k3 c om,k2 c hc]⟩
 have hn4:H4.next=H2.next+1:=om
 have hn6:H6.next=H2.next+2:=om
 rw[hn4]at q6
 rw[hn4]
 generalize H2.next=b at *
 clear m1 m2 m3 m4 m5 m6 k3 k4 k5 k6 q3 q4 q5 r6 r2 k2 n3 n4 n5 n6 l3
 refine fu (fun (T:bG) H'=>T 4=ae H.next 6 0/\T 5=ae (H.next+1) 2 0/\T 6=ae b 6 0/\aS H.next H H'/\aT H' H.next ZW/\aT H' (H.next+1) Z2/\b<H'.next /\
   ∃(k:Nat) (S:Bs) (n e:Nat),aT H' b (fx k S n (bz s j) j e)/\dg (fx k S n (bz s j) j e) (dQ 0 0)=if j=s.length then dg (fx 5 [] 0 (bz s j) j j) (dQ 0 0) else match je s j with
    | some t=>dg (fx t.k t.S t.n (bz s j) j t.e) (dQ 0 0)
    | none=>dg (fx 0 [] 0 0 0 0) (dQ 100 (bz s j))) (bH _ _) ?_ ?_
 rotate_left
 ·rintro T H7 ⟨t4,t5,t6,hE7,s6,s2,_,k,S,n,e,hr,he⟩
  obtain⟨H8,H9,m8,m9,u6,u2,n9,k9,_⟩:=eo s6 rfl s2 rfl (cS k S n (bz s j) j e) (cR k S n (bz s j) j e) (fh 0 0) (fg 0 0)
  simp only[sA,sB,seval,t4,t5,t6,al hr (n:=6) rfl,g0,m8,m9]
  refine fini _ _ _ _ (by simp only[sA,sB,seval,t4]) (by simp only[sA,sB,seval,t5]) u6 u2 rfl rfl he ⟨by have:=hE7.next; omega,fun c hc=>by rw[k9 c hc,hE7.old c hc]⟩
 have hne:H.next+1<b:=om
 by_cases hj:j=s.length
 ·have hj':(j:Int)=(s.length:Int):=om
  obtain⟨H7,m7,q7,n7,k7⟩:=ci b6 (n:=6) rfl (i:=0) om (x:=.int .u8 5) rfl
  simp only[sA,sB,seval,hj',fld0,m7]
  refine⟨by trivial,by trivial,by trivial,⟨by have:=E6.next; omega,fun c hc=>by rw[k7 c om,E6.old c hc]⟩,p6.same (k7 _ om),p2.same (k7 _ om),om,5,[],0,j,q7,by rw[if_pos hj]⟩
 have hj':¬(j:Int)=(s.length:Int):=om
 obtain⟨c,hc⟩:=aN (l:=s) (i:=j) om
 have hone:je s j=if dq c=true then (match fD (sub s j (dk s j)) with | some n=>some ⟨1,[],n,dk s j⟩ | none=>none)
  else if beg c=true then some ⟨if kY (sub s j (bk iE s j))=true then 3 else 2,sub s j (bk iE s j),0,bk iE s j⟩
  else if fk (s.drop j)=[] then none else some ⟨4,fk (s.drop j),0,j+(fk (s.drop j)).length⟩:=by
  rw[je,hc] <;> rfl
 rw[if_neg hj]at fini
 rw[if_neg hj]
 simp only[sA,sB,seval,hj',bq hc]
 refine (jj (hN.no _ dD) c _).mono ?_
 rintro v _ ⟨rfl,rfl⟩
 cases hdc:dq c with
 | true=>
  rw[if_pos hdc]at hone
  simp only[sA,sB,seval]
  refine (oN (hN.no _ dD) (hN.no _ dD) (hN.no _ dD) (i:=j) om om).mono ?_
  rintro v _ ⟨rfl,rfl⟩
  have hge:=Cq s j
  have hle:=oO (s:=s) (i:=j) om
  have s1:dT (.str s) (some (.int .i64 (j:Int))) (some (.int .i64 (dk s j:Int)))=some (.str (sub s j (dk s j))):=nE om om
  have hsub:(sub s j (dk s j)).length<=4611686018427387904:=by simp[sub]; omega
  generalize dk s j=e at *
  obtain⟨H7,m7,q7,n7,k7⟩:=ci b6 (n:=6) rfl (i:=5) om (x:=.int .i64 (e:Int)) rfl
  have e7:(fx 0 [] 0 (bz s j) j j).set 5 (.int .i64 (e:Int))=fx 0 [] 0 (bz s j) j e:=rfl
  rw[e7]at q7
  have l5:=ah q7 (n:=6) rfl (i:=5) (x:=.int .i64 (e:Int)) rfl
  simp only[sA,sB,seval,fld0,m7,l5,s1]
  refine (yo (hN.no _ dD) (hN.no _ dD) (hN.no _ dD) (hN.no _ dD) (hN.no _ dD) (hN.no _ dD) (hN.no _ dD) (hN.no _ dD) (hN.no _ dD) hsub).mono ?_
  rintro v H8 ⟨rfl,hE8⟩
  have hb8:=hE8.next
  have b8:=q7.same (hE8.old b om)
  have p68:aT H8 H.next ZW:=p6.same (by rw[hE8.old _ om,k7 _ om])
  have p28:aT H8 (H.next+1) Z2:=p2.same (by rw[hE8.old _ om,k7 _ om])
  have f8:aT H8 (b+1) (dQ 100 (bz s j)):=q6.same (by rw[hE8.old _ om,k7 _ om])
  have E8:aS H.next H H8:=⟨by have:=E6.next; omega,fun c hc=>by rw[hE8.old c (by have:=E6.next; omega),k7 c om,E6.old c hc]⟩
  clear l5 m7 q7
  cases hs:fD (sub s j e) with
  | none=>
   rw[hs]at hone
   rw[hone]at fini ⊢
   simp only[Ac,sA,sB,seval,b9,b7]
   obtain⟨H9,H10,m9,m10,u6,u2,n10,k10,k9⟩:=eo p68 rfl p28 rfl (cS 0 [] 0 0 0 0) (cR 0 [] 0 0 0 0) (fh 100 (bz s j)) (fg 100 (bz s j))
   refine cr rfl ?_
   have lf:=al f8 (n:=2) rfl
   have f9:aT H9 (b+1) (dQ 100 (bz s j)):=f8.same (k9 _ om)
   have lf9:=al f9 (n:=2) rfl
   simp only[sA,sB,seval,sR,hz,gu,lf,m9,m10]
   simp only[cw,cx,bR,cy,db,and_true,true_and,List.map_cons,List.map_nil,sA,sB,seval]
   refine⟨⟨_,rfl,fun _=>⟨_,lf9,wW _ _⟩⟩,?_⟩
   refine fini _ _ _ _ (by simp only[sA,sB,seval]) (by simp only[sA,sB,seval]) u6 u2 rfl rfl rfl ⟨by have:=E8.next; omega,fun c hc=>by rw[k10 c hc,E8.old c hc]⟩
  | some n=>
   rw[hs]at hone
   rw[hone]
   obtain⟨H9,m9,q9,n9,k9⟩:=ci b8 (n:=6) rfl (i:=0) om (x:=.int .u8 1) rfl
   obtain⟨H10,m10,q10,n10,k10⟩:=ci q9 (n:=6) rfl (i:=2) om (x:=.int .i64 (n:Int)) rfl
   simp only[Ac,sA,sB,seval,b9,b7,fld0,m9,m10]
   refine⟨by trivial,by trivial,by trivial,⟨by have:=E8.next; omega,fun c hc=>by rw[k10 c om,k9 c om,E8.old c hc]⟩,p68.same (by rw[k10 _ om,k9 _ om]),p28.same (by rw[k10 _ om,k9 _ om]),om,1,[],n,e,q10,rfl⟩
 | false=>
  rw[if_neg (by rw[hdc]; simp)]at hone
  simp only[sA,sB,seval,bq hc]
  refine (qG (hN.no _ dD) c _).mono ?_
  rintro v _ ⟨rfl,rfl⟩
  cases hbc:beg c with
  | true=>
   rw[if_pos hbc]at hone
   rw[hone]
   simp only[sA,sB,seval]
   refine (lz (hN.no _ dD) (DZ (hN.no _ dD) (hN.no _ dD) (hN.no _ dD)) (i:=j) om om).mono ?_
   rintro v _ ⟨rfl,rfl⟩
   have hje:=eZ (p:=iE) (s:=s) (i:=j) om
   have hjg:=fd iE s j
   have s1:dT (.str s) (some (.int .i64 (j:Int))) (some (.int .i64 (bk iE s j:Int)))=some (.str (sub s j (bk iE s j))):=nE hjg hje
   have hsub:(sub s j (bk iE s j)).length<=281474976710656:=by simp[sub]; omega
   generalize sub s j (bk iE s j)=S at *
   generalize bk iE s j=e at *
   obtain⟨H7,m7,q7,n7,k7⟩:=ci b6 (n:=6) rfl (i:=5) om (x:=.int .i64 (e:Int)) rfl
   have e7:(fx 0 [] 0 (bz s j) j j).set 5 (.int .i64 (e:Int))=fx 0 [] 0 (bz s j) j e:=rfl
   rw[e7]at q7
   have l5:=ah q7 (n:=6) rfl (i:=5) (x:=.int .i64 (e:Int)) rfl
   simp only[sA,sB,seval,fld0,m7,l5,s1]
   refine (tf hN hsub).mono ?_
   rintro v _ ⟨rfl,rfl⟩
   obtain⟨H8,m8,q8,n8,k8⟩:=ci q7 (n:=6) rfl (i:=0) om (x:=.int .u8 2) rfl
   obtain⟨H9,m9,q9,n9,k9⟩:=ci q8 (n:=6) rfl (i:=1) om (x:=.str S) rfl
   have e9:((fx 0 [] 0 (bz s j) j e).set 0 (.int .u8 2)).set 1 (.str S)=fx 2 S 0 (bz s j) j e:=rfl
   rw[e9]at q9
   have l1:=ah q9 (n:=6) rfl (i:=1) (x:=.str S) rfl
   simp only[sA,sB,seval,fld0,m8,m9,l1]
   refine (GR (hN.no _ dD) S).mono ?_
   rintro v _ ⟨rfl,rfl⟩
   have k79:∀c,c≠b->H9.get c=H6.get c:=fun c hc=>by rw[k9 c hc,k8 c hc,k7 c hc]
   cases hk:kY S with
   | true=>
    obtain⟨H10,m10,q10,n10,k10⟩:=ci q9 (n:=6) rfl (i:=0) om (x:=.int .u8 3) rfl
    simp only[sA,sB,seval,fld0,m10]
    refine⟨by trivial,by trivial,by trivial,⟨by have:=E6.next; omega,fun c hc=>by rw[k10 c om,k79 c om,E6.old c hc]⟩,p6.same (by rw[k10 _ om,k79 _ om]),p2.same (by rw[k10 _ om,k79 _ om]),om,3,S,0,e,q10,by simp⟩
   | false=>
    simp only[sA,sB,seval]
    refine⟨by trivial,by trivial,by trivial,⟨by have:=E6.next; omega,fun c hc=>by rw[k79 c om,E6.old c hc]⟩,p6.same (k79 _ om),p2.same (k79 _ om),om,2,S,0,e,q9,by simp⟩
  | false=>
   rw[if_neg (by rw[hbc]; simp)]at hone
   simp only[sA,sB,seval]
   refine (DK (hN.no _ dD) (hN.no _ dD) (hN.no _ dD) (hN.no _ dD) (hN.no _ dD) (i:=j) om).mono ?_
   rintro v _ ⟨rfl,rfl⟩
   have hsl:=xQ (s:=s) (i:=j) om
   generalize fk (s.drop j)=S at *
   by_cases hS:S=[]
   ·rw[if_pos hS]at hone
    rw[hone]at fini ⊢
    simp only[sA,sB,seval,hS]
    obtain⟨H9,H10,m9,m10,u6,u2,n10,k10,k9⟩:=eo p6 rfl p2 rfl (cS 0 [] 0 0 0 0) (cR 0 [] 0 0 0 0) (fh 100 (bz s j)) (fg 100 (bz s j))
    refine cr rfl ?_
    have lf:=al q6 (n:=2) rfl
    have f9:aT H9 (b+1) (dQ 100 (bz s j)):=q6.same (k9 _ om)
    have lf9:=al f9 (n:=2) rfl
    simp only[sA,sB,seval,sR,hz,gu,lf,m9,m10]
    simp only[cw,cx,bR,cy,db,and_true,true_and,List.map_cons,List.map_nil,sA,sB,seval]
    refine⟨⟨_,rfl,fun _=>⟨_,lf9,wW _ _⟩⟩,?_⟩
    refine fini _ _ _ _ (by simp only[sA,sB,seval]) (by simp only[sA,sB,seval]) u6 u2 rfl rfl rfl ⟨by have:=E6.next; omega,fun c hc=>by rw[k10 c hc,E6.old c hc]⟩
   ·rw[if_neg hS]at hone
    rw[hone]
    simp only[sA,sB,seval,hS]
    refine (tf hN (s:=S) om).mono ?_
    rintro v _ ⟨rfl,rfl⟩
    obtain⟨H7,m7,q7,n7,k7⟩:=ci b6 (n:=6) rfl (i:=0) om (x:=.int .u8 4) rfl
    obtain⟨H8,m8,q8,n8,k8⟩:=ci q7 (n:=6) rfl (i:=1) om (x:=.str S) rfl
    obtain⟨H9,m9,q9,n9,k9⟩:=ci q8 (n:=6) rfl (i:=5) om (x:=.int .i64 ((j+S.length:Nat):Int)) rfl
    have k79:∀c,c≠b->H9.get c=H6.get c:=fun c hc=>by rw[k9 c hc,k8 c hc,k7 c hc]
    simp only[sA,sB,seval,fld0,Kq j S.length om,m7,m8,m9]
    refine⟨by trivial,by trivial,by trivial,⟨by have:=E6.next; omega,fun c hc=>by rw[k79 c om,E6.old c hc]⟩,p6.same (k79 _ om),p2.same (k79 _ om),om,4,S,0,_,q9,rfl⟩
open Go.Abs Go.Abs.S
inductive Ex where
 | mk (k:Nat) (s:Bs) (n:Int) (kids:List Ex)
inductive St where
 | mk (k:Nat) (s:Bs) (e:Ex) (body els:List St) (line:Int)
abbrev gB:=Nat×Nat
structure Wd where
 k:Nat
 S:Bs
 n:Nat
 line:Nat
 at_:Nat
 en:Nat
def cW(s:Bs)(p:Nat):Except gB Wd:=
 if 16384<s.length then .error (3,0)
 else if s.length<p then .error (2,0)
 else if ba s p=s.length then .ok ⟨5,[],0,bz s (ba s p),ba s p,ba s p⟩
 else match je s (ba s p) with
  | some t=>.ok ⟨t.k,t.S,t.n,bz s (ba s p),ba s p,t.e⟩
  | none=>.error (100,bz s (ba s p))
abbrev dt(α:Type):=Except gB (α×Wd)
def fq(w:Wd)(l:List Bs):Bool:=Nat.beq w.k 4&&l.contains w.S
def j6(w:Wd)(s:Bs):Bool:=Nat.beq w.k 3&&decide (w.S=s)
def bC(s:Bs)(w:Wd):Except gB Wd:=cW s w.en
def bE(s:Bs)(c:Bs)(w:Wd):Except gB Wd:=if fq w [c] then bC s w else .error (101,w.line)
def dn{α:Type}(o:Except gB Wd)(f:Wd->Option (dt α)):Option (dt α):=match o with
 | .error e=>some (.error e)
 | .ok w=>f w
def fF{α β:Type}(o:Option (dt α))(f:α->Wd->Option (dt β)):Option (dt β):=match o with
 | none=>none
 | some (.error e)=>some (.error e)
 | some (.ok (a,w))=>f a w
def aV{α:Type}(a:α)(w:Wd):Option (dt α):=some (.ok (a,w))
def jq{α:Type}(e:Nat)(w:Wd):Option (dt α):=some (.error (e,w.line))
def yr:Nat->List Bs
 | 1=>[[42],[47]]
 | 2=>[[43],[45]]
 | 3=>[[61,61],[33,61],[60,61],[62,61],[60],[62]]
 | 4=>[[38,38]]
 | _=>[[124,124]]
inductive NT where
 | rule (k:Nat)
 | loop (k:Nat) (e:Ex)
 | prim
 | args (S:Bs) (out:List Ex)
def cK(s:Bs)(rec:NT->Nat->Wd->Option (dt Ex)):NT->Nat->Wd->Option (dt Ex)
 | .rule 0,g,w=>
  if 200<=g then jq 102 w
  else if fq w [[45],[33]] then dn (bC s w) fun w1=>fF (rec (.rule 0) (g+1) w1) fun e w2=>aV (.mk 3 w.S 0 [e]) w2
  else rec .prim (g+1) w
 | .rule (k+1),g,w=>fF (rec (.rule k) g w) fun e w1=>rec (.loop (k+1) e) g w1
 | .loop k e,g,w=>
  if fq w (yr k) then dn (bC s w) fun w1=>fF (rec (.rule (k-1)) g w1) fun r w2=>
   if Nat.beq k 3 then aV (.mk 3 w.S 0 [e,r]) w2 else rec (.loop k (.mk 3 w.S 0 [e,r])) g w2
  else aV e w
 | .prim,g,w=>
  if w.k=1 then dn (bC s w) fun w1=>aV (.mk 1 [] w.n []) w1
  else if w.k=2 then dn (bC s w) fun w1=>
   if fq w1 [[40]] then dn (bC s w1) fun w2=>
    if fq w2 [[41]] then dn (bC s w2) fun w3=>aV (.mk 4 w.S 0 []) w3
    else rec (.args w.S []) g w2
   else aV (.mk 2 w.S 0 []) w1
  else if fq w [[40]] then dn (bC s w) fun w1=>fF (rec (.rule 5) g w1) fun e w2=>dn (bE s [41] w2) fun w3=>aV e w3
  else jq 101 w
 | .args S out,g,w=>fF (rec (.rule 5) g w) fun e w1=>
  if fq w1 [[44]] then dn (bC s w1) fun w2=>rec (.args S (out++[e])) g w2
  else dn (bE s [41] w1) fun w2=>aV (.mk 4 S 0 (out++[e])) w2
def pE(s:Bs):Nat->NT->Nat->Wd->Option (dt Ex)
 | 0=>fun _ _ _=>none
 | f+1=>cK s (pE s f)
inductive NS where
 | stmt
 | body
 | more (out:List St)
def jP(s:Bs)(pe:NT->Nat->Wd->Option (dt Ex))(k line g:Nat)(w:Wd):Option (dt (List St)):=
 if w.k=2 then dn (bC s w) fun w1=>dn (bE s [61] w1) fun w2=>fF (pe (.rule 5) g w2) fun e w3=>dn (bE s [59] w3) fun w4=>aV [.mk k w.S e [] [] line] w4
 else jq 101 w
def jS(s:Bs)(pe:NT->Nat->Wd->Option (dt Ex))(rec:NS->Nat->Wd->Option (dt (List St)))(g:Nat)(w:Wd)(f:Ex->List St->Wd->Option (dt (List St))):Option (dt (List St)):=
 dn (bE s [40] w) fun w1=>fF (pe (.rule 5) g w1) fun e w2=>dn (bE s [41] w2) fun w3=>fF (rec .body g w3) fun l w4=>f e l w4
def ic(s:Bs)(pe:NT->Nat->Wd->Option (dt Ex))(rec:NS->Nat->Wd->Option (dt (List St))):NS->Nat->Wd->Option (dt (List St))
 | .stmt,g,w=>
  if 200<=g then jq 102 w
  else if j6 w [108,101,116] then dn (bC s w) fun w1=>jP s pe 1 w.line (g+1) w1
  else if j6 w [115,101,116] then dn (bC s w) fun w1=>jP s pe 2 w.line (g+1) w1
  else if j6 w [105,102] then dn (bC s w) fun w1=>jS s pe rec (g+1) w1 fun e l w2=>
   if j6 w2 [101,108,115,101] then dn (bC s w2) fun w3=>fF (rec .body (g+1) w3) fun m w4=>aV [.mk 3 [] e l m w.line] w4
   else aV [.mk 3 [] e l [] w.line] w2
  else if j6 w [119,104,105,108,101] then dn (bC s w) fun w1=>jS s pe rec (g+1) w1 fun e l w2=>aV [.mk 4 [] e l [] w.line] w2
  else if j6 w [114,101,116,117,114,110] then dn (bC s w) fun w1=>fF (pe (.rule 5) (g+1) w1) fun e w2=>dn (bE s [59] w2) fun w3=>aV [.mk 5 [] e [] [] w.line] w3
  else jq 101 w
 | .body,g,w=>dn (bE s [123] w) fun w1=>rec (.more []) g w1
 | .more out,g,w=>
  if fq w [[125]] then dn (bC s w) fun w1=>aV out w1
  else fF (rec .stmt g w) fun x w1=>rec (.more (out++x)) g w1
def pS(s:Bs):Nat->NS->Nat->Wd->Option (dt (List St))
 | 0=>fun _ _ _=>none
 | f+1=>ic s (pE s f) (pS s f)
def j5(s:Bs):Nat->List St->Wd->Option (Except gB (List St))
 | 0,_,_=>none
 | f+1,out,w=>if w.k=5 then some (.ok out) else match pS s f .stmt 0 w with
  | none=>none
  | some (.error e)=>some (.error e)
  | some (.ok (x,w1))=>j5 s f (out++x) w1
theorem cH(s:Bs)(f:Nat):pE s (f+1)=cK s (pE s f):=rfl
theorem iM(s:Bs)(f:Nat):pS s (f+1)=ic s (pE s f) (pS s f):=rfl
mutual
def Ex.size:Ex->Nat
 | .mk _ _ _ kids=>aQ kids+1
def aQ:List Ex->Nat
 | []=>0
 | e::l=>e.size+aQ l
end
mutual
def Ex.deep:Ex->Nat
 | .mk _ _ _ kids=>dx kids+1
def dx:List Ex->Nat
 | []=>0
 | e::l=>max e.deep (dx l)
end
mutual
def St.size:St->Nat
 | .mk _ _ e body els _=>e.size+az body+az els+1
def az:List St->Nat
 | []=>0
 | x::l=>x.size+az l
end
mutual
def St.deep:St->Nat
 | .mk _ _ e body els _=>max e.deep (max (bp body) (bp els))+1
def bp:List St->Nat
 | []=>0
 | x::l=>max x.deep (bp l)
end
def bW(s:Bs):Bool:=match cW s 0 with
 | .ok w=>Nat.beq w.k 2&&decide (w.S=s)
 | .error _=>false
def qM(s:Bs)(n:Nat):Bool:=match n with
 | 1=>[[45],[33]].contains s
 | 2=>[[124,124],[38,38],[61,61],[33,61],[60,61],[62,61],[60],[62],[43],[45],[42],[47]].contains s
 | _=>false
def er(k:Nat)(s:Bs)(n:Int)(kids:Nat):Bool:=
 if k=1 then decide (0<=n)&&(s.isEmpty&&Nat.beq kids 0)
 else if k=2 then decide (n=0)&&(bW s&&Nat.beq kids 0)
 else if k=3 then decide (n=0)&&qM s kids
 else if k=4 then decide (n=0)&&bW s
 else false
mutual
def kH:Ex->Bool
 | .mk k s n kids=>er k s n kids.length&&ff kids
def ff:List Ex->Bool
 | []=>true
 | e::l=>kH e&&ff l
end
def bS(k:Nat)(s:Bs)(body els:Nat):Bool:=
 if k=1∨k=2 then bW s&&(Nat.beq body 0&&Nat.beq els 0)
 else if k=3 then s.isEmpty
 else if k=4 then s.isEmpty&&Nat.beq els 0
 else if k=5 then s.isEmpty&&(Nat.beq body 0&&Nat.beq els 0)
 else false
mutual
def yi:St->Bool
 | .mk k s e body els _=>bS k s body.length els.length&&(kH e&&(cj body&&cj els))
def cj:List St->Bool
 | []=>true
 | x::l=>yi x&&cj l
end
def fW(l:List St):Bool:=decide (az l<=1000)&&decide (bp l<=40)
def dG(l:List St):Bool:=cj l&&fW l
def nr(s:Bs):Nat:=20*s.length+100
def eC(s:Bs):Except gB (List St):=match cW s 0 with
 | .error e=>.error e
 | .ok w=>match j5 s (nr s) [] w with
  | none=>.error (0,0)
  | some (.error e)=>.error e
  | some (.ok l)=>if fW l then .ok l else .error (102,0)
open Go.Abs Go.Abs.S
theorem Ja{s:Bs}{j:Nat}(h:fk (s.drop j)≠[]):0<(fk (s.drop j)).length:=List.length_pos_iff.2 h
structure fy(s:Bs)(w:Wd):Prop where
 long:s.length<=16384
 en:w.en<=s.length
 key:w.k=3->kY w.S=true
 sig:w.k=4->w.S∈eO
theorem Jl{s:Bs}{j:Nat}{t:QJ}(hj:j<=s.length)(h:je s j=some t):j<t.e/\t.e<=s.length/\t.k≠5/\(t.k=3->kY t.S=true)/\(t.k=4->t.S∈eO):=by
 unfold je at h
 cases hc:s[j]? with
 | none=>rw[hc]at h; simp at h
 | some c=>
  rw[hc]at h
  simp only at h
  have hlt:=(QR.1 hc).1
  by_cases hd:dq c=true
  ·rw[if_pos hd]at h
   cases hs:fD (sub s j (dk s j)) with
   | none=>rw[hs]at h; simp at h
   | some n=>
    rw[hs]at h
    simp only[sJ]at h
    subst h
    exact⟨(yq hc).2 hd,oO hj,by simp,by simp,by simp⟩
  ·rw[if_neg hd]at h
   by_cases hb:beg c=true
   ·rw[if_pos hb]at h
    simp only[sJ]at h
    subst h
    have hg:iE c=true:=by simp[iE,hb]
    have:=fJ hc hg
    have h2:=fd iE s (j+1)
    refine⟨by simp only; omega,eZ hj,?_,?_,?_⟩
    ·simp only; split <;> omega
    ·simp only; intro q; split at q
     ·assumption
     ·omega
    ·simp only; intro q; split at q <;> omega
   ·rw[if_neg hb]at h
    by_cases hs:fk (s.drop j)=[]
    ·rw[if_pos hs]at h; simp at h
    ·rw[if_neg hs]at h
     simp only[sJ]at h
     subst h
     have:=Ja hs
     refine⟨by simp only; omega,xQ hj,by simp,by simp,fun _=>?_⟩
     simp only
     have hd':s.drop j=c::s.drop (j+1):=by
      rw[<- (QR.1 hc).2,<- List.drop_eq_getElem_cons hlt]
     rw[hd']at hs ⊢
     rw[nG]at hs ⊢
     cases hf:eO.find? (pre (c::s.drop (j+1))) with
     | none=>rw[hf]at hs; simp at hs
     | some x=>simpa using List.mem_of_find?_eq_some hf
theorem il{s:Bs}{p:Nat}{w:Wd}(h:cW s p=.ok w):fy s w/\p<=w.en/\(w.k≠5->p<w.en):=by
 unfold cW at h
 by_cases a1:16384<s.length
 ·rw[if_pos a1]at h; simp at h
 rw[if_neg a1]at h
 by_cases a2:s.length<p
 ·rw[if_pos a2]at h; simp at h
 rw[if_neg a2]at h
 have hp:=FW (s:=s) (i:=p) om
 by_cases a3:ba s p=s.length
 ·rw[if_pos a3]at h
  simp only[Except.ok.injEq]at h
  subst h
  exact⟨⟨om,by simp only; omega,by simp,by simp⟩,by simp only; omega,by simp⟩
 rw[if_neg a3]at h
 cases ho:je s (ba s p) with
 | none=>rw[ho]at h; simp at h
 | some t=>
  rw[ho]at h
  simp only[Except.ok.injEq]at h
  subst h
  obtain⟨h1,h2,h3,h4,h5⟩:=Jl (lr s p) ho
  exact⟨⟨om,h2,h4,h5⟩,by simp only; omega,fun _=>by simp only; omega⟩
def mW(s:Bs)(w:Wd):Nat:=if w.k=5 then 0 else s.length+1-w.en
theorem aK{s:Bs}{w w':Wd}(h:bC s w=.ok w')(hw:fy s w)(hk:w.k≠5):fy s w'/\mW s w'<mW s w:=by
 obtain⟨h1,h2,h3⟩:=il h
 refine⟨h1,?_⟩
 have e1:=h1.en
 have e2:=hw.en
 unfold mW
 rw[if_neg hk]
 by_cases hk':w'.k=5
 ·rw[if_pos hk']; omega
 ·rw[if_neg hk']
  have:=h3 hk'
  omega
theorem fl{w:Wd}{l:List Bs}(h:fq w l=true):w.k=4:=by
 simp only[fq,QT]at h
 exact QX h.1
theorem gF{w:Wd}{s:Bs}(h:j6 w s=true):w.k=3:=by
 simp only[j6,QT]at h
 exact QX h.1
theorem bQ{s c:Bs}{w w':Wd}(h:bE s c w=.ok w')(hw:fy s w):fq w [c]=true/\bC s w=.ok w'/\fy s w'/\mW s w'<mW s w:=by
 unfold bE at h
 by_cases hs:fq w [c]=true
 ·rw[if_pos hs]at h
  have:=aK h hw (by rw[fl hs]; omega)
  exact⟨hs,h,this⟩
 ·rw[if_neg hs]at h; simp at h
def nl{α:Type}(s:Bs)(o:Option (dt α))(m:Nat):Prop:=∃r,o=some r/\∀a w',r=.ok (a,w')->fy s w'/\mW s w'<m
theorem nl.le{α:Type}{s:Bs}{o:Option (dt α)}{m m':Nat}(h:nl s o m)(hm:m<=m'):nl s o m':=by
 obtain⟨r,h1,h2⟩:=h
 exact⟨r,h1,fun a w' h=>⟨(h2 a w' h).1,by have:=(h2 a w' h).2; omega⟩⟩
theorem cZ{α:Type}{s:Bs}{a:α}{w:Wd}{m:Nat}(hw:fy s w)(hm:mW s w<m):nl s (aV a w) m:=
 ⟨_,rfl,fun a' w' h=>by simp only[Except.ok.injEq,pJ]at h; rw[<- h.2]; exact⟨hw,hm⟩⟩
theorem mj{α:Type}{s:Bs}{e:Nat}{w:Wd}{m:Nat}:nl (α:=α) s (jq e w) m:=⟨_,rfl,fun a' w' h=>by simp at h⟩
theorem bU{α:Type}{s:Bs}{o:Except gB Wd}{f:Wd->Option (dt α)}{m:Nat}(h:∀w',o=.ok w'->nl s (f w') m):nl s (dn o f) m:=by
 cases o with
 | error e=>exact⟨_,rfl,fun a' w' h=>by simp at h⟩
 | ok w'=>exact h w' rfl
theorem eS{α β:Type}{s:Bs}{o:Option (dt α)}{f:α->Wd->Option (dt β)}{m k:Nat}(ho:nl s o k)(h:∀a w',fy s w'->mW s w'<k->nl s (f a w') m):nl s (fF o f) m:=by
 obtain⟨r,rfl,h2⟩:=ho
 cases r with
 | error e=>exact⟨_,rfl,fun a' w' h=>by simp at h⟩
 | ok p=>
  obtain⟨a,w'⟩:=p
  exact h a w' (h2 a w' rfl).1 (h2 a w' rfl).2
def z6:NT->Nat
 | .rule k=>k+2
 | .loop _ _=>0
 | .prim=>1
 | .args _ _=>8
def Jm:NT->Prop
 | .rule k=>k<=5
 | .loop k _=>1<=k/\k<=5
 | _=>True
theorem KV(s:Bs):∀(f:Nat) (nt:NT) (g:Nat) (w:Wd),fy s w->Jm nt->9*mW s w+z6 nt<f->nl s (pE s f nt g w) (mW s w+(match nt with | .loop _ _=>1 | _=>0))
 | 0,_,_,_,_,_,h=>absurd h (Nat.not_lt_zero _)
 | f+1,nt,g,w,hw,hk,h=>by
  have ih:=KV s f
  rw[cH]
  cases nt with
  | rule k=>
   simp only[z6,Jm,Nat.add_zero]at h hk ⊢
   cases k with
   | zero=>
    simp only[cK]
    by_cases g2:200<=g
    ·rw[if_pos g2]; exact mj
    rw[if_neg g2]
    by_cases hs:fq w [[45],[33]]=true
    ·rw[if_pos hs]
     refine bU fun w1 h1=>?_
     obtain⟨k1,k2⟩:=aK h1 hw (by rw[fl hs]; omega)
     refine eS (ih (.rule 0) (g+1) w1 k1 (by simp only[Jm]; omega) (by simp only[z6]; omega)) fun e w2 l1 l2=>?_
     simp only[Nat.add_zero]at l2
     exact cZ l1 om
    ·rw[if_neg hs]
     exact ih .prim (g+1) w hw trivial (by simp only[z6]; omega)
   | succ k=>
    simp only[cK]
    refine eS (ih (.rule k) g w hw (by simp only[Jm]; omega) (by simp only[z6]; omega)) fun e w1 l1 l2=>?_
    simp only[Nat.add_zero]at l2
    exact (ih (.loop (k+1) e) g w1 l1 ⟨om,hk⟩ (by simp only[z6]; omega)).le (by simp only; omega)
  | loop k e=>
   simp only[z6,Jm,Nat.add_zero]at h hk ⊢
   simp only[cK]
   by_cases hs:fq w (yr k)=true
   ·rw[if_pos hs]
    refine bU fun w1 h1=>?_
    obtain⟨k1,k2⟩:=aK h1 hw (by rw[fl hs]; omega)
    refine eS (ih (.rule (k-1)) g w1 k1 (by simp only[Jm]; omega) (by simp only[z6]; omega)) fun r w2 l1 l2=>?_
    simp only[Nat.add_zero]at l2
    cases hb:Nat.beq k 3 with
    | true=>exact cZ l1 om
    | false=>exact (ih (.loop k _) g w2 l1 hk (by simp only[z6]; omega)).le (by simp only; omega)
   ·rw[if_neg hs]
    exact cZ hw om
  | prim=>
   simp only[z6,Nat.add_zero]at h ⊢
   simp only[cK]
   by_cases c1:w.k=1
   ·rw[if_pos c1]
    refine bU fun w1 h1=>?_
    obtain⟨k1,k2⟩:=aK h1 hw om
    exact cZ k1 om
   rw[if_neg c1]
   by_cases c2:w.k=2
   ·rw[if_pos c2]
    refine bU fun w1 h1=>?_
    obtain⟨k1,k2⟩:=aK h1 hw om
    by_cases hs:fq w1 [[40]]=true
    ·rw[if_pos hs]
     refine bU fun w2 h2=>?_
     obtain⟨k3,k4⟩:=aK h2 k1 (by rw[fl hs]; omega)
     by_cases hs2:fq w2 [[41]]=true
     ·rw[if_pos hs2]
      refine bU fun w3 h3=>?_
      obtain⟨k5,k6⟩:=aK h3 k3 (by rw[fl hs2]; omega)
      exact cZ k5 om
     ·rw[if_neg hs2]
      exact (ih (.args _ _) g w2 k3 trivial (by simp only[z6]; omega)).le (by simp only; omega)
    ·rw[if_neg hs]
     exact cZ k1 om
   rw[if_neg c2]
   by_cases hs:fq w [[40]]=true
   ·rw[if_pos hs]
    refine bU fun w1 h1=>?_
    obtain⟨k1,k2⟩:=aK h1 hw (by rw[fl hs]; omega)
    refine eS (ih (.rule 5) g w1 k1 (by simp only[Jm]; omega) (by simp only[z6]; omega)) fun e w2 l1 l2=>?_
    simp only[Nat.add_zero]at l2
    refine bU fun w3 h3=>?_
    obtain⟨_,_,k5,k6⟩:=bQ h3 l1
    exact cZ k5 om
   ·rw[if_neg hs]; exact mj
  | args S out=>
   simp only[z6,Nat.add_zero]at h ⊢
   simp only[cK]
   refine eS (ih (.rule 5) g w hw (by simp only[Jm]; omega) (by simp only[z6]; omega)) fun e w1 l1 l2=>?_
   simp only[Nat.add_zero]at l2
   by_cases hs:fq w1 [[44]]=true
   ·rw[if_pos hs]
    refine bU fun w2 h2=>?_
    obtain⟨k3,k4⟩:=aK h2 l1 (by rw[fl hs]; omega)
    exact (ih (.args _ _) g w2 k3 trivial (by simp only[z6]; omega)).le (by simp only; omega)
   ·rw[if_neg hs]
    refine bU fun w2 h2=>?_
    obtain⟨_,_,k5,k6⟩:=bQ h2 l1
    exact cZ k5 om
def IO:NS->Nat
 | .stmt=>0
 | .body=>0
 | .more _=>1
theorem KU(s:Bs):∀(f:Nat) (nt:NS) (g:Nat) (w:Wd),fy s w->9*mW s w+IO nt+2<f->nl s (pS s f nt g w) (mW s w)
 | 0,_,_,_,_,h=>absurd h (Nat.not_lt_zero _)
 | f+1,nt,g,w,hw,h=>by
  have ih:=KU s f
  have ihE:=KV s f
  rw[iM]
  have pe:∀g w1,fy s w1->mW s w1<mW s w->nl s (pE s f (.rule 5) g w1) (mW s w):=fun g w1 h1 h2=>(ihE (.rule 5) g w1 h1 (by simp only[Jm]; omega) (by simp only[z6]; omega)).le (by simp only; omega)
  have named:∀k line g w1,fy s w1->mW s w1<mW s w->nl s (jP s (pE s f) k line g w1) (mW s w):=by
   intro k line g w1 k1 k2
   unfold jP
   by_cases c:w1.k=2
   ·rw[if_pos c]
    refine bU fun w2 h2=>?_
    obtain⟨k3,k4⟩:=aK h2 k1 om
    refine bU fun w3 h3=>?_
    obtain⟨_,_,k5,k6⟩:=bQ h3 k3
    refine eS (pe g w3 k5 om) fun e w4 l1 l2=>?_
    refine bU fun w5 h5=>?_
    obtain⟨_,_,k7,k8⟩:=bQ h5 l1
    exact cZ k7 om
   ·rw[if_neg c]; exact mj
  have asked:∀g w1 F,fy s w1->mW s w1<mW s w->(∀e l w4,fy s w4->mW s w4<mW s w->nl s (F e l w4) (mW s w))->nl s (jS s (pE s f) (pS s f) g w1 F) (mW s w):=by
   intro g w1 F k1 k2 hF
   unfold jS
   refine bU fun w2 h2=>?_
   obtain⟨_,_,k3,k4⟩:=bQ h2 k1
   refine eS (pe g w2 k3 om) fun e w3 l1 l2=>?_
   refine bU fun w4 h4=>?_
   obtain⟨_,_,k5,k6⟩:=bQ h4 l1
   refine eS (ih .body g w4 k5 (by simp only[IO]; omega)) fun l w5 m1 m2=>?_
   exact hF e l w5 m1 om
  cases nt with
  | stmt=>
   simp only[IO]at h
   simp only[ic]
   by_cases g2:200<=g
   ·rw[if_pos g2]; exact mj
   rw[if_neg g2]
   by_cases c1:j6 w [108,101,116]=true
   ·rw[if_pos c1]
    refine bU fun w1 h1=>?_
    obtain⟨k1,k2⟩:=aK h1 hw (by rw[gF c1]; omega)
    exact named _ _ _ w1 k1 k2
   rw[if_neg c1]
   by_cases c2:j6 w [115,101,116]=true
   ·rw[if_pos c2]
    refine bU fun w1 h1=>?_
    obtain⟨k1,k2⟩:=aK h1 hw (by rw[gF c2]; omega)
    exact named _ _ _ w1 k1 k2
   rw[if_neg c2]
   by_cases c3:j6 w [105,102]=true
   ·rw[if_pos c3]
    refine bU fun w1 h1=>?_
    obtain⟨k1,k2⟩:=aK h1 hw (by rw[gF c3]; omega)
    refine asked _ w1 _ k1 k2 fun e l w2 l1 l2=>?_
    by_cases c:j6 w2 [101,108,115,101]=true
    ·rw[if_pos c]
     refine bU fun w3 h3=>?_
     obtain⟨k3,k4⟩:=aK h3 l1 (by rw[gF c]; omega)
     refine eS (ih .body _ w3 k3 (by simp only[IO]; omega)) fun m w4 m1 m2=>?_
     exact cZ m1 om
    ·rw[if_neg c]
     exact cZ l1 om
   rw[if_neg c3]
   by_cases c4:j6 w [119,104,105,108,101]=true
   ·rw[if_pos c4]
    refine bU fun w1 h1=>?_
    obtain⟨k1,k2⟩:=aK h1 hw (by rw[gF c4]; omega)
    exact asked _ w1 _ k1 k2 fun e l w2 l1 l2=>cZ l1 om
   rw[if_neg c4]
   by_cases c5:j6 w [114,101,116,117,114,110]=true
   ·rw[if_pos c5]
    refine bU fun w1 h1=>?_
    obtain⟨k1,k2⟩:=aK h1 hw (by rw[gF c5]; omega)
    refine eS (pe _ w1 k1 k2) fun e w2 l1 l2=>?_
    refine bU fun w3 h3=>?_
    obtain⟨_,_,k5,k6⟩:=bQ h3 l1
    exact cZ k5 om
   rw[if_neg c5]; exact mj
  | body=>
   simp only[IO]at h
   simp only[ic]
   refine bU fun w1 h1=>?_
   obtain⟨_,_,k1,k2⟩:=bQ h1 hw
   exact (ih (.more []) g w1 k1 (by simp only[IO]; omega)).le om
  | more out=>
   simp only[IO]at h
   simp only[ic]
   by_cases c:fq w [[125]]=true
   ·rw[if_pos c]
    refine bU fun w1 h1=>?_
    obtain⟨k1,k2⟩:=aK h1 hw (by rw[fl c]; omega)
    exact cZ k1 om
   ·rw[if_neg c]
    refine eS (ih .stmt g w hw (by simp only[IO]; omega)) fun x w1 l1 l2=>?_
    exact (ih (.more _) g w1 l1 (by simp only[IO]; omega)).le om
theorem CB(s:Bs):∀(f:Nat) (out:List St) (w:Wd),fy s w->10*mW s w+4<f->∃r,j5 s f out w=some r
 | 0,_,_,_,h=>absurd h (Nat.not_lt_zero _)
 | f+1,out,w,hw,h=>by
  unfold j5
  by_cases c:w.k=5
  ·rw[if_pos c]; exact⟨_,rfl⟩
  rw[if_neg c]
  obtain⟨r,h1,h2⟩:=KU s f .stmt 0 w hw (by simp only[IO]; omega)
  rw[h1]
  cases r with
  | error e=>exact⟨_,rfl⟩
  | ok p=>
   obtain⟨x,w1⟩:=p
   obtain⟨l1,l2⟩:=h2 x w1 rfl
   exact CB s f (out++x) w1 l1 om
theorem yE{s:Bs}{w:Wd}(h:cW s 0=.ok w):∃r,j5 s (nr s) [] w=some r:=by
 obtain⟨h1,_,_⟩:=il h
 refine CB s _ [] w h1 ?_
 have:mW s w<=s.length+1:=by unfold mW; split <;> omega
 unfold nr
 omega
open Go.Abs Go.Abs.S
def eX(P:Nat->Prop)(H:aa)(m:Nat)(v:ab)(k:Nat)(C:List ab):Prop:=
 (MT v=true/\k=0/\C=[])∨∃a r,v=.slice (some a) k r/\P a.b/\bv H a (m*k)=some C
theorem eX.mono{P Q:Nat->Prop}{H H':aa}{m k:Nat}{v:ab}{C:List ab}(h:eX P H m v k C)(q:∀b,P b->Q b/\H'.get b=H.get b):eX Q H' m v k C:=by
 rcases h with h | ⟨a,r,h1,h2,h3⟩
 ·exact .inl h
 ·exact .inr ⟨a,r,h1,(q _ h2).1,by rw[xU (q _ h2).2]; exact h3⟩
theorem eX.one{P:Nat->Prop}{H:aa}{m k:Nat}{v:ab}{C:List ab}(h:eX P H m v k C):v.one=true:=by
 rcases h with⟨h,_⟩ | ⟨a,r,rfl,_⟩
 ·exact JE h
 ·rfl
theorem eX.len{P:Nat->Prop}{H:aa}{m k:Nat}{v:ab}{C:List ab}(h:eX P H m v k C):gv false v=some (.int .i64 (k:Int)):=by
 rcases h with⟨h,rfl,_⟩ | ⟨a,r,rfl,_⟩
 ·rcases j7 h with rfl | ⟨a,rfl⟩ <;> rfl
 ·rfl
theorem eX.nil(P:Nat->Prop)(H:aa)(m:Nat):eX P H m bP 0 []:=.inl ⟨rfl,rfl,rfl⟩
theorem eX.app{P:Nat->Prop}{H:aa}{m k:Nat}{v:ab}{C:List ab}(h:eI m 0 H v C k)(hb:eJ v P):eX P H m v k C:=by
 rcases h with⟨rfl,rfl,rfl⟩ | ⟨b,low,rfl,h2,h3,h4,h5,h6,h7⟩
 ·exact .nil P H m
 ·refine .inr ⟨_,_,rfl,hb _ _ _ rfl,?_⟩
  rw[<- h2]
  exact eP h5 h6
theorem eX.row{P:Nat->Prop}{H:aa}{m k n:Nat}{b:Nat}{r:tP}{C:List ab}(h:aT H b C)(hn:C.length=n)(hk:m*k=n)(hp:P b):eX P H m (.slice (some ⟨b,n,0⟩) k r) k C:=by
 refine .inr ⟨_,_,rfl,hp,?_⟩
 obtain⟨low,h1,h2⟩:=h
 rw[hk,<- hn]
 exact eP h1 h2
def cF(m:Nat)(v:ab)(i:Nat):ab:=match v with
 | .slice (some a) _ _=>.ptr (some ⟨a.b,a.lim,a.o+i*m⟩)
 | _=>aX
theorem eX.idx{P:Nat->Prop}{H:aa}{m k:Nat}{v:ab}{C:List ab}(h:eX P H m v k C){i:Nat}(hi:i<k):eH m v (.int .i64 (i:Int))=some (cF m v i):=by
 rcases h with⟨_,rfl,_⟩ | ⟨a,r,rfl,_⟩
 ·omega
 ·show (bif Nat.blt i k then some (ab.ptr (some ⟨a.b,a.lim,a.o+i*m⟩)) else none)=_
  rw[show Nat.blt i k=true by simpa[Nat.blt_eq] using hi]; rfl
theorem qU{H:aa}{a:Ad}{n i j:Nat}{C:List ab}(h:bv H a n=some C)(hij:i+j<=n):bv H ⟨a.b,a.lim,a.o+i⟩ j=some ((C.drop i).take j):=by
 obtain⟨l,low,ro,h1,h2,h3,h4,rfl⟩:=oE h
 unfold bv
 simp only[h1,QS h2,QS h3,QS (show a.o+i+j<=a.lim by omega),Bool.and_self,cond_true]
 rw[List.drop_take,List.take_take,Nat.min_eq_left om,List.drop_drop]
theorem eX.load{P:Nat->Prop}{H:aa}{m k:Nat}{v:ab}{C:List ab}(h:eX P H m v k C){i:Nat}(hi:i<k):am true m H (cF m v i)=some (.agg ((C.drop (i*m)).take m)):=by
 rcases h with⟨_,rfl,_⟩ | ⟨a,r,rfl,_,h3⟩
 ·omega
 ·have hm:i*m+m<=m*k:=by
   have:(i+1)*m<=k*m:=Nat.mul_le_mul_right m hi
   rw[Nat.mul_comm m k]; rw[Nat.add_mul,Nat.one_mul]at this; exact this
  simp only[am,cF,qU h3 hm,cond_true]
theorem eX.aeq{P:Nat->Prop}{H:aa}{m k:Nat}{v:ab}{C:List ab}(h:eX P H m v k C):aeq v v=true:=by
 rcases h with⟨h,_⟩ | ⟨a,r,rfl,_⟩
 ·rcases j7 h with rfl | ⟨a,rfl⟩
  ·exact tI
  ·simp[Go.Abs.aeq]
 ·cases r <;> simp[Go.Abs.aeq]
mutual
def XE(P:Nat->Prop)(H:aa):Ex->List ab->Prop
 | .mk k s n kids,c=>∃v C,c=[.int .u8 (k:Int),.str s,.int .i64 n,v]/\eX P H 4 v kids.length C/\qd P H kids C
def qd(P:Nat->Prop)(H:aa):List Ex->List ab->Prop
 | [],C=>C=[]
 | e::l,C=>∃c D,C=c++D/\XE P H e c/\qd P H l D
end
theorem XE.len{P:Nat->Prop}{H:aa}{e:Ex}{c:List ab}(h:XE P H e c):c.length=4:=by
 cases e; obtain⟨v,C,rfl,_⟩:=h; rfl
theorem XE.one{P:Nat->Prop}{H:aa}{e:Ex}{c:List ab}(h:XE P H e c):c.all ab.one=true:=by
 cases e; obtain⟨v,C,rfl,h2,_⟩:=h
 simp only[List.all_cons,List.all_nil,h2.one]; rfl
theorem XE.aeqs{P:Nat->Prop}{H:aa}{e:Ex}{c:List ab}(h:XE P H e c):aeqs c c=true:=by
 cases e; obtain⟨v,C,rfl,h2,_⟩:=h
 simp[Go.Abs.aeqs,jI,jH,h2.aeq]
mutual
theorem XE.mono{P Q:Nat->Prop}{H H':aa}(q:∀b,P b->Q b/\H'.get b=H.get b):∀{e:Ex} {c:List ab},XE P H e c->XE Q H' e c
 | .mk _ _ _ _,_,h=>by
  obtain⟨v,C,h1,h2,h3⟩:=h
  exact⟨v,C,h1,h2.mono q,qd.mono q h3⟩
theorem qd.mono{P Q:Nat->Prop}{H H':aa}(q:∀b,P b->Q b/\H'.get b=H.get b):∀{l:List Ex} {C:List ab},qd P H l C->qd Q H' l C
 | [],_,h=>h
 | _::_,_,h=>by
  obtain⟨c,D,h1,h2,h3⟩:=h
  exact⟨c,D,h1,XE.mono q h2,qd.mono q h3⟩
end
theorem qd.len{P:Nat->Prop}{H:aa}:∀{l:List Ex} {C:List ab},qd P H l C->C.length=4*l.length
 | [],_,h=>by rw[show _=[] from h]; rfl
 | _::l,_,⟨c,D,h1,h2,h3⟩=>by
  rw[h1,lA,h2.len,qd.len h3,QU]; omega
theorem qd.app{P:Nat->Prop}{H:aa}{l':List Ex}{C':List ab}(h':qd P H l' C'):∀{l:List Ex} {C:List ab},qd P H l C->qd P H (l++l') (C++C')
 | [],_,h=>by rw[show _=[] from h]; exact h'
 | _::l,_,⟨c,D,h1,h2,h3⟩=>⟨c,D++C',by rw[h1,Q3],h2,qd.app h' h3⟩
theorem qd.sing{P:Nat->Prop}{H:aa}{e:Ex}{c:List ab}(h:XE P H e c):qd P H [e] c:=⟨c,[],by simp,h,rfl⟩
theorem qd.at{P:Nat->Prop}{H:aa}:∀{l:List Ex} {C:List ab},qd P H l C->∀{i:Nat} {e:Ex},l[i]?=some e->XE P H e ((C.drop (i*4)).take 4)
 | [],_,_,i,e,hi=>by simp at hi
 | x::l,_,⟨c,D,h1,h2,h3⟩,i,e,hi=>by
  subst h1
  have hl:=h2.len
  cases i with
  | zero=>
   simp only[QZ,sJ]at hi
   subst hi
   rw[Nat.zero_mul,List.drop_zero,List.take_append_of_le_length om,List.take_of_length_le om]
   exact h2
  | succ i=>
   rw[Q0]at hi
   have:=qd.at h3 hi
   rw[show (i+1)*4=c.length+i*4 by omega,List.drop_append,List.drop_of_length_le om,List.nil_append,show c.length+i*4-c.length=i*4 by omega]
   exact this
mutual
def XS(P:Nat->Prop)(H:aa):St->List ab->Prop
 | .mk k s e body els line,c=>∃ce vb Cb ve Ce,c=.int .u8 (k:Int)::.str s::(ce++[vb,ve,.int .i64 line])/\XE P H e ce/\eX P H 9 vb body.length Cb/\gc P H body Cb/\eX P H 9 ve els.length Ce/\gc P H els Ce
def gc(P:Nat->Prop)(H:aa):List St->List ab->Prop
 | [],C=>C=[]
 | e::l,C=>∃c D,C=c++D/\XS P H e c/\gc P H l D
end
theorem XS.len{P:Nat->Prop}{H:aa}{e:St}{c:List ab}(h:XS P H e c):c.length=9:=by
 cases e; obtain⟨ce,vb,Cb,ve,Ce,rfl,h2,_⟩:=h
 simp[h2.len]
theorem XS.one{P:Nat->Prop}{H:aa}{e:St}{c:List ab}(h:XS P H e c):c.all ab.one=true:=by
 cases e; obtain⟨ce,vb,Cb,ve,Ce,rfl,h2,h3,_,h5,_⟩:=h
 simp only[List.all_cons,List.all_append,List.all_nil,h2.one,h3.one,h5.one]; rfl
theorem tH:∀{l m l' m':List ab},aeqs l l'=true->aeqs m m'=true->aeqs (l++m) (l'++m')=true
 | [],_,[],_,_,h=>h
 | [],_,_::_,_,h,_=>by simp[Go.Abs.aeqs]at h
 | _::_,_,[],_,h,_=>by simp[Go.Abs.aeqs]at h
 | x::l,m,y::l',m',h,h'=>by
  simp only[Go.Abs.aeqs,QT]at h
  simp only[Q9,Go.Abs.aeqs,h.1,tH h.2 h',Bool.and_self]
theorem XS.aeqs{P:Nat->Prop}{H:aa}{e:St}{c:List ab}(h:XS P H e c):aeqs c c=true:=by
 cases e; obtain⟨ce,vb,Cb,ve,Ce,rfl,h2,h3,_,h5,_⟩:=h
 simp only[Go.Abs.aeqs,jI,jH,Bool.true_and]
 exact tH h2.aeqs (by simp[Go.Abs.aeqs,h3.aeq,h5.aeq,jI])
mutual
theorem XS.mono{P Q:Nat->Prop}{H H':aa}(q:∀b,P b->Q b/\H'.get b=H.get b):∀{e:St} {c:List ab},XS P H e c->XS Q H' e c
 | .mk _ _ _ _ _ _,_,h=>by
  obtain⟨ce,vb,Cb,ve,Ce,h1,h2,h3,h4,h5,h6⟩:=h
  exact⟨ce,vb,Cb,ve,Ce,h1,h2.mono q,h3.mono q,gc.mono q h4,h5.mono q,gc.mono q h6⟩
theorem gc.mono{P Q:Nat->Prop}{H H':aa}(q:∀b,P b->Q b/\H'.get b=H.get b):∀{l:List St} {C:List ab},gc P H l C->gc Q H' l C
 | [],_,h=>h
 | _::_,_,h=>by
  obtain⟨c,D,h1,h2,h3⟩:=h
  exact⟨c,D,h1,XS.mono q h2,gc.mono q h3⟩
end
theorem gc.len{P:Nat->Prop}{H:aa}:∀{l:List St} {C:List ab},gc P H l C->C.length=9*l.length
 | [],_,h=>by rw[show _=[] from h]; rfl
 | _::l,_,⟨c,D,h1,h2,h3⟩=>by
  rw[h1,lA,h2.len,gc.len h3,QU]; omega
theorem gc.app{P:Nat->Prop}{H:aa}{l':List St}{C':List ab}(h':gc P H l' C'):∀{l:List St} {C:List ab},gc P H l C->gc P H (l++l') (C++C')
 | [],_,h=>by rw[show _=[] from h]; exact h'
 | _::l,_,⟨c,D,h1,h2,h3⟩=>⟨c,D++C',by rw[h1,Q3],h2,gc.app h' h3⟩
theorem gc.sing{P:Nat->Prop}{H:aa}{e:St}{c:List ab}(h:XS P H e c):gc P H [e] c:=⟨c,[],by simp,h,rfl⟩
theorem gc.at{P:Nat->Prop}{H:aa}:∀{l:List St} {C:List ab},gc P H l C->∀{i:Nat} {e:St},l[i]?=some e->XS P H e ((C.drop (i*9)).take 9)
 | [],_,_,i,e,hi=>by simp at hi
 | x::l,_,⟨c,D,h1,h2,h3⟩,i,e,hi=>by
  subst h1
  have hl:=h2.len
  cases i with
  | zero=>
   simp only[QZ,sJ]at hi
   subst hi
   rw[Nat.zero_mul,List.drop_zero,List.take_append_of_le_length om,List.take_of_length_le om]
   exact h2
  | succ i=>
   rw[Q0]at hi
   have:=gc.at h3 hi
   rw[show (i+1)*9=c.length+i*9 by omega,List.drop_append,List.drop_of_length_le om,List.nil_append,show c.length+i*9-c.length=i*9 by omega]
   exact this
def In(n m:Nat)(c:Nat):Prop:=n<=c/\c<m
def GE(n:Nat)(H:aa)(v:ab)(l:List Ex):Prop:=∃C,eI 4 0 H v C l.length/\eJ v (In n H.next)/\qd (fun c=>In n H.next c/\eJ v (c≠·)) H l C
theorem GE.nil(n:Nat)(H:aa):GE n H bP []:=⟨[],.nil _ _ _,wS _,rfl⟩
theorem GE.keep{n:Nat}{H H':aa}{v:ab}{l:List Ex}(h:GE n H v l)(hn:H.next<=H'.next)(e:∀c,In n H.next c->H'.get c=H.get c):GE n H' v l:=by
 obtain⟨C,h1,h2,h3⟩:=h
 exact⟨C,h1.same hn (h2.mono fun b hb=>e b hb),h2.mono fun b hb=>⟨hb.1,Q4 hb.2 hn⟩,h3.mono fun b hb=>⟨⟨⟨hb.1.1,Q4 hb.1.2 hn⟩,hb.2⟩,e b hb.1⟩⟩
theorem GE.sl{n:Nat}{H:aa}{v:ab}{l:List Ex}(h:GE n H v l):∃C,eX (In n H.next) H 4 v l.length C/\qd (In n H.next) H l C:=by
 obtain⟨C,h1,h2,h3⟩:=h
 exact⟨C,.app h1 h2,h3.mono fun b hb=>⟨hb.1,rfl⟩⟩
theorem GE.push{n m:Nat}{H:aa}{v:ab}{l:List Ex}(h:GE n H v l){e:Ex}{xs:List ab}(hx:XE (In m H.next) H e xs)(hm:n<=m)(hn:n<=H.next)(hv:eJ v (·<m))(hl:l.length<=1000000){bytes:Nat}(hb1:0<bytes)(hb2:bytes<=1000) :
  ∃v' H',bJ 4 bytes (H.push (.cells xs 0 false)) v (jO H 4)=some (v',H')/\GE n H' v' (l++[e])/\H.next<=H'.next/\∀c,c<H.next->eJ v (c≠·)->H'.get c=H.get c:=by
 obtain⟨C,h1,h2,h3⟩:=h
 have hb:2*(l.length+1)*bytes<=281474976710656:=by
  have:2*(l.length+1)*bytes<=2*(1000000+1)*1000:=Nat.mul_le_mul om hb2
  omega
 obtain⟨v',H',a1,a2,a3,a4,a5⟩:=h1.pushB hx.len hx.one om hb hb1
 have k:∀c,In n H.next c->eJ v (c≠·)->In n H'.next c/\eJ v' (c≠·):=by
  intro c hc hd
  refine⟨⟨hc.1,Q4 hc.2 a3⟩,(a4 _ hd).mono fun b hb=>?_⟩
  rcases hb with hb | hb
  ·exact hb
  ·have:=hc.2; omega
 refine⟨v',H',a1,⟨C++xs,by rw[lA]; exact a2,?_,qd.app (qd.sing ?_) ?_⟩,a3,a5⟩
 ·intro a j r e
  refine⟨?_,a2.blk' a j r e⟩
  rcases (a4 _ h2) a j r e with hb | hb
  ·exact hb.1
  ·omega
 ·refine hx.mono fun b hb=>⟨?_,a5 b hb.2 ?_⟩
  ·exact k b ⟨Nat.le_trans hm hb.1,hb.2⟩ (hv.mono fun c hc=>by have:=hb.1; omega)
  ·exact hv.mono fun c hc=>by have:=hb.1; omega
 ·exact h3.mono fun b hb=>⟨k b hb.1 hb.2,a5 b hb.1.2 hb.2⟩
def GS(n:Nat)(H:aa)(v:ab)(l:List St):Prop:=∃C,eI 9 0 H v C l.length/\eJ v (In n H.next)/\gc (fun c=>In n H.next c/\eJ v (c≠·)) H l C
theorem GS.nil(n:Nat)(H:aa):GS n H bP []:=⟨[],.nil _ _ _,wS _,rfl⟩
theorem GS.keep{n:Nat}{H H':aa}{v:ab}{l:List St}(h:GS n H v l)(hn:H.next<=H'.next)(e:∀c,In n H.next c->H'.get c=H.get c):GS n H' v l:=by
 obtain⟨C,h1,h2,h3⟩:=h
 exact⟨C,h1.same hn (h2.mono fun b hb=>e b hb),h2.mono fun b hb=>⟨hb.1,Q4 hb.2 hn⟩,h3.mono fun b hb=>⟨⟨⟨hb.1.1,Q4 hb.1.2 hn⟩,hb.2⟩,e b hb.1⟩⟩
theorem GS.sl{n:Nat}{H:aa}{v:ab}{l:List St}(h:GS n H v l):∃C,eX (In n H.next) H 9 v l.length C/\gc (In n H.next) H l C:=by
 obtain⟨C,h1,h2,h3⟩:=h
 exact⟨C,.app h1 h2,h3.mono fun b hb=>⟨hb.1,rfl⟩⟩
theorem GS.push{n m:Nat}{H:aa}{v:ab}{l:List St}(h:GS n H v l){e:St}{xs:List ab}(hx:XS (In m H.next) H e xs)(hm:n<=m)(hn:n<=H.next)(hv:eJ v (·<m))(hl:l.length<=1000000){bytes:Nat}(hb1:0<bytes)(hb2:bytes<=1000) :
  ∃v' H',bJ 9 bytes (H.push (.cells xs 0 false)) v (jO H 9)=some (v',H')/\GS n H' v' (l++[e])/\H.next<=H'.next/\∀c,c<H.next->eJ v (c≠·)->H'.get c=H.get c:=by
 obtain⟨C,h1,h2,h3⟩:=h
 have hb:2*(l.length+1)*bytes<=281474976710656:=by
  have:2*(l.length+1)*bytes<=2*(1000000+1)*1000:=Nat.mul_le_mul om hb2
  omega
 obtain⟨v',H',a1,a2,a3,a4,a5⟩:=h1.pushB hx.len hx.one om hb hb1
 have k:∀c,In n H.next c->eJ v (c≠·)->In n H'.next c/\eJ v' (c≠·):=by
  intro c hc hd
  refine⟨⟨hc.1,Q4 hc.2 a3⟩,(a4 _ hd).mono fun b hb=>?_⟩
  rcases hb with hb | hb
  ·exact hb
  ·have:=hc.2; omega
 refine⟨v',H',a1,⟨C++xs,by rw[lA]; exact a2,?_,gc.app (gc.sing ?_) ?_⟩,a3,a5⟩
 ·intro a j r e
  refine⟨?_,a2.blk' a j r e⟩
  rcases (a4 _ h2) a j r e with hb | hb
  ·exact hb.1
  ·omega
 ·refine hx.mono fun b hb=>⟨?_,a5 b hb.2 ?_⟩
  ·exact k b ⟨Nat.le_trans hm hb.1,hb.2⟩ (hv.mono fun c hc=>by have:=hb.1; omega)
  ·exact hv.mono fun c hc=>by have:=hb.1; omega
 ·exact h3.mono fun b hb=>⟨k b hb.1 hb.2,a5 b hb.1.2 hb.2⟩
end Go.Proofs.Wo
