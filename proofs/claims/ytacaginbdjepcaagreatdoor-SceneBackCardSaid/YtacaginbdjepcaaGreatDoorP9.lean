/- Part of a proof (VWG VWH VWI VWJ VWK VP0 VB0 VP1 VP2 VP3 S28 VSK VC2); no condition. -/
import Derived.Test.YtacaginbdjepcaaGreatDoorProg
import Derived.KernelRfl
import Derived.Test.YtacaginbdjepcaaGreatDoorP7
import Derived.Test.YtacaginbdjepcaaGreatDoorP8
set_option linter.unusedSimpArgs false
set_option linter.unusedVariables false
set_option linter.unnecessarySimpa false
namespace Go.Proofs.Wo
open Go.Abs Go.Abs.S
def put:Nat->List Nat->Nat->List Nat
 | 0,l,_=>l
 | i+1,l,u=>put i (l.set i (48+u % 10)) (u / 10)
def yJ(l:List Nat)(i d:Nat):List Nat:=(l.set (i+1) (48+d % 10)).set i (48+d / 10)
theorem ek(l:List Nat)(i d:Nat):(yJ l i d).length=l.length:=by simp[yJ]
theorem jn(i:Nat)(l:List Nat)(u:Nat):put (i+2) l u=put i (yJ l i (u % 100)) (u / 100):=by
 simp only[put,yJ]
 rw[Nat.div_div_eq_div_mul]
 congr 3
 ·omega
 ·omega
theorem pT:∀(k:Nat) (l:List Nat) (u:Nat),k<=l.length->put k l u=(pd k u).map (48+·)++l.drop k
 | 0,l,u,_=>by simp[put,pd]
 | k+1,l,u,h=>by
  rw[put,pT k _ _ (by simp; omega),pd,List.map_append,PG]
  congr 1
  have hlt:k<(l.set k (48+u % 10)).length:=by simp; omega
  rw[List.drop_eq_getElem_cons hlt]
  simp[List.drop_set]
theorem pa:∀(k:Nat) (l:List Nat) (u:Nat),(put k l u).length=l.length
 | 0,l,u=>rfl
 | k+1,l,u=>by rw[put,pa k]; simp
def oP(b o k:Nat):af:=.slice (some ⟨b,24,o⟩) k (.known (24-o))
theorem gM{b o k:Nat}(K:IntKind){i:Nat}(h:i<k):gP 1 (oP b o k) (.int K (i:Int))=some (aj b 24 (o+i)):=by
 show (bif Nat.blt i k then some (af.ptr (some ⟨b,24,o+i*1⟩)) else none)=_
 have:Nat.blt i k=true:=by simpa[Nat.blt_eq] using h
 rw[this,Nat.mul_one]; rfl
theorem jJ(p l:List Nat)(i x:Nat):gY (p++l.set i x)=(gY (p++l)).set (p.length+i) (.int .u8 (x:Int)):=by
 rw[<- uo,List.set_append,if_neg om,show p.length+i-p.length=i by omega]
theorem GN(b o k:Nat):gd false (oP b o k)=some (.int .i64 (k:Int)):=_root_.id rfl
theorem gB{H:ae}{b:Nat}{p l:List Nat}(hr:Row H b (gY (p++l)))(hl:p.length+l.length=24){i d:Nat}(hi:p.length+i+1<24) :
  ∃H1 H2,bD 1 H (aj b 24 (p.length+(i+1))) (.int .u8 ((48+d % 10:Nat):Int))=some H1/\bD 1 H1 (aj b 24 (p.length+i)) (.int .u8 ((48+d / 10:Nat):Int))=some H2/\Row H2 b (gY (p++yJ l i d))/\H2.next=H.next/\∀c,c≠b->H2.get c=H.get c:=by
 have hL:(gY (p++l)).length=24:=by rw[gh,lA,hl]
 obtain⟨H1,m1,r1,n1,k1⟩:=bA hr (n:=24) hL (i:=p.length+(i+1)) om (x:=.int .u8 ((48+d % 10:Nat):Int)) rfl
 rw[<- jJ]at r1
 obtain⟨H2,m2,r2,n2,k2⟩:=bA r1 (n:=24) (by rw[gh,lA,List.length_set,hl]) (i:=p.length+i) om (x:=.int .u8 ((48+d / 10:Nat):Int)) rfl
 rw[<- jJ]at r2
 exact⟨H1,H2,m1,m2,r2,om,fun c hc=>(k2 c hc).trans (k1 c hc)⟩
def rC:bh->bh
 | .seq _ b=>b
 | c=>c
def JN(t:bh):bh:=match Lz.body with
 | .seq a (.seq b (.seq c (.seq d _)))=>.seq a (.seq b (.seq c (.seq d t)))
 | x=>x
def Ag:bh:=rC (rC (rC (rC Lz.body)))
set_option maxRecDepth 100000 in
theorem Kt{b k:Nat}{p:List Nat}(hk:p.length+k<=24){R:List Nat}{Q:ae->Prop}(hQ:∀H',Row H' b (gY (p++R))->Q H'->Q H'){H0:ae}{H:ae}{m:List Nat}(hm:p.length+m.length=24){i x:Nat}(hi:i<4)(hik:i<=k)(hx:x<10 ^ i)(hp:put i m x=R)
  {T:bN} (g0:T 0=oP b p.length k) (g4:T 4=.int .i64 (i:Int)) (g12:T 12=.int .u32 (x:Int)) (hr:Row H b (gY (p++m))) (hn:H.next=H0.next) (ho:∀c,c≠b->H.get c=H0.get c) :
  wp (aq Tryz.prog aG) Ag (ij Lz.res fun v H'=>Row H' b (gY (p++R))/\H'.next=H0.next/\∀c,c≠b->H'.get c=H0.get c) T H:=by
 simp only[Ag,rC,Lz,<- lg,sA,sB,seval]
 have fin1:∀{T:bN} {H:ae} {m:List Nat} {x:Nat},x<10->p.length+m.length=24->put 1 m x=R->Row H b (gY (p++m))->H.next=H0.next->(∀c,c≠b->H.get c=H0.get c)->1<=k ->
   IntKind.u32.wrap (48+(x:Int))=((48+x:Nat):Int)/\IntKind.u8.wrap ((48+x:Nat):Int)=((48+x:Nat):Int)/\gP 1 (oP b p.length k) (.int .i64 0)=some (aj b 24 (p.length+0)) /\
   ∃H',bD 1 H (aj b 24 (p.length+0)) (.int .u8 ((48+x:Nat):Int))=some H'/\Row H' b (gY (p++R))/\H'.next=H0.next/\∀c,c≠b->H'.get c=H0.get c:=by
  intro T H m x hx hm hp hr hn ho hk1
  refine⟨by rw[fJ om om]; omega,dN om om,gM .i64 (i:=0) hk1,?_⟩
  obtain⟨H1,m1,r1,n1,k1⟩:=bA hr (n:=24) (by rw[gh,lA,hm]) (i:=p.length+0) om (x:=.int .u8 ((48+x:Nat):Int)) rfl
  rw[<- jJ]at r1
  refine⟨H1,m1,?_,om,fun c hc=>(k1 c hc).trans (ho c hc)⟩
  have:x % 10=x:=om
  rw[<- hp]
  simpa only [put,this] using r1
 by_cases c2:2<=i
 ·obtain⟨j,rfl⟩:∃j,i=j+2:=⟨i-2,om⟩
  have c2':(2:Int)<=((j+2:Nat):Int):=om
  have e1:=nA (a:=x) 100 om
  have hx4:x<10 ^ 4:=PH hx (Nat.pow_le_pow_right om om)
  have e2:=nB (a:=x) 100 om om
  simp only[Int.cast_ofNat_Int]at e1 e2
  have w1:IntKind.u32.wrap (((x % 100:Nat):Int)*2)=((x % 100*2:Nat):Int):=by rw[fJ om om]; omega
  have w2:IntKind.u32.wrap (((x % 100*2:Nat):Int)+1)=((x % 100*2+1:Nat):Int):=by rw[fJ om om]; omega
  have s1:IntKind.i64.wrap (((j+2:Nat):Int)-1)=((j+1:Nat):Int):=by rw[aV om om]; omega
  have s2:IntKind.i64.wrap (((j+2:Nat):Int)-2)=((j:Nat):Int):=by rw[aV om om]; omega
  obtain⟨H1,H2,m1,m2,r2,n2,k2⟩:=gB hr hm (i:=j) (d:=x % 100) om
  have hd:x % 100<100:=om
  rw[jn]at hp
  by_cases c0:0<j
  ·have hj:j=1:=om
   have c0':(0:Int)<(j:Int):=om
   have hx2:x / 100<10:=by
    rw[hj]at hx
    have:x<10 ^ 3:=hx
    omega
   rw[hj]at hp r2
   obtain⟨f1,f2,f3,H3,f4,f5⟩:=fin1 (T:=T) hx2 (by rw[ek,hm]) hp r2 om (fun c hc=>(k2 c hc).trans (ho c hc)) om
   simp only[sA,sB,seval,g0,g4,g12,c2',e1,e2,w1,w2,s1,s2,fQ hd,eI hd,gM .i64 (show j+1<k by omega),gM .i64 (show j<k by omega),m1,m2,c0',f1,f2,f3,f4,gH]
   exact f5
  ·have hj:j=0:=om
   have c0':¬(0:Int)<(j:Int):=om
   rw[hj]at hp r2
   simp only[sA,sB,seval,g0,g4,g12,c2',e1,e2,w1,w2,s1,s2,fQ hd,eI hd,gM .i64 (show j+1<k by omega),gM .i64 (show j<k by omega),m1,m2,c0',gH]
   refine⟨by rw[<- hp]; exact r2,om,fun c hc=>(k2 c hc).trans (ho c hc)⟩
 ·have c2':¬(2:Int)<=(i:Int):=om
  by_cases c0:0<i
  ·have hj:i=1:=om
   have c0':(0:Int)<(i:Int):=om
   rw[hj]at hp hx
   obtain⟨f1,f2,f3,H3,f4,f5⟩:=fin1 (T:=T) (by simpa using hx) hm hp hr hn ho om
   simp only[sA,sB,seval,g0,g4,g12,c2',c0',f1,f2,f3,f4,gH]
   exact f5
  ·have hj:i=0:=om
   have c0':¬(0:Int)<(i:Int):=om
   rw[hj]at hp
   simp only[sA,sB,seval,g0,g4,g12,c2',c0',gH]
   exact⟨by rw[<- hp]; exact hr,hn,ho⟩
set_option maxRecDepth 100000 in
theorem tp(h79:aG.is 74=false){b k u:Nat}{p l:List Nat}{H:ae}(hr:Row H b (gY (p++l)))(hl:p.length+l.length=24)(hk:p.length+k<=24)(hu:u<10 ^ k)(hu64:u<18446744073709551616) :
  aq Tryz.prog aG 74 [oP b p.length k,.int .u64 (u:Int)] H fun v H'=>Row H' b (gY (p++put k l u))/\H'.next=H.next/\∀c,c≠b->H'.get c=H.get c:=by
 refine ai h79 NX rfl ?_
 have t:=fun (T:bN) (H1:ae) (m:List Nat) (i x:Nat) hm hi hik hx hp g0 g4 g12 hr hn ho=>Kt (b:=b) (k:=k) (p:=p) hk (R:=put k l u) (Q:=fun _=>True) (fun _ _ h=>h) (H0:=H) (H:=H1) (m:=m) hm (i:=i) (x:=x) hi hik hx hp (T:=T) g0 g4 g12 hr hn ho
 show wp _ (JN Ag) (ij Lz.res _) _ _
 simp only[JN,Lz,<- lg,sA,sB,seval,GN]
 refine bM (fun q (T:bN) H'=>∃(i x:Nat) (m:List Nat),i<=k/\i=q/\p.length+m.length=24/\x<10 ^ i/\x<18446744073709551616/\T 0=oP b p.length k/\T 1=.int .u64 (x:Int)/\T 4=.int .i64 (i:Int)/\put i m x=put k l u/\Row H' b (gY (p++m))/\H'.next=H.next/\∀c,c≠b->H'.get c=H.get c) k
  ⟨k,u,l,Nat.le_refl _,rfl,hl,hu,hu64,by simp only[sA,sB,seval],by simp only[sA,sB,seval],by simp only[sA,sB,seval],rfl,hr,rfl,fun c _=>rfl⟩ ?_
 rintro q T H1 ⟨i,x,m,hi,rfl,hm,hx,hx64,g0,g1,g4,hp,hr1,hn,ho⟩
 clear hr
 by_cases c8:8<=i
 ·obtain⟨j,rfl⟩:∃j,i=j+8:=⟨i-8,om⟩
  have c8':(8:Int)<=((j+8:Nat):Int):=om
  have e1:=KE (a:=x) 100000000 om
  have e2:=Fo (a:=x) 100000000 om hx64
  have w0:IntKind.u32.wrap ((x % 100000000:Nat):Int)=((x % 100000000:Nat):Int):=fJ om om
  have p1:x % 100000000 % 10000 % 100=x % 100:=om
  have p2:x % 100000000 % 10000 / 100=x / 100 % 100:=om
  have p3:x % 100000000 / 10000 % 100=x / 100 / 100 % 100:=om
  have p4:x % 100000000 / 10000 / 100=x / 100 / 100 / 100 % 100:=om
  have p5:x / 100 / 100 / 100 / 100=x / 100000000:=om
  rw[jn (j+6),jn (j+4),jn (j+2),jn j,p5,<- p1,<- p2,<- p3,<- p4]at hp
  have hA:x % 100000000<100000000:=om
  have hx':x / 100000000<10 ^ j:=by
   rw[Nat.pow_add]at hx
   exact Nat.div_lt_of_lt_mul (by rw[Nat.mul_comm]; exact hx)
  have hxx:x / 100000000<18446744073709551616:=om
  generalize x / 100000000=x' at *
  generalize x % 100000000=A at *
  have e3:=nB (a:=A) 10000 om om
  have e4:=nA (a:=A) 10000 om
  have hB:A / 10000<10000:=om
  have hC:A % 10000<10000:=om
  generalize A / 10000=B at *
  generalize A % 10000=C at *
  have e5:=nB (a:=C) 100 om om
  have e6:=nA (a:=C) 100 om
  have e7:=nB (a:=B) 100 om om
  have e8:=nA (a:=B) 100 om
  have d1:C % 100<100:=om
  have d2:C / 100<100:=om
  have d3:B % 100<100:=om
  have d4:B / 100<100:=om
  generalize C % 100=y1 at *
  generalize C / 100=y2 at *
  generalize B % 100=y3 at *
  generalize B / 100=y4 at *
  simp only[Int.cast_ofNat_Int]at e1 e2 e3 e4 e5 e6 e7 e8
  have ww:∀y:Nat,y<100->IntKind.u32.wrap ((y:Int)*2)=((y*2:Nat):Int):=fun y hy=>by rw[fJ om om]; omega
  have wa:∀y:Nat,y<100->IntKind.u32.wrap (((y*2:Nat):Int)+1)=((y*2+1:Nat):Int):=fun y hy=>by rw[fJ om om]; omega
  have s1:IntKind.i64.wrap (((j+8:Nat):Int)-1)=((j+6+1:Nat):Int):=by rw[aV om om]; omega
  have s2:IntKind.i64.wrap (((j+8:Nat):Int)-2)=((j+6:Nat):Int):=by rw[aV om om]; omega
  have s3:IntKind.i64.wrap (((j+8:Nat):Int)-3)=((j+4+1:Nat):Int):=by rw[aV om om]; omega
  have s4:IntKind.i64.wrap (((j+8:Nat):Int)-4)=((j+4:Nat):Int):=by rw[aV om om]; omega
  have s5:IntKind.i64.wrap (((j+8:Nat):Int)-5)=((j+2+1:Nat):Int):=by rw[aV om om]; omega
  have s6:IntKind.i64.wrap (((j+8:Nat):Int)-6)=((j+2:Nat):Int):=by rw[aV om om]; omega
  have s7:IntKind.i64.wrap (((j+8:Nat):Int)-7)=((j+1:Nat):Int):=by rw[aV om om]; omega
  have s8:IntKind.i64.wrap (((j+8:Nat):Int)-8)=((j:Nat):Int):=by rw[aV om om]; omega
  obtain⟨H2,H3,m2,m3,r3,n3,k3⟩:=gB hr1 hm (i:=j+6) (d:=y1) om
  obtain⟨H4,H5,m4,m5,r5,n5,k5⟩:=gB r3 (by rw[ek,hm]) (i:=j+4) (d:=y2) om
  obtain⟨H6,H7,m6,m7,r7,n7,k7⟩:=gB r5 (by rw[ek,ek,hm]) (i:=j+2) (d:=y3) om
  obtain⟨H8,H9,m8,m9,r9,n9,k9⟩:=gB r7 (by rw[ek,ek,ek,hm]) (i:=j) (d:=y4) om
  have ix:∀i,i<k->gP 1 (oP b p.length k) (.int .i64 (i:Int))=some (aj b 24 (p.length+i)):=fun i h=>gM .i64 h
  simp only[sA,sB,seval,g0,g1,g4,c8',e1,e2,e3,e4,e5,e6,e7,e8,w0,ww y1 d1,ww y2 d2,ww y3 d3,ww y4 d4,wa y1 d1,wa y2 d2,wa y3 d3,wa y4 d4,s1,s2,s3,s4,s5,s6,s7,s8,fQ d1,eI d1,fQ d2,eI d2,fQ d3,eI d3,fQ d4,eI d4,
   ix (j+6+1) om,ix (j+6) om,ix (j+4+1) om,ix (j+4) om,ix (j+2+1) om,ix (j+2) om,ix (j+1) om,ix j om,m2,m3,m4,m5,m6,m7,m8,m9]
  refine⟨_,Nat.lt_add_of_pos_right om,j,x',_,om,rfl,?_,hx',hxx,by trivial,by trivial,by trivial,hp,r9,om,fun c hc=>(k9 c hc).trans ((k7 c hc).trans ((k5 c hc).trans ((k3 c hc).trans (ho c hc))))⟩
  simp only[ek,hm]
 ·have c8':¬(8:Int)<=(i:Int):=om
  have hx7:x<10 ^ 7:=PH hx (Nat.pow_le_pow_right om om)
  have w0:IntKind.u32.wrap (x:Int)=(x:Int):=fJ om om
  by_cases c4:4<=i
  ·obtain⟨j,rfl⟩:∃j,i=j+4:=⟨i-4,om⟩
   have c4':(4:Int)<=((j+4:Nat):Int):=om
   have e1:=nA (a:=x) 10000 om
   have e2:=nB (a:=x) 10000 om om
   have p1:x % 10000 % 100=x % 100:=om
   have p2:x % 10000 / 100=x / 100 % 100:=om
   have p5:x / 100 / 100=x / 10000:=om
   rw[jn (j+2),jn j,p5,<- p1,<- p2]at hp
   have hx':x / 10000<10 ^ j:=by
    rw[Nat.pow_add]at hx
    exact Nat.div_lt_of_lt_mul (by rw[Nat.mul_comm]; exact hx)
   have hC:x % 10000<10000:=om
   generalize x / 10000=x' at *
   generalize x % 10000=C at *
   have e5:=nB (a:=C) 100 om om
   have e6:=nA (a:=C) 100 om
   have d1:C % 100<100:=om
   have d2:C / 100<100:=om
   generalize C % 100=y1 at *
   generalize C / 100=y2 at *
   simp only[Int.cast_ofNat_Int]at e1 e2 e5 e6
   have ww:∀y:Nat,y<100->IntKind.u32.wrap ((y:Int)*2)=((y*2:Nat):Int):=fun y hy=>by rw[fJ om om]; omega
   have wa:∀y:Nat,y<100->IntKind.u32.wrap (((y*2:Nat):Int)+1)=((y*2+1:Nat):Int):=fun y hy=>by rw[fJ om om]; omega
   have s1:IntKind.i64.wrap (((j+4:Nat):Int)-1)=((j+2+1:Nat):Int):=by rw[aV om om]; omega
   have s2:IntKind.i64.wrap (((j+4:Nat):Int)-2)=((j+2:Nat):Int):=by rw[aV om om]; omega
   have s3:IntKind.i64.wrap (((j+4:Nat):Int)-3)=((j+1:Nat):Int):=by rw[aV om om]; omega
   have s4:IntKind.i64.wrap (((j+4:Nat):Int)-4)=((j:Nat):Int):=by rw[aV om om]; omega
   obtain⟨H2,H3,m2,m3,r3,n3,k3⟩:=gB hr1 hm (i:=j+2) (d:=y1) om
   obtain⟨H4,H5,m4,m5,r5,n5,k5⟩:=gB r3 (by rw[ek,hm]) (i:=j) (d:=y2) om
   have ix:∀i,i<k->gP 1 (oP b p.length k) (.int .i64 (i:Int))=some (aj b 24 (p.length+i)):=fun i h=>gM .i64 h
   simp only[sA,sB,seval,g0,g1,g4,c8',w0,c4',e1,e2,e5,e6,ww y1 d1,ww y2 d2,wa y1 d1,wa y2 d2,s1,s2,s3,s4,fQ d1,eI d1,fQ d2,eI d2,ix (j+2+1) om,ix (j+2) om,ix (j+1) om,ix j om,m2,m3,m4,m5]
   refine t _ _ (yJ (yJ m (j+2) y1) j y2) j x' ?_ om om hx' hp ?_ ?_ ?_ r5 om fun c hc=>(k5 c hc).trans ((k3 c hc).trans (ho c hc))
   ·simp only[ek,hm]
   all_goals simp only[sA,sB,seval,g0]
  ·have c4':¬(4:Int)<=(i:Int):=om
   simp only[sA,sB,seval,g0,g1,g4,c8',w0,c4']
   refine t _ _ m i x hm om hi hx hp ?_ ?_ ?_ hr1 hn ho
   all_goals simp only[sA,sB,seval,g0,g4]
theorem wY(h79:aG.is 74=false){b k u:Nat}{l:List Nat}{H:ae}(hr:Row H b (gY l))(hl:l.length=24)(hk:k<=24)(hu:u<10 ^ k)(hu64:u<18446744073709551616) :
  aq Tryz.prog aG 74 [kl b 24 k,.int .u64 (u:Int)] H fun v H'=>Row H' b (gY (put k l u))/\H'.next=H.next/\∀c,c≠b->H'.get c=H.get c:=
 tp (p:=[]) h79 hr (by simpa using hl) (by simpa using hk) hu hu64
open Go.Abs Go.Abs.S
theorem wI{l:List Nat}(h:∀d∈l,d<=9):gY (l.map (48+·))=dm (bV l):=by
 simp only[gY,dm,bV,List.map_map]
 apply List.map_congr_left
 intro d hd
 have:=h d hd
 have e:(UInt8.ofNat (48+d)).toNat=48+d:=by rw[UInt8.toNat_ofNat']; omega
 simp[e]; omega
theorem yW:∀(k u:Nat),∀d∈pd k u,d<=9
 | 0,_,d,h=>by simp[pd]at h
 | k+1,u,d,h=>by
  rcases List.mem_append.1 h with h | h
  ·exact yW k _ d h
  ·simp at h; omega
structure Hr(N:gU):Prop where
 (h56:N.is 76=false) (h77:N.is 72=false) (h78:N.is 73=false) (h79:N.is 74=false) (h93:N.is 88=false) (h94:N.is 89=false) (h95:N.is 90=false) (h33:N.is 39=false)
theorem Ha(hN:Hr aG){b cap u:Nat}{s:Bs}{H:ae}(hb:ug H b cap s)(hbn:b<H.next)(hn1:0<H.next)(G:nd H 0 iC)(hu:u<4294967296)(hf:s.length+10<=cap)(hc:cap<=1000000) :
  aq Tryz.prog aG 76 [kl b cap s.length,.int .u64 (u:Int),.int .i64 10] H fun v H'=>v=kl b cap (s++bV (bR u)).length/\ug H' b cap (s++bV (bR u))/\H.next<=H'.next/\∀c,c<H.next->c≠b->H'.get c=H.get c:=by
 refine ai hN.h56 NW rfl ?_
 by_cases c1:u<100
 ·have c1':(u:Int)<100:=om
  have w1:IntKind.i64.wrap (u:Int)=(u:Int):=aV om om
  simp only[O5,sA,sB,seval,c1',w1]
  refine (li hN.h77 c1).mono ?_
  rintro v _ ⟨rfl,rfl⟩
  have hl:=qv 9 u om
  obtain⟨H2,m2,b2,n2,k2⟩:=qV hb (AR _ (bV (bR u))) (nV u) (by rw[il]; omega) hc
  simp only[sA,sB,seval,m2]
  exact⟨by trivial,b2,om,fun c _ hne=>k2 c hne⟩
 ·have c1':¬(u:Int)<100:=om
  obtain⟨H1,m1,r1,n1,k1⟩:=aP H (gY (List.replicate 24 0)) (n:=24) rfl
  have hz:gY (List.replicate 24 0)=[.int .u8 0,.int .u8 0,.int .u8 0,.int .u8 0,.int .u8 0,.int .u8 0,.int .u8 0,.int .u8 0,.int .u8 0,.int .u8 0,.int .u8 0,.int .u8 0,.int .u8 0,.int .u8 0,.int .u8 0,.int .u8 0,.int .u8 0,.int .u8 0,.int .u8 0,.int .u8 0,.int .u8 0,.int .u8 0,.int .u8 0,.int .u8 0]:=rfl
  rw[hz]at m1
  simp only[O5,sA,sB,seval,c1',m1]
  have G1:nd H1 0 iC:=by unfold nd; rw[k1 0 om]; exact G
  refine (kd hN.h78 hN.h93 hN.h94 hN.h95 (u:=u) om om G1).mono ?_
  rintro v _ ⟨⟨k,rfl,q1,q2,q3⟩,rfl⟩
  have q3:k<10:=Nat.lt_of_not_le fun h=>by have:=Nat.pow_le_pow_right (n:=10) om h; omega
  simp only[sA,sB,seval,oY (show k+1<=24 by omega) om]
  refine (wY hN.h79 r1 (by simp) (show k+1<=24 by omega) q2 om).mono ?_
  rintro v H2 ⟨r2,n2,k2⟩
  have hB:ug H2 H.next 24 (bV (bR u)):=by
   refine⟨_,r2,by rw[gh,pa]; simp,?_⟩
   rw[pT _ _ _ (by simp; omega),nD k u q1 q2]
   have e:gY ((bR u).map (48+·))=dm (bV (bR u)):=by
    rw[<- nD k u q1 q2]; exact wI (yW _ _)
   simp only[gY,List.map_append]at e ⊢
   rw[e]
   have:(bV (bR u)).length=(dm (bV (bR u))).length:=by rw[gL]
   rw[this,List.take_left]
  have hlen:(bV (bR u)).length=k+1:=by rw[il,<- nD k u q1 q2,Ft]
  have hb2:ug H2 b cap s:=by
   refine hb.same ?_
   rw[k2 b om,k1 b om]
  have hs:=I9 hB om
  obtain⟨H3,m3,b3,n3,k3⟩:=qV hb2 hs (nV u) om hc
  rw[hlen]at m3
  simp only[sA,sB,seval,oY (show k+1<=24 by omega) om,m3]
  exact⟨by trivial,b3,om,fun c hc hne=>by rw[k3 c hne,k2 c om,k1 c om]⟩
theorem yg(hN:Hr aG){b cap u:Nat}{s:Bs}{H:ae}(hb:ug H b cap s)(hbn:b<H.next)(hn1:0<H.next)(G:nd H 0 iC)(hu:u<4294967296)(hf:s.length+10<=cap)(hc:cap<=1000000) :
  aq Tryz.prog aG 39 [kl b cap s.length,.int .u64 (u:Int),.int .i64 10] H fun v H'=>v=kl b cap (s++bV (bR u)).length/\ug H' b cap (s++bV (bR u))/\H.next<=H'.next/\∀c,c<H.next->c≠b->H'.get c=H.get c:=by
 refine ai hN.h33 Ov rfl ?_
 simp only[c39,sA,sB,seval]
 refine (Ha hN hb hbn hn1 G hu hf hc).mono ?_
 rintro v H' ⟨rfl,h⟩
 simp only[sA,sB,seval]
 exact⟨by trivial,h⟩
def Ij(t:bh):bh:=match BR.body with
 | .seq a (.seq b (.seq c (.seq d _)))=>.seq a (.seq b (.seq c (.seq d t)))
 | x=>x
def BP:bh:=rC (rC (rC (rC BR.body)))
theorem JF(hN:Hr aG){H0:ae}(hn0:0<H0.next)(G:nd H0 0 iC){sg:Bs}(hsg:sg.length<=1){n:Nat}(hn:n<=9223372036854775808){T:bN}{H:ae}{b:Nat}(hb:ug H b 48 sg)(hb0:H0.next<=b)(hbn:b<H.next)(hE:bg H0.next H0 H)
  (g3:T 3=.int .u64 (n:Int)) (g4:T 4=kl b 48 sg.length) :
  wp (aq Tryz.prog aG) BP (ij BR.res fun v H'=>v=.str (sg++(bV (bR (n / 4294967296))++fo (n % 4294967296)))/\bg H0.next H0 H') T H:=by
 have e1:=rB .u64 .u64 n (b:=32) dD
 simp only[Int.cast_ofNat_Int,Nat.reducePow]at e1
 have e2:=qP (a:=n) (b:=4294967295) om dD
 have e2':n &&& 4294967295=n % 4294967296:=Nat.and_two_pow_sub_one_eq_mod n 32
 rw[e2']at e2
 simp only[Int.cast_ofNat_Int]at e2
 have hl10:(bV (bR (n / 4294967296))).length<=10:=by rw[il]; exact qv 9 _ om
 simp only[BP,rC,BR,sA,sB,seval,g3,g4,e1]
 refine (yg hN hb hbn (by have:=hE.next; omega) (G.ext hn0 hE) (show n / 4294967296<4294967296 by omega) om om).mono ?_
 rintro v H1 ⟨rfl,hb1,hn1,ho1⟩
 have hE1:bg H0.next H0 H1:=⟨by have:=hE.next; omega,fun c hc=>by rw[ho1 c (by have:=hE.next; omega) om,hE.old c hc]⟩
 have hr:n % 4294967296<4294967296:=om
 generalize n % 4294967296=r at *
 generalize bV (bR (n / 4294967296))=w at *
 have hbn1:b<H1.next:=om
 clear hb hbn hE ho1 hn1
 by_cases hr0:r=0
 ·subst hr0
  have hbs:=Aq hb1 (by simp; omega)
  simp only[sA,sB,seval,g3,e2,hbs]
  exact⟨by simp[fo],hE1⟩
 ·have hz:¬((r:Nat):Int)=0:=om
  have ht:fo r=[46]++bV (dB 32 r):=by rw[fo,if_neg hr0]; rfl
  rw[ht]
  have hb2:ug (H1.push (.cells [.int .u8 46] 0 false)) b 48 (sg++w):=hb1.same (aU hbn1)
  obtain⟨H2,m2,b2,n2,k2⟩:=qV hb2 (x:=[46]) (Ku H1 (.int .u8 46)) (by simp) (by simp; omega) om
  have hE2:bg H0.next H0 H2:=⟨by rw[n2,aR]; have:=hE1.next; omega,fun c hc=>by rw[k2 c om,aU (by have:=hE1.next; omega),hE1.old c hc]⟩
  have hbn2:b<H2.next:=by rw[n2,aR]; omega
  simp only[sA,sB,seval,g3,e2,hz,Ap _ _ (x:=.int .u8 46) rfl,m2]
  refine bM (fun q (T:bN) H'=>∃(x:Nat) (acc:Bs),q<=32/\x<4294967296/\2 ^ (32-q) ∣ x/\acc.length+q<=44/\T 5=.int .u64 (x:Int)/\T 4=kl b 48 acc.length/\ug H' b 48 acc/\b<H'.next/\acc++bV (dB q x)=sg++(w++([46]++bV (dB 32 r)))/\bg H0.next H0 H') 32
   ⟨r,sg++w++[46],Nat.le_refl _,hr,by simp,by simp; omega,by simp only[sA,sB,seval],by simp only[sA,sB,seval],b2,hbn2,by simp,hE2⟩ ?_
  clear g3 g4 hb1 hb2 b2 m2 n2 k2 hE1 hE2 hbn1 hbn2 T H H1 H2 e1 e2 hz
  rintro q T H1 ⟨x,acc,hq,hx,hdv,hal,g5,g4,hb1,hbn1,hA,hE1⟩
  by_cases hx0:x=0
  ·subst hx0
   have hf:dB q 0=[]:=by cases q <;> simp[dB]
   rw[hf]at hA
   simp only[bV,List.map_nil,List.append_nil]at hA
   have hbs:=Aq hb1 om
   simp only[sA,sB,seval,g4,g5,hbs,Int.cast_ofNat_Int]
   exact⟨by rw[hA]; rfl,hE1⟩
  ·obtain⟨k',rfl,hf,hdv'⟩:=tk hq hx hdv hx0
   have hz:¬((x:Nat):Int)=0:=om
   have w1:IntKind.u64.wrap ((x:Int)*10)=((x*10:Nat):Int):=by rw[HM om om]; omega
   have e1:=rB .u64 .u64 (x*10) (b:=32) dD
   simp only[Int.cast_ofNat_Int,Nat.reducePow]at e1
   have e2:=qP (a:=x*10) (b:=4294967295) om dD
   have e2':x*10 &&& 4294967295=x*10 % 4294967296:=Nat.and_two_pow_sub_one_eq_mod (x*10) 32
   rw[e2']at e2
   simp only[Int.cast_ofNat_Int]at e2
   have w4:IntKind.u8.wrap ((x*10 / 4294967296:Nat):Int)=((x*10 / 4294967296:Nat):Int):=dN om om
   have w5:IntKind.u8.wrap (48+((x*10 / 4294967296:Nat):Int))=((48+x*10 / 4294967296:Nat):Int):=by rw[dN om om]; omega
   have hd:x*10 / 4294967296<10:=om
   have hu:(UInt8.ofNat (48+x*10 / 4294967296)).toNat=48+x*10 / 4294967296:=by rw[UInt8.toNat_ofNat']; omega
   have hb2:ug (H1.push (.cells [.int .u8 ((48+x*10 / 4294967296:Nat):Int)] 0 false)) b 48 acc:=hb1.same (aU hbn1)
   have hsrc:=Ku H1 (.int .u8 ((48+x*10 / 4294967296:Nat):Int))
   have hby:[af.int .u8 ((48+x*10 / 4294967296:Nat):Int)]=dm [UInt8.ofNat (48+x*10 / 4294967296)]:=by simp only[dm,List.map_cons,List.map_nil,hu]
   obtain⟨H2,m2,b2,n2,k2⟩:=qV hb2 (x:=[UInt8.ofNat (48+x*10 / 4294967296)]) (by rw[<- hby]; exact hsrc) (by simp) (by simp; omega) om
   have hE2:bg H0.next H0 H2:=⟨by rw[n2,aR]; have:=hE1.next; omega,fun c hc=>by rw[k2 c om,aU (by have:=hE1.next; omega),hE1.old c hc]⟩
   simp only[sA,sB,seval,g4,g5,hz,w1,e1,e2,w4,w5,Ap _ _ (x:=.int .u8 ((48+x*10 / 4294967296:Nat):Int)) rfl,m2]
   refine⟨k',om,x*10 % 4294967296,_,om,om,hdv',?_,by trivial,rfl,b2,by rw[n2,aR]; omega,?_,hE2⟩
   ·simp; omega
   ·refine Eq.trans ?_ hA
    rw[hf]; simp[bV]
theorem iM(hN:Hr aG)(h9:aG.is 17=false){n:Int}(h1:-9223372036854775808<=n)(h2:n<=9223372036854775807){H:ae}(hn:0<H.next)(G:nd H 0 iC) :
  aq Tryz.prog aG 17 [.int .i64 n] H fun v H'=>v=.str (al n)/\bg H.next H H':=by
 refine ai h9 OL rfl ?_
 have hsz:n.natAbs<=9223372036854775808:=om
 obtain⟨H1,m1,b1,n1,k1⟩:=GM (H:=H) (.int .u8 0) 48 om
 simp only[Int.cast_ofNat_Int]at m1
 have hE1:bg H.next H H1:=bg.of_new n1 k1 rL
 by_cases hneg:n<0
 ·have w1:IntKind.u64.wrap n=n+18446744073709551616:=by rw[IntKind.wrap_u64]; omega
  have w2:IntKind.u64.wrap (0-(n+18446744073709551616))=(n.natAbs:Int):=by rw[IntKind.wrap_u64]; omega
  have hd:al n=[45]++(bV (bR (n.natAbs / 4294967296))++fo (n.natAbs % 4294967296)):=by rw[al,if_pos hneg]
  rw[hd]
  have hb2:ug (H1.push (.cells [.int .u8 45] 0 false)) H.next 48 []:=b1.same (aU om)
  obtain⟨H2,m2,b2,n2,k2⟩:=qV hb2 (x:=[45]) (Ku H1 (.int .u8 45)) (by simp) (by simp) om
  simp only[Pw]at m2
  have hE2:bg H.next H H2:=⟨by rw[n2,aR]; omega,fun c hc=>by rw[k2 c om,aU om,hE1.old c hc]⟩
  have t:=fun (T:bN) g3 g4=>JF hN (H0:=H) hn G (sg:=[45]) (by simp) (n:=n.natAbs) hsz (T:=T) (H:=H2) (b:=H.next) b2 rL (by rw[n2,aR]; omega) hE2 g3 g4
  show wp _ (Ij BP) (ij BR.res _) _ _
  simp only[Ij,BR,sA,sB,seval,hneg,w1,Ex,w2,m1,Ap _ _ (x:=.int .u8 45) rfl,m2]
  refine t _ ?_ ?_ <;> simp only[sA,sB,seval] <;> rfl
 ·have w1:IntKind.u64.wrap n=(n.natAbs:Int):=by rw[IntKind.wrap_u64]; omega
  have hd:al n=[]++(bV (bR (n.natAbs / 4294967296))++fo (n.natAbs % 4294967296)):=by rw[al,if_neg hneg]
  rw[hd]
  have t:=fun (T:bN) g3 g4=>JF hN (H0:=H) hn G (sg:=[]) (by simp) (n:=n.natAbs) hsz (T:=T) (H:=H1) (b:=H.next) b1 rL om hE1 g3 g4
  show wp _ (Ij BP) (ij BR.res _) _ _
  simp only[Ij,BR,sA,sB,seval,hneg,w1,m1]
  refine t _ ?_ ?_ <;> simp only[sA,sB,seval] <;> rfl
open Go.Abs Go.Abs.S
def sub(s:Bs)(i e:Nat):Bs:=(s.drop i).take (e-i)
def fL(e line:Nat):List af:=[.int .i64 (e:Int),.int .i64 (line:Int)]
open Go.Abs Go.Abs.S
theorem eV(e l:Nat):(fL e l).all af.one=true:=rfl
open Go.Abs Go.Abs.S
end Go.Proofs.Wo
namespace Go.Proofs.Wo
open Go.Abs Go.Abs.S
structure Vc where
 x:Int
 y:Int
 z:Int
structure Mt where
 k:Nat
 c:Vc
 sh:Bs
 tx:Bs
structure Rd where
 c:Vc
 r:Int
 m:Int
structure Us where
 n:Bs
 p:Vc
 m:Int
structure Sc where
 w:Int
 h:Int
 sm:Int
 bo:Int
 seed:Nat
 eye:Vc
 at_:Vc
 up:Vc
 wide:Int
 sky:Vc
 ms:List Mt
 bs:List Rd
 us:List Us
def bU:Sc:=⟨0,0,1,2,0,⟨0,0,-17179869184⟩,⟨0,0,0⟩,⟨0,4294967296,0⟩,4294967296,⟨0,0,0⟩,[],[],[]⟩
def lT(n lo hi:Int):Bool:=decide (lo<=n)&&decide (n<=hi)
def vE(v:Vc)(lo hi:Int):Bool:=lT v.x lo hi&&(lT v.y lo hi&&lT v.z lo hi)
def gZ(v:Vc):Bool:=vE v (-42949672960000) 42949672960000
def jV(b:UInt8):Bool:=((decide (97<=b.toNat)&&decide (b.toNat<=122))||(decide (65<=b.toNat)&&decide (b.toNat<=90)))||((decide (48<=b.toNat)&&decide (b.toNat<=57))||(decide (b.toNat=95)||(decide (b.toNat=45)||decide (b.toNat=46))))
def eS(s:Bs):Bool:=decide (1<=s.length)&&(decide (s.length<=40)&&s.all jV)
def Mh(v:Vc):Bool:=decide (v.x=0)&&(decide (v.y=0)&&decide (v.z=0))
def gF(m:Mt):Bool:=
 if m.k=1∨m.k=2 then decide (m.sh=[])&&(decide (m.tx=[])&&vE m.c 0 4294967296)
 else if m.k=3 then decide (m.sh=[])&&(decide (m.tx=[])&&vE m.c 0 274877906944)
 else if m.k=4 then Mh m.c&&(eS m.sh&&(decide (m.tx=[])||eS m.tx))
 else false
def lj(b:Rd):Bool:=gZ b.c&&(decide (0<b.r)&&decide (b.r<=42949672960000))
def jk(u:Us):Bool:=eS u.n&&gZ u.p
def lG(n:Nat)(m:Int):Bool:=decide (0<=m)&&decide (m<n)
def rP(s:Sc):Bool:=s.bs.all (fun b=>lG s.ms.length b.m)&&s.us.all (fun u=>lG s.ms.length u.m)
def kV(n:Int):Bool:=decide (0<n)&&decide (n<=429496729600)
def oE(s:Sc):Bool:=lT s.w 1 1024&&(lT s.h 1 1024&&(lT s.sm 1 64&&(lT s.bo 0 8&&(gZ s.eye&&(gZ s.at_&&(gZ s.up&&(kV s.wide&&(vE s.sky 0 274877906944&&(decide (s.ms.length<=64)&&(decide (s.bs.length<=256)&&decide (s.us.length<=16)))))))))))
def fG(s:Sc):Bool:=oE s&&(s.ms.all gF&&(s.bs.all lj&&(s.us.all jk&&rP s)))
def fX(s:Bs):Option Int:=match s with
 | 45::r=>(eo r).map fun (n:Nat)=>-(n:Int)
 | s=>(eo s).map fun (n:Nat)=>(n:Int)
def gw(l:List Bs):Option Vc:=match l with
 | [a,b,c]=>match fX a with
  | none=>none
  | some x=>match fX b with
   | none=>none
   | some y=>match fX c with
    | none=>none
    | some z=>some ⟨x,y,z⟩
 | _=>none
def fE(s:Bs):Option Nat:=if s≠[]/\s.all eF=true then some (dg s) else none
def fj(lo hi:Nat)(s:Bs):Option Int:=match fE s with
 | some n=>if lo<=n/\n<=hi then some (n:Int) else none
 | none=>none
def jo(s:Bs):Option Int:=fj 0 1073741824 s
def di:List Bs:=[[115,105,122,101],[115,97,109,112,108,101,115],[98,111,117,110,99,101,115],[115,101,101,100],[101,121,101],[97,116],[117,112],[119,105,100,101],[115,107,121]]
def dA:List Bs:=[[100,105,102,102,117,115,101],[109,105,114,114,111,114],[103,108,111,119],[115,104,97,100,101,114],[98,97,108,108],[109,101,115,104]]
def j9(l:List Bs):Option Vc:=match gw l with
 | some v=>if gZ v=true then some v else none
 | none=>none
def ct(i:Nat)(s:Sc)(l:List Bs):Option Sc:=match i with
 | 0=>match l with
  | [a,b]=>match fj 1 1024 a with
   | none=>none
   | some x=>match fj 1 1024 b with
    | none=>none
    | some y=>some { s with w:=x,h:=y }
  | _=>none
 | 1=>match l with
  | [a]=>(fj 1 64 a).map fun x=>{ s with sm:=x }
  | _=>none
 | 2=>match l with
  | [a]=>(fj 0 8 a).map fun x=>{ s with bo:=x }
  | _=>none
 | 3=>match l with
  | [a]=>match fE a with
   | some n=>if n<18446744073709551616 then some { s with seed:=n } else none
   | none=>none
  | _=>none
 | 4=>(j9 l).map fun v=>{ s with eye:=v }
 | 5=>(j9 l).map fun v=>{ s with at_:=v }
 | 6=>(j9 l).map fun v=>{ s with up:=v }
 | 7=>match l with
  | [a]=>match fX a with
   | some n=>if kV n=true then some { s with wide:=n } else none
   | none=>none
  | _=>none
 | _=>match gw l with
  | some v=>if vE v 0 274877906944=true then some { s with sky:=v } else none
  | none=>none
def kr(s:Sc)(m:Mt):Option Sc:=if gF m=true/\s.ms.length+1<=64 then some { s with ms:=s.ms++[m] } else none
def Ky(l:List Bs):Mt:=match l with
 | [a]=>⟨4,⟨0,0,0⟩,a,[]⟩
 | [a,b]=>⟨4,⟨0,0,0⟩,a,b⟩
 | _=>⟨4,⟨0,0,0⟩,[],[]⟩
def kY(l:List Bs):Option Rd:=match l with
 | [a,b,c,r,m]=>match gw [a,b,c] with
  | none=>none
  | some v=>match fX r with
   | none=>none
   | some r=>match jo m with
    | none=>none
    | some m=>some ⟨v,r,m⟩
 | _=>none
def ui(l:List Bs):Option Us:=match l with
 | [n,a,b,c,m]=>match gw [a,b,c] with
  | none=>none
  | some v=>match jo m with
   | none=>none
   | some m=>some ⟨n,v,m⟩
 | _=>none
def dj(i:Nat)(s:Sc)(l:List Bs):Option Sc:=match i with
 | 0=>(gw l).bind fun v=>kr s ⟨1,v,[],[]⟩
 | 1=>(gw l).bind fun v=>kr s ⟨2,v,[],[]⟩
 | 2=>(gw l).bind fun v=>kr s ⟨3,v,[],[]⟩
 | 3=>kr s (Ky l)
 | 4=>(kY l).bind fun b=>if lj b=true/\s.bs.length+1<=256 then some { s with bs:=s.bs++[b] } else none
 | _=>(ui l).bind fun u=>if jk u=true/\s.us.length+1<=16 then some { s with us:=s.us++[u] } else none
abbrev PS:=Sc×List Nat
abbrev Ns:=Nat×Nat
def tE(s:PS)(ws:List Bs):Option PS:=match ws with
 | []=>some s
 | k::l=>
  let i:=di.idxOf k
  if i<9 then (if i∈s.2 then none else (ct i s.1 l).map fun c=>(c,i::s.2))
  else
   let j:=dA.idxOf k
   if j<6 then (dj j s.1 l).map fun c=>(c,s.2) else none
def bk(c:UInt8):Bool:=decide (c.toNat=9)||(decide (c.toNat=13)||decide (c.toNat=32))
def fl:Bs->Bs->List Bs
 | cur,[]=>if cur=[] then [] else [cur]
 | cur,c::r=>if bk c=true then (if cur=[] then fl [] r else cur::fl [] r) else fl (cur++[c]) r
def nE(c:UInt8):Bool:=!decide (c.toNat=35)
def gv(l:Bs):List Bs:=fl [] (l.takeWhile nE)
def sp:Bs->Bs->List Bs
 | cur,[]=>[cur]
 | cur,c::r=>if c.toNat=10 then cur::sp [] r else sp (cur++[c]) r
def oG:PS->Nat->List Bs->Except Nat PS
 | s,_,[]=>.ok s
 | s,n,l::r=>match tE s (gv l) with
  | none=>.error n
  | some s'=>oG s' (n+1) r
def uX(s:PS):Except Ns Sc:=if 0∈s.2/\rP s.1=true then .ok s.1 else .error (130,0)
def bj(t:Bs):Except Ns Sc:=
 if 16384<t.length then .error (3,0)
 else match oG (bU,[]) 1 (sp [] t) with
  | .error n=>.error (130,n)
  | .ok s=>uX s
def bZ:List Bs->Bs
 | []=>[]
 | [a]=>a
 | a::l=>a++32::bZ l
def aY(l:List Bs):Bs:=bZ l++[10]
def dk(v:Vc):Bs:=al v.x++32::(al v.y++32::al v.z)
def cF(n:Int):Bs:=bV (bR n.toNat)
def ef(i:Nat):Bs:=di.getD i []
def eC(i:Nat):Bs:=dA.getD i []
def dQ(m:Mt):Bs:=match m.k with
 | 1=>aY [eC 0,dk m.c]
 | 2=>aY [eC 1,dk m.c]
 | 3=>aY [eC 2,dk m.c]
 | 4=>if m.tx=[] then aY [eC 3,m.sh] else aY [eC 3,m.sh,m.tx]
 | _=>[]
def fq(b:Rd):Bs:=aY [eC 4,dk b.c,al b.r,cF b.m]
def iK(u:Us):Bs:=aY [eC 5,u.n,dk u.p,cF u.m]
def ga(s:Sc):Bs:=aY [ef 0,cF s.w,cF s.h]++(aY [ef 1,cF s.sm]++(aY [ef 2,cF s.bo]++(aY [ef 3,bV (bR s.seed)]++(aY [ef 4,dk s.eye]++(aY [ef 5,dk s.at_]++(aY [ef 6,dk s.up]++(aY [ef 7,al s.wide]++aY [ef 8,dk s.sky])))))))
def cX(s:Sc):Bs:=ga s++(s.ms.flatMap dQ++(s.bs.flatMap fq++s.us.flatMap iK))
def eA(s:Sc):Bs×Nat:=if fG s=true then (if 16384<(cX s).length then ([],3) else (cX s,0)) else ([],130)
open Go.Abs Go.Abs.S
theorem im{l:List Nat}(h:∀d∈l,d<=9):∀c∈bV l,eF c=true:=by
 intro c hc
 obtain⟨d,hd,rfl⟩:=List.mem_map.1 hc
 have:=h d hd
 have e:(UInt8.ofNat (48+d)).toNat=48+d:=by rw[UInt8.toNat_ofNat']; omega
 simp only[eF,e,Pu,PE]; omega
theorem mP{l:List Nat}(h:∀d∈l,d<=9):iZ (bV l)=l:=by
 simp only[iZ,bV,List.map_map]
 conv=>rhs; rw[<- List.map_id l]
 apply List.map_congr_left
 intro d hd
 have:=h d hd
 have e:(UInt8.ofNat (48+d)).toNat=48+d:=by rw[UInt8.toNat_ofNat']; omega
 simp only[Function.comp_apply,dv,e,id]; omega
theorem ni(s:Bs):dg s=cW (iZ s):=by
 simp only[dg,cW,iZ,List.foldl_map]
theorem iI{p:UInt8->Bool}{l r:Bs}(h:∀c∈l,p c=true)(hr:r=[]∨∃c t,r=c::t/\p c=false):(l++r).takeWhile p=l:=by
 rw[List.takeWhile_append_of_pos h]
 rcases hr with rfl | ⟨c,t,rfl,hc⟩
 ·simp
 ·rw[List.takeWhile_cons_of_neg (by simp[hc])]; simp
theorem xn{p:UInt8->Bool}{l r:Bs}(h:∀c∈l,p c=true)(hr:r=[]∨∃c t,r=c::t/\p c=false):(l++r).dropWhile p=r:=by
 rw[List.dropWhile_append_of_pos h]
 rcases hr with rfl | ⟨c,t,rfl,hc⟩
 ·simp
 ·rw[List.dropWhile_cons_of_neg (by simp[hc])]
theorem Ln:eF 46=false:=by decide
theorem BL:rG 46=false:=by decide
theorem qQ{ds:List Nat}(hd:∀d∈ds,d<=9)(hne:ds≠[]):∃c t,bV ds=c::t/\eF c=true:=by
 cases ds with
 | nil=>exact absurd rfl hne
 | cons d ds=>exact⟨_,_,rfl,im hd _ (by simp[bV])⟩
theorem yL{ds es:List Nat}(hd:∀d∈ds,d<=9)(he:∀d∈es,d<=9)(h1:ds≠[])(h2:es≠[])(hv:cW ds<2147483648) :
  eo (bV ds++46::bV es)=some (cW ds*2 ^ 32+iW es):=by
 have hA:=im hd
 have hB:=im he
 have hr:(46::bV es:Bs)=[]∨∃c t,(46::bV es:Bs)=c::t/\eF c=false:=.inr ⟨46,bV es,rfl,Ln⟩
 have hw:bW (bV ds++46::bV es)=bV ds:=iI (fun c hc=>kJ (hA c hc)) (.inr ⟨46,bV es,rfl,BL⟩)
 have hb:behind (bV ds++46::bV es)=bV es:=by
  rw[behind,xn (fun c hc=>kJ (hA c hc)) (.inr ⟨46,bV es,rfl,BL⟩)]; rfl
 have hrun:cH eF (bV ds++46::bV es) 0=(bV ds).length:=by rw[cH,List.drop_zero,iI hA hr]; omega
 have hlen:(bV ds++46::bV es).length=(bV ds).length+1+(bV es).length:=by simp; omega
 have hdr:(bV ds++46::bV es).drop ((bV ds).length+1)=bV es:=by simp[List.drop_append]
 have hrun2:cH eF (bV ds++46::bV es) ((bV ds).length+1)=(bV ds++46::bV es).length:=by
  have:=iI (l:=bV es) (r:=[]) hB (.inl rfl)
  rw[List.append_nil]at this
  rw[cH,hdr,this,hlen]
 have hat:(bV ds++46::bV es)[(bV ds).length]?=some 46:=by simp
 have hdl:0<(bV ds).length:=by rw[il]; exact List.length_pos_iff.2 h1
 have hel:0<(bV es).length:=by rw[il]; exact List.length_pos_iff.2 h2
 have hnum:mA (bV ds++46::bV es) 0=(bV ds++46::bV es).length:=by
  rw[mA,hrun,if_neg (by rw[hat]; rintro (h | h); omega; exact h rfl),hrun2,if_pos om]
 have hnm:j3 (bV ds++46::bV es)=true:=by
  obtain⟨c,t,hct,hcd⟩:=qQ hd h1
  unfold j3
  rw[hnum,hct]
  simp[hcd]
 rw[eo,hw,hb,ni,mP hd,mP he,if_pos ⟨hnm,hv⟩]
theorem yK{ds:List Nat}(hd:∀d∈ds,d<=9)(h1:ds≠[])(hv:cW ds<2147483648):eo (bV ds)=some (cW ds*2 ^ 32):=by
 have hA:=im hd
 have ha:∀{p:UInt8->Bool},(∀c∈bV ds,p c=true)->(bV ds).takeWhile p=bV ds:=fun h=>by
  have:=iI (r:=[]) h (.inl rfl)
  rwa [List.append_nil]at this
 have hw:bW (bV ds)=bV ds:=ha fun c hc=>kJ (hA c hc)
 have hb:behind (bV ds)=[]:=by
  have:=xn (r:=[]) (fun c hc=>kJ (hA c hc)) (.inl rfl)
  rw[List.append_nil]at this
  rw[behind,this]; rfl
 have hrun:cH eF (bV ds) 0=(bV ds).length:=by rw[cH,List.drop_zero,ha hA]; omega
 have hnum:mA (bV ds) 0=(bV ds).length:=by
  rw[mA,hrun,if_pos (.inr (by simp))]
 have hnm:j3 (bV ds)=true:=by
  obtain⟨c,t,hct,hcd⟩:=qQ hd h1
  unfold j3
  rw[hnum,hct]
  simp[hcd]
 rw[eo,hw,hb,ni,mP hd,if_pos ⟨hnm,hv⟩]
 have:iW (iZ [])=0:=by decide
 rw[this,Nat.add_zero]
theorem tn(k:Nat):∀r,r<4294967296->∀d∈dB k r,d<=9:=by
 induction k with
 | zero=>intro r _ d h; simp[dB]at h
 | succ k ih=>
  intro r hr d h
  rw[dB]at h
  split at h
  ·simp at h
  ·rcases List.mem_cons.1 h with rfl | h
   ·omega
   ·exact ih _ om d h
theorem Dj(k:Nat):∀r,k<=32->r<4294967296->2 ^ (32-k) ∣ r->cW (dB k r)*4294967296=r*10 ^ (dB k r).length:=by
 induction k with
 | zero=>
  intro r _ hr hd
  obtain⟨c,hc⟩:=hd
  have:c=0:=by
   rcases Nat.eq_zero_or_pos c with h | h
   ·exact h
   ·exfalso
    have:2 ^ (32-0)*1<=2 ^ (32-0)*c:=Nat.mul_le_mul_left _ h
    simp only[Nat.sub_zero]at this hc
    omega
  subst this
  simp[dB,hc,cW]
 | succ k ih=>
  intro r hk hr hd
  by_cases h0:r=0
  ·subst h0; simp[dB,cW]
  ·obtain⟨k',hk',hf,hd'⟩:=tk hk hr hd h0
   obtain rfl:k=k':=om
   have h1:=ih (r*10 % 4294967296) om om hd'
   rw[hf,ky,Pv,Nat.pow_succ,Nat.add_mul,h1]
   generalize 10 ^ (dB k (r*10 % 4294967296)).length=p
   have h2:=Nat.div_add_mod (r*10) 4294967296
   generalize r*10 / 4294967296=q at *
   generalize r*10 % 4294967296=t at *
   have e1:q*p*4294967296=4294967296*q*p:=by rw[Nat.mul_comm (q*p),<- Nat.mul_assoc]
   have e2:r*(p*10)=r*10*p:=by rw[Nat.mul_comm p,<- Nat.mul_assoc]
   rw[e1,e2,<- h2,Nat.add_mul]
theorem zP{r:Nat}(hr:r<4294967296):iW (dB 32 r)=r:=by
 have h:=Dj 32 r rL hr (by simp)
 have hp:0<10 ^ (dB 32 r).length:=Nat.pos_of_ne_zero (by simp)
 rw[iW,Nat.mul_comm,show (2:Nat) ^ 32=4294967296 by rfl,h,Nat.mul_div_cancel _ hp]
theorem va(n:Nat):bR n≠[]:=fun h=>nV n (by rw[h]; rfl)
theorem oA(m:Nat):al (m:Int)=bV (bR (m / 4294967296))++fo (m % 4294967296):=by
 rw[al,if_neg om]; rfl
theorem sx{m:Nat}(hm:m<9223372036854775808):eo (al (m:Int))=some m:=by
 have hv:cW (bR (m / 4294967296))<2147483648:=by rw[mQ]; omega
 have hdm:=Nat.div_add_mod m 4294967296
 rw[oA]
 by_cases hr:m % 4294967296=0
 ·rw[fo,if_pos hr,List.append_nil,yK (gI _) (va _) hv,mQ]
  congr 1; omega
 ·have hr':m % 4294967296<4294967296:=om
  have hne:dB 32 (m % 4294967296)≠[]:=by rw[dB,if_neg hr]; simp
  rw[fo,if_neg hr,yL (gI _) (tn 32 _ hr') (va _) hne hv,mQ,zP hr']
  congr 1; omega
open Go.Abs Go.Abs.S
theorem Bm{s:Bs}(h:∀r,s≠45::r):fX s=(eo s).map fun (n:Nat)=>(n:Int):=by
 unfold fX
 split
 ·rename_i r; exact absurd rfl (h r)
 ·rfl
theorem uF(m:Nat):∃c t,al (m:Int)=c::t/\eF c=true:=by
 obtain⟨c,t,h,hd⟩:=qQ (gI (m / 4294967296)) (va _)
 exact⟨c,t++fo (m % 4294967296),by rw[oA,h]; rfl,hd⟩
theorem jT{n:Int}(h1:-9223372036854775808<n)(h2:n<9223372036854775808):fX (al n)=some n:=by
 rcases Int.lt_or_le n 0 with h | h
 ·obtain⟨m,rfl⟩:∃m:Nat,n=-(m:Int):=⟨n.natAbs,om⟩
  have e:al (-(m:Int))=45::al (m:Int):=by
   rw[al,al,if_pos h,if_neg om,show (-(m:Int)).natAbs=m by omega,show ((m:Int)).natAbs=m by omega]; rfl
  rw[e]
  simp only[fX,sx (m:=m) om,Option.map_some]
 ·obtain⟨m,rfl⟩:∃m:Nat,n=(m:Int):=⟨n.toNat,om⟩
  obtain⟨c,t,e,hd⟩:=uF m
  rw[Bm (fun r hr=>by rw[e]at hr; simp only[List.cons.injEq]at hr; rw[hr.1]at hd; exact absurd hd dD),sx om]; rfl
theorem qA(n:Nat):fE (bV (bR n))=some n:=by
 have h1:bV (bR n)≠[]:=nV n
 have h2:(bV (bR n)).all eF=true:=List.all_eq_true.2 (im (gI n))
 rw[fE,if_pos ⟨h1,h2⟩,ni,mP (gI n),mQ]
theorem i7{lo hi:Nat}{n:Int}(h1:(lo:Int)<=n)(h2:n<=(hi:Int)):fj lo hi (cF n)=some n:=by
 obtain⟨m,rfl⟩:∃m:Nat,n=(m:Int):=⟨n.toNat,om⟩
 rw[fj,cF,Int.toNat_natCast,qA]
 simp only
 rw[if_pos om]
theorem Ed{v:Vc}(h:∀n,n=v.x∨n=v.y∨n=v.z->-9223372036854775808<n/\n<9223372036854775808):gw [al v.x,al v.y,al v.z]=some v:=by
 have hx:=h v.x (.inl rfl)
 have hy:=h v.y (.inr (.inl rfl))
 have hz:=h v.z (.inr (.inr rfl))
 simp only[gw,jT hx.1 hx.2,jT hy.1 hy.2,jT hz.1 hz.2]
def yy(c:UInt8):Bool:=!bk c&&(!decide (c.toNat=35)&&!decide (c.toNat=10))
def Ay(s:Bs):Prop:=s≠[]/\∀c∈s,yy c=true
theorem Ea{c:UInt8}(h:yy c=true):bk c=false:=by simp only[yy,Pu,Bool.not_eq_true']at h; exact h.1
theorem AC{c:UInt8}(h:yy c=true):nE c=true:=by simp only[yy,Pu]at h; exact h.2.1
theorem DZ{c:UInt8}(h:yy c=true):c.toNat≠10:=by simp only[yy,Pu,Bool.not_eq_true',decide_eq_false_iff_not]at h; exact h.2.2
theorem u7{c:UInt8}(h:eF c=true):yy c=true:=by
 simp only[eF,Pu,PE]at h
 simp only[yy,bk,Pu,Bool.not_eq_true',Bool.or_eq_false_iff,decide_eq_false_iff_not]
 omega
theorem FF{c:UInt8}(h:jV c=true):yy c=true:=by
 simp only[jV,Bool.or_eq_true,Pu,PE]at h
 simp only[yy,bk,Pu,Bool.not_eq_true',Bool.or_eq_false_iff,decide_eq_false_iff_not]
 omega
theorem Cg(n:Nat):Ay (bV (bR n)):=⟨nV n,fun c hc=>u7 (im (gI n) c hc)⟩
theorem j2(n:Int):Ay (cF n):=Cg _
theorem cR(n:Int):Ay (al n):=by
 have h45:yy 45=true:=by decide
 have h46:yy 46=true:=by decide
 refine⟨fun h=>?_,fun c hc=>?_⟩
 ·rw[al]at h
  have:=(List.append_eq_nil_iff.1 (List.append_eq_nil_iff.1 h).2).1
  exact nV _ this
 ·rw[al]at hc
  rcases List.mem_append.1 hc with hc | hc
  ·split at hc
   ·rw[List.mem_singleton.1 hc]; exact h45
   ·simp at hc
  rcases List.mem_append.1 hc with hc | hc
  ·exact u7 (im (gI _) c hc)
  ·rw[fo]at hc
   split at hc
   ·simp at hc
   ·rcases List.mem_cons.1 hc with rfl | hc
    ·exact h46
    ·exact u7 (im (tn 32 _ om) c hc)
theorem mD{s:Bs}(h:eS s=true):Ay s:=by
 simp only[eS,Pu,PE,List.all_eq_true]at h
 refine⟨fun e=>?_,fun c hc=>FF (h.2.2 c hc)⟩
 subst e; simp at h
theorem uT:∀{s:Bs} (cur r:Bs),(∀c∈s,bk c=false)->fl cur (s++r)=fl (cur++s) r
 | [],cur,r,_=>by rw[List.append_nil]; rfl
 | c::s,cur,r,h=>by
  show fl cur (c::(s++r))=_
  rw[fl,if_neg (by rw[h c (by simp)]; simp),uT _ _ (fun c hc=>h c (by simp[hc]))]
  simp
theorem Lg{s:Bs}(hs:Ay s):fl [] s=[s]:=by
 have:=uT (s:=s) [] [] (fun c hc=>Ea (hs.2 c hc))
 rw[List.append_nil,List.nil_append]at this
 rw[this,fl,if_neg hs.1]
theorem BF:∀{l:List Bs},(∀s∈l,Ay s)->fl [] (bZ l)=l
 | [],_=>rfl
 | [a],h=>Lg (h a (by simp))
 | a::b::l,h=>by
  have ha:=h a (by simp)
  show fl [] (a++32::bZ (b::l))=_
  rw[uT _ _ (fun c hc=>Ea (ha.2 c hc)),List.nil_append,fl,if_pos dD,if_neg ha.1,BF (fun s hs=>h s (by simp[hs]))]
theorem uP:∀{l:List Bs},(∀s∈l,Ay s)->∀c∈bZ l,nE c=true/\c.toNat≠10
 | [],_,c,hc=>by simp[bZ]at hc
 | [a],h,c,hc=>⟨AC ((h a (by simp)).2 c hc),DZ ((h a (by simp)).2 c hc)⟩
 | a::b::l,h,c,hc=>by
  have hc':c∈a++32::bZ (b::l):=hc
  rcases List.mem_append.1 hc' with hc | hc
  ·exact⟨AC ((h a (by simp)).2 c hc),DZ ((h a (by simp)).2 c hc)⟩
  rcases List.mem_cons.1 hc with rfl | hc
  ·exact⟨by decide,by decide⟩
  ·exact uP (fun s hs=>h s (by simp[hs])) c hc
theorem yx{l:List Bs}(h:∀s∈l,Ay s):gv (bZ l)=l:=by
 rw[gv]
 have:(bZ l).takeWhile nE=bZ l:=by
  have:=iI (l:=bZ l) (r:=[]) (fun c hc=>(uP h c hc).1) (.inl rfl)
  rwa [List.append_nil]at this
 rw[this,BF h]
theorem AU:∀(s cur r:Bs),(∀c∈s,c.toNat≠10)->sp cur (s++10::r)=(cur++s)::sp [] r
 | [],cur,r,_=>by
  show sp cur (10::r)=_
  rw[sp,if_pos dD,List.append_nil]
 | c::s,cur,r,h=>by
  show sp cur (c::(s++10::r))=_
  rw[sp,if_neg (h c (by simp)),AU s _ r (fun c hc=>h c (by simp[hc]))]
  simp
def oF(s:PS)(n:Nat)(t:Bs):Except Nat PS:=oG s n (sp [] t)
theorem IM(s:PS)(n:Nat):oF s n []=.ok s:=rfl
theorem iV{s s':PS}{n:Nat}{ws:List Bs}{r:Bs}(h:∀w∈ws,Ay w)(hd:tE s ws=some s'):oF s n (aY ws++r)=oF s' (n+1) r:=by
 have e:aY ws++r=bZ ws++10::r:=by rw[aY,PG]; rfl
 rw[oF,e,AU _ _ _ (fun c hc=>(uP h c hc).2),List.nil_append,oG,yx h,hd]
 rfl
theorem Kq:∀i,i<9->Ay (ef i):=by
 have:∀i:Fin 9,(ef i.1≠[]/\∀c∈ef i.1,yy c=true):=by decide
 exact fun i hi=>this ⟨i,hi⟩
theorem mG:∀i,i<6->Ay (eC i):=by
 have:∀i:Fin 6,(eC i.1≠[]/\∀c∈eC i.1,yy c=true):=by decide
 exact fun i hi=>this ⟨i,hi⟩
theorem Lo(i:Nat)(hi:i<9)(s:PS)(l:List Bs)(hn:i∉s.2):tE s (ef i::l)=(ct i s.1 l).map fun c=>(c,i::s.2):=by
 have h:di.idxOf (ef i)=i:=by
  have:∀i:Fin 9,di.idxOf (ef i.1)=i.1:=by decide
  exact this ⟨i,hi⟩
 simp only[tE,h,if_pos hi,if_neg hn]
theorem mO(i:Nat)(hi:i<6)(s:PS)(l:List Bs):tE s (eC i::l)=(dj i s.1 l).map fun c=>(c,s.2):=by
 have h:¬di.idxOf (eC i)<9/\dA.idxOf (eC i)=i:=by
  have:∀i:Fin 6,¬di.idxOf (eC i.1)<9/\dA.idxOf (eC i.1)=i.1:=by decide
  exact this ⟨i,hi⟩
 simp only[tE,h.2,if_neg h.1,if_pos hi]
theorem C9(a b c:Bs)(v:Vc):bZ [a,dk v,b,c]=bZ [a,al v.x,al v.y,al v.z,b,c]:=by
 simp only[bZ,dk,PG,PM]
theorem C8(a n c:Bs)(v:Vc):bZ [a,n,dk v,c]=bZ [a,n,al v.x,al v.y,al v.z,c]:=by
 simp only[bZ,dk,PG,PM]
open Go.Abs Go.Abs.S
theorem lF{n lo hi:Int}:lT n lo hi=true↔lo<=n/\n<=hi:=by simp only[lT,Pu,PE]
theorem Bw{v:Vc}{lo hi:Int}:vE v lo hi=true↔(lo<=v.x/\v.x<=hi)/\(lo<=v.y/\v.y<=hi)/\(lo<=v.z/\v.z<=hi):=by simp only[vE,Pu,lF]
theorem yB{v:Vc}{lo hi:Int}(h:vE v lo hi=true)(h1:-9223372036854775808<lo)(h2:hi<9223372036854775808):gw [al v.x,al v.y,al v.z]=some v:=
 Ed fun n hn=>by
  obtain⟨a,b,c⟩:=Bw.1 h
  rcases hn with rfl | rfl | rfl <;> omega
theorem lV{v:Vc}(h:gZ v=true):gw [al v.x,al v.y,al v.z]=some v:=yB h dD dD
theorem AE(v:Vc):∀w∈[al v.x,al v.y,al v.z],Ay w:=by
 intro w hw
 simp only[List.mem_cons,List.not_mem_nil,or_false]at hw
 rcases hw with rfl | rfl | rfl <;> exact cR _
theorem Bx{n:Nat}{m:Int}:lG n m=true↔0<=m/\m<n:=by simp only[lG,Pu,PE]
theorem FJ{m:Mt}(h:gF m=true)(s:PS)(n:Nat)(r:Bs)(hl:s.1.ms.length+1<=64):oF s n (dQ m++r)=oF ({ s.1 with ms:=s.1.ms++[m] },s.2) (n+1) r:=by
 have hadd:kr s.1 m=some { s.1 with ms:=s.1.ms++[m] }:=by rw[kr,if_pos ⟨h,hl⟩]
 obtain⟨k,c,sh,tx⟩:=m
 have key:∀i,i<3->∀v,sh=[]->tx=[]->vE c 0 v=true->v<9223372036854775808->(∀l,dj i s.1 l=(gw l).bind fun v=>kr s.1 ⟨i+1,v,[],[]⟩)->k=i+1->oF s n (aY [eC i,dk c]++r)=oF ({ s.1 with ms:=s.1.ms++[⟨k,c,sh,tx⟩] },s.2) (n+1) r:=by
  intro i hi v h1 h2 h3 h4 h5 h6
  subst h1 h2 h6
  rw[show aY [eC i,dk c]=aY [eC i,al c.x,al c.y,al c.z] from rfl]
  refine iV (fun w hw=>?_) ?_
  ·rcases List.mem_cons.1 hw with rfl | hw
   ·exact mG i om
   ·exact AE c w hw
  ·rw[mO i om,h5,yB h3 dD h4,Option.bind_some,hadd]; rfl
 by_cases h12:k=1∨k=2
 ·rw[gF,if_pos h12]at h
  simp only[Pu,PE]at h
  rcases h12 with rfl | rfl
  ·exact key 0 dD _ h.1 h.2.1 h.2.2 dD (fun _=>rfl) rfl
  ·exact key 1 dD _ h.1 h.2.1 h.2.2 dD (fun _=>rfl) rfl
 rw[gF,if_neg h12]at h
 by_cases h3:k=3
 ·rw[if_pos h3]at h
  simp only[Pu,PE]at h
  subst h3
  exact key 2 dD _ h.1 h.2.1 h.2.2 dD (fun _=>rfl) rfl
 rw[if_neg h3]at h
 by_cases h4:k=4
 ·subst h4
  simp only[if_true,Pu,Bool.or_eq_true,PE,Mh]at h
  obtain⟨⟨hx,hy,hz⟩,hn,ht⟩:=h
  obtain⟨x,y,z⟩:=c
  simp only at hx hy hz
  subst hx hy hz
  by_cases he:tx=[]
  ·subst he
   show oF s n (aY [eC 3,sh]++r)=_
   refine iV (fun w hw=>?_) ?_
   ·simp only[List.mem_cons,List.not_mem_nil,or_false]at hw
    rcases hw with rfl | rfl
    ·exact mG 3 dD
    ·exact mD hn
   ·rw[mO 3 dD]
    show (kr s.1 ⟨4,⟨0,0,0⟩,sh,[]⟩).map _=_
    rw[hadd]; rfl
  ·have ht:=ht.resolve_left he
   have e:dQ ⟨4,⟨0,0,0⟩,sh,tx⟩=aY [eC 3,sh,tx]:=by show (if tx=[] then _ else _)=_; rw[if_neg he]
   rw[e]
   refine iV (fun w hw=>?_) ?_
   ·simp only[List.mem_cons,List.not_mem_nil,or_false]at hw
    rcases hw with rfl | rfl | rfl
    ·exact mG 3 dD
    ·exact mD hn
    ·exact mD ht
   ·rw[mO 3 dD]
    show (kr s.1 ⟨4,⟨0,0,0⟩,sh,tx⟩).map _=_
    rw[hadd]; rfl
 ·rw[if_neg h4]at h; simp at h
theorem Fi{b:Rd}(h:lj b=true)(s:PS)(n:Nat)(r:Bs)(hl:s.1.bs.length+1<=256)(hm:0<=b.m/\b.m<=64):oF s n (fq b++r)=oF ({ s.1 with bs:=s.1.bs++[b] },s.2) (n+1) r:=by
 have h':=h
 simp only[lj,Pu,PE]at h
 obtain⟨hf,h0,h1⟩:=h
 have e:fq b=aY [eC 4,al b.c.x,al b.c.y,al b.c.z,al b.r,cF b.m]:=by
  rw[fq,aY,C9]; rfl
 rw[e]
 refine iV (fun w hw=>?_) ?_
 ·simp only[List.mem_cons,List.not_mem_nil,or_false]at hw
  rcases hw with rfl | rfl | rfl | rfl | rfl | rfl
  ·exact mG 4 dD
  ·exact cR _
  ·exact cR _
  ·exact cR _
  ·exact cR _
  ·exact j2 _
 ·have hb:kY [al b.c.x,al b.c.y,al b.c.z,al b.r,cF b.m]=some b:=by
   simp only[kY,lV hf,jT (n:=b.r) om om,jo,i7 (lo:=0) (hi:=1073741824) (n:=b.m) om om]
  rw[mO 4 dD]
  simp only[dj,hb,Option.bind_some]
  rw[if_pos ⟨h',hl⟩]; rfl
theorem Ee{u:Us}(h:jk u=true)(s:PS)(n:Nat)(r:Bs)(hl:s.1.us.length+1<=16)(hm:0<=u.m/\u.m<=64):oF s n (iK u++r)=oF ({ s.1 with us:=s.1.us++[u] },s.2) (n+1) r:=by
 have h':=h
 simp only[jk,Pu]at h
 obtain⟨hn,hf⟩:=h
 have e:iK u=aY [eC 5,u.n,al u.p.x,al u.p.y,al u.p.z,cF u.m]:=by
  rw[iK,aY,C8]; rfl
 rw[e]
 refine iV (fun w hw=>?_) ?_
 ·simp only[List.mem_cons,List.not_mem_nil,or_false]at hw
  rcases hw with rfl | rfl | rfl | rfl | rfl | rfl
  ·exact mG 5 dD
  ·exact mD hn
  ·exact cR _
  ·exact cR _
  ·exact cR _
  ·exact j2 _
 ·have hb:ui [u.n,al u.p.x,al u.p.y,al u.p.z,cF u.m]=some u:=by
   simp only[ui,lV hf,jo,i7 (lo:=0) (hi:=1073741824) (n:=u.m) om om]
  rw[mO 5 dD]
  simp only[dj,hb,Option.bind_some]
  rw[if_pos ⟨h',hl⟩]; rfl
theorem sU:∀(l:List Mt) (s:PS) (n:Nat) (r:Bs),l.all gF=true->s.1.ms.length+l.length<=64->oF s n (l.flatMap dQ++r)=oF ({ s.1 with ms:=s.1.ms++l },s.2) (n+l.length) r
 | [],s,n,r,_,_=>by rw[List.append_nil]; rfl
 | m::l,s,n,r,h,hl=>by
  rw[List.all_cons,Pu]at h
  rw[Pv]at hl
  rw[List.flatMap_cons,PG,FJ h.1 s n _ om,sU l _ _ _ h.2 (by simp only[lA,Pv,Pw]; omega),Pv]
  simp only[PG,PM,List.nil_append]
  rw[show n+1+l.length=n+(l.length+1) by omega]
theorem sH:∀(l:List Rd) (s:PS) (n:Nat) (r:Bs),l.all lj=true->s.1.bs.length+l.length<=256->(∀b∈l,0<=b.m/\b.m<=64)->oF s n (l.flatMap fq++r)=oF ({ s.1 with bs:=s.1.bs++l },s.2) (n+l.length) r
 | [],s,n,r,_,_,_=>by rw[List.append_nil]; rfl
 | m::l,s,n,r,h,hl,hm=>by
  rw[List.all_cons,Pu]at h
  rw[Pv]at hl
  rw[List.flatMap_cons,PG,Fi h.1 s n _ om (hm m (by simp)),sH l _ _ _ h.2 (by simp only[lA,Pv,Pw]; omega) (fun b hb=>hm b (by simp[hb])),Pv]
  simp only[PG,PM,List.nil_append]
  rw[show n+1+l.length=n+(l.length+1) by omega]
theorem rY:∀(l:List Us) (s:PS) (n:Nat) (r:Bs),l.all jk=true->s.1.us.length+l.length<=16->(∀b∈l,0<=b.m/\b.m<=64)->oF s n (l.flatMap iK++r)=oF ({ s.1 with us:=s.1.us++l },s.2) (n+l.length) r
 | [],s,n,r,_,_,_=>by rw[List.append_nil]; rfl
 | m::l,s,n,r,h,hl,hm=>by
  rw[List.all_cons,Pu]at h
  rw[Pv]at hl
  rw[List.flatMap_cons,PG,Ee h.1 s n _ om (hm m (by simp)),rY l _ _ _ h.2 (by simp only[lA,Pv,Pw]; omega) (fun b hb=>hm b (by simp[hb])),Pv]
  simp only[PG,PM,List.nil_append]
  rw[show n+1+l.length=n+(l.length+1) by omega]
theorem kz{i:Nat}(hi:i<9){s:PS}{n:Nat}{l:List Bs}{r:Bs}{c:Sc}(hn:i∉s.2)(hl:∀w∈l,Ay w)(hd:ct i s.1 l=some c):oF s n (aY (ef i::l)++r)=oF (c,i::s.2) (n+1) r:=by
 refine iV (fun w hw=>?_) ?_
 ·rcases List.mem_cons.1 hw with rfl | hw
  ·exact Kq i hi
  ·exact hl w hw
 ·rw[Lo i hi s l hn,hd]; rfl
theorem uj{i:Nat}(hi:i<9){s:PS}{n:Nat}{r:Bs}{v:Vc}{c:Sc}(hn:i∉s.2)(hd:ct i s.1 [al v.x,al v.y,al v.z]=some c):oF s n (aY [ef i,dk v]++r)=oF (c,i::s.2) (n+1) r:=by
 rw[show aY [ef i,dk v]=aY [ef i,al v.x,al v.y,al v.z] from rfl]
 exact kz hi hn (AE v) hd
theorem HL{a:Bs}(h:Ay a):∀w∈[a],Ay w:=fun w hw=>by rw[List.mem_singleton.1 hw]; exact h
theorem Df{s:Sc}(h:oE s=true)(hs:s.seed<18446744073709551616)(n:Nat)(r:Bs):oF (bU,[]) n (ga s++r)=oF ({ s with ms:=[],bs:=[],us:=[] },[8,7,6,5,4,3,2,1,0]) (n+9) r:=by
 simp only[oE,Pu,kV,PE]at h
 obtain⟨hw,hh,hsm,hbo,he,ha,hu,⟨hw0,hw1⟩,hsk,-⟩:=h
 have hw:=lF.1 hw
 have hh:=lF.1 hh
 have hsm:=lF.1 hsm
 have hbo:=lF.1 hbo
 rw[ga]
 simp only[PG]
 rw[kz (i:=0) (c:={ bU with w:=s.w,h:=s.h }) dD dD (fun w hw=>by
   simp only[List.mem_cons,List.not_mem_nil,or_false]at hw
   rcases hw with rfl | rfl <;> exact j2 _) (by simp only[ct,i7 (lo:=1) (hi:=1024) (n:=s.w) om om,i7 (lo:=1) (hi:=1024) (n:=s.h) om om])]
 rw[kz (i:=1) (c:={ bU with w:=s.w,h:=s.h,sm:=s.sm }) dD (by simp) (HL (j2 _)) (by simp only[ct,i7 (lo:=1) (hi:=64) (n:=s.sm) om om,Option.map_some])]
 rw[kz (i:=2) (c:={ bU with w:=s.w,h:=s.h,sm:=s.sm,bo:=s.bo }) dD (by simp) (HL (j2 _)) (by simp only[ct,i7 (lo:=0) (hi:=8) (n:=s.bo) om om,Option.map_some])]
 rw[kz (i:=3) (c:={ bU with w:=s.w,h:=s.h,sm:=s.sm,bo:=s.bo,seed:=s.seed }) dD (by simp) (HL (Cg _)) (by simp only[ct,qA,if_pos hs])]
 rw[uj (i:=4) (c:={ bU with w:=s.w,h:=s.h,sm:=s.sm,bo:=s.bo,seed:=s.seed,eye:=s.eye }) dD (by simp) (by simp only[ct,j9,lV he,if_pos he,Option.map_some])]
 rw[uj (i:=5) (c:={ bU with w:=s.w,h:=s.h,sm:=s.sm,bo:=s.bo,seed:=s.seed,eye:=s.eye,at_:=s.at_ }) dD (by simp) (by simp only[ct,j9,lV ha,if_pos ha,Option.map_some])]
 rw[uj (i:=6) (c:={ bU with w:=s.w,h:=s.h,sm:=s.sm,bo:=s.bo,seed:=s.seed,eye:=s.eye,at_:=s.at_,up:=s.up }) dD (by simp) (by simp only[ct,j9,lV hu,if_pos hu,Option.map_some])]
 rw[kz (i:=7) (c:={ bU with w:=s.w,h:=s.h,sm:=s.sm,bo:=s.bo,seed:=s.seed,eye:=s.eye,at_:=s.at_,up:=s.up,wide:=s.wide }) dD (by simp) (HL (cR _)) (by
  simp only[ct,jT (n:=s.wide) om om]
  rw[if_pos (by simp only[kV,Pu,PE]; omega)])]
 rw[uj (i:=8) (c:={ bU with w:=s.w,h:=s.h,sm:=s.sm,bo:=s.bo,seed:=s.seed,eye:=s.eye,at_:=s.at_,up:=s.up,wide:=s.wide,sky:=s.sky }) dD (by simp) (by
  simp only[ct,yB hsk dD dD]
  rw[if_pos hsk])]
 rfl
theorem sw{s:Sc}(h:fG s=true)(hs:s.seed<18446744073709551616)(hl:(cX s).length<=16384):bj (cX s)=.ok s:=by
 simp only[fG,Pu]at h
 obtain⟨hh,hm,hb,hu,ha⟩:=h
 have hc:=hh
 simp only[oE,Pu,PE]at hc
 obtain⟨-,-,-,-,-,-,-,-,-,hlm,hlb,hlu⟩:=hc
 have ha':=ha
 simp only[rP,Pu,List.all_eq_true,Bx]at ha'
 have:oG (bU,[]) 1 (sp [] (cX s))=.ok (s,[8,7,6,5,4,3,2,1,0]):=by
  show oF _ _ _=_
  rw[cX,Df hh hs,sU s.ms _ _ _ hm (by simpa using hlm),sH s.bs _ _ _ hb (by simpa using hlb) (fun b hb=>by have:=ha'.1 b hb; omega)]
  have:=rY s.us ({ ({ s with ms:=[],bs:=[],us:=[] }:Sc) with ms:=[]++s.ms,bs:=[]++s.bs },[8,7,6,5,4,3,2,1,0]) (1+9+s.ms.length+s.bs.length) [] hu (by simpa using hlu) (fun b hb=>by have:=ha'.2 b hb; omega)
  rw[List.append_nil]at this
  refine Eq.trans this ?_
  rw[IM]
  simp only[List.nil_append]
 rw[bj,if_neg om,this]
 simp only
 rw[uX,if_pos ⟨by simp,ha⟩]
open Go.Abs Go.Abs.S
structure Cr(s:PS):Prop where
 wh:0∈s.2->lT s.1.w 1 1024=true/\lT s.1.h 1 1024=true
 sm:lT s.1.sm 1 64=true
 bo:lT s.1.bo 0 8=true
 seed:s.1.seed<18446744073709551616
 eye:gZ s.1.eye=true
 at_:gZ s.1.at_=true
 up:gZ s.1.up=true
 wide:kV s.1.wide=true
 sky:vE s.1.sky 0 274877906944=true
 ms:s.1.ms.all gF=true
 msl:s.1.ms.length<=64
 bs:s.1.bs.all lj=true
 bsl:s.1.bs.length<=256
 us:s.1.us.all jk=true
 usl:s.1.us.length<=16
theorem MK:Cr (bU,[]):=⟨fun h=>by simp at h,by decide,by decide,by decide,by decide,by decide,by decide,by decide,by decide,rfl,by decide,rfl,by decide,rfl,by decide⟩
theorem Lr{lo hi:Nat}{s:Bs}{n:Int}(h:fj lo hi s=some n):lT n lo hi=true:=by
 unfold fj at h
 split at h <;> first | (simp at h; done) | skip
 split at h <;> first | (simp at h; done) | skip
 rename_i h1
 simp only[sJ]at h
 subst h
 rw[lF]; omega
theorem pk{lo hi:Nat}{s:Bs}{n lo' hi':Int}(h:fj lo hi s=some n)(e1:(lo:Int)=lo')(e2:(hi:Int)=hi'):lT n lo' hi'=true:=by subst e1 e2; exact Lr h
theorem qr{l:List Bs}{v:Vc}(h:j9 l=some v):gZ v=true:=by
 unfold j9 at h
 split at h <;> first | (simp at h; done) | skip
 split at h <;> first | (simp at h; done) | skip
 simp only[sJ]at h
 subst h; assumption
theorem jU{i:Nat}{l:List Nat}(hi:i≠0)(h:0∈i::l):0∈l:=by
 rcases List.mem_cons.1 h with h | h
 ·omega
 ·exact h
theorem KW{i:Nat}{s:PS}{l:List Bs}{c:Sc}(hi:i<9)(I:Cr s)(h:ct i s.1 l=some c):Cr (c,i::s.2):=by
 rcases i with _ | _ | _ | _ | _ | _ | _ | _ | _ | i
 ·simp only[ct]at h
  split at h <;> first | (simp at h; done) | skip
  split at h <;> first | (simp at h; done) | skip
  rename_i x hx
  split at h <;> first | (simp at h; done) | skip
  rename_i y hy
  simp only[sJ]at h
  subst h
  exact { I with wh:=fun _=>⟨pk hx rfl rfl,pk hy rfl rfl⟩ }
 ·simp only[ct]at h
  split at h <;> first | (simp at h; done) | skip
  obtain⟨x,hx,rfl⟩:=Option.map_eq_some_iff.1 h
  exact { I with wh:=fun h=>I.wh (jU dD h),sm:=pk hx rfl rfl }
 ·simp only[ct]at h
  split at h <;> first | (simp at h; done) | skip
  obtain⟨x,hx,rfl⟩:=Option.map_eq_some_iff.1 h
  exact { I with wh:=fun h=>I.wh (jU dD h),bo:=pk hx rfl rfl }
 ·simp only[ct]at h
  split at h <;> first | (simp at h; done) | skip
  split at h <;> first | (simp at h; done) | skip
  split at h <;> first | (simp at h; done) | skip
  rename_i hn
  simp only[sJ]at h
  subst h
  exact { I with wh:=fun h=>I.wh (jU dD h),seed:=hn }
 ·obtain⟨x,hx,rfl⟩:=Option.map_eq_some_iff.1 h
  exact { I with wh:=fun h=>I.wh (jU dD h),eye:=qr hx }
 ·obtain⟨x,hx,rfl⟩:=Option.map_eq_some_iff.1 h
  exact { I with wh:=fun h=>I.wh (jU dD h),at_:=qr hx }
 ·obtain⟨x,hx,rfl⟩:=Option.map_eq_some_iff.1 h
  exact { I with wh:=fun h=>I.wh (jU dD h),up:=qr hx }
 ·simp only[ct]at h
  split at h <;> first | (simp at h; done) | skip
  split at h <;> first | (simp at h; done) | skip
  split at h <;> first | (simp at h; done) | skip
  rename_i hn
  simp only[sJ]at h
  subst h
  exact { I with wh:=fun h=>I.wh (jU dD h),wide:=hn }
 ·simp only[ct]at h
  split at h <;> first | (simp at h; done) | skip
  split at h <;> first | (simp at h; done) | skip
  rename_i hn
  simp only[sJ]at h
  subst h
  exact { I with wh:=fun h=>I.wh (jU dD h),sky:=hn }
 ·omega
theorem qW{α:Type}{p:α->Bool}{l:List α}{x:α}(h:l.all p=true)(hx:p x=true):(l++[x]).all p=true:=by
 rw[List.all_append,h,Bool.true_and]; simp[hx]
theorem pc{s:PS}{m:Mt}{c:Sc}(I:Cr s)(h:kr s.1 m=some c):Cr (c,s.2):=by
 unfold kr at h
 split at h <;> first | (simp at h; done) | skip
 rename_i hm
 simp only[sJ]at h
 subst h
 exact { I with ms:=qW I.ms hm.1,msl:=by simp only[lA,Pv,Pw]; omega }
theorem IH{i:Nat}{s:PS}{l:List Bs}{c:Sc}(I:Cr s)(h:dj i s.1 l=some c):Cr (c,s.2):=by
 rcases i with _ | _ | _ | _ | _ | i
 ·obtain⟨v,_,h⟩:=Option.bind_eq_some_iff.1 h; exact pc I h
 ·obtain⟨v,_,h⟩:=Option.bind_eq_some_iff.1 h; exact pc I h
 ·obtain⟨v,_,h⟩:=Option.bind_eq_some_iff.1 h; exact pc I h
 ·exact pc I h
 ·obtain⟨v,_,h⟩:=Option.bind_eq_some_iff.1 h
  split at h <;> first | (simp at h; done) | skip
  rename_i hm
  simp only[sJ]at h
  subst h
  exact { I with bs:=qW I.bs hm.1,bsl:=by simp only[lA,Pv,Pw]; omega }
 ·obtain⟨v,_,h⟩:=Option.bind_eq_some_iff.1 h
  split at h <;> first | (simp at h; done) | skip
  rename_i hm
  simp only[sJ]at h
  subst h
  exact { I with us:=qW I.us hm.1,usl:=by simp only[lA,Pv,Pw]; omega }
theorem F8{s s':PS}{ws:List Bs}(I:Cr s)(h:tE s ws=some s'):Cr s':=by
 unfold tE at h
 split at h
 ·simp only[sJ]at h; subst h; exact I
 ·simp only at h
  split at h
  ·rename_i hi
   split at h <;> first | (simp at h; done) | skip
   obtain⟨c,hc,rfl⟩:=Option.map_eq_some_iff.1 h
   exact KW hi I hc
  ·split at h <;> first | (simp at h; done) | skip
   obtain⟨c,hc,rfl⟩:=Option.map_eq_some_iff.1 h
   exact IH I hc
theorem F7:∀(L:List Bs) {s s':PS} {n:Nat},Cr s->oG s n L=.ok s'->Cr s'
 | [],s,s',n,I,h=>by simp only[oG,Except.ok.injEq]at h; subst h; exact I
 | l::L,s,s',n,I,h=>by
  rw[oG]at h
  split at h <;> first | (simp at h; done) | skip
  rename_i hd
  exact F7 L (F8 I hd) h
theorem CN{t:Bs}{s:Sc}(h:bj t=.ok s):fG s=true/\s.seed<18446744073709551616:=by
 unfold bj at h
 split at h <;> first | (simp at h; done) | skip
 split at h <;> first | (simp at h; done) | skip
 rename_i s0 hg
 have I:=F7 _ MK hg
 unfold uX at h
 split at h <;> first | (simp at h; done) | skip
 rename_i hz
 simp only[Except.ok.injEq]at h
 subst h
 refine⟨?_,I.seed⟩
 have w:=I.wh hz.1
 simp only[fG,oE,Pu,PE]
 exact⟨⟨w.1,w.2,I.sm,I.bo,I.eye,I.at_,I.up,I.wide,I.sky,I.msl,I.bsl,I.usl⟩,I.ms,I.bs,I.us,hz.2⟩
theorem wW(k:Nat):∀(L:List Bs) (s:PS) (n:Nat),oG s (n+k) L=match oG s n L with
  | .ok s'=>.ok s'
  | .error e=>.error (e+k)
 | [],s,n=>rfl
 | l::L,s,n=>by
  rw[oG,oG]
  cases tE s (gv l) with
  | none=>rfl
  | some s'=>simp only; rw[show n+k+1=n+1+k by omega,wW k L s' (n+1)]
theorem JX:∀(L:List Bs) (s:PS) (n e:Nat),oG s n L=.error e->n<=e
 | [],s,n,e,h=>by simp[oG]at h
 | l::L,s,n,e,h=>by
  rw[oG]at h
  split at h
  ·simp only[Except.error.injEq]at h; omega
  ·have:=JX L _ _ _ h; omega
def wz:Bs:=[35,32,102,105,114,115,116,10,9,32,13,10]
def shR:Except Ns Sc->Except Ns Sc
 | .ok s=>.ok s
 | .error e=>.error (e.1,if e.2=0 then 0 else e.2+2)
theorem sP{t:Bs}(h:t.length<=4000):bj (wz++t)=shR (bj t):=by
 have e:sp [] (wz++t)=[35,32,102,105,114,115,116]::[9,32,13]::sp [] t:=rfl
 have e1:gv [35,32,102,105,114,115,116]=[]:=by decide
 have e2:gv [9,32,13]=[]:=by decide
 have hl:¬16384<(wz++t).length:=by rw[lA]; show ¬16384<12+t.length; omega
 rw[bj,bj,if_neg hl,if_neg om,e,oG,e1]
 simp only[tE]
 rw[oG,e2]
 simp only[tE]
 rw[show 1+1+1=1+2 from rfl,wW 2 (sp [] t) _ 1]
 cases hg:oG (bU,[]) 1 (sp [] t) with
 | ok s=>
  simp only
  unfold uX
  split <;> rfl
 | error n=>
  have:=JX _ _ _ _ hg
  simp only[shR]
  rw[if_neg om]
end Go.Proofs.Wo
namespace Go.Abs.S
open Go.Abs Go.WideShapes Go.ChangeShapes
variable {H:Type} {enc:TypeId×Value->H}
end Go.Abs.S
namespace Go.Proofs.Wo
open Go.Abs Go.Abs.S
def gW(P:Nat->Prop)(H:ae)(m:Nat)(v:af)(k:Nat)(C:List af):Prop:=
 (Nz v=true/\k=0/\C=[])∨∃a r,v=.slice (some a) k r/\P a.b/\aT H a (m*k)=some C
theorem gW.mono{P Q:Nat->Prop}{H H':ae}{m k:Nat}{v:af}{C:List af}(h:gW P H m v k C)(q:∀b,P b->Q b/\H'.get b=H.get b):gW Q H' m v k C:=by
 rcases h with h | ⟨a,r,h1,h2,h3⟩
 ·exact .inl h
 ·exact .inr ⟨a,r,h1,(q _ h2).1,by rw[wo (q _ h2).2]; exact h3⟩
theorem gW.one{P:Nat->Prop}{H:ae}{m k:Nat}{v:af}{C:List af}(h:gW P H m v k C):v.one=true:=by
 rcases h with⟨h,_⟩ | ⟨a,r,rfl,_⟩
 ·exact IG h
 ·rfl
theorem gW.len{P:Nat->Prop}{H:ae}{m k:Nat}{v:af}{C:List af}(h:gW P H m v k C):gd false v=some (.int .i64 (k:Int)):=by
 rcases h with⟨h,rfl,_⟩ | ⟨a,r,rfl,_⟩
 ·rcases nJ h with rfl | ⟨a,rfl⟩ <;> rfl
 ·rfl
theorem gW.nil(P:Nat->Prop)(H:ae)(m:Nat):gW P H m cz 0 []:=.inl ⟨rfl,rfl,rfl⟩
theorem gW.app{P:Nat->Prop}{H:ae}{m k:Nat}{v:af}{C:List af}(h:dI m 0 H v C k)(hb:ed v P):gW P H m v k C:=by
 rcases h with⟨rfl,rfl,rfl⟩ | ⟨b,low,rfl,h2,h3,h4,h5,h6,h7⟩
 ·exact .nil P H m
 ·refine .inr ⟨_,_,rfl,hb _ _ _ rfl,?_⟩
  rw[<- h2]
  exact eQ h5 h6
theorem gW.row{P:Nat->Prop}{H:ae}{m k n:Nat}{b:Nat}{r:rR}{C:List af}(h:Row H b C)(hn:C.length=n)(hk:m*k=n)(hp:P b):gW P H m (.slice (some ⟨b,n,0⟩) k r) k C:=by
 refine .inr ⟨_,_,rfl,hp,?_⟩
 obtain⟨low,h1,h2⟩:=h
 rw[hk,<- hn]
 exact eQ h1 h2
def nC(m:Nat)(v:af)(i:Nat):af:=match v with
 | .slice (some a) _ _=>.ptr (some ⟨a.b,a.lim,a.o+i*m⟩)
 | _=>aN
theorem gW.idx{P:Nat->Prop}{H:ae}{m k:Nat}{v:af}{C:List af}(h:gW P H m v k C){i:Nat}(hi:i<k):gP m v (.int .i64 (i:Int))=some (nC m v i):=by
 rcases h with⟨_,rfl,_⟩ | ⟨a,r,rfl,_⟩
 ·omega
 ·show (bif Nat.blt i k then some (af.ptr (some ⟨a.b,a.lim,a.o+i*m⟩)) else none)=_
  rw[show Nat.blt i k=true by simpa[Nat.blt_eq] using hi]; rfl
theorem Bc{H:ae}{a:Ad}{n i j:Nat}{C:List af}(h:aT H a n=some C)(hij:i+j<=n):aT H ⟨a.b,a.lim,a.o+i⟩ j=some ((C.drop i).take j):=by
 obtain⟨l,low,ro,h1,h2,h3,h4,rfl⟩:=jm h
 unfold aT
 simp only[h1,Pt h2,Pt h3,Pt (show a.o+i+j<=a.lim by omega),Bool.and_self,cond_true]
 rw[List.drop_take,List.take_take,Nat.min_eq_left om,List.drop_drop]
theorem gW.load{P:Nat->Prop}{H:ae}{m k:Nat}{v:af}{C:List af}(h:gW P H m v k C){i:Nat}(hi:i<k):bi true m H (nC m v i)=some (.agg ((C.drop (i*m)).take m)):=by
 rcases h with⟨_,rfl,_⟩ | ⟨a,r,rfl,_,h3⟩
 ·omega
 ·have hm:i*m+m<=m*k:=by
   have:(i+1)*m<=k*m:=Nat.mul_le_mul_right m hi
   rw[Nat.mul_comm m k]; rw[Nat.add_mul,Nat.one_mul]at this; exact this
  simp only[bi,nC,Bc h3 hm,cond_true]
theorem gW.aeq{P:Nat->Prop}{H:ae}{m k:Nat}{v:af}{C:List af}(h:gW P H m v k C):aeq v v=true:=by
 rcases h with⟨h,_⟩ | ⟨a,r,rfl,_⟩
 ·rcases nJ h with rfl | ⟨a,rfl⟩
  ·exact Hh
  ·simp[Go.Abs.aeq]
 ·cases r <;> simp[Go.Abs.aeq]
theorem BD{α:Type}{f:α->List af}{m:Nat}(hf:∀x,(f x).length=m):∀{l:List α} {i:Nat} {x:α},l[i]?=some x->((l.flatMap f).drop (i*m)).take m=f x
 | [],i,x,h=>by simp at h
 | y::l,0,x,h=>by
  simp only[PA,sJ]at h
  subst h
  rw[Nat.zero_mul,List.drop_zero,List.flatMap_cons,List.take_append_of_le_length (by rw[hf]; exact Nat.le_refl _),List.take_of_length_le (by rw[hf]; exact Nat.le_refl _)]
 | y::l,i+1,x,h=>by
  simp only[PC]at h
  rw[List.flatMap_cons,show (i+1)*m=(f y).length+i*m by rw[hf,Nat.succ_mul,Nat.add_comm],<- List.drop_drop,List.drop_left]
  exact BD hf h
theorem gW.loadE{α:Type}{f:α->List af}{P:Nat->Prop}{H:ae}{m:Nat}{v:af}{l:List α}(h:gW P H m v l.length (l.flatMap f))(hf:∀x,(f x).length=m){i:Nat}{x:α}(hi:l[i]?=some x):bi true m H (nC m v i)=some (.agg (f x)):=by
 rw[h.load (Ps.1 hi).1,BD hf hi]
theorem jd{α:Type}{p:α->Bool}{l:List α}{i:Nat}{x:α}(hi:l[i]?=some x)(h:(l.take i).all p=true):(l.take (i+1)).all p=p x:=by
 rw[List.take_add_one,hi,List.all_append,h]; simp
theorem iY{α:Type}{l:List α}{i:Nat}{x:α}(h:l[i]?=some x):l.drop i=x::l.drop (i+1):=by
 obtain⟨hl,he⟩:=Ps.1 h
 rw[List.drop_eq_getElem_cons hl,he]
theorem lO{α:Type}{p:α->Bool}{l:List α}{i:Nat}{x:α}(hi:l[i]?=some x)(h:p x=false):l.all p=false:=by
 have:=List.take_append_drop i l
 rw[<- this,List.all_append,iY hi,List.all_cons,h,Bool.false_and,Bool.and_false]
open Go.Abs Go.Abs.S
noncomputable section
def c7:cg:=⟨78,zq [zo 2 (.new [zI 0,zI 0,zI 0,zI 0,.int .u64 (.ofNat 0),zI 0,zI 0,zI 0,zI 0,zI 0,zI 0,zI 0,zI 0,zI 0,zI 0,zI 0,zI 0,zI 0,zN,zN,zN]),zo 3 (.new [zI 0,zI 0])] (zr [zm 11 0,zo 12 (.len true (.t 11)),zk 13 .gtr 12 16384] 13 (zq [zo 14 (.build [zI 0,zI 0,zI 0,zI 0,.int .u64 (.ofNat 0),zI 0,zI 0,zI 0,zI 0,zI 0,zI 0,zI 0,zI 0,zI 0,zI 0,zI 0,zI 0,zI 0,zN,zN,zN] []),zo 15 (.build [zI 0,zI 0] [(0,1,zi 3)]),zp (.store 21 (.t 2) (.t 14)),zp (.store 2 (.t 3) (.t 15))] .ret) .skip (zq [zx 16 19 [],zo 17 (.hf .mkMap []),zo 18 (.build [zI 0,zI 0,zI 0,zI 0,.int .u64 (.ofNat 0),zI 0,zI 0,zI 0,zI 0,zI 0,zI 0,zI 0,zI 0,zI 0,zI 0,zI 0,zI 0,zI 0,zN,zN,zN,.map none] [(0,21,.t 16),(21,1,.t 17)]),zo 19 (.box (.t 18)),zm 4 19] (zq [zm 20 4,zx 21 20 [.t 20],zm 5 21] (.seq (zq [zm 22 0,zx 23 21 [.t 22,.c (.str [10])],zh 24 23,zo 25 (.mv (zi 0))] (.block 0 (.loop (zq [zb 26 .lss 25 24] (.seq (.cond (.t 26) .skip (.exit 0)) (.seq (.block 1 (zq [zm 27 25,zd 28 23 25,zl 29 28,zm 6 27,zm 7 29] (zq [zm 30 7,zx 31 22 [.t 30],zm 8 31] (zr [zm 32 8,zh 33 32,zk 34 .eql 33 0] 34 (.exit 1) .skip (zq [zm 36 5,zm 37 8,zo 38 (.idxA 1 (.t 37) (zi 0)),zl 39 38,zo 40 (.hf (.mLook .str true .nilFunc) [.t 36,.t 39]),zm 35 40,ze 41 0 35,ze 42 1 35,zm 9 41,zm 10 42] (zq [zm 43 10,zo 44 (.un .not (.t 43)),zm 45 44,zg 46 (.mv (.t 9)) 45 false,zg 47 (.mv (.t 8)) 45 false,zg 48 (.sl 1 (.t 47) (some (zi 1)) none none) 45 false,zg 49 (.callv (.t 46) [.t 48]) 45 false,zg 50 (.un .not (.t 49)) 45 false,zo 51 (.pick (.t 45) (.c (.bool true)) (.t 50))] (.cond (.t 51) (zq [zo 52 (.build [zI 0,zI 0,zI 0,zI 0,.int .u64 (.ofNat 0),zI 0,zI 0,zI 0,zI 0,zI 0,zI 0,zI 0,zI 0,zI 0,zI 0,zI 0,zI 0,zI 0,zN,zN,zN] []),zm 53 6,zk 54 .add 53 1,zo 55 (.build [zI 0,zI 0] [(0,1,zi 130),(1,1,.t 54)]),zp (.store 21 (.t 2) (.t 52)),zp (.store 2 (.t 3) (.t 55))] .ret) .skip))))))) (.reg [zk 56 .add 25 1,zm 25 56]))))))) (zr [zm 57 4,zc 58 57,zf 59 21 58,zl 60 59,zo 61 (.hf (.mLook .str false (zI 0)) [.t 60,.c (.str [115,105,122,101])]),zk 62 .eql 61 0,zm 63 62,zg 64 (.mv (.t 4)) 63 false,zg 65 (.nilChk (.t 64)) 63 false,zg 66 (.fieldA 0 (.t 65)) 63 false,zg 67 (.load true 21 (.t 66)) 63 false,zg 68 (.call 23 [.t 67]) 63 false,zg 69 (.un .not (.t 68)) 63 false,zo 70 (.pick (.t 63) (.c (.bool true)) (.t 69))] 70 (zq [zo 71 (.build [zI 0,zI 0,zI 0,zI 0,.int .u64 (.ofNat 0),zI 0,zI 0,zI 0,zI 0,zI 0,zI 0,zI 0,zI 0,zI 0,zI 0,zI 0,zI 0,zI 0,zN,zN,zN] []),zo 72 (.build [zI 0,zI 0] [(0,1,zi 130)]),zp (.store 21 (.t 2) (.t 71)),zp (.store 2 (.t 3) (.t 72))] .ret) .skip (zq [zm 73 4,zc 74 73,zf 75 0 74,zt 76 21 75,zo 77 (.build [zI 0,zI 0] []),zp (.store 21 (.t 2) (.t 76)),zp (.store 2 (.t 3) (.t 77))] .ret)))))),[.cell true 21 2,.cell true 2 3]⟩
theorem za7:cN Tryz.prog 7=some c7:=by kernel_rfl
def LA:cg:=⟨4,zq [zo 0 (.new [zI 0,zI 0,zI 0,zI 0,.int .u64 (.ofNat 0),zI 0,zI 0,zI 0,zI 0,zI 0,zI 0,zI 0,zI 0,zI 0,zI 0,zI 0,zI 0,zI 0,zN,zN,zN])] (zq [zo 1 (.build [zI 0,zI 0,zI 0] [(2,1,.c (.int .i64 (.negSucc 17179869183)))]),zo 2 (.build [zI 0,zI 0,zI 0] [(1,1,zi 4294967296)]),zo 3 (.build [zI 0,zI 0,zI 0,zI 0,.int .u64 (.ofNat 0),zI 0,zI 0,zI 0,zI 0,zI 0,zI 0,zI 0,zI 0,zI 0,zI 0,zI 0,zI 0,zI 0,zN,zN,zN] [(2,1,zi 1),(3,1,zi 2),(5,3,.t 1),(11,3,.t 2),(14,1,zi 4294967296)]),zp (.store 21 (.t 0) (.t 3))] .ret),[.cell true 21 0]⟩
theorem OJ:cN Tryz.prog 19=some LA:=by kernel_rfl
def c40:cg:=⟨13,zq [zo 3 (.mv (.c (.bool false)))] (zq [zm 4 0,zl 5 1,zc 6 5,zf 7 0 6,zl 8 1,zc 9 8,zf 10 1 9,zo 11 (.buildSl 2 [.ptr none] [(0,1,.t 7),(1,1,.t 10)]),zx 12 41 [.t 4,.c (.int .u64 (.ofNat 1)),.c (.int .u64 (.ofNat 1024)),.t 11],zm 3 12] .ret),[.t 3]⟩
theorem Ou:cN Tryz.prog 40=some c40:=by kernel_rfl
def Pe:cg:=⟨52,zq [zo 8 (.mv (.c (.bool false)))] (zr [zm 14 0,zh 15 14,zm 16 3,zh 17 16,zb 18 .neq 15 17] 18 (zq [zo 8 (.mv (.c (.bool false)))] .ret) .skip (.seq (zq [zm 19 0,zh 20 19,zo 21 (.mv (zi 0))] (.block 0 (.loop (zq [zb 22 .lss 21 20] (.seq (.cond (.t 22) .skip (.exit 0)) (.seq (.block 1 (zq [zm 23 21,zd 24 19 21,zl 25 24,zm 9 23,zm 10 25] (zq [zm 27 10,zx 28 77 [.t 27],zm 26 28,ze 29 0 26,ze 30 1 26,ze 31 2 26,zm 11 29,zm 12 30,zm 13 31] (zr [zm 32 13,zo 33 (.un .not (.t 32)),zm 34 33,zg 35 (.mv (.t 11)) 34 false,zg 36 (.mv (.t 1)) 34 false,zg 37 (.bin .lss (.t 35) (.t 36)) 34 false,zo 38 (.pick (.t 34) (.c (.bool true)) (.t 37)),zm 39 38,zg 40 (.mv (.t 11)) 39 false,zg 41 (.mv (.t 2)) 39 false,zg 42 (.bin .gtr (.t 40) (.t 41)) 39 false,zo 43 (.pick (.t 39) (.c (.bool true)) (.t 42))] 43 (zq [zo 8 (.mv (.c (.bool false)))] .ret) .skip (.reg [zm 44 3,zm 45 9,zd 46 44 45,zl 47 46,zm 48 11,zv 49 .i64 48,zc 50 47,zs 50 49]))))) (.reg [zk 51 .add 21 1,zm 21 51]))))))) (zq [zo 8 (.mv (.c (.bool true)))] .ret))),[.t 8]⟩
theorem Ot:cN Tryz.prog 41=some Pe:=by kernel_rfl
def c77:cg:=⟨46,zq [zo 2 (.mv (.c (.int .u64 (.ofNat 0)))),zo 3 (.mv (.c (.bool false))),zo 4 (.mv (.c (.bool false)))] (zq [zo 3 (.mv (.c (.bool true)))] (.seq (zq [zm 7 0,zo 8 (.len true (.t 7)),zo 9 (.mv (zi 0))] (.block 0 (.loop (zq [zb 10 .lss 9 8] (.seq (.cond (.t 10) .skip (.exit 0)) (.seq (.block 1 (zq [zm 11 9,zm 5 11] (zr [zm 12 0,zm 13 5,zo 14 (.idxS (.t 12) (.t 13)),zo 15 (.bin .lss (.t 14) (zu 48)),zm 16 15,zg 17 (.mv (.t 0)) 16 false,zg 18 (.mv (.t 5)) 16 false,zg 19 (.idxS (.t 17) (.t 18)) 16 false,zg 20 (.bin .gtr (.t 19) (zu 57)) 16 false,zo 21 (.pick (.t 16) (.c (.bool true)) (.t 20))] 21 (zq [zo 2 (.mv (.c (.int .u64 (.ofNat 0)))),zo 3 (.mv (.c (.bool false))),zo 4 (.mv (.c (.bool false)))] .ret) .skip (zq [zm 22 0,zm 23 5,zo 24 (.idxS (.t 22) (.t 23)),zo 25 (.bin .sub (.t 24) (zu 48)),zv 26 .u64 25,zm 6 26] (zq [zm 27 3,zm 28 27,zg 29 (.mv (.t 2)) 28 true,zg 30 (.mv (.t 6)) 28 true,zg 31 (.bin .sub (.c (.int .u64 (.ofNat 18446744073709551615))) (.t 30)) 28 true,zg 32 (.bin .quo (.t 31) (.c (.int .u64 (.ofNat 10)))) 28 true,zg 33 (.bin .leq (.t 29) (.t 32)) 28 true,zo 34 (.pick (.t 28) (.t 33) (.c (.bool false))),zm 3 34] (.reg [zm 35 2,zo 36 (.bin .mul (.t 35) (.c (.int .u64 (.ofNat 10)))),zm 37 6,zb 38 .add 36 37,zm 2 38])))))) (.reg [zk 39 .add 9 1,zm 9 39]))))))) (zr [zm 40 0,zo 41 (.bin .eql (.t 40) (.c (.str [])))] 41 (zq [zo 2 (.mv (.c (.int .u64 (.ofNat 0)))),zo 3 (.mv (.c (.bool false))),zo 4 (.mv (.c (.bool false)))] .ret) .skip (zr [zm 42 3,zo 43 (.un .not (.t 42))] 43 (.reg [zo 2 (.mv (.c (.int .u64 (.ofNat 18446744073709551615))))]) .skip (zq [zm 44 2,zm 45 3,zm 2 44,zm 3 45,zo 4 (.mv (.c (.bool true)))] .ret))))),[.t 2,.t 3,.t 4]⟩
theorem NV:cN Tryz.prog 77=some c77:=by kernel_rfl
def Pd:cg:=⟨10,zq [zo 3 (.mv (.c (.bool false)))] (zq [zm 4 0,zl 5 1,zc 6 5,zf 7 2 6,zo 8 (.buildSl 1 [.ptr none] [(0,1,.t 7)]),zx 9 41 [.t 4,.c (.int .u64 (.ofNat 1)),.c (.int .u64 (.ofNat 64)),.t 8],zm 3 9] .ret),[.t 3]⟩
theorem Oq:cN Tryz.prog 42=some Pd:=by kernel_rfl
def Pc:cg:=⟨10,zq [zo 3 (.mv (.c (.bool false)))] (zq [zm 4 0,zl 5 1,zc 6 5,zf 7 3 6,zo 8 (.buildSl 1 [.ptr none] [(0,1,.t 7)]),zx 9 41 [.t 4,.c (.int .u64 (.ofNat 0)),.c (.int .u64 (.ofNat 8)),.t 8],zm 3 9] .ret),[.t 3]⟩
theorem Oo:cN Tryz.prog 43=some Pc:=by kernel_rfl
def c44:cg:=⟨9,zq [zo 3 (.mv (.c (.bool false)))] (zq [zm 4 0,zl 5 1,zc 6 5,zf 7 4 6,zx 8 45 [.t 4,.t 7],zm 3 8] .ret),[.t 3]⟩
theorem On:cN Tryz.prog 44=some c44:=by kernel_rfl
def NE:cg:=⟨26,zq [zo 4 (.mv (.c (.bool false)))] (zr [zm 8 0,zh 9 8,zk 10 .neq 9 1] 10 (zq [zo 4 (.mv (.c (.bool false)))] .ret) .skip (zq [zm 12 0,zo 13 (.idxA 1 (.t 12) (zi 0)),zl 14 13,zx 15 77 [.t 14],zm 11 15,ze 16 0 11,ze 17 1 11,ze 18 2 11,zm 5 16,zm 6 17,zm 7 18] (zq [zm 19 1,zm 20 5,zc 21 19,zs 21 20] (zq [zm 22 7,zm 23 22,zg 24 (.mv (.t 6)) 23 true,zo 25 (.pick (.t 23) (.t 24) (.c (.bool false))),zm 4 25] .ret)))),[.t 4]⟩
theorem Om:cN Tryz.prog 45=some NE:=by kernel_rfl
def c46:cg:=⟨16,zq [zo 3 (.mv (.c (.bool false)))] (zq [zm 4 0,zl 5 1,zc 6 5,zf 7 5 6,zx 8 47 [.t 4,.t 7],zm 9 8,zg 10 (.load false 1 (.t 1)) 9 true,zg 11 (.nilChk (.t 10)) 9 true,zg 12 (.fieldA 5 (.t 11)) 9 true,zg 13 (.load true 3 (.t 12)) 9 true,zg 14 (.call 25 [.t 13]) 9 true,zo 15 (.pick (.t 9) (.t 14) (.c (.bool false))),zm 3 15] .ret),[.t 3]⟩
theorem Ol:cN Tryz.prog 46=some c46:=by kernel_rfl
def c47:cg:=⟨17,zq [zo 4 (.mv (.c (.bool false)))] (zq [zm 5 0,zm 6 1,zc 7 6,zf 8 0 7,zm 9 1,zc 10 9,zf 11 1 10,zm 12 1,zc 13 12,zf 14 2 13,zo 15 (.buildSl 3 [.ptr none] [(0,1,.t 8),(1,1,.t 11),(2,1,.t 14)]),zx 16 51 [.t 5,.t 15],zm 4 16] .ret),[.t 4]⟩
theorem Ok:cN Tryz.prog 47=some c47:=by kernel_rfl
def Pb:cg:=⟨35,zq [zo 4 (.mv (.c (.bool false)))] (zr [zm 9 0,zh 10 9,zm 11 1,zh 12 11,zb 13 .neq 10 12] 13 (zq [zo 4 (.mv (.c (.bool false)))] .ret) .skip (.seq (zq [zm 14 0,zh 15 14,zo 16 (.mv (zi 0))] (.block 0 (.loop (zq [zb 17 .lss 16 15] (.seq (.cond (.t 17) .skip (.exit 0)) (.seq (.block 1 (zq [zm 18 16,zd 19 14 16,zl 20 19,zm 5 18,zm 6 20] (zq [zm 22 6,zx 23 78 [.t 22],zm 21 23,ze 24 0 21,ze 25 1 21,zm 7 24,zm 8 25] (zr [zm 26 8,zo 27 (.un .not (.t 26))] 27 (zq [zo 4 (.mv (.c (.bool false)))] .ret) .skip (.reg [zm 28 1,zm 29 5,zd 30 28 29,zl 31 30,zm 32 7,zc 33 31,zs 33 32]))))) (.reg [zk 34 .add 16 1,zm 16 34]))))))) (zq [zo 4 (.mv (.c (.bool true)))] .ret))),[.t 4]⟩
theorem Og:cN Tryz.prog 51=some Pb:=by kernel_rfl
def c78:cg:=⟨23,zq [zo 2 (.mv (zi 0)),zo 3 (.mv (.c (.bool false)))] (zq [zm 9 0,zx 10 93 [.t 9,.c (.str [45])],zm 8 10,ze 11 0 8,ze 12 1 8,zm 4 11,zm 5 12] (zq [zm 14 4,zx 15 94 [.t 14],zm 13 15,ze 16 0 13,ze 17 1 13,zm 6 16,zm 7 17] (zr [zm 18 5] 18 (.reg [zm 19 6,zo 20 (.un .neg (.t 19)),zm 6 20]) .skip (zq [zm 21 6,zm 22 7,zm 2 21,zm 3 22] .ret)))),[.t 2,.t 3]⟩
theorem NU:cN Tryz.prog 78=some c78:=by kernel_rfl
def c93:cg:=⟨11,zq [zo 4 (.mv (.c (.str []))),zo 5 (.mv (.c (.bool false)))] (zq [zm 6 0,zm 7 1,zx 8 102 [.t 6,.t 7],ze 9 0 8,ze 10 1 8,zm 4 9,zm 5 10] .ret),[.t 4,.t 5]⟩
theorem NL:cN Tryz.prog 93=some c93:=by kernel_rfl
def M6:cg:=⟨15,zq [zo 4 (.mv (.c (.str []))),zo 5 (.mv (.c (.bool false)))] (zr [zm 6 0,zm 7 1,zx 8 35 [.t 6,.t 7],zo 9 (.un .not (.t 8))] 9 (zq [zm 10 0,zm 4 10,zo 5 (.mv (.c (.bool false)))] .ret) .skip (zq [zm 11 0,zm 12 1,zo 13 (.len true (.t 12)),zo 14 (.slStr (.t 11) (some (.t 13)) none),zm 4 14,zo 5 (.mv (.c (.bool true)))] .ret)),[.t 4,.t 5]⟩
theorem Mu:cN Tryz.prog 102=some M6:=by kernel_rfl
def c25:cg:=⟨5,zq [zo 1 (.box (.t 0)),zo 2 (.mv (.c (.bool false)))] (zq [zt 3 3 1,zx 4 26 [.t 3,.c (.int .i64 (.negSucc 42949672959999)),zi 42949672960000],zm 2 4] .ret),[.t 2]⟩
theorem OD:cN Tryz.prog 25=some c25:=by kernel_rfl
def c26:cg:=⟨25,zq [zo 3 (.box (.t 0)),zo 4 (.box (.t 1)),zo 5 (.box (.t 2)),zo 6 (.mv (.c (.bool false)))] (zq [zo 8 (.mkFunc (.func 66) [] [.t 4,.t 5]),zm 7 8] (zq [zm 9 7,zf 10 0 3,zl 11 10,zo 12 (.callv (.t 9) [.t 11]),zm 13 12,zg 14 (.mv (.t 7)) 13 true,zg 15 (.fieldA 1 (.t 3)) 13 true,zg 16 (.load false 1 (.t 15)) 13 true,zg 17 (.callv (.t 14) [.t 16]) 13 true,zo 18 (.pick (.t 13) (.t 17) (.c (.bool false))),zm 19 18,zg 20 (.mv (.t 7)) 19 true,zg 21 (.fieldA 2 (.t 3)) 19 true,zg 22 (.load false 1 (.t 21)) 19 true,zg 23 (.callv (.t 20) [.t 22]) 19 true,zo 24 (.pick (.t 19) (.t 23) (.c (.bool false))),zm 6 24] .ret)),[.t 6]⟩
theorem OC:cN Tryz.prog 26=some c26:=by kernel_rfl
def NC:cg:=⟨13,zq [zo 4 (.mv (.c (.bool false)))] (zq [zl 5 1,zm 6 0,zb 7 .leq 5 6,zm 8 7,zg 9 (.mv (.t 0)) 8 true,zg 10 (.load false 1 (.t 2)) 8 true,zg 11 (.bin .leq (.t 9) (.t 10)) 8 true,zo 12 (.pick (.t 8) (.t 11) (.c (.bool false))),zm 4 12] .ret),[.t 4]⟩
theorem N2:cN Tryz.prog 66=some NC:=by kernel_rfl
def c48:cg:=⟨16,zq [zo 3 (.mv (.c (.bool false)))] (zq [zm 4 0,zl 5 1,zc 6 5,zf 7 8 6,zx 8 47 [.t 4,.t 7],zm 9 8,zg 10 (.load false 1 (.t 1)) 9 true,zg 11 (.nilChk (.t 10)) 9 true,zg 12 (.fieldA 8 (.t 11)) 9 true,zg 13 (.load true 3 (.t 12)) 9 true,zg 14 (.call 25 [.t 13]) 9 true,zo 15 (.pick (.t 9) (.t 14) (.c (.bool false))),zm 3 15] .ret),[.t 3]⟩
theorem Oj:cN Tryz.prog 48=some c48:=by kernel_rfl
def c49:cg:=⟨16,zq [zo 3 (.mv (.c (.bool false)))] (zq [zm 4 0,zl 5 1,zc 6 5,zf 7 11 6,zx 8 47 [.t 4,.t 7],zm 9 8,zg 10 (.load false 1 (.t 1)) 9 true,zg 11 (.nilChk (.t 10)) 9 true,zg 12 (.fieldA 11 (.t 11)) 9 true,zg 13 (.load true 3 (.t 12)) 9 true,zg 14 (.call 25 [.t 13]) 9 true,zo 15 (.pick (.t 9) (.t 14) (.c (.bool false))),zm 3 15] .ret),[.t 3]⟩
theorem Oi:cN Tryz.prog 49=some c49:=by kernel_rfl
def c50:cg:=⟨24,zq [zo 3 (.mv (.c (.bool false)))] (zq [zm 4 0,zl 5 1,zc 6 5,zf 7 14 6,zo 8 (.buildSl 1 [.ptr none] [(0,1,.t 7)]),zx 9 51 [.t 4,.t 8],zm 10 9,zg 11 (.load false 1 (.t 1)) 10 true,zg 12 (.nilChk (.t 11)) 10 true,zg 13 (.fieldA 14 (.t 12)) 10 true,zg 14 (.load false 1 (.t 13)) 10 true,zg 15 (.bin .lss (zi 0) (.t 14)) 10 true,zo 16 (.pick (.t 10) (.t 15) (.c (.bool false))),zm 17 16,zg 18 (.load false 1 (.t 1)) 17 true,zg 19 (.nilChk (.t 18)) 17 true,zg 20 (.fieldA 14 (.t 19)) 17 true,zg 21 (.load false 1 (.t 20)) 17 true,zg 22 (.bin .leq (.t 21) (zi 429496729600)) 17 true,zo 23 (.pick (.t 17) (.t 22) (.c (.bool false))),zm 3 23] .ret),[.t 3]⟩
theorem Oh:cN Tryz.prog 50=some c50:=by kernel_rfl
def c52:cg:=⟨16,zq [zo 3 (.mv (.c (.bool false)))] (zq [zm 4 0,zl 5 1,zc 6 5,zf 7 15 6,zx 8 47 [.t 4,.t 7],zm 9 8,zg 10 (.load false 1 (.t 1)) 9 true,zg 11 (.nilChk (.t 10)) 9 true,zg 12 (.fieldA 15 (.t 11)) 9 true,zg 13 (.load true 3 (.t 12)) 9 true,zg 14 (.call 26 [.t 13,zi 0,zi 274877906944]) 9 true,zo 15 (.pick (.t 9) (.t 14) (.c (.bool false))),zm 3 15] .ret),[.t 3]⟩
theorem Of:cN Tryz.prog 52=some c52:=by kernel_rfl
def Pa:cg:=⟨25,zq [zo 5 (.mv (.c (.bool false)))] (zq [zl 6 1,zc 7 6,zf 8 21 7,zl 9 8,zl 10 2,zo 11 (.hf (.mLook .str false (zI 0)) [.t 9,.t 10]),zk 12 .add 11 1,zp (.hf (.mf (.upd .str)) [.t 9,.t 10,.t 12])] (zq [zl 13 1,zc 14 13,zf 15 21 14,zl 16 15,zl 17 2,zo 18 (.hf (.mLook .str false (zI 0)) [.t 16,.t 17]),zk 19 .eql 18 1,zm 20 19,zg 21 (.load false 1 (.t 3)) 20 true,zg 22 (.mv (.t 0)) 20 true,zg 23 (.callv (.t 21) [.t 22]) 20 true,zo 24 (.pick (.t 20) (.t 23) (.c (.bool false))),zm 5 24] .ret)),[.t 5]⟩
theorem Oe:cN Tryz.prog 53=some Pa:=by kernel_rfl
def c54:cg:=⟨7,zq [zo 3 (.mv (.c (.bool false)))] (zq [zl 4 1,zm 5 0,zx 6 55 [.t 4,zu 1,.t 5],zm 3 6] .ret),[.t 3]⟩
theorem Od:cN Tryz.prog 54=some c54:=by kernel_rfl
def c55:cg:=⟨18,zq [zo 6 (.mv (.c (.bool false)))] (zq [zm 8 1,zo 9 (.build [zU 0,zI 0,zI 0,zI 0,.str [],.str []] [(0,1,.t 8)]),zo 7 (.new [zU 0,zI 0,zI 0,zI 0,.str [],.str []]),zp (.store 6 (.t 7) (.t 9))] (zq [zm 10 2,zf 11 1 7,zx 12 47 [.t 10,.t 11],zm 13 12,zg 14 (.mv (.t 0)) 13 true,zg 15 (.load true 6 (.t 7)) 13 true,zg 16 (.call 79 [.t 14,.t 15]) 13 true,zo 17 (.pick (.t 13) (.t 16) (.c (.bool false))),zm 6 17] .ret)),[.t 6]⟩
theorem Oc:cN Tryz.prog 55=some c55:=by kernel_rfl
def c79:cg:=⟨28,zq [zo 3 (.box (.t 1)),zo 4 (.mv (.c (.bool false)))] (.seq (.draw [zm 5 0,zm 6 0,zc 7 6,zf 8 0 7,zf 9 18 8,zl 10 9,zt 11 6 3,zo 12 (.buildSl 1 [zU 0,zI 0,zI 0,zI 0,.str [],.str []] [(0,6,.t 11)]),zo 13 (.append 6 64 (.t 10) (.t 12)),zc 14 5,zf 15 0 14,zf 16 18 15,zs 16 13] [[],[],[],[],[],[8],[],[],[],[],[],[],[]]) (zq [zt 17 6 3,zx 18 27 [.t 17],zm 19 18,zg 20 (.mv (.t 0)) 19 true,zg 21 (.nilChk (.t 20)) 19 true,zg 22 (.fieldA 0 (.t 21)) 19 true,zg 23 (.fieldA 18 (.t 22)) 19 true,zg 24 (.load false 1 (.t 23)) 19 true,zg 25 (.len false (.t 24)) 19 true,zg 26 (.bin .leq (.t 25) (zi 64)) 19 true,zo 27 (.pick (.t 19) (.t 26) (.c (.bool false))),zm 4 27] .ret)),[.t 4]⟩
theorem NT:cN Tryz.prog 79=some c79:=by kernel_rfl
def DU:cg:=⟨57,zq [zo 1 (.box (.t 0)),zo 2 (.mv (.c (.bool false)))] (.seq (zq [zf 3 0 1,zl 4 3] (.block 0 (zr [zo 6 (.bin .eql (.t 4) (zu 1)),zm 5 6] 5 .skip (.reg [zo 7 (.bin .eql (.t 4) (zu 2)),zm 5 7]) (.cond (.t 5) (zq [zf 8 4 1,zl 9 8,zo 10 (.bin .eql (.t 9) (.c (.str []))),zm 11 10,zg 12 (.fieldA 5 (.t 1)) 11 true,zg 13 (.load false 1 (.t 12)) 11 true,zg 14 (.bin .eql (.t 13) (.c (.str []))) 11 true,zo 15 (.pick (.t 11) (.t 14) (.c (.bool false))),zm 16 15,zg 17 (.fieldA 1 (.t 1)) 16 true,zg 18 (.load true 3 (.t 17)) 16 true,zg 19 (.call 26 [.t 18,zi 0,zi 4294967296]) 16 true,zo 20 (.pick (.t 16) (.t 19) (.c (.bool false))),zm 2 20] .ret) (zq [zo 22 (.bin .eql (.t 4) (zu 3)),zm 21 22] (.cond (.t 21) (zq [zf 23 4 1,zl 24 23,zo 25 (.bin .eql (.t 24) (.c (.str []))),zm 26 25,zg 27 (.fieldA 5 (.t 1)) 26 true,zg 28 (.load false 1 (.t 27)) 26 true,zg 29 (.bin .eql (.t 28) (.c (.str []))) 26 true,zo 30 (.pick (.t 26) (.t 29) (.c (.bool false))),zm 31 30,zg 32 (.fieldA 1 (.t 1)) 31 true,zg 33 (.load true 3 (.t 32)) 31 true,zg 34 (.call 26 [.t 33,zi 0,zi 274877906944]) 31 true,zo 35 (.pick (.t 31) (.t 34) (.c (.bool false))),zm 2 35] .ret) (zq [zo 37 (.bin .eql (.t 4) (zu 4)),zm 36 37] (.cond (.t 36) (zq [zf 38 1 1,zt 39 3 38,zo 40 (.build [zI 0,zI 0,zI 0] []),zo 41 (.pf (.eqS false [(0,.int),(1,.int),(2,.int)]) [.t 39,.t 40]),zm 42 41,zg 43 (.fieldA 4 (.t 1)) 42 true,zg 44 (.load false 1 (.t 43)) 42 true,zg 45 (.call 29 [.t 44]) 42 true,zo 46 (.pick (.t 42) (.t 45) (.c (.bool false))),zm 47 46,zg 48 (.fieldA 5 (.t 1)) 47 true,zg 49 (.load false 1 (.t 48)) 47 true,zg 50 (.bin .eql (.t 49) (.c (.str []))) 47 true,zg 51 (.mv (.t 50)) 47 true,zg 52 (.fieldA 5 (.t 1)) 51 false,zg 53 (.load false 1 (.t 52)) 51 false,zg 54 (.call 29 [.t 53]) 51 false,zg 55 (.pick (.t 51) (.c (.bool true)) (.t 54)) 47 true,zo 56 (.pick (.t 47) (.t 55) (.c (.bool false))),zm 2 56] .ret) .skip)))))))) (zq [zo 2 (.mv (.c (.bool false)))] .ret)),[.t 2]⟩
theorem OB:cN Tryz.prog 27=some DU:=by kernel_rfl
def NF:cg:=⟨59,zq [zo 2 (.mv (.c (.bool false)))] (zr [zm 6 0,zo 7 (.len true (.t 6)),zk 8 .lss 7 1,zm 9 8,zg 10 (.mv (.t 0)) 9 false,zg 11 (.len true (.t 10)) 9 false,zg 12 (.bin .gtr (.t 11) (zi 40)) 9 false,zo 13 (.pick (.t 9) (.c (.bool true)) (.t 12))] 13 (zq [zo 2 (.mv (.c (.bool false)))] .ret) .skip (.seq (zq [zm 14 0,zo 15 (.len true (.t 14)),zo 16 (.mv (zi 0))] (.block 0 (.loop (zq [zb 17 .lss 16 15] (.seq (.cond (.t 17) .skip (.exit 0)) (.seq (.block 1 (zq [zm 18 16,zm 3 18] (zq [zm 19 0,zm 20 3,zo 21 (.idxS (.t 19) (.t 20)),zm 4 21] (zq [zm 22 4,zo 23 (.bin .leq (zu 97) (.t 22)),zm 24 23,zg 25 (.mv (.t 4)) 24 true,zg 26 (.bin .leq (.t 25) (zu 122)) 24 true,zo 27 (.pick (.t 24) (.t 26) (.c (.bool false))),zm 28 27,zg 29 (.mv (.t 4)) 28 false,zg 30 (.bin .leq (zu 65) (.t 29)) 28 false,zg 31 (.mv (.t 30)) 28 false,zg 32 (.mv (.t 4)) 31 true,zg 33 (.bin .leq (.t 32) (zu 90)) 31 true,zg 34 (.pick (.t 31) (.t 33) (.c (.bool false))) 28 false,zo 35 (.pick (.t 28) (.c (.bool true)) (.t 34)),zm 5 35] (zq [zm 36 5,zo 37 (.un .not (.t 36)),zm 38 37,zg 39 (.mv (.t 4)) 38 true,zg 40 (.bin .lss (.t 39) (zu 48)) 38 true,zg 41 (.mv (.t 40)) 38 true,zg 42 (.mv (.t 4)) 41 false,zg 43 (.bin .gtr (.t 42) (zu 57)) 41 false,zg 44 (.pick (.t 41) (.c (.bool true)) (.t 43)) 38 true,zo 45 (.pick (.t 38) (.t 44) (.c (.bool false))),zm 46 45,zg 47 (.mv (.t 4)) 46 true,zg 48 (.bin .neq (.t 47) (zu 95)) 46 true,zo 49 (.pick (.t 46) (.t 48) (.c (.bool false))),zm 50 49,zg 51 (.mv (.t 4)) 50 true,zg 52 (.bin .neq (.t 51) (zu 45)) 50 true,zo 53 (.pick (.t 50) (.t 52) (.c (.bool false))),zm 54 53,zg 55 (.mv (.t 4)) 54 true,zg 56 (.bin .neq (.t 55) (zu 46)) 54 true,zo 57 (.pick (.t 54) (.t 56) (.c (.bool false)))] (.cond (.t 57) (zq [zo 2 (.mv (.c (.bool false)))] .ret) .skip)))))) (.reg [zk 58 .add 16 1,zm 16 58]))))))) (zq [zo 2 (.mv (.c (.bool true)))] .ret))),[.t 2]⟩
theorem Oz:cN Tryz.prog 29=some NF:=by kernel_rfl
def c56:cg:=⟨7,zq [zo 3 (.mv (.c (.bool false)))] (zq [zl 4 1,zm 5 0,zx 6 55 [.t 4,zu 2,.t 5],zm 3 6] .ret),[.t 3]⟩
theorem Ob:cN Tryz.prog 56=some c56:=by kernel_rfl
def c57:cg:=⟨7,zq [zo 3 (.mv (.c (.bool false)))] (zq [zl 4 1,zm 5 0,zx 6 55 [.t 4,zu 3,.t 5],zm 3 6] .ret),[.t 3]⟩
theorem Oa:cN Tryz.prog 57=some c57:=by kernel_rfl
def M2:cg:=⟨31,zq [zo 4 (.mv (.c (.bool false)))] (zq [zo 6 (.build [zU 0,zI 0,zI 0,zI 0,.str [],.str []] [(0,1,zu 4)]),zo 5 (.new [zU 0,zI 0,zI 0,zI 0,.str [],.str []]),zp (.store 6 (.t 5) (.t 6))] (.seq (zq [zm 7 1,zh 8 7] (.block 0 (zq [zk 10 .eql 8 1,zm 9 10] (.cond (.t 9) (.reg [zm 11 1,zo 12 (.idxA 1 (.t 11) (zi 0)),zl 13 12,zx 14 80 [.t 13],zf 15 4 5,zs 15 14]) (zq [zk 17 .eql 8 2,zm 16 17] (.cond (.t 16) (.draw [zm 18 1,zo 19 (.idxA 1 (.t 18) (zi 0)),zl 20 19,zx 21 80 [.t 20],zm 22 1,zo 23 (.idxA 1 (.t 22) (zi 1)),zl 24 23,zx 25 80 [.t 24],zf 26 4 5,zs 26 21,zf 27 5 5,zs 27 25] [[],[],[],[],[],[],[3],[],[],[],[],[]]) .skip)))))) (zq [zm 28 0,zt 29 6 5,zx 30 79 [.t 28,.t 29],zm 4 30] .ret))),[.t 4]⟩
theorem N9:cN Tryz.prog 58=some M2:=by kernel_rfl
def O9:cg:=⟨59,zq [zo 4 (.mv (.c (.bool false)))] (zr [zm 7 1,zh 8 7,zk 9 .neq 8 5] 9 (zq [zo 4 (.mv (.c (.bool false)))] .ret) .skip (zq [zo 5 (.new [zI 0,zI 0,zI 0,zI 0,zI 0])] (zq [zf 10 0 5,zf 11 0 10,zm 6 11] (zr [zm 12 1,zo 13 (.sl 1 (.t 12) none (some (zi 4)) none),zm 14 6,zc 15 14,zf 16 0 15,zm 17 6,zc 18 17,zf 19 1 18,zm 20 6,zc 21 20,zf 22 2 21,zf 23 0 5,zf 24 3 23,zo 25 (.buildSl 4 [.ptr none] [(0,1,.t 16),(1,1,.t 19),(2,1,.t 22),(3,1,.t 24)]),zx 26 51 [.t 13,.t 25],zo 27 (.un .not (.t 26)),zm 28 27,zg 29 (.mv (.t 1)) 28 false,zg 30 (.idxA 1 (.t 29) (zi 4)) 28 false,zg 31 (.load false 1 (.t 30)) 28 false,zg 32 (.fieldA 4 (.t 5)) 28 false,zg 33 (.call 81 [.t 31,.t 32]) 28 false,zg 34 (.un .not (.t 33)) 28 false,zo 35 (.pick (.t 28) (.c (.bool true)) (.t 34))] 35 (zq [zo 4 (.mv (.c (.bool false)))] .ret) .skip (.seq (.draw [zm 36 0,zm 37 0,zc 38 37,zf 39 0 38,zf 40 19 39,zl 41 40,zt 42 5 5,zo 43 (.buildSl 1 [zI 0,zI 0,zI 0,zI 0,zI 0] [(0,5,.t 42)]),zo 44 (.append 5 40 (.t 41) (.t 43)),zc 45 36,zf 46 0 45,zf 47 19 46,zs 47 44] [[],[],[],[],[],[8],[],[],[],[],[],[],[]]) (zq [zt 48 5 5,zx 49 28 [.t 48],zm 50 49,zg 51 (.mv (.t 0)) 50 true,zg 52 (.nilChk (.t 51)) 50 true,zg 53 (.fieldA 0 (.t 52)) 50 true,zg 54 (.fieldA 19 (.t 53)) 50 true,zg 55 (.load false 1 (.t 54)) 50 true,zg 56 (.len false (.t 55)) 50 true,zg 57 (.bin .leq (.t 56) (zi 256)) 50 true,zo 58 (.pick (.t 50) (.t 57) (.c (.bool false))),zm 4 58] .ret)))))),[.t 4]⟩
theorem N8:cN Tryz.prog 59=some O9:=by kernel_rfl
def c81:cg:=⟨24,zq [zo 4 (.mv (.c (.bool false)))] (zq [zm 9 0,zx 10 77 [.t 9],zm 8 10,ze 11 0 8,ze 12 1 8,ze 13 2 8,zm 5 11,zm 6 12,zm 7 13] (zr [zm 14 7,zo 15 (.un .not (.t 14)),zm 16 15,zg 17 (.mv (.t 5)) 16 false,zg 18 (.bin .gtr (.t 17) (.c (.int .u64 (.ofNat 1073741824)))) 16 false,zo 19 (.pick (.t 16) (.c (.bool true)) (.t 18))] 19 (zq [zo 4 (.mv (.c (.bool false)))] .ret) .skip (zq [zm 20 1,zm 21 5,zv 22 .i64 21,zc 23 20,zs 23 22] (zq [zo 4 (.mv (.c (.bool true)))] .ret)))),[.t 4]⟩
theorem NR:cN Tryz.prog 81=some c81:=by kernel_rfl
def c28:cg:=⟨19,zq [zo 1 (.box (.t 0)),zo 2 (.mv (.c (.bool false)))] (zq [zf 3 0 1,zf 4 0 3,zt 5 3 4,zx 6 25 [.t 5],zm 7 6,zg 8 (.fieldA 0 (.t 1)) 7 true,zg 9 (.fieldA 3 (.t 8)) 7 true,zg 10 (.load false 1 (.t 9)) 7 true,zg 11 (.bin .lss (zi 0) (.t 10)) 7 true,zo 12 (.pick (.t 7) (.t 11) (.c (.bool false))),zm 13 12,zg 14 (.fieldA 0 (.t 1)) 13 true,zg 15 (.fieldA 3 (.t 14)) 13 true,zg 16 (.load false 1 (.t 15)) 13 true,zg 17 (.bin .leq (.t 16) (zi 42949672960000)) 13 true,zo 18 (.pick (.t 13) (.t 17) (.c (.bool false))),zm 2 18] .ret),[.t 2]⟩
theorem OA:cN Tryz.prog 28=some c28:=by kernel_rfl
def O8:cg:=⟨56,zq [zo 4 (.mv (.c (.bool false)))] (zr [zm 6 1,zh 7 6,zk 8 .neq 7 5] 8 (zq [zo 4 (.mv (.c (.bool false)))] .ret) .skip (zq [zm 9 1,zo 10 (.idxA 1 (.t 9) (zi 0)),zl 11 10,zx 12 80 [.t 11],zo 13 (.build [.str [],zI 0,zI 0,zI 0,zI 0] [(0,1,.t 12)]),zo 5 (.new [.str [],zI 0,zI 0,zI 0,zI 0]),zp (.store 5 (.t 5) (.t 13))] (zr [zm 14 1,zo 15 (.sl 1 (.t 14) (some (zi 1)) (some (zi 4)) none),zf 16 1 5,zx 17 47 [.t 15,.t 16],zo 18 (.un .not (.t 17)),zm 19 18,zg 20 (.mv (.t 1)) 19 false,zg 21 (.idxA 1 (.t 20) (zi 4)) 19 false,zg 22 (.load false 1 (.t 21)) 19 false,zg 23 (.fieldA 4 (.t 5)) 19 false,zg 24 (.call 81 [.t 22,.t 23]) 19 false,zg 25 (.un .not (.t 24)) 19 false,zo 26 (.pick (.t 19) (.c (.bool true)) (.t 25))] 26 (zq [zo 4 (.mv (.c (.bool false)))] .ret) .skip (.seq (.draw [zm 27 0,zm 28 0,zc 29 28,zf 30 0 29,zf 31 20 30,zl 32 31,zt 33 5 5,zo 34 (.buildSl 1 [.str [],zI 0,zI 0,zI 0,zI 0] [(0,5,.t 33)]),zo 35 (.append 5 48 (.t 32) (.t 34)),zc 36 27,zf 37 0 36,zf 38 20 37,zs 38 35] [[],[],[],[],[],[8],[],[],[],[],[],[],[]]) (zq [zf 39 0 5,zl 40 39,zx 41 29 [.t 40],zm 42 41,zg 43 (.fieldA 1 (.t 5)) 42 true,zg 44 (.load true 3 (.t 43)) 42 true,zg 45 (.call 25 [.t 44]) 42 true,zo 46 (.pick (.t 42) (.t 45) (.c (.bool false))),zm 47 46,zg 48 (.mv (.t 0)) 47 true,zg 49 (.nilChk (.t 48)) 47 true,zg 50 (.fieldA 0 (.t 49)) 47 true,zg 51 (.fieldA 20 (.t 50)) 47 true,zg 52 (.load false 1 (.t 51)) 47 true,zg 53 (.len false (.t 52)) 47 true,zg 54 (.bin .leq (.t 53) (zi 16)) 47 true,zo 55 (.pick (.t 47) (.t 54) (.c (.bool false))),zm 4 55] .ret))))),[.t 4]⟩
theorem N7:cN Tryz.prog 60=some O8:=by kernel_rfl
def c21:cg:=⟨8,zq [zo 4 (.mv zn)] (zq [zm 5 0,zm 6 1,zx 7 61 [.t 5,.t 6,zi 0,.c (.int .i64 (.negSucc 0))],zm 4 7] .ret),[.t 4]⟩
theorem OI:cN Tryz.prog 21=some c21:=by kernel_rfl
def c61:cg:=⟨66,zq [zo 8 (.mv zn)] (zr [zm 12 3,zk 13 .eql 12 0] 13 (zq [zo 8 (.mv zn)] .ret) .skip (zr [zm 14 1,zo 15 (.bin .eql (.t 14) (.c (.str [])))] 15 (zq [zm 16 0,zm 17 3,zx 18 82 [.t 16,.t 17],zm 8 18] .ret) .skip (zr [zm 19 3,zk 20 .lss 19 0] 20 (.reg [zm 21 0,zm 22 1,zx 23 83 [.t 21,.t 22],zk 24 .add 23 1,zm 3 24]) .skip (zq [zm 25 3,zm 26 0,zo 27 (.len true (.t 26)),zk 28 .add 27 1,zo 29 (.pf (.mm false) [.t 25,.t 28]),zm 3 29] (zq [zm 30 3,zo 31 (.mkSlice 16 [.str []] (.t 30) (.t 30)),zm 9 31] (zq [zm 32 3,zk 33 .sub 32 1,zm 3 33] (zq [zo 10 (.mv (zi 0))] (.seq (.block 0 (.loop (zr [zm 34 10,zm 35 3,zb 36 .lss 34 35] 36 .skip (.exit 0) (.block 1 (zq [zm 37 0,zm 38 1,zx 39 84 [.t 37,.t 38],zm 11 39] (zr [zm 40 11,zk 41 .lss 40 0] 41 (.exit 0) .skip (zq [zm 42 9,zm 43 10,zm 44 0,zm 45 11,zm 46 2,zb 47 .add 45 46,zo 48 (.slStr (.t 44) none (some (.t 47))),zd 49 42 43,zs 49 48] (zq [zm 50 0,zm 51 11,zm 52 1,zo 53 (.len true (.t 52)),zb 54 .add 51 53,zo 55 (.slStr (.t 50) (some (.t 54)) none),zm 0 55] (.reg [zm 56 10,zk 57 .add 56 1,zm 10 57]))))))))) (zq [zm 58 9,zm 59 10,zm 60 0,zd 61 58 59,zs 61 60] (zq [zm 62 9,zm 63 10,zk 64 .add 63 1,zo 65 (.sl 1 (.t 62) none (some (.t 64)) none),zm 8 65] .ret)))))))))),[.t 8]⟩
theorem N6:cN Tryz.prog 61=some c61:=by kernel_rfl
def c84:cg:=⟨8,zq [zo 4 (.mv (zi 0))] (zq [zm 5 0,zm 6 1,zx 7 99 [.t 5,.t 6],zm 4 7] .ret),[.t 4]⟩
theorem NP:cN Tryz.prog 84=some c84:=by kernel_rfl
def c22:cg:=⟨11,zq [zo 2 (.mv zn)] (zq [zm 4 0,zx 5 62 [.t 4,.c (.str [35])],zm 3 5,ze 6 0 3,ze 7 1 3,ze 8 2 3,zm 0 6] (zq [zm 9 0,zx 10 63 [.t 9,.f 64],zm 2 10] .ret)),[.t 2]⟩
theorem OH:cN Tryz.prog 22=some c22:=by kernel_rfl
def c63:cg:=⟨65,zq [zo 4 (.mv zn)] (zq [zo 12 (.mkSlice 16 [zI 0,zI 0] (zi 0) (zi 32)),zm 5 12] (zq [zo 6 (.mv (.c (.int .i64 (.negSucc 0))))] (.seq (zq [zm 13 0,zo 14 (.hf .strRange [.t 13])] (.block 0 (.loop (zq [zo 15 (.hf .strNext [.t 14]),ze 16 0 15] (.seq (.cond (.t 16) .skip (.exit 0)) (.block 1 (zq [ze 17 1 15,ze 18 2 15,zm 7 17,zm 8 18] (zq [zm 19 1,zm 20 8,zo 21 (.callv (.t 19) [.t 20])] (.cond (.t 21) (zq [zm 22 6,zk 23 .geq 22 0] (.cond (.t 23) (zq [zm 24 5,zm 25 6,zm 26 7,zo 27 (.build [zI 0,zI 0] [(0,1,.t 25),(1,1,.t 26)]),zo 28 (.buildSl 1 [zI 0,zI 0] [(0,2,.t 27)]),zo 29 (.append 2 16 (.t 24) (.t 28)),zm 5 29] (.reg [zm 30 6,zo 31 (.un .xor (.t 30)),zm 6 31])) .skip)) (zq [zm 32 6,zk 33 .lss 32 0] (.cond (.t 33) (.reg [zm 34 7,zm 6 34]) .skip))))))))))) (zr [zm 35 6,zk 36 .geq 35 0] 36 (.reg [zm 37 5,zm 38 6,zm 39 0,zo 40 (.len true (.t 39)),zo 41 (.build [zI 0,zI 0] [(0,1,.t 38),(1,1,.t 40)]),zo 42 (.buildSl 1 [zI 0,zI 0] [(0,2,.t 41)]),zo 43 (.append 2 16 (.t 37) (.t 42)),zm 5 43]) .skip (zq [zm 44 5,zh 45 44,zo 46 (.mkSlice 16 [.str []] (.t 45) (.t 45)),zm 9 46] (.seq (zq [zm 47 5,zh 48 47,zo 49 (.mv (zi 0))] (.block 2 (.loop (zq [zb 50 .lss 49 48] (.seq (.cond (.t 50) .skip (.exit 2)) (.seq (.block 3 (zq [zm 51 49,zo 52 (.idxA 2 (.t 47) (.t 49)),zt 53 2 52,zo 11 (.new [zI 0,zI 0]),zm 10 51,zp (.store 2 (.t 11) (.t 53))] (.reg [zm 54 9,zm 55 10,zm 56 0,zf 57 0 11,zl 58 57,zf 59 1 11,zl 60 59,zo 61 (.slStr (.t 56) (some (.t 58)) (some (.t 60))),zd 62 54 55,zs 62 61]))) (.reg [zk 63 .add 49 1,zm 49 63]))))))) (zq [zm 64 9,zm 4 64] .ret))))))),[.t 4]⟩
theorem N5:cN Tryz.prog 63=some c63:=by kernel_rfl
def c64:cg:=⟨13,zq [zo 2 (.mv (.c (.bool false)))] (zq [zm 3 0,zo 4 (.bin .eql (.t 3) (.c (.int .i32 (.ofNat 9)))),zm 5 4,zg 6 (.mv (.t 0)) 5 false,zg 7 (.bin .eql (.t 6) (.c (.int .i32 (.ofNat 13)))) 5 false,zo 8 (.pick (.t 5) (.c (.bool true)) (.t 7)),zm 9 8,zg 10 (.mv (.t 0)) 9 false,zg 11 (.bin .eql (.t 10) (.c (.int .i32 (.ofNat 32)))) 9 false,zo 12 (.pick (.t 9) (.c (.bool true)) (.t 11)),zm 2 12] .ret),[.t 2]⟩
theorem N4:cN Tryz.prog 64=some c64:=by kernel_rfl
def c23:cg:=⟨35,zq [zo 1 (.box (.t 0)),zo 2 (.mv (.c (.bool false)))] (zq [zo 8 (.mkFunc (.func 65) [] [.t 1]),zm 3 8] (.seq (zq [zf 9 19 1,zl 10 9,zh 11 10,zo 12 (.mv (zi 0))] (.block 0 (.loop (zq [zb 13 .lss 12 11] (.seq (.cond (.t 13) .skip (.exit 0)) (.seq (.block 1 (zq [zo 14 (.idxA 5 (.t 10) (.t 12)),zt 15 5 14,zo 5 (.new [zI 0,zI 0,zI 0,zI 0,zI 0]),zp (.store 5 (.t 5) (.t 15))] (zq [zm 16 3,zf 17 4 5,zl 18 17,zo 19 (.callv (.t 16) [.t 18]),zo 20 (.un .not (.t 19))] (.cond (.t 20) (zq [zo 2 (.mv (.c (.bool false)))] .ret) .skip)))) (.reg [zk 21 .add 12 1,zm 12 21]))))))) (.seq (zq [zf 22 20 1,zl 23 22,zh 24 23,zo 25 (.mv (zi 0))] (.block 2 (.loop (zq [zb 26 .lss 25 24] (.seq (.cond (.t 26) .skip (.exit 2)) (.seq (.block 3 (zq [zo 27 (.idxA 5 (.t 23) (.t 25)),zt 28 5 27,zo 7 (.new [.str [],zI 0,zI 0,zI 0,zI 0]),zp (.store 5 (.t 7) (.t 28))] (zq [zm 29 3,zf 30 4 7,zl 31 30,zo 32 (.callv (.t 29) [.t 31]),zo 33 (.un .not (.t 32))] (.cond (.t 33) (zq [zo 2 (.mv (.c (.bool false)))] .ret) .skip)))) (.reg [zk 34 .add 25 1,zm 25 34]))))))) (zq [zo 2 (.mv (.c (.bool true)))] .ret)))),[.t 2]⟩
theorem OG:cN Tryz.prog 23=some c23:=by kernel_rfl
def ND:cg:=⟨13,zq [zo 3 (.mv (.c (.bool false)))] (zq [zm 4 0,zo 5 (.bin .leq (zi 0) (.t 4)),zm 6 5,zg 7 (.mv (.t 0)) 6 true,zg 8 (.fieldA 18 (.t 1)) 6 true,zg 9 (.load false 1 (.t 8)) 6 true,zg 10 (.len false (.t 9)) 6 true,zg 11 (.bin .lss (.t 7) (.t 10)) 6 true,zo 12 (.pick (.t 6) (.t 11) (.c (.bool false))),zm 3 12] .ret),[.t 3]⟩
theorem N3:cN Tryz.prog 65=some ND:=by kernel_rfl
end
end Go.Proofs.Wo
