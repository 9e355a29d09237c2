/- Part of a proof (VD22 VD23 VD24 VSh VN1 L1 VDoor); no condition. -/
import Derived.Shelf.Strings.OnBuilder
import Derived.Shelf.LaysM
import Derived.Shelf.Strconv.Clone
import Derived.Shelf.Strings.Repeat
import Derived.Test.YtacaginbdjepcaaGreatDoorProg
import Derived.WalkKit
import Derived.Below
import Derived.ChangeSame
import Derived.ReadAgain
import Derived.OpenShut
import Derived.ProofKit
import Derived.Test.YtacaginbdjepcaaGreatDoorRows
import Derived.LaidLaws
import Derived.LaidHandle
import Derived.Lay
import Derived.Test.YtacaginbdjepcaaGreatDoorP6
import Derived.Test.YtacaginbdjepcaaGreatDoorP8
import Derived.Test.YtacaginbdjepcaaGreatDoorP11
set_option linter.unusedSimpArgs false
set_option linter.unusedVariables false
set_option linter.unnecessarySimpa false
namespace Go.Proofs.Wo
open Go.Abs Go.Abs.S
def Cl:Sc:={ bY with w:=2,h:=1,ms:=[⟨1,⟨4294967296,2147483648,0⟩,[],[]⟩],bs:=[⟨⟨0,0,0⟩,4294967296,0⟩] }
def Lk:Bs:=[115,105,122,101,32,50,32,49,10,100,105,102,102,117,115,101,32,49,32,48,46,53,32,48,10,98,97,108,108,32,48,32,48,32,48,32,49,32,48]
theorem aw0:aX Lk=.ok Cl:=by kernel_rfl
def Lj:Bs:=[115,105,122,101,32,50]
theorem aw1:aX Lj=.error (130,1):=by kernel_rfl
def Li:Bs:=[115,105,122,101,32,50,32,50,10,115,105,122,101,32,50,32,50]
theorem Ns:aX Li=.error (130,2):=by kernel_rfl
def Lg:Bs:=[115,105,122,101,32,50,32,50,10,98,97,108,108,32,48,32,48,32,48,32,49,32,48]
theorem aw3:aX Lg=.error (130,0):=by kernel_rfl
def Lf:Bs:=[115,105,122,101,32,49,32,49,10,98,97,108,108,32,48,32,48,32,48,32,45,49,32,48]
theorem aw4:aX Lf=.error (130,2):=by kernel_rfl
def Kh:Bs:=[115,105,122,101,32,50,32,49,10,115,97,109,112,108,101,115,32,49,10,98,111,117,110,99,101,115,32,50,10,115,101,101,100,32,48,10,101,121,101,32,48,32,48,32,45,52,10]
def LL:Bs:=[97,116,32,48,32,48,32,48,10,117,112,32,48,32,49,32,48,10,119,105,100,101,32,49,10,115,107,121,32,48,32,48,32,48,10,100,105,102,102,117,115,101,32,49,32,48,46,53,32,48,10,98,97,108,108,32,48,32,48,32,48,32,49,32,48,10]
theorem vS{n:Nat}(h:n<10):eW (cg n)=[UInt8.ofNat (48+n)]:=by rw[iR h]; rfl
theorem nm0:aC 0=[48]:=by
 have:aC 0=eW (cg 0)++hJ 0:=rfl
 rw[this,vS dD]; rfl
theorem nm1:aC 4294967296=[49]:=by
 have:aC 4294967296=eW (cg 1)++hJ 0:=rfl
 rw[this,vS dD]; rfl
theorem nmh:aC 2147483648=[48,46,53]:=by
 have:aC 2147483648=eW (cg 0)++hJ 2147483648:=rfl
 rw[this,vS dD]; decide +kernel
theorem nm4:aC (-17179869184)=[45,52]:=by
 have:aC (-17179869184)=45::(eW (cg 4)++hJ 0):=rfl
 rw[this,vS dD]; rfl
theorem it0:du 0=[48]:=vS (n:=0) dD
theorem it1:du 1=[49]:=vS (n:=1) dD
theorem it2:du 2=[50]:=vS (n:=2) dD
theorem JV:eO Cl=Kh++LL:=by
 have h:eO Cl=aY [eK 0,du 2,du 1]++(aY [eK 1,du 1]++(aY [eK 2,du 2]++(aY [eK 3,eW (cg 0)]++(aY [eK 4,aC 0++32::(aC 0++32::aC (-17179869184))]++(aY [eK 5,aC 0++32::(aC 0++32::aC 0)]++(aY [eK 6,aC 0++32::(aC 4294967296++32::aC 0)]++(aY [eK 7,aC 4294967296]++aY [eK 8,aC 0++32::(aC 0++32::aC 0)])))))))
   ++ (aY [gQ 0,aC 4294967296++32::(aC 2147483648++32::aC 0)]++(aY [gQ 4,aC 0++32::(aC 0++32::aC 0),aC 4294967296,du 0])):=by
  simp only[eO,gz,Cl,bY,fF,List.flatMap_cons,List.flatMap_nil,List.append_nil,ef,gA]
 rw[h,nm0,nm1,nmh,nm4,it0,it1,it2,vS dD]
 decide +kernel
theorem JW:gO Cl=(Kh++LL,0):=by
 rw[gO,if_pos dD,JV,if_neg dD]
theorem Ll:pre (Kh++LL) Kh=true:=by decide
theorem fh(K:ae){xs ys:List af}(hx:xs.length=21)(ox:xs.all af.one=true)(hy:ys.length=2)(oy:ys.all af.one=true) :
  ∃A B C D,ey K nc=(ak K.next 21 0,A)/\ey A (fJ 0 0)=(ak (K.next+1) 2 0,B)/\bB 21 B (ak K.next 21 0) (.agg xs)=some C/\bB 2 C (ak (K.next+1) 2 0) (.agg ys)=some D/\Row D K.next xs/\Row D (K.next+1) ys/\D.next=K.next+2/\bw K.next K D:=by
 obtain⟨A,m1,r1,n1,k1⟩:=aP K nc (n:=21) rfl
 obtain⟨B,m2,r2,n2,k2⟩:=aP A (fJ 0 0) (n:=2) rfl
 rw[n1]at m2 r2
 obtain⟨C,m3,r3,n3,k3⟩:=bA (n:=21) (r1.same (k2 _ om)) rfl hx ox
 obtain⟨D,m4,r4,n4,k4⟩:=bA (n:=2) (r2.same (k3 _ om)) rfl hy oy
 exact⟨A,B,C,D,m1,m2,m3,m4,r3.same (k4 _ om),r4,om,om,fun c hc=>by rw[k4 c om,k3 c om,k2 c om,k1 c om]⟩
theorem zA{P:Nat->Prop}{H:ae}{s:Sc}{vm vb vu:af}(I:jP P H s vm vb vu):(fH s vm vb vu).all af.one=true:=by
 simp only[fH,List.all_cons,List.all_nil,I.m.one,I.b.one,I.u.one,Bool.and_true]; rfl
theorem JB(a b:Nat):jj (.eqS false [(0,.int),(1,.int)]) [.agg (fJ a b),.agg (fJ a b)]=some (.bool true):=by
 simp[jj,fJ,wK,dm,Kg,Ha,G9,iQ]
set_option maxHeartbeats 1000000 in
set_option maxRecDepth 20000 in
theorem yD{H:ae}(h0:0<H.next)(G:nO H 0 iL):an Tryz.prog aE 5 [] H fun v H'=>v=.bool true/\bw H.next H H':=by
 refine ai rfl za5 rfl ?_
 have z21:[af.int .i64 0,.int .i64 0,.int .i64 0,.int .i64 0,.int .u64 0,.int .i64 0,.int .i64 0,.int .i64 0,.int .i64 0,.int .i64 0,.int .i64 0,.int .i64 0,.int .i64 0,.int .i64 0,.int .i64 0,.int .i64 0,.int .i64 0,.int .i64 0,.slice none 0 (.known 0),.slice none 0 (.known 0),.slice none 0 (.known 0)]=nc:=rfl
 have z2:[af.int .i64 0,.int .i64 0]=fJ 0 0:=rfl
 simp only[c5,sA,sB,seval,z21,z2]
 refine (d7 _).mono ?_
 rintro _ A0 ha0
 have ha0:wM (aX Lk) H _ A0:=ha0
 rw[aw0]at ha0
 obtain⟨x0,vm,vb,vu,rfl,I0⟩:=ha0
 obtain⟨a0,b0,c0,D0,m01,m02,m03,m04,r0,f0,n0,y0⟩:=fh A0 (xs:=fH Cl vm vb vu) (ys:=fJ 0 0) rfl (zA I0) rfl (gF _ _)
 have g0:=x0.next
 simp only[sA,sB,seval,bT,bS,m01,m02,m03,m04]
 have e0:bw H.next H D0:=x0.trans (y0.less g0)
 have I1:jP (·<D0.next) D0 Cl vm vb vu:=I0.mono fun c hc=>⟨om,y0.old c hc.2⟩
 refine (d7 _).mono ?_
 rintro _ A1 ha1
 have ha1:wM (aX Lj) D0 _ A1:=ha1
 rw[aw1]at ha1
 obtain⟨x1,rfl⟩:=ha1
 obtain⟨a1,b1,c1,D1,m11,m12,m13,m14,r1,f1,n1,y1⟩:=fh A1 (xs:=nc) (ys:=fJ 130 1) rfl rfl rfl (gF _ _)
 have g1:=x1.next
 simp only[sA,sB,seval,bT,bS,m11,m12,m13,m14]
 have e1:bw D0.next D0 D1:=x1.trans (y1.less g1)
 refine (d7 _).mono ?_
 rintro _ A2 ha2
 have ha2:wM (aX Li) D1 _ A2:=ha2
 rw[Ns]at ha2
 obtain⟨x2,rfl⟩:=ha2
 obtain⟨a2,b2,c2,D2,m21,m22,m23,m24,r2,f2,n2,y2⟩:=fh A2 (xs:=nc) (ys:=fJ 130 2) rfl rfl rfl (gF _ _)
 have g2:=x2.next
 simp only[sA,sB,seval,bT,bS,m21,m22,m23,m24]
 have e2:bw D0.next D0 D2:=e1.trans ((x2.trans (y2.less g2)).less e1.next)
 refine (d7 _).mono ?_
 rintro _ A3 ha3
 have ha3:wM (aX Lg) D2 _ A3:=ha3
 rw[aw3]at ha3
 obtain⟨x3,rfl⟩:=ha3
 obtain⟨a3,b3,c3,D3,m31,m32,m33,m34,r3,f3,n3,y3⟩:=fh A3 (xs:=nc) (ys:=fJ 130 0) rfl rfl rfl (gF _ _)
 have g3:=x3.next
 simp only[sA,sB,seval,bT,bS,m31,m32,m33,m34]
 have e3:bw D0.next D0 D3:=e2.trans ((x3.trans (y3.less g3)).less e2.next)
 refine (d7 _).mono ?_
 rintro _ A4 ha4
 have ha4:wM (aX Lf) D3 _ A4:=ha4
 rw[aw4]at ha4
 obtain⟨x4,rfl⟩:=ha4
 obtain⟨a4,b4,c4,D4,m41,m42,m43,m44,r4,f4,n4,y4⟩:=fh A4 (xs:=nc) (ys:=fJ 130 2) rfl rfl rfl (gF _ _)
 have g4:=x4.next
 simp only[sA,sB,seval,bT,bS,m41,m42,m43,m44]
 have e4:bw D0.next D0 D4:=e3.trans ((x4.trans (y4.less g4)).less e3.next)
 have d1:=e1.next
 have d2:=e2.next
 have d3:=e3.next
 have d4:=e4.next
 have R0:Row D4 A0.next (fH Cl vm vb vu):=r0.up e4 om
 have I4:jP (·<D4.next) D4 Cl vm vb vu:=(I1.up e4).mono fun c hc=>⟨om,rfl⟩
 have e5:bw H.next H D4:=e0.trans (e4.less om)
 have L0:=aW 21 0 21 R0 rfl (xs:=fH Cl vm vb vu) om rfl
 simp only[sA,sB,seval,L0]
 refine (Bu I4 dD om (G.ext h0 e5)).mono ?_
 rintro _ D5 ⟨rfl,x5⟩
 rw[JW]
 have e6:bw D0.next D0 D5:=e4.trans (x5.less d4)
 have I5:=I4.up x5
 have R5:Row D5 A0.next (fH Cl vm vb vu):=R0.up x5 om
 have F0:Row D5 (A0.next+1) (fJ 0 0):=f0.up e6 om
 have F1:Row D5 (A1.next+1) (fJ 130 1):=((((f1).up (x2.trans (y2.less g2)) om).up (x3.trans (y3.less g3)) om).up (x4.trans (y4.less g4)) om).up x5 om
 have F2:Row D5 (A2.next+1) (fJ 130 2):=(((f2).up (x3.trans (y3.less g3)) om).up (x4.trans (y4.less g4)) om).up x5 om
 have F3:Row D5 (A3.next+1) (fJ 130 0):=((f3).up (x4.trans (y4.less g4)) om).up x5 om
 have F4:Row D5 (A4.next+1) (fJ 130 2):=(f4).up x5 om
 have s0:=ap 21 0 R5 rfl rfl
 have s1:=ap 21 1 R5 rfl rfl
 have s18:=ap 21 18 R5 rfl rfl
 have s19:=ap 21 19 R5 rfl rfl
 have Ns:Cl.w=2:=rfl
 have ah1:Cl.h=1:=rfl
 rw[Ns]at s0
 rw[ah1]at s1
 have l18:fD false vm=some (.int .i64 1):=I5.m.len
 have l19:fD false vb=some (.int .i64 1):=I5.b.len
 have q0:=ap 2 0 F0 rfl rfl
 have q1:=dH (n:=2) F1 rfl
 have q2:=dH (n:=2) F2 rfl
 have q3:=dH (n:=2) F3 rfl
 have q4:=dH (n:=2) F4 rfl
 have b1:bQ (fJ 0 0) [(0,1,.int .i64 130),(1,1,.int .i64 1)]=some (.agg (fJ 130 1)):=rfl
 have b2:bQ (fJ 0 0) [(0,1,.int .i64 130),(1,1,.int .i64 2)]=some (.agg (fJ 130 2)):=rfl
 have b3:bQ (fJ 0 0) [(0,1,.int .i64 130)]=some (.agg (fJ 130 0)):=rfl
 have hz0:(((0:Nat):Int))=0:=rfl
 simp only[sA,sB,seval,bT,bS,z2,aF,q0,s0,s1,s18,s19,l18,l19,q1,q2,q3,q4,b1,b2,b3,JB,hz0]
 refine (DE rfl rfl (Kh++LL) Kh).mono ?_
 rintro _ _ ⟨rfl,rfl⟩
 rw[Ll]
 simp only[sA,sB,seval]
 exact⟨tt,e5.trans (x5.less om)⟩
open Go.Abs Go.Abs.S
theorem Lm(n:Int):∃m:Nat,m<4/\bV .and (.int .i64 n) (.int .i64 3)=some (.int .i64 (m:Int)):=by
 have hlt:(BitVec.ofInt IntKind.i64.bits n &&& BitVec.ofInt IntKind.i64.bits 3).toNat<4:=by
  rw[BitVec.toNat_and]
  exact Nat.lt_of_le_of_lt Nat.and_le_right dD
 refine⟨_,hlt,?_⟩
 simp only[bV,bZ,cond_false,if_true,cy,ji]
 rw[CD om]
theorem uT(l:Bs):∀c,Lib.repeatL l c=(List.replicate c l).flatten
 | 0=>rfl
 | c+1=>by rw[Lib.repeatL,uT l c,List.replicate_succ,List.flatten_cons]
theorem vU(a b:Bool):jj (.eqv false .bool) [.bool a,.bool b]=some (.bool (a==b)):=by cases a <;> cases b <;> rfl
theorem Dy{l:Bs}{c:Nat}(hc:c<=1000)(hl:l.length<=100){H:ae}:an Tryz.prog aE 11 [.str l,.int .i64 (c:Int)] H fun v H'=>v=.str ((List.replicate c l).flatten)/\H=H':=by
 refine jd (v:=.str ((List.replicate c l).flatten)) (H':=H) rfl ?_ ⟨rfl,rfl⟩
 have h1:l.length*c<=100*1000:=Nat.mul_le_mul hl hc
 show ma H [.str l,.int .i64 (.ofNat c)]=_
 simp only[ma,uT,NB (show c<=9223372036854775807 by omega),NB (show l.length*c<=140737488355328 by omega),Bool.and_self,cond_true]
theorem mQ{H:ae}{b most k:Nat}{d:Int}{line:Bs}(R:Row H b [.int .i64 d])(hb:b<H.next)(hm:most<=500)(hd:-2<=d/\d<=2)(hk:(k:Int)=(most:Int)+d)(hl:line.length<=50)
  (h1:d<=0->∃s,aX (ki line k)=.ok s) (h2:0<d->∃n,aX (ki line k)=.error (130,n)) :
  an Tryz.prog aE 10 [.str line,.int .i64 (most:Int),ak b 1 0] H fun v H'=>v=.bool true/\bw H.next H H':=by
 refine ai rfl M1 rfl ?_
 have z21:[af.int .i64 0,.int .i64 0,.int .i64 0,.int .i64 0,.int .u64 0,.int .i64 0,.int .i64 0,.int .i64 0,.int .i64 0,.int .i64 0,.int .i64 0,.int .i64 0,.int .i64 0,.int .i64 0,.int .i64 0,.int .i64 0,.int .i64 0,.int .i64 0,.slice none 0 (.known 0),.slice none 0 (.known 0),.slice none 0 (.known 0)]=nc:=rfl
 have z2:[af.int .i64 0,.int .i64 0]=fJ 0 0:=rfl
 have l0:=ap 1 0 R rfl rfl
 have s1:=jS (x:=line) (y:=[10]) (by simp; omega)
 have w:IntKind.i64.wrap ((most:Int)+d)=(k:Int):=by rw[aR om om,hk]
 simp only[c10,sA,sB,seval,s1,l0,w]
 refine (Dy (l:=line++[10]) (c:=k) om (by simp; omega)).mono ?_
 rintro _ _ ⟨rfl,rfl⟩
 have hlen:(List.replicate k (line++[10])).flatten.length<=1000000:=by
  rw[iI]
  have e:(line++[10]).length=line.length+1:=by simp
  have:k*(line++[10]).length<=1000*100:=Nat.mul_le_mul om om
  omega
 have hdl:vD.length=54:=rfl
 have s2:=jS (x:=vD) (y:=(List.replicate k (line++[10])).flatten) om
 have s2':bV .add (.str vD) (.str (List.replicate k (line++[10])).flatten)=some (.str (ki line k)):=s2
 have hh:vD=[115,105,122,101,32,49,48,50,52,32,49,10,115,97,109,112,108,101,115,32,54,52,10,98,111,117,110,99,101,115,32,56,10,119,105,100,101,32,49,48,48,10,103,108,111,119,32,54,52,32,48,32,48,10]:=rfl
 rw[hh]at s2'
 simp only[sA,sB,seval,s2']
 refine (d7 _).mono ?_
 rintro _ K1 h
 have f0:((0:Nat):Int)=0:=rfl
 by_cases hp:d<=0
 ·obtain⟨s,hs⟩:=h1 hp
  rw[hs]at h
  obtain⟨x1,vm,vb,vu,rfl,I⟩:=h
  have x1n:=x1.next
  obtain⟨A,B,C,D,m1,m2,m3,m4,r,f,n,y⟩:=fh K1 (xs:=fH s vm vb vu) (ys:=fJ 0 0) rfl (zA I) rfl (gF _ _)
  have R4:=(R.up x1 hb).up y om
  have ld:=ap 1 0 R4 rfl rfl
  have q0:=ap 2 0 f rfl rfl
  have ls:=aW 21 0 21 r rfl (xs:=fH s vm vb vu) om rfl
  have ID:jP (·<D.next) D s vm vb vu:=I.mono fun c hc=>⟨om,y.old c hc.2⟩
  simp only[sA,sB,seval,bT,bS,z21,z2,m1,m2,m3,m4,aF,q0,ld,hp,vU,BEq.rfl,ls,f0]
  refine (vV ID).mono ?_
  rintro _ K2 ⟨rfl,x2⟩
  rw[(BD hs).1]
  have e0:Hb true=.int .i64 0:=rfl
  simp only[sA,sB,seval,e0]
  exact⟨tt,x1.trans ((y.less x1n).trans (x2.less om))⟩
 ·obtain⟨ln,hs⟩:=h2 om
  rw[hs]at h
  obtain⟨x1,rfl⟩:=h
  have x1n:=x1.next
  obtain⟨A,B,C,D,m1,m2,m3,m4,r,f,n,y⟩:=fh K1 (xs:=nc) (ys:=fJ 130 ln) rfl rfl rfl (gF _ _)
  have R4:=(R.up x1 hb).up y om
  have ld:=ap 1 0 R4 rfl rfl
  have q0:=ap 2 0 f rfl rfl
  have f130:((130:Nat):Int)=130:=rfl
  simp only[sA,sB,seval,bT,bS,z21,z2,m1,m2,m3,m4,aF,q0,ld,hp,vU,BEq.rfl,f130]
  exact⟨tt,x1.trans (y.less x1n)⟩
theorem Ck:bQ [.str [],.str [],.str [],.str [],.str [],.str [],.str [],.str [],.str [],.str [],.str [],.str [],.str []] [(0,1,.str [115,105,122,101,32,49,48,50,53,32,49]),(1,1,.str [115,105,122,101,32,48,32,49]),(2,1,.str [115,105,122,101,32,49,32,49,10,115,97,109,112,108,101,115,32,54,53]),(3,1,.str [115,105,122,101,32,49,32,49,10,115,97,109,112,108,101,115,32,48]),(4,1,.str [115,105,122,101,32,49,32,49,10,98,111,117,110,99,101,115,32,57]),(5,1,.str [115,105,122,101,32,49,32,49,10,119,105,100,101,32,48]),(6,1,.str [115,105,122,101,32,49,32,49,10,119,105,100,101,32,49,48,48,46,49]),(7,1,.str [115,105,122,101,32,49,32,49,10,115,107,121,32,54,53,32,48,32,48]),(8,1,.str [115,105,122,101,32,49,32,49,10,109,105,114,114,111,114,32,49,46,49,32,48,32,48]),(9,1,.str [115,105,122,101,32,49,32,49,10,101,121,101,32,49,48,48,48,49,32,48,32,48]),(10,1,.str [115,105,122,101,32,49,32,49,10,115,101,101,100,32,49,56,52,52,54,55,52,52,48,55,51,55,48,57,53,53,49,54,49,54]),(11,1,.str [115,105,122,101,32,49,32,49,10,102,111,103,32,49]),(12,1,.str [115,97,109,112,108,101,115,32,49])]=some (.agg (bM qP)):=rfl
theorem Hs{i:Nat}{t:Bs}(h:qP[i]?=some t):yK 13 1 false (.agg (bM qP)) (.int .i64 (i:Int))=some (.str t):=by
 have hl:=(NA.1 h).1
 have hb:Nat.blt i 13=true:=by
  have:qP.length=13:=rfl
  simp[Nat.blt_eq]; omega
 show (bif Nat.blt i 13 then eM false 1 (i*1) (bM qP) else none)=_
 rw[hb,cond_true,Nat.mul_one]
 exact dB h
set_option maxHeartbeats 1000000 in
set_option maxRecDepth 20000 in
theorem nD{H:ae}{n:Int}(h0:0<H.next)(G:nO H 0 iL):an Tryz.prog aE 4 [.int .i64 n] H fun v H'=>v=.bool true/\bw H.next H H':=by
 refine ai rfl za4 rfl ?_
 have z21:[af.int .i64 0,.int .i64 0,.int .i64 0,.int .i64 0,.int .u64 0,.int .i64 0,.int .i64 0,.int .i64 0,.int .i64 0,.int .i64 0,.int .i64 0,.int .i64 0,.int .i64 0,.int .i64 0,.int .i64 0,.int .i64 0,.int .i64 0,.int .i64 0,.slice none 0 (.known 0),.slice none 0 (.known 0),.slice none 0 (.known 0)]=nc:=rfl
 have z2:[af.int .i64 0,.int .i64 0]=fJ 0 0:=rfl
 obtain⟨m,hm,ea⟩:=Lm n
 obtain⟨H1,m1,r1,n1,k1⟩:=aP H [.int .i64 n] (n:=1) rfl
 have e1:=dJ n1 k1
 have ca:(af.int .i64 n).cells=[.int .i64 n]:=rfl
 have l0:=ap 1 0 r1 rfl rfl
 obtain⟨d,hd,hd4⟩:∃d:Int,(-2<=d/\d<=2)/\d=((m+4) % 5:Nat)-2:=⟨_,om,rfl⟩
 have w1:IntKind.i64.wrap ((m:Int)+4)=((m+4:Nat):Int):=by rw[aR om om]; omega
 have w2:=Fdd (m+4) 5 om
 have w3:IntKind.i64.wrap (((m+4) % 5:Nat)-2)=d:=by rw[aR om om,hd4]
 simp only[Int.cast_ofNat_Int]at w2
 obtain⟨H2,m2,r2,n2,k2⟩:=bj r1 (n:=1) rfl (i:=0) om (x:=.int .i64 d) rfl
 have r2':Row H2 H.next [.int .i64 d]:=r2
 have e2:bw H.next H H2:=⟨om,fun c hc=>by rw[k2 c om,k1 c om]⟩
 simp only[c4,sA,sB,seval,ca,m1,l0,ea,w1,w2,w3,m2]
 obtain⟨a,ha⟩:∃a:Nat,(a:Int)=(256:Nat)+d:=⟨((256:Nat)+d).toNat,om⟩
 obtain⟨b,hb⟩:∃a:Nat,(a:Int)=(16:Nat)+d:=⟨((16:Nat)+d).toNat,om⟩
 obtain⟨c,hc⟩:∃a:Nat,(a:Int)=(63:Nat)+d:=⟨((63:Nat)+d).toNat,om⟩
 refine (mQ (most:=256) (k:=a) (line:=pw) r2' om om hd ha dD (fun h=>(vo a om).1 om) (fun h=>(vo a om).2 om)).mono ?_
 rintro _ K1 ⟨rfl,x1⟩
 have x1n:=x1.next
 simp only[sA,sB,seval]
 refine (mQ (most:=16) (k:=b) (line:=pv) (r2'.up x1 om) om om hd hb dD (fun h=>(vn b om).1 om) (fun h=>(vn b om).2 om)).mono ?_
 rintro _ K2 ⟨rfl,x2⟩
 have x2':=x1.trans (x2.less x1n)
 have x2n:=x2'.next
 simp only[sA,sB,seval]
 refine (mQ (most:=63) (k:=c) (line:=pu) (r2'.up x2' om) om om hd hc dD (fun h=>(vk c om).1 om) (fun h=>(vk c om).2 om)).mono ?_
 rintro _ K3 ⟨rfl,x3⟩
 have x3':=e2.trans ((x2'.trans (x3.less x2n)).less om)
 simp only[sA,sB,seval,Ck]
 refine ft (fun (T:bK) K=>bw H.next H K) (bP _ _) ?_ ?_
 ·refine bL (fun q (T:bK) K=>∃i:Nat,i<=13/\q=13-i/\bw H.next H K/\T 27=.agg (bM qP)/\T 28=.int .i64 (i:Int)) 13
   ⟨0,om,om,x3',by simp only[sA,sB,seval],by simp only[sA,sB,seval]⟩ ?_
  rintro q T K ⟨i,hi,rfl,E,g27,g28⟩
  by_cases hlt:i<13
  ·have hlt':(i:Int)<13:=om
   obtain⟨t,ht⟩:=aO (show i<qP.length from hlt)
   obtain⟨l,hl⟩:=Ht t (NH ht)
   simp only[sA,sB,seval,g27,g28,hlt',Hs ht]
   refine (d7 t).mono ?_
   rintro _ K1 h
   rw[hl]at h
   obtain⟨x1,rfl⟩:=h
   have En:=E.next
   have x1n:=x1.next
   obtain⟨A,B,C,D,m1,m2,m3,m4,r,f,n,y⟩:=fh K1 (xs:=nc) (ys:=fJ 130 l) rfl rfl rfl (gF _ _)
   have q0:=ap 2 0 f rfl rfl
   have f130:((130:Nat):Int)=130:=rfl
   simp only[sA,sB,seval,bT,bS,z21,z2,m1,m2,m3,m4,aF,q0,f130,g28,cF i om]
   exact⟨_,om,i+1,om,rfl,E.trans ((x1.trans (y.less x1n)).less En),tt,tt⟩
  ·have hlt':¬(i:Int)<13:=om
   simp only[sA,sB,seval,g28,hlt']
   exact E
 rintro T K E
 have En:=E.next
 simp only[sA,sB,seval]
 refine (yD om (G.ext h0 E)).mono ?_
 rintro _ K4 ⟨rfl,x4⟩
 simp only[sA,sB,seval]
 exact⟨tt,E.trans (x4.less En)⟩
open Go.Abs Go.Abs.S
end Go.Proofs.Wo
namespace Go.Proofs
open Go.Shelf
def Tryz.lays156_ren:Go.Shelf.Ren:=⟨fun | 156=>36 | 165=>31 | 166=>32 | 169=>34 | 240=>69 | 241=>70 | 276=>86 | 277=>87 | n=>n,fun | 31=>72 | 9=>9 | 3=>3 | 4=>4 | 0=>0 | 20=>20 | 72=>89 | 76=>93 | 70=>87 | 37=>47 | 75=>92 | 127=>120 | 164=>140 | 5=>5 | 80=>96 | n=>n,fun | n=>n⟩
theorem Tryz.lays156:Go.Proofs.Lays.n156 Tryz.prog Tryz.lays156_ren:={
 mixed:=by kernel_rfl
 f156:=Tryz.func36.trans (congrArg some (by kernel_rfl))
 f165:=Tryz.func31.trans (congrArg some (by kernel_rfl))
 f166:=Tryz.func32.trans (congrArg some (by kernel_rfl))
 f169:=Tryz.func34.trans (congrArg some (by kernel_rfl))
 f240:=Tryz.func69.trans (congrArg some (by kernel_rfl))
 f241:=Tryz.func70.trans (congrArg some (by kernel_rfl))
 f276:=Tryz.func86.trans (congrArg some (by kernel_rfl))
 f277:=Tryz.func87.trans (congrArg some (by kernel_rfl))
 t0:=Tryz.underlying0
 a0:=Tryz.isAgg0
 z0:=Tryz.sizeOf0
 v0:=Tryz.zeroValue0
 t3:=Tryz.underlying3
 a3:=Tryz.isAgg3
 z3:=Tryz.sizeOf3
 v3:=Tryz.zeroValue3
 t4:=Tryz.underlying4
 a4:=Tryz.isAgg4
 z4:=Tryz.sizeOf4
 v4:=Tryz.zeroValue4
 t9:=Tryz.underlying9
 a9:=Tryz.isAgg9
 z9:=Tryz.sizeOf9
 v9:=Tryz.zeroValue9
 t20:=Tryz.underlying20
 a20:=Tryz.isAgg20
 z20:=Tryz.sizeOf20
 v20:=Tryz.zeroValue20
 t31:=Tryz.underlying72
 a31:=Tryz.isAgg72
 z31:=Tryz.sizeOf72
 v31:=Tryz.zeroValue72
 t37:=Tryz.underlying47
 a37:=Tryz.isAgg47
 z37:=Tryz.sizeOf47
 v37:=Tryz.zeroValue47
 t70:=Tryz.underlying87
 a70:=Tryz.isAgg87
 z70:=Tryz.sizeOf87
 v70:=Tryz.zeroValue87
 t72:=Tryz.underlying89
 a72:=Tryz.isAgg89
 z72:=Tryz.sizeOf89
 v72:=Tryz.zeroValue89
 t75:=Tryz.underlying92
 a75:=Tryz.isAgg92
 z75:=Tryz.sizeOf92
 v75:=Tryz.zeroValue92
 t76:=Tryz.underlying93
 a76:=Tryz.isAgg93
 z76:=Tryz.sizeOf93
 v76:=Tryz.zeroValue93
 t127:=Tryz.underlying120
 a127:=Tryz.isAgg120
 z127:=Tryz.sizeOf120
 v127:=Tryz.zeroValue120
 t164:=Tryz.underlying140
 a164:=Tryz.isAgg140
 z164:=Tryz.sizeOf140
 v164:=Tryz.zeroValue140 }
theorem Tryz.Builder_Extra_156:Builder.Extra Tryz.prog Tryz.lays156_ren:={
 sizeBuilder:=by kernel_rfl
 liesBuilder:=by kernel_rfl
 t5:=Tryz.underlying5
 a5:=Tryz.isAgg5
 z5:=Tryz.sizeOf5
 v5:=Tryz.zeroValue5
 infoByte:=by kernel_rfl
 cellsByte:=by kernel_rfl
 sizeByte:=by kernel_rfl
 neB5:=by decide }
open Go.RowKit in
theorem Tryz.strings_Join(bk o c:Nat)(xs:List ByteArray)(sep:ByteArray)(w:World)(hcells:∀(j:Nat) x,xs[j]?=some x->w.cell? ⟨bk,o+j,none⟩=some (.string x))(hbk:bk<w.heap.size)(hN:xs.length<=140737488355328)(hcap:xs.length<=c)(hlen:(Lib.join (xs.map (·.data.toList)) sep.data.toList).length<=140737488355328) :
  Calls Tryz.prog 36 #[.slice (some ⟨bk,o,none⟩) xs.length c,.string sep] w fun e w'=>e=.returned (.string ⟨(Lib.join (xs.map (·.data.toList)) sep.data.toList).toArray⟩)/\Below w.heap.size w w':=Any.strings_Join Tryz.lays156 Tryz.Builder_Extra_156 bk o c xs sep w hcells hbk hN hcap hlen
def Tryz.laysM316_ren:Go.Shelf.Ren:=⟨fun | 316=>95 | n=>n,fun | 9=>9 | 3=>3 | 4=>4 | 37=>47 | 0=>0 | 127=>120 | 5=>5 | n=>n,fun | n=>n⟩
theorem Tryz.laysM316:Go.Proofs.LaysM.n316 Tryz.prog Tryz.laysM316_ren:={
 mixed:=by kernel_rfl
 f316:=Tryz.func95.trans (congrArg some (by kernel_rfl))
 t0:=Tryz.underlying0
 a0:=Tryz.isAgg0
 z0:=Tryz.sizeOf0
 v0:=Tryz.zeroValue0
 t3:=Tryz.underlying3
 a3:=Tryz.isAgg3
 z3:=Tryz.sizeOf3
 v3:=Tryz.zeroValue3
 t4:=Tryz.underlying4
 a4:=Tryz.isAgg4
 z4:=Tryz.sizeOf4
 v4:=Tryz.zeroValue4
 t9:=Tryz.underlying9
 a9:=Tryz.isAgg9
 z9:=Tryz.sizeOf9
 v9:=Tryz.zeroValue9
 t37:=Tryz.underlying47
 a37:=Tryz.isAgg47
 z37:=Tryz.sizeOf47
 v37:=Tryz.zeroValue47
 t127:=Tryz.underlying120
 a127:=Tryz.isAgg120
 z127:=Tryz.sizeOf120
 v127:=Tryz.zeroValue120
 t5:=Tryz.underlying5
 a5:=Tryz.isAgg5
 z5:=Tryz.sizeOf5
 v5:=Tryz.zeroValue5
 i0:=by kernel_rfl
 i3:=by kernel_rfl
 i4:=by kernel_rfl
 i5:=by kernel_rfl
 i9:=by kernel_rfl
 i37:=by kernel_rfl
 i127:=by kernel_rfl }
open Go.RowKit in
theorem Tryz.stringslite_Clone(s:ByteArray)(w:World)(hlim:s.size<=281474976710656) :
  Calls Tryz.prog 95 #[.string s] w fun e w'=>e=.returned (.string s)/\Below w.heap.size w w':=Any.stringslite_Clone Tryz.laysM316 s w hlim
def Tryz.lays105_ren:Go.Shelf.Ren:=⟨fun | 105=>11 | 212=>30 | 99=>12 | 165=>31 | 166=>32 | 170=>33 | 169=>34 | 263=>67 | 264=>68 | 206=>35 | 240=>69 | 241=>70 | 276=>86 | 277=>87 | n=>n,fun | 9=>9 | 3=>3 | 4=>4 | 20=>20 | 0=>0 | 46=>84 | 109=>85 | 5=>5 | 72=>89 | 76=>93 | 51=>115 | 146=>116 | 53=>22 | 148=>118 | 70=>87 | 37=>47 | 75=>92 | 127=>120 | 164=>140 | 80=>96 | n=>n,fun | n=>n⟩
theorem Tryz.lays105:Go.Proofs.Lays.n105 Tryz.prog Tryz.lays105_ren:={
 mixed:=by kernel_rfl
 f99:=Tryz.func12.trans (congrArg some (by kernel_rfl))
 f105:=Tryz.func11.trans (congrArg some (by kernel_rfl))
 f165:=Tryz.func31.trans (congrArg some (by kernel_rfl))
 f166:=Tryz.func32.trans (congrArg some (by kernel_rfl))
 f169:=Tryz.func34.trans (congrArg some (by kernel_rfl))
 f170:=Tryz.func33.trans (congrArg some (by kernel_rfl))
 f206:=Tryz.func35.trans (congrArg some (by kernel_rfl))
 f212:=Tryz.func30.trans (congrArg some (by kernel_rfl))
 f240:=Tryz.func69.trans (congrArg some (by kernel_rfl))
 f241:=Tryz.func70.trans (congrArg some (by kernel_rfl))
 f263:=Tryz.func67.trans (congrArg some (by kernel_rfl))
 f264:=Tryz.func68.trans (congrArg some (by kernel_rfl))
 f276:=Tryz.func86.trans (congrArg some (by kernel_rfl))
 f277:=Tryz.func87.trans (congrArg some (by kernel_rfl))
 t0:=Tryz.underlying0
 a0:=Tryz.isAgg0
 z0:=Tryz.sizeOf0
 v0:=Tryz.zeroValue0
 t3:=Tryz.underlying3
 a3:=Tryz.isAgg3
 z3:=Tryz.sizeOf3
 v3:=Tryz.zeroValue3
 t4:=Tryz.underlying4
 a4:=Tryz.isAgg4
 z4:=Tryz.sizeOf4
 v4:=Tryz.zeroValue4
 t5:=Tryz.underlying5
 a5:=Tryz.isAgg5
 z5:=Tryz.sizeOf5
 v5:=Tryz.zeroValue5
 t9:=Tryz.underlying9
 a9:=Tryz.isAgg9
 z9:=Tryz.sizeOf9
 v9:=Tryz.zeroValue9
 t20:=Tryz.underlying20
 a20:=Tryz.isAgg20
 z20:=Tryz.sizeOf20
 v20:=Tryz.zeroValue20
 t37:=Tryz.underlying47
 a37:=Tryz.isAgg47
 z37:=Tryz.sizeOf47
 v37:=Tryz.zeroValue47
 t46:=Tryz.underlying84
 a46:=Tryz.isAgg84
 z46:=Tryz.sizeOf84
 v46:=Tryz.zeroValue84
 t51:=Tryz.underlying115
 a51:=Tryz.isAgg115
 z51:=Tryz.sizeOf115
 v51:=Tryz.zeroValue115
 t53:=Tryz.underlying22
 a53:=Tryz.isAgg22
 z53:=Tryz.sizeOf22
 v53:=Tryz.zeroValue22
 t70:=Tryz.underlying87
 a70:=Tryz.isAgg87
 z70:=Tryz.sizeOf87
 v70:=Tryz.zeroValue87
 t72:=Tryz.underlying89
 a72:=Tryz.isAgg89
 z72:=Tryz.sizeOf89
 v72:=Tryz.zeroValue89
 t75:=Tryz.underlying92
 a75:=Tryz.isAgg92
 z75:=Tryz.sizeOf92
 v75:=Tryz.zeroValue92
 t76:=Tryz.underlying93
 a76:=Tryz.isAgg93
 z76:=Tryz.sizeOf93
 v76:=Tryz.zeroValue93
 t109:=Tryz.underlying85
 a109:=Tryz.isAgg85
 z109:=Tryz.sizeOf85
 v109:=Tryz.zeroValue85
 t127:=Tryz.underlying120
 a127:=Tryz.isAgg120
 z127:=Tryz.sizeOf120
 v127:=Tryz.zeroValue120
 t146:=Tryz.underlying116
 a146:=Tryz.isAgg116
 z146:=Tryz.sizeOf116
 v146:=Tryz.zeroValue116
 t148:=Tryz.underlying118
 a148:=Tryz.isAgg118
 z148:=Tryz.sizeOf118
 v148:=Tryz.zeroValue118
 t164:=Tryz.underlying140
 a164:=Tryz.isAgg140
 z164:=Tryz.sizeOf140
 v164:=Tryz.zeroValue140 }
theorem Tryz.Builder_Extra_105:Builder.Extra Tryz.prog Tryz.lays105_ren:={
 sizeBuilder:=by kernel_rfl
 liesBuilder:=by kernel_rfl
 t5:=Tryz.underlying5
 a5:=Tryz.isAgg5
 z5:=Tryz.sizeOf5
 v5:=Tryz.zeroValue5
 infoByte:=by kernel_rfl
 cellsByte:=by kernel_rfl
 sizeByte:=by kernel_rfl
 neB5:=by decide }
open Go.RowKit Go.Lib in
theorem Tryz.strings_Repeat(s:ByteArray)(c:Nat)(w:World)(hc:c<=9223372036854775807)(hlen:s.size*c<=140737488355328) :
  Calls Tryz.prog 11 #[.string s,.int .i64 c] w fun e w'=>e=.returned (.string ⟨(Lib.repeatL s.data.toList c).toArray⟩)/\Below w.heap.size w w':=Any.strings_Repeat Tryz.lays105 Tryz.Builder_Extra_105 s c w hc hlen
end Go.Proofs
namespace Go.Proofs.Wo
open Go.Abs Go.Abs.S
theorem rj:∀{xs:List af} {l:List (List UInt8)},kx xs=some l->xs=l.map .str
 | [],l,h=>by simp only[kx,sJ]at h; subst h; rfl
 | x::xs,l,h=>by
  cases x <;> simp only[kx]at h <;> first | (simp at h; done) | skip
  split at h <;> first | (simp at h; done) | skip
  rename_i r hr
  simp only[sJ]at h
  subst h
  rw[List.map_cons,<- rj hr]
theorem zw(s:List UInt8):(aD s).size=s.length:=by simp[aD,ByteArray.size]
theorem yr{Prot:Gh}{w0:World}{ρ:Pl}{H:ae}{w:World}(R:Rel Prot w0 ρ H w){a:Ad}{n:Nat}{l:List (List UInt8)}(h:aT H a n=some (l.map .str)){L:Go.Abs.Loc}(hL:ρ a.b a.lim=some L)(hs:L.sh<=a.o) :
  l.length=n/\∀(j:Nat) x,(l.map aD)[j]?=some x->w.cell? ⟨L.c,a.o-L.sh+j,none⟩=some (.string x):=by
 obtain⟨C0,low,ro,hg,h1,h2,h3,h4⟩:=iJ h
 obtain⟨x,o,hx,ho,hr⟩:=R.obj _ _ _ hL
 rw[hg]at hx
 obtain rfl:=(sJ _ _).mp hx
 simp only[dg]at hr
 obtain⟨C,e,lo,hi,rfl,hsz,hfz,_,hc⟩:=hr
 have hc:=hc h1
 have hl:l.length=n:=by
  have:=congrArg List.length h4
  rw[List.length_map,NR,List.length_drop]at this
  omega
 refine⟨hl,fun j x hj=>?_⟩
 have hjl:j<n:=by
  have:=(NA.1 hj).1
  rw[List.length_map]at this; omega
 obtain⟨y,v,p1,p2,p3⟩:=hc (a.o+j) om om
 rw[List.getElem?_map]at hj
 cases hlj:l[j]? with
 | none=>rw[hlj]at hj; simp at hj
 | some s=>
  rw[hlj]at hj
  simp only[Option.map_some,sJ]at hj
  subst hj
  have e1:(l.map af.str)[j]?=some (.str s):=by rw[List.getElem?_map,hlj]; rfl
  rw[h4,List.getElem?_take_of_lt hjl,List.getElem?_drop,p1]at e1
  simp only[sJ]at e1
  subst e1
  simp only[ag]at p3
  subst p3
  rw[pT ho,<- p2]
  congr 1
  omega
theorem vw(l:List (List UInt8)):(l.map aD).map (·.data.toList)=l:=by
 rw[List.map_map]
 conv=>rhs; rw[<- List.map_id l]
 apply List.map_congr_left
 intro s _
 simp[aD]
theorem M4:bc Tryz.prog 95=true:=by kernel_rfl
theorem M6:bc Tryz.prog 20=true:=by kernel_rfl
theorem M5:bc Tryz.prog 36=true:=by kernel_rfl
theorem M7:bc Tryz.prog 11=true:=by kernel_rfl
theorem zT:wN Tryz.prog aE:=by
 refine⟨fun f h=>?_,fun f args H v H' _ hr Prot w0 ρ w vs R hv=>?_⟩
 ·have h':(Nat.beq f 95||(Nat.beq f 20||(Nat.beq f 36||Nat.beq f 11)))=true:=h
  simp only[Bool.or_eq_true]at h'
  rcases h' with h | h | h | h
  ·obtain rfl:f=95:=NG h
   exact M4
  ·obtain rfl:f=20:=NG h
   exact M6
  ·obtain rfl:f=36:=NG h
   exact M5
  ·obtain rfl:f=11:=NG h
   exact M7
 ·show Calls Tryz.prog f vs w _
  have hr2:(bif Nat.beq f 95 then qt H args else bif Nat.beq f 20 then mH H args else bif Nat.beq f 36 then wJ H args else bif Nat.beq f 11 then ma H args else none)=some (v,H'):=hr
  cases hb:Nat.beq f 95 with
  | true=>
   obtain rfl:f=95:=NG hb
   rw[hb,cond_true]at hr2
   unfold qt at hr2
   split at hr2 <;> first | (simp at hr2; done) | skip
   rename_i s
   cases hl:Nat.ble s.length 281474976710656 with
   | false=>rw[hl]at hr2; simp at hr2
   | true=>
    rw[hl]at hr2
    simp only[cond_true,sJ,pJ]at hr2
    obtain⟨rfl,rfl⟩:=hr2
    simp only[ah,ag]at hv
    obtain⟨v1,r1,e1,rfl,rfl⟩:=hv
    have hvs:vs=#[.string (aD s)]:=Array.toList_inj.1 (by simpa using e1)
    subst hvs
    have:=NF hl
    exact (Tryz.stringslite_Clone (aD s) w (by rw[zw]; exact this)).mono fun e w' ⟨he,hk⟩=>⟨ρ,_,Pl.le_refl _,he,R.keep hk,by simp only[ag]⟩
  | false=>
  rw[hb,cond_false]at hr2
  cases hb2:Nat.beq f 20 with
  | true=>
   obtain rfl:f=20:=NG hb2
   rw[hb2,cond_true]at hr2
   exact BP hr2 Prot w0 ρ w vs R hv
  | false=>
  rw[hb2,cond_false]at hr2
  cases hb3:Nat.beq f 36 with
  | true=>
   obtain rfl:f=36:=NG hb3
   rw[hb3,cond_true]at hr2
   unfold wJ at hr2
   split at hr2 <;> first | (simp at hr2; done) | skip
   rename_i a n r sep
   split at hr2 <;> first | (simp at hr2; done) | skip
   rename_i xs hxs
   split at hr2 <;> first | (simp at hr2; done) | skip
   rename_i l hl
   cases hc:(Nat.ble 2 n&&(Nat.ble n 140737488355328&&Nat.ble (Lib.join l sep).length 140737488355328)) with
   | false=>rw[hc]at hr2; simp at hr2
   | true=>
    rw[hc]at hr2
    simp only[cond_true,sJ,pJ]at hr2
    obtain⟨rfl,rfl⟩:=hr2
    simp only[NC,Nat.ble_eq]at hc
    simp only[ah]at hv
    obtain⟨v1,r1,e1,hv1,v2,r2,rfl,hv2,rfl⟩:=hv
    obtain⟨L,off,c,q1,q2,rfl,q3,q4⟩:=bX hv1
    simp only[ag]at hv2
    subst hv2
    obtain rfl:=q4 om
    rw[rj hl]at hxs
    obtain⟨t1,t2⟩:=yr R hxs q1 q2
    have hvs:vs=#[.slice (some ⟨L.c,a.o-L.sh,none⟩) (l.map aD).length c,.string (aD sep)]:=by
     apply Array.toList_inj.1
     rw[e1,List.length_map,t1]
    subst hvs
    have hd:=R.dom _ _ _ q1
    refine (Tryz.strings_Join L.c (a.o-L.sh) c (l.map aD) (aD sep) w t2 hd.2 (by rw[List.length_map]; omega) (by rw[List.length_map]; omega) (by rw[vw]; exact hc.2.2)).mono fun e w' ⟨he,hk⟩=>⟨ρ,_,Pl.le_refl _,he,R.keep hk,?_⟩
    rw[vw]
    simp only[ag,aD]
  | false=>
  rw[hb3,cond_false]at hr2
  cases hb4:Nat.beq f 11 with
  | false=>rw[hb4]at hr2; simp at hr2
  | true=>
   obtain rfl:f=11:=NG hb4
   rw[hb4,cond_true]at hr2
   unfold ma at hr2
   split at hr2 <;> first | (simp at hr2; done) | skip
   rename_i s c
   cases hb:Nat.ble c 9223372036854775807&&Nat.ble (s.length*c) 140737488355328 with
   | false=>rw[hb]at hr2; simp at hr2
   | true=>
    rw[hb]at hr2
    simp only[cond_true,sJ,pJ]at hr2
    obtain⟨rfl,rfl⟩:=hr2
    simp only[NC,Nat.ble_eq]at hb
    simp only[ah,ag]at hv
    obtain⟨v1,r1,e1,rfl,v2,r2,e2,rfl,rfl⟩:=hv
    have hvs:vs=#[.string (aD s),.int .i64 c]:=by
     apply Array.toList_inj.1
     rw[e1,e2]; rfl
    subst hvs
    refine (Tryz.strings_Repeat (aD s) c w hb.1 (by rw[zw]; exact hb.2)).mono fun e w' ⟨he,hbl⟩=>⟨ρ,_,Pl.le_refl _,he,R.keep hbl,?_⟩
    simp only[ag,aD]
end Go.Proofs.Wo
namespace Go.Abs
open Go.ChangeShapes Go.WideShapes Go.ChangeAt Go.RowKit
section
variable {H:Type} {enc:TypeId×Value->H} {P:Program}
theorem km{W W':World}{base:Nat}{sp:Nat->Bool}{held:Bool}(hb:Below W.heap.size W W'):∀{ts:List TypeId} {vs:List Value} {ds:List (DataW H)} {ps:List MemPlace},
  DataW.TrodAll enc P W base sp held ts vs ds ps->DataW.TrodAll enc P W' base sp held ts vs ds ps
 | [],[],[],_,h=>h
 | _::_,_::_,_::_,_,⟨p,q,⟨n,h1⟩,h2,e⟩=>by
  refine⟨p,q,⟨n,DataW.trod_carry n _ _ _ h1 fun x hx=>hb.same (DataW.trod_lt n _ _ _ h1 x hx)⟩,km hb h2,e⟩
theorem oR{W W':World}{sp:Nat->Bool}{gs:List (DataW H)}{q:List MemPlace}(h:DataW.TrodVars enc P W sp [] gs q):DataW.TrodVars enc P W' sp [] gs q:=by
 obtain⟨rfl,rfl⟩:=trodVars_none h
 exact h
theorem vp{f:Func}{s:ChangeSpec}{apart:Bool}{W W':World}{args:Array Value}{ds gs:List (DataW H)}{before:List MemPlace}{tb:TypeId}
  (hl:laidOutB P=true) (hm:mapsRowed P=true)
  (hz:((List.range P.types.size).all fun t=>match P.underlying t with | some (.slice e)=>decide (0<P.cellsOf e) | _=>true)=true)
  (hts:(f.params.toList.all fun t=>decide (t<P.types.size))=true) (hv:s.vars=[])
  (hW:DataW.Whole enc P f.params.toList s.vars apart W args.toList ds gs before)
  (hfn:s.fn H (ds++gs)={ results:=[.lit (.bool true)],args:=ds }) (hr:f.resultTypes=#[tb]) (ht:P.underlying tb=some .bool) (hb:Below W.heap.size W W') :
  s.post enc P f apart true false false W args (.bool true) W':=by
 have hlt:∀p∈before,p.block<W.heap.size:=fun p hp=>hW.lt p hp
 have hW0:=hW
 obtain⟨p,q,hA,hV,rfl,hfz,hnd⟩:=hW
 rw[hv]at hV
 obtain⟨rfl,rfl⟩:=trodVars_none hV
 have hT:∀t∈f.params.toList,t<P.types.size:=fun t ht=>by simpa using List.all_eq_true.1 hts t ht
 refine⟨ds,[],p++[],[],p,[],hW0,?_,?_,?_,World.keptBut_mono (fun x hx=>⟨hx,by simpa using hx⟩) (hb.frame (·∈p++[])),fun h=>by simp at h⟩
 ·rw[hfn,hr]
  exact trodAll_cons_mk (shut_bool ht _) trodAll_mk0
 ·rw[hfn]
  refine km hb (DataW.TrodAll.respare (kids_rows hl hm) (slices_full_of P hz) hT hA fun x hx=>?_)
  simpa using hlt x (by simpa using hx)
 ·rw[hfn,hv]
  exact oR (W:=W) hV
end
end Go.Abs
namespace Go.Proofs.YtacaginbdjepcaaGreatDoor
open Go.ChangeShapes Go.WideShapes Go.RowKit
open Go.Abs Go.Abs.S Go.Proofs.Wo
theorem own:ownKnob Tryz.prog.godebug=none:=by kernel_rfl
theorem tK{H:Type}{enc:TypeId×Value->H}{P:Program}{w:World}{base:Nat}{spare:Nat->Bool}{held:Bool}{fuel n:Nat}{t e:TypeId}{k:IntKind}{cs:List Value}{p:List MemPlace}{l:List Int}
  (ht:P.underlying t=some (.array n e)) (he:P.underlying e=some (.int k)) (hc:P.cellsOf e=1) (hct:P.cellsOf t=n)
  (h:DataW.trod enc P w base spare held fuel t cs=some (.agg (l.map fun x=>.lit (.int k x)),p)):cs=l.map (.int k):=by
 obtain⟨xs,m,_,hx,hl,hn,hi⟩:=DataW.trod_array ht h
 simp only[pJ,DataW.agg.injEq]at hx
 have hll:l.length=n:=by
  have:=congrArg List.length hx.1
  simp at this; omega
 apply List.ext_getElem?
 intro i
 by_cases hlt:i<n
 ·have h1:=hi i hlt
  rw[hc,Nat.mul_one]at h1
  have hxi:∃x,xs[i]?=some x:=⟨xs[i]'om,Nz _⟩
  obtain⟨x,hxi⟩:=hxi
  rw[hxi]at h1
  obtain⟨y,hy,hyx,_⟩:=DataW.trod_int he h1
  have hli:l[i]?=some (l[i]'om):=Nz _
  have h2:=congrArg (·[i]?) hx.1
  simp only[List.getElem?_map,hxi,hli,Option.map_some,sJ,hyx]at h2
  simp only[DataW.lit.injEq,Lit.int.injEq,true_and]at h2
  have h3:cs[i]?=some (.int k y):=by
   have:=congrArg (·[0]?) hy
   simpa[List.getElem?_take,List.getElem?_drop] using this
  rw[h3,List.getElem?_map,hli,<- h2]
  rfl
 ·rw[NQ om,NQ (by simp; omega)]
theorem Gc{P:Program}{w:World}{n:String}{g:Nat}{cs:Array Value}(hg:P.globalNamed n=some g)(h:w.var? P n=some cs):∃e fz,w.heap[g]?=some (.cells cs e fz):=by
 simp only[World.var?,hg,Option.bind_some]at h
 split at h
 ·rename_i C e fz hC
  simp only[sJ]at h
  subst h
  exact⟨_,_,hC⟩
 ·simp at h
abbrev Ec:List (String×DataW Unit):=Rows.sceneLimitsRow.laid
theorem nF{W:World}(h:laidMetH Tryz.prog Ec W):nO (rV W) 0 iL/\0<(rV W).next:=by
 have h':laidMet Tryz.prog Ec W:=h
 obtain⟨ps,hl,_,_⟩:=h'
 obtain⟨_,_,_,_,_,_,_,_,_,_,hl,_⟩:=hl
 obtain⟨_,_,_,_,_,_,_,_,_,_,hl,_⟩:=hl
 obtain⟨g,t,cs,f,p,q,hg,ht,hv,htr,_,_⟩:=hl
 have e1:some 0=some g:=Eq.trans (by kernel_rfl) hg
 simp only[sJ]at e1
 subst e1
 have e2:some 145=some t:=Eq.trans (by kernel_rfl) ht
 simp only[sJ]at e2
 subst e2
 have hcs:=tK (l:=(List.range 20).map fun i=>((10 ^ i:Nat):Int)) Tryz.underlying145 (k:=.u64) Tryz.underlying22 (by kernel_rfl) (by kernel_rfl) htr
 obtain⟨e,fz,hrow⟩:=Gc hg hv
 refine⟨?_,(Array.getElem?_eq_some_iff.1 hrow).1⟩
 unfold nO
 rw[io]
 unfold pp
 simp only[hrow,hcs]
 rfl
end Go.Proofs.YtacaginbdjepcaaGreatDoor
