/- Part of a proof (S6 S7 S8 S9 S10 S11 S12 S15 S13 S16 S17 S14 S18 S19 S20 S21 S22 S23 S24 S25 S26 S27 Zab YC1 YN0); no condition. -/
import Derived.OpenShut
import Derived.ChangeSlices
import Derived.WideShapes
import Derived.SizedLaws
import Derived.ChangeArms
import Derived.ChangeSame
import Derived.Test.YtfleblkgifoeaaaGreatDoorProg
import Derived.KernelRfl
import Derived.Test.YtfleblkgifoeaaaGreatDoorP6
set_option linter.unusedSimpArgs false
set_option linter.unusedVariables false
set_option linter.unnecessarySimpa false
namespace Go.Abs.S
open Go.Abs
section
variable {C:CS} {T:bG} {H:aa} {r:List an} {d:Option Nat}
abbrev KT:=List (ab×aa)->bG->aa->Prop
variable {K:KT}
def iq(v:ab)(H:aa)(K:KT):KT:=fun ss=>K ((v,H)::ss)
theorem vr(v:ab)(H':aa)(ss:List (ab×aa)):iq v H' K ss T H=K ((v,H')::ss) T H:=_root_.id rfl
def fI(o:Option ab)(C:CS)(r:List an)(T:bG)(d:Option Nat)(H:aa)(K:KT):Prop:=dy o fun v=>fj C r (ju T d v) H (iq v H K)
def vR(o:Option (ab×aa))(C:CS)(r:List an)(T:bG)(d:Option Nat)(K:KT):Prop:=dy o fun p=>fj C r (ju T d p.1) p.2 (iq p.1 p.2 K)
def Lq(o:Option aa)(C:CS)(r:List an)(T:bG)(d:Option Nat)(K:KT):Prop:=dy o fun H'=>fj C r (ju T d aX) H' (iq aX H' K)
def GO(C:CS)(r:List an)(T:bG)(d:Option Nat)(K:KT):ab->aa->Prop:=fun v H'=>fj C r (ju T d v) H' (iq v H' K)
theorem tR(v:ab):fI (some v) C r T d H K=fj C r (ju T d v) H (iq v H K):=aP _ _
theorem tS(v:ab)(H':aa):vR (some (v,H')) C r T d K=fj C r (ju T d v) H' (iq v H' K):=aP _ _
theorem tQ(H':aa):Lq (some H') C r T d K=fj C r (ju T d aX) H' (iq aX H' K):=aP _ _
theorem uX(v:ab):GO C r T d K v H=fj C r (ju T d v) H (iq v H K):=_root_.id rfl
theorem Fw:fj C [] T H K=K [] T H:=_root_.id rfl
open Classical in
theorem xD(o:jv)(t:Nat)(b:Bool)(ht:t<1000000):fj C (⟨d,o,some (t,b)⟩::r) T H K=if T t=.bool b then fj C (⟨d,o,none⟩::r) T H K else fj C r (ju T d aX) H (iq aX H K):=by
 simp only[fj,KL T ht]
 by_cases h:T t=.bool b
 ·rw[if_pos h,h]; cases b <;> rfl
 ·rw[if_neg h]
  have:MQ b (T t)=false:=by
   unfold MQ
   cases hv:T t <;> simp only[Ps]
   rename_i v
   rw[hv]at h
   cases b <;> cases v <;> simp at h ⊢
  rw[this]; rfl
open Classical in
theorem BT(c a b:bu):fj C (⟨d,.pick c a b,none⟩::r) T H K=if sX T c=.bool true then fj C r (ju T d (sX T a)) H (iq (sX T a) H K) else if sX T c=.bool false then fj C r (ju T d (sX T b)) H (iq (sX T b) H K) else False:=by
 simp only[fj,sG,Dz,cond_true]
 by_cases h:sX T c=.bool true
 ·rw[if_pos h,h]; simp; rfl
 ·rw[if_neg h]
  by_cases h':sX T c=.bool false
  ·rw[if_pos h',h']; simp; rfl
  ·rw[if_neg h']
   simp only[eq_iff_iff,iff_false,not_exists,not_and]
   intro v hv
   cases v
   ·exact absurd hv h'
   ·exact absurd hv h
theorem Kx(x:bu):fj C (⟨d,.mv x,none⟩::r) T H K=fj C r (ju T d (sX T x)) H (iq (sX T x) H K):=_root_.id rfl
theorem Fx(z:List ab):fj C (⟨d,.new z,none⟩::r) T H K=fj C r (ju T d (go H z).1) (go H z).2 (iq (go H z).1 (go H z).2 K):=_root_.id rfl
theorem FA(x:bu):fj C (⟨d,.box x,none⟩::r) T H K=fj C r (ju T d (go H (sX T x).cells).1) (go H (sX T x).cells).2 (iq (go H (sX T x).cells).1 (go H (sX T x).cells).2 K):=_root_.id rfl
theorem xG(z:List ab)(ps:List (Nat×Nat×bu)):fj C (⟨d,.build z ps,none⟩::r) T H K=fI (bB z (nf T ps)) C r T d H K:=_root_.id rfl
theorem rN(n:Nat)(z:List ab)(ps:List (Nat×Nat×bu)):fj C (⟨d,.buildSl n z ps,none⟩::r) T H K=vR (cD n z H (nf T ps)) C r T d K:=_root_.id rfl
theorem BU(a:Bool)(n:Nat)(x:bu):fj C (⟨d,.load a n x,none⟩::r) T H K=fI (am a n H (sX T x)) C r T d H K:=_root_.id rfl
theorem xB(n:Nat)(a x:bu):fj C (⟨d,.store n a x,none⟩::r) T H K=Lq (a8 n H (sX T a) (sX T x)) C r T d K:=_root_.id rfl
theorem uw(x:bu):fj C (⟨d,.nilChk x,none⟩::r) T H K=fI (cL (sX T x)) C r T d H K:=_root_.id rfl
theorem FB(op:BinOp)(x y:bu):fj C (⟨d,.bin op x y,none⟩::r) T H K=fI (be op (sX T x) (sX T y)) C r T d H K:=_root_.id rfl
theorem Ku(op:UnOp)(x:bu):fj C (⟨d,.un op x,none⟩::r) T H K=fI (J8 op (sX T x)) C r T d H K:=_root_.id rfl
theorem BX(k:IntKind)(x:bu):fj C (⟨d,.conv k x,none⟩::r) T H K=fI (qJ k (sX T x)) C r T d H K:=_root_.id rfl
theorem uA(x:bu):fj C (⟨d,.convSB x,none⟩::r) T H K=vR (MW H (sX T x)) C r T d K:=_root_.id rfl
theorem uB(x:bu):fj C (⟨d,.convBS x,none⟩::r) T H K=fI (EQ H (sX T x)) C r T d H K:=_root_.id rfl
theorem ux(fn:Fn)(a b:List bu):fj C (⟨d,.mkFunc fn a b,none⟩::r) T H K=fj C r (ju T d (.func fn (iZ T a) (iZ T b))) H (iq (.func fn (iZ T a) (iZ T b)) H K):=_root_.id rfl
theorem rJ(t:TypeId)(x:bu):fj C (⟨d,.mkIface t x,none⟩::r) T H K=fj C r (ju T d (.iface t (sX T x))) H (iq (.iface t (sX T x)) H K):=_root_.id rfl
theorem rI(b:Nat)(z:List ab)(l c:bu):fj C (⟨d,.mkSlice b z l c,none⟩::r) T H K=vR (qI b z H (sX T l) (sX T c)) C r T d K:=_root_.id rfl
theorem Kv(n:Nat)(x:bu)(lo hi mx:Option bu):fj C (⟨d,.sl n x lo hi mx,none⟩::r) T H K=fI (MV n (sX T x) (iI T lo) (iI T hi) (iI T mx)) C r T d H K:=_root_.id rfl
theorem xC(x:bu)(lo hi:Option bu):fj C (⟨d,.slStr x lo hi,none⟩::r) T H K=fI (dT (sX T x) (iI T lo) (iI T hi)) C r T d H K:=_root_.id rfl
theorem uz(o:Nat)(x:bu):fj C (⟨d,.fieldA o x,none⟩::r) T H K=fI (iG o (sX T x)) C r T d H K:=_root_.id rfl
theorem xE(a:Bool)(n o:Nat)(x:bu):fj C (⟨d,.field a n o x,none⟩::r) T H K=fI (m0 a n o (sX T x)) C r T d H K:=_root_.id rfl
theorem BW(n:Nat)(x i:bu):fj C (⟨d,.idxA n x i,none⟩::r) T H K=fI (eH n (sX T x) (sX T i)) C r T d H K:=_root_.id rfl
theorem uy(m n:Nat)(x i:bu):fj C (⟨d,.idxArr m n x i,none⟩::r) T H K=fI (jJ m n (sX T x) (sX T i)) C r T d H K:=_root_.id rfl
theorem Fz(m n:Nat)(a:Bool)(x i:bu):fj C (⟨d,.idx m n a x i,none⟩::r) T H K=fI (BL m n a (sX T x) (sX T i)) C r T d H K:=_root_.id rfl
theorem BV(x i:bu):fj C (⟨d,.idxS x i,none⟩::r) T H K=fI (kr (sX T x) (sX T i)) C r T d H K:=_root_.id rfl
theorem rM(i:Nat)(x:bu):fj C (⟨d,.extract i x,none⟩::r) T H K=fI (fH i (sX T x)) C r T d H K:=_root_.id rfl
theorem uC(n b:Nat)(s x:bu):fj C (⟨d,.append n b s x,none⟩::r) T H K=vR (bJ n b H (sX T s) (sX T x)) C r T d K:=_root_.id rfl
theorem Fy(s:Bool)(x:bu):fj C (⟨d,.len s x,none⟩::r) T H K=fI (gv s (sX T x)) C r T d H K:=_root_.id rfl
theorem BZ(f:FuncId)(args:List bu):fj C (⟨d,.call f args,none⟩::r) T H K=C f (iZ T args) H (GO C r T d K):=_root_.id rfl
theorem xF(f:bu)(args:List bu):fj C (⟨d,.callv f args,none⟩::r) T H K=nV C (sX T f) (iZ T args) H (GO C r T d K):=_root_.id rfl
theorem Kw(f:PF)(xs:List bu):fj C (⟨d,.pf f xs,none⟩::r) T H K=fI (jt f (iZ T xs)) C r T d H K:=_root_.id rfl
theorem Ky(f:HF)(xs:List bu):fj C (⟨d,.hf f xs,none⟩::r) T H K=vR (Dq f H (iZ T xs)) C r T d K:=_root_.id rfl
theorem Fv(m n:Nat)(x:bu)(lo hi mx:Option bu):fj C (⟨d,.slA m n x lo hi mx,none⟩::r) T H K=fI (mC m n (sX T x) (iI T lo) (iI T hi) (iI T mx)) C r T d H K:=_root_.id rfl
theorem cw(hs:List aa)(o:an)(l:List an)(ps:List (List Nat))(v:ab)(Hv:aa)(ss:List (ab×aa)):zY hs (o::l) ([]::ps) ((v,Hv)::ss) T=zY hs l ps ss (ju T o.dst v):=by
 simp[zY]
def IR(hs:List aa)(ps:List Nat)(T:bG)(o:an)(v:ab):Prop:=∀p∈ps,∃Hp,hs[p]?=some Hp/\(sG T o.guard=true->∃u,N4 T Hp o.op=some u/\aeq u v=true)
theorem cx(hs:List aa)(o:an)(l:List an)(p:Nat)(q:List Nat)(ps:List (List Nat))(v:ab)(Hv:aa)(ss:List (ab×aa)):zY hs (o::l) ((p::q)::ps) ((v,Hv)::ss) T=(IR hs (p::q) T o v/\zY hs l ps ss (ju T o.dst v)):=by
 simp[zY,IR]
theorem db(hs:List aa)(ps:List (List Nat))(ss:List (ab×aa)):zY hs [] ps ss T=True:=by
 cases ps <;> simp[zY]
theorem cy(hs:List aa)(o:an)(v:ab):IR hs [] T o v=True:=by simp[IR]
theorem bR(hs:List aa)(p:Nat)(q:List Nat)(a:Bool)(n:Nat)(x:bu)(g:Option (Nat×Bool))(v:ab):IR hs (p::q) T ⟨d,.load a n x,g⟩ v=((∃Hp,hs[p]?=some Hp/\(sG T g=true->∃u,am a n Hp (sX T x)=some u/\aeq u v=true))/\IR hs q T ⟨d,.load a n x,g⟩ v):=by
 simp[IR,N4]
theorem jI(k:IntKind)(a:Int):aeq (.int k a) (.int k a)=true:=by simp[aeq,kI]
theorem jH(a:List UInt8):aeq (.str a) (.str a)=true:=by simp[aeq]
end
def Ol(N:gC)(md:Nat->Option Ds):gC:=⟨N.is,N.run,md⟩
theorem Jo{P:Program}{N:gC}(h:tU P N)(md:Nat->Option Ds):tU P (Ol N md):=⟨h.body,h.run⟩
end Go.Abs.S
namespace Go.Abs.S
open Go.Abs
theorem au(H:aa)(l:List ab){n:Nat}(hn:l.length=n):∃H',go H l=(ae H.next n 0,H')/\aT H' H.next l/\H'.next=H.next+1/\∀c,c≠H.next->H'.get c=H.get c:=by
 subst hn
 exact⟨_,rfl,dA _ _,rfl,fun c hc=>by rw[aa.get_push,if_neg hc]⟩
theorem cq(l:List ab):(ab.agg l).cells=l:=_root_.id rfl
theorem b9(x:ab)(r:List ab):fH 0 (.tuple (x::r))=some x:=_root_.id rfl
theorem b7(x y:ab)(r:List ab):fH 1 (.tuple (x::y::r))=some y:=_root_.id rfl
theorem wU{b n i:Nat}(h:i<n)(k:IntKind):jJ n 1 (ae b n 0) (.int k (i:Int))=some (ae b n i):=by
 show (bif Nat.blt i n then some (ab.ptr (some ⟨b,n,0+i*1⟩)) else none)=_
 have:Nat.blt i n=true:=by simpa[Nat.blt_eq] using h
 rw[this,Nat.zero_add,Nat.mul_one]; rfl
theorem aS.of_new{H H':aa}{b:Nat}(hn:H'.next=H.next+1)(h:∀c,c≠b->H'.get c=H.get c){n:Nat}(hb:n<=b):aS n H H':=⟨om,fun c hc=>h c om⟩
end Go.Abs.S
namespace Go.Abs.S
open Go.Abs Go.WideShapes Go.ChangeShapes
variable {H:Type} {enc:TypeId×Value->H}
end Go.Abs.S
namespace Go.Abs.S
open Go.Abs
theorem fu{C:CS}{c:cp}{id:Nat}{Q:pz}{T:bG}{H:aa}(F:bG->aa->Prop)(hC:qK C)(h:wp C c (lU id (lT Q F)) T H)(k:∀T H,F T H->Q .normal T H):wp C c (lU id Q) T H:=by
 refine xp hC c (fun e T H hq=>?_) h
 cases e with
 | normal=>exact k _ _ hq
 | ret=>exact hq
 | exit j=>
  simp only[lU]at hq ⊢
  cases hb:Nat.beq j id with
  | true=>rw[hb]at hq; exact k _ _ hq
  | false=>rw[hb]at hq; exact hq
end Go.Abs.S
namespace Go.Abs.S
open Go.Abs
theorem B4(s:List UInt8):gv true (.str s)=some (.int .i64 (s.length:Int)):=_root_.id rfl
theorem bq{s:List UInt8}{i:Nat}{b:UInt8}(h:s[i]?=some b)(k:IntKind):kr (.str s) (.int k (i:Int))=some (.int .u8 (b.toNat:Int)):=by
 show (match (s[i]?:Option UInt8) with | some b=>some (ab.int .u8 b.toNat) | none=>none)=_
 rw[h]
theorem tz{y n:Nat}(h:n<=y):bd (.int .i64 (n:Int)) y=some n:=by
 show (bif Nat.ble n y then some n else none)=_
 rw[QS h]; rfl
theorem nE{s:List UInt8}{l h:Nat}(h1:l<=h)(h2:h<=s.length):dT (.str s) (some (.int .i64 (l:Int))) (some (.int .i64 (h:Int)))=some (.str ((s.drop l).take (h-l))):=by
 simp only[dT,tN,IW,tz h2,tz h1]
theorem B0{s:List UInt8}{l:Nat}(h1:l<=s.length):dT (.str s) (some (.int .i64 (l:Int))) none=some (.str (s.drop l)):=by
 simp only[dT,tN,IW,tz h1]
 rw[List.take_of_length_le (by simp)]
theorem ov{s:List UInt8}{h:Nat}(h2:h<=s.length):dT (.str s) none (some (.int .i64 (h:Int)))=some (.str (s.take h)):=by
 simp only[dT,tN,IW,tz h2,List.drop_zero,Nat.sub_zero]
theorem B5(x y:List UInt8):be .eql (.str x) (.str y)=some (.bool (decide (x=y))):=by
 simp only[be,Iu]
 by_cases h:x=y <;> simp[h]
theorem B3(x y:List UInt8):be .neq (.str x) (.str y)=some (.bool (!decide (x=y))):=by
 simp only[be,Iu]
 by_cases h:x=y <;> simp[h]
theorem aM{x y:List UInt8}(h:x.length+y.length<=9223372036854775807):be .add (.str x) (.str y)=some (.str (x++y)):=by
 simp only[be,Iu,QS h,cond_true]
theorem CM(k k':IntKind)(n:Int):qJ k (.int k' n)=some (.int k (k.wrap n)):=by
 simp only[qJ,nA]
theorem Fq(b:Bool):J8 .not (.bool b)=some (.bool (!b)):=_root_.id rfl
theorem kS(k:IntKind)(a b:Int)(h:b≠0):be .quo (.int k a) (.int k b)=some (.int k (k.wrap (a.tdiv b))):=by
 simp[be,cX,dE,mD,h]
theorem J1(k k':IntKind)(a:Int)(b:Nat):be .shl (.int k a) (.int k' (b:Int))=some (.int k (k.wrap (a*2 ^ (min b k.bits)))):=by
 simp only[be,cX,cond_true,nY,p9]
 rw[if_neg om]; rfl
theorem J0(k k':IntKind)(a:Int)(b:Nat):be .shr (.int k a) (.int k' (b:Int))=some (.int k (a.fdiv (2 ^ (min b k.bits)))):=by
 simp only[be,cX,cond_true,nY,p9]
 rw[if_neg om]; rfl
theorem rG(b:Bool):(aX=ab.bool b)=False:=by simp[aX]
theorem fo{a:Int}(h1:0<=a)(h2:a<=255):IntKind.u8.wrap a=a:=IntWalk.u8_in _ ⟨h1,h2⟩
end Go.Abs.S
namespace Go.Abs.S
open Go.Abs
theorem mN(n m:Nat):(BitVec.ofInt m (n:Int)).toNat=n % 2 ^ m:=by
 rw[BitVec.toNat_ofInt]
 omega
theorem Kr{a:Nat}(h:a<2 ^ 63):IntKind.i64.wrap (a:Int)=a:=by
 rw[IntKind.wrap_i64]; omega
theorem CZ{a b:Nat}(ha:a<2 ^ 63)(hb:b<2 ^ 63):be .or (.int .i64 (a:Int)) (.int .i64 (b:Int))=some (.int .i64 ((a ||| b:Nat):Int)):=by
 have e:(BitVec.ofInt IntKind.i64.bits (a:Int) ||| BitVec.ofInt IntKind.i64.bits (b:Int)).toNat=a ||| b:=by
  rw[BitVec.toNat_or,mN,mN]
  have h1:a % 2 ^ IntKind.i64.bits=a:=Nat.mod_eq_of_lt (by simp only[IntKind.bits]; omega)
  have h2:b % 2 ^ IntKind.i64.bits=b:=Nat.mod_eq_of_lt (by simp only[IntKind.bits]; omega)
  rw[h1,h2]
 simp only[be,cX,cond_false,if_true,dE,mD,e]
 rw[Kr (Nat.or_lt_two_pow ha hb)]
theorem zC{k':IntKind}{a b:Nat}(hb:b<=63)(h:a*2 ^ b<2 ^ 63):be .shl (.int .i64 (a:Int)) (.int k' (b:Int))=some (.int .i64 ((a*2 ^ b:Nat):Int)):=by
 rw[J1]
 have e:min b IntKind.i64.bits=b:=by simp only[IntKind.bits]; omega
 rw[e]
 have e2:(a:Int)*2 ^ b=((a*2 ^ b:Nat):Int):=by simp
 rw[e2,Kr h]
theorem Gq(n a:Nat){b:Nat}(h:b<2 ^ n):a*2 ^ n ||| b=a*2 ^ n+b:=by
 rw[Nat.mul_comm,Nat.two_pow_add_eq_or_of_lt h]
theorem Gl(a b:Int):jt (.mm false) [.int .i64 a,.int .i64 b]=some (.int .i64 (if b<a then b else a)):=by
 simp only[jt,Ix,Mx,Iy,sC,cond_false]
 by_cases h:b<a <;> simp[h]
def pB(l:List Nat):List ab:=l.map fun n:Nat=>.int .u8 (n:Int)
theorem kz(l:List Nat):(pB l).length=l.length:=by simp[pB]
theorem I1{l:List Nat}{i:Nat}{n:Nat}(h:l[i]?=some n):(pB l)[i]?=some (.int .u8 (n:Int)):=by simp[pB,h]
theorem oj(l:List Nat)(i n:Nat):pB (l.set i n)=(pB l).set i (.int .u8 (n:Int)):=by simp[pB]
end Go.Abs.S
namespace Go.Abs.S
open Go.Abs
theorem gX{a:Int}(h1:0<=a)(h2:a<4294967296):IntKind.u32.wrap a=a:=by
 rw[IntKind.wrap_u32]; omega
theorem xm{a:Int}(h1:0<=a)(h2:a<18446744073709551616):IntKind.u64.wrap a=a:=by
 rw[IntKind.wrap_u64]; omega
theorem pM{a:Nat}(b:Nat)(h:0<b)(ha:a<4294967296):be .quo (.int .u32 (a:Int)) (.int .u32 (b:Int))=some (.int .u32 ((a / b:Nat):Int)):=by
 rw[kS _ _ _ om]
 have:(a:Int).tdiv b=((a / b:Nat):Int):=rfl
 have h2:=Nat.div_le_self a b
 rw[this,gX (Int.natCast_nonneg _) (by generalize a / b=q at *; omega)]
theorem pL{a:Nat}(b:Nat)(h:0<b):be .rem (.int .u32 (a:Int)) (.int .u32 (b:Int))=some (.int .u32 ((a % b:Nat):Int)):=by
 rw[kR _ _ _ om]; rfl
theorem LH{a:Nat}(b:Nat)(h:0<b)(ha:a<18446744073709551616):be .quo (.int .u64 (a:Int)) (.int .u64 (b:Int))=some (.int .u64 ((a / b:Nat):Int)):=by
 rw[kS _ _ _ om]
 have:(a:Int).tdiv b=((a / b:Nat):Int):=rfl
 have h2:=Nat.div_le_self a b
 rw[this,xm (Int.natCast_nonneg _) (by generalize a / b=q at *; omega)]
theorem LF{a:Nat}(b:Nat)(h:0<b):be .rem (.int .u64 (a:Int)) (.int .u64 (b:Int))=some (.int .u64 ((a % b:Nat):Int)):=by
 rw[kR _ _ _ om]; rfl
theorem DM(k k':IntKind)(a:Nat){b:Nat}(hb:b<=k.bits):be .shr (.int k (a:Int)) (.int k' (b:Int))=some (.int k ((a / 2 ^ b:Nat):Int)):=by
 rw[J0,Nat.min_eq_left hb]
 congr 2
 have:((2:Int) ^ b)=((2 ^ b:Nat):Int):=by simp
 rw[this,Int.fdiv_eq_ediv_of_nonneg _ (Int.natCast_nonneg _)]
 rfl
theorem tx{a b:Nat}(ha:a<2 ^ 64)(hb:b<2 ^ 64):be .and (.int .u64 (a:Int)) (.int .u64 (b:Int))=some (.int .u64 ((a &&& b:Nat):Int)):=by
 have e:(BitVec.ofInt IntKind.u64.bits (a:Int) &&& BitVec.ofInt IntKind.u64.bits (b:Int)).toNat=a &&& b:=by
  rw[BitVec.toNat_and,mN,mN]
  have h1:a % 2 ^ IntKind.u64.bits=a:=Nat.mod_eq_of_lt (by simp only[IntKind.bits]; omega)
  have h2:b % 2 ^ IntKind.u64.bits=b:=Nat.mod_eq_of_lt (by simp only[IntKind.bits]; omega)
  rw[h1,h2]
 simp only[be,cX,cond_false,if_true,dE,mD,e]
 have h3:=Nat.and_lt_two_pow a hb
 rw[xm om om]
def dB(s:List UInt8):List ab:=s.map fun b=>.int .u8 (b.toNat:Int)
theorem pm(s:List UInt8):(dB s).length=s.length:=by simp[dB]
theorem y9(s t:List UInt8):dB (s++t)=dB s++dB t:=by simp[dB]
theorem y8(s:List UInt8):(dB s).all ab.one=true:=by simp[dB,ab.one]
theorem kN:∀s:List UInt8,jE (dB s)=some s
 | []=>rfl
 | b::s=>by
  have h:=kN s
  show (match jE (dB s) with | some l=>some (UInt8.ofNat (Int.toNat (b.toNat:Int))::l) | none=>none)=_
  rw[h]
  simp
theorem I8(H:aa)(s:List UInt8):jU 1 H (.str s)=some (s.length,dB s):=_root_.id rfl
def iO(b cap n:Nat):ab:=.slice (some ⟨b,cap,0⟩) n (.known cap)
def xg(H:aa)(b cap:Nat)(s:List UInt8):Prop:=∃l,aT H b l/\l.length=cap/\l.take s.length=dB s
theorem JY(b cap n:Nat):gv false (iO b cap n)=some (.int .i64 (n:Int)):=_root_.id rfl
theorem kO{b cap n:Nat}(k:IntKind){i:Nat}(h:i<n):eH 1 (iO b cap n) (.int k (i:Int))=some (ae b cap i):=by
 show (bif Nat.blt i n then some (ab.ptr (some ⟨b,cap,0+i*1⟩)) else none)=_
 have:Nat.blt i n=true:=by simpa[Nat.blt_eq] using h
 rw[this,Nat.zero_add,Nat.mul_one]; rfl
theorem Cd(z:ab):∀k,ud [z] k=List.replicate k z
 | 0=>rfl
 | k+1=>by simp only[ud,Cd z k,List.replicate_succ]; rfl
theorem HQ{H:aa}(z:ab)(cap:Nat)(hc:cap<=1000000):∃H',qI 1 [z] H (.int .i64 (0:Int)) (.int .i64 (cap:Int))=some (iO H.next cap 0,H')/\xg H' H.next cap []/\H'.next=H.next+1/\∀c,c≠H.next->H'.get c=H.get c:=by
 refine⟨H.push (.cells (List.replicate cap z) 0 false),?_,⟨_,dA _ _,by simp,by simp[dB]⟩,rfl,fun c hc=>by rw[aa.get_push,if_neg hc]⟩
 have h0:jA (.int .i64 (0:Int))=some 0:=rfl
 have h1:jA (.int .i64 (cap:Int))=some cap:=by
  show jA (.int .i64 (Int.ofNat cap))=some cap
  simp only[jA,QS (show cap<=9223372036854775807 by omega),cond_true]
 simp only[qI,h0,h1,Cd,QS (Nat.zero_le _),QS (show 1*cap<=281474976710656 by omega),Bool.and_self,cond_true,List.length_replicate]
 rfl
theorem tF{H:aa}{b cap:Nat}{s x:List UInt8}(hb:xg H b cap s){t:ab}(hs:jU 1 H t=some (x.length,dB x))(hx:x≠[])(hf:s.length+x.length<=cap)(hc:cap<=1000000) :
  ∃H',bJ 1 1 H (iO b cap s.length) t=some (iO b cap (s++x).length,H')/\xg H' b cap (s++x)/\H'.next=H.next/\∀c,c≠b->H'.get c=H.get c:=by
 obtain⟨l,⟨low,h1,h2⟩,h3,h4⟩:=hb
 have hl:0<x.length:=List.length_pos_iff.2 hx
 have e0:Nat.beq x.length 0=false:=by rw[bD]; exact decide_eq_false om
 refine⟨H.set b (.cells (l.take s.length++(dB x++l.drop (s.length+x.length))) cap false),?_,⟨_,⟨cap,by rw[aa.get_set,if_pos rfl],?_⟩,?_,?_⟩,rfl,fun c hc=>by rw[aa.get_set,if_neg hc]⟩
 ·have hw:dZ H ⟨b,cap,0+s.length*1⟩ (dB x)=some (H.set b (.cells (l.take s.length++(dB x++l.drop (s.length+x.length))) cap false)):=by
   unfold dZ
   simp only[h1,Nat.zero_add,Nat.mul_one,QS (show low<=cap by omega),pm,QS hf,y8,h3,Nat.beq_refl,Bool.and_self,cond_true]
  simp only[bJ,hs,e0,cond_false,iO,Nat.add_zero,Nat.mul_one,QS (show 2*(s.length+x.length)<=281474976710656 by omega),QS (show s.length+x.length<=9223372036854775807 by omega),pm,Nat.beq_refl,y8,Bool.and_self,show Nat.blt 0 1=true from rfl,cond_true,QS hf,lA]
  rw[Nat.mul_one]at hw
  rw[hw]
 ·simp[dB]; omega
 ·simp[dB]; omega
 ·rw[y9,<- h4,<- Q3]
  have e:(List.take s.length l++dB x).length=(s++x).length:=by simp[dB]; omega
  rw[<- e,List.take_left]
theorem HR{H:aa}{b cap:Nat}{s:List UInt8}(hb:xg H b cap s)(hf:s.length<=cap):EQ H (iO b cap s.length)=some (.str s):=by
 obtain⟨l,⟨low,h1,h2⟩,h3,h4⟩:=hb
 have hr:bv H ⟨b,cap,0⟩ s.length=some (dB s):=by
  unfold bv
  simp only[h1,QS (show low<=cap by omega),QS (show cap<=l.length by omega),Nat.zero_add,QS hf,Bool.and_self,cond_true,List.drop_zero,h4]
 simp only[EQ,iO,hr,kN]
theorem JX{H:aa}{b cap:Nat}{s:List UInt8}(hb:xg H b cap s)(hf:s.length<=cap):jU 1 H (iO b cap s.length)=some (s.length,dB s):=by
 obtain⟨l,⟨low,h1,h2⟩,h3,h4⟩:=hb
 have hr:bv H ⟨b,cap,0⟩ s.length=some (dB s):=by
  unfold bv
  simp only[h1,QS (show low<=cap by omega),QS (show cap<=l.length by omega),Nat.zero_add,QS hf,Bool.and_self,cond_true,List.drop_zero,h4]
 simp only[jU,iO,Nat.mul_one,hr]
theorem xg.same{H H':aa}{b cap:Nat}{s:List UInt8}(h:xg H b cap s)(e:H'.get b=H.get b):xg H' b cap s:=by
 obtain⟨l,h1,h2⟩:=h
 exact⟨l,h1.same e,h2⟩
theorem B8{b cap k:Nat}(h:k<=cap)(hc:0<cap):mC cap 1 (ae b cap 0) none (some (.int .i64 (k:Int))) none=some (iO b cap k):=by
 have e:Nat.beq cap 0=false:=by rw[bD]; exact decide_eq_false om
 simp only[mC,ae,tN,IW,tz h,Option.getD_none,e,cond_false,Nat.zero_mul,Nat.add_zero,Nat.sub_zero,iO]
def ru(H:aa)(g:Nat)(l:List ab):Prop:=H.get g=some (.cells l 0 true)
theorem LV{H:aa}{g n:Nat}{l:List ab}(h:ru H g l)(hn:l.length=n){i:Nat}(hi:i<n)(k:IntKind):Dq (.gIdx g n 1) H [.int k (i:Int)]=some (ae g n i,H):=by
 have:AX H g=some (ae g n 0):=by
  unfold AX
  rw[h,<- hn]; rfl
 simp only[Dq,IB,this,wU hi]
theorem JJ{H:aa}{g n:Nat}{l:List ab}(h:ru H g l)(hn:l.length=n){i:Nat}{x:ab}(hi:l[i]?=some x):am false 1 H (ae g n i)=some x:=by
 subst hn
 have hlt:=(QR.1 hi).1
 obtain⟨y,h4,h5⟩:=Gf (eP h (Nat.zero_le _)) hlt
 rw[hi]at h4
 simp only[sJ]at h4
 subst h4
 simp only[Nat.zero_add]at h5
 simp only[am,ae,h5,cond_false]
theorem ru.ext{n g:Nat}{H H':aa}{l:List ab}(h:ru H g l)(hg:g<n)(e:aS n H H'):ru H' g l:=(e.old g hg).trans h
theorem aj{H:aa}{b n:Nat}{l:List ab}(h:aT H b l)(hn:l.length=n){xs:List ab}(hx:xs.length=n)(ho:xs.all ab.one=true) :
  ∃H',a8 n H (ae b n 0) (.agg xs)=some H'/\aT H' b xs/\H'.next=H.next/\∀c,c≠b->H'.get c=H.get c:=by
 subst hn
 obtain⟨low,h1,h2⟩:=h
 refine⟨H.set b (.cells xs l.length false),?_,⟨l.length,by rw[aa.get_set,if_pos rfl],om⟩,rfl,fun c hc=>by rw[aa.get_set,if_neg hc]⟩
 simp only[a8,ae,cq,hx,Nat.beq_refl,cond_true]
 unfold dZ
 simp only[h1,hx,QS h2,Nat.beq_refl,Nat.zero_add,QS rL,ho,Bool.and_self,cond_true,List.take_zero,List.nil_append,List.drop_length,List.append_nil]
theorem al{H:aa}{b n:Nat}{l:List ab}(h:aT H b l)(hn:l.length=n):am true n H (ae b n 0)=some (.agg l):=by
 subst hn
 obtain⟨low,h1,h2⟩:=h
 simp only[am,ae,eP h1 h2,cond_true]
theorem fld0(b n o:Nat):iG o (ae b n 0)=some (ae b n o):=by
 simp only[iG,ae,Nat.zero_add]
theorem bL{T:bG}{H:aa}(g:Bool)(n i:Nat)(K:ab->aa->Prop){v:ab}(h:am g n H (T i)=some v)(hk:K v H):dM [.cell g n i] K .ret T H:=by
 simp only[dM,nB,h,aP]; exact hk
theorem Hu{T:bG}{H:aa}(g g':Bool)(n n' i i':Nat)(K:ab->aa->Prop){v v':ab}(h:am g n H (T i)=some v)(h':am g' n' H (T i')=some v')(hk:K (.tuple [v,v']) H):dM [.cell g n i,.cell g' n' i'] K .ret T H:=by
 simp only[dM,nB,h,h',aP]; exact hk
theorem wC{T:bG}{H:aa}(K:ab->aa->Prop):dM [] K .normal T H=K (.tuple []) H:=by
 simp only[dM,nB,aP]; rfl
end Go.Abs.S
namespace Go.Abs.S
open Go.Abs
theorem Mt{n:Nat}{H:aa}{s:ab}{t:List UInt8}(h:xj n H s (dB t)):EQ H s=some (.str t):=by
 rcases h with⟨h,h2⟩ | ⟨a,r,rfl,_,h3⟩
 ·have ht:t=[]:=by simpa[dB] using h2
  subst ht
  rcases j7 h with rfl | ⟨a,rfl⟩ <;> rfl
 ·simp only[EQ,h3,kN]
end Go.Abs.S
namespace Go.Abs.S
open Go.Abs Go.WideShapes Go.ChangeShapes
variable {H:Type} {enc:TypeId×Value->H}
end Go.Abs.S
namespace Go.Abs.S
open Go.Abs Go.WideShapes Go.ChangeShapes
variable {H:Type} {enc:TypeId×Value->H}
theorem HK{w:World}{b:Nat}{c off:Nat}{n:Nat}{cs:List Value}(h:w.cells? b ⟨c,off,none⟩ n=some cs):cs.length=n/\∀i,i<n->w.cell? ⟨c,off+i,none⟩=cs[i]?:=by
 unfold World.cells? at h
 split at h
 ·have key:∀(l:List Nat) (cs:List Value),l.mapM (fun i=>w.cell? ((⟨c,off,none⟩:Addr).add i))=some cs->cs.length=l.length/\∀(i j:Nat),l[i]?=some j->w.cell? ((⟨c,off,none⟩:Addr).add j)=cs[i]?:=by
   intro l
   induction l with
   | nil=>intro cs h; simp at h; subst h; simp
   | cons x l ih=>
    intro cs h
    simp only[List.mapM_cons]at h
    cases hx:w.cell? ((⟨c,off,none⟩:Addr).add x) with
    | none=>rw[hx]at h; simp at h
    | some v=>
     rw[hx]at h
     cases hr:l.mapM (fun i=>w.cell? ((⟨c,off,none⟩:Addr).add i)) with
     | none=>rw[hr]at h; simp at h
     | some vs=>
      rw[hr]at h
      simp at h
      subst h
      obtain⟨h1,h2⟩:=ih vs hr
      refine⟨by simp[h1],fun i j hj=>?_⟩
      cases i with
      | zero=>simp at hj; subst hj; simpa using hx
      | succ i=>simpa using h2 i j (by simpa using hj)
  obtain⟨h1,h2⟩:=key _ _ h
  refine⟨by simpa using h1,fun i hi=>?_⟩
  have:=h2 i i (by simp[hi])
  rwa [dC]at this
 ·simp at h
end Go.Abs.S
namespace Go.Abs.S
open Go.Abs Go.WideShapes Go.ChangeShapes
variable {H:Type} {enc:TypeId×Value->H}
end Go.Abs.S
namespace Go.Abs.S
open Go.Abs
def eI(m n:Nat)(H:aa)(s:ab)(L:List ab)(k:Nat):Prop:=
 (s=bP/\L=[]/\k=0)∨∃b low,s=.slice (some ⟨b,L.length,0⟩) k (.open_ m)/\L.length=m*k/\n<=b/\b<H.next/\H.get b=some (.cells L low false)/\low<=L.length/\0<k
theorem eI.nil(m n:Nat)(H:aa):eI m n H bP [] 0:=.inl ⟨rfl,rfl,rfl⟩
theorem eI.len{m n k:Nat}{H:aa}{s:ab}{L:List ab}(h:eI m n H s L k):gv false s=some (.int .i64 (k:Int)):=by
 rcases h with⟨rfl,_,rfl⟩ | ⟨b,low,rfl,_⟩ <;> rfl
theorem eI.blk{m n k:Nat}{H:aa}{s:ab}{L:List ab}(h:eI m n H s L k):∀a j r,s=.slice (some a) j r->a.b<H.next:=by
 intro a j r he
 rcases h with⟨rfl,_⟩ | ⟨b,low,rfl,_,_,h4,_⟩
 ·simp[bP]at he
 ·simp only[ab.slice.injEq,sJ]at he
  rw[<- he.1]; exact h4
def jO(H:aa)(m:Nat):ab:=.slice (some ⟨H.next,m,0⟩) 1 (.known 1)
theorem jp{m:Nat}{z xs:List ab}(H:aa)(hz:z.length=m)(hx:xs.length=m):cD 1 z H [(0,m,.agg xs)]=some (jO H m,H.push (.cells xs 0 false)):=by
 subst hz
 have hb:Nat.beq xs.length z.length=true:=by rw[hx]; exact Nat.beq_refl _
 simp only[cD,ud,List.append_nil,ny,cq,hx,Nat.beq_refl,Nat.zero_add,QS rL,Bool.and_self,cond_true,rQ,List.take_zero,List.nil_append,List.drop_length,List.append_nil,jO]
theorem Lz{m:Nat}{xs:List ab}(H:aa)(hx:xs.length=m):jU m (H.push (.cells xs 0 false)) (jO H m)=some (1,xs):=by
 subst hx
 have:=eP (H:=H.push (.cells xs 0 false)) (b:=H.next) (l:=xs) (low:=0) (ro:=false) (by rw[aa.get_push,if_pos rfl]) (Nat.zero_le _)
 simp only[jU,jO,Nat.one_mul,this]
theorem eI.push{m n k:Nat}{H:aa}{s:ab}{L:List ab}(h:eI m n H s L k)(hn:n<=H.next){xs:List ab}(hx:xs.length=m)(ho:xs.all ab.one=true)(hm:0<m){bytes:Nat}(hb:2*(k+1)*bytes<=281474976710656)(hb1:0<bytes) :
  ∃s' H',bJ m bytes (H.push (.cells xs 0 false)) s (jO H m)=some (s',H')/\eI m n H' s' (L++xs) (k+1)/\aS n H H'/\∀c,c<H.next->(∀a j r,s=.slice (some a) j r->c≠a.b)->H'.get c=H.get c:=by
 have hlen:k+1<=9223372036854775807:=by
  have:2*(k+1)<=2*(k+1)*bytes:=Nat.le_mul_of_pos_right _ hb1
  omega
 have hlt:Nat.blt 0 m=true:=by simpa[Nat.blt_eq] using hm
 have c1:∀j,j=k->(Nat.blt 0 m&&(Nat.ble ((2*(j+1)+0)*bytes) 281474976710656&&(Nat.ble (j+1) 9223372036854775807&&(Nat.beq xs.length (1*m)&&xs.all ab.one))))=true:=by
  intro j hj
  subst hj
  simp only[Nat.add_zero,QS hb,QS hlen,hx,Nat.one_mul,Nat.beq_refl,ho,hlt,Bool.and_self]
 rcases h with⟨rfl,rfl,rfl⟩ | ⟨b,low,rfl,h2,h3,h4,h5,h6,h7⟩
 ·refine⟨.slice (some ⟨H.next+1,m,0⟩) 1 (.open_ m),(H.push (.cells xs 0 false)).push (.cells xs 0 false),?_,.inr ⟨H.next+1,0,by simp[hx],by simp[hx],om,Nat.lt_succ_self _,?_,Nat.zero_le _,om⟩,((aS.refl n H).push hn _).push (by rw[aZ]; omega) _,fun c hc _=>by rw[aa.get_push,if_neg (by rw[aZ]; omega),aE hc]⟩
  ·simp only[bJ,Lz H hx,bP]
   rw[show Nat.beq 1 0=false from rfl,cond_false,c1 0 rfl,cond_true,hx]
   rfl
  ·rw[aa.get_push]; exact if_pos rfl
 ·have hg:(H.push (.cells xs 0 false)).get b=some (.cells L low false):=by rw[aa.get_push,if_neg om]; exact h5
  have hgrow:cY (H.push (.cells xs 0 false)) ⟨b,L.length,0⟩ L.length xs=some ((H.push (.cells xs 0 false)).set b (.cells (L++xs) low false)):=by
   unfold cY
   simp only[hg,QS h6,QS rL,QS (Nat.zero_le _),QS (show L.length+1<=L.length+xs.length by omega),Nat.beq_refl,ho,Bool.and_self,cond_true,List.take_length]
  refine⟨.slice (some ⟨b,L.length+m,0⟩) (k+1) (.open_ m),(H.push (.cells xs 0 false)).set b (.cells (L++xs) low false),?_,.inr ⟨b,low,by simp[hx],by rw[lA,h2,hx,Nat.mul_add,Nat.mul_one],h3,by rw[lu,aZ]; omega,by rw[aa.get_set,if_pos rfl],by simp; omega,om⟩,((aS.refl n H).push hn _).set h3 _,fun c hc hd=>by rw[aa.get_set,if_neg (hd _ _ _ rfl),aE hc]⟩
  have e0:0+k*m=L.length:=by rw[h2,Nat.mul_comm]; omega
  have e1:Nat.ble (0+(k+1)*m) L.length=false:=by
   rw[kP]; refine decide_eq_false ?_
   rw[Nat.add_mul,Nat.one_mul]; omega
  simp only[bJ,Lz H hx]
  rw[show Nat.beq 1 0=false from rfl,cond_false,c1 k rfl,cond_true]
  simp only[Nat.beq_refl,cond_true,e1,cond_false,e0,hgrow,hx]
theorem Qr{b lim k m:Nat}(K:IntKind){i:Nat}(h:i<k):eH m (.slice (some ⟨b,lim,0⟩) k (.open_ m)) (.int K (i:Int))=some (ae b lim (i*m)):=by
 show (bif Nat.blt i k then some (ab.ptr (some ⟨b,lim,0+i*m⟩)) else none)=_
 have:Nat.blt i k=true:=by simpa[Nat.blt_eq] using h
 rw[this,Nat.zero_add]; rfl
end Go.Abs.S
namespace Go.Abs.S
open Go.Abs
def eJ(v:ab)(P:Nat->Prop):Prop:=∀a m r,v=.slice (some a) m r->P a.b
theorem eJ.mono{v:ab}{P Q:Nat->Prop}(h:eJ v P)(k:∀b,P b->Q b):eJ v Q:=fun a m r e=>k _ (h a m r e)
theorem JE{s:ab}(h:MT s=true):s.one=true:=by
 rcases j7 h with rfl | ⟨a,rfl⟩ <;> rfl
theorem wS(P:Nat->Prop):eJ bP P:=by intro a m r h; simp[bP]at h
theorem kl{a:Ad}{m:Nat}{r:tP}{P:Nat->Prop}(h:P a.b):eJ (.slice (some a) m r) P:=by
 intro a' m' r' e
 simp only[ab.slice.injEq,sJ]at e
 rw[<- e.1]; exact h
theorem eJ.and{v:ab}{P Q:Nat->Prop}(h:eJ v P)(k:eJ v Q):eJ v fun b=>P b/\Q b:=fun a m r e=>⟨h a m r e,k a m r e⟩
theorem LG{H:aa}{b n:Nat}{l:List ab}(h:aT H b l)(hn:l.length=n){i k:Nat}(hik:i+k<=n):bv H ⟨b,n,i⟩ k=some ((l.drop i).take k):=by
 subst hn
 obtain⟨low,h1,h2⟩:=h
 unfold bv
 simp only[h1,QS h2,QS rL,QS hik,Bool.and_self,cond_true]
theorem eA{H:aa}{b n:Nat}{l:List ab}(h:aT H b l)(hn:l.length=n){i k:Nat}(hik:i+k<=n):am true k H (ae b n i)=some (.agg ((l.drop i).take k)):=by
 simp only[am,ae,LG h hn hik,cond_true]
theorem As{H:aa}{b n:Nat}{l:List ab}(h:aT H b l)(hn:l.length=n){i k:Nat}(hik:i+k<=n){xs:List ab}(hx:xs.length=k)(ho:xs.all ab.one=true) :
  ∃H',a8 k H (ae b n i) (.agg xs)=some H'/\aT H' b (l.take i++(xs++l.drop (i+k)))/\H'.next=H.next/\∀c,c≠b->H'.get c=H.get c:=by
 subst hn hx
 obtain⟨low,h1,h2⟩:=h
 refine⟨H.set b (.cells (l.take i++(xs++l.drop (i+xs.length))) l.length false),?_,⟨l.length,by rw[aa.get_set,if_pos rfl],by simp; omega⟩,rfl,fun c hc=>by rw[aa.get_set,if_neg hc]⟩
 simp only[a8,ae,cq,Nat.beq_refl,cond_true]
 unfold dZ
 simp only[h1,QS h2,Nat.beq_refl,QS hik,ho,Bool.and_self,cond_true]
theorem aB(b n i o:Nat):iG o (ae b n i)=some (ae b n (i+o)):=_root_.id rfl
theorem aw(b n i:Nat):cL (ae b n i)=some (ae b n i):=_root_.id rfl
theorem eI.blk'{m n k:Nat}{H:aa}{s:ab}{L:List ab}(h:eI m n H s L k):eJ s (·<H.next):=fun a j r e=>h.blk a j r e
theorem eI.same{m n k:Nat}{H H':aa}{s:ab}{L:List ab}(h:eI m n H s L k)(hn:H.next<=H'.next)(e:eJ s fun b=>H'.get b=H.get b):eI m n H' s L k:=by
 rcases h with h | ⟨b,low,rfl,h2,h3,h4,h5,h6,h7⟩
 ·exact .inl h
 ·exact .inr ⟨b,low,rfl,h2,h3,om,(e _ _ _ rfl).trans h5,h6,h7⟩
theorem eI.one{m n k:Nat}{H:aa}{s:ab}{L:List ab}(h:eI m n H s L k):s.one=true:=by
 rcases h with⟨rfl,_⟩ | ⟨b,low,rfl,_⟩ <;> rfl
theorem eI.pushB{m k:Nat}{H:aa}{s:ab}{L:List ab}(h:eI m 0 H s L k){xs:List ab}(hx:xs.length=m)(ho:xs.all ab.one=true)(hm:0<m){bytes:Nat}(hb:2*(k+1)*bytes<=281474976710656)(hb1:0<bytes) :
  ∃s' H',bJ m bytes (H.push (.cells xs 0 false)) s (jO H m)=some (s',H')/\eI m 0 H' s' (L++xs) (k+1)/\H.next<=H'.next/\(∀P,eJ s P->eJ s' fun b=>P b∨H.next<=b)/\∀c,c<H.next->eJ s (c≠·)->H'.get c=H.get c:=by
 rcases h with⟨rfl,rfl,rfl⟩ | ⟨b,low,rfl,h2,h3,h4,h5,h6,h7⟩
 ·obtain⟨s',H',h1,h2,h3,h4⟩:=(eI.nil m H.next H).push rL hx ho hm hb hb1
  refine⟨s',H',h1,?_,h3.next,fun P _=>?_,fun c hc _=>h3.old c hc⟩
  ·rcases h2 with h2 | ⟨b,low,e1,e2,e3,e4,e5,e6,e7⟩
   ·exact .inl h2
   ·exact .inr ⟨b,low,e1,e2,Nat.zero_le _,e4,e5,e6,e7⟩
  ·rcases h2 with⟨_,_,h2⟩ | ⟨b,low,rfl,e2,e3,e4,e5,e6,e7⟩
   ·omega
   ·exact kl (.inr e3)
 ·have h0:eI m 0 H (.slice (some ⟨b,L.length,0⟩) k (.open_ m)) L k:=.inr ⟨b,low,rfl,h2,h3,h4,h5,h6,h7⟩
  have hb':eI m b H (.slice (some ⟨b,L.length,0⟩) k (.open_ m)) L k:=.inr ⟨b,low,rfl,h2,Nat.le_refl _,h4,h5,h6,h7⟩
  have hlen:k+1<=9223372036854775807:=by
   have:2*(k+1)<=2*(k+1)*bytes:=Nat.le_mul_of_pos_right _ hb1
   omega
  have hlt:Nat.blt 0 m=true:=by simpa[Nat.blt_eq] using hm
  have c1:(Nat.blt 0 m&&(Nat.ble ((2*(k+1)+0)*bytes) 281474976710656&&(Nat.ble (k+1) 9223372036854775807&&(Nat.beq xs.length (1*m)&&xs.all ab.one))))=true:=by
   simp only[Nat.add_zero,QS hb,QS hlen,hx,Nat.one_mul,Nat.beq_refl,ho,hlt,Bool.and_self]
  have hg:(H.push (.cells xs 0 false)).get b=some (.cells L low false):=by rw[aa.get_push,if_neg om]; exact h5
  have hgrow:cY (H.push (.cells xs 0 false)) ⟨b,L.length,0⟩ L.length xs=some ((H.push (.cells xs 0 false)).set b (.cells (L++xs) low false)):=by
   unfold cY
   simp only[hg,QS h6,QS rL,QS (Nat.zero_le _),QS (show L.length+1<=L.length+xs.length by omega),Nat.beq_refl,ho,Bool.and_self,cond_true,List.take_length]
  have e0:0+k*m=L.length:=by rw[h2,Nat.mul_comm]; omega
  have e1:Nat.ble (0+(k+1)*m) L.length=false:=by
   rw[kP]; refine decide_eq_false ?_
   rw[Nat.add_mul,Nat.one_mul]; omega
  refine⟨.slice (some ⟨b,L.length+m,0⟩) (k+1) (.open_ m),(H.push (.cells xs 0 false)).set b (.cells (L++xs) low false),?_,.inr ⟨b,low,by simp[hx],by rw[lA,h2,hx,Nat.mul_add,Nat.mul_one],Nat.zero_le _,by rw[lu,aZ]; omega,by rw[aa.get_set,if_pos rfl],by simp; omega,om⟩,by rw[lu,aZ]; omega,fun P hP=>(have hP2:P b:=hP _ _ _ rfl; kl (.inl hP2)),fun c hc hd=>by rw[aa.get_set,if_neg (hd _ _ _ rfl),aE hc]⟩
  simp only[bJ,Lz H hx]
  rw[show Nat.beq 1 0=false from rfl,cond_false,c1,cond_true]
  simp only[Nat.beq_refl,cond_true,e1,cond_false,e0,hgrow,hx]
end Go.Abs.S
namespace Go.Abs.S
open Go.Abs
end Go.Abs.S
namespace Go.Abs.S
open Go.Abs
def hold(c:cp):cp:=c
theorem zR(a:Ad)(n m:Nat):aeq (.slice (some a) n (.open_ m)) (.slice (some a) n (.open_ m))=true:=by simp[aeq]
theorem tI:aeq bP bP=true:=rfl
end Go.Abs.S
namespace Go.Abs.S
open Go.Abs
theorem sW:type_of% (And.intro (And.intro (And.intro (And.intro (And.intro (And.intro (And.intro (@Gl) (@rG)) (And.intro (@B4) (@B5))) (And.intro (And.intro (@B3) (@CM)) (@Fq))) (And.intro (And.intro (And.intro (@eq_self.{1}) (@decide_true)) (@decide_false)) (And.intro (And.intro (@Bool.not_true) (@Bool.not_false)) (@Ic)))) (And.intro (And.intro (And.intro (And.intro (@Ib) (@Ia)) (And.intro (@HZ) (@HY))) (And.intro (And.intro (@Dc) (@HW)) (@wT))) (And.intro (And.intro (And.intro (@De) (@Dd)) (@HV)) (And.intro (And.intro (@oU) (@sM)) (@uZ))))) (And.intro (And.intro (And.intro (And.intro (And.intro (@sN) (@oV)) (And.intro (@vd) (@vP))) (And.intro (And.intro (@vQ) (@vO)) (@yx))) (And.intro (And.intro (And.intro (@Ie) (@zK)) (@Ih)) (And.intro (And.intro (@Dg) (@Ig)) (@Ik)))) (And.intro (And.intro (And.intro (And.intro (@zO) (@tE)) (@Dh)) (And.intro (And.intro (@zH) (@vD)) (@Il))) (And.intro (And.intro (And.intro (@Lh) (@Dk)) (@vH)) (And.intro (And.intro (@vI) (@vE)) (@tC)))))) (And.intro (And.intro (And.intro (And.intro (And.intro (And.intro (@tB) (@Li)) (And.intro (@zJ) (@vG))) (And.intro (And.intro (@zL) (@Dj)) (@vF))) (And.intro (And.intro (And.intro (@Ij) (@Di)) (@tD)) (And.intro (And.intro (@vJ) (@Ii)) (@Dl)))) (And.intro (And.intro (And.intro (And.intro (@zM) (@iz)) (@Lj)) (And.intro (And.intro (@Lk) (@Id)) (@xu))) (And.intro (And.intro (And.intro (@xw) (@Oe)) (@Og)) (And.intro (And.intro (@Of) (@KX)) (@Ht))))) (And.intro (And.intro (And.intro (And.intro (And.intro (@Hs) (@BR)) (And.intro (@Kt) (@ne_eq.{1}))) (And.intro (And.intro (@not_false_eq_true) (@ab.bool.injEq)) (@decide_eq_true_eq))) (And.intro (And.intro (And.intro (@decide_eq_false_iff_not) (@Int.ofNat_eq_natCast)) (@Int.cast_ofNat_Int)) (And.intro (And.intro (@C6) (@C7)) (@C8)))) (And.intro (And.intro (And.intro (And.intro (@C9) (@Da)) (@C0)) (And.intro (And.intro (@Db) (@CY)) (@C5))) (And.intro (And.intro (And.intro (@Bool.not_eq_true') (@Bool.not_eq_false')) (@Bool.true_eq_false)) (And.intro (And.intro (@Bool.false_eq_true) (@if_true.{1})) (@if_false.{1}))))))):=And.intro (And.intro (And.intro (And.intro (And.intro (And.intro (And.intro (@Gl) (@rG)) (And.intro (@B4) (@B5))) (And.intro (And.intro (@B3) (@CM)) (@Fq))) (And.intro (And.intro (And.intro (@eq_self.{1}) (@decide_true)) (@decide_false)) (And.intro (And.intro (@Bool.not_true) (@Bool.not_false)) (@Ic)))) (And.intro (And.intro (And.intro (And.intro (@Ib) (@Ia)) (And.intro (@HZ) (@HY))) (And.intro (And.intro (@Dc) (@HW)) (@wT))) (And.intro (And.intro (And.intro (@De) (@Dd)) (@HV)) (And.intro (And.intro (@oU) (@sM)) (@uZ))))) (And.intro (And.intro (And.intro (And.intro (And.intro (@sN) (@oV)) (And.intro (@vd) (@vP))) (And.intro (And.intro (@vQ) (@vO)) (@yx))) (And.intro (And.intro (And.intro (@Ie) (@zK)) (@Ih)) (And.intro (And.intro (@Dg) (@Ig)) (@Ik)))) (And.intro (And.intro (And.intro (And.intro (@zO) (@tE)) (@Dh)) (And.intro (And.intro (@zH) (@vD)) (@Il))) (And.intro (And.intro (And.intro (@Lh) (@Dk)) (@vH)) (And.intro (And.intro (@vI) (@vE)) (@tC)))))) (And.intro (And.intro (And.intro (And.intro (And.intro (And.intro (@tB) (@Li)) (And.intro (@zJ) (@vG))) (And.intro (And.intro (@zL) (@Dj)) (@vF))) (And.intro (And.intro (And.intro (@Ij) (@Di)) (@tD)) (And.intro (And.intro (@vJ) (@Ii)) (@Dl)))) (And.intro (And.intro (And.intro (And.intro (@zM) (@iz)) (@Lj)) (And.intro (And.intro (@Lk) (@Id)) (@xu))) (And.intro (And.intro (And.intro (@xw) (@Oe)) (@Og)) (And.intro (And.intro (@Of) (@KX)) (@Ht))))) (And.intro (And.intro (And.intro (And.intro (And.intro (@Hs) (@BR)) (And.intro (@Kt) (@ne_eq.{1}))) (And.intro (And.intro (@not_false_eq_true) (@ab.bool.injEq)) (@decide_eq_true_eq))) (And.intro (And.intro (And.intro (@decide_eq_false_iff_not) (@Int.ofNat_eq_natCast)) (@Int.cast_ofNat_Int)) (And.intro (And.intro (@C6) (@C7)) (@C8)))) (And.intro (And.intro (And.intro (And.intro (@C9) (@Da)) (@C0)) (And.intro (And.intro (@Db) (@CY)) (@C5))) (And.intro (And.intro (And.intro (@Bool.not_eq_true') (@Bool.not_eq_false')) (@Bool.true_eq_false)) (And.intro (And.intro (@Bool.false_eq_true) (@if_true.{1})) (@if_false.{1}))))))
theorem sL:type_of% (And.intro (And.intro (@List.nil_append.{0}) (@List.cons_append.{0})) (@List.append_nil.{0})):=And.intro (And.intro (@List.nil_append.{0}) (@List.cons_append.{0})) (@List.append_nil.{0})
theorem sR:type_of% (And.intro (And.intro (And.intro (And.intro (And.intro (And.intro (@vr) (@tR)) (@tS)) (And.intro (@tQ) (@uX))) (And.intro (And.intro (And.intro (@Fw) (@xD)) (@BT)) (And.intro (@Kx) (@Fx)))) (And.intro (And.intro (And.intro (And.intro (@FA) (@xG)) (@rN)) (And.intro (@BU) (@xB))) (And.intro (And.intro (And.intro (@uw) (@FB)) (@Ku)) (And.intro (@BX) (@uA))))) (And.intro (And.intro (And.intro (And.intro (And.intro (@uB) (@ux)) (@rJ)) (And.intro (@rI) (@Kv))) (And.intro (And.intro (And.intro (@xC) (@uz)) (@xE)) (And.intro (@BW) (@uy)))) (And.intro (And.intro (And.intro (And.intro (@Fz) (@BV)) (@rM)) (And.intro (@uC) (@Fy))) (And.intro (And.intro (And.intro (@BZ) (@xF)) (@Kw)) (And.intro (@Ky) (@Fv)))))):=And.intro (And.intro (And.intro (And.intro (And.intro (And.intro (@vr) (@tR)) (@tS)) (And.intro (@tQ) (@uX))) (And.intro (And.intro (And.intro (@Fw) (@xD)) (@BT)) (And.intro (@Kx) (@Fx)))) (And.intro (And.intro (And.intro (And.intro (@FA) (@xG)) (@rN)) (And.intro (@BU) (@xB))) (And.intro (And.intro (And.intro (@uw) (@FB)) (@Ku)) (And.intro (@BX) (@uA))))) (And.intro (And.intro (And.intro (And.intro (And.intro (@uB) (@ux)) (@rJ)) (And.intro (@rI) (@Kv))) (And.intro (And.intro (And.intro (@xC) (@uz)) (@xE)) (And.intro (@BW) (@uy)))) (And.intro (And.intro (And.intro (And.intro (@Fz) (@BV)) (@rM)) (And.intro (@uC) (@Fy))) (And.intro (And.intro (And.intro (@BZ) (@xF)) (@Kw)) (And.intro (@Ky) (@Fv)))))
theorem KE(T:bG):iZ T []=[]:=_root_.id rfl
theorem KF(T:bG)(x:bu)(r:List bu):iZ T (x::r)=sX T x::iZ T r:=_root_.id rfl
theorem KK(T:bG):iI T none=none:=_root_.id rfl
theorem KJ(T:bG)(x:bu):iI T (some x)=some (sX T x):=_root_.id rfl
theorem KG(T:bG):nf T []=[]:=_root_.id rfl
theorem KI(T:bG)(o n:Nat)(x:bu)(r:List (Nat×Nat×bu)):nf T ((o,n,x)::r)=(o,n,sX T x)::nf T r:=_root_.id rfl
theorem sA:type_of% (And.intro sW (And.intro sL (And.intro @dS (And.intro @KE (And.intro @KF (And.intro @KK (And.intro @KJ (And.intro @KG @KI)))))))):=And.intro sW (And.intro sL (And.intro @dS (And.intro @KE (And.intro @KF (And.intro @KK (And.intro @KJ (And.intro @KG @KI)))))))
end Go.Abs.S
namespace Go.Abs.S
open Go.Abs
theorem eI.many{m k j:Nat}{H:aa}{s x:ab}{L xs:List ab}(h:eI m 0 H s L k)(hs:jU m H x=some (j,xs))(hx:xs.length=m*j)(ho:xs.all ab.one=true)(hm:0<m){bytes:Nat}(hb:2*(k+j)*bytes<=281474976710656)(hb1:0<bytes) :
  ∃s' H',bJ m bytes H s x=some (s',H')/\eI m 0 H' s' (L++xs) (k+j)/\H.next<=H'.next/\(∀P,eJ s P->eJ s' fun b=>P b∨H.next<=b)/\∀c,c<H.next->eJ s (c≠·)->H'.get c=H.get c:=by
 by_cases hj:j=0
 ·subst hj
  have hxs:xs=[]:=List.length_eq_zero_iff.1 om
  subst hxs
  rw[List.append_nil,Nat.add_zero]
  refine⟨s,H,?_,h,Nat.le_refl _,fun P hP=>hP.mono fun b hb=>.inl hb,fun _ _ _=>rfl⟩
  simp only[bJ,hs,show Nat.beq 0 0=true from rfl,cond_true]
  rcases h with⟨rfl,_⟩ | ⟨b,low,rfl,_⟩ <;> rfl
 have hxl:0<xs.length:=by rw[hx]; exact Nat.mul_pos hm om
 have hlen:k+j<=9223372036854775807:=by
  have:2*(k+j)<=2*(k+j)*bytes:=Nat.le_mul_of_pos_right _ hb1
  omega
 have hlt:Nat.blt 0 m=true:=by simpa[Nat.blt_eq] using hm
 have e0:Nat.beq j 0=false:=by rw[bD]; exact decide_eq_false hj
 have c1:∀q,q=k->(Nat.blt 0 m&&(Nat.ble ((2*(q+j)+0)*bytes) 281474976710656&&(Nat.ble (q+j) 9223372036854775807&&(Nat.beq xs.length (j*m)&&xs.all ab.one))))=true:=by
  intro q hq
  subst hq
  simp only[Nat.add_zero,QS hb,QS hlen,hx,Nat.mul_comm m j,Nat.beq_refl,ho,hlt,Bool.and_self]
 rcases h with⟨rfl,rfl,rfl⟩ | ⟨b,low,rfl,h2,h3,h4,h5,h6,h7⟩
 ·refine⟨.slice (some ⟨H.next,xs.length,0⟩) j (.open_ m),H.push (.cells xs 0 false),?_,.inr ⟨H.next,0,by simp,by simp[hx],Nat.zero_le _,Nat.lt_succ_self _,by rw[aa.get_push]; exact if_pos rfl,Nat.zero_le _,om⟩,by simp[aa.push],fun P _=>kl (.inr rL),fun c hc _=>aE hc⟩
  simp only[bJ,hs,e0,cond_false,bP]
  rw[c1 0 rfl,cond_true]
 ·have hgrow:cY H ⟨b,L.length,0⟩ L.length xs=some (H.set b (.cells (L++xs) low false)):=by
   unfold cY
   simp only[h5,QS h6,QS rL,QS (Nat.zero_le _),QS (show L.length+1<=L.length+xs.length by omega),Nat.beq_refl,ho,Bool.and_self,cond_true,List.take_length]
  have e1:0+k*m=L.length:=by rw[h2,Nat.mul_comm]; omega
  have e2:Nat.ble (0+(k+j)*m) L.length=false:=by
   rw[kP]; refine decide_eq_false ?_
   rw[Nat.add_mul,h2,Nat.mul_comm k m]
   have:0<j*m:=Nat.mul_pos om hm
   omega
  refine⟨.slice (some ⟨b,L.length+xs.length,0⟩) (k+j) (.open_ m),H.set b (.cells (L++xs) low false),?_,.inr ⟨b,low,by simp,by rw[lA,h2,hx,Nat.mul_add],Nat.zero_le _,by rw[lu]; exact h4,by rw[aa.get_set,if_pos rfl],by simp; omega,om⟩,Nat.le_refl _,fun P hP=>(have hP2:P b:=hP _ _ _ rfl; kl (.inl hP2)),fun c hc hd=>by rw[aa.get_set,if_neg (hd _ _ _ rfl)]⟩
  simp only[bJ,hs,e0,cond_false,c1 k rfl,cond_true,Nat.beq_refl,e1,e2,hgrow]
theorem eI.cel1{H:aa}{s:ab}{L:List ab}{k n:Nat}(h:eI 1 0 H s L k)(hb:eJ s (·<n)):xj n H s L:=by
 rcases h with⟨rfl,rfl,_⟩ | ⟨b,low,rfl,h2,_,h4,h5,h6,_⟩
 ·exact .inl ⟨rfl,rfl⟩
 ·have e:k=L.length:=om
  exact .inr ⟨⟨b,L.length,0⟩,.open_ 1,by rw[e],hb _ _ _ rfl,eP h5 h6⟩
end Go.Abs.S
namespace Go.Abs.S
open Go.Abs
end Go.Abs.S
namespace Go.Abs.S
open Go.Abs
end Go.Abs.S
namespace Go.Abs.S
open Go.Abs
end Go.Abs.S
namespace Go.Abs.S
open Go.Abs
theorem zE{C:CS}{T:bG}{H:aa}{Q:pz}{l:List an}{chk:List (List Nat)}(h:fj C (aF H.next l) T (bY H l) fun ss T' H'=>zY (bY H l::ss.map (·.2)) (aF H.next l) chk ss T/\Q .normal T' H'):wp C (.draw l chk) Q T H:=h
theorem ol{C:CS}{T:bG}{H:aa}{K:List (ab×aa)->bG->aa->Prop}{d:Option Nat}{r:List an}(b:Nat)(z:List ab)(s:Option (Nat×Nat)):fj C (⟨d,.claim b z s,none⟩::r) T H K=fI (fT H b z s) C r T d H K:=_root_.id rfl
theorem j9{H:aa}{b:Nat}{z:List ab}(h:H.get b=some (.cells z 0 false))(hz:aeqs z z=true):fT H b z none=some (ae b z.length 0):=by
 unfold fT
 simp only[h,hz,cond_true]; rfl
theorem pV{T:bG}{d:Option Nat}(hs:List aa)(p:Nat)(q:List Nat)(b:Nat)(z:List ab)(s:Option (Nat×Nat))(g:Option (Nat×Bool))(v:ab):IR hs (p::q) T ⟨d,.claim b z s,g⟩ v=((∃Hp,hs[p]?=some Hp/\(sG T g=true->∃u,fT Hp b z s=some u/\aeq u v=true))/\IR hs q T ⟨d,.claim b z s,g⟩ v):=by
 simp[IR,N4]
theorem mY(b n i:Nat):aeq (ae b n i) (ae b n i)=true:=by simp[aeq,ae]
end Go.Abs.S
namespace Go.Abs.S
open Go.Abs Go.WideShapes Go.ChangeShapes
variable {H:Type} {enc:TypeId×Value->H}
end Go.Abs.S
namespace Go.Abs.S
open Go.Abs
abbrev zi(n:Nat):bu:=.c (.int .i64 (.ofNat n))
abbrev zu(n:Nat):bu:=.c (.int .u8 (.ofNat n))
abbrev zn:bu:=.c (.slice none 0 (.known 0))
abbrev zI(n:Nat):ab:=.int .i64 (.ofNat n)
abbrev zU(n:Nat):ab:=.int .u8 (.ofNat n)
abbrev zN:ab:=.slice none 0 (.known 0)
abbrev zo(d:Nat)(p:jv):an:=⟨some d,p,none⟩
abbrev zp(p:jv):an:=⟨none,p,none⟩
abbrev zg(d:Nat)(p:jv)(t:Nat)(b:Bool):an:=⟨some d,p,some (t,b)⟩
abbrev zm(d x:Nat):an:=⟨some d,.mv (.t x),none⟩
abbrev zc(d x:Nat):an:=⟨some d,.nilChk (.t x),none⟩
abbrev zf(d n x:Nat):an:=⟨some d,.fieldA n (.t x),none⟩
abbrev zl(d x:Nat):an:=⟨some d,.load false 1 (.t x),none⟩
abbrev zt(d n x:Nat):an:=⟨some d,.load true n (.t x),none⟩
abbrev ze(d n x:Nat):an:=⟨some d,.extract n (.t x),none⟩
abbrev zb(d:Nat)(o:BinOp)(x y:Nat):an:=⟨some d,.bin o (.t x) (.t y),none⟩
abbrev zk(d:Nat)(o:BinOp)(x n:Nat):an:=⟨some d,.bin o (.t x) (.c (.int .i64 (.ofNat n))),none⟩
abbrev zx(d f:Nat)(l:List bu):an:=⟨some d,.call f l,none⟩
abbrev zh(d x:Nat):an:=⟨some d,.len false (.t x),none⟩
abbrev zd(d x y:Nat):an:=⟨some d,.idxA 1 (.t x) (.t y),none⟩
abbrev zy(d x y:Nat):an:=⟨some d,.append 1 1 (.t x) (.t y),none⟩
abbrev zv(d:Nat)(k:IntKind)(x:Nat):an:=⟨some d,.conv k (.t x),none⟩
abbrev zs(x y:Nat):an:=⟨none,.store 1 (.t x) (.t y),none⟩
abbrev zq(l:List an)(c:cp):cp:=.seq (.reg l) c
abbrev zr(l:List an)(x:Nat)(a b c:cp):cp:=.seq (.seq (.reg l) (.cond (.t x) a b)) c
theorem Kp(n:Nat):zI n=.int .i64 (n:Int):=_root_.id rfl
theorem Kn(n:Nat):zU n=.int .u8 (n:Int):=_root_.id rfl
theorem Ko:zN=.slice none 0 (.known 0):=_root_.id rfl
theorem sB:type_of% (And.intro @Kp (And.intro @Kn Ko)):=And.intro @Kp (And.intro @Kn Ko)
end Go.Abs.S
namespace Go.Proofs.Wo
open Go.Abs Go.Abs.S
noncomputable section
def c62:bV:=⟨110,zq [zo 4 (.new [zU 0,.str [],zI 0,zI 0,zI 0,zI 0]),zo 5 (.new [zI 0,zI 0])] (zr [zm 11 0,zo 12 (.len true (.t 11)),zk 13 .gtr 12 16384] 13 (zq [zo 14 (.build [zU 0,.str [],zI 0,zI 0,zI 0,zI 0] []),zo 15 (.build [zI 0,zI 0] [(0,1,zi 3)]),zp (.store 6 (.t 4) (.t 14)),zp (.store 2 (.t 5) (.t 15))] .ret) .skip (zr [zm 16 1,zk 17 .lss 16 0,zm 18 17,zg 19 (.mv (.t 1)) 18 false,zg 20 (.mv (.t 0)) 18 false,zg 21 (.len true (.t 20)) 18 false,zg 22 (.bin .gtr (.t 19) (.t 21)) 18 false,zo 23 (.pick (.t 18) (.c (.bool true)) (.t 22))] 23 (zq [zo 24 (.build [zU 0,.str [],zI 0,zI 0,zI 0,zI 0] []),zo 25 (.build [zI 0,zI 0] [(0,1,zi 2)]),zp (.store 6 (.t 4) (.t 24)),zp (.store 2 (.t 5) (.t 25))] .ret) .skip (zq [zm 26 0,zm 27 1,zx 28 101 [.t 26,.t 27],zm 1 28] (zq [zm 29 1,zm 30 1,zm 31 0,zm 32 1,zo 33 (.slStr (.t 31) none (some (.t 32))),zx 34 102 [.t 33,.c (.str [10])],zo 35 (.bin .add (zi 1) (.t 34)),zo 36 (.build [zU 0,.str [],zI 0,zI 0,zI 0,zI 0] [(4,1,.t 29),(5,1,.t 30),(3,1,.t 35)]),zo 6 (.new [zU 0,.str [],zI 0,zI 0,zI 0,zI 0]),zp (.store 6 (.t 6) (.t 36))] (zq [zf 37 3 6,zl 38 37,zo 39 (.build [zI 0,zI 0] [(0,1,zi 100),(1,1,.t 38)]),zo 7 (.new [zI 0,zI 0]),zp (.store 2 (.t 7) (.t 39))] (.seq (.block 0 (zq [zm 57 1,zm 58 0,zo 59 (.len true (.t 58)),zb 60 .eql 57 59,zm 56 60] (.cond (.t 56) (.reg [zf 61 0 6,zp (.store 1 (.t 61) (zu 5))]) (zq [zm 63 0,zm 64 1,zo 65 (.idxS (.t 63) (.t 64)),zx 66 103 [.t 65],zm 62 66] (.cond (.t 62) (zq [zm 67 0,zm 68 1,zx 69 104 [.t 67,.t 68],zf 70 5 6,zs 70 69] (zq [zm 72 0,zm 73 1,zf 74 5 6,zl 75 74,zo 76 (.slStr (.t 72) (some (.t 73)) (some (.t 75))),zx 77 105 [.t 76],zm 71 77,ze 78 0 71,ze 79 1 71,zm 8 78,zm 9 79] (zr [zm 80 9,zo 81 (.un .not (.t 80))] 81 (.seq (.draw [zo 82 (.build [zU 0,.str [],zI 0,zI 0,zI 0,zI 0] []),zt 83 2 7,zp (.store 6 (.t 4) (.t 82)),zp (.store 2 (.t 5) (.t 83))] [[],[3],[],[]]) .ret) .skip (.reg [zm 84 8,zf 85 0 6,zp (.store 1 (.t 85) (zu 1)),zf 86 2 6,zs 86 84])))) (zq [zm 88 0,zm 89 1,zo 90 (.idxS (.t 88) (.t 89)),zx 91 106 [.t 90],zm 87 91] (.cond (.t 87) (zq [zm 92 0,zm 93 1,zx 94 107 [.t 92,.t 93,.f 108],zf 95 5 6,zs 95 94] (zq [zm 96 0,zm 97 1,zf 98 5 6,zl 99 98,zo 100 (.slStr (.t 96) (some (.t 97)) (some (.t 99))),zx 101 109 [.t 100],zf 102 0 6,zp (.store 1 (.t 102) (zu 2)),zf 103 1 6,zs 103 101] (zq [zf 104 1 6,zl 105 104,zx 106 110 [.t 105]] (.cond (.t 106) (.reg [zf 107 0 6,zp (.store 1 (.t 107) (zu 3))]) .skip)))) (zq [zm 40 0,zm 41 1,zx 42 111 [.t 40,.t 41],zm 10 42] (zr [zm 43 10,zo 44 (.bin .eql (.t 43) (.c (.str [])))] 44 (.seq (.draw [zo 45 (.build [zU 0,.str [],zI 0,zI 0,zI 0,zI 0] []),zt 46 2 7,zp (.store 6 (.t 4) (.t 45)),zp (.store 2 (.t 5) (.t 46))] [[],[3],[],[]]) .ret) .skip (.reg [zm 47 10,zx 48 109 [.t 47],zm 49 1,zm 50 10,zo 51 (.len true (.t 50)),zb 52 .add 49 51,zf 53 0 6,zp (.store 1 (.t 53) (zu 4)),zf 54 1 6,zs 54 48,zf 55 5 6,zs 55 52])))))))))) (zq [zt 108 6 6,zo 109 (.build [zI 0,zI 0] []),zp (.store 6 (.t 4) (.t 108)),zp (.store 2 (.t 5) (.t 109))] .ret))))))),[.cell true 6 4,.cell true 2 5]⟩
theorem P0:cN Tryz.prog 62=some c62:=by kernel_rfl
def Pb:bV:=⟨22,zq [zo 4 (.mv (zi 0))] (.block 0 (.loop (.block 1 (zq [zm 5 0,zm 6 1,zx 7 107 [.t 5,.t 6,.f 146],zm 1 7] (zr [zm 8 1,zm 9 0,zo 10 (.len true (.t 9)),zb 11 .eql 8 10,zm 12 11,zg 13 (.mv (.t 0)) 12 false,zg 14 (.mv (.t 1)) 12 false,zg 15 (.idxS (.t 13) (.t 14)) 12 false,zg 16 (.bin .neq (.t 15) (zu 35)) 12 false,zo 17 (.pick (.t 12) (.c (.bool true)) (.t 16))] 17 (zq [zm 18 1,zm 4 18] .ret) .skip (.reg [zm 19 0,zm 20 1,zx 21 107 [.t 19,.t 20,.f 147],zm 1 21])))))),[.t 4]⟩
theorem N2:cN Tryz.prog 101=some Pb:=by kernel_rfl
def O7:bV:=⟨21,zq [zo 6 (.mv (zi 0))] (.seq (.block 0 (.loop (zr [zm 7 1,zm 8 0,zo 9 (.len true (.t 8)),zb 10 .lss 7 9,zm 11 10,zg 12 (.mv (.t 2)) 11 true,zg 13 (.mv (.t 0)) 11 true,zg 14 (.mv (.t 1)) 11 true,zg 15 (.idxS (.t 13) (.t 14)) 11 true,zg 16 (.callv (.t 12) [.t 15]) 11 true,zo 17 (.pick (.t 11) (.t 16) (.c (.bool false)))] 17 .skip (.exit 0) (.block 1 (.reg [zm 18 1,zk 19 .add 18 1,zm 1 19]))))) (zq [zm 20 1,zm 6 20] .ret)),[.t 6]⟩
theorem NV:cN Tryz.prog 107=some O7:=by kernel_rfl
def OT:bV:=⟨17,zq [zo 2 (.mv (.c (.bool false)))] (zq [zm 3 0,zo 4 (.bin .eql (.t 3) (zu 9)),zm 5 4,zg 6 (.mv (.t 0)) 5 false,zg 7 (.bin .eql (.t 6) (zu 10)) 5 false,zo 8 (.pick (.t 5) (.c (.bool true)) (.t 7)),zm 9 8,zg 10 (.mv (.t 0)) 9 false,zg 11 (.bin .eql (.t 10) (zu 13)) 9 false,zo 12 (.pick (.t 9) (.c (.bool true)) (.t 11)),zm 13 12,zg 14 (.mv (.t 0)) 13 false,zg 15 (.bin .eql (.t 14) (zu 32)) 13 false,zo 16 (.pick (.t 13) (.c (.bool true)) (.t 15)),zm 2 16] .ret),[.t 2]⟩
theorem Nv:cN Tryz.prog 146=some OT:=by kernel_rfl
def OS:bV:=⟨5,zq [zo 2 (.mv (.c (.bool false)))] (zq [zm 3 0,zo 4 (.bin .neq (.t 3) (zu 10)),zm 2 4] .ret),[.t 2]⟩
theorem Nu:cN Tryz.prog 147=some OS:=by kernel_rfl
def Pa:bV:=⟨34,zq [zo 4 (.mv (zi 0))] (zr [zm 7 1,zo 8 (.len true (.t 7)),zk 9 .eql 8 0] 9 (zq [zm 10 0,zx 11 148 [.t 10],zk 12 .add 11 1,zm 4 12] .ret) .skip (zr [zm 13 1,zo 14 (.len true (.t 13)),zk 15 .eql 14 1] 15 (zq [zm 16 0,zm 17 1,zo 18 (.idxS (.t 17) (zi 0)),zo 19 (.pf .cbs [.t 16,.t 18]),zm 4 19] .ret) .skip (zq [zo 5 (.mv (zi 0))] (.block 0 (.loop (.block 1 (zq [zm 20 0,zm 21 1,zx 22 150 [.t 20,.t 21],zm 6 22] (zr [zm 23 6,zo 24 (.bin .eql (.t 23) (.c (.int .i64 (.negSucc 0))))] 24 (zq [zm 25 5,zm 4 25] .ret) .skip (zq [zm 26 5,zk 27 .add 26 1,zm 5 27] (.reg [zm 28 0,zm 29 6,zm 30 1,zo 31 (.len true (.t 30)),zb 32 .add 29 31,zo 33 (.slStr (.t 28) (some (.t 32)) none),zm 0 33])))))))))),[.t 4]⟩
theorem N1:cN Tryz.prog 102=some Pa:=by kernel_rfl
def Mh:bV:=⟨143,zq [zo 4 (.mv (zi 0))] (zq [zm 14 1,zo 15 (.len true (.t 14)),zm 5 15] (.seq (.block 0 (zq [zm 17 5,zk 18 .eql 17 0,zm 19 18,zg 20 (.mv (.t 1)) 19 false,zg 21 (.mv (.t 0)) 19 false,zg 22 (.bin .eql (.t 20) (.t 21)) 19 false,zo 23 (.pick (.t 19) (.c (.bool true)) (.t 22)),zm 16 23] (.cond (.t 16) (zq [zo 4 (.mv (zi 0))] .ret) (zq [zm 25 5,zk 26 .eql 25 1,zm 24 26] (.cond (.t 24) (zq [zm 27 0,zm 28 1,zo 29 (.idxS (.t 28) (zi 0)),zx 30 184 [.t 27,.t 29],zm 4 30] .ret) (zq [zm 32 5,zm 33 0,zo 34 (.len true (.t 33)),zb 35 .geq 32 34,zm 31 35] (.cond (.t 31) (zq [zo 4 (.mv (.c (.int .i64 (.negSucc 0))))] .ret) (zq [zm 37 5,zo 38 (.hf (.gLd 0 false 1) []),zb 39 .leq 37 38,zm 40 39,zg 41 (.mv (.t 0)) 40 true,zg 42 (.len true (.t 41)) 40 true,zg 43 (.bin .leq (.t 42) (zi 64)) 40 true,zo 44 (.pick (.t 40) (.t 43) (.c (.bool false))),zm 36 44] (.cond (.t 36) (zq [zm 45 0,zm 46 1,zx 47 200 [.t 45,.t 46],zm 4 47] .ret) .skip))))))))) (zq [zm 48 1,zo 49 (.idxS (.t 48) (zi 0)),zm 6 49] (zq [zm 50 1,zo 51 (.idxS (.t 50) (zi 1)),zm 7 51] (zq [zo 8 (.mv (zi 0))] (zq [zm 52 0,zo 53 (.len true (.t 52)),zm 54 5,zb 55 .sub 53 54,zk 56 .add 55 1,zm 9 56] (zq [zo 10 (.mv (zi 0))] (.seq (.block 1 (.loop (zr [zm 57 8,zm 58 9,zb 59 .lss 57 58] 59 .skip (.exit 1) (.block 2 (zr [zm 60 0,zm 61 8,zo 62 (.idxS (.t 60) (.t 61)),zm 63 6,zb 64 .neq 62 63] 64 (zq [zm 65 0,zm 66 8,zk 67 .add 66 1,zm 68 9,zo 69 (.slStr (.t 65) (some (.t 67)) (some (.t 68))),zm 70 6,zx 71 184 [.t 69,.t 70],zm 11 71] (zr [zm 72 11,zk 73 .lss 72 0] 73 (zq [zo 4 (.mv (.c (.int .i64 (.negSucc 0))))] .ret) .skip (.reg [zm 74 8,zm 75 11,zk 76 .add 75 1,zb 77 .add 74 76,zm 8 77]))) .skip (zr [zm 78 0,zm 79 8,zk 80 .add 79 1,zo 81 (.idxS (.t 78) (.t 80)),zm 82 7,zb 83 .eql 81 82,zm 84 83,zg 85 (.mv (.t 0)) 84 true,zg 86 (.mv (.t 8)) 84 true,zg 87 (.mv (.t 8)) 84 true,zg 88 (.mv (.t 5)) 84 true,zg 89 (.bin .add (.t 87) (.t 88)) 84 true,zg 90 (.slStr (.t 85) (some (.t 86)) (some (.t 89))) 84 true,zg 91 (.mv (.t 1)) 84 true,zg 92 (.bin .eql (.t 90) (.t 91)) 84 true,zo 93 (.pick (.t 84) (.t 92) (.c (.bool false)))] 93 (zq [zm 94 8,zm 4 94] .ret) .skip (zq [zm 95 8,zk 96 .add 95 1,zm 8 96] (zq [zm 97 10,zk 98 .add 97 1,zm 10 98] (zq [zm 99 5,zo 100 (.hf (.gLd 0 false 1) []),zb 101 .leq 99 100,zm 102 101,zg 103 (.mv (.t 10)) 102 true,zg 104 (.mv (.t 8)) 102 true,zg 105 (.call 201 [.t 104]) 102 true,zg 106 (.bin .gtr (.t 103) (.t 105)) 102 true,zo 107 (.pick (.t 102) (.t 106) (.c (.bool false)))] (.cond (.t 107) (zq [zm 108 0,zm 109 8,zo 110 (.slStr (.t 108) (some (.t 109)) none),zm 111 1,zx 112 200 [.t 110,.t 111],zm 12 112] (zr [zm 113 12,zk 114 .geq 113 0] 114 (zq [zm 115 12,zm 116 8,zb 117 .add 115 116,zm 4 117] .ret) .skip (zq [zo 4 (.mv (.c (.int .i64 (.negSucc 0))))] .ret))) (zq [zm 118 5,zo 119 (.hf (.gLd 0 false 1) []),zb 120 .gtr 118 119,zm 121 120,zg 122 (.mv (.t 10)) 121 true,zg 123 (.mv (.t 8)) 121 true,zg 124 (.bin .shr (.t 123) (.c (.int .u64 (.ofNat 4)))) 121 true,zg 125 (.bin .add (zi 4) (.t 124)) 121 true,zg 126 (.bin .geq (.t 122) (.t 125)) 121 true,zo 127 (.pick (.t 121) (.t 126) (.c (.bool false))),zm 128 127,zg 129 (.mv (.t 8)) 128 true,zg 130 (.mv (.t 9)) 128 true,zg 131 (.bin .lss (.t 129) (.t 130)) 128 true,zo 132 (.pick (.t 128) (.t 131) (.c (.bool false)))] (.cond (.t 132) (zq [zm 133 0,zm 134 8,zo 135 (.slStr (.t 133) (some (.t 134)) none),zm 136 1,zx 137 202 [.t 135,.t 136],zm 13 137] (zr [zm 138 13,zk 139 .lss 138 0] 139 (zq [zo 4 (.mv (.c (.int .i64 (.negSucc 0))))] .ret) .skip (zq [zm 140 8,zm 141 13,zb 142 .add 140 141,zm 4 142] .ret))) .skip)))))))))))) (zq [zo 4 (.mv (.c (.int .i64 (.negSucc 0))))] .ret))))))))),[.t 4]⟩
theorem Nb:cN Tryz.prog 181=some Mh:=by kernel_rfl
def Mf:bV:=⟨8,zq [zo 4 (.mv (zi 0))] (zq [zm 5 0,zm 6 1,zo 7 (.pf .ibs [.t 5,.t 6]),zm 4 7] .ret),[.t 4]⟩
theorem Kk:cN Tryz.prog 184=some Mf:=by kernel_rfl
def JU:bV:=⟨9,zq [zo 2 (.mv (.c (.bool false)))] (zq [zm 3 0,zo 4 (.bin .leq (zu 48) (.t 3)),zm 5 4,zg 6 (.mv (.t 0)) 5 true,zg 7 (.bin .leq (.t 6) (zu 57)) 5 true,zo 8 (.pick (.t 5) (.t 7) (.c (.bool false))),zm 2 8] .ret),[.t 2]⟩
theorem NZ:cN Tryz.prog 103=some JU:=by kernel_rfl
def O9:bV:=⟨36,zq [zo 4 (.mv (zi 0))] (zq [zm 7 0,zm 8 1,zx 9 107 [.t 7,.t 8,.f 103],zm 5 9] (zr [zm 10 5,zm 11 1,zb 12 .eql 10 11,zm 13 12,zg 14 (.mv (.t 5)) 13 false,zg 15 (.mv (.t 0)) 13 false,zg 16 (.len true (.t 15)) 13 false,zg 17 (.bin .eql (.t 14) (.t 16)) 13 false,zo 18 (.pick (.t 13) (.c (.bool true)) (.t 17)),zm 19 18,zg 20 (.mv (.t 0)) 19 false,zg 21 (.mv (.t 5)) 19 false,zg 22 (.idxS (.t 20) (.t 21)) 19 false,zg 23 (.bin .neq (.t 22) (zu 46)) 19 false,zo 24 (.pick (.t 19) (.c (.bool true)) (.t 23))] 24 (zq [zm 25 5,zm 4 25] .ret) .skip (.seq (zq [zm 26 0,zm 27 5,zk 28 .add 27 1,zx 29 107 [.t 26,.t 28,.f 103],zm 6 29] (zq [zm 30 6,zm 31 5,zk 32 .add 31 1,zb 33 .gtr 30 32] (.cond (.t 33) (zq [zm 34 6,zm 4 34] .ret) .skip))) (zq [zm 35 5,zm 4 35] .ret)))),[.t 4]⟩
theorem NY:cN Tryz.prog 104=some O9:=by kernel_rfl
def Mo:bV:=⟨51,zq [zo 2 (.mv (zi 0)),zo 3 (.mv (.c (.bool false)))] (zr [zm 9 0,zo 10 (.bin .eql (.t 9) (.c (.str []))),zm 11 10,zg 12 (.mv (.t 0)) 11 false,zg 13 (.idxS (.t 12) (zi 0)) 11 false,zg 14 (.call 103 [.t 13]) 11 false,zg 15 (.un .not (.t 14)) 11 false,zo 16 (.pick (.t 11) (.c (.bool true)) (.t 15)),zm 17 16,zg 18 (.mv (.t 0)) 17 false,zg 19 (.call 104 [.t 18,zi 0]) 17 false,zg 20 (.mv (.t 0)) 17 false,zg 21 (.len true (.t 20)) 17 false,zg 22 (.bin .neq (.t 19) (.t 21)) 17 false,zo 23 (.pick (.t 17) (.c (.bool true)) (.t 22))] 23 (zq [zo 2 (.mv (zi 0)),zo 3 (.mv (.c (.bool false)))] .ret) .skip (zq [zm 25 0,zx 26 151 [.t 25,.c (.str [46])],zm 24 26,ze 27 0 24,ze 28 1 24,ze 29 2 24,zm 4 27,zm 5 28,zm 6 29] (zq [zo 7 (.mv (zi 0))] (.seq (zq [zm 30 4,zo 31 (.len true (.t 30)),zo 32 (.mv (zi 0))] (.block 0 (.loop (zq [zb 33 .lss 32 31] (.seq (.cond (.t 33) .skip (.exit 0)) (.seq (.block 1 (zq [zm 34 32,zm 8 34] (zq [zm 35 7,zk 36 .mul 35 10,zm 37 4,zm 38 8,zo 39 (.idxS (.t 37) (.t 38)),zo 40 (.bin .sub (.t 39) (zu 48)),zv 41 .i64 40,zb 42 .add 36 41,zm 7 42] (zq [zm 43 7,zk 44 .geq 43 2147483648] (.cond (.t 44) (zq [zo 2 (.mv (zi 0)),zo 3 (.mv (.c (.bool false)))] .ret) .skip))))) (.reg [zk 45 .add 32 1,zm 32 45]))))))) (zq [zm 46 7,zo 47 (.bin .shl (.t 46) (.c (.int .u64 (.ofNat 32)))),zm 48 5,zx 49 152 [.t 48],zb 50 .or 47 49,zm 2 50,zo 3 (.mv (.c (.bool true)))] .ret))))),[.t 2,.t 3]⟩
theorem NX:cN Tryz.prog 105=some Mo:=by kernel_rfl
def OR:bV:=⟨13,zq [zo 4 (.mv (.c (.str []))),zo 5 (.mv (.c (.str []))),zo 6 (.mv (.c (.bool false)))] (zq [zm 7 0,zm 8 1,zx 9 182 [.t 7,.t 8],ze 10 0 9,ze 11 1 9,ze 12 2 9,zm 4 10,zm 5 11,zm 6 12] .ret),[.t 4,.t 5,.t 6]⟩
theorem Nt:cN Tryz.prog 151=some OR:=by kernel_rfl
def OH:bV:=⟨23,zq [zo 4 (.mv (.c (.str []))),zo 5 (.mv (.c (.str []))),zo 6 (.mv (.c (.bool false)))] (.seq (zq [zm 8 0,zm 9 1,zx 10 181 [.t 8,.t 9],zm 7 10] (zq [zm 11 7,zk 12 .geq 11 0] (.cond (.t 12) (zq [zm 13 0,zm 14 7,zo 15 (.slStr (.t 13) none (some (.t 14))),zm 16 0,zm 17 7,zm 18 1,zo 19 (.len true (.t 18)),zb 20 .add 17 19,zo 21 (.slStr (.t 16) (some (.t 20)) none),zm 4 15,zm 5 21,zo 6 (.mv (.c (.bool true)))] .ret) .skip))) (zq [zm 22 0,zm 4 22,zo 5 (.mv (.c (.str []))),zo 6 (.mv (.c (.bool false)))] .ret)),[.t 4,.t 5,.t 6]⟩
theorem Na:cN Tryz.prog 182=some OH:=by kernel_rfl
def OQ:bV:=⟨47,zq [zo 2 (.mv (zi 0))] (zq [zo 3 (.new [zU 0,zU 0,zU 0,zU 0,zU 0,zU 0,zU 0,zU 0,zU 0,zU 0,zU 0,zU 0,zU 0,zU 0,zU 0,zU 0,zU 0,zU 0,zU 0,zU 0,zU 0,zU 0,zU 0,zU 0,zU 0,zU 0,zU 0,zU 0,zU 0,zU 0,zU 0,zU 0])] (.seq (zq [zm 9 0,zo 10 (.len true (.t 9)),zo 11 (.pf (.mm false) [.t 10,zi 32]),zo 12 (.mv (zi 0))] (.block 0 (.loop (zq [zb 13 .lss 12 11] (.seq (.cond (.t 13) .skip (.exit 0)) (.seq (.block 1 (zq [zm 14 12,zm 4 14] (.reg [zm 15 4,zm 16 0,zm 17 4,zo 18 (.idxS (.t 16) (.t 17)),zo 19 (.bin .sub (.t 18) (zu 48)),zo 20 (.idxArr 32 1 (.t 3) (.t 15)),zs 20 19]))) (.reg [zk 21 .add 12 1,zm 12 21]))))))) (zq [zo 5 (.mv (zi 0))] (.seq (zq [zo 22 (.mv (zi 0))] (.block 2 (.loop (zq [zk 23 .lss 22 32] (.seq (.cond (.t 23) .skip (.exit 2)) (.seq (.block 3 (zq [zo 6 (.mv (zu 0))] (.seq (zq [zo 7 (.mv (zi 31))] (.block 4 (.loop (zr [zm 24 7,zk 25 .geq 24 0] 25 .skip (.exit 4) (.seq (.block 5 (zq [zm 28 7,zo 29 (.idxArr 32 1 (.t 3) (.t 28)),zl 30 29,zo 31 (.bin .mul (.t 30) (zu 2)),zm 32 6,zb 33 .add 31 32,zm 8 33] (.reg [zm 34 7,zm 35 8,zo 36 (.bin .rem (.t 35) (zu 10)),zm 37 8,zo 38 (.bin .quo (.t 37) (zu 10)),zo 39 (.idxArr 32 1 (.t 3) (.t 34)),zs 39 36,zm 6 38]))) (.reg [zm 26 7,zk 27 .sub 26 1,zm 7 27])))))) (.reg [zm 40 5,zo 41 (.bin .shl (.t 40) (.c (.int .u64 (.ofNat 1)))),zm 42 6,zv 43 .i64 42,zb 44 .or 41 43,zm 5 44])))) (.reg [zk 45 .add 22 1,zm 22 45]))))))) (zq [zm 46 5,zm 2 46] .ret))))),[.t 2]⟩
theorem Ns:cN Tryz.prog 152=some OQ:=by kernel_rfl
def O8:bV:=⟨21,zq [zo 2 (.mv (.c (.bool false)))] (zq [zm 3 0,zo 4 (.bin .leq (zu 97) (.t 3)),zm 5 4,zg 6 (.mv (.t 0)) 5 true,zg 7 (.bin .leq (.t 6) (zu 122)) 5 true,zo 8 (.pick (.t 5) (.t 7) (.c (.bool false))),zm 9 8,zg 10 (.mv (.t 0)) 9 false,zg 11 (.bin .leq (zu 65) (.t 10)) 9 false,zg 12 (.mv (.t 11)) 9 false,zg 13 (.mv (.t 0)) 12 true,zg 14 (.bin .leq (.t 13) (zu 90)) 12 true,zg 15 (.pick (.t 12) (.t 14) (.c (.bool false))) 9 false,zo 16 (.pick (.t 9) (.c (.bool true)) (.t 15)),zm 17 16,zg 18 (.mv (.t 0)) 17 false,zg 19 (.bin .eql (.t 18) (zu 95)) 17 false,zo 20 (.pick (.t 17) (.c (.bool true)) (.t 19)),zm 2 20] .ret),[.t 2]⟩
theorem NW:cN Tryz.prog 106=some O8:=by kernel_rfl
def O6:bV:=⟨9,zq [zo 2 (.mv (.c (.bool false)))] (zq [zm 3 0,zx 4 106 [.t 3],zm 5 4,zg 6 (.mv (.t 0)) 5 false,zg 7 (.call 103 [.t 6]) 5 false,zo 8 (.pick (.t 5) (.c (.bool true)) (.t 7)),zm 2 8] .ret),[.t 2]⟩
theorem NU:cN Tryz.prog 108=some O6:=by kernel_rfl
def O5:bV:=⟨5,zq [zo 2 (.mv (.c (.str [])))] (zq [zm 3 0,zx 4 153 [.t 3],zm 2 4] .ret),[.t 2]⟩
theorem NR:cN Tryz.prog 109=some O5:=by kernel_rfl
def y7:bV:=⟨11,zq [zo 2 (.mv (.c (.bool false)))] (.seq (zq [zm 3 0] (.block 0 (zr [zo 5 (.bin .eql (.t 3) (.c (.str [108,101,116]))),zm 4 5] 4 .skip (zq [zo 6 (.bin .eql (.t 3) (.c (.str [115,101,116]))),zm 4 6] (.cond (.t 4) .skip (zq [zo 7 (.bin .eql (.t 3) (.c (.str [105,102]))),zm 4 7] (.cond (.t 4) .skip (zq [zo 8 (.bin .eql (.t 3) (.c (.str [101,108,115,101]))),zm 4 8] (.cond (.t 4) .skip (zq [zo 9 (.bin .eql (.t 3) (.c (.str [119,104,105,108,101]))),zm 4 9] (.cond (.t 4) .skip (.reg [zo 10 (.bin .eql (.t 3) (.c (.str [114,101,116,117,114,110]))),zm 4 10]))))))))) (.cond (.t 4) (zq [zo 2 (.mv (.c (.bool true)))] .ret) .skip)))) (zq [zo 2 (.mv (.c (.bool false)))] .ret)),[.t 2]⟩
theorem NP:cN Tryz.prog 110=some y7:=by kernel_rfl
def O4:bV:=⟨26,zq [zo 4 (.mv (.c (.str [])))] (zq [zm 8 0,zm 9 1,zo 10 (.slStr (.t 8) (some (.t 9)) none),zm 5 10] (.seq (zq [zo 11 (.build [.str [],.str [],.str [],.str [],.str [],.str []] [(0,1,.c (.str [38,38])),(1,1,.c (.str [124,124])),(2,1,.c (.str [61,61])),(3,1,.c (.str [33,61])),(4,1,.c (.str [60,61])),(5,1,.c (.str [62,61]))]),zo 12 (.mv (zi 0))] (.block 0 (.loop (zq [zk 13 .lss 12 6] (.seq (.cond (.t 13) .skip (.exit 0)) (.seq (.block 1 (zq [zo 14 (.idx 6 1 false (.t 11) (.t 12)),zm 7 14] (zq [zm 15 5,zm 16 7,zx 17 154 [.t 15,.t 16]] (.cond (.t 17) (zq [zm 18 7,zm 4 18] .ret) .skip)))) (.reg [zk 19 .add 12 1,zm 12 19]))))))) (zr [zm 20 5,zo 21 (.idxS (.t 20) (zi 0)),zx 22 155 [.c (.str [60,62,43,45,42,47,33,40,41,123,125,44,59,61]),.t 21],zk 23 .geq 22 0] 23 (zq [zm 24 5,zo 25 (.slStr (.t 24) none (some (zi 1))),zm 4 25] .ret) .skip (zq [zo 4 (.mv (.c (.str [])))] .ret)))),[.t 4]⟩
theorem NO:cN Tryz.prog 111=some O4:=by kernel_rfl
def OP:bV:=⟨8,zq [zo 4 (.mv (.c (.bool false)))] (zq [zm 5 0,zm 6 1,zx 7 183 [.t 5,.t 6],zm 4 7] .ret),[.t 4]⟩
theorem Nr:cN Tryz.prog 154=some OP:=by kernel_rfl
def Mg:bV:=⟨18,zq [zo 4 (.mv (.c (.bool false)))] (zq [zm 5 0,zo 6 (.len true (.t 5)),zm 7 1,zo 8 (.len true (.t 7)),zb 9 .geq 6 8,zm 10 9,zg 11 (.mv (.t 0)) 10 true,zg 12 (.mv (.t 1)) 10 true,zg 13 (.len true (.t 12)) 10 true,zg 14 (.slStr (.t 11) none (some (.t 13))) 10 true,zg 15 (.mv (.t 1)) 10 true,zg 16 (.bin .eql (.t 14) (.t 15)) 10 true,zo 17 (.pick (.t 10) (.t 16) (.c (.bool false))),zm 4 17] .ret),[.t 4]⟩
theorem M9:cN Tryz.prog 183=some Mg:=by kernel_rfl
def OO:bV:=⟨8,zq [zo 4 (.mv (zi 0))] (zq [zm 5 0,zm 6 1,zx 7 184 [.t 5,.t 6],zm 4 7] .ret),[.t 4]⟩
theorem Nq:cN Tryz.prog 155=some OO:=by kernel_rfl
def wQ:bV:=⟨44,zq [zo 2 (.mv (.c (.str [])))] (zq [zm 6 0,zv 7 .u64 6,zm 3 7] (zq [zo 8 (.mkSlice 1 [zU 0] (zi 0) (zi 48)),zm 4 8] (zr [zm 9 0,zk 10 .lss 9 0] 10 (zq [zm 11 3,zo 12 (.un .neg (.t 11)),zm 3 12] (.reg [zm 13 4,zo 14 (.buildSl 1 [zU 0] [(0,1,zu 45)]),zy 15 13 14,zm 4 15])) .skip (zq [zm 16 4,zm 17 3,zo 18 (.bin .shr (.t 17) (.c (.int .u64 (.ofNat 32)))),zx 19 186 [.t 16,.t 18,zi 10],zm 4 19] (zq [zm 20 3,zo 21 (.bin .and (.t 20) (.c (.int .u64 (.ofNat 4294967295)))),zm 5 21] (zr [zm 22 5,zo 23 (.bin .eql (.t 22) (.c (.int .u64 (.ofNat 0))))] 23 (zq [zm 24 4,zo 25 (.convBS (.t 24)),zm 2 25] .ret) .skip (zq [zm 26 4,zo 27 (.buildSl 1 [zU 0] [(0,1,zu 46)]),zy 28 26 27,zm 4 28] (.seq (.block 0 (.loop (zr [zm 29 5,zo 30 (.bin .neq (.t 29) (.c (.int .u64 (.ofNat 0))))] 30 .skip (.exit 0) (.block 1 (zq [zm 31 5,zo 32 (.bin .mul (.t 31) (.c (.int .u64 (.ofNat 10)))),zm 5 32] (zq [zm 33 4,zm 34 5,zo 35 (.bin .shr (.t 34) (.c (.int .u64 (.ofNat 32)))),zv 36 .u8 35,zo 37 (.bin .add (zu 48) (.t 36)),zo 38 (.buildSl 1 [zU 0] [(0,1,.t 37)]),zy 39 33 38,zm 4 39] (.reg [zm 40 5,zo 41 (.bin .and (.t 40) (.c (.int .u64 (.ofNat 4294967295)))),zm 5 41]))))))) (zq [zm 42 4,zo 43 (.convBS (.t 42)),zm 2 43] .ret))))))))),[.t 2]⟩
theorem Ni:cN Tryz.prog 162=some wQ:=by kernel_rfl
def OG:bV:=⟨11,zq [zo 6 (.mv zn)] (zq [zm 7 0,zm 8 1,zm 9 2,zx 10 145 [.t 7,.t 8,.t 9],zm 6 10] .ret),[.t 6]⟩
theorem M8:cN Tryz.prog 186=some OG:=by kernel_rfl
def Mk:bV:=⟨36,zq [zo 6 (.mv zn)] (zr [zm 9 2,zk 10 .eql 9 10] 10 (zr [zm 11 1,zo 12 (.bin .lss (.t 11) (.c (.int .u64 (.ofNat 100))))] 12 (zq [zm 13 0,zm 14 1,zv 15 .i64 14,zx 16 177 [.t 15],zy 17 13 16,zm 6 17] .ret) .skip (zq [zo 7 (.new [zU 0,zU 0,zU 0,zU 0,zU 0,zU 0,zU 0,zU 0,zU 0,zU 0,zU 0,zU 0,zU 0,zU 0,zU 0,zU 0,zU 0,zU 0,zU 0,zU 0,zU 0,zU 0,zU 0,zU 0])] (zq [zm 18 1,zx 19 178 [.t 18],zm 8 19] (zq [zm 20 8,zo 21 (.slA 24 1 (.t 7) none (some (.t 20)) none),zm 22 1,zx 23 179 [.t 21,.t 22]] (zq [zm 24 0,zm 25 8,zo 26 (.slA 24 1 (.t 7) none (some (.t 25)) none),zy 27 24 26,zm 6 27] .ret))))) .skip (zq [zm 29 0,zm 30 1,zm 31 2,zx 32 180 [.t 29,.t 30,.t 31,.c (.bool false),.c (.bool true)],zm 28 32,ze 33 0 28,ze 34 1 28,zm 0 33] (zq [zm 35 0,zm 6 35] .ret))),[.t 6]⟩
theorem Nw:cN Tryz.prog 145=some Mk:=by kernel_rfl
def OJ:bV:=⟨15,zq [zo 2 (.mv (.c (.str [])))] (zr [zm 3 0,zk 4 .lss 3 10] 4 (zq [zm 5 0,zm 6 0,zk 7 .add 6 1,zo 8 (.slStr (.c (.str [48,49,50,51,52,53,54,55,56,57,97,98,99,100,101,102,103,104,105,106,107,108,109,110,111,112,113,114,115,116,117,118,119,120,121,122])) (some (.t 5)) (some (.t 7))),zm 2 8] .ret) .skip (zq [zm 9 0,zk 10 .mul 9 2,zm 11 0,zk 12 .mul 11 2,zk 13 .add 12 2,zo 14 (.slStr (.c (.str [48,48,48,49,48,50,48,51,48,52,48,53,48,54,48,55,48,56,48,57,49,48,49,49,49,50,49,51,49,52,49,53,49,54,49,55,49,56,49,57,50,48,50,49,50,50,50,51,50,52,50,53,50,54,50,55,50,56,50,57,51,48,51,49,51,50,51,51,51,52,51,53,51,54,51,55,51,56,51,57,52,48,52,49,52,50,52,51,52,52,52,53,52,54,52,55,52,56,52,57,53,48,53,49,53,50,53,51,53,52,53,53,53,54,53,55,53,56,53,57,54,48,54,49,54,50,54,51,54,52,54,53,54,54,54,55,54,56,54,57,55,48,55,49,55,50,55,51,55,52,55,53,55,54,55,55,55,56,55,57,56,48,56,49,56,50,56,51,56,52,56,53,56,54,56,55,56,56,56,57,57,48,57,49,57,50,57,51,57,52,57,53,57,54,57,55,57,56,57,57])) (some (.t 10)) (some (.t 13))),zm 2 14] .ret)),[.t 2]⟩
theorem Nf:cN Tryz.prog 177=some OJ:=by kernel_rfl
def OI:bV:=⟨15,zq [zo 2 (.mv (zi 0))] (zq [zm 4 0,zx 5 196 [.t 4],zx 6 195 [.t 5],zm 3 6] (zq [zm 7 3,zm 8 0,zm 9 3,zo 10 (.hf (.gIdx 1 20 1) [.t 9]),zl 11 10,zb 12 .geq 8 11,zx 13 197 [.t 12],zb 14 .add 7 13,zm 2 14] .ret)),[.t 2]⟩
theorem Nd:cN Tryz.prog 178=some OI:=by kernel_rfl
def OD:bV:=⟨25,zq [zo 2 (.mv (zi 0))] (zr [zm 3 0,zo 4 (.bin .geq (.t 3) (.c (.int .u64 (.ofNat 4294967296))))] 4 (zq [zm 5 0,zo 6 (.bin .shr (.t 5) (.c (.int .u64 (.ofNat 32)))),zm 0 6] (.reg [zo 2 (.mv (zi 32))])) .skip (zr [zm 7 0,zo 8 (.bin .geq (.t 7) (.c (.int .u64 (.ofNat 65536))))] 8 (zq [zm 9 0,zo 10 (.bin .shr (.t 9) (.c (.int .u64 (.ofNat 16)))),zm 0 10] (.reg [zm 11 2,zk 12 .add 11 16,zm 2 12])) .skip (zr [zm 13 0,zo 14 (.bin .geq (.t 13) (.c (.int .u64 (.ofNat 256))))] 14 (zq [zm 15 0,zo 16 (.bin .shr (.t 15) (.c (.int .u64 (.ofNat 8)))),zm 0 16] (.reg [zm 17 2,zk 18 .add 17 8,zm 2 18])) .skip (zq [zm 19 2,zm 20 0,zv 21 .u8 20,zo 22 (.idxS (.c (.str [0,1,2,2,3,3,3,3,4,4,4,4,4,4,4,4,5,5,5,5,5,5,5,5,5,5,5,5,5,5,5,5,6,6,6,6,6,6,6,6,6,6,6,6,6,6,6,6,6,6,6,6,6,6,6,6,6,6,6,6,6,6,6,6,7,7,7,7,7,7,7,7,7,7,7,7,7,7,7,7,7,7,7,7,7,7,7,7,7,7,7,7,7,7,7,7,7,7,7,7,7,7,7,7,7,7,7,7,7,7,7,7,7,7,7,7,7,7,7,7,7,7,7,7,7,7,7,7,8,8,8,8,8,8,8,8,8,8,8,8,8,8,8,8,8,8,8,8,8,8,8,8,8,8,8,8,8,8,8,8,8,8,8,8,8,8,8,8,8,8,8,8,8,8,8,8,8,8,8,8,8,8,8,8,8,8,8,8,8,8,8,8,8,8,8,8,8,8,8,8,8,8,8,8,8,8,8,8,8,8,8,8,8,8,8,8,8,8,8,8,8,8,8,8,8,8,8,8,8,8,8,8,8,8,8,8,8,8,8,8,8,8,8,8,8,8,8,8,8,8,8,8,8,8,8,8])) (.t 21)),zv 23 .i64 22,zb 24 .add 19 23,zm 2 24] .ret)))),[.t 2]⟩
theorem M6:cN Tryz.prog 196=some OD:=by kernel_rfl
def OE:bV:=⟨6,zq [zo 2 (.mv (zi 0))] (zq [zm 3 0,zk 4 .mul 3 78913,zo 5 (.bin .shr (.t 4) (.c (.int .u64 (.ofNat 18)))),zm 2 5] .ret),[.t 2]⟩
theorem M7:cN Tryz.prog 195=some OE:=by kernel_rfl
def Md:bV:=⟨4,zq [zo 2 (.mv (zi 0))] (zr [zm 3 0] 3 (zq [zo 2 (.mv (zi 1))] .ret) .skip (zq [zo 2 (.mv (zi 0))] .ret)),[.t 2]⟩
theorem M5:cN Tryz.prog 197=some Md:=by kernel_rfl
def Bv:bV:=⟨167,zq [zm 17 0,zh 18 17,zm 4 18] (.seq (.block 0 (.loop (zr [zm 19 4,zk 20 .geq 19 8] 20 .skip (.exit 0) (.block 1 (zq [zm 21 1,zo 22 (.bin .rem (.t 21) (.c (.int .u64 (.ofNat 100000000)))),zv 23 .u32 22,zm 5 23] (zq [zm 24 1,zo 25 (.bin .quo (.t 24) (.c (.int .u64 (.ofNat 100000000)))),zm 1 25] (zq [zm 26 5,zo 27 (.bin .quo (.t 26) (.c (.int .u32 (.ofNat 10000)))),zm 28 5,zo 29 (.bin .rem (.t 28) (.c (.int .u32 (.ofNat 10000)))),zm 6 27,zm 7 29] (zq [zm 30 7,zo 31 (.bin .quo (.t 30) (.c (.int .u32 (.ofNat 100)))),zo 32 (.bin .mul (.t 31) (.c (.int .u32 (.ofNat 2)))),zm 33 7,zo 34 (.bin .rem (.t 33) (.c (.int .u32 (.ofNat 100)))),zo 35 (.bin .mul (.t 34) (.c (.int .u32 (.ofNat 2)))),zm 8 32,zm 9 35] (zq [zm 36 6,zo 37 (.bin .quo (.t 36) (.c (.int .u32 (.ofNat 100)))),zo 38 (.bin .mul (.t 37) (.c (.int .u32 (.ofNat 2)))),zm 39 6,zo 40 (.bin .rem (.t 39) (.c (.int .u32 (.ofNat 100)))),zo 41 (.bin .mul (.t 40) (.c (.int .u32 (.ofNat 2)))),zm 10 38,zm 11 41] (zq [zm 42 0,zm 43 4,zk 44 .sub 43 1,zm 45 0,zm 46 4,zk 47 .sub 46 2,zm 48 9,zo 49 (.bin .add (.t 48) (.c (.int .u32 (.ofNat 1)))),zo 50 (.idxS (.c (.str [48,48,48,49,48,50,48,51,48,52,48,53,48,54,48,55,48,56,48,57,49,48,49,49,49,50,49,51,49,52,49,53,49,54,49,55,49,56,49,57,50,48,50,49,50,50,50,51,50,52,50,53,50,54,50,55,50,56,50,57,51,48,51,49,51,50,51,51,51,52,51,53,51,54,51,55,51,56,51,57,52,48,52,49,52,50,52,51,52,52,52,53,52,54,52,55,52,56,52,57,53,48,53,49,53,50,53,51,53,52,53,53,53,54,53,55,53,56,53,57,54,48,54,49,54,50,54,51,54,52,54,53,54,54,54,55,54,56,54,57,55,48,55,49,55,50,55,51,55,52,55,53,55,54,55,55,55,56,55,57,56,48,56,49,56,50,56,51,56,52,56,53,56,54,56,55,56,56,56,57,57,48,57,49,57,50,57,51,57,52,57,53,57,54,57,55,57,56,57,57])) (.t 49)),zm 51 9,zo 52 (.idxS (.c (.str [48,48,48,49,48,50,48,51,48,52,48,53,48,54,48,55,48,56,48,57,49,48,49,49,49,50,49,51,49,52,49,53,49,54,49,55,49,56,49,57,50,48,50,49,50,50,50,51,50,52,50,53,50,54,50,55,50,56,50,57,51,48,51,49,51,50,51,51,51,52,51,53,51,54,51,55,51,56,51,57,52,48,52,49,52,50,52,51,52,52,52,53,52,54,52,55,52,56,52,57,53,48,53,49,53,50,53,51,53,52,53,53,53,54,53,55,53,56,53,57,54,48,54,49,54,50,54,51,54,52,54,53,54,54,54,55,54,56,54,57,55,48,55,49,55,50,55,51,55,52,55,53,55,54,55,55,55,56,55,57,56,48,56,49,56,50,56,51,56,52,56,53,56,54,56,55,56,56,56,57,57,48,57,49,57,50,57,51,57,52,57,53,57,54,57,55,57,56,57,57])) (.t 51)),zd 53 42 44,zs 53 50,zd 54 45 47,zs 54 52] (zq [zm 55 0,zm 56 4,zk 57 .sub 56 3,zm 58 0,zm 59 4,zk 60 .sub 59 4,zm 61 8,zo 62 (.bin .add (.t 61) (.c (.int .u32 (.ofNat 1)))),zo 63 (.idxS (.c (.str [48,48,48,49,48,50,48,51,48,52,48,53,48,54,48,55,48,56,48,57,49,48,49,49,49,50,49,51,49,52,49,53,49,54,49,55,49,56,49,57,50,48,50,49,50,50,50,51,50,52,50,53,50,54,50,55,50,56,50,57,51,48,51,49,51,50,51,51,51,52,51,53,51,54,51,55,51,56,51,57,52,48,52,49,52,50,52,51,52,52,52,53,52,54,52,55,52,56,52,57,53,48,53,49,53,50,53,51,53,52,53,53,53,54,53,55,53,56,53,57,54,48,54,49,54,50,54,51,54,52,54,53,54,54,54,55,54,56,54,57,55,48,55,49,55,50,55,51,55,52,55,53,55,54,55,55,55,56,55,57,56,48,56,49,56,50,56,51,56,52,56,53,56,54,56,55,56,56,56,57,57,48,57,49,57,50,57,51,57,52,57,53,57,54,57,55,57,56,57,57])) (.t 62)),zm 64 8,zo 65 (.idxS (.c (.str [48,48,48,49,48,50,48,51,48,52,48,53,48,54,48,55,48,56,48,57,49,48,49,49,49,50,49,51,49,52,49,53,49,54,49,55,49,56,49,57,50,48,50,49,50,50,50,51,50,52,50,53,50,54,50,55,50,56,50,57,51,48,51,49,51,50,51,51,51,52,51,53,51,54,51,55,51,56,51,57,52,48,52,49,52,50,52,51,52,52,52,53,52,54,52,55,52,56,52,57,53,48,53,49,53,50,53,51,53,52,53,53,53,54,53,55,53,56,53,57,54,48,54,49,54,50,54,51,54,52,54,53,54,54,54,55,54,56,54,57,55,48,55,49,55,50,55,51,55,52,55,53,55,54,55,55,55,56,55,57,56,48,56,49,56,50,56,51,56,52,56,53,56,54,56,55,56,56,56,57,57,48,57,49,57,50,57,51,57,52,57,53,57,54,57,55,57,56,57,57])) (.t 64)),zd 66 55 57,zs 66 63,zd 67 58 60,zs 67 65] (zq [zm 68 0,zm 69 4,zk 70 .sub 69 5,zm 71 0,zm 72 4,zk 73 .sub 72 6,zm 74 11,zo 75 (.bin .add (.t 74) (.c (.int .u32 (.ofNat 1)))),zo 76 (.idxS (.c (.str [48,48,48,49,48,50,48,51,48,52,48,53,48,54,48,55,48,56,48,57,49,48,49,49,49,50,49,51,49,52,49,53,49,54,49,55,49,56,49,57,50,48,50,49,50,50,50,51,50,52,50,53,50,54,50,55,50,56,50,57,51,48,51,49,51,50,51,51,51,52,51,53,51,54,51,55,51,56,51,57,52,48,52,49,52,50,52,51,52,52,52,53,52,54,52,55,52,56,52,57,53,48,53,49,53,50,53,51,53,52,53,53,53,54,53,55,53,56,53,57,54,48,54,49,54,50,54,51,54,52,54,53,54,54,54,55,54,56,54,57,55,48,55,49,55,50,55,51,55,52,55,53,55,54,55,55,55,56,55,57,56,48,56,49,56,50,56,51,56,52,56,53,56,54,56,55,56,56,56,57,57,48,57,49,57,50,57,51,57,52,57,53,57,54,57,55,57,56,57,57])) (.t 75)),zm 77 11,zo 78 (.idxS (.c (.str [48,48,48,49,48,50,48,51,48,52,48,53,48,54,48,55,48,56,48,57,49,48,49,49,49,50,49,51,49,52,49,53,49,54,49,55,49,56,49,57,50,48,50,49,50,50,50,51,50,52,50,53,50,54,50,55,50,56,50,57,51,48,51,49,51,50,51,51,51,52,51,53,51,54,51,55,51,56,51,57,52,48,52,49,52,50,52,51,52,52,52,53,52,54,52,55,52,56,52,57,53,48,53,49,53,50,53,51,53,52,53,53,53,54,53,55,53,56,53,57,54,48,54,49,54,50,54,51,54,52,54,53,54,54,54,55,54,56,54,57,55,48,55,49,55,50,55,51,55,52,55,53,55,54,55,55,55,56,55,57,56,48,56,49,56,50,56,51,56,52,56,53,56,54,56,55,56,56,56,57,57,48,57,49,57,50,57,51,57,52,57,53,57,54,57,55,57,56,57,57])) (.t 77)),zd 79 68 70,zs 79 76,zd 80 71 73,zs 80 78] (zq [zm 81 0,zm 82 4,zk 83 .sub 82 7,zm 84 0,zm 85 4,zk 86 .sub 85 8,zm 87 10,zo 88 (.bin .add (.t 87) (.c (.int .u32 (.ofNat 1)))),zo 89 (.idxS (.c (.str [48,48,48,49,48,50,48,51,48,52,48,53,48,54,48,55,48,56,48,57,49,48,49,49,49,50,49,51,49,52,49,53,49,54,49,55,49,56,49,57,50,48,50,49,50,50,50,51,50,52,50,53,50,54,50,55,50,56,50,57,51,48,51,49,51,50,51,51,51,52,51,53,51,54,51,55,51,56,51,57,52,48,52,49,52,50,52,51,52,52,52,53,52,54,52,55,52,56,52,57,53,48,53,49,53,50,53,51,53,52,53,53,53,54,53,55,53,56,53,57,54,48,54,49,54,50,54,51,54,52,54,53,54,54,54,55,54,56,54,57,55,48,55,49,55,50,55,51,55,52,55,53,55,54,55,55,55,56,55,57,56,48,56,49,56,50,56,51,56,52,56,53,56,54,56,55,56,56,56,57,57,48,57,49,57,50,57,51,57,52,57,53,57,54,57,55,57,56,57,57])) (.t 88)),zm 90 10,zo 91 (.idxS (.c (.str [48,48,48,49,48,50,48,51,48,52,48,53,48,54,48,55,48,56,48,57,49,48,49,49,49,50,49,51,49,52,49,53,49,54,49,55,49,56,49,57,50,48,50,49,50,50,50,51,50,52,50,53,50,54,50,55,50,56,50,57,51,48,51,49,51,50,51,51,51,52,51,53,51,54,51,55,51,56,51,57,52,48,52,49,52,50,52,51,52,52,52,53,52,54,52,55,52,56,52,57,53,48,53,49,53,50,53,51,53,52,53,53,53,54,53,55,53,56,53,57,54,48,54,49,54,50,54,51,54,52,54,53,54,54,54,55,54,56,54,57,55,48,55,49,55,50,55,51,55,52,55,53,55,54,55,55,55,56,55,57,56,48,56,49,56,50,56,51,56,52,56,53,56,54,56,55,56,56,56,57,57,48,57,49,57,50,57,51,57,52,57,53,57,54,57,55,57,56,57,57])) (.t 90)),zd 92 81 83,zs 92 89,zd 93 84 86,zs 93 91] (.reg [zm 94 4,zk 95 .sub 94 8,zm 4 95])))))))))))))) (zq [zm 96 1,zv 97 .u32 96,zm 12 97] (zr [zm 98 4,zk 99 .geq 98 4] 99 (zq [zm 100 12,zo 101 (.bin .rem (.t 100) (.c (.int .u32 (.ofNat 10000)))),zm 13 101] (zq [zm 102 12,zo 103 (.bin .quo (.t 102) (.c (.int .u32 (.ofNat 10000)))),zm 12 103] (zq [zm 104 13,zo 105 (.bin .quo (.t 104) (.c (.int .u32 (.ofNat 100)))),zo 106 (.bin .mul (.t 105) (.c (.int .u32 (.ofNat 2)))),zm 107 13,zo 108 (.bin .rem (.t 107) (.c (.int .u32 (.ofNat 100)))),zo 109 (.bin .mul (.t 108) (.c (.int .u32 (.ofNat 2)))),zm 14 106,zm 15 109] (zq [zm 110 0,zm 111 4,zk 112 .sub 111 1,zm 113 0,zm 114 4,zk 115 .sub 114 2,zm 116 15,zo 117 (.bin .add (.t 116) (.c (.int .u32 (.ofNat 1)))),zo 118 (.idxS (.c (.str [48,48,48,49,48,50,48,51,48,52,48,53,48,54,48,55,48,56,48,57,49,48,49,49,49,50,49,51,49,52,49,53,49,54,49,55,49,56,49,57,50,48,50,49,50,50,50,51,50,52,50,53,50,54,50,55,50,56,50,57,51,48,51,49,51,50,51,51,51,52,51,53,51,54,51,55,51,56,51,57,52,48,52,49,52,50,52,51,52,52,52,53,52,54,52,55,52,56,52,57,53,48,53,49,53,50,53,51,53,52,53,53,53,54,53,55,53,56,53,57,54,48,54,49,54,50,54,51,54,52,54,53,54,54,54,55,54,56,54,57,55,48,55,49,55,50,55,51,55,52,55,53,55,54,55,55,55,56,55,57,56,48,56,49,56,50,56,51,56,52,56,53,56,54,56,55,56,56,56,57,57,48,57,49,57,50,57,51,57,52,57,53,57,54,57,55,57,56,57,57])) (.t 117)),zm 119 15,zo 120 (.idxS (.c (.str [48,48,48,49,48,50,48,51,48,52,48,53,48,54,48,55,48,56,48,57,49,48,49,49,49,50,49,51,49,52,49,53,49,54,49,55,49,56,49,57,50,48,50,49,50,50,50,51,50,52,50,53,50,54,50,55,50,56,50,57,51,48,51,49,51,50,51,51,51,52,51,53,51,54,51,55,51,56,51,57,52,48,52,49,52,50,52,51,52,52,52,53,52,54,52,55,52,56,52,57,53,48,53,49,53,50,53,51,53,52,53,53,53,54,53,55,53,56,53,57,54,48,54,49,54,50,54,51,54,52,54,53,54,54,54,55,54,56,54,57,55,48,55,49,55,50,55,51,55,52,55,53,55,54,55,55,55,56,55,57,56,48,56,49,56,50,56,51,56,52,56,53,56,54,56,55,56,56,56,57,57,48,57,49,57,50,57,51,57,52,57,53,57,54,57,55,57,56,57,57])) (.t 119)),zd 121 110 112,zs 121 118,zd 122 113 115,zs 122 120] (zq [zm 123 0,zm 124 4,zk 125 .sub 124 3,zm 126 0,zm 127 4,zk 128 .sub 127 4,zm 129 14,zo 130 (.bin .add (.t 129) (.c (.int .u32 (.ofNat 1)))),zo 131 (.idxS (.c (.str [48,48,48,49,48,50,48,51,48,52,48,53,48,54,48,55,48,56,48,57,49,48,49,49,49,50,49,51,49,52,49,53,49,54,49,55,49,56,49,57,50,48,50,49,50,50,50,51,50,52,50,53,50,54,50,55,50,56,50,57,51,48,51,49,51,50,51,51,51,52,51,53,51,54,51,55,51,56,51,57,52,48,52,49,52,50,52,51,52,52,52,53,52,54,52,55,52,56,52,57,53,48,53,49,53,50,53,51,53,52,53,53,53,54,53,55,53,56,53,57,54,48,54,49,54,50,54,51,54,52,54,53,54,54,54,55,54,56,54,57,55,48,55,49,55,50,55,51,55,52,55,53,55,54,55,55,55,56,55,57,56,48,56,49,56,50,56,51,56,52,56,53,56,54,56,55,56,56,56,57,57,48,57,49,57,50,57,51,57,52,57,53,57,54,57,55,57,56,57,57])) (.t 130)),zm 132 14,zo 133 (.idxS (.c (.str [48,48,48,49,48,50,48,51,48,52,48,53,48,54,48,55,48,56,48,57,49,48,49,49,49,50,49,51,49,52,49,53,49,54,49,55,49,56,49,57,50,48,50,49,50,50,50,51,50,52,50,53,50,54,50,55,50,56,50,57,51,48,51,49,51,50,51,51,51,52,51,53,51,54,51,55,51,56,51,57,52,48,52,49,52,50,52,51,52,52,52,53,52,54,52,55,52,56,52,57,53,48,53,49,53,50,53,51,53,52,53,53,53,54,53,55,53,56,53,57,54,48,54,49,54,50,54,51,54,52,54,53,54,54,54,55,54,56,54,57,55,48,55,49,55,50,55,51,55,52,55,53,55,54,55,55,55,56,55,57,56,48,56,49,56,50,56,51,56,52,56,53,56,54,56,55,56,56,56,57,57,48,57,49,57,50,57,51,57,52,57,53,57,54,57,55,57,56,57,57])) (.t 132)),zd 134 123 125,zs 134 131,zd 135 126 128,zs 135 133] (.reg [zm 136 4,zk 137 .sub 136 4,zm 4 137])))))) .skip (zr [zm 138 4,zk 139 .geq 138 2] 139 (zq [zm 140 12,zo 141 (.bin .rem (.t 140) (.c (.int .u32 (.ofNat 100)))),zo 142 (.bin .mul (.t 141) (.c (.int .u32 (.ofNat 2)))),zm 16 142] (zq [zm 143 12,zo 144 (.bin .quo (.t 143) (.c (.int .u32 (.ofNat 100)))),zm 12 144] (zq [zm 145 0,zm 146 4,zk 147 .sub 146 1,zm 148 0,zm 149 4,zk 150 .sub 149 2,zm 151 16,zo 152 (.bin .add (.t 151) (.c (.int .u32 (.ofNat 1)))),zo 153 (.idxS (.c (.str [48,48,48,49,48,50,48,51,48,52,48,53,48,54,48,55,48,56,48,57,49,48,49,49,49,50,49,51,49,52,49,53,49,54,49,55,49,56,49,57,50,48,50,49,50,50,50,51,50,52,50,53,50,54,50,55,50,56,50,57,51,48,51,49,51,50,51,51,51,52,51,53,51,54,51,55,51,56,51,57,52,48,52,49,52,50,52,51,52,52,52,53,52,54,52,55,52,56,52,57,53,48,53,49,53,50,53,51,53,52,53,53,53,54,53,55,53,56,53,57,54,48,54,49,54,50,54,51,54,52,54,53,54,54,54,55,54,56,54,57,55,48,55,49,55,50,55,51,55,52,55,53,55,54,55,55,55,56,55,57,56,48,56,49,56,50,56,51,56,52,56,53,56,54,56,55,56,56,56,57,57,48,57,49,57,50,57,51,57,52,57,53,57,54,57,55,57,56,57,57])) (.t 152)),zm 154 16,zo 155 (.idxS (.c (.str [48,48,48,49,48,50,48,51,48,52,48,53,48,54,48,55,48,56,48,57,49,48,49,49,49,50,49,51,49,52,49,53,49,54,49,55,49,56,49,57,50,48,50,49,50,50,50,51,50,52,50,53,50,54,50,55,50,56,50,57,51,48,51,49,51,50,51,51,51,52,51,53,51,54,51,55,51,56,51,57,52,48,52,49,52,50,52,51,52,52,52,53,52,54,52,55,52,56,52,57,53,48,53,49,53,50,53,51,53,52,53,53,53,54,53,55,53,56,53,57,54,48,54,49,54,50,54,51,54,52,54,53,54,54,54,55,54,56,54,57,55,48,55,49,55,50,55,51,55,52,55,53,55,54,55,55,55,56,55,57,56,48,56,49,56,50,56,51,56,52,56,53,56,54,56,55,56,56,56,57,57,48,57,49,57,50,57,51,57,52,57,53,57,54,57,55,57,56,57,57])) (.t 154)),zd 156 145 147,zs 156 153,zd 157 148 150,zs 157 155] (.reg [zm 158 4,zk 159 .sub 158 2,zm 4 159])))) .skip (zq [zm 160 4,zk 161 .gtr 160 0] (.cond (.t 161) (.reg [zm 162 0,zm 163 12,zo 164 (.bin .add (.c (.int .u32 (.ofNat 48))) (.t 163)),zv 165 .u8 164,zo 166 (.idxA 1 (.t 162) (zi 0)),zs 166 165]) .skip)))))),[]⟩
theorem Nc:cN Tryz.prog 179=some Bv:=by kernel_rfl
def c71:bV:=⟨53,zq [zo 4 (.new [zU 0,.str [],zI 0,zI 0,zI 0,zI 0]),zo 5 (.new [zI 0,zI 0])] (zr [zm 7 0,zo 8 (.len true (.t 7)),zk 9 .gtr 8 16384] 9 (zq [zo 10 (.build [zU 0,.str [],zI 0,zI 0,zI 0,zI 0] []),zo 11 (.build [zI 0,zI 0] [(0,1,zi 3)]),zp (.store 6 (.t 4) (.t 10)),zp (.store 2 (.t 5) (.t 11))] .ret) .skip (zr [zm 12 1,zk 13 .lss 12 0,zm 14 13,zg 15 (.mv (.t 1)) 14 false,zg 16 (.mv (.t 0)) 14 false,zg 17 (.len true (.t 16)) 14 false,zg 18 (.bin .gtr (.t 15) (.t 17)) 14 false,zo 19 (.pick (.t 14) (.c (.bool true)) (.t 18))] 19 (zq [zo 20 (.build [zU 0,.str [],zI 0,zI 0,zI 0,zI 0] []),zo 21 (.build [zI 0,zI 0] [(0,1,zi 2)]),zp (.store 6 (.t 4) (.t 20)),zp (.store 2 (.t 5) (.t 21))] .ret) .skip (zq [zm 22 0,zm 23 1,zx 24 112 [.t 22,.t 23],zm 1 24] (zr [zm 25 1,zm 26 0,zo 27 (.len true (.t 26)),zb 28 .eql 25 27] 28 (zq [zm 29 0,zm 30 1,zx 31 113 [.t 29,.t 30],zm 32 1,zm 33 1,zo 34 (.build [zU 0,.str [],zI 0,zI 0,zI 0,zI 0] [(0,1,zu 5),(3,1,.t 31),(4,1,.t 32),(5,1,.t 33)]),zo 35 (.build [zI 0,zI 0] []),zp (.store 6 (.t 4) (.t 34)),zp (.store 2 (.t 5) (.t 35))] .ret) .skip (zq [zm 36 0,zm 37 1,zx 38 114 [.t 36,.t 37],zo 6 (.new [zU 0,.str [],zI 0,zI 0,zI 0,zI 0]),zp (.store 6 (.t 6) (.t 38))] (zr [zf 39 0 6,zl 40 39,zo 41 (.bin .eql (.t 40) (zu 0))] 41 (zq [zo 42 (.build [zU 0,.str [],zI 0,zI 0,zI 0,zI 0] []),zm 43 0,zm 44 1,zx 45 113 [.t 43,.t 44],zo 46 (.build [zI 0,zI 0] [(0,1,zi 100),(1,1,.t 45)]),zp (.store 6 (.t 4) (.t 42)),zp (.store 2 (.t 5) (.t 46))] .ret) .skip (zq [zm 47 0,zm 48 1,zx 49 113 [.t 47,.t 48],zf 50 3 6,zs 50 49] (zq [zt 51 6 6,zo 52 (.build [zI 0,zI 0] []),zp (.store 6 (.t 4) (.t 51)),zp (.store 2 (.t 5) (.t 52))] .ret)))))))),[.cell true 6 4,.cell true 2 5]⟩
theorem PS:cN Tryz.prog 71=some c71:=by kernel_rfl
def O3:bV:=⟨45,zq [zo 4 (.mv (zi 0))] (.seq (.block 0 (.loop (zr [zm 6 1,zm 7 0,zo 8 (.len true (.t 7)),zb 9 .lss 6 8] 9 .skip (.exit 0) (.block 1 (zq [zm 10 0,zm 11 1,zo 12 (.idxS (.t 10) (.t 11)),zm 5 12] (zq [zm 13 5,zo 14 (.bin .eql (.t 13) (zu 35))] (.cond (.t 14) (.block 2 (.loop (zr [zm 15 1,zm 16 0,zo 17 (.len true (.t 16)),zb 18 .lss 15 17,zm 19 18,zg 20 (.mv (.t 0)) 19 true,zg 21 (.mv (.t 1)) 19 true,zg 22 (.idxS (.t 20) (.t 21)) 19 true,zg 23 (.bin .neq (.t 22) (zu 10)) 19 true,zo 24 (.pick (.t 19) (.t 23) (.c (.bool false)))] 24 .skip (.exit 2) (.block 3 (.reg [zm 25 1,zk 26 .add 25 1,zm 1 26]))))) (zq [zm 27 5,zo 28 (.bin .eql (.t 27) (zu 9)),zm 29 28,zg 30 (.mv (.t 5)) 29 false,zg 31 (.bin .eql (.t 30) (zu 10)) 29 false,zo 32 (.pick (.t 29) (.c (.bool true)) (.t 31)),zm 33 32,zg 34 (.mv (.t 5)) 33 false,zg 35 (.bin .eql (.t 34) (zu 13)) 33 false,zo 36 (.pick (.t 33) (.c (.bool true)) (.t 35)),zm 37 36,zg 38 (.mv (.t 5)) 37 false,zg 39 (.bin .eql (.t 38) (zu 32)) 37 false,zo 40 (.pick (.t 37) (.c (.bool true)) (.t 39))] (.cond (.t 40) (.reg [zm 41 1,zk 42 .add 41 1,zm 1 42]) (zq [zm 43 1,zm 4 43] .ret)))))))))) (zq [zm 44 1,zm 4 44] .ret)),[.t 4]⟩
theorem NN:cN Tryz.prog 112=some O3:=by kernel_rfl
def O2:bV:=⟨19,zq [zo 4 (.mv (zi 0))] (zq [zo 5 (.mv (zi 1))] (.seq (zq [zo 6 (.mv (zi 0))] (.block 0 (.loop (zr [zm 7 6,zm 8 1,zb 9 .lss 7 8] 9 .skip (.exit 0) (.seq (.block 1 (zq [zm 12 0,zm 13 6,zo 14 (.idxS (.t 12) (.t 13)),zo 15 (.bin .eql (.t 14) (zu 10))] (.cond (.t 15) (.reg [zm 16 5,zk 17 .add 16 1,zm 5 17]) .skip))) (.reg [zm 10 6,zk 11 .add 10 1,zm 6 11])))))) (zq [zm 18 5,zm 4 18] .ret))),[.t 4]⟩
theorem NM:cN Tryz.prog 113=some O2:=by kernel_rfl
def O1:bV:=⟨120,zq [zo 4 (.new [zU 0,.str [],zI 0,zI 0,zI 0,zI 0])] (.seq (zq [zm 12 0,zm 13 1,zx 14 156 [.t 12,.t 13],zm 5 14] (zq [zm 15 5,zk 16 .gtr 15 0] (.cond (.t 16) (zq [zm 18 0,zm 19 1,zm 20 1,zm 21 5,zb 22 .add 20 21,zo 23 (.slStr (.t 18) (some (.t 19)) (some (.t 22))),zx 24 157 [.t 23],zm 17 24,ze 25 0 17,ze 26 1 17,zm 6 25,zm 7 26] (zr [zm 27 7,zo 28 (.un .not (.t 27))] 28 (zq [zo 29 (.build [zU 0,.str [],zI 0,zI 0,zI 0,zI 0] []),zp (.store 6 (.t 4) (.t 29))] .ret) .skip (zq [zm 30 6,zm 31 1,zm 32 1,zm 33 5,zb 34 .add 32 33,zo 35 (.build [zU 0,.str [],zI 0,zI 0,zI 0,zI 0] [(0,1,zu 1),(2,1,.t 30),(4,1,.t 31),(5,1,.t 34)]),zp (.store 6 (.t 4) (.t 35))] .ret))) .skip))) (zr [zm 36 0,zm 37 1,zo 38 (.idxS (.t 36) (.t 37)),zx 39 158 [.t 38]] 39 (zq [zm 40 1,zm 8 40] (.seq (.block 0 (.loop (zr [zm 41 8,zm 42 0,zo 43 (.len true (.t 42)),zb 44 .lss 41 43,zm 45 44,zg 46 (.mv (.t 0)) 45 true,zg 47 (.mv (.t 8)) 45 true,zg 48 (.idxS (.t 46) (.t 47)) 45 true,zg 49 (.call 158 [.t 48]) 45 true,zg 50 (.mv (.t 49)) 45 true,zg 51 (.mv (.t 0)) 50 false,zg 52 (.mv (.t 8)) 50 false,zg 53 (.idxS (.t 51) (.t 52)) 50 false,zg 54 (.call 159 [.t 53]) 50 false,zg 55 (.pick (.t 50) (.c (.bool true)) (.t 54)) 45 true,zo 56 (.pick (.t 45) (.t 55) (.c (.bool false)))] 56 .skip (.exit 0) (.block 1 (.reg [zm 57 8,zk 58 .add 57 1,zm 8 58]))))) (zq [zm 59 0,zm 60 1,zm 61 8,zo 62 (.slStr (.t 59) (some (.t 60)) (some (.t 61))),zm 63 1,zm 64 8,zo 65 (.build [zU 0,.str [],zI 0,zI 0,zI 0,zI 0] [(0,1,zu 2),(1,1,.t 62),(4,1,.t 63),(5,1,.t 64)]),zo 9 (.new [zU 0,.str [],zI 0,zI 0,zI 0,zI 0]),zp (.store 6 (.t 9) (.t 65))] (zr [zf 66 1 9,zl 67 66,zo 68 (.buildSl 6 [.str []] [(0,1,.c (.str [108,101,116])),(1,1,.c (.str [115,101,116])),(2,1,.c (.str [105,102])),(3,1,.c (.str [101,108,115,101])),(4,1,.c (.str [119,104,105,108,101])),(5,1,.c (.str [114,101,116,117,114,110]))]),zx 69 160 [.t 67,.t 68]] 69 (.reg [zf 70 0 9,zp (.store 1 (.t 70) (zu 3))]) .skip (zq [zt 71 6 9,zp (.store 6 (.t 4) (.t 71))] .ret))))) .skip (zq [zo 72 (.buildSl 20 [.str []] [(0,1,.c (.str [38,38])),(1,1,.c (.str [124,124])),(2,1,.c (.str [61,61])),(3,1,.c (.str [33,61])),(4,1,.c (.str [60,61])),(5,1,.c (.str [62,61])),(6,1,.c (.str [60])),(7,1,.c (.str [62])),(8,1,.c (.str [43])),(9,1,.c (.str [45])),(10,1,.c (.str [42])),(11,1,.c (.str [47])),(12,1,.c (.str [33])),(13,1,.c (.str [40])),(14,1,.c (.str [41])),(15,1,.c (.str [123])),(16,1,.c (.str [125])),(17,1,.c (.str [44])),(18,1,.c (.str [59])),(19,1,.c (.str [61]))]),zm 10 72] (.seq (zq [zo 11 (.mv (zi 0))] (.block 2 (.loop (zr [zm 73 11,zm 74 10,zh 75 74,zb 76 .lss 73 75] 76 .skip (.exit 2) (.seq (.block 3 (zq [zm 79 1,zm 80 10,zm 81 11,zd 82 80 81,zl 83 82,zo 84 (.len true (.t 83)),zb 85 .add 79 84,zm 86 0,zo 87 (.len true (.t 86)),zb 88 .leq 85 87,zm 89 88,zg 90 (.mv (.t 0)) 89 true,zg 91 (.mv (.t 1)) 89 true,zg 92 (.mv (.t 1)) 89 true,zg 93 (.mv (.t 10)) 89 true,zg 94 (.mv (.t 11)) 89 true,zg 95 (.idxA 1 (.t 93) (.t 94)) 89 true,zg 96 (.load false 1 (.t 95)) 89 true,zg 97 (.len true (.t 96)) 89 true,zg 98 (.bin .add (.t 92) (.t 97)) 89 true,zg 99 (.slStr (.t 90) (some (.t 91)) (some (.t 98))) 89 true,zg 100 (.mv (.t 10)) 89 true,zg 101 (.mv (.t 11)) 89 true,zg 102 (.idxA 1 (.t 100) (.t 101)) 89 true,zg 103 (.load false 1 (.t 102)) 89 true,zg 104 (.bin .eql (.t 99) (.t 103)) 89 true,zo 105 (.pick (.t 89) (.t 104) (.c (.bool false)))] (.cond (.t 105) (zq [zm 106 10,zm 107 11,zd 108 106 107,zl 109 108,zm 110 1,zm 111 1,zm 112 10,zm 113 11,zd 114 112 113,zl 115 114,zo 116 (.len true (.t 115)),zb 117 .add 111 116,zo 118 (.build [zU 0,.str [],zI 0,zI 0,zI 0,zI 0] [(0,1,zu 4),(1,1,.t 109),(4,1,.t 110),(5,1,.t 117)]),zp (.store 6 (.t 4) (.t 118))] .ret) .skip))) (.reg [zm 77 11,zk 78 .add 77 1,zm 11 78])))))) (zq [zo 119 (.build [zU 0,.str [],zI 0,zI 0,zI 0,zI 0] []),zp (.store 6 (.t 4) (.t 119))] .ret))))),[.cell true 6 4]⟩
theorem NL:cN Tryz.prog 114=some O1:=by kernel_rfl
def ON:bV:=⟨57,zq [zo 4 (.mv (zi 0))] (zq [zm 7 1,zm 5 7] (.seq (.block 0 (.loop (zr [zm 8 5,zm 9 0,zo 10 (.len true (.t 9)),zb 11 .lss 8 10,zm 12 11,zg 13 (.mv (.t 0)) 12 true,zg 14 (.mv (.t 5)) 12 true,zg 15 (.idxS (.t 13) (.t 14)) 12 true,zg 16 (.call 159 [.t 15]) 12 true,zo 17 (.pick (.t 12) (.t 16) (.c (.bool false)))] 17 .skip (.exit 0) (.block 1 (.reg [zm 18 5,zk 19 .add 18 1,zm 5 19]))))) (zr [zm 20 5,zm 21 1,zb 22 .eql 20 21] 22 (zq [zo 4 (.mv (zi 0))] .ret) .skip (zq [zm 23 5,zk 24 .add 23 1,zm 6 24] (.seq (.block 2 (.loop (zr [zm 25 5,zm 26 0,zo 27 (.len true (.t 26)),zb 28 .lss 25 27,zm 29 28,zg 30 (.mv (.t 0)) 29 true,zg 31 (.mv (.t 5)) 29 true,zg 32 (.idxS (.t 30) (.t 31)) 29 true,zg 33 (.bin .eql (.t 32) (zu 46)) 29 true,zo 34 (.pick (.t 29) (.t 33) (.c (.bool false))),zm 35 34,zg 36 (.mv (.t 6)) 35 true,zg 37 (.mv (.t 0)) 35 true,zg 38 (.len true (.t 37)) 35 true,zg 39 (.bin .lss (.t 36) (.t 38)) 35 true,zo 40 (.pick (.t 35) (.t 39) (.c (.bool false))),zm 41 40,zg 42 (.mv (.t 0)) 41 true,zg 43 (.mv (.t 6)) 41 true,zg 44 (.idxS (.t 42) (.t 43)) 41 true,zg 45 (.call 159 [.t 44]) 41 true,zo 46 (.pick (.t 41) (.t 45) (.c (.bool false)))] 46 .skip (.exit 2) (.block 3 (.reg [zm 47 6,zk 48 .add 47 1,zm 6 48]))))) (zr [zm 49 6,zm 50 5,zk 51 .add 50 1,zb 52 .gtr 49 51] 52 (.reg [zm 53 6,zm 5 53]) .skip (zq [zm 54 5,zm 55 1,zb 56 .sub 54 55,zm 4 56] .ret))))))),[.t 4]⟩
theorem Np:cN Tryz.prog 156=some ON:=by kernel_rfl
def JS:bV:=⟨9,zq [zo 2 (.mv (.c (.bool false)))] (zq [zm 3 0,zo 4 (.bin .geq (.t 3) (zu 48)),zm 5 4,zg 6 (.mv (.t 0)) 5 true,zg 7 (.bin .leq (.t 6) (zu 57)) 5 true,zo 8 (.pick (.t 5) (.t 7) (.c (.bool false))),zm 2 8] .ret),[.t 2]⟩
theorem Nk:cN Tryz.prog 159=some JS:=by kernel_rfl
def OM:bV:=⟨92,zq [zo 2 (.mv (zi 0)),zo 3 (.mv (.c (.bool false)))] (zr [zm 13 0,zx 14 156 [.t 13,zi 0],zm 15 0,zo 16 (.len true (.t 15)),zb 17 .neq 14 16,zm 18 17,zg 19 (.mv (.t 0)) 18 false,zg 20 (.len true (.t 19)) 18 false,zg 21 (.bin .eql (.t 20) (zi 0)) 18 false,zo 22 (.pick (.t 18) (.c (.bool true)) (.t 21))] 22 (zq [zo 2 (.mv (zi 0)),zo 3 (.mv (.c (.bool false)))] .ret) .skip (zq [zo 4 (.mv (zi 0))] (zq [zo 5 (.mv (zi 0))] (.seq (.block 0 (.loop (zr [zm 23 5,zm 24 0,zo 25 (.len true (.t 24)),zb 26 .lss 23 25,zm 27 26,zg 28 (.mv (.t 0)) 27 true,zg 29 (.mv (.t 5)) 27 true,zg 30 (.idxS (.t 28) (.t 29)) 27 true,zg 31 (.bin .neq (.t 30) (zu 46)) 27 true,zo 32 (.pick (.t 27) (.t 31) (.c (.bool false)))] 32 .skip (.exit 0) (.block 1 (zq [zm 33 4,zk 34 .mul 33 10,zm 35 0,zm 36 5,zo 37 (.idxS (.t 35) (.t 36)),zo 38 (.bin .sub (.t 37) (zu 48)),zv 39 .i64 38,zb 40 .add 34 39,zm 4 40] (zr [zm 41 4,zk 42 .geq 41 2147483648] 42 (zq [zo 2 (.mv (zi 0)),zo 3 (.mv (.c (.bool false)))] .ret) .skip (.reg [zm 43 5,zk 44 .add 43 1,zm 5 44]))))))) (zq [zo 6 (.mv zn)] (.seq (zq [zm 45 5,zk 46 .add 45 1,zm 7 46] (.block 2 (.loop (zr [zm 47 7,zm 48 0,zo 49 (.len true (.t 48)),zb 50 .lss 47 49] 50 .skip (.exit 2) (.seq (.block 3 (.reg [zm 53 6,zm 54 0,zm 55 7,zo 56 (.idxS (.t 54) (.t 55)),zo 57 (.bin .sub (.t 56) (zu 48)),zv 58 .i64 57,zo 59 (.buildSl 1 [zI 0] [(0,1,.t 58)]),zo 60 (.append 1 8 (.t 53) (.t 59)),zm 6 60])) (.reg [zm 51 7,zk 52 .add 51 1,zm 7 52])))))) (zq [zm 61 4,zm 8 61] (.seq (zq [zo 9 (.mv (zi 0))] (.block 4 (.loop (zr [zm 62 9,zk 63 .lss 62 32] 63 .skip (.exit 4) (.seq (.block 5 (zq [zo 10 (.mv (zi 0))] (.seq (zq [zm 66 6,zh 67 66,zk 68 .sub 67 1,zm 11 68] (.block 6 (.loop (zr [zm 69 11,zk 70 .geq 69 0] 70 .skip (.exit 6) (.seq (.block 7 (zq [zm 73 6,zm 74 11,zd 75 73 74,zl 76 75,zk 77 .mul 76 2,zm 78 10,zb 79 .add 77 78,zm 12 79] (zq [zm 80 6,zm 81 11,zm 82 12,zk 83 .rem 82 10,zd 84 80 81,zs 84 83] (.reg [zm 85 12,zk 86 .quo 85 10,zm 10 86])))) (.reg [zm 71 11,zk 72 .sub 71 1,zm 11 72])))))) (.reg [zm 87 8,zk 88 .mul 87 2,zm 89 10,zb 90 .add 88 89,zm 8 90])))) (.reg [zm 64 9,zk 65 .add 64 1,zm 9 65])))))) (zq [zm 91 8,zm 2 91,zo 3 (.mv (.c (.bool true)))] .ret))))))))),[.t 2,.t 3]⟩
theorem Nn:cN Tryz.prog 157=some OM:=by kernel_rfl
def OL:bV:=⟨21,zq [zo 2 (.mv (.c (.bool false)))] (zq [zm 3 0,zo 4 (.bin .geq (.t 3) (zu 97)),zm 5 4,zg 6 (.mv (.t 0)) 5 true,zg 7 (.bin .leq (.t 6) (zu 122)) 5 true,zo 8 (.pick (.t 5) (.t 7) (.c (.bool false))),zm 9 8,zg 10 (.mv (.t 0)) 9 false,zg 11 (.bin .geq (.t 10) (zu 65)) 9 false,zg 12 (.mv (.t 11)) 9 false,zg 13 (.mv (.t 0)) 12 true,zg 14 (.bin .leq (.t 13) (zu 90)) 12 true,zg 15 (.pick (.t 12) (.t 14) (.c (.bool false))) 9 false,zo 16 (.pick (.t 9) (.c (.bool true)) (.t 15)),zm 17 16,zg 18 (.mv (.t 0)) 17 false,zg 19 (.bin .eql (.t 18) (zu 95)) 17 false,zo 20 (.pick (.t 17) (.c (.bool true)) (.t 19)),zm 2 20] .ret),[.t 2]⟩
theorem Nl:cN Tryz.prog 158=some OL:=by kernel_rfl
def OK:bV:=⟨18,zq [zo 4 (.mv (.c (.bool false)))] (.seq (zq [zo 5 (.mv (zi 0))] (.block 0 (.loop (zr [zm 6 5,zm 7 1,zh 8 7,zb 9 .lss 6 8] 9 .skip (.exit 0) (.seq (.block 1 (zq [zm 12 1,zm 13 5,zd 14 12 13,zl 15 14,zm 16 0,zb 17 .eql 15 16] (.cond (.t 17) (zq [zo 4 (.mv (.c (.bool true)))] .ret) .skip))) (.reg [zm 10 5,zk 11 .add 10 1,zm 5 11])))))) (zq [zo 4 (.mv (.c (.bool false)))] .ret)),[.t 4]⟩
theorem Nj:cN Tryz.prog 160=some OK:=by kernel_rfl
def yZ:bV:=⟨56,zq [zo 2 (.mv (.c (.str [])))] (zq [zm 8 0,zv 9 .u64 8,zo 3 (.mv (.c (.str []))),zm 4 9] (zr [zm 10 0,zk 11 .lss 10 0] 11 (.reg [zm 12 0,zv 13 .u64 12,zo 14 (.un .neg (.t 13)),zo 3 (.mv (.c (.str [45]))),zm 4 14]) .skip (zq [zm 15 4,zo 16 (.bin .quo (.t 15) (.c (.int .u64 (.ofNat 4294967296)))),zm 17 4,zo 18 (.bin .rem (.t 17) (.c (.int .u64 (.ofNat 4294967296)))),zm 5 16,zm 6 18] (zq [zo 7 (.mv (.c (.str [])))] (.seq (.block 0 (.loop (zr [zm 19 5,zo 20 (.bin .gtr (.t 19) (.c (.int .u64 (.ofNat 0)))),zm 21 20,zg 22 (.mv (.t 7)) 21 false,zg 23 (.bin .eql (.t 22) (.c (.str []))) 21 false,zo 24 (.pick (.t 21) (.c (.bool true)) (.t 23))] 24 .skip (.exit 0) (.block 1 (zq [zm 25 5,zo 26 (.bin .rem (.t 25) (.c (.int .u64 (.ofNat 10)))),zo 27 (.bin .add (.c (.int .u64 (.ofNat 48))) (.t 26)),zv 28 .u8 27,zo 29 (.buildSl 1 [zU 0] [(0,1,.t 28)]),zo 30 (.convBS (.t 29)),zm 31 7,zb 32 .add 30 31,zm 7 32] (.reg [zm 33 5,zo 34 (.bin .quo (.t 33) (.c (.int .u64 (.ofNat 10)))),zm 5 34])))))) (zr [zm 35 6,zo 36 (.bin .gtr (.t 35) (.c (.int .u64 (.ofNat 0))))] 36 (.reg [zm 37 7,zo 38 (.bin .add (.t 37) (.c (.str [46]))),zm 7 38]) .skip (.seq (.block 2 (.loop (zr [zm 39 6,zo 40 (.bin .gtr (.t 39) (.c (.int .u64 (.ofNat 0))))] 40 .skip (.exit 2) (.block 3 (zq [zm 41 6,zo 42 (.bin .mul (.t 41) (.c (.int .u64 (.ofNat 10)))),zm 6 42] (zq [zm 43 7,zm 44 6,zo 45 (.bin .quo (.t 44) (.c (.int .u64 (.ofNat 4294967296)))),zo 46 (.bin .add (.c (.int .u64 (.ofNat 48))) (.t 45)),zv 47 .u8 46,zo 48 (.buildSl 1 [zU 0] [(0,1,.t 47)]),zo 49 (.convBS (.t 48)),zb 50 .add 43 49,zm 7 50] (.reg [zm 51 6,zo 52 (.bin .rem (.t 51) (.c (.int .u64 (.ofNat 4294967296)))),zm 6 52]))))))) (zq [zm 53 3,zm 54 7,zb 55 .add 53 54,zm 2 55] .ret)))))))),[.t 2]⟩
theorem NF:cN Tryz.prog 121=some yZ:=by kernel_rfl
end
end Go.Proofs.Wo
namespace Go.Proofs.Wo
open Go.Abs Go.Abs.S Go.Proofs
def mdT:Nat->Option Ds:=fun f=>bif Nat.beq f 30 then some ⟨[],some (60,1,false)⟩ else bif Nat.beq f 32 then some ⟨[],some (63,1,false)⟩ else none
def tM(H:aa):List ab->Option (ab×aa)
 | [.str s]=>bif Nat.ble s.length 281474976710656 then some (.str s,H) else none
 | _=>none
def nat:gC:=⟨fun f=>Nat.beq f 153,fun f args H=>bif Nat.beq f 153 then tM H args else none,fun _=>none⟩
abbrev aA:gC:=Ol nat mdT
end Go.Proofs.Wo
