/- Part of a proof (S10 S11 S12 S15 S13 S16 S17 S14 S18 S19 S20 S21 S22 S23 S24 S25 S26 S27 Zab YC1 YN0 W0 W1 YW2 YW3); no condition. -/
import Derived.ChangeArms
import Derived.ChangeSame
import Derived.SizedLaws
import Derived.Test.YtfleblkgifoeaaaDoorProg
import Derived.KernelRfl
import Derived.Test.YtfleblkgifoeaaaDoorP6
set_option linter.unusedSimpArgs false
set_option linter.unusedVariables false
set_option linter.unnecessarySimpa false
namespace Go.Abs.S
open Go.Abs
theorem At(s:List UInt8):gh true (.str s)=some (.int .i64 (s.length:Int)):=_root_.id rfl
theorem cW{s:List UInt8}{i:Nat}{b:UInt8}(h:s[i]?=some b)(k:IntKind):jk (.str s) (.int k (i:Int))=some (.int .u8 (b.toNat:Int)):=by
 show (match (s[i]?:Option UInt8) with | some b=>some (aa.int .u8 b.toNat) | none=>none)=_
 rw[h]
theorem rE{y n:Nat}(h:n<=y):bd (.int .i64 (n:Int)) y=some n:=by
 show (bif Nat.ble n y then some n else none)=_
 rw[N3 h]; rfl
theorem uD{s:List UInt8}{l h:Nat}(h1:l<=h)(h2:h<=s.length):ec (.str s) (some (.int .i64 (l:Int))) (some (.int .i64 (h:Int)))=some (.str ((s.drop l).take (h-l))):=by
 simp only[ec,rR,Hm,rE h2,rE h1]
theorem Ar{s:List UInt8}{l:Nat}(h1:l<=s.length):ec (.str s) (some (.int .i64 (l:Int))) none=some (.str (s.drop l)):=by
 simp only[ec,rR,Hm,rE h1]
 rw[List.take_of_length_le (by simp)]
theorem py{s:List UInt8}{h:Nat}(h2:h<=s.length):ec (.str s) none (some (.int .i64 (h:Int)))=some (.str (s.take h)):=by
 simp only[ec,rR,Hm,rE h2,List.drop_zero,Nat.sub_zero]
theorem Au(x y:List UInt8):cB .eql (.str x) (.str y)=some (.bool (decide (x=y))):=by
 simp only[cB,IU]
 by_cases h:x=y <;> simp[h]
theorem As(x y:List UInt8):cB .neq (.str x) (.str y)=some (.bool (!decide (x=y))):=by
 simp only[cB,IU]
 by_cases h:x=y <;> simp[h]
theorem Bn(k k':IntKind)(n:Int):pi k (.int k' n)=some (.int k (k.wrap n)):=by
 simp only[pi,lU]
theorem Dx(b:Bool):IR .not (.bool b)=some (.bool (!b)):=_root_.id rfl
theorem vw(k:IntKind)(a b:Int)(h:b≠0):cB .quo (.int k a) (.int k b)=some (.int k (k.wrap (a.tdiv b))):=by
 simp[cB,ct,cZ,kH,h]
theorem IK(k k':IntKind)(a:Int)(b:Nat):cB .shl (.int k a) (.int k' (b:Int))=some (.int k (k.wrap (a*2 ^ (min b k.bits)))):=by
 simp only[cB,ct,cond_true,mJ,oF]
 rw[if_neg om]; rfl
theorem IJ(k k':IntKind)(a:Int)(b:Nat):cB .shr (.int k a) (.int k' (b:Int))=some (.int k (a.fdiv (2 ^ (min b k.bits)))):=by
 simp only[cB,ct,cond_true,mJ,oF]
 rw[if_neg om]; rfl
theorem pW(b:Bool):(aN=aa.bool b)=False:=by simp[aN]
theorem gi{a:Int}(h1:0<=a)(h2:a<=255):IntKind.u8.wrap a=a:=IntWalk.u8_in _ ⟨h1,h2⟩
end Go.Abs.S
namespace Go.Abs.S
open Go.Abs
theorem kW(n m:Nat):(BitVec.ofInt m (n:Int)).toNat=n % 2 ^ m:=by
 rw[BitVec.toNat_ofInt]
 omega
theorem I6{a:Nat}(h:a<2 ^ 63):IntKind.i64.wrap (a:Int)=a:=by
 rw[IntKind.wrap_i64]; omega
theorem Bx{a b:Nat}(ha:a<2 ^ 63)(hb:b<2 ^ 63):cB .or (.int .i64 (a:Int)) (.int .i64 (b:Int))=some (.int .i64 ((a ||| b:Nat):Int)):=by
 have e:(BitVec.ofInt IntKind.i64.bits (a:Int) ||| BitVec.ofInt IntKind.i64.bits (b:Int)).toNat=a ||| b:=by
  rw[BitVec.toNat_or,kW,kW]
  have h1:a % 2 ^ IntKind.i64.bits=a:=Nat.mod_eq_of_lt (by simp only[IntKind.bits]; omega)
  have h2:b % 2 ^ IntKind.i64.bits=b:=Nat.mod_eq_of_lt (by simp only[IntKind.bits]; omega)
  rw[h1,h2]
 simp only[cB,ct,cond_false,if_true,cZ,kH,e]
 rw[I6 (Nat.or_lt_two_pow ha hb)]
theorem xA{k':IntKind}{a b:Nat}(hb:b<=63)(h:a*2 ^ b<2 ^ 63):cB .shl (.int .i64 (a:Int)) (.int k' (b:Int))=some (.int .i64 ((a*2 ^ b:Nat):Int)):=by
 rw[IK]
 have e:min b IntKind.i64.bits=b:=by simp only[IntKind.bits]; omega
 rw[e]
 have e2:(a:Int)*2 ^ b=((a*2 ^ b:Nat):Int):=by simp
 rw[e2,I6 h]
theorem Ev(n a:Nat){b:Nat}(h:b<2 ^ n):a*2 ^ n ||| b=a*2 ^ n+b:=by
 rw[Nat.mul_comm,Nat.two_pow_add_eq_or_of_lt h]
theorem Er(a b:Int):jJ (.mm false) [.int .i64 a,.int .i64 b]=some (.int .i64 (if b<a then b else a)):=by
 simp only[jJ,IV,Lq,IW,uT,cond_false]
 by_cases h:b<a <;> simp[h]
def nV(l:List Nat):List aa:=l.map fun n:Nat=>.int .u8 (n:Int)
theorem jp(l:List Nat):(nV l).length=l.length:=by simp[nV]
theorem Ht{l:List Nat}{i:Nat}{n:Nat}(h:l[i]?=some n):(nV l)[i]?=some (.int .u8 (n:Int)):=by simp[nV,h]
theorem mO(l:List Nat)(i n:Nat):nV (l.set i n)=(nV l).set i (.int .u8 (n:Int)):=by simp[nV]
end Go.Abs.S
namespace Go.Abs.S
open Go.Abs
theorem fI{a:Int}(h1:0<=a)(h2:a<4294967296):IntKind.u32.wrap a=a:=by
 rw[IntKind.wrap_u32]; omega
theorem vF{a:Int}(h1:0<=a)(h2:a<18446744073709551616):IntKind.u64.wrap a=a:=by
 rw[IntKind.wrap_u64]; omega
theorem oi{a:Nat}(b:Nat)(h:0<b)(ha:a<4294967296):cB .quo (.int .u32 (a:Int)) (.int .u32 (b:Int))=some (.int .u32 ((a / b:Nat):Int)):=by
 rw[vw _ _ _ om]
 have:(a:Int).tdiv b=((a / b:Nat):Int):=rfl
 have h2:=Nat.div_le_self a b
 rw[this,fI (Int.natCast_nonneg _) (by generalize a / b=q at *; omega)]
theorem oh{a:Nat}(b:Nat)(h:0<b):cB .rem (.int .u32 (a:Int)) (.int .u32 (b:Int))=some (.int .u32 ((a % b:Nat):Int)):=by
 rw[vu _ _ _ om]; rfl
theorem Kf{a:Nat}(b:Nat)(h:0<b)(ha:a<18446744073709551616):cB .quo (.int .u64 (a:Int)) (.int .u64 (b:Int))=some (.int .u64 ((a / b:Nat):Int)):=by
 rw[vw _ _ _ om]
 have:(a:Int).tdiv b=((a / b:Nat):Int):=rfl
 have h2:=Nat.div_le_self a b
 rw[this,vF (Int.natCast_nonneg _) (by generalize a / b=q at *; omega)]
theorem Kd{a:Nat}(b:Nat)(h:0<b):cB .rem (.int .u64 (a:Int)) (.int .u64 (b:Int))=some (.int .u64 ((a % b:Nat):Int)):=by
 rw[vu _ _ _ om]; rfl
theorem Ck(k k':IntKind)(a:Nat){b:Nat}(hb:b<=k.bits):cB .shr (.int k (a:Int)) (.int k' (b:Int))=some (.int k ((a / 2 ^ b:Nat):Int)):=by
 rw[IJ,Nat.min_eq_left hb]
 congr 2
 have:((2:Int) ^ b)=((2 ^ b:Nat):Int):=by simp
 rw[this,Int.fdiv_eq_ediv_of_nonneg _ (Int.natCast_nonneg _)]
 rfl
theorem rD{a b:Nat}(ha:a<2 ^ 64)(hb:b<2 ^ 64):cB .and (.int .u64 (a:Int)) (.int .u64 (b:Int))=some (.int .u64 ((a &&& b:Nat):Int)):=by
 have e:(BitVec.ofInt IntKind.u64.bits (a:Int) &&& BitVec.ofInt IntKind.u64.bits (b:Int)).toNat=a &&& b:=by
  rw[BitVec.toNat_and,kW,kW]
  have h1:a % 2 ^ IntKind.u64.bits=a:=Nat.mod_eq_of_lt (by simp only[IntKind.bits]; omega)
  have h2:b % 2 ^ IntKind.u64.bits=b:=Nat.mod_eq_of_lt (by simp only[IntKind.bits]; omega)
  rw[h1,h2]
 simp only[cB,ct,cond_false,if_true,cZ,kH,e]
 have h3:=Nat.and_lt_two_pow a hb
 rw[vF om om]
def cX(s:List UInt8):List aa:=s.map fun b=>.int .u8 (b.toNat:Int)
theorem nI(s:List UInt8):(cX s).length=s.length:=by simp[cX]
theorem xp(s t:List UInt8):cX (s++t)=cX s++cX t:=by simp[cX]
theorem xn(s:List UInt8):(cX s).all aa.one=true:=by simp[cX,aa.one]
theorem jD:∀s:List UInt8,jE (cX s)=some s
 | []=>rfl
 | b::s=>by
  have h:=jD s
  show (match jE (cX s) with | some l=>some (UInt8.ofNat (Int.toNat (b.toNat:Int))::l) | none=>none)=_
  rw[h]
  simp
theorem HE(H:ab)(s:List UInt8):iN 1 H (.str s)=some (s.length,cX s):=_root_.id rfl
def gC(b cap n:Nat):aa:=.slice (some ⟨b,cap,0⟩) n (.known cap)
def vB(H:ab)(b cap:Nat)(s:List UInt8):Prop:=∃l,bc H b l/\l.length=cap/\l.take s.length=cX s
theorem IG(b cap n:Nat):gh false (gC b cap n)=some (.int .i64 (n:Int)):=_root_.id rfl
theorem jF{b cap n:Nat}(k:IntKind){i:Nat}(h:i<n):eB 1 (gC b cap n) (.int k (i:Int))=some (af b cap i):=by
 show (bif Nat.blt i n then some (aa.ptr (some ⟨b,cap,0+i*1⟩)) else none)=_
 have:Nat.blt i n=true:=by simpa[Nat.blt_eq] using h
 rw[this,Nat.zero_add,Nat.mul_one]; rfl
theorem AC(z:aa):∀k,sj [z] k=List.replicate k z
 | 0=>rfl
 | k+1=>by simp only[sj,AC z k,List.replicate_succ]; rfl
theorem FW{H:ab}(z:aa)(cap:Nat)(hc:cap<=1000000):∃H',ph 1 [z] H (.int .i64 (0:Int)) (.int .i64 (cap:Int))=some (gC H.next cap 0,H')/\vB H' H.next cap []/\H'.next=H.next+1/\∀c,c≠H.next->H'.get c=H.get c:=by
 refine⟨H.push (.cells (List.replicate cap z) 0 false),?_,⟨_,fY _ _,by simp,by simp[cX]⟩,rfl,fun c hc=>by rw[ab.get_push,if_neg hc]⟩
 have h0:ii (.int .i64 (0:Int))=some 0:=rfl
 have h1:ii (.int .i64 (cap:Int))=some cap:=by
  show ii (.int .i64 (Int.ofNat cap))=some cap
  simp only[ii,N3 (show cap<=9223372036854775807 by omega),cond_true]
 simp only[ph,h0,h1,AC,N3 (Nat.zero_le _),N3 (show 1*cap<=281474976710656 by omega),Bool.and_self,cond_true,List.length_replicate]
 rfl
theorem rJ{H:ab}{b cap:Nat}{s x:List UInt8}(hb:vB H b cap s){t:aa}(hs:iN 1 H t=some (x.length,cX x))(hx:x≠[])(hf:s.length+x.length<=cap)(hc:cap<=1000000) :
  ∃H',bI 1 1 H (gC b cap s.length) t=some (gC b cap (s++x).length,H')/\vB H' b cap (s++x)/\H'.next=H.next/\∀c,c≠b->H'.get c=H.get c:=by
 obtain⟨l,⟨low,h1,h2⟩,h3,h4⟩:=hb
 have hl:0<x.length:=List.length_pos_iff.2 hx
 have e0:Nat.beq x.length 0=false:=by rw[b9]; exact decide_eq_false om
 refine⟨H.set b (.cells (l.take s.length++(cX x++l.drop (s.length+x.length))) cap false),?_,⟨_,⟨cap,by rw[ab.get_set,if_pos rfl],?_⟩,?_,?_⟩,rfl,fun c hc=>by rw[ab.get_set,if_neg hc]⟩
 ·have hw:dy H ⟨b,cap,0+s.length*1⟩ (cX x)=some (H.set b (.cells (l.take s.length++(cX x++l.drop (s.length+x.length))) cap false)):=by
   unfold dy
   simp only[h1,Nat.zero_add,Nat.mul_one,N3 (show low<=cap by omega),nI,N3 hf,xn,h3,Nat.beq_refl,Bool.and_self,cond_true]
  simp only[bI,hs,e0,cond_false,gC,Nat.add_zero,Nat.mul_one,N3 (show 2*(s.length+x.length)<=281474976710656 by omega),N3 (show s.length+x.length<=9223372036854775807 by omega),nI,Nat.beq_refl,xn,Bool.and_self,show Nat.blt 0 1=true from rfl,cond_true,N3 hf,lA]
  rw[Nat.mul_one]at hw
  rw[hw]
 ·simp[cX]; omega
 ·simp[cX]; omega
 ·rw[xp,<- h4,<- Oe]
  have e:(List.take s.length l++cX x).length=(s++x).length:=by simp[cX]; omega
  rw[<- e,List.take_left]
theorem FX{H:ab}{b cap:Nat}{s:List UInt8}(hb:vB H b cap s)(hf:s.length<=cap):GL H (gC b cap s.length)=some (.str s):=by
 obtain⟨l,⟨low,h1,h2⟩,h3,h4⟩:=hb
 have hr:aY H ⟨b,cap,0⟩ s.length=some (cX s):=by
  unfold aY
  simp only[h1,N3 (show low<=cap by omega),N3 (show cap<=l.length by omega),Nat.zero_add,N3 hf,Bool.and_self,cond_true,List.drop_zero,h4]
 simp only[GL,gC,hr,jD]
theorem IF{H:ab}{b cap:Nat}{s:List UInt8}(hb:vB H b cap s)(hf:s.length<=cap):iN 1 H (gC b cap s.length)=some (s.length,cX s):=by
 obtain⟨l,⟨low,h1,h2⟩,h3,h4⟩:=hb
 have hr:aY H ⟨b,cap,0⟩ s.length=some (cX s):=by
  unfold aY
  simp only[h1,N3 (show low<=cap by omega),N3 (show cap<=l.length by omega),Nat.zero_add,N3 hf,Bool.and_self,cond_true,List.drop_zero,h4]
 simp only[iN,gC,Nat.mul_one,hr]
theorem vB.same{H H':ab}{b cap:Nat}{s:List UInt8}(h:vB H b cap s)(e:H'.get b=H.get b):vB H' b cap s:=by
 obtain⟨l,h1,h2⟩:=h
 exact⟨l,h1.same e,h2⟩
theorem Ax{b cap k:Nat}(h:k<=cap)(hc:0<cap):kG cap 1 (af b cap 0) none (some (.int .i64 (k:Int))) none=some (gC b cap k):=by
 have e:Nat.beq cap 0=false:=by rw[b9]; exact decide_eq_false om
 simp only[kG,af,rR,Hm,rE h,Option.getD_none,e,cond_false,Nat.zero_mul,Nat.add_zero,Nat.sub_zero,gC]
def pM(H:ab)(g:Nat)(l:List aa):Prop:=H.get g=some (.cells l 0 true)
theorem Ky{H:ab}{g n:Nat}{l:List aa}(h:pM H g l)(hn:l.length=n){i:Nat}(hi:i<n)(k:IntKind):BW (.gIdx g n 1) H [.int k (i:Int)]=some (af g n i,H):=by
 have:y0 H g=some (af g n 0):=by
  unfold y0
  rw[h,<- hn]; rfl
 simp only[BW,GI,this,vx hi]
theorem Iz{H:ab}{g n:Nat}{l:List aa}(h:pM H g l)(hn:l.length=n){i:Nat}{x:aa}(hi:l[i]?=some x):am false 1 H (af g n i)=some x:=by
 subst hn
 have hlt:=(N2.1 hi).1
 obtain⟨y,h4,h5⟩:=Em (eZ h (Nat.zero_le _)) hlt
 rw[hi]at h4
 simp only[sJ]at h4
 subst h4
 simp only[Nat.zero_add]at h5
 simp only[am,af,h5,cond_false]
theorem pM.ext{n g:Nat}{H H':ab}{l:List aa}(h:pM H g l)(hg:g<n)(e:b7 n H H'):pM H' g l:=(e.old g hg).trans h
theorem aq{H:ab}{b n:Nat}{l:List aa}(h:bc H b l)(hn:l.length=n){xs:List aa}(hx:xs.length=n)(ho:xs.all aa.one=true) :
  ∃H',bx n H (af b n 0) (.agg xs)=some H'/\bc H' b xs/\H'.next=H.next/\∀c,c≠b->H'.get c=H.get c:=by
 subst hn
 obtain⟨low,h1,h2⟩:=h
 refine⟨H.set b (.cells xs l.length false),?_,⟨l.length,by rw[ab.get_set,if_pos rfl],om⟩,rfl,fun c hc=>by rw[ab.get_set,if_neg hc]⟩
 simp only[bx,af,dq,hx,Nat.beq_refl,cond_true]
 unfold dy
 simp only[h1,hx,N3 h2,Nat.beq_refl,Nat.zero_add,N3 rL,ho,Bool.and_self,cond_true,List.take_zero,List.nil_append,List.drop_length,List.append_nil]
theorem aD{H:ab}{b n:Nat}{l:List aa}(h:bc H b l)(hn:l.length=n):am true n H (af b n 0)=some (.agg l):=by
 subst hn
 obtain⟨low,h1,h2⟩:=h
 simp only[am,af,eZ h1 h2,cond_true]
theorem fld0(b n o:Nat):gp o (af b n 0)=some (af b n o):=by
 simp only[gp,af,Nat.zero_add]
theorem KD{T:bU}{H:ab}(g g':Bool)(n n' i i':Nat)(K:aa->ab->Prop){v v':aa}(h:am g n H (T i)=some v)(h':am g' n' H (T i')=some v')(hk:K (.tuple [v,v']) H):fin [.cell g n i,.cell g' n' i'] K .ret T H:=by
 simp only[fin,mL,h,h',aM]; exact hk
theorem u9{T:bU}{H:ab}(K:aa->ab->Prop):fin [] K .normal T H=K (.tuple []) H:=by
 simp only[fin,mL,aM]; rfl
end Go.Abs.S
namespace Go.Abs.S
open Go.Abs
theorem KP{n:Nat}{H:ab}{s:aa}{t:List UInt8}(h:Ab n H s (cX t)):GL H s=some (.str t):=by
 rcases h with⟨h,h2⟩ | ⟨a,r,rfl,_,h3⟩
 ·have ht:t=[]:=by simpa[cX] using h2
  subst ht
  rcases ja h with rfl | ⟨a,rfl⟩ <;> rfl
 ·simp only[GL,h3,jD]
end Go.Abs.S
namespace Go.Abs.S
open Go.Abs Go.WideShapes Go.ChangeShapes
variable {H:Type} {enc:TypeId×Value->H}
end Go.Abs.S
namespace Go.Abs.S
open Go.Abs Go.WideShapes Go.ChangeShapes
variable {H:Type} {enc:TypeId×Value->H}
theorem FP{w:World}{b:Nat}{c off:Nat}{n:Nat}{cs:List Value}(h:w.cells? b ⟨c,off,none⟩ n=some cs):cs.length=n/\∀i,i<n->w.cell? ⟨c,off+i,none⟩=cs[i]?:=by
 unfold World.cells? at h
 split at h
 ·have key:∀(l:List Nat) (cs:List Value),l.mapM (fun i=>w.cell? ((⟨c,off,none⟩:Addr).add i))=some cs->cs.length=l.length/\∀(i j:Nat),l[i]?=some j->w.cell? ((⟨c,off,none⟩:Addr).add j)=cs[i]?:=by
   intro l
   induction l with
   | nil=>intro cs h; simp at h; subst h; simp
   | cons x l ih=>
    intro cs h
    simp only[List.mapM_cons]at h
    cases hx:w.cell? ((⟨c,off,none⟩:Addr).add x) with
    | none=>rw[hx]at h; simp at h
    | some v=>
     rw[hx]at h
     cases hr:l.mapM (fun i=>w.cell? ((⟨c,off,none⟩:Addr).add i)) with
     | none=>rw[hr]at h; simp at h
     | some vs=>
      rw[hr]at h
      simp at h
      subst h
      obtain⟨h1,h2⟩:=ih vs hr
      refine⟨by simp[h1],fun i j hj=>?_⟩
      cases i with
      | zero=>simp at hj; subst hj; simpa using hx
      | succ i=>simpa using h2 i j (by simpa using hj)
  obtain⟨h1,h2⟩:=key _ _ h
  refine⟨by simpa using h1,fun i hi=>?_⟩
  have:=h2 i i (by simp[hi])
  rwa [cY]at this
 ·simp at h
end Go.Abs.S
namespace Go.Abs.S
open Go.Abs Go.WideShapes Go.ChangeShapes
variable {H:Type} {enc:TypeId×Value->H}
end Go.Abs.S
namespace Go.Abs.S
open Go.Abs
def eh(m n:Nat)(H:ab)(s:aa)(L:List aa)(k:Nat):Prop:=
 (s=cp/\L=[]/\k=0)∨∃b low,s=.slice (some ⟨b,L.length,0⟩) k (.open_ m)/\L.length=m*k/\n<=b/\b<H.next/\H.get b=some (.cells L low false)/\low<=L.length/\0<k
theorem eh.nil(m n:Nat)(H:ab):eh m n H cp [] 0:=.inl ⟨rfl,rfl,rfl⟩
theorem eh.len{m n k:Nat}{H:ab}{s:aa}{L:List aa}(h:eh m n H s L k):gh false s=some (.int .i64 (k:Int)):=by
 rcases h with⟨rfl,_,rfl⟩ | ⟨b,low,rfl,_⟩ <;> rfl
theorem eh.blk{m n k:Nat}{H:ab}{s:aa}{L:List aa}(h:eh m n H s L k):∀a j r,s=.slice (some a) j r->a.b<H.next:=by
 intro a j r he
 rcases h with⟨rfl,_⟩ | ⟨b,low,rfl,_,_,h4,_⟩
 ·simp[cp]at he
 ·simp only[aa.slice.injEq,sJ]at he
  rw[<- he.1]; exact h4
def pm(H:ab)(m:Nat):aa:=.slice (some ⟨H.next,m,0⟩) 1 (.known 1)
theorem vr{m:Nat}{z xs:List aa}(H:ab)(hz:z.length=m)(hx:xs.length=m):cA 1 z H [(0,m,.agg xs)]=some (pm H m,H.push (.cells xs 0 false)):=by
 subst hz
 have hb:Nat.beq xs.length z.length=true:=by rw[hx]; exact Nat.beq_refl _
 simp only[cA,sj,List.append_nil,lP,dq,hx,Nat.beq_refl,Nat.zero_add,N3 rL,Bool.and_self,cond_true,qi,List.take_zero,List.nil_append,List.drop_length,List.append_nil,pm]
theorem J7{m:Nat}{xs:List aa}(H:ab)(hx:xs.length=m):iN m (H.push (.cells xs 0 false)) (pm H m)=some (1,xs):=by
 subst hx
 have:=eZ (H:=H.push (.cells xs 0 false)) (b:=H.next) (l:=xs) (low:=0) (ro:=false) (by rw[ab.get_push,if_pos rfl]) (Nat.zero_le _)
 simp only[iN,pm,Nat.one_mul,this]
theorem eh.push{m n k:Nat}{H:ab}{s:aa}{L:List aa}(h:eh m n H s L k)(hn:n<=H.next){xs:List aa}(hx:xs.length=m)(ho:xs.all aa.one=true)(hm:0<m){bytes:Nat}(hb:2*(k+1)*bytes<=281474976710656)(hb1:0<bytes) :
  ∃s' H',bI m bytes (H.push (.cells xs 0 false)) s (pm H m)=some (s',H')/\eh m n H' s' (L++xs) (k+1)/\b7 n H H'/\∀c,c<H.next->(∀a j r,s=.slice (some a) j r->c≠a.b)->H'.get c=H.get c:=by
 have hlen:k+1<=9223372036854775807:=by
  have:2*(k+1)<=2*(k+1)*bytes:=Nat.le_mul_of_pos_right _ hb1
  omega
 have hlt:Nat.blt 0 m=true:=by simpa[Nat.blt_eq] using hm
 have c1:∀j,j=k->(Nat.blt 0 m&&(Nat.ble ((2*(j+1)+0)*bytes) 281474976710656&&(Nat.ble (j+1) 9223372036854775807&&(Nat.beq xs.length (1*m)&&xs.all aa.one))))=true:=by
  intro j hj
  subst hj
  simp only[Nat.add_zero,N3 hb,N3 hlen,hx,Nat.one_mul,Nat.beq_refl,ho,hlt,Bool.and_self]
 rcases h with⟨rfl,rfl,rfl⟩ | ⟨b,low,rfl,h2,h3,h4,h5,h6,h7⟩
 ·refine⟨.slice (some ⟨H.next+1,m,0⟩) 1 (.open_ m),(H.push (.cells xs 0 false)).push (.cells xs 0 false),?_,.inr ⟨H.next+1,0,by simp[hx],by simp[hx],om,Nat.lt_succ_self _,?_,Nat.zero_le _,om⟩,((b7.refl n H).push hn _).push (by rw[a8]; omega) _,fun c hc _=>by rw[ab.get_push,if_neg (by rw[a8]; omega),aE hc]⟩
  ·simp only[bI,J7 H hx,cp]
   rw[show Nat.beq 1 0=false from rfl,cond_false,c1 0 rfl,cond_true,hx]
   rfl
  ·rw[ab.get_push]; exact if_pos rfl
 ·have hg:(H.push (.cells xs 0 false)).get b=some (.cells L low false):=by rw[ab.get_push,if_neg om]; exact h5
  have hgrow:cT (H.push (.cells xs 0 false)) ⟨b,L.length,0⟩ L.length xs=some ((H.push (.cells xs 0 false)).set b (.cells (L++xs) low false)):=by
   unfold cT
   simp only[hg,N3 h6,N3 rL,N3 (Nat.zero_le _),N3 (show L.length+1<=L.length+xs.length by omega),Nat.beq_refl,ho,Bool.and_self,cond_true,List.take_length]
  refine⟨.slice (some ⟨b,L.length+m,0⟩) (k+1) (.open_ m),(H.push (.cells xs 0 false)).set b (.cells (L++xs) low false),?_,.inr ⟨b,low,by simp[hx],by rw[lA,h2,hx,Nat.mul_add,Nat.mul_one],h3,by rw[mY,a8]; omega,by rw[ab.get_set,if_pos rfl],by simp; omega,om⟩,((b7.refl n H).push hn _).set h3 _,fun c hc hd=>by rw[ab.get_set,if_neg (hd _ _ _ rfl),aE hc]⟩
  have e0:0+k*m=L.length:=by rw[h2,Nat.mul_comm]; omega
  have e1:Nat.ble (0+(k+1)*m) L.length=false:=by
   rw[lu]; refine decide_eq_false ?_
   rw[Nat.add_mul,Nat.one_mul]; omega
  simp only[bI,J7 H hx]
  rw[show Nat.beq 1 0=false from rfl,cond_false,c1 k rfl,cond_true]
  simp only[Nat.beq_refl,cond_true,e1,cond_false,e0,hgrow,hx]
theorem NA{b lim k m:Nat}(K:IntKind){i:Nat}(h:i<k):eB m (.slice (some ⟨b,lim,0⟩) k (.open_ m)) (.int K (i:Int))=some (af b lim (i*m)):=by
 show (bif Nat.blt i k then some (aa.ptr (some ⟨b,lim,0+i*m⟩)) else none)=_
 have:Nat.blt i k=true:=by simpa[Nat.blt_eq] using h
 rw[this,Nat.zero_add]; rfl
end Go.Abs.S
namespace Go.Abs.S
open Go.Abs
def fx(v:aa)(P:Nat->Prop):Prop:=∀a m r,v=.slice (some a) m r->P a.b
theorem fx.mono{v:aa}{P Q:Nat->Prop}(h:fx v P)(k:∀b,P b->Q b):fx v Q:=fun a m r e=>k _ (h a m r e)
theorem Iw{s:aa}(h:LM s=true):s.one=true:=by
 rcases ja h with rfl | ⟨a,rfl⟩ <;> rfl
theorem vt(P:Nat->Prop):fx cp P:=by intro a m r h; simp[cp]at h
theorem jg{a:Ad}{m:Nat}{r:rT}{P:Nat->Prop}(h:P a.b):fx (.slice (some a) m r) P:=by
 intro a' m' r' e
 simp only[aa.slice.injEq,sJ]at e
 rw[<- e.1]; exact h
theorem fx.and{v:aa}{P Q:Nat->Prop}(h:fx v P)(k:fx v Q):fx v fun b=>P b/\Q b:=fun a m r e=>⟨h a m r e,k a m r e⟩
theorem Ke{H:ab}{b n:Nat}{l:List aa}(h:bc H b l)(hn:l.length=n){i k:Nat}(hik:i+k<=n):aY H ⟨b,n,i⟩ k=some ((l.drop i).take k):=by
 subst hn
 obtain⟨low,h1,h2⟩:=h
 unfold aY
 simp only[h1,N3 h2,N3 rL,N3 hik,Bool.and_self,cond_true]
theorem iS{H:ab}{b n:Nat}{l:List aa}(h:bc H b l)(hn:l.length=n){i k:Nat}(hik:i+k<=n):am true k H (af b n i)=some (.agg ((l.drop i).take k)):=by
 simp only[am,af,Ke h hn hik,cond_true]
theorem yx{H:ab}{b n:Nat}{l:List aa}(h:bc H b l)(hn:l.length=n){i k:Nat}(hik:i+k<=n){xs:List aa}(hx:xs.length=k)(ho:xs.all aa.one=true) :
  ∃H',bx k H (af b n i) (.agg xs)=some H'/\bc H' b (l.take i++(xs++l.drop (i+k)))/\H'.next=H.next/\∀c,c≠b->H'.get c=H.get c:=by
 subst hn hx
 obtain⟨low,h1,h2⟩:=h
 refine⟨H.set b (.cells (l.take i++(xs++l.drop (i+xs.length))) l.length false),?_,⟨l.length,by rw[ab.get_set,if_pos rfl],by simp; omega⟩,rfl,fun c hc=>by rw[ab.get_set,if_neg hc]⟩
 simp only[bx,af,dq,Nat.beq_refl,cond_true]
 unfold dy
 simp only[h1,N3 h2,Nat.beq_refl,N3 hik,ho,Bool.and_self,cond_true]
theorem cz(b n i o:Nat):gp o (af b n i)=some (af b n (i+o)):=_root_.id rfl
theorem aC(b n i:Nat):cf (af b n i)=some (af b n i):=_root_.id rfl
theorem eh.blk'{m n k:Nat}{H:ab}{s:aa}{L:List aa}(h:eh m n H s L k):fx s (·<H.next):=fun a j r e=>h.blk a j r e
theorem eh.same{m n k:Nat}{H H':ab}{s:aa}{L:List aa}(h:eh m n H s L k)(hn:H.next<=H'.next)(e:fx s fun b=>H'.get b=H.get b):eh m n H' s L k:=by
 rcases h with h | ⟨b,low,rfl,h2,h3,h4,h5,h6,h7⟩
 ·exact .inl h
 ·exact .inr ⟨b,low,rfl,h2,h3,om,(e _ _ _ rfl).trans h5,h6,h7⟩
theorem eh.one{m n k:Nat}{H:ab}{s:aa}{L:List aa}(h:eh m n H s L k):s.one=true:=by
 rcases h with⟨rfl,_⟩ | ⟨b,low,rfl,_⟩ <;> rfl
theorem eh.pushB{m k:Nat}{H:ab}{s:aa}{L:List aa}(h:eh m 0 H s L k){xs:List aa}(hx:xs.length=m)(ho:xs.all aa.one=true)(hm:0<m){bytes:Nat}(hb:2*(k+1)*bytes<=281474976710656)(hb1:0<bytes) :
  ∃s' H',bI m bytes (H.push (.cells xs 0 false)) s (pm H m)=some (s',H')/\eh m 0 H' s' (L++xs) (k+1)/\H.next<=H'.next/\(∀P,fx s P->fx s' fun b=>P b∨H.next<=b)/\∀c,c<H.next->fx s (c≠·)->H'.get c=H.get c:=by
 rcases h with⟨rfl,rfl,rfl⟩ | ⟨b,low,rfl,h2,h3,h4,h5,h6,h7⟩
 ·obtain⟨s',H',h1,h2,h3,h4⟩:=(eh.nil m H.next H).push rL hx ho hm hb hb1
  refine⟨s',H',h1,?_,h3.next,fun P _=>?_,fun c hc _=>h3.old c hc⟩
  ·rcases h2 with h2 | ⟨b,low,e1,e2,e3,e4,e5,e6,e7⟩
   ·exact .inl h2
   ·exact .inr ⟨b,low,e1,e2,Nat.zero_le _,e4,e5,e6,e7⟩
  ·rcases h2 with⟨_,_,h2⟩ | ⟨b,low,rfl,e2,e3,e4,e5,e6,e7⟩
   ·omega
   ·exact jg (.inr e3)
 ·have h0:eh m 0 H (.slice (some ⟨b,L.length,0⟩) k (.open_ m)) L k:=.inr ⟨b,low,rfl,h2,h3,h4,h5,h6,h7⟩
  have hb':eh m b H (.slice (some ⟨b,L.length,0⟩) k (.open_ m)) L k:=.inr ⟨b,low,rfl,h2,Nat.le_refl _,h4,h5,h6,h7⟩
  have hlen:k+1<=9223372036854775807:=by
   have:2*(k+1)<=2*(k+1)*bytes:=Nat.le_mul_of_pos_right _ hb1
   omega
  have hlt:Nat.blt 0 m=true:=by simpa[Nat.blt_eq] using hm
  have c1:(Nat.blt 0 m&&(Nat.ble ((2*(k+1)+0)*bytes) 281474976710656&&(Nat.ble (k+1) 9223372036854775807&&(Nat.beq xs.length (1*m)&&xs.all aa.one))))=true:=by
   simp only[Nat.add_zero,N3 hb,N3 hlen,hx,Nat.one_mul,Nat.beq_refl,ho,hlt,Bool.and_self]
  have hg:(H.push (.cells xs 0 false)).get b=some (.cells L low false):=by rw[ab.get_push,if_neg om]; exact h5
  have hgrow:cT (H.push (.cells xs 0 false)) ⟨b,L.length,0⟩ L.length xs=some ((H.push (.cells xs 0 false)).set b (.cells (L++xs) low false)):=by
   unfold cT
   simp only[hg,N3 h6,N3 rL,N3 (Nat.zero_le _),N3 (show L.length+1<=L.length+xs.length by omega),Nat.beq_refl,ho,Bool.and_self,cond_true,List.take_length]
  have e0:0+k*m=L.length:=by rw[h2,Nat.mul_comm]; omega
  have e1:Nat.ble (0+(k+1)*m) L.length=false:=by
   rw[lu]; refine decide_eq_false ?_
   rw[Nat.add_mul,Nat.one_mul]; omega
  refine⟨.slice (some ⟨b,L.length+m,0⟩) (k+1) (.open_ m),(H.push (.cells xs 0 false)).set b (.cells (L++xs) low false),?_,.inr ⟨b,low,by simp[hx],by rw[lA,h2,hx,Nat.mul_add,Nat.mul_one],Nat.zero_le _,by rw[mY,a8]; omega,by rw[ab.get_set,if_pos rfl],by simp; omega,om⟩,by rw[mY,a8]; omega,fun P hP=>(have hP2:P b:=hP _ _ _ rfl; jg (.inl hP2)),fun c hc hd=>by rw[ab.get_set,if_neg (hd _ _ _ rfl),aE hc]⟩
  simp only[bI,J7 H hx]
  rw[show Nat.beq 1 0=false from rfl,cond_false,c1,cond_true]
  simp only[Nat.beq_refl,cond_true,e1,cond_false,e0,hgrow,hx]
end Go.Abs.S
namespace Go.Abs.S
open Go.Abs
end Go.Abs.S
namespace Go.Abs.S
open Go.Abs
def hold(c:bE):bE:=c
theorem GA:aeq cp cp=true:=rfl
end Go.Abs.S
namespace Go.Abs.S
open Go.Abs
theorem sW:type_of% (And.intro (And.intro (And.intro (And.intro (And.intro (And.intro (And.intro (@Er) (@pW)) (And.intro (@At) (@Au))) (And.intro (And.intro (@As) (@Bn)) (@Dx))) (And.intro (And.intro (And.intro (@eq_self.{1}) (@decide_true)) (@decide_false)) (And.intro (And.intro (@Bool.not_true) (@Bool.not_false)) (@Gl)))) (And.intro (And.intro (And.intro (And.intro (@Gk) (@Gj)) (And.intro (@Gg) (@Gf))) (And.intro (And.intro (@BI) (@Ge)) (@Gc))) (And.intro (And.intro (And.intro (@BK) (@BJ)) (@Gd)) (And.intro (And.intro (@nD) (@qL)) (@tG))))) (And.intro (And.intro (And.intro (And.intro (And.intro (@qM) (@nE)) (And.intro (@tH) (@um))) (And.intro (And.intro (@uo) (@ul)) (@wL))) (And.intro (And.intro (And.intro (@Gn) (@xJ)) (@Gq)) (And.intro (And.intro (@BM) (@Gp)) (@Gt)))) (And.intro (And.intro (And.intro (And.intro (@xM) (@rI)) (@BN)) (And.intro (And.intro (@xH) (@ub)) (@Gu))) (And.intro (And.intro (And.intro (@JN) (@BQ)) (@uf)) (And.intro (And.intro (@ug) (@uc)) (@rG)))))) (And.intro (And.intro (And.intro (And.intro (And.intro (And.intro (@rF) (@JO)) (And.intro (@xI) (@ue))) (And.intro (And.intro (@xK) (@BP)) (@ud))) (And.intro (And.intro (And.intro (@Gs) (@BO)) (@rH)) (And.intro (And.intro (@uh) (@Gr)) (@BR)))) (And.intro (And.intro (And.intro (And.intro (@xL) (@gd)) (@JP)) (And.intro (And.intro (@JQ) (@Gm)) (@vJ))) (And.intro (And.intro (And.intro (@vK) (@LE)) (@LG)) (And.intro (And.intro (@LF) (@Jz)) (@FB))))) (And.intro (And.intro (And.intro (And.intro (And.intro (@FA) (@Ai)) (And.intro (@I8) (@ne_eq.{1}))) (And.intro (And.intro (@not_false_eq_true) (@aa.bool.injEq)) (@decide_eq_true_eq))) (And.intro (And.intro (And.intro (@decide_eq_false_iff_not) (@Int.ofNat_eq_natCast)) (@Int.cast_ofNat_Int)) (And.intro (And.intro (@BB) (@BC)) (@BD)))) (And.intro (And.intro (And.intro (And.intro (@BE) (@BF)) (@Bz)) (And.intro (And.intro (@BG) (@Bw)) (@BA))) (And.intro (And.intro (And.intro (@Bool.not_eq_true') (@Bool.not_eq_false')) (@Bool.true_eq_false)) (And.intro (And.intro (@Bool.false_eq_true) (@if_true.{1})) (@if_false.{1}))))))):=And.intro (And.intro (And.intro (And.intro (And.intro (And.intro (And.intro (@Er) (@pW)) (And.intro (@At) (@Au))) (And.intro (And.intro (@As) (@Bn)) (@Dx))) (And.intro (And.intro (And.intro (@eq_self.{1}) (@decide_true)) (@decide_false)) (And.intro (And.intro (@Bool.not_true) (@Bool.not_false)) (@Gl)))) (And.intro (And.intro (And.intro (And.intro (@Gk) (@Gj)) (And.intro (@Gg) (@Gf))) (And.intro (And.intro (@BI) (@Ge)) (@Gc))) (And.intro (And.intro (And.intro (@BK) (@BJ)) (@Gd)) (And.intro (And.intro (@nD) (@qL)) (@tG))))) (And.intro (And.intro (And.intro (And.intro (And.intro (@qM) (@nE)) (And.intro (@tH) (@um))) (And.intro (And.intro (@uo) (@ul)) (@wL))) (And.intro (And.intro (And.intro (@Gn) (@xJ)) (@Gq)) (And.intro (And.intro (@BM) (@Gp)) (@Gt)))) (And.intro (And.intro (And.intro (And.intro (@xM) (@rI)) (@BN)) (And.intro (And.intro (@xH) (@ub)) (@Gu))) (And.intro (And.intro (And.intro (@JN) (@BQ)) (@uf)) (And.intro (And.intro (@ug) (@uc)) (@rG)))))) (And.intro (And.intro (And.intro (And.intro (And.intro (And.intro (@rF) (@JO)) (And.intro (@xI) (@ue))) (And.intro (And.intro (@xK) (@BP)) (@ud))) (And.intro (And.intro (And.intro (@Gs) (@BO)) (@rH)) (And.intro (And.intro (@uh) (@Gr)) (@BR)))) (And.intro (And.intro (And.intro (And.intro (@xL) (@gd)) (@JP)) (And.intro (And.intro (@JQ) (@Gm)) (@vJ))) (And.intro (And.intro (And.intro (@vK) (@LE)) (@LG)) (And.intro (And.intro (@LF) (@Jz)) (@FB))))) (And.intro (And.intro (And.intro (And.intro (And.intro (@FA) (@Ai)) (And.intro (@I8) (@ne_eq.{1}))) (And.intro (And.intro (@not_false_eq_true) (@aa.bool.injEq)) (@decide_eq_true_eq))) (And.intro (And.intro (And.intro (@decide_eq_false_iff_not) (@Int.ofNat_eq_natCast)) (@Int.cast_ofNat_Int)) (And.intro (And.intro (@BB) (@BC)) (@BD)))) (And.intro (And.intro (And.intro (And.intro (@BE) (@BF)) (@Bz)) (And.intro (And.intro (@BG) (@Bw)) (@BA))) (And.intro (And.intro (And.intro (@Bool.not_eq_true') (@Bool.not_eq_false')) (@Bool.true_eq_false)) (And.intro (And.intro (@Bool.false_eq_true) (@if_true.{1})) (@if_false.{1}))))))
theorem sL:type_of% (And.intro (And.intro (@List.nil_append.{0}) (@List.cons_append.{0})) (@List.append_nil.{0})):=And.intro (And.intro (@List.nil_append.{0}) (@List.cons_append.{0})) (@List.append_nil.{0})
theorem sR:type_of% (And.intro (And.intro (And.intro (And.intro (And.intro (And.intro (@tQ) (@rV)) (@rW)) (And.intro (@rU) (@tE))) (And.intro (And.intro (And.intro (@DB) (@vO)) (@Ak)) (And.intro (@Jc) (@DC)))) (And.intro (And.intro (And.intro (And.intro (@DF) (@vR)) (@qd)) (And.intro (@Al) (@vM))) (And.intro (And.intro (And.intro (@sO) (@DG)) (@I9)) (And.intro (@Ao) (@sU))))) (And.intro (And.intro (And.intro (And.intro (And.intro (@sV) (@sP)) (@p8)) (And.intro (@pZ) (@Ja))) (And.intro (And.intro (And.intro (@vN) (@sS)) (@vP)) (And.intro (@An) (@sQ)))) (And.intro (And.intro (And.intro (And.intro (@DE) (@Am)) (@p9)) (And.intro (@sY) (@DD))) (And.intro (And.intro (And.intro (@Ap) (@vQ)) (@Jb)) (And.intro (@Jd) (@DA)))))):=And.intro (And.intro (And.intro (And.intro (And.intro (And.intro (@tQ) (@rV)) (@rW)) (And.intro (@rU) (@tE))) (And.intro (And.intro (And.intro (@DB) (@vO)) (@Ak)) (And.intro (@Jc) (@DC)))) (And.intro (And.intro (And.intro (And.intro (@DF) (@vR)) (@qd)) (And.intro (@Al) (@vM))) (And.intro (And.intro (And.intro (@sO) (@DG)) (@I9)) (And.intro (@Ao) (@sU))))) (And.intro (And.intro (And.intro (And.intro (And.intro (@sV) (@sP)) (@p8)) (And.intro (@pZ) (@Ja))) (And.intro (And.intro (And.intro (@vN) (@sS)) (@vP)) (And.intro (@An) (@sQ)))) (And.intro (And.intro (And.intro (And.intro (@DE) (@Am)) (@p9)) (And.intro (@sY) (@DD))) (And.intro (And.intro (And.intro (@Ap) (@vQ)) (@Jb)) (And.intro (@Jd) (@DA)))))
theorem Ji(T:bU):iO T []=[]:=_root_.id rfl
theorem Jj(T:bU)(x:aV)(r:List aV):iO T (x::r)=sX T x::iO T r:=_root_.id rfl
theorem Jn(T:bU):ic T none=none:=_root_.id rfl
theorem Jm(T:bU)(x:aV):ic T (some x)=some (sX T x):=_root_.id rfl
theorem Jk(T:bU):nW T []=[]:=_root_.id rfl
theorem Jl(T:bU)(o n:Nat)(x:aV)(r:List (Nat×Nat×aV)):nW T ((o,n,x)::r)=(o,n,sX T x)::nW T r:=_root_.id rfl
theorem sA:type_of% (And.intro sW (And.intro sL (And.intro @fj (And.intro @Ji (And.intro @Jj (And.intro @Jn (And.intro @Jm (And.intro @Jk @Jl)))))))):=And.intro sW (And.intro sL (And.intro @fj (And.intro @Ji (And.intro @Jj (And.intro @Jn (And.intro @Jm (And.intro @Jk @Jl)))))))
end Go.Abs.S
namespace Go.Abs.S
open Go.Abs
theorem eh.many{m k j:Nat}{H:ab}{s x:aa}{L xs:List aa}(h:eh m 0 H s L k)(hs:iN m H x=some (j,xs))(hx:xs.length=m*j)(ho:xs.all aa.one=true)(hm:0<m){bytes:Nat}(hb:2*(k+j)*bytes<=281474976710656)(hb1:0<bytes) :
  ∃s' H',bI m bytes H s x=some (s',H')/\eh m 0 H' s' (L++xs) (k+j)/\H.next<=H'.next/\(∀P,fx s P->fx s' fun b=>P b∨H.next<=b)/\∀c,c<H.next->fx s (c≠·)->H'.get c=H.get c:=by
 by_cases hj:j=0
 ·subst hj
  have hxs:xs=[]:=List.length_eq_zero_iff.1 om
  subst hxs
  rw[List.append_nil,Nat.add_zero]
  refine⟨s,H,?_,h,Nat.le_refl _,fun P hP=>hP.mono fun b hb=>.inl hb,fun _ _ _=>rfl⟩
  simp only[bI,hs,show Nat.beq 0 0=true from rfl,cond_true]
  rcases h with⟨rfl,_⟩ | ⟨b,low,rfl,_⟩ <;> rfl
 have hxl:0<xs.length:=by rw[hx]; exact Nat.mul_pos hm om
 have hlen:k+j<=9223372036854775807:=by
  have:2*(k+j)<=2*(k+j)*bytes:=Nat.le_mul_of_pos_right _ hb1
  omega
 have hlt:Nat.blt 0 m=true:=by simpa[Nat.blt_eq] using hm
 have e0:Nat.beq j 0=false:=by rw[b9]; exact decide_eq_false hj
 have c1:∀q,q=k->(Nat.blt 0 m&&(Nat.ble ((2*(q+j)+0)*bytes) 281474976710656&&(Nat.ble (q+j) 9223372036854775807&&(Nat.beq xs.length (j*m)&&xs.all aa.one))))=true:=by
  intro q hq
  subst hq
  simp only[Nat.add_zero,N3 hb,N3 hlen,hx,Nat.mul_comm m j,Nat.beq_refl,ho,hlt,Bool.and_self]
 rcases h with⟨rfl,rfl,rfl⟩ | ⟨b,low,rfl,h2,h3,h4,h5,h6,h7⟩
 ·refine⟨.slice (some ⟨H.next,xs.length,0⟩) j (.open_ m),H.push (.cells xs 0 false),?_,.inr ⟨H.next,0,by simp,by simp[hx],Nat.zero_le _,Nat.lt_succ_self _,by rw[ab.get_push]; exact if_pos rfl,Nat.zero_le _,om⟩,by simp[ab.push],fun P _=>jg (.inr rL),fun c hc _=>aE hc⟩
  simp only[bI,hs,e0,cond_false,cp]
  rw[c1 0 rfl,cond_true]
 ·have hgrow:cT H ⟨b,L.length,0⟩ L.length xs=some (H.set b (.cells (L++xs) low false)):=by
   unfold cT
   simp only[h5,N3 h6,N3 rL,N3 (Nat.zero_le _),N3 (show L.length+1<=L.length+xs.length by omega),Nat.beq_refl,ho,Bool.and_self,cond_true,List.take_length]
  have e1:0+k*m=L.length:=by rw[h2,Nat.mul_comm]; omega
  have e2:Nat.ble (0+(k+j)*m) L.length=false:=by
   rw[lu]; refine decide_eq_false ?_
   rw[Nat.add_mul,h2,Nat.mul_comm k m]
   have:0<j*m:=Nat.mul_pos om hm
   omega
  refine⟨.slice (some ⟨b,L.length+xs.length,0⟩) (k+j) (.open_ m),H.set b (.cells (L++xs) low false),?_,.inr ⟨b,low,by simp,by rw[lA,h2,hx,Nat.mul_add],Nat.zero_le _,by rw[mY]; exact h4,by rw[ab.get_set,if_pos rfl],by simp; omega,om⟩,Nat.le_refl _,fun P hP=>(have hP2:P b:=hP _ _ _ rfl; jg (.inl hP2)),fun c hc hd=>by rw[ab.get_set,if_neg (hd _ _ _ rfl)]⟩
  simp only[bI,hs,e0,cond_false,c1 k rfl,cond_true,Nat.beq_refl,e1,e2,hgrow]
theorem eh.cel1{H:ab}{s:aa}{L:List aa}{k n:Nat}(h:eh 1 0 H s L k)(hb:fx s (·<n)):Ab n H s L:=by
 rcases h with⟨rfl,rfl,_⟩ | ⟨b,low,rfl,h2,_,h4,h5,h6,_⟩
 ·exact .inl ⟨rfl,rfl⟩
 ·have e:k=L.length:=om
  exact .inr ⟨⟨b,L.length,0⟩,.open_ 1,by rw[e],hb _ _ _ rfl,eZ h5 h6⟩
end Go.Abs.S
namespace Go.Abs.S
open Go.Abs
end Go.Abs.S
namespace Go.Abs.S
open Go.Abs
end Go.Abs.S
namespace Go.Abs.S
open Go.Abs
end Go.Abs.S
namespace Go.Abs.S
open Go.Abs
theorem xC{C:CS}{T:bU}{H:ab}{Q:nT}{l:List ah}{chk:List (List Nat)}(h:ei C (aw H.next l) T (bt H l) fun ss T' H'=>xX (bt H l::ss.map (·.2)) (aw H.next l) chk ss T/\Q .normal T' H'):wp C (.draw l chk) Q T H:=h
theorem mP{C:CS}{T:bU}{H:ab}{K:List (aa×ab)->bU->ab->Prop}{d:Option Nat}{r:List ah}(b:Nat)(z:List aa)(s:Option (Nat×Nat)):ei C (⟨d,.claim b z s,none⟩::r) T H K=eE (eN H b z s) C r T d H K:=_root_.id rfl
theorem jd{H:ab}{b:Nat}{z:List aa}(h:H.get b=some (.cells z 0 false))(hz:aeqs z z=true):eN H b z none=some (af b z.length 0):=by
 unfold eN
 simp only[h,hz,cond_true]; rfl
theorem ow{T:bU}{d:Option Nat}(hs:List ab)(p:Nat)(q:List Nat)(b:Nat)(z:List aa)(s:Option (Nat×Nat))(g:Option (Nat×Bool))(v:aa):Hj hs (p::q) T ⟨d,.claim b z s,g⟩ v=((∃Hp,hs[p]?=some Hp/\(sG T g=true->∃u,eN Hp b z s=some u/\aeq u v=true))/\Hj hs q T ⟨d,.claim b z s,g⟩ v):=by
 simp[Hj,Lv]
theorem lE(b n i:Nat):aeq (af b n i) (af b n i)=true:=by simp[aeq,af]
end Go.Abs.S
namespace Go.Abs.S
open Go.Abs Go.WideShapes Go.ChangeShapes
variable {H:Type} {enc:TypeId×Value->H}
end Go.Abs.S
namespace Go.Abs.S
open Go.Abs
abbrev zi(n:Nat):aV:=.c (.int .i64 (.ofNat n))
abbrev zu(n:Nat):aV:=.c (.int .u8 (.ofNat n))
abbrev zn:aV:=.c (.slice none 0 (.known 0))
abbrev zI(n:Nat):aa:=.int .i64 (.ofNat n)
abbrev zU(n:Nat):aa:=.int .u8 (.ofNat n)
abbrev zN:aa:=.slice none 0 (.known 0)
abbrev zo(d:Nat)(p:gZ):ah:=⟨some d,p,none⟩
abbrev zp(p:gZ):ah:=⟨none,p,none⟩
abbrev zg(d:Nat)(p:gZ)(t:Nat)(b:Bool):ah:=⟨some d,p,some (t,b)⟩
abbrev zm(d x:Nat):ah:=⟨some d,.mv (.t x),none⟩
abbrev zc(d x:Nat):ah:=⟨some d,.nilChk (.t x),none⟩
abbrev zf(d n x:Nat):ah:=⟨some d,.fieldA n (.t x),none⟩
abbrev zl(d x:Nat):ah:=⟨some d,.load false 1 (.t x),none⟩
abbrev zt(d n x:Nat):ah:=⟨some d,.load true n (.t x),none⟩
abbrev ze(d n x:Nat):ah:=⟨some d,.extract n (.t x),none⟩
abbrev zb(d:Nat)(o:BinOp)(x y:Nat):ah:=⟨some d,.bin o (.t x) (.t y),none⟩
abbrev zk(d:Nat)(o:BinOp)(x n:Nat):ah:=⟨some d,.bin o (.t x) (.c (.int .i64 (.ofNat n))),none⟩
abbrev zx(d f:Nat)(l:List aV):ah:=⟨some d,.call f l,none⟩
abbrev zh(d x:Nat):ah:=⟨some d,.len false (.t x),none⟩
abbrev zd(d x y:Nat):ah:=⟨some d,.idxA 1 (.t x) (.t y),none⟩
abbrev zy(d x y:Nat):ah:=⟨some d,.append 1 1 (.t x) (.t y),none⟩
abbrev zv(d:Nat)(k:IntKind)(x:Nat):ah:=⟨some d,.conv k (.t x),none⟩
abbrev zs(x y:Nat):ah:=⟨none,.store 1 (.t x) (.t y),none⟩
abbrev zq(l:List ah)(c:bE):bE:=.seq (.reg l) c
abbrev zr(l:List ah)(x:Nat)(a b c:bE):bE:=.seq (.seq (.reg l) (.cond (.t x) a b)) c
theorem I5(n:Nat):zI n=.int .i64 (n:Int):=_root_.id rfl
theorem I3(n:Nat):zU n=.int .u8 (n:Int):=_root_.id rfl
theorem I4:zN=.slice none 0 (.known 0):=_root_.id rfl
theorem sB:type_of% (And.intro @I5 (And.intro @I3 I4)):=And.intro @I5 (And.intro @I3 I4)
end Go.Abs.S
namespace Go.Proofs.Wo
open Go.Abs Go.Abs.S
noncomputable section
def c25:cw:=⟨110,zq [zo 4 (.new [zU 0,.str [],zI 0,zI 0,zI 0,zI 0]),zo 5 (.new [zI 0,zI 0])] (zr [zm 11 0,zo 12 (.len true (.t 11)),zk 13 .gtr 12 16384] 13 (zq [zo 14 (.build [zU 0,.str [],zI 0,zI 0,zI 0,zI 0] []),zo 15 (.build [zI 0,zI 0] [(0,1,zi 3)]),zp (.store 6 (.t 4) (.t 14)),zp (.store 2 (.t 5) (.t 15))] .ret) .skip (zr [zm 16 1,zk 17 .lss 16 0,zm 18 17,zg 19 (.mv (.t 1)) 18 false,zg 20 (.mv (.t 0)) 18 false,zg 21 (.len true (.t 20)) 18 false,zg 22 (.bin .gtr (.t 19) (.t 21)) 18 false,zo 23 (.pick (.t 18) (.c (.bool true)) (.t 22))] 23 (zq [zo 24 (.build [zU 0,.str [],zI 0,zI 0,zI 0,zI 0] []),zo 25 (.build [zI 0,zI 0] [(0,1,zi 2)]),zp (.store 6 (.t 4) (.t 24)),zp (.store 2 (.t 5) (.t 25))] .ret) .skip (zq [zm 26 0,zm 27 1,zx 28 40 [.t 26,.t 27],zm 1 28] (zq [zm 29 1,zm 30 1,zm 31 0,zm 32 1,zo 33 (.slStr (.t 31) none (some (.t 32))),zx 34 41 [.t 33,.c (.str [10])],zo 35 (.bin .add (zi 1) (.t 34)),zo 36 (.build [zU 0,.str [],zI 0,zI 0,zI 0,zI 0] [(4,1,.t 29),(5,1,.t 30),(3,1,.t 35)]),zo 6 (.new [zU 0,.str [],zI 0,zI 0,zI 0,zI 0]),zp (.store 6 (.t 6) (.t 36))] (zq [zf 37 3 6,zl 38 37,zo 39 (.build [zI 0,zI 0] [(0,1,zi 100),(1,1,.t 38)]),zo 7 (.new [zI 0,zI 0]),zp (.store 2 (.t 7) (.t 39))] (.seq (.block 0 (zq [zm 57 1,zm 58 0,zo 59 (.len true (.t 58)),zb 60 .eql 57 59,zm 56 60] (.cond (.t 56) (.reg [zf 61 0 6,zp (.store 1 (.t 61) (zu 5))]) (zq [zm 63 0,zm 64 1,zo 65 (.idxS (.t 63) (.t 64)),zx 66 42 [.t 65],zm 62 66] (.cond (.t 62) (zq [zm 67 0,zm 68 1,zx 69 43 [.t 67,.t 68],zf 70 5 6,zs 70 69] (zq [zm 72 0,zm 73 1,zf 74 5 6,zl 75 74,zo 76 (.slStr (.t 72) (some (.t 73)) (some (.t 75))),zx 77 44 [.t 76],zm 71 77,ze 78 0 71,ze 79 1 71,zm 8 78,zm 9 79] (zr [zm 80 9,zo 81 (.un .not (.t 80))] 81 (.seq (.draw [zo 82 (.build [zU 0,.str [],zI 0,zI 0,zI 0,zI 0] []),zt 83 2 7,zp (.store 6 (.t 4) (.t 82)),zp (.store 2 (.t 5) (.t 83))] [[],[3],[],[]]) .ret) .skip (.reg [zm 84 8,zf 85 0 6,zp (.store 1 (.t 85) (zu 1)),zf 86 2 6,zs 86 84])))) (zq [zm 88 0,zm 89 1,zo 90 (.idxS (.t 88) (.t 89)),zx 91 45 [.t 90],zm 87 91] (.cond (.t 87) (zq [zm 92 0,zm 93 1,zx 94 46 [.t 92,.t 93,.f 47],zf 95 5 6,zs 95 94] (zq [zm 96 0,zm 97 1,zf 98 5 6,zl 99 98,zo 100 (.slStr (.t 96) (some (.t 97)) (some (.t 99))),zx 101 48 [.t 100],zf 102 0 6,zp (.store 1 (.t 102) (zu 2)),zf 103 1 6,zs 103 101] (zq [zf 104 1 6,zl 105 104,zx 106 49 [.t 105]] (.cond (.t 106) (.reg [zf 107 0 6,zp (.store 1 (.t 107) (zu 3))]) .skip)))) (zq [zm 40 0,zm 41 1,zx 42 50 [.t 40,.t 41],zm 10 42] (zr [zm 43 10,zo 44 (.bin .eql (.t 43) (.c (.str [])))] 44 (.seq (.draw [zo 45 (.build [zU 0,.str [],zI 0,zI 0,zI 0,zI 0] []),zt 46 2 7,zp (.store 6 (.t 4) (.t 45)),zp (.store 2 (.t 5) (.t 46))] [[],[3],[],[]]) .ret) .skip (.reg [zm 47 10,zx 48 48 [.t 47],zm 49 1,zm 50 10,zo 51 (.len true (.t 50)),zb 52 .add 49 51,zf 53 0 6,zp (.store 1 (.t 53) (zu 4)),zf 54 1 6,zs 54 48,zf 55 5 6,zs 55 52])))))))))) (zq [zt 108 6 6,zo 109 (.build [zI 0,zI 0] []),zp (.store 6 (.t 4) (.t 108)),zp (.store 2 (.t 5) (.t 109))] .ret))))))),[.cell true 6 4,.cell true 2 5]⟩
theorem Nc:cN Tryd.prog 25=some c25:=by kernel_rfl
def c40:cw:=⟨22,zq [zo 4 (.mv (zi 0))] (.block 0 (.loop (.block 1 (zq [zm 5 0,zm 6 1,zx 7 46 [.t 5,.t 6,.f 57],zm 1 7] (zr [zm 8 1,zm 9 0,zo 10 (.len true (.t 9)),zb 11 .eql 8 10,zm 12 11,zg 13 (.mv (.t 0)) 12 false,zg 14 (.mv (.t 1)) 12 false,zg 15 (.idxS (.t 13) (.t 14)) 12 false,zg 16 (.bin .neq (.t 15) (zu 35)) 12 false,zo 17 (.pick (.t 12) (.c (.bool true)) (.t 16))] 17 (zq [zm 18 1,zm 4 18] .ret) .skip (.reg [zm 19 0,zm 20 1,zx 21 46 [.t 19,.t 20,.f 58],zm 1 21])))))),[.t 4]⟩
theorem MY:cN Tryd.prog 40=some c40:=by kernel_rfl
def c46:cw:=⟨21,zq [zo 6 (.mv (zi 0))] (.seq (.block 0 (.loop (zr [zm 7 1,zm 8 0,zo 9 (.len true (.t 8)),zb 10 .lss 7 9,zm 11 10,zg 12 (.mv (.t 2)) 11 true,zg 13 (.mv (.t 0)) 11 true,zg 14 (.mv (.t 1)) 11 true,zg 15 (.idxS (.t 13) (.t 14)) 11 true,zg 16 (.callv (.t 12) [.t 15]) 11 true,zo 17 (.pick (.t 11) (.t 16) (.c (.bool false)))] 17 .skip (.exit 0) (.block 1 (.reg [zm 18 1,zk 19 .add 18 1,zm 1 19]))))) (zq [zm 20 1,zm 6 20] .ret)),[.t 6]⟩
theorem MS:cN Tryd.prog 46=some c46:=by kernel_rfl
def c57:cw:=⟨17,zq [zo 2 (.mv (.c (.bool false)))] (zq [zm 3 0,zo 4 (.bin .eql (.t 3) (zu 9)),zm 5 4,zg 6 (.mv (.t 0)) 5 false,zg 7 (.bin .eql (.t 6) (zu 10)) 5 false,zo 8 (.pick (.t 5) (.c (.bool true)) (.t 7)),zm 9 8,zg 10 (.mv (.t 0)) 9 false,zg 11 (.bin .eql (.t 10) (zu 13)) 9 false,zo 12 (.pick (.t 9) (.c (.bool true)) (.t 11)),zm 13 12,zg 14 (.mv (.t 0)) 13 false,zg 15 (.bin .eql (.t 14) (zu 32)) 13 false,zo 16 (.pick (.t 13) (.c (.bool true)) (.t 15)),zm 2 16] .ret),[.t 2]⟩
theorem MH:cN Tryd.prog 57=some c57:=by kernel_rfl
def c58:cw:=⟨5,zq [zo 2 (.mv (.c (.bool false)))] (zq [zm 3 0,zo 4 (.bin .neq (.t 3) (zu 10)),zm 2 4] .ret),[.t 2]⟩
theorem MG:cN Tryd.prog 58=some c58:=by kernel_rfl
def c41:cw:=⟨34,zq [zo 4 (.mv (zi 0))] (zr [zm 7 1,zo 8 (.len true (.t 7)),zk 9 .eql 8 0] 9 (zq [zm 10 0,zx 11 59 [.t 10],zk 12 .add 11 1,zm 4 12] .ret) .skip (zr [zm 13 1,zo 14 (.len true (.t 13)),zk 15 .eql 14 1] 15 (zq [zm 16 0,zm 17 1,zo 18 (.idxS (.t 17) (zi 0)),zo 19 (.pf .cbs [.t 16,.t 18]),zm 4 19] .ret) .skip (zq [zo 5 (.mv (zi 0))] (.block 0 (.loop (.block 1 (zq [zm 20 0,zm 21 1,zx 22 61 [.t 20,.t 21],zm 6 22] (zr [zm 23 6,zo 24 (.bin .eql (.t 23) (.c (.int .i64 (.negSucc 0))))] 24 (zq [zm 25 5,zm 4 25] .ret) .skip (zq [zm 26 5,zk 27 .add 26 1,zm 5 27] (.reg [zm 28 0,zm 29 6,zm 30 1,zo 31 (.len true (.t 30)),zb 32 .add 29 31,zo 33 (.slStr (.t 28) (some (.t 32)) none),zm 0 33])))))))))),[.t 4]⟩
theorem MX:cN Tryd.prog 41=some c41:=by kernel_rfl
def NI:cw:=⟨143,zq [zo 4 (.mv (zi 0))] (zq [zm 14 1,zo 15 (.len true (.t 14)),zm 5 15] (.seq (.block 0 (zq [zm 17 5,zk 18 .eql 17 0,zm 19 18,zg 20 (.mv (.t 1)) 19 false,zg 21 (.mv (.t 0)) 19 false,zg 22 (.bin .eql (.t 20) (.t 21)) 19 false,zo 23 (.pick (.t 19) (.c (.bool true)) (.t 22)),zm 16 23] (.cond (.t 16) (zq [zo 4 (.mv (zi 0))] .ret) (zq [zm 25 5,zk 26 .eql 25 1,zm 24 26] (.cond (.t 24) (zq [zm 27 0,zm 28 1,zo 29 (.idxS (.t 28) (zi 0)),zx 30 72 [.t 27,.t 29],zm 4 30] .ret) (zq [zm 32 5,zm 33 0,zo 34 (.len true (.t 33)),zb 35 .geq 32 34,zm 31 35] (.cond (.t 31) (zq [zo 4 (.mv (.c (.int .i64 (.negSucc 0))))] .ret) (zq [zm 37 5,zo 38 (.hf (.gLd 0 false 1) []),zb 39 .leq 37 38,zm 40 39,zg 41 (.mv (.t 0)) 40 true,zg 42 (.len true (.t 41)) 40 true,zg 43 (.bin .leq (.t 42) (zi 64)) 40 true,zo 44 (.pick (.t 40) (.t 43) (.c (.bool false))),zm 36 44] (.cond (.t 36) (zq [zm 45 0,zm 46 1,zx 47 74 [.t 45,.t 46],zm 4 47] .ret) .skip))))))))) (zq [zm 48 1,zo 49 (.idxS (.t 48) (zi 0)),zm 6 49] (zq [zm 50 1,zo 51 (.idxS (.t 50) (zi 1)),zm 7 51] (zq [zo 8 (.mv (zi 0))] (zq [zm 52 0,zo 53 (.len true (.t 52)),zm 54 5,zb 55 .sub 53 54,zk 56 .add 55 1,zm 9 56] (zq [zo 10 (.mv (zi 0))] (.seq (.block 1 (.loop (zr [zm 57 8,zm 58 9,zb 59 .lss 57 58] 59 .skip (.exit 1) (.block 2 (zr [zm 60 0,zm 61 8,zo 62 (.idxS (.t 60) (.t 61)),zm 63 6,zb 64 .neq 62 63] 64 (zq [zm 65 0,zm 66 8,zk 67 .add 66 1,zm 68 9,zo 69 (.slStr (.t 65) (some (.t 67)) (some (.t 68))),zm 70 6,zx 71 72 [.t 69,.t 70],zm 11 71] (zr [zm 72 11,zk 73 .lss 72 0] 73 (zq [zo 4 (.mv (.c (.int .i64 (.negSucc 0))))] .ret) .skip (.reg [zm 74 8,zm 75 11,zk 76 .add 75 1,zb 77 .add 74 76,zm 8 77]))) .skip (zr [zm 78 0,zm 79 8,zk 80 .add 79 1,zo 81 (.idxS (.t 78) (.t 80)),zm 82 7,zb 83 .eql 81 82,zm 84 83,zg 85 (.mv (.t 0)) 84 true,zg 86 (.mv (.t 8)) 84 true,zg 87 (.mv (.t 8)) 84 true,zg 88 (.mv (.t 5)) 84 true,zg 89 (.bin .add (.t 87) (.t 88)) 84 true,zg 90 (.slStr (.t 85) (some (.t 86)) (some (.t 89))) 84 true,zg 91 (.mv (.t 1)) 84 true,zg 92 (.bin .eql (.t 90) (.t 91)) 84 true,zo 93 (.pick (.t 84) (.t 92) (.c (.bool false)))] 93 (zq [zm 94 8,zm 4 94] .ret) .skip (zq [zm 95 8,zk 96 .add 95 1,zm 8 96] (zq [zm 97 10,zk 98 .add 97 1,zm 10 98] (zq [zm 99 5,zo 100 (.hf (.gLd 0 false 1) []),zb 101 .leq 99 100,zm 102 101,zg 103 (.mv (.t 10)) 102 true,zg 104 (.mv (.t 8)) 102 true,zg 105 (.call 75 [.t 104]) 102 true,zg 106 (.bin .gtr (.t 103) (.t 105)) 102 true,zo 107 (.pick (.t 102) (.t 106) (.c (.bool false)))] (.cond (.t 107) (zq [zm 108 0,zm 109 8,zo 110 (.slStr (.t 108) (some (.t 109)) none),zm 111 1,zx 112 74 [.t 110,.t 111],zm 12 112] (zr [zm 113 12,zk 114 .geq 113 0] 114 (zq [zm 115 12,zm 116 8,zb 117 .add 115 116,zm 4 117] .ret) .skip (zq [zo 4 (.mv (.c (.int .i64 (.negSucc 0))))] .ret))) (zq [zm 118 5,zo 119 (.hf (.gLd 0 false 1) []),zb 120 .gtr 118 119,zm 121 120,zg 122 (.mv (.t 10)) 121 true,zg 123 (.mv (.t 8)) 121 true,zg 124 (.bin .shr (.t 123) (.c (.int .u64 (.ofNat 4)))) 121 true,zg 125 (.bin .add (zi 4) (.t 124)) 121 true,zg 126 (.bin .geq (.t 122) (.t 125)) 121 true,zo 127 (.pick (.t 121) (.t 126) (.c (.bool false))),zm 128 127,zg 129 (.mv (.t 8)) 128 true,zg 130 (.mv (.t 9)) 128 true,zg 131 (.bin .lss (.t 129) (.t 130)) 128 true,zo 132 (.pick (.t 128) (.t 131) (.c (.bool false)))] (.cond (.t 132) (zq [zm 133 0,zm 134 8,zo 135 (.slStr (.t 133) (some (.t 134)) none),zm 136 1,zx 137 76 [.t 135,.t 136],zm 13 137] (zr [zm 138 13,zk 139 .lss 138 0] 139 (zq [zo 4 (.mv (.c (.int .i64 (.negSucc 0))))] .ret) .skip (zq [zm 140 8,zm 141 13,zb 142 .add 140 141,zm 4 142] .ret))) .skip)))))))))))) (zq [zo 4 (.mv (.c (.int .i64 (.negSucc 0))))] .ret))))))))),[.t 4]⟩
theorem My:cN Tryd.prog 69=some NI:=by kernel_rfl
def NG:cw:=⟨8,zq [zo 4 (.mv (zi 0))] (zq [zm 5 0,zm 6 1,zo 7 (.pf .ibs [.t 5,.t 6]),zm 4 7] .ret),[.t 4]⟩
theorem Lr:cN Tryd.prog 72=some NG:=by kernel_rfl
def Mh:cw:=⟨9,zq [zo 2 (.mv (.c (.bool false)))] (zq [zm 3 0,zo 4 (.bin .leq (zu 48) (.t 3)),zm 5 4,zg 6 (.mv (.t 0)) 5 true,zg 7 (.bin .leq (.t 6) (zu 57)) 5 true,zo 8 (.pick (.t 5) (.t 7) (.c (.bool false))),zm 2 8] .ret),[.t 2]⟩
theorem MW:cN Tryd.prog 42=some Mh:=by kernel_rfl
def c43:cw:=⟨36,zq [zo 4 (.mv (zi 0))] (zq [zm 7 0,zm 8 1,zx 9 46 [.t 7,.t 8,.f 42],zm 5 9] (zr [zm 10 5,zm 11 1,zb 12 .eql 10 11,zm 13 12,zg 14 (.mv (.t 5)) 13 false,zg 15 (.mv (.t 0)) 13 false,zg 16 (.len true (.t 15)) 13 false,zg 17 (.bin .eql (.t 14) (.t 16)) 13 false,zo 18 (.pick (.t 13) (.c (.bool true)) (.t 17)),zm 19 18,zg 20 (.mv (.t 0)) 19 false,zg 21 (.mv (.t 5)) 19 false,zg 22 (.idxS (.t 20) (.t 21)) 19 false,zg 23 (.bin .neq (.t 22) (zu 46)) 19 false,zo 24 (.pick (.t 19) (.c (.bool true)) (.t 23))] 24 (zq [zm 25 5,zm 4 25] .ret) .skip (.seq (zq [zm 26 0,zm 27 5,zk 28 .add 27 1,zx 29 46 [.t 26,.t 28,.f 42],zm 6 29] (zq [zm 30 6,zm 31 5,zk 32 .add 31 1,zb 33 .gtr 30 32] (.cond (.t 33) (zq [zm 34 6,zm 4 34] .ret) .skip))) (zq [zm 35 5,zm 4 35] .ret)))),[.t 4]⟩
theorem MV:cN Tryd.prog 43=some c43:=by kernel_rfl
def NK:cw:=⟨51,zq [zo 2 (.mv (zi 0)),zo 3 (.mv (.c (.bool false)))] (zr [zm 9 0,zo 10 (.bin .eql (.t 9) (.c (.str []))),zm 11 10,zg 12 (.mv (.t 0)) 11 false,zg 13 (.idxS (.t 12) (zi 0)) 11 false,zg 14 (.call 42 [.t 13]) 11 false,zg 15 (.un .not (.t 14)) 11 false,zo 16 (.pick (.t 11) (.c (.bool true)) (.t 15)),zm 17 16,zg 18 (.mv (.t 0)) 17 false,zg 19 (.call 43 [.t 18,zi 0]) 17 false,zg 20 (.mv (.t 0)) 17 false,zg 21 (.len true (.t 20)) 17 false,zg 22 (.bin .neq (.t 19) (.t 21)) 17 false,zo 23 (.pick (.t 17) (.c (.bool true)) (.t 22))] 23 (zq [zo 2 (.mv (zi 0)),zo 3 (.mv (.c (.bool false)))] .ret) .skip (zq [zm 25 0,zx 26 62 [.t 25,.c (.str [46])],zm 24 26,ze 27 0 24,ze 28 1 24,ze 29 2 24,zm 4 27,zm 5 28,zm 6 29] (zq [zo 7 (.mv (zi 0))] (.seq (zq [zm 30 4,zo 31 (.len true (.t 30)),zo 32 (.mv (zi 0))] (.block 0 (.loop (zq [zb 33 .lss 32 31] (.seq (.cond (.t 33) .skip (.exit 0)) (.seq (.block 1 (zq [zm 34 32,zm 8 34] (zq [zm 35 7,zk 36 .mul 35 10,zm 37 4,zm 38 8,zo 39 (.idxS (.t 37) (.t 38)),zo 40 (.bin .sub (.t 39) (zu 48)),zv 41 .i64 40,zb 42 .add 36 41,zm 7 42] (zq [zm 43 7,zk 44 .geq 43 2147483648] (.cond (.t 44) (zq [zo 2 (.mv (zi 0)),zo 3 (.mv (.c (.bool false)))] .ret) .skip))))) (.reg [zk 45 .add 32 1,zm 32 45]))))))) (zq [zm 46 7,zo 47 (.bin .shl (.t 46) (.c (.int .u64 (.ofNat 32)))),zm 48 5,zx 49 63 [.t 48],zb 50 .or 47 49,zm 2 50,zo 3 (.mv (.c (.bool true)))] .ret))))),[.t 2,.t 3]⟩
theorem MU:cN Tryd.prog 44=some NK:=by kernel_rfl
def c62:cw:=⟨13,zq [zo 4 (.mv (.c (.str []))),zo 5 (.mv (.c (.str []))),zo 6 (.mv (.c (.bool false)))] (zq [zm 7 0,zm 8 1,zx 9 70 [.t 7,.t 8],ze 10 0 9,ze 11 1 9,ze 12 2 9,zm 4 10,zm 5 11,zm 6 12] .ret),[.t 4,.t 5,.t 6]⟩
theorem ME:cN Tryd.prog 62=some c62:=by kernel_rfl
def c70:cw:=⟨23,zq [zo 4 (.mv (.c (.str []))),zo 5 (.mv (.c (.str []))),zo 6 (.mv (.c (.bool false)))] (.seq (zq [zm 8 0,zm 9 1,zx 10 69 [.t 8,.t 9],zm 7 10] (zq [zm 11 7,zk 12 .geq 11 0] (.cond (.t 12) (zq [zm 13 0,zm 14 7,zo 15 (.slStr (.t 13) none (some (.t 14))),zm 16 0,zm 17 7,zm 18 1,zo 19 (.len true (.t 18)),zb 20 .add 17 19,zo 21 (.slStr (.t 16) (some (.t 20)) none),zm 4 15,zm 5 21,zo 6 (.mv (.c (.bool true)))] .ret) .skip))) (zq [zm 22 0,zm 4 22,zo 5 (.mv (.c (.str []))),zo 6 (.mv (.c (.bool false)))] .ret)),[.t 4,.t 5,.t 6]⟩
theorem Mx:cN Tryd.prog 70=some c70:=by kernel_rfl
def c63:cw:=⟨47,zq [zo 2 (.mv (zi 0))] (zq [zo 3 (.new [zU 0,zU 0,zU 0,zU 0,zU 0,zU 0,zU 0,zU 0,zU 0,zU 0,zU 0,zU 0,zU 0,zU 0,zU 0,zU 0,zU 0,zU 0,zU 0,zU 0,zU 0,zU 0,zU 0,zU 0,zU 0,zU 0,zU 0,zU 0,zU 0,zU 0,zU 0,zU 0])] (.seq (zq [zm 9 0,zo 10 (.len true (.t 9)),zo 11 (.pf (.mm false) [.t 10,zi 32]),zo 12 (.mv (zi 0))] (.block 0 (.loop (zq [zb 13 .lss 12 11] (.seq (.cond (.t 13) .skip (.exit 0)) (.seq (.block 1 (zq [zm 14 12,zm 4 14] (.reg [zm 15 4,zm 16 0,zm 17 4,zo 18 (.idxS (.t 16) (.t 17)),zo 19 (.bin .sub (.t 18) (zu 48)),zo 20 (.idxArr 32 1 (.t 3) (.t 15)),zs 20 19]))) (.reg [zk 21 .add 12 1,zm 12 21]))))))) (zq [zo 5 (.mv (zi 0))] (.seq (zq [zo 22 (.mv (zi 0))] (.block 2 (.loop (zq [zk 23 .lss 22 32] (.seq (.cond (.t 23) .skip (.exit 2)) (.seq (.block 3 (zq [zo 6 (.mv (zu 0))] (.seq (zq [zo 7 (.mv (zi 31))] (.block 4 (.loop (zr [zm 24 7,zk 25 .geq 24 0] 25 .skip (.exit 4) (.seq (.block 5 (zq [zm 28 7,zo 29 (.idxArr 32 1 (.t 3) (.t 28)),zl 30 29,zo 31 (.bin .mul (.t 30) (zu 2)),zm 32 6,zb 33 .add 31 32,zm 8 33] (.reg [zm 34 7,zm 35 8,zo 36 (.bin .rem (.t 35) (zu 10)),zm 37 8,zo 38 (.bin .quo (.t 37) (zu 10)),zo 39 (.idxArr 32 1 (.t 3) (.t 34)),zs 39 36,zm 6 38]))) (.reg [zm 26 7,zk 27 .sub 26 1,zm 7 27])))))) (.reg [zm 40 5,zo 41 (.bin .shl (.t 40) (.c (.int .u64 (.ofNat 1)))),zm 42 6,zv 43 .i64 42,zb 44 .or 41 43,zm 5 44])))) (.reg [zk 45 .add 22 1,zm 22 45]))))))) (zq [zm 46 5,zm 2 46] .ret))))),[.t 2]⟩
theorem MD:cN Tryd.prog 63=some c63:=by kernel_rfl
def c45:cw:=⟨21,zq [zo 2 (.mv (.c (.bool false)))] (zq [zm 3 0,zo 4 (.bin .leq (zu 97) (.t 3)),zm 5 4,zg 6 (.mv (.t 0)) 5 true,zg 7 (.bin .leq (.t 6) (zu 122)) 5 true,zo 8 (.pick (.t 5) (.t 7) (.c (.bool false))),zm 9 8,zg 10 (.mv (.t 0)) 9 false,zg 11 (.bin .leq (zu 65) (.t 10)) 9 false,zg 12 (.mv (.t 11)) 9 false,zg 13 (.mv (.t 0)) 12 true,zg 14 (.bin .leq (.t 13) (zu 90)) 12 true,zg 15 (.pick (.t 12) (.t 14) (.c (.bool false))) 9 false,zo 16 (.pick (.t 9) (.c (.bool true)) (.t 15)),zm 17 16,zg 18 (.mv (.t 0)) 17 false,zg 19 (.bin .eql (.t 18) (zu 95)) 17 false,zo 20 (.pick (.t 17) (.c (.bool true)) (.t 19)),zm 2 20] .ret),[.t 2]⟩
theorem MT:cN Tryd.prog 45=some c45:=by kernel_rfl
def c47:cw:=⟨9,zq [zo 2 (.mv (.c (.bool false)))] (zq [zm 3 0,zx 4 45 [.t 3],zm 5 4,zg 6 (.mv (.t 0)) 5 false,zg 7 (.call 42 [.t 6]) 5 false,zo 8 (.pick (.t 5) (.c (.bool true)) (.t 7)),zm 2 8] .ret),[.t 2]⟩
theorem MR:cN Tryd.prog 47=some c47:=by kernel_rfl
def c48:cw:=⟨5,zq [zo 2 (.mv (.c (.str [])))] (zq [zm 3 0,zx 4 64 [.t 3],zm 2 4] .ret),[.t 2]⟩
theorem MQ:cN Tryd.prog 48=some c48:=by kernel_rfl
def JG:cw:=⟨11,zq [zo 2 (.mv (.c (.bool false)))] (.seq (zq [zm 3 0] (.block 0 (zr [zo 5 (.bin .eql (.t 3) (.c (.str [108,101,116]))),zm 4 5] 4 .skip (zq [zo 6 (.bin .eql (.t 3) (.c (.str [115,101,116]))),zm 4 6] (.cond (.t 4) .skip (zq [zo 7 (.bin .eql (.t 3) (.c (.str [105,102]))),zm 4 7] (.cond (.t 4) .skip (zq [zo 8 (.bin .eql (.t 3) (.c (.str [101,108,115,101]))),zm 4 8] (.cond (.t 4) .skip (zq [zo 9 (.bin .eql (.t 3) (.c (.str [119,104,105,108,101]))),zm 4 9] (.cond (.t 4) .skip (.reg [zo 10 (.bin .eql (.t 3) (.c (.str [114,101,116,117,114,110]))),zm 4 10]))))))))) (.cond (.t 4) (zq [zo 2 (.mv (.c (.bool true)))] .ret) .skip)))) (zq [zo 2 (.mv (.c (.bool false)))] .ret)),[.t 2]⟩
theorem MP:cN Tryd.prog 49=some JG:=by kernel_rfl
def c50:cw:=⟨26,zq [zo 4 (.mv (.c (.str [])))] (zq [zm 8 0,zm 9 1,zo 10 (.slStr (.t 8) (some (.t 9)) none),zm 5 10] (.seq (zq [zo 11 (.build [.str [],.str [],.str [],.str [],.str [],.str []] [(0,1,.c (.str [38,38])),(1,1,.c (.str [124,124])),(2,1,.c (.str [61,61])),(3,1,.c (.str [33,61])),(4,1,.c (.str [60,61])),(5,1,.c (.str [62,61]))]),zo 12 (.mv (zi 0))] (.block 0 (.loop (zq [zk 13 .lss 12 6] (.seq (.cond (.t 13) .skip (.exit 0)) (.seq (.block 1 (zq [zo 14 (.idx 6 1 false (.t 11) (.t 12)),zm 7 14] (zq [zm 15 5,zm 16 7,zx 17 65 [.t 15,.t 16]] (.cond (.t 17) (zq [zm 18 7,zm 4 18] .ret) .skip)))) (.reg [zk 19 .add 12 1,zm 12 19]))))))) (zr [zm 20 5,zo 21 (.idxS (.t 20) (zi 0)),zx 22 66 [.c (.str [60,62,43,45,42,47,33,40,41,123,125,44,59,61]),.t 21],zk 23 .geq 22 0] 23 (zq [zm 24 5,zo 25 (.slStr (.t 24) none (some (zi 1))),zm 4 25] .ret) .skip (zq [zo 4 (.mv (.c (.str [])))] .ret)))),[.t 4]⟩
theorem MO:cN Tryd.prog 50=some c50:=by kernel_rfl
def c65:cw:=⟨8,zq [zo 4 (.mv (.c (.bool false)))] (zq [zm 5 0,zm 6 1,zx 7 71 [.t 5,.t 6],zm 4 7] .ret),[.t 4]⟩
theorem MC:cN Tryd.prog 65=some c65:=by kernel_rfl
def NH:cw:=⟨18,zq [zo 4 (.mv (.c (.bool false)))] (zq [zm 5 0,zo 6 (.len true (.t 5)),zm 7 1,zo 8 (.len true (.t 7)),zb 9 .geq 6 8,zm 10 9,zg 11 (.mv (.t 0)) 10 true,zg 12 (.mv (.t 1)) 10 true,zg 13 (.len true (.t 12)) 10 true,zg 14 (.slStr (.t 11) none (some (.t 13))) 10 true,zg 15 (.mv (.t 1)) 10 true,zg 16 (.bin .eql (.t 14) (.t 15)) 10 true,zo 17 (.pick (.t 10) (.t 16) (.c (.bool false))),zm 4 17] .ret),[.t 4]⟩
theorem Mw:cN Tryd.prog 71=some NH:=by kernel_rfl
def c66:cw:=⟨8,zq [zo 4 (.mv (zi 0))] (zq [zm 5 0,zm 6 1,zx 7 72 [.t 5,.t 6],zm 4 7] .ret),[.t 4]⟩
theorem MB:cN Tryd.prog 66=some c66:=by kernel_rfl
def IE:cw:=⟨44,zq [zo 2 (.mv (.c (.str [])))] (zq [zm 6 0,zv 7 .u64 6,zm 3 7] (zq [zo 8 (.mkSlice 1 [zU 0] (zi 0) (zi 48)),zm 4 8] (zr [zm 9 0,zk 10 .lss 9 0] 10 (zq [zm 11 3,zo 12 (.un .neg (.t 11)),zm 3 12] (.reg [zm 13 4,zo 14 (.buildSl 1 [zU 0] [(0,1,zu 45)]),zy 15 13 14,zm 4 15])) .skip (zq [zm 16 4,zm 17 3,zo 18 (.bin .shr (.t 17) (.c (.int .u64 (.ofNat 32)))),zx 19 68 [.t 16,.t 18,zi 10],zm 4 19] (zq [zm 20 3,zo 21 (.bin .and (.t 20) (.c (.int .u64 (.ofNat 4294967295)))),zm 5 21] (zr [zm 22 5,zo 23 (.bin .eql (.t 22) (.c (.int .u64 (.ofNat 0))))] 23 (zq [zm 24 4,zo 25 (.convBS (.t 24)),zm 2 25] .ret) .skip (zq [zm 26 4,zo 27 (.buildSl 1 [zU 0] [(0,1,zu 46)]),zy 28 26 27,zm 4 28] (.seq (.block 0 (.loop (zr [zm 29 5,zo 30 (.bin .neq (.t 29) (.c (.int .u64 (.ofNat 0))))] 30 .skip (.exit 0) (.block 1 (zq [zm 31 5,zo 32 (.bin .mul (.t 31) (.c (.int .u64 (.ofNat 10)))),zm 5 32] (zq [zm 33 4,zm 34 5,zo 35 (.bin .shr (.t 34) (.c (.int .u64 (.ofNat 32)))),zv 36 .u8 35,zo 37 (.bin .add (zu 48) (.t 36)),zo 38 (.buildSl 1 [zU 0] [(0,1,.t 37)]),zy 39 33 38,zm 4 39] (.reg [zm 40 5,zo 41 (.bin .and (.t 40) (.c (.int .u64 (.ofNat 4294967295)))),zm 5 41]))))))) (zq [zm 42 4,zo 43 (.convBS (.t 42)),zm 2 43] .ret))))))))),[.t 2]⟩
theorem MK:cN Tryd.prog 54=some IE:=by kernel_rfl
def c68:cw:=⟨11,zq [zo 6 (.mv zn)] (zq [zm 7 0,zm 8 1,zm 9 2,zx 10 73 [.t 7,.t 8,.t 9],zm 6 10] .ret),[.t 6]⟩
theorem Mz:cN Tryd.prog 68=some c68:=by kernel_rfl
def NF:cw:=⟨36,zq [zo 6 (.mv zn)] (zr [zm 9 2,zk 10 .eql 9 10] 10 (zr [zm 11 1,zo 12 (.bin .lss (.t 11) (.c (.int .u64 (.ofNat 100))))] 12 (zq [zm 13 0,zm 14 1,zv 15 .i64 14,zx 16 78 [.t 15],zy 17 13 16,zm 6 17] .ret) .skip (zq [zo 7 (.new [zU 0,zU 0,zU 0,zU 0,zU 0,zU 0,zU 0,zU 0,zU 0,zU 0,zU 0,zU 0,zU 0,zU 0,zU 0,zU 0,zU 0,zU 0,zU 0,zU 0,zU 0,zU 0,zU 0,zU 0])] (zq [zm 18 1,zx 19 79 [.t 18],zm 8 19] (zq [zm 20 8,zo 21 (.slA 24 1 (.t 7) none (some (.t 20)) none),zm 22 1,zx 23 80 [.t 21,.t 22]] (zq [zm 24 0,zm 25 8,zo 26 (.slA 24 1 (.t 7) none (some (.t 25)) none),zy 27 24 26,zm 6 27] .ret))))) .skip (zq [zm 29 0,zm 30 1,zm 31 2,zx 32 81 [.t 29,.t 30,.t 31,.c (.bool false),.c (.bool true)],zm 28 32,ze 33 0 28,ze 34 1 28,zm 0 33] (zq [zm 35 0,zm 6 35] .ret))),[.t 6]⟩
theorem Mv:cN Tryd.prog 73=some NF:=by kernel_rfl
def c78:cw:=⟨15,zq [zo 2 (.mv (.c (.str [])))] (zr [zm 3 0,zk 4 .lss 3 10] 4 (zq [zm 5 0,zm 6 0,zk 7 .add 6 1,zo 8 (.slStr (.c (.str [48,49,50,51,52,53,54,55,56,57,97,98,99,100,101,102,103,104,105,106,107,108,109,110,111,112,113,114,115,116,117,118,119,120,121,122])) (some (.t 5)) (some (.t 7))),zm 2 8] .ret) .skip (zq [zm 9 0,zk 10 .mul 9 2,zm 11 0,zk 12 .mul 11 2,zk 13 .add 12 2,zo 14 (.slStr (.c (.str [48,48,48,49,48,50,48,51,48,52,48,53,48,54,48,55,48,56,48,57,49,48,49,49,49,50,49,51,49,52,49,53,49,54,49,55,49,56,49,57,50,48,50,49,50,50,50,51,50,52,50,53,50,54,50,55,50,56,50,57,51,48,51,49,51,50,51,51,51,52,51,53,51,54,51,55,51,56,51,57,52,48,52,49,52,50,52,51,52,52,52,53,52,54,52,55,52,56,52,57,53,48,53,49,53,50,53,51,53,52,53,53,53,54,53,55,53,56,53,57,54,48,54,49,54,50,54,51,54,52,54,53,54,54,54,55,54,56,54,57,55,48,55,49,55,50,55,51,55,52,55,53,55,54,55,55,55,56,55,57,56,48,56,49,56,50,56,51,56,52,56,53,56,54,56,55,56,56,56,57,57,48,57,49,57,50,57,51,57,52,57,53,57,54,57,55,57,56,57,57])) (some (.t 10)) (some (.t 13))),zm 2 14] .ret)),[.t 2]⟩
theorem Mu:cN Tryd.prog 78=some c78:=by kernel_rfl
def c79:cw:=⟨15,zq [zo 2 (.mv (zi 0))] (zq [zm 4 0,zx 5 84 [.t 4],zx 6 83 [.t 5],zm 3 6] (zq [zm 7 3,zm 8 0,zm 9 3,zo 10 (.hf (.gIdx 1 20 1) [.t 9]),zl 11 10,zb 12 .geq 8 11,zx 13 85 [.t 12],zb 14 .add 7 13,zm 2 14] .ret)),[.t 2]⟩
theorem Mt:cN Tryd.prog 79=some c79:=by kernel_rfl
def c84:cw:=⟨25,zq [zo 2 (.mv (zi 0))] (zr [zm 3 0,zo 4 (.bin .geq (.t 3) (.c (.int .u64 (.ofNat 4294967296))))] 4 (zq [zm 5 0,zo 6 (.bin .shr (.t 5) (.c (.int .u64 (.ofNat 32)))),zm 0 6] (.reg [zo 2 (.mv (zi 32))])) .skip (zr [zm 7 0,zo 8 (.bin .geq (.t 7) (.c (.int .u64 (.ofNat 65536))))] 8 (zq [zm 9 0,zo 10 (.bin .shr (.t 9) (.c (.int .u64 (.ofNat 16)))),zm 0 10] (.reg [zm 11 2,zk 12 .add 11 16,zm 2 12])) .skip (zr [zm 13 0,zo 14 (.bin .geq (.t 13) (.c (.int .u64 (.ofNat 256))))] 14 (zq [zm 15 0,zo 16 (.bin .shr (.t 15) (.c (.int .u64 (.ofNat 8)))),zm 0 16] (.reg [zm 17 2,zk 18 .add 17 8,zm 2 18])) .skip (zq [zm 19 2,zm 20 0,zv 21 .u8 20,zo 22 (.idxS (.c (.str [0,1,2,2,3,3,3,3,4,4,4,4,4,4,4,4,5,5,5,5,5,5,5,5,5,5,5,5,5,5,5,5,6,6,6,6,6,6,6,6,6,6,6,6,6,6,6,6,6,6,6,6,6,6,6,6,6,6,6,6,6,6,6,6,7,7,7,7,7,7,7,7,7,7,7,7,7,7,7,7,7,7,7,7,7,7,7,7,7,7,7,7,7,7,7,7,7,7,7,7,7,7,7,7,7,7,7,7,7,7,7,7,7,7,7,7,7,7,7,7,7,7,7,7,7,7,7,7,8,8,8,8,8,8,8,8,8,8,8,8,8,8,8,8,8,8,8,8,8,8,8,8,8,8,8,8,8,8,8,8,8,8,8,8,8,8,8,8,8,8,8,8,8,8,8,8,8,8,8,8,8,8,8,8,8,8,8,8,8,8,8,8,8,8,8,8,8,8,8,8,8,8,8,8,8,8,8,8,8,8,8,8,8,8,8,8,8,8,8,8,8,8,8,8,8,8,8,8,8,8,8,8,8,8,8,8,8,8,8,8,8,8,8,8,8,8,8,8,8,8,8,8,8,8,8,8])) (.t 21)),zv 23 .i64 22,zb 24 .add 19 23,zm 2 24] .ret)))),[.t 2]⟩
theorem Mq:cN Tryd.prog 84=some c84:=by kernel_rfl
def c83:cw:=⟨6,zq [zo 2 (.mv (zi 0))] (zq [zm 3 0,zk 4 .mul 3 78913,zo 5 (.bin .shr (.t 4) (.c (.int .u64 (.ofNat 18)))),zm 2 5] .ret),[.t 2]⟩
theorem Mr:cN Tryd.prog 83=some c83:=by kernel_rfl
def NE:cw:=⟨4,zq [zo 2 (.mv (zi 0))] (zr [zm 3 0] 3 (zq [zo 2 (.mv (zi 1))] .ret) .skip (zq [zo 2 (.mv (zi 0))] .ret)),[.t 2]⟩
theorem Mp:cN Tryd.prog 85=some NE:=by kernel_rfl
def KM:cw:=⟨167,zq [zm 17 0,zh 18 17,zm 4 18] (.seq (.block 0 (.loop (zr [zm 19 4,zk 20 .geq 19 8] 20 .skip (.exit 0) (.block 1 (zq [zm 21 1,zo 22 (.bin .rem (.t 21) (.c (.int .u64 (.ofNat 100000000)))),zv 23 .u32 22,zm 5 23] (zq [zm 24 1,zo 25 (.bin .quo (.t 24) (.c (.int .u64 (.ofNat 100000000)))),zm 1 25] (zq [zm 26 5,zo 27 (.bin .quo (.t 26) (.c (.int .u32 (.ofNat 10000)))),zm 28 5,zo 29 (.bin .rem (.t 28) (.c (.int .u32 (.ofNat 10000)))),zm 6 27,zm 7 29] (zq [zm 30 7,zo 31 (.bin .quo (.t 30) (.c (.int .u32 (.ofNat 100)))),zo 32 (.bin .mul (.t 31) (.c (.int .u32 (.ofNat 2)))),zm 33 7,zo 34 (.bin .rem (.t 33) (.c (.int .u32 (.ofNat 100)))),zo 35 (.bin .mul (.t 34) (.c (.int .u32 (.ofNat 2)))),zm 8 32,zm 9 35] (zq [zm 36 6,zo 37 (.bin .quo (.t 36) (.c (.int .u32 (.ofNat 100)))),zo 38 (.bin .mul (.t 37) (.c (.int .u32 (.ofNat 2)))),zm 39 6,zo 40 (.bin .rem (.t 39) (.c (.int .u32 (.ofNat 100)))),zo 41 (.bin .mul (.t 40) (.c (.int .u32 (.ofNat 2)))),zm 10 38,zm 11 41] (zq [zm 42 0,zm 43 4,zk 44 .sub 43 1,zm 45 0,zm 46 4,zk 47 .sub 46 2,zm 48 9,zo 49 (.bin .add (.t 48) (.c (.int .u32 (.ofNat 1)))),zo 50 (.idxS (.c (.str [48,48,48,49,48,50,48,51,48,52,48,53,48,54,48,55,48,56,48,57,49,48,49,49,49,50,49,51,49,52,49,53,49,54,49,55,49,56,49,57,50,48,50,49,50,50,50,51,50,52,50,53,50,54,50,55,50,56,50,57,51,48,51,49,51,50,51,51,51,52,51,53,51,54,51,55,51,56,51,57,52,48,52,49,52,50,52,51,52,52,52,53,52,54,52,55,52,56,52,57,53,48,53,49,53,50,53,51,53,52,53,53,53,54,53,55,53,56,53,57,54,48,54,49,54,50,54,51,54,52,54,53,54,54,54,55,54,56,54,57,55,48,55,49,55,50,55,51,55,52,55,53,55,54,55,55,55,56,55,57,56,48,56,49,56,50,56,51,56,52,56,53,56,54,56,55,56,56,56,57,57,48,57,49,57,50,57,51,57,52,57,53,57,54,57,55,57,56,57,57])) (.t 49)),zm 51 9,zo 52 (.idxS (.c (.str [48,48,48,49,48,50,48,51,48,52,48,53,48,54,48,55,48,56,48,57,49,48,49,49,49,50,49,51,49,52,49,53,49,54,49,55,49,56,49,57,50,48,50,49,50,50,50,51,50,52,50,53,50,54,50,55,50,56,50,57,51,48,51,49,51,50,51,51,51,52,51,53,51,54,51,55,51,56,51,57,52,48,52,49,52,50,52,51,52,52,52,53,52,54,52,55,52,56,52,57,53,48,53,49,53,50,53,51,53,52,53,53,53,54,53,55,53,56,53,57,54,48,54,49,54,50,54,51,54,52,54,53,54,54,54,55,54,56,54,57,55,48,55,49,55,50,55,51,55,52,55,53,55,54,55,55,55,56,55,57,56,48,56,49,56,50,56,51,56,52,56,53,56,54,56,55,56,56,56,57,57,48,57,49,57,50,57,51,57,52,57,53,57,54,57,55,57,56,57,57])) (.t 51)),zd 53 42 44,zs 53 50,zd 54 45 47,zs 54 52] (zq [zm 55 0,zm 56 4,zk 57 .sub 56 3,zm 58 0,zm 59 4,zk 60 .sub 59 4,zm 61 8,zo 62 (.bin .add (.t 61) (.c (.int .u32 (.ofNat 1)))),zo 63 (.idxS (.c (.str [48,48,48,49,48,50,48,51,48,52,48,53,48,54,48,55,48,56,48,57,49,48,49,49,49,50,49,51,49,52,49,53,49,54,49,55,49,56,49,57,50,48,50,49,50,50,50,51,50,52,50,53,50,54,50,55,50,56,50,57,51,48,51,49,51,50,51,51,51,52,51,53,51,54,51,55,51,56,51,57,52,48,52,49,52,50,52,51,52,52,52,53,52,54,52,55,52,56,52,57,53,48,53,49,53,50,53,51,53,52,53,53,53,54,53,55,53,56,53,57,54,48,54,49,54,50,54,51,54,52,54,53,54,54,54,55,54,56,54,57,55,48,55,49,55,50,55,51,55,52,55,53,55,54,55,55,55,56,55,57,56,48,56,49,56,50,56,51,56,52,56,53,56,54,56,55,56,56,56,57,57,48,57,49,57,50,57,51,57,52,57,53,57,54,57,55,57,56,57,57])) (.t 62)),zm 64 8,zo 65 (.idxS (.c (.str [48,48,48,49,48,50,48,51,48,52,48,53,48,54,48,55,48,56,48,57,49,48,49,49,49,50,49,51,49,52,49,53,49,54,49,55,49,56,49,57,50,48,50,49,50,50,50,51,50,52,50,53,50,54,50,55,50,56,50,57,51,48,51,49,51,50,51,51,51,52,51,53,51,54,51,55,51,56,51,57,52,48,52,49,52,50,52,51,52,52,52,53,52,54,52,55,52,56,52,57,53,48,53,49,53,50,53,51,53,52,53,53,53,54,53,55,53,56,53,57,54,48,54,49,54,50,54,51,54,52,54,53,54,54,54,55,54,56,54,57,55,48,55,49,55,50,55,51,55,52,55,53,55,54,55,55,55,56,55,57,56,48,56,49,56,50,56,51,56,52,56,53,56,54,56,55,56,56,56,57,57,48,57,49,57,50,57,51,57,52,57,53,57,54,57,55,57,56,57,57])) (.t 64)),zd 66 55 57,zs 66 63,zd 67 58 60,zs 67 65] (zq [zm 68 0,zm 69 4,zk 70 .sub 69 5,zm 71 0,zm 72 4,zk 73 .sub 72 6,zm 74 11,zo 75 (.bin .add (.t 74) (.c (.int .u32 (.ofNat 1)))),zo 76 (.idxS (.c (.str [48,48,48,49,48,50,48,51,48,52,48,53,48,54,48,55,48,56,48,57,49,48,49,49,49,50,49,51,49,52,49,53,49,54,49,55,49,56,49,57,50,48,50,49,50,50,50,51,50,52,50,53,50,54,50,55,50,56,50,57,51,48,51,49,51,50,51,51,51,52,51,53,51,54,51,55,51,56,51,57,52,48,52,49,52,50,52,51,52,52,52,53,52,54,52,55,52,56,52,57,53,48,53,49,53,50,53,51,53,52,53,53,53,54,53,55,53,56,53,57,54,48,54,49,54,50,54,51,54,52,54,53,54,54,54,55,54,56,54,57,55,48,55,49,55,50,55,51,55,52,55,53,55,54,55,55,55,56,55,57,56,48,56,49,56,50,56,51,56,52,56,53,56,54,56,55,56,56,56,57,57,48,57,49,57,50,57,51,57,52,57,53,57,54,57,55,57,56,57,57])) (.t 75)),zm 77 11,zo 78 (.idxS (.c (.str [48,48,48,49,48,50,48,51,48,52,48,53,48,54,48,55,48,56,48,57,49,48,49,49,49,50,49,51,49,52,49,53,49,54,49,55,49,56,49,57,50,48,50,49,50,50,50,51,50,52,50,53,50,54,50,55,50,56,50,57,51,48,51,49,51,50,51,51,51,52,51,53,51,54,51,55,51,56,51,57,52,48,52,49,52,50,52,51,52,52,52,53,52,54,52,55,52,56,52,57,53,48,53,49,53,50,53,51,53,52,53,53,53,54,53,55,53,56,53,57,54,48,54,49,54,50,54,51,54,52,54,53,54,54,54,55,54,56,54,57,55,48,55,49,55,50,55,51,55,52,55,53,55,54,55,55,55,56,55,57,56,48,56,49,56,50,56,51,56,52,56,53,56,54,56,55,56,56,56,57,57,48,57,49,57,50,57,51,57,52,57,53,57,54,57,55,57,56,57,57])) (.t 77)),zd 79 68 70,zs 79 76,zd 80 71 73,zs 80 78] (zq [zm 81 0,zm 82 4,zk 83 .sub 82 7,zm 84 0,zm 85 4,zk 86 .sub 85 8,zm 87 10,zo 88 (.bin .add (.t 87) (.c (.int .u32 (.ofNat 1)))),zo 89 (.idxS (.c (.str [48,48,48,49,48,50,48,51,48,52,48,53,48,54,48,55,48,56,48,57,49,48,49,49,49,50,49,51,49,52,49,53,49,54,49,55,49,56,49,57,50,48,50,49,50,50,50,51,50,52,50,53,50,54,50,55,50,56,50,57,51,48,51,49,51,50,51,51,51,52,51,53,51,54,51,55,51,56,51,57,52,48,52,49,52,50,52,51,52,52,52,53,52,54,52,55,52,56,52,57,53,48,53,49,53,50,53,51,53,52,53,53,53,54,53,55,53,56,53,57,54,48,54,49,54,50,54,51,54,52,54,53,54,54,54,55,54,56,54,57,55,48,55,49,55,50,55,51,55,52,55,53,55,54,55,55,55,56,55,57,56,48,56,49,56,50,56,51,56,52,56,53,56,54,56,55,56,56,56,57,57,48,57,49,57,50,57,51,57,52,57,53,57,54,57,55,57,56,57,57])) (.t 88)),zm 90 10,zo 91 (.idxS (.c (.str [48,48,48,49,48,50,48,51,48,52,48,53,48,54,48,55,48,56,48,57,49,48,49,49,49,50,49,51,49,52,49,53,49,54,49,55,49,56,49,57,50,48,50,49,50,50,50,51,50,52,50,53,50,54,50,55,50,56,50,57,51,48,51,49,51,50,51,51,51,52,51,53,51,54,51,55,51,56,51,57,52,48,52,49,52,50,52,51,52,52,52,53,52,54,52,55,52,56,52,57,53,48,53,49,53,50,53,51,53,52,53,53,53,54,53,55,53,56,53,57,54,48,54,49,54,50,54,51,54,52,54,53,54,54,54,55,54,56,54,57,55,48,55,49,55,50,55,51,55,52,55,53,55,54,55,55,55,56,55,57,56,48,56,49,56,50,56,51,56,52,56,53,56,54,56,55,56,56,56,57,57,48,57,49,57,50,57,51,57,52,57,53,57,54,57,55,57,56,57,57])) (.t 90)),zd 92 81 83,zs 92 89,zd 93 84 86,zs 93 91] (.reg [zm 94 4,zk 95 .sub 94 8,zm 4 95])))))))))))))) (zq [zm 96 1,zv 97 .u32 96,zm 12 97] (zr [zm 98 4,zk 99 .geq 98 4] 99 (zq [zm 100 12,zo 101 (.bin .rem (.t 100) (.c (.int .u32 (.ofNat 10000)))),zm 13 101] (zq [zm 102 12,zo 103 (.bin .quo (.t 102) (.c (.int .u32 (.ofNat 10000)))),zm 12 103] (zq [zm 104 13,zo 105 (.bin .quo (.t 104) (.c (.int .u32 (.ofNat 100)))),zo 106 (.bin .mul (.t 105) (.c (.int .u32 (.ofNat 2)))),zm 107 13,zo 108 (.bin .rem (.t 107) (.c (.int .u32 (.ofNat 100)))),zo 109 (.bin .mul (.t 108) (.c (.int .u32 (.ofNat 2)))),zm 14 106,zm 15 109] (zq [zm 110 0,zm 111 4,zk 112 .sub 111 1,zm 113 0,zm 114 4,zk 115 .sub 114 2,zm 116 15,zo 117 (.bin .add (.t 116) (.c (.int .u32 (.ofNat 1)))),zo 118 (.idxS (.c (.str [48,48,48,49,48,50,48,51,48,52,48,53,48,54,48,55,48,56,48,57,49,48,49,49,49,50,49,51,49,52,49,53,49,54,49,55,49,56,49,57,50,48,50,49,50,50,50,51,50,52,50,53,50,54,50,55,50,56,50,57,51,48,51,49,51,50,51,51,51,52,51,53,51,54,51,55,51,56,51,57,52,48,52,49,52,50,52,51,52,52,52,53,52,54,52,55,52,56,52,57,53,48,53,49,53,50,53,51,53,52,53,53,53,54,53,55,53,56,53,57,54,48,54,49,54,50,54,51,54,52,54,53,54,54,54,55,54,56,54,57,55,48,55,49,55,50,55,51,55,52,55,53,55,54,55,55,55,56,55,57,56,48,56,49,56,50,56,51,56,52,56,53,56,54,56,55,56,56,56,57,57,48,57,49,57,50,57,51,57,52,57,53,57,54,57,55,57,56,57,57])) (.t 117)),zm 119 15,zo 120 (.idxS (.c (.str [48,48,48,49,48,50,48,51,48,52,48,53,48,54,48,55,48,56,48,57,49,48,49,49,49,50,49,51,49,52,49,53,49,54,49,55,49,56,49,57,50,48,50,49,50,50,50,51,50,52,50,53,50,54,50,55,50,56,50,57,51,48,51,49,51,50,51,51,51,52,51,53,51,54,51,55,51,56,51,57,52,48,52,49,52,50,52,51,52,52,52,53,52,54,52,55,52,56,52,57,53,48,53,49,53,50,53,51,53,52,53,53,53,54,53,55,53,56,53,57,54,48,54,49,54,50,54,51,54,52,54,53,54,54,54,55,54,56,54,57,55,48,55,49,55,50,55,51,55,52,55,53,55,54,55,55,55,56,55,57,56,48,56,49,56,50,56,51,56,52,56,53,56,54,56,55,56,56,56,57,57,48,57,49,57,50,57,51,57,52,57,53,57,54,57,55,57,56,57,57])) (.t 119)),zd 121 110 112,zs 121 118,zd 122 113 115,zs 122 120] (zq [zm 123 0,zm 124 4,zk 125 .sub 124 3,zm 126 0,zm 127 4,zk 128 .sub 127 4,zm 129 14,zo 130 (.bin .add (.t 129) (.c (.int .u32 (.ofNat 1)))),zo 131 (.idxS (.c (.str [48,48,48,49,48,50,48,51,48,52,48,53,48,54,48,55,48,56,48,57,49,48,49,49,49,50,49,51,49,52,49,53,49,54,49,55,49,56,49,57,50,48,50,49,50,50,50,51,50,52,50,53,50,54,50,55,50,56,50,57,51,48,51,49,51,50,51,51,51,52,51,53,51,54,51,55,51,56,51,57,52,48,52,49,52,50,52,51,52,52,52,53,52,54,52,55,52,56,52,57,53,48,53,49,53,50,53,51,53,52,53,53,53,54,53,55,53,56,53,57,54,48,54,49,54,50,54,51,54,52,54,53,54,54,54,55,54,56,54,57,55,48,55,49,55,50,55,51,55,52,55,53,55,54,55,55,55,56,55,57,56,48,56,49,56,50,56,51,56,52,56,53,56,54,56,55,56,56,56,57,57,48,57,49,57,50,57,51,57,52,57,53,57,54,57,55,57,56,57,57])) (.t 130)),zm 132 14,zo 133 (.idxS (.c (.str [48,48,48,49,48,50,48,51,48,52,48,53,48,54,48,55,48,56,48,57,49,48,49,49,49,50,49,51,49,52,49,53,49,54,49,55,49,56,49,57,50,48,50,49,50,50,50,51,50,52,50,53,50,54,50,55,50,56,50,57,51,48,51,49,51,50,51,51,51,52,51,53,51,54,51,55,51,56,51,57,52,48,52,49,52,50,52,51,52,52,52,53,52,54,52,55,52,56,52,57,53,48,53,49,53,50,53,51,53,52,53,53,53,54,53,55,53,56,53,57,54,48,54,49,54,50,54,51,54,52,54,53,54,54,54,55,54,56,54,57,55,48,55,49,55,50,55,51,55,52,55,53,55,54,55,55,55,56,55,57,56,48,56,49,56,50,56,51,56,52,56,53,56,54,56,55,56,56,56,57,57,48,57,49,57,50,57,51,57,52,57,53,57,54,57,55,57,56,57,57])) (.t 132)),zd 134 123 125,zs 134 131,zd 135 126 128,zs 135 133] (.reg [zm 136 4,zk 137 .sub 136 4,zm 4 137])))))) .skip (zr [zm 138 4,zk 139 .geq 138 2] 139 (zq [zm 140 12,zo 141 (.bin .rem (.t 140) (.c (.int .u32 (.ofNat 100)))),zo 142 (.bin .mul (.t 141) (.c (.int .u32 (.ofNat 2)))),zm 16 142] (zq [zm 143 12,zo 144 (.bin .quo (.t 143) (.c (.int .u32 (.ofNat 100)))),zm 12 144] (zq [zm 145 0,zm 146 4,zk 147 .sub 146 1,zm 148 0,zm 149 4,zk 150 .sub 149 2,zm 151 16,zo 152 (.bin .add (.t 151) (.c (.int .u32 (.ofNat 1)))),zo 153 (.idxS (.c (.str [48,48,48,49,48,50,48,51,48,52,48,53,48,54,48,55,48,56,48,57,49,48,49,49,49,50,49,51,49,52,49,53,49,54,49,55,49,56,49,57,50,48,50,49,50,50,50,51,50,52,50,53,50,54,50,55,50,56,50,57,51,48,51,49,51,50,51,51,51,52,51,53,51,54,51,55,51,56,51,57,52,48,52,49,52,50,52,51,52,52,52,53,52,54,52,55,52,56,52,57,53,48,53,49,53,50,53,51,53,52,53,53,53,54,53,55,53,56,53,57,54,48,54,49,54,50,54,51,54,52,54,53,54,54,54,55,54,56,54,57,55,48,55,49,55,50,55,51,55,52,55,53,55,54,55,55,55,56,55,57,56,48,56,49,56,50,56,51,56,52,56,53,56,54,56,55,56,56,56,57,57,48,57,49,57,50,57,51,57,52,57,53,57,54,57,55,57,56,57,57])) (.t 152)),zm 154 16,zo 155 (.idxS (.c (.str [48,48,48,49,48,50,48,51,48,52,48,53,48,54,48,55,48,56,48,57,49,48,49,49,49,50,49,51,49,52,49,53,49,54,49,55,49,56,49,57,50,48,50,49,50,50,50,51,50,52,50,53,50,54,50,55,50,56,50,57,51,48,51,49,51,50,51,51,51,52,51,53,51,54,51,55,51,56,51,57,52,48,52,49,52,50,52,51,52,52,52,53,52,54,52,55,52,56,52,57,53,48,53,49,53,50,53,51,53,52,53,53,53,54,53,55,53,56,53,57,54,48,54,49,54,50,54,51,54,52,54,53,54,54,54,55,54,56,54,57,55,48,55,49,55,50,55,51,55,52,55,53,55,54,55,55,55,56,55,57,56,48,56,49,56,50,56,51,56,52,56,53,56,54,56,55,56,56,56,57,57,48,57,49,57,50,57,51,57,52,57,53,57,54,57,55,57,56,57,57])) (.t 154)),zd 156 145 147,zs 156 153,zd 157 148 150,zs 157 155] (.reg [zm 158 4,zk 159 .sub 158 2,zm 4 159])))) .skip (zq [zm 160 4,zk 161 .gtr 160 0] (.cond (.t 161) (.reg [zm 162 0,zm 163 12,zo 164 (.bin .add (.c (.int .u32 (.ofNat 48))) (.t 163)),zv 165 .u8 164,zo 166 (.idxA 1 (.t 162) (zi 0)),zs 166 165]) .skip)))))),[]⟩
theorem Ms:cN Tryd.prog 80=some KM:=by kernel_rfl
end
end Go.Proofs.Wo
namespace Go.Proofs.Wo
open Go.Abs Go.Abs.S Go.Proofs
def mdT:Nat->Option BX:=fun f=>bif Nat.beq f 13 then some ⟨[],some (23,1,false)⟩ else bif Nat.beq f 15 then some ⟨[],some (26,1,false)⟩ else none
def rQ(H:ab):List aa->Option (aa×ab)
 | [.str s]=>bif Nat.ble s.length 281474976710656 then some (.str s,H) else none
 | _=>none
def nat:fq:=⟨fun f=>Nat.beq f 64,fun f args H=>bif Nat.beq f 64 then rQ H args else none,fun _=>none⟩
abbrev aB:fq:=LJ nat mdT
open Go.Abs Go.Abs.S
abbrev Bs:=List UInt8
def dig(b:UInt8):Bool:=decide (48<=b.toNat)&&decide (b.toNat<=57)
def beg(b:UInt8):Bool:=((decide (97<=b.toNat)&&decide (b.toNat<=122))||(decide (65<=b.toNat)&&decide (b.toNat<=90)))||decide (b.toNat=95)
def iM(b:UInt8):Bool:=beg b||dig b
def blk(b:UInt8):Bool:=((decide (b.toNat=9)||decide (b.toNat=10))||decide (b.toNat=13))||decide (b.toNat=32)
def wI(b:UInt8):Bool:=!decide (b.toNat=10)
def bg(p:UInt8->Bool)(s:Bs)(at_:Nat):Nat:=at_+((s.drop at_).takeWhile p).length
theorem dn{s:Bs}{i:Nat}{c:UInt8}(h:s[i]?=some c):s.drop i=c::s.drop (i+1):=by
 have hlt:=(N2.1 h).1
 rw[List.drop_eq_getElem_cons hlt]
 congr 1
 rw[N1 hlt]at h
 simpa using h
theorem kQ{p:UInt8->Bool}{s:Bs}{i:Nat}{c:UInt8}(h:s[i]?=some c)(hp:p c=true):bg p s i=bg p s (i+1):=by
 unfold bg
 rw[dn h,List.takeWhile_cons_of_pos hp,N5]
 omega
theorem AA{p:UInt8->Bool}{s:Bs}{i:Nat}{c:UInt8}(h:s[i]?=some c)(hp:p c=false):bg p s i=i:=by
 unfold bg
 rw[dn h,List.takeWhile_cons_of_neg (by simp[hp])]
 simp
theorem Ei{p:UInt8->Bool}{s:Bs}{i:Nat}(h:s.length<=i):bg p s i=i:=by
 unfold bg
 rw[List.drop_eq_nil_of_le h]
 simp
theorem gu(p:UInt8->Bool)(s:Bs)(i:Nat):i<=bg p s i:=Nat.le_add_right _ _
theorem ie{p:UInt8->Bool}{s:Bs}{i:Nat}(h:i<=s.length):bg p s i<=s.length:=by
 unfold bg
 have:=(List.takeWhile_sublist (p:=p) (l:=s.drop i)).length_le
 simp only[Ok]at this
 omega
theorem AB{p:UInt8->Bool}{s:Bs}{i j:Nat}(h1:i<=j)(h2:j<bg p s i):∃c,s[j]?=some c/\p c=true:=by
 unfold bg at h2
 have hj:j-i<((s.drop i).takeWhile p).length:=om
 have hm:=List.getElem_mem hj
 have hp:=List.all_takeWhile (p:=p) (l:=s.drop i)
 refine⟨((s.drop i).takeWhile p)[j-i],?_,List.all_eq_true.1 hp _ hm⟩
 obtain⟨t,ht⟩:=List.takeWhile_prefix p (l:=s.drop i)
 have:(s.drop i)[j-i]?=some ((s.drop i).takeWhile p)[j-i]:=by
  conv=>lhs; rw[<- ht]
  rw[Og hj,N1 hj]
 rw[List.getElem?_drop,show i+(j-i)=j by omega]at this
 exact this
theorem wh{p:UInt8->Bool}{s:Bs}{i:Nat}{c:UInt8}(h:s[bg p s i]?=some c):p c=false:=by
 unfold bg at h
 rw[<- List.getElem?_drop]at h
 generalize s.drop i=l at h
 induction l with
 | nil=>simp at h
 | cons a l ih=>
  cases ha:p a with
  | true=>
   rw[List.takeWhile_cons_of_pos ha]at h
   simp only[N5,Ob]at h
   exact ih h
  | false=>
   rw[List.takeWhile_cons_of_neg (by simp[ha])]at h
   simp only[N6,Oa,sJ]at h
   rw[<- h]; exact ha
def ep(s:Bs)(i:Nat):Nat:=
 if bg dig s i=i∨s[bg dig s i]?≠some 46 then bg dig s i
 else if bg dig s i+1<bg dig s (bg dig s i+1) then bg dig s (bg dig s i+1) else bg dig s i
theorem HZ(s:Bs)(i:Nat):i<=ep s i:=by
 unfold ep
 have h1:=gu dig s i
 have h2:=gu dig s (bg dig s i+1)
 split
 ·exact h1
 ·split <;> omega
theorem uN{s:Bs}{i:Nat}(h:i<=s.length):ep s i<=s.length:=by
 unfold ep
 have h1:=ie (p:=dig) h
 split
 ·exact h1
 ·rename_i hn
  have hs:s[bg dig s i]?=some 46:=by
   by_cases c:s[bg dig s i]?=some 46
   ·exact c
   ·exact absurd (.inr c) hn
  have hlt:=(N2.1 hs).1
  split
  ·exact ie om
  ·exact h1
mutual
def bl:Bs->Bs
 | []=>[]
 | c::r=>if blk c then bl r else if c.toNat=35 then rm r else c::r
def rm:Bs->Bs
 | []=>[]
 | c::r=>if c.toNat=10 then bl r else rm r
end
def a6(s:Bs)(i:Nat):Nat:=s.length-(bl (s.drop i)).length
mutual
theorem F0:∀l:Bs,(bl l).length<=l.length
 | []=>by simp[bl]
 | c::r=>by
  have h1:=F0 r
  have h2:=Jp r
  simp only[bl]
  split
  ·simp; omega
  ·split
   ·simp; omega
   ·simp
theorem Jp:∀l:Bs,(rm l).length<=l.length
 | []=>by simp[rm]
 | c::r=>by
  have h1:=F0 r
  have h2:=Jp r
  simp only[rm]
  split
  ·simp; omega
  ·simp; omega
end
theorem DW{s:Bs}{i:Nat}(h:i<=s.length):i<=a6 s i:=by
 unfold a6
 have:=F0 (s.drop i)
 simp only[Ok]at this
 omega
theorem qj(s:Bs)(i:Nat):a6 s i<=s.length:=by unfold a6; omega
theorem yj{s:Bs}{i:Nat}{c:UInt8}(h:s[i]?=some c)(hb:blk c=true):a6 s i=a6 s (i+1):=by
 unfold a6
 rw[dn h,bl,if_pos hb]
theorem og{s:Bs}{i:Nat}{c:UInt8}(h:s[i]?=some c)(hb:blk c=false)(hc:c.toNat≠35):a6 s i=i:=by
 have hlt:=(N2.1 h).1
 unfold a6
 rw[dn h,bl,if_neg (by simp[hb]),if_neg hc,<- dn h,Ok]
 omega
theorem vY{s:Bs}{i:Nat}(h:s.length=i):a6 s i=i:=by
 unfold a6
 rw[List.drop_eq_nil_of_le om,bl]
 simp; omega
theorem DV(s:Bs)(i:Nat):a6 s (bg blk s i)=a6 s i:=by
 have key:∀l:Bs,bl (l.drop (l.takeWhile blk).length)=bl l:=by
  intro l
  induction l with
  | nil=>simp
  | cons a l ih=>
   cases ha:blk a with
   | true=>rw[List.takeWhile_cons_of_pos ha,N5,List.drop_succ_cons,ih,bl,if_pos ha]
   | false=>rw[List.takeWhile_cons_of_neg (by simp[ha])]; simp
 unfold a6 bg
 rw[<- List.drop_drop,key]
theorem El:∀l:Bs,rm l=bl (l.drop (l.takeWhile wI).length)
 | []=>by simp[rm,bl]
 | c::r=>by
  by_cases h:c.toNat=10
  ·have hn:wI c=false:=by simp[wI,h]
   have hb:blk c=true:=by simp[blk,h]
   rw[rm,if_pos h,List.takeWhile_cons_of_neg (by simp[hn]),N6,List.drop_zero,bl,if_pos hb]
  ·have hn:wI c=true:=by simp[wI,h]
   rw[rm,if_neg h,List.takeWhile_cons_of_pos hn,N5,List.drop_succ_cons,El r]
theorem vX{s:Bs}{i:Nat}{c:UInt8}(h:s[i]?=some c)(hc:c.toNat=35):a6 s i=a6 s (bg wI s i):=by
 have hb:blk c=false:=by simp[blk,hc]
 have hn:wI c=true:=by simp[wI,hc]
 rw[kQ h hn]
 unfold a6 bg
 rw[dn h,bl,if_neg (by simp[hb]),if_pos hc,El,List.drop_drop]
def bC(s:Bs)(i:Nat):Nat:=1+(s.take i).count 10
def dv(c:UInt8):Nat:=c.toNat-48
def eu(l:Bs):Nat:=l.foldl (fun n c=>n*10+dv c) 0
theorem CM(l:Bs)(n:Nat):l.foldl (fun n c=>n*10+dv c) n=n*10 ^ l.length+eu l:=by
 induction l generalizing n with
 | nil=>simp[eu]
 | cons c l ih=>
  simp only[List.foldl_cons,eu,N5]
  rw[ih,ih (0*10+dv c)]
  rw[Nat.pow_succ]
  have:(n*10+dv c)*10 ^ l.length=n*(10 ^ l.length*10)+(0*10+dv c)*10 ^ l.length:=by
   rw[Nat.add_mul,Nat.zero_mul,Nat.zero_add,Nat.mul_assoc,Nat.mul_comm 10]
  omega
theorem Du(l:Bs)(c:UInt8):eu (l++[c])=eu l*10+dv c:=by simp[eu]
open Go.Abs Go.Abs.S
def db(l:List Nat):Nat:=l.foldl (fun n d=>n*10+d) 0
theorem sM(l:List Nat)(n:Nat):l.foldl (fun n d=>n*10+d) n=n*10 ^ l.length+db l:=by
 induction l generalizing n with
 | nil=>simp[db]
 | cons c l ih=>
  simp only[List.foldl_cons,db,N5]
  rw[ih,ih (0*10+c),Nat.pow_succ]
  have:(n*10+c)*10 ^ l.length=n*(10 ^ l.length*10)+(0*10+c)*10 ^ l.length:=by
   rw[Nat.add_mul,Nat.zero_mul,Nat.zero_add,Nat.mul_assoc,Nat.mul_comm 10]
  omega
theorem kN(d:Nat)(l:List Nat):db (d::l)=d*10 ^ l.length+db l:=by
 have:=sM l (0*10+d)
 simp only[Nat.zero_mul,Nat.zero_add]at this
 rw[<- this]; simp[db]
theorem mN:∀{l:List Nat},(∀d∈l,d<=9)->db l<10 ^ l.length
 | [],_=>by simp[db]
 | d::l,h=>by
  have h1:=h d (by simp)
  have h2:=mN (l:=l) fun x hx=>h x (by simp[hx])
  rw[kN,N5,Nat.pow_succ]
  have:d*10 ^ l.length<=9*10 ^ l.length:=Nat.mul_le_mul_right _ h1
  omega
def kx:List Nat->Nat×List Nat
 | []=>(0,[])
 | d::r=>((d*2+(kx r).1) / 10,(d*2+(kx r).1) % 10::(kx r).2)
theorem pD:∀l:List Nat,(kx l).2.length=l.length
 | []=>rfl
 | d::r=>by simp only[kx,N5,pD r]
theorem qY:∀{l:List Nat},(∀d∈l,d<=9)->(kx l).1<=1
 | [],_=>by simp[kx]
 | d::r,h=>by
  have h1:=h d (by simp)
  have h2:=qY (l:=r) fun x hx=>h x (by simp[hx])
  simp only[kx]; omega
theorem Bm:∀(l:List Nat),∀d∈(kx l).2,d<=9
 | [],d,h=>by simp[kx]at h
 | a::r,d,h=>by
  simp only[kx,List.mem_cons]at h
  rcases h with rfl | h
  ·omega
  ·exact Bm r d h
theorem Bl:∀(l:List Nat),(kx l).1*10 ^ l.length+db (kx l).2=2*db l
 | []=>by simp[kx,db]
 | d::r=>by
  have ih:=Bl r
  simp only[kx,kN,pD,N5,Nat.pow_succ]
  generalize (kx r).1=o at *
  generalize db (kx r).2=v at *
  generalize db r=u at *
  generalize 10 ^ r.length=p at *
  have h1:=Nat.div_add_mod (d*2+o) 10
  have e1:(d*2+o) / 10*(p*10)=10*((d*2+o) / 10)*p:=by rw[Nat.mul_comm p,<- Nat.mul_assoc,Nat.mul_comm _ 10]
  have e2:(10*((d*2+o) / 10)+(d*2+o) % 10)*p=(d*2+o)*p:=by rw[h1]
  have e3:(d*2+o)*p=2*(d*p)+o*p:=by rw[Nat.add_mul,Nat.mul_comm d 2,Nat.mul_assoc]
  rw[Nat.add_mul]at e2
  rw[e1]
  omega
def bits(l:List Nat)(n:Nat):Nat->Nat×List Nat
 | 0=>(n,l)
 | k+1=>(2*(bits l n k).1+(kx (bits l n k).2).1,(kx (bits l n k).2).2)
theorem nL(l:List Nat)(n:Nat):∀k,(bits l n k).2.length=l.length
 | 0=>rfl
 | k+1=>by simp only[bits,pD,nL l n k]
theorem xy{l:List Nat}(h:∀d∈l,d<=9)(n:Nat):∀k,∀d∈(bits l n k).2,d<=9
 | 0=>h
 | k+1=>by simp only[bits]; exact Bm _
theorem rB(l:List Nat)(n:Nat):∀k,(bits l n k).1*10 ^ l.length+db (bits l n k).2=2 ^ k*(n*10 ^ l.length+db l)
 | 0=>by simp[bits]
 | k+1=>by
  have ih:=rB l n k
  have h2:=Bl (bits l n k).2
  rw[nL]at h2
  simp only[bits,Nat.pow_succ]
  rw[Nat.add_mul,Nat.mul_assoc,Nat.mul_right_comm (2 ^ k),<- ih]
  omega
theorem Gb{l:List Nat}(h:∀d∈l,d<=9)(n k:Nat):(bits l n k).1=2 ^ k*(n*10 ^ l.length+db l) / 10 ^ l.length:=by
 have h1:=rB l n k
 have h2:=mN (xy h n k)
 rw[nL]at h2
 rw[<- h1]
 have hp:0<10 ^ l.length:=Nat.pos_of_ne_zero (by simp)
 rw[Nat.mul_comm,Nat.mul_add_div hp,Nat.div_eq_of_lt h2,Nat.add_zero]
def iH(l:List Nat):Nat:=2 ^ 32*db l / 10 ^ l.length
theorem C4{l:List Nat}(h:∀d∈l,d<=9)(n:Nat):(bits l n 32).1=2 ^ 32*n+iH l:=by
 rw[Gb h,iH,Nat.mul_add]
 have hp:0<10 ^ l.length:=Nat.pos_of_ne_zero (by simp)
 rw[<- Nat.mul_assoc,Nat.mul_comm (2 ^ 32*n),Nat.mul_add_div hp]
theorem Bb{l:List Nat}(h:∀d∈l,d<=9):iH l<2 ^ 32:=by
 have:=mN h
 unfold iH
 have hp:0<10 ^ l.length:=Nat.pos_of_ne_zero (by simp)
 exact (Nat.div_lt_iff_lt_mul hp).2 (Nat.mul_lt_mul_of_pos_left this dD)
theorem jS(a b:List Nat):db (a++b)=db a*10 ^ b.length+db b:=by
 have:=sM b (db a)
 rw[<- this]; simp[db]
theorem pU:∀k,db (List.replicate k 0)=0
 | 0=>rfl
 | k+1=>by rw[List.replicate_succ,kN,pU k]; simp
theorem Fu(l:List Nat)(k:Nat):iH (l++List.replicate k 0)=iH l:=by
 unfold iH
 rw[jS,pU,lA,List.length_replicate,Nat.add_zero,Nat.pow_add,<- Nat.mul_assoc]
 exact Nat.mul_div_mul_right _ _ (Nat.pos_of_ne_zero (by simp))
theorem CI{l:List Nat}(h:∀d∈l,d<=9)(hl:32<=l.length):iH (l.take 32)=iH l:=by
 have ht:(l.take 32).length=32:=by simp; omega
 have hd:(l.drop 32).length=l.length-32:=by simp
 have e:db l=db (l.take 32)*10 ^ (l.length-32)+db (l.drop 32):=by
  rw[<- hd,<- jS,List.take_append_drop]
 have hlt:=mN (l:=l.drop 32) fun d hd=>h d (List.mem_of_mem_drop hd)
 rw[hd]at hlt
 have e2:(10:Nat) ^ l.length=10 ^ (l.length-32)*10 ^ 32:=by rw[<- Nat.pow_add]; congr 1; omega
 unfold iH
 rw[ht,e,e2]
 generalize db (l.take 32)=A
 generalize db (l.drop 32)=B at *
 generalize hp:(10:Nat) ^ (l.length-32)=p at *
 have hpp:0<p:=by rw[<- hp]; exact Nat.pos_of_ne_zero (by simp)
 rw[<- Nat.div_div_eq_div_mul,Nat.mul_add,<- Nat.mul_assoc,Nat.mul_comm (2 ^ 32*A) p,Nat.mul_add_div hpp]
 have hc:2 ^ 32*B / p<2 ^ 32:=(Nat.div_lt_iff_lt_mul hpp).2 (Nat.mul_lt_mul_of_pos_left hlt dD)
 generalize 2 ^ 32*B / p=c at hc
 have e3:(10:Nat) ^ 32=2 ^ 32*5 ^ 32:=by decide
 rw[e3,<- Nat.div_div_eq_div_mul,<- Nat.div_div_eq_div_mul,Nat.mul_add_div dD,Nat.div_eq_of_lt hc,Nat.add_zero,Nat.mul_div_cancel_left _ dD]
open Go.Abs Go.Abs.S
abbrev KN(c:UInt8):aa:=.int .u8 (c.toNat:Int)
def Di(N:fq)(g:Nat)(p:UInt8->Bool):Prop:=∀(c:UInt8) (H:ab),an Tryd.prog N g [KN c] H fun v H'=>v=.bool (p c)/\H=H'
theorem gQ(hN:aB.is 42=false):Di aB 42 dig:=by
 intro c H
 refine ak hN MW rfl ?_
 by_cases h1:(48:Int)<=(c.toNat:Int)
 ·by_cases h2:(c.toNat:Int)<=57
  ·simp only[Mh,sA,sB,seval,h1,h2]
   exact⟨by simp[dig]; omega,by trivial⟩
  ·simp only[Mh,sA,sB,seval,h1,h2]
   exact⟨by simp[dig]; omega,by trivial⟩
 ·simp only[Mh,sA,sB,seval,h1]
  exact⟨by simp[dig]; omega,by trivial⟩
theorem o9(hN:aB.is 45=false):Di aB 45 beg:=by
 intro c H
 refine ak hN MT rfl ?_
 have e:beg c=(((decide ((97:Int)<=c.toNat)&&decide ((c.toNat:Int)<=122))||(decide ((65:Int)<=c.toNat)&&decide ((c.toNat:Int)<=90)))||decide ((c.toNat:Int)=95)):=by
  rw[Bool.eq_iff_iff]; simp[beg]; omega
 rw[e]
 by_cases h1:(97:Int)<=(c.toNat:Int) <;> by_cases h2:(c.toNat:Int)<=122 <;> by_cases h3:(65:Int)<=(c.toNat:Int) <;> by_cases h4:(c.toNat:Int)<=90 <;> by_cases h5:(c.toNat:Int)=95
 all_goals first
  | (exfalso; omega)
  | (simp only [c45, sA, sB, seval, h1, h2, h3, h4, h5]
     exact ⟨by simp, by trivial⟩)
theorem zR(hN:aB.is 57=false):Di aB 57 blk:=by
 intro c H
 refine ak hN MH rfl ?_
 have e:blk c=(((decide ((c.toNat:Int)=9)||decide ((c.toNat:Int)=10))||decide ((c.toNat:Int)=13))||decide ((c.toNat:Int)=32)):=by
  rw[Bool.eq_iff_iff]; simp[blk]; omega
 rw[e]
 by_cases h1:(c.toNat:Int)=9 <;> by_cases h2:(c.toNat:Int)=10 <;> by_cases h3:(c.toNat:Int)=13 <;> by_cases h4:(c.toNat:Int)=32
 all_goals first
  | (exfalso; omega)
  | (simp only [c57, sA, sB, seval, h1, h2, h3, h4]
     exact ⟨by simp, by trivial⟩)
theorem yN(hN:aB.is 58=false):Di aB 58 wI:=by
 intro c H
 refine ak hN MG rfl ?_
 have e:wI c=!decide ((c.toNat:Int)=10):=by
  rw[Bool.eq_iff_iff]; simp[wI]; omega
 rw[e]
 by_cases h1:(c.toNat:Int)=10
 all_goals
  simp only[c58,sA,sB,seval,h1]
  exact⟨by trivial,by trivial⟩
theorem Cw(hN:aB.is 47=false)(h24:aB.is 45=false)(h22:aB.is 42=false):Di aB 47 iM:=by
 intro c H
 refine ak hN MR rfl ?_
 simp only[c47,sA,sB,seval]
 refine (o9 h24 c H).mono ?_
 rintro v _ ⟨rfl,rfl⟩
 cases hb:beg c with
 | true=>
  simp only[sA,sB,seval]
  exact⟨by simp[iM,hb],by trivial⟩
 | false=>
  simp only[sA,sB,seval]
  refine (gQ h22 c H).mono ?_
  rintro v _ ⟨rfl,rfl⟩
  cases hd:dig c with
  | true=>simp only[sA,sB,seval]; exact⟨by simp[iM,hb,hd],by trivial⟩
  | false=>simp only[sA,sB,seval]; exact⟨by simp[iM,hb,hd],by trivial⟩
theorem jW(hN:aB.is 46=false){g:Nat}{p:UInt8->Bool}(hp:Di aB g p){H:ab}{s:Bs}{i:Nat}(hi:i<=s.length)(hs:s.length<=4611686018427387904)(hg:g<1024:=by decide) :
  an Tryd.prog aB 46 [.str s,.int .i64 (i:Int),.func (.func g) [] []] H fun v H'=>v=.int .i64 (bg p s i:Int)/\H=H':=by
 refine ak hN MS rfl ?_
 simp only[c46,hg,sA,sB,seval]
 refine bD (fun q (T:bU) H'=>∃j:Nat,j<=s.length/\q=s.length-j/\T 0=.str s/\T 1=.int .i64 (j:Int)/\T 2=.func (.func g) [] []/\bg p s i=bg p s j/\H=H') (s.length-i) ⟨i,hi,rfl,rfl,rfl,rfl,rfl,rfl⟩ ?_
 rintro q T _ ⟨j,hj,rfl,g0,g1,g2,hA,rfl⟩
 by_cases hlt:j<s.length
 ·have hlt':(j:Int)<(s.length:Int):=om
  obtain⟨c,hc⟩:=bS hlt
  simp only[sA,sB,seval,hg,g0,g1,g2,hlt',cW hc]
  refine (hp c H).mono ?_
  rintro v _ ⟨rfl,rfl⟩
  cases hb:p c with
  | true=>
   simp only[sA,sB,seval,hg,g0,g1,g2,lK j om]
   exact⟨_,om,j+1,om,rfl,by trivial,rfl,by trivial,by rw[hA,kQ hc hb],by trivial⟩
  | false=>
   simp only[sA,sB,seval,hg,g0,g1,g2]
   exact⟨by rw[hA,AA hc hb],by trivial⟩
 ·have hlt':¬(j:Int)<(s.length:Int):=om
  simp only[sA,sB,seval,hg,g0,g1,g2,hlt']
  exact⟨by rw[hA,Ei om],by trivial⟩
theorem Ch(h20:aB.is 40=false)(h25:aB.is 46=false)(h45:aB.is 57=false)(h46:aB.is 58=false){H:ab}{s:Bs}{i:Nat}(hi:i<=s.length)(hs:s.length<=4611686018427387904) :
  an Tryd.prog aB 40 [.str s,.int .i64 (i:Int)] H fun v H'=>v=.int .i64 (a6 s i:Int)/\H=H':=by
 refine ak h20 MY rfl ?_
 simp only[c40,sA,sB,seval]
 refine bD (fun q (T:bU) H'=>∃j:Nat,j<=s.length/\q=s.length-j/\T 0=.str s/\T 1=.int .i64 (j:Int)/\a6 s i=a6 s j/\H=H') (s.length-i) ⟨i,hi,rfl,rfl,rfl,rfl,rfl⟩ ?_
 rintro q T _ ⟨j,hj,rfl,g0,g1,hA,rfl⟩
 simp only[sA,sB,seval,g0,g1]
 refine (jW h25 (zR h45) hj hs).mono ?_
 rintro v _ ⟨rfl,rfl⟩
 have h1:=gu blk s j
 have h2:=ie (p:=blk) hj
 rw[<- DV s j]at hA
 have hout:∀c,s[bg blk s j]?=some c->blk c=false:=fun c=>wh
 generalize bg blk s j=e at *
 by_cases he:e=s.length
 ·have he':(e:Int)=(s.length:Int):=om
  simp only[sA,sB,seval,g0,g1,he']
  exact⟨by rw[hA,vY he.symm,he],by trivial⟩
 have he':¬(e:Int)=(s.length:Int):=om
 obtain⟨c,hc⟩:=bS (l:=s) (i:=e) om
 by_cases h35:(c.toNat:Int)=35
 ·simp only[sA,sB,seval,g0,g1,he',cW hc,h35]
  refine (jW h25 (yN h46) h2 hs).mono ?_
  rintro v _ ⟨rfl,rfl⟩
  have h3:=ie (p:=wI) h2
  have hn:wI c=true:=by simp[wI]; omega
  have h4:e<bg wI s e:=by rw[kQ hc hn]; have:=gu wI s (e+1); omega
  simp only[sA,sB,seval,g0,g1]
  exact⟨_,om,bg wI s e,h3,rfl,by trivial,by trivial,by rw[hA,vX hc om],by trivial⟩
 ·simp only[sA,sB,seval,g0,g1,he',cW hc,h35]
  exact⟨by rw[hA,og hc (hout c hc) om],by trivial⟩
theorem nu(h23:aB.is 43=false)(h25:aB.is 46=false)(h22:aB.is 42=false){H:ab}{s:Bs}{i:Nat}(hi:i<=s.length)(hs:s.length<=4611686018427387904) :
  an Tryd.prog aB 43 [.str s,.int .i64 (i:Int)] H fun v H'=>v=.int .i64 (ep s i:Int)/\H=H':=by
 refine ak h23 MV rfl ?_
 simp only[c43,sA,sB,seval]
 refine (jW h25 (gQ h22) hi hs).mono ?_
 rintro v _ ⟨rfl,rfl⟩
 have h1:=gu dig s i
 have h2:=ie (p:=dig) hi
 unfold ep
 generalize bg dig s i=e at *
 by_cases he:(e:Int)=(i:Int)
 ·obtain rfl:e=i:=om
  simp only[sA,sB,seval]
  exact⟨by rw[if_pos (.inl (by trivial))],by trivial⟩
 by_cases hl:(e:Int)=(s.length:Int)
 ·obtain rfl:e=s.length:=om
  have hn:s[s.length]?=none:=Oi om
  simp only[sA,sB,seval,he]
  exact⟨by rw[if_pos (.inr (by rw[hn]; simp))],by trivial⟩
 obtain⟨c,hc⟩:=bS (l:=s) (i:=e) om
 by_cases h46:(c.toNat:Int)=46
 ·have hc46:s[e]?=some 46:=by
   rw[hc]; congr 1; exact UInt8.toNat_inj.1 (by simpa using (show c.toNat=46 by omega))
  have hcond:¬(e=i∨s[e]?≠some 46):=by
   rintro (h | h)
   ·omega
   ·exact h hc46
  rw[if_neg hcond]
  simp only[sA,sB,seval,he,hl,cW hc,h46,lK e om]
  refine (jW h25 (gQ h22) (i:=e+1) om hs).mono ?_
  rintro v _ ⟨rfl,rfl⟩
  by_cases hm:((e+1:Nat):Int)<(bg dig s (e+1):Int)
  ·simp only[sA,sB,seval,lK e om,hm]
   exact⟨by rw[if_pos om],by trivial⟩
  ·simp only[sA,sB,seval,lK e om,hm]
   exact⟨by rw[if_neg om],by trivial⟩
 ·have hcond:e=i∨s[e]?≠some 46:=by
   right
   rw[hc]
   intro h
   simp only[sJ]at h
   subst h
   exact h46 rfl
  rw[if_pos hcond]
  simp only[sA,sB,seval,he,hl,cW hc,h46]
  exact⟨by trivial,by trivial⟩
open Go.Abs Go.Abs.S
def iI(s:Bs):List Nat:=s.map dv
theorem vj{s:Bs}(h:∀c∈s,dig c=true):∀d∈iI s,d<=9:=by
 intro d hd
 obtain⟨c,hc,rfl⟩:=List.mem_map.1 hd
 have:=h c hc
 simp[dig]at this
 unfold dv; omega
def AL(s:Bs)(i:Nat):List Nat:=iI (s.take i)++List.replicate (32-i) 0
theorem AK(s:Bs){i:Nat}(h:i<=s.length)(h2:i<=32):(AL s i).length=32:=by
 simp[AL,iI]; omega
theorem HR(s:Bs){i:Nat}{c:UInt8}(hc:s[i]?=some c)(h2:i<32):(AL s i).set i (dv c)=AL s (i+1):=by
 have hlt:=(N2.1 hc).1
 have hl:(iI (s.take i)).length=i:=by simp[iI]; omega
 unfold AL
 rw[List.set_append_right _ _ om,hl,Nat.sub_self,show 32-i=(32-(i+1))+1 by omega,List.replicate_succ,List.set_cons_zero]
 rw[List.take_add_one,hc]
 simp[iI]
theorem Eu(s:Bs)(h:∀c∈s,dig c=true):iH (AL s (min s.length 32))=iH (iI s):=by
 by_cases hl:s.length<=32
 ·rw[Nat.min_eq_left hl,AL,List.take_length,Fu]
 ·rw[Nat.min_eq_right om]
  have e:AL s 32=(iI s).take 32:=by simp[AL,iI,List.map_take]
  rw[e,CI (vj h) (by simp[iI]; omega)]
def po(l:List Nat)(m:Nat):List Nat:=l.take m++(kx (l.drop m)).2
theorem Fq(l:List Nat):po l l.length=l:=by simp[po,kx]
theorem CH(l:List Nat):po l 0=(kx l).2:=by simp[po]
theorem wP(l:List Nat)(m:Nat):(po l m).length=l.length:=by
 simp[po,pD]; omega
theorem Fo{l:List Nat}{m d:Nat}(h:l[m]?=some d):(po l (m+1))[m]?=some d:=by
 have hlt:=(N2.1 h).1
 rw[po,Og (by simp; omega),List.getElem?_take_of_lt om,h]
theorem Bi{l:List Nat}{m d:Nat}(h:l[m]?=some d):l.drop m=d::l.drop (m+1):=by
 have hlt:=(N2.1 h).1
 rw[List.drop_eq_getElem_cons hlt]
 congr 1
 rw[N1 hlt]at h
 simpa using h
theorem Fm{l:List Nat}{m d:Nat}(h:l[m]?=some d):(po l (m+1)).set m ((d*2+(kx (l.drop (m+1))).1) % 10)=po l m:=by
 have hlt:=(N2.1 h).1
 unfold po
 rw[Bi h,kx]
 rw[List.set_append_left _ _ (by simp; omega)]
 rw[List.take_add_one,h,Option.toList_some,List.set_append_right _ _ (by simp; omega),Oe]
 congr 1
 have:m-(l.take m).length=0:=by simp; omega
 rw[this]; rfl
theorem Cr(h35:aB.is 63=false){H:ab}{s:Bs}(hd:∀c∈s,dig c=true)(hs:s.length<=4611686018427387904) :
  an Tryd.prog aB 63 [.str s] H fun v H'=>v=.int .i64 (iH (iI s):Int)/\b7 H.next H H':=by
 refine ak h35 MD rfl ?_
 obtain⟨H1,m1,r1,n1,k1⟩:=aG H (nV (List.replicate 32 0)) (n:=32) rfl
 have hz:nV (List.replicate 32 0)=[.int .u8 0,.int .u8 0,.int .u8 0,.int .u8 0,.int .u8 0,.int .u8 0,.int .u8 0,.int .u8 0,.int .u8 0,.int .u8 0,.int .u8 0,.int .u8 0,.int .u8 0,.int .u8 0,.int .u8 0,.int .u8 0,.int .u8 0,.int .u8 0,.int .u8 0,.int .u8 0,.int .u8 0,.int .u8 0,.int .u8 0,.int .u8 0,.int .u8 0,.int .u8 0,.int .u8 0,.int .u8 0,.int .u8 0,.int .u8 0,.int .u8 0,.int .u8 0]:=rfl
 rw[hz]at m1
 have hmin:(if (32:Int)<(s.length:Int) then (32:Int) else (s.length:Int))=((min s.length 32:Nat):Int):=by
  split <;> omega
 simp only[c63,sA,sB,seval,m1,hmin]
 have p0:AL s 0=List.replicate 32 0:=by simp[AL,iI]
 rw[<- p0]at r1
 generalize hb:H.next=b at *
 refine bD (fun q (T:bU) H'=>∃i:Nat,i<=min s.length 32/\q=min s.length 32-i/\T 0=.str s/\T 3=af b 32 0/\T 11=.int .i64 ((min s.length 32:Nat):Int)/\T 12=.int .i64 (i:Int)/\bc H' b (nV (AL s i))/\H'.next=b+1/\∀c,c<b->H'.get c=H.get c) (min s.length 32)
  ⟨0,Nat.zero_le _,rfl,rfl,by simp only[sA,sB,seval],by simp only[sA,sB,seval],by simp only[sA,sB,seval]; try rfl,r1,om,fun c hc=>k1 c om⟩ ?_
 clear m1 r1 k1 n1 H1
 rintro q T H1 ⟨i,hi,rfl,g0,g3,g11,g12,r1,n1,k1⟩
 by_cases hlt:i<min s.length 32
 ·have hlt':(i:Int)<((min s.length 32:Nat):Int):=om
  obtain⟨c,hc⟩:=bS (l:=s) (i:=i) om
  have hdc:=hd c (N9 hc)
  have hdv:(c.toNat:Int)-48=((dv c:Nat):Int):=by simp[dig]at hdc; unfold dv; omega
  have hd9:dv c<=9:=by simp[dig]at hdc; unfold dv; omega
  have hw:IntKind.u8.wrap ((dv c:Nat):Int)=((dv c:Nat):Int):=gi om om
  have ia:=vx (b:=b) (n:=32) (i:=i) om .i64
  obtain⟨H2,m2,r2,n2,k2⟩:=bM r1 (n:=32) (by rw[jp,AK s om om]) (i:=i) om (x:=.int .u8 ((dv c:Nat):Int)) rfl
  simp only[sA,sB,seval,g0,g3,g11,g12,hlt',cW hc,hdv,hw,ia,m2,lK i om]
  refine⟨_,om,i+1,om,rfl,by trivial,by trivial,by trivial,rfl,?_,om,fun c hc=>(k2 c om).trans (k1 c hc)⟩
  rw[<- HR s hc om,mO]
  exact r2
 obtain rfl:i=min s.length 32:=om
 simp only[sA,sB,seval,g0,g3,g11,g12,Int.lt_irrefl]
 have hl:=AK s (i:=min s.length 32) om om
 have hp9:∀d∈AL s (min s.length 32),d<=9:=by
  intro d hdm
  rcases List.mem_append.1 hdm with h | h
  ·exact vj (s:=s.take (min s.length 32)) (fun c hc=>hd c (List.mem_of_mem_take hc)) d h
  ·have:=(List.mem_replicate.1 h).2; omega
 rw[<- Eu s hd]
 generalize AL s (min s.length 32)=l at *
 refine bD (fun q (T:bU) H'=>∃k:Nat,k<=32/\q=32-k/\T 3=af b 32 0/\T 5=.int .i64 ((bits l 0 k).1:Int)/\T 22=.int .i64 (k:Int)/\bc H' b (nV (bits l 0 k).2)/\H'.next=b+1/\∀c,c<b->H'.get c=H.get c) 32
  ⟨0,Nat.zero_le _,rfl,by simp only[sA,sB,seval,g3],by simp only[sA,sB,seval]; try rfl,by simp only[sA,sB,seval]; try rfl,r1,n1,k1⟩ ?_
 clear g0 g3 g11 g12 r1 n1 k1 T H1
 rintro q T H1 ⟨k,hk,rfl,g3,g5,g22,r1,n1,k1⟩
 by_cases hlt:k<32
 ·have hlt':(k:Int)<32:=om
  have hb9:=xy hp9 0 k
  have hbl:=nL l 0 k
  rw[hl]at hbl
  have hbv:(bits l 0 k).1<2 ^ 32:=by
   have h1:=rB l 0 k
   have h2:=mN hp9
   rw[Nat.zero_mul,Nat.zero_add,hl]at h1
   rw[hl]at h2
   have h3:2 ^ k<=2 ^ 32:=Nat.pow_le_pow_right om hk
   have h4:(bits l 0 k).1*10 ^ 32<2 ^ 32*10 ^ 32:=by
    calc (bits l 0 k).1*10 ^ 32<=2 ^ k*db l:=om
     _<=2 ^ 32*db l:=Nat.mul_le_mul_right _ h3
     _<2 ^ 32*10 ^ 32:=Nat.mul_lt_mul_of_pos_left h2 dD
   exact Nat.lt_of_mul_lt_mul_right h4
  simp only[sA,sB,seval,g3,g5,g22,hlt']
  have hbits:bits l 0 (k+1)=(2*(bits l 0 k).1+(kx (bits l 0 k).2).1,(kx (bits l 0 k).2).2):=rfl
  generalize hm:(bits l 0 k).2=m at *
  generalize hout:(bits l 0 k).1=out at *
  have hov:=qY hb9
  refine bD (fun q (T:bU) H'=>∃j:Nat,j<=32/\j=q/\T 3=af b 32 0/\T 5=.int .i64 (out:Int)/\T 22=.int .i64 (k:Int)/\T 6=.int .u8 ((kx (m.drop j)).1:Int)/\T 7=.int .i64 ((j:Int)-1)/\bc H' b (nV (po m j))/\H'.next=b+1/\∀c,c<b->H'.get c=H.get c) 32
   ⟨32,om,rfl,by simp only[sA,sB,seval,g3],by simp only[sA,sB,seval,g5],by simp only[sA,sB,seval,g22],by simp only[sA,sB,seval]; rw[List.drop_eq_nil_of_le om]; rfl,by simp only[sA,sB,seval]; try rfl,by rw[<- hbl,Fq]; exact r1,n1,k1⟩ ?_
  clear g3 g5 g22 r1 n1 k1 T H1
  rintro q T H1 ⟨j,hj,rfl,g3,g5,g22,g6,g7,r1,n1,k1⟩
  cases j with
  | zero=>
   have c0:¬(0:Int)<=((0:Nat):Int)-1:=om
   rw[List.drop_zero]at g6
   rw[CH]at r1
   have hsh:out*2 ^ 1<2 ^ 63:=om
   have e1:=xA (k':=.u64) (a:=out) (b:=1) om hsh
   have e2:=Bx (a:=out*2 ^ 1) (b:=(kx m).1) hsh om
   rw[Ev 1 out om]at e2
   have hw:IntKind.i64.wrap ((kx m).1:Int)=((kx m).1:Int):=bw om om
   simp only[Int.cast_ofNat_Int]at e1
   simp only[sA,sB,seval,g3,g5,g22,g6,g7,c0,e1,e2,hw,lK k om]
   refine⟨_,om,k+1,om,rfl,by trivial,?_,rfl,?_,n1,k1⟩
   ·rw[hbits]; simp only; congr 2; omega
   ·rw[hbits]; exact r1
  | succ j=>
   have c0:(0:Int)<=((j+1:Nat):Int)-1:=om
   have ej:((j+1:Nat):Int)-1=(j:Int):=om
   rw[ej]at g7 c0
   obtain⟨d,hdd⟩:=bS (l:=m) (i:=j) om
   have hd9:=hb9 d (N9 hdd)
   have ho:=qY (l:=m.drop (j+1)) fun x hx=>hb9 x (List.mem_of_mem_drop hx)
   have hset:=Fm hdd
   have hdr:kx (m.drop j)=((d*2+(kx (m.drop (j+1))).1) / 10,(d*2+(kx (m.drop (j+1))).1) % 10::(kx (m.drop (j+1))).2):=by rw[Bi hdd]; rfl
   generalize (kx (m.drop (j+1))).1=o at *
   have ia:=vx (b:=b) (n:=32) (i:=j) om .i64
   have l1:=al r1 (n:=32) (by rw[jp,wP,hbl]) (Ht (Fo hdd))
   have w1:IntKind.u8.wrap ((d:Int)*2)=((d*2:Nat):Int):=by rw[gi om om]; omega
   have w2:IntKind.u8.wrap (((d*2:Nat):Int)+(o:Int))=((d*2+o:Nat):Int):=by rw[gi om om]; omega
   have e3:cB .rem (.int .u8 ((d*2+o:Nat):Int)) (.int .u8 10)=some (.int .u8 (((d*2+o) % 10:Nat):Int)):=by
    rw[vu _ _ _ om]; rfl
   have e4:cB .quo (.int .u8 ((d*2+o:Nat):Int)) (.int .u8 10)=some (.int .u8 (((d*2+o) / 10:Nat):Int)):=by
    rw[vw _ _ _ om]
    have:((d*2+o:Nat):Int).tdiv 10=(((d*2+o) / 10:Nat):Int):=rfl
    rw[this,gi om om]
   obtain⟨H2,m2,r2,n2,k2⟩:=bM r1 (n:=32) (by rw[jp,wP,hbl]) (i:=j) om (x:=.int .u8 (((d*2+o) % 10:Nat):Int)) rfl
   have hwj:IntKind.i64.wrap ((j:Int)-1)=(j:Int)-1:=bw om om
   simp only[sA,sB,seval,g3,g5,g22,g6,g7,c0,ia,l1,w1,w2,e3,e4,m2,hwj]
   refine⟨_,Nat.lt_succ_self j,j,om,rfl,by trivial,by trivial,by trivial,by rw[hdr],by trivial,?_,om,fun c hc=>(k2 c om).trans (k1 c hc)⟩
   rw[<- hset,mO]
   exact r2
 obtain rfl:k=32:=om
 have hlast:=C4 hp9 0
 rw[Nat.mul_zero,Nat.zero_add]at hlast
 rw[hlast]at g5
 simp only[sA,sB,seval,g3,g5,g22,Int.cast_ofNat_Int,Int.lt_irrefl]
 exact⟨by trivial,⟨om,fun c hc=>k1 c om⟩⟩
end Go.Proofs.Wo
